/- Walks: the law DrumOnly. -/
import Derived.Test.YtjnijhnphhpilaaLd
import Derived.Test.YtjnijhnphhpilaaNp
import Derived.Test.YtjnijhnphhpilaaOp
import Derived.Test.YtjnijhnphhpilaaApf
namespace Go.Proofs.Ytjnijhnphhpilaa
open Go.RowKit Go.Shelf

/-- a drum of the call's own in block g, its lists anywhere -/
structure OwnD (w0 : World) (n : Nat) (fs gs : List Int) (g : Nat) (w' : World) : Prop where
  d : ∃ a1 c1 a2 c2, w'.cell? ⟨g, 0, none⟩ = some (.slice a1 n c1) ∧ w'.cell? ⟨g, 1, none⟩ = some (.slice a2 n c2) ∧ IntsAt w' a1 fs ∧ IntsAt w' a2 gs
  below : Below w0.heap.size w0 w'

theorem IntsAt.setOther {w : World} {a : Option Addr} {xs : List Int} {g k : Nat} {t : TypeId} {vs : Array Value} (h : IntsAt w a xs) (hg : w.heap[g]? = some (.cells vs t (0, 0))) (hv : ∀ (j : Nat) (u : Int), vs[j]? ≠ some (Value.int .i64 u)) (v : Value) : IntsAt (w.setCell ⟨g, k, none⟩ v) a xs := by
  rcases h with rfl | ⟨b, off, rfl, h⟩
  · exact .inl rfl
  · refine .inr ⟨b, off, rfl, fun j hj => ?_⟩
    have hc := h j hj
    have hne : b ≠ g := fun e => by
      subst e
      rw [cell_of_row _ _ _ _ _ _ hg] at hc
      exact hv _ _ hc
    exact ((setCell_only g k v).cell hc hne)

theorem sl2 (x y : Value) (hx : ∀ u, x ≠ Value.int .i64 u) (hy : ∀ u, y ≠ Value.int .i64 u) : ∀ (j : Nat) (u : Int), (#[x, y] : Array Value)[j]? ≠ some (Value.int .i64 u) := by
  intro j u h
  match j, h with
  | 0, h => simp at h; exact hx u h
  | 1, h => simp at h; exact hy u h
  | j + 2, h => simp at h

theorem OwnD.set {w0 w : World} {n g c1 c2 : Nat} {a1 a2 : Option Addr} {fs gs : List Int} (hz : w.heap[g]? = some (.cells #[.slice none 0 0, .slice none 0 0] 24 (0, 0))) (h1 : IntsAt w a1 fs) (h2 : IntsAt w a2 gs) (hB : Below w0.heap.size w0 w) (hg : w0.heap.size ≤ g) :
    OwnD w0 n fs gs g ((w.setCell ⟨g, 0, none⟩ (.slice a1 n c1)).setCell ⟨g, 1, none⟩ (.slice a2 n c2)) := by
  have hz1 := heap_setCell_same w g 0 _ 24 (.slice a1 n c1) hz
  have e1 := IntsAt.setOther h1 (k := 0) hz (sl2 _ _ (fun _ h => by cases h) (fun _ h => by cases h)) (.slice a1 n c1)
  have e2 := IntsAt.setOther h2 (k := 0) hz (sl2 _ _ (fun _ h => by cases h) (fun _ h => by cases h)) (.slice a1 n c1)
  have hh := set24 hz (.slice a1 n c1) (.slice a2 n c2)
  have f1 := IntsAt.setOther e1 (k := 1) hz1 (sl2 _ _ (fun _ h => by cases h) (fun _ h => by cases h)) (.slice a2 n c2)
  have f2 := IntsAt.setOther e2 (k := 1) hz1 (sl2 _ _ (fun _ h => by cases h) (fun _ h => by cases h)) (.slice a2 n c2)
  exact ⟨⟨a1, c1, a2, c2, by rw [cell_of_row _ _ _ _ _ _ hh]; rfl, by rw [cell_of_row _ _ _ _ _ _ hh]; rfl, f1, f2⟩, (hB.setCell hg _).setCell hg _⟩

theorem OwnD.new {w0 w : World} {n c1 c2 : Nat} {a1 a2 : Option Addr} {fs gs : List Int} (h1 : IntsAt w a1 fs) (h2 : IntsAt w a2 gs) (hB : Below w0.heap.size w0 w) :
    OwnD w0 n fs gs w.heap.size (w.alloc (.cells #[.slice a1 n c1, .slice a2 n c2] 24)) := by
  have hh := heap_alloc_new w (.cells #[.slice a1 n c1, .slice a2 n c2] 24)
  exact ⟨⟨a1, c1, a2, c2, by rw [cell_of_row _ _ _ _ _ _ hh]; rfl, by rw [cell_of_row _ _ _ _ _ _ hh]; rfl, h1.mono (bnew w _), h2.mono (bnew w _)⟩, hB.alloc hB.size _⟩

theorem undrew {X W : World} (h : Below X.drew.heap.size X.drew W) : Below X.heap.size X W := ((Below.refl _ X).drew).trans h

theorem za {X : World} {g : Nat} {o : Obj} (h : X.heap[g]? = some o) (o2 : Obj) : (X.alloc o2).heap[g]? = some o := (heap_alloc_old X o2 (Array.getElem?_eq_some_iff.1 h).1).trans h

/-- what Bits leaves, said for the walk -/
def BitsP (w0 X : World) (n : Nat) (xs : List Int) (e : Ending) (W : World) : Prop :=
  ∃ ao cap, e = .returned (.slice ao n cap) ∧ IntsAt W ao xs ∧ Below w0.heap.size w0 W ∧ Below X.heap.size X W ∧ (∀ k, k < X.heap.size → k < W.heap.size) ∧ (∀ k, k < X.heap.size → ¬ k = W.heap.size) ∧ (∀ k, k < X.heap.size → ¬ W.heap.size = k) ∧ (∀ k, k < X.heap.size → k ≤ W.heap.size) ∧ (∀ k, k < X.heap.size → k < W.heap.size + 1) ∧
    (∀ b o, b < X.heap.size → W.cell? ⟨b, o, none⟩ = X.cell? ⟨b, o, none⟩) ∧ (∀ b o, b < X.heap.size → W.frozen? ⟨b, o, none⟩ = X.frozen? ⟨b, o, none⟩)

theorem BitsP.of {w0 X : World} {n : Nat} {xs : List Int} (hn : xs.length = n) (hB : Below w0.heap.size w0 X) {e : Ending} {W : World} (h : OwnP X xs e W)   : BitsP w0 X n xs e W := by
  subst hn
  obtain ⟨ao, cap, rfl, h1, _, h2⟩ := h
  have := h2.size
  exact ⟨ao, cap, rfl, h1, bstep hB h2, h2, fun k hk => by omega, fun k hk => by omega, fun k hk => by omega, fun k hk => by omega, fun k hk => by omega, (bcell h2).1, (bcell h2).2⟩

set_option maxRecDepth 100000 in
set_option maxHeartbeats 4000000 in
theorem only_law (a : Option Addr) (cap : Nat) (xs : List Int) (bs : Nat) (w : World) (hx : IntsAt w a xs) (hn : a = none → cap = 0) (hcap : xs.length ≤ cap) (hbs : lt64 bs) :
    Calls Try.prog 8 #[.slice a xs.length cap, .int .u64 bs] w (TrueP w) := by
  have Hx := hid hx; have Hnil := hid (nilLen hx hn); have Hbs := hid hbs
  have HF := hid (fine_c a cap xs w hx)
  clear hx hn hbs
  by_cases hv : checkRow xs = 0
  · rw [show (checkRow xs == 0) = true from by simp [hv]] at HF
    have hxl := (checkRow_zero hv).1
    have hpn := pl_le hv
    have Hv := hid hv
    obtain ⟨n, hn⟩ : ∃ n, n = pl xs := ⟨_, rfl⟩
    have Hn' := hid hn
    have hner : nextErr xs 5 = if xs.length < 2 * pl xs then 25 else 0 := next_err hv (m := 5) (by omega)
    have Hner := hid hner
    have hcr : countR xs = ((2 ^ (2 * n - xs.length) : Nat) : Int) := by unfold countR; rw [if_pos hv, hn]; rfl
    have Hcr := hid hcr
    rw [← hn] at hpn Hner
    clear hv hn hcr hner
    by_cases h2 : xs.length < 2 * n
    case' pos => rw [if_pos h2] at Hner
    case' neg => rw [if_neg h2] at Hner
    all_goals
      go_enter Try.func8, Try.ntmps8
      go_wp2_with fail
      refine HF.out.mono ?_
      rintro e wx ⟨rfl, rfl⟩
      go_wp2_with fail
      refine (placesL_c a cap xs w Hx.out Hv.out).mono ?_
      rw [show (rdAll xs).places = n from Hn'.out.symm]
      rintro e w1 ⟨rfl, hB⟩
      have HB1 := hid hB
      have hx1 := Hx.out.mono hB
      have HI1 := hid ((Inv.nil w1).add hx1)
      clear hB hx1 HF
      go_wp2_with fail
      refine (count_c a cap xs w1 (HI1.out.atI (a := a) (xs := xs) 0 rfl) (by omega)).mono ?_
      rw [Hv.out, Hcr.out]
      rintro e w2 ⟨rfl, hB⟩
      have HI2 := hid (HI1.out.step hB); have HB2 := hid (bstep HB1.out hB)
      clear hB HI1 HB1
      go_wp2_with fail
      refine (k_short (HI2.out.atI (a := a) (xs := xs) 0 rfl) Hv.out).mono ?_
      rw [← Hn'.out]
      rintro e w3 ⟨s1, s2, d1, d2, rfl, hs1, hs2, hB⟩
      have HI3 := hid (((HI2.out.step hB).add hs1).add hs2); have HB3 := hid (bstep HB2.out hB)
      clear hB HI2 HB2 hs1 hs2
      have HI4 := hid (inv1 HI3.out (.slice s1 n d1) (.slice s2 n d2)); have HB4 := hid (bstep HB3.out (bnew w3 (.cells #[.slice s1 n d1, .slice s2 n d2] 24)))
      clear HI3 HB3
      go_wp2_with fail
      generalize hWW : w3.alloc (.cells #[.slice s1 n d1, .slice s2 n d2] 24) = w4 at HI4 HB4 ⊢
      obtain ⟨bx, hbx⟩ : ∃ b, b = w3.heap.size := ⟨_, rfl⟩
      rw [← hbx] at HI4 ⊢
      clear hWW hbx
      refine (next_c a cap xs 5 w4 (HI4.out.atI (a := a) (xs := xs) 2 rfl) (by omega)).mono ?_
      rw [Hner.out]
      rintro e w5 ⟨_, rfl, ⟨al, cl, rfl, hl, hln⟩, hB⟩
      have HI5 := hid ((HI4.out.step hB).add hl); have HB5 := hid (bstep HB4.out hB)
      clear hB HI4 HB4 hl hln
      have cs0 := HI5.out.ceI (b := bx) (k := 0) (v := .slice s1 n d1) 0 rfl
      have cs1 := HI5.out.ceI (b := bx) (k := 1) (v := .slice s2 n d2) 1 rfl
    · have hone : ((2 ^ (2 * n - xs.length) : Nat) : Int) = 1 := by rw [show 2 * n - xs.length = 0 from by omega]; rfl
      have HBits := hid fun (w' : World) (hb : Below w5.heap.size w5 w') => (bits_c n bs w' (by omega) Hbs.out).mono (fun _ _ h => BitsP.of (bitsL_length n bs) hb h)
      have hnc : n ≤ cap := by omega
      have hncI : (n : Int) ≤ (cap : Int) := by omega
      go_upto_region 11 with (fail)
      go_cut [13] (fun s wc => ∃ g, s = .pointer (some ⟨g, 0, none⟩) ∧ OwnD w5 n (bitsL n bs) (xs.take n) g wc)
      case first =>
        go_region_held3 (fun _ => True) (trivial)
          (first
            | (go_at_call 48; (refine (HBits.out _ (by first | exact hBq0 | exact bstep hBq0 (bnew _ _) | exact Below.refl _ _ | exact bnew w5 _ | exact bstep (bnew w5 _) (bnew _ _) | exact hBq0.drew | exact (bstep hBq0 (bnew _ _)).drew | exact (Below.refl _ _).drew | exact (bnew w5 _).drew | exact (bstep (bnew w5 _) (bnew _ _)).drew)).mono ?_); rintro e wb ⟨ao, co, rfl, hob, hBb0, hBb, hszb, hneb, hneb', hleb, hleb', hceb, hfrb⟩; (first | (have hz := z24 (heap_alloc_new _ _) hBb; obtain ⟨z0, z1, z2, z3, z4⟩ := hz) | (have hz := z24 (za (heap_alloc_new _ _) _) hBb; obtain ⟨z0, z1, z2, z3, z4⟩ := hz) | (have hz := z24 z4 hBb; obtain ⟨z0, z1, z2, z3, z4⟩ := hz) | (have hz := z24 (za z4 _) hBb; obtain ⟨z0, z1, z2, z3, z4⟩ := hz) | (have hz := z24 (heap_alloc_new _ _) (undrew hBb); obtain ⟨z0, z1, z2, z3, z4⟩ := hz) | (have hz := z24 (za (heap_alloc_new _ _) _) (undrew hBb); obtain ⟨z0, z1, z2, z3, z4⟩ := hz) | (have hz := z24 z4 (undrew hBb); obtain ⟨z0, z1, z2, z3, z4⟩ := hz) | (have hz := z24 (za z4 _) (undrew hBb); obtain ⟨z0, z1, z2, z3, z4⟩ := hz) | skip))
            | (refine step_app_fullm _ (by rfl) _ _ (by rfl) _ 0 0 [] rfl (.inl rfl) rfl rfl a n cap (xs.take n) rfl (IntsAt.take (IntsAt.mono (HI5.out.atI (a := a) (xs := xs) 3 rfl) (by first | exact bnew _ _ | exact bstep (bnew _ _) (bnew _ _) | exact hBb0 | exact bstep hBb0 (bnew _ _) | exact bstep (bstep hBb0 (bnew _ _)) (bnew _ _) | exact (bnew _ _).drew | exact (bstep (bnew _ _) (bnew _ _)).drew)) n) (by rw [List.length_take]; omega) (fun h => ⟨by have := (Hnil.out h).1; omega, (Hnil.out h).2⟩) (by omega) ?_; intro aq cq wq hBq hatq hcq hszq hneq hneq' hleq hleq' hceq hfrq; have hBq0 : Below w5.heap.size w5 wq := bstep (by first | exact bnew _ _ | exact bstep (bnew _ _) (bnew _ _) | exact hBb0 | exact bstep hBb0 (bnew _ _) | exact bstep (bstep hBb0 (bnew _ _)) (bnew _ _) | exact (bnew _ _).drew | exact (bstep (bnew _ _) (bnew _ _)).drew) hBq; (first | (have hz := z24 (heap_alloc_new _ _) hBq; obtain ⟨z0, z1, z2, z3, z4⟩ := hz) | (have hz := z24 (za (heap_alloc_new _ _) _) hBq; obtain ⟨z0, z1, z2, z3, z4⟩ := hz) | (have hz := z24 z4 hBq; obtain ⟨z0, z1, z2, z3, z4⟩ := hz) | (have hz := z24 (za z4 _) hBq; obtain ⟨z0, z1, z2, z3, z4⟩ := hz) | (have hz := z24 (heap_alloc_new _ _) (undrew hBq); obtain ⟨z0, z1, z2, z3, z4⟩ := hz) | (have hz := z24 (za (heap_alloc_new _ _) _) (undrew hBq); obtain ⟨z0, z1, z2, z3, z4⟩ := hz) | (have hz := z24 z4 (undrew hBq); obtain ⟨z0, z1, z2, z3, z4⟩ := hz) | (have hz := z24 (za z4 _) (undrew hBq); obtain ⟨z0, z1, z2, z3, z4⟩ := hz) | skip)))
        all_goals (go_wp2; go_meet)
        all_goals (first
          | exact ⟨_, rfl, OwnD.new (by first | exact hob | exact hob.mono hBq | exact hob.mono (bstep (bnew _ _) hBq) | exact hob.mono (bstep (bstep (bnew _ _) (bnew _ _)) hBq)) (by first | exact hatq | exact hatq.mono (undrew hBb) | exact hatq.mono (bstep (bnew _ _) (undrew hBb))) (by first | exact hBq0 | exact hBb0)⟩
          | exact ⟨_, rfl, OwnD.set (by first | exact z4 | simpa using z4) (by first | exact hob | exact hob.mono hBq | exact hob.mono (bstep (bnew _ _) hBq) | exact hob.mono (bstep (bstep (bnew _ _) (bnew _ _)) hBq)) (by first | exact hatq | exact hatq.mono (undrew hBb) | exact hatq.mono (bstep (bnew _ _) (undrew hBb))) (by first | exact hBq0 | exact hBb0) (by first | exact Nat.le_refl _ | (have := hBb0.size; omega) | (have := hBq0.size; omega) | (simp; done))⟩)
      case rest =>
        obtain ⟨g, rfl, hown, hBc⟩ := hcut
        obtain ⟨o1, e1, o2, e2, hg0, hg1, hof, hog⟩ := hown
        have hrow := next_row Hv.out (m := 5) (by omega) (by rw [← Hn'.out]; omega)
        obtain ⟨rl1, rl2, rb1, rb2⟩ := rF_len Hv.out
        rw [← Hn'.out] at rl1 rl2
        have hdo := drum_only (f := bitsL n bs) (g := xs.take n) Hv.out (by rw [← Hn'.out]; omega) (bitsL_bits n bs) (by rw [bitsL_length, Hn'.out]) (by rw [Hn'.out])
        have HIc := hid ((HI5.out.step hBc).add hof |>.add hog)
        have HBc := hid (bstep HB5.out hBc)
        have HM := hid fun (w' : World) (hb : Below wc.heap.size wc w') => makes_c o1 o2 a e1 e2 cap (bitsL n bs) (xs.take n) xs w' (hof.mono hb) (hog.mono hb) ((HIc.out.atI (a := a) (xs := xs) 5 rfl).mono hb) (by rw [bitsL_length]; omega) (by rw [List.length_take]; omega) (by omega)
        have HS := hid fun (w' : World) (hb : Below wc.heap.size wc w') => same_c o1 o2 s1 s2 e1 e2 d1 d2 (bitsL n bs) (xs.take n) (rF xs) (rG xs) w' (hof.mono hb) (hog.mono hb) ((HIc.out.atI (a := s1) (xs := rF xs) 4 rfl).mono hb) ((HIc.out.atI (a := s2) (xs := rG xs) 3 rfl).mono hb) (by rw [bitsL_length]; omega) (by rw [List.length_take]; omega) (by rw [rl1]; omega) (by rw [rl2]; omega)
        rw [bitsL_length, show (xs.take n).length = n from by rw [List.length_take]; omega] at HM HS
        rw [rl1, rl2] at HS
        obtain ⟨mk, hmk⟩ : ∃ mk, mk = makesR (bitsL n bs) (xs.take n) xs := ⟨_, rfl⟩
        obtain ⟨d, hd⟩ : ∃ d, d = decide (bitsL n bs = rF xs ∧ xs.take n = rG xs) := ⟨_, rfl⟩
        rw [← hmk] at HM hdo
        rw [← hd] at HS
        have hl5 : ((nextR xs 5).length : Int) = 5 := by have := hrow.2; simpa using congrArg (Nat.cast (R := Int)) this
        have hone2 : (2 : Int) ^ (2 * n - xs.length) = 1 := by rw [show 2 * n - xs.length = 0 from by omega]; rfl
        have c0 := cstep cs0 hBc
        have c1 := cstep cs1 hBc
        have C0 := hid c0; have C1 := hid c1; have G0 := hid hg0; have G1 := hid hg1; have HBc0 := hid hBc
        rw [hone2]
        have hdm : (mk = 0 ∧ d = true) ∨ (¬ mk = 0 ∧ d = false) := by
          by_cases h : mk = 0
          · exact .inl ⟨h, by rw [hd]; exact decide_eq_true (hdo.1 h)⟩
          · exact .inr ⟨h, by rw [hd]; exact decide_eq_false (fun k => h (hdo.2 k))⟩
        clear hmk hd hdo hone hone2 hrow rl1 rl2 rb1 rb2 hof hog hBc cs0 cs1
        rcases hdm with ⟨rfl, rfl⟩ | ⟨hm0, rfl⟩
        case' inr => have hmb : (mk == 0) = false := by simpa using hm0
        all_goals
          go_wp2_with fail
          go_region_held3 (fun w' => w'.cell? ⟨g, 0, none⟩ = some (.slice o1 n e1) ∧ w'.cell? ⟨g, 1, none⟩ = some (.slice o2 n e2) ∧ w'.cell? ⟨bx, 0, none⟩ = some (.slice s1 n d1) ∧ w'.cell? ⟨bx, 1, none⟩ = some (.slice s2 n d2))
            (first | go_keep | exact ⟨cstep G0.out hBl, cstep G1.out hBl, cstep C0.out hBl, cstep C1.out hBl⟩)
            (first
              | (go_at_call 25; (refine (HM.out _ (by first | exact hBl | exact hBl.drew | exact Below.refl _ _ | exact (Below.refl _ _).drew)).mono ?_); rintro e wm ⟨rfl, hBm⟩; have hBl : Below wc.heap.size wc wm := by first | exact bstep hBl hBm | exact bstep hBl (undrew hBm) | exact hBm | exact undrew hBm)
              | (go_at_call 45; (refine (HS.out _ (by first | exact hBl | exact hBl.drew | exact Below.refl _ _ | exact (Below.refl _ _).drew)).mono ?_); rintro e ws ⟨rfl, hBs⟩; have hBl : Below wc.heap.size wc ws := by first | exact bstep hBl hBs | exact bstep hBl (undrew hBs) | exact hBs | exact undrew hBs)
              | (go_at_call 17; refine (works_c _).mono ?_; rintro e w6 ⟨rfl, hB6⟩; have hBl : Below wc.heap.size wc w6 := by first | exact bstep hBl hB6 | exact bstep hBl (undrew hB6) | exact hB6 | exact undrew hB6))
          go_wp2
          go_ret
          exact ⟨rfl, HBc.out.trans (hBl.mono HBc.out.size)⟩
    · have hnn := next_none Hv.out (m := 5) (by omega) (by rw [← Hn'.out]; exact h2)
      rw [show nextR xs ((5 : Nat) : Int) = nextR xs 5 from rfl] at hnn
      rw [hnn]
      have hsh : wrap64 ((2 : Int) ^ (2 * n - xs.length)) = 2 ^ (2 * n - xs.length) := wrap64_pow (by omega)
      clear hnn
      go_wp2_with fail
      refine (works_c w5).mono ?_
      rintro e w6 ⟨rfl, hB⟩
      have HB6 := hid (bstep HB5.out hB)
      clear hB
      go_wp2
      go_ret
      exact ⟨rfl, HB6.out⟩
  · rw [show (checkRow xs == 0) = false from by simp [hv]] at HF
    clear hv
    go_enter Try.func8, Try.ntmps8
    go_wp2_with fail
    refine HF.out.mono ?_
    rintro e wx ⟨rfl, rfl⟩
    go_wp2_with fail
    refine (works_c w).mono ?_
    rintro e w1 ⟨rfl, hB⟩
    have HB := hid hB
    clear hB
    go_wp2
    go_ret
    exact ⟨rfl, HB.out⟩

end Go.Proofs.Ytjnijhnphhpilaa
