/- Walks: the law DrumNext. -/
import Derived.Test.YtjnijhnphhpilaaLd
import Derived.Test.YtjnijhnphhpilaaNp
namespace Go.Proofs.Ytjnijhnphhpilaa
open Go.RowKit Go.Shelf

theorem makesM_c (a1 a2 a3 : Option Addr) (c1 c2 c3 n1 n2 n3 : Nat) (f g row : List Int) (r : Int) (w : World) (h1 : f.length = n1) (h2 : g.length = n2) (h3 : row.length = n3) (hr : makesR f g row = r) (hx : IntsAt w a1 f) (hy : IntsAt w a2 g) (hz : IntsAt w a3 row)
    (hb : n1 ≤ 1000000) (hb2 : n2 ≤ 1000000) (hb3 : n3 ≤ 1000000) :
    Calls Try.prog 25 #[.agg #[.slice a1 n1 c1, .slice a2 n2 c2], .slice a3 n3 c3] w fun e w' => e = .returned (.int .i64 r) ∧ Below w.heap.size w w' := by
  subst h1; subst h2; subst h3; subst hr
  exact makes_c a1 a2 a3 c1 c2 c3 f g row w hx hy hz hb hb2 hb3

theorem heap2_2 (w : World) (o1 o2 : Obj) : ((w.alloc o1).alloc o2).heap[w.heap.size + 1]? = some o2 := by
  have := heap_alloc_new (w.alloc o1) o2
  rw [show (w.alloc o1).heap.size = w.heap.size + 1 from by simp] at this
  exact this

theorem heap2_1 (w : World) (o1 o2 : Obj) : ((w.alloc o1).alloc o2).heap[w.heap.size]? = some o1 :=
  (heap_alloc_old (w.alloc o1) o2 (by simp)).trans (heap_alloc_new w o1)

theorem ownNewS (w : World) (o : Obj) : OwnI w.heap.size ((w.alloc o).alloc (.cells #[] 3)) (some ⟨w.heap.size + 1, 0, none⟩) 0 0 [] := by
  have := (ownNew0 (w.alloc o)).base (B' := w.heap.size) (by simp)
  rw [show (w.alloc o).heap.size = w.heap.size + 1 from by simp] at this
  exact this

set_option maxRecDepth 100000 in
set_option maxHeartbeats 4000000 in
theorem next_law (a : Option Addr) (cap : Nat) (xs : List Int) (many : Nat) (w : World) (hx : IntsAt w a xs) (hn : a = none → cap = 0) (hm : many < 256) :
    Calls Try.prog 10 #[.slice a xs.length cap, .int .u8 many] w (TrueP w) := by
  have Hx := hid hx; have Hnil := hid (nilLen hx hn)
  have HF := hid (fine_c a cap xs w hx)
  clear hx hn
  by_cases hv : checkRow xs = 0
  · rw [show (checkRow xs == 0) = true from by simp [hv]] at HF
    have hxl := (checkRow_zero hv).1
    have hpn := pl_le hv
    obtain ⟨m, hmd⟩ : ∃ m : Nat, m = many % (41 - xs.length) := ⟨_, rfl⟩
    have hm40 : xs.length + m ≤ 40 := by have := Nat.mod_lt many (show 0 < 41 - xs.length by omega); omega
    have hmI : (many : Int) % (41 - (xs.length : Int)) = (m : Int) := by
      rw [hmd, Int.natCast_emod, show ((41 - xs.length : Nat) : Int) = 41 - (xs.length : Int) from by omega]
    have HmI := hid hmI
    have hmany : (many : Int) < 256 := by omega
    have hpos41 : (0 : Int) < 41 - (xs.length : Int) := by omega
    clear hmd hmI
    have Hv := hid hv
    clear hv
    obtain ⟨n, hn⟩ : ∃ n, n = pl xs := ⟨_, rfl⟩
    have Hn' := hid hn
    have Hner := hid (next_err Hv.out (m := m) (by omega))
    rw [← hn] at hpn Hner
    clear hn
    by_cases h2 : xs.length < 2 * n
    case' pos => rw [if_pos h2] at Hner
    case' neg => rw [if_neg h2] at Hner
    all_goals
      go_enter Try.func10, Try.ntmps10
      go_wp2_with fail
      refine HF.out.mono ?_
      rintro e wx ⟨rfl, rfl⟩
      go_wp2_with fail
      refine (placesL_c a cap xs w Hx.out Hv.out).mono ?_
      rw [show (rdAll xs).places = n from Hn'.out.symm]
      rintro e w1 ⟨rfl, hB⟩
      have HB1 := hid hB
      have hx1 := Hx.out.mono hB
      have HI1 := hid ((Inv.nil w1).add hx1)
      clear hB hx1 HF
      have hmi := HmI.out
      go_wp2_with fail
      clear hmi hpos41 hmany
      refine (next_c a cap xs (m : Int) w1 (HI1.out.atI (a := a) (xs := xs) 0 rfl) (by omega)).mono ?_
      rw [Hner.out]
      rintro e w2 ⟨_, rfl, ⟨al, cl, rfl, hl, hln⟩, hB⟩
      have HI2 := hid ((HI1.out.step hB).add hl); have HB2 := hid (bstep HB1.out hB)
      have Hln := hid hln
      clear hB HI1 HB1 hl hln
      go_wp2_with fail
      refine (k_short (HI2.out.atI (a := a) (xs := xs) 1 rfl) Hv.out).mono ?_
      rw [← Hn'.out]
      rintro e w3 ⟨s1, s2, d1, d2, rfl, hs1, hs2, hB⟩
      have HI3 := hid (((HI2.out.step hB).add hs1).add hs2); have HB3 := hid (bstep HB2.out hB)
      clear hB HI2 HB2 hs1 hs2
      have HI4 := hid (inv1 HI3.out (.slice s1 n d1) (.slice s2 n d2)); have HB4 := hid (bstep HB3.out (bnew w3 (.cells #[.slice s1 n d1, .slice s2 n d2] 24)))
      clear HI3 HB3
    · have h2' : 2 * pl xs ≤ xs.length := by rw [← Hn'.out]; omega
      have hrow := next_row Hv.out (m := m) (by omega) h2'
      obtain ⟨hvl, hpll, hmkl⟩ := next_long Hv.out hm40 h2'
      have hoth := fun h0 : 0 < m => next_other Hv.out h0 hm40 h2'
      rw [← Hn'.out] at hpll hoth
      rw [hrow.2]
      have Hll := hid hrow.2; have Hvl := hid hvl; have Hpll := hid hpll; have Hmkl := hid hmkl; have Hoth := hid hoth
      obtain ⟨rl1, rl2, _, _⟩ := rF_len Hv.out
      rw [← Hn'.out] at rl1 rl2
      have HR1 := hid rl1; have HR2 := hid rl2
      clear hrow hvl hpll hmkl hoth h2' rl1 rl2
      go_wp2_with (at_builtin; refine wpList_app_many _ rfl _ _ rfl (w3.heap.size + 1) (some ⟨w3.heap.size + 1, 0, none⟩) 0 0 [] ?g3 ?g4 a xs.length cap xs ?g5 ?d1 rfl ?d2 ?d3 ?d4 ?_; rotate_right; (intro ao' cap' w6 hB6 hown6 hgr6 hne6; refine Hid.out ?_))
      case g3 => rfl
      case g5 => rfl
      case g4 =>
        have := ownNew0 (w3.alloc (.cells #[.slice s1 n d1, .slice s2 n d2] 24))
        simpa using this
      case d1 => exact (HI4.out.atI (a := a) (xs := xs) 3 rfl).mono (bnew _ _)
      case d2 => exact Hnil.out
      case d3 => omega
      case d4 => simp
      refine hid ?_
      rw [List.nil_append] at hown6
      simp only [Nat.zero_add] at hown6 ⊢
      have hB6' : Below w.heap.size w w6 := HB4.out.trans (((bnew _ (.cells #[] 3)).mono HB4.out.size).trans (hB6.mono (by have := HB4.out.size; simp at this; omega)))
      have hS6 : Below (w3.heap.size + 1) (w3.alloc (.cells #[.slice s1 n d1, .slice s2 n d2] 24)) w6 := ((Below.refl _ _).alloc (by simp) (.cells #[] 3)).trans hB6
      rw [show w3.heap.size + 1 = (w3.alloc (.cells #[.slice s1 n d1, .slice s2 n d2] 24)).heap.size from by simp] at hS6
      have HI6 := hid (HI4.out.step hS6); have HB6 := hid hB6'; have Hown6 := hid hown6
      have hsz6 : w3.heap.size + 1 ≤ w6.heap.size := by have := hS6.size; simp at this; omega
      have Hlnil := hid (nilLen (HI6.out.atI (a := al) (xs := nextR xs m) 2 rfl) Hln.out)
      have HS6 := hid hS6
      clear hB6 hB6' hS6 hown6 hgr6 hne6
      go_wp2_with (at_builtin; refine wpList_app_many _ rfl _ _ rfl (w3.heap.size + 1) ao' xs.length cap' xs ?k3 Hown6.out al m cl (nextR xs m) ?k5 ?k1 Hll.out ?k2 ?k6 ?k4 ?_; rotate_right; (intro ap cp w7 hB7 hown7 hgr7 hne7; refine Hid.out ?_))
      case k3 => rfl
      case k5 => rfl
      case k1 => exact HI6.out.atI (a := al) (xs := nextR xs m) 2 rfl
      case k2 => have := Hlnil.out; rw [Hll.out] at this; exact this
      case k6 => omega
      case k4 => exact hsz6
      refine hid ?_
      have HB7 := hid (HB6.out.trans (hB7.mono (by have := HB4.out.size; simp at this; omega)))
      have HI7 := hid (HI4.out.step (HS6.out.trans (hB7.mono (by simp))))
      have Hat7 := hid hown7.at
      clear hB7 hown7 hgr7 hne7 HI6 HB6 Hown6 HI4 HS6
      have hk := placesM_c ap cp (xs.length + m) (xs ++ nextR xs m) w7 (by rw [List.length_append, Hll.out]) Hat7.out Hvl.out
      rw [show (rdAll (xs ++ nextR xs m)).places = n from Hpll.out] at hk
      have Hk := hid hk
      clear hk
      go_wp2_with fail
      refine Hk.out.mono ?_
      rintro e w8 ⟨rfl, hB⟩
      have HI8 := hid (HI7.out.step hB); have HB8 := hid (bstep HB7.out hB)
      have Hat8 := hid (Hat7.out.mono hB)
      clear hB HI7 HB7 Hat7 Hk
      have cs0 := HI8.out.ceI (b := w3.heap.size) (k := 0) (v := .slice s1 n d1) 0 rfl
      have cs1 := HI8.out.ceI (b := w3.heap.size) (k := 1) (v := .slice s2 n d2) 1 rfl
      go_wp2_with fail
      refine (makesM_c s1 s2 ap d1 d2 cp n n (xs.length + m) (rF xs) (rG xs) (xs ++ nextR xs m) 0 w8 HR1.out HR2.out (by rw [List.length_append, Hll.out]) Hmkl.out (HI8.out.atI (a := s1) (xs := rF xs) 1 rfl) (HI8.out.atI (a := s2) (xs := rG xs) 0 rfl) Hat8.out (by omega) (by omega) (by omega)).mono ?_
      rintro e w9 ⟨rfl, hB⟩
      have HI9 := hid (HI8.out.step hB); have HB9 := hid (bstep HB8.out hB)
      clear hB HI8 HB8 Hat8 cs0 cs1
      by_cases hm0 : m = 0
      · subst hm0
        go_wp2_with fail
        refine (works_c w9).mono ?_
        rintro e w10 ⟨rfl, hB⟩
        have HB10 := hid (bstep HB9.out hB)
        clear hB
        go_wp2
        go_ret
        exact ⟨rfl, HB10.out⟩
      · have hm1 : 0 < m := by omega
        obtain ⟨hpb, hov, hopl, homk⟩ := Hoth.out hm1
        obtain ⟨b, off, hal, hcell⟩ := (HI9.out.atI (a := al) (xs := nextR xs m) 2 rfl).at (k := 0) (by rw [Hll.out]; exact hm1)
        subst hal
        rw [Nat.add_zero] at hcell
        obtain ⟨p, hp⟩ : ∃ p, p = nth (nextR xs m) 0 := ⟨_, rfl⟩
        rw [← hp] at hcell hpb hov hopl homk
        have Hpb := hid hpb; have Hov := hid hov; have Hopl := hid hopl; have Homk := hid homk
        have hp0 : 0 ≤ p := by omega
        have hp1 : p ≤ 1 := by omega
        have hqm : ((m : Int) == 0) = false := by simp; omega
        have hmi0 : (0 : Int) < (m : Int) := by omega
        clear hpb hov hopl homk hp
        go_wp2_with fail
        have hwr : IntKind.i64.wrap (1 - p) = 1 - p := by rcases Hpb.out with h | h <;> rw [h] <;> rfl
        go_region_held3 (fun w' => w'.cell? ⟨b, off, none⟩ = some (.int .i64 p))
          (first | go_keep | exact cstep hcell (Below.trans (by first | exact bnew w9 _ | exact (bnew w9 _).drew | exact bstep (bnew w9 _) (bnew _ _) | exact (bstep (bnew w9 _) (bnew _ _)).drew) hB10) | exact cstep hcell (Below.trans (Below.trans (by first | exact bnew w9 _ | exact (bnew w9 _).drew | exact bstep (bnew w9 _) (bnew _ _) | exact (bstep (bnew w9 _) (bnew _ _)).drew) hB10) (Below.trans (by first | exact Below.refl _ _ | exact (Below.refl _ _).alloc hz10 _ | exact ((Below.refl _ _).alloc hz10 _).drew) hB11)))
          ((first
            | (refine step_app_new _ (by rfl) _ _ (by rfl) w9.heap.size (some ⟨w9.heap.size, 0, none⟩) 0 (by rfl) (by first | exact ownNew0 w9 | exact (ownNew0 w9).alloc _) a xs.length cap xs (by rfl) (by first | exact (HI9.out.atI (a := a) (xs := xs) 3 rfl).mono (bnew _ _) | exact (HI9.out.atI (a := a) (xs := xs) 3 rfl).mono (bnew _ _).drew | exact (HI9.out.atI (a := a) (xs := xs) 3 rfl).mono (bstep (bnew w9 _) (bnew _ _)) | exact (HI9.out.atI (a := a) (xs := xs) 3 rfl).mono (bstep (bnew w9 _) (bnew _ _)).drew) rfl Hnil.out (by omega) (by first | (simp; done) | (simp; omega)) ?_; intro aq cq w10 hB10 hown10 hz10 hgr10)
            | (refine step_app_new _ (by rfl) _ _ (by rfl) w9.heap.size (some ⟨w9.heap.size + 1, 0, none⟩) 0 (by rfl) (by exact ownNewS w9 _) a xs.length cap xs (by rfl) (by first | exact (HI9.out.atI (a := a) (xs := xs) 3 rfl).mono (bnew _ _) | exact (HI9.out.atI (a := a) (xs := xs) 3 rfl).mono (bnew _ _).drew | exact (HI9.out.atI (a := a) (xs := xs) 3 rfl).mono (bstep (bnew w9 _) (bnew _ _)) | exact (HI9.out.atI (a := a) (xs := xs) 3 rfl).mono (bstep (bnew w9 _) (bnew _ _)).drew) rfl Hnil.out (by omega) (by first | (simp; done) | (simp; omega)) ?_; intro aq cq w10 hB10 hown10 hz10 hgr10)
            | (refine step_app_own _ (by rfl) _ _ (by rfl) w9.heap.size aq xs.length cq xs (by rfl) (by first | exact hown10 | exact hown10.alloc _) _ (1 - p) (by rfl) (by first | (simp [go_sem, hwr]; done) | (rw [hwr] at hgr10; exact grown_cell hgr10 (heap2_2 w9 _ _) (by simp [Value.ownBlock])) | exact grown_cell hgr10 (heap2_2 w9 _ _) (by simp [Value.ownBlock]) | (rw [hwr] at hgr10; exact grown_cell hgr10 (heap2_1 w9 _ _) (by simp [Value.ownBlock])) | exact grown_cell hgr10 (heap2_1 w9 _ _) (by simp [Value.ownBlock])) (by omega) (by first | exact hz10 | (simp; omega)) ?_; intro b' cap' w11 hB11 hb11 hown11 hgr11)))
        all_goals
          have hBB : Below w9.heap.size w9 w11 := Below.trans (Below.trans (by first | exact bnew w9 _ | exact (bnew w9 _).drew | exact bstep (bnew w9 _) (bnew _ _) | exact (bstep (bnew w9 _) (bnew _ _)).drew) hB10) (Below.trans (by first | exact Below.refl _ _ | exact (Below.refl _ _).alloc hz10 _ | exact ((Below.refl _ _).alloc hz10 _).drew) hB11)
          have hat := hown11.at
          have HI11 := hid (HI9.out.step hBB); have HB11 := hid (bstep HB9.out hBB)
          have hk := placesM_c (some ⟨b', 0, none⟩) cap' (xs.length + 1) (xs ++ [1 - p]) w11 (by simp) hat Hov.out
          obtain ⟨k, hkk⟩ : ∃ k, k = pl (xs ++ [1 - p]) := ⟨_, rfl⟩
          rw [show (rdAll (xs ++ [1 - p])).places = k from hkk.symm] at hk
          have qk : decide (n < k) = true := by rw [hkk]; exact decide_eq_true Hopl.out
          have Hk := hid hk; have Hat := hid hat
          clear hBB hat hk hkk hB10 hown10 hz10 hgr10 hB11 hb11 hown11 hgr11 hwr hcell HI9 HB9
          go_wp2_with fail
          refine Hk.out.mono ?_
          rintro e w12 ⟨rfl, hB⟩
          have HI12 := hid (HI11.out.step hB); have HB12 := hid (bstep HB11.out hB)
          have Hat12 := hid (Hat.out.mono hB)
          clear hB HI11 HB11 Hat Hk
          have cs0 := HI12.out.ceI (b := w3.heap.size) (k := 0) (v := .slice s1 n d1) 0 rfl
          have cs1 := HI12.out.ceI (b := w3.heap.size) (k := 1) (v := .slice s2 n d2) 1 rfl
          go_wp2_with fail
          refine (makesM_c s1 s2 (some ⟨b', 0, none⟩) d1 d2 cap' n n (xs.length + 1) (rF xs) (rG xs) (xs ++ [1 - p]) 25 w12 HR1.out HR2.out (by simp) Homk.out (HI12.out.atI (a := s1) (xs := rF xs) 1 rfl) (HI12.out.atI (a := s2) (xs := rG xs) 0 rfl) Hat12.out (by omega) (by omega) (by omega)).mono ?_
          rintro e w13 ⟨rfl, hB⟩
          have HB13 := hid (bstep HB12.out hB)
          clear hB HI12 HB12 Hat12 cs0 cs1
          go_wp2_with fail
          refine (works_c w13).mono ?_
          rintro e w14 ⟨rfl, hB⟩
          have HB14 := hid (bstep HB13.out hB)
          clear hB
          go_wp2
          go_ret
          exact ⟨rfl, HB14.out⟩
    · go_wp2_with fail
      refine (works_c _).mono ?_
      rintro e w5 ⟨rfl, hB⟩
      have HB5 := hid (bstep HB4.out hB)
      clear hB
      go_wp2
      go_ret
      exact ⟨rfl, HB5.out⟩
  · rw [show (checkRow xs == 0) = false from by simp [hv]] at HF
    clear hv
    go_enter Try.func10, Try.ntmps10
    go_wp2_with fail
    refine HF.out.mono ?_
    rintro e wx ⟨rfl, rfl⟩
    go_wp2_with fail
    refine (works_c w).mono ?_
    rintro e w1 ⟨rfl, hB⟩
    have HB := hid hB
    clear hB
    go_wp2
    go_ret
    exact ⟨rfl, HB.out⟩

end Go.Proofs.Ytjnijhnphhpilaa
