/- Walks of the reference: TogetherOf, Together. -/
import Derived.Test.YtjnijhnphhpilaaTp
import Derived.Test.YtjnijhnphhpilaaApf
import Derived.Test.YtjnijhnphhpilaaLd
import Derived.Test.YtjnijhnphhpilaaWq
namespace Go.Proofs.Ytjnijhnphhpilaa
open Go.RowKit Go.Shelf

/-- what stands ahead of the first loop: both drums, the drum to be, both feeds with their own number 1 ahead -/
structure TgAt (w : World) (W : World) (a1 a2 a3 a4 : Option Addr) (c1 c2 c3 c4 : Nat) (f g f2 g2 : List Int) : Prop where
  d1 : W.heap[w.heap.size]? = some (.cells #[.slice a1 f.length c1, .slice a2 g.length c2] 24 (0, 0))
  d2 : W.heap[w.heap.size + 1]? = some (.cells #[.slice a3 f2.length c3, .slice a4 g2.length c4] 24 (0, 0))
  d3 : W.heap[w.heap.size + 2]? = some (.cells #[.slice none 0 0, .slice none 0 0] 24 (0, 0))
  below : Below w.heap.size w W

theorem TgAt.mono {w W W' : World} {a1 a2 a3 a4 : Option Addr} {c1 c2 c3 c4 : Nat} {f g f2 g2 : List Int} (h : TgAt w W a1 a2 a3 a4 c1 c2 c3 c4 f g f2 g2) (hB : Below W.heap.size W W') : TgAt w W' a1 a2 a3 a4 c1 c2 c3 c4 f g f2 g2 :=
  ⟨(hB.block _ (Array.getElem?_eq_some_iff.1 h.d1).1).trans h.d1, (hB.block _ (Array.getElem?_eq_some_iff.1 h.d2).1).trans h.d2, (hB.block _ (Array.getElem?_eq_some_iff.1 h.d3).1).trans h.d3, bstep h.below hB⟩

theorem TgAt.only {w W W' : World} {a1 a2 a3 a4 : Option Addr} {c1 c2 c3 c4 : Nat} {f g f2 g2 : List Int} {S : Nat → Prop} (h : TgAt w W a1 a2 a3 a4 c1 c2 c3 c4 f g f2 g2) (hO : Only S W W') (hS : ∀ k, S k → w.heap.size + 2 < k) : TgAt w W' a1 a2 a3 a4 c1 c2 c3 c4 f g f2 g2 :=
  ⟨(hO.block _ (Array.getElem?_eq_some_iff.1 h.d1).1 (fun e => absurd (hS _ e) (by omega))).trans h.d1, (hO.block _ (Array.getElem?_eq_some_iff.1 h.d2).1 (fun e => absurd (hS _ e) (by omega))).trans h.d2,
    (hO.block _ (Array.getElem?_eq_some_iff.1 h.d3).1 (fun e => absurd (hS _ e) (by omega))).trans h.d3, h.below.trans (hO.below h.below.size (fun k hk e => absurd (hS _ e) (by omega)))⟩

theorem za' {X : World} {g : Nat} {o : Obj} (h : X.heap[g]? = some o) (o2 : Obj) : (X.alloc o2).heap[g]? = some o := (heap_alloc_old X o2 (Array.getElem?_eq_some_iff.1 h).1).trans h
theorem undrew' {X W : World} (h : Below X.drew.heap.size X.drew W) : Below X.heap.size X W := ((Below.refl _ X).drew).trans h

theorem IntsAt.drew {w : World} {a : Option Addr} {xs : List Int} (h : IntsAt w a xs) : IntsAt w.drew a xs := h.mono ((Below.refl _ w).drew)

theorem at_lit1b (w : World) (o : Obj) (v : Int) : IntsAt ((w.alloc o).alloc (.cells #[.int .i64 v] 3)) (some ⟨w.heap.size + 1, 0, none⟩) [v] := by
  have := at_lit1 (w.alloc o) v
  simpa using this

theorem cells2 {w : World} {g : Nat} {x y : Value} {t : TypeId} (h : w.heap[g]? = some (.cells #[x, y] t (0, 0))) : w.cell? ⟨g, 0, none⟩ = some x ∧ w.cell? ⟨g, 1, none⟩ = some y := by
  constructor
  · rw [cell_of_row _ _ _ _ _ _ h]; rfl
  · rw [cell_of_row _ _ _ _ _ _ h]; rfl

/-- what the last region wants of the blocks -/
theorem TgAt.said {w W : World} {a1 a2 a3 a4 : Option Addr} {c1 c2 c3 c4 : Nat} {f g f2 g2 : List Int} (h : TgAt w W a1 a2 a3 a4 c1 c2 c3 c4 f g f2 g2) :
    W.cell? ⟨w.heap.size, 0, none⟩ = some (.slice a1 f.length c1) ∧ W.cell? ⟨w.heap.size, 1, none⟩ = some (.slice a2 g.length c2) ∧ W.cell? ⟨w.heap.size + 1, 0, none⟩ = some (.slice a3 f2.length c3) ∧ W.cell? ⟨w.heap.size + 1, 1, none⟩ = some (.slice a4 g2.length c4) ∧
      W.cell? ⟨w.heap.size + 2, 0, none⟩ = some (.slice none 0 0) ∧ W.cell? ⟨w.heap.size + 2, 1, none⟩ = some (.slice none 0 0) ∧ W.frozen? ⟨w.heap.size + 2, 0, none⟩ = false ∧ W.frozen? ⟨w.heap.size + 2, 1, none⟩ = false :=
  ⟨(cells2 h.d1).1, (cells2 h.d1).2, (cells2 h.d2).1, (cells2 h.d2).2, (cells2 h.d3).1, (cells2 h.d3).2, frozen_of_row _ _ _ _ _ h.d3, frozen_of_row _ _ _ _ _ h.d3⟩

theorem TgAt.four {w W : World} {a1 a2 a3 a4 : Option Addr} {c1 c2 c3 c4 : Nat} {f g f2 g2 : List Int} (h : TgAt w W a1 a2 a3 a4 c1 c2 c3 c4 f g f2 g2) :
    W.cell? ⟨w.heap.size, 0, none⟩ = some (.slice a1 f.length c1) ∧ W.cell? ⟨w.heap.size, 1, none⟩ = some (.slice a2 g.length c2) ∧ W.cell? ⟨w.heap.size + 1, 0, none⟩ = some (.slice a3 f2.length c3) ∧ W.cell? ⟨w.heap.size + 1, 1, none⟩ = some (.slice a4 g2.length c4) :=
  ⟨h.said.1, h.said.2.1, h.said.2.2.1, h.said.2.2.2.1⟩
theorem TgAt.fourSet {w W : World} {a1 a2 a3 a4 : Option Addr} {c1 c2 c3 c4 : Nat} {f g f2 g2 : List Int} (h : TgAt w W a1 a2 a3 a4 c1 c2 c3 c4 f g f2 g2) (v1 v2 : Value) :
    ((W.setCell ⟨w.heap.size + 1 + 1, 0, none⟩ v1).setCell ⟨w.heap.size + 1 + 1, 1, none⟩ v2).cell? ⟨w.heap.size, 0, none⟩ = some (.slice a1 f.length c1) ∧ ((W.setCell ⟨w.heap.size + 1 + 1, 0, none⟩ v1).setCell ⟨w.heap.size + 1 + 1, 1, none⟩ v2).cell? ⟨w.heap.size, 1, none⟩ = some (.slice a2 g.length c2) ∧
      ((W.setCell ⟨w.heap.size + 1 + 1, 0, none⟩ v1).setCell ⟨w.heap.size + 1 + 1, 1, none⟩ v2).cell? ⟨w.heap.size + 1, 0, none⟩ = some (.slice a3 f2.length c3) ∧ ((W.setCell ⟨w.heap.size + 1 + 1, 0, none⟩ v1).setCell ⟨w.heap.size + 1 + 1, 1, none⟩ v2).cell? ⟨w.heap.size + 1, 1, none⟩ = some (.slice a4 g2.length c4) := by
  have hO : Only (fun b => b = w.heap.size + 2) W ((W.setCell ⟨w.heap.size + 2, 0, none⟩ v1).setCell ⟨w.heap.size + 2, 1, none⟩ v2) := (setCell_only (w.heap.size + 2) 0 v1).trans (setCell_only (w.heap.size + 2) 1 v2)
  exact ⟨hO.cell h.four.1 (by simp), hO.cell h.four.2.1 (by simp), hO.cell h.four.2.2.1 (by simp), hO.cell h.four.2.2.2 (by simp)⟩

/-- a list that a call hands back, its length written out -/
def LenP (w0 X : World) (n : Nat) (xs : List Int) (e : Ending) (W : World) : Prop :=
  ∃ ao cap, e = .returned (.slice ao n cap) ∧ IntsAt W ao xs ∧ (ao = none → cap = 0) ∧ Below w0.heap.size w0 W ∧ Below X.heap.size X W

theorem LenP.run {w0 X : World} {n : Nat} {xs : List Int} (hn : xs.length = n) (hB : Below w0.heap.size w0 X) {e : Ending} {W : World} (h : RunO X xs e W) : LenP w0 X n xs e W := by
  subst hn
  obtain ⟨ao, cap, rfl, h1, h2⟩ := h
  exact ⟨ao, cap, rfl, h1.at, fun e => (h1.none e).2, bstep hB h2, h2⟩
theorem LenP.own {w0 X : World} {n : Nat} {xs : List Int} (hn : xs.length = n) (hB : Below w0.heap.size w0 X) {e : Ending} {W : World} (h : OwnP X xs e W) : LenP w0 X n xs e W := by
  subst hn
  obtain ⟨ao, cap, rfl, h1, h2, h3⟩ := h
  exact ⟨ao, cap, rfl, h1, h2, bstep hB h3, h3⟩

theorem IntsAt.set24 {w : World} {a : Option Addr} {xs : List Int} {g : Nat} (h : IntsAt w a xs) (hg : w.heap[g]? = some (.cells #[.slice none 0 0, .slice none 0 0] 24 (0, 0))) (v1 v2 : Value) : IntsAt ((w.setCell ⟨g, 0, none⟩ v1).setCell ⟨g, 1, none⟩ v2) a xs := by
  refine h.only (S := fun b => b = g) ((setCell_only g 0 v1).trans (setCell_only g 1 v2)) (fun b off e hl hb => ?_)
  subst e
  have hb' : b = g := hb
  subst hb'
  have hc := h.cell hl
  rw [cell_of_row _ _ _ _ _ _ hg] at hc
  match off, hc with
  | 0, hc => simp at hc
  | 1, hc => simp at hc
  | o + 2, hc => simp at hc

def TgP (w : World) (f g f2 g2 : List Int) (e : Ending) (w' : World) : Prop :=
  ∃ x y : Option Addr, ∃ cx cy : Nat, e = .returned (.agg #[.slice x (f.length + f2.length) cx, .slice y (f.length + f2.length) cy]) ∧ IntsAt w' x (timesF f f2) ∧ IntsAt w' y (xorL (playsF f g (f.length + f2.length)) (playsF f2 g2 (f.length + f2.length))) ∧
    (x = none → cx = 0) ∧ (y = none → cy = 0) ∧ Below w.heap.size w w'

set_option maxRecDepth 100000 in
set_option maxHeartbeats 20000000 in
theorem togetherOf_c (a1 a2 a3 a4 : Option Addr) (c1 c2 c3 c4 : Nat) (f g f2 g2 : List Int) (w : World) (h1 : IntsAt w a1 f) (h2 : IntsAt w a2 g) (h3 : IntsAt w a3 f2) (h4 : IntsAt w a4 g2)
    (n1 : a1 = none → c1 = 0) (n3 : a3 = none → c3 = 0) (hd1 : checkDrum f g = 0) (hd2 : checkDrum f2 g2 = 0) (ht : f.length + f2.length ≤ 40) :
    Calls Try.prog 75 #[.agg #[.slice a1 f.length c1, .slice a2 g.length c2], .agg #[.slice a3 f2.length c3, .slice a4 g2.length c4]] w (TgP w f g f2 g2) := by
  obtain ⟨l1, k1, bf, bg⟩ := checkDrum_zero hd1
  obtain ⟨l2, k2, bf2, bg2⟩ := checkDrum_zero hd2
  have H1 := hid h1; have H3 := hid h3
  have N1 := hid (nilLen h1 n1); have N3 := hid (nilLen h3 n3)
  have HR1 := hid fun (n : Nat) (hn : n ≤ 1000) w' (hB : Below w.heap.size w w') => runOf_c a1 a2 c1 c2 n f g w' (h1.mono hB) (h2.mono hB) l1 k1 hn bf bg
  have HR2 := hid fun (n : Nat) (hn : n ≤ 1000) w' (hB : Below w.heap.size w w') => runOf_c a3 a4 c3 c4 n f2 g2 w' (h3.mono hB) (h4.mono hB) l2 k2 hn bf2 bg2
  have Bf := hid bf; have Bf2 := hid bf2; have Bg := hid bg; have Bg2 := hid bg2
  have L1 := hid l1; have L2 := hid l2
  clear h1 h2 h3 h4 n1 n3 bf bf2 bg bg2 hd1 hd2 l1 l2
  go_enter Try.func75, Try.ntmps75
  obtain ⟨W1, hW1⟩ : ∃ W1, W1 = ((w.alloc (.cells #[.slice a1 f.length c1, .slice a2 g.length c2] 24)).alloc (.cells #[.slice a3 f2.length c3, .slice a4 g2.length c4] 24)).alloc (.cells #[.slice none 0 0, .slice none 0 0] 24) := ⟨_, rfl⟩
  go_upto_region 1 with (fail)
  rw [← hW1]
  have T1 : TgAt w W1 a1 a2 a3 a4 c1 c2 c3 c4 f g f2 g2 := by
    rw [hW1]
    refine ⟨?_, ?_, heap3_3 w _ _ _, (((Below.refl _ _).alloc (Nat.le_refl _) _).alloc (by simp) _).alloc (by simp; omega) _⟩
    · exact za' (za' (heap_alloc_new _ _) _) _
    · have := za' (heap_alloc_new (w.alloc (.cells #[.slice a1 f.length c1, .slice a2 g.length c2] 24)) (.cells #[.slice a3 f2.length c3, .slice a4 g2.length c4] 24)) (.cells #[.slice none 0 0, .slice none 0 0] 24)
      simpa using this
  clear hW1
  have q1 := (cells2 T1.d1).1
  have q2 := (cells2 T1.d2).1
  have T1' := hid T1
  have hs1 : w.heap.size + 2 < W1.heap.size := (Array.getElem?_eq_some_iff.1 T1.d3).1
  have A1 := hid (H1.out.mono T1.below); have A3 := hid (H3.out.mono T1.below)
  clear T1
  go_cut [5, 6] (fun s5 s6 wc => ∃ x y cx cy, s5 = .slice (some x) (1 + f.length) cx ∧ s6 = .slice (some y) (1 + f2.length) cy ∧ IntsAt wc (some x) (1 :: f) ∧ IntsAt wc (some y) (1 :: f2) ∧ Below W1.heap.size W1 wc)
  case first =>
    go_region_held3 (fun w' => w'.cell? ⟨w.heap.size, 0, none⟩ = some (.slice a1 f.length c1) ∧ w'.cell? ⟨w.heap.size + 1, 0, none⟩ = some (.slice a3 f2.length c3)) (first | go_keep | exact ⟨cstep q1 hBl, cstep q2 hBl⟩ | exact ⟨cstep q1 (bstep hBl (bnew _ _)), cstep q2 (bstep hBl (bnew _ _))⟩)
      (first
        | (refine step_app_fullm _ (by rfl) _ _ (by rfl) _ 1 1 [1] rfl (by first | exact (at_lit1 _ 1) | exact (at_lit1 _ 1).drew | exact (at_lit1 _ 1).mono (bnew _ _) | exact ((at_lit1 _ 1).mono (bnew _ _)).drew | exact (at_lit1 _ 1).mono hB | exact (at_lit1 _ 1).mono (undrew' hB) | exact ((at_lit1 _ 1).mono (bnew _ _)).mono hB | exact ((at_lit1 _ 1).mono (bnew _ _)).mono (undrew' hB) | exact (at_lit1b _ _ 1) | exact (at_lit1b _ _ 1).drew | exact (at_lit1b _ _ 1).mono (bnew _ _) | exact ((at_lit1b _ _ 1).mono (bnew _ _)).drew | exact (at_lit1b _ _ 1).mono hB | exact (at_lit1b _ _ 1).mono (undrew' hB) | exact ((at_lit1b _ _ 1).mono (bnew _ _)).mono hB | exact ((at_lit1b _ _ 1).mono (bnew _ _)).mono (undrew' hB)) rfl rfl a1 f.length c1 f rfl (A1.out.mono (by first | exact bnew _ _ | exact (bnew _ _).drew | exact bstep (bnew _ _) (bnew _ _) | exact (bstep (bnew _ _) (bnew _ _)).drew | exact hBl | exact bstep hBl (bnew _ _))) rfl N1.out (by omega) ?_; intro aq cq wq hB hatq hcq hszq hneq hneq' hleq hleq' hceq hfrq; have hBl : Below W1.heap.size W1 wq := bstep (by first | exact bnew _ _ | exact (bnew _ _).drew | exact bstep (bnew _ _) (bnew _ _) | exact (bstep (bnew _ _) (bnew _ _)).drew | exact hBl | exact bstep hBl (bnew _ _)) hB)
        | (refine step_app_fullm _ (by rfl) _ _ (by rfl) _ 1 1 [1] rfl (by first | exact (at_lit1 _ 1) | exact (at_lit1 _ 1).drew | exact (at_lit1 _ 1).mono (bnew _ _) | exact ((at_lit1 _ 1).mono (bnew _ _)).drew | exact (at_lit1 _ 1).mono hB | exact (at_lit1 _ 1).mono (undrew' hB) | exact ((at_lit1 _ 1).mono (bnew _ _)).mono hB | exact ((at_lit1 _ 1).mono (bnew _ _)).mono (undrew' hB) | exact (at_lit1b _ _ 1) | exact (at_lit1b _ _ 1).drew | exact (at_lit1b _ _ 1).mono (bnew _ _) | exact ((at_lit1b _ _ 1).mono (bnew _ _)).drew | exact (at_lit1b _ _ 1).mono hB | exact (at_lit1b _ _ 1).mono (undrew' hB) | exact ((at_lit1b _ _ 1).mono (bnew _ _)).mono hB | exact ((at_lit1b _ _ 1).mono (bnew _ _)).mono (undrew' hB)) rfl rfl a3 f2.length c3 f2 rfl (A3.out.mono (by first | exact bnew _ _ | exact (bnew _ _).drew | exact bstep (bnew _ _) (bnew _ _) | exact (bstep (bnew _ _) (bnew _ _)).drew | exact hBl | exact bstep hBl (bnew _ _))) rfl N3.out (by omega) ?_; intro ar cr wr hB hatr hcr hszr hner hner' hler hler' hcer hfrr; have hBl : Below W1.heap.size W1 wr := bstep (by first | exact bnew _ _ | exact (bnew _ _).drew | exact bstep (bnew _ _) (bnew _ _) | exact (bstep (bnew _ _) (bnew _ _)).drew | exact hBl | exact bstep hBl (bnew _ _)) hB))
    all_goals (go_wp2; go_meet)
    all_goals exact ⟨aq, ar, cq, cr, rfl, rfl, by first | exact hatq.mono hB | exact hatq.mono (bstep (bnew _ _) hB), hatr, hBl⟩
  case rest =>
    obtain ⟨x, y, cx, cy, rfl, rfl, hX, hY, hBc⟩ := hcut
    have T2 := T1'.out.mono hBc
    have p1 := (cells2 T2.d1).1
    have p2 := (cells2 T2.d2).1
    have T2' := hid T2
    have hs2 : w.heap.size + 2 < wc.heap.size := by have := hBc.size; omega
    obtain ⟨N, hN⟩ : ∃ N, N = f.length + f2.length := ⟨_, rfl⟩
    have hmk : ∀ w : World, (Instr.makeSlice 22 (.int .i64 ((f.length : Int) + (f2.length : Int) + 1)) (.int .i64 ((f.length : Int) + (f2.length : Int) + 1))).run Try.prog w = .ok (.slice (some ⟨w.heap.size, 0, none⟩) (N + 1) (N + 1)) (w.alloc (.cells (intv (zrow (N + 1))).toArray 3)) := fun w => by
      have := run_make_z w (N + 1) (by omega)
      rw [hN] at this ⊢
      simpa using this
    have HX := hid hX; have HY := hid hY
    have HN := hid hN
    clear q1 q2 hX hY hBc hs1 T2 hN
    go_wp2_with fail
    obtain ⟨W2, hW2⟩ : ∃ W2, W2 = wc.alloc (.cells (intv (zrow (N + 1))).toArray 3) := ⟨_, rfl⟩
    rw [← hW2]
    have hg2 : W2.heap[wc.heap.size]? = some (.cells (intv (zrow (N + 1))).toArray 3 (0, 0)) := by rw [hW2]; exact heap_alloc_new wc _
    have hB2 : Below wc.heap.size wc W2 := by rw [hW2]; exact bnew wc _
    have T3 := hid (T2'.out.mono hB2); have HB2 := hid hB2; have Hg2 := hid hg2
    obtain ⟨gl, hgl⟩ : ∃ gl, gl = wc.heap.size := ⟨_, rfl⟩
    have HX2 := hid (HX.out.mono hB2); have HY2 := hid (HY.out.mono hB2)
    rw [← hgl] at Hg2 hs2 ⊢
    have hX0 : ∀ b o, x = ⟨b, o, none⟩ → b < gl := fun b o e => by subst e; rw [hgl]; exact HX.out.lt (by simp)
    have hY0 : ∀ b o, y = ⟨b, o, none⟩ → b < gl := fun b o e => by subst e; rw [hgl]; exact HY.out.lt (by simp)
    have HX0 := hid hX0; have HY0 := hid hY0
    have hnl : N + 1 = f.length + f2.length + 1 := by rw [HN.out]
    have Hnl := hid hnl
    clear hW2 hB2 hg2 hgl hmk p1 p2 hX0 hY0 hnl
    go_loopw [9] (fun i wr => ∃ (m : Nat) (L : List Int), m ≤ f.length + 1 ∧ i = .int .i64 m ∧ TvL f f2 L m 0 ∧ wr.heap[gl]? = some (.cells (intv L).toArray 3 (0, 0)) ∧ Only (fun b => b = gl) W2 wr) (fun i _ => f.length + 1 - (intOf i).toNat)
    case atStart => exact ⟨0, _, Nat.zero_le _, rfl, TvL.start, by rw [← Hnl.out]; exact Hg2.out, Only.refl _ _⟩
    case round =>
      obtain ⟨m, L, hm, rfl, hL, hLh, hO⟩ := hrel
      have HL := hid hL; have HLh := hid hLh; have HO := hid hO
      by_cases hlt : m < f.length + 1
      · obtain ⟨wo, rfl⟩ : ∃ wo : World, wo = wr := ⟨_, rfl⟩
        clear hL hLh hO
        go_wp2
        go_loopw [10] (fun i wr => ∃ (k : Nat) (L : List Int), k ≤ f2.length + 1 ∧ i = .int .i64 k ∧ TvL f f2 L m k ∧ wr.heap[gl]? = some (.cells (intv L).toArray 3 (0, 0)) ∧ Only (fun b => b = gl) W2 wr) (fun i _ => f2.length + 1 - (intOf i).toNat)
        case atStart => exact ⟨0, L, Nat.zero_le _, rfl, HL.out, HLh.out, HO.out⟩
        case round =>
          obtain ⟨k, L2, hk, rfl, hL2, hLh2, hO2⟩ := hrel
          by_cases hklt : k < f2.length + 1
          · obtain ⟨bx, ox, ex, r1⟩ := (HX2.out.only hO2 (fun b o e _ => by cases e; have := HX0.out _ _ rfl; omega)).at (k := m) (by simpa using hlt)
            obtain ⟨byy, oy, ey, r2⟩ := (HY2.out.only hO2 (fun b o e _ => by cases e; have := HY0.out _ _ rfl; omega)).at (k := k) (by simpa using hklt)
            cases ex
            cases ey
            have hLl := hL2.1
            have r3 : wr.cell? ⟨gl, m + k, none⟩ = some (.int .i64 (nth L2 (m + k))) := by
              rw [cell_of_row _ _ _ _ _ _ hLh2, List.getElem?_toArray, intv_get, if_pos (by omega)]
            have hfr : wr.frozen? ⟨gl, m + k, none⟩ = false := frozen_of_row _ _ _ _ _ hLh2
            have hst := hL2.step Bf.out Bf2.out
            have v1 := isBits_nth (show isBits (1 :: f) = true by have := Bf.out; unfold isBits at *; rw [List.all_cons, this]; rfl) m
            have v2 := isBits_nth (show isBits (1 :: f2) = true by have := Bf2.out; unfold isBits at *; rw [List.all_cons, this]; rfl) k
            have v3 := hL2.bits (m + k) (by omega)
            obtain ⟨a, ha⟩ : ∃ a, a = nth (1 :: f) m := ⟨_, rfl⟩
            obtain ⟨b, hb⟩ : ∃ b, b = nth (1 :: f2) k := ⟨_, rfl⟩
            obtain ⟨c, hc⟩ : ∃ c, c = nth L2 (m + k) := ⟨_, rfl⟩
            rw [← ha] at r1 hst v1
            rw [← hb] at r2 hst v2
            rw [← hc] at r3 hst v3
            have hw : (wrap64 (c + wrap64 (a * b))).tmod 2 = (c + a * b) % 2 := by
              rcases v1 with rfl | rfl <;> rcases v2 with rfl | rfl <;> rcases v3 with rfl | rfl <;> decide +kernel
            have hmkI : (m : Int) + (k : Int) ≤ (N : Int) := by have := HN.out; omega
            have hmkN : m + k < N + 1 := by have := HN.out; omega
            have Hst := hid hst; have HLh2 := hid hLh2; have HO2 := hid hO2; have Hw := hid hw
            clear hw hst hLh2 hO2 ha hb hc hL2 hLl v1 v2 v3
            go_wp2
            go_region
            go_wp2
            go_roundw
            case rel => exact ⟨k + 1, _, by omega, by go_num, Hst.out, (heap_setCell_same wr _ _ _ 3 _ HLh2.out).trans (cellsSet (by unfold intv; rw [List.map_set, Hw.out])), (HO2.out.set1 _ _).drew⟩
            case measure => simp [intOf]; omega
          · obtain rfl : k = f2.length + 1 := by omega
            have HL2 := hid hL2; have HLh2 := hid hLh2; have HO2 := hid hO2
            clear hL2 hLh2 hO2
            go_wp2
            go_roundw
            case rel => exact ⟨m + 1, L2, by omega, by go_num, HL2.out.row, HLh2.out, HO2.out⟩
            case measure => simp [intOf]; omega
      · obtain rfl : m = f.length + 1 := by omega
        obtain ⟨wo, rfl⟩ : ∃ wo : World, wo = wr := ⟨_, rfl⟩
        have T4 := T3.out.only (S := fun b => b = gl) hO (fun k hk => by subst hk; exact hs2)
        have hT4 := T4.said
        have T4' := hid T4
        have hdr := hL.last Bf.out Bf2.out (by omega)
        have hat : IntsAt wo (some ⟨gl, 1, none⟩) (timesF f f2) := by
          have : IntsAt wo (some ⟨gl, 0, none⟩) L := .inr ⟨gl, 0, rfl, fun j hj => by rw [cell_of_row _ _ _ _ _ _ hLh, List.getElem?_toArray, intv_get, Nat.zero_add, if_pos hj]⟩
          have := this.drop 1
          rw [hdr] at this
          exact this
        have Hat := hid hat
        have HRa := hid fun (w' : World) (hb : Below wo.heap.size wo w') => (HR1.out (f.length + f2.length) (by omega) w' (bstep T4'.out.below hb)).mono (fun _ _ h => LenP.run (playsF_length f g _) hb h)
        have HRb := hid fun (w' : World) (hb : Below wo.heap.size wo w') => (HR2.out (f.length + f2.length) (by omega) w' (bstep T4'.out.below hb)).mono (fun _ _ h => LenP.run (playsF_length f2 g2 _) hb h)
        rw [Int.natCast_add] at HRa HRb
        have HXo := hid fun (w' : World) (ap aq : Option Addr) (cp cq : Nat) (hb : Below wo.heap.size wo w') (hp : IntsAt w' ap (playsF f g (f.length + f2.length))) (hq : IntsAt w' aq (playsF f2 g2 (f.length + f2.length))) =>
          (xor_c ap aq cp cq _ _ w' hp hq (by rw [playsF_length]; omega) (by rw [playsF_length, playsF_length]; omega) (playsF_bits (f := f) Bg.out _) (playsF_bits (f := f2) Bg2.out _)).mono (fun _ _ h => LenP.own (n := f.length + f2.length) (by rw [xorL_length, playsF_length]) hb h)
        simp only [playsF_length] at HXo
        clear hO hLh hL hdr hat T4
        obtain ⟨s1, s2, s3, s4, s5, s6, s7, s8⟩ := hT4
        go_wp2_with fail
        obtain ⟨M, hM⟩ : ∃ M, M = N + 1 := ⟨_, rfl⟩
        rw [← hM]
        have hM1 : (1 : Int) ≤ (M : Int) := by omega
        have hM2 : 1 ≤ M := by omega
        have hMN : M - 1 = f.length + f2.length := by rw [hM, HN.out]; rfl
        have HMN := hid hMN
        clear hMN hM
        by_cases hN0 : M = 1
        case' pos => subst hN0
        all_goals
          go_region_held3 (fun W => W.cell? ⟨w.heap.size, 0, none⟩ = some (.slice a1 f.length c1) ∧ W.cell? ⟨w.heap.size, 1, none⟩ = some (.slice a2 g.length c2) ∧ W.cell? ⟨w.heap.size + 1, 0, none⟩ = some (.slice a3 f2.length c3) ∧ W.cell? ⟨w.heap.size + 1, 1, none⟩ = some (.slice a4 g2.length c4))
            (first | exact (T4'.out.mono hBl).four | exact (T4'.out.mono hBl).fourSet _ _ | go_keep)
            (first
              | (go_at_call 59; (with_reducible refine (HRa.out _ (by first | exact hBl | exact hBl.drew | exact Below.refl _ _ | exact (Below.refl _ _).drew)).mono ?_); rintro e wp ⟨ap, cp, rfl, hap, hnp, hBl, hBp⟩)
              | (go_at_call 59; (with_reducible refine (HRb.out _ (by first | exact hBl | exact hBl.drew | exact Below.refl _ _ | exact (Below.refl _ _).drew)).mono ?_); rintro e wq ⟨aq, cq, rfl, haq, hnq, hBl, hBq⟩)
              | (go_at_call 50; (with_reducible refine (HXo.out _ _ _ _ _ (by first | exact hBl | exact hBl.drew) (by first | exact hap | exact hap.mono hBq | exact hap.mono (undrew' hBq)) (by first | exact haq | exact haq.mono hBp | exact haq.mono (undrew' hBp))).mono ?_); rintro e ws ⟨ar, cr, rfl, har, hnr, hBl, hBs⟩; obtain ⟨-, -, -, -, z5, z6, z7, z8⟩ := (T4'.out.mono hBl).said))
          have T5 := T4'.out.mono hBl
          go_wp2
          refine bodyPost_ret (results_cell_row rfl _ _ (w.heap.size + 2) 24 _ (0, 0) _ rfl (set24 T5.d3 _ _) Try.underlying24 rfl (by kernel_rfl)) rfl ?_
        · have h0 : timesF f f2 = [] := List.eq_nil_of_length_eq_zero (by rw [timesF_length]; exact HMN.out.symm)
          exact ⟨_, ar, _, cr, by rw [← HMN.out], by rw [h0]; exact .inl rfl, har.set24 T5.d3 _ _, (fun e => by cases e), hnr, (T5.below.setCell (by show w.heap.size ≤ w.heap.size + 2; omega) _).setCell (by show w.heap.size ≤ w.heap.size + 2; omega) _⟩
        · exact ⟨_, ar, _, cr, by rw [← HMN.out], (Hat.out.mono hBl).set24 T5.d3 _ _, har.set24 T5.d3 _ _, (fun e => by cases e), hnr, (T5.below.setCell (by show w.heap.size ≤ w.heap.size + 2; omega) _).setCell (by show w.heap.size ≤ w.heap.size + 2; omega) _⟩

end Go.Proofs.Ytjnijhnphhpilaa
