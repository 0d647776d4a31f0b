/- Walks: the examples' rows and drums. -/
import Derived.Test.YtjnijhnphhpilaaWk
namespace Go.Proofs.Ytjnijhnphhpilaa
open Go.RowKit Go.Shelf

theorem of_c (v : Value) (w : World) : Calls Try.prog 53 #[v] w fun e w' => e = .returned v ∧ w = w' := by
  go_enter Try.func53, Try.ntmps53
  go_wp2
  go_ret
  exact ⟨rfl, rfl⟩

/-- what a call that returns a new list leaves -/
def SlP (w : World) (xs : List Int) (e : Ending) (w' : World) : Prop := ∃ v, e = .returned v ∧ Sl w' v xs ∧ Below w.heap.size w w'

theorem slNew (w : World) (xs : List Int) : Sl (w.alloc (.cells (xs.map (Value.int .i64)).toArray 3)) (.slice (some ⟨w.heap.size, 0, none⟩) xs.length xs.length) xs :=
  ⟨_, xs.length, rfl, intsAt_new w xs _ 3 rfl, fun h => by cases h⟩

def sRow : List Int := [0, 0, 1, 0, 1, 1, 1]

theorem row_c (w : World) : Calls Try.prog 51 #[] w (SlP w sRow) := by
  go_enter Try.func51, Try.ntmps51
  go_wp2_with fail
  refine (of_c _ _).mono ?_
  rintro e w1 ⟨rfl, rfl⟩
  go_wp2
  go_ret
  exact ⟨_, rfl, slNew w sRow, (Below.refl _ _).alloc (Nat.le_refl _) _⟩

theorem shift_c (v1 v2 : Value) (f g : List Int) (w : World) (h1 : Sl w v1 f) (h2 : Sl w v2 g) : Calls Try.prog 56 #[v1, v2] w (DrumP w f g) := by
  obtain ⟨a1, c1, rfl, h1, n1⟩ := h1
  obtain ⟨a2, c2, rfl, h2, n2⟩ := h2
  have H1 := hid h1; have H2 := hid h2
  clear h1 h2
  go_enter Try.func56, Try.ntmps56
  go_wp2
  refine bodyPost_ret (results_cell_row rfl _ _ w.heap.size 24 _ (0, 0) _ rfl (heap_alloc_new w _) Try.underlying24 rfl (by kernel_rfl)) rfl ?_
  have hB := (Below.refl w.heap.size w).alloc (Nat.le_refl _) (.cells #[.slice a1 f.length c1, .slice a2 g.length c2] 24)
  exact ⟨_, rfl, ⟨_, _, rfl, ⟨a1, c1, rfl, H1.out.mono hB, n1⟩, ⟨a2, c2, rfl, H2.out.mono hB, n2⟩⟩, hB⟩

theorem mkDrum (w : World) (f g : List Int) (n m : Nat) (hn : f.length = n) (hm : g.length = m) (cf cg : Array Value) (hcf : cf = (f.map (Value.int .i64)).toArray) (hcg : cg = (g.map (Value.int .i64)).toArray) (R : Obj) :
    Sl (((w.alloc R).alloc (.cells cf 3)).alloc (.cells cg 3)) (.slice (some ⟨w.heap.size + 1, 0, none⟩) n n) f ∧
      Sl (((w.alloc R).alloc (.cells cf 3)).alloc (.cells cg 3)) (.slice (some ⟨w.heap.size + 1 + 1, 0, none⟩) m m) g ∧
      Below w.heap.size w (((w.alloc R).alloc (.cells cf 3)).alloc (.cells cg 3)) ∧ (((w.alloc R).alloc (.cells cf 3)).alloc (.cells cg 3)).heap[w.heap.size]? = some R := by
  subst hn; subst hm; subst hcf; subst hcg
  have s1 := slNew (w.alloc R) f
  have s2 := slNew ((w.alloc R).alloc (.cells (f.map (Value.int .i64)).toArray 3)) g
  have e1 : (w.alloc R).heap.size = w.heap.size + 1 := by simp
  have e2 : ((w.alloc R).alloc (.cells (f.map (Value.int .i64)).toArray 3)).heap.size = w.heap.size + 1 + 1 := by simp
  rw [e1] at s1
  rw [e2] at s2
  refine ⟨s1.mono ((Below.refl _ _).alloc (Nat.le_refl _) _), s2, (((Below.refl _ _).alloc (Nat.le_refl _) _).alloc (by simp) _).alloc (by simp; omega) _, ?_⟩
  rw [heap_push, heap_push, heap_push, Array.getElem?_push, if_neg (by simp only [Array.size_push]; omega), Array.getElem?_push, if_neg (by simp only [Array.size_push]; omega), Array.getElem?_push, if_pos rfl]

set_option maxHeartbeats 400000 in
theorem three_c (w : World) : Calls Try.prog 54 #[] w (DrumP w [0, 1, 1] [0, 0, 1]) := by
  go_enter Try.func54, Try.ntmps54
  go_wp2_with fail
  refine (of_c _ _).mono ?_
  rintro e w1 ⟨rfl, rfl⟩
  go_wp2_with fail
  refine (of_c _ _).mono ?_
  rintro e w1 ⟨rfl, rfl⟩
  obtain ⟨hs1, hs2, hB, hc⟩ := mkDrum w [0, 1, 1] [0, 0, 1] 3 3 rfl rfl _ _ rfl rfl (.cells #[.slice none 0 0, .slice none 0 0] 24 (0, 0))
  have Hsh := hid (shift_c _ _ [0, 1, 1] [0, 0, 1] _ hs1 hs2)
  have HB := hid hB; have Hc := hid hc
  clear hs1 hs2 hB hc
  go_wp2_with fail
  refine Hsh.out.mono ?_
  rintro e w2 ⟨v, rfl, ⟨_, _, rfl, ⟨a1, c1, rfl, h1, n1⟩, ⟨a2, c2, rfl, h2, n2⟩⟩, hB2⟩
  have hc2 := (hB2.block w.heap.size (by simp; omega)).trans Hc.out
  have d5 := cell_of_row w2 w.heap.size 0 _ _ _ hc2
  have d6 := cell_of_row w2 w.heap.size 1 _ _ _ hc2
  simp at d5 d6
  have hfr : ∀ k, w2.frozen? ⟨w.heap.size, k, none⟩ = false := fun k => frozen_of_row _ _ _ _ _ hc2
  have HB2 := hid (bstep HB.out hB2); have Hc2 := hid hc2; have H1 := hid h1; have H2 := hid h2
  clear hB2 hc2 h1 h2
  go_wp2
  have hO := (setCell_only w.heap.size 0 (.slice a1 ([0, 1, 1] : List Int).length c1) (w := w2)).trans (setCell_only w.heap.size 1 (.slice a2 ([0, 0, 1] : List Int).length c2))
  have hne := cell24_ne Hc2.out (by simp) (by simp)
  refine bodyPost_ret (results_cell_row rfl _ _ w.heap.size 24 _ (0, 0) _ rfl (set24 Hc2.out _ _) Try.underlying24 rfl (by kernel_rfl)) rfl ?_
  exact ⟨_, rfl, ⟨_, _, rfl, Sl.only ⟨a1, c1, rfl, H1.out, n1⟩ hO (fun c _ => hne c _), Sl.only ⟨a2, c2, rfl, H2.out, n2⟩ hO (fun c _ => hne c _)⟩, HB2.out.trans (hO.below HB2.out.size (by intro j hj; omega))⟩

set_option maxHeartbeats 400000 in
theorem one_c (w : World) : Calls Try.prog 52 #[] w (DrumP w [1] [1]) := by
  go_enter Try.func52, Try.ntmps52
  go_wp2_with fail
  refine (of_c _ _).mono ?_
  rintro e w1 ⟨rfl, rfl⟩
  go_wp2_with fail
  refine (of_c _ _).mono ?_
  rintro e w1 ⟨rfl, rfl⟩
  obtain ⟨hs1, hs2, hB, hc⟩ := mkDrum w [1] [1] 1 1 rfl rfl _ _ rfl rfl (.cells #[.slice none 0 0, .slice none 0 0] 24 (0, 0))
  have Hsh := hid (shift_c _ _ [1] [1] _ hs1 hs2)
  have HB := hid hB; have Hc := hid hc
  clear hs1 hs2 hB hc
  go_wp2_with fail
  refine Hsh.out.mono ?_
  rintro e w2 ⟨v, rfl, ⟨_, _, rfl, ⟨a1, c1, rfl, h1, n1⟩, ⟨a2, c2, rfl, h2, n2⟩⟩, hB2⟩
  have hc2 := (hB2.block w.heap.size (by simp; omega)).trans Hc.out
  have d5 := cell_of_row w2 w.heap.size 0 _ _ _ hc2
  have d6 := cell_of_row w2 w.heap.size 1 _ _ _ hc2
  simp at d5 d6
  have hfr : ∀ k, w2.frozen? ⟨w.heap.size, k, none⟩ = false := fun k => frozen_of_row _ _ _ _ _ hc2
  have HB2 := hid (bstep HB.out hB2); have Hc2 := hid hc2; have H1 := hid h1; have H2 := hid h2
  clear hB2 hc2 h1 h2
  go_wp2
  have hO := (setCell_only w.heap.size 0 (.slice a1 ([1] : List Int).length c1) (w := w2)).trans (setCell_only w.heap.size 1 (.slice a2 ([1] : List Int).length c2))
  have hne := cell24_ne Hc2.out (by simp) (by simp)
  refine bodyPost_ret (results_cell_row rfl _ _ w.heap.size 24 _ (0, 0) _ rfl (set24 Hc2.out _ _) Try.underlying24 rfl (by kernel_rfl)) rfl ?_
  exact ⟨_, rfl, ⟨_, _, rfl, Sl.only ⟨a1, c1, rfl, H1.out, n1⟩ hO (fun c _ => hne c _), Sl.only ⟨a2, c2, rfl, H2.out, n2⟩ hO (fun c _ => hne c _)⟩, HB2.out.trans (hO.below HB2.out.size (by intro j hj; omega))⟩

set_option maxHeartbeats 400000 in
theorem late_c (w : World) : Calls Try.prog 55 #[] w (DrumP w [1, 0] [0, 1]) := by
  go_enter Try.func55, Try.ntmps55
  go_wp2_with fail
  refine (of_c _ _).mono ?_
  rintro e w1 ⟨rfl, rfl⟩
  go_wp2_with fail
  refine (of_c _ _).mono ?_
  rintro e w1 ⟨rfl, rfl⟩
  obtain ⟨hs1, hs2, hB, hc⟩ := mkDrum w [1, 0] [0, 1] 2 2 rfl rfl _ _ rfl rfl (.cells #[.slice none 0 0, .slice none 0 0] 24 (0, 0))
  have Hsh := hid (shift_c _ _ [1, 0] [0, 1] _ hs1 hs2)
  have HB := hid hB; have Hc := hid hc
  clear hs1 hs2 hB hc
  go_wp2_with fail
  refine Hsh.out.mono ?_
  rintro e w2 ⟨v, rfl, ⟨_, _, rfl, ⟨a1, c1, rfl, h1, n1⟩, ⟨a2, c2, rfl, h2, n2⟩⟩, hB2⟩
  have hc2 := (hB2.block w.heap.size (by simp; omega)).trans Hc.out
  have d5 := cell_of_row w2 w.heap.size 0 _ _ _ hc2
  have d6 := cell_of_row w2 w.heap.size 1 _ _ _ hc2
  simp at d5 d6
  have hfr : ∀ k, w2.frozen? ⟨w.heap.size, k, none⟩ = false := fun k => frozen_of_row _ _ _ _ _ hc2
  have HB2 := hid (bstep HB.out hB2); have Hc2 := hid hc2; have H1 := hid h1; have H2 := hid h2
  clear hB2 hc2 h1 h2
  go_wp2
  have hO := (setCell_only w.heap.size 0 (.slice a1 ([1, 0] : List Int).length c1) (w := w2)).trans (setCell_only w.heap.size 1 (.slice a2 ([0, 1] : List Int).length c2))
  have hne := cell24_ne Hc2.out (by simp) (by simp)
  refine bodyPost_ret (results_cell_row rfl _ _ w.heap.size 24 _ (0, 0) _ rfl (set24 Hc2.out _ _) Try.underlying24 rfl (by kernel_rfl)) rfl ?_
  exact ⟨_, rfl, ⟨_, _, rfl, Sl.only ⟨a1, c1, rfl, H1.out, n1⟩ hO (fun c _ => hne c _), Sl.only ⟨a2, c2, rfl, H2.out, n2⟩ hO (fun c _ => hne c _)⟩, HB2.out.trans (hO.below HB2.out.size (by intro j hj; omega))⟩

end Go.Proofs.Ytjnijhnphhpilaa
