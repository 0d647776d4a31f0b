/- The layer, plain: at most 12 weighings are needed, where some number is enough. -/
import Derived.Test.YtelgbjfgmpkepaaKR
import Derived.Test.YtelgbjfgmpkepaaXQc
namespace Go.Proofs.Ytelgbjfgmpkepaa
open Go.RowKit Go.Shelf

def fewB (g l h b z : Nat) : Bool := decide (l + h + b ≤ 3 ∧ 0 < l + h + 2 * b + z) == false || ((nd 99 ⟨g, l, h, b, z⟩ == 99 && decide (g < 2)) || decide (nd 99 ⟨g, l, h, b, z⟩ ≤ 4))
theorem few_all : (List.range 13).all (fun g => (List.range 4).all fun l => (List.range 4).all fun h => (List.range 4).all fun b => (List.range 2).all fun z => fewB g l h b z) = true := by decide +kernel
theorem few_of {c : Cnt} (hf : c.fine) (hs : c.l + c.h + c.b ≤ 3) (h0 : 0 < c.cases) : (nd 1000 c = 1000 ∧ c.g < 2) ∨ nd 1000 c ≤ 4 := by
  obtain ⟨g, l, h, b, z⟩ := c
  unfold Cnt.fine at hf
  unfold Cnt.cases at h0
  simp only at hf hs h0
  have e := List.all_eq_true.1 (List.all_eq_true.1 (List.all_eq_true.1 (List.all_eq_true.1 (List.all_eq_true.1 few_all g (List.mem_range.2 (by omega))) l (List.mem_range.2 (by omega))) h (List.mem_range.2 (by omega))) b (List.mem_range.2 (by omega))) z (List.mem_range.2 (by omega))
  have h1000 := nd1000 (c := ⟨g, l, h, b, z⟩) (by unfold Cnt.cases; simp only; omega) (by unfold Cnt.cases; simp only; omega)
  unfold fewB at e
  rw [decide_eq_true ⟨hs, h0⟩] at e
  simp only [Bool.or_eq_true, Bool.and_eq_true, decide_eq_true_eq, beq_iff_eq] at e
  rcases e with e | ⟨e, e2⟩ | e
  · cases e
  · left; rw [h1000, if_pos e]; exact ⟨rfl, e2⟩
  · right; rw [h1000, if_neg (by omega)]; exact e
theorem few_can {c : Cnt} (hf : c.fine) (hs : c.l + c.h + c.b ≤ 3) (hg : 2 ≤ c.g) (h0 : 0 < c.cases) : Can 4 c := by
  rcases few_of hf hs h0 with ⟨_, h⟩ | h
  · omega
  · exact (nd_can _ (Nat.le_refl _) h0 (by omega)).mono h
/-- two coppers of one kind are weighed against each other -/
theorem pair_can : ∀ (k : Nat) (c : Cnt), c.fine → c.l + c.h + c.b ≤ 2 * k + 3 → (c.l + c.h + c.b ≤ 3 → 2 ≤ c.g) → 0 < c.cases → Can (4 + k) c
  | 0, c, hf, hs, hg, h0 => few_can hf (by omega) (hg (by omega)) h0
  | k + 1, c, hf, hs, hg, h0 => by
    by_cases h3 : c.l + c.h + c.b ≤ 3
    · exact (few_can hf h3 (hg h3) h0).mono (by omega)
    · have hf2 := hf
      unfold Cnt.fine at hf2
      have hcs : 1 < c.cases := by unfold Cnt.cases; omega
      have side : ∀ (l h : Nat), l + h ≤ 2 → 0 < l + h → (c.kept l h 0 0).cases = 0 ∨ ((c.kept l h 0 0).cases < c.cases ∧ Can (4 + k) (c.kept l h 0 0)) := fun l h h1 h2 => by
        right
        refine ⟨by unfold Cnt.kept Cnt.cases; simp only; omega, (few_can ?_ ?_ ?_ ?_).mono (by omega)⟩
        · unfold Cnt.fine Cnt.kept; simp only; omega
        · unfold Cnt.kept; simp only; omega
        · unfold Cnt.kept; simp only; omega
        · unfold Cnt.kept Cnt.cases; simp only; omega
      have even : ∀ (l h b : Nat), l + h + b + 2 = c.l + c.h + c.b → l ≤ c.l → h ≤ c.h → b ≤ c.b → (c.kept l h b c.z).cases = 0 ∨ ((c.kept l h b c.z).cases < c.cases ∧ Can (4 + k) (c.kept l h b c.z)) := fun l h b h1 h2 h4 h5 => by
        right
        refine ⟨by unfold Cnt.kept Cnt.cases; simp only; omega, pair_can k _ ?_ ?_ (fun _ => ?_) ?_⟩
        · unfold Cnt.fine Cnt.kept; simp only; omega
        · unfold Cnt.kept; simp only; omega
        · unfold Cnt.kept; simp only; omega
        · unfold Cnt.kept Cnt.cases; simp only; omega
      refine .inr ⟨hcs, ?_⟩
      by_cases hl : 2 ≤ c.l
      · refine ⟨⟨1, 1, 0, 0, 0, 0⟩, ⟨hl, by simp, by simp, by simp [Pn.left, Pn.right], by simp [Pn.left, Pn.right]⟩, fun x hx => ?_⟩
        rcases hx with rfl | rfl | rfl
        · exact side 1 0 (by omega) (by omega)
        · exact side 1 0 (by omega) (by omega)
        · exact even (c.l - 1 - 1) c.h c.b (by omega) (by omega) (by omega) (by omega)
      · by_cases hh : 2 ≤ c.h
        · refine ⟨⟨0, 0, 1, 1, 0, 0⟩, ⟨by simp, hh, by simp, by simp [Pn.left, Pn.right], by simp [Pn.left, Pn.right]⟩, fun x hx => ?_⟩
          rcases hx with rfl | rfl | rfl
          · exact side 0 1 (by omega) (by omega)
          · exact side 0 1 (by omega) (by omega)
          · exact even c.l (c.h - 1 - 1) c.b (by omega) (by omega) (by omega) (by omega)
        · refine ⟨⟨0, 0, 0, 0, 1, 1⟩, ⟨by simp, by simp, by simp only; omega, by simp [Pn.left, Pn.right], by simp [Pn.left, Pn.right]⟩, fun x hx => ?_⟩
          rcases hx with rfl | rfl | rfl
          · exact side 1 1 (by omega) (by omega)
          · exact side 1 1 (by omega) (by omega)
          · exact even c.l c.h (c.b - 1 - 1) (by omega) (by omega) (by omega) (by omega)
theorem nd_12 {c : Cnt} (hf : c.fine) (h0 : 0 < c.cases) (hn : nd 1000 c < 1000) : nd 1000 c ≤ 12 := by
  by_cases h3 : c.l + c.h + c.b ≤ 3
  · rcases few_of hf h3 h0 with ⟨h, _⟩ | h <;> omega
  · have hf2 := hf
    unfold Cnt.fine at hf2
    have := (can_nd 1000 (pair_can 5 c hf (by omega) (fun h => absurd h h3) h0)).1
    omega

end Go.Proofs.Ytelgbjfgmpkepaa
