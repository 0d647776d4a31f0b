/- The laws, plain: one more reading. -/
import Derived.Test.YtnnojhpioenhbaaXQf
namespace Go.Proofs.Ytnnojhpioenhbaa
open Go.RowKit Go.Shelf

theorem agB_plumb {B : Bd} {R : Rd} {lv : Int} {i : Nat} (h : i < R.plumbs.length) : agB B R lv i = (decide ((nthP R.plumbs i).1 ≤ lv) && decide (lv ≤ (nthP R.plumbs i).2)) := by
  unfold agB; rw [if_neg (by omega)]
theorem agB_slot {B : Bd} {R : Rd} {lv : Int} {i : Nat} : agB B R lv (R.plumbs.length + i) = decide (0 < W (Rt B lv) B.pins.length (nth R.slots i).toNat) := by
  unfold agB; rw [if_pos (by omega), show R.plumbs.length + i - R.plumbs.length = i by omega]
theorem okL_iff {B : Bd} {R : Rd} {lv : Int} : okL B R lv = true ↔ (∀ i, i < R.plumbs.length → (nthP R.plumbs i).1 ≤ lv ∧ lv ≤ (nthP R.plumbs i).2) ∧ ∀ i, i < R.slots.length → 0 < W (Rt B lv) B.pins.length (nth R.slots i).toNat := by
  have hm : manyN R = R.plumbs.length + R.slots.length := rfl
  constructor
  · intro h
    have h2 := okL_ag h
    refine ⟨fun i hi => ?_, fun i hi => ?_⟩
    · have := h2 i (by omega)
      rw [agB_plumb hi] at this
      simpa using this
    · have := h2 (R.plumbs.length + i) (by omega)
      rw [agB_slot] at this
      simpa using this
  · rintro ⟨h1, h2⟩
    refine okL_of fun i hi => ?_
    by_cases hp : i < R.plumbs.length
    · rw [agB_plumb hp]
      simpa using h1 i hp
    · have e : i = R.plumbs.length + (i - R.plumbs.length) := by omega
      rw [e, agB_slot]
      simpa using h2 (i - R.plumbs.length) (by omega)
theorem nthP_left {xs ys : List (Int × Int)} {k : Nat} (h : k < xs.length) : nthP (xs ++ ys) k = nthP xs k := by
  unfold nthP; rw [List.getD_eq_getElem?_getD, List.getD_eq_getElem?_getD, List.getElem?_append_left h]
theorem nthP_new (xs : List (Int × Int)) (y : Int × Int) : nthP (xs ++ [y]) xs.length = y := by unfold nthP; simp [List.getD]
/-- one more reading -/
def moreR (B : Bd) (R : Rd) (pl : Bool) (lo hi : Int) (s : Nat) : Rd := if pl = true then ⟨R.plumbs ++ [(lo, hi)], R.slots⟩ else ⟨R.plumbs, R.slots ++ [(s : Int)]⟩
theorem more_rok {B : Bd} {R : Rd} (h : Rok2 B R) (hm : manyN R < 12) (pl : Bool) {lo hi : Int} {s : Nat} (h1 : lo ≤ hi ∧ -5 ≤ lo ∧ hi ≤ 5) (hs : s ≤ B.pins.length) : Rok2 B (moreR B R pl lo hi s) := by
  have e : manyN R = R.plumbs.length + R.slots.length := rfl
  cases pl
  · refine ⟨?_, h.plumb, fun i hi => ?_⟩
    · show R.plumbs.length + (R.slots ++ [(s : Int)]).length ≤ 12
      simp; omega
    · show 0 ≤ nth (R.slots ++ [(s : Int)]) i ∧ nth (R.slots ++ [(s : Int)]) i ≤ (B.pins.length : Int)
      have hi2 : i < (R.slots ++ [(s : Int)]).length := hi
      by_cases hl : i < R.slots.length
      · rw [nth_append_left hl]; exact h.slot i hl
      · have : i = R.slots.length := by simp at hi2; omega
        subst this
        have : nth (R.slots ++ [(s : Int)]) R.slots.length = (s : Int) := by unfold nth; simp [List.getD]
        rw [this]; omega
  · refine ⟨?_, fun i hi => ?_, h.slot⟩
    · show (R.plumbs ++ [(lo, hi)]).length + R.slots.length ≤ 12
      simp; omega
    · rename_i hi'
      show (nthP (R.plumbs ++ [(lo, hi')]) i).1 ≤ (nthP (R.plumbs ++ [(lo, hi')]) i).2 ∧ -5 ≤ (nthP (R.plumbs ++ [(lo, hi')]) i).1 ∧ (nthP (R.plumbs ++ [(lo, hi')]) i).2 ≤ 5
      have hi2 : i < (R.plumbs ++ [(lo, hi')]).length := hi
      by_cases hl : i < R.plumbs.length
      · rw [nthP_left hl]; exact h.plumb i hl
      · have : i = R.plumbs.length := by simp at hi2; omega
        subst this
        rw [nthP_new]; exact h1
theorem more_ok {B : Bd} {R : Rd} {pl : Bool} {lo hi : Int} {s : Nat} {lv : Int} (h : okL B (moreR B R pl lo hi s) lv = true) : okL B R lv = true := by
  obtain ⟨h1, h2⟩ := okL_iff.1 h
  refine okL_iff.2 ?_
  cases pl
  · refine ⟨h1, fun i hj => ?_⟩
    have := h2 i (by show i < (R.slots ++ [(s : Int)]).length; simp; omega)
    have e : nth (moreR B R false lo hi s).slots i = nth R.slots i := nth_append_left hj
    rwa [e] at this
  · refine ⟨fun i hj => ?_, h2⟩
    have := h1 i (by show i < (R.plumbs ++ [(lo, hi)]).length; simp; omega)
    have e : nthP (moreR B R true lo hi s).plumbs i = nthP R.plumbs i := nthP_left hj
    rwa [e] at this
theorem lowZ_le (f : Nat → Int) : ∀ k i, i ≤ k → lowZ f k ≤ f i := by
  intro k
  induction k with
  | zero => intro i hi; obtain rfl : i = 0 := by omega
            exact Int.le_refl _
  | succ k ih =>
    intro i hi
    rw [lowZ]
    split
    · rename_i h
      by_cases e : i = k + 1
      · subst e; exact Int.le_refl _
      · have := ih i (by omega); omega
    · rename_i h
      by_cases e : i = k + 1
      · subst e; omega
      · exact ih i (by omega)
theorem lowZ_mem (f : Nat → Int) : ∀ k, ∃ i, i ≤ k ∧ lowZ f k = f i := by
  intro k
  induction k with
  | zero => exact ⟨0, Nat.le_refl _, rfl⟩
  | succ k ih =>
    obtain ⟨i, hi, e⟩ := ih
    rw [lowZ]
    split
    · exact ⟨k + 1, Nat.le_refl _, rfl⟩
    · exact ⟨i, by omega, e⟩
theorem highZ_ge (f : Nat → Int) : ∀ k i, i ≤ k → f i ≤ highZ f k := by
  intro k
  induction k with
  | zero => intro i hi; obtain rfl : i = 0 := by omega
            exact Int.le_refl _
  | succ k ih =>
    intro i hi
    rw [highZ]
    split
    · rename_i h
      by_cases e : i = k + 1
      · subst e; exact Int.le_refl _
      · have := ih i (by omega); omega
    · rename_i h
      by_cases e : i = k + 1
      · subst e; omega
      · exact ih i (by omega)
theorem highZ_mem (f : Nat → Int) : ∀ k, ∃ i, i ≤ k ∧ highZ f k = f i := by
  intro k
  induction k with
  | zero => exact ⟨0, Nat.le_refl _, rfl⟩
  | succ k ih =>
    obtain ⟨i, hi, e⟩ := ih
    rw [highZ]
    split
    · exact ⟨k + 1, Nat.le_refl _, rfl⟩
    · exact ⟨i, by omega, e⟩
/-- what holds with one more reading -/
theorem narrow_ok {B : Bd} {R S : Rd} (hB : Bok B) (hR : readErr B R = 0) (hS : readErr B S = 0) (hsub : ∀ lv, okL B S lv = true → okL B R lv = true) (hS0 : levErr B S = 0) {q : Int × Int} (hq : promB q = true) :
    (levErr B R = 0 ∧ (levX B R = levelsL B R ∧ levX B S = levelsL B S) ∧ ∀ x, x ∈ levelsL B S → x ∈ levelsL B R) ∧
    ((payB (spanLo B R) = true ∧ payB (spanHi B R) = true) ∧ payB (spanLo B S) = true ∧ payB (spanHi B S) = true) ∧
    (lessP (spanLo B S) (spanLo B R) = false ∧ lessP (spanHi B R) (spanHi B S) = false ∧ lessP (spanHi B S) (spanLo B S) = false) ∧
    (broErr B R q = 0 ∨ broErr B R q = 5 ∧ broErr B S q = 5) ∧ (broErr B S q = 0 ∨ broErr B S q = 5) := by
  obtain ⟨_, hS1, hS2⟩ := levErr_zero hS0
  have hin : ∀ x, x ∈ levelsL B S → x ∈ levelsL B R := fun x hx => by
    obtain ⟨h1, h2⟩ := levels_mem.1 hx
    exact levels_mem.2 ⟨h1, hsub x h2⟩
  have hR1 : ¬ levelsL B R = [] := fun h => by
    obtain ⟨x, hx⟩ := List.exists_mem_of_ne_nil _ hS1
    have := hin x hx
    rw [h] at this; cases this
  have hR0 : levErr B R = 0 := by unfold levErr; rw [if_pos hR, if_neg hR1]
  obtain ⟨_, _, hR2⟩ := levErr_zero hR0
  have hlR : 0 < (levelsL B R).length := List.length_pos_iff.2 hR1
  have hlS : 0 < (levelsL B S).length := List.length_pos_iff.2 hS1
  have hidx : ∀ i, i < (levelsL B S).length → ∃ j, j < (levelsL B R).length ∧ nth (levelsL B R) j = nth (levelsL B S) i := fun i hi => by
    have h1 := hin _ (nth_mem hi)
    obtain ⟨j, hj, e⟩ := List.getElem_of_mem h1
    exact ⟨j, hj, by rw [nth_eq hj]; exact e⟩
  obtain ⟨a1, a2⟩ := span_lst hB hR0
  obtain ⟨b1, b2⟩ := span_lst hB hS0
  have hp : promErr B R q = 0 := by unfold promErr; rw [if_pos hR, if_pos hq]
  have hpS : promErr B S q = 0 := by unfold promErr; rw [if_pos hS, if_pos hq]
  have eR : broErr B R q = if (levelsL B R).find? (brB B R q) = none then 5 else 0 := by unfold broErr; rw [if_pos hp, if_neg hR1]
  have eS : broErr B S q = if (levelsL B S).find? (brB B S q) = none then 5 else 0 := by unfold broErr; rw [if_pos hpS, if_neg hS1]
  refine ⟨⟨hR0, ⟨hR2, hS2⟩, hin⟩, ⟨span_payB hB hR0, span_payB hB hS0⟩, ⟨?_, ?_, ?_⟩, ?_, ?_⟩
  · rw [a1, b1, lessP_pay hB]
    refine decide_eq_false fun h => ?_
    obtain ⟨i, hi, e⟩ := lowZ_mem (fun k => payN B (nth (levelsL B S) k)) ((levelsL B S).length - 1)
    obtain ⟨j, hj, ej⟩ := hidx i (by omega)
    have := lowZ_le (fun k => payN B (nth (levelsL B R) k)) ((levelsL B R).length - 1) j (by omega)
    rw [ej] at this
    omega
  · rw [a2, b2, lessP_pay hB]
    refine decide_eq_false fun h => ?_
    obtain ⟨i, hi, e⟩ := highZ_mem (fun k => payN B (nth (levelsL B S) k)) ((levelsL B S).length - 1)
    obtain ⟨j, hj, ej⟩ := hidx i (by omega)
    have := highZ_ge (fun k => payN B (nth (levelsL B R) k)) ((levelsL B R).length - 1) j (by omega)
    rw [ej] at this
    omega
  · rw [b1, b2, lessP_pay hB]
    refine decide_eq_false fun h => ?_
    have h1 := lowZ_le (fun k => payN B (nth (levelsL B S) k)) ((levelsL B S).length - 1) 0 (by omega)
    have h2 := highZ_ge (fun k => payN B (nth (levelsL B S) k)) ((levelsL B S).length - 1) 0 (by omega)
    omega
  · rw [eR, eS]
    by_cases h : (levelsL B R).find? (brB B R q) = none
    · have hS3 : (levelsL B S).find? (brB B S q) = none := by
        rw [List.find?_eq_none] at h ⊢
        intro x hx hb
        refine h x (hin x hx) ?_
        unfold brB at hb ⊢
        rw [Bool.and_eq_true] at hb ⊢
        exact ⟨hsub x hb.1, hb.2⟩
      rw [if_pos h, if_pos hS3]; exact .inr ⟨rfl, rfl⟩
    · rw [if_neg h]; exact .inl rfl
  · rw [eS]; split
    · exact .inr rfl
    · exact .inl rfl

end Go.Proofs.Ytnnojhpioenhbaa
