/- The layer, plain: the weighing that is laid by numbers. -/
import Derived.Test.YtelgbjfgmpkepaaKQ
namespace Go.Proofs.Ytelgbjfgmpkepaa
open Go.RowKit Go.Shelf

/-- the number that is drawn for a copper -/
def drawn (bs : List Nat) (k : Nat) : Int := (((bs.getD (k % bs.length) 0) % 3 : Nat) : Int) - 1
/-- the sum of both pans behind k coppers -/
def laidS (n : Nat) (bs : List Nat) : Nat → Int
  | 0 => 0
  | k + 1 => if max (laidS n bs k + drawn bs k) (-(laidS n bs k) - drawn bs k) < (n : Int) - (k : Int) then laidS n bs k + drawn bs k else if 0 < laidS n bs k then laidS n bs k - 1 else if laidS n bs k < 0 then laidS n bs k + 1 else laidS n bs k
def laidV (n : Nat) (bs : List Nat) (k : Nat) : Int := if max (laidS n bs k + drawn bs k) (-(laidS n bs k) - drawn bs k) < (n : Int) - (k : Int) then drawn bs k else if 0 < laidS n bs k then -1 else if laidS n bs k < 0 then 1 else 0
/-- the weighing -/
def laidL (n : Nat) (bs : List Nat) : List Int := if bs = [] then List.replicate n 0 else (List.range n).map (laidV n bs)
theorem drawn_range (bs : List Nat) (k : Nat) : -1 ≤ drawn bs k ∧ drawn bs k ≤ 1 := by
  unfold drawn; omega
theorem laidS_step (n : Nat) (bs : List Nat) (k : Nat) : laidS n bs (k + 1) = laidS n bs k + laidV n bs k := by
  unfold laidV
  simp only [laidS]
  split
  · rfl
  · split
    · omega
    · split <;> omega
theorem laidS_le (n : Nat) (bs : List Nat) : ∀ k, k ≤ n → -((n : Int) - (k : Int)) ≤ laidS n bs k ∧ laidS n bs k ≤ (n : Int) - (k : Int)
  | 0, _ => by simp only [laidS]; omega
  | k + 1, h => by
    have ih := laidS_le n bs k (by omega)
    simp only [laidS]
    split
    · omega
    · split
      · omega
      · split <;> omega
theorem laidL_len (n : Nat) (bs : List Nat) : (laidL n bs).length = n := by
  unfold laidL; split <;> simp
theorem laid_ok (n : Nat) (bs : List Nat) : WOk n (laidL n bs) := by
  refine ⟨laidL_len _ _, fun k hk => ?_⟩
  rw [nth_eq (by rw [laidL_len]; exact hk)]
  unfold laidL
  split
  · simp
  · rw [List.getElem_map, List.getElem_range]
    unfold laidV
    have := drawn_range bs k
    split
    · exact this
    · split
      · omega
      · split <;> omega
theorem laid_sumTo (n : Nat) (bs : List Nat) : ∀ k, ((List.range k).map (laidV n bs)).sum = laidS n bs k
  | 0 => rfl
  | k + 1 => by
    rw [List.range_succ, List.map_append, List.sum_append, laid_sumTo n bs k, laidS_step]
    simp
theorem laid_sum (n : Nat) (bs : List Nat) : (laidL n bs).sum = 0 := by
  unfold laidL
  split
  · simp
  · rw [laid_sumTo]
    have := laidS_le n bs n (Nat.le_refl _)
    omega
theorem laid_valid {K : Kn} (hk : Kok K) (bs : List Nat) : kwErr K (laidL K.cop.length bs) = 0 := kw_of hk (laid_ok _ _) (laid_sum _ _)
/-- the first k numbers, and none behind them -/
def laidO (n : Nat) (bs : List Nat) (k : Nat) : List Int := (List.range n).map fun i => if i < k then laidV n bs i else 0
theorem laidO_len (n : Nat) (bs : List Nat) (k : Nat) : (laidO n bs k).length = n := by simp [laidO]
theorem laidO_nth {n : Nat} {bs : List Nat} {k i : Nat} (h : i < n) : nth (laidO n bs k) i = if i < k then laidV n bs i else 0 := by
  rw [nth_eq (by rw [laidO_len]; exact h)]; simp [laidO]
theorem laidO_set {n : Nat} {bs : List Nat} {k : Nat} : (laidO n bs k).set k (laidV n bs k) = laidO n bs (k + 1) := by
  refine ext_nth (by rw [List.length_set, laidO_len, laidO_len]) fun j hj => ?_
  rw [List.length_set, laidO_len] at hj
  rw [nth_eq (by rw [List.length_set, laidO_len]; exact hj), List.getElem_set, laidO_nth hj]
  by_cases e : k = j
  · subst e; rw [if_pos rfl, if_pos (by omega)]
  · rw [if_neg e, ← nth_eq (by rw [laidO_len]; exact hj), laidO_nth hj]
    by_cases h1 : j < k
    · rw [if_pos h1, if_pos (by omega)]
    · rw [if_neg h1, if_neg (by omega)]
theorem laidO_skip {n : Nat} {bs : List Nat} {k : Nat} (h0 : laidV n bs k = 0) : laidO n bs k = laidO n bs (k + 1) := by
  refine ext_nth (by rw [laidO_len, laidO_len]) fun j hj => ?_
  rw [laidO_len] at hj
  rw [laidO_nth hj, laidO_nth hj]
  by_cases e : j = k
  · subst e; rw [if_neg (by omega), if_pos (by omega), h0]
  · by_cases h1 : j < k
    · rw [if_pos h1, if_pos (by omega)]
    · rw [if_neg h1, if_neg (by omega)]
theorem laidO_zero (n : Nat) (bs : List Nat) : laidO n bs 0 = List.replicate n 0 := by
  refine ext_nth (by rw [laidO_len, List.length_replicate]) fun j hj => ?_
  rw [laidO_len] at hj
  rw [laidO_nth hj, nth_eq (by rw [List.length_replicate]; exact hj)]
  simp
theorem laidO_end (n : Nat) (bs : List Nat) (h : bs ≠ []) : laidO n bs n = laidL n bs := by
  refine ext_nth (by rw [laidO_len, laidL_len]) fun j hj => ?_
  rw [laidO_len] at hj
  rw [laidO_nth hj, nth_eq (by rw [laidL_len]; exact hj), if_pos hj]
  unfold laidL
  simp [h]

end Go.Proofs.Ytelgbjfgmpkepaa
