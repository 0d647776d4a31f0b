/- The laws, plain: the falls of all paths. -/
import Derived.Test.YtnnojhpioenhbaaXQc
namespace Go.Proofs.Ytnnojhpioenhbaa
open Go.RowKit Go.Shelf

theorem beforeL_lexB : ∀ a b : List Int, beforeL a b = lexB a b
  | [], [] => rfl
  | [], _ :: _ => rfl
  | _ :: _, [] => rfl
  | x :: a, y :: b => by unfold beforeL lexB; rw [beforeL_lexB a b]
theorem sumTo_list : ∀ xs : List Int, sumTo (nth xs) xs.length = xs.sum
  | [] => rfl
  | x :: xs => by
    rw [List.length_cons, sumTo_head, List.sum_cons, ← sumTo_list xs]
    rfl
theorem numb_nth (n i : Nat) {k : Nat} (hk : k < n) : nth (numb n i) k = 0 ∨ nth (numb n i) k = 1 := numb_mem n i _ (nth_mem (by rw [numb_len]; exact hk))
theorem psum_ok (n i : Nat) : ∀ k, k ≤ n → 0 ≤ sumTo (nth (numb n i)) k ∧ sumTo (nth (numb n i)) k ≤ (k : Int) := by
  intro k
  induction k with
  | zero => intro _; exact ⟨Int.le_refl _, Int.le_refl _⟩
  | succ k ih =>
    intro hk
    have h1 := ih (by omega)
    have h2 := numb_nth n i (k := k) (by omega)
    have e : sumTo (nth (numb n i)) (k + 1) = sumTo (nth (numb n i)) k + nth (numb n i) k := rfl
    omega
theorem psum_slot (R : Nat → Nat → Int) (n i : Nat) : sumTo (nth (numb n i)) n = (slotOf R (numb n i) : Nat) := by
  have := sumTo_list (numb n i)
  rw [numb_len] at this
  rw [this, (slotOf_sum R n i).1]
theorem fallen_ok {B : Bd} {lv : Int} (hB : Bok B) (hlv : -5 ≤ lv ∧ lv ≤ 5) : ∃ b, b < 2 ^ B.pins.length ∧ pathX B lv = numb B.pins.length b ∧
    (∀ i, fallsErr B lv (numb B.pins.length i) = 0 ∧ fallsX B lv (numb B.pins.length i) = falN B lv i) ∧
    (∀ i, 0 ≤ falN B lv i ∧ falN B lv i ≤ 100000000) ∧ (∀ i, i < 2 ^ B.pins.length → falN B lv i ≤ falN B lv b) ∧
    (∀ i, i < 2 ^ B.pins.length → falN B lv i = falN B lv b → beforeL (numb B.pins.length i) (numb B.pins.length b) = false) ∧
    ∀ s, sumTo (fun i => if slotOf (Rt B lv) (numb B.pins.length i) = s then falN B lv i else 0) (2 ^ B.pins.length) = W (Rt B lv) B.pins.length s := by
  have h0 : atErr B lv = 0 := atErr_zero.2 ⟨hB, hlv⟩
  have hG := Rt_ok B lv B.pins.length
  have hpos : 0 < 2 ^ B.pins.length := Nat.pow_pos (by omega)
  refine ⟨bestN (falN B lv) (2 ^ B.pins.length), bestN_lt _ _ hpos, by unfold pathX; rw [if_pos h0], fun i => ?_, fun i => ?_, bestN_le _ _, fun i hi he => ?_, fun s => falls_sum _ _ s⟩
  · have e : fallsErr B lv (numb B.pins.length i) = 0 := by
      unfold fallsErr
      rw [if_pos h0, if_pos (numb_len _ _), if_pos]
      refine List.all_eq_true.2 fun x hx => ?_
      have := numb_mem _ _ _ hx
      simp only [Bool.and_eq_true, decide_eq_true_eq]; omega
    exact ⟨e, by unfold fallsX; rw [if_pos e]; rfl⟩
  · have := fallsOf_nonneg hG i
    have h2 := pow8 hB.n8
    exact ⟨this.1, Int.le_trans this.2 h2⟩
  · rw [beforeL_lexB, lexB_numb _ _ _ hi (bestN_lt _ _ hpos)]
    refine decide_eq_false fun h => ?_
    have := bestN_first (falN B lv) (2 ^ B.pins.length) i h
    omega

end Go.Proofs.Ytnnojhpioenhbaa
