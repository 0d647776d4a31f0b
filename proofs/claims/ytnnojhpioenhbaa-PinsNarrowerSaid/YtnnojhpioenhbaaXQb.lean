/- The laws, plain: sums of falls and of ways back. -/
import Derived.Test.YtnnojhpioenhbaaXQa
namespace Go.Proofs.Ytnnojhpioenhbaa
open Go.RowKit Go.Shelf

theorem sumTo_mid {f : Nat → Int} {n : Nat} (h : ∀ j, j < n → 0 ≤ f j) : ∀ k, k ≤ n → 0 ≤ sumTo f k ∧ sumTo f k ≤ sumTo f n := by
  induction n with
  | zero => intro k hk; obtain rfl : k = 0 := by omega
            exact ⟨Int.le_refl _, Int.le_refl _⟩
  | succ n ih =>
    intro k hk
    have hn := h n (by omega)
    have hm := ih (fun j hj => h j (by omega))
    have e : sumTo f (n + 1) = sumTo f n + f n := rfl
    by_cases hkn : k = n + 1
    · subst hkn; have := hm n (Nat.le_refl _); exact ⟨by omega, Int.le_refl _⟩
    · have := hm k (by omega); have h2 := hm n (Nat.le_refl _); omega
theorem pow8 {n : Nat} (h : n ≤ 8) : (10 : Int) ^ n ≤ 100000000 := by
  have h1 : 10 ^ n ≤ 10 ^ 8 := Nat.pow_le_pow_right (by omega) h
  have h2 : ((10 ^ n : Nat) : Int) ≤ ((10 ^ 8 : Nat) : Int) := Int.ofNat_le.2 h1
  simpa using h2
/-- the ways back to a slot, as the program tells them -/
theorem back_ok {B : Bd} {lv : Int} (hB : Bok B) (hlv : -5 ≤ lv ∧ lv ≤ 5) {k : Nat} (hk : k ≤ B.pins.length) :
    backErr B lv (k : Int) = 0 ∧ (backX B lv (k : Int)).length = B.pins.length ∧ ∀ r, r < B.pins.length → (nthL (backX B lv (k : Int)) r).length = r + 1 ∧ ∀ j, j ≤ r → nth (nthL (backX B lv (k : Int)) r) j = Fb (Rt B lv) B.pins.length k (B.pins.length - r) j := by
  have h0 : atErr B lv = 0 := atErr_zero.2 ⟨hB, hlv⟩
  have h1 : backErr B lv (k : Int) = 0 := by
    unfold backErr; rw [if_pos h0, if_pos (within_one.2 (by omega))]
  have e : backX B lv (k : Int) = backL (Rt B lv) B.pins.length k := by unfold backX; rw [if_pos h1, Int.toNat_natCast]
  have el : (backL (Rt B lv) B.pins.length k).length = B.pins.length := by simp [backL]
  refine ⟨h1, by rw [e, el], fun r hr => ?_⟩
  have e2 : nthL (backL (Rt B lv) B.pins.length k) r = bkRow (Rt B lv) B.pins.length k (B.pins.length - r) := by
    rw [nthL_eq (by rw [el]; exact hr)]; simp [backL]
  rw [e, e2, bkRow_len]
  refine ⟨by omega, fun j hj => bkRow_nth _ _ _ _ (by omega)⟩
/-- the sums of all slots -/
theorem summed_ok {B : Bd} {lv : Int} (hB : Bok B) {r j : Nat} (hr : r < B.pins.length) (hj : j ≤ r) :
    (sumTo (W (Rt B lv) B.pins.length) (B.pins.length + 1) = 10 ^ B.pins.length ∧ ∀ k, k ≤ B.pins.length + 1 → 0 ≤ sumTo (W (Rt B lv) B.pins.length) k ∧ sumTo (W (Rt B lv) B.pins.length) k ≤ 100000000) ∧
    (sumTo (fun s => Fb (Rt B lv) B.pins.length s (B.pins.length - r) j) (B.pins.length + 1) = 10 ^ (B.pins.length - r) ∧
      ∀ k, k ≤ B.pins.length + 1 → 0 ≤ sumTo (fun s => Fb (Rt B lv) B.pins.length s (B.pins.length - r) j) k ∧ sumTo (fun s => Fb (Rt B lv) B.pins.length s (B.pins.length - r) j) k ≤ 100000000) ∧
    (∀ k, k ≤ B.pins.length → 0 ≤ W (Rt B lv) B.pins.length k ∧ W (Rt B lv) B.pins.length k ≤ 100000000) ∧
    ∀ k, k ≤ B.pins.length → 0 ≤ Fb (Rt B lv) B.pins.length k (B.pins.length - r) j ∧ Fb (Rt B lv) B.pins.length k (B.pins.length - r) j ≤ 100000000 := by
  have hG := Rt_ok B lv B.pins.length
  have hn := hB.n8
  have s1 := W_sum (Rt B lv) B.pins.length
  have s2 := Fb_sum (Rt B lv) B.pins.length (B.pins.length - r) (by omega) j (by omega)
  have p1 := pow8 hn
  have p2 := pow8 (n := B.pins.length - r) (by omega)
  have b1 := W_nonneg hG
  have b2 : ∀ k, 0 ≤ Fb (Rt B lv) B.pins.length k (B.pins.length - r) j := fun k => Fb_nonneg hG _ (by omega) _ (by omega)
  refine ⟨⟨s1, fun k hk => ?_⟩, ⟨s2, fun k hk => ?_⟩, fun k hk => ⟨b1 k, Int.le_trans (W_le hG k) p1⟩, fun k hk => ⟨b2 k, Int.le_trans (Fb_le hG hk (by omega) (by omega)) p2⟩⟩
  · have := sumTo_mid (fun j _ => b1 j) k hk; rw [s1] at this; omega
  · have := sumTo_mid (f := fun s => Fb (Rt B lv) B.pins.length s (B.pins.length - r) j) (fun k _ => b2 k) k hk; rw [s2] at this; omega

end Go.Proofs.Ytnnojhpioenhbaa
