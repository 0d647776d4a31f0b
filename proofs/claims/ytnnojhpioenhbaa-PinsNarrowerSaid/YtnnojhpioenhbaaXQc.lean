/- The laws, plain: a board without its last row. -/
import Derived.Test.YtnnojhpioenhbaaXQb
namespace Go.Proofs.Ytnnojhpioenhbaa
open Go.RowKit Go.Shelf

theorem nth_take2 {xs : List Int} {n k : Nat} (h : k < n) : nth (xs.take n) k = nth xs k := by
  unfold nth; rw [List.getD_eq_getElem?_getD, List.getD_eq_getElem?_getD, List.getElem?_take_of_lt h]
theorem nthL_take2 {xs : List (List Int)} {n k : Nat} (h : k < n) : nthL (xs.take n) k = nthL xs k := by
  unfold nthL; rw [List.getD_eq_getElem?_getD, List.getD_eq_getElem?_getD, List.getElem?_take_of_lt h]
/-- a board without its last row -/
def cutB (B : Bd) (m : Nat) : Bd := ⟨B.pins.take m, B.pays.take (m + 1)⟩
theorem cut_bok {B : Bd} (hB : Bok B) {m : Nat} (hm : B.pins.length = m + 1) (h1 : 1 ≤ m) : Bok (cutB B m) ∧ (cutB B m).pins.length = m ∧ (cutB B m).pays.length = m + 1 := by
  have hn := hB.n8; have hp := hB.pays
  have e1 : (cutB B m).pins.length = m := by simp [cutB]; omega
  have e2 : (cutB B m).pays.length = m + 1 := by simp [cutB]; omega
  refine ⟨⟨by omega, by omega, fun r hr => ?_, by omega, fun r k hr hk => ?_, fun i hi => ?_⟩, e1, e2⟩
  · rw [e1] at hr
    have : nthL (cutB B m).pins r = nthL B.pins r := nthL_take2 hr
    rw [this]; exact hB.row r (by omega)
  · rw [e1] at hr
    have : nthL (cutB B m).pins r = nthL B.pins r := nthL_take2 hr
    rw [this]; exact hB.pin r k (by omega) hk
  · rw [e1] at hi
    have : nth (cutB B m).pays i = nth B.pays i := nth_take2 (by omega)
    rw [this]; exact hB.pay i (by omega)
theorem cut_W {B : Bd} {m : Nat} (lv : Int) (j : Nat) : W (Rt (cutB B m) lv) m j = W (Rt B lv) m j :=
  W_congr (n := m) (fun r k hr _ => by
    have : nthL (cutB B m).pins r = nthL B.pins r := nthL_take2 hr
    unfold Rt; rw [this]) m (Nat.le_refl _) j
/-- the sum over the pins of the last row -/
theorem cut_ok {B : Bd} {lv : Int} (hB : Bok B) {m : Nat} (hm : B.pins.length = m + 1) {k : Nat} (hk : k ≤ m + 1) :
    (∀ j, j ≤ m → (0 ≤ W (Rt B lv) m j ∧ W (Rt B lv) m j ≤ 100000000) ∧ (0 ≤ Fb (Rt B lv) (m + 1) k 1 j ∧ Fb (Rt B lv) (m + 1) k 1 j ≤ 10) ∧
      0 ≤ W (Rt B lv) m j * Fb (Rt B lv) (m + 1) k 1 j ∧ W (Rt B lv) m j * Fb (Rt B lv) (m + 1) k 1 j ≤ 1000000000) ∧
    (∀ j, j ≤ m + 1 → 0 ≤ sumTo (fun j => W (Rt B lv) m j * Fb (Rt B lv) (m + 1) k 1 j) j ∧ sumTo (fun j => W (Rt B lv) m j * Fb (Rt B lv) (m + 1) k 1 j) j ≤ 100000000) ∧
    sumTo (fun j => W (Rt B lv) m j * Fb (Rt B lv) (m + 1) k 1 j) (m + 1) = W (Rt B lv) (m + 1) k := by
  have hG := Rt_ok B lv (m + 1)
  have hGm := Rt_ok B lv m
  have hn := hB.n8
  have hx : ∀ j, 0 ≤ W (Rt B lv) m j ∧ W (Rt B lv) m j ≤ 100000000 := fun j => ⟨W_nonneg hGm j, Int.le_trans (W_le hGm j) (pow8 (by omega))⟩
  have hy : ∀ j, j ≤ m → 0 ≤ Fb (Rt B lv) (m + 1) k 1 j ∧ Fb (Rt B lv) (m + 1) k 1 j ≤ 10 := fun j hj => ⟨Fb_nonneg hG 1 (by omega) j (by omega), by have := Fb_le hG hk (d := 1) (k := j) (by omega) (by omega); simpa using this⟩
  have hs := Fb_last (Rt B lv) (n := m) hk
  have hxy : ∀ j, j ≤ m → 0 ≤ W (Rt B lv) m j * Fb (Rt B lv) (m + 1) k 1 j ∧ W (Rt B lv) m j * Fb (Rt B lv) (m + 1) k 1 j ≤ 1000000000 := fun j hj => by
    obtain ⟨a, b⟩ := hx j
    obtain ⟨c, d⟩ := hy j hj
    refine ⟨Int.mul_nonneg a c, ?_⟩
    have := Int.mul_le_mul b d c (by omega)
    omega
  refine ⟨fun j hj => ⟨hx j, hy j hj, hxy j hj⟩, fun j hj => ?_, hs⟩
  have h1 := sumTo_mid (f := fun j => W (Rt B lv) m j * Fb (Rt B lv) (m + 1) k 1 j) (n := m + 1) (fun j hj => (hxy j (by omega)).1) j hj
  have h2 : W (Rt B lv) (m + 1) k ≤ 100000000 := Int.le_trans (W_le hG k) (pow8 (by omega))
  rw [hs] at h1
  omega

end Go.Proofs.Ytnnojhpioenhbaa
