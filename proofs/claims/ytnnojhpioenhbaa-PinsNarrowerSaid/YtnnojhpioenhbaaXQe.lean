/- The laws, plain: pays that are as much more, and as many times as great. -/
import Derived.Test.YtnnojhpioenhbaaXQd
namespace Go.Proofs.Ytnnojhpioenhbaa
open Go.RowKit Go.Shelf

/-- a board with other pays -/
def paidB (B : Bd) (t m : Int) : Bd := ⟨B.pins, B.pays.map fun y => y * t + m⟩
theorem paid_nth {B : Bd} {t m : Int} {i : Nat} (h : i < B.pays.length) : nth (paidB B t m).pays i = nth B.pays i * t + m := by
  have h2 : i < (paidB B t m).pays.length := by simpa [paidB] using h
  rw [nth_eq h2, nth_eq h]; simp [paidB]
theorem paidN {B : Bd} (hB : Bok B) (t m lv : Int) : payN (paidB B t m) lv = payN B lv * t + m * 10 ^ B.pins.length := by
  have hp := hB.pays
  have e1 : payN (paidB B t m) lv = sumTo (fun i => W (Rt B lv) B.pins.length i * nth (paidB B t m).pays i) (B.pins.length + 1) := rfl
  have e2 : sumTo (fun i => W (Rt B lv) B.pins.length i * nth (paidB B t m).pays i) (B.pins.length + 1) = sumTo (fun i => t * (W (Rt B lv) B.pins.length i * nth B.pays i) + m * W (Rt B lv) B.pins.length i) (B.pins.length + 1) :=
    sumTo_congr fun i hi => by rw [paid_nth (by omega), Int.mul_add, Int.mul_comm _ m, ← Int.mul_assoc, Int.mul_comm _ t]
  have e3 := W_sum (Rt B lv) B.pins.length
  have e4 : sumTo (fun i => W (Rt B lv) B.pins.length i) (B.pins.length + 1) = sumTo (W (Rt B lv) B.pins.length) (B.pins.length + 1) := rfl
  rw [e1, e2, sumTo_add, sumTo_mul, sumTo_mul, e4, e3, Int.mul_comm t]
  rfl
theorem paidQ {B : Bd} (hB : Bok B) (t m lv : Int) : payQ (paidB B t m) lv = lst (payN B lv * t + m * 10 ^ B.pins.length) (10 ^ B.pins.length) := by
  have e : payQ (paidB B t m) lv = lst (payN (paidB B t m) lv) (10 ^ B.pins.length) := rfl
  rw [e, paidN hB]
/-- one fraction is another one, taken times, and with more -/
def EqQ (t m : Int) (x y : Int × Int) : Prop := lst x.1 x.2 = x ∧ lst y.1 y.2 = y ∧ lst (y.1 * t + m * y.2) y.2 = x
theorem eqQ_lst {t m n d : Int} (hd : 0 < d) : EqQ t m (lst (n * t + m * d) d) (lst n d) := ⟨lst_lst hd, lst_lst hd, lst_affine hd⟩
theorem eqQ_pay {B : Bd} (hB : Bok B) (t m lv : Int) : EqQ t m (payQ (paidB B t m) lv) (payQ B lv) := by
  rw [paidQ hB]; exact eqQ_lst (pow_split hB.n8).1
theorem paid_levels (B : Bd) (t m : Int) (R : Rd) : levelsL (paidB B t m) R = levelsL B R := rfl
theorem paid_rok {B : Bd} {t m : Int} {R : Rd} (h : Rok2 B R) : Rok2 (paidB B t m) R := ⟨h.m, h.plumb, h.slot⟩
/-- the least, and the greatest, of some numbers -/
def lowZ (f : Nat → Int) : Nat → Int
  | 0 => f 0
  | k + 1 => if f (k + 1) < lowZ f k then f (k + 1) else lowZ f k
def highZ (f : Nat → Int) : Nat → Int
  | 0 => f 0
  | k + 1 => if highZ f k < f (k + 1) then f (k + 1) else highZ f k
theorem lowN_lst {d : Int} (hd : 0 < d) (f : Nat → Int) : ∀ k, lowN (fun i => lst (f i) d) k = lst (lowZ f k) d
  | 0 => rfl
  | k + 1 => by
    rw [lowN, lowN_lst hd f k, lessQ_lst hd]
    by_cases h : f (k + 1) < lowZ f k
    · rw [if_pos (decide_eq_true h), lowZ, if_pos h]
    · rw [if_neg (by simpa using h), lowZ, if_neg h]
theorem highN_lst {d : Int} (hd : 0 < d) (f : Nat → Int) : ∀ k, highN (fun i => lst (f i) d) k = lst (highZ f k) d
  | 0 => rfl
  | k + 1 => by
    rw [highN, highN_lst hd f k, lessQ_lst hd]
    by_cases h : highZ f k < f (k + 1)
    · rw [if_pos (decide_eq_true h), highZ, if_pos h]
    · rw [if_neg (by simpa using h), highZ, if_neg h]
theorem aff_lt {t c a b : Int} (ht : 0 < t) : a * t + c < b * t + c ↔ a < b := by
  constructor
  · intro h; exact Int.lt_of_mul_lt_mul_right (by omega) (Int.le_of_lt ht)
  · intro h; have := Int.mul_lt_mul_of_pos_right h ht; omega
theorem lowZ_aff {t c : Int} (ht : 0 < t) (f : Nat → Int) : ∀ k, lowZ (fun i => f i * t + c) k = lowZ f k * t + c
  | 0 => rfl
  | k + 1 => by
    rw [lowZ, lowZ_aff ht f k]
    by_cases h : f (k + 1) < lowZ f k
    · rw [if_pos ((aff_lt ht).2 h), lowZ, if_pos h]
    · rw [if_neg (fun h2 => h ((aff_lt ht).1 h2)), lowZ, if_neg h]
theorem highZ_aff {t c : Int} (ht : 0 < t) (f : Nat → Int) : ∀ k, highZ (fun i => f i * t + c) k = highZ f k * t + c
  | 0 => rfl
  | k + 1 => by
    rw [highZ, highZ_aff ht f k]
    by_cases h : highZ f k < f (k + 1)
    · rw [if_pos ((aff_lt ht).2 h), highZ, if_pos h]
    · rw [if_neg (fun h2 => h ((aff_lt ht).1 h2)), highZ, if_neg h]
theorem span_lst {B : Bd} {R : Rd} (hB : Bok B) (h : levErr B R = 0) : spanLo B R = lst (lowZ (fun k => payN B (nth (levelsL B R) k)) ((levelsL B R).length - 1)) (10 ^ B.pins.length) ∧
    spanHi B R = lst (highZ (fun k => payN B (nth (levelsL B R) k)) ((levelsL B R).length - 1)) (10 ^ B.pins.length) := by
  have hd := (pow_split hB.n8).1
  have e : spanF B R = fun k => lst (payN B (nth (levelsL B R) k)) (10 ^ B.pins.length) := rfl
  unfold spanLo spanHi
  rw [if_pos h, if_pos h, e, lowN_lst hd, highN_lst hd]
  exact ⟨rfl, rfl⟩
theorem span_payB {B : Bd} {R : Rd} (hB : Bok B) (h : levErr B R = 0) : payB (spanLo B R) = true ∧ payB (spanHi B R) = true := by
  have hl : 0 < (levelsL B R).length := List.length_pos_iff.2 (levErr_zero h).2.1
  unfold spanLo spanHi
  rw [if_pos h, if_pos h]
  exact ⟨lowN_of (T := fun q => payB q = true) _ fun i hi => payB_pay hB (levelsL_at (by omega)).1, highN_of (T := fun q => payB q = true) _ fun i hi => payB_pay hB (levelsL_at (by omega)).1⟩
theorem eqQ_span {B : Bd} {R : Rd} (hB : Bok B) {t m : Int} (ht : 0 < t) (hP : Bok (paidB B t m)) (h : levErr B R = 0) (h2 : levErr (paidB B t m) R = 0) :
    EqQ t m (spanLo (paidB B t m) R) (spanLo B R) ∧ EqQ t m (spanHi (paidB B t m) R) (spanHi B R) := by
  have hd := (pow_split hB.n8).1
  obtain ⟨a1, a2⟩ := span_lst hB h
  obtain ⟨b1, b2⟩ := span_lst hP h2
  have e : (fun k => payN (paidB B t m) (nth (levelsL (paidB B t m) R) k)) = fun k => payN B (nth (levelsL B R) k) * t + m * 10 ^ B.pins.length := by
    funext k; rw [paid_levels, paidN hB]
  have e2 : (paidB B t m).pins.length = B.pins.length := rfl
  rw [e, lowZ_aff ht, paid_levels, e2] at b1
  rw [e, highZ_aff ht, paid_levels, e2] at b2
  rw [a1, a2, b1, b2]
  exact ⟨eqQ_lst hd, eqQ_lst hd⟩

end Go.Proofs.Ytnnojhpioenhbaa
