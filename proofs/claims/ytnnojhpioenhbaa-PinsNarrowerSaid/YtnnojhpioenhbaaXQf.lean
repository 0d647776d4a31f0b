/- The laws, plain: a board the other way round. -/
import Derived.Test.YtnnojhpioenhbaaXQe
namespace Go.Proofs.Ytnnojhpioenhbaa
open Go.RowKit Go.Shelf

def tRow (B : Bd) (r c : Nat) : List Int := (List.range c).map fun j => 10 - nth (nthL B.pins r) (r - j)
def tPins (B : Bd) (r : Nat) : List (List Int) := (List.range r).map fun r => tRow B r (r + 1)
def tPays (B : Bd) (c : Nat) : List Int := (List.range c).map fun j => nth B.pays (B.pins.length - j)
theorem tRow_succ (B : Bd) (r c : Nat) : tRow B r (c + 1) = tRow B r c ++ [10 - nth (nthL B.pins r) (r - c)] := by unfold tRow; rw [List.range_succ, List.map_append]; rfl
theorem tPins_succ (B : Bd) (r : Nat) : tPins B (r + 1) = tPins B r ++ [tRow B r (r + 1)] := by unfold tPins; rw [List.range_succ, List.map_append]; rfl
theorem tPays_succ (B : Bd) (c : Nat) : tPays B (c + 1) = tPays B c ++ [nth B.pays (B.pins.length - c)] := by unfold tPays; rw [List.range_succ, List.map_append]; rfl
theorem tRow_len (B : Bd) (r c : Nat) : (tRow B r c).length = c := by simp [tRow]
theorem tPins_len (B : Bd) (r : Nat) : (tPins B r).length = r := by simp [tPins]
theorem tPays_len (B : Bd) (c : Nat) : (tPays B c).length = c := by simp [tPays]
theorem tRow_nth {B : Bd} {r c j : Nat} (h : j < c) : nth (tRow B r c) j = 10 - nth (nthL B.pins r) (r - j) := by
  rw [nth_eq (by rw [tRow_len]; exact h)]; simp [tRow]
theorem tPins_nth {B : Bd} {r j : Nat} (h : j < r) : nthL (tPins B r) j = tRow B j (j + 1) := by
  rw [nthL_eq (by rw [tPins_len]; exact h)]; simp [tPins]
theorem tPays_nth {B : Bd} {c j : Nat} (h : j < c) : nth (tPays B c) j = nth B.pays (B.pins.length - j) := by
  rw [nth_eq (by rw [tPays_len]; exact h)]; simp [tPays]
/-- the board the other way round -/
def turnB (B : Bd) : Bd := ⟨tPins B B.pins.length, tPays B (B.pins.length + 1)⟩
theorem turn_pins (B : Bd) : (turnB B).pins.length = B.pins.length := tPins_len _ _
theorem turn_pays (B : Bd) : (turnB B).pays.length = B.pins.length + 1 := tPays_len _ _
theorem turn_bok {B : Bd} (hB : Bok B) : Bok (turnB B) := by
  have e1 := turn_pins B
  have e2 := turn_pays B
  have hn := hB.n8; have hn1 := hB.n1
  refine ⟨by omega, by omega, fun r hr => ?_, by omega, fun r k hr hk => ?_, fun i hi => ?_⟩
  · rw [e1] at hr
    have : nthL (turnB B).pins r = tRow B r (r + 1) := tPins_nth hr
    rw [this, tRow_len]
  · rw [e1] at hr
    have : nthL (turnB B).pins r = tRow B r (r + 1) := tPins_nth hr
    rw [this, tRow_nth (by omega)]
    have := hB.pin r (r - k) hr (by omega)
    omega
  · rw [e1] at hi
    have : nth (turnB B).pays i = nth B.pays (B.pins.length - i) := tPays_nth (by omega)
    rw [this]; exact hB.pay _ (by omega)
theorem turn_Rt {B : Bd} (lv : Int) {r k : Nat} (hr : r < B.pins.length) (hk : k ≤ r) : Rt (turnB B) (-lv) r k = 10 - Rt B lv r (r - k) := by
  have : nthL (turnB B).pins r = tRow B r (r + 1) := tPins_nth hr
  unfold Rt
  rw [this, tRow_nth (by omega)]
  generalize nth (nthL B.pins r) (r - k) = z
  omega
theorem turn_W {B : Bd} (lv : Int) {k : Nat} (hk : k ≤ B.pins.length) : W (Rt (turnB B) (-lv)) B.pins.length k = W (Rt B lv) B.pins.length (B.pins.length - k) :=
  W_turn (n := B.pins.length) (fun _ _ hr hk => turn_Rt lv hr hk) _ (Nat.le_refl _) k hk
theorem turn_payN {B : Bd} (lv : Int) : payN (turnB B) (-lv) = payN B lv := by
  have e1 : payN (turnB B) (-lv) = sumTo (fun i => W (Rt (turnB B) (-lv)) B.pins.length i * nth (turnB B).pays i) (B.pins.length + 1) := by unfold payN; rw [turn_pins]
  have e2 : payN B lv = sumTo (fun i => W (Rt B lv) B.pins.length i * nth B.pays i) (B.pins.length + 1) := rfl
  rw [e1, e2, ← sumTo_rev (fun i => W (Rt B lv) B.pins.length i * nth B.pays i)]
  refine sumTo_congr fun k hk => ?_
  have : nth (turnB B).pays k = nth B.pays (B.pins.length - k) := tPays_nth (by omega)
  rw [turn_W lv (by omega), this, show B.pins.length + 1 - 1 - k = B.pins.length - k by omega]
theorem turn_payX {B : Bd} (hB : Bok B) {lv : Int} (hlv : -5 ≤ lv ∧ lv ≤ 5) : atErr B lv = 0 ∧ atErr (turnB B) (-lv) = 0 ∧ payX (turnB B) (-lv) = payX B lv := by
  have e1 : atErr B lv = 0 := atErr_zero.2 ⟨hB, hlv⟩
  have e2 : atErr (turnB B) (-lv) = 0 := atErr_zero.2 ⟨turn_bok hB, by omega⟩
  refine ⟨e1, e2, ?_⟩
  unfold payX
  rw [if_pos e1, if_pos e2]
  unfold payQ
  rw [turn_payN, turn_pins]
theorem turn_waysX {B : Bd} (hB : Bok B) {lv : Int} (hlv : -5 ≤ lv ∧ lv ≤ 5) : (waysX B lv).length = B.pins.length + 1 ∧ (waysX (turnB B) (-lv)).length = B.pins.length + 1 ∧ ∀ k, k ≤ B.pins.length → nth (waysX (turnB B) (-lv)) (B.pins.length - k) = nth (waysX B lv) k := by
  have h1 := waysX_ok hB hlv
  have h2 := waysX_ok (turn_bok hB) (lv := -lv) (by omega)
  rw [turn_pins] at h2
  refine ⟨h1.2.1, h2.2.1, fun k hk => ?_⟩
  rw [h1.2.2.1 k (by omega), h2.2.2.1 _ (by omega), turn_W lv (by omega), show B.pins.length - (B.pins.length - k) = k by omega]

end Go.Proofs.Ytnnojhpioenhbaa
