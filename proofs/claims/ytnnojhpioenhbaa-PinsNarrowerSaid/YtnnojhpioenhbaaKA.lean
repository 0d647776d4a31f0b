/- Plain: the falls of a board as sums: how many come to each pin, how many ways lead on, both ends of a greater level. Plain: the paths of a board, by numbers: their falls, those that come to a slot, the first with the most. Plain: fractions in least terms, which of them are less, the least and the greatest of some pays. Representation of Go data in the memory of the model: slices of ints that are read, small lemmas for the walks. No condition. A law for 'for x := range f { .. }' at an outermost loop: the iterator's contract speaks of rounds by their number. A region that draws its order, within a round of a range over a function. Laws of the walk for parts of a block that are loaded and stored whole. (Turned from the plea seat's texts.) Lists in memory: cells that are read, lists of the call's own (of whatever elements), appends onto them, in the main code, in a round, in a region that draws its order; makes; lists of lists of ints. Laws of the walk for parts of a block that are loaded and stored whole: the falls of a row. Clear of ints. (Turned from the plea seat's texts.) -/
import Derived.WalkKit
import Derived.WalkSpells
import Derived.WalkLawsBesides
import Derived.RangeFuncLeaves
import Derived.RangeFuncKeeps
import Derived.Shelf.Abstract
import Derived.Sort.QuietIn
import Derived.RangeFuncCalls
import Derived.OwnWalkIn
import Derived.Laws.CopyOwn
import Derived.ArgAppend
import Derived.Deep.QuietTactic
import Derived.BigQuiet
import Derived.Deep.Upon
import Derived.Laws.OwnMore
import Derived.Test.YtnnojhpioenhbaaRows
import Derived.Laws.ResultCell
namespace Go.Proofs.Ytnnojhpioenhbaa

/-- the sum of the first n values -/
def sumTo (f : Nat → Int) : Nat → Int
  | 0 => 0
  | n + 1 => sumTo f n + f n

theorem sumTo_congr {f g : Nat → Int} {n : Nat} (h : ∀ k, k < n → f k = g k) : sumTo f n = sumTo g n := by
  induction n with
  | zero => rfl
  | succ n ih => simp only [sumTo]; rw [ih fun k hk => h k (by omega), h n (by omega)]
theorem sumTo_add (f g : Nat → Int) (n : Nat) : sumTo (fun k => f k + g k) n = sumTo f n + sumTo g n := by
  induction n with
  | zero => rfl
  | succ n ih => simp only [sumTo]; rw [ih]; omega
theorem sumTo_mul (c : Int) (f : Nat → Int) (n : Nat) : sumTo (fun k => c * f k) n = c * sumTo f n := by
  induction n with
  | zero => simp [sumTo]
  | succ n ih => simp only [sumTo]; rw [ih, Int.mul_add]
theorem sumTo_zero (n : Nat) : sumTo (fun _ => 0) n = 0 := by
  induction n with
  | zero => rfl
  | succ n ih => simp only [sumTo]; rw [ih]; rfl
theorem sumTo_head (f : Nat → Int) (n : Nat) : sumTo f (n + 1) = f 0 + sumTo (fun k => f (k + 1)) n := by
  induction n with
  | zero => simp [sumTo]
  | succ n ih =>
    have h : sumTo f (n + 1 + 1) = sumTo f (n + 1) + f (n + 1) := rfl
    have h2 : sumTo (fun k => f (k + 1)) (n + 1) = sumTo (fun k => f (k + 1)) n + f (n + 1) := rfl
    rw [h, h2, ih]; omega
theorem sumTo_nonneg {f : Nat → Int} {n : Nat} (h : ∀ k, k < n → 0 ≤ f k) : 0 ≤ sumTo f n := by
  induction n with
  | zero => exact Int.le_refl _
  | succ n ih =>
    have h1 := ih fun k hk => h k (by omega)
    have h2 := h n (by omega)
    simp only [sumTo]; omega
theorem sumTo_le {f g : Nat → Int} {n : Nat} (h : ∀ k, k < n → f k ≤ g k) : sumTo f n ≤ sumTo g n := by
  induction n with
  | zero => exact Int.le_refl _
  | succ n ih =>
    have h1 := ih fun k hk => h k (by omega)
    have h2 := h n (by omega)
    simp only [sumTo]; omega
theorem le_sumTo {f : Nat → Int} {n k : Nat} (h : ∀ j, j < n → 0 ≤ f j) (hk : k < n) : f k ≤ sumTo f n := by
  induction n with
  | zero => omega
  | succ n ih =>
    have h0 := sumTo_nonneg (n := n) fun j hj => h j (by omega)
    by_cases e : k = n
    · subst e; simp only [sumTo]; omega
    · have h1 := ih (fun j hj => h j (by omega)) (by omega)
      have h2 := h n (by omega)
      simp only [sumTo]; omega
theorem sumTo_pick (f : Nat → Int) {n s : Nat} (h : s < n) : sumTo (fun k => f k * (if k = s then 1 else 0)) n = f s := by
  induction n with
  | zero => omega
  | succ n ih =>
    simp only [sumTo]
    by_cases e : s = n
    · subst e
      have : sumTo (fun k => f k * (if k = s then 1 else 0)) s = 0 := by
        rw [sumTo_congr (g := fun _ => 0) fun k hk => by rw [if_neg (by omega)]; simp]
        exact sumTo_zero s
      rw [this]; simp
    · rw [ih (by omega), if_neg (by omega)]; simp
theorem sumTo_comm (f : Nat → Nat → Int) (n m : Nat) : sumTo (fun i => sumTo (f i) m) n = sumTo (fun j => sumTo (fun i => f i j) n) m := by
  induction n with
  | zero => simp only [sumTo]; exact (sumTo_zero m).symm
  | succ n ih => simp only [sumTo]; rw [ih, sumTo_add]
theorem sumTo_rev (f : Nat → Int) (n : Nat) : sumTo (fun k => f (n - 1 - k)) n = sumTo f n := by
  induction n with
  | zero => rfl
  | succ n ih =>
    rw [sumTo_head]
    simp only [sumTo]
    rw [← ih, sumTo_congr (g := fun k => f (n - 1 - k)) fun k hk => by congr 1; omega]
    simp; omega

/-- how many falls come to pin k of row r, where R tells the ways to the right -/
def W (R : Nat → Nat → Int) : Nat → Nat → Int
  | 0, 0 => 1
  | 0, _ + 1 => 0
  | r + 1, 0 => W R r 0 * (10 - R r 0)
  | r + 1, k + 1 => W R r (k + 1) * (10 - R r (k + 1)) + W R r k * R r k

/-- all pins of the first n rows have at most 10 ways to the right -/
def Rok (R : Nat → Nat → Int) (n : Nat) : Prop := ∀ r k, r < n → k ≤ r → 0 ≤ R r k ∧ R r k ≤ 10
theorem Rok.le {R : Nat → Nat → Int} {n m : Nat} (h : Rok R n) (hm : m ≤ n) : Rok R m := fun r k hr hk => h r k (by omega) hk

theorem W_far (R : Nat → Nat → Int) (r : Nat) : ∀ k, r < k → W R r k = 0 := by
  induction r with
  | zero => intro k hk; cases k with
    | zero => omega
    | succ k => rfl
  | succ r ih => intro k hk; cases k with
    | zero => omega
    | succ k => simp only [W]; rw [ih (k + 1) (by omega), ih k (by omega)]; simp
theorem W_nonneg {R : Nat → Nat → Int} : ∀ {r : Nat}, Rok R r → ∀ k, 0 ≤ W R r k := by
  intro r
  induction r with
  | zero => intro _ k; cases k <;> simp [W]
  | succ r ih =>
    intro h k
    have hi := ih (h.le (by omega))
    have hp : ∀ j, 0 ≤ W R r j * (10 - R r j) ∧ 0 ≤ W R r j * R r j := fun j => by
      by_cases hj : j ≤ r
      · have := h r j (by omega) hj
        exact ⟨Int.mul_nonneg (hi j) (by omega), Int.mul_nonneg (hi j) (by omega)⟩
      · rw [W_far R r j (by omega)]; simp
    cases k with
    | zero => exact (hp 0).1
    | succ k => have := (hp (k + 1)).1; have := (hp k).2; simp only [W]; omega
theorem W_step_sum (R : Nat → Nat → Int) (r : Nat) (g : Nat → Int) :
    sumTo (fun k => W R (r + 1) k * g k) (r + 2) = sumTo (fun k => W R r k * ((10 - R r k) * g k + R r k * g (k + 1))) (r + 1) := by
  rw [sumTo_head]
  have e : sumTo (fun k => W R (r + 1) (k + 1) * g (k + 1)) (r + 1) = sumTo (fun k => W R r (k + 1) * (10 - R r (k + 1)) * g (k + 1)) (r + 1) + sumTo (fun k => W R r k * R r k * g (k + 1)) (r + 1) := by
    rw [← sumTo_add]; exact sumTo_congr fun k _ => by simp only [W]; rw [Int.add_mul]
  rw [e]
  have e2 : W R (r + 1) 0 * g 0 + sumTo (fun k => W R r (k + 1) * (10 - R r (k + 1)) * g (k + 1)) (r + 1) = sumTo (fun k => W R r k * (10 - R r k) * g k) (r + 2) := by
    rw [sumTo_head (fun k => W R r k * (10 - R r k) * g k)]; rfl
  have e3 : sumTo (fun k => W R r k * (10 - R r k) * g k) (r + 2) = sumTo (fun k => W R r k * (10 - R r k) * g k) (r + 1) := by
    show sumTo _ (r + 1) + W R r (r + 1) * (10 - R r (r + 1)) * g (r + 1) = _
    rw [W_far R r (r + 1) (by omega)]; simp
  rw [← Int.add_assoc, e2, e3, ← sumTo_add]
  exact sumTo_congr fun k _ => by grind
theorem W_sum (R : Nat → Nat → Int) (r : Nat) : sumTo (W R r) (r + 1) = 10 ^ r := by
  induction r with
  | zero => rfl
  | succ r ih =>
    have h := W_step_sum R r fun _ => 1
    simp only [Int.mul_one] at h
    rw [show sumTo (W R (r + 1)) (r + 1 + 1) = sumTo (fun k => W R (r + 1) k) (r + 2) from rfl, h,
      sumTo_congr (g := fun k => 10 * W R r k) fun k _ => by grind, sumTo_mul, ih]
    rw [Int.pow_succ]; omega
theorem W_le {R : Nat → Nat → Int} {r : Nat} (h : Rok R r) (k : Nat) : W R r k ≤ 10 ^ r := by
  by_cases hk : k < r + 1
  · rw [← W_sum R r]; exact le_sumTo (fun j _ => W_nonneg h j) hk
  · rw [W_far R r k (by omega)]; exact Int.pow_nonneg (by omega)
theorem W_congr {R S : Nat → Nat → Int} {n : Nat} (h : ∀ r k, r < n → k ≤ r → R r k = S r k) : ∀ r, r ≤ n → ∀ k, W R r k = W S r k := by
  intro r
  induction r with
  | zero => intro _ k; cases k <;> rfl
  | succ r ih =>
    intro hr k
    have hi := ih (by omega)
    have hp : ∀ j, W R r j * R r j = W S r j * S r j ∧ W R r j * (10 - R r j) = W S r j * (10 - S r j) := fun j => by
      by_cases hj : j ≤ r
      · rw [hi, h r j (by omega) hj]; exact ⟨rfl, rfl⟩
      · rw [W_far R r j (by omega), W_far S r j (by omega)]; simp
    cases k with
    | zero => exact (hp 0).2
    | succ k => simp only [W]; rw [(hp (k + 1)).2, (hp k).1]

/-- how many ways lead to slot s from a pin, of d rows that are left of n -/
def Fb (R : Nat → Nat → Int) (n s : Nat) : Nat → Nat → Int
  | 0, k => if k = s then 1 else 0
  | d + 1, k => (10 - R (n - (d + 1)) k) * Fb R n s d k + R (n - (d + 1)) k * Fb R n s d (k + 1)

theorem W_Fb (R : Nat → Nat → Int) {n s : Nat} (hs : s ≤ n) : ∀ d, d ≤ n → sumTo (fun k => W R (n - d) k * Fb R n s d k) (n - d + 1) = W R n s := by
  intro d
  induction d with
  | zero => intro _; exact sumTo_pick (W R n) (by omega)
  | succ d ih =>
    intro hd
    rw [← ih (by omega)]
    have h := W_step_sum R (n - (d + 1)) (Fb R n s d)
    rw [show n - (d + 1) + 1 = n - d by omega, show n - (d + 1) + 2 = n - d + 1 by omega] at h
    rw [h, show n - (d + 1) + 1 = n - d by omega]
    exact sumTo_congr fun k _ => rfl
theorem Fb_first (R : Nat → Nat → Int) {n s : Nat} (hs : s ≤ n) : Fb R n s n 0 = W R n s := by
  have h := W_Fb R hs n (Nat.le_refl _)
  rw [Nat.sub_self] at h
  rw [← h]; simp [sumTo, W]
theorem Fb_last (R : Nat → Nat → Int) {n s : Nat} (hs : s ≤ n + 1) : sumTo (fun k => W R n k * Fb R (n + 1) s 1 k) (n + 1) = W R (n + 1) s := by
  have h := W_Fb R (n := n + 1) hs 1 (by omega)
  simpa using h
theorem Fb_sum (R : Nat → Nat → Int) (n : Nat) : ∀ d, d ≤ n → ∀ k, k ≤ n - d → sumTo (fun s => Fb R n s d k) (n + 1) = 10 ^ d := by
  intro d
  induction d with
  | zero =>
    intro _ k hk
    have := sumTo_pick (fun _ => 1) (n := n + 1) (s := k) (by omega)
    rw [show (10 : Int) ^ 0 = 1 from rfl, ← this]
    exact sumTo_congr fun s _ => by simp only [Fb]; by_cases e : k = s <;> simp [e]; intro h; exact absurd h.symm e
  | succ d ih =>
    intro hd k hk
    simp only [Fb]
    rw [sumTo_add, sumTo_mul, sumTo_mul, ih (by omega) k (by omega), ih (by omega) (k + 1) (by omega), Int.pow_succ]
    grind
theorem Fb_nonneg {R : Nat → Nat → Int} {n s : Nat} (h : Rok R n) : ∀ d, d ≤ n → ∀ k, k ≤ n - d → 0 ≤ Fb R n s d k := by
  intro d
  induction d with
  | zero => intro _ k _; simp only [Fb]; split <;> omega
  | succ d ih =>
    intro hd k hk
    have h1 := h (n - (d + 1)) k (by omega) hk
    have h2 := Int.mul_nonneg (a := 10 - R (n - (d + 1)) k) (by omega) (ih (by omega) k (by omega))
    have h3 := Int.mul_nonneg h1.1 (ih (by omega) (k + 1) (by omega))
    simp only [Fb]; omega
theorem Fb_le {R : Nat → Nat → Int} {n s : Nat} (h : Rok R n) (hs : s ≤ n) {d k : Nat} (hd : d ≤ n) (hk : k ≤ n - d) : Fb R n s d k ≤ 10 ^ d := by
  rw [← Fb_sum R n d hd k hk]
  exact le_sumTo (f := fun s => Fb R n s d k) (fun j _ => Fb_nonneg h d hd k hk) (by omega)

/-- how many falls come to pin j of row r, or one behind it -/
def Sf (R : Nat → Nat → Int) (r j : Nat) : Int := sumTo (fun i => W R r (j + i)) (r + 1 - j)

theorem Sf_zero (R : Nat → Nat → Int) (r : Nat) : Sf R r 0 = 10 ^ r := by
  unfold Sf; rw [← W_sum R r]; exact sumTo_congr fun i _ => by rw [Nat.zero_add]
theorem Sf_succ (R : Nat → Nat → Int) (r j : Nat) : Sf R r j = W R r j + Sf R r (j + 1) := by
  unfold Sf
  by_cases h : j ≤ r
  · rw [show r + 1 - j = (r + 1 - (j + 1)) + 1 by omega, sumTo_head]
    congr 1
    exact sumTo_congr fun i _ => by congr 1; omega
  · rw [show r + 1 - j = 0 by omega, show r + 1 - (j + 1) = 0 by omega, W_far R r j (by omega)]; rfl
theorem Sf_far (R : Nat → Nat → Int) {r j : Nat} (h : r < j) : Sf R r j = 0 := by
  unfold Sf; rw [show r + 1 - j = 0 by omega]; rfl
theorem Sf_step (R : Nat → Nat → Int) (r : Nat) : ∀ d j, j + d = r + 1 → Sf R (r + 1) (j + 1) = (10 - R r j) * Sf R r (j + 1) + R r j * Sf R r j := by
  intro d
  induction d with
  | zero =>
    intro j hj
    rw [Sf_far R (r := r + 1) (by omega), Sf_far R (r := r) (j := j) (by omega), Sf_far R (r := r) (j := j + 1) (by omega)]; simp
  | succ d ih =>
    intro j hj
    have h := ih (j + 1) (by omega)
    rw [Sf_succ R (r + 1) (j + 1), h, Sf_succ R r j, Sf_succ R r (j + 1)]
    simp only [W]
    grind
theorem Sf_mono_row {R : Nat → Nat → Int} {r : Nat} (h : Rok R r) (j : Nat) : 0 ≤ Sf R r j := sumTo_nonneg fun _ _ => W_nonneg h _
/-- where the ways to the right are as many or more, as many falls or more come to a pin or one behind it -/
theorem Sf_le {R S : Nat → Nat → Int} {n : Nat} (hR : Rok R n) (hS : Rok S n) (h : ∀ r k, r < n → k ≤ r → R r k ≤ S r k) : ∀ r, r ≤ n → ∀ j, Sf R r j ≤ Sf S r j := by
  intro r
  induction r with
  | zero => intro _ j; cases j with
    | zero => rw [Sf_zero, Sf_zero]; exact Int.le_refl _
    | succ j => rw [Sf_far R (by omega), Sf_far S (by omega)]; exact Int.le_refl _
  | succ r ih =>
    intro hr j
    cases j with
    | zero => rw [Sf_zero, Sf_zero]; exact Int.le_refl _
    | succ j =>
      by_cases hj : j ≤ r
      · rw [Sf_step R r (r + 1 - j) j (by omega), Sf_step S r (r + 1 - j) j (by omega)]
        have a1 := ih (by omega) j
        have a2 := ih (by omega) (j + 1)
        have b1 := hR r j (by omega) hj
        have b2 := hS r j (by omega) hj
        have b3 := h r j (by omega) hj
        have c : Sf S r (j + 1) ≤ Sf S r j := by
          rw [Sf_succ S r j]
          have := W_nonneg (hS.le (m := r) (by omega)) j
          omega
        have d1 := Int.mul_le_mul_of_nonneg_left a2 (c := 10 - R r j) (by omega)
        have d2 := Int.mul_le_mul_of_nonneg_left a1 (c := R r j) (by omega)
        have d3 := Int.mul_nonneg (a := S r j - R r j) (b := Sf S r j - Sf S r (j + 1)) (by omega) (by omega)
        have d4 : (10 - S r j) * Sf S r (j + 1) + S r j * Sf S r j - ((10 - R r j) * Sf S r (j + 1) + R r j * Sf S r j) = (S r j - R r j) * (Sf S r j - Sf S r (j + 1)) := by grind
        omega
      · rw [Sf_far R (by omega), Sf_far S (by omega)]; exact Int.le_refl _

/-- the other way round -/
theorem W_turn {R S : Nat → Nat → Int} {n : Nat} (h : ∀ r k, r < n → k ≤ r → S r k = 10 - R r (r - k)) : ∀ r, r ≤ n → ∀ k, k ≤ r → W S r k = W R r (r - k) := by
  intro r
  induction r with
  | zero => intro _ k hk; obtain rfl : k = 0 := by omega
            rfl
  | succ r ih =>
    intro hr k hk
    have hi := ih (by omega)
    have hs := fun j (hj : j ≤ r) => h r j (by omega) hj
    cases k with
    | zero =>
      rw [show r + 1 - 0 = r + 1 from rfl]
      simp only [W]
      rw [hi 0 (by omega), hs 0 (by omega), W_far R r (r + 1) (by omega), Nat.sub_zero]; grind
    | succ k =>
      by_cases e : k = r
      · subst e
        rw [Nat.sub_self]
        simp only [W]
        rw [hi k (by omega), hs k (by omega), W_far S k (k + 1) (by omega), Nat.sub_self]; grind
      · obtain ⟨j, hj⟩ : ∃ j, r - k = j + 1 := ⟨r - k - 1, by omega⟩
        rw [show r + 1 - (k + 1) = j + 1 by omega]
        simp only [W]
        rw [hi (k + 1) (by omega), hs (k + 1) (by omega), hi k (by omega), hs k (by omega), show r - (k + 1) = j by omega, hj]; grind

end Go.Proofs.Ytnnojhpioenhbaa

namespace Go.Proofs.Ytnnojhpioenhbaa

/-- the path with a number, of n steps -/
def numb : Nat → Nat → List Int
  | 0, _ => []
  | n + 1, i => numb n (i / 2) ++ [((i % 2 : Nat) : Int)]

theorem numb_len (n : Nat) : ∀ i, (numb n i).length = n := by
  induction n with
  | zero => intro _; rfl
  | succ n ih => intro i; simp [numb, ih]
theorem numb_mem (n : Nat) : ∀ i x, x ∈ numb n i → x = 0 ∨ x = 1 := by
  induction n with
  | zero => intro i x h; simp [numb] at h
  | succ n ih =>
    intro i x h
    simp only [numb, List.mem_append, List.mem_singleton] at h
    rcases h with h | h
    · exact ih _ _ h
    · omega
theorem numb_get (n : Nat) : ∀ i k, k < n → (numb n i).getD k 0 = ((i / 2 ^ (n - 1 - k) % 2 : Nat) : Int) := by
  induction n with
  | zero => intro i k hk; omega
  | succ n ih =>
    intro i k hk
    simp only [numb]
    by_cases e : k = n
    · subst e
      simp [List.getD, numb_len]
    · have h1 : k < (numb n (i / 2)).length := by rw [numb_len]; omega
      rw [List.getD, List.getElem?_append_left h1, ← List.getD, ih _ _ (by omega), Nat.div_div_eq_div_mul, ← Nat.pow_succ', show (n - 1 - k).succ = n + 1 - 1 - k by omega]

/-- falls and pin behind some steps, from a pin -/
def fo (R : Nat → Nat → Int) : Nat → Nat → Int → List Int → Int × Nat
  | _, k, n, [] => (n, k)
  | r, k, n, x :: p => fo R (r + 1) (if x = 1 then k + 1 else k) (if x = 1 then n * R r k else n * (10 - R r k)) p

theorem fo_snoc (R : Nat → Nat → Int) (x : Int) : ∀ (p : List Int) (r k : Nat) (n : Int), fo R r k n (p ++ [x]) = ((if x = 1 then (fo R r k n p).1 * R (r + p.length) (fo R r k n p).2 else (fo R r k n p).1 * (10 - R (r + p.length) (fo R r k n p).2)), if x = 1 then (fo R r k n p).2 + 1 else (fo R r k n p).2) := by
  intro p
  induction p with
  | nil => intro r k n; simp [fo]
  | cons y p ih =>
    intro r k n
    simp only [List.cons_append, fo, List.length_cons]
    rw [ih, show r + (p.length + 1) = r + 1 + p.length by omega]

def fallsOf (R : Nat → Nat → Int) (p : List Int) : Int := (fo R 0 0 1 p).1
def slotOf (R : Nat → Nat → Int) (p : List Int) : Nat := (fo R 0 0 1 p).2

theorem slotOf_sum (R : Nat → Nat → Int) (n : Nat) : ∀ i, ((slotOf R (numb n i) : Nat) : Int) = (numb n i).sum ∧ slotOf R (numb n i) ≤ n := by
  induction n with
  | zero => intro i; exact ⟨rfl, Nat.le_refl _⟩
  | succ n ih =>
    intro i
    obtain ⟨h, hl⟩ := ih (i / 2)
    have e : slotOf R (numb (n + 1) i) = if ((i % 2 : Nat) : Int) = 1 then slotOf R (numb n (i / 2)) + 1 else slotOf R (numb n (i / 2)) := by
      unfold slotOf; simp only [numb]; rw [fo_snoc]
    rw [e]
    simp only [numb, List.sum_append, List.sum_singleton]
    rw [← h]
    split <;> refine ⟨?_, ?_⟩ <;> omega
theorem fallsOf_succ (R : Nat → Nat → Int) (n i : Nat) : fallsOf R (numb (n + 1) i) = if ((i % 2 : Nat) : Int) = 1 then fallsOf R (numb n (i / 2)) * R n (slotOf R (numb n (i / 2))) else fallsOf R (numb n (i / 2)) * (10 - R n (slotOf R (numb n (i / 2)))) := by
  unfold fallsOf slotOf; simp only [numb]; rw [fo_snoc, numb_len, Nat.zero_add]
theorem slotOf_succ (R : Nat → Nat → Int) (n i : Nat) : slotOf R (numb (n + 1) i) = if ((i % 2 : Nat) : Int) = 1 then slotOf R (numb n (i / 2)) + 1 else slotOf R (numb n (i / 2)) := by
  unfold slotOf; simp only [numb]; rw [fo_snoc]
theorem fallsOf_nonneg {R : Nat → Nat → Int} : ∀ {n : Nat}, Rok R n → ∀ i, 0 ≤ fallsOf R (numb n i) ∧ fallsOf R (numb n i) ≤ 10 ^ n := by
  intro n
  induction n with
  | zero => intro _ i; simp [fallsOf, numb, fo]
  | succ n ih =>
    intro h i
    obtain ⟨h1, h2⟩ := ih (h.le (by omega)) (i / 2)
    have h3 := h n (slotOf R (numb n (i / 2))) (by omega) (slotOf_sum R n _).2
    rw [fallsOf_succ]
    have key : ∀ c : Int, 0 ≤ c → c ≤ 10 → 0 ≤ fallsOf R (numb n (i / 2)) * c ∧ fallsOf R (numb n (i / 2)) * c ≤ 10 ^ (n + 1) := fun c a b => by
      refine ⟨Int.mul_nonneg h1 a, ?_⟩
      rw [Int.pow_succ]
      exact Int.le_trans (Int.mul_le_mul_of_nonneg_left b h1) (Int.mul_le_mul_of_nonneg_right h2 (by omega))
    split
    · exact key _ h3.1 h3.2
    · exact key _ (by omega) (by omega)

theorem sumTo_two (f : Nat → Int) (n : Nat) : sumTo f (2 * n) = sumTo (fun j => f (2 * j) + f (2 * j + 1)) n := by
  induction n with
  | zero => rfl
  | succ n ih =>
    rw [show 2 * (n + 1) = 2 * n + 1 + 1 by omega]
    simp only [sumTo]
    rw [ih]; omega

theorem sumTo_pow_two (f : Nat → Int) (n : Nat) : sumTo f (2 ^ (n + 1)) = sumTo (fun j => f (2 * j) + f (2 * j + 1)) (2 ^ n) := by
  rw [← sumTo_two, Nat.pow_succ, Nat.mul_comm]

/-- the falls of all paths that come to a slot are those that come to it -/
theorem falls_sum (R : Nat → Nat → Int) : ∀ n s, sumTo (fun i => if slotOf R (numb n i) = s then fallsOf R (numb n i) else 0) (2 ^ n) = W R n s := by
  intro n
  induction n with
  | zero => intro s; cases s <;> simp [sumTo, numb, slotOf, fallsOf, fo, W]
  | succ n ih =>
    intro s
    rw [sumTo_pow_two]
    have e0 : ∀ j : Nat, (2 * j) / 2 = j := fun j => by omega
    have e1 : ∀ j : Nat, (2 * j + 1) / 2 = j := fun j => by omega
    have m0 : ∀ j : Nat, ¬ ((((2 * j) % 2 : Nat) : Int) = 1) := fun j => by omega
    have m1 : ∀ j : Nat, ((((2 * j + 1) % 2 : Nat) : Int) = 1) := fun j => by omega
    cases s with
    | zero =>
      simp only [W]
      rw [← ih 0, Int.mul_comm, ← sumTo_mul]
      refine sumTo_congr fun j _ => ?_
      rw [slotOf_succ, slotOf_succ, fallsOf_succ, fallsOf_succ, e0, e1, if_neg (m0 j), if_neg (m0 j), if_pos (m1 j), if_pos (m1 j)]
      rw [if_neg (show ¬ slotOf R (numb n j) + 1 = 0 by omega)]
      by_cases h : slotOf R (numb n j) = 0
      · rw [if_pos h, if_pos h, h]; grind
      · rw [if_neg h, if_neg h]; simp
    | succ s =>
      simp only [W]
      rw [← ih (s + 1), ← ih s, Int.mul_comm, ← sumTo_mul, Int.mul_comm (sumTo _ _), ← sumTo_mul, ← sumTo_add]
      refine sumTo_congr fun j _ => ?_
      rw [slotOf_succ, slotOf_succ, fallsOf_succ, fallsOf_succ, e0, e1, if_neg (m0 j), if_neg (m0 j), if_pos (m1 j), if_pos (m1 j)]
      by_cases h : slotOf R (numb n j) = s + 1
      · rw [if_pos h, if_neg (show ¬ slotOf R (numb n j) + 1 = s + 1 by omega), if_pos h, if_neg (show ¬ slotOf R (numb n j) = s by omega), h]; grind
      · rw [if_neg h, if_neg h]
        by_cases h2 : slotOf R (numb n j) = s
        · rw [if_pos (show slotOf R (numb n j) + 1 = s + 1 by omega), if_pos h2, h2]; grind
        · rw [if_neg (show ¬ slotOf R (numb n j) + 1 = s + 1 by omega), if_neg h2]; simp

/-- whether a list comes before another one of the same length -/
def lexB : List Int → List Int → Bool
  | x :: a, y :: b => if x = y then lexB a b else decide (x < y)
  | _, _ => false

theorem lexB_snoc (x y : Int) : ∀ (a b : List Int), a.length = b.length → lexB (a ++ [x]) (b ++ [y]) = if a = b then decide (x < y) else lexB a b := by
  intro a
  induction a with
  | nil => intro b h; cases b with
    | nil => simp [lexB]; intro h1 h2; omega
    | cons _ _ => simp at h
  | cons u a ih => intro b h; cases b with
    | nil => simp at h
    | cons v b =>
      simp only [List.cons_append, lexB, ih b (by simpa using h)]
      by_cases e : u = v
      · subst e; simp
      · simp [e]
theorem numb_inj (n : Nat) : ∀ i j, i < 2 ^ n → j < 2 ^ n → numb n i = numb n j → i = j := by
  induction n with
  | zero => intro i j hi hj _; simp at hi hj; omega
  | succ n ih =>
    intro i j hi hj h
    simp only [numb] at h
    rw [Nat.pow_succ] at hi hj
    have h1 := List.append_inj' h rfl
    have h2 := ih (i / 2) (j / 2) (by omega) (by omega) h1.1
    have h3 := h1.2
    simp at h3
    omega
theorem lexB_numb (n : Nat) : ∀ i j, i < 2 ^ n → j < 2 ^ n → lexB (numb n i) (numb n j) = decide (i < j) := by
  induction n with
  | zero => intro i j hi hj; simp at hi hj; subst hi hj; simp [numb, lexB]
  | succ n ih =>
    intro i j hi hj
    rw [Nat.pow_succ] at hi hj
    simp only [numb]
    rw [lexB_snoc _ _ _ _ (by rw [numb_len, numb_len])]
    by_cases e : i / 2 = j / 2
    · rw [e, if_pos rfl]; exact decide_eq_decide.2 (by omega)
    · rw [if_neg fun h => e (numb_inj n _ _ (by omega) (by omega) h), ih _ _ (by omega) (by omega)]
      exact decide_eq_decide.2 (by omega)

/-- all paths, in order -/
def pathsL : Nat → List (List Int)
  | 0 => [[]]
  | n + 1 => (pathsL n).flatMap fun p => [p ++ [0], p ++ [1]]
theorem pathsL_eq (n : Nat) : pathsL n = (List.range (2 ^ n)).map (numb n) := by
  induction n with
  | zero => simp [pathsL, numb]
  | succ n ih =>
    simp only [pathsL, ih]
    have : ∀ m, ((List.range m).map (numb n)).flatMap (fun p => [p ++ [0], p ++ [1]]) = (List.range (2 * m)).map (numb (n + 1)) := by
      intro m
      induction m with
      | zero => rfl
      | succ m ihm =>
        rw [List.range_succ, List.map_append, List.flatMap_append, ihm, show 2 * (m + 1) = 2 * m + 1 + 1 by omega, List.range_succ, List.range_succ, List.map_append, List.map_append]
        simp only [List.map_cons, List.map_nil, List.flatMap_cons, List.flatMap_nil, List.append_nil, List.append_assoc]
        congr 1
        simp only [numb, List.cons_append, List.nil_append]
        rw [show 2 * m / 2 = m by omega, show (2 * m + 1) / 2 = m by omega, show 2 * m % 2 = 0 by omega, show (2 * m + 1) % 2 = 1 by omega]; rfl
    rw [this, Nat.pow_succ, Nat.mul_comm]

/-- the number, from 0 on, of the first path with the most falls among the first m -/
def bestN (f : Nat → Int) : Nat → Nat
  | 0 => 0
  | m + 1 => if f (bestN f m) < f m then m else bestN f m
theorem bestN_le (f : Nat → Int) (m : Nat) : ∀ i, i < m → f i ≤ f (bestN f m) := by
  induction m with
  | zero => intro i hi; omega
  | succ m ih =>
    intro i hi
    simp only [bestN]
    by_cases e : i = m
    · subst e; split <;> omega
    · have := ih i (by omega); split <;> omega
theorem bestN_lt (f : Nat → Int) (m : Nat) (hm : 0 < m) : bestN f m < m := by
  induction m with
  | zero => omega
  | succ m ih =>
    simp only [bestN]
    split
    · omega
    · cases m with
      | zero => simp [bestN]
      | succ m => have := ih (by omega); omega
theorem bestN_first (f : Nat → Int) (m : Nat) : ∀ i, i < bestN f m → f i < f (bestN f m) := by
  induction m with
  | zero => intro i hi; simp [bestN] at hi
  | succ m ih =>
    intro i hi
    simp only [bestN] at hi ⊢
    split at hi
    · rename_i h
      have := bestN_le f m i (by omega)
      rw [if_pos h]; omega
    · rename_i h
      rw [if_neg h]; exact ih i hi

end Go.Proofs.Ytnnojhpioenhbaa

namespace Go.Proofs.Ytnnojhpioenhbaa

/-- a fraction in least terms -/
def lst (n d : Int) : Int × Int := (n / (Int.gcd n d : Int), d / (Int.gcd n d : Int))
/-- whether a fraction is less than another one -/
def lessQ (x y : Int × Int) : Bool := decide (x.1 * y.2 < y.1 * x.2)

theorem gcd_pos {n d : Int} (hd : 0 < d) : 0 < (Int.gcd n d : Int) := by
  have : 0 < Int.gcd n d := Int.gcd_pos_of_ne_zero_right _ (by omega)
  omega
theorem lst_mul {n d : Int} : (lst n d).1 * (Int.gcd n d : Int) = n ∧ (lst n d).2 * (Int.gcd n d : Int) = d :=
  ⟨Int.ediv_mul_cancel (Int.gcd_dvd_left _ _), Int.ediv_mul_cancel (Int.gcd_dvd_right _ _)⟩
theorem lst_pos {n d : Int} (hd : 0 < d) : 0 < (lst n d).2 := by
  have h := (lst_mul (n := n) (d := d)).2
  have g := gcd_pos (n := n) hd
  by_cases h0 : 0 < (lst n d).2
  · exact h0
  · have := Int.mul_le_mul_of_nonneg_right (show (lst n d).2 ≤ 0 by omega) (Int.le_of_lt g)
    omega
theorem lst_nonneg {n d : Int} (hn : 0 ≤ n) : 0 ≤ (lst n d).1 := Int.ediv_nonneg hn (by omega)
theorem lst_den_le {n d : Int} (hd : 0 < d) : (lst n d).2 ≤ d := Int.ediv_le_self _ (by omega)
theorem lst_num_le {n d c : Int} (hd : 0 < d) (h : n ≤ c * d) : (lst n d).1 ≤ c * (lst n d).2 := by
  have g := gcd_pos (n := n) hd
  obtain ⟨h1, h2⟩ := lst_mul (n := n) (d := d)
  refine Int.le_of_mul_le_mul_right ?_ g
  rw [Int.mul_assoc, h1, h2]; exact h
theorem lst_coprime {n d : Int} (hd : 0 < d) : Int.gcd (lst n d).1 (lst n d).2 = 1 := by
  have h := Int.gcd_pos_of_ne_zero_right n (b := d) (by omega)
  unfold lst
  rw [Int.gcd_ediv (Int.gcd_dvd_left _ _) (Int.gcd_dvd_right _ _)]
  simp; exact Nat.div_self h
theorem lst_lst {n d : Int} (hd : 0 < d) : lst (lst n d).1 (lst n d).2 = lst n d := by
  rw [lst, lst_coprime hd]; simp
theorem lst_scale {n d g : Int} (hd : 0 < d) (hg : 0 < g) : lst (n * g) (d * g) = lst n d := by
  have e : (Int.gcd (n * g) (d * g) : Int) = Int.gcd n d * g := by
    rw [Int.gcd_mul_right, Int.natCast_mul]; congr 1; omega
  have h := gcd_pos (n := n) hd
  unfold lst
  rw [e, Int.mul_ediv_mul_of_pos_left _ _ hg, Int.mul_ediv_mul_of_pos_left _ _ hg]
/-- the fraction of a pay that was multiplied, and to which something was added -/
theorem lst_affine {n d t m : Int} (hd : 0 < d) : lst ((lst n d).1 * t + m * (lst n d).2) (lst n d).2 = lst (n * t + m * d) d := by
  have g := gcd_pos (n := n) hd
  obtain ⟨h1, h2⟩ := lst_mul (n := n) (d := d)
  rw [← lst_scale (lst_pos hd) g, h2]
  congr 1
  have : ((lst n d).1 * t + m * (lst n d).2) * (Int.gcd n d : Int) = ((lst n d).1 * (Int.gcd n d : Int)) * t + m * ((lst n d).2 * (Int.gcd n d : Int)) := by grind
  rw [this, h1, h2]
theorem lessQ_lst {n m d : Int} (hd : 0 < d) : lessQ (lst n d) (lst m d) = decide (n < m) := by
  obtain ⟨a1, a2⟩ := lst_mul (n := n) (d := d)
  obtain ⟨b1, b2⟩ := lst_mul (n := m) (d := d)
  have ga := gcd_pos (n := n) hd
  have gb := gcd_pos (n := m) hd
  have pa := lst_pos (n := n) hd
  have pb := lst_pos (n := m) hd
  have e1 : (lst n d).1 * (lst m d).2 * ((Int.gcd n d : Int) * (Int.gcd m d : Int)) = n * d := by
    have : (lst n d).1 * (lst m d).2 * ((Int.gcd n d : Int) * (Int.gcd m d : Int)) = ((lst n d).1 * (Int.gcd n d : Int)) * ((lst m d).2 * (Int.gcd m d : Int)) := by grind
    rw [this, a1, b2]
  have e2 : (lst m d).1 * (lst n d).2 * ((Int.gcd n d : Int) * (Int.gcd m d : Int)) = m * d := by
    have : (lst m d).1 * (lst n d).2 * ((Int.gcd n d : Int) * (Int.gcd m d : Int)) = ((lst m d).1 * (Int.gcd m d : Int)) * ((lst n d).2 * (Int.gcd n d : Int)) := by grind
    rw [this, b1, a2]
  have gp := Int.mul_pos ga gb
  unfold lessQ
  refine decide_eq_decide.2 ⟨fun h => ?_, fun h => ?_⟩
  · have := Int.mul_lt_mul_of_pos_right h gp
    rw [e1, e2] at this
    exact Int.lt_of_mul_lt_mul_right this (Int.le_of_lt hd)
  · have := Int.mul_lt_mul_of_pos_right h hd
    rw [← e1, ← e2] at this
    exact Int.lt_of_mul_lt_mul_right this (Int.le_of_lt gp)
/-- numerators over a common multiple of the denominators -/
theorem lst_over {n d a : Int} (hd : 0 < d) : (lst n d).1 * (d * a / (lst n d).2) = n * a := by
  obtain ⟨h1, h2⟩ := lst_mul (n := n) (d := d)
  have p := lst_pos (n := n) hd
  have : d * a = (Int.gcd n d : Int) * a * (lst n d).2 := by
    rw [show (Int.gcd n d : Int) * a * (lst n d).2 = ((lst n d).2 * (Int.gcd n d : Int)) * a by grind, h2]
  rw [this, Int.mul_ediv_cancel _ (by omega), ← Int.mul_assoc, h1]

/-- the first of several that is better than all before it -/
def bestBy {α : Type} (lt : α → α → Bool) (x : α) (l : List α) : α := l.foldl (fun out y => if lt y out then y else out) x
theorem bestBy_map {α β : Type} (f : α → β) (lt : α → α → Bool) (lt2 : β → β → Bool) (h : ∀ a b, lt2 (f a) (f b) = lt a b) : ∀ (l : List α) (x : α), bestBy lt2 (f x) (l.map f) = f (bestBy lt x l) := by
  intro l
  induction l with
  | nil => intro x; rfl
  | cons y l ih =>
    intro x
    simp only [bestBy, List.map_cons, List.foldl_cons] at ih ⊢
    rw [h]
    split
    · exact ih y
    · exact ih x
def minL (x : Int) (l : List Int) : Int := bestBy (fun a b => decide (a < b)) x l
def maxL (x : Int) (l : List Int) : Int := bestBy (fun a b => decide (b < a)) x l
theorem minL_spec : ∀ (l : List Int) (x : Int), (minL x l ≤ x ∧ ∀ y, y ∈ l → minL x l ≤ y) ∧ (minL x l = x ∨ minL x l ∈ l) := by
  intro l
  induction l with
  | nil => intro x; exact ⟨⟨Int.le_refl _, fun y h => by cases h⟩, .inl rfl⟩
  | cons z l ih =>
    intro x
    have e : minL x (z :: l) = minL (if z < x then z else x) l := by
      unfold minL bestBy; simp only [List.foldl_cons, decide_eq_true_eq]
    obtain ⟨⟨h1, h2⟩, h3⟩ := ih (if z < x then z else x)
    rw [e]
    refine ⟨⟨?_, fun y hy => ?_⟩, ?_⟩
    · split at h1 <;> split <;> omega
    · rcases List.mem_cons.1 hy with rfl | hy
      · split at h1 <;> split <;> omega
      · exact h2 y hy
    · rcases h3 with h3 | h3
      · rw [h3]; split
        · exact .inr (List.mem_cons_self ..)
        · exact .inl rfl
      · exact .inr (List.mem_cons_of_mem _ h3)
theorem maxL_spec : ∀ (l : List Int) (x : Int), (x ≤ maxL x l ∧ ∀ y, y ∈ l → y ≤ maxL x l) ∧ (maxL x l = x ∨ maxL x l ∈ l) := by
  intro l
  induction l with
  | nil => intro x; exact ⟨⟨Int.le_refl _, fun y h => by cases h⟩, .inl rfl⟩
  | cons z l ih =>
    intro x
    have e : maxL x (z :: l) = maxL (if x < z then z else x) l := by
      unfold maxL bestBy; simp only [List.foldl_cons, decide_eq_true_eq]
    obtain ⟨⟨h1, h2⟩, h3⟩ := ih (if x < z then z else x)
    rw [e]
    refine ⟨⟨?_, fun y hy => ?_⟩, ?_⟩
    · split at h1 <;> split <;> omega
    · rcases List.mem_cons.1 hy with rfl | hy
      · split at h1 <;> split <;> omega
      · exact h2 y hy
    · rcases h3 with h3 | h3
      · rw [h3]; split
        · exact .inr (List.mem_cons_self ..)
        · exact .inl rfl
      · exact .inr (List.mem_cons_of_mem _ h3)
theorem minL_affine {t m : Int} (ht : 0 < t) (l : List Int) (x : Int) : minL (x * t + m) (l.map fun y => y * t + m) = minL x l * t + m :=
  bestBy_map (fun y => y * t + m) _ _ (fun a b => decide_eq_decide.2 ⟨fun h => Int.lt_of_mul_lt_mul_right (show a * t < b * t by omega) (Int.le_of_lt ht), fun h => by have := Int.mul_lt_mul_of_pos_right h ht; omega⟩) l x
theorem maxL_affine {t m : Int} (ht : 0 < t) (l : List Int) (x : Int) : maxL (x * t + m) (l.map fun y => y * t + m) = maxL x l * t + m :=
  bestBy_map (fun y => y * t + m) _ _ (fun a b => decide_eq_decide.2 ⟨fun h => Int.lt_of_mul_lt_mul_right (show b * t < a * t by omega) (Int.le_of_lt ht), fun h => by have := Int.mul_lt_mul_of_pos_right h ht; omega⟩) l x
theorem best_lst {d : Int} (hd : 0 < d) (l : List Int) (x : Int) : bestBy lessQ (lst x d) (l.map fun y => lst y d) = lst (minL x l) d :=
  bestBy_map (fun y => lst y d) _ _ (fun _ _ => lessQ_lst hd) l x
theorem worst_lst {d : Int} (hd : 0 < d) (l : List Int) (x : Int) : bestBy (fun a b => lessQ b a) (lst x d) (l.map fun y => lst y d) = lst (maxL x l) d :=
  bestBy_map (fun y => lst y d) (fun a b => decide (b < a)) (fun a b => lessQ b a) (fun _ _ => lessQ_lst hd) l x

end Go.Proofs.Ytnnojhpioenhbaa

namespace Go.Proofs.Ytnnojhpioenhbaa
open Go.RowKit

theorem hid {p : Prop} (h : p) : Hid p := h
theorem ret_bool {a b : Bool} (h : a = b) : Ending.returned (.bool a) = .returned (.bool b) := by rw [h]
theorem ret_int {k : IntKind} {a b : Int} (h : a = b) : Ending.returned (.int k a) = .returned (.int k b) := by rw [h]

/-- the element of a list of ints at an index; 0 beyond its end -/
def nth (xs : List Int) (k : Nat) : Int := xs.getD k 0

theorem nth_cons_zero (x : Int) (xs : List Int) : nth (x :: xs) 0 = x := rfl
theorem nth_cons_succ (x : Int) (xs : List Int) (k : Nat) : nth (x :: xs) (k + 1) = nth xs k := rfl
theorem nth_nil (k : Nat) : nth [] k = 0 := by simp [nth]
theorem nth_eq {xs : List Int} {k : Nat} (h : k < xs.length) : nth xs k = xs[k] := by simp [nth, List.getD, h]
theorem nth_of_ge {xs : List Int} {k : Nat} (h : xs.length ≤ k) : nth xs k = 0 := by simp [nth, List.getD, List.getElem?_eq_none h]
theorem nth_mem {xs : List Int} {k : Nat} (h : k < xs.length) : nth xs k ∈ xs := by rw [nth_eq h]; exact List.getElem_mem h
theorem nth_append_left {xs ys : List Int} {k : Nat} (h : k < xs.length) : nth (xs ++ ys) k = nth xs k := by
  simp [nth, List.getD, List.getElem?_append_left h]
theorem nth_append_right (xs ys : List Int) (k : Nat) : nth (xs ++ ys) (xs.length + k) = nth ys k := by
  simp [nth, List.getD, List.getElem?_append_right]
theorem nth_take {xs : List Int} {k n : Nat} (h : k < n) : nth (xs.take n) k = nth xs k := by
  simp [nth, List.getD, h]
theorem nth_drop (xs : List Int) (k n : Nat) : nth (xs.drop n) k = nth xs (n + k) := by
  simp [nth, List.getD, List.getElem?_drop]
theorem take_succ_nth {xs : List Int} {k : Nat} (h : k < xs.length) : xs.take (k + 1) = xs.take k ++ [nth xs k] := by
  rw [List.take_succ_eq_append_getElem h, nth_eq h]
theorem ext_nth {xs ys : List Int} (hl : xs.length = ys.length) (h : ∀ k, k < xs.length → nth xs k = nth ys k) : xs = ys := by
  apply List.ext_getElem hl
  intro i h1 h2
  have := h i h1
  rwa [nth_eq h1, nth_eq h2] at this
theorem all_take_succ (p : Int → Bool) {xs : List Int} {k : Nat} (h : k < xs.length) : (xs.take (k + 1)).all p = ((xs.take k).all p && p (nth xs k)) := by
  rw [take_succ_nth h, List.all_append]; simp
theorem any_take_succ (p : Int → Bool) {xs : List Int} {k : Nat} (h : k < xs.length) : (xs.take (k + 1)).any p = ((xs.take k).any p || p (nth xs k)) := by
  rw [take_succ_nth h, List.any_append]; simp

/-- the cells of a slice of ints -/
def IntsAt (w : World) (a : Option Addr) (xs : List Int) : Prop :=
  xs = [] ∨ ∃ b off, a = some ⟨b, off, none⟩ ∧ ∀ j, j < xs.length → w.cell? ⟨b, off + j, none⟩ = some (.int .i64 (nth xs j))

theorem IntsAt.nil (w : World) (a : Option Addr) : IntsAt w a [] := .inl rfl

theorem IntsAt.at {w : World} {a : Option Addr} {xs : List Int} (h : IntsAt w a xs) {k : Nat} (hk : k < xs.length) :
    ∃ b off, a = some ⟨b, off, none⟩ ∧ w.cell? ⟨b, off + k, none⟩ = some (.int .i64 (nth xs k)) := by
  rcases h with rfl | ⟨b, off, rfl, h⟩
  · simp at hk
  · exact ⟨b, off, rfl, h k hk⟩

theorem IntsAt.cell {w : World} {b off : Nat} {xs : List Int} (h : IntsAt w (some ⟨b, off, none⟩) xs) {k : Nat} (hk : k < xs.length) :
    w.cell? ⟨b, off + k, none⟩ = some (.int .i64 (nth xs k)) := by
  obtain ⟨b', off', e, hc⟩ := h.at hk
  simp at e
  obtain ⟨rfl, rfl⟩ := e
  exact hc

theorem IntsAt.lt {w : World} {b off : Nat} {xs : List Int} (h : IntsAt w (some ⟨b, off, none⟩) xs) (hx : 0 < xs.length) : b < w.heap.size :=
  block_lt_of_cell (h.cell hx)

theorem IntsAt.mono {w w' : World} {a : Option Addr} {xs : List Int} (h : IntsAt w a xs) (hb : Below w.heap.size w w') : IntsAt w' a xs := by
  rcases h with rfl | ⟨b, off, rfl, h⟩
  · exact .inl rfl
  · exact .inr ⟨b, off, rfl, fun j hj => (hb.cell (p := ⟨b, off + j, none⟩) (block_lt_of_cell (h j hj))).trans (h j hj)⟩

theorem IntsAt.take {w : World} {a : Option Addr} {xs : List Int} (h : IntsAt w a xs) (n : Nat) : IntsAt w a (xs.take n) := by
  rcases h with rfl | ⟨b, off, rfl, h⟩
  · exact .inl (by simp)
  · refine .inr ⟨b, off, rfl, fun j hj => ?_⟩
    rw [List.length_take] at hj
    rw [nth_take (by omega)]
    exact h j (by omega)

theorem IntsAt.drop {w : World} {b off : Nat} {xs : List Int} (h : IntsAt w (some ⟨b, off, none⟩) xs) (n : Nat) : IntsAt w (some ⟨b, off + n, none⟩) (xs.drop n) := by
  refine .inr ⟨b, off + n, rfl, fun j hj => ?_⟩
  rw [List.length_drop] at hj
  rw [nth_drop, Nat.add_assoc]
  exact h.cell (by omega)

/-- what is read of an int slice of a new block -/
theorem IntsAt.of_heap {w : World} {b off : Nat} {cs : Array Value} {t : TypeId} {fr : Nat × Nat} {xs : List Int} (hg : w.heap[b]? = some (.cells cs t fr))
    (h : ∀ j, j < xs.length → cs[off + j]? = some (.int .i64 (nth xs j))) : IntsAt w (some ⟨b, off, none⟩) xs :=
  .inr ⟨b, off, rfl, fun j hj => by rw [cell_of_row w b (off + j) cs t fr hg]; exact h j hj⟩


theorem intsAt_new (w : World) (xs : List Int) (b : Nat) (t : TypeId) (hb : b = w.heap.size) : IntsAt (w.alloc (.cells (xs.map (Value.int .i64)).toArray t)) (some ⟨b, 0, none⟩) xs := by
  subst hb
  refine IntsAt.of_heap (heap_alloc_new w _) fun j hj => ?_
  simp [nth_eq hj, hj]

/-- behind a call that lays new blocks: old cells and marks read as before -/
theorem bcell {W w1 : World} (hb : Below W.heap.size W w1) : (∀ b o, b < W.heap.size → w1.cell? ⟨b, o, none⟩ = W.cell? ⟨b, o, none⟩) ∧ (∀ b o, b < W.heap.size → w1.frozen? ⟨b, o, none⟩ = W.frozen? ⟨b, o, none⟩) :=
  ⟨fun b o h => hb.cell (p := ⟨b, o, none⟩) h, fun b o h => hb.frozen (p := ⟨b, o, none⟩) h⟩

/-- a step of new blocks behind another one -/
theorem bstep {a b c : World} (h : Below a.heap.size a b) (k : Below b.heap.size b c) : Below a.heap.size a c := h.trans (k.mono h.size)


theorem cstep {w w1 : World} {p : Addr} {v : Value} (h : w.cell? p = some v) (hB : Below w.heap.size w w1) : w1.cell? p = some v :=
  (hB.cell (block_lt_of_cell h)).trans h

end Go.Proofs.Ytnnojhpioenhbaa

namespace Go.Proofs.Ytnnojhpioenhbaa
open Go.RowKit

/-- whatever lay, but the blocks of S, lies as it lay -/
structure Only (S : Nat → Prop) (W W' : World) : Prop where
  os : W'.os = W.os
  tape : W'.tape = W.tape
  output : W'.output = W.output
  size : W.heap.size ≤ W'.heap.size
  block : ∀ k, k < W.heap.size → ¬ S k → W'.heap[k]? = W.heap[k]?

theorem Only.refl (S : Nat → Prop) (W : World) : Only S W W := ⟨rfl, rfl, rfl, Nat.le_refl _, fun _ _ _ => rfl⟩
theorem Only.trans {S : Nat → Prop} {A B C : World} (h : Only S A B) (k : Only S B C) : Only S A C :=
  ⟨k.os.trans h.os, k.tape.trans h.tape, k.output.trans h.output, Nat.le_trans h.size k.size, fun i hi hs => (k.block i (Nat.lt_of_lt_of_le hi h.size) hs).trans (h.block i hi hs)⟩
theorem Only.mono {S T : Nat → Prop} {W W' : World} (h : Only S W W') (hst : ∀ k, S k → T k) : Only T W W' :=
  ⟨h.os, h.tape, h.output, h.size, fun k hk hs => h.block k hk (fun c => hs (hst k c))⟩
theorem Only.of_below {S : Nat → Prop} {W W' : World} (h : Below W.heap.size W W') : Only S W W' :=
  ⟨h.os, h.tape, h.output, h.size, fun k hk _ => h.block k hk⟩
theorem Only.below {S : Nat → Prop} {W W' : World} (h : Only S W W') {B : Nat} (hB : B ≤ W.heap.size) (hs : ∀ k, k < B → ¬ S k) : Below B W W' :=
  ⟨h.os, h.tape, h.output, h.size, fun k hk => h.block k (Nat.lt_of_lt_of_le hk hB) (hs k hk)⟩
theorem Only.putObj {S : Nat → Prop} (W : World) {r : Nat} (hr : S r) (o : Obj) : Only S W (W.putObj r o) :=
  ⟨rfl, rfl, rfl, by simp, fun k _ hs => World.putObj_heap_other (fun e => hs (e ▸ hr))⟩
theorem Only.setCell {S : Nat → Prop} {A W : World} (h : Only S A W) {p : Addr} (hp : S p.block) (v : Value) : Only S A (W.setCell p v) :=
  ⟨h.os, h.tape, h.output, by show A.heap.size ≤ (W.heap.modify _ _).size; rw [Array.size_modify]; exact h.size,
    fun k hk hs => (Below.heap_setCell W p v k (fun e => hs (e ▸ hp))).trans (h.block k hk hs)⟩
theorem Only.alloc {S : Nat → Prop} {A W : World} (h : Only S A W) (o : Obj) : Only S A (W.alloc o) :=
  ⟨h.os, h.tape, h.output, by simp; exact Nat.le_succ_of_le h.size, fun k hk hs => (Below.heap_alloc W o k (Nat.lt_of_lt_of_le hk h.size)).trans (h.block k hk hs)⟩
theorem Only.put1 (W : World) (r : Nat) (o : Obj) : Only (fun b => b = r) W (W.putObj r o) :=
  Only.putObj (S := fun b => b = r) W rfl o
theorem Only.cell {S : Nat → Prop} {W W' : World} (h : Only S W W') {p : Addr} {v : Value} (hc : W.cell? p = some v) (hp : ¬ S p.block) : W'.cell? p = some v :=
  (World.cell?_of_block (h.block _ (block_lt_of_cell hc) hp)).trans hc

/-- THE ITERATOR's CONTRACT: it hands to its rounds, one behind the other, values of which X holds; a round may turn the blocks of S alone. -/
def Gen (P : Program) (gf : Nat) (lb : Array Value) (S : Nat → Prop) (X : Nat → Array Value → World → Prop) (L N : Nat) (Done : Nat → Prop) (w0 : World) : Prop :=
  ∀ (l : Nat) (J Jx : Nat → World → Prop) (W : World), Below w0.heap.size w0 W → w0.heap.size ≤ l → l < W.heap.size → w0.heap.size + 1 < W.heap.size →
    (∀ k W W', J k W → Below W.heap.size W W' → J k W') → (∀ k W W', Jx k W → Below W.heap.size W W' → Jx k W') → (∀ k W, J k W → k ≤ N) →
    (∀ k v W1, J k W1 → X k v W1 → k < L → YieldAt Fence.wide 0 P l v W1 fun e W' =>
      (e = .returned (.bool true) ∧ J (k + 1) W' ∧ Only (fun b => S b ∨ b = l) W1 W') ∨ (e = .returned (.bool false) ∧ Jx (k + 1) W')) →
    J 0 W →
    CallsIn Fence.wide 0 P gf (#[.func (.yield l) #[] #[]] ++ lb) W fun e W' => (∃ v, e = .returned v) ∧ ((∃ k, Done k ∧ J k W') ∨ (∃ k, Jx k W'))

/-- how the body of a round may be left -/
def roundEnds (S : Nat → Prop) (I : Nat → World → Prop) (Ix : Code → Nat → World → Prop) (k : Nat) (W : World) : Exit → Act → World → Prop
  | .normal, _, W' => Only S W W' ∧ I (k + 1) W'
  | .ret, _, W' => Only S W W' ∧ Ix .ret (k + 1) W'
  | .exit id, _, W' => Only S W W' ∧ Ix (.exit id) (k + 1) W'
  | _, _, _ => False

theorem range_law {P : Program} {g : Operand} {ps : Array Tmp} {assign body : Code} {Q : Exit → Act → World → Prop} {a : Act} {w : World}
    {gf : Nat} {lb : Array Value} (hg : a.eval g = .func (.func gf) #[] lb) (eg : ∀ args w, (callFunc gf args).run P w = .ok (.enter gf args) w)
    {S : Nat → Prop} {X : Nat → Array Value → World → Prop} {L N : Nat} {Done : Nat → Prop} (hseq : Gen P gf lb S X L N Done w)
    (hS : ¬ S w.heap.size ∧ ¬ S (w.heap.size + 1)) (hps : ∀ k v W, X k v W → v.size = ps.size)
    (hX : ∀ k v W W', X k v W → Only (fun b => b = w.heap.size + 1) W W' → X k v W')
    (I : Nat → World → Prop) (Ix : Code → Nat → World → Prop)
    (hI : ∀ k W W', I k W → Only (fun b => b = w.heap.size + 1) W W' → I k W')
    (hIx : ∀ c k W W', Ix c k W → Only (fun b => b = w.heap.size + 1) W W' → Ix c k W')
    (hN : ∀ k W, I k W → k ≤ N) (h0 : I 0 w) (a₁ : Array Value → Act)
    (hassign : ∀ (l k : Nat) (v : Array Value) (W : World) (K : Act → World → Prop), X k v W → K (a₁ v) W →
      assign.wpIn (Fence.wide.inRound l) 0 P (Exit.then K (fun _ _ _ => False)) { tmps := (ps.zip v).foldl (fun t (p, v) => t.setIfInBounds p v) a.tmps, defers := [] } W)
    (hbody : ∀ (k : Nat) (v : Array Value) (W : World), w.heap.size + 1 < W.heap.size → I k W → X k v W → k < L → body.wpIn (Fence.wide.inRound (w.heap.size + 1)) 0 P (roundEnds S I Ix k W) (a₁ v) W)
    (hdone : ∀ (k : Nat) (W : World), Done k → I k W → W.heap[w.heap.size]? = some (.deferred (some [])) → w.heap.size < W.heap.size →
      Q .normal { a with defers := { target := .collected w.heap.size, args := #[] } :: a.defers } W)
    (hstop : ∀ (c : Code) (k : Nat) (W : World), Ix c k W → W.heap[w.heap.size]? = some (.deferred (some [])) →
      c.wpIn Fence.wide 0 P Q { a with defers := { target := .collected w.heap.size, args := #[] } :: a.defers } W) :
    (Code.rangeFunc g ps assign body).wpIn Fence.wide 0 P Q a w := by
  refine wpIn_rangeFunc ?_
  intro fn hfn
  rw [show Fence.wide.round = none from rfl]
  obtain ⟨rec, hrec⟩ : ∃ rec : LoopState → Option Code → Loop, rec = fun st pe => { state := st, pending := pe, fn, tmps := a.tmps, params := ps, assign, body, defers := w.heap.size } := ⟨_, rfl⟩
  obtain ⟨W1, hW1⟩ : ∃ W1, (w.alloc (.deferred (some []))).alloc (.loop (rec .ready none)) = W1 := ⟨_, rfl⟩
  have hL1 : W1.heap[w.heap.size + 1]? = some (.loop (rec .ready none)) := by
    rw [← hW1]; have := World.alloc_heap_new (w.alloc (.deferred (some []))) (.loop (rec .ready none)); rwa [World.size_alloc] at this
  have hK1 : W1.heap[w.heap.size]? = some (.deferred (some [])) := by
    rw [← hW1]; exact (Below.heap_alloc _ _ _ (by simp)).trans (World.alloc_heap_new w _)
  have hb1 : Below w.heap.size w W1 := by
    rw [← hW1]; exact ((Below.refl _ w).alloc (Nat.le_refl _) _).alloc (by simp) _
  have hI1 : I 0 W1 := hI _ _ _ h0 (Only.of_below hb1)
  have keep : ∀ {A B : World} {i : Nat} {o : Obj}, Below A.heap.size A B → A.heap[i]? = some o → B.heap[i]? = some o := fun h ho =>
    (h.block _ (Array.getElem?_eq_some_iff.1 ho).1).trans ho
  refine ⟨w.heap.size + 1, [{ target := .collected w.heap.size, args := #[] }], W1, { target := .fn (.func gf) lb, args := #[.func (.yield (w.heap.size + 1)) #[] #[]] }, W1, gf,
    #[.func (.yield (w.heap.size + 1)) #[] #[]] ++ lb, W1, ?_, ?_, ?_, ?_, fun h => by simp [Fence.wide] at h, ?_⟩
  · rw [← hW1, hrec]; exact run_enterLoop_outer _ _ _ _ _
  · simp only [resolve, hg]
    simp [go_sem]
  · intro f' _; trivial
  · simp [invoke, go_sem, eg]
  · refine (hseq (w.heap.size + 1)
      (fun k W => I k W ∧ W.heap[w.heap.size + 1]? = some (.loop (rec .ready none)) ∧ W.heap[w.heap.size]? = some (.deferred (some [])))
      (fun k W => ∃ c, Ix c k W ∧ W.heap[w.heap.size + 1]? = some (.loop (rec .done (some c))) ∧ W.heap[w.heap.size]? = some (.deferred (some [])))
      W1 hb1 (by omega) (Array.getElem?_eq_some_iff.1 hL1).1 (Array.getElem?_eq_some_iff.1 hL1).1
      (fun k A B hs hAB => ⟨hI _ _ _ hs.1 (Only.of_below hAB), keep hAB hs.2.1, keep hAB hs.2.2⟩)
      (fun k A B hs hAB => by
        obtain ⟨c, hc, hl, hk⟩ := hs
        exact ⟨c, hIx _ _ _ _ hc (Only.of_below hAB), keep hAB hl, keep hAB hk⟩)
      (fun k W hs => hN _ _ hs.1)
      ?_ ⟨hI1, hL1, hK1⟩).mono ?_
    · rintro k v W ⟨hi, hl, hk⟩ hx hlen
      have hlt : w.heap.size + 1 < W.heap.size := (Array.getElem?_eq_some_iff.1 hl).1
      have hy := run_yield (P := P) (args := v) hl (by rw [hrec]; exact hps _ _ _ hx)
      rw [hrec] at hy
      refine ⟨fn, _, assign, body, hy, roundIn_of_wpIn hfn (hassign _ k v W _ hx ⟨_, run_beginRound hl (by rw [hrec]), ?_⟩)⟩
      have hl2 : (W.putObj (w.heap.size + 1) (.loop { rec .ready none with state := .busy })).heap[w.heap.size + 1]? = some (.loop { rec .ready none with state := .busy }) := World.putObj_heap_same hlt
      have hk2 : (W.putObj (w.heap.size + 1) (.loop { rec .ready none with state := .busy })).heap[w.heap.size]? = some (.deferred (some [])) := (World.putObj_heap_other (by omega)).trans hk
      have hw2 : Only (fun b => b = w.heap.size + 1) W (W.putObj (w.heap.size + 1) (.loop { rec .ready none with state := .busy })) := Only.put1 _ _ _
      refine wpIn_mono (hbody k v _ (by simp; omega) (hI _ _ _ hi hw2) (hX _ _ _ _ hx hw2) hlen) ?_
      have fin : ∀ (jump : Option Code) (W3 : World), Only S (W.putObj (w.heap.size + 1) (.loop { rec .ready none with state := .busy })) W3 →
          (Instr.endRound (w.heap.size + 1) jump).run P W3 = .ok (.bool jump.isNone) (W3.putObj (w.heap.size + 1) (.loop (rec (if jump.isNone then .ready else .done) jump))) ∧
          (W3.putObj (w.heap.size + 1) (.loop (rec (if jump.isNone then .ready else .done) jump))).heap[w.heap.size + 1]? = some (.loop (rec (if jump.isNone then .ready else .done) jump)) ∧
          (W3.putObj (w.heap.size + 1) (.loop (rec (if jump.isNone then .ready else .done) jump))).heap[w.heap.size]? = some (.deferred (some [])) ∧
          Only (fun b => b = w.heap.size + 1) W3 (W3.putObj (w.heap.size + 1) (.loop (rec (if jump.isNone then .ready else .done) jump))) := fun jump W3 hk3 => by
        have hl3 := (hk3.block _ (by simp; omega) hS.2).trans hl2
        have := run_endRound (P := P) jump hl3
        rw [hrec] at this ⊢
        exact ⟨this, World.putObj_heap_same (Array.getElem?_eq_some_iff.1 hl3).1, (World.putObj_heap_other (by omega)).trans ((hk3.block _ (by simp; omega) hS.1).trans hk2), Only.put1 _ _ _⟩
      rintro e a3 W3 hp
      cases e with
      | normal =>
        obtain ⟨hk3, hi3⟩ := hp
        obtain ⟨hr, hl4, hk4, ho⟩ := fin none W3 hk3
        exact ⟨_, _, hr, .inl ⟨rfl, ⟨hI _ _ _ hi3 ho, hl4, hk4⟩, ((hw2.mono (fun _ h => .inr h)).trans (hk3.mono (fun _ h => .inl h))).trans (ho.mono (fun _ h => .inr h))⟩⟩
      | ret =>
        obtain ⟨hk3, hi3⟩ := hp
        obtain ⟨hr, hl4, hk4, ho⟩ := fin (some .ret) W3 hk3
        exact ⟨_, _, hr, .inr ⟨rfl, .ret, hIx _ _ _ _ hi3 ho, hl4, hk4⟩⟩
      | exit id =>
        obtain ⟨hk3, hi3⟩ := hp
        obtain ⟨hr, hl4, hk4, ho⟩ := fin (some (.exit id)) W3 hk3
        exact ⟨_, _, hr, .inr ⟨rfl, .exit id, hIx _ _ _ _ hi3 ho, hl4, hk4⟩⟩
      | goto t => exact hp.elim
      | panic ch => exact hp.elim
      | outgrown => exact hp.elim
    · rintro e W2 ⟨⟨v, rfl⟩, (⟨k, hS, hi, hl, hk⟩ | ⟨k, c, hi, hl, hk⟩)⟩
      · exact ⟨none, _, by have := run_endLoop (P := P) hl (by rw [hrec]; simp); rw [hrec] at this; exact this, hdone k _ hS (hI _ _ _ hi (Only.put1 _ _ _)) ((World.putObj_heap_other (by omega)).trans hk) (by simp; exact (Array.getElem?_eq_some_iff.1 hk).1)⟩
      · exact ⟨some c, _, by have := run_endLoop (P := P) hl (by rw [hrec]; simp); rw [hrec] at this; exact this, hstop c k _ (hIx _ _ _ _ hi (Only.put1 _ _ _)) ((World.putObj_heap_other (by omega)).trans hk)⟩

end Go.Proofs.Ytnnojhpioenhbaa

namespace Go.Proofs.Ytnnojhpioenhbaa
open Go.RowKit

section
variable {F : Fence} {n : Nat} {P : Program} {ops : Array Oper} {Q : Exit → Act → World → Prop} {md : Region.Mode}

theorem uponIn_round (l : Nat) {o : Oper} {a : Act} {K : Act → World → Prop} : ∀ r, o.uponIn F n P a K Q r → o.uponIn (F.inRound l) n P a K Q r
  | .ok x w', h => by cases x <;> simp only [Oper.uponIn] at h ⊢ <;> exact h
  | .halt x w', h => by cases x <;> simp only [Oper.uponIn] at h ⊢ <;> exact h

theorem operIn_round (_hro : F.round = none) (l : Nat) {o : Oper} (hd : ∀ c, o.op ≠ .defer c) {a : Act} {w : World} {K : Act → World → Prop} (h : o.wpIn F n P a w K Q) : o.wpIn (F.inRound l) n P a w K Q := by
  unfold Oper.wpIn at h ⊢
  rw [Oper.semAt_eq _ _ _ hd] at h ⊢
  exact ⟨h.1, uponIn_round l _ h.2⟩

theorem wpOpIn_round (hro : F.round = none) (l : Nat) (hd : ∀ (i : Nat) (o : Oper), ops[i]? = some o → ∀ c, o.op ≠ .defer c) {i : Nat} {a : Act} {w : World} {K : Act → World → Prop} (h : wpOpIn F n P ops Q i K a w) : wpOpIn (F.inRound l) n P ops Q i K a w := by
  unfold wpOpIn at *
  split
  · rename_i hn; simp only [hn] at h; exact h
  · rename_i o ho
    simp only [ho] at h
    split
    · rename_i hw; simp only [hw, if_true] at h; exact operIn_round hro l (hd i o ho) h
    · rename_i hw; simp only [hw] at h; exact h

theorem wpAnyIn_round (hro : F.round = none) (l : Nat) (hd : ∀ (i : Nat) (o : Oper), ops[i]? = some o → ∀ c, o.op ≠ .defer c) : ∀ (fuel : Nat) (listed : Array Bool) (a : Act) (w : World), wpAnyIn F n P md ops Q fuel listed a w → wpAnyIn (F.inRound l) n P md ops Q fuel listed a w
  | 0, _, _, _, h => h
  | fuel + 1, _, _, _, h => ⟨h.1, fun i hi => wpOpIn_round hro l hd (wpOpIn_mono (fun a w h => wpAnyIn_round hro l hd fuel _ a w h) (h.2 i hi))⟩

theorem wpIn_region_quiet_round {id : Nat} {a : Act} {w : World} {lst : List Oper} (l : Nat) (hro : F.round = none) (hm : P.follows .mixedOrders = true) (hB : Region.lexB .any lst.toArray = true)
    (hd : ∀ o ∈ lst, ∀ c, o.op ≠ .defer c)
    (h : wpQuietIn F n P lst.toArray (fun w' => ∃ n, w' = w.drewN n) (fun a' => ∀ w', (∃ n, w' = w.drewN n) → Q .normal a' w') lst a) : (Code.region id lst.toArray true).wpIn (F.inRound l) n P Q a w := by
  have hB' := hB
  simp only [Region.lexB, Bool.and_eq_true] at hB'
  refine wpIn_region_any hm (wpAnyIn_round hro l (fun i o ho => hd o (List.mem_of_getElem? (by simpa using ho))) _ _ _ _ (wpAnyIn_of_quiet (C := fun w' => ∃ n, w' = w.drewN n) (Q := fun a' => ∀ w', (∃ n, w' = w.drewN n) → Q .normal a' w') hro (fun _ w' hw' h => h w' hw') _ _ _ _ ⟨1, rfl⟩ ?_))
  have := wpAnyQIn_lex (F := F) (n := n) (C := fun w' => ∃ n, w' = w.drewN n) (md := .any) hB'.1 lst.toArray.toList 0 (Array.replicate lst.toArray.size false) a (by simp) (by simpa using hB'.2) (by simpa using h)
  simpa using this
end

end Go.Proofs.Ytnnojhpioenhbaa

namespace Go.Proofs.Ytnnojhpioenhbaa
open Go.RowKit
variable {P : Program}

theorem run_loadVar_part (w : World) (g off n : Nat) (t ty : TypeId) (cs : Array Value) (fr : Nat × Nat) (d : TypeDesc) (hg : w.heap[g]? = some (.cells cs t fr))
    (hu : P.underlying ty = some d) (hd : (match d with | .struct _ | .array _ _ => true | _ => false) = true) (hi : (P.info? ty).map (·.size) = some n) (hn : off + n ≤ cs.size) :
    (loadVar ty ⟨g, off, none⟩).run P w = .ok (.agg (cs.extract off (off + n))) w := by
  have hlen : (cs.extract off (off + n)).toList.length = n := by simp; omega
  have hl := run_loadCells_list (P := P) w ⟨g, off, none⟩ (cs.extract off (off + n)).toList (fun j v hv => by
      rw [Addr.add_lit, cell_of_row w g (off + j) cs t fr hg]
      have hj : j < n := by
        have := (List.getElem?_eq_some_iff.1 hv).1
        omega
      simp only [Array.toList_extract, List.getElem?_take, List.extract_eq_take_drop] at hv
      rw [if_pos (by omega)] at hv
      simpa using hv)
  cases hq : P.info? ty with
  | none => simp [hq] at hi
  | some i =>
    have hs : i.size = n := by simpa [hq] using hi
    have hagg : (isAgg ty).run P w = .ok true w := by
      unfold isAgg
      rw [Sem.run_bind, run_underlying hu w]
      cases d <;> simp_all
    rw [hlen] at hl
    simp only [Array.toArray_toList] at hl
    simp [loadVar, Sem.run_bind, hagg, sizeOf, typeInfo, hq, hs, hl]

theorem wpList_load_part {ops : Array Oper} {rest : List Oper} {o : Oper} {a : Act} {w : World} {Q : Exit → Act → World → Prop} (hgd : o.guard = none) (ty : TypeId) (x : Operand) (ho : o.op = .load ty x)
    (g off n : Nat) (hx : a.eval x = .pointer (some ⟨g, off, none⟩)) (t : TypeId) (cs : Array Value) (fr : Nat × Nat) (d : TypeDesc) (hg : w.heap[g]? = some (.cells cs t fr))
    (hu : P.underlying ty = some d) (hd : (match d with | .struct _ | .array _ _ => true | _ => false) = true) (hi : (P.info? ty).map (·.size) = some n) (hn : off + n ≤ cs.size)
    (h : wpList P ops Q rest (a.put o.dst (.agg (cs.extract off (off + n)))) w) : wpList P ops Q (o :: rest) a w := by
  refine wpList_plain hgd fun K hK => ?_
  have hr := run_loadVar_part (P := P) w g off n t ty cs fr d hg hu hd hi hn
  unfold Oper.wp
  simp [execOp, ho, hx, Instr.loadAt, Instr.sureAddr, hr, Result.andThen]
  exact hK _ _ h

theorem run_storeVar_part (w : World) (g off n : Nat) (t ty : TypeId) (cs vs : Array Value) (hg : w.heap[g]? = some (.cells cs t (0, 0))) (hi : (P.info? ty).map (·.size) = some n) (hv : vs.size = n)
    (hn : off + n ≤ cs.size) (h1 : ∀ v ∈ vs, v.oneCell' = true) :
    (storeVar ty ⟨g, off, none⟩ (.agg vs)).run P w = .ok () (w.setRow g (cs.toList.take off ++ vs.toList ++ cs.toList.drop (off + n)).toArray) := by
  cases hq : P.info? ty with
  | none => simp [hq] at hi
  | some i =>
    have hs : i.size = n := by simpa [hq] using hi
    have hst := run_storeCells_at (P := P) g off t vs.toList 0 cs w hg (by simp; omega) (by simpa using h1)
    simp only [Nat.add_zero, Array.length_toList, hv] at hst
    simp [storeVar, Sem.run_bind, sizeOf, typeInfo, hq, hs, Value.cells, hv, hst]

theorem setRow_heap {w : World} {g : Nat} {cs ds : Array Value} {t : TypeId} {fr : Nat × Nat} (hg : w.heap[g]? = some (.cells cs t fr)) : (w.setRow g ds).heap[g]? = some (.cells ds t fr) := by
  obtain ⟨hlt, h⟩ := Array.getElem?_eq_some_iff.1 hg
  unfold World.setRow
  show (w.heap.modify g _)[g]? = _
  rw [Array.getElem?_eq_getElem (by rw [Array.size_modify]; exact hlt), Array.getElem_modify_self, h]

theorem setRow_only {w : World} (g : Nat) (ds : Array Value) : Only (fun b => b = g) w (w.setRow g ds) :=
  ⟨rfl, rfl, rfl, by simp, fun k hk hs => by
    unfold World.setRow
    show (w.heap.modify g _)[k]? = _
    rw [Array.getElem?_modify, if_neg (fun e => hs e.symm)]⟩

theorem setCell_only {w : World} (g i : Nat) (v : Value) : Only (fun b => b = g) w (w.setCell ⟨g, i, none⟩ v) := Only.setCell (S := fun b => b = g) (Only.refl _ _) rfl _

/-- a value that lies in one cell is stored into a block that is known whole -/
theorem wpList_store_known {ops : Array Oper} {rest : List Oper} {o : Oper} {a : Act} {w : World} {Q : Exit → Act → World → Prop} (hgd : o.guard = none) (ty : TypeId) (x y : Operand) (ho : o.op = .store ty x y)
    (g i : Nat) (hx : a.eval x = .pointer (some ⟨g, i, none⟩)) (v : Value) (hy : a.eval y = v) (hv : v.oneCell' = true) (t : TypeId) (cs : List Value) (hg : w.heap[g]? = some (.cells cs.toArray t (0, 0)))
    (hi : (P.info? ty).map (·.size) = some 1) (hn : i < cs.length)
    (h : ∀ w', w'.heap[g]? = some (.cells (cs.set i v).toArray t (0, 0)) → Only (fun b => b = g) w w' → wpList P ops Q rest (a.put o.dst undef) w') : wpList P ops Q (o :: rest) a w := by
  refine wpList_plain hgd fun K hK => ?_
  have hcells : v.cells = #[v] := by cases v <;> first | rfl | (simp [Value.oneCell'] at hv)
  have hst := run_storeCells_at (P := P) g i t [v] 0 cs.toArray w hg (by simp; omega) (by simpa using hv)
  simp only [Nat.add_zero, List.length_singleton] at hst
  have hset : cs.take i ++ [v] ++ cs.drop (i + 1) = cs.set i v := by
    rw [List.set_eq_take_append_cons_drop, if_pos hn]; simp
  rw [hset] at hst
  cases hq : P.info? ty with
  | none => simp [hq] at hi
  | some inf =>
    have hs : inf.size = 1 := by simpa [hq] using hi
    unfold Oper.wp
    simp [execOp, ho, hx, hy, Instr.storeAt, Instr.sureAddr, storeVar, Sem.run_bind, sizeOf, typeInfo, hq, hs, hcells, hst, Result.andThen]
    exact hK _ _ (h _ (setRow_heap hg) (setRow_only _ _))

/-- an aggregate is stored into a part of a block that is known whole -/
theorem wpList_store_part {ops : Array Oper} {rest : List Oper} {o : Oper} {a : Act} {w : World} {Q : Exit → Act → World → Prop} (hgd : o.guard = none) (ty : TypeId) (x y : Operand) (ho : o.op = .store ty x y)
    (g off n : Nat) (hx : a.eval x = .pointer (some ⟨g, off, none⟩)) (vs : Array Value) (hy : a.eval y = .agg vs) (t : TypeId) (cs : Array Value) (hg : w.heap[g]? = some (.cells cs t (0, 0)))
    (hi : (P.info? ty).map (·.size) = some n) (hv : vs.size = n) (hn : off + n ≤ cs.size) (h1 : ∀ v ∈ vs, v.oneCell' = true)
    (h : ∀ w', w'.heap[g]? = some (.cells (cs.toList.take off ++ (vs.toList ++ cs.toList.drop (off + n))).toArray t (0, 0)) → Only (fun b => b = g) w w' → wpList P ops Q rest (a.put o.dst undef) w') : wpList P ops Q (o :: rest) a w := by
  refine wpList_plain hgd fun K hK => ?_
  have hst := run_storeVar_part (P := P) w g off n t ty cs vs hg hi hv hn h1
  unfold Oper.wp
  simp [execOp, ho, hx, hy, Instr.storeAt, Instr.sureAddr, hst, Result.andThen]
  exact hK _ _ (h _ (setRow_heap hg) (setRow_only _ _))

end Go.Proofs.Ytnnojhpioenhbaa

namespace Go.Proofs.Ytnnojhpioenhbaa
open Go.RowKit

/-- a list's type, and what is known of its elements -/
structure ET (t e : TypeId) (z : Value) (sz nb : Nat) : Prop where
  hu : Try.prog.underlying t = some (.slice e)
  hi : (Try.prog.info? e).map (fun i => (i.zero, i.size, i.bytes)) = some (some z, sz, nb)
  hz : z.cells.size = sz
  hp : 0 < sz
  hb : nb ≤ 64

theorem et42 : ET 42 3 (.int .i64 0) 1 8 := ⟨Try.underlying42, by kernel_rfl, rfl, by decide, by decide⟩
theorem et23 : ET 23 2 (.int .i64 0) 1 8 := ⟨Try.underlying23, by kernel_rfl, rfl, by decide, by decide⟩
theorem et22 : ET 22 42 (.slice none 0 0) 1 24 := ⟨Try.underlying22, by kernel_rfl, rfl, by decide, by decide⟩
theorem et35 : ET 35 23 (.slice none 0 0) 1 24 := ⟨Try.underlying35, by kernel_rfl, rfl, by decide, by decide⟩
theorem et49 : ET 49 77 (.agg #[.int .i64 0, .int .i64 0]) 2 16 := ⟨Try.underlying49, by kernel_rfl, rfl, by decide, by decide⟩

def intv (xs : List Int) : List Value := xs.map (Value.int .i64)
theorem intv_length (xs : List Int) : (intv xs).length = xs.length := by simp [intv]
theorem intv_get (xs : List Int) (j : Nat) : (intv xs)[j]? = if j < xs.length then some (.int .i64 (nth xs j)) else none := by
  unfold intv
  split
  · rename_i h; simp [nth_eq h, h]
  · rename_i h; simp at h; simp [h]
theorem intv_append (xs ys : List Int) : intv (xs ++ ys) = intv xs ++ intv ys := by simp [intv]
theorem intv_one (xs : List Int) : ∀ u ∈ intv xs, u.oneCell' = true := by
  intro u hu; simp [intv] at hu; obtain ⟨x, _, rfl⟩ := hu; rfl

/-- the cells of a slice -/
def CellsAt (w : World) (a : Option Addr) (vs : List Value) : Prop :=
  vs = [] ∨ ∃ b off, a = some ⟨b, off, none⟩ ∧ ∀ j v, vs[j]? = some v → w.cell? ⟨b, off + j, none⟩ = some v

theorem CellsAt.nil (w : World) (a : Option Addr) : CellsAt w a [] := .inl rfl
theorem CellsAt.mono {w w' : World} {a : Option Addr} {vs : List Value} (h : CellsAt w a vs) (hb : Below w.heap.size w w') : CellsAt w' a vs := by
  rcases h with rfl | ⟨b, off, rfl, h⟩
  · exact .inl rfl
  · exact .inr ⟨b, off, rfl, fun j v hj => cstep (h j v hj) hb⟩
theorem CellsAt.of_heap {w : World} {b off : Nat} {cs : Array Value} {t : TypeId} {fr : Nat × Nat} {vs : List Value} (hg : w.heap[b]? = some (.cells cs t fr))
    (h : ∀ j v, vs[j]? = some v → cs[off + j]? = some v) : CellsAt w (some ⟨b, off, none⟩) vs :=
  .inr ⟨b, off, rfl, fun j v hj => by rw [cell_of_row w b (off + j) cs t fr hg]; exact h j v hj⟩
theorem cellsAt_ints {w : World} {a : Option Addr} {xs : List Int} : CellsAt w a (intv xs) ↔ IntsAt w a xs := by
  constructor
  · rintro (h | ⟨b, off, rfl, h⟩)
    · exact .inl (by simpa [intv] using h)
    · exact .inr ⟨b, off, rfl, fun j hj => h j _ (by rw [intv_get, if_pos hj])⟩
  · rintro (rfl | ⟨b, off, rfl, h⟩)
    · exact .inl rfl
    · refine .inr ⟨b, off, rfl, fun j v hj => ?_⟩
      rw [intv_get] at hj
      split at hj
      · rename_i hlt; cases hj; exact h j hlt
      · cases hj
theorem cellsAt_one {w : World} {ad : Addr} {v : Value} (hf : ad.spot = none) (h : w.cell? ad = some v) : CellsAt w (some ad) [v] := by
  obtain ⟨b, off, f⟩ := ad
  cases hf
  refine .inr ⟨b, off, rfl, fun j u hj => ?_⟩
  match j, hj with
  | 0, hj => simp at hj; subst hj; exact h
  | j + 1, hj => simp at hj

/-- a slice of the call's own, nil or at the head of a block from B on: its cells -/
def OwnV (e sz B : Nat) (w : World) (ao : Option Addr) (n cap : Nat) (vs : List Value) : Prop := w.ownsRow B e sz (.slice ao n cap) n vs

theorem OwnV.nil (e sz B : Nat) (w : World) : OwnV e sz B w none 0 0 [] := World.ownsRow_nil w B e sz
theorem OwnV.at {e sz B : Nat} {w : World} {ao : Option Addr} {n cap : Nat} {vs : List Value} (h : OwnV e sz B w ao n cap vs) : CellsAt w ao vs := by
  rcases h with ⟨hl, (⟨e, h0⟩ | ⟨g, c, cur, e, hge, hh, hr⟩)⟩
  · exact .inl (List.eq_nil_of_length_eq_zero (by rw [hl, h0, Nat.zero_mul]))
  · cases e
    refine .inr ⟨g, 0, rfl, fun j v hj => ?_⟩
    have := World.ownsRow.cells (v := .slice (some ⟨g, 0, none⟩) n cap) (xs := vs) (n := n) ⟨hl, .inr ⟨g, cap, cur, rfl, hge, hh, hr⟩⟩ (g := g) rfl j v hj
    simpa [Addr.add_lit] using this
theorem OwnV.none {e sz B : Nat} {w : World} {ao : Option Addr} {n cap : Nat} {vs : List Value} (h : OwnV e sz B w ao n cap vs) : ao = none → n = 0 ∧ cap = 0 := by
  rintro rfl
  rcases h.2 with (⟨e, h0⟩ | ⟨g, c, cur, e, hr⟩)
  · cases e; exact ⟨rfl, rfl⟩
  · cases e
theorem OwnV.kept {e sz B : Nat} {w w' : World} {ao : Option Addr} {n cap : Nat} {vs : List Value} (h : OwnV e sz B w ao n cap vs) (hB : Below w.heap.size w w') : OwnV e sz B w' ao n cap vs := by
  refine World.ownsRow.kept (row := Option.none) h ⟨hB.os, hB.tape, hB.output, hB.size, fun k hk _ => hB.block k hk⟩ ?_
  cases ao
  · exact .inl rfl
  · exact .inr (by simp [Value.ownBlock])
theorem OwnV.base {e sz B B' : Nat} {w : World} {ao : Option Addr} {n cap : Nat} {vs : List Value} (h : OwnV e sz B w ao n cap vs) (hb : B' ≤ B) : OwnV e sz B' w ao n cap vs := by
  refine ⟨h.1, ?_⟩
  rcases h.2 with h | ⟨g, c, cur, e, hge, hr⟩
  · exact .inl h
  · exact .inr ⟨g, c, cur, e, Nat.le_trans hb hge, hr⟩
/-- the block of an own list -/
theorem OwnV.block {e sz B : Nat} {w : World} {ao : Option Addr} {n cap : Nat} {vs : List Value} (h : OwnV e sz B w ao n cap vs) {g : Nat} (hg : Value.ownBlock (.slice ao n cap) = some g) :
    B ≤ g ∧ ∃ cur, w.heap[g]? = some (.cells cur e (0, 0)) := by
  rcases h.2 with ⟨e, h0⟩ | ⟨g', c, cur, e, hge, hh, hr⟩
  · cases e; cases hg
  · cases e; simp [Value.ownBlock] at hg; subst hg; exact ⟨hge, cur, hh⟩
/-- it is kept where the blocks of its elements' type from its base on are kept -/
theorem OwnV.keptIf {e sz B : Nat} {w w' : World} {ao : Option Addr} {n cap : Nat} {vs : List Value} (h : OwnV e sz B w ao n cap vs)
    (hk : ∀ g cur, B ≤ g → w.heap[g]? = some (.cells cur e (0, 0)) → w'.heap[g]? = w.heap[g]?) : OwnV e sz B w' ao n cap vs := by
  refine ⟨h.1, ?_⟩
  rcases h.2 with h | ⟨g, c, cur, e, hge, hh, hr⟩
  · exact .inl h
  · exact .inr ⟨g, c, cur, e, hge, (hk g cur hge hh).trans hh, hr⟩
/-- where another list of the call's own grew -/
theorem OwnV.grown {e sz B : Nat} {w w' : World} {ao : Option Addr} {n cap : Nat} {vs : List Value} (h : OwnV e sz B w ao n cap vs) {e2 sz2 B2 : Nat} {ao2 : Option Addr} {n2 cap2 : Nat} {vs2 : List Value}
    (h2 : OwnV e2 sz2 B2 w ao2 n2 cap2 vs2) (hg : w.grownBy w' (Value.ownBlock (.slice ao2 n2 cap2))) (hne : e ≠ e2) : OwnV e sz B w' ao n cap vs :=
  h.keptIf fun g cur _ hh => hg.block g (Array.getElem?_eq_some_iff.1 hh).1 fun c => by
    obtain ⟨_, cur2, hh2⟩ := h2.block c.symm
    rw [hh] at hh2; cases hh2; exact hne rfl
theorem CellsAt.grown {B : Nat} {w w' : World} {a : Option Addr} {vs : List Value} (h : CellsAt w a vs) {row : Option Nat} (hg : w.grownBy w' row) (hr : ∀ k, row = some k → B ≤ k) (ha : ∀ b off, a = some ⟨b, off, none⟩ → b < B) : CellsAt w' a vs := by
  rcases h with rfl | ⟨b, off, rfl, h⟩
  · exact .inl rfl
  · exact .inr ⟨b, off, rfl, fun j v hj => hg.cell (h j v hj) fun c => by have := hr _ c.symm; have := ha b off rfl; simp at *; omega⟩

/-- the run of an append of a list onto a slice of the call's own -/
theorem run_appV {t e : TypeId} {z : Value} {sz nb : Nat} (E : ET t e z sz nb) (ty : TypeId) (w : World) (B : Nat) (ao : Option Addr) (n cap : Nat) (vs : List Value) (hown : OwnV e sz B w ao n cap vs)
    (ax : Option Addr) (m cx : Nat) (ys : List Value) (hy : CellsAt w ax ys) (hl : ys.length = m * sz) (h1 : ∀ u ∈ ys, u.oneCell' = true) (hnil : ax = none → m = 0 ∧ cx = 0) (hb : n + m ≤ 1000000) (hB : B ≤ w.heap.size) :
    ∃ ao' cap' w', (Builtin.append_ #[t, t] ty #[.slice ao n cap, .slice ax m cx]).run Try.prog w = .ok (.slice ao' (n + m) cap') w' ∧
      Below B w w' ∧ OwnV e sz B w' ao' (n + m) cap' (vs ++ ys) ∧ w.grownBy w' (Value.ownBlock (.slice ao n cap)) ∧ (ao' = none → ao = none ∧ m = 0) := by
  obtain ⟨i, hi, hz, hs, hby⟩ := info_parts E.hi
  have hbytes : (n + m) * nb ≤ 140737488355328 := by
    have h1 := Nat.mul_le_mul hb E.hb
    omega
  have fin : ∀ v' w', w'.ownsRow B e sz v' (n + m) (vs ++ ys) → w.grownBy w' (Value.ownBlock (.slice ao n cap)) → (v' = .slice none 0 0 ↔ Value.slice ao n cap = .slice none 0 0 ∧ m = 0) →
      ∃ ao' cap', v' = .slice ao' (n + m) cap' ∧ Below B w w' ∧ OwnV e sz B w' ao' (n + m) cap' (vs ++ ys) ∧ w.grownBy w' (Value.ownBlock (.slice ao n cap)) ∧ (ao' = none → ao = none ∧ m = 0) := by
    intro v' w' r1 r2 r3
    have hbl : Below B w w' := (Below.refl B w).grown r2 hB (fun k e => (World.ownsRow.lt hown k e).1)
    rcases r1 with ⟨hl', (⟨rfl, h0⟩ | ⟨g, c, cur, rfl, hge, hh, hr⟩)⟩
    · obtain ⟨hv, hm⟩ := r3.1 rfl
      cases hv
      exact ⟨none, 0, by rw [h0], hbl, ⟨hl', .inl ⟨by rw [h0], h0⟩⟩, r2, fun _ => ⟨rfl, hm⟩⟩
    · exact ⟨_, c, rfl, hbl, ⟨hl', .inr ⟨g, c, cur, rfl, hge, hh, hr⟩⟩, r2, fun h => by cases h⟩
  cases ax with
  | none =>
    obtain ⟨rfl, rfl⟩ := hnil rfl
    obtain rfl : ys = [] := List.eq_nil_of_length_eq_zero (by rw [hl, Nat.zero_mul])
    refine ⟨ao, cap, w, run_append_owned_none (P := Try.prog) w B t ty e i sz E.hu hi (.slice ao n cap) n vs hown, Below.refl _ _, by rw [List.append_nil]; exact hown, ⟨rfl, rfl, rfl, Nat.le_refl _, fun _ _ _ => rfl⟩, fun h => ⟨h, rfl⟩⟩
  | some ad =>
    by_cases h0 : ys = []
    · subst h0
      obtain ⟨v', w', hrun, r1, r2, r3⟩ := run_append_own (P := Try.prog) w B t ty e i z sz nb E.hu hi hz hs hby E.hz E.hp (.slice ao n cap) n vs hown ad m cx [] hl (by intro j u h; simp at h)
        (by intro u hu; cases hu) (by unfold maxLen; omega) hbytes hB
      obtain ⟨ao', cap', rfl, h⟩ := fin v' w' r1 r2 r3
      exact ⟨ao', cap', w', hrun, h⟩
    · rcases hy with h | ⟨b, off, e', hc⟩
      · exact absurd h h0
      · cases e'
        obtain ⟨v', w', hrun, r1, r2, r3⟩ := run_append_own (P := Try.prog) w B t ty e i z sz nb E.hu hi hz hs hby E.hz E.hp (.slice ao n cap) n vs hown ⟨b, off, none⟩ m cx ys hl (fun j u hj => by rw [Addr.add_lit]; exact hc j u hj)
          h1 (by unfold maxLen; omega) hbytes hB
        obtain ⟨ao', cap', rfl, h⟩ := fin v' w' r1 r2 r3
        exact ⟨ao', cap', w', hrun, h⟩

section
variable {t e : TypeId} {z : Value} {sz nb : Nat} {ops : Array Oper} {rest : List Oper} {o : Oper} {a : Act} {Q : Exit → Act → World → Prop}

theorem wpList_appV (E : ET t e z sz nb) (w : World) (hg : o.guard = none) (s x : Operand) (hop : o.op = Op.call { callee := Callee.builtin Builtin.append, args := #[s, x], argTypes := #[t, t] })
    (B : Nat) (ao : Option Addr) (n cap : Nat) (vs : List Value) (hs : a.eval s = .slice ao n cap) (hown : OwnV e sz B w ao n cap vs)
    (ax : Option Addr) (m cx : Nat) (ys : List Value) (hx : a.eval x = .slice ax m cx) (hy : CellsAt w ax ys) (hl : ys.length = m * sz) (h1 : ∀ u ∈ ys, u.oneCell' = true) (hnil : ax = none → m = 0 ∧ cx = 0) (hb : n + m ≤ 1000000) (hB : B ≤ w.heap.size)
    (hK : ∀ ao' cap' w', Below B w w' → OwnV e sz B w' ao' (n + m) cap' (vs ++ ys) → w.grownBy w' (Value.ownBlock (.slice ao n cap)) → (ao' = none → ao = none ∧ m = 0) →
      wpList Try.prog ops Q rest (a.put o.dst (.slice ao' (n + m) cap')) w') :
    wpList Try.prog ops Q (o :: rest) a w := by
  refine wpList_plain hg fun K hK' => ?_
  obtain ⟨ao', cap', w', hrun, h1, h2, h3, h4⟩ := run_appV E o.type w B ao n cap vs hown ax m cx ys hy hl h1 hnil hb hB
  unfold Oper.wp
  simp [execOp, hop, resolve, invoke, builtin, hs, hx, hrun, Result.andThen]
  exact hK' _ _ (hK ao' cap' w' h1 h2 h3 h4)

theorem wpListIn_appV {F : Fence} {k : Nat} (E : ET t e z sz nb) (w : World) (hg : o.guard = none) (s x : Operand) (hop : o.op = Op.call { callee := Callee.builtin Builtin.append, args := #[s, x], argTypes := #[t, t] })
    (B : Nat) (ao : Option Addr) (n cap : Nat) (vs : List Value) (hs : a.eval s = .slice ao n cap) (hown : OwnV e sz B w ao n cap vs)
    (ax : Option Addr) (m cx : Nat) (ys : List Value) (hx : a.eval x = .slice ax m cx) (hy : CellsAt w ax ys) (hl : ys.length = m * sz) (h1 : ∀ u ∈ ys, u.oneCell' = true) (hnil : ax = none → m = 0 ∧ cx = 0) (hb : n + m ≤ 1000000) (hB : B ≤ w.heap.size)
    (hK : ∀ ao' cap' w', Below B w w' → OwnV e sz B w' ao' (n + m) cap' (vs ++ ys) → w.grownBy w' (Value.ownBlock (.slice ao n cap)) → (ao' = none → ao = none ∧ m = 0) →
      wpListIn F k Try.prog ops Q rest (a.put o.dst (.slice ao' (n + m) cap')) w') :
    wpListIn F k Try.prog ops Q (o :: rest) a w := by
  refine wpListIn_plain hg fun K hK' => ?_
  obtain ⟨ao', cap', w', hrun, h1, h2, h3, h4⟩ := run_appV E o.type w B ao n cap vs hown ax m cx ys hy hl h1 hnil hb hB
  unfold Oper.wpIn
  refine ⟨?_, ?_⟩
  · simp [Oper.about, hop, resolve, Target.leads, Sem.run_pure]
  · rw [Oper.semAt_plain F _ _ (by rw [hop]; intro c hc'; cases hc')]
    simp [execOp, hop, resolve, invoke, builtin, hs, hx, hrun, Result.andThen]
    exact hK' _ _ (hK ao' cap' w' h1 h2 h3 h4)

theorem step_appV {K : Act → World → Prop} {X : Prop} (E : ET t e z sz nb) (w : World) (hgd : o.guard = none) (s x : Operand) (hop : o.op = Op.call { callee := Callee.builtin Builtin.append, args := #[s, x], argTypes := #[t, t] })
    (B : Nat) (ao : Option Addr) (n cap : Nat) (vs : List Value) (hs : a.eval s = .slice ao n cap) (hown : OwnV e sz B w ao n cap vs)
    (ax : Option Addr) (m cx : Nat) (ys : List Value) (hx : a.eval x = .slice ax m cx) (hy : CellsAt w ax ys) (hl : ys.length = m * sz) (h1 : ∀ u ∈ ys, u.oneCell' = true) (hnil : ax = none → m = 0 ∧ cx = 0) (hb : n + m ≤ 1000000) (hB : B ≤ w.heap.size)
    (hK : ∀ ao' cap' w', Below B w w' → OwnV e sz B w' ao' (n + m) cap' (vs ++ ys) → w.grownBy w' (Value.ownBlock (.slice ao n cap)) → (ao' = none → ao = none ∧ m = 0) → K (a.put o.dst (.slice ao' (n + m) cap')) w') :
    if Region.wanted o (yielded ops a.tmps) = true then Oper.wp Try.prog o a w K Q else X := by
  have hw : Region.wanted o (yielded ops a.tmps) = true := by simp [Region.wanted, hgd]
  rw [if_pos hw]
  obtain ⟨ao', cap', w', hrun, h1, h2, h3, h4⟩ := run_appV E o.type w B ao n cap vs hown ax m cx ys hy hl h1 hnil hb hB
  unfold Oper.wp
  simp [execOp, hop, resolve, invoke, builtin, hs, hx, hrun, Result.andThen, Oper.upon]
  exact hK ao' cap' w' h1 h2 h3 h4
end

/-- a list of ints of the call's own -/
def OwnI (e B : Nat) (w : World) (ao : Option Addr) (n cap : Nat) (xs : List Int) : Prop := xs.length = n ∧ OwnV e 1 B w ao n cap (intv xs)
theorem OwnI.nil (e B : Nat) (w : World) : OwnI e B w none 0 0 [] := ⟨rfl, OwnV.nil e 1 B w⟩
theorem OwnI.at {e B : Nat} {w : World} {ao : Option Addr} {n cap : Nat} {xs : List Int} (h : OwnI e B w ao n cap xs) : IntsAt w ao xs := cellsAt_ints.1 h.2.at
theorem OwnI.none {e B : Nat} {w : World} {ao : Option Addr} {n cap : Nat} {xs : List Int} (h : OwnI e B w ao n cap xs) : ao = none → n = 0 ∧ cap = 0 := h.2.none
theorem OwnI.kept {e B : Nat} {w w' : World} {ao : Option Addr} {n cap : Nat} {xs : List Int} (h : OwnI e B w ao n cap xs) (hB : Below w.heap.size w w') : OwnI e B w' ao n cap xs := ⟨h.1, h.2.kept hB⟩
theorem OwnI.base {e B B' : Nat} {w : World} {ao : Option Addr} {n cap : Nat} {xs : List Int} (h : OwnI e B w ao n cap xs) (hb : B' ≤ B) : OwnI e B' w ao n cap xs := ⟨h.1, h.2.base hb⟩
theorem OwnI.keptIf {e B : Nat} {w w' : World} {ao : Option Addr} {n cap : Nat} {xs : List Int} (h : OwnI e B w ao n cap xs)
    (hk : ∀ g cur, B ≤ g → w.heap[g]? = some (.cells cur e (0, 0)) → w'.heap[g]? = w.heap[g]?) : OwnI e B w' ao n cap xs := ⟨h.1, h.2.keptIf hk⟩
theorem OwnI.app {e B : Nat} {w : World} {ao : Option Addr} {n m cap : Nat} {xs ys : List Int} (hx : xs.length = n) (hy : ys.length = m) (h : OwnV e 1 B w ao (n + m) cap (intv xs ++ intv ys)) : OwnI e B w ao (n + m) cap (xs ++ ys) :=
  ⟨by rw [List.length_append, hx, hy], by rw [intv_append]; exact h⟩

theorem madeInts (n : Nat) : madeCells #[.int .i64 0] n = (intv (List.replicate n 0)).toArray := by
  apply Array.ext'
  simp only [madeCells, intv, List.map_replicate]
  rw [List.eq_replicate_iff]
  refine ⟨by simp, fun v hv => ?_⟩
  simp at hv
  obtain ⟨a, _, rfl⟩ := hv
  simp [Nat.mod_one]
/-- a make of ints -/
theorem run_make_ints {t e : TypeId} (E : ET t e (.int .i64 0) 1 8) (w : World) (n m : Nat) (hnm : n ≤ m) (hm : m ≤ 1000000) : (Instr.makeSlice t (.int .i64 n) (.int .i64 m)).run Try.prog w =
    .ok (.slice (some ⟨w.heap.size, 0, none⟩) n m) (w.alloc (.cells (intv (List.replicate m 0)).toArray e)) := by
  obtain ⟨i, hi, hz, hs, hby⟩ := info_parts E.hi
  have := run_make (P := Try.prog) (w := w) t e i (.int .i64 0) E.hu hi hz .i64 .i64 n m (by omega) (by omega) (by rw [hby]; omega) (by omega)
  rw [this, hs]
  simp only [Int.toNat_natCast, Nat.mul_one, Value.cells, madeInts]
theorem ownI_make (e B : Nat) (w : World) (xs : List Int) (hB : B ≤ w.heap.size) (hn : xs.length ≤ 1000000) : OwnI e B (w.alloc (.cells (intv xs).toArray e)) (some ⟨w.heap.size, 0, none⟩) xs.length xs.length xs :=
  ⟨rfl, by simp [intv_length], .inr ⟨w.heap.size, xs.length, _, rfl, hB, heap_alloc_new w _, Nat.le_refl _, by unfold maxLen; omega, by simp [intv_length], by rw [Nat.mul_one, ← intv_length xs]; exact List.take_length⟩⟩

/-- a list of lists -/
def nthL (ls : List (List Int)) (k : Nat) : List Int := ls.getD k []
theorem nthL_eq {ls : List (List Int)} {k : Nat} (h : k < ls.length) : nthL ls k = ls[k] := by simp [nthL, List.getD, h]
theorem nthL_append_left {xs ys : List (List Int)} {k : Nat} (h : k < xs.length) : nthL (xs ++ ys) k = nthL xs k := by
  simp [nthL, List.getD, List.getElem?_append_left h]
theorem nthL_mem {ls : List (List Int)} {k : Nat} (h : k < ls.length) : nthL ls k ∈ ls := by rw [nthL_eq h]; exact List.getElem_mem h
theorem nthL_append_new (xs : List (List Int)) (y : List Int) : nthL (xs ++ [y]) xs.length = y := by simp [nthL, List.getD]
theorem extL {xs ys : List (List Int)} (hl : xs.length = ys.length) (h : ∀ k, k < xs.length → nthL xs k = nthL ys k) : xs = ys := by
  apply List.ext_getElem hl
  intro i h1 h2
  have := h i h1
  rwa [nthL_eq h1, nthL_eq h2] at this

/-- lists of ints in memory, that are read -/
def RowsAt (w : World) (a : Option Addr) (ls : List (List Int)) : Prop :=
  ls = [] ∨ ∃ b off, a = some ⟨b, off, none⟩ ∧ ∀ j, j < ls.length → ∃ ra rc, w.cell? ⟨b, off + j, none⟩ = some (.slice ra (nthL ls j).length rc) ∧ IntsAt w ra (nthL ls j) ∧ (ra = none → rc = 0)
theorem RowsAt.nil (w : World) (a : Option Addr) : RowsAt w a [] := .inl rfl
theorem RowsAt.at {w : World} {a : Option Addr} {ls : List (List Int)} (h : RowsAt w a ls) {j : Nat} (hj : j < ls.length) :
    ∃ b off ra rc, a = some ⟨b, off, none⟩ ∧ w.cell? ⟨b, off + j, none⟩ = some (.slice ra (nthL ls j).length rc) ∧ IntsAt w ra (nthL ls j) ∧ (ra = none → rc = 0) := by
  rcases h with rfl | ⟨b, off, rfl, h⟩
  · simp at hj
  · obtain ⟨ra, rc, h⟩ := h j hj; exact ⟨b, off, ra, rc, rfl, h⟩
theorem RowsAt.mono {w w' : World} {a : Option Addr} {ls : List (List Int)} (h : RowsAt w a ls) (hb : Below w.heap.size w w') : RowsAt w' a ls := by
  rcases h with rfl | ⟨b, off, rfl, h⟩
  · exact .inl rfl
  · refine .inr ⟨b, off, rfl, fun j hj => ?_⟩
    obtain ⟨ra, rc, h1, h2, h3⟩ := h j hj
    exact ⟨ra, rc, cstep h1 hb, h2.mono hb, h3⟩
theorem RowsAt.take {w : World} {a : Option Addr} {ls : List (List Int)} (h : RowsAt w a ls) (n : Nat) : RowsAt w a (ls.take n) := by
  rcases h with rfl | ⟨b, off, rfl, h⟩
  · exact .inl (by simp)
  · refine .inr ⟨b, off, rfl, fun j hj => ?_⟩
    rw [List.length_take] at hj
    have e : nthL (ls.take n) j = nthL ls j := by unfold nthL; rw [List.getD, List.getElem?_take, if_pos (by omega)]; rfl
    rw [e]; exact h j (by omega)

/-- a list of lists of ints of the call's own: its cells are slices of the call's own -/
structure OwnR (er ee B : Nat) (w : World) (ao : Option Addr) (n cap : Nat) (ls : List (List Int)) (vs : List Value) : Prop where
  own : OwnV er 1 B w ao n cap vs
  len : ls.length = n
  row : ∀ j, j < n → ∃ ra rc, vs[j]? = some (.slice ra (nthL ls j).length rc) ∧ OwnI ee B w ra (nthL ls j).length rc (nthL ls j)
theorem OwnR.nil (er ee B : Nat) (w : World) : OwnR er ee B w none 0 0 [] [] := ⟨OwnV.nil _ _ _ _, rfl, fun j hj => absurd hj (by omega)⟩
theorem OwnR.at {er ee B : Nat} {w : World} {ao : Option Addr} {n cap : Nat} {ls : List (List Int)} {vs : List Value} (h : OwnR er ee B w ao n cap ls vs) : RowsAt w ao ls := by
  rcases h.own.at with hv | ⟨b, off, rfl, hc⟩
  · have := h.own.1
    rw [hv] at this
    simp at this
    exact .inl (List.eq_nil_of_length_eq_zero (by rw [h.len, ← this]))
  · refine .inr ⟨b, off, rfl, fun j hj => ?_⟩
    obtain ⟨ra, rc, h1, h2⟩ := h.row j (by rw [← h.len]; exact hj)
    exact ⟨ra, rc, hc j _ h1, h2.at, fun hn => (h2.none hn).2⟩
theorem OwnR.kept {er ee B : Nat} {w w' : World} {ao : Option Addr} {n cap : Nat} {ls : List (List Int)} {vs : List Value} (h : OwnR er ee B w ao n cap ls vs) (hB : Below w.heap.size w w') : OwnR er ee B w' ao n cap ls vs :=
  ⟨h.own.kept hB, h.len, fun j hj => by obtain ⟨ra, rc, h1, h2⟩ := h.row j hj; exact ⟨ra, rc, h1, h2.kept hB⟩⟩
theorem OwnR.base {er ee B B' : Nat} {w : World} {ao : Option Addr} {n cap : Nat} {ls : List (List Int)} {vs : List Value} (h : OwnR er ee B w ao n cap ls vs) (hb : B' ≤ B) : OwnR er ee B' w ao n cap ls vs :=
  ⟨h.own.base hb, h.len, fun j hj => by obtain ⟨ra, rc, h1, h2⟩ := h.row j hj; exact ⟨ra, rc, h1, h2.base hb⟩⟩
theorem OwnR.keptIf {er ee B : Nat} {w w' : World} {ao : Option Addr} {n cap : Nat} {ls : List (List Int)} {vs : List Value} (h : OwnR er ee B w ao n cap ls vs)
    (hk : ∀ g cur t, (t = er ∨ t = ee) → B ≤ g → w.heap[g]? = some (.cells cur t (0, 0)) → w'.heap[g]? = w.heap[g]?) : OwnR er ee B w' ao n cap ls vs :=
  ⟨h.own.keptIf fun g cur hg hh => hk g cur er (.inl rfl) hg hh, h.len, fun j hj => by
    obtain ⟨ra, rc, h1, h2⟩ := h.row j hj
    exact ⟨ra, rc, h1, h2.keptIf fun g cur hg hh => hk g cur ee (.inr rfl) hg hh⟩⟩
/-- where a list of ints of the call's own stays, as the list of lists grew -/
theorem OwnI.grownR {er ee B : Nat} {w w' : World} {ao : Option Addr} {n cap : Nat} {vs : List Value} (h : OwnV er 1 B w ao n cap vs) (hne : ee ≠ er) (hg : w.grownBy w' (Value.ownBlock (.slice ao n cap))) {B2 : Nat} {a : Option Addr} {m c : Nat} {xs : List Int} (hx : OwnI ee B2 w a m c xs) : OwnI ee B2 w' a m c xs :=
  ⟨hx.1, hx.2.grown h hg hne⟩
/-- one list more -/
theorem OwnR.app {er ee B : Nat} {w w' : World} {ao ao' : Option Addr} {n cap cap' : Nat} {ls : List (List Int)} {vs : List Value} (h : OwnR er ee B w ao n cap ls vs) (hne : ee ≠ er) (hg : w.grownBy w' (Value.ownBlock (.slice ao n cap)))
    {a : Option Addr} {m c : Nat} {xs : List Int} (hx : OwnI ee B w a m c xs) (h' : OwnV er 1 B w' ao' (n + 1) cap' (vs ++ [.slice a m c])) : OwnR er ee B w' ao' (n + 1) cap' (ls ++ [xs]) (vs ++ [.slice a m c]) := by
  have hl : vs.length = n := by have := h.own.1; omega
  obtain rfl := hx.1
  refine ⟨h', by rw [List.length_append, h.len]; rfl, fun j hj => ?_⟩
  by_cases e : j < n
  · obtain ⟨ra, rc, h1, h2⟩ := h.row j e
    rw [nthL_append_left (by rw [h.len]; exact e)]
    exact ⟨ra, rc, by rw [List.getElem?_append_left (by omega)]; exact h1, OwnI.grownR h.own hne hg h2⟩
  · obtain rfl : j = ls.length := by rw [h.len]; omega
    rw [nthL_append_new]
    exact ⟨a, c, by rw [h.len, ← hl]; simp, OwnI.grownR h.own hne hg hx⟩

end Go.Proofs.Ytnnojhpioenhbaa

namespace Go.Proofs.Ytnnojhpioenhbaa
open Go.RowKit

/-- some cells of a block -/
def partAt (w : World) (b off n : Nat) : Array Value := match w.heap[b]? with | some (.cells cs _ _) => cs.extract off (off + n) | _ => #[]
def partOk (w : World) (b off n : Nat) : Bool := match w.heap[b]? with | some (.cells cs _ _) => decide (off + n ≤ cs.size) | _ => false

theorem partAt_of {w : World} {b : Nat} {cs : Array Value} {t : TypeId} {fr : Nat × Nat} (h : w.heap[b]? = some (.cells cs t fr)) (off n : Nat) : partAt w b off n = cs.extract off (off + n) := by
  unfold partAt; rw [h]
theorem partOk_of {w : World} {b : Nat} {cs : Array Value} {t : TypeId} {fr : Nat × Nat} (h : w.heap[b]? = some (.cells cs t fr)) {off n : Nat} (hn : off + n ≤ cs.size) : partOk w b off n = true := by
  unfold partOk; rw [h]; simpa using hn
@[go_sem] theorem partAt_drew (w : World) (b off n : Nat) : partAt w.drew b off n = partAt w b off n := rfl
@[go_sem] theorem partOk_drew (w : World) (b off n : Nat) : partOk w.drew b off n = partOk w b off n := rfl
theorem partAt_same {w w' : World} {b : Nat} (h : w'.heap[b]? = w.heap[b]?) (off n : Nat) : partAt w' b off n = partAt w b off n := by unfold partAt; rw [h]
theorem partOk_same {w w' : World} {b : Nat} (h : w'.heap[b]? = w.heap[b]?) (off n : Nat) : partOk w' b off n = partOk w b off n := by unfold partOk; rw [h]

theorem run_loadAt_part {P : Program} (w : World) (b off n : Nat) (ty : TypeId) (d : TypeDesc) (h : partOk w b off n = true)
    (hu : P.underlying ty = some d) (hd : (match d with | .struct _ | .array _ _ => true | _ => false) = true) (hi : (P.info? ty).map (·.size) = some n) :
    (Instr.loadAt ty (.pointer (some ⟨b, off, none⟩))).run P w = .ok (.agg (partAt w b off n)) w := by
  unfold partOk at h
  split at h
  · rename_i cs t fr hg
    rw [partAt_of hg]
    have := run_loadVar_part (P := P) w b off n t ty cs fr d hg hu hd hi (by simpa using h)
    simp [Instr.loadAt, Instr.sureAddr, this]
  · cases h

/-- what a load of an aggregate comes to -/
def loadPart (P : Program) (ty : TypeId) (n : Nat) (v : Value) (w : World) : Result Next :=
  match v with
  | .pointer (some ⟨b, off, none⟩) => if partOk w b off n then .ok (.value (.agg (partAt w b off n))) w else (execOp (fun _ => v) { dst := none, op := .load ty (.tmp 0), type := 0, pos := "", after := #[], guard := none }).run P w
  | _ => (execOp (fun _ => v) { dst := none, op := .load ty (.tmp 0), type := 0, pos := "", after := #[], guard := none }).run P w

@[go_sem] theorem loadPart_ok {P : Program} {ty : TypeId} {n b off : Nat} {w : World} (h : partOk w b off n = true) : loadPart P ty n (.pointer (some ⟨b, off, none⟩)) w = .ok (.value (.agg (partAt w b off n))) w := by
  simp only [loadPart, h, if_true]

theorem execOp_load (ρ : Operand → Value) (dst : Option Tmp) (ty t : TypeId) (x : Operand) (pos : String) (after : Array Edge) (g : Option (Nat × Bool)) :
    execOp ρ { dst := dst, op := .load ty x, type := t, pos := pos, after := after, guard := g } = execOp (fun _ => ρ x) { dst := none, op := .load ty (.tmp 0), type := 0, pos := "", after := #[], guard := none } := rfl

theorem run_load_part {P : Program} {ty : TypeId} {n : Nat} {d : TypeDesc} (hu : P.underlying ty = some d) (hd : (match d with | .struct _ | .array _ _ => true | _ => false) = true) (hi : (P.info? ty).map (·.size) = some n)
    (ρ : Operand → Value) (dst : Option Tmp) (t : TypeId) (x : Operand) (pos : String) (after : Array Edge) (g : Option (Nat × Bool)) (w : World) :
    (execOp ρ { dst := dst, op := .load ty x, type := t, pos := pos, after := after, guard := g }).run P w = loadPart P ty n (ρ x) w := by
  rw [execOp_load]
  unfold loadPart
  split
  · rename_i b off hv
    split
    · rename_i h
      rw [hv]
      have := run_loadAt_part (P := P) w b off n ty d h hu hd hi
      simp [execOp, this]
    · rw [hv]
  · rfl

section
variable {P : Program} {K : Act → World → Prop} {Q : Exit → Act → World → Prop} {a : Act} {w : World}
theorem wp_get (l : List Oper) (i : Nat) (h : i < l.toArray.size) : Oper.wp P (l.toArray[i]'h) a w K Q = Oper.wp P (l[i]'(by simpa using h)) a w K Q := by simp
theorem wp_get0 (o : Oper) (l : List Oper) (h : 0 < (o :: l).length) : Oper.wp P ((o :: l)[0]'h) a w K Q = Oper.wp P o a w K Q := rfl
theorem wp_getS (o : Oper) (l : List Oper) (n : Nat) (h : n + 1 < (o :: l).length) : Oper.wp P ((o :: l)[n + 1]'h) a w K Q = Oper.wp P (l[n]'(by simpa using h)) a w K Q := rfl

theorem wp_load_eq {ty : TypeId} {n : Nat} {d : TypeDesc} (hu : P.underlying ty = some d) (hd : (match d with | .struct _ | .array _ _ => true | _ => false) = true) (hi : (P.info? ty).map (·.size) = some n)
    (dst : Option Tmp) (t : TypeId) (x : Operand) (pos : String) (after : Array Edge) (g : Option (Nat × Bool)) :
    Oper.wp P { dst := dst, op := .load ty x, type := t, pos := pos, after := after, guard := g } a w K Q =
      Oper.upon P { dst := dst, op := .load ty x, type := t, pos := pos, after := after, guard := g } a K Q (loadPart P ty n (a.eval x) w) := by
  unfold Oper.wp
  rw [run_load_part hu hd hi]
end

/-- a part of a block is overwritten -/
def World.setPart (w : World) (b off : Nat) (vs : Array Value) : World :=
  match w.heap[b]? with
  | some (.cells cs _ _) => w.setRow b (cs.toList.take off ++ vs.toList ++ cs.toList.drop (off + vs.size)).toArray
  | _ => w

def freeB (w : World) (b : Nat) : Bool := match w.heap[b]? with | some (.cells _ _ fr) => fr == (0, 0) | _ => false
theorem freeB_of {w : World} {b : Nat} {cs : Array Value} {t : TypeId} (h : w.heap[b]? = some (.cells cs t (0, 0))) : freeB w b = true := by unfold freeB; rw [h]; rfl
@[go_sem] theorem freeB_drew (w : World) (b : Nat) : freeB w.drew b = freeB w b := rfl

/-- what a store of an aggregate comes to -/
def storePart (P : Program) (ty : TypeId) (n : Nat) (v u : Value) (w : World) : Result Next :=
  match v, u with
  | .pointer (some ⟨b, off, none⟩), .agg vs => if (partOk w b off n && freeB w b && (vs.size == n) && vs.all (·.oneCell')) = true then .ok .skip (World.setPart w b off vs) else (execOp (fun o => match o with | .tmp 0 => v | _ => u) { dst := none, op := .store ty (.tmp 0) (.tmp 1), type := 0, pos := "", after := #[], guard := none }).run P w
  | _, _ => (execOp (fun o => match o with | .tmp 0 => v | _ => u) { dst := none, op := .store ty (.tmp 0) (.tmp 1), type := 0, pos := "", after := #[], guard := none }).run P w

@[go_sem] theorem storePart_ok {P : Program} {ty : TypeId} {n b off : Nat} {w : World} {vs : Array Value} (h : partOk w b off n = true) (h2 : freeB w b = true) (h3 : (vs.size == n) = true) (h4 : vs.all (·.oneCell') = true) :
    storePart P ty n (.pointer (some ⟨b, off, none⟩)) (.agg vs) w = .ok .skip (World.setPart w b off vs) := by
  simp only [storePart, h, h2, h3, h4, Bool.and_self, if_true]

theorem run_store_part {P : Program} {ty : TypeId} {n : Nat} (hi : (P.info? ty).map (·.size) = some n)
    (ρ : Operand → Value) (dst : Option Tmp) (t : TypeId) (x y : Operand) (pos : String) (after : Array Edge) (g : Option (Nat × Bool)) (w : World) :
    (execOp ρ { dst := dst, op := .store ty x y, type := t, pos := pos, after := after, guard := g }).run P w = storePart P ty n (ρ x) (ρ y) w := by
  have e : execOp ρ { dst := dst, op := .store ty x y, type := t, pos := pos, after := after, guard := g } =
      execOp (fun o => match o with | .tmp 0 => ρ x | _ => ρ y) { dst := none, op := .store ty (.tmp 0) (.tmp 1), type := 0, pos := "", after := #[], guard := none } := rfl
  rw [e]
  unfold storePart
  split
  · rename_i b off vs hv hu
    split
    · rename_i h
      simp only [Bool.and_eq_true, beq_iff_eq] at h
      obtain ⟨⟨⟨h1, h2⟩, h3⟩, h4⟩ := h
      rw [hv, hu]
      unfold partOk at h1
      unfold freeB at h2
      split at h2
      · rename_i cs ty' fr hg
        obtain rfl : fr = (0, 0) := by simpa using h2
        rw [hg] at h1
        have hst := run_storeVar_part (P := P) w b off n ty' ty cs vs hg hi h3 (by simpa using h1) (fun v hv => by obtain ⟨i, hi, rfl⟩ := Array.getElem_of_mem hv; exact (Array.all_eq_true.1 h4) i hi)
        have : World.setPart w b off vs = w.setRow b (cs.toList.take off ++ vs.toList ++ cs.toList.drop (off + n)).toArray := by unfold World.setPart; rw [hg, h3]
        rw [this]
        simp [execOp, Instr.storeAt, Instr.sureAddr, hst]
      · cases h2
    · rw [hv, hu]
  · rfl

theorem wp_store_eq {P : Program} {K : Act → World → Prop} {Q : Exit → Act → World → Prop} {a : Act} {w : World} {ty : TypeId} {n : Nat} (hi : (P.info? ty).map (·.size) = some n)
    (dst : Option Tmp) (t : TypeId) (x y : Operand) (pos : String) (after : Array Edge) (g : Option (Nat × Bool)) :
    Oper.wp P { dst := dst, op := .store ty x y, type := t, pos := pos, after := after, guard := g } a w K Q =
      Oper.upon P { dst := dst, op := .store ty x y, type := t, pos := pos, after := after, guard := g } a K Q (storePart P ty n (a.eval x) (a.eval y) w) := by
  unfold Oper.wp
  rw [run_store_part hi]

theorem setPart_only (w : World) (b off : Nat) (vs : Array Value) : Only (fun k => k = b) w (World.setPart w b off vs) := by
  unfold World.setPart
  split
  · exact setRow_only _ _
  · exact Only.refl _ _

theorem setPart_heap {w : World} {b : Nat} {cs : Array Value} {t : TypeId} {fr : Nat × Nat} (h : w.heap[b]? = some (.cells cs t fr)) (off : Nat) (vs : Array Value) :
    (World.setPart w b off vs).heap[b]? = some (.cells (cs.toList.take off ++ vs.toList ++ cs.toList.drop (off + vs.size)).toArray t fr) := by
  unfold World.setPart; rw [h]; exact setRow_heap h

theorem wp_alloc_eq {P : Program} {K : Act → World → Prop} {Q : Exit → Act → World → Prop} {a : Act} {w : World} {ty : TypeId} {cs : Array Value} (hi : (P.info? ty).map (·.zero) = some (some (.agg cs)))
    (dst : Option Tmp) (t : TypeId) (pos : String) (after : Array Edge) (g : Option (Nat × Bool)) :
    Oper.wp P { dst := dst, op := .alloc ty, type := t, pos := pos, after := after, guard := g } a w K Q = K (a.put dst (.pointer (some ⟨w.heap.size, 0, none⟩))) (w.alloc (.cells cs ty)) := by
  cases hq : P.info? ty with
  | none => simp [hq] at hi
  | some i =>
    have hz : i.zero = some (.agg cs) := by simpa [hq] using hi
    unfold Oper.wp
    simp [execOp, Instr.alloc, zeroValue, typeInfo, hq, hz, newVar, newRow, Value.cells, Result.andThen, Oper.upon]

def zero92 : Array Value := (intv (List.replicate 9 0)).toArray
theorem wpa92 {K : Act → World → Prop} {Q : Exit → Act → World → Prop} {a : Act} {w : World} (dst : Option Tmp) (t : TypeId) (pos : String) (after : Array Edge) (g : Option (Nat × Bool)) :
    Oper.wp Try.prog { dst := dst, op := .alloc 92, type := t, pos := pos, after := after, guard := g } a w K Q = K (a.put dst (.pointer (some ⟨w.heap.size, 0, none⟩))) (w.alloc (.cells zero92 92)) := wp_alloc_eq (by kernel_rfl) ..

theorem wp92 {K : Act → World → Prop} {Q : Exit → Act → World → Prop} {a : Act} {w : World} (dst : Option Tmp) (t : TypeId) (x : Operand) (pos : String) (after : Array Edge) (g : Option (Nat × Bool)) :
    Oper.wp Try.prog { dst := dst, op := .load 92 x, type := t, pos := pos, after := after, guard := g } a w K Q =
      Oper.upon Try.prog { dst := dst, op := .load 92 x, type := t, pos := pos, after := after, guard := g } a K Q (loadPart Try.prog 92 9 (a.eval x) w) := wp_load_eq Try.underlying92 rfl (by kernel_rfl) ..
theorem wps92 {K : Act → World → Prop} {Q : Exit → Act → World → Prop} {a : Act} {w : World} (dst : Option Tmp) (t : TypeId) (x y : Operand) (pos : String) (after : Array Edge) (g : Option (Nat × Bool)) :
    Oper.wp Try.prog { dst := dst, op := .store 92 x y, type := t, pos := pos, after := after, guard := g } a w K Q =
      Oper.upon Try.prog { dst := dst, op := .store 92 x y, type := t, pos := pos, after := after, guard := g } a K Q (storePart Try.prog 92 9 (a.eval x) (a.eval y) w) := wp_store_eq (by kernel_rfl) ..

theorem zeroCells_ints (n : Nat) : Builtin.zeroCells #[.int .i64 0] n = (intv (List.replicate n 0)).toArray := by
  rw [← madeInts]
  unfold Builtin.zeroCells madeCells
  simp

/-- clear over a part of a block that is known whole -/
theorem wpList_clear_ints {ops : Array Oper} {rest : List Oper} {o : Oper} {a : Act} {Q : Exit → Act → World → Prop} {ct e : TypeId} (E : ET ct e (.int .i64 0) 1 8) (w : World) (hgd : o.guard = none) (x : Operand)
    (hop : o.op = Op.call { callee := Callee.builtin Builtin.clear, args := #[x], argTypes := #[ct] })
    (g off n c : Nat) (hx : a.eval x = .slice (some ⟨g, off, none⟩) n c) (t : TypeId) (cs : List Value) (hg : w.heap[g]? = some (.cells cs.toArray t (0, 0))) (hn : off + n ≤ cs.length)
    (h : ∀ w', w'.heap[g]? = some (.cells (cs.take off ++ (intv (List.replicate n 0) ++ cs.drop (off + n))).toArray t (0, 0)) → Only (fun b => b = g) w w' → wpList Try.prog ops Q rest (a.put o.dst (.tuple #[])) w') :
    wpList Try.prog ops Q (o :: rest) a w := by
  refine wpList_plain hgd fun K hK => ?_
  obtain ⟨i, hi, hz, _, _⟩ := info_parts E.hi
  unfold Oper.wp
  rcases Nat.eq_zero_or_pos n with rfl | hp
  · simp [execOp, hop, resolve, invoke, builtin, hx, Builtin.clear_, run_underlying E.hu, Result.andThen]
    exact hK _ _ (h w (by simpa [intv] using hg) (Only.refl _ _))
  · obtain ⟨m, rfl⟩ : ∃ m, n = m + 1 := ⟨n - 1, by omega⟩
    have hst := run_storeCells_at (P := Try.prog) g off t (intv (List.replicate (m + 1) 0)) 0 cs.toArray w hg (by simp [intv]; omega) (intv_one _)
    simp only [Nat.add_zero, intv_length, List.length_replicate] at hst
    have hzc : (Builtin.zeroCells (Value.int IntKind.i64 0).cells (m + 1)).toList = intv (List.replicate (m + 1) 0) := by
      show (Builtin.zeroCells #[.int .i64 0] (m + 1)).toList = _
      rw [zeroCells_ints]
    simp [execOp, hop, resolve, invoke, builtin, hx, Builtin.clear_, run_underlying E.hu, zeroValue, typeInfo, hi, hz, hzc, hst, Result.andThen]
    exact hK _ _ (h _ (by rw [setRow_heap hg]) (setRow_only _ _))


end Go.Proofs.Ytnnojhpioenhbaa
