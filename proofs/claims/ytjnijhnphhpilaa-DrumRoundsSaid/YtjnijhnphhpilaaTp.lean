/- The product of two feeds as the reference lays it: row by row into a list of noughts. Plain. -/
import Derived.Test.YtjnijhnphhpilaaSp
import Derived.Test.YtjnijhnphhpilaaRp
namespace Go.Proofs.Ytjnijhnphhpilaa
open Go.RowKit

def b2i (b : Bool) : Int := if b then 1 else 0
theorem b2i_bit (b : Bool) : b2i b = 0 ∨ b2i b = 1 := by cases b <;> simp [b2i]
theorem b2i_bt {l : List Int} (h : isBits l = true) (k : Nat) : nth l k = b2i (bt l k) := by
  unfold bt b2i
  rcases isBits_nth h k with e | e <;> rw [e] <;> rfl
theorem b2i_cf {f : List Int} (h : isBits f = true) (k : Nat) : nth (1 :: f) k = b2i (cf f k) := by
  cases k with
  | zero => rfl
  | succ k => rw [cf, ← b2i_bt h]; rfl
theorem b2i_xor (a b c : Bool) : (b2i a + b2i b * b2i c) % 2 = b2i (a ^^ (b && c)) := by cases a <;> cases b <;> cases c <;> rfl

/-- what stands at place j when i rows are laid whole, and of the next one its first k numbers -/
def tv (f h : List Int) (i k j : Nat) : Bool :=
  xsum i (fun a => cf f a && (decide (a ≤ j) && cf h (j - a))) ^^ (decide (i ≤ j ∧ j - i < k) && (cf f i && cf h (j - i)))

section
variable {f h : List Int}

theorem tv_zero (j : Nat) : tv f h 0 0 j = false := by simp [tv, xsum]

theorem tv_old (i k : Nat) : tv f h i k (i + k) = xsum i (fun a => cf f a && (decide (a ≤ i + k) && cf h (i + k - a))) := by
  unfold tv
  rw [show decide (i ≤ i + k ∧ i + k - i < k) = false from decide_eq_false (by omega)]
  simp

theorem tv_new (i k : Nat) : tv f h i (k + 1) (i + k) = (tv f h i k (i + k) ^^ (cf f i && cf h k)) := by
  rw [tv_old]
  unfold tv
  rw [show decide (i ≤ i + k ∧ i + k - i < k + 1) = true from decide_eq_true (by omega), show i + k - i = k from by omega]
  simp

theorem tv_other {i k j : Nat} (hj : j ≠ i + k) : tv f h i (k + 1) j = tv f h i k j := by
  unfold tv
  rw [show decide (i ≤ j ∧ j - i < k + 1) = decide (i ≤ j ∧ j - i < k) from by
    by_cases h1 : i ≤ j ∧ j - i < k
    · rw [decide_eq_true h1, decide_eq_true (by omega)]
    · rw [decide_eq_false h1, decide_eq_false (by omega)]]

theorem tv_row (i j : Nat) : tv f h i (h.length + 1) j = tv f h (i + 1) 0 j := by
  unfold tv
  rw [xsum, show decide (i + 1 ≤ j ∧ j - (i + 1) < 0) = false from decide_eq_false (by omega)]
  by_cases hj : i ≤ j
  · by_cases h2 : j - i < h.length + 1
    · rw [decide_eq_true (p := i ≤ j ∧ j - i < h.length + 1) (by omega), decide_eq_true hj]; simp
    · rw [decide_eq_false (p := i ≤ j ∧ j - i < h.length + 1) (by omega), cf_deg (f := h) (k := j - i) (by omega)]; simp
  · rw [decide_eq_false (p := i ≤ j ∧ j - i < h.length + 1) (by omega), decide_eq_false hj]; simp

theorem tv_last (j : Nat) : tv f h (f.length + 1) 0 j = conv (cf f) (cf h) j := by
  unfold tv conv
  rw [show decide (f.length + 1 ≤ j ∧ j - (f.length + 1) < 0) = false from decide_eq_false (by omega)]
  simp only [Bool.false_and, Bool.xor_false]
  rw [← xsum_le (n := f.length + 1) (m := f.length + j + 2) (by omega) (fun a h1 _ => by rw [cf_deg (f := f) (k := a) (by omega)]; rfl)]
  rw [xsum_le (n := j + 1) (m := f.length + j + 2) (by omega) (fun a h1 _ => by rw [show decide (a ≤ j) = false from decide_eq_false (by omega)]; simp)]
  exact xsum_congr (fun a ha => by rw [show decide (a ≤ j) = true from decide_eq_true (by omega)]; simp)

/-- the list as it stands -/
def TvL (f h L : List Int) (i k : Nat) : Prop := L.length = f.length + h.length + 1 ∧ ∀ j, j < L.length → nth L j = b2i (tv f h i k j)

theorem TvL.start : TvL f h (List.replicate (f.length + h.length + 1) 0) 0 0 :=
  ⟨by simp, fun j _ => by rw [tv_zero]; exact nth_rep _ _⟩

theorem TvL.step {L : List Int} {i k : Nat} (hL : TvL f h L i k) (hf : isBits f = true) (hh : isBits h = true) :
    TvL f h (L.set (i + k) ((nth L (i + k) + nth (1 :: f) i * nth (1 :: h) k) % 2)) i (k + 1) := by
  refine ⟨by rw [List.length_set]; exact hL.1, fun j hj => ?_⟩
  rw [List.length_set] at hj
  rw [nth_set]
  by_cases e : i + k = j
  · subst e
    rw [if_pos ⟨rfl, hj⟩, hL.2 _ hj, b2i_cf hf, b2i_cf hh, b2i_xor, tv_new]
  · rw [if_neg (fun x => e x.1), hL.2 j hj, tv_other (fun x => e x.symm)]

theorem TvL.row {L : List Int} {i : Nat} (hL : TvL f h L i (h.length + 1)) : TvL f h L (i + 1) 0 :=
  ⟨hL.1, fun j hj => by rw [hL.2 j hj, tv_row]⟩

theorem TvL.last {L : List Int} (hL : TvL f h L (f.length + 1) 0) (hf : isBits f = true) (hh : isBits h = true) (hl : f.length + h.length ≤ 81) : L.drop 1 = timesF f h :=
  ext_nth (by rw [List.length_drop, hL.1, timesF_length]; omega) (fun k hk => by
    rw [List.length_drop, hL.1] at hk
    rw [nth_drop, hL.2 _ (by rw [hL.1]; omega), tv_last, ← cf_times hf hh hl _ (by omega), show 1 + k = k + 1 from by omega, cf, ← b2i_bt (timesF_bits f h)])

theorem TvL.bits {L : List Int} {i k : Nat} (hL : TvL f h L i k) (j : Nat) (hj : j < L.length) : nth L j = 0 ∨ nth L j = 1 := by
  rw [hL.2 j hj]; exact b2i_bit _

end
end Go.Proofs.Ytjnijhnphhpilaa
