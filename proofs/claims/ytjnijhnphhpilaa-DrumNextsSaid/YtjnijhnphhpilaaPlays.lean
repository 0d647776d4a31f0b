/- The plays of a drum, as plain functions on lists; what '&' and '^' are on bits. No condition but that lists are of bits. -/
import Derived.Test.YtjnijhnphhpilaaWb
namespace Go.Proofs.Ytjnijhnphhpilaa
open Go.RowKit

theorem isBits_nth {l : List Int} (h : isBits l = true) (k : Nat) : nth l k = 0 ∨ nth l k = 1 := by
  by_cases hk : k < l.length
  · have := List.all_eq_true.1 h _ (nth_mem hk)
    simp [isBit] at this; omega
  · left; exact nth_of_ge (by omega)

theorem isBits_of {l : List Int} (h : ∀ k, k < l.length → nth l k = 0 ∨ nth l k = 1) : isBits l = true := by
  refine List.all_eq_true.2 fun x hx => ?_
  obtain ⟨k, hk, rfl⟩ := List.getElem_of_mem hx
  have := h k hk
  rw [nth_eq hk] at this
  simp [isBit]; omega

theorem isBits_append {a b : List Int} : isBits (a ++ b) = (isBits a && isBits b) := List.all_append
theorem isBits_single {x : Int} (h : x = 0 ∨ x = 1) : isBits [x] = true := by rcases h with rfl | rfl <;> rfl
theorem isBits_take {l : List Int} (h : isBits l = true) (n : Nat) : isBits (l.take n) = true :=
  List.all_eq_true.2 fun x hx => List.all_eq_true.1 h x (List.mem_of_mem_take hx)
theorem isBits_drop {l : List Int} (h : isBits l = true) (n : Nat) : isBits (l.drop n) = true :=
  List.all_eq_true.2 fun x hx => List.all_eq_true.1 h x (List.mem_of_mem_drop hx)

theorem and_bit {x y : Int} (hx : x = 0 ∨ x = 1) (hy : y = 0 ∨ y = 1) : bits .and .i64 x y = x * y := by
  rcases hx with rfl | rfl <;> rcases hy with rfl | rfl <;> decide
theorem xor_bit {x y : Int} (hx : x = 0 ∨ x = 1) (hy : y = 0 ∨ y = 1) : bits .xor .i64 x y = (x + y) % 2 := by
  rcases hx with rfl | rfl <;> rcases hy with rfl | rfl <;> decide
theorem mul_bit {x y : Int} (hx : x = 0 ∨ x = 1) (hy : y = 0 ∨ y = 1) : x * y = 0 ∨ x * y = 1 := by
  rcases hx with rfl | rfl <;> rcases hy with rfl | rfl <;> simp
theorem mod_bit (x : Int) : x % 2 = 0 ∨ x % 2 = 1 := by omega

/-- the sum, modulo 2, of the first k plays that a feed counts, the last play of a row first -/
def linTo (f h : List Int) : Nat → Int
  | 0 => 0
  | k + 1 => (linTo f h k + nth f k * nth h (h.length - 1 - k)) % 2

theorem linTo_bit (f h : List Int) : ∀ k, linTo f h k = 0 ∨ linTo f h k = 1
  | 0 => .inl rfl
  | _ + 1 => mod_bit _

/-- the play behind the plays that have come -/
def playNext (f g out : List Int) : Int := if out.length < g.length then nth g out.length else linTo f out f.length

/-- the first plays of a drum -/
def playsF (f g : List Int) : Nat → List Int
  | 0 => []
  | n + 1 => playsF f g n ++ [playNext f g (playsF f g n)]

theorem playsF_length (f g : List Int) : ∀ n, (playsF f g n).length = n
  | 0 => rfl
  | n + 1 => by simp [playsF, playsF_length f g n]

theorem playNext_bit {f g : List Int} (hg : isBits g = true) (out : List Int) : playNext f g out = 0 ∨ playNext f g out = 1 := by
  unfold playNext
  split
  · exact isBits_nth hg _
  · exact linTo_bit _ _ _

theorem playsF_bits {f g : List Int} (hg : isBits g = true) : ∀ n, isBits (playsF f g n) = true
  | 0 => rfl
  | n + 1 => by rw [playsF, isBits_append, playsF_bits hg n, isBits_single (playNext_bit hg _)]; rfl

theorem playsF_first (f g : List Int) : ∀ n, n ≤ g.length → playsF f g n = g.take n
  | 0, _ => by simp [playsF]
  | n + 1, h => by
    rw [playsF, playNext, playsF_length, if_pos (by omega), playsF_first f g n (by omega), ← take_succ_nth (by omega)]

theorem playsF_take (f g : List Int) (n m : Nat) (h : n ≤ m) : (playsF f g m).take n = playsF f g n := by
  induction m with
  | zero => obtain rfl : n = 0 := by omega
            rfl
  | succ m ih =>
    by_cases e : n = m + 1
    · subst e; exact List.take_of_length_le (by rw [playsF_length]; exact Nat.le_refl _)
    · rw [playsF, List.take_append_of_le_length (by rw [playsF_length]; omega)]
      exact ih (by omega)

/-- what the places of the drum hold behind so many plays: the last ones, the last one last -/
def lastF (f g : List Int) (n : Nat) : List Int := if n ≤ g.length then g else (playsF f g n).drop (n - g.length)

theorem lastF_length (f g : List Int) (n : Nat) : (lastF f g n).length = g.length := by
  unfold lastF
  split
  · rfl
  · rw [List.length_drop, playsF_length]; omega

theorem lastF_bits {f g : List Int} (hg : isBits g = true) (n : Nat) : isBits (lastF f g n) = true := by
  unfold lastF
  split
  · exact hg
  · exact isBits_drop (playsF_bits hg n) _

theorem lastF_of_ge (f g : List Int) {n : Nat} (h : g.length ≤ n) : lastF f g n = (playsF f g n).drop (n - g.length) := by
  unfold lastF
  split
  · obtain rfl : n = g.length := by omega
    rw [playsF_first f g _ (Nat.le_refl _)]; simp
  · rfl

theorem linTo_last (f g : List Int) {n : Nat} (h : g.length ≤ n) : ∀ k, k ≤ g.length → linTo f (lastF f g n) k = linTo f (playsF f g n) k
  | 0, _ => rfl
  | k + 1, hk => by
    rw [linTo, linTo, linTo_last f g h k (by omega), lastF_length, playsF_length, lastF_of_ge f g h, nth_drop]
    congr 4
    omega

theorem playNext_early (f g : List Int) {n : Nat} (h : n < g.length) : playNext f g (playsF f g n) = nth g n := by
  unfold playNext; rw [playsF_length, if_pos h]

theorem playNext_late (f g : List Int) {n : Nat} (hl : f.length = g.length) (h : g.length ≤ n) : playNext f g (playsF f g n) = linTo f (lastF f g n) f.length := by
  unfold playNext; rw [playsF_length, if_neg (by omega), linTo_last f g h _ (by omega)]

theorem lastF_early (f g : List Int) {n : Nat} (h : n < g.length) : lastF f g (n + 1) = lastF f g n := by
  unfold lastF; rw [if_pos (by omega), if_pos (by omega)]

theorem lastF_late (f g : List Int) {n : Nat} (h : g.length ≤ n) : (lastF f g n ++ [playNext f g (playsF f g n)]).drop 1 = lastF f g (n + 1) := by
  rw [lastF_of_ge f g h, lastF_of_ge f g (by omega : g.length ≤ n + 1), playsF]
  have e : n + 1 - g.length = (n - g.length) + 1 := by omega
  have hl := playsF_length f g n
  rw [e, ← List.drop_drop, ← List.drop_append_of_le_length (by rw [hl]; omega)]


/-- the sum itself -/
def sumTo (f h : List Int) : Nat → Int
  | 0 => 0
  | k + 1 => sumTo f h k + nth f k * nth h (h.length - 1 - k)

theorem sumTo_mod (f h : List Int) : ∀ k, sumTo f h k % 2 = linTo f h k
  | 0 => rfl
  | k + 1 => by
    have := sumTo_mod f h k
    rw [sumTo, linTo, ← this]
    omega

theorem sumTo_bd {f h : List Int} (hf : isBits f = true) (hh : isBits h = true) : ∀ k, 0 ≤ sumTo f h k ∧ sumTo f h k ≤ k
  | 0 => ⟨Int.le_refl _, Int.le_refl _⟩
  | k + 1 => by
    have := sumTo_bd hf hh k
    have h1 := mul_bit (isBits_nth hf k) (isBits_nth hh (h.length - 1 - k))
    rw [sumTo]
    omega

end Go.Proofs.Ytjnijhnphhpilaa
