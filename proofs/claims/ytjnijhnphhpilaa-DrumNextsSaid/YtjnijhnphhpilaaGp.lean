/- One more play: what becomes of the places. Plain. -/
import Derived.Test.YtjnijhnphhpilaaBm
import Derived.Test.YtjnijhnphhpilaaWm
namespace Go.Proofs.Ytjnijhnphhpilaa
open Go.RowKit

/-- the places of a row, as a number -/
def pl (xs : List Int) : Nat := (rdAll xs).places

/-- whether a play behind a row is one that its feed does not foretell -/
def wrongP (xs : List Int) (p : Int) : Bool := oddTo (rdOwn (rdAll xs).own (rdAll xs).row) (rdAll xs).row p (rdAll xs).places == 1

theorem pl_append (xs : List Int) (p : Int) : pl (xs ++ [p]) = if wrongP xs p = false then pl xs else if xs.length < 2 * pl xs then pl xs else xs.length + 1 - pl xs := by
  unfold pl wrongP
  rw [rdAll_append]
  unfold Rd.read
  simp only
  split
  · rfl
  · rw [rdAll_row]
    split <;> rfl

theorem oddTo_flip {own row : List Int} : ∀ k, oddTo own row 0 k + oddTo own row 1 k = 1
  | 0 => rfl
  | k + 1 => by
    have ih := oddTo_flip (own := own) (row := row) k
    have b0 := oddTo_bit (own := own) (row := row) (play := 0) (.inl rfl) k
    rw [oddTo, oddTo]
    generalize nth own (k + 1) * nth row (row.length - (k + 1)) = z at *
    omega

theorem wrongP_flip (xs : List Int) : wrongP xs 0 = !wrongP xs 1 := by
  unfold wrongP
  have h := oddTo_flip (own := rdOwn (rdAll xs).own (rdAll xs).row) (row := (rdAll xs).row) (rdAll xs).places
  have b0 := oddTo_bit (own := rdOwn (rdAll xs).own (rdAll xs).row) (row := (rdAll xs).row) (play := 0) (.inl rfl) (rdAll xs).places
  rcases b0 with e | e
  · have : oddTo (rdOwn (rdAll xs).own (rdAll xs).row) (rdAll xs).row 1 (rdAll xs).places = 1 := by omega
    rw [e, this]; rfl
  · have : oddTo (rdOwn (rdAll xs).own (rdAll xs).row) (rdAll xs).row 1 (rdAll xs).places = 0 := by omega
    rw [e, this]; rfl

theorem pl_le {xs : List Int} (h : checkRow xs = 0) : pl xs ≤ xs.length := rdAll_places h

theorem pl_step {xs : List Int} (p : Int) : pl (xs ++ [p]) = pl xs ∨ (pl xs < pl (xs ++ [p]) ∧ pl (xs ++ [p]) = xs.length + 1 - pl xs) := by
  rw [pl_append]
  split
  · exact .inl rfl
  · split
    · exact .inl rfl
    · exact .inr ⟨by omega, rfl⟩

theorem pl_stay (xs : List Int) (p : Int) (_hp : p = 0 ∨ p = 1) : pl (xs ++ [p]) = pl xs ↔ (wrongP xs p = false ∨ xs.length < 2 * pl xs) := by
  rw [pl_append]
  by_cases h1 : wrongP xs p = false
  · rw [if_pos h1]; exact ⟨fun _ => .inl h1, fun _ => rfl⟩
  · rw [if_neg h1]
    by_cases h2 : xs.length < 2 * pl xs
    · rw [if_pos h2]; exact ⟨fun _ => .inr h2, fun _ => rfl⟩
    · rw [if_neg h2]
      constructor
      · intro e; omega
      · rintro (h | h)
        · exact absurd h h1
        · exact absurd h h2

/-- with how many of both plays the places stay -/
def stays (xs : List Int) (k : Nat) : Nat := (if 0 < k ∧ pl (xs ++ [0]) = pl xs then 1 else 0) + (if 1 < k ∧ pl (xs ++ [1]) = pl xs then 1 else 0)

theorem stays_two (xs : List Int) : 1 ≤ stays xs 2 ∧ (stays xs 2 = 2 ↔ xs.length < 2 * pl xs) := by
  have h0 := pl_stay xs 0 (.inl rfl)
  have h1 := pl_stay xs 1 (.inr rfl)
  rw [wrongP_flip] at h0
  unfold stays
  by_cases h : xs.length < 2 * pl xs
  · rw [if_pos ⟨by omega, h0.2 (.inr h)⟩, if_pos ⟨by omega, h1.2 (.inr h)⟩]
    exact ⟨by omega, by simp [h]⟩
  · cases hw : wrongP xs 1 with
    | false =>
      rw [hw] at h0 h1
      have n0 : ¬ pl (xs ++ [0]) = pl xs := fun e => by
        rcases h0.1 e with h2 | h2
        · cases h2
        · exact h h2
      rw [if_neg (fun e => n0 e.2), if_pos ⟨by omega, h1.2 (.inl rfl)⟩]
      exact ⟨by omega, by simp [h]⟩
    | true =>
      rw [hw] at h0 h1
      have n1 : ¬ pl (xs ++ [1]) = pl xs := fun e => by
        rcases h1.1 e with h2 | h2
        · cases h2
        · exact h h2
      rw [if_pos ⟨by omega, h0.2 (.inl rfl)⟩, if_neg (fun e => n1 e.2)]
      exact ⟨by omega, by simp [h]⟩

theorem profTo_nth (xs : List Int) : ∀ (n k : Nat), k ≤ n → nth (profTo xs n) k = pl (xs.take k)
  | 0, k, h => by
    obtain rfl : k = 0 := by omega
    rfl
  | n + 1, k, h => by
    rw [profTo]
    by_cases e : k ≤ n
    · rw [nth_append_left (by rw [profTo_length]; omega)]; exact profTo_nth xs n k e
    · obtain rfl : k = n + 1 := by omega
      have := nth_append_right (profTo xs n) [((rdAll (xs.take (n + 1))).places : Int)] 0
      rw [Nat.add_zero, profTo_length] at this
      rw [this]; rfl

theorem pl_nil : pl [] = 0 := rfl

/-- the profile's steps -/
theorem prof_step {xs : List Int} {k : Nat} (hk : k < xs.length) : pl (xs.take (k + 1)) = pl (xs.take k) ∨ (pl (xs.take k) < pl (xs.take (k + 1)) ∧ pl (xs.take (k + 1)) = k + 1 - pl (xs.take k)) := by
  have h := pl_step (xs := xs.take k) (nth xs k)
  rw [← take_succ_nth hk, List.length_take, Nat.min_eq_left (by omega)] at h
  exact h

theorem profTo_mono {xs : List Int} : ∀ {k m : Nat}, k ≤ m → m ≤ xs.length → pl (xs.take k) ≤ pl (xs.take m) := by
  intro k m hkm hm
  induction hkm with
  | refl => exact Nat.le_refl _
  | step h ih =>
    rename_i m
    have h1 := ih (by omega)
    rcases prof_step (xs := xs) (k := m) (by omega) with h2 | h2
    · rw [Nat.succ_eq_add_one, h2]; exact h1
    · rw [Nat.succ_eq_add_one]; omega

end Go.Proofs.Ytjnijhnphhpilaa
