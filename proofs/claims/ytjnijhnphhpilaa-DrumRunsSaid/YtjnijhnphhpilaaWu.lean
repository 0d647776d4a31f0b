/- turn: the map of stands as a datum. -/
import Derived.Test.YtjnijhnphhpilaaWt
import Derived.Test.YtjnijhnphhpilaaTurn
import Derived.Maps.Views
namespace Go.Proofs.Ytjnijhnphhpilaa
open Go.RowKit Go.Shelf

def stKey (s : List Int) : Lit := .string (keyBytes (stLits s))

/-- the map behind n rounds -/
def DN {H : Type} (f g : List Int) : Nat → DataW H
  | 0 => .map []
  | n + 1 => (DN f g n).put (stKey (standAt f g n)) (.lit (.int .i64 n))

theorem stKey_ne {f g : List Int} (hg : isBits g = true) {i j : Nat} (h : standAt f g i ≠ standAt f g j) : stKey (standAt f g i) ≠ stKey (standAt f g j) := by
  intro e
  unfold stKey at e
  exact h (stand_key_inj (standAt_length _ _ _) (standAt_length _ _ _) (standAt_bits hg _) (standAt_bits hg _) (Lit.string.inj e))

theorem isKey (s : List Int) : WideAt.IsKeyLit (stKey s) := trivial

section
variable {H : Type} {f g : List Int} (hg : isBits g = true)

theorem dn_isMap (f g : List Int) (n : Nat) : Go.Maps.IsMap (DN (H := H) f g n) := by
  induction n with
  | zero => exact ⟨[], rfl⟩
  | succ n ih =>
    obtain ⟨es, e⟩ := ih
    rw [DN, e]
    exact ⟨_, rfl⟩

theorem dn_tidy (f g : List Int) (n : Nat) : Go.Maps.Tidy (DN (H := H) f g n) := by
  induction n with
  | zero => exact ⟨[], rfl, List.Pairwise.nil⟩
  | succ n ih => rw [DN]; exact ih.put (isKey _) _

include hg
/-- the key of a stand that has not come is not in the map -/
theorem dn_has_not {n : Nat} {s : List Int} (hs : s.length = 12) (hb : isBits s = true) (h : ∀ i, i < n → standAt f g i ≠ s) : Go.Maps.has (DN (H := H) f g n) (stKey s) = false := by
  induction n with
  | zero => rfl
  | succ n ih =>
    have hne : stKey s ≠ stKey (standAt f g n) := fun e => h n (by omega) (stand_key_inj (standAt_length _ _ _) hs (standAt_bits hg _) hb (Lit.string.inj e).symm)
    rw [DN, Go.Maps.has_put_other hne]
    exact ih (fun i hi => h i (by omega))

theorem dn_has {n i : Nat} (hi : i < n) : Go.Maps.has (DN (H := H) f g n) (stKey (standAt f g i)) = true := by
  induction n with
  | zero => omega
  | succ n ih =>
    rw [DN]
    by_cases h : standAt f g i = standAt f g n
    · rw [h]; exact Go.Maps.has_put_same (dn_isMap f g n) (isKey _) _
    · rw [Go.Maps.has_put_other (stKey_ne hg h)]
      have : i ≠ n := fun e => h (by rw [e])
      exact ih (by omega)

theorem dn_at {n i : Nat} (hi : i < n) (ha : Apart f g n) (z : DataW H) : (DN (H := H) f g n).atKey (stKey (standAt f g i)) z = .lit (.int .i64 i) := by
  induction n with
  | zero => omega
  | succ n ih =>
    rw [DN]
    by_cases h : i = n
    · subst h; exact Go.Maps.atKey_put_same (dn_isMap f g i) (isKey _) _ _
    · rw [Go.Maps.atKey_put_other (stKey_ne hg (ha i n (by omega) (by omega)))]
      exact ih (by omega) (fun a b hab hb => ha a b hab (by omega))

theorem dn_size {n : Nat} (ha : Apart f g n) : Go.Maps.size (DN (H := H) f g n) = n := by
  induction n with
  | zero => rfl
  | succ n ih =>
    rw [DN, Go.Maps.size_put (dn_tidy f g n), dn_has_not hg (standAt_length _ _ _) (standAt_bits hg _) (fun i hi => ha i n hi (by omega)), ih (fun a b hab hb => ha a b hab (by omega))]
    rfl
end

end Go.Proofs.Ytjnijhnphhpilaa
