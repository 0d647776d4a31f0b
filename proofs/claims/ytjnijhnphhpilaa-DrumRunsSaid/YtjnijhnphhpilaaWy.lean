/- turn: the map of stands, some struck. -/
import Derived.Test.YtjnijhnphhpilaaWx
namespace Go.Proofs.Ytjnijhnphhpilaa
open Go.RowKit Go.Shelf

/-- the map behind n rounds, without the stands of some numbers -/
def DD {H : Type} (f g : List Int) (n : Nat) (dels : List Nat) : DataW H := dels.foldr (fun j D => D.del (stKey (standAt f g j))) (DN f g n)

structure RngI (f g : List Int) (n i : Nat) (dels : List Nat) (left : Lit → Bool) : Prop where
  nodup : dels.Nodup
  lt : ∀ j ∈ dels, j < i
  done : ∀ j, j < i → left (stKey (standAt f g j)) = false → j ∈ dels
  fresh : ∀ j, j < n → left (stKey (standAt f g j)) = true → j ∉ dels
  keys : ∀ kl, left kl = true → ∃ j, j < n ∧ kl = stKey (standAt f g j)

theorem le_of_all {i : Nat} : ∀ {l : List Nat}, (∀ j, j < i → j ∈ l) → i ≤ l.length := by
  induction i with
  | zero => intro l _; exact Nat.zero_le _
  | succ i ih =>
    intro l h
    have h1 := ih (l := l.erase i) (fun j hj => (List.mem_erase_of_ne (by omega)).2 (h j (by omega)))
    have h2 := List.length_erase_of_mem (h i (by omega))
    have h3 : 0 < l.length := List.length_pos_of_mem (h i (by omega))
    omega

theorem RngI.all {f g : List Int} {n i : Nat} {dels : List Nat} {left : Lit → Bool} (h : RngI f g n i dels left) (hl : ∀ kl, left kl = false) : dels.length = i :=
  Nat.le_antisymm (nodup_lt i dels h.nodup h.lt) (le_of_all fun j hj => h.done j hj (hl _))

section
variable {H : Type} {f g : List Int}

theorem dn_has_inv {n : Nat} {kl : Lit} (h : Go.Maps.has (DN (H := H) f g n) kl = true) : ∃ j, j < n ∧ kl = stKey (standAt f g j) := by
  induction n with
  | zero => simp [DN, Go.Maps.has] at h
  | succ n ih =>
    by_cases he : kl = stKey (standAt f g n)
    · exact ⟨n, by omega, he⟩
    · rw [DN, Go.Maps.has_put_other he] at h
      obtain ⟨j, hj, e⟩ := ih h
      exact ⟨j, by omega, e⟩

theorem dd_tidy (f g : List Int) (n : Nat) (dels : List Nat) : Go.Maps.Tidy (DD (H := H) f g n dels) := by
  induction dels with
  | nil => exact dn_tidy f g n
  | cons j l ih => exact ih.del _

variable (hg : isBits g = true)
include hg
theorem rng_start {n i : Nat} (hi : i < n) : RngI f g n i [] (Go.Maps.has (DN (H := H) f g n)) where
  nodup := List.nodup_nil
  lt := by intro j h; cases h
  done := by intro j hj h; rw [dn_has hg (by omega)] at h; cases h
  fresh := by intro j _ _ h; cases h
  keys := by intro kl h; exact dn_has_inv h

theorem dd_has {n j : Nat} {dels : List Nat} (ha : Apart f g n) (hj : j < n) (hd : ∀ a ∈ dels, a < n) (hn : j ∉ dels) : Go.Maps.has (DD (H := H) f g n dels) (stKey (standAt f g j)) = true := by
  induction dels with
  | nil => exact dn_has hg hj
  | cons a l ih =>
    have hne : a ≠ j := fun e => hn (by rw [e]; simp)
    have hap : standAt f g j ≠ standAt f g a := by
      have := hd a (by simp)
      rcases Nat.lt_or_gt_of_ne hne with h | h
      · exact fun e => ha a j h hj e.symm
      · exact ha j a h this
    have := ih (fun b hb => hd b (by simp [hb])) (fun h => hn (by simp [h]))
    show Go.Maps.has ((DD f g n l).del _) _ = true
    rw [Go.Maps.has_del_other (stKey_ne hg hap)]
    exact this

theorem dd_at {n j : Nat} {dels : List Nat} (ha : Apart f g n) (hj : j < n) (hd : ∀ a ∈ dels, a < n) (hn : j ∉ dels) (z : DataW H) : (DD (H := H) f g n dels).atKey (stKey (standAt f g j)) z = .lit (.int .i64 j) := by
  induction dels with
  | nil => exact dn_at hg hj ha z
  | cons a l ih =>
    have hne : a ≠ j := fun e => hn (by rw [e]; simp)
    have hap : standAt f g j ≠ standAt f g a := by
      have := hd a (by simp)
      rcases Nat.lt_or_gt_of_ne hne with h | h
      · exact fun e => ha a j h hj e.symm
      · exact ha j a h this
    show ((DD f g n l).del _).atKey _ z = _
    rw [Go.Maps.atKey_del_other (stKey_ne hg hap)]
    exact ih (fun b hb => hd b (by simp [hb])) (fun h => hn (by simp [h]))

theorem dd_size {n : Nat} {dels : List Nat} (ha : Apart f g n) (hd : ∀ a ∈ dels, a < n) (hn : dels.Nodup) : Go.Maps.size (DD (H := H) f g n dels) + dels.length = n := by
  induction dels with
  | nil => exact dn_size hg ha
  | cons a l ih =>
    rw [List.nodup_cons] at hn
    have h1 := ih (fun b hb => hd b (by simp [hb])) hn.2
    have h2 := Go.Maps.size_del (k := stKey (standAt f g a)) (dd_tidy (H := H) f g n l)
    rw [dd_has hg ha (hd a (by simp)) (fun b hb => hd b (by simp [hb])) hn.1] at h2
    have e : DD (H := H) f g n (a :: l) = (DD f g n l).del (stKey (standAt f g a)) := rfl
    rw [e, List.length_cons]
    simp at h2
    omega
end

theorem sameKey_iff {a b : List Int} : (stKey a).sameKey (stKey b) = true ↔ stKey a = stKey b :=
  ⟨WideAt.sameKey_eq, fun h => by rw [h]; exact WideAt.sameKey_self (isKey _)⟩

/-- a stand has come that stays -/
theorem RngI.keep {f g : List Int} {n i j : Nat} {dels : List Nat} {left : Lit → Bool} (h : RngI f g n i dels left) (hg : isBits g = true) (ha : Apart f g n) (hi : i < n) (hj : j < n) (hij : i ≤ j) :
    RngI f g n i dels (fun z => left z && !z.sameKey (stKey (standAt f g j))) where
  nodup := h.nodup
  lt := h.lt
  done := by
    intro a hai hl
    refine h.done a hai ?_
    have hne : ¬ (stKey (standAt f g a)).sameKey (stKey (standAt f g j)) = true := fun e => stKey_ne hg (ha a j (by omega) hj) (sameKey_iff.1 e)
    simpa [hne] using hl
  fresh := by intro a han hl; exact h.fresh a han (by simp at hl; exact hl.1)
  keys := by intro kl hl; exact h.keys kl (by simp at hl; exact hl.1)

/-- a stand has come that goes -/
theorem RngI.strike {f g : List Int} {n i j : Nat} {dels : List Nat} {left : Lit → Bool} (h : RngI f g n i dels left) (hg : isBits g = true) (ha : Apart f g n) (hi : i < n) (hj : j < i) (hl : left (stKey (standAt f g j)) = true) :
    RngI f g n i (j :: dels) (fun z => left z && !z.sameKey (stKey (standAt f g j))) where
  nodup := List.nodup_cons.2 ⟨h.fresh j (by omega) hl, h.nodup⟩
  lt := by
    intro a hm
    rcases List.mem_cons.1 hm with rfl | hm
    · exact hj
    · exact h.lt a hm
  done := by
    intro a hai hla
    by_cases he : a = j
    · rw [he]; simp
    · cases hl2 : left (stKey (standAt f g a)) with
      | false => exact List.mem_cons_of_mem _ (h.done a hai hl2)
      | true =>
        rw [hl2] at hla
        simp at hla
        have hk := sameKey_iff.1 hla
        rcases Nat.lt_or_gt_of_ne he with h1 | h1
        · exact absurd hk (stKey_ne hg (ha a j h1 (by omega)))
        · exact absurd hk.symm (stKey_ne hg (ha j a h1 (by omega)))
  fresh := by
    intro a han hla hm
    simp at hla
    rcases List.mem_cons.1 hm with rfl | hm
    · have := WideAt.sameKey_self (isKey (standAt f g a))
      rw [hla.2] at this; cases this
    · exact h.fresh a han hla.1 hm
  keys := by intro kl hl; exact h.keys kl (by simp at hl; exact hl.1)

end Go.Proofs.Ytjnijhnphhpilaa
