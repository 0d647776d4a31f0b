/- The stands of a drum, as plain functions; there are at most 4096. -/
import Derived.Test.YtjnijhnphhpilaaWr
namespace Go.Proofs.Ytjnijhnphhpilaa
open Go.RowKit

/-- the first stand of a drum, over the first k places -/
def stand0To (g : List Int) : Nat → List Int
  | 0 => List.replicate 12 0
  | k + 1 => (stand0To g k).set k (nth g (g.length - 1 - k))

theorem stand0To_length (g : List Int) : ∀ k, (stand0To g k).length = 12
  | 0 => rfl
  | k + 1 => by rw [stand0To, List.length_set, stand0To_length g k]

theorem stand0To_bits {g : List Int} (hg : isBits g = true) : ∀ k, isBits (stand0To g k) = true
  | 0 => by unfold stand0To; decide
  | k + 1 => isBits_set (stand0To_bits hg k) _ (isBits_nth hg _)

/-- the stand of a drum behind so many plays -/
def standAt (f g : List Int) : Nat → List Int
  | 0 => stand0To g g.length
  | n + 1 => standTo f (standAt f g n) f.length

theorem standAt_length (f g : List Int) : ∀ n, (standAt f g n).length = 12
  | 0 => stand0To_length g _
  | n + 1 => standTo_length f _ _

theorem standAt_bits {f g : List Int} (hg : isBits g = true) : ∀ n, isBits (standAt f g n) = true
  | 0 => stand0To_bits hg _
  | n + 1 => standTo_bits (standAt_bits hg n) _

/-- the first n stands differ -/
def Apart (f g : List Int) (n : Nat) : Prop := ∀ i j, i < j → j < n → standAt f g i ≠ standAt f g j

/-- a list of bits as a number -/
def bitNum : List Int → Nat
  | [] => 0
  | x :: l => x.toNat + 2 * bitNum l

theorem bitNum_lt : ∀ {l : List Int}, isBits l = true → bitNum l < 2 ^ l.length
  | [], _ => by simp [bitNum]
  | x :: l, h => by
    unfold isBits at h
    rw [List.all_cons, Bool.and_eq_true] at h
    have hx : x = 0 ∨ x = 1 := by have := h.1; simp [isBit] at this; omega
    have := bitNum_lt (l := l) h.2
    rw [bitNum, List.length_cons, Nat.pow_succ]
    omega

theorem bitNum_inj : ∀ {l m : List Int}, isBits l = true → isBits m = true → l.length = m.length → bitNum l = bitNum m → l = m
  | [], [], _, _, _, _ => rfl
  | [], _ :: _, _, _, h, _ => by simp at h
  | _ :: _, [], _, _, h, _ => by simp at h
  | x :: l, y :: m, hl, hm, h, e => by
    unfold isBits at hl hm
    rw [List.all_cons, Bool.and_eq_true] at hl hm
    have hx : x = 0 ∨ x = 1 := by have := hl.1; simp [isBit] at this; omega
    have hy : y = 0 ∨ y = 1 := by have := hm.1; simp [isBit] at this; omega
    rw [bitNum, bitNum] at e
    have e1 : bitNum l = bitNum m := by omega
    have e2 : x = y := by omega
    rw [e2, bitNum_inj hl.2 hm.2 (by simpa using h) e1]

theorem nodup_lt : ∀ (m : Nat) (l : List Nat), l.Nodup → (∀ x ∈ l, x < m) → l.length ≤ m
  | 0, l, _, h => by
    cases l with
    | nil => simp
    | cons x l => exact absurd (h x (by simp)) (by omega)
  | m + 1, l, hn, h => by
    have h1 := nodup_lt m (l.erase m) (hn.erase m) (fun x hx => by
      have hx2 := (List.Nodup.mem_erase_iff hn).1 hx
      have := h x hx2.2
      have := hx2.1
      omega)
    have h2 := List.length_erase (a := m) (l := l)
    split at h2 <;> omega

theorem apart_le {f g : List Int} (hg : isBits g = true) {n : Nat} (h : Apart f g n) : n ≤ 4096 := by
  have hn : ((List.range n).map fun i => bitNum (standAt f g i)).Nodup := by
    unfold List.Nodup
    rw [List.pairwise_map]
    refine List.Pairwise.imp_of_mem ?_ List.pairwise_lt_range
    intro a b ha hb hab e
    have hb2 := List.mem_range.1 hb
    exact h a b hab hb2 (bitNum_inj (standAt_bits hg _) (standAt_bits hg _) (by rw [standAt_length, standAt_length]) e)
  have := nodup_lt 4096 _ hn (fun x hx => by
    obtain ⟨i, _, rfl⟩ := List.mem_map.1 hx
    have := bitNum_lt (standAt_bits (f := f) hg i)
    rw [standAt_length] at this
    exact this)
  simpa using this

/-- what turn answers: the first stand that comes again, and after how many plays -/
def TurnIs (f g : List Int) (i r : Nat) : Prop := 0 < r ∧ standAt f g i = standAt f g (i + r) ∧ Apart f g (i + r)

end Go.Proofs.Ytjnijhnphhpilaa
