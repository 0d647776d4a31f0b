/- The round of a drum, plain: what its stands say of its plays. -/
import Derived.Test.YtjnijhnphhpilaaBm
import Derived.Test.YtjnijhnphhpilaaTm
namespace Go.Proofs.Ytjnijhnphhpilaa
open Go.RowKit

/-- the sum that feeds a stand -/
def linS (f s : List Int) : Nat → Int
  | 0 => 0
  | k + 1 => (linS f s k + nth f k * nth s k) % 2

theorem nth_rep (n k : Nat) : nth (List.replicate n (0 : Int)) k = 0 := by
  by_cases h : k < n
  · have hm := nth_mem (xs := List.replicate n (0 : Int)) (k := k) (by simpa using h)
    exact List.eq_of_mem_replicate hm
  · exact nth_of_ge (by simp; omega)

theorem standTo_nth (f s : List Int) : ∀ K, K ≤ 12 → ∀ i, i < 12 → nth (standTo f s K) i = if i = 0 then linS f s K else if i < K then nth s (i - 1) else 0
  | 0, _, i, _ => by
    rw [standTo, nth_rep]
    by_cases h : i = 0
    · rw [if_pos h]; rfl
    · rw [if_neg h, if_neg (by omega)]
  | K + 1, hK, i, hi => by
    have ih := standTo_nth f s K (by omega)
    have h0 := ih 0 (by omega)
    rw [if_pos rfl] at h0
    unfold standTo
    simp only
    have hl : ((standTo f s K).set 0 ((nth (standTo f s K) 0 + nth f K * nth s K) % 2)).length = 12 := by rw [List.length_set, standTo_length]
    by_cases hk : K = 0
    · subst hk
      rw [if_pos rfl, nth_set, standTo_length]
      by_cases h : i = 0
      · subst h; rw [if_pos ⟨rfl, by omega⟩, if_pos rfl, h0]; rfl
      · rw [if_neg (fun e => h e.1.symm), if_neg h, if_neg (by omega), ih i hi, if_neg h, if_neg (by omega)]
    · rw [if_neg hk, nth_set, hl]
      by_cases h : i = 0
      · subst h
        rw [if_neg (fun e => hk e.1), nth_set, standTo_length, if_pos ⟨rfl, by omega⟩, if_pos rfl, h0]; rfl
      · rw [if_neg h]
        by_cases e : K = i
        · subst e; rw [if_pos ⟨rfl, hi⟩, if_pos (by omega)]
        · rw [if_neg (fun h => e h.1), nth_set, standTo_length, if_neg (fun e => h e.1.symm), ih i hi, if_neg h]
          by_cases h2 : i < K
          · rw [if_pos h2, if_pos (by omega)]
          · rw [if_neg h2, if_neg (by omega)]

theorem stand0_nth (g : List Int) : ∀ K, K ≤ 12 → ∀ i, i < 12 → nth (stand0To g K) i = if i < K then nth g (g.length - 1 - i) else 0
  | 0, _, i, _ => by rw [stand0To, nth_rep, if_neg (by omega)]
  | K + 1, hK, i, hi => by
    rw [stand0To, nth_set, stand0To_length]
    by_cases e : K = i
    · subst e; rw [if_pos ⟨rfl, hi⟩, if_pos (by omega)]
    · rw [if_neg (fun h => e h.1), stand0_nth g K (by omega) i hi]
      by_cases h2 : i < K
      · rw [if_pos h2, if_pos (by omega)]
      · rw [if_neg h2, if_neg (by omega)]

section
variable {f g : List Int} (hl : f.length = g.length) (h12 : g.length ≤ 12)
include hl h12

omit hl h12 in
theorem linS_lin {s : List Int} {j : Nat} (hs : ∀ k, k < g.length → nth s k = seqF f g (j + g.length - 1 - k)) : ∀ K, K ≤ g.length → linS f s K = linTo f (playsF f g (j + g.length)) K
  | 0, _ => rfl
  | K + 1, hK => by
    rw [linS, linTo, linS_lin hs K (by omega), hs K (by omega), playsF_length, nth_seq f g (by omega)]

/-- what a stand holds -/
theorem stand_nth : ∀ j i, i < 12 → nth (standAt f g j) i = if i < g.length then seqF f g (j + g.length - 1 - i) else 0
  | 0, i, hi => by
    rw [standAt, stand0_nth g g.length h12 i hi]
    by_cases h : i < g.length
    · rw [if_pos h, if_pos h, seqF_first f g (by omega), Nat.zero_add]
    · rw [if_neg h, if_neg h]
  | j + 1, i, hi => by
    have ih := stand_nth j
    rw [standAt, standTo_nth f _ f.length (by omega) i hi]
    by_cases h0 : i = 0
    · subst h0
      rw [if_pos rfl]
      have h1 := linS_lin (f := f) (g := g) (s := standAt f g j) (j := j) (fun k hk => by rw [ih k (by omega), if_pos hk]) f.length (by omega)
      rw [h1]
      by_cases hn : 0 < g.length
      · rw [if_pos hn, show j + 1 + g.length - 1 - 0 = j + g.length from by omega]
        unfold seqF playNext
        rw [playsF_length, if_neg (by omega)]
      · rw [if_neg hn, hl, show g.length = 0 from by omega]; rfl
    · rw [if_neg h0, hl]
      by_cases h2 : i < g.length
      · rw [if_pos h2, if_pos h2, ih (i - 1) (by omega), if_pos (by omega)]
        congr 1; omega
      · rw [if_neg h2, if_neg h2]

theorem stand_eq {i j : Nat} : standAt f g i = standAt f g j ↔ ∀ t, t < g.length → seqF f g (i + t) = seqF f g (j + t) := by
  constructor
  · intro h t ht
    have h1 := stand_nth hl h12 i (g.length - 1 - t) (by omega)
    have h2 := stand_nth hl h12 j (g.length - 1 - t) (by omega)
    rw [if_pos (by omega)] at h1 h2
    rw [show i + g.length - 1 - (g.length - 1 - t) = i + t from by omega] at h1
    rw [show j + g.length - 1 - (g.length - 1 - t) = j + t from by omega] at h2
    rw [← h1, ← h2, h]
  · intro h
    refine ext_nth (by rw [standAt_length, standAt_length]) (fun k hk => ?_)
    rw [standAt_length] at hk
    rw [stand_nth hl h12 i k hk, stand_nth hl h12 j k hk]
    by_cases h2 : k < g.length
    · rw [if_pos h2, if_pos h2]
      have := h (g.length - 1 - k) (by omega)
      rw [show i + g.length - 1 - k = i + (g.length - 1 - k) from by omega, show j + g.length - 1 - k = j + (g.length - 1 - k) from by omega]
      exact this
    · rw [if_neg h2, if_neg h2]

omit h12 in
theorem seq_zero (h0 : g.length = 0) (t : Nat) : seqF f g t = 0 := by
  unfold seqF playNext
  rw [playsF_length, if_neg (by omega), hl, h0]
  rfl

/-- from the beginning on it is the same a round later -/
theorem round_same {b r : Nat} (ht : TurnIs f g b r) : ∀ i, b ≤ i → seqF f g i = seqF f g (i + r) := by
  have h1 : ∀ d, standAt f g (b + d) = standAt f g (b + r + d) := by
    intro d
    induction d with
    | zero => exact ht.2.1
    | succ d ih =>
      show standTo f (standAt f g (b + d)) f.length = standTo f (standAt f g (b + r + d)) f.length
      rw [ih]
  intro i hi
  by_cases h0 : g.length = 0
  · rw [seq_zero hl h0, seq_zero hl h0]
  · have h2 := (stand_eq hl h12).1 (h1 (i - b)) 0 (by omega)
    rw [show b + (i - b) + 0 = i from by omega, show b + r + (i - b) + 0 = i + r from by omega] at h2
    exact h2

/-- not one play earlier -/
theorem round_early {b r : Nat} (ht : TurnIs f g b r) (hb : 0 < b) : seqF f g (b - 1) ≠ seqF f g (b - 1 + r) := by
  intro h
  refine ht.2.2 (b - 1) (b - 1 + r) (by have := ht.1; omega) (by omega) ((stand_eq hl h12).2 (fun t _ => ?_))
  by_cases h0 : t = 0
  · subst h0; exact h
  · have := round_same hl h12 ht (b - 1 + t) (by omega)
    rw [this]; congr 1; omega

/-- not a lesser round -/
theorem round_less {b r d : Nat} (ht : TurnIs f g b r) (h1 : 1 ≤ d) (h2 : d < r) : ¬ ∀ i, b ≤ i → i < b + r → seqF f g i = seqF f g (i + d) := by
  intro h
  have hall : ∀ i, b ≤ i → seqF f g i = seqF f g (i + d) := by
    intro i
    induction i using Nat.strongRecOn with
    | _ i ih =>
      intro hi
      by_cases e : i < b + r
      · exact h i hi e
      · have e1 := round_same hl h12 ht (i - r) (by omega)
        have e2 := ih (i - r) (by have := ht.1; omega) (by omega)
        have e3 := round_same hl h12 ht (i - r + d) (by omega)
        rw [show i - r + r = i from by omega] at e1
        rw [show i - r + d + r = i + d from by omega] at e3
        rw [← e1, e2, e3]
  exact ht.2.2 b (b + d) (by omega) (by omega) ((stand_eq hl h12).2 (fun t _ => by
    rw [hall (b + t) (by omega)]; congr 1; omega))
end

theorem bitNum_take {l : List Int} (h : isBits l = true) (n : Nat) (hz : ∀ k, n ≤ k → nth l k = 0) : bitNum l < 2 ^ n := by
  induction l generalizing n with
  | nil => simp [bitNum]; exact Nat.two_pow_pos n
  | cons x l ih =>
    unfold isBits at h
    rw [List.all_cons, Bool.and_eq_true] at h
    have hx : x = 0 ∨ x = 1 := by have := h.1; simp [isBit] at this; omega
    cases n with
    | zero =>
      have h0 : x = 0 := hz 0 (by omega)
      have := ih h.2 0 (fun k _ => hz (k + 1) (by omega))
      rw [bitNum, h0]
      simp at this ⊢; omega
    | succ n =>
      have := ih h.2 n (fun k hk => hz (k + 1) (by omega))
      rw [bitNum, Nat.pow_succ]
      omega

theorem apart_pow {f g : List Int} (hl : f.length = g.length) (h12 : g.length ≤ 12) (hg : isBits g = true) {n : Nat} (h : Apart f g n) : n ≤ 2 ^ g.length := by
  have hn : ((List.range n).map fun i => bitNum (standAt f g i)).Nodup := by
    unfold List.Nodup
    rw [List.pairwise_map]
    refine List.Pairwise.imp_of_mem ?_ List.pairwise_lt_range
    intro a b _ hb hab e
    have hb2 := List.mem_range.1 hb
    exact h a b hab hb2 (bitNum_inj (standAt_bits hg _) (standAt_bits hg _) (by rw [standAt_length, standAt_length]) e)
  have := nodup_lt (2 ^ g.length) _ hn (fun x hx => by
    obtain ⟨i, _, rfl⟩ := List.mem_map.1 hx
    refine bitNum_take (standAt_bits hg i) g.length (fun k hk => ?_)
    by_cases h2 : k < 12
    · rw [stand_nth hl h12 i k h2, if_neg (by omega)]
    · exact nth_of_ge (by rw [standAt_length]; omega))
  simpa using this

end Go.Proofs.Ytjnijhnphhpilaa
