/- What comes behind a row: plain. -/
import Derived.Test.YtjnijhnphhpilaaPp
import Derived.Test.YtjnijhnphhpilaaLawE
namespace Go.Proofs.Ytjnijhnphhpilaa
open Go.RowKit

/-- the reader's drum -/
def rF (xs : List Int) : List Int := (rdDrum (rdAll xs)).1
def rG (xs : List Int) : List Int := (rdDrum (rdAll xs)).2

theorem rF_len {xs : List Int} (h : checkRow xs = 0) : (rF xs).length = pl xs ∧ (rG xs).length = pl xs ∧ isBits (rF xs) = true ∧ isBits (rG xs) = true := rdDrum_len h

theorem next_err {xs : List Int} (hv : checkRow xs = 0) {m : Nat} (hm : m ≤ 100) : nextErr xs m = if xs.length < 2 * pl xs then 25 else 0 := by
  unfold nextErr
  rw [if_neg (by simp [hv]), if_neg (by omega)]
  rfl

theorem next_row {xs : List Int} (hv : checkRow xs = 0) {m : Nat} (hm : m ≤ 100) (h2 : 2 * pl xs ≤ xs.length) : xs ++ nextR xs m = playsF (rF xs) (rG xs) (xs.length + m) ∧ (nextR xs m).length = m := by
  have he : nextErr xs m = 0 := by rw [next_err hv hm, if_neg (by omega)]
  unfold nextR
  rw [if_pos he, Int.toNat_natCast]
  refine ⟨?_, ?_⟩
  · have h := rd_makes hv
    have h3 : (playsF (rF xs) (rG xs) (xs.length + m)).take xs.length = xs := by
      rw [playsF_take _ _ _ _ (by omega)]; exact h
    have h4 := List.take_append_drop xs.length (playsF (rF xs) (rG xs) (xs.length + m))
    rw [h3] at h4
    exact h4
  · rw [List.length_drop, playsF_length]; omega

theorem next_none {xs : List Int} (hv : checkRow xs = 0) {m : Nat} (hm : m ≤ 100) (h2 : xs.length < 2 * pl xs) : nextR xs m = [] := by
  have he : nextErr xs m = 25 := by rw [next_err hv hm, if_pos h2]
  unfold nextR
  rw [if_neg (by rw [he]; decide)]

theorem pl_more {xs ys : List Int} (_h : xs.length ≤ 40) : pl xs ≤ pl (xs ++ ys) := by
  have := profTo_mono (xs := xs ++ ys) (k := xs.length) (m := (xs ++ ys).length) (by simp) (Nat.le_refl _)
  rw [List.take_left, List.take_length] at this
  exact this

theorem next_long {xs : List Int} (hv : checkRow xs = 0) {m : Nat} (hm : xs.length + m ≤ 40) (h2 : 2 * pl xs ≤ xs.length) :
    checkRow (xs ++ nextR xs m) = 0 ∧ pl (xs ++ nextR xs m) = pl xs ∧ makesR (rF xs) (rG xs) (xs ++ nextR xs m) = 0 := by
  obtain ⟨hlen, hbits⟩ := checkRow_zero hv
  obtain ⟨l1, l2, b1, b2⟩ := rF_len hv
  obtain ⟨he, hl⟩ := next_row hv (m := m) (by omega) h2
  have hll : (xs ++ nextR xs m).length = xs.length + m := by rw [List.length_append, hl]
  have hvl : checkRow (xs ++ nextR xs m) = 0 := row_valid (by omega) (by rw [he]; exact playsF_bits (f := rF xs) b2 _)
  have hmk : playsF (rF xs) (rG xs) (xs ++ nextR xs m).length = xs ++ nextR xs m := by rw [hll, he]
  refine ⟨hvl, ?_, ?_⟩
  · have h3 := rd_least_drum hvl b1 b2 (by omega) hmk
    rw [l1] at h3
    have h4 := pl_more (xs := xs) (ys := nextR xs m) hlen
    unfold pl at h3 h4 ⊢
    omega
  · unfold makesR
    rw [if_neg (by simp [show checkDrum (rF xs) (rG xs) = 0 from rd_drum_ok hv]), if_neg (by simp [hvl]), if_pos hmk]

/-- the play that comes is not wrong -/
theorem next_right {xs : List Int} (hv : checkRow xs = 0) : wrongP xs (seqF (rF xs) (rG xs) xs.length) = false := by
  obtain ⟨hlen, hbits⟩ := checkRow_zero hv
  obtain ⟨l1, l2, b1, b2⟩ := rF_len hv
  have hb := RB.full hbits (by omega)
  have rok := hb.ok.ok
  have hle : (rdAll xs).places ≤ xs.length := rdAll_places hv
  have hs : ∀ t, t < xs.length → sq (rF xs) (rG xs) t = bt xs t := by
    intro t ht
    have h := rd_makes hv
    rw [← bt_seq (rF xs) (rG xs) ht]
    show bt (playsF (rdDrum (rdAll xs)).1 (rdDrum (rdAll xs)).2 xs.length) t = _
    rw [h]
  have hodd := odd_wrong (play := seqF (rF xs) (rG xs) xs.length) (s := sq (rF xs) (rG xs)) hb.one rok.bown rok.brow (seqF_bit b2 _) (by
      rw [hb.len]; intro t ht; rw [rdAll_row]; exact hs t ht) (by rw [hb.len]; rfl) (rdAll xs).places (by rw [hb.len]; exact hle)
  rw [hb.len] at hodd
  have hg := (seq_gen b1 b2 (by omega) (xs.length + 1)).2 xs.length (by rw [l1]; exact hle) (by omega)
  rw [l1] at hg
  have e : xsum ((rdAll xs).places + 1) (fun i => bt (rdOwn (rdAll xs).own (rdAll xs).row) i && sq (rF xs) (rG xs) (xs.length - i)) = false := by
    rw [← hg]
    exact xsum_congr (fun k hk => by rw [show cf (rF xs) k = bt (rdOwn (rdAll xs).own (rdAll xs).row) k from rdDrum_cf hv k (by omega)])
  rw [e] at hodd
  unfold wrongP
  have := of_decide_eq_false hodd
  simpa using this

theorem next_other {xs : List Int} (hv : checkRow xs = 0) {m : Nat} (hm0 : 0 < m) (hm : xs.length + m ≤ 40) (h2 : 2 * pl xs ≤ xs.length) :
    (nth (nextR xs m) 0 = 0 ∨ nth (nextR xs m) 0 = 1) ∧ checkRow (xs ++ [1 - nth (nextR xs m) 0]) = 0 ∧ pl xs < pl (xs ++ [1 - nth (nextR xs m) 0]) ∧ makesR (rF xs) (rG xs) (xs ++ [1 - nth (nextR xs m) 0]) = 25 := by
  obtain ⟨hlen, hbits⟩ := checkRow_zero hv
  obtain ⟨l1, l2, b1, b2⟩ := rF_len hv
  obtain ⟨he, hl⟩ := next_row hv (m := m) (by omega) h2
  have h0 : nth (nextR xs m) 0 = seqF (rF xs) (rG xs) xs.length := by
    have := nth_append_right xs (nextR xs m) 0
    rw [Nat.add_zero] at this
    rw [← this, he, nth_seq _ _ (by omega)]
  rw [h0]
  have hb0 := seqF_bit (f := rF xs) b2 xs.length
  obtain ⟨p, hp⟩ : ∃ p, p = seqF (rF xs) (rG xs) xs.length := ⟨_, rfl⟩
  have hr := next_right hv
  rw [← hp] at hb0 hr ⊢
  have hob : (1 : Int) - p = 0 ∨ (1 : Int) - p = 1 := by omega
  have hvo : checkRow (xs ++ [1 - p]) = 0 := row_valid (by rw [List.length_append, List.length_singleton]; omega) (by rw [isBits_append, hbits, isBits_single hob]; rfl)
  have hw : wrongP xs (1 - p) = true := by
    have hf := wrongP_flip xs
    rcases hb0 with rfl | rfl
    · rw [hr] at hf
      show wrongP xs 1 = true
      cases hq : wrongP xs 1 with
      | true => rfl
      | false => rw [hq] at hf; cases hf
    · rw [hr] at hf
      show wrongP xs 0 = true
      rw [hf]; rfl
  refine ⟨hb0, hvo, ?_, ?_⟩
  · rw [pl_append, if_neg (by rw [hw]; simp), if_neg (by omega)]; omega
  · unfold makesR
    rw [if_neg (by simp [show checkDrum (rF xs) (rG xs) = 0 from rd_drum_ok hv]), if_neg (by simp [hvo]), if_neg]
    intro h
    have h3 : nth (playsF (rF xs) (rG xs) (xs ++ [1 - p]).length) xs.length = seqF (rF xs) (rG xs) xs.length := nth_seq _ _ (by simp)
    rw [h] at h3
    have h4 := nth_append_right xs [1 - p] 0
    rw [Nat.add_zero] at h4
    rw [h4, ← hp] at h3
    have h5 : nth [1 - p] 0 = 1 - p := rfl
    rw [h5] at h3
    omega

end Go.Proofs.Ytjnijhnphhpilaa
