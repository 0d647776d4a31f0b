/- One drum alone: where a row has at least twice as many plays as places, one feed generates it. Plain. -/
import Derived.Test.YtjnijhnphhpilaaNp
namespace Go.Proofs.Ytjnijhnphhpilaa
open Go.RowKit

/-- the places jump to more than what is left, if they jump -/
theorem pl_jump {xs : List Int} (hv : checkRow xs = 0) {M : Nat} (hM : M ≤ xs.length) (h : pl (xs.take M) < pl xs) : M + 1 ≤ pl xs + pl (xs.take M) := by
  obtain ⟨hlen, hbits⟩ := checkRow_zero hv
  -- the first play behind M at which the places change
  have key : ∀ d, M + d ≤ xs.length → pl (xs.take (M + d)) = pl (xs.take M) ∨ M + 1 ≤ pl (xs.take (M + d)) + pl (xs.take M) := by
    intro d
    induction d with
    | zero => intro _; exact .inl rfl
    | succ d ih =>
      intro hd
      have hs := prof_step (xs := xs) (k := M + d) (by omega)
      rcases ih (by omega) with e | e
      · rcases hs with h1 | ⟨h1, h2⟩
        · left; rw [← Nat.add_assoc, h1, e]
        · right
          have hle : pl (xs.take (M + d)) ≤ M + d := by
            have := pl_le (xs := xs.take (M + d)) (row_valid (by rw [List.length_take]; omega) (isBits_take hbits _))
            rw [List.length_take] at this; omega
          rw [← Nat.add_assoc]
          omega
      · right
        have := profTo_mono (xs := xs) (k := M + d) (m := M + d + 1) (by omega) (by omega)
        rw [← Nat.add_assoc]
        omega
  have := key (xs.length - M) (by omega)
  rw [show M + (xs.length - M) = xs.length from by omega, List.take_length] at this
  rcases this with e | e
  · omega
  · exact e

/-- two feeds of as many places as the row has are one, if the row is long -/
theorem fed_only {xs : List Int} (hv : checkRow xs = 0) (h2 : 2 * pl xs ≤ xs.length) {C C' : Nat → Bool} (hC : Fed C (pl xs) xs.length (bt xs)) (hC' : Fed C' (pl xs) xs.length (bt xs)) : ∀ k, k ≤ pl xs → C k = C' k := by
  obtain ⟨hlen, hbits⟩ := checkRow_zero hv
  intro k
  induction k using Nat.strongRecOn with
  | _ k ih =>
    intro hk
    by_cases hkz : k = 0
    · subst hkz; rw [hC.1, hC'.1]
    · cases hd : (C k ^^ C' k) with
      | false => revert hd; cases C k <;> cases C' k <;> simp
      | true =>
        exfalso
        -- the difference begins at k: it generates all but the last k plays, in fewer places
        have hD : ∀ t, pl xs ≤ t → t < xs.length → xsum (pl xs + 1) (fun i => (C i ^^ C' i) && bt xs (t - i)) = false := by
          intro t t1 t2
          have e : (fun i => (C i ^^ C' i) && bt xs (t - i)) = (fun i => (C i && bt xs (t - i)) ^^ (C' i && bt xs (t - i))) := by
            funext i; cases C i <;> cases C' i <;> cases bt xs (t - i) <;> rfl
          rw [e, xsum_xor, hC.2 t t1 t2, hC'.2 t t1 t2]; rfl
        have hF : Fed (fun j => C (k + j) ^^ C' (k + j)) (pl xs - k) (xs.length - k) (bt xs) := by
          refine ⟨by simpa using hd, fun t t1 t2 => ?_⟩
          have h := hD (t + k) (by omega) (by omega)
          rw [show pl xs + 1 = k + (pl xs - k + 1) from by omega, xsum_add, xsum_zero (fun i hi => by rw [ih i hi (by omega)]; cases C' i <;> rfl)] at h
          simp only [Bool.false_bne] at h
          rw [← h]
          exact xsum_congr (fun j _ => by rw [show t + k - (k + j) = t - j from by omega])
        have hvt : checkRow (xs.take (xs.length - k)) = 0 := row_valid (by rw [List.length_take]; omega) (isBits_take hbits _)
        have hlt : (xs.take (xs.length - k)).length = xs.length - k := by rw [List.length_take]; omega
        have h3 : pl (xs.take (xs.length - k)) ≤ pl xs - k := rd_least hvt (C := fun j => C (k + j) ^^ C' (k + j)) (by
          rw [hlt]
          exact hF.row (fun t ht => (bt_take ht).symm))
        have h4 := pl_jump hv (M := xs.length - k) (by omega) (by omega)
        omega

/-- a drum of as many places as the row has makes it just if it is the reader's -/
theorem drum_only {xs f g : List Int} (hv : checkRow xs = 0) (h2 : 2 * pl xs ≤ xs.length) (hf : isBits f = true) (hl : f.length = pl xs) (hg : g = xs.take (pl xs)) :
    makesR f g xs = 0 ↔ f = rF xs ∧ g = rG xs := by
  obtain ⟨hlen, hbits⟩ := checkRow_zero hv
  obtain ⟨l1, l2, b1, b2⟩ := rF_len hv
  have hgl : g.length = pl xs := by rw [hg, List.length_take]; omega
  have hgb : isBits g = true := by rw [hg]; exact isBits_take hbits _
  have hgG : g = rG xs := by
    rw [hg]
    show _ = (rdAll xs).row.take (rdAll xs).places
    rw [rdAll_row]; rfl
  constructor
  · intro h
    refine ⟨?_, hgG⟩
    have h1 := (makesR_zero h).2
    have hF := makes_gen hf hgb hbits (by omega) h1
    rw [hl] at hF
    have hF2 := makes_gen b1 b2 hbits (by omega) (rd_makes hv)
    rw [show (rF xs).length = pl xs from l1] at hF2
    have he := fed_only hv h2 hF hF2
    exact bt_ext hf b1 (by omega) (fun k hk => he (k + 1) (by omega))
  · rintro ⟨rfl, rfl⟩
    exact rd_makesR hv

end Go.Proofs.Ytjnijhnphhpilaa
