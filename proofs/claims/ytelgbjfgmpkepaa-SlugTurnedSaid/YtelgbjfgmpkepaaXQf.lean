/- The layer, plain: one weighing of those that are played. -/
import Derived.Test.YtelgbjfgmpkepaaXQc
namespace Go.Proofs.Ytelgbjfgmpkepaa
open Go.RowKit Go.Shelf

theorem resultOf_range {n : Nat} {ws : List Int} {c : Int × Int} (hw : WOk n ws) (hc : CaseOk n c) : -1 ≤ resultOf ws c ∧ resultOf ws c ≤ 1 := by
  unfold resultOf
  rcases hc with ⟨h1, _⟩ | ⟨⟨h1, h2⟩, _⟩
  · rw [if_pos (by omega)]; omega
  · rw [if_neg (by omega)]
    have := hw.2 c.1.toNat (by omega)
    split <;> omega
theorem place_of_mem : ∀ {L : List (Int × Int)} {i : Nat} {c : Int × Int}, c ∈ L → 0 ≤ placeFrom i L c
  | [], _, _, h => by cases h
  | x :: L, i, c, h => by
    unfold placeFrom
    by_cases e : x = c
    · simp [e]
    · rw [if_neg (fun h2 => e (Prod.ext h2.1 h2.2))]
      exact place_of_mem ((List.mem_cons.1 h).resolve_left (fun h2 => e h2.symm))
/-- one weighing of those that are played -/
theorem played_step {C : Kn} {ws : List Int} {c : Int × Int} (hok : Kok C) (hc : c ∈ casesOf C) (hkw : kwErr C ws = 0) (haf : afN C ws 3 + 1 = nd 1000 (cntOf C)) :
    resErr C ws c = 0 ∧ resVal C ws c = resultOf ws c ∧ lnErr C ws (resultOf ws c) = 0 ∧ lnVal C ws (resultOf ws c) = krK C ws (resultOf ws c) ∧ Kok (krK C ws (resultOf ws c)) ∧ (krK C ws (resultOf ws c)).cop.length = C.cop.length ∧ c ∈ casesOf (krK C ws (resultOf ws c)) ∧ nd 1000 (cntOf (krK C ws (resultOf ws c))) + 1 ≤ nd 1000 (cntOf C) := by
  obtain ⟨_, hwok, hs⟩ := kw_ok hkw
  have hcok := casesOf_ok hok.cop c hc
  have hr := resultOf_range hwok hcok
  have h1 : resErr C ws c = 0 := by unfold resErr; rw [if_pos hkw, if_pos (show 0 ≤ place (casesOf C) c from place_of_mem hc)]
  have h2 : resVal C ws c = resultOf ws c := by unfold resVal; rw [if_pos h1]
  have hmem : c ∈ withL C ws (resultOf ws c) := mem_withL.2 ⟨hc, rfl⟩
  have hlen : (withL C ws (resultOf ws c)).length ≠ 0 := fun h => by rw [List.eq_nil_of_length_eq_zero h] at hmem; cases hmem
  have h3 : lnErr C ws (resultOf ws c) = 0 := by
    unfold lnErr
    rw [if_pos hkw, if_pos (within_one.2 hr), if_neg hlen]
  have h4 : lnVal C ws (resultOf ws c) = krK C ws (resultOf ws c) := by unfold lnVal; rw [if_pos h3]; rfl
  have h5 : (cntOf (krK C ws (resultOf ws c))).cases ≠ 0 := by rw [krK_cases]; exact hlen
  have h6 := nd0_le (ws := ws) hok (r := resultOf ws c) (by omega)
  unfold nd0 at h6
  rw [if_neg h5] at h6
  exact ⟨h1, h2, h3, h4, kr_ok hok h5, krK_len _ _ _, by rw [cases_kr]; exact hmem, by omega⟩

end Go.Proofs.Ytelgbjfgmpkepaa
