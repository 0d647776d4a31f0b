/- Walks: fine, for whatever length; what is told behind a laid weighing. -/
import Derived.Test.YtelgbjfgmpkepaaXIa
namespace Go.Proofs.Ytelgbjfgmpkepaa
open Go.RowKit Go.Shelf

section
variable (ka : Option Addr) (kc : Nat) (K : Kn) (w : World)
set_option maxRecDepth 100000 in
theorem fine_any (hk : KnAt w ka K) : Calls Try.prog 44 #[.agg #[.slice ka K.cop.length kc, .bool K.none]] w (TellB w (decide (knErr K = 0))) := by
  by_cases h : 16 < K.cop.length
  · have h0 : ¬ knErr K = 0 := fun e => by have := (kok_iff.1 e).n12; omega
    obtain ⟨V, hV, hB0, k0, k1⟩ := box1 w (.slice ka K.cop.length kc) (.bool K.none) 24
    have hkV := hk.mono hB0
    have HB0 := hid hB0; have HV := hid hV; have HV0 := hid (Below.refl V.heap.size V)
    have K0 := hid k0; have K1 := hid k1
    have H15 := hid fun (w' : World) (h : Below V.heap.size V w') => great_15 ka kc K w' (hkV.mono h)
    rw [decide_eq_true h] at H15
    rw [decide_eq_false h0]
    unfold TellB at H15 ⊢
    clear hk hV hB0 hkV h h0
    go_enter Try.func44, Try.ntmps44
    go_upto_region 1 with (fail)
    rw [← HV.out]
    go_wp2_with fail
    refine (H15.out _ HV0.out).mono ?_
    rintro e w1 ⟨rfl, hB⟩
    have HB1 := hid (bstep HV0.out hB)
    have k0 := cstep k0 hB
    have k1 := cstep k1 hB
    clear hB
    go_wp2
    go_ret
    exact ⟨rfl, bstep HB0.out HB1.out⟩
  · exact fine_44 ka kc K w hk (by omega)
end
theorem afN_one {K : Kn} (hk : Kok K) (ws : List Int) (h1 : (casesOf K).length = 1) : afN K ws 3 = 0 := by
  have key : ∀ r, nd0 (cntOf (krK K ws r)) = 0 := fun r => by
    have hle := withL_le K ws r
    rw [← krK_cases] at hle
    unfold nd0
    by_cases h0 : (cntOf (krK K ws r)).cases = 0
    · rw [if_pos h0]
    · rw [if_neg h0]; exact nd_one 1000 (by omega)
  rw [afN_of hk, key, key, key]
  rfl
/-- behind a valid weighing -/
theorem af_of {K : Kn} {ws : List Int} (hw : kwErr K ws = 0) : (1000 ≤ afN K ws 3 ∧ afErr K ws = 21 ∧ afVal K ws = 0) ∨ (afN K ws 3 < 1000 ∧ afErr K ws = 0 ∧ afVal K ws = ((afN K ws 3 : Nat) : Int)) := by
  unfold afErr afVal
  rw [if_pos hw, if_pos hw]
  by_cases h : 1000 ≤ afN K ws 3
  · left; rw [if_pos h, if_pos h]; exact ⟨h, rfl, rfl⟩
  · right; rw [if_neg h, if_neg h]; exact ⟨by omega, rfl, rfl⟩
theorem ne_of {K : Kn} (hk : Kok K) : (nd 1000 (cntOf K) = 1000 ∧ neErr K = 21 ∧ neVal K = 0) ∨ (nd 1000 (cntOf K) < 1000 ∧ neErr K = 0 ∧ neVal K = ((nd 1000 (cntOf K) : Nat) : Int)) := by
  have hkn := kok_iff.2 hk
  have hle := nd_le 1000 (cntOf K)
  unfold neErr neVal
  rw [if_pos hkn, if_pos hkn]
  by_cases h : 1000 ≤ nd 1000 (cntOf K)
  · left; rw [if_pos h, if_pos h]; exact ⟨by omega, rfl, rfl⟩
  · right; rw [if_neg h, if_neg h]; exact ⟨by omega, rfl, rfl⟩
theorem nd_pos {K : Kn} (hk : Kok K) (h1 : (casesOf K).length ≠ 1) : 1 ≤ nd 1000 (cntOf K) := by
  have hp := cases_pos hk
  by_cases h : nd 1000 (cntOf K) = 0
  · have := can_of_nd hk (by omega)
    rw [h] at this
    have this : (cntOf K).cases = 1 := this
    rw [cntOf_cases] at this
    omega
  · omega

end Go.Proofs.Ytelgbjfgmpkepaa
