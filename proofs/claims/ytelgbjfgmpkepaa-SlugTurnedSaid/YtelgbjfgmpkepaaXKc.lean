/- The law SlugNeeds. -/
import Derived.Test.YtelgbjfgmpkepaaKT
namespace Go.Proofs.Ytelgbjfgmpkepaa
open Go.RowKit Go.Shelf

/-- what is told of a best weighing -/
theorem nx_good {K : Kn} {ws : List Int} (hx : nxErr K = 0) (hw : kwErr K ws = 0) (ha : afN K ws 3 + 1 = nd 1000 (cntOf K)) : ws.length ≤ 12 ∧ afErr K ws = 0 ∧ afVal K ws = neVal K - 1 ∧ 1 ≤ neVal K ∧ neVal K ≤ 1000 := by
  obtain ⟨hok, hwok, _⟩ := kw_ok hw
  have hn := nx_of hok
  have hk := kok_iff.2 hok
  have h12 := hok.n12
  have hlt : nd 1000 (cntOf K) < 1000 := by
    rw [hx] at hn
    by_cases h1 : nd 1000 (cntOf K) = 0
    · omega
    · rw [if_neg h1] at hn
      by_cases h2 : 1000 ≤ nd 1000 (cntOf K)
      · rw [if_pos h2] at hn; omega
      · omega
  have h1 := hwok.1
  have e1 : neVal K = ((nd 1000 (cntOf K) : Nat) : Int) := by unfold neVal; rw [if_pos hk, if_neg (by omega)]
  have e2 : afVal K ws = ((afN K ws 3 : Nat) : Int) := by unfold afVal; rw [if_pos hw, if_neg (by omega)]
  have e3 : afErr K ws = 0 := by unfold afErr; rw [if_pos hw, if_neg (by omega)]
  refine ⟨by omega, e3, by rw [e1, e2]; omega, by rw [e1]; omega, by rw [e1]; omega⟩
section
variable (ka : Option Addr) (kc : Nat) (K : Kn) (wa : Option Addr) (wc : Nat) (ws : List Int) (w : World)
set_option maxRecDepth 100000 in
set_option maxHeartbeats 8000000 in
theorem slugNeeds_c (hworks : WorksC) (hk : KnAt w ka K) (hw : IntsAt w wa ws) (hnil : wa = none → wc = 0) : Calls Try.prog 6 #[.agg #[.slice ka K.cop.length kc, .bool K.none], .slice wa ws.length wc] w (TellB w true) := by
  have HW := hid hworks
  obtain ⟨V, hV, hB0, k0, k1⟩ := box1 w (.slice ka K.cop.length kc) (.bool K.none) 24
  have hkV := hk.mono hB0
  have HB0 := hid hB0; have HV := hid hV; have HV0 := hid (Below.refl V.heap.size V)
  have K0 := hid k0; have K1 := hid k1
  have hwV := hw.mono hB0
  have HG := hid (great_15 ka kc K V hkV)
  unfold WorksC TellB at *
  by_cases hg : 16 < K.cop.length
  · rw [decide_eq_true hg] at HG
    clear hworks hk hV hB0 hkV hg hw hwV
    go_enter Try.func6, Try.ntmps6
    go_upto_region 1 with (fail)
    rw [← HV.out]
    go_wp2_with fail
    refine (HG.out).mono ?_
    rintro e w1 ⟨rfl, hB⟩
    have HB1 := hid (bstep HV0.out hB)
    clear hB
    go_wp2_with fail
    refine (HW.out _).mono ?_
    rintro e w2 ⟨rfl, hB⟩
    have HB2 := hid (bstep HB1.out hB)
    clear hB
    go_wp2
    go_ret
    exact ⟨rfl, bstep HB0.out HB2.out⟩
  · rw [decide_eq_false hg] at HG
    by_cases h16 : 16 < ws.length
    · have b1 : (16 : Int) < (ws.length : Int) := by omega
      clear hworks hk hV hB0 hkV hg hw hwV h16
      go_enter Try.func6, Try.ntmps6
      go_upto_region 1 with (fail)
      rw [← HV.out]
      go_wp2_with fail
      refine (HG.out).mono ?_
      rintro e w1 ⟨rfl, hB⟩
      have HB1 := hid (bstep HV0.out hB)
      clear hB
      go_wp2_with fail
      refine (HW.out _).mono ?_
      rintro e w2 ⟨rfl, hB⟩
      have HB2 := hid (bstep HB1.out hB)
      clear hB
      go_wp2
      go_ret
      exact ⟨rfl, bstep HB0.out HB2.out⟩
    · have b1 : ¬ (16 : Int) < (ws.length : Int) := by omega
      have hl : ws.length ≤ 1000000 := by omega
      have H1 := hid fun (w' : World) (h : Below V.heap.size V w') => bound_36 ka kc K w' (hkV.mono h) (by omega)
      have H2 := hid fun (w' : World) (h : Below V.heap.size V w') => rBound_37 ka kc K w' (hkV.mono h) (by omega)
      have H3 := hid fun (w' : World) (h : Below V.heap.size V w') => needed_38 ka kc K w' (hkV.mono h) (by omega)
      have H4 := hid fun (w' : World) (h : Below V.heap.size V w') => rNeeded_39 ka kc K w' (hkV.mono h) (by omega)
      have H5 := hid fun (w' : World) (h : Below V.heap.size V w') => after_40 ka kc K wa wc ws w' (hkV.mono h) (by omega) (hwV.mono h) hl hnil
      have H6 := hid fun (w' : World) (h : Below V.heap.size V w') => rAfter_41 ka kc K wa wc ws w' (hkV.mono h) (by omega) (hwV.mono h) hl
      have H7 := hid fun (w' : World) (h : Below V.heap.size V w') => next_42 ka kc K w' (hkV.mono h) (by omega)
      have H8 := hid fun (w' : World) (h : Below V.heap.size V w') => nextError_43 ka kc K w' (hkV.mono h) (by omega)
      have H9 := hid fun (xa : Option Addr) (xc : Nat) (xs : List Int) (w' : World) (h : Below V.heap.size V w') (hx : IntsAt w' xa xs) (hxl : xs.length ≤ 1000000) => rAfter_41 ka kc K xa xc xs w' (hkV.mono h) (by omega) hx hxl
      have Hgood := hid fun (xs : List Int) => nx_good (K := K) (ws := xs)
      obtain ⟨v1, hv1⟩ : ∃ x, x = bdVal K := ⟨_, rfl⟩
      obtain ⟨v2, hv2⟩ : ∃ x, x = knErr K := ⟨_, rfl⟩
      obtain ⟨v3, hv3⟩ : ∃ x, x = neVal K := ⟨_, rfl⟩
      obtain ⟨v4, hv4⟩ : ∃ x, x = neErr K := ⟨_, rfl⟩
      obtain ⟨v5, hv5⟩ : ∃ x, x = afVal K ws := ⟨_, rfl⟩
      obtain ⟨v6, hv6⟩ : ∃ x, x = afErr K ws := ⟨_, rfl⟩
      obtain ⟨v7, hv7⟩ : ∃ x, x = nxErr K := ⟨_, rfl⟩
      rw [← hv1, ← hv2] at H1 H2
      rw [← hv3, ← hv4] at H3 H4
      rw [← hv5, ← hv6] at H5 H6
      rw [← hv7] at H8 Hgood
      rw [← hv3] at Hgood
      have Hv7 := hid hv7
      unfold TellIE at H1 H2 H3 H4 H5 H6 H9
      unfold TellI at H8
      have E1 : (v1 != v1) = false := by simp
      have E2 : (v2 != v2) = false := by simp
      have E3 : (v3 != v3) = false := by simp
      have E4 : (v4 != v4) = false := by simp
      have E5 : (v5 != v5) = false := by simp
      have E6 : (v6 != v6) = false := by simp
      have E7 : (v7 != v7) = false := by simp
      clear hworks hk hV hB0 hkV hg hw hwV h16 hl hv1 hv2 hv3 hv4 hv5 hv6 hv7
      go_enter Try.func6, Try.ntmps6
      go_upto_region 1 with (fail)
      rw [← HV.out]
      go_wp2_with fail
      refine (HG.out).mono ?_
      rintro e w1 ⟨rfl, hB⟩
      have HB1 := hid (bstep HV0.out hB)
      have k0 := cstep k0 hB
      have k1 := cstep k1 hB
      clear hB
      go_wp2_with fail
      refine (H1.out _ HB1.out).mono ?_
      rintro e w2 ⟨rfl, hB⟩
      have HB2 := hid (bstep HB1.out hB)
      have k0 := cstep k0 hB
      have k1 := cstep k1 hB
      clear hB
      go_wp2_with fail
      refine (H2.out _ HB2.out).mono ?_
      rintro e w3 ⟨rfl, hB⟩
      have HB3 := hid (bstep HB2.out hB)
      have k0 := cstep k0 hB
      have k1 := cstep k1 hB
      clear hB
      go_wp2_with fail
      refine (H3.out _ HB3.out).mono ?_
      rintro e w4 ⟨rfl, hB⟩
      have HB4 := hid (bstep HB3.out hB)
      have k0 := cstep k0 hB
      have k1 := cstep k1 hB
      clear hB
      go_wp2_with fail
      refine (H4.out _ HB4.out).mono ?_
      rintro e w5 ⟨rfl, hB⟩
      have HB5 := hid (bstep HB4.out hB)
      have k0 := cstep k0 hB
      have k1 := cstep k1 hB
      clear hB
      go_wp2_with fail
      refine (H5.out _ HB5.out).mono ?_
      rintro e w6 ⟨rfl, hB⟩
      have HB6 := hid (bstep HB5.out hB)
      have k0 := cstep k0 hB
      have k1 := cstep k1 hB
      clear hB
      go_wp2_with fail
      refine (H6.out _ HB6.out).mono ?_
      rintro e w7 ⟨rfl, hB⟩
      have HB7 := hid (bstep HB6.out hB)
      have k0 := cstep k0 hB
      have k1 := cstep k1 hB
      clear hB
      go_wp2_with fail
      refine (H7.out _ HB7.out).mono ?_
      rintro e w8 hN
      have hB := hN.below
      have HB8 := hid (bstep HB7.out hB)
      have k0 := cstep k0 hB; have k1 := cstep k1 hB
      clear hB
      by_cases h0 : v7 = 0
      · obtain ⟨xs, xa, xc, rfl, hI, _, hkw, haf⟩ := hN.good (Hv7.out.symm.trans h0)
        obtain ⟨g1, g2, g3, g4, g5⟩ := Hgood.out xs h0 hkw haf
        have HI := hid hI
        have HV3 := hid g4; have HV3b := hid g5
        subst h0
        have hxl : ¬ (16 : Int) < (xs.length : Int) := by omega
        have HXl := hid (show xs.length ≤ 1000000 by omega)
        have G2 := hid g2; have G3 := hid g3
        clear hN hI hkw haf g1 g2 g3 g4 g5
        go_wp2_with fail
        refine (H8.out _ HB8.out).mono ?_
        rintro e w9 ⟨rfl, hB⟩
        have HB9 := hid (bstep HB8.out hB)
        have k0 := cstep k0 hB
        have k1 := cstep k1 hB
        have HI := hid (HI.out.mono hB)
        clear hB
        go_wp2_with fail
        refine (H9.out xa xc xs _ HB9.out HI.out HXl.out).mono ?_
        rintro e w10 ⟨rfl, hB⟩
        have HB10 := hid (bstep HB9.out hB)
        rw [G2.out, G3.out]
        have es : IntKind.i64.wrap (v3 - 1) = v3 - 1 := wrap_i64_of (by have := HV3.out; have := HV3b.out; omega) (by have := HV3.out; have := HV3b.out; omega)
        have e8 : (v3 - 1 == v3 - 1) = true := by simp
        clear hB
        go_wp2_with fail
        refine (HW.out _).mono ?_
        rintro e w11 ⟨rfl, hB⟩
        have HB11 := hid (bstep HB10.out hB)
        clear hB
        go_wp2
        go_ret
        exact ⟨rfl, bstep HB0.out HB11.out⟩
      · have hbad := hN.bad (fun h => h0 (Hv7.out.trans h))
        subst hbad
        rw [← Hv7.out]
        have b7 : (v7 != 0) = true := by simpa using h0
        clear hN h0
        go_wp2_with fail
        refine (H8.out _ HB8.out).mono ?_
        rintro e w9 ⟨rfl, hB⟩
        have HB9 := hid (bstep HB8.out hB)
        have k0 := cstep k0 hB
        have k1 := cstep k1 hB
        clear hB
        go_wp2_with fail
        refine (HW.out _).mono ?_
        rintro e w10 ⟨rfl, hB⟩
        have HB10 := hid (bstep HB9.out hB)
        clear hB
        go_wp2
        go_ret
        exact ⟨rfl, bstep HB0.out HB10.out⟩
end

end Go.Proofs.Ytelgbjfgmpkepaa
