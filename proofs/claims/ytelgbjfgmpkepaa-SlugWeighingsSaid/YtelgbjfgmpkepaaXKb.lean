/- The law SlugWeighings. -/
import Derived.Test.YtelgbjfgmpkepaaKT
namespace Go.Proofs.Ytelgbjfgmpkepaa
open Go.RowKit Go.Shelf

theorem lnVal_len (K : Kn) (ws : List Int) (r : Int) : (lnVal K ws r).cop.length ≤ K.cop.length := by
  unfold lnVal
  split
  · rw [leftK_len]; exact Nat.le_refl _
  · simp
section
variable (ka : Option Addr) (kc : Nat) (K : Kn) (wa : Option Addr) (wc : Nat) (ws : List Int) (c : Int × Int) (r : Int) (w : World)
set_option maxRecDepth 100000 in
set_option maxHeartbeats 8000000 in
theorem slugWeighings_c (hworks : WorksC) (hk : KnAt w ka K) (hw : IntsAt w wa ws) (hnil : wa = none → wc = 0) : Calls Try.prog 4 #[.agg #[.slice ka K.cop.length kc, .bool K.none], .slice wa ws.length wc, .agg #[.int .i64 c.1, .int .i64 c.2], .int .i64 r] w (TellB w true) := by
  have HW := hid hworks
  obtain ⟨V, hV, hB0, k0, k1, k2, k3⟩ := box2 w (.slice ka K.cop.length kc) (.bool K.none) (.int .i64 c.1) (.int .i64 c.2) 24 34
  have hkV := hk.mono hB0
  have HB0 := hid hB0; have HV := hid hV; have HV0 := hid (Below.refl V.heap.size V)
  have K0 := hid k0; have K1 := hid k1; have K2 := hid k2; have K3 := hid k3
  have hwV := hw.mono hB0
  have HG := hid (great_15 ka kc K V hkV)
  unfold WorksC TellB at *
  by_cases hg : 16 < K.cop.length
  · rw [decide_eq_true hg] at HG
    clear hworks hk hV hB0 hkV hg hw hwV
    go_enter Try.func4, Try.ntmps4
    go_upto_region 1 with (fail)
    rw [← HV.out]
    go_wp2_with fail
    refine (HG.out).mono ?_
    rintro e w1 ⟨rfl, hB⟩
    have HB1 := hid (bstep HV0.out hB)
    clear hB
    go_wp2_with fail
    refine (HW.out _).mono ?_
    rintro e w2 ⟨rfl, hB⟩
    have HB2 := hid (bstep HB1.out hB)
    clear hB
    go_wp2
    go_ret
    exact ⟨rfl, bstep HB0.out HB2.out⟩
  · rw [decide_eq_false hg] at HG
    by_cases h16 : 16 < ws.length
    · have b1 : (16 : Int) < (ws.length : Int) := by omega
      clear hworks hk hV hB0 hkV hg hw hwV h16
      go_enter Try.func4, Try.ntmps4
      go_upto_region 1 with (fail)
      rw [← HV.out]
      go_wp2_with fail
      refine (HG.out).mono ?_
      rintro e w1 ⟨rfl, hB⟩
      have HB1 := hid (bstep HV0.out hB)
      clear hB
      go_wp2_with fail
      refine (HW.out _).mono ?_
      rintro e w2 ⟨rfl, hB⟩
      have HB2 := hid (bstep HB1.out hB)
      clear hB
      go_wp2
      go_ret
      exact ⟨rfl, bstep HB0.out HB2.out⟩
    · have b1 : ¬ (16 : Int) < (ws.length : Int) := by omega
      have hl : ws.length ≤ 1000000 := by omega
      have H1 := hid fun (w' : World) (h : Below V.heap.size V w') => result_22 ka kc K wa wc ws c w' (hkV.mono h) (by omega) (hwV.mono h) hl hnil
      have H2 := hid fun (w' : World) (h : Below V.heap.size V w') => rResult_23 ka kc K wa wc ws c w' (hkV.mono h) (by omega) (hwV.mono h) hl
      have H3 := hid fun (w' : World) (h : Below V.heap.size V w') => learned_24 ka kc K wa wc ws r w' (hkV.mono h) (by omega) (hwV.mono h) hl hnil
      have H4 := hid fun (w' : World) (h : Below V.heap.size V w') => rLearned_25 ka kc K wa wc ws r w' (hkV.mono h) (by omega) (hwV.mono h) hl
      have H5 := hid fun (w' : World) (h : Below V.heap.size V w') => checkWeighing_c ka kc K wa wc ws w' (hkV.mono h) (by omega) (hwV.mono h) hl hnil
      have H6 := hid fun (w' : World) (h : Below V.heap.size V w') => rCheckWeighing_c ka kc K wa wc ws w' (hkV.mono h) (by omega) (hwV.mono h) hl
      have Hlen := hid (show (lnVal K ws r).cop.length ≤ 1000000 by have := lnVal_len K ws r; omega)
      obtain ⟨C, hC⟩ : ∃ C, C = lnVal K ws r := ⟨_, rfl⟩
      rw [← hC] at H3 H4 Hlen
      obtain ⟨v1, hv1⟩ : ∃ x, x = resVal K ws c := ⟨_, rfl⟩
      obtain ⟨v2, hv2⟩ : ∃ x, x = resErr K ws c := ⟨_, rfl⟩
      obtain ⟨v3, hv3⟩ : ∃ x, x = lnErr K ws r := ⟨_, rfl⟩
      obtain ⟨v4, hv4⟩ : ∃ x, x = kwErr K ws := ⟨_, rfl⟩
      rw [← hv1, ← hv2] at H1 H2
      rw [← hv3] at H3 H4
      rw [← hv4] at H5 H6
      unfold TellIE at H1 H2
      unfold TellI at H5 H6
      unfold LnC at H3 H4
      clear hworks hk hV hB0 hkV hg hw hwV h16 hl hC hv1 hv2 hv3 hv4
      go_enter Try.func4, Try.ntmps4
      go_upto_region 1 with (fail)
      rw [← HV.out]
      go_wp2_with fail
      refine (HG.out).mono ?_
      rintro e w1 ⟨rfl, hB⟩
      have HB1 := hid (bstep HV0.out hB)
      have k0 := cstep k0 hB
      have k1 := cstep k1 hB
      have k2 := cstep k2 hB
      have k3 := cstep k3 hB
      clear hB
      go_wp2_with fail
      refine (H1.out _ HB1.out).mono ?_
      rintro e w2 ⟨rfl, hB⟩
      have HB2 := hid (bstep HB1.out hB)
      have k0 := cstep k0 hB
      have k1 := cstep k1 hB
      have k2 := cstep k2 hB
      have k3 := cstep k3 hB
      clear hB
      go_wp2_with fail
      refine (H2.out _ HB2.out).mono ?_
      rintro e w3 ⟨rfl, hB⟩
      have HB3 := hid (bstep HB2.out hB)
      have k0 := cstep k0 hB
      have k1 := cstep k1 hB
      have k2 := cstep k2 hB
      have k3 := cstep k3 hB
      clear hB
      go_wp2_with fail
      refine (H3.out _ HB3.out).mono ?_
      rintro e w4 ⟨xa, rfl, hx, hB⟩
      have HB4 := hid (bstep HB3.out hB)
      have k0 := cstep k0 hB
      have k1 := cstep k1 hB
      have k2 := cstep k2 hB
      have k3 := cstep k3 hB
      clear hB
      have HX := hid hx
      clear hx
      go_upto_region 6 with (fail)
      obtain ⟨w5, hY⟩ : ∃ y, y = w4.alloc (.cells #[.slice xa C.cop.length C.cop.length, .bool C.none] 24) := ⟨_, rfl⟩
      have hB : Below w4.heap.size w4 w5 := by rw [hY]; exact bnew _ _
      have HP := hid (show V2At w5 w4.heap.size 24 (.slice xa C.cop.length C.cop.length) (.bool C.none) by rw [hY]; exact heap_alloc_new _ _)
      rw [← hY]
      have HB5 := hid (bstep HB4.out hB)
      have HX := hid (HX.out.mono hB)
      have k0 := cstep k0 hB; have k1 := cstep k1 hB
      obtain ⟨p1, hp1⟩ : ∃ x, x = w4.heap.size := ⟨_, rfl⟩
      rw [← hp1] at HP ⊢
      clear hB hY hp1 k2 k3
      go_wp2_with fail
      refine (H4.out _ HB5.out).mono ?_
      rintro e w6 ⟨ya, rfl, hy, hB⟩
      have HB6 := hid (bstep HB5.out hB)
      have k0 := cstep k0 hB
      have k1 := cstep k1 hB
      have HX := hid (HX.out.mono hB)
      have HP := hid (HP.out.mono hB)
      clear hB
      have HY := hid hy
      clear hy
      go_upto_region 7 with (fail)
      obtain ⟨w7, hY⟩ : ∃ y, y = w6.alloc (.cells #[.slice ya C.cop.length C.cop.length, .bool C.none] 24) := ⟨_, rfl⟩
      have hB : Below w6.heap.size w6 w7 := by rw [hY]; exact bnew _ _
      have HQ := hid (show V2At w7 w6.heap.size 24 (.slice ya C.cop.length C.cop.length) (.bool C.none) by rw [hY]; exact heap_alloc_new _ _)
      rw [← hY]
      have HB7 := hid (bstep HB6.out hB)
      have HX := hid (HX.out.mono hB); have HY := hid (HY.out.mono hB); have HP := hid (HP.out.mono hB)
      have k0 := cstep k0 hB; have k1 := cstep k1 hB
      obtain ⟨p2, hp2⟩ : ∃ x, x = w6.heap.size := ⟨_, rfl⟩
      rw [← hp2] at HQ ⊢
      clear hB hY hp2
      have j0 := fun s : Later w7 => cstep k0 s.h
      have j1 := fun s : Later w7 => cstep k1 s.h
      have j2 := fun s : Later w7 => cstep HP.out.c0 s.h
      have j3 := fun s : Later w7 => cstep HP.out.c1 s.h
      have j4 := fun s : Later w7 => cstep HQ.out.c0 s.h
      have j5 := fun s : Later w7 => cstep HQ.out.c1 s.h
      have A1 := hid fun s : Later w7 => H5.out s.w' (bstep HB7.out s.h)
      have A2 := hid fun s : Later w7 => H6.out s.w' (bstep HB7.out s.h)
      have A3 := hid fun s : Later w7 => k_sm C xa ya _ _ C.cop.length C.cop.length C.none C.none s.w' rfl rfl rfl rfl (HX.out.mono s.h) (HY.out.mono s.h) Hlen.out
      have A4 := hid fun s : Later w7 => HW.out s.w'
      unfold TellB at A3
      have E1 : (v1 == v1) = true := by simp
      have E2 : (v2 == v2) = true := by simp
      have E3 : (v3 == v3) = true := by simp
      have E4 : (v4 == v4) = true := by simp
      clear k0 k1
      refine wp_region_later (by kernel_rfl) (by kernel_rfl) ?_
      repeat (go_big_quiet_step ((first | (go_at_call 26; with_reducible exact callsLater (A1.out _)) | (go_at_call 27; with_reducible exact callsLater (A2.out _)) | (go_at_call 28; with_reducible exact callsLater (A3.out _)) | (go_at_call 16; with_reducible exact callsLater (A4.out _)))))
      refine wpQuiet_nil ?_
      rintro w8 ⟨⟨_, hB⟩, rfl⟩
      have HB8 := hid (bstep HB7.out hB)
      clear hB j0 j1 j2 j3 j4 j5
      go_wp2
      go_ret
      exact ⟨rfl, bstep HB0.out HB8.out⟩
end

end Go.Proofs.Ytelgbjfgmpkepaa
