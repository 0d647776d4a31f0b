/- The law SlugPlans. -/
import Derived.Test.YtelgbjfgmpkepaaKT
namespace Go.Proofs.Ytelgbjfgmpkepaa
open Go.RowKit Go.Shelf

section
variable (pa : Option Addr) (pc : Nat) (ps : List (List Int)) (w : World)
set_option maxRecDepth 100000 in
set_option maxHeartbeats 1000000 in
theorem long_any (hp : RowsAt w pa ps) : Calls Try.prog 29 #[.slice pa ps.length pc] w (TellB w (longB ps)) := by
  unfold TellB
  obtain ⟨r, hr⟩ : ∃ r, r = longB ps := ⟨_, rfl⟩
  rw [← hr]
  have Hr := hid hr
  have Hp := hid hp
  clear hr hp
  go_enter Try.func29, Try.ntmps29
  by_cases h9 : 9 < ps.length
  · have b1 : (9 : Int) < (ps.length : Int) := by omega
    have Hr2 := hid (Hr.out.trans (show longB ps = true by unfold longB; rw [decide_eq_true h9]; rfl))
    clear h9
    go_wp2
    go_ret
    exact ⟨by rw [Hr2.out]; rfl, Below.refl _ _⟩
  · have b1 : ¬ (9 : Int) < (ps.length : Int) := by omega
    have Hr2 := hid (Hr.out.trans (longB_is h9))
    go_wp2
    go_loopw [3, 4] (fun m i wr => ∃ k : Nat, k ≤ ps.length ∧ i = .int .i64 (k : Int) ∧ m = .int .i64 ((maxTo ps k : Nat) : Int) ∧ wr = w) (fun _ i _ => ps.length - (intOf i).toNat)
    case atStart => exact ⟨0, Nat.zero_le _, rfl, rfl, rfl⟩
    case round =>
      obtain ⟨k, hk, rfl, rfl, rfl⟩ := hrel
      obtain ⟨m, hm⟩ : ∃ m, m = maxTo ps k := ⟨_, rfl⟩
      rw [← hm]
      by_cases hlt : k < ps.length
      · have hI : (k : Int) < (ps.length : Int) := by omega
        have e1 : IntKind.i64.wrap ((k : Int) + 1) = (k : Int) + 1 := wrap_i64_of (by omega) (by omega)
        obtain ⟨b, off, ra, rc, rfl, hc, hr, _⟩ := Hp.out.at hlt
        have hst : maxTo ps (k + 1) = max m (nthL ps k).length := by rw [hm]; rfl
        obtain ⟨n, hn⟩ : ∃ n, n = (nthL ps k).length := ⟨_, rfl⟩
        rw [← hn] at hst hc
        have Hmx := hid (show (if m < n then (n : Int) else (m : Int)) = ((maxTo ps (k + 1) : Nat) : Int) by rw [hst]; split <;> omega)
        clear hst hm hn hr hk h9
        go_wp2
        exact ⟨⟨k + 1, hlt, by go_num, by rw [Hmx.out], trivial⟩, by simp [intOf]; omega⟩
      · have hI : ¬ (k : Int) < (ps.length : Int) := by omega
        obtain rfl : k = ps.length := by omega
        have Hr3 := Hr2.out
        rw [← hm] at Hr3
        by_cases h16 : 16 < m
        · have b3 : (16 : Int) < (m : Int) := by omega
          rw [decide_eq_true h16] at Hr3
          have Hr4 := hid Hr3
          clear Hr3 h16 hm hk hlt h9
          go_wp2
          go_ret
          exact ⟨by rw [Hr4.out]; rfl, Below.refl _ _⟩
        · have b3 : ¬ (16 : Int) < (m : Int) := by omega
          rw [decide_eq_false h16] at Hr3
          have Hr4 := hid Hr3
          clear Hr3 h16 hm hk hlt h9
          go_wp2
          go_ret
          exact ⟨by rw [Hr4.out]; rfl, Below.refl _ _⟩
end
theorem longB_false {ps : List (List Int)} (h : longB ps = false) : ps.length ≤ 9 ∧ ∀ p ∈ ps, p.length ≤ 16 := by
  unfold longB at h
  rw [Bool.or_eq_false_iff] at h
  refine ⟨by have := of_decide_eq_false h.1; omega, fun p hp => ?_⟩
  have := List.any_eq_false.1 h.2 p hp
  simp at this
  omega
theorem tdVal_len (K : Kn) (ps : List (List Int)) (rs : List Int) : (tdVal K ps rs).length ≤ 2 * K.cop.length + 1 := by
  have := casesOf_len K
  unfold tdVal
  split
  · unfold toldL
    exact Nat.le_trans (List.length_filter_le ..) this
  · simp
section
variable (ka : Option Addr) (kc : Nat) (K : Kn) (pa : Option Addr) (pc : Nat) (ps : List (List Int)) (ra : Option Addr) (rc : Nat) (rs : List Int) (w : World)
set_option maxRecDepth 100000 in
set_option maxHeartbeats 8000000 in
theorem slugPlans_c (hworks : WorksC) (hk : KnAt w ka K) (hp : RowsAt w pa ps) (hr : IntsAt w ra rs) : Calls Try.prog 5 #[.agg #[.slice ka K.cop.length kc, .bool K.none], .slice pa ps.length pc, .slice ra rs.length rc] w (TellB w true) := by
  have HW := hid hworks
  obtain ⟨V, hV, hB0, k0, k1⟩ := box1 w (.slice ka K.cop.length kc) (.bool K.none) 24
  have hkV := hk.mono hB0
  have HB0 := hid hB0; have HV := hid hV; have HV0 := hid (Below.refl V.heap.size V)
  have K0 := hid k0; have K1 := hid k1
  have hpV := hp.mono hB0
  have hrV := hr.mono hB0
  have HG := hid (great_15 ka kc K V hkV)
  have HL := hid fun (w' : World) (h : Below V.heap.size V w') => long_any pa pc ps w' (hpV.mono h)
  unfold WorksC TellB at *
  by_cases hg : 16 < K.cop.length
  · rw [decide_eq_true hg] at HG
    clear hworks hk hV hB0 hkV hg hp hr hpV hrV
    go_enter Try.func5, Try.ntmps5
    go_upto_region 1 with (fail)
    rw [← HV.out]
    go_wp2_with fail
    refine (HG.out).mono ?_
    rintro e w1 ⟨rfl, hB⟩
    have HB1 := hid (bstep HV0.out hB)
    clear hB
    go_wp2_with fail
    refine (HW.out _).mono ?_
    rintro e w2 ⟨rfl, hB⟩
    have HB2 := hid (bstep HB1.out hB)
    clear hB
    go_wp2
    go_ret
    exact ⟨rfl, bstep HB0.out HB2.out⟩
  · rw [decide_eq_false hg] at HG
    cases hlg : longB ps with
    | true =>
      rw [hlg] at HL
      clear hworks hk hV hB0 hkV hg hp hr hpV hrV hlg
      go_enter Try.func5, Try.ntmps5
      go_upto_region 1 with (fail)
      rw [← HV.out]
      go_wp2_with fail
      refine (HG.out).mono ?_
      rintro e w1 ⟨rfl, hB⟩
      have HB1 := hid (bstep HV0.out hB)
      clear hB
      go_wp2_with fail
      refine (HL.out _ HB1.out).mono ?_
      rintro e w2 ⟨rfl, hB⟩
      have HB2 := hid (bstep HB1.out hB)
      clear hB
      go_wp2_with fail
      refine (HW.out _).mono ?_
      rintro e w3 ⟨rfl, hB⟩
      have HB3 := hid (bstep HB2.out hB)
      clear hB
      go_wp2
      go_ret
      exact ⟨rfl, bstep HB0.out HB3.out⟩
    | false =>
      rw [hlg] at HL
      obtain ⟨hl9, hl16⟩ := longB_false hlg
      by_cases h9 : 9 < rs.length
      · have b1 : (9 : Int) < (rs.length : Int) := by omega
        clear hworks hk hV hB0 hkV hg hp hr hpV hrV hlg h9 hl9 hl16
        go_enter Try.func5, Try.ntmps5
        go_upto_region 1 with (fail)
        rw [← HV.out]
        go_wp2_with fail
        refine (HG.out).mono ?_
        rintro e w1 ⟨rfl, hB⟩
        have HB1 := hid (bstep HV0.out hB)
        clear hB
        go_wp2_with fail
        refine (HL.out _ HB1.out).mono ?_
        rintro e w2 ⟨rfl, hB⟩
        have HB2 := hid (bstep HB1.out hB)
        clear hB
        go_wp2_with fail
        refine (HW.out _).mono ?_
        rintro e w3 ⟨rfl, hB⟩
        have HB3 := hid (bstep HB2.out hB)
        clear hB
        go_wp2
        go_ret
        exact ⟨rfl, bstep HB0.out HB3.out⟩
      · have b1 : ¬ (9 : Int) < (rs.length : Int) := by omega
        have hll : ∀ p ∈ ps, p.length ≤ 1000000 := fun p hp => by have := hl16 p hp; omega
        have H1 := hid fun (w' : World) (h : Below V.heap.size V w') => alike_30 ka kc K pa pc ps w' (hkV.mono h) (by omega) (hpV.mono h) (by omega) hll
        have H2 := hid fun (w' : World) (h : Below V.heap.size V w') => rAlike_c ka kc K pa pc ps w' (hkV.mono h) (by omega) (hpV.mono h) (by omega) hll
        have H3 := hid fun (w' : World) (h : Below V.heap.size V w') => told_32 ka kc K pa pc ps ra rc rs w' (hkV.mono h) (by omega) (hpV.mono h) (by omega) hll (hrV.mono h) (by omega)
        have H4 := hid fun (w' : World) (h : Below V.heap.size V w') => rTold_33 ka kc K pa pc ps ra rc rs w' (hkV.mono h) (by omega) (hpV.mono h) (by omega) hll (hrV.mono h) (by omega)
        have H5 := hid fun (w' : World) (h : Below V.heap.size V w') => checkPlan_c ka kc K pa pc ps w' (hkV.mono h) (by omega) (hpV.mono h) (by omega) hll
        have H6 := hid fun (w' : World) (h : Below V.heap.size V w') => rCheckPlan_c ka kc K pa pc ps w' (hkV.mono h) (by omega) (hpV.mono h) (by omega) hll
        have Hlen := hid (show (tdVal K ps rs).length ≤ 1000000 by have := tdVal_len K ps rs; omega)
        unfold AlC at H1 H2
        obtain ⟨T, hT⟩ : ∃ x, x = tdVal K ps rs := ⟨_, rfl⟩
        rw [← hT] at H3 H4 Hlen
        obtain ⟨⟨⟨x1, x2⟩, ⟨y1, y2⟩⟩, ho⟩ : ∃ x, x = (alO K ps).getD ((0, 0), (0, 0)) := ⟨_, rfl⟩
        rw [← ho] at H1 H2
        obtain ⟨v1, hv1⟩ : ∃ x, x = alErr K ps := ⟨_, rfl⟩
        obtain ⟨v2, hv2⟩ : ∃ x, x = tdErr K ps rs := ⟨_, rfl⟩
        obtain ⟨v3, hv3⟩ : ∃ x, x = cpErr K ps := ⟨_, rfl⟩
        rw [← hv1] at H1 H2
        rw [← hv2] at H3 H4
        rw [← hv3] at H5 H6
        simp only at H1 H2
        unfold TdC at H3 H4
        unfold TellI at H5 H6
        clear hworks hk hV hB0 hkV hg hp hr hpV hrV hlg h9 hl9 hl16 hll hT ho hv1 hv2 hv3
        go_enter Try.func5, Try.ntmps5
        go_upto_region 1 with (fail)
        rw [← HV.out]
        go_wp2_with fail
        refine (HG.out).mono ?_
        rintro e w1 ⟨rfl, hB⟩
        have HB1 := hid (bstep HV0.out hB)
        have k0 := cstep k0 hB
        have k1 := cstep k1 hB
        clear hB
        go_wp2_with fail
        refine (HL.out _ HB1.out).mono ?_
        rintro e w2 ⟨rfl, hB⟩
        have HB2 := hid (bstep HB1.out hB)
        have k0 := cstep k0 hB
        have k1 := cstep k1 hB
        clear hB
        go_wp2_with fail
        refine (H1.out _ HB2.out).mono ?_
        rintro e w3 ⟨rfl, hB⟩
        have HB3 := hid (bstep HB2.out hB)
        have k0 := cstep k0 hB
        have k1 := cstep k1 hB
        clear hB
        go_upto_region 4 with (fail)
        obtain ⟨A1, hA1⟩ : ∃ y, y = w3.alloc (.cells #[.int .i64 x1, .int .i64 x2] 34) := ⟨_, rfl⟩
        obtain ⟨w4, hY⟩ : ∃ y, y = A1.alloc (.cells #[.int .i64 y1, .int .i64 y2] 34) := ⟨_, rfl⟩
        have zA : A1.heap.size = w3.heap.size + 1 := by rw [hA1]; simp
        have hBa : Below w3.heap.size w3 A1 := by rw [hA1]; exact bnew _ _
        have hBb : Below A1.heap.size A1 w4 := by rw [hY]; exact bnew _ _
        have hB := bstep hBa hBb
        have HP := hid (V2At.mono (show V2At A1 w3.heap.size 34 (.int .i64 x1) (.int .i64 x2) by rw [hA1]; exact heap_alloc_new _ _) hBb)
        have HQ := hid (show V2At w4 A1.heap.size 34 (.int .i64 y1) (.int .i64 y2) by rw [hY]; exact heap_alloc_new _ _)
        rw [zA] at HQ
        rw [← hA1, ← hY]
        have HB4 := hid (bstep HB3.out hB)
        have k0 := cstep k0 hB; have k1 := cstep k1 hB
        obtain ⟨p1, hp1⟩ : ∃ x, x = w3.heap.size := ⟨_, rfl⟩
        obtain ⟨p2, hp2⟩ : ∃ x, x = w3.heap.size + 1 := ⟨_, rfl⟩
        rw [← hp2] at HQ ⊢
        rw [← hp1] at HP ⊢
        clear hB hY hA1 zA hBa hBb hp1 hp2
        go_wp2_with fail
        refine (H2.out _ HB4.out).mono ?_
        rintro e w5 ⟨rfl, hB⟩
        have HB5 := hid (bstep HB4.out hB)
        have k0 := cstep k0 hB
        have k1 := cstep k1 hB
        have HP := hid (HP.out.mono hB)
        have HQ := hid (HQ.out.mono hB)
        clear hB
        go_upto_region 5 with (fail)
        obtain ⟨A1, hA1⟩ : ∃ y, y = w5.alloc (.cells #[.int .i64 x1, .int .i64 x2] 34) := ⟨_, rfl⟩
        obtain ⟨w6, hY⟩ : ∃ y, y = A1.alloc (.cells #[.int .i64 y1, .int .i64 y2] 34) := ⟨_, rfl⟩
        have zA : A1.heap.size = w5.heap.size + 1 := by rw [hA1]; simp
        have hBa : Below w5.heap.size w5 A1 := by rw [hA1]; exact bnew _ _
        have hBb : Below A1.heap.size A1 w6 := by rw [hY]; exact bnew _ _
        have hB := bstep hBa hBb
        have HR := hid (V2At.mono (show V2At A1 w5.heap.size 34 (.int .i64 x1) (.int .i64 x2) by rw [hA1]; exact heap_alloc_new _ _) hBb)
        have HS := hid (show V2At w6 A1.heap.size 34 (.int .i64 y1) (.int .i64 y2) by rw [hY]; exact heap_alloc_new _ _)
        rw [zA] at HS
        rw [← hA1, ← hY]
        have HB6 := hid (bstep HB5.out hB)
        have k0 := cstep k0 hB; have k1 := cstep k1 hB
        have HP := hid (HP.out.mono hB)
        have HQ := hid (HQ.out.mono hB)
        obtain ⟨p3, hp1⟩ : ∃ x, x = w5.heap.size := ⟨_, rfl⟩
        obtain ⟨p4, hp2⟩ : ∃ x, x = w5.heap.size + 1 := ⟨_, rfl⟩
        rw [← hp2] at HS ⊢
        rw [← hp1] at HR ⊢
        clear hB hY hA1 zA hBa hBb hp1 hp2
        go_wp2_with fail
        refine (H3.out _ HB6.out).mono ?_
        rintro e w7 ⟨ao, ca, rfl, hx, hB⟩
        have HB7 := hid (bstep HB6.out hB)
        have k0 := cstep k0 hB
        have k1 := cstep k1 hB
        have HP := hid (HP.out.mono hB)
        have HQ := hid (HQ.out.mono hB)
        have HR := hid (HR.out.mono hB)
        have HS := hid (HS.out.mono hB)
        clear hB
        have HX := hid hx
        clear hx
        go_wp2_with fail
        refine (H4.out _ HB7.out).mono ?_
        rintro e w8 ⟨bo, cb, rfl, hy, hB⟩
        have HB8 := hid (bstep HB7.out hB)
        have k0 := cstep k0 hB
        have k1 := cstep k1 hB
        have HP := hid (HP.out.mono hB)
        have HQ := hid (HQ.out.mono hB)
        have HR := hid (HR.out.mono hB)
        have HS := hid (HS.out.mono hB)
        have HX := hid (HX.out.mono hB)
        clear hB
        have HY := hid hy
        clear hy
        have j0 := fun s : Later w8 => cstep k0 s.h
        have j1 := fun s : Later w8 => cstep k1 s.h
        have jp0 := fun s : Later w8 => cstep HP.out.c0 s.h
        have jp1 := fun s : Later w8 => cstep HP.out.c1 s.h
        have jq0 := fun s : Later w8 => cstep HQ.out.c0 s.h
        have jq1 := fun s : Later w8 => cstep HQ.out.c1 s.h
        have jr0 := fun s : Later w8 => cstep HR.out.c0 s.h
        have jr1 := fun s : Later w8 => cstep HR.out.c1 s.h
        have js0 := fun s : Later w8 => cstep HS.out.c0 s.h
        have js1 := fun s : Later w8 => cstep HS.out.c1 s.h
        have A1 := hid fun s : Later w8 => H5.out s.w' (bstep HB8.out s.h)
        have A2 := hid fun s : Later w8 => H6.out s.w' (bstep HB8.out s.h)
        have A3 := hid fun s : Later w8 => k_cs T ao bo _ _ ca cb s.w' rfl rfl (HX.out.mono s.h) (HY.out.mono s.h) Hlen.out
        have A4 := hid fun s : Later w8 => HW.out s.w'
        unfold TellB at A3
        have E1 : (v1 == v1) = true := by simp
        have E2 : (v2 == v2) = true := by simp
        have E3 : (v3 == v3) = true := by simp
        have E4 : (x1 == x1) = true := by simp
        have E5 : (x2 == x2) = true := by simp
        have E6 : (y1 == y1) = true := by simp
        have E7 : (y2 == y2) = true := by simp
        clear k0 k1
        go_upto_region 7 with (fail)
        refine wp_region_later (by kernel_rfl) (by kernel_rfl) ?_
        repeat (go_big_quiet_step ((first | (go_at_call 34; with_reducible exact callsLater (A1.out _)) | (go_at_call 35; with_reducible exact callsLater (A2.out _)) | (go_at_call 21; with_reducible exact callsLater (A3.out _)) | (go_at_call 16; with_reducible exact callsLater (A4.out _)))))
        refine wpQuiet_nil ?_
        rintro w9 ⟨⟨_, hB⟩, rfl⟩
        have HB9 := hid (bstep HB8.out hB)
        clear hB j0 j1 jp0 jp1 jq0 jq1 jr0 jr1 js0 js1
        go_wp2
        go_ret
        exact ⟨rfl, bstep HB0.out HB9.out⟩
end

end Go.Proofs.Ytelgbjfgmpkepaa
