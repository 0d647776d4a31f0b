/- The law SlugEither. -/
import Derived.Test.YtelgbjfgmpkepaaXQg
import Derived.Test.YtelgbjfgmpkepaaKT
namespace Go.Proofs.Ytelgbjfgmpkepaa
open Go.RowKit Go.Shelf

section
variable (ka : Option Addr) (kc : Nat) (K : Kn) (mn : Nat) (ba : Option Addr) (bc : Nat) (bs : List Nat) (w : World)
set_option maxRecDepth 100000 in
set_option maxHeartbeats 16000000 in
theorem slugEither_c (hworks : WorksC) (hk : KnAt w ka K) (hmn : mn < 256) (hb : BytesAt w ba bs) : Calls Try.prog 7 #[.agg #[.slice ka K.cop.length kc, .bool K.none], .int .u8 (mn : Int), .slice ba bs.length bc] w (TellB w true) := by
  have HW := hid hworks
  obtain ⟨V, hV, hB0, k0, k1⟩ := box1 w (.slice ka K.cop.length kc) (.bool K.none) 24
  have hkV := hk.mono hB0
  have HB0 := hid hB0; have HV := hid hV; have HV0 := hid (Below.refl V.heap.size V)
  have K0 := hid k0; have K1 := hid k1
  have hbV := hb.mono hB0
  have HF := hid (fine_any ka kc K V hkV)
  unfold WorksC TellB at *
  by_cases hf : knErr K = 0
  · rw [decide_eq_true hf] at HF
    by_cases h100 : 100 < bs.length
    · have b1 : (100 : Int) < (bs.length : Int) := by omega
      clear hworks hk hV hB0 hkV hf hb hbV h100
      go_enter Try.func7, Try.ntmps7
      go_upto_region 1 with (fail)
      rw [← HV.out]
      go_wp2_with fail
      refine (HF.out).mono ?_
      rintro e w1 ⟨rfl, hB⟩
      have HB1 := hid (bstep HV0.out hB)
      clear hB
      go_wp2_with fail
      refine (HW.out _).mono ?_
      rintro e w2 ⟨rfl, hB⟩
      have HB2 := hid (bstep HB1.out hB)
      clear hB
      go_wp2
      go_ret
      exact ⟨rfl, bstep HB0.out HB2.out⟩
    · have b1 : ¬ (100 : Int) < (bs.length : Int) := by omega
      have hok := kok_iff.1 hf
      have hn12 := hok.n12
      obtain ⟨m, hm⟩ : ∃ m, m = mn % 7 := ⟨_, rfl⟩
      have h6 : m ≤ 6 := by omega
      have e1 : IntKind.i64.wrap (mn : Int) = (mn : Int) := wrap_i64_of (by omega) (by omega)
      have e2 : (mn : Int).tmod 7 = (m : Int) := by rw [hm]; exact tmod_nat _ 7
      have e2b : (mn : Int) % 7 = (m : Int) := by omega
      have law := either_law hok bs h6
      have hrow : ∀ p ∈ planTo K.cop.length bs m, WOk K.cop.length p := fun p hp => (planTo_mem hp).1
      have H45 := hid fun (w' : World) (h : Below V.heap.size V w') => planned_45 K.cop.length m ba bc bs w' (by omega) (by omega) (hbV.mono h) (by omega)
      obtain ⟨P, hP⟩ : ∃ P, P = planTo K.cop.length bs m := ⟨_, rfl⟩
      have hPl : P.length = m := by rw [hP]; exact planTo_len ..
      rw [← hP] at law hrow H45
      have hll : ∀ p ∈ P, p.length ≤ 1000000 := fun p hp => by rw [(hrow p hp).1]; omega
      have H34 := hid fun (pa : Option Addr) (pc : Nat) (w' : World) (h : Below V.heap.size V w') (hp : RowsAt w' pa P) => checkPlan_c ka kc K pa pc P w' (hkV.mono h) (by omega) hp (by omega) hll
      have H30 := hid fun (pa : Option Addr) (pc : Nat) (w' : World) (h : Below V.heap.size V w') (hp : RowsAt w' pa P) => alike_30 ka kc K pa pc P w' (hkV.mono h) (by omega) hp (by omega) hll
      have H36 := hid fun (w' : World) (h : Below V.heap.size V w') => bound_36 ka kc K w' (hkV.mono h) (by omega)
      have H38 := hid fun (w' : World) (h : Below V.heap.size V w') => needed_38 ka kc K w' (hkV.mono h) (by omega)
      have H46 := hid fun (w' : World) (h : Below V.heap.size V w') => casesOf_c ka kc K w' (hkV.mono h) (by omega) hok.cop
      have H48 := hid fun (pa : Option Addr) (pc : Nat) (x y u v : Int) (w' : World) (hp : RowsAt w' pa P) (ha : CaseOk K.cop.length (x, y)) (hb : CaseOk K.cop.length (u, v)) => tells_c pa pc P (x, y) (u, v) K.cop.length w' hp (by omega) hrow ha hb
      have hlen := casesOf_len K
      obtain ⟨L, hL⟩ : ∃ L, L = casesOf K := ⟨_, rfl⟩
      rw [← hL] at law H46 hlen
      have H47 := hid fun (la : Option Addr) (lc : Nat) (x y : Int) (w' : World) (hL : PlumbsAt w' la L) => place_c la lc L (x, y) w' hL (by omega)
      obtain ⟨lk, lne, lbd, lor⟩ := law
      rw [lk] at H36
      unfold RowsC at H45
      unfold TellI at H34 H47
      unfold AlC at H30
      unfold TellIE at H36 H38
      unfold ListC at H46
      unfold TellB at H48
      obtain ⟨v1, hv1⟩ : ∃ x, x = neVal K := ⟨_, rfl⟩
      obtain ⟨v2, hv2⟩ : ∃ x, x = neErr K := ⟨_, rfl⟩
      obtain ⟨v3, hv3⟩ : ∃ x, x = bdVal K := ⟨_, rfl⟩
      rw [← hv1, ← hv2] at H38
      rw [← hv3] at H36
      rw [← hv1, ← hv2, ← hv3] at lbd lor
      rw [← hv2] at lne
      rw [hPl] at H45 H34 H30 H48
      obtain ⟨n0, hn0⟩ : ∃ n, n = K.cop.length := ⟨_, rfl⟩
      rw [← hn0] at H38 H46 H36 H34 H30 H45 H48 k0 K0 HF HV lor
      rw [← hn0]
      have Hlne := hid lne; have Hlbd := hid lbd
      rcases lor with ⟨lo, l1, l2, l3, l4, l5⟩ | ⟨⟨x, y⟩, ⟨u, v⟩, lo, l1, l2, l3, l4, l5, l6, l7⟩
      · rw [lo, l2] at H30
        rw [l1] at H34
        subst l4
        have l6 := lbd rfl
        have c1 : ¬ v1 < v3 := by omega
        have L3 := l3
        have L5 := l5
        simp only [Option.getD_none] at H30
        clear hworks hk hV hB0 hkV hf hb hbV h100 hok hn12 lk lne lbd lo l1 l2 l3 l5 l6 hP hPl hL hll hrow hv1 hv2 hv3 hm h6 hn0 hlen hmn H46 H47 H48 Hlne Hlbd
        go_enter Try.func7, Try.ntmps7
        go_upto_region 1 with (fail)
        rw [← HV.out]
        go_wp2_with fail
        refine (HF.out).mono ?_
        rintro e w1 ⟨rfl, hB⟩
        have HB1 := hid (bstep HV0.out hB)
        have k0 := cstep k0 hB
        have k1 := cstep k1 hB
        clear hB
        go_wp2_with fail
        refine (H45.out _ HB1.out).mono ?_
        rintro e w2 ⟨ra, rc, rfl, hR, hB⟩
        have HB2 := hid (bstep HB1.out hB)
        have k0 := cstep k0 hB
        have k1 := cstep k1 hB
        clear hB
        have HRw := hid hR
        clear hR
        go_wp2_with fail
        refine (H34.out _ _ _ HB2.out HRw.out).mono ?_
        rintro e w3 ⟨rfl, hB⟩
        have HB3 := hid (bstep HB2.out hB)
        have k0 := cstep k0 hB
        have k1 := cstep k1 hB
        have HRw := hid (HRw.out.mono hB)
        clear hB
        go_wp2_with fail
        refine (H30.out _ _ _ HB3.out HRw.out).mono ?_
        rintro e w4 ⟨rfl, hB⟩
        have HB4 := hid (bstep HB3.out hB)
        have k0 := cstep k0 hB
        have k1 := cstep k1 hB
        have HRw := hid (HRw.out.mono hB)
        clear hB
        go_upto_region 6 with (fail)
        obtain ⟨A1, hA1⟩ : ∃ Y : World, Y = w4.alloc (.cells #[.int .i64 0, .int .i64 0] 34) := ⟨_, rfl⟩
        obtain ⟨w5, hY⟩ : ∃ Y : World, Y = A1.alloc (.cells #[.int .i64 0, .int .i64 0] 34) := ⟨_, rfl⟩
        have zA : A1.heap.size = w4.heap.size + 1 := by rw [hA1]; simp
        have hBa : Below w4.heap.size w4 A1 := by rw [hA1]; exact bnew _ _
        have hBb : Below A1.heap.size A1 w5 := by rw [hY]; exact bnew _ _
        have hB := bstep hBa hBb
        have HP := hid (V2At.mono (show V2At A1 w4.heap.size 34 (.int .i64 0) (.int .i64 0) by rw [hA1]; exact heap_alloc_new _ _) hBb)
        have HQ := hid (show V2At w5 A1.heap.size 34 (.int .i64 0) (.int .i64 0) by rw [hY]; exact heap_alloc_new _ _)
        rw [zA] at HQ
        rw [← hA1, ← hY]
        have HB5 := hid (bstep HB4.out hB)
        have k0 := cstep k0 hB; have k1 := cstep k1 hB
        have HRw := hid (HRw.out.mono hB)
        obtain ⟨p1, hp1⟩ : ∃ x, x = w4.heap.size := ⟨_, rfl⟩
        obtain ⟨p2, hp2⟩ : ∃ x, x = w4.heap.size + 1 := ⟨_, rfl⟩
        rw [← hp2] at HQ ⊢
        rw [← hp1] at HP ⊢
        clear hB hY hA1 zA hBa hBb hp1 hp2
        go_wp2_with fail
        refine (H36.out _ HB5.out).mono ?_
        rintro e w6 ⟨rfl, hB⟩
        have HB6 := hid (bstep HB5.out hB)
        have k0 := cstep k0 hB
        have k1 := cstep k1 hB
        clear hB
        go_wp2_with fail
        refine (H38.out _ HB6.out).mono ?_
        rintro e w7 ⟨rfl, hB⟩
        have HB7 := hid (bstep HB6.out hB)
        have k0 := cstep k0 hB
        have k1 := cstep k1 hB
        clear hB
        go_wp2_with fail
        refine (HW.out _).mono ?_
        rintro e w8 ⟨rfl, hB⟩
        have HB8 := hid (bstep HB7.out hB)
        clear hB
        go_wp2
        go_ret
        exact ⟨rfl, bstep HB0.out HB8.out⟩
      · rw [lo, l2] at H30
        rw [l1] at H34
        simp only [Option.getD_some] at H30
        obtain ⟨pi, hpi⟩ : ∃ q, q = place L (x, y) := ⟨_, rfl⟩
        obtain ⟨pj, hpj⟩ : ∃ q, q = place L (u, v) := ⟨_, rfl⟩
        rw [← hpi] at l3 l4
        rw [← hpj] at l4
        have Hpi := hid hpi; have Hpj := hid hpj; have Hsame := hid l5; have Hc1 := hid l6; have Hc2 := hid l7; have HPl := hid hPl
        clear hworks hk hV hB0 hkV hf hb hbV h100 hok hn12 lk lne lbd lo l1 l2 l5 l6 l7 hP hPl hL hll hrow hv1 hv2 hv3 hm h6 hn0 hlen hmn hpi hpj
        go_enter Try.func7, Try.ntmps7
        go_upto_region 1 with (fail)
        rw [← HV.out]
        go_wp2_with fail
        refine (HF.out).mono ?_
        rintro e w1 ⟨rfl, hB⟩
        have HB1 := hid (bstep HV0.out hB)
        have k0 := cstep k0 hB
        have k1 := cstep k1 hB
        clear hB
        go_wp2_with fail
        refine (H45.out _ HB1.out).mono ?_
        rintro e w2 ⟨ra, rc, rfl, hR, hB⟩
        have HB2 := hid (bstep HB1.out hB)
        have k0 := cstep k0 hB
        have k1 := cstep k1 hB
        clear hB
        have HRw := hid hR
        clear hR
        go_wp2_with fail
        refine (H34.out _ _ _ HB2.out HRw.out).mono ?_
        rintro e w3 ⟨rfl, hB⟩
        have HB3 := hid (bstep HB2.out hB)
        have k0 := cstep k0 hB
        have k1 := cstep k1 hB
        have HRw := hid (HRw.out.mono hB)
        clear hB
        go_wp2_with fail
        refine (H30.out _ _ _ HB3.out HRw.out).mono ?_
        rintro e w4 ⟨rfl, hB⟩
        have HB4 := hid (bstep HB3.out hB)
        have k0 := cstep k0 hB
        have k1 := cstep k1 hB
        have HRw := hid (HRw.out.mono hB)
        clear hB
        go_upto_region 6 with (fail)
        obtain ⟨A1, hA1⟩ : ∃ Y : World, Y = w4.alloc (.cells #[.int .i64 x, .int .i64 y] 34) := ⟨_, rfl⟩
        obtain ⟨w5, hY⟩ : ∃ Y : World, Y = A1.alloc (.cells #[.int .i64 u, .int .i64 v] 34) := ⟨_, rfl⟩
        have zA : A1.heap.size = w4.heap.size + 1 := by rw [hA1]; simp
        have hBa : Below w4.heap.size w4 A1 := by rw [hA1]; exact bnew _ _
        have hBb : Below A1.heap.size A1 w5 := by rw [hY]; exact bnew _ _
        have hB := bstep hBa hBb
        have HP := hid (V2At.mono (show V2At A1 w4.heap.size 34 (.int .i64 x) (.int .i64 y) by rw [hA1]; exact heap_alloc_new _ _) hBb)
        have HQ := hid (show V2At w5 A1.heap.size 34 (.int .i64 u) (.int .i64 v) by rw [hY]; exact heap_alloc_new _ _)
        rw [zA] at HQ
        rw [← hA1, ← hY]
        have HB5 := hid (bstep HB4.out hB)
        have k0 := cstep k0 hB; have k1 := cstep k1 hB
        have HRw := hid (HRw.out.mono hB)
        obtain ⟨p1, hp1⟩ : ∃ x, x = w4.heap.size := ⟨_, rfl⟩
        obtain ⟨p2, hp2⟩ : ∃ x, x = w4.heap.size + 1 := ⟨_, rfl⟩
        rw [← hp2] at HQ ⊢
        rw [← hp1] at HP ⊢
        clear hB hY hA1 zA hBa hBb hp1 hp2
        go_wp2_with fail
        refine (H36.out _ HB5.out).mono ?_
        rintro e w6 ⟨rfl, hB⟩
        have HB6 := hid (bstep HB5.out hB)
        have k0 := cstep k0 hB
        have k1 := cstep k1 hB
        have HP := hid (HP.out.mono hB)
        have HQ := hid (HQ.out.mono hB)
        have HRw := hid (HRw.out.mono hB)
        clear hB
        go_wp2_with fail
        refine (H38.out _ HB6.out).mono ?_
        rintro e w7 ⟨rfl, hB⟩
        have HB7 := hid (bstep HB6.out hB)
        have k0 := cstep k0 hB
        have k1 := cstep k1 hB
        have HP := hid (HP.out.mono hB)
        have HQ := hid (HQ.out.mono hB)
        have HRw := hid (HRw.out.mono hB)
        clear hB
        rcases Hlne.out with rfl | rfl
        · have c1 : ¬ v1 < v3 := by have := Hlbd.out rfl; omega
          go_wp2_with fail
          refine (H46.out _ HB7.out).mono ?_
          rintro e w8 ⟨la, lc, rfl, hL, _, hB⟩
          have HB8 := hid (bstep HB7.out hB)
          have k0 := cstep k0 hB
          have k1 := cstep k1 hB
          have HP := hid (HP.out.mono hB)
          have HQ := hid (HQ.out.mono hB)
          have HRw := hid (HRw.out.mono hB)
          clear hB
          have HL := hid hL
          clear hL
          have jp0 := fun s : Later w8 => cstep HP.out.c0 s.h
          have jp1 := fun s : Later w8 => cstep HP.out.c1 s.h
          have jq0 := fun s : Later w8 => cstep HQ.out.c0 s.h
          have jq1 := fun s : Later w8 => cstep HQ.out.c1 s.h
          have A1 := hid fun s : Later w8 => H47.out la lc x y s.w' (HL.out.mono s.h)
          have A2 := hid fun s : Later w8 => H47.out la lc u v s.w' (HL.out.mono s.h)
          rw [← Hpi.out] at A1
          rw [← Hpj.out] at A2
          clear k0 k1
          go_upto_region 13 with (fail)
          refine wp_region_later (by kernel_rfl) (by kernel_rfl) ?_
          repeat (go_big_quiet_step ((first | (go_at_call 47; with_reducible exact callsLater (A1.out _)) | (go_at_call 47; with_reducible exact callsLater (A2.out _)))))
          refine wpQuiet_nil ?_
          rintro w9 ⟨⟨_, hB⟩, rfl⟩
          have HB9 := hid (bstep HB8.out hB)
          have p0 := cstep HP.out.c0 (bstep (Below.refl _ _) hB)
          have HRw9 := hid (HRw.out.mono hB)
          have r0 := cstep HP.out.c0 hB; have r1 := cstep HP.out.c1 hB; have r2 := cstep HQ.out.c0 hB; have r3 := cstep HQ.out.c1 hB
          clear hB jp0 jp1 jq0 jq1 p0
          go_wp2_with fail
          refine (H48.out _ _ _ _ _ _ _ HRw9.out Hc1.out Hc2.out).mono ?_
          rintro e w10 ⟨rfl, hB⟩
          have HB10 := hid (bstep HB9.out hB)
          rw [Hsame.out]
          clear hB
          go_wp2_with fail
          refine (HW.out _).mono ?_
          rintro e w11 ⟨rfl, hB⟩
          have HB11 := hid (bstep HB10.out hB)
          clear hB
          go_wp2
          go_ret
          exact ⟨rfl, bstep HB0.out HB11.out⟩
        · go_wp2_with fail
          refine (H46.out _ HB7.out).mono ?_
          rintro e w8 ⟨la, lc, rfl, hL, _, hB⟩
          have HB8 := hid (bstep HB7.out hB)
          have k0 := cstep k0 hB
          have k1 := cstep k1 hB
          have HP := hid (HP.out.mono hB)
          have HQ := hid (HQ.out.mono hB)
          have HRw := hid (HRw.out.mono hB)
          clear hB
          have HL := hid hL
          clear hL
          have jp0 := fun s : Later w8 => cstep HP.out.c0 s.h
          have jp1 := fun s : Later w8 => cstep HP.out.c1 s.h
          have jq0 := fun s : Later w8 => cstep HQ.out.c0 s.h
          have jq1 := fun s : Later w8 => cstep HQ.out.c1 s.h
          have A1 := hid fun s : Later w8 => H47.out la lc x y s.w' (HL.out.mono s.h)
          have A2 := hid fun s : Later w8 => H47.out la lc u v s.w' (HL.out.mono s.h)
          rw [← Hpi.out] at A1
          rw [← Hpj.out] at A2
          clear k0 k1
          go_upto_region 13 with (fail)
          refine wp_region_later (by kernel_rfl) (by kernel_rfl) ?_
          repeat (go_big_quiet_step ((first | (go_at_call 47; with_reducible exact callsLater (A1.out _)) | (go_at_call 47; with_reducible exact callsLater (A2.out _)))))
          refine wpQuiet_nil ?_
          rintro w9 ⟨⟨_, hB⟩, rfl⟩
          have HB9 := hid (bstep HB8.out hB)
          have p0 := cstep HP.out.c0 (bstep (Below.refl _ _) hB)
          have HRw9 := hid (HRw.out.mono hB)
          have r0 := cstep HP.out.c0 hB; have r1 := cstep HP.out.c1 hB; have r2 := cstep HQ.out.c0 hB; have r3 := cstep HQ.out.c1 hB
          clear hB jp0 jp1 jq0 jq1 p0
          go_wp2_with fail
          refine (H48.out _ _ _ _ _ _ _ HRw9.out Hc1.out Hc2.out).mono ?_
          rintro e w10 ⟨rfl, hB⟩
          have HB10 := hid (bstep HB9.out hB)
          rw [Hsame.out]
          clear hB
          go_wp2_with fail
          refine (HW.out _).mono ?_
          rintro e w11 ⟨rfl, hB⟩
          have HB11 := hid (bstep HB10.out hB)
          clear hB
          go_wp2
          go_ret
          exact ⟨rfl, bstep HB0.out HB11.out⟩
  · rw [decide_eq_false hf] at HF
    clear hworks hk hV hB0 hkV hf hb hbV
    go_enter Try.func7, Try.ntmps7
    go_upto_region 1 with (fail)
    rw [← HV.out]
    go_wp2_with fail
    refine (HF.out).mono ?_
    rintro e w1 ⟨rfl, hB⟩
    have HB1 := hid (bstep HV0.out hB)
    clear hB
    go_wp2_with fail
    refine (HW.out _).mono ?_
    rintro e w2 ⟨rfl, hB⟩
    have HB2 := hid (bstep HB1.out hB)
    clear hB
    go_wp2
    go_ret
    exact ⟨rfl, bstep HB0.out HB2.out⟩
end

end Go.Proofs.Ytelgbjfgmpkepaa
