/- The law SlugPlayed. -/
import Derived.Test.YtelgbjfgmpkepaaXIc
import Derived.Test.YtelgbjfgmpkepaaXQe
import Derived.Test.YtelgbjfgmpkepaaXQf
namespace Go.Proofs.Ytelgbjfgmpkepaa
open Go.RowKit Go.Shelf

theorem ints_neb {s : World} {a : Option Addr} {xs : List Int} {o : Nat} {y : Option Addr} {n k : Nat} {c : Bool} (h : IntsAt s a xs) (hl : 0 < xs.length) (hv : V2At s o 24 (.slice y n k) (.bool c)) : ∀ b off, a = some ⟨b, off, none⟩ → b ≠ o := by
  cases xs with
  | nil => simp at hl
  | cons x xs => exact ints_ne h hv (fun k y h => by cases h)
theorem one_of_mem {L : List (Int × Int)} {c : Int × Int} (h : c ∈ L) (h1 : L.length = 1) : L = [c] := by
  match L, h1 with
  | [x], _ => rw [List.mem_singleton] at h; rw [h]
section
variable (ka : Option Addr) (kc : Nat) (K : Kn) (which : Nat) (w : World)
set_option maxRecDepth 100000 in
set_option maxHeartbeats 16000000 in
theorem slugPlayed_c (hworks : WorksC) (hk : KnAt w ka K) (hwh : which < 256) : Calls Try.prog 10 #[.agg #[.slice ka K.cop.length kc, .bool K.none], .int .u8 (which : Int)] w (TellB w true) := by
  have HW := hid hworks
  obtain ⟨V, hV, hB0, k0, k1⟩ := box1 w (.slice ka K.cop.length kc) (.bool K.none) 24
  have hkV := hk.mono hB0
  have HB0 := hid hB0; have HV := hid hV; have HV0 := hid (Below.refl V.heap.size V)
  have K0 := hid k0; have K1 := hid k1
  have HF := hid (fine_any ka kc K V hkV)
  unfold WorksC TellB at *
  by_cases hf : knErr K = 0
  · rw [decide_eq_true hf] at HF
    have hok := kok_iff.1 hf
    have hn12 := hok.n12
    have Hok := hid hok
    have H38 := hid fun (w' : World) (h : Below V.heap.size V w') => needed_38 ka kc K w' (hkV.mono h) (by omega)
    have H46 := hid fun (w' : World) (h : Below V.heap.size V w') => casesOf_c ka kc K w' (hkV.mono h) (by omega) hok.cop
    have hpos := cases_pos hok
    have Hne := hid (ne_of hok)
    have Hfine := hid (show nd 1000 (cntOf K) < 1000 → nd 1000 (cntOf K) ≤ 12 from nd_12 (cntOf_fine hn12) (by rw [cntOf_cases]; exact hpos))
    have hlen := casesOf_len K
    obtain ⟨L, hL⟩ : ∃ L, L = casesOf K := ⟨_, rfl⟩
    have HL := hid hL
    rw [← hL] at H46 hpos hlen
    obtain ⟨N, hN⟩ : ∃ N, N = nd 1000 (cntOf K) := ⟨_, rfl⟩
    have HN := hid hN
    rw [← hN] at Hne Hfine
    obtain ⟨v1, hv1⟩ : ∃ x, x = neVal K := ⟨_, rfl⟩
    obtain ⟨v2, hv2⟩ : ∃ x, x = neErr K := ⟨_, rfl⟩
    rw [← hv1, ← hv2] at Hne H38
    obtain ⟨m, hm⟩ : ∃ m, m = L.length := ⟨_, rfl⟩
    obtain ⟨j, hj⟩ : ∃ j, j = which % m := ⟨_, rfl⟩
    have hjl : j < m := by rw [hj]; exact Nat.mod_lt _ (by omega)
    have e1 : IntKind.i64.wrap (which : Int) = (which : Int) := wrap_i64_of (by omega) (by omega)
    have e2 : (which : Int).tmod (m : Int) = (j : Int) := by rw [hj]; exact tmod_nat _ _
    have e2b : (which : Int) % (m : Int) = (j : Int) := by rw [hj]; omega
    have hm0 : ¬ (m : Int) = 0 := by omega
    have hm1 : ((m : Int) == 0) = false := by simpa using (show ¬ m = 0 by omega)
    have hjI : (j : Int) < (m : Int) := by omega
    obtain ⟨n0, hn0⟩ : ∃ n, n = K.cop.length := ⟨_, rfl⟩
    rw [← hn0] at H38 H46 k0 K0 HF HV
    rw [← hn0]
    obtain ⟨nn, hnn⟩ : ∃ b, b = K.none := ⟨_, rfl⟩
    rw [← hnn] at k1 K1 HV H38 H46 HF ⊢
    have Hn0 := hid hn0; have Hnn := hid hnn; have Hjl := hid hjl; have Hm := hid hm; have HkV := hid hkV; have Hn12 := hid hn12
    unfold TellIE at H38
    unfold ListC at H46
    rw [← hm] at H46
    clear hworks hk hV hB0 hkV hf hok hn12 hL hN hv1 hv2 hm hj hn0 hnn hwh hlen hpos hjl
    go_enter Try.func10, Try.ntmps10
    go_upto_region 1 with (fail)
    rw [← HV.out]
    go_wp2_with fail
    refine (HF.out).mono ?_
    rintro e w1 ⟨rfl, hB⟩
    have HB1 := hid (bstep HV0.out hB)
    have k0 := cstep k0 hB
    have k1 := cstep k1 hB
    clear hB
    go_wp2_with fail
    refine (H46.out _ HB1.out).mono ?_
    rintro e w2 ⟨la, lc, rfl, hP, _, hB⟩
    have HB2 := hid (bstep HB1.out hB)
    have k0 := cstep k0 hB
    have k1 := cstep k1 hB
    clear hB
    obtain ⟨lb, lo, rfl, hx, hy⟩ := hP.at (j := j) (by rw [← Hm.out]; exact Hjl.out)
    have Hmem := hid (show nthP L j ∈ casesOf K by rw [← HL.out]; exact nthP_mem (by rw [← Hm.out]; exact Hjl.out))
    obtain ⟨c, hc⟩ : ∃ c, c = nthP L j := ⟨_, rfl⟩
    rw [← hc] at hx hy Hmem
    obtain ⟨x, y⟩ := c
    simp only at hx hy
    obtain ⟨w3, hY, hB, hbx⟩ : ∃ Y, Y = w2.alloc (.cells #[.int .i64 x, .int .i64 y] 34) ∧ Below w2.heap.size w2 Y ∧ V2At Y w2.heap.size 34 (.int .i64 x) (.int .i64 y) := ⟨_, rfl, bnew _ _, heap_alloc_new _ _⟩
    obtain ⟨pb, hpb⟩ : ∃ q, q = w2.heap.size := ⟨_, rfl⟩
    rw [← hpb] at hbx
    have HY := hid hY; have Hpb := hid hpb; have HP := hid hbx; have HB3 := hid (bstep HB2.out hB)
    have k0' := cstep k0 hB; have k1' := cstep k1 hB
    clear hP hc hY hbx hB hpb
    go_upto_region 5 with (fail)
    rw [← HY.out, ← Hpb.out]
    clear k0 k1 hx hy e1 e2 e2b hm0 hm1 hjI
    have k0 := k0'; have k1 := k1'
    clear k0' k1'
    go_wp2_with fail
    refine (H38.out _ HB3.out).mono ?_
    rintro e w4 ⟨rfl, hB⟩
    have HB4 := hid (bstep HB3.out hB)
    have k0 := cstep k0 hB
    have k1 := cstep k1 hB
    have HP := hid (HP.out.mono hB)
    clear hB
    rcases Hne.out with ⟨_, rfl, _⟩ | ⟨hN1, rfl, rfl⟩
    · go_wp2_with fail
      refine (HW.out _).mono ?_
      rintro e w5 ⟨rfl, hB⟩
      have HB5 := hid (bstep HB4.out hB)
      clear hB
      go_wp2
      go_ret
      exact ⟨rfl, bstep HB0.out HB5.out⟩
    · have hN12 := Hfine.out hN1
      have c1 : ¬ (N : Int) < 0 := by omega
      have c2 : ¬ (12 : Int) < (N : Int) := by omega
      obtain ⟨w5, hY, hB, hbx⟩ : ∃ Y, Y = w4.alloc (.cells #[.slice ka n0 kc, .bool nn] 24) ∧ Below w4.heap.size w4 Y ∧ V2At Y w4.heap.size 24 (.slice ka n0 kc) (.bool nn) := ⟨_, rfl, bnew _ _, heap_alloc_new _ _⟩
      obtain ⟨nb, hnb⟩ : ∃ q, q = w4.heap.size := ⟨_, rfl⟩
      rw [← hnb] at hbx
      have HY5 := hid hY; have Hnb := hid hnb; have HB5 := hid (bstep HB4.out hB); have HP5 := hid (HP.out.mono hB); have HN1 := hid hN1
      have Hq0 := hid (cstep k0 hB); have Hq1 := hid (cstep k1 hB)
      have Hne1 := hid (show pb ≠ nb by have := HP.out.lt; omega)
      have Hne2 := hid (show w.heap.size ≠ nb by have := lt_of_cell k0; omega)
      have Hge := hid (show w.heap.size ≤ nb by have := lt_of_cell k0; omega)
      have Hst := hid (show ∃ (i : Nat) (C : Kn) (xa : Option Addr) (xc : Nat), i ≤ N ∧ Value.int .i64 (0 : Int) = .int .i64 (i : Int) ∧ V2At w5 nb 24 (.slice xa n0 xc) (.bool C.none) ∧ KnAt w5 xa C ∧ Kok C ∧ C.cop.length = n0 ∧ (x, y) ∈ casesOf C ∧ nd 1000 (cntOf C) + i ≤ N ∧ Only (fun q => q = nb) w5 w5 from
        ⟨0, K, ka, kc, Nat.zero_le _, rfl, by rw [← Hnn.out]; exact hbx, (HkV.out.mono HB5.out), Hok.out, Hn0.out.symm, Hmem.out, by rw [HN.out]; omega, Only.refl _ _⟩)
      clear hY hB hnb hbx hN1 hN12
      go_upto_region 11 with (fail)
      rw [← HY5.out, ← Hnb.out]
      clear k0 k1 c1 c2
      go_wp2
      go_loopw [10, 11, 12, 13, 14, 15, 16] (fun t _ _ _ _ _ _ wr => ∃ (i : Nat) (C : Kn) (xa : Option Addr) (xc : Nat), i ≤ N ∧ t = .int .i64 (i : Int) ∧ V2At wr nb 24 (.slice xa n0 xc) (.bool C.none) ∧ KnAt wr xa C ∧ Kok C ∧ C.cop.length = n0 ∧ (x, y) ∈ casesOf C ∧ nd 1000 (cntOf C) + i ≤ N ∧ Only (fun q => q = nb) w5 wr) (fun t _ _ _ _ _ _ _ => N - (intOf t).toNat)
      case atStart => exact Hst.out
      case round =>
        obtain ⟨i, C, xa, xc, hi, rfl, hv, hkc, hokC, hlC, hmC, hnd, hO⟩ := hrel
        obtain ⟨wo, rfl⟩ : ∃ wo : World, wo = wr := ⟨_, rfl⟩
        have H46C := hid fun (w' : World) (h : Below wo.heap.size wo w') => casesOf_c xa xc C w' (IntsAt.mono hkc h) (by rw [hlC, Hn0.out]; have := Hn12.out; omega) hokC.cop
        have HlC := hid hlC
        rw [hlC] at H46C
        unfold ListC at H46C
        have Hv := hid hv; have Hkc := hid hkc; have HokC := hid hokC; have HmC := hid hmC; have Hnd := hid hnd; have HO := hid hO
        have HposC := hid (cases_pos hokC)
        have Hz := hid (show nd 1000 (cntOf C) = 0 → (casesOf C).length = 1 from fun h => by
          by_cases h1 : (casesOf C).length = 1
          · exact h1
          · have := nd_pos hokC h1; omega)
        obtain ⟨LC, hLC⟩ : ∃ l, l = casesOf C := ⟨_, rfl⟩
        rw [← hLC] at H46C HmC HposC Hz
        have HLC := hid hLC
        have HPo := hid (show V2At wo pb 34 (.int .i64 x) (.int .i64 y) from (hO.block _ HP5.out.lt (fun e => Hne1.out e)).trans HP5.out)
        have HBo := hid (show Below w.heap.size w wo from (bstep HB0.out HB5.out).trans (hO.below (bstep HB0.out HB5.out).size (fun q hq e => by have e : q = nb := e; have := Hge.out; omega)))
        obtain ⟨cn, hcn⟩ : ∃ b, b = C.none := ⟨_, rfl⟩
        rw [← hcn] at H46C Hv
        have Hcn := hid hcn
        have t0 := Hv.out.c0; have t1 := Hv.out.c1
        clear hv hkc hokC hlC hmC hnd hO hLC hcn
        by_cases hlt : i < N
        · have hI : (i : Int) < (N : Int) := by omega
          clear hi
          go_wp2_with fail
          refine (H46C.out wo (Below.refl _ _)).mono ?_
          rintro e wa ⟨la, lc, rfl, hP, _, hB⟩
          have HBa := hid hB; have Hva := hid (Hv.out.mono hB)
          have t0 := cstep t0 hB; have t1 := cstep t1 hB
          clear hP hB
          by_cases h1 : 1 < LC.length
          · have b1 : (1 : Int) < (LC.length : Int) := by omega
            have Hlt := hid hlt; have H1 := hid h1
            have hlC := HlC.out
            have hl1000 : C.cop.length ≤ 1000000 := by rw [hlC, Hn0.out]; have := Hn12.out; omega
            have hka := (IntsAt.mono Hkc.out HBa.out : KnAt wa xa C)
            have hnx := next_42 xa xc C wa hka hl1000
            have hnp := nd_pos HokC.out (by rw [← HLC.out]; omega)
            have hnxe := nx_of HokC.out
            rw [if_neg (by omega), if_neg (by have := Hnd.out; have := HN1.out; omega)] at hnxe
            rw [hlC, ← Hcn.out] at hnx
            have Hnx := hid hnx; have Hnxe := hid hnxe
            have H22 := hid fun (qa : Option Addr) (qc : Nat) (qs : List Int) (w' : World) (h : Below wa.heap.size wa w') (hq : IntsAt w' qa qs) (hql : qs.length ≤ 1000000) (hqn : qa = none → qc = 0) => result_22 xa xc C qa qc qs (x, y) w' (IntsAt.mono hka h) hl1000 hq hql hqn
            have H24 := hid fun (qa : Option Addr) (qc : Nat) (qs : List Int) (r : Int) (w' : World) (h : Below wa.heap.size wa w') (hq : IntsAt w' qa qs) (hql : qs.length ≤ 1000000) (hqn : qa = none → qc = 0) => learned_24 xa xc C qa qc qs r w' (IntsAt.mono hka h) hl1000 hq hql hqn
            rw [hlC, ← Hcn.out] at H22 H24
            unfold TellIE at H22
            unfold LnC at H24
            have Hstep := hid fun (qs : List Int) (h1 : kwErr C qs = 0) (h2 : afN C qs 3 + 1 = nd 1000 (cntOf C)) => played_step HokC.out (by rw [← HLC.out]; exact HmC.out) h1 h2
            clear hlC hl1000 hka hnx hnp hnxe hlt h1
            go_wp2_with fail
            refine Hnx.out.mono ?_
            rintro e wb hNx
            have hB := hNx.below
            have HBb := hid hB
            have t0 := cstep t0 hB; have t1 := cstep t1 hB
            have HPb := hid (HPo.out.mono (bstep HBa.out hB))
            obtain ⟨qs, qa, qc, rfl, hI2, hqn, hkw, haf⟩ := hNx.good Hnxe.out
            obtain ⟨s1, s2, s3, s4, s5, s6, s7, s8⟩ := Hstep.out qs hkw haf
            have hql : qs.length ≤ 1000000 := by have := (kw_ok hkw).2.1.1; rw [this, HlC.out, Hn0.out]; have := Hn12.out; omega
            obtain ⟨r, hr⟩ : ∃ r, r = resultOf qs (x, y) := ⟨_, rfl⟩
            rw [← hr] at s2 s3 s4 s5 s6 s7 s8
            have h22 := H22.out qa qc qs wb hB hI2 hql hqn
            rw [s1, s2] at h22
            have H22b := hid h22
            have H24b := hid fun (w' : World) (h : Below wb.heap.size wb w') => H24.out qa qc qs r w' (bstep hB h) (hI2.mono h) hql hqn
            rw [s3, s4] at H24b
            obtain ⟨D, hD⟩ : ∃ D, D = krK C qs r := ⟨_, rfl⟩
            rw [← hD] at H24b s5 s6 s7 s8
            have hDl : D.cop.length = n0 := s6.trans HlC.out
            rw [hDl] at H24b
            have HDl := hid hDl; have S5 := hid s5; have S7 := hid s7; have S8 := hid s8
            have p0 := HPb.out.c0; have p1 := HPb.out.c1
            clear hB hNx hI2 hqn hkw haf s1 s2 s3 s4 s5 s6 s7 s8 hql hr h22 hD hDl
            go_wp2_with fail
            refine H22b.out.mono ?_
            rintro e wc ⟨rfl, hB⟩
            have HBc := hid hB
            have t0 := cstep t0 hB; have t1 := cstep t1 hB
            clear hB p0 p1
            go_wp2_with fail
            refine (H24b.out wc HBc.out).mono ?_
            rintro e wd ⟨ya, rfl, hyd, hB⟩
            have HBd := hid (bstep HBa.out (bstep HBb.out (bstep HBc.out hB))); have Hyd := hid hyd
            obtain ⟨we, hY, hB2, hbx⟩ : ∃ Y, Y = wd.alloc (.cells #[.slice ya n0 n0, .bool D.none] 24) ∧ Below wd.heap.size wd Y ∧ V2At Y wd.heap.size 24 (.slice ya n0 n0) (.bool D.none) := ⟨_, rfl, bnew _ _, heap_alloc_new _ _⟩
            obtain ⟨xb, hxb⟩ : ∃ q, q = wd.heap.size := ⟨_, rfl⟩
            rw [← hxb] at hbx
            have HYe := hid hY; have Hxb := hid hxb; have Hbx := hid hbx; have HBe := hid (bstep HBd.out hB2); have Hye := hid (IntsAt.mono hyd hB2 : KnAt we ya D)
            have hOe : Only (fun q => q = nb) w5 we := HO.out.trans (Only.of_below HBe.out)
            have k0 := hOe.cell Hq0.out (fun e => Hne2.out e)
            have k1 := hOe.cell Hq1.out (fun e => Hne2.out e)
            have HOe := hid hOe
            have z0 := hbx.c0; have z1 := hbx.c1
            have hfn := fine_any ya n0 D we (IntsAt.mono hyd hB2)
            rw [decide_eq_true (kok_iff.2 S5.out), HDl.out] at hfn
            unfold TellB at hfn
            have Hfn := hid hfn
            have E1 : ((n0 : Int) != (n0 : Int)) = false := by simp
            clear hyd hB hY hB2 hbx hxb hOe hfn t0 t1
            go_upto_region 17 with (fail)
            rw [← HYe.out, ← Hxb.out]
            go_wp2_with fail
            refine Hfn.out.mono ?_
            rintro e wf ⟨rfl, hB⟩
            have Hvf := hid (Hv.out.mono (bstep HBe.out hB))
            have z0 := cstep z0 hB; have z1 := cstep z1 hB
            have t0 := Hvf.out.c0; have t1 := Hvf.out.c1; have f0 := Hvf.out.f0; have f1 := Hvf.out.f1
            have Hyf := hid (IntsAt.mono Hye.out hB : KnAt wf ya D)
            have HOf := hid (HOe.out.trans (Only.of_below (S := fun q => q = nb) hB))
            have ei : IntKind.i64.wrap ((i : Int) + 1) = (i : Int) + 1 := wrap_i64_of (by omega) (by have := Hlt.out; have := HN1.out; omega)
            have Hend := hid (show KnAt ((wf.setCell ⟨nb, 0, none⟩ (.slice ya n0 n0)).setCell ⟨nb, 1, none⟩ (.bool D.none)) ya D from
              IntsAt.only (S := fun q => q = nb) Hyf.out ((setCell_only nb 0 (.slice ya n0 n0)).trans (setCell_only nb 1 (.bool D.none))) (ints_neb Hyf.out (by rw [HDl.out, Hn0.out]; exact Hok.out.n1) Hvf.out))
            have HvF := hid (Hvf.out.set (.slice ya n0 n0) (.bool D.none))
            have HOF := hid (HOf.out.trans ((setCell_only nb 0 (.slice ya n0 n0)).trans (setCell_only nb 1 (.bool D.none))))
            clear hB k0 k1
            go_wp2
            go_roundw
            case rel => exact ⟨i + 1, D, ya, n0, Hlt.out, by go_num, HvF.out, Hend.out, S5.out, HDl.out, S7.out, by have := S8.out; have := Hnd.out; omega, HOF.out⟩
            case measure => simp [intOf]; have := Hlt.out; omega
          · have b1 : ¬ (1 : Int) < (LC.length : Int) := by omega
            have hone := hid (show LC = [(x, y)] from one_of_mem HmC.out (by have := HposC.out; omega))
            clear h1 hlt
            go_wp2_with fail
            refine (H46C.out wa HBa.out).mono ?_
            rintro e wg ⟨lg, lq, rfl, hP, _, hB⟩
            have HBg := hid (bstep HBa.out hB)
            rw [hone.out] at hP ⊢
            obtain ⟨gb, go, rfl, hx, hy⟩ := hP.at (j := 0) (by simp)
            have HPg := hid (HPo.out.mono HBg.out)
            have hx : wg.cell? ⟨gb, go, none⟩ = some (.int .i64 x) := hx
            have hy : wg.cell? ⟨gb, go + 1, none⟩ = some (.int .i64 y) := by
              have h : wg.cell? ⟨gb, go + 0 * 2 + 1, none⟩ = some (.int .i64 y) := hy
              simpa using h
            have j0 := fun s : Later wg => cstep hx s.h
            have j1 := fun s : Later wg => cstep hy s.h
            have j2 := fun s : Later wg => cstep HPg.out.c0 s.h
            have j3 := fun s : Later wg => cstep HPg.out.c1 s.h
            have A1 := hid fun s : Later wg => HW.out s.w'
            have E1 : (x == x) = true := by simp
            have E2 : (y == y) = true := by simp
            clear hP hB hx hy
            go_upto_region 21 with (fail)
            refine wp_region_later (by kernel_rfl) (by kernel_rfl) ?_
            repeat (go_big_quiet_step ((go_at_call 16; with_reducible exact callsLater (A1.out _))))
            refine wpQuiet_nil ?_
            rintro wh ⟨⟨_, hB⟩, rfl⟩
            have HBh := hid (bstep HBo.out (bstep HBg.out hB))
            clear hB j0 j1 j2 j3
            go_wp2
            go_ret
            exact ⟨rfl, HBh.out⟩
        · have hI : ¬ (i : Int) < (N : Int) := by omega
          have hone := hid (show LC = [(x, y)] from one_of_mem HmC.out (Hz.out (by have := Hnd.out; omega)))
          clear hi hlt
          go_wp2_with fail
          refine (H46C.out wo (Below.refl wo.heap.size wo)).mono ?_
          rintro e wg ⟨lg, lq, rfl, hP, _, hB⟩
          have HBg := hid (bstep (Below.refl wo.heap.size wo) hB)
          rw [hone.out] at hP ⊢
          obtain ⟨gb, go, rfl, hx, hy⟩ := hP.at (j := 0) (by simp)
          have HPg := hid (HPo.out.mono HBg.out)
          have hx : wg.cell? ⟨gb, go, none⟩ = some (.int .i64 x) := hx
          have hy : wg.cell? ⟨gb, go + 1, none⟩ = some (.int .i64 y) := by
            have h : wg.cell? ⟨gb, go + 0 * 2 + 1, none⟩ = some (.int .i64 y) := hy
            simpa using h
          have j0 := fun s : Later wg => cstep hx s.h
          have j1 := fun s : Later wg => cstep hy s.h
          have j2 := fun s : Later wg => cstep HPg.out.c0 s.h
          have j3 := fun s : Later wg => cstep HPg.out.c1 s.h
          have A1 := hid fun s : Later wg => HW.out s.w'
          have E1 : (x == x) = true := by simp
          have E2 : (y == y) = true := by simp
          clear hP hB hx hy
          go_upto_region 21 with (fail)
          refine wp_region_later (by kernel_rfl) (by kernel_rfl) ?_
          repeat (go_big_quiet_step ((go_at_call 16; with_reducible exact callsLater (A1.out _))))
          refine wpQuiet_nil ?_
          rintro wh ⟨⟨_, hB⟩, rfl⟩
          have HBh := hid (bstep HBo.out (bstep HBg.out hB))
          clear hB j0 j1 j2 j3
          go_wp2
          go_ret
          exact ⟨rfl, HBh.out⟩
  · rw [decide_eq_false hf] at HF
    clear hworks hk hV hB0 hkV hf hwh
    go_enter Try.func10, Try.ntmps10
    go_upto_region 1 with (fail)
    rw [← HV.out]
    go_wp2_with fail
    refine (HF.out).mono ?_
    rintro e w1 ⟨rfl, hB⟩
    have HB1 := hid (bstep HV0.out hB)
    clear hB
    go_wp2_with fail
    refine (HW.out _).mono ?_
    rintro e w2 ⟨rfl, hB⟩
    have HB2 := hid (bstep HB1.out hB)
    clear hB
    go_wp2
    go_ret
    exact ⟨rfl, bstep HB0.out HB2.out⟩
end

end Go.Proofs.Ytelgbjfgmpkepaa
