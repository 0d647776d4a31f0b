/- The law SlugLearned. -/
import Derived.Test.YtelgbjfgmpkepaaXQh
import Derived.Test.YtelgbjfgmpkepaaXKh
import Derived.Test.YtelgbjfgmpkepaaKS
namespace Go.Proofs.Ytelgbjfgmpkepaa
open Go.RowKit Go.Shelf

theorem lit_two (w : World) (r s : Int) (b : Nat) (hb : b = w.heap.size) : IntsAt (w.alloc (.cells #[.int .i64 r, .int .i64 s] 3)) (some ⟨b, 0, none⟩) [r, s] := intsAt_new w [r, s] b 3 hb
theorem withL_pos {K : Kn} {p : List Int} {r : Int} (hk : Kok (krK K p r)) : withL K p r ≠ [] := fun e => by
  have := cases_pos hk
  rw [cases_kr, e] at this
  simp at this
section
variable (ka : Option Addr) (kc : Nat) (K : Kn) (ba : Option Addr) (bc : Nat) (bs : List Nat) (w : World)
set_option maxRecDepth 100000 in
set_option maxHeartbeats 32000000 in
theorem slugLearned_c (hworks : WorksC) (hk : KnAt w ka K) (hb : BytesAt w ba bs) : Calls Try.prog 9 #[.agg #[.slice ka K.cop.length kc, .bool K.none], .slice ba bs.length bc] w (TellB w true) := by
  have HW := hid hworks
  obtain ⟨V, hV, hB0, k0, k1⟩ := box1 w (.slice ka K.cop.length kc) (.bool K.none) 24
  have hkV := hk.mono hB0
  have HB0 := hid hB0; have HV := hid hV; have HV0 := hid (Below.refl V.heap.size V)
  have K0 := hid k0; have K1 := hid k1
  have hbV := hb.mono hB0
  have HF := hid (fine_any ka kc K V hkV)
  unfold WorksC TellB at *
  by_cases hf : knErr K = 0
  · rw [decide_eq_true hf] at HF
    by_cases h100 : 100 < bs.length
    · have b1 : (100 : Int) < (bs.length : Int) := by omega
      clear hworks hk hV hB0 hkV hf hb hbV h100
      go_enter Try.func9, Try.ntmps9
      go_upto_region 1 with (fail)
      rw [← HV.out]
      go_wp2_with fail
      refine (HF.out).mono ?_
      rintro e w1 ⟨rfl, hB⟩
      have HB1 := hid (bstep HV0.out hB)
      clear hB
      go_wp2_with fail
      refine (HW.out _).mono ?_
      rintro e w2 ⟨rfl, hB⟩
      have HB2 := hid (bstep HB1.out hB)
      clear hB
      go_wp2
      go_ret
      exact ⟨rfl, bstep HB0.out HB2.out⟩
    · have b1 : ¬ (100 : Int) < (bs.length : Int) := by omega
      have hok := kok_iff.1 hf
      have hn12 := hok.n12
      obtain ⟨p1, p2, hP, hp1, hs1, hp2, hs2⟩ := plan_two K.cop.length bs
      have H45 := hid fun (w' : World) (h : Below V.heap.size V w') => planned_45 K.cop.length 2 ba bc bs w' (by omega) (by omega) (hbV.mono h) (by omega)
      rw [hP] at H45
      unfold RowsC at H45
      have Hp1 := hid hp1; have Hs1 := hid hs1; have Hp2 := hid hp2; have Hs2 := hid hs2
      have hl1 := hp1.1
      have hl2 := hp2.1
      have hll : ∀ p ∈ [p1, p2], p.length ≤ 1000000 := fun p hp => by
        rcases List.mem_cons.1 hp with rfl | hp
        · omega
        · rw [List.mem_singleton] at hp; subst hp; omega
      have H17 := hid fun (w' : World) (h : Below V.heap.size V w') => cases_17 ka kc K w' (hkV.mono h) (by omega)
      have H46 := hid fun (w' : World) (h : Below V.heap.size V w') => casesOf_c ka kc K w' (hkV.mono h) (by omega) hok.cop
      have H22 := hid fun (qa : Option Addr) (qc : Nat) (x y : Int) (w' : World) (h : Below V.heap.size V w') (hq : IntsAt w' qa p1) (hqn : qa = none → qc = 0) => result_22 ka kc K qa qc p1 (x, y) w' (hkV.mono h) (by omega) hq (by omega) hqn
      have H24 := hid fun (qa : Option Addr) (qc : Nat) (r : Int) (w' : World) (h : Below V.heap.size V w') (hq : IntsAt w' qa p1) (hqn : qa = none → qc = 0) => learned_24 ka kc K qa qc p1 r w' (hkV.mono h) (by omega) hq (by omega) hqn
      have H32 := hid fun (pa : Option Addr) (pc : Nat) (b : Nat) (r s : Int) (w' : World) (h : Below V.heap.size V w') (hp : RowsAt w' pa [p1, p2]) (hr : IntsAt w' (some ⟨b, 0, none⟩) [r, s]) => told_32 ka kc K pa pc [p1, p2] (some ⟨b, 0, none⟩) 2 [r, s] w' (hkV.mono h) (by omega) hp (by simp) hll hr (by simp)
      have hcs : csVal K = casesOf K := by unfold csVal; rw [if_pos hf]
      rw [hcs, hf] at H17
      have hlen := casesOf_len K
      have Hall := hid (many_all hok hp1)
      have Hmle := hid fun i => many_le K p1 i
      obtain ⟨L, hL⟩ : ∃ L, L = casesOf K := ⟨_, rfl⟩
      rw [← hL] at H17 H46 hlen Hall Hmle
      have HL := hid hL
      have Hlen := hid (show L.length ≤ 1000000 by omega)
      have H47 := hid fun (la : Option Addr) (lc : Nat) (x y : Int) (w' : World) (hL : PlumbsAt w' la L) => place_c la lc L (x, y) w' hL (by omega)
      unfold TdC at H17 H32
      simp only [List.length_cons, List.length_nil, Nat.zero_add, Nat.reduceAdd] at H32
      unfold ListC at H46
      unfold TellIE at H22
      unfold TellI at H47
      obtain ⟨m, hm⟩ : ∃ m, m = L.length := ⟨_, rfl⟩
      have Hm := hid hm
      have Hm25 := hid (show m ≤ 25 by omega)
      rw [← hm] at H17 H46 H47 Hall Hmle
      obtain ⟨n0, hn0⟩ : ∃ n, n = K.cop.length := ⟨_, rfl⟩
      rw [hl1, ← hn0] at H22 H24
      rw [← hn0] at H17 H46 H32 H45 k0 K0 HF HV Hp1 Hp2
      rw [← hn0]
      obtain ⟨nn, hnn⟩ : ∃ b, b = K.none := ⟨_, rfl⟩
      rw [← hnn] at H17 H46 H32 H22 H24 k1 K1 HF HV
      rw [← hnn]
      have Hn0 := hid hn0; have Hok := hid hok; have Hn12 := hid hn12
      have Hl1 := hid (show p1.length = n0 by omega); have Hl2 := hid (show p2.length = n0 by omega)
      clear hworks hk hV hB0 hkV hf hb hbV h100 hok hn12 hP hp1 hs1 hp2 hs2 hl1 hl2 hll hcs hlen hL hm hn0 hnn
      go_enter Try.func9, Try.ntmps9
      go_upto_region 1 with (fail)
      rw [← HV.out]
      go_wp2_with fail
      refine (HF.out).mono ?_
      rintro e w1 ⟨rfl, hB⟩
      have HB1 := hid (bstep HV0.out hB)
      have k0 := cstep k0 hB
      have k1 := cstep k1 hB
      clear hB
      go_wp2_with fail
      refine (H45.out _ HB1.out).mono ?_
      rintro e w2 ⟨ra, rc, rfl, hR, hB⟩
      have HB2 := hid (bstep HB1.out hB)
      have k0 := cstep k0 hB; have k1 := cstep k1 hB
      obtain ⟨rb, ro, q1, c1, rfl, r0, hI1, hq1⟩ := hR.at (j := 0) (by simp)
      obtain ⟨rb', ro', q2, c2, hee, r1, hI2, hq2⟩ := hR.at (j := 1) (by simp)
      cases hee
      have r0 : w2.cell? ⟨rb, ro, none⟩ = some (.slice q1 n0 c1) := by rw [← Hl1.out]; exact r0
      have r1 : w2.cell? ⟨rb, ro + 1, none⟩ = some (.slice q2 n0 c2) := by rw [← Hl2.out]; exact r1
      have HR := hid hR
      have HI1 := hid (show IntsAt w2 q1 p1 from hI1); have HI2 := hid (show IntsAt w2 q2 p2 from hI2); have Hq1 := hid hq1; have Hq2 := hid hq2
      clear hB hR hI1 hI2 hq1 hq2
      go_wp2_with fail
      refine (H17.out _ HB2.out).mono ?_
      rintro e w3 ⟨aa, ac, rfl, hL, hB⟩
      have HB3 := hid (bstep HB2.out hB)
      have k0 := cstep k0 hB
      have k1 := cstep k1 hB
      have r0 := cstep r0 hB
      have r1 := cstep r1 hB
      have HR := hid (HR.out.mono hB)
      have HI1 := hid (HI1.out.mono hB)
      have HI2 := hid (HI2.out.mono hB)
      clear hB
      have HA := hid hL
      clear hL
      go_wp2_with fail
      refine (H46.out _ HB3.out).mono ?_
      rintro e w4 ⟨la, lc, rfl, hL, _, hB⟩
      have HB4 := hid (bstep HB3.out hB)
      have k0 := cstep k0 hB
      have k1 := cstep k1 hB
      have r0 := cstep r0 hB
      have r1 := cstep r1 hB
      have HR := hid (HR.out.mono hB)
      have HI1 := hid (HI1.out.mono hB)
      have HI2 := hid (HI2.out.mono hB)
      have HA := hid (HA.out.mono hB)
      clear hB
      have hcsx := k_cs L aa la _ _ ac lc w4 Hm.out Hm.out HA.out hL Hlen.out
      unfold TellB at hcsx
      have HX := hid hcsx
      clear hL hcsx
      go_wp2_with fail
      refine (HX.out).mono ?_
      rintro e w5 ⟨rfl, hB⟩
      have HB5 := hid (bstep HB4.out hB)
      have k0 := cstep k0 hB
      have k1 := cstep k1 hB
      have r0 := cstep r0 hB
      have r1 := cstep r1 hB
      have HR := hid (HR.out.mono hB)
      have HI1 := hid (HI1.out.mono hB)
      have HI2 := hid (HI2.out.mono hB)
      have HA := hid (HA.out.mono hB)
      clear hB
      have K0 := hid k0; have K1 := hid k1; have R0 := hid r0; have R1 := hid r1
      clear k0 k1 r0 r1 b1 H45 H17 H46 HX HF HV
      go_wp2
      go_loopw [9, 10, 11, 12, 13, 14, 15, 16, 17, 18, 19, 20, 21] (fun g t _ _ _ _ _ _ _ _ _ _ _ wr => ∃ i : Nat, i ≤ 3 ∧ g = .int .i64 ((manyTo K p1 i : Nat) : Int) ∧ t = .int .i64 ((i : Int) - 1) ∧ Below w5.heap.size w5 wr) (fun _ t _ _ _ _ _ _ _ _ _ _ _ _ => 3 - (intOf t + 1).toNat)
      case atStart => exact ⟨0, by omega, rfl, rfl, Below.refl _ _⟩
      case round =>
        obtain ⟨i, hi, rfl, rfl, hBo⟩ := hrel
        obtain ⟨wo, rfl⟩ : ∃ wo : World, wo = wr := ⟨_, rfl⟩
        have HBo := hid hBo
        have HBv := hid (bstep HB5.out hBo)
        obtain ⟨r, hr⟩ : ∃ r, r = (i : Int) - 1 := ⟨_, rfl⟩
        obtain ⟨mi, hmi⟩ : ∃ x, x = manyTo K p1 i := ⟨_, rfl⟩
        rw [← hr, ← hmi]
        have Hr := hid hr; have Hmi := hid hmi
        have k0 := cstep K0.out hBo; have k1 := cstep K1.out hBo; have r0 := cstep R0.out hBo; have r1 := cstep R1.out hBo
        have HRo := hid (HR.out.mono hBo); have HI1o := hid (HI1.out.mono hBo); have HI2o := hid (HI2.out.mono hBo); have HAo := hid (HA.out.mono hBo)
        have Hmb := hid (show mi ≤ 3 * m by have := Hmle.out i; rw [hmi]; have h3 : i * m ≤ 3 * m := Nat.mul_le_mul_right m hi; omega)
        clear hBo hr hmi
        by_cases hlt : i < 3
        · have hI : r ≤ 1 := by have := Hr.out; omega
          have Hrr := hid (show -1 ≤ r ∧ r ≤ 1 by have := Hr.out; omega)
          have Hlt := hid hlt
          have Hsucc := hid (show manyTo K p1 (i + 1) = mi + (withL K p1 r).length by rw [Hmi.out, Hr.out]; rfl)
          have er : IntKind.i64.wrap (r + 1) = r + 1 := wrap_i64_of (by have := Hrr.out; omega) (by have := Hrr.out; omega)
          have hln := ln_of (r := r) Hok.out (by rw [← Hn0.out]; exact Hp1.out) Hs1.out Hrr.out
          have Q0 := hid fun (w' : World) (h : Below wo.heap.size wo w') => H24.out q1 c1 r w' (bstep HBv.out h) (HI1o.out.mono h) Hq1.out
          unfold LnC at Q0
          clear hi hlt
          rcases hln with ⟨hnil, e1, e2⟩ | ⟨e1, e2, hokC, hlC, hcC⟩
          · rw [e1, e2] at Q0
            have Hnil := hid (show (withL K p1 r).length = 0 by rw [hnil]; rfl)
            clear hnil e1 e2
            go_upto_region 12 with (fail)
            go_cut [11, 12] from 55 to 63 (fun _ b x1 => b = .int .i64 21 ∧ Below wo.heap.size wo x1)
            case first =>
              go_region_held3 (fun w' => w'.cell? ⟨w.heap.size, 0, none⟩ = some (.slice ka n0 kc) ∧ w'.cell? ⟨w.heap.size, 1, none⟩ = some (.bool nn) ∧ w'.cell? ⟨rb, ro, none⟩ = some (.slice q1 n0 c1)) (first | exact ⟨cstep k0 (by with_reducible repeat (first | exact Below.refl _ _ | refine Below.drew ?_ | refine bstep ?_ (bnew _ _) | (refine bstep ?_ (by assumption)) | exact hBx | (refine Below.setCell ?_ (by first | exact Nat.le_refl _ | exact Nat.le_succ _ | exact hBx.size | exact Nat.le_add_right _ _) _))), cstep k1 (by with_reducible repeat (first | exact Below.refl _ _ | refine Below.drew ?_ | refine bstep ?_ (bnew _ _) | (refine bstep ?_ (by assumption)) | exact hBx | (refine Below.setCell ?_ (by first | exact Nat.le_refl _ | exact Nat.le_succ _ | exact hBx.size | exact Nat.le_add_right _ _) _))), cstep r0 (by with_reducible repeat (first | exact Below.refl _ _ | refine Below.drew ?_ | refine bstep ?_ (bnew _ _) | (refine bstep ?_ (by assumption)) | exact hBx | (refine Below.setCell ?_ (by first | exact Nat.le_refl _ | exact Nat.le_succ _ | exact hBx.size | exact Nat.le_add_right _ _) _)))⟩ | go_keep) (first | (go_simp; go_at_call 24; (with_reducible refine (Q0.out _ (by with_reducible repeat (first | exact Below.refl _ _ | refine Below.drew ?_ | refine bstep ?_ (bnew _ _) | (refine bstep ?_ (by assumption)) | exact hBx | (refine Below.setCell ?_ (by first | exact Nat.le_refl _ | exact Nat.le_succ _ | exact hBx.size | exact Nat.le_add_right _ _) _)))).mono ?_); rintro e wc0 ⟨xa, rfl, hx, hB0⟩; have hBx := bstep (show Below wo.heap.size wo _ from (by with_reducible repeat (first | exact Below.refl _ _ | refine Below.drew ?_ | refine bstep ?_ (bnew _ _) | (refine bstep ?_ (by assumption)) | exact hBx | (refine Below.setCell ?_ (by first | exact Nat.le_refl _ | exact Nat.le_succ _ | exact hBx.size | exact Nat.le_add_right _ _) _)))) hB0; (try (have hz : V2At wc0 wo.heap.size 24 (.slice none 0 0) (.bool false) := V2At.mono (by first | exact zb0 wo _ _ _ | exact zb0 _ _ _ _) hB0; have c0 := hz.c0; have c1 := hz.c1; have f0 := hz.f0; have f1 := hz.f1))))
              all_goals (
                go_wp2
                go_meet
                first | exact ⟨rfl, below_set2 hBx (by first | exact Nat.le_refl _ | exact Nat.le_succ _ | exact hBx.size | exact Nat.le_add_right _ _) _ _⟩ | exact ⟨rfl, bstep hBx (bnew _ _)⟩)
            obtain ⟨rfl, hB⟩ := hcut
            rename World => x1
            clear Q0
            have HBt := hid (bstep HBo.out hB)
            clear hB
            go_wp2
            go_roundw
            case rel => exact ⟨i + 1, Hlt.out, by rw [Hsucc.out, Hnil.out]; rfl, by rw [show r + 1 = ((i + 1 : Nat) : Int) - 1 by have := Hr.out; omega], HBt.out⟩
            case measure => simp [intOf]; have := Hr.out; have := Hlt.out; omega
          · rw [e1, e2, hlC, ← Hn0.out] at Q0
            obtain ⟨C, hC⟩ : ∃ C, C = krK K p1 r := ⟨_, rfl⟩
            rw [← hC] at Q0 hokC hlC hcC
            have HC := hid hC; have HokC := hid hokC; have HlC := hid (hlC.trans Hn0.out.symm); have HcC := hid hcC
            have HposC := hid (show 0 < C.cop.length from hokC.n1)
            obtain ⟨cn, hcn⟩ : ∃ b, b = C.none := ⟨_, rfl⟩
            rw [← hcn] at Q0
            have Hcn := hid hcn
            clear hC hokC hlC hcC hcn e1 e2
            go_upto_region 12 with (fail)
            go_cut [11, 12] from 55 to 63 (fun a b x1 => ∃ o xa, a = .pointer (some ⟨o, 0, none⟩) ∧ b = .int .i64 0 ∧ V2At x1 o 24 (.slice xa n0 n0) (.bool cn) ∧ KnAt x1 xa C ∧ Below wo.heap.size wo x1)
            case first =>
              go_region_held3 (fun w' => w'.cell? ⟨w.heap.size, 0, none⟩ = some (.slice ka n0 kc) ∧ w'.cell? ⟨w.heap.size, 1, none⟩ = some (.bool nn) ∧ w'.cell? ⟨rb, ro, none⟩ = some (.slice q1 n0 c1)) (first | exact ⟨cstep k0 (by with_reducible repeat (first | exact Below.refl _ _ | refine Below.drew ?_ | refine bstep ?_ (bnew _ _) | (refine bstep ?_ (by assumption)) | exact hBx | (refine Below.setCell ?_ (by first | exact Nat.le_refl _ | exact Nat.le_succ _ | exact hBx.size | exact Nat.le_add_right _ _) _))), cstep k1 (by with_reducible repeat (first | exact Below.refl _ _ | refine Below.drew ?_ | refine bstep ?_ (bnew _ _) | (refine bstep ?_ (by assumption)) | exact hBx | (refine Below.setCell ?_ (by first | exact Nat.le_refl _ | exact Nat.le_succ _ | exact hBx.size | exact Nat.le_add_right _ _) _))), cstep r0 (by with_reducible repeat (first | exact Below.refl _ _ | refine Below.drew ?_ | refine bstep ?_ (bnew _ _) | (refine bstep ?_ (by assumption)) | exact hBx | (refine Below.setCell ?_ (by first | exact Nat.le_refl _ | exact Nat.le_succ _ | exact hBx.size | exact Nat.le_add_right _ _) _)))⟩ | go_keep) (first | (go_simp; go_at_call 24; (with_reducible refine (Q0.out _ (by with_reducible repeat (first | exact Below.refl _ _ | refine Below.drew ?_ | refine bstep ?_ (bnew _ _) | (refine bstep ?_ (by assumption)) | exact hBx | (refine Below.setCell ?_ (by first | exact Nat.le_refl _ | exact Nat.le_succ _ | exact hBx.size | exact Nat.le_add_right _ _) _)))).mono ?_); rintro e wc0 ⟨xa, rfl, hx, hB0⟩; have hBx := bstep (show Below wo.heap.size wo _ from (by with_reducible repeat (first | exact Below.refl _ _ | refine Below.drew ?_ | refine bstep ?_ (bnew _ _) | (refine bstep ?_ (by assumption)) | exact hBx | (refine Below.setCell ?_ (by first | exact Nat.le_refl _ | exact Nat.le_succ _ | exact hBx.size | exact Nat.le_add_right _ _) _)))) hB0; (try (have hz : V2At wc0 wo.heap.size 24 (.slice none 0 0) (.bool false) := V2At.mono (by first | exact zb0 wo _ _ _ | exact zb0 _ _ _ _) hB0; have c0 := hz.c0; have c1 := hz.c1; have f0 := hz.f0; have f1 := hz.f1))))
              all_goals (
                go_wp2
                go_meet
                first | exact ⟨_, _, rfl, rfl, hz.set _ _, IntsAt.only (S := fun q => q = _) hx ((setCell_only _ 0 _).trans (setCell_only _ 1 _)) (ints_neb hx HposC.out hz), below_set2 hBx (by first | exact Nat.le_refl _ | exact Nat.le_succ _ | exact hBx.size | exact Nat.le_add_right _ _) _ _⟩ | exact ⟨_, _, rfl, rfl, heap_alloc_new _ _, hx.mono (bnew _ _), bstep hBx (bnew _ _)⟩)
            obtain ⟨o, xa, rfl, rfl, hv, hx, hB⟩ := hcut
            rename World => x1
            clear Q0
            have HBx := hid hB; have Hv := hid hv; have Hx := hid hx
            have HBy := hid (bstep HBv.out hB); have HBz := hid (bstep HBo.out hB)
            have k0 := cstep k0 hB; have k1 := cstep k1 hB; have r0 := cstep r0 hB; have r1 := cstep r1 hB
            have z0 := hv.c0; have z1 := hv.c1
            have hfn := fine_any xa n0 C x1 hx
            rw [decide_eq_true (kok_iff.2 HokC.out), HlC.out, ← Hcn.out] at hfn
            unfold TellB at hfn
            have Hfn := hid hfn
            have h46 := fun (w' : World) (h : Below x1.heap.size x1 w') => casesOf_c xa n0 C w' (IntsAt.mono hx h) (by rw [HlC.out, Hn0.out]; have := Hn12.out; omega) HokC.out.cop
            rw [HlC.out, ← Hcn.out] at h46
            unfold ListC at h46
            have H46C := hid h46
            have HlenC := hid (casesOf_len C)
            obtain ⟨LC, hLC⟩ : ∃ l, l = casesOf C := ⟨_, rfl⟩
            rw [← hLC] at H46C HlenC HcC
            have HLC := hid hLC
            have E1 : ((n0 : Int) != (n0 : Int)) = false := by simp
            clear hv hx hB hfn h46 hLC
            go_wp2_with fail
            refine Hfn.out.mono ?_
            rintro e x2 ⟨rfl, hB⟩
            have HBx2 := hid hB
            have k0 := cstep k0 hB; have k1 := cstep k1 hB; have r0 := cstep r0 hB; have r1 := cstep r1 hB; have z0 := cstep z0 hB; have z1 := cstep z1 hB
            clear hB
            go_wp2_with fail
            refine (H46C.out _ HBx2.out).mono ?_
            rintro e x3 ⟨la, lc, rfl, hLa, _, hB⟩
            have HLa := hid hLa
            have HBx3 := hid (bstep HBx2.out hB)
            have k0 := cstep k0 hB; have k1 := cstep k1 hB; have r0 := cstep r0 hB; have r1 := cstep r1 hB; have z0 := cstep z0 hB; have z1 := cstep z1 hB
            have HB3v := hid (bstep HBy.out HBx3.out); have HB3o := hid (bstep HBz.out HBx3.out)
            have HAx := hid ((HAo.out.mono HBx.out).mono HBx3.out); have HI1x := hid ((HI1o.out.mono HBx.out).mono HBx3.out)
            have ha : IntKind.i64.wrap ((mi : Int) + (LC.length : Int)) = ((mi + LC.length : Nat) : Int) := by have := Hmb.out; have := HlenC.out; have := HlC.out; have := Hn12.out; have := Hm25.out; have := Hn0.out; rw [wrap_i64_of (by omega) (by omega)]; omega
            obtain ⟨mj, hmj⟩ : ∃ x, x = mi + LC.length := ⟨_, rfl⟩
            rw [← hmj] at ha
            have Hmj := hid hmj
            have hlc30 := HlenC.out
            have ll0 : LC.length ≤ 30 := by have := HlC.out; have := Hn12.out; have := Hn0.out; omega
            have HK0 := hid k0; have HK1 := hid k1; have HR0 := hid r0; have HR1 := hid r1; have HZ0 := hid z0; have HZ1 := hid z1
            clear hLa hB hmj hlc30 k0 k1 r0 r1 z0 z1 E1
            go_wp2
            go_loopw [14, 15, 16] (fun j _ _ wr => ∃ k : Nat, k ≤ LC.length ∧ j = .int .i64 (k : Int) ∧ Below x3.heap.size x3 wr) (fun j _ _ _ => LC.length - (intOf j).toNat)
            case atStart => exact ⟨0, Nat.zero_le _, rfl, Below.refl _ _⟩
            case round =>
              obtain ⟨k, hk, rfl, hBi⟩ := hrel
              obtain ⟨wi, rfl⟩ : ∃ wi : World, wi = wr := ⟨_, rfl⟩
              have HBi := hid hBi
              have k0 := cstep HK0.out hBi; have k1 := cstep HK1.out hBi; have r0 := cstep HR0.out hBi; have r1 := cstep HR1.out hBi; have z0 := cstep HZ0.out hBi; have z1 := cstep HZ1.out hBi
              clear hBi
              by_cases hkl : k < LC.length
              · have hI2 : (k : Int) < (LC.length : Int) := by omega
                obtain ⟨lb, lo, rfl, hx, hy⟩ := (HLa.out.mono HBi.out).at (j := k) hkl
                have hmem : nthP LC k ∈ withL K p1 r := by rw [← HcC.out]; exact nthP_mem hkl
                obtain ⟨u, v⟩ : ∃ c, c = nthP LC k := ⟨_, rfl⟩
                rw [← v] at hx hy hmem
                obtain ⟨x, y⟩ := u
                simp only at hx hy
                obtain ⟨l1, l2, l3⟩ := learned_case Hok.out (by rw [← Hn0.out]; exact Hp1.out) Hs1.out hmem
                have A1 := hid fun s : Later wi => H22.out q1 c1 x y s.w' (bstep HB3v.out (bstep HBi.out s.h)) ((HI1x.out.mono HBi.out).mono s.h) Hq1.out
                rw [l1, l2] at A1
                rw [← HL.out] at l3
                obtain ⟨pl, hpl⟩ : ∃ q, q = place L (x, y) := ⟨_, rfl⟩
                rw [← hpl] at l3
                have l3' : ¬ pl < 0 := by omega
                have Hpl := hid hpl
                have A2 := hid fun s : Later wi => H47.out aa ac x y s.w' ((HAx.out.mono HBi.out).mono s.h)
                rw [← hpl] at A2
                have j0 := fun s : Later wi => cstep k0 s.h
                have j1 := fun s : Later wi => cstep k1 s.h
                have j2 := fun s : Later wi => cstep r0 s.h
                have j3 := fun s : Later wi => cstep hx s.h
                have j4 := fun s : Later wi => cstep hy s.h
                have Hkl := hid hkl
                have E1 : (r != r) = false := by simp
                have ek : IntKind.i64.wrap ((k : Int) + 1) = (k : Int) + 1 := wrap_i64_of (by omega) (by omega)
                clear hk hkl v hmem l1 l2 l3 hpl
                go_upto_region 21 with (fail)
                refine wp_region_later (by kernel_rfl) (by kernel_rfl) ?_
                repeat (go_big_quiet_step (((go_at_call 22; with_reducible exact callsLater (A1.out _)))))
                refine wpQuiet_nil ?_
                rintro wj ⟨⟨_, hB⟩, rfl⟩
                have HBj := hid (bstep HBi.out hB)
                have hx := cstep hx hB; have hy := cstep hy hB
                clear hB j0 j1 j2 j3 j4 k0 k1 r0 r1 z0 z1
                go_wp2_with fail
                refine (H47.out aa ac x y _ (HAx.out.mono HBj.out)).mono ?_
                rintro e wk ⟨rfl, hB⟩
                rw [← Hpl.out]
                have HBk := hid (bstep HBj.out hB)
                clear hB hx hy
                go_wp2
                go_roundw
                case rel => exact ⟨k + 1, Hkl.out, by go_num, HBk.out⟩
                case measure => simp [intOf]; have := Hkl.out; omega
              · have hI2 : ¬ (k : Int) < (LC.length : Int) := by omega
                obtain rfl : k = LC.length := by omega
                have HBiv := hid (bstep HB3v.out HBi.out); have HBio := hid (bstep HB3o.out HBi.out)
                have HK0 := hid k0; have HK1 := hid k1; have HR1 := hid r1; have HZ0 := hid z0; have HZ1 := hid z1
                have HRi := hid ((((HRo.out.mono HBx.out).mono HBx3.out).mono HBi.out : RowsAt wi (some ⟨rb, ro, none⟩) [p1, p2]))
                have HI2i := hid ((((HI2o.out.mono HBx.out).mono HBx3.out).mono HBi.out : IntsAt wi q2 p2))
                have Hxi := hid (IntsAt.mono Hx.out (bstep HBx3.out HBi.out) : KnAt wi xa C)
                clear hk hkl k0 k1 r0 r1 z0 z1
                go_wp2
                go_loopw [17, 18, 19, 20, 21] (fun t _ _ _ _ wr => ∃ i2 : Nat, i2 ≤ 3 ∧ t = .int .i64 ((i2 : Int) - 1) ∧ Below wi.heap.size wi wr) (fun t _ _ _ _ _ => 3 - (intOf t + 1).toNat)
                case atStart => exact ⟨0, by omega, rfl, Below.refl _ _⟩
                case round =>
                  obtain ⟨i2, hi2, rfl, hBq⟩ := hrel
                  obtain ⟨wq, rfl⟩ : ∃ wq : World, wq = wr := ⟨_, rfl⟩
                  have HBq := hid hBq
                  obtain ⟨s, hs⟩ : ∃ s, s = (i2 : Int) - 1 := ⟨_, rfl⟩
                  rw [← hs]
                  have Hs := hid hs
                  have k0 := cstep HK0.out hBq; have k1 := cstep HK1.out hBq; have r1 := cstep HR1.out hBq; have z0 := cstep HZ0.out hBq; have z1 := cstep HZ1.out hBq
                  clear hBq hs
                  by_cases hlt2 : i2 < 3
                  · have hI3 : s ≤ 1 := by have := Hs.out; omega
                    have hss : -1 ≤ s ∧ s ≤ 1 := by have := Hs.out; omega
                    have es : IntKind.i64.wrap (s + 1) = s + 1 := wrap_i64_of (by omega) (by omega)
                    have Hlt2 := hid hlt2
                    obtain ⟨t0, t1⟩ := td_of (r := r) (s := s) Hok.out (p := p1) (q := p2) (by rw [← Hn0.out]; exact ⟨Hp1.out, Hs1.out⟩) (by rw [← Hn0.out]; exact ⟨Hp2.out, Hs2.out⟩) Hrr.out hss
                    rw [← HC.out] at t0 t1
                    have hln := ln_of (r := s) HokC.out (ws := p2) (by rw [HlC.out]; exact Hp2.out) Hs2.out hss
                    obtain ⟨T, hT⟩ : ∃ T, T = tdVal K [p1, p2] [r, s] := ⟨_, rfl⟩
                    obtain ⟨te, hte⟩ : ∃ T, T = tdErr K [p1, p2] [r, s] := ⟨_, rfl⟩
                    have HQ := hid fun (b : Nat) (w' : World) (h : Below wq.heap.size wq w') (ht : IntsAt w' (some ⟨b, 0, none⟩) [r, s]) => H32.out (some ⟨rb, ro, none⟩) rc b r s w' (bstep HBiv.out (bstep HBq.out h)) ((HRi.out.mono HBq.out).mono h) ht
                    rw [← hT, ← hte] at HQ t0 t1
                    have Ht0 := hid t0; have Ht1 := hid t1; have Hln := hid hln
                    clear hi2 hlt2 hss t0 t1 hln hT hte
                    go_upto_region 27 with (fail)
                    go_cut [18, 19] from 124 to 133 (fun a b wx => ∃ ao cap, a = .slice ao T.length cap ∧ b = .int .i64 te ∧ PlumbsAt wx ao T ∧ Below wq.heap.size wq wx)
                    case first =>
                      go_region_held3 (fun w' => w'.cell? ⟨w.heap.size, 0, none⟩ = some (.slice ka n0 kc) ∧ w'.cell? ⟨w.heap.size, 1, none⟩ = some (.bool nn)) (first | exact ⟨cstep k0 (by with_reducible repeat (first | exact Below.refl _ _ | refine Below.drew ?_ | refine bstep ?_ (bnew _ _) | (refine bstep ?_ (by assumption)) | exact hBx | (refine Below.setCell ?_ (by first | exact Nat.le_refl _ | exact Nat.le_succ _ | exact hBx.size | exact Nat.le_add_right _ _) _))), cstep k1 (by with_reducible repeat (first | exact Below.refl _ _ | refine Below.drew ?_ | refine bstep ?_ (bnew _ _) | (refine bstep ?_ (by assumption)) | exact hBx | (refine Below.setCell ?_ (by first | exact Nat.le_refl _ | exact Nat.le_succ _ | exact hBx.size | exact Nat.le_add_right _ _) _)))⟩ | go_keep) (first | (go_simp; go_at_call 50; refine (of_50 _ _).mono ?_; rintro e wx ⟨rfl, rfl⟩) | (go_simp; go_at_call 32; (with_reducible refine (HQ.out _ _ (by with_reducible repeat (first | exact Below.refl _ _ | refine Below.drew ?_ | refine bstep ?_ (bnew _ _) | (refine bstep ?_ (by assumption)) | exact hBx | (refine Below.setCell ?_ (by first | exact Nat.le_refl _ | exact Nat.le_succ _ | exact hBx.size | exact Nat.le_add_right _ _) _))) (by with_reducible repeat (first | assumption | refine IntsAt.undrew ?_ | exact lit_two _ _ _ _ rfl | exact lit_two _ _ _ _ (by simp) | refine IntsAt.mono ?_ (bnew _ _) | (refine IntsAt.mono ?_ (by assumption))))).mono ?_); rintro e wc0 ⟨ao, cap, rfl, hx, hB0⟩; have hBx := bstep (show Below wq.heap.size wq _ from (by with_reducible repeat (first | exact Below.refl _ _ | refine Below.drew ?_ | refine bstep ?_ (bnew _ _) | (refine bstep ?_ (by assumption)) | exact hBx | (refine Below.setCell ?_ (by first | exact Nat.le_refl _ | exact Nat.le_succ _ | exact hBx.size | exact Nat.le_add_right _ _) _)))) hB0))
                      all_goals (
                        go_wp2
                        go_meet
                        exact ⟨_, _, rfl, rfl, hx, hBx⟩)
                    obtain ⟨ao, cap, rfl, rfl, hTa, hB⟩ := hcut
                    rename World => y1
                    have HTa := hid hTa
                    have HBy1 := hid (bstep HBq.out hB)
                    have k0 := cstep k0 hB; have k1 := cstep k1 hB; have r1 := cstep r1 hB; have z0 := cstep z0 hB; have z1 := cstep z1 hB
                    clear hTa hB HQ
                    have h24 := fun (w' : World) (h : Below y1.heap.size y1 w') => learned_24 xa n0 C q2 c2 p2 s w' (IntsAt.mono Hxi.out (bstep HBy1.out h)) (by rw [HlC.out, Hn0.out]; have := Hn12.out; omega) (HI2i.out.mono (bstep HBy1.out h)) (by rw [Hl2.out, Hn0.out]; have := Hn12.out; omega) Hq2.out
                    unfold LnC at h24
                    rw [HlC.out, ← Hcn.out, Hl2.out] at h24
                    have Q0 := hid h24
                    clear h24
                    rcases Hln.out with ⟨hnil, e1, e2⟩ | ⟨e1, e2, hokD, hlD, hcD⟩
                    · rw [e1, e2] at Q0
                      obtain ⟨rfl, rfl⟩ := Ht0.out hnil
                      clear hnil e1 e2
                      go_upto_region 28 with (fail)
                      go_cut [20, 21] from 134 to 142 (fun _ b y2 => b = .int .i64 21 ∧ Below y1.heap.size y1 y2)
                      case first =>
                        go_region_held3 (fun w' => w'.cell? ⟨o, 0, none⟩ = some (.slice xa n0 n0) ∧ w'.cell? ⟨o, 1, none⟩ = some (.bool cn) ∧ w'.cell? ⟨rb, ro + 1, none⟩ = some (.slice q2 n0 c2)) (first | exact ⟨cstep z0 (by with_reducible repeat (first | exact Below.refl _ _ | refine Below.drew ?_ | refine bstep ?_ (bnew _ _) | (refine bstep ?_ (by assumption)) | exact hBx | (refine Below.setCell ?_ (by first | exact Nat.le_refl _ | exact Nat.le_succ _ | exact hBx.size | exact Nat.le_add_right _ _) _))), cstep z1 (by with_reducible repeat (first | exact Below.refl _ _ | refine Below.drew ?_ | refine bstep ?_ (bnew _ _) | (refine bstep ?_ (by assumption)) | exact hBx | (refine Below.setCell ?_ (by first | exact Nat.le_refl _ | exact Nat.le_succ _ | exact hBx.size | exact Nat.le_add_right _ _) _))), cstep r1 (by with_reducible repeat (first | exact Below.refl _ _ | refine Below.drew ?_ | refine bstep ?_ (bnew _ _) | (refine bstep ?_ (by assumption)) | exact hBx | (refine Below.setCell ?_ (by first | exact Nat.le_refl _ | exact Nat.le_succ _ | exact hBx.size | exact Nat.le_add_right _ _) _)))⟩ | go_keep) (first | (go_simp; go_at_call 24; (with_reducible refine (Q0.out _ (by with_reducible repeat (first | exact Below.refl _ _ | refine Below.drew ?_ | refine bstep ?_ (bnew _ _) | (refine bstep ?_ (by assumption)) | exact hBx | (refine Below.setCell ?_ (by first | exact Nat.le_refl _ | exact Nat.le_succ _ | exact hBx.size | exact Nat.le_add_right _ _) _)))).mono ?_); rintro e wc0 ⟨xa, rfl, hx, hB0⟩; have hBx := bstep (show Below y1.heap.size y1 _ from (by with_reducible repeat (first | exact Below.refl _ _ | refine Below.drew ?_ | refine bstep ?_ (bnew _ _) | (refine bstep ?_ (by assumption)) | exact hBx | (refine Below.setCell ?_ (by first | exact Nat.le_refl _ | exact Nat.le_succ _ | exact hBx.size | exact Nat.le_add_right _ _) _)))) hB0; (try (have hz : V2At wc0 y1.heap.size 24 (.slice none 0 0) (.bool false) := V2At.mono (by first | exact zb0 y1 _ _ _ | exact zb0 _ _ _ _) hB0; have c0 := hz.c0; have c1 := hz.c1; have f0 := hz.f0; have f1 := hz.f1))))
                        all_goals (
                          go_wp2
                          go_meet
                          first | exact ⟨rfl, below_set2 hBx (by first | exact Nat.le_refl _ | exact Nat.le_succ _ | exact hBx.size | exact Nat.le_add_right _ _) _ _⟩ | exact ⟨rfl, bstep hBx (bnew _ _)⟩)
                      obtain ⟨rfl, hB⟩ := hcut
                      rename World => y2
                      clear Q0
                      have HBt := hid (bstep HBy1.out hB)
                      clear hB k0 k1 r1 z0 z1
                      go_wp2
                      go_roundw
                      case rel => exact ⟨i2 + 1, Hlt2.out, by rw [show s + 1 = ((i2 + 1 : Nat) : Int) - 1 by have := Hs.out; omega], HBt.out⟩
                      case measure => simp [intOf]; have := Hs.out; have := Hlt2.out; omega
                    · rw [e1, e2, hlD, HlC.out] at Q0
                      obtain ⟨rfl, rfl⟩ := Ht1.out (withL_pos hokD)
                      obtain ⟨D, hD⟩ : ∃ D, D = krK C p2 s := ⟨_, rfl⟩
                      rw [← hD] at Q0 hokD hlD hcD
                      have HokD := hid hokD; have HlD := hid (hlD.trans HlC.out); have HcD := hid hcD
                      have HposD := hid (show 0 < D.cop.length from hokD.n1)
                      obtain ⟨dn, hdn⟩ : ∃ b, b = D.none := ⟨_, rfl⟩
                      rw [← hdn] at Q0
                      have Hdn := hid hdn
                      obtain ⟨T, hT⟩ : ∃ T, T = withL C p2 s := ⟨_, rfl⟩
                      rw [← hT] at HTa HcD
                      rw [← hT]
                      have HlT := hid (show T.length ≤ 30 by have := casesOf_len D; rw [hcD, ← hT] at this; have := HlD.out; have := Hn12.out; have := Hn0.out; omega)
                      clear hD hokD hlD hcD hdn e1 e2 hT
                      go_upto_region 28 with (fail)
                      go_cut [20, 21] from 134 to 142 (fun a b y2 => ∃ o xa2, a = .pointer (some ⟨o, 0, none⟩) ∧ b = .int .i64 0 ∧ V2At y2 o 24 (.slice xa2 n0 n0) (.bool dn) ∧ KnAt y2 xa2 D ∧ Below y1.heap.size y1 y2)
                      case first =>
                        go_region_held3 (fun w' => w'.cell? ⟨o, 0, none⟩ = some (.slice xa n0 n0) ∧ w'.cell? ⟨o, 1, none⟩ = some (.bool cn) ∧ w'.cell? ⟨rb, ro + 1, none⟩ = some (.slice q2 n0 c2)) (first | exact ⟨cstep z0 (by with_reducible repeat (first | exact Below.refl _ _ | refine Below.drew ?_ | refine bstep ?_ (bnew _ _) | (refine bstep ?_ (by assumption)) | exact hBx | (refine Below.setCell ?_ (by first | exact Nat.le_refl _ | exact Nat.le_succ _ | exact hBx.size | exact Nat.le_add_right _ _) _))), cstep z1 (by with_reducible repeat (first | exact Below.refl _ _ | refine Below.drew ?_ | refine bstep ?_ (bnew _ _) | (refine bstep ?_ (by assumption)) | exact hBx | (refine Below.setCell ?_ (by first | exact Nat.le_refl _ | exact Nat.le_succ _ | exact hBx.size | exact Nat.le_add_right _ _) _))), cstep r1 (by with_reducible repeat (first | exact Below.refl _ _ | refine Below.drew ?_ | refine bstep ?_ (bnew _ _) | (refine bstep ?_ (by assumption)) | exact hBx | (refine Below.setCell ?_ (by first | exact Nat.le_refl _ | exact Nat.le_succ _ | exact hBx.size | exact Nat.le_add_right _ _) _)))⟩ | go_keep) (first | (go_simp; go_at_call 24; (with_reducible refine (Q0.out _ (by with_reducible repeat (first | exact Below.refl _ _ | refine Below.drew ?_ | refine bstep ?_ (bnew _ _) | (refine bstep ?_ (by assumption)) | exact hBx | (refine Below.setCell ?_ (by first | exact Nat.le_refl _ | exact Nat.le_succ _ | exact hBx.size | exact Nat.le_add_right _ _) _)))).mono ?_); rintro e wc0 ⟨xa2, rfl, hx, hB0⟩; have hBx := bstep (show Below y1.heap.size y1 _ from (by with_reducible repeat (first | exact Below.refl _ _ | refine Below.drew ?_ | refine bstep ?_ (bnew _ _) | (refine bstep ?_ (by assumption)) | exact hBx | (refine Below.setCell ?_ (by first | exact Nat.le_refl _ | exact Nat.le_succ _ | exact hBx.size | exact Nat.le_add_right _ _) _)))) hB0; (try (have hz : V2At wc0 y1.heap.size 24 (.slice none 0 0) (.bool false) := V2At.mono (by first | exact zb0 y1 _ _ _ | exact zb0 _ _ _ _) hB0; have c0 := hz.c0; have c1 := hz.c1; have f0 := hz.f0; have f1 := hz.f1))))
                        all_goals (
                          go_wp2
                          go_meet
                          first | exact ⟨_, _, rfl, rfl, hz.set _ _, IntsAt.only (S := fun q => q = _) hx ((setCell_only _ 0 _).trans (setCell_only _ 1 _)) (ints_neb hx HposD.out hz), below_set2 hBx (by first | exact Nat.le_refl _ | exact Nat.le_succ _ | exact hBx.size | exact Nat.le_add_right _ _) _ _⟩ | exact ⟨_, _, rfl, rfl, heap_alloc_new _ _, hx.mono (bnew _ _), bstep hBx (bnew _ _)⟩)
                      obtain ⟨o2, xa2, rfl, rfl, hv, hx, hB⟩ := hcut
                      rename World => y2
                      clear Q0
                      have HBt := hid (bstep HBy1.out hB)
                      have HTb := hid (HTa.out.mono hB)
                      have z0 := hv.c0; have z1 := hv.c1
                      have h46 := casesOf_c xa2 n0 D y2 hx (by rw [HlD.out, Hn0.out]; have := Hn12.out; omega) HokD.out.cop
                      rw [HlD.out, ← Hdn.out, HcD.out] at h46
                      unfold ListC at h46
                      have H46D := hid h46
                      have t30 : ¬ (30 : Int) < (T.length : Int) := by have := HlT.out; omega
                      have E1 : ((n0 : Int) != (n0 : Int)) = false := by simp
                      clear hB hv hx h46 k0 k1 r1
                      go_wp2_with fail
                      refine H46D.out.mono ?_
                      rintro e y3 ⟨ta, tc, rfl, hTt, _, hB⟩
                      have HBu := hid (bstep HBt.out hB)
                      have hcsx := k_cs T ao ta _ _ cap tc y3 rfl rfl (HTb.out.mono hB) hTt (by have := HlT.out; omega)
                      unfold TellB at hcsx
                      have HX := hid hcsx
                      clear hTt hcsx hB z0 z1
                      go_wp2_with fail
                      refine HX.out.mono ?_
                      rintro e y4 ⟨rfl, hB⟩
                      have HBu := hid (bstep HBu.out hB)
                      clear hB
                      go_wp2
                      go_roundw
                      case rel => exact ⟨i2 + 1, Hlt2.out, by rw [show s + 1 = ((i2 + 1 : Nat) : Int) - 1 by have := Hs.out; omega], HBu.out⟩
                      case measure => simp [intOf]; have := Hs.out; have := Hlt2.out; omega
                  · have hI3 : ¬ s ≤ 1 := by have := Hs.out; omega
                    have HBfin := hid (bstep HBio.out HBq.out)
                    clear hi2 hlt2 k0 k1 r1 z0 z1
                    go_wp2
                    go_roundw
                    case rel => exact ⟨i + 1, Hlt.out, by rw [Hsucc.out, Hmj.out, HcC.out], by rw [show r + 1 = ((i + 1 : Nat) : Int) - 1 by have := Hr.out; omega], HBfin.out⟩
                    case measure => simp [intOf]; have := Hr.out; have := Hlt.out; omega
        · have hI : ¬ r ≤ 1 := by have := Hr.out; omega
          obtain rfl : i = 3 := by omega
          have hmm : mi = m := Hmi.out.trans Hall.out
          subst hmm
          have E1 : ((mi : Int) == (mi : Int)) = true := by simp
          clear hi hlt k0 k1 r0 r1
          go_wp2_with fail
          refine (HW.out _).mono ?_
          rintro e wz ⟨rfl, hB⟩
          have HBz := hid (bstep HBv.out hB)
          clear hB
          go_wp2
          go_ret
          exact ⟨rfl, bstep HB0.out HBz.out⟩
  · rw [decide_eq_false hf] at HF
    clear hworks hk hV hB0 hkV hf hb hbV
    go_enter Try.func9, Try.ntmps9
    go_upto_region 1 with (fail)
    rw [← HV.out]
    go_wp2_with fail
    refine (HF.out).mono ?_
    rintro e w1 ⟨rfl, hB⟩
    have HB1 := hid (bstep HV0.out hB)
    clear hB
    go_wp2_with fail
    refine (HW.out _).mono ?_
    rintro e w2 ⟨rfl, hB⟩
    have HB2 := hid (bstep HB1.out hB)
    clear hB
    go_wp2
    go_ret
    exact ⟨rfl, bstep HB0.out HB2.out⟩
end

end Go.Proofs.Ytelgbjfgmpkepaa
