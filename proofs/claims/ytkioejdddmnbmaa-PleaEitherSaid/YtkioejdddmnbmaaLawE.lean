/- Walk: the law PleaEither, out of the contract of Works. -/
import Derived.Test.YtkioejdddmnbmaaPl
namespace Go.Proofs.Ytkioejdddmnbmaa
open Go.RowKit Go.Shelf

set_option maxRecDepth 100000 in
set_option maxHeartbeats 8000000 in
theorem either_law (hworks : WorksC) (facts : Int) (sa : Option Addr) (sc : Nat) (seen : List Int) (ra : Option Addr) (rc : Nat) (rs : List Rl) (n : Nat) (w : World) (hs : IntsAt w sa seen) (hr : RulesAt w ra rs) (hnil : sa = none → sc = 0) (hn : n < 256) :
    Calls Try.prog 8 #[.agg #[.int .i64 facts, .slice sa seen.length sc, .slice ra rs.length rc], .int .u8 n] w (TrueP w) := by
  have HW := hid hworks
  clear hworks
  obtain ⟨W0, hW0⟩ : ∃ W0, W0 = w.alloc (.cells #[.int .i64 facts, .slice sa seen.length sc, .slice ra rs.length rc] 25) := ⟨_, rfl⟩
  have HB0 := hid (show Below w.heap.size w W0 by rw [hW0]; exact bnew w _)
  obtain ⟨c0, c1, c2⟩ := caseBox w facts sa ra seen.length sc rs.length rc
  rw [← hW0] at c0 c1 c2
  have HR := hid (hr.mono HB0.out); have HSn := hid (hs.mono HB0.out)
  have HS := hid hW0
  clear hs hr hW0
  have HG := hid (fine_c sa ra sc rc facts seen rs W0 HSn.out HR.out)
  unfold TellB at HG
  by_cases hg : fineB facts seen rs = true
  case neg =>
    have hgn : fineB facts seen rs = false := by simpa using hg
    rw [hgn] at HG
    clear hg hgn hnil hn
    go_enter Try.func8, Try.ntmps8
    go_wp2_with fail
    rw [← HS.out]
    refine HG.out.mono ?_
    rintro e w1 ⟨rfl, hB⟩
    have HB1 := hid (bstep HB0.out hB)
    clear hB
    go_wp2_with fail
    refine (HW.out _).mono ?_
    rintro e w2 ⟨rfl, hB⟩
    have HB2 := hid (bstep HB1.out hB)
    clear hB
    go_wp2
    go_ret
    exact ⟨rfl, HB2.out⟩
  case pos =>
    obtain ⟨hgf, hz⟩ := fine_true hg
    obtain ⟨hl1, hl2, hl3⟩ := great_lens hgf
    rw [hg] at HG
    obtain ⟨f, rfl, hf1, hf2⟩ := case_nat hz
    have hil : ∀ i, i < rs.length → (nthR rs i).1.length ≤ 1000000 := fun i hi => by have := hl3 i hi; omega
    have hv : Valid f seen rs := valid_of hz hil
    have hC : ∀ w', Below W0.heap.size W0 w' → CaseAt w' sa ra seen rs := fun w' h => great_case (HSn.out.mono h) (HR.out.mono h) hgf
    obtain ⟨i, hi⟩ : ∃ i, i = n % f := ⟨_, rfl⟩
    have hif : i < f := by rw [hi]; exact Nat.mod_lt _ (by omega)
    have hwr : IntKind.i64.wrap ((n : Nat) : Int) = (n : Int) := wrap_i64_nat (by omega)
    have hmod : ((n : Nat) : Int).tmod (f : Int) = (i : Int) := by rw [hi, Int.tmod_eq_emod_of_nonneg (by omega)]; rfl
    have hwi : IntKind.i64.wrap ((i : Nat) : Int) = (i : Int) := wrap_i64_nat (by omega)
    have hf0 : decide ((f : Int) = 0) = false := decide_eq_false (by omega)
    have hf0b : ((f : Int) == 0) = false := by simp; omega
    have Q23 := hid fun (w' : World) (h : Below W0.heap.size W0 w') => least_c f sa sc seen ra rc rs w' (hC w' h)
    have Q33 := hid fun (w' : World) (h : Below W0.heap.size W0 w') => pClash_c f sa sc seen ra rc rs w' (hC w' h)
    have Q32 := hid fun (w' : World) (h : Below W0.heap.size W0 w') => pSteps_c f sa sc seen ra rc rs i w' (hC w' h)
    have Q27 := hid fun (w' : World) (h : Below W0.heap.size W0 w') => verdict_c f sa sc seen ra rc rs i w' (hC w' h) hnil (by omega)
    have Q30 := hid fun (a : Option Addr) (c : Nat) (l : List Int) (w' : World) (h : Below W0.heap.size W0 w') (hx : IntsAt w' a l) (h1 : l.length ≤ 1000) (h2 : l.length ≤ c) => checkSteps_c f sa sc seen ra rc rs a c l w' (hC w' h) hx (by omega) h2
    have Q31 := hid fun (a : Option Addr) (c : Nat) (l : List Int) (w' : World) (h : Below W0.heap.size W0 w') (hx : IntsAt w' a l) (h1 : l.length ≤ 1000) (h2 : l.length ≤ c) => rCheckSteps_c f sa sc seen ra rc rs a c l w' (hC w' h) hx (by omega) h2
    have Q21 := hid fun (a : Option Addr) (c : Nat) (w' : World) (h : Below W0.heap.size W0 w') (l : List Int) (hx : IntsAt w' a l) (h1 : l.length ≤ 1000) => checkTruth_c f sa sc seen ra rc rs a c l w' (hC w' h) hx (by omega)
    have Q22 := hid fun (a : Option Addr) (c : Nat) (w' : World) (h : Below W0.heap.size W0 w') (l : List Int) (hx : IntsAt w' a l) (h1 : l.length ≤ 1000) => rCheckTruth_c sa ra a sc rc c f seen l rs w' ((hC w' h).s) ((hC w' h).r) hx (by omega) (by omega) (by omega) hil
    rw [(least_eq hil).1, (least_eq hil).2] at Q23
    rw [(verdict_eq hil).1, (verdict_eq hil).2] at Q27
    have hlP := pSteps_len (facts := (f : Int)) (seen := seen) (i : Int) hil
    have hlK := pClash_len (facts := (f : Int)) (seen := seen) hil
    simp only [pTruth_eq hil] at Q21
    simp only [pcs_eq hil] at Q30
    unfold ListE at Q23
    unfold ListC at Q33 Q32
    unfold NumE at Q27
    unfold StepsP at Q30 Q31
    have HlP := hid hlP; have HlK := hid hlK
    clear hlP hlK
    obtain ⟨S, hS⟩ : ∃ S, S = pStepsL (f : Int) seen rs i := ⟨_, rfl⟩
    obtain ⟨K, hK⟩ : ∃ K, K = pClashL (f : Int) seen rs := ⟨_, rfl⟩
    by_cases hcl : Clsh rs (SeenP seen)
    case pos =>
      obtain ⟨hk1, L, hk2⟩ := hv.clashD hcl
      rw [← hK] at hk2 HlK Q33
      rw [← hS] at HlP Q32
      rw [(hv.leastC hcl).1, (hv.leastC hcl).2] at Q23
      rw [(hv.verdictC hif hcl).1, (hv.verdictC hif hcl).2] at Q27
      rw [hk1] at Q33
      have R30 := hid fun a c w' h hx h1 h2 => Q30.out a c K w' h hx h1 h2
      have R31 := hid fun a c w' h hx h1 h2 => Q31.out a c K w' h hx h1 h2
      rw [hk2] at R30 R31
      obtain ⟨e3, he3⟩ : ∃ e : Int, e = pStepsE (f : Int) seen rs i := ⟨_, rfl⟩
      rw [← he3] at Q32
      clear he3 hk1 hk2 Q30 Q31 Q21 Q22 hcl hC hv hil hl1 hl2 hl3 hz hgf hg hnil hn hi hif hS hK
      go_enter Try.func8, Try.ntmps8
      go_wp2_with fail
      rw [← HS.out]
      refine HG.out.mono ?_
      rintro e w1 ⟨rfl, hB⟩
      have HB1 := hid hB
      have k0 := cstep c0 hB; have k1 := cstep c1 hB; have k2 := cstep c2 hB
      clear hB c0 c1 c2
      go_wp2_with fail
      refine (Q23.out _ HB1.out).mono ?_
      rintro e w2 ⟨a1, d1, rfl, hx1, _, hB⟩
      have HBz2 := hid (bstep HB1.out hB)
      have k0 := cstep k0 hB
      have k1 := cstep k1 hB
      have k2 := cstep k2 hB
      have X1 := hid hx1
      clear hB hx1 HB1
      go_wp2_with fail
      refine (Q33.out _ HBz2.out).mono ?_
      rintro e w3 ⟨a2, d2, rfl, hx2, _, hc2, hB⟩
      have HBz3 := hid (bstep HBz2.out hB)
      have k0 := cstep k0 hB
      have k1 := cstep k1 hB
      have k2 := cstep k2 hB
      have X1 := hid (X1.out.mono hB)
      have X2 := hid hx2
      clear hB hx2 HBz2
      have Hc2 := hid hc2
      clear hc2
      go_wp2_with fail
      refine (Q32.out _ HBz3.out).mono ?_
      rintro e w4 ⟨a3, d3, rfl, hx3, _, hc3, hB⟩
      have HBz4 := hid (bstep HBz3.out hB)
      have k0 := cstep k0 hB
      have k1 := cstep k1 hB
      have k2 := cstep k2 hB
      have X1 := hid (X1.out.mono hB)
      have X2 := hid (X2.out.mono hB)
      have X3 := hid hx3
      clear hB hx3 HBz3
      have Hc3 := hid hc3
      clear hc3
      go_wp2_with fail
      refine (Q27.out _ HBz4.out).mono ?_
      rintro e w5 ⟨rfl, hB⟩
      have HBz5 := hid (bstep HBz4.out hB)
      have k0 := cstep k0 hB
      have k1 := cstep k1 hB
      have k2 := cstep k2 hB
      have X1 := hid (X1.out.mono hB)
      have X2 := hid (X2.out.mono hB)
      have X3 := hid (X3.out.mono hB)
      clear hB HBz4
      go_wp2_with fail
      refine (R30.out _ _ _ HBz5.out X2.out (by have := HlK.out; omega) Hc2.out).mono ?_
      rintro e w6 ⟨a4, d4, rfl, hx4, _, hB⟩
      have HBz6 := hid (bstep HBz5.out hB)
      have k0 := cstep k0 hB
      have k1 := cstep k1 hB
      have k2 := cstep k2 hB
      have X1 := hid (X1.out.mono hB)
      have X2 := hid (X2.out.mono hB)
      have X3 := hid (X3.out.mono hB)
      clear hB HBz5
      go_wp2_with fail
      refine (R31.out _ _ _ HBz6.out X2.out (by have := HlK.out; omega) Hc2.out).mono ?_
      rintro e w7 ⟨a5, d5, rfl, hx5, _, hB⟩
      have HBz7 := hid (bstep HBz6.out hB)
      have k0 := cstep k0 hB
      have k1 := cstep k1 hB
      have k2 := cstep k2 hB
      have X1 := hid (X1.out.mono hB)
      have X2 := hid (X2.out.mono hB)
      have X3 := hid (X3.out.mono hB)
      clear hB HBz6
      go_wp2_with fail
      refine (HW.out _).mono ?_
      rintro e w8 ⟨rfl, hB⟩
      have HBz8 := hid (bstep HBz7.out hB)
      have k0 := cstep k0 hB
      have k1 := cstep k1 hB
      have k2 := cstep k2 hB
      have X1 := hid (X1.out.mono hB)
      have X2 := hid (X2.out.mono hB)
      have X3 := hid (X3.out.mono hB)
      clear hB HBz7
      go_wp2
      go_ret
      exact ⟨rfl, bstep HB0.out HBz8.out⟩
    case neg =>
    obtain ⟨hk1, hk2⟩ := hv.clashN hcl
    rw [← hS] at HlP Q32
    rw [(hv.leastD hcl).1, (hv.leastD hcl).2] at Q23
    rw [hk1, hk2] at Q33
    have hlt := hv.least_truth hcl
    have hlh := hv.least_has (i := i)
    have hvE := hv.verdictD hif hcl
    have hvN := (hv.verdictN hif).2 (hv.some hcl)
    have hMl := listed_len (derB seen rs) f
    obtain ⟨M, hM⟩ : ∃ M, M = listedB (derB seen rs) f := ⟨_, rfl⟩
    have R21 := hid fun a c w' h hx h1 => Q21.out a c w' h M hx h1
    have R22 := hid fun a c w' h hx h1 => Q22.out a c w' h M hx h1
    rw [← hM] at hlt hlh Q23 hMl
    rw [hlt] at R21 R22
    obtain ⟨v, hvv⟩ : ∃ v, v = rVerdictN (f : Int) seen rs i := ⟨_, rfl⟩
    rw [hvE, ← hvv] at Q27
    rw [← hvv] at hvN
    have HMl := hid (show M.length ≤ 1000 by omega)
    clear hk1 hk2 hvE hlt hvv hMl
    by_cases hd : Der rs (SeenP seen) i
    case pos =>
      obtain ⟨hs1, L, hs2, hs3⟩ := hv.stepsD hif hd
      have hLl := rcs_len (f : Int) seen rs (pStepsL (f : Int) seen rs i)
      rw [hs2] at hLl
      dsimp only at hLl
      rw [← hS] at hs2
      have R30 := hid fun a c w' h hx h1 h2 => Q30.out a c S w' h hx h1 h2
      have R31 := hid fun a c w' h hx h1 h2 => Q31.out a c S w' h hx h1 h2
      rw [hs2] at R30 R31
      rw [hs1] at Q32
      obtain rfl : v = 2 := hvN.1 hd
      have KH := hid fun (a : Option Addr) (c : Nat) (w' : World) (hx : IntsAt w' a M) => hasL_c a c M i w' hx (by have := HMl.out; omega)
      have KL := hid fun (a : Option Addr) (c : Nat) (w' : World) (hx : IntsAt w' a L) => hasL_c a c L i w' hx (by omega)
      simp only [any_contains, hs3] at KL
      simp only [any_contains, hlh.2 hd] at KH
      have HLl := hid hLl
      clear hs1 hs2 hs3 hlh hM hvN hLl hd hcl Q30 Q31 Q21 Q22 hC hv hil hl1 hl2 hl3 hz hgf hg hnil hn hi hif hS hK
      go_enter Try.func8, Try.ntmps8
      go_wp2_with fail
      rw [← HS.out]
      refine HG.out.mono ?_
      rintro e w1 ⟨rfl, hB⟩
      have HB1 := hid hB
      have k0 := cstep c0 hB; have k1 := cstep c1 hB; have k2 := cstep c2 hB
      clear hB c0 c1 c2
      go_wp2_with fail
      refine (Q23.out _ HB1.out).mono ?_
      rintro e w2 ⟨a1, d1, rfl, hx1, _, hB⟩
      have HBz2 := hid (bstep HB1.out hB)
      have k0 := cstep k0 hB
      have k1 := cstep k1 hB
      have k2 := cstep k2 hB
      have X1 := hid hx1
      clear hB hx1 HB1
      go_wp2_with fail
      refine (Q33.out _ HBz2.out).mono ?_
      rintro e w3 ⟨a2, d2, rfl, hx2, _, hc2, hB⟩
      have HBz3 := hid (bstep HBz2.out hB)
      have k0 := cstep k0 hB
      have k1 := cstep k1 hB
      have k2 := cstep k2 hB
      have X1 := hid (X1.out.mono hB)
      have X2 := hid hx2
      clear hB hx2 HBz2
      have Hc2 := hid hc2
      clear hc2
      go_wp2_with fail
      refine (Q32.out _ HBz3.out).mono ?_
      rintro e w4 ⟨a3, d3, rfl, hx3, _, hc3, hB⟩
      have HBz4 := hid (bstep HBz3.out hB)
      have k0 := cstep k0 hB
      have k1 := cstep k1 hB
      have k2 := cstep k2 hB
      have X1 := hid (X1.out.mono hB)
      have X2 := hid (X2.out.mono hB)
      have X3 := hid hx3
      clear hB hx3 HBz3
      have Hc3 := hid hc3
      clear hc3
      go_wp2_with fail
      refine (Q27.out _ HBz4.out).mono ?_
      rintro e w5 ⟨rfl, hB⟩
      have HBz5 := hid (bstep HBz4.out hB)
      have k0 := cstep k0 hB
      have k1 := cstep k1 hB
      have k2 := cstep k2 hB
      have X1 := hid (X1.out.mono hB)
      have X2 := hid (X2.out.mono hB)
      have X3 := hid (X3.out.mono hB)
      clear hB HBz4
      go_wp2_with fail
      refine (R21.out _ _ _ HBz5.out X1.out HMl.out).mono ?_
      rintro e w6 ⟨rfl, hB⟩
      have HBz6 := hid (bstep HBz5.out hB)
      have k0 := cstep k0 hB
      have k1 := cstep k1 hB
      have k2 := cstep k2 hB
      have X1 := hid (X1.out.mono hB)
      have X2 := hid (X2.out.mono hB)
      have X3 := hid (X3.out.mono hB)
      clear hB HBz5
      go_wp2_with fail
      refine (R22.out _ _ _ HBz6.out X1.out HMl.out).mono ?_
      rintro e w7 ⟨rfl, hB⟩
      have HBz7 := hid (bstep HBz6.out hB)
      have k0 := cstep k0 hB
      have k1 := cstep k1 hB
      have k2 := cstep k2 hB
      have X1 := hid (X1.out.mono hB)
      have X2 := hid (X2.out.mono hB)
      have X3 := hid (X3.out.mono hB)
      clear hB HBz6
      go_wp2_with fail
      refine (KH.out _ _ _ X1.out).mono ?_
      rintro e wq ⟨rfl, rfl⟩
      go_wp2_with fail
      refine (R30.out _ _ _ HBz7.out X3.out (by have := HlP.out; omega) Hc3.out).mono ?_
      rintro e w8 ⟨a4, d4, rfl, hx4, _, hB⟩
      have HBz8 := hid (bstep HBz7.out hB)
      have k0 := cstep k0 hB
      have k1 := cstep k1 hB
      have k2 := cstep k2 hB
      have X1 := hid (X1.out.mono hB)
      have X2 := hid (X2.out.mono hB)
      have X3 := hid (X3.out.mono hB)
      have X4 := hid hx4
      clear hB hx4 HBz7
      go_wp2_with fail
      refine (R31.out _ _ _ HBz8.out X3.out (by have := HlP.out; omega) Hc3.out).mono ?_
      rintro e w9 ⟨a5, d5, rfl, hx5, _, hB⟩
      have HBz9 := hid (bstep HBz8.out hB)
      have k0 := cstep k0 hB
      have k1 := cstep k1 hB
      have k2 := cstep k2 hB
      have X1 := hid (X1.out.mono hB)
      have X2 := hid (X2.out.mono hB)
      have X3 := hid (X3.out.mono hB)
      have X4 := hid (X4.out.mono hB)
      have X5 := hid hx5
      clear hB hx5 HBz8
      go_wp2_with fail
      refine (ints_c a4 a5 d4 d5 L L _ X4.out X5.out (by have := HLl.out; omega) (by have := HLl.out; omega)).mono ?_
      rintro e w10 ⟨rfl, hB⟩
      have HBz10 := hid (bstep HBz9.out hB)
      have k0 := cstep k0 hB
      have k1 := cstep k1 hB
      have k2 := cstep k2 hB
      have X1 := hid (X1.out.mono hB)
      have X2 := hid (X2.out.mono hB)
      have X3 := hid (X3.out.mono hB)
      have X4 := hid (X4.out.mono hB)
      have X5 := hid (X5.out.mono hB)
      clear hB HBz9
      have hdL : decide (L = L) = true := by simp
      rw [hdL]
      clear hdL
      go_wp2_with fail
      refine (KL.out _ _ _ X4.out).mono ?_
      rintro e wq ⟨rfl, rfl⟩
      go_wp2_with fail
      refine (HW.out _).mono ?_
      rintro e w11 ⟨rfl, hB⟩
      have HBz11 := hid (bstep HBz10.out hB)
      have k0 := cstep k0 hB
      have k1 := cstep k1 hB
      have k2 := cstep k2 hB
      have X1 := hid (X1.out.mono hB)
      have X2 := hid (X2.out.mono hB)
      have X3 := hid (X3.out.mono hB)
      have X4 := hid (X4.out.mono hB)
      have X5 := hid (X5.out.mono hB)
      clear hB HBz10
      go_wp2
      go_ret
      exact ⟨rfl, bstep HB0.out HBz11.out⟩
    case neg =>
      obtain ⟨hs1, hs2⟩ := hv.stepsN hif hd
      rw [← hS] at hs2
      rw [hs2, hs1] at Q32
      have hv2 : v ≠ 2 := by
        by_cases hq : Clsh rs (SeenQ seen i)
        · rw [hvN.2.1 hq]; decide
        · rw [hvN.2.2 hd hq]; decide
      have hvb : (v != 2) = true := by simpa using hv2
      have hmc : M.contains (i : Int) = false := by
        cases h : M.contains (i : Int) with
        | false => rfl
        | true => exact absurd (hlh.1 h) hd
      have KH := hid fun (a : Option Addr) (c : Nat) (w' : World) (hx : IntsAt w' a M) => hasL_c a c M i w' hx (by have := HMl.out; omega)
      simp only [any_contains, hmc] at KH
      clear hs1 hs2 hlh hM hvN hd hcl hv2 hmc Q30 Q31 Q21 Q22 hC hv hil hl1 hl2 hl3 hz hgf hg hnil hn hi hif hS hK
      go_enter Try.func8, Try.ntmps8
      go_wp2_with fail
      rw [← HS.out]
      refine HG.out.mono ?_
      rintro e w1 ⟨rfl, hB⟩
      have HB1 := hid hB
      have k0 := cstep c0 hB; have k1 := cstep c1 hB; have k2 := cstep c2 hB
      clear hB c0 c1 c2
      go_wp2_with fail
      refine (Q23.out _ HB1.out).mono ?_
      rintro e w2 ⟨a1, d1, rfl, hx1, _, hB⟩
      have HBz2 := hid (bstep HB1.out hB)
      have k0 := cstep k0 hB
      have k1 := cstep k1 hB
      have k2 := cstep k2 hB
      have X1 := hid hx1
      clear hB hx1 HB1
      go_wp2_with fail
      refine (Q33.out _ HBz2.out).mono ?_
      rintro e w3 ⟨a2, d2, rfl, hx2, _, hc2, hB⟩
      have HBz3 := hid (bstep HBz2.out hB)
      have k0 := cstep k0 hB
      have k1 := cstep k1 hB
      have k2 := cstep k2 hB
      have X1 := hid (X1.out.mono hB)
      have X2 := hid hx2
      clear hB hx2 HBz2
      have Hc2 := hid hc2
      clear hc2
      go_wp2_with fail
      refine (Q32.out _ HBz3.out).mono ?_
      rintro e w4 ⟨a3, d3, rfl, hx3, _, hc3, hB⟩
      have HBz4 := hid (bstep HBz3.out hB)
      have k0 := cstep k0 hB
      have k1 := cstep k1 hB
      have k2 := cstep k2 hB
      have X1 := hid (X1.out.mono hB)
      have X2 := hid (X2.out.mono hB)
      have X3 := hid hx3
      clear hB hx3 HBz3
      have Hc3 := hid hc3
      clear hc3
      go_wp2_with fail
      refine (Q27.out _ HBz4.out).mono ?_
      rintro e w5 ⟨rfl, hB⟩
      have HBz5 := hid (bstep HBz4.out hB)
      have k0 := cstep k0 hB
      have k1 := cstep k1 hB
      have k2 := cstep k2 hB
      have X1 := hid (X1.out.mono hB)
      have X2 := hid (X2.out.mono hB)
      have X3 := hid (X3.out.mono hB)
      clear hB HBz4
      go_wp2_with fail
      refine (R21.out _ _ _ HBz5.out X1.out HMl.out).mono ?_
      rintro e w6 ⟨rfl, hB⟩
      have HBz6 := hid (bstep HBz5.out hB)
      have k0 := cstep k0 hB
      have k1 := cstep k1 hB
      have k2 := cstep k2 hB
      have X1 := hid (X1.out.mono hB)
      have X2 := hid (X2.out.mono hB)
      have X3 := hid (X3.out.mono hB)
      clear hB HBz5
      go_wp2_with fail
      refine (R22.out _ _ _ HBz6.out X1.out HMl.out).mono ?_
      rintro e w7 ⟨rfl, hB⟩
      have HBz7 := hid (bstep HBz6.out hB)
      have k0 := cstep k0 hB
      have k1 := cstep k1 hB
      have k2 := cstep k2 hB
      have X1 := hid (X1.out.mono hB)
      have X2 := hid (X2.out.mono hB)
      have X3 := hid (X3.out.mono hB)
      clear hB HBz6
      go_wp2_with fail
      refine (KH.out _ _ _ X1.out).mono ?_
      rintro e wq ⟨rfl, rfl⟩
      go_wp2_with fail
      refine (HW.out _).mono ?_
      rintro e w8 ⟨rfl, hB⟩
      have HBz8 := hid (bstep HBz7.out hB)
      have k0 := cstep k0 hB
      have k1 := cstep k1 hB
      have k2 := cstep k2 hB
      have X1 := hid (X1.out.mono hB)
      have X2 := hid (X2.out.mono hB)
      have X3 := hid (X3.out.mono hB)
      clear hB HBz7
      go_wp2
      go_ret
      exact ⟨rfl, bstep HB0.out HBz8.out⟩

end Go.Proofs.Ytkioejdddmnbmaa
