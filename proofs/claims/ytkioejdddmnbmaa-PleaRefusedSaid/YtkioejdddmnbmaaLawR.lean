/- Walk: the law PleaRefused, out of the contract of Works. -/
import Derived.Test.YtkioejdddmnbmaaWi
namespace Go.Proofs.Ytkioejdddmnbmaa
open Go.RowKit Go.Shelf

set_option maxRecDepth 100000 in
set_option maxHeartbeats 8000000 in
theorem refused_law (hworks : WorksC) (facts : Int) (sa : Option Addr) (sc : Nat) (seen : List Int) (ra : Option Addr) (rc : Nat) (rs : List Rl) (n : Nat) (w : World) (hs : IntsAt w sa seen) (hr : RulesAt w ra rs) (hnil : sa = none → sc = 0) (hn : n < 256) :
    Calls Try.prog 9 #[.agg #[.int .i64 facts, .slice sa seen.length sc, .slice ra rs.length rc], .int .u8 n] w (TrueP w) := by
  have HW := hid hworks
  clear hworks
  obtain ⟨W0, hW0⟩ : ∃ W0, W0 = w.alloc (.cells #[.int .i64 facts, .slice sa seen.length sc, .slice ra rs.length rc] 25) := ⟨_, rfl⟩
  have HB0 := hid (show Below w.heap.size w W0 by rw [hW0]; exact bnew w _)
  obtain ⟨c0, c1, c2⟩ := caseBox w facts sa ra seen.length sc rs.length rc
  rw [← hW0] at c0 c1 c2
  have HR := hid (hr.mono HB0.out); have HSn := hid (hs.mono HB0.out)
  have HS := hid hW0
  clear hs hr hW0
  have HG := hid (sound_c sa ra sc rc facts seen rs W0 HSn.out HR.out)
  unfold TellB at HG
  by_cases hg : soundB facts seen rs = true
  case neg =>
    have hgn : soundB facts seen rs = false := by simpa using hg
    rw [hgn] at HG
    clear hg hgn hnil hn
    go_enter Try.func9, Try.ntmps9
    go_wp2_with fail
    rw [← HS.out]
    refine HG.out.mono ?_
    rintro e w1 ⟨rfl, hB⟩
    have HB1 := hid (bstep HB0.out hB)
    clear hB
    go_wp2_with fail
    refine (HW.out _).mono ?_
    rintro e w2 ⟨rfl, hB⟩
    have HB2 := hid (bstep HB1.out hB)
    clear hB
    go_wp2
    go_ret
    exact ⟨rfl, HB2.out⟩
  case pos =>
    obtain ⟨hfi, hcl⟩ := sound_true hg
    obtain ⟨hgf, hz⟩ := fine_true hfi
    clear hfi
    obtain ⟨hl1, hl2, hl3⟩ := great_lens hgf
    rw [hg] at HG
    obtain ⟨f, rfl, hf1, hf2⟩ := case_nat hz
    have hil : ∀ i, i < rs.length → (nthR rs i).1.length ≤ 1000000 := fun i hi => by have := hl3 i hi; omega
    have hv : Valid f seen rs := valid_of hz hil
    have hC : ∀ w', Below W0.heap.size W0 w' → CaseAt w' sa ra seen rs := fun w' h => great_case (HSn.out.mono h) (HR.out.mono h) hgf
    obtain ⟨i, hi⟩ : ∃ i, i = n % f := ⟨_, rfl⟩
    have hif : i < f := by rw [hi]; exact Nat.mod_lt _ (by omega)
    have hwr : IntKind.i64.wrap ((n : Nat) : Int) = (n : Int) := wrap_i64_nat (by omega)
    have hmod : ((n : Nat) : Int).tmod (f : Int) = (i : Int) := by rw [hi, Int.tmod_eq_emod_of_nonneg (by omega)]; rfl
    have hwi : IntKind.i64.wrap ((i : Nat) : Int) = (i : Int) := wrap_i64_nat (by omega)
    have hf0 : decide ((f : Int) = 0) = false := decide_eq_false (by omega)
    have hf0b : ((f : Int) == 0) = false := by simp; omega
    have hcl0 := hv.nocl hcl
    have hvX := hv.more i
    have hXl : (withL f seen i).length ≤ 12 := by have := listed_len (bitsL seen ||| 2 ^ i) f; unfold withL; omega
    have hsX := hv.seen_with hif
    have hcX := hv.clsh_with hif
    have hvE := hv.verdictD hif hcl0
    have hvN := (hv.verdictN hif).2 (hv.some hcl0)
    have hil2 := hvX.il
    have hCX : ∀ a w', Below W0.heap.size W0 w' → IntsAt w' a (withL f seen i) → CaseAt w' a ra (withL f seen i) rs := fun a w' h hx => ⟨hx, (hC w' h).r, by omega, (hC w' h).rl, hil⟩
    have Q27 := hid fun (w' : World) (h : Below W0.heap.size W0 w') => verdict_c f sa sc seen ra rc rs i w' (hC w' h) hnil (by omega)
    have Q48 := hid fun (w' : World) (h : Below W0.heap.size W0 w') => with_c f i sa ra sc rc rs.length seen w' ((hC w' h).s) (by omega) hv.ok.s (by omega) (by omega)
    have X33 := hid fun (a : Option Addr) (c : Nat) (w' : World) (h : Below W0.heap.size W0 w') (hx : IntsAt w' a (withL f seen i)) => pClash_c f a c (withL f seen i) ra rc rs w' (hCX a w' h hx)
    have X23 := hid fun (a : Option Addr) (c : Nat) (w' : World) (h : Below W0.heap.size W0 w') (hx : IntsAt w' a (withL f seen i)) => least_c f a c (withL f seen i) ra rc rs w' (hCX a w' h hx)
    have X30 := hid fun (a : Option Addr) (c : Nat) (b : Option Addr) (k : Nat) (l : List Int) (w' : World) (h : Below W0.heap.size W0 w') (hx : IntsAt w' a (withL f seen i)) (hl : IntsAt w' b l) (h1 : l.length ≤ 1000) (h2 : l.length ≤ k) => checkSteps_c f a c (withL f seen i) ra rc rs b k l w' (hCX a w' h hx) hl (by omega) h2
    have Q23 := hid fun (w' : World) (h : Below W0.heap.size W0 w') => least_c f sa sc seen ra rc rs w' (hC w' h)
    have Q21 := hid fun (a : Option Addr) (c : Nat) (l : List Int) (w' : World) (h : Below W0.heap.size W0 w') (hx : IntsAt w' a l) (h1 : l.length ≤ 1000) => checkTruth_c f sa sc seen ra rc rs a c l w' (hC w' h) hx (by omega)
    rw [(verdict_eq hil).1, (verdict_eq hil).2, hvE] at Q27
    rw [(least_eq hil).1, (least_eq hil).2, (hv.leastD hcl0).1, (hv.leastD hcl0).2] at Q23
    simp only [(least_eq hil).1, (least_eq hil).2] at X23
    simp only [pTruth_eq hil] at Q21
    simp only [pcs_eq hil] at X30
    have hlK := pClash_len (facts := (f : Int)) (seen := withL f seen i) hil
    have hlh := hv.least_has (i := i)
    have hMl : (listedB (derB seen rs) f).length ≤ 1000 := by have := listed_len (derB seen rs) f; omega
    unfold ListE at Q23 X23
    unfold ListC at X33
    unfold NumE at Q27
    unfold StepsP at X30
    unfold WithP at Q48
    obtain ⟨M, hM⟩ : ∃ M, M = listedB (derB seen rs) f := ⟨_, rfl⟩
    rw [← hM] at Q23 hlh hMl
    obtain ⟨v, hvv⟩ : ∃ v, v = rVerdictN (f : Int) seen rs i := ⟨_, rfl⟩
    rw [← hvv] at hvN Q27
    have HXl := hid hXl
    by_cases hq : Clsh rs (SeenQ seen i)
    case pos =>
      have hcq := hcX.2 hq
      obtain ⟨hk1, L, hk2⟩ := hvX.clashD hcq
      obtain rfl : v = 0 := hvN.2.1 hq
      simp only [(hvX.leastC hcq).1, (hvX.leastC hcq).2] at X23
      simp only [hk1] at X33
      have R30 := hid fun a c b k w' h hx hl h1 h2 => X30.out a c b k (pClashL (f : Int) (withL f seen i) rs) w' h hx hl h1 h2
      simp only [hk2] at R30
      obtain ⟨K, hK⟩ : ∃ K, K = pClashL (f : Int) (withL f seen i) rs := ⟨_, rfl⟩
      rw [← hK] at R30 X33 hlK
      obtain ⟨X, hX⟩ : ∃ X, X = withL f seen i := ⟨_, rfl⟩
      rw [← hX] at Q48 X33 X23 R30 HXl
      have HlK := hid hlK
      clear hk1 hk2 hK hlK hcq X30 Q23 Q21 hlh hM hMl hC hCX hv hvX hvE hvN hil hil2 hl1 hl2 hl3 hz hgf hg hnil hn hi hif hq hcX hsX hX hcl0 hXl hcl hvv
      go_enter Try.func9, Try.ntmps9
      go_wp2_with fail
      rw [← HS.out]
      refine HG.out.mono ?_
      rintro e w1 ⟨rfl, hB⟩
      have HB1 := hid hB
      have k0 := cstep c0 hB; have k1 := cstep c1 hB; have k2 := cstep c2 hB
      clear hB c0 c1 c2
      go_wp2_with fail
      refine (Q27.out _ HB1.out).mono ?_
      rintro e w2 ⟨rfl, hB⟩
      have HBz2 := hid (bstep HB1.out hB)
      have k0 := cstep k0 hB
      have k1 := cstep k1 hB
      have k2 := cstep k2 hB
      clear hB HB1
      go_wp2_with fail
      refine (Q48.out _ HBz2.out).mono ?_
      rintro e w3 ⟨a1, d1, rfl, hx1, _, hB⟩
      have HBz3 := hid (bstep HBz2.out hB)
      have k0 := cstep k0 hB
      have k1 := cstep k1 hB
      have k2 := cstep k2 hB
      have X1 := hid hx1
      clear hB hx1 HBz2
      go_wp2_with fail
      obtain ⟨w4, hw4⟩ : ∃ q, q = World.alloc w3 (.cells #[.int .i64 (f : Int), .slice a1 X.length d1, .slice ra rs.length rc] 25) := ⟨_, rfl⟩
      rw [← hw4]
      have hB : Below w3.heap.size w3 w4 := by rw [hw4]; exact bnew _ _
      obtain ⟨x0, x1, x2⟩ := caseBox w3 (f : Int) a1 ra X.length d1 rs.length rc
      rw [← hw4] at x0 x1 x2
      clear hw4
      have HBz4 := hid (bstep HBz3.out hB)
      have k0 := cstep k0 hB
      have k1 := cstep k1 hB
      have k2 := cstep k2 hB
      have X1 := hid (X1.out.mono hB)
      clear hB HBz3
      refine (X33.out _ _ _ HBz4.out X1.out).mono ?_
      rintro e w5 ⟨a2, d2, rfl, hx2, _, hc2, hB⟩
      have HBz5 := hid (bstep HBz4.out hB)
      have k0 := cstep k0 hB
      have k1 := cstep k1 hB
      have k2 := cstep k2 hB
      have x0 := cstep x0 hB
      have x1 := cstep x1 hB
      have x2 := cstep x2 hB
      have X1 := hid (X1.out.mono hB)
      have X2 := hid hx2
      clear hB hx2 HBz4
      have Hc2 := hid hc2
      clear hc2
      go_wp2_with fail
      refine (X23.out _ _ _ HBz5.out X1.out).mono ?_
      rintro e w6 ⟨a3, d3, rfl, hx3, _, hB⟩
      have HBz6 := hid (bstep HBz5.out hB)
      have k0 := cstep k0 hB
      have k1 := cstep k1 hB
      have k2 := cstep k2 hB
      have x0 := cstep x0 hB
      have x1 := cstep x1 hB
      have x2 := cstep x2 hB
      have X1 := hid (X1.out.mono hB)
      have X2 := hid (X2.out.mono hB)
      have X3 := hid hx3
      clear hB hx3 HBz5
      go_wp2_with fail
      refine (R30.out _ _ _ _ _ HBz6.out X1.out X2.out (by have := HlK.out; omega) Hc2.out).mono ?_
      rintro e w7 ⟨a4, d4, rfl, hx4, _, hB⟩
      have HBz7 := hid (bstep HBz6.out hB)
      have k0 := cstep k0 hB
      have k1 := cstep k1 hB
      have k2 := cstep k2 hB
      have x0 := cstep x0 hB
      have x1 := cstep x1 hB
      have x2 := cstep x2 hB
      have X1 := hid (X1.out.mono hB)
      have X2 := hid (X2.out.mono hB)
      have X3 := hid (X3.out.mono hB)
      clear hB HBz6
      go_wp2_with fail
      refine (HW.out _).mono ?_
      rintro e w8 ⟨rfl, hB⟩
      have HBz8 := hid (bstep HBz7.out hB)
      have k0 := cstep k0 hB
      have k1 := cstep k1 hB
      have k2 := cstep k2 hB
      have x0 := cstep x0 hB
      have x1 := cstep x1 hB
      have x2 := cstep x2 hB
      have X1 := hid (X1.out.mono hB)
      have X2 := hid (X2.out.mono hB)
      have X3 := hid (X3.out.mono hB)
      clear hB HBz7
      go_wp2
      go_ret
      exact ⟨rfl, bstep HB0.out HBz8.out⟩
    case neg =>
    have hcq : ¬ Clsh rs (SeenP (withL f seen i)) := fun h => hq (hcX.1 h)
    obtain ⟨hk1, hk2⟩ := hvX.clashN hcq
    simp only [(hvX.leastD hcq).1, (hvX.leastD hcq).2] at X23
    simp only [hk1, hk2] at X33
    have htr := hv.truth_more hvX (fun n hn => (hsX n).2 (.inl hn)) (fun _ h => h) hcq
    have hlX : (listedB (derB (withL f seen i) rs) f).contains (i : Int) = true := hvX.least_has.2 (.seen ((hsX i).2 (.inr rfl)))
    have hYl : (listedB (derB (withL f seen i) rs) f).length ≤ 1000 := by have := listed_len (derB (withL f seen i) rs) f; omega
    have R21 := hid fun a c w' h hx h1 => Q21.out a c (listedB (derB (withL f seen i) rs) f) w' h hx h1
    rw [htr] at R21
    obtain ⟨Y, hY⟩ : ∃ Y, Y = listedB (derB (withL f seen i) rs) f := ⟨_, rfl⟩
    rw [← hY] at R21 X23 hlX hYl
    have KY := hid fun (a : Option Addr) (c : Nat) (w' : World) (hx : IntsAt w' a Y) => hasL_c a c Y i w' hx (by omega)
    have KM := hid fun (a : Option Addr) (c : Nat) (w' : World) (hx : IntsAt w' a M) => hasL_c a c M i w' hx (by omega)
    simp only [any_contains, hlX] at KY
    have HYl := hid hYl
    obtain ⟨X, hX⟩ : ∃ X, X = withL f seen i := ⟨_, rfl⟩
    rw [← hX] at Q48 X33 X23 HXl
    obtain ⟨z, hz2, hvz⟩ : ∃ z : Bool, M.contains (i : Int) = z ∧ v = (if z = true then 2 else 1) := by
      by_cases hd : Der rs (SeenP seen) i
      · exact ⟨true, hlh.2 hd, hvN.1 hd⟩
      · refine ⟨false, ?_, hvN.2.2 hd hq⟩
        cases h : M.contains (i : Int) with
        | false => rfl
        | true => exact absurd (hlh.1 h) hd
    simp only [any_contains, hz2] at KM
    clear hk1 hk2 hcq X30 Q21 hlh hM hMl htr hlX hY hYl hz2 hlK hC hCX hv hvX hvE hvN hil hil2 hl1 hl2 hl3 hz hgf hg hnil hn hi hif hq hcX hsX hX hcl0 hXl hcl hvv
    cases z with
    | true =>
      obtain rfl : v = 2 := hvz
      go_enter Try.func9, Try.ntmps9
      go_wp2_with fail
      rw [← HS.out]
      refine HG.out.mono ?_
      rintro e w1 ⟨rfl, hB⟩
      have HB1 := hid hB
      have k0 := cstep c0 hB; have k1 := cstep c1 hB; have k2 := cstep c2 hB
      clear hB c0 c1 c2
      go_wp2_with fail
      refine (Q27.out _ HB1.out).mono ?_
      rintro e w2 ⟨rfl, hB⟩
      have HBz2 := hid (bstep HB1.out hB)
      have k0 := cstep k0 hB
      have k1 := cstep k1 hB
      have k2 := cstep k2 hB
      clear hB HB1
      go_wp2_with fail
      refine (Q48.out _ HBz2.out).mono ?_
      rintro e w3 ⟨a1, d1, rfl, hx1, _, hB⟩
      have HBz3 := hid (bstep HBz2.out hB)
      have k0 := cstep k0 hB
      have k1 := cstep k1 hB
      have k2 := cstep k2 hB
      have X1 := hid hx1
      clear hB hx1 HBz2
      go_wp2_with fail
      obtain ⟨w4, hw4⟩ : ∃ q, q = World.alloc w3 (.cells #[.int .i64 (f : Int), .slice a1 X.length d1, .slice ra rs.length rc] 25) := ⟨_, rfl⟩
      rw [← hw4]
      have hB : Below w3.heap.size w3 w4 := by rw [hw4]; exact bnew _ _
      obtain ⟨x0, x1, x2⟩ := caseBox w3 (f : Int) a1 ra X.length d1 rs.length rc
      rw [← hw4] at x0 x1 x2
      clear hw4
      have HBz4 := hid (bstep HBz3.out hB)
      have k0 := cstep k0 hB
      have k1 := cstep k1 hB
      have k2 := cstep k2 hB
      have X1 := hid (X1.out.mono hB)
      clear hB HBz3
      refine (X33.out _ _ _ HBz4.out X1.out).mono ?_
      rintro e w5 ⟨a2, d2, rfl, hx2, _, hc2, hB⟩
      have HBz5 := hid (bstep HBz4.out hB)
      have k0 := cstep k0 hB
      have k1 := cstep k1 hB
      have k2 := cstep k2 hB
      have x0 := cstep x0 hB
      have x1 := cstep x1 hB
      have x2 := cstep x2 hB
      have X1 := hid (X1.out.mono hB)
      have X2 := hid hx2
      clear hB hx2 HBz4
      have Hc2 := hid hc2
      clear hc2
      go_wp2_with fail
      refine (X23.out _ _ _ HBz5.out X1.out).mono ?_
      rintro e w6 ⟨a3, d3, rfl, hx3, _, hB⟩
      have HBz6 := hid (bstep HBz5.out hB)
      have k0 := cstep k0 hB
      have k1 := cstep k1 hB
      have k2 := cstep k2 hB
      have x0 := cstep x0 hB
      have x1 := cstep x1 hB
      have x2 := cstep x2 hB
      have X1 := hid (X1.out.mono hB)
      have X2 := hid (X2.out.mono hB)
      have X3 := hid hx3
      clear hB hx3 HBz5
      go_wp2_with fail
      refine (Q23.out _ HBz6.out).mono ?_
      rintro e w7 ⟨a4, d4, rfl, hx4, _, hB⟩
      have HBz7 := hid (bstep HBz6.out hB)
      have k0 := cstep k0 hB
      have k1 := cstep k1 hB
      have k2 := cstep k2 hB
      have x0 := cstep x0 hB
      have x1 := cstep x1 hB
      have x2 := cstep x2 hB
      have X1 := hid (X1.out.mono hB)
      have X2 := hid (X2.out.mono hB)
      have X3 := hid (X3.out.mono hB)
      have X4 := hid hx4
      clear hB hx4 HBz6
      go_wp2_with fail
      refine (R21.out _ _ _ HBz7.out X3.out HYl.out).mono ?_
      rintro e w8 ⟨rfl, hB⟩
      have HBz8 := hid (bstep HBz7.out hB)
      have k0 := cstep k0 hB
      have k1 := cstep k1 hB
      have k2 := cstep k2 hB
      have x0 := cstep x0 hB
      have x1 := cstep x1 hB
      have x2 := cstep x2 hB
      have X1 := hid (X1.out.mono hB)
      have X2 := hid (X2.out.mono hB)
      have X3 := hid (X3.out.mono hB)
      have X4 := hid (X4.out.mono hB)
      clear hB HBz7
      go_wp2_with fail
      refine (KY.out _ _ _ X3.out).mono ?_
      rintro e wq ⟨rfl, rfl⟩
      go_wp2_with fail
      refine (KM.out _ _ _ X4.out).mono ?_
      rintro e wq ⟨rfl, rfl⟩
      go_wp2_with fail
      refine (HW.out _).mono ?_
      rintro e w9 ⟨rfl, hB⟩
      have HBz9 := hid (bstep HBz8.out hB)
      have k0 := cstep k0 hB
      have k1 := cstep k1 hB
      have k2 := cstep k2 hB
      have x0 := cstep x0 hB
      have x1 := cstep x1 hB
      have x2 := cstep x2 hB
      have X1 := hid (X1.out.mono hB)
      have X2 := hid (X2.out.mono hB)
      have X3 := hid (X3.out.mono hB)
      have X4 := hid (X4.out.mono hB)
      clear hB HBz8
      go_wp2
      go_ret
      exact ⟨rfl, bstep HB0.out HBz9.out⟩
    | false =>
      obtain rfl : v = 1 := hvz
      go_enter Try.func9, Try.ntmps9
      go_wp2_with fail
      rw [← HS.out]
      refine HG.out.mono ?_
      rintro e w1 ⟨rfl, hB⟩
      have HB1 := hid hB
      have k0 := cstep c0 hB; have k1 := cstep c1 hB; have k2 := cstep c2 hB
      clear hB c0 c1 c2
      go_wp2_with fail
      refine (Q27.out _ HB1.out).mono ?_
      rintro e w2 ⟨rfl, hB⟩
      have HBz2 := hid (bstep HB1.out hB)
      have k0 := cstep k0 hB
      have k1 := cstep k1 hB
      have k2 := cstep k2 hB
      clear hB HB1
      go_wp2_with fail
      refine (Q48.out _ HBz2.out).mono ?_
      rintro e w3 ⟨a1, d1, rfl, hx1, _, hB⟩
      have HBz3 := hid (bstep HBz2.out hB)
      have k0 := cstep k0 hB
      have k1 := cstep k1 hB
      have k2 := cstep k2 hB
      have X1 := hid hx1
      clear hB hx1 HBz2
      go_wp2_with fail
      obtain ⟨w4, hw4⟩ : ∃ q, q = World.alloc w3 (.cells #[.int .i64 (f : Int), .slice a1 X.length d1, .slice ra rs.length rc] 25) := ⟨_, rfl⟩
      rw [← hw4]
      have hB : Below w3.heap.size w3 w4 := by rw [hw4]; exact bnew _ _
      obtain ⟨x0, x1, x2⟩ := caseBox w3 (f : Int) a1 ra X.length d1 rs.length rc
      rw [← hw4] at x0 x1 x2
      clear hw4
      have HBz4 := hid (bstep HBz3.out hB)
      have k0 := cstep k0 hB
      have k1 := cstep k1 hB
      have k2 := cstep k2 hB
      have X1 := hid (X1.out.mono hB)
      clear hB HBz3
      refine (X33.out _ _ _ HBz4.out X1.out).mono ?_
      rintro e w5 ⟨a2, d2, rfl, hx2, _, hc2, hB⟩
      have HBz5 := hid (bstep HBz4.out hB)
      have k0 := cstep k0 hB
      have k1 := cstep k1 hB
      have k2 := cstep k2 hB
      have x0 := cstep x0 hB
      have x1 := cstep x1 hB
      have x2 := cstep x2 hB
      have X1 := hid (X1.out.mono hB)
      have X2 := hid hx2
      clear hB hx2 HBz4
      have Hc2 := hid hc2
      clear hc2
      go_wp2_with fail
      refine (X23.out _ _ _ HBz5.out X1.out).mono ?_
      rintro e w6 ⟨a3, d3, rfl, hx3, _, hB⟩
      have HBz6 := hid (bstep HBz5.out hB)
      have k0 := cstep k0 hB
      have k1 := cstep k1 hB
      have k2 := cstep k2 hB
      have x0 := cstep x0 hB
      have x1 := cstep x1 hB
      have x2 := cstep x2 hB
      have X1 := hid (X1.out.mono hB)
      have X2 := hid (X2.out.mono hB)
      have X3 := hid hx3
      clear hB hx3 HBz5
      go_wp2_with fail
      refine (Q23.out _ HBz6.out).mono ?_
      rintro e w7 ⟨a4, d4, rfl, hx4, _, hB⟩
      have HBz7 := hid (bstep HBz6.out hB)
      have k0 := cstep k0 hB
      have k1 := cstep k1 hB
      have k2 := cstep k2 hB
      have x0 := cstep x0 hB
      have x1 := cstep x1 hB
      have x2 := cstep x2 hB
      have X1 := hid (X1.out.mono hB)
      have X2 := hid (X2.out.mono hB)
      have X3 := hid (X3.out.mono hB)
      have X4 := hid hx4
      clear hB hx4 HBz6
      go_wp2_with fail
      refine (R21.out _ _ _ HBz7.out X3.out HYl.out).mono ?_
      rintro e w8 ⟨rfl, hB⟩
      have HBz8 := hid (bstep HBz7.out hB)
      have k0 := cstep k0 hB
      have k1 := cstep k1 hB
      have k2 := cstep k2 hB
      have x0 := cstep x0 hB
      have x1 := cstep x1 hB
      have x2 := cstep x2 hB
      have X1 := hid (X1.out.mono hB)
      have X2 := hid (X2.out.mono hB)
      have X3 := hid (X3.out.mono hB)
      have X4 := hid (X4.out.mono hB)
      clear hB HBz7
      go_wp2_with fail
      refine (KY.out _ _ _ X3.out).mono ?_
      rintro e wq ⟨rfl, rfl⟩
      go_wp2_with fail
      refine (KM.out _ _ _ X4.out).mono ?_
      rintro e wq ⟨rfl, rfl⟩
      go_wp2_with fail
      refine (HW.out _).mono ?_
      rintro e w9 ⟨rfl, hB⟩
      have HBz9 := hid (bstep HBz8.out hB)
      have k0 := cstep k0 hB
      have k1 := cstep k1 hB
      have k2 := cstep k2 hB
      have x0 := cstep x0 hB
      have x1 := cstep x1 hB
      have x2 := cstep x2 hB
      have X1 := hid (X1.out.mono hB)
      have X2 := hid (X2.out.mono hB)
      have X3 := hid (X3.out.mono hB)
      have X4 := hid (X4.out.mono hB)
      clear hB HBz8
      go_wp2
      go_ret
      exact ⟨rfl, bstep HB0.out HBz9.out⟩

end Go.Proofs.Ytkioejdddmnbmaa
