/- Walk: the law PleaSteps, out of the contract of Works. -/
import Derived.Test.YtkioejdddmnbmaaLawA
import Derived.Test.YtkioejdddmnbmaaGp
import Derived.Test.YtkioejdddmnbmaaGf
namespace Go.Proofs.Ytkioejdddmnbmaa
open Go.RowKit Go.Shelf

theorem pSteps_len {facts : Int} {seen : List Int} {rs : List Rl} (x : Int) (hl : ∀ i, i < rs.length → (nthR rs i).1.length ≤ 1000000) : (pStepsL facts seen rs x).length ≤ 12 := by
  unfold pStepsL
  split
  · rename_i ho
    obtain ⟨hz, _⟩ := open_zero ho
    split
    · exact Nat.zero_le _
    · exact stepsM_len (deskOf_ordF (case_seen hz) (case_rules hz hl)) _
  · exact Nat.zero_le _
theorem pClash_len {facts : Int} {seen : List Int} {rs : List Rl} (hl : ∀ i, i < rs.length → (nthR rs i).1.length ≤ 1000000) : (pClashL facts seen rs).length ≤ 13 := by
  unfold pClashL
  split
  · rename_i hz
    split
    · exact Nat.zero_le _
    · have := stepsM_len (deskOf_ordF (case_seen hz) (case_rules hz hl)) (markL (nthR rs (deskOf seen rs).clash.toNat).1)
      rw [List.length_append, List.length_singleton]; omega
  · exact Nat.zero_le _
theorem pSteps_nil {facts : Int} {seen : List Int} {rs : List Rl} {x : Int} (h : pStepsE facts seen rs x ≠ 0) : pStepsL facts seen rs x = [] := by
  unfold pStepsE at h
  unfold pStepsL
  split
  · rename_i ho
    rw [if_pos ho] at h
    split
    · rfl
    · rename_i hk; rw [if_neg hk] at h; exact absurd rfl h
  · rfl
theorem pClash_nil {facts : Int} {seen : List Int} {rs : List Rl} (h : pClashE facts seen rs ≠ 0) : pClashL facts seen rs = [] := by
  unfold pClashE at h
  unfold pClashL
  split
  · rename_i ho
    rw [if_pos ho] at h
    split
    · rfl
    · rename_i hk; rw [if_neg hk] at h; exact absurd rfl h
  · rfl

set_option maxRecDepth 100000 in
set_option maxHeartbeats 8000000 in
theorem steps_law (hworks : WorksC) (facts : Int) (sa : Option Addr) (sc : Nat) (seen : List Int) (ra : Option Addr) (rc : Nat) (rs : List Rl) (x : Int) (ta : Option Addr) (tc : Nat) (t : List Int) (w : World) (hs : IntsAt w sa seen) (hr : RulesAt w ra rs) (ht : IntsAt w ta t) (htc : t.length ≤ tc) :
    Calls Try.prog 5 #[.agg #[.int .i64 facts, .slice sa seen.length sc, .slice ra rs.length rc], .int .i64 x, .slice ta t.length tc] w (TrueP w) := by
  have HW := hid hworks
  clear hworks
  obtain ⟨W0, hW0⟩ : ∃ W0, W0 = w.alloc (.cells #[.int .i64 facts, .slice sa seen.length sc, .slice ra rs.length rc] 25) := ⟨_, rfl⟩
  have HB0 := hid (show Below w.heap.size w W0 by rw [hW0]; exact bnew w _)
  obtain ⟨c0, c1, c2⟩ := caseBox w facts sa ra seen.length sc rs.length rc
  rw [← hW0] at c0 c1 c2
  have HR := hid (hr.mono HB0.out); have HSn := hid (hs.mono HB0.out); have HT := hid (ht.mono HB0.out)
  have HS := hid hW0
  clear hs hr ht hW0
  have HG := hid (great_c sa ra sc rc facts seen rs W0 HR.out)
  by_cases hg : greatB seen rs = true
  · rw [hg] at HG
    clear hg htc
    go_enter Try.func5, Try.ntmps5
    go_wp2_with fail
    rw [← HS.out]
    refine HG.out.mono ?_
    rintro e w1 ⟨rfl, hB⟩
    have HB1 := hid (bstep HB0.out hB)
    clear hB
    go_wp2_with fail
    refine (HW.out _).mono ?_
    rintro e w2 ⟨rfl, hB⟩
    have HB2 := hid (bstep HB1.out hB)
    clear hB
    go_wp2
    go_ret
    exact ⟨rfl, HB2.out⟩
  · have hgf : greatB seen rs = false := by simpa using hg
    obtain ⟨hl1, hl2, hl3⟩ := great_lens hgf
    rw [hgf] at HG
    clear hg hgf
    by_cases hT : 20 < t.length
    · have hd : decide ((t.length : Int) > 20) = true := by simp; omega
      clear hT htc
      go_enter Try.func5, Try.ntmps5
      go_wp2_with fail
      rw [← HS.out]
      refine HG.out.mono ?_
      rintro e w1 ⟨rfl, hB⟩
      have HB1 := hid (bstep HB0.out hB)
      clear hB
      go_wp2_with fail
      refine (HW.out _).mono ?_
      rintro e w2 ⟨rfl, hB⟩
      have HB2 := hid (bstep HB1.out hB)
      clear hB
      go_wp2
      go_ret
      exact ⟨rfl, HB2.out⟩
    · have hd : decide ((t.length : Int) > 20) = false := by simp; omega
      have hil : ∀ i, i < rs.length → (nthR rs i).1.length ≤ 1000000 := fun i hi => by have := hl3 i hi; omega
      have hC : ∀ w', Below W0.heap.size W0 w' → CaseAt w' sa ra seen rs := fun w' h => ⟨HSn.out.mono h, HR.out.mono h, by omega, by omega, hil⟩
      have Q30 := hid fun (w' : World) (h : Below W0.heap.size W0 w') => (checkSteps_c facts sa sc seen ra rc rs ta tc t w' (hC w' h) (HT.out.mono h) (by omega) htc)
      have Q31 := hid fun (w' : World) (h : Below W0.heap.size W0 w') => (rCheckSteps_c facts sa sc seen ra rc rs ta tc t w' (hC w' h) (HT.out.mono h) (by omega) htc)
      have Q31' := hid fun (a : Option Addr) (c : Nat) (l : List Int) (w' : World) (h : Below W0.heap.size W0 w') (hl : IntsAt w' a l) (h1 : l.length ≤ 1000) (h2 : l.length ≤ c) => (rCheckSteps_c facts sa sc seen ra rc rs a c l w' (hC w' h) hl (by omega) h2)
      have Q37 := hid fun (a : Option Addr) (c : Nat) (l : List Int) (y : Int) (w' : World) (h : Below W0.heap.size W0 w') (hl : IntsAt w' a l) (h1 : l.length ≤ 1000) (h2 : l.length ≤ c) => (tight_c sa ra a sc rc c facts seen rs l y w' (hC w' h) hl h1 h2)
      have Q32 := hid fun (w' : World) (h : Below W0.heap.size W0 w') => (pSteps_c facts sa sc seen ra rc rs x w' (hC w' h))
      have Q33 := hid fun (w' : World) (h : Below W0.heap.size W0 w') => (pClash_c facts sa sc seen ra rc rs w' (hC w' h))
      have Q34 := hid fun (w' : World) (h : Below W0.heap.size W0 w') => (rSteps_c sa ra sc rc facts seen rs x w' (hC w' h))
      have Q35 := hid fun (w' : World) (h : Below W0.heap.size W0 w') => (rClash_c sa ra sc rc facts seen rs w' (hC w' h))
      have hlt := rcs_len facts seen rs t
      have hlP := pSteps_len (facts := facts) (seen := seen) x hil
      have hlK := pClash_len (facts := facts) (seen := seen) hil
      have hx1 : pStepsE facts seen rs x = 0 → (rcs facts seen rs (pStepsL facts seen rs x)).2.2 = 0 ∧ (rcs facts seen rs (pStepsL facts seen rs x)).2.1 = false ∧ (rcs facts seen rs (pStepsL facts seen rs x)).1.contains x = true ∧ tightB facts seen rs (pStepsL facts seen rs x) x = true := fun h => by
        obtain ⟨a, b, c⟩ := steps_taken hil h
        exact ⟨a, b, c, tight_steps hil h⟩
      have hx2 : pClashE facts seen rs = 0 → (rcs facts seen rs (pClashL facts seen rs)).2.2 = 0 ∧ (rcs facts seen rs (pClashL facts seen rs)).2.1 = true ∧ tightB facts seen rs (pClashL facts seen rs) (-1) = true := fun h => by
        obtain ⟨a, b⟩ := clash_taken hil h
        exact ⟨a, b, tight_clash hil h⟩
      have hx3 : pStepsE facts seen rs x ≠ 0 → pStepsL facts seen rs x = [] := pSteps_nil
      have hx4 : pClashE facts seen rs ≠ 0 → pClashL facts seen rs = [] := pClash_nil
      have hlR1 := rcs_len facts seen rs (pStepsL facts seen rs x)
      rw [pcs_eq hil] at Q30
      rw [← stepsE_eq hil] at Q34
      rw [← clashE_eq hil] at Q35
      unfold StepsP at Q30 Q31 Q31'
      unfold ListC at Q32 Q33
      unfold TellB at Q37
      obtain ⟨⟨L, C, E⟩, hL⟩ : ∃ T, T = rcs facts seen rs t := ⟨_, rfl⟩
      obtain ⟨S, hS⟩ : ∃ T, T = pStepsL facts seen rs x := ⟨_, rfl⟩
      obtain ⟨e3, he3⟩ : ∃ T, T = pStepsE facts seen rs x := ⟨_, rfl⟩
      obtain ⟨K, hK⟩ : ∃ T, T = pClashL facts seen rs := ⟨_, rfl⟩
      obtain ⟨e4, he4⟩ : ∃ T, T = pClashE facts seen rs := ⟨_, rfl⟩
      rw [← hL] at Q30 Q31 hlt
      rw [← hS] at Q32 hlP hx1 hx3 hlR1
      rw [← he3] at Q32 Q34 hx1 hx3
      rw [← hK] at Q33 hlK hx2 hx4
      rw [← he4] at Q33 Q35 hx2 hx4
      dsimp only at Q30 Q31 hlt
      have qS : decide ((S.length : Int) > 18) = false := by simp; omega
      have qK : decide ((K.length : Int) > 18) = false := by simp; omega
      have Hlt := hid hlt; have HlP := hid hlP; have HlK := hid hlK; have Hx1 := hid hx1; have Hx2 := hid hx2; have Hx3 := hid hx3; have Hx4 := hid hx4; have HlR1 := hid hlR1
      clear hL hS he3 hK he4 hlt hlP hlK hx1 hx2 hx3 hx4 hlR1 hC hl1 hl2 hl3 hil hT htc
      go_enter Try.func5, Try.ntmps5
      go_wp2_with fail
      rw [← HS.out]
      refine HG.out.mono ?_
      rintro e w1 ⟨rfl, hB⟩
      have HB1 := hid hB
      have k0 := cstep c0 hB; have k1 := cstep c1 hB; have k2 := cstep c2 hB
      clear hB c0 c1 c2
      go_wp2_with fail
      refine (Q30.out _ HB1.out).mono ?_
      rintro e w2 ⟨a1, d1, rfl, hx1, _, hB⟩
      have HBz2 := hid (bstep HB1.out hB)
      have k0 := cstep k0 hB
      have k1 := cstep k1 hB
      have k2 := cstep k2 hB
      have X1 := hid hx1
      clear hB hx1 HB1
      go_wp2_with fail
      refine (Q31.out _ HBz2.out).mono ?_
      rintro e w3 ⟨a2, d2, rfl, hx2, _, hB⟩
      have HBz3 := hid (bstep HBz2.out hB)
      have k0 := cstep k0 hB
      have k1 := cstep k1 hB
      have k2 := cstep k2 hB
      have X1 := hid (X1.out.mono hB)
      have X2 := hid hx2
      clear hB hx2 HBz2
      go_wp2_with fail
      refine (Q32.out _ HBz3.out).mono ?_
      rintro e w4 ⟨a3, d3, rfl, hx3, _, hc3, hB⟩
      have HBz4 := hid (bstep HBz3.out hB)
      have k0 := cstep k0 hB
      have k1 := cstep k1 hB
      have k2 := cstep k2 hB
      have X1 := hid (X1.out.mono hB)
      have X2 := hid (X2.out.mono hB)
      have XS := hid hx3
      clear hB hx3 HBz3
      have Hc3 := hid hc3
      clear hc3
      go_wp2_with fail
      refine (Q33.out _ HBz4.out).mono ?_
      rintro e w5 ⟨a4, d4, rfl, hx4, _, hc4, hB⟩
      have HBz5 := hid (bstep HBz4.out hB)
      have k0 := cstep k0 hB
      have k1 := cstep k1 hB
      have k2 := cstep k2 hB
      have X1 := hid (X1.out.mono hB)
      have X2 := hid (X2.out.mono hB)
      have XS := hid (XS.out.mono hB)
      have XK := hid hx4
      clear hB hx4 HBz4
      have Hc4 := hid hc4
      clear hc4
      go_wp2_with fail
      refine (ints_c a1 a2 d1 d2 L L _ X1.out X2.out (by have := Hlt.out; omega) (by have := Hlt.out; omega)).mono ?_
      rintro e w6 ⟨rfl, hB⟩
      have HBz6 := hid (bstep HBz5.out hB)
      have k0 := cstep k0 hB
      have k1 := cstep k1 hB
      have k2 := cstep k2 hB
      have X1 := hid (X1.out.mono hB)
      have X2 := hid (X2.out.mono hB)
      have XS := hid (XS.out.mono hB)
      have XK := hid (XK.out.mono hB)
      clear hB HBz5
      have hdL : decide (L = L) = true := by simp
      rw [hdL]
      clear hdL
      go_wp2_with fail
      refine (Q34.out _ HBz6.out).mono ?_
      rintro e w7 ⟨rfl, hB⟩
      have HBz7 := hid (bstep HBz6.out hB)
      have k0 := cstep k0 hB
      have k1 := cstep k1 hB
      have k2 := cstep k2 hB
      have X1 := hid (X1.out.mono hB)
      have X2 := hid (X2.out.mono hB)
      have XS := hid (XS.out.mono hB)
      have XK := hid (XK.out.mono hB)
      clear hB HBz6
      go_wp2_with fail
      refine (Q35.out _ HBz7.out).mono ?_
      rintro e w8 ⟨rfl, hB⟩
      have HBz8 := hid (bstep HBz7.out hB)
      have k0 := cstep k0 hB
      have k1 := cstep k1 hB
      have k2 := cstep k2 hB
      have X1 := hid (X1.out.mono hB)
      have X2 := hid (X2.out.mono hB)
      have XS := hid (XS.out.mono hB)
      have XK := hid (XK.out.mono hB)
      clear hB HBz7
      clear X1 X2 Q30 Q31 Q32 Q33 Q34 Q35
      by_cases hz3 : e3 = 0
      · by_cases hz4 : e4 = 0
        · subst hz3
          subst hz4
          obtain ⟨u1, u2, u3, u4⟩ := Hx1.out (by first | rfl | trivial)
          have HQ := Q31'.out a3 d3 S _ HBz8.out XS.out (by have := HlP.out; omega) Hc3.out
          have HQt := Q37.out a3 d3 S x
          rw [u4] at HQt
          have hLL := HlR1.out
          obtain ⟨⟨Ls, Cs, Es⟩, hLs⟩ : ∃ T, T = rcs facts seen rs S := ⟨_, rfl⟩
          rw [← hLs] at HQ u1 u2 u3 hLL
          dsimp only at HQ u1 u2 u3 hLL
          subst u1; subst u2
          have HQ := hid HQ; have HQt := hid HQt; have HLL := hid hLL; have Hu3 := hid u3
          clear hLs u4 hLL u3
          go_wp2_with fail
          refine (HQ.out).mono ?_
          rintro e w9 ⟨a6, d6, rfl, hx6, _, hB⟩
          have HBz9 := hid (bstep HBz8.out hB)
          have k0 := cstep k0 hB
          have k1 := cstep k1 hB
          have k2 := cstep k2 hB
          have XS := hid (XS.out.mono hB)
          have XK := hid (XK.out.mono hB)
          have X6 := hid hx6
          clear hB hx6 HBz8
          have HH := hasL_c a6 d6 Ls x _ X6.out (by have := HLL.out; omega)
          rw [any_contains, Hu3.out] at HH
          have HH := hid HH
          go_wp2_with fail
          refine HH.out.mono ?_
          rintro e w11 ⟨rfl, rfl⟩
          clear HH Hu3
          go_wp2_with fail
          refine (HQt.out _ HBz9.out XS.out (by have := HlP.out; omega) Hc3.out).mono ?_
          rintro e w10 ⟨rfl, hB⟩
          have HBz10 := hid (bstep HBz9.out hB)
          have k0 := cstep k0 hB
          have k1 := cstep k1 hB
          have k2 := cstep k2 hB
          have XS := hid (XS.out.mono hB)
          have XK := hid (XK.out.mono hB)
          have X6 := hid (X6.out.mono hB)
          clear hB HBz9
          obtain ⟨u1, u2, u3⟩ := Hx2.out (by first | rfl | trivial)
          have HQ := Q31'.out a4 d4 K _ HBz10.out XK.out (by have := HlK.out; omega) Hc4.out
          have HQt := Q37.out a4 d4 K (-1)
          rw [u3] at HQt
          obtain ⟨⟨Lk, Ck, Ek⟩, hLk⟩ : ∃ T, T = rcs facts seen rs K := ⟨_, rfl⟩
          rw [← hLk] at HQ u1 u2
          dsimp only at HQ u1 u2
          subst u1; subst u2
          have HQ := hid HQ; have HQt := hid HQt
          clear hLk u3
          go_wp2_with fail
          refine (HQ.out).mono ?_
          rintro e w11 ⟨a7, d7, rfl, _, _, hB⟩
          have HBz11 := hid (bstep HBz10.out hB)
          have k0 := cstep k0 hB
          have k1 := cstep k1 hB
          have k2 := cstep k2 hB
          have XS := hid (XS.out.mono hB)
          have XK := hid (XK.out.mono hB)
          have X6 := hid (X6.out.mono hB)
          clear hB HBz10
          go_wp2_with fail
          refine (HQt.out _ HBz11.out XK.out (by have := HlK.out; omega) Hc4.out).mono ?_
          rintro e w12 ⟨rfl, hB⟩
          have HBz12 := hid (bstep HBz11.out hB)
          have k0 := cstep k0 hB
          have k1 := cstep k1 hB
          have k2 := cstep k2 hB
          have XS := hid (XS.out.mono hB)
          have XK := hid (XK.out.mono hB)
          have X6 := hid (X6.out.mono hB)
          clear hB HBz11
          go_wp2_with fail
          refine (HW.out _).mono ?_
          rintro e w13 ⟨rfl, hB⟩
          have HBz13 := hid (bstep HBz12.out hB)
          have k0 := cstep k0 hB
          have k1 := cstep k1 hB
          have k2 := cstep k2 hB
          have XS := hid (XS.out.mono hB)
          have XK := hid (XK.out.mono hB)
          have X6 := hid (X6.out.mono hB)
          clear hB HBz12
          go_wp2
          go_ret
          exact ⟨rfl, bstep HB0.out HBz13.out⟩
        · subst hz3
          obtain rfl := Hx4.out hz4
          have q4 : (e4 == 0) = false := by simpa using hz4
          have q4n : (e4 != 0) = true := errB hz4
          clear hz4
          obtain ⟨u1, u2, u3, u4⟩ := Hx1.out (by first | rfl | trivial)
          have HQ := Q31'.out a3 d3 S _ HBz8.out XS.out (by have := HlP.out; omega) Hc3.out
          have HQt := Q37.out a3 d3 S x
          rw [u4] at HQt
          have hLL := HlR1.out
          obtain ⟨⟨Ls, Cs, Es⟩, hLs⟩ : ∃ T, T = rcs facts seen rs S := ⟨_, rfl⟩
          rw [← hLs] at HQ u1 u2 u3 hLL
          dsimp only at HQ u1 u2 u3 hLL
          subst u1; subst u2
          have HQ := hid HQ; have HQt := hid HQt; have HLL := hid hLL; have Hu3 := hid u3
          clear hLs u4 hLL u3
          go_wp2_with fail
          refine (HQ.out).mono ?_
          rintro e w9 ⟨a6, d6, rfl, hx6, _, hB⟩
          have HBz9 := hid (bstep HBz8.out hB)
          have k0 := cstep k0 hB
          have k1 := cstep k1 hB
          have k2 := cstep k2 hB
          have XS := hid (XS.out.mono hB)
          have XK := hid (XK.out.mono hB)
          have X6 := hid hx6
          clear hB hx6 HBz8
          have HH := hasL_c a6 d6 Ls x _ X6.out (by have := HLL.out; omega)
          rw [any_contains, Hu3.out] at HH
          have HH := hid HH
          go_wp2_with fail
          refine HH.out.mono ?_
          rintro e w11 ⟨rfl, rfl⟩
          clear HH Hu3
          go_wp2_with fail
          refine (HQt.out _ HBz9.out XS.out (by have := HlP.out; omega) Hc3.out).mono ?_
          rintro e w10 ⟨rfl, hB⟩
          have HBz10 := hid (bstep HBz9.out hB)
          have k0 := cstep k0 hB
          have k1 := cstep k1 hB
          have k2 := cstep k2 hB
          have XS := hid (XS.out.mono hB)
          have XK := hid (XK.out.mono hB)
          have X6 := hid (X6.out.mono hB)
          clear hB HBz9
          go_wp2_with fail
          refine (HW.out _).mono ?_
          rintro e w11 ⟨rfl, hB⟩
          have HBz11 := hid (bstep HBz10.out hB)
          have k0 := cstep k0 hB
          have k1 := cstep k1 hB
          have k2 := cstep k2 hB
          have XS := hid (XS.out.mono hB)
          have XK := hid (XK.out.mono hB)
          have X6 := hid (X6.out.mono hB)
          clear hB HBz10
          go_wp2
          go_ret
          exact ⟨rfl, bstep HB0.out HBz11.out⟩
      · by_cases hz4 : e4 = 0
        · obtain rfl := Hx3.out hz3
          have q3 : (e3 == 0) = false := by simpa using hz3
          have q3n : (e3 != 0) = true := errB hz3
          clear hz3
          subst hz4
          obtain ⟨u1, u2, u3⟩ := Hx2.out (by first | rfl | trivial)
          have HQ := Q31'.out a4 d4 K _ HBz8.out XK.out (by have := HlK.out; omega) Hc4.out
          have HQt := Q37.out a4 d4 K (-1)
          rw [u3] at HQt
          obtain ⟨⟨Lk, Ck, Ek⟩, hLk⟩ : ∃ T, T = rcs facts seen rs K := ⟨_, rfl⟩
          rw [← hLk] at HQ u1 u2
          dsimp only at HQ u1 u2
          subst u1; subst u2
          have HQ := hid HQ; have HQt := hid HQt
          clear hLk u3
          go_wp2_with fail
          refine (HQ.out).mono ?_
          rintro e w9 ⟨a7, d7, rfl, _, _, hB⟩
          have HBz9 := hid (bstep HBz8.out hB)
          have k0 := cstep k0 hB
          have k1 := cstep k1 hB
          have k2 := cstep k2 hB
          have XS := hid (XS.out.mono hB)
          have XK := hid (XK.out.mono hB)
          clear hB HBz8
          go_wp2_with fail
          refine (HQt.out _ HBz9.out XK.out (by have := HlK.out; omega) Hc4.out).mono ?_
          rintro e w10 ⟨rfl, hB⟩
          have HBz10 := hid (bstep HBz9.out hB)
          have k0 := cstep k0 hB
          have k1 := cstep k1 hB
          have k2 := cstep k2 hB
          have XS := hid (XS.out.mono hB)
          have XK := hid (XK.out.mono hB)
          clear hB HBz9
          go_wp2_with fail
          refine (HW.out _).mono ?_
          rintro e w11 ⟨rfl, hB⟩
          have HBz11 := hid (bstep HBz10.out hB)
          have k0 := cstep k0 hB
          have k1 := cstep k1 hB
          have k2 := cstep k2 hB
          have XS := hid (XS.out.mono hB)
          have XK := hid (XK.out.mono hB)
          clear hB HBz10
          go_wp2
          go_ret
          exact ⟨rfl, bstep HB0.out HBz11.out⟩
        · obtain rfl := Hx3.out hz3
          have q3 : (e3 == 0) = false := by simpa using hz3
          have q3n : (e3 != 0) = true := errB hz3
          clear hz3
          obtain rfl := Hx4.out hz4
          have q4 : (e4 == 0) = false := by simpa using hz4
          have q4n : (e4 != 0) = true := errB hz4
          clear hz4
          go_wp2_with fail
          refine (HW.out _).mono ?_
          rintro e w9 ⟨rfl, hB⟩
          have HBz9 := hid (bstep HBz8.out hB)
          have k0 := cstep k0 hB
          have k1 := cstep k1 hB
          have k2 := cstep k2 hB
          have XS := hid (XS.out.mono hB)
          have XK := hid (XK.out.mono hB)
          clear hB HBz8
          go_wp2
          go_ret
          exact ⟨rfl, bstep HB0.out HBz9.out⟩

end Go.Proofs.Ytkioejdddmnbmaa
