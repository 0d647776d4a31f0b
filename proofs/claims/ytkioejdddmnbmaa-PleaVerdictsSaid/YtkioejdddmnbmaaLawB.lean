/- Walk: the law PleaVerdicts, out of the contract of Works. -/
import Derived.Test.YtkioejdddmnbmaaLawA
import Derived.Test.YtkioejdddmnbmaaPa
import Derived.Test.YtkioejdddmnbmaaSf
namespace Go.Proofs.Ytkioejdddmnbmaa
open Go.RowKit Go.Shelf

set_option maxRecDepth 100000 in
set_option maxHeartbeats 4000000 in
theorem verdicts_law (hworks : WorksC) (facts : Int) (sa : Option Addr) (sc : Nat) (seen : List Int) (ra : Option Addr) (rc : Nat) (rs : List Rl) (x : Int) (w : World) (hs : IntsAt w sa seen) (hr : RulesAt w ra rs) (hnil : sa = none → sc = 0) :
    Calls Try.prog 4 #[.agg #[.int .i64 facts, .slice sa seen.length sc, .slice ra rs.length rc], .int .i64 x] w (TrueP w) := by
  have HW := hid hworks
  clear hworks
  obtain ⟨W0, hW0⟩ : ∃ W0, W0 = w.alloc (.cells #[.int .i64 facts, .slice sa seen.length sc, .slice ra rs.length rc] 25) := ⟨_, rfl⟩
  have HB0 := hid (show Below w.heap.size w W0 by rw [hW0]; exact bnew w _)
  obtain ⟨c0, c1, c2⟩ := caseBox w facts sa ra seen.length sc rs.length rc
  rw [← hW0] at c0 c1 c2
  have HR := hid (hr.mono HB0.out); have HSn := hid (hs.mono HB0.out)
  have HS := hid hW0
  clear hs hr hW0
  have HG := hid (great_c sa ra sc rc facts seen rs W0 HR.out)
  by_cases hg : greatB seen rs = true
  · rw [hg] at HG
    clear hg hnil
    go_enter Try.func4, Try.ntmps4
    go_wp2_with fail
    rw [← HS.out]
    refine HG.out.mono ?_
    rintro e w1 ⟨rfl, hB⟩
    have HB1 := hid (bstep HB0.out hB)
    clear hB
    go_wp2_with fail
    refine (HW.out _).mono ?_
    rintro e w2 ⟨rfl, hB⟩
    have HB2 := hid (bstep HB1.out hB)
    clear hB
    go_wp2
    go_ret
    exact ⟨rfl, HB2.out⟩
  · have hgf : greatB seen rs = false := by simpa using hg
    obtain ⟨hl1, hl2, hl3⟩ := great_lens hgf
    rw [hgf] at HG
    clear hg hgf
    have hl4 : ∀ i, i < rs.length → (nthR rs i).1.length ≤ 1000000 := fun i hi => by have := hl3 i hi; omega
    have hC : ∀ w', Below W0.heap.size W0 w' → CaseAt w' sa ra seen rs := fun w' h => ⟨HSn.out.mono h, HR.out.mono h, by omega, by omega, hl4⟩
    have hlen : (rLeastL facts seen rs).length ≤ 1000000 := by
      unfold rLeastL
      split
      · rename_i hz
        have := (case_zero hz).1
        split
        · simp
        · have := selTo_length (fun k => ((truthsN facts.toNat seen rs).foldl (· &&& ·) 4095).testBit k) facts.toNat
          unfold listedB; omega
      · simp
    obtain ⟨l, hl⟩ : ∃ l, l = rLeastL facts seen rs := ⟨_, rfl⟩
    obtain ⟨e1, he1⟩ : ∃ e, e = rLeastE facts seen rs := ⟨_, rfl⟩
    obtain ⟨n, hn⟩ : ∃ n, n = rCountN facts seen rs := ⟨_, rfl⟩
    obtain ⟨ce, hce⟩ : ∃ e, e = caseErr facts seen rs := ⟨_, rfl⟩
    obtain ⟨v, hv⟩ : ∃ n, n = rVerdictN facts seen rs x := ⟨_, rfl⟩
    obtain ⟨e2, he2⟩ : ∃ n, n = rVerdictE facts seen rs x := ⟨_, rfl⟩
    have Q23 := hid fun (w' : World) (h : Below W0.heap.size W0 w') => (show Calls Try.prog 23 #[.agg #[.int .i64 facts, .slice sa seen.length sc, .slice ra rs.length rc]] w' (ListE w' l e1) from by rw [hl, he1, ← (least_eq hl4).1, ← (least_eq hl4).2]; exact least_c facts sa sc seen ra rc rs w' (hC w' h))
    have Q24 := hid fun (w' : World) (h : Below W0.heap.size W0 w') => (show Calls Try.prog 24 #[.agg #[.int .i64 facts, .slice sa seen.length sc, .slice ra rs.length rc]] w' (ListE w' l e1) from by rw [hl, he1]; exact rLeast_c sa ra sc rc facts seen rs w' (hC w' h))
    have Q25 := hid fun (w' : World) (h : Below W0.heap.size W0 w') => (show Calls Try.prog 25 #[.agg #[.int .i64 facts, .slice sa seen.length sc, .slice ra rs.length rc]] w' (NumE w' n ce) from by rw [hn, hce, ← count_eq hl4]; exact count_c facts sa sc seen ra rc rs w' (hC w' h))
    have Q26 := hid fun (w' : World) (h : Below W0.heap.size W0 w') => (show Calls Try.prog 26 #[.agg #[.int .i64 facts, .slice sa seen.length sc, .slice ra rs.length rc]] w' (NumE w' n ce) from by rw [hn, hce]; exact rCount_c sa ra sc rc facts seen rs w' (hC w' h))
    have Q27 := hid fun (w' : World) (h : Below W0.heap.size W0 w') => (show Calls Try.prog 27 #[.agg #[.int .i64 facts, .slice sa seen.length sc, .slice ra rs.length rc], .int .i64 x] w' (NumE w' v e2) from by rw [hv, he2, ← (verdict_eq hl4).1, ← (verdict_eq hl4).2]; exact verdict_c facts sa sc seen ra rc rs x w' (hC w' h) hnil (by omega))
    have Q28 := hid fun (w' : World) (h : Below W0.heap.size W0 w') => (show Calls Try.prog 28 #[.agg #[.int .i64 facts, .slice sa seen.length sc, .slice ra rs.length rc], .int .i64 x] w' (NumE w' v e2) from by rw [hv, he2]; exact rVerdict_c sa ra sc rc facts seen rs x w' (hC w' h))
    rw [← hl] at hlen
    clear hl he1 hn hce hv he2 hl1 hl2 hl3 hl4 hC hnil
    go_enter Try.func4, Try.ntmps4
    go_wp2_with fail
    rw [← HS.out]
    refine HG.out.mono ?_
    rintro e w1 ⟨rfl, hB⟩
    have HB1 := hid hB
    have k0 := cstep c0 hB; have k1 := cstep c1 hB; have k2 := cstep c2 hB
    clear hB c0 c1 c2
    go_wp2_with fail
    refine (Q23.out _ HB1.out).mono ?_
    rintro e w2 ⟨a1, d1, rfl, hx1, _, hB⟩
    have HB2 := hid (bstep HB1.out hB)
    have k0 := cstep k0 hB; have k1 := cstep k1 hB; have k2 := cstep k2 hB
    have X1 := hid hx1
    clear hx1
    clear hB HB1 Q23
    go_wp2_with fail
    refine (Q24.out _ HB2.out).mono ?_
    rintro e w3 ⟨a2, d2, rfl, hx2, _, hB⟩
    have HB3 := hid (bstep HB2.out hB)
    have k0 := cstep k0 hB; have k1 := cstep k1 hB; have k2 := cstep k2 hB
    have X1 := hid (X1.out.mono hB)
    have X2 := hid hx2
    clear hx2
    clear hB HB2 Q24
    go_wp2_with fail
    refine (Q25.out _ HB3.out).mono ?_
    rintro e w4 ⟨rfl, hB⟩
    have HB4 := hid (bstep HB3.out hB)
    have k0 := cstep k0 hB; have k1 := cstep k1 hB; have k2 := cstep k2 hB
    have X1 := hid (X1.out.mono hB)
    have X2 := hid (X2.out.mono hB)
    clear hB HB3 Q25
    go_wp2_with fail
    refine (Q26.out _ HB4.out).mono ?_
    rintro e w5 ⟨rfl, hB⟩
    have HB5 := hid (bstep HB4.out hB)
    have k0 := cstep k0 hB; have k1 := cstep k1 hB; have k2 := cstep k2 hB
    have X1 := hid (X1.out.mono hB)
    have X2 := hid (X2.out.mono hB)
    clear hB HB4 Q26
    go_wp2_with fail
    refine (Q27.out _ HB5.out).mono ?_
    rintro e w6 ⟨rfl, hB⟩
    have HB6 := hid (bstep HB5.out hB)
    have k0 := cstep k0 hB; have k1 := cstep k1 hB; have k2 := cstep k2 hB
    have X1 := hid (X1.out.mono hB)
    have X2 := hid (X2.out.mono hB)
    clear hB HB5 Q27
    go_wp2_with fail
    refine (Q28.out _ HB6.out).mono ?_
    rintro e w7 ⟨rfl, hB⟩
    have HB7 := hid (bstep HB6.out hB)
    have k0 := cstep k0 hB; have k1 := cstep k1 hB; have k2 := cstep k2 hB
    have X1 := hid (X1.out.mono hB)
    have X2 := hid (X2.out.mono hB)
    clear hB HB6 Q28
    go_wp2_with fail
    refine (ints_c a1 a2 d1 d2 l l _ X1.out X2.out hlen hlen).mono ?_
    rintro e w8 ⟨rfl, hB⟩
    have HB8 := hid (bstep HB7.out hB)
    have ht : decide (l = l) = true := by simp
    rw [ht]
    clear hB ht
    go_wp2_with fail
    refine (HW.out _).mono ?_
    rintro e w9 ⟨rfl, hB⟩
    have HB9 := hid (bstep HB0.out (bstep HB8.out hB))
    clear hB
    go_wp2
    go_ret
    exact ⟨rfl, HB9.out⟩

end Go.Proofs.Ytkioejdddmnbmaa
