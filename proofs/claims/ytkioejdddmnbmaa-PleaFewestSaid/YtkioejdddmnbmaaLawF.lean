/- Walk: the law PleaFewest, out of the contract of Works. -/
import Derived.Test.YtkioejdddmnbmaaLawA
import Derived.Test.YtkioejdddmnbmaaGq
namespace Go.Proofs.Ytkioejdddmnbmaa
open Go.RowKit Go.Shelf

theorem pNeeded_len {facts : Int} {seen : List Int} {rs : List Rl} {x : Int} (hs : seen.length ≤ 1000) : (rNeededL facts seen rs x).length ≤ 1000 := by
  unfold rNeededL
  split
  · rename_i hz
    have hfz : factErr facts seen rs x = 0 := by
      unfold rStepsE at hz
      split at hz
      · rename_i h; exact h
      · rename_i h; exact absurd hz h
    have := (case_zero (fact_zero hfz).1).1
    exact best_len (by omega) hs _
  · exact Nat.zero_le _
theorem pWrong_len {facts : Int} {seen : List Int} {rs : List Rl} (hs : seen.length ≤ 1000) : (rWrongL facts seen rs).length ≤ 1000 := by
  unfold rWrongL
  split
  · rename_i hz
    have := (case_zero hz).1
    split
    · exact Nat.zero_le _
    · exact best_len (by omega) hs _
  · exact Nat.zero_le _

set_option maxRecDepth 100000 in
set_option maxHeartbeats 8000000 in
theorem fewest_law (hworks : WorksC) (facts : Int) (sa : Option Addr) (sc : Nat) (seen : List Int) (ra : Option Addr) (rc : Nat) (rs : List Rl) (x y : Int) (w : World) (hs : IntsAt w sa seen) (hr : RulesAt w ra rs) (hsn : sa = none → sc = 0) (hrn : ra = none → rc = 0) (hrc : rs.length ≤ rc) :
    Calls Try.prog 6 #[.agg #[.int .i64 facts, .slice sa seen.length sc, .slice ra rs.length rc], .int .i64 x, .int .i64 y] w (TrueP w) := by
  have HW := hid hworks
  clear hworks
  obtain ⟨W0, hW0⟩ : ∃ W0, W0 = w.alloc (.cells #[.int .i64 facts, .slice sa seen.length sc, .slice ra rs.length rc] 25) := ⟨_, rfl⟩
  have HB0 := hid (show Below w.heap.size w W0 by rw [hW0]; exact bnew w _)
  obtain ⟨c0, c1, c2⟩ := caseBox w facts sa ra seen.length sc rs.length rc
  rw [← hW0] at c0 c1 c2
  have HR := hid (hr.mono HB0.out); have HSn := hid (hs.mono HB0.out)
  have HS := hid hW0
  clear hs hr hW0
  have HG := hid (great_c sa ra sc rc facts seen rs W0 HR.out)
  by_cases hg : greatB seen rs = true
  · rw [hg] at HG
    clear hg hsn hrn hrc
    go_enter Try.func6, Try.ntmps6
    go_wp2_with fail
    rw [← HS.out]
    refine HG.out.mono ?_
    rintro e w1 ⟨rfl, hB⟩
    have HB1 := hid (bstep HB0.out hB)
    clear hB
    go_wp2_with fail
    refine (HW.out _).mono ?_
    rintro e w2 ⟨rfl, hB⟩
    have HB2 := hid (bstep HB1.out hB)
    clear hB
    go_wp2
    go_ret
    exact ⟨rfl, HB2.out⟩
  · have hgf : greatB seen rs = false := by simpa using hg
    obtain ⟨hl1, hl2, hl3⟩ := great_lens hgf
    rw [hgf] at HG
    clear hg hgf
    have hil : ∀ i, i < rs.length → (nthR rs i).1.length ≤ 1000000 := fun i hi => by have := hl3 i hi; omega
    have hC : ∀ w', Below W0.heap.size W0 w' → CaseAt w' sa ra seen rs := fun w' h => ⟨HSn.out.mono h, HR.out.mono h, by omega, by omega, hil⟩
    have Q38 := hid fun (w' : World) (h : Below W0.heap.size W0 w') => (pNeeded_c facts sa sc seen ra rc rs x w' (hC w' h) (by omega))
    have Q39 := hid fun (w' : World) (h : Below W0.heap.size W0 w') => (rNeeded_c sa ra sc rc facts seen rs x w' (hC w' h) (by omega))
    have Q40 := hid fun (w' : World) (h : Below W0.heap.size W0 w') => (pWrong_c facts sa sc seen ra rc rs w' (hC w' h) (by omega) hsn)
    have Q41 := hid fun (w' : World) (h : Below W0.heap.size W0 w') => (rWrong_c sa ra sc rc facts seen rs w' (hC w' h) (by omega))
    have Q42 := hid fun (w' : World) (h : Below W0.heap.size W0 w') => (pIdle_c facts sa sc seen ra rc rs y w' (hC w' h) hrn)
    have Q43 := hid fun (w' : World) (h : Below W0.heap.size W0 w') => (rIdle_c sa ra sc rc facts seen rs y w' (hC w' h) hrc)
    have hl4 : (rNeededL facts seen rs x).length ≤ 1000 := pNeeded_len (by omega)
    have hl5 : (rWrongL facts seen rs).length ≤ 1000 := pWrong_len (by omega)
    rw [(needed_eq hil).1, (needed_eq hil).2] at Q38
    rw [(wrong_eq hil).1, (wrong_eq hil).2] at Q40
    rw [(idle_eq hil).1, (idle_eq hil).2] at Q42
    unfold ListC at Q38 Q40
    unfold BestP at Q39 Q41
    unfold BoolE at Q42 Q43
    obtain ⟨N, hN⟩ : ∃ T, T = rNeededL facts seen rs x := ⟨_, rfl⟩
    obtain ⟨V, hV⟩ : ∃ T, T = rWrongL facts seen rs := ⟨_, rfl⟩
    obtain ⟨e1, he1⟩ : ∃ T, T = rStepsE facts seen rs x := ⟨_, rfl⟩
    obtain ⟨e2, he2⟩ : ∃ T, T = rWrongE facts seen rs := ⟨_, rfl⟩
    obtain ⟨e3, he3⟩ : ∃ T, T = rIdleE facts seen rs y := ⟨_, rfl⟩
    obtain ⟨b3, hb3⟩ : ∃ T, T = rIdleB facts seen rs y := ⟨_, rfl⟩
    rw [← hN] at Q38 Q39 hl4
    rw [← he1] at Q38 Q39
    rw [← hV] at Q40 Q41 hl5
    rw [← he2] at Q40 Q41
    rw [← he3, ← hb3] at Q42 Q43
    have Hl4 := hid hl4; have Hl5 := hid hl5
    clear hN hV he1 he2 he3 hb3 hl4 hl5 hC hl1 hl2 hl3 hil hsn hrn hrc
    go_enter Try.func6, Try.ntmps6
    go_wp2_with fail
    rw [← HS.out]
    refine HG.out.mono ?_
    rintro e w1 ⟨rfl, hB⟩
    have HB1 := hid hB
    have k0 := cstep c0 hB; have k1 := cstep c1 hB; have k2 := cstep c2 hB
    clear hB c0 c1 c2
    go_wp2_with fail
    refine (Q38.out _ HB1.out).mono ?_
    rintro e w2 ⟨a1, d1, rfl, hx1, _, _, hB⟩
    have HBz2 := hid (bstep HB1.out hB)
    have k0 := cstep k0 hB
    have k1 := cstep k1 hB
    have k2 := cstep k2 hB
    have X1 := hid hx1
    clear hB hx1 HB1
    go_wp2_with fail
    refine (Q39.out _ HBz2.out).mono ?_
    rintro e w3 ⟨a2, d2, rfl, hx2, hB⟩
    have HBz3 := hid (bstep HBz2.out hB)
    have k0 := cstep k0 hB
    have k1 := cstep k1 hB
    have k2 := cstep k2 hB
    have X1 := hid (X1.out.mono hB)
    have X2 := hid hx2
    clear hB hx2 HBz2
    go_wp2_with fail
    refine (Q40.out _ HBz3.out).mono ?_
    rintro e w4 ⟨a3, d3, rfl, hx3, _, _, hB⟩
    have HBz4 := hid (bstep HBz3.out hB)
    have k0 := cstep k0 hB
    have k1 := cstep k1 hB
    have k2 := cstep k2 hB
    have X1 := hid (X1.out.mono hB)
    have X2 := hid (X2.out.mono hB)
    have X3 := hid hx3
    clear hB hx3 HBz3
    go_wp2_with fail
    refine (Q41.out _ HBz4.out).mono ?_
    rintro e w5 ⟨a4, d4, rfl, hx4, hB⟩
    have HBz5 := hid (bstep HBz4.out hB)
    have k0 := cstep k0 hB
    have k1 := cstep k1 hB
    have k2 := cstep k2 hB
    have X1 := hid (X1.out.mono hB)
    have X2 := hid (X2.out.mono hB)
    have X3 := hid (X3.out.mono hB)
    have X4 := hid hx4
    clear hB hx4 HBz4
    go_wp2_with fail
    refine (Q42.out _ HBz5.out).mono ?_
    rintro e w6 ⟨rfl, hB⟩
    have HBz6 := hid (bstep HBz5.out hB)
    have k0 := cstep k0 hB
    have k1 := cstep k1 hB
    have k2 := cstep k2 hB
    have X1 := hid (X1.out.mono hB)
    have X2 := hid (X2.out.mono hB)
    have X3 := hid (X3.out.mono hB)
    have X4 := hid (X4.out.mono hB)
    clear hB HBz5
    go_wp2_with fail
    refine (Q43.out _ HBz6.out).mono ?_
    rintro e w7 ⟨rfl, hB⟩
    have HBz7 := hid (bstep HBz6.out hB)
    have k0 := cstep k0 hB
    have k1 := cstep k1 hB
    have k2 := cstep k2 hB
    have X1 := hid (X1.out.mono hB)
    have X2 := hid (X2.out.mono hB)
    have X3 := hid (X3.out.mono hB)
    have X4 := hid (X4.out.mono hB)
    clear hB HBz6
    go_wp2_with fail
    refine (ints_c a1 a2 d1 d2 N N _ X1.out X2.out (by have := Hl4.out; omega) (by have := Hl4.out; omega)).mono ?_
    rintro e w8 ⟨rfl, hB⟩
    have HBz8 := hid (bstep HBz7.out hB)
    have k0 := cstep k0 hB
    have k1 := cstep k1 hB
    have k2 := cstep k2 hB
    have X1 := hid (X1.out.mono hB)
    have X2 := hid (X2.out.mono hB)
    have X3 := hid (X3.out.mono hB)
    have X4 := hid (X4.out.mono hB)
    clear hB HBz7
    have hdL : decide (N = N) = true := by simp
    rw [hdL]
    clear hdL
    go_wp2_with fail
    refine (ints_c a3 a4 d3 d4 V V _ X3.out X4.out (by have := Hl5.out; omega) (by have := Hl5.out; omega)).mono ?_
    rintro e w9 ⟨rfl, hB⟩
    have HBz9 := hid (bstep HBz8.out hB)
    have k0 := cstep k0 hB
    have k1 := cstep k1 hB
    have k2 := cstep k2 hB
    have X1 := hid (X1.out.mono hB)
    have X2 := hid (X2.out.mono hB)
    have X3 := hid (X3.out.mono hB)
    have X4 := hid (X4.out.mono hB)
    clear hB HBz8
    have hdL : decide (V = V) = true := by simp
    rw [hdL]
    clear hdL
    go_wp2_with fail
    refine (HW.out _).mono ?_
    rintro e w10 ⟨rfl, hB⟩
    have HBz10 := hid (bstep HBz9.out hB)
    have k0 := cstep k0 hB
    have k1 := cstep k1 hB
    have k2 := cstep k2 hB
    have X1 := hid (X1.out.mono hB)
    have X2 := hid (X2.out.mono hB)
    have X3 := hid (X3.out.mono hB)
    have X4 := hid (X4.out.mono hB)
    clear hB HBz9
    go_wp2
    go_ret
    exact ⟨rfl, bstep HB0.out HBz10.out⟩

end Go.Proofs.Ytkioejdddmnbmaa
