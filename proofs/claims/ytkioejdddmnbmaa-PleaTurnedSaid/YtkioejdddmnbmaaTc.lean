/- Walks: fine, counted, sound. -/
import Derived.Test.YtkioejdddmnbmaaLawA
import Derived.Test.YtkioejdddmnbmaaGp
namespace Go.Proofs.Ytkioejdddmnbmaa
open Go.RowKit Go.Shelf

def fineB (facts : Int) (seen : List Int) (rs : List Rl) : Bool := !greatB seen rs && decide (caseErr facts seen rs = 0)
theorem fine_true {facts : Int} {seen : List Int} {rs : List Rl} (h : fineB facts seen rs = true) : greatB seen rs = false ∧ caseErr facts seen rs = 0 := by
  unfold fineB at h
  simpa using h

theorem great_case {w : World} {sa ra : Option Addr} {seen : List Int} {rs : List Rl} (hs : IntsAt w sa seen) (hr : RulesAt w ra rs) (hg : greatB seen rs = false) : CaseAt w sa ra seen rs := by
  obtain ⟨h1, h2, h3⟩ := great_lens hg
  exact ⟨hs, hr, by omega, by omega, fun i hi => by have := h3 i hi; omega⟩

set_option maxRecDepth 100000 in
set_option maxHeartbeats 2000000 in
theorem fine_c (sa ra : Option Addr) (sc rc : Nat) (facts : Int) (seen : List Int) (rs : List Rl) (w : World) (hs : IntsAt w sa seen) (hr : RulesAt w ra rs) :
    Calls Try.prog 44 #[.agg #[.int .i64 facts, .slice sa seen.length sc, .slice ra rs.length rc]] w (TellB w (fineB facts seen rs)) := by
  obtain ⟨W0, hW0⟩ : ∃ W0, W0 = w.alloc (.cells #[.int .i64 facts, .slice sa seen.length sc, .slice ra rs.length rc] 25) := ⟨_, rfl⟩
  have HB0 := hid (show Below w.heap.size w W0 by rw [hW0]; exact bnew w _)
  obtain ⟨c0, c1, c2⟩ := caseBox w facts sa ra seen.length sc rs.length rc
  rw [← hW0] at c0 c1 c2
  have C0 := hid c0; have C1 := hid c1; have C2 := hid c2
  have HS := hid hW0
  have HG := hid (great_c sa ra sc rc facts seen rs W0 (hr.mono HB0.out))
  unfold TellB fineB
  by_cases hg : greatB seen rs = true
  · rw [hg] at HG ⊢
    clear hs hr hW0 c0 c1 c2 hg
    go_enter Try.func44, Try.ntmps44
    go_wp2_with fail
    rw [← HS.out]
    refine HG.out.mono ?_
    rintro e w1 ⟨rfl, hB⟩
    go_wp2
    go_ret
    exact ⟨rfl, bstep HB0.out hB⟩
  · have hgf : greatB seen rs = false := by simpa using hg
    have HC := hid fun (w' : World) (h : Below w.heap.size w w') => rcc sa ra sc rc facts seen rs w' ((great_case hs hr hgf).mono h)
    rw [hgf] at HG ⊢
    have hd : (!false && decide (caseErr facts seen rs = 0)) = (caseErr facts seen rs == 0) := by rw [Bool.eq_iff_iff]; simp
    rw [hd]
    clear hs hr hW0 c0 c1 c2 hg hgf hd
    generalize caseErr facts seen rs = c at *
    go_enter Try.func44, Try.ntmps44
    go_wp2_with fail
    rw [← HS.out]
    refine HG.out.mono ?_
    rintro e w1 ⟨rfl, hB⟩
    have HB1 := hid (bstep HB0.out hB)
    have d0 := cstep C0.out hB; have d1 := cstep C1.out hB; have d2 := cstep C2.out hB
    clear hB
    go_wp2_with fail
    refine (HC.out _ HB1.out).mono ?_
    rintro e w2 ⟨rfl, hB⟩
    go_wp2
    go_ret
    exact ⟨rfl, bstep HB1.out hB⟩

set_option maxRecDepth 100000 in
set_option maxHeartbeats 2000000 in
theorem counted_c (sa ra : Option Addr) (sc rc : Nat) (facts : Int) (seen : List Int) (rs : List Rl) (w : World) (hc : CaseAt w sa ra seen rs) :
    Calls Try.prog 46 #[.agg #[.int .i64 facts, .slice sa seen.length sc, .slice ra rs.length rc]] w fun e w' => e = .returned (.tuple #[.int .i64 (rCountN facts seen rs), .bool (caseErr facts seen rs == 0)]) ∧ Below w.heap.size w w' := by
  obtain ⟨W0, hW0⟩ : ∃ W0, W0 = w.alloc (.cells #[.int .i64 facts, .slice sa seen.length sc, .slice ra rs.length rc] 25) := ⟨_, rfl⟩
  have HB0 := hid (show Below w.heap.size w W0 by rw [hW0]; exact bnew w _)
  have HS := hid hW0
  have HC := hid (count_c facts sa sc seen ra rc rs W0 (hc.mono HB0.out))
  rw [count_eq hc.il] at HC
  unfold NumE at HC
  have hn : ∃ n : Nat, rCountN facts seen rs = n ∧ n ≤ 4096 := by
    unfold rCountN
    split
    · rename_i hz
      have := (case_zero hz).1
      exact ⟨_, rfl, truthsN_length (by omega) seen rs⟩
    · exact ⟨0, rfl, by omega⟩
  obtain ⟨n, hn, hle⟩ := hn
  rw [hn] at HC ⊢
  have h1 : decide ((n : Int) ≤ 4096) = true := by simp; omega
  have h1' : decide (n ≤ 4096) = true := by simp; omega
  have h2 : decide ((n : Int) ≥ 0) = true := by simp
  cases hz : (caseErr facts seen rs == 0) with
  | true =>
    have hz' : caseErr facts seen rs = 0 := by simpa using hz
    rw [hz'] at HC
    clear hc hW0 hn hle hz hz'
    go_enter Try.func46, Try.ntmps46
    go_wp2_with fail
    rw [← HS.out]
    refine HC.out.mono ?_
    rintro e w1 ⟨rfl, hB⟩
    go_wp2
    go_ret2
    exact ⟨rfl, bstep HB0.out hB⟩
  | false =>
    clear hc hW0 hn hle
    generalize caseErr facts seen rs = c at *
    go_enter Try.func46, Try.ntmps46
    go_wp2_with fail
    rw [← HS.out]
    refine HC.out.mono ?_
    rintro e w1 ⟨rfl, hB⟩
    go_wp2
    go_ret2
    exact ⟨rfl, bstep HB0.out hB⟩

/-- fine, and no clash -/
def soundB (facts : Int) (seen : List Int) (rs : List Rl) : Bool := fineB facts seen rs && !(knownR rs (bitsL seen)).2

set_option maxRecDepth 100000 in
set_option maxHeartbeats 2000000 in
theorem sound_c (sa ra : Option Addr) (sc rc : Nat) (facts : Int) (seen : List Int) (rs : List Rl) (w : World) (hs : IntsAt w sa seen) (hr : RulesAt w ra rs) :
    Calls Try.prog 47 #[.agg #[.int .i64 facts, .slice sa seen.length sc, .slice ra rs.length rc]] w (TellB w (soundB facts seen rs)) := by
  obtain ⟨W0, hW0⟩ : ∃ W0, W0 = w.alloc (.cells #[.int .i64 facts, .slice sa seen.length sc, .slice ra rs.length rc] 25) := ⟨_, rfl⟩
  have HB0 := hid (show Below w.heap.size w W0 by rw [hW0]; exact bnew w _)
  obtain ⟨c0, c1, c2⟩ := caseBox w facts sa ra seen.length sc rs.length rc
  rw [← hW0] at c0 c1 c2
  have C0 := hid c0; have C1 := hid c1; have C2 := hid c2
  have HS := hid hW0
  have HG := hid (fine_c sa ra sc rc facts seen rs W0 (hs.mono HB0.out) (hr.mono HB0.out))
  unfold TellB soundB
  unfold TellB at HG
  by_cases hf : fineB facts seen rs = true
  · obtain ⟨hgf, hz0⟩ := fine_true hf
    have hc := great_case hs hr hgf
    have hsf := case_seen hz0
    have hro := case_rules hz0 hc.il
    have hblt := bitsL_lt hsf
    have H49 := hid fun (w' : World) (h : Below w.heap.size w w') => bits_c sa sc seen w' (hc.mono h).s hc.sl hsf
    have H50 := hid fun (w' : World) (h : Below w.heap.size w w') => known_c ra rc rs (bitsL seen) w' (hc.mono h).r hro hc.rl hblt
    obtain ⟨b, hb⟩ : ∃ b, b = (knownR rs (bitsL seen)).1 := ⟨_, rfl⟩
    rw [← hb] at H50
    obtain ⟨c, hcc⟩ : ∃ c, c = (knownR rs (bitsL seen)).2 := ⟨_, rfl⟩
    rw [← hcc] at H50 ⊢
    obtain ⟨bs, hbs⟩ : ∃ c, c = bitsL seen := ⟨_, rfl⟩
    rw [← hbs] at H49 H50
    rw [hf] at HG ⊢
    clear hc hz0 hsf hro hblt hb hcc hbs hW0 c0 c1 c2 hs hr hf hgf
    go_enter Try.func47, Try.ntmps47
    go_wp2_with fail
    rw [← HS.out]
    refine HG.out.mono ?_
    rintro e w1 ⟨rfl, hB⟩
    have HB1 := hid (bstep HB0.out hB)
    have d0 := cstep C0.out hB; have d1 := cstep C1.out hB; have d2 := cstep C2.out hB
    have K49 := hid fun n => (H49.out (w1.drewN n) (bstep HB1.out (Go.Joins.below_draws _ _ _))).mono fun e w'' h => (⟨h.1, n, h.2⟩ : e = .returned (.int .i64 (bs : Int)) ∧ ∃ m, w'' = w1.drewN m)
    have K50 := hid fun n => (H50.out (w1.drewN n) (bstep HB1.out (Go.Joins.below_draws _ _ _))).mono fun e w'' h => (⟨h.1, n, h.2⟩ : e = .returned (.tuple #[.int .i64 (b : Int), .bool c]) ∧ ∃ m, w'' = w1.drewN m)
    clear hB H49 H50
    go_wp2_with fail
    go_quiet (first | (go_at_call 49; exact K49.out _) | (go_at_call 50; exact K50.out _))
    go_wp2
    go_ret
    exact ⟨by simp, bstep HB1.out (Go.Joins.below_draws _ _ _)⟩
  · have hff : fineB facts seen rs = false := by simpa using hf
    rw [hff] at HG ⊢
    clear hs hr hW0 c0 c1 c2 hf hff
    go_enter Try.func47, Try.ntmps47
    go_wp2_with fail
    rw [← HS.out]
    refine HG.out.mono ?_
    rintro e w1 ⟨rfl, hB⟩
    go_wp2
    go_ret
    exact ⟨rfl, bstep HB0.out hB⟩

end Go.Proofs.Ytkioejdddmnbmaa
