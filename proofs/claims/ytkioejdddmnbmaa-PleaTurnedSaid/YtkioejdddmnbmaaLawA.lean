/- Walk: the law PleaCases, out of the contract of Works. -/
import Derived.Test.YtkioejdddmnbmaaGc
import Derived.Test.YtkioejdddmnbmaaGd
import Derived.Deep.RegionHeld3
namespace Go.Proofs.Ytkioejdddmnbmaa
open Go.RowKit Go.Shelf

/-- true is handed back; the world has grown -/
def TrueP (w : World) (e : Ending) (w' : World) : Prop := e = .returned (.bool true) ∧ Below w.heap.size w w'
/-- what the layer's Works does -/
def WorksC : Prop := ∀ w, Calls Try.prog 18 #[] w (TrueP w)

theorem great_lens {seen : List Int} {rs : List Rl} (h : greatB seen rs = false) : seen.length ≤ 16 ∧ rs.length ≤ 18 ∧ ∀ i, i < rs.length → (nthR rs i).1.length ≤ 16 := by
  unfold greatB at h
  simp only [Bool.or_eq_false_iff, decide_eq_false_iff_not] at h
  obtain ⟨⟨h1, h2⟩, h3⟩ := h
  refine ⟨by omega, by omega, fun i hi => ?_⟩
  have := List.any_eq_false.1 h3 _ (nthR_mem hi)
  simp only [decide_eq_true_eq] at this
  omega
def BackI (w0 : World) (n : Int) (e : Ending) (w' : World) : Prop := e = .returned (.int .i64 n) ∧ Below w0.heap.size w0 w'
theorem BackI.of {w0 w w' : World} {n : Int} {e : Ending} (hb : Below w0.heap.size w0 w) (h : e = .returned (.int .i64 n) ∧ Below w.heap.size w w') : BackI w0 n e w' := ⟨h.1, bstep hb h.2⟩
theorem TrueP.of {w0 w w' : World} {e : Ending} (hb : Below w0.heap.size w0 w) (h : TrueP w e w') : TrueP w0 e w' := ⟨h.1, bstep hb h.2⟩

set_option maxRecDepth 100000 in
set_option maxHeartbeats 4000000 in
theorem cases_law (hworks : WorksC) (facts : Int) (sa : Option Addr) (sc : Nat) (seen : List Int) (ra : Option Addr) (rc : Nat) (rs : List Rl) (ta : Option Addr) (tc : Nat) (t : List Int) (w : World) (hs : IntsAt w sa seen) (hr : RulesAt w ra rs) (ht : IntsAt w ta t) :
    Calls Try.prog 3 #[.agg #[.int .i64 facts, .slice sa seen.length sc, .slice ra rs.length rc], .slice ta t.length tc] w (TrueP w) := by
  have HW := hid hworks
  clear hworks
  obtain ⟨W0, hW0⟩ : ∃ W0, W0 = w.alloc (.cells #[.int .i64 facts, .slice sa seen.length sc, .slice ra rs.length rc] 25) := ⟨_, rfl⟩
  have HB0 := hid (show Below w.heap.size w W0 by rw [hW0]; exact bnew w _)
  obtain ⟨c0, c1, c2⟩ := caseBox w facts sa ra seen.length sc rs.length rc
  rw [← hW0] at c0 c1 c2
  have HR := hid (hr.mono HB0.out); have HSn := hid (hs.mono HB0.out); have HT := hid (ht.mono HB0.out)
  have HS := hid hW0
  clear hs hr ht hW0
  have HG := hid (great_c sa ra sc rc facts seen rs W0 HR.out)
  obtain ⟨p, hp⟩ : ∃ p, p = w.heap.size := ⟨_, rfl⟩
  by_cases hg : greatB seen rs = true
  · rw [hg] at HG
    clear hg
    go_enter Try.func3, Try.ntmps3
    go_wp2_with fail
    rw [← HS.out]
    refine HG.out.mono ?_
    rintro e w1 ⟨rfl, hB⟩
    have HB1 := hid (bstep HB0.out hB)
    clear hB
    go_wp2_with fail
    refine (HW.out _).mono ?_
    rintro e w2 ⟨rfl, hB⟩
    have HB2 := hid (bstep HB1.out hB)
    clear hB
    go_wp2
    go_ret
    exact ⟨rfl, HB2.out⟩
  · have hgf : greatB seen rs = false := by simpa using hg
    obtain ⟨hl1, hl2, hl3⟩ := great_lens hgf
    rw [hgf] at HG
    clear hg hgf
    by_cases hT : 16 < t.length
    · have hd : decide ((t.length : Int) > 16) = true := by simp; omega
      clear hT
      go_enter Try.func3, Try.ntmps3
      go_wp2_with fail
      rw [← HS.out]
      refine HG.out.mono ?_
      rintro e w1 ⟨rfl, hB⟩
      have HB1 := hid (bstep HB0.out hB)
      clear hB
      go_wp2_with fail
      refine (HW.out _).mono ?_
      rintro e w2 ⟨rfl, hB⟩
      have HB2 := hid (bstep HB1.out hB)
      clear hB
      go_wp2
      go_ret
      exact ⟨rfl, HB2.out⟩
    · have hd : decide ((t.length : Int) > 16) = false := by simp; omega
      have hC : ∀ w', Below W0.heap.size W0 w' → CaseAt w' sa ra seen rs := fun w' h => ⟨HSn.out.mono h, HR.out.mono h, by omega, by omega, fun i hi => by have := hl3 i hi; omega⟩
      have hTl : t.length ≤ 16 := by omega
      have heq : pTruthErr facts seen rs t = truthErr facts seen rs t := pTruth_eq (fun i hi => by have := hl3 i hi; omega)
      obtain ⟨ce, hce⟩ : ∃ ce, ce = caseErr facts seen rs := ⟨_, rfl⟩
      obtain ⟨te, hte⟩ : ∃ te, te = truthErr facts seen rs t := ⟨_, rfl⟩
      have Q1 := hid fun (w' : World) (h : Below W0.heap.size W0 w') => (show Calls Try.prog 19 #[.agg #[.int .i64 facts, .slice sa seen.length sc, .slice ra rs.length rc]] w' (BackI W0 ce) from by rw [hce]; exact (checkCase_c sa ra sc rc facts seen rs w' (hC w' h).s (hC w' h).r (hC w' h).sl (hC w' h).rl (hC w' h).il).mono (fun _ _ k => BackI.of h k))
      have Q2 := hid fun (w' : World) (h : Below W0.heap.size W0 w') => (show Calls Try.prog 20 #[.agg #[.int .i64 facts, .slice sa seen.length sc, .slice ra rs.length rc]] w' (BackI W0 ce) from by rw [hce]; exact (rCheckCase_c sa ra sc rc facts seen rs w' (hC w' h).s (hC w' h).r (hC w' h).sl (hC w' h).rl (hC w' h).il).mono (fun _ _ k => BackI.of h k))
      have Q3 := hid fun (w' : World) (h : Below W0.heap.size W0 w') => (show Calls Try.prog 21 #[.agg #[.int .i64 facts, .slice sa seen.length sc, .slice ra rs.length rc], .slice ta t.length tc] w' (BackI W0 te) from by rw [hte, ← heq]; exact (checkTruth_c facts sa sc seen ra rc rs ta tc t w' (hC w' h) (HT.out.mono h) (by omega)).mono (fun _ _ k => BackI.of h k))
      have Q4 := hid fun (w' : World) (h : Below W0.heap.size W0 w') => (show Calls Try.prog 22 #[.agg #[.int .i64 facts, .slice sa seen.length sc, .slice ra rs.length rc], .slice ta t.length tc] w' (BackI W0 te) from by rw [hte]; exact (rCheckTruth_c sa ra ta sc rc tc facts seen t rs w' (hC w' h).s (hC w' h).r (HT.out.mono h) (hC w' h).sl (hC w' h).rl (by omega) (hC w' h).il).mono (fun _ _ k => BackI.of h k))
      have Q5 := hid fun (w' : World) (h : Below W0.heap.size W0 w') => (HW.out w').mono (fun _ _ k => TrueP.of h k)
      clear heq hce hte hT hl1 hl2 hl3 hTl hC
      go_enter Try.func3, Try.ntmps3
      go_wp2_with fail
      rw [← HS.out]
      refine HG.out.mono ?_
      rintro e w1 ⟨rfl, hB⟩
      have hB1 := hB
      have k0 := cstep c0 hB; have k1 := cstep c1 hB; have k2 := cstep c2 hB
      clear hB
      have c0 := hid c0; have c1 := hid c1; have c2 := hid c2
      go_wp2_with fail
      go_region_held3 (fun w' => w'.cell? ⟨w.heap.size, 0, none⟩ = some (.int .i64 facts) ∧ w'.cell? ⟨w.heap.size, 1, none⟩ = some (.slice sa seen.length sc) ∧ w'.cell? ⟨w.heap.size, 2, none⟩ = some (.slice ra rs.length rc))
        (first | exact ⟨k0, k1, k2⟩ | exact ⟨cstep c0.out (by with_reducible assumption), cstep c1.out (by with_reducible assumption), cstep c2.out (by with_reducible assumption)⟩ | go_keep)
        (first
          | (go_at_call 19; ((with_reducible refine (Q1.out _ (by first | assumption | (refine Below.drew ?_; assumption))).mono ?_)); rintro e wq1 ⟨rfl, hq1⟩)
          | (go_at_call 20; ((with_reducible refine (Q2.out _ (by first | assumption | (refine Below.drew ?_; assumption))).mono ?_)); rintro e wq2 ⟨rfl, hq2⟩)
          | (go_at_call 21; ((with_reducible refine (Q3.out _ (by first | assumption | (refine Below.drew ?_; assumption))).mono ?_)); rintro e wq3 ⟨rfl, hq3⟩)
          | (go_at_call 22; ((with_reducible refine (Q4.out _ (by first | assumption | (refine Below.drew ?_; assumption))).mono ?_)); rintro e wq4 ⟨rfl, hq4⟩)
          | (go_at_call 18; ((with_reducible refine (Q5.out _ (by first | assumption | (refine Below.drew ?_; assumption))).mono ?_)); rintro e wq5 ⟨rfl, hq5⟩))
      all_goals (go_wp2; go_ret; exact ⟨rfl, bstep HB0.out hq5⟩)

end Go.Proofs.Ytkioejdddmnbmaa
