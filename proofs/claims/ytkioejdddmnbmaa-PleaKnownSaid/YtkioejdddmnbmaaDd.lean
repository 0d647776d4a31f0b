/- Walks: open, CheckTruth of the program. -/
import Derived.Test.YtkioejdddmnbmaaDc
namespace Go.Proofs.Ytkioejdddmnbmaa
open Go.RowKit Go.Shelf
attribute [local go_sem ↓] wp_get wp_get0 wp_getS wp78 wps78 wpa78

/-- a case in memory -/
structure CaseAt (w : World) (sa ra : Option Addr) (seen : List Int) (rs : List Rl) : Prop where
  s : IntsAt w sa seen
  r : RulesAt w ra rs
  sl : seen.length ≤ 1000000
  rl : rs.length ≤ 1000000
  il : ∀ i, i < rs.length → (nthR rs i).1.length ≤ 1000000
theorem CaseAt.mono {w w' : World} {sa ra : Option Addr} {seen : List Int} {rs : List Rl} (h : CaseAt w sa ra seen rs) (hB : Below w.heap.size w w') : CaseAt w' sa ra seen rs :=
  ⟨h.s.mono hB, h.r.mono hB, h.sl, h.rl, h.il⟩

def openErr (facts : Int) (seen : List Int) (rs : List Rl) (l : List Int) : Int := if caseErr facts seen rs = 0 then (if within 0 (facts - 1) l = true then 0 else 2) else caseErr facts seen rs

def OpenP (w : World) (err : Int) (c0 c1 c2 : Value) (st : LSt) (e : Ending) (w' : World) : Prop :=
  ∃ p, e = .returned (.tuple #[.pointer p, .int .i64 err]) ∧ Below w.heap.size w w' ∧ (err = 0 → ∃ g bm oa oc, p = some ⟨g, 0, none⟩ ∧ DeskAt w.heap.size w' g bm oa oc c0 c1 c2 st.known st.ord st.ord st.clash)

theorem DeskAt.base {B B' : Nat} {w : World} {g bm : Nat} {oa : Option Addr} {oc : Nat} {c0 c1 c2 : Value} {known : List Int} {mo so : List (Nat × Nat)} {clash : Int} (h : DeskAt B w g bm oa oc c0 c1 c2 known mo so clash) (hb : B' ≤ B) : DeskAt B' w g bm oa oc c0 c1 c2 known mo so clash :=
  ⟨h.row, h.len, h.map, h.ord.base hb, Nat.le_trans hb h.gB, Nat.le_trans hb h.bB⟩

set_option maxRecDepth 100000 in
set_option maxHeartbeats 4000000 in
theorem open_c (facts : Int) (sa : Option Addr) (sc : Nat) (seen : List Int) (ra : Option Addr) (rc : Nat) (rs : List Rl) (la : Option Addr) (lc : Nat) (l : List Int) (w : World) (hc : CaseAt w sa ra seen rs) (hl : IntsAt w la l) (hll : l.length ≤ 1000000) :
    Calls Try.prog 61 #[.agg #[.int .i64 facts, .slice sa seen.length sc, .slice ra rs.length rc], .slice la l.length lc] w (OpenP w (openErr facts seen rs l) (.int .i64 facts) (.slice sa seen.length sc) (.slice ra rs.length rc) (deskOf seen rs)) := by
  obtain ⟨W0, hW0⟩ : ∃ W0, W0 = w.alloc (.cells #[.int .i64 facts, .slice sa seen.length sc, .slice ra rs.length rc] 25) := ⟨_, rfl⟩
  have HB0 := hid (show Below w.heap.size w W0 by rw [hW0]; exact bnew w _)
  obtain ⟨c0, c1, c2⟩ := caseBox w facts sa ra seen.length sc rs.length rc
  rw [← hW0] at c0 c1 c2
  have C0 := hid c0; have C1 := hid c1; have C2 := hid c2
  have HC := hid fun (w' : World) (h : Below w.heap.size w w') => checkCase_c sa ra sc rc facts seen rs w' (hc.s.mono h) (hc.r.mono h) hc.sl hc.rl hc.il
  have HS := hid hW0
  have he : openErr facts seen rs l = if caseErr facts seen rs = 0 then (if within 0 (facts - 1) l = true then 0 else 2) else caseErr facts seen rs := rfl
  by_cases hz : caseErr facts seen rs = 0
  · rw [hz] at HC
    rw [he, if_pos hz]
    obtain ⟨⟨f0, f1⟩, _, hris, _⟩ := case_zero hz
    have HL := hid fun (w' : World) (h : Below w.heap.size w w') => within_c la lc 0 (facts - 1) l w' (hl.mono h) hll
    cases hw : within 0 (facts - 1) l with
    | false =>
      rw [hw] at HL
      rw [if_neg (by simp)]
      clear hc hl he hz hris hW0 c0 c1 c2 hw
      go_enter Try.func61, Try.ntmps61
      go_wp2_with fail
      rw [← HS.out]
      refine (HC.out _ HB0.out).mono ?_
      rintro e w1 ⟨rfl, hB⟩
      have d0 := cstep C0.out hB
      have HB1 := hid (bstep HB0.out hB)
      clear hB
      go_wp2_with fail
      refine (HL.out _ HB1.out).mono ?_
      rintro e w2 ⟨rfl, hB⟩
      have HB2 := hid (bstep HB1.out hB)
      clear hB
      go_wp2
      go_ret2
      exact ⟨none, rfl, HB2.out, fun h => by cases h⟩
    | true =>
      rw [hw] at HL
      rw [if_pos rfl]
      have HN := hid fun (w' : World) (h : Below w.heap.size w w') => newDesk_c facts sa sc seen ra rc rs w' (hc.s.mono h) hc.sl (rising_facts f1 hris) (hc.r.mono h) (case_rules hz hc.il) hc.rl
      clear hc hl he hz hris hW0 c0 c1 c2 hw
      go_enter Try.func61, Try.ntmps61
      go_wp2_with fail
      rw [← HS.out]
      refine (HC.out _ HB0.out).mono ?_
      rintro e w1 ⟨rfl, hB⟩
      have d0 := cstep C0.out hB; have d1 := cstep C1.out hB; have d2 := cstep C2.out hB
      have HB1 := hid (bstep HB0.out hB)
      clear hB
      have D0 := hid d0; have D1 := hid d1; have D2 := hid d2
      go_wp2_with fail
      refine (HL.out _ HB1.out).mono ?_
      rintro e w2 ⟨rfl, hB⟩
      have HB2 := hid (bstep HB1.out hB)
      have e0 := cstep D0.out hB; have e1 := cstep D1.out hB; have e2 := cstep D2.out hB
      clear hB d0 d1 d2
      go_wp2_with fail
      refine (HN.out _ HB2.out).mono ?_
      rintro e w3 ⟨g, bm, oa, oc, rfl, hd, hB⟩
      go_wp2
      go_ret2
      exact ⟨_, rfl, bstep HB2.out hB, fun _ => ⟨g, bm, oa, oc, rfl, hd.base HB2.out.size⟩⟩
  · rw [he, if_neg hz]
    have hcb : (caseErr facts seen rs != 0) = true := by simpa using hz
    have Hz := hid hz
    clear hc hl he hz hW0 c0 c1 c2
    generalize caseErr facts seen rs = c at *
    go_enter Try.func61, Try.ntmps61
    go_wp2_with fail
    rw [← HS.out]
    refine (HC.out _ HB0.out).mono ?_
    rintro e w1 ⟨rfl, hB⟩
    have HB1 := hid (bstep HB0.out hB)
    clear hB
    go_wp2
    go_ret2
    exact ⟨none, rfl, HB1.out, fun h => absurd h Hz.out⟩


def pTruthErr (facts : Int) (seen : List Int) (rs : List Rl) (t : List Int) : Int :=
  if caseErr facts seen rs = 0 then (if rising facts t = true then (if isTruthM seen rs (markL t) = true then 0 else 24) else 2) else caseErr facts seen rs

theorem within_nil (lo hi : Int) : within lo hi [] = true := rfl

set_option maxRecDepth 100000 in
set_option maxHeartbeats 4000000 in
theorem checkTruth_c (facts : Int) (sa : Option Addr) (sc : Nat) (seen : List Int) (ra : Option Addr) (rc : Nat) (rs : List Rl) (ta : Option Addr) (tc : Nat) (t : List Int) (w : World) (hc : CaseAt w sa ra seen rs) (ht : IntsAt w ta t) (htl : t.length ≤ 1000000) :
    Calls Try.prog 21 #[.agg #[.int .i64 facts, .slice sa seen.length sc, .slice ra rs.length rc], .slice ta t.length tc] w fun e w' => e = .returned (.int .i64 (pTruthErr facts seen rs t)) ∧ Below w.heap.size w w' := by
  obtain ⟨W0, hW0⟩ : ∃ W0, W0 = w.alloc (.cells #[.int .i64 facts, .slice sa seen.length sc, .slice ra rs.length rc] 25) := ⟨_, rfl⟩
  have HB0 := hid (show Below w.heap.size w W0 by rw [hW0]; exact bnew w _)
  obtain ⟨c0, c1, c2⟩ := caseBox w facts sa ra seen.length sc rs.length rc
  rw [← hW0] at c0 c1 c2
  have C0 := hid c0; have C1 := hid c1; have C2 := hid c2
  have HO := hid (open_c facts sa sc seen ra rc rs none 0 [] W0 (hc.mono HB0.out) (IntsAt.nil _ _) (by simp))
  have HS := hid hW0
  have he : pTruthErr facts seen rs t = if caseErr facts seen rs = 0 then (if rising facts t = true then (if isTruthM seen rs (markL t) = true then 0 else 24) else 2) else caseErr facts seen rs := rfl
  have ho : openErr facts seen rs [] = caseErr facts seen rs := by unfold openErr; split <;> simp_all [within_nil]
  rw [ho] at HO
  by_cases hz : caseErr facts seen rs = 0
  · rw [hz] at HO
    rw [he, if_pos hz]
    obtain ⟨⟨f0, f1⟩, _, hris, _⟩ := case_zero hz
    have HR := hid fun (w' : World) (h : Below w.heap.size w w') => rising_c ta tc t facts w' (ht.mono h) htl f0 (by omega)
    cases hrt : rising facts t with
    | false =>
      rw [hrt] at HR
      rw [if_neg (by simp)]
      clear hc ht he hz hris hW0 c0 c1 c2 f0 f1 hrt
      go_enter Try.func21, Try.ntmps21
      go_wp2_with fail
      rw [← HS.out]
      refine HO.out.mono ?_
      rintro e w1 ⟨p, rfl, hB, hp⟩
      have d0 := cstep C0.out hB
      have HB1 := hid (bstep HB0.out hB)
      clear hB hp
      go_wp2_with fail
      refine (HR.out _ HB1.out).mono ?_
      rintro e w2 ⟨rfl, hB⟩
      have HB2 := hid (bstep HB1.out hB)
      clear hB
      go_wp2
      go_ret
      exact ⟨rfl, HB2.out⟩
    | true =>
      rw [hrt] at HR
      rw [if_pos rfl]
      have htf := rising_facts f1 hrt
      have HM := hid fun (w' : World) (h : Below w.heap.size w w') => marked_c ta tc t w' (ht.mono h) htl htf
      have HT := hid fun (g : Nat) (w' : World) (h : Below w.heap.size w w') (k1 : w'.cell? ⟨g, 1, none⟩ = some (.slice sa seen.length sc)) (k2 : w'.cell? ⟨g, 2, none⟩ = some (.slice ra rs.length rc)) =>
        isTruth_c g sa ra sc rc (markL t) seen rs w' (hc.s.mono h) (hc.r.mono h) hc.sl hc.rl (markL_length t) (rising_facts f1 hris) (case_rules hz hc.il) k1 k2
      unfold TellB at HT
      generalize isTruthM seen rs (markL t) = v at *
      obtain ⟨R, hR⟩ : ∃ R : Int, R = (if v = true then 0 else 24) := ⟨_, rfl⟩
      rw [← hR]
      have HRs := hid hR
      clear hc ht he hz hris hW0 c0 c1 c2 f0 f1 hrt htf hR
      go_enter Try.func21, Try.ntmps21
      go_wp2_with fail
      rw [← HS.out]
      refine HO.out.mono ?_
      rintro e w1 ⟨p, rfl, hB, hp⟩
      obtain ⟨g, bm, oa, oc, rfl, hd⟩ := hp rfl
      have d0 := cstep C0.out hB
      have HB1 := hid (bstep HB0.out hB)
      have Hd := hid hd
      clear hB hp hd
      go_wp2_with fail
      refine (HR.out _ HB1.out).mono ?_
      rintro e w2 ⟨rfl, hB⟩
      have HB2 := hid (bstep HB1.out hB)
      have Hd2 := hid (Hd.out.kept hB)
      clear hB
      go_wp2_with fail
      refine (HM.out _ HB2.out).mono ?_
      rintro e w3 ⟨rfl, hB⟩
      have HB3 := hid (bstep HB2.out hB)
      have Hd3 := hid (Hd2.out.kept hB)
      clear hB
      go_wp2_with fail
      refine (HT.out g _ HB3.out Hd3.out.k1 Hd3.out.k2).mono ?_
      rintro e w4 ⟨rfl, hB⟩
      have HB4 := hid (bstep HB3.out hB)
      clear hB
      cases v <;> (
        go_wp2
        go_ret
        exact ⟨ret_int (by rw [HRs.out]; rfl), HB4.out⟩)
  · rw [he, if_neg hz]
    have hcb : (caseErr facts seen rs != 0) = true := by simpa using hz
    clear hc ht he hz hW0 c0 c1 c2
    generalize caseErr facts seen rs = c at *
    go_enter Try.func21, Try.ntmps21
    go_wp2_with fail
    rw [← HS.out]
    refine HO.out.mono ?_
    rintro e w1 ⟨p, rfl, hB, hp⟩
    have HB1 := hid (bstep HB0.out hB)
    clear hB hp
    go_wp2
    go_ret
    exact ⟨rfl, HB1.out⟩

theorem pTruth_eq {facts : Int} {seen : List Int} {rs : List Rl} {t : List Int} (hl : ∀ i, i < rs.length → (nthR rs i).1.length ≤ 1000000) : pTruthErr facts seen rs t = truthErr facts seen rs t := by
  unfold pTruthErr truthErr
  by_cases hz : caseErr facts seen rs = 0
  · obtain ⟨⟨f0, f1⟩, _, hris, _⟩ := case_zero hz
    rw [if_pos hz, if_neg (show ¬ caseErr facts seen rs ≠ 0 from fun h => h hz), truth_bits (rising_facts f1 hris) (case_rules hz hl)]
  · rw [if_neg hz, if_pos hz]

end Go.Proofs.Ytkioejdddmnbmaa
