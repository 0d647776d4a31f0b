/- Walks: Steps, Clash of the program. -/
import Derived.Test.YtkioejdddmnbmaaSl
import Derived.Deep.RegionLaw
namespace Go.Proofs.Ytkioejdddmnbmaa
open Go.RowKit Go.Shelf
attribute [local go_sem ↓] wp_get wp_get0 wp_getS wp78 wps78 wpa78

theorem step_app_full1 {ops : Array Oper} {o : Oper} {a : Act} {K : Act → World → Prop} {Q : Exit → Act → World → Prop} {E : Prop} (w : World) (hgd : o.guard = none) (s x : Operand)
    (hop : o.op = Op.call { callee := Callee.builtin Builtin.append, args := #[s, x], argTypes := #[22, 22] })
    (ao : Option Addr) (m cap : Nat) (xs : List Int) (hm : xs.length = m) (hs : a.eval s = .slice ao m cap) (hat : IntsAt w ao xs) (hnil : ao = none → m = 0 ∧ cap = 0)
    (ad : Addr) (u : Int) (hx : a.eval x = .slice (some ad) 1 1) (hu : w.cell? ad = some (.int .i64 u)) (hfull : cap < m + 1) (hb : m ≤ 1000000)
    (hK : ∀ b' cap' w', Below w.heap.size w w' → w.heap.size ≤ b' → IntsAt w' (some ⟨b', 0, none⟩) (xs ++ [u]) → m + 1 ≤ cap' → K (a.put o.dst (.slice (some ⟨b', 0, none⟩) (m + 1) cap')) w') :
    if Region.wanted o (yielded ops a.tmps) = true then Oper.wp Try.prog o a w K Q else E := by
  subst hm
  have hw : Region.wanted o (yielded ops a.tmps) = true := by simp [Region.wanted, hgd]
  rw [if_pos hw]
  obtain ⟨b', cap', w', hrun, h1, h2, h3, h4⟩ := run_app_full o.type w ao cap xs hat hnil ad u hu hfull hb
  unfold Oper.wp
  simp [execOp, hop, resolve, invoke, builtin, hs, hx, hrun, Result.andThen, Oper.upon]
  exact hK b' cap' w' h1 h2 h3 h4

theorem runL_fits {rs : List Rl} (hr : rulesOk rs) : ∀ (n : Nat) (s : LSt), s.fits → (runL rs s n).fits
  | 0, _, h => h
  | n + 1, s, h => by
    have h2 := learnTo_fits h hr rs.length (Nat.le_refl _)
    rw [runL]; split
    · exact h2
    · exact runL_fits hr n _ h2
theorem deskOf_fits {seen : List Int} {rs : List Rl} (hr : rulesOk rs) : (deskOf seen rs).fits := by
  refine runL_fits hr 13 _ ⟨?_, markL_length _⟩
  have := List.count_le_length (a := (0 : Int)) (l := markL seen)
  rw [markL_length] at this
  show 0 + (markL seen).count 0 ≤ 12
  omega
theorem deskOf_ordF {seen : List Int} {rs : List Rl} (hs : factsOk seen) (hr : rulesOk rs) : OrdF rs (deskOf seen rs).ord :=
  (deskOf_end hs hr).ord.ordF (by have := (deskOf_fits (seen := seen) hr).1; omega)

def pStepsE (facts : Int) (seen : List Int) (rs : List Rl) (x : Int) : Int := if openErr facts seen rs [x] = 0 then (if nth (deskOf seen rs).known x.toNat = 0 then 5 else 0) else openErr facts seen rs [x]
def pStepsL (facts : Int) (seen : List Int) (rs : List Rl) (x : Int) : List Int := if openErr facts seen rs [x] = 0 then (if nth (deskOf seen rs).known x.toNat = 0 then [] else stepsM rs (deskOf seen rs).ord (markL [x])) else []

/-- a list and an error are handed back, with room -/
def ListC (w : World) (xs : List Int) (er : Int) (e : Ending) (w' : World) : Prop :=
  ∃ ao cap, e = .returned (.tuple #[.slice ao xs.length cap, .int .i64 er]) ∧ IntsAt w' ao xs ∧ (ao = none → cap = 0) ∧ xs.length ≤ cap ∧ Below w.heap.size w w'

set_option maxRecDepth 100000 in
set_option maxHeartbeats 4000000 in
theorem pSteps_c (facts : Int) (sa : Option Addr) (sc : Nat) (seen : List Int) (ra : Option Addr) (rc : Nat) (rs : List Rl) (x : Int) (w : World) (hc : CaseAt w sa ra seen rs) :
    Calls Try.prog 32 #[.agg #[.int .i64 facts, .slice sa seen.length sc, .slice ra rs.length rc], .int .i64 x] w (ListC w (pStepsL facts seen rs x) (pStepsE facts seen rs x)) := by
  obtain ⟨W0, hW0⟩ : ∃ W0, W0 = w.alloc (.cells #[.int .i64 facts, .slice sa seen.length sc, .slice ra rs.length rc] 25) := ⟨_, rfl⟩
  have HB0 := hid (show Below w.heap.size w W0 by rw [hW0]; exact bnew w _)
  obtain ⟨c0, c1, c2⟩ := caseBox w facts sa ra seen.length sc rs.length rc
  rw [← hW0] at c0 c1 c2
  have HS := hid hW0
  obtain ⟨W1, hW1⟩ : ∃ W1, W1 = W0.alloc (.cells #[.int .i64 x] 3) := ⟨_, rfl⟩
  have hb01 : Below W0.heap.size W0 W1 := by rw [hW1]; exact bnew _ _
  have HO := hid (open_c facts sa sc seen ra rc rs (some ⟨w.heap.size + 1, 0, none⟩) 1 [x] W1 (hc.mono (bstep HB0.out hb01)) (by have h := at_lit1 W0 x; rw [← hW1, show W0.heap.size = w.heap.size + 1 from by rw [hW0]; simp] at h; exact h) (by simp))
  have HS1 := hid hW1
  have HB01 := hid hb01
  unfold ListC pStepsL pStepsE
  have hlen1 : ([x] : List Int).length = 1 := rfl
  rw [hlen1] at HO
  by_cases hz : openErr facts seen rs [x] = 0
  · rw [if_pos hz, if_pos hz]
    rw [hz] at HO
    obtain ⟨hz2, hw⟩ := open_zero hz
    obtain ⟨hx0, hx1⟩ := within_one.1 hw
    obtain ⟨⟨f0, f1⟩, _⟩ := case_zero hz2
    obtain ⟨n, rfl⟩ := Int.eq_ofNat_of_zero_le hx0
    have hn12 : n < 12 := by omega
    have Hof := hid (deskOf_ordF (case_seen hz2) (case_rules hz2 hc.il))
    have Hro := hid (case_rules hz2 hc.il)
    have Hc := hid hc
    rw [Int.toNat_natCast]
    obtain ⟨st, hst⟩ : ∃ st, st = deskOf seen rs := ⟨_, rfl⟩
    rw [← hst] at HO Hof ⊢
    clear hc hz hz2 hW0 c0 c1 c2 hst hw hx0 hx1 f0 f1 hW1 hb01
    by_cases hk : nth st.known n = 0
    · rw [if_pos hk, if_pos hk]
      go_enter Try.func32, Try.ntmps32
      go_wp2_with fail
      rw [← HS.out, ← HS1.out]
      refine HO.out.mono ?_
      rintro e w1 ⟨p, rfl, hB, hp⟩
      obtain ⟨g, bm, oa, oc, rfl, hd⟩ := hp rfl
      have HB1 := hid (bstep HB0.out (bstep HB01.out hB))
      have kk := hd.kK hn12
      rw [hk] at kk
      clear hB hp hd hk
      go_wp2
      go_ret2
      exact ⟨none, 0, rfl, IntsAt.nil _ _, fun _ => rfl, Nat.le_refl _, HB1.out⟩
    · rw [if_neg hk, if_neg hk]
      have hkb : (nth st.known n == 0) = false := by simpa using hk
      obtain ⟨L, hL⟩ : ∃ L, L = stepsM rs st.ord (markL [(n : Int)]) := ⟨_, rfl⟩
      rw [← hL]
      have HL := hid hL
      clear hL
      go_enter Try.func32, Try.ntmps32
      go_wp2_with fail
      rw [← HS.out, ← HS1.out]
      refine HO.out.mono ?_
      rintro e w1 ⟨p, rfl, hB, hp⟩
      obtain ⟨g, bm, oa, oc, rfl, hd⟩ := hp rfl
      have HB1 := hid (bstep HB0.out (bstep HB01.out hB))
      have kk := hd.kK hn12
      have hlit := at_lit1 w1 (n : Int)
      have hb1 := bnew w1 (.cells #[.int .i64 (n : Int)] 3)
      have HSt := hid (steps_c W1.heap.size g bm oa oc (.int .i64 facts) (.slice sa seen.length sc) ra rc rs st.known st.ord st.clash (some ⟨w1.heap.size, 0, none⟩) 1 [(n : Int)] (w1.alloc (.cells #[.int .i64 (n : Int)] 3)) (hd.kept hb1) (Hc.out.r.mono (bstep HB1.out hb1)) Hro.out Hc.out.rl Hof.out hlit (by simp) (factsOk_one (by omega) (by omega)))
      rw [← HL.out] at HSt
      have HB2 := hid (bstep HB1.out hb1)
      generalize nth st.known n = v at *
      clear hB hp hd hlit hb1
      go_wp2_with fail
      refine HSt.out.mono ?_
      rintro e w2 ⟨ao, cap, rfl, hat, hn, hcp, hB⟩
      go_wp2
      go_ret2
      exact ⟨ao, cap, rfl, hat, hn, hcp, bstep HB2.out hB⟩
  · rw [if_neg hz, if_neg hz]
    have hcb := errB hz
    clear hc hz hW0 c0 c1 c2 hW1 hb01
    generalize openErr facts seen rs [x] = c at *
    go_enter Try.func32, Try.ntmps32
    go_wp2_with fail
    rw [← HS.out, ← HS1.out]
    refine HO.out.mono ?_
    rintro e w1 ⟨p, rfl, hB, hp⟩
    have HB1 := hid (bstep HB0.out (bstep HB01.out hB))
    clear hB hp
    go_wp2
    go_ret2
    exact ⟨none, 0, rfl, IntsAt.nil _ _, fun _ => rfl, Nat.le_refl _, HB1.out⟩

def pClashE (facts : Int) (seen : List Int) (rs : List Rl) : Int := if caseErr facts seen rs = 0 then (if (deskOf seen rs).clash < 0 then 5 else 0) else caseErr facts seen rs
def pClashL (facts : Int) (seen : List Int) (rs : List Rl) : List Int := if caseErr facts seen rs = 0 then (if (deskOf seen rs).clash < 0 then [] else stepsM rs (deskOf seen rs).ord (markL (nthR rs (deskOf seen rs).clash.toNat).1) ++ [(deskOf seen rs).clash]) else []

theorem stepsM_len {rs : List Rl} {ord : List (Nat × Nat)} (h : OrdF rs ord) (m : List Int) : (stepsM rs ord m).length ≤ 12 := Nat.le_trans (stepsTo_length _ _ _ _) h.len

set_option maxRecDepth 100000 in
set_option maxHeartbeats 4000000 in
theorem pClash_c (facts : Int) (sa : Option Addr) (sc : Nat) (seen : List Int) (ra : Option Addr) (rc : Nat) (rs : List Rl) (w : World) (hc : CaseAt w sa ra seen rs) :
    Calls Try.prog 33 #[.agg #[.int .i64 facts, .slice sa seen.length sc, .slice ra rs.length rc]] w (ListC w (pClashL facts seen rs) (pClashE facts seen rs)) := by
  obtain ⟨W0, hW0⟩ : ∃ W0, W0 = w.alloc (.cells #[.int .i64 facts, .slice sa seen.length sc, .slice ra rs.length rc] 25) := ⟨_, rfl⟩
  have HB0 := hid (show Below w.heap.size w W0 by rw [hW0]; exact bnew w _)
  obtain ⟨c0, c1, c2⟩ := caseBox w facts sa ra seen.length sc rs.length rc
  rw [← hW0] at c0 c1 c2
  have C2 := hid c2
  have HS := hid hW0
  have HO := hid (open_c facts sa sc seen ra rc rs none 0 [] W0 (hc.mono HB0.out) (IntsAt.nil _ _) (by simp))
  rw [open_none] at HO
  unfold ListC pClashL pClashE
  by_cases hz : caseErr facts seen rs = 0
  · rw [if_pos hz, if_pos hz]
    rw [hz] at HO
    have Hof := hid (deskOf_ordF (case_seen hz) (case_rules hz hc.il))
    have Hcl := hid (deskOf_end (case_seen hz) (case_rules hz hc.il)).clash
    have Hro := hid (case_rules hz hc.il)
    have Hc := hid hc
    obtain ⟨st, hst⟩ : ∃ st, st = deskOf seen rs := ⟨_, rfl⟩
    rw [← hst] at HO Hof Hcl ⊢
    clear hc hz hW0 c0 c1 c2 hst
    by_cases hcl : st.clash < 0
    · rw [if_pos hcl, if_pos hcl]
      go_enter Try.func33, Try.ntmps33
      go_wp2_with fail
      rw [← HS.out]
      refine HO.out.mono ?_
      rintro e w1 ⟨p, rfl, hB, hp⟩
      obtain ⟨g, bm, oa, oc, rfl, hd⟩ := hp rfl
      have HB1 := hid (bstep HB0.out hB)
      have kc := hd.kC
      clear hB hp hd
      go_wp2
      go_ret2
      exact ⟨none, 0, rfl, IntsAt.nil _ _, fun _ => rfl, Nat.le_refl _, HB1.out⟩
    · rw [if_neg hcl, if_neg hcl]
      obtain ⟨k, hk⟩ := Int.eq_ofNat_of_zero_le (show 0 ≤ st.clash by omega)
      obtain ⟨hkr, _, _⟩ := Hcl.out (by omega)
      rw [hk, Int.toNat_natCast] at hkr
      rw [hk, Int.toNat_natCast]
      obtain ⟨hf1, hf2, _, _⟩ := Hro.out k hkr
      obtain ⟨b2, off2, a2, cp2, rfl, hra0⟩ := Hc.out.r.at hkr
      have Hlen := hid (stepsM_len Hof.out (markL (nthR rs k).1))
      obtain ⟨L, hL⟩ : ∃ L, L = stepsM rs st.ord (markL (nthR rs k).1) := ⟨_, rfl⟩
      rw [← hL] at Hlen ⊢
      have HL := hid hL; have Hf1 := hid hf1; have Hf2 := hid hf2; have Hra0 := hid hra0; have Hk := hid hk
      clear hL hf1 hf2 hra0 hcl
      have hkl : (k : Int) < (rs.length : Int) := by omega
      go_enter Try.func33, Try.ntmps33
      go_wp2_with fail
      rw [← HS.out]
      refine HO.out.mono ?_
      rintro e w1 ⟨p, rfl, hB, hp⟩
      obtain ⟨g, bm, oa, oc, rfl, hd⟩ := hp rfl
      have HB1 := hid (bstep HB0.out hB)
      have kc := hd.kC
      rw [Hk.out] at kc
      have d2 := cstep C2.out hB
      have hra := Hra0.out.mono HB1.out
      have q0 := hra.cI
      have HSt := hid fun (w' : World) (h : Below w1.heap.size w1 w') => steps_c W0.heap.size g bm oa oc (.int .i64 facts) (.slice sa seen.length sc) (some ⟨b2, off2, none⟩) rc rs st.known st.ord st.clash a2 cp2 (nthR rs k).1 w' (hd.kept h) (Hc.out.r.mono (bstep HB1.out h)) Hro.out Hc.out.rl Hof.out (hra.at'.mono h) Hf2.out Hf1.out
      rw [← HL.out] at HSt
      obtain ⟨ln, hln⟩ : ∃ n, n = (nthR rs k).1.length := ⟨_, rfl⟩
      rw [← hln] at q0 HSt
      have Hkc := hid kc
      clear hB hp hd hra hln hk
      go_upto_region 6 with (fail)
      go_cut [6] (fun s wc => ∃ ao cap, s = .slice ao L.length cap ∧ IntsAt wc ao L ∧ (ao = none → cap = 0) ∧ L.length ≤ cap ∧ Below w1.heap.size w1 wc)
      case first =>
        go_region_with (go_at_call 74; (with_reducible refine (HSt.out _ (by first | exact Below.refl _ _ | exact (Below.refl _ _).drew)).mono ?_); rintro e w3 ⟨ao, cap, rfl, hat, hn, hcp, hB⟩; have hBl : Below w1.heap.size w1 w3 := by first | exact hB | exact ((Below.refl _ _).drew).trans hB)
        all_goals (
          go_wp2
          go_meet
          exact ⟨ao, cap, rfl, hat, hn, hcp, hBl⟩)
      case rest =>
        obtain ⟨ao, cap, rfl, hat, hn, hcp, hB⟩ := hcut
        have kc2 := cstep Hkc.out hB
        have hgw : g < wc.heap.size := block_lt_of_cell kc2
        have hgw2 : ¬ g = wc.heap.size := by omega
        have HB2 := hid (bstep HB1.out hB)
        have Hat := hid hat
        have hlb : L.length ≤ 1000000 := by have := Hlen.out; omega
        clear hB kc q0 d2 hat HSt
        have hRl : (L ++ [(k : Int)]).length = L.length + 1 := by simp
        have HRl := hid hRl
        clear hRl
        cases ao with
        | none =>
          obtain rfl : L = [] := by
            rcases Hat.out with h | ⟨b, off, h, _⟩
            · exact h
            · cases h
          obtain rfl := hn rfl
          go_wp2_with fail
          go_region_law ((refine step_app_full1 _ (by rfl) _ _ (by rfl) none 0 0 [] (by rfl) (by rfl) (IntsAt.nil _ _) (fun _ => ⟨rfl, rfl⟩) _ (k : Int) (by rfl) (by simp [go_sem]) (by omega) (by omega) ?_; intro b' cap' w' hB' hb' hat' hcap'; have hBl : Below w.heap.size w w' := by first | exact bstep HB2.out (bstep (bnew _ _) hB') | exact bstep HB2.out (bstep (bnew _ _).drew hB') | exact bstep HB2.out.drew (bstep (bnew _ _) hB')))
          all_goals (
            go_wp2
            go_ret2
            exact ⟨some ⟨b', 0, none⟩, cap', rfl, hat', (fun h => by cases h), hcap', hBl⟩)
        | some a0 =>
          go_wp2_with fail
          go_region_law ((refine step_app_full1 _ (by rfl) _ _ (by rfl) (some a0) L.length L.length L (by rfl) (by rfl) (by first | exact Hat.out | exact Hat.out.mono (bnew _ _) | exact Hat.out.mono (bnew _ _).drew | exact (Hat.out.mono (Below.refl _ _).drew).mono (bnew _ _)) (fun h => by cases h) _ (k : Int) (by rfl) (by simp [go_sem]) (by omega) hlb ?_; intro b' cap' w' hB' hb' hat' hcap'; have hBl : Below w.heap.size w w' := by first | exact bstep HB2.out (bstep (bnew _ _) hB') | exact bstep HB2.out (bstep (bnew _ _).drew hB') | exact bstep HB2.out.drew (bstep (bnew _ _) hB')))
          all_goals (
            go_wp2
            go_ret2
            exact ⟨some ⟨b', 0, none⟩, cap', by rw [HRl.out]; rfl, hat', (fun h => by cases h), by rw [HRl.out]; exact hcap', hBl⟩)
  · rw [if_neg hz, if_neg hz]
    have hcb := errB hz
    clear hc hz hW0 c0 c1 c2
    generalize caseErr facts seen rs = c at *
    go_enter Try.func33, Try.ntmps33
    go_wp2_with fail
    rw [← HS.out]
    refine HO.out.mono ?_
    rintro e w1 ⟨p, rfl, hB, hp⟩
    have HB1 := hid (bstep HB0.out hB)
    clear hB hp
    go_wp2
    go_ret2
    exact ⟨none, 0, rfl, IntsAt.nil _ _, fun _ => rfl, Nat.le_refl _, HB1.out⟩

end Go.Proofs.Ytkioejdddmnbmaa
