/- Walk: Verdict of the program. -/
import Derived.Test.YtkioejdddmnbmaaSf
namespace Go.Proofs.Ytkioejdddmnbmaa
open Go.RowKit Go.Shelf
attribute [local go_sem ↓] wp_get wp_get0 wp_getS wp78 wps78 wpa78

def pVerdictE (facts : Int) (seen : List Int) (rs : List Rl) (x : Int) : Int := if openErr facts seen rs [x] = 0 then (if 0 ≤ (deskOf seen rs).clash then 24 else 0) else openErr facts seen rs [x]
def pVerdictN (facts : Int) (seen : List Int) (rs : List Rl) (x : Int) : Int :=
  if openErr facts seen rs [x] = 0 then (if 0 ≤ (deskOf seen rs).clash then 0 else if 0 < nth (deskOf seen rs).known x.toNat then 2 else if 0 ≤ (deskOf (seen ++ [x]) rs).clash then 0 else 1) else 0

theorem open_zero {facts : Int} {seen : List Int} {rs : List Rl} {l : List Int} (h : openErr facts seen rs l = 0) : caseErr facts seen rs = 0 ∧ within 0 (facts - 1) l = true := by
  unfold openErr at h
  split at h
  · rename_i h1
    split at h
    · rename_i h2; exact ⟨h1, h2⟩
    · cases h
  · rename_i h1; exact absurd h h1
theorem factsOk_append {a b : List Int} (ha : factsOk a) (hb : factsOk b) : factsOk (a ++ b) := by
  intro k hk
  by_cases h : k < a.length
  · rw [nth_append_left h]; exact ha k h
  · obtain ⟨j, rfl⟩ : ∃ j, k = a.length + j := ⟨k - a.length, by omega⟩
    rw [nth_append_right]
    rw [List.length_append] at hk
    exact hb j (by omega)

set_option maxRecDepth 100000 in
set_option maxHeartbeats 2000000 in
theorem verdict_c (facts : Int) (sa : Option Addr) (sc : Nat) (seen : List Int) (ra : Option Addr) (rc : Nat) (rs : List Rl) (x : Int) (w : World) (hc : CaseAt w sa ra seen rs) (hnil : sa = none → sc = 0) (hsl : seen.length ≤ 1000) :
    Calls Try.prog 27 #[.agg #[.int .i64 facts, .slice sa seen.length sc, .slice ra rs.length rc], .int .i64 x] w (NumE w (pVerdictN facts seen rs x) (pVerdictE facts seen rs x)) := by
  obtain ⟨W0, hW0⟩ : ∃ W0, W0 = w.alloc (.cells #[.int .i64 facts, .slice sa seen.length sc, .slice ra rs.length rc] 25) := ⟨_, rfl⟩
  have HB0 := hid (show Below w.heap.size w W0 by rw [hW0]; exact bnew w _)
  obtain ⟨c0, c1, c2⟩ := caseBox w facts sa ra seen.length sc rs.length rc
  rw [← hW0] at c0 c1 c2
  have C0 := hid c0; have C1 := hid c1; have C2 := hid c2
  have HS := hid hW0
  obtain ⟨W1, hW1⟩ : ∃ W1, W1 = W0.alloc (.cells #[.int .i64 x] 3) := ⟨_, rfl⟩
  have hb01 : Below W0.heap.size W0 W1 := by rw [hW1]; exact bnew _ _
  have HO := hid (open_c facts sa sc seen ra rc rs (some ⟨w.heap.size + 1, 0, none⟩) 1 [x] W1 (hc.mono (bstep HB0.out hb01)) (by have h := at_lit1 W0 x; rw [← hW1, show W0.heap.size = w.heap.size + 1 from by rw [hW0]; simp] at h; exact h) (by simp))
  have HS1 := hid hW1
  have HB01 := hid hb01
  have D0 := hid (cstep c0 hb01); have D1 := hid (cstep c1 hb01); have D2 := hid (cstep c2 hb01)
  unfold NumE pVerdictN pVerdictE
  have hlen1 : ([x] : List Int).length = 1 := rfl
  rw [hlen1] at HO
  by_cases hz : openErr facts seen rs [x] = 0
  · rw [if_pos hz, if_pos hz]
    rw [hz] at HO
    obtain ⟨hz2, hw⟩ := open_zero hz
    obtain ⟨hx0, hx1⟩ := within_one.1 hw
    obtain ⟨⟨f0, f1⟩, _⟩ := case_zero hz2
    obtain ⟨n, rfl⟩ := Int.eq_ofNat_of_zero_le hx0
    have hn12 : n < 12 := by omega
    have HN := hid fun (a : Option Addr) (c : Nat) (w' : World) (h : Below w.heap.size w w') (hat : IntsAt w' a (seen ++ [(n : Int)])) => newDesk_c facts a c (seen ++ [(n : Int)]) ra rc rs w' hat (by simp; omega)
      (factsOk_append (case_seen hz2) (factsOk_one hx0 (by omega))) (hc.r.mono h) (case_rules hz2 hc.il) hc.rl
    have HC := hid fun (w' : World) (h : Below w.heap.size w w') => clone_c sa sc seen w' (hc.s.mono h) (by omega) hnil
    have hle : (seen ++ [(n : Int)]).length = seen.length + 1 := by simp
    rw [hle] at HN
    rw [Int.toNat_natCast]
    obtain ⟨st, hst⟩ : ∃ st, st = deskOf seen rs := ⟨_, rfl⟩
    obtain ⟨st2, hst2⟩ : ∃ st, st = deskOf (seen ++ [(n : Int)]) rs := ⟨_, rfl⟩
    rw [← hst] at HO ⊢
    rw [← hst2] at HN ⊢
    unfold OwnR at HC
    unfold DeskP at HN
    clear hc hz hz2 hW0 c0 c1 c2 hst hst2 hw hx0 hx1 f0 f1 hle hnil hW1 hb01
    have hx12 : (n : Int) < 12 := by omega
    by_cases hcl : 0 ≤ st.clash
    · rw [if_pos hcl, if_pos hcl]
      go_enter Try.func27, Try.ntmps27
      go_wp2_with fail
      rw [← HS.out, ← HS1.out]
      refine HO.out.mono ?_
      rintro e w1 ⟨p, rfl, hB, hp⟩
      obtain ⟨g, bm, oa, oc, rfl, hd⟩ := hp rfl
      have HB1 := hid (bstep HB0.out (bstep HB01.out hB))
      have kc := hd.kC
      clear hB hp hd
      go_wp2
      go_ret2
      exact ⟨rfl, HB1.out⟩
    · rw [if_neg hcl, if_neg hcl]
      by_cases hk : 0 < nth st.known n
      · rw [if_pos hk]
        go_enter Try.func27, Try.ntmps27
        go_wp2_with fail
        rw [← HS.out, ← HS1.out]
        refine HO.out.mono ?_
        rintro e w1 ⟨p, rfl, hB, hp⟩
        obtain ⟨g, bm, oa, oc, rfl, hd⟩ := hp rfl
        have HB1 := hid (bstep HB0.out (bstep HB01.out hB))
        have kc := hd.kC
        have kk := hd.kK hn12
        generalize nth st.known n = v at *
        clear hB hp hd
        go_wp2
        go_ret2
        exact ⟨rfl, HB1.out⟩
      · rw [if_neg hk]
        go_enter Try.func27, Try.ntmps27
        go_wp2_with fail
        rw [← HS.out, ← HS1.out]
        refine HO.out.mono ?_
        rintro e w1 ⟨p, rfl, hB, hp⟩
        obtain ⟨g, bm, oa, oc, rfl, hd⟩ := hp rfl
        have HB1 := hid (bstep HB0.out (bstep HB01.out hB))
        have kc := hd.kC
        have kk := hd.kK hn12
        generalize nth st.known n = v at *
        have e0 := cstep D0.out hB; have e1 := cstep D1.out hB; have e2 := cstep D2.out hB
        have E1 := hid e1
        clear hB hp hd
        obtain ⟨W2, hW2⟩ : ∃ W2, W2 = w1.alloc (.cells #[.int .i64 facts, .slice sa seen.length sc, .slice ra rs.length rc] 25) := ⟨_, rfl⟩
        have hal : Below w1.heap.size w1 W2 := by rw [hW2]; exact bnew _ _
        obtain ⟨b0, b1, b2⟩ := caseBox w1 facts sa ra seen.length sc rs.length rc
        rw [← hW2] at b0 b1 b2
        have hbf : W2.frozen? ⟨w1.heap.size, 1, none⟩ = false := by rw [hW2]; simp [go_sem]
        have hbs : w1.heap.size < W2.heap.size := by rw [hW2]; simp
        have Hal := hid hal; have Hbf := hid hbf
        have B0 := hid b0; have B1 := hid b1; have B2 := hid b2
        have HW2 := hid hW2
        clear hal b0 b1 b2 hbf hW2
        have g1 := cstep e1 (bnew w1 (.cells #[.int .i64 facts, .slice sa seen.length sc, .slice ra rs.length rc] 25))
        go_wp2_with fail
        rw [← HW2.out]
        refine (HC.out _ (bstep HB1.out Hal.out)).mono ?_
        rintro e w2 ⟨ao, cap, rfl, hown, hB⟩
        have Hown := hid hown; have HB2 := hid hB
        clear hown hB e0 e1 e2 kc kk g1
        go_wp2_with (at_builtin; refine wpList_app_own _ rfl _ _ rfl W2.heap.size ao seen.length cap seen rfl ?d1 _ (n : Int) rfl ?d2 ?d3 ?d4 ?d5; rotate_right; (intro b' cap' w' hB' hb' hown' hgr'; refine Hid.out ?_))
        case d1 => exact Hown.out.alloc _
        case d2 => simp
        case d3 => omega
        case d4 => have := HB2.out.size; simp; omega
        case d5 =>
          refine hid ?_
          have HB3 := hid (HB2.out.trans (((bnew w2 (.cells #[.int .i64 n] 3)).mono HB2.out.size).trans hB'))
          have q0 := cstep B0.out HB3.out; have q1 := cstep B1.out HB3.out; have q2 := cstep B2.out HB3.out
          have qf : w'.frozen? ⟨w1.heap.size, 1, none⟩ = false := (HB3.out.frozen (p := ⟨w1.heap.size, 1, none⟩) hbs).trans Hbf.out
          have Hown' := hid hown'
          have hbne : b' ≠ w1.heap.size := by omega
          have Hbne := hid hbne
          clear hown' hB' hgr' hbne
          go_wp2_with fail
          have hat2 := Hown'.out.at.only (setCell_only w1.heap.size 1 (.slice (some ⟨b', 0, none⟩) (seen.length + 1) cap')) (fun b off e _ => by cases e; exact Hbne.out)
          have hB4 : Below w.heap.size w (w'.setCell ⟨w1.heap.size, 1, none⟩ (.slice (some ⟨b', 0, none⟩) (seen.length + 1) cap')) := (bstep HB1.out (bstep Hal.out HB3.out)).setCell HB1.out.size _
          have HB4 := hid hB4
          refine (HN.out _ _ _ hB4 hat2).mono ?_
          rintro e w3 ⟨g2, bm2, oa2, oc2, rfl, hd2, hB5⟩
          have kc2 := hd2.kC
          have HB5 := hid (bstep HB4.out hB5)
          clear hd2 hB5 hB4 hat2 q0 q1 q2 qf
          by_cases hcl2 : 0 ≤ st2.clash
          · go_wp2
            go_ret2
            exact ⟨rfl, HB5.out⟩
          · go_wp2
            go_ret2
            exact ⟨rfl, HB5.out⟩
  · rw [if_neg hz, if_neg hz]
    have hcb := errB hz
    clear hc hz hW0 c0 c1 c2 hW1 hb01
    generalize openErr facts seen rs [x] = c at *
    go_enter Try.func27, Try.ntmps27
    go_wp2_with fail
    rw [← HS.out, ← HS1.out]
    refine HO.out.mono ?_
    rintro e w1 ⟨p, rfl, hB, hp⟩
    have HB1 := hid (bstep HB0.out (bstep HB01.out hB))
    clear hB hp
    go_wp2
    go_ret2
    exact ⟨rfl, HB1.out⟩

end Go.Proofs.Ytkioejdddmnbmaa
