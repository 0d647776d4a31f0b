/- Walks of the reference: IsList, CheckCase. -/
import Derived.Test.YtkioejdddmnbmaaCb
namespace Go.Proofs.Ytkioejdddmnbmaa
open Go.RowKit Go.Shelf

theorem within_one {lo hi x : Int} : within lo hi [x] = true ↔ lo ≤ x ∧ x ≤ hi := by simp [within]
theorem within_not {lo hi x : Int} (h : ¬ (lo ≤ x ∧ x ≤ hi)) : within lo hi [x] = false := by
  cases hh : within lo hi [x] with
  | false => rfl
  | true => exact absurd (within_one.1 hh) h

theorem rising_false {below : Int} {l : List Int} {k : Nat} (hk : k < l.length) (h : risesAt below l k = false) : rising below l = false := by
  cases hh : rising below l with
  | false => rfl
  | true => have := List.all_eq_true.1 hh k (List.mem_range.2 hk); rw [h] at this; cases this

set_option maxRecDepth 100000 in
set_option maxHeartbeats 2000000 in
theorem isListQ (a : Option Addr) (cap : Nat) (l : List Int) (below : Int) (w : World) (hx : IntsAt w a l) (hl : l.length ≤ 1000000) :
    Calls Try.prog 53 #[.slice a l.length cap, .int .i64 below] w fun e w' => e = .returned (.bool (rising below l)) ∧ ∃ m, w' = w.drewN m := by
  have Hx := hid hx
  clear hx
  go_enter Try.func53, Try.ntmps53
  go_wp2
  go_loopw [5] (fun i wr => ∃ k : Nat, k ≤ l.length ∧ i = .int .i64 k ∧ (List.range k).all (risesAt below l) = true ∧ (0 < k → 0 ≤ nth l (k - 1)) ∧ ∃ m, wr = w.drewN m) (fun i _ => l.length - (intOf i).toNat)
  case atStart => exact ⟨0, Nat.zero_le _, rfl, rfl, fun h => absurd h (by omega), 0, rfl⟩
  case round =>
    obtain ⟨k, hk, rfl, hall, hpos, m, rfl⟩ := hrel
    have Hall := hid hall
    clear hall
    by_cases hlt : k < l.length
    · obtain ⟨b, off, rfl, hc⟩ := Hx.out.at hlt
      have hstep := all_range_succ (risesAt below l) k
      have hr : risesAt below l k = within (nextAt l k) (below - 1) [nth l k] := rfl
      have Hstep := hid hstep
      clear hstep
      obtain ⟨x, hxx⟩ : ∃ x, x = nth l k := ⟨_, rfl⟩
      have Hxx := hid hxx
      rw [← hxx] at hc hr
      by_cases hA : x < 0
      · have hf : risesAt below l k = false := by
          rw [hr]; refine within_not (fun h => ?_)
          unfold nextAt at h
          by_cases h0 : k = 0
          · rw [if_pos h0] at h; omega
          · rw [if_neg h0] at h; have := hpos (by omega); omega
        have Hres := hid (rising_false hlt hf)
        have b1 : decide (x < 0) = true := decide_eq_true hA
        clear hf hr hxx hpos hA
        go_wp2
        go_quiet (fail)
        go_wp2
        go_ret
        exact ⟨ret_bool Hres.out.symm, _, World.drewN_drewN _ _ _⟩
      · have b1 : decide (x < 0) = false := decide_eq_false hA
        by_cases hC : below ≤ x
        · have hf : risesAt below l k = false := by
            rw [hr]; exact within_not (fun h => by omega)
          have Hres := hid (rising_false hlt hf)
          have b2 : decide (below ≤ x) = true := decide_eq_true hC
          clear hf hr hxx hpos hA hC
          go_wp2
          go_quiet (fail)
          go_wp2
          go_ret
          exact ⟨ret_bool Hres.out.symm, _, World.drewN_drewN _ _ _⟩
        · have b2 : decide (below ≤ x) = false := decide_eq_false hC
          by_cases hk0 : k = 0
          · subst hk0
            rw [Nat.add_zero] at hc
            have hf : risesAt below l 0 = true := by rw [hr]; exact within_one.2 ⟨by unfold nextAt; rw [if_pos rfl]; omega, by omega⟩
            have Hf := hid hf
            have hxp : 0 ≤ nth l 0 := by rw [← hxx]; omega
            clear hf hr hxx hpos hA hC
            go_wp2
            go_quiet (fail)
            go_wp2
            go_roundw
            case rel => exact ⟨1, by omega, by go_num, by rw [Hstep.out, Hall.out, Hf.out]; rfl, fun _ => hxp, _, rfl⟩
            case measure => simp [intOf]; omega
          · obtain ⟨j, rfl⟩ : ∃ j, k = j + 1 := ⟨k - 1, by omega⟩
            have hcp := Hx.out.cell (k := j) (by omega)
            obtain ⟨y, hyy⟩ : ∃ y, y = nth l j := ⟨_, rfl⟩
            rw [← hyy] at hcp
            have hnx : nextAt l (j + 1) = y + 1 := by unfold nextAt; rw [if_neg (by omega), hyy]; rfl
            by_cases hD : x ≤ y
            · have hf : risesAt below l (j + 1) = false := by rw [hr, hnx]; exact within_not (fun h => by omega)
              have Hres := hid (rising_false hlt hf)
              have b3 : decide (x ≤ y) = true := decide_eq_true hD
              clear hf hr hxx hpos hA hC hD hnx hyy hk0
              go_wp2
              go_quiet (fail)
              go_wp2
              go_ret
              exact ⟨ret_bool Hres.out.symm, _, World.drewN_drewN _ _ _⟩
            · have hf : risesAt below l (j + 1) = true := by rw [hr, hnx]; exact within_one.2 ⟨by omega, by omega⟩
              have Hf := hid hf
              have hxp : 0 ≤ nth l (j + 1) := by rw [← hxx]; omega
              have b3 : decide (x ≤ y) = false := decide_eq_false hD
              clear hf hr hxx hpos hA hC hD hnx hyy hk0
              go_wp2
              go_quiet (fail)
              go_wp2
              go_roundw
              case rel => exact ⟨j + 1 + 1, by omega, by go_num, by rw [Hstep.out, Hall.out, Hf.out]; rfl, fun _ => hxp, _, rfl⟩
              case measure => simp [intOf]; omega
    · obtain rfl : k = l.length := by omega
      go_wp2
      go_ret
      exact ⟨ret_bool Hall.out.symm, _, rfl⟩


theorem isList_c (a : Option Addr) (cap : Nat) (l : List Int) (below : Int) (w : World) (hx : IntsAt w a l) (hl : l.length ≤ 1000000) :
    Calls Try.prog 53 #[.slice a l.length cap, .int .i64 below] w fun e w' => e = .returned (.bool (rising below l)) ∧ Below w.heap.size w w' :=
  (isListQ a cap l below w hx hl).mono fun _ _ h => ⟨h.1, by obtain ⟨m, rfl⟩ := h.2; exact below_drewN (Below.refl _ _) m⟩

def ruleBad (facts : Int) (r : Rl) : Bool := !rising facts r.1 || decide (r.2 < -1) || decide (facts ≤ r.2)
theorem ruleBad_ok (facts : Int) (r : Rl) : ruleBad facts r = !ruleOk facts r := by
  unfold ruleBad ruleOk
  cases rising facts r.1 with
  | false => rfl
  | true =>
    simp only [Bool.not_true, Bool.false_or, Bool.true_and]
    by_cases h : -1 ≤ r.2 ∧ r.2 ≤ facts - 1
    · rw [within_one.2 h, decide_eq_false (by omega), decide_eq_false (by omega)]; rfl
    · rw [within_not h]
      by_cases h1 : r.2 < -1
      · rw [decide_eq_true h1]; rfl
      · rw [decide_eq_false h1, decide_eq_true (by omega)]; rfl

set_option maxRecDepth 100000 in
set_option maxHeartbeats 4000000 in
theorem rCheckCase_c (sa ra : Option Addr) (sc rc : Nat) (facts : Int) (seen : List Int) (rs : List Rl) (w : World) (hs : IntsAt w sa seen) (hr : RulesAt w ra rs) (hb : seen.length ≤ 1000000) (hb2 : rs.length ≤ 1000000) (hb3 : ∀ i, i < rs.length → (nthR rs i).1.length ≤ 1000000) :
    Calls Try.prog 20 #[.agg #[.int .i64 facts, .slice sa seen.length sc, .slice ra rs.length rc]] w fun e w' => e = .returned (.int .i64 (caseErr facts seen rs)) ∧ Below w.heap.size w w' := by
  have HB0 := hid (bnew w (.cells #[.int .i64 facts, .slice sa seen.length sc, .slice ra rs.length rc] 25))
  obtain ⟨W0, hW0⟩ : ∃ W0, W0 = w.alloc (.cells #[.int .i64 facts, .slice sa seen.length sc, .slice ra rs.length rc] 25) := ⟨_, rfl⟩
  have c0 : W0.cell? ⟨w.heap.size, 0, none⟩ = some (.int .i64 facts) := by rw [hW0]; simp [go_sem]
  have c1 : W0.cell? ⟨w.heap.size, 1, none⟩ = some (.slice sa seen.length sc) := by rw [hW0]; simp [go_sem]
  have c2 : W0.cell? ⟨w.heap.size, 2, none⟩ = some (.slice ra rs.length rc) := by rw [hW0]; simp [go_sem]
  rw [← hW0] at HB0
  have C0 := hid c0; have C1 := hid c1; have C2 := hid c2
  have hce : caseErr facts seen rs = if within 1 12 [facts] && decide (rs.length ≤ 14) then (if rising facts seen && rs.all (ruleOk facts) then 0 else 3) else 6 := rfl
  have Hce := hid hce
  have HS := hid hW0
  have HL := hid fun (w' : World) (h : Below w.heap.size w w') => isList_c sa sc seen facts w' (hs.mono h) hb
  have HR := hid fun (w' : World) (h : Below w.heap.size w w') => hr.mono h
  have Hb3 := hid hb3
  clear hs hr hb hb3 hce hW0 c0 c1 c2
  by_cases hf1 : facts < 1
  · have hres : caseErr facts seen rs = 6 := by rw [Hce.out, within_not (fun h => by omega)]; rfl
    rw [hres]
    clear hres
    go_enter Try.func20, Try.ntmps20
    go_wp2
    go_ret
    exact ⟨rfl, by rw [← HS.out]; exact HB0.out⟩
  · by_cases hf2 : 12 < facts
    · have hres : caseErr facts seen rs = 6 := by rw [Hce.out, within_not (fun h => by omega)]; rfl
      rw [hres]
      clear hres
      go_enter Try.func20, Try.ntmps20
      go_wp2
      go_ret
      exact ⟨rfl, by rw [← HS.out]; exact HB0.out⟩
    · by_cases hn : 14 < rs.length
      · have hres : caseErr facts seen rs = 6 := by rw [Hce.out, decide_eq_false (p := rs.length ≤ 14) (by omega), Bool.and_false]; rfl
        rw [hres]
        have hnI : (14 : Int) < (rs.length : Int) := by omega
        clear hres
        go_enter Try.func20, Try.ntmps20
        go_wp2
        go_ret
        exact ⟨rfl, by rw [← HS.out]; exact HB0.out⟩
      · have hnI : ¬ (14 : Int) < (rs.length : Int) := by omega
        have hce2 : caseErr facts seen rs = if rising facts seen && rs.all (ruleOk facts) then 0 else 3 := by rw [Hce.out, within_one.2 ⟨by omega, by omega⟩, decide_eq_true (p := rs.length ≤ 14) (by omega)]; rfl
        obtain ⟨R, hR⟩ : ∃ R : Int, R = (if rising facts seen && rs.all (ruleOk facts) then 0 else 3) := ⟨_, rfl⟩
        rw [hce2, ← hR]
        have HRs := hid hR
        have HLi := hid (HL.out W0 HB0.out)
        generalize rising facts seen = v1 at *
        clear hce2 Hce HL hR
        cases v1 with
        | false =>
          go_enter Try.func20, Try.ntmps20
          go_wp2_with fail
          rw [← HS.out]
          refine HLi.out.mono ?_
          rintro e w1 ⟨rfl, hB⟩
          have HB1 := hid (bstep HB0.out hB)
          clear hB
          go_wp2
          go_ret
          exact ⟨ret_int (by rw [HRs.out]; rfl), HB1.out⟩
        | true =>
          go_enter Try.func20, Try.ntmps20
          go_wp2_with fail
          rw [← HS.out]
          refine HLi.out.mono ?_
          rintro e w1 ⟨rfl, hB⟩
          have HB1 := hid (bstep HB0.out hB)
          have D0 := hid (cstep C0.out hB); have D2 := hid (cstep C2.out hB)
          clear hB HLi HS C0 C1 C2 HB0
          go_wp2
          go_loopw [3] (fun i wr => ∃ k : Nat, k ≤ rs.length ∧ i = .int .i64 k ∧ (rs.take k).any (fun r => !ruleOk facts r) = false ∧ Below w1.heap.size w1 wr) (fun i _ => rs.length - (intOf i).toNat)
          case atStart => exact ⟨0, Nat.zero_le _, rfl, rfl, Below.refl _ _⟩
          case round =>
            obtain ⟨k, hk, rfl, hp, hB⟩ := hrel
            obtain ⟨wo, rfl⟩ : ∃ wo : World, wo = wr := ⟨_, rfl⟩
            have Hp := hid hp; have HB := hid hB
            have d0 := cstep D0.out hB; have d2 := cstep D2.out hB
            clear hp hB
            by_cases hlt : k < rs.length
            · obtain ⟨b, off, a, c, rfl, hra⟩ := (HR.out _ (bstep HB1.out HB.out)).at hlt
              have Ht := hid (anyR_take_succ (fun r => !ruleOk facts r) hlt)
              have hbad := ruleBad_ok facts (nthR rs k)
              have hbdef : ruleBad facts (nthR rs k) = (!rising facts (nthR rs k).1 || decide ((nthR rs k).2 < -1) || decide (facts ≤ (nthR rs k).2)) := rfl
              rw [hbdef] at hbad
              have hk2 := fun (d : Nat) => Calls.quiet_of (isListQ a c (nthR rs k).1 facts (wo.drewN d) (hra.at'.mono (below_drewN (Below.refl _ _) d)) (Hb3.out k hlt))
              have q0 := hra.cI
              have q1 := hra.cT
              have hfin : ruleOk facts (nthR rs k) = false → rs.all (ruleOk facts) = false := fun h => by
                cases h2 : rs.all (ruleOk facts) with
                | false => rfl
                | true => have := List.all_eq_true.1 h2 _ (nthR_mem hlt); rw [h] at this; cases this
              obtain ⟨ok, hok⟩ : ∃ o, o = ruleOk facts (nthR rs k) := ⟨_, rfl⟩
              rw [← hok] at hbad hfin
              obtain ⟨th, hth⟩ : ∃ t, t = (nthR rs k).2 := ⟨_, rfl⟩
              obtain ⟨n, hn'⟩ : ∃ n, n = (nthR rs k).1.length := ⟨_, rfl⟩
              obtain ⟨v, hv⟩ : ∃ v, v = rising facts (nthR rs k).1 := ⟨_, rfl⟩
              rw [← hn', ← hv] at hk2
              rw [← hn'] at q0
              rw [← hth] at q1
              rw [← hth, ← hv] at hbad
              have Hk2 := hid hk2; have Hfin := hid hfin; have Hok := hid hok; 
              clear hk2 hra hth hn' hv hbdef hfin hok
              have hltI : (k : Int) < (rs.length : Int) := by omega
              cases v with
              | false =>
                have Hbad := hid (Hfin.out (by simpa using hbad.symm))
                clear hbad
                go_wp2_with fail
                go_quiet ((go_at_call 53; exact Hk2.out _))
                go_wp2
                go_ret
                exact ⟨ret_int (by rw [HRs.out, Hbad.out]; rfl), bstep HB1.out (below_drewN HB.out _)⟩
              | true =>
                by_cases h1 : th < -1
                · have b1 : decide (th < -1) = true := decide_eq_true h1
                  rw [b1] at hbad
                  have Hbad := hid (Hfin.out (by simpa using hbad.symm))
                  clear hbad h1
                  go_wp2_with fail
                  go_quiet ((go_at_call 53; exact Hk2.out _))
                  go_wp2
                  go_ret
                  exact ⟨ret_int (by rw [HRs.out, Hbad.out]; rfl), bstep HB1.out (below_drewN HB.out _)⟩
                · have b1 : decide (th < -1) = false := decide_eq_false h1
                  rw [b1] at hbad
                  by_cases h2 : facts ≤ th
                  · have b2 : decide (facts ≤ th) = true := decide_eq_true h2
                    rw [b2] at hbad
                    have Hbad := hid (Hfin.out (by simpa using hbad.symm))
                    clear hbad h1 h2
                    go_wp2_with fail
                    go_quiet ((go_at_call 53; exact Hk2.out _))
                    go_wp2
                    go_ret
                    exact ⟨ret_int (by rw [HRs.out, Hbad.out]; rfl), bstep HB1.out (below_drewN HB.out _)⟩
                  · have b2 : decide (facts ≤ th) = false := decide_eq_false h2
                    rw [b2] at hbad
                    have hokt : ok = true := by simpa using hbad.symm
                    have Hokt := hid hokt
                    clear hbad hokt h1 h2
                    go_wp2_with fail
                    go_quiet ((go_at_call 53; exact Hk2.out _))
                    go_wp2
                    go_roundw
                    case rel => exact ⟨k + 1, by omega, by go_num, by rw [Ht.out, Hp.out, ← Hok.out, Hokt.out]; rfl, below_drewN HB.out _⟩
                    case measure => simp [intOf]; omega
            · obtain rfl : k = rs.length := by omega
              have hall : rs.all (ruleOk facts) = true := by
                have hp := Hp.out
                rw [List.take_of_length_le (by omega)] at hp
                rw [← List.not_all_eq_any_not] at hp
                simpa using hp
              have Hall := hid hall
              clear hall
              go_wp2
              go_ret
              exact ⟨ret_int (by rw [HRs.out, Hall.out]; rfl), bstep HB1.out HB.out⟩

end Go.Proofs.Ytkioejdddmnbmaa
