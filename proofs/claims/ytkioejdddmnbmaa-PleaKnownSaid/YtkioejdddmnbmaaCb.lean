/- Walks: CheckCase of the program. -/
import Derived.Test.YtkioejdddmnbmaaCa
namespace Go.Proofs.Ytkioejdddmnbmaa
open Go.RowKit Go.Shelf

def ruleOk (facts : Int) (r : Rl) : Bool := rising facts r.1 && within (-1) (facts - 1) [r.2]
def caseErr (facts : Int) (seen : List Int) (rs : List Rl) : Int :=
  if within 1 12 [facts] && decide (rs.length ≤ 14) then (if rising facts seen && rs.all (ruleOk facts) then 0 else 3) else 6

theorem nthR_mem {rs : List Rl} {i : Nat} (h : i < rs.length) : nthR rs i ∈ rs := by
  unfold nthR
  rw [List.getD_eq_getElem?_getD, List.getElem?_eq_getElem h]
  exact List.getElem_mem h

theorem anyR_take_succ (p : Rl → Bool) {rs : List Rl} {k : Nat} (h : k < rs.length) : (rs.take (k + 1)).any p = ((rs.take k).any p || p (nthR rs k)) := by
  rw [List.take_succ_eq_append_getElem h, List.any_append]
  unfold nthR
  rw [List.getD_eq_getElem?_getD, List.getElem?_eq_getElem h]
  simp

/-- a call that tells a bool and leaves what lay -/
def TellB (w : World) (v : Bool) (e : Ending) (w' : World) : Prop := e = .returned (.bool v) ∧ Below w.heap.size w w'

set_option maxRecDepth 100000 in
theorem stray_c (bc : Nat) (a : Option Addr) (cap : Nat) (r : Rl) (facts : Int) (w : World) (hx : IntsAt w a r.1) (hl : r.1.length ≤ 1000000) (hf : w.cell? ⟨bc, 0, none⟩ = some (.int .i64 facts)) (h0 : 1 ≤ facts) (h1 : facts ≤ 12) :
    Calls Try.prog 57 #[.agg #[.slice a r.1.length cap, .int .i64 r.2], .pointer (some ⟨bc, 0, none⟩)] w (TellB w (!ruleOk facts r)) := by
  have HB0 := hid (bnew w (.cells #[.slice a r.1.length cap, .int .i64 r.2] 60))
  have HR := hid fun (w' : World) (h : Below w.heap.size w w') => rising_c a cap r.1 facts w' (hx.mono h) hl h0 (by omega)
  have HW := hid fun (w' : World) => within_c (some ⟨w'.heap.size, 0, none⟩) 1 (-1) (facts - 1) [r.2] (w'.alloc (.cells #[.int .i64 r.2] 3)) (at_lit1 w' r.2) (by simp)
  have hfl := cstep hf HB0.out
  have hro : ruleOk facts r = (rising facts r.1 && within (-1) (facts - 1) [r.2]) := rfl
  rw [hro]
  have Hf := hid hfl
  unfold TellB
  obtain ⟨th, hth⟩ : ∃ t, t = r.2 := ⟨_, rfl⟩
  obtain ⟨n, hn⟩ : ∃ n, n = r.1.length := ⟨_, rfl⟩
  rw [← hth] at HW HB0 Hf ⊢
  rw [← hn] at HR HB0 Hf ⊢
  rw [← hth, ← hn] at hfl
  generalize rising facts r.1 = v1 at *
  generalize within (-1) (facts - 1) [th] = v2 at *
  clear hx hl hf hro hth hn
  cases v1 with
  | true =>
    go_enter Try.func57, Try.ntmps57
    go_wp2_with fail
    refine (HR.out _ HB0.out).mono ?_
    rintro e w1 ⟨rfl, hB⟩
    have q0 := cstep hfl hB
    have q1 := cstep (p := ⟨w.heap.size, 1, none⟩) (v := .int .i64 th) (by simp [go_sem]) hB
    have HB1 := hid (bstep HB0.out hB)
    clear hB
    go_wp2_with fail
    refine (HW.out w1).mono ?_
    rintro e w2 ⟨rfl, hB⟩
    have HB2 := hid (bstep HB1.out (bstep (bnew w1 _) hB))
    clear hB
    go_wp2
    go_ret
    exact ⟨rfl, HB2.out⟩
  | false =>
    go_enter Try.func57, Try.ntmps57
    go_wp2_with fail
    refine (HR.out _ HB0.out).mono ?_
    rintro e w1 ⟨rfl, hB⟩
    have HB1 := hid (bstep HB0.out hB)
    clear hB
    go_wp2
    go_ret
    exact ⟨rfl, HB1.out⟩

def AnyR (w : World) (v : Bool) (e : Ending) (w' : World) : Prop := ∃ i : Int, e = .returned (.int .i64 i) ∧ decide (0 ≤ i) = v ∧ Below w.heap.size w w'

set_option maxRecDepth 100000 in
set_option maxHeartbeats 1000000 in
theorem indexFuncR_c (ao : Option Addr) (cap g : Nat) (caps : Array Value) (p : Rl → Bool) (rs : List Rl) (w : World) (hx : RulesAt w ao rs) (hb : rs.length ≤ 1000000)
    (hg : ∀ (i : Nat) (a : Option Addr) (c : Nat) (w' : World), i < rs.length → Below w.heap.size w w' → IntsAt w' a (nthR rs i).1 → Calls Try.prog g (#[.agg #[.slice a (nthR rs i).1.length c, .int .i64 (nthR rs i).2]] ++ caps) w' (TellB w' (p (nthR rs i))))
    (eg : ∀ args w, (callFunc g args).run Try.prog w = .ok (.enter g args) w) :
    Calls Try.prog 88 #[.slice ao rs.length cap, .func (.func g) #[] caps] w (AnyR w (rs.any p)) := by
  have Hx := hid hx
  have Hg := hid hg
  clear hx hg
  go_enter Try.func88, Try.ntmps88
  go_wp2
  go_loopw [5, 8] (fun _ i wr => ∃ k : Nat, k ≤ rs.length ∧ i = .int .i64 k ∧ (rs.take k).any p = false ∧ Below w.heap.size w wr) (fun _ i _ => rs.length - (intOf i).toNat)
  case atStart => exact ⟨0, Nat.zero_le _, rfl, rfl, Below.refl _ _⟩
  case round =>
    obtain ⟨k, hk, rfl, hp, hB⟩ := hrel
    obtain ⟨wo, rfl⟩ : ∃ wo : World, wo = wr := ⟨_, rfl⟩
    have Hp := hid hp; have HB := hid hB; clear hp hB
    by_cases hlt : k < rs.length
    · obtain ⟨b, off, a, c, rfl, hra⟩ := (Hx.out.mono HB.out).at hlt
      have Ht := hid (anyR_take_succ p hlt)
      have hk2 := Hg.out k a c wo hlt HB.out hra.at'
      have q0 := hra.cI
      have q1 := hra.cT
      obtain ⟨th, hth⟩ : ∃ t, t = (nthR rs k).2 := ⟨_, rfl⟩
      obtain ⟨n, hn⟩ : ∃ n, n = (nthR rs k).1.length := ⟨_, rfl⟩
      rw [← hth, ← hn] at hk2
      rw [← hn] at q0
      rw [← hth] at q1
      have Hk2 := hid hk2
      clear hk2 hra hth hn
      cases hpk : p (nthR rs k) with
      | false =>
        have Hpk := hid hpk; clear hpk
        go_wp2_with fail
        refine Hk2.out.mono ?_
        rintro e w' ⟨rfl, hB⟩
        rw [Hpk.out]
        have HB1 := hid (bstep HB.out hB)
        clear hB
        go_wp2
        go_roundw
        case rel => exact ⟨k + 1, by omega, by go_num, by rw [Ht.out, Hp.out, Hpk.out]; rfl, HB1.out⟩
        case measure => simp [intOf]; omega
      | true =>
        have Hpk := hid hpk; clear hpk
        go_wp2_with fail
        refine Hk2.out.mono ?_
        rintro e w' ⟨rfl, hB⟩
        rw [Hpk.out]
        have HB1 := hid (bstep HB.out hB)
        clear hB
        go_wp2
        go_ret
        refine ⟨k, rfl, ?_, HB1.out⟩
        have : rs.any p = true := List.any_eq_true.2 ⟨_, nthR_mem hlt, Hpk.out⟩
        rw [this]; simp
    · obtain rfl : k = rs.length := by omega
      go_wp2
      go_ret
      refine ⟨-1, rfl, ?_, HB.out⟩
      have hp := Hp.out
      rw [List.take_of_length_le (by omega)] at hp
      rw [hp]; rfl

set_option maxRecDepth 100000 in
theorem containsFuncR_c (ao : Option Addr) (cap g : Nat) (caps : Array Value) (p : Rl → Bool) (rs : List Rl) (w : World) (hx : RulesAt w ao rs) (hb : rs.length ≤ 1000000)
    (hg : ∀ (i : Nat) (a : Option Addr) (c : Nat) (w' : World), i < rs.length → Below w.heap.size w w' → IntsAt w' a (nthR rs i).1 → Calls Try.prog g (#[.agg #[.slice a (nthR rs i).1.length c, .int .i64 (nthR rs i).2]] ++ caps) w' (TellB w' (p (nthR rs i))))
    (eg : ∀ args w, (callFunc g args).run Try.prog w = .ok (.enter g args) w) :
    Calls Try.prog 60 #[.slice ao rs.length cap, .func (.func g) #[] caps] w (TellB w (rs.any p)) := by
  have H := hid (indexFuncR_c ao cap g caps p rs w hx hb hg eg)
  generalize hy : rs.any p = y at *
  clear hx hg eg hy
  go_enter Try.func60, Try.ntmps60
  go_wp2_with fail
  refine H.out.mono ?_
  rintro e w' ⟨i, rfl, hi, hB⟩
  have Hi := hid hi; have HB := hid hB; clear hi hB
  go_wp2
  go_ret
  exact ⟨ret_bool Hi.out, HB.out⟩

theorem enters57 : ∀ args w, (callFunc 57 args).run Try.prog w = .ok (.enter 57 args) w := enters_of Try.func57 (by kernel_rfl) rfl

set_option maxRecDepth 100000 in
set_option maxHeartbeats 1000000 in
theorem checkCase_c (sa ra : Option Addr) (sc rc : Nat) (facts : Int) (seen : List Int) (rs : List Rl) (w : World) (hs : IntsAt w sa seen) (hr : RulesAt w ra rs) (hb : seen.length ≤ 1000000) (hb2 : rs.length ≤ 1000000) (hb3 : ∀ i, i < rs.length → (nthR rs i).1.length ≤ 1000000) :
    Calls Try.prog 19 #[.agg #[.int .i64 facts, .slice sa seen.length sc, .slice ra rs.length rc]] w fun e w' => e = .returned (.int .i64 (caseErr facts seen rs)) ∧ Below w.heap.size w w' := by
  have HB0 := hid (bnew w (.cells #[.int .i64 facts, .slice sa seen.length sc, .slice ra rs.length rc] 25))
  obtain ⟨W0, hW0⟩ : ∃ W0, W0 = w.alloc (.cells #[.int .i64 facts, .slice sa seen.length sc, .slice ra rs.length rc] 25) := ⟨_, rfl⟩
  have c0 : W0.cell? ⟨w.heap.size, 0, none⟩ = some (.int .i64 facts) := by rw [hW0]; simp [go_sem]
  have c1 : W0.cell? ⟨w.heap.size, 1, none⟩ = some (.slice sa seen.length sc) := by rw [hW0]; simp [go_sem]
  have c2 : W0.cell? ⟨w.heap.size, 2, none⟩ = some (.slice ra rs.length rc) := by rw [hW0]; simp [go_sem]
  rw [← hW0] at HB0
  have hs0 : W0.heap.size = w.heap.size + 1 := by rw [hW0]; simp
  have hw0 := within_c (some ⟨W0.heap.size, 0, none⟩) 1 1 12 [facts] (W0.alloc (.cells #[.int .i64 facts] 3)) (at_lit1 W0 facts) (by simp)
  rw [hs0] at hw0
  have HW := hid hw0
  have C0 := hid c0; have C1 := hid c1; have C2 := hid c2
  have hce : caseErr facts seen rs = if within 1 12 [facts] && decide (rs.length ≤ 14) then (if rising facts seen && rs.all (ruleOk facts) then 0 else 3) else 6 := rfl
  rw [hce]
  have HRi := hid fun (h1 : 1 ≤ facts) (h2 : facts ≤ 12) (w' : World) (h : Below w.heap.size w w') => rising_c sa sc seen facts w' (hs.mono h) hb h1 (by omega)
  have HCf := hid fun (h1 : 1 ≤ facts) (h2 : facts ≤ 12) (w' : World) (h : Below W0.heap.size W0 w') => containsFuncR_c ra rc 57 #[.pointer (some ⟨w.heap.size, 0, none⟩)] (fun r => !ruleOk facts r) rs w' (hr.mono (bstep HB0.out h)) hb2
    (fun i a c w2 hi hB2 hat => stray_c w.heap.size a c (nthR rs i) facts w2 hat (hb3 i hi) (cstep (cstep C0.out h) hB2) h1 h2) enters57
  have hany : rs.any (fun r => !ruleOk facts r) = !rs.all (ruleOk facts) := by rw [List.not_all_eq_any_not]
  have HS := hid hW0
  clear hs hr hb hb3 hce hW0 c0 c1 c2 hw0 hs0
  by_cases hf : 1 ≤ facts ∧ facts ≤ 12
  · have hwi : within 1 12 [facts] = true := by simp [within]; omega
    rw [hwi] at HW ⊢
    by_cases hn : rs.length ≤ 14
    · rw [decide_eq_true hn]
      have HR2 := hid (HRi.out hf.1 hf.2)
      have HC2 := hid (HCf.out hf.1 hf.2)
      rw [hany] at HC2
      have hn2 : ¬ (14 : Int) < (rs.length : Int) := by omega
      generalize rising facts seen = v1 at *
      generalize rs.all (ruleOk facts) = v2 at *
      clear hwi hany HRi HCf hn
      cases v1 with
      | true =>
        go_enter Try.func19, Try.ntmps19
        go_wp2_with fail
        rw [← HS.out]
        refine HW.out.mono ?_
        rintro e w1 ⟨rfl, hB⟩
        have HB1 := hid (bstep (bnew W0 _) hB)
        clear hB
        have d0 := cstep C0.out HB1.out; have d1 := cstep C1.out HB1.out; have d2 := cstep C2.out HB1.out
        go_wp2_with fail
        refine (HR2.out _ (bstep HB0.out HB1.out)).mono ?_
        rintro e w2 ⟨rfl, hB⟩
        have HB2 := hid (bstep HB1.out hB)
        clear hB d0 d1 d2 HB1
        have d2 := cstep C2.out HB2.out
        go_wp2_with fail
        refine (HC2.out _ HB2.out).mono ?_
        rintro e w3 ⟨rfl, hB⟩
        have HB3 := hid (bstep HB0.out (bstep HB2.out hB))
        clear hB d2 HB2
        cases v2 with
        | true =>
          go_wp2
          go_ret
          exact ⟨rfl, HB3.out⟩
        | false =>
          go_wp2
          go_ret
          exact ⟨rfl, HB3.out⟩
      | false =>
        go_enter Try.func19, Try.ntmps19
        go_wp2_with fail
        rw [← HS.out]
        refine HW.out.mono ?_
        rintro e w1 ⟨rfl, hB⟩
        have HB1 := hid (bstep (bnew W0 _) hB)
        clear hB
        have d0 := cstep C0.out HB1.out; have d1 := cstep C1.out HB1.out; have d2 := cstep C2.out HB1.out
        go_wp2_with fail
        refine (HR2.out _ (bstep HB0.out HB1.out)).mono ?_
        rintro e w2 ⟨rfl, hB⟩
        have HB2 := hid (bstep HB0.out (bstep HB1.out hB))
        clear hB d0 d1 d2 HB1
        go_wp2
        go_ret
        exact ⟨rfl, HB2.out⟩
    · rw [decide_eq_false hn]
      have hn2 : (14 : Int) < (rs.length : Int) := by omega
      clear hwi hany HRi HCf hn
      go_enter Try.func19, Try.ntmps19
      go_wp2_with fail
      rw [← HS.out]
      refine HW.out.mono ?_
      rintro e w1 ⟨rfl, hB⟩
      have HB1 := hid (bstep (bnew W0 _) hB)
      clear hB
      have d0 := cstep C0.out HB1.out; have d1 := cstep C1.out HB1.out; have d2 := cstep C2.out HB1.out
      have HB2 := hid (bstep HB0.out HB1.out)
      go_wp2
      go_ret
      exact ⟨rfl, HB2.out⟩
  · have hwi : within 1 12 [facts] = false := by
      cases h : within 1 12 [facts] with
      | false => rfl
      | true => simp [within] at h; exact absurd h hf
    rw [hwi] at HW ⊢
    clear hwi hany HRi HCf hf
    go_enter Try.func19, Try.ntmps19
    go_wp2_with fail
    rw [← HS.out]
    refine HW.out.mono ?_
    rintro e w1 ⟨rfl, hB⟩
    have HB2 := hid (bstep HB0.out (bstep (bnew W0 _) hB))
    clear hB
    go_wp2
    go_ret
    exact ⟨rfl, HB2.out⟩

end Go.Proofs.Ytkioejdddmnbmaa
