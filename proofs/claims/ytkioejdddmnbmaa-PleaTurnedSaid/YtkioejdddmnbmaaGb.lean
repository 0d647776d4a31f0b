/- Rules in memory. Walks: rising, CheckCase. Walks: CheckCase of the program. Walks of the reference: IsList, CheckCase. Marks. Walks: marked, has. -/
import Derived.Test.YtkioejdddmnbmaaGa
namespace Go.Proofs.Ytkioejdddmnbmaa
open Go.RowKit Go.Shelf

theorem bnew (w : World) (o : Obj) : Below w.heap.size w (w.alloc o) := (Below.refl _ w).alloc (Nat.le_refl _) o

/-- a rule: its If, and its Then -/
abbrev Rl := List Int × Int
def nthR (rs : List Rl) (i : Nat) : Rl := rs.getD i ([], 0)

/-- a rule's two cells -/
structure RuleAt (w : World) (b off : Nat) (r : Rl) (a : Option Addr) (cap : Nat) : Prop where
  cI : w.cell? ⟨b, off, none⟩ = some (.slice a r.1.length cap)
  at' : IntsAt w a r.1
  nil : a = none → cap = 0
  cT : w.cell? ⟨b, off + 1, none⟩ = some (.int .i64 r.2)

theorem RuleAt.mono {w w' : World} {b off : Nat} {r : Rl} {a : Option Addr} {cap : Nat} (h : RuleAt w b off r a cap) (hB : Below w.heap.size w w') : RuleAt w' b off r a cap :=
  ⟨cstep h.cI hB, h.at'.mono hB, h.nil, cstep h.cT hB⟩

def RulesAt (w : World) (ao : Option Addr) (rs : List Rl) : Prop :=
  rs = [] ∨ ∃ b off, ao = some ⟨b, off, none⟩ ∧ ∀ i, i < rs.length → ∃ a cap, RuleAt w b (off + i * 2) (nthR rs i) a cap

theorem RulesAt.mono {w w' : World} {ao : Option Addr} {rs : List Rl} (h : RulesAt w ao rs) (hB : Below w.heap.size w w') : RulesAt w' ao rs := by
  rcases h with rfl | ⟨b, off, rfl, h⟩
  · exact .inl rfl
  · exact .inr ⟨b, off, rfl, fun i hi => by obtain ⟨a, cap, h2⟩ := h i hi; exact ⟨a, cap, h2.mono hB⟩⟩

theorem RulesAt.at {w : World} {ao : Option Addr} {rs : List Rl} (h : RulesAt w ao rs) {i : Nat} (hi : i < rs.length) : ∃ b off a cap, ao = some ⟨b, off, none⟩ ∧ RuleAt w b (off + i * 2) (nthR rs i) a cap := by
  rcases h with rfl | ⟨b, off, rfl, h⟩
  · exact absurd hi (by simp)
  · obtain ⟨a, cap, h2⟩ := h i hi; exact ⟨b, off, a, cap, rfl, h2⟩

/-- where the next number of a rising list begins -/
def nextAt (l : List Int) (i : Nat) : Int := if i = 0 then 0 else nth l (i - 1) + 1
def risesAt (below : Int) (l : List Int) (i : Nat) : Bool := within (nextAt l i) (below - 1) [nth l i]
def rising (below : Int) (l : List Int) : Bool := (List.range l.length).all (risesAt below l)

theorem all_range_succ (p : Nat → Bool) (k : Nat) : (List.range (k + 1)).all p = ((List.range k).all p && p k) := by rw [List.range_succ, List.all_append]; simp

set_option maxRecDepth 100000 in
theorem rising_c (a : Option Addr) (cap : Nat) (l : List Int) (below : Int) (w : World) (hx : IntsAt w a l) (hl : l.length ≤ 1000000) (h0 : 1 ≤ below) (h1 : below ≤ 1000000) :
    Calls Try.prog 58 #[.slice a l.length cap, .int .i64 below] w fun e w' => e = .returned (.bool (rising below l)) ∧ Below w.heap.size w w' := by
  have Hx := hid hx
  have HW := hid fun (lo hi x : Int) (w' : World) => within_c (some ⟨w'.heap.size, 0, none⟩) 1 lo hi [x] (w'.alloc (.cells #[.int .i64 x] 3)) (at_lit1 w' x) (by simp)
  clear hx
  go_enter Try.func58, Try.ntmps58
  go_wp2
  go_loopw [5, 10] (fun n i wr => ∃ k : Nat, k ≤ l.length ∧ i = .int .i64 k ∧ n = .int .i64 (nextAt l k) ∧ (List.range k).all (risesAt below l) = true ∧ 0 ≤ nextAt l k ∧ Below w.heap.size w wr) (fun _ i _ => l.length - (intOf i).toNat)
  case atStart => exact ⟨0, Nat.zero_le _, rfl, rfl, rfl, Int.le_refl _, Below.refl _ _⟩
  case round =>
    obtain ⟨k, hk, rfl, rfl, hall, hnx0, hB⟩ := hrel
    obtain ⟨wo, rfl⟩ : ∃ wo : World, wo = wr := ⟨_, rfl⟩
    have Hall := hid hall; have HB := hid hB
    clear hall hB
    by_cases hlt : k < l.length
    · obtain ⟨b, off, rfl, hc⟩ := (Hx.out.mono HB.out).at hlt
      have hstep := all_range_succ (risesAt below l) k
      have hr : risesAt below l k = within (nextAt l k) (below - 1) [nth l k] := rfl
      have hnx : nextAt l (k + 1) = nth l k + 1 := by unfold nextAt; rw [if_neg (by omega)]; rfl
      obtain ⟨x, hxx⟩ : ∃ x, x = nth l k := ⟨_, rfl⟩
      obtain ⟨nx, hnn⟩ : ∃ n, n = nextAt l k := ⟨_, rfl⟩
      rw [← hxx] at hc hr hnx
      rw [← hnn] at hr hnx0 ⊢
      have hwi : within nx (below - 1) [x] = true → x ≤ below - 1 := by
        intro h; simp [within] at h; exact h.2
      have hwi0 : within nx (below - 1) [x] = true → nx ≤ x := by
        intro h; simp [within] at h; exact h.1
      have HWk := hid (HW.out nx (below - 1) x wo)
      have Hnx := hid hnx; have Hstep := hid hstep; have Hr := hid hr
      cases hwv : within nx (below - 1) [x] with
      | true =>
        have hxb := hwi hwv
        have hxn := hwi0 hwv
        rw [hwv] at HWk
        have Hwv := hid hwv
        clear hwi hwi0 hwv hxx hnx hstep hr hnn
        go_wp2_with fail
        refine HWk.out.mono ?_
        rintro e w1 ⟨rfl, hB⟩
        have HB1 := hid (bstep HB.out (bstep (bnew wo _) hB))
        clear hB
        go_wp2
        go_roundw
        case rel => exact ⟨k + 1, by omega, by go_num, by rw [Hnx.out], by rw [Hstep.out, Hall.out, Hr.out, Hwv.out]; rfl, by rw [Hnx.out]; omega, HB1.out⟩
        case measure => simp [intOf]; omega
      | false =>
        rw [hwv] at HWk
        have Hwv := hid hwv
        clear hwi hwi0 hwv hxx hnx hstep hr hnn
        go_wp2_with fail
        refine HWk.out.mono ?_
        rintro e w1 ⟨rfl, hB⟩
        have HB1 := hid (bstep HB.out (bstep (bnew wo _) hB))
        clear hB
        go_wp2
        go_ret
        refine ⟨ret_bool ?_, HB1.out⟩
        cases h : rising below l with
        | false => rfl
        | true =>
          have := List.all_eq_true.1 h k (List.mem_range.2 hlt)
          rw [Hr.out, Hwv.out] at this
          cases this
    · obtain rfl : k = l.length := by omega
      go_wp2
      go_ret
      exact ⟨ret_bool Hall.out.symm, HB.out⟩

end Go.Proofs.Ytkioejdddmnbmaa

namespace Go.Proofs.Ytkioejdddmnbmaa
open Go.RowKit Go.Shelf

def ruleOk (facts : Int) (r : Rl) : Bool := rising facts r.1 && within (-1) (facts - 1) [r.2]
def caseErr (facts : Int) (seen : List Int) (rs : List Rl) : Int :=
  if within 1 12 [facts] && decide (rs.length ≤ 14) then (if rising facts seen && rs.all (ruleOk facts) then 0 else 3) else 6

theorem nthR_mem {rs : List Rl} {i : Nat} (h : i < rs.length) : nthR rs i ∈ rs := by
  unfold nthR
  rw [List.getD_eq_getElem?_getD, List.getElem?_eq_getElem h]
  exact List.getElem_mem h

theorem anyR_take_succ (p : Rl → Bool) {rs : List Rl} {k : Nat} (h : k < rs.length) : (rs.take (k + 1)).any p = ((rs.take k).any p || p (nthR rs k)) := by
  rw [List.take_succ_eq_append_getElem h, List.any_append]
  unfold nthR
  rw [List.getD_eq_getElem?_getD, List.getElem?_eq_getElem h]
  simp

/-- a call that tells a bool and leaves what lay -/
def TellB (w : World) (v : Bool) (e : Ending) (w' : World) : Prop := e = .returned (.bool v) ∧ Below w.heap.size w w'

set_option maxRecDepth 100000 in
theorem stray_c (bc : Nat) (a : Option Addr) (cap : Nat) (r : Rl) (facts : Int) (w : World) (hx : IntsAt w a r.1) (hl : r.1.length ≤ 1000000) (hf : w.cell? ⟨bc, 0, none⟩ = some (.int .i64 facts)) (h0 : 1 ≤ facts) (h1 : facts ≤ 12) :
    Calls Try.prog 57 #[.agg #[.slice a r.1.length cap, .int .i64 r.2], .pointer (some ⟨bc, 0, none⟩)] w (TellB w (!ruleOk facts r)) := by
  have HB0 := hid (bnew w (.cells #[.slice a r.1.length cap, .int .i64 r.2] 60))
  have HR := hid fun (w' : World) (h : Below w.heap.size w w') => rising_c a cap r.1 facts w' (hx.mono h) hl h0 (by omega)
  have HW := hid fun (w' : World) => within_c (some ⟨w'.heap.size, 0, none⟩) 1 (-1) (facts - 1) [r.2] (w'.alloc (.cells #[.int .i64 r.2] 3)) (at_lit1 w' r.2) (by simp)
  have hfl := cstep hf HB0.out
  have hro : ruleOk facts r = (rising facts r.1 && within (-1) (facts - 1) [r.2]) := rfl
  rw [hro]
  have Hf := hid hfl
  unfold TellB
  obtain ⟨th, hth⟩ : ∃ t, t = r.2 := ⟨_, rfl⟩
  obtain ⟨n, hn⟩ : ∃ n, n = r.1.length := ⟨_, rfl⟩
  rw [← hth] at HW HB0 Hf ⊢
  rw [← hn] at HR HB0 Hf ⊢
  rw [← hth, ← hn] at hfl
  generalize rising facts r.1 = v1 at *
  generalize within (-1) (facts - 1) [th] = v2 at *
  clear hx hl hf hro hth hn
  cases v1 with
  | true =>
    go_enter Try.func57, Try.ntmps57
    go_wp2_with fail
    refine (HR.out _ HB0.out).mono ?_
    rintro e w1 ⟨rfl, hB⟩
    have q0 := cstep hfl hB
    have q1 := cstep (p := ⟨w.heap.size, 1, none⟩) (v := .int .i64 th) (by simp [go_sem]) hB
    have HB1 := hid (bstep HB0.out hB)
    clear hB
    go_wp2_with fail
    refine (HW.out w1).mono ?_
    rintro e w2 ⟨rfl, hB⟩
    have HB2 := hid (bstep HB1.out (bstep (bnew w1 _) hB))
    clear hB
    go_wp2
    go_ret
    exact ⟨rfl, HB2.out⟩
  | false =>
    go_enter Try.func57, Try.ntmps57
    go_wp2_with fail
    refine (HR.out _ HB0.out).mono ?_
    rintro e w1 ⟨rfl, hB⟩
    have HB1 := hid (bstep HB0.out hB)
    clear hB
    go_wp2
    go_ret
    exact ⟨rfl, HB1.out⟩

def AnyR (w : World) (v : Bool) (e : Ending) (w' : World) : Prop := ∃ i : Int, e = .returned (.int .i64 i) ∧ decide (0 ≤ i) = v ∧ Below w.heap.size w w'

set_option maxRecDepth 100000 in
set_option maxHeartbeats 1000000 in
theorem indexFuncR_c (ao : Option Addr) (cap g : Nat) (caps : Array Value) (p : Rl → Bool) (rs : List Rl) (w : World) (hx : RulesAt w ao rs) (hb : rs.length ≤ 1000000)
    (hg : ∀ (i : Nat) (a : Option Addr) (c : Nat) (w' : World), i < rs.length → Below w.heap.size w w' → IntsAt w' a (nthR rs i).1 → Calls Try.prog g (#[.agg #[.slice a (nthR rs i).1.length c, .int .i64 (nthR rs i).2]] ++ caps) w' (TellB w' (p (nthR rs i))))
    (eg : ∀ args w, (callFunc g args).run Try.prog w = .ok (.enter g args) w) :
    Calls Try.prog 88 #[.slice ao rs.length cap, .func (.func g) #[] caps] w (AnyR w (rs.any p)) := by
  have Hx := hid hx
  have Hg := hid hg
  clear hx hg
  go_enter Try.func88, Try.ntmps88
  go_wp2
  go_loopw [5, 8] (fun _ i wr => ∃ k : Nat, k ≤ rs.length ∧ i = .int .i64 k ∧ (rs.take k).any p = false ∧ Below w.heap.size w wr) (fun _ i _ => rs.length - (intOf i).toNat)
  case atStart => exact ⟨0, Nat.zero_le _, rfl, rfl, Below.refl _ _⟩
  case round =>
    obtain ⟨k, hk, rfl, hp, hB⟩ := hrel
    obtain ⟨wo, rfl⟩ : ∃ wo : World, wo = wr := ⟨_, rfl⟩
    have Hp := hid hp; have HB := hid hB; clear hp hB
    by_cases hlt : k < rs.length
    · obtain ⟨b, off, a, c, rfl, hra⟩ := (Hx.out.mono HB.out).at hlt
      have Ht := hid (anyR_take_succ p hlt)
      have hk2 := Hg.out k a c wo hlt HB.out hra.at'
      have q0 := hra.cI
      have q1 := hra.cT
      obtain ⟨th, hth⟩ : ∃ t, t = (nthR rs k).2 := ⟨_, rfl⟩
      obtain ⟨n, hn⟩ : ∃ n, n = (nthR rs k).1.length := ⟨_, rfl⟩
      rw [← hth, ← hn] at hk2
      rw [← hn] at q0
      rw [← hth] at q1
      have Hk2 := hid hk2
      clear hk2 hra hth hn
      cases hpk : p (nthR rs k) with
      | false =>
        have Hpk := hid hpk; clear hpk
        go_wp2_with fail
        refine Hk2.out.mono ?_
        rintro e w' ⟨rfl, hB⟩
        rw [Hpk.out]
        have HB1 := hid (bstep HB.out hB)
        clear hB
        go_wp2
        go_roundw
        case rel => exact ⟨k + 1, by omega, by go_num, by rw [Ht.out, Hp.out, Hpk.out]; rfl, HB1.out⟩
        case measure => simp [intOf]; omega
      | true =>
        have Hpk := hid hpk; clear hpk
        go_wp2_with fail
        refine Hk2.out.mono ?_
        rintro e w' ⟨rfl, hB⟩
        rw [Hpk.out]
        have HB1 := hid (bstep HB.out hB)
        clear hB
        go_wp2
        go_ret
        refine ⟨k, rfl, ?_, HB1.out⟩
        have : rs.any p = true := List.any_eq_true.2 ⟨_, nthR_mem hlt, Hpk.out⟩
        rw [this]; simp
    · obtain rfl : k = rs.length := by omega
      go_wp2
      go_ret
      refine ⟨-1, rfl, ?_, HB.out⟩
      have hp := Hp.out
      rw [List.take_of_length_le (by omega)] at hp
      rw [hp]; rfl

set_option maxRecDepth 100000 in
theorem containsFuncR_c (ao : Option Addr) (cap g : Nat) (caps : Array Value) (p : Rl → Bool) (rs : List Rl) (w : World) (hx : RulesAt w ao rs) (hb : rs.length ≤ 1000000)
    (hg : ∀ (i : Nat) (a : Option Addr) (c : Nat) (w' : World), i < rs.length → Below w.heap.size w w' → IntsAt w' a (nthR rs i).1 → Calls Try.prog g (#[.agg #[.slice a (nthR rs i).1.length c, .int .i64 (nthR rs i).2]] ++ caps) w' (TellB w' (p (nthR rs i))))
    (eg : ∀ args w, (callFunc g args).run Try.prog w = .ok (.enter g args) w) :
    Calls Try.prog 60 #[.slice ao rs.length cap, .func (.func g) #[] caps] w (TellB w (rs.any p)) := by
  have H := hid (indexFuncR_c ao cap g caps p rs w hx hb hg eg)
  generalize hy : rs.any p = y at *
  clear hx hg eg hy
  go_enter Try.func60, Try.ntmps60
  go_wp2_with fail
  refine H.out.mono ?_
  rintro e w' ⟨i, rfl, hi, hB⟩
  have Hi := hid hi; have HB := hid hB; clear hi hB
  go_wp2
  go_ret
  exact ⟨ret_bool Hi.out, HB.out⟩

theorem enters57 : ∀ args w, (callFunc 57 args).run Try.prog w = .ok (.enter 57 args) w := enters_of Try.func57 (by kernel_rfl) rfl

set_option maxRecDepth 100000 in
set_option maxHeartbeats 1000000 in
theorem checkCase_c (sa ra : Option Addr) (sc rc : Nat) (facts : Int) (seen : List Int) (rs : List Rl) (w : World) (hs : IntsAt w sa seen) (hr : RulesAt w ra rs) (hb : seen.length ≤ 1000000) (hb2 : rs.length ≤ 1000000) (hb3 : ∀ i, i < rs.length → (nthR rs i).1.length ≤ 1000000) :
    Calls Try.prog 19 #[.agg #[.int .i64 facts, .slice sa seen.length sc, .slice ra rs.length rc]] w fun e w' => e = .returned (.int .i64 (caseErr facts seen rs)) ∧ Below w.heap.size w w' := by
  have HB0 := hid (bnew w (.cells #[.int .i64 facts, .slice sa seen.length sc, .slice ra rs.length rc] 25))
  obtain ⟨W0, hW0⟩ : ∃ W0, W0 = w.alloc (.cells #[.int .i64 facts, .slice sa seen.length sc, .slice ra rs.length rc] 25) := ⟨_, rfl⟩
  have c0 : W0.cell? ⟨w.heap.size, 0, none⟩ = some (.int .i64 facts) := by rw [hW0]; simp [go_sem]
  have c1 : W0.cell? ⟨w.heap.size, 1, none⟩ = some (.slice sa seen.length sc) := by rw [hW0]; simp [go_sem]
  have c2 : W0.cell? ⟨w.heap.size, 2, none⟩ = some (.slice ra rs.length rc) := by rw [hW0]; simp [go_sem]
  rw [← hW0] at HB0
  have hs0 : W0.heap.size = w.heap.size + 1 := by rw [hW0]; simp
  have hw0 := within_c (some ⟨W0.heap.size, 0, none⟩) 1 1 12 [facts] (W0.alloc (.cells #[.int .i64 facts] 3)) (at_lit1 W0 facts) (by simp)
  rw [hs0] at hw0
  have HW := hid hw0
  have C0 := hid c0; have C1 := hid c1; have C2 := hid c2
  have hce : caseErr facts seen rs = if within 1 12 [facts] && decide (rs.length ≤ 14) then (if rising facts seen && rs.all (ruleOk facts) then 0 else 3) else 6 := rfl
  rw [hce]
  have HRi := hid fun (h1 : 1 ≤ facts) (h2 : facts ≤ 12) (w' : World) (h : Below w.heap.size w w') => rising_c sa sc seen facts w' (hs.mono h) hb h1 (by omega)
  have HCf := hid fun (h1 : 1 ≤ facts) (h2 : facts ≤ 12) (w' : World) (h : Below W0.heap.size W0 w') => containsFuncR_c ra rc 57 #[.pointer (some ⟨w.heap.size, 0, none⟩)] (fun r => !ruleOk facts r) rs w' (hr.mono (bstep HB0.out h)) hb2
    (fun i a c w2 hi hB2 hat => stray_c w.heap.size a c (nthR rs i) facts w2 hat (hb3 i hi) (cstep (cstep C0.out h) hB2) h1 h2) enters57
  have hany : rs.any (fun r => !ruleOk facts r) = !rs.all (ruleOk facts) := by rw [List.not_all_eq_any_not]
  have HS := hid hW0
  clear hs hr hb hb3 hce hW0 c0 c1 c2 hw0 hs0
  by_cases hf : 1 ≤ facts ∧ facts ≤ 12
  · have hwi : within 1 12 [facts] = true := by simp [within]; omega
    rw [hwi] at HW ⊢
    by_cases hn : rs.length ≤ 14
    · rw [decide_eq_true hn]
      have HR2 := hid (HRi.out hf.1 hf.2)
      have HC2 := hid (HCf.out hf.1 hf.2)
      rw [hany] at HC2
      have hn2 : ¬ (14 : Int) < (rs.length : Int) := by omega
      generalize rising facts seen = v1 at *
      generalize rs.all (ruleOk facts) = v2 at *
      clear hwi hany HRi HCf hn
      cases v1 with
      | true =>
        go_enter Try.func19, Try.ntmps19
        go_wp2_with fail
        rw [← HS.out]
        refine HW.out.mono ?_
        rintro e w1 ⟨rfl, hB⟩
        have HB1 := hid (bstep (bnew W0 _) hB)
        clear hB
        have d0 := cstep C0.out HB1.out; have d1 := cstep C1.out HB1.out; have d2 := cstep C2.out HB1.out
        go_wp2_with fail
        refine (HR2.out _ (bstep HB0.out HB1.out)).mono ?_
        rintro e w2 ⟨rfl, hB⟩
        have HB2 := hid (bstep HB1.out hB)
        clear hB d0 d1 d2 HB1
        have d2 := cstep C2.out HB2.out
        go_wp2_with fail
        refine (HC2.out _ HB2.out).mono ?_
        rintro e w3 ⟨rfl, hB⟩
        have HB3 := hid (bstep HB0.out (bstep HB2.out hB))
        clear hB d2 HB2
        cases v2 with
        | true =>
          go_wp2
          go_ret
          exact ⟨rfl, HB3.out⟩
        | false =>
          go_wp2
          go_ret
          exact ⟨rfl, HB3.out⟩
      | false =>
        go_enter Try.func19, Try.ntmps19
        go_wp2_with fail
        rw [← HS.out]
        refine HW.out.mono ?_
        rintro e w1 ⟨rfl, hB⟩
        have HB1 := hid (bstep (bnew W0 _) hB)
        clear hB
        have d0 := cstep C0.out HB1.out; have d1 := cstep C1.out HB1.out; have d2 := cstep C2.out HB1.out
        go_wp2_with fail
        refine (HR2.out _ (bstep HB0.out HB1.out)).mono ?_
        rintro e w2 ⟨rfl, hB⟩
        have HB2 := hid (bstep HB0.out (bstep HB1.out hB))
        clear hB d0 d1 d2 HB1
        go_wp2
        go_ret
        exact ⟨rfl, HB2.out⟩
    · rw [decide_eq_false hn]
      have hn2 : (14 : Int) < (rs.length : Int) := by omega
      clear hwi hany HRi HCf hn
      go_enter Try.func19, Try.ntmps19
      go_wp2_with fail
      rw [← HS.out]
      refine HW.out.mono ?_
      rintro e w1 ⟨rfl, hB⟩
      have HB1 := hid (bstep (bnew W0 _) hB)
      clear hB
      have d0 := cstep C0.out HB1.out; have d1 := cstep C1.out HB1.out; have d2 := cstep C2.out HB1.out
      have HB2 := hid (bstep HB0.out HB1.out)
      go_wp2
      go_ret
      exact ⟨rfl, HB2.out⟩
  · have hwi : within 1 12 [facts] = false := by
      cases h : within 1 12 [facts] with
      | false => rfl
      | true => simp [within] at h; exact absurd h hf
    rw [hwi] at HW ⊢
    clear hwi hany HRi HCf hf
    go_enter Try.func19, Try.ntmps19
    go_wp2_with fail
    rw [← HS.out]
    refine HW.out.mono ?_
    rintro e w1 ⟨rfl, hB⟩
    have HB2 := hid (bstep HB0.out (bstep (bnew W0 _) hB))
    clear hB
    go_wp2
    go_ret
    exact ⟨rfl, HB2.out⟩

end Go.Proofs.Ytkioejdddmnbmaa

namespace Go.Proofs.Ytkioejdddmnbmaa
open Go.RowKit Go.Shelf

theorem within_one {lo hi x : Int} : within lo hi [x] = true ↔ lo ≤ x ∧ x ≤ hi := by simp [within]
theorem within_not {lo hi x : Int} (h : ¬ (lo ≤ x ∧ x ≤ hi)) : within lo hi [x] = false := by
  cases hh : within lo hi [x] with
  | false => rfl
  | true => exact absurd (within_one.1 hh) h

theorem rising_false {below : Int} {l : List Int} {k : Nat} (hk : k < l.length) (h : risesAt below l k = false) : rising below l = false := by
  cases hh : rising below l with
  | false => rfl
  | true => have := List.all_eq_true.1 hh k (List.mem_range.2 hk); rw [h] at this; cases this

set_option maxRecDepth 100000 in
set_option maxHeartbeats 2000000 in
theorem isListQ (a : Option Addr) (cap : Nat) (l : List Int) (below : Int) (w : World) (hx : IntsAt w a l) (hl : l.length ≤ 1000000) :
    Calls Try.prog 53 #[.slice a l.length cap, .int .i64 below] w fun e w' => e = .returned (.bool (rising below l)) ∧ ∃ m, w' = w.drewN m := by
  have Hx := hid hx
  clear hx
  go_enter Try.func53, Try.ntmps53
  go_wp2
  go_loopw [5] (fun i wr => ∃ k : Nat, k ≤ l.length ∧ i = .int .i64 k ∧ (List.range k).all (risesAt below l) = true ∧ (0 < k → 0 ≤ nth l (k - 1)) ∧ ∃ m, wr = w.drewN m) (fun i _ => l.length - (intOf i).toNat)
  case atStart => exact ⟨0, Nat.zero_le _, rfl, rfl, fun h => absurd h (by omega), 0, rfl⟩
  case round =>
    obtain ⟨k, hk, rfl, hall, hpos, m, rfl⟩ := hrel
    have Hall := hid hall
    clear hall
    by_cases hlt : k < l.length
    · obtain ⟨b, off, rfl, hc⟩ := Hx.out.at hlt
      have hstep := all_range_succ (risesAt below l) k
      have hr : risesAt below l k = within (nextAt l k) (below - 1) [nth l k] := rfl
      have Hstep := hid hstep
      clear hstep
      obtain ⟨x, hxx⟩ : ∃ x, x = nth l k := ⟨_, rfl⟩
      have Hxx := hid hxx
      rw [← hxx] at hc hr
      by_cases hA : x < 0
      · have hf : risesAt below l k = false := by
          rw [hr]; refine within_not (fun h => ?_)
          unfold nextAt at h
          by_cases h0 : k = 0
          · rw [if_pos h0] at h; omega
          · rw [if_neg h0] at h; have := hpos (by omega); omega
        have Hres := hid (rising_false hlt hf)
        have b1 : decide (x < 0) = true := decide_eq_true hA
        clear hf hr hxx hpos hA
        go_wp2
        go_quiet (fail)
        go_wp2
        go_ret
        exact ⟨ret_bool Hres.out.symm, _, World.drewN_drewN _ _ _⟩
      · have b1 : decide (x < 0) = false := decide_eq_false hA
        by_cases hC : below ≤ x
        · have hf : risesAt below l k = false := by
            rw [hr]; exact within_not (fun h => by omega)
          have Hres := hid (rising_false hlt hf)
          have b2 : decide (below ≤ x) = true := decide_eq_true hC
          clear hf hr hxx hpos hA hC
          go_wp2
          go_quiet (fail)
          go_wp2
          go_ret
          exact ⟨ret_bool Hres.out.symm, _, World.drewN_drewN _ _ _⟩
        · have b2 : decide (below ≤ x) = false := decide_eq_false hC
          by_cases hk0 : k = 0
          · subst hk0
            rw [Nat.add_zero] at hc
            have hf : risesAt below l 0 = true := by rw [hr]; exact within_one.2 ⟨by unfold nextAt; rw [if_pos rfl]; omega, by omega⟩
            have Hf := hid hf
            have hxp : 0 ≤ nth l 0 := by rw [← hxx]; omega
            clear hf hr hxx hpos hA hC
            go_wp2
            go_quiet (fail)
            go_wp2
            go_roundw
            case rel => exact ⟨1, by omega, by go_num, by rw [Hstep.out, Hall.out, Hf.out]; rfl, fun _ => hxp, _, rfl⟩
            case measure => simp [intOf]; omega
          · obtain ⟨j, rfl⟩ : ∃ j, k = j + 1 := ⟨k - 1, by omega⟩
            have hcp := Hx.out.cell (k := j) (by omega)
            obtain ⟨y, hyy⟩ : ∃ y, y = nth l j := ⟨_, rfl⟩
            rw [← hyy] at hcp
            have hnx : nextAt l (j + 1) = y + 1 := by unfold nextAt; rw [if_neg (by omega), hyy]; rfl
            by_cases hD : x ≤ y
            · have hf : risesAt below l (j + 1) = false := by rw [hr, hnx]; exact within_not (fun h => by omega)
              have Hres := hid (rising_false hlt hf)
              have b3 : decide (x ≤ y) = true := decide_eq_true hD
              clear hf hr hxx hpos hA hC hD hnx hyy hk0
              go_wp2
              go_quiet (fail)
              go_wp2
              go_ret
              exact ⟨ret_bool Hres.out.symm, _, World.drewN_drewN _ _ _⟩
            · have hf : risesAt below l (j + 1) = true := by rw [hr, hnx]; exact within_one.2 ⟨by omega, by omega⟩
              have Hf := hid hf
              have hxp : 0 ≤ nth l (j + 1) := by rw [← hxx]; omega
              have b3 : decide (x ≤ y) = false := decide_eq_false hD
              clear hf hr hxx hpos hA hC hD hnx hyy hk0
              go_wp2
              go_quiet (fail)
              go_wp2
              go_roundw
              case rel => exact ⟨j + 1 + 1, by omega, by go_num, by rw [Hstep.out, Hall.out, Hf.out]; rfl, fun _ => hxp, _, rfl⟩
              case measure => simp [intOf]; omega
    · obtain rfl : k = l.length := by omega
      go_wp2
      go_ret
      exact ⟨ret_bool Hall.out.symm, _, rfl⟩


theorem isList_c (a : Option Addr) (cap : Nat) (l : List Int) (below : Int) (w : World) (hx : IntsAt w a l) (hl : l.length ≤ 1000000) :
    Calls Try.prog 53 #[.slice a l.length cap, .int .i64 below] w fun e w' => e = .returned (.bool (rising below l)) ∧ Below w.heap.size w w' :=
  (isListQ a cap l below w hx hl).mono fun _ _ h => ⟨h.1, by obtain ⟨m, rfl⟩ := h.2; exact below_drewN (Below.refl _ _) m⟩

def ruleBad (facts : Int) (r : Rl) : Bool := !rising facts r.1 || decide (r.2 < -1) || decide (facts ≤ r.2)
theorem ruleBad_ok (facts : Int) (r : Rl) : ruleBad facts r = !ruleOk facts r := by
  unfold ruleBad ruleOk
  cases rising facts r.1 with
  | false => rfl
  | true =>
    simp only [Bool.not_true, Bool.false_or, Bool.true_and]
    by_cases h : -1 ≤ r.2 ∧ r.2 ≤ facts - 1
    · rw [within_one.2 h, decide_eq_false (by omega), decide_eq_false (by omega)]; rfl
    · rw [within_not h]
      by_cases h1 : r.2 < -1
      · rw [decide_eq_true h1]; rfl
      · rw [decide_eq_false h1, decide_eq_true (by omega)]; rfl

set_option maxRecDepth 100000 in
set_option maxHeartbeats 4000000 in
theorem rCheckCase_c (sa ra : Option Addr) (sc rc : Nat) (facts : Int) (seen : List Int) (rs : List Rl) (w : World) (hs : IntsAt w sa seen) (hr : RulesAt w ra rs) (hb : seen.length ≤ 1000000) (hb2 : rs.length ≤ 1000000) (hb3 : ∀ i, i < rs.length → (nthR rs i).1.length ≤ 1000000) :
    Calls Try.prog 20 #[.agg #[.int .i64 facts, .slice sa seen.length sc, .slice ra rs.length rc]] w fun e w' => e = .returned (.int .i64 (caseErr facts seen rs)) ∧ Below w.heap.size w w' := by
  have HB0 := hid (bnew w (.cells #[.int .i64 facts, .slice sa seen.length sc, .slice ra rs.length rc] 25))
  obtain ⟨W0, hW0⟩ : ∃ W0, W0 = w.alloc (.cells #[.int .i64 facts, .slice sa seen.length sc, .slice ra rs.length rc] 25) := ⟨_, rfl⟩
  have c0 : W0.cell? ⟨w.heap.size, 0, none⟩ = some (.int .i64 facts) := by rw [hW0]; simp [go_sem]
  have c1 : W0.cell? ⟨w.heap.size, 1, none⟩ = some (.slice sa seen.length sc) := by rw [hW0]; simp [go_sem]
  have c2 : W0.cell? ⟨w.heap.size, 2, none⟩ = some (.slice ra rs.length rc) := by rw [hW0]; simp [go_sem]
  rw [← hW0] at HB0
  have C0 := hid c0; have C1 := hid c1; have C2 := hid c2
  have hce : caseErr facts seen rs = if within 1 12 [facts] && decide (rs.length ≤ 14) then (if rising facts seen && rs.all (ruleOk facts) then 0 else 3) else 6 := rfl
  have Hce := hid hce
  have HS := hid hW0
  have HL := hid fun (w' : World) (h : Below w.heap.size w w') => isList_c sa sc seen facts w' (hs.mono h) hb
  have HR := hid fun (w' : World) (h : Below w.heap.size w w') => hr.mono h
  have Hb3 := hid hb3
  clear hs hr hb hb3 hce hW0 c0 c1 c2
  by_cases hf1 : facts < 1
  · have hres : caseErr facts seen rs = 6 := by rw [Hce.out, within_not (fun h => by omega)]; rfl
    rw [hres]
    clear hres
    go_enter Try.func20, Try.ntmps20
    go_wp2
    go_ret
    exact ⟨rfl, by rw [← HS.out]; exact HB0.out⟩
  · by_cases hf2 : 12 < facts
    · have hres : caseErr facts seen rs = 6 := by rw [Hce.out, within_not (fun h => by omega)]; rfl
      rw [hres]
      clear hres
      go_enter Try.func20, Try.ntmps20
      go_wp2
      go_ret
      exact ⟨rfl, by rw [← HS.out]; exact HB0.out⟩
    · by_cases hn : 14 < rs.length
      · have hres : caseErr facts seen rs = 6 := by rw [Hce.out, decide_eq_false (p := rs.length ≤ 14) (by omega), Bool.and_false]; rfl
        rw [hres]
        have hnI : (14 : Int) < (rs.length : Int) := by omega
        clear hres
        go_enter Try.func20, Try.ntmps20
        go_wp2
        go_ret
        exact ⟨rfl, by rw [← HS.out]; exact HB0.out⟩
      · have hnI : ¬ (14 : Int) < (rs.length : Int) := by omega
        have hce2 : caseErr facts seen rs = if rising facts seen && rs.all (ruleOk facts) then 0 else 3 := by rw [Hce.out, within_one.2 ⟨by omega, by omega⟩, decide_eq_true (p := rs.length ≤ 14) (by omega)]; rfl
        obtain ⟨R, hR⟩ : ∃ R : Int, R = (if rising facts seen && rs.all (ruleOk facts) then 0 else 3) := ⟨_, rfl⟩
        rw [hce2, ← hR]
        have HRs := hid hR
        have HLi := hid (HL.out W0 HB0.out)
        generalize rising facts seen = v1 at *
        clear hce2 Hce HL hR
        cases v1 with
        | false =>
          go_enter Try.func20, Try.ntmps20
          go_wp2_with fail
          rw [← HS.out]
          refine HLi.out.mono ?_
          rintro e w1 ⟨rfl, hB⟩
          have HB1 := hid (bstep HB0.out hB)
          clear hB
          go_wp2
          go_ret
          exact ⟨ret_int (by rw [HRs.out]; rfl), HB1.out⟩
        | true =>
          go_enter Try.func20, Try.ntmps20
          go_wp2_with fail
          rw [← HS.out]
          refine HLi.out.mono ?_
          rintro e w1 ⟨rfl, hB⟩
          have HB1 := hid (bstep HB0.out hB)
          have D0 := hid (cstep C0.out hB); have D2 := hid (cstep C2.out hB)
          clear hB HLi HS C0 C1 C2 HB0
          go_wp2
          go_loopw [3] (fun i wr => ∃ k : Nat, k ≤ rs.length ∧ i = .int .i64 k ∧ (rs.take k).any (fun r => !ruleOk facts r) = false ∧ Below w1.heap.size w1 wr) (fun i _ => rs.length - (intOf i).toNat)
          case atStart => exact ⟨0, Nat.zero_le _, rfl, rfl, Below.refl _ _⟩
          case round =>
            obtain ⟨k, hk, rfl, hp, hB⟩ := hrel
            obtain ⟨wo, rfl⟩ : ∃ wo : World, wo = wr := ⟨_, rfl⟩
            have Hp := hid hp; have HB := hid hB
            have d0 := cstep D0.out hB; have d2 := cstep D2.out hB
            clear hp hB
            by_cases hlt : k < rs.length
            · obtain ⟨b, off, a, c, rfl, hra⟩ := (HR.out _ (bstep HB1.out HB.out)).at hlt
              have Ht := hid (anyR_take_succ (fun r => !ruleOk facts r) hlt)
              have hbad := ruleBad_ok facts (nthR rs k)
              have hbdef : ruleBad facts (nthR rs k) = (!rising facts (nthR rs k).1 || decide ((nthR rs k).2 < -1) || decide (facts ≤ (nthR rs k).2)) := rfl
              rw [hbdef] at hbad
              have hk2 := fun (d : Nat) => Calls.quiet_of (isListQ a c (nthR rs k).1 facts (wo.drewN d) (hra.at'.mono (below_drewN (Below.refl _ _) d)) (Hb3.out k hlt))
              have q0 := hra.cI
              have q1 := hra.cT
              have hfin : ruleOk facts (nthR rs k) = false → rs.all (ruleOk facts) = false := fun h => by
                cases h2 : rs.all (ruleOk facts) with
                | false => rfl
                | true => have := List.all_eq_true.1 h2 _ (nthR_mem hlt); rw [h] at this; cases this
              obtain ⟨ok, hok⟩ : ∃ o, o = ruleOk facts (nthR rs k) := ⟨_, rfl⟩
              rw [← hok] at hbad hfin
              obtain ⟨th, hth⟩ : ∃ t, t = (nthR rs k).2 := ⟨_, rfl⟩
              obtain ⟨n, hn'⟩ : ∃ n, n = (nthR rs k).1.length := ⟨_, rfl⟩
              obtain ⟨v, hv⟩ : ∃ v, v = rising facts (nthR rs k).1 := ⟨_, rfl⟩
              rw [← hn', ← hv] at hk2
              rw [← hn'] at q0
              rw [← hth] at q1
              rw [← hth, ← hv] at hbad
              have Hk2 := hid hk2; have Hfin := hid hfin; have Hok := hid hok; 
              clear hk2 hra hth hn' hv hbdef hfin hok
              have hltI : (k : Int) < (rs.length : Int) := by omega
              cases v with
              | false =>
                have Hbad := hid (Hfin.out (by simpa using hbad.symm))
                clear hbad
                go_wp2_with fail
                go_quiet ((go_at_call 53; exact Hk2.out _))
                go_wp2
                go_ret
                exact ⟨ret_int (by rw [HRs.out, Hbad.out]; rfl), bstep HB1.out (below_drewN HB.out _)⟩
              | true =>
                by_cases h1 : th < -1
                · have b1 : decide (th < -1) = true := decide_eq_true h1
                  rw [b1] at hbad
                  have Hbad := hid (Hfin.out (by simpa using hbad.symm))
                  clear hbad h1
                  go_wp2_with fail
                  go_quiet ((go_at_call 53; exact Hk2.out _))
                  go_wp2
                  go_ret
                  exact ⟨ret_int (by rw [HRs.out, Hbad.out]; rfl), bstep HB1.out (below_drewN HB.out _)⟩
                · have b1 : decide (th < -1) = false := decide_eq_false h1
                  rw [b1] at hbad
                  by_cases h2 : facts ≤ th
                  · have b2 : decide (facts ≤ th) = true := decide_eq_true h2
                    rw [b2] at hbad
                    have Hbad := hid (Hfin.out (by simpa using hbad.symm))
                    clear hbad h1 h2
                    go_wp2_with fail
                    go_quiet ((go_at_call 53; exact Hk2.out _))
                    go_wp2
                    go_ret
                    exact ⟨ret_int (by rw [HRs.out, Hbad.out]; rfl), bstep HB1.out (below_drewN HB.out _)⟩
                  · have b2 : decide (facts ≤ th) = false := decide_eq_false h2
                    rw [b2] at hbad
                    have hokt : ok = true := by simpa using hbad.symm
                    have Hokt := hid hokt
                    clear hbad hokt h1 h2
                    go_wp2_with fail
                    go_quiet ((go_at_call 53; exact Hk2.out _))
                    go_wp2
                    go_roundw
                    case rel => exact ⟨k + 1, by omega, by go_num, by rw [Ht.out, Hp.out, ← Hok.out, Hokt.out]; rfl, below_drewN HB.out _⟩
                    case measure => simp [intOf]; omega
            · obtain rfl : k = rs.length := by omega
              have hall : rs.all (ruleOk facts) = true := by
                have hp := Hp.out
                rw [List.take_of_length_le (by omega)] at hp
                rw [← List.not_all_eq_any_not] at hp
                simpa using hp
              have Hall := hid hall
              clear hall
              go_wp2
              go_ret
              exact ⟨ret_int (by rw [HRs.out, Hall.out]; rfl), bstep HB1.out HB.out⟩

end Go.Proofs.Ytkioejdddmnbmaa

namespace Go.Proofs.Ytkioejdddmnbmaa
open Go.RowKit Go.Shelf
attribute [local go_sem ↓] wp_get wp_get0 wp_getS wp78 wps78 wpa78

/-- facts of a case's limit -/
def factsOk (l : List Int) : Prop := ∀ k, k < l.length → 0 ≤ nth l k ∧ nth l k < 12

def markTo (l : List Int) : Nat → List Int
  | 0 => List.replicate 12 0
  | k + 1 => (markTo l k).set (nth l k).toNat 1
def markL (l : List Int) : List Int := markTo l l.length
theorem markTo_length (l : List Int) : ∀ k, (markTo l k).length = 12
  | 0 => by simp [markTo]
  | k + 1 => by rw [markTo, List.length_set, markTo_length l k]
theorem markL_length (l : List Int) : (markL l).length = 12 := markTo_length l _

theorem cellsSet {l l' : List Value} {t : TypeId} {i : Nat} {v : Value} (h : l.set i v = l') : some (Obj.cells (l.toArray.setIfInBounds i v) t (0, 0)) = some (Obj.cells l'.toArray t (0, 0)) := by
  subst h; simp

set_option maxRecDepth 100000 in
set_option maxHeartbeats 1000000 in
theorem marked_c (a : Option Addr) (cap : Nat) (l : List Int) (w : World) (hx : IntsAt w a l) (hl : l.length ≤ 1000000) (hf : factsOk l) :
    Calls Try.prog 63 #[.slice a l.length cap] w fun e w' => e = .returned (.agg (intv (markL l)).toArray) ∧ Below w.heap.size w w' := by
  have Hx := hid hx; have Hf := hid hf
  clear hx hf
  go_enter Try.func63, Try.ntmps63
  have hh : ((w.alloc (.cells zero78 78)).alloc (.cells zero78 78)).heap[w.heap.size + 1]? = some (.cells (intv (List.replicate 12 0)).toArray 78 (0, 0)) := by
    have h := heap_alloc_new (w.alloc (.cells zero78 78)) (.cells zero78 78)
    rw [World.size_alloc] at h
    exact h
  have hB0 : Below w.heap.size w ((w.alloc (.cells zero78 78)).alloc (.cells zero78 78)) := bstep (bnew w _) (bnew _ _)
  have hh0 : ((w.alloc (.cells zero78 78)).alloc (.cells zero78 78)).heap[w.heap.size]? = some (.cells zero78 78 (0, 0)) := by
    rw [show ((w.alloc (.cells zero78 78)).alloc (.cells zero78 78)).heap[w.heap.size]? = (w.alloc (.cells zero78 78)).heap[w.heap.size]? from by
      show ((w.alloc (.cells zero78 78)).heap.push _)[w.heap.size]? = _
      rw [Array.getElem?_push, if_neg (by simp)]]
    exact heap_alloc_new _ _
  have Hh := hid hh; have HB0 := hid hB0; have Hh0 := hid hh0
  clear hh hB0 hh0
  go_wp2_with (refine wpList_clear_ints _ rfl _ rfl (w.heap.size + 1) 0 12 12 rfl 78 (intv (List.replicate 12 0)) Hh.out ?c1 ?c2; rotate_right; (intro w1 hh1 hO1; refine Hid.out ?_))
  case c1 => simp [intv]
  refine hid ?_
  have hz : (intv (List.replicate 12 0)).take 0 ++ (intv (List.replicate 12 0) ++ (intv (List.replicate 12 0)).drop (0 + 12)) = intv (markTo l 0) := by simp [intv, markTo]
  rw [hz] at hh1
  have HB1 := hid (HB0.out.trans (hO1.below (by have := HB0.out.size; omega) (by intro k hk e; have e' : k = w.heap.size + 1 := e; omega)))
  have Hh1 := hid hh1
  have Hr := hid ((hO1.block w.heap.size (by have := (Array.getElem?_eq_some_iff.1 Hh0.out).1; exact this) (by show ¬ w.heap.size = w.heap.size + 1; omega)).trans Hh0.out)
  clear hh1 hO1 hz Hh HB0 Hh0
  go_wp2
  go_loopw [9] (fun i wr => ∃ k : Nat, k ≤ l.length ∧ i = .int .i64 k ∧ wr.heap[w.heap.size + 1]? = some (.cells (intv (markTo l k)).toArray 78 (0, 0)) ∧ Only (fun b => b = w.heap.size + 1) w1 wr) (fun i _ => l.length - (intOf i).toNat)
  case atStart => exact ⟨0, Nat.zero_le _, rfl, Hh1.out, Only.refl _ _⟩
  case round =>
    obtain ⟨k, hk, rfl, hh, hO⟩ := hrel
    obtain ⟨wo, rfl⟩ : ∃ wo : World, wo = wr := ⟨_, rfl⟩
    have hBo : Below w.heap.size w wo := HB1.out.trans (hO.below HB1.out.size (by intro j hj e; have e' : j = w.heap.size + 1 := e; omega))
    by_cases hlt : k < l.length
    · obtain ⟨b, off, rfl, hc⟩ := (Hx.out.mono hBo).at hlt
      obtain ⟨f0, f1⟩ := Hf.out k hlt
      obtain ⟨n, hn⟩ := Int.eq_ofNat_of_zero_le f0
      have hset : markTo l (k + 1) = (markTo l k).set n 1 := by rw [markTo, hn]; rfl
      rw [hn] at hc
      have hn12 : n < 12 := by omega
      have hcc : wo.cell? ⟨w.heap.size + 1, n, none⟩ = some (.int .i64 (nth (markTo l k) n)) := by
        rw [cell_of_row _ _ _ _ _ _ hh, List.getElem?_toArray, intv_get, if_pos (by rw [markTo_length]; exact hn12)]
      have hfr : wo.frozen? ⟨w.heap.size + 1, n, none⟩ = false := frozen_of_row _ _ _ _ _ hh
      have Hh2 := hid hh; have HO := hid hO; have Hset := hid hset
      clear hh hO hset f0 f1 hn hBo
      go_wp2
      go_roundw
      case rel => exact ⟨k + 1, by omega, by go_num, (heap_setCell_same wo _ _ _ 78 _ Hh2.out).trans (by rw [Hset.out]; exact cellsSet (by unfold intv; rw [List.map_set])), HO.out.trans (setCell_only _ _ _)⟩
      case measure => simp [intOf]; omega
    · obtain rfl : k = l.length := by omega
      have hr := (hO.block w.heap.size (Array.getElem?_eq_some_iff.1 Hr.out).1 (by show ¬ w.heap.size = w.heap.size + 1; omega)).trans Hr.out
      have hp1 : partOk wo (w.heap.size + 1) 0 12 = true := partOk_of hh (by simp [intv_length, markTo_length])
      have hp2 : partOk wo w.heap.size 0 12 = true := partOk_of hr (by decide)
      have hfb : freeB wo w.heap.size = true := freeB_of hr
      have hpa : partAt wo (w.heap.size + 1) 0 12 = (intv (markTo l l.length)).toArray := by
        rw [partAt_of hh]
        have : ((intv (markTo l l.length)).toArray).size = 12 := by simp [intv_length, markTo_length]
        rw [show (0 : Nat) + 12 = ((intv (markTo l l.length)).toArray).size from by omega]
        exact Array.extract_size
      have hps : ((partAt wo (w.heap.size + 1) 0 12).size == 12) = true := by rw [hpa]; simp [intv_length, markTo_length]
      have hal : (partAt wo (w.heap.size + 1) 0 12).all (·.oneCell') = true := by
        rw [hpa]; simp only [List.all_toArray]; exact List.all_eq_true.2 (intv_one _)
      have Hr2 := hid hr; have HBo := hid hBo; have Hpa := hid hpa
      clear hr hh hO hBo hpa
      go_wp2
      have hfin : (World.setPart wo w.heap.size 0 (partAt wo (w.heap.size + 1) 0 12)).heap[w.heap.size]? = some (.cells (intv (markTo l l.length)).toArray 78 (0, 0)) := by
        rw [setPart_heap Hr2.out, Hpa.out]
        have e : zero78.toList.drop (0 + (intv (markTo l l.length)).toArray.size) = [] := List.drop_of_length_le (by simp [zero78, intv_length, markTo_length])
        rw [e]
        simp
      refine bodyPost_ret (results_cell_row rfl _ _ w.heap.size 78 _ (0, 0) _ rfl hfin Try.underlying78 rfl (by rw [show ((intv (markTo l l.length)).toArray).size = 12 from by simp [intv_length, markTo_length]]; kernel_rfl)) rfl ?_
      exact ⟨rfl, HBo.out.trans ((setPart_only wo w.heap.size 0 _).below HBo.out.size (by intro j hj e; have e' : j = w.heap.size := e; omega))⟩


def zeroAt (m : List Int) (x : Int) : Bool := nth m x.toNat == 0
def hasM (m l : List Int) : Bool := !l.any (zeroAt m)

set_option maxRecDepth 100000 in
theorem has1_c (g n : Nat) (m : List Int) (w : World) (hc : w.cell? ⟨g, n, none⟩ = some (.int .i64 (nth m n))) (hn : n < 12) :
    Calls Try.prog 95 #[.int .i64 n, .pointer (some ⟨g, 0, none⟩)] w fun e w' => e = .returned (.bool (zeroAt m n)) ∧ w = w' := by
  have hz : zeroAt m n = (nth m n == 0) := rfl
  rw [hz]
  generalize nth m n = v at *
  clear hz
  go_enter Try.func95, Try.ntmps95
  go_wp2
  go_ret
  exact ⟨rfl, rfl⟩

theorem enters95 : ∀ args w, (callFunc 95 args).run Try.prog w = .ok (.enter 95 args) w := enters_of Try.func95 (by kernel_rfl) rfl

set_option maxRecDepth 100000 in
set_option maxHeartbeats 1000000 in
theorem has_c (a : Option Addr) (cap : Nat) (m l : List Int) (w : World) (hx : IntsAt w a l) (hl : l.length ≤ 1000000) (hm : m.length = 12) (hf : factsOk l) :
    Calls Try.prog 73 #[.agg (intv m).toArray, .slice a l.length cap] w fun e w' => e = .returned (.bool (hasM m l)) ∧ Below w.heap.size w w' := by
  have HB0 := hid (bnew w (.cells (intv m).toArray 78))
  have hh := heap_alloc_new w (.cells (intv m).toArray 78)
  have H := hid (containsFunc_c a cap 95 #[.pointer (some ⟨w.heap.size, 0, none⟩)] (zeroAt m) l (w.alloc (.cells (intv m).toArray 78)) (hx.mono HB0.out) hl
    (fun k hk => by
      obtain ⟨f0, f1⟩ := hf k hk
      obtain ⟨n, hn⟩ := Int.eq_ofNat_of_zero_le f0
      have := has1_c w.heap.size n m (w.alloc (.cells (intv m).toArray 78)) (by rw [cell_of_row _ _ _ _ _ _ hh, List.getElem?_toArray, intv_get, if_pos (by omega)]) (by omega)
      rw [hn]
      exact this) enters95)
  unfold hasM
  generalize l.any (zeroAt m) = v at *
  obtain ⟨V, hV⟩ : ∃ V, V = (intv m).toArray := ⟨_, rfl⟩
  rw [← hV] at H HB0 ⊢
  clear hx hl hm hf hV hh
  go_enter Try.func73, Try.ntmps73
  go_wp2_with fail
  refine H.out.mono ?_
  rintro e w' ⟨rfl, rfl⟩
  go_wp2
  go_ret
  exact ⟨rfl, HB0.out⟩

end Go.Proofs.Ytkioejdddmnbmaa
