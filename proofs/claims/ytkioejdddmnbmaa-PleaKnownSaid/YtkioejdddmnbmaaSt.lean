/- Walk: Idle of the program. -/
import Derived.Test.YtkioejdddmnbmaaSs
import Derived.Deep.RegionHeld3
namespace Go.Proofs.Ytkioejdddmnbmaa
open Go.RowKit Go.Shelf
attribute [local go_sem ↓] wp_get wp_get0 wp_getS wp78 wps78 wpa78

/-- rules without one -/
def lessR (rs : List Rl) (k : Nat) : List Rl := rs.take k ++ rs.drop (k + 1)
theorem lessR_mem {rs : List Rl} {k : Nat} {r : Rl} (h : r ∈ lessR rs k) : r ∈ rs := by
  rcases List.mem_append.1 h with h | h
  · exact List.mem_of_mem_take h
  · exact List.mem_of_mem_drop h
theorem lessR_ok {rs : List Rl} {k : Nat} (h : rulesOk rs) : rulesOk (lessR rs k) := fun _ hi => rulesOk_mem h (lessR_mem (nthR_mem hi))
theorem lessR_len {rs : List Rl} {k : Nat} : (lessR rs k).length ≤ rs.length := by
  unfold lessR; rw [List.length_append, List.length_take, List.length_drop]; omega

def idleB (rs : List Rl) (k : Nat) : Bool := decide (0 ≤ (deskOf (nthR rs k).1 (lessR rs k)).clash) || (decide (0 ≤ (nthR rs k).2) && decide (0 < nth (deskOf (nthR rs k).1 (lessR rs k)).known (nthR rs k).2.toNat))
def pIdleE (facts : Int) (seen : List Int) (rs : List Rl) (x : Int) : Int := if caseErr facts seen rs = 0 then (if within 0 ((rs.length : Int) - 1) [x] = true then 0 else 2) else caseErr facts seen rs
def pIdleB (facts : Int) (seen : List Int) (rs : List Rl) (x : Int) : Bool := if caseErr facts seen rs = 0 then (if within 0 ((rs.length : Int) - 1) [x] = true then idleB rs x.toNat else false) else false

/-- a Bool and an error are handed back -/
def BoolE (w : World) (b : Bool) (er : Int) (e : Ending) (w' : World) : Prop := e = .returned (.tuple #[.bool b, .int .i64 er]) ∧ Below w.heap.size w w'

set_option maxRecDepth 100000 in
set_option maxHeartbeats 4000000 in
theorem pIdle_c (facts : Int) (sa : Option Addr) (sc : Nat) (seen : List Int) (ra : Option Addr) (rc : Nat) (rs : List Rl) (x : Int) (w : World) (hc : CaseAt w sa ra seen rs) (hrn : ra = none → rc = 0) :
    Calls Try.prog 42 #[.agg #[.int .i64 facts, .slice sa seen.length sc, .slice ra rs.length rc], .int .i64 x] w (BoolE w (pIdleB facts seen rs x) (pIdleE facts seen rs x)) := by
  obtain ⟨W0, hW0⟩ : ∃ W0, W0 = w.alloc (.cells #[.int .i64 facts, .slice sa seen.length sc, .slice ra rs.length rc] 25) := ⟨_, rfl⟩
  have HB0 := hid (show Below w.heap.size w W0 by rw [hW0]; exact bnew w _)
  obtain ⟨c0, c1, c2⟩ := caseBox w facts sa ra seen.length sc rs.length rc
  rw [← hW0] at c0 c1 c2
  have C0 := hid c0; have C2 := hid c2
  have HS := hid hW0
  have HO := hid (open_c facts sa sc seen ra rc rs none 0 [] W0 (hc.mono HB0.out) (IntsAt.nil _ _) (by simp))
  rw [open_none] at HO
  unfold BoolE pIdleB pIdleE
  by_cases hz : caseErr facts seen rs = 0
  · rw [if_pos hz, if_pos hz]
    rw [hz] at HO
    have Hro := hid (case_rules hz hc.il)
    obtain ⟨_, hr14, _⟩ := case_zero hz
    have Hc := hid hc; have Hrn := hid hrn
    obtain ⟨st, hst⟩ : ∃ st, st = deskOf seen rs := ⟨_, rfl⟩
    rw [← hst] at HO
    have hr14I : (rs.length : Int) ≤ 14 := by omega
    clear hc hz hW0 c0 c1 c2 hst hrn
    have HWi := hid fun (w' : World) (a : Addr) (h : IntsAt w' (some a) [x]) => within_c (some a) 1 0 ((rs.length : Int) - 1) [x] w' h (by simp)
    have hlen1 : ([x] : List Int).length = 1 := rfl
    rw [hlen1] at HWi
    cases hw : within 0 ((rs.length : Int) - 1) [x] with
    | false =>
      rw [hw] at HWi
      rw [if_neg (by simp), if_neg (by simp)]
      go_enter Try.func42, Try.ntmps42
      go_wp2_with fail
      rw [← HS.out]
      refine HO.out.mono ?_
      rintro e w1 ⟨p, rfl, hB, hp⟩
      have HB1 := hid (bstep HB0.out hB)
      have d2 := cstep C2.out hB
      have hlit := hid (at_lit1 w1 x)
      clear hB hp
      go_wp2_with fail
      refine (HWi.out _ _ hlit.out).mono ?_
      rintro e w2 ⟨rfl, hB2⟩
      have HB2 := hid (bstep HB1.out (bstep (bnew _ _) hB2))
      clear hB2 d2
      go_wp2
      go_ret2
      exact ⟨rfl, HB2.out⟩
    | true =>
      rw [hw] at HWi
      rw [if_pos rfl, if_pos rfl]
      obtain ⟨hx0, hx1⟩ := within_one.1 hw
      obtain ⟨k, rfl⟩ := Int.eq_ofNat_of_zero_le hx0
      rw [Int.toNat_natCast]
      have hkl : k < rs.length := by omega
      have hkI : (k : Int) < (rs.length : Int) := by omega
      obtain ⟨hf1, hf2, hf3, hf4⟩ := Hro.out k hkl
      obtain ⟨b2, off2, a2, cp2, rfl, hra0⟩ := Hc.out.r.at hkl
      have HCl := hid fun (w' : World) (h : Below w.heap.size w w') => cloneR_c (some ⟨b2, off2, none⟩) rc rs w' (Hc.out.r.mono h) (by omega) (fun h => by cases h)
      have HDe := hid fun (w' w'' : World) (ao : Option Addr) (cap : Nat) (hown : OwnRu w' w'' ao rs.length cap rs) (hB : Below w'.heap.size w' w'') => deleteR_c w' ao cap k rs w'' hown hB hkl (by omega)
      have HN := hid fun (ra' : Option Addr) (rc' : Nat) (w' : World) (h : Below w.heap.size w w') (hr' : RulesAt w' ra' (lessR rs k)) => newDesk_c facts a2 cp2 (nthR rs k).1 ra' rc' (lessR rs k) w' (hra0.at'.mono h) hf2 hf1 hr' (lessR_ok Hro.out) (by have := lessR_len (rs := rs) (k := k); omega)
      have hlR : (rs.take k ++ rs.drop (k + 1)) = lessR rs k := rfl
      unfold OwnRuP at HCl
      unfold DelR at HDe
      rw [hlR] at HDe
      unfold DeskP at HN
      have hid0 : idleB rs k = (decide (0 ≤ (deskOf (nthR rs k).1 (lessR rs k)).clash) || (decide (0 ≤ (nthR rs k).2) && decide (0 < nth (deskOf (nthR rs k).1 (lessR rs k)).known (nthR rs k).2.toNat))) := rfl
      rw [hid0]
      obtain ⟨st2, hst2⟩ : ∃ st, st = deskOf (nthR rs k).1 (lessR rs k) := ⟨_, rfl⟩
      obtain ⟨th, hth⟩ : ∃ t, t = (nthR rs k).2 := ⟨_, rfl⟩
      obtain ⟨ln, hln⟩ : ∃ n, n = (nthR rs k).1.length := ⟨_, rfl⟩
      obtain ⟨m, hm⟩ : ∃ m, m = (lessR rs k).length := ⟨_, rfl⟩
      rw [← hst2] at HN ⊢
      rw [← hln] at HN
      rw [← hm] at HDe HN
      rw [← hth] at hf3 hf4 ⊢
      have Hth := hid hth; have Hln := hid hln; have Hra := hid hra0
      obtain ⟨R, hR⟩ : ∃ R, R = (decide (0 ≤ st2.clash) || (decide (0 ≤ th) && decide (0 < nth st2.known th.toNat))) := ⟨_, rfl⟩
      rw [← hR]
      have HR := hid hR
      clear hst2 hm hR hf1 hf2 hid0 hlR hw hx0 hx1 hth hln hra0
      go_enter Try.func42, Try.ntmps42
      go_wp2_with fail
      rw [← HS.out]
      refine HO.out.mono ?_
      rintro e w1 ⟨p, rfl, hB, hp⟩
      have HB1 := hid (bstep HB0.out hB)
      have d2 := cstep C2.out hB
      have D0 := hid (cstep C0.out hB); have D2 := hid d2
      have hlit := hid (at_lit1 w1 (k : Int))
      clear hB hp
      go_wp2_with fail
      refine (HWi.out _ _ hlit.out).mono ?_
      rintro e w2 ⟨rfl, hB2⟩
      have hB12 := bstep (bnew w1 (.cells #[.int .i64 (k : Int)] 3)) hB2
      have HB2 := hid (bstep HB1.out hB12)
      have E0 := hid (cstep D0.out hB12); have E2 := hid (cstep D2.out hB12)
      have e2 := E2.out
      have hra := Hra.out.mono HB2.out
      have q0 := hra.cI; have q1 := hra.cT
      rw [← Hln.out] at q0
      rw [← Hth.out] at q1
      clear hB2 d2 hB12 hra
      go_upto_region 7 with (fail)
      obtain ⟨W2, hW2⟩ : ∃ W2, W2 = w2.alloc (.cells #[.slice a2 ln cp2, .int .i64 th] 60) := ⟨_, rfl⟩
      have hb2 : Below w2.heap.size w2 W2 := by rw [hW2]; exact bnew _ _
      have g0 := cstep E0.out hb2; have g2 := cstep E2.out hb2
      have t0 : W2.cell? ⟨w2.heap.size, 0, none⟩ = some (.slice a2 ln cp2) := by rw [hW2]; simp [go_sem]
      have t1 : W2.cell? ⟨w2.heap.size, 1, none⟩ = some (.int .i64 th) := by rw [hW2]; simp [go_sem]
      have T1 := hid t1
      have HB3 := hid (bstep HB2.out hb2)
      rw [← hW2]
      clear hW2 hb2 q0 q1 e2
      go_cut [9] (fun s wc => ∃ (g5 bm5 : Nat) (oa5 : Option Addr) (oc5 B5 : Nat) (c25 : Value), s = .pointer (some ⟨g5, 0, none⟩) ∧ DeskAt B5 wc g5 bm5 oa5 oc5 (.int .i64 facts) (.slice a2 ln cp2) c25 st2.known st2.ord st2.ord st2.clash ∧ Below W2.heap.size W2 wc)
      case first =>
        have hwr : IntKind.i64.wrap ((k : Int) + 1) = (k : Int) + 1 := by have h := wrap_i64_nat (a := k + 1) (by omega); simpa using h
        go_region_held3 (fun w' => w'.cell? ⟨w.heap.size, 0, none⟩ = some (.int .i64 facts) ∧ w'.cell? ⟨w2.heap.size, 0, none⟩ = some (.slice a2 ln cp2) ∧ w'.cell? ⟨w.heap.size, 2, none⟩ = some (.slice (some ⟨b2, off2, none⟩) rs.length rc)) (first | go_keep | exact ⟨cstep g0 hBl, cstep t0 hBl, cstep g2 hBl⟩ | exact ⟨cstep g0 (bstep hBl hB7), cstep t0 (bstep hBl hB7), cstep g2 (bstep hBl hB7)⟩)
          (first
            | (go_at_call 83; (with_reducible refine (HCl.out _ (by first | exact HB3.out | exact HB3.out.drew)).mono ?_); rintro e w5 ⟨ao5, cap5, rfl, hown5, hB5, _⟩; have hBl : Below W2.heap.size W2 w5 := by first | exact hB5 | exact ((Below.refl _ _).drew).trans hB5)
            | (go_at_call 82; (with_reducible refine (HDe.out _ _ _ _ hown5 hB5).mono ?_); rintro e w6 ⟨ao6, cap6, rfl, hat6, hn6, hB6⟩; have hBl : Below W2.heap.size W2 w6 := by first | exact hB6 | exact ((Below.refl _ _).drew).trans hB6)
            | (go_at_call 70; (with_reducible refine (HN.out _ _ _ (bstep HB3.out hBl) hat6).mono ?_); rintro e w7 ⟨g7, bm7, oa7, oc7, rfl, hd7, hB7⟩))
        all_goals (
          go_wp2
          go_meet
          exact ⟨g7, bm7, oa7, oc7, _, _, rfl, hd7, bstep hBl hB7⟩)
      case rest =>
        obtain ⟨g5, bm5, oa5, oc5, B5, c25, rfl, hd5, hB5⟩ := hcut
        have kc := hd5.kC
        have u1 := cstep T1.out hB5
        have HB5 := hid (bstep HB3.out hB5)
        by_cases hcl : 0 ≤ st2.clash
        · have hb : decide (0 ≤ st2.clash) = true := decide_eq_true hcl
          have hR := HR.out
          rw [hb, Bool.true_or] at hR
          subst hR
          clear hd5 hB5 hcl
          go_wp2
          go_quiet (fail)
          go_wp2
          go_ret2
          exact ⟨rfl, below_drewN HB5.out _⟩
        · have hb : decide (0 ≤ st2.clash) = false := decide_eq_false hcl
          have hR := HR.out
          rw [hb, Bool.false_or] at hR
          by_cases hth0 : 0 ≤ th
          · have hb2 : decide (0 ≤ th) = true := decide_eq_true hth0
            obtain ⟨t, rfl⟩ := Int.eq_ofNat_of_zero_le hth0
            have kk := hd5.kK (n := t) (by omega)
            rw [hb2, Bool.true_and, Int.toNat_natCast] at hR
            generalize nth st2.known t = v at *
            have HR2 := hid hR
            clear hd5 hB5 hcl hR hth0
            by_cases hv : 0 < v
            · have hb3 : decide (0 < v) = true := decide_eq_true hv
              have hRv : R = true := by rw [HR2.out, hb3]
              subst hRv
              clear hv
              go_wp2
              go_quiet (fail)
              go_wp2
              go_ret2
              exact ⟨rfl, below_drewN HB5.out _⟩
            · have hb3 : decide (0 < v) = false := decide_eq_false hv
              have hRv : R = false := by rw [HR2.out, hb3]
              subst hRv
              clear hv
              go_wp2
              go_quiet (fail)
              go_wp2
              go_ret2
              exact ⟨rfl, below_drewN HB5.out _⟩
          · have hb2 : decide (0 ≤ th) = false := decide_eq_false hth0
            rw [hb2, Bool.false_and] at hR
            subst hR
            clear hd5 hB5 hcl hth0
            go_wp2
            go_quiet (fail)
            go_wp2
            go_ret2
            exact ⟨rfl, below_drewN HB5.out _⟩
  · rw [if_neg hz, if_neg hz]
    have hcb := errB hz
    clear hc hz hW0 c0 c1 c2
    generalize caseErr facts seen rs = c at *
    go_enter Try.func42, Try.ntmps42
    go_wp2_with fail
    rw [← HS.out]
    refine HO.out.mono ?_
    rintro e w1 ⟨p, rfl, hB, hp⟩
    have HB2 := hid (bstep HB0.out hB)
    clear hB hp
    go_wp2
    go_ret2
    exact ⟨rfl, HB2.out⟩

end Go.Proofs.Ytkioejdddmnbmaa
