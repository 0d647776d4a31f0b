/- Walk: CheckSteps of the reference. -/
import Derived.Test.YtkioejdddmnbmaaSh
namespace Go.Proofs.Ytkioejdddmnbmaa
open Go.RowKit Go.Shelf
attribute [local go_sem ↓] wp_get wp_get0 wp_getS wp78 wps78 wpa78

def rGo (rs : List Rl) : Nat × Bool → List Int → Option (Nat × Bool)
  | s, [] => some s
  | s, n :: t => if s.2 = true then none else if s.1 &&& bitsL (nthR rs n.toNat).1 = bitsL (nthR rs n.toNat).1 then (if (nthR rs n.toNat).2 < 0 then rGo rs (s.1, true) t else rGo rs (s.1 ||| 2 ^ (nthR rs n.toNat).2.toNat, s.2) t) else none
def rFin (facts : Nat) : Option (Nat × Bool) → List Int × Bool × Int
  | none => ([], false, 16)
  | some (b, c) => (listedB b facts, c, 0)
def rcs (facts : Int) (seen : List Int) (rs : List Rl) (steps : List Int) : List Int × Bool × Int :=
  if caseErr facts seen rs = 0 then (if within 0 ((rs.length : Int) - 1) steps = true then (if dupB steps = true then ([], false, 11) else rFin facts.toNat (rGo rs (bitsL seen, false) steps)) else ([], false, 3)) else ([], false, caseErr facts seen rs)

theorem within_take {lo hi : Int} {l : List Int} {k : Nat} (hk : k < l.length) (h : within lo hi (l.take k) = true) (h2 : lo ≤ nth l k ∧ nth l k ≤ hi) : within lo hi (l.take (k + 1)) = true := by
  unfold within at h ⊢
  rw [all_take_succ _ hk, h]; simpa using h2
theorem within_bad {lo hi : Int} {l : List Int} {k : Nat} (hk : k < l.length) (h2 : ¬ (lo ≤ nth l k ∧ nth l k ≤ hi)) : within lo hi l = false := by
  rw [← Bool.not_eq_true]
  intro h
  exact h2 (within_nth h hk)

set_option maxRecDepth 100000 in
set_option maxHeartbeats 4000000 in
theorem rCheckSteps_c (facts : Int) (sa : Option Addr) (sc : Nat) (seen : List Int) (ra : Option Addr) (rc : Nat) (rs : List Rl) (la : Option Addr) (lc : Nat) (l : List Int) (w : World) (hc : CaseAt w sa ra seen rs) (hl : IntsAt w la l) (hll : l.length ≤ 1000000) (hcap : l.length ≤ lc) :
    Calls Try.prog 31 #[.agg #[.int .i64 facts, .slice sa seen.length sc, .slice ra rs.length rc], .slice la l.length lc] w (StepsP w (rcs facts seen rs l)) := by
  obtain ⟨W0, hW0⟩ : ∃ W0, W0 = w.alloc (.cells #[.int .i64 facts, .slice sa seen.length sc, .slice ra rs.length rc] 25) := ⟨_, rfl⟩
  have HB0 := hid (show Below w.heap.size w W0 by rw [hW0]; exact bnew w _)
  obtain ⟨c0, c1, c2⟩ := caseBox w facts sa ra seen.length sc rs.length rc
  rw [← hW0] at c0 c1 c2
  have C0 := hid c0; have C1 := hid c1; have C2 := hid c2
  have HS := hid hW0
  have HCC := hid fun (w' : World) (h : Below w.heap.size w w') => rcc sa ra sc rc facts seen rs w' (hc.mono h)
  have HL := hid hl; have Hc := hid hc
  unfold StepsP rcs
  by_cases hz : caseErr facts seen rs = 0
  · rw [if_pos hz]
    rw [hz] at HCC
    obtain ⟨f, rfl, hf1, hf2⟩ := case_nat hz
    rw [Int.toNat_natCast]
    have Hsf := hid (case_seen hz); have Hro := hid (case_rules hz hc.il)
    clear hc hz hW0 c0 c1 c2 hl
    have hrl : (rs.length : Int) ≤ 1000000 := by have := Hc.out.rl; omega
    obtain ⟨⟨L, C, E⟩, hT⟩ : ∃ T, T = if within 0 ((rs.length : Int) - 1) l = true then (if dupB l = true then (([] : List Int), false, (11 : Int)) else rFin f (rGo rs (bitsL seen, false) l)) else ([], false, 3) := ⟨_, rfl⟩
    rw [← hT]
    have HT := hid hT
    clear hT
    go_enter Try.func31, Try.ntmps31
    go_wp2_with fail
    rw [← HS.out]
    refine (HCC.out _ HB0.out).mono ?_
    rintro e w2 ⟨rfl, hB⟩
    have HB2 := hid (bstep HB0.out hB)
    have E0 := hid (cstep C0.out hB); have E1 := hid (cstep C1.out hB); have E2 := hid (cstep C2.out hB)
    have e2 := E2.out
    clear hB
    have HL2 := hid (HL.out.mono HB2.out)
    go_wp2
    go_loopw [7] (fun i wr => ∃ k : Nat, k ≤ l.length ∧ i = .int .i64 k ∧ within 0 ((rs.length : Int) - 1) (l.take k) = true ∧ Below w2.heap.size w2 wr) (fun i _ => l.length - (intOf i).toNat)
    case atStart => exact ⟨0, Nat.zero_le _, rfl, rfl, Below.refl _ _⟩
    case round =>
      obtain ⟨k, hk, rfl, hp, hB⟩ := hrel
      obtain ⟨wo, rfl⟩ : ∃ wo : World, wo = wr := ⟨_, rfl⟩
      have Hp := hid hp; have HB := hid hB
      have f2 := cstep E2.out hB
      clear hp hB e2
      by_cases hlt : k < l.length
      · obtain ⟨b, off, rfl, hcc⟩ := (HL2.out.mono HB.out).at hlt
        by_cases hin : 0 ≤ nth l k ∧ nth l k ≤ (rs.length : Int) - 1
        · have Ht := hid (within_take hlt Hp.out hin)
          obtain ⟨x, hx⟩ : ∃ x, x = nth l k := ⟨_, rfl⟩
          rw [← hx] at hcc hin
          have h1 : decide (x < 0) = false := decide_eq_false (by omega)
          have h2 : decide ((rs.length : Int) ≤ x) = false := decide_eq_false (by omega)
          clear hx hin
          go_wp2
          go_quiet (fail)
          go_wp2
          go_roundw
          case rel => exact ⟨k + 1, by omega, by go_num, Ht.out, below_drewN HB.out _⟩
          case measure => simp [intOf]; omega
        · have hT := HT.out
          rw [within_bad hlt hin, if_neg (by simp)] at hT
          cases hT
          obtain ⟨x, hx⟩ : ∃ x, x = nth l k := ⟨_, rfl⟩
          rw [← hx] at hcc hin
          clear hx
          by_cases hx0 : x < 0
          · have h1 : decide (x < 0) = true := decide_eq_true hx0
            clear hin hx0
            go_wp2
            go_quiet (fail)
            go_wp2
            go_ret3
            exact ⟨none, 0, rfl, IntsAt.nil _ _, fun _ => rfl, bstep HB2.out (below_drewN HB.out _)⟩
          · have h1 : decide (x < 0) = false := decide_eq_false hx0
            have h2 : decide ((rs.length : Int) ≤ x) = true := decide_eq_true (by omega)
            clear hin hx0
            go_wp2
            go_quiet (fail)
            go_wp2
            go_ret3
            exact ⟨none, 0, rfl, IntsAt.nil _ _, fun _ => rfl, bstep HB2.out (below_drewN HB.out _)⟩
      · obtain rfl : k = l.length := by omega
        have hw := Hp.out
        rw [List.take_length] at hw
        have hT := HT.out
        rw [if_pos hw] at hT
        have Hw := hid hw
        have HT2 := hid hT
        have F0 := hid (cstep E0.out HB.out); have F1 := hid (cstep E1.out HB.out); have F2 := hid (cstep E2.out HB.out)
        have HB3 := hid (bstep HB2.out HB.out)
        have HL3 := hid (HL2.out.mono HB.out)
        clear hw hT f2
        go_wp2
        go_loopw [8] (fun i wr => ∃ k : Nat, k ≤ l.length ∧ i = .int .i64 k ∧ (List.range k).any (fun k => (l.take k).any (fun x => nth l k == x)) = false ∧ Below wo.heap.size wo wr) (fun i _ => l.length - (intOf i).toNat)
        case atStart => exact ⟨0, Nat.zero_le _, rfl, rfl, Below.refl _ _⟩
        case round =>
          obtain ⟨k, hk, rfl, hp, hB⟩ := hrel
          obtain ⟨w3, rfl⟩ : ∃ w3 : World, w3 = wr := ⟨_, rfl⟩
          have Hp := hid hp; have HB := hid hB
          clear hp hB
          by_cases hlt : k < l.length
          · obtain ⟨b, off, rfl, hcc⟩ := (HL3.out.mono HB.out).at hlt
            have HCn := hid fun (w' : World) (h : Below w3.heap.size w3 w') => hasL_c (some ⟨b, off, none⟩) lc (l.take k) (nth l k) w' (((HL3.out.mono HB.out).mono h).take k) (by rw [List.length_take]; omega)
            rw [show (l.take k).length = k from by rw [List.length_take]; omega] at HCn
            have hd2 := fun h => dup_take (l := l) (k := k) Hp.out h
            have hcm : (l.take k).any (fun x => x == nth l k) = (l.take k).any (fun x => nth l k == x) := by congr 1; funext x; exact Bool.beq_comm
            rw [hcm] at HCn
            obtain ⟨v, hv⟩ : ∃ v, v = (l.take k).any (fun x => nth l k == x) := ⟨_, rfl⟩
            have hdup : v = true → dupB l = true := fun h => List.any_eq_true.2 ⟨k, List.mem_range.2 hlt, by rw [← hv, h]⟩
            rw [← hv] at hd2 HCn
            have Hd2 := hid hd2; have Hdup := hid hdup
            clear hd2 hdup hv hcm
            obtain ⟨x, hx⟩ : ∃ x, x = nth l k := ⟨_, rfl⟩
            rw [← hx] at hcc HCn
            clear hx
            cases v with
            | true =>
              have hT := HT2.out
              rw [if_pos (Hdup.out rfl)] at hT
              cases hT
              go_wp2
              go_region_with (go_at_call 36; (with_reducible refine (HCn.out _ (by first | exact Below.refl _ _ | exact (Below.refl _ _).drew)).mono ?_); rintro e w4 ⟨rfl, hw4⟩; subst hw4)
              all_goals (
                go_wp2
                go_ret3
                exact ⟨none, 0, rfl, IntsAt.nil _ _, fun _ => rfl, by first | exact bstep HB3.out HB.out | exact (bstep HB3.out HB.out).drew⟩)
            | false =>
              go_wp2
              go_region_with (go_at_call 36; (with_reducible refine (HCn.out _ (by first | exact Below.refl _ _ | exact (Below.refl _ _).drew)).mono ?_); rintro e w4 ⟨rfl, hw4⟩; subst hw4)
              all_goals (
                go_wp2
                go_roundw
                case rel => exact ⟨k + 1, by omega, by go_num, Hd2.out (by first | rfl | trivial), by first | exact HB.out | exact HB.out.drew⟩
                case measure => simp [intOf]; omega)
          · obtain rfl : k = l.length := by omega
            have hT := HT2.out
            have hdup : dupB l = false := Hp.out
            rw [if_neg (by rw [hdup]; simp)] at hT
            have HT3 := hid hT
            clear hT hdup
            have G0 := hid (cstep F0.out HB.out); have G1 := hid (cstep F1.out HB.out); have G2 := hid (cstep F2.out HB.out)
            have HB4 := hid (bstep HB3.out HB.out)
            have HBi := hid (bits_c sa sc seen w3 (Hc.out.s.mono HB4.out) Hc.out.sl Hsf.out)
            have g1 := G1.out
            have HL4 := hid (HL3.out.mono HB.out)
            go_wp2_with fail
            refine HBi.out.mono ?_
            rintro e w4 ⟨rfl, hw4⟩
            subst hw4
            clear g1
            go_wp2
            go_loopw [9, 10, 11] (fun q c i wr => ∃ (k : Nat) (s : Nat × Bool), k ≤ l.length ∧ i = .int .i64 k ∧ q = .int .i64 s.1 ∧ c = .bool s.2 ∧ s.1 < 2 ^ 12 ∧ rGo rs s (l.drop k) = rGo rs (bitsL seen, false) l ∧ Below w4.heap.size w4 wr) (fun _ _ i _ => l.length - (intOf i).toNat)
            case atStart => exact ⟨0, (bitsL seen, false), Nat.zero_le _, rfl, rfl, rfl, bitsL_lt Hsf.out, rfl, Below.refl _ _⟩
            case round =>
              obtain ⟨k, ⟨q, c⟩, hk, rfl, rfl, rfl, hq, hgo, hB⟩ := hrel
              obtain ⟨wo, rfl⟩ : ∃ wo : World, wo = wr := ⟨_, rfl⟩
              have HB := hid hB
              clear hB
              have hq : q < 2 ^ 12 := hq
              by_cases hlt : k < l.length
              · obtain ⟨b, off, rfl, hcc⟩ := (HL4.out.mono HB.out).at hlt
                obtain ⟨h0, h1⟩ := within_nth Hw.out hlt
                have hgo1 : rGo rs (q, c) (l.drop k) = if c = true then none else if q &&& bitsL (nthR rs (nth l k).toNat).1 = bitsL (nthR rs (nth l k).toNat).1 then (if (nthR rs (nth l k).toNat).2 < 0 then rGo rs (q, true) (l.drop (k + 1)) else rGo rs (q ||| 2 ^ (nthR rs (nth l k).toNat).2.toNat, c) (l.drop (k + 1))) else none := by rw [drop_nth hlt]; rfl
                obtain ⟨n, hn⟩ := Int.eq_ofNat_of_zero_le h0
                rw [hn] at hcc hgo1
                have hnl : n < rs.length := by omega
                rw [Int.toNat_natCast] at hgo1
                obtain ⟨hf1, hf2, hf3, hf4⟩ := Hro.out n hnl
                obtain ⟨b2, off2, a, cp, rfl, hra⟩ := (Hc.out.r.mono (bstep HB4.out HB.out)).at hnl
                have HBi := hid fun (w' : World) (hb : Below wo.heap.size wo w') => bits_c a cp (nthR rs n).1 w' (hra.at'.mono hb) hf2 hf1
                have q0 := hra.cI
                have q1 := hra.cT
                have d2 := cstep G2.out HB.out
                have hbl := bitsL_lt hf1
                obtain ⟨th, hth⟩ : ∃ t, t = (nthR rs n).2 := ⟨_, rfl⟩
                obtain ⟨ln, hln⟩ : ∃ n', n' = (nthR rs n).1.length := ⟨_, rfl⟩
                obtain ⟨o, ho⟩ : ∃ o, o = bitsL (nthR rs n).1 := ⟨_, rfl⟩
                rw [← hth] at hgo1 q1 hf3 hf4
                rw [← hln] at q0 HBi
                rw [← ho] at hgo1 HBi hbl
                have hand := bits_and_i64 (a := q) (b := o) (by omega) (by omega)
                have hgo2 := hgo.symm.trans hgo1
                rw [hgo2] at HT3
                have HGo := hid hgo2
                clear hra hth hln hf1 hf2 hgo hgo1 hgo2 h0 h1 hn ho
                go_upto_region 17 with (fail)
                go_cut [12] (fun s wc => s = .pointer (some ⟨wo.heap.size, 0, none⟩) ∧ wc.cell? ⟨wo.heap.size, 0, none⟩ = some (.slice a ln cp) ∧ wc.cell? ⟨wo.heap.size, 1, none⟩ = some (.int .i64 th) ∧ Below wo.heap.size wo wc)
                case first =>
                  clear hand
                  have z1 : b < wo.heap.size := block_lt_of_cell hcc
                  have z2 : b2 < wo.heap.size := block_lt_of_cell q0
                  have z3 : w.heap.size < wo.heap.size := block_lt_of_cell d2
                  have y1 : ¬ b = wo.heap.size := by omega
                  have y2 : ¬ b2 = wo.heap.size := by omega
                  have y3 : ¬ w.heap.size = wo.heap.size := by omega
                  go_region
                  all_goals (
                    go_wp2
                    go_meet
                    exact ⟨rfl, by simp [go_sem], by simp [go_sem], by first | exact bnew _ _ | exact (bnew _ _).drew | exact (Below.refl _ _).drew.trans (bnew _ _)⟩)
                case rest =>
                  obtain ⟨rfl, t0, t1, hB⟩ := hcut
                  obtain ⟨w5, rfl⟩ : ∃ w5 : World, w5 = wc := ⟨_, rfl⟩
                  have HBw := hid hB
                  have HB5 := hid (bstep HB.out hB)
                  have HBi5 := hid (HBi.out _ hB)
                  clear hB q0 q1 d2 hcc HBi
                  cases c with
                  | true =>
                    have hT := HT3.out
                    rw [if_pos rfl] at hT
                    cases hT
                    clear HT3
                    go_wp2_with fail
                    refine HBi5.out.mono ?_
                    rintro e w6 ⟨rfl, hw6⟩
                    subst hw6
                    go_wp2
                    go_ret3
                    exact ⟨none, 0, rfl, IntsAt.nil _ _, fun _ => rfl, bstep HB4.out HB5.out⟩
                  | false =>
                    rw [if_neg (by simp)] at HT3 HGo
                    by_cases hh : q &&& o = o
                    · rw [if_pos hh] at HT3 HGo
                      rw [hh] at hand
                      clear hh
                      by_cases h0 : th < 0
                      · rw [if_pos h0] at HT3 HGo
                        clear HT3
                        go_wp2_with fail
                        refine HBi5.out.mono ?_
                        rintro e w6 ⟨rfl, hw6⟩
                        subst hw6
                        go_wp2
                        go_roundw
                        case rel => exact ⟨k + 1, (q, true), by omega, by go_num, rfl, rfl, hq, HGo.out.symm, HB5.out⟩
                        case measure => simp [intOf]; omega
                      · rw [if_neg h0] at HT3 HGo
                        clear HT3
                        obtain ⟨t, rfl⟩ := Int.eq_ofNat_of_zero_le (show 0 ≤ th by omega)
                        rw [Int.toNat_natCast] at HGo
                        have ht12 : t ≤ 12 := by omega
                        have ht64 : (t : Int) < 64 := by omega
                        have hsh := shl_one ht12
                        have hpt := pow_le ht12
                        have hq2 : q ||| 2 ^ t < 2 ^ 12 := Nat.or_lt_two_pow hq (Nat.pow_lt_pow_right (by omega) (by omega))
                        obtain ⟨P, hP⟩ : ∃ P : Nat, P = 2 ^ t := ⟨_, rfl⟩
                        rw [← hP] at hsh HGo hpt hq2
                        have hor := bits_or_i64 (a := q) (b := P) (by omega) (by omega)
                        have Hq2 := hid hq2
                        clear hP hq2
                        go_wp2_with fail
                        refine HBi5.out.mono ?_
                        rintro e w6 ⟨rfl, hw6⟩
                        subst hw6
                        go_wp2
                        go_roundw
                        case rel => exact ⟨k + 1, (q ||| P, false), by omega, by go_num, rfl, rfl, Hq2.out, HGo.out.symm, HB5.out⟩
                        case measure => simp [intOf]; omega
                    · have hT := HT3.out
                      rw [if_neg hh] at hT
                      cases hT
                      clear HT3
                      have hne : (((q &&& o : Nat) : Int) != (o : Int)) = true := by simp; omega
                      have hne2 : ¬ ((q &&& o : Nat) : Int) = (o : Int) := by omega
                      obtain ⟨u, hu⟩ : ∃ u, u = q &&& o := ⟨_, rfl⟩
                      rw [← hu] at hand hne hne2
                      clear hu hh
                      go_wp2_with fail
                      refine HBi5.out.mono ?_
                      rintro e w6 ⟨rfl, hw6⟩
                      subst hw6
                      go_wp2
                      go_ret3
                      exact ⟨none, 0, rfl, IntsAt.nil _ _, fun _ => rfl, bstep HB4.out HB5.out⟩
              · obtain rfl : k = l.length := by omega
                have hT := HT3.out
                rw [← hgo, List.drop_length] at hT
                cases hT
                have HLi := hid fun (w' : World) => listed_c q f w' (by omega) (by omega)
                unfold OwnP at HLi
                have g0 := cstep G0.out HB.out
                have HB6 := hid (bstep HB4.out HB.out)
                go_wp2_with fail
                refine (HLi.out _).mono ?_
                rintro e w5 ⟨ao, cp, rfl, hat, hn, hB⟩
                have HB7 := hid (bstep HB6.out hB)
                clear hB
                go_wp2
                go_ret3
                exact ⟨ao, cp, rfl, hat, hn, HB7.out⟩
  · rw [if_neg hz]
    have hcb := errB hz
    clear hc hz hW0 c0 c1 c2
    generalize caseErr facts seen rs = c at *
    go_enter Try.func31, Try.ntmps31
    go_wp2_with fail
    rw [← HS.out]
    refine (HCC.out _ HB0.out).mono ?_
    rintro e w1 ⟨rfl, hB⟩
    have HB1 := hid (bstep HB0.out hB)
    have d0 := cstep C0.out hB; have d1 := cstep C1.out hB; have d2 := cstep C2.out hB
    clear hB
    go_wp2_with fail
    refine (HCC.out _ HB1.out).mono ?_
    rintro e w2 ⟨rfl, hB⟩
    have HB2 := hid (bstep HB1.out hB)
    go_wp2
    go_ret3
    exact ⟨none, 0, rfl, IntsAt.nil _ _, fun _ => rfl, HB2.out⟩

end Go.Proofs.Ytkioejdddmnbmaa
