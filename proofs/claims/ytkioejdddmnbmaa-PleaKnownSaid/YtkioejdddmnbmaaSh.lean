/- Walks: Index, Contains; CheckSteps of the program. -/
import Derived.Test.YtkioejdddmnbmaaSg
namespace Go.Proofs.Ytkioejdddmnbmaa
open Go.RowKit Go.Shelf
attribute [local go_sem ↓] wp_get wp_get0 wp_getS wp78 wps78 wpa78

set_option maxRecDepth 100000 in
theorem index_c (a : Option Addr) (cap : Nat) (l : List Int) (n : Int) (w : World) (hx : IntsAt w a l) (hl : l.length ≤ 1000000) :
    Calls Try.prog 94 #[.slice a l.length cap, .int .i64 n] w fun e w' => (∃ i : Int, e = .returned (.int .i64 i) ∧ decide (0 ≤ i) = l.any (fun x => n == x)) ∧ w' = w := by
  have Hx := hid hx
  clear hx
  obtain ⟨R, hR⟩ : ∃ R, R = l.any (fun x => n == x) := ⟨_, rfl⟩
  rw [← hR]
  have HR := hid hR
  clear hR
  go_enter Try.func94, Try.ntmps94
  go_wp2
  go_loop [8] (fun i => ∃ k : Nat, k ≤ l.length ∧ i = .int .i64 k ∧ (l.take k).any (fun x => n == x) = false) (fun i => l.length - (intOf i).toNat)
  case atStart => exact ⟨0, Nat.zero_le _, rfl, rfl⟩
  case round =>
    obtain ⟨k, hk, rfl, hp⟩ := hrel
    have Hp := hid hp
    clear hp
    by_cases hlt : k < l.length
    · obtain ⟨b, off, rfl, hc⟩ := Hx.out.at hlt
      have Ht := hid (any_take_succ (fun x => n == x) hlt)
      by_cases he : n = nth l k
      · have hany : l.any (fun x => n == x) = true := List.any_eq_true.2 ⟨_, nth_mem hlt, by simp [← he]⟩
        have Hany := hid hany
        rw [← he] at hc
        clear he hany
        go_wp2
        go_ret
        exact ⟨⟨_, rfl, by rw [HR.out, Hany.out]; exact decide_eq_true (by omega)⟩, rfl⟩
      · have heb : (n == nth l k) = false := by simpa using he
        have Heb := hid heb
        go_wp2
        go_round
        case rel => exact ⟨k + 1, by omega, by go_num, by rw [Ht.out, Hp.out, Heb.out]; rfl⟩
        case measure => simp [intOf]; omega
    · obtain rfl : k = l.length := by omega
      go_wp2
      go_ret
      have hp := Hp.out
      rw [List.take_of_length_le (by omega)] at hp
      exact ⟨⟨_, rfl, by rw [HR.out, hp]; decide⟩, rfl⟩

set_option maxRecDepth 100000 in
theorem contains_c (a : Option Addr) (cap : Nat) (l : List Int) (n : Int) (w : World) (hx : IntsAt w a l) (hl : l.length ≤ 1000000) :
    Calls Try.prog 72 #[.slice a l.length cap, .int .i64 n] w fun e w' => e = .returned (.bool (l.any (fun x => n == x))) ∧ w' = w := by
  have H := hid (index_c a cap l n w hx hl)
  clear hx hl
  generalize l.any (fun x => n == x) = R at *
  go_enter Try.func72, Try.ntmps72
  go_wp2_with fail
  refine H.out.mono ?_
  rintro e w1 ⟨⟨i, rfl, hi⟩, rfl⟩
  have Hi := hid hi
  clear hi
  go_wp2
  go_ret
  exact ⟨ret_bool Hi.out, rfl⟩

def dupB (l : List Int) : Bool := (List.range l.length).any fun k => (l.take k).any (fun x => nth l k == x)

/-- what is known behind steps; no steps: none -/
def pGo (rs : List Rl) : List Int → List Int → Option (List Int × Bool)
  | m, [] => some (m, false)
  | m, n :: t => if hasM m (nthR rs n.toNat).1 = true then (if (nthR rs n.toNat).2 < 0 then (if t = [] then some (m, true) else none) else pGo rs (m.set (nthR rs n.toNat).2.toNat 1) t) else none
def pFin : Option (List Int × Bool) → List Int × Bool × Int
  | none => ([], false, 16)
  | some (m, c) => (listM m, c, 0)
def pcs (facts : Int) (seen : List Int) (rs : List Rl) (steps : List Int) : List Int × Bool × Int :=
  if caseErr facts seen rs = 0 then (if within 0 ((rs.length : Int) - 1) steps = true then (if dupB steps = true then ([], false, 11) else pFin (pGo rs (markL seen) steps)) else ([], false, 3)) else ([], false, caseErr facts seen rs)

def StepsP (w : World) (r : List Int × Bool × Int) (e : Ending) (w' : World) : Prop :=
  ∃ ao cap, e = .returned (.tuple #[.slice ao r.1.length cap, .bool r.2.1, .int .i64 r.2.2]) ∧ IntsAt w' ao r.1 ∧ (ao = none → cap = 0) ∧ Below w.heap.size w w'

theorem within_nth {lo hi : Int} {l : List Int} (h : within lo hi l = true) {k : Nat} (hk : k < l.length) : lo ≤ nth l k ∧ nth l k ≤ hi := by
  have := List.all_eq_true.1 h _ (nth_mem hk)
  simpa using this
theorem drop_nth {l : List Int} {k : Nat} (h : k < l.length) : l.drop k = nth l k :: l.drop (k + 1) := by
  rw [List.drop_eq_getElem_cons h, nth_eq h]
theorem dup_take {l : List Int} {k : Nat} (h : (List.range k).any (fun k => (l.take k).any (fun x => nth l k == x)) = false) (h2 : (l.take k).any (fun x => nth l k == x) = false) : (List.range (k + 1)).any (fun k => (l.take k).any (fun x => nth l k == x)) = false := by
  rw [List.range_succ, List.any_append, h]; simpa using h2

set_option maxRecDepth 100000 in
set_option maxHeartbeats 4000000 in
theorem checkSteps_c (facts : Int) (sa : Option Addr) (sc : Nat) (seen : List Int) (ra : Option Addr) (rc : Nat) (rs : List Rl) (la : Option Addr) (lc : Nat) (l : List Int) (w : World) (hc : CaseAt w sa ra seen rs) (hl : IntsAt w la l) (hll : l.length ≤ 1000000) (hcap : l.length ≤ lc) :
    Calls Try.prog 30 #[.agg #[.int .i64 facts, .slice sa seen.length sc, .slice ra rs.length rc], .slice la l.length lc] w (StepsP w (pcs facts seen rs l)) := by
  obtain ⟨W0, hW0⟩ : ∃ W0, W0 = w.alloc (.cells #[.int .i64 facts, .slice sa seen.length sc, .slice ra rs.length rc] 25) := ⟨_, rfl⟩
  have HB0 := hid (show Below w.heap.size w W0 by rw [hW0]; exact bnew w _)
  obtain ⟨c0, c1, c2⟩ := caseBox w facts sa ra seen.length sc rs.length rc
  rw [← hW0] at c0 c1 c2
  have C0 := hid c0; have C1 := hid c1; have C2 := hid c2
  have HS := hid hW0
  have HCC := hid fun (w' : World) (h : Below w.heap.size w w') => checkCase_c sa ra sc rc facts seen rs w' (hc.s.mono h) (hc.r.mono h) hc.sl hc.rl hc.il
  have HL := hid hl; have Hc := hid hc
  unfold StepsP pcs
  by_cases hz : caseErr facts seen rs = 0
  · rw [if_pos hz]
    rw [hz] at HCC
    have HWi := hid fun (w' : World) (h : Below w.heap.size w w') => within_c la lc 0 ((rs.length : Int) - 1) l w' (hl.mono h) hll
    have Hsf := hid (case_seen hz); have Hro := hid (case_rules hz hc.il)
    clear hc hz hW0 c0 c1 c2 hl
    have hrl : (rs.length : Int) ≤ 1000000 := by have := Hc.out.rl; omega
    cases hw : within 0 ((rs.length : Int) - 1) l with
    | false =>
      rw [hw] at HWi
      rw [if_neg (by simp)]
      clear hw
      go_enter Try.func30, Try.ntmps30
      go_wp2_with fail
      rw [← HS.out]
      refine (HCC.out _ HB0.out).mono ?_
      rintro e w1 ⟨rfl, hB⟩
      have HB1 := hid (bstep HB0.out hB)
      have d0 := cstep C0.out hB; have d1 := cstep C1.out hB; have d2 := cstep C2.out hB
      clear hB
      go_wp2_with fail
      refine (HWi.out _ HB1.out).mono ?_
      rintro e w2 ⟨rfl, hB⟩
      have HB2 := hid (bstep HB1.out hB)
      clear hB d0 d1 d2
      go_wp2
      go_ret3
      exact ⟨none, 0, rfl, IntsAt.nil _ _, fun _ => rfl, HB2.out⟩
    | true =>
      rw [hw] at HWi
      rw [if_pos rfl]
      have Hw := hid hw
      clear hw
      obtain ⟨⟨L, C, E⟩, hT⟩ : ∃ T, T = if dupB l = true then (([] : List Int), false, (11 : Int)) else pFin (pGo rs (markL seen) l) := ⟨_, rfl⟩
      rw [← hT]
      have HT := hid hT
      clear hT
      go_enter Try.func30, Try.ntmps30
      go_wp2_with fail
      rw [← HS.out]
      refine (HCC.out _ HB0.out).mono ?_
      rintro e w1 ⟨rfl, hB⟩
      have HB1 := hid (bstep HB0.out hB)
      have d0 := cstep C0.out hB; have d1 := cstep C1.out hB; have d2 := cstep C2.out hB
      have D0 := hid d0; have D1 := hid d1; have D2 := hid d2
      clear hB
      go_wp2_with fail
      refine (HWi.out _ HB1.out).mono ?_
      rintro e w2 ⟨rfl, hB⟩
      have HB2 := hid (bstep HB1.out hB)
      have E0 := hid (cstep D0.out hB); have E1 := hid (cstep D1.out hB); have E2 := hid (cstep D2.out hB)
      clear hB d0 d1 d2 D0 D1 D2
      have HL2 := hid (HL.out.mono HB2.out)
      go_wp2
      go_loop [31] (fun i => ∃ k : Nat, k ≤ l.length ∧ i = .int .i64 k ∧ (List.range k).any (fun k => (l.take k).any (fun x => nth l k == x)) = false) (fun i => l.length - (intOf i).toNat)
      case atStart => exact ⟨0, Nat.zero_le _, rfl, rfl⟩
      case round =>
        obtain ⟨k, hk, rfl, hp⟩ := hrel
        have Hp := hid hp
        clear hp
        by_cases hlt : k < l.length
        · obtain ⟨b, off, rfl, hcc⟩ := HL2.out.at hlt
          have HCn := hid (contains_c (some ⟨b, off, none⟩) lc (l.take k) (nth l k) w2 (HL2.out.take k) (by rw [List.length_take]; omega))
          rw [show (l.take k).length = k from by rw [List.length_take]; omega] at HCn
          have hd2 := fun h => dup_take (l := l) (k := k) Hp.out h
          obtain ⟨v, hv⟩ : ∃ v, v = (l.take k).any (fun x => nth l k == x) := ⟨_, rfl⟩
          have hdup : v = true → dupB l = true := fun h => List.any_eq_true.2 ⟨k, List.mem_range.2 hlt, by rw [← hv, h]⟩
          rw [← hv] at hd2 HCn
          have Hd2 := hid hd2; have Hdup := hid hdup
          clear hd2 hdup hv
          obtain ⟨x, hx⟩ : ∃ x, x = nth l k := ⟨_, rfl⟩
          rw [← hx] at hcc HCn
          clear hx
          cases v with
          | true =>
            have hT := HT.out
            rw [if_pos (Hdup.out rfl)] at hT
            cases hT
            go_wp2_with fail
            refine HCn.out.mono ?_
            rintro e w3 ⟨rfl, rfl⟩
            go_wp2
            go_ret3
            exact ⟨none, 0, rfl, IntsAt.nil _ _, fun _ => rfl, HB2.out⟩
          | false =>
            go_wp2_with fail
            refine HCn.out.mono ?_
            rintro e w3 ⟨rfl, rfl⟩
            go_wp2
            go_round
            case rel => exact ⟨k + 1, by omega, by go_num, Hd2.out (by first | rfl | trivial)⟩
            case measure => simp [intOf]; omega
        · obtain rfl : k = l.length := by omega
          have hT := HT.out
          have hdup : dupB l = false := Hp.out
          rw [if_neg (by rw [hdup]; simp)] at hT
          have HT2 := hid hT
          clear hT hdup
          have HM := hid (marked_c sa sc seen w2 (Hc.out.s.mono HB2.out) Hc.out.sl Hsf.out)
          obtain ⟨V, hV⟩ : ∃ V, V = (intv (markL seen)).toArray := ⟨_, rfl⟩
          rw [← hV] at HM
          have e1 := E1.out
          have HV := hid hV
          have hV2 : (V.size == 12) = true := by rw [hV]; simp [intv_length, markL_length]
          have hV3 : V.all (·.oneCell') = true := by rw [hV]; simp only [List.all_toArray]; exact List.all_eq_true.2 (intv_one _)
          clear hV
          go_wp2_with fail
          refine HM.out.mono ?_
          rintro e w3 ⟨rfl, hB⟩
          have HB3 := hid (bstep HB2.out hB)
          have HB23 := hid hB
          have F0 := hid (cstep E0.out hB); have F1 := hid (cstep E1.out hB); have F2 := hid (cstep E2.out hB)
          clear hB e1
          have hpo : partOk (w3.alloc (.cells zero78 78)) w3.heap.size 0 12 = true := partOk_of (heap_alloc_new w3 _) (by simp [zero78, intv_length])
          have hfb : freeB (w3.alloc (.cells zero78 78)) w3.heap.size = true := freeB_of (heap_alloc_new w3 _)
          have hVs : V.size = 12 := by simpa using hV2
          have hset : World.setPart (w3.alloc (.cells zero78 78)) w3.heap.size 0 V = w3.alloc (.cells V 78) := by
            unfold World.setPart
            rw [heap_alloc_new]
            simp only [List.take_zero, List.nil_append, Nat.zero_add, hVs]
            rw [setRow_alloc, List.drop_of_length_le (by simp [zero78, intv_length])]
            simp
          have HVs := hid hVs; have Hset := hid hset
          clear hVs hset
          go_wp2
          rw [Hset.out]
          clear hpo hfb hV2 hV3
          go_loopw [47] (fun i wr => ∃ (k : Nat) (m : List Int), k ≤ l.length ∧ i = .int .i64 k ∧ MarksAt wr w3.heap.size m ∧ pGo rs m (l.drop k) = pGo rs (markL seen) l ∧ Below w3.heap.size w3 wr) (fun i _ => l.length - (intOf i).toNat)
          case atStart => exact ⟨0, markL seen, Nat.zero_le _, rfl, ⟨markL_length _, by rw [heap_alloc_new, HV.out]⟩, rfl, bnew w3 _⟩
          case round =>
            obtain ⟨k, m, hk, rfl, hm, hgo, hB⟩ := hrel
            obtain ⟨wo, rfl⟩ : ∃ wo : World, wo = wr := ⟨_, rfl⟩
            have Hm := hid hm; have HB := hid hB
            clear hm hB
            by_cases hlt : k < l.length
            · obtain ⟨b, off, rfl, hcc⟩ := (HL2.out.mono (bstep HB23.out HB.out)).at hlt
              obtain ⟨h0, h1⟩ := within_nth Hw.out hlt
              have hgo1 : pGo rs m (l.drop k) = if hasM m (nthR rs (nth l k).toNat).1 = true then (if (nthR rs (nth l k).toNat).2 < 0 then (if l.drop (k + 1) = [] then some (m, true) else none) else pGo rs (m.set (nthR rs (nth l k).toNat).2.toNat 1) (l.drop (k + 1))) else none := by rw [drop_nth hlt]; rfl
              obtain ⟨n, hn⟩ := Int.eq_ofNat_of_zero_le h0
              rw [hn] at hcc hgo1
              have hnl : n < rs.length := by omega
              rw [Int.toNat_natCast] at hgo1
              obtain ⟨hf1, hf2, hf3, hf4⟩ := Hro.out n hnl
              obtain ⟨b2, off2, a, cp, rfl, hra⟩ := (Hc.out.r.mono (bstep HB3.out HB.out)).at hnl
              have Hhas := hid fun (w' : World) (hb : Below wo.heap.size wo w') => has_c a cp m (nthR rs n).1 w' (hra.at'.mono hb) hf2 Hm.out.1 hf1
              have q0 := hra.cI
              have q1 := hra.cT
              have d2 := cstep F2.out HB.out
              obtain ⟨th, hth⟩ : ∃ t, t = (nthR rs n).2 := ⟨_, rfl⟩
              obtain ⟨ln, hln⟩ : ∃ n', n' = (nthR rs n).1.length := ⟨_, rfl⟩
              obtain ⟨hv, hhv⟩ : ∃ v, v = hasM m (nthR rs n).1 := ⟨_, rfl⟩
              rw [← hth] at hgo1 q1 hf3 hf4
              rw [← hln] at q0 Hhas
              rw [← hhv] at hgo1 Hhas
              obtain ⟨V2, hV2⟩ : ∃ V, V = (intv m).toArray := ⟨_, rfl⟩
              rw [← hV2] at Hhas
              have HV2 := hid hV2
              have hgo2 := hgo.symm.trans hgo1
              rw [hgo2] at HT2
              obtain ⟨W1, hW1⟩ : ∃ W1, W1 = wo.alloc (.cells #[.slice a ln cp, .int .i64 th] 60) := ⟨_, rfl⟩
              have hBo : Below wo.heap.size wo W1 := by rw [hW1]; exact bnew wo _
              have t0 : W1.cell? ⟨wo.heap.size, 0, none⟩ = some (.slice a ln cp) := by rw [hW1]; simp [go_sem]
              have t1 : W1.cell? ⟨wo.heap.size, 1, none⟩ = some (.int .i64 th) := by rw [hW1]; simp [go_sem]
              have hm1 := Hm.out.mono hBo
              have o1 := hm1.ok; have p1 := hm1.part
              rw [← HV2.out] at p1
              have HW1 := hid hW1; have HBo := hid hBo; have HM1 := hid hm1; have HGo := hid hgo2
              have T1 := hid t1
              have hlb : ∀ x : Bool, x = ((k : Int) == (l.length : Int) - 1) → (x = true ↔ l.drop (k + 1) = []) := by
                rintro x rfl
                rw [List.drop_eq_nil_iff, beq_iff_eq]; omega
              have Hlb := hid hlb
              clear hra hth hln hhv hV2 hf1 hf2 hgo hgo1 hgo2 hBo hW1 h0 h1 hm1 hlb hn
              go_upto_region 18 with (fail)
              rw [← HW1.out]
              obtain ⟨x, hx⟩ : ∃ x, x = ((k : Int) == (l.length : Int) - 1) := ⟨_, rfl⟩
              have hlast := Hlb.out x hx
              rw [← hx]
              clear hx
              cases hv with
              | false =>
                have hT := HT2.out
                rw [if_neg (by simp)] at hT
                cases hT
                go_wp2_with fail
                refine (Hhas.out _ HBo.out).mono ?_
                rintro e w4 ⟨rfl, hB⟩
                have HB4 := hid (bstep HBo.out hB)
                have u1 := cstep T1.out hB
                have hm4 := HM1.out.mono hB
                have HM4 := hid hm4
                clear hB o1 p1 t0 t1 hm4
                go_wp2
                go_ret3
                exact ⟨none, 0, rfl, IntsAt.nil _ _, fun _ => rfl, bstep HB3.out (bstep HB.out HB4.out)⟩
              | true =>
                rw [if_pos rfl] at HT2 HGo
                by_cases hth0 : th < 0
                · rw [if_pos hth0] at HT2 HGo
                  cases x with
                  | false =>
                    have hT := HT2.out
                    rw [if_neg (fun h => by have := hlast.2 h; cases this)] at hT
                    cases hT
                    clear hlast HT2
                    go_wp2_with fail
                    refine (Hhas.out _ HBo.out).mono ?_
                    rintro e w4 ⟨rfl, hB⟩
                    have HB4 := hid (bstep HBo.out hB)
                    have u1 := cstep T1.out hB
                    have hm4 := HM1.out.mono hB
                    have HM4 := hid hm4
                    clear hB o1 p1 t0 t1 hm4
                    go_wp2
                    go_ret3
                    exact ⟨none, 0, rfl, IntsAt.nil _ _, fun _ => rfl, bstep HB3.out (bstep HB.out HB4.out)⟩
                  | true =>
                    have hT := HT2.out
                    rw [if_pos (hlast.1 rfl)] at hT
                    cases hT
                    clear hlast HT2
                    go_wp2_with fail
                    refine (Hhas.out _ HBo.out).mono ?_
                    rintro e w4 ⟨rfl, hB⟩
                    have HB4 := hid (bstep HBo.out hB)
                    have u1 := cstep T1.out hB
                    have hm4 := HM1.out.mono hB
                    have HM4 := hid hm4
                    clear hB o1 p1 t0 t1 hm4
                    have o4 := HM4.out.ok; have p4 := HM4.out.part
                    rw [← HV2.out] at p4
                    have HLi := hid (list_c m w4 HM4.out.1)
                    unfold OwnP at HLi
                    rw [← HV2.out] at HLi
                    go_wp2_with fail
                    refine HLi.out.mono ?_
                    rintro e w5 ⟨ao, cp5, rfl, hat, hn, hB⟩
                    have HB5 := hid (bstep HB3.out (bstep HB.out (bstep HB4.out hB)))
                    clear hB
                    go_wp2
                    go_ret3
                    exact ⟨ao, cp5, rfl, hat, hn, HB5.out⟩
                · rw [if_neg hth0] at HGo
                  obtain ⟨t, rfl⟩ := Int.eq_ofNat_of_zero_le (show 0 ≤ th by omega)
                  rw [Int.toNat_natCast] at HGo
                  have ht12 : t < 12 := by omega
                  clear HT2
                  go_wp2_with fail
                  refine (Hhas.out _ HBo.out).mono ?_
                  rintro e w4 ⟨rfl, hB⟩
                  have HB4 := hid (bstep HBo.out hB)
                  have u1 := cstep T1.out hB
                  have hm4 := HM1.out.mono hB
                  have HM4 := hid hm4
                  clear hB o1 p1 t0 t1 hm4
                  have hcc4 : w4.cell? ⟨w3.heap.size, t, none⟩ = some (.int .i64 (nth m t)) := by
                    rw [cell_of_row _ _ _ _ _ _ HM4.out.2, List.getElem?_toArray, intv_get, if_pos (by rw [HM4.out.1]; exact ht12)]
                  have hfr4 : w4.frozen? ⟨w3.heap.size, t, none⟩ = false := frozen_of_row _ _ _ _ _ HM4.out.2
                  go_wp2
                  go_roundw
                  case rel => exact ⟨k + 1, m.set t 1, by omega, by go_num, ⟨by rw [List.length_set]; exact HM4.out.1, (heap_setCell_same w4 _ _ _ 78 _ HM4.out.2).trans (cellsSet (by unfold intv; rw [List.map_set]))⟩, HGo.out.symm, (HB.out.trans (HB4.out.mono HB.out.size)).setCell (Nat.le_refl _) _⟩
                  case measure => simp [intOf]; omega
            · obtain rfl : k = l.length := by omega
              have hT := HT2.out
              rw [← hgo, List.drop_length] at hT
              cases hT
              have o1 := Hm.out.ok; have p1 := Hm.out.part
              have HLi := hid (list_c m wo Hm.out.1)
              unfold OwnP at HLi
              obtain ⟨V2, hV2⟩ : ∃ V, V = (intv m).toArray := ⟨_, rfl⟩
              rw [← hV2] at p1 HLi
              clear hV2
              go_wp2_with fail
              refine HLi.out.mono ?_
              rintro e w4 ⟨ao, cp, rfl, hat, hn, hB⟩
              have HB5 := hid (bstep HB3.out (bstep HB.out hB))
              clear hB
              go_wp2
              go_ret3
              exact ⟨ao, cp, rfl, hat, hn, HB5.out⟩
  · rw [if_neg hz]
    have hcb := errB hz
    clear hc hz hW0 c0 c1 c2
    generalize caseErr facts seen rs = c at *
    go_enter Try.func30, Try.ntmps30
    go_wp2_with fail
    rw [← HS.out]
    refine (HCC.out _ HB0.out).mono ?_
    rintro e w1 ⟨rfl, hB⟩
    have HB1 := hid (bstep HB0.out hB)
    clear hB
    go_wp2
    go_ret3
    exact ⟨none, 0, rfl, IntsAt.nil _ _, fun _ => rfl, HB1.out⟩

end Go.Proofs.Ytkioejdddmnbmaa
