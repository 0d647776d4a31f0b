/- Walks: Truths; Least, Count, factError, Verdict of the reference. -/
import Derived.Test.YtkioejdddmnbmaaSb
import Derived.Test.YtkioejdddmnbmaaDd
namespace Go.Proofs.Ytkioejdddmnbmaa
open Go.RowKit Go.Shelf
attribute [local go_sem ↓] wp_get wp_get0 wp_getS wp78 wps78 wpa78

theorem selTo_eq (p : Nat → Bool) : ∀ k, selTo p k = ((List.range k).filter p).map (fun n : Nat => (n : Int))
  | 0 => rfl
  | k + 1 => by
    rw [selTo, List.range_succ, List.filter_append, List.map_append, ← selTo_eq p k]
    cases h : p k
    · rw [if_neg (by simp)]; simp [h]
    · rw [if_pos rfl]; simp [h]
def truthsN (facts : Nat) (seen : List Int) (rs : List Rl) : List Nat := (List.range (2 ^ facts)).filter (truthB seen rs)
theorem truthsL_eq (facts : Nat) (seen : List Int) (rs : List Rl) : truthsL facts seen rs = (truthsN facts seen rs).map (fun n : Nat => (n : Int)) := selTo_eq _ _
theorem truthsN_lt {facts : Nat} {seen : List Int} {rs : List Rl} {x : Nat} (h : x ∈ truthsN facts seen rs) : x < 2 ^ facts := List.mem_range.1 (List.mem_filter.1 h).1
theorem pow_le {f : Nat} (h : f ≤ 12) : 2 ^ f ≤ 4096 := Nat.pow_le_pow_right (by omega) h
theorem truthsL_length (facts : Nat) (seen : List Int) (rs : List Rl) : (truthsL facts seen rs).length = (truthsN facts seen rs).length := by rw [truthsL_eq, List.length_map]
theorem truthsN_length {facts : Nat} (h : facts ≤ 12) (seen : List Int) (rs : List Rl) : (truthsN facts seen rs).length ≤ 4096 := by
  rw [← truthsL_length]
  exact Nat.le_trans (selTo_length _ _) (pow_le h)

theorem shl_one {f : Nat} (h : f ≤ 12) : IntKind.i64.wrap (2 ^ f) = ((2 ^ f : Nat) : Int) := by
  have := wrap_i64_nat (a := 2 ^ f) (by have := pow_le h; omega)
  rw [← this]; simp

set_option maxRecDepth 100000 in
set_option maxHeartbeats 2000000 in
theorem truths_c (sa ra : Option Addr) (sc rc f : Nat) (seen : List Int) (rs : List Rl) (w : World) (hc : CaseAt w sa ra seen rs) (hf : f ≤ 12) (hsf : factsOk seen) (hro : rulesOk rs) :
    Calls Try.prog 66 #[.agg #[.int .i64 f, .slice sa seen.length sc, .slice ra rs.length rc]] w (OwnP w (truthsL f seen rs)) := by
  obtain ⟨W0, hW0⟩ : ∃ W0, W0 = w.alloc (.cells #[.int .i64 f, .slice sa seen.length sc, .slice ra rs.length rc] 25) := ⟨_, rfl⟩
  have HB0 := hid (show Below w.heap.size w W0 by rw [hW0]; exact bnew w _)
  obtain ⟨c0, c1, c2⟩ := caseBox w f sa ra seen.length sc rs.length rc
  rw [← hW0] at c0 c1 c2
  have C0 := hid c0; have C1 := hid c1; have C2 := hid c2
  have HT := hid fun (b : Nat) (w' : World) (h : Below w.heap.size w w') (hb : b < 2 ^ 12) => isTruthR_c sa ra sc rc f seen rs b w' (hc.s.mono h) (hc.r.mono h) hc.sl hc.rl hsf hro hb
  have HS := hid hW0
  have hpw := pow_le hf
  have hsh := shl_one hf
  have htl : truthsL f seen rs = selTo (truthB seen rs) (2 ^ f) := rfl
  unfold OwnP
  rw [htl]
  obtain ⟨P, hP⟩ : ∃ P : Nat, P = 2 ^ f := ⟨_, rfl⟩
  rw [← hP] at hpw hsh ⊢
  have hf64 : (f : Int) < 64 := by omega
  clear hc hsf hro hW0 c0 c1 c2 htl hP
  unfold TellB at HT
  go_enter Try.func66, Try.ntmps66
  go_wp2
  rw [← HS.out]
  go_loopw [3, 4] (fun o i wr => ∃ (k : Nat) (ao : Option Addr) (cap : Nat), k ≤ P ∧ i = .int .i64 k ∧ o = .slice ao (selTo (truthB seen rs) k).length cap ∧ OwnI W0.heap.size wr ao (selTo (truthB seen rs) k).length cap (selTo (truthB seen rs) k) ∧ Below W0.heap.size W0 wr) (fun _ i _ => P - (intOf i).toNat)
  case atStart => exact ⟨0, none, 0, Nat.zero_le _, rfl, rfl, OwnI.nil _ _, Below.refl _ _⟩
  case round =>
    obtain ⟨k, ao, cap, hk, rfl, rfl, hown, hB⟩ := hrel
    obtain ⟨wo, rfl⟩ : ∃ wo : World, wo = wr := ⟨_, rfl⟩
    have hlen := selTo_length (truthB seen rs) k
    have d0 := cstep C0.out hB; have d1 := cstep C1.out hB; have d2 := cstep C2.out hB
    have HBw := hid (bstep HB0.out hB)
    by_cases hlt : k < P
    · have ht : selTo (truthB seen rs) (k + 1) = if truthB seen rs k = true then selTo (truthB seen rs) k ++ [(k : Int)] else selTo (truthB seen rs) k := rfl
      have HTk := hid (HT.out k wo HBw.out (by omega))
      obtain ⟨l, hl⟩ : ∃ l, l = selTo (truthB seen rs) k := ⟨_, rfl⟩
      rw [← hl] at ht hown hlen ⊢
      have Hown := hid hown; have HB := hid hB
      clear hown hB hl
      cases htb : truthB seen rs k with
      | true =>
        rw [htb, if_pos rfl] at ht
        rw [htb] at HTk
        have Ht := hid ht
        clear ht htb
        go_wp2_with fail
        refine HTk.out.mono ?_
        rintro e w1 ⟨rfl, hB1⟩
        have HB1 := hid hB1
        have Hown1 := hid (Hown.out.kept hB1)
        clear hB1
        go_wp2_with (at_builtin; refine wpList_app_own _ rfl _ _ rfl W0.heap.size ao l.length cap l rfl ?c1 _ (k : Int) rfl ?c2 ?c3 ?c4 ?c5; rotate_right; (intro b' cap' w' hB' hb' hown' hgr'; refine Hid.out ?_))
        case c1 => exact Hown1.out.alloc _
        case c2 => simp
        case c3 => omega
        case c4 => have := (bstep HB.out HB1.out).size; simp; omega
        case c5 =>
          refine hid ?_
          have Hown' := hid hown'
          have HB' := hid (HB.out.trans ((HB1.out.mono HB.out.size).trans (((bnew w1 (.cells #[.int .i64 k] 3)).mono (bstep HB.out HB1.out).size).trans hB')))
          clear hown' hB' hgr'
          go_wp2
          go_roundw
          case rel => exact ⟨k + 1, some ⟨b', 0, none⟩, cap', by omega, by go_num, by rw [Ht.out, List.length_append]; rfl, by rw [Ht.out, List.length_append]; exact Hown'.out, HB'.out⟩
          case measure => simp [intOf]; omega
      | false =>
        rw [htb, if_neg (by simp)] at ht
        rw [htb] at HTk
        have Ht := hid ht
        clear ht htb
        go_wp2_with fail
        refine HTk.out.mono ?_
        rintro e w1 ⟨rfl, hB1⟩
        have HB1 := hid hB1
        have Hown1 := hid (Hown.out.kept hB1)
        clear hB1
        go_wp2
        go_roundw
        case rel => exact ⟨k + 1, ao, cap, by omega, by go_num, by rw [Ht.out], by rw [Ht.out]; exact Hown1.out, bstep HB.out HB1.out⟩
        case measure => simp [intOf]; omega
    · obtain rfl : k = P := by omega
      go_wp2
      go_ret
      exact ⟨ao, cap, rfl, hown.at, fun h => (hown.none h).2, HBw.out⟩

theorem rcc (sa ra : Option Addr) (sc rc : Nat) (facts : Int) (seen : List Int) (rs : List Rl) (w : World) (hc : CaseAt w sa ra seen rs) :
    Calls Try.prog 20 #[.agg #[.int .i64 facts, .slice sa seen.length sc, .slice ra rs.length rc]] w fun e w' => e = .returned (.int .i64 (caseErr facts seen rs)) ∧ Below w.heap.size w w' :=
  rCheckCase_c sa ra sc rc facts seen rs w hc.s hc.r hc.sl hc.rl hc.il

theorem case_nat {facts : Int} {seen : List Int} {rs : List Rl} (h : caseErr facts seen rs = 0) : ∃ f : Nat, facts = f ∧ 1 ≤ f ∧ f ≤ 12 := by
  obtain ⟨⟨f0, f1⟩, _⟩ := case_zero h
  exact ⟨facts.toNat, by omega, by omega, by omega⟩
theorem case_seen {facts : Int} {seen : List Int} {rs : List Rl} (h : caseErr facts seen rs = 0) : factsOk seen := by
  obtain ⟨⟨f0, f1⟩, _, h2, _⟩ := case_zero h
  exact rising_facts f1 h2

/-- a list and an error are handed back -/
def ListE (w : World) (xs : List Int) (er : Int) (e : Ending) (w' : World) : Prop :=
  ∃ ao cap, e = .returned (.tuple #[.slice ao xs.length cap, .int .i64 er]) ∧ IntsAt w' ao xs ∧ (ao = none → cap = 0) ∧ Below w.heap.size w w'

def rLeastE (facts : Int) (seen : List Int) (rs : List Rl) : Int := if caseErr facts seen rs = 0 then (if truthsN facts.toNat seen rs = [] then 24 else 0) else caseErr facts seen rs
def rLeastL (facts : Int) (seen : List Int) (rs : List Rl) : List Int :=
  if caseErr facts seen rs = 0 then (if truthsN facts.toNat seen rs = [] then [] else listedB ((truthsN facts.toNat seen rs).foldl (· &&& ·) 4095) facts.toNat) else []

theorem errB {x : Int} (h : x ≠ 0) : (x != 0) = true := by simpa using h

set_option maxRecDepth 100000 in
set_option maxHeartbeats 2000000 in
theorem rLeast_c (sa ra : Option Addr) (sc rc : Nat) (facts : Int) (seen : List Int) (rs : List Rl) (w : World) (hc : CaseAt w sa ra seen rs) :
    Calls Try.prog 24 #[.agg #[.int .i64 facts, .slice sa seen.length sc, .slice ra rs.length rc]] w (ListE w (rLeastL facts seen rs) (rLeastE facts seen rs)) := by
  obtain ⟨W0, hW0⟩ : ∃ W0, W0 = w.alloc (.cells #[.int .i64 facts, .slice sa seen.length sc, .slice ra rs.length rc] 25) := ⟨_, rfl⟩
  have HB0 := hid (show Below w.heap.size w W0 by rw [hW0]; exact bnew w _)
  obtain ⟨c0, c1, c2⟩ := caseBox w facts sa ra seen.length sc rs.length rc
  rw [← hW0] at c0 c1 c2
  have C0 := hid c0; have C1 := hid c1; have C2 := hid c2
  have HS := hid hW0
  have HC := hid fun (w' : World) (h : Below w.heap.size w w') => rcc sa ra sc rc facts seen rs w' (hc.mono h)
  unfold ListE rLeastL rLeastE
  by_cases hz : caseErr facts seen rs = 0
  · rw [if_pos hz, if_pos hz]
    obtain ⟨f, rfl, hf1, hf2⟩ := case_nat hz
    have HT := hid fun (w' : World) (h : Below w.heap.size w w') => truths_c sa ra sc rc f seen rs w' (hc.mono h) hf2 (case_seen hz) (case_rules hz hc.il)
    rw [hz] at HC
    rw [Int.toNat_natCast]
    unfold OwnP at HT
    rw [truthsL_eq] at HT
    have hlt := fun x (hx : x ∈ truthsN f seen rs) => truthsN_lt hx
    have hln := truthsN_length hf2 seen rs
    have hml : ((truthsN f seen rs).map (fun n : Nat => (n : Int))).length = (truthsN f seen rs).length := by simp
    rw [hml] at HT
    obtain ⟨l, hl⟩ : ∃ l, l = truthsN f seen rs := ⟨_, rfl⟩
    rw [← hl] at hlt hln HT ⊢
    have Hlt := hid hlt; have Hln := hid hln
    clear hc hz hW0 c0 c1 c2 hlt hln hml hl
    by_cases hnil : l = []
    · rw [if_pos hnil, if_pos hnil]
      subst hnil
      go_enter Try.func24, Try.ntmps24
      go_wp2_with fail
      rw [← HS.out]
      refine (HC.out _ HB0.out).mono ?_
      rintro e w1 ⟨rfl, hB⟩
      have HB1 := hid (bstep HB0.out hB)
      have d0 := cstep C0.out hB; have d1 := cstep C1.out hB; have d2 := cstep C2.out hB
      clear hB
      go_wp2_with fail
      refine (HT.out _ HB1.out).mono ?_
      rintro e w2 ⟨ao, cap, rfl, hat, hn, hB⟩
      have HB2 := hid (bstep HB1.out hB)
      clear hB
      go_wp2
      go_ret2
      exact ⟨none, 0, rfl, IntsAt.nil _ _, fun _ => rfl, HB2.out⟩
    · rw [if_neg hnil, if_neg hnil]
      have hpos : 0 < l.length := List.length_pos_iff.2 hnil
      have hne : ((l.length : Int) == 0) = false := by simp; omega
      have hne2 : ¬ ((l.length : Int) = 0) := by omega
      have HA := hid fun (a : Option Addr) (cap : Nat) (w' : World) (h : IntsAt w' a (l.map (fun n : Nat => (n : Int)))) => all_c a cap l w' h (by have := Hln.out; omega) (fun x hx => by have := Hlt.out x hx; have := pow_le hf2; omega)
      have hfo : l.foldl (· &&& ·) 4095 < 2 ^ 62 := by
        have key : ∀ (l : List Nat) (a : Nat), a < 2 ^ 12 → l.foldl (· &&& ·) a < 2 ^ 12 := by
          intro l
          induction l with
          | nil => intro a h; exact h
          | cons x l ih => intro a h; exact ih _ (Nat.lt_of_le_of_lt Nat.and_le_left h)
        have := key l 4095 (by decide)
        omega
      have HL := hid fun (w' : World) => listed_c (l.foldl (· &&& ·) 4095) f w' (by omega) hfo
      unfold OwnP at HL
      obtain ⟨q, hq⟩ : ∃ q, q = l.foldl (· &&& ·) 4095 := ⟨_, rfl⟩
      rw [← hq] at HL HA ⊢
      obtain ⟨n, hn⟩ : ∃ n, n = l.length := ⟨_, rfl⟩
      rw [← hn] at HT HA hne hne2 hpos
      clear hnil hfo hq hn
      go_enter Try.func24, Try.ntmps24
      go_wp2_with fail
      rw [← HS.out]
      refine (HC.out _ HB0.out).mono ?_
      rintro e w1 ⟨rfl, hB⟩
      have HB1 := hid (bstep HB0.out hB)
      have d0 := cstep C0.out hB; have d1 := cstep C1.out hB; have d2 := cstep C2.out hB
      have D0 := hid d0
      clear hB
      go_wp2_with fail
      refine (HT.out _ HB1.out).mono ?_
      rintro e w2 ⟨ao, cap, rfl, hat, hn, hB⟩
      have HB2 := hid (bstep HB1.out hB)
      have e0 := cstep D0.out hB
      have Hat := hid hat
      clear hB hat d0 d1 d2 hn
      go_wp2_with fail
      go_region_with (first | (go_at_call 67; (with_reducible refine (HA.out _ _ _ (by first | exact Hat.out | exact Hat.out.mono (Below.refl _ _).drew)).mono ?_); rintro e w3 ⟨rfl, hw3⟩; subst hw3) | (go_at_call 45; (with_reducible refine (HL.out _).mono ?_); rintro e w4 ⟨ao2, cap2, rfl, hat2, hn2, hB2⟩; have hBl : Below w.heap.size w w4 := by first | exact bstep HB2.out hB2 | exact bstep HB2.out.drew hB2))
      all_goals (
        go_wp2
        go_ret2
        exact ⟨_, _, rfl, hat2, hn2, hBl⟩)
  · rw [if_neg hz, if_neg hz]
    have hcb := errB hz
    clear hc hz hW0 c0 c1 c2
    generalize caseErr facts seen rs = c at *
    go_enter Try.func24, Try.ntmps24
    go_wp2_with fail
    rw [← HS.out]
    refine (HC.out _ HB0.out).mono ?_
    rintro e w1 ⟨rfl, hB⟩
    have HB1 := hid (bstep HB0.out hB)
    have d0 := cstep C0.out hB; have d1 := cstep C1.out hB; have d2 := cstep C2.out hB
    clear hB
    go_wp2_with fail
    refine (HC.out _ HB1.out).mono ?_
    rintro e w2 ⟨rfl, hB⟩
    go_wp2
    go_ret2
    exact ⟨none, 0, rfl, IntsAt.nil _ _, fun _ => rfl, bstep HB1.out hB⟩

/-- a number and an error are handed back -/
def NumE (w : World) (n er : Int) (e : Ending) (w' : World) : Prop := e = .returned (.tuple #[.int .i64 n, .int .i64 er]) ∧ Below w.heap.size w w'
def rCountN (facts : Int) (seen : List Int) (rs : List Rl) : Int := if caseErr facts seen rs = 0 then ((truthsN facts.toNat seen rs).length : Int) else 0

set_option maxRecDepth 100000 in
set_option maxHeartbeats 2000000 in
theorem rCount_c (sa ra : Option Addr) (sc rc : Nat) (facts : Int) (seen : List Int) (rs : List Rl) (w : World) (hc : CaseAt w sa ra seen rs) :
    Calls Try.prog 26 #[.agg #[.int .i64 facts, .slice sa seen.length sc, .slice ra rs.length rc]] w (NumE w (rCountN facts seen rs) (caseErr facts seen rs)) := by
  obtain ⟨W0, hW0⟩ : ∃ W0, W0 = w.alloc (.cells #[.int .i64 facts, .slice sa seen.length sc, .slice ra rs.length rc] 25) := ⟨_, rfl⟩
  have HB0 := hid (show Below w.heap.size w W0 by rw [hW0]; exact bnew w _)
  obtain ⟨c0, c1, c2⟩ := caseBox w facts sa ra seen.length sc rs.length rc
  rw [← hW0] at c0 c1 c2
  have C0 := hid c0; have C1 := hid c1; have C2 := hid c2
  have HS := hid hW0
  have HC := hid fun (w' : World) (h : Below w.heap.size w w') => rcc sa ra sc rc facts seen rs w' (hc.mono h)
  unfold NumE rCountN
  by_cases hz : caseErr facts seen rs = 0
  · rw [if_pos hz]
    obtain ⟨f, rfl, hf1, hf2⟩ := case_nat hz
    have HT := hid fun (w' : World) (h : Below w.heap.size w w') => truths_c sa ra sc rc f seen rs w' (hc.mono h) hf2 (case_seen hz) (case_rules hz hc.il)
    rw [hz] at HC ⊢
    rw [Int.toNat_natCast]
    unfold OwnP at HT
    rw [truthsL_length] at HT
    generalize (truthsN f seen rs).length = n at *
    generalize truthsL f seen rs = l at *
    clear hc hz hW0 c0 c1 c2
    go_enter Try.func26, Try.ntmps26
    go_wp2_with fail
    rw [← HS.out]
    refine (HC.out _ HB0.out).mono ?_
    rintro e w1 ⟨rfl, hB⟩
    have HB1 := hid (bstep HB0.out hB)
    have d0 := cstep C0.out hB; have d1 := cstep C1.out hB; have d2 := cstep C2.out hB
    clear hB
    go_wp2_with fail
    refine (HT.out _ HB1.out).mono ?_
    rintro e w2 ⟨ao, cap, rfl, hat, hn, hB⟩
    have HB2 := hid (bstep HB1.out hB)
    clear hB hat
    go_wp2
    go_ret2
    exact ⟨rfl, HB2.out⟩
  · rw [if_neg hz]
    have hcb := errB hz
    clear hc hz hW0 c0 c1 c2
    generalize caseErr facts seen rs = c at *
    go_enter Try.func26, Try.ntmps26
    go_wp2_with fail
    rw [← HS.out]
    refine (HC.out _ HB0.out).mono ?_
    rintro e w1 ⟨rfl, hB⟩
    have HB1 := hid (bstep HB0.out hB)
    have d0 := cstep C0.out hB; have d1 := cstep C1.out hB; have d2 := cstep C2.out hB
    clear hB
    go_wp2_with fail
    refine (HC.out _ HB1.out).mono ?_
    rintro e w2 ⟨rfl, hB⟩
    go_wp2
    go_ret2
    exact ⟨rfl, bstep HB1.out hB⟩

def factErr (facts : Int) (seen : List Int) (rs : List Rl) (x : Int) : Int := if caseErr facts seen rs = 0 then (if 0 ≤ x ∧ x < facts then 0 else 2) else caseErr facts seen rs

set_option maxRecDepth 100000 in
set_option maxHeartbeats 2000000 in
theorem factErr_c (sa ra : Option Addr) (sc rc : Nat) (facts : Int) (seen : List Int) (rs : List Rl) (x : Int) (w : World) (hc : CaseAt w sa ra seen rs) :
    Calls Try.prog 71 #[.agg #[.int .i64 facts, .slice sa seen.length sc, .slice ra rs.length rc], .int .i64 x] w fun e w' => e = .returned (.int .i64 (factErr facts seen rs x)) ∧ Below w.heap.size w w' := by
  obtain ⟨W0, hW0⟩ : ∃ W0, W0 = w.alloc (.cells #[.int .i64 facts, .slice sa seen.length sc, .slice ra rs.length rc] 25) := ⟨_, rfl⟩
  have HB0 := hid (show Below w.heap.size w W0 by rw [hW0]; exact bnew w _)
  obtain ⟨c0, c1, c2⟩ := caseBox w facts sa ra seen.length sc rs.length rc
  rw [← hW0] at c0 c1 c2
  have C0 := hid c0; have C1 := hid c1; have C2 := hid c2
  have HS := hid hW0
  have HC := hid fun (w' : World) (h : Below w.heap.size w w') => rcc sa ra sc rc facts seen rs w' (hc.mono h)
  unfold factErr
  by_cases hz : caseErr facts seen rs = 0
  · rw [if_pos hz]
    rw [hz] at HC
    clear hc hz hW0 c0 c1 c2
    by_cases h0 : x < 0
    · rw [if_neg (by omega)]
      go_enter Try.func71, Try.ntmps71
      go_wp2_with fail
      rw [← HS.out]
      refine (HC.out _ HB0.out).mono ?_
      rintro e w1 ⟨rfl, hB⟩
      have HB1 := hid (bstep HB0.out hB)
      have d0 := cstep C0.out hB; have d1 := cstep C1.out hB; have d2 := cstep C2.out hB
      clear hB
      go_wp2
      go_ret
      exact ⟨rfl, HB1.out⟩
    · by_cases h1 : x < facts
      · rw [if_pos (by omega)]
        have h2 : ¬ facts ≤ x := by omega
        go_enter Try.func71, Try.ntmps71
        go_wp2_with fail
        rw [← HS.out]
        refine (HC.out _ HB0.out).mono ?_
        rintro e w1 ⟨rfl, hB⟩
        have HB1 := hid (bstep HB0.out hB)
        have d0 := cstep C0.out hB; have d1 := cstep C1.out hB; have d2 := cstep C2.out hB
        clear hB
        go_wp2
        go_ret
        exact ⟨rfl, HB1.out⟩
      · rw [if_neg (by omega)]
        have h2 : facts ≤ x := by omega
        go_enter Try.func71, Try.ntmps71
        go_wp2_with fail
        rw [← HS.out]
        refine (HC.out _ HB0.out).mono ?_
        rintro e w1 ⟨rfl, hB⟩
        have HB1 := hid (bstep HB0.out hB)
        have d0 := cstep C0.out hB; have d1 := cstep C1.out hB; have d2 := cstep C2.out hB
        clear hB
        go_wp2
        go_ret
        exact ⟨rfl, HB1.out⟩
  · rw [if_neg hz]
    have hcb := errB hz
    clear hc hz hW0 c0 c1 c2
    generalize caseErr facts seen rs = c at *
    go_enter Try.func71, Try.ntmps71
    go_wp2_with fail
    rw [← HS.out]
    refine (HC.out _ HB0.out).mono ?_
    rintro e w1 ⟨rfl, hB⟩
    have HB1 := hid (bstep HB0.out hB)
    have d0 := cstep C0.out hB; have d1 := cstep C1.out hB; have d2 := cstep C2.out hB
    clear hB
    go_wp2_with fail
    refine (HC.out _ HB1.out).mono ?_
    rintro e w2 ⟨rfl, hB⟩
    go_wp2
    go_ret
    exact ⟨rfl, bstep HB1.out hB⟩

end Go.Proofs.Ytkioejdddmnbmaa
