/- Walks of the reference: IsTruth, CheckTruth. -/
import Derived.Test.YtkioejdddmnbmaaRa
import Derived.Test.YtkioejdddmnbmaaMb
namespace Go.Proofs.Ytkioejdddmnbmaa
open Go.RowKit Go.Shelf

theorem allR_take_succ (p : Rl → Bool) {rs : List Rl} {k : Nat} (h : k < rs.length) : (rs.take (k + 1)).all p = ((rs.take k).all p && p (nthR rs k)) := by
  rw [List.take_succ_eq_append_getElem h, List.all_append]
  unfold nthR
  rw [List.getD_eq_getElem?_getD, List.getElem?_eq_getElem h]
  simp

theorem allR_false {p : Rl → Bool} {rs : List Rl} {k : Nat} (h : k < rs.length) (hp : p (nthR rs k) = false) : rs.all p = false := by
  cases hh : rs.all p with
  | false => rfl
  | true => have := List.all_eq_true.1 hh _ (nthR_mem h); rw [hp] at this; cases this

set_option maxRecDepth 100000 in
set_option maxHeartbeats 2000000 in
theorem isTruthR_c (sa ra : Option Addr) (sc rc : Nat) (facts : Int) (seen : List Int) (rs : List Rl) (b : Nat) (w : World) (hs : IntsAt w sa seen) (hr : RulesAt w ra rs) (hsl : seen.length ≤ 1000000) (hrl : rs.length ≤ 1000000)
    (hsf : factsOk seen) (hro : rulesOk rs) (hb : b < 2 ^ 12) :
    Calls Try.prog 64 #[.agg #[.int .i64 facts, .slice sa seen.length sc, .slice ra rs.length rc], .int .i64 b] w (TellB w (truthB seen rs b)) := by
  obtain ⟨W0, hW0⟩ : ∃ W0, W0 = w.alloc (.cells #[.int .i64 facts, .slice sa seen.length sc, .slice ra rs.length rc] 25) := ⟨_, rfl⟩
  have HB0 := hid (show Below w.heap.size w W0 by rw [hW0]; exact bnew w _)
  have C2 := hid (show W0.cell? ⟨w.heap.size, 2, none⟩ = some (.slice ra rs.length rc) by rw [hW0]; simp [go_sem])
  have HBi := hid (bits_c sa sc seen W0 (hs.mono HB0.out) hsl hsf)
  have HR := hid fun (w' : World) (h : Below W0.heap.size W0 w') => (hr.mono HB0.out).mono h
  have HK := hid fun (i : Nat) (hi : i < rs.length) (a : Option Addr) (c : Nat) (w' : World) (hat : IntsAt w' a (nthR rs i).1) => keeps_c a c (nthR rs i) b w' hat (hro i hi).2.1 (hro i hi).1 (hro i hi).2.2.2 hb
  have hq := bitsL_lt hsf
  have ht : truthB seen rs b = ((b &&& bitsL seen == bitsL seen) && rs.all (keepsB b)) := rfl
  rw [ht]
  unfold TellB
  obtain ⟨q, hqe⟩ : ∃ q, q = bitsL seen := ⟨_, rfl⟩
  rw [← hqe] at HBi hq ⊢
  have hand := bits_and_i64 (a := b) (b := q) (by omega) (by omega)
  have HS := hid hW0
  clear hs hr hsl hsf hro ht hqe hW0
  by_cases he : b &&& q = q
  · have e1 : (b &&& q == q) = true := by simpa using he
    rw [e1, Bool.true_and]
    rw [he] at hand
    clear he e1
    obtain ⟨R, hR⟩ : ∃ R, R = rs.all (keepsB b) := ⟨_, rfl⟩
    rw [← hR]
    have HRs := hid hR
    clear hR
    go_enter Try.func64, Try.ntmps64
    go_wp2_with fail
    rw [← HS.out]
    refine HBi.out.mono ?_
    rintro e w1 ⟨rfl, hw1⟩
    cases hw1
    clear HS HBi
    go_wp2
    go_loopw [6] (fun i wr => ∃ k : Nat, k ≤ rs.length ∧ i = .int .i64 k ∧ (rs.take k).all (keepsB b) = true ∧ Below W0.heap.size W0 wr) (fun i _ => rs.length - (intOf i).toNat)
    case atStart => exact ⟨0, Nat.zero_le _, rfl, rfl, Below.refl _ _⟩
    case round =>
      obtain ⟨k, hk, rfl, hp, hB⟩ := hrel
      obtain ⟨wo, rfl⟩ : ∃ wo : World, wo = wr := ⟨_, rfl⟩
      have Hp := hid hp; have HB := hid hB
      have d2 := cstep C2.out hB
      clear hp hB
      by_cases hlt : k < rs.length
      · obtain ⟨bb, off, a, c, rfl, hra⟩ := (HR.out _ HB.out).at hlt
        have Ht := hid (allR_take_succ (keepsB b) hlt)
        have hk2 := HK.out k hlt a c wo hra.at'
        have q0 := hra.cI
        have q1 := hra.cT
        obtain ⟨th, hth⟩ : ∃ t, t = (nthR rs k).2 := ⟨_, rfl⟩
        obtain ⟨n, hn⟩ : ∃ n, n = (nthR rs k).1.length := ⟨_, rfl⟩
        rw [← hth, ← hn] at hk2
        rw [← hn] at q0
        rw [← hth] at q1
        have Hk2 := hid hk2
        clear hk2 hra hth hn
        cases hpk : keepsB b (nthR rs k) with
        | true =>
          rw [hpk] at Hk2
          have Hpk := hid hpk; clear hpk
          go_wp2_with fail
          refine Hk2.out.mono ?_
          rintro e w' ⟨rfl, hB⟩
          have HB1 := hid (bstep HB.out hB)
          clear hB
          go_wp2
          go_roundw
          case rel => exact ⟨k + 1, by omega, by go_num, by rw [Ht.out, Hp.out, Hpk.out]; rfl, HB1.out⟩
          case measure => simp [intOf]; omega
        | false =>
          rw [hpk] at Hk2
          have Hpk := hid (allR_false hlt hpk); clear hpk
          go_wp2_with fail
          refine Hk2.out.mono ?_
          rintro e w' ⟨rfl, hB⟩
          have HB1 := hid (bstep HB0.out (bstep HB.out hB))
          clear hB
          go_wp2
          go_ret
          exact ⟨ret_bool (by rw [HRs.out, Hpk.out]), HB1.out⟩
      · obtain rfl : k = rs.length := by omega
        have hall : rs.all (keepsB b) = true := by
          have hp := Hp.out
          rw [List.take_of_length_le (by omega)] at hp
          exact hp
        have Hall := hid hall
        clear hall
        go_wp2
        go_ret
        exact ⟨ret_bool (by rw [HRs.out, Hall.out]), bstep HB0.out HB.out⟩
  · have e1 : (b &&& q == q) = false := by simpa using he
    rw [e1, Bool.false_and]
    have hne : (((b &&& q : Nat) : Int) != (q : Int)) = true := by simp; omega
    have hne2 : ¬ ((b &&& q : Nat) : Int) = (q : Int) := by omega
    obtain ⟨u, hu⟩ : ∃ u, u = b &&& q := ⟨_, rfl⟩
    rw [← hu] at hand hne hne2
    clear he e1 hu
    go_enter Try.func64, Try.ntmps64
    go_wp2_with fail
    rw [← HS.out]
    refine HBi.out.mono ?_
    rintro e w1 ⟨rfl, hw1⟩
    cases hw1
    go_wp2
    go_ret
    exact ⟨rfl, HB0.out⟩


theorem rising_facts {facts : Int} {l : List Int} (hf : facts ≤ 12) (h : rising facts l = true) : factsOk l := by
  have key : ∀ k, k < l.length → 0 ≤ nth l k ∧ nth l k ≤ facts - 1 := by
    intro k
    induction k with
    | zero =>
      intro hk
      have := List.all_eq_true.1 h 0 (List.mem_range.2 hk)
      have h2 := within_one.1 this
      exact h2
    | succ k ih =>
      intro hk
      have h1 := ih (by omega)
      have := List.all_eq_true.1 h (k + 1) (List.mem_range.2 hk)
      have h2 := within_one.1 this
      have h3 : nextAt l (k + 1) = nth l k + 1 := by unfold nextAt; rw [if_neg (by omega)]; rfl
      rw [h3] at h2
      omega
  intro k hk
  have := key k hk
  omega

theorem case_zero {facts : Int} {seen : List Int} {rs : List Rl} (h : caseErr facts seen rs = 0) : (1 ≤ facts ∧ facts ≤ 12) ∧ rs.length ≤ 14 ∧ rising facts seen = true ∧ rs.all (ruleOk facts) = true := by
  unfold caseErr at h
  split at h
  · rename_i h1
    rw [Bool.and_eq_true] at h1
    split at h
    · rename_i h2
      rw [Bool.and_eq_true] at h2
      exact ⟨within_one.1 h1.1, of_decide_eq_true h1.2, h2.1, h2.2⟩
    · cases h
  · cases h

theorem case_rules {facts : Int} {seen : List Int} {rs : List Rl} (h : caseErr facts seen rs = 0) (hl : ∀ i, i < rs.length → (nthR rs i).1.length ≤ 1000000) : rulesOk rs := by
  obtain ⟨⟨f0, f1⟩, _, _, ha⟩ := case_zero h
  intro i hi
  have := List.all_eq_true.1 ha _ (nthR_mem hi)
  unfold ruleOk at this
  rw [Bool.and_eq_true] at this
  have h2 := within_one.1 this.2
  exact ⟨rising_facts f1 this.1, hl i hi, h2.1, by omega⟩

theorem bitsTo_test (l : List Int) (c : Nat) : ∀ k, (bitsTo l k).testBit c = (List.range k).any (fun i => (nth l i).toNat == c)
  | 0 => by simp [bitsTo]
  | k + 1 => by
    rw [bitsTo, Nat.testBit_or, bitsTo_test l c k, Nat.testBit_two_pow, List.range_succ, List.any_append]
    simp only [List.any_cons, List.any_nil, Bool.or_false]
    congr 1

theorem markTo_nth (l : List Int) {c : Nat} (hc : c < 12) : ∀ k, nth (markTo l k) c = if (bitsTo l k).testBit c then 1 else 0
  | 0 => by
    rw [markTo, bitsTo]
    unfold nth
    rw [List.getD_eq_getElem?_getD, List.getElem?_replicate, if_pos hc]
    simp
  | k + 1 => by
    rw [markTo, bitsTo, Nat.testBit_or, Nat.testBit_two_pow]
    unfold nth
    rw [List.getD_eq_getElem?_getD, List.getElem?_set]
    by_cases e : (nth l k).toNat = c
    · have e' : (l.getD k 0).toNat = c := e
      rw [if_pos e', if_pos (by rw [markTo_length]; omega)]
      rw [decide_eq_true e', Bool.or_true, if_pos rfl]; rfl
    · have e' : ¬ (l.getD k 0).toNat = c := e
      rw [if_neg e', decide_eq_false e', Bool.or_false]
      have ih := markTo_nth l hc k
      unfold nth at ih
      rw [List.getD_eq_getElem?_getD] at ih
      exact ih

theorem has_bits {t l : List Int} (hl : factsOk l) : hasM (markL t) l = (bitsL t &&& bitsL l == bitsL l) := by
  have hz : ∀ k, k < l.length → (zeroAt (markL t) (nth l k) = !(bitsL t).testBit (nth l k).toNat) := by
    intro k hk
    obtain ⟨h0, h1⟩ := hl k hk
    unfold zeroAt markL bitsL
    rw [markTo_nth t (by omega)]
    cases (bitsTo t t.length).testBit (nth l k).toNat <;> rfl
  rw [Bool.eq_iff_iff]
  constructor
  · intro h
    rw [beq_iff_eq]
    refine Nat.eq_of_testBit_eq (fun c => ?_)
    rw [Nat.testBit_and]
    cases hb : (bitsL l).testBit c with
    | false => simp
    | true =>
      unfold bitsL at hb
      rw [bitsTo_test] at hb
      obtain ⟨i, hi, he⟩ := List.any_eq_true.1 hb
      have hi' := List.mem_range.1 hi
      have he' : (nth l i).toNat = c := by simpa using he
      unfold hasM at h
      have hn : l.any (zeroAt (markL t)) = false := by simpa using h
      have hne := List.any_eq_false.1 hn (nth l i) (nth_mem hi')
      rw [hz i hi', he'] at hne
      simpa using hne
  · intro h
    rw [beq_iff_eq] at h
    unfold hasM
    rw [Bool.not_eq_true']
    refine List.any_eq_false.2 (fun x hx => ?_)
    obtain ⟨k, hk, rfl⟩ := List.getElem_of_mem hx
    have hx2 : l[k] = nth l k := (nth_eq hk).symm
    rw [hx2, hz k hk]
    have hb : (bitsL l).testBit (nth l k).toNat = true := by
      unfold bitsL
      rw [bitsTo_test]
      exact List.any_eq_true.2 ⟨k, List.mem_range.2 hk, by simp⟩
    rw [← h, Nat.testBit_and] at hb
    rw [Bool.and_eq_true] at hb
    simp [hb.1]

theorem kept_bits {t : List Int} {r : Rl} (hf : factsOk r.1) (h0 : -1 ≤ r.2) (h1 : r.2 < 12) : keptM (markL t) r = keepsB (bitsL t) r := by
  unfold keptM keepsB
  rw [has_bits hf]
  congr 1
  by_cases h : 0 ≤ r.2
  · rw [decide_eq_true h, Bool.true_and, Bool.true_and]
    unfold hasM zeroAt markL bitsL
    simp only [List.any_cons, List.any_nil, Bool.or_false]
    rw [markTo_nth t (by omega)]
    cases (bitsTo t t.length).testBit r.2.toNat <;> rfl
  · rw [decide_eq_false h]; rfl

/-- a list is a truth, by marks and by bits -/
theorem truth_bits {t seen : List Int} {rs : List Rl} (hs : factsOk seen) (hr : rulesOk rs) : isTruthM seen rs (markL t) = truthB seen rs (bitsL t) := by
  unfold isTruthM truthB
  rw [has_bits hs]
  congr 1
  rw [Bool.eq_iff_iff, List.all_eq_true, List.all_eq_true]
  constructor <;> intro h x hx
  all_goals
    obtain ⟨i, hi, rfl⟩ := List.getElem_of_mem hx
    have e : nthR rs i = rs[i] := by unfold nthR; rw [List.getD_eq_getElem?_getD, List.getElem?_eq_getElem hi]; rfl
    have h2 := h _ hx
    have hk := kept_bits (t := t) (hr i hi).1 (hr i hi).2.2.1 (hr i hi).2.2.2
    rw [e] at hk
  · rw [← hk]; exact h2
  · rw [hk]; exact h2

def truthErr (facts : Int) (seen : List Int) (rs : List Rl) (t : List Int) : Int :=
  if caseErr facts seen rs ≠ 0 then caseErr facts seen rs else if rising facts t = true then (if truthB seen rs (bitsL t) = true then 0 else 24) else 2


/-- a case in memory: its agg -/
def caseV (facts : Int) (sa : Option Addr) (sn sc : Nat) (ra : Option Addr) (rn rc : Nat) : Array Value := #[.int .i64 facts, .slice sa sn sc, .slice ra rn rc]

theorem caseBox (w : World) (facts : Int) (sa ra : Option Addr) (sn sc rn rc : Nat) :
    (w.alloc (.cells #[.int .i64 facts, .slice sa sn sc, .slice ra rn rc] 25)).cell? ⟨w.heap.size, 0, none⟩ = some (.int .i64 facts) ∧ (w.alloc (.cells #[.int .i64 facts, .slice sa sn sc, .slice ra rn rc] 25)).cell? ⟨w.heap.size, 1, none⟩ = some (.slice sa sn sc) ∧
      (w.alloc (.cells #[.int .i64 facts, .slice sa sn sc, .slice ra rn rc] 25)).cell? ⟨w.heap.size, 2, none⟩ = some (.slice ra rn rc) := by
  refine ⟨?_, ?_, ?_⟩ <;> simp [go_sem]

set_option maxRecDepth 100000 in
set_option maxHeartbeats 4000000 in
theorem rCheckTruth_c (sa ra ta : Option Addr) (sc rc tc : Nat) (facts : Int) (seen t : List Int) (rs : List Rl) (w : World) (hs : IntsAt w sa seen) (hr : RulesAt w ra rs) (ht : IntsAt w ta t) (hb : seen.length ≤ 1000000) (hb2 : rs.length ≤ 1000000) (hb4 : t.length ≤ 1000000)
    (hb3 : ∀ i, i < rs.length → (nthR rs i).1.length ≤ 1000000) :
    Calls Try.prog 22 #[.agg #[.int .i64 facts, .slice sa seen.length sc, .slice ra rs.length rc], .slice ta t.length tc] w fun e w' => e = .returned (.int .i64 (truthErr facts seen rs t)) ∧ Below w.heap.size w w' := by
  obtain ⟨W0, hW0⟩ : ∃ W0, W0 = w.alloc (.cells #[.int .i64 facts, .slice sa seen.length sc, .slice ra rs.length rc] 25) := ⟨_, rfl⟩
  have HB0 := hid (show Below w.heap.size w W0 by rw [hW0]; exact bnew w _)
  obtain ⟨c0, c1, c2⟩ := caseBox w facts sa ra seen.length sc rs.length rc
  rw [← hW0] at c0 c1 c2
  have C0 := hid c0; have C1 := hid c1; have C2 := hid c2
  have HC := hid fun (w' : World) (h : Below w.heap.size w w') => rCheckCase_c sa ra sc rc facts seen rs w' (hs.mono h) (hr.mono h) hb hb2 hb3
  have HL := hid fun (w' : World) (h : Below w.heap.size w w') => isList_c ta tc t facts w' (ht.mono h) hb4
  have hte : truthErr facts seen rs t = if caseErr facts seen rs ≠ 0 then caseErr facts seen rs else if rising facts t = true then (if truthB seen rs (bitsL t) = true then 0 else 24) else 2 := rfl
  have HS := hid hW0
  by_cases hc : caseErr facts seen rs = 0
  · rw [hc] at HC
    obtain ⟨⟨f0, f1⟩, _, hris, _⟩ := case_zero hc
    rw [hte, if_neg (by simp [hc])]
    cases hrt : rising facts t with
    | false =>
      rw [hrt] at HL
      rw [if_neg (by simp)]
      clear hs hr ht hb hb3 hte hrt hc hris hW0 c0 c1 c2 f0 f1
      go_enter Try.func22, Try.ntmps22
      go_wp2_with fail
      rw [← HS.out]
      refine (HC.out _ HB0.out).mono ?_
      rintro e w1 ⟨rfl, hB⟩
      have d0 := cstep C0.out hB
      have HB1 := hid (bstep HB0.out hB)
      clear hB
      go_wp2_with fail
      refine (HL.out _ HB1.out).mono ?_
      rintro e w2 ⟨rfl, hB⟩
      have HB2 := hid (bstep HB1.out hB)
      clear hB
      go_wp2
      go_ret
      exact ⟨rfl, HB2.out⟩
    | true =>
      rw [hrt] at HL
      have htf := rising_facts f1 hrt
      have HBi := hid fun (w' : World) (h : Below w.heap.size w w') => bits_c ta tc t w' (ht.mono h) hb4 htf
      have HT := hid fun (w' : World) (h : Below w.heap.size w w') => isTruthR_c sa ra sc rc facts seen rs (bitsL t) w' (hs.mono h) (hr.mono h) hb hb2 (rising_facts f1 hris) (case_rules hc hb3) (bitsL_lt htf)
      unfold TellB at HT
      generalize truthB seen rs (bitsL t) = v at *
      rw [if_pos rfl]
      obtain ⟨R, hR⟩ : ∃ R : Int, R = (if v = true then 0 else 24) := ⟨_, rfl⟩
      rw [← hR]
      have HRs := hid hR
      clear hs hr ht hb hb3 hte hrt hc hris hW0 c0 c1 c2 f0 f1 htf hR
      go_enter Try.func22, Try.ntmps22
      go_wp2_with fail
      rw [← HS.out]
      refine (HC.out _ HB0.out).mono ?_
      rintro e w1 ⟨rfl, hB⟩
      have d0 := cstep C0.out hB
      have HB1 := hid (bstep HB0.out hB)
      have D0 := hid d0; have D1 := hid (cstep C1.out hB); have D2 := hid (cstep C2.out hB)
      clear hB
      go_wp2_with fail
      refine (HL.out _ HB1.out).mono ?_
      rintro e w2 ⟨rfl, hB⟩
      have HB2 := hid (bstep HB1.out hB)
      have e0 := cstep D0.out hB; have e1 := cstep D1.out hB; have e2 := cstep D2.out hB
      clear hB d0
      go_wp2_with fail
      cases v <;> (
        first
          | go_region_with (first | (go_at_call 49; (with_reducible refine (HBi.out _ (by first | exact HB2.out | exact HB2.out.drew)).mono ?_); rintro e w3 ⟨rfl, hw3⟩; subst hw3) | (go_at_call 64; (with_reducible refine (HT.out _ (by first | exact HB2.out | exact HB2.out.drew)).mono ?_); rintro e w4 ⟨rfl, hB⟩; have hBl : Below w.heap.size w w4 := by first | exact bstep HB2.out hB | exact bstep HB2.out.drew hB))
          | fail
        all_goals (
          go_wp2
          go_ret
          exact ⟨ret_int (by rw [HRs.out]; rfl), hBl⟩))
  · rw [hte, if_pos hc]
    have hcb : (caseErr facts seen rs != 0) = true := by simpa using hc
    clear hs hr ht hb hb3 hte hc hW0 c0 c1 c2
    generalize caseErr facts seen rs = c at *
    go_enter Try.func22, Try.ntmps22
    go_wp2_with fail
    rw [← HS.out]
    refine (HC.out _ HB0.out).mono ?_
    rintro e w1 ⟨rfl, hB⟩
    have d0 := cstep C0.out hB; have d1 := cstep C1.out hB; have d2 := cstep C2.out hB
    have HB1 := hid (bstep HB0.out hB)
    clear hB
    go_wp2_with fail
    refine (HC.out _ HB1.out).mono ?_
    rintro e w2 ⟨rfl, hB⟩
    have HB2 := hid (bstep HB1.out hB)
    clear hB
    go_wp2
    go_ret
    exact ⟨rfl, HB2.out⟩

end Go.Proofs.Ytkioejdddmnbmaa
