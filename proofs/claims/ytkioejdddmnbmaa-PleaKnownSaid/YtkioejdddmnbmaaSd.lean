/- Walks: Verdict, Known, StepsError, ClashError of the reference. -/
import Derived.Test.YtkioejdddmnbmaaSc
import Derived.Test.YtkioejdddmnbmaaHb
namespace Go.Proofs.Ytkioejdddmnbmaa
open Go.RowKit Go.Shelf
attribute [local go_sem ↓] wp_get wp_get0 wp_getS wp78 wps78 wpa78

/-- how many of some lists have a fact -/
def hasN (l : List Nat) (x : Nat) : Nat := (l.filter (fun b => b.testBit x)).length
theorem hasN_succ {l : List Nat} {k : Nat} (h : k < l.length) (x : Nat) : hasN (l.take (k + 1)) x = hasN (l.take k) x + if (l[k]).testBit x then 1 else 0 := by
  unfold hasN
  rw [List.take_succ_eq_append_getElem h, List.filter_append, List.length_append]
  congr 1
  cases hb : (l[k]).testBit x <;> simp [hb]
theorem hasN_le (l : List Nat) (x : Nat) : hasN l x ≤ l.length := List.length_filter_le _ _

def rVerdictN (facts : Int) (seen : List Int) (rs : List Rl) (x : Int) : Int :=
  if factErr facts seen rs x = 0 then (if truthsN facts.toNat seen rs = [] then 0 else if hasN (truthsN facts.toNat seen rs) x.toNat = (truthsN facts.toNat seen rs).length then 2 else if hasN (truthsN facts.toNat seen rs) x.toNat = 0 then 0 else 1) else 0
def rVerdictE (facts : Int) (seen : List Int) (rs : List Rl) (x : Int) : Int :=
  if factErr facts seen rs x = 0 then (if truthsN facts.toNat seen rs = [] then 24 else 0) else factErr facts seen rs x

theorem fact_zero {facts : Int} {seen : List Int} {rs : List Rl} {x : Int} (h : factErr facts seen rs x = 0) : caseErr facts seen rs = 0 ∧ 0 ≤ x ∧ x < facts := by
  unfold factErr at h
  split at h
  · rename_i h1
    split at h
    · rename_i h2; exact ⟨h1, h2⟩
    · cases h
  · rename_i h1; exact absurd h h1

set_option maxRecDepth 100000 in
set_option maxHeartbeats 2000000 in
theorem rVerdict_c (sa ra : Option Addr) (sc rc : Nat) (facts : Int) (seen : List Int) (rs : List Rl) (x : Int) (w : World) (hc : CaseAt w sa ra seen rs) :
    Calls Try.prog 28 #[.agg #[.int .i64 facts, .slice sa seen.length sc, .slice ra rs.length rc], .int .i64 x] w (NumE w (rVerdictN facts seen rs x) (rVerdictE facts seen rs x)) := by
  obtain ⟨W0, hW0⟩ : ∃ W0, W0 = w.alloc (.cells #[.int .i64 facts, .slice sa seen.length sc, .slice ra rs.length rc] 25) := ⟨_, rfl⟩
  have HB0 := hid (show Below w.heap.size w W0 by rw [hW0]; exact bnew w _)
  obtain ⟨c0, c1, c2⟩ := caseBox w facts sa ra seen.length sc rs.length rc
  rw [← hW0] at c0 c1 c2
  have C0 := hid c0; have C1 := hid c1; have C2 := hid c2
  have HS := hid hW0
  have HC := hid fun (w' : World) (h : Below w.heap.size w w') => factErr_c sa ra sc rc facts seen rs x w' (hc.mono h)
  unfold NumE rVerdictN rVerdictE
  by_cases hz : factErr facts seen rs x = 0
  · rw [if_pos hz, if_pos hz]
    obtain ⟨hz2, hx0, hx1⟩ := fact_zero hz
    obtain ⟨f, rfl, hf1, hf2⟩ := case_nat hz2
    obtain ⟨n, rfl⟩ := Int.eq_ofNat_of_zero_le hx0
    have HT := hid fun (w' : World) (h : Below w.heap.size w w') => truths_c sa ra sc rc f seen rs w' (hc.mono h) hf2 (case_seen hz2) (case_rules hz2 hc.il)
    rw [hz] at HC
    rw [Int.toNat_natCast, Int.toNat_natCast]
    unfold OwnP at HT
    rw [truthsL_eq] at HT
    have hlt := fun x (hx : x ∈ truthsN f seen rs) => truthsN_lt hx
    have hln := truthsN_length hf2 seen rs
    have hml : ((truthsN f seen rs).map (fun n : Nat => (n : Int))).length = (truthsN f seen rs).length := by simp
    rw [hml] at HT
    obtain ⟨l, hl⟩ : ∃ l, l = truthsN f seen rs := ⟨_, rfl⟩
    rw [← hl] at hlt hln HT ⊢
    have Hlt := hid hlt; have Hln := hid hln
    clear hc hz hz2 hW0 c0 c1 c2 hlt hln hml hl hx0
    by_cases hnil : l = []
    · rw [if_pos hnil, if_pos hnil]
      subst hnil
      go_enter Try.func28, Try.ntmps28
      go_wp2_with fail
      rw [← HS.out]
      refine (HC.out _ HB0.out).mono ?_
      rintro e w1 ⟨rfl, hB⟩
      have HB1 := hid (bstep HB0.out hB)
      have d0 := cstep C0.out hB; have d1 := cstep C1.out hB; have d2 := cstep C2.out hB
      clear hB
      go_wp2_with fail
      refine (HT.out _ HB1.out).mono ?_
      rintro e w2 ⟨ao, cap, rfl, hat, hn, hB⟩
      have HB2 := hid (bstep HB1.out hB)
      clear hB
      go_wp2
      go_ret2
      exact ⟨rfl, HB2.out⟩
    · rw [if_neg hnil, if_neg hnil]
      have hpos : 0 < l.length := List.length_pos_iff.2 hnil
      have hne : ((l.length : Int) == 0) = false := by simp; omega
      have hne2 : ¬ ((l.length : Int) = 0) := by omega
      obtain ⟨m, hm⟩ : ∃ m, m = l.length := ⟨_, rfl⟩
      have Hm := hid hm
      have hml2 : ∀ k, k < m → k < l.length := fun k h => by rw [hm] at h; exact h
      have Hml2 := hid hml2
      have hmb : m ≤ 5000 := by have := Hln.out; omega
      rw [← hm] at HT hne hne2 hpos ⊢
      clear hnil hm hml2
      have hn64 : (n : Int) < 64 := by omega
      obtain ⟨R, hR⟩ : ∃ R : Int, R = (if hasN l n = m then 2 else if hasN l n = 0 then 0 else 1) := ⟨_, rfl⟩
      rw [← hR]
      have HR := hid hR
      clear hR
      go_enter Try.func28, Try.ntmps28
      go_wp2_with fail
      rw [← HS.out]
      refine (HC.out _ HB0.out).mono ?_
      rintro e w1 ⟨rfl, hB⟩
      have HB1 := hid (bstep HB0.out hB)
      have d0 := cstep C0.out hB; have d1 := cstep C1.out hB; have d2 := cstep C2.out hB
      clear hB
      go_wp2_with fail
      refine (HT.out _ HB1.out).mono ?_
      rintro e w2 ⟨ao, cap, rfl, hat, hn, hB⟩
      have HB2 := hid (bstep HB1.out hB)
      have Hat := hid hat
      clear hB hat d0 d1 d2 hn
      go_wp2
      go_loop [7, 8] (fun o i => ∃ k : Nat, k ≤ m ∧ i = .int .i64 k ∧ o = .int .i64 (hasN (l.take k) n : Nat)) (fun _ i => m - (intOf i).toNat)
      case atStart => exact ⟨0, Nat.zero_le _, rfl, rfl⟩
      case round =>
        obtain ⟨k, hk, rfl, rfl⟩ := hrel
        by_cases hlt : k < m
        · have hkl := Hml2.out k hlt
          obtain ⟨b, off, rfl, hcc⟩ := Hat.out.at (k := k) (by simpa using hkl)
          have e : nth (l.map (fun n : Nat => (n : Int))) k = (l[k] : Int) := by rw [nth_eq (by simpa using hkl)]; simp
          rw [e] at hcc
          have ht := hasN_succ hkl n
          have hb := Hlt.out _ (List.getElem_mem hkl)
          have hle : hasN (l.take k) n ≤ k := Nat.le_trans (hasN_le _ _) (by rw [List.length_take]; omega)
          have hln2 := Hln.out
          have hone := bits_one_i64 (a := l[k]) (by have := pow_le hf2; omega) n
          have Hm2 := Hm.out
          obtain ⟨x, hx⟩ : ∃ x, x = l[k] := ⟨_, rfl⟩
          obtain ⟨y, hy⟩ : ∃ y, y = hasN (l.take k) n := ⟨_, rfl⟩
          rw [← hx, ← hy] at ht
          rw [← hx] at hcc hone
          rw [← hy] at hle ⊢
          have hy2 : y ≤ 5000 := by omega
          clear e hx hy hb hle hln2 Hm2
          cases htb : x.testBit n with
          | true =>
            rw [htb] at hone ht
            simp only [if_true] at hone ht
            have Ht := hid ht
            clear ht htb
            go_wp2
            go_round
            case rel => exact ⟨k + 1, by omega, by go_num, by rw [Ht.out]; go_num⟩
            case measure => simp [intOf]; omega
          | false =>
            rw [htb] at hone ht
            simp only [Bool.false_eq_true, if_false, Nat.add_zero] at hone ht
            have Ht := hid ht
            clear ht htb
            go_wp2
            go_round
            case rel => exact ⟨k + 1, by omega, by go_num, by rw [Ht.out]⟩
            case measure => simp [intOf]; omega
        · obtain rfl : k = m := by omega
          have hR := HR.out
          have htk : l.take k = l := List.take_of_length_le (by rw [← Hm.out]; exact Nat.le_refl _)
          rw [htk]
          have hq := hasN_le l n
          rw [← Hm.out] at hq
          obtain ⟨y, hy⟩ : ∃ y, y = hasN l n := ⟨_, rfl⟩
          rw [← hy] at hR hq ⊢
          clear htk hy
          by_cases h1 : y = k
          · rw [if_pos h1] at hR
            subst h1
            have HR2 := hid hR
            clear hR
            go_wp2
            go_ret2
            exact ⟨by first | (rw [HR2.out]; rfl) | rw [HR2.out], HB2.out⟩
          · rw [if_neg h1] at hR
            have h2 : ((y : Int) == (k : Int)) = false := by simp; omega
            by_cases h0 : y = 0
            · rw [if_pos h0] at hR
              subst h0
              have HR2 := hid hR
              clear hR
              go_wp2
              go_ret2
              exact ⟨by first | (rw [HR2.out]; rfl) | rw [HR2.out], HB2.out⟩
            · rw [if_neg h0] at hR
              have h3 : ((y : Int) == 0) = false := by simp; omega
              have HR2 := hid hR
              clear hR
              go_wp2
              go_ret2
              exact ⟨by first | (rw [HR2.out]; rfl) | rw [HR2.out], HB2.out⟩
  · rw [if_neg hz, if_neg hz]
    have hcb := errB hz
    clear hc hz hW0 c0 c1 c2
    generalize factErr facts seen rs x = c at *
    go_enter Try.func28, Try.ntmps28
    go_wp2_with fail
    rw [← HS.out]
    refine (HC.out _ HB0.out).mono ?_
    rintro e w1 ⟨rfl, hB⟩
    have HB1 := hid (bstep HB0.out hB)
    have d0 := cstep C0.out hB; have d1 := cstep C1.out hB; have d2 := cstep C2.out hB
    clear hB
    go_wp2_with fail
    refine (HC.out _ HB1.out).mono ?_
    rintro e w2 ⟨rfl, hB⟩
    go_wp2
    go_ret2
    exact ⟨rfl, bstep HB1.out hB⟩

theorem kn1_lt {rs : List Rl} (hro : rulesOk rs) {s : Nat × Bool} (h : s.1 < 2 ^ 12) {i : Nat} (hi : i < rs.length) : (kn1 rs s i).1 < 2 ^ 12 := by
  unfold kn1
  split
  · split
    · exact h
    · exact Nat.or_lt_two_pow h (Nat.pow_lt_pow_right (by omega) (by have := (hro i hi).2.2.2; omega))
  · exact h
theorem knTo_lt {rs : List Rl} (hro : rulesOk rs) {s : Nat × Bool} (h : s.1 < 2 ^ 12) : ∀ k, k ≤ rs.length → (knTo rs s k).1 < 2 ^ 12
  | 0, _ => h
  | k + 1, hk => kn1_lt hro (knTo_lt hro h k (by omega)) (by omega)
theorem knRounds_lt {rs : List Rl} (hro : rulesOk rs) {s : Nat × Bool} (h : s.1 < 2 ^ 12) : ∀ n, (knRounds rs s n).1 < 2 ^ 12
  | 0 => h
  | n + 1 => knTo_lt hro (knRounds_lt hro h n) _ (Nat.le_refl _)
theorem knownR_lt {rs : List Rl} (hro : rulesOk rs) {b : Nat} (h : b < 2 ^ 12) : (knownR rs b).1 < 2 ^ 12 := knRounds_lt hro h _

theorem shl_one' {t : Nat} (h : t ≤ 12) : IntKind.i64.wrap (2 ^ t) = ((2 ^ t : Nat) : Int) := shl_one h

set_option maxRecDepth 100000 in
set_option maxHeartbeats 2000000 in
theorem known_c (ra : Option Addr) (rc : Nat) (rs : List Rl) (b : Nat) (w : World) (hr : RulesAt w ra rs) (hro : rulesOk rs) (hrl : rs.length ≤ 1000000) (hb : b < 2 ^ 12) :
    Calls Try.prog 50 #[.slice ra rs.length rc, .int .i64 b] w fun e w' => e = .returned (.tuple #[.int .i64 (knownR rs b).1, .bool (knownR rs b).2]) ∧ w' = w := by
  have Hr := hid hr; have Hro := hid hro; have Hb := hid hb
  have hkr : knownR rs b = knRounds rs (b, false) (rs.length + 1) := rfl
  rw [hkr]
  clear hr hro hb hkr
  go_enter Try.func50, Try.ntmps50
  go_wp2
  go_loop [6, 7, 8] (fun q c i => ∃ n : Nat, n ≤ rs.length + 1 ∧ i = .int .i64 n ∧ q = .int .i64 (knRounds rs (b, false) n).1 ∧ c = .bool (knRounds rs (b, false) n).2) (fun _ _ i => rs.length + 1 - (intOf i).toNat)
  case atStart => exact ⟨0, Nat.zero_le _, rfl, rfl, rfl⟩
  case round =>
    obtain ⟨n, hn, rfl, rfl, rfl⟩ := hrel
    have hs := knRounds_lt Hro.out (s := (b, false)) Hb.out n
    have hs1 : knRounds rs (b, false) (n + 1) = knTo rs (knRounds rs (b, false) n) rs.length := rfl
    obtain ⟨s, hse⟩ : ∃ s, s = knRounds rs (b, false) n := ⟨_, rfl⟩
    rw [← hse] at hs hs1 ⊢
    have Hs := hid hs; have Hs1 := hid hs1; have Hse := hid hse
    clear hs hs1 hse
    by_cases hle : n ≤ rs.length
    · go_wp2
      go_loop [6, 7, 9] (fun q c i => ∃ j : Nat, j ≤ rs.length ∧ i = .int .i64 j ∧ q = .int .i64 (knTo rs s j).1 ∧ c = .bool (knTo rs s j).2) (fun _ _ i => rs.length - (intOf i).toNat)
      case atStart => exact ⟨0, Nat.zero_le _, rfl, rfl, rfl⟩
      case round =>
        obtain ⟨j, hj, rfl, rfl, rfl⟩ := hrel
        by_cases hlt : j < rs.length
        · have hk := knTo_lt Hro.out Hs.out j hj
          have hk1 : knTo rs s (j + 1) = kn1 rs (knTo rs s j) j := rfl
          unfold kn1 at hk1
          obtain ⟨p, hp⟩ : ∃ p, p = knTo rs s j := ⟨_, rfl⟩
          rw [← hp] at hk hk1 ⊢
          obtain ⟨q, c⟩ := p
          obtain ⟨hf1, hf2, hf3, hf4⟩ := Hro.out j hlt
          obtain ⟨bb, off, a, cp, rfl, hra⟩ := Hr.out.at hlt
          have HBi := hid (bits_c a cp (nthR rs j).1 w hra.at' hf2 hf1)
          have q0 := hra.cI
          have q1 := hra.cT
          have hbl := bitsL_lt hf1
          obtain ⟨th, hth⟩ : ∃ t, t = (nthR rs j).2 := ⟨_, rfl⟩
          obtain ⟨m, hm⟩ : ∃ n, n = (nthR rs j).1.length := ⟨_, rfl⟩
          obtain ⟨o, ho⟩ : ∃ o, o = bitsL (nthR rs j).1 := ⟨_, rfl⟩
          rw [← hth] at q1 hf3 hf4 hk1
          rw [← hm] at q0 HBi
          rw [← ho] at HBi hbl hk1
          have hk : q < 2 ^ 12 := hk
          have hk1 : knTo rs s (j + 1) = if q &&& o = o then if th < 0 then (q, true) else (q ||| 2 ^ th.toNat, c) else (q, c) := hk1
          have hand := bits_and_i64 (a := q) (b := o) (by omega) (by omega)
          clear hra hth hm ho hp hf1 hf2
          by_cases hh : q &&& o = o
          · rw [if_pos hh] at hk1
            rw [hh] at hand
            clear hh
            by_cases h0 : th < 0
            · rw [if_pos h0] at hk1
              have Hk1 := hid hk1
              clear hk1
              go_wp2_with fail
              refine HBi.out.mono ?_
              rintro e w1 ⟨rfl, hw1⟩
              cases hw1
              go_wp2
              go_round
              case rel => exact ⟨j + 1, by omega, by go_num, by rw [Hk1.out], by rw [Hk1.out]⟩
              case measure => simp [intOf]; omega
            · rw [if_neg h0] at hk1
              obtain ⟨t, rfl⟩ := Int.eq_ofNat_of_zero_le (show 0 ≤ th by omega)
              rw [Int.toNat_natCast] at hk1
              have ht12 : t ≤ 12 := by omega
              have ht64 : (t : Int) < 64 := by omega
              have hsh := shl_one ht12
              have hpt := pow_le ht12
              obtain ⟨P, hP⟩ : ∃ P : Nat, P = 2 ^ t := ⟨_, rfl⟩
              rw [← hP] at hsh hk1 hpt
              have hor := bits_or_i64 (a := q) (b := P) (by omega) (by omega)
              have Hk1 := hid hk1
              clear hk1 hP
              go_wp2_with fail
              refine HBi.out.mono ?_
              rintro e w1 ⟨rfl, hw1⟩
              cases hw1
              go_wp2
              go_round
              case rel => exact ⟨j + 1, by omega, by go_num, by rw [Hk1.out], by rw [Hk1.out]⟩
              case measure => simp [intOf]; omega
          · rw [if_neg hh] at hk1
            have hne : (((q &&& o : Nat) : Int) != (o : Int)) = true := by simp; omega
            have hne2 : ¬ ((q &&& o : Nat) : Int) = (o : Int) := by omega
            obtain ⟨u, hu⟩ : ∃ u, u = q &&& o := ⟨_, rfl⟩
            rw [← hu] at hand hne hne2
            have Hk1 := hid hk1
            clear hk1 hu hh
            go_wp2_with fail
            refine HBi.out.mono ?_
            rintro e w1 ⟨rfl, hw1⟩
            cases hw1
            go_wp2
            go_round
            case rel => exact ⟨j + 1, by omega, by go_num, by rw [Hk1.out], by rw [Hk1.out]⟩
            case measure => simp [intOf]; omega
        · obtain rfl : j = rs.length := by omega
          rw [← Hs1.out]
          go_wp2
          go_round
          case rel => exact ⟨n + 1, by omega, by go_num, rfl, rfl⟩
          case measure => simp [intOf]; omega
    · obtain rfl : n = rs.length + 1 := by omega
      rw [Hse.out]
      go_wp2
      go_ret2
      exact ⟨rfl, rfl⟩

end Go.Proofs.Ytkioejdddmnbmaa
