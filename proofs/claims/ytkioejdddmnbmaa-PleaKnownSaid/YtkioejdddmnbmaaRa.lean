/- Lists of facts as bits. Walks of the reference: Bits, Keeps, IsTruth, CheckTruth. -/
import Derived.Test.YtkioejdddmnbmaaCc
import Derived.Test.YtkioejdddmnbmaaMa
import Derived.Laws.Bits64b
namespace Go.Proofs.Ytkioejdddmnbmaa
open Go.RowKit Go.Shelf

theorem wrap_i64_nat {a : Nat} (h : a < 2 ^ 62) : IntKind.i64.wrap ((a : Nat) : Int) = (a : Int) := by
  rw [IntKind.wrap_i64]
  omega
theorem toNat_of {a : Nat} (h : a < 2 ^ 62) : (BitVec.ofInt 64 (a : Int)).toNat = a := by
  rw [BitVec.ofInt_natCast, BitVec.toNat_ofNat]; exact Nat.mod_eq_of_lt (by omega)
theorem bits_or_i64 {a b : Nat} (ha : a < 2 ^ 62) (hb : b < 2 ^ 62) : bits .or .i64 (a : Int) (b : Int) = ((a ||| b : Nat) : Int) := by
  show IntKind.i64.wrap ((BitVec.ofInt 64 (a : Int) ||| BitVec.ofInt 64 (b : Int)).toNat : Int) = _
  rw [BitVec.toNat_or, toNat_of ha, toNat_of hb, wrap_i64_nat (Nat.or_lt_two_pow ha hb)]
theorem bits_and_i64 {a b : Nat} (ha : a < 2 ^ 62) (hb : b < 2 ^ 62) : bits .and .i64 (a : Int) (b : Int) = ((a &&& b : Nat) : Int) := by
  show IntKind.i64.wrap ((BitVec.ofInt 64 (a : Int) &&& BitVec.ofInt 64 (b : Int)).toNat : Int) = _
  rw [BitVec.toNat_and, toNat_of ha, toNat_of hb, wrap_i64_nat (Nat.lt_of_le_of_lt Nat.and_le_left ha)]
theorem bits_one_i64 {a : Nat} (ha : a < 2 ^ 62) (k : Nat) : bits .and .i64 ((a : Int) / 2 ^ k) 1 = if a.testBit k then 1 else 0 := by
  have e : ((a : Int) / 2 ^ k) = ((a / 2 ^ k : Nat) : Int) := by simp
  have h2 : a / 2 ^ k < 2 ^ 62 := Nat.lt_of_le_of_lt (Nat.div_le_self _ _) ha
  have := bits_and_i64 h2 (b := 1) (by omega)
  rw [e, show (1 : Int) = ((1 : Nat) : Int) from rfl, this, Nat.and_one_is_mod, Nat.testBit_eq_decide_div_mod_eq]
  by_cases h : a / 2 ^ k % 2 = 1
  · rw [h]; rfl
  · have h0 : a / 2 ^ k % 2 = 0 := by omega
    rw [h0]; rfl

/-- the bits of the first k facts of a list -/
def bitsTo (l : List Int) : Nat → Nat
  | 0 => 0
  | k + 1 => bitsTo l k ||| 2 ^ (nth l k).toNat
def bitsL (l : List Int) : Nat := bitsTo l l.length

theorem bitsTo_lt {l : List Int} (hf : factsOk l) : ∀ k, k ≤ l.length → bitsTo l k < 2 ^ 12
  | 0, _ => by simp [bitsTo]
  | k + 1, h => by
    have := (hf k (by omega)).2
    exact Nat.or_lt_two_pow (bitsTo_lt hf k (by omega)) (Nat.pow_lt_pow_right (by omega) (by have := (hf k (by omega)).1; omega))
theorem bitsL_lt {l : List Int} (hf : factsOk l) : bitsL l < 2 ^ 12 := bitsTo_lt hf _ (Nat.le_refl _)

set_option maxRecDepth 100000 in
theorem bits_c (a : Option Addr) (cap : Nat) (l : List Int) (w : World) (hx : IntsAt w a l) (hl : l.length ≤ 1000000) (hf : factsOk l) :
    Calls Try.prog 49 #[.slice a l.length cap] w fun e w' => e = .returned (.int .i64 (bitsL l)) ∧ w' = w := by
  have Hx := hid hx; have Hf := hid hf
  clear hx hf
  go_enter Try.func49, Try.ntmps49
  go_wp2
  go_loop [3, 4] (fun n i => ∃ k : Nat, k ≤ l.length ∧ i = .int .i64 k ∧ n = .int .i64 (bitsTo l k)) (fun _ i => l.length - (intOf i).toNat)
  case atStart => exact ⟨0, Nat.zero_le _, rfl, rfl⟩
  case round =>
    obtain ⟨k, hk, rfl, rfl⟩ := hrel
    by_cases hlt : k < l.length
    · obtain ⟨b, off, rfl, hc⟩ := Hx.out.at hlt
      obtain ⟨f0, f1⟩ := Hf.out k hlt
      obtain ⟨n, hn⟩ := Int.eq_ofNat_of_zero_le f0
      have hs : bitsTo l (k + 1) = bitsTo l k ||| 2 ^ n := by rw [bitsTo, hn]; rfl
      rw [hn] at hc
      have hn12 : n < 12 := by omega
      have hp : (2 : Nat) ^ n < 2 ^ 12 := Nat.pow_lt_pow_right (by omega) hn12
      have hb := bitsTo_lt Hf.out k hk
      obtain ⟨v, hv⟩ : ∃ v, v = bitsTo l k := ⟨_, rfl⟩
      rw [← hv] at hs hb ⊢
      have hor := bits_or_i64 (a := v) (b := 2 ^ n) (by omega) (by omega)
      have hsh : wrap64 ((2 : Int) ^ n) = ((2 ^ n : Nat) : Int) := by
        have e : (2 : Int) ^ n = ((2 ^ n : Nat) : Int) := by simp
        rw [e]
        obtain ⟨q, hq⟩ : ∃ q, q = 2 ^ n := ⟨_, rfl⟩
        rw [← hq] at hp ⊢
        unfold wrap64; omega
      have Hs := hid hs; have Hor := hid hor; have Hsh := hid hsh
      have hnI : (n : Int) < 64 := by omega
      clear f0 f1 hn hs hv hor hsh hp hb
      go_wp2
      go_round
      case rel => exact ⟨k + 1, by omega, by go_num, by rw [Hs.out, ← Hor.out, ← Hsh.out]⟩
      case measure => simp [intOf]; omega
    · obtain rfl : k = l.length := by omega
      go_wp2
      go_ret
      exact ⟨rfl, rfl⟩


/-- a rule is kept by facts, by bits -/
def keepsB (facts : Nat) (r : Rl) : Bool := !(facts &&& bitsL r.1 == bitsL r.1) || (decide (0 ≤ r.2) && facts.testBit r.2.toNat)
def truthB (seen : List Int) (rs : List Rl) (facts : Nat) : Bool := (facts &&& bitsL seen == bitsL seen) && rs.all (keepsB facts)

set_option maxRecDepth 100000 in
set_option maxHeartbeats 1000000 in
theorem keeps_c (a : Option Addr) (cap : Nat) (r : Rl) (facts : Nat) (w : World) (hx : IntsAt w a r.1) (hl : r.1.length ≤ 1000000) (hf : factsOk r.1) (hth : r.2 < 12) (hfa : facts < 2 ^ 12) :
    Calls Try.prog 84 #[.agg #[.slice a r.1.length cap, .int .i64 r.2], .int .i64 facts] w (TellB w (keepsB facts r)) := by
  have HB0 := hid (bnew w (.cells #[.slice a r.1.length cap, .int .i64 r.2] 60))
  have H := hid (bits_c a cap r.1 (w.alloc (.cells #[.slice a r.1.length cap, .int .i64 r.2] 60)) (hx.mono HB0.out) hl hf)
  have hb := bitsL_lt hf
  have hk : keepsB facts r = (!(facts &&& bitsL r.1 == bitsL r.1) || (decide (0 ≤ r.2) && facts.testBit r.2.toNat)) := rfl
  rw [hk]
  unfold TellB
  obtain ⟨th, hthe⟩ : ∃ t, t = r.2 := ⟨_, rfl⟩
  obtain ⟨n, hn⟩ : ∃ n, n = r.1.length := ⟨_, rfl⟩
  obtain ⟨q, hq⟩ : ∃ q, q = bitsL r.1 := ⟨_, rfl⟩
  rw [← hthe, ← hq]
  rw [← hthe] at HB0 H hth
  rw [← hn] at HB0 H
  rw [← hq] at H hb
  rw [← hn]
  have hand := bits_and_i64 (a := facts) (b := q) (by omega) (by omega)
  clear hx hl hf hk hthe hn hq
  by_cases he : facts &&& q = q
  · have e1 : (facts &&& q == q) = true := by simpa using he
    rw [e1]
    rw [he] at hand
    by_cases h0 : 0 ≤ th
    · obtain ⟨t, rfl⟩ := Int.eq_ofNat_of_zero_le h0
      have hone := bits_one_i64 (a := facts) (by omega) t
      have ht64 : (t : Int) < 64 := by omega
      rw [decide_eq_true h0, Int.toNat_natCast]
      cases htb : facts.testBit t with
      | true =>
        rw [htb] at hone
        simp only [if_true] at hone
        clear htb he e1
        go_enter Try.func84, Try.ntmps84
        go_wp2_with fail
        refine H.out.mono ?_
        rintro e w1 ⟨rfl, rfl⟩
        go_wp2
        go_ret
        exact ⟨rfl, HB0.out⟩
      | false =>
        rw [htb] at hone
        simp only [Bool.false_eq_true, if_false] at hone
        clear htb he e1
        go_enter Try.func84, Try.ntmps84
        go_wp2_with fail
        refine H.out.mono ?_
        rintro e w1 ⟨rfl, rfl⟩
        go_wp2
        go_ret
        exact ⟨rfl, HB0.out⟩
    · rw [decide_eq_false h0]
      have hlt : th < 0 := by omega
      clear he e1 h0
      go_enter Try.func84, Try.ntmps84
      go_wp2_with fail
      refine H.out.mono ?_
      rintro e w1 ⟨rfl, rfl⟩
      go_wp2
      go_ret
      exact ⟨rfl, HB0.out⟩
  · have e1 : (facts &&& q == q) = false := by simpa using he
    rw [e1]
    have hne : (((facts &&& q : Nat) : Int) != (q : Int)) = true := by simp; omega
    have hne2 : ¬ ((facts &&& q : Nat) : Int) = (q : Int) := by omega
    obtain ⟨u, hu⟩ : ∃ u, u = facts &&& q := ⟨_, rfl⟩
    rw [← hu] at hand hne hne2
    clear he e1 hu
    go_enter Try.func84, Try.ntmps84
    go_wp2_with fail
    refine H.out.mono ?_
    rintro e w1 ⟨rfl, rfl⟩
    go_wp2
    go_ret
    exact ⟨rfl, HB0.out⟩

end Go.Proofs.Ytkioejdddmnbmaa
