/- Helpers of the laws: lists and tables are equal. Helpers of the laws: small ones. Helpers of the laws: which readings are read, the falls of the program, equal pays, lists in order. Helper of the laws: the falls, as the program says. -/
import Derived.Test.YtnnojhpioenhbaaKL
namespace Go.Proofs.Ytnnojhpioenhbaa
open Go.RowKit Go.Shelf

theorem take_eq_append {xs ys : List Int} {k : Nat} (h1 : k < xs.length) (h2 : k < ys.length) (h : xs.take k = ys.take k) :
    (nth xs k = nth ys k) ↔ xs.take (k + 1) = ys.take (k + 1) := by
  rw [take_succ_nth h1, take_succ_nth h2, h]; simp
theorem takeL_succ {xs : List (List Int)} {k : Nat} (h : k < xs.length) : xs.take (k + 1) = xs.take k ++ [nthL xs k] := by
  rw [List.take_succ_eq_append_getElem h]; simp [nthL, List.getD, h]
theorem takeL_eq_append {xs ys : List (List Int)} {k : Nat} (h1 : k < xs.length) (h2 : k < ys.length) (h : xs.take k = ys.take k) :
    (nthL xs k = nthL ys k) ↔ xs.take (k + 1) = ys.take (k + 1) := by
  rw [takeL_succ h1, takeL_succ h2, h]; simp


set_option maxRecDepth 100000 in
set_option maxHeartbeats 1000000 in
theorem ints_c (a1 a2 : Option Addr) (c1 c2 : Nat) (xs ys : List Int) (w : World) (hx : IntsAt w a1 xs) (hy : IntsAt w a2 ys) (hb : xs.length ≤ 1000000) :
    Calls Try.prog 32 #[.slice a1 xs.length c1, .slice a2 ys.length c2] w (TellB w (decide (xs = ys))) := by
  unfold TellB
  go_enter Try.func32, Try.ntmps32
  by_cases hl : xs.length = ys.length
  · have hlb : (((xs.length : Nat) : Int) != ((ys.length : Nat) : Int)) = false := by simp [hl]
    have Hl := hid hl; clear hl
    go_wp2
    go_loopw [5] (fun i wr => ∃ k : Nat, k ≤ xs.length ∧ i = .int .i64 k ∧ xs.take k = ys.take k ∧ Below w.heap.size w wr) (fun i _ => xs.length - (intOf i).toNat)
    case atStart => exact ⟨0, Nat.zero_le _, rfl, rfl, Below.refl _ _⟩
    case round =>
      obtain ⟨k, hk, rfl, ht, hB⟩ := hrel
      obtain ⟨wk, rfl⟩ : ∃ wk : World, wk = wr := ⟨_, rfl⟩
      have Ht := hid ht; have HB := hid hB
      by_cases hlt : k < xs.length
      · have hltI : (k : Int) < (xs.length : Int) := by omega
        have hlt2 : k < ys.length := by have := Hl.out; omega
        have hltI2 : (k : Int) < (ys.length : Int) := by omega
        obtain ⟨b, off, rfl, _⟩ := hx.at hlt
        obtain ⟨b2, off2, rfl, _⟩ := hy.at hlt2
        have hc := (hx.mono hB).cell hlt
        have hc2 := (hy.mono hB).cell hlt2
        have hi := take_eq_append hlt hlt2 Ht.out
        obtain ⟨x, hxx⟩ : ∃ x, x = nth xs k := ⟨_, rfl⟩
        obtain ⟨y, hyy⟩ : ∃ y, y = nth ys k := ⟨_, rfl⟩
        rw [← hxx] at hc hi
        rw [← hyy] at hc2 hi
        have j0 := fun s : Later wk => cstep hc s.h
        have j1 := fun s : Later wk => cstep hc2 s.h
        have Hi := hid hi; have Hx := hid hxx; have Hy := hid hyy
        clear ht hB hi hc hc2 hxx hyy hx hy
        by_cases he : x = y
        · have heb : (x != y) = false := by simp [he]
          have Hn := hid (Hi.out.1 he)
          clear he
          go_wp2
          refine wp_region_later (by kernel_rfl) (by kernel_rfl) ?_
          repeat (go_big_quiet_step (fail))
          refine wpQuiet_nil ?_
          rintro w1 ⟨⟨_, hB1⟩, rfl⟩
          have HB1 := hid (bstep HB.out hB1)
          clear hB1 j0 j1
          go_wp2
          go_roundw
          case rel => exact ⟨k + 1, hlt, by go_num, Hn.out, HB1.out⟩
          case measure => simp [intOf]; omega
        · have heb : (x != y) = true := by simp [he]
          have He := hid he; clear he
          go_wp2
          refine wp_region_later (by kernel_rfl) (by kernel_rfl) ?_
          repeat (go_big_quiet_step (fail))
          refine wpQuiet_nil ?_
          rintro w1 ⟨⟨_, hB1⟩, rfl⟩
          have HB1 := hid (bstep HB.out hB1)
          clear hB1 j0 j1
          go_wp2
          go_ret
          exact ⟨ret_bool (by simp; intro h; exact He.out (by rw [Hx.out, Hy.out, h])), HB1.out⟩
      · clear ht hB
        go_wp2
        go_ret
        refine ⟨ret_bool ?_, HB.out⟩
        have h1 := Ht.out
        rw [List.take_of_length_le (by omega), List.take_of_length_le (by have := Hl.out; omega)] at h1
        simp [h1]
  · have hlb : (((xs.length : Nat) : Int) != ((ys.length : Nat) : Int)) = true := by simp; omega
    go_wp2
    go_ret
    exact ⟨ret_bool (by simp; intro h; exact hl (by rw [h])), Below.refl _ _⟩

set_option maxRecDepth 100000 in
set_option maxHeartbeats 1000000 in
theorem longs_c (a1 a2 : Option Addr) (c1 c2 : Nat) (xs ys : List Int) (w : World) (hx : IntsAt w a1 xs) (hy : IntsAt w a2 ys) (hb : xs.length ≤ 1000000) :
    Calls Try.prog 26 #[.slice a1 xs.length c1, .slice a2 ys.length c2] w (TellB w (decide (xs = ys))) := by
  unfold TellB
  go_enter Try.func26, Try.ntmps26
  by_cases hl : xs.length = ys.length
  · have hlb : (((xs.length : Nat) : Int) != ((ys.length : Nat) : Int)) = false := by simp [hl]
    have Hl := hid hl; clear hl
    go_wp2
    go_loopw [5] (fun i wr => ∃ k : Nat, k ≤ xs.length ∧ i = .int .i64 k ∧ xs.take k = ys.take k ∧ Below w.heap.size w wr) (fun i _ => xs.length - (intOf i).toNat)
    case atStart => exact ⟨0, Nat.zero_le _, rfl, rfl, Below.refl _ _⟩
    case round =>
      obtain ⟨k, hk, rfl, ht, hB⟩ := hrel
      obtain ⟨wk, rfl⟩ : ∃ wk : World, wk = wr := ⟨_, rfl⟩
      have Ht := hid ht; have HB := hid hB
      by_cases hlt : k < xs.length
      · have hltI : (k : Int) < (xs.length : Int) := by omega
        have hlt2 : k < ys.length := by have := Hl.out; omega
        have hltI2 : (k : Int) < (ys.length : Int) := by omega
        obtain ⟨b, off, rfl, _⟩ := hx.at hlt
        obtain ⟨b2, off2, rfl, _⟩ := hy.at hlt2
        have hc := (hx.mono hB).cell hlt
        have hc2 := (hy.mono hB).cell hlt2
        have hi := take_eq_append hlt hlt2 Ht.out
        obtain ⟨x, hxx⟩ : ∃ x, x = nth xs k := ⟨_, rfl⟩
        obtain ⟨y, hyy⟩ : ∃ y, y = nth ys k := ⟨_, rfl⟩
        rw [← hxx] at hc hi
        rw [← hyy] at hc2 hi
        have j0 := fun s : Later wk => cstep hc s.h
        have j1 := fun s : Later wk => cstep hc2 s.h
        have Hi := hid hi; have Hx := hid hxx; have Hy := hid hyy
        clear ht hB hi hc hc2 hxx hyy hx hy
        by_cases he : x = y
        · have heb : (x != y) = false := by simp [he]
          have Hn := hid (Hi.out.1 he)
          clear he
          go_wp2
          refine wp_region_later (by kernel_rfl) (by kernel_rfl) ?_
          repeat (go_big_quiet_step (fail))
          refine wpQuiet_nil ?_
          rintro w1 ⟨⟨_, hB1⟩, rfl⟩
          have HB1 := hid (bstep HB.out hB1)
          clear hB1 j0 j1
          go_wp2
          go_roundw
          case rel => exact ⟨k + 1, hlt, by go_num, Hn.out, HB1.out⟩
          case measure => simp [intOf]; omega
        · have heb : (x != y) = true := by simp [he]
          have He := hid he; clear he
          go_wp2
          refine wp_region_later (by kernel_rfl) (by kernel_rfl) ?_
          repeat (go_big_quiet_step (fail))
          refine wpQuiet_nil ?_
          rintro w1 ⟨⟨_, hB1⟩, rfl⟩
          have HB1 := hid (bstep HB.out hB1)
          clear hB1 j0 j1
          go_wp2
          go_ret
          exact ⟨ret_bool (by simp; intro h; exact He.out (by rw [Hx.out, Hy.out, h])), HB1.out⟩
      · clear ht hB
        go_wp2
        go_ret
        refine ⟨ret_bool ?_, HB.out⟩
        have h1 := Ht.out
        rw [List.take_of_length_le (by omega), List.take_of_length_le (by have := Hl.out; omega)] at h1
        simp [h1]
  · have hlb : (((xs.length : Nat) : Int) != ((ys.length : Nat) : Int)) = true := by simp; omega
    go_wp2
    go_ret
    exact ⟨ret_bool (by simp; intro h; exact hl (by rw [h])), Below.refl _ _⟩

set_option maxRecDepth 100000 in
set_option maxHeartbeats 1000000 in
theorem tables_c (a1 a2 : Option Addr) (c1 c2 : Nat) (xs ys : List (List Int)) (w : World) (hx : RowsAt w a1 xs) (hy : RowsAt w a2 ys) (hb : xs.length ≤ 1000000) (hb1 : ∀ l ∈ xs, l.length ≤ 1000000) :
    Calls Try.prog 27 #[.slice a1 xs.length c1, .slice a2 ys.length c2] w (TellB w (decide (xs = ys))) := by
  unfold TellB
  go_enter Try.func27, Try.ntmps27
  by_cases hl : xs.length = ys.length
  · have hlb : (((xs.length : Nat) : Int) != ((ys.length : Nat) : Int)) = false := by simp [hl]
    have Hl := hid hl; clear hl
    have Hb1 := hid hb1; clear hb1
    go_wp2
    go_loopw [5] (fun i wr => ∃ k : Nat, k ≤ xs.length ∧ i = .int .i64 k ∧ xs.take k = ys.take k ∧ Below w.heap.size w wr) (fun i _ => xs.length - (intOf i).toNat)
    case atStart => exact ⟨0, Nat.zero_le _, rfl, rfl, Below.refl _ _⟩
    case round =>
      obtain ⟨k, hk, rfl, ht, hB⟩ := hrel
      obtain ⟨wk, rfl⟩ : ∃ wk : World, wk = wr := ⟨_, rfl⟩
      have Ht := hid ht; have HB := hid hB
      by_cases hlt : k < xs.length
      · have hltI : (k : Int) < (xs.length : Int) := by omega
        have hlt2 : k < ys.length := by have := Hl.out; omega
        have hltI2 : (k : Int) < (ys.length : Int) := by omega
        obtain ⟨b, off, ra, rc, rfl, hc, hr, _⟩ := (hx.mono hB).at hlt
        obtain ⟨b2, off2, ra2, rc2, rfl, hc2, hr2, _⟩ := (hy.mono hB).at hlt2
        have hi := takeL_eq_append hlt hlt2 Ht.out
        have hm : (nthL xs k).length ≤ 1000000 := Hb1.out _ (nthL_mem hlt)
        have HC := hid fun s : Later wk => longs_c ra ra2 rc rc2 (nthL xs k) (nthL ys k) s.w' (hr.mono s.h) (hr2.mono s.h) hm
        unfold TellB at HC
        obtain ⟨x, hxx⟩ : ∃ x, x = nthL xs k := ⟨_, rfl⟩
        obtain ⟨y, hyy⟩ : ∃ y, y = nthL ys k := ⟨_, rfl⟩
        rw [← hxx, ← hyy] at HC
        rw [← hxx] at hc hi
        rw [← hyy] at hc2 hi
        have j0 := fun s : Later wk => cstep hc s.h
        have j1 := fun s : Later wk => cstep hc2 s.h
        have Hi := hid hi; have Hx := hid hxx; have Hy := hid hyy
        clear ht hB hi hc hc2 hxx hyy hx hy hr hr2 hm
        by_cases he : x = y
        · rw [decide_eq_true he] at HC
          have Hn := hid (Hi.out.1 he)
          clear he
          go_wp2
          refine wp_region_later (by kernel_rfl) (by kernel_rfl) ?_
          repeat (go_big_quiet_step ((go_at_call 26; exact callsLater (HC.out _))))
          refine wpQuiet_nil ?_
          rintro w1 ⟨⟨_, hB1⟩, rfl⟩
          have HB1 := hid (bstep HB.out hB1)
          clear hB1 j0 j1
          go_wp2
          go_roundw
          case rel => exact ⟨k + 1, hlt, by go_num, Hn.out, HB1.out⟩
          case measure => simp [intOf]; omega
        · rw [decide_eq_false he] at HC
          have He := hid he; clear he
          go_wp2
          refine wp_region_later (by kernel_rfl) (by kernel_rfl) ?_
          repeat (go_big_quiet_step ((go_at_call 26; exact callsLater (HC.out _))))
          refine wpQuiet_nil ?_
          rintro w1 ⟨⟨_, hB1⟩, rfl⟩
          have HB1 := hid (bstep HB.out hB1)
          clear hB1 j0 j1
          go_wp2
          go_ret
          exact ⟨ret_bool (by simp; intro h; exact He.out (by rw [Hx.out, Hy.out, h])), HB1.out⟩
      · clear ht hB
        go_wp2
        go_ret
        refine ⟨ret_bool ?_, HB.out⟩
        have h1 := Ht.out
        rw [List.take_of_length_le (by omega), List.take_of_length_le (by have := Hl.out; omega)] at h1
        simp [h1]
  · have hlb : (((xs.length : Nat) : Int) != ((ys.length : Nat) : Int)) = true := by simp; omega
    go_wp2
    go_ret
    exact ⟨ret_bool (by simp; intro h; exact hl (by rw [h])), Below.refl _ _⟩

end Go.Proofs.Ytnnojhpioenhbaa

namespace Go.Proofs.Ytnnojhpioenhbaa
open Go.RowKit Go.Shelf

def wideB (R : Rd) : Bool := decide (16 < R.plumbs.length) || decide (16 < R.slots.length)
section
variable (la : Option Addr) (lc : Nat) (sa : Option Addr) (sc : Nat) (R : Rd) (w : World)
set_option maxRecDepth 100000 in
theorem wide_c : Calls Try.prog 33 #[.agg #[.slice la R.plumbs.length lc, .slice sa R.slots.length sc]] w (TellB w (wideB R)) := by
  obtain ⟨V, hV, hB0, k0, k1⟩ := box1 w (.slice la R.plumbs.length lc) (.slice sa R.slots.length sc) 51
  have HB0 := hid hB0; have HV := hid hV
  have hE : wideB R = (decide (16 < R.plumbs.length) || decide (16 < R.slots.length)) := rfl
  unfold TellB
  rw [hE]
  clear hV hB0 hE
  by_cases h1 : 16 < R.plumbs.length
  · have hI : (16 : Int) < (R.plumbs.length : Int) := by omega
    rw [decide_eq_true h1, Bool.true_or]
    clear h1
    go_enter Try.func33, Try.ntmps33
    go_upto_region 1 with (fail)
    rw [← HV.out]
    go_wp2
    go_ret
    exact ⟨rfl, HB0.out⟩
  · have hI : ¬ (16 : Int) < (R.plumbs.length : Int) := by omega
    rw [decide_eq_false h1, Bool.false_or]
    have hd : decide (16 < R.slots.length) = decide ((16 : Int) < (R.slots.length : Int)) := by rw [Bool.eq_iff_iff]; simp; omega
    rw [hd]
    clear h1 hd
    go_enter Try.func33, Try.ntmps33
    go_upto_region 1 with (fail)
    rw [← HV.out]
    go_wp2
    go_ret
    exact ⟨rfl, HB0.out⟩
end

/-- a level by a number -/
def givN (n : Nat) : Int := ((n % 11 : Nat) : Int) - 5
theorem givN_lv (n : Nat) : -5 ≤ givN n ∧ givN n ≤ 5 := by unfold givN; omega
set_option maxRecDepth 100000 in
theorem given_c (n : Nat) (w : World) (hn : n < 256) : Calls Try.prog 49 #[.int .u8 (n : Int)] w (TellI w (givN n)) := by
  unfold TellI
  have e0 : Int.tmod (n : Int) 11 = ((n % 11 : Nat) : Int) := by rw [Int.tmod_eq_emod_of_nonneg (by omega)]; omega
  have e2 : IntKind.i64.wrap (((n % 11 : Nat) : Int)) = ((n % 11 : Nat) : Int) := wrap_i64_of (by omega) (by omega)
  have e3 : IntKind.i64.wrap (((n % 11 : Nat) : Int) - 5) = ((n % 11 : Nat) : Int) - 5 := wrap_i64_of (by omega) (by omega)
  have hE : givN n = ((n % 11 : Nat) : Int) - 5 := rfl
  rw [hE]
  go_enter Try.func49, Try.ntmps49
  go_wp2
  go_ret
  exact ⟨ret_int (by omega), Below.refl _ _⟩

section
variable (w : World)
set_option maxRecDepth 100000 in
theorem by_c (a b : Int) : Calls Try.prog 57 #[.int .i64 a, .int .i64 b] w fun e w' => e = .returned (.agg #[.int .i64 a, .int .i64 b]) ∧ Below w.heap.size w w' := by
  have hfin := heap_alloc_new w (.cells #[.int .i64 a, .int .i64 b] 32)
  go_enter Try.func57, Try.ntmps57
  go_wp2
  refine bodyPost_ret (results_cell_row rfl _ _ w.heap.size 32 _ (0, 0) _ rfl hfin Try.underlying32 rfl (by kernel_rfl)) rfl ?_
  exact ⟨rfl, bnew _ _⟩
set_option maxRecDepth 100000 in
theorem of_c (v : Value) : Calls Try.prog 64 #[v] w fun e w' => e = .returned v ∧ w' = w := by
  go_enter Try.func64, Try.ntmps64
  go_wp2
  go_ret
  exact ⟨rfl, rfl⟩
set_option maxRecDepth 100000 in
theorem longsOf_c (v : Value) : Calls Try.prog 65 #[v] w fun e w' => e = .returned v ∧ w' = w := by
  go_enter Try.func65, Try.ntmps65
  go_wp2
  go_ret
  exact ⟨rfl, rfl⟩
end

/-- what a valid board can pay -/
def payB (x : Int × Int) : Bool := ((decide (1 ≤ x.2) && decide (x.2 ≤ 100000000)) && decide (0 ≤ x.1)) && decide (x.1 ≤ 500 * x.2)
section
variable (x : Int × Int) (w : World)
set_option maxRecDepth 100000 in
set_option maxHeartbeats 1000000 in
theorem isPay_c : Calls Try.prog 55 #[.agg #[.int .i64 x.1, .int .i64 x.2]] w (TellB w (payB x)) := by
  obtain ⟨V, hV, hB0, k0, k1⟩ := box1 w (.int .i64 x.1) (.int .i64 x.2) 32
  have HB0 := hid hB0; have HV := hid hV
  have hE : payB x = (((decide (1 ≤ x.2) && decide (x.2 ≤ 100000000)) && decide (0 ≤ x.1)) && decide (x.1 ≤ 500 * x.2)) := rfl
  unfold TellB
  rw [hE]
  obtain ⟨n, d⟩ := x
  simp only at k0 k1 HV ⊢
  clear hV hB0 hE
  by_cases h1 : 1 ≤ d
  case neg =>
    rw [decide_eq_false h1, Bool.false_and, Bool.false_and, Bool.false_and]
    go_enter Try.func55, Try.ntmps55
    go_upto_region 1 with (fail)
    rw [← HV.out]
    go_wp2
    go_ret
    exact ⟨rfl, HB0.out⟩
  case pos =>
    rw [decide_eq_true h1, Bool.true_and]
    by_cases h2 : d ≤ 100000000
    case neg =>
      rw [decide_eq_false h2, Bool.false_and, Bool.false_and]
      go_enter Try.func55, Try.ntmps55
      go_upto_region 1 with (fail)
      rw [← HV.out]
      go_wp2
      go_ret
      exact ⟨rfl, HB0.out⟩
    case pos =>
      rw [decide_eq_true h2, Bool.true_and]
      by_cases h3 : 0 ≤ n
      case neg =>
        rw [decide_eq_false h3, Bool.false_and]
        go_enter Try.func55, Try.ntmps55
        go_upto_region 1 with (fail)
        rw [← HV.out]
        go_wp2
        go_ret
        exact ⟨rfl, HB0.out⟩
      case pos =>
        rw [decide_eq_true h3, Bool.true_and]
        have e1 : IntKind.i64.wrap (500 * d) = 500 * d := wrap_i64_of (by omega) (by omega)
        go_enter Try.func55, Try.ntmps55
        go_upto_region 1 with (fail)
        rw [← HV.out]
        go_wp2
        go_ret
        exact ⟨rfl, HB0.out⟩
end

section
variable (x y : Int × Int) (w : World)
/-- a pay is less than another one, by the law's own reckoning -/
def lessP (x y : Int × Int) : Bool := decide (x.1 * (100000000 / x.2) < y.1 * (100000000 / y.2))
theorem payB_iff {x : Int × Int} : payB x = true ↔ ((1 ≤ x.2 ∧ x.2 ≤ 100000000) ∧ 0 ≤ x.1) ∧ x.1 ≤ 500 * x.2 := by
  unfold payB; simp only [Bool.and_eq_true, decide_eq_true_eq]
theorem payB_share {x : Int × Int} (h : payB x = true) : 0 ≤ 100000000 / x.2 ∧ 100000000 / x.2 ≤ 100000000 ∧ 0 ≤ x.1 * (100000000 / x.2) ∧ x.1 * (100000000 / x.2) ≤ 50000000000 := by
  obtain ⟨⟨⟨h1, h2⟩, h3⟩, h4⟩ := payB_iff.1 h
  have a1 : 0 ≤ 100000000 / x.2 := Int.ediv_nonneg (by omega) (by omega)
  have a2 : x.2 * (100000000 / x.2) ≤ 100000000 := Int.mul_ediv_self_le (by omega)
  refine ⟨a1, Int.le_trans (by have := Int.mul_le_mul_of_nonneg_right h1 a1; omega) a2, Int.mul_nonneg h3 a1, ?_⟩
  have := Int.mul_le_mul_of_nonneg_right h4 a1
  rw [Int.mul_assoc] at this
  omega
set_option maxRecDepth 100000 in
set_option maxHeartbeats 1000000 in
theorem lessP_c (hx : payB x = true) (hy : payB y = true) : Calls Try.prog 56 #[.agg #[.int .i64 x.1, .int .i64 x.2], .agg #[.int .i64 y.1, .int .i64 y.2]] w (TellB w (lessP x y)) := by
  obtain ⟨V, hV, hB0, k0, k1, k2, k3⟩ := box2 w (.int .i64 x.1) (.int .i64 x.2) (.int .i64 y.1) (.int .i64 y.2) 32 32
  have HB0 := hid hB0; have HV := hid hV
  have hE : lessP x y = decide (x.1 * (100000000 / x.2) < y.1 * (100000000 / y.2)) := rfl
  obtain ⟨a1, a2, a3, a4⟩ := payB_share hx
  obtain ⟨b1, b2, b3, b4⟩ := payB_share hy
  obtain ⟨⟨⟨h1, _⟩, _⟩, _⟩ := payB_iff.1 hx
  obtain ⟨⟨⟨g1, _⟩, _⟩, _⟩ := payB_iff.1 hy
  unfold TellB
  rw [hE]
  obtain ⟨n, d⟩ := x
  obtain ⟨m, e⟩ := y
  simp only at *
  have e0 : Int.tdiv 100000000 d = 100000000 / d := Int.tdiv_eq_ediv_of_nonneg (by omega)
  have e1 : Int.tdiv 100000000 e = 100000000 / e := Int.tdiv_eq_ediv_of_nonneg (by omega)
  have d0 : ¬ d = 0 := by omega
  have d1 : ¬ e = 0 := by omega
  obtain ⟨u, hu⟩ : ∃ u, u = 100000000 / d := ⟨_, rfl⟩
  obtain ⟨v, hv⟩ : ∃ v, v = 100000000 / e := ⟨_, rfl⟩
  rw [← hu] at a1 a2 a3 a4 e0 ⊢
  rw [← hv] at b1 b2 b3 b4 e1 ⊢
  have w0 : IntKind.i64.wrap u = u := wrap_i64_of (by omega) (by omega)
  have w1 : IntKind.i64.wrap v = v := wrap_i64_of (by omega) (by omega)
  have w2 : IntKind.i64.wrap (n * u) = n * u := wrap_i64_of (by omega) (by omega)
  have w3 : IntKind.i64.wrap (m * v) = m * v := wrap_i64_of (by omega) (by omega)
  have HP := hid (power_c 8 V (by omega))
  clear hV hB0 hE hu hv a1 a2 a3 a4 b1 b2 b3 b4 h1 g1 hx hy
  go_enter Try.func56, Try.ntmps56
  go_upto_region 1 with (fail)
  rw [← HV.out]
  go_wp2_with fail
  refine HP.out.mono ?_
  rintro e w' ⟨rfl, rfl⟩
  have j0 := fun s : Later V => cstep k0 s.h
  have j1 := fun s : Later V => cstep k1 s.h
  have j2 := fun s : Later V => cstep k2 s.h
  have j3 := fun s : Later V => cstep k3 s.h
  clear k0 k1 k2 k3
  go_wp2_with fail
  refine wp_region_later (by kernel_rfl) (by kernel_rfl) ?_
  repeat (go_big_quiet_step (fail))
  refine wpQuiet_nil ?_
  rintro w9 ⟨⟨_, hB1⟩, rfl⟩
  have HB1 := hid (bstep HB0.out hB1)
  clear hB1 j0 j1 j2 j3
  go_wp2
  go_ret
  exact ⟨rfl, HB1.out⟩
end

/-- the board of the chapter's examples -/
def exB : Bd := ⟨[[5], [3, 8]], [2, 0, 6]⟩
def exR : Rd := ⟨[(-1, 5)], [1]⟩
def exS : Rd := ⟨[(-5, -5)], [1]⟩
set_option maxRecDepth 100000 in
set_option maxHeartbeats 1000000 in
theorem board_world (w : World) (c : Obj) : ∃ A, A = ((((w.alloc c).alloc (.cells #[.int .i64 5] 3)).alloc (.cells #[.int .i64 3, .int .i64 8] 3)).alloc (.cells #[.slice (some ⟨w.heap.size + 1, 0, none⟩) 1 1, .slice (some ⟨w.heap.size + 1 + 1, 0, none⟩) 2 2] 42)).alloc (.cells #[.int .i64 2, .int .i64 0, .int .i64 6] 2) ∧
    Below w.heap.size w A ∧ A.heap[w.heap.size]? = some c ∧ BdAt A (some ⟨w.heap.size + 1 + 1 + 1, 0, none⟩) (some ⟨w.heap.size + 1 + 1 + 1 + 1, 0, none⟩) exB := by
  obtain ⟨A0, h0⟩ : ∃ A0, A0 = w.alloc c := ⟨_, rfl⟩
  have z0 : A0.heap.size = w.heap.size + 1 := by rw [h0]; simp
  obtain ⟨A1, h1⟩ : ∃ A1, A1 = A0.alloc (.cells #[.int .i64 5] 3) := ⟨_, rfl⟩
  have z1 : A1.heap.size = w.heap.size + 1 + 1 := by rw [h1]; simp [z0]
  obtain ⟨A2, h2⟩ : ∃ A2, A2 = A1.alloc (.cells #[.int .i64 3, .int .i64 8] 3) := ⟨_, rfl⟩
  have z2 : A2.heap.size = w.heap.size + 1 + 1 + 1 := by rw [h2]; simp [z1]
  obtain ⟨A3, h3⟩ : ∃ A3, A3 = A2.alloc (.cells #[.slice (some ⟨w.heap.size + 1, 0, none⟩) 1 1, .slice (some ⟨w.heap.size + 1 + 1, 0, none⟩) 2 2] 42) := ⟨_, rfl⟩
  have z3 : A3.heap.size = w.heap.size + 1 + 1 + 1 + 1 := by rw [h3]; simp [z2]
  have b0 : Below w.heap.size w A0 := by rw [h0]; exact bnew _ _
  have b1 : Below A0.heap.size A0 A1 := by rw [h1]; exact bnew _ _
  have b2 : Below A1.heap.size A1 A2 := by rw [h2]; exact bnew _ _
  have b3 : Below A2.heap.size A2 A3 := by rw [h3]; exact bnew _ _
  have b4 := bnew A3 (.cells #[.int .i64 2, .int .i64 0, .int .i64 6] 2)
  have i1 : IntsAt A1 (some ⟨w.heap.size + 1, 0, none⟩) [5] := by rw [h1]; exact intsAt_new A0 [5] _ 3 z0.symm
  have i2 : IntsAt A2 (some ⟨w.heap.size + 1 + 1, 0, none⟩) [3, 8] := by rw [h2]; exact intsAt_new A1 [3, 8] _ 3 z1.symm
  have hr := heap_alloc_new A2 (.cells #[.slice (some ⟨w.heap.size + 1, 0, none⟩) 1 1, .slice (some ⟨w.heap.size + 1 + 1, 0, none⟩) 2 2] 42)
  rw [← h3, z2] at hr
  have i1' := ((i1.mono b2).mono b3)
  have i2' := (i2.mono b3)
  have i3 : RowsAt A3 (some ⟨w.heap.size + 1 + 1 + 1, 0, none⟩) [[5], [3, 8]] := by
    refine .inr ⟨_, 0, rfl, fun j hj => ?_⟩
    match j, hj with
    | 0, _ => exact ⟨_, 1, by rw [cell_of_row _ _ _ _ _ _ hr]; rfl, i1', fun h => by cases h⟩
    | 1, _ => exact ⟨_, 2, by rw [cell_of_row _ _ _ _ _ _ hr]; rfl, i2', fun h => by cases h⟩
  refine ⟨_, by rw [← h0, ← h1, ← h2, ← h3], bstep (bstep (bstep (bstep b0 b1) b2) b3) b4, ?_, i3.mono b4, intsAt_new A3 [2, 0, 6] _ 2 z3.symm⟩
  have g0 := heap_alloc_new w c
  rw [← h0] at g0
  exact ((bstep (bstep (bstep b1 b2) b3) b4).block _ (by omega)).trans g0
set_option maxRecDepth 100000 in
set_option maxHeartbeats 1000000 in
theorem board_c (w : World) : Calls Try.prog 61 #[] w fun e w' => ∃ g1 g2, e = .returned (.agg #[.slice (some ⟨g1, 0, none⟩) 2 2, .slice (some ⟨g2, 0, none⟩) 3 3]) ∧ BdAt w' (some ⟨g1, 0, none⟩) (some ⟨g2, 0, none⟩) exB ∧ Below w.heap.size w w' := by
  go_enter Try.func61, Try.ntmps61
  go_wp2_with fail
  refine (of_c _ _).mono ?_
  rintro e w1 ⟨rfl, rfl⟩
  go_wp2_with fail
  refine (of_c _ _).mono ?_
  rintro e w1 ⟨rfl, rfl⟩
  go_wp2_with fail
  refine (longsOf_c _ _).mono ?_
  rintro e w1 ⟨rfl, rfl⟩
  obtain ⟨A, hA, hB, hg, hb⟩ := board_world w (.cells #[.slice (some ⟨w.heap.size + 1 + 1 + 1, 0, none⟩) 2 2, .slice (some ⟨w.heap.size + 1 + 1 + 1 + 1, 0, none⟩) 3 3] 25)
  have HA := hid hA; have HB := hid hB; have Hg := hid hg; have Hb := hid hb
  clear hA hB hg hb
  go_wp2
  rw [← HA.out]
  refine bodyPost_ret (results_cell_row rfl _ _ w.heap.size 25 _ (0, 0) _ rfl Hg.out Try.underlying25 rfl (by kernel_rfl)) rfl ?_
  exact ⟨_, _, rfl, Hb.out, HB.out⟩
theorem plumbs_new (w : World) (p : Int × Int) (b : Nat) (hb : b = w.heap.size) : PlumbsAt (w.alloc (.cells #[.int .i64 p.1, .int .i64 p.2] 77)) (some ⟨b, 0, none⟩) [p] := by
  refine .inr ⟨_, 0, rfl, fun j hj => ?_⟩
  match j, hj with
  | 0, _ =>
    subst hb
    have h := heap_alloc_new w (.cells #[.int .i64 p.1, .int .i64 p.2] 77)
    exact ⟨by rw [cell_of_row _ _ _ _ _ _ h]; rfl, by rw [cell_of_row _ _ _ _ _ _ h]; rfl⟩
set_option maxRecDepth 100000 in
set_option maxHeartbeats 1000000 in
theorem read_world (w : World) (c : Obj) (p : Int × Int) (x : Int) : ∃ A, A = ((w.alloc c).alloc (.cells #[.int .i64 p.1, .int .i64 p.2] 77)).alloc (.cells #[.int .i64 x] 3) ∧
    Below w.heap.size w A ∧ A.heap[w.heap.size]? = some c ∧ RdAt A (some ⟨w.heap.size + 1, 0, none⟩) (some ⟨w.heap.size + 1 + 1, 0, none⟩) ⟨[p], [x]⟩ := by
  obtain ⟨A0, h0⟩ : ∃ A0, A0 = w.alloc c := ⟨_, rfl⟩
  have z0 : A0.heap.size = w.heap.size + 1 := by rw [h0]; simp
  obtain ⟨A1, h1⟩ : ∃ A1, A1 = A0.alloc (.cells #[.int .i64 p.1, .int .i64 p.2] 77) := ⟨_, rfl⟩
  have z1 : A1.heap.size = w.heap.size + 1 + 1 := by rw [h1]; simp [z0]
  have b0 : Below w.heap.size w A0 := by rw [h0]; exact bnew _ _
  have b1 : Below A0.heap.size A0 A1 := by rw [h1]; exact bnew _ _
  have b2 := bnew A1 (.cells #[.int .i64 x] 3)
  have i1 : PlumbsAt A1 (some ⟨w.heap.size + 1, 0, none⟩) [p] := by rw [h1]; exact plumbs_new A0 p _ z0.symm
  refine ⟨_, by rw [← h0, ← h1], bstep (bstep b0 b1) b2, ?_, i1.mono b2, intsAt_new A1 [x] _ 3 z1.symm⟩
  have g0 := heap_alloc_new w c
  rw [← h0] at g0
  exact ((bstep b1 b2).block _ (by omega)).trans g0
set_option maxRecDepth 100000 in
set_option maxHeartbeats 1000000 in
theorem one_c (w : World) : Calls Try.prog 62 #[] w fun e w' => ∃ g1 g2, e = .returned (.agg #[.slice (some ⟨g1, 0, none⟩) 1 1, .slice (some ⟨g2, 0, none⟩) 1 1]) ∧ RdAt w' (some ⟨g1, 0, none⟩) (some ⟨g2, 0, none⟩) exR ∧ Below w.heap.size w w' := by
  go_enter Try.func62, Try.ntmps62
  go_wp2_with fail
  refine (of_c _ _).mono ?_
  rintro e w1 ⟨rfl, rfl⟩
  obtain ⟨A, hA, hB, hg, hb⟩ := read_world w (.cells #[.slice (some ⟨w.heap.size + 1, 0, none⟩) 1 1, .slice (some ⟨w.heap.size + 1 + 1, 0, none⟩) 1 1] 51) (-1, 5) 1
  have HA := hid hA; have HB := hid hB; have Hg := hid hg; have Hb := hid hb
  clear hA hB hg hb
  go_wp2
  rw [← HA.out]
  refine bodyPost_ret (results_cell_row rfl _ _ w.heap.size 51 _ (0, 0) _ rfl Hg.out Try.underlying51 rfl (by kernel_rfl)) rfl ?_
  exact ⟨_, _, rfl, Hb.out, HB.out⟩
set_option maxRecDepth 100000 in
set_option maxHeartbeats 1000000 in
theorem two_c (w : World) : Calls Try.prog 63 #[] w fun e w' => ∃ g1 g2, e = .returned (.agg #[.slice (some ⟨g1, 0, none⟩) 1 1, .slice (some ⟨g2, 0, none⟩) 1 1]) ∧ RdAt w' (some ⟨g1, 0, none⟩) (some ⟨g2, 0, none⟩) exS ∧ Below w.heap.size w w' := by
  go_enter Try.func63, Try.ntmps63
  go_wp2_with fail
  refine (of_c _ _).mono ?_
  rintro e w1 ⟨rfl, rfl⟩
  obtain ⟨A, hA, hB, hg, hb⟩ := read_world w (.cells #[.slice (some ⟨w.heap.size + 1, 0, none⟩) 1 1, .slice (some ⟨w.heap.size + 1 + 1, 0, none⟩) 1 1] 51) (-5, -5) 1
  have HA := hid hA; have HB := hid hB; have Hg := hid hg; have Hb := hid hb
  clear hA hB hg hb
  go_wp2
  rw [← HA.out]
  refine bodyPost_ret (results_cell_row rfl _ _ w.heap.size 51 _ (0, 0) _ rfl Hg.out Try.underlying51 rfl (by kernel_rfl)) rfl ?_
  exact ⟨_, _, rfl, Hb.out, HB.out⟩

end Go.Proofs.Ytnnojhpioenhbaa

namespace Go.Proofs.Ytnnojhpioenhbaa
open Go.RowKit Go.Shelf

def readB (B : Bd) (R : Rd) : Bool := (fineB B && !wideB R) && decide (readErr B R = 0)
theorem fineB_lens {B : Bd} (h : fineB B = true) : B.pins.length ≤ 12 ∧ B.pays.length ≤ 16 := by
  have hg : greatB B = false := by
    have e : fineB B = (!greatB B && decide (bdErr B = 0)) := rfl
    rw [e, Bool.and_eq_true] at h
    simpa using h.1
  have e : greatB B = ((decide (12 < B.pins.length) || decide (16 < B.pays.length)) || !(allTo (shortB B) B.pins.length)) := rfl
  rw [e] at hg
  simp only [Bool.or_eq_false_iff, decide_eq_false_iff_not] at hg
  omega
theorem wideB_lens {R : Rd} (h : wideB R = false) : R.plumbs.length ≤ 16 ∧ R.slots.length ≤ 16 := by
  unfold wideB at h
  simp only [Bool.or_eq_false_iff, decide_eq_false_iff_not] at h
  omega
section
variable (pa : Option Addr) (pc : Nat) (ya : Option Addr) (yc : Nat) (la : Option Addr) (lc : Nat) (sa : Option Addr) (sc : Nat) (B : Bd) (R : Rd) (w : World)
set_option maxRecDepth 100000 in
set_option maxHeartbeats 2000000 in
theorem read_c (hb : BdAt w pa ya B) (hr : RdAt w la sa R) : Calls Try.prog 48 #[.agg #[.slice pa B.pins.length pc, .slice ya B.pays.length yc], .agg #[.slice la R.plumbs.length lc, .slice sa R.slots.length sc]] w (TellB w (readB B R)) := by
  obtain ⟨V, hV, hB0, k0, k1, k2, k3⟩ := box2 w (.slice pa B.pins.length pc) (.slice ya B.pays.length yc) (.slice la R.plumbs.length lc) (.slice sa R.slots.length sc) 25 51
  have hbV := hb.mono hB0
  have hrV := hr.mono hB0
  have HB0 := hid hB0; have HV := hid hV; have HV0 := hid (Below.refl V.heap.size V)
  have K0 := hid k0; have K1 := hid k1; have K2 := hid k2; have K3 := hid k3
  have HF := hid (fine_c pa pc ya yc B V hbV)
  have HG := hid fun (w' : World) => wide_c la lc sa sc R w'
  have hE : readB B R = ((fineB B && !wideB R) && decide (readErr B R = 0)) := rfl
  unfold TellB at *
  rw [hE]
  cases hf : fineB B with
  | false =>
    rw [hf] at HF
    rw [Bool.false_and, Bool.false_and]
    clear hE hb hr hV hB0 hbV hrV hf
    go_enter Try.func48, Try.ntmps48
    go_upto_region 1 with (fail)
    rw [← HV.out]
    go_wp2_with fail
    refine (HF.out).mono ?_
    rintro e w1 ⟨rfl, hB⟩
    have HB1 := hid (bstep HV0.out hB)
    clear hB
    go_wp2
    go_ret
    exact ⟨rfl, bstep HB0.out HB1.out⟩
  | true =>
    rw [hf] at HF
    rw [Bool.true_and]
    cases hg : wideB R with
    | true =>
      rw [hg] at HG
      rw [Bool.not_true, Bool.false_and]
      clear hE hb hr hV hB0 hbV hrV hf hg
      go_enter Try.func48, Try.ntmps48
      go_upto_region 1 with (fail)
      rw [← HV.out]
      go_wp2_with fail
      refine (HF.out).mono ?_
      rintro e w1 ⟨rfl, hB⟩
      have HB1 := hid (bstep HV0.out hB)
      have k2 := cstep k2 hB
      have k3 := cstep k3 hB
      clear hB
      go_wp2_with fail
      refine (HG.out _).mono ?_
      rintro e w2 ⟨rfl, hB⟩
      have HB2 := hid (bstep HB1.out hB)
      clear hB
      go_wp2
      go_ret
      exact ⟨rfl, bstep HB0.out HB2.out⟩
    | false =>
      rw [hg] at HG
      rw [Bool.not_false, Bool.true_and]
      have h1 := fineB_lens hf
      have h2 := wideB_lens hg
      have HC := hid fun (w' : World) (h : Below V.heap.size V w') => rCheckReadings_c pa pc ya yc la lc sa sc B R w' (hbV.mono h) (hrV.mono h) (by omega) (by omega) (by omega)
      unfold TellI at HC
      have hd : decide (readErr B R = 0) = (readErr B R == 0) := rfl
      rw [hd]
      obtain ⟨v, hv⟩ : ∃ v, v = readErr B R := ⟨_, rfl⟩
      rw [← hv] at HC ⊢
      clear hE hb hr hV hB0 hbV hrV hf hg h1 h2 hv hd
      go_enter Try.func48, Try.ntmps48
      go_upto_region 1 with (fail)
      rw [← HV.out]
      go_wp2_with fail
      refine (HF.out).mono ?_
      rintro e w1 ⟨rfl, hB⟩
      have HB1 := hid (bstep HV0.out hB)
      have k0 := cstep k0 hB
      have k1 := cstep k1 hB
      have k2 := cstep k2 hB
      have k3 := cstep k3 hB
      clear hB
      go_wp2_with fail
      refine (HG.out _).mono ?_
      rintro e w2 ⟨rfl, hB⟩
      have HB2 := hid (bstep HB1.out hB)
      have k0 := cstep k0 hB
      have k1 := cstep k1 hB
      have k2 := cstep k2 hB
      have k3 := cstep k3 hB
      clear hB
      go_wp2_with fail
      refine (HC.out _ HB2.out).mono ?_
      rintro e w3 ⟨rfl, hB⟩
      have HB3 := hid (bstep HB2.out hB)
      clear hB
      go_wp2
      go_ret
      exact ⟨rfl, bstep HB0.out HB3.out⟩
end

/-- which list comes first -/
def beforeL : List Int → List Int → Bool
  | x :: a, y :: b => if x = y then beforeL a b else decide (x < y)
  | _, _ => false
theorem beforeL_step {xs ys : List Int} : ∀ {k : Nat}, k < xs.length → k < ys.length → beforeL (xs.drop k) (ys.drop k) = if nth xs k = nth ys k then beforeL (xs.drop (k + 1)) (ys.drop (k + 1)) else decide (nth xs k < nth ys k) := by
  intro k h1 h2
  rw [List.drop_eq_getElem_cons h1, List.drop_eq_getElem_cons h2, beforeL, nth_eq h1, nth_eq h2]
theorem beforeL_end {xs ys : List Int} {k : Nat} (h : xs.length ≤ k ∨ ys.length ≤ k) : beforeL (xs.drop k) (ys.drop k) = false := by
  rcases h with h | h
  · rw [List.drop_eq_nil_of_le h]; rfl
  · rw [List.drop_eq_nil_of_le h]; cases xs.drop k <;> rfl
set_option maxRecDepth 100000 in
set_option maxHeartbeats 1000000 in
theorem before_c (a1 a2 : Option Addr) (c1 c2 : Nat) (xs ys : List Int) (w : World) (hx : IntsAt w a1 xs) (hy : IntsAt w a2 ys) (hb : xs.length ≤ 1000000) :
    Calls Try.prog 60 #[.slice a1 xs.length c1, .slice a2 ys.length c2] w (TellB w (beforeL xs ys)) := by
  unfold TellB
  have HZ := hid (show beforeL xs ys = beforeL (xs.drop 0) (ys.drop 0) from rfl)
  go_enter Try.func60, Try.ntmps60
  go_wp2
  go_loopw [5] (fun i wr => ∃ k : Nat, k ≤ xs.length ∧ i = .int .i64 k ∧ beforeL xs ys = beforeL (xs.drop k) (ys.drop k) ∧ Below w.heap.size w wr) (fun i _ => xs.length - (intOf i).toNat)
  case atStart => exact ⟨0, Nat.zero_le _, rfl, rfl, Below.refl _ _⟩
  case round =>
    obtain ⟨k, hk, rfl, ht, hB⟩ := hrel
    obtain ⟨wk, rfl⟩ : ∃ wk : World, wk = wr := ⟨_, rfl⟩
    have HB := hid hB
    by_cases hlt : k < xs.length
    · have hltI : (k : Int) < (xs.length : Int) := by omega
      by_cases hlt2 : k < ys.length
      · have hltI2 : (k : Int) < (ys.length : Int) := by omega
        obtain ⟨b, off, rfl, _⟩ := hx.at hlt
        obtain ⟨b2, off2, rfl, _⟩ := hy.at hlt2
        have hc := (hx.mono hB).cell hlt
        have hc2 := (hy.mono hB).cell hlt2
        rw [beforeL_step hlt hlt2] at ht
        obtain ⟨x, hxx⟩ : ∃ x, x = nth xs k := ⟨_, rfl⟩
        obtain ⟨y, hyy⟩ : ∃ y, y = nth ys k := ⟨_, rfl⟩
        rw [← hxx] at hc ht
        rw [← hyy] at hc2 ht
        have Ht := hid ht
        have j0 := fun s : Later wk => cstep hc s.h
        have j1 := fun s : Later wk => cstep hc2 s.h
        have Hc := hid hc; have Hc2 := hid hc2
        clear ht hB hc hc2 hxx hyy hx hy
        by_cases he : x = y
        · have heb : (x != y) = false := by simp [he]
          have Hn := hid (Ht.out.trans (if_pos he))
          clear he
          go_wp2
          refine wp_region_later (by kernel_rfl) (by kernel_rfl) ?_
          repeat (go_big_quiet_step (fail))
          refine wpQuiet_nil ?_
          rintro w1 ⟨⟨_, hB1⟩, rfl⟩
          have HB1 := hid (bstep HB.out hB1)
          clear hB1 j0 j1
          go_wp2
          go_roundw
          case rel => exact ⟨k + 1, hlt, by go_num, Hn.out, HB1.out⟩
          case measure => simp [intOf]; omega
        · have heb : (x != y) = true := by simp [he]
          have Hn := hid (Ht.out.trans (if_neg he)); clear he
          go_wp2
          refine wp_region_later (by kernel_rfl) (by kernel_rfl) ?_
          repeat (go_big_quiet_step (fail))
          refine wpQuiet_nil ?_
          rintro w1 ⟨⟨_, hB1⟩, rfl⟩
          have j2 := fun s : Later w1 => cstep (cstep Hc.out hB1) s.h
          have j3 := fun s : Later w1 => cstep (cstep Hc2.out hB1) s.h
          have HB1 := hid (bstep HB.out hB1)
          clear hB1 j0 j1
          go_upto_region 5 with (fail)
          refine wp_region_later (by kernel_rfl) (by kernel_rfl) ?_
          repeat (go_big_quiet_step (fail))
          refine wpQuiet_nil ?_
          rintro w2 ⟨⟨_, hB2⟩, rfl⟩
          have HB2 := hid (bstep HB1.out hB2)
          clear hB2 j2 j3
          go_wp2
          go_ret
          exact ⟨ret_bool (by rw [Hn.out]), HB2.out⟩
      · have hltI2 : ¬ (k : Int) < (ys.length : Int) := by omega
        rw [beforeL_end (.inr (by omega))] at ht
        have Ht := hid ht
        clear ht hB
        go_wp2
        go_ret
        exact ⟨ret_bool Ht.out.symm, HB.out⟩
    · have hltI : ¬ (k : Int) < (xs.length : Int) := by omega
      rw [beforeL_end (.inl (by omega))] at ht
      have Ht := hid ht
      clear ht hB
      go_wp2
      go_ret
      exact ⟨ret_bool Ht.out.symm, HB.out⟩

end Go.Proofs.Ytnnojhpioenhbaa

namespace Go.Proofs.Ytnnojhpioenhbaa
open Go.RowKit Go.Shelf

theorem waysX_ok {B : Bd} {lv : Int} (hB : Bok B) (hlv : -5 ≤ lv ∧ lv ≤ 5) : atErr B lv = 0 ∧ (waysX B lv).length = B.pins.length + 1 ∧ (∀ k, k < B.pins.length + 1 → nth (waysX B lv) k = W (Rt B lv) B.pins.length k) ∧ ∀ k, k < B.pins.length + 1 → 0 ≤ nth (waysX B lv) k ∧ nth (waysX B lv) k ≤ 100000000 := by
  have h0 : atErr B lv = 0 := atErr_zero.2 ⟨hB, hlv⟩
  have hn := hB.n8
  have e : waysX B lv = (wv (Rt B lv) B.pins.length).take (B.pins.length + 1) := by unfold waysX; rw [if_pos h0]
  have hk : ∀ k, k < B.pins.length + 1 → nth (waysX B lv) k = W (Rt B lv) B.pins.length k := fun k hk => by
    rw [e, nth_take hk, nth_wv _ _ (by omega)]
  refine ⟨h0, ?_, hk, fun k h => ?_⟩
  · rw [e, List.length_take]; simp [wv]; omega
  · rw [hk k h]
    refine ⟨W_nonneg (Rt_ok B lv _) k, Int.le_trans (W_le (Rt_ok B lv _) k) ?_⟩
    have h1 : 10 ^ B.pins.length ≤ 10 ^ 8 := Nat.pow_le_pow_right (by omega) hn
    have h2 : ((10 ^ B.pins.length : Nat) : Int) ≤ ((10 ^ 8 : Nat) : Int) := Int.ofNat_le.2 h1
    simpa using h2

section
variable (pa : Option Addr) (pc : Nat) (ya : Option Addr) (yc : Nat) (B : Bd) (lv : Int) (w : World)
set_option maxRecDepth 100000 in
set_option maxHeartbeats 2000000 in
theorem waysLaw_c (hb : BdAt w pa ya B) (hB : Bok B) (hlv : -5 ≤ lv ∧ lv ≤ 5) :
    Calls Try.prog 53 #[.agg #[.slice pa B.pins.length pc, .slice ya B.pays.length yc], .int .i64 lv] w fun e w' => ∃ ao cap, e = .returned (.tuple #[.slice ao (B.pins.length + 1) cap, .bool true]) ∧ IntsAt w' ao (waysX B lv) ∧ (ao = none → cap = 0) ∧ Below w.heap.size w w' := by
  obtain ⟨V, hV, hB0, k0, k1⟩ := box1 w (.slice pa B.pins.length pc) (.slice ya B.pays.length yc) 25
  have hbV := hb.mono hB0
  have HB0 := hid hB0; have HV := hid hV; have HV0 := hid (Below.refl V.heap.size V)
  have K0 := hid k0; have K1 := hid k1
  have hn := hB.n8
  have hp := hB.pays
  obtain ⟨h0, hl, _, hr⟩ := waysX_ok hB hlv
  have HC := hid fun (w' : World) (h : Below V.heap.size V w') => pWays_c pa pc ya yc B lv w' (hbV.mono h) (by omega) (by omega)
  unfold SliceE at HC
  rw [h0] at HC
  obtain ⟨L, hL⟩ : ∃ L, L = waysX B lv := ⟨_, rfl⟩
  rw [← hL] at HC hl hr ⊢
  obtain ⟨n, hN⟩ : ∃ n, n = B.pins.length := ⟨_, rfl⟩
  have e1 : IntKind.i64.wrap ((B.pins.length : Int) + 1) = (B.pins.length : Int) + 1 := wrap_i64_of (by omega) (by omega)
  have e2 : ((L.length : Int) != (B.pins.length : Int) + 1) = false := by simp; omega
  have Hr := hid hr; have Hl := hid hl; have Hl9 := hid (show L.length ≤ 9 by omega)
  clear hb hB hlv hn hp hV hB0 hbV hL h0 hr hN
  go_enter Try.func53, Try.ntmps53
  go_upto_region 1 with (fail)
  rw [← HV.out]
  go_wp2_with fail
  refine (HC.out _ HV0.out).mono ?_
  rintro e w1 ⟨ao, cap, rfl, hx, hcn, hB⟩
  have HB1 := hid (bstep HV0.out hB)
  have k0 := cstep k0 hB
  have k1 := cstep k1 hB
  clear hB
  have Hx := hid hx; have Hcn := hid hcn
  clear hx hcn hl
  go_wp2
  go_loopw [8] (fun i wr => ∃ k : Nat, k ≤ L.length ∧ i = .int .i64 k ∧ Below w1.heap.size w1 wr) (fun i _ => L.length - (intOf i).toNat)
  case atStart => exact ⟨0, Nat.zero_le _, rfl, Below.refl _ _⟩
  case round =>
    obtain ⟨k, hk, rfl, hB⟩ := hrel
    obtain ⟨wk, rfl⟩ : ∃ wk : World, wk = wr := ⟨_, rfl⟩
    have HB := hid hB
    by_cases hlt : k < L.length
    · have hltI : (k : Int) < (L.length : Int) := by omega
      obtain ⟨b, off, rfl, _⟩ := Hx.out.at hlt
      have hc := (Hx.out.mono hB).cell hlt
      have hr := Hr.out k (by rw [← Hl.out]; exact hlt)
      obtain ⟨x, hxx⟩ : ∃ x, x = nth L k := ⟨_, rfl⟩
      rw [← hxx] at hc hr
      have e3 : IntKind.i64.wrap ((k : Int) + 1) = (k : Int) + 1 := wrap_i64_of (by omega) (by have := Hl9.out; omega)
      have hx1 : ¬ x < 0 := by omega
      have hx2 : ¬ 100000000 < x := by omega
      clear hB hxx hr
      go_wp2
      go_roundw
      case rel => exact ⟨k + 1, hlt, by go_num, HB.out⟩
      case measure => simp [intOf]; omega
    · have hltI : ¬ (k : Int) < (L.length : Int) := by omega
      clear hB
      go_wp2
      go_ret2
      exact ⟨ao, cap, by rw [← Hl.out]; rfl, Hx.out.mono HB.out, Hcn.out, bstep HB0.out (bstep HB1.out HB.out)⟩
end

end Go.Proofs.Ytnnojhpioenhbaa
