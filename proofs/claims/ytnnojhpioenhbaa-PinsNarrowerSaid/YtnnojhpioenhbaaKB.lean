/- Walks: within, ContainsFunc, IndexFunc. (Turned from the plea seat's texts.) Boards in memory. Walks: Grow and Concat of Go's library, CheckBoard. Walks: CheckBoard of the reference, the levels' errors, great, fine. Valid boards, frames in memory. Walks: right of the program and of the reference, great, wide, fine, open, levelled. Walks: open, levelled. A map from spots to numbers, as a function: looked up, written at an entry, deleted from, ranged over. -/
import Derived.Test.YtnnojhpioenhbaaKA
import Derived.Deep.RegionHeld3
import Derived.Deep.DeepCutAuto
import Derived.Deep.RegionLaw
import Derived.BigRegion
import Derived.Deep.RegionWith
import Derived.StillTailTactics
import Derived.Laws.Rows
import Derived.Laws.ResultCell
import Derived.Laws.EntriesVeiled
import Derived.Maps.OwnSet
import Derived.Maps.RangeWalk
import Derived.DeepKeys4
import Derived.ChangeKeys
import Derived.WideKeyEntry
namespace Go.Proofs.Ytnnojhpioenhbaa
open Go.RowKit Go.Shelf

def within (lo hi : Int) (l : List Int) : Bool := l.all fun n => decide (lo ≤ n) && decide (n ≤ hi)

set_option maxHeartbeats 400000 in
theorem within1_c (p q : Nat) (n lo hi : Int) (w : World) (hp : w.cell? ⟨p, 0, none⟩ = some (.int .i64 lo)) (hq : w.cell? ⟨q, 0, none⟩ = some (.int .i64 hi)) :
    Calls Try.prog 106 #[.int .i64 n, .pointer (some ⟨p, 0, none⟩), .pointer (some ⟨q, 0, none⟩)] w fun e w' => e = .returned (.bool (decide (n < lo) || decide (hi < n))) ∧ w = w' := by
  go_enter Try.func106, Try.ntmps106
  go_wp2
  · have h : lo ≤ n := by assumption
    go_ret
    exact ⟨ret_bool (by simp), rfl⟩
  · have h : n < lo := by assumption
    go_ret
    exact ⟨ret_bool (by simp), rfl⟩

def AnyP (p : Int → Bool) (xs : List Int) (w : World) (e : Ending) (w' : World) : Prop :=
  ∃ i : Int, e = .returned (.int .i64 i) ∧ decide (0 ≤ i) = xs.any p ∧ w = w'

set_option maxHeartbeats 400000 in
theorem indexFunc_c (a : Option Addr) (cap g : Nat) (caps : Array Value) (p : Int → Bool) (xs : List Int) (w : World) (hx : IntsAt w a xs) (hb : xs.length ≤ 1000000)
    (hg : ∀ k, k < xs.length → Calls Try.prog g (#[.int .i64 (nth xs k)] ++ caps) w fun e w' => e = .returned (.bool (p (nth xs k))) ∧ w = w')
    (eg : ∀ args w, (callFunc g args).run Try.prog w = .ok (.enter g args) w) :
    Calls Try.prog 113 #[.slice a xs.length cap, .func (.func g) #[] caps] w (AnyP p xs w) := by
  go_enter Try.func113, Try.ntmps113
  go_wp2
  go_loop [5, 8] (fun _ i => ∃ k : Nat, k ≤ xs.length ∧ i = .int .i64 k ∧ (xs.take k).any p = false) (fun _ i => xs.length - (intOf i).toNat)
  case atStart => exact ⟨0, Nat.zero_le _, rfl, rfl⟩
  case round =>
    obtain ⟨k, hk, rfl, hp⟩ := hrel
    have Hp := hid hp; clear hp
    by_cases hlt : k < xs.length
    · obtain ⟨b, off, rfl, hc⟩ := hx.at hlt
      have Ht := hid (any_take_succ p hlt)
      have Hx := hid hx; clear hx
      have Hg := hid hg; clear hg
      cases hpk : p (nth xs k) with
      | false =>
        have Hpk := hid hpk; clear hpk
        go_wp2_with fail
        refine (Hg.out k hlt).mono ?_
        rintro e w' ⟨rfl, rfl⟩
        rw [Hpk.out]
        go_wp2
        go_round
        case rel => exact ⟨k + 1, by omega, by go_num, by rw [Ht.out, Hp.out, Hpk.out]; rfl⟩
        case measure => simp [intOf]; omega
      | true =>
        have Hpk := hid hpk; clear hpk
        go_wp2_with fail
        refine (Hg.out k hlt).mono ?_
        rintro e w' ⟨rfl, rfl⟩
        rw [Hpk.out]
        go_wp2
        go_ret
        refine ⟨k, rfl, ?_, rfl⟩
        simp
        exact ⟨_, nth_mem hlt, Hpk.out⟩
    · go_wp2
      go_ret
      refine ⟨-1, rfl, ?_, rfl⟩
      have hp := Hp.out
      rw [List.take_of_length_le (by omega)] at hp
      rw [hp]; rfl

set_option maxHeartbeats 400000 in
theorem containsFunc_c (a : Option Addr) (cap g : Nat) (caps : Array Value) (p : Int → Bool) (xs : List Int) (w : World) (hx : IntsAt w a xs) (hb : xs.length ≤ 1000000)
    (hg : ∀ k, k < xs.length → Calls Try.prog g (#[.int .i64 (nth xs k)] ++ caps) w fun e w' => e = .returned (.bool (p (nth xs k))) ∧ w = w')
    (eg : ∀ args w, (callFunc g args).run Try.prog w = .ok (.enter g args) w) :
    Calls Try.prog 105 #[.slice a xs.length cap, .func (.func g) #[] caps] w fun e w' => e = .returned (.bool (xs.any p)) ∧ w = w' := by
  have H := hid (indexFunc_c a cap g caps p xs w hx hb hg eg)
  generalize hy : xs.any p = y
  have Hy := hid hy
  clear hx hg eg hy
  go_enter Try.func105, Try.ntmps105
  go_wp2_with fail
  refine H.out.mono ?_
  rintro e w' ⟨i, rfl, hi, rfl⟩
  have Hi := hid hi; clear hi
  go_wp2
  go_ret
  exact ⟨ret_bool (Hi.out.trans Hy.out), rfl⟩

set_option maxHeartbeats 400000 in
theorem indexFunc64_c (a : Option Addr) (cap g : Nat) (caps : Array Value) (p : Int → Bool) (xs : List Int) (w : World) (hx : IntsAt w a xs) (hb : xs.length ≤ 1000000)
    (hg : ∀ k, k < xs.length → Calls Try.prog g (#[.int .i64 (nth xs k)] ++ caps) w fun e w' => e = .returned (.bool (p (nth xs k))) ∧ w = w')
    (eg : ∀ args w, (callFunc g args).run Try.prog w = .ok (.enter g args) w) :
    Calls Try.prog 109 #[.slice a xs.length cap, .func (.func g) #[] caps] w (AnyP p xs w) := by
  go_enter Try.func109, Try.ntmps109
  go_wp2
  go_loop [5, 8] (fun _ i => ∃ k : Nat, k ≤ xs.length ∧ i = .int .i64 k ∧ (xs.take k).any p = false) (fun _ i => xs.length - (intOf i).toNat)
  case atStart => exact ⟨0, Nat.zero_le _, rfl, rfl⟩
  case round =>
    obtain ⟨k, hk, rfl, hp⟩ := hrel
    have Hp := hid hp; clear hp
    by_cases hlt : k < xs.length
    · obtain ⟨b, off, rfl, hc⟩ := hx.at hlt
      have Ht := hid (any_take_succ p hlt)
      have Hx := hid hx; clear hx
      have Hg := hid hg; clear hg
      cases hpk : p (nth xs k) with
      | false =>
        have Hpk := hid hpk; clear hpk
        go_wp2_with fail
        refine (Hg.out k hlt).mono ?_
        rintro e w' ⟨rfl, rfl⟩
        rw [Hpk.out]
        go_wp2
        go_round
        case rel => exact ⟨k + 1, by omega, by go_num, by rw [Ht.out, Hp.out, Hpk.out]; rfl⟩
        case measure => simp [intOf]; omega
      | true =>
        have Hpk := hid hpk; clear hpk
        go_wp2_with fail
        refine (Hg.out k hlt).mono ?_
        rintro e w' ⟨rfl, rfl⟩
        rw [Hpk.out]
        go_wp2
        go_ret
        refine ⟨k, rfl, ?_, rfl⟩
        simp
        exact ⟨_, nth_mem hlt, Hpk.out⟩
    · go_wp2
      go_ret
      refine ⟨-1, rfl, ?_, rfl⟩
      have hp := Hp.out
      rw [List.take_of_length_le (by omega)] at hp
      rw [hp]; rfl

set_option maxHeartbeats 400000 in
theorem containsFunc64_c (a : Option Addr) (cap g : Nat) (caps : Array Value) (p : Int → Bool) (xs : List Int) (w : World) (hx : IntsAt w a xs) (hb : xs.length ≤ 1000000)
    (hg : ∀ k, k < xs.length → Calls Try.prog g (#[.int .i64 (nth xs k)] ++ caps) w fun e w' => e = .returned (.bool (p (nth xs k))) ∧ w = w')
    (eg : ∀ args w, (callFunc g args).run Try.prog w = .ok (.enter g args) w) :
    Calls Try.prog 77 #[.slice a xs.length cap, .func (.func g) #[] caps] w fun e w' => e = .returned (.bool (xs.any p)) ∧ w = w' := by
  have H := hid (indexFunc64_c a cap g caps p xs w hx hb hg eg)
  generalize hy : xs.any p = y
  have Hy := hid hy
  clear hx hg eg hy
  go_enter Try.func77, Try.ntmps77
  go_wp2_with fail
  refine H.out.mono ?_
  rintro e w' ⟨i, rfl, hi, rfl⟩
  have Hi := hid hi; clear hi
  go_wp2
  go_ret
  exact ⟨ret_bool (Hi.out.trans Hy.out), rfl⟩

theorem any_within (lo hi : Int) (xs : List Int) : (!(xs.any fun n => decide (n < lo) || decide (hi < n))) = within lo hi xs := by
  unfold within
  induction xs with
  | nil => rfl
  | cons x xs ih =>
    simp only [List.any_cons, List.all_cons, Bool.not_or, ih]
    congr 1
    by_cases h1 : x < lo <;> by_cases h2 : hi < x <;> simp [h1, h2] <;> omega

theorem enters106 : ∀ args w, (callFunc 106 args).run Try.prog w = .ok (.enter 106 args) w := enters_of Try.func106 (by kernel_rfl) rfl

set_option maxHeartbeats 400000 in
theorem within_c (a : Option Addr) (cap : Nat) (lo hi : Int) (xs : List Int) (w : World) (hx : IntsAt w a xs) (hb : xs.length ≤ 1000000) :
    Calls Try.prog 72 #[.int .i64 lo, .int .i64 hi, .slice a xs.length cap] w fun e w' => e = .returned (.bool (within lo hi xs)) ∧ Below w.heap.size w w' := by
  have hw := any_within lo hi xs
  have Hw := hid hw; clear hw
  have B1 : Below w.heap.size w ((w.alloc (.cells #[.int .i64 lo] 3)).alloc (.cells #[.int .i64 hi] 3)) := ((Below.refl _ _).alloc (Nat.le_refl _) _).alloc (by simp) _
  have hx1 := hx.mono B1
  have H := hid (containsFunc_c a cap 106 #[.pointer (some ⟨w.heap.size, 0, none⟩), .pointer (some ⟨w.heap.size + 1, 0, none⟩)] (fun n => decide (n < lo) || decide (hi < n)) xs _ hx1 hb
    (fun k _ => within1_c w.heap.size (w.heap.size + 1) (nth xs k) lo hi _ (by simp) (by simp)) enters106)
  clear hx hx1
  have HB := hid B1; clear B1
  go_enter Try.func72, Try.ntmps72
  go_wp2_with fail
  refine H.out.mono ?_
  rintro e w' ⟨rfl, rfl⟩
  go_wp2
  go_ret
  exact ⟨ret_bool Hw.out, HB.out⟩


end Go.Proofs.Ytnnojhpioenhbaa

namespace Go.Proofs.Ytnnojhpioenhbaa
open Go.RowKit Go.Shelf

theorem bnew (w : World) (o : Obj) : Below w.heap.size w (w.alloc o) := (Below.refl _ w).alloc (Nat.le_refl _) o

theorem wrap_i64_nat {a : Nat} (h : a < 2 ^ 62) : IntKind.i64.wrap ((a : Nat) : Int) = (a : Int) := by
  rw [IntKind.wrap_i64]
  omega
theorem wrap_i64_of {a : Int} (h0 : -(2 ^ 62) ≤ a) (h : a < 2 ^ 62) : IntKind.i64.wrap a = a := by
  rw [IntKind.wrap_i64]
  omega

/-- an append of zeros onto nil -/
theorem run_grow_nil (ty : TypeId) (w : World) (n : Nat) (h0 : 0 < n) (hn : n ≤ 1000000) :
    ∃ cap w', (Builtin.append_ #[42, 3] ty #[.slice none 0 0, .int .i64 (n : Int)]).run Try.prog w = .ok (.slice (some ⟨w.heap.size, 0, none⟩) n cap) w' ∧
      OwnI 3 w.heap.size w' (some ⟨w.heap.size, 0, none⟩) 0 cap [] ∧ Below w.heap.size w w' ∧ n ≤ cap := by
  obtain ⟨i, hi, hz, hs, hby⟩ := info_parts et42.hi
  have hge := grownCap_ge w n 0 3
  have hle := grownCap_le_maxLen w n 0 3 (by unfold maxLen; omega)
  refine ⟨grownCap w n 0 3, w.drew.alloc (.cells (Builtin.zeroCells #[.int .i64 0] n ++ Builtin.zeroCells #[.int .i64 0] (grownCap w n 0 3 - n)) 3), ?_, ?_, ?_, hge⟩
  · have hn0 : n ≠ 0 := by omega
    have hw : IntKind.i64.wrap (n : Int) = (n : Int) := wrap_i64_nat (by omega)
    have h1 : ¬ ((n : Int) < 0) := by omega
    have h2 : ¬ (281474976710656 < (n : Int) * 8) := by omega
    have h3 : ¬ (9223372036854775807 < (n : Int)) := by omega
    have h4 : ¬ (281474976710656 < Builtin.nextslicecap n 0 * 8) := by rw [nextslicecap_zero h0]; omega
    simp [Builtin.append_, run_underlying et42.hu, run_underlying Try.underlying3, sizeOf, typeInfo, zeroValue, hi, hz, hs, hby, hw, h1, h2, h3, h4, hn0, Question.forced, run_firstCells_none, newRow, grownCap, asInt, asIntOf, Value.cells]
  · refine ⟨rfl, rfl, .inr ⟨w.heap.size, grownCap w n 0 3, _, rfl, Nat.le_refl _, heap_alloc_new w.drew _, Nat.zero_le _, hle, ?_, rfl⟩⟩
    simp only [Array.size_append, size_zeroCells]
    simp; omega
  · exact ((Below.refl _ w).drew).alloc (by simp) _

theorem wpList_grow_nil {ops : Array Oper} {rest : List Oper} {o : Oper} {a : Act} {Q : Exit → Act → World → Prop} (w : World) (hg : o.guard = none) (s x : Operand)
    (hop : o.op = Op.call { callee := Callee.builtin Builtin.append, args := #[s, x], argTypes := #[42, 3] }) (n : Nat) (h0 : 0 < n) (hn : n ≤ 1000000) (hs : a.eval s = .slice none 0 0) (hx : a.eval x = .int .i64 n)
    (hK : ∀ cap w', OwnI 3 w.heap.size w' (some ⟨w.heap.size, 0, none⟩) 0 cap [] → Below w.heap.size w w' → n ≤ cap → wpList Try.prog ops Q rest (a.put o.dst (.slice (some ⟨w.heap.size, 0, none⟩) n cap)) w') :
    wpList Try.prog ops Q (o :: rest) a w := by
  refine wpList_plain hg fun K hK' => ?_
  obtain ⟨cap, w', hrun, h1, h2, h3⟩ := run_grow_nil o.type w n h0 hn
  unfold Oper.wp
  simp [execOp, hop, resolve, invoke, builtin, hs, hx, hrun, Result.andThen]
  exact hK' _ _ (hK cap w' h1 h2 h3)

set_option maxRecDepth 100000 in
theorem grow_c (n : Nat) (w : World) (hn : n ≤ 1000000) :
    Calls Try.prog 108 #[.slice none 0 0, .int .i64 n] w fun e w' => ∃ ao cap, e = .returned (.slice ao 0 cap) ∧ OwnI 3 w.heap.size w' ao 0 cap [] ∧ Below w.heap.size w w' := by
  have hw : IntKind.i64.wrap ((n : Int) - 0) = (n : Int) := by rw [Int.sub_zero]; exact wrap_i64_nat (by omega)
  by_cases h0 : 0 < n
  · go_enter Try.func108, Try.ntmps108
    go_wp2_with (at_builtin; refine wpList_grow_nil _ rfl _ _ rfl n h0 hn ?c1 ?c2 ?_; rotate_right; (intro cap w' ho hB hc; refine Hid.out ?_))
    case c1 => rfl
    case c2 => rfl
    refine hid ?_
    go_wp2
    go_ret
    exact ⟨_, _, rfl, ho, hB⟩
  · obtain rfl : n = 0 := by omega
    go_enter Try.func108, Try.ntmps108
    go_wp2
    go_ret
    exact ⟨_, _, rfl, OwnI.nil _ _ _, Below.refl _ _⟩

theorem IntsAt.none {w : World} {xs : List Int} (h : IntsAt w Option.none xs) : xs = [] := by
  rcases h with h | ⟨b, off, e, _⟩
  · exact h
  · cases e
theorem flat_succ {ls : List (List Int)} {k : Nat} (h : k < ls.length) : (ls.take (k + 1)).flatten = (ls.take k).flatten ++ nthL ls k := by
  rw [List.take_succ_eq_append_getElem h, List.flatten_append, nthL_eq h]; simp
theorem flat_le (ls : List (List Int)) (k : Nat) : (ls.take k).flatten.length ≤ ls.flatten.length := by
  have h := List.take_append_drop k ls
  have : ls.flatten.length = (ls.take k).flatten.length + (ls.drop k).flatten.length := by rw [← List.length_append, ← List.flatten_append, h]
  omega

/-- the first lists of several, one behind the other -/
def flt (ls : List (List Int)) (k : Nat) : List Int := (ls.take k).flatten
theorem flt_succ {ls : List (List Int)} {k : Nat} (h : k < ls.length) : flt ls (k + 1) = flt ls k ++ nthL ls k := flat_succ h
theorem flt_all (ls : List (List Int)) : flt ls ls.length = ls.flatten := by unfold flt; rw [List.take_length]

set_option maxRecDepth 100000 in
set_option maxHeartbeats 1000000 in
theorem concat_c (a : Option Addr) (cap : Nat) (ls : List (List Int)) (w : World) (hx : RowsAt w a ls) (hl : ls.length ≤ 1000000) (hb : ls.flatten.length ≤ 1000000) :
    Calls Try.prog 76 #[.slice a ls.length cap] w fun e w' => ∃ ao cap', e = .returned (.slice ao ls.flatten.length cap') ∧ IntsAt w' ao ls.flatten ∧ (ao = none → cap' = 0) ∧ Below w.heap.size w w' := by
  have hle : ∀ k, (flt ls k).length ≤ ls.flatten.length := flat_le ls
  rw [← flt_all] at hb hle ⊢
  have HG := hid fun (w' : World) => grow_c (flt ls ls.length).length w' hb
  have Hx := hid hx
  clear hx
  go_enter Try.func76, Try.ntmps76
  go_wp2
  go_loopw [3, 5, 11] (fun s _ i wr => ∃ k : Nat, k ≤ ls.length ∧ i = .int .i64 k ∧ s = .int .i64 ((flt ls k).length : Nat) ∧ wr = w) (fun _ _ i _ => ls.length - (intOf i).toNat)
  case atStart => exact ⟨0, Nat.zero_le _, rfl, rfl, rfl⟩
  case round =>
    obtain ⟨k, hk, rfl, rfl, rfl⟩ := hrel
    by_cases hlt : k < ls.length
    · obtain ⟨b, off, ra, rc, rfl, hc, hrow⟩ := Hx.out.at hlt
      have hs := congrArg List.length (flt_succ hlt)
      rw [List.length_append] at hs
      have hk1 := hle (k + 1)
      obtain ⟨T, hT⟩ : ∃ T, T = (flt ls (k + 1)).length := ⟨_, rfl⟩
      obtain ⟨S, hS⟩ : ∃ S, S = (flt ls k).length := ⟨_, rfl⟩
      rw [← hT, ← hS] at hs
      rw [← hT] at hk1
      have hw : IntKind.i64.wrap ((S : Int) + ((nthL ls k).length : Nat)) = (T : Int) := by
        rw [hs]; have h := wrap_i64_nat (a := S + (nthL ls k).length) (by omega); simpa using h
      rw [← hS]
      have HT := hid hT
      clear hs hS hT hrow hk1 hle
      go_wp2
      go_roundw
      case rel => exact ⟨k + 1, by omega, by go_num, by rw [HT.out], trivial⟩
      case measure => simp [intOf]; omega
    · obtain rfl : k = ls.length := by omega
      have hT := hle 0
      obtain ⟨T, hT⟩ : ∃ T, T = (flt ls ls.length).length := ⟨_, rfl⟩
      rw [← hT] at HG hb ⊢
      have HT := hid hT
      have Hle := hid hle
      clear hT hle
      go_wp2_with fail
      refine (HG.out _).mono ?_
      rintro e w1 ⟨ao, co, rfl, ho, hB⟩
      have Ho := hid ho; have HB := hid hB
      obtain ⟨wc, rfl⟩ : ∃ wc : World, wc = wr := ⟨_, rfl⟩
      clear ho hB HG
      go_wp2
      go_loopw [6, 8, 27] (fun o _ i wr => ∃ (k : Nat) (ao : Option Addr) (co : Nat), k ≤ ls.length ∧ i = .int .i64 k ∧ o = .slice ao (flt ls k).length co ∧ OwnI 3 wc.heap.size wr ao (flt ls k).length co (flt ls k) ∧ Below wc.heap.size wc wr) (fun _ _ i _ => ls.length - (intOf i).toNat)
      case atStart => exact ⟨0, ao, co, Nat.zero_le _, rfl, rfl, Ho.out, HB.out⟩
      case round =>
        obtain ⟨k, ao, co, hk, rfl, rfl, ho, hB⟩ := hrel
        obtain ⟨wo, rfl⟩ : ∃ wo : World, wo = wr := ⟨_, rfl⟩
        have Hao := hid ho; have HBo := hid hB
        have hsz := hB.size
        clear ho hB HB Ho
        by_cases hlt : k < ls.length
        · obtain ⟨b, off, ra, rc, rfl, hc, hrow, hrn⟩ := (Hx.out.mono HBo.out).at hlt
          have hs := congrArg List.length (flt_succ hlt)
          rw [List.length_append] at hs
          have hk1 := Hle.out (k + 1)
          rw [← HT.out] at hk1
          have Hrow := hid hrow; have Hrn := hid hrn
          obtain ⟨q, hq⟩ : ∃ q, q = nthL ls k := ⟨_, rfl⟩
          obtain ⟨S, hS⟩ : ∃ S, S = (flt ls k).length := ⟨_, rfl⟩
          have hap := flt_succ hlt
          rw [← hq] at hs hc Hrow hap
          rw [← hS] at hs Hao ⊢
          have HS := hid hS; have Hap := hid hap; have Hs := hid hs
          have hb2 : S + q.length ≤ 1000000 := by omega
          clear hS hq hs hap hrow hrn hk1
          go_wp2_with (at_builtin; refine wpList_appV et42 _ rfl _ _ rfl wc.heap.size ao S co (intv (flt ls k)) rfl Hao.out.2 ra q.length rc (intv q) rfl (cellsAt_ints.2 Hrow.out) ?c1 (intv_one _) ?c2 hb2 hsz ?_; rotate_right; (intro ao' cap' w' hB' hown' hgr' hn'; refine Hid.out ?_))
          case c1 => rw [intv_length, Nat.mul_one]
          case c2 => exact fun h => by subst h; exact ⟨by rw [Hrow.out.none]; rfl, Hrn.out rfl⟩
          refine hid ?_
          have Hown := hid (OwnI.app HS.out.symm rfl hown'); have HB1 := hid (HBo.out.trans hB')
          clear hB' hown' hgr' hn'
          go_wp2
          go_roundw
          case rel => exact ⟨k + 1, ao', cap', by omega, by go_num, by rw [Hs.out], by rw [Hs.out, Hap.out]; exact Hown.out, HB1.out⟩
          case measure => simp [intOf]; omega
        · obtain rfl : k = ls.length := by omega
          rw [← HT.out] at Hao ⊢
          go_wp2
          go_ret
          exact ⟨ao, co, by rw [← HT.out]; rfl, Hao.out.at, fun h => (Hao.out.none h).2, HBo.out⟩

/-- a board: its rows of pins, and what its slots pay -/
structure Bd where
  pins : List (List Int)
  pays : List Int
/-- the first n all -/
def allTo (p : Nat → Bool) : Nat → Bool
  | 0 => true
  | n + 1 => allTo p n && p n
theorem allTo_iff {p : Nat → Bool} {n : Nat} : allTo p n = true ↔ ∀ k, k < n → p k = true := by
  induction n with
  | zero => exact ⟨fun _ k hk => by omega, fun _ => rfl⟩
  | succ n ih =>
    simp only [allTo, Bool.and_eq_true, ih]
    constructor
    · rintro ⟨h1, h2⟩ k hk
      by_cases e : k = n
      · rw [e]; exact h2
      · exact h1 k (by omega)
    · exact fun h => ⟨fun k hk => h k (by omega), h n (by omega)⟩
theorem allTo_false {p : Nat → Bool} {n k : Nat} (hk : k < n) (h : p k = false) : allTo p n = false := by
  cases e : allTo p n with
  | false => rfl
  | true => rw [allTo_iff.1 e k hk] at h; cases h
def rowOk (B : Bd) (r : Nat) : Bool := decide ((nthL B.pins r).length = r + 1)
/-- the error of a board -/
def bdErr (B : Bd) : Int :=
  if within 1 8 [(B.pins.length : Int)] then (if allTo (rowOk B) B.pins.length then (if B.pays.length = B.pins.length + 1 then (if within 0 10 B.pins.flatten && within 0 500 B.pays then 0 else 3) else 15) else 15) else 6
theorem bdErr6 {B : Bd} (h : within 1 8 [(B.pins.length : Int)] = false) : bdErr B = 6 := by simp [bdErr, h]
theorem bdErr15a {B : Bd} (h : within 1 8 [(B.pins.length : Int)] = true) (h1 : allTo (rowOk B) B.pins.length = false) : bdErr B = 15 := by simp [bdErr, h, h1]
theorem bdErr15b {B : Bd} (h : within 1 8 [(B.pins.length : Int)] = true) (h1 : allTo (rowOk B) B.pins.length = true) (h2 : ¬ B.pays.length = B.pins.length + 1) : bdErr B = 15 := by simp [bdErr, h, h1, h2]
theorem bdErr3 {B : Bd} (h : within 1 8 [(B.pins.length : Int)] = true) (h1 : allTo (rowOk B) B.pins.length = true) (h2 : B.pays.length = B.pins.length + 1) (h3 : (within 0 10 B.pins.flatten && within 0 500 B.pays) = false) : bdErr B = 3 := by
  simp [bdErr, h, h1, h2, h3]
theorem bdErr0 {B : Bd} : bdErr B = 0 ↔ within 1 8 [(B.pins.length : Int)] = true ∧ allTo (rowOk B) B.pins.length = true ∧ B.pays.length = B.pins.length + 1 ∧ within 0 10 B.pins.flatten = true ∧ within 0 500 B.pays = true := by
  unfold bdErr
  repeat' split
  all_goals simp_all
def BdAt (w : World) (pa ya : Option Addr) (B : Bd) : Prop := RowsAt w pa B.pins ∧ IntsAt w ya B.pays
theorem BdAt.mono {w w' : World} {pa ya : Option Addr} {B : Bd} (h : BdAt w pa ya B) (hB : Below w.heap.size w w') : BdAt w' pa ya B := ⟨h.1.mono hB, h.2.mono hB⟩
/-- a call that tells a number and leaves what lay -/
def TellI (w : World) (v : Int) (e : Ending) (w' : World) : Prop := e = .returned (.int .i64 v) ∧ Below w.heap.size w w'
def TellB (w : World) (v : Bool) (e : Ending) (w' : World) : Prop := e = .returned (.bool v) ∧ Below w.heap.size w w'

theorem within_one {lo hi x : Int} : within lo hi [x] = true ↔ lo ≤ x ∧ x ≤ hi := by simp [within]
theorem flt_le {B : Bd} : ∀ {k : Nat}, k ≤ B.pins.length → k ≤ 8 → allTo (rowOk B) k = true → (flt B.pins k).length ≤ 8 * k := by
  intro k
  induction k with
  | zero => intro _ _ _; simp [flt]
  | succ k ih =>
    intro h1 h2 h3
    simp only [allTo, Bool.and_eq_true, rowOk, decide_eq_true_eq] at h3
    have := ih (by omega) (by omega) h3.1
    rw [flt_succ (by omega), List.length_append, h3.2]; omega

set_option maxRecDepth 100000 in
theorem odd_c (x : Int) (w : World) : Calls Try.prog 75 #[.int .i64 x] w fun e w' => e = .returned (.bool (decide (x < 0) || decide (500 < x))) ∧ w = w' := by
  go_enter Try.func75, Try.ntmps75
  go_wp2
  · have h : 0 ≤ x := by assumption
    go_ret
    exact ⟨ret_bool (by simp), rfl⟩
  · have h : x < 0 := by assumption
    go_ret
    exact ⟨ret_bool (by simp), rfl⟩
theorem enters75 : ∀ args w, (callFunc 75 args).run Try.prog w = .ok (.enter 75 args) w := enters_of Try.func75 (by kernel_rfl) rfl
theorem at_lit1 (w : World) (v : Int) : IntsAt (w.alloc (.cells #[.int .i64 v] 3)) (some ⟨w.heap.size, 0, none⟩) [v] :=
  .inr ⟨_, 0, rfl, fun j hj => by
    have hj0 : j = 0 := by simp at hj; omega
    subst hj0
    simp [nth]⟩
/-- within, of one number -/
theorem within1 (lo hi x : Int) (b : Nat) (w : World) (hb : b = w.heap.size) : Calls Try.prog 72 #[.int .i64 lo, .int .i64 hi, .slice (some ⟨b, 0, none⟩) 1 1] (w.alloc (.cells #[.int .i64 x] 3)) (fun e w' => e = .returned (.bool (within lo hi [x])) ∧ Below w.heap.size w w') := by
  subst hb
  exact (within_c (some ⟨w.heap.size, 0, none⟩) 1 lo hi [x] (w.alloc (.cells #[.int .i64 x] 3)) (at_lit1 w x) (by simp)).mono fun _ _ ⟨h1, h2⟩ => ⟨h1, bstep (bnew _ _) h2⟩

set_option maxRecDepth 100000 in
set_option maxHeartbeats 400000 in
theorem checkBoard_c (pa : Option Addr) (pc : Nat) (ya : Option Addr) (yc : Nat) (B : Bd) (w : World) (hb : BdAt w pa ya B) (hl : B.pins.length ≤ 1000000) (hy : B.pays.length ≤ 1000000) :
    Calls Try.prog 24 #[.agg #[.slice pa B.pins.length pc, .slice ya B.pays.length yc]] w (TellI w (bdErr B)) := by
  have HB := hid hb
  have HW1 := hid fun (b : Nat) (w' : World) (h : b = w'.heap.size) => within1 1 8 (B.pins.length : Int) b w' h
  have HC := hid fun (w' : World) (h : Below w.heap.size w w') (hf : B.pins.flatten.length ≤ 1000000) => concat_c pa pc B.pins w' (hb.mono h).1 hl hf
  have HO := hid fun (w' : World) (h : Below w.heap.size w w') => containsFunc64_c ya yc 75 #[] (fun x => decide (x < 0) || decide (500 < x)) B.pays w' (hb.mono h).2 hy (fun k _ => odd_c _ _) enters75
  rw [show (B.pays.any fun x => decide (x < 0) || decide (500 < x)) = !within 0 500 B.pays from by rw [← any_within, Bool.not_not]] at HO
  unfold TellI
  cases hw1 : within 1 8 [(B.pins.length : Int)] with
  | false =>
    have HE := hid (bdErr6 hw1)
    rw [hw1] at HW1
    obtain ⟨n, hn⟩ : ∃ n, n = B.pins.length := ⟨_, rfl⟩
    rw [← hn] at hl HC HW1 ⊢
    clear hb hn hw1
    go_enter Try.func24, Try.ntmps24
    go_wp2_with fail
    refine (HW1.out _ _ (by simp)).mono ?_
    rintro e w1 ⟨rfl, hB⟩
    have HB1 := hid hB
    clear hB
    go_wp2
    go_ret
    exact ⟨by rw [HE.out]; rfl, bstep (bnew w _) HB1.out⟩
  | true =>
    have hn := within_one.1 hw1
    rw [hw1] at HW1
    have Hw1 := hid hw1
    clear hw1
    go_enter Try.func24, Try.ntmps24
    go_wp2_with fail
    refine (HW1.out _ _ (by simp)).mono ?_
    rintro e w1 ⟨rfl, hB⟩
    have HB1 := hid (bstep (bnew w (.cells #[.slice pa B.pins.length pc, .slice ya B.pays.length yc] 25)) hB)
    have c0 : w1.cell? ⟨w.heap.size, 0, none⟩ = some (.slice pa B.pins.length pc) := cstep (by simp [go_sem]) hB
    have c1 : w1.cell? ⟨w.heap.size, 1, none⟩ = some (.slice ya B.pays.length yc) := cstep (by simp [go_sem]) hB
    clear hB hb
    go_wp2
    go_loopw [4, 5, 17] (fun _ _ i wr => ∃ k : Nat, k ≤ B.pins.length ∧ i = .int .i64 k ∧ allTo (rowOk B) k = true ∧ wr = w1) (fun _ _ i _ => B.pins.length - (intOf i).toNat)
    case atStart => exact ⟨0, Nat.zero_le _, rfl, rfl, rfl⟩
    case round =>
      obtain ⟨k, hk, rfl, hall, rfl⟩ := hrel
      have Hall := hid hall
      clear hall
      by_cases hlt : k < B.pins.length
      · obtain ⟨b, off, ra, rc, rfl, hc, hrow, hrn⟩ := (HB.out.mono HB1.out).1.at hlt
        have hs : allTo (rowOk B) (k + 1) = (allTo (rowOk B) k && rowOk B k) := rfl
        have hr : rowOk B k = decide ((nthL B.pins k).length = k + 1) := rfl
        obtain ⟨q, hq⟩ : ∃ q, q = (nthL B.pins k).length := ⟨_, rfl⟩
        rw [← hq] at hr hc
        have hw : IntKind.i64.wrap ((k : Int) + 1) = (k : Int) + 1 := by have h := wrap_i64_nat (a := k + 1) (by omega); simpa using h
        by_cases hqk : q = k + 1
        · have hqI : (q : Int) = (k : Int) + 1 := by omega
          have Hs := hid hs; have Hr := hid hr; have Hqk := hid hqk
          clear hs hr hq hrow hrn hqk
          go_wp2
          go_roundw
          case rel => exact ⟨k + 1, by omega, by go_num, by rw [Hs.out, Hall.out, Hr.out, decide_eq_true Hqk.out]; rfl, trivial⟩
          case measure => simp [intOf]; omega
        · have hqI : ¬ (q : Int) = (k : Int) + 1 := by omega
          have hd : decide ((q : Int) = (k : Int) + 1) = false := decide_eq_false hqI
          have hf := allTo_false hlt (hr.trans (decide_eq_false hqk))
          have HE := hid (bdErr15a Hw1.out hf)
          clear hs hr hq hrow hrn hqk hf
          go_wp2
          go_ret
          exact ⟨by rw [HE.out]; rfl, HB1.out⟩
      · obtain rfl : k = B.pins.length := by omega
        have hfl := flt_le (Nat.le_refl B.pins.length) (by omega) Hall.out
        rw [flt_all] at hfl
        have hC1 := HC.out _ HB1.out (by omega)
        obtain ⟨F, hF⟩ : ∃ F, F = B.pins.flatten := ⟨_, rfl⟩
        rw [← hF] at hC1 hfl
        have HC1 := hid hC1; have HF := hid hF
        clear hC1 hF
        have hw : IntKind.i64.wrap ((B.pins.length : Int) + 1) = (B.pins.length : Int) + 1 := by have h := wrap_i64_nat (a := B.pins.length + 1) (by omega); simpa using h
        by_cases hp : B.pays.length = B.pins.length + 1
        · have hpI : (B.pays.length : Int) = (B.pins.length : Int) + 1 := by omega
          have Hp := hid hp; have Hfl := hid hfl
          clear hp hlt hk hfl
          go_wp2_with fail
          refine HC1.out.mono ?_
          rintro e w2 ⟨ao, co, rfl, hao, hon, hB⟩
          have HB2 := hid (bstep HB1.out hB)
          have c0 := cstep c0 hB; have c1 := cstep c1 hB
          have HWf := hid (within_c ao co 0 10 F w2 hao (by have := Hfl.out; omega))
          clear hB hao hon HC1
          cases hwf : within 0 10 F with
          | false =>
            have HE := hid (bdErr3 (B := B) Hw1.out Hall.out Hp.out (by rw [← HF.out, hwf]; rfl))
            rw [hwf] at HWf
            clear hwf
            go_wp2_with fail
            refine HWf.out.mono ?_
            rintro e w3 ⟨rfl, hB⟩
            have HB3 := hid (bstep HB2.out hB)
            clear hB
            go_wp2
            go_ret
            exact ⟨by rw [HE.out]; rfl, HB3.out⟩
          | true =>
            rw [hwf] at HWf
            have Hwf := hid hwf
            clear hwf
            go_wp2_with fail
            refine HWf.out.mono ?_
            rintro e w3 ⟨rfl, hB⟩
            have HB3 := hid (bstep HB2.out hB)
            have c0 := cstep c0 hB; have c1 := cstep c1 hB
            have HO3 := hid (HO.out _ HB3.out)
            clear hB
            cases hwp : within 0 500 B.pays with
            | false =>
              have HE := hid (bdErr3 (B := B) Hw1.out Hall.out Hp.out (by rw [hwp, Bool.and_false]))
              rw [hwp] at HO3
              clear hwp HO
              go_wp2_with fail
              refine HO3.out.mono ?_
              rintro e w4 ⟨rfl, rfl⟩
              go_wp2
              go_ret
              exact ⟨by rw [HE.out]; rfl, HB3.out⟩
            | true =>
              have HE := hid (bdErr0 (B := B) |>.2 ⟨Hw1.out, Hall.out, Hp.out, by rw [← HF.out]; exact Hwf.out, hwp⟩)
              rw [hwp] at HO3
              clear hwp HO
              go_wp2_with fail
              refine HO3.out.mono ?_
              rintro e w4 ⟨rfl, rfl⟩
              go_wp2
              go_ret
              exact ⟨by rw [HE.out]; rfl, HB3.out⟩
        · have hpI : ¬ (B.pays.length : Int) = (B.pins.length : Int) + 1 := by omega
          have hd : decide ((B.pays.length : Int) = (B.pins.length : Int) + 1) = false := decide_eq_false hpI
          have HE := hid (bdErr15b (B := B) Hw1.out Hall.out hp)
          clear hp hlt hk hfl
          go_wp2
          go_ret
          exact ⟨by rw [HE.out]; rfl, HB1.out⟩

end Go.Proofs.Ytnnojhpioenhbaa

namespace Go.Proofs.Ytnnojhpioenhbaa
open Go.RowKit Go.Shelf

theorem within_take_succ (lo hi : Int) {xs : List Int} {k : Nat} (h : k < xs.length) : within lo hi (xs.take (k + 1)) = (within lo hi (xs.take k) && (decide (lo ≤ nth xs k) && decide (nth xs k ≤ hi))) := all_take_succ _ h
theorem within_append (lo hi : Int) (xs ys : List Int) : within lo hi (xs ++ ys) = (within lo hi xs && within lo hi ys) := List.all_append
theorem within_false {lo hi : Int} {xs : List Int} {k : Nat} (hk : k < xs.length) (h : ¬ (lo ≤ nth xs k ∧ nth xs k ≤ hi)) : within lo hi xs = false := by
  cases e : within lo hi xs with
  | false => rfl
  | true =>
    have := List.all_eq_true.1 e _ (nth_mem hk)
    simp at this
    exact absurd this h
theorem within_nth {lo hi : Int} {xs : List Int} (h : within lo hi xs = true) {k : Nat} (hk : k < xs.length) : lo ≤ nth xs k ∧ nth xs k ≤ hi := by
  have := List.all_eq_true.1 h _ (nth_mem hk)
  simpa using this
def pinOk (B : Bd) (r : Nat) : Bool := within 0 10 (nthL B.pins r)
theorem flt_pins (B : Bd) : ∀ {k : Nat}, k ≤ B.pins.length → within 0 10 (flt B.pins k) = allTo (pinOk B) k := by
  intro k
  induction k with
  | zero => intro _; rfl
  | succ k ih => intro h; rw [flt_succ (by omega), within_append, ih (by omega)]; rfl

set_option maxRecDepth 100000 in
set_option maxHeartbeats 1000000 in
theorem rCheckBoard_c (pa : Option Addr) (pc : Nat) (ya : Option Addr) (yc : Nat) (B : Bd) (w : World) (hb : BdAt w pa ya B) (hl : B.pins.length ≤ 1000000) :
    Calls Try.prog 25 #[.agg #[.slice pa B.pins.length pc, .slice ya B.pays.length yc]] w (TellI w (bdErr B)) := by
  have HB := hid hb
  have HB0 := hid (bnew w (.cells #[.slice pa B.pins.length pc, .slice ya B.pays.length yc] 25))
  unfold TellI
  cases hw1 : within 1 8 [(B.pins.length : Int)] with
  | false =>
    have HE := hid (bdErr6 hw1)
    have hn : ¬ (1 ≤ B.pins.length ∧ B.pins.length ≤ 8) := fun h => by rw [within_one.2 ⟨by omega, by omega⟩] at hw1; cases hw1
    clear hb hw1
    by_cases h0 : B.pins.length < 1
    · have h0I : (B.pins.length : Int) < 1 := by omega
      go_enter Try.func25, Try.ntmps25
      go_wp2
      go_ret
      exact ⟨by rw [HE.out]; rfl, HB0.out⟩
    · have h0I : ¬ (B.pins.length : Int) < 1 := by omega
      have h8I : (8 : Int) < (B.pins.length : Int) := by omega
      go_enter Try.func25, Try.ntmps25
      go_wp2
      go_ret
      exact ⟨by rw [HE.out]; rfl, HB0.out⟩
  | true =>
    have hn := within_one.1 hw1
    have h1I : ¬ (B.pins.length : Int) < 1 := by omega
    have h8I : ¬ (8 : Int) < (B.pins.length : Int) := by omega
    have Hw1 := hid hw1
    obtain ⟨W, hW⟩ : ∃ W, W = w.alloc (.cells #[.slice pa B.pins.length pc, .slice ya B.pays.length yc] 25) := ⟨_, rfl⟩
    have HbW := hid (hb.mono HB0.out)
    have HW := hid hW
    have c0 : W.cell? ⟨w.heap.size, 0, none⟩ = some (.slice pa B.pins.length pc) := by rw [hW]; simp [go_sem]
    have c1 : W.cell? ⟨w.heap.size, 1, none⟩ = some (.slice ya B.pays.length yc) := by rw [hW]; simp [go_sem]
    clear hb hw1 hW
    rw [← HW.out] at HbW HB0
    go_enter Try.func25, Try.ntmps25
    go_wp2_with fail
    rw [← HW.out]
    go_loopw [4] (fun i wr => ∃ k : Nat, k ≤ B.pins.length ∧ i = .int .i64 k ∧ allTo (rowOk B) k = true ∧ wr = W) (fun i _ => B.pins.length - (intOf i).toNat)
    case atStart => exact ⟨0, Nat.zero_le _, rfl, rfl, rfl⟩
    case round =>
      obtain ⟨k, hk, rfl, hall, rfl⟩ := hrel
      have Hall := hid hall
      clear hall
      by_cases hlt : k < B.pins.length
      · obtain ⟨b, off, ra, rc, rfl, hc, hrow, hrn⟩ := HbW.out.1.at hlt
        have hs : allTo (rowOk B) (k + 1) = (allTo (rowOk B) k && rowOk B k) := rfl
        have hr : rowOk B k = decide ((nthL B.pins k).length = k + 1) := rfl
        obtain ⟨q, hq⟩ : ∃ q, q = (nthL B.pins k).length := ⟨_, rfl⟩
        rw [← hq] at hr hc
        have hw : IntKind.i64.wrap ((k : Int) + 1) = (k : Int) + 1 := by have h := wrap_i64_nat (a := k + 1) (by omega); simpa using h
        by_cases hqk : q = k + 1
        · have hqI : (q : Int) = (k : Int) + 1 := by omega
          have Hs := hid hs; have Hr := hid hr; have Hqk := hid hqk
          clear hs hr hq hrow hrn hqk
          go_wp2
          go_roundw
          case rel => exact ⟨k + 1, by omega, by go_num, by rw [Hs.out, Hall.out, Hr.out, decide_eq_true Hqk.out]; rfl, trivial⟩
          case measure => simp [intOf]; omega
        · have hqI : ¬ (q : Int) = (k : Int) + 1 := by omega
          have hd : decide ((q : Int) = (k : Int) + 1) = false := decide_eq_false hqI
          have HE := hid (bdErr15a Hw1.out (allTo_false hlt (hr.trans (decide_eq_false hqk))))
          clear hs hr hq hrow hrn hqk
          go_wp2
          go_ret
          exact ⟨by rw [HE.out]; rfl, HB0.out⟩
      · obtain rfl : k = B.pins.length := by omega
        have hw : IntKind.i64.wrap ((B.pins.length : Int) + 1) = (B.pins.length : Int) + 1 := by have h := wrap_i64_nat (a := B.pins.length + 1) (by omega); simpa using h
        by_cases hp : B.pays.length = B.pins.length + 1
        · have hpI : (B.pays.length : Int) = (B.pins.length : Int) + 1 := by omega
          have Hp := hid hp
          clear hp hlt hk
          obtain ⟨W, rfl⟩ : ∃ W : World, W = wr := ⟨_, rfl⟩
          go_wp2
          go_loopw [5, 6] (fun i _ wr => ∃ k : Nat, k ≤ B.pins.length ∧ i = .int .i64 k ∧ allTo (pinOk B) k = true ∧ wr = W) (fun i _ _ => B.pins.length - (intOf i).toNat)
          case atStart => exact ⟨0, Nat.zero_le _, rfl, rfl, rfl⟩
          case round =>
            obtain ⟨r, hr, rfl, hpall, rfl⟩ := hrel
            have Hpall := hid hpall
            clear hpall
            by_cases hlt : r < B.pins.length
            · obtain ⟨b, off, ra, rc, rfl, hc, hrow, hrn⟩ := HbW.out.1.at hlt
              have hs : allTo (pinOk B) (r + 1) = (allTo (pinOk B) r && pinOk B r) := rfl
              have hpo : pinOk B r = within 0 10 (nthL B.pins r) := rfl
              have hro := allTo_iff.1 Hall.out r hlt
              simp only [rowOk, decide_eq_true_eq] at hro
              have hcon := fun (h : within 0 10 (nthL B.pins r) = false) => bdErr3 (B := B) Hw1.out Hall.out Hp.out (by rw [← flt_all, flt_pins B (Nat.le_refl _), allTo_false hlt (hpo.trans h)]; rfl)
              obtain ⟨q, hq⟩ : ∃ q, q = nthL B.pins r := ⟨_, rfl⟩
              rw [← hq] at hpo hc hrow hro hcon
              obtain ⟨W, rfl⟩ : ∃ W : World, W = wr := ⟨_, rfl⟩
              have Hs := hid hs; have Hpo := hid hpo; have Hrow := hid hrow; have Hcon := hid hcon
              clear hs hpo hq hrow hrn hcon
              go_wp2
              go_loopw [6] (fun i wr => ∃ k : Nat, k ≤ r + 1 ∧ i = .int .i64 k ∧ within 0 10 (q.take k) = true ∧ wr = W) (fun i _ => r + 1 - (intOf i).toNat)
              case atStart => exact ⟨0, Nat.zero_le _, rfl, rfl, rfl⟩
              case round =>
                obtain ⟨k, hk, rfl, hin, rfl⟩ := hrel
                have Hin := hid hin
                clear hin
                by_cases hkr : k < r + 1
                · have hkI : (k : Int) ≤ (r : Int) := by omega
                  obtain ⟨b2, off2, rfl, hcx⟩ := Hrow.out.at (k := k) (by omega)
                  have hts := within_take_succ 0 10 (xs := q) (k := k) (by omega)
                  have hwf := within_false (lo := 0) (hi := 10) (xs := q) (k := k) (by omega)
                  obtain ⟨x, hx⟩ : ∃ x, x = nth q k := ⟨_, rfl⟩
                  rw [← hx] at hts hwf hcx
                  by_cases hx0 : x < 0
                  · have HE := hid (Hcon.out (hwf (by omega)))
                    clear hts hwf hx
                    go_wp2
                    go_ret
                    exact ⟨by rw [HE.out]; rfl, HB0.out⟩
                  · by_cases hx1 : 10 < x
                    · have HE := hid (Hcon.out (hwf (by omega)))
                      clear hts hwf hx
                      go_wp2
                      go_ret
                      exact ⟨by rw [HE.out]; rfl, HB0.out⟩
                    · rw [decide_eq_true (show (0 : Int) ≤ x by omega), decide_eq_true (show x ≤ 10 by omega), Hin.out] at hts
                      have Hts := hid hts
                      clear hts hwf hx
                      go_wp2
                      go_roundw
                      case rel => exact ⟨k + 1, by omega, by go_num, Hts.out, trivial⟩
                      case measure => simp [intOf]; omega
                · obtain rfl : k = r + 1 := by omega
                  have hkI : ¬ (((r + 1 : Nat) : Int) ≤ (r : Int)) := by omega
                  have hin := Hin.out
                  rw [List.take_of_length_le (by omega)] at hin
                  have Hin := hid hin
                  clear hin
                  go_wp2
                  go_roundw
                  case rel => exact ⟨r + 1, by omega, by go_num, by rw [Hs.out, Hpall.out, Hpo.out, Hin.out]; rfl, trivial⟩
                  case measure => simp [intOf]; omega
            · obtain rfl : r = B.pins.length := by omega
              have hpin : within 0 10 B.pins.flatten = true := by rw [← flt_all, flt_pins B (Nat.le_refl _)]; exact Hpall.out
              have Hpin := hid hpin
              obtain ⟨W, rfl⟩ : ∃ W : World, W = wr := ⟨_, rfl⟩
              clear hpin hlt
              go_wp2
              go_loopw [7] (fun i wr => ∃ k : Nat, k ≤ B.pins.length + 1 ∧ i = .int .i64 k ∧ within 0 500 (B.pays.take k) = true ∧ wr = W) (fun i _ => B.pins.length + 1 - (intOf i).toNat)
              case atStart => exact ⟨0, Nat.zero_le _, rfl, rfl, rfl⟩
              case round =>
                obtain ⟨k, hk, rfl, hin, rfl⟩ := hrel
                have Hin := hid hin
                have hp := Hp.out
                clear hin
                by_cases hkr : k < B.pins.length + 1
                · have hkI : (k : Int) ≤ (B.pins.length : Int) := by omega
                  obtain ⟨b2, off2, rfl, hcx⟩ := HbW.out.2.at (k := k) (by omega)
                  have hts := within_take_succ 0 500 (xs := B.pays) (k := k) (by omega)
                  have hwf := within_false (lo := 0) (hi := 500) (xs := B.pays) (k := k) (by omega)
                  obtain ⟨x, hx⟩ : ∃ x, x = nth B.pays k := ⟨_, rfl⟩
                  rw [← hx] at hts hwf hcx
                  by_cases hx0 : x < 0
                  · have HE := hid (bdErr3 (B := B) Hw1.out Hall.out Hp.out (by rw [hwf (by omega), Bool.and_false]))
                    clear hts hwf hx hp
                    go_wp2
                    go_ret
                    exact ⟨by rw [HE.out]; rfl, HB0.out⟩
                  · by_cases hx1 : 500 < x
                    · have HE := hid (bdErr3 (B := B) Hw1.out Hall.out Hp.out (by rw [hwf (by omega), Bool.and_false]))
                      clear hts hwf hx hp
                      go_wp2
                      go_ret
                      exact ⟨by rw [HE.out]; rfl, HB0.out⟩
                    · rw [decide_eq_true (show (0 : Int) ≤ x by omega), decide_eq_true (show x ≤ 500 by omega), Hin.out] at hts
                      have Hts := hid hts
                      clear hts hwf hx hp
                      go_wp2
                      go_roundw
                      case rel => exact ⟨k + 1, by omega, by go_num, Hts.out, trivial⟩
                      case measure => simp [intOf]; omega
                · obtain rfl : k = B.pins.length + 1 := by omega
                  have hkI : ¬ (((B.pins.length + 1 : Nat) : Int) ≤ (B.pins.length : Int)) := by omega
                  have hin := Hin.out
                  rw [List.take_of_length_le (by omega)] at hin
                  have HE := hid (bdErr0 (B := B) |>.2 ⟨Hw1.out, Hall.out, Hp.out, Hpin.out, hin⟩)
                  clear hin hp
                  go_wp2
                  go_ret
                  exact ⟨by rw [HE.out]; rfl, HB0.out⟩
        · have hpI : ¬ (B.pays.length : Int) = (B.pins.length : Int) + 1 := by omega
          have hd : decide ((B.pays.length : Int) = (B.pins.length : Int) + 1) = false := decide_eq_false hpI
          have HE := hid (bdErr15b (B := B) Hw1.out Hall.out hp)
          clear hp hlt hk
          go_wp2
          go_ret
          exact ⟨by rw [HE.out]; rfl, HB0.out⟩

set_option maxRecDepth 100000 in
theorem isLevel_c (n : Int) (w : World) : Calls Try.prog 100 #[.int .i64 n] w fun e w' => e = .returned (.bool (within (-5) 5 [n])) ∧ w = w' := by
  by_cases h0 : -5 ≤ n
  · by_cases h1 : n ≤ 5
    · have h := within_one.2 ⟨h0, h1⟩
      rw [h]; clear h
      go_enter Try.func100, Try.ntmps100
      go_wp2
      go_ret
      exact ⟨rfl, rfl⟩
    · have h : within (-5) 5 [n] = false := within_false (k := 0) (by simp) (by simp [nth]; omega)
      rw [h]; clear h
      go_enter Try.func100, Try.ntmps100
      go_wp2
      go_ret
      exact ⟨rfl, rfl⟩
  · have h : within (-5) 5 [n] = false := within_false (k := 0) (by simp) (by simp [nth]; omega)
    rw [h]; clear h
    go_enter Try.func100, Try.ntmps100
    go_wp2
    go_ret
    exact ⟨rfl, rfl⟩

/-- the error of a board, and of a level -/
def atErr (B : Bd) (lv : Int) : Int := if bdErr B = 0 then (if within (-5) 5 [lv] then 0 else 2) else bdErr B

set_option maxRecDepth 100000 in
set_option maxHeartbeats 1000000 in
theorem at_c (pa : Option Addr) (pc : Nat) (ya : Option Addr) (yc : Nat) (B : Bd) (lv : Int) (w : World) (hb : BdAt w pa ya B) (hl : B.pins.length ≤ 1000000) :
    Calls Try.prog 68 #[.agg #[.slice pa B.pins.length pc, .slice ya B.pays.length yc], .int .i64 lv] w (TellI w (atErr B lv)) := by
  have HB0 := hid (bnew w (.cells #[.slice pa B.pins.length pc, .slice ya B.pays.length yc] 25))
  have HR := hid fun (w' : World) (h : Below w.heap.size w w') => rCheckBoard_c pa pc ya yc B w' (hb.mono h) hl
  have HL := hid fun (w' : World) => isLevel_c lv w'
  have hE : atErr B lv = if bdErr B = 0 then (if within (-5) 5 [lv] then 0 else 2) else bdErr B := rfl
  obtain ⟨v, hv⟩ : ∃ v, v = bdErr B := ⟨_, rfl⟩
  obtain ⟨r, hr⟩ : ∃ r, r = atErr B lv := ⟨_, rfl⟩
  obtain ⟨n, hn⟩ : ∃ n, n = B.pins.length := ⟨_, rfl⟩
  obtain ⟨y, hyy⟩ : ∃ n, n = B.pays.length := ⟨_, rfl⟩
  obtain ⟨l, hll⟩ : ∃ l, l = within (-5) 5 [lv] := ⟨_, rfl⟩
  rw [← hv, ← hll, ← hr] at hE
  rw [← hr]
  rw [← hv, ← hn, ← hyy] at HR
  rw [← hn, ← hyy] at HB0 ⊢
  rw [← hll] at HL
  clear hv hr hn hyy hll hl hb
  unfold TellI at *
  by_cases h0 : v = 0
  · subst h0
    rw [if_pos rfl] at hE
    cases l with
    | true =>
      rw [if_pos rfl] at hE
      subst hE
      go_enter Try.func68, Try.ntmps68
      go_wp2_with fail
      refine (HR.out _ HB0.out).mono ?_
      rintro e w1 ⟨rfl, hB⟩
      have HB1 := hid (bstep HB0.out hB)
      clear hB
      go_wp2_with fail
      refine (HL.out _).mono ?_
      rintro e w2 ⟨rfl, rfl⟩
      go_wp2
      go_ret
      exact ⟨rfl, HB1.out⟩
    | false =>
      rw [if_neg (by simp)] at hE
      subst hE
      go_enter Try.func68, Try.ntmps68
      go_wp2_with fail
      refine (HR.out _ HB0.out).mono ?_
      rintro e w1 ⟨rfl, hB⟩
      have HB1 := hid (bstep HB0.out hB)
      clear hB
      go_wp2_with fail
      refine (HL.out _).mono ?_
      rintro e w2 ⟨rfl, rfl⟩
      go_wp2
      go_ret
      exact ⟨rfl, HB1.out⟩
  · rw [if_neg h0] at hE
    subst hE
    have c0 : ∀ v : Value, True := fun _ => trivial
    clear c0
    obtain ⟨W, hW⟩ : ∃ W, W = w.alloc (.cells #[.slice pa n pc, .slice ya y yc] 25) := ⟨_, rfl⟩
    have k0 : W.cell? ⟨w.heap.size, 0, none⟩ = some (.slice pa n pc) := by rw [hW]; simp [go_sem]
    have k1 : W.cell? ⟨w.heap.size, 1, none⟩ = some (.slice ya y yc) := by rw [hW]; simp [go_sem]
    rw [← hW] at HB0
    have HW := hid hW
    clear hW
    go_enter Try.func68, Try.ntmps68
    go_wp2_with fail
    rw [← HW.out]
    refine (HR.out _ HB0.out).mono ?_
    rintro e w1 ⟨rfl, hB⟩
    have HB1 := hid (bstep HB0.out hB)
    have k0 := cstep k0 hB; have k1 := cstep k1 hB
    clear hB
    go_wp2_with fail
    refine (HR.out _ HB1.out).mono ?_
    rintro e w2 ⟨rfl, hB⟩
    have HB2 := hid (bstep HB1.out hB)
    clear hB
    go_wp2
    go_ret
    exact ⟨rfl, HB2.out⟩

end Go.Proofs.Ytnnojhpioenhbaa

namespace Go.Proofs.Ytnnojhpioenhbaa
open Go.RowKit Go.Shelf

/-- a valid board -/
structure Bok (B : Bd) : Prop where
  n1 : 1 ≤ B.pins.length
  n8 : B.pins.length ≤ 8
  row : ∀ r, r < B.pins.length → (nthL B.pins r).length = r + 1
  pays : B.pays.length = B.pins.length + 1
  pin : ∀ r k, r < B.pins.length → k ≤ r → 0 ≤ nth (nthL B.pins r) k ∧ nth (nthL B.pins r) k ≤ 10
  pay : ∀ i, i ≤ B.pins.length → 0 ≤ nth B.pays i ∧ nth B.pays i ≤ 500
theorem bok_iff {B : Bd} : bdErr B = 0 ↔ Bok B := by
  rw [bdErr0]
  constructor
  · rintro ⟨h1, h2, h3, h4, h5⟩
    have hn := within_one.1 h1
    have hr : ∀ r, r < B.pins.length → (nthL B.pins r).length = r + 1 := fun r hr => by have := allTo_iff.1 h2 r hr; simpa [rowOk] using this
    refine ⟨by omega, by omega, hr, h3, fun r k hr' hk => ?_, fun i hi => within_nth h5 (by omega)⟩
    rw [← flt_all, flt_pins B (Nat.le_refl _)] at h4
    exact within_nth (allTo_iff.1 h4 r hr') (by rw [hr r hr']; omega)
  · intro h
    refine ⟨within_one.2 ⟨by have := h.n1; omega, by have := h.n8; omega⟩, allTo_iff.2 fun r hr => by simp [rowOk, h.row r hr], h.pays, ?_, ?_⟩
    · rw [← flt_all, flt_pins B (Nat.le_refl _)]
      refine allTo_iff.2 fun r hr => List.all_eq_true.2 fun x hx => ?_
      obtain ⟨k, hk, rfl⟩ := List.getElem_of_mem hx
      have := h.pin r k hr (by have := h.row r hr; omega)
      rw [nth_eq hk] at this
      simp [this]
    · refine List.all_eq_true.2 fun x hx => ?_
      obtain ⟨k, hk, rfl⟩ := List.getElem_of_mem hx
      have := h.pay k (by have := h.pays; omega)
      rw [nth_eq hk] at this
      simp [this]

theorem below_drawN (B : Nat) (w : World) (n : Nat) : Below B w (w.drewN n) := ⟨rfl, rfl, rfl, Nat.le_refl _, fun _ _ => rfl⟩

/-- how many ways a pin has to the right -/
def Rt (B : Bd) (lv : Int) (r k : Nat) : Int := max 0 (min 10 (nth (nthL B.pins r) k + lv))
theorem Rt_ok (B : Bd) (lv : Int) (n : Nat) : Rok (Rt B lv) n := fun r k _ _ => by unfold Rt; omega

/-- readings: plumbs and slots -/
structure Rd where
  plumbs : List (Int × Int)
  slots : List Int
def nthP (ls : List (Int × Int)) (k : Nat) : Int × Int := ls.getD k (0, 0)
theorem nthP_eq {ls : List (Int × Int)} {k : Nat} (h : k < ls.length) : nthP ls k = ls[k] := by simp [nthP, List.getD, h]
def PlumbsAt (w : World) (a : Option Addr) (ls : List (Int × Int)) : Prop :=
  ls = [] ∨ ∃ b off, a = some ⟨b, off, none⟩ ∧ ∀ j, j < ls.length → w.cell? ⟨b, off + j * 2, none⟩ = some (.int .i64 (nthP ls j).1) ∧ w.cell? ⟨b, off + j * 2 + 1, none⟩ = some (.int .i64 (nthP ls j).2)
theorem PlumbsAt.nil (w : World) (a : Option Addr) : PlumbsAt w a [] := .inl rfl
theorem PlumbsAt.at {w : World} {a : Option Addr} {ls : List (Int × Int)} (h : PlumbsAt w a ls) {j : Nat} (hj : j < ls.length) :
    ∃ b off, a = some ⟨b, off, none⟩ ∧ w.cell? ⟨b, off + j * 2, none⟩ = some (.int .i64 (nthP ls j).1) ∧ w.cell? ⟨b, off + j * 2 + 1, none⟩ = some (.int .i64 (nthP ls j).2) := by
  rcases h with rfl | ⟨b, off, rfl, h⟩
  · simp at hj
  · exact ⟨b, off, rfl, h j hj⟩
theorem PlumbsAt.mono {w w' : World} {a : Option Addr} {ls : List (Int × Int)} (h : PlumbsAt w a ls) (hb : Below w.heap.size w w') : PlumbsAt w' a ls := by
  rcases h with rfl | ⟨b, off, rfl, h⟩
  · exact .inl rfl
  · exact .inr ⟨b, off, rfl, fun j hj => ⟨cstep (h j hj).1 hb, cstep (h j hj).2 hb⟩⟩
def RdAt (w : World) (la sa : Option Addr) (R : Rd) : Prop := PlumbsAt w la R.plumbs ∧ IntsAt w sa R.slots
theorem RdAt.mono {w w' : World} {la sa : Option Addr} {R : Rd} (h : RdAt w la sa R) (hB : Below w.heap.size w w') : RdAt w' la sa R := ⟨h.1.mono hB, h.2.mono hB⟩

/-- where a frame's lists lie -/
structure FA where
  pa : Option Addr
  pc : Nat
  ya : Option Addr
  yc : Nat
  la : Option Addr
  lc : Nat
  sa : Option Addr
  sc : Nat
/-- a frame in memory -/
structure FrAt (w : World) (g : Nat) (A : FA) (B : Bd) (R : Rd) (lv : Int) : Prop where
  k0 : w.cell? ⟨g, 0, none⟩ = some (.slice A.pa B.pins.length A.pc)
  k1 : w.cell? ⟨g, 1, none⟩ = some (.slice A.ya B.pays.length A.yc)
  k2 : w.cell? ⟨g, 2, none⟩ = some (.slice A.la R.plumbs.length A.lc)
  k3 : w.cell? ⟨g, 3, none⟩ = some (.slice A.sa R.slots.length A.sc)
  k4 : w.cell? ⟨g, 4, none⟩ = some (.int .i64 lv)
  bd : BdAt w A.pa A.ya B
  rd : RdAt w A.la A.sa R
theorem FrAt.mono {w w' : World} {g : Nat} {A : FA} {B : Bd} {R : Rd} {lv : Int} (h : FrAt w g A B R lv) (hB : Below w.heap.size w w') : FrAt w' g A B R lv :=
  ⟨cstep h.k0 hB, cstep h.k1 hB, cstep h.k2 hB, cstep h.k3 hB, cstep h.k4 hB, h.bd.mono hB, h.rd.mono hB⟩

set_option maxRecDepth 100000 in
theorem right_c (g : Nat) (A : FA) (B : Bd) (R : Rd) (lv : Int) (r k : Nat) (w : World) (hf : FrAt w g A B R lv) (hB : Bok B) (hlv : -5 ≤ lv ∧ lv ≤ 5) (hr : r < B.pins.length) (hk : k ≤ r) :
    Calls Try.prog 103 #[.pointer (some ⟨g, 0, none⟩), .agg #[.int .i64 r, .int .i64 k]] w fun e w' => e = .returned (.int .i64 (Rt B lv r k)) ∧ Below w.heap.size w w' := by
  have HB0 := hid (bnew w (.cells #[.int .i64 r, .int .i64 k] 127))
  have hf1 := hf.mono HB0.out
  obtain ⟨W, hW⟩ : ∃ W, W = w.alloc (.cells #[.int .i64 r, .int .i64 k] 127) := ⟨_, rfl⟩
  rw [← hW] at hf1
  have b0 : W.cell? ⟨w.heap.size, 0, none⟩ = some (.int .i64 r) := by rw [hW]; simp [go_sem]
  have b1 : W.cell? ⟨w.heap.size, 1, none⟩ = some (.int .i64 k) := by rw [hW]; simp [go_sem]
  have k0 := hf1.k0; have k4 := hf1.k4
  obtain ⟨b, off, ra, rc, hpa, hc, hrow, hrn⟩ := hf1.bd.1.at hr
  have hlen := hB.row r hr
  obtain ⟨b2, off2, hra, hcx⟩ := hrow.at (k := k) (by omega)
  rw [hpa] at k0
  rw [hra] at hc
  have hpin := hB.pin r k hr hk
  have hrt : Rt B lv r k = max 0 (min 10 (nth (nthL B.pins r) k + lv)) := rfl
  have hkl : k < (nthL B.pins r).length := by omega
  obtain ⟨q, hq⟩ : ∃ q, q = (nthL B.pins r).length := ⟨_, rfl⟩
  obtain ⟨x, hx⟩ : ∃ x, x = nth (nthL B.pins r) k := ⟨_, rfl⟩
  rw [← hq] at hc hkl
  rw [← hx] at hcx hpin hrt
  have hw : IntKind.i64.wrap (x + lv) = x + lv := wrap_i64_of (by omega) (by omega)
  obtain ⟨y, hy⟩ : ∃ y, y = x + lv := ⟨_, rfl⟩
  rw [← hy] at hrt
  have hwy : IntKind.i64.wrap (x + lv) = y := by rw [hw, hy]
  have Hrt := hid hrt; have HW := hid hW
  have HBW := hid (show Below w.heap.size w W from by rw [hW]; exact HB0.out)
  have hkI : (k : Int) < (q : Int) := by omega
  have hrI : (r : Int) < (B.pins.length : Int) := by omega
  clear hf hf1 hrow hq hx hrt hW hlen hpin hB hpa hra HB0 hlv hrn hw hy hr hk hkl
  go_enter Try.func103, Try.ntmps103
  go_wp2_with fail
  rw [← HW.out]
  go_quiet (fail)
  go_wp2
  all_goals (go_ret; exact ⟨ret_int (by rw [Hrt.out]; omega), bstep HBW.out (below_drawN _ _ _)⟩)

/-- the value of a board -/
def bdV (A : FA) (B : Bd) : Array Value := #[.slice A.pa B.pins.length A.pc, .slice A.ya B.pays.length A.yc]

set_option maxRecDepth 100000 in
theorem rRight_c (pa : Option Addr) (pc : Nat) (ya : Option Addr) (yc : Nat) (B : Bd) (lv : Int) (r k : Nat) (w : World) (hf : BdAt w pa ya B) (hB : Bok B) (hlv : -5 ≤ lv ∧ lv ≤ 5) (hr : r < B.pins.length) (hk : k ≤ r) :
    Calls Try.prog 107 #[.agg #[.slice pa B.pins.length pc, .slice ya B.pays.length yc], .int .i64 lv, .int .i64 r, .int .i64 k] w fun e w' => e = .returned (.int .i64 (Rt B lv r k)) ∧ Below w.heap.size w w' := by
  have HB0 := hid (bnew w (.cells #[.slice pa B.pins.length pc, .slice ya B.pays.length yc] 25))
  have hf1 := hf.mono HB0.out
  obtain ⟨W, hW⟩ : ∃ W, W = w.alloc (.cells #[.slice pa B.pins.length pc, .slice ya B.pays.length yc] 25) := ⟨_, rfl⟩
  rw [← hW] at hf1
  have b0 : W.cell? ⟨w.heap.size, 0, none⟩ = some (.slice pa B.pins.length pc) := by rw [hW]; simp [go_sem]
  obtain ⟨b, off, ra, rc, rfl, hc, hrow, hrn⟩ := hf1.1.at hr
  have hlen := hB.row r hr
  obtain ⟨b2, off2, hra, hcx⟩ := hrow.at (k := k) (by omega)
  rw [hra] at hc
  have hpin := hB.pin r k hr hk
  have hrt : Rt B lv r k = max 0 (min 10 (nth (nthL B.pins r) k + lv)) := rfl
  have hkl : k < (nthL B.pins r).length := by omega
  obtain ⟨q, hq⟩ : ∃ q, q = (nthL B.pins r).length := ⟨_, rfl⟩
  obtain ⟨x, hx⟩ : ∃ x, x = nth (nthL B.pins r) k := ⟨_, rfl⟩
  rw [← hq] at hc hkl
  rw [← hx] at hcx hpin hrt
  have hw : IntKind.i64.wrap (x + lv) = x + lv := wrap_i64_of (by omega) (by omega)
  obtain ⟨y, hy⟩ : ∃ y, y = x + lv := ⟨_, rfl⟩
  rw [← hy] at hrt
  have hwy : IntKind.i64.wrap (x + lv) = y := by rw [hw, hy]
  have Hrt := hid hrt; have HW := hid hW
  have HBW := hid (show Below w.heap.size w W from by rw [hW]; exact HB0.out)
  have hkI : (k : Int) < (q : Int) := by omega
  have hrI : (r : Int) < (B.pins.length : Int) := by omega
  clear hf hf1 hrow hq hx hrt hW hlen hpin hB hra HB0 hlv hrn hw hy hr hk hkl
  go_enter Try.func107, Try.ntmps107
  go_upto_region 1 with (fail)
  rw [← HW.out]
  go_wp2
  all_goals (go_ret; exact ⟨ret_int (by rw [Hrt.out]; omega), HBW.out⟩)

/-- too much for a statement -/
def shortB (B : Bd) (r : Nat) : Bool := decide ((nthL B.pins r).length ≤ 16)
def greatB (B : Bd) : Bool := (decide (12 < B.pins.length) || decide (16 < B.pays.length)) || !(allTo (shortB B) B.pins.length)

set_option maxRecDepth 100000 in
set_option maxHeartbeats 1000000 in
theorem great_c (pa : Option Addr) (pc : Nat) (ya : Option Addr) (yc : Nat) (B : Bd) (w : World) (hb : BdAt w pa ya B) :
    Calls Try.prog 16 #[.agg #[.slice pa B.pins.length pc, .slice ya B.pays.length yc]] w (TellB w (greatB B)) := by
  have HB0 := hid (bnew w (.cells #[.slice pa B.pins.length pc, .slice ya B.pays.length yc] 25))
  have hE : greatB B = ((decide (12 < B.pins.length) || decide (16 < B.pays.length)) || !(allTo (shortB B) B.pins.length)) := rfl
  unfold TellB
  by_cases h12 : 12 < B.pins.length
  · have h12I : (12 : Int) < (B.pins.length : Int) := by omega
    rw [hE, decide_eq_true h12]
    clear hE hb
    go_enter Try.func16, Try.ntmps16
    go_wp2
    go_ret
    exact ⟨rfl, HB0.out⟩
  · have h12I : ¬ (12 : Int) < (B.pins.length : Int) := by omega
    rw [decide_eq_false h12] at hE
    by_cases h16 : 16 < B.pays.length
    · have h16I : (16 : Int) < (B.pays.length : Int) := by omega
      rw [hE, decide_eq_true h16]
      clear hE hb
      go_enter Try.func16, Try.ntmps16
      go_wp2
      go_ret
      exact ⟨rfl, HB0.out⟩
    · have h16I : ¬ (16 : Int) < (B.pays.length : Int) := by omega
      rw [decide_eq_false h16] at hE
      obtain ⟨W, hW⟩ : ∃ W, W = w.alloc (.cells #[.slice pa B.pins.length pc, .slice ya B.pays.length yc] 25) := ⟨_, rfl⟩
      have hbW := hb.mono HB0.out
      rw [← hW] at hbW
      have k0 : W.cell? ⟨w.heap.size, 0, none⟩ = some (.slice pa B.pins.length pc) := by rw [hW]; simp [go_sem]
      have k1 : W.cell? ⟨w.heap.size, 1, none⟩ = some (.slice ya B.pays.length yc) := by rw [hW]; simp [go_sem]
      rw [← hW] at HB0
      have HW := hid hW; have HE := hid hE; have HbW := hid hbW
      clear hW hE hb hbW h12 h16
      go_enter Try.func16, Try.ntmps16
      go_upto_region 1 with (fail)
      rw [← HW.out]
      go_wp2
      go_loopw [3, 4] (fun m i wr => ∃ (k : Nat) (v : Int), k ≤ B.pins.length ∧ i = .int .i64 k ∧ m = .int .i64 v ∧ 0 ≤ v ∧ decide (16 < v) = !(allTo (shortB B) k) ∧ wr = W) (fun _ i _ => B.pins.length - (intOf i).toNat)
      case atStart => exact ⟨0, 0, Nat.zero_le _, rfl, rfl, Int.le_refl _, rfl, rfl⟩
      case round =>
        obtain ⟨k, v, hk, rfl, rfl, hv0, hv, rfl⟩ := hrel
        have Hv := hid hv
        clear hv
        by_cases hlt : k < B.pins.length
        · obtain ⟨b, off, ra, rc, rfl, hc, hrow, hrn⟩ := HbW.out.1.at hlt
          have hs : allTo (shortB B) (k + 1) = (allTo (shortB B) k && shortB B k) := rfl
          have hr : shortB B k = decide ((nthL B.pins k).length ≤ 16) := rfl
          obtain ⟨q, hq⟩ : ∃ q, q = (nthL B.pins k).length := ⟨_, rfl⟩
          rw [← hq] at hr hc
          rw [hr] at hs
          have hfin : ∀ v' : Int, v' = (if v < q then (q : Int) else v) → decide (16 < v') = !(allTo (shortB B) (k + 1)) := fun v' hv' => by
            rw [hs, Bool.not_and, ← Hv.out, hv']
            by_cases h1 : v < q <;> by_cases h2 : q ≤ 16 <;> simp [h1, h2] <;> omega
          have Hfin := hid hfin
          clear hs hr hq hrow hrn hfin
          by_cases hvq : v < (q : Int)
          · go_wp2
            go_roundw
            case rel => exact ⟨k + 1, q, by omega, by go_num, rfl, by omega, Hfin.out _ (by rw [if_pos hvq]), trivial⟩
            case measure => simp [intOf]; omega
          · go_wp2
            go_roundw
            case rel => exact ⟨k + 1, v, by omega, by go_num, rfl, by omega, Hfin.out _ (by rw [if_neg hvq]), trivial⟩
            case measure => simp [intOf]; omega
        · obtain rfl : k = B.pins.length := by omega
          go_wp2
          go_ret
          exact ⟨ret_bool (by rw [HE.out, Hv.out]; simp), HB0.out⟩

theorem great_false {B : Bd} (h : greatB B = false) : B.pins.length ≤ 12 ∧ B.pays.length ≤ 16 ∧ ∀ r, r < B.pins.length → (nthL B.pins r).length ≤ 16 := by
  simp only [greatB, Bool.or_eq_false_iff, decide_eq_false_iff_not, Bool.not_eq_false'] at h
  refine ⟨by omega, by omega, fun r hr => ?_⟩
  have := allTo_iff.1 h.2 r hr
  simpa [shortB] using this
def fineB (B : Bd) : Bool := !greatB B && decide (bdErr B = 0)

set_option maxRecDepth 100000 in
set_option maxHeartbeats 1000000 in
theorem fine_c (pa : Option Addr) (pc : Nat) (ya : Option Addr) (yc : Nat) (B : Bd) (w : World) (hb : BdAt w pa ya B) :
    Calls Try.prog 52 #[.agg #[.slice pa B.pins.length pc, .slice ya B.pays.length yc]] w (TellB w (fineB B)) := by
  have HB0 := hid (bnew w (.cells #[.slice pa B.pins.length pc, .slice ya B.pays.length yc] 25))
  obtain ⟨W, hW⟩ : ∃ W, W = w.alloc (.cells #[.slice pa B.pins.length pc, .slice ya B.pays.length yc] 25) := ⟨_, rfl⟩
  have hbW := hb.mono HB0.out
  rw [← hW] at hbW HB0
  have k0 : W.cell? ⟨w.heap.size, 0, none⟩ = some (.slice pa B.pins.length pc) := by rw [hW]; simp [go_sem]
  have k1 : W.cell? ⟨w.heap.size, 1, none⟩ = some (.slice ya B.pays.length yc) := by rw [hW]; simp [go_sem]
  have HG := hid (great_c pa pc ya yc B W hbW)
  have hE : fineB B = (!greatB B && decide (bdErr B = 0)) := rfl
  have HW := hid hW
  unfold TellB at *
  cases hg : greatB B with
  | true =>
    rw [hg] at HG hE
    rw [hE]
    clear hE hb hbW hW hg
    go_enter Try.func52, Try.ntmps52
    go_upto_region 1 with (fail)
    rw [← HW.out]
    go_wp2_with fail
    refine HG.out.mono ?_
    rintro e w1 ⟨rfl, hB⟩
    have HB1 := hid (bstep HB0.out hB)
    clear hB
    go_wp2
    go_ret
    exact ⟨rfl, HB1.out⟩
  | false =>
    have hlen := great_false hg
    have HR := hid fun (w' : World) (h : Below W.heap.size W w') => rCheckBoard_c pa pc ya yc B w' (hbW.mono h) (by omega)
    unfold TellI at HR
    rw [hg] at HG hE
    rw [hE]
    have hd : (!false && decide (bdErr B = 0)) = (bdErr B == 0) := by simp; rfl
    rw [hd]
    obtain ⟨v, hv⟩ : ∃ v, v = bdErr B := ⟨_, rfl⟩
    rw [← hv] at HR ⊢
    clear hE hb hbW hW hg hlen hv hd
    go_enter Try.func52, Try.ntmps52
    go_upto_region 1 with (fail)
    rw [← HW.out]
    go_wp2_with fail
    refine HG.out.mono ?_
    rintro e w1 ⟨rfl, hB⟩
    have HB1 := hid hB
    have HB2 := hid (bstep HB0.out hB)
    have k0 := cstep k0 hB; have k1 := cstep k1 hB
    clear hB
    go_wp2_with fail
    refine (HR.out _ HB1.out).mono ?_
    rintro e w2 ⟨rfl, hB⟩
    have HB3 := hid (bstep HB2.out hB)
    clear hB
    go_wp2
    all_goals (go_ret; exact ⟨ret_bool (by simp_all), HB3.out⟩)

end Go.Proofs.Ytnnojhpioenhbaa

namespace Go.Proofs.Ytnnojhpioenhbaa
open Go.RowKit Go.Shelf

/-- a frame's cells -/
def frCells (A : FA) (B : Bd) (R : Rd) (lv : Int) : Array Value := #[.slice A.pa B.pins.length A.pc, .slice A.ya B.pays.length A.yc, .slice A.la R.plumbs.length A.lc, .slice A.sa R.slots.length A.sc, .int .i64 lv]
theorem frAt_of {w : World} {g : Nat} {A : FA} {B : Bd} {R : Rd} {lv : Int} {fr : Nat × Nat} {t : TypeId} (h : w.heap[g]? = some (.cells (frCells A B R lv) t fr)) (hb : BdAt w A.pa A.ya B) (hr : RdAt w A.la A.sa R) : FrAt w g A B R lv :=
  ⟨by rw [cell_of_row _ _ _ _ _ _ h]; rfl, by rw [cell_of_row _ _ _ _ _ _ h]; rfl, by rw [cell_of_row _ _ _ _ _ _ h]; rfl, by rw [cell_of_row _ _ _ _ _ _ h]; rfl, by rw [cell_of_row _ _ _ _ _ _ h]; rfl, hb, hr⟩
/-- no readings -/
def R0 : Rd := ⟨[], []⟩
def fa0 (pa : Option Addr) (pc : Nat) (ya : Option Addr) (yc : Nat) : FA := ⟨pa, pc, ya, yc, none, 0, none, 0⟩
/-- a new frame -/
def NewFr (w : World) (A : FA) (B : Bd) (R : Rd) (lv : Int) (e : Ending) (w' : World) : Prop :=
  ∃ g, e = .returned (.tuple #[.pointer (some ⟨g, 0, none⟩), .int .i64 0]) ∧ w'.heap[g]? = some (.cells (frCells A B R lv) 114 (0, 0)) ∧ w.heap.size ≤ g ∧ Below w.heap.size w w'
/-- no frame, but an error -/
def NoFr (w : World) (v : Int) (e : Ending) (w' : World) : Prop := e = .returned (.tuple #[.pointer none, .int .i64 v]) ∧ Below w.heap.size w w'

section
variable (pa : Option Addr) (pc : Nat) (ya : Option Addr) (yc : Nat) (B : Bd) (w : World)
set_option maxRecDepth 100000 in
theorem open_ok (hb : BdAt w pa ya B) (hl : B.pins.length ≤ 1000000) (hy : B.pays.length ≤ 1000000) (h0 : bdErr B = 0) :
    Calls Try.prog 102 #[.agg #[.slice pa B.pins.length pc, .slice ya B.pays.length yc]] w (NewFr w (fa0 pa pc ya yc) B R0 0) := by
  have HB0 := hid (bnew w (.cells #[.slice pa B.pins.length pc, .slice ya B.pays.length yc] 25))
  obtain ⟨W, hW⟩ : ∃ W, W = w.alloc (.cells #[.slice pa B.pins.length pc, .slice ya B.pays.length yc] 25) := ⟨_, rfl⟩
  have hbW := hb.mono HB0.out
  rw [← hW] at hbW HB0
  have k0 : W.cell? ⟨w.heap.size, 0, none⟩ = some (.slice pa B.pins.length pc) := by rw [hW]; simp [go_sem]
  have k1 : W.cell? ⟨w.heap.size, 1, none⟩ = some (.slice ya B.pays.length yc) := by rw [hW]; simp [go_sem]
  have HC := hid (checkBoard_c pa pc ya yc B W hbW hl hy)
  rw [h0] at HC
  unfold TellI at HC
  unfold NewFr
  have HW := hid hW
  clear hb hbW hW h0 hl hy
  go_enter Try.func102, Try.ntmps102
  go_upto_region 1 with (fail)
  rw [← HW.out]
  go_wp2_with fail
  refine HC.out.mono ?_
  rintro e w1 ⟨rfl, hB⟩
  have HB1 := hid (bstep HB0.out hB)
  have k0 := cstep k0 hB; have k1 := cstep k1 hB
  have hz := heap_alloc_new w1 (.cells (frCells (fa0 pa pc ya yc) B R0 0) 114)
  have Hz := hid hz
  clear hB hz
  go_wp2
  go_ret2
  exact ⟨_, rfl, Hz.out, HB1.out.size, bstep HB1.out (bnew _ _)⟩

set_option maxRecDepth 100000 in
theorem open_bad (hb : BdAt w pa ya B) (hl : B.pins.length ≤ 1000000) (hy : B.pays.length ≤ 1000000) (h0 : ¬ bdErr B = 0) :
    Calls Try.prog 102 #[.agg #[.slice pa B.pins.length pc, .slice ya B.pays.length yc]] w (NoFr w (bdErr B)) := by
  have HB0 := hid (bnew w (.cells #[.slice pa B.pins.length pc, .slice ya B.pays.length yc] 25))
  obtain ⟨W, hW⟩ : ∃ W, W = w.alloc (.cells #[.slice pa B.pins.length pc, .slice ya B.pays.length yc] 25) := ⟨_, rfl⟩
  have hbW := hb.mono HB0.out
  rw [← hW] at hbW HB0
  have k0 : W.cell? ⟨w.heap.size, 0, none⟩ = some (.slice pa B.pins.length pc) := by rw [hW]; simp [go_sem]
  have k1 : W.cell? ⟨w.heap.size, 1, none⟩ = some (.slice ya B.pays.length yc) := by rw [hW]; simp [go_sem]
  have HC := hid (checkBoard_c pa pc ya yc B W hbW hl hy)
  obtain ⟨v, hv⟩ : ∃ v, v = bdErr B := ⟨_, rfl⟩
  rw [← hv] at HC h0 ⊢
  unfold TellI at HC
  unfold NoFr
  have HW := hid hW
  clear hb hbW hW hl hy hv
  go_enter Try.func102, Try.ntmps102
  go_upto_region 1 with (fail)
  rw [← HW.out]
  go_wp2_with fail
  refine HC.out.mono ?_
  rintro e w1 ⟨rfl, hB⟩
  have HB1 := hid (bstep HB0.out hB)
  clear hB
  go_wp2
  go_ret2
  exact ⟨rfl, HB1.out⟩

set_option maxRecDepth 100000 in
theorem levelled_bad1 (lv : Int) (hb : BdAt w pa ya B) (hl : B.pins.length ≤ 1000000) (hy : B.pays.length ≤ 1000000) (h0 : ¬ bdErr B = 0) :
    Calls Try.prog 66 #[.agg #[.slice pa B.pins.length pc, .slice ya B.pays.length yc], .int .i64 lv] w (NoFr w (bdErr B)) := by
  have HB0 := hid (bnew w (.cells #[.slice pa B.pins.length pc, .slice ya B.pays.length yc] 25))
  obtain ⟨W, hW⟩ : ∃ W, W = w.alloc (.cells #[.slice pa B.pins.length pc, .slice ya B.pays.length yc] 25) := ⟨_, rfl⟩
  have hbW := hb.mono HB0.out
  rw [← hW] at hbW HB0
  have k0 : W.cell? ⟨w.heap.size, 0, none⟩ = some (.slice pa B.pins.length pc) := by rw [hW]; simp [go_sem]
  have k1 : W.cell? ⟨w.heap.size, 1, none⟩ = some (.slice ya B.pays.length yc) := by rw [hW]; simp [go_sem]
  have HC := hid (open_bad pa pc ya yc B W hbW hl hy h0)
  obtain ⟨v, hv⟩ : ∃ v, v = bdErr B := ⟨_, rfl⟩
  rw [← hv] at HC h0 ⊢
  unfold NoFr at *
  have HW := hid hW
  clear hb hbW hW hl hy hv
  go_enter Try.func66, Try.ntmps66
  go_upto_region 1 with (fail)
  rw [← HW.out]
  go_wp2_with fail
  refine HC.out.mono ?_
  rintro e w1 ⟨rfl, hB⟩
  have HB1 := hid (bstep HB0.out hB)
  clear hB
  go_wp2
  go_ret2
  exact ⟨rfl, HB1.out⟩

set_option maxRecDepth 100000 in
theorem levelled_bad2 (lv : Int) (hb : BdAt w pa ya B) (hl : B.pins.length ≤ 1000000) (hy : B.pays.length ≤ 1000000) (h0 : bdErr B = 0) (hlv : within (-5) 5 [lv] = false) :
    Calls Try.prog 66 #[.agg #[.slice pa B.pins.length pc, .slice ya B.pays.length yc], .int .i64 lv] w (NoFr w 2) := by
  have HB0 := hid (bnew w (.cells #[.slice pa B.pins.length pc, .slice ya B.pays.length yc] 25))
  obtain ⟨W, hW⟩ : ∃ W, W = w.alloc (.cells #[.slice pa B.pins.length pc, .slice ya B.pays.length yc] 25) := ⟨_, rfl⟩
  have hbW := hb.mono HB0.out
  rw [← hW] at hbW HB0
  have k0 : W.cell? ⟨w.heap.size, 0, none⟩ = some (.slice pa B.pins.length pc) := by rw [hW]; simp [go_sem]
  have k1 : W.cell? ⟨w.heap.size, 1, none⟩ = some (.slice ya B.pays.length yc) := by rw [hW]; simp [go_sem]
  have HC := hid (open_ok pa pc ya yc B W hbW hl hy h0)
  have HL := hid fun (b : Nat) (w' : World) (h : b = w'.heap.size) => within1 (-5) 5 lv b w' h
  rw [hlv] at HL
  unfold NewFr at HC
  unfold NoFr
  have HW := hid hW
  clear hb hbW hW hl hy hlv h0
  go_enter Try.func66, Try.ntmps66
  go_upto_region 1 with (fail)
  rw [← HW.out]
  go_wp2_with fail
  refine HC.out.mono ?_
  rintro e w1 ⟨g, rfl, hg, hge, hB⟩
  have HB1 := hid (bstep HB0.out hB)
  clear hB hg
  go_wp2_with fail
  refine (HL.out _ _ (by simp)).mono ?_
  rintro e w2 ⟨rfl, hB⟩
  have HB2 := hid (bstep HB1.out hB)
  clear hB
  go_wp2
  go_ret2
  exact ⟨rfl, HB2.out⟩

set_option maxRecDepth 100000 in
theorem levelled_ok (lv : Int) (hb : BdAt w pa ya B) (hl : B.pins.length ≤ 1000000) (hy : B.pays.length ≤ 1000000) (h0 : bdErr B = 0) (hlv : within (-5) 5 [lv] = true) :
    Calls Try.prog 66 #[.agg #[.slice pa B.pins.length pc, .slice ya B.pays.length yc], .int .i64 lv] w (NewFr w (fa0 pa pc ya yc) B R0 lv) := by
  have HB0 := hid (bnew w (.cells #[.slice pa B.pins.length pc, .slice ya B.pays.length yc] 25))
  obtain ⟨W, hW⟩ : ∃ W, W = w.alloc (.cells #[.slice pa B.pins.length pc, .slice ya B.pays.length yc] 25) := ⟨_, rfl⟩
  have hbW := hb.mono HB0.out
  rw [← hW] at hbW HB0
  have k0 : W.cell? ⟨w.heap.size, 0, none⟩ = some (.slice pa B.pins.length pc) := by rw [hW]; simp [go_sem]
  have k1 : W.cell? ⟨w.heap.size, 1, none⟩ = some (.slice ya B.pays.length yc) := by rw [hW]; simp [go_sem]
  have HC := hid (open_ok pa pc ya yc B W hbW hl hy h0)
  have HL := hid fun (b : Nat) (w' : World) (h : b = w'.heap.size) => within1 (-5) 5 lv b w' h
  rw [hlv] at HL
  unfold NewFr at *
  have HW := hid hW
  clear hb hbW hW hl hy hlv h0
  go_enter Try.func66, Try.ntmps66
  go_upto_region 1 with (fail)
  rw [← HW.out]
  go_wp2_with fail
  refine HC.out.mono ?_
  rintro e w1 ⟨g, rfl, hg, hge, hB⟩
  have HB1 := hid (bstep HB0.out hB)
  have Hg := hid hg; have Hge := hid (Nat.le_trans HB0.out.size hge)
  clear hB hg hge
  go_wp2_with fail
  refine (HL.out _ _ (by simp)).mono ?_
  rintro e w2 ⟨rfl, hB⟩
  have HB2 := hid (bstep HB1.out hB)
  have hg2 := (hB.block g (Array.getElem?_eq_some_iff.1 Hg.out).1).trans Hg.out
  have c4 : w2.cell? ⟨g, 4, none⟩ = some (.int .i64 0) := by rw [cell_of_row _ _ _ _ _ _ hg2]; rfl
  have f4 : w2.frozen? ⟨g, 4, none⟩ = false := frozen_of_row _ _ 4 _ _ hg2
  have Hg2 := hid ((heap_setCell_same w2 g 4 _ 114 (.int .i64 lv) hg2).trans rfl : _ = some (.cells (frCells (fa0 pa pc ya yc) B R0 lv) 114 (0, 0)))
  clear hB hg2
  go_wp2
  go_ret2
  exact ⟨g, rfl, Hg2.out, Hge.out, HB2.out.setCell Hge.out _⟩
end

end Go.Proofs.Ytnnojhpioenhbaa

namespace Go.Proofs.Ytnnojhpioenhbaa
open Go.RowKit Go.Shelf
open Go.ChangeMaps (setBlock)

theorem laid : laidOutB Try.prog = true := by kernel_rfl
theorem row127 : (127 : TypeId) < Try.prog.types.size := of_decide_eq_true (by kernel_rfl)
theorem wide127 : (match Try.prog.underlying 127 with | some (.array _ _) | some (.struct _) => true | _ => false) = true := by rw [Try.underlying127]
theorem key127 : Try.prog.keyTypeAt 2 127 = true := by kernel_rfl
set_option maxRecDepth 100000 in
theorem law127 : Go.WideMaps.KeyLaw Try.prog 127 := deep_law_laid laid (m := 2) (by omega) row127 key127 wide127
theorem keyTypeAll : Try.prog.keyType 127 = true := by kernel_rfl
theorem cells127 : Try.prog.cellsOf 127 = 2 := by kernel_rfl
theorem cells3 : Try.prog.cellsOf 3 = 1 := by kernel_rfl

theorem small_wf {n : Nat} (h : n < 100) : (Lit.int .i64 (n : Int)).wf = true := by
  have : ∀ k : Fin 100, (Lit.int .i64 ((k : Nat) : Int)).wf = true := by decide
  exact this ⟨n, h⟩
theorem keyLits3 (d : Nat) {n : Nat} (h : n < 100) : Try.prog.keyLits (d + 1) 3 [.int .i64 (n : Int)] = some [.int .i64 (n : Int)] := by
  unfold Program.keyLits
  rw [Try.underlying3]
  have := small_wf h
  simp [this]
theorem keyLits127 (d : Nat) {n m : Nat} (h : n < 100) (hm : m < 100) : Try.prog.keyLits (d + 2) 127 [.int .i64 (n : Int), .int .i64 (m : Int)] = some [.int .i64 (n : Int), .int .i64 (m : Int)] := by
  unfold Program.keyLits
  rw [Try.underlying127]
  have h2 := keyLits3 d h
  have h3 := keyLits3 d hm
  simp [cells127, cells3, h2, h3]
def spotV (r j : Nat) : Value := .agg #[.int .i64 (r : Int), .int .i64 (j : Int)]
def spotKey (r j : Nat) : Lit := .string (keyBytes [.int .i64 (r : Int), .int .i64 (j : Int)])
theorem keyOf_spot {r j : Nat} (h : r < 100) (hj : j < 100) : keyOf Try.prog 127 (spotV r j) = some (spotKey r j) := by
  unfold keyOf spotV
  rw [Try.underlying127]
  have hf : (Value.agg #[.int .i64 (r : Int), .int .i64 (j : Int)]).formed Try.prog 127 = true := by
    simp [Value.formed, Try.underlying127, cells127]
  have hn : ∃ d, Try.prog.types.size + 1 = d + 2 := ⟨Try.prog.types.size - 1, by
    have : 2 ≤ Try.prog.types.size := of_decide_eq_true (by kernel_rfl)
    omega⟩
  obtain ⟨d, hd⟩ := hn
  rw [keyTypeAll, hf, hd]
  have h2 := keyLits127 d h hj
  simp [Value.cells, h2, spotKey]
theorem spotV_inj {r j r' j' : Nat} (h : spotV r j = spotV r' j') : r = r' ∧ j = j' := by
  unfold spotV at h
  simp at h
  omega

/-- an entry -/
structure Ent where
  r : Nat
  j : Nat
  v : Int
  b : Nat
def Ent.me (e : Ent) : MapEntry := { key := spotV e.r e.j, val := .int .i64 e.v, born := e.b }
structure Good (L : List Ent) (c : Nat) : Prop where
  keys : (L.map fun e => (e.r, e.j)).Nodup
  borns : (L.map fun e => e.b).Nodup
  lt : ∀ e ∈ L, e.b < c
  small : ∀ e ∈ L, e.r < 100 ∧ e.j < 100
def Fun (L : List Ent) (f : Nat → Nat → Option Int) : Prop := ∀ r j v, f r j = some v ↔ ∃ e, e ∈ L ∧ e.r = r ∧ e.j = j ∧ e.v = v
/-- block b is a map that is the function f -/
def MapFn (w : World) (b : Nat) (f : Nat → Nat → Option Int) : Prop := ∃ L c, w.heap[b]? = some (.map (L.map Ent.me).toArray c) ∧ Good L c ∧ Fun L f
def upd (f : Nat → Nat → Option Int) (r j : Nat) (o : Option Int) : Nat → Nat → Option Int := fun r' j' => if r' = r ∧ j' = j then o else f r' j'

theorem MapFn.same {w w' : World} {b : Nat} {f : Nat → Nat → Option Int} (h : MapFn w b f) (e : w'.heap[b]? = w.heap[b]?) : MapFn w' b f := by
  obtain ⟨L, c, h1, h2⟩ := h
  exact ⟨L, c, e.trans h1, h2⟩
theorem MapFn.lt {w : World} {b : Nat} {f : Nat → Nat → Option Int} (h : MapFn w b f) : b < w.heap.size := by
  obtain ⟨L, c, h1, h2⟩ := h
  exact (Array.getElem?_eq_some_iff.1 h1).1
theorem MapFn.ext {w : World} {b : Nat} {f g : Nat → Nat → Option Int} (h : MapFn w b f) (e : ∀ r j, g r j = f r j) : MapFn w b g := by
  obtain ⟨L, c, h1, h2, h3⟩ := h
  exact ⟨L, c, h1, h2, fun r j v => by rw [e]; exact h3 r j v⟩
theorem mapFn_made (w : World) : MapFn (w.alloc (.map #[] 0)) w.heap.size (fun _ _ => none) :=
  ⟨[], 0, heap_alloc_new w _, ⟨List.nodup_nil, List.nodup_nil, (by intro e h; cases h), (by intro e h; cases h)⟩, fun r j v => ⟨(by intro h; cases h), (by rintro ⟨e, h, _⟩; cases h)⟩⟩

theorem Good.uniq {L : List Ent} {c : Nat} (G : Good L c) {x y : Ent} (hx : x ∈ L) (hy : y ∈ L) (h : x.r = y.r ∧ x.j = y.j) : x = y := by
  obtain ⟨i, hi, rfl⟩ := List.getElem_of_mem hx
  obtain ⟨k, hk, rfl⟩ := List.getElem_of_mem hy
  have := (List.getElem_inj (xs := L.map fun e => (e.r, e.j)) (h₀ := by simpa using hi) (h₁ := by simpa using hk) G.keys).1 (by simp [h.1, h.2])
  subst this; rfl

theorem find_spot (w : World) {L : List Ent} {c : Nat} (G : Good L c) {f : Nat → Nat → Option Int} (F : Fun L f) {r j : Nat} (hr : r < 100) (hj : j < 100) :
    ((Instr.findKey 127 (spotV r j) (L.map Ent.me)).run Try.prog w = .ok none w ∧ (∀ e ∈ L, ¬ (e.r = r ∧ e.j = j)) ∧ f r j = none) ∨
    ∃ i e, (Instr.findKey 127 (spotV r j) (L.map Ent.me)).run Try.prog w = .ok (some (i, .int .i64 e.v)) w ∧ L[i]? = some e ∧ e.r = r ∧ e.j = j ∧ f r j = some e.v := by
  rcases law127.find w (keyOf_spot hr hj) (L.map Ent.me) (fun e he => by
    obtain ⟨x, hx, rfl⟩ := List.mem_map.1 he
    exact ⟨_, keyOf_spot (G.small x hx).1 (G.small x hx).2⟩) with ⟨h1, h2⟩ | ⟨i, e, h1, h2, h3⟩
  · have hno : ∀ e ∈ L, ¬ (e.r = r ∧ e.j = j) := fun e he hc => h2 e.me (List.mem_map.2 ⟨e, he, rfl⟩) (by obtain ⟨rfl, rfl⟩ := hc; rfl)
    refine .inl ⟨h1, hno, ?_⟩
    cases hf : f r j with
    | none => rfl
    | some v => obtain ⟨e, he, a, b, _⟩ := (F r j v).1 hf; exact absurd ⟨a, b⟩ (hno e he)
  · rw [List.getElem?_map] at h2
    cases hL : L[i]? with
    | none => rw [hL] at h2; cases h2
    | some x =>
      rw [hL] at h2
      simp at h2
      subst h2
      obtain ⟨a, b⟩ := spotV_inj h3
      exact .inr ⟨i, x, h1, hL, a, b, (F r j x.v).2 ⟨x, List.mem_of_getElem? hL, a, b, rfl⟩⟩

theorem map_look {w : World} {b : Nat} {f : Nat → Nat → Option Int} (h : MapFn w b f) {r j : Nat} (hr : r < 100) (hj : j < 100) :
    (Instr.lookup 128 (.map (some b)) (spotV r j) false).run Try.prog w = .ok (.int .i64 ((f r j).getD 0)) w := by
  obtain ⟨L, c, hb, G, F⟩ := h
  have hck : ∀ em, (Instr.checkKey em 10000 127 (spotV r j)).run Try.prog w = .ok () w := fun em => law127.check w em (keyOf_spot hr hj)
  rcases find_spot w G F hr hj with ⟨h1, _, h2⟩ | ⟨i, e, h1, _, _, _, h2⟩
  · simp [Instr.lookup, run_underlying Try.underlying128, MapKept.run_getObj_map hb, hck, h1, h2, Result.andThen]
  · simp [Instr.lookup, run_underlying Try.underlying128, MapKept.run_getObj_map hb, hck, h1, h2, Result.andThen]

theorem modify_me {L : List Ent} {i : Nat} {e e' : Ent} (hi : L[i]? = some e) (g : MapEntry → MapEntry) (hg : g e.me = e'.me) : (L.map Ent.me).toArray.modify i g = ((L.set i e').map Ent.me).toArray := by
  apply Array.ext'
  apply List.ext_getElem?
  intro k
  simp only [Array.toList_modify, List.getElem?_modify, List.getElem?_map, List.getElem?_set]
  by_cases hk : i = k
  · subst hk
    obtain ⟨hlt, he⟩ := List.getElem?_eq_some_iff.1 hi
    simp [he, hg, hlt]
  · simp [hk]
theorem modify_meL {L : List Ent} {i : Nat} {e e' : Ent} (hi : L[i]? = some e) (g : MapEntry → MapEntry) (hg : g e.me = e'.me) : (L.map Ent.me).modify i g = (L.set i e').map Ent.me := by
  have := congrArg Array.toList (modify_me hi g hg)
  simpa using this
theorem set_same {L : List Ent} {i : Nat} {e : Ent} (hi : L[i]? = some e) : L.set i e = L := by
  apply List.ext_getElem?
  intro k
  rw [List.getElem?_set]
  by_cases hk : i = k
  · subst hk
    obtain ⟨hlt, he⟩ := List.getElem?_eq_some_iff.1 hi
    simp [he, hlt]
  · simp [hk]
theorem Good.set {L : List Ent} {c i : Nat} {e : Ent} (G : Good L c) (hi : L[i]? = some e) (v : Int) : Good (L.set i { e with v := v }) c := by
  have hm := List.mem_of_getElem? hi
  have mem : ∀ x, x ∈ L.set i { e with v := v } → ∃ y ∈ L, y.b = x.b ∧ y.r = x.r ∧ y.j = x.j := fun x hx => by
    rcases List.mem_or_eq_of_mem_set hx with h | rfl
    · exact ⟨x, h, rfl, rfl, rfl⟩
    · exact ⟨e, hm, rfl, rfl, rfl⟩
  have hk : ∀ {β : Type} (p : Ent → β), p { e with v := v } = p e → (L.set i { e with v := v }).map p = L.map p := fun p hp => by
    apply List.ext_getElem?
    intro k
    simp only [List.getElem?_map, List.getElem?_set]
    by_cases h : i = k
    · subst h
      obtain ⟨hlt, he⟩ := List.getElem?_eq_some_iff.1 hi
      simp [he, hp, hlt]
    · simp [h]
  refine ⟨?_, ?_, fun x hx => ?_, fun x hx => ?_⟩
  · rw [hk (fun e => (e.r, e.j)) rfl]; exact G.keys
  · rw [hk (fun e => e.b) rfl]; exact G.borns
  · obtain ⟨y, hy, h1, _⟩ := mem x hx; rw [← h1]; exact G.lt y hy
  · obtain ⟨y, hy, _, h2, h3⟩ := mem x hx; rw [← h2, ← h3]; exact G.small y hy
theorem Fun.set {L : List Ent} {c i : Nat} {e : Ent} {f : Nat → Nat → Option Int} (G : Good L c) (F : Fun L f) (hi : L[i]? = some e) (v : Int) : Fun (L.set i { e with v := v }) (upd f e.r e.j (some v)) := by
  intro r j u
  have hlt := (List.getElem?_eq_some_iff.1 hi).1
  have hm := List.mem_of_getElem? hi
  unfold upd
  by_cases hk : r = e.r ∧ j = e.j
  · rw [if_pos hk]
    obtain ⟨rfl, rfl⟩ := hk
    constructor
    · intro h
      cases h
      exact ⟨_, List.mem_set hlt _, rfl, rfl, rfl⟩
    · rintro ⟨x, hx, h1, h2, rfl⟩
      have G2 := G.set hi v
      rw [G2.uniq hx (List.mem_set hlt _) ⟨h1, h2⟩]
  · rw [if_neg hk, F]
    constructor
    · rintro ⟨x, hx, rfl, rfl, rfl⟩
      obtain ⟨k, hkl, rfl⟩ := List.getElem_of_mem hx
      have hne : i ≠ k := fun h => by
        subst h
        rw [List.getElem?_eq_getElem hkl] at hi
        cases hi
        exact hk ⟨rfl, rfl⟩
      refine ⟨L[k], List.mem_iff_getElem?.2 ⟨k, ?_⟩, rfl, rfl, rfl⟩
      rw [List.getElem?_set, if_neg hne, List.getElem?_eq_getElem hkl]
    · rintro ⟨x, hx, rfl, rfl, rfl⟩
      rcases List.mem_or_eq_of_mem_set hx with h | rfl
      · exact ⟨x, h, rfl, rfl, rfl⟩
      · exact absurd ⟨rfl, rfl⟩ hk
theorem Good.push {L : List Ent} {c : Nat} (G : Good L c) {r j : Nat} (hr : r < 100) (hj : j < 100) (hno : ∀ e ∈ L, ¬ (e.r = r ∧ e.j = j)) (v : Int) : Good (L ++ [⟨r, j, v, c⟩]) (c + 1) := by
  refine ⟨?_, ?_, fun x hx => ?_, fun x hx => ?_⟩
  · rw [List.map_append]
    refine List.nodup_append.2 ⟨G.keys, by simp, ?_⟩
    intro a ha b hb hab
    subst hab
    obtain ⟨x, hx, rfl⟩ := List.mem_map.1 ha
    simp at hb
    exact hno x hx hb
  · rw [List.map_append]
    refine List.nodup_append.2 ⟨G.borns, by simp, ?_⟩
    intro a ha b hb hab
    subst hab
    obtain ⟨x, hx, rfl⟩ := List.mem_map.1 ha
    simp at hb
    have := G.lt x hx
    omega
  · rcases List.mem_append.1 hx with h | h
    · have := G.lt x h; omega
    · simp at h; subst h; show c < c + 1; omega
  · rcases List.mem_append.1 hx with h | h
    · exact G.small x h
    · simp at h; subst h; exact ⟨hr, hj⟩
theorem Fun.push {L : List Ent} {f : Nat → Nat → Option Int} (F : Fun L f) {r j c : Nat} (hno : ∀ e ∈ L, ¬ (e.r = r ∧ e.j = j)) (v : Int) : Fun (L ++ [⟨r, j, v, c⟩]) (upd f r j (some v)) := by
  intro r' j' u
  unfold upd
  by_cases hk : r' = r ∧ j' = j
  · rw [if_pos hk]
    obtain ⟨rfl, rfl⟩ := hk
    constructor
    · intro h; cases h; exact ⟨_, List.mem_append_right _ (List.mem_singleton_self _), rfl, rfl, rfl⟩
    · rintro ⟨x, hx, h1, h2, rfl⟩
      rcases List.mem_append.1 hx with h | h
      · exact absurd ⟨h1, h2⟩ (hno x h)
      · simp at h; subst h; rfl
  · rw [if_neg hk, F]
    constructor
    · rintro ⟨x, hx, h⟩; exact ⟨x, List.mem_append_left _ hx, h⟩
    · rintro ⟨x, hx, rfl, rfl, rfl⟩
      rcases List.mem_append.1 hx with h | h
      · exact ⟨x, h, rfl, rfl, rfl⟩
      · simp at h; subst h; exact absurd ⟨rfl, rfl⟩ hk

theorem setBlock_at {w : World} {b : Nat} {o o' : Obj} (h : w.heap[b]? = some o) : (setBlock w b o').heap[b]? = some o' := by
  have := (Array.getElem?_eq_some_iff.1 h).1
  simp [setBlock, this]
theorem setBlock_only (w : World) (b : Nat) (o : Obj) : Only (fun k => k = b) w (setBlock w b o) :=
  ⟨rfl, rfl, rfl, by simp [setBlock], fun k _ hs => by simp [setBlock, Ne.symm hs]⟩

/-- an entry is stored by its stamp -/
theorem run_store {w : World} {b : Nat} {L : List Ent} {c : Nat} (hb : w.heap[b]? = some (.map (L.map Ent.me).toArray c)) (G : Good L c) {i : Nat} {e : Ent} (hi : L[i]? = some e) (v : Int) :
    (Instr.entryStore 128 (.map (some b)) (.int .i64 (e.b : Nat)) (.int .i64 v)).run Try.prog w = .ok () (setBlock w b (.map ((L.set i { e with v := v }).map Ent.me).toArray c)) := by
  have hidx : (L.map Ent.me).toArray.findIdx? (fun x => ((x.born : Nat) : Int) == ((e.b : Nat) : Int)) = some i := by
    rw [Go.WideElems.findIdx_arr]
    exact Go.WideElems.findIdx_born (l := L.map Ent.me) (e0 := e.me) (by rw [List.map_map]; exact G.borns) (by rw [List.getElem?_map, hi]; rfl)
  have hmod := modify_me hi (fun x => { x with val := .int .i64 v }) (e' := { e with v := v }) rfl
  simp [Instr.entryStore, MapKept.run_getObj_map hb, asInt, asIntOf, hidx, hmod, MapKept.run_setObj_map _ hb, Result.andThen, setBlock]

theorem map_entry {w : World} {b : Nat} {f : Nat → Nat → Option Int} (h : MapFn w b f) {r j : Nat} (hr : r < 100) (hj : j < 100) :
    ∃ (w1 : World) (st : Nat), (Instr.mapEntry 128 (.map (some b)) (spotV r j)).run Try.prog w = .ok (.tuple #[.int .i64 ((f r j).getD 0), .int .i64 st]) w1 ∧ Only (fun k => k = b) w w1 ∧
      MapFn w1 b (upd f r j (some ((f r j).getD 0))) ∧ ∀ (w2 : World) (v : Int), w2.heap[b]? = w1.heap[b]? → ∃ w3, (Instr.entryStore 128 (.map (some b)) (.int .i64 st) (.int .i64 v)).run Try.prog w2 = .ok () w3 ∧ Only (fun k => k = b) w2 w3 ∧ MapFn w3 b (upd f r j (some v)) := by
  obtain ⟨L, c, hb, G, F⟩ := h
  have hck : ∀ em, (Instr.checkKey em 10000 127 (spotV r j)).run Try.prog w = .ok () w := fun em => law127.check w em (keyOf_spot hr hj)
  have hst := law127.stays w (keyOf_spot hr hj)
  rcases find_spot w G F hr hj with ⟨h1, hno, h2⟩ | ⟨i, e, h1, hi, rfl, rfl, h2⟩
  · refine ⟨setBlock w b (.map ((L ++ [({ r := r, j := j, v := 0, b := c } : Ent)]).map Ent.me).toArray (c + 1)), c, ?_, setBlock_only _ _ _, ?_, fun w2 v hw2 => ?_⟩
    · simp [Instr.mapEntry, run_underlying Try.underlying128, MapKept.run_getObj_map hb, hck, h1, h2, MapKept.run_setObj_map _ hb, Result.andThen, setBlock, goInt, Ent.me]
    · rw [h2]; exact ⟨_, _, setBlock_at hb, G.push hr hj hno 0, F.push hno 0⟩
    · rw [setBlock_at hb] at hw2
      have G2 := G.push hr hj hno 0
      have hi : (L ++ [({ r := r, j := j, v := 0, b := c } : Ent)])[L.length]? = some ({ r := r, j := j, v := 0, b := c } : Ent) := by simp
      refine ⟨_, run_store hw2 G2 hi v, setBlock_only _ _ _, ⟨_, _, setBlock_at hw2, G2.set hi v, ?_⟩⟩
      have := Fun.set G2 (F.push hno 0) hi v
      intro r' j' u
      rw [← this r' j' u]
      simp only [upd]
      split <;> rfl
  · refine ⟨setBlock w b (.map (L.map Ent.me).toArray c), e.b, ?_, setBlock_only _ _ _, ?_, fun w2 v hw2 => ?_⟩
    · have hmod := modify_meL hi (fun x => { key := spotV e.r e.j, val := x.val, born := x.born }) (e' := e) rfl
      rw [set_same hi] at hmod
      have hkey : (((L.map Ent.me).toArray[i]?).map (·.key)).getD (spotV e.r e.j) = spotV e.r e.j := by simp [hi, Ent.me]
      have hborn : (((L.map Ent.me).toArray[i]?).map (·.born)).getD 0 = e.b := by simp [hi, Ent.me]
      simp [Instr.mapEntry, run_underlying Try.underlying128, MapKept.run_getObj_map hb, hck, h1, h2, hst, hi, hmod, MapKept.run_setObj_map _ hb, Result.andThen, setBlock, goInt, Ent.me]
    · rw [h2]
      refine ⟨_, _, setBlock_at hb, G, ?_⟩
      intro r' j' u
      simp only [upd, Option.getD_some]
      split
      · rename_i hk; obtain ⟨rfl, rfl⟩ := hk; rw [← h2]; exact F _ _ _
      · exact F _ _ _
    · rw [setBlock_at hb] at hw2
      exact ⟨_, run_store hw2 G hi v, setBlock_only _ _ _, ⟨_, _, setBlock_at hw2, G.set hi v, Fun.set G F hi v⟩⟩

/-- delete of a key -/
theorem map_delete {w : World} {b : Nat} {f : Nat → Nat → Option Int} (h : MapFn w b f) {r j : Nat} (hr : r < 100) (hj : j < 100) (ty : TypeId) :
    ∃ w1 : World, (Builtin.delete_ #[128, 127] ty #[.map (some b), spotV r j]).run Try.prog w = .ok (.tuple #[]) w1 ∧ Only (fun k => k = b) w w1 ∧ MapFn w1 b (upd f r j none) := by
  obtain ⟨L, c, hb, G, F⟩ := h
  have hck : ∀ em, (Instr.checkKey em 10000 127 (spotV r j)).run Try.prog w = .ok () w := fun em => law127.check w em (keyOf_spot hr hj)
  rcases find_spot w G F hr hj with ⟨h1, hno, h2⟩ | ⟨i, e, h1, hi, rfl, rfl, h2⟩
  · refine ⟨setBlock w b (.map (L.map Ent.me).toArray c), ?_, setBlock_only _ _ _, ⟨L, c, setBlock_at hb, G, fun r' j' u => ?_⟩⟩
    · simp [Builtin.delete_, run_underlying Try.underlying128, MapKept.run_getObj_map hb, hck, h1, MapKept.run_setObj_map _ hb, Result.andThen, setBlock]
    · unfold upd
      split
      · rename_i hk; obtain ⟨rfl, rfl⟩ := hk
        refine ⟨(by intro h; cases h), ?_⟩
        rintro ⟨e, he, h⟩
        exact absurd ⟨h.1, h.2.1⟩ (hno e he)
      · exact F _ _ _
  · obtain ⟨hlt, he⟩ := List.getElem?_eq_some_iff.1 hi
    refine ⟨setBlock w b (.map ((L.eraseIdx i).map Ent.me).toArray c), ?_, setBlock_only _ _ _, ⟨L.eraseIdx i, c, setBlock_at hb, ?_, fun r' j' u => ?_⟩⟩
    · simp [Builtin.delete_, run_underlying Try.underlying128, MapKept.run_getObj_map hb, hck, h1, Go.ChangeMaps.map_eraseIdx, MapKept.run_setObj_map _ hb, Result.andThen, setBlock]
    · have hs := List.eraseIdx_sublist L i
      exact ⟨(hs.map _).nodup G.keys, (hs.map _).nodup G.borns, fun x hx => G.lt x (hs.subset hx), fun x hx => G.small x (hs.subset hx)⟩
    · have hmem : ∀ x, x ∈ L.eraseIdx i ↔ x ∈ L ∧ ¬ (x.r = e.r ∧ x.j = e.j) := fun x => by
        rw [List.mem_eraseIdx_iff_getElem?]
        constructor
        · rintro ⟨k, hk, hx⟩
          refine ⟨List.mem_of_getElem? hx, fun hc => ?_⟩
          obtain ⟨hkl, rfl⟩ := List.getElem?_eq_some_iff.1 hx
          have := (List.getElem_inj (xs := L.map fun e => (e.r, e.j)) (h₀ := by simpa using hkl) (h₁ := by simpa using hlt) G.keys).1 (by simp [he, hc.1, hc.2])
          exact hk this
        · rintro ⟨hx, hne⟩
          obtain ⟨k, hkl, rfl⟩ := List.getElem_of_mem hx
          exact ⟨k, fun h => by subst h; exact hne ⟨by rw [he], by rw [he]⟩, List.getElem?_eq_getElem hkl⟩
      unfold upd
      split
      · rename_i hk; obtain ⟨rfl, rfl⟩ := hk
        refine ⟨(by intro h; cases h), ?_⟩
        rintro ⟨x, hx, h1, h2, _⟩
        exact absurd ⟨h1, h2⟩ ((hmem x).1 hx).2
      · rename_i hk
        rw [F]
        constructor
        · rintro ⟨x, hx, rfl, rfl, rfl⟩; exact ⟨x, (hmem x).2 ⟨hx, hk⟩, rfl, rfl, rfl⟩
        · rintro ⟨x, hx, h⟩; exact ⟨x, ((hmem x).1 hx).1, h⟩

/-- a range over a map: block t is the iterator, f what is left, n how many -/
def MapIt (w : World) (b t : Nat) (f : Nat → Nat → Option Int) (n : Nat) : Prop :=
  ∃ (L : List Ent) (c since c0 : Nat) (seen : Array Nat), w.heap[b]? = some (.map (L.map Ent.me).toArray c) ∧ Good L c ∧ w.heap[t]? = some (.mapIter (some b) since seen c0) ∧ (∀ e ∈ L, e.b < since) ∧ since ≤ c0 ∧ since ≤ c ∧
    n = (leftOf (L.map Ent.me).toArray seen).size ∧ ∀ r j v, f r j = some v ↔ ∃ e, e ∈ L ∧ e.b ∉ seen ∧ e.r = r ∧ e.j = j ∧ e.v = v
theorem MapIt.same {w w' : World} {b t : Nat} {f : Nat → Nat → Option Int} {n : Nat} (h : MapIt w b t f n) (e : w'.heap[b]? = w.heap[b]?) (e2 : w'.heap[t]? = w.heap[t]?) : MapIt w' b t f n := by
  obtain ⟨L, c, since, c0, seen, h1, h2, h3, h4⟩ := h
  exact ⟨L, c, since, c0, seen, e.trans h1, h2, e2.trans h3, h4⟩
theorem MapIt.lt {w : World} {b t : Nat} {f : Nat → Nat → Option Int} {n : Nat} (h : MapIt w b t f n) : b < w.heap.size ∧ t < w.heap.size := by
  obtain ⟨L, c, since, c0, seen, h1, h2, h3, h4⟩ := h
  exact ⟨(Array.getElem?_eq_some_iff.1 h1).1, (Array.getElem?_eq_some_iff.1 h3).1⟩

theorem map_range {w : World} {b : Nat} {f : Nat → Nat → Option Int} (h : MapFn w b f) :
    ∃ (w1 : World) (n : Nat), (Instr.range 128 (.map (some b))).run Try.prog w = .ok (.pointer (some ⟨w.heap.size, 0, none⟩)) w1 ∧ Below w.heap.size w w1 ∧ MapIt w1 b w.heap.size f n := by
  obtain ⟨L, c, hb, G, F⟩ := h
  refine ⟨w.alloc (.mapIter (some b) c #[] c), _, ?_, bnew _ _, ⟨L, c, c, c, #[], ?_, G, heap_alloc_new _ _, G.lt, Nat.le_refl _, Nat.le_refl _, rfl, fun r j v => ?_⟩⟩
  · simp [Instr.range, run_underlying Try.underlying128, MapKept.run_getObj_map hb, Result.andThen]
  · exact ((bnew w _).block b (Array.getElem?_eq_some_iff.1 hb).1).trans hb
  · rw [F]
    constructor
    · rintro ⟨e, he, h⟩; exact ⟨e, he, by simp, h⟩
    · rintro ⟨e, he, _, h⟩; exact ⟨e, he, h⟩

theorem map_next {w : World} {b t : Nat} {f : Nat → Nat → Option Int} {n : Nat} (h : MapIt w b t f n) (ty : TypeId) :
    ((∀ r j, f r j = none) ∧ (Instr.next (.pointer (some ⟨t, 0, none⟩)) false ty).run Try.prog w = .ok (.tuple #[.bool false]) w) ∨
    ∃ (r j : Nat) (v : Int) (w1 : World) (m : Nat), f r j = some v ∧ (Instr.next (.pointer (some ⟨t, 0, none⟩)) false ty).run Try.prog w = .ok (.tuple #[.bool true, spotV r j, .int .i64 v]) w1 ∧
      (∀ w2 : World, w2.heap[b]? = w1.heap[b]? → w2.heap[t]? = w1.heap[t]? → (Instr.entry (.pointer (some ⟨t, 0, none⟩))).run Try.prog w2 = .ok (.tuple #[spotV r j, .int .i64 v]) w2) ∧ MapIt w1 b t (upd f r j none) m ∧ m < n ∧ Only (fun k => k = t) w w1 := by
  obtain ⟨L, c, since, c0, seen, hb, G, hr, hold, hsc, hcl, hn, F⟩ := h
  have hbt : b ≠ t := fun e => by subst e; rw [hb] at hr; cases hr
  rcases run_next_at (P := Try.prog) w ty t b since c0 seen (L.map Ent.me).toArray c hr hb (fun x hx => by
    simp at hx; obtain ⟨e, he, rfl⟩ := hx; exact hold e he) hsc with ⟨h0, hrun⟩ | ⟨x, hx, w1, hw1, hrun⟩
  · refine .inl ⟨fun r j => ?_, hrun⟩
    cases hf : f r j with
    | none => rfl
    | some v =>
      obtain ⟨e, he, hs, _⟩ := (F r j v).1 hf
      have : e.me ∈ (leftOf (L.map Ent.me).toArray seen).toList := by
        simp [leftOf]
        exact ⟨⟨e, he, rfl⟩, hs⟩
      have h1 : (leftOf (L.map Ent.me).toArray seen) = #[] := Array.eq_empty_of_size_eq_zero h0
      rw [h1] at this
      cases this
  · have hx2 : (∃ e, e ∈ L ∧ e.me = x) ∧ x.born ∉ seen := by simpa [leftOf] using hx
    obtain ⟨⟨e, he, rfl⟩, hs⟩ := hx2
    have hs' : e.b ∉ seen := hs
    have hb1 : w1.heap[b]? = some (.map (L.map Ent.me).toArray c) := by rcases hw1 with rfl | rfl <;> exact hb
    have hr1 : w1.heap[t]? = some (.mapIter (some b) since seen c0) := by rcases hw1 with rfl | rfl <;> exact hr
    have hO1 : Only (fun k => k = t) w w1 := by
      rcases hw1 with rfl | rfl
      · exact Only.refl _ _
      · exact ⟨rfl, rfl, rfl, Nat.le_refl _, fun _ _ _ => rfl⟩
    have hB2 : (setBlock w1 t (.mapIter (some b) since (seen.push e.b) c)).heap[b]? = some (.map (L.map Ent.me).toArray c) := ((setBlock_only w1 t _).block b (Array.getElem?_eq_some_iff.1 hb1).1 hbt).trans hb1
    refine .inr ⟨e.r, e.j, e.v, _, (leftOf (L.map Ent.me).toArray (seen.push e.b)).size, (F _ _ _).2 ⟨e, he, hs', rfl, rfl, rfl⟩, hrun, fun w2 e1 e2 => ?_, ⟨L, c, since, c, seen.push e.b, hB2, G, setBlock_at hr1, hold, hcl, hcl, rfl, fun r j v => ?_⟩, ?_, hO1.trans (setBlock_only _ _ _)⟩
    · refine run_entry_at (P := Try.prog) w2 t b since seen (L.map Ent.me).toArray c e.me (e2.trans (setBlock_at hr1)) (e1.trans hB2) ?_ ?_
      · simp; exact ⟨e, he, rfl⟩
      · simp only [List.map_map]; exact G.borns
    · unfold upd
      split
      · rename_i hk; obtain ⟨rfl, rfl⟩ := hk
        refine ⟨(by intro h; cases h), ?_⟩
        rintro ⟨y, hy, hns, h1, h2, _⟩
        have := G.uniq hy he ⟨h1, h2⟩
        subst this
        simp at hns
      · rename_i hk
        rw [F]
        constructor
        · rintro ⟨y, hy, hns, rfl, rfl, rfl⟩
          refine ⟨y, hy, ?_, rfl, rfl, rfl⟩
          simp only [Array.mem_push, not_or]
          refine ⟨hns, fun hb => hk ?_⟩
          obtain ⟨i, hi, rfl⟩ := List.getElem_of_mem hy
          obtain ⟨k, hk', rfl⟩ := List.getElem_of_mem he
          have := (List.getElem_inj (xs := L.map fun e => e.b) (h₀ := by simpa using hi) (h₁ := by simpa using hk') G.borns).1 (by simpa using hb)
          subst this
          exact ⟨rfl, rfl⟩
        · rintro ⟨y, hy, hns, h⟩
          simp only [Array.mem_push, not_or] at hns
          exact ⟨y, hy, hns.1, h⟩
    · rw [hn]; exact left_shrinks _ _ e.me hx

end Go.Proofs.Ytnnojhpioenhbaa
