/- Walks: within, ContainsFunc, IndexFunc, Equal, CheckRow, isBits, Same. -/
import Derived.Test.YtkioejdddmnbmaaRows
import Derived.Test.YtkioejdddmnbmaaLib
import Derived.Deep.QuietTactic
import Derived.BigQuiet
import Derived.Shelf.Abstract
namespace Go.Proofs.Ytkioejdddmnbmaa
open Go.RowKit Go.Shelf

def within (lo hi : Int) (l : List Int) : Bool := l.all fun n => decide (lo ≤ n) && decide (n ≤ hi)

set_option maxHeartbeats 400000 in
theorem within1_c (p q : Nat) (n lo hi : Int) (w : World) (hp : w.cell? ⟨p, 0, none⟩ = some (.int .i64 lo)) (hq : w.cell? ⟨q, 0, none⟩ = some (.int .i64 hi)) :
    Calls Try.prog 87 #[.int .i64 n, .pointer (some ⟨p, 0, none⟩), .pointer (some ⟨q, 0, none⟩)] w fun e w' => e = .returned (.bool (decide (n < lo) || decide (hi < n))) ∧ w = w' := by
  go_enter Try.func87, Try.ntmps87
  go_wp2
  · have h : lo ≤ n := by assumption
    go_ret
    exact ⟨ret_bool (by simp), rfl⟩
  · have h : n < lo := by assumption
    go_ret
    exact ⟨ret_bool (by simp), rfl⟩

def AnyP (p : Int → Bool) (xs : List Int) (w : World) (e : Ending) (w' : World) : Prop :=
  ∃ i : Int, e = .returned (.int .i64 i) ∧ decide (0 ≤ i) = xs.any p ∧ w = w'

set_option maxHeartbeats 400000 in
theorem indexFunc_c (a : Option Addr) (cap g : Nat) (caps : Array Value) (p : Int → Bool) (xs : List Int) (w : World) (hx : IntsAt w a xs) (hb : xs.length ≤ 1000000)
    (hg : ∀ k, k < xs.length → Calls Try.prog g (#[.int .i64 (nth xs k)] ++ caps) w fun e w' => e = .returned (.bool (p (nth xs k))) ∧ w = w')
    (eg : ∀ args w, (callFunc g args).run Try.prog w = .ok (.enter g args) w) :
    Calls Try.prog 98 #[.slice a xs.length cap, .func (.func g) #[] caps] w (AnyP p xs w) := by
  go_enter Try.func98, Try.ntmps98
  go_wp2
  go_loop [5, 8] (fun _ i => ∃ k : Nat, k ≤ xs.length ∧ i = .int .i64 k ∧ (xs.take k).any p = false) (fun _ i => xs.length - (intOf i).toNat)
  case atStart => exact ⟨0, Nat.zero_le _, rfl, rfl⟩
  case round =>
    obtain ⟨k, hk, rfl, hp⟩ := hrel
    have Hp := hid hp; clear hp
    by_cases hlt : k < xs.length
    · obtain ⟨b, off, rfl, hc⟩ := hx.at hlt
      have Ht := hid (any_take_succ p hlt)
      have Hx := hid hx; clear hx
      have Hg := hid hg; clear hg
      cases hpk : p (nth xs k) with
      | false =>
        have Hpk := hid hpk; clear hpk
        go_wp2_with fail
        refine (Hg.out k hlt).mono ?_
        rintro e w' ⟨rfl, rfl⟩
        rw [Hpk.out]
        go_wp2
        go_round
        case rel => exact ⟨k + 1, by omega, by go_num, by rw [Ht.out, Hp.out, Hpk.out]; rfl⟩
        case measure => simp [intOf]; omega
      | true =>
        have Hpk := hid hpk; clear hpk
        go_wp2_with fail
        refine (Hg.out k hlt).mono ?_
        rintro e w' ⟨rfl, rfl⟩
        rw [Hpk.out]
        go_wp2
        go_ret
        refine ⟨k, rfl, ?_, rfl⟩
        simp
        exact ⟨_, nth_mem hlt, Hpk.out⟩
    · go_wp2
      go_ret
      refine ⟨-1, rfl, ?_, rfl⟩
      have hp := Hp.out
      rw [List.take_of_length_le (by omega)] at hp
      rw [hp]; rfl

set_option maxHeartbeats 400000 in
theorem containsFunc_c (a : Option Addr) (cap g : Nat) (caps : Array Value) (p : Int → Bool) (xs : List Int) (w : World) (hx : IntsAt w a xs) (hb : xs.length ≤ 1000000)
    (hg : ∀ k, k < xs.length → Calls Try.prog g (#[.int .i64 (nth xs k)] ++ caps) w fun e w' => e = .returned (.bool (p (nth xs k))) ∧ w = w')
    (eg : ∀ args w, (callFunc g args).run Try.prog w = .ok (.enter g args) w) :
    Calls Try.prog 86 #[.slice a xs.length cap, .func (.func g) #[] caps] w fun e w' => e = .returned (.bool (xs.any p)) ∧ w = w' := by
  have H := hid (indexFunc_c a cap g caps p xs w hx hb hg eg)
  generalize hy : xs.any p = y
  have Hy := hid hy
  clear hx hg eg hy
  go_enter Try.func86, Try.ntmps86
  go_wp2_with fail
  refine H.out.mono ?_
  rintro e w' ⟨i, rfl, hi, rfl⟩
  have Hi := hid hi; clear hi
  go_wp2
  go_ret
  exact ⟨ret_bool (Hi.out.trans Hy.out), rfl⟩

theorem any_within (lo hi : Int) (xs : List Int) : (!(xs.any fun n => decide (n < lo) || decide (hi < n))) = within lo hi xs := by
  unfold within
  induction xs with
  | nil => rfl
  | cons x xs ih =>
    simp only [List.any_cons, List.all_cons, Bool.not_or, ih]
    congr 1
    by_cases h1 : x < lo <;> by_cases h2 : hi < x <;> simp [h1, h2] <;> omega

theorem enters87 : ∀ args w, (callFunc 87 args).run Try.prog w = .ok (.enter 87 args) w := enters_of Try.func87 (by kernel_rfl) rfl

set_option maxHeartbeats 400000 in
theorem within_c (a : Option Addr) (cap : Nat) (lo hi : Int) (xs : List Int) (w : World) (hx : IntsAt w a xs) (hb : xs.length ≤ 1000000) :
    Calls Try.prog 59 #[.int .i64 lo, .int .i64 hi, .slice a xs.length cap] w fun e w' => e = .returned (.bool (within lo hi xs)) ∧ Below w.heap.size w w' := by
  have hw := any_within lo hi xs
  have Hw := hid hw; clear hw
  have B1 : Below w.heap.size w ((w.alloc (.cells #[.int .i64 lo] 3)).alloc (.cells #[.int .i64 hi] 3)) := ((Below.refl _ _).alloc (Nat.le_refl _) _).alloc (by simp) _
  have hx1 := hx.mono B1
  have H := hid (containsFunc_c a cap 87 #[.pointer (some ⟨w.heap.size, 0, none⟩), .pointer (some ⟨w.heap.size + 1, 0, none⟩)] (fun n => decide (n < lo) || decide (hi < n)) xs _ hx1 hb
    (fun k _ => within1_c w.heap.size (w.heap.size + 1) (nth xs k) lo hi _ (by simp) (by simp)) enters87)
  clear hx hx1
  have HB := hid B1; clear B1
  go_enter Try.func59, Try.ntmps59
  go_wp2_with fail
  refine H.out.mono ?_
  rintro e w' ⟨rfl, rfl⟩
  go_wp2
  go_ret
  exact ⟨ret_bool Hw.out, HB.out⟩


end Go.Proofs.Ytkioejdddmnbmaa
