/- Walks: Ints, great, Has, Known, Listed. -/
import Derived.Test.YtkioejdddmnbmaaRb
namespace Go.Proofs.Ytkioejdddmnbmaa
open Go.RowKit Go.Shelf

theorem take_eq_append {xs ys : List Int} {k : Nat} (h1 : k < xs.length) (h2 : k < ys.length) (h : xs.take k = ys.take k) :
    (nth xs k = nth ys k) ↔ xs.take (k + 1) = ys.take (k + 1) := by
  rw [take_succ_nth h1, take_succ_nth h2, h]; simp

set_option maxRecDepth 100000 in
set_option maxHeartbeats 1000000 in
theorem ints_c (a1 a2 : Option Addr) (c1 c2 : Nat) (xs ys : List Int) (w : World) (hx : IntsAt w a1 xs) (hy : IntsAt w a2 ys) (hb : xs.length ≤ 1000000) (_hb2 : ys.length ≤ 1000000) :
    Calls Try.prog 29 #[.slice a1 xs.length c1, .slice a2 ys.length c2] w fun e w' => e = .returned (.bool (decide (xs = ys))) ∧ Below w.heap.size w w' := by
  go_enter Try.func29, Try.ntmps29
  by_cases hl : xs.length = ys.length
  · have hlb : (((xs.length : Nat) : Int) != ((ys.length : Nat) : Int)) = false := by simp [hl]
    have Hl := hid hl; clear hl
    go_wp2
    go_loopw [5] (fun i wr => ∃ k : Nat, k ≤ xs.length ∧ i = .int .i64 k ∧ xs.take k = ys.take k ∧ Below w.heap.size w wr) (fun i _ => xs.length - (intOf i).toNat)
    case atStart => exact ⟨0, Nat.zero_le _, rfl, rfl, Below.refl _ _⟩
    case round =>
      obtain ⟨k, hk, rfl, ht, hB⟩ := hrel
      have Ht := hid ht; clear ht
      by_cases hlt : k < xs.length
      · obtain ⟨b, off, rfl, hc⟩ := (hx.mono hB).at hlt
        obtain ⟨b2, off2, rfl, hc2⟩ := (hy.mono hB).at (k := k) (by have := Hl.out; omega)
        have Hx := hid hx; clear hx
        have Hy := hid hy; clear hy
        have hlt2 : k < ys.length := by have := Hl.out; omega
        have Hi := hid (take_eq_append hlt hlt2 Ht.out)
        by_cases he : nth xs k = nth ys k
        · have heb : (nth xs k != nth ys k) = false := by simp [he]
          have He := hid he; clear he
          go_wp2
          go_quiet (fail)
          go_wp2
          go_roundw
          case rel => exact ⟨k + 1, by omega, by go_num, Hi.out.1 He.out, below_drewN hB _⟩
          case measure => simp [intOf]; omega
        · have heb : (nth xs k != nth ys k) = true := by simp [he]
          have He := hid he; clear he
          go_wp2
          go_quiet (fail)
          go_wp2
          go_ret
          exact ⟨ret_bool (by simp; intro h; exact He.out (by rw [h])), below_drewN hB _⟩
      · go_wp2
        go_ret
        refine ⟨ret_bool ?_, hB⟩
        have h1 := Ht.out
        rw [List.take_of_length_le (by omega), List.take_of_length_le (by have := Hl.out; omega)] at h1
        simp [h1]
  · have hlb : (((xs.length : Nat) : Int) != ((ys.length : Nat) : Int)) = true := by simp; omega
    go_wp2
    go_ret
    exact ⟨ret_bool (by simp; intro h; exact hl (by rw [h])), Below.refl _ _⟩

/-- a case with too many numbers for a statement -/
def greatB (seen : List Int) (rs : List Rl) : Bool := decide (16 < seen.length) || decide (18 < rs.length) || rs.any (fun r => decide (16 < r.1.length))
def maxTo (rs : List Rl) : Nat → Nat
  | 0 => 0
  | k + 1 => max (maxTo rs k) (nthR rs k).1.length
theorem maxTo_any (rs : List Rl) : ∀ k, k ≤ rs.length → decide (16 < maxTo rs k) = (rs.take k).any (fun r => decide (16 < r.1.length))
  | 0, _ => by simp [maxTo]
  | k + 1, h => by
    rw [anyR_take_succ _ (by omega), ← maxTo_any rs k (by omega), maxTo, Bool.eq_iff_iff]
    simp only [decide_eq_true_eq, Bool.or_eq_true]
    omega

set_option maxRecDepth 100000 in
set_option maxHeartbeats 1000000 in
theorem great_c (sa ra : Option Addr) (sc rc : Nat) (facts : Int) (seen : List Int) (rs : List Rl) (w : World) (hr : RulesAt w ra rs) :
    Calls Try.prog 17 #[.agg #[.int .i64 facts, .slice sa seen.length sc, .slice ra rs.length rc]] w (TellB w (greatB seen rs)) := by
  obtain ⟨W0, hW0⟩ : ∃ W0, W0 = w.alloc (.cells #[.int .i64 facts, .slice sa seen.length sc, .slice ra rs.length rc] 25) := ⟨_, rfl⟩
  have HB0 := hid (show Below w.heap.size w W0 by rw [hW0]; exact bnew w _)
  obtain ⟨c0, c1, c2⟩ := caseBox w facts sa ra seen.length sc rs.length rc
  rw [← hW0] at c0 c1 c2
  have HR := hid (hr.mono HB0.out)
  have HS := hid hW0
  have hg : greatB seen rs = (decide (16 < seen.length) || decide (18 < rs.length) || rs.any (fun r => decide (16 < r.1.length))) := rfl
  have Hg := hid hg
  unfold TellB
  obtain ⟨gv, hgv⟩ : ∃ g, g = greatB seen rs := ⟨_, rfl⟩
  rw [← hgv]
  have Hgv := hid hgv
  clear hr hg hgv hW0
  by_cases h1 : 16 < seen.length
  · have h1I : (16 : Int) < (seen.length : Int) := by omega
    have hv : gv = true := by rw [Hgv.out, Hg.out, decide_eq_true h1]; rfl
    subst hv
    go_enter Try.func17, Try.ntmps17
    go_wp2
    go_ret
    exact ⟨rfl, by rw [← HS.out]; exact HB0.out⟩
  · have h1I : ¬ (16 : Int) < (seen.length : Int) := by omega
    by_cases h2 : 18 < rs.length
    · have h2I : (18 : Int) < (rs.length : Int) := by omega
      have hv : gv = true := by rw [Hgv.out, Hg.out, decide_eq_true h2]; simp
      subst hv
      go_enter Try.func17, Try.ntmps17
      go_wp2
      go_ret
      exact ⟨rfl, by rw [← HS.out]; exact HB0.out⟩
    · have h2I : ¬ (18 : Int) < (rs.length : Int) := by omega
      have hv : gv = rs.any (fun r => decide (16 < r.1.length)) := by rw [Hgv.out, Hg.out, decide_eq_false h1, decide_eq_false h2]; rfl
      have Hv := hid hv
      clear hv h1 h2
      go_enter Try.func17, Try.ntmps17
      go_wp2
      rw [← HS.out]
      go_loop [3, 4] (fun n i => ∃ k : Nat, k ≤ rs.length ∧ i = .int .i64 k ∧ n = .int .i64 (maxTo rs k)) (fun _ i => rs.length - (intOf i).toNat)
      case atStart => exact ⟨0, Nat.zero_le _, rfl, rfl⟩
      case round =>
        obtain ⟨k, hk, rfl, rfl⟩ := hrel
        by_cases hlt : k < rs.length
        · obtain ⟨b, off, a, c, rfl, hra⟩ := HR.out.at hlt
          have q0 := hra.cI
          have hm : maxTo rs (k + 1) = max (maxTo rs k) (nthR rs k).1.length := rfl
          obtain ⟨n, hn⟩ : ∃ n, n = (nthR rs k).1.length := ⟨_, rfl⟩
          obtain ⟨m, hm'⟩ : ∃ m, m = maxTo rs k := ⟨_, rfl⟩
          rw [← hn] at q0 hm
          rw [← hm'] at hm ⊢
          have Hm := hid hm
          clear hra hn hm hm'
          go_wp2
          go_round
          case rel =>
            refine ⟨k + 1, by omega, by go_num, ?_⟩
            rw [Hm.out]
            split
            · congr 1; omega
            · congr 1; omega
          case measure => simp [intOf]; omega
        · obtain rfl : k = rs.length := by omega
          have hfin := maxTo_any rs rs.length (Nat.le_refl _)
          rw [List.take_length] at hfin
          have Hfin := hid hfin
          clear hfin
          obtain ⟨m, hm'⟩ : ∃ m, m = maxTo rs rs.length := ⟨_, rfl⟩
          rw [← hm']
          have Hm := hid hm'
          clear hm'
          go_wp2
          go_ret
          exact ⟨ret_bool (by rw [Hv.out, ← Hfin.out, ← Hm.out, Bool.eq_iff_iff]; simp; constructor <;> intro h <;> omega), HB0.out⟩

set_option maxRecDepth 100000 in
theorem hasL_c (a : Option Addr) (cap : Nat) (l : List Int) (n : Int) (w : World) (hx : IntsAt w a l) (hl : l.length ≤ 1000000) :
    Calls Try.prog 36 #[.slice a l.length cap, .int .i64 n] w fun e w' => e = .returned (.bool (l.any (fun x => x == n))) ∧ w' = w := by
  have Hx := hid hx
  clear hx
  obtain ⟨R, hR⟩ : ∃ R, R = l.any (fun x => x == n) := ⟨_, rfl⟩
  rw [← hR]
  have HR := hid hR
  clear hR
  go_enter Try.func36, Try.ntmps36
  go_wp2
  go_loop [5] (fun i => ∃ k : Nat, k ≤ l.length ∧ i = .int .i64 k ∧ (l.take k).any (fun x => x == n) = false) (fun i => l.length - (intOf i).toNat)
  case atStart => exact ⟨0, Nat.zero_le _, rfl, rfl⟩
  case round =>
    obtain ⟨k, hk, rfl, hp⟩ := hrel
    have Hp := hid hp
    clear hp
    by_cases hlt : k < l.length
    · obtain ⟨b, off, rfl, hc⟩ := Hx.out.at hlt
      have Ht := hid (any_take_succ (fun x => x == n) hlt)
      by_cases he : nth l k = n
      · have hany : l.any (fun x => x == n) = true := List.any_eq_true.2 ⟨_, nth_mem hlt, by simp [he]⟩
        have Hany := hid hany
        rw [he] at hc
        clear he hany
        go_wp2
        go_ret
        exact ⟨ret_bool (by rw [HR.out, Hany.out]), rfl⟩
      · have heb : (nth l k == n) = false := by simpa using he
        have Heb := hid heb
        clear heb
        go_wp2
        go_round
        case rel => exact ⟨k + 1, by omega, by go_num, by rw [Ht.out, Hp.out, Heb.out]; rfl⟩
        case measure => simp [intOf]; omega
    · obtain rfl : k = l.length := by omega
      go_wp2
      go_ret
      have hp := Hp.out
      rw [List.take_of_length_le (by omega)] at hp
      exact ⟨ret_bool (by rw [HR.out, hp]), rfl⟩

end Go.Proofs.Ytkioejdddmnbmaa
