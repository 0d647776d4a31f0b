/- Walks: CheckProof, with its closures and find. -/
import Derived.Test.YtjnijhnphhpilaaPlays
import Derived.Test.YtjnijhnphhpilaaWb
import Derived.Laws.EntriesVeiled
namespace Go.Proofs.Ytjnijhnphhpilaa
open Go.RowKit Go.Shelf

theorem checkRow_zero' {xs : List Int} (h : checkRow xs = 0) : xs.length ≤ 40 ∧ isBits xs = true := by
  unfold checkRow at h
  split at h
  · cases h
  · split at h
    · rename_i h1 h2; exact ⟨by omega, h2⟩
    · cases h

/-- the sum, modulo 2, of the plays so many before some plays, of the first n of these -/
def sumOf (row plays : List Int) (before : Nat) : Nat → Int
  | 0 => 0
  | k + 1 => (sumOf row plays before k + nth row ((nth plays k).toNat - before)) % 2

theorem sumOf_bit (row plays : List Int) (before : Nat) : ∀ k, sumOf row plays before k = 0 ∨ sumOf row plays before k = 1
  | 0 => .inl rfl
  | _ + 1 => mod_bit _

def nextOf (places : Int) (plays : List Int) : Nat → Int
  | 0 => places
  | k + 1 => nth plays k + 1

/-- whether the first n of some plays are of a row of len plays, from a number of places on, one behind the other -/
def rngTo (places : Int) (len : Nat) (plays : List Int) : Nat → Bool
  | 0 => true
  | k + 1 => rngTo places len plays k && within (nextOf places plays k) ((len : Int) - 1) [nth plays k]

def anyOdd (row plays : List Int) : Nat → Bool
  | 0 => false
  | k + 1 => anyOdd row plays k || sumOf row plays (k + 1) plays.length == 1

def proofCheck (row : List Int) (places : Int) (plays : List Int) : Int :=
  if checkRow row ≠ 0 then checkRow row else if places < 0 then 2 else if rngTo places row.length plays plays.length = false then 3
  else if plays.length = 0 then 14 else if sumOf row plays 0 plays.length = 0 ∨ anyOdd row plays places.toNat = true then 14 else 0

theorem within_one {lo hi n : Int} : within lo hi [n] = true ↔ lo ≤ n ∧ n ≤ hi := by
  unfold within
  simp

theorem rngTo_true {places : Int} {len : Nat} {plays : List Int} (n : Nat) (h : rngTo places len plays n = true) : ∀ k, k < n → places + k ≤ nth plays k ∧ nth plays k < len := by
  induction n with
  | zero => intro k hk; omega
  | succ n ih =>
    intro k hk
    rw [rngTo, Bool.and_eq_true, within_one] at h
    obtain ⟨h1, h2, h3⟩ := h
    by_cases hkn : k < n
    · exact ih h1 k hkn
    · obtain rfl : k = n := by omega
      refine ⟨?_, by omega⟩
      cases k with
      | zero => simp [nextOf] at h2; simpa using h2
      | succ j =>
        have := (ih h1 j (by omega)).1
        simp only [nextOf] at h2
        omega

theorem rngTo_false_mono {places : Int} {len : Nat} {plays : List Int} {k n : Nat} (h : rngTo places len plays k = false) (hk : k ≤ n) : rngTo places len plays n = false := by
  induction hk with
  | refl => exact h
  | step _ ih => rw [rngTo, ih]; rfl

set_option maxHeartbeats 400000 in
theorem sum_c (a1 a2 : Option Addr) (c1 c2 pb rb before : Nat) (row plays : List Int) (w : World) (hp : w.cell? ⟨pb, 0, none⟩ = some (.slice a1 plays.length c1)) (hr : w.cell? ⟨rb, 0, none⟩ = some (.slice a2 row.length c2))
    (hx : IntsAt w a1 plays) (hy : IntsAt w a2 row) (hbits : isBits row = true) (hlen : row.length ≤ 40) (hin : ∀ k, k < plays.length → (before : Int) ≤ nth plays k ∧ nth plays k < row.length) (hb : plays.length ≤ 1000000) :
    Calls Try.prog 68 #[.int .i64 before, .pointer (some ⟨pb, 0, none⟩), .pointer (some ⟨rb, 0, none⟩)] w fun e w' => e = .returned (.int .i64 (sumOf row plays before plays.length)) ∧ w = w' := by
  go_enter Try.func68, Try.ntmps68
  go_wp2
  go_loop [5, 7, 10] (fun n _ i => ∃ k : Nat, k ≤ plays.length ∧ i = .int .i64 k ∧ n = .int .i64 (sumOf row plays before k)) (fun _ _ i => plays.length - (intOf i).toNat)
  case atStart => exact ⟨0, Nat.zero_le _, rfl, rfl⟩
  case round =>
    obtain ⟨k, hk, rfl, rfl⟩ := hrel
    by_cases hlt : k < plays.length
    · obtain ⟨b, off, rfl, hc⟩ := hx.at hlt
      obtain ⟨h1, h2⟩ := hin k hlt
      obtain ⟨p, hp0⟩ : ∃ p : Nat, nth plays k = before + p := ⟨(nth plays k - before).toNat, by omega⟩
      have hpl : p < row.length := by omega
      obtain ⟨b2, off2, rfl, hc2⟩ := hy.at hpl
      have hstep : bits .xor .i64 (sumOf row plays before k) (nth row p) = sumOf row plays before (k + 1) := by
        rw [xor_bit (sumOf_bit _ _ _ _) (isBits_nth hbits p), sumOf, hp0, show ((before : Int) + (p : Int)).toNat - before = p from by omega]
      have Hstep := hid hstep; have Hin := hid hin; have Hx := hid hx; have Hy := hid hy; have Hbits := hid hbits
      rw [hp0] at hc
      have hsub : (before : Int) + (p : Int) - (before : Int) = (p : Int) := by omega
      have hpb : (p : Int) < 40 := by omega
      clear hstep hin hx hy hbits h1 h2 hp0
      go_wp2
      go_round
      case rel => exact ⟨k + 1, by omega, by go_num, by rw [Hstep.out]⟩
      case measure => simp [intOf]; omega
    · obtain rfl : k = plays.length := by omega
      go_wp2
      go_ret
      exact ⟨rfl, rfl⟩

set_option maxHeartbeats 400000 in
theorem odd2_c (a1 a2 : Option Addr) (c1 c2 pb rb fb k : Nat) (row plays : List Int) (w : World) (hf : w.cell? ⟨fb, 0, none⟩ = some (.func (.func 68) #[] #[.pointer (some ⟨pb, 0, none⟩), .pointer (some ⟨rb, 0, none⟩)]))
    (hp : w.cell? ⟨pb, 0, none⟩ = some (.slice a1 plays.length c1)) (hr : w.cell? ⟨rb, 0, none⟩ = some (.slice a2 row.length c2))
    (hx : IntsAt w a1 plays) (hy : IntsAt w a2 row) (hbits : isBits row = true) (hlen : row.length ≤ 40) (hk : k ≤ 1000) (hin : ∀ j, j < plays.length → ((k + 1 : Nat) : Int) ≤ nth plays j ∧ nth plays j < row.length) (hb : plays.length ≤ 1000000) :
    Calls Try.prog 70 #[.int .i64 k, .pointer (some ⟨fb, 0, none⟩)] w fun e w' => e = .returned (.bool (sumOf row plays (k + 1) plays.length == 1)) ∧ w = w' := by
  have H := hid (sum_c a1 a2 c1 c2 pb rb (k + 1) row plays w hp hr hx hy hbits hlen hin hb)
  rw [show ((k + 1 : Nat) : Int) = (k : Int) + 1 from by omega] at H
  clear hx hy hbits hin hp hr
  go_enter Try.func70, Try.ntmps70
  go_wp2_with fail
  refine H.out.mono ?_
  rintro e w' ⟨rfl, rfl⟩
  generalize hs : sumOf row plays (k + 1) plays.length = s
  have Hs := hid hs; clear hs
  go_wp2
  go_ret
  exact ⟨ret_bool (by rw [Hs.out]), rfl⟩

def FindP (w : World) (p : Nat → Bool) (n : Nat) (e : Ending) (w' : World) : Prop := ∃ i : Int, e = .returned (.tuple #[.int .i64 i, .bool ((List.range n).any p)]) ∧ w = w'

theorem any_range_succ (p : Nat → Bool) (k : Nat) : (List.range (k + 1)).any p = ((List.range k).any p || p k) := by
  rw [List.range_succ, List.any_append]; simp

theorem any_range_of (p : Nat → Bool) {k n : Nat} (h : k < n) (hp : p k = true) : (List.range n).any p = true := by
  rw [List.any_eq_true]; exact ⟨k, List.mem_range.2 h, hp⟩

set_option maxHeartbeats 400000 in
theorem find_c (n g : Nat) (caps : Array Value) (p : Nat → Bool) (w : World) (hn : n ≤ 1000)
    (hg : ∀ k : Nat, k < n → Calls Try.prog g (#[.int .i64 k] ++ caps) w fun e w' => e = .returned (.bool (p k)) ∧ w = w')
    (eg : ∀ args w, (callFunc g args).run Try.prog w = .ok (.enter g args) w) :
    Calls Try.prog 69 #[.int .i64 n, .func (.func g) #[] caps] w (FindP w p n) := by
  have Hg := hid hg; clear hg
  go_enter Try.func69, Try.ntmps69
  go_wp2
  go_loop [6, 8] (fun _ i => ∃ k : Nat, k ≤ n ∧ i = .int .i64 k ∧ (List.range k).any p = false) (fun _ i => n - (intOf i).toNat)
  case atStart => exact ⟨0, Nat.zero_le _, rfl, rfl⟩
  case round =>
    obtain ⟨k, hk, rfl, hp⟩ := hrel
    have Hp := hid hp; clear hp
    by_cases hlt : k < n
    · have Ht := hid (any_range_succ p k)
      cases hpk : p k with
      | false =>
        have Hpk := hid hpk; clear hpk
        go_wp2_with fail
        refine (Hg.out k hlt).mono ?_
        rintro e w' ⟨rfl, rfl⟩
        rw [Hpk.out]
        go_wp2
        go_round
        case rel => exact ⟨k + 1, by omega, by go_num, by rw [Ht.out, Hp.out, Hpk.out]; rfl⟩
        case measure => simp [intOf]; omega
      | true =>
        have Hpk := hid hpk; clear hpk
        go_wp2_with fail
        refine (Hg.out k hlt).mono ?_
        rintro e w' ⟨rfl, rfl⟩
        rw [Hpk.out]
        go_wp2
        go_ret2
        refine ⟨k, ?_, rfl⟩
        rw [any_range_of p hlt Hpk.out]
        rfl
    · obtain rfl : k = n := by omega
      go_wp2
      go_ret2
      refine ⟨0, ?_, rfl⟩
      rw [Hp.out]
      rfl

theorem anyOdd_range (row plays : List Int) (n : Nat) : anyOdd row plays n = (List.range n).any (fun k => sumOf row plays (k + 1) plays.length == 1) := by
  induction n with
  | zero => rfl
  | succ n ih => rw [any_range_succ, anyOdd, ih]

theorem enters70 : ∀ args w, (callFunc 70 args).run Try.prog w = .ok (.enter 70 args) w := enters_of Try.func70 (by kernel_rfl) rfl

set_option maxRecDepth 100000 in
set_option maxHeartbeats 1000000 in
theorem checkProof_c (a1 a2 : Option Addr) (c1 c2 : Nat) (places : Int) (row plays : List Int) (w : World) (hx : IntsAt w a1 row) (hy : IntsAt w a2 plays) (hb1 : row.length ≤ 1000000) (hb2 : plays.length ≤ 1000000)  :
    Calls Try.prog 38 #[.slice a1 row.length c1, .int .i64 places, .slice a2 plays.length c2] w fun e w' => e = .returned (.int .i64 (proofCheck row places plays)) ∧ Below w.heap.size w w' := by
  have hB0 := ((Below.refl w.heap.size w).alloc (Nat.le_refl _) (.cells #[.slice a1 row.length c1] 22)).alloc (by simp) (.cells #[.slice a2 plays.length c2] 22)
  have H := hid (checkRow_c a1 c1 row _ (hx.mono hB0) hb1)
  have HB0 := hid hB0; have Hx := hid hx; have Hy := hid hy
  clear hB0 hx hy
  unfold proofCheck
  by_cases h : checkRow row = 0
  · rw [if_neg (by simp [h])]
    obtain ⟨hlen, hbits⟩ := checkRow_zero' h
    have Hbits := hid hbits
    rw [h] at H
    clear h hbits
    by_cases hp : places < 0
    · rw [if_pos hp]
      go_enter Try.func38, Try.ntmps38
      go_wp2_with fail
      refine H.out.mono ?_
      rintro e w1 ⟨rfl, hB1⟩
      have HB1 := hid (bstep HB0.out hB1); clear hB1
      go_wp2
      go_ret
      exact ⟨rfl, HB1.out⟩
    · rw [if_neg hp]
      obtain ⟨n, rfl⟩ : ∃ n : Nat, places = n := ⟨places.toNat, by omega⟩
      obtain ⟨R, hR⟩ : ∃ R, R = if rngTo n row.length plays plays.length = false then (3 : Int)
        else if plays.length = 0 then 14 else if sumOf row plays 0 plays.length = 0 ∨ anyOdd row plays (n : Int).toNat = true then 14 else 0 := ⟨_, rfl⟩
      rw [← hR]
      have HR := hid hR; clear hR hp
      have hnn : (0 : Int) ≤ n := by omega
      go_enter Try.func38, Try.ntmps38
      go_wp2_with fail
      refine H.out.mono ?_
      rintro e w1 ⟨rfl, hB1⟩
      have hs1 := hB1.size
      have q1 := cstep (p := ⟨w.heap.size, 0, none⟩) (v := .slice a1 row.length c1) (by simp [go_sem]) hB1
      have q2 := cstep (p := ⟨w.heap.size + 1, 0, none⟩) (v := .slice a2 plays.length c2) (by simp [go_sem]) hB1
      have hs0 : w.heap.size + 2 ≤ w1.heap.size := by simp at hs1; omega
      have HB1 := hid (bstep HB0.out hB1); clear hB1 hs1
      go_wp2
      go_loopw [8, 10, 26] (fun s _ i wr => ∃ k : Nat, k ≤ plays.length ∧ i = .int .i64 k ∧ s = .int .i64 (nextOf n plays k) ∧ rngTo n row.length plays k = true ∧ Below w1.heap.size w1 wr) (fun _ _ i _ => plays.length - (intOf i).toNat)
      case atStart => exact ⟨0, Nat.zero_le _, rfl, rfl, rfl, Below.refl _ _⟩
      case round =>
        obtain ⟨k, hk, rfl, rfl, hrng, hB⟩ := hrel
        obtain ⟨wq, rfl⟩ : ∃ wq : World, wq = wr := ⟨_, rfl⟩
        have q3 := cstep q1 hB
        have q4 := cstep q2 hB
        have hBw := bstep HB1.out hB
        have Hrng := hid hrng
        clear hrng
        by_cases hlt : k < plays.length
        · obtain ⟨b, off, rfl, hc⟩ := (Hy.out.mono hBw).at hlt
          have HB := hid hB; have HBw := hid hBw
          clear hB hBw
          have hstep : rngTo n row.length plays (k + 1) = within (nextOf n plays k) ((row.length : Int) - 1) [nth plays k] := by rw [rngTo, Hrng.out]; rfl
          go_wp2_with fail
          refine (within_c _ 1 (nextOf n plays k) ((row.length : Int) - 1) [nth plays k] _ (intsAt_new wq [nth plays k] _ 3 rfl) (by simp)).mono ?_
          rintro e w2 ⟨rfl, hB2⟩
          have hB2' := bstep ((Below.refl wq.heap.size wq).alloc (Nat.le_refl _) (.cells #[.int .i64 (nth plays k)] 3)) hB2
          have HB2 := hid hB2'
          rw [← hstep]
          clear hB2 hB2'
          cases hwi : rngTo n row.length plays (k + 1) with
          | true =>
            have hw1 := (rngTo_true (k + 1) hwi k (by omega))
            have Hwi := hid hwi
            clear hwi hstep
            have hw2 : 0 ≤ nth plays k := by omega
            have hw3 : nth plays k < 40 := by omega
            clear hw1
            go_wp2
            go_roundw
            case rel => exact ⟨k + 1, by omega, by go_num, rfl, Hwi.out, bstep HB.out HB2.out⟩
            case measure => simp [intOf]; omega
          | false =>
            have hR2 : R = 3 := by rw [HR.out, if_pos (rngTo_false_mono hwi (by omega))]
            have HR2 := hid hR2
            clear hwi hstep hR2
            go_wp2
            go_ret
            rw [HR2.out]
            exact ⟨rfl, bstep HBw.out HB2.out⟩
        · obtain rfl : k = plays.length := by omega
          have hR2 : R = if plays.length = 0 then 14 else if sumOf row plays 0 plays.length = 0 ∨ anyOdd row plays (n : Int).toNat = true then 14 else 0 := by
            rw [HR.out, if_neg (by rw [Hrng.out]; simp)]
          have HR2 := hid hR2; clear hR2
          by_cases h0 : plays.length = 0
          · have h0b : ((plays.length : Int) == 0) = true := by simp [h0]
            have HBw := hid hBw
            have HR3 := hid (HR2.out.trans (if_pos h0))
            clear h0 hB hBw
            go_wp2
            go_ret
            rw [HR3.out]
            exact ⟨rfl, HBw.out⟩
          · have h0b : ((plays.length : Int) == 0) = false := by simp [h0]
            have HR3 := hid (HR2.out.trans (if_neg h0))
            have HBw := hid hBw
            have hin := rngTo_true plays.length Hrng.out
            have hn40 : n ≤ 40 := by have := hin 0 (by omega); omega
            have Hin := hid hin; have HB := hid hB
            obtain ⟨W7, hW7⟩ : ∃ W7, W7 = wq.alloc (.cells #[.func (.func 68) #[] #[.pointer (some ⟨w.heap.size + 1, 0, none⟩), .pointer (some ⟨w.heap.size, 0, none⟩)]] 79) := ⟨_, rfl⟩
            have hB7 : Below wq.heap.size wq W7 := by rw [hW7]; exact (Below.refl _ _).alloc (Nat.le_refl _) _
            have f1 : W7.cell? ⟨wq.heap.size, 0, none⟩ = some (.func (.func 68) #[] #[.pointer (some ⟨w.heap.size + 1, 0, none⟩), .pointer (some ⟨w.heap.size, 0, none⟩)]) := by rw [hW7]; simp [go_sem]
            have f2 := cstep q4 hB7
            have f3 := cstep q3 hB7
            have hy7 := (Hy.out.mono HBw.out).mono hB7
            have hx7 := (Hx.out.mono HBw.out).mono hB7
            have hfind := find_c n 70 #[.pointer (some ⟨wq.heap.size, 0, none⟩)] (fun k => sumOf row plays (k + 1) plays.length == 1) W7 (by omega)
              (fun k hk => odd2_c a2 a1 c2 c1 (w.heap.size + 1) w.heap.size wq.heap.size k row plays W7 f1 f2 f3 hy7 hx7 Hbits.out hlen (by omega) (fun j hj => by have := hin j hj; omega) hb2) enters70
            have hsum := sum_c a2 a1 c2 c1 (w.heap.size + 1) w.heap.size 0 row plays W7 f2 f3 hy7 hx7 Hbits.out hlen (fun j hj => by have := hin j hj; omega) hb2
            have Hfind := hid hfind; have Hsum := hid hsum; have HB7 := hid (bstep HBw.out hB7)
            have HW7 := hid hW7
            have ho := anyOdd_range row plays n
            have hcase : R = if sumOf row plays 0 plays.length == 0 then 14 else if anyOdd row plays n then 14 else 0 := by
              rw [HR3.out, Int.toNat_natCast]
              rcases sumOf_bit row plays 0 plays.length with h | h <;> rw [h] <;> cases anyOdd row plays n <;> simp
            have Hcase := hid hcase; have Ho := hid ho
            clear h0 hB hBw hin hB7 f2 f3 hy7 hx7 hfind hsum ho hcase hW7 q1 q2 q3
            go_wp2_with fail
            rw [← HW7.out]
            refine Hfind.out.mono ?_
            rintro e w8 ⟨i, rfl, rfl⟩
            rw [← Ho.out]
            generalize anyOdd row plays n = od at *
            generalize sumOf row plays 0 plays.length = sm at *
            go_wp2_with fail
            refine Hsum.out.mono ?_
            rintro e w9 ⟨rfl, rfl⟩
            by_cases h0 : sm = 0
            · have h0b : (sm == 0) = true := by simp [h0]
              have HF := hid (Hcase.out.trans (if_pos h0b))
              clear h0
              go_wp2
              go_ret
              rw [HF.out]
              exact ⟨rfl, HB7.out⟩
            · have h0b : (sm == 0) = false := by simp [h0]
              have HF := hid (Hcase.out.trans (if_neg (by rw [h0b]; simp)))
              clear h0
              cases od with
              | true =>
                go_wp2
                go_ret
                rw [HF.out]
                exact ⟨rfl, HB7.out⟩
              | false =>
                go_wp2
                go_ret
                rw [HF.out]
                exact ⟨rfl, HB7.out⟩
  · rw [if_pos h]
    generalize checkRow row = c at *
    have hcb : (c != 0) = true := by simp [h]
    have Hh := hid h; clear h
    go_enter Try.func38, Try.ntmps38
    go_wp2_with fail
    refine H.out.mono ?_
    rintro e w1 ⟨rfl, hB1⟩
    have HB1 := hid (bstep HB0.out hB1); clear hB1
    go_wp2
    go_ret
    exact ⟨rfl, HB1.out⟩

end Go.Proofs.Ytjnijhnphhpilaa
