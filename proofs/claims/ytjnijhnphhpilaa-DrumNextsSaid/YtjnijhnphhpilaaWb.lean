/- Walks: CheckRow, CheckDrum (the program's and the reference's), isBits, Same, great, wide, Ints. -/
import Derived.Test.YtjnijhnphhpilaaWa
namespace Go.Proofs.Ytjnijhnphhpilaa
open Go.RowKit Go.Shelf

def isBit (n : Int) : Bool := decide (0 ≤ n) && decide (n ≤ 1)
def isBits (l : List Int) : Bool := l.all isBit
theorem within01 (l : List Int) : within 0 1 l = isBits l := rfl

def checkRow (row : List Int) : Int := if 40 < row.length then 6 else if isBits row then 0 else 3
def checkDrum (f g : List Int) : Int := if 40 < f.length ∨ 40 < g.length then 6 else if f.length ≠ g.length then 15 else if isBits f && isBits g then 0 else 3

set_option maxHeartbeats 400000 in
theorem checkRow_c (a : Option Addr) (cap : Nat) (xs : List Int) (w : World) (hx : IntsAt w a xs) (hb : xs.length ≤ 1000000) :
    Calls Try.prog 22 #[.slice a xs.length cap] w fun e w' => e = .returned (.int .i64 (checkRow xs)) ∧ Below w.heap.size w w' := by
  have H := hid (within_c a cap 0 1 xs w hx hb)
  rw [within01] at H
  clear hx
  go_enter Try.func22, Try.ntmps22
  by_cases h : 40 < xs.length
  · have hv : checkRow xs = 6 := by simp [checkRow, h]
    have Hv := hid hv; clear hv
    go_wp2
    go_ret
    exact ⟨ret_int Hv.out.symm, Below.refl _ _⟩
  · cases hbits : isBits xs with
    | true =>
      have hv : checkRow xs = 0 := by simp [checkRow, h, hbits]
      have Hv := hid hv; clear hv
      rw [hbits] at H
      go_wp2_with fail
      refine H.out.mono ?_
      rintro e w' ⟨rfl, hB⟩
      go_wp2
      go_ret
      exact ⟨ret_int Hv.out.symm, hB⟩
    | false =>
      have hv : checkRow xs = 3 := by simp [checkRow, h, hbits]
      have Hv := hid hv; clear hv
      rw [hbits] at H
      go_wp2_with fail
      refine H.out.mono ?_
      rintro e w' ⟨rfl, hB⟩
      go_wp2
      go_ret
      exact ⟨ret_int Hv.out.symm, hB⟩

set_option maxHeartbeats 400000 in
theorem rIsBits_c (a : Option Addr) (cap : Nat) (xs : List Int) (w : World) (hx : IntsAt w a xs) (hb : xs.length ≤ 1000000) :
    Calls Try.prog 60 #[.slice a xs.length cap] w fun e w' => e = .returned (.bool (isBits xs)) ∧ w = w' := by
  go_enter Try.func60, Try.ntmps60
  go_wp2
  go_loop [3] (fun i => ∃ k : Nat, k ≤ xs.length ∧ i = .int .i64 k ∧ isBits (xs.take k) = true) (fun i => xs.length - (intOf i).toNat)
  case atStart => exact ⟨0, Nat.zero_le _, rfl, rfl⟩
  case round =>
    obtain ⟨k, hk, rfl, hp⟩ := hrel
    have Hp := hid hp; clear hp
    by_cases hlt : k < xs.length
    · obtain ⟨b, off, rfl, hc⟩ := hx.at hlt
      have Ht := hid (all_take_succ isBit hlt)
      have Hm := hid (nth_mem hlt)
      have Hx := hid hx; clear hx
      go_wp2
      · have h1 : 0 ≤ nth xs k := by assumption
        have h2 : 1 < nth xs k := by omega
        go_ret
        refine ⟨ret_bool ?_, rfl⟩
        cases hh : isBits xs with
        | false => rfl
        | true => have := List.all_eq_true.1 hh _ Hm.out; simp [isBit] at this; omega
      · have h1 : 0 ≤ nth xs k := by assumption
        have h2 : nth xs k ≤ 1 := by omega
        go_round
        case rel => exact ⟨k + 1, by omega, by go_num, by unfold isBits; rw [Ht.out]; unfold isBits at Hp; rw [Hp.out]; simp [isBit, h1, h2]⟩
        case measure => simp [intOf]; omega
      · have h1 : nth xs k < 0 := by assumption
        go_ret
        refine ⟨ret_bool ?_, rfl⟩
        cases hh : isBits xs with
        | false => rfl
        | true => have := List.all_eq_true.1 hh _ Hm.out; simp [isBit] at this; omega
    · go_wp2
      go_ret
      refine ⟨ret_bool ?_, rfl⟩
      have h1 := Hp.out
      rw [List.take_of_length_le (by omega)] at h1
      rw [h1]

set_option maxHeartbeats 400000 in
theorem rCheckRow_c (a : Option Addr) (cap : Nat) (xs : List Int) (w : World) (hx : IntsAt w a xs) (hb : xs.length ≤ 1000000) :
    Calls Try.prog 23 #[.slice a xs.length cap] w fun e w' => e = .returned (.int .i64 (checkRow xs)) ∧ w = w' := by
  have H := hid (rIsBits_c a cap xs w hx hb)
  clear hx
  go_enter Try.func23, Try.ntmps23
  by_cases h : 40 < xs.length
  · have hv : checkRow xs = 6 := by simp [checkRow, h]
    have Hv := hid hv; clear hv
    go_wp2
    go_ret
    exact ⟨ret_int Hv.out.symm, rfl⟩
  · cases hbits : isBits xs with
    | true =>
      have hv : checkRow xs = 0 := by simp [checkRow, h, hbits]
      have Hv := hid hv; clear hv
      rw [hbits] at H
      go_wp2_with fail
      refine H.out.mono ?_
      rintro e w' ⟨rfl, rfl⟩
      go_wp2
      go_ret
      exact ⟨ret_int Hv.out.symm, rfl⟩
    | false =>
      have hv : checkRow xs = 3 := by simp [checkRow, h, hbits]
      have Hv := hid hv; clear hv
      rw [hbits] at H
      go_wp2_with fail
      refine H.out.mono ?_
      rintro e w' ⟨rfl, rfl⟩
      go_wp2
      go_ret
      exact ⟨ret_int Hv.out.symm, rfl⟩

set_option maxHeartbeats 400000 in
theorem rSame_c (a1 a2 : Option Addr) (c1 c2 : Nat) (xs ys : List Int) (w : World) (hx : IntsAt w a1 xs) (hy : IntsAt w a2 ys) (hb : xs.length ≤ 1000000) (_hb2 : ys.length ≤ 1000000) :
    Calls Try.prog 61 #[.slice a1 xs.length c1, .slice a2 ys.length c2] w fun e w' => e = .returned (.bool (decide (xs = ys))) ∧ Below w.heap.size w w' := by
  go_enter Try.func61, Try.ntmps61
  by_cases hl : xs.length = ys.length
  · have hlb : (((xs.length : Nat) : Int) != ((ys.length : Nat) : Int)) = false := by simp [hl]
    have Hl := hid hl; clear hl
    go_wp2
    go_loopw [5] (fun i wr => ∃ k : Nat, k ≤ xs.length ∧ i = .int .i64 k ∧ xs.take k = ys.take k ∧ Below w.heap.size w wr) (fun i _ => xs.length - (intOf i).toNat)
    case atStart => exact ⟨0, Nat.zero_le _, rfl, rfl, Below.refl _ _⟩
    case round =>
      obtain ⟨k, hk, rfl, ht, hB⟩ := hrel
      have Ht := hid ht; clear ht
      by_cases hlt : k < xs.length
      · obtain ⟨b, off, rfl, hc⟩ := (hx.mono hB).at hlt
        obtain ⟨b2, off2, rfl, hc2⟩ := (hy.mono hB).at (k := k) (by have := Hl.out; omega)
        have Hx := hid hx; clear hx
        have Hy := hid hy; clear hy
        have hlt2 : k < ys.length := by have := Hl.out; omega
        have Hi := hid (take_eq_append hlt hlt2 Ht.out)
        by_cases he : nth xs k = nth ys k
        · have heb : (nth xs k != nth ys k) = false := by simp [he]
          have He := hid he; clear he
          go_wp2
          go_quiet (fail)
          go_wp2
          go_roundw
          case rel => exact ⟨k + 1, by omega, by go_num, Hi.out.1 He.out, below_drewN hB _⟩
          case measure => simp [intOf]; omega
        · have heb : (nth xs k != nth ys k) = true := by simp [he]
          have He := hid he; clear he
          go_wp2
          go_quiet (fail)
          go_wp2
          go_ret
          exact ⟨ret_bool (by simp; intro h; exact He.out (by rw [h])), below_drewN hB _⟩
      · go_wp2
        go_ret
        refine ⟨ret_bool ?_, hB⟩
        have h1 := Ht.out
        rw [List.take_of_length_le (by omega), List.take_of_length_le (by have := Hl.out; omega)] at h1
        simp [h1]
  · have hlb : (((xs.length : Nat) : Int) != ((ys.length : Nat) : Int)) = true := by simp; omega
    go_wp2
    go_ret
    exact ⟨ret_bool (by simp; intro h; exact hl (by rw [h])), Below.refl _ _⟩

set_option maxHeartbeats 400000 in
theorem ints_c (a1 a2 : Option Addr) (c1 c2 : Nat) (xs ys : List Int) (w : World) (hx : IntsAt w a1 xs) (hy : IntsAt w a2 ys) (hb : xs.length ≤ 1000000) (hb2 : ys.length ≤ 1000000) :
    Calls Try.prog 24 #[.slice a1 xs.length c1, .slice a2 ys.length c2] w fun e w' => e = .returned (.bool (decide (xs = ys))) ∧ Below w.heap.size w w' := by
  have H := hid (rSame_c a1 a2 c1 c2 xs ys w hx hy hb hb2)
  clear hx hy
  generalize decide (xs = ys) = d at H ⊢
  go_enter Try.func24, Try.ntmps24
  go_wp2_with fail
  refine H.out.mono ?_
  rintro e w' ⟨rfl, hB⟩
  go_wp2
  go_ret
  exact ⟨rfl, hB⟩

set_option maxHeartbeats 400000 in
theorem great_c (a : Option Addr) (len cap : Nat) (w : World) :
    Calls Try.prog 16 #[.slice a len cap] w fun e w' => e = .returned (.bool (decide (50 < len))) ∧ w = w' := by
  go_enter Try.func16, Try.ntmps16
  go_wp2
  go_ret
  exact ⟨ret_bool (by simp; omega), rfl⟩

set_option maxHeartbeats 400000 in
theorem wide_c (a1 a2 : Option Addr) (n1 n2 c1 c2 : Nat) (w : World) :
    Calls Try.prog 15 #[.agg #[.slice a1 n1 c1, .slice a2 n2 c2]] w fun e w' => e = .returned (.bool (decide (50 < n1 ∨ 50 < n2))) ∧ Below w.heap.size w w' := by
  have H1 := hid (great_c a1 n1 c1)
  have H2 := hid (great_c a2 n2 c2)
  go_enter Try.func15, Try.ntmps15
  by_cases h : 50 < n1
  · rw [show decide (50 < n1) = true from by simp [h]] at H1
    go_wp2_with fail
    refine (H1.out _).mono ?_
    rintro e w' ⟨rfl, rfl⟩
    go_wp2
    go_ret
    exact ⟨ret_bool (by simp [h]), (Below.refl _ _).alloc (Nat.le_refl _) _⟩
  · rw [show decide (50 < n1) = false from by simp; omega] at H1
    go_wp2_with fail
    refine (H1.out _).mono ?_
    rintro e w' ⟨rfl, rfl⟩
    go_wp2_with fail
    refine (H2.out _).mono ?_
    rintro e w' ⟨rfl, rfl⟩
    go_wp2
    go_ret
    exact ⟨ret_bool (by simp [h]), (Below.refl _ _).alloc (Nat.le_refl _) _⟩


theorem checkDrum_len (f g : List Int) : within 0 40 [(f.length : Int), (g.length : Int)] = !decide (40 < f.length ∨ 40 < g.length) := by
  unfold within
  by_cases h1 : 40 < f.length <;> by_cases h2 : 40 < g.length <;> simp [h1, h2] <;> omega

set_option maxHeartbeats 1000000 in
theorem checkDrum_c (a1 a2 : Option Addr) (c1 c2 : Nat) (f g : List Int) (w : World) (hx : IntsAt w a1 f) (hy : IntsAt w a2 g) (hb : f.length ≤ 1000000) (hb2 : g.length ≤ 1000000) :
    Calls Try.prog 20 #[.agg #[.slice a1 f.length c1, .slice a2 g.length c2]] w fun e w' => e = .returned (.int .i64 (checkDrum f g)) ∧ Below w.heap.size w w' := by
  have H0 := hid (within_c (some ⟨w.heap.size + 1, 0, none⟩) 2 0 40 [(f.length : Int), (g.length : Int)]
    ((w.alloc (.cells #[.slice a1 f.length c1, .slice a2 g.length c2] 24)).alloc (.cells #[.int .i64 f.length, .int .i64 g.length] 3))
    (intsAt_new _ [(f.length : Int), (g.length : Int)] _ 3 (by simp)) (by simp))
  rw [checkDrum_len] at H0
  have Hx := hid hx; have Hy := hid hy; clear hx hy
  have B0 : Below w.heap.size w ((w.alloc (.cells #[.slice a1 f.length c1, .slice a2 g.length c2] 24)).alloc (.cells #[.int .i64 f.length, .int .i64 g.length] 3)) :=
    ((Below.refl _ _).alloc (Nat.le_refl _) _).alloc (by simp) _
  have HB0 := hid B0; clear B0
  have Hbits1 := fun (w' : World) (h : Below w.heap.size w w') => hid (within_c a1 c1 0 1 f w' (Hx.out.mono h) hb)
  have Hbits2 := fun (w' : World) (h : Below w.heap.size w w') => hid (within_c a2 c2 0 1 g w' (Hy.out.mono h) hb2)
  simp only [within01] at Hbits1 Hbits2
  go_enter Try.func20, Try.ntmps20
  by_cases h : 40 < f.length ∨ 40 < g.length
  · have hv : checkDrum f g = 6 := by simp [checkDrum, h]
    have Hv := hid hv; clear hv
    rw [show decide (40 < f.length ∨ 40 < g.length) = true from by simp [h]] at H0
    go_wp2_with fail
    refine H0.out.mono ?_
    rintro e w1 ⟨rfl, hB⟩
    go_wp2
    go_ret
    exact ⟨ret_int Hv.out.symm, HB0.out.trans (hB.mono HB0.out.size)⟩
  · rw [show decide (40 < f.length ∨ 40 < g.length) = false from by simp; omega] at H0
    by_cases hl : f.length = g.length
    · cases hf : isBits f with
      | false =>
        have hv : checkDrum f g = 3 := by unfold checkDrum; rw [if_neg h]; simp [hl, hf]
        have Hv := hid hv; clear hv
        have hlb : (((f.length : Nat) : Int) != ((g.length : Nat) : Int)) = false := by simp [hl]
        have Hl := hid hl; clear hl
        simp only [hf] at Hbits1
        have Hb1 := hid Hbits1; clear Hbits1
        go_wp2_with fail
        refine H0.out.mono ?_
        rintro e w1 ⟨rfl, hB⟩
        obtain ⟨hc, hfz⟩ := bcell hB
        have HB := hid hB; clear hB
        go_wp2_with fail
        refine ((Hb1.out _ (bstep HB0.out HB.out)).out).mono ?_
        rintro e w2 ⟨rfl, hB2⟩
        have HB2 := hid hB2; clear hB2
        go_wp2
        go_ret
        exact ⟨ret_int Hv.out.symm, bstep (bstep HB0.out HB.out) HB2.out⟩
      | true =>
        simp only [hf] at Hbits1
        have Hb1 := hid Hbits1; clear Hbits1
        have hlb : (((f.length : Nat) : Int) != ((g.length : Nat) : Int)) = false := by simp [hl]
        cases hg : isBits g with
        | false =>
          have hv : checkDrum f g = 3 := by unfold checkDrum; rw [if_neg h]; simp [hl, hg]
          have Hv := hid hv; clear hv
          have Hl := hid hl; clear hl
          simp only [hg] at Hbits2
          have Hb2 := hid Hbits2; clear Hbits2
          go_wp2_with fail
          refine H0.out.mono ?_
          rintro e w1 ⟨rfl, hB⟩
          have c1 := cstep (p := ⟨w.heap.size, 0, none⟩) (v := .slice a1 f.length c1) (by simp) hB
          have c2' := cstep (p := ⟨w.heap.size, 1, none⟩) (v := .slice a2 g.length c2) (by simp) hB
          have HB := hid hB; clear hB
          go_wp2_with fail
          refine ((Hb1.out _ (bstep HB0.out HB.out)).out).mono ?_
          rintro e w2 ⟨rfl, hB2⟩
          have c2'' := cstep c2' hB2
          have HB2 := hid hB2; clear hB2
          go_wp2_with fail
          refine ((Hb2.out _ (bstep (bstep HB0.out HB.out) HB2.out)).out).mono ?_
          rintro e w3 ⟨rfl, hB3⟩
          have HB3 := hid hB3; clear hB3
          go_wp2
          go_ret
          exact ⟨ret_int Hv.out.symm, bstep (bstep (bstep HB0.out HB.out) HB2.out) HB3.out⟩
        | true =>
          have hv : checkDrum f g = 0 := by unfold checkDrum; rw [if_neg h]; simp [hl, hf, hg]
          have Hv := hid hv; clear hv
          have Hl := hid hl; clear hl
          simp only [hg] at Hbits2
          have Hb2 := hid Hbits2; clear Hbits2
          go_wp2_with fail
          refine H0.out.mono ?_
          rintro e w1 ⟨rfl, hB⟩
          have c1 := cstep (p := ⟨w.heap.size, 0, none⟩) (v := .slice a1 f.length c1) (by simp) hB
          have c2' := cstep (p := ⟨w.heap.size, 1, none⟩) (v := .slice a2 g.length c2) (by simp) hB
          have HB := hid hB; clear hB
          go_wp2_with fail
          refine ((Hb1.out _ (bstep HB0.out HB.out)).out).mono ?_
          rintro e w2 ⟨rfl, hB2⟩
          have c2'' := cstep c2' hB2
          have HB2 := hid hB2; clear hB2
          go_wp2_with fail
          refine ((Hb2.out _ (bstep (bstep HB0.out HB.out) HB2.out)).out).mono ?_
          rintro e w3 ⟨rfl, hB3⟩
          have HB3 := hid hB3; clear hB3
          go_wp2
          go_ret
          exact ⟨ret_int Hv.out.symm, bstep (bstep (bstep HB0.out HB.out) HB2.out) HB3.out⟩
    · have hv : checkDrum f g = 15 := by unfold checkDrum; rw [if_neg h]; simp [hl]
      have Hv := hid hv; clear hv
      have hlb : (((f.length : Nat) : Int) != ((g.length : Nat) : Int)) = true := by simp; omega
      go_wp2_with fail
      refine H0.out.mono ?_
      rintro e w1 ⟨rfl, hB⟩
      obtain ⟨hc, hf⟩ := bcell hB
      go_wp2
      go_ret
      exact ⟨ret_int Hv.out.symm, HB0.out.trans (hB.mono HB0.out.size)⟩

end Go.Proofs.Ytjnijhnphhpilaa
