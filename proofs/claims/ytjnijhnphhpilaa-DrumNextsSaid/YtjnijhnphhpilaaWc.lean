/- Walks: the reference's CheckDrum, Same of drums, and the functions that make rows and drums. -/
import Derived.Test.YtjnijhnphhpilaaWb
namespace Go.Proofs.Ytjnijhnphhpilaa
open Go.RowKit Go.Shelf

set_option maxHeartbeats 1000000 in
theorem rCheckDrum_c (a1 a2 : Option Addr) (c1 c2 : Nat) (f g : List Int) (w : World) (hx : IntsAt w a1 f) (hy : IntsAt w a2 g) (hb : f.length ≤ 1000000) (hb2 : g.length ≤ 1000000) :
    Calls Try.prog 21 #[.agg #[.slice a1 f.length c1, .slice a2 g.length c2]] w fun e w' => e = .returned (.int .i64 (checkDrum f g)) ∧ Below w.heap.size w w' := by
  have B0 := (Below.refl w.heap.size w).alloc (Nat.le_refl _) (.cells #[.slice a1 f.length c1, .slice a2 g.length c2] 24)
  have H1 := hid (rIsBits_c a1 c1 f _ (hx.mono B0) hb)
  have H2 := hid (rIsBits_c a2 c2 g _ (hy.mono B0) hb2)
  have HB0 := hid B0
  clear B0 hx hy
  go_enter Try.func21, Try.ntmps21
  by_cases h : 40 < f.length
  · have hv : checkDrum f g = 6 := by unfold checkDrum; rw [if_pos (.inl h)]
    have Hv := hid hv; clear hv
    go_wp2
    go_ret
    exact ⟨ret_int Hv.out.symm, HB0.out⟩
  · by_cases h2 : 40 < g.length
    · have hv : checkDrum f g = 6 := by unfold checkDrum; rw [if_pos (.inr h2)]
      have Hv := hid hv; clear hv
      go_wp2
      go_ret
      exact ⟨ret_int Hv.out.symm, HB0.out⟩
    · have h3 : ¬ (40 < f.length ∨ 40 < g.length) := by omega
      have H3 := hid h3; clear h3
      by_cases hl : f.length = g.length
      · have hlb : (((f.length : Nat) : Int) != ((g.length : Nat) : Int)) = false := by simp [hl]
        have Hl := hid hl; clear hl
        cases hf : isBits f with
        | false =>
          have hv : checkDrum f g = 3 := by unfold checkDrum; rw [if_neg H3.out]; simp [Hl.out, hf]
          have Hv := hid hv; clear hv
          rw [hf] at H1
          clear hf
          go_wp2_with fail
          refine H1.out.mono ?_
          rintro e w1 ⟨rfl, rfl⟩
          go_wp2
          go_ret
          exact ⟨ret_int Hv.out.symm, HB0.out⟩
        | true =>
          rw [hf] at H1
          have Hf := hid hf; clear hf
          cases hg : isBits g with
          | false =>
            have hv : checkDrum f g = 3 := by unfold checkDrum; rw [if_neg H3.out]; simp [Hl.out, hg]
            have Hv := hid hv; clear hv
            rw [hg] at H2
            clear hg
            go_wp2_with fail
            refine H1.out.mono ?_
            rintro e w1 ⟨rfl, rfl⟩
            go_wp2_with fail
            refine H2.out.mono ?_
            rintro e w1 ⟨rfl, rfl⟩
            go_wp2
            go_ret
            exact ⟨ret_int Hv.out.symm, HB0.out⟩
          | true =>
            have hv : checkDrum f g = 0 := by unfold checkDrum; rw [if_neg H3.out]; simp [Hl.out, hg, Hf.out]
            have Hv := hid hv; clear hv
            rw [hg] at H2
            clear hg
            go_wp2_with fail
            refine H1.out.mono ?_
            rintro e w1 ⟨rfl, rfl⟩
            go_wp2_with fail
            refine H2.out.mono ?_
            rintro e w1 ⟨rfl, rfl⟩
            go_wp2
            go_ret
            exact ⟨ret_int Hv.out.symm, HB0.out⟩
      · have hlb : (((f.length : Nat) : Int) != ((g.length : Nat) : Int)) = true := by simp; omega
        have hv : checkDrum f g = 15 := by unfold checkDrum; rw [if_neg H3.out]; simp [hl]
        have Hv := hid hv; clear hv
        clear hl
        go_wp2
        go_ret
        exact ⟨ret_int Hv.out.symm, HB0.out⟩

set_option maxHeartbeats 1000000 in
theorem same_c (a1 a2 b1 b2 : Option Addr) (c1 c2 d1 d2 : Nat) (f g h k : List Int) (w : World) (hf : IntsAt w a1 f) (hg : IntsAt w a2 g) (hh : IntsAt w b1 h) (hk : IntsAt w b2 k)
    (hb1 : f.length ≤ 1000000) (hb2 : g.length ≤ 1000000) (hb3 : h.length ≤ 1000000) (hb4 : k.length ≤ 1000000) :
    Calls Try.prog 45 #[.agg #[.slice a1 f.length c1, .slice a2 g.length c2], .agg #[.slice b1 h.length d1, .slice b2 k.length d2]] w fun e w' => e = .returned (.bool (decide (f = h ∧ g = k))) ∧ Below w.heap.size w w' := by
  have B0 := ((Below.refl w.heap.size w).alloc (Nat.le_refl _) (.cells #[.slice a1 f.length c1, .slice a2 g.length c2] 24)).alloc (by simp) (.cells #[.slice b1 h.length d1, .slice b2 k.length d2] 24)
  have H1 := hid (ints_c a1 b1 c1 d1 f h _ (hf.mono B0) (hh.mono B0) hb1 hb3)
  have HB0 := hid B0
  have H2 := fun (w' : World) (hB : Below w.heap.size w w') => hid (ints_c a2 b2 c2 d2 g k w' (hg.mono hB) (hk.mono hB) hb2 hb4)
  have HH2 := hid H2
  clear B0 hf hg hh hk H2
  go_enter Try.func45, Try.ntmps45
  by_cases e1 : f = h
  · rw [show decide (f = h) = true from by simp [e1]] at H1
    have E1 := hid e1; clear e1
    go_wp2_with fail
    refine H1.out.mono ?_
    rintro e w1 ⟨rfl, hB⟩
    have q1 := cstep (p := ⟨w.heap.size, 1, none⟩) (v := .slice a2 g.length c2) (by simp) hB
    have q2 := cstep (p := ⟨w.heap.size + 1, 1, none⟩) (v := .slice b2 k.length d2) (by simp) hB
    have HB := hid hB; clear hB
    go_wp2_with fail
    refine ((HH2.out _ (bstep HB0.out HB.out)).out).mono ?_
    rintro e w2 ⟨rfl, hB2⟩
    have HB2 := hid hB2; clear hB2
    go_wp2
    go_ret
    exact ⟨ret_bool (by simp [E1.out]), bstep (bstep HB0.out HB.out) HB2.out⟩
  · rw [show decide (f = h) = false from by simp [e1]] at H1
    have E1 := hid e1; clear e1
    go_wp2_with fail
    refine H1.out.mono ?_
    rintro e w1 ⟨rfl, hB⟩
    have HB := hid hB; clear hB
    go_wp2
    go_ret
    exact ⟨ret_bool (by simp [E1.out]), bstep HB0.out HB.out⟩

end Go.Proofs.Ytjnijhnphhpilaa
