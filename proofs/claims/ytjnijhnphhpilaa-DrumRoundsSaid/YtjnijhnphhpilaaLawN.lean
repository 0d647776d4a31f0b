/- Walk: the law DrumRounds. -/
import Derived.Test.YtjnijhnphhpilaaWy
import Derived.Test.YtjnijhnphhpilaaWu
import Derived.Test.YtjnijhnphhpilaaWorks
namespace Go.Proofs.Ytjnijhnphhpilaa
open Go.RowKit Go.Shelf

set_option maxRecDepth 100000 in
set_option maxHeartbeats 4000000 in
theorem rounds_law (a1 a2 a3 a4 : Option Addr) (c1 c2 c3 c4 : Nat) (f g f2 g2 : List Int) (w : World) (h1 : IntsAt w a1 f) (h2 : IntsAt w a2 g) (h3 : IntsAt w a3 f2) (h4 : IntsAt w a4 g2) (n1 : a1 = none → c1 = 0) (n3 : a3 = none → c3 = 0) :
    Calls Try.prog 6 #[.agg #[.slice a1 f.length c1, .slice a2 g.length c2], .agg #[.slice a3 f2.length c3, .slice a4 g2.length c4]] w (TrueP w) := by
  have HI0 := hid (inv1 (inv1 ((((Inv.nil w).add h4).add h3).add h2 |>.add h1) (.slice a1 f.length c1) (.slice a2 g.length c2)) (.slice a3 f2.length c3) (.slice a4 g2.length c4))
  have N1 := hid n1; have N3 := hid n3
  clear h1 h2 h3 h4 n1 n3
  have HB0 := hid (bstep (bnew w (.cells #[.slice a1 f.length c1, .slice a2 g.length c2] 24)) (bnew (w.alloc (.cells #[.slice a1 f.length c1, .slice a2 g.length c2] 24)) (.cells #[.slice a3 f2.length c3, .slice a4 g2.length c4] 24)))
  obtain ⟨W0, hW0⟩ : ∃ W0, W0 = (w.alloc (.cells #[.slice a1 f.length c1, .slice a2 g.length c2] 24)).alloc (.cells #[.slice a3 f2.length c3, .slice a4 g2.length c4] 24) := ⟨_, rfl⟩
  rw [← hW0] at HI0 HB0
  have HW1 := hid (fun w' => wide_c a1 a2 f.length g.length c1 c2 w')
  have HW2 := hid (fun w' => wide_c a3 a4 f2.length g2.length c3 c4 w')
  have p1 : W0.cell? ⟨w.heap.size, 0, none⟩ = some (.slice a1 f.length c1) := HI0.out.ceI 2 rfl
  have p2 : W0.cell? ⟨w.heap.size, 1, none⟩ = some (.slice a2 g.length c2) := HI0.out.ceI 3 rfl
  have p3 : W0.cell? ⟨w.heap.size + 1, 0, none⟩ = some (.slice a3 f2.length c3) := by have := HI0.out.ceI (b := (w.alloc (.cells #[.slice a1 f.length c1, .slice a2 g.length c2] 24)).heap.size) (k := 0) 0 rfl; simpa using this
  have p4 : W0.cell? ⟨w.heap.size + 1, 1, none⟩ = some (.slice a4 g2.length c4) := by have := HI0.out.ceI (b := (w.alloc (.cells #[.slice a1 f.length c1, .slice a2 g.length c2] 24)).heap.size) (k := 1) 1 rfl; simpa using this
  by_cases hw1 : 50 < f.length ∨ 50 < g.length
  · rw [show decide (50 < f.length ∨ 50 < g.length) = true from by simpa using hw1] at HW1
    clear hw1
    go_enter Try.func6, Try.ntmps6
    go_wp2_with fail
    rw [← hW0]
    refine (HW1.out _).mono ?_
    rintro e w1 ⟨rfl, hB⟩
    have HB1 := hid (bstep HB0.out hB)
    clear hB
    go_wp2_with fail
    refine (works_c w1).mono ?_
    rintro e w2 ⟨rfl, hB⟩
    have HB2 := hid (bstep HB1.out hB)
    clear hB
    go_wp2
    go_ret
    exact ⟨rfl, HB2.out⟩
  · rw [show decide (50 < f.length ∨ 50 < g.length) = false from by simpa using hw1] at HW1
    by_cases hw2 : 50 < f2.length ∨ 50 < g2.length
    · rw [show decide (50 < f2.length ∨ 50 < g2.length) = true from by simpa using hw2] at HW2
      clear hw1 hw2
      go_enter Try.func6, Try.ntmps6
      go_wp2_with fail
      rw [← hW0]
      refine (HW1.out _).mono ?_
      rintro e w1 ⟨rfl, hB⟩
      have q3 := cstep p3 hB; have q4 := cstep p4 hB
      have HB1 := hid (bstep HB0.out hB)
      clear hB hW0 p1 p2 p3 p4 HI0
      go_wp2_with fail
      refine (HW2.out _).mono ?_
      rintro e w2 ⟨rfl, hB⟩
      have HB2 := hid (bstep HB1.out hB)
      clear hB
      go_wp2_with fail
      refine (works_c w2).mono ?_
      rintro e w3 ⟨rfl, hB⟩
      have HB3 := hid (bstep HB2.out hB)
      clear hB
      go_wp2
      go_ret
      exact ⟨rfl, HB3.out⟩
    · rw [show decide (50 < f2.length ∨ 50 < g2.length) = false from by simpa using hw2] at HW2
      have k1 : f.length ≤ 50 := by omega
      have k2 : g.length ≤ 50 := by omega
      have k3 : f2.length ≤ 50 := by omega
      have k4 : g2.length ≤ 50 := by omega
      clear hw1 hw2
      have HP1 := hid p1; have HP2 := hid p2; have HP3 := hid p3; have HP4 := hid p4
      have HL := hid (show (togFeed f g f2 g2).length ≤ 1000000 ∧ (togFirst f g f2 g2).length ≤ 1000000 from by
        unfold togFeed togFirst
        split
        · rw [timesF_length, xorTo_length, playsF_length]; omega
        · simp)
      have HA := hid fun (w' : World) (hb : Below W0.heap.size W0 w') => round_c a1 a2 c1 c2 f g w' ((HI0.out.step hb).atI (a := a1) (xs := f) 0 rfl) ((HI0.out.step hb).atI (a := a2) (xs := g) 1 rfl) (by omega) (by omega)
      have HA' := hid fun (w' : World) (hb : Below W0.heap.size W0 w') => rRound_c a1 a2 c1 c2 f g w' ((HI0.out.step hb).atI (a := a1) (xs := f) 0 rfl) ((HI0.out.step hb).atI (a := a2) (xs := g) 1 rfl) (by omega) (by omega)
      have HT := hid fun (w' : World) (hb : Below W0.heap.size W0 w') => together_c a1 a2 a3 a4 c1 c2 c3 c4 f g f2 g2 w' ((HI0.out.step hb).atI (a := a1) (xs := f) 0 rfl) ((HI0.out.step hb).atI (a := a2) (xs := g) 1 rfl) ((HI0.out.step hb).atI (a := a3) (xs := f2) 2 rfl) ((HI0.out.step hb).atI (a := a4) (xs := g2) 3 rfl) (by omega) (by omega) (by omega) (by omega)
      have HT' := hid fun (w' : World) (hb : Below W0.heap.size W0 w') => rTogether_c a1 a2 a3 a4 c1 c2 c3 c4 f g f2 g2 w' ((HI0.out.step hb).atI (a := a1) (xs := f) 0 rfl) ((HI0.out.step hb).atI (a := a2) (xs := g) 1 rfl) ((HI0.out.step hb).atI (a := a3) (xs := f2) 2 rfl) ((HI0.out.step hb).atI (a := a4) (xs := g2) 3 rfl) N1.out N3.out (by omega) (by omega) (by omega) (by omega)
      go_enter Try.func6, Try.ntmps6
      go_wp2_with fail
      rw [← hW0]
      refine (HW1.out _).mono ?_
      rintro e w1 ⟨rfl, hB⟩
      have q3 := cstep p3 hB; have q4 := cstep p4 hB
      have HB1 := hid hB
      clear hB hW0 p1 p2 p3 p4
      go_wp2_with fail
      refine (HW2.out _).mono ?_
      rintro e w2 ⟨rfl, hB⟩
      have HB2 := hid (bstep HB1.out hB)
      clear hB q3 q4 HB1
      have q1 := cstep HP1.out HB2.out; have q2 := cstep HP2.out HB2.out
      go_wp2_with fail
      refine (HA.out _ HB2.out).mono ?_
      rintro e w3 ⟨i, r, er, rfl, hi, hB⟩
      have HB3 := hid (bstep HB2.out hB)
      have Hi := hid hi
      clear hB q1 q2 HB2 hi
      have q1 := cstep HP1.out HB3.out; have q2 := cstep HP2.out HB3.out
      go_wp2_with fail
      refine (HA'.out _ HB3.out).mono ?_
      rintro e w4 ⟨i', r', er', rfl, hi, hB⟩
      obtain ⟨rfl, rfl, rfl⟩ := Hi.out.unique hi
      have HB4 := hid (bstep HB3.out hB)
      clear hB q1 q2 HB3 hi
      have q1 := cstep HP1.out HB4.out; have q2 := cstep HP2.out HB4.out; have q3 := cstep HP3.out HB4.out; have q4 := cstep HP4.out HB4.out
      go_wp2_with fail
      refine (HT.out _ HB4.out).mono ?_
      rintro e w5 ⟨_, rfl, hB, _, _, rfl, ⟨x1, d1, rfl, hx1, _⟩, ⟨x2, d2, rfl, hx2, _⟩⟩
      have HI5 := hid (inv1 (((Inv.nil w5).add hx1).add hx2) (.slice x1 (togFeed f g f2 g2).length d1) (.slice x2 (togFirst f g f2 g2).length d2))
      have HB5 := hid (bstep (bstep HB4.out hB) (bnew w5 (.cells #[.slice x1 (togFeed f g f2 g2).length d1, .slice x2 (togFirst f g f2 g2).length d2] 24)))
      clear hB q1 q2 q3 q4 HB4 hx1 hx2
      obtain ⟨te, hte⟩ : ∃ te, te = togErr f g f2 g2 := ⟨_, rfl⟩
      obtain ⟨n1, hn1⟩ : ∃ n, n = (togFeed f g f2 g2).length := ⟨_, rfl⟩
      obtain ⟨n2, hn2⟩ : ∃ n, n = (togFirst f g f2 g2).length := ⟨_, rfl⟩
      have Hn1 := hid hn1; have Hn2 := hid hn2; have Hte := hid hte
      rw [← hn1, ← hn2] at HI5 HB5
      rw [← hn1, ← hn2, ← hte]
      clear hn1 hn2 hte
      have q1 := cstep HP1.out HB5.out; have q2 := cstep HP2.out HB5.out; have q3 := cstep HP3.out HB5.out; have q4 := cstep HP4.out HB5.out
      go_wp2_with fail
      obtain ⟨bx, hbx⟩ : ∃ b, b = w5.heap.size := ⟨_, rfl⟩
      rw [← hbx] at HI5 ⊢
      generalize w5.alloc (.cells #[.slice x1 n1 d1, .slice x2 n2 d2] 24) = w6 at *
      clear hbx q1 q2 q3 q4
      refine (HT'.out _ HB5.out).mono ?_
      rintro e w7 ⟨_, rfl, hB, _, _, rfl, ⟨x3, d3, rfl, hx3, _⟩, ⟨x4, d4, rfl, hx4, _⟩⟩
      rw [← Hn1.out, ← Hn2.out, ← Hte.out]
      have HI7 := hid (inv1 (((HI5.out.step hB).add hx3).add hx4) (.slice x3 n1 d3) (.slice x4 n2 d4))
      have HB7 := hid (bstep (bstep HB5.out hB) (bnew w7 (.cells #[.slice x3 n1 d3, .slice x4 n2 d4] 24)))
      have r1 := HI7.out.ceI (b := bx) (k := 0) (v := .slice x1 n1 d1) 2 rfl
      have r2 := HI7.out.ceI (b := bx) (k := 1) (v := .slice x2 n2 d2) 3 rfl
      clear hB hx3 hx4 HI5 HB5
      go_wp2_with fail
      have HS := same_c x1 x2 x3 x4 d1 d2 d3 d4 (togFeed f g f2 g2) (togFirst f g f2 g2) (togFeed f g f2 g2) (togFirst f g f2 g2) (w7.alloc (.cells #[.slice x3 n1 d3, .slice x4 n2 d4] 24)) (HI7.out.atI 3 rfl) (HI7.out.atI 2 rfl) (HI7.out.atI 1 rfl) (HI7.out.atI 0 rfl) HL.out.1 HL.out.2 HL.out.1 HL.out.2
      rw [← Hn1.out, ← Hn2.out] at HS
      refine HS.mono ?_
      rintro e w8 ⟨rfl, hB⟩
      rw [show decide (togFeed f g f2 g2 = togFeed f g f2 g2 ∧ togFirst f g f2 g2 = togFirst f g f2 g2) = true from by simp]
      have HB8 := hid (bstep HB7.out hB)
      clear hB HI7 HB7 r1 r2 HS
      go_wp2_with fail
      refine (works_c w8).mono ?_
      rintro e w9 ⟨rfl, hB⟩
      have HB9 := hid (bstep HB0.out (bstep HB8.out hB))
      clear hB
      go_wp2
      go_ret
      exact ⟨rfl, HB9.out⟩

end Go.Proofs.Ytjnijhnphhpilaa
