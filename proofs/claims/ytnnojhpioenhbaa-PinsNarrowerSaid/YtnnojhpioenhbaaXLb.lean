/- The law PinsPaths. -/
import Derived.Test.YtnnojhpioenhbaaXLa
import Derived.Test.YtnnojhpioenhbaaKJ
import Derived.Test.YtnnojhpioenhbaaKF
namespace Go.Proofs.Ytnnojhpioenhbaa
open Go.RowKit Go.Shelf

/-- a box of a fraction -/
def Q2 (w : World) (b : Nat) (x y : Int) : Prop := w.cell? ⟨b, 0, none⟩ = some (.int .i64 x) ∧ w.cell? ⟨b, 1, none⟩ = some (.int .i64 y)
theorem Q2.mono {w w' : World} {b : Nat} {x y : Int} (h : Q2 w b x y) (hB : Below w.heap.size w w') : Q2 w' b x y := ⟨cstep h.1 hB, cstep h.2 hB⟩
theorem pathX_len (B : Bd) (lv : Int) : (pathX B lv).length ≤ B.pins.length := by
  unfold pathX; split
  · rw [numb_len]; omega
  · simp
section
variable (pa : Option Addr) (pc : Nat) (ya : Option Addr) (yc : Nat) (xa : Option Addr) (xc : Nat) (B : Bd) (lv : Int) (xs : List Int) (w : World)
set_option maxRecDepth 100000 in
set_option maxHeartbeats 8000000 in
theorem pinsPaths_c (hworks : WorksC) (hb : BdAt w pa ya B) (hx : IntsAt w xa xs) : Calls Try.prog 4 #[.agg #[.slice pa B.pins.length pc, .slice ya B.pays.length yc], .int .i64 lv, .slice xa xs.length xc] w (TellB w true) := by
  have HW := hid hworks
  obtain ⟨V, hV, hB0, k0, k1⟩ := box1 w (.slice pa B.pins.length pc) (.slice ya B.pays.length yc) 25
  have hbV := hb.mono hB0
  have HB0 := hid hB0; have HV := hid hV; have HV0 := hid (Below.refl V.heap.size V)
  have K0 := hid k0; have K1 := hid k1
  have HX := hid (hx.mono hB0)
  have HG := hid (great_c pa pc ya yc B V hbV)
  unfold WorksC TellB at *
  cases hg : greatB B with
  | true =>
    rw [hg] at HG
    clear hworks hb hx HX hV hB0 hbV hg
    go_enter Try.func4, Try.ntmps4
    go_upto_region 1 with (fail)
    rw [← HV.out]
    go_wp2_with fail
    refine (HG.out).mono ?_
    rintro e w1 ⟨rfl, hB⟩
    have HB1 := hid (bstep HV0.out hB)
    clear hB
    go_wp2_with fail
    refine (HW.out _).mono ?_
    rintro e w2 ⟨rfl, hB⟩
    have HB2 := hid (bstep HB1.out hB)
    clear hB
    go_wp2
    go_ret
    exact ⟨rfl, bstep HB0.out HB2.out⟩
  | false =>
    rw [hg] at HG
    by_cases hl16 : 16 < xs.length
    · have hI : (16 : Int) < (xs.length : Int) := by omega
      clear hworks hb hx HX hV hB0 hbV hg hl16
      go_enter Try.func4, Try.ntmps4
      go_upto_region 1 with (fail)
      rw [← HV.out]
      go_wp2_with fail
      refine (HG.out).mono ?_
      rintro e w1 ⟨rfl, hB⟩
      have HB1 := hid (bstep HV0.out hB)
      clear hB
      go_wp2_with fail
      refine (HW.out _).mono ?_
      rintro e w2 ⟨rfl, hB⟩
      have HB2 := hid (bstep HB1.out hB)
      clear hB
      go_wp2
      go_ret
      exact ⟨rfl, bstep HB0.out HB2.out⟩
    have hI : ¬ (16 : Int) < (xs.length : Int) := by omega
    have hl := great_false hg
    have H1 := hid fun (w' : World) (h : Below V.heap.size V w') => pFalls_c xa xc xs pa pc ya yc B lv w' (hbV.mono h) (by omega) (by omega) (HX.out.mono h) (by omega)
    have H2 := hid fun (w' : World) (h : Below V.heap.size V w') => rFalls_c xa xc xs pa pc ya yc B lv w' (hbV.mono h) (by omega) (HX.out.mono h)
    have H3 := hid fun (w' : World) (h : Below V.heap.size V w') => pPath_c pa pc ya yc B lv w' (hbV.mono h) (by omega) (by omega)
    have H4 := hid fun (w' : World) (h : Below V.heap.size V w') => rPath_c pa pc ya yc B lv w' (hbV.mono h) (by omega)
    have Hw := hid (show (pathX B lv).length ≤ 1000000 by have := pathX_len B lv; omega)
    unfold SliceE IntE at *
    clear hworks hb hx HX hV hB0 hbV hg hl hl16
    go_enter Try.func4, Try.ntmps4
    go_upto_region 1 with (fail)
    rw [← HV.out]
    go_wp2_with fail
    refine (HG.out).mono ?_
    rintro e w1 ⟨rfl, hB⟩
    have HB1 := hid (bstep HV0.out hB)
    have k0 := cstep k0 hB
    have k1 := cstep k1 hB
    clear hB
    go_wp2_with fail
    refine (H1.out _ HB1.out).mono ?_
    rintro e w2 ⟨rfl, hB⟩
    have HB2 := hid (bstep HB1.out hB)
    have k0 := cstep k0 hB
    have k1 := cstep k1 hB
    clear hB
    go_wp2_with fail
    refine (H2.out _ HB2.out).mono ?_
    rintro e w3 ⟨rfl, hB⟩
    have HB3 := hid (bstep HB2.out hB)
    have k0 := cstep k0 hB
    have k1 := cstep k1 hB
    clear hB
    go_wp2_with fail
    refine (H3.out _ HB3.out).mono ?_
    rintro e w4 ⟨ao, ca, rfl, hx, _, hB⟩
    have HB4 := hid (bstep HB3.out hB)
    have k0 := cstep k0 hB
    have k1 := cstep k1 hB
    clear hB
    have HX := hid hx
    clear hx
    go_wp2_with fail
    refine (H4.out _ HB4.out).mono ?_
    rintro e w5 ⟨bo, cb, rfl, hy, _, hB⟩
    have HB5 := hid (bstep HB4.out hB)
    have k0 := cstep k0 hB
    have k1 := cstep k1 hB
    have HX := hid (HX.out.mono hB)
    clear hB
    have HY := hid hy
    clear hy
    have HI := hid (ints_c ao bo ca cb (pathX B lv) (pathX B lv) w5 (HX.out) (HY.out) Hw.out)
    unfold TellB at HI
    rw [decide_eq_true rfl] at HI
    go_wp2_with fail
    refine (HI.out).mono ?_
    rintro e w6 ⟨rfl, hB⟩
    have HB6 := hid (bstep HB5.out hB)
    have k0 := cstep k0 hB
    have k1 := cstep k1 hB
    have HX := hid (HX.out.mono hB)
    have HY := hid (HY.out.mono hB)
    clear hB
    go_wp2_with fail
    refine (HW.out _).mono ?_
    rintro e w7 ⟨rfl, hB⟩
    have HB7 := hid (bstep HB6.out hB)
    have k0 := cstep k0 hB
    have k1 := cstep k1 hB
    have HX := hid (HX.out.mono hB)
    have HY := hid (HY.out.mono hB)
    clear hB
    go_wp2
    go_ret
    exact ⟨rfl, bstep HB0.out HB7.out⟩
end

end Go.Proofs.Ytnnojhpioenhbaa
