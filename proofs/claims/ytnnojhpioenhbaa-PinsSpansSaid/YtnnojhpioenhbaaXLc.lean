/- The law PinsLevels. -/
import Derived.Test.YtnnojhpioenhbaaXLb
import Derived.Test.YtnnojhpioenhbaaKK
import Derived.Test.YtnnojhpioenhbaaKG
import Derived.Test.YtnnojhpioenhbaaKL
namespace Go.Proofs.Ytnnojhpioenhbaa
open Go.RowKit Go.Shelf

theorem levX_len (B : Bd) (R : Rd) : (levX B R).length ≤ 11 := by
  unfold levX; split
  · exact levelsL_len B R
  · simp
theorem refX_len (B : Bd) (R : Rd) : (refX B R).length ≤ 11 := by
  unfold refX; split
  · rw [refK_len]; omega
  · simp
section
variable (pa : Option Addr) (pc : Nat) (ya : Option Addr) (yc : Nat) (la : Option Addr) (lc : Nat) (sa : Option Addr) (sc : Nat) (xa : Option Addr) (xc : Nat) (B : Bd) (R : Rd) (xs : List Int) (w : World)
set_option maxRecDepth 100000 in
set_option maxHeartbeats 8000000 in
theorem pinsLevels_c (hworks : WorksC) (hb : BdAt w pa ya B) (hr : RdAt w la sa R) (hx : IntsAt w xa xs) : Calls Try.prog 5 #[.agg #[.slice pa B.pins.length pc, .slice ya B.pays.length yc], .agg #[.slice la R.plumbs.length lc, .slice sa R.slots.length sc], .slice xa xs.length xc] w (TellB w true) := by
  have HW := hid hworks
  obtain ⟨V, hV, hB0, k0, k1, k2, k3⟩ := box2 w (.slice pa B.pins.length pc) (.slice ya B.pays.length yc) (.slice la R.plumbs.length lc) (.slice sa R.slots.length sc) 25 51
  have hbV := hb.mono hB0
  have hrV := hr.mono hB0
  have HB0 := hid hB0; have HV := hid hV; have HV0 := hid (Below.refl V.heap.size V)
  have K0 := hid k0; have K1 := hid k1; have K2 := hid k2; have K3 := hid k3
  have HX := hid (hx.mono hB0)
  have HG := hid (great_c pa pc ya yc B V hbV)
  have HD := hid fun (w' : World) => wide_c la lc sa sc R w'
  unfold WorksC TellB at *
  cases hg : greatB B with
  | true =>
    rw [hg] at HG
    clear hworks hb hr hx HX hV hB0 hbV hrV hg HD
    go_enter Try.func5, Try.ntmps5
    go_upto_region 1 with (fail)
    rw [← HV.out]
    go_wp2_with fail
    refine (HG.out).mono ?_
    rintro e w1 ⟨rfl, hB⟩
    have HB1 := hid (bstep HV0.out hB)
    clear hB
    go_wp2_with fail
    refine (HW.out _).mono ?_
    rintro e w2 ⟨rfl, hB⟩
    have HB2 := hid (bstep HB1.out hB)
    clear hB
    go_wp2
    go_ret
    exact ⟨rfl, bstep HB0.out HB2.out⟩
  | false =>
    rw [hg] at HG
    cases hwd : wideB R with
    | true =>
      rw [hwd] at HD
      clear hworks hb hr hx HX hV hB0 hbV hrV hg hwd
      go_enter Try.func5, Try.ntmps5
      go_upto_region 1 with (fail)
      rw [← HV.out]
      go_wp2_with fail
      refine (HG.out).mono ?_
      rintro e w1 ⟨rfl, hB⟩
      have HB1 := hid (bstep HV0.out hB)
      have k2 := cstep k2 hB
      have k3 := cstep k3 hB
      clear hB
      go_wp2_with fail
      refine (HD.out _).mono ?_
      rintro e w2 ⟨rfl, hB⟩
      have HB2 := hid (bstep HB1.out hB)
      clear hB
      go_wp2_with fail
      refine (HW.out _).mono ?_
      rintro e w3 ⟨rfl, hB⟩
      have HB3 := hid (bstep HB2.out hB)
      clear hB
      go_wp2
      go_ret
      exact ⟨rfl, bstep HB0.out HB3.out⟩
    | false =>
    rw [hwd] at HD
    by_cases hl20 : 20 < xs.length
    · have hI : (20 : Int) < (xs.length : Int) := by omega
      clear hworks hb hr hx HX hV hB0 hbV hrV hg hwd hl20
      go_enter Try.func5, Try.ntmps5
      go_upto_region 1 with (fail)
      rw [← HV.out]
      go_wp2_with fail
      refine (HG.out).mono ?_
      rintro e w1 ⟨rfl, hB⟩
      have HB1 := hid (bstep HV0.out hB)
      have k2 := cstep k2 hB
      have k3 := cstep k3 hB
      clear hB
      go_wp2_with fail
      refine (HD.out _).mono ?_
      rintro e w2 ⟨rfl, hB⟩
      have HB2 := hid (bstep HB1.out hB)
      clear hB
      go_wp2_with fail
      refine (HW.out _).mono ?_
      rintro e w3 ⟨rfl, hB⟩
      have HB3 := hid (bstep HB2.out hB)
      clear hB
      go_wp2
      go_ret
      exact ⟨rfl, bstep HB0.out HB3.out⟩
    have hI : ¬ (20 : Int) < (xs.length : Int) := by omega
    have hl := great_false hg
    have hl2 := wideB_lens hwd
    have H1 := hid fun (w' : World) (h : Below V.heap.size V w') => pLevels_c pa pc ya yc la lc sa sc B R w' (hbV.mono h) (hrV.mono h) (by omega) (by omega) (by omega) (by omega)
    have H2 := hid fun (w' : World) (h : Below V.heap.size V w') => rLevels_c pa pc ya yc la lc sa sc B R w' (hbV.mono h) (hrV.mono h) (by omega) (by omega) (by omega)
    have H3 := hid fun (w' : World) (h : Below V.heap.size V w') => pRefuted_c pa pc ya yc la lc sa sc B R w' (hbV.mono h) (hrV.mono h) (by omega) (by omega) (by omega) (by omega)
    have H4 := hid fun (w' : World) (h : Below V.heap.size V w') => rRefuted_c pa pc ya yc la lc sa sc B R w' (hbV.mono h) (hrV.mono h) (by omega) (by omega) (by omega)
    have H5 := hid fun (w' : World) (h : Below V.heap.size V w') => checkReadings_c pa pc ya yc la lc sa sc B R w' (hbV.mono h) (hrV.mono h) (by omega) (by omega) (by omega) (by omega)
    have H6 := hid fun (w' : World) (h : Below V.heap.size V w') => rCheckReadings_c pa pc ya yc la lc sa sc B R w' (hbV.mono h) (hrV.mono h) (by omega) (by omega) (by omega)
    have H7 := hid fun (w' : World) (h : Below V.heap.size V w') => pCheckRefuted_c pa pc ya yc la lc sa sc xa xc B R xs w' (hbV.mono h) (hrV.mono h) (HX.out.mono h) (by omega) (by omega) (by omega) (by omega) (by omega)
    have H8 := hid fun (w' : World) (h : Below V.heap.size V w') => rCheckRefuted_c pa pc ya yc la lc sa sc xa xc B R xs w' (hbV.mono h) (hrV.mono h) (HX.out.mono h) (by omega) (by omega) (by omega)
    have Hw := hid (show (levX B R).length ≤ 1000000 by have := levX_len B R; omega)
    have Hv := hid (show (refX B R).length ≤ 1000000 by have := refX_len B R; omega)
    unfold SliceE TellI at *
    clear hworks hb hr hx HX hV hB0 hbV hrV hg hwd hl hl2 hl20
    go_enter Try.func5, Try.ntmps5
    go_upto_region 1 with (fail)
    rw [← HV.out]
    go_wp2_with fail
    refine (HG.out).mono ?_
    rintro e w1 ⟨rfl, hB⟩
    have HB1 := hid (bstep HV0.out hB)
    have k0 := cstep k0 hB
    have k1 := cstep k1 hB
    have k2 := cstep k2 hB
    have k3 := cstep k3 hB
    clear hB
    go_wp2_with fail
    refine (HD.out _).mono ?_
    rintro e w2 ⟨rfl, hB⟩
    have HB2 := hid (bstep HB1.out hB)
    have k0 := cstep k0 hB
    have k1 := cstep k1 hB
    have k2 := cstep k2 hB
    have k3 := cstep k3 hB
    clear hB
    go_wp2_with fail
    refine (H1.out _ HB2.out).mono ?_
    rintro e w3 ⟨ao, ca, rfl, hx, _, hB⟩
    have HB3 := hid (bstep HB2.out hB)
    have k0 := cstep k0 hB
    have k1 := cstep k1 hB
    have k2 := cstep k2 hB
    have k3 := cstep k3 hB
    clear hB
    have HX := hid hx
    clear hx
    go_wp2_with fail
    refine (H2.out _ HB3.out).mono ?_
    rintro e w4 ⟨bo, cb, rfl, hy, _, hB⟩
    have HB4 := hid (bstep HB3.out hB)
    have k0 := cstep k0 hB
    have k1 := cstep k1 hB
    have k2 := cstep k2 hB
    have k3 := cstep k3 hB
    have HX := hid (HX.out.mono hB)
    clear hB
    have HY := hid hy
    clear hy
    go_wp2_with fail
    refine (H3.out _ HB4.out).mono ?_
    rintro e w5 ⟨co, cc, rfl, hx, _, hB⟩
    have HB5 := hid (bstep HB4.out hB)
    have k0 := cstep k0 hB
    have k1 := cstep k1 hB
    have k2 := cstep k2 hB
    have k3 := cstep k3 hB
    have HX := hid (HX.out.mono hB)
    have HY := hid (HY.out.mono hB)
    clear hB
    have HU := hid hx
    clear hx
    go_wp2_with fail
    refine (H4.out _ HB5.out).mono ?_
    rintro e w6 ⟨d_o, cd, rfl, hy, _, hB⟩
    have HB6 := hid (bstep HB5.out hB)
    have k0 := cstep k0 hB
    have k1 := cstep k1 hB
    have k2 := cstep k2 hB
    have k3 := cstep k3 hB
    have HX := hid (HX.out.mono hB)
    have HY := hid (HY.out.mono hB)
    have HU := hid (HU.out.mono hB)
    clear hB
    have HV2 := hid hy
    clear hy
    have jk0 := fun s : Later w6 => cstep k0 s.h
    have jk1 := fun s : Later w6 => cstep k1 s.h
    have jk2 := fun s : Later w6 => cstep k2 s.h
    have jk3 := fun s : Later w6 => cstep k3 s.h
    have HI := hid fun s : Later w6 => ints_c ao bo ca cb (levX B R) (levX B R) s.w' (HX.out.mono s.h) (HY.out.mono s.h) Hw.out
    have HJ := hid fun s : Later w6 => ints_c co d_o cc cd (refX B R) (refX B R) s.w' (HU.out.mono s.h) (HV2.out.mono s.h) Hv.out
    unfold TellB at HI HJ
    rw [decide_eq_true rfl] at HI HJ
    have HWb := hid fun s : Later w6 => HW.out s.w'
    have H5b := hid fun s : Later w6 => H5.out s.w' (bstep HB6.out s.h)
    have H6b := hid fun s : Later w6 => H6.out s.w' (bstep HB6.out s.h)
    have H7b := hid fun s : Later w6 => H7.out s.w' (bstep HB6.out s.h)
    have H8b := hid fun s : Later w6 => H8.out s.w' (bstep HB6.out s.h)
    go_upto_region 7 with (fail)
    refine wp_region_later (by kernel_rfl) (by kernel_rfl) ?_
    repeat (go_big_quiet_step ((first | (go_at_call 32; with_reducible exact callsLater (HI.out _)) | (go_at_call 32; with_reducible exact callsLater (HJ.out _)) | (go_at_call 17; with_reducible exact callsLater (HWb.out _)) | (go_at_call 38; with_reducible exact callsLater (H5b.out _)) | (go_at_call 39; with_reducible exact callsLater (H6b.out _)) | (go_at_call 40; with_reducible exact callsLater (H7b.out _)) | (go_at_call 41; with_reducible exact callsLater (H8b.out _)))))
    refine wpQuiet_nil ?_
    rintro w7 ⟨⟨_, hB⟩, rfl⟩
    clear jk0 jk1 jk2 jk3 HI HJ HWb H5b H6b H7b H8b
    have HB7 := hid (bstep HB6.out hB)
    have k0 := cstep k0 hB
    have k1 := cstep k1 hB
    have k2 := cstep k2 hB
    have k3 := cstep k3 hB
    have HX := hid (HX.out.mono hB)
    have HY := hid (HY.out.mono hB)
    have HU := hid (HU.out.mono hB)
    have HV2 := hid (HV2.out.mono hB)
    clear hB
    go_wp2
    go_ret
    exact ⟨rfl, bstep HB0.out HB7.out⟩
end

end Go.Proofs.Ytnnojhpioenhbaa
