/- The law PinsBoards. -/
import Derived.Test.YtnnojhpioenhbaaKM
import Derived.Test.YtnnojhpioenhbaaKF
namespace Go.Proofs.Ytnnojhpioenhbaa
open Go.RowKit Go.Shelf

def WorksC : Prop := ∀ w, Calls Try.prog 17 #[] w (TellB w true)
section
variable (pa : Option Addr) (pc : Nat) (ya : Option Addr) (yc : Nat) (B : Bd) (lv slot : Int) (w : World)
set_option maxRecDepth 100000 in
set_option maxHeartbeats 8000000 in
theorem pinsBoards_c (hworks : WorksC) (hb : BdAt w pa ya B) : Calls Try.prog 3 #[.agg #[.slice pa B.pins.length pc, .slice ya B.pays.length yc], .int .i64 lv, .int .i64 slot] w (TellB w true) := by
  have HW := hid hworks
  obtain ⟨V, hV, hB0, k0, k1⟩ := box1 w (.slice pa B.pins.length pc) (.slice ya B.pays.length yc) 25
  have hbV := hb.mono hB0
  have HB0 := hid hB0; have HV := hid hV; have HV0 := hid (Below.refl V.heap.size V)
  have K0 := hid k0; have K1 := hid k1
  have HG := hid (great_c pa pc ya yc B V hbV)
  unfold WorksC TellB at *
  cases hg : greatB B with
  | true =>
    rw [hg] at HG
    clear hworks hb hV hB0 hbV hg
    go_enter Try.func3, Try.ntmps3
    go_upto_region 1 with (fail)
    rw [← HV.out]
    go_wp2_with fail
    refine (HG.out).mono ?_
    rintro e w1 ⟨rfl, hB⟩
    have HB1 := hid (bstep HV0.out hB)
    clear hB
    go_wp2_with fail
    refine (HW.out _).mono ?_
    rintro e w2 ⟨rfl, hB⟩
    have HB2 := hid (bstep HB1.out hB)
    clear hB
    go_wp2
    go_ret
    exact ⟨rfl, bstep HB0.out HB2.out⟩
  | false =>
    rw [hg] at HG
    have hl := great_false hg
    have H1 := hid fun (w' : World) (h : Below V.heap.size V w') => pWays_c pa pc ya yc B lv w' (hbV.mono h) (by omega) (by omega)
    have H2 := hid fun (w' : World) (h : Below V.heap.size V w') => rWays_c pa pc ya yc B lv w' (hbV.mono h) (by omega)
    have H3 := hid fun (w' : World) (h : Below V.heap.size V w') => pPay_c pa pc ya yc B lv w' (hbV.mono h) (by omega) (by omega)
    have H4 := hid fun (w' : World) (h : Below V.heap.size V w') => rPay_c pa pc ya yc B lv w' (hbV.mono h) (by omega)
    have H5 := hid fun (w' : World) (h : Below V.heap.size V w') => pBack_c slot pa pc ya yc B lv w' (hbV.mono h) (by omega) (by omega)
    have H6 := hid fun (w' : World) (h : Below V.heap.size V w') => rBack_c pa pc ya yc B lv w' (hbV.mono h) (by omega) slot
    have H7 := hid fun (w' : World) (h : Below V.heap.size V w') => checkBoard_c pa pc ya yc B w' (hbV.mono h) (by omega) (by omega)
    have H8 := hid fun (w' : World) (h : Below V.heap.size V w') => rCheckBoard_c pa pc ya yc B w' (hbV.mono h) (by omega)
    have hw : (waysX B lv).length ≤ 1000000 := by
      unfold waysX
      split
      · rw [List.length_take]; omega
      · simp
    have hk : (backX B lv slot).length ≤ 1000000 ∧ ∀ l ∈ backX B lv slot, l.length ≤ 1000000 := by
      have hn := hl.1
      unfold backX
      split
      · unfold backL
        refine ⟨by simp; omega, fun l hl2 => ?_⟩
        simp only [List.mem_map, List.mem_range] at hl2
        obtain ⟨r, hr, rfl⟩ := hl2
        simp [bkRow]; omega
      · exact ⟨by simp, fun l h => by cases h⟩
    have Hw := hid hw; have Hk := hid hk
    clear hw hk
    unfold SliceE QE RowsE TellI at *
    clear hworks hb hV hB0 hbV hg hl
    go_enter Try.func3, Try.ntmps3
    go_upto_region 1 with (fail)
    rw [← HV.out]
    go_wp2_with fail
    refine (HG.out).mono ?_
    rintro e w1 ⟨rfl, hB⟩
    have HB1 := hid (bstep HV0.out hB)
    have k0 := cstep k0 hB
    have k1 := cstep k1 hB
    clear hB
    go_wp2_with fail
    refine (H1.out _ HB1.out).mono ?_
    rintro e w2 ⟨ao, ca, rfl, hx, _, hB⟩
    have HB2 := hid (bstep HB1.out hB)
    have k0 := cstep k0 hB
    have k1 := cstep k1 hB
    clear hB
    have HX := hid hx
    clear hx
    go_wp2_with fail
    refine (H2.out _ HB2.out).mono ?_
    rintro e w3 ⟨bo, cb, rfl, hy, _, hB⟩
    have HB3 := hid (bstep HB2.out hB)
    have k0 := cstep k0 hB
    have k1 := cstep k1 hB
    have HX := hid (HX.out.mono hB)
    clear hB
    have HY := hid hy
    clear hy
    go_wp2_with fail
    refine (H3.out _ HB3.out).mono ?_
    rintro e w4 ⟨rfl, hB⟩
    have HB4 := hid (bstep HB3.out hB)
    have k0 := cstep k0 hB
    have k1 := cstep k1 hB
    have HX := hid (HX.out.mono hB)
    have HY := hid (HY.out.mono hB)
    clear hB
    go_upto_region 6 with (fail)
    obtain ⟨w5, hY⟩ : ∃ y, y = w4.alloc (.cells #[.int .i64 (payX B lv).1, .int .i64 (payX B lv).2] 32) := ⟨_, rfl⟩
    have hB : Below w4.heap.size w4 w5 := by rw [hY]; exact bnew _ _
    have HP := hid (show w5.cell? ⟨w4.heap.size, 0, none⟩ = some (.int .i64 (payX B lv).1) ∧ w5.cell? ⟨w4.heap.size, 1, none⟩ = some (.int .i64 (payX B lv).2) by rw [hY]; constructor <;> simp [go_sem])
    rw [← hY]
    have HB5 := hid (bstep HB4.out hB)
    have k0 := cstep k0 hB; have k1 := cstep k1 hB
    have HX := hid (HX.out.mono hB); have HY := hid (HY.out.mono hB)
    clear hB hY
    go_wp2_with fail
    refine (H4.out _ HB5.out).mono ?_
    rintro e w6 ⟨rfl, hB⟩
    have HB6 := hid (bstep HB5.out hB)
    have k0 := cstep k0 hB; have k1 := cstep k1 hB
    have HX := hid (HX.out.mono hB); have HY := hid (HY.out.mono hB)
    have HP := hid (show w6.cell? ⟨w4.heap.size, 0, none⟩ = some (.int .i64 (payX B lv).1) ∧ w6.cell? ⟨w4.heap.size, 1, none⟩ = some (.int .i64 (payX B lv).2) from ⟨cstep HP.out.1 hB, cstep HP.out.2 hB⟩)
    clear hB
    go_upto_region 7 with (fail)
    obtain ⟨w7, hY⟩ : ∃ y, y = w6.alloc (.cells #[.int .i64 (payX B lv).1, .int .i64 (payX B lv).2] 32) := ⟨_, rfl⟩
    have hB : Below w6.heap.size w6 w7 := by rw [hY]; exact bnew _ _
    have HQ := hid (show w7.cell? ⟨w6.heap.size, 0, none⟩ = some (.int .i64 (payX B lv).1) ∧ w7.cell? ⟨w6.heap.size, 1, none⟩ = some (.int .i64 (payX B lv).2) by rw [hY]; constructor <;> simp [go_sem])
    rw [← hY]
    have HB7 := hid (bstep HB6.out hB)
    have k0 := cstep k0 hB; have k1 := cstep k1 hB
    have HX := hid (HX.out.mono hB); have HY := hid (HY.out.mono hB)
    have HP := hid (show w7.cell? ⟨w4.heap.size, 0, none⟩ = some (.int .i64 (payX B lv).1) ∧ w7.cell? ⟨w4.heap.size, 1, none⟩ = some (.int .i64 (payX B lv).2) from ⟨cstep HP.out.1 hB, cstep HP.out.2 hB⟩)
    clear hB hY
    go_wp2_with fail
    refine (H5.out _ HB7.out).mono ?_
    rintro e w8 ⟨co, cc, rfl, hu, _, hB⟩
    have HB8 := hid (bstep HB7.out hB)
    have k0 := cstep k0 hB; have k1 := cstep k1 hB
    have HX := hid (HX.out.mono hB); have HY := hid (HY.out.mono hB)
    have HP := hid (show w8.cell? ⟨w4.heap.size, 0, none⟩ = some (.int .i64 (payX B lv).1) ∧ w8.cell? ⟨w4.heap.size, 1, none⟩ = some (.int .i64 (payX B lv).2) from ⟨cstep HP.out.1 hB, cstep HP.out.2 hB⟩)
    have HQ := hid (show w8.cell? ⟨w6.heap.size, 0, none⟩ = some (.int .i64 (payX B lv).1) ∧ w8.cell? ⟨w6.heap.size, 1, none⟩ = some (.int .i64 (payX B lv).2) from ⟨cstep HQ.out.1 hB, cstep HQ.out.2 hB⟩)
    have HU := hid hu
    clear hu
    clear hB
    go_wp2_with fail
    refine (H6.out _ HB8.out).mono ?_
    rintro e w9 ⟨d_o, cd, rfl, hv, _, hB⟩
    have HB9 := hid (bstep HB8.out hB)
    have k0 := cstep k0 hB; have k1 := cstep k1 hB
    have HX := hid (HX.out.mono hB); have HY := hid (HY.out.mono hB)
    have HP := hid (show w9.cell? ⟨w4.heap.size, 0, none⟩ = some (.int .i64 (payX B lv).1) ∧ w9.cell? ⟨w4.heap.size, 1, none⟩ = some (.int .i64 (payX B lv).2) from ⟨cstep HP.out.1 hB, cstep HP.out.2 hB⟩)
    have HQ := hid (show w9.cell? ⟨w6.heap.size, 0, none⟩ = some (.int .i64 (payX B lv).1) ∧ w9.cell? ⟨w6.heap.size, 1, none⟩ = some (.int .i64 (payX B lv).2) from ⟨cstep HQ.out.1 hB, cstep HQ.out.2 hB⟩)
    have HU := hid (HU.out.mono hB)
    have HVv := hid hv
    clear hv
    clear hB
    have j0 := fun s : Later w9 => cstep k0 s.h
    have j1 := fun s : Later w9 => cstep k1 s.h
    have j2 := fun s : Later w9 => cstep HP.out.1 s.h
    have j3 := fun s : Later w9 => cstep HP.out.2 s.h
    have j4 := fun s : Later w9 => cstep HQ.out.1 s.h
    have j5 := fun s : Later w9 => cstep HQ.out.2 s.h
    have HLo := hid fun s : Later w9 => longs_c ao bo ca cb (waysX B lv) (waysX B lv) s.w' (HX.out.mono s.h) (HY.out.mono s.h) Hw.out
    have HTa := hid fun s : Later w9 => tables_c co d_o cc cd (backX B lv slot) (backX B lv slot) s.w' (HU.out.mono s.h) (HVv.out.mono s.h) Hk.out.1 Hk.out.2
    have H7b := hid fun s : Later w9 => H7.out s.w' (bstep HB9.out s.h)
    have H8b := hid fun s : Later w9 => H8.out s.w' (bstep HB9.out s.h)
    have HWb := hid fun s : Later w9 => HW.out s.w'
    unfold TellB at HLo HTa
    rw [decide_eq_true rfl] at HLo HTa
    go_upto_region 9 with (fail)
    refine wp_region_later (by kernel_rfl) (by kernel_rfl) ?_
    repeat (go_big_quiet_step ((first | (go_at_call 24; exact callsLater (H7b.out _)) | (go_at_call 25; exact callsLater (H8b.out _)) | (go_at_call 26; exact callsLater (HLo.out _)) | (go_at_call 27; exact callsLater (HTa.out _)) | (go_at_call 17; exact callsLater (HWb.out _)))))
    refine wpQuiet_nil ?_
    rintro w10 ⟨⟨_, hB⟩, rfl⟩
    have HB10 := hid (bstep HB9.out hB)
    clear hB j0 j1 j2 j3 j4 j5
    go_wp2
    go_ret
    exact ⟨rfl, bstep HB0.out HB10.out⟩
end

end Go.Proofs.Ytnnojhpioenhbaa
