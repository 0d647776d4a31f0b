/- The law PinsSpans. -/
import Derived.Test.YtnnojhpioenhbaaXLc
import Derived.Test.YtnnojhpioenhbaaKL
import Derived.Test.YtnnojhpioenhbaaKI
import Derived.Test.YtnnojhpioenhbaaKK
namespace Go.Proofs.Ytnnojhpioenhbaa
open Go.RowKit Go.Shelf

section
variable (pa : Option Addr) (pc : Nat) (ya : Option Addr) (yc : Nat) (la : Option Addr) (lc : Nat) (sa : Option Addr) (sc : Nat) (B : Bd) (R : Rd) (q : Int × Int) (lv : Int) (w : World)
set_option maxRecDepth 100000 in
set_option maxHeartbeats 8000000 in
theorem pinsSpans_c (hworks : WorksC) (hb : BdAt w pa ya B) (hr : RdAt w la sa R) : Calls Try.prog 6 #[.agg #[.slice pa B.pins.length pc, .slice ya B.pays.length yc], .agg #[.slice la R.plumbs.length lc, .slice sa R.slots.length sc], .agg #[.int .i64 q.1, .int .i64 q.2], .int .i64 lv] w (TellB w true) := by
  have HW := hid hworks
  obtain ⟨V, hV, hB0, k0, k1, k2, k3, k4, k5⟩ := box3 w (.slice pa B.pins.length pc) (.slice ya B.pays.length yc) (.slice la R.plumbs.length lc) (.slice sa R.slots.length sc) (.int .i64 q.1) (.int .i64 q.2) 25 51 32
  have hbV := hb.mono hB0
  have hrV := hr.mono hB0
  have HB0 := hid hB0; have HV := hid hV; have HV0 := hid (Below.refl V.heap.size V)
  have K0 := hid k0; have K1 := hid k1; have K2 := hid k2; have K3 := hid k3; have K4 := hid k4; have K5 := hid k5
  have HG := hid (great_c pa pc ya yc B V hbV)
  have HD := hid fun (w' : World) => wide_c la lc sa sc R w'
  unfold WorksC TellB at *
  cases hg : greatB B with
  | true =>
    rw [hg] at HG
    clear hworks hb hr hV hB0 hbV hrV hg HD
    go_enter Try.func6, Try.ntmps6
    go_upto_region 1 with (fail)
    rw [← HV.out]
    go_wp2_with fail
    refine (HG.out).mono ?_
    rintro e w1 ⟨rfl, hB⟩
    have HB1 := hid (bstep HV0.out hB)
    clear hB
    go_wp2_with fail
    refine (HW.out _).mono ?_
    rintro e w2 ⟨rfl, hB⟩
    have HB2 := hid (bstep HB1.out hB)
    clear hB
    go_wp2
    go_ret
    exact ⟨rfl, bstep HB0.out HB2.out⟩
  | false =>
    rw [hg] at HG
    cases hwd : wideB R with
    | true =>
      rw [hwd] at HD
      clear hworks hb hr hV hB0 hbV hrV hg hwd
      go_enter Try.func6, Try.ntmps6
      go_upto_region 1 with (fail)
      rw [← HV.out]
      go_wp2_with fail
      refine (HG.out).mono ?_
      rintro e w1 ⟨rfl, hB⟩
      have HB1 := hid (bstep HV0.out hB)
      have k2 := cstep k2 hB
      have k3 := cstep k3 hB
      clear hB
      go_wp2_with fail
      refine (HD.out _).mono ?_
      rintro e w2 ⟨rfl, hB⟩
      have HB2 := hid (bstep HB1.out hB)
      clear hB
      go_wp2_with fail
      refine (HW.out _).mono ?_
      rintro e w3 ⟨rfl, hB⟩
      have HB3 := hid (bstep HB2.out hB)
      clear hB
      go_wp2
      go_ret
      exact ⟨rfl, bstep HB0.out HB3.out⟩
    | false =>
    rw [hwd] at HD
    have hl := great_false hg
    have hl2 := wideB_lens hwd
    have H1 := hid fun (w' : World) (h : Below V.heap.size V w') => pSpan_c pa pc ya yc la lc sa sc B R w' (hbV.mono h) (hrV.mono h) (by omega) (by omega) (by omega) (by omega)
    have H2 := hid fun (w' : World) (h : Below V.heap.size V w') => rSpan_c pa pc ya yc la lc sa sc B R w' (hbV.mono h) (hrV.mono h) (by omega) (by omega) (by omega)
    have H3 := hid fun (w' : World) (h : Below V.heap.size V w') => pBroken_c pa pc ya yc la lc sa sc B R q w' (hbV.mono h) (hrV.mono h) (by omega) (by omega) (by omega) (by omega)
    have H4 := hid fun (w' : World) (h : Below V.heap.size V w') => rBroken_c pa pc ya yc la lc sa sc B R q w' (hbV.mono h) (hrV.mono h) (by omega) (by omega) (by omega)
    have H5 := hid fun (w' : World) (h : Below V.heap.size V w') => pCheckBroken_c pa pc ya yc la lc sa sc B R q lv w' (hbV.mono h) (hrV.mono h) (by omega) (by omega) (by omega) (by omega)
    have H6 := hid fun (w' : World) (h : Below V.heap.size V w') => rCheckBroken_c pa pc ya yc la lc sa sc B R q lv w' (hbV.mono h) (hrV.mono h) (by omega) (by omega) (by omega)
    unfold SpanE IntE TellI at *
    clear hworks hb hr hV hB0 hbV hrV hg hwd hl hl2
    go_enter Try.func6, Try.ntmps6
    go_upto_region 1 with (fail)
    rw [← HV.out]
    go_wp2_with fail
    refine (HG.out).mono ?_
    rintro e w1 ⟨rfl, hB⟩
    have HB1 := hid (bstep HV0.out hB)
    have k0 := cstep k0 hB
    have k1 := cstep k1 hB
    have k2 := cstep k2 hB
    have k3 := cstep k3 hB
    have k4 := cstep k4 hB
    have k5 := cstep k5 hB
    clear hB
    go_wp2_with fail
    refine (HD.out _).mono ?_
    rintro e w2 ⟨rfl, hB⟩
    have HB2 := hid (bstep HB1.out hB)
    have k0 := cstep k0 hB
    have k1 := cstep k1 hB
    have k2 := cstep k2 hB
    have k3 := cstep k3 hB
    have k4 := cstep k4 hB
    have k5 := cstep k5 hB
    clear hB
    go_wp2_with fail
    refine (H1.out _ HB2.out).mono ?_
    rintro e w3 ⟨rfl, hB⟩
    have HB3 := hid (bstep HB2.out hB)
    have k0 := cstep k0 hB
    have k1 := cstep k1 hB
    have k2 := cstep k2 hB
    have k3 := cstep k3 hB
    have k4 := cstep k4 hB
    have k5 := cstep k5 hB
    clear hB
    go_upto_region 4 with (fail)
    obtain ⟨w4, hY⟩ : ∃ y, y = ((w3.alloc (.cells #[.int .i64 (spanLo B R).1, .int .i64 (spanLo B R).2] 32)).alloc (.cells #[.int .i64 (spanHi B R).1, .int .i64 (spanHi B R).2] 32)) := ⟨_, rfl⟩
    have hB : Below w3.heap.size w3 w4 := by rw [hY]; exact bstep (bnew _ _) (bnew _ _)
    have QA := hid (show Q2 w4 (w3.heap.size) (spanLo B R).1 (spanLo B R).2 by rw [hY]; constructor <;> simp [go_sem])
    have QB := hid (show Q2 w4 (w3.heap.size + 1) (spanHi B R).1 (spanHi B R).2 by rw [hY]; constructor <;> simp [go_sem])
    rw [← hY]
    obtain ⟨qa, hqa⟩ : ∃ q, q = w3.heap.size := ⟨_, rfl⟩
    obtain ⟨qb, hqb⟩ : ∃ q, q = w3.heap.size + 1 := ⟨_, rfl⟩
    rw [← hqb] at QB ⊢
    rw [← hqa] at QA ⊢
    clear hY hqa hqb
    have HB4 := hid (bstep HB3.out hB)
    have k0 := cstep k0 hB
    have k1 := cstep k1 hB
    have k2 := cstep k2 hB
    have k3 := cstep k3 hB
    have k4 := cstep k4 hB
    have k5 := cstep k5 hB
    clear hB
    go_wp2_with fail
    refine (H2.out _ HB4.out).mono ?_
    rintro e w5 ⟨rfl, hB⟩
    have HB5 := hid (bstep HB4.out hB)
    have k0 := cstep k0 hB
    have k1 := cstep k1 hB
    have k2 := cstep k2 hB
    have k3 := cstep k3 hB
    have k4 := cstep k4 hB
    have k5 := cstep k5 hB
    have QA := hid (QA.out.mono hB)
    have QB := hid (QB.out.mono hB)
    clear hB
    go_upto_region 5 with (fail)
    obtain ⟨w6, hY⟩ : ∃ y, y = ((w5.alloc (.cells #[.int .i64 (spanLo B R).1, .int .i64 (spanLo B R).2] 32)).alloc (.cells #[.int .i64 (spanHi B R).1, .int .i64 (spanHi B R).2] 32)) := ⟨_, rfl⟩
    have hB : Below w5.heap.size w5 w6 := by rw [hY]; exact bstep (bnew _ _) (bnew _ _)
    have QC := hid (show Q2 w6 (w5.heap.size) (spanLo B R).1 (spanLo B R).2 by rw [hY]; constructor <;> simp [go_sem])
    have QD := hid (show Q2 w6 (w5.heap.size + 1) (spanHi B R).1 (spanHi B R).2 by rw [hY]; constructor <;> simp [go_sem])
    rw [← hY]
    obtain ⟨qc, hqc⟩ : ∃ q, q = w5.heap.size := ⟨_, rfl⟩
    obtain ⟨qd, hqd⟩ : ∃ q, q = w5.heap.size + 1 := ⟨_, rfl⟩
    rw [← hqd] at QD ⊢
    rw [← hqc] at QC ⊢
    clear hY hqc hqd
    have HB6 := hid (bstep HB5.out hB)
    have k0 := cstep k0 hB
    have k1 := cstep k1 hB
    have k2 := cstep k2 hB
    have k3 := cstep k3 hB
    have k4 := cstep k4 hB
    have k5 := cstep k5 hB
    have QA := hid (QA.out.mono hB)
    have QB := hid (QB.out.mono hB)
    clear hB
    go_wp2_with fail
    refine (H3.out _ HB6.out).mono ?_
    rintro e w7 ⟨rfl, hB⟩
    have HB7 := hid (bstep HB6.out hB)
    have k0 := cstep k0 hB
    have k1 := cstep k1 hB
    have k2 := cstep k2 hB
    have k3 := cstep k3 hB
    have k4 := cstep k4 hB
    have k5 := cstep k5 hB
    have QA := hid (QA.out.mono hB)
    have QB := hid (QB.out.mono hB)
    have QC := hid (QC.out.mono hB)
    have QD := hid (QD.out.mono hB)
    clear hB
    go_wp2_with fail
    refine (H4.out _ HB7.out).mono ?_
    rintro e w8 ⟨rfl, hB⟩
    have HB8 := hid (bstep HB7.out hB)
    have k0 := cstep k0 hB
    have k1 := cstep k1 hB
    have k2 := cstep k2 hB
    have k3 := cstep k3 hB
    have k4 := cstep k4 hB
    have k5 := cstep k5 hB
    have QA := hid (QA.out.mono hB)
    have QB := hid (QB.out.mono hB)
    have QC := hid (QC.out.mono hB)
    have QD := hid (QD.out.mono hB)
    clear hB
    have jk0 := fun s : Later w8 => cstep k0 s.h
    have jk1 := fun s : Later w8 => cstep k1 s.h
    have jk2 := fun s : Later w8 => cstep k2 s.h
    have jk3 := fun s : Later w8 => cstep k3 s.h
    have jk4 := fun s : Later w8 => cstep k4 s.h
    have jk5 := fun s : Later w8 => cstep k5 s.h
    have jQAa := fun s : Later w8 => cstep QA.out.1 s.h
    have jQAb := fun s : Later w8 => cstep QA.out.2 s.h
    have jQBa := fun s : Later w8 => cstep QB.out.1 s.h
    have jQBb := fun s : Later w8 => cstep QB.out.2 s.h
    have jQCa := fun s : Later w8 => cstep QC.out.1 s.h
    have jQCb := fun s : Later w8 => cstep QC.out.2 s.h
    have jQDa := fun s : Later w8 => cstep QD.out.1 s.h
    have jQDb := fun s : Later w8 => cstep QD.out.2 s.h
    have HWb := hid fun s : Later w8 => HW.out s.w'
    have H5b := hid fun s : Later w8 => H5.out s.w' (bstep HB8.out s.h)
    have H6b := hid fun s : Later w8 => H6.out s.w' (bstep HB8.out s.h)
    go_upto_region 7 with (fail)
    refine wp_region_later (by kernel_rfl) (by kernel_rfl) ?_
    repeat (go_big_quiet_step ((first | (go_at_call 17; with_reducible exact callsLater (HWb.out _)) | (go_at_call 46; with_reducible exact callsLater (H5b.out _)) | (go_at_call 47; with_reducible exact callsLater (H6b.out _)))))
    refine wpQuiet_nil ?_
    rintro w9 ⟨⟨_, hB⟩, rfl⟩
    clear jk0 jk1 jk2 jk3 jk4 jk5 jQAa jQAb jQBa jQBb jQCa jQCb jQDa jQDb HWb H5b H6b
    have HB9 := hid (bstep HB8.out hB)
    have k0 := cstep k0 hB
    have k1 := cstep k1 hB
    have k2 := cstep k2 hB
    have k3 := cstep k3 hB
    have k4 := cstep k4 hB
    have k5 := cstep k5 hB
    have QA := hid (QA.out.mono hB)
    have QB := hid (QB.out.mono hB)
    have QC := hid (QC.out.mono hB)
    have QD := hid (QD.out.mono hB)
    clear hB
    go_wp2
    go_ret
    exact ⟨rfl, bstep HB0.out HB9.out⟩
end

end Go.Proofs.Ytnnojhpioenhbaa
