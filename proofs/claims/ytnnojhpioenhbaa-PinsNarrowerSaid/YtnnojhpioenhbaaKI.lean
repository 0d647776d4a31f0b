/- Fractions whose products do not run over: less, of the program and of the reference. Walks of the reference: Promised, Breaks, CheckBroken. Walk of the reference: Broken. Boxes of fractions. Walk of the reference: Span. Walk: best, of fractions. -/
import Derived.Test.YtnnojhpioenhbaaKG
import Derived.Test.YtnnojhpioenhbaaKF
import Derived.Test.YtnnojhpioenhbaaKH
namespace Go.Proofs.Ytnnojhpioenhbaa
open Go.RowKit Go.Shelf

theorem wrap_i64_full {a : Int} (h0 : 0 ≤ a) (h : a ≤ 9223372036854775807) : IntKind.i64.wrap a = a := by
  rw [IntKind.wrap_i64]
  omega
/-- a pay, or a promise -/
structure FitQ (x : Int × Int) : Prop where
  n0 : 0 ≤ x.1
  n1 : x.1 ≤ 50000000000
  d0 : 1 ≤ x.2
  d1 : x.2 ≤ 100000000
theorem FitQ.mul {x y : Int × Int} (hx : FitQ x) (hy : FitQ y) : 0 ≤ x.1 * y.2 ∧ x.1 * y.2 ≤ 5000000000000000000 := by
  refine ⟨Int.mul_nonneg hx.n0 (by have := hy.d0; omega), ?_⟩
  exact Int.le_trans (Int.mul_le_mul_of_nonneg_left hy.d1 hx.n0) (by have := hx.n1; omega)
theorem payQ_fit {B : Bd} (hB : Bok B) (lv : Int) (hlv : -5 ≤ lv ∧ lv ≤ 5) : FitQ (payQ B lv) ∧ (payQ B lv).1 ≤ 500 * (payQ B lv).2 := by
  have _ := hlv
  have h1 := paySum_le hB lv (k := B.pins.length + 1) (Nat.le_refl _)
  have h2 := ten_le hB.n8
  have h3 : (0 : Int) < 10 ^ B.pins.length := Int.pow_pos (by omega)
  have hN : payN B lv = sumTo (fun i => W (Rt B lv) B.pins.length i * nth B.pays i) (B.pins.length + 1) := rfl
  have hQ : payQ B lv = lst (payN B lv) (10 ^ B.pins.length) := rfl
  rw [← hN] at h1
  have h4 := lst_num_le (n := payN B lv) (c := 500) h3 h1.2
  have h5 := lst_den_le (n := payN B lv) h3
  have h6 := lst_pos (n := payN B lv) h3
  have h7 := lst_nonneg (n := payN B lv) (d := 10 ^ B.pins.length) h1.1
  rw [← hQ] at h4 h5 h6 h7
  exact ⟨⟨h7, by omega, by omega, by omega⟩, h4⟩

section
variable (x y : Int × Int) (w : World)
set_option maxRecDepth 100000 in
theorem lessQ_c (hx : FitQ x) (hy : FitQ y) :
    Calls Try.prog 94 #[.agg #[.int .i64 x.1, .int .i64 x.2], .agg #[.int .i64 y.1, .int .i64 y.2]] w (TellB w (lessQ x y)) := by
  have m1 := hx.mul hy
  have m2 := hy.mul hx
  obtain ⟨a, b⟩ := x
  obtain ⟨c, d⟩ := y
  simp only at m1 m2
  have e1 : IntKind.i64.wrap (a * d) = a * d := wrap_i64_full (by omega) (by omega)
  have e2 : IntKind.i64.wrap (c * b) = c * b := wrap_i64_full (by omega) (by omega)
  have HE := hid (show lessQ (a, b) (c, d) = decide (a * d < c * b) from rfl)
  have HB := hid (bstep (bnew w (.cells #[.int .i64 a, .int .i64 b] 32)) (bnew _ (.cells #[.int .i64 c, .int .i64 d] 32)))
  unfold TellB
  clear hx hy m1 m2
  go_enter Try.func94, Try.ntmps94
  go_wp2
  go_ret
  exact ⟨ret_bool (by rw [HE.out]), HB.out⟩
set_option maxRecDepth 100000 in
theorem moreQ_c (hx : FitQ x) (hy : FitQ y) :
    Calls Try.prog 93 #[.agg #[.int .i64 x.1, .int .i64 x.2], .agg #[.int .i64 y.1, .int .i64 y.2]] w (TellB w (lessQ y x)) := by
  have HB := hid (bstep (bnew w (.cells #[.int .i64 x.1, .int .i64 x.2] 32)) (bnew _ (.cells #[.int .i64 y.1, .int .i64 y.2] 32)))
  have HL := hid fun (w' : World) => lessQ_c y x w' hy hx
  unfold TellB at *
  obtain ⟨v, hv⟩ : ∃ v, v = lessQ y x := ⟨_, rfl⟩
  rw [← hv] at HL ⊢
  clear hx hy hv
  go_enter Try.func93, Try.ntmps93
  go_wp2_with fail
  refine (HL.out _).mono ?_
  rintro e w1 ⟨rfl, hB⟩
  have HB1 := hid (bstep HB.out hB)
  clear hB
  go_wp2
  go_ret
  exact ⟨rfl, HB1.out⟩
theorem rLessQ_c (hx : FitQ x) (hy : FitQ y) :
    Calls Try.prog 96 #[.agg #[.int .i64 x.1, .int .i64 x.2], .agg #[.int .i64 y.1, .int .i64 y.2]] w (TellB w (lessQ x y)) := by
  have m1 := hx.mul hy
  have m2 := hy.mul hx
  exact rLess_c x.1 x.2 y.1 y.2 w (wrap_i64_full (by omega) (by omega)) (wrap_i64_full (by omega) (by omega))
end

/-- a promise that is one -/
def promB (q : Int × Int) : Bool := (decide (0 ≤ q.1) && decide (q.1 ≤ 1000000)) && (decide (1 ≤ q.2) && decide (q.2 ≤ 1000000))
def promErr (B : Bd) (R : Rd) (q : Int × Int) : Int := if readErr B R = 0 then (if promB q = true then 0 else 3) else readErr B R
theorem promB_fit {q : Int × Int} (h : promB q = true) : FitQ q := by
  simp only [promB, Bool.and_eq_true, decide_eq_true_eq] at h
  exact ⟨by omega, by omega, by omega, by omega⟩
def brB (B : Bd) (R : Rd) (q : Int × Int) (lv : Int) : Bool := okL B R lv && lessQ (payQ B lv) q
def cbErr (B : Bd) (R : Rd) (q : Int × Int) (lv : Int) : Int := if promErr B R q = 0 then (if within (-5) 5 [lv] = true then (if brB B R q lv = true then 0 else 16) else 2) else promErr B R q

section
variable (pa : Option Addr) (pc : Nat) (ya : Option Addr) (yc : Nat) (la : Option Addr) (lc : Nat) (sa : Option Addr) (sc : Nat) (B : Bd) (R : Rd) (q : Int × Int) (lv : Int) (w : World)
set_option maxRecDepth 100000 in
set_option maxHeartbeats 2000000 in
theorem rPromised_c (hb : BdAt w pa ya B) (hr : RdAt w la sa R) (hl : B.pins.length ≤ 1000000) (hP : R.plumbs.length ≤ 1000000) (hS : R.slots.length ≤ 1000000) :
    Calls Try.prog 98 #[.agg #[.slice pa B.pins.length pc, .slice ya B.pays.length yc], .agg #[.slice la R.plumbs.length lc, .slice sa R.slots.length sc], .agg #[.int .i64 q.1, .int .i64 q.2]] w (TellI w (promErr B R q)) := by
  obtain ⟨V, hV, hB0, k0, k1, k2, k3, k4, k5⟩ := box3 w (.slice pa B.pins.length pc) (.slice ya B.pays.length yc) (.slice la R.plumbs.length lc) (.slice sa R.slots.length sc) (.int .i64 q.1) (.int .i64 q.2) 25 51 32
  have hbV := hb.mono hB0
  have hrV := hr.mono hB0
  have HB0 := hid hB0; have HV := hid hV; have HV0 := hid (Below.refl V.heap.size V)
  have K0 := hid k0; have K1 := hid k1; have K2 := hid k2; have K3 := hid k3; have K4 := hid k4; have K5 := hid k5
  have HC := hid fun (w' : World) (h : Below V.heap.size V w') => rCheckReadings_c pa pc ya yc la lc sa sc B R w' (hbV.mono h) (hrV.mono h) hl hP hS
  have hE : promErr B R q = if readErr B R = 0 then (if promB q = true then 0 else 3) else readErr B R := rfl
  have hQ : promB q = ((decide (0 ≤ q.1) && decide (q.1 ≤ 1000000)) && (decide (1 ≤ q.2) && decide (q.2 ≤ 1000000))) := rfl
  unfold TellI at HC ⊢
  by_cases h0 : readErr B R = 0
  case neg =>
    rw [if_neg h0] at hE
    rw [hE]
    obtain ⟨v, hv⟩ : ∃ v, v = readErr B R := ⟨_, rfl⟩
    rw [← hv] at HC h0 ⊢
    clear hE hv hb hr hl hP hS hV hB0 hbV hrV hQ
    go_enter Try.func98, Try.ntmps98
    go_upto_region 1 with (fail)
    rw [← HV.out]
    go_wp2_with fail
    refine (HC.out _ HV0.out).mono ?_
    rintro e w1 ⟨rfl, hB⟩
    have HB1 := hid (bstep HV0.out hB)
    have k0 := cstep k0 hB
    have k1 := cstep k1 hB
    have k2 := cstep k2 hB
    have k3 := cstep k3 hB
    clear hB
    go_wp2_with fail
    refine (HC.out _ HB1.out).mono ?_
    rintro e w2 ⟨rfl, hB⟩
    have HB2 := hid (bstep HB1.out hB)
    clear hB
    go_wp2
    go_ret
    exact ⟨rfl, bstep HB0.out HB2.out⟩
  case pos =>
    rw [if_pos h0] at hE
    rw [h0] at HC
    obtain ⟨n, d⟩ := q
    simp only at hQ k4 k5 HV
    clear hb hr hl hP hS hV hB0 hbV hrV h0
    by_cases h1 : n < 0
    · rw [hQ, decide_eq_false (show ¬ 0 ≤ n by omega)] at hE
      rw [hE]
      clear hE hQ
      go_enter Try.func98, Try.ntmps98
      go_upto_region 1 with (fail)
      rw [← HV.out]
      go_wp2_with fail
      refine (HC.out _ HV0.out).mono ?_
      rintro e w1 ⟨rfl, hB⟩
      have HB1 := hid (bstep HV0.out hB)
      have k4 := cstep k4 hB
      have k5 := cstep k5 hB
      clear hB
      go_wp2
      go_ret
      exact ⟨rfl, bstep HB0.out HB1.out⟩
    · by_cases h2 : 1000000 < n
      · rw [hQ, decide_eq_false (show ¬ n ≤ 1000000 by omega), Bool.and_false, Bool.false_and] at hE
        rw [hE]
        clear hE hQ
        go_enter Try.func98, Try.ntmps98
        go_upto_region 1 with (fail)
        rw [← HV.out]
        go_wp2_with fail
        refine (HC.out _ HV0.out).mono ?_
        rintro e w1 ⟨rfl, hB⟩
        have HB1 := hid (bstep HV0.out hB)
        have k4 := cstep k4 hB
        have k5 := cstep k5 hB
        clear hB
        go_wp2
        go_ret
        exact ⟨rfl, bstep HB0.out HB1.out⟩
      · by_cases h3 : d < 1
        · rw [hQ, decide_eq_false (show ¬ 1 ≤ d by omega), Bool.false_and, Bool.and_false] at hE
          rw [hE]
          clear hE hQ
          go_enter Try.func98, Try.ntmps98
          go_upto_region 1 with (fail)
          rw [← HV.out]
          go_wp2_with fail
          refine (HC.out _ HV0.out).mono ?_
          rintro e w1 ⟨rfl, hB⟩
          have HB1 := hid (bstep HV0.out hB)
          have k4 := cstep k4 hB
          have k5 := cstep k5 hB
          clear hB
          go_wp2
          go_ret
          exact ⟨rfl, bstep HB0.out HB1.out⟩
        · by_cases h4 : 1000000 < d
          · rw [hQ, decide_eq_false (show ¬ d ≤ 1000000 by omega), Bool.and_false, Bool.and_false] at hE
            rw [hE]
            clear hE hQ
            go_enter Try.func98, Try.ntmps98
            go_upto_region 1 with (fail)
            rw [← HV.out]
            go_wp2_with fail
            refine (HC.out _ HV0.out).mono ?_
            rintro e w1 ⟨rfl, hB⟩
            have HB1 := hid (bstep HV0.out hB)
            have k4 := cstep k4 hB
            have k5 := cstep k5 hB
            clear hB
            go_wp2
            go_ret
            exact ⟨rfl, bstep HB0.out HB1.out⟩
          · rw [hQ, decide_eq_true (show 0 ≤ n by omega), decide_eq_true (show n ≤ 1000000 by omega), decide_eq_true (show 1 ≤ d by omega), decide_eq_true (show d ≤ 1000000 by omega)] at hE
            rw [hE]
            clear hE hQ
            go_enter Try.func98, Try.ntmps98
            go_upto_region 1 with (fail)
            rw [← HV.out]
            go_wp2_with fail
            refine (HC.out _ HV0.out).mono ?_
            rintro e w1 ⟨rfl, hB⟩
            have HB1 := hid (bstep HV0.out hB)
            have k4 := cstep k4 hB
            have k5 := cstep k5 hB
            clear hB
            go_wp2
            go_ret
            exact ⟨rfl, bstep HB0.out HB1.out⟩

set_option maxRecDepth 100000 in
set_option maxHeartbeats 2000000 in
theorem rBreaks_c (hb : BdAt w pa ya B) (hr : RdAt w la sa R) (hB : Bok B) (hR : Rok2 B R) (hlv : -5 ≤ lv ∧ lv ≤ 5) (hq : FitQ q) :
    Calls Try.prog 99 #[.agg #[.slice pa B.pins.length pc, .slice ya B.pays.length yc], .agg #[.slice la R.plumbs.length lc, .slice sa R.slots.length sc], .agg #[.int .i64 q.1, .int .i64 q.2], .int .i64 lv] w (TellB w (brB B R q lv)) := by
  obtain ⟨V, hV, hB0, k0, k1, k2, k3, k4, k5⟩ := box3 w (.slice pa B.pins.length pc) (.slice ya B.pays.length yc) (.slice la R.plumbs.length lc) (.slice sa R.slots.length sc) (.int .i64 q.1) (.int .i64 q.2) 25 51 32
  have hbV := hb.mono hB0
  have hrV := hr.mono hB0
  have HB0 := hid hB0; have HV := hid hV; have HV0 := hid (Below.refl V.heap.size V)
  have K0 := hid k0; have K1 := hid k1; have K2 := hid k2; have K3 := hid k3; have K4 := hid k4; have K5 := hid k5
  have j0 := fun s : Later V => cstep k0 s.h
  have j1 := fun s : Later V => cstep k1 s.h
  have j2 := fun s : Later V => cstep k2 s.h
  have j3 := fun s : Later V => cstep k3 s.h
  have j4 := fun s : Later V => cstep k4 s.h
  have j5 := fun s : Later V => cstep k5 s.h
  have HM := hid fun s : Later V => rMany_c la lc sa sc R s.w' (by have := hR.m; omega)
  have HA := hid fun s : Later V => rFirst_c pa pc ya yc la lc sa sc B R lv s.w' (hbV.mono s.h) (hrV.mono s.h) hB hlv hR
  have HP := hid fun s : Later V => payOf_c pa pc ya yc B lv s.w' (hbV.mono s.h) hB hlv
  have HL := hid fun s : Later V => rLessQ_c (payQ B lv) q s.w' (payQ_fit hB lv hlv).1 hq
  unfold TellI at HM HA
  unfold TellB at HL ⊢
  have hF : brB B R q lv = (decide (firstR B R lv = manyN R) && lessQ (payQ B lv) q) := rfl
  obtain ⟨f, hf⟩ : ∃ f, f = firstR B R lv := ⟨_, rfl⟩
  obtain ⟨m, hm⟩ : ∃ m, m = manyN R := ⟨_, rfl⟩
  obtain ⟨p, hp⟩ : ∃ p, p = payQ B lv := ⟨_, rfl⟩
  rw [← hf] at HA hF
  rw [← hm] at HM hF
  rw [← hp] at HP HL hF
  obtain ⟨l, hl⟩ : ∃ l, l = lessQ p q := ⟨_, rfl⟩
  rw [← hl] at HL hF
  rw [hF]
  clear hF hf hm hp hl hb hr hB hR hlv hq hV hB0 hbV hrV k0 k1 k2 k3 k4 k5
  by_cases h : f = m
  · rw [decide_eq_true h, Bool.true_and]
    have hI : (f : Int) = (m : Int) := by omega
    clear h
    go_enter Try.func99, Try.ntmps99
    go_upto_region 1 with (fail)
    rw [← HV.out]
    refine wp_region_later (by kernel_rfl) (by kernel_rfl) ?_
    repeat (go_big_quiet_step ((first | (go_at_call 50; exact callsLater (HA.out _)) | (go_at_call 51; exact callsLater (HM.out _)) | (go_at_call 71; exact callsLater (HP.out _)) | (go_at_call 96; exact callsLater (HL.out _)))))
    refine wpQuiet_nil ?_
    rintro w2 ⟨⟨_, hB2⟩, rfl⟩
    go_wp2
    go_ret
    exact ⟨rfl, bstep HB0.out hB2⟩
  · rw [decide_eq_false h, Bool.false_and]
    have hI : ((f : Int) == (m : Int)) = false := beq_false_of_ne (by omega)
    clear h
    go_enter Try.func99, Try.ntmps99
    go_upto_region 1 with (fail)
    rw [← HV.out]
    refine wp_region_later (by kernel_rfl) (by kernel_rfl) ?_
    repeat (go_big_quiet_step ((first | (go_at_call 50; exact callsLater (HA.out _)) | (go_at_call 51; exact callsLater (HM.out _)) | (go_at_call 71; exact callsLater (HP.out _)) | (go_at_call 96; exact callsLater (HL.out _)))))
    refine wpQuiet_nil ?_
    rintro w2 ⟨⟨_, hB2⟩, rfl⟩
    go_wp2
    go_ret
    exact ⟨rfl, bstep HB0.out hB2⟩

set_option maxRecDepth 100000 in
set_option maxHeartbeats 2000000 in
theorem rCheckBroken_c (hb : BdAt w pa ya B) (hr : RdAt w la sa R) (hl : B.pins.length ≤ 1000000) (hP : R.plumbs.length ≤ 1000000) (hS : R.slots.length ≤ 1000000) :
    Calls Try.prog 47 #[.agg #[.slice pa B.pins.length pc, .slice ya B.pays.length yc], .agg #[.slice la R.plumbs.length lc, .slice sa R.slots.length sc], .agg #[.int .i64 q.1, .int .i64 q.2], .int .i64 lv] w (TellI w (cbErr B R q lv)) := by
  obtain ⟨V, hV, hB0, k0, k1, k2, k3, k4, k5⟩ := box3 w (.slice pa B.pins.length pc) (.slice ya B.pays.length yc) (.slice la R.plumbs.length lc) (.slice sa R.slots.length sc) (.int .i64 q.1) (.int .i64 q.2) 25 51 32
  have hbV := hb.mono hB0
  have hrV := hr.mono hB0
  have HB0 := hid hB0; have HV := hid hV; have HV0 := hid (Below.refl V.heap.size V)
  have K0 := hid k0; have K1 := hid k1; have K2 := hid k2; have K3 := hid k3; have K4 := hid k4; have K5 := hid k5
  have HC := hid fun (w' : World) (h : Below V.heap.size V w') => rPromised_c pa pc ya yc la lc sa sc B R q w' (hbV.mono h) (hrV.mono h) hl hP hS
  have hE : cbErr B R q lv = if promErr B R q = 0 then (if within (-5) 5 [lv] = true then (if brB B R q lv = true then 0 else 16) else 2) else promErr B R q := rfl
  have HL := hid fun (w' : World) => isLevel_c lv w'
  unfold TellI at HC ⊢
  by_cases h0 : promErr B R q = 0
  case neg =>
    rw [if_neg h0] at hE
    rw [hE]
    obtain ⟨v, hv⟩ : ∃ v, v = promErr B R q := ⟨_, rfl⟩
    rw [← hv] at HC h0 ⊢
    clear hE hv hb hr hl hP hS hV hB0 hbV hrV
    go_enter Try.func47, Try.ntmps47
    go_upto_region 1 with (fail)
    rw [← HV.out]
    go_wp2_with fail
    refine (HC.out _ HV0.out).mono ?_
    rintro e w1 ⟨rfl, hB⟩
    have HB1 := hid (bstep HV0.out hB)
    have k0 := cstep k0 hB
    have k1 := cstep k1 hB
    have k2 := cstep k2 hB
    have k3 := cstep k3 hB
    have k4 := cstep k4 hB
    have k5 := cstep k5 hB
    clear hB
    go_wp2_with fail
    refine (HC.out _ HB1.out).mono ?_
    rintro e w2 ⟨rfl, hB⟩
    have HB2 := hid (bstep HB1.out hB)
    clear hB
    go_wp2
    go_ret
    exact ⟨rfl, bstep HB0.out HB2.out⟩
  case pos =>
    rw [if_pos h0] at hE
    have hr0 : readErr B R = 0 ∧ promB q = true := by
      have h1 : promErr B R q = if readErr B R = 0 then (if promB q = true then 0 else 3) else readErr B R := rfl
      rw [h0] at h1
      by_cases h2 : readErr B R = 0
      · rw [if_pos h2] at h1
        by_cases h3 : promB q = true
        · exact ⟨h2, h3⟩
        · rw [if_neg h3] at h1; omega
      · rw [if_neg h2] at h1; exact absurd h1.symm h2
    obtain ⟨hBk, hRk⟩ := readErr_zero.1 hr0.1
    rw [h0] at HC
    by_cases hw : within (-5) 5 [lv] = true
    case neg =>
      rw [if_neg hw] at hE
      rw [hE]
      have hwf : within (-5) 5 [lv] = false := by simpa using hw
      rw [hwf] at HL
      clear hE hb hr hl hP hS hV hB0 hbV hrV hw hwf hBk hRk h0 hr0
      go_enter Try.func47, Try.ntmps47
      go_upto_region 1 with (fail)
      rw [← HV.out]
      go_wp2_with fail
      refine (HC.out _ HV0.out).mono ?_
      rintro e w1 ⟨rfl, hB⟩
      have HB1 := hid (bstep HV0.out hB)
      have k0 := cstep k0 hB
      have k1 := cstep k1 hB
      have k2 := cstep k2 hB
      have k3 := cstep k3 hB
      have k4 := cstep k4 hB
      have k5 := cstep k5 hB
      clear hB
      go_wp2_with fail
      refine (HL.out _).mono ?_
      rintro e w2 ⟨rfl, rfl⟩
      go_wp2
      go_ret
      exact ⟨rfl, bstep HB0.out HB1.out⟩
    case pos =>
      rw [if_pos hw] at hE
      have HK := hid fun (w' : World) (h : Below V.heap.size V w') => rBreaks_c pa pc ya yc la lc sa sc B R q lv w' (hbV.mono h) (hrV.mono h) hBk hRk (within_one.1 hw) (promB_fit hr0.2)
      unfold TellB at HK
      rw [hw] at HL
      rw [hE]
      obtain ⟨v, hv⟩ : ∃ v, v = brB B R q lv := ⟨_, rfl⟩
      rw [← hv] at HK ⊢
      clear hE hb hr hl hP hS hV hB0 hbV hrV hw hBk hRk h0 hr0 hv
      cases v with
      | true =>
        rw [if_pos rfl]
        go_enter Try.func47, Try.ntmps47
        go_upto_region 1 with (fail)
        rw [← HV.out]
        go_wp2_with fail
        refine (HC.out _ HV0.out).mono ?_
        rintro e w1 ⟨rfl, hB⟩
        have HB1 := hid (bstep HV0.out hB)
        have k0 := cstep k0 hB
        have k1 := cstep k1 hB
        have k2 := cstep k2 hB
        have k3 := cstep k3 hB
        have k4 := cstep k4 hB
        have k5 := cstep k5 hB
        clear hB
        go_wp2_with fail
        refine (HL.out _).mono ?_
        rintro e w2 ⟨rfl, rfl⟩
        go_wp2_with fail
        refine (HK.out _ HB1.out).mono ?_
        rintro e w3 ⟨rfl, hB⟩
        have HB3 := hid (bstep HB1.out hB)
        clear hB
        go_wp2
        go_ret
        exact ⟨rfl, bstep HB0.out HB3.out⟩
      | false =>
        rw [if_neg (by simp)]
        go_enter Try.func47, Try.ntmps47
        go_upto_region 1 with (fail)
        rw [← HV.out]
        go_wp2_with fail
        refine (HC.out _ HV0.out).mono ?_
        rintro e w1 ⟨rfl, hB⟩
        have HB1 := hid (bstep HV0.out hB)
        have k0 := cstep k0 hB
        have k1 := cstep k1 hB
        have k2 := cstep k2 hB
        have k3 := cstep k3 hB
        have k4 := cstep k4 hB
        have k5 := cstep k5 hB
        clear hB
        go_wp2_with fail
        refine (HL.out _).mono ?_
        rintro e w2 ⟨rfl, rfl⟩
        go_wp2_with fail
        refine (HK.out _ HB1.out).mono ?_
        rintro e w3 ⟨rfl, hB⟩
        have HB3 := hid (bstep HB1.out hB)
        clear hB
        go_wp2
        go_ret
        exact ⟨rfl, bstep HB0.out HB3.out⟩
end

end Go.Proofs.Ytnnojhpioenhbaa

namespace Go.Proofs.Ytnnojhpioenhbaa
open Go.RowKit Go.Shelf

/-- the first level of a list of which p holds -/
theorem find_at {p : Int → Bool} {l : List Int} {k : Nat} (hk : k < l.length) (h : allTo (fun j => !p (nth l j)) k = true) (h2 : p (nth l k) = true) : l.find? p = some (nth l k) := by
  rw [nth_eq hk] at h2 ⊢
  rw [List.find?_eq_some_iff_getElem]
  refine ⟨h2, k, hk, rfl, fun j hj => ?_⟩
  have := allTo_iff.1 h j hj
  rwa [nth_eq (by omega)] at this
theorem find_none {p : Int → Bool} {l : List Int} (h : allTo (fun j => !p (nth l j)) l.length = true) : l.find? p = none := by
  rw [List.find?_eq_none]
  intro x hx
  obtain ⟨j, hj, rfl⟩ := List.getElem_of_mem hx
  have := allTo_iff.1 h j hj
  rw [nth_eq hj] at this
  simpa using this
def broErr (B : Bd) (R : Rd) (q : Int × Int) : Int :=
  if promErr B R q = 0 then (if levelsL B R = [] then 18 else if (levelsL B R).find? (brB B R q) = none then 5 else 0) else promErr B R q
def broX (B : Bd) (R : Rd) (q : Int × Int) : Int := if promErr B R q = 0 then ((levelsL B R).find? (brB B R q)).getD 0 else 0
theorem promErr_zero {B : Bd} {R : Rd} {q : Int × Int} (h0 : promErr B R q = 0) : readErr B R = 0 ∧ promB q = true := by
  have h1 : promErr B R q = if readErr B R = 0 then (if promB q = true then 0 else 3) else readErr B R := rfl
  rw [h0] at h1
  by_cases h2 : readErr B R = 0
  · rw [if_pos h2] at h1
    by_cases h3 : promB q = true
    · exact ⟨h2, h3⟩
    · rw [if_neg h3] at h1; omega
  · rw [if_neg h2] at h1; exact absurd h1.symm h2
theorem levelsL_at {B : Bd} {R : Rd} {k : Nat} (hk : k < (levelsL B R).length) : (-5 ≤ nth (levelsL B R) k ∧ nth (levelsL B R) k ≤ 5) ∧ okL B R (nth (levelsL B R) k) = true := by
  have := (lvlK_mem (okL B R) 11 (nth (levelsL B R) k)).1 (nth_mem hk)
  exact ⟨⟨this.1.1, by have := this.1.2; omega⟩, this.2⟩

section
variable (pa : Option Addr) (pc : Nat) (ya : Option Addr) (yc : Nat) (la : Option Addr) (lc : Nat) (sa : Option Addr) (sc : Nat) (B : Bd) (R : Rd) (q : Int × Int) (w : World)
set_option maxRecDepth 100000 in
set_option maxHeartbeats 2000000 in
theorem rBroken_c (hb : BdAt w pa ya B) (hr : RdAt w la sa R) (hl : B.pins.length ≤ 1000000) (hP : R.plumbs.length ≤ 1000000) (hS : R.slots.length ≤ 1000000) :
    Calls Try.prog 45 #[.agg #[.slice pa B.pins.length pc, .slice ya B.pays.length yc], .agg #[.slice la R.plumbs.length lc, .slice sa R.slots.length sc], .agg #[.int .i64 q.1, .int .i64 q.2]] w (IntE w (broErr B R q) (broX B R q)) := by
  obtain ⟨V, hV, hB0, k0, k1, k2, k3, k4, k5⟩ := box3 w (.slice pa B.pins.length pc) (.slice ya B.pays.length yc) (.slice la R.plumbs.length lc) (.slice sa R.slots.length sc) (.int .i64 q.1) (.int .i64 q.2) 25 51 32
  have hbV := hb.mono hB0
  have hrV := hr.mono hB0
  have HB0 := hid hB0; have HV := hid hV; have HV0 := hid (Below.refl V.heap.size V)
  have K0 := hid k0; have K1 := hid k1; have K2 := hid k2; have K3 := hid k3; have K4 := hid k4; have K5 := hid k5
  have HC := hid fun (w' : World) (h : Below V.heap.size V w') => rPromised_c pa pc ya yc la lc sa sc B R q w' (hbV.mono h) (hrV.mono h) hl hP hS
  have hE : broErr B R q = if promErr B R q = 0 then (if levelsL B R = [] then 18 else if (levelsL B R).find? (brB B R q) = none then 5 else 0) else promErr B R q := rfl
  have hX : broX B R q = if promErr B R q = 0 then ((levelsL B R).find? (brB B R q)).getD 0 else 0 := rfl
  unfold TellI at HC
  unfold IntE
  by_cases h0 : promErr B R q = 0
  case neg =>
    rw [if_neg h0] at hE hX
    rw [hE, hX]
    obtain ⟨v, hv⟩ : ∃ v, v = promErr B R q := ⟨_, rfl⟩
    rw [← hv] at HC h0 ⊢
    clear hE hX hv hb hr hl hP hS hV hB0 hbV hrV
    go_enter Try.func45, Try.ntmps45
    go_upto_region 1 with (fail)
    rw [← HV.out]
    go_wp2_with fail
    refine (HC.out _ HV0.out).mono ?_
    rintro e w1 ⟨rfl, hB⟩
    have HB1 := hid (bstep HV0.out hB)
    have k0 := cstep k0 hB
    have k1 := cstep k1 hB
    have k2 := cstep k2 hB
    have k3 := cstep k3 hB
    have k4 := cstep k4 hB
    have k5 := cstep k5 hB
    clear hB
    go_wp2_with fail
    refine (HC.out _ HB1.out).mono ?_
    rintro e w2 ⟨rfl, hB⟩
    have HB2 := hid (bstep HB1.out hB)
    clear hB
    go_wp2
    go_ret2
    exact ⟨rfl, bstep HB0.out HB2.out⟩
  case pos =>
    rw [if_pos h0] at hE hX
    obtain ⟨hr0, hp0⟩ := promErr_zero h0
    obtain ⟨hBk, hRk⟩ := readErr_zero.1 hr0
    have HL := hid fun (w' : World) (h : Below V.heap.size V w') => rLevelsOf_c pa pc ya yc la lc sa sc B R w' (hbV.mono h) (hrV.mono h) hBk hRk
    unfold ListR at HL
    rw [h0] at HC
    by_cases hn : levelsL B R = []
    case pos =>
      rw [if_pos hn] at hE
      rw [hn] at hX HL
      rw [hE, hX]
      clear hE hX hb hr hl hP hS hV hB0 hbV hrV h0 hBk hRk hn hr0 hp0
      go_enter Try.func45, Try.ntmps45
      go_upto_region 1 with (fail)
      rw [← HV.out]
      go_wp2_with fail
      refine (HC.out _ HV0.out).mono ?_
      rintro e w1 ⟨rfl, hB⟩
      have HB1 := hid (bstep HV0.out hB)
      have k0 := cstep k0 hB
      have k1 := cstep k1 hB
      have k2 := cstep k2 hB
      have k3 := cstep k3 hB
      have k4 := cstep k4 hB
      have k5 := cstep k5 hB
      clear hB
      go_wp2_with fail
      refine (HL.out _ HB1.out).mono ?_
      rintro e w2 ⟨ao, cap, rfl, hx, hcn, hB⟩
      have HB2 := hid (bstep HB1.out hB)
      clear hB
      go_wp2
      go_ret2
      exact ⟨rfl, bstep HB0.out HB2.out⟩
    case neg =>
      rw [if_neg hn] at hE
      have hll := levelsL_len B R
      have HK := hid fun (k : Nat) (hk : k < (levelsL B R).length) (w' : World) (h : Below V.heap.size V w') => rBreaks_c pa pc ya yc la lc sa sc B R q (nth (levelsL B R) k) w' (hbV.mono h) (hrV.mono h) hBk hRk (levelsL_at hk).1 (promB_fit hp0)
      unfold TellB at HK
      obtain ⟨p, hp⟩ : ∃ p, p = brB B R q := ⟨_, rfl⟩
      rw [← hp] at HK hE hX
      obtain ⟨L, hL⟩ : ∃ L, L = levelsL B R := ⟨_, rfl⟩
      rw [← hL] at HL HK hE hX hn hll
      have HE := hid hE; have HX := hid hX
      have hlen : 0 < L.length := Nat.pos_of_ne_zero fun h => hn (List.eq_nil_of_length_eq_zero h)
      have hnI : ¬ (L.length : Int) = 0 := by omega
      clear hE hX hb hr hl hP hS hV hB0 hbV hrV h0 hBk hRk hr0 hp0 hp hL hn
      go_enter Try.func45, Try.ntmps45
      go_upto_region 1 with (fail)
      rw [← HV.out]
      go_wp2_with fail
      refine (HC.out _ HV0.out).mono ?_
      rintro e w1 ⟨rfl, hB⟩
      have HB1 := hid (bstep HV0.out hB)
      have k0 := cstep k0 hB
      have k1 := cstep k1 hB
      have k2 := cstep k2 hB
      have k3 := cstep k3 hB
      have k4 := cstep k4 hB
      have k5 := cstep k5 hB
      clear hB
      go_wp2_with fail
      refine (HL.out _ HB1.out).mono ?_
      rintro e w2 ⟨ao, cap, rfl, hx, hcn, hB⟩
      have HB2 := hid (bstep HB1.out hB)
      have k0 := cstep k0 hB
      have k1 := cstep k1 hB
      have k2 := cstep k2 hB
      have k3 := cstep k3 hB
      have k4 := cstep k4 hB
      have k5 := cstep k5 hB
      clear hB
      obtain ⟨xb, xo, rfl, _⟩ := hx.at hlen
      have HXs := hid hx
      clear hcn hx
      go_wp2
      go_loopw [9] (fun i wr => ∃ k : Nat, k ≤ L.length ∧ i = .int .i64 k ∧ allTo (fun j => !p (nth L j)) k = true ∧ Below w2.heap.size w2 wr) (fun i _ => L.length - (intOf i).toNat)
      case atStart => exact ⟨0, Nat.zero_le _, rfl, rfl, Below.refl _ _⟩
      case round =>
        obtain ⟨k, hk, rfl, hall, hBk⟩ := hrel
        obtain ⟨wk, rfl⟩ : ∃ wk : World, wk = wr := ⟨_, rfl⟩
        have HB := hid (bstep HB2.out hBk); have Hall := hid hall
        by_cases hlt : k < L.length
        · have hltI : (k : Int) < (L.length : Int) := by omega
          have hcx := (HXs.out.mono hBk).cell hlt
          have HKk := hid fun s : Later wk => HK.out k hlt s.w' (bstep HB.out s.h)
          have hfa := fun h => find_at hlt hall (p := p) h
          have hal : allTo (fun j => !p (nth L j)) (k + 1) = (allTo (fun j => !p (nth L j)) k && !p (nth L k)) := rfl
          rw [hall, Bool.true_and] at hal
          obtain ⟨x, hxx⟩ : ∃ x, x = nth L k := ⟨_, rfl⟩
          rw [← hxx] at hcx HKk hfa hal
          obtain ⟨v, hv⟩ : ∃ v, v = p x := ⟨_, rfl⟩
          rw [← hv] at HKk hfa hal
          have j0 := fun s : Later wk => cstep (cstep k0 hBk) s.h
          have j1 := fun s : Later wk => cstep (cstep k1 hBk) s.h
          have j2 := fun s : Later wk => cstep (cstep k2 hBk) s.h
          have j3 := fun s : Later wk => cstep (cstep k3 hBk) s.h
          have j4 := fun s : Later wk => cstep (cstep k4 hBk) s.h
          have j5 := fun s : Later wk => cstep (cstep k5 hBk) s.h
          have jx := fun s : Later wk => cstep hcx s.h
          have HBk := hid hBk
          have e1 : IntKind.i64.wrap ((k : Int) + 1) = (k : Int) + 1 := wrap_i64_of (by omega) (by omega)
          have Hcx := hid hcx
          clear hall hxx hv hcx hBk k0 k1 k2 k3 k4 k5
          cases v with
          | true =>
            rw [hfa rfl, if_neg (by simp)] at HE
            rw [hfa rfl] at HX
            clear hal hfa
            go_upto_region 9 with (fail)
            refine wp_region_later (by kernel_rfl) (by kernel_rfl) ?_
            repeat (go_big_quiet_step ((go_at_call 99; exact callsLater (HKk.out _))))
            refine wpQuiet_nil ?_
            rintro w3 ⟨⟨_, hB3⟩, rfl⟩
            have HB3 := hid (bstep HB.out hB3)
            have hcx := cstep Hcx.out hB3
            clear hB3 j0 j1 j2 j3 j4 j5 jx
            go_wp2
            go_ret2
            exact ⟨by rw [HE.out, HX.out]; rfl, bstep HB0.out HB3.out⟩
          | false =>
            have Hal := hid hal
            clear hal hfa
            go_upto_region 9 with (fail)
            refine wp_region_later (by kernel_rfl) (by kernel_rfl) ?_
            repeat (go_big_quiet_step ((go_at_call 99; exact callsLater (HKk.out _))))
            refine wpQuiet_nil ?_
            rintro w3 ⟨⟨_, hB3⟩, rfl⟩
            have HB3 := hid (bstep HBk.out hB3)
            clear hB3 j0 j1 j2 j3 j4 j5 jx
            go_wp2
            go_roundw
            case rel => exact ⟨k + 1, by omega, by go_num, Hal.out, HB3.out⟩
            case measure => simp [intOf]; omega
        · obtain rfl : k = L.length := by omega
          rw [find_none hall, if_pos rfl] at HE
          rw [find_none hall] at HX
          clear hall hBk k0 k1 k2 k3 k4 k5
          go_wp2
          go_ret2
          exact ⟨by rw [HE.out, HX.out]; rfl, bstep HB0.out HB.out⟩
end

end Go.Proofs.Ytnnojhpioenhbaa

namespace Go.Proofs.Ytnnojhpioenhbaa
open Go.RowKit Go.Shelf

/-- a box with a fraction -/
def QAt (w : World) (g : Nat) (q : Int × Int) : Prop := w.heap[g]? = some (.cells #[.int .i64 q.1, .int .i64 q.2] 32 (0, 0))
section
variable {w w' : World} {g : Nat} {q : Int × Int}
theorem QAt.c0 (h : QAt w g q) : w.cell? ⟨g, 0, none⟩ = some (.int .i64 q.1) := by rw [cell_of_row _ _ _ _ _ _ h]; rfl
theorem QAt.c1 (h : QAt w g q) : w.cell? ⟨g, 1, none⟩ = some (.int .i64 q.2) := by rw [cell_of_row _ _ _ _ _ _ h]; rfl
theorem QAt.f0 (h : QAt w g q) : w.frozen? ⟨g, 0, none⟩ = false := frozen_of_row w _ 0 _ _ h
theorem QAt.f1 (h : QAt w g q) : w.frozen? ⟨g, 1, none⟩ = false := frozen_of_row w _ 1 _ _ h
theorem QAt.lt (h : QAt w g q) : g < w.heap.size := (Array.getElem?_eq_some_iff.1 h).1
theorem QAt.mono (h : QAt w g q) (hB : Below w.heap.size w w') : QAt w' g q := (hB.block _ h.lt).trans h
theorem QAt.below (h : QAt w g q) {N : Nat} (hB : Below N w w') (hg : g < N) : QAt w' g q := (hB.block _ hg).trans h
theorem QAt.set (h : QAt w g q) (x y : Int) : QAt ((w.setCell ⟨g, 0, none⟩ (.int .i64 x)).setCell ⟨g, 1, none⟩ (.int .i64 y)) g (x, y) :=
  heap_setCell_same _ _ 1 #[.int .i64 x, .int .i64 q.2] 32 _ (heap_setCell_same _ _ 0 _ 32 _ h)
theorem QAt.other (h : QAt w g q) {r : Nat} (hr : g ≠ r) (x y : Value) : QAt ((w.setCell ⟨r, 0, none⟩ x).setCell ⟨r, 1, none⟩ y) g q :=
  (Below.heap_setCell _ _ _ _ (fun e => hr e)).trans ((Below.heap_setCell _ _ _ _ (fun e => hr e)).trans h)
theorem below_set2 {N : Nat} {A : World} (h : Below N A w) (hg : N ≤ g) (x y : Value) : Below N A ((w.setCell ⟨g, 0, none⟩ x).setCell ⟨g, 1, none⟩ y) :=
  (h.setCell (p := ⟨g, 0, none⟩) hg _).setCell (p := ⟨g, 1, none⟩) hg _
end

theorem results_cct {fn : Func} {p r u : Tmp} {ty : TypeId} (h : fn.results = #[.cell p ty, .cell r ty, .tmp u]) (tmps : Array Value) (P : Program) (w : World) :
    (results fn tmps).run P w = ((asAddr (tmps.getD p undef)).run P w).andThen fun a w₁ => ((loadVar ty a).run P w₁).andThen fun v w₂ =>
      ((asAddr (tmps.getD r undef)).run P w₂).andThen fun b w₃ => ((loadVar ty b).run P w₃).andThen fun x w₄ => .ok (.tuple #[v, x, tmps.getD u undef]) w₄ := by
  simp only [results, h]
  simp [Sem.run_bind, Result.andThen]
theorem results_cells3 {fn : Func} {p r u : Tmp} (h : fn.results = #[.cell p 32, .cell r 32, .tmp u]) (tmps : Array Value) (w : World) (g g2 : Nat) (q q2 : Int × Int)
    (hp : tmps.getD p undef = .pointer (some ⟨g, 0, none⟩)) (hr : tmps.getD r undef = .pointer (some ⟨g2, 0, none⟩)) (hg : QAt w g q) (hg2 : QAt w g2 q2) :
    (results fn tmps).run Try.prog w = .ok (.tuple #[.agg #[.int .i64 q.1, .int .i64 q.2], .agg #[.int .i64 q2.1, .int .i64 q2.2], tmps.getD u undef]) w := by
  have h1 := run_loadVar_row (P := Try.prog) w g 32 32 #[.int .i64 q.1, .int .i64 q.2] (0, 0) _ hg Try.underlying32 rfl (by kernel_rfl)
  have h2 := run_loadVar_row (P := Try.prog) w g2 32 32 #[.int .i64 q2.1, .int .i64 q2.2] (0, 0) _ hg2 Try.underlying32 rfl (by kernel_rfl)
  rw [results_cct h, hp, hr]
  simp [asAddr, h1, h2, Result.andThen]

/-- a new box of a fraction -/
def NewQ (v : Value) (p q : World) : Prop := v = .pointer (some ⟨p.heap.size, 0, none⟩) ∧ q = p.alloc (.cells #[.int .i64 0, .int .i64 0] 32)

set_option maxRecDepth 100000 in
theorem makes_newQ (dst : Option Tmp) (ty : TypeId) (pos : String) (after : Array Edge) (A : Act) (s : World) :
    makesOp Try.prog { dst := dst, op := .alloc 32, type := ty, pos := pos, after := after, guard := none } A s fun v s' => Below s.heap.size s s' ∧ NewQ v s s' := by
  unfold makesOp
  simp [go_sem]
  exact ⟨bnew _ _, rfl, rfl⟩
theorem NewQ.at {v : Value} {p q : World} (h : NewQ v p q) : v = .pointer (some ⟨p.heap.size, 0, none⟩) ∧ QAt q p.heap.size (0, 0) ∧ q.heap.size = p.heap.size + 1 := by
  obtain ⟨h1, h2⟩ := h
  subst h2
  exact ⟨h1, heap_alloc_new _ _, by simp⟩

/-- the least of some fractions, from the first on -/
def lowN (f : Nat → Int × Int) : Nat → Int × Int
  | 0 => f 0
  | k + 1 => if lessQ (f (k + 1)) (lowN f k) = true then f (k + 1) else lowN f k
def highN (f : Nat → Int × Int) : Nat → Int × Int
  | 0 => f 0
  | k + 1 => if lessQ (highN f k) (f (k + 1)) = true then f (k + 1) else highN f k
theorem lowN_of {f : Nat → Int × Int} {T : Int × Int → Prop} : ∀ k, (∀ i, i ≤ k → T (f i)) → T (lowN f k)
  | 0, h => h 0 (Nat.le_refl _)
  | k + 1, h => by rw [lowN]; split; exact h _ (Nat.le_refl _); exact lowN_of k fun i hi => h i (by omega)
theorem highN_of {f : Nat → Int × Int} {T : Int × Int → Prop} : ∀ k, (∀ i, i ≤ k → T (f i)) → T (highN f k)
  | 0, h => h 0 (Nat.le_refl _)
  | k + 1, h => by rw [highN]; split; exact h _ (Nat.le_refl _); exact highN_of k fun i hi => h i (by omega)
def spanF (B : Bd) (R : Rd) (k : Nat) : Int × Int := payQ B (nth (levelsL B R) k)
def spanLo (B : Bd) (R : Rd) : Int × Int := if levErr B R = 0 then lowN (spanF B R) ((levelsL B R).length - 1) else (0, 0)
def spanHi (B : Bd) (R : Rd) : Int × Int := if levErr B R = 0 then highN (spanF B R) ((levelsL B R).length - 1) else (0, 0)
def SpanE (w : World) (err : Int) (x y : Int × Int) (e : Ending) (w' : World) : Prop := e = .returned (.tuple #[.agg #[.int .i64 x.1, .int .i64 x.2], .agg #[.int .i64 y.1, .int .i64 y.2], .int .i64 err]) ∧ Below w.heap.size w w'

theorem levErr_zero {B : Bd} {R : Rd} (h : levErr B R = 0) : readErr B R = 0 ∧ ¬ levelsL B R = [] ∧ levX B R = levelsL B R := by
  have h1 : levErr B R = if readErr B R = 0 then (if levelsL B R = [] then 18 else 0) else readErr B R := rfl
  rw [h] at h1
  by_cases h2 : readErr B R = 0
  · rw [if_pos h2] at h1
    by_cases h3 : levelsL B R = []
    · rw [if_pos h3] at h1; omega
    · exact ⟨h2, h3, by unfold levX; rw [if_pos h2]⟩
  · rw [if_neg h2] at h1; exact absurd h1.symm h2
theorem spanF_fit {B : Bd} {R : Rd} (hB : Bok B) {k : Nat} (hk : k < (levelsL B R).length) : FitQ (spanF B R k) := (payQ_fit hB _ (levelsL_at hk).1).1

section
variable (pa : Option Addr) (pc : Nat) (ya : Option Addr) (yc : Nat) (la : Option Addr) (lc : Nat) (sa : Option Addr) (sc : Nat) (B : Bd) (R : Rd) (w : World)
set_option maxRecDepth 100000 in
set_option maxHeartbeats 4000000 in
theorem rSpan_c (hb : BdAt w pa ya B) (hr : RdAt w la sa R) (hl : B.pins.length ≤ 1000000) (hP : R.plumbs.length ≤ 1000000) (hS : R.slots.length ≤ 1000000) :
    Calls Try.prog 43 #[.agg #[.slice pa B.pins.length pc, .slice ya B.pays.length yc], .agg #[.slice la R.plumbs.length lc, .slice sa R.slots.length sc]] w (SpanE w (levErr B R) (spanLo B R) (spanHi B R)) := by
  obtain ⟨V1, hV1, hB1, k0, k1, k2, k3⟩ := box2 w (.slice pa B.pins.length pc) (.slice ya B.pays.length yc) (.slice la R.plumbs.length lc) (.slice sa R.slots.length sc) 25 51
  obtain ⟨V, hV⟩ : ∃ V, V = (V1.alloc (.cells #[.int .i64 0, .int .i64 0] 32)).alloc (.cells #[.int .i64 0, .int .i64 0] 32) := ⟨_, rfl⟩
  have hB2 : Below V1.heap.size V1 V := by rw [hV]; exact bstep (bnew _ _) (bnew _ _)
  have hz : V1.heap.size = w.heap.size + 1 + 1 := by rw [hV1]; simp
  have q4 : QAt V (w.heap.size + 1 + 1) (0, 0) := by
    rw [← hz, hV]; exact (show QAt (V1.alloc (.cells #[.int .i64 0, .int .i64 0] 32)) V1.heap.size (0, 0) from heap_alloc_new _ _).mono (bnew _ _)
  have q5 : QAt V (w.heap.size + 1 + 1 + 1) (0, 0) := by
    have h := heap_alloc_new (V1.alloc (.cells #[.int .i64 0, .int .i64 0] 32)) (.cells #[.int .i64 0, .int .i64 0] 32)
    rw [World.size_alloc, hz] at h
    rw [hV]; exact h
  have k0 := cstep k0 hB2; have k1 := cstep k1 hB2; have k2 := cstep k2 hB2; have k3 := cstep k3 hB2
  have hB0 := bstep hB1 hB2
  have hbV := hb.mono hB0; have hrV := hr.mono hB0
  rw [hV1] at hV
  have HV := hid hV; have HB0 := hid hB0; have Q4 := hid q4; have Q5 := hid q5
  have HV0 := hid (Below.refl V.heap.size V)
  have HC := hid fun (w' : World) (h : Below V.heap.size V w') => rLevels_c pa pc ya yc la lc sa sc B R w' (hbV.mono h) (hrV.mono h) hl hP hS
  have hX : spanLo B R = if levErr B R = 0 then lowN (spanF B R) ((levelsL B R).length - 1) else (0, 0) := rfl
  have hY : spanHi B R = if levErr B R = 0 then highN (spanF B R) ((levelsL B R).length - 1) else (0, 0) := rfl
  unfold SliceE at HC
  unfold SpanE
  by_cases h0 : levErr B R = 0
  case neg =>
    rw [if_neg h0] at hX hY
    rw [hX, hY]
    obtain ⟨v, hv⟩ : ∃ v, v = levErr B R := ⟨_, rfl⟩
    rw [← hv] at HC h0 ⊢
    clear hX hY hv hb hr hl hP hS hV hB0 hbV hrV hV1 hB1 hB2 hz q4 q5
    go_enter Try.func43, Try.ntmps43
    go_upto_region 1 with (fail)
    rw [← HV.out]
    go_wp2_with fail
    refine (HC.out _ HV0.out).mono ?_
    rintro e w1 ⟨ao, cap, rfl, hx, hcn, hB⟩
    have q4 := Q4.out.mono hB; have q5 := Q5.out.mono hB
    have c0 := q4.c0; have c1 := q4.c1; have f0 := q4.f0; have f1 := q4.f1
    have d0 := q5.c0; have d1 := q5.c1; have g0 := q5.f0; have g1 := q5.f1
    have HB1 := hid (bstep HB0.out hB)
    have R4 := hid ((q4.set 0 0).other (r := w.heap.size + 1 + 1 + 1) (by omega) (.int .i64 0) (.int .i64 0))
    have R5 := hid ((q5.other (r := w.heap.size + 1 + 1) (by omega) (.int .i64 0) (.int .i64 0)).set 0 0)
    have HB2 := hid (below_set2 (below_set2 HB1.out (show w.heap.size ≤ w.heap.size + 1 + 1 by omega) (.int .i64 0) (.int .i64 0)) (show w.heap.size ≤ w.heap.size + 1 + 1 + 1 by omega) (.int .i64 0) (.int .i64 0))
    clear q4 q5 hB hx hcn k0 k1 k2 k3
    go_wp2
    refine bodyPost_ret (results_cells3 rfl _ _ (w.heap.size + 1 + 1) (w.heap.size + 1 + 1 + 1) (0, 0) (0, 0) rfl rfl R4.out R5.out) rfl ?_
    exact ⟨rfl, HB2.out⟩
  case pos =>
    obtain ⟨hr0, hne, hLX⟩ := levErr_zero h0
    obtain ⟨hBk, hRk⟩ := readErr_zero.1 hr0
    rw [if_pos h0] at hX hY
    rw [h0, hLX] at HC
    rw [h0, hX, hY]
    have HP := hid fun (k : Nat) (hk : k < (levelsL B R).length) (w' : World) (h : Below V.heap.size V w') => show Calls Try.prog 71 #[.agg #[.slice pa B.pins.length pc, .slice ya B.pays.length yc], .int .i64 (nth (levelsL B R) k)] w' fun e w2 => e = .returned (.agg #[.int .i64 (spanF B R k).1, .int .i64 (spanF B R k).2]) ∧ Below w'.heap.size w' w2 from payOf_c pa pc ya yc B (nth (levelsL B R) k) w' (hbV.mono h) hBk (levelsL_at hk).1
    have Hfit := hid fun (k : Nat) (hk : k < (levelsL B R).length) => spanF_fit (R := R) hBk hk
    have hll := levelsL_len B R
    obtain ⟨f, hf⟩ : ∃ f, f = spanF B R := ⟨_, rfl⟩
    rw [← hf] at HP Hfit ⊢
    obtain ⟨L, hL⟩ : ∃ L, L = levelsL B R := ⟨_, rfl⟩
    rw [← hL] at HP Hfit HC hne hll ⊢
    have hlen : 0 < L.length := Nat.pos_of_ne_zero fun h => hne (List.eq_nil_of_length_eq_zero h)
    have hlI : (0 : Int) < (L.length : Int) := by omega
    clear hX hY hf hb hr hl hP hS hV hB0 hbV hrV hV1 hB1 hB2 hz q4 q5 h0 hr0 hBk hRk hne hLX hL
    go_enter Try.func43, Try.ntmps43
    go_upto_region 1 with (fail)
    rw [← HV.out]
    go_wp2_with fail
    refine (HC.out _ HV0.out).mono ?_
    rintro e w1 ⟨ao, cap, rfl, hx, hcn, hB⟩
    have Q4 := hid (Q4.out.mono hB); have Q5 := hid (Q5.out.mono hB)
    have HB1 := hid hB
    have k0 := cstep k0 hB; have k1 := cstep k1 hB
    obtain ⟨xb, xo, rfl, hc0⟩ := hx.at hlen
    rw [Nat.add_zero] at hc0
    have HXs := hid hx
    clear hB hx hcn k2 k3
    have j0 := fun (J : World → Prop) (s : LaterJ w1 J) => cstep k0 s.h
    have j1 := fun (J : World → Prop) (s : LaterJ w1 J) => cstep k1 s.h
    have jx := fun (J : World → Prop) (s : LaterJ w1 J) => cstep hc0 s.h
    have HP0 := hid fun (J : World → Prop) (s : LaterJ w1 J) => HP.out 0 hlen s.w' (bstep HB1.out s.h)
    have K0w := hid k0; have K1w := hid k1
    clear k0 k1 hc0
    go_upto_region 4 with (fail)
    refine wp_region_mix (n := 12) (nz := [(10, 9), (11, 10)]) (dp := fun _ => []) (bs := [false, false, false, false, false, false, false, false, false, false, true, true, true, true]) (Φ := fun k _ => if k = 10 then NewQ else NewQ) (by kernel_rfl) (by kernel_rfl) (by simp) ?_
    simp only [blindL, blindO, if_true, Bool.false_eq_true, if_false]
    repeat (gi_big_quiet_step ((refine ⟨rfl, ?_⟩; gi_at_call 71; exact callsJ abidesT (HP0.out _ _))))
    refine wpQuietIn_nil ?_
    refine ⟨?_, ?_⟩

    · intro J hJ hne
      repeat (gi_big_quiet_step ((refine ⟨rfl, ?_⟩; gi_at_call 71; exact callsJ hJ (HP0.out _ _))))
      exact wpQuietIn_nil rfl
    · refine mixAsk2 (by decide) NewQ NewQ rfl rfl (fun u v s _ => makes_newQ _ _ _ _ _ s) (fun u v s _ => makes_newQ _ _ _ _ _ s) ?_
      intro u v p q p2 q2 s hp hu hq hp2 hv hq2 hsep hs
      obtain ⟨rfl, hqa, hqs⟩ := hu.at
      obtain ⟨rfl, hqb, hqs2⟩ := hv.at
      have q9 := hqa.mono hq; have q10 := hqb.mono hq2
      have hne : ¬ p.heap.size = p2.heap.size := by omega
      have hne2 : ¬ p2.heap.size = p.heap.size := by omega
      have hge := hp.size; have hge2 := hp2.size
      simp only [List.drop_succ_cons, List.drop_zero, Act.put, List.setIfInBounds_toArray, List.set_cons_succ, List.set_cons_zero]
      have c0 := q9.c0; have c1 := q9.c1; have f0 := q9.f0; have f1 := q9.f1
      have d0 := q10.c0; have d1 := q10.c1; have g0 := q10.f0; have g1 := q10.f1
      obtain ⟨g9, hg9⟩ : ∃ g, g = p.heap.size := ⟨_, rfl⟩
      obtain ⟨g10, hg10⟩ : ∃ g, g = p2.heap.size := ⟨_, rfl⟩
      rw [← hg9] at q9 hne hne2 hge c0 c1 f0 f1 ⊢
      rw [← hg10] at q10 hne hne2 hge2 d0 d1 g0 g1 ⊢
      have hne0 := hne; have hge9 := hge; have hge10 := hge2
      have HS := hid hs; have Q9 := hid q9; have Q10 := hid q10; have Hge := hid hge; have Hge2 := hid hge2
      clear hp hu hq hp2 hv hq2 hsep hqa hqs hqb hqs2 hg9 hg10 q9 q10 hs hge hge2
      gi_wp2
      have HW := hid (bstep HB1.out (below_set2 (below_set2 HS.out Hge.out (.int .i64 (f 0).1) (.int .i64 (f 0).2)) Hge2.out (.int .i64 (f 0).1) (.int .i64 (f 0).2)))
      have HW1 := hid (below_set2 (below_set2 HS.out Hge.out (.int .i64 (f 0).1) (.int .i64 (f 0).2)) Hge2.out (.int .i64 (f 0).1) (.int .i64 (f 0).2))
      have R9 := hid ((Q9.out.set (f 0).1 (f 0).2).other hne (.int .i64 (f 0).1) (.int .i64 (f 0).2))
      have R10 := hid ((Q10.out.other hne2 (.int .i64 (f 0).1) (.int .i64 (f 0).2)).set (f 0).1 (f 0).2)
      obtain ⟨w4, hw4⟩ : ∃ w4, w4 = (((s.setCell ⟨g9, 0, none⟩ (.int .i64 (f 0).1)).setCell ⟨g9, 1, none⟩ (.int .i64 (f 0).2)).setCell ⟨g10, 0, none⟩ (.int .i64 (f 0).1)).setCell ⟨g10, 1, none⟩ (.int .i64 (f 0).2) := ⟨_, rfl⟩
      rw [← hw4] at HW HW1 R9 R10 ⊢
      have K0 := hid fun (w' : World) (h : Below w1.heap.size w1 w') => cstep K0w.out h
      have K1 := hid fun (w' : World) (h : Below w1.heap.size w1 w') => cstep K1w.out h
      clear hw4 c0 c1 f0 f1 d0 d1 g0 g1 j0 j1 jx HP0 HS Q9 Q10
      go_wp2
      go_loopw [11, 12] (fun i _ wr => ∃ k : Nat, k + 1 ≤ L.length ∧ i = .int .i64 ((k : Int) + 1) ∧ QAt wr g9 (lowN f k) ∧ QAt wr g10 (highN f k) ∧ Below w1.heap.size w1 wr) (fun i _ _ => L.length - (intOf i).toNat)
      case atStart => exact ⟨0, hlen, rfl, R9.out, R10.out, HW1.out⟩
      case round =>
        obtain ⟨k, hk, rfl, hq9, hq10, hBk⟩ := hrel
        obtain ⟨wk, rfl⟩ : ∃ wk : World, wk = wr := ⟨_, rfl⟩
        have Q9 := hid hq9; have Q10 := hid hq10; have HBk := hid hBk
        by_cases hlt : k + 1 < L.length
        · have hltI : (k : Int) + 1 < (L.length : Int) := by omega
          have hcx := (HXs.out.mono hBk).cell hlt
          have e1 : IntKind.i64.wrap ((k : Int) + 1 + 1) = (k : Int) + 1 + 1 := wrap_i64_of (by omega) (by omega)
          have hkn : ((k : Int) + 1).toNat = k + 1 := by omega
          have hk0 : (0 : Int) ≤ (k : Int) + 1 := by omega
          have j0 := fun (J : World → Prop) (s : LaterJ wk J) => cstep (K0.out wk hBk) s.h
          have j1 := fun (J : World → Prop) (s : LaterJ wk J) => cstep (K1.out wk hBk) s.h
          have jx := fun (J : World → Prop) (s : LaterJ wk J) => cstep hcx s.h
          have HPk := hid fun (J : World → Prop) (s : LaterJ wk J) => HP.out (k + 1) hlt s.w' (bstep (bstep HB1.out HBk.out) s.h)
          have hfl := lowN_of (f := f) (T := FitQ) k fun i hi => Hfit.out i (by omega)
          have hfh := highN_of (f := f) (T := FitQ) k fun i hi => Hfit.out i (by omega)
          have hff := Hfit.out (k + 1) hlt
          have HL1 := hid fun (w' : World) => rLessQ_c (f (k + 1)) (lowN f k) w' hff hfl
          have HL2 := hid fun (w' : World) => rLessQ_c (highN f k) (f (k + 1)) w' hfh hff
          unfold TellB at HL1 HL2
          have hlo : lowN f (k + 1) = if lessQ (f (k + 1)) (lowN f k) = true then f (k + 1) else lowN f k := rfl
          have hhi : highN f (k + 1) = if lessQ (highN f k) (f (k + 1)) = true then f (k + 1) else highN f k := rfl
          obtain ⟨lo, hlo2⟩ : ∃ x, x = lowN f k := ⟨_, rfl⟩
          obtain ⟨hi, hhi2⟩ : ∃ x, x = highN f k := ⟨_, rfl⟩
          obtain ⟨x, hx2⟩ : ∃ x, x = f (k + 1) := ⟨_, rfl⟩
          rw [← hlo2] at HL1 hlo Q9
          rw [← hhi2] at HL2 hhi Q10
          rw [← hx2] at HL1 HL2 hlo hhi HPk
          have Hlo := hid hlo; have Hhi := hid hhi
          clear hcx hq9 hq10 hBk hlo2 hhi2 hx2 hlo hhi hfl hfh hff
          go_upto_region 8 with (fail)
          refine wp_region_mix (n := 7) (nz := [(6, 12)]) (dp := fun _ => []) (bs := [false, false, false, false, false, false, true, true]) (Φ := fun _ _ => NewQ) (by kernel_rfl) (by kernel_rfl) (by simp) ?_
          simp only [blindL, blindO, if_true, Bool.false_eq_true, if_false]
          repeat (gi_big_quiet_step ((refine ⟨rfl, ?_⟩; gi_at_call 71; exact callsJ abidesT (HPk.out _ _))))
          refine wpQuietIn_nil ?_
          refine ⟨?_, ?_⟩
          · intro J hJ hne
            repeat (gi_big_quiet_step ((refine ⟨rfl, ?_⟩; gi_at_call 71; exact callsJ hJ (HPk.out _ _))))
            exact wpQuietIn_nil rfl
          · refine mixAsk1 NewQ rfl (fun u s _ => makes_newQ _ _ _ _ _ s) ?_
            intro u p q s hp hu hq hs
            obtain ⟨rfl, hqa, hqs⟩ := hu.at
            have q12 := hqa.mono hq
            have hge := hp.size
            have hn9 : ¬ g9 = p.heap.size := by have := Q9.out.lt; omega
            have hn10 : ¬ g10 = p.heap.size := by have := Q10.out.lt; omega
            simp only [List.drop_succ_cons, List.drop_zero, Act.put, List.setIfInBounds_toArray, List.set_cons_succ, List.set_cons_zero]
            have c0 := q12.c0; have c1 := q12.c1; have f0 := q12.f0; have f1 := q12.f1
            obtain ⟨g12, hg12⟩ : ∃ g, g = p.heap.size := ⟨_, rfl⟩
            rw [← hg12] at q12 hn9 hn10 hge c0 c1 f0 f1 ⊢
            have Q12 := hid q12; have HS := hid hs; have Hge := hid hge; have Hn9 := hid hn9; have Hn10 := hid hn10
            clear hp hu hq hs hqa hqs hg12 q12 hge j0 j1 jx HPk
            gi_wp2
            have R9 := hid ((Q9.out.mono HS.out).other Hn9.out (.int .i64 x.1) (.int .i64 x.2)); have R10 := hid ((Q10.out.mono HS.out).other Hn10.out (.int .i64 x.1) (.int .i64 x.2)); have R12 := hid (Q12.out.set x.1 x.2)
            have HB5 := hid (HBk.out.trans ((below_set2 HS.out Hge.out (.int .i64 x.1) (.int .i64 x.2)).mono HBk.out.size))
            obtain ⟨w5, hw5⟩ : ∃ w5, w5 = (s.setCell ⟨g12, 0, none⟩ (.int .i64 x.1)).setCell ⟨g12, 1, none⟩ (.int .i64 x.2) := ⟨_, rfl⟩
            rw [← hw5] at R9 R10 R12 HB5 ⊢
            have Q9 := R9; have Q10 := R10; have Q12 := R12
            have Hne := hid hne0; have Hg9 := hid hge9; have Hg10 := hid hge10
            clear hw5 R9 R10 R12 c0 c1 f0 f1 HS
            obtain ⟨v1, hv1⟩ : ∃ v, v = lessQ x lo := ⟨_, rfl⟩
            obtain ⟨v2, hv2⟩ : ∃ v, v = lessQ hi x := ⟨_, rfl⟩
            rw [← hv1] at HL1 Hlo
            rw [← hv2] at HL2 Hhi
            clear hv1 hv2
            cases v1 with
            | true =>
              rw [if_pos rfl] at Hlo
              cases v2 with
              | true =>
                rw [if_pos rfl] at Hhi
                have a0 := Q9.out.c0; have a1 := Q9.out.c1; have a2 := Q9.out.f0; have a3 := Q9.out.f1
                have b0 := Q10.out.c0; have b1 := Q10.out.c1; have b2 := Q10.out.f0; have b3 := Q10.out.f1
                have d0 := Q12.out.c0; have d1 := Q12.out.c1
                go_wp2_with fail
                refine (HL1.out w5).mono ?_
                rintro e w6 ⟨rfl, hB⟩
                clear a0 a1 a2 a3 b0 b1 b2 b3 d0 d1
                have HB6 := hid (bstep HB5.out hB); have Q9 := hid (Q9.out.mono hB); have Q10 := hid (Q10.out.mono hB); have Q12 := hid (Q12.out.mono hB)
                clear hB
                have a0 := Q9.out.c0; have a1 := Q9.out.c1; have a2 := Q9.out.f0; have a3 := Q9.out.f1
                have b0 := Q10.out.c0; have b1 := Q10.out.c1; have b2 := Q10.out.f0; have b3 := Q10.out.f1
                have d0 := Q12.out.c0; have d1 := Q12.out.c1
                go_upto_region 11 with (fail)
                clear a0 a1 a2 a3 b0 b1 b2 b3 d0 d1
                have R9 := hid (Q9.out.set x.1 x.2); have R10 := hid (Q10.out.other (r := g9) (fun e => Hne.out e.symm) (.int .i64 x.1) (.int .i64 x.2)); have R12 := hid (Q12.out.other (r := g9) (fun e => Hn9.out e.symm) (.int .i64 x.1) (.int .i64 x.2))
                have HB7 := hid (below_set2 HB6.out Hg9.out (.int .i64 x.1) (.int .i64 x.2))
                obtain ⟨w7, hw7⟩ : ∃ w7, w7 = (w6.setCell ⟨g9, 0, none⟩ (.int .i64 x.1)).setCell ⟨g9, 1, none⟩ (.int .i64 x.2) := ⟨_, rfl⟩
                rw [← hw7] at R9 R10 R12 HB7 ⊢
                have Q9 := R9; have Q10 := R10; have Q12 := R12
                clear hw7 R9 R10 R12
                have a0 := Q9.out.c0; have a1 := Q9.out.c1; have a2 := Q9.out.f0; have a3 := Q9.out.f1
                have b0 := Q10.out.c0; have b1 := Q10.out.c1; have b2 := Q10.out.f0; have b3 := Q10.out.f1
                have d0 := Q12.out.c0; have d1 := Q12.out.c1
                go_wp2_with fail
                refine (HL2.out w7).mono ?_
                rintro e w8 ⟨rfl, hB⟩
                clear a0 a1 a2 a3 b0 b1 b2 b3 d0 d1
                have HB8 := hid (bstep HB7.out hB); have Q9 := hid (Q9.out.mono hB); have Q10 := hid (Q10.out.mono hB); have Q12 := hid (Q12.out.mono hB)
                clear hB
                have a0 := Q9.out.c0; have a1 := Q9.out.c1; have a2 := Q9.out.f0; have a3 := Q9.out.f1
                have b0 := Q10.out.c0; have b1 := Q10.out.c1; have b2 := Q10.out.f0; have b3 := Q10.out.f1
                have d0 := Q12.out.c0; have d1 := Q12.out.c1
                go_wp2
                go_roundw
                case rel => exact ⟨k + 1, by omega, by go_num, (by rw [Hlo.out]; exact Q9.out.other (r := g10) Hne.out (.int .i64 x.1) (.int .i64 x.2)), (by rw [Hhi.out]; exact Q10.out.set x.1 x.2), below_set2 HB8.out Hg10.out _ _⟩
                case measure => simp [intOf]; omega
              | false =>
                rw [if_neg (by simp)] at Hhi
                have a0 := Q9.out.c0; have a1 := Q9.out.c1; have a2 := Q9.out.f0; have a3 := Q9.out.f1
                have b0 := Q10.out.c0; have b1 := Q10.out.c1; have b2 := Q10.out.f0; have b3 := Q10.out.f1
                have d0 := Q12.out.c0; have d1 := Q12.out.c1
                go_wp2_with fail
                refine (HL1.out w5).mono ?_
                rintro e w6 ⟨rfl, hB⟩
                clear a0 a1 a2 a3 b0 b1 b2 b3 d0 d1
                have HB6 := hid (bstep HB5.out hB); have Q9 := hid (Q9.out.mono hB); have Q10 := hid (Q10.out.mono hB); have Q12 := hid (Q12.out.mono hB)
                clear hB
                have a0 := Q9.out.c0; have a1 := Q9.out.c1; have a2 := Q9.out.f0; have a3 := Q9.out.f1
                have b0 := Q10.out.c0; have b1 := Q10.out.c1; have b2 := Q10.out.f0; have b3 := Q10.out.f1
                have d0 := Q12.out.c0; have d1 := Q12.out.c1
                go_upto_region 11 with (fail)
                clear a0 a1 a2 a3 b0 b1 b2 b3 d0 d1
                have R9 := hid (Q9.out.set x.1 x.2); have R10 := hid (Q10.out.other (r := g9) (fun e => Hne.out e.symm) (.int .i64 x.1) (.int .i64 x.2)); have R12 := hid (Q12.out.other (r := g9) (fun e => Hn9.out e.symm) (.int .i64 x.1) (.int .i64 x.2))
                have HB7 := hid (below_set2 HB6.out Hg9.out (.int .i64 x.1) (.int .i64 x.2))
                obtain ⟨w7, hw7⟩ : ∃ w7, w7 = (w6.setCell ⟨g9, 0, none⟩ (.int .i64 x.1)).setCell ⟨g9, 1, none⟩ (.int .i64 x.2) := ⟨_, rfl⟩
                rw [← hw7] at R9 R10 R12 HB7 ⊢
                have Q9 := R9; have Q10 := R10; have Q12 := R12
                clear hw7 R9 R10 R12
                have a0 := Q9.out.c0; have a1 := Q9.out.c1; have a2 := Q9.out.f0; have a3 := Q9.out.f1
                have b0 := Q10.out.c0; have b1 := Q10.out.c1; have b2 := Q10.out.f0; have b3 := Q10.out.f1
                have d0 := Q12.out.c0; have d1 := Q12.out.c1
                go_wp2_with fail
                refine (HL2.out w7).mono ?_
                rintro e w8 ⟨rfl, hB⟩
                clear a0 a1 a2 a3 b0 b1 b2 b3 d0 d1
                have HB8 := hid (bstep HB7.out hB); have Q9 := hid (Q9.out.mono hB); have Q10 := hid (Q10.out.mono hB); have Q12 := hid (Q12.out.mono hB)
                clear hB
                have a0 := Q9.out.c0; have a1 := Q9.out.c1; have a2 := Q9.out.f0; have a3 := Q9.out.f1
                have b0 := Q10.out.c0; have b1 := Q10.out.c1; have b2 := Q10.out.f0; have b3 := Q10.out.f1
                have d0 := Q12.out.c0; have d1 := Q12.out.c1
                go_wp2
                go_roundw
                case rel => exact ⟨k + 1, by omega, by go_num, (by rw [Hlo.out]; exact Q9.out), (by rw [Hhi.out]; exact Q10.out), HB8.out⟩
                case measure => simp [intOf]; omega
            | false =>
              rw [if_neg (by simp)] at Hlo
              cases v2 with
              | true =>
                rw [if_pos rfl] at Hhi
                have a0 := Q9.out.c0; have a1 := Q9.out.c1; have a2 := Q9.out.f0; have a3 := Q9.out.f1
                have b0 := Q10.out.c0; have b1 := Q10.out.c1; have b2 := Q10.out.f0; have b3 := Q10.out.f1
                have d0 := Q12.out.c0; have d1 := Q12.out.c1
                go_wp2_with fail
                refine (HL1.out w5).mono ?_
                rintro e w6 ⟨rfl, hB⟩
                clear a0 a1 a2 a3 b0 b1 b2 b3 d0 d1
                have HB6 := hid (bstep HB5.out hB); have Q9 := hid (Q9.out.mono hB); have Q10 := hid (Q10.out.mono hB); have Q12 := hid (Q12.out.mono hB)
                clear hB
                have a0 := Q9.out.c0; have a1 := Q9.out.c1; have a2 := Q9.out.f0; have a3 := Q9.out.f1
                have b0 := Q10.out.c0; have b1 := Q10.out.c1; have b2 := Q10.out.f0; have b3 := Q10.out.f1
                have d0 := Q12.out.c0; have d1 := Q12.out.c1
                go_upto_region 11 with (fail)
                clear a0 a1 a2 a3 b0 b1 b2 b3 d0 d1
                have a0 := Q9.out.c0; have a1 := Q9.out.c1; have a2 := Q9.out.f0; have a3 := Q9.out.f1
                have b0 := Q10.out.c0; have b1 := Q10.out.c1; have b2 := Q10.out.f0; have b3 := Q10.out.f1
                have d0 := Q12.out.c0; have d1 := Q12.out.c1
                go_wp2_with fail
                refine (HL2.out w6).mono ?_
                rintro e w8 ⟨rfl, hB⟩
                clear a0 a1 a2 a3 b0 b1 b2 b3 d0 d1
                have HB8 := hid (bstep HB6.out hB); have Q9 := hid (Q9.out.mono hB); have Q10 := hid (Q10.out.mono hB); have Q12 := hid (Q12.out.mono hB)
                clear hB
                have a0 := Q9.out.c0; have a1 := Q9.out.c1; have a2 := Q9.out.f0; have a3 := Q9.out.f1
                have b0 := Q10.out.c0; have b1 := Q10.out.c1; have b2 := Q10.out.f0; have b3 := Q10.out.f1
                have d0 := Q12.out.c0; have d1 := Q12.out.c1
                go_wp2
                go_roundw
                case rel => exact ⟨k + 1, by omega, by go_num, (by rw [Hlo.out]; exact Q9.out.other (r := g10) Hne.out (.int .i64 x.1) (.int .i64 x.2)), (by rw [Hhi.out]; exact Q10.out.set x.1 x.2), below_set2 HB8.out Hg10.out _ _⟩
                case measure => simp [intOf]; omega
              | false =>
                rw [if_neg (by simp)] at Hhi
                have a0 := Q9.out.c0; have a1 := Q9.out.c1; have a2 := Q9.out.f0; have a3 := Q9.out.f1
                have b0 := Q10.out.c0; have b1 := Q10.out.c1; have b2 := Q10.out.f0; have b3 := Q10.out.f1
                have d0 := Q12.out.c0; have d1 := Q12.out.c1
                go_wp2_with fail
                refine (HL1.out w5).mono ?_
                rintro e w6 ⟨rfl, hB⟩
                clear a0 a1 a2 a3 b0 b1 b2 b3 d0 d1
                have HB6 := hid (bstep HB5.out hB); have Q9 := hid (Q9.out.mono hB); have Q10 := hid (Q10.out.mono hB); have Q12 := hid (Q12.out.mono hB)
                clear hB
                have a0 := Q9.out.c0; have a1 := Q9.out.c1; have a2 := Q9.out.f0; have a3 := Q9.out.f1
                have b0 := Q10.out.c0; have b1 := Q10.out.c1; have b2 := Q10.out.f0; have b3 := Q10.out.f1
                have d0 := Q12.out.c0; have d1 := Q12.out.c1
                go_upto_region 11 with (fail)
                clear a0 a1 a2 a3 b0 b1 b2 b3 d0 d1
                have a0 := Q9.out.c0; have a1 := Q9.out.c1; have a2 := Q9.out.f0; have a3 := Q9.out.f1
                have b0 := Q10.out.c0; have b1 := Q10.out.c1; have b2 := Q10.out.f0; have b3 := Q10.out.f1
                have d0 := Q12.out.c0; have d1 := Q12.out.c1
                go_wp2_with fail
                refine (HL2.out w6).mono ?_
                rintro e w8 ⟨rfl, hB⟩
                clear a0 a1 a2 a3 b0 b1 b2 b3 d0 d1
                have HB8 := hid (bstep HB6.out hB); have Q9 := hid (Q9.out.mono hB); have Q10 := hid (Q10.out.mono hB); have Q12 := hid (Q12.out.mono hB)
                clear hB
                have a0 := Q9.out.c0; have a1 := Q9.out.c1; have a2 := Q9.out.f0; have a3 := Q9.out.f1
                have b0 := Q10.out.c0; have b1 := Q10.out.c1; have b2 := Q10.out.f0; have b3 := Q10.out.f1
                have d0 := Q12.out.c0; have d1 := Q12.out.c1
                go_wp2
                go_roundw
                case rel => exact ⟨k + 1, by omega, by go_num, (by rw [Hlo.out]; exact Q9.out), (by rw [Hhi.out]; exact Q10.out), HB8.out⟩
                case measure => simp [intOf]; omega
        · obtain rfl : k = L.length - 1 := by omega
          have hltI : ¬ (((L.length - 1 : Nat) : Int) + 1 < (L.length : Int)) := by omega
          obtain ⟨lo, hlo2⟩ : ∃ x, x = lowN f (L.length - 1) := ⟨_, rfl⟩
          obtain ⟨hi, hhi2⟩ : ∃ x, x = highN f (L.length - 1) := ⟨_, rfl⟩
          rw [← hlo2] at Q9
          rw [← hhi2] at Q10
          have Hlo := hid hlo2; have Hhi := hid hhi2
          clear hq9 hq10 hBk hlo2 hhi2
          have q4 := Q4.out.mono HBk.out; have q5 := Q5.out.mono HBk.out
          have hl4 := Q4.out.lt; have hl5 := Q5.out.lt
          have m1 : ¬ g9 = w.heap.size + 1 + 1 := by omega
          have m2 : ¬ g9 = w.heap.size + 1 + 1 + 1 := by omega
          have m3 : ¬ g10 = w.heap.size + 1 + 1 := by omega
          have m4 : ¬ g10 = w.heap.size + 1 + 1 + 1 := by omega
          have a0 := Q9.out.c0; have a1 := Q9.out.c1; have b0 := Q10.out.c0; have b1 := Q10.out.c1
          have c0 := q4.c0; have c1 := q4.c1; have f0 := q4.f0; have f1 := q4.f1
          have d0 := q5.c0; have d1 := q5.c1; have g0 := q5.f0; have g1 := q5.f1
          have HB9 := hid (bstep (bstep HB0.out HB1.out) HBk.out)
          have R4 := hid ((q4.set lo.1 lo.2).other (r := w.heap.size + 1 + 1 + 1) (by omega) (.int .i64 hi.1) (.int .i64 hi.2))
          have R5 := hid ((q5.other (r := w.heap.size + 1 + 1) (by omega) (.int .i64 lo.1) (.int .i64 lo.2)).set hi.1 hi.2)
          have HB10 := hid (below_set2 (below_set2 HB9.out (show w.heap.size ≤ w.heap.size + 1 + 1 by omega) (.int .i64 lo.1) (.int .i64 lo.2)) (show w.heap.size ≤ w.heap.size + 1 + 1 + 1 by omega) (.int .i64 hi.1) (.int .i64 hi.2))
          clear q4 q5 hl4 hl5
          go_upto_region 13 with (fail)
          go_region
          all_goals (
            go_wp2
            refine bodyPost_ret (results_cells3 rfl _ _ (w.heap.size + 1 + 1) (w.heap.size + 1 + 1 + 1) lo hi rfl rfl R4.out R5.out) rfl ?_
            exact ⟨by rw [Hlo.out, Hhi.out]; rfl, HB10.out.drew⟩)

end

end Go.Proofs.Ytnnojhpioenhbaa

namespace Go.Proofs.Ytnnojhpioenhbaa
open Go.RowKit Go.Shelf

/-- the best of some, from the first on -/
def bestK (lt : Int × Int → Int × Int → Bool) (f : Nat → Int × Int) : Nat → Int × Int
  | 0 => f 0
  | k + 1 => if lt (f (k + 1)) (bestK lt f k) = true then f (k + 1) else bestK lt f k
theorem bestK_low (f : Nat → Int × Int) : ∀ k, bestK lessQ f k = lowN f k
  | 0 => rfl
  | k + 1 => by simp only [bestK, lowN, bestK_low f k]
theorem bestK_high (f : Nat → Int × Int) : ∀ k, bestK (fun x y => lessQ y x) f k = highN f k
  | 0 => rfl
  | k + 1 => by simp only [bestK, highN, bestK_high f k]
theorem bestK_mem {lt : Int × Int → Int × Int → Bool} {f : Nat → Int × Int} : ∀ k, ∃ i, i ≤ k ∧ bestK lt f k = f i
  | 0 => ⟨0, Nat.le_refl _, rfl⟩
  | k + 1 => by
    rw [bestK]
    split
    · exact ⟨k + 1, Nat.le_refl _, rfl⟩
    · obtain ⟨i, h1, h2⟩ := bestK_mem (lt := lt) (f := f) k
      exact ⟨i, by omega, h2⟩
set_option maxRecDepth 100000 in
theorem sizeOf32 (w : World) : (sizeOf 32).run Try.prog w = .ok 2 w := by simp [go_sem]
set_option maxRecDepth 100000 in
theorem elem121 : Try.prog.elem 121 = 32 := by kernel_rfl
set_option maxRecDepth 100000 in
/-- a list of fractions without its first -/
theorem tail121 (b off n c : Nat) (hn : 1 ≤ n) (w' : World) : (Instr.slice 121 (.slice (some ⟨b, off, none⟩) n c) (some (.int .i64 1)) none none).run Try.prog w' = .ok (.slice (if c = 1 then some ⟨b, off, none⟩ else some ⟨b, off + 2, none⟩) (n - 1) (c - 1)) w' := by
  have hsz : ((sizeOf (Try.prog.elem 121)).run Try.prog w') = .ok 2 w' := by rw [elem121]; exact sizeOf32 w'
  have h := run_slice_l w' 121 (some ⟨b, off, none⟩) n c Try.underlying121 .i64 1 (by omega) (by omega)
  rw [hsz] at h
  rw [h]
  simp [Result.andThen, sliced, Addr.add_lit]

/-- a fraction -/
def QV (w : World) (q : Int × Int) (e : Ending) (w' : World) : Prop := e = .returned (.agg #[.int .i64 q.1, .int .i64 q.2]) ∧ Below w.heap.size w w'

set_option maxRecDepth 100000 in
set_option maxHeartbeats 2000000 in
theorem bestQ_c (a : Option Addr) (cap g : Nat) (lt : Int × Int → Int × Int → Bool) (ls : List (Int × Int)) (w : World) (hx : PlumbsAt w a ls) (h0 : 0 < ls.length) (hb : ls.length ≤ 1000000) (hcap : ls.length ≤ cap)
    (hg : ∀ x y, x ∈ ls → y ∈ ls → ∀ w', Calls Try.prog g #[.agg #[.int .i64 x.1, .int .i64 x.2], .agg #[.int .i64 y.1, .int .i64 y.2]] w' (TellB w' (lt x y)))
    (eg : ∀ args w, (callFunc g args).run Try.prog w = .ok (.enter g args) w) :
    Calls Try.prog 95 #[.slice a ls.length cap, .func (.func g) #[] #[]] w (QV w (bestK lt (nthP ls) (ls.length - 1))) := by
  unfold QV
  obtain ⟨b, off, rfl, hc0, hc1⟩ := hx.at h0
  rw [Nat.zero_mul, Nat.add_zero] at hc0 hc1
  have htl := tail121 b off ls.length cap (by omega)
  obtain ⟨ta, hta⟩ : ∃ ta, ta = (if cap = 1 then some (⟨b, off, none⟩ : Addr) else some ⟨b, off + 2, none⟩) := ⟨_, rfl⟩
  rw [← hta] at htl
  have Hta := hid (fun (h : 1 < ls.length) => show ta = some ⟨b, off + 2, none⟩ by rw [hta, if_neg (by omega)])
  have hI0 : (0 : Int) < (ls.length : Int) := by omega
  obtain ⟨n1, hn1⟩ : ∃ n1, n1 = ls.length - 1 := ⟨_, rfl⟩
  rw [← hn1] at htl ⊢
  obtain ⟨V, hV⟩ : ∃ V, V = (w.alloc (.cells #[.int .i64 0, .int .i64 0] 32)).alloc (.cells #[.int .i64 (nthP ls 0).1, .int .i64 (nthP ls 0).2] 32) := ⟨_, rfl⟩
  have hB0 : Below w.heap.size w V := by rw [hV]; exact bstep (bnew _ _) (bnew _ _)
  have q4 : QAt V w.heap.size (0, 0) := by rw [hV]; exact (show QAt (w.alloc (.cells #[.int .i64 0, .int .i64 0] 32)) w.heap.size (0, 0) from heap_alloc_new _ _).mono (bnew _ _)
  have q5 : QAt V (w.heap.size + 1) (bestK lt (nthP ls) 0) := by
    have h := heap_alloc_new (w.alloc (.cells #[.int .i64 0, .int .i64 0] 32)) (.cells #[.int .i64 (nthP ls 0).1, .int .i64 (nthP ls 0).2] 32)
    rw [World.size_alloc] at h
    rw [hV]; exact h
  have Hbk := hid fun k => show bestK lt (nthP ls) (k + 1) = if lt (nthP ls (k + 1)) (bestK lt (nthP ls) k) = true then nthP ls (k + 1) else bestK lt (nthP ls) k from rfl
  have Hmem := hid fun (k : Nat) (hk : k < ls.length) => show bestK lt (nthP ls) k ∈ ls by obtain ⟨i, h1, h2⟩ := bestK_mem (lt := lt) (f := nthP ls) k; rw [h2]; exact nthP_mem (by omega)
  obtain ⟨a0, ha0⟩ : ∃ x, x = (nthP ls 0).1 := ⟨_, rfl⟩
  obtain ⟨a1, ha1⟩ : ∃ x, x = (nthP ls 0).2 := ⟨_, rfl⟩
  rw [← ha0] at hc0 hV
  rw [← ha1] at hc1 hV
  have HV := hid hV; have HB0 := hid hB0; have Q4 := hid q4; have Q5 := hid q5
  have Hx := hid hx; have Hg := hid hg
  clear hx hg hta hV hB0 q4 q5 ha0 ha1
  go_enter Try.func95, Try.ntmps95
  go_upto_region 1 with (fail)
  obtain ⟨V1, hV1⟩ : ∃ V1, V1 = w.alloc (.cells #[.int .i64 0, .int .i64 0] 32) := ⟨_, rfl⟩
  have hB1 : Below w.heap.size w V1 := by rw [hV1]; exact bnew _ _
  have hs1 : V1.heap.size = w.heap.size + 1 := by rw [hV1]; simp
  have hc0 := cstep hc0 hB1; have hc1 := cstep hc1 hB1
  have HVV := HV.out
  rw [← hV1] at HVV ⊢
  have HV := hid HVV
  clear hV1 hB1 HVV
  go_upto_region 2 with (fail)
  rw [← HV.out]
  clear hc0 hc1
  go_wp2
  go_loopw [7, 14] (fun _ i wr => ∃ k : Nat, k ≤ n1 ∧ i = .int .i64 k ∧ QAt wr w.heap.size (0, 0) ∧ QAt wr (w.heap.size + 1) (bestK lt (nthP ls) k) ∧ Below w.heap.size w wr) (fun _ i _ => n1 - (intOf i).toNat)
  case atStart => exact ⟨0, Nat.zero_le _, rfl, Q4.out, Q5.out, HB0.out⟩
  case round =>
    obtain ⟨k, hk, rfl, hq4, hq5, hBk⟩ := hrel
    obtain ⟨wk, rfl⟩ : ∃ wk : World, wk = wr := ⟨_, rfl⟩
    have Q4 := hid hq4; have Q5 := hid hq5; have HBk := hid hBk
    by_cases hlt : k < n1
    · have hI : (k : Int) < (n1 : Int) := by omega
      have hk1 : k + 1 < ls.length := by omega
      obtain rfl := Hta.out (by omega)
      obtain ⟨b2, off2, he, hc0, hc1⟩ := (Hx.out.mono hBk).at hk1
      cases he
      rw [show off + (k + 1) * 2 = off + 2 + k * 2 by omega] at hc0 hc1
      have e1 : IntKind.i64.wrap ((k : Int) + 1) = (k : Int) + 1 := wrap_i64_of (by omega) (by omega)
      have hst := Hbk.out k
      have HC := hid (Hg.out (nthP ls (k + 1)) (bestK lt (nthP ls) k) (nthP_mem hk1) (Hmem.out k (by omega)))
      obtain ⟨x, hx2⟩ : ∃ x, x = nthP ls (k + 1) := ⟨_, rfl⟩
      obtain ⟨y, hy2⟩ : ∃ x, x = bestK lt (nthP ls) k := ⟨_, rfl⟩
      rw [← hx2] at hc0 hc1 hst HC
      rw [← hy2] at hst HC Q5
      obtain ⟨v, hv⟩ : ∃ v, v = lt x y := ⟨_, rfl⟩
      unfold TellB at HC
      rw [← hv] at hst HC
      obtain ⟨w2, hw2⟩ : ∃ w2, w2 = wk.alloc (.cells #[.int .i64 x.1, .int .i64 x.2] 32) := ⟨_, rfl⟩
      have hB2 : Below wk.heap.size wk w2 := by rw [hw2]; exact bnew _ _
      have hz2 : QAt w2 wk.heap.size x := by rw [hw2]; exact heap_alloc_new _ _
      have q4 := Q4.out.mono hB2; have q5 := Q5.out.mono hB2
      have a0 := q5.c0; have a1 := q5.c1; have b0 := hz2.c0; have b1 := hz2.c1
      have HB2 := hid (bstep HBk.out hB2); have Q4 := hid q4; have Q5 := hid q5; have Q7 := hid hz2; have HW2 := hid hw2; have Hst := hid hst
      clear hq4 hq5 hBk hx2 hy2 hv hw2 hB2 hz2 q4 q5 hst
      go_upto_region 5 with (fail)
      rw [← HW2.out]
      clear hc0 hc1
      cases v with
      | true =>
        rw [if_pos rfl] at Hst
        go_wp2_with fail
        refine (HC.out w2).mono ?_
        rintro e w3 ⟨rfl, hB3⟩
        have HB3 := hid (bstep HB2.out hB3)
        have Q4 := hid (Q4.out.mono hB3); have Q5 := hid (Q5.out.mono hB3); have Q7 := hid (Q7.out.mono hB3)
        clear hB3 a0 a1 b0 b1
        have a0 := Q5.out.c0; have a1 := Q5.out.c1; have a2 := Q5.out.f0; have a3 := Q5.out.f1; have b0 := Q7.out.c0; have b1 := Q7.out.c1
        go_wp2
        go_roundw
        case rel => exact ⟨k + 1, by omega, by go_num, Q4.out.other (r := w.heap.size + 1) (by omega) (.int .i64 x.1) (.int .i64 x.2), (by rw [Hst.out]; exact Q5.out.set x.1 x.2), below_set2 HB3.out (Nat.le_succ _) _ _⟩
        case measure => simp [intOf]; omega
      | false =>
        rw [if_neg (by simp)] at Hst
        go_wp2_with fail
        refine (HC.out w2).mono ?_
        rintro e w3 ⟨rfl, hB3⟩
        have HB3 := hid (bstep HB2.out hB3)
        have Q4 := hid (Q4.out.mono hB3); have Q5 := hid (Q5.out.mono hB3)
        clear hB3 a0 a1 b0 b1
        go_wp2
        go_roundw
        case rel => exact ⟨k + 1, by omega, by go_num, Q4.out, (by rw [Hst.out]; exact Q5.out), HB3.out⟩
        case measure => simp [intOf]; omega
    · obtain rfl : k = n1 := by omega
      have hI : ¬ (k : Int) < (k : Int) := by omega
      obtain ⟨y, hy2⟩ : ∃ x, x = bestK lt (nthP ls) k := ⟨_, rfl⟩
      rw [← hy2] at Q5
      have HE := hid hy2
      have a0 := Q5.out.c0; have a1 := Q5.out.c1; have b0 := Q4.out.c0; have b1 := Q4.out.c1; have b2 := Q4.out.f0; have b3 := Q4.out.f1
      have Hfin := hid (Q4.out.set y.1 y.2)
      have HBf := hid (below_set2 HBk.out (Nat.le_refl w.heap.size) (.int .i64 y.1) (.int .i64 y.2))
      clear hq4 hq5 hBk hy2
      go_wp2
      refine bodyPost_ret (results_cell_row rfl _ _ w.heap.size 32 _ (0, 0) _ rfl Hfin.out Try.underlying32 rfl (by kernel_rfl)) rfl ?_
      exact ⟨by rw [HE.out, ← hn1], HBf.out⟩

end Go.Proofs.Ytnnojhpioenhbaa
