/- The law PinsSummed. -/
import Derived.Test.YtnnojhpioenhbaaXLa
import Derived.Test.YtnnojhpioenhbaaXQb
import Derived.Test.YtnnojhpioenhbaaKE
namespace Go.Proofs.Ytnnojhpioenhbaa
open Go.RowKit Go.Shelf

theorem fineB_zero {B : Bd} (h : fineB B = true) : bdErr B = 0 := by
  have e : fineB B = (!greatB B && decide (bdErr B = 0)) := rfl
  rw [e, Bool.and_eq_true] at h
  exact of_decide_eq_true h.2
theorem tmod_nat (a b : Nat) : Int.tmod (a : Int) (b : Int) = ((a % b : Nat) : Int) := by
  rw [Int.tmod_eq_emod_of_nonneg (by omega)]; omega
section
variable (pa : Option Addr) (pc : Nat) (ya : Option Addr) (yc : Nat) (B : Bd) (n1 n2 n3 : Nat) (w : World)
set_option maxRecDepth 100000 in
set_option maxHeartbeats 8000000 in
theorem pinsSummed_c (hworks : WorksC) (hb : BdAt w pa ya B) (w1 : n1 < 256) (w2 : n2 < 256) (w3 : n3 < 256) : Calls Try.prog 8 #[.agg #[.slice pa B.pins.length pc, .slice ya B.pays.length yc], .int .u8 (n1 : Int), .int .u8 (n2 : Int), .int .u8 (n3 : Int)] w (TellB w true) := by
  have HW := hid hworks
  obtain ⟨V, hV, hB0, k0, k1⟩ := box1 w (.slice pa B.pins.length pc) (.slice ya B.pays.length yc) 25
  have hbV := hb.mono hB0
  have HB0 := hid hB0; have HV := hid hV; have HV0 := hid (Below.refl V.heap.size V)
  have K0 := hid k0; have K1 := hid k1
  have HG := hid (fine_c pa pc ya yc B V hbV)
  unfold WorksC TellB at *
  cases hg : fineB B with
  | false =>
    rw [hg] at HG
    clear hworks hb hV hB0 hbV hg
    go_enter Try.func8, Try.ntmps8
    go_upto_region 1 with (fail)
    rw [← HV.out]
    go_wp2_with fail
    refine (HG.out).mono ?_
    rintro e w1 ⟨rfl, hB⟩
    have HB1 := hid (bstep HV0.out hB)
    clear hB
    go_wp2_with fail
    refine (HW.out _).mono ?_
    rintro e w2 ⟨rfl, hB⟩
    have HB2 := hid (bstep HB1.out hB)
    clear hB
    go_wp2
    go_ret
    exact ⟨rfl, bstep HB0.out HB2.out⟩
  | true =>
    rw [hg] at HG
    have hBk := bok_iff.1 (fineB_zero hg)
    have hn := hBk.n8; have hn1 := hBk.n1
    have hlv := givN_lv n1
    have H4 := hid fun (w' : World) => given_c n1 w' w1
    unfold TellI at H4
    obtain ⟨lv, hlvE⟩ : ∃ a, a = givN n1 := ⟨_, rfl⟩
    rw [← hlvE] at H4 hlv
    obtain ⟨r, hr⟩ : ∃ r, r = n2 % B.pins.length := ⟨_, rfl⟩
    have hrn : r < B.pins.length := by rw [hr]; exact Nat.mod_lt _ (by omega)
    obtain ⟨j, hj⟩ : ∃ j, j = n3 % (r + 1) := ⟨_, rfl⟩
    have hjr : j ≤ r := by have := Nat.mod_lt n3 (show 0 < r + 1 by omega); omega
    have eR : Int.tmod (n2 : Int) (B.pins.length : Int) = (r : Int) := by rw [tmod_nat, hr]
    have eJ : Int.tmod (n3 : Int) ((r : Int) + 1) = (j : Int) := by have := tmod_nat n3 (r + 1); rw [← hj] at this; simpa using this
    have hnz : ¬ (B.pins.length : Int) = 0 := by omega
    have hrz : ¬ (r : Int) + 1 = 0 := by omega
    have e2 : IntKind.i64.wrap (n2 : Int) = (n2 : Int) := wrap_i64_of (by omega) (by omega)
    have e3 : IntKind.i64.wrap (n3 : Int) = (n3 : Int) := wrap_i64_of (by omega) (by omega)
    have er : IntKind.i64.wrap (r : Int) = (r : Int) := wrap_i64_of (by omega) (by omega)
    have ej : IntKind.i64.wrap (j : Int) = (j : Int) := wrap_i64_of (by omega) (by omega)
    have er1 : IntKind.i64.wrap ((r : Int) + 1) = (r : Int) + 1 := wrap_i64_of (by omega) (by omega)
    have enr : IntKind.i64.wrap ((B.pins.length : Int) - (r : Int)) = ((B.pins.length - r : Nat) : Int) := by rw [wrap_i64_of (by omega) (by omega)]; omega
    have hcj : (r : Int) < (B.pins.length : Int) := by omega
    have H5 := hid fun (w' : World) (h : Below V.heap.size V w') => waysLaw_c pa pc ya yc B lv w' (hbV.mono h) hBk hlv
    have H6 := hid fun (k : Nat) (hk : k ≤ B.pins.length) (w' : World) (h : Below V.heap.size V w') =>
      (pBack_c (k : Int) pa pc ya yc B lv w' (hbV.mono h) (by omega) (by have := hBk.pays; omega))
    have HT := hid fun (k : Nat) (hk : k ≤ B.pins.length) => back_ok hBk hlv hk
    obtain ⟨⟨s1, b1⟩, ⟨s2, b2⟩, b3, b4⟩ := summed_ok (lv := lv) hBk hrn hjr
    have hWx := waysX_ok hBk hlv
    obtain ⟨f, hf⟩ : ∃ f, f = W (Rt B lv) B.pins.length := ⟨_, rfl⟩
    obtain ⟨g, hgg⟩ : ∃ g, g = fun s => Fb (Rt B lv) B.pins.length s (B.pins.length - r) j := ⟨_, rfl⟩
    obtain ⟨X, hX⟩ : ∃ X, X = waysX B lv := ⟨_, rfl⟩
    have hXl : X.length = B.pins.length + 1 ∧ ∀ k, k < B.pins.length + 1 → nth X k = f k := by rw [hX, hf]; exact ⟨hWx.2.1, hWx.2.2.1⟩
    have HT2 : ∀ k, k ≤ B.pins.length → (backX B lv (k : Int)).length = B.pins.length ∧ ((nthL (backX B lv (k : Int)) 0).length = 1 ∧ nth (nthL (backX B lv (k : Int)) 0) 0 = f k) ∧ (nthL (backX B lv (k : Int)) r).length = r + 1 ∧ nth (nthL (backX B lv (k : Int)) r) j = g k := by
      intro k hk
      obtain ⟨_, h1, h2⟩ := HT.out k hk
      refine ⟨h1, ⟨(h2 0 (by omega)).1, ?_⟩, (h2 r hrn).1, ?_⟩
      · rw [(h2 0 (by omega)).2 0 (Nat.le_refl _), hf]; exact Fb_first _ hk
      · rw [(h2 r hrn).2 j hjr, hgg]
    have H6b := hid fun (k : Nat) (hk : k ≤ B.pins.length) (w' : World) (h : Below V.heap.size V w') => (H6.out k hk w' h).mono (R' := fun e w2 => ∃ ao cap T, e = .returned (.tuple #[.slice ao B.pins.length cap, .int .i64 0]) ∧ RowsAt w2 ao T ∧ T.length = B.pins.length ∧ ((nthL T 0).length = 1 ∧ nth (nthL T 0) 0 = f k) ∧ ((nthL T r).length = r + 1 ∧ nth (nthL T r) j = g k) ∧ Below w'.heap.size w' w2) (by
      rintro e w2 ⟨ao, cap, rfl, hx, _, hB⟩
      obtain ⟨t1, t2, t3⟩ := HT2 k hk
      exact ⟨ao, cap, _, by rw [t1, (HT.out k hk).1], hx, t1, t2, t3, hB⟩)
    have b3' : ∀ k, k ≤ B.pins.length → 0 ≤ f k ∧ f k ≤ 100000000 := by rw [hf]; exact b3
    have b4' : ∀ k, k ≤ B.pins.length → 0 ≤ g k ∧ g k ≤ 100000000 := by rw [hgg]; exact b4
    rw [← hf] at s1 b1
    rw [← hgg] at s2 b2
    have Hs1 := hid s1; have Hb1 := hid b1; have Hs2 := hid s2; have Hb2 := hid b2; have Hb3 := hid b3'; have Hb4 := hid b4'; have HXl := hid hXl
    have HP1 := hid fun (w' : World) => power_c B.pins.length w' (by omega)
    have HP2 := hid fun (w' : World) => power_c (B.pins.length - r) w' (by omega)
    have Hn := hid hn; have Hrn := hid hrn; have Hjr := hid hjr
    rw [← hX] at H5
    clear hworks hb hV hB0 hbV hg hBk hn hn1 hlv hlvE hr hj hrn hjr s1 b1 s2 b2 b3 b4 b3' b4' HT HT2 hWx hf hgg hX hXl H6
    obtain ⟨P1, hP1⟩ : ∃ p : Int, p = 10 ^ B.pins.length := ⟨_, rfl⟩
    obtain ⟨P2, hP2⟩ : ∃ p : Int, p = 10 ^ (B.pins.length - r) := ⟨_, rfl⟩
    rw [← hP1] at HP1 Hs1
    rw [← hP2] at HP2 Hs2
    clear hP1 hP2
    go_enter Try.func8, Try.ntmps8
    go_upto_region 1 with (fail)
    rw [← HV.out]
    go_wp2_with fail
    refine (HG.out).mono ?_
    rintro e w1 ⟨rfl, hB⟩
    have HB1 := hid (bstep HV0.out hB)
    have k0 := cstep k0 hB
    have k1 := cstep k1 hB
    clear hB
    go_wp2_with fail
    refine (H4.out _).mono ?_
    rintro e w2 ⟨rfl, hB⟩
    have HB2 := hid (bstep HB1.out hB)
    have k0 := cstep k0 hB
    have k1 := cstep k1 hB
    clear hB
    go_wp2_with fail
    refine (H5.out _ HB2.out).mono ?_
    rintro e w3 ⟨ao, ca, rfl, hx, _, hB⟩
    have HB3 := hid (bstep HB2.out hB)
    have k0 := cstep k0 hB
    have k1 := cstep k1 hB
    clear hB
    have HX := hid hx
    clear hx
    go_wp2
    go_loopw [15, 16, 17, 18, 19] (fun x y i _ _ wr => ∃ k : Nat, k ≤ B.pins.length + 1 ∧ i = .int .i64 k ∧ x = .int .i64 (sumTo f k) ∧ y = .int .i64 (sumTo g k) ∧ Below w3.heap.size w3 wr) (fun _ _ i _ _ _ => B.pins.length + 1 - (intOf i).toNat)
    case atStart => exact ⟨0, Nat.zero_le _, rfl, rfl, rfl, Below.refl _ _⟩
    case round =>
      obtain ⟨k, hk, rfl, rfl, rfl, hB⟩ := hrel
      obtain ⟨wk, rfl⟩ : ∃ wk : World, wk = wr := ⟨_, rfl⟩
      have HB := hid hB
      have k0 := cstep k0 hB
      have k1 := cstep k1 hB
      have HX := hid (HX.out.mono hB)
      clear hB
      by_cases hlt : k ≤ B.pins.length
      · have hltI : (k : Int) ≤ (B.pins.length : Int) := by omega
        go_wp2_with fail
        refine (H6b.out k hlt _ (bstep HB3.out HB.out)).mono ?_
        rintro e w4 ⟨bo, cb, T, rfl, hT, tl, ⟨t0, t1⟩, ⟨t2, t3⟩, hB⟩
        have HB4 := hid (bstep HB.out hB)
        have k0 := cstep k0 hB
        have k1 := cstep k1 hB
        have HX := hid (HX.out.mono hB)
        clear hB
        have hrn := Hrn.out; have hjr := Hjr.out; have hn8 := Hn.out
        obtain ⟨tb, t_o, ra, rc, rfl, c0, i0, _⟩ := hT.at (j := 0) (by omega)
        obtain ⟨tb2, t_o2, rb, rd, heq, c1, i1, _⟩ := hT.at (j := r) (by omega)
        cases heq
        obtain ⟨b0, o0, rfl, c2⟩ := i0.at (k := 0) (by omega)
        obtain ⟨b1, o1, rfl, c3⟩ := i1.at (k := j) (by omega)
        rw [t0, Nat.add_zero] at c0
        rw [t1, Nat.add_zero] at c2
        rw [t2] at c1
        rw [t3] at c3
        have hbf := Hb3.out k hlt; have hbg := Hb4.out k hlt; have hsf := Hb1.out k (by omega); have hsg := Hb2.out k (by omega)
        obtain ⟨xb, xo, rfl, c4⟩ := HX.out.at (k := k) (by have := HXl.out.1; omega)
        rw [HXl.out.2 k (by omega)] at c4
        have q1 : sumTo f (k + 1) = sumTo f k + f k := rfl
        have q2 : sumTo g (k + 1) = sumTo g k + g k := rfl
        obtain ⟨F, hF⟩ : ∃ F, F = sumTo f k := ⟨_, rfl⟩
        obtain ⟨G, hG⟩ : ∃ G, G = sumTo g k := ⟨_, rfl⟩
        obtain ⟨x, hxx⟩ : ∃ x, x = f k := ⟨_, rfl⟩
        obtain ⟨y, hyy⟩ : ∃ y, y = g k := ⟨_, rfl⟩
        rw [← hF] at q1 hsf ⊢; rw [← hG] at q2 hsg ⊢; rw [← hxx] at q1 c2 c4 hbf; rw [← hyy] at q2 c3 hbg
        have u1 : IntKind.i64.wrap (F + x) = F + x := wrap_i64_of (by omega) (by omega)
        have u2 : IntKind.i64.wrap (G + y) = G + y := wrap_i64_of (by omega) (by omega)
        have u3 : IntKind.i64.wrap ((k : Int) + 1) = (k : Int) + 1 := wrap_i64_of (by omega) (by omega)
        have y1 : decide (y < 0) = false := decide_eq_false (by omega)
        have y2 : decide (100000000 < y) = false := decide_eq_false (by omega)
        have v1 : (0 : Int) < (B.pins.length : Int) := by omega
        have v2 : (j : Int) < (r : Int) + 1 := by omega
        have v3 : (k : Int) < (B.pins.length : Int) + 1 := by omega
        have Hq1 := hid q1; have Hq2 := hid q2
        clear q1 q2 hF hG hxx hyy hbf hbg hsf hsg hT tl t0 t1 t2 t3 i0 i1 hrn hjr hn8
        have jc0 := fun s : Later w4 => cstep c0 s.h
        have jc1 := fun s : Later w4 => cstep c1 s.h
        have jc2 := fun s : Later w4 => cstep c2 s.h
        have jc3 := fun s : Later w4 => cstep c3 s.h
        have jc4 := fun s : Later w4 => cstep c4 s.h
        go_upto_region 15 with (fail)
        refine wp_region_later (by kernel_rfl) (by kernel_rfl) ?_
        repeat (go_big_quiet_step (fail))
        refine wpQuiet_nil ?_
        rintro w5 ⟨⟨_, hB⟩, rfl⟩
        clear jc0 jc1 jc2 jc3 jc4
        have HB5 := hid (bstep HB4.out hB)
        have k0 := cstep k0 hB
        have k1 := cstep k1 hB
        have HX := hid (HX.out.mono hB)
        have c0 := cstep c0 hB
        have c1 := cstep c1 hB
        have c2 := cstep c2 hB
        have c3 := cstep c3 hB
        have c4 := cstep c4 hB
        clear hB
        go_wp2
        go_roundw
        case rel => exact ⟨k + 1, by omega, by go_num, by rw [Hq1.out], by rw [Hq2.out], HB5.out⟩
        case measure => simp [intOf]; omega
      · have hltI : ¬ (k : Int) ≤ (B.pins.length : Int) := by omega
        have hkL : k = B.pins.length + 1 := by omega
        rw [hkL, Hs1.out, Hs2.out]
        clear hkL
        go_wp2_with fail
        refine (HP1.out _).mono ?_
        rintro e w11 ⟨rfl, rfl⟩
        go_wp2_with fail
        refine (HP2.out _).mono ?_
        rintro e w12 ⟨rfl, rfl⟩
        go_wp2_with fail
        refine (HW.out _).mono ?_
        rintro e w6 ⟨rfl, hB⟩
        have HB6 := hid (bstep HB.out hB)
        clear hB
        go_wp2
        go_ret
        exact ⟨rfl, bstep HB0.out (bstep HB3.out HB6.out)⟩
end

end Go.Proofs.Ytnnojhpioenhbaa
