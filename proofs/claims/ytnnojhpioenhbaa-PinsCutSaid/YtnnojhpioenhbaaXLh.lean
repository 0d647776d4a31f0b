/- The law PinsCut. -/
import Derived.Test.YtnnojhpioenhbaaXLf
import Derived.Test.YtnnojhpioenhbaaXJb
import Derived.Test.YtnnojhpioenhbaaXQc
namespace Go.Proofs.Ytnnojhpioenhbaa
open Go.RowKit Go.Shelf

section
variable (pa : Option Addr) (pc : Nat) (ya : Option Addr) (yc : Nat) (B : Bd) (n1 : Nat) (w : World)
set_option maxRecDepth 100000 in
set_option maxHeartbeats 8000000 in
theorem pinsCut_c (hworks : WorksC) (hb : BdAt w pa ya B) (w1 : n1 < 256) (hpc : B.pins.length ≤ pc) (hyc : B.pays.length ≤ yc) : Calls Try.prog 13 #[.agg #[.slice pa B.pins.length pc, .slice ya B.pays.length yc], .int .u8 (n1 : Int)] w (TellB w true) := by
  have HW := hid hworks
  obtain ⟨V, hV, hB0, k0, k1⟩ := box1 w (.slice pa B.pins.length pc) (.slice ya B.pays.length yc) 25
  have hbV := hb.mono hB0
  have HB0 := hid hB0; have HV := hid hV; have HV0 := hid (Below.refl V.heap.size V)
  have K0 := hid k0; have K1 := hid k1
  have HG := hid (fine_c pa pc ya yc B V hbV)
  unfold WorksC TellB at *
  cases hg : fineB B with
  | false =>
    rw [hg] at HG
    clear hworks hb hV hB0 hbV hg hpc hyc
    go_enter Try.func13, Try.ntmps13
    go_upto_region 1 with (fail)
    rw [← HV.out]
    go_wp2_with fail
    refine (HG.out).mono ?_
    rintro e w1 ⟨rfl, hB⟩
    have HB1 := hid (bstep HV0.out hB)
    clear hB
    go_wp2_with fail
    refine (HW.out _).mono ?_
    rintro e w2 ⟨rfl, hB⟩
    have HB2 := hid (bstep HB1.out hB)
    clear hB
    go_wp2
    go_ret
    exact ⟨rfl, bstep HB0.out HB2.out⟩
  | true =>
    rw [hg] at HG
    by_cases hl2 : B.pins.length < 2
    · have hI : (B.pins.length : Int) < 2 := by omega
      clear hworks hb hV hB0 hbV hg hpc hyc hl2
      go_enter Try.func13, Try.ntmps13
      go_upto_region 1 with (fail)
      rw [← HV.out]
      go_wp2_with fail
      refine (HG.out).mono ?_
      rintro e w1 ⟨rfl, hB⟩
      have HB1 := hid (bstep HV0.out hB)
      have k0 := cstep k0 hB
      clear hB
      go_wp2_with fail
      refine (HW.out _).mono ?_
      rintro e w2 ⟨rfl, hB⟩
      have HB2 := hid (bstep HB1.out hB)
      clear hB
      go_wp2
      go_ret
      exact ⟨rfl, bstep HB0.out HB2.out⟩
    have hI : ¬ (B.pins.length : Int) < 2 := by omega
    have hBk := bok_iff.1 (fineB_zero hg)
    have hn := hBk.n8; have hn1 := hBk.n1; have hpy := hBk.pays
    have hlv := givN_lv n1
    have H4 := hid fun (w' : World) => given_s n1 w' w1
    obtain ⟨lv, hlvE⟩ : ∃ a, a = givN n1 := ⟨_, rfl⟩
    rw [← hlvE] at H4 hlv
    obtain ⟨m, hm⟩ : ∃ m, B.pins.length = m + 1 := ⟨B.pins.length - 1, by omega⟩
    obtain ⟨hCk, hC1, hC2⟩ := cut_bok hBk hm (by omega)
    obtain ⟨pb, po, pra, prc, hpa, _⟩ := hbV.1.at (j := 0) (by omega)
    obtain ⟨yb, yo, hya, _⟩ := hbV.2.at (k := 0) (by omega)
    have hcV : BdAt V pa ya (cutB B m) := ⟨hbV.1.take _, hbV.2.take _⟩
    have H5 := hid fun (w' : World) (h : Below V.heap.size V w') => waysLaw_c pa pc ya yc B lv w' (hbV.mono h) hBk hlv
    have H6 := hid fun (w' : World) (h : Below V.heap.size V w') => waysLaw_c pa pc ya yc (cutB B m) lv w' (hcV.mono h) hCk hlv
    have H7 := hid fun (k : Nat) (hk : k ≤ m + 1) (w' : World) (h : Below V.heap.size V w') => pBack_c (k : Int) pa pc ya yc B lv w' (hbV.mono h) (by omega) (by omega)
    have e1 : IntKind.i64.wrap ((B.pins.length : Int) - 1) = (m : Int) := by rw [wrap_i64_of (by omega) (by omega)]; omega
    have hs1 := head22 pb po B.pins.length pc m (by omega) hpc
    have hs2 := head23 yb yo B.pays.length yc B.pins.length (by omega) hyc
    have hX := waysX_ok hBk hlv
    have hY := waysX_ok hCk hlv
    rw [hC1] at hY
    have HT : ∀ k, k ≤ m + 1 → (backErr B lv (k : Int) = 0 ∧ (backX B lv (k : Int)).length = B.pins.length) ∧ (nthL (backX B lv (k : Int)) m).length = B.pins.length ∧ ∀ j, j ≤ m → nth (nthL (backX B lv (k : Int)) m) j = Fb (Rt B lv) (m + 1) k 1 j := by
      intro k hk
      obtain ⟨h0, h1, h2⟩ := back_ok hBk hlv (k := k) (by omega)
      obtain ⟨h3, h4⟩ := h2 m (by omega)
      refine ⟨⟨h0, h1⟩, by omega, fun j hj => ?_⟩
      rw [h4 j hj, hm, show m + 1 - m = 1 by omega]
    have HC := hid fun (k : Nat) (hk : k ≤ m + 1) => cut_ok (lv := lv) hBk hm hk
    have H7b := hid fun (k : Nat) (hk : k ≤ m + 1) (w' : World) (h : Below V.heap.size V w') => (H7.out k hk w' h).mono (R' := fun e w2 => ∃ ao cap T, e = .returned (.tuple #[.slice ao B.pins.length cap, .int .i64 0]) ∧ RowsAt w2 ao T ∧ T.length = B.pins.length ∧ ((nthL T m).length = B.pins.length ∧ ∀ j, j ≤ m → nth (nthL T m) j = Fb (Rt B lv) (m + 1) k 1 j) ∧ Below w'.heap.size w' w2) (by
      rintro e w2 ⟨ao, cap, rfl, hx, _, hB⟩
      obtain ⟨⟨t0, t1⟩, t2⟩ := HT k hk
      exact ⟨ao, cap, _, by rw [t1, t0], hx, t1, t2, hB⟩)
    obtain ⟨X, hXX⟩ : ∃ f, f = waysX B lv := ⟨_, rfl⟩
    obtain ⟨Y, hYY⟩ : ∃ f, f = waysX (cutB B m) lv := ⟨_, rfl⟩
    obtain ⟨f, hf⟩ : ∃ f, f = W (Rt B lv) m := ⟨_, rfl⟩
    obtain ⟨f2, hf2⟩ : ∃ f, f = W (Rt B lv) (m + 1) := ⟨_, rfl⟩
    obtain ⟨g, hgg⟩ : ∃ g, g = fun k => Fb (Rt B lv) (m + 1) k 1 := ⟨_, rfl⟩
    have hX2 : X.length = B.pins.length + 1 ∧ ∀ k, k < B.pins.length + 1 → nth X k = f2 k := by rw [hXX, hf2]; exact ⟨hX.2.1, fun k hk => by rw [hX.2.2.1 k hk, hm]⟩
    have hY2 : Y.length = B.pins.length ∧ ∀ k, k < B.pins.length → nth Y k = f k := by rw [hYY, hf]; exact ⟨by rw [hY.2.1, hm], fun k hk => by rw [hY.2.2.1 k (by omega)]; exact cut_W lv k⟩
    have hC : ∀ k, k ≤ m + 1 → (∀ j, j ≤ m → (0 ≤ f j ∧ f j ≤ 100000000) ∧ (0 ≤ g k j ∧ g k j ≤ 10) ∧ 0 ≤ f j * g k j ∧ f j * g k j ≤ 1000000000) ∧ (∀ j, j ≤ m + 1 → 0 ≤ sumTo (fun j => f j * g k j) j ∧ sumTo (fun j => f j * g k j) j ≤ 100000000) ∧ sumTo (fun j => f j * g k j) (m + 1) = f2 k := by
      rw [hf, hf2, hgg]; exact HC.out
    have HB7 := hid fun (k : Nat) (hk : k ≤ m + 1) (w' : World) (h : Below V.heap.size V w') => (H7b.out k hk w' h).mono (R' := fun e w2 => ∃ ao cap T, e = .returned (.tuple #[.slice ao B.pins.length cap, .int .i64 0]) ∧ RowsAt w2 ao T ∧ T.length = B.pins.length ∧ ((nthL T m).length = B.pins.length ∧ ∀ j, j ≤ m → nth (nthL T m) j = g k j) ∧ Below w'.heap.size w' w2) (by rw [hgg]; exact fun e w2 h => h)
    have HXl := hid hX2; have HYl := hid hY2; have HCk := hid hC; have Hm := hid hm
    rw [← hXX] at H5
    rw [← hYY, hC1, hC2] at H6
    have Hlen := hid (show m + 1 = B.pins.length by omega)
    rw [← hm] at H6
    have Hn := hid hn
    have e2 : ((B.pins.length : Int)) = ((m : Int) + 1) := by omega
    have hmz : (m : Int) < (B.pins.length : Int) := by omega
    clear hworks hb hV hB0 hbV hg hl2 hpc hyc hn hn1 hpy hlv hlvE hm hCk hC1 hC2 hcV hX hY HT HC H7 H7b hXX hYY hf hf2 hgg hX2 hY2 hC e2 hBk
    subst hpa hya
    go_enter Try.func13, Try.ntmps13
    go_upto_region 1 with (fail)
    rw [← HV.out]
    go_wp2_with fail
    refine (HG.out).mono ?_
    rintro e w1 ⟨rfl, hB⟩
    have HB1 := hid (bstep HV0.out hB)
    have k0 := cstep k0 hB
    have k1 := cstep k1 hB
    clear hB
    have jk0 := fun (J : World → Prop) (s : LaterJ w1 J) => cstep k0 s.h
    have jk1 := fun (J : World → Prop) (s : LaterJ w1 J) => cstep k1 s.h
    have Kw := hid (show True from trivial)
    have Kk0 := hid k0
    have Kk1 := hid k1
    go_upto_region 4 with (fail)
    refine wp_region_mix (n := 11) (nz := [(10, 6)]) (dp := fun _ => []) (bs := [false, false, false, false, false, false, false, false, false, false, true, true]) (Φ := fun _ _ => NewV 25 (.slice none 0 0) (.slice none 0 0)) (by kernel_rfl) (by kernel_rfl) (by simp) ?_
    simp only [blindL, blindO, if_true, Bool.false_eq_true, if_false]
    repeat (gi_big_quiet_step (fail))
    refine wpQuietIn_nil ?_
    refine ⟨?_, ?_⟩
    · intro J hJ hne
      repeat (gi_big_quiet_step (fail))
      exact wpQuietIn_nil rfl
    refine mixAsk1 (NewV 25 (.slice none 0 0) (.slice none 0 0)) rfl (fun u s _ => makes_new25 _ _ _ _ _ s) ?_
    intro u p q s hp hu hq hs
    obtain ⟨rfl, hqa, hqs⟩ := hu.at
    have qb := hqa.mono hq
    have hge := hp.size
    simp only [List.drop_succ_cons, List.drop_zero, Act.put, List.setIfInBounds_toArray, List.set_cons_succ, List.set_cons_zero]
    have c0 := qb.c0; have c1 := qb.c1; have f0 := qb.f0; have f1 := qb.f1
    obtain ⟨cb_, hg⟩ : ∃ g, g = p.heap.size := ⟨_, rfl⟩
    rw [← hg] at qb hge c0 c1 f0 f1 ⊢
    have QB := hid qb; have HS := hid hs; have Hge := hid hge
    clear hp hu hq hs hqa hqs hg qb hge Kw jk0 jk1
    clear k0
    clear k1
    gi_wp2
    have CB := hid (QB.out.set (.slice (some ⟨pb, po, none⟩) m pc) (.slice (some ⟨yb, yo, none⟩) B.pins.length yc))
    have hB := below_set2 HS.out Hge.out (.slice (some ⟨pb, po, none⟩) m pc) (.slice (some ⟨yb, yo, none⟩) B.pins.length yc)
    obtain ⟨w2, hw⟩ : ∃ x, x = (s.setCell ⟨cb_, 0, none⟩ (.slice (some ⟨pb, po, none⟩) m pc)).setCell ⟨cb_, 1, none⟩ (.slice (some ⟨yb, yo, none⟩) B.pins.length yc) := ⟨_, rfl⟩
    rw [← hw] at CB hB ⊢
    clear hw c0 c1 f0 f1 QB HS Hge
    have k0 := Kk0.out
    clear Kk0
    have k1 := Kk1.out
    clear Kk1
    have HB2 := hid (bstep HB1.out hB)
    have k0 := cstep k0 hB
    have k1 := cstep k1 hB
    clear hB
    have k2 := CB.out.c0; have k3 := CB.out.c1
    clear CB
    go_upto_region 5 with (fail)
    go_cut [7, 8] from 39 to 45 (fun a b w3 => ∃ ao ca, a = .slice ao (B.pins.length + 1) ca ∧ b = .bool true ∧ IntsAt w3 ao X ∧ Below w2.heap.size w2 w3)
    case first =>
      go_region_law (first | (go_simp; go_at_call 49; refine (H4.out _).mono ?_; rintro e wx ⟨rfl, rfl⟩) | (go_simp; go_at_call 53; refine (H5.out _ (bstep HB2.out (show Below w2.heap.size w2 w2.drew from below_drawN _ w2 1))).mono ?_; rintro e wx ⟨ao, ca, rfl, hx, _, hB1⟩))
      all_goals (
        go_wp2
        go_meet
        exact ⟨ao, ca, rfl, rfl, hx, bstep (show Below w2.heap.size w2 w2.drew from below_drawN _ w2 1) hB1⟩)
    obtain ⟨ao, ca, rfl, rfl, hx, hB⟩ := hcut
    rename World => w3
    have HB3 := hid (bstep HB2.out hB)
    have k0 := cstep k0 hB
    have k1 := cstep k1 hB
    have k2 := cstep k2 hB
    have k3 := cstep k3 hB
    clear hB
    have HX := hid hx
    clear hx
    go_upto_region 6 with (fail)
    go_cut [9, 10] from 46 to 52 (fun a b w4 => ∃ ao ca, a = .slice ao B.pins.length ca ∧ b = .bool true ∧ IntsAt w4 ao Y ∧ Below w3.heap.size w3 w4)
    case first =>
      go_region_law (first | (go_simp; go_at_call 49; refine (H4.out _).mono ?_; rintro e wx ⟨rfl, rfl⟩) | (go_simp; go_at_call 53; refine (H6.out _ (bstep HB3.out (show Below w3.heap.size w3 w3.drew from below_drawN _ w3 1))).mono ?_; rintro e wx ⟨ao, ca, rfl, hx, _, hB1⟩))
      all_goals (
        go_wp2
        go_meet
        exact ⟨ao, ca, rfl, rfl, hx, bstep (show Below w3.heap.size w3 w3.drew from below_drawN _ w3 1) hB1⟩)
    obtain ⟨bo, cb, rfl, rfl, hy, hB⟩ := hcut
    rename World => w4
    have HB4 := hid (bstep HB3.out hB)
    have k0 := cstep k0 hB
    have k1 := cstep k1 hB
    have k2 := cstep k2 hB
    have k3 := cstep k3 hB
    have HX := hid (HX.out.mono hB)
    clear hB
    have HY := hid hy
    clear hy
    go_wp2
    go_loopw [11, 12, 13, 14, 15] (fun i _ _ _ _ wr => ∃ k : Nat, k ≤ B.pins.length + 1 ∧ i = .int .i64 k ∧ Below w4.heap.size w4 wr) (fun i _ _ _ _ _ => B.pins.length + 1 - (intOf i).toNat)
    case atStart => exact ⟨0, Nat.zero_le _, rfl, Below.refl _ _⟩
    case round =>
      obtain ⟨k, hk, rfl, hB⟩ := hrel
      obtain ⟨wk, rfl⟩ : ∃ wk : World, wk = wr := ⟨_, rfl⟩
      have HB := hid hB
      have k0 := cstep k0 hB
      have k1 := cstep k1 hB
      have HX := hid (HX.out.mono hB)
      have HY := hid (HY.out.mono hB)
      clear hB
      by_cases hlt : k ≤ B.pins.length
      · have hltI : (k : Int) ≤ (B.pins.length : Int) := by omega
        have hkm : k ≤ m + 1 := by have := Hm.out; omega
        go_upto_region 12 with (fail)
        go_cut [12, 13] from 64 to 71 (fun a b w5 => ∃ ao ca T, a = .slice ao B.pins.length ca ∧ b = .int .i64 0 ∧ RowsAt w5 ao T ∧ T.length = B.pins.length ∧ ((nthL T m).length = B.pins.length ∧ ∀ j, j ≤ m → nth (nthL T m) j = g k j) ∧ Below wk.heap.size wk w5)
        case first =>
          go_region_law (first | (go_simp; go_at_call 49; refine (H4.out _).mono ?_; rintro e wx ⟨rfl, rfl⟩) | (go_simp; go_at_call 22; refine (HB7.out k hkm _ (bstep HB4.out (bstep HB.out (show Below wk.heap.size wk wk.drew from below_drawN _ wk 1)))).mono ?_; rintro e wx ⟨ao, ca, T, rfl, hx, t1, t2, hB1⟩))
          all_goals (
            go_wp2
            go_meet
            exact ⟨ao, ca, T, rfl, rfl, hx, t1, t2, bstep (show Below wk.heap.size wk wk.drew from below_drawN _ wk 1) hB1⟩)
        obtain ⟨bo, cb, T, rfl, rfl, hT, tl, ⟨t2, t3⟩, hB⟩ := hcut
        rename World => w5
        have HB5 := hid (bstep HB.out hB)
        have k0 := cstep k0 hB
        have k1 := cstep k1 hB
        have HX := hid (HX.out.mono hB)
        have HY := hid (HY.out.mono hB)
        clear hB
        obtain ⟨tb, t_o, ra, rc, rfl, c0, i0, _⟩ := hT.at (j := m) (by have := Hm.out; omega)
        rw [t2] at c0
        obtain ⟨b0, o0, rfl, _⟩ := i0.at (k := 0) (by have := Hm.out; omega)
        have HR := hid i0; have Ht2 := hid t2; have Ht3 := hid t3; have Hkm := hid hkm; have Hlt := hid hlt
        clear i0 t2 t3 hT tl
        obtain ⟨h1, h2, h3⟩ := HCk.out k hkm
        have Hh1 := hid h1; have Hh2 := hid h2; have Hh3 := hid h3
        clear h1 h2 h3 hkm hlt
        go_wp2
        go_loopw [14, 15] (fun x j wr => ∃ n : Nat, n ≤ B.pins.length ∧ j = .int .i64 n ∧ x = .int .i64 (sumTo (fun j => f j * g k j) n) ∧ Below w5.heap.size w5 wr) (fun _ j _ => B.pins.length - (intOf j).toNat)
        case atStart => exact ⟨0, Nat.zero_le _, rfl, rfl, Below.refl _ _⟩
        case round =>
          obtain ⟨n, hn, rfl, rfl, hB⟩ := hrel
          obtain ⟨wi, rfl⟩ : ∃ wi : World, wi = wr := ⟨_, rfl⟩
          have HBi := hid hB
          have k0 := cstep k0 hB
          have k1 := cstep k1 hB
          have HX := hid (HX.out.mono hB)
          have HY := hid (HY.out.mono hB)
          have c0 := cstep c0 hB
          have HR := hid (HR.out.mono hB)
          clear hB
          by_cases hnt : n < B.pins.length
          · have hntI : (n : Int) < (B.pins.length : Int) := by omega
            have hnm : n ≤ m := by have := Hm.out; omega
            have c1 := HR.out.cell (k := n) (by rw [Ht2.out]; exact hnt)
            rw [Ht3.out n hnm] at c1
            obtain ⟨zb, zo, rfl, c2⟩ := HY.out.at (k := n) (by have := HYl.out.1; omega)
            rw [HYl.out.2 n hnt] at c2
            obtain ⟨⟨u1, u2⟩, ⟨u3, u4⟩, u5, u6⟩ := Hh1.out n hnm
            obtain ⟨s1, s2⟩ := Hh2.out n (by omega)
            obtain ⟨s3, s4⟩ := Hh2.out (n + 1) (by omega)
            have q1 : sumTo (fun j => f j * g k j) (n + 1) = sumTo (fun j => f j * g k j) n + f n * g k n := rfl
            obtain ⟨S, hS⟩ : ∃ S, S = sumTo (fun j => f j * g k j) n := ⟨_, rfl⟩
            obtain ⟨S2, hS2⟩ : ∃ S, S = sumTo (fun j => f j * g k j) (n + 1) := ⟨_, rfl⟩
            obtain ⟨x, hx⟩ : ∃ x, x = f n := ⟨_, rfl⟩
            obtain ⟨y, hy⟩ : ∃ x, x = g k n := ⟨_, rfl⟩
            rw [← hS, ← hS2, ← hx, ← hy] at q1
            rw [← hS] at s1 s2 ⊢
            rw [← hS2] at s3 s4
            rw [← hx] at u1 u2 u5 u6 c2
            rw [← hy] at u3 u4 u5 u6 c1
            obtain ⟨z, hz⟩ : ∃ z, z = x * y := ⟨_, rfl⟩
            rw [← hz] at q1 u5 u6
            have v1 : IntKind.i64.wrap (x * y) = z := by rw [← hz]; exact wrap_i64_of (by omega) (by omega)
            have v2 : IntKind.i64.wrap (S + z) = S2 := by rw [wrap_i64_of (by omega) (by omega)]; omega
            have v3 : decide (y < 0) = false := decide_eq_false (by omega)
            have v4 : decide (10 < y) = false := decide_eq_false (by omega)
            have v3b : ¬ y < 0 := by omega
            have v4b : ¬ 10 < y := by omega
            have v5 : IntKind.i64.wrap ((n : Int) + 1) = (n : Int) + 1 := wrap_i64_of (by omega) (by have := Hn.out; omega)
            have HS2 := hid hS2
            clear q1 hS hS2 hx hy hz u1 u2 u3 u4 u5 u6 s1 s2 s3 s4 hnm
            have jc0 := fun s : Later wi => cstep c0 s.h
            have jc1 := fun s : Later wi => cstep c1 s.h
            have jc2 := fun s : Later wi => cstep c2 s.h
            go_upto_region 21 with (fail)
            refine wp_region_later (by kernel_rfl) (by kernel_rfl) ?_
            repeat (go_big_quiet_step (fail))
            refine wpQuiet_nil ?_
            rintro w6 ⟨⟨_, hB⟩, rfl⟩
            clear jc0 jc1 jc2
            have HB6 := hid (bstep HBi.out hB)
            have k0 := cstep k0 hB
            have k1 := cstep k1 hB
            have c0 := cstep c0 hB
            have c1 := cstep c1 hB
            have c2 := cstep c2 hB
            clear hB
            go_wp2
            go_roundw
            case rel => exact ⟨n + 1, hnt, by go_num, by rw [HS2.out], HB6.out⟩
            case measure => simp [intOf]; omega
          · have hntI : ¬ (n : Int) < (B.pins.length : Int) := by omega
            have hnL : n = m + 1 := by have := Hm.out; omega
            rw [hnL, Hh3.out]
            clear hnL
            have hntI2 : ¬ ((m : Int) + 1 < (B.pins.length : Int)) := by have := Hm.out; omega
            obtain ⟨xb, xo, rfl, c3⟩ := HX.out.at (k := k) (by have := HXl.out.1; have := Hlt.out; omega)
            rw [HXl.out.2 k (by have := Hlt.out; omega)] at c3
            have v5 : IntKind.i64.wrap ((k : Int) + 1) = (k : Int) + 1 := wrap_i64_of (by omega) (by have := Hn.out; have := Hlt.out; omega)
            have v6 : (k : Int) < (B.pins.length : Int) + 1 := by have := Hlt.out; omega
            have v7 : (0 : Int) ≤ (k : Int) := by omega
            have hH := hid hk
            clear hk hn hnt
            go_wp2
            go_roundw
            case rel => exact ⟨k + 1, by have := Hlt.out; omega, by go_num, bstep HB5.out HBi.out⟩
            case measure => (have := Hlt.out; simp [intOf]; omega)
      · have hltI : ¬ (k : Int) ≤ (B.pins.length : Int) := by omega
        go_wp2_with fail
        refine (HW.out _).mono ?_
        rintro e w7 ⟨rfl, hB⟩
        have HB7 := hid (bstep HB.out hB)
        clear hB
        go_wp2
        go_ret
        exact ⟨rfl, bstep HB0.out (bstep HB4.out HB7.out)⟩
end

end Go.Proofs.Ytnnojhpioenhbaa
