/- The law PinsFallen. -/
import Derived.Test.YtnnojhpioenhbaaXLf
import Derived.Test.YtnnojhpioenhbaaXJb
import Derived.Test.YtnnojhpioenhbaaXQd
import Derived.Test.YtnnojhpioenhbaaKF
namespace Go.Proofs.Ytnnojhpioenhbaa
open Go.RowKit Go.Shelf

section
variable (pa : Option Addr) (pc : Nat) (ya : Option Addr) (yc : Nat) (B : Bd) (n1 n2 n3 : Nat) (w : World)
set_option maxRecDepth 100000 in
set_option maxHeartbeats 8000000 in
theorem pinsFallen_c (hworks : WorksC) (hb : BdAt w pa ya B) (w1 : n1 < 256) (w2 : n2 < 256) (w3 : n3 < 256) : Calls Try.prog 14 #[.agg #[.slice pa B.pins.length pc, .slice ya B.pays.length yc], .int .u8 (n1 : Int), .int .u8 (n2 : Int), .int .u8 (n3 : Int)] w (TellB w true) := by
  have HW := hid hworks
  obtain ⟨V, hV, hB0, k0, k1⟩ := box1 w (.slice pa B.pins.length pc) (.slice ya B.pays.length yc) 25
  have hbV := hb.mono hB0
  have HB0 := hid hB0; have HV := hid hV; have HV0 := hid (Below.refl V.heap.size V)
  have K0 := hid k0; have K1 := hid k1
  have HG := hid (fine_c pa pc ya yc B V hbV)
  unfold WorksC TellB at *
  cases hg : fineB B with
  | false =>
    rw [hg] at HG
    clear hworks hb hV hB0 hbV hg
    go_enter Try.func14, Try.ntmps14
    go_upto_region 1 with (fail)
    rw [← HV.out]
    go_wp2_with fail
    refine (HG.out).mono ?_
    rintro e w1 ⟨rfl, hB⟩
    have HB1 := hid (bstep HV0.out hB)
    clear hB
    go_wp2_with fail
    refine (HW.out _).mono ?_
    rintro e w2 ⟨rfl, hB⟩
    have HB2 := hid (bstep HB1.out hB)
    clear hB
    go_wp2
    go_ret
    exact ⟨rfl, bstep HB0.out HB2.out⟩
  | true =>
    rw [hg] at HG
    have hBk := bok_iff.1 (fineB_zero hg)
    have hn := hBk.n8; have hn1 := hBk.n1; have hpy := hBk.pays
    have hlv := givN_lv n1
    have H4 := hid fun (w' : World) => given_c n1 w' w1
    unfold TellI at H4
    obtain ⟨lv, hlvE⟩ : ∃ a, a = givN n1 := ⟨_, rfl⟩
    rw [← hlvE] at H4 hlv
    have h0 : atErr B lv = 0 := atErr_zero.2 ⟨hBk, hlv⟩
    obtain ⟨b, hbM, hpx, hfx, hf0, hfm, hfb, hsum⟩ := fallen_ok hBk hlv
    obtain ⟨s, hs⟩ : ∃ s, s = n2 % (B.pins.length + 1) := ⟨_, rfl⟩
    have hsn : s ≤ B.pins.length := by have := Nat.mod_lt n2 (show 0 < B.pins.length + 1 by omega); omega
    have hpow : (2 : Nat) ^ B.pins.length ≤ 2 ^ 8 := Nat.pow_le_pow_right (by omega) hn
    have hpos : 0 < 2 ^ B.pins.length := Nat.pow_pos (by omega)
    obtain ⟨M, hM⟩ : ∃ M, M = 2 ^ B.pins.length := ⟨_, rfl⟩
    have hM8 : M ≤ 256 := by omega
    have eM : IntKind.i64.wrap ((2 : Int) ^ B.pins.length) = (M : Int) := by
      rw [show (2 : Int) ^ B.pins.length = (M : Int) by rw [hM]; simp]
      exact wrap_i64_of (by omega) (by omega)
    have hmin : min B.pins.length 64 = B.pins.length := by omega
    rw [← hM] at hbM hfm hfb hpos
    have hsum := hsum s
    rw [← hM] at hsum
    obtain ⟨q, hq⟩ : ∃ q, q = n3 % M := ⟨_, rfl⟩
    have eS : Int.tmod (n2 : Int) ((B.pins.length : Int) + 1) = (s : Int) := by have := tmod_nat n2 (B.pins.length + 1); rw [← hs] at this; simpa using this
    have eQ : Int.tmod (n3 : Int) (M : Int) = (q : Int) := by rw [tmod_nat, hq]
    have hsz : ¬ (B.pins.length : Int) + 1 = 0 := by omega
    have hMz : ¬ (M : Int) = 0 := by omega
    have hql : q < M := by rw [hq]; exact Nat.mod_lt _ (by omega)
    have e2 : IntKind.i64.wrap (n2 : Int) = (n2 : Int) := wrap_i64_of (by omega) (by omega)
    have e3 : IntKind.i64.wrap (n3 : Int) = (n3 : Int) := wrap_i64_of (by omega) (by omega)
    have e4 : IntKind.i64.wrap (s : Int) = (s : Int) := wrap_i64_of (by omega) (by omega)
    have e5 : IntKind.i64.wrap (q : Int) = (q : Int) := wrap_i64_of (by omega) (by omega)
    have e6 : IntKind.i64.wrap ((B.pins.length : Int) + 1) = (B.pins.length : Int) + 1 := wrap_i64_of (by omega) (by omega)
    have H5 := hid fun (w' : World) (h : Below V.heap.size V w') => waysLaw_c pa pc ya yc B lv w' (hbV.mono h) hBk hlv
    have H6 := hid fun (w' : World) (h : Below V.heap.size V w') => pPath_c pa pc ya yc B lv w' (hbV.mono h) (by omega) (by omega)
    have H7 := hid fun (i : Nat) (a : Option Addr) (c : Nat) (w' : World) (h : Below V.heap.size V w') (ha : IntsAt w' a (numb B.pins.length i)) => (show Calls Try.prog 28 #[.agg #[.slice pa B.pins.length pc, .slice ya B.pays.length yc], .int .i64 lv, .slice a B.pins.length c] w' (IntE w' 0 (falN B lv i)) from by
      have := pFalls_c a c (numb B.pins.length i) pa pc ya yc B lv w' (hbV.mono h) (by omega) (by omega) ha (by rw [numb_len]; omega)
      rw [(hfx i).1, (hfx i).2, numb_len] at this
      exact this)
    have H8 := hid fun (i : Nat) (w' : World) (hi : i < 256) => numbered_c B.pins.length i w' hn hi
    have H9 := hid fun (i : Nat) (a1 a2 : Option Addr) (c1 c2 : Nat) (w' : World) (hx : IntsAt w' a1 (numb B.pins.length i)) (hy : IntsAt w' a2 (numb B.pins.length b)) => (show Calls Try.prog 60 #[.slice a1 B.pins.length c1, .slice a2 B.pins.length c2] w' (TellB w' (beforeL (numb B.pins.length i) (numb B.pins.length b))) from by
      have := before_c a1 a2 c1 c2 _ _ w' hx hy (by rw [numb_len]; omega)
      rw [numb_len, numb_len] at this
      exact this)
    unfold SliceE at H6
    unfold IntE at H7
    unfold TellB at H9
    rw [h0, hpx, numb_len] at H6
    have hX := waysX_ok hBk hlv
    obtain ⟨X, hXX⟩ : ∃ f, f = waysX B lv := ⟨_, rfl⟩
    rw [← hXX] at H5 hX
    obtain ⟨f, hf⟩ : ∃ f, f = falN B lv := ⟨_, rfl⟩
    obtain ⟨sl, hsl⟩ : ∃ sl : Nat → Nat, sl = fun i => slotOf (Rt B lv) (numb B.pins.length i) := ⟨_, rfl⟩
    have hps : ∀ i, sumTo (nth (numb B.pins.length i)) B.pins.length = (sl i : Nat) := fun i => by rw [hsl]; exact psum_slot _ _ _
    have hsum2 : sumTo (fun i => if sl i = s then f i else 0) M = nth X s := by rw [hX.2.2.1 s (by omega), ← hsum, hsl, hf]
    rw [← hf] at H7 hf0 hfm hfb
    have hslb : ∀ i, sl i ≤ B.pins.length := fun i => by have := psum_ok B.pins.length i B.pins.length (Nat.le_refl _); rw [hps i] at this; omega
    have hpart : ∀ k, k ≤ M → 0 ≤ sumTo (fun i => if sl i = s then f i else 0) k ∧ sumTo (fun i => if sl i = s then f i else 0) k ≤ 100000000 := fun k hk => by
      have h1 := sumTo_mid (f := fun i => if sl i = s then f i else 0) (n := M) (fun j _ => by split; exact (hf0 j).1; exact Int.le_refl _) k hk
      have h2 := (hX.2.2.2 s (by omega)).2
      rw [hsum2] at h1; omega
    have Hf0 := hid hf0; have Hfm := hid hfm; have Hfb := hid hfb; have Hps := hid hps; have Hsum := hid hsum2; have Hslb := hid hslb; have Hpart := hid hpart; have HXl := hid hX.2.1
    have Hsn := hid hsn; have Hn := hid hn; have HM8 := hid hM8; have Hql := hid hql; have Hpsb := hid (psum_ok B.pins.length); have Hnb := hid (fun i k (hk : k < B.pins.length) => numb_nth B.pins.length i hk)
    clear hworks hb hV hB0 hbV hg hn hn1 hpy hlv hlvE h0 hbM hpx hfx hf0 hfm hfb hsum hs hsn hpow hpos hM hM8 hq hql hX hXX hf hsl hps hsum2 hslb hpart hBk
    go_enter Try.func14, Try.ntmps14
    go_upto_region 1 with (fail)
    rw [← HV.out]
    go_wp2_with fail
    refine (HG.out).mono ?_
    rintro e w1 ⟨rfl, hB⟩
    have HB1 := hid (bstep HV0.out hB)
    have k0 := cstep k0 hB
    have k1 := cstep k1 hB
    clear hB
    have H4b := hid fun s : Later w1 => H4.out s.w'
    go_upto_region 4 with (fail)
    refine wp_region_later (by kernel_rfl) (by kernel_rfl) ?_
    repeat (go_big_quiet_step ((first | (go_at_call 49; with_reducible exact callsLater (H4b.out _)))))
    refine wpQuiet_nil ?_
    rintro w2 ⟨⟨_, hB⟩, rfl⟩
    clear H4b
    have HB2 := hid (bstep HB1.out hB)
    have k0 := cstep k0 hB
    have k1 := cstep k1 hB
    clear hB
    go_wp2_with fail
    refine (H5.out _ HB2.out).mono ?_
    rintro e w3 ⟨ao, ca, rfl, hx, _, hB⟩
    have HB3 := hid (bstep HB2.out hB)
    have k0 := cstep k0 hB
    have k1 := cstep k1 hB
    clear hB
    have HX := hid hx
    clear hx
    go_wp2_with fail
    refine (H6.out _ HB3.out).mono ?_
    rintro e w4 ⟨bo, cb, rfl, hy, _, hB⟩
    have HB4 := hid (bstep HB3.out hB)
    have k0 := cstep k0 hB
    have k1 := cstep k1 hB
    have HX := hid (HX.out.mono hB)
    clear hB
    have HY := hid hy
    clear hy
    go_wp2_with fail
    refine (H7.out b bo cb _ HB4.out HY.out).mono ?_
    rintro e w5 ⟨rfl, hB⟩
    have HB5 := hid (bstep HB4.out hB)
    have k0 := cstep k0 hB
    have k1 := cstep k1 hB
    have HX := hid (HX.out.mono hB)
    have HY := hid (HY.out.mono hB)
    clear hB
    obtain ⟨mo, hmo⟩ : ∃ m, m = f b := ⟨_, rfl⟩
    rw [← hmo]
    have Hmo := hid hmo
    clear hmo
    go_wp2
    go_loopw [17, 18, 19, 20, 21, 22, 23] (fun t i _ _ _ _ _ wr => ∃ k : Nat, k ≤ M ∧ i = .int .i64 k ∧ t = .int .i64 (sumTo (fun i => if sl i = s then f i else 0) k) ∧ Below w5.heap.size w5 wr) (fun _ i _ _ _ _ _ _ => M - (intOf i).toNat)
    case atStart => exact ⟨0, Nat.zero_le _, rfl, rfl, Below.refl _ _⟩
    case round =>
      obtain ⟨k, hk, rfl, rfl, hB⟩ := hrel
      obtain ⟨wk, rfl⟩ : ∃ wk : World, wk = wr := ⟨_, rfl⟩
      have HB := hid hB
      have k0 := cstep k0 hB
      have k1 := cstep k1 hB
      have HX := hid (HX.out.mono hB)
      have HY := hid (HY.out.mono hB)
      clear hB
      by_cases hlt : k < M
      · have hltI : (k : Int) < (M : Int) := by omega
        have v1 : IntKind.i64.wrap ((k : Int) + 1) = (k : Int) + 1 := wrap_i64_of (by omega) (by have := HM8.out; omega)
        have hp1 := Hpart.out k (by omega)
        have hp2 := Hpart.out (k + 1) (by omega)
        have hst : sumTo (fun i => if sl i = s then f i else 0) (k + 1) = sumTo (fun i => if sl i = s then f i else 0) k + (if sl k = s then f k else 0) := rfl
        have hfk := Hf0.out k; have hfk2 := Hfm.out k hlt; have hfk3 := Hfb.out k hlt
        obtain ⟨F, hF⟩ : ∃ F, F = f k := ⟨_, rfl⟩
        obtain ⟨T, hT⟩ : ∃ T, T = sumTo (fun i => if sl i = s then f i else 0) k := ⟨_, rfl⟩
        obtain ⟨T2, hT2⟩ : ∃ T, T = sumTo (fun i => if sl i = s then f i else 0) (k + 1) := ⟨_, rfl⟩
        rw [← hF] at hst hfk hfk2 hfk3
        rw [← hT] at hp1 hst ⊢
        rw [← hT2] at hp2 hst
        have H7k := hid (H7.out k)
        rw [← hF] at H7k
        rw [← Hmo.out] at hfk2 hfk3
        have v2 : decide (F < 0) = false := decide_eq_false (by omega)
        have v3 : decide (mo < F) = false := decide_eq_false (by omega)
        have v2b : ¬ F < 0 := by omega
        have v3b : ¬ mo < F := by omega
        have Hst := hid hst; have HT2 := hid hT2; have Hp1 := hid hp1; have Hp2 := hid hp2; have Hfk3 := hid hfk3
        clear hst hT2 hp1 hp2 hfk hfk2 hfk3 hF hT
        go_wp2_with fail
        refine (H8.out k _ (by have := HM8.out; omega)).mono ?_
        rintro e w6 ⟨rfl, hh, hB⟩
        have HB6 := hid (bstep HB.out hB)
        have k0 := cstep k0 hB
        have k1 := cstep k1 hB
        have HX := hid (HX.out.mono hB)
        have HY := hid (HY.out.mono hB)
        clear hB
        have HP := hid (ints_of_row hh)
        clear hh
        obtain ⟨pb, hpb⟩ : ∃ b, b = wk.heap.size := ⟨_, rfl⟩
        rw [← hpb] at HP ⊢
        clear hpb
        go_wp2
        go_loopw [20, 21] (fun x j wr => ∃ n : Nat, n ≤ B.pins.length ∧ j = .int .i64 n ∧ x = .int .i64 (sumTo (nth (numb B.pins.length k)) n) ∧ wr = w6) (fun _ j _ => B.pins.length - (intOf j).toNat)
        case atStart => exact ⟨0, Nat.zero_le _, rfl, rfl, rfl⟩
        case round =>
          obtain ⟨n, hn, rfl, rfl, rfl⟩ := hrel
          by_cases hnt : n < B.pins.length
          · have hntI : (n : Int) < (B.pins.length : Int) := by omega
            have c1 := HP.out.cell (k := n) (by rw [numb_len]; exact hnt)
            rw [Nat.zero_add] at c1
            have h1 := Hpsb.out k n (by omega)
            have h2 := Hnb.out k n hnt
            have q1 : sumTo (nth (numb B.pins.length k)) (n + 1) = sumTo (nth (numb B.pins.length k)) n + nth (numb B.pins.length k) n := rfl
            obtain ⟨S, hS⟩ : ∃ S, S = sumTo (nth (numb B.pins.length k)) n := ⟨_, rfl⟩
            obtain ⟨x, hx⟩ : ∃ x, x = nth (numb B.pins.length k) n := ⟨_, rfl⟩
            rw [← hS, ← hx] at q1
            rw [← hS] at h1 ⊢
            rw [← hx] at h2 c1
            have v5 : IntKind.i64.wrap (S + x) = S + x := wrap_i64_of (by omega) (by have := Hn.out; omega)
            have v6 : IntKind.i64.wrap ((n : Int) + 1) = (n : Int) + 1 := wrap_i64_of (by omega) (by have := Hn.out; omega)
            have Hq1 := hid q1
            clear q1 hS hx h1 h2
            go_wp2
            go_roundw
            case rel => exact ⟨n + 1, hnt, by go_num, by rw [Hq1.out], trivial⟩
            case measure => simp [intOf]; omega
          · have hntI : ¬ (n : Int) < (B.pins.length : Int) := by omega
            have hnL : n = B.pins.length := by omega
            rw [hnL, Hps.out]
            clear hn hntI hnt
            have hNN : ¬ (B.pins.length : Int) < (B.pins.length : Int) := by omega
            by_cases hsl : sl k = s
            · have v4 : (((sl k : Nat) : Int) != (s : Int)) = false := by simp [hsl]
              have v4b : (((sl k : Nat) : Int) == (s : Int)) = true := by simp [hsl]
              have hst := Hst.out
              rw [if_pos hsl] at hst
              have v8 : IntKind.i64.wrap (T + F) = T2 := by have := Hp1.out; have := Hp2.out; rw [wrap_i64_of (by omega) (by omega)]; omega
              have Hsl := hid hsl
              clear hsl hst
              go_wp2_with fail
              refine (H7k.out _ _ _ (bstep HB5.out HB6.out) HP.out).mono ?_
              rintro e w7 ⟨rfl, hB⟩
              have HB7 := hid (bstep HB6.out hB)
              have k0 := cstep k0 hB
              have k1 := cstep k1 hB
              have HX := hid (HX.out.mono hB)
              have HY := hid (HY.out.mono hB)
              have HP := hid (HP.out.mono hB)
              clear hB
              by_cases hfm : F = mo
              · have v7 : ((F : Int) == mo) = true := by simp [hfm]
                have hbf := hid (Hfk3.out hfm)
                have H9k := hid (H9.out k)
                rw [hbf.out] at H9k
                have Hfm2 := hid hfm
                clear hfm
                go_wp2_with fail
                refine (H9k.out _ _ _ _ _ HP.out HY.out).mono ?_
                rintro e w8 ⟨rfl, hB⟩
                have HB8 := hid (bstep HB7.out hB)
                have k0 := cstep k0 hB
                have k1 := cstep k1 hB
                have HX := hid (HX.out.mono hB)
                have HY := hid (HY.out.mono hB)
                have HP := hid (HP.out.mono hB)
                clear hB
                go_wp2
                go_roundw
                case rel => exact ⟨k + 1, by omega, by go_num, by rw [HT2.out], HB8.out⟩
                case measure => simp [intOf]; omega
              · have v7 : ((F : Int) == mo) = false := by simpa using hfm
                clear hfm
                go_wp2
                go_roundw
                case rel => exact ⟨k + 1, by omega, by go_num, by rw [HT2.out], HB7.out⟩
                case measure => simp [intOf]; omega
            · have v4 : (((sl k : Nat) : Int) != (s : Int)) = true := by simp; omega
              have v4b : (((sl k : Nat) : Int) == (s : Int)) = false := by simp; omega
              have hst := Hst.out
              rw [if_neg hsl, Int.add_zero] at hst
              have Hst2 := hid hst
              clear hst hsl
              by_cases hkq : k = q
              · have v9 : ((k : Int) != (q : Int)) = false := by simp [hkq]
                have Hkq := hid hkq
                clear hkq
                go_wp2_with fail
                refine (H7k.out _ _ _ (bstep HB5.out HB6.out) HP.out).mono ?_
                rintro e w9 ⟨rfl, hB⟩
                have HB9 := hid (bstep HB6.out hB)
                have k0 := cstep k0 hB
                have k1 := cstep k1 hB
                have HX := hid (HX.out.mono hB)
                have HY := hid (HY.out.mono hB)
                have HP := hid (HP.out.mono hB)
                clear hB
                by_cases hfm : F = mo
                · have v7 : ((F : Int) == mo) = true := by simp [hfm]
                  have hbf := hid (Hfk3.out hfm)
                  have H9k := hid (H9.out k)
                  rw [hbf.out] at H9k
                  have Hfm2 := hid hfm
                  clear hfm
                  go_wp2_with fail
                  refine (H9k.out _ _ _ _ _ HP.out HY.out).mono ?_
                  rintro e w10 ⟨rfl, hB⟩
                  have HB10 := hid (bstep HB9.out hB)
                  have k0 := cstep k0 hB
                  have k1 := cstep k1 hB
                  have HX := hid (HX.out.mono hB)
                  have HY := hid (HY.out.mono hB)
                  have HP := hid (HP.out.mono hB)
                  clear hB
                  go_wp2
                  go_roundw
                  case rel => exact ⟨k + 1, by omega, by go_num, by rw [← HT2.out, Hst2.out], HB10.out⟩
                  case measure => simp [intOf]; omega
                · have v7 : ((F : Int) == mo) = false := by simpa using hfm
                  clear hfm
                  go_wp2
                  go_roundw
                  case rel => exact ⟨k + 1, by omega, by go_num, by rw [← HT2.out, Hst2.out], HB9.out⟩
                  case measure => simp [intOf]; omega
              · have v9 : ((k : Int) != (q : Int)) = true := by simp; omega
                clear hkq
                go_wp2
                go_roundw
                case rel => exact ⟨k + 1, by omega, by go_num, by rw [← HT2.out, Hst2.out], HB6.out⟩
                case measure => simp [intOf]; omega
      · have hltI : ¬ (k : Int) < (M : Int) := by omega
        have hkM : k = M := by omega
        rw [hkM, Hsum.out]
        obtain ⟨xb, xo, rfl, c3⟩ := HX.out.at (k := s) (by have := HXl.out; have := Hsn.out; omega)
        have hMM : ¬ (M : Int) < (M : Int) := by omega
        have v6 : (s : Int) < (B.pins.length : Int) + 1 := by have := Hsn.out; omega
        obtain ⟨z, hz⟩ : ∃ z, z = nth X s := ⟨_, rfl⟩
        rw [← hz] at c3 ⊢
        clear hkM hz hk hlt hltI
        go_wp2_with fail
        refine (HW.out _).mono ?_
        rintro e w11 ⟨rfl, hB⟩
        have HB11 := hid (bstep HB.out hB)
        clear hB
        go_wp2
        go_ret
        exact ⟨rfl, bstep HB0.out (bstep HB5.out HB11.out)⟩
end

end Go.Proofs.Ytnnojhpioenhbaa
