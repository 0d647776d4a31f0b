/- The law PinsRises. -/
import Derived.Test.YtnnojhpioenhbaaXLf
import Derived.Test.YtnnojhpioenhbaaXLb
namespace Go.Proofs.Ytnnojhpioenhbaa
open Go.RowKit Go.Shelf

theorem Sf_le_zero {G : Nat → Nat → Int} {n : Nat} (hG : Rok G n) : ∀ d, Sf G n d ≤ Sf G n 0 := by
  intro d
  induction d with
  | zero => exact Int.le_refl _
  | succ d ih => have h := Sf_succ G n d; have := W_nonneg hG d; omega
theorem Sf_ok {G : Nat → Nat → Int} {n : Nat} (hG : Rok G n) (hn : n ≤ 8) (j : Nat) : 0 ≤ Sf G n j ∧ Sf G n j ≤ 100000000 := by
  have h1 := Sf_le_zero hG j
  rw [Sf_zero] at h1
  have h2 := pow8 hn
  exact ⟨Sf_mono_row hG j, by omega⟩
/-- whether no pay from a slot on is less than the one before it -/
def ris (P : List Int) : Nat → Nat → Bool
  | _, 0 => true
  | j, d + 1 => ris P (j + 1) d && (decide (j = 0) || decide (nth P (j - 1) ≤ nth P j))
theorem ris_all {P : List Int} : ∀ d j, ris P j d = true → ∀ i, j ≤ i → i < j + d → i = 0 ∨ nth P (i - 1) ≤ nth P i := by
  intro d
  induction d with
  | zero => intro j _ i h1 h2; omega
  | succ d ih =>
    intro j h i h1 h2
    rw [ris, Bool.and_eq_true] at h
    by_cases e : i = j
    · subst e; simpa using h.2
    · exact ih (j + 1) h.1 i (by omega) (by omega)
theorem wp_ite_dummy : True := trivial
section
variable (pa : Option Addr) (pc : Nat) (ya : Option Addr) (yc : Nat) (B : Bd) (n1 n2 : Nat) (w : World)
set_option maxRecDepth 100000 in
set_option maxHeartbeats 8000000 in
theorem pinsRises_c (hworks : WorksC) (hb : BdAt w pa ya B) (w1 : n1 < 256) (w2 : n2 < 256) : Calls Try.prog 9 #[.agg #[.slice pa B.pins.length pc, .slice ya B.pays.length yc], .int .u8 (n1 : Int), .int .u8 (n2 : Int)] w (TellB w true) := by
  have HW := hid hworks
  obtain ⟨V, hV, hB0, k0, k1⟩ := box1 w (.slice pa B.pins.length pc) (.slice ya B.pays.length yc) 25
  have hbV := hb.mono hB0
  have HB0 := hid hB0; have HV := hid hV; have HV0 := hid (Below.refl V.heap.size V)
  have K0 := hid k0; have K1 := hid k1
  have HG := hid (fine_c pa pc ya yc B V hbV)
  unfold WorksC TellB at *
  cases hg : fineB B with
  | false =>
    rw [hg] at HG
    clear hworks hb hV hB0 hbV hg
    go_enter Try.func9, Try.ntmps9
    go_upto_region 1 with (fail)
    rw [← HV.out]
    go_wp2_with fail
    refine (HG.out).mono ?_
    rintro e w1 ⟨rfl, hB⟩
    have HB1 := hid (bstep HV0.out hB)
    clear hB
    go_wp2_with fail
    refine (HW.out _).mono ?_
    rintro e w2 ⟨rfl, hB⟩
    have HB2 := hid (bstep HB1.out hB)
    clear hB
    go_wp2
    go_ret
    exact ⟨rfl, bstep HB0.out HB2.out⟩
  | true =>
    rw [hg] at HG
    have hBk := bok_iff.1 (fineB_zero hg)
    have hn := hBk.n8; have hn1 := hBk.n1; have hp := hBk.pays
    have hl1 := givN_lv n1; have hl2 := givN_lv n2
    have H4 := hid fun (w' : World) => given_c n1 w' w1
    have H5 := hid fun (w' : World) => given_c n2 w' w2
    unfold TellI at H4 H5
    obtain ⟨a, ha⟩ : ∃ a, a = givN n1 := ⟨_, rfl⟩
    obtain ⟨b, hbb⟩ : ∃ a, a = givN n2 := ⟨_, rfl⟩
    rw [← ha] at H4 hl1
    rw [← hbb] at H5 hl2
    obtain ⟨lo, hmin, hi, hmax, hlo, hhi, hle⟩ : ∃ lo, (if b < a then b else a) = lo ∧ ∃ hi, (if a < b then b else a) = hi ∧ (-5 ≤ lo ∧ lo ≤ 5) ∧ (-5 ≤ hi ∧ hi ≤ 5) ∧ lo ≤ hi := by
      refine ⟨_, rfl, _, rfl, ?_, ?_, ?_⟩
      · split <;> omega
      · split <;> omega
      · split <;> split <;> omega
    have H6 := hid fun (w' : World) (h : Below V.heap.size V w') => waysLaw_c pa pc ya yc B lo w' (hbV.mono h) hBk hlo
    have H7 := hid fun (w' : World) (h : Below V.heap.size V w') => waysLaw_c pa pc ya yc B hi w' (hbV.mono h) hBk hhi
    have H8 := hid fun (w' : World) (h : Below V.heap.size V w') => pPay_c pa pc ya yc B lo w' (hbV.mono h) (by omega) (by omega)
    have H9 := hid fun (w' : World) (h : Below V.heap.size V w') => pPay_c pa pc ya yc B hi w' (hbV.mono h) (by omega) (by omega)
    have e1 : atErr B lo = 0 := atErr_zero.2 ⟨hBk, hlo⟩
    have e2 : atErr B hi = 0 := atErr_zero.2 ⟨hBk, hhi⟩
    have e3 : payX B lo = payQ B lo := by unfold payX; rw [if_pos e1]
    have e4 : payX B hi = payQ B hi := by unfold payX; rw [if_pos e2]
    have p1 := payB_pay hBk hlo
    have p2 := payB_pay hBk hhi
    rw [e1, e3] at H8
    rw [e2, e4] at H9
    have hless : ris B.pays 0 (B.pins.length + 1) = true → lessP (payQ B hi) (payQ B lo) = false := by
      intro hr
      have hra := ris_all _ _ hr
      have := payN_le hBk hle (fun i hi => by have := hra (i + 1) (by omega) (by omega); rw [show i + 1 - 1 = i by omega] at this; omega)
      unfold payQ
      rw [lessP_pay hBk]
      exact decide_eq_false (by omega)
    obtain ⟨p, hp1⟩ : ∃ p, p = payQ B lo := ⟨_, rfl⟩
    obtain ⟨q, hq1⟩ : ∃ p, p = payQ B hi := ⟨_, rfl⟩
    rw [← hp1] at H8 hless p1
    rw [← hq1] at H9 hless p2
    have H10 := hid fun (w' : World) => isPay_c p w'
    have H11 := hid fun (w' : World) => isPay_c q w'
    have H12 := hid fun (w' : World) => lessP_c q p w' p2 p1
    rw [p1] at H10
    rw [p2] at H11
    unfold QE at H8 H9
    unfold TellB at H10 H11 H12
    have hW1 := waysX_ok hBk hlo
    have hW2 := waysX_ok hBk hhi
    have hG1 := Rt_ok B lo B.pins.length
    have hG2 := Rt_ok B hi B.pins.length
    have hSle : ∀ j, Sf (Rt B lo) B.pins.length j ≤ Sf (Rt B hi) B.pins.length j := fun j => Sf_le hG1 hG2 (fun r k _ _ => by unfold Rt; generalize nth (nthL B.pins r) k = z; omega) _ (Nat.le_refl _) j
    have hS1 := Sf_ok hG1 hn
    have hS2 := Sf_ok hG2 hn
    have hX : (waysX B lo).length = B.pins.length + 1 ∧ ∀ m, m < B.pins.length + 1 → Sf (Rt B lo) B.pins.length m = nth (waysX B lo) m + Sf (Rt B lo) B.pins.length (m + 1) ∧ 0 ≤ nth (waysX B lo) m ∧ nth (waysX B lo) m ≤ 100000000 := ⟨hW1.2.1, fun m hm => ⟨by rw [hW1.2.2.1 m hm]; exact Sf_succ _ _ _, hW1.2.2.2 m hm⟩⟩
    have hY : (waysX B hi).length = B.pins.length + 1 ∧ ∀ m, m < B.pins.length + 1 → Sf (Rt B hi) B.pins.length m = nth (waysX B hi) m + Sf (Rt B hi) B.pins.length (m + 1) ∧ 0 ≤ nth (waysX B hi) m ∧ nth (waysX B hi) m ≤ 100000000 := ⟨hW2.2.1, fun m hm => ⟨by rw [hW2.2.2.1 m hm]; exact Sf_succ _ _ _, hW2.2.2.2 m hm⟩⟩
    have hf0 : Sf (Rt B lo) B.pins.length (B.pins.length + 1) = 0 := Sf_far (Rt B lo) (Nat.lt_succ_self B.pins.length)
    have hg0 : Sf (Rt B hi) B.pins.length (B.pins.length + 1) = 0 := Sf_far (Rt B hi) (Nat.lt_succ_self B.pins.length)
    obtain ⟨f, hf⟩ : ∃ f, f = Sf (Rt B lo) B.pins.length := ⟨_, rfl⟩
    obtain ⟨g, hgg⟩ : ∃ f, f = Sf (Rt B hi) B.pins.length := ⟨_, rfl⟩
    obtain ⟨X, hXX⟩ : ∃ f, f = waysX B lo := ⟨_, rfl⟩
    obtain ⟨Y, hYY⟩ : ∃ f, f = waysX B hi := ⟨_, rfl⟩
    rw [← hf] at hSle hS1 hX hf0
    rw [← hgg] at hSle hS2 hY hg0
    rw [← hXX] at H6 hX
    rw [← hYY] at H7 hY
    have HX' := hid hX; have HY' := hid hY; have HSle := hid hSle; have HS1 := hid hS1; have HS2 := hid hS2; have Hless := hid hless; have Hn := hid hn; have Hf0 := hid hf0; have Hg0 := hid hg0
    have HPy := hid hbV.2
    obtain ⟨yb, yo, hya, _⟩ := hbV.2.at (k := 0) (by omega)
    have Hpl := hid hp
    have elen : IntKind.i64.wrap (B.pins.length : Int) = (B.pins.length : Int) := wrap_i64_of (by omega) (by omega)
    clear hworks hb hV hB0 hbV hg hBk hn hn1 hp hl1 hl2 ha hbb hlo hhi hle e1 e2 e3 e4 p1 p2 hless hp1 hq1 hW1 hW2 hG1 hG2 hSle hS1 hS2 hX hY hf hgg hXX hYY hf0 hg0
    subst hya
    go_enter Try.func9, Try.ntmps9
    go_upto_region 1 with (fail)
    rw [← HV.out]
    go_wp2_with fail
    refine (HG.out).mono ?_
    rintro e w1 ⟨rfl, hB⟩
    have HB1 := hid (bstep HV0.out hB)
    have k0 := cstep k0 hB
    have k1 := cstep k1 hB
    clear hB
    go_wp2_with fail
    refine (H4.out _).mono ?_
    rintro e w2 ⟨rfl, hB⟩
    have HB2 := hid (bstep HB1.out hB)
    have k0 := cstep k0 hB
    have k1 := cstep k1 hB
    clear hB
    go_wp2_with fail
    refine (H5.out _).mono ?_
    rintro e w3 ⟨rfl, hB⟩
    have HB3 := hid (bstep HB2.out hB)
    have k0 := cstep k0 hB
    have k1 := cstep k1 hB
    clear hB
    go_wp2_with fail
    refine (H4.out _).mono ?_
    rintro e w4 ⟨rfl, hB⟩
    have HB4 := hid (bstep HB3.out hB)
    have k0 := cstep k0 hB
    have k1 := cstep k1 hB
    clear hB
    go_wp2_with fail
    refine (H5.out _).mono ?_
    rintro e w5 ⟨rfl, hB⟩
    have HB5 := hid (bstep HB4.out hB)
    have k0 := cstep k0 hB
    have k1 := cstep k1 hB
    clear hB
    go_wp2_with fail
    refine (H6.out _ HB5.out).mono ?_
    rintro e w6 ⟨ao, ca, rfl, hx, _, hB⟩
    have HB6 := hid (bstep HB5.out hB)
    have k0 := cstep k0 hB
    have k1 := cstep k1 hB
    clear hB
    have HX := hid hx
    clear hx
    go_wp2_with fail
    refine (H7.out _ HB6.out).mono ?_
    rintro e w7 ⟨bo, cb, rfl, hy, _, hB⟩
    have HB7 := hid (bstep HB6.out hB)
    have k0 := cstep k0 hB
    have k1 := cstep k1 hB
    have HX := hid (HX.out.mono hB)
    clear hB
    have HY := hid hy
    clear hy
    go_wp2_with fail
    refine (H8.out _ HB7.out).mono ?_
    rintro e w8 ⟨rfl, hB⟩
    have HB8 := hid (bstep HB7.out hB)
    have k0 := cstep k0 hB
    have k1 := cstep k1 hB
    have HX := hid (HX.out.mono hB)
    have HY := hid (HY.out.mono hB)
    clear hB
    go_upto_region 7 with (fail)
    obtain ⟨w9, hY⟩ : ∃ y, y = (w8.alloc (.cells #[.int .i64 p.1, .int .i64 p.2] 32)) := ⟨_, rfl⟩
    have hB : Below w8.heap.size w8 w9 := by rw [hY]; exact bnew _ _
    have QA := hid (show Q2 w9 (w8.heap.size) p.1 p.2 by rw [hY]; constructor <;> simp [go_sem])
    rw [← hY]
    obtain ⟨qa, hqa⟩ : ∃ q, q = w8.heap.size := ⟨_, rfl⟩
    rw [← hqa] at QA ⊢
    clear hY hqa
    have HB9 := hid (bstep HB8.out hB)
    have k0 := cstep k0 hB
    have k1 := cstep k1 hB
    have HX := hid (HX.out.mono hB)
    have HY := hid (HY.out.mono hB)
    clear hB
    go_wp2_with fail
    refine (H9.out _ HB9.out).mono ?_
    rintro e w10 ⟨rfl, hB⟩
    have HB10 := hid (bstep HB9.out hB)
    have k0 := cstep k0 hB
    have k1 := cstep k1 hB
    have HX := hid (HX.out.mono hB)
    have HY := hid (HY.out.mono hB)
    have QA := hid (QA.out.mono hB)
    clear hB
    go_upto_region 8 with (fail)
    obtain ⟨w11, hY⟩ : ∃ y, y = (w10.alloc (.cells #[.int .i64 q.1, .int .i64 q.2] 32)) := ⟨_, rfl⟩
    have hB : Below w10.heap.size w10 w11 := by rw [hY]; exact bnew _ _
    have QB := hid (show Q2 w11 (w10.heap.size) q.1 q.2 by rw [hY]; constructor <;> simp [go_sem])
    rw [← hY]
    obtain ⟨qb, hqb⟩ : ∃ q, q = w10.heap.size := ⟨_, rfl⟩
    rw [← hqb] at QB ⊢
    clear hY hqb
    have HB11 := hid (bstep HB10.out hB)
    have k0 := cstep k0 hB
    have k1 := cstep k1 hB
    have HX := hid (HX.out.mono hB)
    have HY := hid (HY.out.mono hB)
    have QA := hid (QA.out.mono hB)
    clear hB
    have q0 := QA.out.1; have q1 := QA.out.2; have q2 := QB.out.1; have q3 := QB.out.2
    clear QA QB
    go_wp2_with fail
    refine (H10.out _).mono ?_
    rintro e w12 ⟨rfl, hB⟩
    have HB12 := hid (bstep HB11.out hB)
    have k0 := cstep k0 hB
    have k1 := cstep k1 hB
    have HX := hid (HX.out.mono hB)
    have HY := hid (HY.out.mono hB)
    have q0 := cstep q0 hB
    have q1 := cstep q1 hB
    have q2 := cstep q2 hB
    have q3 := cstep q3 hB
    clear hB
    go_wp2_with fail
    refine (H11.out _).mono ?_
    rintro e w13 ⟨rfl, hB⟩
    have HB13 := hid (bstep HB12.out hB)
    have k0 := cstep k0 hB
    have k1 := cstep k1 hB
    have HX := hid (HX.out.mono hB)
    have HY := hid (HY.out.mono hB)
    have q0 := cstep q0 hB
    have q1 := cstep q1 hB
    have q2 := cstep q2 hB
    have q3 := cstep q3 hB
    clear hB
    go_wp2
    go_loopw [17, 18, 19, 20] (fun x y v i wr => ∃ j : Nat, j ≤ B.pins.length + 1 ∧ i = .int .i64 ((j : Int) - 1) ∧ x = .int .i64 (f j) ∧ y = .int .i64 (g j) ∧ v = .bool (ris B.pays j (B.pins.length + 1 - j)) ∧ Below w13.heap.size w13 wr) (fun _ _ _ i _ => (intOf i + 1).toNat)
    case atStart => exact ⟨B.pins.length + 1, Nat.le_refl _, by rw [show ((B.pins.length + 1 : Nat) : Int) - 1 = (B.pins.length : Int) by omega], by rw [Hf0.out], by rw [Hg0.out], by rw [Nat.sub_self]; rfl, Below.refl _ _⟩
    case round =>
      obtain ⟨j, hj, rfl, rfl, rfl, rfl, hB⟩ := hrel
      obtain ⟨wk, rfl⟩ : ∃ wk : World, wk = wr := ⟨_, rfl⟩
      have HB := hid hB
      have k0 := cstep k0 hB
      have k1 := cstep k1 hB
      have HX := hid (HX.out.mono hB)
      have HY := hid (HY.out.mono hB)
      have q0 := cstep q0 hB
      have q1 := cstep q1 hB
      have q2 := cstep q2 hB
      have q3 := cstep q3 hB
      have HPk := hid (HPy.out.mono (bstep HB13.out hB))
      clear hB
      cases j with
      | succ m =>
        have ei : (((m + 1 : Nat) : Int) - 1) = (m : Int) := by omega
        rw [ei]
        have hm : m < B.pins.length + 1 := by omega
        have hI1 : (0 : Int) ≤ (m : Int) := by omega
        have hI2 : (m : Int) < (B.pins.length : Int) + 1 := by omega
        obtain ⟨xb, xo, rfl, c0⟩ := HX.out.at (k := m) (by have := HX'.out.1; omega)
        obtain ⟨zb, zo, rfl, c1⟩ := HY.out.at (k := m) (by have := HY'.out.1; omega)
        obtain ⟨u1, u2, u3⟩ := HX'.out.2 m hm
        obtain ⟨u4, u5, u6⟩ := HY'.out.2 m hm
        have s1 := HS1.out m; have s2 := HS2.out m; have s3 := HS1.out (m + 1); have s4 := HS2.out (m + 1); have s5 := HSle.out m; have hn8 := Hn.out
        have c2 := (HPk.out).cell (k := m) (by have := Hpl.out; omega)
        have r1 : ris B.pays m (B.pins.length + 1 - m) = (ris B.pays (m + 1) (B.pins.length + 1 - (m + 1)) && (decide (m = 0) || decide (nth B.pays (m - 1) ≤ nth B.pays m))) := by rw [show B.pins.length + 1 - m = (B.pins.length + 1 - (m + 1)) + 1 by omega]; rfl
        obtain ⟨v, hv⟩ : ∃ v, v = ris B.pays (m + 1) (B.pins.length + 1 - (m + 1)) := ⟨_, rfl⟩
        rw [← hv] at r1 ⊢
        obtain ⟨F, hF⟩ : ∃ F, F = f (m + 1) := ⟨_, rfl⟩
        obtain ⟨G, hG⟩ : ∃ G, G = g (m + 1) := ⟨_, rfl⟩
        obtain ⟨x, hxx⟩ : ∃ x, x = nth X m := ⟨_, rfl⟩
        obtain ⟨y, hyy⟩ : ∃ y, y = nth Y m := ⟨_, rfl⟩
        obtain ⟨z, hzz⟩ : ∃ y, y = nth B.pays m := ⟨_, rfl⟩
        obtain ⟨F2, hF2⟩ : ∃ F, F = f m := ⟨_, rfl⟩
        obtain ⟨G2, hG2⟩ : ∃ G, G = g m := ⟨_, rfl⟩
        rw [← hF] at u1 s3 ⊢; rw [← hG] at u4 s4 ⊢; rw [← hxx] at u1 u2 u3 c0; rw [← hyy] at u4 u5 u6 c1; rw [← hzz] at r1 c2; rw [← hF2] at u1 s1 s5; rw [← hG2] at u4 s2 s5
        have t1 : IntKind.i64.wrap (F + x) = F2 := by rw [wrap_i64_of (by omega) (by omega)]; omega
        have t2 : IntKind.i64.wrap (G + y) = G2 := by rw [wrap_i64_of (by omega) (by omega)]; omega
        have t3 : ¬ G2 < F2 := by omega
        have t4 : IntKind.i64.wrap ((m : Int) - 1) = (m : Int) - 1 := wrap_i64_of (by omega) (by omega)
        have HF2 := hid hF2; have HG2 := hid hG2; have Hr1 := hid r1; have Hz := hid hzz
        clear r1 hv hF hG hxx hyy hF2 hG2 hzz u1 u2 u3 u4 u5 u6 s1 s2 s3 s4 s5 hn8 ei
        have jc0 := fun s : Later wk => cstep c0 s.h
        have jc1 := fun s : Later wk => cstep c1 s.h
        go_upto_region 14 with (fail)
        refine wp_region_later (by kernel_rfl) (by kernel_rfl) ?_
        repeat (go_big_quiet_step (fail))
        refine wpQuiet_nil ?_
        rintro w14 ⟨⟨_, hB⟩, rfl⟩
        clear jc0 jc1
        have HB14 := hid (bstep HB.out hB)
        have k0 := cstep k0 hB
        have k1 := cstep k1 hB
        have HX := hid (HX.out.mono hB)
        have HY := hid (HY.out.mono hB)
        have c0 := cstep c0 hB
        have c1 := cstep c1 hB
        have c2 := cstep c2 hB
        have HPk := hid (HPk.out.mono hB)
        clear hB
        cases v with
        | false =>
          go_upto_region 17 with (fail)
          refine wp_region_later (by kernel_rfl) (by kernel_rfl) ?_
          repeat (go_big_quiet_step (fail))
          refine wpQuiet_nil ?_
          rintro w15 ⟨⟨_, hB⟩, rfl⟩
          have HB15 := hid (bstep HB14.out hB)
          have k0 := cstep k0 hB
          have k1 := cstep k1 hB
          have HX := hid (HX.out.mono hB)
          have HY := hid (HY.out.mono hB)
          have c2 := cstep c2 hB
          have HPk := hid (HPk.out.mono hB)
          clear hB
          go_wp2
          go_roundw
          case rel => exact ⟨m, by omega, rfl, by rw [HF2.out], by rw [HG2.out], by rw [Hr1.out]; rfl, HB15.out⟩
          case measure => (simp [intOf] <;> omega)
        | true =>
          by_cases h0 : m = 0
          · have t5 : ((m : Int) == 0) = true := by simp [h0]
            have Hm := hid h0
            clear h0
            go_upto_region 17 with (fail)
            refine wp_region_later (by kernel_rfl) (by kernel_rfl) ?_
            repeat (go_big_quiet_step (fail))
            refine wpQuiet_nil ?_
            rintro w16 ⟨⟨_, hB⟩, rfl⟩
            have HB16 := hid (bstep HB14.out hB)
            have k0 := cstep k0 hB
            have k1 := cstep k1 hB
            have HX := hid (HX.out.mono hB)
            have HY := hid (HY.out.mono hB)
            have c2 := cstep c2 hB
            have HPk := hid (HPk.out.mono hB)
            clear hB
            go_wp2
            go_roundw
            case rel => exact ⟨m, by omega, rfl, by rw [HF2.out], by rw [HG2.out], by rw [Hr1.out]; rw [Hm.out]; rfl, HB16.out⟩
            case measure => (simp [intOf] <;> omega)
          · have t5 : ((m : Int) == 0) = false := by simpa using h0
            obtain ⟨p0, hp0⟩ : ∃ p, p = m - 1 := ⟨_, rfl⟩
            have t4b : IntKind.i64.wrap ((m : Int) - 1) = (p0 : Int) := by rw [t4]; omega
            clear t4
            have c3 := (HPk.out).cell (k := p0) (by have := Hpl.out; omega)
            have t7 : (p0 : Int) < (B.pays.length : Int) := by have := Hpl.out; omega
            have t8 : (m : Int) < (B.pays.length : Int) := by have := Hpl.out; omega
            have t9 : (0 : Int) ≤ (p0 : Int) := by omega
            have Hpm := hid (show (p0 : Int) = (m : Int) - 1 by omega)
            obtain ⟨y0, hy0⟩ : ∃ y, y = nth B.pays p0 := ⟨_, rfl⟩
            rw [← hy0] at c3
            have Hr2 := hid (show (decide (m = 0) || decide (nth B.pays (m - 1) ≤ z)) = decide (y0 ≤ z) by rw [hy0, hp0, decide_eq_false h0]; rfl)
            clear hy0 hp0 h0
            have jk0 := fun s : Later w14 => cstep k0 s.h
            have jk1 := fun s : Later w14 => cstep k1 s.h
            have jc2 := fun s : Later w14 => cstep c2 s.h
            have jc3 := fun s : Later w14 => cstep c3 s.h
            go_upto_region 17 with (fail)
            refine wp_region_later (by kernel_rfl) (by kernel_rfl) ?_
            repeat (go_big_quiet_step (fail))
            refine wpQuiet_nil ?_
            rintro w17 ⟨⟨_, hB⟩, rfl⟩
            clear jk0 jk1 jc2 jc3
            have HB17 := hid (bstep HB14.out hB)
            have k0 := cstep k0 hB
            have k1 := cstep k1 hB
            have HX := hid (HX.out.mono hB)
            have HY := hid (HY.out.mono hB)
            have c2 := cstep c2 hB
            have HPk := hid (HPk.out.mono hB)
            clear hB
            go_wp2
            go_roundw
            case rel => exact ⟨m, by omega, by rw [Hpm.out], by rw [HF2.out], by rw [HG2.out], by rw [Hr1.out]; rw [Hr2.out]; rfl, HB17.out⟩
            case measure => (have := Hpm.out; simp [intOf] <;> omega)
      | zero =>
        have ei : (((0 : Nat) : Int) - 1) = -1 := rfl
        rw [ei]
        rw [Nat.sub_zero]
        cases hv : ris B.pays 0 (B.pins.length + 1) with
        | false =>
          go_wp2_with fail
          refine (HW.out _).mono ?_
          rintro e w18 ⟨rfl, hB⟩
          have HB18 := hid (bstep HB.out hB)
          have q0 := cstep q0 hB
          have q1 := cstep q1 hB
          have q2 := cstep q2 hB
          have q3 := cstep q3 hB
          clear hB
          go_wp2
          go_ret
          exact ⟨rfl, bstep HB0.out (bstep HB13.out HB18.out)⟩
        | true =>
          rw [Hless.out hv] at H12
          go_wp2_with fail
          refine (H12.out _).mono ?_
          rintro e w19 ⟨rfl, hB⟩
          have HB19 := hid (bstep HB.out hB)
          have q0 := cstep q0 hB
          have q1 := cstep q1 hB
          have q2 := cstep q2 hB
          have q3 := cstep q3 hB
          clear hB
          go_wp2_with fail
          refine (HW.out _).mono ?_
          rintro e w20 ⟨rfl, hB⟩
          have HB20 := hid (bstep HB19.out hB)
          have q0 := cstep q0 hB
          have q1 := cstep q1 hB
          have q2 := cstep q2 hB
          have q3 := cstep q3 hB
          clear hB
          go_wp2
          go_ret
          exact ⟨rfl, bstep HB0.out (bstep HB13.out HB20.out)⟩
end

end Go.Proofs.Ytnnojhpioenhbaa
