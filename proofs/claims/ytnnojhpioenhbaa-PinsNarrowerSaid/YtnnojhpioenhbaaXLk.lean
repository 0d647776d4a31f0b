/- The law PinsPaid. -/
import Derived.Test.YtnnojhpioenhbaaXLf
import Derived.Test.YtnnojhpioenhbaaXLe
import Derived.Test.YtnnojhpioenhbaaXJc
import Derived.Test.YtnnojhpioenhbaaKL
namespace Go.Proofs.Ytnnojhpioenhbaa
open Go.RowKit Go.Shelf

theorem wrap_u8_of {a : Int} (h0 : 0 ≤ a) (h : a < 256) : IntKind.u8.wrap a = a := by
  rw [IntKind.wrap_u8]
  omega
theorem lt_of_cell {w : World} {b o : Nat} {v : Value} (h : w.cell? ⟨b, o, none⟩ = some v) : b < w.heap.size := World.block_lt_of_cell? w ⟨b, o, none⟩ h
theorem V2At.grown {w w' : World} {g : Nat} {t : TypeId} {x y : Value} (h : V2At w g t x y) {row : Option Nat} (hg : w.grownBy w' row) (hr : some g ≠ row) : V2At w' g t x y :=
  (hg.block g h.lt hr).trans h
section
variable (pa : Option Addr) (pc : Nat) (ya : Option Addr) (yc : Nat) (la : Option Addr) (lc : Nat) (sa : Option Addr) (sc : Nat) (B : Bd) (R : Rd) (n1 n2 n3 : Nat) (w : World)
set_option maxRecDepth 100000 in
set_option maxHeartbeats 8000000 in
theorem pinsPaid_c (hworks : WorksC) (hb : BdAt w pa ya B) (hr : RdAt w la sa R) (w1 : n1 < 256) (w2 : n2 < 256) : Calls Try.prog 12 #[.agg #[.slice pa B.pins.length pc, .slice ya B.pays.length yc], .agg #[.slice la R.plumbs.length lc, .slice sa R.slots.length sc], .int .u8 (n1 : Int), .int .u8 (n2 : Int), .int .u8 (n3 : Int)] w (TellB w true) := by
  have HW := hid hworks
  obtain ⟨V, hV, hB0, k0, k1, k2, k3⟩ := box2 w (.slice pa B.pins.length pc) (.slice ya B.pays.length yc) (.slice la R.plumbs.length lc) (.slice sa R.slots.length sc) 25 51
  have hbV := hb.mono hB0
  have hrV := hr.mono hB0
  have HB0 := hid hB0; have HV := hid hV; have HV0 := hid (Below.refl V.heap.size V)
  have K0 := hid k0; have K1 := hid k1; have K2 := hid k2; have K3 := hid k3
  have HG := hid (read_c pa pc ya yc la lc sa sc B R V hbV hrV)
  unfold WorksC TellB at *
  cases hg : readB B R with
  | false =>
    rw [hg] at HG
    clear hworks hb hr hV hB0 hbV hrV hg
    go_enter Try.func12, Try.ntmps12
    go_upto_region 1 with (fail)
    rw [← HV.out]
    go_wp2_with fail
    refine (HG.out).mono ?_
    rintro e w1 ⟨rfl, hB⟩
    have HB1 := hid (bstep HV0.out hB)
    clear hB
    go_wp2_with fail
    refine (HW.out _).mono ?_
    rintro e w2 ⟨rfl, hB⟩
    have HB2 := hid (bstep HB1.out hB)
    clear hB
    go_wp2
    go_ret
    exact ⟨rfl, bstep HB0.out HB2.out⟩
  | true =>
    rw [hg] at HG
    obtain ⟨⟨hfi, hwi⟩, h0⟩ := readB_iff hg
    have hl2 := wideB_lens hwi
    obtain ⟨hBk, hRk⟩ := readErr_zero.1 h0
    have hn := hBk.n8; have hn1 := hBk.n1; have hpy := hBk.pays
    have hlv := givN_lv n1
    obtain ⟨lv, hlvE⟩ : ∃ a, a = givN n1 := ⟨_, rfl⟩
    have H4 := hid fun (w' : World) => given_c n1 w' w1
    have HS4 := hid fun (w' : World) => given_s n1 w' w1
    unfold TellI at H4
    rw [← hlvE] at H4 HS4 hlv
    obtain ⟨r5, hr5⟩ : ∃ r, r = n3 % 5 := ⟨_, rfl⟩
    obtain ⟨t, ht⟩ : ∃ t : Int, t = 1 + (r5 : Int) := ⟨_, rfl⟩
    obtain ⟨m, hm⟩ : ∃ m : Int, m = (n2 : Int) := ⟨_, rfl⟩
    have ht5 : 1 ≤ t ∧ t ≤ 5 := by omega
    have hm5 : 0 ≤ m ∧ m ≤ 255 := by omega
    have c1 : Int.tmod (n3 : Int) 5 = (r5 : Int) := by have := tmod_nat n3 5; rw [← hr5] at this; simpa using this
    have c2 : IntKind.u8.wrap (r5 : Int) = (r5 : Int) := wrap_u8_of (by omega) (by omega)
    have c3 : IntKind.i64.wrap (r5 : Int) = (r5 : Int) := wrap_i64_of (by omega) (by omega)
    have c4 : IntKind.i64.wrap (1 + (r5 : Int)) = t := by rw [ht]; exact wrap_i64_of (by omega) (by omega)
    have c5 : IntKind.i64.wrap (n2 : Int) = m := by rw [hm]; exact wrap_i64_of (by omega) (by omega)
    obtain ⟨yb, yo, hya, _⟩ := hbV.2.at (k := 0) (by omega)
    have HbV := hid hbV; have HrV := hid hrV
    have Hyl := hid hpy
    -- the new pays, as far as they are laid
    obtain ⟨Z, hZ⟩ : ∃ Z, Z = (paidB B t m).pays := ⟨_, rfl⟩
    have hZl : Z.length = B.pays.length := by rw [hZ]; simp [paidB]
    have hZn : ∀ k, k < B.pays.length → nth Z k = nth B.pays k * t + m ∧ (0 ≤ nth B.pays k * t ∧ nth B.pays k * t ≤ 2500) := fun k hk => by
      have hp := hBk.pay k (by omega)
      exact ⟨by rw [hZ]; exact paid_nth hk, Int.mul_nonneg hp.1 (by omega), by have := Int.mul_le_mul hp.2 ht5.2 (by omega) (by omega); omega⟩
    have HZl := hid hZl; have HZn := hid hZn; have Hn := hid hn; have Hm5 := hid hm5
    have HF := hid fun (xa : Option Addr) (xc : Nat) (w' : World) (h : Below V.heap.size V w') (hx : IntsAt w' xa Z) => (show Calls Try.prog 52 #[.agg #[.slice pa B.pins.length pc, .slice xa B.pays.length xc]] w' (TellB w' (fineB (paidB B t m))) from by
      have := fine_c pa pc xa xc (paidB B t m) w' ⟨(HbV.out.mono h).1, by rw [hZ] at hx; exact hx⟩
      rw [show (paidB B t m).pays.length = B.pays.length by simp [paidB]] at this
      exact this)
    have H5 := hid fun (w' : World) (h : Below V.heap.size V w') => pPay_c pa pc ya yc B lv w' (hbV.mono h) (by omega) (by omega)
    have H7 := hid fun (w' : World) (h : Below V.heap.size V w') => pSpan_c pa pc ya yc la lc sa sc B R w' (hbV.mono h) (hrV.mono h) (by omega) (by omega) (by omega) (by omega)
    have eA : atErr B lv = 0 := atErr_zero.2 ⟨hBk, hlv⟩
    have eP : payX B lv = payQ B lv := by unfold payX; rw [if_pos eA]
    rw [eA, eP] at H5
    unfold QE at H5
    unfold SpanE at H7
    unfold TellB at HF
    have HX6 := hid fun (xa : Option Addr) (xc : Nat) (w' : World) (h : Below V.heap.size V w') (hx : IntsAt w' xa Z) => (show Calls Try.prog 20 #[.agg #[.slice pa B.pins.length pc, .slice xa B.pays.length xc], .int .i64 lv] w' (QE w' (atErr (paidB B t m) lv) (payX (paidB B t m) lv)) from by
      have := pPay_c pa pc xa xc (paidB B t m) lv w' ⟨(HbV.out.mono h).1, by rw [hZ] at hx; exact hx⟩ (by show B.pins.length ≤ 1000000; omega) (by simp [paidB]; omega)
      rw [show (paidB B t m).pays.length = B.pays.length by simp [paidB]] at this
      exact this)
    have HX8 := hid fun (xa : Option Addr) (xc : Nat) (w' : World) (h : Below V.heap.size V w') (hx : IntsAt w' xa Z) => (show Calls Try.prog 42 #[.agg #[.slice pa B.pins.length pc, .slice xa B.pays.length xc], .agg #[.slice la R.plumbs.length lc, .slice sa R.slots.length sc]] w' (SpanE w' (levErr (paidB B t m) R) (spanLo (paidB B t m) R) (spanHi (paidB B t m) R)) from by
      have := pSpan_c pa pc xa xc la lc sa sc (paidB B t m) R w' ⟨(HbV.out.mono h).1, by rw [hZ] at hx; exact hx⟩ (hrV.mono h) (by show B.pins.length ≤ 1000000; omega) (by simp [paidB]; omega) (by omega) (by omega)
      rw [show (paidB B t m).pays.length = B.pays.length by simp [paidB]] at this
      exact this)
    unfold QE at HX6
    unfold SpanE at HX8
    have hcap0 := hV
    -- what holds where the new board is valid
    have HFin : fineB (paidB B t m) = true → Hid (((atErr (paidB B t m) lv = 0 ∧ payX (paidB B t m) lv = payQ (paidB B t m) lv) ∧ (payB (payQ (paidB B t m) lv) = true ∧ payB (payQ B lv) = true ∧ EqQ t m (payQ (paidB B t m) lv) (payQ B lv))) ∧ levErr (paidB B t m) R = levErr B R ∧ (levErr B R = 0 ∨ levErr B R = 18) ∧
        (levErr B R = 0 → (payB (spanLo (paidB B t m) R) = true ∧ payB (spanLo B R) = true ∧ EqQ t m (spanLo (paidB B t m) R) (spanLo B R)) ∧ payB (spanHi (paidB B t m) R) = true ∧ payB (spanHi B R) = true ∧ EqQ t m (spanHi (paidB B t m) R) (spanHi B R))) := by
      intro hf
      have hPk := bok_iff.1 (fineB_zero hf)
      have e1 : atErr (paidB B t m) lv = 0 := atErr_zero.2 ⟨hPk, hlv⟩
      have e2 : readErr (paidB B t m) R = 0 := readErr_zero.2 ⟨hPk, paid_rok hRk⟩
      have e3 : levErr (paidB B t m) R = levErr B R := by unfold levErr; rw [if_pos e2, if_pos h0, paid_levels]
      have e4 : levErr B R = 0 ∨ levErr B R = 18 := by unfold levErr; rw [if_pos h0]; split; exact .inr rfl; exact .inl rfl
      refine hid ⟨⟨⟨e1, by unfold payX; rw [if_pos e1]⟩, payB_pay hPk hlv, payB_pay hBk hlv, eqQ_pay hBk t m lv⟩, e3, e4, fun h => ?_⟩
      obtain ⟨s1, s2⟩ := span_payB hBk h
      obtain ⟨s3, s4⟩ := span_payB (R := R) hPk (by rw [e3]; exact h)
      obtain ⟨s5, s6⟩ := eqQ_span (R := R) hBk (show 0 < t by omega) hPk h (by rw [e3]; exact h)
      exact ⟨⟨s3, s1, s5⟩, s4, s2, s6⟩
    have HFin' := hid HFin
    have HLn := hid (show (levErr B R : Int) = levErr B R from rfl)
    have Ht5 := hid ht5
    clear hworks hb hr hV hB0 hbV hrV hg hfi hwi h0 hl2 hBk hRk hn hn1 hpy hlv hlvE ht hm ht5 hm5 hr5 hZ hZl hZn eA eP hcap0 HFin
    subst hya
    go_enter Try.func12, Try.ntmps12
    go_upto_region 1 with (fail)
    rw [← HV.out]
    go_wp2_with fail
    refine (HG.out).mono ?_
    rintro e w1 ⟨rfl, hB⟩
    have HB1 := hid (bstep HV0.out hB)
    have k0 := cstep k0 hB
    have k1 := cstep k1 hB
    have k2 := cstep k2 hB
    have k3 := cstep k3 hB
    clear hB
    go_upto_region 4 with (fail)
    obtain ⟨w2, hY⟩ : ∃ y, y = w1.alloc (.cells #[.slice pa B.pins.length pc, .slice none 0 0] 25) := ⟨_, rfl⟩
    have hB : Below w1.heap.size w1 w2 := by rw [hY]; exact bnew _ _
    have HC := hid (show V2At w2 w1.heap.size 25 (.slice pa B.pins.length pc) (.slice none 0 0) by rw [hY]; exact heap_alloc_new _ _)
    have Hge := hid (show V.heap.size ≤ w1.heap.size from HB1.out.size)
    rw [← hY]
    obtain ⟨g, hgg⟩ : ∃ g, g = w1.heap.size := ⟨_, rfl⟩
    rw [← hgg] at HC Hge ⊢
    clear hY hgg
    have HB2 := hid (bstep HB1.out hB)
    have k0 := cstep k0 hB
    have k1 := cstep k1 hB
    have k2 := cstep k2 hB
    have k3 := cstep k3 hB
    clear hB
    go_wp2
    go_loopw [14] (fun i wr => ∃ (k : Nat) (ao : Option Addr) (cap : Nat), k ≤ B.pays.length ∧ i = .int .i64 k ∧ V2At wr g 25 (.slice pa B.pins.length pc) (.slice ao k cap) ∧ OwnI 2 (g + 1) wr ao k cap (Z.take k) ∧ Below V.heap.size V wr) (fun i _ => B.pays.length - (intOf i).toNat)
    case atStart => exact ⟨0, none, 0, Nat.zero_le _, rfl, HC.out, OwnI.nil _ _ _, HB2.out⟩
    case round =>
      obtain ⟨k, ao, cap, hk, rfl, hv, ho, hB⟩ := hrel
      obtain ⟨wk, rfl⟩ : ∃ wk : World, wk = wr := ⟨_, rfl⟩
      have HB := hid hB
      have k0 := cstep K0.out hB; have k1 := cstep K1.out hB; have k2 := cstep K2.out hB; have k3 := cstep K3.out hB
      clear hB
      have HC := hid hv; have HO := hid ho
      clear hv ho
      by_cases hlt : k < B.pays.length
      · have hltI : (k : Int) < (B.pays.length : Int) := by omega
        have hv1 := HC.out.c1; have hf1 := HC.out.f1
        have hc := (HbV.out.mono HB.out).2.cell hlt
        obtain ⟨z1, z2, z3⟩ := HZn.out k hlt
        have hm5 := Hm5.out; have hyl := Hyl.out; have hn8 := Hn.out
        obtain ⟨x, hx⟩ : ∃ x, x = nth B.pays k := ⟨_, rfl⟩
        rw [← hx] at z1 z2 z3 hc
        obtain ⟨p, hp⟩ : ∃ p, p = x * t := ⟨_, rfl⟩
        rw [← hp] at z1 z2 z3
        obtain ⟨z, hz⟩ : ∃ z, z = nth Z k := ⟨_, rfl⟩
        rw [← hz] at z1
        have v1 : IntKind.i64.wrap (x * t) = p := by rw [← hp]; exact wrap_i64_of (by omega) (by omega)
        have v2 : IntKind.i64.wrap (p + m) = z := by rw [wrap_i64_of (by omega) (by omega)]; omega
        have v3 : IntKind.i64.wrap ((k : Int) + 1) = (k : Int) + 1 := wrap_i64_of (by omega) (by omega)
        have htk : Z.take (k + 1) = Z.take k ++ [z] := by rw [take_succ_nth (by have := HZl.out; omega), hz]
        have hg1 : g < wk.heap.size := HC.out.lt
        have hg2 : ¬ g = wk.heap.size := by omega
        have hy1 : yb < wk.heap.size := lt_of_cell hc
        have hy2 : ¬ yb = wk.heap.size := by omega
        have hq1 : w.heap.size < wk.heap.size := lt_of_cell k0
        have hq2 : ¬ w.heap.size = wk.heap.size := by omega
        have hkb : k + 1 ≤ 1000000 := by omega
        have hsz : g + 1 ≤ wk.heap.size := by omega
        have Htk := hid htk
        clear htk hp hx hz z1 z2 z3 hm5 hyl hn8
        go_upto_region 8 with (fail)
        go_region_law (refine step_appV et23 _ (by rfl) _ _ (by rfl) (g + 1) ao k cap (intv (Z.take k)) (by rfl) (HO.out.2.kept (by first | exact bnew _ _ | exact (bnew _ _).drew | exact bstep (Below.refl _ _).drew (bnew _ _))) (some ⟨wk.heap.size, 0, none⟩) 1 1 (intv [z]) (by rfl) (cellsAt_one rfl (by simp [go_sem])) rfl (intv_one _) (fun h => by cases h) hkb (by simp; omega) ?_; intro ao' cap' w' hB' hown' hgr' hn'; have hvk : V2At w' g 25 (.slice pa B.pins.length pc) (.slice ao k cap) := V2At.grown (HC.out.mono (by first | exact bnew _ _ | exact (bnew _ _).drew | exact bstep (Below.refl _ _).drew (bnew _ _))) hgr' (by intro e; have := (HO.out.2.block e.symm).1; omega); have hf1' := hvk.f1; have hv1' := hvk.c1; have hown2 : OwnI 2 (g + 1) w' ao' (k + 1) cap' (Z.take (k + 1)) := (by rw [Htk.out]; exact OwnI.app HO.out.1 rfl hown'); have HBw := hid ((HB.out.trans (Below.mono (show Below wk.heap.size wk _ from (by first | exact bnew _ _ | exact (bnew _ _).drew | exact bstep (Below.refl _ _).drew (bnew _ _))) HB.out.size)).trans (hB'.mono (by have := Hge.out; omega))); have Hvk := hid hvk; have Hown := hid hown2; clear hB' hown' hgr' hn' hown2 hvk)
        all_goals (
          go_wp2
          go_roundw)
        all_goals first
          | exact ⟨k + 1, ao', cap', by omega, by go_num, Hvk.out.set1 _, Hown.out.keptIf (fun b cur hb _ => Below.heap_setCell _ _ _ _ (fun e => by have e : b = g := e; omega)), HBw.out.setCell (p := ⟨g, 1, none⟩) Hge.out _⟩
          | (simp [intOf]; omega)
      · have hltI : ¬ (k : Int) < (B.pays.length : Int) := by omega
        have hkL : k = B.pays.length := by omega
        have hZk : Z.take k = Z := by rw [hkL, ← HZl.out, List.take_length]
        rw [hZk] at HO
        have HA := hid HO.out.at
        rw [hkL] at HC ⊢
        have hNN : ¬ (B.pays.length : Int) < (B.pays.length : Int) := by omega
        clear HO hZk hkL hk hlt hltI
        have x0 := HC.out.c0; have x1 := HC.out.c1
        clear HC
        cases hf : fineB (paidB B t m) with
        | false =>
          rw [hf] at HF
          clear hf HFin'
          go_wp2_with fail
          refine (HF.out ao cap _ HB.out HA.out).mono ?_
          rintro e w3 ⟨rfl, hB⟩
          have HB3 := hid (bstep HB.out hB)
          have k0 := cstep k0 hB
          have k1 := cstep k1 hB
          have k2 := cstep k2 hB
          have k3 := cstep k3 hB
          have x0 := cstep x0 hB
          have x1 := cstep x1 hB
          have HA := hid (HA.out.mono hB)
          clear hB
          go_wp2_with fail
          refine (HW.out _).mono ?_
          rintro e w4 ⟨rfl, hB⟩
          have HB4 := hid (bstep HB3.out hB)
          have k0 := cstep k0 hB
          have k1 := cstep k1 hB
          have k2 := cstep k2 hB
          have k3 := cstep k3 hB
          have x0 := cstep x0 hB
          have x1 := cstep x1 hB
          have HA := hid (HA.out.mono hB)
          clear hB
          go_wp2
          go_ret
          exact ⟨rfl, bstep HB0.out HB4.out⟩
        | true =>
          rw [hf] at HF
          obtain ⟨⟨⟨f1, f2⟩, f3, f4, f5⟩, f6, f7, f8⟩ := (HFin' hf).out
          rw [f1, f2] at HX6
          rw [f6] at HX8
          obtain ⟨le, hle⟩ : ∃ e, e = levErr B R := ⟨_, rfl⟩
          rw [← hle] at H7 HX8 f7 f8
          obtain ⟨P, hP⟩ : ∃ q, q = payQ B lv := ⟨_, rfl⟩
          obtain ⟨Q, hQ⟩ : ∃ q, q = payQ (paidB B t m) lv := ⟨_, rfl⟩
          rw [← hP] at H5 f4 f5
          rw [← hQ] at HX6 f3 f5
          obtain ⟨A1, hA1⟩ : ∃ q, q = spanLo B R := ⟨_, rfl⟩
          obtain ⟨A2, hA2⟩ : ∃ q, q = spanHi B R := ⟨_, rfl⟩
          obtain ⟨A3, hA3⟩ : ∃ q, q = spanLo (paidB B t m) R := ⟨_, rfl⟩
          obtain ⟨A4, hA4⟩ : ∃ q, q = spanHi (paidB B t m) R := ⟨_, rfl⟩
          rw [← hA1, ← hA2] at H7 f8
          rw [← hA3, ← hA4] at HX8 f8
          have HQ1 := hid fun (w' : World) => equal_c Q P t m w' f3 f4 f5 Ht5.out Hm5.out
          unfold TellB at HQ1
          have F7 := hid f7; have F8 := hid f8
          clear hf HFin' f1 f2 f3 f4 f5 f6 f7 f8 hle hP hQ hA1 hA2 hA3 hA4
          go_wp2_with fail
          refine (HF.out ao cap _ HB.out HA.out).mono ?_
          rintro e w5 ⟨rfl, hB⟩
          have HB5 := hid (bstep HB.out hB)
          have k0 := cstep k0 hB
          have k1 := cstep k1 hB
          have k2 := cstep k2 hB
          have k3 := cstep k3 hB
          have x0 := cstep x0 hB
          have x1 := cstep x1 hB
          have HA := hid (HA.out.mono hB)
          clear hB
          go_upto_region 11 with (fail)
          go_cut [15, 16] from 64 to 70 (fun a b w6 => ∃ q, a = .pointer (some ⟨q, 0, none⟩) ∧ b = .int .i64 (0) ∧ V2At w6 q 32 (.int .i64 (P.1)) (.int .i64 (P.2)) ∧ Below w5.heap.size w5 w6)
          case first =>
            have ak0 := cstep k0 (bnew w5 (.cells #[.int .i64 0, .int .i64 0] 32))
            have ak1 := cstep k1 (bnew w5 (.cells #[.int .i64 0, .int .i64 0] 32))
            have ak2 := cstep k2 (bnew w5 (.cells #[.int .i64 0, .int .i64 0] 32))
            have ak3 := cstep k3 (bnew w5 (.cells #[.int .i64 0, .int .i64 0] 32))
            have ax0 := cstep x0 (bnew w5 (.cells #[.int .i64 0, .int .i64 0] 32))
            have ax1 := cstep x1 (bnew w5 (.cells #[.int .i64 0, .int .i64 0] 32))
            go_region_law (first | (go_simp; go_at_call 49; refine (HS4.out _).mono ?_; rintro e wx ⟨rfl, rfl⟩) | (go_simp; go_at_call 20; refine (H5.out _ (bstep HB5.out (by first | exact below_drawN _ _ 1 | exact (bnew _ _).drew | exact bstep (Below.refl _ _).drew (bnew _ _) | exact bstep (bnew _ _) (below_drawN _ _ 1) | exact Below.refl _ _))).mono ?_; rintro e wx ⟨rfl, hB1⟩; have hBx := bstep (show Below w5.heap.size w5 _ from (by first | exact below_drawN _ _ 1 | exact (bnew _ _).drew | exact bstep (Below.refl _ _).drew (bnew _ _) | exact bstep (bnew _ _) (below_drawN _ _ 1) | exact Below.refl _ _)) hB1; (try (have hz : V2At wx w5.heap.size 32 (.int .i64 0) (.int .i64 0) := V2At.mono (by first | exact heap_alloc_new _ _ | exact (show V2At (w5.alloc (.cells #[.int .i64 0, .int .i64 0] 32)) w5.heap.size 32 (.int .i64 0) (.int .i64 0) from heap_alloc_new _ _)) hB1; have c0 := hz.c0; have c1 := hz.c1; have f0 := hz.f0; have f1 := hz.f1))))
            all_goals (
              go_wp2
              go_meet
              first | exact ⟨_, rfl, rfl, hz.set _ _, below_set2 hBx (Nat.le_refl _) _ _⟩ | exact ⟨_, rfl, rfl, heap_alloc_new _ _, bstep hBx (bnew _ _)⟩)
          obtain ⟨q1, rfl, rfl, hq, hB⟩ := hcut
          rename World => w6
          have HB6 := hid (bstep HB5.out hB)
          have k0 := cstep k0 hB
          have k1 := cstep k1 hB
          have k2 := cstep k2 hB
          have k3 := cstep k3 hB
          have x0 := cstep x0 hB
          have x1 := cstep x1 hB
          have HA := hid (HA.out.mono hB)
          clear hB
          have Q1 := hid hq
          clear hq
          go_upto_region 12 with (fail)
          go_cut [17, 18] from 71 to 77 (fun a b w7 => ∃ q, a = .pointer (some ⟨q, 0, none⟩) ∧ b = .int .i64 (0) ∧ V2At w7 q 32 (.int .i64 (Q.1)) (.int .i64 (Q.2)) ∧ Below w6.heap.size w6 w7)
          case first =>
            have ak0 := cstep k0 (bnew w6 (.cells #[.int .i64 0, .int .i64 0] 32))
            have ak1 := cstep k1 (bnew w6 (.cells #[.int .i64 0, .int .i64 0] 32))
            have ak2 := cstep k2 (bnew w6 (.cells #[.int .i64 0, .int .i64 0] 32))
            have ak3 := cstep k3 (bnew w6 (.cells #[.int .i64 0, .int .i64 0] 32))
            have ax0 := cstep x0 (bnew w6 (.cells #[.int .i64 0, .int .i64 0] 32))
            have ax1 := cstep x1 (bnew w6 (.cells #[.int .i64 0, .int .i64 0] 32))
            go_region_law (first | (go_simp; go_at_call 49; refine (HS4.out _).mono ?_; rintro e wx ⟨rfl, rfl⟩) | (go_simp; go_at_call 20; refine (HX6.out ao cap _ (bstep HB6.out (by first | exact below_drawN _ _ 1 | exact (bnew _ _).drew | exact bstep (Below.refl _ _).drew (bnew _ _) | exact bstep (bnew _ _) (below_drawN _ _ 1) | exact Below.refl _ _)) (by first | exact HA.out.mono (below_drawN _ _ 1) | exact HA.out.mono (bnew _ _).drew | exact HA.out.mono (bstep (Below.refl _ _).drew (bnew _ _)) | exact HA.out)).mono ?_; rintro e wx ⟨rfl, hB1⟩; have hBx := bstep (show Below w6.heap.size w6 _ from (by first | exact below_drawN _ _ 1 | exact (bnew _ _).drew | exact bstep (Below.refl _ _).drew (bnew _ _) | exact bstep (bnew _ _) (below_drawN _ _ 1) | exact Below.refl _ _)) hB1; (try (have hz : V2At wx w6.heap.size 32 (.int .i64 0) (.int .i64 0) := V2At.mono (by first | exact heap_alloc_new _ _ | exact (show V2At (w6.alloc (.cells #[.int .i64 0, .int .i64 0] 32)) w6.heap.size 32 (.int .i64 0) (.int .i64 0) from heap_alloc_new _ _)) hB1; have c0 := hz.c0; have c1 := hz.c1; have f0 := hz.f0; have f1 := hz.f1))))
            all_goals (
              go_wp2
              go_meet
              first | exact ⟨_, rfl, rfl, hz.set _ _, below_set2 hBx (Nat.le_refl _) _ _⟩ | exact ⟨_, rfl, rfl, heap_alloc_new _ _, bstep hBx (bnew _ _)⟩)
          obtain ⟨q2, rfl, rfl, hq, hB⟩ := hcut
          rename World => w7
          have HB7 := hid (bstep HB6.out hB)
          have k0 := cstep k0 hB
          have k1 := cstep k1 hB
          have k2 := cstep k2 hB
          have k3 := cstep k3 hB
          have x0 := cstep x0 hB
          have x1 := cstep x1 hB
          have HA := hid (HA.out.mono hB)
          have Q1 := hid (Q1.out.mono hB)
          clear hB
          have Q2_ := hid hq
          clear hq
          go_wp2_with fail
          refine (H7.out _ HB7.out).mono ?_
          rintro e w8 ⟨rfl, hB⟩
          have HB8 := hid (bstep HB7.out hB)
          have k0 := cstep k0 hB
          have k1 := cstep k1 hB
          have k2 := cstep k2 hB
          have k3 := cstep k3 hB
          have x0 := cstep x0 hB
          have x1 := cstep x1 hB
          have HA := hid (HA.out.mono hB)
          have Q1 := hid (Q1.out.mono hB)
          have Q2_ := hid (Q2_.out.mono hB)
          clear hB
          go_upto_region 14 with (fail)
          obtain ⟨w9, hY⟩ : ∃ y, y = ((w8.alloc (.cells #[.int .i64 A1.1, .int .i64 A1.2] 32)).alloc (.cells #[.int .i64 A2.1, .int .i64 A2.2] 32)) := ⟨_, rfl⟩
          have hB : Below w8.heap.size w8 w9 := by rw [hY]; exact bstep (bnew _ _) (bnew _ _)
          have QA := hid (show Q2 w9 (w8.heap.size) A1.1 A1.2 by rw [hY]; constructor <;> simp [go_sem])
          have QB := hid (show Q2 w9 (w8.heap.size + 1) A2.1 A2.2 by rw [hY]; constructor <;> simp [go_sem])
          rw [← hY]
          obtain ⟨qa, hqa⟩ : ∃ q, q = w8.heap.size := ⟨_, rfl⟩
          obtain ⟨qb, hqb⟩ : ∃ q, q = w8.heap.size + 1 := ⟨_, rfl⟩
          rw [← hqb] at QB ⊢
          rw [← hqa] at QA ⊢
          clear hY hqa hqb
          have HB9 := hid (bstep HB8.out hB)
          have k0 := cstep k0 hB
          have k1 := cstep k1 hB
          have k2 := cstep k2 hB
          have k3 := cstep k3 hB
          have x0 := cstep x0 hB
          have x1 := cstep x1 hB
          have HA := hid (HA.out.mono hB)
          have Q1 := hid (Q1.out.mono hB)
          have Q2_ := hid (Q2_.out.mono hB)
          clear hB
          go_wp2_with fail
          refine (HX8.out ao cap _ HB9.out HA.out).mono ?_
          rintro e w10 ⟨rfl, hB⟩
          have HB10 := hid (bstep HB9.out hB)
          have k0 := cstep k0 hB
          have k1 := cstep k1 hB
          have k2 := cstep k2 hB
          have k3 := cstep k3 hB
          have x0 := cstep x0 hB
          have x1 := cstep x1 hB
          have HA := hid (HA.out.mono hB)
          have Q1 := hid (Q1.out.mono hB)
          have Q2_ := hid (Q2_.out.mono hB)
          have QA := hid (QA.out.mono hB)
          have QB := hid (QB.out.mono hB)
          clear hB
          go_upto_region 15 with (fail)
          obtain ⟨w11, hY⟩ : ∃ y, y = ((w10.alloc (.cells #[.int .i64 A3.1, .int .i64 A3.2] 32)).alloc (.cells #[.int .i64 A4.1, .int .i64 A4.2] 32)) := ⟨_, rfl⟩
          have hB : Below w10.heap.size w10 w11 := by rw [hY]; exact bstep (bnew _ _) (bnew _ _)
          have QC := hid (show Q2 w11 (w10.heap.size) A3.1 A3.2 by rw [hY]; constructor <;> simp [go_sem])
          have QD := hid (show Q2 w11 (w10.heap.size + 1) A4.1 A4.2 by rw [hY]; constructor <;> simp [go_sem])
          rw [← hY]
          obtain ⟨qc, hqc⟩ : ∃ q, q = w10.heap.size := ⟨_, rfl⟩
          obtain ⟨qd, hqd⟩ : ∃ q, q = w10.heap.size + 1 := ⟨_, rfl⟩
          rw [← hqd] at QD ⊢
          rw [← hqc] at QC ⊢
          clear hY hqc hqd
          have HB11 := hid (bstep HB10.out hB)
          have k0 := cstep k0 hB
          have k1 := cstep k1 hB
          have k2 := cstep k2 hB
          have k3 := cstep k3 hB
          have x0 := cstep x0 hB
          have x1 := cstep x1 hB
          have HA := hid (HA.out.mono hB)
          have Q1 := hid (Q1.out.mono hB)
          have Q2_ := hid (Q2_.out.mono hB)
          have QA := hid (QA.out.mono hB)
          have QB := hid (QB.out.mono hB)
          clear hB
          have y0 := Q1.out.c0; have y1 := Q1.out.c1; have y2 := Q2_.out.c0; have y3 := Q2_.out.c1
          have y4 := QA.out.1; have y5 := QA.out.2; have y6 := QB.out.1; have y7 := QB.out.2
          have z4 := QC.out.1; have z5 := QC.out.2; have z6 := QD.out.1; have z7 := QD.out.2
          clear Q1 Q2_ QA QB QC QD
          go_wp2_with fail
          refine (HQ1.out _).mono ?_
          rintro e w12 ⟨rfl, hB⟩
          have HB12 := hid (bstep HB11.out hB)
          have y0 := cstep y0 hB
          have y1 := cstep y1 hB
          have y2 := cstep y2 hB
          have y3 := cstep y3 hB
          have y4 := cstep y4 hB
          have y5 := cstep y5 hB
          have y6 := cstep y6 hB
          have y7 := cstep y7 hB
          have z4 := cstep z4 hB
          have z5 := cstep z5 hB
          have z6 := cstep z6 hB
          have z7 := cstep z7 hB
          clear hB
          rcases F7.out with he | he
          · subst he
            obtain ⟨⟨g1, g2, g3⟩, g4, g5, g6⟩ := F8.out rfl
            have HQ2 := hid fun (w' : World) => equal_c A3 A1 t m w' g1 g2 g3 Ht5.out Hm5.out
            have HQ3 := hid fun (w' : World) => equal_c A4 A2 t m w' g4 g5 g6 Ht5.out Hm5.out
            unfold TellB at HQ2 HQ3
            clear g1 g2 g3 g4 g5 g6
            go_wp2_with fail
            refine (HQ2.out _).mono ?_
            rintro e w13 ⟨rfl, hB⟩
            have HB13 := hid (bstep HB12.out hB)
            have y0 := cstep y0 hB
            have y1 := cstep y1 hB
            have y2 := cstep y2 hB
            have y3 := cstep y3 hB
            have y4 := cstep y4 hB
            have y5 := cstep y5 hB
            have y6 := cstep y6 hB
            have y7 := cstep y7 hB
            have z4 := cstep z4 hB
            have z5 := cstep z5 hB
            have z6 := cstep z6 hB
            have z7 := cstep z7 hB
            clear hB
            go_wp2_with fail
            refine (HQ3.out _).mono ?_
            rintro e w14 ⟨rfl, hB⟩
            have HB14 := hid (bstep HB13.out hB)
            have y0 := cstep y0 hB
            have y1 := cstep y1 hB
            have y2 := cstep y2 hB
            have y3 := cstep y3 hB
            have y4 := cstep y4 hB
            have y5 := cstep y5 hB
            have y6 := cstep y6 hB
            have y7 := cstep y7 hB
            have z4 := cstep z4 hB
            have z5 := cstep z5 hB
            have z6 := cstep z6 hB
            have z7 := cstep z7 hB
            clear hB
            go_wp2_with fail
            refine (HW.out _).mono ?_
            rintro e w15 ⟨rfl, hB⟩
            have HB15 := hid (bstep HB14.out hB)
            have y0 := cstep y0 hB
            have y1 := cstep y1 hB
            have y2 := cstep y2 hB
            have y3 := cstep y3 hB
            have y4 := cstep y4 hB
            have y5 := cstep y5 hB
            have y6 := cstep y6 hB
            have y7 := cstep y7 hB
            have z4 := cstep z4 hB
            have z5 := cstep z5 hB
            have z6 := cstep z6 hB
            have z7 := cstep z7 hB
            clear hB
            go_wp2
            go_ret
            exact ⟨rfl, bstep HB0.out HB15.out⟩
          · subst he
            go_wp2_with fail
            refine (HW.out _).mono ?_
            rintro e w16 ⟨rfl, hB⟩
            have HB16 := hid (bstep HB12.out hB)
            have y0 := cstep y0 hB
            have y1 := cstep y1 hB
            have y2 := cstep y2 hB
            have y3 := cstep y3 hB
            have y4 := cstep y4 hB
            have y5 := cstep y5 hB
            have y6 := cstep y6 hB
            have y7 := cstep y7 hB
            have z4 := cstep z4 hB
            have z5 := cstep z5 hB
            have z6 := cstep z6 hB
            have z7 := cstep z7 hB
            clear hB
            go_wp2
            go_ret
            exact ⟨rfl, bstep HB0.out HB16.out⟩
end

end Go.Proofs.Ytnnojhpioenhbaa
