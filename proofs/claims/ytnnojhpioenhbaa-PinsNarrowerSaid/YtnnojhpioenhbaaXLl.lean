/- The law PinsTurned. -/
import Derived.Test.YtnnojhpioenhbaaXLk
import Derived.Test.YtnnojhpioenhbaaXQf
namespace Go.Proofs.Ytnnojhpioenhbaa
open Go.RowKit Go.Shelf

theorem OwnR.grownOf {er ee N : Nat} {w w' : World} {ao : Option Addr} {n cap : Nat} {ls : List (List Int)} {vs : List Value} (h : OwnR er ee N w ao n cap ls vs) {e2 sz2 N2 : Nat} {ao2 : Option Addr} {n2 cap2 : Nat} {vs2 : List Value}
    (h2 : OwnV e2 sz2 N2 w ao2 n2 cap2 vs2) (hg : w.grownBy w' (Value.ownBlock (.slice ao2 n2 cap2))) (hne : er ≠ e2) (hne2 : ee ≠ e2) : OwnR er ee N w' ao n cap ls vs :=
  ⟨h.own.grown h2 hg hne, h.len, fun j hj => by obtain ⟨ra, rc, h3, h4⟩ := h.row j hj; exact ⟨ra, rc, h3, h4.1, h4.2.grown h2 hg hne2⟩⟩
theorem V2At.set0 {w : World} {g : Nat} {t : TypeId} {x y : Value} (h : V2At w g t x y) (b : Value) : V2At (w.setCell ⟨g, 0, none⟩ b) g t b y :=
  heap_setCell_same _ _ 0 #[x, y] t _ h
section
variable (pa : Option Addr) (pc : Nat) (ya : Option Addr) (yc : Nat) (B : Bd) (n1 : Nat) (w : World)
set_option maxRecDepth 100000 in
set_option maxHeartbeats 8000000 in
theorem pinsTurned_c (hworks : WorksC) (hb : BdAt w pa ya B) (w1 : n1 < 256) : Calls Try.prog 11 #[.agg #[.slice pa B.pins.length pc, .slice ya B.pays.length yc], .int .u8 (n1 : Int)] w (TellB w true) := by
  have HW := hid hworks
  obtain ⟨V, hV, hB0, k0, k1⟩ := box1 w (.slice pa B.pins.length pc) (.slice ya B.pays.length yc) 25
  have hbV := hb.mono hB0
  have HB0 := hid hB0; have HV := hid hV; have HV0 := hid (Below.refl V.heap.size V)
  have K0 := hid k0; have K1 := hid k1
  have HG := hid (fine_c pa pc ya yc B V hbV)
  unfold WorksC TellB at *
  cases hg : fineB B with
  | false =>
    rw [hg] at HG
    clear hworks hb hV hB0 hbV hg
    go_enter Try.func11, Try.ntmps11
    go_upto_region 1 with (fail)
    rw [← HV.out]
    go_wp2_with fail
    refine (HG.out).mono ?_
    rintro e w1 ⟨rfl, hB⟩
    have HB1 := hid (bstep HV0.out hB)
    clear hB
    go_wp2_with fail
    refine (HW.out _).mono ?_
    rintro e w2 ⟨rfl, hB⟩
    have HB2 := hid (bstep HB1.out hB)
    clear hB
    go_wp2
    go_ret
    exact ⟨rfl, bstep HB0.out HB2.out⟩
  | true =>
    rw [hg] at HG
    have hBk := bok_iff.1 (fineB_zero hg)
    have hn := hBk.n8; have hn1 := hBk.n1; have hpy := hBk.pays
    have hlv := givN_lv n1
    have H4 := hid fun (w' : World) => given_c n1 w' w1
    unfold TellI at H4
    obtain ⟨lv, hlvE⟩ : ∃ a, a = givN n1 := ⟨_, rfl⟩
    rw [← hlvE] at H4 hlv
    have HbV := hid hbV
    obtain ⟨pb, po, pra, prc, hpa, _⟩ := hbV.1.at (j := 0) (by omega)
    obtain ⟨yb, yo, hya, _⟩ := hbV.2.at (k := 0) (by omega)
    have hTk := turn_bok hBk
    have eN : IntKind.i64.wrap (-lv) = -lv := wrap_i64_of (by omega) (by omega)
    obtain ⟨hX1, hY1, hXY⟩ := turn_waysX hBk hlv
    obtain ⟨e1, e2, e3⟩ := turn_payX hBk hlv
    have H5 := hid fun (w' : World) (h : Below V.heap.size V w') => waysLaw_c pa pc ya yc B lv w' (hbV.mono h) hBk hlv
    have H6 := hid fun (xa ta : Option Addr) (xc tc : Nat) (w' : World) (hx : RowsAt w' xa (tPins B B.pins.length)) (ht : IntsAt w' ta (tPays B (B.pins.length + 1))) => (show Calls Try.prog 53 #[.agg #[.slice xa B.pins.length xc, .slice ta (B.pins.length + 1) tc], .int .i64 (-lv)] w' (fun e w2 => ∃ ao cap, e = .returned (.tuple #[.slice ao (B.pins.length + 1) cap, .bool true]) ∧ IntsAt w2 ao (waysX (turnB B) (-lv)) ∧ (ao = none → cap = 0) ∧ Below w'.heap.size w' w2) from by
      have := waysLaw_c xa xc ta tc (turnB B) (-lv) w' ⟨hx, ht⟩ hTk (by omega)
      rw [turn_pins, turn_pays] at this
      exact this)
    have H7 := hid fun (w' : World) (h : Below V.heap.size V w') => pPay_c pa pc ya yc B lv w' (hbV.mono h) (by omega) (by omega)
    have H8 := hid fun (xa ta : Option Addr) (xc tc : Nat) (w' : World) (hx : RowsAt w' xa (tPins B B.pins.length)) (ht : IntsAt w' ta (tPays B (B.pins.length + 1))) => (show Calls Try.prog 20 #[.agg #[.slice xa B.pins.length xc, .slice ta (B.pins.length + 1) tc], .int .i64 (-lv)] w' (QE w' (atErr (turnB B) (-lv)) (payX (turnB B) (-lv))) from by
      have := pPay_c xa xc ta tc (turnB B) (-lv) w' ⟨hx, ht⟩ (by rw [turn_pins]; omega) (by rw [turn_pays]; omega)
      rw [turn_pins, turn_pays] at this
      exact this)
    rw [e1] at H7
    rw [e2, e3] at H8
    unfold QE at H7 H8
    obtain ⟨P, hP⟩ : ∃ p, p = payX B lv := ⟨_, rfl⟩
    rw [← hP] at H7 H8
    obtain ⟨X, hXX⟩ : ∃ X, X = waysX B lv := ⟨_, rfl⟩
    obtain ⟨Y, hYY⟩ : ∃ X, X = waysX (turnB B) (-lv) := ⟨_, rfl⟩
    rw [← hXX] at H5 hX1 hXY
    rw [← hYY] at H6 hY1 hXY
    have Hpy := hid hpy; have Hn := hid hn; have HX1 := hid hX1; have HY1 := hid hY1; have HXY := hid hXY
    have Hpin := hid hBk.pin; have Hrow := hid hBk.row
    have ey : IntKind.i64.wrap (B.pays.length : Int) = (B.pays.length : Int) := wrap_i64_of (by omega) (by omega)
    have ey1 : IntKind.i64.wrap ((B.pays.length : Int) - 1) = (B.pins.length : Int) := by rw [wrap_i64_of (by omega) (by omega)]; omega
    clear hworks hb hV hB0 hbV hg hBk hn hn1 hpy hlv hlvE hTk hX1 hY1 hXY e1 e2 e3 hP hXX hYY
    subst hpa hya
    go_enter Try.func11, Try.ntmps11
    go_upto_region 1 with (fail)
    rw [← HV.out]
    go_wp2_with fail
    refine (HG.out).mono ?_
    rintro e w1 ⟨rfl, hB⟩
    have HB1 := hid (bstep HV0.out hB)
    have k0 := cstep k0 hB
    have k1 := cstep k1 hB
    clear hB
    go_upto_region 4 with (fail)
    obtain ⟨w2, hY⟩ : ∃ y, y = w1.alloc (.cells #[.slice none 0 0, .slice none 0 0] 25) := ⟨_, rfl⟩
    have hB : Below w1.heap.size w1 w2 := by rw [hY]; exact bnew _ _
    have HC := hid (show V2At w2 w1.heap.size 25 (.slice none 0 0) (.slice none 0 0) by rw [hY]; exact heap_alloc_new _ _)
    have Hge := hid (show V.heap.size ≤ w1.heap.size from HB1.out.size)
    rw [← hY]
    obtain ⟨g, hgg⟩ : ∃ g, g = w1.heap.size := ⟨_, rfl⟩
    rw [← hgg] at HC Hge ⊢
    clear hY hgg
    have HB2 := hid (bstep HB1.out hB)
    have k0 := cstep k0 hB
    have k1 := cstep k1 hB
    clear hB
    clear k0 k1
    have k0 := cstep K0.out HB2.out
    go_wp2
    go_loopw [6, 7, 8] (fun i _ _ wr => ∃ (r : Nat) (ao : Option Addr) (cap : Nat) (vs : List Value), r ≤ B.pins.length ∧ i = .int .i64 r ∧ V2At wr g 25 (.slice ao r cap) (.slice none 0 0) ∧ OwnR 42 3 (g + 1) wr ao r cap (tPins B r) vs ∧ Below V.heap.size V wr) (fun i _ _ _ => B.pins.length - (intOf i).toNat)
    case atStart => exact ⟨0, none, 0, [], Nat.zero_le _, rfl, HC.out, OwnR.nil _ _ _ _, HB2.out⟩
    case round =>
      obtain ⟨r, ao, cap, vs, hr, rfl, hv, ho, hB⟩ := hrel
      obtain ⟨wo, rfl⟩ : ∃ wo : World, wo = wr := ⟨_, rfl⟩
      have HBo := hid hB
      have k0 := cstep K0.out hB
      clear hB
      have HC := hid hv; have Ho := hid ho
      clear hv ho
      by_cases hlt : r < B.pins.length
      · have hrI : (r : Int) < (B.pins.length : Int) := by omega
        go_wp2
        go_loopw [7, 8] (fun o i wr => ∃ (c : Nat) (ai : Option Addr) (ci : Nat), c ≤ r + 1 ∧ i = .int .i64 ((r : Int) - c) ∧ o = .slice ai c ci ∧ OwnI 3 wo.heap.size wr ai c ci (tRow B r c) ∧ Below wo.heap.size wo wr) (fun _ i _ => (intOf i + 1).toNat)
        case atStart => exact ⟨0, none, 0, Nat.zero_le _, by go_num, rfl, OwnI.nil _ _ _, Below.refl _ _⟩
        case round =>
          obtain ⟨c, ai, ci, hc, rfl, rfl, hoi, hBi⟩ := hrel
          obtain ⟨wi, rfl⟩ : ∃ wi : World, wi = wr := ⟨_, rfl⟩
          have HBi := hid hBi; have Hoi := hid hoi
          have hBV := bstep HBo.out hBi
          have k0 := cstep K0.out hBV
          have HbV2 := hid (HbV.out.mono hBV)
          have HBV := hid hBV
          clear hBi hoi hBV
          by_cases hcr : c < r + 1
          · obtain ⟨k, hk⟩ : ∃ k, k = r - c := ⟨_, rfl⟩
            have ek : (r : Int) - (c : Int) = (k : Int) := by omega
            rw [ek]
            have hkr : k ≤ r := by omega
            have hkI : (0 : Int) ≤ (k : Int) := by omega
            have hkI2 : (k : Int) < (r : Int) + 1 := by omega
            obtain ⟨pb2, po2, ra, rc, heq, c0, i0, _⟩ := HbV2.out.1.at (j := r) hlt
            cases heq
            rw [Hrow.out r hlt] at c0
            obtain ⟨rb, ro, rfl, c1⟩ := i0.at (k := k) (by rw [Hrow.out r hlt]; omega)
            have hpin := Hpin.out r k hlt hkr
            have hst := tRow_succ B r c
            rw [← hk] at hst
            obtain ⟨x, hx⟩ : ∃ x, x = nth (nthL B.pins r) k := ⟨_, rfl⟩
            rw [← hx] at hpin c1 hst
            obtain ⟨v, hv⟩ : ∃ v, v = 10 - x := ⟨_, rfl⟩
            rw [← hv] at hst
            have v1 : IntKind.i64.wrap (10 - x) = v := by rw [← hv]; exact wrap_i64_of (by omega) (by omega)
            have v2 : IntKind.i64.wrap ((k : Int) - 1) = (k : Int) - 1 := wrap_i64_of (by omega) (by have := Hn.out; omega)
            have Hst := hid hst; have Hek := hid ek
            have hcb : c + 1 ≤ 1000000 := by have := Hn.out; omega
            obtain ⟨L, hL⟩ : ∃ L, L = wi.alloc (.cells #[.int .i64 v] 3) := ⟨_, rfl⟩
            have hBL : Below wi.heap.size wi L := by rw [hL]; exact bnew _ _
            have hoL := Hoi.out.kept hBL
            have hcL : L.cell? ⟨wi.heap.size, 0, none⟩ = some (.int .i64 v) := by rw [hL]; simp [go_sem]
            have hsz : wo.heap.size ≤ L.heap.size := (bstep HBi.out hBL).size
            have HoL := hid hoL; have HL := hid hL; have HBoL := hid (bstep HBi.out hBL)
            clear hBL hoL hL hst hx hv hpin i0 ek hk
            go_wp2_with (at_builtin; rw [← HL.out]; refine wpList_appV et42 _ rfl _ _ rfl wo.heap.size ai c ci (intv (tRow B r c)) rfl HoL.out.2 (some ⟨wi.heap.size, 0, none⟩) 1 1 (intv [v]) rfl (cellsAt_one rfl hcL) rfl (intv_one _) (fun h => by cases h) hcb hsz ?_; (intro ao' cap' w' hB' hown' hgr' hn'; refine Hid.out ?_))
            refine hid ?_
            have Hnew := hid (OwnI.app HoL.out.1 rfl hown')
            have HBn := hid (HBoL.out.trans hB')
            clear hB' hown' hgr' hn'
            go_wp2
            go_roundw
            case rel => exact ⟨c + 1, ao', cap', by omega, by have := Hek.out; go_num, rfl, by rw [Hst.out]; exact Hnew.out, HBn.out⟩
            case measure => (have := Hek.out; simp [intOf] <;> omega)
          · have hcE : c = r + 1 := by omega
            have ek : (r : Int) - (c : Int) = -1 := by omega
            rw [ek]
            rw [hcE] at Hoi ⊢
            clear hcr hc ek
            have hsu := tPins_succ B r
            have Hsu := hid hsu
            clear hsu
            have HC2 := hid (HC.out.mono HBi.out)
            have c2 := HC2.out.c0
            have hnx := Hoi.out.base (show g + 1 ≤ wo.heap.size from HC.out.lt)
            obtain ⟨L, hL⟩ : ∃ L, L = wi.alloc (.cells #[.slice ai (r + 1) ci] 42) := ⟨_, rfl⟩
            have hBL : Below wi.heap.size wi L := by rw [hL]; exact bnew _ _
            have hoi2 : OwnR 42 3 (g + 1) wi ao r cap (tPins B r) vs := Ho.out.old (w' := wi) fun j hj => HBi.out.block j hj
            have HoL := hid (hoi2.kept hBL); have HnL := hid (hnx.kept hBL); have hcL : L.cell? ⟨wi.heap.size, 0, none⟩ = some (.slice ai (r + 1) ci) := by rw [hL]; simp [go_sem]
            have hsz : g + 1 ≤ L.heap.size := by have := hBL.size; have := HC2.out.lt; omega
            have HC3 := hid (HC2.out.mono hBL)
            have HBL := hid (bstep HBV.out hBL)
            have HL := hid hL
            have hrb : r + 1 ≤ 1000000 := by have := Hn.out; omega
            clear hBL hoi2 hnx hL
            go_wp2_with (at_builtin; rw [← HL.out]; refine wpList_appV et22 _ rfl _ _ rfl (g + 1) ao r cap vs rfl HoL.out.own (some ⟨wi.heap.size, 0, none⟩) 1 1 [.slice ai (r + 1) ci] rfl (cellsAt_one rfl hcL) rfl (fun u hu => by rw [List.mem_singleton.1 hu]; rfl) (fun h => by cases h) hrb hsz ?_; (intro ao' cap' w' hB' hown' hgr' hn'; refine Hid.out ?_))
            refine hid ?_
            have Hnew := hid (OwnR.app HoL.out (by decide) hgr' HnL.out hown')
            have hvk : V2At w' g 25 (.slice ao r cap) (.slice none 0 0) := HC3.out.grown hgr' (by intro e; have := (HoL.out.own.block e.symm).1; omega)
            have f0 := hvk.f0; have c3 := hvk.c0
            have Hvk := hid hvk
            have HBn := hid (HBL.out.trans (hB'.mono (by have := Hge.out; omega)))
            have e7 : IntKind.i64.wrap ((r : Int) + 1) = (r : Int) + 1 := wrap_i64_of (by omega) (by have := Hn.out; omega)
            clear hB' hown' hgr' hn' hvk
            go_wp2
            go_roundw
            case rel => exact ⟨r + 1, ao', cap', _, by omega, by go_num, Hvk.out.set0 _, by rw [Hsu.out]; exact Hnew.out.keptIf (fun b cur t _ hb _ => Below.heap_setCell _ _ _ _ (fun e => by have e : b = g := e; omega)), HBn.out.setCell (p := ⟨g, 0, none⟩) Hge.out _⟩
            case measure => simp [intOf]; omega
      · obtain rfl : r = B.pins.length := by omega
        have hNN : ¬ (B.pins.length : Int) < (B.pins.length : Int) := by omega
        have k1 := cstep K1.out HBo.out
        have HCo := HC
        have Hpw := hid Ho.out
        clear hr hlt
        go_wp2
        go_loopw [9] (fun i wr => ∃ (c : Nat) (qo : Option Addr) (qc : Nat), c ≤ B.pins.length + 1 ∧ i = .int .i64 ((B.pins.length : Int) - c) ∧ V2At wr g 25 (.slice ao B.pins.length cap) (.slice qo c qc) ∧ OwnI 2 wo.heap.size wr qo c qc (tPays B c) ∧ OwnR 42 3 (g + 1) wr ao B.pins.length cap (tPins B B.pins.length) vs ∧ Below V.heap.size V wr ∧ wo.heap.size ≤ wr.heap.size) (fun i _ => (intOf i + 1).toNat)
        case atStart => exact ⟨0, none, 0, Nat.zero_le _, by go_num, HCo.out, OwnI.nil _ _ _, Hpw.out, HBo.out, Nat.le_refl _⟩
        case round =>
          obtain ⟨c, qo, qc, hc, rfl, hv, hoq, hop, hB, hsz0⟩ := hrel
          obtain ⟨wk, rfl⟩ : ∃ wk : World, wk = wr := ⟨_, rfl⟩
          have HB := hid hB; have HC := hid hv; have HO := hid hoq; have HP := hid hop
          have k0 := cstep K0.out hB; have k1 := cstep K1.out hB
          have Hsz0 := hid hsz0
          clear hB hv hoq hop hsz0
          by_cases hcn : c < B.pins.length + 1
          · obtain ⟨k, hk⟩ : ∃ k, k = B.pins.length - c := ⟨_, rfl⟩
            have ek : (B.pins.length : Int) - (c : Int) = (k : Int) := by omega
            rw [ek]
            have hkI : (0 : Int) ≤ (k : Int) := by omega
            have hkI2 : (k : Int) < (B.pays.length : Int) := by have := Hpy.out; omega
            have hc1 := (HbV.out.mono HB.out).2.cell (k := k) (by have := Hpy.out; omega)
            have hst := tPays_succ B c
            rw [← hk] at hst
            obtain ⟨z, hz⟩ : ∃ z, z = nth B.pays k := ⟨_, rfl⟩
            rw [← hz] at hst hc1
            have v2 : IntKind.i64.wrap ((k : Int) - 1) = (k : Int) - 1 := wrap_i64_of (by omega) (by have := Hn.out; omega)
            have hv1 := HC.out.c1; have hf1 := HC.out.f1
            have Hst := hid hst; have Hek := hid ek
            have hg1 : g < wk.heap.size := HC.out.lt
            have hg2 : ¬ g = wk.heap.size := by omega
            have hy1 : yb < wk.heap.size := lt_of_cell hc1
            have hy2 : ¬ yb = wk.heap.size := by omega
            have hq1 : w.heap.size < wk.heap.size := lt_of_cell k0
            have hq2 : ¬ w.heap.size = wk.heap.size := by omega
            have hkb : c + 1 ≤ 1000000 := by have := Hn.out; omega
            have Hgo := hid (show g < wo.heap.size from HCo.out.lt)
            clear hst hz hk ek
            go_upto_region 16 with (fail)
            go_region_law (refine step_appV et23 _ (by rfl) _ _ (by rfl) wo.heap.size qo c qc (intv (tPays B c)) (by rfl) (HO.out.2.kept (by first | exact bnew _ _ | exact (bnew _ _).drew | exact bstep (Below.refl _ _).drew (bnew _ _))) (some ⟨wk.heap.size, 0, none⟩) 1 1 (intv [z]) (by rfl) (cellsAt_one rfl (by simp [go_sem])) rfl (intv_one _) (fun h => by cases h) hkb (by have := Hsz0.out; simp; omega) ?_; intro ao' cap' w' hB' hown' hgr' hn'; have hvk : V2At w' g 25 (.slice ao B.pins.length cap) (.slice qo c qc) := V2At.grown (HC.out.mono (by first | exact bnew _ _ | exact (bnew _ _).drew | exact bstep (Below.refl _ _).drew (bnew _ _))) hgr' (by intro e; have := (HO.out.2.block e.symm).1; have := Hgo.out; omega); have hf1' := hvk.f1; have hv1' := hvk.c1; have hown2 : OwnI 2 wo.heap.size w' ao' (c + 1) cap' (tPays B (c + 1)) := (by rw [Hst.out]; exact OwnI.app HO.out.1 rfl hown'); have HBw := hid ((HB.out.trans (Below.mono (show Below wk.heap.size wk _ from (by first | exact bnew _ _ | exact (bnew _ _).drew | exact bstep (Below.refl _ _).drew (bnew _ _))) HB.out.size)).trans (hB'.mono (by have := HBo.out.size; omega))); have hop2 : OwnR 42 3 (g + 1) w' ao B.pins.length cap (tPins B B.pins.length) vs := OwnR.grownOf (HP.out.kept (by first | exact bnew _ _ | exact (bnew _ _).drew | exact bstep (Below.refl _ _).drew (bnew _ _))) (HO.out.2.kept (by first | exact bnew _ _ | exact (bnew _ _).drew | exact bstep (Below.refl _ _).drew (bnew _ _))) hgr' (by decide) (by decide); have Hop2 := hid hop2; have Hsz2 := hid (show wo.heap.size ≤ w'.heap.size from Nat.le_trans Hsz0.out (Nat.le_trans (show Below wk.heap.size wk _ from (by first | exact bnew _ _ | exact (bnew _ _).drew | exact bstep (Below.refl _ _).drew (bnew _ _))).size hB'.size)); have Hvk := hid hvk; have Hown := hid hown2; clear hB' hown' hgr' hn' hown2 hvk hop2)
            all_goals (
              go_wp2
              go_roundw)
            all_goals first
              | exact ⟨c + 1, ao', cap', by omega, by have := Hek.out; go_num, Hvk.out.set1 _, Hown.out.keptIf (fun b cur hb _ => Below.heap_setCell _ _ _ _ (fun e => by have e : b = g := e; have := Hgo.out; omega)), Hop2.out.keptIf (fun b cur t _ hb _ => Below.heap_setCell _ _ _ _ (fun e => by have e : b = g := e; omega)), HBw.out.setCell (p := ⟨g, 1, none⟩) Hge.out _, by simpa using Hsz2.out⟩
              | (have := Hek.out; simp [intOf] <;> omega)
          · have hcE : c = B.pins.length + 1 := by omega
            have ek : (B.pins.length : Int) - (c : Int) = -1 := by omega
            rw [ek]
            rw [hcE] at HO HC
            clear hcE hcn hc ek
            have HR := hid HP.out.at; have HQ := hid HO.out.at
            have x0 := HC.out.c0; have x1 := HC.out.c1
            clear HO HP HC
            go_wp2_with fail
            refine (H4.out _).mono ?_
            rintro e w3 ⟨rfl, hB⟩
            have HB3 := hid (bstep HB.out hB)
            have k0 := cstep k0 hB
            have k1 := cstep k1 hB
            have x0 := cstep x0 hB
            have x1 := cstep x1 hB
            have HR := hid (HR.out.mono hB)
            have HQ := hid (HQ.out.mono hB)
            clear hB
            go_wp2_with fail
            refine (H5.out _ HB3.out).mono ?_
            rintro e w4 ⟨uo, uc, rfl, hx, _, hB⟩
            have HB4 := hid (bstep HB3.out hB)
            have k0 := cstep k0 hB
            have k1 := cstep k1 hB
            have x0 := cstep x0 hB
            have x1 := cstep x1 hB
            have HR := hid (HR.out.mono hB)
            have HQ := hid (HQ.out.mono hB)
            clear hB
            have HU := hid hx
            clear hx
            go_wp2_with fail
            refine (H6.out _ _ _ _ _ HR.out HQ.out).mono ?_
            rintro e w5 ⟨vo, vc, rfl, hy, _, hB⟩
            have HB5 := hid (bstep HB4.out hB)
            have k0 := cstep k0 hB
            have k1 := cstep k1 hB
            have x0 := cstep x0 hB
            have x1 := cstep x1 hB
            have HR := hid (HR.out.mono hB)
            have HQ := hid (HQ.out.mono hB)
            have HU := hid (HU.out.mono hB)
            clear hB
            have HVv := hid hy
            clear hy
            go_wp2_with fail
            refine (H7.out _ HB5.out).mono ?_
            rintro e w6 ⟨rfl, hB⟩
            have HB6 := hid (bstep HB5.out hB)
            have k0 := cstep k0 hB
            have k1 := cstep k1 hB
            have x0 := cstep x0 hB
            have x1 := cstep x1 hB
            have HR := hid (HR.out.mono hB)
            have HQ := hid (HQ.out.mono hB)
            have HU := hid (HU.out.mono hB)
            have HVv := hid (HVv.out.mono hB)
            clear hB
            go_upto_region 21 with (fail)
            obtain ⟨w7, hY⟩ : ∃ y, y = (w6.alloc (.cells #[.int .i64 P.1, .int .i64 P.2] 32)) := ⟨_, rfl⟩
            have hB : Below w6.heap.size w6 w7 := by rw [hY]; exact bnew _ _
            have QA := hid (show Q2 w7 (w6.heap.size) P.1 P.2 by rw [hY]; constructor <;> simp [go_sem])
            rw [← hY]
            obtain ⟨qa, hqa⟩ : ∃ q, q = w6.heap.size := ⟨_, rfl⟩
            rw [← hqa] at QA ⊢
            clear hY hqa
            have HB7 := hid (bstep HB6.out hB)
            have k0 := cstep k0 hB
            have k1 := cstep k1 hB
            have x0 := cstep x0 hB
            have x1 := cstep x1 hB
            have HR := hid (HR.out.mono hB)
            have HQ := hid (HQ.out.mono hB)
            have HU := hid (HU.out.mono hB)
            have HVv := hid (HVv.out.mono hB)
            clear hB
            go_wp2_with fail
            refine (H8.out _ _ _ _ _ HR.out HQ.out).mono ?_
            rintro e w8 ⟨rfl, hB⟩
            have HB8 := hid (bstep HB7.out hB)
            have k0 := cstep k0 hB
            have k1 := cstep k1 hB
            have x0 := cstep x0 hB
            have x1 := cstep x1 hB
            have HR := hid (HR.out.mono hB)
            have HQ := hid (HQ.out.mono hB)
            have HU := hid (HU.out.mono hB)
            have HVv := hid (HVv.out.mono hB)
            have QA := hid (QA.out.mono hB)
            clear hB
            go_upto_region 22 with (fail)
            obtain ⟨w9, hY⟩ : ∃ y, y = (w8.alloc (.cells #[.int .i64 P.1, .int .i64 P.2] 32)) := ⟨_, rfl⟩
            have hB : Below w8.heap.size w8 w9 := by rw [hY]; exact bnew _ _
            have QB := hid (show Q2 w9 (w8.heap.size) P.1 P.2 by rw [hY]; constructor <;> simp [go_sem])
            rw [← hY]
            obtain ⟨qb, hqb⟩ : ∃ q, q = w8.heap.size := ⟨_, rfl⟩
            rw [← hqb] at QB ⊢
            clear hY hqb
            have HB9 := hid (bstep HB8.out hB)
            have k0 := cstep k0 hB
            have k1 := cstep k1 hB
            have x0 := cstep x0 hB
            have x1 := cstep x1 hB
            have HR := hid (HR.out.mono hB)
            have HQ := hid (HQ.out.mono hB)
            have HU := hid (HU.out.mono hB)
            have HVv := hid (HVv.out.mono hB)
            have QA := hid (QA.out.mono hB)
            clear hB
            have y0 := QA.out.1; have y1 := QA.out.2; have y2 := QB.out.1; have y3 := QB.out.2
            clear QA QB
            go_wp2
            go_loopw [19] (fun i wr => ∃ k : Nat, k ≤ B.pins.length + 1 ∧ i = .int .i64 k ∧ Below w9.heap.size w9 wr) (fun i _ => B.pins.length + 1 - (intOf i).toNat)
            case atStart => exact ⟨0, Nat.zero_le _, rfl, Below.refl _ _⟩
            case round =>
              obtain ⟨k, hk, rfl, hB⟩ := hrel
              obtain ⟨wj, rfl⟩ : ∃ wj : World, wj = wr := ⟨_, rfl⟩
              have HBj := hid hB
              have HU := hid (HU.out.mono hB)
              have HVv := hid (HVv.out.mono hB)
              clear hB
              by_cases hkn : k < B.pins.length + 1
              · have hkI : (k : Int) < (B.pins.length : Int) + 1 := by omega
                obtain ⟨j, hj⟩ : ∃ j, j = B.pins.length - k := ⟨_, rfl⟩
                obtain ⟨ub, uo2, rfl, c0⟩ := HU.out.at (k := k) (by have := HX1.out; omega)
                obtain ⟨vb, vo2, rfl, c1⟩ := HVv.out.at (k := j) (by have := HY1.out; omega)
                have hxy := HXY.out k (by omega)
                rw [← hj] at hxy
                rw [hxy] at c1
                obtain ⟨z, hz⟩ : ∃ z, z = nth X k := ⟨_, rfl⟩
                rw [← hz] at c0 c1
                have v1 : IntKind.i64.wrap ((B.pins.length : Int) - (k : Int)) = (j : Int) := by rw [wrap_i64_of (by have := Hn.out; omega) (by have := Hn.out; omega)]; omega
                have v1b : IntKind.i64.wrap (B.pins.length : Int) = (B.pins.length : Int) := wrap_i64_of (by have := Hn.out; omega) (by have := Hn.out; omega)
                have v3 : IntKind.i64.wrap ((k : Int) + 1) = (k : Int) + 1 := wrap_i64_of (by omega) (by have := Hn.out; omega)
                have v4 : (j : Int) < (B.pins.length : Int) + 1 := by omega
                have v5 : (0 : Int) ≤ (j : Int) := by omega
                have Hj := hid hj
                clear hxy hz hj
                have jc0 := fun s : Later wj => cstep c0 s.h
                have jc1 := fun s : Later wj => cstep c1 s.h
                go_upto_region 27 with (fail)
                refine wp_region_later (by kernel_rfl) (by kernel_rfl) ?_
                repeat (go_big_quiet_step (fail))
                refine wpQuiet_nil ?_
                rintro w10 ⟨⟨_, hB⟩, rfl⟩
                clear jc0 jc1
                have HB10 := hid (bstep HBj.out hB)
                have c0 := cstep c0 hB
                have c1 := cstep c1 hB
                clear hB
                go_wp2
                go_roundw
                case rel => exact ⟨k + 1, by omega, by go_num, HB10.out⟩
                case measure => simp [intOf]; omega
              · have hkI : ¬ (k : Int) < (B.pins.length : Int) + 1 := by omega
                go_wp2_with fail
                refine (HW.out _).mono ?_
                rintro e w11 ⟨rfl, hB⟩
                have HB11 := hid (bstep HBj.out hB)
                clear hB
                go_wp2
                go_ret
                exact ⟨rfl, bstep HB0.out (bstep HB9.out HB11.out)⟩
end

end Go.Proofs.Ytnnojhpioenhbaa
