/- Walks: Needed. Walks: After. Walks: what best compares by. -/
import Derived.Test.YtelgbjfgmpkepaaKL
import Derived.Test.YtelgbjfgmpkepaaKH
import Derived.Test.YtelgbjfgmpkepaaKF
namespace Go.Proofs.Ytelgbjfgmpkepaa
open Go.RowKit Go.Shelf

theorem counts_to (K : Kn) (k : Nat) (hk : k ≤ K.cop.length) : (casesTo K k).length = (K.cop.take k).count 1 + (K.cop.take k).count 2 + 2 * (K.cop.take k).count 3 ∧ (K.cop.take k).count 0 + (K.cop.take k).count 1 + (K.cop.take k).count 2 + (K.cop.take k).count 3 ≤ k := by
  induction k with
  | zero => simp [casesTo]
  | succ k ih =>
    obtain ⟨h1, h2⟩ := ih (by omega)
    have hk' : k < K.cop.length := by omega
    rw [count_take hk', count_take hk', count_take hk', count_take hk']
    have e : (casesTo K (k + 1)).length = (casesTo K k).length + (copCases K k).length := by simp [casesTo]
    have e2 : (copCases K k).length = (if nth K.cop k = 1 then 1 else 0) + (if nth K.cop k = 2 then 1 else 0) + 2 * (if nth K.cop k = 3 then 1 else 0) := by
      unfold copCases hasKind
      by_cases a1 : nth K.cop k = 1
      · rw [a1]; rfl
      · by_cases a2 : nth K.cop k = 2
        · rw [a2]; rfl
        · by_cases a3 : nth K.cop k = 3
          · rw [a3]; rfl
          · simp [a1, a2, a3]
    rw [e, e2, h1]
    refine ⟨by omega, ?_⟩
    by_cases a0 : nth K.cop k = 0
    · rw [a0]; simp; omega
    · by_cases a1 : nth K.cop k = 1
      · rw [a1]; simp; omega
      · by_cases a2 : nth K.cop k = 2
        · rw [a2]; simp; omega
        · by_cases a3 : nth K.cop k = 3
          · rw [a3]; simp; omega
          · simp [a0, a1, a2, a3]; omega
theorem cntOf_cases (K : Kn) : (cntOf K).cases = (casesOf K).length := by
  have h := (counts_to K K.cop.length (Nat.le_refl _)).1
  rw [List.take_length] at h
  unfold Cnt.cases cntOf casesOf
  rw [List.length_append, h]
  simp only
  split <;> simp <;> omega
theorem cntOf_fine {K : Kn} (h : K.cop.length ≤ 12) : (cntOf K).fine := by
  have h1 := (counts_to K K.cop.length (Nat.le_refl _)).2
  rw [List.take_length] at h1
  unfold Cnt.fine cntOf
  simp only
  refine ⟨by omega, ?_⟩
  split <;> omega
theorem cases_pos {K : Kn} (h : Kok K) : 0 < (casesOf K).length := by
  rcases Nat.eq_zero_or_pos (casesOf K).length with h0 | h0
  · have hw : within 0 3 K.cop = true := within_iff.2 h.cop
    have := (cases_none hw).1 h0
    rw [Bool.and_eq_true] at this
    rcases h.some with h4 | ⟨k, hk, h4⟩
    · rw [h4] at this; simp at this
    · have := within_iff.1 this.2 k hk; omega
  · exact h0
/-- what Needed tells -/
def neErr (K : Kn) : Int := if knErr K = 0 then (if 1000 ≤ nd 1000 (cntOf K) then 21 else 0) else knErr K
def neVal (K : Kn) : Int := if knErr K = 0 then (if 1000 ≤ nd 1000 (cntOf K) then 0 else ((nd 1000 (cntOf K) : Nat) : Int)) else 0
section
variable (ka : Option Addr) (kc : Nat) (K : Kn) (w : World)
set_option maxRecDepth 100000 in
set_option maxHeartbeats 2000000 in
theorem needed_38 (hk : KnAt w ka K) (hlk : K.cop.length ≤ 1000000) : Calls Try.prog 38 #[.agg #[.slice ka K.cop.length kc, .bool K.none]] w (TellIE w (neVal K) (neErr K)) := by
  obtain ⟨V, hV, hB0, k0, k1⟩ := box1 w (.slice ka K.cop.length kc) (.bool K.none) 24
  have hkV := hk.mono hB0
  have HB0 := hid hB0; have HV := hid hV; have HV0 := hid (Below.refl V.heap.size V)
  have K0 := hid k0; have K1 := hid k1
  have H1 := hid fun (w' : World) (h : Below V.heap.size V w') => open0 ka kc K w' (hkV.mono h) hlk
  have hO : neVal K = if knErr K = 0 then (if 1000 ≤ nd 1000 (cntOf K) then 0 else ((nd 1000 (cntOf K) : Nat) : Int)) else 0 := rfl
  have hF : neErr K = if knErr K = 0 then (if 1000 ≤ nd 1000 (cntOf K) then 21 else 0) else knErr K := rfl
  have Hok := hid (kok_iff (K := K))
  obtain ⟨O, hOO⟩ : ∃ O, O = neVal K := ⟨_, rfl⟩
  obtain ⟨F, hFF⟩ : ∃ F, F = neErr K := ⟨_, rfl⟩
  rw [← hOO] at hO
  rw [← hFF] at hF
  rw [← hOO, ← hFF]
  obtain ⟨E, hE1⟩ : ∃ E, E = knErr K := ⟨_, rfl⟩
  rw [← hE1] at H1 hO hF Hok
  obtain ⟨nn, hnn⟩ : ∃ b, b = K.none := ⟨_, rfl⟩
  rw [← hnn] at k1 K1 HV H1 ⊢
  clear hnn hOO hFF hE1 hk hV hB0 hkV hlk
  unfold TellIE
  by_cases h0 : E = 0
  · have hok := Hok.out.1 h0
    have hn12 := hok.n12
    rw [if_pos h0] at hO hF
    have H3 := hid fun (g : Nat) (mv : Value) (w' : World) (hb : BalAt w' g ka kc K mv) => count_78 g ka kc K mv w' hb hn12 hok.cop
    have Hf := hid (cntOf_fine hn12)
    have Hp := hid (show 0 < (cntOf K).cases by rw [cntOf_cases]; exact cases_pos hok)
    obtain ⟨c, hc⟩ : ∃ c, c = cntOf K := ⟨_, rfl⟩
    rw [← hc] at H3 Hf Hp hO hF
    have H4 := hid fun (g m : Nat) (w' : World) => needed_c c g m w' Hf.out Hp.out
    unfold CntC at H3
    unfold NumM at H4
    rw [cntV_eq] at H3 H4
    obtain ⟨n, hn⟩ : ∃ n, n = nd 1000 c := ⟨_, rfl⟩
    rw [← hn] at H4 hO hF
    have hle : n ≤ 1000 := by rw [hn]; exact nd_le _ _
    subst h0
    clear hn hc hok hn12
    go_enter Try.func38, Try.ntmps38
    go_upto_region 1 with (fail)
    rw [← HV.out]
    go_wp2_with fail
    refine (H1.out _ HV0.out).mono ?_
    rintro e w1 h
    obtain ⟨g, m, rfl, hgs, hms, _, hbal, hmap, hB⟩ := h.ok rfl
    have HB1 := hid hB; have HBal := hid hbal; have HM := hid (memo_made hmap); have Hg := hid hbal.c2
    have Hms := hid (show w.heap.size ≤ m from Nat.le_trans HB0.out.size hms)
    clear h hB hbal hmap hgs hms
    go_wp2_with fail
    refine (H3.out g _ w1 HBal.out).mono ?_
    rintro e w2 ⟨rfl, hB⟩
    have Hg2 := hid (cstep Hg.out hB); have HM2 := hid (HM.out.mono hB); have HB2 := hid (bstep HB0.out (bstep HB1.out hB))
    clear hB
    go_wp2_with fail
    refine (H4.out g m w2 Hg2.out HM2.out).mono ?_
    rintro e w3 ⟨rfl, _, hO3⟩
    have HB3 := hid (HB2.out.trans (hO3.below HB2.out.size (fun q hq e => by have e : q = m := e; have := Hms.out; omega)))
    clear hO3
    by_cases hn : 1000 ≤ n
    · rw [if_pos hn] at hO hF
      have HO := hid hO; have HF := hid hF
      have b1 : ¬ (n : Int) < 1000 := by omega
      have b2 : (1000 : Int) ≤ (n : Int) := by omega
      clear hO hF
      go_wp2
      go_ret2
      exact ⟨by rw [HO.out, HF.out]; rfl, HB3.out⟩
    · rw [if_neg hn] at hO hF
      have HO := hid hO; have HF := hid hF
      have b1 : (n : Int) < 1000 := by omega
      have b2 : ¬ (1000 : Int) ≤ (n : Int) := by omega
      clear hO hF
      go_wp2
      go_ret2
      exact ⟨by rw [HO.out, HF.out]; rfl, HB3.out⟩
  · rw [if_neg h0] at hO hF
    have HO := hid hO; have HF := hid hF
    have H0 := hid h0
    have b1 : (E != 0) = true := by simpa using h0
    clear hO hF
    go_enter Try.func38, Try.ntmps38
    go_upto_region 1 with (fail)
    rw [← HV.out]
    go_wp2_with fail
    refine (H1.out _ HV0.out).mono ?_
    rintro e w1 h
    obtain ⟨rfl, hB⟩ := h.err H0.out
    have HB1 := hid hB
    clear h hB
    go_wp2
    go_ret2
    exact ⟨by rw [HO.out, HF.out]; rfl, bstep HB0.out HB1.out⟩
end

end Go.Proofs.Ytelgbjfgmpkepaa

namespace Go.Proofs.Ytelgbjfgmpkepaa
open Go.RowKit Go.Shelf

/-- what is left when a weighing has the result r -/
def krK (K : Kn) (ws : List Int) (r : Int) : Kn := leftK K.cop.length (withL K ws r)
/-- the most that the first k results need -/
def afN (K : Kn) (ws : List Int) : Nat → Nat
  | 0 => 0
  | k + 1 => max (afN K ws k) (if knErr (krK K ws ((k : Int) - 1)) = 0 then nd 1000 (cntOf (krK K ws ((k : Int) - 1))) else 0)
theorem afN_le (K : Kn) (ws : List Int) : ∀ k, afN K ws k ≤ 1000
  | 0 => Nat.zero_le _
  | k + 1 => by
    have h1 := afN_le K ws k
    have h2 := nd_le 1000 (cntOf (krK K ws ((k : Int) - 1)))
    unfold afN
    split <;> omega
def afErr (K : Kn) (ws : List Int) : Int := if kwErr K ws = 0 then (if 1000 ≤ afN K ws 3 then 21 else 0) else kwErr K ws
def afVal (K : Kn) (ws : List Int) : Int := if kwErr K ws = 0 then (if 1000 ≤ afN K ws 3 then 0 else ((afN K ws 3 : Nat) : Int)) else 0
section
variable (ka : Option Addr) (kc : Nat) (K : Kn) (wa : Option Addr) (wc : Nat) (ws : List Int) (w : World)
set_option maxRecDepth 100000 in
set_option maxHeartbeats 4000000 in
theorem after_40 (hk : KnAt w ka K) (hlk : K.cop.length ≤ 1000000) (hw : IntsAt w wa ws) (hl : ws.length ≤ 1000000) (hnil : wa = none → wc = 0) : Calls Try.prog 40 #[.agg #[.slice ka K.cop.length kc, .bool K.none], .slice wa ws.length wc] w (TellIE w (afVal K ws) (afErr K ws)) := by
  obtain ⟨V, hV, hB0, k0, k1⟩ := box1 w (.slice ka K.cop.length kc) (.bool K.none) 24
  have hkV := hk.mono hB0
  have HB0 := hid hB0; have HV := hid hV; have HV0 := hid (Below.refl V.heap.size V)
  have K0 := hid k0; have K1 := hid k1
  have hwV := hw.mono hB0
  obtain ⟨X, hX, hBX, hc⟩ := openW ka kc K wa wc ws V hkV hlk hwV hl hnil
  have HX := hid hX; have HBX := hid hBX; have H1 := hid hc
  have HwV := hid hwV; have HkV := hid hkV
  have hO : afVal K ws = if kwErr K ws = 0 then (if 1000 ≤ afN K ws 3 then 0 else ((afN K ws 3 : Nat) : Int)) else 0 := rfl
  have hF : afErr K ws = if kwErr K ws = 0 then (if 1000 ≤ afN K ws 3 then 21 else 0) else kwErr K ws := rfl
  have Hok := hid (kw_ok (K := K) (ws := ws))
  have Hlk := hid hlk
  obtain ⟨O, hOO⟩ : ∃ O, O = afVal K ws := ⟨_, rfl⟩
  obtain ⟨F, hFF⟩ : ∃ F, F = afErr K ws := ⟨_, rfl⟩
  rw [← hOO] at hO
  rw [← hFF] at hF
  rw [← hOO, ← hFF]
  obtain ⟨E, hE1⟩ : ∃ E, E = kwErr K ws := ⟨_, rfl⟩
  rw [← hE1] at H1 hO hF Hok
  obtain ⟨nn, hnn⟩ : ∃ b, b = K.none := ⟨_, rfl⟩
  rw [← hnn] at k1 K1 HV H1 ⊢
  clear hnn hOO hFF hE1 hk hw hV hB0 hkV hl hlk hX hBX hc hnil hwV
  unfold TellIE
  by_cases h0 : E = 0
  · obtain ⟨hok, hwok, _⟩ := Hok.out h0
    rw [if_pos h0] at hO hF
    have hn12 := hok.n12
    have Hok2 := hid hok; have Hwok := hid hwok
    subst h0
    have HO := hid hO; have HF := hid hF
    have HL := hid fun (r : Int) (g : Nat) (mv : Value) (w' : World) (hb : BalAt w' g ka kc K mv) (hw : IntsAt w' wa ws) => learned_c g ka kc K mv wa wc ws r w' hb Hok2.out hw Hwok.out
    unfold KnC at HL
    clear hok hwok hO hF
    go_enter Try.func40, Try.ntmps40
    go_upto_region 1 with (fail)
    rw [← HV.out]
    go_wp2_with fail
    rw [← HX.out]
    refine H1.out.mono ?_
    rintro e w1 h
    obtain ⟨g, m, rfl, hgs, hms, hgm, hbal, hmap, hB⟩ := h.ok rfl
    have HB1 := hid (bstep HBX.out hB); have HBal := hid hbal; have HM := hid (memo_made hmap)
    have Hms := hid (show V.heap.size ≤ m from Nat.le_trans HBX.out.size hms)
    have Hgm := hid hgm
    have Hm1 := hid (Array.getElem?_eq_some_iff.1 hmap).1
    clear h hB hbal hmap hgs hms hgm
    go_wp2
    go_loopw [8, 9, 10] (fun n i _ wr => ∃ k : Nat, k ≤ 3 ∧ i = .int .i64 ((k : Int) - 1) ∧ n = .int .i64 ((afN K ws k : Nat) : Int) ∧ MemoAt wr m ∧ Only (fun q => q = m) w1 wr) (fun _ i _ _ => 3 - ((intOf i) + 1).toNat)
    case atStart => exact ⟨0, by omega, rfl, rfl, HM.out, Only.refl _ _⟩
    case round =>
      obtain ⟨k, hk, rfl, rfl, hMr, hO⟩ := hrel
      obtain ⟨wo, rfl⟩ : ∃ wo : World, wo = wr := ⟨_, rfl⟩
      have HMo := hid hMr; have HOo := hid hO
      have HBo := hid (HB1.out.trans (hO.below HB1.out.size (fun q hq e => by have e : q = m := e; have := Hms.out; omega)))
      have HBalo := hid (show BalAt wo g ka kc K (.map (some m)) from ⟨hO.cell HBal.out.c0 (fun e => Hgm.out e), hO.cell HBal.out.c1 (fun e => Hgm.out e), hO.cell HBal.out.c2 (fun e => Hgm.out e), HkV.out.mono HBo.out⟩)
      have Hwo := hid (HwV.out.mono HBo.out)
      obtain ⟨i, hi⟩ : ∃ i : Int, i = (k : Int) - 1 := ⟨_, rfl⟩
      obtain ⟨N, hN⟩ : ∃ N, N = afN K ws k := ⟨_, rfl⟩
      rw [← hi, ← hN]
      have hNle : N ≤ 1000 := by rw [hN]; exact afN_le _ _ _
      clear hMr hO
      by_cases hk3 : k = 3
      · subst hk3
        have hO := HO.out; have hF := HF.out
        rw [← hN] at hO hF
        have b1 : ¬ i ≤ 1 := by omega
        clear hi hN hk
        by_cases hn : 1000 ≤ N
        · rw [if_pos hn] at hO hF
          have HO := hid hO; have HF := hid hF
          have b3 : (1000 : Int) ≤ (N : Int) := by omega
          clear hO hF hn hNle
          go_wp2
          go_ret2
          exact ⟨by rw [HO.out, HF.out]; rfl, HB0.out.trans (HBo.out.mono HB0.out.size)⟩
        · rw [if_neg hn] at hO hF
          have HO := hid hO; have HF := hid hF
          have b3 : ¬ (1000 : Int) ≤ (N : Int) := by omega
          clear hO hF hn hNle
          go_wp2
          go_ret2
          exact ⟨by rw [HO.out, HF.out]; rfl, HB0.out.trans (HBo.out.mono HB0.out.size)⟩
      · have b1 : i ≤ 1 := by omega
        have hkl := knErr_left (M := withL K ws i) Hok2.out.n1 Hok2.out.n12 (fun c hc => casesOf_ok Hok2.out.cop c (List.mem_filter.1 hc).1)
        have hstep : afN K ws (k + 1) = max N (if knErr (krK K ws i) = 0 then nd 1000 (cntOf (krK K ws i)) else 0) := by rw [hN, hi]; rfl
        have hCl : (krK K ws i).cop.length = K.cop.length := leftK_len _ _
        have HL2 := hid fun (w' : World) (h : Below wo.heap.size wo w') => HL.out i g _ w' (HBalo.out.mono h) (Hwo.out.mono h)
        obtain ⟨C, hC⟩ : ∃ C, C = krK K ws i := ⟨_, rfl⟩
        rw [← hC] at hstep hCl
        have hC2 : leftK K.cop.length (withL K ws i) = C := hC.symm
        rw [hC2] at HL2 hkl
        have HCK := hid fun (b : Nat) (w' : World) (h : KnAt w' (some ⟨b, 0, none⟩) C) => checkKnown_c (some ⟨b, 0, none⟩) C.cop.length C w' h (by rw [hCl]; exact Hlk.out)
        unfold TellI at HCK
        have k2 := HBalo.out.c2
        obtain ⟨ke, hke⟩ : ∃ e, e = knErr C := ⟨_, rfl⟩
        rw [← hke] at hstep HCK
        have Hke := hid hke
        have HokC := hid fun (h : ke = 0) => kok_iff.1 (hke.symm.trans h)
        obtain ⟨c, hc⟩ : ∃ c, c = cntOf C := ⟨_, rfl⟩
        rw [← hc] at hstep
        have H78 := hid fun (h : ke = 0) (g : Nat) (b : Nat) (mv : Value) (w' : World) (hb : BalAt w' g (some ⟨b, 0, none⟩) C.cop.length C mv) => count_78 g (some ⟨b, 0, none⟩) C.cop.length C mv w' hb (HokC.out h).n12 (HokC.out h).cop
        rw [← hc] at H78
        have H77 := hid fun (h : ke = 0) (g m : Nat) (w' : World) => needed_c c g m w' (by rw [hc]; exact cntOf_fine (HokC.out h).n12) (by rw [hc, cntOf_cases]; exact cases_pos (HokC.out h))
        unfold CntC at H78
        unfold NumM at H77
        rw [cntV_eq] at H78 H77
        obtain ⟨n, hn⟩ : ∃ n, n = nd 1000 c := ⟨_, rfl⟩
        rw [← hn] at H77 hstep
        have hnle : n ≤ 1000 := by rw [hn]; exact nd_le _ _
        clear hke hc hn
        have HCl := hid hCl; have Hst := hid hstep; have Hkl := hid hkl; have Hki := hid hi; have Hkk := hid (show k < 3 by omega)
        clear hi hN hC hC2 hCl hstep hkl hk hk3
        go_upto_region 8 with (fail)
        go_region_law ((go_simp; go_at_call 66; refine (HL2.out _ (by first | exact Below.refl _ _ | exact below_drawN _ _ 1)).mono ?_; rintro e wx ⟨b, rfl, hKn, hbw, hB1⟩; have hBx := bstep (show Below wo.heap.size wo _ from (by first | exact Below.refl _ _ | exact below_drawN _ _ 1)) hB1; have k2 := cstep k2 hBx; have HBx := hid hBx; have HKn := hid hKn; clear hB1 hBx hKn hbw))
        all_goals (
          obtain ⟨w4, hw4⟩ : ∃ w4, w4 = wx.alloc (.cells #[.slice (some ⟨b, 0, none⟩) C.cop.length C.cop.length, .bool C.none, .map (some m)] 100) := ⟨_, rfl⟩
          have hB4 : Below wx.heap.size wx w4 := by rw [hw4]; exact bnew _ _
          have hg4 : w4.heap[wx.heap.size]? = some (.cells #[.slice (some ⟨b, 0, none⟩) C.cop.length C.cop.length, .bool C.none, .map (some m)] 100 (0, 0)) := by rw [hw4]; exact heap_alloc_new _ _
          obtain ⟨qb, hqb⟩ : ∃ q, q = wx.heap.size := ⟨_, rfl⟩
          rw [← hqb] at hg4
          have hbal4 : BalAt w4 qb (some ⟨b, 0, none⟩) C.cop.length C (.map (some m)) := ⟨by rw [cell_of_row _ _ _ _ _ _ hg4]; rfl, by rw [cell_of_row _ _ _ _ _ _ hg4]; rfl, by rw [cell_of_row _ _ _ _ _ _ hg4]; rfl, HKn.out.mono hB4⟩
          have Hw4 := hid hw4; have HB4 := hid (bstep HBx.out hB4); have HBal4 := hid hbal4
          have q0 := hbal4.c0; have q1 := hbal4.c1
          clear hw4 hB4 hg4 hbal4 k2
          go_upto_region 9 with (fail)
          rw [← Hw4.out, ← hqb]
          clear hqb
          go_wp2_with fail
          refine (HCK.out b w4 HBal4.out.k).mono ?_
          rintro e w5 ⟨rfl, hB⟩
          have HBal5 := hid (HBal4.out.mono hB); have HB5 := hid (bstep HB4.out hB)
          have HM5 := hid (HMo.out.mono HB5.out); have HO5 := hid (HOo.out.trans (Only.of_below HB5.out))
          clear hB q0 q1
          by_cases hk0 : ke = 0
          · have b4 : (ke == (0 : Int)) = true := by simp [hk0]
            have H78 := H78.out hk0; have H77 := H77.out hk0
            have hst := Hst.out
            rw [if_pos hk0] at hst
            have Hst := hid hst; have H78 := hid H78; have H77 := hid H77
            clear hk0 hst
            go_wp2_with fail
            refine (H78.out qb b _ w5 HBal5.out).mono ?_
            rintro e w6 ⟨rfl, hB⟩
            have HM6 := hid (HM5.out.mono hB); have HO6 := hid (HO5.out.trans (Only.of_below hB)); have Hq6 := hid (cstep HBal5.out.c2 hB)
            clear hB
            go_wp2_with fail
            refine (H77.out qb m w6 Hq6.out HM6.out).mono ?_
            rintro e w7 ⟨rfl, hM7, hO7⟩
            have HM7 := hid hM7; have HO7 := hid (HO6.out.trans hO7)
            have Hmx := hid (show (if N < n then (n : Int) else (N : Int)) = ((afN K ws (k + 1) : Nat) : Int) by rw [Hst.out]; split <;> omega)
            have ei : IntKind.i64.wrap (i + 1) = i + 1 := wrap_i64_of (by have := Hki.out; omega) (by have := Hki.out; omega)
            clear hM7 hO7
            go_wp2
            exact ⟨⟨k + 1, Hkk.out, by rw [Hki.out]; congr 1; omega, by rw [Hmx.out], HM7.out, HO7.out⟩, by simp [intOf]; have := Hki.out; have := Hkk.out; omega⟩
          · have b4 : (ke == (0 : Int)) = false := by simp [hk0]
            have hst := Hst.out
            rw [if_neg hk0] at hst
            have Hst := hid hst
            clear hk0 hst
            have ei : IntKind.i64.wrap (i + 1) = i + 1 := wrap_i64_of (by have := Hki.out; omega) (by have := Hki.out; omega)
            go_wp2
            go_roundw
            case rel => exact ⟨k + 1, Hkk.out, by rw [Hki.out]; congr 1; omega, by rw [Hst.out]; simp, HM5.out, HO5.out⟩
            case measure => simp [intOf]; have := Hki.out; omega)
  · rw [if_neg h0] at hO hF
    have HO := hid hO; have HF := hid hF
    have H0 := hid h0
    have b1 : (E != 0) = true := by simpa using h0
    clear hO hF
    go_enter Try.func40, Try.ntmps40
    go_upto_region 1 with (fail)
    rw [← HV.out]
    go_wp2_with fail
    rw [← HX.out]
    refine H1.out.mono ?_
    rintro e w1 h
    obtain ⟨rfl, hB⟩ := h.err H0.out
    have HB1 := hid (bstep HBX.out hB)
    clear h hB
    go_wp2
    go_ret2
    exact ⟨by rw [HO.out, HF.out]; rfl, bstep HB0.out HB1.out⟩
end

end Go.Proofs.Ytelgbjfgmpkepaa

namespace Go.Proofs.Ytelgbjfgmpkepaa
open Go.RowKit Go.Shelf

theorem after_full (g m : Nat) (c : Cnt) (p : Pn) (x : Int) (w : World) (hc : c.fine) (hc1 : 1 < c.cases) (hf : Fits c p) (hg : w.cell? ⟨g, 2, none⟩ = some (.map (some m))) (hM : MemoAt w m) :
    Calls Try.prog 88 #[.pointer (some ⟨g, 0, none⟩), cntV c, pnV p x] w (NumM m w (aft 1000 c p)) := after_c g m c p x w hc hc1 hf (need_all c.cases) hg hM
section
variable (g m b2 b3 : Nat) (c : Cnt) (p q : Pn) (x y : Int) (w : World)
attribute [local go_sem] Oper.semAt_some in
set_option maxRecDepth 100000 in
set_option maxHeartbeats 4000000 in
theorem less_94 (hc : c.fine) (hc1 : 1 < c.cases) (hp : Fits c p) (hq : Fits c q) (h2 : w.cell? ⟨b2, 0, none⟩ = some (.pointer (some ⟨g, 0, none⟩))) (h3 : I5 w b3 95 c.g c.l c.h c.b c.z) (hg : w.cell? ⟨g, 2, none⟩ = some (.map (some m))) (hM : MemoAt w m) :
    Calls Try.prog 94 #[pnV p x, pnV q y, .pointer (some ⟨b2, 0, none⟩), .pointer (some ⟨b3, 0, none⟩)] w (fun e w' => e = .returned (.bool (decide (aft 1000 c p < aft 1000 c q))) ∧ MemoAt w' m ∧ Only (fun j => j = m) w w') := by
  obtain ⟨X, hX, hBX, hx⟩ : ∃ X, X = w.alloc (.cells #[.int .i64 0, .int .i64 (p.a1 : Int), .int .i64 (p.a2 : Int), .int .i64 (p.a3 : Int), .int .i64 x, .int .i64 (p.b1 : Int), .int .i64 (p.b2 : Int), .int .i64 (p.b3 : Int)] 103) ∧ Below w.heap.size w X ∧ P8 X w.heap.size p x := ⟨_, rfl, bnew _ _, p8_new _ _ _⟩
  obtain ⟨W, hW, hBW, hy⟩ : ∃ W, W = X.alloc (.cells #[.int .i64 0, .int .i64 (q.a1 : Int), .int .i64 (q.a2 : Int), .int .i64 (q.a3 : Int), .int .i64 y, .int .i64 (q.b1 : Int), .int .i64 (q.b2 : Int), .int .i64 (q.b3 : Int)] 103) ∧ Below X.heap.size X W ∧ P8 W X.heap.size q y := ⟨_, rfl, bnew _ _, p8_new _ _ _⟩
  have zX : X.heap.size = w.heap.size + 1 := by rw [hX]; simp
  rw [zX] at hy
  have hx := hx.mono hBW
  have hB := bstep hBX hBW
  have h2W := cstep h2 hB; have h3W := h3.mono hB; have hgW := cstep hg hB; have hMW := hM.mono hB
  have hml := hM.lt
  have n2 := hM.ne h2; have n3 := hM.ne h3.c0; have ng := hM.ne hg
  obtain ⟨q1, hq1⟩ : ∃ j, j = w.heap.size + 1 := ⟨_, rfl⟩
  rw [← hq1] at hy
  have hA := hid fun (J : World → Prop) (s : LaterR (RhoM m) W J) => (after_full g m c p x s.w' hc hc1 hp (s.h.1.cell hgW (fun e => ng e)) (s.h.2 hMW)).mono fun e w2 h => h.rho
  have hA2 := hid fun (J : World → Prop) (s : LaterR (RhoM m) W J) => (after_full g m c q y s.w' hc hc1 hq (s.h.1.cell hgW (fun e => ng e)) (s.h.2 hMW)).mono fun e w2 h => h.rho
  obtain ⟨a, ha⟩ : ∃ n, n = aft 1000 c p := ⟨_, rfl⟩
  obtain ⟨b, hb⟩ : ∃ n, n = aft 1000 c q := ⟨_, rfl⟩
  rw [← ha] at hA
  rw [← hb] at hA2
  rw [← ha, ← hb]
  unfold pnV at hA hA2 ⊢
  rw [cntV_eq] at hA hA2
  have j2 := fun (J : World → Prop) (s : LaterR (RhoM m) W J) => s.h.1.cell h2W (fun e => n2 e)
  have c0 := fun (J : World → Prop) (s : LaterR (RhoM m) W J) => s.h.1.cell h3W.c0 (fun e => n3 e)
  have c1 := fun (J : World → Prop) (s : LaterR (RhoM m) W J) => s.h.1.cell h3W.c1 (fun e => n3 e)
  have c2 := fun (J : World → Prop) (s : LaterR (RhoM m) W J) => s.h.1.cell h3W.c2 (fun e => n3 e)
  have c3 := fun (J : World → Prop) (s : LaterR (RhoM m) W J) => s.h.1.cell h3W.c3 (fun e => n3 e)
  have c4 := fun (J : World → Prop) (s : LaterR (RhoM m) W J) => s.h.1.cell h3W.c4 (fun e => n3 e)
  have x0 := fun (J : World → Prop) (s : LaterR (RhoM m) W J) => s.h.1.cell hx.c0 (show ¬ w.heap.size = m by omega)
  have x1 := fun (J : World → Prop) (s : LaterR (RhoM m) W J) => s.h.1.cell hx.c1 (show ¬ w.heap.size = m by omega)
  have x2 := fun (J : World → Prop) (s : LaterR (RhoM m) W J) => s.h.1.cell hx.c2 (show ¬ w.heap.size = m by omega)
  have x3 := fun (J : World → Prop) (s : LaterR (RhoM m) W J) => s.h.1.cell hx.c3 (show ¬ w.heap.size = m by omega)
  have x4 := fun (J : World → Prop) (s : LaterR (RhoM m) W J) => s.h.1.cell hx.c4 (show ¬ w.heap.size = m by omega)
  have x5 := fun (J : World → Prop) (s : LaterR (RhoM m) W J) => s.h.1.cell hx.c5 (show ¬ w.heap.size = m by omega)
  have x6 := fun (J : World → Prop) (s : LaterR (RhoM m) W J) => s.h.1.cell hx.c6 (show ¬ w.heap.size = m by omega)
  have x7 := fun (J : World → Prop) (s : LaterR (RhoM m) W J) => s.h.1.cell hx.c7 (show ¬ w.heap.size = m by omega)
  have y0 := fun (J : World → Prop) (s : LaterR (RhoM m) W J) => s.h.1.cell hy.c0 (show ¬ q1 = m by omega)
  have y1 := fun (J : World → Prop) (s : LaterR (RhoM m) W J) => s.h.1.cell hy.c1 (show ¬ q1 = m by omega)
  have y2 := fun (J : World → Prop) (s : LaterR (RhoM m) W J) => s.h.1.cell hy.c2 (show ¬ q1 = m by omega)
  have y3 := fun (J : World → Prop) (s : LaterR (RhoM m) W J) => s.h.1.cell hy.c3 (show ¬ q1 = m by omega)
  have y4 := fun (J : World → Prop) (s : LaterR (RhoM m) W J) => s.h.1.cell hy.c4 (show ¬ q1 = m by omega)
  have y5 := fun (J : World → Prop) (s : LaterR (RhoM m) W J) => s.h.1.cell hy.c5 (show ¬ q1 = m by omega)
  have y6 := fun (J : World → Prop) (s : LaterR (RhoM m) W J) => s.h.1.cell hy.c6 (show ¬ q1 = m by omega)
  have y7 := fun (J : World → Prop) (s : LaterR (RhoM m) W J) => s.h.1.cell hy.c7 (show ¬ q1 = m by omega)
  have HX := hid hX; have HW := hid hW; have HB := hid hB; have HMW := hid hMW
  haveI : Nonempty (LaterR (RhoM m) W fun _ => True) := ⟨⟨W, (preM m).refl _, trivial⟩⟩
  clear hX hBX hx hW hBW hy zX hB h2W h3W hgW hMW h2 h3 hg hM hc hc1 hp hq ha hb
  go_enter Try.func94, Try.ntmps94
  go_upto_region 1 with (fail)
  rw [← HX.out, ← HW.out, ← hq1]
  clear hq1
  go_wp2
  refine wp_region_mixR (preM m) (n := 9) (nz := []) (dp := fun _ => []) (bs := [false, false, false, false, false, false, false, false, false, true]) (Φ := fun _ _ _ _ _ => True) (by kernel_rfl) (by kernel_rfl) (by simp) ?_
  simp only [blindL, blindO, if_true, Bool.false_eq_true, if_false]
  repeat (gi_big_quiet_step ((first | (refine ⟨rfl, ?_⟩; gi_at_call 88; with_reducible exact callsJR (preM m) (abidesTR _) (hA.out _ _)) | (refine ⟨rfl, ?_⟩; gi_at_call 88; with_reducible exact callsJR (preM m) (abidesTR _) (hA2.out _ _)))))
  refine wpQuietIn_nil ?_
  refine ⟨?_, ?_⟩
  · intro J hJ hne
    repeat (gi_big_quiet_step ((first | (refine ⟨rfl, ?_⟩; gi_at_call 88; with_reducible exact callsJR (preM m) hJ (hA.out _ _)) | (refine ⟨rfl, ?_⟩; gi_at_call 88; with_reducible exact callsJR (preM m) hJ (hA2.out _ _)))))
    exact wpQuietIn_nil rfl
  · refine mixAsk0R ?_
    intro s hs
    have HM := hid (hs.2 HMW.out); have HO := hid ((Only.of_below HB.out).trans hs.1)
    clear hs j2 hA hA2 c0 c1 c2 c3 c4 x0 x1 x2 x3 x4 x5 x6 x7 y0 y1 y2 y3 y4 y5 y6 y7
    simp only [List.drop_succ_cons, List.drop_zero]
    gi_wp2
    go_wp2
    go_ret
    exact ⟨rfl, HM.out, HO.out⟩
end

end Go.Proofs.Ytelgbjfgmpkepaa
