/- The law SlugMore. -/
import Derived.Test.YtelgbjfgmpkepaaXQi
import Derived.Test.YtelgbjfgmpkepaaXKh
import Derived.Test.YtelgbjfgmpkepaaKS
namespace Go.Proofs.Ytelgbjfgmpkepaa
open Go.RowKit Go.Shelf

set_option maxRecDepth 100000 in
theorem app00_22 (ty : TypeId) (w : World) (a : Addr) (ax : Option Addr) (cx : Nat) : (Builtin.append_ #[22, 22] ty #[.slice (some a) 0 0, .slice ax 0 cx]).run Try.prog w = .ok (.slice (some a) 0 0) w := by
  cases ax <;> simp [Builtin.append_, go_sem]
/-- a list that is copied behind an empty one, as a step -/
theorem step_app0 {t e : TypeId} {z : Value} {sz nb : Nat} {ops : Array Oper} {o : Oper} {a : Act} {Q : Exit → Act → World → Prop} {K : Act → World → Prop} {X : Prop} (E : ET t e z sz nb) (h00 : ∀ (ty : TypeId) (w : World) (a : Addr) (ax : Option Addr) (cx : Nat), (Builtin.append_ #[t, t] ty #[.slice (some a) 0 0, .slice ax 0 cx]).run Try.prog w = .ok (.slice (some a) 0 0) w)
    (w : World) (hgd : o.guard = none) (s x : Operand) (hop : o.op = Op.call { callee := Callee.builtin Builtin.append, args := #[s, x], argTypes := #[t, t] })
    (g B : Nat) (hs : a.eval s = .slice (some ⟨g, 0, none⟩) 0 0) (hg : w.heap[g]? = some (.cells #[] e (0, 0))) (hBg : B ≤ g) (ax : Option Addr) (m cx : Nat) (ys : List Value) (hx : a.eval x = .slice ax m cx) (hy : CellsAt w ax ys) (hl : ys.length = m * sz) (hnil : ax = none → m = 0) (hb : m ≤ 1000000)
    (hK : ∀ ao' cap' w', Below w.heap.size w w' → OwnV e sz B w' ao' m cap' ys → K (a.put o.dst (.slice ao' m cap')) w') :
    if Region.wanted o (yielded ops a.tmps) = true then Oper.wp Try.prog o a w K Q else X := by
  have hw : Region.wanted o (yielded ops a.tmps) = true := by simp [Region.wanted, hgd]
  rw [if_pos hw]
  obtain ⟨ao', cap', w', hrun, h1, h2⟩ := run_app0 E h00 o.type w g B hg hBg ax m cx ys hy hl hnil hb
  unfold Oper.wp
  simp [execOp, hop, resolve, invoke, builtin, hs, hx, hrun, Result.andThen, Oper.upon]
  exact hK ao' cap' w' h1 h2
theorem new0 (w : World) (e : TypeId) (c : Obj) : ((w.alloc (.cells #[] e)).alloc c).heap[w.heap.size]? = some (.cells #[] e (0, 0)) :=
  ((bnew (w.alloc (.cells #[] e)) c).block _ (by simp)).trans (heap_alloc_new _ _)
theorem new1 (w : World) (e : TypeId) (c : Obj) : ((w.alloc c).alloc (.cells #[] e)).heap[w.heap.size + 1]? = some (.cells #[] e (0, 0)) := by
  have := heap_alloc_new (w.alloc c) (.cells #[] e)
  simpa using this
theorem lit_zero (w : World) (b : Nat) (hb : b = w.heap.size) : IntsAt (w.alloc (.cells #[.int .i64 0] 3)) (some ⟨b, 0, none⟩) [0] := intsAt_new w [0] b 3 hb
theorem plumbs_take {w : World} {a : Option Addr} {L : List (Int × Int)} (h : PlumbsAt w a L) (k : Nat) : PlumbsAt w a (L.take k) := by
  rcases h with rfl | ⟨b, off, rfl, h⟩
  · exact .inl (by simp)
  · refine .inr ⟨b, off, rfl, fun j hj => ?_⟩
    rw [List.length_take] at hj
    have e : nthP (L.take k) j = nthP L j := by unfold nthP; rw [List.getD, List.getElem?_take, if_pos (by omega)]; rfl
    rw [e]; exact h j (by omega)
theorem new2 (w : World) (e : TypeId) : (w.alloc (.cells #[] e)).heap[w.heap.size]? = some (.cells #[] e (0, 0)) := heap_alloc_new _ _
theorem sliceP_some {w : World} {b off : Nat} {L : List (Int × Int)} (h : PlumbsAt w (some ⟨b, off, none⟩) L) {c k : Nat} (hk : k ≤ L.length) (hc : L.length ≤ c) : ∃ a2 : Addr, (∀ w' : World, (Instr.slice 27 (.slice (some ⟨b, off, none⟩) L.length c) (some (.int .i64 (k : Int))) none none).run Try.prog w' = .ok (.slice (some a2) (L.length - k) (c - k)) w') ∧ PlumbsAt w (some a2) (L.drop k) := by
  obtain ⟨a2, h1, h2⟩ := sliceP_from h hk hc
  cases a2 with
  | some a2 => exact ⟨a2, h1, h2⟩
  | none =>
    have h3 := h1 w
    have h4 : (k : Int) ≤ (L.length : Int) := by omega
    simp [go_sem, h4] at h3
    split at h3 <;> cases h3
section
variable (ka : Option Addr) (kc : Nat) (K : Kn) (which : Nat) (w : World)
set_option maxRecDepth 100000 in
set_option maxHeartbeats 16000000 in
theorem slugMore_c (hworks : WorksC) (hk : KnAt w ka K) (hwh : which < 256) : Calls Try.prog 12 #[.agg #[.slice ka K.cop.length kc, .bool K.none], .int .u8 (which : Int)] w (TellB w true) := by
  have HW := hid hworks
  obtain ⟨V, hV, hB0, k0, k1⟩ := box1 w (.slice ka K.cop.length kc) (.bool K.none) 24
  have hkV := hk.mono hB0
  have HB0 := hid hB0; have HV := hid hV; have HV0 := hid (Below.refl V.heap.size V)
  have K0 := hid k0; have K1 := hid k1
  have HF := hid (fine_any ka kc K V hkV)
  unfold WorksC TellB at *
  by_cases hf : knErr K = 0
  · rw [decide_eq_true hf] at HF
    have hok := kok_iff.1 hf
    have hn12 := hok.n12
    have Hok := hid hok
    have H38 := hid fun (w' : World) (h : Below V.heap.size V w') => needed_38 ka kc K w' (hkV.mono h) (by omega)
    have H38m := hid fun (xa : Option Addr) (xc : Nat) (w' : World) (h : IntsAt w' xa (K.cop ++ [0])) => needed_38 xa xc (moreK K) w' h (by rw [moreK_len]; omega)
    have H46 := hid fun (w' : World) (h : Below V.heap.size V w') => casesOf_c ka kc K w' (hkV.mono h) (by omega) hok.cop
    have hpos := cases_pos hok
    have hlen := casesOf_len K
    have hne := ne_of hok
    obtain ⟨L, hL⟩ : ∃ L, L = casesOf K := ⟨_, rfl⟩
    have HL := hid hL
    rw [← hL] at H46 hpos hlen
    obtain ⟨v1, hv1⟩ : ∃ x, x = neVal K := ⟨_, rfl⟩
    obtain ⟨v2, hv2⟩ : ∃ x, x = neErr K := ⟨_, rfl⟩
    have Hv1 := hid hv1; have Hv2 := hid hv2
    rw [← hv1, ← hv2] at H38
    have Hv2c := hid (show v2 = 0 ∨ v2 = 21 by rw [hv2]; omega)
    obtain ⟨m, hm⟩ : ∃ m, m = L.length := ⟨_, rfl⟩
    obtain ⟨j, hj⟩ : ∃ j, j = which % m := ⟨_, rfl⟩
    have hjl : j < m := by rw [hj]; exact Nat.mod_lt _ (by omega)
    have e1 : IntKind.i64.wrap (which : Int) = (which : Int) := wrap_i64_of (by omega) (by omega)
    have e2 : (which : Int).tmod (m : Int) = (j : Int) := by rw [hj]; exact tmod_nat _ _
    have e2b : (which : Int) % (m : Int) = (j : Int) := by rw [hj]; omega
    have hm0 : ¬ (m : Int) = 0 := by omega
    have hm1 : ((m : Int) == 0) = false := by simpa using (show ¬ m = 0 by omega)
    have Hone := hid (show m = 1 → v1 = 0 from fun h => by rw [hv1]; exact one_none hok (by rw [← hL, ← hm]; exact h))
    have Hless := hid (show m ≠ 1 → v2 = 0 → (lessL L j).Nodup ∧ (∀ c ∈ lessL L j, CaseOk K.cop.length c) ∧ neErr (leftK K.cop.length (lessL L j)) = 0 ∧ neVal (leftK K.cop.length (lessL L j)) ≤ v1 from fun h1 h2 => by
      have h := less_law (i := j) hok (by rw [← hL, ← hm]; exact hjl) (by rw [← hL, ← hm]; exact h1) (hv2.symm.trans h2)
      rw [← hL, ← hv1] at h
      exact h)
    have HlL := hid (show (lessL L j).length = j + (m - (j + 1)) by rw [lessL_len (by omega)]; omega)
    have Hgood := hid (show K.cop.length < 12 → v2 = 0 → neErr (moreK K) = 0 ∧ neVal (moreK K) ≤ v1 from fun h1 h2 => by rw [hv1]; exact more_good hok h1 (hv2.symm.trans h2))
    have Hmle := hid (show m ≤ 25 by omega)
    obtain ⟨n0, hn0⟩ : ∃ n, n = K.cop.length := ⟨_, rfl⟩
    unfold TellIE at H38 H38m
    unfold ListC at H46
    rw [moreK_len] at H38m
    rw [← hn0] at H38 H38m H46 k0 K0 HF HV Hgood Hless
    rw [← hn0]
    rw [← hm] at H46
    obtain ⟨nn, hnn⟩ : ∃ b, b = K.none := ⟨_, rfl⟩
    rw [show (moreK K).none = K.none from rfl] at H38m
    rw [← hnn] at k1 K1 HV H38 H38m H46 HF ⊢
    have Hn0 := hid hn0; have Hnn := hid hnn; have Hjl := hid hjl; have Hm := hid hm; have HkV := hid hkV; have Hn12 := hid (show n0 ≤ 12 by omega)
    have Hn1 := hid (show 1 ≤ n0 by have := hok.n1; omega)
    clear hworks hk hV hB0 hkV hf hok hn12 hL hv1 hv2 hm hj hn0 hnn hwh hlen hpos hjl hne
    go_enter Try.func12, Try.ntmps12
    go_upto_region 1 with (fail)
    rw [← HV.out]
    go_wp2_with fail
    refine (HF.out).mono ?_
    rintro e w1 ⟨rfl, hB⟩
    have HB1 := hid (bstep HV0.out hB)
    have k0 := cstep k0 hB
    have k1 := cstep k1 hB
    clear hB
    go_wp2_with fail
    refine (H46.out _ HB1.out).mono ?_
    rintro e w2 ⟨la, lc, rfl, hP, hcap, hB⟩
    have HB2 := hid (bstep HB1.out hB)
    have k0 := cstep k0 hB
    have k1 := cstep k1 hB
    clear hB
    have HP := hid hP; have Hcap := hid hcap
    clear hP hcap
    go_wp2_with fail
    refine (H38.out _ HB2.out).mono ?_
    rintro e w3 ⟨rfl, hB⟩
    have HB3 := hid (bstep HB2.out hB)
    have k0 := cstep k0 hB
    have k1 := cstep k1 hB
    have HP := hid (HP.out.mono hB)
    clear hB
    rcases Hv2c.out with rfl | rfl
    · by_cases h12 : n0 < 12
      · have c1 : (n0 : Int) < 12 := by omega
        obtain ⟨g1, g2⟩ := Hgood.out h12 rfl
        obtain ⟨u1, hu1⟩ : ∃ x, x = neVal (moreK K) := ⟨_, rfl⟩
        rw [g1, ← hu1] at H38m
        rw [← hu1] at g2
        have Hka := hid (show IntsAt w3 ka K.cop from HkV.out.mono HB3.out)
        have Hkl := hid (show (intv K.cop).length = n0 * 1 by rw [intv_length, Nat.mul_one]; exact Hn0.out.symm)
        have Hknil := hid (show ka = none → n0 = 0 from fun e => by
          obtain ⟨b, off, e2, _⟩ := Hka.out.at (k := 0) (by have := Hn1.out; have := Hn0.out; omega)
          rw [e] at e2; cases e2)
        have hn1 : n0 ≤ 1000000 := by omega
        have hn2 : n0 + 1 ≤ 1000000 := by omega
        have c2 : ¬ v1 < u1 := by omega
        have HK0 := hid k0; have HK1 := hid k1
        clear g1 hu1
        go_upto_region 9 with (fail)
        go_cut [9, 10] from 40 to 52 (fun a b w4 => a = .int .i64 u1 ∧ b = .int .i64 0 ∧ Below w3.heap.size w3 w4)
        case first =>
          go_region_held3 (fun w' => w'.cell? ⟨w.heap.size, 0, none⟩ = some (.slice ka n0 kc) ∧ w'.cell? ⟨w.heap.size, 1, none⟩ = some (.bool nn)) (first | exact ⟨cstep k0 (by with_reducible repeat (first | exact Below.refl _ _ | refine Below.drew ?_ | refine bstep ?_ (bnew _ _) | (refine bstep ?_ (by assumption)) | exact hBx | exact hBy)), cstep k1 (by with_reducible repeat (first | exact Below.refl _ _ | refine Below.drew ?_ | refine bstep ?_ (bnew _ _) | (refine bstep ?_ (by assumption)) | exact hBx | exact hBy))⟩ | go_keep) (first | (refine step_app0 et22 app00_22 _ rfl _ _ rfl _ w3.heap.size rfl (by first | exact heap_alloc_new _ _ | exact new0 _ _ _ | exact new1 _ _ _) (by first | exact Nat.le_refl _ | exact Nat.le_succ _) ka n0 kc (intv K.cop) rfl (cellsAt_ints.2 (Hka.out.mono (by with_reducible repeat (first | exact Below.refl _ _ | refine Below.drew ?_ | refine bstep ?_ (bnew _ _) | (refine bstep ?_ (by assumption)) | exact hBx | exact hBy)))) Hkl.out Hknil.out hn1 ?_; intro ao1 cap1 x1 hB1 hO1; have hBx := bstep (show Below w3.heap.size w3 _ from (by with_reducible repeat (first | exact Below.refl _ _ | refine Below.drew ?_ | refine bstep ?_ (bnew _ _) | (refine bstep ?_ (by assumption)) | exact hBx | exact hBy))) hB1) | (refine step_appV et22 _ rfl _ _ rfl w3.heap.size _ _ _ (intv K.cop) rfl (by with_reducible repeat (first | exact hO1 | refine OwnV.kept ?_ (bnew _ _))) _ 1 1 (intv [0]) rfl (cellsAt_ints.2 (by with_reducible repeat (first | exact lit_zero _ _ rfl | exact lit_zero _ _ (by simp) | refine IntsAt.undrew ?_ | refine IntsAt.mono ?_ (bnew _ _) | exact hlitA | exact hlitB | (refine IntsAt.mono ?_ hB1)))) rfl (by intro u hu; simp [intv] at hu; subst hu; rfl) (fun h => by cases h) hn2 (by first | exact hBx.size | exact (show Below w3.heap.size w3 _ from (by with_reducible repeat (first | exact Below.refl _ _ | refine Below.drew ?_ | refine bstep ?_ (bnew _ _) | (refine bstep ?_ (by assumption)) | exact hBx | exact hBy))).size) ?_; intro ao2 cap2 x2 hB2 hO2 _ _; have hBy := Below.trans (show Below w3.heap.size w3 _ from (by with_reducible repeat (first | exact Below.refl _ _ | refine Below.drew ?_ | refine bstep ?_ (bnew _ _) | (refine bstep ?_ (by assumption)) | exact hBx | exact hBy))) hB2) | (go_simp; go_at_call 38; (with_reducible refine (H38m.out _ _ _ (cellsAt_ints.1 (by rw [intv_append]; exact hO2.at))).mono ?_); rintro e x3 ⟨rfl, hB3⟩; have hBz := bstep hBy hB3))
          all_goals (
            go_wp2
            go_meet
            exact ⟨rfl, rfl, hBz⟩)
        obtain ⟨rfl, rfl, hB⟩ := hcut
        rename World => w4
        have HB4 := hid (bstep HB3.out hB)
        clear k0 k1 c1 hn1 hn2
        have k0 := cstep HK0.out hB; have k1 := cstep HK1.out hB
        have HP' := hid (PlumbsAt.mono HP.out hB)
        clear HP
        have HP := HP'
        clear HP' hB
        by_cases h1 : m = 1
        · have d1 : ((m : Int) == 1) = true := by simp [h1]
          obtain rfl := Hone.out h1
          have d2 : ((0 : Int) == 0) = true := by decide
          clear h1
          go_wp2_with fail
          refine (HW.out _).mono ?_
          rintro e w5 ⟨rfl, hB⟩
          have HB5 := hid (bstep HB4.out hB)
          clear hB
          go_wp2
          go_ret
          exact ⟨rfl, bstep HB0.out HB5.out⟩
        · have d1 : ((m : Int) == 1) = false := by simp; omega
          obtain ⟨l1, l2, l3, l4⟩ := Hless.out h1 (by first | rfl | trivial)
          obtain ⟨x, hx⟩ : ∃ x, x = neVal (leftK n0 (lessL L j)) := ⟨_, rfl⟩
          have H38l := hid fun (xa : Option Addr) (xc : Nat) (w' : World) (h : IntsAt w' xa (leftK n0 (lessL L j)).cop) => needed_38 xa xc (leftK n0 (lessL L j)) w' h (by rw [leftK_len]; have := Hn12.out; omega)
          have H52 := hid fun (xa : Option Addr) (xc : Nat) (w' : World) (h : PlumbsAt w' xa (lessL L j)) => left_c n0 xa xc (lessL L j) w' (by have := Hn12.out; omega) h (by rw [HlL.out]; have := Hmle.out; have := Hjl.out; omega) l1 l2
          unfold TellIE at H38l
          unfold KnC at H52
          rw [l3, ← hx, leftK_len] at H38l
          rw [HlL.out, leftK_len] at H52
          rw [← hx] at l4
          have Hl4 := hid l4
          obtain ⟨lb, lo, rfl, _, _⟩ := HP.out.at (j := j) (by rw [← Hm.out]; exact Hjl.out)
          obtain ⟨a2, hs2, hd2⟩ := sliceP_some (k := j + 1) (c := lc) HP.out (by rw [← Hm.out]; exact Hjl.out) (by rw [← Hm.out]; exact Hcap.out.1.2)
          rw [← Hm.out, show ((j + 1 : Nat) : Int) = (j : Int) + 1 by omega] at hs2
          have hjm : (j : Int) ≤ (lc : Int) := by have := Hcap.out.1.2; have := Hjl.out; omega
          have hs1 : ∀ w' : World, (Instr.slice 27 (.slice (some ⟨lb, lo, none⟩) m lc) none (some (.int .i64 (j : Int))) none).run Try.prog w' = .ok (.slice (some ⟨lb, lo, none⟩) j lc) w' := fun w' => by
            simp [go_sem, hjm]
          have ej : IntKind.i64.wrap ((j : Int) + 1) = (j : Int) + 1 := wrap_i64_of (by omega) (by have := Hjl.out; have := Hmle.out; omega)
          have Ht1 := hid (show PlumbsAt w4 (some ⟨lb, lo, none⟩) (L.take j) from plumbs_take HP.out j)
          have Htl := hid (show (pairv (L.take j)).length = j * 2 by rw [pairv_len, List.length_take, Nat.min_eq_left (by have := Hm.out; have := Hjl.out; omega)])
          have Hd2 := hid hd2
          have Hdl := hid (show (pairv (L.drop (j + 1))).length = (m - (j + 1)) * 2 by rw [pairv_len, List.length_drop, Hm.out])
          have hj1 : j ≤ 1000000 := by have := Hjl.out; have := Hmle.out; omega
          have hj2 : j + (m - (j + 1)) ≤ 1000000 := by have := Hjl.out; have := Hmle.out; omega
          have K0a := hid k0; have K1a := hid k1
          have HAb := hid HB4.out
          clear h1 l1 l2 l3 l4 hx hd2 hjm
          go_upto_region 14 with (fail)
          clear k0 k1
          go_cut [11] from 68 to 77 (fun a w5 => ∃ ao cap, a = .slice ao (j + (m - (j + 1))) cap ∧ PlumbsAt w5 ao (lessL L j) ∧ Below w4.heap.size w4 w5)
          case first =>
            go_region_held3 (fun _ => True) (trivial) (first | (refine step_app0 et27 app00_27 _ rfl _ _ rfl _ w4.heap.size rfl (by first | exact new2 _ _) (by first | exact Nat.le_refl _) (some ⟨lb, lo, none⟩) j lc (pairv (L.take j)) rfl (cells_of_plumbs (PlumbsAt.mono Ht1.out (by with_reducible repeat (first | exact Below.refl _ _ | refine Below.drew ?_ | refine bstep ?_ (bnew _ _))))) Htl.out (fun e => by first | cases e) hj1 ?_; intro ao1 cap1 x1 hB1 hO1; have hBx := bstep (show Below w4.heap.size w4 _ from (by with_reducible repeat (first | exact Below.refl _ _ | refine Below.drew ?_ | refine bstep ?_ (bnew _ _)))) hB1) | (refine step_appV et27 _ rfl _ _ rfl w4.heap.size _ _ _ (pairv (L.take j)) rfl hO1 (some a2) (m - (j + 1)) (lc - (j + 1)) (pairv (L.drop (j + 1))) rfl (cells_of_plumbs (PlumbsAt.mono Hd2.out hBx)) Hdl.out (pairv_one _) (fun h => by first | cases h) hj2 hBx.size ?_; intro ao2 cap2 x2 hB2 hO2 _ _; have hBy := Below.trans hBx hB2))
            all_goals (
              go_wp2
              go_meet
              exact ⟨_, _, rfl, plumbs_of_cells (by unfold lessL; rw [pairv_append]; exact hO2.at), hBy⟩)
          obtain ⟨lx, lcx, rfl, hLx, hB⟩ := hcut
          rename World => w5
          have HB5 := hid (bstep HAb.out hB)
          have k0 := cstep K0a.out hB; have k1 := cstep K1a.out hB
          have HLx := hid hLx
          clear hLx hB hs1 hs2 ej hj1 hj2 d1
          go_wp2_with fail
          refine (H52.out lx lcx _ HLx.out).mono ?_
          rintro e w6 ⟨xb, rfl, hK6, _, hB⟩
          have HB6 := hid (bstep HB5.out hB)
          have HK6 := hid hK6
          clear hK6 hB k0 k1
          go_wp2_with fail
          refine (H38l.out (some ⟨xb, 0, none⟩) n0 _ HK6.out).mono ?_
          rintro e w7 ⟨rfl, hB⟩
          have HB7 := hid (bstep HB6.out hB)
          have c3 := Hl4.out
          clear hB
          go_wp2_with fail
          refine (HW.out _).mono ?_
          rintro e w8 ⟨rfl, hB⟩
          have HB8 := hid (bstep HB7.out hB)
          clear hB
          go_wp2
          go_ret
          exact ⟨rfl, bstep HB0.out HB8.out⟩
      · have c1 : ¬ (n0 : Int) < 12 := by omega
        clear h12
        by_cases h1 : m = 1
        · have d1 : ((m : Int) == 1) = true := by simp [h1]
          obtain rfl := Hone.out h1
          have d2 : ((0 : Int) == 0) = true := by decide
          clear h1
          go_wp2_with fail
          refine (HW.out _).mono ?_
          rintro e w5 ⟨rfl, hB⟩
          have HB5 := hid (bstep HB3.out hB)
          clear hB
          go_wp2
          go_ret
          exact ⟨rfl, bstep HB0.out HB5.out⟩
        · have d1 : ((m : Int) == 1) = false := by simp; omega
          obtain ⟨l1, l2, l3, l4⟩ := Hless.out h1 (by first | rfl | trivial)
          obtain ⟨x, hx⟩ : ∃ x, x = neVal (leftK n0 (lessL L j)) := ⟨_, rfl⟩
          have H38l := hid fun (xa : Option Addr) (xc : Nat) (w' : World) (h : IntsAt w' xa (leftK n0 (lessL L j)).cop) => needed_38 xa xc (leftK n0 (lessL L j)) w' h (by rw [leftK_len]; have := Hn12.out; omega)
          have H52 := hid fun (xa : Option Addr) (xc : Nat) (w' : World) (h : PlumbsAt w' xa (lessL L j)) => left_c n0 xa xc (lessL L j) w' (by have := Hn12.out; omega) h (by rw [HlL.out]; have := Hmle.out; have := Hjl.out; omega) l1 l2
          unfold TellIE at H38l
          unfold KnC at H52
          rw [l3, ← hx, leftK_len] at H38l
          rw [HlL.out, leftK_len] at H52
          rw [← hx] at l4
          have Hl4 := hid l4
          obtain ⟨lb, lo, rfl, _, _⟩ := HP.out.at (j := j) (by rw [← Hm.out]; exact Hjl.out)
          obtain ⟨a2, hs2, hd2⟩ := sliceP_some (k := j + 1) (c := lc) HP.out (by rw [← Hm.out]; exact Hjl.out) (by rw [← Hm.out]; exact Hcap.out.1.2)
          rw [← Hm.out, show ((j + 1 : Nat) : Int) = (j : Int) + 1 by omega] at hs2
          have hjm : (j : Int) ≤ (lc : Int) := by have := Hcap.out.1.2; have := Hjl.out; omega
          have hs1 : ∀ w' : World, (Instr.slice 27 (.slice (some ⟨lb, lo, none⟩) m lc) none (some (.int .i64 (j : Int))) none).run Try.prog w' = .ok (.slice (some ⟨lb, lo, none⟩) j lc) w' := fun w' => by
            simp [go_sem, hjm]
          have ej : IntKind.i64.wrap ((j : Int) + 1) = (j : Int) + 1 := wrap_i64_of (by omega) (by have := Hjl.out; have := Hmle.out; omega)
          have Ht1 := hid (show PlumbsAt w3 (some ⟨lb, lo, none⟩) (L.take j) from plumbs_take HP.out j)
          have Htl := hid (show (pairv (L.take j)).length = j * 2 by rw [pairv_len, List.length_take, Nat.min_eq_left (by have := Hm.out; have := Hjl.out; omega)])
          have Hd2 := hid hd2
          have Hdl := hid (show (pairv (L.drop (j + 1))).length = (m - (j + 1)) * 2 by rw [pairv_len, List.length_drop, Hm.out])
          have hj1 : j ≤ 1000000 := by have := Hjl.out; have := Hmle.out; omega
          have hj2 : j + (m - (j + 1)) ≤ 1000000 := by have := Hjl.out; have := Hmle.out; omega
          have K0a := hid k0; have K1a := hid k1
          have HAb := hid HB3.out
          clear h1 l1 l2 l3 l4 hx hd2 hjm
          go_upto_region 14 with (fail)
          clear k0 k1
          go_cut [11] from 68 to 77 (fun a w5 => ∃ ao cap, a = .slice ao (j + (m - (j + 1))) cap ∧ PlumbsAt w5 ao (lessL L j) ∧ Below w3.heap.size w3 w5)
          case first =>
            go_region_held3 (fun _ => True) (trivial) (first | (refine step_app0 et27 app00_27 _ rfl _ _ rfl _ w3.heap.size rfl (by first | exact new2 _ _) (by first | exact Nat.le_refl _) (some ⟨lb, lo, none⟩) j lc (pairv (L.take j)) rfl (cells_of_plumbs (PlumbsAt.mono Ht1.out (by with_reducible repeat (first | exact Below.refl _ _ | refine Below.drew ?_ | refine bstep ?_ (bnew _ _))))) Htl.out (fun e => by first | cases e) hj1 ?_; intro ao1 cap1 x1 hB1 hO1; have hBx := bstep (show Below w3.heap.size w3 _ from (by with_reducible repeat (first | exact Below.refl _ _ | refine Below.drew ?_ | refine bstep ?_ (bnew _ _)))) hB1) | (refine step_appV et27 _ rfl _ _ rfl w3.heap.size _ _ _ (pairv (L.take j)) rfl hO1 (some a2) (m - (j + 1)) (lc - (j + 1)) (pairv (L.drop (j + 1))) rfl (cells_of_plumbs (PlumbsAt.mono Hd2.out hBx)) Hdl.out (pairv_one _) (fun h => by first | cases h) hj2 hBx.size ?_; intro ao2 cap2 x2 hB2 hO2 _ _; have hBy := Below.trans hBx hB2))
            all_goals (
              go_wp2
              go_meet
              exact ⟨_, _, rfl, plumbs_of_cells (by unfold lessL; rw [pairv_append]; exact hO2.at), hBy⟩)
          obtain ⟨lx, lcx, rfl, hLx, hB⟩ := hcut
          rename World => w5
          have HB5 := hid (bstep HAb.out hB)
          have k0 := cstep K0a.out hB; have k1 := cstep K1a.out hB
          have HLx := hid hLx
          clear hLx hB hs1 hs2 ej hj1 hj2 d1
          go_wp2_with fail
          refine (H52.out lx lcx _ HLx.out).mono ?_
          rintro e w6 ⟨xb, rfl, hK6, _, hB⟩
          have HB6 := hid (bstep HB5.out hB)
          have HK6 := hid hK6
          clear hK6 hB k0 k1
          go_wp2_with fail
          refine (H38l.out (some ⟨xb, 0, none⟩) n0 _ HK6.out).mono ?_
          rintro e w7 ⟨rfl, hB⟩
          have HB7 := hid (bstep HB6.out hB)
          have c3 := Hl4.out
          clear hB
          go_wp2_with fail
          refine (HW.out _).mono ?_
          rintro e w8 ⟨rfl, hB⟩
          have HB8 := hid (bstep HB7.out hB)
          clear hB
          go_wp2
          go_ret
          exact ⟨rfl, bstep HB0.out HB8.out⟩
    · go_wp2_with fail
      refine (HW.out _).mono ?_
      rintro e w4 ⟨rfl, hB⟩
      have HB4 := hid (bstep HB3.out hB)
      clear hB
      go_wp2
      go_ret
      exact ⟨rfl, bstep HB0.out HB4.out⟩
  · rw [decide_eq_false hf] at HF
    clear hworks hk hV hB0 hkV hf hwh
    go_enter Try.func12, Try.ntmps12
    go_upto_region 1 with (fail)
    rw [← HV.out]
    go_wp2_with fail
    refine (HF.out).mono ?_
    rintro e w1 ⟨rfl, hB⟩
    have HB1 := hid (bstep HV0.out hB)
    clear hB
    go_wp2_with fail
    refine (HW.out _).mono ?_
    rintro e w2 ⟨rfl, hB⟩
    have HB2 := hid (bstep HB1.out hB)
    clear hB
    go_wp2
    go_ret
    exact ⟨rfl, bstep HB0.out HB2.out⟩
end

end Go.Proofs.Ytelgbjfgmpkepaa
