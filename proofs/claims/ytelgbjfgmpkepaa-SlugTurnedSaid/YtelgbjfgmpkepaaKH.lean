/- Walks: the closure of Told, slices.IndexFunc of cases. Walks: slices.DeleteFunc and slices.Clone of cases. Walks: slices.Clone of cases, Told of the program. Walks: Told of the reference. Walks: BoundOf, Bound, Cases of the program and of the reference. Walks: Cases of the program and of the reference. -/
import Derived.Test.YtelgbjfgmpkepaaKG
namespace Go.Proofs.Ytelgbjfgmpkepaa
open Go.RowKit Go.Shelf

section
variable (rp pp : Nat) (ra : Option Addr) (rc : Nat) (rs : List Int) (pa : Option Addr) (pc : Nat) (ps : List (List Int)) (c : Int × Int) (n : Nat) (w : World)
set_option maxRecDepth 100000 in
set_option maxHeartbeats 2000000 in
theorem told1_c (h1 : w.cell? ⟨rp, 0, none⟩ = some (.slice ra rs.length rc)) (h2 : w.cell? ⟨pp, 0, none⟩ = some (.slice pa ps.length pc)) (hr : IntsAt w ra rs) (hrl : rs.length ≤ 1000000) (hp : RowsAt w pa ps) (hl : ps.length ≤ 1000) (hw : ∀ p ∈ ps, WOk n p) (hc : CaseOk n c) :
    Calls Try.prog 73 #[.agg #[.int .i64 c.1, .int .i64 c.2], .pointer (some ⟨rp, 0, none⟩), .pointer (some ⟨pp, 0, none⟩)] w (TellB w (!decide (rs = codeOf ps c))) := by
  obtain ⟨V, hV, hB0, k0, k1⟩ := box34 w c
  have j1 := cstep h1 hB0; have j2 := cstep h2 hB0
  have H1 := hid fun (w' : World) (h : Below V.heap.size V w') => code_c pa pc ps c n w' ((hp.mono hB0).mono h) hl hw hc
  have H2 := hid fun (ya : Option Addr) (yc : Nat) (ys : List Int) (w' : World) (h : Below V.heap.size V w') (hy : IntsAt w' ya ys) => equal_c ra rc rs ya yc ys w' ((hr.mono hB0).mono h) hy hrl
  have HB0 := hid hB0; have HV := hid hV
  unfold IntsC at H1
  unfold TellB at H2 ⊢
  obtain ⟨Z, hZ⟩ : ∃ Z, Z = codeOf ps c := ⟨_, rfl⟩
  rw [← hZ] at H1 ⊢
  have H3 := hid fun (ya : Option Addr) (yc : Nat) (w' : World) (h : Below V.heap.size V w') (hy : IntsAt w' ya Z) => H2.out ya yc Z w' h hy
  obtain ⟨D, hD⟩ : ∃ Z2, Z2 = decide (rs = Z) := ⟨_, rfl⟩
  rw [← hD] at H3 ⊢
  obtain ⟨x, y⟩ := c
  simp only at k0 k1 HV
  clear hZ hD hr hp hl hw hc hB0 hV h1 h2 H2
  go_enter Try.func73, Try.ntmps73
  go_upto_region 1 with (fail)
  rw [← HV.out]
  go_region_law (first | (go_simp; go_at_call 75; with_reducible refine (H1.out _ (by first | exact Below.drewSelf _ | exact Below.refl _ _)).mono ?_; rintro e wx ⟨ao, cap, rfl, hA, _, hB1⟩; have hBx := bstep (Below.drewSelf V) hB1; have j1 := cstep j1 hBx; have HBx := hid hBx; have HA := hid hA; clear hB1 hBx hA) | (go_simp; go_at_call 74; with_reducible refine (H3.out _ _ _ HBx.out HA.out).mono ?_; rintro e wy ⟨rfl, hB2⟩; have HBy := hid (bstep HBx.out hB2); clear hB2))
  all_goals (
    go_wp2
    go_ret
    exact ⟨rfl, bstep HB0.out HBy.out⟩)
end
/-- the first place of a list at which p holds -/
def FirstAt (p : Int × Int → Bool) (L : List (Int × Int)) (i : Int) : Prop := (i = -1 ∧ ∀ k, k < L.length → p (nthP L k) = false) ∨ ∃ k : Nat, i = (k : Int) ∧ k < L.length ∧ p (nthP L k) = true ∧ ∀ j, j < k → p (nthP L j) = false
section
variable (la : Option Addr) (lc : Nat) (L : List (Int × Int)) (g : Nat) (caps : Array Value) (p : Int × Int → Bool) (w : World)
set_option maxRecDepth 100000 in
set_option maxHeartbeats 1000000 in
theorem indexFuncP_c (hL : PlumbsAt w la L) (hl : L.length ≤ 1000000)
    (hg : ∀ k, k < L.length → ∀ w', Below w.heap.size w w' → Calls Try.prog g (#[.agg #[.int .i64 (nthP L k).1, .int .i64 (nthP L k).2]] ++ caps) w' (TellB w' (p (nthP L k))))
    (eg : ∀ args w, (callFunc g args).run Try.prog w = .ok (.enter g args) w) :
    Calls Try.prog 86 #[.slice la L.length lc, .func (.func g) #[] caps] w (fun e w' => ∃ i : Int, e = .returned (.int .i64 i) ∧ FirstAt p L i ∧ Below w.heap.size w w') := by
  have HL := hid hL; have Hl := hid hl; have Hg := hid hg
  unfold TellB at Hg
  clear hL hl hg
  go_enter Try.func86, Try.ntmps86
  go_wp2
  go_loopw [5, 8] (fun _ i wr => ∃ k : Nat, k ≤ L.length ∧ i = .int .i64 k ∧ (∀ j, j < k → p (nthP L j) = false) ∧ Below w.heap.size w wr) (fun _ i _ => L.length - (intOf i).toNat)
  case atStart => exact ⟨0, Nat.zero_le _, rfl, fun j hj => absurd hj (by omega), Below.refl _ _⟩
  case round =>
    obtain ⟨k, hk, rfl, hw, hB⟩ := hrel
    obtain ⟨wo, rfl⟩ : ∃ wo : World, wo = wr := ⟨_, rfl⟩
    have HB := hid hB; have Hw := hid hw
    have hLo := HL.out.mono hB
    clear hw hB
    by_cases hlt : k < L.length
    · have hI : (k : Int) < (L.length : Int) := by omega
      obtain ⟨b, off, rfl, hx, hy⟩ := hLo.at hlt
      have e1 : IntKind.i64.wrap ((k : Int) + 1) = (k : Int) + 1 := wrap_i64_of (by omega) (by have := Hl.out; omega)
      have H1 := hid (Hg.out k hlt wo HB.out)
      obtain ⟨R, hR⟩ : ∃ R, R = p (nthP L k) := ⟨_, rfl⟩
      rw [← hR] at H1
      have HR := hid hR
      obtain ⟨c, hc⟩ : ∃ c, c = nthP L k := ⟨_, rfl⟩
      rw [← hc] at hx hy H1
      obtain ⟨x, y⟩ := c
      simp only at hx hy H1
      clear hR hc hLo
      go_wp2_with fail
      refine H1.out.mono ?_
      rintro e w1 ⟨rfl, hB⟩
      have HB1 := hid (bstep HB.out hB)
      clear hB H1
      cases R with
      | true =>
        go_wp2
        go_ret
        exact ⟨k, rfl, .inr ⟨k, rfl, hlt, HR.out.symm, Hw.out⟩, HB1.out⟩
      | false =>
        go_wp2
        go_roundw
        case rel =>
          refine ⟨k + 1, hlt, by go_num, fun j hj => ?_, HB1.out⟩
          by_cases ej : j = k
          · subst ej; exact HR.out.symm
          · exact Hw.out j (by omega)
        case measure => simp [intOf]; omega
    · have hI : ¬ (k : Int) < (L.length : Int) := by omega
      go_wp2
      go_ret
      exact ⟨-1, rfl, .inl ⟨rfl, fun j hj => Hw.out j (by omega)⟩, HB.out⟩
end

end Go.Proofs.Ytelgbjfgmpkepaa

namespace Go.Proofs.Ytelgbjfgmpkepaa
open Go.RowKit Go.Shelf

/-- a block of cases, known whole -/
def BV (w : World) (b : Nat) (cs : List Value) : Prop := w.heap[b]? = some (.cells cs.toArray 34 (0, 0))
theorem BV.lt {w : World} {b : Nat} {cs : List Value} (h : BV w b cs) : b < w.heap.size := (Array.getElem?_eq_some_iff.1 h).1
theorem BV.mono {w w' : World} {b : Nat} {cs : List Value} (h : BV w b cs) (hB : Below w.heap.size w w') : BV w' b cs := (hB.block b h.lt).trans h
theorem BV.cell {w : World} {b : Nat} {cs : List Value} (h : BV w b cs) {k : Nat} {v : Value} (hk : cs[k]? = some v) : w.cell? ⟨b, k, none⟩ = some v := by
  rw [cell_of_row _ _ _ _ _ _ h]; simpa using hk
theorem BV.frozen {w : World} {b : Nat} {cs : List Value} (h : BV w b cs) (k : Nat) : w.frozen? ⟨b, k, none⟩ = false := frozen_of_row w _ k _ _ h
theorem BV.set {w : World} {b : Nat} {cs : List Value} (h : BV w b cs) (k : Nat) (v : Value) : BV (w.setCell ⟨b, k, none⟩ v) b (cs.set k v) := by
  have := heap_setCell_same w b k _ 34 v h
  refine this.trans ?_
  congr 2
  simp
/-- the case that lies at a place -/
def PV (cs : List Value) (k : Nat) (c : Int × Int) : Prop := cs[k * 2]? = some (.int .i64 c.1) ∧ cs[k * 2 + 1]? = some (.int .i64 c.2)
theorem PV.set_other {cs : List Value} {k m : Nat} {c d : Int × Int} (h : PV cs k c) (hne : k ≠ m) : PV ((cs.set (m * 2) (.int .i64 d.1)).set (m * 2 + 1) (.int .i64 d.2)) k c := by
  constructor
  · rw [List.getElem?_set, if_neg (by omega), List.getElem?_set, if_neg (by omega)]; exact h.1
  · rw [List.getElem?_set, if_neg (by omega), List.getElem?_set, if_neg (by omega)]; exact h.2
theorem PV.set_same {cs : List Value} {m : Nat} (d : Int × Int) (h : m * 2 + 1 < cs.length) : PV ((cs.set (m * 2) (.int .i64 d.1)).set (m * 2 + 1) (.int .i64 d.2)) m d := by
  constructor
  · rw [List.getElem?_set, if_neg (by omega), List.getElem?_set, if_pos rfl, if_pos (by omega)]
  · rw [List.getElem?_set, if_pos rfl, if_pos (by rw [List.length_set]; omega)]
theorem OwnP.bv {B : Nat} {w : World} {ao : Option Addr} {n cap : Nat} {L : List (Int × Int)} (h : OwnP B w ao n cap L) (hn : 0 < n) :
    ∃ b cs, ao = some ⟨b, 0, none⟩ ∧ B ≤ b ∧ BV w b cs ∧ n ≤ cap ∧ cs.length = cap * 2 ∧ ∀ k, k < n → PV cs k (nthP L k) := by
  obtain ⟨hl, _, (⟨_, h0⟩ | ⟨g, c, cur, e, hge, hh, hle, _, hsz, ht⟩)⟩ := h
  · omega
  · cases e
    refine ⟨g, cur.toList, rfl, hge, by unfold BV; rw [Array.toArray_toList]; exact hh, hle, by simpa using hsz, fun k hk => ?_⟩
    obtain ⟨h1, h2⟩ := pairv_get L k (by omega)
    rw [← ht] at h1 h2
    rw [List.getElem?_take] at h1 h2
    exact ⟨(by split at h1 <;> first | exact h1 | cases h1), (by split at h2 <;> first | exact h2 | cases h2)⟩
/-- clear over a part of a block that is known whole -/
theorem wpList_clear_pairs {ops : Array Oper} {rest : List Oper} {o : Oper} {a : Act} {Q : Exit → Act → World → Prop} (w : World) (hgd : o.guard = none) (x : Operand)
    (hop : o.op = Op.call { callee := Callee.builtin Builtin.clear, args := #[x], argTypes := #[27] })
    (g off n c : Nat) (hx : a.eval x = .slice (some ⟨g, off, none⟩) n c) (cs : List Value) (hg : BV w g cs) (hn : off + n * 2 ≤ cs.length) (hp0 : 0 < n)
    (h : ∀ w' cs', BV w' g cs' → cs'.take off = cs.take off → Only (fun b => b = g) w w' → wpList Try.prog ops Q rest (a.put o.dst (.tuple #[])) w') :
    wpList Try.prog ops Q (o :: rest) a w := by
  refine wpList_plain hgd fun K hK => ?_
  obtain ⟨i, hi, hz, _, _⟩ := info_parts et27.hi
  unfold Oper.wp
  obtain ⟨m, rfl⟩ : ∃ m, n = m + 1 := ⟨n - 1, by omega⟩
  obtain ⟨Z, hZ⟩ : ∃ Z, Z = (Builtin.zeroCells #[Value.int .i64 0, .int .i64 0] (m + 1)).toList := ⟨_, rfl⟩
  have hZl : Z.length = (m + 1) * 2 := by rw [hZ]; simp [Builtin.zeroCells]
  have hZ1 : ∀ v ∈ Z, v.oneCell' = true := by
    intro v hv
    rw [hZ] at hv
    simp only [Builtin.zeroCells, Array.toList_map, List.mem_map] at hv
    obtain ⟨j, _, rfl⟩ := hv
    have hs : (#[Value.int .i64 0, Value.int .i64 0] : Array Value).size = 2 := rfl
    rw [hs]
    rcases (show j % 2 = 0 ∨ j % 2 = 1 by omega) with e | e <;> rw [e] <;> rfl
  have hst := run_storeCells_at (P := Try.prog) g off 34 Z 0 cs.toArray w hg (by simp; omega) hZ1
  simp only [Nat.add_zero] at hst
  have hzc : (Builtin.zeroCells (Value.agg #[.int .i64 0, .int .i64 0]).cells (m + 1)).toList = Z := by rw [hZ]; rfl
  simp [execOp, hop, resolve, invoke, builtin, hx, Builtin.clear_, run_underlying et27.hu, zeroValue, typeInfo, hi, hz, hzc, hst, Result.andThen]
  refine hK _ _ (h _ (cs.take off ++ (Z ++ cs.drop (off + Z.length))) ?_ ?_ (setRow_only _ _))
  · exact setRow_heap hg
  · rw [List.take_append_of_le_length (by rw [List.length_take]; omega), List.take_take, Nat.min_self]
theorem filter_take_first {p : Int × Int → Bool} {L : List (Int × Int)} {k : Nat} (hk : k < L.length) (h : ∀ j, j < k → p (nthP L j) = false) (he : p (nthP L k) = true) : (L.take (k + 1)).filter (fun c => !p c) = L.take k := by
  rw [take_succ_nthP hk, List.filter_append]
  have h1 : (L.take k).filter (fun c => !p c) = L.take k := by
    rw [List.filter_eq_self]
    intro c hc
    obtain ⟨j, hj, rfl⟩ := List.getElem_of_mem hc
    rw [List.length_take] at hj
    have := h j (by omega)
    rw [nthP_eq (by omega)] at this
    rw [List.getElem_take, this]; rfl
  rw [h1]
  simp [he]
section
variable (b cap : Nat) (cs : List Value) (L : List (Int × Int)) (g : Nat) (caps : Array Value) (p : Int × Int → Bool) (w : World)
set_option maxRecDepth 100000 in
set_option maxHeartbeats 2000000 in
theorem deleteFunc_c (hb : BV w b cs) (hcap : L.length ≤ cap) (hcs : cs.length = cap * 2) (hpv : ∀ k, k < L.length → PV cs k (nthP L k)) (hl : L.length ≤ 1000000)
    (hg : ∀ k, k < L.length → ∀ w', Only (fun q => q = b) w w' → Calls Try.prog g (#[.agg #[.int .i64 (nthP L k).1, .int .i64 (nthP L k).2]] ++ caps) w' (TellB w' (p (nthP L k))))
    (eg : ∀ args w, (callFunc g args).run Try.prog w = .ok (.enter g args) w) :
    Calls Try.prog 72 #[.slice (some ⟨b, 0, none⟩) L.length cap, .func (.func g) #[] caps] w (fun e w' => e = .returned (.slice (some ⟨b, 0, none⟩) (L.filter fun c => !p c).length cap) ∧ PlumbsAt w' (some ⟨b, 0, none⟩) (L.filter fun c => !p c) ∧ Only (fun q => q = b) w w') := by
  have hL : PlumbsAt w (some ⟨b, 0, none⟩) L := .inr ⟨b, 0, rfl, fun j hj => by
    obtain ⟨h1, h2⟩ := hpv j hj
    rw [Nat.zero_add]
    exact ⟨hb.cell h1, hb.cell h2⟩⟩
  have H1 := hid (indexFuncP_c (some ⟨b, 0, none⟩) cap L g caps p w hL hl (fun k hk w' h => hg k hk w' (Only.of_below h)) eg)
  have Hb := hid hb; have Hcs := hid hcs; have Hpv := hid hpv; have Hl := hid hl; have Hg := hid hg; have HL := hid hL; have Hcap := hid hcap
  obtain ⟨F, hF⟩ : ∃ F, F = L.filter fun c => !p c := ⟨_, rfl⟩
  rw [← hF]
  have HF := hid hF
  unfold TellB at Hg
  clear hF hb hcs hpv hl hg hL hcap
  go_enter Try.func72, Try.ntmps72
  go_wp2_with fail
  refine H1.out.mono ?_
  rintro e w1 ⟨i, rfl, hfirst, hB⟩
  have HB1 := hid hB
  clear hB
  rcases hfirst with ⟨rfl, hno⟩ | ⟨k0, rfl, hk0, hpk, hno⟩
  · have hFL : F = L := by
      rw [HF.out, List.filter_eq_self]
      intro c hc
      obtain ⟨j, hj, rfl⟩ := List.getElem_of_mem hc
      have := hno j hj
      rw [nthP_eq hj] at this
      rw [this]; rfl
    subst hFL
    clear hno
    go_wp2
    go_ret
    exact ⟨rfl, HL.out.mono HB1.out, Only.of_below HB1.out⟩
  · have b1 : ((k0 : Int) == -1) = false := by rw [beq_eq_false_iff_ne]; omega
    have e0 : IntKind.i64.wrap ((k0 : Int) + 1) = (k0 : Int) + 1 := wrap_i64_of (by omega) (by have := Hl.out; omega)
    have hfs := filter_take_first hk0 hno hpk
    have Hst := hid (show BV w1 b cs ∧ ((L.take (k0 + 1)).filter (fun c => !p c)).length = k0 ∧ (∀ k, k < k0 → PV cs k (nthP ((L.take (k0 + 1)).filter (fun c => !p c)) k)) from
      ⟨Hb.out.mono HB1.out, by rw [hfs, List.length_take]; omega, fun k hk => by
        rw [hfs]
        have := Hpv.out k (by omega)
        rwa [show nthP (L.take k0) k = nthP L k by simp [nthP, hk]]⟩)
    clear hno hpk hfs
    go_wp2
    go_loopw [5, 6, 7] (fun i j _ wr => ∃ (m k : Nat) (ds : List Value), i = .int .i64 m ∧ j = .int .i64 k ∧ m < k ∧ k ≤ L.length ∧ ((L.take k).filter (fun c => !p c)).length = m ∧ BV wr b ds ∧ ds.length = cap * 2 ∧ (∀ q, q < m → PV ds q (nthP ((L.take k).filter (fun c => !p c)) q)) ∧ (∀ q, k ≤ q → q < L.length → PV ds q (nthP L q)) ∧ Only (fun q => q = b) w wr) (fun _ j _ _ => L.length - (intOf j).toNat)
    case atStart => exact ⟨k0, k0 + 1, cs, rfl, by go_num, by omega, by omega, Hst.out.2.1, Hst.out.1, Hcs.out, Hst.out.2.2, fun q _ h => Hpv.out q h, Only.of_below HB1.out⟩
    case round =>
      obtain ⟨m, k, ds, rfl, rfl, hmk, hk, hm, hbv, hdl, hlo, hhi, hO⟩ := hrel
      obtain ⟨wo, rfl⟩ : ∃ wo : World, wo = wr := ⟨_, rfl⟩
      have Hm := hid hm; have Hbv := hid hbv; have Hdl := hid hdl; have Hlo := hid hlo; have Hhi := hid hhi; have HO := hid hO
      clear hm hbv hdl hlo hhi hO
      by_cases hlt : k < L.length
      · have hI : (k : Int) < (L.length : Int) := by omega
        have hmI : (m : Int) < (L.length : Int) := by omega
        obtain ⟨hx, hy⟩ := Hhi.out k (Nat.le_refl _) hlt
        have hx := Hbv.out.cell hx; have hy := Hbv.out.cell hy
        have e1 : IntKind.i64.wrap ((k : Int) + 1) = (k : Int) + 1 := wrap_i64_of (by omega) (by have := Hl.out; omega)
        have e2 : IntKind.i64.wrap ((m : Int) + 1) = (m : Int) + 1 := wrap_i64_of (by omega) (by have := Hl.out; omega)
        have hG := Hg.out k hlt
        have hst : (L.take (k + 1)).filter (fun c => !p c) = (L.take k).filter (fun c => !p c) ++ [nthP L k].filter (fun c => !p c) := by
          rw [take_succ_nthP hlt, List.filter_append]
        rw [List.filter_cons, List.filter_nil] at hst
        obtain ⟨R, hR⟩ : ∃ R, R = p (nthP L k) := ⟨_, rfl⟩
        rw [← hR] at hG hst
        obtain ⟨c, hc⟩ : ∃ c, c = nthP L k := ⟨_, rfl⟩
        rw [← hc] at hx hy hG hst
        obtain ⟨Y, hY, hBY, y0, y1⟩ := box34 wo c
        have HG := hid (hG Y (HO.out.trans (Only.of_below hBY)))
        have HY := hid hY; have HBY := hid hBY; have Hst2 := hid hst
        obtain ⟨x, y⟩ := c
        simp only at hx hy y0 y1 HY HG
        clear hG hst hR hc hY hBY
        go_upto_region 8 with (fail)
        rw [← HY.out]
        clear hx hy
        go_wp2_with fail
        refine HG.out.mono ?_
        rintro e w2 ⟨rfl, hB⟩
        have y0 := cstep y0 hB; have y1 := cstep y1 hB
        have HB2 := hid (bstep HBY.out hB)
        have Hbv2 := hid (Hbv.out.mono HB2.out)
        have HO2 := hid (HO.out.trans (Only.of_below HB2.out))
        clear hB HG
        cases R with
        | true =>
          have hst := Hst2.out
          simp only [Bool.not_true, Bool.false_eq_true, if_false, List.append_nil] at hst
          have Hst3 := hid hst
          clear hst Hst2
          go_wp2
          go_roundw
          case rel => exact ⟨m, k + 1, ds, rfl, by go_num, by omega, hlt, by rw [Hst3.out]; exact Hm.out, Hbv2.out, Hdl.out, by rw [Hst3.out]; exact Hlo.out, fun q h1 h2 => Hhi.out q (by omega) h2, HO2.out⟩
          case measure => simp [intOf]; omega
        | false =>
          have hst := Hst2.out
          simp only [Bool.not_false, if_true] at hst
          have Hst3 := hid hst
          have g0 := Hbv2.out.frozen (m * 2); have g1 := Hbv2.out.frozen (m * 2 + 1)
          obtain ⟨u, hu⟩ : ∃ u, ds[m * 2]? = some u := ⟨_, List.getElem?_eq_getElem (by have := Hdl.out; have := Hcap.out; omega)⟩
          obtain ⟨v, hv⟩ : ∃ u, ds[m * 2 + 1]? = some u := ⟨_, List.getElem?_eq_getElem (by have := Hdl.out; have := Hcap.out; omega)⟩
          have c0 := Hbv2.out.cell hu; have c1 := Hbv2.out.cell hv
          have Hbs := hid ((Hbv2.out.set (m * 2) (.int .i64 x)).set (m * 2 + 1) (.int .i64 y))
          clear hst Hst2 hu hv
          go_wp2
          go_roundw
          case rel =>
            refine ⟨m + 1, k + 1, _, by go_num, by go_num, by omega, hlt, by rw [Hst3.out, List.length_append, Hm.out]; rfl, Hbs.out, by rw [List.length_set, List.length_set]; exact Hdl.out, fun q hq => ?_, fun q h1 h2 => PV.set_other (m := m) (d := (x, y)) (Hhi.out q (by omega) h2) (by omega), (HO2.out.setCell rfl _).setCell rfl _⟩
            rw [Hst3.out]
            by_cases eq : q = m
            · subst eq
              have : nthP ((L.take k).filter (fun c => !p c) ++ [(x, y)]) q = (x, y) := by simp [nthP, List.getD, Hm.out]
              rw [this]
              exact PV.set_same (x, y) (by have := Hdl.out; have := Hcap.out; omega)
            · have : nthP ((L.take k).filter (fun c => !p c) ++ [(x, y)]) q = nthP ((L.take k).filter (fun c => !p c)) q := by
                simp only [nthP, List.getD]
                rw [List.getElem?_append_left (by rw [Hm.out]; omega)]
              rw [this]
              exact PV.set_other (d := (x, y)) (Hlo.out q (by omega)) eq
          case measure => simp [intOf]; omega
      · have hI : ¬ (k : Int) < (L.length : Int) := by omega
        have hmI : (m : Int) ≤ (L.length : Int) := by omega
        have hcm : ¬ cap = m := by have := Hcap.out; omega
        have hml := Hm.out
        rw [List.take_of_length_le (by omega), ← HF.out] at hml
        have hlo := Hlo.out
        rw [List.take_of_length_le (by omega), ← HF.out] at hlo
        have Hml := hid hml; have Hlo2 := hid hlo
        have hsl : ∀ w' : World, (Instr.slice 27 (.slice (some ⟨b, 0, none⟩) L.length cap) (some (.int .i64 (m : Int))) none none).run Try.prog w' = .ok (.slice (some ⟨b, m * 2, none⟩) (L.length - m) (cap - m)) w' := fun w' => by
          simp [go_sem, hmI, hcm]
        have hmc : (m : Int) ≤ (cap : Int) := by have := Hcap.out; omega
        have hsh : ∀ w' : World, (Instr.slice 27 (.slice (some ⟨b, 0, none⟩) L.length cap) none (some (.int .i64 (m : Int))) none).run Try.prog w' = .ok (.slice (some ⟨b, 0, none⟩) m cap) w' := fun w' => by
          simp [go_sem, hmc]
        clear hml hlo
        go_wp2_with (refine wpList_clear_pairs _ rfl _ rfl b (m * 2) (L.length - m) (cap - m) rfl ds Hbv.out ?c1 ?c2 ?_; rotate_right; (intro w' cs' hbv' htk hO'; refine Hid.out ?_))
        case c1 => have := Hdl.out; have := Hcap.out; omega
        case c2 => omega
        refine hid ?_
        have Hfin := hid (show PlumbsAt w' (some ⟨b, 0, none⟩) F from .inr ⟨b, 0, rfl, fun j hj => by
          obtain ⟨h1, h2⟩ := Hlo2.out j (by rw [← Hml.out]; exact hj)
          rw [Nat.zero_add]
          have e1 : cs'[j * 2]? = ds[j * 2]? := by
            have := congrArg (fun l => l[j * 2]?) htk
            have hm2 := Hml.out
            simpa [List.getElem?_take, (by omega : j * 2 < m * 2)] using this
          have e2 : cs'[j * 2 + 1]? = ds[j * 2 + 1]? := by
            have := congrArg (fun l => l[j * 2 + 1]?) htk
            have hm2 := Hml.out
            simpa [List.getElem?_take, (by omega : j * 2 + 1 < m * 2)] using this
          exact ⟨hbv'.cell (e1.trans h1), hbv'.cell (e2.trans h2)⟩⟩)
        have HOf := hid (HO.out.trans hO')
        clear hbv' htk hO' hsl
        go_wp2
        go_ret
        exact ⟨by rw [Hml.out]; rfl, Hfin.out, HOf.out⟩
end

end Go.Proofs.Ytelgbjfgmpkepaa

namespace Go.Proofs.Ytelgbjfgmpkepaa
open Go.RowKit Go.Shelf

set_option maxRecDepth 100000 in
theorem app00_27 (ty : TypeId) (w : World) (a : Addr) (ax : Option Addr) (cx : Nat) : (Builtin.append_ #[27, 27] ty #[.slice (some a) 0 0, .slice ax 0 cx]).run Try.prog w = .ok (.slice (some a) 0 0) w := by
  cases ax <;> simp [Builtin.append_, go_sem]
/-- an append whose run is known -/
theorem wpList_appR {t : TypeId} {ops : Array Oper} {rest : List Oper} {o : Oper} {a : Act} {Q : Exit → Act → World → Prop} (w : World) (hg : o.guard = none) (s x : Operand) (hop : o.op = Op.call { callee := Callee.builtin Builtin.append, args := #[s, x], argTypes := #[t, t] })
    (vs vx v : Value) (w' : World) (hs : a.eval s = vs) (hx : a.eval x = vx) (hrun : (Builtin.append_ #[t, t] o.type #[vs, vx]).run Try.prog w = .ok v w') (hK : wpList Try.prog ops Q rest (a.put o.dst v) w') : wpList Try.prog ops Q (o :: rest) a w := by
  refine wpList_plain hg fun K hK' => ?_
  unfold Oper.wp
  simp [execOp, hop, resolve, invoke, builtin, hs, hx, hrun, Result.andThen]
  exact hK' _ _ hK
section
variable (b : Nat) (lc : Nat) (L : List (Int × Int)) (w : World)
set_option maxRecDepth 100000 in
set_option maxHeartbeats 1000000 in
theorem clone_c (hL : PlumbsAt w (some ⟨b, 0, none⟩) L) (hl : L.length ≤ 1000000) : Calls Try.prog 76 #[.slice (some ⟨b, 0, none⟩) L.length lc] w (ListC w L) := by
  obtain ⟨X, hX⟩ : ∃ X, X = w.alloc (.cells #[] 34) := ⟨_, rfl⟩
  have hBX : Below w.heap.size w X := by rw [hX]; exact bnew _ _
  obtain ⟨ao', cap', w', hrun, hB, hown⟩ := run_app0 et27 app00_27 27 X w.heap.size w.heap.size (by rw [hX]; exact heap_alloc_new _ _) (Nat.le_refl _) (some ⟨b, 0, none⟩) L.length lc (pairv L) (cells_of_plumbs (hL.mono hBX)) (pairv_len L) (fun e => by cases e) hl
  have HX := hid hX; have HB := hid (bstep hBX hB)
  have Hown := hid (show OwnP w.heap.size w' ao' L.length cap' L from ⟨rfl, hown⟩)
  unfold ListC
  rw [hX] at hrun
  clear hL hl hX hBX hB hown
  have hbin : (binOp .eql 27 (.slice (some ⟨b, 0, none⟩) L.length lc) (.slice none 0 0)).run Try.prog w = .ok (.bool false) w := by
    simp [binOp, run_equal_slice_nil w 27 34 (some ⟨b, 0, none⟩) L.length lc Try.underlying27]
  go_enter Try.func76, Try.ntmps76
  have Hrun := hid hrun
  clear hrun
  go_wp2_with (at_builtin; refine wpList_appR _ rfl _ _ rfl _ _ _ w' rfl rfl Hrun.out ?_; refine Hid.out ?_)
  refine hid ?_
  go_wp2
  go_ret
  exact ⟨ao', cap', rfl, Hown.out.at, Hown.out.fresh, HB.out⟩
end
/-- the cases that a plan tells by its results -/
def toldL (K : Kn) (ps : List (List Int)) (rs : List Int) : List (Int × Int) := (casesOf K).filter fun c => decide (rs = codeOf ps c)
def tdErr (K : Kn) (ps : List (List Int)) (rs : List Int) : Int := if pErr K ps = 0 then (if rs.length = ps.length then (if within (-1) 1 rs = true then (if (toldL K ps rs).length = 0 then 21 else 0) else 3) else 15) else pErr K ps
def tdVal (K : Kn) (ps : List (List Int)) (rs : List Int) : List (Int × Int) := if tdErr K ps rs = 0 then toldL K ps rs else []
/-- a call that hands back cases and an error -/
def TdC (w : World) (L : List (Int × Int)) (er : Int) (e : Ending) (w' : World) : Prop := ∃ ao cap, e = .returned (.tuple #[.slice ao L.length cap, .int .i64 er]) ∧ PlumbsAt w' ao L ∧ Below w.heap.size w w'
theorem enters73 : ∀ args w, (callFunc 73 args).run Try.prog w = .ok (.enter 73 args) w := enters_of Try.func73 (by kernel_rfl) rfl
theorem casesOf_pos {K : Kn} (h : Kok K) : 0 < (casesOf K).length := by
  rcases h.some with h1 | ⟨k, hk, h1⟩
  · exact List.length_pos_of_mem (mem_casesNone.2 h1)
  · have h2 := h.cop k hk
    by_cases h3 : hasKind (nth K.cop k) 1 = true
    · exact List.length_pos_of_mem ((mem_cases (kd := 1) (.inl rfl)).2 ⟨hk, h3⟩)
    · refine List.length_pos_of_mem ((mem_cases (kd := 2) (.inr rfl)).2 ⟨hk, ?_⟩)
      unfold hasKind at h3 ⊢
      simp only [Bool.or_eq_true, decide_eq_true_eq] at h3 ⊢
      omega
theorem box_told (w : World) (x y p q : Value) : ∃ V, V = ((w.alloc (.cells #[x, y] 24)).alloc (.cells #[p] 42)).alloc (.cells #[q] 22) ∧ Below w.heap.size w V ∧ V.cell? ⟨w.heap.size, 0, none⟩ = some x ∧ V.cell? ⟨w.heap.size, 1, none⟩ = some y ∧ V.cell? ⟨w.heap.size + 1, 0, none⟩ = some p ∧ V.cell? ⟨w.heap.size + 1 + 1, 0, none⟩ = some q := by
  obtain ⟨A, hA, bA, a0, a1⟩ := box1 w x y 24
  have sA : A.heap.size = w.heap.size + 1 := by rw [hA]; simp
  have bB := bnew A (.cells #[p] 42)
  have c0 : (A.alloc (.cells #[p] 42)).cell? ⟨w.heap.size + 1, 0, none⟩ = some p := by
    rw [← sA, cell_of_row _ _ _ _ _ _ (heap_alloc_new _ _)]; rfl
  have bC := bnew (A.alloc (.cells #[p] 42)) (.cells #[q] 22)
  have d0 : ((A.alloc (.cells #[p] 42)).alloc (.cells #[q] 22)).cell? ⟨w.heap.size + 1 + 1, 0, none⟩ = some q := by
    have sB : (A.alloc (.cells #[p] 42)).heap.size = w.heap.size + 1 + 1 := by simp [sA]
    rw [← sB, cell_of_row _ _ _ _ _ _ (heap_alloc_new _ _)]; rfl
  exact ⟨_, by rw [hA], bstep (bstep bA bB) bC, cstep (cstep a0 bB) bC, cstep (cstep a1 bB) bC, cstep c0 bC, d0⟩
section
variable (ka : Option Addr) (kc : Nat) (K : Kn) (pa : Option Addr) (pc : Nat) (ps : List (List Int)) (ra : Option Addr) (rc : Nat) (rs : List Int) (w : World)
set_option maxRecDepth 100000 in
set_option maxHeartbeats 4000000 in
theorem told_32 (hk : KnAt w ka K) (hlk : K.cop.length ≤ 1000000) (hp : RowsAt w pa ps) (hl : ps.length ≤ 1000000) (hll : ∀ p ∈ ps, p.length ≤ 1000000) (hr : IntsAt w ra rs) (hrl : rs.length ≤ 1000000) : Calls Try.prog 32 #[.agg #[.slice ka K.cop.length kc, .bool K.none], .slice pa ps.length pc, .slice ra rs.length rc] w (TdC w (tdVal K ps rs) (tdErr K ps rs)) := by
  obtain ⟨V, hV, hB0, k0, k1, p0, q0⟩ : ∃ V, V = ((w.alloc (.cells #[.slice ka K.cop.length kc, .bool K.none] 24)).alloc (.cells #[.slice pa ps.length pc] 42)).alloc (.cells #[.slice ra rs.length rc] 22) ∧ Below w.heap.size w V ∧ V.cell? ⟨w.heap.size, 0, none⟩ = some (.slice ka K.cop.length kc) ∧ V.cell? ⟨w.heap.size, 1, none⟩ = some (.bool K.none) ∧ V.cell? ⟨w.heap.size + 1, 0, none⟩ = some (.slice pa ps.length pc) ∧ V.cell? ⟨w.heap.size + 1 + 1, 0, none⟩ = some (.slice ra rs.length rc) :=
    box_told w _ _ _ _
  have hkV := hk.mono hB0
  have HpV := hid (hp.mono hB0); have HrV := hid (hr.mono hB0)
  have H1 := hid fun (w' : World) (h : Below V.heap.size V w') => opened_c ka kc K pa pc ps w' (hkV.mono h) hlk (HpV.out.mono h) hl hll
  have H2 := hid fun (w' : World) (h : Below V.heap.size V w') => within_c ra rc (-1) 1 rs w' (HrV.out.mono h) hrl
  have HB0 := hid hB0; have HV := hid hV; have HV0 := hid (Below.refl V.heap.size V)
  have K0 := hid k0; have K1 := hid k1; have P0 := hid p0; have Q0 := hid q0
  have hE : tdErr K ps rs = if pErr K ps = 0 then (if rs.length = ps.length then (if within (-1) 1 rs = true then (if (toldL K ps rs).length = 0 then 21 else 0) else 3) else 15) else pErr K ps := rfl
  have hO : tdVal K ps rs = if tdErr K ps rs = 0 then toldL K ps rs else [] := rfl
  have hT : toldL K ps rs = (casesOf K).filter fun c => decide (rs = codeOf ps c) := rfl
  have Hok := hid (pErr_zero (K := K) (ps := ps))
  have Hrl := hid hrl
  unfold TdC
  obtain ⟨EE, hEE⟩ : ∃ O, O = tdErr K ps rs := ⟨_, rfl⟩
  rw [← hEE] at hE hO ⊢
  obtain ⟨O, hOO⟩ : ∃ O, O = tdVal K ps rs := ⟨_, rfl⟩
  rw [← hOO] at hO ⊢
  obtain ⟨T, hTT⟩ : ∃ T, T = toldL K ps rs := ⟨_, rfl⟩
  rw [← hTT] at hE hO hT
  obtain ⟨E, hE1⟩ : ∃ E, E = pErr K ps := ⟨_, rfl⟩
  rw [← hE1] at H1 hE Hok
  obtain ⟨nn, hnn⟩ : ∃ b, b = K.none := ⟨_, rfl⟩
  rw [← hnn] at k1 K1 HV H1 ⊢
  clear hnn hEE hOO hTT hE1 hk hp hr hV hB0 hkV hl hlk hll hrl
  by_cases h0 : E = 0
  · obtain ⟨hok, hp6, hwok, _⟩ := Hok.out h0
    rw [if_pos h0] at hE
    have Hok2 := hid hok
    have Hcok := hid (casesOf_ok hok.cop)
    have Hlen := hid (show (casesOf K).length ≤ 1000 by have := casesOf_len K; have := hok.n12; omega)
    have Hpos := hid (casesOf_pos hok)
    have Hwok := hid hwok
    subst h0
    by_cases hn : rs.length = ps.length
    · have b1 : ((rs.length : Int) != (ps.length : Int)) = false := by simp [hn]
      rw [if_pos hn] at hE
      cases hwi : within (-1) 1 rs with
      | true =>
        rw [hwi, if_pos rfl] at hE
        rw [hwi] at H2
        have HE := hid hE; have HO := hid hO; have HT := hid hT
        have H3 := hid fun (g : Nat) (mv : Value) (w' : World) (hb : BalAt w' g ka kc K mv) => casesO_c g ka kc K mv w' hb (by have := hok.n12; omega) hok.cop
        unfold ListO at H3
        obtain ⟨L, hL⟩ : ∃ L, L = casesOf K := ⟨_, rfl⟩
        rw [← hL] at H3 Hcok Hlen Hpos HT
        clear hE hO hT hok hwok hL hwi hn
        go_enter Try.func32, Try.ntmps32
        go_upto_region 1 with (fail)
        rw [← HV.out]
        go_wp2_with fail
        refine (H1.out _ HV0.out).mono ?_
        rintro e w1 h
        obtain ⟨g, m, rfl, _, _, _, hbal, _, hB⟩ := h.ok rfl
        have HB1 := hid hB; have HBal := hid hbal
        have q0 := cstep q0 hB; have p0 := cstep p0 hB
        clear h hB hbal
        go_wp2_with fail
        refine (H2.out _ HB1.out).mono ?_
        rintro e w2 ⟨rfl, hB⟩
        have HB2 := hid (bstep HB1.out hB)
        have HBal2 := hid (HBal.out.mono hB)
        clear hB
        go_wp2_with fail
        refine (H3.out g _ w2 HBal2.out).mono ?_
        rintro e w3 ⟨ao, cap, rfl, hown, hB⟩
        obtain ⟨b, cs, rfl, hbge, hbv, hcap, hcs, hpv⟩ := hown.bv Hpos.out
        have HB3 := hid (bstep HB2.out hB)
        have Hbv := hid hbv; have Hpv := hid hpv; have Hcs := hid hcs; have Hcap := hid hcap
        have Hbge := hid (show V.heap.size ≤ b from Nat.le_trans HB2.out.size hbge)
        have HP0 := hid (cstep P0.out HB3.out); have HQ0 := hid (cstep Q0.out HB3.out)
        clear hB hown hbge hbv hcap hcs hpv
        have H4 := hid (deleteFunc_c b cap cs L 73 #[.pointer (some ⟨w.heap.size + 1 + 1, 0, none⟩), .pointer (some ⟨w.heap.size + 1, 0, none⟩)] (fun c => !decide (rs = codeOf ps c)) w3 Hbv.out Hcap.out Hcs.out Hpv.out (by have := Hlen.out; omega)
          (fun k hk w' hO => told1_c (w.heap.size + 1 + 1) (w.heap.size + 1) ra rc rs pa pc ps (nthP L k) K.cop.length w'
            (hO.cell HQ0.out (fun e => by have e : w.heap.size + 1 + 1 = b := e; have := Hbge.out; have := lt_of_cell Q0.out; omega))
            (hO.cell HP0.out (fun e => by have e : w.heap.size + 1 = b := e; have := Hbge.out; have := lt_of_cell P0.out; omega))
            (HrV.out.mono (HB3.out.trans (hO.below HB3.out.size (fun q hq e => by have := Hbge.out; omega)))) Hrl.out
            (HpV.out.mono (HB3.out.trans (hO.below HB3.out.size (fun q hq e => by have := Hbge.out; omega)))) (by omega) Hwok.out (Hcok.out _ (nthP_mem hk))) enters73)
        have hfe : (L.filter fun c => !(fun c => !decide (rs = codeOf ps c)) c) = T := by
          rw [HT.out]; simp
        rw [hfe] at H4
        clear hfe
        go_wp2_with fail
        refine H4.out.mono ?_
        rintro e w4 ⟨rfl, hpl, hO4⟩
        have HB4 := hid (HB3.out.trans (hO4.below HB3.out.size (fun q hq e => by have := Hbge.out; omega)))
        have Hpl := hid hpl
        clear hpl hO4 H4
        by_cases hz : T.length = 0
        · have hE := HE.out
          rw [if_pos hz] at hE
          have hO := HO.out
          rw [hE, if_neg (by decide)] at hO
          have HE2 := hid hE; have HO2 := hid hO
          have b3 : ((T.length : Int) == 0) = true := by simpa using hz
          clear hE hO HE HO hz
          go_wp2
          go_ret2
          exact ⟨none, 0, by rw [HE2.out, HO2.out]; rfl, by rw [HO2.out]; exact .inl rfl, bstep HB0.out HB4.out⟩
        · have hE := HE.out
          rw [if_neg hz] at hE
          have hO := HO.out
          rw [if_pos hE] at hO
          have HE2 := hid hE
          have b3 : ((T.length : Int) == 0) = false := by rw [beq_eq_false_iff_ne]; omega
          have hTl : T.length ≤ 1000000 := by
            rw [HT.out]
            have := List.length_filter_le (fun c => decide (rs = codeOf ps c)) L
            have := Hlen.out
            omega
          have H5 := hid (clone_c b cap T w4 Hpl.out hTl)
          unfold ListC at H5
          rw [← hO] at H5 b3 ⊢
          clear hE hO HE HO hz hTl
          go_wp2_with fail
          refine H5.out.mono ?_
          rintro e w5 ⟨ao, cap2, rfl, hpl, _, hB⟩
          have HB5 := hid (bstep HB4.out hB)
          have Hpl5 := hid hpl
          clear hB hpl H5
          go_wp2
          go_ret2
          exact ⟨ao, cap2, by rw [HE2.out]; rfl, Hpl5.out, bstep HB0.out HB5.out⟩
      | false =>
        rw [hwi, if_neg (by decide)] at hE
        rw [hwi] at H2
        rw [hE, if_neg (by decide)] at hO
        have HE := hid hE; have HO := hid hO
        clear hE hO hok hwok hwi hn
        go_enter Try.func32, Try.ntmps32
        go_upto_region 1 with (fail)
        rw [← HV.out]
        go_wp2_with fail
        refine (H1.out _ HV0.out).mono ?_
        rintro e w1 h
        obtain ⟨g, m, rfl, _, _, _, _, _, hB⟩ := h.ok rfl
        have HB1 := hid hB
        have q0 := cstep q0 hB; have p0 := cstep p0 hB
        clear h hB
        go_wp2_with fail
        refine (H2.out _ HB1.out).mono ?_
        rintro e w2 ⟨rfl, hB⟩
        have HB2 := hid (bstep HB1.out hB)
        clear hB
        go_wp2
        go_ret2
        exact ⟨none, 0, by rw [HE.out, HO.out]; rfl, by rw [HO.out]; exact .inl rfl, bstep HB0.out HB2.out⟩
    · have b1 : ((rs.length : Int) != (ps.length : Int)) = true := by simp; omega
      rw [if_neg hn] at hE
      rw [hE, if_neg (by decide)] at hO
      have HE := hid hE; have HO := hid hO
      clear hE hO hok hwok
      go_enter Try.func32, Try.ntmps32
      go_upto_region 1 with (fail)
      rw [← HV.out]
      go_wp2_with fail
      refine (H1.out _ HV0.out).mono ?_
      rintro e w1 h
      obtain ⟨g, m, rfl, _, _, _, _, _, hB⟩ := h.ok rfl
      have HB1 := hid hB
      have q0 := cstep q0 hB; have p0 := cstep p0 hB
      clear h hB
      go_wp2
      go_ret2
      exact ⟨none, 0, by rw [HE.out, HO.out]; rfl, by rw [HO.out]; exact .inl rfl, bstep HB0.out HB1.out⟩
  · rw [if_neg h0] at hE
    rw [hE, if_neg h0] at hO
    have HE := hid hE; have HO := hid hO
    have H0 := hid h0
    have b1 : (E != 0) = true := by simpa using h0
    clear hE hO
    go_enter Try.func32, Try.ntmps32
    go_upto_region 1 with (fail)
    rw [← HV.out]
    go_wp2_with fail
    refine (H1.out _ HV0.out).mono ?_
    rintro e w1 h
    obtain ⟨rfl, hB⟩ := h.err H0.out
    have HB1 := hid hB
    clear h hB
    go_wp2
    go_ret2
    exact ⟨none, 0, by rw [HE.out, HO.out]; rfl, by rw [HO.out]; exact .inl rfl, bstep HB0.out HB1.out⟩
end

end Go.Proofs.Ytelgbjfgmpkepaa

namespace Go.Proofs.Ytelgbjfgmpkepaa
open Go.RowKit Go.Shelf

/-- the first k results are those of a case -/
def fitB (ps : List (List Int)) (rs : List Int) (c : Int × Int) (k : Nat) : Bool := decide (rs.take k = codeOf (ps.take k) c)
theorem fitB_succ {ps : List (List Int)} {rs : List Int} {c : Int × Int} {k : Nat} (hn : rs.length = ps.length) (hk : k < ps.length) :
    fitB ps rs c (k + 1) = (fitB ps rs c k && decide (resultOf (nthL ps k) c = nth rs k)) := by
  unfold fitB
  rw [take_succ_nth (by omega), codeOf_take hk]
  have hl : (rs.take k).length = (codeOf (ps.take k) c).length := by rw [codeOf_len, List.length_take, List.length_take, hn]
  by_cases h1 : rs.take k = codeOf (ps.take k) c
  · rw [h1]
    by_cases h2 : resultOf (nthL ps k) c = nth rs k
    · simp [h2]
    · have h3 : ¬ nth rs k = resultOf (nthL ps k) c := fun e => h2 e.symm
      simp [h2, h3]
  · have : ¬ (rs.take k ++ [nth rs k] = codeOf (ps.take k) c ++ [resultOf (nthL ps k) c]) := fun e => h1 (List.append_inj_left e hl)
    rw [decide_eq_false this, decide_eq_false h1]; rfl
theorem fitB_all {ps : List (List Int)} {rs : List Int} {c : Int × Int} (hn : rs.length = ps.length) : fitB ps rs c ps.length = decide (rs = codeOf ps c) := by
  unfold fitB
  rw [List.take_length, ← hn, List.take_length]
theorem within_take1 {lo hi : Int} {xs : List Int} {k : Nat} (hk : k < xs.length) : within lo hi (xs.take (k + 1)) = (within lo hi (xs.take k) && (decide (lo ≤ nth xs k) && decide (nth xs k ≤ hi))) := by
  unfold within
  rw [all_take_succ _ hk]
section
variable (ka : Option Addr) (kc : Nat) (K : Kn) (pa : Option Addr) (pc : Nat) (ps : List (List Int)) (ra : Option Addr) (rc : Nat) (rs : List Int) (w : World)
set_option maxRecDepth 100000 in
set_option maxHeartbeats 4000000 in
theorem rTold_33 (hk : KnAt w ka K) (hlk : K.cop.length ≤ 1000000) (hp : RowsAt w pa ps) (hl : ps.length ≤ 1000000) (hll : ∀ p ∈ ps, p.length ≤ 1000000) (hr : IntsAt w ra rs) (hrl : rs.length ≤ 1000000) : Calls Try.prog 33 #[.agg #[.slice ka K.cop.length kc, .bool K.none], .slice pa ps.length pc, .slice ra rs.length rc] w (TdC w (tdVal K ps rs) (tdErr K ps rs)) := by
  obtain ⟨V, hV, hB0, k0, k1⟩ := box1 w (.slice ka K.cop.length kc) (.bool K.none) 24
  have hkV := hk.mono hB0
  have HB0 := hid hB0; have HV := hid hV; have HV0 := hid (Below.refl V.heap.size V)
  have K0 := hid k0; have K1 := hid k1
  have HpV := hid (hp.mono hB0); have HrV := hid (hr.mono hB0)
  have H1 := hid fun (w' : World) (h : Below V.heap.size V w') => planError_c ka kc K pa pc ps w' (hkV.mono h) hlk (HpV.out.mono h) hl hll
  have HkV := hid hkV
  have hE : tdErr K ps rs = if pErr K ps = 0 then (if rs.length = ps.length then (if within (-1) 1 rs = true then (if (toldL K ps rs).length = 0 then 21 else 0) else 3) else 15) else pErr K ps := rfl
  have hO : tdVal K ps rs = if tdErr K ps rs = 0 then toldL K ps rs else [] := rfl
  have hT : toldL K ps rs = (casesOf K).filter fun c => decide (rs = codeOf ps c) := rfl
  have Hok := hid (pErr_zero (K := K) (ps := ps))
  have Hrl := hid hrl
  unfold TellI at H1
  obtain ⟨EE, hEE⟩ : ∃ O, O = tdErr K ps rs := ⟨_, rfl⟩
  rw [← hEE] at hE hO ⊢
  obtain ⟨O, hOO⟩ : ∃ O, O = tdVal K ps rs := ⟨_, rfl⟩
  rw [← hOO] at hO ⊢
  obtain ⟨T, hTT⟩ : ∃ T, T = toldL K ps rs := ⟨_, rfl⟩
  rw [← hTT] at hE hO hT
  obtain ⟨E, hE1⟩ : ∃ E, E = pErr K ps := ⟨_, rfl⟩
  rw [← hE1] at H1 hE Hok
  obtain ⟨nn, hnn⟩ : ∃ b, b = K.none := ⟨_, rfl⟩
  rw [← hnn] at k1 K1 HV H1 ⊢
  have Hnn := hid hnn
  clear hnn hEE hOO hTT hE1 hk hp hr hV hB0 hkV hl hlk hll hrl
  by_cases h0 : E = 0
  · obtain ⟨hok, hp6, hwok, _⟩ := Hok.out h0
    rw [if_pos h0] at hE
    have Hok2 := hid hok
    have Hcok := hid (casesOf_ok hok.cop)
    have Hlen := hid (show (casesOf K).length ≤ 1000 by have := casesOf_len K; have := hok.n12; omega)
    have Hwok := hid hwok
    have Hp6 := hid hp6
    subst h0
    by_cases hn : rs.length = ps.length
    · have b1 : ((rs.length : Int) != (ps.length : Int)) = false := by simp [hn]
      rw [if_pos hn] at hE
      have HE := hid hE; have HO := hid hO; have HT := hid hT; have Hn := hid hn
      have H2 := hid fun (w' : World) (h : Below V.heap.size V w') => casesOf_c ka kc K w' (HkV.out.mono h) (by have := Hok2.out.n12; omega) Hok2.out.cop
      rw [← Hnn.out] at H2
      have H3 := hid fun (p : List Int) (hp : p ∈ ps) (c : Int × Int) (hc : CaseOk K.cop.length c) (ra : Option Addr) (rc : Nat) (w' : World) (h : IntsAt w' ra p) => resultOf_c ra rc p.length p c w' h (by rw [(Hwok.out p hp).1]; exact Hwok.out p hp) (by rw [(Hwok.out p hp).1]; exact hc)
      unfold ListC at H2
      unfold TellI at H3
      obtain ⟨L, hL⟩ : ∃ L, L = casesOf K := ⟨_, rfl⟩
      rw [← hL] at H2 Hcok Hlen HT
      clear hE hO hT hok hwok hL hn hp6
      go_enter Try.func33, Try.ntmps33
      go_upto_region 1 with (fail)
      rw [← HV.out]
      go_wp2_with fail
      refine (H1.out _ HV0.out).mono ?_
      rintro e w1 ⟨rfl, hB⟩
      have HB1 := hid (bstep HV0.out hB)
      have k0 := cstep k0 hB
      have k1 := cstep k1 hB
      clear hB
      go_wp2
      go_loopw [8] (fun i wr => ∃ k : Nat, k ≤ rs.length ∧ i = .int .i64 k ∧ within (-1) 1 (rs.take k) = true ∧ w1 = wr) (fun i _ => rs.length - (intOf i).toNat)
      case atStart => exact ⟨0, Nat.zero_le _, rfl, rfl, rfl⟩
      case round =>
        obtain ⟨k, hk, rfl, hw, rfl⟩ := hrel
        have Hw := hid hw
        clear hw
        by_cases hlt : k < rs.length
        · have hI : (k : Int) < (rs.length : Int) := by omega
          obtain ⟨b, off, rfl, hcx⟩ := IntsAt.at (HrV.out.mono HB1.out) hlt
          have e1 : IntKind.i64.wrap ((k : Int) + 1) = (k : Int) + 1 := wrap_i64_of (by omega) (by have := Hrl.out; omega)
          have hst := within_take1 (lo := -1) (hi := 1) hlt
          have hbad := within_bad (lo := -1) (hi := 1) hlt
          obtain ⟨x, hx⟩ : ∃ x, x = nth rs k := ⟨_, rfl⟩
          rw [← hx] at hcx hst hbad
          rw [Hw.out, Bool.true_and] at hst
          have Hst := hid hst; have Hbad := hid hbad
          clear hst hbad hx
          by_cases hb1 : x < -1
          · have b4 : decide (x < -1) = true := by simpa using hb1
            have hE := HE.out
            rw [Hbad.out (.inl hb1), if_neg (by simp)] at hE
            have hO := HO.out
            rw [hE, if_neg (by decide)] at hO
            have HE2 := hid hE; have HO2 := hid hO
            clear hE hO
            go_wp2
            go_ret2
            exact ⟨none, 0, by rw [HE2.out, HO2.out]; rfl, by rw [HO2.out]; exact .inl rfl, bstep HB0.out HB1.out⟩
          · have b4 : decide (x < -1) = false := by simpa using hb1
            by_cases hb2 : 1 < x
            · have hE := HE.out
              rw [Hbad.out (.inr hb2), if_neg (by simp)] at hE
              have hO := HO.out
              rw [hE, if_neg (by decide)] at hO
              have HE2 := hid hE; have HO2 := hid hO
              clear hE hO
              go_wp2
              go_ret2
              exact ⟨none, 0, by rw [HE2.out, HO2.out]; rfl, by rw [HO2.out]; exact .inl rfl, bstep HB0.out HB1.out⟩
            · have hst := Hst.out
              rw [decide_eq_true (by omega : -1 ≤ x), decide_eq_true (by omega : x ≤ 1), Bool.true_and] at hst
              have Hst2 := hid hst
              clear hst
              go_wp2
              go_roundw
              case rel => exact ⟨k + 1, hlt, by go_num, Hst2.out, trivial⟩
              case measure => simp [intOf]; omega
        · have hI : ¬ (k : Int) < (rs.length : Int) := by omega
          have hw := Hw.out
          rw [List.take_of_length_le (by omega)] at hw
          have hE := HE.out
          rw [if_pos hw] at hE
          have HE2 := hid hE
          clear hw hE HE Hw
          go_wp2_with fail
          refine (H2.out _ HB1.out).mono ?_
          rintro e w2 ⟨la, lc, rfl, hL, ⟨_, _⟩, hB⟩
          have HB2 := hid (bstep HB1.out hB)
          clear hB
          have HL2 := hid hL
          have Hsz := hid (show w.heap.size ≤ w2.heap.size from Nat.le_trans HB0.out.size HB2.out.size)
          clear hL
          go_wp2
          go_loopw [10, 11, 12, 13] (fun o i _ _ wr => ∃ (k : Nat) (ao : Option Addr) (cap : Nat), k ≤ L.length ∧ i = .int .i64 k ∧ o = .slice ao ((L.take k).filter fun c => decide (rs = codeOf ps c)).length cap ∧ OwnP w2.heap.size wr ao ((L.take k).filter fun c => decide (rs = codeOf ps c)).length cap ((L.take k).filter fun c => decide (rs = codeOf ps c)) ∧ Below w2.heap.size w2 wr) (fun _ i _ _ _ => L.length - (intOf i).toNat)
          case atStart => exact ⟨0, none, 0, Nat.zero_le _, rfl, rfl, OwnP.nil _ _, Below.refl _ _⟩
          case round =>
            obtain ⟨k, ao, cap, hk, rfl, rfl, ho, hB⟩ := hrel
            obtain ⟨wo, rfl⟩ : ∃ wo : World, wo = wr := ⟨_, rfl⟩
            have HB := hid hB; have Ho := hid ho
            have hLo := HL2.out.mono hB
            clear hB ho
            by_cases hlt : k < L.length
            · have hI : (k : Int) < (L.length : Int) := by omega
              obtain ⟨lb, lo, rfl, hx, hy⟩ := hLo.at hlt
              have hcase := Hcok.out _ (nthP_mem hlt)
              have e1 : IntKind.i64.wrap ((k : Int) + 1) = (k : Int) + 1 := wrap_i64_of (by omega) (by have := Hlen.out; omega)
              have hst : (L.take (k + 1)).filter (fun c => decide (rs = codeOf ps c)) = (L.take k).filter (fun c => decide (rs = codeOf ps c)) ++ [nthP L k].filter (fun c => decide (rs = codeOf ps c)) := by
                rw [take_succ_nthP hlt, List.filter_append]
              rw [List.filter_cons, List.filter_nil] at hst
              have hml : ((L.take k).filter fun c => decide (rs = codeOf ps c)).length + 1 ≤ 1000000 := by
                have h1 := List.length_filter_le (fun c => decide (rs = codeOf ps c)) (L.take k)
                rw [List.length_take] at h1
                have := Hlen.out
                omega
              obtain ⟨c, hc⟩ : ∃ c, c = nthP L k := ⟨_, rfl⟩
              rw [← hc] at hx hy hcase hst
              obtain ⟨M, hM⟩ : ∃ M, M = (L.take k).filter (fun c => decide (rs = codeOf ps c)) := ⟨_, rfl⟩
              rw [← hM] at Ho hst hml ⊢
              have Hsucc := hid fun (j : Nat) (hj : j < ps.length) => fitB_succ (c := c) (rs := rs) Hn.out hj
              have Hall := hid (fitB_all (ps := ps) (rs := rs) (c := c) Hn.out)
              have H4 := hid fun (p : List Int) (hp : p ∈ ps) => H3.out p hp c hcase
              rw [← Hall.out] at hst
              have Hst := hid hst
              have Hf0 := hid (show fitB ps rs c 0 = true from rfl)
              have HX := hid hx; have HY := hid hy
              obtain ⟨fb, hfb⟩ : ∃ f : Nat → Bool, f = fitB ps rs c := ⟨_, rfl⟩
              rw [← hfb] at Hsucc Hst Hf0
              have Hml := hid hml
              obtain ⟨x, y⟩ := c
              simp only at HX HY H4
              clear hst hcase hc hM hfb hx hy hLo hml
              go_wp2
              go_loopw [12, 13] (fun f i wr => ∃ j : Nat, j ≤ ps.length ∧ i = .int .i64 j ∧ f = .bool (fb j) ∧ Below wo.heap.size wo wr) (fun _ i _ => ps.length - (intOf i).toNat)
              case atStart => exact ⟨0, Nat.zero_le _, rfl, by rw [Hf0.out], Below.refl _ _⟩
              case round =>
                obtain ⟨j, hj, rfl, rfl, hB⟩ := hrel
                obtain ⟨wi, rfl⟩ : ∃ wi : World, wi = wr := ⟨_, rfl⟩
                have HBi := hid hB
                have HBp := hid (bstep HB2.out (bstep HB.out hB))
                have hx := cstep HX.out hB; have hy := cstep HY.out hB
                clear hB
                by_cases hjt : j < ps.length
                · have hJ : (j : Int) < (ps.length : Int) := by omega
                  have hJr : (j : Int) < (rs.length : Int) := by have := Hn.out; omega
                  obtain ⟨pb, po, qa, qc, rfl, hcp, hxs, _⟩ := (HpV.out.mono HBp.out).at hjt
                  obtain ⟨rb, ro, rfl, hcr⟩ := IntsAt.at (HrV.out.mono HBp.out) (show j < rs.length by omega)
                  have e3 : IntKind.i64.wrap ((j : Int) + 1) = (j : Int) + 1 := wrap_i64_of (by omega) (by have := Hp6.out; omega)
                  have hsu := Hsucc.out j hjt
                  have H5 := hid fun s : Later wi => H4.out _ (nthL_mem hjt) qa qc s.w' (hxs.mono s.h)
                  obtain ⟨R, hR⟩ : ∃ R, R = resultOf (nthL ps j) (x, y) := ⟨_, rfl⟩
                  rw [← hR] at H5 hsu
                  obtain ⟨z, hz⟩ : ∃ z, z = nth rs j := ⟨_, rfl⟩
                  rw [← hz] at hcr hsu
                  obtain ⟨p, hp⟩ : ∃ x, x = nthL ps j := ⟨_, rfl⟩
                  rw [← hp] at hcp H5
                  have Hsu := hid hsu
                  have j0 := fun s : Later wi => cstep hx s.h
                  have j1 := fun s : Later wi => cstep hy s.h
                  have j2 := fun s : Later wi => cstep hcp s.h
                  have j3 := fun s : Later wi => cstep hcr s.h
                  obtain ⟨b, hb⟩ : ∃ b, b = fb j := ⟨_, rfl⟩
                  rw [← hb] at Hsu ⊢
                  clear hsu hR hz hp hxs hx hy hcp hcr hb
                  cases b with
                  | true =>
                    by_cases he : R = z
                    · have b5 : (R == z) = true := by simpa using he
                      have Hsu2 := hid (show fb (j + 1) = true by rw [Hsu.out]; simp [he])
                      go_wp2
                      refine wp_region_later (by kernel_rfl) (by kernel_rfl) ?_
                      repeat (go_big_quiet_step ((go_at_call 65; with_reducible exact callsLater (H5.out _))))
                      refine wpQuiet_nil ?_
                      rintro w3 ⟨⟨_, hB⟩, rfl⟩
                      have HB3 := hid (bstep HBi.out hB)
                      clear hB j0 j1 j2 j3
                      go_wp2
                      go_roundw
                      case rel => exact ⟨j + 1, hjt, by go_num, by rw [Hsu2.out], HB3.out⟩
                      case measure => simp [intOf]; omega
                    · have b5 : (R == z) = false := by simpa using he
                      have Hsu2 := hid (show fb (j + 1) = false by rw [Hsu.out]; simp [he])
                      go_wp2
                      refine wp_region_later (by kernel_rfl) (by kernel_rfl) ?_
                      repeat (go_big_quiet_step ((go_at_call 65; with_reducible exact callsLater (H5.out _))))
                      refine wpQuiet_nil ?_
                      rintro w3 ⟨⟨_, hB⟩, rfl⟩
                      have HB3 := hid (bstep HBi.out hB)
                      clear hB j0 j1 j2 j3
                      go_wp2
                      go_roundw
                      case rel => exact ⟨j + 1, hjt, by go_num, by rw [Hsu2.out], HB3.out⟩
                      case measure => simp [intOf]; omega
                  | false =>
                    have Hsu2 := hid (show fb (j + 1) = false by rw [Hsu.out]; simp)
                    go_wp2
                    refine wp_region_later (by kernel_rfl) (by kernel_rfl) ?_
                    repeat (go_big_quiet_step ((go_at_call 65; with_reducible exact callsLater (H5.out _))))
                    refine wpQuiet_nil ?_
                    rintro w3 ⟨⟨_, hB⟩, rfl⟩
                    have HB3 := hid (bstep HBi.out hB)
                    clear hB j0 j1 j2 j3
                    go_wp2
                    go_roundw
                    case rel => exact ⟨j + 1, hjt, by go_num, by rw [Hsu2.out], HB3.out⟩
                    case measure => simp [intOf]; omega
                · have hJ : ¬ (j : Int) < (ps.length : Int) := by omega
                  obtain rfl : j = ps.length := by omega
                  have Hoi := hid (Ho.out.kept HBi.out)
                  have HBo2 := hid (bstep HB.out HBi.out)
                  obtain ⟨b, hb⟩ : ∃ b, b = fb ps.length := ⟨_, rfl⟩
                  rw [← hb] at Hst ⊢
                  clear hb
                  cases b with
                  | true =>
                    have hst := Hst.out
                    rw [if_pos rfl] at hst
                    have Hst2 := hid hst
                    clear hst Hst
                    obtain ⟨LL, hLL⟩ : ∃ X, X = wi.alloc (.cells #[.int .i64 x, .int .i64 y] 34) := ⟨_, rfl⟩
                    have hBL : Below wi.heap.size wi LL := by rw [hLL]; exact bnew _ _
                    have hcL : CellsAt LL (some ⟨wi.heap.size, 0, none⟩) [.int .i64 x, .int .i64 y] := by
                      rw [hLL]
                      refine CellsAt.of_heap (heap_alloc_new _ _) fun j v hj => ?_
                      rw [Nat.zero_add]
                      simpa using hj
                    have HO1 := hid (Hoi.out.kept hBL); have HLL := hid hLL; have hszL : w2.heap.size ≤ LL.heap.size := Nat.le_trans HBo2.out.size hBL.size
                    have HBLL := hid (bstep HBo2.out hBL)
                    have hml := Hml.out
                    clear hBL hLL
                    go_wp2_with (at_builtin; rw [← HLL.out]; refine wpList_appV et27 _ rfl _ _ rfl w2.heap.size ao M.length cap (pairv M) rfl HO1.out.2 (some ⟨wi.heap.size, 0, none⟩) 1 1 [.int .i64 x, .int .i64 y] rfl hcL rfl (fun u hu => by simp at hu; rcases hu with rfl | rfl <;> rfl) (fun h => by cases h) hml hszL ?_; (intro ao' cap' w' hB' hown' hgr' hn'; refine Hid.out ?_))
                    refine hid ?_
                    have HB4 := hid (HBLL.out.trans hB')
                    have Ho4 := hid (OwnP.app (c := (x, y)) rfl hown')
                    clear hB' hown' hgr' hn' hcL hszL
                    go_wp2
                    go_roundw
                    case rel => exact ⟨k + 1, ao', cap', hlt, by go_num, by rw [Hst2.out, List.length_append]; rfl, by rw [Hst2.out, List.length_append]; exact Ho4.out, HB4.out⟩
                    case measure => simp [intOf]; omega
                  | false =>
                    have hst := Hst.out
                    rw [if_neg (by decide), List.append_nil] at hst
                    have Hst2 := hid hst
                    clear hst Hst
                    go_wp2
                    go_roundw
                    case rel => exact ⟨k + 1, ao, cap, hlt, by go_num, by rw [Hst2.out], by rw [Hst2.out]; exact Hoi.out, HBo2.out⟩
                    case measure => simp [intOf]; omega
            · have hI : ¬ (k : Int) < (L.length : Int) := by omega
              rw [List.take_of_length_le (by omega)] at Ho ⊢
              rw [← HT.out] at Ho ⊢
              clear hLo
              by_cases hz : T.length = 0
              · have hE := HE2.out
                rw [if_pos hz] at hE
                have hO := HO.out
                rw [hE, if_neg (by decide)] at hO
                have HE3 := hid hE; have HO3 := hid hO
                have b3 : ((T.length : Int) == 0) = true := by simpa using hz
                clear hE hO hz
                go_wp2
                go_ret2
                exact ⟨none, 0, by rw [HE3.out, HO3.out]; rfl, by rw [HO3.out]; exact .inl rfl, bstep HB0.out (bstep HB2.out HB.out)⟩
              · have hE := HE2.out
                rw [if_neg hz] at hE
                have hO := HO.out
                rw [if_pos hE] at hO
                have HE3 := hid hE; have HO3 := hid hO
                have b3 : ((T.length : Int) == 0) = false := by rw [beq_eq_false_iff_ne]; omega
                clear hE hO hz
                go_wp2
                go_ret2
                exact ⟨ao, cap, by rw [HE3.out, HO3.out]; rfl, by rw [HO3.out]; exact Ho.out.at, bstep HB0.out (bstep HB2.out HB.out)⟩
    · have b1 : ((rs.length : Int) != (ps.length : Int)) = true := by simp; omega
      rw [if_neg hn] at hE
      rw [hE, if_neg (by decide)] at hO
      have HE := hid hE; have HO := hid hO
      clear hE hO hok hwok
      go_enter Try.func33, Try.ntmps33
      go_upto_region 1 with (fail)
      rw [← HV.out]
      go_wp2_with fail
      refine (H1.out _ HV0.out).mono ?_
      rintro e w1 ⟨rfl, hB⟩
      have HB1 := hid (bstep HV0.out hB)
      have k0 := cstep k0 hB
      have k1 := cstep k1 hB
      clear hB
      go_wp2
      go_ret2
      exact ⟨none, 0, by rw [HE.out, HO.out]; rfl, by rw [HO.out]; exact .inl rfl, bstep HB0.out HB1.out⟩
  · rw [if_neg h0] at hE
    rw [hE, if_neg h0] at hO
    have HE := hid hE; have HO := hid hO
    have b1 : (E != 0) = true := by simpa using h0
    clear hE hO
    go_enter Try.func33, Try.ntmps33
    go_upto_region 1 with (fail)
    rw [← HV.out]
    go_wp2_with fail
    refine (H1.out _ HV0.out).mono ?_
    rintro e w1 ⟨rfl, hB⟩
    have HB1 := hid (bstep HV0.out hB)
    have k0 := cstep k0 hB
    have k1 := cstep k1 hB
    clear hB
    go_wp2_with fail
    refine (H1.out _ HB1.out).mono ?_
    rintro e w2 ⟨rfl, hB⟩
    have HB2 := hid (bstep HB1.out hB)
    clear hB
    go_wp2
    go_ret2
    exact ⟨none, 0, by rw [HE.out, HO.out]; rfl, by rw [HO.out]; exact .inl rfl, bstep HB0.out HB2.out⟩
end

end Go.Proofs.Ytelgbjfgmpkepaa

namespace Go.Proofs.Ytelgbjfgmpkepaa
open Go.RowKit Go.Shelf

/-- the least number w so that 3 to the power of w is at least n (of n up to 27) -/
def boundN (n : Nat) : Nat := if n ≤ 1 then 0 else if n ≤ 3 then 1 else if n ≤ 9 then 2 else 3
theorem boundN_lt {n k : Nat} (hn : n ≤ 27) (hk : k ≤ boundN n) : (3 ^ k < n ↔ k < boundN n) ∧ k ≤ 3 := by
  unfold boundN at hk ⊢
  have h3 : k = 0 ∨ k = 1 ∨ k = 2 ∨ k = 3 := by
    by_cases a : n ≤ 1
    · rw [if_pos a] at hk; omega
    · rw [if_neg a] at hk
      by_cases b : n ≤ 3
      · rw [if_pos b] at hk; omega
      · rw [if_neg b] at hk
        by_cases c : n ≤ 9
        · rw [if_pos c] at hk; omega
        · rw [if_neg c] at hk; omega
  refine ⟨?_, by omega⟩
  by_cases a : n ≤ 1
  · simp only [if_pos a] at hk ⊢
    rcases h3 with rfl | rfl | rfl | rfl <;> simp <;> omega
  · simp only [if_neg a] at hk ⊢
    by_cases b : n ≤ 3
    · simp only [if_pos b] at hk ⊢
      rcases h3 with rfl | rfl | rfl | rfl <;> simp <;> omega
    · simp only [if_neg b] at hk ⊢
      by_cases c : n ≤ 9
      · simp only [if_pos c] at hk ⊢
        rcases h3 with rfl | rfl | rfl | rfl <;> simp <;> omega
      · simp only [if_neg c] at hk ⊢
        rcases h3 with rfl | rfl | rfl | rfl <;> simp <;> omega
theorem pow3_int {k : Nat} (hk : k ≤ 3) : ((3 ^ k : Nat) : Int) ≤ 27 ∧ 3 * ((3 ^ k : Nat) : Int) = ((3 ^ (k + 1) : Nat) : Int) ∧ ((3 ^ k : Nat) : Int) * 3 = ((3 ^ (k + 1) : Nat) : Int) ∧ 0 ≤ ((3 ^ k : Nat) : Int) := by
  rcases (show k = 0 ∨ k = 1 ∨ k = 2 ∨ k = 3 by omega) with rfl | rfl | rfl | rfl <;> decide
theorem boundOf_c (n : Nat) (w : World) (hn : n ≤ 27) : Calls Try.prog 53 #[.int .i64 (n : Int)] w (TellI w (boundN n : Nat)) := by
  have Hn := hid hn
  have Hb := hid fun k (hk : k ≤ boundN n) => boundN_lt hn hk
  unfold TellI
  obtain ⟨B, hB⟩ : ∃ B, B = boundN n := ⟨_, rfl⟩
  rw [← hB] at Hb ⊢
  clear hB hn
  go_enter Try.func53, Try.ntmps53
  go_wp2
  go_loopw [3, 4] (fun i a wr => ∃ k : Nat, k ≤ B ∧ i = .int .i64 (k : Int) ∧ a = .int .i64 ((3 ^ k : Nat) : Int) ∧ w = wr) (fun i _ _ => B - (intOf i).toNat)
  case atStart => exact ⟨0, Nat.zero_le _, rfl, rfl, rfl⟩
  case round =>
    obtain ⟨k, hk, rfl, rfl, rfl⟩ := hrel
    obtain ⟨hb, hk3⟩ := Hb.out k hk
    obtain ⟨p1, p2, p3, p4⟩ := pow3_int hk3
    have Hp2 := hid p2
    obtain ⟨a, ha⟩ : ∃ a, a = ((3 ^ k : Nat) : Int) := ⟨_, rfl⟩
    have e1 : IntKind.i64.wrap ((k : Int) + 1) = (k : Int) + 1 := wrap_i64_of (by omega) (by omega)
    rw [← ha] at p1 p4 Hp2 ⊢
    have e2 : IntKind.i64.wrap (3 * a) = 3 * a := wrap_i64_of (by omega) (by omega)
    by_cases hlt : k < B
    · have hI : a < (n : Int) := by have := hb.2 hlt; omega
      clear p2 p3 ha hb
      go_wp2
      go_roundw
      case rel => exact ⟨k + 1, hlt, by go_num, by rw [Hp2.out], trivial⟩
      case measure => simp [intOf]; omega
    · have hI : ¬ a < (n : Int) := fun h => hlt (hb.1 (by omega))
      obtain rfl : k = B := by omega
      clear p2 p3 ha hb
      go_wp2
      go_ret
      exact ⟨rfl, Below.refl _ _⟩
/-- the bound, of any knowledge -/
def bdVal (K : Kn) : Int := if knErr K = 0 then ((boundN (casesOf K).length : Nat) : Int) else 0
section
variable (ka : Option Addr) (kc : Nat) (K : Kn) (w : World)
/-- open, without weighings -/
theorem open0 (hk : KnAt w ka K) (hlk : K.cop.length ≤ 1000000) : Calls Try.prog 60 #[.agg #[.slice ka K.cop.length kc, .bool K.none], .slice none 0 0] w (OpenC w ka kc K (knErr K)) := by
  have h := open_c ka kc K none 0 [] w hk hlk (RowsAt.nil _ _) (by simp) (by intro p hp; cases hp)
  have e : oErr K [] = knErr K := by
    unfold oErr psErr
    by_cases h : knErr K = 0
    · rw [if_pos h, h]
    · rw [if_neg h]
  rw [e] at h
  exact h
set_option maxRecDepth 100000 in
set_option maxHeartbeats 2000000 in
theorem bound_36 (hk : KnAt w ka K) (hlk : K.cop.length ≤ 1000000) : Calls Try.prog 36 #[.agg #[.slice ka K.cop.length kc, .bool K.none]] w (TellIE w (bdVal K) (knErr K)) := by
  obtain ⟨V, hV, hB0, k0, k1⟩ := box1 w (.slice ka K.cop.length kc) (.bool K.none) 24
  have hkV := hk.mono hB0
  have HB0 := hid hB0; have HV := hid hV; have HV0 := hid (Below.refl V.heap.size V)
  have K0 := hid k0; have K1 := hid k1
  have H1 := hid fun (w' : World) (h : Below V.heap.size V w') => open0 ka kc K w' (hkV.mono h) hlk
  have hO : bdVal K = if knErr K = 0 then ((boundN (casesOf K).length : Nat) : Int) else 0 := rfl
  have Hok := hid (kok_iff (K := K))
  obtain ⟨O, hOO⟩ : ∃ O, O = bdVal K := ⟨_, rfl⟩
  rw [← hOO] at hO ⊢
  obtain ⟨E, hE1⟩ : ∃ E, E = knErr K := ⟨_, rfl⟩
  rw [← hE1] at H1 hO Hok ⊢
  obtain ⟨nn, hnn⟩ : ∃ b, b = K.none := ⟨_, rfl⟩
  rw [← hnn] at k1 K1 HV H1 ⊢
  clear hnn hOO hE1 hk hV hB0 hkV hlk
  by_cases h0 : E = 0
  · have hok := Hok.out.1 h0
    have hn12 := hok.n12
    rw [if_pos h0] at hO
    have hlen : (casesOf K).length ≤ 27 := by have := casesOf_len K; omega
    have H3 := hid fun (g : Nat) (mv : Value) (w' : World) (hb : BalAt w' g ka kc K mv) => cases_c g ka kc K mv w' hb (by omega) hok.cop
    unfold ListC at H3
    have Hb := hid fun k (hk : k ≤ boundN (casesOf K).length) => boundN_lt hlen hk
    obtain ⟨L, hL⟩ : ∃ L, L = casesOf K := ⟨_, rfl⟩
    rw [← hL] at H3 Hb hO
    obtain ⟨B, hB⟩ : ∃ B, B = boundN L.length := ⟨_, rfl⟩
    rw [← hB] at Hb hO
    have HO := hid hO
    subst h0
    clear hB hO hL hok hn12 hlen
    go_enter Try.func36, Try.ntmps36
    go_upto_region 1 with (fail)
    rw [← HV.out]
    go_wp2_with fail
    refine (H1.out _ HV0.out).mono ?_
    rintro e w1 h
    obtain ⟨g, m, rfl, _, _, _, hbal, _, hB⟩ := h.ok rfl
    have HB1 := hid hB; have HBal := hid hbal
    clear h hB hbal
    go_wp2
    go_loopw [6, 7] (fun i a wr => ∃ k : Nat, k ≤ B ∧ i = .int .i64 (k : Int) ∧ a = .int .i64 ((3 ^ k : Nat) : Int) ∧ Below w1.heap.size w1 wr) (fun i _ _ => B - (intOf i).toNat)
    case atStart => exact ⟨0, Nat.zero_le _, rfl, rfl, Below.refl _ _⟩
    case round =>
      obtain ⟨k, hk, rfl, rfl, hB⟩ := hrel
      obtain ⟨wo, rfl⟩ : ∃ wo : World, wo = wr := ⟨_, rfl⟩
      have HB := hid hB
      have HBo := hid (HBal.out.mono hB)
      obtain ⟨hb, hk3⟩ := Hb.out k hk
      obtain ⟨p1, p2, p3, p4⟩ := pow3_int hk3
      have Hp3 := hid p3
      obtain ⟨a, ha⟩ : ∃ a, a = ((3 ^ k : Nat) : Int) := ⟨_, rfl⟩
      have e1 : IntKind.i64.wrap ((k : Int) + 1) = (k : Int) + 1 := wrap_i64_of (by omega) (by omega)
      rw [← ha] at p1 p4 Hp3 ⊢
      have e2 : IntKind.i64.wrap (a * 3) = a * 3 := wrap_i64_of (by omega) (by omega)
      have hI1 : k < B → a < (L.length : Int) := fun h => by have := hb.2 h; omega
      have hI2 : ¬ k < B → ¬ a < (L.length : Int) := fun h h2 => h (hb.1 (by omega))
      have HI1 := hid hI1; have HI2 := hid hI2
      clear p2 p3 ha hb hB hI1 hI2
      go_wp2_with fail
      refine (H3.out g _ wo HBo.out).mono ?_
      rintro e w2 ⟨la, lc, rfl, _, _, hB⟩
      have HB2 := hid (bstep HB.out hB)
      clear hB
      by_cases hlt : k < B
      · have hI := HI1.out hlt
        go_wp2
        go_roundw
        case rel => exact ⟨k + 1, hlt, by go_num, by rw [Hp3.out], HB2.out⟩
        case measure => simp [intOf]; omega
      · have hI := HI2.out hlt
        obtain rfl : k = B := by omega
        go_wp2
        go_ret2
        exact ⟨by rw [HO.out]; rfl, bstep HB0.out (bstep HB1.out HB2.out)⟩
  · rw [if_neg h0] at hO
    have HO := hid hO
    have H0 := hid h0
    have b1 : (E != 0) = true := by simpa using h0
    clear hO
    go_enter Try.func36, Try.ntmps36
    go_upto_region 1 with (fail)
    rw [← HV.out]
    go_wp2_with fail
    refine (H1.out _ HV0.out).mono ?_
    rintro e w1 h
    obtain ⟨rfl, hB⟩ := h.err H0.out
    have HB1 := hid hB
    clear h hB
    go_wp2
    go_ret2
    exact ⟨by rw [HO.out]; rfl, bstep HB0.out HB1.out⟩
set_option maxRecDepth 100000 in
set_option maxHeartbeats 2000000 in
theorem rBound_37 (hk : KnAt w ka K) (hlk : K.cop.length ≤ 1000000) : Calls Try.prog 37 #[.agg #[.slice ka K.cop.length kc, .bool K.none]] w (TellIE w (bdVal K) (knErr K)) := by
  obtain ⟨V, hV, hB0, k0, k1⟩ := box1 w (.slice ka K.cop.length kc) (.bool K.none) 24
  have hkV := hk.mono hB0
  have HB0 := hid hB0; have HV := hid hV; have HV0 := hid (Below.refl V.heap.size V)
  have K0 := hid k0; have K1 := hid k1
  have H1 := hid fun (w' : World) (h : Below V.heap.size V w') => rCheckKnown_c ka kc K w' (hkV.mono h) hlk
  have HkV := hid hkV
  have hO : bdVal K = if knErr K = 0 then ((boundN (casesOf K).length : Nat) : Int) else 0 := rfl
  have Hok := hid (kok_iff (K := K))
  unfold TellI at H1
  obtain ⟨O, hOO⟩ : ∃ O, O = bdVal K := ⟨_, rfl⟩
  rw [← hOO] at hO ⊢
  obtain ⟨E, hE1⟩ : ∃ E, E = knErr K := ⟨_, rfl⟩
  rw [← hE1] at H1 hO Hok ⊢
  obtain ⟨nn, hnn⟩ : ∃ b, b = K.none := ⟨_, rfl⟩
  rw [← hnn] at k1 K1 HV H1 ⊢
  have Hnn := hid hnn
  clear hnn hOO hE1 hk hV hB0 hkV hlk
  by_cases h0 : E = 0
  · have hok := Hok.out.1 h0
    have hn12 := hok.n12
    rw [if_pos h0] at hO
    have hlen : (casesOf K).length ≤ 27 := by have := casesOf_len K; omega
    have H3 := hid fun (w' : World) (h : Below V.heap.size V w') => casesOf_c ka kc K w' (HkV.out.mono h) (by omega) hok.cop
    rw [← Hnn.out] at H3
    unfold ListC at H3
    obtain ⟨L, hL⟩ : ∃ L, L = casesOf K := ⟨_, rfl⟩
    rw [← hL] at H3 hO hlen
    have H4 := hid fun (w' : World) => boundOf_c L.length w' hlen
    unfold TellI at H4
    have HO := hid hO
    subst h0
    clear hO hL hok hn12 hlen
    go_enter Try.func37, Try.ntmps37
    go_upto_region 1 with (fail)
    rw [← HV.out]
    go_wp2_with fail
    refine (H1.out _ HV0.out).mono ?_
    rintro e w1 ⟨rfl, hB⟩
    have HB1 := hid (bstep HV0.out hB)
    have k0 := cstep k0 hB
    have k1 := cstep k1 hB
    clear hB
    go_wp2_with fail
    refine (H3.out _ HB1.out).mono ?_
    rintro e w2 ⟨la, lc, rfl, _, _, hB⟩
    have HB2 := hid (bstep HB1.out hB)
    clear hB
    go_wp2_with fail
    refine (H4.out w2).mono ?_
    rintro e w3 ⟨rfl, hB⟩
    have HB3 := hid (bstep HB2.out hB)
    clear hB
    go_wp2
    go_ret2
    exact ⟨by rw [HO.out]; rfl, bstep HB0.out HB3.out⟩
  · rw [if_neg h0] at hO
    have HO := hid hO
    have b1 : (E != 0) = true := by simpa using h0
    clear hO
    go_enter Try.func37, Try.ntmps37
    go_upto_region 1 with (fail)
    rw [← HV.out]
    go_wp2_with fail
    refine (H1.out _ HV0.out).mono ?_
    rintro e w1 ⟨rfl, hB⟩
    have HB1 := hid (bstep HV0.out hB)
    have k0 := cstep k0 hB
    have k1 := cstep k1 hB
    clear hB
    go_wp2_with fail
    refine (H1.out _ HB1.out).mono ?_
    rintro e w2 ⟨rfl, hB⟩
    have HB2 := hid (bstep HB1.out hB)
    clear hB
    go_wp2
    go_ret2
    exact ⟨by rw [HO.out]; rfl, bstep HB0.out HB2.out⟩
end

end Go.Proofs.Ytelgbjfgmpkepaa

namespace Go.Proofs.Ytelgbjfgmpkepaa
open Go.RowKit Go.Shelf

def csVal (K : Kn) : List (Int × Int) := if knErr K = 0 then casesOf K else []
section
variable (ka : Option Addr) (kc : Nat) (K : Kn) (w : World)
set_option maxRecDepth 100000 in
set_option maxHeartbeats 2000000 in
theorem cases_17 (hk : KnAt w ka K) (hlk : K.cop.length ≤ 1000000) : Calls Try.prog 17 #[.agg #[.slice ka K.cop.length kc, .bool K.none]] w (TdC w (csVal K) (knErr K)) := by
  obtain ⟨V, hV, hB0, k0, k1⟩ := box1 w (.slice ka K.cop.length kc) (.bool K.none) 24
  have hkV := hk.mono hB0
  have HB0 := hid hB0; have HV := hid hV; have HV0 := hid (Below.refl V.heap.size V)
  have K0 := hid k0; have K1 := hid k1
  have H1 := hid fun (w' : World) (h : Below V.heap.size V w') => open0 ka kc K w' (hkV.mono h) hlk
  have hO : csVal K = if knErr K = 0 then casesOf K else [] := rfl
  have Hok := hid (kok_iff (K := K))
  obtain ⟨O, hOO⟩ : ∃ O, O = csVal K := ⟨_, rfl⟩
  rw [← hOO] at hO ⊢
  obtain ⟨E, hE1⟩ : ∃ E, E = knErr K := ⟨_, rfl⟩
  rw [← hE1] at H1 hO Hok ⊢
  obtain ⟨nn, hnn⟩ : ∃ b, b = K.none := ⟨_, rfl⟩
  rw [← hnn] at k1 K1 HV H1 ⊢
  clear hnn hOO hE1 hk hV hB0 hkV hlk
  by_cases h0 : E = 0
  · have hok := Hok.out.1 h0
    have hn12 := hok.n12
    rw [if_pos h0] at hO
    have H3 := hid fun (g : Nat) (mv : Value) (w' : World) (hb : BalAt w' g ka kc K mv) => cases_c g ka kc K mv w' hb (by omega) hok.cop
    unfold ListC at H3
    rw [← hO] at H3
    subst h0
    clear hO hok hn12
    go_enter Try.func17, Try.ntmps17
    go_upto_region 1 with (fail)
    rw [← HV.out]
    go_wp2_with fail
    refine (H1.out _ HV0.out).mono ?_
    rintro e w1 h
    obtain ⟨g, m, rfl, _, _, _, hbal, _, hB⟩ := h.ok rfl
    have HB1 := hid hB; have HBal := hid hbal
    clear h hB hbal
    go_wp2_with fail
    refine (H3.out g _ w1 HBal.out).mono ?_
    rintro e w2 ⟨la, lc, rfl, hL, _, hB⟩
    have HB2 := hid (bstep HB1.out hB); have HL := hid hL
    clear hB hL
    go_wp2
    go_ret2
    exact ⟨la, lc, rfl, HL.out, bstep HB0.out HB2.out⟩
  · rw [if_neg h0] at hO
    have HO := hid hO
    have H0 := hid h0
    have b1 : (E != 0) = true := by simpa using h0
    clear hO
    go_enter Try.func17, Try.ntmps17
    go_upto_region 1 with (fail)
    rw [← HV.out]
    go_wp2_with fail
    refine (H1.out _ HV0.out).mono ?_
    rintro e w1 h
    obtain ⟨rfl, hB⟩ := h.err H0.out
    have HB1 := hid hB
    clear h hB
    go_wp2
    go_ret2
    exact ⟨none, 0, by rw [HO.out]; rfl, by rw [HO.out]; exact .inl rfl, bstep HB0.out HB1.out⟩
set_option maxRecDepth 100000 in
set_option maxHeartbeats 2000000 in
theorem rCases_18 (hk : KnAt w ka K) (hlk : K.cop.length ≤ 1000000) : Calls Try.prog 18 #[.agg #[.slice ka K.cop.length kc, .bool K.none]] w (TdC w (csVal K) (knErr K)) := by
  obtain ⟨V, hV, hB0, k0, k1⟩ := box1 w (.slice ka K.cop.length kc) (.bool K.none) 24
  have hkV := hk.mono hB0
  have HB0 := hid hB0; have HV := hid hV; have HV0 := hid (Below.refl V.heap.size V)
  have K0 := hid k0; have K1 := hid k1
  have H1 := hid fun (w' : World) (h : Below V.heap.size V w') => rCheckKnown_c ka kc K w' (hkV.mono h) hlk
  have HkV := hid hkV
  have hO : csVal K = if knErr K = 0 then casesOf K else [] := rfl
  have Hok := hid (kok_iff (K := K))
  unfold TellI at H1
  obtain ⟨O, hOO⟩ : ∃ O, O = csVal K := ⟨_, rfl⟩
  rw [← hOO] at hO ⊢
  obtain ⟨E, hE1⟩ : ∃ E, E = knErr K := ⟨_, rfl⟩
  rw [← hE1] at H1 hO Hok ⊢
  obtain ⟨nn, hnn⟩ : ∃ b, b = K.none := ⟨_, rfl⟩
  rw [← hnn] at k1 K1 HV H1 ⊢
  have Hnn := hid hnn
  clear hnn hOO hE1 hk hV hB0 hkV hlk
  by_cases h0 : E = 0
  · have hok := Hok.out.1 h0
    have hn12 := hok.n12
    rw [if_pos h0] at hO
    have H3 := hid fun (w' : World) (h : Below V.heap.size V w') => casesOf_c ka kc K w' (HkV.out.mono h) (by omega) hok.cop
    rw [← Hnn.out] at H3
    unfold ListC at H3
    rw [← hO] at H3
    subst h0
    clear hO hok hn12
    go_enter Try.func18, Try.ntmps18
    go_upto_region 1 with (fail)
    rw [← HV.out]
    go_wp2_with fail
    refine (H1.out _ HV0.out).mono ?_
    rintro e w1 ⟨rfl, hB⟩
    have HB1 := hid (bstep HV0.out hB)
    have k0 := cstep k0 hB
    have k1 := cstep k1 hB
    clear hB
    go_wp2_with fail
    refine (H3.out _ HB1.out).mono ?_
    rintro e w2 ⟨la, lc, rfl, hL, _, hB⟩
    have HB2 := hid (bstep HB1.out hB)
    clear hB
    have HL := hid hL
    clear hL
    go_wp2
    go_ret2
    exact ⟨la, lc, rfl, HL.out, bstep HB0.out HB2.out⟩
  · rw [if_neg h0] at hO
    have HO := hid hO
    have b1 : (E != 0) = true := by simpa using h0
    clear hO
    go_enter Try.func18, Try.ntmps18
    go_upto_region 1 with (fail)
    rw [← HV.out]
    go_wp2_with fail
    refine (H1.out _ HV0.out).mono ?_
    rintro e w1 ⟨rfl, hB⟩
    have HB1 := hid (bstep HV0.out hB)
    have k0 := cstep k0 hB
    have k1 := cstep k1 hB
    clear hB
    go_wp2_with fail
    refine (H1.out _ HB1.out).mono ?_
    rintro e w2 ⟨rfl, hB⟩
    have HB2 := hid (bstep HB1.out hB)
    clear hB
    go_wp2
    go_ret2
    exact ⟨none, 0, by rw [HO.out]; rfl, by rw [HO.out]; exact .inl rfl, bstep HB0.out HB2.out⟩
end

end Go.Proofs.Ytelgbjfgmpkepaa
