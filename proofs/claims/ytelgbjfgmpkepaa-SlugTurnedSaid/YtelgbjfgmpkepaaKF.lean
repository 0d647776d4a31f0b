/- Blocks of ints that are changed in place. Walks: learned. Walks: learned. Walks: With, Left. Walks: Left. Walks: Learned, of the program and of the reference. Walks: Learned, of the reference. -/
import Derived.Test.YtelgbjfgmpkepaaKE
namespace Go.Proofs.Ytelgbjfgmpkepaa
open Go.RowKit Go.Shelf

/-- a block of ints, known whole -/
def BI (w : World) (b : Nat) (xs : List Int) : Prop := w.heap[b]? = some (.cells (intv xs).toArray 3 (0, 0))
theorem BI.lt {w : World} {b : Nat} {xs : List Int} (h : BI w b xs) : b < w.heap.size := (Array.getElem?_eq_some_iff.1 h).1
theorem BI.mono {w w' : World} {b : Nat} {xs : List Int} (h : BI w b xs) (hB : Below w.heap.size w w') : BI w' b xs := (hB.block b h.lt).trans h
theorem BI.same {w w' : World} {b : Nat} {xs : List Int} (h : BI w b xs) (e : w'.heap[b]? = w.heap[b]?) : BI w' b xs := e.trans h
theorem BI.cell {w : World} {b : Nat} {xs : List Int} (h : BI w b xs) {k : Nat} (hk : k < xs.length) : w.cell? ⟨b, k, none⟩ = some (.int .i64 (nth xs k)) := by
  rw [cell_of_row _ _ _ _ _ _ h]
  have := intv_get xs k
  rw [if_pos hk] at this
  simpa using this
theorem BI.frozen {w : World} {b : Nat} {xs : List Int} (h : BI w b xs) (k : Nat) : w.frozen? ⟨b, k, none⟩ = false := frozen_of_row w _ k _ _ h
theorem BI.ints {w : World} {b : Nat} {xs : List Int} (h : BI w b xs) : IntsAt w (some ⟨b, 0, none⟩) xs :=
  IntsAt.of_heap h (fun j hj => by have := intv_get xs j; rw [if_pos hj] at this; simpa using this)
theorem BI.set {w : World} {b : Nat} {xs : List Int} (h : BI w b xs) (k : Nat) (v : Int) : BI (w.setCell ⟨b, k, none⟩ (.int .i64 v)) b (xs.set k v) := by
  have := heap_setCell_same w b k _ 3 (.int .i64 v) h
  refine this.trans ?_
  congr 2
  simp [intv, List.map_set]
theorem BI.other {w : World} {b : Nat} {xs : List Int} (h : BI w b xs) {r : Nat} (hr : b ≠ r) (k : Nat) (v : Value) : BI (w.setCell ⟨r, k, none⟩ v) b xs :=
  (Below.heap_setCell _ _ _ _ (fun e => hr e)).trans h
theorem bi_new (w : World) (xs : List Int) : BI (w.alloc (.cells (intv xs).toArray 3)) w.heap.size xs := heap_alloc_new _ _

theorem zeroCells_ints (n : Nat) : Builtin.zeroCells #[.int .i64 0] n = (intv (List.replicate n 0)).toArray := by
  rw [← madeInts]
  unfold Builtin.zeroCells madeCells
  simp

/-- clear over a part of a block that is known whole -/
theorem wpList_clear_ints {ops : Array Oper} {rest : List Oper} {o : Oper} {a : Act} {Q : Exit → Act → World → Prop} {ct e : TypeId} (E : ET ct e (.int .i64 0) 1 8) (w : World) (hgd : o.guard = none) (x : Operand)
    (hop : o.op = Op.call { callee := Callee.builtin Builtin.clear, args := #[x], argTypes := #[ct] })
    (g off n c : Nat) (hx : a.eval x = .slice (some ⟨g, off, none⟩) n c) (t : TypeId) (cs : List Value) (hg : w.heap[g]? = some (.cells cs.toArray t (0, 0))) (hn : off + n ≤ cs.length)
    (h : ∀ w', w'.heap[g]? = some (.cells (cs.take off ++ (intv (List.replicate n 0) ++ cs.drop (off + n))).toArray t (0, 0)) → Only (fun b => b = g) w w' → wpList Try.prog ops Q rest (a.put o.dst (.tuple #[])) w') :
    wpList Try.prog ops Q (o :: rest) a w := by
  refine wpList_plain hgd fun K hK => ?_
  obtain ⟨i, hi, hz, _, _⟩ := info_parts E.hi
  unfold Oper.wp
  rcases Nat.eq_zero_or_pos n with rfl | hp
  · simp [execOp, hop, resolve, invoke, builtin, hx, Builtin.clear_, run_underlying E.hu, Result.andThen]
    exact hK _ _ (h w (by simpa [intv] using hg) (Only.refl _ _))
  · obtain ⟨m, rfl⟩ : ∃ m, n = m + 1 := ⟨n - 1, by omega⟩
    have hst := run_storeCells_at (P := Try.prog) g off t (intv (List.replicate (m + 1) 0)) 0 cs.toArray w hg (by simp [intv]; omega) (intv_one _)
    simp only [Nat.add_zero, intv_length, List.length_replicate] at hst
    have hzc : (Builtin.zeroCells (Value.int IntKind.i64 0).cells (m + 1)).toList = intv (List.replicate (m + 1) 0) := by
      show (Builtin.zeroCells #[.int .i64 0] (m + 1)).toList = _
      rw [zeroCells_ints]
    simp [execOp, hop, resolve, invoke, builtin, hx, Builtin.clear_, run_underlying E.hu, zeroValue, typeInfo, hi, hz, hzc, hst, Result.andThen]
    exact hK _ _ (h _ (by rw [setRow_heap hg]) (setRow_only _ _))

theorem load24 {w : World} {g : Nat} {x y : Value} (h : V2At w g 24 x y) : (loadVar 24 ⟨g, 0, none⟩).run Try.prog w = .ok (.agg #[x, y]) w :=
  run_loadVar_row (P := Try.prog) w g 24 24 #[x, y] (0, 0) _ h Try.underlying24 rfl (by kernel_rfl)
theorem load34 {w : World} {g : Nat} {x y : Value} (h : V2At w g 34 x y) : (loadVar 34 ⟨g, 0, none⟩).run Try.prog w = .ok (.agg #[x, y]) w :=
  run_loadVar_row (P := Try.prog) w g 34 34 #[x, y] (0, 0) _ h Try.underlying34 rfl (by kernel_rfl)
theorem results_c1 {fn : Func} {p : Tmp} {ty : TypeId} (h : fn.results = #[.cell p ty]) (tmps : Array Value) (P : Program) (w : World) :
    (results fn tmps).run P w = ((asAddr (tmps.getD p undef)).run P w).andThen fun a w₁ => (loadVar ty a).run P w₁ := by
  simp only [results, h]
  simp [Sem.run_bind, Result.andThen]
theorem results_ct {fn : Func} {p u : Tmp} {ty : TypeId} (h : fn.results = #[.cell p ty, .tmp u]) (tmps : Array Value) (P : Program) (w : World) :
    (results fn tmps).run P w = ((asAddr (tmps.getD p undef)).run P w).andThen fun a w₁ => ((loadVar ty a).run P w₁).andThen fun v w₂ => .ok (.tuple #[v, tmps.getD u undef]) w₂ := by
  simp only [results, h]
  simp [Sem.run_bind, Result.andThen]
theorem results_cct {fn : Func} {p r u : Tmp} {ty : TypeId} (h : fn.results = #[.cell p ty, .cell r ty, .tmp u]) (tmps : Array Value) (P : Program) (w : World) :
    (results fn tmps).run P w = ((asAddr (tmps.getD p undef)).run P w).andThen fun a w₁ => ((loadVar ty a).run P w₁).andThen fun v w₂ =>
      ((asAddr (tmps.getD r undef)).run P w₂).andThen fun b w₃ => ((loadVar ty b).run P w₃).andThen fun x w₄ => .ok (.tuple #[v, x, tmps.getD u undef]) w₄ := by
  simp only [results, h]
  simp [Sem.run_bind, Result.andThen]
theorem results_c24 {fn : Func} {p : Tmp} (h : fn.results = #[.cell p 24]) (tmps : Array Value) (w : World) (g : Nat) (x y : Value) (hp : tmps.getD p undef = .pointer (some ⟨g, 0, none⟩)) (hg : V2At w g 24 x y) :
    (results fn tmps).run Try.prog w = .ok (.agg #[x, y]) w := by
  rw [results_c1 h, hp]
  simp [asAddr, load24 hg, Result.andThen]
theorem results_c24t {fn : Func} {p u : Tmp} (h : fn.results = #[.cell p 24, .tmp u]) (tmps : Array Value) (w : World) (g : Nat) (x y : Value) (hp : tmps.getD p undef = .pointer (some ⟨g, 0, none⟩)) (hg : V2At w g 24 x y) :
    (results fn tmps).run Try.prog w = .ok (.tuple #[.agg #[x, y], tmps.getD u undef]) w := by
  rw [results_ct h, hp]
  simp [asAddr, load24 hg, Result.andThen]
theorem results_cc34t {fn : Func} {p r u : Tmp} (h : fn.results = #[.cell p 34, .cell r 34, .tmp u]) (tmps : Array Value) (w : World) (g g2 : Nat) (x y x2 y2 : Value) (hp : tmps.getD p undef = .pointer (some ⟨g, 0, none⟩)) (hr : tmps.getD r undef = .pointer (some ⟨g2, 0, none⟩)) (hg : V2At w g 34 x y) (hg2 : V2At w g2 34 x2 y2) :
    (results fn tmps).run Try.prog w = .ok (.tuple #[.agg #[x, y], .agg #[x2, y2], tmps.getD u undef]) w := by
  rw [results_cct h, hp, hr]
  simp [asAddr, load34 hg, load34 hg2, Result.andThen]

end Go.Proofs.Ytelgbjfgmpkepaa

namespace Go.Proofs.Ytelgbjfgmpkepaa
open Go.RowKit Go.Shelf

/-- a call that hands back what is known -/
def KnC (w : World) (K : Kn) (e : Ending) (w' : World) : Prop := ∃ b, e = .returned (.agg #[.slice (some ⟨b, 0, none⟩) K.cop.length K.cop.length, .bool K.none]) ∧ KnAt w' (some ⟨b, 0, none⟩) K ∧ w.heap.size ≤ b ∧ Below w.heap.size w w'
theorem leftK_nil (n : Nat) : (leftK n []).cop = List.replicate n 0 ∧ (leftK n []).none = false := by
  refine ⟨ext_nth (by rw [leftK_len, List.length_replicate]) fun j hj => ?_, by simp [leftK]⟩
  rw [leftK_len] at hj
  rw [leftK_nth hj, nth_eq (by rw [List.length_replicate]; exact hj)]
  simp [bitAt]
/-- result, its box by a name: a new block -/
def FuncD (a : Option Addr) (n cap : Nat) (w : World) (e : Ending) (w' : World) : Prop :=
  ∃ p, e = .returned (.func (.func 85) #[] #[.pointer (some ⟨p, 0, none⟩)]) ∧ w'.cell? ⟨p, 0, none⟩ = some (.slice a n cap) ∧ w.heap.size ≤ p ∧ Below w.heap.size w w'
theorem resultD_c (a : Option Addr) (n cap : Nat) (w : World) : Calls Try.prog 64 #[.slice a n cap] w (FuncD a n cap w) :=
  (result_c a n cap w).mono fun e w' ⟨h1, h2⟩ => ⟨w.heap.size, h1, by rw [h2]; simp, Nat.le_refl _, by rw [h2]; exact bnew _ _⟩
theorem PlumbsAt.only {S : Nat → Prop} {w w' : World} {a : Option Addr} {ls : List (Int × Int)} (h : PlumbsAt w a ls) (hO : Only S w w') (hS : ∀ b off, a = some ⟨b, off, none⟩ → ¬ S b) : PlumbsAt w' a ls := by
  rcases h with rfl | ⟨b, off, rfl, h⟩
  · exact .inl rfl
  · exact .inr ⟨b, off, rfl, fun j hj => ⟨hO.cell (h j hj).1 (hS b off rfl), hO.cell (h j hj).2 (hS b off rfl)⟩⟩
theorem IntsAt.only {S : Nat → Prop} {w w' : World} {a : Option Addr} {xs : List Int} (h : IntsAt w a xs) (hO : Only S w w') (hS : ∀ b off, a = some ⟨b, off, none⟩ → ¬ S b) : IntsAt w' a xs := by
  rcases h with rfl | ⟨b, off, rfl, h⟩
  · exact .inl rfl
  · exact .inr ⟨b, off, rfl, fun j hj => hO.cell (h j hj) (hS b off rfl)⟩
/-- what is known, while it is laid: the list b, the box o -/
structure LayAt (w : World) (b o n : Nat) (C : Kn) : Prop where
  bi : BI w b C.cop
  v2 : V2At w o 24 (.slice (some ⟨b, 0, none⟩) n n) (.bool C.none)
theorem LayAt.mono {w w' : World} {b o n : Nat} {C : Kn} (h : LayAt w b o n C) (hB : Below w.heap.size w w') : LayAt w' b o n C := ⟨h.bi.mono hB, h.v2.mono hB⟩
section
variable (g : Nat) (ka : Option Addr) (kc : Nat) (K : Kn) (mv : Value) (wa : Option Addr) (wc : Nat) (ws : List Int) (r : Int) (w : World)
set_option maxRecDepth 100000 in
set_option maxHeartbeats 4000000 in
theorem learned_c (hb : BalAt w g ka kc K mv) (hok : Kok K) (hw : IntsAt w wa ws) (hwok : WOk K.cop.length ws) : Calls Try.prog 66 #[.pointer (some ⟨g, 0, none⟩), .slice wa ws.length wc, .int .i64 r] w (KnC w (leftK K.cop.length (withL K ws r))) := by
  have hn12 := hok.n12
  have Hbw := hid hb; have HWw := hid hw
  obtain ⟨V, hV, hB0, _, _⟩ := box1 w (.slice none 0 0) (.bool false) 24
  have hr0 : V2At V w.heap.size 24 (.slice none 0 0) (.bool false) := by rw [hV]; exact heap_alloc_new _ _
  have hb := hb.mono hB0
  have hw := hw.mono hB0
  have hsz : V.heap.size = w.heap.size + 1 := by rw [hV]; simp
  have HV := hid hV; have HB0 := hid hB0; have Hr0 := hid hr0; have Hsz := hid hsz
  clear hV hB0 hr0 hsz
  have hm := run_make_ints et22 V K.cop.length K.cop.length (Nat.le_refl _) (by omega)
  have Hwok := hid hwok
  have Hok := hid hok
  have k0 := hb.c0
  have Hlen := hid (casesOf_len K)
  have Hcok := hid (casesOf_ok hok.cop)
  have Hnd := hid (casesOf_nodup K)
  have hWL : withL K ws r = (casesOf K).filter fun c => decide (resultOf ws c = r) := rfl
  rw [hWL]
  obtain ⟨L, hL⟩ : ∃ L, L = casesOf K := ⟨_, rfl⟩
  have HL := hid hL
  rw [← hL] at Hlen Hcok Hnd ⊢
  obtain ⟨n, hnn⟩ : ∃ n, n = K.cop.length := ⟨_, rfl⟩
  rw [← hnn] at k0 hn12 hm Hwok Hlen Hcok ⊢
  have Hnn := hid hnn
  obtain ⟨C, hC⟩ : ∃ C, C = leftK n (L.filter fun c => decide (resultOf ws c = r)) := ⟨_, rfl⟩
  have hKl : C.cop.length = n := by rw [hC]; exact leftK_len _ _
  rw [← hC]
  have HC := hid hC
  unfold KnC
  rw [hKl]
  clear hC hKl
  clear hb hok hw hwok hWL hL hnn
  go_enter Try.func66, Try.ntmps66
  go_upto_region 1 with (fail)
  rw [← HV.out]
  go_upto_region 2 with (fail)
  clear hm
  obtain ⟨b, hbb⟩ : ∃ b, b = V.heap.size := ⟨_, rfl⟩
  obtain ⟨X, hX⟩ : ∃ X, X = (V.alloc (.cells (intv (List.replicate n 0)).toArray 3)).alloc (.cells #[.slice (some ⟨V.heap.size, 0, none⟩) n n, .bool false] 24) := ⟨_, rfl⟩
  have hBX : Below V.heap.size V X := by rw [hX]; exact bstep (bnew _ _) (bnew _ _)
  have hbi : BI X V.heap.size (List.replicate n 0) := by rw [hX]; exact (bi_new V _).mono (bnew _ _)
  have ho : V2At X (V.heap.size + 1) 24 (.slice (some ⟨V.heap.size, 0, none⟩) n n) (.bool false) := by
    rw [hX]
    have := heap_alloc_new (V.alloc (.cells (intv (List.replicate n 0)).toArray 3)) (.cells #[.slice (some ⟨V.heap.size, 0, none⟩) n n, .bool false] 24)
    simpa [V2At] using this
  rw [← hX]
  rw [← hbb] at hbi ho ⊢
  have HBX := hid (bstep HB0.out hBX)
  have HrX := hid (Hr0.out.mono hBX)
  have Hbr := hid (show w.heap.size < b by rw [hbb, Hsz.out]; omega)
  have Hbs := hid (show b = V.heap.size from hbb)
  have o0 := ho.c0
  have Hbi := hid hbi; have Ho := hid ho
  clear hX hbb hBX hbi ho k0
  go_wp2_with (refine wpList_clear_ints et22 _ rfl _ rfl b 0 n n rfl 3 (intv (List.replicate n 0)) Hbi.out ?c1 ?c2; rotate_right; (intro w1 hh hO; refine Hid.out ?_))
  case c1 => simp [intv_length]
  refine hid ?_
  have hbi1 : BI w1 b (List.replicate n 0) := by
    have e : (intv (List.replicate n 0)).take 0 ++ (intv (List.replicate n 0) ++ (intv (List.replicate n 0)).drop (0 + n)) = intv (List.replicate n 0) := by
      rw [Nat.zero_add, List.drop_of_length_le (by simp [intv_length])]; simp
    rw [e] at hh
    exact hh
  have ho1 : V2At w1 (b + 1) 24 (.slice (some ⟨b, 0, none⟩) n n) (.bool false) := (hO.block _ Ho.out.lt (by omega)).trans Ho.out
  have hr1 : V2At w1 w.heap.size 24 (.slice none 0 0) (.bool false) := (hO.block _ HrX.out.lt (by have := Hbr.out; omega)).trans HrX.out
  have hB1 : Below w.heap.size w w1 := HBX.out.trans (hO.below HBX.out.size (fun k hk e => by have := Hbr.out; omega))
  have hBV1 : Below V.heap.size X w1 := hO.below (by have := Ho.out.lt; have := Hbs.out; omega) (fun k hk e => by have := Hbs.out; omega)
  have Hl1 := hid (show LayAt w1 b (b + 1) n (leftK n []) from ⟨by rw [(leftK_nil n).1]; exact hbi1, by rw [(leftK_nil n).2]; exact ho1⟩)
  have HB1 := hid hB1; have Hr1 := hid hr1
  have Hb1 : Hid (BalAt w1 g ka kc K mv) := hid (Hbw.out.mono hB1)
  have HW1 : Hid (IntsAt w1 wa ws) := hid (HWw.out.mono hB1)
  clear hh hO hbi1 ho1 hr1 hB1 hBV1 o0 HrX Hbi Ho
  go_wp2_with fail
  refine (resultD_c _ _ _ _).mono ?_
  rintro e w2 ⟨p, rfl, hp, hpn, hB⟩
  have Hp := hid hp; have Hpn := hid hpn
  have HB2 := hid (HB1.out.trans (hB.mono HB1.out.size))
  have Hl2 := hid (Hl1.out.mono hB); have Hr2 := hid (Hr1.out.mono hB); have Hb2 := hid (Hb1.out.mono hB); have HW2 := hid (HW1.out.mono hB)
  have Hs1 := hid (show b + 1 < w2.heap.size ∧ b + 1 < p from ⟨Hl2.out.v2.lt, by have := Hl1.out.v2.lt; omega⟩)
  clear hp hpn hB Hl1 Hr1 Hb1 HW1
  go_wp2_with fail
  have HCC := cases_c g ka kc K mv w2 Hb2.out (by have := Hok.out.n12; omega) Hok.out.cop
  rw [← HL.out] at HCC
  refine HCC.mono ?_
  rintro e w3 ⟨ao, cap, rfl, hL3, ⟨_, hfr⟩, hB⟩
  have HL3 := hid hL3; have Hfr := hid hfr
  have HB3 := hid (HB2.out.trans (hB.mono HB2.out.size))
  have Hl3 := hid (Hl2.out.mono hB); have Hr3 := hid (Hr2.out.mono hB); have HW3 := hid (HW2.out.mono hB)
  have Hp3 := hid (cstep Hp.out hB)
  clear hL3 hfr hB Hl2 Hr2 Hb2 HW2 Hp HCC
  clear hb hw
  go_wp2
  go_loopw [10, 26] (fun _ i wr => ∃ k : Nat, k ≤ L.length ∧ i = .int .i64 k ∧ Only (fun q => q = b ∨ q = b + 1) w3 wr ∧ LayAt wr b (b + 1) n (leftK n ((L.take k).filter fun c => decide (resultOf ws c = r)))) (fun _ i _ => L.length - (intOf i).toNat)
  case atStart => exact ⟨0, Nat.zero_le _, rfl, Only.refl _ _, Hl3.out⟩
  case round =>
    obtain ⟨k, hk, rfl, hO, hl⟩ := hrel
    obtain ⟨wo, rfl⟩ : ∃ wo : World, wo = wr := ⟨_, rfl⟩
    have HO := hid hO; have Hlo := hid hl
    have Hb3s := hid (show w.heap.size ≤ w3.heap.size from HB3.out.size)
    have hbel : Below w.heap.size w wo := HB3.out.trans (hO.below HB3.out.size (fun q hq e => by have := Hbr.out; omega))
    have Hbel := hid hbel
    clear hO hl hbel
    by_cases hlt : k < L.length
    · have hI : (k : Int) < (L.length : Int) := by omega
      have hLo := HL3.out.only HO.out (fun q off e h => by have := Hfr.out q off e; have := Hs1.out; omega)
      obtain ⟨lb, lo, rfl, hx, hy⟩ := hLo.at hlt
      have hcase := Hcok.out _ (nthP_mem hlt)
      have hnew := nodup_new Hnd.out hlt
      have hst : (L.take (k + 1)).filter (fun c => decide (resultOf ws c = r)) = (L.take k).filter (fun c => decide (resultOf ws c = r)) ++ [nthP L k].filter (fun c => decide (resultOf ws c = r)) := by
        rw [take_succ_nthP hlt, List.filter_append]
      have e1 : IntKind.i64.wrap ((k : Int) + 1) = (k : Int) + 1 := wrap_i64_of (by omega) (by have := Hlen.out; omega)
      obtain ⟨c, hc⟩ : ∃ c, c = nthP L k := ⟨_, rfl⟩
      rw [← hc] at hx hy hcase hnew hst
      have hnewM : c ∉ (L.take k).filter (fun c => decide (resultOf ws c = r)) := fun h => hnew (List.mem_filter.1 h).1
      obtain ⟨M, hM⟩ : ∃ M, M = (L.take k).filter (fun c => decide (resultOf ws c = r)) := ⟨_, rfl⟩
      rw [← hM] at Hlo hst hnewM
      obtain ⟨Y, hY, hBY, y0, y1⟩ := box34 wo c
      have HY := hid hY; have HBY := hid hBY
      have HWo := hid (HWw.out.mono Hbel.out)
      have Hpo := hid (HO.out.cell Hp3.out (fun h => by have h : p = b ∨ p = b + 1 := h; have := Hs1.out; omega))
      have H85 := hid (result1_c p wa wc ws.length ws c Y (cstep Hpo.out hBY) (HWo.out.mono hBY) (by rw [Hwok.out.1]; exact Hwok.out) (by rw [Hwok.out.1]; exact hcase))
      have hRR : ∃ R, R = resultOf ws c := ⟨_, rfl⟩
      obtain ⟨R, hR⟩ := hRR
      rw [List.filter_cons, List.filter_nil, ← hR] at hst
      rw [← hR] at H85
      have Hst := hid hst; have Hcase := hid hcase; have HnM := hid hnewM
      obtain ⟨q, hq⟩ : ∃ q, q = wo.heap.size := ⟨_, rfl⟩
      have Hqb := hid (show b + 1 < q by rw [hq]; exact Hlo.out.v2.lt)
      have Hq := hid hq
      clear hst hcase hnew hnewM hc hM hY hBY hR
      obtain ⟨x, y⟩ := c
      simp only at hx hy y0 y1 HY Hcase
      go_upto_region 8 with (fail)
      rw [← HY.out]
      rw [← Hq.out] at y0 y1 ⊢
      clear hq
      go_wp2_with fail
      refine H85.out.mono ?_
      rintro e w4 ⟨rfl, hB⟩
      have HB4 := hid (bstep HBY.out hB)
      have y0 := cstep y0 hB; have y1 := cstep y1 hB
      have Hl4 := hid (Hlo.out.mono HB4.out)
      have HO4 := hid (HO.out.trans (Only.of_below HB4.out))
      have o0 := Hl4.out.v2.c0; have o1 := Hl4.out.v2.c1; have f1 := Hl4.out.v2.f1
      clear hB H85
      by_cases hr : R = r
      · have b1 : (R != r) = false := by simpa using hr
        have hst := Hst.out
        rw [if_pos (by simpa using hr)] at hst
        rcases Hcase.out with ⟨h1, h2⟩ | ⟨⟨h1, h2⟩, h3⟩
        · simp only at h1 h2
          subst h1 h2
          have Hst2 := hid hst
          clear hst Hst
          go_wp2
          go_roundw
          case rel =>
            refine ⟨k + 1, hlt, by go_num, HO4.out.setCell (.inr rfl) _, ?_⟩
            rw [Hst2.out]
            exact ⟨by rw [leftK_none.1]; exact Hl4.out.bi.other (by omega) _ _, by rw [leftK_none.2]; exact Hl4.out.v2.set1 _⟩
          case measure => simp [intOf]; omega
        · simp only at h1 h2 h3
          obtain ⟨i, rfl⟩ := Int.eq_ofNat_of_zero_le h1
          have hin : i < n := by omega
          have hor := leftK_or (n := n) hin h3 HnM.out
          have hlc := leftK_cop (n := n) hin h3 HnM.out
          have hcell := Hl4.out.bi.cell (k := i) (by rw [leftK_len]; exact hin)
          have hfz := Hl4.out.bi.frozen i
          have Hlc := hid hlc
          have Hst2 := hid hst
          have hi0 : ¬ (i : Int) < 0 := by omega
          have hiI : (i : Int) < (n : Int) := by omega
          obtain ⟨old, hold⟩ : ∃ o, o = nth (leftK n M).cop i := ⟨_, rfl⟩
          rw [← hold] at hor hcell Hlc
          have Hfin := hid (show Only (fun q => q = b ∨ q = b + 1) w3 (w4.setCell ⟨b, i, none⟩ (.int .i64 (old + y))).drew ∧ LayAt (w4.setCell ⟨b, i, none⟩ (.int .i64 (old + y))).drew b (b + 1) n (leftK n (M ++ [((i : Int), y)])) from
            ⟨(HO4.out.setCell (.inl rfl) _).trans ⟨rfl, rfl, rfl, Nat.le_refl _, fun _ _ _ => rfl⟩, BI.same (by rw [Hlc.out.1]; exact Hl4.out.bi.set i _) rfl, by rw [Hlc.out.2]; exact Hl4.out.v2.other (by omega) _ _⟩)
          clear hst Hst hlc hold
          go_wp2
          go_region_law (fail)
          all_goals (
            go_wp2
            go_roundw)
          all_goals first
            | (simp [intOf]; omega)
            | exact ⟨k + 1, hlt, by go_num, Hfin.out.1, by rw [Hst2.out]; exact Hfin.out.2⟩
      · have b1 : (R != r) = true := by simpa using hr
        have hst := Hst.out
        rw [if_neg (by simpa using hr), List.append_nil] at hst
        have Hst2 := hid hst
        clear hst Hst
        go_wp2
        go_roundw
        case rel => exact ⟨k + 1, hlt, by go_num, HO4.out, by rw [Hst2.out]; exact Hl4.out⟩
        case measure => simp [intOf]; omega
    · have hI : ¬ (k : Int) < (L.length : Int) := by omega
      rw [List.take_of_length_le (by omega)] at Hlo
      rw [← HC.out] at Hlo
      have o0 := Hlo.out.v2.c0; have o1 := Hlo.out.v2.c1
      have hr := HO.out.block w.heap.size Hr3.out.lt (fun e => by have e : w.heap.size = b ∨ w.heap.size = b + 1 := e; have := Hbr.out; omega)
      have hr0 : V2At wo w.heap.size 24 (.slice none 0 0) (.bool false) := hr.trans Hr3.out
      have f0 := hr0.f0; have f1 := hr0.f1; have r0 := hr0.c0; have r1 := hr0.c1
      have hrs := Hbr.out
      clear hr
      have Hr0 := hid hr0
      clear hr0
      go_wp2
      refine bodyPost_ret (results_c24 rfl _ _ w.heap.size (.slice (some ⟨b, 0, none⟩) n n) (.bool C.none) rfl (Hr0.out.set _ _)) rfl ?_
      refine ⟨b, rfl, ?_, by omega, below_set2 Hbel.out (Nat.le_refl _) _ _⟩
      exact ((Hlo.out.bi.other (by omega) _ _).other (by omega) _ _).ints
end

end Go.Proofs.Ytelgbjfgmpkepaa

namespace Go.Proofs.Ytelgbjfgmpkepaa
open Go.RowKit Go.Shelf

section
variable (ka : Option Addr) (kc : Nat) (K : Kn) (wa : Option Addr) (wc : Nat) (ws : List Int) (r : Int) (w : World)
set_option maxRecDepth 100000 in
set_option maxHeartbeats 2000000 in
theorem with_c (hk : KnAt w ka K) (hok : Kok K) (hw : IntsAt w wa ws) (hwok : WOk K.cop.length ws) : Calls Try.prog 67 #[.agg #[.slice ka K.cop.length kc, .bool K.none], .slice wa ws.length wc, .int .i64 r] w (ListC w (withL K ws r)) := by
  obtain ⟨V, hV, hB0, k0, k1⟩ := box1 w (.slice ka K.cop.length kc) (.bool K.none) 24
  have hkV := hk.mono hB0
  have HB0 := hid hB0; have HV := hid hV; have HV0 := hid (Below.refl V.heap.size V)
  have K0 := hid k0; have K1 := hid k1
  have HwV := hid (hw.mono hB0)
  have Hwok := hid hwok
  have Hcok := hid (casesOf_ok hok.cop)
  have Hlen := hid (casesOf_len K)
  have Hn12 := hid hok.n12
  have H1 := hid fun (w' : World) (h : Below V.heap.size V w') => casesOf_c ka kc K w' (hkV.mono h) (by have := hok.n12; omega) hok.cop
  have hWL : withL K ws r = (casesOf K).filter fun c => decide (resultOf ws c = r) := rfl
  rw [hWL]
  unfold ListC at *
  obtain ⟨nn, hnn⟩ : ∃ b, b = K.none := ⟨_, rfl⟩
  rw [← hnn] at k1 K1 HV H1 ⊢
  obtain ⟨L, hL⟩ : ∃ L, L = casesOf K := ⟨_, rfl⟩
  rw [← hL] at Hlen Hcok H1 ⊢
  obtain ⟨Z, hZ⟩ : ∃ Z, Z = L.filter fun c => decide (resultOf ws c = r) := ⟨_, rfl⟩
  rw [← hZ]
  have HZ := hid hZ
  clear hnn hL hZ hWL hk hok hw hwok hV hB0 hkV
  go_enter Try.func67, Try.ntmps67
  go_upto_region 1 with (fail)
  rw [← HV.out]
  go_wp2_with fail
  refine (H1.out _ HV0.out).mono ?_
  rintro e w1 ⟨la, lc, rfl, hL, ⟨_, _⟩, hB⟩
  have HB1 := hid (bstep HV0.out hB)
  clear hB
  have HL1 := hid hL
  have Hw1 := hid (HwV.out.mono HB1.out)
  clear hL
  go_wp2
  go_loopw [7, 9] (fun o i wr => ∃ (k : Nat) (ao : Option Addr) (cap : Nat), k ≤ L.length ∧ i = .int .i64 k ∧ o = .slice ao ((L.take k).filter fun c => decide (resultOf ws c = r)).length cap ∧ OwnP w1.heap.size wr ao ((L.take k).filter fun c => decide (resultOf ws c = r)).length cap ((L.take k).filter fun c => decide (resultOf ws c = r)) ∧ Below w1.heap.size w1 wr) (fun _ i _ => L.length - (intOf i).toNat)
  case atStart => exact ⟨0, none, 0, Nat.zero_le _, rfl, rfl, OwnP.nil _ _, Below.refl _ _⟩
  case round =>
    obtain ⟨k, ao, cap, hk, rfl, rfl, ho, hB⟩ := hrel
    obtain ⟨wo, rfl⟩ : ∃ wo : World, wo = wr := ⟨_, rfl⟩
    have HBo := hid hB; have Ho := hid ho
    have hLo := HL1.out.mono hB
    have hsz := hB.size
    clear hB ho
    by_cases hlt : k < L.length
    · have hI : (k : Int) < (L.length : Int) := by omega
      obtain ⟨lb, lo, rfl, hx, hy⟩ := hLo.at hlt
      have hcase := Hcok.out _ (nthP_mem hlt)
      have e1 : IntKind.i64.wrap ((k : Int) + 1) = (k : Int) + 1 := wrap_i64_of (by omega) (by have := Hlen.out; have := Hn12.out; omega)
      have hst : (L.take (k + 1)).filter (fun c => decide (resultOf ws c = r)) = (L.take k).filter (fun c => decide (resultOf ws c = r)) ++ [nthP L k].filter (fun c => decide (resultOf ws c = r)) := by
        rw [take_succ_nthP hlt, List.filter_append]
      have hml : ((L.take k).filter fun c => decide (resultOf ws c = r)).length + 1 ≤ 1000000 := by
        have h1 := List.length_filter_le (fun c => decide (resultOf ws c = r)) (L.take k)
        rw [List.length_take] at h1
        have := Hlen.out; have := Hn12.out; omega
      obtain ⟨c, hc⟩ : ∃ c, c = nthP L k := ⟨_, rfl⟩
      rw [← hc] at hx hy hcase hst
      obtain ⟨M, hM⟩ : ∃ M, M = (L.take k).filter (fun c => decide (resultOf ws c = r)) := ⟨_, rfl⟩
      rw [← hM] at Ho hst hml ⊢
      have H2 := hid (resultOf_c wa wc ws.length ws c wo (Hw1.out.mono HBo.out) (by rw [Hwok.out.1]; exact Hwok.out) (by rw [Hwok.out.1]; exact hcase))
      obtain ⟨R, hR⟩ : ∃ R, R = resultOf ws c := ⟨_, rfl⟩
      rw [List.filter_cons, List.filter_nil, ← hR] at hst
      rw [← hR] at H2
      have Hst := hid hst
      obtain ⟨x, y⟩ := c
      simp only at hx hy
      clear hst hcase hc hM hR hLo
      go_wp2_with fail
      refine H2.out.mono ?_
      rintro e w2 ⟨rfl, hB⟩
      have HB2 := hid (bstep HBo.out hB)
      have hx := cstep hx hB; have hy := cstep hy hB
      have Ho2 := hid (Ho.out.kept hB)
      have hsz2 : w1.heap.size ≤ w2.heap.size := Nat.le_trans hsz hB.size
      clear hB H2
      by_cases hr : R = r
      · have hst := Hst.out
        rw [if_pos (by simpa using hr)] at hst
        have Hst2 := hid hst
        have b1 : (R == r) = true := by simpa using hr
        clear hst Hst
        obtain ⟨LL, hLL⟩ : ∃ X, X = w2.alloc (.cells #[.int .i64 x, .int .i64 y] 34) := ⟨_, rfl⟩
        have hBL : Below w2.heap.size w2 LL := by rw [hLL]; exact bnew _ _
        have hcL : CellsAt LL (some ⟨w2.heap.size, 0, none⟩) [.int .i64 x, .int .i64 y] := by
          rw [hLL]
          refine CellsAt.of_heap (heap_alloc_new _ _) fun j v hj => ?_
          rw [Nat.zero_add]
          simpa using hj
        have HO1 := hid (Ho2.out.kept hBL); have HLL := hid hLL; have hszL : w1.heap.size ≤ LL.heap.size := Nat.le_trans hsz2 hBL.size
        have HBLL := hid (bstep HB2.out hBL)
        clear hBL hLL
        go_wp2_with (at_builtin; rw [← HLL.out]; refine wpList_appV et27 _ rfl _ _ rfl w1.heap.size ao M.length cap (pairv M) rfl HO1.out.2 (some ⟨w2.heap.size, 0, none⟩) 1 1 [.int .i64 x, .int .i64 y] rfl hcL rfl (fun u hu => by simp at hu; rcases hu with rfl | rfl <;> rfl) (fun h => by cases h) hml hszL ?_; (intro ao' cap' w' hB' hown' hgr' hn'; refine Hid.out ?_))
        refine hid ?_
        have HB3 := hid (HBLL.out.trans hB')
        have Ho3 := hid (OwnP.app (c := (x, y)) rfl hown')
        clear hB' hown' hgr' hn' hcL hszL
        go_wp2
        go_roundw
        case rel => exact ⟨k + 1, ao', cap', hlt, by go_num, by rw [Hst2.out, List.length_append]; rfl, by rw [Hst2.out, List.length_append]; exact Ho3.out, HB3.out⟩
        case measure => simp [intOf]; omega
      · have hst := Hst.out
        rw [if_neg (by simpa using hr), List.append_nil] at hst
        have Hst2 := hid hst
        have b1 : (R == r) = false := by simpa using hr
        clear hst Hst
        go_wp2
        go_roundw
        case rel => exact ⟨k + 1, ao, cap, hlt, by go_num, by rw [Hst2.out], by rw [Hst2.out]; exact Ho2.out, HB2.out⟩
        case measure => simp [intOf]; omega
    · have hI : ¬ (k : Int) < (L.length : Int) := by omega
      rw [List.take_of_length_le (by omega)] at Ho ⊢
      rw [← HZ.out] at Ho ⊢
      have Hsz1 := hid (Nat.le_trans HB0.out.size HB1.out.size)
      go_wp2
      go_ret
      exact ⟨ao, cap, rfl, Ho.out.at, ⟨Ho.out.fresh.1, fun b off e => Nat.le_trans Hsz1.out (Ho.out.fresh.2 b off e)⟩, bstep HB0.out (bstep HB1.out HBo.out)⟩
end

end Go.Proofs.Ytelgbjfgmpkepaa

namespace Go.Proofs.Ytelgbjfgmpkepaa
open Go.RowKit Go.Shelf

section
variable (n : Nat) (la : Option Addr) (lc : Nat) (L : List (Int × Int)) (w : World)
set_option maxRecDepth 100000 in
set_option maxHeartbeats 4000000 in
theorem left_c (hn : n ≤ 1000) (hL : PlumbsAt w la L) (hl : L.length ≤ 1000000) (hnd : L.Nodup) (hc : ∀ c ∈ L, CaseOk n c) : Calls Try.prog 52 #[.int .i64 n, .slice la L.length lc] w (KnC w (leftK n L)) := by
  obtain ⟨V, hV, hB0, _, _⟩ := box1 w (.slice none 0 0) (.bool false) 24
  have hr0 : V2At V w.heap.size 24 (.slice none 0 0) (.bool false) := by rw [hV]; exact heap_alloc_new _ _
  have hsz : V.heap.size = w.heap.size + 1 := by rw [hV]; simp
  have HL := hid hL; have Hl := hid hl; have Hnd := hid hnd; have Hc := hid hc
  have HV := hid hV; have HB0 := hid hB0; have Hr0 := hid hr0; have Hsz := hid hsz
  have hm := run_make_ints et22 V n n (Nat.le_refl _) (by omega)
  obtain ⟨C, hC⟩ : ∃ C, C = leftK n L := ⟨_, rfl⟩
  have hKl : C.cop.length = n := by rw [hC]; exact leftK_len _ _
  rw [← hC]
  have HC := hid hC
  unfold KnC
  rw [hKl]
  clear hC hKl hV hB0 hr0 hsz hL hl hnd hc
  go_enter Try.func52, Try.ntmps52
  go_upto_region 1 with (fail)
  rw [← HV.out]
  go_upto_region 2 with (fail)
  clear hm
  obtain ⟨b, hbb⟩ : ∃ b, b = V.heap.size := ⟨_, rfl⟩
  obtain ⟨X, hX⟩ : ∃ X, X = (V.alloc (.cells (intv (List.replicate n 0)).toArray 3)).alloc (.cells #[.slice (some ⟨V.heap.size, 0, none⟩) n n, .bool false] 24) := ⟨_, rfl⟩
  have hBX : Below V.heap.size V X := by rw [hX]; exact bstep (bnew _ _) (bnew _ _)
  have hbi : BI X V.heap.size (List.replicate n 0) := by rw [hX]; exact (bi_new V _).mono (bnew _ _)
  have ho : V2At X (V.heap.size + 1) 24 (.slice (some ⟨V.heap.size, 0, none⟩) n n) (.bool false) := by
    rw [hX]
    have := heap_alloc_new (V.alloc (.cells (intv (List.replicate n 0)).toArray 3)) (.cells #[.slice (some ⟨V.heap.size, 0, none⟩) n n, .bool false] 24)
    simpa [V2At] using this
  rw [← hX]
  rw [← hbb] at hbi ho ⊢
  have HBX := hid (bstep HB0.out hBX)
  have HrX := hid (Hr0.out.mono hBX)
  have Hbr := hid (show w.heap.size < b by rw [hbb, Hsz.out]; omega)
  have Hl1 := hid (show LayAt X b (b + 1) n (leftK n []) from ⟨by rw [(leftK_nil n).1]; exact hbi, by rw [(leftK_nil n).2]; exact ho⟩)
  clear hX hbb hBX hbi ho
  go_wp2
  go_loopw [6] (fun i wr => ∃ k : Nat, k ≤ L.length ∧ i = .int .i64 k ∧ Below w.heap.size w wr ∧ V2At wr w.heap.size 24 (.slice none 0 0) (.bool false) ∧ LayAt wr b (b + 1) n (leftK n (L.take k))) (fun i _ => L.length - (intOf i).toNat)
  case atStart => exact ⟨0, Nat.zero_le _, rfl, HBX.out, HrX.out, Hl1.out⟩
  case round =>
    obtain ⟨k, hk, rfl, hB, hr, hl⟩ := hrel
    obtain ⟨wo, rfl⟩ : ∃ wo : World, wo = wr := ⟨_, rfl⟩
    have HB := hid hB; have Hr := hid hr; have Hlo := hid hl
    have o0 := hl.v2.c0; have o1 := hl.v2.c1; have f1 := hl.v2.f1
    clear hB hr hl
    by_cases hlt : k < L.length
    · have hI : (k : Int) < (L.length : Int) := by omega
      have hLo := HL.out.mono HB.out
      obtain ⟨lb, lo, rfl, hx, hy⟩ := hLo.at hlt
      have hcase := Hc.out _ (nthP_mem hlt)
      have hnew := nodup_new Hnd.out hlt
      have hst := take_succ_nthP hlt
      have e1 : IntKind.i64.wrap ((k : Int) + 1) = (k : Int) + 1 := wrap_i64_of (by omega) (by have := Hl.out; omega)
      obtain ⟨c, hc⟩ : ∃ c, c = nthP L k := ⟨_, rfl⟩
      rw [← hc] at hx hy hcase hnew hst
      obtain ⟨M, hM⟩ : ∃ M, M = L.take k := ⟨_, rfl⟩
      rw [← hM] at Hlo o1 hst hnew
      have Hst := hid hst; have HnM := hid hnew
      obtain ⟨x, y⟩ := c
      simp only at hx hy
      clear hst hnew hM hc hLo
      rcases hcase with ⟨h1, h2⟩ | ⟨⟨h1, h2⟩, h3⟩
      · simp only at h1 h2
        subst h1 h2
        go_wp2
        go_roundw
        case rel =>
          refine ⟨k + 1, hlt, by go_num, HB.out.setCell (p := ⟨b + 1, 1, none⟩) (by have := Hbr.out; show w.heap.size ≤ b + 1; omega) _, Hr.out.other (by have := Hbr.out; omega) _ _, ?_⟩
          rw [Hst.out]
          exact ⟨by rw [leftK_none.1]; exact Hlo.out.bi.other (by omega) _ _, by rw [leftK_none.2]; exact Hlo.out.v2.set1 _⟩
        case measure => simp [intOf]; omega
      · simp only at h1 h2 h3
        obtain ⟨i, rfl⟩ := Int.eq_ofNat_of_zero_le h1
        have hin : i < n := by omega
        have hlc := leftK_cop (n := n) hin h3 HnM.out
        have hlt3 := leftK_lt (n := n) hin h3 HnM.out
        have hcell := Hlo.out.bi.cell (k := i) (by rw [leftK_len]; exact hin)
        have hfz := Hlo.out.bi.frozen i
        have Hlc := hid hlc
        have hi0 : ¬ (i : Int) < 0 := by omega
        have hiI : (i : Int) < (n : Int) := by omega
        obtain ⟨old, hold⟩ : ∃ o, o = nth (leftK n M).cop i := ⟨_, rfl⟩
        rw [← hold] at hcell Hlc hlt3
        have e2 : IntKind.i64.wrap (old + y) = old + y := wrap_i64_of (by omega) (by omega)
        have Hfin := hid (show Below w.heap.size w (wo.setCell ⟨b, i, none⟩ (.int .i64 (old + y))).drew ∧ V2At (wo.setCell ⟨b, i, none⟩ (.int .i64 (old + y))).drew w.heap.size 24 (.slice none 0 0) (.bool false) ∧ LayAt (wo.setCell ⟨b, i, none⟩ (.int .i64 (old + y))).drew b (b + 1) n (leftK n (M ++ [((i : Int), y)])) from
          ⟨(HB.out.setCell (p := ⟨b, i, none⟩) (by have := Hbr.out; show w.heap.size ≤ b; omega) _).trans ⟨rfl, rfl, rfl, Nat.le_refl _, fun _ _ => rfl⟩, Hr.out.other (by have := Hbr.out; omega) _ _, BI.same (by rw [Hlc.out.1]; exact Hlo.out.bi.set i _) rfl, by rw [Hlc.out.2]; exact Hlo.out.v2.other (by omega) _ _⟩)
        clear hlc hold hlt3 h3
        go_wp2
        go_region_law (fail)
        all_goals (
          go_wp2
          go_roundw)
        all_goals first
          | (simp [intOf]; omega)
          | exact ⟨k + 1, hlt, by go_num, Hfin.out.1, Hfin.out.2.1, by rw [Hst.out]; exact Hfin.out.2.2⟩
    · have hI : ¬ (k : Int) < (L.length : Int) := by omega
      rw [List.take_of_length_le (by omega)] at Hlo o1
      rw [← HC.out] at Hlo o1
      have f0 := Hr.out.f0; have f1 := Hr.out.f1; have r0 := Hr.out.c0; have r1 := Hr.out.c1
      have hrs := Hbr.out
      go_wp2
      refine bodyPost_ret (results_c24 rfl _ _ w.heap.size (.slice (some ⟨b, 0, none⟩) n n) (.bool C.none) rfl (Hr.out.set _ _)) rfl ?_
      refine ⟨b, rfl, ?_, by omega, below_set2 HB.out (Nat.le_refl _) _ _⟩
      exact ((Hlo.out.bi.other (by omega) _ _).other (by omega) _ _).ints
end

end Go.Proofs.Ytelgbjfgmpkepaa

namespace Go.Proofs.Ytelgbjfgmpkepaa
open Go.RowKit Go.Shelf

/-- the error of what is learned -/
def lnErr (K : Kn) (ws : List Int) (r : Int) : Int := if kwErr K ws = 0 then (if within (-1) 1 [r] = true then (if (withL K ws r).length = 0 then 21 else 0) else 3) else kwErr K ws
def lnVal (K : Kn) (ws : List Int) (r : Int) : Kn := if lnErr K ws r = 0 then leftK K.cop.length (withL K ws r) else ⟨[], false⟩
/-- a call that hands back what is known, and an error -/
def LnC (w : World) (C : Kn) (er : Int) (e : Ending) (w' : World) : Prop :=
  ∃ xa, e = .returned (.tuple #[.agg #[.slice xa C.cop.length C.cop.length, .bool C.none], .int .i64 er]) ∧ KnAt w' xa C ∧ Below w.heap.size w w'
theorem knErr_left {n : Nat} {M : List (Int × Int)} (h1 : 1 ≤ n) (h12 : n ≤ 12) (hc : ∀ c ∈ M, CaseOk n c) : knErr (leftK n M) = 0 ↔ M.length ≠ 0 := by
  rw [kok_iff]
  constructor
  · intro h h0
    have hM : M = [] := List.eq_nil_of_length_eq_zero h0
    subst hM
    rcases h.some with h2 | ⟨k, hk, h2⟩
    · simp [leftK] at h2
    · rw [leftK_len] at hk
      rw [leftK_nth hk] at h2
      simp [bitAt] at h2
  · intro h0
    refine ⟨by rw [leftK_len]; exact h1, by rw [leftK_len]; exact h12, fun k hk => ?_, ?_⟩
    · rw [leftK_len] at hk; rw [leftK_nth hk]; exact bitAt_range M k
    · obtain ⟨c, M', rfl⟩ : ∃ c M', M = c :: M' := by
        cases M with
        | nil => simp at h0
        | cons c M' => exact ⟨c, M', rfl⟩
      have := hc c (List.mem_cons_self ..)
      obtain ⟨x, y⟩ := c
      rcases this with ⟨a, b⟩ | ⟨⟨a, b⟩, d⟩
      · simp only at a b; subst a b
        exact .inl (by simp [leftK])
      · simp only at a b d
        obtain ⟨i, rfl⟩ := Int.eq_ofNat_of_zero_le a
        refine .inr ⟨i, by rw [leftK_len]; omega, ?_⟩
        rw [leftK_nth (by omega)]
        unfold bitAt
        rcases d with rfl | rfl
        · rw [if_pos (List.mem_cons_self ..)]; split <;> omega
        · rw [if_pos (List.mem_cons_self .. : ((i : Int), (2 : Int)) ∈ _)]; split <;> omega
section
variable (ka : Option Addr) (kc : Nat) (K : Kn) (wa : Option Addr) (wc : Nat) (ws : List Int) (r : Int) (w : World)
set_option maxRecDepth 100000 in
set_option maxHeartbeats 4000000 in
theorem learned_24 (hk : KnAt w ka K) (hlk : K.cop.length ≤ 1000000) (hw : IntsAt w wa ws) (hl : ws.length ≤ 1000000) (hnil : wa = none → wc = 0) : Calls Try.prog 24 #[.agg #[.slice ka K.cop.length kc, .bool K.none], .slice wa ws.length wc, .int .i64 r] w (LnC w (lnVal K ws r) (lnErr K ws r)) := by
  obtain ⟨V, hV, hB0, k0, k1, k2, k3⟩ := box2 w (.slice ka K.cop.length kc) (.bool K.none) (.slice none 0 0) (.bool false) 24 24
  have hkV := hk.mono hB0
  have HB0 := hid hB0; have HV := hid hV; have HV0 := hid (Below.refl V.heap.size V)
  have K0 := hid k0; have K1 := hid k1; have K2 := hid k2; have K3 := hid k3
  have hr0 : V2At V (w.heap.size + 1) 24 (.slice none 0 0) (.bool false) := by
    rw [hV]
    have := heap_alloc_new (w.alloc (.cells #[.slice ka K.cop.length kc, .bool K.none] 24)) (.cells #[.slice none 0 0, .bool false] 24)
    simpa [V2At] using this
  have hwV := hw.mono hB0
  obtain ⟨X, hX, hBX, hc⟩ := openW ka kc K wa wc ws V hkV hlk hwV hl hnil
  have HX := hid hX; have HBX := hid hBX; have H1 := hid hc
  have HwV := hid hwV; have Hr0 := hid hr0
  have hE : lnErr K ws r = if kwErr K ws = 0 then (if within (-1) 1 [r] = true then (if (withL K ws r).length = 0 then 21 else 0) else 3) else kwErr K ws := rfl
  have hR : lnVal K ws r = if lnErr K ws r = 0 then leftK K.cop.length (withL K ws r) else ⟨[], false⟩ := rfl
  have Hok := hid (kw_ok (K := K) (ws := ws))
  have Hg := hid hlk
  unfold LnC
  obtain ⟨EE, hEE⟩ : ∃ E, E = lnErr K ws r := ⟨_, rfl⟩
  obtain ⟨R, hRR⟩ : ∃ E, E = lnVal K ws r := ⟨_, rfl⟩
  rw [← hEE] at hE hR ⊢
  rw [← hRR] at hR ⊢
  obtain ⟨E, hE1⟩ : ∃ E, E = kwErr K ws := ⟨_, rfl⟩
  rw [← hE1] at H1 hE Hok
  obtain ⟨nn, hnn⟩ : ∃ b, b = K.none := ⟨_, rfl⟩
  rw [← hnn] at k1 K1 HV H1 ⊢
  clear hEE hRR hE1 hnn hk hw hV hB0 hkV hl hlk hX hBX hc hnil hwV hr0
  by_cases h0 : E = 0
  · obtain ⟨hok, hwok, _⟩ := Hok.out h0
    rw [if_pos h0] at hE
    have hn12 := hok.n12
    have Hok2 := hid hok; have Hwok := hid hwok
    have hkl := knErr_left (M := withL K ws r) hok.n1 hok.n12 (fun c hc => casesOf_ok hok.cop c (List.mem_filter.1 hc).1)
    subst h0
    cases hwi : within (-1) 1 [r] with
    | true =>
      rw [hwi, if_pos rfl] at hE
      have HL := hid fun (g : Nat) (mv : Value) (w' : World) (hb : BalAt w' g ka kc K mv) (hw : IntsAt w' wa ws) => learned_c g ka kc K mv wa wc ws r w' hb Hok2.out hw Hwok.out
      have hCl : (leftK K.cop.length (withL K ws r)).cop.length = K.cop.length := leftK_len _ _
      obtain ⟨C, hC⟩ : ∃ C, C = leftK K.cop.length (withL K ws r) := ⟨_, rfl⟩
      rw [← hC] at HL hR hkl hCl
      unfold KnC at HL
      have HCK := hid fun (b : Nat) (w' : World) (h : KnAt w' (some ⟨b, 0, none⟩) C) => checkKnown_c (some ⟨b, 0, none⟩) C.cop.length C w' h (by rw [hCl]; exact Hg.out)
      unfold TellI at HCK
      obtain ⟨ke, hke⟩ : ∃ e, e = knErr C := ⟨_, rfl⟩
      rw [← hke] at hkl HCK
      have HE := hid hE; have HR := hid hR; have Hwi := hid hwi; have Hkl := hid hkl; have HCl := hid hCl
      clear hE hR hok hwok hwi hkl hC hke hCl hn12
      go_enter Try.func24, Try.ntmps24
      go_upto_region 1 with (fail)
      rw [← HV.out]
      go_wp2_with fail
      rw [← HX.out]
      refine H1.out.mono ?_
      rintro e w1 h
      obtain ⟨g, m, rfl, _, _, _, hbal, _, hB⟩ := h.ok rfl
      have HBV := hid (bstep HBX.out hB)
      have HBal := hid hbal
      clear h hB hbal
      go_wp2_with fail
      refine (within1 (-1) 1 r _ w1 rfl).mono ?_
      rintro e w2 ⟨rfl, hB⟩
      rw [Hwi.out]
      have HB2 := hid (bstep HBV.out hB)
      have HBal2 := hid (HBal.out.mono hB)
      clear hB
      go_wp2_with fail
      refine (HL.out _ _ _ HBal2.out (HwV.out.mono HB2.out)).mono ?_
      rintro e w3 ⟨b, rfl, hK, hbw, hB⟩
      have HB3 := hid (bstep HB2.out hB)
      have HK3 := hid hK
      have Hbw := hid (show w.heap.size + 1 < b from Nat.lt_of_lt_of_le (Nat.lt_of_lt_of_le Hr0.out.lt HB2.out.size) hbw)
      clear hB hK hbw
      obtain ⟨Y, hY, hBY, y0, y1⟩ := box1 w3 (.slice (some ⟨b, 0, none⟩) C.cop.length C.cop.length) (.bool C.none) 24
      have HBY := hid hBY; have HY := hid hY
      clear hBY hY
      go_wp2_with fail
      rw [← HY.out]
      refine (HCK.out b Y (HK3.out.mono HBY.out)).mono ?_
      rintro e w4 ⟨rfl, hB⟩
      have HB4 := hid (bstep HB3.out (bstep HBY.out hB))
      have HK4 := hid (HK3.out.mono (bstep HBY.out hB))
      have hr4 := Hr0.out.mono HB4.out
      have Hr4 := hid hr4
      have f0 := hr4.f0; have f1 := hr4.f1; have r0 := hr4.c0; have r1 := hr4.c1
      have y0 := cstep y0 hB; have y1 := cstep y1 hB
      have HBw := hid (bstep HB0.out HB4.out)
      have Hlt := hid HB4.out.size
      have Hblt := hid HB0.out.size
      clear hB hr4
      by_cases hke : ke = 0
      · have hE := HE.out
        rw [if_neg (Hkl.out.1 hke)] at hE
        have hR := HR.out
        rw [if_pos hE] at hR
        subst hke
        have HE2 := hid hE; have HR2 := hid hR
        clear hE hR HE HR
        go_wp2
        refine bodyPost_ret (results_c24t rfl _ _ (w.heap.size + 1) (.slice (some ⟨b, 0, none⟩) C.cop.length C.cop.length) (.bool C.none) rfl (Hr4.out.set _ _)) rfl ?_
        refine ⟨some ⟨b, 0, none⟩, by rw [HE2.out, HR2.out]; rfl, ?_, below_set2 HBw.out (by omega) _ _⟩
        rw [HR2.out]
        exact (IntsAt.only (S := fun q => q = w.heap.size + 1) HK4.out ((setCell_only _ _ _).trans (setCell_only _ _ _)) (fun q off e h => by cases e; have h : b = w.heap.size + 1 := h; have := Hbw.out; omega))
      · have b1 : (ke != 0) = true := by simpa using hke
        have hz : (withL K ws r).length = 0 := Classical.byContradiction fun h => hke (Hkl.out.2 h)
        have hE := HE.out
        rw [if_pos hz] at hE
        have hR := HR.out
        rw [hE, if_neg (by decide)] at hR
        have HE2 := hid hE; have HR2 := hid hR
        clear hE hR HE HR hz hke
        go_wp2
        refine bodyPost_ret (results_c24t rfl _ _ (w.heap.size + 1) (.slice none 0 0) (.bool false) rfl (Hr4.out.set _ _)) rfl ?_
        exact ⟨none, by rw [HE2.out, HR2.out]; rfl, by rw [HR2.out]; exact IntsAt.nil _ _, below_set2 HBw.out (by omega) _ _⟩
    | false =>
      rw [hwi, if_neg (by decide)] at hE
      rw [hE, if_neg (by decide)] at hR
      have HE := hid hE; have HR := hid hR; have Hwi := hid hwi
      clear hE hR hok hwok hwi hkl hn12
      go_enter Try.func24, Try.ntmps24
      go_upto_region 1 with (fail)
      rw [← HV.out]
      go_wp2_with fail
      rw [← HX.out]
      refine H1.out.mono ?_
      rintro e w1 h
      obtain ⟨g, m, rfl, _, _, _, _, _, hB⟩ := h.ok rfl
      have HBV := hid (bstep HBX.out hB)
      clear h hB
      go_wp2_with fail
      refine (within1 (-1) 1 r _ w1 rfl).mono ?_
      rintro e w2 ⟨rfl, hB⟩
      rw [Hwi.out]
      have HB2 := hid (bstep HBV.out hB)
      have hr4 := Hr0.out.mono HB2.out
      have Hr4 := hid hr4
      have f0 := hr4.f0; have f1 := hr4.f1; have r0 := hr4.c0; have r1 := hr4.c1
      have HBw := hid (bstep HB0.out HB2.out)
      clear hB hr4
      go_wp2
      refine bodyPost_ret (results_c24t rfl _ _ (w.heap.size + 1) (.slice none 0 0) (.bool false) rfl (Hr4.out.set _ _)) rfl ?_
      exact ⟨none, by rw [HE.out, HR.out]; rfl, by rw [HR.out]; exact IntsAt.nil _ _, below_set2 HBw.out (by omega) _ _⟩
  · have H0 := hid h0
    rw [if_neg h0] at hE
    rw [hE, if_neg h0] at hR
    have HE := hid hE; have HR := hid hR
    clear hE hR
    go_enter Try.func24, Try.ntmps24
    go_upto_region 1 with (fail)
    rw [← HV.out]
    go_wp2_with fail
    rw [← HX.out]
    refine H1.out.mono ?_
    rintro e w1 h
    obtain ⟨rfl, hB⟩ := h.err H0.out
    have HBV := hid (bstep HBX.out hB)
    have hr4 := Hr0.out.mono HBV.out
    have Hr4 := hid hr4
    have f0 := hr4.f0; have f1 := hr4.f1; have r0 := hr4.c0; have r1 := hr4.c1
    have HBw := hid (bstep HB0.out HBV.out)
    clear h hB hr4
    have b1 : (E != 0) = true := by simpa using h0
    go_wp2
    refine bodyPost_ret (results_c24t rfl _ _ (w.heap.size + 1) (.slice none 0 0) (.bool false) rfl (Hr4.out.set _ _)) rfl ?_
    exact ⟨none, by rw [HE.out, HR.out]; rfl, by rw [HR.out]; exact IntsAt.nil _ _, below_set2 HBw.out (by omega) _ _⟩
end

end Go.Proofs.Ytelgbjfgmpkepaa

namespace Go.Proofs.Ytelgbjfgmpkepaa
open Go.RowKit Go.Shelf

section
variable (ka : Option Addr) (kc : Nat) (K : Kn) (wa : Option Addr) (wc : Nat) (ws : List Int) (r : Int) (w : World)
set_option maxRecDepth 100000 in
set_option maxHeartbeats 4000000 in
theorem rLearned_25 (hk : KnAt w ka K) (hlk : K.cop.length ≤ 1000000) (hw : IntsAt w wa ws) (hl : ws.length ≤ 1000000) : Calls Try.prog 25 #[.agg #[.slice ka K.cop.length kc, .bool K.none], .slice wa ws.length wc, .int .i64 r] w (LnC w (lnVal K ws r) (lnErr K ws r)) := by
  obtain ⟨V, hV, hB0, k0, k1, k2, k3⟩ := box2 w (.slice ka K.cop.length kc) (.bool K.none) (.slice none 0 0) (.bool false) 24 24
  have hkV := hk.mono hB0
  have HB0 := hid hB0; have HV := hid hV; have HV0 := hid (Below.refl V.heap.size V)
  have K0 := hid k0; have K1 := hid k1; have K2 := hid k2; have K3 := hid k3
  have hr0 : V2At V (w.heap.size + 1) 24 (.slice none 0 0) (.bool false) := by
    rw [hV]
    have := heap_alloc_new (w.alloc (.cells #[.slice ka K.cop.length kc, .bool K.none] 24)) (.cells #[.slice none 0 0, .bool false] 24)
    simpa [V2At] using this
  have hwV := hw.mono hB0
  have H1 := hid fun (w' : World) (h : Below V.heap.size V w') => rCheckWeighing_c ka kc K wa wc ws w' (hkV.mono h) hlk (hwV.mono h) hl
  have HkV := hid hkV
  have HwV := hid hwV; have Hr0 := hid hr0
  have hE : lnErr K ws r = if kwErr K ws = 0 then (if within (-1) 1 [r] = true then (if (withL K ws r).length = 0 then 21 else 0) else 3) else kwErr K ws := rfl
  have hR : lnVal K ws r = if lnErr K ws r = 0 then leftK K.cop.length (withL K ws r) else ⟨[], false⟩ := rfl
  have Hok := hid (kw_ok (K := K) (ws := ws))
  unfold LnC
  unfold TellI at H1
  obtain ⟨EE, hEE⟩ : ∃ E, E = lnErr K ws r := ⟨_, rfl⟩
  obtain ⟨R, hRR⟩ : ∃ E, E = lnVal K ws r := ⟨_, rfl⟩
  rw [← hEE] at hE hR ⊢
  rw [← hRR] at hR ⊢
  obtain ⟨E, hE1⟩ : ∃ E, E = kwErr K ws := ⟨_, rfl⟩
  rw [← hE1] at H1 hE Hok
  obtain ⟨nn, hnn⟩ : ∃ b, b = K.none := ⟨_, rfl⟩
  rw [← hnn] at k1 K1 HV H1 ⊢
  have Hnn := hid hnn
  clear hEE hRR hE1 hnn hk hw hV hB0 hkV hl hlk hwV hr0
  by_cases h0 : E = 0
  · obtain ⟨hok, hwok, _⟩ := Hok.out h0
    rw [if_pos h0] at hE
    have hn12 := hok.n12
    have Hok2 := hid hok; have Hwok := hid hwok
    have Hcok := hid (fun c (hc : c ∈ withL K ws r) => casesOf_ok hok.cop c (List.mem_filter.1 hc).1)
    have Hnd := hid (List.Sublist.nodup List.filter_sublist (casesOf_nodup K) : (withL K ws r).Nodup)
    have Hml := hid (show (withL K ws r).length ≤ 1000000 by
      have h1 := List.length_filter_le (fun c => decide (resultOf ws c = r)) (casesOf K)
      have h2 := casesOf_len K
      unfold withL
      omega)
    subst h0
    by_cases hwi : -1 ≤ r ∧ r ≤ 1
    · rw [if_pos (within_one.2 hwi)] at hE
      have HL := hid fun (w' : World) (h : Below V.heap.size V w') => with_c ka kc K wa wc ws r w' (HkV.out.mono h) Hok2.out (HwV.out.mono h) Hwok.out
      rw [← Hnn.out] at HL
      obtain ⟨M, hM⟩ : ∃ M, M = withL K ws r := ⟨_, rfl⟩
      rw [← hM] at HL hE hR Hcok Hnd Hml
      unfold ListC at HL
      have HE := hid hE; have HR := hid hR
      have b2 : ¬ r < -1 := by omega
      have b3 : ¬ 1 < r := by omega
      have b4 : decide (r < -1) = false := by simpa using b2
      clear hE hR hok hwok hM
      go_enter Try.func25, Try.ntmps25
      go_upto_region 1 with (fail)
      rw [← HV.out]
      go_wp2_with fail
      refine (H1.out _ HV0.out).mono ?_
      rintro e w1 ⟨rfl, hB⟩
      have HB1 := hid (bstep HV0.out hB)
      have k0 := cstep k0 hB
      have k1 := cstep k1 hB
      clear hB
      go_wp2_with fail
      refine (HL.out _ HB1.out).mono ?_
      rintro e w2 ⟨ma, mc, rfl, hM, ⟨_, _⟩, hB⟩
      have HB2 := hid (bstep HB1.out hB)
      have k0 := cstep k0 hB
      have k1 := cstep k1 hB
      clear hB
      have HM2 := hid hM
      clear hM
      by_cases hz : M.length = 0
      · have hE := HE.out
        rw [if_pos hz] at hE
        have hR := HR.out
        rw [hE, if_neg (by decide)] at hR
        have HE2 := hid hE; have HR2 := hid hR
        have hr4 := Hr0.out.mono HB2.out
        have Hr4 := hid hr4
        have f0 := hr4.f0; have f1 := hr4.f1; have r0 := hr4.c0; have r1 := hr4.c1
        have HBw := hid (bstep HB0.out HB2.out)
        have b1 : ((M.length : Int) == 0) = true := by simpa using hz
        rw [hz]
        clear hE hR HE HR hr4 hz
        go_wp2
        refine bodyPost_ret (results_c24t rfl _ _ (w.heap.size + 1) (.slice none 0 0) (.bool false) rfl (Hr4.out.set _ _)) rfl ?_
        exact ⟨none, by rw [HE2.out, HR2.out]; rfl, by rw [HR2.out]; exact IntsAt.nil _ _, below_set2 HBw.out (by omega) _ _⟩
      · have hE := HE.out
        rw [if_neg hz] at hE
        have hR := HR.out
        rw [if_pos hE] at hR
        have HE2 := hid hE
        have HLc := hid (left_c K.cop.length ma mc M w2 (by omega) HM2.out Hml.out Hnd.out Hcok.out)
        unfold KnC at HLc
        rw [← hR] at HLc
        have b1 : ((M.length : Int) == 0) = false := by rw [beq_eq_false_iff_ne]; omega
        clear hE hR HE HR hz
        go_wp2_with fail
        refine HLc.out.mono ?_
        rintro e w3 ⟨b, rfl, hK, hbw, hB⟩
        have HB3 := hid (bstep HB2.out hB)
        have HK3 := hid hK
        have Hbw := hid (show w.heap.size + 1 < b from Nat.lt_of_lt_of_le (Nat.lt_of_lt_of_le Hr0.out.lt HB2.out.size) hbw)
        have hr4 := Hr0.out.mono HB3.out
        have Hr4 := hid hr4
        have f0 := hr4.f0; have f1 := hr4.f1; have r0 := hr4.c0; have r1 := hr4.c1
        have HBw := hid (bstep HB0.out HB3.out)
        clear hB hK hbw hr4
        go_wp2
        refine bodyPost_ret (results_c24t rfl _ _ (w.heap.size + 1) (.slice (some ⟨b, 0, none⟩) R.cop.length R.cop.length) (.bool R.none) rfl (Hr4.out.set _ _)) rfl ?_
        refine ⟨some ⟨b, 0, none⟩, by rw [HE2.out]; rfl, ?_, below_set2 HBw.out (by omega) _ _⟩
        exact (IntsAt.only (S := fun q => q = w.heap.size + 1) HK3.out ((setCell_only _ _ _).trans (setCell_only _ _ _)) (fun q off e h => by cases e; have h : b = w.heap.size + 1 := h; have := Hbw.out; omega))
    · rw [if_neg (fun h => hwi (within_one.1 h))] at hE
      rw [hE, if_neg (by decide)] at hR
      have HE := hid hE; have HR := hid hR
      clear hE hR hok hwok
      have Hfin := hid fun (w' : World) (h : Below V.heap.size V w') => (show V2At w' (w.heap.size + 1) 24 (.slice none 0 0) (.bool false) from Hr0.out.mono h)
      by_cases hb2 : r < -1
      · have b4 : decide (r < -1) = true := by simpa using hb2
        go_enter Try.func25, Try.ntmps25
        go_upto_region 1 with (fail)
        rw [← HV.out]
        go_wp2_with fail
        refine (H1.out _ HV0.out).mono ?_
        rintro e w1 ⟨rfl, hB⟩
        have HB1 := hid (bstep HV0.out hB)
        have k0 := cstep k0 hB
        have k1 := cstep k1 hB
        clear hB
        have hr4 := Hfin.out _ HB1.out
        have Hr4 := hid hr4
        have f0 := hr4.f0; have f1 := hr4.f1; have r0 := hr4.c0; have r1 := hr4.c1
        have HBw := hid (bstep HB0.out HB1.out)
        clear hr4
        go_wp2
        refine bodyPost_ret (results_c24t rfl _ _ (w.heap.size + 1) (.slice none 0 0) (.bool false) rfl (Hr4.out.set _ _)) rfl ?_
        exact ⟨none, by rw [HE.out, HR.out]; rfl, by rw [HR.out]; exact IntsAt.nil _ _, below_set2 HBw.out (by omega) _ _⟩
      · have b4 : decide (r < -1) = false := by simpa using hb2
        have b3 : 1 < r := by omega
        go_enter Try.func25, Try.ntmps25
        go_upto_region 1 with (fail)
        rw [← HV.out]
        go_wp2_with fail
        refine (H1.out _ HV0.out).mono ?_
        rintro e w1 ⟨rfl, hB⟩
        have HB1 := hid (bstep HV0.out hB)
        have k0 := cstep k0 hB
        have k1 := cstep k1 hB
        clear hB
        have hr4 := Hfin.out _ HB1.out
        have Hr4 := hid hr4
        have f0 := hr4.f0; have f1 := hr4.f1; have r0 := hr4.c0; have r1 := hr4.c1
        have HBw := hid (bstep HB0.out HB1.out)
        clear hr4
        go_wp2
        refine bodyPost_ret (results_c24t rfl _ _ (w.heap.size + 1) (.slice none 0 0) (.bool false) rfl (Hr4.out.set _ _)) rfl ?_
        exact ⟨none, by rw [HE.out, HR.out]; rfl, by rw [HR.out]; exact IntsAt.nil _ _, below_set2 HBw.out (by omega) _ _⟩
  · rw [if_neg h0] at hE
    rw [hE, if_neg h0] at hR
    have HE := hid hE; have HR := hid hR
    clear hE hR
    have b1 : (E != 0) = true := by simpa using h0
    go_enter Try.func25, Try.ntmps25
    go_upto_region 1 with (fail)
    rw [← HV.out]
    go_wp2_with fail
    refine (H1.out _ HV0.out).mono ?_
    rintro e w1 ⟨rfl, hB⟩
    have HB1 := hid (bstep HV0.out hB)
    have k0 := cstep k0 hB
    have k1 := cstep k1 hB
    clear hB
    go_wp2_with fail
    refine (H1.out _ HB1.out).mono ?_
    rintro e w2 ⟨rfl, hB⟩
    have HB2 := hid (bstep HB1.out hB)
    clear hB
    have hr4 := Hr0.out.mono HB2.out
    have Hr4 := hid hr4
    have f0 := hr4.f0; have f1 := hr4.f1; have r0 := hr4.c0; have r1 := hr4.c1
    have HBw := hid (bstep HB0.out HB2.out)
    clear hr4
    go_wp2
    refine bodyPost_ret (results_c24t rfl _ _ (w.heap.size + 1) (.slice none 0 0) (.bool false) rfl (Hr4.out.set _ _)) rfl ?_
    exact ⟨none, by rw [HE.out, HR.out]; rfl, by rw [HR.out]; exact IntsAt.nil _ _, below_set2 HBw.out (by omega) _ _⟩
end

end Go.Proofs.Ytelgbjfgmpkepaa
