/- Walks: needed. -/
import Derived.Test.YtelgbjfgmpkepaaKK
import Derived.Test.YtelgbjfgmpkepaaKC
namespace Go.Proofs.Ytelgbjfgmpkepaa
open Go.RowKit Go.Shelf

set_option maxRecDepth 100000 in
theorem splits_c (c : Cnt) (w : World) : Calls Try.prog 89 #[cntV c] w fun e w' => e = .returned (.func (.func 97) #[] #[.pointer (some ⟨w.heap.size, 0, none⟩)]) ∧ w' = w.alloc (.cells #[.int .i64 (c.g : Int), .int .i64 (c.l : Int), .int .i64 (c.h : Int), .int .i64 (c.b : Int), .int .i64 (c.z : Int)] 95) := by
  unfold cntV
  go_enter Try.func89, Try.ntmps89
  go_wp2
  go_ret
  exact ⟨rfl, rfl⟩
theorem enters97 : ∀ args w, (callFunc 97 args).run Try.prog w = .ok (.enter 97 args) w := enters_of Try.func97 (by kernel_rfl) rfl
/-- the least of the first k -/
structure MinTo (c : Cnt) (k v : Nat) : Prop where
  le : v ≤ 1000
  all : ∀ p ∈ (splitsS c).take k, v ≤ aft 1000 c p + 1
  is : v = 1000 ∨ ∃ p ∈ (splitsS c).take k, v = aft 1000 c p + 1
theorem minTo_zero (c : Cnt) : MinTo c 0 1000 := ⟨Nat.le_refl _, fun p h => by simp at h, .inl rfl⟩
theorem MinTo.step {c : Cnt} {k v : Nat} (h : MinTo c k v) {p : Pn} (hp : (splitsS c)[k]? = some p) : MinTo c (k + 1) (min v (aft 1000 c p + 1)) := by
  have ht : (splitsS c).take (k + 1) = (splitsS c).take k ++ [p] := by
    obtain ⟨hk, e⟩ := List.getElem?_eq_some_iff.1 hp
    rw [List.take_succ_eq_append_getElem hk, e]
  refine ⟨by have := h.le; omega, fun q hq => ?_, ?_⟩
  · rw [ht, List.mem_append, List.mem_singleton] at hq
    rcases hq with hq | rfl
    · have := h.all q hq; omega
    · omega
  · rw [ht]
    rcases Nat.le_total v (aft 1000 c p + 1) with hle | hle
    · rw [Nat.min_eq_left hle]
      rcases h.is with h1 | ⟨q, hq, h1⟩
      · exact .inl h1
      · exact .inr ⟨q, List.mem_append_left _ hq, h1⟩
    · rw [Nat.min_eq_right hle]
      exact .inr ⟨p, List.mem_append_right _ (List.mem_singleton_self _), rfl⟩
theorem MinTo.end {c : Cnt} {v : Nat} (h : MinTo c (splitsS c).length v) (h1 : 1 < c.cases) : v = nd 1000 c := by
  rw [nd_eqS 1000 (by omega), if_neg (by omega)]
  obtain ⟨hle, hall, his⟩ := h
  rw [List.take_length] at hall his
  refine (minL_eq hle (fun x hx => ?_) ?_).symm
  · obtain ⟨p, hp, rfl⟩ := List.mem_map.1 hx
    exact hall p hp
  · rcases his with h | ⟨p, hp, h⟩
    · exact .inl h
    · exact .inr (List.mem_map.2 ⟨p, hp, h.symm⟩)
/-- a box of one value -/
def VAt (w : World) (g : Nat) (t : TypeId) (v : Value) : Prop := w.heap[g]? = some (.cells #[v] t (0, 0))
section
variable {w w' : World} {g : Nat} {t : TypeId} {v : Value}
theorem VAt.c (h : VAt w g t v) : w.cell? ⟨g, 0, none⟩ = some v := by rw [cell_of_row _ _ _ _ _ _ h]; rfl
theorem VAt.f (h : VAt w g t v) : w.frozen? ⟨g, 0, none⟩ = false := frozen_of_row w _ 0 _ _ h
theorem VAt.lt (h : VAt w g t v) : g < w.heap.size := (Array.getElem?_eq_some_iff.1 h).1
theorem VAt.mono (h : VAt w g t v) (hB : Below w.heap.size w w') : VAt w' g t v := (hB.block _ h.lt).trans h
theorem VAt.only (h : VAt w g t v) {T : Nat → Prop} (ho : Only T w w') (hT : ¬ T g) : VAt w' g t v := (ho.block _ h.lt hT).trans h
theorem VAt.set (h : VAt w g t v) (u : Value) : VAt (w.setCell ⟨g, 0, none⟩ u) g t u := heap_setCell_same w _ 0 #[v] t u h
theorem VAt.other (h : VAt w g t v) {r : Nat} (hr : g ≠ r) (k : Nat) (u : Value) : VAt (w.setCell ⟨r, k, none⟩ u) g t v := (Below.heap_setCell _ _ _ _ (fun e => hr e)).trans h
end
/-- what the range in needed keeps -/
structure NdI (w0 : World) (c : Cnt) (g m cb fb nb : Nat) (k : Nat) (W : World) : Prop where
  le : k ≤ (splitsS c).length
  memo : MemoAt W m
  n : ∃ v : Nat, MinTo c k v ∧ VAt W nb 3 (.int .i64 ((v : Nat) : Int))
  only : Only (fun q => q = m ∨ q = nb) w0 W
theorem NdI.keep {w0 : World} {c : Cnt} {g m cb fb nb k : Nat} {W W' : World} (h : NdI w0 c g m cb fb nb k W) {T : Nat → Prop} (ho : Only T W W') (hm : ¬ T m) (hn : ¬ T nb) (hT : ∀ q, q < w0.heap.size → ¬ T q) : NdI w0 c g m cb fb nb k W' := by
  obtain ⟨v, h1, h2⟩ := h.n
  have hl := h.memo.lt
  refine ⟨h.le, h.memo.same (ho.block _ hl hm), ⟨v, h1, h2.only ho hn⟩, ⟨ho.os.trans h.only.os, ho.tape.trans h.only.tape, ho.output.trans h.only.output, Nat.le_trans h.only.size ho.size, fun q hq hs => (ho.block q (Nat.lt_of_lt_of_le hq h.only.size) (hT q hq)).trans (h.only.block q hq hs)⟩⟩
set_option maxRecDepth 100000 in
theorem keyOf_93 {a b c e : Nat} (ha : a < 100) (hb : b < 100) (hc : c < 100) (he : e < 100) : ∃ l, keyOf Try.prog 93 (.agg #[.int .i64 (a : Int), .int .i64 (b : Int), .int .i64 (c : Int), .int .i64 (e : Int)]) = some l := by
  unfold keyOf
  rw [Try.underlying93]
  have hf : (Value.agg #[.int .i64 (a : Int), .int .i64 (b : Int), .int .i64 (c : Int), .int .i64 (e : Int)]).formed Try.prog 93 = true := by
    simp [Value.formed, Try.underlying93, cells93]
  obtain ⟨d, hd⟩ : ∃ d, Try.prog.types.size + 1 = d + 2 := ⟨Try.prog.types.size - 1, by
    have : 3 ≤ Try.prog.types.size := of_decide_eq_true (by kernel_rfl)
    omega⟩
  rw [keyType93, hf, hd]
  have h2 := keyLits93 d ha hb hc he
  simp [Value.cells, h2]
set_option maxRecDepth 100000 in
theorem eq_told {k : TypeId} (hk : Try.prog.keyTypeAt 3 k = true) (hw : (match Try.prog.underlying k with | some (.array _ _) | some (.struct _) => true | _ => false) = true) {x y : Value} {lx ly : Lit} (hx : keyOf Try.prog k x = some lx) (hy : keyOf Try.prog k y = some ly) :
    ∃ r : Bool, ∀ w, (Op.equal k x y).run Try.prog w = .ok r w := by
  by_cases h : lx = ly
  · refine ⟨true, fun w => ?_⟩
    obtain ⟨r, hr, hi⟩ := run_equal_deep w (m := 3) (by omega) hk hw hx hy
    rw [hr, hi.2 h]
  · refine ⟨false, fun w => ?_⟩
    obtain ⟨r, hr, hi⟩ := run_equal_deep w (m := 3) (by omega) hk hw hx hy
    cases r with
    | true => exact absurd (hi.1 rfl) h
    | false => exact hr
set_option maxRecDepth 100000 in
theorem neq95 {q c : Cnt} (hq : q.small) (hc : c.small) : ∃ r : Bool, ∀ w, (binOp .neq 95 (cntV q) (cntV c)).run Try.prog w = .ok (.bool r) w := by
  obtain ⟨r, h⟩ := eq_told key95 wide95 (keyOf_cnt hq) (keyOf_cnt hc)
  refine ⟨!r, fun w => ?_⟩
  have h1 := h w
  unfold cntV at h1 ⊢
  simp only [Op.equal, Op.maxDepth] at h1
  rw [run_neq_struct, h1]
  rfl
set_option maxRecDepth 100000 in
theorem eql93 {q : Cnt} (hq : q.small) : ∃ r : Bool, ∀ w, (binOp .eql 93 (.agg #[.int .i64 (q.g : Int), .int .i64 (q.l : Int), .int .i64 (q.h : Int), .int .i64 (q.b : Int)]) (.agg #[.int .i64 (q.g : Int), .int .i64 1, .int .i64 1, .int .i64 0])).run Try.prog w = .ok (.bool r) w := by
  obtain ⟨h1, h2, h3, h4, h5⟩ := hq
  obtain ⟨l1, e1⟩ := keyOf_93 h1 h2 h3 h4
  obtain ⟨l2, e2⟩ := keyOf_93 (b := 1) (c := 1) (e := 0) h1 (by omega) (by omega) (by omega)
  obtain ⟨r, h⟩ := eq_told key93 wide93 e1 e2
  refine ⟨r, fun w => ?_⟩
  have h1 := h w
  simp only [Op.equal, Op.maxDepth] at h1
  rw [run_eql_struct]
  change (Op.equalIn 10000 93 (.agg #[.int .i64 (q.g : Int), .int .i64 (q.l : Int), .int .i64 (q.h : Int), .int .i64 (q.b : Int)]) (.agg #[.int .i64 (q.g : Int), .int .i64 1, .int .i64 1, .int .i64 0])).run Try.prog w = _ at h1
  rw [h1]
  rfl
theorem Only.old {S T : Nat → Prop} {A B C : World} (h : Only S A B) (k : Only T B C) (hT : ∀ q, q < A.heap.size → T q → S q) : Only S A C :=
  ⟨k.os.trans h.os, k.tape.trans h.tape, k.output.trans h.output, Nat.le_trans h.size k.size, fun q hq hs => (k.block q (Nat.lt_of_lt_of_le hq h.size) (fun t => hs (hT q hq t))).trans (h.block q hq hs)⟩
theorem results_t1 {fn : Func} {u : Tmp} (h : fn.results = #[.tmp u]) (tmps : Array Value) (P : Program) (w : World) :
    (results fn tmps).run P w = .ok (tmps.getD u undef) w := by
  simp [results, h]
/-- how many entries are left to an iterator of the map -/
def itMu (w : World) (b t : Nat) : Nat := match w.heap[b]?, w.heap[t]? with
  | some (.map es _), some (.mapIter _ _ seen _) => (leftOf es seen).size
  | _, _ => 0
theorem MapIt.mu {w : World} {b t : Nat} {f : Cnt → Option Int} {n : Nat} (h : MapIt w b t f n) : itMu w b t = n := by
  obtain ⟨L, c, since, c0, seen, h1, h2, h3, h4, h5, h6, h7, h8⟩ := h
  unfold itMu
  rw [h1, h4, h8]
/-- a world behind calls that may fill the map -/
def RhoM (m : Nat) (A B : World) : Prop := Only (fun q => q = m) A B ∧ (MemoAt A m → MemoAt B m)
theorem preM (m : Nat) : Pre (RhoM m) :=
  ⟨fun A => ⟨Only.refl _ A, id⟩, fun h k => ⟨h.1.trans k.1, fun x => k.2 (h.2 x)⟩, fun A => ⟨only_drewN _ A 1, fun h => h.same rfl⟩, fun h => h.1.size⟩
theorem abidesTR (ρ : World → World → Prop) : AbidesR ρ fun _ => True := fun _ _ _ _ => trivial
theorem NumM.rho {m v : Nat} {w w' : World} {e : Ending} (h : NumM m w v e w') : e = .returned (.int .i64 ((v : Nat) : Int)) ∧ RhoM m w w' := ⟨h.1, h.2.2, fun _ => h.2.1⟩
section
variable (c : Cnt) (g m : Nat) (w : World)
attribute [local go_sem] Oper.semAt_some in
attribute [-go_sem] run_neq_struct run_eql_struct in
set_option maxRecDepth 100000 in
set_option maxHeartbeats 4000000 in
theorem needed_step (hc : c.fine) (h0 : 0 < c.cases) (IH : NeedTo c.cases) (hg : w.cell? ⟨g, 2, none⟩ = some (.map (some m))) (hM : MemoAt w m) : Calls Try.prog 77 #[.pointer (some ⟨g, 0, none⟩), cntV c] w (NumM m w (nd 1000 c)) := by
  obtain ⟨V, hV, hB, hi⟩ := box95 w c
  have hMV := hM.mono hB
  have hgV := cstep hg hB
  have H1 := hid fun (w' : World) => cases_87 c hc.small w'
  unfold TellI at H1
  have c0 := hi.c0; have c1 := hi.c1; have c2 := hi.c2; have c3 := hi.c3; have c4 := hi.c4
  have HV := hid hV; have HB := hid hB; have Hi := hid hi
  by_cases hc1 : c.cases = 1
  · have hn := nd_one 1000 hc1
    unfold NumM
    rw [hn]
    rw [hc1] at H1
    have HMV := hid hMV
    rw [cntV_eq] at H1 ⊢
    clear hV hB hi hn hc1 hM IH hg hgV hMV
    go_enter Try.func77, Try.ntmps77
    go_upto_region 1 with (fail)
    rw [← HV.out]
    go_wp2_with fail
    refine (H1.out V).mono ?_
    rintro e w1 ⟨rfl, hB1⟩
    have HM1 := hid (HMV.out.mono hB1); have HO := hid (Only.of_below (S := fun q => q = m) (bstep HB.out hB1))
    clear hB1
    go_wp2
    go_ret
    exact ⟨rfl, HM1.out, HO.out⟩
  · have b1 : ((c.cases : Int) == 1) = false := by rw [beq_eq_false_iff_ne]; omega
    obtain ⟨f, hf, hfv⟩ := hMV
    cases hfc : f c with
    | some v =>
      have hv := hfv c v hfc
      have hl := hid fun (w' : World) (h : Below V.heap.size V w') => map_look (hf.same (h.block _ hf.lt)) hc.small
      rw [hfc] at hl
      have HMV := hid (show MemoAt V m from ⟨f, hf, hfv⟩)
      unfold NumM
      rw [← hv]
      rw [cntV_eq] at H1 ⊢
      simp only [cntV_eq c, Option.getD_some, Option.isSome_some] at hl
      have hcs : 1 < c.cases := by omega
      obtain ⟨cc, hcc⟩ : ∃ n, n = c.cases := ⟨_, rfl⟩
      rw [← hcc] at H1 b1
      clear hV hB hi hc1 hM IH hg hf hfv hfc hv hcs hcc h0 hc
      go_enter Try.func77, Try.ntmps77
      go_upto_region 1 with (fail)
      rw [← HV.out]
      go_wp2_with fail
      refine (H1.out V).mono ?_
      rintro e w1 ⟨rfl, hB1⟩
      have HM1 := hid (HMV.out.mono hB1); have HO := hid (Only.of_below (S := fun q => q = m) (bstep HB.out hB1))
      have hlk := fun s : Later w1 => hl.out s.w' (bstep hB1 s.h)
      have c0 := cstep c0 hB1; have c1 := cstep c1 hB1; have c2 := cstep c2 hB1; have c3 := cstep c3 hB1; have c4 := cstep c4 hB1; have cg := cstep hgV hB1
      have j0 := fun s : Later w1 => cstep c0 s.h
      have j1 := fun s : Later w1 => cstep c1 s.h
      have j2 := fun s : Later w1 => cstep c2 s.h
      have j3 := fun s : Later w1 => cstep c3 s.h
      have j4 := fun s : Later w1 => cstep c4 s.h
      have jg := fun s : Later w1 => cstep cg s.h
      clear hB1 c0 c1 c2 c3 c4 cg hgV
      go_wp2
      refine wp_region_later (by kernel_rfl) (by kernel_rfl) ?_
      repeat (go_big_quiet_step (fail))
      refine wpQuiet_nil ?_
      rintro w2 ⟨s2, rfl⟩
      have HM2 := hid (HM1.out.mono s2.h); have HO2 := hid (HO.out.trans (Only.of_below s2.h))
      clear j0 j1 j2 j3 j4 jg hlk
      go_wp2
      go_ret
      exact ⟨rfl, HM2.out, HO2.out⟩
    | none =>
      have hl := hid fun (w' : World) (h : Below V.heap.size V w') => map_look (hf.same (h.block _ hf.lt)) hc.small
      rw [hfc] at hl
      have HMV := hid (show MemoAt V m from ⟨f, hf, hfv⟩)
      have HSp := hid fun (w' : World) => splits_c c w'
      have Hc := hid hc
      rw [cntV_eq] at H1 HSp ⊢
      simp only [cntV_eq c, Option.getD_none, Option.isSome_none] at hl
      have Hcs := hid (show 1 < c.cases by omega)
      have HIH := hid IH
      have Hg0 := hid hg
      have Hmg := hid (show m < w.heap.size from hM.lt)
      have Hmgne := hid (hM.ne hg)
      have Hgw := hid (lt_of_cell hg)
      obtain ⟨nn, hnn⟩ : ∃ n, n = nd 1000 c := ⟨_, rfl⟩
      rw [← hnn]
      have Hnn := hid hnn
      obtain ⟨cc, hcc⟩ : ∃ n, n = c.cases := ⟨_, rfl⟩
      rw [← hcc] at H1 b1
      unfold NumM
      clear hV hB hi hc1 hM IH hg hf hfv hfc hcc h0 hc hnn
      refine callsIn_wide.1 (callsIn_of_wp_marks (n := 0) Try.func77 rfl trivial ?_ rfl)
      simp only [Try.ntmps77, List.size_toArray, List.length_cons, List.length_nil, Nat.reduceAdd, Nat.reduceSub, Array.replicate_succ, Array.replicate_zero, List.push_toArray, List.append_toArray, List.nil_append, List.cons_append]
      refine wpIn_wide.2 ?_
      go_upto_region 1 with (fail)
      rw [← HV.out]
      go_wp2_with fail
      refine (H1.out V).mono ?_
      rintro e w1 ⟨rfl, hB1⟩
      have HM1 := hid (HMV.out.mono hB1); have HB1 := hid (bstep HB.out hB1)
      have hlk := fun s : Later w1 => hl.out s.w' (bstep hB1 s.h)
      have Hi1 := hid (Hi.out.mono hB1)
      have c0 := cstep c0 hB1; have c1 := cstep c1 hB1; have c2 := cstep c2 hB1; have c3 := cstep c3 hB1; have c4 := cstep c4 hB1; have cg := cstep hgV hB1
      have j0 := fun s : Later w1 => cstep c0 s.h
      have j1 := fun s : Later w1 => cstep c1 s.h
      have j2 := fun s : Later w1 => cstep c2 s.h
      have j3 := fun s : Later w1 => cstep c3 s.h
      have j4 := fun s : Later w1 => cstep c4 s.h
      have jg := fun s : Later w1 => cstep cg s.h
      clear hB1 c0 c1 c2 c3 c4 cg hgV
      go_wp2
      refine wp_region_later (by kernel_rfl) (by kernel_rfl) ?_
      repeat (go_big_quiet_step (fail))
      refine wpQuiet_nil ?_
      rintro w2 ⟨s2, rfl⟩
      have HM2 := hid (HM1.out.mono s2.h); have HB2 := hid (bstep HB1.out s2.h); have Hi2 := hid (Hi1.out.mono s2.h)
      clear j0 j1 j2 j3 j4 jg hlk
      obtain ⟨w2, _⟩ := s2
      simp only at HM2 HB2 Hi2 ⊢
      obtain ⟨w3, hw3⟩ : ∃ w3, w3 = (w2.alloc (.cells #[.func (.func 88) #[.pointer (some ⟨g, 0, none⟩)] #[]] 110)).alloc (.cells #[.int .i64 1000] 3) := ⟨_, rfl⟩
      have hB3 : Below w2.heap.size w2 w3 := by rw [hw3]; exact bstep (bnew _ _) (bnew _ _)
      have hz3 : w3.heap.size = w2.heap.size + 1 + 1 := by rw [hw3]; simp
      have hfb : VAt w3 w2.heap.size 110 (.func (.func 88) #[.pointer (some ⟨g, 0, none⟩)] #[]) := by
        rw [hw3]; exact VAt.mono (heap_alloc_new w2 _) (bnew _ _)
      have hnb : VAt w3 (w2.heap.size + 1) 3 (.int .i64 1000) := by
        rw [hw3]
        have := heap_alloc_new (w2.alloc (.cells #[.func (.func 88) #[.pointer (some ⟨g, 0, none⟩)] #[]] 110)) (.cells #[.int .i64 1000] 3)
        simpa [VAt] using this
      have HW3 := hid hw3; have HB3 := hid (bstep HB2.out hB3); have Hfb := hid hfb; have Hnb := hid hnb; have Hz3 := hid hz3
      have HM3 := hid (HM2.out.mono hB3); have Hi3 := hid (Hi2.out.mono hB3)
      have c0 := Hi3.out.c0; have c1 := Hi3.out.c1; have c2 := Hi3.out.c2; have c3 := Hi3.out.c3; have c4 := Hi3.out.c4
      clear hw3 hB3 hz3 hfb hnb
      go_upto_region 8 with (fail)
      rw [← HW3.out]
      go_wp2_with fail
      refine (HSp.out w3).mono ?_
      rintro e w4 ⟨rfl, hw4⟩
      have hB4 : Below w3.heap.size w3 w4 := by rw [hw4]; exact bnew _ _
      have hz4 : w4.heap.size = w3.heap.size + 1 := by rw [hw4]; simp
      have hcb : I5 w4 w3.heap.size 95 c.g c.l c.h c.b c.z := by rw [hw4]; exact i5_new _ _ _ _ _ _ _
      have Hz4 := hid hz4
      obtain ⟨nb, hnb⟩ : ∃ n, n = w2.heap.size + 1 := ⟨_, rfl⟩
      obtain ⟨fb, hfb⟩ : ∃ n, n = w2.heap.size := ⟨_, rfl⟩
      rw [← hnb] at Hnb ⊢
      rw [← hfb] at Hfb ⊢
      have hmb : m < w2.heap.size := Nat.lt_of_lt_of_le Hmg.out HB2.out.size
      have hwz : w.heap.size < w2.heap.size := Hi2.out.lt
      have HB4 := hid (bstep HB3.out hB4)
      have Hfb4 := hid (Hfb.out.mono hB4); have Hnb4 := hid (Hnb.out.mono hB4); have HM4 := hid (HM3.out.mono hB4); have Hi4 := hid (Hi3.out.mono hB4)
      have Hz := hid (show m < w4.heap.size ∧ nb < w4.heap.size ∧ fb < w4.heap.size ∧ w.heap.size < fb ∧ fb + 1 = nb ∧ m < w.heap.size ∧ g < w.heap.size by
        have := Hz3.out; have := Hmg.out; have := Hgw.out; omega)
      have hGen := splits1_c w3.heap.size c Hc.out.small w4 (fun q => q = m ∨ q = nb) (fun _ => False) (by rintro k (h | h) <;> (have := Hz.out; omega)) hcb (by rintro (h | h) <;> (have := Hz.out; have := Hz3.out; omega))
      have Hgen := hid hGen
      have Hg4 := hid (cstep Hg0.out HB4.out)
      have HI0 := hid (show NdI w4 c g m w.heap.size fb nb 0 w4 from ⟨Nat.zero_le _, HM4.out, ⟨1000, minTo_zero c, Hnb4.out⟩, Only.refl _ _⟩)
      clear hGen hw4 hB4 hz4 hcb hmb hwz c0 c1 c2 c3 c4 hnb hfb
      go_wp2
      refine (wpIn_wide (n := 0)).1 ?_
      refine range_lawU' rfl enters97 Hgen.out ?hS ⟨id, id⟩ ?hT ?hps ?hX (NdI w4 c g m w.heap.size fb nb) (fun _ _ _ => False) ?hI (fun _ _ _ _ h _ => h) ?hIT (fun _ _ _ _ h _ => h) ?hN HI0.out
        (fun t k v a₁ W => ∃ pb p, (splitsS c)[k]? = some p ∧ v = #[pnV p p.dif] ∧ P8 W pb p p.dif ∧ w4.heap.size + 2 ≤ pb ∧ a₁ = { tmps := (t.setIfInBounds 30 (pnV p p.dif)).setIfInBounds 9 (.pointer (some ⟨pb, 0, none⟩)), defers := [] }) ?hA ?hassign ?hbody ?hdone (fun _ _ _ h => h.elim)
      case hS => exact ⟨by rintro (h | h) <;> (have := Hz.out; omega), by rintro (h | h) <;> (have := Hz.out; omega)⟩
      case hT => exact ⟨by simp, by simp⟩
      case hps => rintro k v W ⟨p, hp, rfl⟩; rfl
      case hX => exact fun k v W W' h _ => h
      case hI => exact fun k W W' h ho => h.keep ho (by have := Hz.out; omega) (by have := Hz.out; omega) (fun q hq => by omega)
      case hIT => exact fun k W W' h ho => h.keep ho (by have := Hz.out; omega) (by have := Hz.out; omega) (fun q hq => by omega)
      case hN => exact fun k W h => h.le
      case hA =>
        rintro t k v a₁ W W' ⟨pb, p, h1, h2, h3, h4, h5⟩ ho
        exact ⟨pb, p, h1, h2, h3.same (ho.block _ h3.lt (by omega)), h4, h5⟩
      case hassign =>
        rintro l k v W K hlt hI ⟨p, hp, rfl⟩ hK
        unfold pnV at hK ⊢
        conv in (Act.mk _ _) => simp
        gi_wp2
        exact hK _ _ (bnew _ _) ⟨W.heap.size, p, hp, rfl, p8_new W p p.dif, by omega, by simp⟩
      case hbody =>
        rintro k v0 a₁ W hlt hI _ ⟨pb, p, hp, rfl, hP, hpb, rfl⟩ hk
        obtain ⟨v, hmin, hn⟩ := hI.n
        have hle := hmin.le
        have hz := Hz.out
        have hfit : Fits c p := mem_splitsS.1 (List.mem_of_getElem? hp)
        obtain ⟨y, hy⟩ : ∃ y, y = aft 1000 c p := ⟨_, rfl⟩
        have hyle : y ≤ 1000 := by rw [hy]; exact aft_le _ _ _
        have hmin2 := hmin.step hp
        have hO := hI.only
        have hcW : I5 W w.heap.size 95 c.g c.l c.h c.b c.z := Hi4.out.same (hO.block _ Hi4.out.lt (by omega))
        have hfW : VAt W fb 110 _ := Hfb4.out.only hO (by omega)
        have hgW : W.cell? ⟨g, 2, none⟩ = some (.map (some m)) := hO.cell Hg4.out (by have := Hmgne.out; simp only; omega)
        have hA := hid fun (J : World → Prop) (s : LaterR (RhoM m) W J) => (after_c g m c p p.dif s.w' Hc.out Hcs.out hfit HIH.out (s.h.1.cell hgW (fun e => Hmgne.out e)) (s.h.2 hI.memo)).mono fun e w2 h => h.rho
        obtain ⟨x, hx⟩ : ∃ x, x = p.dif := ⟨_, rfl⟩
        rw [← hy] at hA hmin2
        rw [← hx] at hA hP ⊢
        unfold pnV at hA ⊢
        rw [cntV_eq] at hA
        have jn := fun (J : World → Prop) (s : LaterR (RhoM m) W J) => s.h.1.cell hn.c (show ¬ nb = m by omega)
        have jf := fun (J : World → Prop) (s : LaterR (RhoM m) W J) => s.h.1.cell hfW.c (show ¬ fb = m by omega)
        have jc0 := fun (J : World → Prop) (s : LaterR (RhoM m) W J) => s.h.1.cell hcW.c0 (show ¬ w.heap.size = m by omega)
        have jc1 := fun (J : World → Prop) (s : LaterR (RhoM m) W J) => s.h.1.cell hcW.c1 (show ¬ w.heap.size = m by omega)
        have jc2 := fun (J : World → Prop) (s : LaterR (RhoM m) W J) => s.h.1.cell hcW.c2 (show ¬ w.heap.size = m by omega)
        have jc3 := fun (J : World → Prop) (s : LaterR (RhoM m) W J) => s.h.1.cell hcW.c3 (show ¬ w.heap.size = m by omega)
        have jc4 := fun (J : World → Prop) (s : LaterR (RhoM m) W J) => s.h.1.cell hcW.c4 (show ¬ w.heap.size = m by omega)
        have jp0 := fun (J : World → Prop) (s : LaterR (RhoM m) W J) => s.h.1.cell hP.c0 (show ¬ pb = m by omega)
        have jp1 := fun (J : World → Prop) (s : LaterR (RhoM m) W J) => s.h.1.cell hP.c1 (show ¬ pb = m by omega)
        have jp2 := fun (J : World → Prop) (s : LaterR (RhoM m) W J) => s.h.1.cell hP.c2 (show ¬ pb = m by omega)
        have jp3 := fun (J : World → Prop) (s : LaterR (RhoM m) W J) => s.h.1.cell hP.c3 (show ¬ pb = m by omega)
        have jp4 := fun (J : World → Prop) (s : LaterR (RhoM m) W J) => s.h.1.cell hP.c4 (show ¬ pb = m by omega)
        have jp5 := fun (J : World → Prop) (s : LaterR (RhoM m) W J) => s.h.1.cell hP.c5 (show ¬ pb = m by omega)
        have jp6 := fun (J : World → Prop) (s : LaterR (RhoM m) W J) => s.h.1.cell hP.c6 (show ¬ pb = m by omega)
        have jp7 := fun (J : World → Prop) (s : LaterR (RhoM m) W J) => s.h.1.cell hP.c7 (show ¬ pb = m by omega)
        have HI := hid hI; have Hn := hid hn; have Hmin2 := hid hmin2; have Hk := hid hk
        haveI : Nonempty (LaterR (RhoM m) W fun _ => True) := ⟨⟨W, (preM m).refl _, trivial⟩⟩
        clear hI hn hmin hmin2 hO hcW hfW hgW hP hfit hp hx hy hpb hk b1
        conv in (Act.mk _ _) => simp
        gi_wp2
        refine wpIn_region_mixR (preM m) (n := 7) (nz := []) (dp := fun _ => []) (bs := [false, false, false, false, false, false, false, true]) (Φ := fun _ _ _ _ _ => True) (by kernel_rfl) (by kernel_rfl) (by simp) (by simp) ?_
        simp only [blindL, blindO, if_true, Bool.false_eq_true, if_false]
        repeat (gi_big_quiet_step ((refine ⟨rfl, ?_⟩; gi_at_call 88; with_reducible exact callsJR (preM m) (abidesTR _) (hA.out _ _))))
        refine wpQuietIn_nil ?_
        refine ⟨?_, ?_⟩
        · intro J hJ hne
          repeat (gi_big_quiet_step ((refine ⟨rfl, ?_⟩; gi_at_call 88; with_reducible exact callsJR (preM m) hJ (hA.out _ _))))
          exact wpQuietIn_nil rfl
        · refine mixAsk0R ?_
          intro s hs
          have hns := Hn.out.only hs.1 (show ¬ nb = m by omega)
          have cn := hns.c
          have fn := hns.f
          have Hns := hid hns; have Hs := hid hs
          clear hns hs jn jf jc0 jc1 jc2 jc3 jc4 jp0 jp1 jp2 jp3 jp4 jp5 jp6 jp7 hA
          have key := hid (show ∀ (z : Int) (a : Act), z = ((min v (y + 1) : Nat) : Int) → roundEndsX (fun q => q = m ∨ q = nb) (fun _ => False) (NdI w4 c g m w.heap.size fb nb) (fun _ _ _ => False) k W .normal a (s.setCell ⟨nb, 0, none⟩ (.int .i64 z)) by
            rintro z a rfl
            have hO1 : Only (fun q => q = m ∨ q = nb) W (s.setCell ⟨nb, 0, none⟩ (.int .i64 ((min v (y + 1) : Nat) : Int))) := Only.setCell (Hs.out.1.mono fun q h => .inl h) (.inr rfl) _
            exact ⟨hO1, by have := Hk.out; omega, (Hs.out.2 HI.out.memo).same (Below.heap_setCell _ _ _ _ (fun e => by have e : m = nb := e; omega)), ⟨_, Hmin2.out, Hns.out.set _⟩, HI.out.only.trans hO1⟩)
          simp only [List.drop_succ_cons, List.drop_zero]
          gi_wp2
          · exact key.out _ _ (by omega)
          · exact key.out _ _ (by omega)
      case hdone =>
        rintro k W hk hI hD hlt
        obtain rfl : k = (splitsS c).length := hk
        obtain ⟨v, hmin, hn⟩ := hI.n
        have hv := hmin.end Hcs.out
        rw [← Hnn.out] at hv
        rw [hv] at hn
        have hz := Hz.out
        have hO := hI.only
        have hcW : I5 W w.heap.size 95 c.g c.l c.h c.b c.z := Hi4.out.same (hO.block _ Hi4.out.lt (by omega))
        have hgW : W.cell? ⟨g, 2, none⟩ = some (.map (some m)) := hO.cell Hg4.out (by have := Hmgne.out; simp only; omega)
        have jn := fun (J : World → Prop) (s : LaterJ W J) => cstep hn.c s.h
        have jg := fun (J : World → Prop) (s : LaterJ W J) => cstep hgW s.h
        have jc0 := fun (J : World → Prop) (s : LaterJ W J) => cstep hcW.c0 s.h
        have jc1 := fun (J : World → Prop) (s : LaterJ W J) => cstep hcW.c1 s.h
        have jc2 := fun (J : World → Prop) (s : LaterJ W J) => cstep hcW.c2 s.h
        have jc3 := fun (J : World → Prop) (s : LaterJ W J) => cstep hcW.c3 s.h
        have jc4 := fun (J : World → Prop) (s : LaterJ W J) => cstep hcW.c4 s.h
        have HI := hid hI; have Hn := hid hn; have HD := hid hD; have HcW := hid hcW; have HgW := hid hgW; have Hlt := hid hlt
        clear hv hI hn hmin hO hcW hgW hD b1 hlt
        go_wp2
        refine wp_region_mix (n := 6) (nz := []) (dp := fun _ => []) (bs := [false, false, false, false, false, false, true]) (Φ := fun _ _ _ _ _ => True) (by kernel_rfl) (by kernel_rfl) (by simp) ?_
        simp only [blindL, blindO, if_true, Bool.false_eq_true, if_false]
        repeat (gi_big_quiet_step (fail))
        refine wpQuietIn_nil ?_
        refine ⟨?_, ?_⟩
        · intro J hJ hne
          repeat (gi_big_quiet_step (fail))
          exact wpQuietIn_nil rfl
        · refine mixAsk0 ?_
          intro s hs
          obtain ⟨f1, hf1, hfv1⟩ := HI.out.memo.mono hs
          obtain ⟨W1, hup, hO1, hz1, hf2⟩ := map_update hf1 Hc.out.small (nn : Int)
          have hM1 : ∀ q v, upd f1 c (some (nn : Int)) q = some v → v = ((nd 1000 q : Nat) : Int) := by
            intro q v hq
            unfold upd at hq
            split at hq
            · rename_i hqc
              simp only [Option.some.injEq] at hq
              rw [hqc]
              rw [← hq, Hnn.out]
            · exact hfv1 q v hq
          obtain ⟨f2, hf2e⟩ : ∃ f2, f2 = upd f1 c (some (nn : Int)) := ⟨_, rfl⟩
          rw [← hf2e] at hf2 hM1
          obtain ⟨W2, n2, hrg, hB2, hit⟩ := map_range hf2
          have hm2 : m < W1.heap.size := hf2.lt
          obtain ⟨t, ht⟩ : ∃ t, t = W1.heap.size := ⟨_, rfl⟩
          rw [← ht] at hrg hit
          have Ht := hid ht
          rw [cntV_eq] at hup
          clear ht hz1
          have Hs := hid hs; have HO1 := hid hO1; have HB2 := hid hB2; have Hit := hid hit; have HM1 := hid hM1
          have hgs := cstep HgW.out hs
          have hg1 := hO1.cell hgs (by have := Hmgne.out; simp only; omega)
          have Hc2 := hid (show I5 W2 w.heap.size 95 c.g c.l c.h c.b c.z from I5.mono ((HcW.out.mono hs).same (hO1.block _ (HcW.out.mono hs).lt (by omega))) hB2)
          have Hg2 := hid (cstep hg1 hB2)
          have HD2 := hid (show W2.heap[w4.heap.size]? = some (.deferred (some [])) by
            have e1 := (hs.block _ Hlt.out).trans HD.out
            have e2 := (hO1.block _ (Array.getElem?_eq_some_iff.1 e1).1 (by have := Hz.out; omega)).trans e1
            exact (hB2.block _ (Array.getElem?_eq_some_iff.1 e2).1).trans e2)
          have HOw2 := hid (((((Only.of_below HB4.out).old HI.out.only (show ∀ q, q < w.heap.size → q = m ∨ q = nb → q = m by have := Hz.out; omega)).trans (Only.of_below hs)).trans hO1).trans (Only.of_below hB2))
          have Hn2 := hid (show VAt W2 nb 3 (.int .i64 (nn : Int)) from VAt.mono ((Hn.out.mono hs).only hO1 (by omega)) hB2)
          have Ht2 := hid (show m < t ∧ nb < t ∧ fb < t ∧ w.heap.size < t ∧ g < t ∧ w4.heap.size < t ∧ m < w.heap.size ∧ w.heap.size < fb ∧ fb + 1 = nb ∧ g < w.heap.size by
            have := Ht.out; have := Hs.out.size; have := HO1.out.size; have := Hlt.out; omega)
          clear jn jg jc0 jc1 jc2 jc3 jc4 hf1 hfv1 hf2 hf2e hs hO1 hB2 hit hM1 hgs
          simp only [List.drop_succ_cons, List.drop_zero]
          gi_wp2
          go_wp2
          go_loopw [10, 11] (fun _ _ wr => (∃ f n, MapIt wr m t f n ∧ ∀ q v, f q = some v → v = ((nd 1000 q : Nat) : Int)) ∧ Only (fun q => q = m ∨ q = t) W2 wr) (fun _ _ wr => itMu wr m t)
          case atStart => exact ⟨⟨f2, n2, Hit.out, HM1.out⟩, Only.refl _ _⟩
          case round =>
            obtain ⟨⟨f, n, hit, hfv⟩, hO⟩ := hrel
            obtain ⟨wo, rfl⟩ : ∃ x : World, x = wr := ⟨_, rfl⟩
            have Hmu := hid hit.mu
            have Hfv := hid hfv; have HO := hid hO
            have hcO : I5 wo w.heap.size 95 c.g c.l c.h c.b c.z := Hc2.out.same (hO.block _ Hc2.out.lt (by have := Ht2.out; omega))
            have hgO : wo.cell? ⟨g, 2, none⟩ = some (.map (some m)) := hO.cell Hg2.out (by have := Ht2.out; have := Hmgne.out; simp only; omega)
            have hnO : VAt wo nb 3 (.int .i64 (nn : Int)) := Hn2.out.only hO (by have := Ht2.out; omega)
            have HcO := hid hcO; have HgO := hid hgO; have HnO := hid hnO
            have htO : W1.heap.size < wo.heap.size := Nat.lt_of_lt_of_le (by have := HB2.out.size; have := Hit.out.lt.2.1; have := Ht.out; omega) hO.size
            have HtO := hid htO
            have HDO := hid (show wo.heap[w4.heap.size]? = some (.deferred (some [])) from (hO.block _ (Array.getElem?_eq_some_iff.1 HD2.out).1 (by have := Ht2.out; have := Hz.out; omega)).trans HD2.out)
            have HmO := hid (show MemoAt wo m from ⟨f, hit.fn, hfv⟩)
            have HOw := hid (HOw2.out.old hO (by have := Ht2.out; omega))
            rcases map_next hit 0 with hno | ⟨q, v, w5, n5, hq, hqs, hnx, hen, hit5, hlt5, hO5, hz5⟩
            · clear hit hfv hO hcO hgO htO
              have cn := hnO.c
              clear hnO
              go_wp2
              refine ⟨by simp, .inl ⟨_, _, rfl, run_takeDeferred HDO.out, ?_⟩⟩
              refine ⟨_, results_t1 rfl _ _ _, rfl, ?_, HOw.out.old (Only.put1 wo w4.heap.size (.deferred none)) (by have := Hz.out; omega)⟩
              exact HmO.out.same ((Only.put1 wo w4.heap.size (.deferred none)).block _ HmO.out.lt (by have := Hz.out; omega))
            · have hen5 := hen w5 rfl rfl
              rw [cntV_eq] at hnx hen5
              clear hen
              have Hq := hid hq; have Hqs := hid hqs; have Hit5 := hid hit5; have Hlt5 := hid hlt5; have HO5 := hid hO5
              clear hit hfv hO hcO hgO htO hnO hq hqs hit5 hlt5 hO5 hz5
              obtain ⟨w6, hw6⟩ : ∃ w6, w6 = w5.alloc (.cells #[.int .i64 (q.g : Int), .int .i64 (q.l : Int), .int .i64 (q.h : Int), .int .i64 (q.b : Int), .int .i64 (q.z : Int)] 95) := ⟨_, rfl⟩
              have hB6 : Below w5.heap.size w5 w6 := by rw [hw6]; exact bnew _ _
              have hd6 : I5 w6 w5.heap.size 95 q.g q.l q.h q.b q.z := by rw [hw6]; exact i5_new _ _ _ _ _ _ _
              have Hw6 := hid hw6; have HB6 := hid hB6
              clear hw6
              go_upto_region 15 with (fail)
              rw [← Hw6.out]
              obtain ⟨qb, hqb⟩ : ∃ n, n = w5.heap.size := ⟨_, rfl⟩
              rw [← hqb] at hd6 ⊢
              clear hnx hen5
              have hO6 : Only (fun q => q = m ∨ q = t) W2 w6 := ((HO.out).trans (HO5.out.mono fun _ h => .inr h)).trans (Only.of_below hB6)
              have hc6 : I5 w6 w.heap.size 95 c.g c.l c.h c.b c.z := Hc2.out.same (hO6.block _ Hc2.out.lt (by have := Ht2.out; omega))
              have hg6 : w6.cell? ⟨g, 2, none⟩ = some (.map (some m)) := hO6.cell Hg2.out (by have := Ht2.out; have := Hmgne.out; simp only; omega)
              have hit6 : MapIt w6 m t f n5 := Hit5.out.same (hB6.block _ Hit5.out.lt.1) (hB6.block _ Hit5.out.lt.2.1)
              obtain ⟨r1, hr1⟩ := neq95 Hqs.out Hc.out.small
              obtain ⟨r2, hr2⟩ := eql93 Hqs.out
              rw [cntV_eq, cntV_eq] at hr1
              have hr1 := hr1 w6; have hr2 := hr2 w6
              have HO6 := hid hO6; have Hit6 := hid hit6; have Hd6 := hid hd6; have Hg6 := hid hg6
              have c0 := hc6.c0; have c1 := hc6.c1; have c2 := hc6.c2; have c3 := hc6.c3; have c4 := hc6.c4
              have d0 := hd6.c0; have d1 := hd6.c1; have d2 := hd6.c2; have d3 := hd6.c3; have d4 := hd6.c4
              have Hend := hid (show (∃ f n, MapIt w6 m t f n ∧ ∀ q v, f q = some v → v = ((nd 1000 q : Nat) : Int)) ∧ itMu w6 m t < itMu wo m t from ⟨⟨f, n5, hit6, Hfv.out⟩, by rw [hit6.mu, Hmu.out]; exact Hlt5.out⟩)
              clear hB6 hd6 hO6 hc6 hg6 hit6 hqb
              by_cases hv1 : v = 1
              · have b1 : (v == (1 : Int)) = true := by simp [hv1]
                clear hv1
                cases r1 with
                | false =>
                  clear hr2
                  go_wp2
                  go_roundw
                  case rel => exact ⟨Hend.out.1, HO6.out⟩
                  case measure => exact Hend.out.2
                | true =>
                cases r2 with
                | false =>
                  go_wp2
                  go_roundw
                  case rel => exact ⟨Hend.out.1, HO6.out⟩
                  case measure => exact Hend.out.2
                | true =>
                go_upto_region 16 with (fail)
                clear hr1 hr2
                have jg := fun (J : World → Prop) (s : LaterJ w6 J) => cstep Hg6.out s.h
                have e0 := fun (J : World → Prop) (s : LaterJ w6 J) => cstep d0 s.h
                have e1 := fun (J : World → Prop) (s : LaterJ w6 J) => cstep d1 s.h
                have e2 := fun (J : World → Prop) (s : LaterJ w6 J) => cstep d2 s.h
                have e3 := fun (J : World → Prop) (s : LaterJ w6 J) => cstep d3 s.h
                have e4 := fun (J : World → Prop) (s : LaterJ w6 J) => cstep d4 s.h
                clear c0 c1 c2 c3 c4 d0 d1 d2 d3 d4 b1
                refine wp_region_mix (n := 5) (nz := []) (dp := fun _ => []) (bs := [false, false, false, false, false, true]) (Φ := fun _ _ _ _ _ => True) (by kernel_rfl) (by kernel_rfl) (by simp) ?_
                simp only [blindL, blindO, if_true, Bool.false_eq_true, if_false]
                repeat (gi_big_quiet_step (fail))
                refine wpQuietIn_nil ?_
                refine ⟨?_, ?_⟩
                · intro J hJ hne
                  repeat (gi_big_quiet_step (fail))
                  exact wpQuietIn_nil rfl
                · refine mixAsk0 ?_
                  intro s7 hs7
                  clear jg e0 e1 e2 e3 e4
                  obtain ⟨w8, n8, hdl, hO8, hz8, hit8, hn8⟩ := (Hit6.out.same (hs7.block _ Hit6.out.lt.1) (hs7.block _ Hit6.out.lt.2.1)).deleted Hqs.out 0
                  rw [cntV_eq] at hdl
                  have Hend := hid (show ((∃ f n, MapIt w8 m t f n ∧ ∀ q v, f q = some v → v = ((nd 1000 q : Nat) : Int)) ∧ Only (fun q => q = m ∨ q = t) W2 w8) ∧ itMu w8 m t < itMu wo m t from ⟨⟨⟨_, n8, hit8, by
                    intro q' v' hq'
                    unfold upd at hq'
                    split at hq'
                    · cases hq'
                    · exact Hfv.out q' v' hq'⟩, (HO6.out.trans (Only.of_below hs7)).trans (hO8.mono fun _ h => .inl h)⟩, by rw [hit8.mu, Hmu.out]; have := Hlt5.out; omega⟩)
                  clear hs7 hO8 hz8 hit8 hn8
                  simp only [List.drop_succ_cons, List.drop_zero]
                  gi_wp2
                  exact Hend.out
              · have b1 : (v == (1 : Int)) = false := by simp [hv1]
                clear hv1 hr1 hr2
                go_wp2
                go_roundw
                case rel => exact ⟨Hend.out.1, HO6.out⟩
                case measure => exact Hend.out.2
end
theorem need_all : ∀ N, NeedTo N
  | 0 => fun _ _ _ _ _ _ h _ _ => absurd h (by omega)
  | N + 1 => fun c g m w hc h0 hlt hg hM => needed_step c g m w hc h0 (fun c' g' m' w' hc' h0' hlt' hg' hM' => need_all N c' g' m' w' hc' h0' (by omega) hg' hM') hg hM
/-- what needed hands back, and what it fills -/
theorem needed_c (c : Cnt) (g m : Nat) (w : World) (hc : c.fine) (h0 : 0 < c.cases) (hg : w.cell? ⟨g, 2, none⟩ = some (.map (some m))) (hM : MemoAt w m) :
    Calls Try.prog 77 #[.pointer (some ⟨g, 0, none⟩), cntV c] w (NumM m w (nd 1000 c)) :=
  need_all (c.cases + 1) c g m w hc h0 (by omega) hg hM

end Go.Proofs.Ytelgbjfgmpkepaa
