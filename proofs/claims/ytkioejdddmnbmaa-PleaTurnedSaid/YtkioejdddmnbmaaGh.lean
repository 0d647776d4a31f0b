/- Rules in memory: rows of rules of a call's own; appends of rules. Walk: Clone of rules. Walks: Delete of rules; Idle of the program. Walk: Idle of the program. Walks: of, Rule, example. The examples in memory; a contract for each call of Works. -/
import Derived.Test.YtkioejdddmnbmaaGe
import Derived.Deep.RegionLaw
import Derived.ArgAppend
import Derived.Test.YtkioejdddmnbmaaGg
import Derived.Deep.RegionHeld3
namespace Go.Proofs.Ytkioejdddmnbmaa
open Go.RowKit Go.Shelf

theorem info60 : (Try.prog.info? 60).map (fun i => (i.zero, i.size, i.bytes)) = some (some (.agg #[.slice none 0 0, .int .i64 0]), 2, 32) := by kernel_rfl

/-- the cells of rules -/
def RulesC (w : World) (cl : List Value) (rs : List Rl) : Prop :=
  cl.length = rs.length * 2 ∧ ∀ i, i < rs.length → ∃ a cap, cl[i * 2]? = some (.slice a (nthR rs i).1.length cap) ∧ cl[i * 2 + 1]? = some (.int .i64 (nthR rs i).2) ∧ IntsAt w a (nthR rs i).1 ∧ (a = none → cap = 0)
theorem nthR_append_left {xs ys : List Rl} {i : Nat} (h : i < xs.length) : nthR (xs ++ ys) i = nthR xs i := by
  unfold nthR; rw [List.getD_eq_getElem?_getD, List.getD_eq_getElem?_getD, List.getElem?_append_left h]
theorem nthR_append_right {xs ys : List Rl} {i : Nat} (h : xs.length ≤ i) : nthR (xs ++ ys) i = nthR ys (i - xs.length) := by
  unfold nthR; rw [List.getD_eq_getElem?_getD, List.getD_eq_getElem?_getD, List.getElem?_append_right h]
theorem nthR_take {xs : List Rl} {i k : Nat} (h : i < k) : nthR (xs.take k) i = nthR xs i := by
  unfold nthR; rw [List.getD_eq_getElem?_getD, List.getD_eq_getElem?_getD, List.getElem?_take, if_pos h]
theorem nthR_drop {xs : List Rl} {i k : Nat} : nthR (xs.drop k) i = nthR xs (k + i) := by
  unfold nthR; rw [List.getD_eq_getElem?_getD, List.getD_eq_getElem?_getD, List.getElem?_drop]
theorem RulesC.nil (w : World) : RulesC w [] [] := ⟨rfl, fun i h => by cases h⟩
theorem RulesC.append {w : World} {c1 c2 : List Value} {xs ys : List Rl} (h1 : RulesC w c1 xs) (h2 : RulesC w c2 ys) : RulesC w (c1 ++ c2) (xs ++ ys) := by
  refine ⟨by rw [List.length_append, List.length_append, h1.1, h2.1]; omega, fun i hi => ?_⟩
  by_cases h : i < xs.length
  · obtain ⟨a, cap, e1, e2, e3, e4⟩ := h1.2 i h
    rw [nthR_append_left h]
    exact ⟨a, cap, by rw [List.getElem?_append_left (by rw [h1.1]; omega)]; exact e1, by rw [List.getElem?_append_left (by rw [h1.1]; omega)]; exact e2, e3, e4⟩
  · rw [List.length_append] at hi
    obtain ⟨a, cap, e1, e2, e3, e4⟩ := h2.2 (i - xs.length) (by omega)
    rw [nthR_append_right (by omega)]
    exact ⟨a, cap, by rw [List.getElem?_append_right (by rw [h1.1]; omega), h1.1, show i * 2 - xs.length * 2 = (i - xs.length) * 2 from by omega]; exact e1, by rw [List.getElem?_append_right (by rw [h1.1]; omega), h1.1, show i * 2 + 1 - xs.length * 2 = (i - xs.length) * 2 + 1 from by omega]; exact e2, e3, e4⟩
theorem RulesC.take {w : World} {c : List Value} {xs : List Rl} (h : RulesC w c xs) {k : Nat} (hk : k ≤ xs.length) : RulesC w (c.take (k * 2)) (xs.take k) := by
  refine ⟨by rw [List.length_take, List.length_take, h.1]; omega, fun i hi => ?_⟩
  rw [List.length_take] at hi
  obtain ⟨a, cap, e1, e2, e3, e4⟩ := h.2 i (by omega)
  rw [nthR_take (by omega)]
  exact ⟨a, cap, by rw [List.getElem?_take, if_pos (by omega)]; exact e1, by rw [List.getElem?_take, if_pos (by omega)]; exact e2, e3, e4⟩
theorem RulesC.drop {w : World} {c : List Value} {xs : List Rl} (h : RulesC w c xs) {k : Nat} (hk : k ≤ xs.length) : RulesC w (c.drop (k * 2)) (xs.drop k) := by
  refine ⟨by rw [List.length_drop, List.length_drop, h.1]; omega, fun i hi => ?_⟩
  rw [List.length_drop] at hi
  obtain ⟨a, cap, e1, e2, e3, e4⟩ := h.2 (k + i) (by omega)
  rw [nthR_drop]
  exact ⟨a, cap, by rw [List.getElem?_drop, show k * 2 + i * 2 = (k + i) * 2 from by omega]; exact e1, by rw [List.getElem?_drop, show k * 2 + (i * 2 + 1) = (k + i) * 2 + 1 from by omega]; exact e2, e3, e4⟩
theorem RulesC.one {w : World} {c : List Value} {rs : List Rl} (h : RulesC w c rs) : ∀ u ∈ c, u.oneCell' = true := by
  intro u hu
  obtain ⟨j, hj, rfl⟩ := List.getElem_of_mem hu
  have hl := h.1
  obtain ⟨a, cap, e1, e2, _, _⟩ := h.2 (j / 2) (by omega)
  rcases Nat.mod_two_eq_zero_or_one j with hm | hm
  · rw [show j / 2 * 2 = j from by omega, List.getElem?_eq_getElem hj] at e1
    rw [Option.some.inj e1]; rfl
  · rw [show j / 2 * 2 + 1 = j from by omega, List.getElem?_eq_getElem hj] at e2
    rw [Option.some.inj e2]; rfl

theorem rules_cells {w : World} {ao : Option Addr} {rs : List Rl} (h : RulesAt w ao rs) : ∃ cl, RulesC w cl rs ∧ ∀ ad, ao = some ad → ∀ j u, cl[j]? = some u → w.cell? (ad.add j) = some u := by
  rcases h with rfl | ⟨b, off, rfl, h⟩
  · exact ⟨[], RulesC.nil w, fun _ _ j u hj => by simp at hj⟩
  · refine ⟨(List.range (rs.length * 2)).map (fun j => (w.cell? ⟨b, off + j, none⟩).getD undef), ⟨by simp, fun i hi => ?_⟩, ?_⟩
    · obtain ⟨a, cap, hr⟩ := h i hi
      have c1 := hr.cI
      have c2 := hr.cT
      refine ⟨a, cap, ?_, ?_, hr.at', hr.nil⟩
      · rw [List.getElem?_map, List.getElem?_range (by omega), Option.map_some, c1]; rfl
      · rw [List.getElem?_map, List.getElem?_range (by omega), Option.map_some, show off + (i * 2 + 1) = off + i * 2 + 1 from by omega, c2]; rfl
    · intro ad e j u hj
      cases e
      have hjl : j < rs.length * 2 := by
        have := (List.getElem?_eq_some_iff.1 hj).1
        simpa using this
      rw [List.getElem?_map, List.getElem?_range hjl, Option.map_some] at hj
      rw [Addr.add_lit]
      obtain ⟨a, cap, hr⟩ := h (j / 2) (by omega)
      rcases Nat.mod_two_eq_zero_or_one j with hm | hm
      · have c1 := hr.cI
        rw [show off + j / 2 * 2 = off + j from by omega] at c1
        rw [c1] at hj
        rw [c1, ← hj]; rfl
      · have c2 := hr.cT
        rw [show off + j / 2 * 2 + 1 = off + j from by omega] at c2
        rw [c2] at hj
        rw [c2, ← hj]; rfl

/-- rules of a call's own; their lists are older -/
def OwnRu (w0 w : World) (ao : Option Addr) (n cap : Nat) (rs : List Rl) : Prop := rs.length = n ∧ ∃ cl, w.ownsRow w0.heap.size 60 2 (.slice ao n cap) n cl ∧ RulesC w0 cl rs
theorem OwnRu.nil (w0 w : World) : OwnRu w0 w none 0 0 [] := ⟨rfl, [], World.ownsRow_nil w _ 60 2, RulesC.nil w0⟩
theorem rules_of_cells {w0 w : World} {g : Nat} {cl cur : List Value} {rs : List Rl} (hC : RulesC w0 cl rs) (hB : Below w0.heap.size w0 w) (hh : w.heap[g]? = some (.cells cur.toArray 60 (0, 0))) (ht : cur.take cl.length = cl) : RulesAt w (some ⟨g, 0, none⟩) rs := by
  refine .inr ⟨g, 0, rfl, fun i hi => ?_⟩
  obtain ⟨a, cap, e1, e2, e3, e4⟩ := hC.2 i hi
  have hl := hC.1
  have hc : ∀ j, j < cl.length → w.cell? ⟨g, j, none⟩ = cl[j]? := fun j hj => by
    rw [cell_of_row _ _ _ _ _ _ hh, List.getElem?_toArray]
    have := congrArg (fun l => l[j]?) ht
    simp only [List.getElem?_take, hj, if_true] at this
    exact this
  exact ⟨a, cap, by rw [Nat.zero_add, hc _ (by omega)]; exact e1, e3.mono hB, e4, by rw [Nat.zero_add, hc _ (by omega)]; exact e2⟩
theorem OwnRu.at {w0 w : World} {ao : Option Addr} {n cap : Nat} {rs : List Rl} (h : OwnRu w0 w ao n cap rs) (hB : Below w0.heap.size w0 w) : RulesAt w ao rs := by
  obtain ⟨hn, cl, ⟨hl, (⟨e, h0⟩ | ⟨g, c, cur, e, hge, hh, hc, hm, hs, ht⟩)⟩, hC⟩ := h
  · left; exact List.eq_nil_of_length_eq_zero (by omega)
  · cases e
    exact rules_of_cells (cur := cur.toList) hC hB (by simpa using hh) (by rw [hC.1, hn]; exact ht)

theorem run_app_rules (ty : TypeId) (w w0 : World) (ao : Option Addr) (n cap : Nat) (xs : List Rl) (hown : OwnRu w0 w ao n cap xs) (hB : Below w0.heap.size w0 w)
    (ax : Option Addr) (m cx : Nat) (ys : List Rl) (hy : RulesAt w0 ax ys) (hm : ys.length = m) (hnil : ax = none → m = 0 ∧ cx = 0) (hb : n + m ≤ 1000000) :
    ∃ ao' cap' w', (Builtin.append_ #[23, 23] ty #[.slice ao n cap, .slice ax m cx]).run Try.prog w = .ok (.slice ao' (n + m) cap') w' ∧
      Below w0.heap.size w0 w' ∧ OwnRu w0 w' ao' (n + m) cap' (xs ++ ys) := by
  obtain ⟨i, hi, hz, hs, hby⟩ := info_parts info60
  obtain ⟨hn, cl, hrow, hC⟩ := hown
  obtain ⟨c2, hC2, hcell⟩ := rules_cells hy
  cases ax with
  | none =>
    obtain ⟨rfl, rfl⟩ := hnil rfl
    obtain rfl : ys = [] := List.eq_nil_of_length_eq_zero hm
    refine ⟨ao, cap, w, ?_, hB, by rw [List.append_nil]; exact ⟨hn, cl, hrow, hC⟩⟩
    exact run_append_owned_none (P := Try.prog) w w0.heap.size 23 ty 60 i 2 Try.underlying23 hi (.slice ao n cap) n cl hrow
  | some ad =>
    have hl2 := hC2.1
    obtain ⟨v', w', hrun, r1, r2, r3⟩ := run_append_own (P := Try.prog) w w0.heap.size 23 ty 60 i (.agg #[.slice none 0 0, .int .i64 0]) 2 32 Try.underlying23 hi hz hs hby rfl (by decide) (.slice ao n cap) n cl hrow ad m cx c2 (by rw [hl2, hm])
      (fun j u hj => by
        have h1 := hcell ad rfl j u hj
        exact (hB.cell (block_lt_of_cell h1)).trans h1)
      hC2.one (by unfold maxLen; omega) (by omega) hB.size
    have hBw : Below w0.heap.size w0 w' := hB.trans ((Below.refl _ w).grown r2 hB.size (fun k e => (hrow.lt k e).1))
    have r1' := r1
    rcases r1 with ⟨hl, (⟨rfl, h0⟩ | ⟨g, c, cur, rfl, hge, hh, hr⟩)⟩
    · have hmz : m = 0 := by omega
      exact ⟨none, 0, w', by rw [hrun, h0], hBw, by rw [List.length_append, hn, hm], cl ++ c2, by rw [h0] at r1' ⊢; exact r1', hC.append hC2⟩
    · exact ⟨some ⟨g, 0, none⟩, c, w', hrun, hBw, by rw [List.length_append, hn, hm], cl ++ c2, r1', hC.append hC2⟩

theorem wpList_app_rules {ops : Array Oper} {rest : List Oper} {o : Oper} {a : Act} {Q : Exit → Act → World → Prop} (w w0 : World) (hg : o.guard = none) (s x : Operand)
    (hop : o.op = Op.call { callee := Callee.builtin Builtin.append, args := #[s, x], argTypes := #[23, 23] })
    (ao : Option Addr) (n cap : Nat) (xs : List Rl) (hs : a.eval s = .slice ao n cap) (hown : OwnRu w0 w ao n cap xs) (hB : Below w0.heap.size w0 w)
    (ax : Option Addr) (m cx : Nat) (ys : List Rl) (hx : a.eval x = .slice ax m cx) (hy : RulesAt w0 ax ys) (hm : ys.length = m) (hnil : ax = none → m = 0 ∧ cx = 0) (hb : n + m ≤ 1000000)
    (hK : ∀ ao' cap' w', Below w0.heap.size w0 w' → OwnRu w0 w' ao' (n + m) cap' (xs ++ ys) → wpList Try.prog ops Q rest (a.put o.dst (.slice ao' (n + m) cap')) w') :
    wpList Try.prog ops Q (o :: rest) a w := by
  refine wpList_plain hg fun K hK' => ?_
  obtain ⟨ao', cap', w', hrun, h1, h2⟩ := run_app_rules o.type w w0 ao n cap xs hown hB ax m cx ys hy hm hnil hb
  unfold Oper.wp
  simp [execOp, hop, resolve, invoke, builtin, hs, hx, hrun, Result.andThen]
  exact hK' _ _ (hK ao' cap' w' h1 h2)
theorem step_app_rules {ops : Array Oper} {o : Oper} {a : Act} {K : Act → World → Prop} {Q : Exit → Act → World → Prop} {E : Prop} (w w0 : World) (hgd : o.guard = none) (s x : Operand)
    (hop : o.op = Op.call { callee := Callee.builtin Builtin.append, args := #[s, x], argTypes := #[23, 23] })
    (ao : Option Addr) (n cap : Nat) (xs : List Rl) (hs : a.eval s = .slice ao n cap) (hown : OwnRu w0 w ao n cap xs) (hB : Below w0.heap.size w0 w)
    (ax : Option Addr) (m cx : Nat) (ys : List Rl) (hx : a.eval x = .slice ax m cx) (hy : RulesAt w0 ax ys) (hm : ys.length = m) (hnil : ax = none → m = 0 ∧ cx = 0) (hb : n + m ≤ 1000000)
    (hK : ∀ ao' cap' w', Below w0.heap.size w0 w' → OwnRu w0 w' ao' (n + m) cap' (xs ++ ys) → K (a.put o.dst (.slice ao' (n + m) cap')) w') :
    if Region.wanted o (yielded ops a.tmps) = true then Oper.wp Try.prog o a w K Q else E := by
  have hw : Region.wanted o (yielded ops a.tmps) = true := by simp [Region.wanted, hgd]
  rw [if_pos hw]
  obtain ⟨ao', cap', w', hrun, h1, h2⟩ := run_app_rules o.type w w0 ao n cap xs hown hB ax m cx ys hy hm hnil hb
  unfold Oper.wp
  simp [execOp, hop, resolve, invoke, builtin, hs, hx, hrun, Result.andThen, Oper.upon]
  exact hK ao' cap' w' h1 h2

theorem ownRu_lit0 (w : World) : OwnRu w (w.alloc (.cells #[] 60)) (some ⟨w.heap.size, 0, none⟩) 0 0 [] :=
  ⟨rfl, [], World.ownsRow_made (base := w.heap.size) (e := 60) (size := 2) w #[] 0 (Nat.le_refl _) (by unfold maxLen; omega) rfl, RulesC.nil w⟩

def OwnRuP (w : World) (rs : List Rl) (e : Ending) (w' : World) : Prop := ∃ ao cap, e = .returned (.slice ao rs.length cap) ∧ OwnRu w w' ao rs.length cap rs ∧ Below w.heap.size w w' ∧ (0 < rs.length → ao ≠ none)

attribute [local go_sem] eql_nil22 eql_nil23
set_option maxRecDepth 100000 in
set_option maxHeartbeats 2000000 in
theorem cloneR_c (a : Option Addr) (cap : Nat) (rs : List Rl) (w : World) (hx : RulesAt w a rs) (hl : rs.length ≤ 100000) (hnil : a = none → cap = 0) : Calls Try.prog 83 #[.slice a rs.length cap] w (OwnRuP w rs) := by
  have Hx := hid hx
  clear hx
  cases a with
  | none =>
    obtain rfl : rs = [] := by
      rcases Hx.out with h | ⟨b, off, h, _⟩
      · exact h
      · cases h
    obtain rfl := hnil rfl
    go_enter Try.func83, Try.ntmps83
    go_wp2
    go_ret
    exact ⟨none, 0, rfl, OwnRu.nil _ _, Below.refl _ _, fun h => by cases h⟩
  | some a =>
    go_enter Try.func83, Try.ntmps83
    have H0 := hid (ownRu_lit0 w)
    have HB := hid (bnew w (.cells #[] 60))
    go_wp2_with (at_builtin; refine wpList_app_rules _ w (by rfl) _ _ (by rfl) (some ⟨w.heap.size, 0, none⟩) 0 0 [] (by rfl) H0.out HB.out (some a) rs.length cap rs (by rfl) ?c1 (by rfl) (fun h => by cases h) ?c2 ?c3; rotate_right; (intro ao' cap' w' hB' hown'; refine Hid.out ?_))
    case c1 => exact Hx.out
    case c2 => omega
    case c3 =>
      refine hid ?_
      have Hown' := hid hown'; have HB' := hid hB'
      clear hown' hB'
      go_wp2
      go_ret
      have h := Hown'.out
      rw [Nat.zero_add, List.nil_append] at h
      refine ⟨ao', cap', rfl, h, HB'.out, fun hp e => ?_⟩
      subst e
      obtain ⟨_, cl, ⟨_, (⟨_, h0⟩ | ⟨g, c, cur, e, _⟩)⟩, _⟩ := h
      · omega
      · cases e

end Go.Proofs.Ytkioejdddmnbmaa

namespace Go.Proofs.Ytkioejdddmnbmaa
open Go.RowKit Go.Shelf
attribute [local go_sem ↓] wp_get wp_get0 wp_getS wp78 wps78 wpa78

theorem heap_setCells (g : Nat) (t : TypeId) : ∀ (vs : List Value) (o : Nat) (cur : List Value) (w : World), w.heap[g]? = some (.cells cur.toArray t (0, 0)) → o + vs.length ≤ cur.length →
    (w.setCells g o vs).heap[g]? = some (.cells (cur.take o ++ vs ++ cur.drop (o + vs.length)).toArray t (0, 0))
  | [], o, cur, w, hg, _ => by
    show w.heap[g]? = _
    rw [hg]; simp
  | v :: vs, o, cur, w, hg, hl => by
    have hl' : o + 1 + vs.length ≤ cur.length := by simp at hl; omega
    have h1 : (w.setCell ⟨g, o, none⟩ v).heap[g]? = some (.cells (cur.set o v).toArray t (0, 0)) := by
      rw [heap_setCell_same w g o _ t _ hg]; exact cellsSet rfl
    have ih := heap_setCells g t vs (o + 1) (cur.set o v) (w.setCell ⟨g, o, none⟩ v) h1 (by rw [List.length_set]; exact hl')
    show ((w.setCell ⟨g, o, none⟩ v).setCells g (o + 1) vs).heap[g]? = _
    rw [ih]
    have e1 : (cur.set o v).take (o + 1) = cur.take o ++ [v] := by
      rw [List.take_succ_eq_append_getElem (by rw [List.length_set]; omega), List.take_set_of_le (Nat.le_refl _)]; simp
    have e2 : (cur.set o v).drop (o + 1 + vs.length) = cur.drop (o + (v :: vs).length) := by
      rw [List.drop_set_of_lt (by omega)]; congr 1; simp; omega
    rw [e1, e2, List.append_assoc (cur.take o)]; rfl
theorem setCells_only (w : World) (g o : Nat) (vs : List Value) : Only (fun b => b = g) w (w.setCells g o vs) := by
  induction vs generalizing o w with
  | nil => exact Only.refl _ _
  | cons v vs ih => exact (setCell_only g o v).trans (ih _ _)

/-- clear over one rule of a row -/
theorem wpList_clear_rule {ops : Array Oper} {rest : List Oper} {o : Oper} {a : Act} {Q : Exit → Act → World → Prop} (w : World) (hgd : o.guard = none) (x : Operand)
    (hop : o.op = Op.call { callee := Callee.builtin Builtin.clear, args := #[x], argTypes := #[23] })
    (g off c : Nat) (hx : a.eval x = .slice (some ⟨g, off, none⟩) 1 c) (t : TypeId) (cs : List Value) (hg : w.heap[g]? = some (.cells cs.toArray t (0, 0))) (hn : off + 2 ≤ cs.length)
    (h : ∀ w', w'.heap[g]? = some (.cells (cs.take off ++ ([Value.slice none 0 0, Value.int .i64 0] ++ cs.drop (off + 2))).toArray t (0, 0)) → Only (fun b => b = g) w w' → wpList Try.prog ops Q rest (a.put o.dst (.tuple #[])) w') :
    wpList Try.prog ops Q (o :: rest) a w := by
  refine wpList_plain hgd fun K hK => ?_
  obtain ⟨i, hi, hz, _, _⟩ := info_parts info60
  unfold Oper.wp
  have hst := run_storeCells_at (P := Try.prog) g off t [.slice none 0 0, .int .i64 0] 0 cs.toArray w hg (by simp; omega) (by intro v hv; simp at hv; rcases hv with rfl | rfl <;> rfl)
  simp only [Nat.add_zero, List.length_cons, List.length_nil] at hst
  have hzc : (Builtin.zeroCells (Value.agg #[.slice none 0 0, .int .i64 0]).cells 1).toList = [.slice none 0 0, .int .i64 0] := by kernel_rfl
  simp [execOp, hop, resolve, invoke, builtin, hx, Builtin.clear_, run_underlying Try.underlying23, zeroValue, typeInfo, hi, hz, hzc, hst, Result.andThen]
  exact hK _ _ (h _ (by rw [setRow_heap hg]; simp) (setRow_only _ _))

def DelR (w0 : World) (rs : List Rl) (e : Ending) (w' : World) : Prop := ∃ ao cap, e = .returned (.slice ao rs.length cap) ∧ RulesAt w' ao rs ∧ (ao = none → cap = 0) ∧ Below w0.heap.size w0 w'

set_option maxRecDepth 100000 in
set_option maxHeartbeats 4000000 in
theorem deleteR_c (w0 : World) (ao : Option Addr) (cap k : Nat) (rs : List Rl) (w : World) (hown : OwnRu w0 w ao rs.length cap rs) (hB : Below w0.heap.size w0 w) (hk : k < rs.length) (hl : rs.length ≤ 1000) :
    Calls Try.prog 82 #[.slice ao rs.length cap, .int .i64 k, .int .i64 ((k : Int) + 1)] w (DelR w0 (rs.take k ++ rs.drop (k + 1))) := by
  obtain ⟨_, cl, ⟨hcl, (⟨e, h0⟩ | ⟨g, c, cur, e, hge, hh, hc, hm, hs, ht⟩)⟩, hC⟩ := hown
  · omega
  · cases e
    obtain ⟨i, hi, hz, hsi, hby⟩ := info_parts info60
    have hhl : w.heap[g]? = some (.cells cur.toList.toArray 60 (0, 0)) := by simpa using hh
    have hcurl : cur.toList.length = cap * 2 := by simpa using hs
    generalize cur.toList = cu at *
    clear hh hs
    obtain ⟨n, hn⟩ : ∃ n, n = rs.length := ⟨_, rfl⟩
    rw [← hn] at hcl hc ht hk hl ⊢
    have hlen : (rs.take k ++ rs.drop (k + 1)).length = n - 1 := by rw [List.length_append, List.length_take, List.length_drop]; omega
    have HB := hid hB; have HC := hid hC; have Hh := hid hhl; have Hcl := hid hcl; have Hcu := hid hcurl; have Ht := hid ht; have Hn := hid hn; have Hlen := hid hlen
    have Hi := hid hi; have Hsi := hid hsi
    have hcells : ∀ j, j < cl.length → w.cell? ⟨g, j, none⟩ = cl[j]? := fun j hj => by
      rw [cell_of_row _ _ _ _ _ _ hhl, List.getElem?_toArray]
      have := congrArg (fun l => l[j]?) ht
      simp only [List.getElem?_take] at this
      rw [if_pos (by rw [← hcl]; exact hj)] at this
      exact this
    have Hcells := hid hcells
    have Hfr := hid (fun j => (frozen_of_row w g j _ 60 hhl : w.frozen? ⟨g, j, none⟩ = false))
    have hkI : (k : Int) < (n : Int) := by omega
    have hkne : ((k : Int) == (k : Int) + 1) = false := by rw [beq_eq_false_iff_ne]; omega
    have hk1c : k + 1 ≤ cap := by omega
    have hkc : k ≤ cap := by omega
    have Hge := hid hge
    clear hB hC hhl hcl hcurl ht hn hlen hi hz hsi hby hcells hge
    have step : ∀ (ad : Addr) (c' : Nat), (n - (k + 1) = 0 ∨ ad = ⟨g, (k + 1) * 2, none⟩) → ∀ j u, (cl.drop ((k + 1) * 2))[j]? = some u → w.cell? (ad.add j) = some u := by
      intro ad c' had j u hj
      rw [List.getElem?_drop] at hj
      have hjl := (List.getElem?_eq_some_iff.1 hj).1
      rcases had with h | rfl
      · have := Hcl.out; omega
      · rw [Addr.add_lit, Hcells.out _ hjl]; exact hj
    have Hstep := hid step
    have hk1n : (k : Int) + 1 ≤ (n : Int) := by omega
    have hk10 : 0 ≤ (k : Int) + 1 := by omega
    clear step
    obtain ⟨p, hp⟩ : ∃ p, n = p + 1 := ⟨n - 1, by omega⟩
    subst hp
    rw [Nat.add_sub_cancel] at Hlen
    go_enter Try.func82, Try.ntmps82
    go_upto_region 5 with (fail)
    go_cut [0] (fun s wc => s = .slice (some ⟨g, 0, none⟩) p cap ∧ (∃ cu' : List Value, wc.heap[g]? = some (.cells cu'.toArray 60 (0, 0)) ∧ cu'.length = cap * 2 ∧ cu'.take (p * 2) = cl.take (k * 2) ++ cl.drop ((k + 1) * 2)) ∧ Below w0.heap.size w0 wc)
    case first =>
      have fin : ∀ wd : World, wd.heap[g]? = some (.cells cu.toArray 60 (0, 0)) → Below w0.heap.size w0 wd → (∃ cu' : List Value, (wd.setCells g (k * 2) (cl.drop ((k + 1) * 2))).heap[g]? = some (.cells cu'.toArray 60 (0, 0)) ∧ cu'.length = cap * 2 ∧ cu'.take (p * 2) = cl.take (k * 2) ++ cl.drop ((k + 1) * 2)) ∧ Below w0.heap.size w0 (wd.setCells g (k * 2) (cl.drop ((k + 1) * 2))) := by
        intro wd hd hBd
        have hcl := Hcl.out; have hcu := Hcu.out; have ht := Ht.out
        have hdl : (cl.drop ((k + 1) * 2)).length = (p - k) * 2 := by rw [List.length_drop]; omega
        refine ⟨⟨cu.take (k * 2) ++ cl.drop ((k + 1) * 2) ++ cu.drop (k * 2 + (cl.drop ((k + 1) * 2)).length), heap_setCells g 60 _ _ _ _ hd (by rw [hdl]; omega), ?_, ?_⟩, hBd.trans ((setCells_only _ _ _ _).below hBd.size (by intro j hj e; have e' : j = g := e; have := Hge.out; omega))⟩
        · rw [List.length_append, List.length_append, List.length_take, hdl, List.length_drop, hcu]; omega
        · have e1 : cl.take (k * 2) = cu.take (k * 2) := by rw [← ht, List.take_take]; congr 1; omega
          rw [e1, List.take_append_of_le_length (by rw [List.length_append, List.length_take, hdl, hcu]; omega), List.take_of_length_le (by rw [List.length_append, List.length_take, hdl, hcu]; omega)]
      have Hfin := hid fin
      clear fin
      have hkp : k ≤ p := by omega
      by_cases hkc1 : k + 1 = cap
      · go_region_law ((refine step_append_room (by rfl) _ _ 23 (by rfl) 60 i 2 Try.underlying23 Hi.out Hsi.out g 0 k cap (by rfl) _ 0 _ (cl.drop ((k + 1) * 2)) (by rfl) (by have := Hcl.out; rw [List.length_drop]; omega) (Hstep.out _ 0 (.inl (by omega))) (fun u hu => HC.out.one u (List.mem_of_mem_drop hu)) (by omega) (fun j hj => by have := Hcl.out; rw [List.length_drop] at hj; omega) ?_))
        all_goals (
          go_wp2
          go_meet
          have hfin := Hfin.out w.drew Hh.out HB.out.drew
          rw [hkc1] at hfin
          exact ⟨by congr 1; omega, by rw [hkc1]; exact hfin.1, hfin.2⟩)
      · have hcne : ¬ cap = k + 1 := fun h => hkc1 h.symm
        go_region_law ((refine step_append_room (by rfl) _ _ 23 (by rfl) 60 i 2 Try.underlying23 Hi.out Hsi.out g 0 k cap (by rfl) _ (p - k) _ (cl.drop ((k + 1) * 2)) (by rfl) (by have := Hcl.out; rw [List.length_drop]; omega) (Hstep.out _ 0 (.inr (by rfl))) (fun u hu => HC.out.one u (List.mem_of_mem_drop hu)) (by omega) (fun j hj => ⟨by have := Hcl.out; have := Hcu.out; rw [List.length_drop] at hj; simp only [World.cell?_drew]; rw [cell_of_row _ _ _ _ _ _ Hh.out, List.getElem?_toArray, List.getElem?_eq_getElem (by omega)]; rfl, Hfr.out _⟩) ?_))
        all_goals (
          go_wp2
          go_meet
          exact ⟨rfl, Hfin.out w.drew Hh.out HB.out.drew⟩)
    case rest =>
      obtain ⟨rfl, ⟨cu', hh', hcu', ht'⟩, hB'⟩ := hcut
      have hpc : p + 1 ≤ cap := hc
      have hpcI : ¬ cap = p := by omega
      have Hh' := hid hh'; have Hcu' := hid hcu'; have Ht' := hid ht'; have HB' := hid hB'
      clear hh' hcu' ht' hB'
      go_wp2_with (refine wpList_clear_rule _ rfl _ rfl g (p * 2) (cap - p) rfl 60 cu' Hh'.out ?e1 ?e2; rotate_right; (intro w3 hh3 hO3; refine Hid.out ?_))
      case e1 => have := Hcu'.out; omega
      case e2 =>
        refine hid ?_
        have hB3 : Below w0.heap.size w0 w3 := HB'.out.trans (hO3.below HB'.out.size (by intro j hj e; have e' : j = g := e; have := Hge.out; omega))
        have hCn : RulesC w0 (cl.take (k * 2) ++ cl.drop ((k + 1) * 2)) (rs.take k ++ rs.drop (k + 1)) := (HC.out.take (by have := Hn.out; omega)).append (HC.out.drop (by have := Hn.out; omega))
        have hat3 : RulesAt w3 (some ⟨g, 0, none⟩) (rs.take k ++ rs.drop (k + 1)) := by
          refine rules_of_cells hCn hB3 hh3 ?_
          rw [hCn.1, Hlen.out, ← Ht'.out, List.take_append_of_le_length (by rw [List.length_take, Hcu'.out]; omega), List.take_take, Nat.min_self]
        have Hat3 := hid hat3; have HB3 := hid hB3
        clear hh3 hO3 hB3 hCn hat3
        go_wp2
        go_ret
        exact ⟨some ⟨g, 0, none⟩, cap, by rw [Hlen.out]; rfl, Hat3.out, (fun h => by cases h), HB3.out⟩

end Go.Proofs.Ytkioejdddmnbmaa

namespace Go.Proofs.Ytkioejdddmnbmaa
open Go.RowKit Go.Shelf
attribute [local go_sem ↓] wp_get wp_get0 wp_getS wp78 wps78 wpa78

/-- rules without one -/
def lessR (rs : List Rl) (k : Nat) : List Rl := rs.take k ++ rs.drop (k + 1)
theorem lessR_mem {rs : List Rl} {k : Nat} {r : Rl} (h : r ∈ lessR rs k) : r ∈ rs := by
  rcases List.mem_append.1 h with h | h
  · exact List.mem_of_mem_take h
  · exact List.mem_of_mem_drop h
theorem lessR_ok {rs : List Rl} {k : Nat} (h : rulesOk rs) : rulesOk (lessR rs k) := fun _ hi => rulesOk_mem h (lessR_mem (nthR_mem hi))
theorem lessR_len {rs : List Rl} {k : Nat} : (lessR rs k).length ≤ rs.length := by
  unfold lessR; rw [List.length_append, List.length_take, List.length_drop]; omega

def idleB (rs : List Rl) (k : Nat) : Bool := decide (0 ≤ (deskOf (nthR rs k).1 (lessR rs k)).clash) || (decide (0 ≤ (nthR rs k).2) && decide (0 < nth (deskOf (nthR rs k).1 (lessR rs k)).known (nthR rs k).2.toNat))
def pIdleE (facts : Int) (seen : List Int) (rs : List Rl) (x : Int) : Int := if caseErr facts seen rs = 0 then (if within 0 ((rs.length : Int) - 1) [x] = true then 0 else 2) else caseErr facts seen rs
def pIdleB (facts : Int) (seen : List Int) (rs : List Rl) (x : Int) : Bool := if caseErr facts seen rs = 0 then (if within 0 ((rs.length : Int) - 1) [x] = true then idleB rs x.toNat else false) else false

/-- a Bool and an error are handed back -/
def BoolE (w : World) (b : Bool) (er : Int) (e : Ending) (w' : World) : Prop := e = .returned (.tuple #[.bool b, .int .i64 er]) ∧ Below w.heap.size w w'

set_option maxRecDepth 100000 in
set_option maxHeartbeats 4000000 in
theorem pIdle_c (facts : Int) (sa : Option Addr) (sc : Nat) (seen : List Int) (ra : Option Addr) (rc : Nat) (rs : List Rl) (x : Int) (w : World) (hc : CaseAt w sa ra seen rs) (hrn : ra = none → rc = 0) :
    Calls Try.prog 42 #[.agg #[.int .i64 facts, .slice sa seen.length sc, .slice ra rs.length rc], .int .i64 x] w (BoolE w (pIdleB facts seen rs x) (pIdleE facts seen rs x)) := by
  obtain ⟨W0, hW0⟩ : ∃ W0, W0 = w.alloc (.cells #[.int .i64 facts, .slice sa seen.length sc, .slice ra rs.length rc] 25) := ⟨_, rfl⟩
  have HB0 := hid (show Below w.heap.size w W0 by rw [hW0]; exact bnew w _)
  obtain ⟨c0, c1, c2⟩ := caseBox w facts sa ra seen.length sc rs.length rc
  rw [← hW0] at c0 c1 c2
  have C0 := hid c0; have C2 := hid c2
  have HS := hid hW0
  have HO := hid (open_c facts sa sc seen ra rc rs none 0 [] W0 (hc.mono HB0.out) (IntsAt.nil _ _) (by simp))
  rw [open_none] at HO
  unfold BoolE pIdleB pIdleE
  by_cases hz : caseErr facts seen rs = 0
  · rw [if_pos hz, if_pos hz]
    rw [hz] at HO
    have Hro := hid (case_rules hz hc.il)
    obtain ⟨_, hr14, _⟩ := case_zero hz
    have Hc := hid hc; have Hrn := hid hrn
    obtain ⟨st, hst⟩ : ∃ st, st = deskOf seen rs := ⟨_, rfl⟩
    rw [← hst] at HO
    have hr14I : (rs.length : Int) ≤ 14 := by omega
    clear hc hz hW0 c0 c1 c2 hst hrn
    have HWi := hid fun (w' : World) (a : Addr) (h : IntsAt w' (some a) [x]) => within_c (some a) 1 0 ((rs.length : Int) - 1) [x] w' h (by simp)
    have hlen1 : ([x] : List Int).length = 1 := rfl
    rw [hlen1] at HWi
    cases hw : within 0 ((rs.length : Int) - 1) [x] with
    | false =>
      rw [hw] at HWi
      rw [if_neg (by simp), if_neg (by simp)]
      go_enter Try.func42, Try.ntmps42
      go_wp2_with fail
      rw [← HS.out]
      refine HO.out.mono ?_
      rintro e w1 ⟨p, rfl, hB, hp⟩
      have HB1 := hid (bstep HB0.out hB)
      have d2 := cstep C2.out hB
      have hlit := hid (at_lit1 w1 x)
      clear hB hp
      go_wp2_with fail
      refine (HWi.out _ _ hlit.out).mono ?_
      rintro e w2 ⟨rfl, hB2⟩
      have HB2 := hid (bstep HB1.out (bstep (bnew _ _) hB2))
      clear hB2 d2
      go_wp2
      go_ret2
      exact ⟨rfl, HB2.out⟩
    | true =>
      rw [hw] at HWi
      rw [if_pos rfl, if_pos rfl]
      obtain ⟨hx0, hx1⟩ := within_one.1 hw
      obtain ⟨k, rfl⟩ := Int.eq_ofNat_of_zero_le hx0
      rw [Int.toNat_natCast]
      have hkl : k < rs.length := by omega
      have hkI : (k : Int) < (rs.length : Int) := by omega
      obtain ⟨hf1, hf2, hf3, hf4⟩ := Hro.out k hkl
      obtain ⟨b2, off2, a2, cp2, rfl, hra0⟩ := Hc.out.r.at hkl
      have HCl := hid fun (w' : World) (h : Below w.heap.size w w') => cloneR_c (some ⟨b2, off2, none⟩) rc rs w' (Hc.out.r.mono h) (by omega) (fun h => by cases h)
      have HDe := hid fun (w' w'' : World) (ao : Option Addr) (cap : Nat) (hown : OwnRu w' w'' ao rs.length cap rs) (hB : Below w'.heap.size w' w'') => deleteR_c w' ao cap k rs w'' hown hB hkl (by omega)
      have HN := hid fun (ra' : Option Addr) (rc' : Nat) (w' : World) (h : Below w.heap.size w w') (hr' : RulesAt w' ra' (lessR rs k)) => newDesk_c facts a2 cp2 (nthR rs k).1 ra' rc' (lessR rs k) w' (hra0.at'.mono h) hf2 hf1 hr' (lessR_ok Hro.out) (by have := lessR_len (rs := rs) (k := k); omega)
      have hlR : (rs.take k ++ rs.drop (k + 1)) = lessR rs k := rfl
      unfold OwnRuP at HCl
      unfold DelR at HDe
      rw [hlR] at HDe
      unfold DeskP at HN
      have hid0 : idleB rs k = (decide (0 ≤ (deskOf (nthR rs k).1 (lessR rs k)).clash) || (decide (0 ≤ (nthR rs k).2) && decide (0 < nth (deskOf (nthR rs k).1 (lessR rs k)).known (nthR rs k).2.toNat))) := rfl
      rw [hid0]
      obtain ⟨st2, hst2⟩ : ∃ st, st = deskOf (nthR rs k).1 (lessR rs k) := ⟨_, rfl⟩
      obtain ⟨th, hth⟩ : ∃ t, t = (nthR rs k).2 := ⟨_, rfl⟩
      obtain ⟨ln, hln⟩ : ∃ n, n = (nthR rs k).1.length := ⟨_, rfl⟩
      obtain ⟨m, hm⟩ : ∃ m, m = (lessR rs k).length := ⟨_, rfl⟩
      rw [← hst2] at HN ⊢
      rw [← hln] at HN
      rw [← hm] at HDe HN
      rw [← hth] at hf3 hf4 ⊢
      have Hth := hid hth; have Hln := hid hln; have Hra := hid hra0
      obtain ⟨R, hR⟩ : ∃ R, R = (decide (0 ≤ st2.clash) || (decide (0 ≤ th) && decide (0 < nth st2.known th.toNat))) := ⟨_, rfl⟩
      rw [← hR]
      have HR := hid hR
      clear hst2 hm hR hf1 hf2 hid0 hlR hw hx0 hx1 hth hln hra0
      go_enter Try.func42, Try.ntmps42
      go_wp2_with fail
      rw [← HS.out]
      refine HO.out.mono ?_
      rintro e w1 ⟨p, rfl, hB, hp⟩
      have HB1 := hid (bstep HB0.out hB)
      have d2 := cstep C2.out hB
      have D0 := hid (cstep C0.out hB); have D2 := hid d2
      have hlit := hid (at_lit1 w1 (k : Int))
      clear hB hp
      go_wp2_with fail
      refine (HWi.out _ _ hlit.out).mono ?_
      rintro e w2 ⟨rfl, hB2⟩
      have hB12 := bstep (bnew w1 (.cells #[.int .i64 (k : Int)] 3)) hB2
      have HB2 := hid (bstep HB1.out hB12)
      have E0 := hid (cstep D0.out hB12); have E2 := hid (cstep D2.out hB12)
      have e2 := E2.out
      have hra := Hra.out.mono HB2.out
      have q0 := hra.cI; have q1 := hra.cT
      rw [← Hln.out] at q0
      rw [← Hth.out] at q1
      clear hB2 d2 hB12 hra
      go_upto_region 7 with (fail)
      obtain ⟨W2, hW2⟩ : ∃ W2, W2 = w2.alloc (.cells #[.slice a2 ln cp2, .int .i64 th] 60) := ⟨_, rfl⟩
      have hb2 : Below w2.heap.size w2 W2 := by rw [hW2]; exact bnew _ _
      have g0 := cstep E0.out hb2; have g2 := cstep E2.out hb2
      have t0 : W2.cell? ⟨w2.heap.size, 0, none⟩ = some (.slice a2 ln cp2) := by rw [hW2]; simp [go_sem]
      have t1 : W2.cell? ⟨w2.heap.size, 1, none⟩ = some (.int .i64 th) := by rw [hW2]; simp [go_sem]
      have T1 := hid t1
      have HB3 := hid (bstep HB2.out hb2)
      rw [← hW2]
      clear hW2 hb2 q0 q1 e2
      go_cut [9] (fun s wc => ∃ (g5 bm5 : Nat) (oa5 : Option Addr) (oc5 B5 : Nat) (c25 : Value), s = .pointer (some ⟨g5, 0, none⟩) ∧ DeskAt B5 wc g5 bm5 oa5 oc5 (.int .i64 facts) (.slice a2 ln cp2) c25 st2.known st2.ord st2.ord st2.clash ∧ Below W2.heap.size W2 wc)
      case first =>
        have hwr : IntKind.i64.wrap ((k : Int) + 1) = (k : Int) + 1 := by have h := wrap_i64_nat (a := k + 1) (by omega); simpa using h
        go_region_held3 (fun w' => w'.cell? ⟨w.heap.size, 0, none⟩ = some (.int .i64 facts) ∧ w'.cell? ⟨w2.heap.size, 0, none⟩ = some (.slice a2 ln cp2) ∧ w'.cell? ⟨w.heap.size, 2, none⟩ = some (.slice (some ⟨b2, off2, none⟩) rs.length rc)) (first | go_keep | exact ⟨cstep g0 hBl, cstep t0 hBl, cstep g2 hBl⟩ | exact ⟨cstep g0 (bstep hBl hB7), cstep t0 (bstep hBl hB7), cstep g2 (bstep hBl hB7)⟩)
          (first
            | (go_at_call 83; (with_reducible refine (HCl.out _ (by first | exact HB3.out | exact HB3.out.drew)).mono ?_); rintro e w5 ⟨ao5, cap5, rfl, hown5, hB5, _⟩; have hBl : Below W2.heap.size W2 w5 := by first | exact hB5 | exact ((Below.refl _ _).drew).trans hB5)
            | (go_at_call 82; (with_reducible refine (HDe.out _ _ _ _ hown5 hB5).mono ?_); rintro e w6 ⟨ao6, cap6, rfl, hat6, hn6, hB6⟩; have hBl : Below W2.heap.size W2 w6 := by first | exact hB6 | exact ((Below.refl _ _).drew).trans hB6)
            | (go_at_call 70; (with_reducible refine (HN.out _ _ _ (bstep HB3.out hBl) hat6).mono ?_); rintro e w7 ⟨g7, bm7, oa7, oc7, rfl, hd7, hB7⟩))
        all_goals (
          go_wp2
          go_meet
          exact ⟨g7, bm7, oa7, oc7, _, _, rfl, hd7, bstep hBl hB7⟩)
      case rest =>
        obtain ⟨g5, bm5, oa5, oc5, B5, c25, rfl, hd5, hB5⟩ := hcut
        have kc := hd5.kC
        have u1 := cstep T1.out hB5
        have HB5 := hid (bstep HB3.out hB5)
        by_cases hcl : 0 ≤ st2.clash
        · have hb : decide (0 ≤ st2.clash) = true := decide_eq_true hcl
          have hR := HR.out
          rw [hb, Bool.true_or] at hR
          subst hR
          clear hd5 hB5 hcl
          go_wp2
          go_quiet (fail)
          go_wp2
          go_ret2
          exact ⟨rfl, below_drewN HB5.out _⟩
        · have hb : decide (0 ≤ st2.clash) = false := decide_eq_false hcl
          have hR := HR.out
          rw [hb, Bool.false_or] at hR
          by_cases hth0 : 0 ≤ th
          · have hb2 : decide (0 ≤ th) = true := decide_eq_true hth0
            obtain ⟨t, rfl⟩ := Int.eq_ofNat_of_zero_le hth0
            have kk := hd5.kK (n := t) (by omega)
            rw [hb2, Bool.true_and, Int.toNat_natCast] at hR
            generalize nth st2.known t = v at *
            have HR2 := hid hR
            clear hd5 hB5 hcl hR hth0
            by_cases hv : 0 < v
            · have hb3 : decide (0 < v) = true := decide_eq_true hv
              have hRv : R = true := by rw [HR2.out, hb3]
              subst hRv
              clear hv
              go_wp2
              go_quiet (fail)
              go_wp2
              go_ret2
              exact ⟨rfl, below_drewN HB5.out _⟩
            · have hb3 : decide (0 < v) = false := decide_eq_false hv
              have hRv : R = false := by rw [HR2.out, hb3]
              subst hRv
              clear hv
              go_wp2
              go_quiet (fail)
              go_wp2
              go_ret2
              exact ⟨rfl, below_drewN HB5.out _⟩
          · have hb2 : decide (0 ≤ th) = false := decide_eq_false hth0
            rw [hb2, Bool.false_and] at hR
            subst hR
            clear hd5 hB5 hcl hth0
            go_wp2
            go_quiet (fail)
            go_wp2
            go_ret2
            exact ⟨rfl, below_drewN HB5.out _⟩
  · rw [if_neg hz, if_neg hz]
    have hcb := errB hz
    clear hc hz hW0 c0 c1 c2
    generalize caseErr facts seen rs = c at *
    go_enter Try.func42, Try.ntmps42
    go_wp2_with fail
    rw [← HS.out]
    refine HO.out.mono ?_
    rintro e w1 ⟨p, rfl, hB, hp⟩
    have HB2 := hid (bstep HB0.out hB)
    clear hB hp
    go_wp2
    go_ret2
    exact ⟨rfl, HB2.out⟩

end Go.Proofs.Ytkioejdddmnbmaa

namespace Go.Proofs.Ytkioejdddmnbmaa
open Go.RowKit Go.Shelf
attribute [local go_sem ↓] wp_get wp_get0 wp_getS wp78 wps78 wpa78

set_option maxRecDepth 100000 in
theorem of_c (a : Option Addr) (n c : Nat) (w : World) : Calls Try.prog 56 #[.slice a n c] w fun e w' => e = .returned (.slice a n c) ∧ w = w' := by
  go_enter Try.func56, Try.ntmps56
  go_wp2
  go_ret
  exact ⟨rfl, rfl⟩

set_option maxRecDepth 100000 in
theorem rule_c (th : Int) (a : Option Addr) (n c : Nat) (w : World) : Calls Try.prog 85 #[.int .i64 th, .slice a n c] w fun e w' => e = .returned (.agg #[.slice a n c, .int .i64 th]) ∧ Below w.heap.size w w' := by
  go_enter Try.func85, Try.ntmps85
  go_wp2
  exact bodyPost_ret (results_cell_row rfl _ _ w.heap.size 60 #[.slice a n c, .int .i64 th] (0, 0) _ rfl (heap_alloc_new w _) Try.underlying60 rfl (by kernel_rfl)) rfl ⟨rfl, bnew w _⟩

def rsX : List Rl := [([0, 1], 2), ([2], 3), ([3, 4], -1), ([5], 4), ([0, 1], 3)]
def seenC : List Int := [0, 1]
def seenD : List Int := [0, 1, 4]

set_option maxRecDepth 100000 in
set_option maxHeartbeats 2000000 in
theorem example_c (sa : Option Addr) (n sc : Nat) (w : World) : Calls Try.prog 55 #[.slice sa n sc] w fun e w' => ∃ b, e = .returned (.agg #[.int .i64 7, .slice sa n sc, .slice (some ⟨b, 0, none⟩) 5 5]) ∧ RulesAt w' (some ⟨b, 0, none⟩) rsX ∧ Below w.heap.size w w' := by
  go_enter Try.func55, Try.ntmps55
  go_wp2_with fail
  have r0 : ((w.alloc (.cells #[.int .i64 0, .slice none 0 0, .slice none 0 0] 25)).alloc (.cells #[.int .i64 0, .int .i64 1] 3)).heap[w.heap.size]? = some (.cells #[.int .i64 0, .slice none 0 0, .slice none 0 0] 25 (0, 0)) := ((bnew _ _).block _ (by simp)).trans (heap_alloc_new w _)
  have hb0 : Below w.heap.size w ((w.alloc (.cells #[.int .i64 0, .slice none 0 0, .slice none 0 0] 25)).alloc (.cells #[.int .i64 0, .int .i64 1] 3)) := bstep (bnew w _) (bnew _ _)
  have l0 : IntsAt ((w.alloc (.cells #[.int .i64 0, .slice none 0 0, .slice none 0 0] 25)).alloc (.cells #[.int .i64 0, .int .i64 1] 3)) (some ⟨w.heap.size + 1, 0, none⟩) [0, 1] := intsAt_new (w.alloc (.cells #[.int .i64 0, .slice none 0 0, .slice none 0 0] 25)) [0, 1] _ 3 (by simp)
  have R0 := hid r0; have HB0 := hid hb0; have L0 := hid l0
  clear r0 hb0 l0
  refine (rule_c _ _ _ _ _).mono ?_
  rintro e w1 ⟨rfl, hB⟩
  have Hs1 := hid (Array.getElem?_eq_some_iff.1 ((hB.block _ (Array.getElem?_eq_some_iff.1 R0.out).1).trans R0.out)).1
  have Ra := hid ((hB.block _ (Array.getElem?_eq_some_iff.1 R0.out).1).trans R0.out); have Ba := hid (bstep HB0.out hB)
  have A0 := hid (L0.out.mono hB)
  clear hB R0 HB0 L0
  go_wp2_with fail
  have hb := bnew w1 (.cells #[.int .i64 2] 3)
  have R1 := hid ((hb.block _ (Array.getElem?_eq_some_iff.1 Ra.out).1).trans Ra.out); have HB1 := hid (bstep Ba.out hb)
  have L0 := hid (A0.out.mono hb)
  have L1 := hid (intsAt_new w1 [2] _ 3 rfl)
  clear hb Ra Ba A0
  refine (rule_c _ _ _ _ _).mono ?_
  rintro e w2 ⟨rfl, hB⟩
  have Hs2 := hid (Array.getElem?_eq_some_iff.1 ((hB.block _ (Array.getElem?_eq_some_iff.1 R1.out).1).trans R1.out)).1
  have Ra := hid ((hB.block _ (Array.getElem?_eq_some_iff.1 R1.out).1).trans R1.out); have Ba := hid (bstep HB1.out hB)
  have A0 := hid (L0.out.mono hB)
  have A1 := hid (L1.out.mono hB)
  clear hB R1 HB1 L0 L1
  go_wp2_with fail
  have hb := bnew w2 (.cells #[.int .i64 3, .int .i64 4] 3)
  have R2 := hid ((hb.block _ (Array.getElem?_eq_some_iff.1 Ra.out).1).trans Ra.out); have HB2 := hid (bstep Ba.out hb)
  have L0 := hid (A0.out.mono hb)
  have L1 := hid (A1.out.mono hb)
  have L2 := hid (intsAt_new w2 [3, 4] _ 3 rfl)
  clear hb Ra Ba A0 A1
  refine (rule_c _ _ _ _ _).mono ?_
  rintro e w3 ⟨rfl, hB⟩
  have Hs3 := hid (Array.getElem?_eq_some_iff.1 ((hB.block _ (Array.getElem?_eq_some_iff.1 R2.out).1).trans R2.out)).1
  have Ra := hid ((hB.block _ (Array.getElem?_eq_some_iff.1 R2.out).1).trans R2.out); have Ba := hid (bstep HB2.out hB)
  have A0 := hid (L0.out.mono hB)
  have A1 := hid (L1.out.mono hB)
  have A2 := hid (L2.out.mono hB)
  clear hB R2 HB2 L0 L1 L2
  go_wp2_with fail
  have hb := bnew w3 (.cells #[.int .i64 5] 3)
  have R3 := hid ((hb.block _ (Array.getElem?_eq_some_iff.1 Ra.out).1).trans Ra.out); have HB3 := hid (bstep Ba.out hb)
  have L0 := hid (A0.out.mono hb)
  have L1 := hid (A1.out.mono hb)
  have L2 := hid (A2.out.mono hb)
  have L3 := hid (intsAt_new w3 [5] _ 3 rfl)
  clear hb Ra Ba A0 A1 A2
  refine (rule_c _ _ _ _ _).mono ?_
  rintro e w4 ⟨rfl, hB⟩
  have Hs4 := hid (Array.getElem?_eq_some_iff.1 ((hB.block _ (Array.getElem?_eq_some_iff.1 R3.out).1).trans R3.out)).1
  have Ra := hid ((hB.block _ (Array.getElem?_eq_some_iff.1 R3.out).1).trans R3.out); have Ba := hid (bstep HB3.out hB)
  have A0 := hid (L0.out.mono hB)
  have A1 := hid (L1.out.mono hB)
  have A2 := hid (L2.out.mono hB)
  have A3 := hid (L3.out.mono hB)
  clear hB R3 HB3 L0 L1 L2 L3
  go_wp2_with fail
  have hb := bnew w4 (.cells #[.int .i64 0, .int .i64 1] 3)
  have R4 := hid ((hb.block _ (Array.getElem?_eq_some_iff.1 Ra.out).1).trans Ra.out); have HB4 := hid (bstep Ba.out hb)
  have L0 := hid (A0.out.mono hb)
  have L1 := hid (A1.out.mono hb)
  have L2 := hid (A2.out.mono hb)
  have L3 := hid (A3.out.mono hb)
  have L4 := hid (intsAt_new w4 [0, 1] _ 3 rfl)
  clear hb Ra Ba A0 A1 A2 A3
  refine (rule_c _ _ _ _ _).mono ?_
  rintro e w5 ⟨rfl, hB⟩
  have Hs5 := hid (Array.getElem?_eq_some_iff.1 ((hB.block _ (Array.getElem?_eq_some_iff.1 R4.out).1).trans R4.out)).1
  have Ra := hid ((hB.block _ (Array.getElem?_eq_some_iff.1 R4.out).1).trans R4.out); have Ba := hid (bstep HB4.out hB)
  have A0 := hid (L0.out.mono hB)
  have A1 := hid (L1.out.mono hB)
  have A2 := hid (L2.out.mono hB)
  have A3 := hid (L3.out.mono hB)
  have A4 := hid (L4.out.mono hB)
  clear hB R4 HB4 L0 L1 L2 L3 L4
  have hrs : Below w5.heap.size w5 (w5.alloc (.cells #[.slice (some ⟨w.heap.size + 1, 0, none⟩) 2 2, .int .i64 2, .slice (some ⟨w1.heap.size, 0, none⟩) 1 1, .int .i64 3, .slice (some ⟨w2.heap.size, 0, none⟩) 2 2, .int .i64 (-1), .slice (some ⟨w3.heap.size, 0, none⟩) 1 1, .int .i64 4, .slice (some ⟨w4.heap.size, 0, none⟩) 2 2, .int .i64 3] 60)) := bnew _ _
  have hrow := (hrs.block _ (Array.getElem?_eq_some_iff.1 Ra.out).1).trans Ra.out
  have Hrow := hid hrow
  have k0 : w5.cell? ⟨w.heap.size, 0, none⟩ = some (.int .i64 0) := by rw [cell_of_row _ _ _ _ _ _ Ra.out]; rfl
  have k1 : w5.cell? ⟨w.heap.size, 1, none⟩ = some (.slice none 0 0) := by rw [cell_of_row _ _ _ _ _ _ Ra.out]; rfl
  have k2 : w5.cell? ⟨w.heap.size, 2, none⟩ = some (.slice none 0 0) := by rw [cell_of_row _ _ _ _ _ _ Ra.out]; rfl
  have f0 : w5.frozen? ⟨w.heap.size, 0, none⟩ = false := frozen_of_row _ _ _ _ _ Ra.out
  have f1 : w5.frozen? ⟨w.heap.size, 1, none⟩ = false := frozen_of_row _ _ _ _ _ Ra.out
  have f2 : w5.frozen? ⟨w.heap.size, 2, none⟩ = false := frozen_of_row _ _ _ _ _ Ra.out
  have hlt := (Array.getElem?_eq_some_iff.1 Ra.out).1
  have hne : ¬ w.heap.size = w5.heap.size := by omega
  have Hrs := hid hrs
  clear hrow hrs
  go_wp2_with fail
  clear k0 k1 k2 f0 f1 f2
  obtain ⟨W6, hW6⟩ : ∃ W6, W6 = ((w5.setCell ⟨w.heap.size, 0, none⟩ (.int .i64 7)).setCell ⟨w.heap.size, 1, none⟩ (.slice sa n sc)).setCell ⟨w.heap.size, 2, none⟩ (.slice (some ⟨w5.heap.size, 0, none⟩) 5 5) := ⟨_, rfl⟩
  have hs6 : W6.heap.size = w5.heap.size := by rw [hW6]; simp
  have hO6 : Only (fun b => b = w.heap.size) w5 W6 := by rw [hW6]; exact ((setCell_only _ _ _).trans (setCell_only _ _ _)).trans (setCell_only _ _ _)
  have hr6 : W6.heap[w.heap.size]? = some (.cells #[.int .i64 7, .slice sa n sc, .slice (some ⟨w5.heap.size, 0, none⟩) 5 5] 25 (0, 0)) := by
    rw [hW6]
    exact heap_setCell_same _ _ 2 #[.int .i64 7, .slice sa n sc, .slice none 0 0] 25 _ (heap_setCell_same _ _ 1 #[.int .i64 7, .slice none 0 0, .slice none 0 0] 25 _ (heap_setCell_same w5 _ 0 _ 25 _ Ra.out))
  rw [← hW6]
  have hO7 := hO6.alloc (.cells #[.slice (some ⟨w.heap.size + 1, 0, none⟩) 2 2, .int .i64 2, .slice (some ⟨w1.heap.size, 0, none⟩) 1 1, .int .i64 3, .slice (some ⟨w2.heap.size, 0, none⟩) 2 2, .int .i64 (-1), .slice (some ⟨w3.heap.size, 0, none⟩) 1 1, .int .i64 4, .slice (some ⟨w4.heap.size, 0, none⟩) 2 2, .int .i64 3] 60)
  have hn7 := heap_alloc_new W6 (.cells #[.slice (some ⟨w.heap.size + 1, 0, none⟩) 2 2, .int .i64 2, .slice (some ⟨w1.heap.size, 0, none⟩) 1 1, .int .i64 3, .slice (some ⟨w2.heap.size, 0, none⟩) 2 2, .int .i64 (-1), .slice (some ⟨w3.heap.size, 0, none⟩) 1 1, .int .i64 4, .slice (some ⟨w4.heap.size, 0, none⟩) 2 2, .int .i64 3] 60)
  have hr7 := (Below.heap_alloc W6 (.cells #[.slice (some ⟨w.heap.size + 1, 0, none⟩) 2 2, .int .i64 2, .slice (some ⟨w1.heap.size, 0, none⟩) 1 1, .int .i64 3, .slice (some ⟨w2.heap.size, 0, none⟩) 2 2, .int .i64 (-1), .slice (some ⟨w3.heap.size, 0, none⟩) 1 1, .int .i64 4, .slice (some ⟨w4.heap.size, 0, none⟩) 2 2, .int .i64 3] 60) w.heap.size (by omega)).trans hr6
  rw [hs6] at hn7
  generalize W6.alloc (.cells #[.slice (some ⟨w.heap.size + 1, 0, none⟩) 2 2, .int .i64 2, .slice (some ⟨w1.heap.size, 0, none⟩) 1 1, .int .i64 3, .slice (some ⟨w2.heap.size, 0, none⟩) 2 2, .int .i64 (-1), .slice (some ⟨w3.heap.size, 0, none⟩) 1 1, .int .i64 4, .slice (some ⟨w4.heap.size, 0, none⟩) 2 2, .int .i64 3] 60) = W7 at *
  have s1 := Hs1.out; have s2 := Hs2.out; have s3 := Hs3.out; have s4 := Hs4.out
  have B0 : IntsAt W7 (some ⟨w.heap.size + 1, 0, none⟩) [0, 1] := A0.out.only hO7 (fun b off e _ => by cases e; show ¬ w.heap.size + 1 = w.heap.size; omega)
  have B1 : IntsAt W7 (some ⟨w1.heap.size, 0, none⟩) [2] := A1.out.only hO7 (fun b off e _ => by cases e; show ¬ w1.heap.size = w.heap.size; omega)
  have B2 : IntsAt W7 (some ⟨w2.heap.size, 0, none⟩) [3, 4] := A2.out.only hO7 (fun b off e _ => by cases e; show ¬ w2.heap.size = w.heap.size; omega)
  have B3 : IntsAt W7 (some ⟨w3.heap.size, 0, none⟩) [5] := A3.out.only hO7 (fun b off e _ => by cases e; show ¬ w3.heap.size = w.heap.size; omega)
  have B4 : IntsAt W7 (some ⟨w4.heap.size, 0, none⟩) [0, 1] := A4.out.only hO7 (fun b off e _ => by cases e; show ¬ w4.heap.size = w.heap.size; omega)
  refine bodyPost_ret (results_cell_row rfl _ _ w.heap.size 25 _ (0, 0) _ rfl hr7 Try.underlying25 rfl (by kernel_rfl)) rfl ⟨w5.heap.size, rfl, ?_, Ba.out.trans (hO7.below Ba.out.size (by intro j hj e; have e' : j = w.heap.size := e; omega))⟩
  refine .inr ⟨_, 0, rfl, fun i hi => ?_⟩
  have hi5 : i < 5 := hi
  have hcell : ∀ j, W7.cell? ⟨w5.heap.size, j, none⟩ = _ := fun j => cell_of_row _ _ _ _ _ _ hn7
  match i, hi5 with
  | 0, _ => exact ⟨_, 2, by rw [hcell]; rfl, B0, (fun h => by cases h), by rw [hcell]; rfl⟩
  | 1, _ => exact ⟨_, 1, by rw [hcell]; rfl, B1, (fun h => by cases h), by rw [hcell]; rfl⟩
  | 2, _ => exact ⟨_, 2, by rw [hcell]; rfl, B2, (fun h => by cases h), by rw [hcell]; rfl⟩
  | 3, _ => exact ⟨_, 1, by rw [hcell]; rfl, B3, (fun h => by cases h), by rw [hcell]; rfl⟩
  | 4, _ => exact ⟨_, 2, by rw [hcell]; rfl, B4, (fun h => by cases h), by rw [hcell]; rfl⟩

theorem v1 : pLeastE 7 seenC rsX = 0 := by decide +kernel
theorem v2 : pLeastL 7 seenC rsX = [0, 1, 2, 3] := by decide +kernel
theorem v3 : pCountN 7 seenC rsX = 2 := by decide +kernel
theorem v4 : pCountN 7 seenD rsX = 0 := by decide +kernel
theorem v5 : caseErr 7 seenC rsX = 0 := by decide +kernel
theorem v6 : caseErr 7 seenD rsX = 0 := by decide +kernel
theorem v7 : pTruthErr 7 seenC rsX [0, 1, 2, 3, 6] = 0 := by decide +kernel
theorem v8 : pTruthErr 7 seenC rsX [0, 1, 2] = 24 := by decide +kernel
theorem v9 : pTruthErr 7 seenC rsX [1, 0] = 2 := by decide +kernel
theorem v10 : pVerdictE 7 seenC rsX 3 = 0 ∧ pVerdictN 7 seenC rsX 3 = 2 := by decide +kernel
theorem v11 : pVerdictE 7 seenC rsX 5 = 0 ∧ pVerdictN 7 seenC rsX 5 = 0 := by decide +kernel
theorem v12 : pVerdictE 7 seenC rsX 6 = 0 ∧ pVerdictN 7 seenC rsX 6 = 1 := by decide +kernel
theorem v13 : pVerdictE 7 seenD rsX 3 = 24 ∧ pVerdictN 7 seenD rsX 3 = 0 := by decide +kernel
theorem v14 : pcs 7 seenD rsX [4, 2] = ([0, 1, 3, 4], true, 0) := by decide +kernel
theorem v15 : pcs 7 seenC rsX [1, 0] = ([], false, 16) := by decide +kernel
theorem v16 : pcs 7 seenC rsX [0, 0] = ([], false, 11) := by decide +kernel
theorem v17 : pStepsE 7 seenC rsX 2 = 0 ∧ pStepsL 7 seenC rsX 2 = [0] := by decide +kernel
theorem v18 : pStepsE 7 seenC rsX 4 = 5 ∧ pStepsL 7 seenC rsX 4 = [] := by decide +kernel
theorem v19 : pClashE 7 seenC rsX = 5 ∧ pClashL 7 seenC rsX = [] := by decide +kernel
theorem v20 : pClashE 7 seenD rsX = 0 ∧ pClashL 7 seenD rsX = [0, 1, 2] := by decide +kernel
theorem v21 : pNeededE 7 seenC rsX 3 = 0 ∧ pNeededL 7 seenC rsX 3 = [0, 1] := by decide +kernel
theorem v22 : pWrongE 7 seenD rsX = 0 ∧ pWrongL 7 seenD rsX = [0] := by decide +kernel
theorem v23 : pIdleE 7 seenC rsX 4 = 0 ∧ pIdleB 7 seenC rsX 4 = true := by decide +kernel
theorem v24 : pIdleE 7 seenC rsX 1 = 0 ∧ pIdleB 7 seenC rsX 1 = false := by decide +kernel
theorem v25 : (rcs 7 seenD rsX [0, 1, 2]).2 = (true, 0) := by decide +kernel

end Go.Proofs.Ytkioejdddmnbmaa

namespace Go.Proofs.Ytkioejdddmnbmaa
open Go.RowKit Go.Shelf

/-- a case of the examples in memory, with its box -/
structure ExAt (w : World) (p : Nat) (a : Option Addr) (r : Nat) (seen : List Int) : Prop where
  k0 : w.cell? ⟨p, 0, none⟩ = some (.int .i64 7)
  k1 : w.cell? ⟨p, 1, none⟩ = some (.slice a seen.length seen.length)
  k2 : w.cell? ⟨p, 2, none⟩ = some (.slice (some ⟨r, 0, none⟩) 5 5)
  s : IntsAt w a seen
  r' : RulesAt w (some ⟨r, 0, none⟩) rsX
theorem ExAt.mono {w w' : World} {p : Nat} {a : Option Addr} {r : Nat} {seen : List Int} (h : ExAt w p a r seen) (hB : Below w.heap.size w w') : ExAt w' p a r seen :=
  ⟨cstep h.k0 hB, cstep h.k1 hB, cstep h.k2 hB, h.s.mono hB, h.r'.mono hB⟩
theorem rsX_len : ∀ i, i < rsX.length → (nthR rsX i).1.length ≤ 1000000 := by
  intro i hi
  have h5 : i < 5 := hi
  have : ∀ k : Fin 5, (nthR rsX k).1.length ≤ 1000000 := by decide
  exact this ⟨i, h5⟩
theorem ExAt.c {w : World} {p : Nat} {a : Option Addr} {r : Nat} {seen : List Int} (h : ExAt w p a r seen) (hs : seen.length ≤ 3) : CaseAt w a (some ⟨r, 0, none⟩) seen rsX :=
  ⟨h.s, h.r', by omega, by show 5 ≤ 1000000; omega, rsX_len⟩

section
variable {w : World} {p : Nat} {a : Addr} {r : Nat}
theorem k_least (h : ExAt w p (some a) r seenC) : Calls Try.prog 23 #[.agg #[.int .i64 7, .slice (some a) 2 2, .slice (some ⟨r, 0, none⟩) 5 5]] w (ListE w [0, 1, 2, 3] 0) := by
  have := least_c 7 (some a) 2 seenC (some ⟨r, 0, none⟩) 5 rsX w (h.c (by decide)); rw [v1, v2] at this; exact this
theorem k_countC (h : ExAt w p (some a) r seenC) : Calls Try.prog 25 #[.agg #[.int .i64 7, .slice (some a) 2 2, .slice (some ⟨r, 0, none⟩) 5 5]] w (NumE w 2 0) := by
  have := count_c 7 (some a) 2 seenC (some ⟨r, 0, none⟩) 5 rsX w (h.c (by decide)); rw [v3, v5] at this; exact this
theorem k_countD (h : ExAt w p (some a) r seenD) : Calls Try.prog 25 #[.agg #[.int .i64 7, .slice (some a) 3 3, .slice (some ⟨r, 0, none⟩) 5 5]] w (NumE w 0 0) := by
  have := count_c 7 (some a) 3 seenD (some ⟨r, 0, none⟩) 5 rsX w (h.c (by decide)); rw [v4, v6] at this; exact this
theorem k_truth (h : ExAt w p (some a) r seenC) (t : List Int) (b : Option Addr) (c : Nat) (v : Int) (hv : pTruthErr 7 seenC rsX t = v) (ht : IntsAt w b t) (hl : t.length ≤ 10) : Calls Try.prog 21 #[.agg #[.int .i64 7, .slice (some a) 2 2, .slice (some ⟨r, 0, none⟩) 5 5], .slice b t.length c] w fun e w' => e = .returned (.int .i64 v) ∧ Below w.heap.size w w' := by
  have := checkTruth_c 7 (some a) 2 seenC (some ⟨r, 0, none⟩) 5 rsX b c t w (h.c (by decide)) ht (by omega); rw [hv] at this; exact this
theorem k_verdictC (h : ExAt w p (some a) r seenC) (x n e : Int) (hv : pVerdictE 7 seenC rsX x = e ∧ pVerdictN 7 seenC rsX x = n) : Calls Try.prog 27 #[.agg #[.int .i64 7, .slice (some a) 2 2, .slice (some ⟨r, 0, none⟩) 5 5], .int .i64 x] w (NumE w n e) := by
  have := verdict_c 7 (some a) 2 seenC (some ⟨r, 0, none⟩) 5 rsX x w (h.c (by decide)) (fun h => by cases h) (by decide); rw [hv.1, hv.2] at this; exact this
theorem k_verdictD (h : ExAt w p (some a) r seenD) (x n e : Int) (hv : pVerdictE 7 seenD rsX x = e ∧ pVerdictN 7 seenD rsX x = n) : Calls Try.prog 27 #[.agg #[.int .i64 7, .slice (some a) 3 3, .slice (some ⟨r, 0, none⟩) 5 5], .int .i64 x] w (NumE w n e) := by
  have := verdict_c 7 (some a) 3 seenD (some ⟨r, 0, none⟩) 5 rsX x w (h.c (by decide)) (fun h => by cases h) (by decide); rw [hv.1, hv.2] at this; exact this
theorem k_stepsC (h : ExAt w p (some a) r seenC) (t : List Int) (b : Option Addr) (c : Nat) (R : List Int × Bool × Int) (hv : pcs 7 seenC rsX t = R) (ht : IntsAt w b t) (hl : t.length ≤ 10) (hc : t.length ≤ c) : Calls Try.prog 30 #[.agg #[.int .i64 7, .slice (some a) 2 2, .slice (some ⟨r, 0, none⟩) 5 5], .slice b t.length c] w (StepsP w R) := by
  have := checkSteps_c 7 (some a) 2 seenC (some ⟨r, 0, none⟩) 5 rsX b c t w (h.c (by decide)) ht (by omega) hc; rw [hv] at this; exact this
theorem k_stepsD (h : ExAt w p (some a) r seenD) (t : List Int) (b : Option Addr) (c : Nat) (R : List Int × Bool × Int) (hv : pcs 7 seenD rsX t = R) (ht : IntsAt w b t) (hl : t.length ≤ 10) (hc : t.length ≤ c) : Calls Try.prog 30 #[.agg #[.int .i64 7, .slice (some a) 3 3, .slice (some ⟨r, 0, none⟩) 5 5], .slice b t.length c] w (StepsP w R) := by
  have := checkSteps_c 7 (some a) 3 seenD (some ⟨r, 0, none⟩) 5 rsX b c t w (h.c (by decide)) ht (by omega) hc; rw [hv] at this; exact this
theorem k_pSteps (h : ExAt w p (some a) r seenC) (x e : Int) (l : List Int) (hv : pStepsE 7 seenC rsX x = e ∧ pStepsL 7 seenC rsX x = l) : Calls Try.prog 32 #[.agg #[.int .i64 7, .slice (some a) 2 2, .slice (some ⟨r, 0, none⟩) 5 5], .int .i64 x] w (ListC w l e) := by
  have := pSteps_c 7 (some a) 2 seenC (some ⟨r, 0, none⟩) 5 rsX x w (h.c (by decide)); rw [hv.1, hv.2] at this; exact this
theorem k_clashC (h : ExAt w p (some a) r seenC) : Calls Try.prog 33 #[.agg #[.int .i64 7, .slice (some a) 2 2, .slice (some ⟨r, 0, none⟩) 5 5]] w (ListC w [] 5) := by
  have := pClash_c 7 (some a) 2 seenC (some ⟨r, 0, none⟩) 5 rsX w (h.c (by decide)); rw [v19.1, v19.2] at this; exact this
theorem k_clashD (h : ExAt w p (some a) r seenD) : Calls Try.prog 33 #[.agg #[.int .i64 7, .slice (some a) 3 3, .slice (some ⟨r, 0, none⟩) 5 5]] w (ListC w [0, 1, 2] 0) := by
  have := pClash_c 7 (some a) 3 seenD (some ⟨r, 0, none⟩) 5 rsX w (h.c (by decide)); rw [v20.1, v20.2] at this; exact this
theorem k_needed (h : ExAt w p (some a) r seenC) : Calls Try.prog 38 #[.agg #[.int .i64 7, .slice (some a) 2 2, .slice (some ⟨r, 0, none⟩) 5 5], .int .i64 3] w (ListC w [0, 1] 0) := by
  have := pNeeded_c 7 (some a) 2 seenC (some ⟨r, 0, none⟩) 5 rsX 3 w (h.c (by decide)) (by decide); rw [v21.1, v21.2] at this; exact this
theorem k_wrong (h : ExAt w p (some a) r seenD) : Calls Try.prog 40 #[.agg #[.int .i64 7, .slice (some a) 3 3, .slice (some ⟨r, 0, none⟩) 5 5]] w (ListC w [0] 0) := by
  have := pWrong_c 7 (some a) 3 seenD (some ⟨r, 0, none⟩) 5 rsX w (h.c (by decide)) (by decide) (fun h => by cases h); rw [v22.1, v22.2] at this; exact this
theorem k_idle (h : ExAt w p (some a) r seenC) (x : Int) (b : Bool) (hv : pIdleE 7 seenC rsX x = 0 ∧ pIdleB 7 seenC rsX x = b) : Calls Try.prog 42 #[.agg #[.int .i64 7, .slice (some a) 2 2, .slice (some ⟨r, 0, none⟩) 5 5], .int .i64 x] w (BoolE w b 0) := by
  have := pIdle_c 7 (some a) 2 seenC (some ⟨r, 0, none⟩) 5 rsX x w (h.c (by decide)) (fun h => by cases h); rw [hv.1, hv.2] at this; exact this
/-- a list, a clash and no error -/
def RefK (w : World) (e : Ending) (w' : World) : Prop := ∃ ao n cap, e = .returned (.tuple #[.slice ao n cap, .bool true, .int .i64 0]) ∧ Below w.heap.size w w'
theorem k_ref (h : ExAt w p (some a) r seenD) (b : Option Addr) (c : Nat) (ht : IntsAt w b [0, 1, 2]) (hc : 3 ≤ c) : Calls Try.prog 31 #[.agg #[.int .i64 7, .slice (some a) 3 3, .slice (some ⟨r, 0, none⟩) 5 5], .slice b 3 c] w (RefK w) := by
  refine (rCheckSteps_c 7 (some a) 3 seenD (some ⟨r, 0, none⟩) 5 rsX b c [0, 1, 2] w (h.c (by decide)) ht (by decide) hc).mono ?_
  rintro e w' ⟨ao, cap, rfl, _, _, hB⟩
  have h1 : (rcs 7 seenD rsX [0, 1, 2]).2.1 = true := by rw [v25]
  have h2 : (rcs 7 seenD rsX [0, 1, 2]).2.2 = 0 := by rw [v25]
  exact ⟨ao, _, cap, by rw [h1, h2], hB⟩
end

end Go.Proofs.Ytkioejdddmnbmaa
