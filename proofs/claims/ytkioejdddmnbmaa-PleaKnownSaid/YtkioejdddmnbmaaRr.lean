/- Rules in memory: rows of rules of a call's own; appends of rules. Walk: Clone of rules. -/
import Derived.Test.YtkioejdddmnbmaaSf
import Derived.Deep.RegionLaw
import Derived.ArgAppend
namespace Go.Proofs.Ytkioejdddmnbmaa
open Go.RowKit Go.Shelf

theorem info60 : (Try.prog.info? 60).map (fun i => (i.zero, i.size, i.bytes)) = some (some (.agg #[.slice none 0 0, .int .i64 0]), 2, 32) := by kernel_rfl

/-- the cells of rules -/
def RulesC (w : World) (cl : List Value) (rs : List Rl) : Prop :=
  cl.length = rs.length * 2 ∧ ∀ i, i < rs.length → ∃ a cap, cl[i * 2]? = some (.slice a (nthR rs i).1.length cap) ∧ cl[i * 2 + 1]? = some (.int .i64 (nthR rs i).2) ∧ IntsAt w a (nthR rs i).1 ∧ (a = none → cap = 0)
theorem nthR_append_left {xs ys : List Rl} {i : Nat} (h : i < xs.length) : nthR (xs ++ ys) i = nthR xs i := by
  unfold nthR; rw [List.getD_eq_getElem?_getD, List.getD_eq_getElem?_getD, List.getElem?_append_left h]
theorem nthR_append_right {xs ys : List Rl} {i : Nat} (h : xs.length ≤ i) : nthR (xs ++ ys) i = nthR ys (i - xs.length) := by
  unfold nthR; rw [List.getD_eq_getElem?_getD, List.getD_eq_getElem?_getD, List.getElem?_append_right h]
theorem nthR_take {xs : List Rl} {i k : Nat} (h : i < k) : nthR (xs.take k) i = nthR xs i := by
  unfold nthR; rw [List.getD_eq_getElem?_getD, List.getD_eq_getElem?_getD, List.getElem?_take, if_pos h]
theorem nthR_drop {xs : List Rl} {i k : Nat} : nthR (xs.drop k) i = nthR xs (k + i) := by
  unfold nthR; rw [List.getD_eq_getElem?_getD, List.getD_eq_getElem?_getD, List.getElem?_drop]
theorem RulesC.nil (w : World) : RulesC w [] [] := ⟨rfl, fun i h => by cases h⟩
theorem RulesC.append {w : World} {c1 c2 : List Value} {xs ys : List Rl} (h1 : RulesC w c1 xs) (h2 : RulesC w c2 ys) : RulesC w (c1 ++ c2) (xs ++ ys) := by
  refine ⟨by rw [List.length_append, List.length_append, h1.1, h2.1]; omega, fun i hi => ?_⟩
  by_cases h : i < xs.length
  · obtain ⟨a, cap, e1, e2, e3, e4⟩ := h1.2 i h
    rw [nthR_append_left h]
    exact ⟨a, cap, by rw [List.getElem?_append_left (by rw [h1.1]; omega)]; exact e1, by rw [List.getElem?_append_left (by rw [h1.1]; omega)]; exact e2, e3, e4⟩
  · rw [List.length_append] at hi
    obtain ⟨a, cap, e1, e2, e3, e4⟩ := h2.2 (i - xs.length) (by omega)
    rw [nthR_append_right (by omega)]
    exact ⟨a, cap, by rw [List.getElem?_append_right (by rw [h1.1]; omega), h1.1, show i * 2 - xs.length * 2 = (i - xs.length) * 2 from by omega]; exact e1, by rw [List.getElem?_append_right (by rw [h1.1]; omega), h1.1, show i * 2 + 1 - xs.length * 2 = (i - xs.length) * 2 + 1 from by omega]; exact e2, e3, e4⟩
theorem RulesC.take {w : World} {c : List Value} {xs : List Rl} (h : RulesC w c xs) {k : Nat} (hk : k ≤ xs.length) : RulesC w (c.take (k * 2)) (xs.take k) := by
  refine ⟨by rw [List.length_take, List.length_take, h.1]; omega, fun i hi => ?_⟩
  rw [List.length_take] at hi
  obtain ⟨a, cap, e1, e2, e3, e4⟩ := h.2 i (by omega)
  rw [nthR_take (by omega)]
  exact ⟨a, cap, by rw [List.getElem?_take, if_pos (by omega)]; exact e1, by rw [List.getElem?_take, if_pos (by omega)]; exact e2, e3, e4⟩
theorem RulesC.drop {w : World} {c : List Value} {xs : List Rl} (h : RulesC w c xs) {k : Nat} (hk : k ≤ xs.length) : RulesC w (c.drop (k * 2)) (xs.drop k) := by
  refine ⟨by rw [List.length_drop, List.length_drop, h.1]; omega, fun i hi => ?_⟩
  rw [List.length_drop] at hi
  obtain ⟨a, cap, e1, e2, e3, e4⟩ := h.2 (k + i) (by omega)
  rw [nthR_drop]
  exact ⟨a, cap, by rw [List.getElem?_drop, show k * 2 + i * 2 = (k + i) * 2 from by omega]; exact e1, by rw [List.getElem?_drop, show k * 2 + (i * 2 + 1) = (k + i) * 2 + 1 from by omega]; exact e2, e3, e4⟩
theorem RulesC.one {w : World} {c : List Value} {rs : List Rl} (h : RulesC w c rs) : ∀ u ∈ c, u.oneCell' = true := by
  intro u hu
  obtain ⟨j, hj, rfl⟩ := List.getElem_of_mem hu
  have hl := h.1
  obtain ⟨a, cap, e1, e2, _, _⟩ := h.2 (j / 2) (by omega)
  rcases Nat.mod_two_eq_zero_or_one j with hm | hm
  · rw [show j / 2 * 2 = j from by omega, List.getElem?_eq_getElem hj] at e1
    rw [Option.some.inj e1]; rfl
  · rw [show j / 2 * 2 + 1 = j from by omega, List.getElem?_eq_getElem hj] at e2
    rw [Option.some.inj e2]; rfl

theorem rules_cells {w : World} {ao : Option Addr} {rs : List Rl} (h : RulesAt w ao rs) : ∃ cl, RulesC w cl rs ∧ ∀ ad, ao = some ad → ∀ j u, cl[j]? = some u → w.cell? (ad.add j) = some u := by
  rcases h with rfl | ⟨b, off, rfl, h⟩
  · exact ⟨[], RulesC.nil w, fun _ _ j u hj => by simp at hj⟩
  · refine ⟨(List.range (rs.length * 2)).map (fun j => (w.cell? ⟨b, off + j, none⟩).getD undef), ⟨by simp, fun i hi => ?_⟩, ?_⟩
    · obtain ⟨a, cap, hr⟩ := h i hi
      have c1 := hr.cI
      have c2 := hr.cT
      refine ⟨a, cap, ?_, ?_, hr.at', hr.nil⟩
      · rw [List.getElem?_map, List.getElem?_range (by omega), Option.map_some, c1]; rfl
      · rw [List.getElem?_map, List.getElem?_range (by omega), Option.map_some, show off + (i * 2 + 1) = off + i * 2 + 1 from by omega, c2]; rfl
    · intro ad e j u hj
      cases e
      have hjl : j < rs.length * 2 := by
        have := (List.getElem?_eq_some_iff.1 hj).1
        simpa using this
      rw [List.getElem?_map, List.getElem?_range hjl, Option.map_some] at hj
      rw [Addr.add_lit]
      obtain ⟨a, cap, hr⟩ := h (j / 2) (by omega)
      rcases Nat.mod_two_eq_zero_or_one j with hm | hm
      · have c1 := hr.cI
        rw [show off + j / 2 * 2 = off + j from by omega] at c1
        rw [c1] at hj
        rw [c1, ← hj]; rfl
      · have c2 := hr.cT
        rw [show off + j / 2 * 2 + 1 = off + j from by omega] at c2
        rw [c2] at hj
        rw [c2, ← hj]; rfl

/-- rules of a call's own; their lists are older -/
def OwnRu (w0 w : World) (ao : Option Addr) (n cap : Nat) (rs : List Rl) : Prop := rs.length = n ∧ ∃ cl, w.ownsRow w0.heap.size 60 2 (.slice ao n cap) n cl ∧ RulesC w0 cl rs
theorem OwnRu.nil (w0 w : World) : OwnRu w0 w none 0 0 [] := ⟨rfl, [], World.ownsRow_nil w _ 60 2, RulesC.nil w0⟩
theorem rules_of_cells {w0 w : World} {g : Nat} {cl cur : List Value} {rs : List Rl} (hC : RulesC w0 cl rs) (hB : Below w0.heap.size w0 w) (hh : w.heap[g]? = some (.cells cur.toArray 60 (0, 0))) (ht : cur.take cl.length = cl) : RulesAt w (some ⟨g, 0, none⟩) rs := by
  refine .inr ⟨g, 0, rfl, fun i hi => ?_⟩
  obtain ⟨a, cap, e1, e2, e3, e4⟩ := hC.2 i hi
  have hl := hC.1
  have hc : ∀ j, j < cl.length → w.cell? ⟨g, j, none⟩ = cl[j]? := fun j hj => by
    rw [cell_of_row _ _ _ _ _ _ hh, List.getElem?_toArray]
    have := congrArg (fun l => l[j]?) ht
    simp only [List.getElem?_take, hj, if_true] at this
    exact this
  exact ⟨a, cap, by rw [Nat.zero_add, hc _ (by omega)]; exact e1, e3.mono hB, e4, by rw [Nat.zero_add, hc _ (by omega)]; exact e2⟩
theorem OwnRu.at {w0 w : World} {ao : Option Addr} {n cap : Nat} {rs : List Rl} (h : OwnRu w0 w ao n cap rs) (hB : Below w0.heap.size w0 w) : RulesAt w ao rs := by
  obtain ⟨hn, cl, ⟨hl, (⟨e, h0⟩ | ⟨g, c, cur, e, hge, hh, hc, hm, hs, ht⟩)⟩, hC⟩ := h
  · left; exact List.eq_nil_of_length_eq_zero (by omega)
  · cases e
    exact rules_of_cells (cur := cur.toList) hC hB (by simpa using hh) (by rw [hC.1, hn]; exact ht)

theorem run_app_rules (ty : TypeId) (w w0 : World) (ao : Option Addr) (n cap : Nat) (xs : List Rl) (hown : OwnRu w0 w ao n cap xs) (hB : Below w0.heap.size w0 w)
    (ax : Option Addr) (m cx : Nat) (ys : List Rl) (hy : RulesAt w0 ax ys) (hm : ys.length = m) (hnil : ax = none → m = 0 ∧ cx = 0) (hb : n + m ≤ 1000000) :
    ∃ ao' cap' w', (Builtin.append_ #[23, 23] ty #[.slice ao n cap, .slice ax m cx]).run Try.prog w = .ok (.slice ao' (n + m) cap') w' ∧
      Below w0.heap.size w0 w' ∧ OwnRu w0 w' ao' (n + m) cap' (xs ++ ys) := by
  obtain ⟨i, hi, hz, hs, hby⟩ := info_parts info60
  obtain ⟨hn, cl, hrow, hC⟩ := hown
  obtain ⟨c2, hC2, hcell⟩ := rules_cells hy
  cases ax with
  | none =>
    obtain ⟨rfl, rfl⟩ := hnil rfl
    obtain rfl : ys = [] := List.eq_nil_of_length_eq_zero hm
    refine ⟨ao, cap, w, ?_, hB, by rw [List.append_nil]; exact ⟨hn, cl, hrow, hC⟩⟩
    exact run_append_owned_none (P := Try.prog) w w0.heap.size 23 ty 60 i 2 Try.underlying23 hi (.slice ao n cap) n cl hrow
  | some ad =>
    have hl2 := hC2.1
    obtain ⟨v', w', hrun, r1, r2, r3⟩ := run_append_own (P := Try.prog) w w0.heap.size 23 ty 60 i (.agg #[.slice none 0 0, .int .i64 0]) 2 32 Try.underlying23 hi hz hs hby rfl (by decide) (.slice ao n cap) n cl hrow ad m cx c2 (by rw [hl2, hm])
      (fun j u hj => by
        have h1 := hcell ad rfl j u hj
        exact (hB.cell (block_lt_of_cell h1)).trans h1)
      hC2.one (by unfold maxLen; omega) (by omega) hB.size
    have hBw : Below w0.heap.size w0 w' := hB.trans ((Below.refl _ w).grown r2 hB.size (fun k e => (hrow.lt k e).1))
    have r1' := r1
    rcases r1 with ⟨hl, (⟨rfl, h0⟩ | ⟨g, c, cur, rfl, hge, hh, hr⟩)⟩
    · have hmz : m = 0 := by omega
      exact ⟨none, 0, w', by rw [hrun, h0], hBw, by rw [List.length_append, hn, hm], cl ++ c2, by rw [h0] at r1' ⊢; exact r1', hC.append hC2⟩
    · exact ⟨some ⟨g, 0, none⟩, c, w', hrun, hBw, by rw [List.length_append, hn, hm], cl ++ c2, r1', hC.append hC2⟩

theorem wpList_app_rules {ops : Array Oper} {rest : List Oper} {o : Oper} {a : Act} {Q : Exit → Act → World → Prop} (w w0 : World) (hg : o.guard = none) (s x : Operand)
    (hop : o.op = Op.call { callee := Callee.builtin Builtin.append, args := #[s, x], argTypes := #[23, 23] })
    (ao : Option Addr) (n cap : Nat) (xs : List Rl) (hs : a.eval s = .slice ao n cap) (hown : OwnRu w0 w ao n cap xs) (hB : Below w0.heap.size w0 w)
    (ax : Option Addr) (m cx : Nat) (ys : List Rl) (hx : a.eval x = .slice ax m cx) (hy : RulesAt w0 ax ys) (hm : ys.length = m) (hnil : ax = none → m = 0 ∧ cx = 0) (hb : n + m ≤ 1000000)
    (hK : ∀ ao' cap' w', Below w0.heap.size w0 w' → OwnRu w0 w' ao' (n + m) cap' (xs ++ ys) → wpList Try.prog ops Q rest (a.put o.dst (.slice ao' (n + m) cap')) w') :
    wpList Try.prog ops Q (o :: rest) a w := by
  refine wpList_plain hg fun K hK' => ?_
  obtain ⟨ao', cap', w', hrun, h1, h2⟩ := run_app_rules o.type w w0 ao n cap xs hown hB ax m cx ys hy hm hnil hb
  unfold Oper.wp
  simp [execOp, hop, resolve, invoke, builtin, hs, hx, hrun, Result.andThen]
  exact hK' _ _ (hK ao' cap' w' h1 h2)
theorem step_app_rules {ops : Array Oper} {o : Oper} {a : Act} {K : Act → World → Prop} {Q : Exit → Act → World → Prop} {E : Prop} (w w0 : World) (hgd : o.guard = none) (s x : Operand)
    (hop : o.op = Op.call { callee := Callee.builtin Builtin.append, args := #[s, x], argTypes := #[23, 23] })
    (ao : Option Addr) (n cap : Nat) (xs : List Rl) (hs : a.eval s = .slice ao n cap) (hown : OwnRu w0 w ao n cap xs) (hB : Below w0.heap.size w0 w)
    (ax : Option Addr) (m cx : Nat) (ys : List Rl) (hx : a.eval x = .slice ax m cx) (hy : RulesAt w0 ax ys) (hm : ys.length = m) (hnil : ax = none → m = 0 ∧ cx = 0) (hb : n + m ≤ 1000000)
    (hK : ∀ ao' cap' w', Below w0.heap.size w0 w' → OwnRu w0 w' ao' (n + m) cap' (xs ++ ys) → K (a.put o.dst (.slice ao' (n + m) cap')) w') :
    if Region.wanted o (yielded ops a.tmps) = true then Oper.wp Try.prog o a w K Q else E := by
  have hw : Region.wanted o (yielded ops a.tmps) = true := by simp [Region.wanted, hgd]
  rw [if_pos hw]
  obtain ⟨ao', cap', w', hrun, h1, h2⟩ := run_app_rules o.type w w0 ao n cap xs hown hB ax m cx ys hy hm hnil hb
  unfold Oper.wp
  simp [execOp, hop, resolve, invoke, builtin, hs, hx, hrun, Result.andThen, Oper.upon]
  exact hK ao' cap' w' h1 h2

theorem ownRu_lit0 (w : World) : OwnRu w (w.alloc (.cells #[] 60)) (some ⟨w.heap.size, 0, none⟩) 0 0 [] :=
  ⟨rfl, [], World.ownsRow_made (base := w.heap.size) (e := 60) (size := 2) w #[] 0 (Nat.le_refl _) (by unfold maxLen; omega) rfl, RulesC.nil w⟩

def OwnRuP (w : World) (rs : List Rl) (e : Ending) (w' : World) : Prop := ∃ ao cap, e = .returned (.slice ao rs.length cap) ∧ OwnRu w w' ao rs.length cap rs ∧ Below w.heap.size w w' ∧ (0 < rs.length → ao ≠ none)

attribute [local go_sem] eql_nil22 eql_nil23
set_option maxRecDepth 100000 in
set_option maxHeartbeats 2000000 in
theorem cloneR_c (a : Option Addr) (cap : Nat) (rs : List Rl) (w : World) (hx : RulesAt w a rs) (hl : rs.length ≤ 100000) (hnil : a = none → cap = 0) : Calls Try.prog 83 #[.slice a rs.length cap] w (OwnRuP w rs) := by
  have Hx := hid hx
  clear hx
  cases a with
  | none =>
    obtain rfl : rs = [] := by
      rcases Hx.out with h | ⟨b, off, h, _⟩
      · exact h
      · cases h
    obtain rfl := hnil rfl
    go_enter Try.func83, Try.ntmps83
    go_wp2
    go_ret
    exact ⟨none, 0, rfl, OwnRu.nil _ _, Below.refl _ _, fun h => by cases h⟩
  | some a =>
    go_enter Try.func83, Try.ntmps83
    have H0 := hid (ownRu_lit0 w)
    have HB := hid (bnew w (.cells #[] 60))
    go_wp2_with (at_builtin; refine wpList_app_rules _ w (by rfl) _ _ (by rfl) (some ⟨w.heap.size, 0, none⟩) 0 0 [] (by rfl) H0.out HB.out (some a) rs.length cap rs (by rfl) ?c1 (by rfl) (fun h => by cases h) ?c2 ?c3; rotate_right; (intro ao' cap' w' hB' hown'; refine Hid.out ?_))
    case c1 => exact Hx.out
    case c2 => omega
    case c3 =>
      refine hid ?_
      have Hown' := hid hown'; have HB' := hid hB'
      clear hown' hB'
      go_wp2
      go_ret
      have h := Hown'.out
      rw [Nat.zero_add, List.nil_append] at h
      refine ⟨ao', cap', rfl, h, HB'.out, fun hp e => ?_⟩
      subst e
      obtain ⟨_, cl, ⟨_, (⟨_, h0⟩ | ⟨g, c, cur, e, _⟩)⟩, _⟩ := h
      · omega
      · cases e

end Go.Proofs.Ytkioejdddmnbmaa
