/- Appends to rules in regions that draw their order; rules of the call's own through allocs and stores; a case's box that such a region makes. -/
import Derived.Test.YtkioejdddmnbmaaUn
namespace Go.Proofs.Ytkioejdddmnbmaa
open Go.RowKit Go.Shelf

theorem naH {w : World} {g : Nat} {o : Obj} (h : g = w.heap.size) : (w.alloc o).heap[g]? = some o := by subst h; exact heap_alloc_new w o
theorem za {X : World} {g : Nat} {o : Obj} (h : X.heap[g]? = some o) (o2 : Obj) : (X.alloc o2).heap[g]? = some o :=
  ((bnew X o2).block _ (Array.getElem?_eq_some_iff.1 h).1).trans h
theorem bset {W x : World} {o : Nat} {v : Value} (h : Below W.heap.size W x) : Below W.heap.size W (x.setCell ⟨W.heap.size, o, none⟩ v) := h.setCell (Nat.le_refl _) v
theorem bset1 {W x : World} {o : Nat} {v : Value} (h : Below W.heap.size W x) : Below W.heap.size W (x.setCell ⟨W.heap.size + 1, o, none⟩ v) := h.setCell (by show W.heap.size ≤ W.heap.size + 1; omega) v
theorem bset2 {W x : World} {o : Nat} {v : Value} (h : Below W.heap.size W x) : Below W.heap.size W (x.setCell ⟨W.heap.size + 2, o, none⟩ v) := h.setCell (by show W.heap.size ≤ W.heap.size + 2; omega) v
theorem zd {X : World} {g : Nat} {o : Obj} (h : X.heap[g]? = some o) : X.drew.heap[g]? = some o := h
theorem zb {X W : World} {g : Nat} {o : Obj} (h : X.heap[g]? = some o) (hB : Below X.heap.size X W) : W.heap[g]? = some o :=
  (hB.block _ (Array.getElem?_eq_some_iff.1 h).1).trans h

theorem OwnRu.empty {W w : World} {g : Nat} (h : w.heap[g]? = some (.cells #[] 60 (0, 0))) (hg : W.heap.size ≤ g) : OwnRu W w (some ⟨g, 0, Option.none⟩) 0 0 [] :=
  ⟨rfl, [], ⟨by simp, .inr ⟨g, 0, #[], rfl, hg, h, Nat.le_refl _, by unfold maxLen; omega, by simp, by simp⟩⟩, RulesC.nil W⟩
theorem OwnRu.grown {W w w' : World} {ao : Option Addr} {n cap : Nat} {rs : List Rl} (h : OwnRu W w ao n cap rs) (hB : Below w.heap.size w w') : OwnRu W w' ao n cap rs := by
  obtain ⟨h1, cl, h2, h3⟩ := h
  refine ⟨h1, cl, h2.kept (row := Option.none) ⟨hB.os, hB.tape, hB.output, hB.size, fun k hk _ => hB.block k hk⟩ ?_, h3⟩
  cases ao
  · exact .inl rfl
  · exact .inr (by simp [Value.ownBlock])
theorem OwnRu.al {W w : World} {ao : Option Addr} {n cap : Nat} {rs : List Rl} (h : OwnRu W w ao n cap rs) (o : Obj) : OwnRu W (w.alloc o) ao n cap rs := h.grown (bnew w o)
theorem OwnRu.dr {W w : World} {ao : Option Addr} {n cap : Nat} {rs : List Rl} (h : OwnRu W w ao n cap rs) : OwnRu W w.drew ao n cap rs := h
theorem OwnRu.own {W w : World} {a : Addr} {n cap : Nat} {rs : List Rl} (h : OwnRu W w (some a) n cap rs) : a.off = 0 ∧ a.spot = Option.none ∧ W.heap.size ≤ a.block ∧ ∃ cur, w.heap[a.block]? = some (.cells cur 60 (0, 0)) := by
  obtain ⟨_, cl, ⟨_, (⟨e, _⟩ | ⟨g, c, cur, e, hge, hh, _⟩)⟩, _⟩ := h
  · cases e
  · cases e; exact ⟨rfl, rfl, hge, cur, hh⟩
theorem OwnRu.onlyAt {W w w' : World} {a : Addr} {n cap b : Nat} {rs : List Rl} (h : OwnRu W w (some a) n cap rs) (hO : Only (fun k => k = b) w w') (hb : a.block ≠ b) : OwnRu W w' (some a) n cap rs := by
  obtain ⟨h1, cl, h2, h3⟩ := h
  exact ⟨h1, cl, h2.kept (row := some b) ⟨hO.os, hO.tape, hO.output, hO.size, fun k hk hs => hO.block k hk (fun e => hs (by rw [e]))⟩ (.inr (by simpa [Value.ownBlock] using hb)), h3⟩
theorem OwnRu.nilCap {W w : World} {ao : Option Addr} {n cap : Nat} {rs : List Rl} (h : OwnRu W w ao n cap rs) : ao = Option.none → cap = 0 := by
  rintro rfl
  obtain ⟨_, cl, ⟨_, (⟨e, h0⟩ | ⟨g, c, cur, e, _⟩)⟩, _⟩ := h
  · cases e; rfl
  · cases e
/-- a box that is no row of rules stays behind an append -/
theorem box_keep {W w w' : World} {a : Addr} {n cap b : Nat} {rs : List Rl} {cs : Array Value} (hz : w.heap[b]? = some (.cells cs 25 (0, 0))) (h : OwnRu W w (some a) n cap rs) (hg : w.grownBy w' (some a.block)) : w'.heap[b]? = some (.cells cs 25 (0, 0)) := by
  obtain ⟨_, _, _, cur, hh⟩ := h.own
  refine (hg.block b (Array.getElem?_eq_some_iff.1 hz).1 fun e => ?_).trans hz
  cases e
  rw [hh] at hz
  simp at hz

/-- an append onto an empty list of one's own: only new blocks -/
theorem run_app_rulesA (ty : TypeId) (w W : World) (g : Nat) (h0 : w.heap[g]? = some (.cells #[] 60 (0, 0))) (hg : W.heap.size ≤ g) (hB : Below W.heap.size W w)
    (ax : Option Addr) (m cx : Nat) (ys : List Rl) (hy : RulesAt W ax ys) (hm : ys.length = m) (hnil : ax = none → m = 0 ∧ cx = 0) (hb : m ≤ 1000000) :
    ∃ g' cap' w', (Builtin.append_ #[23, 23] ty #[.slice (some ⟨g, 0, none⟩) 0 0, .slice ax m cx]).run Try.prog w = .ok (.slice (some ⟨g', 0, none⟩) m cap') w' ∧
      Below w.heap.size w w' ∧ OwnRu W w' (some ⟨g', 0, none⟩) m cap' ys := by
  subst hm
  obtain ⟨i, hi, hz, hs, hby⟩ := info_parts info60
  obtain ⟨c2, hC2, hcell⟩ := rules_cells hy
  by_cases hl0 : ys.length = 0
  · obtain rfl : ys = [] := List.eq_nil_of_length_eq_zero hl0
    have hsrc : Src Try.prog i.size 23 (.slice ax 0 cx) 0 [] w := by
      cases ax with
      | none => exact Src.ofNil w Try.underlying23 cx
      | some a => exact Src.ofSlice w Try.underlying23 a 0 cx [] (by simp) (by intro j u h; simp at h) (by intro u h; cases h)
    exact ⟨g, 0, w, run_append_nothing w 23 23 ty 60 i Try.underlying23 hi (some ⟨g, 0, none⟩) 0 0 (Nat.le_refl _) _ hsrc, Below.refl _ _, OwnRu.empty h0 hg⟩
  · cases ax with
    | none => exact absurd (hnil rfl).1 hl0
    | some a =>
      have hl2 := hC2.1
      obtain ⟨v', w', hrun, hr, hgr⟩ := run_append_arg_grows (P := Try.prog) w 23 ty 60 i (.agg #[.slice none 0 0, .int .i64 0]) 2 32 Try.underlying23 hi hz hs hby rfl (by decide) ⟨g, 0, none⟩ 0 0 [] (by simp) (by intro j u h; simp at h) a ys.length cx c2 hl2
        (fun j u hj => by
          have h1 := hcell a rfl j u hj
          exact (hB.cell (block_lt_of_cell h1)).trans h1) (by omega) (by unfold maxLen; omega) (by omega)
      rw [Nat.zero_add, List.nil_append] at hr
      rcases hr with ⟨hl, (⟨rfl, h00⟩ | ⟨g', c, cur, rfl, hge, hh, hrest⟩)⟩
      · exact absurd h00 hl0
      · exact ⟨g', c, w', hrun, (Below.refl _ w).grown hgr (Nat.le_refl _) (fun k e => by cases e), rfl, c2, ⟨hl, .inr ⟨g', c, cur, rfl, Nat.le_trans hB.size hge, hh, hrest⟩⟩, hC2⟩

/-- an append of one rule that a literal holds -/
theorem run_app_rulesC (ty : TypeId) (w W : World) (a : Addr) (n cap : Nat) (xs : List Rl) (hown : OwnRu W w (some a) n cap xs) (hB : Below W.heap.size W w)
    (g1 cx : Nat) (qa : Option Addr) (qc : Nat) (q : Rl) (hq : IntsAt W qa q.1) (hqn : qa = none → qc = 0) (h1 : w.heap[g1]? = some (.cells #[.slice qa q.1.length qc, .int .i64 q.2] 60 (0, 0))) (hb : n + 1 ≤ 1000000) :
    ∃ g' cap' w', (Builtin.append_ #[23, 23] ty #[.slice (some a) n cap, .slice (some ⟨g1, 0, none⟩) 1 cx]).run Try.prog w = .ok (.slice (some ⟨g', 0, none⟩) (n + 1) cap') w' ∧
      Below W.heap.size W w' ∧ OwnRu W w' (some ⟨g', 0, none⟩) (n + 1) cap' (xs ++ [q]) ∧ w.grownBy w' (some a.block) := by
  obtain ⟨i, hi, hz, hs, hby⟩ := info_parts info60
  obtain ⟨hn, cl, hrow, hC⟩ := hown
  have hC2 : RulesC W [.slice qa q.1.length qc, .int .i64 q.2] [q] := ⟨rfl, fun k hk => by
    obtain rfl : k = 0 := by simpa using hk
    exact ⟨qa, qc, rfl, rfl, hq, hqn⟩⟩
  obtain ⟨v', w', hrun, r1, r2, r3⟩ := run_append_own (P := Try.prog) w W.heap.size 23 ty 60 i (.agg #[.slice none 0 0, .int .i64 0]) 2 32 Try.underlying23 hi hz hs hby rfl (by decide) (.slice (some a) n cap) n cl hrow ⟨g1, 0, none⟩ 1 cx [.slice qa q.1.length qc, .int .i64 q.2] rfl
    (fun j u hj => by
      have hj2 := (List.getElem?_eq_some_iff.1 hj).1
      rw [Addr.add_lit, Nat.zero_add, cell_of_row _ _ _ _ _ _ h1]
      rw [← hj]; simp)
    hC2.one (by unfold maxLen; omega) (by omega) hB.size
  have hBw : Below W.heap.size W w' := hB.trans ((Below.refl _ w).grown r2 hB.size (fun k e => (hrow.lt k e).1))
  have r1' := r1
  rcases r1 with ⟨hl, (⟨rfl, h0⟩ | ⟨g, c, cur, rfl, hge, hh, hr⟩)⟩
  · omega
  · exact ⟨g, c, w', hrun, hBw, ⟨by rw [List.length_append, hn]; rfl, cl ++ [.slice qa q.1.length qc, .int .i64 q.2], r1', hC.append hC2⟩, r2⟩

section
variable {ops : Array Oper} {o : Oper} {a : Act} {K : Act → World → Prop} {Q : Exit → Act → World → Prop} {E : Prop}
theorem step_appA (w W : World) (hgd : o.guard = none) (s x : Operand) (hop : o.op = Op.call { callee := Callee.builtin Builtin.append, args := #[s, x], argTypes := #[23, 23] })
    (g : Nat) (hs : a.eval s = .slice (some ⟨g, 0, none⟩) 0 0) (ax : Option Addr) (m cx : Nat) (ys : List Rl) (hx : a.eval x = .slice ax m cx)
    (hy : RulesAt W ax ys) (hm : ys.length = m) (hnil : ax = none → m = 0 ∧ cx = 0) (hb : m ≤ 1000000)
    (h0 : w.heap[g]? = some (.cells #[] 60 (0, 0))) (hg : W.heap.size ≤ g) (hB : Below W.heap.size W w)
    (hK : ∀ g' cap' w', Below w.heap.size w w' → OwnRu W w' (some ⟨g', 0, none⟩) m cap' ys → K (a.put o.dst (.slice (some ⟨g', 0, none⟩) m cap')) w') :
    if Region.wanted o (yielded ops a.tmps) = true then Oper.wp Try.prog o a w K Q else E := by
  have hw : Region.wanted o (yielded ops a.tmps) = true := by simp [Region.wanted, hgd]
  rw [if_pos hw]
  obtain ⟨g', cap', w', hrun, h1, h2⟩ := run_app_rulesA o.type w W g h0 hg hB ax m cx ys hy hm hnil hb
  unfold Oper.wp
  simp [execOp, hop, resolve, invoke, builtin, hs, hx, hrun, Result.andThen, Oper.upon]
  exact hK g' cap' w' h1 h2
theorem step_appC (w W : World) (hgd : o.guard = none) (s x : Operand) (hop : o.op = Op.call { callee := Callee.builtin Builtin.append, args := #[s, x], argTypes := #[23, 23] })
    (b : Addr) (n cap : Nat) (xs : List Rl) (hs : a.eval s = .slice (some b) n cap) (g1 cx : Nat) (hx : a.eval x = .slice (some ⟨g1, 0, none⟩) 1 cx)
    (qa : Option Addr) (qc : Nat) (q : Rl) (hq : IntsAt W qa q.1) (hqn : qa = none → qc = 0) (hb : n + 1 ≤ 1000000)
    (hown : OwnRu W w (some b) n cap xs) (h1 : w.heap[g1]? = some (.cells #[.slice qa q.1.length qc, .int .i64 q.2] 60 (0, 0))) (hB : Below W.heap.size W w)
    (hK : ∀ g' cap' w', Below W.heap.size W w' → OwnRu W w' (some ⟨g', 0, none⟩) (n + 1) cap' (xs ++ [q]) → w.grownBy w' (some b.block) → K (a.put o.dst (.slice (some ⟨g', 0, none⟩) (n + 1) cap')) w') :
    if Region.wanted o (yielded ops a.tmps) = true then Oper.wp Try.prog o a w K Q else E := by
  have hw : Region.wanted o (yielded ops a.tmps) = true := by simp [Region.wanted, hgd]
  rw [if_pos hw]
  obtain ⟨g', cap', w', hrun, h2, h3, h4⟩ := run_app_rulesC o.type w W b n cap xs hown hB g1 cx qa qc q hq hqn h1 hb
  unfold Oper.wp
  simp [execOp, hop, resolve, invoke, builtin, hs, hx, hrun, Result.andThen, Oper.upon]
  exact hK g' cap' w' h2 h3 h4
end

/-- a case's box that was made since W, with rules of the call's own -/
def BoxAt (W : World) (f : Int) (sa : Option Addr) (sn sc : Nat) (rs : List Rl) (y : Value) (w : World) : Prop :=
  ∃ b a c, y = .pointer (some ⟨b, 0, none⟩) ∧ w.heap[b]? = some (.cells #[.int .i64 f, .slice sa sn sc, .slice a rs.length c] 25 (0, 0)) ∧ W.heap.size ≤ b ∧ RulesAt w a rs ∧ (a = none → c = 0) ∧ Below W.heap.size W w
theorem BoxAt.new {W w : World} {f : Int} {sa : Option Addr} {sn sc : Nat} {rs : List Rl} {a : Option Addr} {c : Nat} (hown : OwnRu W w a rs.length c rs) (hB : Below W.heap.size W w) :
    BoxAt W f sa sn sc rs (.pointer (some ⟨w.heap.size, 0, none⟩)) (w.alloc (.cells #[.int .i64 f, .slice sa sn sc, .slice a rs.length c] 25)) :=
  ⟨_, a, c, rfl, heap_alloc_new _ _, hB.size, (hown.al _).at (bstep hB (bnew _ _)), hown.nilCap, bstep hB (bnew _ _)⟩
theorem BoxAt.put {W w : World} {f : Int} {sa : Option Addr} {sn sc b : Nat} {rs : List Rl} {a : Option Addr} {c : Nat} {z0 z1 z2 : Value} (hz : w.heap[b]? = some (.cells #[z0, z1, z2] 25 (0, 0))) (hb : W.heap.size ≤ b) (hown : OwnRu W w a rs.length c rs) (hB : Below W.heap.size W w) :
    BoxAt W f sa sn sc rs (.pointer (some ⟨b, 0, none⟩)) (((w.setCell ⟨b, 0, none⟩ (.int .i64 f)).setCell ⟨b, 1, none⟩ (.slice sa sn sc)).setCell ⟨b, 2, none⟩ (.slice a rs.length c)) := by
  have hO : Only (fun k => k = b) w (((w.setCell ⟨b, 0, none⟩ (.int .i64 f)).setCell ⟨b, 1, none⟩ (.slice sa sn sc)).setCell ⟨b, 2, none⟩ (.slice a rs.length c)) := ((setCell_only _ _ _).trans (setCell_only _ _ _)).trans (setCell_only _ _ _)
  have hr : (((w.setCell ⟨b, 0, none⟩ (.int .i64 f)).setCell ⟨b, 1, none⟩ (.slice sa sn sc)).setCell ⟨b, 2, none⟩ (.slice a rs.length c)).heap[b]? = some (.cells #[.int .i64 f, .slice sa sn sc, .slice a rs.length c] 25 (0, 0)) :=
    heap_setCell_same _ _ 2 #[.int .i64 f, .slice sa sn sc, z2] 25 _ (heap_setCell_same _ _ 1 #[.int .i64 f, z1, z2] 25 _ (heap_setCell_same w _ 0 _ 25 _ hz))
  have hB' : Below W.heap.size W (((w.setCell ⟨b, 0, none⟩ (.int .i64 f)).setCell ⟨b, 1, none⟩ (.slice sa sn sc)).setCell ⟨b, 2, none⟩ (.slice a rs.length c)) := ((hB.setCell hb _).setCell hb _).setCell hb _
  refine ⟨b, a, c, rfl, hr, hb, ?_, hown.nilCap, hB'⟩
  cases a with
  | none =>
    have : rs = [] := by
      obtain ⟨h1, cl, ⟨hl, (⟨e, h0⟩ | ⟨g, c, cur, e, _⟩)⟩, _⟩ := hown
      · exact List.eq_nil_of_length_eq_zero h0
      · cases e
    exact .inl this
  | some a =>
    refine (hown.onlyAt hO fun e => ?_).at hB'
    obtain ⟨_, _, _, cur, hh⟩ := hown.own
    rw [e] at hh
    rw [hh] at hz
    simp at hz

/-- a case's box that was made since W, with so many rules of the call's own -/
def BoxAtN (W : World) (f : Int) (sa : Option Addr) (sn sc n : Nat) (rs : List Rl) (y : Value) (w : World) : Prop :=
  ∃ b a c, y = .pointer (some ⟨b, 0, none⟩) ∧ w.heap[b]? = some (.cells #[.int .i64 f, .slice sa sn sc, .slice a n c] 25 (0, 0)) ∧ W.heap.size ≤ b ∧ RulesAt w a rs ∧ (a = none → c = 0) ∧ Below W.heap.size W w
theorem BoxAtN.new {W w : World} {f : Int} {sa : Option Addr} {sn sc n : Nat} {rs : List Rl} {a : Option Addr} {c : Nat} (hown : OwnRu W w a n c rs) (hB : Below W.heap.size W w) :
    BoxAtN W f sa sn sc n rs (.pointer (some ⟨w.heap.size, 0, none⟩)) (w.alloc (.cells #[.int .i64 f, .slice sa sn sc, .slice a n c] 25)) :=
  ⟨_, a, c, rfl, heap_alloc_new _ _, hB.size, (hown.al _).at (bstep hB (bnew _ _)), hown.nilCap, bstep hB (bnew _ _)⟩
theorem BoxAtN.put {W w : World} {f : Int} {sa : Option Addr} {sn sc b n : Nat} {rs : List Rl} {a : Option Addr} {c : Nat} {z0 z1 z2 : Value} (hz : w.heap[b]? = some (.cells #[z0, z1, z2] 25 (0, 0))) (hb : W.heap.size ≤ b) (hown : OwnRu W w a n c rs) (hB : Below W.heap.size W w) :
    BoxAtN W f sa sn sc n rs (.pointer (some ⟨b, 0, none⟩)) (((w.setCell ⟨b, 0, none⟩ (.int .i64 f)).setCell ⟨b, 1, none⟩ (.slice sa sn sc)).setCell ⟨b, 2, none⟩ (.slice a n c)) := by
  have hO : Only (fun k => k = b) w (((w.setCell ⟨b, 0, none⟩ (.int .i64 f)).setCell ⟨b, 1, none⟩ (.slice sa sn sc)).setCell ⟨b, 2, none⟩ (.slice a n c)) := ((setCell_only _ _ _).trans (setCell_only _ _ _)).trans (setCell_only _ _ _)
  have hr : (((w.setCell ⟨b, 0, none⟩ (.int .i64 f)).setCell ⟨b, 1, none⟩ (.slice sa sn sc)).setCell ⟨b, 2, none⟩ (.slice a n c)).heap[b]? = some (.cells #[.int .i64 f, .slice sa sn sc, .slice a n c] 25 (0, 0)) :=
    heap_setCell_same _ _ 2 #[.int .i64 f, .slice sa sn sc, z2] 25 _ (heap_setCell_same _ _ 1 #[.int .i64 f, z1, z2] 25 _ (heap_setCell_same w _ 0 _ 25 _ hz))
  have hB' : Below W.heap.size W (((w.setCell ⟨b, 0, none⟩ (.int .i64 f)).setCell ⟨b, 1, none⟩ (.slice sa sn sc)).setCell ⟨b, 2, none⟩ (.slice a n c)) := ((hB.setCell hb _).setCell hb _).setCell hb _
  refine ⟨b, a, c, rfl, hr, hb, ?_, hown.nilCap, hB'⟩
  cases a with
  | none =>
    have : rs = [] := by
      obtain ⟨h1, cl, ⟨hl, (⟨e, h0⟩ | ⟨g, c, cur, e, _⟩)⟩, _⟩ := hown
      · exact List.eq_nil_of_length_eq_zero (h1.trans h0)
      · cases e
    exact .inl this
  | some a =>
    refine (hown.onlyAt hO fun e => ?_).at hB'
    obtain ⟨_, _, _, cur, hh⟩ := hown.own
    rw [e] at hh
    rw [hh] at hz
    simp at hz

/-- a case's box that was made since W -/
def BoxIs (W : World) (f : Int) (sa : Option Addr) (sn sc : Nat) (ra : Option Addr) (rn rc : Nat) (y : Value) (w : World) : Prop :=
  ∃ b, y = .pointer (some ⟨b, 0, none⟩) ∧ w.heap[b]? = some (.cells #[.int .i64 f, .slice sa sn sc, .slice ra rn rc] 25 (0, 0)) ∧ W.heap.size ≤ b

theorem boxes_ab {W : World} {f f' : Int} {sa sa' ra ra' : Option Addr} {sn sc rn rc sn' sc' rn' rc' : Nat} :
    BoxIs W f sa sn sc ra rn rc (.pointer (some ⟨W.heap.size, 0, none⟩)) ((W.alloc (.cells #[.int .i64 f, .slice sa sn sc, .slice ra rn rc] 25)).alloc (.cells #[.int .i64 f', .slice sa' sn' sc', .slice ra' rn' rc'] 25)).drew ∧
    BoxIs W f' sa' sn' sc' ra' rn' rc' (.pointer (some ⟨W.heap.size + 1, 0, none⟩)) ((W.alloc (.cells #[.int .i64 f, .slice sa sn sc, .slice ra rn rc] 25)).alloc (.cells #[.int .i64 f', .slice sa' sn' sc', .slice ra' rn' rc'] 25)).drew ∧
    Below W.heap.size W ((W.alloc (.cells #[.int .i64 f, .slice sa sn sc, .slice ra rn rc] 25)).alloc (.cells #[.int .i64 f', .slice sa' sn' sc', .slice ra' rn' rc'] 25)).drew :=
  ⟨⟨_, rfl, zd (za (naH rfl) _), Nat.le_refl _⟩, ⟨_, rfl, zd (naH (by simp)), by omega⟩, (bstep (bnew _ _) (bnew _ _)).drew⟩
theorem boxes_ba {W : World} {f f' : Int} {sa sa' ra ra' : Option Addr} {sn sc rn rc sn' sc' rn' rc' : Nat} :
    BoxIs W f' sa' sn' sc' ra' rn' rc' (.pointer (some ⟨W.heap.size + 1, 0, none⟩)) ((W.alloc (.cells #[.int .i64 f, .slice sa sn sc, .slice ra rn rc] 25)).alloc (.cells #[.int .i64 f', .slice sa' sn' sc', .slice ra' rn' rc'] 25)).drew ∧
    BoxIs W f sa sn sc ra rn rc (.pointer (some ⟨W.heap.size, 0, none⟩)) ((W.alloc (.cells #[.int .i64 f, .slice sa sn sc, .slice ra rn rc] 25)).alloc (.cells #[.int .i64 f', .slice sa' sn' sc', .slice ra' rn' rc'] 25)).drew ∧
    Below W.heap.size W ((W.alloc (.cells #[.int .i64 f, .slice sa sn sc, .slice ra rn rc] 25)).alloc (.cells #[.int .i64 f', .slice sa' sn' sc', .slice ra' rn' rc'] 25)).drew :=
  ⟨boxes_ab.2.1, boxes_ab.1, boxes_ab.2.2⟩

/-- rules of the call's own since V; their lists are older than W -/
def OwnRv (W V w : World) (ao : Option Addr) (n cap : Nat) (rs : List Rl) : Prop := rs.length = n ∧ ∃ cl, w.ownsRow V.heap.size 60 2 (.slice ao n cap) n cl ∧ RulesC W cl rs
theorem OwnRv.own {W V w : World} {ao : Option Addr} {n cap : Nat} {rs : List Rl} (h : OwnRv W V w ao n cap rs) (hB : Below W.heap.size W V) : OwnRu W w ao n cap rs := by
  obtain ⟨h1, cl, ⟨h2, h3⟩, h4⟩ := h
  refine ⟨h1, cl, ⟨h2, ?_⟩, h4⟩
  rcases h3 with h3 | ⟨g, c, cur, e, hge, hr⟩
  · exact .inl h3
  · exact .inr ⟨g, c, cur, e, Nat.le_trans hB.size hge, hr⟩
theorem OwnRv.empty {W V w : World} {g : Nat} (h : w.heap[g]? = some (.cells #[] 60 (0, 0))) (hg : V.heap.size ≤ g) : OwnRv W V w (some ⟨g, 0, Option.none⟩) 0 0 [] :=
  ⟨rfl, [], ⟨by simp, .inr ⟨g, 0, #[], rfl, hg, h, Nat.le_refl _, by unfold maxLen; omega, by simp, by simp⟩⟩, RulesC.nil W⟩
theorem OwnRv.dr {W V w : World} {ao : Option Addr} {n cap : Nat} {rs : List Rl} (h : OwnRv W V w ao n cap rs) : OwnRv W V w.drew ao n cap rs := h

theorem run_app_rulesV (ty : TypeId) (w V w0 : World) (ao : Option Addr) (n cap : Nat) (xs : List Rl) (hown : OwnRv w0 V w ao n cap xs) (hB0 : Below w0.heap.size w0 V) (hB : Below V.heap.size V w)
    (ax : Option Addr) (m cx : Nat) (ys : List Rl) (hy : RulesAt w0 ax ys) (hm : ys.length = m) (hnil : ax = none → m = 0 ∧ cx = 0) (hb : n + m ≤ 1000000) :
    ∃ ao' cap' w', (Builtin.append_ #[23, 23] ty #[.slice ao n cap, .slice ax m cx]).run Try.prog w = .ok (.slice ao' (n + m) cap') w' ∧
      Below V.heap.size V w' ∧ OwnRv w0 V w' ao' (n + m) cap' (xs ++ ys) := by
  obtain ⟨i, hi, hz, hs, hby⟩ := info_parts info60
  obtain ⟨hn, cl, hrow, hC⟩ := hown
  obtain ⟨c2, hC2, hcell⟩ := rules_cells hy
  cases ax with
  | none =>
    obtain ⟨rfl, rfl⟩ := hnil rfl
    obtain rfl : ys = [] := List.eq_nil_of_length_eq_zero hm
    refine ⟨ao, cap, w, ?_, hB, by rw [List.append_nil]; exact ⟨hn, cl, hrow, hC⟩⟩
    exact run_append_owned_none (P := Try.prog) w V.heap.size 23 ty 60 i 2 Try.underlying23 hi (.slice ao n cap) n cl hrow
  | some ad =>
    have hl2 := hC2.1
    obtain ⟨v', w', hrun, r1, r2, r3⟩ := run_append_own (P := Try.prog) w V.heap.size 23 ty 60 i (.agg #[.slice none 0 0, .int .i64 0]) 2 32 Try.underlying23 hi hz hs hby rfl (by decide) (.slice ao n cap) n cl hrow ad m cx c2 (by rw [hl2, hm])
      (fun j u hj => by
        have h1 := hcell ad rfl j u hj
        exact ((bstep hB0 hB).cell (block_lt_of_cell h1)).trans h1)
      hC2.one (by unfold maxLen; omega) (by omega) hB.size
    have hBw : Below V.heap.size V w' := hB.trans ((Below.refl _ w).grown r2 hB.size (fun k e => (hrow.lt k e).1))
    have r1' := r1
    rcases r1 with ⟨hl, (⟨rfl, h0⟩ | ⟨g, c, cur, rfl, hge, hh, hr⟩)⟩
    · have hmz : m = 0 := by omega
      exact ⟨none, 0, w', by rw [hrun, h0], hBw, by rw [List.length_append, hn, hm], cl ++ c2, by rw [h0] at r1' ⊢; exact r1', hC.append hC2⟩
    · exact ⟨some ⟨g, 0, none⟩, c, w', hrun, hBw, by rw [List.length_append, hn, hm], cl ++ c2, r1', hC.append hC2⟩

theorem step_app_rulesV {ops : Array Oper} {o : Oper} {a : Act} {K : Act → World → Prop} {Q : Exit → Act → World → Prop} {E : Prop} (w V w0 : World) (hgd : o.guard = none) (s x : Operand)
    (hop : o.op = Op.call { callee := Callee.builtin Builtin.append, args := #[s, x], argTypes := #[23, 23] })
    (ao : Option Addr) (n cap : Nat) (xs : List Rl) (hs : a.eval s = .slice ao n cap) (hown : OwnRv w0 V w ao n cap xs) (hB0 : Below w0.heap.size w0 V) (hB : Below V.heap.size V w)
    (ax : Option Addr) (m cx : Nat) (ys : List Rl) (hx : a.eval x = .slice ax m cx) (hy : RulesAt w0 ax ys) (hm : ys.length = m) (hnil : ax = none → m = 0 ∧ cx = 0) (hb : n + m ≤ 1000000)
    (hK : ∀ ao' cap' w', Below V.heap.size V w' → OwnRv w0 V w' ao' (n + m) cap' (xs ++ ys) → K (a.put o.dst (.slice ao' (n + m) cap')) w') :
    if Region.wanted o (yielded ops a.tmps) = true then Oper.wp Try.prog o a w K Q else E := by
  have hw : Region.wanted o (yielded ops a.tmps) = true := by simp [Region.wanted, hgd]
  rw [if_pos hw]
  obtain ⟨ao', cap', w', hrun, h1, h2⟩ := run_app_rulesV o.type w V w0 ao n cap xs hown hB0 hB ax m cx ys hy hm hnil hb
  unfold Oper.wp
  simp [execOp, hop, resolve, invoke, builtin, hs, hx, hrun, Result.andThen, Oper.upon]
  exact hK ao' cap' w' h1 h2

/-- a list of rules without one of them, of the call's own; their lists are older than W -/
def OwnLess (W w : World) (rs : List Rl) (e : Ending) (w' : World) : Prop := ∃ ao cap, e = .returned (.slice ao rs.length cap) ∧ OwnRu W w' ao rs.length cap rs ∧ Below w.heap.size w w'

set_option maxRecDepth 100000 in
set_option maxHeartbeats 2000000 in
theorem withoutO_c (W : World) (ra : Option Addr) (rc k : Nat) (rs : List Rl) (w : World) (hB0 : Below W.heap.size W w) (hr : RulesAt W ra rs) (hk : k < rs.length) (hrc : rs.length ≤ rc) (hrl : rs.length ≤ 1000) :
    Calls Try.prog 52 #[.slice ra rs.length rc, .int .i64 k] w (OwnLess W w (lessR rs k)) := by
  obtain ⟨a2, hs2, hat2, hne⟩ := sliceR_from hr (k := k + 1) (by omega) hrc
  have hwr : IntKind.i64.wrap ((k : Int) + 1) = (k : Int) + 1 := by have h := wrap_i64_nat (a := k + 1) (by omega); simpa using h
  rw [show (((k + 1 : Nat)) : Int) = (k : Int) + 1 from by omega] at hs2
  have hna : ra ≠ none := by
    intro e
    obtain ⟨b, off, _, _, h, _⟩ := hr.at hk
    rw [e] at h; cases h
  have hna2 := hne hna
  have HB0 := hid hB0
  clear hB0
  have Hata := hid (hr.take k); have Hat2 := hid hat2
  have Hlk := hid (show (rs.take k).length = k by rw [List.length_take]; omega)
  have hkI : (k : Int) ≤ (rc : Int) := by omega
  obtain ⟨m, hm⟩ : ∃ m, m = rs.length - (k + 1) := ⟨_, rfl⟩
  have Hdl := hid (show (rs.drop (k + 1)).length = m by rw [List.length_drop, hm])
  rw [← hm] at hs2
  have hml : k + m ≤ 1000000 := by omega
  have Hm := hid hm
  have hle : (lessR rs k).length = k + m := by unfold lessR; rw [List.length_append, Hlk.out, Hdl.out]
  unfold OwnLess
  rw [hle]
  have hlR : rs.take k ++ rs.drop (k + 1) = lessR rs k := rfl
  obtain ⟨P, hP⟩ : ∃ P, P = lessR rs k := ⟨_, rfl⟩
  rw [← hP] at hlR ⊢
  have HlR := hid hlR
  clear hat2 hne hm hr hle hlR hP
  go_enter Try.func52, Try.ntmps52
  go_upto_region 1 with (fail)
  go_region_held3 (fun _ => True) (trivial)
    (first
      | (refine step_app_rulesV _ w W (by rfl) _ _ (by rfl) (some ⟨w.heap.size, 0, none⟩) 0 0 [] (by rfl) (by first | exact OwnRv.empty (W := W) (heap_alloc_new w _) (Nat.le_refl _) | exact (OwnRv.empty (W := W) (heap_alloc_new w _) (Nat.le_refl _)).dr) HB0.out (by first | exact bnew w _ | exact (bnew w _).drew) ra k rc (rs.take k) (by rfl) Hata.out Hlk.out (fun h => absurd h hna) (by omega) ?_; intro a8 c8 w8 hB8 hown8)
      | (refine step_app_rulesV _ w W (by rfl) _ _ (by rfl) a8 (0 + k) c8 ([] ++ rs.take k) (by rfl) (by first | exact hown8 | exact hown8.dr) HB0.out (by first | exact hB8 | exact hB8.drew) a2 m _ (rs.drop (k + 1)) (by rfl) Hat2.out Hdl.out (fun h => absurd h hna2) (by omega) ?_; intro a9 c9 w9 hB9 hown9))
  all_goals (
    go_wp2
    go_ret
    refine ⟨a9, c9, by first | rfl | (rw [Nat.zero_add]; rfl), ?_, hB9⟩
    have h := hown9
    rw [List.nil_append, HlR.out, Nat.zero_add] at h
    exact h.own HB0.out)

end Go.Proofs.Ytkioejdddmnbmaa
