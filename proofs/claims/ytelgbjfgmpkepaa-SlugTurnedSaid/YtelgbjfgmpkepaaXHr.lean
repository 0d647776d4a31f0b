/- Appends to two lists of one type; what the drawn regions of SlugTurned make. -/
import Derived.Test.YtelgbjfgmpkepaaKR
import Derived.Test.YtelgbjfgmpkepaaXKf
namespace Go.Proofs.Ytelgbjfgmpkepaa
open Go.RowKit Go.Shelf

section
variable {t e : TypeId} {z : Value} {sz nb : Nat} {ops : Array Oper} {rest : List Oper} {o : Oper} {a : Act} {Q : Exit → Act → World → Prop}
/-- an append of some: in its block, or in a new one -/
theorem run_appS (E : ET t e z sz nb) (ty : TypeId) (w : World) (B : Nat) (ao : Option Addr) (n cap : Nat) (vs : List Value) (hown : OwnV e sz B w ao n cap vs)
    (ax : Option Addr) (m cx : Nat) (ys : List Value) (hy : CellsAt w ax ys) (hy0 : ys ≠ []) (hl : ys.length = m * sz) (h1 : ∀ u ∈ ys, u.oneCell' = true) (hb : n + m ≤ 1000000) (hB : B ≤ w.heap.size) :
    ∃ ao' cap' w', (Builtin.append_ #[t, t] ty #[.slice ao n cap, .slice ax m cx]).run Try.prog w = .ok (.slice ao' (n + m) cap') w' ∧
      Below B w w' ∧ OwnV e sz B w' ao' (n + m) cap' (vs ++ ys) ∧ w.grownBy w' (Value.ownBlock (.slice ao n cap)) ∧
      (∀ b, Value.ownBlock (.slice ao' (n + m) cap') = some b → Value.ownBlock (.slice ao n cap) = some b ∨ w.heap.size ≤ b) := by
  rcases hy with h | ⟨bb, off, e', hc⟩
  · exact absurd h hy0
  · cases e'
    have hy : CellsAt w (some ⟨bb, off, none⟩) ys := .inr ⟨bb, off, rfl, hc⟩
    obtain ⟨i, hi, hz, hs, hby⟩ := info_parts E.hi
    have hbytes : (n + m) * nb ≤ 140737488355328 := by
      have h1 := Nat.mul_le_mul hb E.hb
      omega
    obtain ⟨ao', cap', w', hrun, p1, p2, p3, _⟩ := run_appV E ty w B ao n cap vs hown (some ⟨bb, off, none⟩) m cx ys hy hl h1 (fun h => by cases h) hb hB
    refine ⟨ao', cap', w', hrun, p1, p2, p3, fun b hbk => ?_⟩
    rcases hown with ⟨hvl, (⟨e2, h0⟩ | ⟨g, c, cur, e2, hge, hh, hnc, hcm, hcs, htake⟩)⟩
    · cases e2
      have hvs : vs = [] := List.eq_nil_of_length_eq_zero (by rw [hvl, Nat.zero_mul])
      subst hvs
      obtain ⟨ao2, cap2, w2, hrun2, _, q2, _⟩ := run_appV E ty w w.heap.size none 0 0 [] (OwnV.nil _ _ _ _) (some ⟨bb, off, none⟩) m cx ys hy hl h1 (fun h => by cases h) hb (Nat.le_refl _)
      rw [hrun] at hrun2
      injection hrun2 with e3 e4
      injection e3 with e5 _ e6
      subst e4 e5 e6
      exact .inr (q2.block hbk).1
    · cases e2
      by_cases hroom : n + m ≤ cap
      · have hfit : n * i.size + ys.length ≤ cur.size := by rw [hl, hcs, hs, ← Nat.add_mul]; exact Nat.mul_le_mul_right _ hroom
        have hr := run_append_room (P := Try.prog) w t ty e i E.hu hi g n cap cur hh ⟨bb, off, none⟩ m cx ys (by rw [hs]; exact hl) (fun j u hj => by rw [Addr.add_lit]; exact hc j u hj) h1 hroom hfit
        rw [hrun] at hr
        injection hr with e3 _
        injection e3 with e5
        subst e5
        exact .inl hbk
      · have holds : ∀ j u, vs[j]? = some u → w.cell? ((⟨g, 0, none⟩ : Addr).add j) = some u := World.ownsRow.cells (v := .slice (some ⟨g, 0, none⟩) n cap) (xs := vs) (n := n) ⟨hvl, .inr ⟨g, cap, cur, rfl, hge, hh, hnc, hcm, hcs, htake⟩⟩ (g := g) rfl
        have hr := run_append_grow (P := Try.prog) w t ty e i z E.hu hi hz ⟨g, 0, none⟩ n cap vs (by rw [hs]; exact hvl) holds ⟨bb, off, none⟩ m cx ys (by rw [hs]; exact hl) (fun j u hj => by rw [Addr.add_lit]; exact hc j u hj) (by omega) (by omega) (growslice_fits (by omega) (by rw [hby]; exact hbytes))
        rw [hrun] at hr
        injection hr with e3 _
        injection e3 with e5
        subst e5
        have : w.heap.size = b := by simpa [Value.ownBlock] using hbk
        exact .inr (by omega)
theorem wpList_appS (E : ET t e z sz nb) (w : World) (hg : o.guard = none) (s x : Operand) (hop : o.op = Op.call { callee := Callee.builtin Builtin.append, args := #[s, x], argTypes := #[t, t] })
    (B : Nat) (ao : Option Addr) (n cap : Nat) (vs : List Value) (hs : a.eval s = .slice ao n cap) (hown : OwnV e sz B w ao n cap vs)
    (ax : Option Addr) (m cx : Nat) (ys : List Value) (hx : a.eval x = .slice ax m cx) (hy : CellsAt w ax ys) (hy0 : ys ≠ []) (hl : ys.length = m * sz) (h1 : ∀ u ∈ ys, u.oneCell' = true) (hb : n + m ≤ 1000000) (hB : B ≤ w.heap.size)
    (hK : ∀ ao' cap' w', Below B w w' → OwnV e sz B w' ao' (n + m) cap' (vs ++ ys) → w.grownBy w' (Value.ownBlock (.slice ao n cap)) →
      (∀ b, Value.ownBlock (.slice ao' (n + m) cap') = some b → Value.ownBlock (.slice ao n cap) = some b ∨ w.heap.size ≤ b) →
      wpList Try.prog ops Q rest (a.put o.dst (.slice ao' (n + m) cap')) w') :
    wpList Try.prog ops Q (o :: rest) a w := by
  refine wpList_plain hg fun K hK' => ?_
  obtain ⟨ao', cap', w', hrun, h1, h2, h3, h4⟩ := run_appS E o.type w B ao n cap vs hown ax m cx ys hy hy0 hl h1 hb hB
  unfold Oper.wp
  simp [execOp, hop, resolve, invoke, builtin, hs, hx, hrun, Result.andThen]
  exact hK' _ _ (hK ao' cap' w' h1 h2 h3 h4)
theorem step_appS {K : Act → World → Prop} {X : Prop} (E : ET t e z sz nb) (w : World) (hgd : o.guard = none) (s x : Operand) (hop : o.op = Op.call { callee := Callee.builtin Builtin.append, args := #[s, x], argTypes := #[t, t] })
    (B : Nat) (ao : Option Addr) (n cap : Nat) (vs : List Value) (hs : a.eval s = .slice ao n cap) (hown : OwnV e sz B w ao n cap vs)
    (ax : Option Addr) (m cx : Nat) (ys : List Value) (hx : a.eval x = .slice ax m cx) (hy : CellsAt w ax ys) (hy0 : ys ≠ []) (hl : ys.length = m * sz) (h1 : ∀ u ∈ ys, u.oneCell' = true) (hb : n + m ≤ 1000000) (hB : B ≤ w.heap.size)
    (hK : ∀ ao' cap' w', Below B w w' → OwnV e sz B w' ao' (n + m) cap' (vs ++ ys) → w.grownBy w' (Value.ownBlock (.slice ao n cap)) →
      (∀ b, Value.ownBlock (.slice ao' (n + m) cap') = some b → Value.ownBlock (.slice ao n cap) = some b ∨ w.heap.size ≤ b) →
      K (a.put o.dst (.slice ao' (n + m) cap')) w') :
    if Region.wanted o (yielded ops a.tmps) = true then Oper.wp Try.prog o a w K Q else X := by
  have hw : Region.wanted o (yielded ops a.tmps) = true := by simp [Region.wanted, hgd]
  rw [if_pos hw]
  obtain ⟨ao', cap', w', hrun, h1, h2, h3, h4⟩ := run_appS E o.type w B ao n cap vs hown ax m cx ys hy hy0 hl h1 hb hB
  unfold Oper.wp
  simp [execOp, hop, resolve, invoke, builtin, hs, hx, hrun, Result.andThen, Oper.upon]
  exact hK ao' cap' w' h1 h2 h3 h4
end
/-- two lists that lie apart -/
def Apart (a1 a2 : Option Addr) : Prop := ∀ b o1 o2 r1 r2, a1 = some ⟨b, o1, r1⟩ → a2 = some ⟨b, o2, r2⟩ → False
theorem OwnI.part {B e : Nat} {w w' : World} {ao : Option Addr} {n cap : Nat} {xs : List Int} (h : OwnI e B w ao n cap xs) {a2 : Option Addr} {n2 c2 : Nat} (hg : w.grownBy w' (Value.ownBlock (.slice a2 n2 c2))) (hp : Apart ao a2) : OwnI e B w' ao n cap xs := by
  refine ⟨h.1, ?_⟩
  refine World.ownsRow.kept (row := Value.ownBlock (.slice a2 n2 c2)) h.2 hg ?_
  cases ao with
  | none => exact .inl rfl
  | some x =>
    obtain ⟨b, o1, r1⟩ := x
    refine .inr fun c => ?_
    cases a2 with
    | none => cases c
    | some y =>
      obtain ⟨b2, o2, r2⟩ := y
      simp [Value.ownBlock] at c
      subst c
      exact hp _ _ _ _ _ rfl rfl
theorem Apart.symm {a1 a2 : Option Addr} (h : Apart a1 a2) : Apart a2 a1 := fun b o1 o2 r1 r2 h1 h2 => h b o2 o1 r2 r1 h2 h1
theorem OwnI.lt {B e : Nat} {w : World} {ao : Option Addr} {n cap : Nat} {xs : List Int} (h : OwnI e B w ao n cap xs) {b o : Nat} {r : Option Nat} (hb : ao = some ⟨b, o, r⟩) : b < w.heap.size := by
  obtain ⟨_, cur, hh⟩ := h.2.block (g := b) (by rw [hb]; rfl)
  exact (Array.getElem?_eq_some_iff.1 hh).1
theorem Apart.grown {e B : Nat} {w : World} {a1 a2 a3 : Option Addr} {n c n2 c2 n3 c3 : Nat} {xs : List Int} (h : Apart a1 a2) (h2 : OwnI e B w a2 n2 c2 xs)
    (hw : ∀ b, Value.ownBlock (.slice a3 n3 c3) = some b → Value.ownBlock (.slice a1 n c) = some b ∨ w.heap.size ≤ b) : Apart a3 a2 := by
  rintro b o1 o2 r1 r2 rfl e2
  rcases hw b rfl with h3 | h3
  · cases a1 with
    | none => cases h3
    | some x =>
      obtain ⟨b1, o3, r3⟩ := x
      simp [Value.ownBlock] at h3
      subst h3
      exact h _ _ _ _ _ rfl e2
  · have := h2.lt e2
    omega
theorem BI.grown {B : Nat} {w w' : World} {b : Nat} {xs : List Int} (h : BI w b xs) (hB : Below B w w') (hb : b < B) : BI w' b xs := (hB.block b hb).trans h
/-- the blocks of SlugTurned's loop -/
structure RotF (B m pb o1 o2 : Nat) (V : World) : Prop where
  vm : V.heap.size ≤ m
  v2 : V.heap.size ≤ o2
  vb : V.heap.size ≤ B
  mb : m < B
  pb' : pb < B
  b1 : o1 < B
  b2 : o2 < B
  d1 : o1 ≠ o2
  m1 : m ≠ o1
  m2 : m ≠ o2
  p2 : pb ≠ o2
  pm : pb ≠ m
/-- the state of SlugTurned's loop -/
structure RotI (B m pb o1 o2 n0 : Nat) (nn : Bool) (p X Ys Qs : List Int) (ky kb : Nat) (ao : Option Addr) (cap : Nat) (a2 : Option Addr) (c2 : Nat) (V W : World) : Prop where
  bx : BI W m X
  bp : BI W pb p
  x1 : V2At W o1 24 (.slice (some ⟨m, 0, none⟩) n0 n0) (.bool nn)
  y1 : V2At W o2 24 (.slice ao ky cap) (.bool nn)
  oy : OwnI 3 B W ao ky cap (Ys.take ky)
  ob : OwnI 3 B W a2 kb c2 (Qs.take kb)
  ap : Apart ao a2
  be : Below V.heap.size V W
  sz : B ≤ W.heap.size
theorem setCell_le (W : World) (a : Addr) (v : Value) : W.heap.size ≤ (W.setCell a v).heap.size := (Below.setCell (B := 0) (p := a) (Below.refl 0 W) (Nat.zero_le _) v).size
section
variable {B m pb o1 o2 n0 : Nat} {nn : Bool} {p X Ys Qs : List Int} {ky kb : Nat} {ao : Option Addr} {cap : Nat} {a2 : Option Addr} {c2 : Nat} {V W : World}
theorem RotI.drew (h : RotI B m pb o1 o2 n0 nn p X Ys Qs ky kb ao cap a2 c2 V W) : RotI B m pb o1 o2 n0 nn p X Ys Qs ky kb ao cap a2 c2 V W.drew :=
  ⟨h.bx, h.bp, h.x1, h.y1, h.oy.kept (Below.refl _ _).drew, h.ob.kept (Below.refl _ _).drew, h.ap, h.be.drew, h.sz⟩
theorem RotI.setX (h : RotI B m pb o1 o2 n0 nn p X Ys Qs ky kb ao cap a2 c2 V W) (F : RotF B m pb o1 o2 V) (j : Nat) (v : Int) : RotI B m pb o1 o2 n0 nn p (X.set j v) Ys Qs ky kb ao cap a2 c2 V (W.setCell ⟨m, j, none⟩ (.int .i64 v)) where
  bx := h.bx.set j v
  bp := h.bp.other F.pm _ _
  x1 := h.x1.other (Ne.symm F.m1) _ _
  y1 := h.y1.other (Ne.symm F.m2) _ _
  oy := h.oy.keptIf fun g _ hg _ => Below.heap_setCell _ _ _ _ (fun e => by have e : g = m := e; have := F.mb; omega)
  ob := h.ob.keptIf fun g _ hg _ => Below.heap_setCell _ _ _ _ (fun e => by have e : g = m := e; have := F.mb; omega)
  ap := h.ap
  be := h.be.setCell (p := ⟨m, j, none⟩) F.vm _
  sz := Nat.le_trans h.sz (setCell_le _ _ _)
theorem RotI.appY (h : RotI B m pb o1 o2 n0 nn p X Ys Qs ky kb ao cap a2 c2 V W) (F : RotF B m pb o1 o2 V) {W1 w' : World} {ao' : Option Addr} {cap' : Nat} {v : Int} (hB1 : Below W.heap.size W W1) (hB' : Below B W1 w')
    (hown : OwnV 3 1 B w' ao' (ky + 1) cap' (intv (Ys.take ky) ++ intv [v])) (hg : W1.grownBy w' (Value.ownBlock (.slice ao ky cap)))
    (hw : ∀ b, Value.ownBlock (.slice ao' (ky + 1) cap') = some b → Value.ownBlock (.slice ao ky cap) = some b ∨ W1.heap.size ≤ b) (hv : Ys.take (ky + 1) = Ys.take ky ++ [v]) :
    RotI B m pb o1 o2 n0 nn p X Ys Qs (ky + 1) kb ao' cap' a2 c2 V (w'.setCell ⟨o2, 0, none⟩ (.slice ao' (ky + 1) cap')) where
  bx := ((h.bx.mono hB1).grown hB' F.mb).other F.m2 _ _
  bp := ((h.bp.mono hB1).grown hB' F.pb').other F.p2 _ _
  x1 := V2At.other ((hB'.block o1 F.b1).trans (h.x1.mono hB1)) F.d1 _ _
  y1 := V2At.set0 ((hB'.block o2 F.b2).trans (h.y1.mono hB1)) _
  oy := by
    have h1 := OwnI.app h.oy.1 (rfl : ([v] : List Int).length = 1) hown
    rw [hv]
    exact h1.keptIf fun g _ hg _ => Below.heap_setCell _ _ _ _ (fun e => by have e : g = o2 := e; have := F.b2; omega)
  ob := ((h.ob.kept hB1).part hg h.ap.symm).keptIf fun g _ hg _ => Below.heap_setCell _ _ _ _ (fun e => by have e : g = o2 := e; have := F.b2; omega)
  ap := h.ap.grown (h.ob.kept hB1) hw
  be := ((bstep h.be hB1).trans (hB'.mono F.vb)).setCell (p := ⟨o2, 0, none⟩) F.v2 _
  sz := Nat.le_trans (Nat.le_trans (Nat.le_trans h.sz hB1.size) hB'.size) (setCell_le _ _ _)
theorem RotI.appQ (h : RotI B m pb o1 o2 n0 nn p X Ys Qs ky kb ao cap a2 c2 V W) (F : RotF B m pb o1 o2 V) {W1 w' : World} {ao' : Option Addr} {cap' : Nat} {v : Int} (hB1 : Below W.heap.size W W1) (hB' : Below B W1 w')
    (hown : OwnV 3 1 B w' ao' (kb + 1) cap' (intv (Qs.take kb) ++ intv [v])) (hg : W1.grownBy w' (Value.ownBlock (.slice a2 kb c2)))
    (hw : ∀ b, Value.ownBlock (.slice ao' (kb + 1) cap') = some b → Value.ownBlock (.slice a2 kb c2) = some b ∨ W1.heap.size ≤ b) (hv : Qs.take (kb + 1) = Qs.take kb ++ [v]) :
    RotI B m pb o1 o2 n0 nn p X Ys Qs ky (kb + 1) ao cap ao' cap' V w' where
  bx := (h.bx.mono hB1).grown hB' F.mb
  bp := (h.bp.mono hB1).grown hB' F.pb'
  x1 := (hB'.block o1 F.b1).trans (h.x1.mono hB1)
  y1 := (hB'.block o2 F.b2).trans (h.y1.mono hB1)
  oy := (h.oy.kept hB1).part hg h.ap
  ob := by
    rw [hv]
    exact OwnI.app h.ob.1 (rfl : ([v] : List Int).length = 1) hown
  ap := (h.ap.symm.grown (h.oy.kept hB1) hw).symm
  be := (bstep h.be hB1).trans (hB'.mono F.vb)
  sz := Nat.le_trans (Nat.le_trans h.sz hB1.size) hB'.size
end
section
variable (dst : Option Tmp) (ty : TypeId) (pos : String) (after : Array Edge) (gd : Option (Nat × Bool)) (A : Act) (s : World)
set_option maxRecDepth 100000 in
set_option maxHeartbeats 1000000 in
theorem makes_make22 (x : Tmp) (n : Nat) (hn : n ≤ 1000000) (hx : A.eval (.tmp x) = .int .i64 (n : Int)) :
    makesOp Try.prog { dst := dst, op := .makeSlice 22 (.tmp x) (.tmp x), type := ty, pos := pos, after := after, guard := gd } A s fun v s' => Below s.heap.size s s' ∧ (∃ b, v = .slice (some ⟨b, 0, none⟩) n n ∧ s.heap.size ≤ b ∧ BI s' b (List.replicate n 0)) := by
  have hr := run_make_ints et22 s n n (Nat.le_refl _) hn
  unfold makesOp
  simp only [execOp, hx]
  simp [go_sem, hr]
  exact ⟨bnew _ _, bi_new _ _⟩
set_option maxRecDepth 100000 in
set_option maxHeartbeats 1000000 in
theorem makes_rowV (x : Tmp) (xs : List Int) (u : Value) (hu : IntsV xs u s) (hx : A.eval (.tmp x) = u) :
    makesOp Try.prog { dst := dst, op := .buildSlice 42 1 #[(0, .tmp x)], type := ty, pos := pos, after := after, guard := gd } A s fun z s' => Below s.heap.size s s' ∧ RowsV [xs] z s' := by
  obtain ⟨a, c, rfl, ha, hz⟩ := hu
  have hr := heap_alloc_new s (.cells #[.slice a xs.length c] 22)
  have hB := bnew s (.cells #[.slice a xs.length c] 22)
  unfold makesOp
  simp only [execOp, List.map_toArray, List.map_cons, List.map_nil, hx]
  simp [go_sem]
  refine ⟨hB, _, rfl, .inr ⟨_, 0, rfl, fun j hj => ?_⟩⟩
  match j, hj with
  | 0, _ => exact ⟨a, c, by rw [cell_of_row _ _ _ _ _ _ hr]; rfl, ha.mono hB, hz⟩
end

end Go.Proofs.Ytelgbjfgmpkepaa
