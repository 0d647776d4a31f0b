/- Helpers of the law PinsNarrower: lists that are copied. -/
import Derived.Test.YtnnojhpioenhbaaXLl
import Derived.Test.YtnnojhpioenhbaaKJ
import Derived.Test.YtnnojhpioenhbaaXQg
import Derived.Test.YtnnojhpioenhbaaKN
namespace Go.Proofs.Ytnnojhpioenhbaa
open Go.RowKit Go.Shelf

set_option maxRecDepth 100000 in
theorem app00_49 (ty : TypeId) (w : World) (a : Addr) (ax : Option Addr) (cx : Nat) : (Builtin.append_ #[49, 49] ty #[.slice (some a) 0 0, .slice ax 0 cx]).run Try.prog w = .ok (.slice (some a) 0 0) w := by
  cases ax <;> simp [Builtin.append_, go_sem]
set_option maxRecDepth 100000 in
theorem app00_42 (ty : TypeId) (w : World) (a : Addr) (ax : Option Addr) (cx : Nat) : (Builtin.append_ #[42, 42] ty #[.slice (some a) 0 0, .slice ax 0 cx]).run Try.prog w = .ok (.slice (some a) 0 0) w := by
  cases ax <;> simp [Builtin.append_, go_sem]

/-- a list that is copied behind an empty one -/
theorem run_app0 {t e : TypeId} {z : Value} {sz nb : Nat} (E : ET t e z sz nb) (h00 : ∀ (ty : TypeId) (w : World) (a : Addr) (ax : Option Addr) (cx : Nat), (Builtin.append_ #[t, t] ty #[.slice (some a) 0 0, .slice ax 0 cx]).run Try.prog w = .ok (.slice (some a) 0 0) w)
    (ty : TypeId) (w : World) (g B : Nat) (hg : w.heap[g]? = some (.cells #[] e (0, 0))) (hBg : B ≤ g) (ax : Option Addr) (m cx : Nat) (ys : List Value) (hy : CellsAt w ax ys) (hl : ys.length = m * sz) (hnil : ax = none → m = 0) (hb : m ≤ 1000000) :
    ∃ ao' cap' w', (Builtin.append_ #[t, t] ty #[.slice (some ⟨g, 0, none⟩) 0 0, .slice ax m cx]).run Try.prog w = .ok (.slice ao' m cap') w' ∧ Below w.heap.size w w' ∧ OwnV e sz B w' ao' m cap' ys := by
  have hlt : g < w.heap.size := (Array.getElem?_eq_some_iff.1 hg).1
  by_cases h0 : m = 0
  · subst h0
    obtain rfl : ys = [] := List.eq_nil_of_length_eq_zero (by rw [hl, Nat.zero_mul])
    exact ⟨_, 0, w, h00 ty w _ ax cx, Below.refl _ _, ⟨by simp, .inr ⟨g, 0, _, rfl, hBg, hg, Nat.le_refl _, Nat.zero_le _, by simp, by simp⟩⟩⟩
  · cases ax with
    | none => exact absurd (hnil rfl) h0
    | some ad =>
      obtain ⟨i, hi, hz, hs, hby⟩ := info_parts E.hi
      have hbytes : (0 + m) * nb ≤ 140737488355328 := by
        have h1 := Nat.mul_le_mul (show 0 + m ≤ 1000000 by omega) E.hb
        omega
      have hsp : ∀ j u, ys[j]? = some u → w.cell? (ad.add j) = some u := by
        intro j u hj
        rcases hy with h | ⟨b, off, e', hc⟩
        · subst h; cases hj
        · cases e'; rw [Addr.add_lit]; exact hc j u hj
      obtain ⟨v', w', hrun, r1, r2⟩ := run_append_arg_grows (P := Try.prog) w t ty e i z sz nb E.hu hi hz hs hby E.hz E.hp ⟨g, 0, none⟩ 0 0 [] (by simp) (by intro j u h; cases h) ad m cx ys hl hsp (by omega) (by unfold maxLen; omega) hbytes
      have hbl : Below w.heap.size w w' := (Below.refl w.heap.size w).grown r2 (Nat.le_refl _) (fun k e => by cases e)
      rcases r1 with ⟨hl', (⟨rfl, hz0⟩ | ⟨g', c, cur, rfl, hge, hh, hr⟩)⟩
      · omega
      · rw [Nat.zero_add] at hrun hl' hr
        rw [List.nil_append] at hl' hr
        exact ⟨_, c, w', hrun, hbl, ⟨hl', .inr ⟨g', c, cur, rfl, by omega, hh, hr⟩⟩⟩

theorem makesOp_weak {P : Program} {o : Oper} {A : Act} {s : World} {R S : Value → World → Prop} (h : makesOp P o A s R) (hi : ∀ v w, R v w → S v w) : makesOp P o A s S := by
  unfold makesOp at h ⊢
  generalize (execOp A.eval o).run P s = res at h ⊢
  cases res with
  | ok y w' =>
    cases y <;> simp only at h ⊢
    case value u => exact hi _ _ h
    case enter f args => exact h.mono fun e w2 ⟨v, h1, h2⟩ => ⟨v, h1, hi _ _ h2⟩
  | halt y w' => exact h.elim
set_option maxRecDepth 100000 in
theorem makes_nil49 (dst : Option Tmp) (ty : TypeId) (pos : String) (after : Array Edge) (A : Act) (w : World) :
    makesOp Try.prog { dst := dst, op := .buildSlice 49 0 #[], type := ty, pos := pos, after := after, guard := none } A w fun v s' => Below w.heap.size w s' ∧ (v = .slice (some ⟨w.heap.size, 0, none⟩) 0 0 ∧ s' = w.alloc (.cells #[] 77)) := by
  unfold makesOp
  simp [go_sem]
  exact bnew _ _
set_option maxRecDepth 100000 in
theorem makes_nil42 (dst : Option Tmp) (ty : TypeId) (pos : String) (after : Array Edge) (A : Act) (w : World) :
    makesOp Try.prog { dst := dst, op := .buildSlice 42 0 #[], type := ty, pos := pos, after := after, guard := none } A w fun v s' => Below w.heap.size w s' ∧ (v = .slice (some ⟨w.heap.size, 0, none⟩) 0 0 ∧ s' = w.alloc (.cells #[] 3)) := by
  unfold makesOp
  simp [go_sem]
  exact bnew _ _
theorem makes_app0 {t e : TypeId} {z : Value} {sz nb : Nat} (E : ET t e z sz nb) (h00 : ∀ (ty : TypeId) (w : World) (a : Addr) (ax : Option Addr) (cx : Nat), (Builtin.append_ #[t, t] ty #[.slice (some a) 0 0, .slice ax 0 cx]).run Try.prog w = .ok (.slice (some a) 0 0) w)
    (dst : Option Tmp) (ty : TypeId) (pos : String) (after : Array Edge) (S X : Operand) (A : Act) (w : World) (g B : Nat) (hs : A.eval S = .slice (some ⟨g, 0, none⟩) 0 0) (hg : w.heap[g]? = some (.cells #[] e (0, 0))) (hBg : B ≤ g)
    (ax : Option Addr) (m cx : Nat) (ys : List Value) (hx : A.eval X = .slice ax m cx) (hy : CellsAt w ax ys) (hl : ys.length = m * sz) (hnil : ax = none → m = 0) (hb : m ≤ 1000000) :
    makesOp Try.prog { dst := dst, op := .call { callee := .builtin .append, args := #[S, X], argTypes := #[t, t] }, type := ty, pos := pos, after := after, guard := none } A w fun v s' => Below w.heap.size w s' ∧ ∃ ao' cap', v = .slice ao' m cap' ∧ OwnV e sz B s' ao' m cap' ys := by
  obtain ⟨ao', cap', w', hrun, h1, h2⟩ := run_app0 E h00 ty w g B hg hBg ax m cx ys hy hl hnil hb
  unfold makesOp
  simp [execOp, resolve, invoke, builtin, hs, hx, hrun, Result.andThen]
  exact ⟨h1, ao', cap', ⟨rfl, rfl⟩, h2⟩
set_option maxRecDepth 100000 in
theorem makes_build51 (dst : Option Tmp) (ty : TypeId) (pos : String) (after : Array Edge) (x y : Tmp) (u v : Value) (a b : Option Addr) (m c n d : Nat) (A : Act) (w : World) (hx : A.eval (.tmp x) = u) (hy : A.eval (.tmp y) = v) (hu : u = .slice a m c) (hv : v = .slice b n d) :
    makesOp Try.prog { dst := dst, op := .build 51 #[(0, .tmp x), (1, .tmp y)], type := ty, pos := pos, after := after, guard := none } A w fun z s' => Below w.heap.size w s' ∧ z = .agg #[u, v] := by
  subst hu hv
  unfold makesOp
  simp only [execOp, List.map_toArray, List.map_cons, List.map_nil, hx, hy]
  simp [go_sem]
  exact Below.refl _ _
def nz10 : List (Nat × Tmp) := [(0, 44), (3, 47), (4, 48), (7, 51), (8, 52), (9, 15)]
/-- what the operations of the copying region make -/
def narΦ (Bs : Nat) (R : Rd) (i : Nat) (vs : List Value) (v : Value) (p q : World) : Prop :=
  if i = 0 then (v = .slice (some ⟨p.heap.size, 0, none⟩) 0 0 ∧ q = p.alloc (.cells #[] 77)) ∧ Bs ≤ p.heap.size
  else if i = 4 then (v = .slice (some ⟨p.heap.size, 0, none⟩) 0 0 ∧ q = p.alloc (.cells #[] 3)) ∧ Bs ≤ p.heap.size
  else if i = 3 then ∃ ao cap, v = .slice ao R.plumbs.length cap ∧ OwnV 77 2 Bs q ao R.plumbs.length cap (pairv R.plumbs)
  else if i = 7 then ∃ ao cap, v = .slice ao R.slots.length cap ∧ OwnV 3 1 Bs q ao R.slots.length cap (intv R.slots)
  else if i = 8 then v = .agg vs.toArray
  else NewV 51 (.slice none 0 0) (.slice none 0 0) v p q
theorem OwnV.setOther {e sz B : Nat} {w : World} {ao : Option Addr} {n cap : Nat} {vs : List Value} (h : OwnV e sz B w ao n cap vs) {g : Nat} {t : TypeId} {x y : Value} (hb : V2At w g t x y) (hne : e ≠ t) (k : Nat) (v : Value) : OwnV e sz B (w.setCell ⟨g, k, Option.none⟩ v) ao n cap vs :=
  h.keptIf fun b cur _ hh => Below.heap_setCell _ _ _ _ (fun e2 => by have e2 : b = g := e2; subst e2; unfold V2At at hb; rw [hb] at hh; cases hh; exact hne rfl)
theorem cells_of_plumbs {w : World} {a : Option Addr} {l : List (Int × Int)} (h : PlumbsAt w a l) : CellsAt w a (pairv l) := by
  rcases h with rfl | ⟨b, off, rfl, h⟩
  · exact .inl rfl
  · refine .inr ⟨b, off, rfl, fun j v hj => ?_⟩
    have hlt : j < (pairv l).length := (List.getElem?_eq_some_iff.1 hj).1
    rw [pairv_len] at hlt
    have key : ∀ (l : List (Int × Int)) (j : Nat), j < l.length → (pairv l)[j * 2]? = some (.int .i64 (nthP l j).1) ∧ (pairv l)[j * 2 + 1]? = some (.int .i64 (nthP l j).2) := by
      intro l
      induction l with
      | nil => intro j hj; cases hj
      | cons q l ih =>
        intro j hj
        cases j with
        | zero => exact ⟨rfl, rfl⟩
        | succ j =>
          have h1 := ih j (by simpa using hj)
          have e1 : (j + 1) * 2 = j * 2 + 1 + 1 := by omega
          have e2 : nthP (q :: l) (j + 1) = nthP l j := rfl
          rw [e1, e2]
          exact h1
    obtain ⟨k1, k2⟩ := key l (j / 2) (by omega)
    obtain ⟨h1, h2⟩ := h (j / 2) (by omega)
    by_cases ev : j % 2 = 0
    · have e : j = j / 2 * 2 := by omega
      rw [e] at hj ⊢
      rw [k1] at hj; cases hj; exact h1
    · have e : j = j / 2 * 2 + 1 := by omega
      rw [e] at hj ⊢
      rw [k2] at hj; cases hj; exact h2

end Go.Proofs.Ytnnojhpioenhbaa
