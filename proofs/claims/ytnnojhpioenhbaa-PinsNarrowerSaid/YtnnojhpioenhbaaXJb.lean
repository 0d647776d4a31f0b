/- Helpers of the laws: beginnings of lists, boxes of two cells, a level by a number. -/
import Derived.Test.YtnnojhpioenhbaaXLb
import Derived.Test.YtnnojhpioenhbaaKI
namespace Go.Proofs.Ytnnojhpioenhbaa
open Go.RowKit Go.Shelf

set_option maxRecDepth 100000 in
theorem elem23 : Try.prog.elem 23 = 2 := by kernel_rfl
set_option maxRecDepth 100000 in
theorem sizeOf2 (w : World) : (sizeOf 2).run Try.prog w = .ok 1 w := by simp [go_sem]
set_option maxRecDepth 100000 in
/-- the beginning of a list of lists -/
theorem head22 (b off n c m : Nat) (hm : m ≤ n) (hc : n ≤ c) (w' : World) : (Instr.slice 22 (.slice (some ⟨b, off, none⟩) n c) none (some (.int .i64 (m : Int))) none).run Try.prog w' = .ok (.slice (some ⟨b, off, none⟩) m c) w' := by
  have hsz : ((sizeOf (Try.prog.elem 22)).run Try.prog w') = .ok 1 w' := by rw [elem22]; exact sizeOf42 w'
  have h := run_slice_h w' 22 (some ⟨b, off, none⟩) n c Try.underlying22 .i64 (m : Int) (by omega) (by omega)
  rw [hsz] at h
  rw [h]
  simp [Result.andThen, sliced, Addr.add_lit]
set_option maxRecDepth 100000 in
theorem head23 (b off n c m : Nat) (hm : m ≤ n) (hc : n ≤ c) (w' : World) : (Instr.slice 23 (.slice (some ⟨b, off, none⟩) n c) none (some (.int .i64 (m : Int))) none).run Try.prog w' = .ok (.slice (some ⟨b, off, none⟩) m c) w' := by
  have hsz : ((sizeOf (Try.prog.elem 23)).run Try.prog w') = .ok 1 w' := by rw [elem23]; exact sizeOf2 w'
  have h := run_slice_h w' 23 (some ⟨b, off, none⟩) n c Try.underlying23 .i64 (m : Int) (by omega) (by omega)
  rw [hsz] at h
  rw [h]
  simp [Result.andThen, sliced, Addr.add_lit]

/-- a box of two cells -/
def V2At (w : World) (g : Nat) (t : TypeId) (x y : Value) : Prop := w.heap[g]? = some (.cells #[x, y] t (0, 0))
section
variable {w w' : World} {g : Nat} {t : TypeId} {x y : Value}
theorem V2At.c0 (h : V2At w g t x y) : w.cell? ⟨g, 0, none⟩ = some x := by rw [cell_of_row _ _ _ _ _ _ h]; rfl
theorem V2At.c1 (h : V2At w g t x y) : w.cell? ⟨g, 1, none⟩ = some y := by rw [cell_of_row _ _ _ _ _ _ h]; rfl
theorem V2At.f0 (h : V2At w g t x y) : w.frozen? ⟨g, 0, none⟩ = false := frozen_of_row w _ 0 _ _ h
theorem V2At.f1 (h : V2At w g t x y) : w.frozen? ⟨g, 1, none⟩ = false := frozen_of_row w _ 1 _ _ h
theorem V2At.lt (h : V2At w g t x y) : g < w.heap.size := (Array.getElem?_eq_some_iff.1 h).1
theorem V2At.mono (h : V2At w g t x y) (hB : Below w.heap.size w w') : V2At w' g t x y := (hB.block _ h.lt).trans h
theorem V2At.set (h : V2At w g t x y) (a b : Value) : V2At ((w.setCell ⟨g, 0, none⟩ a).setCell ⟨g, 1, none⟩ b) g t a b :=
  heap_setCell_same _ _ 1 #[a, y] t _ (heap_setCell_same _ _ 0 _ t _ h)
theorem V2At.set1 (h : V2At w g t x y) (b : Value) : V2At (w.setCell ⟨g, 1, none⟩ b) g t x b :=
  heap_setCell_same _ _ 1 #[x, y] t _ h
theorem V2At.other (h : V2At w g t x y) {r : Nat} (hr : g ≠ r) (k : Nat) (a : Value) : V2At (w.setCell ⟨r, k, none⟩ a) g t x y :=
  (Below.heap_setCell _ _ _ _ (fun e => hr e)).trans h
end
/-- a new box -/
def NewV (t : TypeId) (x y v : Value) (p q : World) : Prop := v = .pointer (some ⟨p.heap.size, 0, none⟩) ∧ q = p.alloc (.cells #[x, y] t)
theorem NewV.at {t : TypeId} {x y v : Value} {p q : World} (h : NewV t x y v p q) : v = .pointer (some ⟨p.heap.size, 0, none⟩) ∧ V2At q p.heap.size t x y ∧ q.heap.size = p.heap.size + 1 := by
  obtain ⟨h1, h2⟩ := h
  subst h2
  exact ⟨h1, heap_alloc_new _ _, by simp⟩
set_option maxRecDepth 100000 in
theorem makes_new32 (dst : Option Tmp) (ty : TypeId) (pos : String) (after : Array Edge) (A : Act) (s : World) :
    makesOp Try.prog { dst := dst, op := .alloc 32, type := ty, pos := pos, after := after, guard := none } A s fun v s' => Below s.heap.size s s' ∧ NewV 32 (.int .i64 0) (.int .i64 0) v s s' := by
  unfold makesOp
  simp [go_sem]
  exact ⟨bnew _ _, rfl, rfl⟩
set_option maxRecDepth 100000 in
theorem makes_new25 (dst : Option Tmp) (ty : TypeId) (pos : String) (after : Array Edge) (A : Act) (s : World) :
    makesOp Try.prog { dst := dst, op := .alloc 25, type := ty, pos := pos, after := after, guard := none } A s fun v s' => Below s.heap.size s s' ∧ NewV 25 (.slice none 0 0) (.slice none 0 0) v s s' := by
  unfold makesOp
  simp [go_sem]
  exact ⟨bnew _ _, rfl, rfl⟩
set_option maxRecDepth 100000 in
theorem makes_new51 (dst : Option Tmp) (ty : TypeId) (pos : String) (after : Array Edge) (A : Act) (s : World) :
    makesOp Try.prog { dst := dst, op := .alloc 51, type := ty, pos := pos, after := after, guard := none } A s fun v s' => Below s.heap.size s s' ∧ NewV 51 (.slice none 0 0) (.slice none 0 0) v s s' := by
  unfold makesOp
  simp [go_sem]
  exact ⟨bnew _ _, rfl, rfl⟩

set_option maxRecDepth 100000 in
/-- a level by a number: the world stays -/
theorem given_s (n : Nat) (w : World) (hn : n < 256) : Calls Try.prog 49 #[.int .u8 (n : Int)] w fun e w' => e = .returned (.int .i64 (givN n)) ∧ w' = w := by
  have e0 : Int.tmod (n : Int) 11 = ((n % 11 : Nat) : Int) := by rw [Int.tmod_eq_emod_of_nonneg (by omega)]; omega
  have e2 : IntKind.i64.wrap (((n % 11 : Nat) : Int)) = ((n % 11 : Nat) : Int) := wrap_i64_of (by omega) (by omega)
  have e3 : IntKind.i64.wrap (((n % 11 : Nat) : Int) - 5) = ((n % 11 : Nat) : Int) - 5 := wrap_i64_of (by omega) (by omega)
  have hE : givN n = ((n % 11 : Nat) : Int) - 5 := rfl
  rw [hE]
  go_enter Try.func49, Try.ntmps49
  go_wp2
  go_ret
  exact ⟨ret_int (by omega), rfl⟩

end Go.Proofs.Ytnnojhpioenhbaa
