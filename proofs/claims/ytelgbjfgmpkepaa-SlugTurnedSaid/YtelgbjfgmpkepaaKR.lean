/- What the operations of a drawn region make: literals, lists handed through, calls with a known value. The examples of the laws in memory, and what each call of Works hands back. What the operations of a drawn region make: boxes, moves, parts of tuples. -/
import Derived.Test.YtelgbjfgmpkepaaKQ
import Derived.Test.YtelgbjfgmpkepaaKP
import Derived.Test.YtelgbjfgmpkepaaKB
namespace Go.Proofs.Ytelgbjfgmpkepaa
open Go.RowKit Go.Shelf

theorem makesOp_mono {P : Program} {o : Oper} {A : Act} {s : World} {R S : Value → World → Prop} (h : makesOp P o A s R) (hi : ∀ v w, R v w → S v w) : makesOp P o A s S := by
  unfold makesOp at h ⊢
  generalize (execOp A.eval o).run P s = res at h ⊢
  cases res with
  | ok y w' =>
    cases y <;> simp only at h ⊢
    case value u => exact hi _ _ h
    case enter f args => exact h.mono fun e w2 ⟨v, h1, h2⟩ => ⟨v, h1, hi _ _ h2⟩
  | halt y w' => exact h.elim
theorem wanted_at {l : List Oper} {o : Oper} {g : Nat} {t : Tmp} {nz : List (Nat × Tmp)} {r : Nat → Value} {G : Act} (hg : o.guard = some (g, true)) (hd : (l.toArray[g]?).bind (·.dst) = some t) (hn : ∀ x ∈ nz, x.2 ≠ t) (hG : G.tmps[t]? = some (.bool true)) :
    Region.wanted o (yielded l.toArray (putN nz r G).tmps) = true := by
  have e := putN_other (r := r) hn G
  unfold Region.wanted
  rw [hg]
  simp only
  unfold yielded
  rw [hd]
  simp [e, hG]
/-- a list of a literal's content -/
def ListV (xs : List Int) (v : Value) (w : World) : Prop := ∃ b, v = .slice (some b) xs.length xs.length ∧ IntsAt w (some b) xs
def RowsV (ps : List (List Int)) (v : Value) (w : World) : Prop := ∃ b, v = .slice (some b) ps.length ps.length ∧ RowsAt w (some b) ps
def PairsV (L : List (Int × Int)) (v : Value) (w : World) : Prop := ∃ b, v = .slice (some b) L.length L.length ∧ PlumbsAt w (some b) L
theorem ListV.mono {xs : List Int} {v : Value} {w w' : World} (h : ListV xs v w) (hB : Below w.heap.size w w') : ListV xs v w' := by
  obtain ⟨b, h1, h2⟩ := h
  exact ⟨b, h1, h2.mono hB⟩
theorem RowsV.mono {ps : List (List Int)} {v : Value} {w w' : World} (h : RowsV ps v w) (hB : Below w.heap.size w w') : RowsV ps v w' := by
  obtain ⟨b, h1, h2⟩ := h
  exact ⟨b, h1, h2.mono hB⟩
theorem PairsV.mono {L : List (Int × Int)} {v : Value} {w w' : World} (h : PairsV L v w) (hB : Below w.heap.size w w') : PairsV L v w' := by
  obtain ⟨b, h1, h2⟩ := h
  exact ⟨b, h1, h2.mono hB⟩
section
variable (dst : Option Tmp) (ty : TypeId) (pos : String) (after : Array Edge) (gd : Option (Nat × Bool)) (A : Act) (s : World)
set_option maxRecDepth 100000 in
set_option maxHeartbeats 1000000 in
theorem makes_lit_110 :
    makesOp Try.prog { dst := dst, op := .buildSlice 22 3 #[(0, .const (.int .i64 1)), (1, .const (.int .i64 1)), (2, .const (.int .i64 0))], type := ty, pos := pos, after := after, guard := gd } A s fun v s' => Below s.heap.size s s' ∧ ListV [1, 1, 0] v s' := by
  unfold makesOp
  simp [go_sem]
  exact ⟨bnew _ _, _, rfl, intsAt_new s [1, 1, 0] _ 3 rfl⟩
set_option maxRecDepth 100000 in
set_option maxHeartbeats 1000000 in
theorem makes_lit_1m1 :
    makesOp Try.prog { dst := dst, op := .buildSlice 22 2 #[(0, .const (.int .i64 1)), (1, .const (.int .i64 (-1)))], type := ty, pos := pos, after := after, guard := gd } A s fun v s' => Below s.heap.size s s' ∧ ListV [1, -1] v s' := by
  unfold makesOp
  simp [go_sem]
  exact ⟨bnew _ _, _, rfl, intsAt_new s [1, -1] _ 3 rfl⟩
set_option maxRecDepth 100000 in
set_option maxHeartbeats 1000000 in
theorem makes_lit_1m10 :
    makesOp Try.prog { dst := dst, op := .buildSlice 22 3 #[(0, .const (.int .i64 1)), (1, .const (.int .i64 (-1))), (2, .const (.int .i64 0))], type := ty, pos := pos, after := after, guard := gd } A s fun v s' => Below s.heap.size s s' ∧ ListV [1, -1, 0] v s' := by
  unfold makesOp
  simp [go_sem]
  exact ⟨bnew _ _, _, rfl, intsAt_new s [1, -1, 0] _ 3 rfl⟩
set_option maxRecDepth 100000 in
set_option maxHeartbeats 1000000 in
theorem makes_lit_1m100 :
    makesOp Try.prog { dst := dst, op := .buildSlice 22 4 #[(0, .const (.int .i64 1)), (1, .const (.int .i64 (-1))), (2, .const (.int .i64 0)), (3, .const (.int .i64 0))], type := ty, pos := pos, after := after, guard := gd } A s fun v s' => Below s.heap.size s s' ∧ ListV [1, -1, 0, 0] v s' := by
  unfold makesOp
  simp [go_sem]
  exact ⟨bnew _ _, _, rfl, intsAt_new s [1, -1, 0, 0] _ 3 rfl⟩
set_option maxRecDepth 100000 in
set_option maxHeartbeats 1000000 in
theorem makes_lit_000 :
    makesOp Try.prog { dst := dst, op := .buildSlice 22 3 #[(0, .const (.int .i64 0)), (1, .const (.int .i64 0)), (2, .const (.int .i64 0))], type := ty, pos := pos, after := after, guard := gd } A s fun v s' => Below s.heap.size s s' ∧ ListV [0, 0, 0] v s' := by
  unfold makesOp
  simp [go_sem]
  exact ⟨bnew _ _, _, rfl, intsAt_new s [0, 0, 0] _ 3 rfl⟩
set_option maxRecDepth 100000 in
set_option maxHeartbeats 1000000 in
theorem makes_lit_1 :
    makesOp Try.prog { dst := dst, op := .buildSlice 22 1 #[(0, .const (.int .i64 1))], type := ty, pos := pos, after := after, guard := gd } A s fun v s' => Below s.heap.size s s' ∧ ListV [1] v s' := by
  unfold makesOp
  simp [go_sem]
  exact ⟨bnew _ _, _, rfl, intsAt_new s [1] _ 3 rfl⟩
set_option maxRecDepth 100000 in
set_option maxHeartbeats 1000000 in
theorem makes_lit_10m1 :
    makesOp Try.prog { dst := dst, op := .buildSlice 22 3 #[(0, .const (.int .i64 1)), (1, .const (.int .i64 0)), (2, .const (.int .i64 (-1)))], type := ty, pos := pos, after := after, guard := gd } A s fun v s' => Below s.heap.size s s' ∧ ListV [1, 0, -1] v s' := by
  unfold makesOp
  simp [go_sem]
  exact ⟨bnew _ _, _, rfl, intsAt_new s [1, 0, -1] _ 3 rfl⟩
set_option maxRecDepth 100000 in
set_option maxHeartbeats 1000000 in
theorem makes_lit_2100 :
    makesOp Try.prog { dst := dst, op := .buildSlice 22 4 #[(0, .const (.int .i64 2)), (1, .const (.int .i64 1)), (2, .const (.int .i64 0)), (3, .const (.int .i64 0))], type := ty, pos := pos, after := after, guard := gd } A s fun v s' => Below s.heap.size s s' ∧ ListV [2, 1, 0, 0] v s' := by
  unfold makesOp
  simp [go_sem]
  exact ⟨bnew _ _, _, rfl, intsAt_new s [2, 1, 0, 0] _ 3 rfl⟩
set_option maxRecDepth 100000 in
set_option maxHeartbeats 1000000 in
theorem makes_lit_m10 :
    makesOp Try.prog { dst := dst, op := .buildSlice 22 2 #[(0, .const (.int .i64 (-1))), (1, .const (.int .i64 0))], type := ty, pos := pos, after := after, guard := gd } A s fun v s' => Below s.heap.size s s' ∧ ListV [-1, 0] v s' := by
  unfold makesOp
  simp [go_sem]
  exact ⟨bnew _ _, _, rfl, intsAt_new s [-1, 0] _ 3 rfl⟩
set_option maxRecDepth 100000 in
set_option maxHeartbeats 1000000 in
theorem makes_of50 (x : Tmp) (v : Value) (hx : A.eval (.tmp x) = v) :
    makesOp Try.prog { dst := dst, op := .call { callee := .value (.func 50), args := #[.tmp x], argTypes := #[22] }, type := ty, pos := pos, after := after, guard := gd } A s fun u s' => Below s.heap.size s s' ∧ u = v ∧ s' = s := by
  have hx' : A.tmps[x]?.getD undef = v := by simpa [Act.eval] using hx
  unfold makesOp
  simp [go_sem, hx']
  refine (of_50 v s).mono ?_
  rintro e w' ⟨h1, rfl⟩
  exact ⟨v, h1, Below.refl _ _, rfl, rfl⟩
set_option maxRecDepth 100000 in
set_option maxHeartbeats 1000000 in
theorem makes_plan51 (x : Tmp) (v : Value) (hx : A.eval (.tmp x) = v) :
    makesOp Try.prog { dst := dst, op := .call { callee := .value (.func 51), args := #[.tmp x], argTypes := #[42] }, type := ty, pos := pos, after := after, guard := gd } A s fun u s' => Below s.heap.size s s' ∧ u = v ∧ s' = s := by
  have hx' : A.tmps[x]?.getD undef = v := by simpa [Act.eval] using hx
  unfold makesOp
  simp [go_sem, hx']
  refine (plan_51 v s).mono ?_
  rintro e w' ⟨h1, rfl⟩
  exact ⟨v, h1, Below.refl _ _, rfl, rfl⟩
set_option maxRecDepth 100000 in
set_option maxHeartbeats 1000000 in
theorem makes_row1 (x : Tmp) (xs : List Int) (u : Value) (hu : ListV xs u s) (hx : A.eval (.tmp x) = u) :
    makesOp Try.prog { dst := dst, op := .buildSlice 42 1 #[(0, .tmp x)], type := ty, pos := pos, after := after, guard := gd } A s fun z s' => Below s.heap.size s s' ∧ RowsV [xs] z s' := by
  obtain ⟨a, rfl, ha⟩ := hu
  have hr := heap_alloc_new s (.cells #[.slice (some a) xs.length xs.length] 22)
  have hB := bnew s (.cells #[.slice (some a) xs.length xs.length] 22)
  unfold makesOp
  simp only [execOp, List.map_toArray, List.map_cons, List.map_nil, hx]
  simp [go_sem]
  refine ⟨hB, _, rfl, .inr ⟨_, 0, rfl, fun j hj => ?_⟩⟩
  match j, hj with
  | 0, _ => exact ⟨some a, xs.length, by rw [cell_of_row _ _ _ _ _ _ hr]; rfl, ha.mono hB, fun h => by cases h⟩
set_option maxRecDepth 100000 in
set_option maxHeartbeats 1000000 in
theorem makes_call2 (f : Nat) (x y : Operand) (t0 t1 : TypeId) (u v : Value) (hx : A.eval x = u) (hy : A.eval y = v) (he : ∀ args w, (callFunc f args).run Try.prog w = .ok (.enter f args) w) {R : Value → World → Prop} (h : Calls Try.prog f #[u, v] s fun e s' => ∃ z, e = .returned z ∧ R z s') :
    makesOp Try.prog { dst := dst, op := .call { callee := .value (.func f), args := #[x, y], argTypes := #[t0, t1] }, type := ty, pos := pos, after := after, guard := gd } A s R := by
  have hE : A.eval (.func f) = .func (.func f) #[] #[] := rfl
  unfold makesOp
  generalize A.eval = E at *
  simp [go_sem, he, hE, hx, hy]
  exact h
set_option maxRecDepth 100000 in
set_option maxHeartbeats 1000000 in
theorem makes_call3 (f : Nat) (x y z : Operand) (t0 t1 t2 : TypeId) (u v k : Value) (hx : A.eval x = u) (hy : A.eval y = v) (hz : A.eval z = k) (he : ∀ args w, (callFunc f args).run Try.prog w = .ok (.enter f args) w) {R : Value → World → Prop} (h : Calls Try.prog f #[u, v, k] s fun e s' => ∃ z, e = .returned z ∧ R z s') :
    makesOp Try.prog { dst := dst, op := .call { callee := .value (.func f), args := #[x, y, z], argTypes := #[t0, t1, t2] }, type := ty, pos := pos, after := after, guard := gd } A s R := by
  have hE : A.eval (.func f) = .func (.func f) #[] #[] := rfl
  unfold makesOp
  generalize A.eval = E at *
  simp [go_sem, he, hE, hx, hy, hz]
  exact h
set_option maxRecDepth 100000 in
set_option maxHeartbeats 1000000 in
theorem makes_pairs2 (x0 x1 : Tmp) (c0 c1 : Int × Int) (h0 : A.eval (.tmp x0) = .agg #[.int .i64 c0.1, .int .i64 c0.2]) (h1 : A.eval (.tmp x1) = .agg #[.int .i64 c1.1, .int .i64 c1.2]) :
    makesOp Try.prog { dst := dst, op := .buildSlice 27 2 #[(0, .tmp x0), (1, .tmp x1)], type := ty, pos := pos, after := after, guard := gd } A s fun z s' => Below s.heap.size s s' ∧ PairsV [c0, c1] z s' := by
  have hr := heap_alloc_new s (.cells #[.int .i64 c0.1, .int .i64 c0.2, .int .i64 c1.1, .int .i64 c1.2] 34)
  have hB := bnew s (.cells #[.int .i64 c0.1, .int .i64 c0.2, .int .i64 c1.1, .int .i64 c1.2] 34)
  unfold makesOp
  simp only [execOp, List.map_toArray, List.map_cons, List.map_nil, h0, h1]
  simp [go_sem]
  refine ⟨hB, _, rfl, .inr ⟨_, 0, rfl, fun j hj => ?_⟩⟩
  match j, hj with
  | 0, _ => exact ⟨by rw [cell_of_row _ _ _ _ _ _ hr]; rfl, by rw [cell_of_row _ _ _ _ _ _ hr]; rfl⟩
  | 1, _ => exact ⟨by rw [cell_of_row _ _ _ _ _ _ hr]; rfl, by rw [cell_of_row _ _ _ _ _ _ hr]; rfl⟩
set_option maxRecDepth 100000 in
set_option maxHeartbeats 1000000 in
theorem makes_pairs4 (x0 x1 x2 x3 : Tmp) (c0 c1 c2 c3 : Int × Int) (h0 : A.eval (.tmp x0) = .agg #[.int .i64 c0.1, .int .i64 c0.2]) (h1 : A.eval (.tmp x1) = .agg #[.int .i64 c1.1, .int .i64 c1.2]) (h2 : A.eval (.tmp x2) = .agg #[.int .i64 c2.1, .int .i64 c2.2]) (h3 : A.eval (.tmp x3) = .agg #[.int .i64 c3.1, .int .i64 c3.2]) :
    makesOp Try.prog { dst := dst, op := .buildSlice 27 4 #[(0, .tmp x0), (1, .tmp x1), (2, .tmp x2), (3, .tmp x3)], type := ty, pos := pos, after := after, guard := gd } A s fun z s' => Below s.heap.size s s' ∧ PairsV [c0, c1, c2, c3] z s' := by
  have hr := heap_alloc_new s (.cells #[.int .i64 c0.1, .int .i64 c0.2, .int .i64 c1.1, .int .i64 c1.2, .int .i64 c2.1, .int .i64 c2.2, .int .i64 c3.1, .int .i64 c3.2] 34)
  have hB := bnew s (.cells #[.int .i64 c0.1, .int .i64 c0.2, .int .i64 c1.1, .int .i64 c1.2, .int .i64 c2.1, .int .i64 c2.2, .int .i64 c3.1, .int .i64 c3.2] 34)
  unfold makesOp
  simp only [execOp, List.map_toArray, List.map_cons, List.map_nil, h0, h1, h2, h3]
  simp [go_sem]
  refine ⟨hB, _, rfl, .inr ⟨_, 0, rfl, fun j hj => ?_⟩⟩
  match j, hj with
  | 0, _ => exact ⟨by rw [cell_of_row _ _ _ _ _ _ hr]; rfl, by rw [cell_of_row _ _ _ _ _ _ hr]; rfl⟩
  | 1, _ => exact ⟨by rw [cell_of_row _ _ _ _ _ _ hr]; rfl, by rw [cell_of_row _ _ _ _ _ _ hr]; rfl⟩
  | 2, _ => exact ⟨by rw [cell_of_row _ _ _ _ _ _ hr]; rfl, by rw [cell_of_row _ _ _ _ _ _ hr]; rfl⟩
  | 3, _ => exact ⟨by rw [cell_of_row _ _ _ _ _ _ hr]; rfl, by rw [cell_of_row _ _ _ _ _ _ hr]; rfl⟩
end

end Go.Proofs.Ytelgbjfgmpkepaa

namespace Go.Proofs.Ytelgbjfgmpkepaa
open Go.RowKit Go.Shelf

/-- the boxes of the examples -/
structure SEx (w : World) (q b1 b2 b3 b4 : Nat) : Prop where
  k : V2At w q 24 (.slice (some ⟨b1, 0, none⟩) 4 4) (.bool true)
  l : V2At w (q + 1) 24 (.slice (some ⟨b2, 0, none⟩) 3 3) (.bool false)
  m : V2At w (q + 1 + 1) 24 (.slice (some ⟨b3, 0, none⟩) 2 2) (.bool false)
  n : V2At w (q + 1 + 1 + 1) 24 (.slice (some ⟨b4, 0, none⟩) 3 3) (.bool false)
  ki : KnAt w (some ⟨b1, 0, none⟩) kfour
  li : KnAt w (some ⟨b2, 0, none⟩) kthree
  mi : KnAt w (some ⟨b3, 0, none⟩) ktwo
  ni : KnAt w (some ⟨b4, 0, none⟩) kgood
theorem SEx.mono {w w' : World} {q b1 b2 b3 b4 : Nat} (h : SEx w q b1 b2 b3 b4) (hB : Below w.heap.size w w') : SEx w' q b1 b2 b3 b4 :=
  ⟨h.k.mono hB, h.l.mono hB, h.m.mono hB, h.n.mono hB, h.ki.mono hB, h.li.mono hB, h.mi.mono hB, h.ni.mono hB⟩
theorem sex_box (w : World) (b1 b2 b3 b4 : Nat) (h1 : KnAt w (some ⟨b1, 0, none⟩) kfour) (h2 : KnAt w (some ⟨b2, 0, none⟩) kthree) (h3 : KnAt w (some ⟨b3, 0, none⟩) ktwo) (h4 : KnAt w (some ⟨b4, 0, none⟩) kgood) :
    ∃ V, V = (((w.alloc (.cells #[.slice (some ⟨b1, 0, none⟩) 4 4, .bool true] 24)).alloc (.cells #[.slice (some ⟨b2, 0, none⟩) 3 3, .bool false] 24)).alloc (.cells #[.slice (some ⟨b3, 0, none⟩) 2 2, .bool false] 24)).alloc (.cells #[.slice (some ⟨b4, 0, none⟩) 3 3, .bool false] 24) ∧ Below w.heap.size w V ∧ SEx V w.heap.size b1 b2 b3 b4 := by
  obtain ⟨A, hA, hBA, ha⟩ : ∃ A, A = w.alloc (.cells #[.slice (some ⟨b1, 0, none⟩) 4 4, .bool true] 24) ∧ Below w.heap.size w A ∧ V2At A w.heap.size 24 (.slice (some ⟨b1, 0, none⟩) 4 4) (.bool true) := ⟨_, rfl, bnew _ _, heap_alloc_new _ _⟩
  obtain ⟨C, hC, hBC, hc⟩ : ∃ C, C = A.alloc (.cells #[.slice (some ⟨b2, 0, none⟩) 3 3, .bool false] 24) ∧ Below A.heap.size A C ∧ V2At C A.heap.size 24 (.slice (some ⟨b2, 0, none⟩) 3 3) (.bool false) := ⟨_, rfl, bnew _ _, heap_alloc_new _ _⟩
  obtain ⟨D, hD, hBD, hd⟩ : ∃ D, D = C.alloc (.cells #[.slice (some ⟨b3, 0, none⟩) 2 2, .bool false] 24) ∧ Below C.heap.size C D ∧ V2At D C.heap.size 24 (.slice (some ⟨b3, 0, none⟩) 2 2) (.bool false) := ⟨_, rfl, bnew _ _, heap_alloc_new _ _⟩
  obtain ⟨V, hV, hBV, hv⟩ : ∃ V, V = D.alloc (.cells #[.slice (some ⟨b4, 0, none⟩) 3 3, .bool false] 24) ∧ Below D.heap.size D V ∧ V2At V D.heap.size 24 (.slice (some ⟨b4, 0, none⟩) 3 3) (.bool false) := ⟨_, rfl, bnew _ _, heap_alloc_new _ _⟩
  have zA : A.heap.size = w.heap.size + 1 := by rw [hA]; simp
  have zC : C.heap.size = w.heap.size + 1 + 1 := by rw [hC]; simp [zA]
  have zD : D.heap.size = w.heap.size + 1 + 1 + 1 := by rw [hD]; simp [zC]
  have hB := bstep hBA (bstep hBC (bstep hBD hBV))
  rw [zA] at hc
  rw [zC] at hd
  rw [zD] at hv
  exact ⟨V, by rw [hV, hD, hC, hA], hB, ha.mono (bstep hBC (bstep hBD hBV)), hc.mono (bstep hBD hBV), hd.mono hBV, hv, h1.mono hB, h2.mono hB, h3.mono hB, h4.mono hB⟩
theorem w_cases : csVal ktwo = [(0, 1), (0, 2), (1, 1), (1, 2)] ∧ knErr ktwo = 0 := by decide +kernel
theorem w_cw1 : kwErr kthree [1, 1, 0] = 14 := by decide +kernel
theorem w_cw2 : kwErr kthree [1, -1] = 15 := by decide +kernel
theorem w_r1 : resVal kthree [1, -1, 0] (0, 1) = -1 ∧ resErr kthree [1, -1, 0] (0, 1) = 0 := by decide +kernel
theorem w_r2 : resVal kthree [1, -1, 0] (0, 2) = 0 ∧ resErr kthree [1, -1, 0] (0, 2) = 2 := by decide +kernel
theorem w_l1 : (lnVal kfour [1, -1, 0, 0] 1).cop = [2, 1, 0, 0] ∧ (lnVal kfour [1, -1, 0, 0] 1).none = false ∧ lnErr kfour [1, -1, 0, 0] 1 = 0 := by decide +kernel
theorem w_l2 : (lnVal kthree [0, 0, 0] 1).cop = [] ∧ (lnVal kthree [0, 0, 0] 1).none = false ∧ lnErr kthree [0, 0, 0] 1 = 21 := by decide +kernel
theorem w_p1 : cpErr kthree [[1, -1, 0]] = 0 := by decide +kernel
theorem w_p2 : cpErr ktwo [[1, -1]] = 21 := by decide +kernel
theorem w_al : alO ktwo [[1, -1]] = some ((0, 1), (1, 2)) ∧ alErr ktwo [[1, -1]] = 0 := by decide +kernel
theorem w_td : tdVal kfour [[1, -1, 0, 0]] [1] = [(0, 2), (1, 1)] ∧ tdErr kfour [[1, -1, 0, 0]] [1] = 0 := by decide +kernel
theorem w_bd : bdVal kfour = 2 ∧ knErr kfour = 0 := by decide +kernel
theorem nd1000 {c : Cnt} (h0 : 0 < c.cases) (h : c.cases ≤ 99) : nd 1000 c = if nd 99 c = 99 then 1000 else nd 99 c := nd_two h0 h (by omega)
theorem w_n1 : nd 1000 (cntOf kfour) = 3 := by
  have h : nd 99 (cntOf kfour) = 3 := by decide +kernel
  rw [nd1000 (by decide +kernel) (by decide +kernel), h]; rfl
theorem w_n2 : nd 1000 (cntOf kthree) = 1 := by
  have h : nd 99 (cntOf kthree) = 1 := by decide +kernel
  rw [nd1000 (by decide +kernel) (by decide +kernel), h]; rfl
theorem w_n3 : nd 1000 (cntOf ktwo) = 1000 := by
  have h : nd 99 (cntOf ktwo) = 99 := by decide +kernel
  rw [nd1000 (by decide +kernel) (by decide +kernel), h]; rfl
theorem w_e1 : neVal kfour = 3 ∧ neErr kfour = 0 := by
  have h : knErr kfour = 0 := by decide +kernel
  unfold neVal neErr; rw [if_pos h, if_pos h, w_n1]; exact ⟨rfl, rfl⟩
theorem w_e2 : neVal kthree = 1 ∧ neErr kthree = 0 := by
  have h : knErr kthree = 0 := by decide +kernel
  unfold neVal neErr; rw [if_pos h, if_pos h, w_n2]; exact ⟨rfl, rfl⟩
theorem w_e3 : neVal ktwo = 0 ∧ neErr ktwo = 21 := by
  have h : knErr ktwo = 0 := by decide +kernel
  unfold neVal neErr; rw [if_pos h, if_pos h, w_n3]; exact ⟨rfl, rfl⟩
theorem w_af : afVal kgood [1, 0, -1] = 1 ∧ afErr kgood [1, 0, -1] = 0 := by
  have h := rafE_same kgood [1, 0, -1]
  rw [← h.1, ← h.2]
  decide +kernel
section
variable {q b1 b2 b3 b4 : Nat} {w : World} (H : SEx w q b1 b2 b3 b4)
include H
theorem k_cases : Calls Try.prog 17 #[.agg #[.slice (some ⟨b3, 0, none⟩) 2 2, .bool false]] w (TdC w [(0, 1), (0, 2), (1, 1), (1, 2)] 0) := by
  have h := cases_17 (some ⟨b3, 0, none⟩) 2 ktwo w H.mi (by decide)
  rw [w_cases.1, w_cases.2] at h
  exact h
theorem k_cw1 (a : Option Addr) (h : IntsAt w a [1, 1, 0]) (hn : a = none → 3 = 0) : Calls Try.prog 26 #[.agg #[.slice (some ⟨b2, 0, none⟩) 3 3, .bool false], .slice a 3 3] w (TellI w 14) := by
  have h := checkWeighing_c (some ⟨b2, 0, none⟩) 3 kthree a 3 [1, 1, 0] w H.li (by decide) h (by decide) hn
  rw [w_cw1] at h
  exact h
theorem k_cw2 (a : Option Addr) (h : IntsAt w a [1, -1]) (hn : a = none → 2 = 0) : Calls Try.prog 26 #[.agg #[.slice (some ⟨b2, 0, none⟩) 3 3, .bool false], .slice a 2 2] w (TellI w 15) := by
  have h := checkWeighing_c (some ⟨b2, 0, none⟩) 3 kthree a 2 [1, -1] w H.li (by decide) h (by decide) hn
  rw [w_cw2] at h
  exact h
theorem k_r (kd v er : Int) (hv : resVal kthree [1, -1, 0] (0, kd) = v ∧ resErr kthree [1, -1, 0] (0, kd) = er) (a : Option Addr) (h : IntsAt w a [1, -1, 0]) (hn : a = none → 3 = 0) : Calls Try.prog 22 #[.agg #[.slice (some ⟨b2, 0, none⟩) 3 3, .bool false], .slice a 3 3, .agg #[.int .i64 0, .int .i64 kd]] w (TellIE w v er) := by
  have h := result_22 (some ⟨b2, 0, none⟩) 3 kthree a 3 [1, -1, 0] (0, kd) w H.li (by decide) h (by decide) hn
  rw [hv.1, hv.2] at h
  exact h
theorem k_l1 (a : Option Addr) (h : IntsAt w a [1, -1, 0, 0]) (hn : a = none → 4 = 0) : Calls Try.prog 24 #[.agg #[.slice (some ⟨b1, 0, none⟩) 4 4, .bool true], .slice a 4 4, .int .i64 1] w (LnC w ⟨[2, 1, 0, 0], false⟩ 0) := by
  have h := learned_24 (some ⟨b1, 0, none⟩) 4 kfour a 4 [1, -1, 0, 0] 1 w H.ki (by decide) h (by decide) hn
  have e : lnVal kfour [1, -1, 0, 0] 1 = ⟨[2, 1, 0, 0], false⟩ := by
    have := w_l1
    generalize lnVal kfour [1, -1, 0, 0] 1 = C at this ⊢
    obtain ⟨x, y⟩ := C
    simp only at this
    rw [this.1, this.2.1]
  rw [e, w_l1.2.2] at h
  exact h
theorem k_l2 (a : Option Addr) (h : IntsAt w a [0, 0, 0]) (hn : a = none → 3 = 0) : Calls Try.prog 24 #[.agg #[.slice (some ⟨b2, 0, none⟩) 3 3, .bool false], .slice a 3 3, .int .i64 1] w (LnC w ⟨[], false⟩ 21) := by
  have h := learned_24 (some ⟨b2, 0, none⟩) 3 kthree a 3 [0, 0, 0] 1 w H.li (by decide) h (by decide) hn
  have e : lnVal kthree [0, 0, 0] 1 = ⟨[], false⟩ := by
    have := w_l2
    generalize lnVal kthree [0, 0, 0] 1 = C at this ⊢
    obtain ⟨x, y⟩ := C
    simp only at this
    rw [this.1, this.2.1]
  rw [e, w_l2.2.2] at h
  exact h
theorem k_p1 (a : Option Addr) (h : RowsAt w a [[1, -1, 0]]) : Calls Try.prog 34 #[.agg #[.slice (some ⟨b2, 0, none⟩) 3 3, .bool false], .slice a 1 1] w (TellI w 0) := by
  have h := checkPlan_c (some ⟨b2, 0, none⟩) 3 kthree a 1 [[1, -1, 0]] w H.li (by decide) h (by decide) (by decide)
  rw [w_p1] at h
  exact h
theorem k_p2 (a : Option Addr) (h : RowsAt w a [[1, -1]]) : Calls Try.prog 34 #[.agg #[.slice (some ⟨b3, 0, none⟩) 2 2, .bool false], .slice a 1 1] w (TellI w 21) := by
  have h := checkPlan_c (some ⟨b3, 0, none⟩) 2 ktwo a 1 [[1, -1]] w H.mi (by decide) h (by decide) (by decide)
  rw [w_p2] at h
  exact h
theorem k_al (a : Option Addr) (h : RowsAt w a [[1, -1]]) : Calls Try.prog 30 #[.agg #[.slice (some ⟨b3, 0, none⟩) 2 2, .bool false], .slice a 1 1] w fun e w' => e = .returned (.tuple #[.agg #[.int .i64 0, .int .i64 1], .agg #[.int .i64 1, .int .i64 2], .int .i64 0]) ∧ Below w.heap.size w w' := by
  have h := alike_30 (some ⟨b3, 0, none⟩) 2 ktwo a 1 [[1, -1]] w H.mi (by decide) h (by decide) (by decide)
  rw [w_al.1, w_al.2] at h
  exact h
theorem k_td (a : Option Addr) (h : RowsAt w a [[1, -1, 0, 0]]) (c : Option Addr) (h2 : IntsAt w c [1]) : Calls Try.prog 32 #[.agg #[.slice (some ⟨b1, 0, none⟩) 4 4, .bool true], .slice a 1 1, .slice c 1 1] w (TdC w [(0, 2), (1, 1)] 0) := by
  have h := told_32 (some ⟨b1, 0, none⟩) 4 kfour a 1 [[1, -1, 0, 0]] c 1 [1] w H.ki (by decide) h (by decide) (by decide) h2 (by decide)
  rw [w_td.1, w_td.2] at h
  exact h
theorem k_bd : Calls Try.prog 36 #[.agg #[.slice (some ⟨b1, 0, none⟩) 4 4, .bool true]] w (TellIE w 2 0) := by
  have h := bound_36 (some ⟨b1, 0, none⟩) 4 kfour w H.ki (by decide)
  rw [w_bd.1, w_bd.2] at h
  exact h
theorem k_n1 : Calls Try.prog 38 #[.agg #[.slice (some ⟨b1, 0, none⟩) 4 4, .bool true]] w (TellIE w 3 0) := by
  have h := needed_38 (some ⟨b1, 0, none⟩) 4 kfour w H.ki (by decide)
  rw [w_e1.1, w_e1.2] at h
  exact h
theorem k_n2 : Calls Try.prog 38 #[.agg #[.slice (some ⟨b2, 0, none⟩) 3 3, .bool false]] w (TellIE w 1 0) := by
  have h := needed_38 (some ⟨b2, 0, none⟩) 3 kthree w H.li (by decide)
  rw [w_e2.1, w_e2.2] at h
  exact h
theorem k_n3 : Calls Try.prog 38 #[.agg #[.slice (some ⟨b3, 0, none⟩) 2 2, .bool false]] w (TellIE w 0 21) := by
  have h := needed_38 (some ⟨b3, 0, none⟩) 2 ktwo w H.mi (by decide)
  rw [w_e3.1, w_e3.2] at h
  exact h
theorem k_af (a : Option Addr) (h : IntsAt w a [1, 0, -1]) (hn : a = none → 3 = 0) : Calls Try.prog 40 #[.agg #[.slice (some ⟨b4, 0, none⟩) 3 3, .bool false], .slice a 3 3] w (TellIE w 1 0) := by
  have h := after_40 (some ⟨b4, 0, none⟩) 3 kgood a 3 [1, 0, -1] w H.ni (by decide) h (by decide) hn
  rw [w_af.1, w_af.2] at h
  exact h
/-- a best weighing of three coppers -/
def NxC (w : World) (e : Ending) (w' : World) : Prop := ∃ ws a cap, e = .returned (.tuple #[.slice a ws.length cap, .int .i64 0]) ∧ IntsAt w' a ws ∧ ws.length ≤ 1000000 ∧ afVal kthree ws = 0 ∧ afErr kthree ws = 0 ∧ Below w.heap.size w w'
theorem k_nx : Calls Try.prog 42 #[.agg #[.slice (some ⟨b2, 0, none⟩) 3 3, .bool false]] w (NxC w) := by
  refine (next_42 (some ⟨b2, 0, none⟩) 3 kthree w H.li (by decide)).mono ?_
  rintro e w' ⟨_, hg, hB⟩
  have h0 : nxErr kthree = 0 := by unfold nxErr; rw [w_e2.1, w_e2.2]; rfl
  obtain ⟨ws, a, cap, h1, h2, _, h4, h5⟩ := hg h0
  rw [w_n2] at h5
  have hw := (kw_ok h4).2.1.1
  refine ⟨ws, a, cap, h1, h2, by rw [hw]; decide, ?_, ?_, hB⟩
  · unfold afVal; rw [if_pos h4, if_neg (by omega)]; omega
  · unfold afErr; rw [if_pos h4, if_neg (by omega)]
theorem k_ra (ws : List Int) (a : Option Addr) (c : Nat) (h : IntsAt w a ws) (hl : ws.length ≤ 1000000) (h1 : afVal kthree ws = 0) (h2 : afErr kthree ws = 0) : Calls Try.prog 41 #[.agg #[.slice (some ⟨b2, 0, none⟩) 3 3, .bool false], .slice a ws.length c] w (TellIE w 0 0) := by
  have h := rAfter_41 (some ⟨b2, 0, none⟩) 3 kthree a c ws w H.li (by decide) h hl
  rw [h1, h2] at h
  exact h
end

end Go.Proofs.Ytelgbjfgmpkepaa

namespace Go.Proofs.Ytelgbjfgmpkepaa
open Go.RowKit Go.Shelf

theorem enters26 : ∀ args w, (callFunc 26 args).run Try.prog w = .ok (.enter 26 args) w := enters_of Try.func26 (by kernel_rfl) rfl
theorem enters22 : ∀ args w, (callFunc 22 args).run Try.prog w = .ok (.enter 22 args) w := enters_of Try.func22 (by kernel_rfl) rfl
theorem enters24 : ∀ args w, (callFunc 24 args).run Try.prog w = .ok (.enter 24 args) w := enters_of Try.func24 (by kernel_rfl) rfl
theorem enters34 : ∀ args w, (callFunc 34 args).run Try.prog w = .ok (.enter 34 args) w := enters_of Try.func34 (by kernel_rfl) rfl
theorem enters30 : ∀ args w, (callFunc 30 args).run Try.prog w = .ok (.enter 30 args) w := enters_of Try.func30 (by kernel_rfl) rfl
theorem enters32 : ∀ args w, (callFunc 32 args).run Try.prog w = .ok (.enter 32 args) w := enters_of Try.func32 (by kernel_rfl) rfl
theorem enters40 : ∀ args w, (callFunc 40 args).run Try.prog w = .ok (.enter 40 args) w := enters_of Try.func40 (by kernel_rfl) rfl
theorem enters21 : ∀ args w, (callFunc 21 args).run Try.prog w = .ok (.enter 21 args) w := enters_of Try.func21 (by kernel_rfl) rfl
theorem enters28 : ∀ args w, (callFunc 28 args).run Try.prog w = .ok (.enter 28 args) w := enters_of Try.func28 (by kernel_rfl) rfl
theorem enters58 : ∀ args w, (callFunc 58 args).run Try.prog w = .ok (.enter 58 args) w := enters_of Try.func58 (by kernel_rfl) rfl
section
variable (dst : Option Tmp) (ty : TypeId) (pos : String) (after : Array Edge) (gd : Option (Nat × Bool)) (A : Act) (s : World)
set_option maxRecDepth 100000 in
theorem makes_alloc24 : makesOp Try.prog { dst := dst, op := .alloc 24, type := ty, pos := pos, after := after, guard := gd } A s fun v s' => Below s.heap.size s s' ∧ (v = .pointer (some ⟨s.heap.size, 0, none⟩) ∧ s' = s.alloc (.cells #[.slice none 0 0, .bool false] 24)) := by
  unfold makesOp
  simp [go_sem]
  exact bnew _ _
set_option maxRecDepth 100000 in
theorem makes_alloc34 : makesOp Try.prog { dst := dst, op := .alloc 34, type := ty, pos := pos, after := after, guard := gd } A s fun v s' => Below s.heap.size s s' ∧ (v = .pointer (some ⟨s.heap.size, 0, none⟩) ∧ s' = s.alloc (.cells #[.int .i64 0, .int .i64 0] 34)) := by
  unfold makesOp
  simp [go_sem]
  exact bnew _ _
theorem makes_move (x : Tmp) (v : Value) (hx : A.eval (.tmp x) = v) : makesOp Try.prog { dst := dst, op := .move (.tmp x), type := ty, pos := pos, after := after, guard := gd } A s fun u s' => Below s.heap.size s s' ∧ u = v ∧ s' = s := by
  have hx' : A.tmps[x]?.getD undef = v := by simpa [Act.eval] using hx
  unfold makesOp
  simp [go_sem, hx']
  exact Below.refl _ _
theorem makes_assign (x : Tmp) (v : Value) (hx : A.eval (.tmp x) = v) : makesOp Try.prog { dst := dst, op := .assign (.tmp x), type := ty, pos := pos, after := after, guard := gd } A s fun u s' => Below s.heap.size s s' ∧ u = v ∧ s' = s := by
  have hx' : A.tmps[x]?.getD undef = v := by simpa [Act.eval] using hx
  unfold makesOp
  simp [go_sem, hx']
  exact Below.refl _ _
theorem makes_ext0 (x : Tmp) (v u : Value) (hx : A.eval (.tmp x) = .tuple #[v, u]) : makesOp Try.prog { dst := dst, op := .extract (.tmp x) 0, type := ty, pos := pos, after := after, guard := gd } A s fun z s' => Below s.heap.size s s' ∧ z = v ∧ s' = s := by
  have hx' : A.tmps[x]?.getD undef = .tuple #[v, u] := by simpa [Act.eval] using hx
  unfold makesOp
  simp [go_sem, hx']
  exact Below.refl _ _
theorem makes_ext1 (x : Tmp) (v u : Value) (hx : A.eval (.tmp x) = .tuple #[v, u]) : makesOp Try.prog { dst := dst, op := .extract (.tmp x) 1, type := ty, pos := pos, after := after, guard := gd } A s fun z s' => Below s.heap.size s s' ∧ z = u ∧ s' = s := by
  have hx' : A.tmps[x]?.getD undef = .tuple #[v, u] := by simpa [Act.eval] using hx
  unfold makesOp
  simp [go_sem, hx']
  exact Below.refl _ _
end
theorem ints_ne {s : World} {a : Option Addr} {x : Int} {xs : List Int} {o : Nat} {u : Value} {c : Bool} (h : IntsAt s a (x :: xs)) (hv : V2At s o 24 u (.bool c)) (hu : ∀ k y, u ≠ .int k y) : ∀ b off, a = some ⟨b, off, none⟩ → b ≠ o := by
  rintro b off rfl rfl
  obtain ⟨b', off', e, hc⟩ := h.at (k := 0) (by simp)
  cases e
  rw [cell_of_row _ _ _ _ _ _ hv] at hc
  match off, hc with
  | 0, hc => simp at hc; exact hu _ _ hc
  | 1, hc => simp at hc
  | k + 2, hc => simp at hc
theorem k_cs (xs : List (Int × Int)) (a b : Option Addr) (n m c d : Nat) (s : World) (hn : n = xs.length) (hm : m = xs.length) (h1 : PlumbsAt s a xs) (h2 : PlumbsAt s b xs) (hl : xs.length ≤ 1000000) : Calls Try.prog 21 #[.slice a n c, .slice b m d] s (TellB s true) := by
  subst hn hm
  have h := lawCases_21 a c xs b d xs s h1 h2 hl
  rw [decide_eq_true rfl] at h
  exact h
theorem k_sm (C : Kn) (a b : Option Addr) (n m c d : Nat) (x y : Bool) (s : World) (hn : n = C.cop.length) (hm : m = C.cop.length) (hx : x = C.none) (hy : y = C.none) (h1 : KnAt s a C) (h2 : KnAt s b C) (hl : C.cop.length ≤ 1000000) : Calls Try.prog 28 #[.agg #[.slice a n c, .bool x], .agg #[.slice b m d, .bool y]] s (TellB s true) := by
  subst hn hm hx hy
  have h := same_28 a c C b d C s h1 h2 hl
  rw [decide_eq_true ⟨rfl, rfl⟩] at h
  exact h

end Go.Proofs.Ytelgbjfgmpkepaa
