/- Boxes and an append for the walk of PleaTurned. -/
import Derived.Test.YtkioejdddmnbmaaUv
namespace Go.Proofs.Ytkioejdddmnbmaa
open Go.RowKit Go.Shelf

section
variable {ops : Array Oper} {o : Oper} {a : Act} {K : Act → World → Prop} {Q : Exit → Act → World → Prop} {E : Prop}
theorem step_app_one (w : World) (B : Nat) (hgd : o.guard = none) (s x : Operand) (hop : o.op = Op.call { callee := Callee.builtin Builtin.append, args := #[s, x], argTypes := #[23, 23] })
    (ao : Option Addr) (n cap : Nat) (rs : List Rl) (hs : a.eval s = .slice ao n cap) (g1 cx : Nat) (hx : a.eval x = .slice (some ⟨g1, 0, none⟩) 1 cx)
    (qa : Option Addr) (qc : Nat) (q : Rl) (hB : B ≤ w.heap.size) (hown : OwnRo B w ao n cap rs) (hq : OwnI B w qa q.1.length qc q.1) (hb : n + 1 ≤ 1000000)
    (h1 : w.heap[g1]? = some (.cells #[.slice qa q.1.length qc, .int .i64 q.2] 60 (0, 0)))
    (hK : ∀ g' cap' w', OwnRo B w' (some ⟨g', 0, none⟩) (n + 1) cap' (rs ++ [q]) → w.grownBy w' (Value.ownBlock (.slice ao n cap)) → K (a.put o.dst (.slice (some ⟨g', 0, none⟩) (n + 1) cap')) w') :
    if Region.wanted o (yielded ops a.tmps) = true then Oper.wp Try.prog o a w K Q else E := by
  have hw : Region.wanted o (yielded ops a.tmps) = true := by simp [Region.wanted, hgd]
  rw [if_pos hw]
  obtain ⟨g', cap', w', hrun, h2, h3⟩ := run_app_one o.type w B hB ao n cap rs hown g1 cx qa qc q hq h1 hb
  unfold Oper.wp
  simp [execOp, hop, resolve, invoke, builtin, hs, hx, hrun, Result.andThen, Oper.upon]
  exact hK g' cap' w' h2 h3
end

/-- x's box: the facts moved, no rules yet -/
def SeenBox (W : World) (f : Int) (L : List Int) (s : Value) (w : World) : Prop :=
  ∃ b a c, s = .pointer (some ⟨b, 0, none⟩) ∧ w.heap[b]? = some (.cells #[.int .i64 f, .slice a L.length c, .slice none 0 0] 25 (0, 0)) ∧ W.heap.size ≤ b ∧ OwnI W.heap.size w a L.length c L ∧ Below W.heap.size W w
theorem SeenBox.new {W w : World} {f : Int} {L : List Int} {a : Option Addr} {c : Nat} (hown : OwnI W.heap.size w a L.length c L) (hB : Below W.heap.size W w) :
    SeenBox W f L (.pointer (some ⟨w.heap.size, 0, none⟩)) (w.alloc (.cells #[.int .i64 f, .slice a L.length c, .slice none 0 0] 25)) :=
  ⟨_, a, c, rfl, heap_alloc_new _ _, hB.size, hown.alloc _, bstep hB (bnew _ _)⟩
theorem SeenBox.put {W w : World} {f : Int} {b : Nat} {L : List Int} {a : Option Addr} {c : Nat} {z0 z1 z2 : Value} (hz : w.heap[b]? = some (.cells #[z0, z1, z2] 25 (0, 0))) (hb : W.heap.size ≤ b) (hown : OwnI W.heap.size w a L.length c L) (hB : Below W.heap.size W w) :
    SeenBox W f L (.pointer (some ⟨b, 0, none⟩)) (((w.setCell ⟨b, 0, none⟩ (.int .i64 f)).setCell ⟨b, 1, none⟩ (.slice a L.length c)).setCell ⟨b, 2, none⟩ (.slice none 0 0)) := by
  have hO : Only (fun k => k = b) w (((w.setCell ⟨b, 0, none⟩ (.int .i64 f)).setCell ⟨b, 1, none⟩ (.slice a L.length c)).setCell ⟨b, 2, none⟩ (.slice none 0 0)) := ((setCell_only _ _ _).trans (setCell_only _ _ _)).trans (setCell_only _ _ _)
  have hr : (((w.setCell ⟨b, 0, none⟩ (.int .i64 f)).setCell ⟨b, 1, none⟩ (.slice a L.length c)).setCell ⟨b, 2, none⟩ (.slice none 0 0)).heap[b]? = some (.cells #[.int .i64 f, .slice a L.length c, .slice none 0 0] 25 (0, 0)) :=
    heap_setCell_same _ _ 2 #[.int .i64 f, .slice a L.length c, z2] 25 _ (heap_setCell_same _ _ 1 #[.int .i64 f, z1, z2] 25 _ (heap_setCell_same w _ 0 _ 25 _ hz))
  refine ⟨b, a, c, rfl, hr, hb, hown.keptIf fun k cur e => hO.block k (Array.getElem?_eq_some_iff.1 e).1 fun h => ?_, ((hB.setCell hb _).setCell hb _).setCell hb _⟩
  subst h
  rw [hz] at e; simp at e

/-- a rule's box -/
def RuleBox (W : World) (qa : Option Addr) (qc : Nat) (q : Rl) (s : Value) (w : World) : Prop :=
  ∃ b, s = .pointer (some ⟨b, 0, none⟩) ∧ w.heap[b]? = some (.cells #[.slice qa q.1.length qc, .int .i64 q.2] 60 (0, 0)) ∧ W.heap.size ≤ b ∧ Below W.heap.size W w

/-- where the loop stands: x's box with k rules -/
def TurnAt (W : World) (f : Int) (L : List Int) (b : Nat) (n : Nat) (rs : List Rl) (w : World) : Prop :=
  ∃ a c ao cap, w.heap[b]? = some (.cells #[.int .i64 f, .slice a L.length c, .slice ao n cap] 25 (0, 0)) ∧ W.heap.size ≤ b ∧ OwnI W.heap.size w a L.length c L ∧ OwnRo W.heap.size w ao n cap rs ∧ Below W.heap.size W w

/-- what an append to the rules leaves as it was -/
theorem OwnRo.step {W w w' : World} {ao : Option Addr} {n cap b : Nat} {rs : List Rl} {cs : Array Value} {a : Option Addr} {m c : Nat} {L : List Int} (hro : OwnRo W.heap.size w ao n cap rs) (hg : w.grownBy w' (Value.ownBlock (.slice ao n cap)))
    (hrow : w.heap[b]? = some (.cells cs 25 (0, 0))) (how : OwnI W.heap.size w a m c L) (hB : Below W.heap.size W w) :
    w'.heap[b]? = some (.cells cs 25 (0, 0)) ∧ OwnI W.heap.size w' a m c L ∧ Below W.heap.size W w' := by
  have hne : ∀ (k : Nat) (cur : Array Value) (t : TypeId), w.heap[k]? = some (.cells cur t (0, 0)) → t ≠ 60 → w'.heap[k]? = w.heap[k]? := fun k cur t e ht => hg.block k (Array.getElem?_eq_some_iff.1 e).1 fun h => by
    obtain ⟨_, cur2, h2⟩ := hro.block h.symm
    rw [h2] at e
    simp at e
    exact ht e.2.symm
  refine ⟨(hne b cs 25 hrow (by decide)).trans hrow, how.keptIf fun k cur e => hne k cur 3 e (by decide), ?_⟩
  exact hB.trans ((Below.refl _ w).grown hg hB.size (fun k e => (hro.block e).1))
theorem TurnAt.put {W w : World} {f : Int} {L : List Int} {b n : Nat} {rs : List Rl} {a : Option Addr} {c : Nat} {ao : Option Addr} {cap : Nat} {z : Value} (hrow : w.heap[b]? = some (.cells #[.int .i64 f, .slice a L.length c, z] 25 (0, 0))) (hb : W.heap.size ≤ b)
    (how : OwnI W.heap.size w a L.length c L) (hro : OwnRo W.heap.size w ao n cap rs) (hB : Below W.heap.size W w) : TurnAt W f L b n rs (w.setCell ⟨b, 2, none⟩ (.slice ao n cap)) := by
  have hO : Only (fun k => k = b) w (w.setCell ⟨b, 2, none⟩ (.slice ao n cap)) := setCell_only _ _ _
  have hk : ∀ (k : Nat) (cur : Array Value) (t : TypeId), w.heap[k]? = some (.cells cur t (0, 0)) → t ≠ 25 → (w.setCell ⟨b, 2, none⟩ (.slice ao n cap)).heap[k]? = w.heap[k]? := fun k cur t e ht => hO.block k (Array.getElem?_eq_some_iff.1 e).1 fun h => by
    subst h
    rw [hrow] at e
    simp at e
    exact ht e.2.symm
  exact ⟨a, c, ao, cap, heap_setCell_same _ _ 2 _ 25 _ hrow, hb, how.keptIf fun k cur e => hk k cur 3 e (by decide), hro.keptIf fun k cur t e ht => hk k cur t e (by rcases ht with rfl | rfl <;> decide), hB.setCell hb _⟩
theorem TurnAt.dr {W w : World} {f : Int} {L : List Int} {b n : Nat} {rs : List Rl} (h : TurnAt W f L b n rs w) : TurnAt W f L b n rs w.drew := by
  obtain ⟨a, c, ao, cap, h1, h2, h3, h4, h5⟩ := h
  exact ⟨a, c, ao, cap, h1, h2, h3, h4, h5.drew⟩

end Go.Proofs.Ytkioejdddmnbmaa
