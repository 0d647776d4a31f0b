/- An operation that loads or stores asks for no room: a rule of the walk at the operation itself. Over any program. -/
import Derived.Test.YtjnijhnphhpilaaLib
namespace Go.Proofs.Ytjnijhnphhpilaa
open Go.RowKit

/-- no mark is made on any road -/
def noMark {α : Type} : Sem α → Prop
  | .pure _ => True
  | .load _ _ k => ∀ v, noMark (k v)
  | .store _ _ _ k => noMark k
  | .new _ k => ∀ r, noMark (k r)
  | .shape _ k => ∀ s, noMark (k s)
  | .freeze _ _ k => noMark k
  | .frozen _ k => ∀ b, noMark (k b)
  | .getObj _ k => ∀ o, noMark (k o)
  | .setObj _ _ k => noMark k
  | .choose _ k => ∀ n, noMark (k n)
  | .sys _ k => ∀ r, noMark (k r)
  | .program k => ∀ p, noMark (k p)
  | .mark _ _ => False
  | .halt _ => True

theorem noMark_bind {α β : Type} {f : α → Sem β} (hf : ∀ a, noMark (f a)) : ∀ s : Sem α, noMark s → noMark (s.bind f)
  | .pure a, _ => hf a
  | .load _ _ k, h => fun v => noMark_bind hf (k v) (h v)
  | .store _ _ _ k, h => noMark_bind hf k h
  | .new _ k, h => fun r => noMark_bind hf (k r) (h r)
  | .shape _ k, h => fun s => noMark_bind hf (k s) (h s)
  | .freeze _ _ k, h => noMark_bind hf k h
  | .frozen _ k, h => fun b => noMark_bind hf (k b) (h b)
  | .getObj _ k, h => fun o => noMark_bind hf (k o) (h o)
  | .setObj _ _ k, h => noMark_bind hf k h
  | .choose _ k, h => fun n => noMark_bind hf (k n) (h n)
  | .sys _ k, h => fun r => noMark_bind hf (k r) (h r)
  | .program k, h => fun p => noMark_bind hf (k p) (h p)
  | .mark _ _, h => h.elim
  | .halt _, _ => trivial

theorem mem_cells {l : List Addr} {b : Bool} {es : Array Event} (h : noRoomEvent ∉ es) (wr : Bool) : noRoomEvent ∉ es ++ l.toArray.map (fun a => (⟨.cell a, wr, b⟩ : Event)) := by
  simp only [Array.mem_append, not_or]
  refine ⟨h, ?_⟩
  simp [noRoomEvent]

theorem noMark_runT {α : Type} (P : Program) (s : Sem α) : ∀ (w : World) (es : Array Event), noMark s → noRoomEvent ∉ es → noRoomEvent ∉ (s.runT P w es).2 := by
  induction s with
  | pure _ => intro w es _ h; exact h
  | load m a k ih =>
    intro w es hs h
    simp only [Sem.runT]
    split
    · exact ih _ _ _ (hs _) (by simp [noRoomEvent] at h ⊢; exact h)
    · split
      · exact ih _ _ _ (hs _) (mem_cells h _)
      · exact h
  | store m a v k ih =>
    intro w es hs h
    cases v <;> simp only [Sem.runT] <;> first
      | exact h
      | (split
         · split
           · exact h
           · exact ih _ _ hs (by simp [noRoomEvent] at h ⊢; exact h)
         · split
           · exact ih _ _ hs (mem_cells h _)
           · exact h)
  | new _ k ih => intro w es hs h; exact ih _ _ _ (hs _) h
  | shape _ k ih => intro w es hs h; exact ih _ _ _ (hs _) h
  | freeze _ _ k ih => intro w es hs h; exact ih _ _ hs h
  | frozen _ k ih => intro w es hs h; exact ih _ _ _ (hs _) h
  | getObj r k ih =>
    intro w es hs h
    simp only [Sem.runT]
    split
    · exact h
    · exact ih _ _ _ (hs _) (by simp [noRoomEvent] at h ⊢; exact h)
    · exact h
  | setObj r o k ih =>
    intro w es hs h
    simp only [Sem.runT]
    split
    · exact h
    · exact ih _ _ hs (by simp [noRoomEvent] at h ⊢; exact h)
    · exact h
  | choose q k ih =>
    intro w es hs h
    simp only [Sem.runT]
    split
    · exact ih _ _ _ (hs _) h
    · exact ih _ _ _ (hs _) h
  | sys c k ih => intro w es hs h; exact ih _ _ _ (hs _) (by simp [noRoomEvent] at h ⊢; exact h)
  | program k ih => intro w es hs h; exact ih _ _ _ (hs _) h
  | mark _ _ _ => intro w es hs _; exact hs.elim
  | halt _ => intro w es _ h; exact h

theorem noMark_pure {α : Type} (a : α) : noMark (pure a : Sem α) := trivial
theorem noMark_seq {α β : Type} {s : Sem α} {f : α → Sem β} (hs : noMark s) (hf : ∀ a, noMark (f a)) : noMark (s >>= f) := noMark_bind hf s hs
theorem noMark_stuck {α : Type} (s : String) : noMark (stuck s : Sem α) := trivial
theorem noMark_program : noMark program := fun _ => trivial

theorem noMark_typeInfo (t : TypeId) : noMark (typeInfo t) := by
  unfold typeInfo
  refine noMark_seq noMark_program fun p => ?_
  split
  · trivial
  · exact noMark_stuck _
theorem noMark_underlying (t : TypeId) : noMark (underlying t) := by
  unfold underlying
  refine noMark_seq noMark_program fun p => ?_
  split
  · trivial
  · exact noMark_stuck _
theorem noMark_sizeOf (t : TypeId) : noMark (sizeOf t) := by
  unfold sizeOf
  exact noMark_seq (noMark_typeInfo t) fun _ => trivial
theorem noMark_isAgg (t : TypeId) : noMark (isAgg t) := by
  unfold isAgg
  refine noMark_seq (noMark_underlying t) fun d => ?_
  split <;> trivial
theorem noMark_sureAddr (v : Value) : noMark (Instr.sureAddr v) := by
  unfold Instr.sureAddr
  split
  · trivial
  · exact noMark_stuck _
theorem noMark_loadCellsFrom (a : Addr) : ∀ (n i : Nat) (acc : Array Value), noMark (loadCellsFrom a i n acc)
  | 0, _, _ => trivial
  | n + 1, i, acc => noMark_seq (s := load (a.add i)) (fun _ => trivial) fun v => noMark_loadCellsFrom a n (i + 1) (acc.push v)
theorem noMark_loadVar (t : TypeId) (a : Addr) : noMark (loadVar t a) := by
  unfold loadVar
  refine noMark_seq (noMark_isAgg t) fun b => ?_
  split
  · exact noMark_seq (noMark_sizeOf t) fun n => noMark_seq (noMark_loadCellsFrom a n 0 #[]) fun _ => trivial
  · exact fun _ => trivial
theorem noMark_storeCells (a : Addr) : ∀ (vs : List Value) (i : Nat), noMark (storeCells a vs i)
  | [], _ => trivial
  | v :: vs, i => noMark_seq (s := store (a.add i) v) trivial fun _ => noMark_storeCells a vs (i + 1)
theorem noMark_storeVar (t : TypeId) (a : Addr) (v : Value) : noMark (storeVar t a v) := by
  unfold storeVar
  refine noMark_seq (noMark_sizeOf t) fun n => ?_
  split
  · exact noMark_seq (noMark_stuck _) fun _ => noMark_storeCells _ _ _
  · exact noMark_seq (noMark_pure _) fun _ => noMark_storeCells _ _ _

theorem asks_load (P : Program) (dst : Option Tmp) (ty t : TypeId) (x : Operand) (pos : String) (after : Array Edge) (g : Option (Nat × Bool)) (a : Act) (w : World) :
    Oper.asks P { dst := dst, op := .load ty x, type := t, pos := pos, after := after, guard := g } a w = False := by
  refine eq_false fun h => ?_
  refine noMark_runT P _ w #[] ?_ (by simp) h.1
  exact noMark_seq (noMark_seq (noMark_sureAddr _) fun ad => noMark_loadVar ty ad) fun _ => trivial

theorem asks_store (P : Program) (dst : Option Tmp) (ty t : TypeId) (x y : Operand) (pos : String) (after : Array Edge) (g : Option (Nat × Bool)) (a : Act) (w : World) :
    Oper.asks P { dst := dst, op := .store ty x y, type := t, pos := pos, after := after, guard := g } a w = False := by
  refine eq_false fun h => ?_
  refine noMark_runT P _ w #[] ?_ (by simp) h.1
  exact noMark_seq (noMark_seq (noMark_sureAddr _) fun ad => noMark_storeVar ty ad _) fun _ => trivial

end Go.Proofs.Ytjnijhnphhpilaa
