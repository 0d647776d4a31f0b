/- Aggregates of a seat's own types, loaded and stored whole, as rules of the walk at the operation itself. -/
import Derived.Test.YtkioejdddmnbmaaRows
import Derived.Test.YtkioejdddmnbmaaAgg
import Derived.Test.YtkioejdddmnbmaaApp
namespace Go.Proofs.Ytkioejdddmnbmaa
open Go.RowKit

/-- some cells of a block -/
def partAt (w : World) (b off n : Nat) : Array Value := match w.heap[b]? with | some (.cells cs _ _) => cs.extract off (off + n) | _ => #[]
def partOk (w : World) (b off n : Nat) : Bool := match w.heap[b]? with | some (.cells cs _ _) => decide (off + n ≤ cs.size) | _ => false

theorem partAt_of {w : World} {b : Nat} {cs : Array Value} {t : TypeId} {fr : Nat × Nat} (h : w.heap[b]? = some (.cells cs t fr)) (off n : Nat) : partAt w b off n = cs.extract off (off + n) := by
  unfold partAt; rw [h]
theorem partOk_of {w : World} {b : Nat} {cs : Array Value} {t : TypeId} {fr : Nat × Nat} (h : w.heap[b]? = some (.cells cs t fr)) {off n : Nat} (hn : off + n ≤ cs.size) : partOk w b off n = true := by
  unfold partOk; rw [h]; simpa using hn
@[go_sem] theorem partAt_drew (w : World) (b off n : Nat) : partAt w.drew b off n = partAt w b off n := rfl
@[go_sem] theorem partOk_drew (w : World) (b off n : Nat) : partOk w.drew b off n = partOk w b off n := rfl
theorem partAt_same {w w' : World} {b : Nat} (h : w'.heap[b]? = w.heap[b]?) (off n : Nat) : partAt w' b off n = partAt w b off n := by unfold partAt; rw [h]
theorem partOk_same {w w' : World} {b : Nat} (h : w'.heap[b]? = w.heap[b]?) (off n : Nat) : partOk w' b off n = partOk w b off n := by unfold partOk; rw [h]

theorem run_loadAt_part {P : Program} (w : World) (b off n : Nat) (ty : TypeId) (d : TypeDesc) (h : partOk w b off n = true)
    (hu : P.underlying ty = some d) (hd : (match d with | .struct _ | .array _ _ => true | _ => false) = true) (hi : (P.info? ty).map (·.size) = some n) :
    (Instr.loadAt ty (.pointer (some ⟨b, off, none⟩))).run P w = .ok (.agg (partAt w b off n)) w := by
  unfold partOk at h
  split at h
  · rename_i cs t fr hg
    rw [partAt_of hg]
    have := run_loadVar_part (P := P) w b off n t ty cs fr d hg hu hd hi (by simpa using h)
    simp [Instr.loadAt, Instr.sureAddr, this]
  · cases h

/-- what a load of an aggregate comes to -/
def loadPart (P : Program) (ty : TypeId) (n : Nat) (v : Value) (w : World) : Result Next :=
  match v with
  | .pointer (some ⟨b, off, none⟩) => if partOk w b off n then .ok (.value (.agg (partAt w b off n))) w else (execOp (fun _ => v) { dst := none, op := .load ty (.tmp 0), type := 0, pos := "", after := #[], guard := none }).run P w
  | _ => (execOp (fun _ => v) { dst := none, op := .load ty (.tmp 0), type := 0, pos := "", after := #[], guard := none }).run P w

@[go_sem] theorem loadPart_ok {P : Program} {ty : TypeId} {n b off : Nat} {w : World} (h : partOk w b off n = true) : loadPart P ty n (.pointer (some ⟨b, off, none⟩)) w = .ok (.value (.agg (partAt w b off n))) w := by
  simp only [loadPart, h, if_true]

theorem execOp_load (ρ : Operand → Value) (dst : Option Tmp) (ty t : TypeId) (x : Operand) (pos : String) (after : Array Edge) (g : Option (Nat × Bool)) :
    execOp ρ { dst := dst, op := .load ty x, type := t, pos := pos, after := after, guard := g } = execOp (fun _ => ρ x) { dst := none, op := .load ty (.tmp 0), type := 0, pos := "", after := #[], guard := none } := rfl

theorem run_load_part {P : Program} {ty : TypeId} {n : Nat} {d : TypeDesc} (hu : P.underlying ty = some d) (hd : (match d with | .struct _ | .array _ _ => true | _ => false) = true) (hi : (P.info? ty).map (·.size) = some n)
    (ρ : Operand → Value) (dst : Option Tmp) (t : TypeId) (x : Operand) (pos : String) (after : Array Edge) (g : Option (Nat × Bool)) (w : World) :
    (execOp ρ { dst := dst, op := .load ty x, type := t, pos := pos, after := after, guard := g }).run P w = loadPart P ty n (ρ x) w := by
  rw [execOp_load]
  unfold loadPart
  split
  · rename_i b off hv
    split
    · rename_i h
      rw [hv]
      have := run_loadAt_part (P := P) w b off n ty d h hu hd hi
      simp [execOp, this]
    · rw [hv]
  · rfl

section
variable {P : Program} {K : Act → World → Prop} {Q : Exit → Act → World → Prop} {a : Act} {w : World}
theorem wp_get (l : List Oper) (i : Nat) (h : i < l.toArray.size) : Oper.wp P (l.toArray[i]'h) a w K Q = Oper.wp P (l[i]'(by simpa using h)) a w K Q := by simp
theorem wp_get0 (o : Oper) (l : List Oper) (h : 0 < (o :: l).length) : Oper.wp P ((o :: l)[0]'h) a w K Q = Oper.wp P o a w K Q := rfl
theorem wp_getS (o : Oper) (l : List Oper) (n : Nat) (h : n + 1 < (o :: l).length) : Oper.wp P ((o :: l)[n + 1]'h) a w K Q = Oper.wp P (l[n]'(by simpa using h)) a w K Q := rfl

theorem wp_load_eq {ty : TypeId} {n : Nat} {d : TypeDesc} (hu : P.underlying ty = some d) (hd : (match d with | .struct _ | .array _ _ => true | _ => false) = true) (hi : (P.info? ty).map (·.size) = some n)
    (dst : Option Tmp) (t : TypeId) (x : Operand) (pos : String) (after : Array Edge) (g : Option (Nat × Bool)) :
    Oper.wp P { dst := dst, op := .load ty x, type := t, pos := pos, after := after, guard := g } a w K Q =
      Oper.upon P { dst := dst, op := .load ty x, type := t, pos := pos, after := after, guard := g } a K Q (loadPart P ty n (a.eval x) w) := by
  unfold Oper.wp
  rw [run_load_part hu hd hi]
end

/-- a part of a block is overwritten -/
def World.setPart (w : World) (b off : Nat) (vs : Array Value) : World :=
  match w.heap[b]? with
  | some (.cells cs _ _) => w.setRow b (cs.toList.take off ++ vs.toList ++ cs.toList.drop (off + vs.size)).toArray
  | _ => w

def freeB (w : World) (b : Nat) : Bool := match w.heap[b]? with | some (.cells _ _ fr) => fr == (0, 0) | _ => false
theorem freeB_of {w : World} {b : Nat} {cs : Array Value} {t : TypeId} (h : w.heap[b]? = some (.cells cs t (0, 0))) : freeB w b = true := by unfold freeB; rw [h]; rfl
@[go_sem] theorem freeB_drew (w : World) (b : Nat) : freeB w.drew b = freeB w b := rfl

/-- what a store of an aggregate comes to -/
def storePart (P : Program) (ty : TypeId) (n : Nat) (v u : Value) (w : World) : Result Next :=
  match v, u with
  | .pointer (some ⟨b, off, none⟩), .agg vs => if (partOk w b off n && freeB w b && (vs.size == n) && vs.all (·.oneCell')) = true then .ok .skip (World.setPart w b off vs) else (execOp (fun o => match o with | .tmp 0 => v | _ => u) { dst := none, op := .store ty (.tmp 0) (.tmp 1), type := 0, pos := "", after := #[], guard := none }).run P w
  | _, _ => (execOp (fun o => match o with | .tmp 0 => v | _ => u) { dst := none, op := .store ty (.tmp 0) (.tmp 1), type := 0, pos := "", after := #[], guard := none }).run P w

@[go_sem] theorem storePart_ok {P : Program} {ty : TypeId} {n b off : Nat} {w : World} {vs : Array Value} (h : partOk w b off n = true) (h2 : freeB w b = true) (h3 : (vs.size == n) = true) (h4 : vs.all (·.oneCell') = true) :
    storePart P ty n (.pointer (some ⟨b, off, none⟩)) (.agg vs) w = .ok .skip (World.setPart w b off vs) := by
  simp only [storePart, h, h2, h3, h4, Bool.and_self, if_true]

theorem run_store_part {P : Program} {ty : TypeId} {n : Nat} (hi : (P.info? ty).map (·.size) = some n)
    (ρ : Operand → Value) (dst : Option Tmp) (t : TypeId) (x y : Operand) (pos : String) (after : Array Edge) (g : Option (Nat × Bool)) (w : World) :
    (execOp ρ { dst := dst, op := .store ty x y, type := t, pos := pos, after := after, guard := g }).run P w = storePart P ty n (ρ x) (ρ y) w := by
  have e : execOp ρ { dst := dst, op := .store ty x y, type := t, pos := pos, after := after, guard := g } =
      execOp (fun o => match o with | .tmp 0 => ρ x | _ => ρ y) { dst := none, op := .store ty (.tmp 0) (.tmp 1), type := 0, pos := "", after := #[], guard := none } := rfl
  rw [e]
  unfold storePart
  split
  · rename_i b off vs hv hu
    split
    · rename_i h
      simp only [Bool.and_eq_true, beq_iff_eq] at h
      obtain ⟨⟨⟨h1, h2⟩, h3⟩, h4⟩ := h
      rw [hv, hu]
      unfold partOk at h1
      unfold freeB at h2
      split at h2
      · rename_i cs ty' fr hg
        obtain rfl : fr = (0, 0) := by simpa using h2
        rw [hg] at h1
        have hst := run_storeVar_part (P := P) w b off n ty' ty cs vs hg hi h3 (by simpa using h1) (fun v hv => by obtain ⟨i, hi, rfl⟩ := Array.getElem_of_mem hv; exact (Array.all_eq_true.1 h4) i hi)
        have : World.setPart w b off vs = w.setRow b (cs.toList.take off ++ vs.toList ++ cs.toList.drop (off + n)).toArray := by unfold World.setPart; rw [hg, h3]
        rw [this]
        simp [execOp, Instr.storeAt, Instr.sureAddr, hst]
      · cases h2
    · rw [hv, hu]
  · rfl

theorem wp_store_eq {P : Program} {K : Act → World → Prop} {Q : Exit → Act → World → Prop} {a : Act} {w : World} {ty : TypeId} {n : Nat} (hi : (P.info? ty).map (·.size) = some n)
    (dst : Option Tmp) (t : TypeId) (x y : Operand) (pos : String) (after : Array Edge) (g : Option (Nat × Bool)) :
    Oper.wp P { dst := dst, op := .store ty x y, type := t, pos := pos, after := after, guard := g } a w K Q =
      Oper.upon P { dst := dst, op := .store ty x y, type := t, pos := pos, after := after, guard := g } a K Q (storePart P ty n (a.eval x) (a.eval y) w) := by
  unfold Oper.wp
  rw [run_store_part hi]

theorem setPart_only (w : World) (b off : Nat) (vs : Array Value) : Only (fun k => k = b) w (World.setPart w b off vs) := by
  unfold World.setPart
  split
  · exact setRow_only _ _
  · exact Only.refl _ _

theorem setPart_heap {w : World} {b : Nat} {cs : Array Value} {t : TypeId} {fr : Nat × Nat} (h : w.heap[b]? = some (.cells cs t fr)) (off : Nat) (vs : Array Value) :
    (World.setPart w b off vs).heap[b]? = some (.cells (cs.toList.take off ++ vs.toList ++ cs.toList.drop (off + vs.size)).toArray t fr) := by
  unfold World.setPart; rw [h]; exact setRow_heap h

theorem wp_alloc_eq {P : Program} {K : Act → World → Prop} {Q : Exit → Act → World → Prop} {a : Act} {w : World} {ty : TypeId} {cs : Array Value} (hi : (P.info? ty).map (·.zero) = some (some (.agg cs)))
    (dst : Option Tmp) (t : TypeId) (pos : String) (after : Array Edge) (g : Option (Nat × Bool)) :
    Oper.wp P { dst := dst, op := .alloc ty, type := t, pos := pos, after := after, guard := g } a w K Q = K (a.put dst (.pointer (some ⟨w.heap.size, 0, none⟩))) (w.alloc (.cells cs ty)) := by
  cases hq : P.info? ty with
  | none => simp [hq] at hi
  | some i =>
    have hz : i.zero = some (.agg cs) := by simpa [hq] using hi
    unfold Oper.wp
    simp [execOp, Instr.alloc, zeroValue, typeInfo, hq, hz, newVar, newRow, Value.cells, Result.andThen, Oper.upon]

def zero78 : Array Value := (intv (List.replicate 12 0)).toArray
theorem wpa78 {K : Act → World → Prop} {Q : Exit → Act → World → Prop} {a : Act} {w : World} (dst : Option Tmp) (t : TypeId) (pos : String) (after : Array Edge) (g : Option (Nat × Bool)) :
    Oper.wp Try.prog { dst := dst, op := .alloc 78, type := t, pos := pos, after := after, guard := g } a w K Q = K (a.put dst (.pointer (some ⟨w.heap.size, 0, none⟩))) (w.alloc (.cells zero78 78)) := wp_alloc_eq (by kernel_rfl) ..

theorem wp78 {K : Act → World → Prop} {Q : Exit → Act → World → Prop} {a : Act} {w : World} (dst : Option Tmp) (t : TypeId) (x : Operand) (pos : String) (after : Array Edge) (g : Option (Nat × Bool)) :
    Oper.wp Try.prog { dst := dst, op := .load 78 x, type := t, pos := pos, after := after, guard := g } a w K Q =
      Oper.upon Try.prog { dst := dst, op := .load 78 x, type := t, pos := pos, after := after, guard := g } a K Q (loadPart Try.prog 78 12 (a.eval x) w) := wp_load_eq Try.underlying78 rfl (by kernel_rfl) ..
theorem wps78 {K : Act → World → Prop} {Q : Exit → Act → World → Prop} {a : Act} {w : World} (dst : Option Tmp) (t : TypeId) (x y : Operand) (pos : String) (after : Array Edge) (g : Option (Nat × Bool)) :
    Oper.wp Try.prog { dst := dst, op := .store 78 x y, type := t, pos := pos, after := after, guard := g } a w K Q =
      Oper.upon Try.prog { dst := dst, op := .store 78 x y, type := t, pos := pos, after := after, guard := g } a K Q (storePart Try.prog 78 12 (a.eval x) (a.eval y) w) := wp_store_eq (by kernel_rfl) ..

end Go.Proofs.Ytkioejdddmnbmaa
