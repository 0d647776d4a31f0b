/- A reader of rows in memory. -/
import Derived.Test.YtjnijhnphhpilaaWf
import Derived.Test.YtjnijhnphhpilaaOdd
import Derived.Test.YtjnijhnphhpilaaPart
import Derived.OneCell
namespace Go.Proofs.Ytjnijhnphhpilaa
open Go.RowKit

theorem IntsAt.below {w w' : World} {a : Option Addr} {xs : List Int} {B : Nat} (h : IntsAt w a xs) (hB : Below B w w') (ha : ∀ b' off, a = some ⟨b', off, none⟩ → b' < B) : IntsAt w' a xs := by
  rcases h with rfl | ⟨b, off, rfl, h⟩
  · exact .inl rfl
  · exact .inr ⟨b, off, rfl, fun j hj => (hB.cell (p := ⟨b, off + j, none⟩) (ha b off rfl)).trans (h j hj)⟩

theorem Only.belowR {S : Nat → Prop} {A W W' : World} (h : Only S A W) (hB : Below A.heap.size W W') : Only S A W' :=
  ⟨hB.os.trans h.os, hB.tape.trans h.tape, hB.output.trans h.output, Nat.le_trans h.size hB.size, fun k hk hs => (hB.block k hk).trans (h.block k hk hs)⟩

@[go_sem] theorem partOk_setCell (w : World) (p : Addr) (v : Value) (b off n : Nat) : partOk (w.setCell p v) b off n = partOk w b off n := by
  unfold partOk World.setCell
  simp only [Array.getElem?_modify]
  by_cases h : p.block = b
  · subst h
    rw [if_pos rfl]
    cases hg : w.heap[p.block]? with
    | none => rfl
    | some o =>
      cases o <;> simp
      split <;> simp
  · rw [if_neg h]

@[go_sem] theorem partAt_setCell (w : World) (p : Addr) (v : Value) (b off n : Nat) (h : p.block ≠ b) : partAt (w.setCell p v) b off n = partAt w b off n := by
  unfold partAt World.setCell
  simp only [Array.getElem?_modify]
  rw [if_neg h]

@[go_sem] theorem freeB_setCell (w : World) (p : Addr) (v : Value) (b : Nat) : freeB (w.setCell p v) b = freeB w b := by
  unfold freeB World.setCell
  simp only [Array.getElem?_modify]
  by_cases h : p.block = b
  · subst h
    rw [if_pos rfl]
    cases hg : w.heap[p.block]? with
    | none => rfl
    | some o => cases o <;> rfl
  · rw [if_neg h]

@[go_sem] theorem setPart_cell166 {w : World} {b : Nat} {vs : Array Value} (h1 : partOk w b 84 82 = true) (h2 : (vs.size == 82) = true) : (World.setPart w b 84 vs).cell? ⟨b, 166, none⟩ = w.cell? ⟨b, 166, none⟩ := by
  unfold partOk at h1
  split at h1
  · rename_i cs t fr hg
    have hsz : vs.size = 82 := by simpa using h2
    have hc : 166 ≤ cs.size := by simpa using h1
    rw [cell_of_row _ _ _ _ _ _ (setPart_heap hg 84 vs), cell_of_row _ _ _ _ _ _ hg, hsz, List.getElem?_toArray]
    rw [List.getElem?_append_right (by simp [hsz]; omega)]
    simp [hsz]
    congr 1
    omega
  · cases h1

@[go_sem] theorem setPart_frozen (w : World) (b off : Nat) (vs : Array Value) (k : Nat) : (World.setPart w b off vs).frozen? ⟨b, k, none⟩ = w.frozen? ⟨b, k, none⟩ := by
  cases hg : w.heap[b]? with
  | none => unfold World.setPart; rw [hg]
  | some o =>
    cases o with
    | cells cs t fr => simp [World.frozen?, setPart_heap hg off vs, hg]
    | _ => unfold World.setPart; rw [hg]

theorem OwnI.ge {B : Nat} {w : World} {ao : Option Addr} {n cap : Nat} {xs : List Int} (h : OwnI B w ao n cap xs) (b off : Nat) (ha : ao = some ⟨b, off, Option.none⟩) : B ≤ b := by
  rcases h.2.2 with ⟨e, _⟩ | ⟨g, c, cur, e, hge, _⟩
  · subst ha; cases e
  · subst ha; cases e; exact hge

theorem OwnI.setOther {B : Nat} {w : World} {ao : Option Addr} {n cap : Nat} {xs : List Int} (h : OwnI B w ao n cap xs) {b k : Nat} (hb : b < B) (v : Value) : OwnI B (w.setCell ⟨b, k, Option.none⟩ v) ao n cap xs := by
  refine ⟨h.1, ownsRow_setCell_other h.2 ?_ v⟩
  rcases h.2.2 with ⟨e, _⟩ | ⟨g, c, cur, e, hge, _⟩
  · cases e; simp [Value.ownBlock]
  · cases e; simp [Value.ownBlock]; omega

/-- a reader in memory -/
structure RdAt (w : World) (b : Nat) (own : List Int) (places : Nat) (ra : Option Addr) (rc : Nat) (row old : List Int) (far : Nat) (pv : Value) : Prop where
  heap : w.heap[b]? = some (.cells (rdC own places (.slice ra row.length rc) old far pv).toArray 75 (0, 0))
  ownl : own.length = 82
  oldl : old.length = 82
  rat : IntsAt w ra row
  rnil : ra = none → row.length = 0 ∧ rc = 0
  rcap : row.length ≤ rc

section
variable {w : World} {b : Nat} {own : List Int} {places : Nat} {ra : Option Addr} {rc : Nat} {row old : List Int} {far : Nat} {pv : Value} (h : RdAt w b own places ra rc row old far pv)
include h
theorem RdAt.cOwn {k : Nat} (hk : k < 82) : w.cell? ⟨b, k, none⟩ = some (.int .i64 (nth own k)) := by
  rw [cell_of_row _ _ _ _ _ _ h.heap]; simpa using rdC_own h.ownl h.oldl hk
theorem RdAt.cPlaces : w.cell? ⟨b, 82, none⟩ = some (.int .i64 places) := by
  rw [cell_of_row _ _ _ _ _ _ h.heap]; simpa using rdC_places h.ownl h.oldl
theorem RdAt.cRow : w.cell? ⟨b, 83, none⟩ = some (.slice ra row.length rc) := by
  rw [cell_of_row _ _ _ _ _ _ h.heap]; simpa using rdC_row h.ownl h.oldl
theorem RdAt.cOld {k : Nat} (hk : k < 82) : w.cell? ⟨b, 84 + k, none⟩ = some (.int .i64 (nth old k)) := by
  rw [cell_of_row _ _ _ _ _ _ h.heap]; simpa using rdC_old h.ownl h.oldl hk
theorem RdAt.cFar : w.cell? ⟨b, 166, none⟩ = some (.int .i64 far) := by
  rw [cell_of_row _ _ _ _ _ _ h.heap]; simpa using rdC_far h.ownl h.oldl
theorem RdAt.cProof : w.cell? ⟨b, 167, none⟩ = some pv := by
  rw [cell_of_row _ _ _ _ _ _ h.heap]; simpa using rdC_proof h.ownl h.oldl
theorem RdAt.free (k : Nat) : w.frozen? ⟨b, k, none⟩ = false := frozen_of_row _ _ _ _ _ h.heap
theorem RdAt.lt : b < w.heap.size := (Array.getElem?_eq_some_iff.1 h.heap).1
end


/-- what a reader holds behind its first lines: where nothing was read, the feeds are laid -/
structure RdOk (own : List Int) (places : Nat) (row old : List Int) (far : Nat) : Prop where
  places : places ≤ row.length
  len : row.length ≤ 80
  far1 : 1 ≤ far
  far2 : far ≤ row.length + 1
  bown : isBits own = true
  bold : isBits old = true
  brow : isBits row = true

theorem cellsSet {l l' : List Value} {t : TypeId} {i : Nat} {v : Value} (h : l.set i v = l') : some (Obj.cells (l.toArray.setIfInBounds i v) t (0, 0)) = some (Obj.cells l'.toArray t (0, 0)) := by
  rw [List.setIfInBounds_toArray, h]

/-- v is a slice of ints that reads xs, and that lies elsewhere than block b -/
def Pr (w : World) (b : Nat) (v : Value) (xs : List Int) : Prop := ∃ a cap, v = .slice a xs.length cap ∧ IntsAt w a xs ∧ (a = none → cap = 0) ∧ ∀ b' off, a = some ⟨b', off, none⟩ → b' ≠ b

theorem Pr.mono {w w' : World} {b : Nat} {v : Value} {xs : List Int} (h : Pr w b v xs) (hB : Below w.heap.size w w') : Pr w' b v xs := by
  obtain ⟨a, cap, rfl, h, hn, hb⟩ := h
  exact ⟨a, cap, rfl, h.mono hB, hn, hb⟩
theorem Pr.only {w w' : World} {b : Nat} {v : Value} {xs : List Int} (h : Pr w b v xs) (hO : Only (fun k => k = b) w w') : Pr w' b v xs := by
  obtain ⟨a, cap, rfl, h, hn, hb⟩ := h
  exact ⟨a, cap, rfl, h.only hO (fun b' off e _ => hb b' off e), hn, hb⟩

/-- a reader in memory -/
def RdM (w : World) (b : Nat) (r : Rd) : Prop := ∃ ra rc pv, RdAt w b r.own r.places ra rc r.row r.old r.far pv ∧ Pr w b pv r.proof

def ReadP (w : World) (b : Nat) (r : Rd) (e : Ending) (w' : World) : Prop := e = .returned (.tuple #[]) ∧ RdM w' b r ∧ Only (fun k => k = b) w w'

theorem RdAt.mono {w w' : World} {b : Nat} {own : List Int} {places : Nat} {ra : Option Addr} {rc : Nat} {row old : List Int} {far : Nat} {pv : Value} (h : RdAt w b own places ra rc row old far pv)
    (hB : Below w.heap.size w w') : RdAt w' b own places ra rc row old far pv :=
  ⟨(hB.block _ h.lt).trans h.heap, h.ownl, h.oldl, h.rat.mono hB, h.rnil, h.rcap⟩

theorem Only.drew {S : Nat → Prop} {A W : World} (h : Only S A W) : Only S A W.drew := ⟨h.os, h.tape, h.output, h.size, h.block⟩
theorem Only.set1 {A W : World} {b : Nat} (h : Only (fun k => k = b) A W) (k : Nat) (v : Value) : Only (fun k => k = b) A (W.setCell ⟨b, k, none⟩ v) := h.trans (setCell_only _ _ _)

section
variable {w : World} {b : Nat} {own : List Int} {places : Nat} {ra : Option Addr} {rc : Nat} {row old : List Int} {far : Nat} {pv : Value} (h : RdAt w b own places ra rc row old far pv)
  (hne : ∀ b' off, ra = some ⟨b', off, none⟩ → b' ≠ b)
include h
theorem RdAt.below {w' : World} {B : Nat} (hB : Below B w w') (hb : b < B) (hr : ∀ b' off, ra = some ⟨b', off, none⟩ → b' < B) : RdAt w' b own places ra rc row old far pv :=
  ⟨(hB.block _ hb).trans h.heap, h.ownl, h.oldl, h.rat.below hB hr, h.rnil, h.rcap⟩
theorem RdAt.drew : RdAt w.drew b own places ra rc row old far pv := ⟨h.heap, h.ownl, h.oldl, h.rat, h.rnil, h.rcap⟩
include hne
theorem RdAt.only {w' : World} (hO : Only (fun k => k = b) w w') {own' : List Int} {places' : Nat} {old' : List Int} {far' : Nat} {pv' : Value}
    (hh : w'.heap[b]? = some (.cells (rdC own' places' (.slice ra row.length rc) old' far' pv').toArray 75 (0, 0))) (h1 : own'.length = 82) (h2 : old'.length = 82) :
    RdAt w' b own' places' ra rc row old' far' pv' :=
  ⟨hh, h1, h2, h.rat.only hO (fun b' off e _ => hne b' off e), h.rnil, h.rcap⟩
theorem RdAt.setFar (n : Nat) : RdAt (w.setCell ⟨b, 166, none⟩ (.int .i64 n)) b own places ra rc row old n pv :=
  h.only hne (setCell_only _ _ _) ((heap_setCell_same w b 166 _ 75 _ h.heap).trans (cellsSet (rdC_set_far h.ownl h.oldl n))) h.ownl h.oldl
theorem RdAt.setProof (v : Value) : RdAt (w.setCell ⟨b, 167, none⟩ v) b own places ra rc row old far v :=
  h.only hne (setCell_only _ _ _) ((heap_setCell_same w b 167 _ 75 _ h.heap).trans (cellsSet (rdC_set_proof h.ownl h.oldl v))) h.ownl h.oldl
theorem RdAt.setPlaces (n : Nat) : RdAt (w.setCell ⟨b, 82, none⟩ (.int .i64 n)) b own n ra rc row old far pv :=
  h.only hne (setCell_only _ _ _) ((heap_setCell_same w b 82 _ 75 _ h.heap).trans (cellsSet (rdC_set_places h.ownl h.oldl n))) h.ownl h.oldl
theorem RdAt.setOwn {k : Nat} (hk : k < 82) (x : Int) : RdAt (w.setCell ⟨b, k, none⟩ (.int .i64 x)) b (own.set k x) places ra rc row old far pv :=
  h.only hne (setCell_only _ _ _) ((heap_setCell_same w b k _ 75 _ h.heap).trans (cellsSet (rdC_set_own h.ownl h.oldl hk x))) (by rw [List.length_set]; exact h.ownl) h.oldl
theorem RdAt.setOld (l : List Int) (hl : l.length = 82) : RdAt (World.setPart w b 84 (intv l).toArray) b own places ra rc row l far pv := by
  refine h.only hne (setPart_only _ _ _ _) ?_ h.ownl hl
  rw [setPart_heap h.heap]
  have e : (rdC own places (.slice ra row.length rc) old far pv).take 84 ++ intv l ++ (rdC own places (.slice ra row.length rc) old far pv).drop (84 + 82) = rdC own places (.slice ra row.length rc) l far pv := by
    unfold rdC
    have h1 : (intv own).length = 82 := by rw [intv_length, h.ownl]
    have h2 : (intv old).length = 82 := by rw [intv_length, h.oldl]
    rw [List.take_append, List.drop_append, h1, List.take_of_length_le (by omega), List.drop_of_length_le (by omega)]
    simp only [Nat.reduceSub, Nat.reduceAdd, List.take_succ_cons, List.take_zero, List.drop_succ_cons, List.nil_append]
    rw [List.drop_append, h2, List.drop_of_length_le (by omega)]
    simp
  simp only [List.size_toArray, intv_length, hl]
  rw [e]
end

end Go.Proofs.Ytjnijhnphhpilaa
