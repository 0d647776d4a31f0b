/- The desk: what learn does; the desk in memory. -/
import Derived.Test.YtkioejdddmnbmaaKa
import Derived.Test.YtkioejdddmnbmaaSa
import Derived.WalkMore
import Derived.Carry
namespace Go.Proofs.Ytkioejdddmnbmaa
open Go.RowKit Go.Shelf

/-- what a desk has learnt: marks, the facts that came with their rules, the rule of a contradiction -/
structure LSt where
  known : List Int
  ord : List (Nat × Nat)
  clash : Int

def learn1 (rs : List Rl) (s : LSt) (i : Nat) : LSt :=
  if hasM s.known (nthR rs i).1 = true then
    if (nthR rs i).2 < 0 then (if s.clash < 0 then { s with clash := i } else s)
    else if nth s.known (nthR rs i).2.toNat = 0 then { s with known := s.known.set (nthR rs i).2.toNat 1, ord := s.ord ++ [((nthR rs i).2.toNat, i)] } else s
  else s
def learnTo (rs : List Rl) (s : LSt) : Nat → LSt
  | 0 => s
  | k + 1 => learn1 rs (learnTo rs s k) k

/-- the map of a desk -/
def MD {H : Type} (l : List (Nat × Nat)) : DataW H := l.foldl (fun D p => D.put (factKey p.1) (.lit (.int .i64 (p.2 : Int)))) (.map [])
theorem md_append {H : Type} (l : List (Nat × Nat)) (p : Nat × Nat) : MD (H := H) (l ++ [p]) = (MD l).put (factKey p.1) (.lit (.int .i64 (p.2 : Int))) := by unfold MD; rw [List.foldl_append]; rfl

def ordI (l : List (Nat × Nat)) : List Int := l.map fun p => (p.1 : Int)
theorem ordI_length (l : List (Nat × Nat)) : (ordI l).length = l.length := by simp [ordI]

structure DeskAt (B : Nat) (w : World) (g bm : Nat) (oa : Option Addr) (oc : Nat) (c0 c1 c2 : Value) (known : List Int) (mo so : List (Nat × Nat)) (clash : Int) : Prop where
  row : w.heap[g]? = some (.cells ([c0, c1, c2] ++ intv known ++ [Value.map (some bm), .slice oa so.length oc, .int .i64 clash]).toArray 82 (0, 0))
  len : known.length = 12
  map : w.ownsMap (H := Unit) Try.prog 107 (plainElem Try.prog 3) bm mo.length (MD mo)
  ord : OwnI B w oa so.length oc (ordI so)
  gB : B ≤ g
  bB : B ≤ bm

theorem DeskAt.size {B : Nat} {w : World} {g bm : Nat} {oa : Option Addr} {oc : Nat} {c0 c1 c2 : Value} {known : List Int} {mo so : List (Nat × Nat)} {clash : Int} (h : DeskAt B w g bm oa oc c0 c1 c2 known mo so clash) : g < w.heap.size :=
  (Array.getElem?_eq_some_iff.1 h.row).1

/-- all rows but one, that are no rows of ints, stay -/
def KeepsT (g : Nat) (w w' : World) : Prop := ∀ k cs t fr, w.heap[k]? = some (.cells cs t fr) → t ≠ 3 → k ≠ g → w'.heap[k]? = some (.cells cs t fr)
theorem KeepsT.refl (g : Nat) (w : World) : KeepsT g w w := fun _ _ _ _ h _ _ => h
theorem KeepsT.trans {g : Nat} {a b c : World} (h : KeepsT g a b) (k : KeepsT g b c) : KeepsT g a c := fun i cs t fr h1 h2 h3 => k i cs t fr (h i cs t fr h1 h2 h3) h2 h3
theorem KeepsT.below {g : Nat} {w w' : World} (h : Below w.heap.size w w') : KeepsT g w w' := fun k _ _ _ h1 _ _ => (h.block k (Array.getElem?_eq_some_iff.1 h1).1).trans h1
theorem KeepsT.setCell (g : Nat) (w : World) (i : Nat) (v : Value) : KeepsT g w (w.setCell ⟨g, i, none⟩ v) := fun k _ _ _ h1 _ h3 => ((setCell_only g i v).block k (Array.getElem?_eq_some_iff.1 h1).1 h3).trans h1

section
variable {B : Nat} {w : World} {g bm : Nat} {oa : Option Addr} {oc : Nat} {c0 c1 c2 : Value} {known : List Int} {mo so : List (Nat × Nat)} {clash : Int}

theorem DeskAt.kept {w' : World} (h : DeskAt B w g bm oa oc c0 c1 c2 known mo so clash) (hB : Below w.heap.size w w') : DeskAt B w' g bm oa oc c0 c1 c2 known mo so clash :=
  ⟨(hB.block g h.size).trans h.row, h.len, h.map.kept (row := none) ⟨hB.os, hB.tape, hB.output, hB.size, fun j hj _ => hB.block j hj⟩ (by simp), h.ord.kept hB, h.gB, h.bB⟩

theorem DeskAt.ne (h : DeskAt B w g bm oa oc c0 c1 c2 known mo so clash) : g ≠ bm := by
  rintro rfl
  obtain ⟨es, clock, h2, _⟩ := h.map
  rw [h.row] at h2
  cases h2

theorem DeskAt.oneO (h : DeskAt B w g bm oa oc c0 c1 c2 known mo so clash) : Value.ownBlock (.slice oa so.length oc) ≠ some g := by
  have h2 := h.ord.2.2
  generalize so.length = n at h2 ⊢
  rcases h2 with ⟨e, _⟩ | ⟨g', c, cur, e, hge, hh, _⟩
  · cases e; intro h; cases h
  · cases e
    intro e2
    have : g' = g := by simpa [Value.ownBlock] using e2
    subst this
    rw [h.row] at hh
    have := Option.some.inj hh
    injection this with _ h3
    exact absurd h3 (by decide)

theorem DeskAt.oneM (h : DeskAt B w g bm oa oc c0 c1 c2 known mo so clash) : Value.ownBlock (.slice oa so.length oc) ≠ some bm := by
  have h2 := h.ord.2.2
  generalize so.length = n at h2 ⊢
  rcases h2 with ⟨e, _⟩ | ⟨g', c, cur, e, hge, hh, _⟩
  · cases e; intro h; cases h
  · cases e
    intro e2
    have : g' = bm := by simpa [Value.ownBlock] using e2
    subst this
    obtain ⟨es, clock, h2, _⟩ := h.map
    rw [h2] at hh
    cases hh

theorem DeskAt.cell (h : DeskAt B w g bm oa oc c0 c1 c2 known mo so clash) (i : Nat) : w.cell? ⟨g, i, none⟩ = ([c0, c1, c2] ++ intv known ++ [Value.map (some bm), .slice oa so.length oc, .int .i64 clash])[i]? := by
  rw [cell_of_row _ _ _ _ _ _ h.row]; simp
theorem DeskAt.k0 (h : DeskAt B w g bm oa oc c0 c1 c2 known mo so clash) : w.cell? ⟨g, 0, none⟩ = some c0 := h.cell 0
theorem DeskAt.k1 (h : DeskAt B w g bm oa oc c0 c1 c2 known mo so clash) : w.cell? ⟨g, 1, none⟩ = some c1 := h.cell 1
theorem DeskAt.k2 (h : DeskAt B w g bm oa oc c0 c1 c2 known mo so clash) : w.cell? ⟨g, 2, none⟩ = some c2 := h.cell 2
theorem DeskAt.kK (h : DeskAt B w g bm oa oc c0 c1 c2 known mo so clash) {n : Nat} (hn : n < 12) : w.cell? ⟨g, 3 + n, none⟩ = some (.int .i64 (nth known n)) := by
  rw [h.cell, List.append_assoc, List.getElem?_append_right (by simp), List.getElem?_append_left (by simp [intv_length, h.len]; omega), show 3 + n - [c0, c1, c2].length = n from by simp, intv_get, if_pos (by rw [h.len]; exact hn)]
theorem DeskAt.kE (h : DeskAt B w g bm oa oc c0 c1 c2 known mo so clash) (n : Nat) : w.cell? ⟨g, 15 + n, none⟩ = [Value.map (some bm), .slice oa so.length oc, .int .i64 clash][n]? := by
  rw [h.cell, List.getElem?_append_right (by simp [intv_length, h.len])]
  congr 1
  simp [intv_length, h.len]
theorem DeskAt.kM (h : DeskAt B w g bm oa oc c0 c1 c2 known mo so clash) : w.cell? ⟨g, 15, none⟩ = some (Value.map (some bm)) := h.kE 0
theorem DeskAt.kO (h : DeskAt B w g bm oa oc c0 c1 c2 known mo so clash) : w.cell? ⟨g, 16, none⟩ = some (.slice oa so.length oc) := h.kE 1
theorem DeskAt.kC (h : DeskAt B w g bm oa oc c0 c1 c2 known mo so clash) : w.cell? ⟨g, 17, none⟩ = some (.int .i64 clash) := h.kE 2
theorem DeskAt.fr (h : DeskAt B w g bm oa oc c0 c1 c2 known mo so clash) (i : Nat) : w.frozen? ⟨g, i, none⟩ = false := frozen_of_row _ _ _ _ _ h.row
theorem DeskAt.ok (h : DeskAt B w g bm oa oc c0 c1 c2 known mo so clash) : partOk w g 3 12 = true := partOk_of h.row (by simp [intv_length, h.len])
theorem DeskAt.part (h : DeskAt B w g bm oa oc c0 c1 c2 known mo so clash) : partAt w g 3 12 = (intv known).toArray := by
  rw [partAt_of h.row]
  apply Array.ext'
  simp only [List.extract_toArray, List.extract_eq_take_drop]
  rw [List.append_assoc, show 3 = [c0, c1, c2].length from rfl, List.drop_left, show [c0, c1, c2].length + 12 - [c0, c1, c2].length = (intv known).length from by rw [intv_length, h.len]; rfl, List.take_left]

/-- one more fact is known -/
theorem DeskAt.mark (h : DeskAt B w g bm oa oc c0 c1 c2 known mo so clash) {n : Nat} (hn : n < 12) : DeskAt B (w.setCell ⟨g, 3 + n, none⟩ (.int .i64 1)) g bm oa oc c0 c1 c2 (known.set n 1) mo so clash := by
  have hO := setCell_only (w := w) g (3 + n) (.int .i64 1)
  refine ⟨?_, by rw [List.length_set]; exact h.len, h.map.kept (row := some g) ⟨hO.os, hO.tape, hO.output, hO.size, fun j hj hs => hO.block j hj (fun e => hs (by rw [e]))⟩ (by simp; exact h.ne.symm), ?_, h.gB, h.bB⟩
  · rw [heap_setCell_same w g (3 + n) _ 82 _ h.row]
    refine cellsSet ?_
    rw [List.append_assoc, List.set_append_right _ _ (by simp), List.set_append_left _ _ (by simp [intv_length, h.len]; omega), show 3 + n - [c0, c1, c2].length = n from by simp, List.append_assoc]
    unfold intv
    rw [List.map_set]
  · refine ⟨h.ord.1, h.ord.2.kept (row := some g) ⟨hO.os, hO.tape, hO.output, hO.size, fun j hj hs => hO.block j hj (fun e => hs (by rw [e]))⟩ ?_⟩
    have := h.oneO
    cases oa
    · exact .inl rfl
    · exact .inr this

/-- a contradiction is noted -/
theorem DeskAt.clashed (h : DeskAt B w g bm oa oc c0 c1 c2 known mo so clash) (n : Int) : DeskAt B (w.setCell ⟨g, 17, none⟩ (.int .i64 n)) g bm oa oc c0 c1 c2 known mo so n := by
  have hO := setCell_only (w := w) g 17 (.int .i64 n)
  refine ⟨?_, h.len, h.map.kept (row := some g) ⟨hO.os, hO.tape, hO.output, hO.size, fun j hj hs => hO.block j hj (fun e => hs (by rw [e]))⟩ (by simp; exact h.ne.symm), ?_, h.gB, h.bB⟩
  · rw [heap_setCell_same w g 17 _ 82 _ h.row]
    refine cellsSet ?_
    rw [List.set_append_right _ _ (by simp [intv_length, h.len])]
    congr 1
    simp [intv_length, h.len]
  · refine ⟨h.ord.1, h.ord.2.kept (row := some g) ⟨hO.os, hO.tape, hO.output, hO.size, fun j hj hs => hO.block j hj (fun e => hs (by rw [e]))⟩ ?_⟩
    have := h.oneO
    cases oa
    · exact .inl rfl
    · exact .inr this

/-- the map took an entry -/
theorem DeskAt.mapped {w' : World} (h : DeskAt B w g bm oa oc c0 c1 c2 known mo so clash) {f r : Nat} (hm : w'.ownsMap (H := Unit) Try.prog 107 (plainElem Try.prog 3) bm (mo.length + 1) ((MD mo).put (factKey f) (.lit (.int .i64 (r : Int)))))
    (hO : Only (fun b => b = bm) w w') : DeskAt B w' g bm oa oc c0 c1 c2 known (mo ++ [(f, r)]) so clash := by
  refine ⟨(hO.block g h.size h.ne).trans h.row, h.len, ?_, ?_, h.gB, h.bB⟩
  · rw [md_append, List.length_append]; exact hm
  · refine ⟨h.ord.1, h.ord.2.kept (row := some bm) ⟨hO.os, hO.tape, hO.output, hO.size, fun j hj hs => hO.block j hj (fun e => hs (by rw [e]))⟩ ?_⟩
    have := h.oneM
    cases oa
    · exact .inl rfl
    · exact .inr this

/-- the order took a fact, and is stored -/
theorem DeskAt.ordered {w1 : World} {oa' : Option Addr} {oc' : Nat} (h : DeskAt B w g bm oa oc c0 c1 c2 known mo so clash) {f r : Nat} (ho : OwnI B w1 oa' (so.length + 1) oc' (ordI so ++ [(f : Int)])) (hg : w.grownBy w1 (Value.ownBlock (.slice oa so.length oc))) :
    DeskAt B (w1.setCell ⟨g, 16, none⟩ (.slice oa' (so.length + 1) oc')) g bm oa' oc' c0 c1 c2 known mo (so ++ [(f, r)]) clash := by
  have hO := setCell_only (w := w1) g 16 (.slice oa' (so.length + 1) oc')
  have hrow := (hg.block g h.size h.oneO.symm).trans h.row
  have hmap := h.map.kept hg (by
    exact h.oneM.symm)
  have hne : ∀ g' : Nat, Value.ownBlock (.slice oa' (so.length + 1) oc') = some g' → g' ≠ g := by
    rcases ho.2.2 with ⟨e, _⟩ | ⟨g', c, cur, e, hge, hh, _⟩
    · cases e
    · cases e
      intro g2 e2 e3
      subst e3
      have : g' = g2 := by simpa [Value.ownBlock] using e2
      subst this
      rw [hrow] at hh
      have := Option.some.inj hh
      injection this with _ h3
      exact absurd h3 (by decide)
  refine ⟨?_, h.len, hmap.kept (row := some g) ⟨hO.os, hO.tape, hO.output, hO.size, fun j hj hs => hO.block j hj (fun e => hs (by rw [e]))⟩ (by simp; exact h.ne.symm), ?_, h.gB, h.bB⟩
  · rw [heap_setCell_same w1 g 16 _ 82 _ hrow]
    refine cellsSet ?_
    rw [List.set_append_right _ _ (by simp [intv_length, h.len])]
    congr 1
    simp [intv_length, h.len]
  · have e : (so ++ [(f, r)]).length = so.length + 1 := by simp
    rw [e]
    refine ⟨by simp [ordI], ?_⟩
    have e2 : ordI (so ++ [(f, r)]) = ordI so ++ [(f : Int)] := by simp [ordI]
    rw [e2]
    refine ho.2.kept (row := some g) ⟨hO.os, hO.tape, hO.output, hO.size, fun j hj hs => hO.block j hj (fun e => hs (by rw [e]))⟩ ?_
    cases oa' with
    | none => exact .inl rfl
    | some a => exact .inr (fun e2 => hne g e2 rfl)

theorem DeskAt.keepsM {w' : World} (h : DeskAt B w g bm oa oc c0 c1 c2 known mo so clash) (hO : Only (fun b => b = bm) w w') : KeepsT g w w' := fun k _ _ _ h1 _ _ => by
  refine (hO.block k (Array.getElem?_eq_some_iff.1 h1).1 ?_).trans h1
  intro e
  have e' : k = bm := e
  subst e'
  obtain ⟨es, clock, h2, _⟩ := h.map
  rw [h2] at h1
  cases h1

theorem DeskAt.keepsO {w1 : World} (h : DeskAt B w g bm oa oc c0 c1 c2 known mo so clash) (hg : w.grownBy w1 (Value.ownBlock (.slice oa so.length oc))) : KeepsT g w w1 := fun k cs t fr h1 h2 _ => by
  refine (hg.block k (Array.getElem?_eq_some_iff.1 h1).1 ?_).trans h1
  have h3 := h.ord.2.2
  generalize so.length = n at h3 ⊢
  rcases h3 with ⟨e, _⟩ | ⟨g', c, cur, e, hge, hh, _⟩
  · cases e; intro h; cases h
  · cases e
    intro e2
    have : g' = k := by simpa [Value.ownBlock] using e2.symm
    subst this
    rw [h1] at hh
    have := Option.some.inj hh
    injection this with _ h4
    exact h2 h4

/-- the append of a desk's order, and its store, in one -/
theorem DeskAt.arm {w0 w1 w' : World} {oa' : Option Addr} {oc' : Nat} {f : Nat} (h : DeskAt w0.heap.size w g bm oa oc c0 c1 c2 known mo so clash) (hB : Below w0.heap.size w0 w) (h1 : Below w.heap.size w w1) (hg : w1.grownBy w' (Value.ownBlock (.slice oa so.length oc)))
    (hB' : Below w0.heap.size w1 w') (ho : OwnI w0.heap.size w' oa' (so.length + 1) oc' (ordI so ++ [(f : Int)])) (r : Nat) :
    w'.cell? ⟨g, 16, none⟩ = some (.slice oa so.length oc) ∧ w'.frozen? ⟨g, 16, none⟩ = false ∧ DeskAt w0.heap.size (w'.setCell ⟨g, 16, none⟩ (.slice oa' (so.length + 1) oc')) g bm oa' oc' c0 c1 c2 known mo (so ++ [(f, r)]) clash ∧
      Below w0.heap.size w0 (w'.setCell ⟨g, 16, none⟩ (.slice oa' (so.length + 1) oc')) ∧ KeepsT g w (w'.setCell ⟨g, 16, none⟩ (.slice oa' (so.length + 1) oc')) := by
  have hk := h.kept h1
  have hrow := (hg.block g hk.size hk.oneO.symm).trans hk.row
  refine ⟨?_, frozen_of_row _ _ _ _ _ hrow, hk.ordered ho hg, ((hB.trans (h1.mono hB.size)).trans hB').setCell h.gB _, ((KeepsT.below h1).trans (hk.keepsO hg)).trans (KeepsT.setCell g w' 16 _)⟩
  rw [cell_of_row _ _ _ _ _ _ hrow, ← hk.kO, cell_of_row _ _ _ _ _ _ hk.row]
end

end Go.Proofs.Ytkioejdddmnbmaa
