/- The desk: what learn does; the desk in memory. Walk: learn. Walk: newDesk. Walks: open, CheckTruth of the program. Plain: what follows from facts by rules; the desk finds it. No condition but those of a valid case. Plain: what the reference's rounds find; truths by bits and by marks. No condition but those of a valid case. -/
import Derived.Test.YtkioejdddmnbmaaGc
import Derived.WalkMore
import Derived.Carry
import Derived.Test.YtkioejdddmnbmaaGa
import Derived.Deep.RegionLaw
namespace Go.Proofs.Ytkioejdddmnbmaa
open Go.RowKit Go.Shelf

/-- what a desk has learnt: marks, the facts that came with their rules, the rule of a contradiction -/
structure LSt where
  known : List Int
  ord : List (Nat × Nat)
  clash : Int

def learn1 (rs : List Rl) (s : LSt) (i : Nat) : LSt :=
  if hasM s.known (nthR rs i).1 = true then
    if (nthR rs i).2 < 0 then (if s.clash < 0 then { s with clash := i } else s)
    else if nth s.known (nthR rs i).2.toNat = 0 then { s with known := s.known.set (nthR rs i).2.toNat 1, ord := s.ord ++ [((nthR rs i).2.toNat, i)] } else s
  else s
def learnTo (rs : List Rl) (s : LSt) : Nat → LSt
  | 0 => s
  | k + 1 => learn1 rs (learnTo rs s k) k

/-- the map of a desk -/
def MD {H : Type} (l : List (Nat × Nat)) : DataW H := l.foldl (fun D p => D.put (factKey p.1) (.lit (.int .i64 (p.2 : Int)))) (.map [])
theorem md_append {H : Type} (l : List (Nat × Nat)) (p : Nat × Nat) : MD (H := H) (l ++ [p]) = (MD l).put (factKey p.1) (.lit (.int .i64 (p.2 : Int))) := by unfold MD; rw [List.foldl_append]; rfl

def ordI (l : List (Nat × Nat)) : List Int := l.map fun p => (p.1 : Int)
theorem ordI_length (l : List (Nat × Nat)) : (ordI l).length = l.length := by simp [ordI]

structure DeskAt (B : Nat) (w : World) (g bm : Nat) (oa : Option Addr) (oc : Nat) (c0 c1 c2 : Value) (known : List Int) (mo so : List (Nat × Nat)) (clash : Int) : Prop where
  row : w.heap[g]? = some (.cells ([c0, c1, c2] ++ intv known ++ [Value.map (some bm), .slice oa so.length oc, .int .i64 clash]).toArray 82 (0, 0))
  len : known.length = 12
  map : w.ownsMap (H := Unit) Try.prog 107 (plainElem Try.prog 3) bm mo.length (MD mo)
  ord : OwnI B w oa so.length oc (ordI so)
  gB : B ≤ g
  bB : B ≤ bm

theorem DeskAt.size {B : Nat} {w : World} {g bm : Nat} {oa : Option Addr} {oc : Nat} {c0 c1 c2 : Value} {known : List Int} {mo so : List (Nat × Nat)} {clash : Int} (h : DeskAt B w g bm oa oc c0 c1 c2 known mo so clash) : g < w.heap.size :=
  (Array.getElem?_eq_some_iff.1 h.row).1

/-- all rows but one, that are no rows of ints, stay -/
def KeepsT (g : Nat) (w w' : World) : Prop := ∀ k cs t fr, w.heap[k]? = some (.cells cs t fr) → t ≠ 3 → k ≠ g → w'.heap[k]? = some (.cells cs t fr)
theorem KeepsT.refl (g : Nat) (w : World) : KeepsT g w w := fun _ _ _ _ h _ _ => h
theorem KeepsT.trans {g : Nat} {a b c : World} (h : KeepsT g a b) (k : KeepsT g b c) : KeepsT g a c := fun i cs t fr h1 h2 h3 => k i cs t fr (h i cs t fr h1 h2 h3) h2 h3
theorem KeepsT.below {g : Nat} {w w' : World} (h : Below w.heap.size w w') : KeepsT g w w' := fun k _ _ _ h1 _ _ => (h.block k (Array.getElem?_eq_some_iff.1 h1).1).trans h1
theorem KeepsT.setCell (g : Nat) (w : World) (i : Nat) (v : Value) : KeepsT g w (w.setCell ⟨g, i, none⟩ v) := fun k _ _ _ h1 _ h3 => ((setCell_only g i v).block k (Array.getElem?_eq_some_iff.1 h1).1 h3).trans h1

section
variable {B : Nat} {w : World} {g bm : Nat} {oa : Option Addr} {oc : Nat} {c0 c1 c2 : Value} {known : List Int} {mo so : List (Nat × Nat)} {clash : Int}

theorem DeskAt.kept {w' : World} (h : DeskAt B w g bm oa oc c0 c1 c2 known mo so clash) (hB : Below w.heap.size w w') : DeskAt B w' g bm oa oc c0 c1 c2 known mo so clash :=
  ⟨(hB.block g h.size).trans h.row, h.len, h.map.kept (row := none) ⟨hB.os, hB.tape, hB.output, hB.size, fun j hj _ => hB.block j hj⟩ (by simp), h.ord.kept hB, h.gB, h.bB⟩

theorem DeskAt.ne (h : DeskAt B w g bm oa oc c0 c1 c2 known mo so clash) : g ≠ bm := by
  rintro rfl
  obtain ⟨es, clock, h2, _⟩ := h.map
  rw [h.row] at h2
  cases h2

theorem DeskAt.oneO (h : DeskAt B w g bm oa oc c0 c1 c2 known mo so clash) : Value.ownBlock (.slice oa so.length oc) ≠ some g := by
  have h2 := h.ord.2.2
  generalize so.length = n at h2 ⊢
  rcases h2 with ⟨e, _⟩ | ⟨g', c, cur, e, hge, hh, _⟩
  · cases e; intro h; cases h
  · cases e
    intro e2
    have : g' = g := by simpa [Value.ownBlock] using e2
    subst this
    rw [h.row] at hh
    have := Option.some.inj hh
    injection this with _ h3
    exact absurd h3 (by decide)

theorem DeskAt.oneM (h : DeskAt B w g bm oa oc c0 c1 c2 known mo so clash) : Value.ownBlock (.slice oa so.length oc) ≠ some bm := by
  have h2 := h.ord.2.2
  generalize so.length = n at h2 ⊢
  rcases h2 with ⟨e, _⟩ | ⟨g', c, cur, e, hge, hh, _⟩
  · cases e; intro h; cases h
  · cases e
    intro e2
    have : g' = bm := by simpa [Value.ownBlock] using e2
    subst this
    obtain ⟨es, clock, h2, _⟩ := h.map
    rw [h2] at hh
    cases hh

theorem DeskAt.cell (h : DeskAt B w g bm oa oc c0 c1 c2 known mo so clash) (i : Nat) : w.cell? ⟨g, i, none⟩ = ([c0, c1, c2] ++ intv known ++ [Value.map (some bm), .slice oa so.length oc, .int .i64 clash])[i]? := by
  rw [cell_of_row _ _ _ _ _ _ h.row]; simp
theorem DeskAt.k0 (h : DeskAt B w g bm oa oc c0 c1 c2 known mo so clash) : w.cell? ⟨g, 0, none⟩ = some c0 := h.cell 0
theorem DeskAt.k1 (h : DeskAt B w g bm oa oc c0 c1 c2 known mo so clash) : w.cell? ⟨g, 1, none⟩ = some c1 := h.cell 1
theorem DeskAt.k2 (h : DeskAt B w g bm oa oc c0 c1 c2 known mo so clash) : w.cell? ⟨g, 2, none⟩ = some c2 := h.cell 2
theorem DeskAt.kK (h : DeskAt B w g bm oa oc c0 c1 c2 known mo so clash) {n : Nat} (hn : n < 12) : w.cell? ⟨g, 3 + n, none⟩ = some (.int .i64 (nth known n)) := by
  rw [h.cell, List.append_assoc, List.getElem?_append_right (by simp), List.getElem?_append_left (by simp [intv_length, h.len]; omega), show 3 + n - [c0, c1, c2].length = n from by simp, intv_get, if_pos (by rw [h.len]; exact hn)]
theorem DeskAt.kE (h : DeskAt B w g bm oa oc c0 c1 c2 known mo so clash) (n : Nat) : w.cell? ⟨g, 15 + n, none⟩ = [Value.map (some bm), .slice oa so.length oc, .int .i64 clash][n]? := by
  rw [h.cell, List.getElem?_append_right (by simp [intv_length, h.len])]
  congr 1
  simp [intv_length, h.len]
theorem DeskAt.kM (h : DeskAt B w g bm oa oc c0 c1 c2 known mo so clash) : w.cell? ⟨g, 15, none⟩ = some (Value.map (some bm)) := h.kE 0
theorem DeskAt.kO (h : DeskAt B w g bm oa oc c0 c1 c2 known mo so clash) : w.cell? ⟨g, 16, none⟩ = some (.slice oa so.length oc) := h.kE 1
theorem DeskAt.kC (h : DeskAt B w g bm oa oc c0 c1 c2 known mo so clash) : w.cell? ⟨g, 17, none⟩ = some (.int .i64 clash) := h.kE 2
theorem DeskAt.fr (h : DeskAt B w g bm oa oc c0 c1 c2 known mo so clash) (i : Nat) : w.frozen? ⟨g, i, none⟩ = false := frozen_of_row _ _ _ _ _ h.row
theorem DeskAt.ok (h : DeskAt B w g bm oa oc c0 c1 c2 known mo so clash) : partOk w g 3 12 = true := partOk_of h.row (by simp [intv_length, h.len])
theorem DeskAt.part (h : DeskAt B w g bm oa oc c0 c1 c2 known mo so clash) : partAt w g 3 12 = (intv known).toArray := by
  rw [partAt_of h.row]
  apply Array.ext'
  simp only [List.extract_toArray, List.extract_eq_take_drop]
  rw [List.append_assoc, show 3 = [c0, c1, c2].length from rfl, List.drop_left, show [c0, c1, c2].length + 12 - [c0, c1, c2].length = (intv known).length from by rw [intv_length, h.len]; rfl, List.take_left]

/-- one more fact is known -/
theorem DeskAt.mark (h : DeskAt B w g bm oa oc c0 c1 c2 known mo so clash) {n : Nat} (hn : n < 12) : DeskAt B (w.setCell ⟨g, 3 + n, none⟩ (.int .i64 1)) g bm oa oc c0 c1 c2 (known.set n 1) mo so clash := by
  have hO := setCell_only (w := w) g (3 + n) (.int .i64 1)
  refine ⟨?_, by rw [List.length_set]; exact h.len, h.map.kept (row := some g) ⟨hO.os, hO.tape, hO.output, hO.size, fun j hj hs => hO.block j hj (fun e => hs (by rw [e]))⟩ (by simp; exact h.ne.symm), ?_, h.gB, h.bB⟩
  · rw [heap_setCell_same w g (3 + n) _ 82 _ h.row]
    refine cellsSet ?_
    rw [List.append_assoc, List.set_append_right _ _ (by simp), List.set_append_left _ _ (by simp [intv_length, h.len]; omega), show 3 + n - [c0, c1, c2].length = n from by simp, List.append_assoc]
    unfold intv
    rw [List.map_set]
  · refine ⟨h.ord.1, h.ord.2.kept (row := some g) ⟨hO.os, hO.tape, hO.output, hO.size, fun j hj hs => hO.block j hj (fun e => hs (by rw [e]))⟩ ?_⟩
    have := h.oneO
    cases oa
    · exact .inl rfl
    · exact .inr this

/-- a contradiction is noted -/
theorem DeskAt.clashed (h : DeskAt B w g bm oa oc c0 c1 c2 known mo so clash) (n : Int) : DeskAt B (w.setCell ⟨g, 17, none⟩ (.int .i64 n)) g bm oa oc c0 c1 c2 known mo so n := by
  have hO := setCell_only (w := w) g 17 (.int .i64 n)
  refine ⟨?_, h.len, h.map.kept (row := some g) ⟨hO.os, hO.tape, hO.output, hO.size, fun j hj hs => hO.block j hj (fun e => hs (by rw [e]))⟩ (by simp; exact h.ne.symm), ?_, h.gB, h.bB⟩
  · rw [heap_setCell_same w g 17 _ 82 _ h.row]
    refine cellsSet ?_
    rw [List.set_append_right _ _ (by simp [intv_length, h.len])]
    congr 1
    simp [intv_length, h.len]
  · refine ⟨h.ord.1, h.ord.2.kept (row := some g) ⟨hO.os, hO.tape, hO.output, hO.size, fun j hj hs => hO.block j hj (fun e => hs (by rw [e]))⟩ ?_⟩
    have := h.oneO
    cases oa
    · exact .inl rfl
    · exact .inr this

/-- the map took an entry -/
theorem DeskAt.mapped {w' : World} (h : DeskAt B w g bm oa oc c0 c1 c2 known mo so clash) {f r : Nat} (hm : w'.ownsMap (H := Unit) Try.prog 107 (plainElem Try.prog 3) bm (mo.length + 1) ((MD mo).put (factKey f) (.lit (.int .i64 (r : Int)))))
    (hO : Only (fun b => b = bm) w w') : DeskAt B w' g bm oa oc c0 c1 c2 known (mo ++ [(f, r)]) so clash := by
  refine ⟨(hO.block g h.size h.ne).trans h.row, h.len, ?_, ?_, h.gB, h.bB⟩
  · rw [md_append, List.length_append]; exact hm
  · refine ⟨h.ord.1, h.ord.2.kept (row := some bm) ⟨hO.os, hO.tape, hO.output, hO.size, fun j hj hs => hO.block j hj (fun e => hs (by rw [e]))⟩ ?_⟩
    have := h.oneM
    cases oa
    · exact .inl rfl
    · exact .inr this

/-- the order took a fact, and is stored -/
theorem DeskAt.ordered {w1 : World} {oa' : Option Addr} {oc' : Nat} (h : DeskAt B w g bm oa oc c0 c1 c2 known mo so clash) {f r : Nat} (ho : OwnI B w1 oa' (so.length + 1) oc' (ordI so ++ [(f : Int)])) (hg : w.grownBy w1 (Value.ownBlock (.slice oa so.length oc))) :
    DeskAt B (w1.setCell ⟨g, 16, none⟩ (.slice oa' (so.length + 1) oc')) g bm oa' oc' c0 c1 c2 known mo (so ++ [(f, r)]) clash := by
  have hO := setCell_only (w := w1) g 16 (.slice oa' (so.length + 1) oc')
  have hrow := (hg.block g h.size h.oneO.symm).trans h.row
  have hmap := h.map.kept hg (by
    exact h.oneM.symm)
  have hne : ∀ g' : Nat, Value.ownBlock (.slice oa' (so.length + 1) oc') = some g' → g' ≠ g := by
    rcases ho.2.2 with ⟨e, _⟩ | ⟨g', c, cur, e, hge, hh, _⟩
    · cases e
    · cases e
      intro g2 e2 e3
      subst e3
      have : g' = g2 := by simpa [Value.ownBlock] using e2
      subst this
      rw [hrow] at hh
      have := Option.some.inj hh
      injection this with _ h3
      exact absurd h3 (by decide)
  refine ⟨?_, h.len, hmap.kept (row := some g) ⟨hO.os, hO.tape, hO.output, hO.size, fun j hj hs => hO.block j hj (fun e => hs (by rw [e]))⟩ (by simp; exact h.ne.symm), ?_, h.gB, h.bB⟩
  · rw [heap_setCell_same w1 g 16 _ 82 _ hrow]
    refine cellsSet ?_
    rw [List.set_append_right _ _ (by simp [intv_length, h.len])]
    congr 1
    simp [intv_length, h.len]
  · have e : (so ++ [(f, r)]).length = so.length + 1 := by simp
    rw [e]
    refine ⟨by simp [ordI], ?_⟩
    have e2 : ordI (so ++ [(f, r)]) = ordI so ++ [(f : Int)] := by simp [ordI]
    rw [e2]
    refine ho.2.kept (row := some g) ⟨hO.os, hO.tape, hO.output, hO.size, fun j hj hs => hO.block j hj (fun e => hs (by rw [e]))⟩ ?_
    cases oa' with
    | none => exact .inl rfl
    | some a => exact .inr (fun e2 => hne g e2 rfl)

theorem DeskAt.keepsM {w' : World} (h : DeskAt B w g bm oa oc c0 c1 c2 known mo so clash) (hO : Only (fun b => b = bm) w w') : KeepsT g w w' := fun k _ _ _ h1 _ _ => by
  refine (hO.block k (Array.getElem?_eq_some_iff.1 h1).1 ?_).trans h1
  intro e
  have e' : k = bm := e
  subst e'
  obtain ⟨es, clock, h2, _⟩ := h.map
  rw [h2] at h1
  cases h1

theorem DeskAt.keepsO {w1 : World} (h : DeskAt B w g bm oa oc c0 c1 c2 known mo so clash) (hg : w.grownBy w1 (Value.ownBlock (.slice oa so.length oc))) : KeepsT g w w1 := fun k cs t fr h1 h2 _ => by
  refine (hg.block k (Array.getElem?_eq_some_iff.1 h1).1 ?_).trans h1
  have h3 := h.ord.2.2
  generalize so.length = n at h3 ⊢
  rcases h3 with ⟨e, _⟩ | ⟨g', c, cur, e, hge, hh, _⟩
  · cases e; intro h; cases h
  · cases e
    intro e2
    have : g' = k := by simpa [Value.ownBlock] using e2.symm
    subst this
    rw [h1] at hh
    have := Option.some.inj hh
    injection this with _ h4
    exact h2 h4

/-- the append of a desk's order, and its store, in one -/
theorem DeskAt.arm {w0 w1 w' : World} {oa' : Option Addr} {oc' : Nat} {f : Nat} (h : DeskAt w0.heap.size w g bm oa oc c0 c1 c2 known mo so clash) (hB : Below w0.heap.size w0 w) (h1 : Below w.heap.size w w1) (hg : w1.grownBy w' (Value.ownBlock (.slice oa so.length oc)))
    (hB' : Below w0.heap.size w1 w') (ho : OwnI w0.heap.size w' oa' (so.length + 1) oc' (ordI so ++ [(f : Int)])) (r : Nat) :
    w'.cell? ⟨g, 16, none⟩ = some (.slice oa so.length oc) ∧ w'.frozen? ⟨g, 16, none⟩ = false ∧ DeskAt w0.heap.size (w'.setCell ⟨g, 16, none⟩ (.slice oa' (so.length + 1) oc')) g bm oa' oc' c0 c1 c2 known mo (so ++ [(f, r)]) clash ∧
      Below w0.heap.size w0 (w'.setCell ⟨g, 16, none⟩ (.slice oa' (so.length + 1) oc')) ∧ KeepsT g w (w'.setCell ⟨g, 16, none⟩ (.slice oa' (so.length + 1) oc')) := by
  have hk := h.kept h1
  have hrow := (hg.block g hk.size hk.oneO.symm).trans hk.row
  refine ⟨?_, frozen_of_row _ _ _ _ _ hrow, hk.ordered ho hg, ((hB.trans (h1.mono hB.size)).trans hB').setCell h.gB _, ((KeepsT.below h1).trans (hk.keepsO hg)).trans (KeepsT.setCell g w' 16 _)⟩
  rw [cell_of_row _ _ _ _ _ _ hrow, ← hk.kO, cell_of_row _ _ _ _ _ _ hk.row]
end

end Go.Proofs.Ytkioejdddmnbmaa

namespace Go.Proofs.Ytkioejdddmnbmaa
open Go.RowKit Go.Shelf
attribute [local go_sem ↓] wp_get wp_get0 wp_getS wp78 wps78 wpa78

theorem zeros_set {l : List Int} {n : Nat} (hn : n < l.length) (h : nth l n = 0) : (l.set n 1).count 0 + 1 = l.count 0 := by
  have hp : 0 < l.count 0 := List.count_pos_iff.2 (by rw [← h]; exact nth_mem hn)
  rw [nth_eq hn] at h
  rw [List.count_set hn, h]
  simp
  omega

def LSt.fits (s : LSt) : Prop := s.ord.length + s.known.count 0 ≤ 12 ∧ s.known.length = 12

theorem learn1_fits {rs : List Rl} {s : LSt} (i : Nat) (h : s.fits) (hr : (nthR rs i).2 < 12) : (learn1 rs s i).fits := by
  unfold learn1
  split
  · split
    · split
      · exact h
      · exact h
    · split
      · rename_i h0 h1
        obtain ⟨a, b⟩ := h
        have := zeros_set (l := s.known) (n := (nthR rs i).2.toNat) (by omega) h1
        exact ⟨by simp; omega, by simp [b]⟩
      · exact h
  · exact h

theorem learnTo_fits {rs : List Rl} {s : LSt} (h : s.fits) (hr : rulesOk rs) : ∀ k, k ≤ rs.length → (learnTo rs s k).fits
  | 0, _ => h
  | k + 1, hk => learn1_fits k (learnTo_fits h hr k (by omega)) (hr k (by omega)).2.2.2

def LearnP (w0 w : World) (g bm : Nat) (c0 c1 c2 : Value) (s : LSt) (e : Ending) (w' : World) : Prop :=
  ∃ oa oc, e = .returned (.tuple #[]) ∧ DeskAt w0.heap.size w' g bm oa oc c0 c1 c2 s.known s.ord s.ord s.clash ∧ Below w0.heap.size w0 w' ∧ KeepsT g w w'

set_option maxRecDepth 100000 in
set_option maxHeartbeats 4000000 in
theorem learn_c (w0 w : World) (g bm : Nat) (oa : Option Addr) (oc : Nat) (c0 c1 : Value) (ra : Option Addr) (rc : Nat) (rs : List Rl) (s : LSt) (hr : RulesAt w0 ra rs) (hro : rulesOk rs) (hrl : rs.length ≤ 1000000) (hfit : s.fits)
    (hB : Below w0.heap.size w0 w) (hd : DeskAt w0.heap.size w g bm oa oc c0 c1 (.slice ra rs.length rc) s.known s.ord s.ord s.clash) :
    Calls Try.prog 93 #[.pointer (some ⟨g, 0, none⟩)] w (LearnP w0 w g bm c0 c1 (.slice ra rs.length rc) (learnTo rs s rs.length)) := by
  have Hr := hid hr; have Hro := hid hro; have Hfit := hid hfit; have Hd := hid hd; have HB := hid hB
  clear hr hro hfit hB
  go_enter Try.func93, Try.ntmps93
  have q2 := hd.k2
  clear hd
  go_wp2
  go_step3
  go_wp2
  go_step3
  go_wp2
  clear q2
  go_loopw [10] (fun i wr => ∃ (k : Nat) (oa' : Option Addr) (oc' : Nat), k ≤ rs.length ∧ i = .int .i64 k ∧ DeskAt w0.heap.size wr g bm oa' oc' c0 c1 (.slice ra rs.length rc) (learnTo rs s k).known (learnTo rs s k).ord (learnTo rs s k).ord (learnTo rs s k).clash ∧ Below w0.heap.size w0 wr ∧ KeepsT g w wr) (fun i _ => rs.length - (intOf i).toNat)
  case atStart => exact ⟨0, oa, oc, Nat.zero_le _, rfl, Hd.out, HB.out, KeepsT.refl _ _⟩
  case round =>
    obtain ⟨k, oa', oc', hk, rfl, hdk, hBk, hKk⟩ := hrel
    obtain ⟨wo, rfl⟩ : ∃ wo : World, wo = wr := ⟨_, rfl⟩
    have Hdk := hid hdk; have HBk := hid hBk; have HKk := hid hKk
    clear hdk hBk hKk
    by_cases hlt : k < rs.length
    · have hfk := learnTo_fits Hfit.out Hro.out k hk
      have hstep0 : learnTo rs s (k + 1) = learn1 rs (learnTo rs s k) k := rfl
      unfold learn1 at hstep0
      obtain ⟨known, hkn⟩ : ∃ x, x = (learnTo rs s k).known := ⟨_, rfl⟩
      obtain ⟨ord, hor⟩ : ∃ x, x = (learnTo rs s k).ord := ⟨_, rfl⟩
      obtain ⟨cl, hcl⟩ : ∃ x, x = (learnTo rs s k).clash := ⟨_, rfl⟩
      have hs : learnTo rs s k = ⟨known, ord, cl⟩ := by rw [hkn, hor, hcl]
      rw [← hkn, ← hor, ← hcl] at Hdk
      rw [hs] at hstep0 hfk
      have hstep : learnTo rs s (k + 1) = if hasM known (nthR rs k).1 = true then (if (nthR rs k).2 < 0 then (if cl < 0 then ⟨known, ord, k⟩ else ⟨known, ord, cl⟩) else if nth known (nthR rs k).2.toNat = 0 then ⟨known.set (nthR rs k).2.toNat 1, ord ++ [((nthR rs k).2.toNat, k)], cl⟩ else ⟨known, ord, cl⟩) else ⟨known, ord, cl⟩ := hstep0
      clear hkn hor hcl hstep0
      obtain ⟨ho12, hk12⟩ := hfk
      have ho12 : ord.length + known.count 0 ≤ 12 := ho12
      have hk12 : known.length = 12 := hk12
      obtain ⟨hf1, hf2, hf3, hf4⟩ := Hro.out k hlt
      obtain ⟨b, off, a, c, rfl, hra⟩ := (Hr.out.mono HBk.out).at hlt
      have Hhas := hid fun (w' : World) (hb : Below wo.heap.size wo w') => has_c a c known (nthR rs k).1 w' (hra.at'.mono hb) hf2 hk12 hf1
      have q0 := hra.cI
      have q1 := hra.cT
      obtain ⟨th, hth⟩ : ∃ t, t = (nthR rs k).2 := ⟨_, rfl⟩
      obtain ⟨n, hn⟩ : ∃ n, n = (nthR rs k).1.length := ⟨_, rfl⟩
      obtain ⟨hv, hhv⟩ : ∃ v, v = hasM known (nthR rs k).1 := ⟨_, rfl⟩
      rw [← hth] at hstep q1 hf3 hf4
      rw [← hn] at q0 Hhas
      rw [← hhv] at hstep Hhas
      obtain ⟨V, hV⟩ : ∃ V, V = (intv known).toArray := ⟨_, rfl⟩
      rw [← hV] at Hhas
      have HV := hid hV
      have Hstep := hid hstep
      have Hs := hid hs
      obtain ⟨W1, hW1⟩ : ∃ W1, W1 = wo.alloc (.cells #[.slice a n c, .int .i64 th] 60) := ⟨_, rfl⟩
      have hBo : Below wo.heap.size wo W1 := by rw [hW1]; exact bnew wo _
      have HB1 := hid (bstep HBk.out hBo)
      have HK1 := hid (HKk.out.trans (KeepsT.below hBo))
      have Hd1 := hid (Hdk.out.kept hBo)
      have o1 := Hd1.out.ok; have p1 := Hd1.out.part
      have t0 : W1.cell? ⟨wo.heap.size, 0, none⟩ = some (.slice a n c) := by rw [hW1]; simp [go_sem]
      have t1 : W1.cell? ⟨wo.heap.size, 1, none⟩ = some (.int .i64 th) := by rw [hW1]; simp [go_sem]
      have HH := hid fun (w' : World) (hb : Below W1.heap.size W1 w') => Hhas.out w' (bstep hBo hb)
      rw [← HV.out] at p1
      have HW1 := hid hW1
      have hgn : g ≠ wo.heap.size := by have := Hdk.out.size; omega
      have Hgn := hid hgn
      have hg0 : w0.heap.size ≤ wo.heap.size := HBk.out.size
      clear hstep hra hth hn hhv hV hs hf1 hf2 Hhas hBo hW1 hgn
      go_upto_region 3 with (fail)
      rw [← HW1.out]
      go_cut [22] (fun s wc => s = .bool (!hv) ∧ Below W1.heap.size W1 wc)
      case first =>
        go_region_with ((go_at_call 73; (with_reducible refine (HH.out _ (by first | exact Below.refl _ _ | exact (Below.refl _ _).drew)).mono ?_); rintro e w3 ⟨rfl, hB⟩; have hBl : Below W1.heap.size W1 w3 := by first | exact hB | exact ((Below.refl _ _).drew).trans hB))
        all_goals (go_wp2; go_meet; exact ⟨rfl, by assumption⟩)
      case rest =>
        obtain ⟨rfl, hB⟩ := hcut
        have HB2 := hid (bstep HB1.out hB)
        have HK2 := hid (HK1.out.trans (KeepsT.below hB))
        have Hd2 := hid (Hd1.out.kept hB)
        have u1 := cstep t1 hB
        have hsz : W1.heap.size ≤ wc.heap.size := hB.size
        clear hB o1 p1 t0 t1 HH
        cases hv with
        | false =>
          go_wp2
          go_roundw
          case rel => exact ⟨k + 1, oa', oc', by omega, by go_num, by rw [Hstep.out]; exact Hd2.out, HB2.out, HK2.out⟩
          case measure => simp [intOf]; omega
        | true =>
          by_cases hth0 : th < 0
          · have kc := Hd2.out.kC
            have fr := Hd2.out.fr 17
            by_cases hcl0 : cl < 0
            · have Hstep2 := hid (Hstep.out.trans (by rw [if_pos rfl, if_pos hth0, if_pos hcl0]))
              clear Hstep
              go_wp2
              have hd3 := Hd2.out.clashed (k : Int)
              go_roundw
              case rel => exact ⟨k + 1, oa', oc', by omega, by go_num, by rw [Hstep2.out]; exact hd3, HB2.out.setCell Hd2.out.gB _, HK2.out.trans (KeepsT.setCell _ _ _ _)⟩
              case measure => simp [intOf]; omega
            · have Hstep2 := hid (Hstep.out.trans (by rw [if_pos rfl, if_pos hth0, if_neg hcl0]))
              clear Hstep
              have hdb : decide (0 ≤ th) = false := decide_eq_false (by omega)
              go_wp2
              go_quiet (fail)
              go_wp2
              go_roundw
              case rel => exact ⟨k + 1, oa', oc', by omega, by go_num, by rw [Hstep2.out]; exact Hd2.out.kept (below_drewN (Below.refl _ _) _), below_drewN HB2.out _, HK2.out⟩
              case measure => simp [intOf]; omega
          · obtain ⟨t, rfl⟩ := Int.eq_ofNat_of_zero_le (show 0 ≤ th by omega)
            have ht12 : t < 12 := by omega
            have kt := Hd2.out.kK ht12
            have hdb : decide ((0:Int) ≤ (t : Int)) = true := decide_eq_true (by omega)
            by_cases hz : nth known t = 0
            · have Hstep2 := hid (Hstep.out.trans (by rw [if_pos rfl, if_neg hth0, Int.toNat_natCast, if_pos hz]))
              rw [hz] at kt
              have Hz := hid hz
              clear Hstep hz
              go_wp2
              go_quiet (fail)
              go_wp2
              have frt := Hd2.out.fr (3 + t)
              clear kt
              have Hkk := hid (Hstep2)
              go_upto_region 7 with (fail)
              go_cut [] (fun wd => DeskAt w0.heap.size wd g bm oa' oc' c0 c1 (.slice (some ⟨b, off, none⟩) rs.length rc) (known.set t 1) ord ord cl ∧ wd.cell? ⟨wo.heap.size, 1, none⟩ = some (.int .i64 t) ∧ Below w0.heap.size w0 wd ∧ KeepsT g w wd)
              case first =>
                have kt := Hd2.out.kK ht12
                go_region
                go_wp2
                go_meet
                refine ⟨(Hd2.out.kept (below_drewN (Below.refl _ _) _)).mark ht12, ?_, (below_drewN HB2.out _).setCell (by have := Hd2.out.gB; exact this) _, HK2.out.trans (KeepsT.setCell g (wc.drewN _) _ _)⟩
                exact (setCell_only (w := wc.drewN _) g (3 + t) (.int .i64 1)).cell u1 (by show ¬ wo.heap.size = g; have := Hgn.out; omega)
              case rest =>
                obtain ⟨hd3, u3', hB3, hK3⟩ := hcut
                have Hd3 := hid hd3; have HB3 := hid hB3; have HK3 := hid hK3
                clear hd3 hB3 frt u1
                have km := Hd3.out.kM
                obtain ⟨wd, rfl⟩ : ∃ wd : World, wd = wc := ⟨_, rfl⟩
                go_upto_region 8 with (fail)
                go_cut [] (fun we => DeskAt w0.heap.size we g bm oa' oc' c0 c1 (.slice (some ⟨b, off, none⟩) rs.length rc) (known.set t 1) (ord ++ [(t, k)]) ord cl ∧ we.cell? ⟨wo.heap.size, 1, none⟩ = some (.int .i64 t) ∧ Below w0.heap.size w0 we ∧ KeepsT g w we)
                case first =>
                  go_still_tail 8, (by kernel_rfl)
                  change wpList _ _ _ _ _ wd.drew
                  have hd4 := Hd3.out.kept (w' := wd.drew) (Below.refl _ _).drew
                  have hlen : ord.length < 1000 := by omega
                  refine Go.wpList_mapUpdate_own wd.drew rfl _ _ _ 80 rfl 107 3 keyed107 Try.underlying80 (plainElem Try.prog 3) bm ord.length (MD ord) rfl hd4.map ?hn _ _ (factKey t) rfl rfl (keyOf_fact ht12) (.lit (.int .i64 k)) [] ?hv ?K2
                  case hn => unfold maxLen; omega
                  case hv => exact plainElem_int Try.underlying3 (by have h := Go.RowKit.wrap64_wf (k : Int); rwa [show Go.RowKit.wrap64 (k : Int) = k from by unfold Go.RowKit.wrap64; omega] at h)
                  case K2 =>
                    intro w1 hown1 hgr1
                    have ho1 : Only (fun b => b = bm) wd.drew w1 := ⟨hgr1.os, hgr1.tape, hgr1.output, hgr1.size, fun j hj hs => hgr1.block j hj (fun e => hs (by cases e; rfl))⟩
                    have hd5 := hd4.mapped hown1 ho1
                    have hb1 : Below w0.heap.size w0 w1 := HB3.out.drew.trans (ho1.below HB3.out.size (by intro j hj e; have e' : j = bm := e; have := hd4.bB; omega))
                    refine wpList_nil ?_
                    go_wp2
                    go_meet
                    exact ⟨hd5, ho1.cell (show wd.drew.cell? ⟨wo.heap.size, 1, none⟩ = _ from u3') (by show ¬ wo.heap.size = bm; have := Hdk.out.map.lt; omega), hb1, HK3.out.trans (show KeepsT g wd w1 from DeskAt.keepsM (w := wd.drew) hd4 ho1)⟩
                case rest =>
                  obtain ⟨hd4, u4, hB4, hK4⟩ := hcut
                  have Hd4 := hid hd4; have HB4 := hid hB4; have HK4 := hid hK4
                  obtain ⟨we, rfl⟩ : ∃ we : World, we = wc := ⟨_, rfl⟩
                  have ko := hd4.kO
                  have fro := hd4.fr 16
                  have hgs := hd4.size
                  have Ko := hid ko; have Fro := hid fro
                  clear hd4 hB4 km
                  have hlen : ord.length ≤ 1000000 := by omega
                  have hnewb := fun (v : Obj) => bnew we v
                  have hd5 := fun (v : Obj) => Hd4.out.kept (bnew we v)
                  clear hd5 hnewb
                  go_wp2_with fail
                  go_region_law ((refine step_app_own _ (by rfl) _ _ (by rfl) w0.heap.size oa' ord.length oc' (ordI ord) (by rfl) (by exact Hd4.out.ord.alloc _) _ (t : Int) (by rfl) (by simp [go_sem]) (by omega) (by have := HB4.out.size; simp; omega) ?_; intro b' cap' w' hB' hb' hown' hgr'; have hA := Hd4.out.arm HB4.out (by first | with_reducible exact bnew we _ | with_reducible exact (bnew we _).drew | with_reducible exact Below.refl _ _ | with_reducible exact (Below.refl _ _).drew) hgr' hB' hown' k; obtain ⟨hA1, hA2, hA3, hA4, hA5⟩ := hA))
                  all_goals (
                    go_wp2
                    go_roundw
                    case rel => exact ⟨k + 1, _, _, by omega, by go_num, by rw [Hstep2.out]; exact hA3, hA4, HK4.out.trans hA5⟩
                    case measure => simp [intOf]; omega)
            · have Hstep2 := hid (Hstep.out.trans (by rw [if_pos rfl, if_neg hth0, Int.toNat_natCast, if_neg hz]))
              have hzb : (nth known t == 0) = false := by simpa using hz
              have Hz := hid hz
              clear Hstep hz
              go_wp2
              go_quiet (fail)
              go_wp2
              go_roundw
              case rel => exact ⟨k + 1, oa', oc', by omega, by go_num, by rw [Hstep2.out]; exact Hd2.out.kept (below_drewN (Below.refl _ _) _), below_drewN HB2.out _, HK2.out⟩
              case measure => simp [intOf]; omega
    · obtain rfl : k = rs.length := by omega
      go_wp2
      rw [Exit.noGoto_normal]
      refine bodyPost_end (results_none rfl _ _ _) rfl ?_
      exact ⟨oa', oc', rfl, Hdk.out, HBk.out, HKk.out⟩

end Go.Proofs.Ytkioejdddmnbmaa

namespace Go.Proofs.Ytkioejdddmnbmaa
open Go.RowKit Go.Shelf
attribute [local go_sem ↓] wp_get wp_get0 wp_getS wp78 wps78 wpa78

/-- marks are 0 or 1 -/
def marksOk (l : List Int) : Prop := ∀ k, nth l k = 0 ∨ nth l k = 1
theorem nth_set (l : List Int) (n : Nat) (v : Int) (k : Nat) : nth (l.set n v) k = if k = n ∧ n < l.length then v else nth l k := by
  unfold nth
  rw [List.getD_eq_getElem?_getD, List.getD_eq_getElem?_getD, List.getElem?_set]
  by_cases h : n = k
  · subst h
    by_cases h2 : n < l.length
    · rw [if_pos rfl, if_pos h2, if_pos ⟨rfl, h2⟩]; rfl
    · rw [if_pos rfl, if_neg h2, if_neg (fun h => h2 h.2), List.getElem?_eq_none (by omega)]
  · rw [if_neg h, if_neg (fun h2 => h h2.1.symm)]
theorem marksOk.set {l : List Int} (h : marksOk l) (n : Nat) : marksOk (l.set n 1) := fun k => by
  rw [nth_set]; split
  · exact .inr rfl
  · exact h k
theorem markTo_ok (l : List Int) : ∀ k, marksOk (markTo l k)
  | 0 => fun k => by left; unfold nth markTo; rw [List.getD_eq_getElem?_getD, List.getElem?_replicate]; split <;> rfl
  | k + 1 => (markTo_ok l k).set _
theorem markL_ok (l : List Int) : marksOk (markL l) := markTo_ok l _

theorem learn1_ok {rs : List Rl} {s : LSt} (i : Nat) (h : marksOk s.known) : marksOk (learn1 rs s i).known := by
  unfold learn1
  split
  · split
    · split
      · exact h
      · exact h
    · split
      · exact h.set _
      · exact h
  · exact h
theorem learnTo_ok {rs : List Rl} {s : LSt} (h : marksOk s.known) : ∀ k, marksOk (learnTo rs s k).known
  | 0 => h
  | k + 1 => learn1_ok k (learnTo_ok h k)

theorem bit_wf {n : Int} (h : n = 0 ∨ n = 1) : (Lit.int .i64 n).wf = true := by rcases h with rfl | rfl <;> decide
theorem keyLits3b (d : Nat) {n : Int} (h : n = 0 ∨ n = 1) : Try.prog.keyLits (d + 1) 3 [.int .i64 n] = some [.int .i64 n] := by
  simp [Program.keyLits, Try.underlying3, bit_wf h]
def stLits (s : List Int) : List Lit := s.map (Lit.int .i64)
theorem mapM_some {α β : Type} (f : α → Option β) (g : α → β) : ∀ (l : List α), (∀ x ∈ l, f x = some (g x)) → l.mapM f = some (l.map g)
  | [], _ => rfl
  | x :: l, h => by
    rw [List.mapM_cons, h x (by simp), mapM_some f g l (fun y hy => h y (by simp [hy]))]
    rfl
theorem flat_nth (s : List Int) : ((List.range s.length).map fun i => [Lit.int .i64 (nth s i)]).flatten = stLits s := by
  unfold stLits
  rw [← List.flatMap_def]
  have hfm : ∀ l : List Nat, (l.flatMap fun i => [Lit.int .i64 (nth s i)]) = l.map fun i => Lit.int .i64 (nth s i) := by
    intro l
    induction l with
    | nil => rfl
    | cons x l ih => rw [List.flatMap_cons, ih]; rfl
  rw [hfm]
  apply List.ext_getElem (by simp)
  intro i h1 h2
  simp at h1
  simp [nth_eq h1]
theorem cells78 : Try.prog.cellsOf 78 = 12 := by kernel_rfl
theorem keyLits78 (d : Nat) {s : List Int} (hs : s.length = 12) (hb : marksOk s) : Try.prog.keyLits (d + 2) 78 (intv s) = some (stLits s) := by
  have e : Try.prog.keyLits (d + 2) 78 (intv s) = (if (intv s).length = Try.prog.cellsOf 78 then ((List.range 12).mapM fun i => Try.prog.keyLits (d + 1) 3 (((intv s).drop (i * Try.prog.cellsOf 3)).take (Try.prog.cellsOf 3))).map List.flatten else none) := by
    conv => lhs; unfold Program.keyLits
    rw [Try.underlying78]
  rw [e, cells78, cells3, if_pos (by rw [intv_length, hs])]
  rw [mapM_some _ (fun i => [Lit.int .i64 (nth s i)]) _ (fun i hi => by
    have hi2 : i < s.length := by rw [hs]; exact List.mem_range.1 hi
    rw [Nat.mul_one]
    have e2 : ((intv s).drop i).take 1 = [.int .i64 (nth s i)] := by
      unfold intv
      rw [← List.map_drop, ← List.map_take, List.drop_eq_getElem_cons hi2, nth_eq hi2]
      rfl
    rw [e2]
    exact keyLits3b d (hb i))]
  have := flat_nth s
  rw [hs] at this
  rw [Option.map_some, this]
theorem key78 : Try.prog.keyTypeAt 2 78 = true := by kernel_rfl
theorem keyTypeAll78 : Try.prog.keyType 78 = true := by kernel_rfl
theorem wide78 : (match Try.prog.underlying 78 with | some (.array _ _) | some (.struct _) => true | _ => false) = true := by rw [Try.underlying78]
theorem keyOf_marks {s : List Int} (hs : s.length = 12) (hb : marksOk s) : keyOf Try.prog 78 (.agg (intv s).toArray) = some (.string (keyBytes (stLits s))) := by
  unfold keyOf
  rw [Try.underlying78]
  have hf : (Value.agg (intv s).toArray).formed Try.prog 78 = true := by
    simp [Value.formed, Try.underlying78, cells78, intv_length, hs]
  have hn : ∃ n, Try.prog.types.size + 1 = n + 2 := ⟨Try.prog.types.size - 1, by
    have : 2 ≤ Try.prog.types.size := of_decide_eq_true (by kernel_rfl)
    omega⟩
  obtain ⟨n, hn⟩ := hn
  rw [keyTypeAll78, hf, hn]
  have h := keyLits78 n hs hb
  simp [Value.cells, h]
theorem marks_key_inj {s t : List Int} (hs : s.length = 12) (ht : t.length = 12) (hb : marksOk s) (hc : marksOk t) (h : keyBytes (stLits s) = keyBytes (stLits t)) : s = t := by
  have := keyLits_inj (keyLits78 0 hs hb) (keyLits78 0 ht hc) h
  unfold stLits at this
  exact (List.map_inj_right (fun x y e => by cases e; rfl)).1 this
set_option maxRecDepth 100000 in
theorem eql78 {s t : List Int} (hs : s.length = 12) (ht : t.length = 12) (hb : marksOk s) (hc : marksOk t) (w : World) :
    (binOp .eql 78 (.agg (intv s).toArray) (.agg (intv t).toArray)).run Try.prog w = .ok (.bool (decide (s = t))) w := by
  obtain ⟨r, hr, hiff⟩ := run_equal_deep w (m := 2) (by omega) key78 wide78 (keyOf_marks hs hb) (keyOf_marks ht hc)
  have e : r = decide (s = t) := by
    rw [Bool.eq_iff_iff, hiff, decide_eq_true_iff]
    exact ⟨fun h => marks_key_inj hs ht hb hc (Lit.string.inj h), fun h => by rw [h]⟩
  rw [run_eql_struct]
  rw [Op.equal, Op.maxDepth] at hr
  rw [hr, e]
  rfl

def isZeroV : Value → Bool
  | .int .i64 0 => true
  | _ => false
theorem zeros_intv : ∀ l : List Int, (intv l).countP isZeroV = l.count 0
  | [] => rfl
  | x :: l => by
    have h := zeros_intv l
    unfold intv at h ⊢
    rw [List.map_cons, List.countP_cons, h, List.count_cons]
    congr 1
    by_cases hx : x = 0
    · subst hx; rfl
    · have h1 : isZeroV (.int .i64 x) = false := by unfold isZeroV; split <;> simp_all
      rw [h1]; simp [hx]

theorem learn1_zeros {rs : List Rl} {s : LSt} (i : Nat) (hl : s.known.length = 12) (hr : (nthR rs i).2 < 12) : (learn1 rs s i).known = s.known ∨ (learn1 rs s i).known.count 0 < s.known.count 0 := by
  unfold learn1
  split
  · split
    · split
      · exact .inl rfl
      · exact .inl rfl
    · split
      · rename_i h0 h1
        have := zeros_set (l := s.known) (n := (nthR rs i).2.toNat) (by omega) h1
        right
        show (s.known.set _ 1).count 0 < _
        omega
      · exact .inl rfl
  · exact .inl rfl
theorem learn1_len {rs : List Rl} {s : LSt} (i : Nat) : (learn1 rs s i).known.length = s.known.length := by
  unfold learn1
  split
  · split
    · split <;> rfl
    · split
      · simp
      · rfl
  · rfl
theorem learnTo_len {rs : List Rl} {s : LSt} : ∀ k, (learnTo rs s k).known.length = s.known.length
  | 0 => rfl
  | k + 1 => (learn1_len k).trans (learnTo_len k)
theorem learnTo_zeros {rs : List Rl} {s : LSt} (hl : s.known.length = 12) (hr : rulesOk rs) : ∀ k, k ≤ rs.length → (learnTo rs s k).known = s.known ∨ (learnTo rs s k).known.count 0 < s.known.count 0
  | 0, _ => .inl rfl
  | k + 1, hk => by
    have h1 := learnTo_zeros hl hr k (by omega)
    have h2 := learn1_zeros (rs := rs) (s := learnTo rs s k) k ((learnTo_len k).trans hl) (hr k (by omega)).2.2.2
    rw [learnTo]
    rcases h1 with h1 | h1 <;> rcases h2 with h2 | h2
    · exact .inl (h2.trans h1)
    · right; rw [h1] at h2; exact h2
    · right; rw [h2]; exact h1
    · right; omega

/-- newDesk's rounds -/
def runL (rs : List Rl) (s : LSt) : Nat → LSt
  | 0 => s
  | n + 1 => if s.known = (learnTo rs s rs.length).known then learnTo rs s rs.length else runL rs (learnTo rs s rs.length) n
def deskOf (seen : List Int) (rs : List Rl) : LSt := runL rs ⟨markL seen, [], -1⟩ 13

def DeskP (w : World) (c0 c1 c2 : Value) (s : LSt) (e : Ending) (w' : World) : Prop :=
  ∃ g bm oa oc, e = .returned (.pointer (some ⟨g, 0, none⟩)) ∧ DeskAt w.heap.size w' g bm oa oc c0 c1 c2 s.known s.ord s.ord s.clash ∧ Below w.heap.size w w'

theorem mm80 (w : World) : (Instr.makeMap 80 none).run Try.prog w = .ok (.map (some w.heap.size)) (w.alloc (.map #[] 0)) := run_makeMap 80 w
theorem armC {C : World → Prop} {W0 w1 w3 : World} (h : ∀ w', Below W0.heap.size W0 w' → C w') (hB : Below w1.heap.size w1 w3) (h0 : Below W0.heap.size W0 w1) : C w3 ∧ Below W0.heap.size W0 w3 := ⟨h _ (bstep h0 hB), bstep h0 hB⟩

theorem list12 {l : List Int} (h : l.length = 12) : ∃ m0 m1 m2 m3 m4 m5 m6 m7 m8 m9 m10 m11, l = [m0, m1, m2, m3, m4, m5, m6, m7, m8, m9, m10, m11] := by
  match l, h with
  | [m0, m1, m2, m3, m4, m5, m6, m7, m8, m9, m10, m11], _ => exact ⟨m0, m1, m2, m3, m4, m5, m6, m7, m8, m9, m10, m11, rfl⟩

theorem deskNew {B : Nat} {wm wz : World} {bm g : Nat} {c0 c1 c2 : Value} (m : List Int) (hg : g = wz.heap.size) (hl : m.length = 12) (hb : bm = wm.heap.size) (hB : B ≤ wm.heap.size) (hz : Below (wm.alloc (.map #[] 0)).heap.size (wm.alloc (.map #[] 0)) wz) :
    DeskAt B (wz.alloc (.cells ([c0, c1, c2] ++ intv m ++ [Value.map (some bm), .slice none 0 0, .int .i64 (-1)]).toArray 82)) g bm none 0 c0 c1 c2 m [] [] (-1) := by
  subst hb
  subst hg
  have h1 := World.ownsMap_made (H := Unit) wm Try.prog 107 (plainElem Try.prog 3)
  have hsz := hz.size
  have hsz2 : (wm.alloc (.map #[] 0)).heap.size = wm.heap.size + 1 := by simp
  have h2 := h1.kept (row := none) ⟨hz.os, hz.tape, hz.output, hz.size, fun j hj _ => hz.block j hj⟩ (by simp)
  have hn := bnew wz (.cells ([c0, c1, c2] ++ intv m ++ [Value.map (some wm.heap.size), .slice none 0 0, .int .i64 (-1)]).toArray 82)
  exact ⟨heap_alloc_new wz _, hl, h2.kept (row := none) ⟨hn.os, hn.tape, hn.output, hn.size, fun j hj _ => hn.block j hj⟩ (by simp), OwnI.nil _ _, by omega, hB⟩

attribute [local go_sem] mm80 in
set_option maxRecDepth 100000 in
set_option maxHeartbeats 4000000 in
theorem newDesk_c (facts : Int) (sa : Option Addr) (sc : Nat) (seen : List Int) (ra : Option Addr) (rc : Nat) (rs : List Rl) (w : World) (hs : IntsAt w sa seen) (hsl : seen.length ≤ 1000000) (hsf : factsOk seen) (hr : RulesAt w ra rs) (hro : rulesOk rs) (hrl : rs.length ≤ 1000000) :
    Calls Try.prog 70 #[.agg #[.int .i64 facts, .slice sa seen.length sc, .slice ra rs.length rc]] w (DeskP w (.int .i64 facts) (.slice sa seen.length sc) (.slice ra rs.length rc) (deskOf seen rs)) := by
  obtain ⟨W0, hW0⟩ : ∃ W0, W0 = w.alloc (.cells #[.int .i64 facts, .slice sa seen.length sc, .slice ra rs.length rc] 25) := ⟨_, rfl⟩
  have HB0 := hid (show Below w.heap.size w W0 by rw [hW0]; exact bnew w _)
  obtain ⟨c0, c1, c2⟩ := caseBox w facts sa ra seen.length sc rs.length rc
  rw [← hW0] at c0 c1 c2
  have HM := hid fun (w' : World) (h : Below W0.heap.size W0 w') => marked_c sa sc seen w' (hs.mono (bstep HB0.out h)) hsl hsf
  have HR := hid hr; have Hro := hid hro
  have HC := hid fun (w' : World) (h : Below W0.heap.size W0 w') => (show w'.cell? ⟨w.heap.size, 0, none⟩ = some (.int .i64 facts) ∧ w'.cell? ⟨w.heap.size, 1, none⟩ = some (.slice sa seen.length sc) ∧ w'.cell? ⟨w.heap.size, 2, none⟩ = some (.slice ra rs.length rc) from ⟨cstep c0 h, cstep c1 h, cstep c2 h⟩)
  have HW := hid hW0
  obtain ⟨m0, m1, m2, m3, m4, m5, m6, m7, m8, m9, m10, m11, hm⟩ := list12 (markL_length seen)
  rw [hm] at HM
  have HM2 := hid fun (w' : World) (h : Below W0.heap.size W0 w') => (show Calls Try.prog 63 #[.slice sa seen.length sc] w' fun e w'_1 => e = .returned (.agg #[.int .i64 m0, .int .i64 m1, .int .i64 m2, .int .i64 m3, .int .i64 m4, .int .i64 m5, .int .i64 m6, .int .i64 m7, .int .i64 m8, .int .i64 m9, .int .i64 m10, .int .i64 m11]) ∧ Below w'.heap.size w' w'_1 from HM.out w' h)
  have Hm := hid hm
  clear hs hsf hr hro hW0 hm HM
  go_enter Try.func70, Try.ntmps70
  go_upto_region 1 with (fail)
  rw [← HW.out]
  have hsz0 : W0.heap.size = w.heap.size + 1 := by rw [HW.out]; simp
  have hsz1 : w.heap.size < W0.heap.size := by omega
  have hsz2 : ¬ w.heap.size = W0.heap.size := by omega
  go_cut [3] (fun s wc => ∃ g bm, s = .pointer (some ⟨g, 0, none⟩) ∧ DeskAt w.heap.size wc g bm none 0 (.int .i64 facts) (.slice sa seen.length sc) (.slice ra rs.length rc) (markL seen) [] [] (-1) ∧ Below w.heap.size w wc)
  case first =>
    go_region_with ((go_at_call 63; (with_reducible refine (HM2.out _ (by first | exact Below.refl _ _ | exact (Below.refl _ _).drew | exact bnew _ _ | exact (bnew _ _).drew)).mono ?_); rintro e w3 ⟨rfl, hB⟩; have hA := armC HC.out hB (by first | with_reducible exact Below.refl _ _ | with_reducible exact (Below.refl _ _).drew | with_reducible exact bnew _ _ | with_reducible exact (bnew _ _).drew); obtain ⟨⟨k0, k1, k2⟩, hB2⟩ := hA; have hz3 : w.heap.size < w3.heap.size := Nat.lt_of_lt_of_le hsz1 hB2.size; have hz4 : ¬ w.heap.size = w3.heap.size := Nat.ne_of_lt hz3))
    all_goals (
      go_wp2
      go_meet
      have hb3 : Below w.heap.size w w3 := bstep HB0.out hB2
      have hs3 : w.heap.size ≤ w3.heap.size := hb3.size
      first
      | exact ⟨_, w3.heap.size, rfl, by rw [Hm.out]; exact deskNew (wm := w3) [m0, m1, m2, m3, m4, m5, m6, m7, m8, m9, m10, m11] (by simp) rfl rfl hs3 (by first | with_reducible exact Below.refl _ _ | with_reducible exact (Below.refl _ _).drew), by first | with_reducible exact bstep hb3 (bstep (bnew _ _) (bnew _ _)) | with_reducible exact bstep hb3 (bstep (bnew _ _).drew (bnew _ _))⟩
      | exact ⟨_, w.heap.size + 1, rfl, by rw [Hm.out]; exact deskNew (wm := W0) [m0, m1, m2, m3, m4, m5, m6, m7, m8, m9, m10, m11] rfl rfl hsz0.symm HB0.out.size (by first | with_reducible exact hB | exact bstep (Below.refl _ _).drew hB), by first | with_reducible exact bstep hb3 (bnew _ _) | with_reducible exact bstep hb3 (Below.refl _ _).drew⟩)
  case rest =>
    obtain ⟨g, bm, rfl, hd, hB⟩ := hcut
    obtain ⟨w1, rfl⟩ : ∃ w1 : World, w1 = wc := ⟨_, rfl⟩
    have Hd := hid hd; have HB := hid hB
    clear hd hB HC HM2 c0 c1 c2 hsz0 hsz1 hsz2 HW HB0
    go_wp2
    go_loopw [4] (fun _ wr => ∃ (oa : Option Addr) (oc : Nat) (st : LSt) (f : Nat), DeskAt w.heap.size wr g bm oa oc (.int .i64 facts) (.slice sa seen.length sc) (.slice ra rs.length rc) st.known st.ord st.ord st.clash ∧ st.fits ∧ marksOk st.known ∧ st.known.count 0 < f ∧ runL rs st f = deskOf seen rs ∧ Below w.heap.size w wr)
      (fun _ wr => ((partAt wr g 3 12).toList.countP isZeroV))
    case atStart => exact ⟨none, 0, ⟨markL seen, [], -1⟩, 13, Hd.out, ⟨by have := List.count_le_length (a := (0 : Int)) (l := markL seen); rw [markL_length] at this; simpa using this, markL_length _⟩, markL_ok _, by have := List.count_le_length (a := (0 : Int)) (l := markL seen); rw [markL_length] at this; show (markL seen).count 0 < 13; omega, rfl, HB.out⟩
    case round =>
      obtain ⟨oa, oc, st, f, hdk, hfit, hmk, hzf, hrun, hBr⟩ := hrel
      obtain ⟨wo, rfl⟩ : ∃ wo : World, wo = wr := ⟨_, rfl⟩
      have hmeas : (partAt wo g 3 12).toList.countP isZeroV = st.known.count 0 := by rw [hdk.part]; exact zeros_intv _
      have o1 := hdk.ok; have p1 := hdk.part
      have Hdk := hid hdk; have Hfit := hid hfit; have Hmk := hid hmk; have Hrun := hid hrun; have HBr := hid hBr; have Hmeas := hid hmeas
      have hV2 : ((intv st.known).toArray.size == 12) = true := by simp [intv_length, hfit.2]
      have hV3 : (intv st.known).toArray.all (·.oneCell') = true := by simp only [List.all_toArray]; exact List.all_eq_true.2 (intv_one _)
      obtain ⟨V, hV⟩ : ∃ V, V = (intv st.known).toArray := ⟨_, rfl⟩
      rw [← hV] at p1 hV2 hV3
      have HV := hid hV
      clear hdk hfit hmk hrun hBr hmeas hV
      have hpo : partOk (wo.alloc (.cells zero78 78)) wo.heap.size 0 12 = true := partOk_of (heap_alloc_new wo _) (by simp [zero78, intv_length])
      have hfb : freeB (wo.alloc (.cells zero78 78)) wo.heap.size = true := freeB_of (heap_alloc_new wo _)
      have hVs : V.size = 12 := by simpa using hV2
      have hset : World.setPart (wo.alloc (.cells zero78 78)) wo.heap.size 0 V = wo.alloc (.cells V 78) := by
        unfold World.setPart
        rw [heap_alloc_new]
        simp only [List.take_zero, List.nil_append, Nat.zero_add, hVs]
        rw [setRow_alloc, List.drop_of_length_le (by simp [zero78, intv_length])]
        simp
      have HVs := hid hVs
      have Hset := hid hset
      clear hVs hset
      have hL := hid (learn_c w (wo.alloc (.cells V 78)) g bm oa oc (.int .i64 facts) (.slice sa seen.length sc) ra rc rs st HR.out Hro.out hrl Hfit.out (bstep HBr.out (bnew wo _)) (Hdk.out.kept (bnew wo _)))
      go_wp2_with fail
      rw [Hset.out]
      refine hL.out.mono ?_
      rintro e w2 ⟨oa2, oc2, rfl, hd2, hB2, hK2⟩
      have hrow : w2.heap[wo.heap.size]? = some (.cells V 78 (0, 0)) := hK2 wo.heap.size V 78 (0, 0) (heap_alloc_new wo _) (by decide) (by have := Hdk.out.size; omega)
      have hpo2 : partOk w2 wo.heap.size 0 12 = true := partOk_of hrow (by have := HVs.out; omega)
      have hpa2 : partAt w2 wo.heap.size 0 12 = V := by rw [partAt_of hrow, ← HVs.out, Nat.zero_add, Array.extract_size]
      have hfit2 := learnTo_fits Hfit.out Hro.out rs.length (Nat.le_refl _)
      have hmk2 := learnTo_ok (rs := rs) Hmk.out rs.length
      obtain ⟨st2, hst2⟩ : ∃ s, s = learnTo rs st rs.length := ⟨_, rfl⟩
      rw [← hst2] at hd2 hfit2 hmk2
      have o2 := hd2.ok; have p2 := hd2.part
      have heq := eql78 Hfit.out.2 hfit2.2 Hmk.out hmk2
      obtain ⟨V2, hV2e⟩ : ∃ V, V = (intv st2.known).toArray := ⟨_, rfl⟩
      rw [← hV2e, ← HV.out] at heq
      rw [← hV2e] at p2
      have HV2 := hid hV2e
      have Hst2 := hid hst2; have Hd2 := hid hd2; have HB2 := hid hB2; have Hfit2 := hid hfit2; have Hmk2 := hid hmk2
      clear hst2 hd2 hB2 hfit2 hmk2 hrow hpo hfb hV2 hV3 hV2e hK2 hL o1 p1
      by_cases hsame : st.known = st2.known
      · rw [decide_eq_true hsame] at heq
        have Hsame := hid hsame
        clear hsame
        go_wp2_with fail
        have hD : deskOf seen rs = st2 := by
          rw [← Hrun.out]
          obtain ⟨n, rfl⟩ : ∃ n, f = n + 1 := ⟨f - 1, by omega⟩
          rw [runL, ← Hst2.out, if_pos Hsame.out]
        have HD := hid hD
        clear hD
        go_region
        all_goals (
          go_wp2
          go_ret
          exact ⟨g, bm, oa2, oc2, rfl, by rw [HD.out]; first | exact Hd2.out | exact Hd2.out.kept (Below.refl _ _).drew, by first | exact HB2.out | exact HB2.out.drew⟩)
      · rw [decide_eq_false hsame] at heq
        have Hsame := hid hsame
        clear hsame
        go_wp2_with fail
        have hz := learnTo_zeros Hfit.out.2 Hro.out rs.length (Nat.le_refl _)
        rw [← Hst2.out] at hz
        have hz2 : st2.known.count 0 < st.known.count 0 := by
          rcases hz with h | h
          · exact absurd h.symm Hsame.out
          · exact h
        obtain ⟨n, rfl⟩ : ∃ n, f = n + 1 := ⟨f - 1, by omega⟩
        have hrun2 : runL rs st2 n = deskOf seen rs := by rw [← Hrun.out, runL, ← Hst2.out, if_neg Hsame.out]
        have hmeas2 : (partAt w2 g 3 12).toList.countP isZeroV < (partAt wo g 3 12).toList.countP isZeroV := by
          rw [Hmeas.out, Hd2.out.part, List.toList_toArray, zeros_intv]
          exact hz2
        have Hz2 := hid hz2; have Hrun2 := hid hrun2; have Hmeas2 := hid hmeas2
        clear hz hz2 hrun2 hmeas2
        go_region
        all_goals (
          go_wp2
          go_roundw
          case rel => exact ⟨oa2, oc2, st2, n, by first | exact Hd2.out | exact Hd2.out.kept (Below.refl _ _).drew, Hfit2.out, Hmk2.out, by have := Hz2.out; omega, Hrun2.out, by first | exact HB2.out | exact HB2.out.drew⟩
          case measure => exact Hmeas2.out)

end Go.Proofs.Ytkioejdddmnbmaa

namespace Go.Proofs.Ytkioejdddmnbmaa
open Go.RowKit Go.Shelf
attribute [local go_sem ↓] wp_get wp_get0 wp_getS wp78 wps78 wpa78

/-- a case in memory -/
structure CaseAt (w : World) (sa ra : Option Addr) (seen : List Int) (rs : List Rl) : Prop where
  s : IntsAt w sa seen
  r : RulesAt w ra rs
  sl : seen.length ≤ 1000000
  rl : rs.length ≤ 1000000
  il : ∀ i, i < rs.length → (nthR rs i).1.length ≤ 1000000
theorem CaseAt.mono {w w' : World} {sa ra : Option Addr} {seen : List Int} {rs : List Rl} (h : CaseAt w sa ra seen rs) (hB : Below w.heap.size w w') : CaseAt w' sa ra seen rs :=
  ⟨h.s.mono hB, h.r.mono hB, h.sl, h.rl, h.il⟩

def openErr (facts : Int) (seen : List Int) (rs : List Rl) (l : List Int) : Int := if caseErr facts seen rs = 0 then (if within 0 (facts - 1) l = true then 0 else 2) else caseErr facts seen rs

def OpenP (w : World) (err : Int) (c0 c1 c2 : Value) (st : LSt) (e : Ending) (w' : World) : Prop :=
  ∃ p, e = .returned (.tuple #[.pointer p, .int .i64 err]) ∧ Below w.heap.size w w' ∧ (err = 0 → ∃ g bm oa oc, p = some ⟨g, 0, none⟩ ∧ DeskAt w.heap.size w' g bm oa oc c0 c1 c2 st.known st.ord st.ord st.clash)

theorem DeskAt.base {B B' : Nat} {w : World} {g bm : Nat} {oa : Option Addr} {oc : Nat} {c0 c1 c2 : Value} {known : List Int} {mo so : List (Nat × Nat)} {clash : Int} (h : DeskAt B w g bm oa oc c0 c1 c2 known mo so clash) (hb : B' ≤ B) : DeskAt B' w g bm oa oc c0 c1 c2 known mo so clash :=
  ⟨h.row, h.len, h.map, h.ord.base hb, Nat.le_trans hb h.gB, Nat.le_trans hb h.bB⟩

set_option maxRecDepth 100000 in
set_option maxHeartbeats 4000000 in
theorem open_c (facts : Int) (sa : Option Addr) (sc : Nat) (seen : List Int) (ra : Option Addr) (rc : Nat) (rs : List Rl) (la : Option Addr) (lc : Nat) (l : List Int) (w : World) (hc : CaseAt w sa ra seen rs) (hl : IntsAt w la l) (hll : l.length ≤ 1000000) :
    Calls Try.prog 61 #[.agg #[.int .i64 facts, .slice sa seen.length sc, .slice ra rs.length rc], .slice la l.length lc] w (OpenP w (openErr facts seen rs l) (.int .i64 facts) (.slice sa seen.length sc) (.slice ra rs.length rc) (deskOf seen rs)) := by
  obtain ⟨W0, hW0⟩ : ∃ W0, W0 = w.alloc (.cells #[.int .i64 facts, .slice sa seen.length sc, .slice ra rs.length rc] 25) := ⟨_, rfl⟩
  have HB0 := hid (show Below w.heap.size w W0 by rw [hW0]; exact bnew w _)
  obtain ⟨c0, c1, c2⟩ := caseBox w facts sa ra seen.length sc rs.length rc
  rw [← hW0] at c0 c1 c2
  have C0 := hid c0; have C1 := hid c1; have C2 := hid c2
  have HC := hid fun (w' : World) (h : Below w.heap.size w w') => checkCase_c sa ra sc rc facts seen rs w' (hc.s.mono h) (hc.r.mono h) hc.sl hc.rl hc.il
  have HS := hid hW0
  have he : openErr facts seen rs l = if caseErr facts seen rs = 0 then (if within 0 (facts - 1) l = true then 0 else 2) else caseErr facts seen rs := rfl
  by_cases hz : caseErr facts seen rs = 0
  · rw [hz] at HC
    rw [he, if_pos hz]
    obtain ⟨⟨f0, f1⟩, _, hris, _⟩ := case_zero hz
    have HL := hid fun (w' : World) (h : Below w.heap.size w w') => within_c la lc 0 (facts - 1) l w' (hl.mono h) hll
    cases hw : within 0 (facts - 1) l with
    | false =>
      rw [hw] at HL
      rw [if_neg (by simp)]
      clear hc hl he hz hris hW0 c0 c1 c2 hw
      go_enter Try.func61, Try.ntmps61
      go_wp2_with fail
      rw [← HS.out]
      refine (HC.out _ HB0.out).mono ?_
      rintro e w1 ⟨rfl, hB⟩
      have d0 := cstep C0.out hB
      have HB1 := hid (bstep HB0.out hB)
      clear hB
      go_wp2_with fail
      refine (HL.out _ HB1.out).mono ?_
      rintro e w2 ⟨rfl, hB⟩
      have HB2 := hid (bstep HB1.out hB)
      clear hB
      go_wp2
      go_ret2
      exact ⟨none, rfl, HB2.out, fun h => by cases h⟩
    | true =>
      rw [hw] at HL
      rw [if_pos rfl]
      have HN := hid fun (w' : World) (h : Below w.heap.size w w') => newDesk_c facts sa sc seen ra rc rs w' (hc.s.mono h) hc.sl (rising_facts f1 hris) (hc.r.mono h) (case_rules hz hc.il) hc.rl
      clear hc hl he hz hris hW0 c0 c1 c2 hw
      go_enter Try.func61, Try.ntmps61
      go_wp2_with fail
      rw [← HS.out]
      refine (HC.out _ HB0.out).mono ?_
      rintro e w1 ⟨rfl, hB⟩
      have d0 := cstep C0.out hB; have d1 := cstep C1.out hB; have d2 := cstep C2.out hB
      have HB1 := hid (bstep HB0.out hB)
      clear hB
      have D0 := hid d0; have D1 := hid d1; have D2 := hid d2
      go_wp2_with fail
      refine (HL.out _ HB1.out).mono ?_
      rintro e w2 ⟨rfl, hB⟩
      have HB2 := hid (bstep HB1.out hB)
      have e0 := cstep D0.out hB; have e1 := cstep D1.out hB; have e2 := cstep D2.out hB
      clear hB d0 d1 d2
      go_wp2_with fail
      refine (HN.out _ HB2.out).mono ?_
      rintro e w3 ⟨g, bm, oa, oc, rfl, hd, hB⟩
      go_wp2
      go_ret2
      exact ⟨_, rfl, bstep HB2.out hB, fun _ => ⟨g, bm, oa, oc, rfl, hd.base HB2.out.size⟩⟩
  · rw [he, if_neg hz]
    have hcb : (caseErr facts seen rs != 0) = true := by simpa using hz
    have Hz := hid hz
    clear hc hl he hz hW0 c0 c1 c2
    generalize caseErr facts seen rs = c at *
    go_enter Try.func61, Try.ntmps61
    go_wp2_with fail
    rw [← HS.out]
    refine (HC.out _ HB0.out).mono ?_
    rintro e w1 ⟨rfl, hB⟩
    have HB1 := hid (bstep HB0.out hB)
    clear hB
    go_wp2
    go_ret2
    exact ⟨none, rfl, HB1.out, fun h => absurd h Hz.out⟩


def pTruthErr (facts : Int) (seen : List Int) (rs : List Rl) (t : List Int) : Int :=
  if caseErr facts seen rs = 0 then (if rising facts t = true then (if isTruthM seen rs (markL t) = true then 0 else 24) else 2) else caseErr facts seen rs

theorem within_nil (lo hi : Int) : within lo hi [] = true := rfl

set_option maxRecDepth 100000 in
set_option maxHeartbeats 4000000 in
theorem checkTruth_c (facts : Int) (sa : Option Addr) (sc : Nat) (seen : List Int) (ra : Option Addr) (rc : Nat) (rs : List Rl) (ta : Option Addr) (tc : Nat) (t : List Int) (w : World) (hc : CaseAt w sa ra seen rs) (ht : IntsAt w ta t) (htl : t.length ≤ 1000000) :
    Calls Try.prog 21 #[.agg #[.int .i64 facts, .slice sa seen.length sc, .slice ra rs.length rc], .slice ta t.length tc] w fun e w' => e = .returned (.int .i64 (pTruthErr facts seen rs t)) ∧ Below w.heap.size w w' := by
  obtain ⟨W0, hW0⟩ : ∃ W0, W0 = w.alloc (.cells #[.int .i64 facts, .slice sa seen.length sc, .slice ra rs.length rc] 25) := ⟨_, rfl⟩
  have HB0 := hid (show Below w.heap.size w W0 by rw [hW0]; exact bnew w _)
  obtain ⟨c0, c1, c2⟩ := caseBox w facts sa ra seen.length sc rs.length rc
  rw [← hW0] at c0 c1 c2
  have C0 := hid c0; have C1 := hid c1; have C2 := hid c2
  have HO := hid (open_c facts sa sc seen ra rc rs none 0 [] W0 (hc.mono HB0.out) (IntsAt.nil _ _) (by simp))
  have HS := hid hW0
  have he : pTruthErr facts seen rs t = if caseErr facts seen rs = 0 then (if rising facts t = true then (if isTruthM seen rs (markL t) = true then 0 else 24) else 2) else caseErr facts seen rs := rfl
  have ho : openErr facts seen rs [] = caseErr facts seen rs := by unfold openErr; split <;> simp_all [within_nil]
  rw [ho] at HO
  by_cases hz : caseErr facts seen rs = 0
  · rw [hz] at HO
    rw [he, if_pos hz]
    obtain ⟨⟨f0, f1⟩, _, hris, _⟩ := case_zero hz
    have HR := hid fun (w' : World) (h : Below w.heap.size w w') => rising_c ta tc t facts w' (ht.mono h) htl f0 (by omega)
    cases hrt : rising facts t with
    | false =>
      rw [hrt] at HR
      rw [if_neg (by simp)]
      clear hc ht he hz hris hW0 c0 c1 c2 f0 f1 hrt
      go_enter Try.func21, Try.ntmps21
      go_wp2_with fail
      rw [← HS.out]
      refine HO.out.mono ?_
      rintro e w1 ⟨p, rfl, hB, hp⟩
      have d0 := cstep C0.out hB
      have HB1 := hid (bstep HB0.out hB)
      clear hB hp
      go_wp2_with fail
      refine (HR.out _ HB1.out).mono ?_
      rintro e w2 ⟨rfl, hB⟩
      have HB2 := hid (bstep HB1.out hB)
      clear hB
      go_wp2
      go_ret
      exact ⟨rfl, HB2.out⟩
    | true =>
      rw [hrt] at HR
      rw [if_pos rfl]
      have htf := rising_facts f1 hrt
      have HM := hid fun (w' : World) (h : Below w.heap.size w w') => marked_c ta tc t w' (ht.mono h) htl htf
      have HT := hid fun (g : Nat) (w' : World) (h : Below w.heap.size w w') (k1 : w'.cell? ⟨g, 1, none⟩ = some (.slice sa seen.length sc)) (k2 : w'.cell? ⟨g, 2, none⟩ = some (.slice ra rs.length rc)) =>
        isTruth_c g sa ra sc rc (markL t) seen rs w' (hc.s.mono h) (hc.r.mono h) hc.sl hc.rl (markL_length t) (rising_facts f1 hris) (case_rules hz hc.il) k1 k2
      unfold TellB at HT
      generalize isTruthM seen rs (markL t) = v at *
      obtain ⟨R, hR⟩ : ∃ R : Int, R = (if v = true then 0 else 24) := ⟨_, rfl⟩
      rw [← hR]
      have HRs := hid hR
      clear hc ht he hz hris hW0 c0 c1 c2 f0 f1 hrt htf hR
      go_enter Try.func21, Try.ntmps21
      go_wp2_with fail
      rw [← HS.out]
      refine HO.out.mono ?_
      rintro e w1 ⟨p, rfl, hB, hp⟩
      obtain ⟨g, bm, oa, oc, rfl, hd⟩ := hp rfl
      have d0 := cstep C0.out hB
      have HB1 := hid (bstep HB0.out hB)
      have Hd := hid hd
      clear hB hp hd
      go_wp2_with fail
      refine (HR.out _ HB1.out).mono ?_
      rintro e w2 ⟨rfl, hB⟩
      have HB2 := hid (bstep HB1.out hB)
      have Hd2 := hid (Hd.out.kept hB)
      clear hB
      go_wp2_with fail
      refine (HM.out _ HB2.out).mono ?_
      rintro e w3 ⟨rfl, hB⟩
      have HB3 := hid (bstep HB2.out hB)
      have Hd3 := hid (Hd2.out.kept hB)
      clear hB
      go_wp2_with fail
      refine (HT.out g _ HB3.out Hd3.out.k1 Hd3.out.k2).mono ?_
      rintro e w4 ⟨rfl, hB⟩
      have HB4 := hid (bstep HB3.out hB)
      clear hB
      cases v <;> (
        go_wp2
        go_ret
        exact ⟨ret_int (by rw [HRs.out]; rfl), HB4.out⟩)
  · rw [he, if_neg hz]
    have hcb : (caseErr facts seen rs != 0) = true := by simpa using hz
    clear hc ht he hz hW0 c0 c1 c2
    generalize caseErr facts seen rs = c at *
    go_enter Try.func21, Try.ntmps21
    go_wp2_with fail
    rw [← HS.out]
    refine HO.out.mono ?_
    rintro e w1 ⟨p, rfl, hB, hp⟩
    have HB1 := hid (bstep HB0.out hB)
    clear hB hp
    go_wp2
    go_ret
    exact ⟨rfl, HB1.out⟩

theorem pTruth_eq {facts : Int} {seen : List Int} {rs : List Rl} {t : List Int} (hl : ∀ i, i < rs.length → (nthR rs i).1.length ≤ 1000000) : pTruthErr facts seen rs t = truthErr facts seen rs t := by
  unfold pTruthErr truthErr
  by_cases hz : caseErr facts seen rs = 0
  · obtain ⟨⟨f0, f1⟩, _, hris, _⟩ := case_zero hz
    rw [if_pos hz, if_neg (show ¬ caseErr facts seen rs ≠ 0 from fun h => h hz), truth_bits (rising_facts f1 hris) (case_rules hz hl)]
  · rw [if_neg hz, if_pos hz]

end Go.Proofs.Ytkioejdddmnbmaa

namespace Go.Proofs.Ytkioejdddmnbmaa
open Go.RowKit

/-- what follows by rules -/
inductive Der (rs : List Rl) (S : Nat → Prop) : Nat → Prop
  | seen {n : Nat} : S n → Der rs S n
  | rule {r : Rl} : r ∈ rs → 0 ≤ r.2 → (∀ x ∈ r.1, Der rs S x.toNat) → Der rs S r.2.toNat
def Clsh (rs : List Rl) (S : Nat → Prop) : Prop := ∃ r ∈ rs, r.2 < 0 ∧ ∀ x ∈ r.1, Der rs S x.toNat
/-- facts that keep all rules -/
def Closed (rs : List Rl) (T : Nat → Prop) : Prop := ∀ r ∈ rs, (∀ x ∈ r.1, T x.toNat) → 0 ≤ r.2 ∧ T r.2.toNat

theorem Der.least {rs : List Rl} {S T : Nat → Prop} (hS : ∀ n, S n → T n) (hc : ∀ r ∈ rs, 0 ≤ r.2 → (∀ x ∈ r.1, T x.toNat) → T r.2.toNat) {n : Nat} (h : Der rs S n) : T n := by
  induction h with
  | seen h => exact hS _ h
  | rule hr h0 _ ih => exact hc _ hr h0 ih
theorem Der.into {rs : List Rl} {S T : Nat → Prop} (hS : ∀ n, S n → T n) (hc : Closed rs T) {n : Nat} (h : Der rs S n) : T n :=
  h.least hS (fun r hr _ h => (hc r hr h).2)
theorem Der.more {rs rs' : List Rl} {S S' : Nat → Prop} (hr : ∀ r ∈ rs, r ∈ rs') (hS : ∀ n, S n → Der rs' S' n) {n : Nat} (h : Der rs S n) : Der rs' S' n :=
  h.least hS (fun r h1 h2 h3 => .rule (hr r h1) h2 h3)
theorem Clsh.more {rs rs' : List Rl} {S S' : Nat → Prop} (hr : ∀ r ∈ rs, r ∈ rs') (hS : ∀ n, S n → Der rs' S' n) (h : Clsh rs S) : Clsh rs' S' := by
  obtain ⟨r, h1, h2, h3⟩ := h
  exact ⟨r, hr r h1, h2, fun x hx => (h3 x hx).more hr hS⟩
theorem Clsh.no {rs : List Rl} {S T : Nat → Prop} (hS : ∀ n, S n → T n) (hc : Closed rs T) : ¬ Clsh rs S := by
  rintro ⟨r, hr, h0, h⟩
  have := (hc r hr (fun x hx => (h x hx).into hS hc)).1
  omega
theorem der_closed {rs : List Rl} {S : Nat → Prop} (h : ¬ Clsh rs S) : Closed rs (Der rs S) := by
  intro r hr h2
  by_cases h0 : 0 ≤ r.2
  · exact ⟨h0, .rule hr h0 h2⟩
  · exact absurd ⟨r, hr, by omega, h2⟩ h

theorem hasM_iff {m l : List Int} : hasM m l = true ↔ ∀ x ∈ l, nth m x.toNat ≠ 0 := by
  unfold hasM zeroAt; simp
theorem mem_nthR {rs : List Rl} {r : Rl} (h : r ∈ rs) : ∃ i, i < rs.length ∧ nthR rs i = r := by
  obtain ⟨i, hi, rfl⟩ := List.getElem_of_mem h
  exact ⟨i, hi, by unfold nthR; rw [List.getD_eq_getElem?_getD, List.getElem?_eq_getElem hi]; rfl⟩
theorem nth_mem_iff {l : List Int} {x : Int} : x ∈ l ↔ ∃ k, k < l.length ∧ nth l k = x := by
  constructor
  · intro h
    obtain ⟨k, hk, rfl⟩ := List.getElem_of_mem h
    exact ⟨k, hk, nth_eq hk⟩
  · rintro ⟨k, hk, rfl⟩; exact nth_mem hk
theorem factsOk_mem {l : List Int} (h : factsOk l) {x : Int} (hx : x ∈ l) : 0 ≤ x ∧ x < 12 := by
  obtain ⟨k, hk, rfl⟩ := nth_mem_iff.1 hx; exact h k hk
theorem rulesOk_mem {rs : List Rl} (h : rulesOk rs) {r : Rl} (hr : r ∈ rs) : factsOk r.1 ∧ r.1.length ≤ 1000000 ∧ -1 ≤ r.2 ∧ r.2 < 12 := by
  obtain ⟨i, hi, rfl⟩ := mem_nthR hr; exact h i hi

/-- what a desk's order says -/
def OrdOk (rs : List Rl) (S : Nat → Prop) (ord : List (Nat × Nat)) : Prop :=
  ∀ a p b, ord = a ++ p :: b → p.2 < rs.length ∧ (nthR rs p.2).2 = (p.1 : Int) ∧ p.1 < 12 ∧ ¬ S p.1 ∧ p.1 ∉ a.map (·.1) ∧ ∀ x ∈ (nthR rs p.2).1, S x.toNat ∨ x.toNat ∈ a.map (·.1)
theorem OrdOk.nil (rs : List Rl) (S : Nat → Prop) : OrdOk rs S [] := fun a p b h => by simp at h
theorem OrdOk.snoc {rs : List Rl} {S : Nat → Prop} {ord : List (Nat × Nat)} (h : OrdOk rs S ord) {p : Nat × Nat}
    (hp : p.2 < rs.length ∧ (nthR rs p.2).2 = (p.1 : Int) ∧ p.1 < 12 ∧ ¬ S p.1 ∧ p.1 ∉ ord.map (·.1) ∧ ∀ x ∈ (nthR rs p.2).1, S x.toNat ∨ x.toNat ∈ ord.map (·.1)) : OrdOk rs S (ord ++ [p]) := by
  intro a q b e
  rcases List.eq_nil_or_concat b with rfl | ⟨b', y, rfl⟩
  · have := List.append_inj' e rfl
    obtain ⟨rfl, e2⟩ := this
    cases e2
    exact hp
  · have e' : ord ++ [p] = (a ++ q :: b') ++ [y] := by rw [e]; simp
    obtain ⟨rfl, _⟩ := List.append_inj' e' rfl
    exact h a q b' rfl

structure DInv (rs : List Rl) (S : Nat → Prop) (s : LSt) : Prop where
  len : s.known.length = 12
  ok : marksOk s.known
  sound : ∀ n, nth s.known n ≠ 0 → Der rs S n
  seen : ∀ n, S n → nth s.known n ≠ 0
  clash : 0 ≤ s.clash → s.clash.toNat < rs.length ∧ (nthR rs s.clash.toNat).2 < 0 ∧ ∀ x ∈ (nthR rs s.clash.toNat).1, nth s.known x.toNat ≠ 0
  low : -1 ≤ s.clash
  ordk : ∀ n, nth s.known n ≠ 0 ↔ S n ∨ n ∈ s.ord.map (·.1)
  ord : OrdOk rs S s.ord

theorem nth_set_ne {l : List Int} {n k : Nat} (h : nth l k ≠ 0) : nth (l.set n 1) k ≠ 0 := by
  rw [nth_set]; split
  · decide
  · exact h

theorem DInv.learn1 {rs : List Rl} {S : Nat → Prop} {s : LSt} (h : DInv rs S s) (hro : rulesOk rs) {i : Nat} (hi : i < rs.length) : DInv rs S (learn1 rs s i) := by
  unfold Go.Proofs.Ytkioejdddmnbmaa.learn1
  by_cases hh : hasM s.known (nthR rs i).1 = true
  · rw [if_pos hh]
    have hall := hasM_iff.1 hh
    by_cases h0 : (nthR rs i).2 < 0
    · rw [if_pos h0]
      by_cases hc : s.clash < 0
      · rw [if_pos hc]
        exact { h with clash := fun _ => ⟨by simpa using hi, by simpa using h0, by simpa using hall⟩, low := by show (-1:Int) ≤ (i : Int); omega }
      · rw [if_neg hc]; exact h
    · rw [if_neg h0]
      by_cases hz : nth s.known (nthR rs i).2.toNat = 0
      · rw [if_pos hz]
        obtain ⟨_, _, _, hlt⟩ := hro i hi
        have hn : (nthR rs i).2.toNat < s.known.length := by rw [h.len]; omega
        have hset : ∀ k, nth (s.known.set (nthR rs i).2.toNat 1) k ≠ 0 ↔ (k = (nthR rs i).2.toNat ∨ nth s.known k ≠ 0) := by
          intro k
          rw [nth_set]
          by_cases e : k = (nthR rs i).2.toNat
          · rw [if_pos ⟨e, hn⟩]; simp [e]
          · rw [if_neg (fun h => e h.1)]; simp [e]
        refine ⟨by show (s.known.set _ 1).length = 12; rw [List.length_set]; exact h.len, h.ok.set _, ?_, fun n hS => (hset n).2 (.inr (h.seen n hS)), ?_, h.low, ?_, ?_⟩
        · intro n hn2
          rcases (hset n).1 hn2 with rfl | h2
          · exact .rule (nthR_mem hi) (by omega) (fun x hx => h.sound _ (hall x hx))
          · exact h.sound n h2
        · intro hc
          obtain ⟨c1, c2, c3⟩ := h.clash hc
          exact ⟨c1, c2, fun x hx => (hset _).2 (.inr (c3 x hx))⟩
        · intro n
          show nth (s.known.set _ 1) n ≠ 0 ↔ _
          rw [hset n, h.ordk n]
          simp only [List.map_append, List.map_cons, List.map_nil, List.mem_append, List.mem_singleton]
          constructor
          · rintro (h | h | h)
            · exact .inr (.inr h)
            · exact .inl h
            · exact .inr (.inl h)
          · rintro (h | h | h)
            · exact .inr (.inl h)
            · exact .inr (.inr h)
            · exact .inl h
        · refine h.ord.snoc ⟨hi, by show (nthR rs i).2 = (((nthR rs i).2.toNat : Nat) : Int); omega, by show (nthR rs i).2.toNat < 12; omega, fun hS => h.seen _ hS hz, fun hm => (h.ordk _).2 (.inr hm) hz, fun x hx => (h.ordk _).1 (hall x hx)⟩
      · rw [if_neg hz]; exact h
  · rw [if_neg hh]; exact h
theorem DInv.learnTo {rs : List Rl} {S : Nat → Prop} {s : LSt} (h : DInv rs S s) (hro : rulesOk rs) : ∀ k, k ≤ rs.length → DInv rs S (learnTo rs s k)
  | 0, _ => h
  | k + 1, hk => (h.learnTo hro k (by omega)).learn1 hro (by omega)

theorem count_mono {rs : List Rl} {s : LSt} (hl : s.known.length = 12) (hr : rulesOk rs) {j k : Nat} (hjk : j ≤ k) (hk : k ≤ rs.length) : (learnTo rs s k).known.count 0 ≤ (learnTo rs s j).known.count 0 := by
  induction k with
  | zero => obtain rfl : j = 0 := by omega
            exact Nat.le_refl _
  | succ k ih =>
    by_cases e : j = k + 1
    · subst e; exact Nat.le_refl _
    · have h1 := ih (by omega) (by omega)
      have h2 := learn1_zeros (rs := rs) (s := learnTo rs s k) k ((learnTo_len k).trans hl) (hr k (by omega)).2.2.2
      rw [learnTo]
      rcases h2 with h2 | h2
      · rw [h2]; exact h1
      · omega

/-- a round that leaves the facts: nothing more follows -/
theorem fix_known {rs : List Rl} {s : LSt} (hl : s.known.length = 12) (hr : rulesOk rs) (he : s.known = (learnTo rs s rs.length).known) : ∀ k, k ≤ rs.length → (learnTo rs s k).known = s.known := by
  intro k hk
  rcases learnTo_zeros hl hr k hk with h | h
  · exact h
  · have h2 := count_mono (rs := rs) (s := s) hl hr hk (Nat.le_refl _)
    rw [← he] at h2
    omega
theorem clash_mono {rs : List Rl} {s : LSt} {j k : Nat} (hjk : j ≤ k) (h : 0 ≤ (learnTo rs s j).clash) : 0 ≤ (learnTo rs s k).clash := by
  induction k with
  | zero => obtain rfl : j = 0 := by omega
            exact h
  | succ k ih =>
    by_cases e : j = k + 1
    · subst e; exact h
    · have h1 := ih (by omega)
      rw [learnTo]
      unfold learn1
      split
      · split
        · split
          · show (0 : Int) ≤ (k : Int); omega
          · exact h1
        · split
          · exact h1
          · exact h1
      · exact h1

theorem fix_closed {rs : List Rl} {S : Nat → Prop} {s : LSt} (h : DInv rs S s) (hr : rulesOk rs) (he : s.known = (learnTo rs s rs.length).known) {r : Rl} (hm : r ∈ rs) (hall : ∀ x ∈ r.1, nth s.known x.toNat ≠ 0) :
    (r.2 < 0 → 0 ≤ (learnTo rs s rs.length).clash) ∧ (0 ≤ r.2 → nth s.known r.2.toNat ≠ 0) := by
  obtain ⟨i, hi, rfl⟩ := mem_nthR hm
  have k0 := fix_known h.len hr he i (by omega)
  have k1 := fix_known h.len hr he (i + 1) (by omega)
  have hl1 : learnTo rs s (i + 1) = learn1 rs (learnTo rs s i) i := rfl
  have hh : hasM (learnTo rs s i).known (nthR rs i).1 = true := by rw [k0]; exact hasM_iff.2 hall
  unfold learn1 at hl1
  rw [if_pos hh] at hl1
  constructor
  · intro h0
    rw [if_pos h0] at hl1
    refine clash_mono (j := i + 1) (by omega) ?_
    rw [hl1]
    split
    · show (0 : Int) ≤ (i : Int); omega
    · rename_i hc; omega
  · intro h0 hz
    rw [if_neg (by omega), if_pos (by rw [k0]; exact hz)] at hl1
    have h2 : (learnTo rs s (i + 1)).known = (learnTo rs s i).known.set (nthR rs i).2.toNat 1 := by rw [hl1]
    rw [k0, k1] at h2
    have h3 := nth_set s.known (nthR rs i).2.toNat 1 (nthR rs i).2.toNat
    rw [← h2, if_pos ⟨rfl, by rw [h.len]; have := (hr i hi).2.2.2; omega⟩] at h3
    omega

/-- what a desk knows in the end -/
structure DEnd (rs : List Rl) (S : Nat → Prop) (s : LSt) : Prop extends DInv rs S s where
  full : ∀ n, nth s.known n ≠ 0 ↔ Der rs S n
  cl : 0 ≤ s.clash ↔ Clsh rs S

theorem runL_end {rs : List Rl} {S : Nat → Prop} (hr : rulesOk rs) : ∀ (n : Nat) (s : LSt), DInv rs S s → s.known.count 0 < n → DEnd rs S (runL rs s n)
  | 0, s, _, h => by omega
  | n + 1, s, h, hn => by
    rw [runL]
    by_cases he : s.known = (learnTo rs s rs.length).known
    · rw [if_pos he]
      have h2 := h.learnTo hr rs.length (Nat.le_refl _)
      have hcl := fun r hm hall => fix_closed (r := r) h hr he hm hall
      have hfull : ∀ n, nth (learnTo rs s rs.length).known n ≠ 0 ↔ Der rs S n := by
        intro n
        refine ⟨h2.sound n, fun hd => ?_⟩
        rw [← he]
        exact hd.least (T := fun n => nth s.known n ≠ 0) h.seen (fun r h1 h3 h4 => (hcl r h1 h4).2 h3)
      refine { h2 with full := hfull, cl := ⟨fun hc => ?_, ?_⟩ }
      · obtain ⟨c1, c2, c3⟩ := h2.clash hc
        exact ⟨_, nthR_mem c1, c2, fun x hx => (hfull _).1 (c3 x hx)⟩
      · rintro ⟨r, hm, h0, hx⟩
        exact (hcl r hm (fun x hx' => by rw [he]; exact (hfull _).2 (hx x hx'))).1 h0
    · rw [if_neg he]
      refine runL_end hr n _ (h.learnTo hr rs.length (Nat.le_refl _)) ?_
      rcases learnTo_zeros h.len hr rs.length (Nat.le_refl _) with e | e
      · exact absurd e.symm he
      · omega

/-- facts of a list -/
def SeenP (l : List Int) : Nat → Prop := fun n => (n : Int) ∈ l
theorem markL_iff {l : List Int} (h : factsOk l) (n : Nat) : nth (markL l) n ≠ 0 ↔ SeenP l n := by
  by_cases hn : n < 12
  · unfold markL
    rw [markTo_nth l hn, bitsTo_test]
    have : ((List.range l.length).any fun i => (nth l i).toNat == n) = true ↔ SeenP l n := by
      rw [List.any_eq_true]
      unfold SeenP
      rw [nth_mem_iff]
      constructor
      · rintro ⟨i, hi, he⟩
        have hi' := List.mem_range.1 hi
        refine ⟨i, hi', ?_⟩
        have := h i hi'
        have he' : (nth l i).toNat = n := by simpa using he
        omega
      · rintro ⟨i, hi, he⟩
        exact ⟨i, List.mem_range.2 hi, by rw [he]; simp⟩
    rw [← this]
    cases ((List.range l.length).any fun i => (nth l i).toNat == n) <;> simp
  · constructor
    · intro h2; exact absurd (nth_of_ge (by rw [markL_length]; omega)) h2
    · intro h2
      have := factsOk_mem h h2
      omega

theorem deskOf_end {seen : List Int} {rs : List Rl} (hs : factsOk seen) (hr : rulesOk rs) : DEnd rs (SeenP seen) (deskOf seen rs) := by
  refine runL_end hr 13 _ ⟨markL_length _, markL_ok _, fun n h => .seen ((markL_iff hs n).1 h), fun n h => (markL_iff hs n).2 h, fun h => absurd h (by show ¬ (0:Int) ≤ -1; decide), by show (-1:Int) ≤ -1; decide, fun n => ?_, OrdOk.nil _ _⟩ ?_
  · rw [markL_iff hs]; simp
  · have := List.count_le_length (a := (0 : Int)) (l := markL seen)
    rw [markL_length] at this
    show (markL seen).count 0 < 13
    omega

end Go.Proofs.Ytkioejdddmnbmaa

namespace Go.Proofs.Ytkioejdddmnbmaa
open Go.RowKit

def bt (b : Nat) : Nat → Prop := fun n => b.testBit n = true
theorem bitsL_test {l : List Int} (h : factsOk l) (n : Nat) : (bitsL l).testBit n = true ↔ SeenP l n := by
  unfold bitsL
  rw [bitsTo_test, List.any_eq_true]
  unfold SeenP
  rw [nth_mem_iff]
  constructor
  · rintro ⟨i, hi, he⟩
    have hi' := List.mem_range.1 hi
    refine ⟨i, hi', ?_⟩
    have := h i hi'
    have he' : (nth l i).toNat = n := by simpa using he
    omega
  · rintro ⟨i, hi, he⟩
    exact ⟨i, List.mem_range.2 hi, by rw [he]; simp⟩
theorem seenP_all {l : List Int} (h : factsOk l) {T : Nat → Prop} : (∀ x ∈ l, T x.toNat) ↔ ∀ n, SeenP l n → T n := by
  constructor
  · intro h2 n hn
    have := h2 _ hn
    simpa using this
  · intro h2 x hx
    have h3 := factsOk_mem h hx
    refine h2 _ ?_
    unfold SeenP
    rw [Int.toNat_of_nonneg h3.1]; exact hx
theorem and_self_iff {a b : Nat} : a &&& b = b ↔ ∀ n, b.testBit n = true → a.testBit n = true := by
  constructor
  · intro h n hn
    have := congrArg (fun x => x.testBit n) h
    simp only [Nat.testBit_and, hn, Bool.and_true] at this
    exact this
  · intro h
    refine Nat.eq_of_testBit_eq (fun n => ?_)
    rw [Nat.testBit_and]
    cases hb : b.testBit n with
    | false => simp
    | true => rw [h n hb]; rfl
theorem bits_has {b : Nat} {l : List Int} (h : factsOk l) : b &&& bitsL l = bitsL l ↔ ∀ x ∈ l, bt b x.toNat := by
  rw [and_self_iff, seenP_all h]
  exact ⟨fun h2 n hn => h2 n ((bitsL_test h n).2 hn), fun h2 n hn => h2 n ((bitsL_test h n).1 hn)⟩

/-- the reference's rounds -/
def kn1 (rs : List Rl) (s : Nat × Bool) (i : Nat) : Nat × Bool :=
  if s.1 &&& bitsL (nthR rs i).1 = bitsL (nthR rs i).1 then (if (nthR rs i).2 < 0 then (s.1, true) else (s.1 ||| 2 ^ (nthR rs i).2.toNat, s.2)) else s
def knTo (rs : List Rl) (s : Nat × Bool) : Nat → Nat × Bool
  | 0 => s
  | k + 1 => kn1 rs (knTo rs s k) k
def knRounds (rs : List Rl) (s : Nat × Bool) : Nat → Nat × Bool
  | 0 => s
  | n + 1 => knTo rs (knRounds rs s n) rs.length
def knownR (rs : List Rl) (b : Nat) : Nat × Bool := knRounds rs (b, false) (rs.length + 1)

structure KInv (rs : List Rl) (S : Nat → Prop) (s : Nat × Bool) : Prop where
  sound : ∀ n, bt s.1 n → Der rs S n
  seen : ∀ n, S n → bt s.1 n
  cl : s.2 = true → Clsh rs S
theorem bt_or {b n k : Nat} : bt (b ||| 2 ^ n) k ↔ bt b k ∨ n = k := by
  unfold bt
  rw [Nat.testBit_or, Nat.testBit_two_pow, Bool.or_eq_true, decide_eq_true_iff]
theorem KInv.step {rs : List Rl} {S : Nat → Prop} {s : Nat × Bool} (h : KInv rs S s) (hro : rulesOk rs) {i : Nat} (hi : i < rs.length) : KInv rs S (kn1 rs s i) := by
  unfold kn1
  split
  · rename_i hh
    have hall := (bits_has (hro i hi).1).1 hh
    split
    · rename_i h0
      exact ⟨h.sound, h.seen, fun _ => ⟨_, nthR_mem hi, h0, fun x hx => h.sound _ (hall x hx)⟩⟩
    · rename_i h0
      refine ⟨fun n hn => ?_, fun n hn => bt_or.2 (.inl (h.seen n hn)), h.cl⟩
      rcases bt_or.1 hn with hn | rfl
      · exact h.sound n hn
      · exact .rule (nthR_mem hi) (by omega) (fun x hx => h.sound _ (hall x hx))
  · exact h
theorem KInv.to {rs : List Rl} {S : Nat → Prop} {s : Nat × Bool} (h : KInv rs S s) (hro : rulesOk rs) : ∀ k, k ≤ rs.length → KInv rs S (knTo rs s k)
  | 0, _ => h
  | k + 1, hk => (h.to hro k (by omega)).step hro (by omega)
theorem kn1_mono (rs : List Rl) (s : Nat × Bool) (i n : Nat) (h : bt s.1 n) : bt (kn1 rs s i).1 n := by
  unfold kn1
  split
  · split
    · exact h
    · exact bt_or.2 (.inl h)
  · exact h
theorem knTo_mono (rs : List Rl) (s : Nat × Bool) {j k : Nat} (hjk : j ≤ k) (n : Nat) (h : bt (knTo rs s j).1 n) : bt (knTo rs s k).1 n := by
  induction k with
  | zero => obtain rfl : j = 0 := by omega
            exact h
  | succ k ih =>
    by_cases e : j = k + 1
    · subst e; exact h
    · exact kn1_mono rs _ k n (ih (by omega))
theorem kn1_cl (rs : List Rl) (s : Nat × Bool) (i : Nat) (h : s.2 = true) : (kn1 rs s i).2 = true := by
  unfold kn1
  split
  · split
    · rfl
    · exact h
  · exact h
theorem knTo_cl (rs : List Rl) (s : Nat × Bool) {j k : Nat} (hjk : j ≤ k) (h : (knTo rs s j).2 = true) : (knTo rs s k).2 = true := by
  induction k with
  | zero => obtain rfl : j = 0 := by omega
            exact h
  | succ k ih =>
    by_cases e : j = k + 1
    · subst e; exact h
    · exact kn1_cl rs _ k (ih (by omega))

/-- rules whose conclusion is known -/
def satR (b : Nat) (r : Rl) : Bool := decide (0 ≤ r.2) && b.testBit r.2.toNat
theorem countP_lt {α : Type} {p q : α → Bool} : ∀ {l : List α}, (∀ x ∈ l, p x = true → q x = true) → (∃ x ∈ l, q x = true ∧ p x = false) → l.countP p < l.countP q
  | [], _, h => by obtain ⟨x, hx, _⟩ := h; cases hx
  | y :: l, h, he => by
    have hle : l.countP p ≤ l.countP q := List.countP_mono_left (fun x hx => h x (by simp [hx]))
    rw [List.countP_cons, List.countP_cons]
    obtain ⟨x, hx, h1, h2⟩ := he
    rcases List.mem_cons.1 hx with rfl | hx
    · rw [h1, h2]; simp; omega
    · have ih := countP_lt (l := l) (fun x hx => h x (by simp [hx])) ⟨x, hx, h1, h2⟩
      have := h y (by simp)
      cases hp : p y with
      | false => simp; split <;> omega
      | true => rw [this hp]; simp; omega

/-- a round ends closed, or one more rule's conclusion is known -/
theorem round_or {rs : List Rl} (hro : rulesOk rs) (s : Nat × Bool) :
    (∀ r ∈ rs, 0 ≤ r.2 → (∀ x ∈ r.1, bt s.1 x.toNat) → bt s.1 r.2.toNat) ∨ rs.countP (satR s.1) < rs.countP (satR (knTo rs s rs.length).1) := by
  by_cases hc : ∀ r ∈ rs, 0 ≤ r.2 → (∀ x ∈ r.1, bt s.1 x.toNat) → bt s.1 r.2.toNat
  · exact .inl hc
  · right
    simp only [Classical.not_forall] at hc
    obtain ⟨r, hm, h0, hall, hn⟩ := hc
    obtain ⟨i, hi, rfl⟩ := mem_nthR hm
    have hmono : ∀ n, bt s.1 n → bt (knTo rs s rs.length).1 n := fun n h => knTo_mono rs s (Nat.zero_le _) n h
    refine countP_lt (fun x _ h => ?_) ⟨_, hm, ?_, ?_⟩
    · unfold satR at h ⊢
      rw [Bool.and_eq_true] at h ⊢
      exact ⟨h.1, hmono _ h.2⟩
    · unfold satR
      rw [Bool.and_eq_true]
      refine ⟨decide_eq_true h0, ?_⟩
      refine knTo_mono rs s (j := i + 1) (by omega) _ ?_
      have hb : (knTo rs s i).1 &&& bitsL (nthR rs i).1 = bitsL (nthR rs i).1 := (bits_has (hro i hi).1).2 (fun x hx => knTo_mono rs s (Nat.zero_le _) _ (hall x hx))
      show bt (kn1 rs (knTo rs s i) i).1 _
      unfold kn1
      rw [if_pos hb, if_neg (by omega)]
      exact bt_or.2 (.inr rfl)
    · unfold satR
      rw [decide_eq_true h0, Bool.true_and]
      exact Bool.eq_false_iff.2 hn

theorem KInv.rounds {rs : List Rl} {S : Nat → Prop} {s : Nat × Bool} (h : KInv rs S s) (hro : rulesOk rs) : ∀ n, KInv rs S (knRounds rs s n)
  | 0 => h
  | n + 1 => (h.rounds hro n).to hro _ (Nat.le_refl _)
theorem closed_stays {rs : List Rl} (hro : rulesOk rs) {s : Nat × Bool} (hc : ∀ r ∈ rs, 0 ≤ r.2 → (∀ x ∈ r.1, bt s.1 x.toNat) → bt s.1 r.2.toNat) : ∀ k, k ≤ rs.length → (knTo rs s k).1 = s.1
  | 0, _ => rfl
  | k + 1, hk => by
    have ih := closed_stays hro hc k (by omega)
    show (kn1 rs (knTo rs s k) k).1 = s.1
    unfold kn1
    split
    · rename_i hh
      rw [ih] at hh
      split
      · exact ih
      · have := hc _ (nthR_mem (show k < rs.length by omega)) (by omega) ((bits_has (hro k (by omega)).1).1 hh)
        show (knTo rs s k).1 ||| _ = _
        rw [ih]
        refine Nat.eq_of_testBit_eq (fun n => ?_)
        rw [Nat.testBit_or, Nat.testBit_two_pow]
        by_cases e : (nthR rs k).2.toNat = n
        · subst e
          have h2 : s.1.testBit (nthR rs k).2.toNat = true := this
          rw [h2]; simp
        · simp [e]
    · exact ih
theorem rounds_or {rs : List Rl} (hro : rulesOk rs) (s : Nat × Bool) : ∀ n, (∀ r ∈ rs, 0 ≤ r.2 → (∀ x ∈ r.1, bt (knRounds rs s n).1 x.toNat) → bt (knRounds rs s n).1 r.2.toNat) ∨ n ≤ rs.countP (satR (knRounds rs s n).1)
  | 0 => .inr (Nat.zero_le _)
  | n + 1 => by
    rcases rounds_or hro s n with h | h
    · left
      have := closed_stays hro h rs.length (Nat.le_refl _)
      rw [knRounds, this]
      exact h
    · rcases round_or hro (knRounds rs s n) with h2 | h2
      · left
        have := closed_stays hro h2 rs.length (Nat.le_refl _)
        rw [knRounds, this]
        exact h2
      · right
        rw [knRounds]
        omega

structure KEnd (rs : List Rl) (S : Nat → Prop) (s : Nat × Bool) : Prop where
  full : ∀ n, bt s.1 n ↔ Der rs S n
  cl : s.2 = true ↔ Clsh rs S

theorem knownR_end {rs : List Rl} (hro : rulesOk rs) (b : Nat) : KEnd rs (bt b) (knownR rs b) := by
  have h0 : KInv rs (bt b) (b, false) := ⟨fun n h => .seen h, fun n h => h, fun h => by cases h⟩
  have hI := h0.rounds hro
  have hcl : ∀ r ∈ rs, 0 ≤ r.2 → (∀ x ∈ r.1, bt (knRounds rs (b, false) rs.length).1 x.toNat) → bt (knRounds rs (b, false) rs.length).1 r.2.toNat := by
    rcases rounds_or hro (b, false) rs.length with h | h
    · exact h
    · intro r hm h0 _
      have h2 := Nat.le_antisymm h List.countP_le_length
      have h3 := List.countP_eq_length.1 h2.symm r hm
      unfold satR at h3
      rw [Bool.and_eq_true] at h3
      exact h3.2
  have he : (knownR rs b).1 = (knRounds rs (b, false) rs.length).1 := closed_stays hro hcl rs.length (Nat.le_refl _)
  have hfull : ∀ n, bt (knownR rs b).1 n ↔ Der rs (bt b) n := by
    intro n
    refine ⟨(hI _).sound n, fun h => ?_⟩
    rw [he]
    exact h.least (hI _).seen (fun r h1 h2 h3 => hcl r h1 h2 h3)
  refine ⟨hfull, (hI _).cl, ?_⟩
  rintro ⟨r, hm, h0, hx⟩
  obtain ⟨i, hi, rfl⟩ := mem_nthR hm
  refine knTo_cl rs _ (j := i + 1) (by omega) ?_
  have hb : (knTo rs (knRounds rs (b, false) rs.length) i).1 &&& bitsL (nthR rs i).1 = bitsL (nthR rs i).1 :=
    (bits_has (hro i hi).1).2 (fun x hx' => knTo_mono rs _ (Nat.zero_le _) _ (by
      have := (hfull _).2 (hx x hx')
      rw [he] at this
      exact this))
  show (kn1 rs (knTo rs (knRounds rs (b, false) rs.length) i) i).2 = true
  unfold kn1
  rw [if_pos hb, if_pos h0]

/-! truths -/
theorem closed_kept {T : Nat → Prop} {rs : List Rl} {k : Rl → Bool} (h : ∀ r ∈ rs, k r = true ↔ ((∀ x ∈ r.1, T x.toNat) → 0 ≤ r.2 ∧ T r.2.toNat)) : rs.all k = true ↔ Closed rs T := by
  rw [List.all_eq_true]
  exact ⟨fun h2 r hr => (h r hr).1 (h2 r hr), fun h2 r hr => (h r hr).2 (h2 r hr)⟩
theorem truthB_iff {seen : List Int} {rs : List Rl} (hs : factsOk seen) (hr : rulesOk rs) (b : Nat) : truthB seen rs b = true ↔ (∀ n, SeenP seen n → bt b n) ∧ Closed rs (bt b) := by
  unfold truthB
  rw [Bool.and_eq_true, beq_iff_eq, bits_has hs, seenP_all hs, closed_kept]
  intro r hm
  obtain ⟨h1, _, h3, _⟩ := rulesOk_mem hr hm
  unfold keepsB
  rw [Bool.or_eq_true, Bool.and_eq_true, decide_eq_true_iff, Bool.not_eq_true', ← bits_has h1]
  constructor
  · rintro (h | h) h2
    · rw [beq_eq_false_iff_ne] at h; exact absurd h2 h
    · exact h
  · intro h
    by_cases h2 : b &&& bitsL r.1 = bitsL r.1
    · exact .inr (h h2)
    · exact .inl (beq_eq_false_iff_ne.2 h2)
theorem isTruthM_iff {seen : List Int} {rs : List Rl} (hs : factsOk seen) (hr : rulesOk rs) (m : List Int) : isTruthM seen rs m = true ↔ (∀ n, SeenP seen n → nth m n ≠ 0) ∧ Closed rs (fun n => nth m n ≠ 0) := by
  unfold isTruthM
  rw [Bool.and_eq_true, hasM_iff, seenP_all hs (T := fun n => nth m n ≠ 0), closed_kept]
  intro r hm
  obtain ⟨h1, _, h3, _⟩ := rulesOk_mem hr hm
  unfold keptM
  rw [Bool.or_eq_true, Bool.and_eq_true, decide_eq_true_iff, Bool.not_eq_true', ← hasM_iff, hasM_iff (l := [r.2])]
  constructor
  · rintro (h | h) h2
    · rw [h] at h2; cases h2
    · exact ⟨h.1, h.2 _ (by simp)⟩
  · intro h
    cases h2 : hasM m r.1 with
    | true =>
      have := h h2
      exact .inr ⟨this.1, fun x hx => by rw [List.mem_singleton.1 hx]; exact this.2⟩
    | false => exact .inl rfl

end Go.Proofs.Ytkioejdddmnbmaa
