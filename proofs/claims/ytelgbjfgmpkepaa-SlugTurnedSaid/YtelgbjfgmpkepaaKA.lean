/- Representation of Go data in the memory of the model: slices of ints that are read, small lemmas for the walks. No condition. A law for 'for x := range f { .. }' at an outermost loop: the iterator's contract speaks of rounds by their number. A region that draws its order, within a round of a range over a function. Laws of the walk for parts of a block that are loaded and stored whole. (Turned from the plea seat's texts.) Lists in memory: cells that are read, lists of the call's own (of whatever elements), appends onto them, in the main code, in a round, in a region that draws its order; makes; lists of lists of ints. A region that draws its order, whose operations read what lay and whose callees lay new blocks alone: one walk in the order of the text. Boxes of arguments. Walk of the reference: Many. -/
import Derived.WalkKit
import Derived.WalkSpells
import Derived.WalkLawsBesides
import Derived.RangeFuncLeaves
import Derived.RangeFuncKeeps
import Derived.Shelf.Abstract
import Derived.Sort.QuietIn
import Derived.RangeFuncCalls
import Derived.OwnWalkIn
import Derived.Laws.CopyOwn
import Derived.ArgAppend
import Derived.Deep.QuietTactic
import Derived.BigQuiet
import Derived.Deep.Upon
import Derived.Laws.OwnMore
import Derived.Test.YtelgbjfgmpkepaaRows
namespace Go.Proofs.Ytelgbjfgmpkepaa
open Go.RowKit

theorem hid {p : Prop} (h : p) : Hid p := h
theorem ret_bool {a b : Bool} (h : a = b) : Ending.returned (.bool a) = .returned (.bool b) := by rw [h]
theorem ret_int {k : IntKind} {a b : Int} (h : a = b) : Ending.returned (.int k a) = .returned (.int k b) := by rw [h]

/-- the element of a list of ints at an index; 0 beyond its end -/
def nth (xs : List Int) (k : Nat) : Int := xs.getD k 0

theorem nth_cons_zero (x : Int) (xs : List Int) : nth (x :: xs) 0 = x := rfl
theorem nth_cons_succ (x : Int) (xs : List Int) (k : Nat) : nth (x :: xs) (k + 1) = nth xs k := rfl
theorem nth_nil (k : Nat) : nth [] k = 0 := by simp [nth]
theorem nth_eq {xs : List Int} {k : Nat} (h : k < xs.length) : nth xs k = xs[k] := by simp [nth, List.getD, h]
theorem nth_of_ge {xs : List Int} {k : Nat} (h : xs.length ≤ k) : nth xs k = 0 := by simp [nth, List.getD, List.getElem?_eq_none h]
theorem nth_mem {xs : List Int} {k : Nat} (h : k < xs.length) : nth xs k ∈ xs := by rw [nth_eq h]; exact List.getElem_mem h
theorem nth_append_left {xs ys : List Int} {k : Nat} (h : k < xs.length) : nth (xs ++ ys) k = nth xs k := by
  simp [nth, List.getD, List.getElem?_append_left h]
theorem nth_append_right (xs ys : List Int) (k : Nat) : nth (xs ++ ys) (xs.length + k) = nth ys k := by
  simp [nth, List.getD, List.getElem?_append_right]
theorem nth_take {xs : List Int} {k n : Nat} (h : k < n) : nth (xs.take n) k = nth xs k := by
  simp [nth, List.getD, h]
theorem nth_drop (xs : List Int) (k n : Nat) : nth (xs.drop n) k = nth xs (n + k) := by
  simp [nth, List.getD, List.getElem?_drop]
theorem take_succ_nth {xs : List Int} {k : Nat} (h : k < xs.length) : xs.take (k + 1) = xs.take k ++ [nth xs k] := by
  rw [List.take_succ_eq_append_getElem h, nth_eq h]
theorem ext_nth {xs ys : List Int} (hl : xs.length = ys.length) (h : ∀ k, k < xs.length → nth xs k = nth ys k) : xs = ys := by
  apply List.ext_getElem hl
  intro i h1 h2
  have := h i h1
  rwa [nth_eq h1, nth_eq h2] at this
theorem all_take_succ (p : Int → Bool) {xs : List Int} {k : Nat} (h : k < xs.length) : (xs.take (k + 1)).all p = ((xs.take k).all p && p (nth xs k)) := by
  rw [take_succ_nth h, List.all_append]; simp
theorem any_take_succ (p : Int → Bool) {xs : List Int} {k : Nat} (h : k < xs.length) : (xs.take (k + 1)).any p = ((xs.take k).any p || p (nth xs k)) := by
  rw [take_succ_nth h, List.any_append]; simp

/-- the cells of a slice of ints -/
def IntsAt (w : World) (a : Option Addr) (xs : List Int) : Prop :=
  xs = [] ∨ ∃ b off, a = some ⟨b, off, none⟩ ∧ ∀ j, j < xs.length → w.cell? ⟨b, off + j, none⟩ = some (.int .i64 (nth xs j))

theorem IntsAt.nil (w : World) (a : Option Addr) : IntsAt w a [] := .inl rfl

theorem IntsAt.at {w : World} {a : Option Addr} {xs : List Int} (h : IntsAt w a xs) {k : Nat} (hk : k < xs.length) :
    ∃ b off, a = some ⟨b, off, none⟩ ∧ w.cell? ⟨b, off + k, none⟩ = some (.int .i64 (nth xs k)) := by
  rcases h with rfl | ⟨b, off, rfl, h⟩
  · simp at hk
  · exact ⟨b, off, rfl, h k hk⟩

theorem IntsAt.cell {w : World} {b off : Nat} {xs : List Int} (h : IntsAt w (some ⟨b, off, none⟩) xs) {k : Nat} (hk : k < xs.length) :
    w.cell? ⟨b, off + k, none⟩ = some (.int .i64 (nth xs k)) := by
  obtain ⟨b', off', e, hc⟩ := h.at hk
  simp at e
  obtain ⟨rfl, rfl⟩ := e
  exact hc

theorem IntsAt.lt {w : World} {b off : Nat} {xs : List Int} (h : IntsAt w (some ⟨b, off, none⟩) xs) (hx : 0 < xs.length) : b < w.heap.size :=
  block_lt_of_cell (h.cell hx)

theorem IntsAt.mono {w w' : World} {a : Option Addr} {xs : List Int} (h : IntsAt w a xs) (hb : Below w.heap.size w w') : IntsAt w' a xs := by
  rcases h with rfl | ⟨b, off, rfl, h⟩
  · exact .inl rfl
  · exact .inr ⟨b, off, rfl, fun j hj => (hb.cell (p := ⟨b, off + j, none⟩) (block_lt_of_cell (h j hj))).trans (h j hj)⟩

theorem IntsAt.take {w : World} {a : Option Addr} {xs : List Int} (h : IntsAt w a xs) (n : Nat) : IntsAt w a (xs.take n) := by
  rcases h with rfl | ⟨b, off, rfl, h⟩
  · exact .inl (by simp)
  · refine .inr ⟨b, off, rfl, fun j hj => ?_⟩
    rw [List.length_take] at hj
    rw [nth_take (by omega)]
    exact h j (by omega)

theorem IntsAt.drop {w : World} {b off : Nat} {xs : List Int} (h : IntsAt w (some ⟨b, off, none⟩) xs) (n : Nat) : IntsAt w (some ⟨b, off + n, none⟩) (xs.drop n) := by
  refine .inr ⟨b, off + n, rfl, fun j hj => ?_⟩
  rw [List.length_drop] at hj
  rw [nth_drop, Nat.add_assoc]
  exact h.cell (by omega)

/-- what is read of an int slice of a new block -/
theorem IntsAt.of_heap {w : World} {b off : Nat} {cs : Array Value} {t : TypeId} {fr : Nat × Nat} {xs : List Int} (hg : w.heap[b]? = some (.cells cs t fr))
    (h : ∀ j, j < xs.length → cs[off + j]? = some (.int .i64 (nth xs j))) : IntsAt w (some ⟨b, off, none⟩) xs :=
  .inr ⟨b, off, rfl, fun j hj => by rw [cell_of_row w b (off + j) cs t fr hg]; exact h j hj⟩


theorem intsAt_new (w : World) (xs : List Int) (b : Nat) (t : TypeId) (hb : b = w.heap.size) : IntsAt (w.alloc (.cells (xs.map (Value.int .i64)).toArray t)) (some ⟨b, 0, none⟩) xs := by
  subst hb
  refine IntsAt.of_heap (heap_alloc_new w _) fun j hj => ?_
  simp [nth_eq hj, hj]

/-- behind a call that lays new blocks: old cells and marks read as before -/
theorem bcell {W w1 : World} (hb : Below W.heap.size W w1) : (∀ b o, b < W.heap.size → w1.cell? ⟨b, o, none⟩ = W.cell? ⟨b, o, none⟩) ∧ (∀ b o, b < W.heap.size → w1.frozen? ⟨b, o, none⟩ = W.frozen? ⟨b, o, none⟩) :=
  ⟨fun b o h => hb.cell (p := ⟨b, o, none⟩) h, fun b o h => hb.frozen (p := ⟨b, o, none⟩) h⟩

/-- a step of new blocks behind another one -/
theorem bstep {a b c : World} (h : Below a.heap.size a b) (k : Below b.heap.size b c) : Below a.heap.size a c := h.trans (k.mono h.size)


theorem cstep {w w1 : World} {p : Addr} {v : Value} (h : w.cell? p = some v) (hB : Below w.heap.size w w1) : w1.cell? p = some v :=
  (hB.cell (block_lt_of_cell h)).trans h

end Go.Proofs.Ytelgbjfgmpkepaa

namespace Go.Proofs.Ytelgbjfgmpkepaa
open Go.RowKit

/-- whatever lay, but the blocks of S, lies as it lay -/
structure Only (S : Nat → Prop) (W W' : World) : Prop where
  os : W'.os = W.os
  tape : W'.tape = W.tape
  output : W'.output = W.output
  size : W.heap.size ≤ W'.heap.size
  block : ∀ k, k < W.heap.size → ¬ S k → W'.heap[k]? = W.heap[k]?

theorem Only.refl (S : Nat → Prop) (W : World) : Only S W W := ⟨rfl, rfl, rfl, Nat.le_refl _, fun _ _ _ => rfl⟩
theorem Only.trans {S : Nat → Prop} {A B C : World} (h : Only S A B) (k : Only S B C) : Only S A C :=
  ⟨k.os.trans h.os, k.tape.trans h.tape, k.output.trans h.output, Nat.le_trans h.size k.size, fun i hi hs => (k.block i (Nat.lt_of_lt_of_le hi h.size) hs).trans (h.block i hi hs)⟩
theorem Only.mono {S T : Nat → Prop} {W W' : World} (h : Only S W W') (hst : ∀ k, S k → T k) : Only T W W' :=
  ⟨h.os, h.tape, h.output, h.size, fun k hk hs => h.block k hk (fun c => hs (hst k c))⟩
theorem Only.of_below {S : Nat → Prop} {W W' : World} (h : Below W.heap.size W W') : Only S W W' :=
  ⟨h.os, h.tape, h.output, h.size, fun k hk _ => h.block k hk⟩
theorem Only.below {S : Nat → Prop} {W W' : World} (h : Only S W W') {B : Nat} (hB : B ≤ W.heap.size) (hs : ∀ k, k < B → ¬ S k) : Below B W W' :=
  ⟨h.os, h.tape, h.output, h.size, fun k hk => h.block k (Nat.lt_of_lt_of_le hk hB) (hs k hk)⟩
theorem Only.putObj {S : Nat → Prop} (W : World) {r : Nat} (hr : S r) (o : Obj) : Only S W (W.putObj r o) :=
  ⟨rfl, rfl, rfl, by simp, fun k _ hs => World.putObj_heap_other (fun e => hs (e ▸ hr))⟩
theorem Only.setCell {S : Nat → Prop} {A W : World} (h : Only S A W) {p : Addr} (hp : S p.block) (v : Value) : Only S A (W.setCell p v) :=
  ⟨h.os, h.tape, h.output, by show A.heap.size ≤ (W.heap.modify _ _).size; rw [Array.size_modify]; exact h.size,
    fun k hk hs => (Below.heap_setCell W p v k (fun e => hs (e ▸ hp))).trans (h.block k hk hs)⟩
theorem Only.alloc {S : Nat → Prop} {A W : World} (h : Only S A W) (o : Obj) : Only S A (W.alloc o) :=
  ⟨h.os, h.tape, h.output, by simp; exact Nat.le_succ_of_le h.size, fun k hk hs => (Below.heap_alloc W o k (Nat.lt_of_lt_of_le hk h.size)).trans (h.block k hk hs)⟩
theorem Only.put1 (W : World) (r : Nat) (o : Obj) : Only (fun b => b = r) W (W.putObj r o) :=
  Only.putObj (S := fun b => b = r) W rfl o
theorem Only.cell {S : Nat → Prop} {W W' : World} (h : Only S W W') {p : Addr} {v : Value} (hc : W.cell? p = some v) (hp : ¬ S p.block) : W'.cell? p = some v :=
  (World.cell?_of_block (h.block _ (block_lt_of_cell hc) hp)).trans hc

/-- THE ITERATOR's CONTRACT: it hands to its rounds, one behind the other, values of which X holds; a round may turn the blocks of S alone. -/
def Gen (P : Program) (gf : Nat) (lb : Array Value) (S : Nat → Prop) (X : Nat → Array Value → World → Prop) (L N : Nat) (Done : Nat → Prop) (w0 : World) : Prop :=
  ∀ (l : Nat) (J Jx : Nat → World → Prop) (W : World), Below w0.heap.size w0 W → w0.heap.size ≤ l → l < W.heap.size → w0.heap.size + 1 < W.heap.size →
    (∀ k W W', J k W → Below W.heap.size W W' → J k W') → (∀ k W W', Jx k W → Below W.heap.size W W' → Jx k W') → (∀ k W, J k W → k ≤ N) →
    (∀ k v W1, J k W1 → X k v W1 → k < L → YieldAt Fence.wide 0 P l v W1 fun e W' =>
      (e = .returned (.bool true) ∧ J (k + 1) W' ∧ Only (fun b => S b ∨ b = l) W1 W') ∨ (e = .returned (.bool false) ∧ Jx (k + 1) W')) →
    J 0 W →
    CallsIn Fence.wide 0 P gf (#[.func (.yield l) #[] #[]] ++ lb) W fun e W' => (∃ v, e = .returned v) ∧ ((∃ k, Done k ∧ J k W') ∨ (∃ k, Jx k W'))

/-- how the body of a round may be left -/
def roundEnds (S : Nat → Prop) (I : Nat → World → Prop) (Ix : Code → Nat → World → Prop) (k : Nat) (W : World) : Exit → Act → World → Prop
  | .normal, _, W' => Only S W W' ∧ I (k + 1) W'
  | .ret, _, W' => Only S W W' ∧ Ix .ret (k + 1) W'
  | .exit id, _, W' => Only S W W' ∧ Ix (.exit id) (k + 1) W'
  | _, _, _ => False

theorem range_law {P : Program} {g : Operand} {ps : Array Tmp} {assign body : Code} {Q : Exit → Act → World → Prop} {a : Act} {w : World}
    {gf : Nat} {lb : Array Value} (hg : a.eval g = .func (.func gf) #[] lb) (eg : ∀ args w, (callFunc gf args).run P w = .ok (.enter gf args) w)
    {S : Nat → Prop} {X : Nat → Array Value → World → Prop} {L N : Nat} {Done : Nat → Prop} (hseq : Gen P gf lb S X L N Done w)
    (hS : ¬ S w.heap.size ∧ ¬ S (w.heap.size + 1)) (hps : ∀ k v W, X k v W → v.size = ps.size)
    (hX : ∀ k v W W', X k v W → Only (fun b => b = w.heap.size + 1) W W' → X k v W')
    (I : Nat → World → Prop) (Ix : Code → Nat → World → Prop)
    (hI : ∀ k W W', I k W → Only (fun b => b = w.heap.size + 1) W W' → I k W')
    (hIx : ∀ c k W W', Ix c k W → Only (fun b => b = w.heap.size + 1) W W' → Ix c k W')
    (hN : ∀ k W, I k W → k ≤ N) (h0 : I 0 w) (a₁ : Array Value → Act)
    (hassign : ∀ (l k : Nat) (v : Array Value) (W : World) (K : Act → World → Prop), X k v W → K (a₁ v) W →
      assign.wpIn (Fence.wide.inRound l) 0 P (Exit.then K (fun _ _ _ => False)) { tmps := (ps.zip v).foldl (fun t (p, v) => t.setIfInBounds p v) a.tmps, defers := [] } W)
    (hbody : ∀ (k : Nat) (v : Array Value) (W : World), w.heap.size + 1 < W.heap.size → I k W → X k v W → k < L → body.wpIn (Fence.wide.inRound (w.heap.size + 1)) 0 P (roundEnds S I Ix k W) (a₁ v) W)
    (hdone : ∀ (k : Nat) (W : World), Done k → I k W → W.heap[w.heap.size]? = some (.deferred (some [])) → w.heap.size < W.heap.size →
      Q .normal { a with defers := { target := .collected w.heap.size, args := #[] } :: a.defers } W)
    (hstop : ∀ (c : Code) (k : Nat) (W : World), Ix c k W → W.heap[w.heap.size]? = some (.deferred (some [])) →
      c.wpIn Fence.wide 0 P Q { a with defers := { target := .collected w.heap.size, args := #[] } :: a.defers } W) :
    (Code.rangeFunc g ps assign body).wpIn Fence.wide 0 P Q a w := by
  refine wpIn_rangeFunc ?_
  intro fn hfn
  rw [show Fence.wide.round = none from rfl]
  obtain ⟨rec, hrec⟩ : ∃ rec : LoopState → Option Code → Loop, rec = fun st pe => { state := st, pending := pe, fn, tmps := a.tmps, params := ps, assign, body, defers := w.heap.size } := ⟨_, rfl⟩
  obtain ⟨W1, hW1⟩ : ∃ W1, (w.alloc (.deferred (some []))).alloc (.loop (rec .ready none)) = W1 := ⟨_, rfl⟩
  have hL1 : W1.heap[w.heap.size + 1]? = some (.loop (rec .ready none)) := by
    rw [← hW1]; have := World.alloc_heap_new (w.alloc (.deferred (some []))) (.loop (rec .ready none)); rwa [World.size_alloc] at this
  have hK1 : W1.heap[w.heap.size]? = some (.deferred (some [])) := by
    rw [← hW1]; exact (Below.heap_alloc _ _ _ (by simp)).trans (World.alloc_heap_new w _)
  have hb1 : Below w.heap.size w W1 := by
    rw [← hW1]; exact ((Below.refl _ w).alloc (Nat.le_refl _) _).alloc (by simp) _
  have hI1 : I 0 W1 := hI _ _ _ h0 (Only.of_below hb1)
  have keep : ∀ {A B : World} {i : Nat} {o : Obj}, Below A.heap.size A B → A.heap[i]? = some o → B.heap[i]? = some o := fun h ho =>
    (h.block _ (Array.getElem?_eq_some_iff.1 ho).1).trans ho
  refine ⟨w.heap.size + 1, [{ target := .collected w.heap.size, args := #[] }], W1, { target := .fn (.func gf) lb, args := #[.func (.yield (w.heap.size + 1)) #[] #[]] }, W1, gf,
    #[.func (.yield (w.heap.size + 1)) #[] #[]] ++ lb, W1, ?_, ?_, ?_, ?_, fun h => by simp [Fence.wide] at h, ?_⟩
  · rw [← hW1, hrec]; exact run_enterLoop_outer _ _ _ _ _
  · simp only [resolve, hg]
    simp [go_sem]
  · intro f' _; trivial
  · simp [invoke, go_sem, eg]
  · refine (hseq (w.heap.size + 1)
      (fun k W => I k W ∧ W.heap[w.heap.size + 1]? = some (.loop (rec .ready none)) ∧ W.heap[w.heap.size]? = some (.deferred (some [])))
      (fun k W => ∃ c, Ix c k W ∧ W.heap[w.heap.size + 1]? = some (.loop (rec .done (some c))) ∧ W.heap[w.heap.size]? = some (.deferred (some [])))
      W1 hb1 (by omega) (Array.getElem?_eq_some_iff.1 hL1).1 (Array.getElem?_eq_some_iff.1 hL1).1
      (fun k A B hs hAB => ⟨hI _ _ _ hs.1 (Only.of_below hAB), keep hAB hs.2.1, keep hAB hs.2.2⟩)
      (fun k A B hs hAB => by
        obtain ⟨c, hc, hl, hk⟩ := hs
        exact ⟨c, hIx _ _ _ _ hc (Only.of_below hAB), keep hAB hl, keep hAB hk⟩)
      (fun k W hs => hN _ _ hs.1)
      ?_ ⟨hI1, hL1, hK1⟩).mono ?_
    · rintro k v W ⟨hi, hl, hk⟩ hx hlen
      have hlt : w.heap.size + 1 < W.heap.size := (Array.getElem?_eq_some_iff.1 hl).1
      have hy := run_yield (P := P) (args := v) hl (by rw [hrec]; exact hps _ _ _ hx)
      rw [hrec] at hy
      refine ⟨fn, _, assign, body, hy, roundIn_of_wpIn hfn (hassign _ k v W _ hx ⟨_, run_beginRound hl (by rw [hrec]), ?_⟩)⟩
      have hl2 : (W.putObj (w.heap.size + 1) (.loop { rec .ready none with state := .busy })).heap[w.heap.size + 1]? = some (.loop { rec .ready none with state := .busy }) := World.putObj_heap_same hlt
      have hk2 : (W.putObj (w.heap.size + 1) (.loop { rec .ready none with state := .busy })).heap[w.heap.size]? = some (.deferred (some [])) := (World.putObj_heap_other (by omega)).trans hk
      have hw2 : Only (fun b => b = w.heap.size + 1) W (W.putObj (w.heap.size + 1) (.loop { rec .ready none with state := .busy })) := Only.put1 _ _ _
      refine wpIn_mono (hbody k v _ (by simp; omega) (hI _ _ _ hi hw2) (hX _ _ _ _ hx hw2) hlen) ?_
      have fin : ∀ (jump : Option Code) (W3 : World), Only S (W.putObj (w.heap.size + 1) (.loop { rec .ready none with state := .busy })) W3 →
          (Instr.endRound (w.heap.size + 1) jump).run P W3 = .ok (.bool jump.isNone) (W3.putObj (w.heap.size + 1) (.loop (rec (if jump.isNone then .ready else .done) jump))) ∧
          (W3.putObj (w.heap.size + 1) (.loop (rec (if jump.isNone then .ready else .done) jump))).heap[w.heap.size + 1]? = some (.loop (rec (if jump.isNone then .ready else .done) jump)) ∧
          (W3.putObj (w.heap.size + 1) (.loop (rec (if jump.isNone then .ready else .done) jump))).heap[w.heap.size]? = some (.deferred (some [])) ∧
          Only (fun b => b = w.heap.size + 1) W3 (W3.putObj (w.heap.size + 1) (.loop (rec (if jump.isNone then .ready else .done) jump))) := fun jump W3 hk3 => by
        have hl3 := (hk3.block _ (by simp; omega) hS.2).trans hl2
        have := run_endRound (P := P) jump hl3
        rw [hrec] at this ⊢
        exact ⟨this, World.putObj_heap_same (Array.getElem?_eq_some_iff.1 hl3).1, (World.putObj_heap_other (by omega)).trans ((hk3.block _ (by simp; omega) hS.1).trans hk2), Only.put1 _ _ _⟩
      rintro e a3 W3 hp
      cases e with
      | normal =>
        obtain ⟨hk3, hi3⟩ := hp
        obtain ⟨hr, hl4, hk4, ho⟩ := fin none W3 hk3
        exact ⟨_, _, hr, .inl ⟨rfl, ⟨hI _ _ _ hi3 ho, hl4, hk4⟩, ((hw2.mono (fun _ h => .inr h)).trans (hk3.mono (fun _ h => .inl h))).trans (ho.mono (fun _ h => .inr h))⟩⟩
      | ret =>
        obtain ⟨hk3, hi3⟩ := hp
        obtain ⟨hr, hl4, hk4, ho⟩ := fin (some .ret) W3 hk3
        exact ⟨_, _, hr, .inr ⟨rfl, .ret, hIx _ _ _ _ hi3 ho, hl4, hk4⟩⟩
      | exit id =>
        obtain ⟨hk3, hi3⟩ := hp
        obtain ⟨hr, hl4, hk4, ho⟩ := fin (some (.exit id)) W3 hk3
        exact ⟨_, _, hr, .inr ⟨rfl, .exit id, hIx _ _ _ _ hi3 ho, hl4, hk4⟩⟩
      | goto t => exact hp.elim
      | panic ch => exact hp.elim
      | outgrown => exact hp.elim
    · rintro e W2 ⟨⟨v, rfl⟩, (⟨k, hS, hi, hl, hk⟩ | ⟨k, c, hi, hl, hk⟩)⟩
      · exact ⟨none, _, by have := run_endLoop (P := P) hl (by rw [hrec]; simp); rw [hrec] at this; exact this, hdone k _ hS (hI _ _ _ hi (Only.put1 _ _ _)) ((World.putObj_heap_other (by omega)).trans hk) (by simp; exact (Array.getElem?_eq_some_iff.1 hk).1)⟩
      · exact ⟨some c, _, by have := run_endLoop (P := P) hl (by rw [hrec]; simp); rw [hrec] at this; exact this, hstop c k _ (hIx _ _ _ _ hi (Only.put1 _ _ _)) ((World.putObj_heap_other (by omega)).trans hk)⟩

end Go.Proofs.Ytelgbjfgmpkepaa

namespace Go.Proofs.Ytelgbjfgmpkepaa
open Go.RowKit

section
variable {F : Fence} {n : Nat} {P : Program} {ops : Array Oper} {Q : Exit → Act → World → Prop} {md : Region.Mode}

theorem uponIn_round (l : Nat) {o : Oper} {a : Act} {K : Act → World → Prop} : ∀ r, o.uponIn F n P a K Q r → o.uponIn (F.inRound l) n P a K Q r
  | .ok x w', h => by cases x <;> simp only [Oper.uponIn] at h ⊢ <;> exact h
  | .halt x w', h => by cases x <;> simp only [Oper.uponIn] at h ⊢ <;> exact h

theorem operIn_round (_hro : F.round = none) (l : Nat) {o : Oper} (hd : ∀ c, o.op ≠ .defer c) {a : Act} {w : World} {K : Act → World → Prop} (h : o.wpIn F n P a w K Q) : o.wpIn (F.inRound l) n P a w K Q := by
  unfold Oper.wpIn at h ⊢
  rw [Oper.semAt_eq _ _ _ hd] at h ⊢
  exact ⟨h.1, uponIn_round l _ h.2⟩

theorem wpOpIn_round (hro : F.round = none) (l : Nat) (hd : ∀ (i : Nat) (o : Oper), ops[i]? = some o → ∀ c, o.op ≠ .defer c) {i : Nat} {a : Act} {w : World} {K : Act → World → Prop} (h : wpOpIn F n P ops Q i K a w) : wpOpIn (F.inRound l) n P ops Q i K a w := by
  unfold wpOpIn at *
  split
  · rename_i hn; simp only [hn] at h; exact h
  · rename_i o ho
    simp only [ho] at h
    split
    · rename_i hw; simp only [hw, if_true] at h; exact operIn_round hro l (hd i o ho) h
    · rename_i hw; simp only [hw] at h; exact h

theorem wpAnyIn_round (hro : F.round = none) (l : Nat) (hd : ∀ (i : Nat) (o : Oper), ops[i]? = some o → ∀ c, o.op ≠ .defer c) : ∀ (fuel : Nat) (listed : Array Bool) (a : Act) (w : World), wpAnyIn F n P md ops Q fuel listed a w → wpAnyIn (F.inRound l) n P md ops Q fuel listed a w
  | 0, _, _, _, h => h
  | fuel + 1, _, _, _, h => ⟨h.1, fun i hi => wpOpIn_round hro l hd (wpOpIn_mono (fun a w h => wpAnyIn_round hro l hd fuel _ a w h) (h.2 i hi))⟩

theorem wpIn_region_quiet_round {id : Nat} {a : Act} {w : World} {lst : List Oper} (l : Nat) (hro : F.round = none) (hm : P.follows .mixedOrders = true) (hB : Region.lexB .any lst.toArray = true)
    (hd : ∀ o ∈ lst, ∀ c, o.op ≠ .defer c)
    (h : wpQuietIn F n P lst.toArray (fun w' => ∃ n, w' = w.drewN n) (fun a' => ∀ w', (∃ n, w' = w.drewN n) → Q .normal a' w') lst a) : (Code.region id lst.toArray true).wpIn (F.inRound l) n P Q a w := by
  have hB' := hB
  simp only [Region.lexB, Bool.and_eq_true] at hB'
  refine wpIn_region_any hm (wpAnyIn_round hro l (fun i o ho => hd o (List.mem_of_getElem? (by simpa using ho))) _ _ _ _ (wpAnyIn_of_quiet (C := fun w' => ∃ n, w' = w.drewN n) (Q := fun a' => ∀ w', (∃ n, w' = w.drewN n) → Q .normal a' w') hro (fun _ w' hw' h => h w' hw') _ _ _ _ ⟨1, rfl⟩ ?_))
  have := wpAnyQIn_lex (F := F) (n := n) (C := fun w' => ∃ n, w' = w.drewN n) (md := .any) hB'.1 lst.toArray.toList 0 (Array.replicate lst.toArray.size false) a (by simp) (by simpa using hB'.2) (by simpa using h)
  simpa using this
end

end Go.Proofs.Ytelgbjfgmpkepaa

namespace Go.Proofs.Ytelgbjfgmpkepaa
open Go.RowKit
variable {P : Program}

theorem run_loadVar_part (w : World) (g off n : Nat) (t ty : TypeId) (cs : Array Value) (fr : Nat × Nat) (d : TypeDesc) (hg : w.heap[g]? = some (.cells cs t fr))
    (hu : P.underlying ty = some d) (hd : (match d with | .struct _ | .array _ _ => true | _ => false) = true) (hi : (P.info? ty).map (·.size) = some n) (hn : off + n ≤ cs.size) :
    (loadVar ty ⟨g, off, none⟩).run P w = .ok (.agg (cs.extract off (off + n))) w := by
  have hlen : (cs.extract off (off + n)).toList.length = n := by simp; omega
  have hl := run_loadCells_list (P := P) w ⟨g, off, none⟩ (cs.extract off (off + n)).toList (fun j v hv => by
      rw [Addr.add_lit, cell_of_row w g (off + j) cs t fr hg]
      have hj : j < n := by
        have := (List.getElem?_eq_some_iff.1 hv).1
        omega
      simp only [Array.toList_extract, List.getElem?_take, List.extract_eq_take_drop] at hv
      rw [if_pos (by omega)] at hv
      simpa using hv)
  cases hq : P.info? ty with
  | none => simp [hq] at hi
  | some i =>
    have hs : i.size = n := by simpa [hq] using hi
    have hagg : (isAgg ty).run P w = .ok true w := by
      unfold isAgg
      rw [Sem.run_bind, run_underlying hu w]
      cases d <;> simp_all
    rw [hlen] at hl
    simp only [Array.toArray_toList] at hl
    simp [loadVar, Sem.run_bind, hagg, sizeOf, typeInfo, hq, hs, hl]

theorem wpList_load_part {ops : Array Oper} {rest : List Oper} {o : Oper} {a : Act} {w : World} {Q : Exit → Act → World → Prop} (hgd : o.guard = none) (ty : TypeId) (x : Operand) (ho : o.op = .load ty x)
    (g off n : Nat) (hx : a.eval x = .pointer (some ⟨g, off, none⟩)) (t : TypeId) (cs : Array Value) (fr : Nat × Nat) (d : TypeDesc) (hg : w.heap[g]? = some (.cells cs t fr))
    (hu : P.underlying ty = some d) (hd : (match d with | .struct _ | .array _ _ => true | _ => false) = true) (hi : (P.info? ty).map (·.size) = some n) (hn : off + n ≤ cs.size)
    (h : wpList P ops Q rest (a.put o.dst (.agg (cs.extract off (off + n)))) w) : wpList P ops Q (o :: rest) a w := by
  refine wpList_plain hgd fun K hK => ?_
  have hr := run_loadVar_part (P := P) w g off n t ty cs fr d hg hu hd hi hn
  unfold Oper.wp
  simp [execOp, ho, hx, Instr.loadAt, Instr.sureAddr, hr, Result.andThen]
  exact hK _ _ h

theorem run_storeVar_part (w : World) (g off n : Nat) (t ty : TypeId) (cs vs : Array Value) (hg : w.heap[g]? = some (.cells cs t (0, 0))) (hi : (P.info? ty).map (·.size) = some n) (hv : vs.size = n)
    (hn : off + n ≤ cs.size) (h1 : ∀ v ∈ vs, v.oneCell' = true) :
    (storeVar ty ⟨g, off, none⟩ (.agg vs)).run P w = .ok () (w.setRow g (cs.toList.take off ++ vs.toList ++ cs.toList.drop (off + n)).toArray) := by
  cases hq : P.info? ty with
  | none => simp [hq] at hi
  | some i =>
    have hs : i.size = n := by simpa [hq] using hi
    have hst := run_storeCells_at (P := P) g off t vs.toList 0 cs w hg (by simp; omega) (by simpa using h1)
    simp only [Nat.add_zero, Array.length_toList, hv] at hst
    simp [storeVar, Sem.run_bind, sizeOf, typeInfo, hq, hs, Value.cells, hv, hst]

theorem setRow_heap {w : World} {g : Nat} {cs ds : Array Value} {t : TypeId} {fr : Nat × Nat} (hg : w.heap[g]? = some (.cells cs t fr)) : (w.setRow g ds).heap[g]? = some (.cells ds t fr) := by
  obtain ⟨hlt, h⟩ := Array.getElem?_eq_some_iff.1 hg
  unfold World.setRow
  show (w.heap.modify g _)[g]? = _
  rw [Array.getElem?_eq_getElem (by rw [Array.size_modify]; exact hlt), Array.getElem_modify_self, h]

theorem setRow_only {w : World} (g : Nat) (ds : Array Value) : Only (fun b => b = g) w (w.setRow g ds) :=
  ⟨rfl, rfl, rfl, by simp, fun k hk hs => by
    unfold World.setRow
    show (w.heap.modify g _)[k]? = _
    rw [Array.getElem?_modify, if_neg (fun e => hs e.symm)]⟩

theorem setCell_only {w : World} (g i : Nat) (v : Value) : Only (fun b => b = g) w (w.setCell ⟨g, i, none⟩ v) := Only.setCell (S := fun b => b = g) (Only.refl _ _) rfl _

/-- a value that lies in one cell is stored into a block that is known whole -/
theorem wpList_store_known {ops : Array Oper} {rest : List Oper} {o : Oper} {a : Act} {w : World} {Q : Exit → Act → World → Prop} (hgd : o.guard = none) (ty : TypeId) (x y : Operand) (ho : o.op = .store ty x y)
    (g i : Nat) (hx : a.eval x = .pointer (some ⟨g, i, none⟩)) (v : Value) (hy : a.eval y = v) (hv : v.oneCell' = true) (t : TypeId) (cs : List Value) (hg : w.heap[g]? = some (.cells cs.toArray t (0, 0)))
    (hi : (P.info? ty).map (·.size) = some 1) (hn : i < cs.length)
    (h : ∀ w', w'.heap[g]? = some (.cells (cs.set i v).toArray t (0, 0)) → Only (fun b => b = g) w w' → wpList P ops Q rest (a.put o.dst undef) w') : wpList P ops Q (o :: rest) a w := by
  refine wpList_plain hgd fun K hK => ?_
  have hcells : v.cells = #[v] := by cases v <;> first | rfl | (simp [Value.oneCell'] at hv)
  have hst := run_storeCells_at (P := P) g i t [v] 0 cs.toArray w hg (by simp; omega) (by simpa using hv)
  simp only [Nat.add_zero, List.length_singleton] at hst
  have hset : cs.take i ++ [v] ++ cs.drop (i + 1) = cs.set i v := by
    rw [List.set_eq_take_append_cons_drop, if_pos hn]; simp
  rw [hset] at hst
  cases hq : P.info? ty with
  | none => simp [hq] at hi
  | some inf =>
    have hs : inf.size = 1 := by simpa [hq] using hi
    unfold Oper.wp
    simp [execOp, ho, hx, hy, Instr.storeAt, Instr.sureAddr, storeVar, Sem.run_bind, sizeOf, typeInfo, hq, hs, hcells, hst, Result.andThen]
    exact hK _ _ (h _ (setRow_heap hg) (setRow_only _ _))

/-- an aggregate is stored into a part of a block that is known whole -/
theorem wpList_store_part {ops : Array Oper} {rest : List Oper} {o : Oper} {a : Act} {w : World} {Q : Exit → Act → World → Prop} (hgd : o.guard = none) (ty : TypeId) (x y : Operand) (ho : o.op = .store ty x y)
    (g off n : Nat) (hx : a.eval x = .pointer (some ⟨g, off, none⟩)) (vs : Array Value) (hy : a.eval y = .agg vs) (t : TypeId) (cs : Array Value) (hg : w.heap[g]? = some (.cells cs t (0, 0)))
    (hi : (P.info? ty).map (·.size) = some n) (hv : vs.size = n) (hn : off + n ≤ cs.size) (h1 : ∀ v ∈ vs, v.oneCell' = true)
    (h : ∀ w', w'.heap[g]? = some (.cells (cs.toList.take off ++ (vs.toList ++ cs.toList.drop (off + n))).toArray t (0, 0)) → Only (fun b => b = g) w w' → wpList P ops Q rest (a.put o.dst undef) w') : wpList P ops Q (o :: rest) a w := by
  refine wpList_plain hgd fun K hK => ?_
  have hst := run_storeVar_part (P := P) w g off n t ty cs vs hg hi hv hn h1
  unfold Oper.wp
  simp [execOp, ho, hx, hy, Instr.storeAt, Instr.sureAddr, hst, Result.andThen]
  exact hK _ _ (h _ (setRow_heap hg) (setRow_only _ _))

end Go.Proofs.Ytelgbjfgmpkepaa

namespace Go.Proofs.Ytelgbjfgmpkepaa
open Go.RowKit

/-- a list's type, and what is known of its elements -/
structure ET (t e : TypeId) (z : Value) (sz nb : Nat) : Prop where
  hu : Try.prog.underlying t = some (.slice e)
  hi : (Try.prog.info? e).map (fun i => (i.zero, i.size, i.bytes)) = some (some z, sz, nb)
  hz : z.cells.size = sz
  hp : 0 < sz
  hb : nb ≤ 64

theorem et22 : ET 22 3 (.int .i64 0) 1 8 := ⟨Try.underlying22, by kernel_rfl, rfl, by decide, by decide⟩
theorem et27 : ET 27 34 (.agg #[.int .i64 0, .int .i64 0]) 2 16 := ⟨Try.underlying27, by kernel_rfl, rfl, by decide, by decide⟩
theorem et42 : ET 42 22 (.slice none 0 0) 1 24 := ⟨Try.underlying42, by kernel_rfl, rfl, by decide, by decide⟩
theorem et54 : ET 54 5 (.int .u8 0) 1 1 := ⟨Try.underlying54, by kernel_rfl, rfl, by decide, by decide⟩
theorem et119 : ET 119 103 (.agg #[.int .i64 0, .int .i64 0, .int .i64 0, .int .i64 0, .int .i64 0, .int .i64 0, .int .i64 0, .int .i64 0]) 8 64 := ⟨Try.underlying119, by kernel_rfl, rfl, by decide, by decide⟩
theorem et124 : ET 124 95 (.agg #[.int .i64 0, .int .i64 0, .int .i64 0, .int .i64 0, .int .i64 0]) 5 40 := ⟨Try.underlying124, by kernel_rfl, rfl, by decide, by decide⟩


def intv (xs : List Int) : List Value := xs.map (Value.int .i64)
theorem intv_length (xs : List Int) : (intv xs).length = xs.length := by simp [intv]
theorem intv_get (xs : List Int) (j : Nat) : (intv xs)[j]? = if j < xs.length then some (.int .i64 (nth xs j)) else none := by
  unfold intv
  split
  · rename_i h; simp [nth_eq h, h]
  · rename_i h; simp at h; simp [h]
theorem intv_append (xs ys : List Int) : intv (xs ++ ys) = intv xs ++ intv ys := by simp [intv]
theorem intv_one (xs : List Int) : ∀ u ∈ intv xs, u.oneCell' = true := by
  intro u hu; simp [intv] at hu; obtain ⟨x, _, rfl⟩ := hu; rfl

/-- the cells of a slice -/
def CellsAt (w : World) (a : Option Addr) (vs : List Value) : Prop :=
  vs = [] ∨ ∃ b off, a = some ⟨b, off, none⟩ ∧ ∀ j v, vs[j]? = some v → w.cell? ⟨b, off + j, none⟩ = some v

theorem CellsAt.nil (w : World) (a : Option Addr) : CellsAt w a [] := .inl rfl
theorem CellsAt.mono {w w' : World} {a : Option Addr} {vs : List Value} (h : CellsAt w a vs) (hb : Below w.heap.size w w') : CellsAt w' a vs := by
  rcases h with rfl | ⟨b, off, rfl, h⟩
  · exact .inl rfl
  · exact .inr ⟨b, off, rfl, fun j v hj => cstep (h j v hj) hb⟩
theorem CellsAt.of_heap {w : World} {b off : Nat} {cs : Array Value} {t : TypeId} {fr : Nat × Nat} {vs : List Value} (hg : w.heap[b]? = some (.cells cs t fr))
    (h : ∀ j v, vs[j]? = some v → cs[off + j]? = some v) : CellsAt w (some ⟨b, off, none⟩) vs :=
  .inr ⟨b, off, rfl, fun j v hj => by rw [cell_of_row w b (off + j) cs t fr hg]; exact h j v hj⟩
theorem cellsAt_ints {w : World} {a : Option Addr} {xs : List Int} : CellsAt w a (intv xs) ↔ IntsAt w a xs := by
  constructor
  · rintro (h | ⟨b, off, rfl, h⟩)
    · exact .inl (by simpa [intv] using h)
    · exact .inr ⟨b, off, rfl, fun j hj => h j _ (by rw [intv_get, if_pos hj])⟩
  · rintro (rfl | ⟨b, off, rfl, h⟩)
    · exact .inl rfl
    · refine .inr ⟨b, off, rfl, fun j v hj => ?_⟩
      rw [intv_get] at hj
      split at hj
      · rename_i hlt; cases hj; exact h j hlt
      · cases hj
theorem cellsAt_one {w : World} {ad : Addr} {v : Value} (hf : ad.spot = none) (h : w.cell? ad = some v) : CellsAt w (some ad) [v] := by
  obtain ⟨b, off, f⟩ := ad
  cases hf
  refine .inr ⟨b, off, rfl, fun j u hj => ?_⟩
  match j, hj with
  | 0, hj => simp at hj; subst hj; exact h
  | j + 1, hj => simp at hj

/-- a slice of the call's own, nil or at the head of a block from B on: its cells -/
def OwnV (e sz B : Nat) (w : World) (ao : Option Addr) (n cap : Nat) (vs : List Value) : Prop := w.ownsRow B e sz (.slice ao n cap) n vs

theorem OwnV.nil (e sz B : Nat) (w : World) : OwnV e sz B w none 0 0 [] := World.ownsRow_nil w B e sz
theorem OwnV.at {e sz B : Nat} {w : World} {ao : Option Addr} {n cap : Nat} {vs : List Value} (h : OwnV e sz B w ao n cap vs) : CellsAt w ao vs := by
  rcases h with ⟨hl, (⟨e, h0⟩ | ⟨g, c, cur, e, hge, hh, hr⟩)⟩
  · exact .inl (List.eq_nil_of_length_eq_zero (by rw [hl, h0, Nat.zero_mul]))
  · cases e
    refine .inr ⟨g, 0, rfl, fun j v hj => ?_⟩
    have := World.ownsRow.cells (v := .slice (some ⟨g, 0, none⟩) n cap) (xs := vs) (n := n) ⟨hl, .inr ⟨g, cap, cur, rfl, hge, hh, hr⟩⟩ (g := g) rfl j v hj
    simpa [Addr.add_lit] using this
theorem OwnV.none {e sz B : Nat} {w : World} {ao : Option Addr} {n cap : Nat} {vs : List Value} (h : OwnV e sz B w ao n cap vs) : ao = none → n = 0 ∧ cap = 0 := by
  rintro rfl
  rcases h.2 with (⟨e, h0⟩ | ⟨g, c, cur, e, hr⟩)
  · cases e; exact ⟨rfl, rfl⟩
  · cases e
theorem OwnV.kept {e sz B : Nat} {w w' : World} {ao : Option Addr} {n cap : Nat} {vs : List Value} (h : OwnV e sz B w ao n cap vs) (hB : Below w.heap.size w w') : OwnV e sz B w' ao n cap vs := by
  refine World.ownsRow.kept (row := Option.none) h ⟨hB.os, hB.tape, hB.output, hB.size, fun k hk _ => hB.block k hk⟩ ?_
  cases ao
  · exact .inl rfl
  · exact .inr (by simp [Value.ownBlock])
theorem OwnV.base {e sz B B' : Nat} {w : World} {ao : Option Addr} {n cap : Nat} {vs : List Value} (h : OwnV e sz B w ao n cap vs) (hb : B' ≤ B) : OwnV e sz B' w ao n cap vs := by
  refine ⟨h.1, ?_⟩
  rcases h.2 with h | ⟨g, c, cur, e, hge, hr⟩
  · exact .inl h
  · exact .inr ⟨g, c, cur, e, Nat.le_trans hb hge, hr⟩
/-- the block of an own list -/
theorem OwnV.block {e sz B : Nat} {w : World} {ao : Option Addr} {n cap : Nat} {vs : List Value} (h : OwnV e sz B w ao n cap vs) {g : Nat} (hg : Value.ownBlock (.slice ao n cap) = some g) :
    B ≤ g ∧ ∃ cur, w.heap[g]? = some (.cells cur e (0, 0)) := by
  rcases h.2 with ⟨e, h0⟩ | ⟨g', c, cur, e, hge, hh, hr⟩
  · cases e; cases hg
  · cases e; simp [Value.ownBlock] at hg; subst hg; exact ⟨hge, cur, hh⟩
/-- it is kept where the blocks of its elements' type from its base on are kept -/
theorem OwnV.keptIf {e sz B : Nat} {w w' : World} {ao : Option Addr} {n cap : Nat} {vs : List Value} (h : OwnV e sz B w ao n cap vs)
    (hk : ∀ g cur, B ≤ g → w.heap[g]? = some (.cells cur e (0, 0)) → w'.heap[g]? = w.heap[g]?) : OwnV e sz B w' ao n cap vs := by
  refine ⟨h.1, ?_⟩
  rcases h.2 with h | ⟨g, c, cur, e, hge, hh, hr⟩
  · exact .inl h
  · exact .inr ⟨g, c, cur, e, hge, (hk g cur hge hh).trans hh, hr⟩
/-- where another list of the call's own grew -/
theorem OwnV.grown {e sz B : Nat} {w w' : World} {ao : Option Addr} {n cap : Nat} {vs : List Value} (h : OwnV e sz B w ao n cap vs) {e2 sz2 B2 : Nat} {ao2 : Option Addr} {n2 cap2 : Nat} {vs2 : List Value}
    (h2 : OwnV e2 sz2 B2 w ao2 n2 cap2 vs2) (hg : w.grownBy w' (Value.ownBlock (.slice ao2 n2 cap2))) (hne : e ≠ e2) : OwnV e sz B w' ao n cap vs :=
  h.keptIf fun g cur _ hh => hg.block g (Array.getElem?_eq_some_iff.1 hh).1 fun c => by
    obtain ⟨_, cur2, hh2⟩ := h2.block c.symm
    rw [hh] at hh2; cases hh2; exact hne rfl
theorem CellsAt.grown {B : Nat} {w w' : World} {a : Option Addr} {vs : List Value} (h : CellsAt w a vs) {row : Option Nat} (hg : w.grownBy w' row) (hr : ∀ k, row = some k → B ≤ k) (ha : ∀ b off, a = some ⟨b, off, none⟩ → b < B) : CellsAt w' a vs := by
  rcases h with rfl | ⟨b, off, rfl, h⟩
  · exact .inl rfl
  · exact .inr ⟨b, off, rfl, fun j v hj => hg.cell (h j v hj) fun c => by have := hr _ c.symm; have := ha b off rfl; simp at *; omega⟩

/-- the run of an append of a list onto a slice of the call's own -/
theorem run_appV {t e : TypeId} {z : Value} {sz nb : Nat} (E : ET t e z sz nb) (ty : TypeId) (w : World) (B : Nat) (ao : Option Addr) (n cap : Nat) (vs : List Value) (hown : OwnV e sz B w ao n cap vs)
    (ax : Option Addr) (m cx : Nat) (ys : List Value) (hy : CellsAt w ax ys) (hl : ys.length = m * sz) (h1 : ∀ u ∈ ys, u.oneCell' = true) (hnil : ax = none → m = 0 ∧ cx = 0) (hb : n + m ≤ 1000000) (hB : B ≤ w.heap.size) :
    ∃ ao' cap' w', (Builtin.append_ #[t, t] ty #[.slice ao n cap, .slice ax m cx]).run Try.prog w = .ok (.slice ao' (n + m) cap') w' ∧
      Below B w w' ∧ OwnV e sz B w' ao' (n + m) cap' (vs ++ ys) ∧ w.grownBy w' (Value.ownBlock (.slice ao n cap)) ∧ (ao' = none → ao = none ∧ m = 0) := by
  obtain ⟨i, hi, hz, hs, hby⟩ := info_parts E.hi
  have hbytes : (n + m) * nb ≤ 140737488355328 := by
    have h1 := Nat.mul_le_mul hb E.hb
    omega
  have fin : ∀ v' w', w'.ownsRow B e sz v' (n + m) (vs ++ ys) → w.grownBy w' (Value.ownBlock (.slice ao n cap)) → (v' = .slice none 0 0 ↔ Value.slice ao n cap = .slice none 0 0 ∧ m = 0) →
      ∃ ao' cap', v' = .slice ao' (n + m) cap' ∧ Below B w w' ∧ OwnV e sz B w' ao' (n + m) cap' (vs ++ ys) ∧ w.grownBy w' (Value.ownBlock (.slice ao n cap)) ∧ (ao' = none → ao = none ∧ m = 0) := by
    intro v' w' r1 r2 r3
    have hbl : Below B w w' := (Below.refl B w).grown r2 hB (fun k e => (World.ownsRow.lt hown k e).1)
    rcases r1 with ⟨hl', (⟨rfl, h0⟩ | ⟨g, c, cur, rfl, hge, hh, hr⟩)⟩
    · obtain ⟨hv, hm⟩ := r3.1 rfl
      cases hv
      exact ⟨none, 0, by rw [h0], hbl, ⟨hl', .inl ⟨by rw [h0], h0⟩⟩, r2, fun _ => ⟨rfl, hm⟩⟩
    · exact ⟨_, c, rfl, hbl, ⟨hl', .inr ⟨g, c, cur, rfl, hge, hh, hr⟩⟩, r2, fun h => by cases h⟩
  cases ax with
  | none =>
    obtain ⟨rfl, rfl⟩ := hnil rfl
    obtain rfl : ys = [] := List.eq_nil_of_length_eq_zero (by rw [hl, Nat.zero_mul])
    refine ⟨ao, cap, w, run_append_owned_none (P := Try.prog) w B t ty e i sz E.hu hi (.slice ao n cap) n vs hown, Below.refl _ _, by rw [List.append_nil]; exact hown, ⟨rfl, rfl, rfl, Nat.le_refl _, fun _ _ _ => rfl⟩, fun h => ⟨h, rfl⟩⟩
  | some ad =>
    by_cases h0 : ys = []
    · subst h0
      obtain ⟨v', w', hrun, r1, r2, r3⟩ := run_append_own (P := Try.prog) w B t ty e i z sz nb E.hu hi hz hs hby E.hz E.hp (.slice ao n cap) n vs hown ad m cx [] hl (by intro j u h; simp at h)
        (by intro u hu; cases hu) (by unfold maxLen; omega) hbytes hB
      obtain ⟨ao', cap', rfl, h⟩ := fin v' w' r1 r2 r3
      exact ⟨ao', cap', w', hrun, h⟩
    · rcases hy with h | ⟨b, off, e', hc⟩
      · exact absurd h h0
      · cases e'
        obtain ⟨v', w', hrun, r1, r2, r3⟩ := run_append_own (P := Try.prog) w B t ty e i z sz nb E.hu hi hz hs hby E.hz E.hp (.slice ao n cap) n vs hown ⟨b, off, none⟩ m cx ys hl (fun j u hj => by rw [Addr.add_lit]; exact hc j u hj)
          h1 (by unfold maxLen; omega) hbytes hB
        obtain ⟨ao', cap', rfl, h⟩ := fin v' w' r1 r2 r3
        exact ⟨ao', cap', w', hrun, h⟩

section
variable {t e : TypeId} {z : Value} {sz nb : Nat} {ops : Array Oper} {rest : List Oper} {o : Oper} {a : Act} {Q : Exit → Act → World → Prop}

theorem wpList_appV (E : ET t e z sz nb) (w : World) (hg : o.guard = none) (s x : Operand) (hop : o.op = Op.call { callee := Callee.builtin Builtin.append, args := #[s, x], argTypes := #[t, t] })
    (B : Nat) (ao : Option Addr) (n cap : Nat) (vs : List Value) (hs : a.eval s = .slice ao n cap) (hown : OwnV e sz B w ao n cap vs)
    (ax : Option Addr) (m cx : Nat) (ys : List Value) (hx : a.eval x = .slice ax m cx) (hy : CellsAt w ax ys) (hl : ys.length = m * sz) (h1 : ∀ u ∈ ys, u.oneCell' = true) (hnil : ax = none → m = 0 ∧ cx = 0) (hb : n + m ≤ 1000000) (hB : B ≤ w.heap.size)
    (hK : ∀ ao' cap' w', Below B w w' → OwnV e sz B w' ao' (n + m) cap' (vs ++ ys) → w.grownBy w' (Value.ownBlock (.slice ao n cap)) → (ao' = none → ao = none ∧ m = 0) →
      wpList Try.prog ops Q rest (a.put o.dst (.slice ao' (n + m) cap')) w') :
    wpList Try.prog ops Q (o :: rest) a w := by
  refine wpList_plain hg fun K hK' => ?_
  obtain ⟨ao', cap', w', hrun, h1, h2, h3, h4⟩ := run_appV E o.type w B ao n cap vs hown ax m cx ys hy hl h1 hnil hb hB
  unfold Oper.wp
  simp [execOp, hop, resolve, invoke, builtin, hs, hx, hrun, Result.andThen]
  exact hK' _ _ (hK ao' cap' w' h1 h2 h3 h4)

theorem wpListIn_appV {F : Fence} {k : Nat} (E : ET t e z sz nb) (w : World) (hg : o.guard = none) (s x : Operand) (hop : o.op = Op.call { callee := Callee.builtin Builtin.append, args := #[s, x], argTypes := #[t, t] })
    (B : Nat) (ao : Option Addr) (n cap : Nat) (vs : List Value) (hs : a.eval s = .slice ao n cap) (hown : OwnV e sz B w ao n cap vs)
    (ax : Option Addr) (m cx : Nat) (ys : List Value) (hx : a.eval x = .slice ax m cx) (hy : CellsAt w ax ys) (hl : ys.length = m * sz) (h1 : ∀ u ∈ ys, u.oneCell' = true) (hnil : ax = none → m = 0 ∧ cx = 0) (hb : n + m ≤ 1000000) (hB : B ≤ w.heap.size)
    (hK : ∀ ao' cap' w', Below B w w' → OwnV e sz B w' ao' (n + m) cap' (vs ++ ys) → w.grownBy w' (Value.ownBlock (.slice ao n cap)) → (ao' = none → ao = none ∧ m = 0) →
      wpListIn F k Try.prog ops Q rest (a.put o.dst (.slice ao' (n + m) cap')) w') :
    wpListIn F k Try.prog ops Q (o :: rest) a w := by
  refine wpListIn_plain hg fun K hK' => ?_
  obtain ⟨ao', cap', w', hrun, h1, h2, h3, h4⟩ := run_appV E o.type w B ao n cap vs hown ax m cx ys hy hl h1 hnil hb hB
  unfold Oper.wpIn
  refine ⟨?_, ?_⟩
  · simp [Oper.about, hop, resolve, Target.leads, Sem.run_pure]
  · rw [Oper.semAt_plain F _ _ (by rw [hop]; intro c hc'; cases hc')]
    simp [execOp, hop, resolve, invoke, builtin, hs, hx, hrun, Result.andThen]
    exact hK' _ _ (hK ao' cap' w' h1 h2 h3 h4)

theorem step_appV {K : Act → World → Prop} {X : Prop} (E : ET t e z sz nb) (w : World) (hgd : o.guard = none) (s x : Operand) (hop : o.op = Op.call { callee := Callee.builtin Builtin.append, args := #[s, x], argTypes := #[t, t] })
    (B : Nat) (ao : Option Addr) (n cap : Nat) (vs : List Value) (hs : a.eval s = .slice ao n cap) (hown : OwnV e sz B w ao n cap vs)
    (ax : Option Addr) (m cx : Nat) (ys : List Value) (hx : a.eval x = .slice ax m cx) (hy : CellsAt w ax ys) (hl : ys.length = m * sz) (h1 : ∀ u ∈ ys, u.oneCell' = true) (hnil : ax = none → m = 0 ∧ cx = 0) (hb : n + m ≤ 1000000) (hB : B ≤ w.heap.size)
    (hK : ∀ ao' cap' w', Below B w w' → OwnV e sz B w' ao' (n + m) cap' (vs ++ ys) → w.grownBy w' (Value.ownBlock (.slice ao n cap)) → (ao' = none → ao = none ∧ m = 0) → K (a.put o.dst (.slice ao' (n + m) cap')) w') :
    if Region.wanted o (yielded ops a.tmps) = true then Oper.wp Try.prog o a w K Q else X := by
  have hw : Region.wanted o (yielded ops a.tmps) = true := by simp [Region.wanted, hgd]
  rw [if_pos hw]
  obtain ⟨ao', cap', w', hrun, h1, h2, h3, h4⟩ := run_appV E o.type w B ao n cap vs hown ax m cx ys hy hl h1 hnil hb hB
  unfold Oper.wp
  simp [execOp, hop, resolve, invoke, builtin, hs, hx, hrun, Result.andThen, Oper.upon]
  exact hK ao' cap' w' h1 h2 h3 h4
end

/-- a list of ints of the call's own -/
def OwnI (e B : Nat) (w : World) (ao : Option Addr) (n cap : Nat) (xs : List Int) : Prop := xs.length = n ∧ OwnV e 1 B w ao n cap (intv xs)
theorem OwnI.nil (e B : Nat) (w : World) : OwnI e B w none 0 0 [] := ⟨rfl, OwnV.nil e 1 B w⟩
theorem OwnI.at {e B : Nat} {w : World} {ao : Option Addr} {n cap : Nat} {xs : List Int} (h : OwnI e B w ao n cap xs) : IntsAt w ao xs := cellsAt_ints.1 h.2.at
theorem OwnI.none {e B : Nat} {w : World} {ao : Option Addr} {n cap : Nat} {xs : List Int} (h : OwnI e B w ao n cap xs) : ao = none → n = 0 ∧ cap = 0 := h.2.none
theorem OwnI.kept {e B : Nat} {w w' : World} {ao : Option Addr} {n cap : Nat} {xs : List Int} (h : OwnI e B w ao n cap xs) (hB : Below w.heap.size w w') : OwnI e B w' ao n cap xs := ⟨h.1, h.2.kept hB⟩
theorem OwnI.base {e B B' : Nat} {w : World} {ao : Option Addr} {n cap : Nat} {xs : List Int} (h : OwnI e B w ao n cap xs) (hb : B' ≤ B) : OwnI e B' w ao n cap xs := ⟨h.1, h.2.base hb⟩
theorem OwnI.keptIf {e B : Nat} {w w' : World} {ao : Option Addr} {n cap : Nat} {xs : List Int} (h : OwnI e B w ao n cap xs)
    (hk : ∀ g cur, B ≤ g → w.heap[g]? = some (.cells cur e (0, 0)) → w'.heap[g]? = w.heap[g]?) : OwnI e B w' ao n cap xs := ⟨h.1, h.2.keptIf hk⟩
theorem OwnI.app {e B : Nat} {w : World} {ao : Option Addr} {n m cap : Nat} {xs ys : List Int} (hx : xs.length = n) (hy : ys.length = m) (h : OwnV e 1 B w ao (n + m) cap (intv xs ++ intv ys)) : OwnI e B w ao (n + m) cap (xs ++ ys) :=
  ⟨by rw [List.length_append, hx, hy], by rw [intv_append]; exact h⟩

theorem madeInts (n : Nat) : madeCells #[.int .i64 0] n = (intv (List.replicate n 0)).toArray := by
  apply Array.ext'
  simp only [madeCells, intv, List.map_replicate]
  rw [List.eq_replicate_iff]
  refine ⟨by simp, fun v hv => ?_⟩
  simp at hv
  obtain ⟨a, _, rfl⟩ := hv
  simp [Nat.mod_one]
/-- a make of ints -/
theorem run_make_ints {t e : TypeId} (E : ET t e (.int .i64 0) 1 8) (w : World) (n m : Nat) (hnm : n ≤ m) (hm : m ≤ 1000000) : (Instr.makeSlice t (.int .i64 n) (.int .i64 m)).run Try.prog w =
    .ok (.slice (some ⟨w.heap.size, 0, none⟩) n m) (w.alloc (.cells (intv (List.replicate m 0)).toArray e)) := by
  obtain ⟨i, hi, hz, hs, hby⟩ := info_parts E.hi
  have := run_make (P := Try.prog) (w := w) t e i (.int .i64 0) E.hu hi hz .i64 .i64 n m (by omega) (by omega) (by rw [hby]; omega) (by omega)
  rw [this, hs]
  simp only [Int.toNat_natCast, Nat.mul_one, Value.cells, madeInts]
theorem ownI_make (e B : Nat) (w : World) (xs : List Int) (hB : B ≤ w.heap.size) (hn : xs.length ≤ 1000000) : OwnI e B (w.alloc (.cells (intv xs).toArray e)) (some ⟨w.heap.size, 0, none⟩) xs.length xs.length xs :=
  ⟨rfl, by simp [intv_length], .inr ⟨w.heap.size, xs.length, _, rfl, hB, heap_alloc_new w _, Nat.le_refl _, by unfold maxLen; omega, by simp [intv_length], by rw [Nat.mul_one, ← intv_length xs]; exact List.take_length⟩⟩

/-- a list of lists -/
def nthL (ls : List (List Int)) (k : Nat) : List Int := ls.getD k []
theorem nthL_eq {ls : List (List Int)} {k : Nat} (h : k < ls.length) : nthL ls k = ls[k] := by simp [nthL, List.getD, h]
theorem nthL_append_left {xs ys : List (List Int)} {k : Nat} (h : k < xs.length) : nthL (xs ++ ys) k = nthL xs k := by
  simp [nthL, List.getD, List.getElem?_append_left h]
theorem nthL_mem {ls : List (List Int)} {k : Nat} (h : k < ls.length) : nthL ls k ∈ ls := by rw [nthL_eq h]; exact List.getElem_mem h
theorem nthL_append_new (xs : List (List Int)) (y : List Int) : nthL (xs ++ [y]) xs.length = y := by simp [nthL, List.getD]
theorem extL {xs ys : List (List Int)} (hl : xs.length = ys.length) (h : ∀ k, k < xs.length → nthL xs k = nthL ys k) : xs = ys := by
  apply List.ext_getElem hl
  intro i h1 h2
  have := h i h1
  rwa [nthL_eq h1, nthL_eq h2] at this

/-- lists of ints in memory, that are read -/
def RowsAt (w : World) (a : Option Addr) (ls : List (List Int)) : Prop :=
  ls = [] ∨ ∃ b off, a = some ⟨b, off, none⟩ ∧ ∀ j, j < ls.length → ∃ ra rc, w.cell? ⟨b, off + j, none⟩ = some (.slice ra (nthL ls j).length rc) ∧ IntsAt w ra (nthL ls j) ∧ (ra = none → rc = 0)
theorem RowsAt.nil (w : World) (a : Option Addr) : RowsAt w a [] := .inl rfl
theorem RowsAt.at {w : World} {a : Option Addr} {ls : List (List Int)} (h : RowsAt w a ls) {j : Nat} (hj : j < ls.length) :
    ∃ b off ra rc, a = some ⟨b, off, none⟩ ∧ w.cell? ⟨b, off + j, none⟩ = some (.slice ra (nthL ls j).length rc) ∧ IntsAt w ra (nthL ls j) ∧ (ra = none → rc = 0) := by
  rcases h with rfl | ⟨b, off, rfl, h⟩
  · simp at hj
  · obtain ⟨ra, rc, h⟩ := h j hj; exact ⟨b, off, ra, rc, rfl, h⟩
theorem RowsAt.mono {w w' : World} {a : Option Addr} {ls : List (List Int)} (h : RowsAt w a ls) (hb : Below w.heap.size w w') : RowsAt w' a ls := by
  rcases h with rfl | ⟨b, off, rfl, h⟩
  · exact .inl rfl
  · refine .inr ⟨b, off, rfl, fun j hj => ?_⟩
    obtain ⟨ra, rc, h1, h2, h3⟩ := h j hj
    exact ⟨ra, rc, cstep h1 hb, h2.mono hb, h3⟩
theorem RowsAt.take {w : World} {a : Option Addr} {ls : List (List Int)} (h : RowsAt w a ls) (n : Nat) : RowsAt w a (ls.take n) := by
  rcases h with rfl | ⟨b, off, rfl, h⟩
  · exact .inl (by simp)
  · refine .inr ⟨b, off, rfl, fun j hj => ?_⟩
    rw [List.length_take] at hj
    have e : nthL (ls.take n) j = nthL ls j := by unfold nthL; rw [List.getD, List.getElem?_take, if_pos (by omega)]; rfl
    rw [e]; exact h j (by omega)

/-- a list of lists of ints of the call's own: its cells are slices of the call's own -/
structure OwnR (er ee B : Nat) (w : World) (ao : Option Addr) (n cap : Nat) (ls : List (List Int)) (vs : List Value) : Prop where
  own : OwnV er 1 B w ao n cap vs
  len : ls.length = n
  row : ∀ j, j < n → ∃ ra rc, vs[j]? = some (.slice ra (nthL ls j).length rc) ∧ OwnI ee B w ra (nthL ls j).length rc (nthL ls j)
theorem OwnR.nil (er ee B : Nat) (w : World) : OwnR er ee B w none 0 0 [] [] := ⟨OwnV.nil _ _ _ _, rfl, fun j hj => absurd hj (by omega)⟩
theorem OwnR.at {er ee B : Nat} {w : World} {ao : Option Addr} {n cap : Nat} {ls : List (List Int)} {vs : List Value} (h : OwnR er ee B w ao n cap ls vs) : RowsAt w ao ls := by
  rcases h.own.at with hv | ⟨b, off, rfl, hc⟩
  · have := h.own.1
    rw [hv] at this
    simp at this
    exact .inl (List.eq_nil_of_length_eq_zero (by rw [h.len, ← this]))
  · refine .inr ⟨b, off, rfl, fun j hj => ?_⟩
    obtain ⟨ra, rc, h1, h2⟩ := h.row j (by rw [← h.len]; exact hj)
    exact ⟨ra, rc, hc j _ h1, h2.at, fun hn => (h2.none hn).2⟩
theorem OwnR.kept {er ee B : Nat} {w w' : World} {ao : Option Addr} {n cap : Nat} {ls : List (List Int)} {vs : List Value} (h : OwnR er ee B w ao n cap ls vs) (hB : Below w.heap.size w w') : OwnR er ee B w' ao n cap ls vs :=
  ⟨h.own.kept hB, h.len, fun j hj => by obtain ⟨ra, rc, h1, h2⟩ := h.row j hj; exact ⟨ra, rc, h1, h2.kept hB⟩⟩
theorem OwnR.base {er ee B B' : Nat} {w : World} {ao : Option Addr} {n cap : Nat} {ls : List (List Int)} {vs : List Value} (h : OwnR er ee B w ao n cap ls vs) (hb : B' ≤ B) : OwnR er ee B' w ao n cap ls vs :=
  ⟨h.own.base hb, h.len, fun j hj => by obtain ⟨ra, rc, h1, h2⟩ := h.row j hj; exact ⟨ra, rc, h1, h2.base hb⟩⟩
theorem OwnR.keptIf {er ee B : Nat} {w w' : World} {ao : Option Addr} {n cap : Nat} {ls : List (List Int)} {vs : List Value} (h : OwnR er ee B w ao n cap ls vs)
    (hk : ∀ g cur t, (t = er ∨ t = ee) → B ≤ g → w.heap[g]? = some (.cells cur t (0, 0)) → w'.heap[g]? = w.heap[g]?) : OwnR er ee B w' ao n cap ls vs :=
  ⟨h.own.keptIf fun g cur hg hh => hk g cur er (.inl rfl) hg hh, h.len, fun j hj => by
    obtain ⟨ra, rc, h1, h2⟩ := h.row j hj
    exact ⟨ra, rc, h1, h2.keptIf fun g cur hg hh => hk g cur ee (.inr rfl) hg hh⟩⟩
/-- where a list of ints of the call's own stays, as the list of lists grew -/
theorem OwnI.grownR {er ee B : Nat} {w w' : World} {ao : Option Addr} {n cap : Nat} {vs : List Value} (h : OwnV er 1 B w ao n cap vs) (hne : ee ≠ er) (hg : w.grownBy w' (Value.ownBlock (.slice ao n cap))) {B2 : Nat} {a : Option Addr} {m c : Nat} {xs : List Int} (hx : OwnI ee B2 w a m c xs) : OwnI ee B2 w' a m c xs :=
  ⟨hx.1, hx.2.grown h hg hne⟩
/-- one list more -/
theorem OwnR.app {er ee B : Nat} {w w' : World} {ao ao' : Option Addr} {n cap cap' : Nat} {ls : List (List Int)} {vs : List Value} (h : OwnR er ee B w ao n cap ls vs) (hne : ee ≠ er) (hg : w.grownBy w' (Value.ownBlock (.slice ao n cap)))
    {a : Option Addr} {m c : Nat} {xs : List Int} (hx : OwnI ee B w a m c xs) (h' : OwnV er 1 B w' ao' (n + 1) cap' (vs ++ [.slice a m c])) : OwnR er ee B w' ao' (n + 1) cap' (ls ++ [xs]) (vs ++ [.slice a m c]) := by
  have hl : vs.length = n := by have := h.own.1; omega
  obtain rfl := hx.1
  refine ⟨h', by rw [List.length_append, h.len]; rfl, fun j hj => ?_⟩
  by_cases e : j < n
  · obtain ⟨ra, rc, h1, h2⟩ := h.row j e
    rw [nthL_append_left (by rw [h.len]; exact e)]
    exact ⟨ra, rc, by rw [List.getElem?_append_left (by omega)]; exact h1, OwnI.grownR h.own hne hg h2⟩
  · obtain rfl : j = ls.length := by rw [h.len]; omega
    rw [nthL_append_new]
    exact ⟨a, c, by rw [h.len, ← hl]; simp, OwnI.grownR h.own hne hg hx⟩

end Go.Proofs.Ytelgbjfgmpkepaa

namespace Go.Proofs.Ytelgbjfgmpkepaa
open Go.RowKit Go.Shelf

theorem bnew (w : World) (o : Obj) : Below w.heap.size w (w.alloc o) := (Below.refl _ w).alloc (Nat.le_refl _) o

/-- a world with new blocks alone -/
structure Later (w : World) where
  w' : World
  h : Below w.heap.size w w'

instance (w : World) : Nonempty (Later w) := ⟨⟨w, Below.refl _ _⟩⟩

theorem Below.drewSelf (w : World) : Below w.heap.size w w.drew := ⟨rfl, rfl, rfl, Nat.le_refl _, fun _ _ => rfl⟩

section
variable {P : Program} {id : Nat} {Q : Exit → Act → World → Prop} {a : Act} {w : World} {l : List Oper}
/-- ONE WALK OF THE TEXT's ORDER: reads of what lay, calls that lay new blocks -/
theorem wp_region_later (hm : P.follows .mixedOrders = true) (hB : Region.lexB .any l.toArray = true)
    (h : wpQuiet P l.toArray (fun w' => ∃ s : Later w, w' = s.w') (fun a' => ∀ w', (∃ s : Later w, w' = s.w') → Q .normal a' w') l a) : (Code.region id l.toArray true).wp P Q a w :=
  wp_region_quiet (C := fun w' => ∃ s : Later w, w' = s.w') hm hB ⟨⟨w.drew, Below.drewSelf w⟩, rfl⟩ (by simpa using h)
/-- the same in a round -/
theorem wpIn_region_later {F : Fence} {n : Nat} (i : Nat) (hro : F.round = none) (hm : P.follows .mixedOrders = true) (hB : Region.lexB .any l.toArray = true) (hd : ∀ o ∈ l, ∀ c, o.op ≠ .defer c)
    (h : wpQuietIn F n P l.toArray (fun w' => ∃ s : Later w, w' = s.w') (fun a' => ∀ w', (∃ s : Later w, w' = s.w') → Q .normal a' w') l a) : (Code.region id l.toArray true).wpIn (F.inRound i) n P Q a w := by
  have hB' := hB
  simp only [Region.lexB, Bool.and_eq_true] at hB'
  refine wpIn_region_any hm (wpAnyIn_round hro i (fun j o ho => hd o (List.mem_of_getElem? (by simpa using ho))) _ _ _ _ (wpAnyIn_of_quiet (C := fun w' => ∃ s : Later w, w' = s.w') (Q := fun a' => ∀ w', (∃ s : Later w, w' = s.w') → Q .normal a' w') hro (fun _ w' hw' h => h w' hw') _ _ _ _ ⟨⟨w.drew, Below.drewSelf w⟩, rfl⟩ ?_))
  have := wpAnyQIn_lex (F := F) (n := n) (C := fun w' => ∃ s : Later w, w' = s.w') (md := .any) hB'.1 l.toArray.toList 0 (Array.replicate l.toArray.size false) a (by simp) (by simpa using hB'.2) (by simpa using h)
  simpa using this
end
/-- a call in such a region -/
theorem callsLater {P : Program} {f : FuncId} {args : Array Value} {w : World} {s : Later w} {v : Value} (h : Calls P f args s.w' fun e w2 => e = .returned v ∧ Below s.w'.heap.size s.w' w2) :
    Calls P f args s.w' fun e w2 => e = .returned v ∧ ∃ s' : Later w, w2 = s'.w' := h.mono fun _ w2 ⟨he, hB⟩ => ⟨he, ⟨⟨w2, bstep s.h hB⟩, rfl⟩⟩
theorem callsLaterIn {P : Program} {f : FuncId} {args : Array Value} {w : World} {s : Later w} {v : Value} {n : Nat} (h : Calls P f args s.w' fun e w2 => e = .returned v ∧ Below s.w'.heap.size s.w' w2) :
    CallsIn Fence.wide n P f args s.w' fun e w2 => e = .returned v ∧ ∃ s' : Later w, w2 = s'.w' := callsIn_wide.2 (callsLater h)

section
variable {t e : TypeId} {z : Value} {sz nb : Nat} {ops : Array Oper} {rest : List Oper} {o : Oper} {a : Act} {Q : Exit → Act → World → Prop}
/-- one element more, out of a new block -/
theorem wpList_app1 (E : ET t e z sz nb) (w : World) (hg : o.guard = none) (s x : Operand) (hop : o.op = Op.call { callee := Callee.builtin Builtin.append, args := #[s, x], argTypes := #[t, t] })
    (B : Nat) (ao : Option Addr) (n cap : Nat) (vs : List Value) (hs : a.eval s = .slice ao n cap) (hown : OwnV e sz B w ao n cap vs)
    (ys : List Value) (hx : a.eval x = .slice (some ⟨w.heap.size, 0, none⟩) 1 1) (hl : ys.length = sz) (h1 : ∀ u ∈ ys, u.oneCell' = true) (hb : n + 1 ≤ 1000000) (hB : B ≤ w.heap.size)
    (hK : ∀ ao' cap' w', Below B w w' → OwnV e sz B w' ao' (n + 1) cap' (vs ++ ys) → wpList Try.prog ops Q rest (a.put o.dst (.slice ao' (n + 1) cap')) w') :
    wpList Try.prog ops Q (o :: rest) a (w.alloc (.cells ys.toArray e)) :=
  wpList_appV E _ hg s x hop B ao n cap vs hs (hown.kept (bnew _ _)) (some ⟨w.heap.size, 0, none⟩) 1 1 ys hx (CellsAt.of_heap (heap_alloc_new w _) fun j v hj => by simpa using hj) (by rw [hl, Nat.one_mul]) h1 (fun h => by cases h) hb
    (Nat.le_trans hB (bnew w _).size) fun ao' cap' w' h2 h3 _ _ => hK ao' cap' w' (((bnew w _).mono hB).trans h2) h3
theorem wpListIn_app1 {F : Fence} {k : Nat} (E : ET t e z sz nb) (w : World) (hg : o.guard = none) (s x : Operand) (hop : o.op = Op.call { callee := Callee.builtin Builtin.append, args := #[s, x], argTypes := #[t, t] })
    (B : Nat) (ao : Option Addr) (n cap : Nat) (vs : List Value) (hs : a.eval s = .slice ao n cap) (hown : OwnV e sz B w ao n cap vs)
    (ys : List Value) (hx : a.eval x = .slice (some ⟨w.heap.size, 0, none⟩) 1 1) (hl : ys.length = sz) (h1 : ∀ u ∈ ys, u.oneCell' = true) (hb : n + 1 ≤ 1000000) (hB : B ≤ w.heap.size)
    (hK : ∀ ao' cap' w', Below B w w' → OwnV e sz B w' ao' (n + 1) cap' (vs ++ ys) → wpListIn F k Try.prog ops Q rest (a.put o.dst (.slice ao' (n + 1) cap')) w') :
    wpListIn F k Try.prog ops Q (o :: rest) a (w.alloc (.cells ys.toArray e)) :=
  wpListIn_appV E _ hg s x hop B ao n cap vs hs (hown.kept (bnew _ _)) (some ⟨w.heap.size, 0, none⟩) 1 1 ys hx (CellsAt.of_heap (heap_alloc_new w _) fun j v hj => by simpa using hj) (by rw [hl, Nat.one_mul]) h1 (fun h => by cases h) hb
    (Nat.le_trans hB (bnew w _).size) fun ao' cap' w' h2 h3 _ _ => hK ao' cap' w' (((bnew w _).mono hB).trans h2) h3
end

section
variable (w : World) (x0 x1 y0 y1 z0 z1 : Value) (t u v : TypeId)
theorem box1 : ∃ W, W = w.alloc (.cells #[x0, x1] t) ∧ Below w.heap.size w W ∧ W.cell? ⟨w.heap.size, 0, none⟩ = some x0 ∧ W.cell? ⟨w.heap.size, 1, none⟩ = some x1 :=
  ⟨_, rfl, bnew w _, by simp [go_sem], by simp [go_sem]⟩
theorem box2 : ∃ W, W = (w.alloc (.cells #[x0, x1] t)).alloc (.cells #[y0, y1] u) ∧ Below w.heap.size w W ∧ W.cell? ⟨w.heap.size, 0, none⟩ = some x0 ∧ W.cell? ⟨w.heap.size, 1, none⟩ = some x1 ∧
    W.cell? ⟨w.heap.size + 1, 0, none⟩ = some y0 ∧ W.cell? ⟨w.heap.size + 1, 1, none⟩ = some y1 :=
  ⟨_, rfl, bstep (bnew w _) (bnew _ _), by simp [go_sem], by simp [go_sem], by simp [go_sem], by simp [go_sem]⟩
theorem box3 : ∃ W, W = ((w.alloc (.cells #[x0, x1] t)).alloc (.cells #[y0, y1] u)).alloc (.cells #[z0, z1] v) ∧ Below w.heap.size w W ∧ W.cell? ⟨w.heap.size, 0, none⟩ = some x0 ∧ W.cell? ⟨w.heap.size, 1, none⟩ = some x1 ∧
    W.cell? ⟨w.heap.size + 1, 0, none⟩ = some y0 ∧ W.cell? ⟨w.heap.size + 1, 1, none⟩ = some y1 ∧ W.cell? ⟨w.heap.size + 1 + 1, 0, none⟩ = some z0 ∧ W.cell? ⟨w.heap.size + 1 + 1, 1, none⟩ = some z1 :=
  ⟨_, rfl, bstep (bstep (bnew w _) (bnew _ _)) (bnew _ _), by simp [go_sem], by simp [go_sem], by simp [go_sem], by simp [go_sem], by simp [go_sem], by simp [go_sem]⟩
end


end Go.Proofs.Ytelgbjfgmpkepaa
