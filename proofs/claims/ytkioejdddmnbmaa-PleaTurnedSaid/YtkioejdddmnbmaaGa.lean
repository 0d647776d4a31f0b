/- Representation of Go data in the memory of the model: slices of ints that are read, small lemmas for the walks. No condition. A law for 'for x := range f { .. }' at an outermost loop: the iterator's contract speaks of rounds by their number. No condition. A region that draws its order, within a round of a range over a function: one walk of its operations serves, if they only read. Laws of the walk for parts of a block that are loaded and stored whole, and for single cells of a block that is known whole. Over any program. Laws of the walk for append onto a full slice of ints, made for []int (type 22) and int (type 3). Aggregates of a seat's own types, loaded and stored whole, as rules of the walk at the operation itself. Walks: within, ContainsFunc, IndexFunc, Equal, CheckRow, isBits, Same. Append of a list onto a slice of ints without room: nothing that lay is written. Appends onto a list of the call's own: of a list; at a step of a region that draws its order. (Turned from the drum seat's Lb, Ld.) -/
import Derived.WalkKit
import Derived.WalkSpells
import Derived.WalkLawsBesides
import Derived.RangeFuncLeaves
import Derived.RangeFuncKeeps
import Derived.Shelf.Abstract
import Derived.Sort.QuietIn
import Derived.RangeFuncCalls
import Derived.OwnWalkIn
import Derived.Laws.CopyOwn
import Derived.Test.YtkioejdddmnbmaaRows
import Derived.ArgAppend
import Derived.Deep.QuietTactic
import Derived.BigQuiet
import Derived.Deep.Upon
import Derived.Deep.RegionHeld3
import Derived.Laws.OwnMore
import Derived.Deep.DeepCutAuto
import Derived.BigRegion
import Derived.Deep.RegionWith
import Derived.StillTailTactics
namespace Go.Proofs.Ytkioejdddmnbmaa
open Go.RowKit

theorem hid {p : Prop} (h : p) : Hid p := h
theorem ret_bool {a b : Bool} (h : a = b) : Ending.returned (.bool a) = .returned (.bool b) := by rw [h]
theorem ret_int {k : IntKind} {a b : Int} (h : a = b) : Ending.returned (.int k a) = .returned (.int k b) := by rw [h]

/-- the element of a list of ints at an index; 0 beyond its end -/
def nth (xs : List Int) (k : Nat) : Int := xs.getD k 0

theorem nth_cons_zero (x : Int) (xs : List Int) : nth (x :: xs) 0 = x := rfl
theorem nth_cons_succ (x : Int) (xs : List Int) (k : Nat) : nth (x :: xs) (k + 1) = nth xs k := rfl
theorem nth_nil (k : Nat) : nth [] k = 0 := by simp [nth]
theorem nth_eq {xs : List Int} {k : Nat} (h : k < xs.length) : nth xs k = xs[k] := by simp [nth, List.getD, h]
theorem nth_of_ge {xs : List Int} {k : Nat} (h : xs.length ≤ k) : nth xs k = 0 := by simp [nth, List.getD, List.getElem?_eq_none h]
theorem nth_mem {xs : List Int} {k : Nat} (h : k < xs.length) : nth xs k ∈ xs := by rw [nth_eq h]; exact List.getElem_mem h
theorem nth_append_left {xs ys : List Int} {k : Nat} (h : k < xs.length) : nth (xs ++ ys) k = nth xs k := by
  simp [nth, List.getD, List.getElem?_append_left h]
theorem nth_append_right (xs ys : List Int) (k : Nat) : nth (xs ++ ys) (xs.length + k) = nth ys k := by
  simp [nth, List.getD, List.getElem?_append_right]
theorem nth_take {xs : List Int} {k n : Nat} (h : k < n) : nth (xs.take n) k = nth xs k := by
  simp [nth, List.getD, h]
theorem nth_drop (xs : List Int) (k n : Nat) : nth (xs.drop n) k = nth xs (n + k) := by
  simp [nth, List.getD, List.getElem?_drop]
theorem take_succ_nth {xs : List Int} {k : Nat} (h : k < xs.length) : xs.take (k + 1) = xs.take k ++ [nth xs k] := by
  rw [List.take_succ_eq_append_getElem h, nth_eq h]
theorem ext_nth {xs ys : List Int} (hl : xs.length = ys.length) (h : ∀ k, k < xs.length → nth xs k = nth ys k) : xs = ys := by
  apply List.ext_getElem hl
  intro i h1 h2
  have := h i h1
  rwa [nth_eq h1, nth_eq h2] at this
theorem all_take_succ (p : Int → Bool) {xs : List Int} {k : Nat} (h : k < xs.length) : (xs.take (k + 1)).all p = ((xs.take k).all p && p (nth xs k)) := by
  rw [take_succ_nth h, List.all_append]; simp
theorem any_take_succ (p : Int → Bool) {xs : List Int} {k : Nat} (h : k < xs.length) : (xs.take (k + 1)).any p = ((xs.take k).any p || p (nth xs k)) := by
  rw [take_succ_nth h, List.any_append]; simp

/-- the cells of a slice of ints -/
def IntsAt (w : World) (a : Option Addr) (xs : List Int) : Prop :=
  xs = [] ∨ ∃ b off, a = some ⟨b, off, none⟩ ∧ ∀ j, j < xs.length → w.cell? ⟨b, off + j, none⟩ = some (.int .i64 (nth xs j))

theorem IntsAt.nil (w : World) (a : Option Addr) : IntsAt w a [] := .inl rfl

theorem IntsAt.at {w : World} {a : Option Addr} {xs : List Int} (h : IntsAt w a xs) {k : Nat} (hk : k < xs.length) :
    ∃ b off, a = some ⟨b, off, none⟩ ∧ w.cell? ⟨b, off + k, none⟩ = some (.int .i64 (nth xs k)) := by
  rcases h with rfl | ⟨b, off, rfl, h⟩
  · simp at hk
  · exact ⟨b, off, rfl, h k hk⟩

theorem IntsAt.cell {w : World} {b off : Nat} {xs : List Int} (h : IntsAt w (some ⟨b, off, none⟩) xs) {k : Nat} (hk : k < xs.length) :
    w.cell? ⟨b, off + k, none⟩ = some (.int .i64 (nth xs k)) := by
  obtain ⟨b', off', e, hc⟩ := h.at hk
  simp at e
  obtain ⟨rfl, rfl⟩ := e
  exact hc

theorem IntsAt.lt {w : World} {b off : Nat} {xs : List Int} (h : IntsAt w (some ⟨b, off, none⟩) xs) (hx : 0 < xs.length) : b < w.heap.size :=
  block_lt_of_cell (h.cell hx)

theorem IntsAt.mono {w w' : World} {a : Option Addr} {xs : List Int} (h : IntsAt w a xs) (hb : Below w.heap.size w w') : IntsAt w' a xs := by
  rcases h with rfl | ⟨b, off, rfl, h⟩
  · exact .inl rfl
  · exact .inr ⟨b, off, rfl, fun j hj => (hb.cell (p := ⟨b, off + j, none⟩) (block_lt_of_cell (h j hj))).trans (h j hj)⟩

theorem IntsAt.take {w : World} {a : Option Addr} {xs : List Int} (h : IntsAt w a xs) (n : Nat) : IntsAt w a (xs.take n) := by
  rcases h with rfl | ⟨b, off, rfl, h⟩
  · exact .inl (by simp)
  · refine .inr ⟨b, off, rfl, fun j hj => ?_⟩
    rw [List.length_take] at hj
    rw [nth_take (by omega)]
    exact h j (by omega)

theorem IntsAt.drop {w : World} {b off : Nat} {xs : List Int} (h : IntsAt w (some ⟨b, off, none⟩) xs) (n : Nat) : IntsAt w (some ⟨b, off + n, none⟩) (xs.drop n) := by
  refine .inr ⟨b, off + n, rfl, fun j hj => ?_⟩
  rw [List.length_drop] at hj
  rw [nth_drop, Nat.add_assoc]
  exact h.cell (by omega)

/-- what is read of an int slice of a new block -/
theorem IntsAt.of_heap {w : World} {b off : Nat} {cs : Array Value} {t : TypeId} {fr : Nat × Nat} {xs : List Int} (hg : w.heap[b]? = some (.cells cs t fr))
    (h : ∀ j, j < xs.length → cs[off + j]? = some (.int .i64 (nth xs j))) : IntsAt w (some ⟨b, off, none⟩) xs :=
  .inr ⟨b, off, rfl, fun j hj => by rw [cell_of_row w b (off + j) cs t fr hg]; exact h j hj⟩


theorem intsAt_new (w : World) (xs : List Int) (b : Nat) (t : TypeId) (hb : b = w.heap.size) : IntsAt (w.alloc (.cells (xs.map (Value.int .i64)).toArray t)) (some ⟨b, 0, none⟩) xs := by
  subst hb
  refine IntsAt.of_heap (heap_alloc_new w _) fun j hj => ?_
  simp [nth_eq hj, hj]

/-- behind a call that lays new blocks: old cells and marks read as before -/
theorem bcell {W w1 : World} (hb : Below W.heap.size W w1) : (∀ b o, b < W.heap.size → w1.cell? ⟨b, o, none⟩ = W.cell? ⟨b, o, none⟩) ∧ (∀ b o, b < W.heap.size → w1.frozen? ⟨b, o, none⟩ = W.frozen? ⟨b, o, none⟩) :=
  ⟨fun b o h => hb.cell (p := ⟨b, o, none⟩) h, fun b o h => hb.frozen (p := ⟨b, o, none⟩) h⟩

/-- a step of new blocks behind another one -/
theorem bstep {a b c : World} (h : Below a.heap.size a b) (k : Below b.heap.size b c) : Below a.heap.size a c := h.trans (k.mono h.size)


theorem cstep {w w1 : World} {p : Addr} {v : Value} (h : w.cell? p = some v) (hB : Below w.heap.size w w1) : w1.cell? p = some v :=
  (hB.cell (block_lt_of_cell h)).trans h

end Go.Proofs.Ytkioejdddmnbmaa

namespace Go.Proofs.Ytkioejdddmnbmaa
open Go.RowKit

/-- whatever lay, but the blocks of S, lies as it lay -/
structure Only (S : Nat → Prop) (W W' : World) : Prop where
  os : W'.os = W.os
  tape : W'.tape = W.tape
  output : W'.output = W.output
  size : W.heap.size ≤ W'.heap.size
  block : ∀ k, k < W.heap.size → ¬ S k → W'.heap[k]? = W.heap[k]?

theorem Only.refl (S : Nat → Prop) (W : World) : Only S W W := ⟨rfl, rfl, rfl, Nat.le_refl _, fun _ _ _ => rfl⟩
theorem Only.trans {S : Nat → Prop} {A B C : World} (h : Only S A B) (k : Only S B C) : Only S A C :=
  ⟨k.os.trans h.os, k.tape.trans h.tape, k.output.trans h.output, Nat.le_trans h.size k.size, fun i hi hs => (k.block i (Nat.lt_of_lt_of_le hi h.size) hs).trans (h.block i hi hs)⟩
theorem Only.mono {S T : Nat → Prop} {W W' : World} (h : Only S W W') (hst : ∀ k, S k → T k) : Only T W W' :=
  ⟨h.os, h.tape, h.output, h.size, fun k hk hs => h.block k hk (fun c => hs (hst k c))⟩
theorem Only.of_below {S : Nat → Prop} {W W' : World} (h : Below W.heap.size W W') : Only S W W' :=
  ⟨h.os, h.tape, h.output, h.size, fun k hk _ => h.block k hk⟩
theorem Only.below {S : Nat → Prop} {W W' : World} (h : Only S W W') {B : Nat} (hB : B ≤ W.heap.size) (hs : ∀ k, k < B → ¬ S k) : Below B W W' :=
  ⟨h.os, h.tape, h.output, h.size, fun k hk => h.block k (Nat.lt_of_lt_of_le hk hB) (hs k hk)⟩
theorem Only.putObj {S : Nat → Prop} (W : World) {r : Nat} (hr : S r) (o : Obj) : Only S W (W.putObj r o) :=
  ⟨rfl, rfl, rfl, by simp, fun k _ hs => World.putObj_heap_other (fun e => hs (e ▸ hr))⟩
theorem Only.setCell {S : Nat → Prop} {A W : World} (h : Only S A W) {p : Addr} (hp : S p.block) (v : Value) : Only S A (W.setCell p v) :=
  ⟨h.os, h.tape, h.output, by show A.heap.size ≤ (W.heap.modify _ _).size; rw [Array.size_modify]; exact h.size,
    fun k hk hs => (Below.heap_setCell W p v k (fun e => hs (e ▸ hp))).trans (h.block k hk hs)⟩
theorem Only.alloc {S : Nat → Prop} {A W : World} (h : Only S A W) (o : Obj) : Only S A (W.alloc o) :=
  ⟨h.os, h.tape, h.output, by simp; exact Nat.le_succ_of_le h.size, fun k hk hs => (Below.heap_alloc W o k (Nat.lt_of_lt_of_le hk h.size)).trans (h.block k hk hs)⟩
theorem Only.put1 (W : World) (r : Nat) (o : Obj) : Only (fun b => b = r) W (W.putObj r o) :=
  Only.putObj (S := fun b => b = r) W rfl o
theorem Only.cell {S : Nat → Prop} {W W' : World} (h : Only S W W') {p : Addr} {v : Value} (hc : W.cell? p = some v) (hp : ¬ S p.block) : W'.cell? p = some v :=
  (World.cell?_of_block (h.block _ (block_lt_of_cell hc) hp)).trans hc

/-- THE ITERATOR's CONTRACT: it hands to its rounds, one behind the other, values of which X holds; a round may turn the blocks of S alone. -/
def Gen (P : Program) (gf : Nat) (lb : Array Value) (S : Nat → Prop) (X : Nat → Array Value → World → Prop) (L N : Nat) (Done : Nat → Prop) (w0 : World) : Prop :=
  ∀ (l : Nat) (J Jx : Nat → World → Prop) (W : World), Below w0.heap.size w0 W → w0.heap.size ≤ l → l < W.heap.size →
    (∀ k W W', J k W → Below W.heap.size W W' → J k W') → (∀ k W W', Jx k W → Below W.heap.size W W' → Jx k W') → (∀ k W, J k W → k ≤ N) →
    (∀ k v W1, J k W1 → X k v W1 → k < L → YieldAt Fence.wide 0 P l v W1 fun e W' =>
      (e = .returned (.bool true) ∧ J (k + 1) W' ∧ Only (fun b => S b ∨ b = l) W1 W') ∨ (e = .returned (.bool false) ∧ Jx (k + 1) W')) →
    J 0 W →
    CallsIn Fence.wide 0 P gf (#[.func (.yield l) #[] #[]] ++ lb) W fun e W' => (∃ v, e = .returned v) ∧ ((∃ k, Done k ∧ J k W') ∨ (∃ k, Jx k W'))

/-- how the body of a round may be left -/
def roundEnds (S : Nat → Prop) (I : Nat → World → Prop) (Ix : Code → Nat → World → Prop) (k : Nat) (W : World) : Exit → Act → World → Prop
  | .normal, _, W' => Only S W W' ∧ I (k + 1) W'
  | .ret, _, W' => Only S W W' ∧ Ix .ret (k + 1) W'
  | .exit id, _, W' => Only S W W' ∧ Ix (.exit id) (k + 1) W'
  | _, _, _ => False

theorem range_law {P : Program} {g : Operand} {ps : Array Tmp} {assign body : Code} {Q : Exit → Act → World → Prop} {a : Act} {w : World}
    {gf : Nat} {lb : Array Value} (hg : a.eval g = .func (.func gf) #[] lb) (eg : ∀ args w, (callFunc gf args).run P w = .ok (.enter gf args) w)
    {S : Nat → Prop} {X : Nat → Array Value → World → Prop} {L N : Nat} {Done : Nat → Prop} (hseq : Gen P gf lb S X L N Done w)
    (hS : ¬ S w.heap.size ∧ ¬ S (w.heap.size + 1)) (hps : ∀ k v W, X k v W → v.size = ps.size)
    (hX : ∀ k v W W', X k v W → Only (fun b => b = w.heap.size + 1) W W' → X k v W')
    (I : Nat → World → Prop) (Ix : Code → Nat → World → Prop)
    (hI : ∀ k W W', I k W → Only (fun b => b = w.heap.size + 1) W W' → I k W')
    (hIx : ∀ c k W W', Ix c k W → Only (fun b => b = w.heap.size + 1) W W' → Ix c k W')
    (hN : ∀ k W, I k W → k ≤ N) (h0 : I 0 w) (a₁ : Array Value → Act)
    (hassign : ∀ (l k : Nat) (v : Array Value) (W : World) (K : Act → World → Prop), X k v W → K (a₁ v) W →
      assign.wpIn (Fence.wide.inRound l) 0 P (Exit.then K (fun _ _ _ => False)) { tmps := (ps.zip v).foldl (fun t (p, v) => t.setIfInBounds p v) a.tmps, defers := [] } W)
    (hbody : ∀ (k : Nat) (v : Array Value) (W : World), w.heap.size + 1 < W.heap.size → I k W → X k v W → k < L → body.wpIn (Fence.wide.inRound (w.heap.size + 1)) 0 P (roundEnds S I Ix k W) (a₁ v) W)
    (hdone : ∀ (k : Nat) (W : World), Done k → I k W → W.heap[w.heap.size]? = some (.deferred (some [])) → w.heap.size < W.heap.size →
      Q .normal { a with defers := { target := .collected w.heap.size, args := #[] } :: a.defers } W)
    (hstop : ∀ (c : Code) (k : Nat) (W : World), Ix c k W → W.heap[w.heap.size]? = some (.deferred (some [])) →
      c.wpIn Fence.wide 0 P Q { a with defers := { target := .collected w.heap.size, args := #[] } :: a.defers } W) :
    (Code.rangeFunc g ps assign body).wpIn Fence.wide 0 P Q a w := by
  refine wpIn_rangeFunc ?_
  intro fn hfn
  rw [show Fence.wide.round = none from rfl]
  obtain ⟨rec, hrec⟩ : ∃ rec : LoopState → Option Code → Loop, rec = fun st pe => { state := st, pending := pe, fn, tmps := a.tmps, params := ps, assign, body, defers := w.heap.size } := ⟨_, rfl⟩
  obtain ⟨W1, hW1⟩ : ∃ W1, (w.alloc (.deferred (some []))).alloc (.loop (rec .ready none)) = W1 := ⟨_, rfl⟩
  have hL1 : W1.heap[w.heap.size + 1]? = some (.loop (rec .ready none)) := by
    rw [← hW1]; have := World.alloc_heap_new (w.alloc (.deferred (some []))) (.loop (rec .ready none)); rwa [World.size_alloc] at this
  have hK1 : W1.heap[w.heap.size]? = some (.deferred (some [])) := by
    rw [← hW1]; exact (Below.heap_alloc _ _ _ (by simp)).trans (World.alloc_heap_new w _)
  have hb1 : Below w.heap.size w W1 := by
    rw [← hW1]; exact ((Below.refl _ w).alloc (Nat.le_refl _) _).alloc (by simp) _
  have hI1 : I 0 W1 := hI _ _ _ h0 (Only.of_below hb1)
  have keep : ∀ {A B : World} {i : Nat} {o : Obj}, Below A.heap.size A B → A.heap[i]? = some o → B.heap[i]? = some o := fun h ho =>
    (h.block _ (Array.getElem?_eq_some_iff.1 ho).1).trans ho
  refine ⟨w.heap.size + 1, [{ target := .collected w.heap.size, args := #[] }], W1, { target := .fn (.func gf) lb, args := #[.func (.yield (w.heap.size + 1)) #[] #[]] }, W1, gf,
    #[.func (.yield (w.heap.size + 1)) #[] #[]] ++ lb, W1, ?_, ?_, ?_, ?_, fun h => by simp [Fence.wide] at h, ?_⟩
  · rw [← hW1, hrec]; exact run_enterLoop_outer _ _ _ _ _
  · simp only [resolve, hg]
    simp [go_sem]
  · intro f' _; trivial
  · simp [invoke, go_sem, eg]
  · refine (hseq (w.heap.size + 1)
      (fun k W => I k W ∧ W.heap[w.heap.size + 1]? = some (.loop (rec .ready none)) ∧ W.heap[w.heap.size]? = some (.deferred (some [])))
      (fun k W => ∃ c, Ix c k W ∧ W.heap[w.heap.size + 1]? = some (.loop (rec .done (some c))) ∧ W.heap[w.heap.size]? = some (.deferred (some [])))
      W1 hb1 (by omega) (Array.getElem?_eq_some_iff.1 hL1).1
      (fun k A B hs hAB => ⟨hI _ _ _ hs.1 (Only.of_below hAB), keep hAB hs.2.1, keep hAB hs.2.2⟩)
      (fun k A B hs hAB => by
        obtain ⟨c, hc, hl, hk⟩ := hs
        exact ⟨c, hIx _ _ _ _ hc (Only.of_below hAB), keep hAB hl, keep hAB hk⟩)
      (fun k W hs => hN _ _ hs.1)
      ?_ ⟨hI1, hL1, hK1⟩).mono ?_
    · rintro k v W ⟨hi, hl, hk⟩ hx hlen
      have hlt : w.heap.size + 1 < W.heap.size := (Array.getElem?_eq_some_iff.1 hl).1
      have hy := run_yield (P := P) (args := v) hl (by rw [hrec]; exact hps _ _ _ hx)
      rw [hrec] at hy
      refine ⟨fn, _, assign, body, hy, roundIn_of_wpIn hfn (hassign _ k v W _ hx ⟨_, run_beginRound hl (by rw [hrec]), ?_⟩)⟩
      have hl2 : (W.putObj (w.heap.size + 1) (.loop { rec .ready none with state := .busy })).heap[w.heap.size + 1]? = some (.loop { rec .ready none with state := .busy }) := World.putObj_heap_same hlt
      have hk2 : (W.putObj (w.heap.size + 1) (.loop { rec .ready none with state := .busy })).heap[w.heap.size]? = some (.deferred (some [])) := (World.putObj_heap_other (by omega)).trans hk
      have hw2 : Only (fun b => b = w.heap.size + 1) W (W.putObj (w.heap.size + 1) (.loop { rec .ready none with state := .busy })) := Only.put1 _ _ _
      refine wpIn_mono (hbody k v _ (by simp; omega) (hI _ _ _ hi hw2) (hX _ _ _ _ hx hw2) hlen) ?_
      have fin : ∀ (jump : Option Code) (W3 : World), Only S (W.putObj (w.heap.size + 1) (.loop { rec .ready none with state := .busy })) W3 →
          (Instr.endRound (w.heap.size + 1) jump).run P W3 = .ok (.bool jump.isNone) (W3.putObj (w.heap.size + 1) (.loop (rec (if jump.isNone then .ready else .done) jump))) ∧
          (W3.putObj (w.heap.size + 1) (.loop (rec (if jump.isNone then .ready else .done) jump))).heap[w.heap.size + 1]? = some (.loop (rec (if jump.isNone then .ready else .done) jump)) ∧
          (W3.putObj (w.heap.size + 1) (.loop (rec (if jump.isNone then .ready else .done) jump))).heap[w.heap.size]? = some (.deferred (some [])) ∧
          Only (fun b => b = w.heap.size + 1) W3 (W3.putObj (w.heap.size + 1) (.loop (rec (if jump.isNone then .ready else .done) jump))) := fun jump W3 hk3 => by
        have hl3 := (hk3.block _ (by simp; omega) hS.2).trans hl2
        have := run_endRound (P := P) jump hl3
        rw [hrec] at this ⊢
        exact ⟨this, World.putObj_heap_same (Array.getElem?_eq_some_iff.1 hl3).1, (World.putObj_heap_other (by omega)).trans ((hk3.block _ (by simp; omega) hS.1).trans hk2), Only.put1 _ _ _⟩
      rintro e a3 W3 hp
      cases e with
      | normal =>
        obtain ⟨hk3, hi3⟩ := hp
        obtain ⟨hr, hl4, hk4, ho⟩ := fin none W3 hk3
        exact ⟨_, _, hr, .inl ⟨rfl, ⟨hI _ _ _ hi3 ho, hl4, hk4⟩, ((hw2.mono (fun _ h => .inr h)).trans (hk3.mono (fun _ h => .inl h))).trans (ho.mono (fun _ h => .inr h))⟩⟩
      | ret =>
        obtain ⟨hk3, hi3⟩ := hp
        obtain ⟨hr, hl4, hk4, ho⟩ := fin (some .ret) W3 hk3
        exact ⟨_, _, hr, .inr ⟨rfl, .ret, hIx _ _ _ _ hi3 ho, hl4, hk4⟩⟩
      | exit id =>
        obtain ⟨hk3, hi3⟩ := hp
        obtain ⟨hr, hl4, hk4, ho⟩ := fin (some (.exit id)) W3 hk3
        exact ⟨_, _, hr, .inr ⟨rfl, .exit id, hIx _ _ _ _ hi3 ho, hl4, hk4⟩⟩
      | goto t => exact hp.elim
      | panic ch => exact hp.elim
      | outgrown => exact hp.elim
    · rintro e W2 ⟨⟨v, rfl⟩, (⟨k, hS, hi, hl, hk⟩ | ⟨k, c, hi, hl, hk⟩)⟩
      · exact ⟨none, _, by have := run_endLoop (P := P) hl (by rw [hrec]; simp); rw [hrec] at this; exact this, hdone k _ hS (hI _ _ _ hi (Only.put1 _ _ _)) ((World.putObj_heap_other (by omega)).trans hk) (by simp; exact (Array.getElem?_eq_some_iff.1 hk).1)⟩
      · exact ⟨some c, _, by have := run_endLoop (P := P) hl (by rw [hrec]; simp); rw [hrec] at this; exact this, hstop c k _ (hIx _ _ _ _ hi (Only.put1 _ _ _)) ((World.putObj_heap_other (by omega)).trans hk)⟩

end Go.Proofs.Ytkioejdddmnbmaa

namespace Go.Proofs.Ytkioejdddmnbmaa
open Go.RowKit

section
variable {F : Fence} {n : Nat} {P : Program} {ops : Array Oper} {Q : Exit → Act → World → Prop} {md : Region.Mode}

theorem uponIn_round (l : Nat) {o : Oper} {a : Act} {K : Act → World → Prop} : ∀ r, o.uponIn F n P a K Q r → o.uponIn (F.inRound l) n P a K Q r
  | .ok x w', h => by cases x <;> simp only [Oper.uponIn] at h ⊢ <;> exact h
  | .halt x w', h => by cases x <;> simp only [Oper.uponIn] at h ⊢ <;> exact h

theorem operIn_round (_hro : F.round = none) (l : Nat) {o : Oper} (hd : ∀ c, o.op ≠ .defer c) {a : Act} {w : World} {K : Act → World → Prop} (h : o.wpIn F n P a w K Q) : o.wpIn (F.inRound l) n P a w K Q := by
  unfold Oper.wpIn at h ⊢
  rw [Oper.semAt_eq _ _ _ hd] at h ⊢
  exact ⟨h.1, uponIn_round l _ h.2⟩

theorem wpOpIn_round (hro : F.round = none) (l : Nat) (hd : ∀ (i : Nat) (o : Oper), ops[i]? = some o → ∀ c, o.op ≠ .defer c) {i : Nat} {a : Act} {w : World} {K : Act → World → Prop} (h : wpOpIn F n P ops Q i K a w) : wpOpIn (F.inRound l) n P ops Q i K a w := by
  unfold wpOpIn at *
  split
  · rename_i hn; simp only [hn] at h; exact h
  · rename_i o ho
    simp only [ho] at h
    split
    · rename_i hw; simp only [hw, if_true] at h; exact operIn_round hro l (hd i o ho) h
    · rename_i hw; simp only [hw] at h; exact h

theorem wpAnyIn_round (hro : F.round = none) (l : Nat) (hd : ∀ (i : Nat) (o : Oper), ops[i]? = some o → ∀ c, o.op ≠ .defer c) : ∀ (fuel : Nat) (listed : Array Bool) (a : Act) (w : World), wpAnyIn F n P md ops Q fuel listed a w → wpAnyIn (F.inRound l) n P md ops Q fuel listed a w
  | 0, _, _, _, h => h
  | fuel + 1, _, _, _, h => ⟨h.1, fun i hi => wpOpIn_round hro l hd (wpOpIn_mono (fun a w h => wpAnyIn_round hro l hd fuel _ a w h) (h.2 i hi))⟩

theorem wpIn_region_quiet_round {id : Nat} {a : Act} {w : World} {lst : List Oper} (l : Nat) (hro : F.round = none) (hm : P.follows .mixedOrders = true) (hB : Region.lexB .any lst.toArray = true)
    (hd : ∀ o ∈ lst, ∀ c, o.op ≠ .defer c)
    (h : wpQuietIn F n P lst.toArray (fun w' => ∃ n, w' = w.drewN n) (fun a' => ∀ w', (∃ n, w' = w.drewN n) → Q .normal a' w') lst a) : (Code.region id lst.toArray true).wpIn (F.inRound l) n P Q a w := by
  have hB' := hB
  simp only [Region.lexB, Bool.and_eq_true] at hB'
  refine wpIn_region_any hm (wpAnyIn_round hro l (fun i o ho => hd o (List.mem_of_getElem? (by simpa using ho))) _ _ _ _ (wpAnyIn_of_quiet (C := fun w' => ∃ n, w' = w.drewN n) (Q := fun a' => ∀ w', (∃ n, w' = w.drewN n) → Q .normal a' w') hro (fun _ w' hw' h => h w' hw') _ _ _ _ ⟨1, rfl⟩ ?_))
  have := wpAnyQIn_lex (F := F) (n := n) (C := fun w' => ∃ n, w' = w.drewN n) (md := .any) hB'.1 lst.toArray.toList 0 (Array.replicate lst.toArray.size false) a (by simp) (by simpa using hB'.2) (by simpa using h)
  simpa using this
end

end Go.Proofs.Ytkioejdddmnbmaa

namespace Go.Proofs.Ytkioejdddmnbmaa
open Go.RowKit
variable {P : Program}

theorem run_loadVar_part (w : World) (g off n : Nat) (t ty : TypeId) (cs : Array Value) (fr : Nat × Nat) (d : TypeDesc) (hg : w.heap[g]? = some (.cells cs t fr))
    (hu : P.underlying ty = some d) (hd : (match d with | .struct _ | .array _ _ => true | _ => false) = true) (hi : (P.info? ty).map (·.size) = some n) (hn : off + n ≤ cs.size) :
    (loadVar ty ⟨g, off, none⟩).run P w = .ok (.agg (cs.extract off (off + n))) w := by
  have hlen : (cs.extract off (off + n)).toList.length = n := by simp; omega
  have hl := run_loadCells_list (P := P) w ⟨g, off, none⟩ (cs.extract off (off + n)).toList (fun j v hv => by
      rw [Addr.add_lit, cell_of_row w g (off + j) cs t fr hg]
      have hj : j < n := by
        have := (List.getElem?_eq_some_iff.1 hv).1
        omega
      simp only [Array.toList_extract, List.getElem?_take, List.extract_eq_take_drop] at hv
      rw [if_pos (by omega)] at hv
      simpa using hv)
  cases hq : P.info? ty with
  | none => simp [hq] at hi
  | some i =>
    have hs : i.size = n := by simpa [hq] using hi
    have hagg : (isAgg ty).run P w = .ok true w := by
      unfold isAgg
      rw [Sem.run_bind, run_underlying hu w]
      cases d <;> simp_all
    rw [hlen] at hl
    simp only [Array.toArray_toList] at hl
    simp [loadVar, Sem.run_bind, hagg, sizeOf, typeInfo, hq, hs, hl]

theorem wpList_load_part {ops : Array Oper} {rest : List Oper} {o : Oper} {a : Act} {w : World} {Q : Exit → Act → World → Prop} (hgd : o.guard = none) (ty : TypeId) (x : Operand) (ho : o.op = .load ty x)
    (g off n : Nat) (hx : a.eval x = .pointer (some ⟨g, off, none⟩)) (t : TypeId) (cs : Array Value) (fr : Nat × Nat) (d : TypeDesc) (hg : w.heap[g]? = some (.cells cs t fr))
    (hu : P.underlying ty = some d) (hd : (match d with | .struct _ | .array _ _ => true | _ => false) = true) (hi : (P.info? ty).map (·.size) = some n) (hn : off + n ≤ cs.size)
    (h : wpList P ops Q rest (a.put o.dst (.agg (cs.extract off (off + n)))) w) : wpList P ops Q (o :: rest) a w := by
  refine wpList_plain hgd fun K hK => ?_
  have hr := run_loadVar_part (P := P) w g off n t ty cs fr d hg hu hd hi hn
  unfold Oper.wp
  simp [execOp, ho, hx, Instr.loadAt, Instr.sureAddr, hr, Result.andThen]
  exact hK _ _ h

theorem run_storeVar_part (w : World) (g off n : Nat) (t ty : TypeId) (cs vs : Array Value) (hg : w.heap[g]? = some (.cells cs t (0, 0))) (hi : (P.info? ty).map (·.size) = some n) (hv : vs.size = n)
    (hn : off + n ≤ cs.size) (h1 : ∀ v ∈ vs, v.oneCell' = true) :
    (storeVar ty ⟨g, off, none⟩ (.agg vs)).run P w = .ok () (w.setRow g (cs.toList.take off ++ vs.toList ++ cs.toList.drop (off + n)).toArray) := by
  cases hq : P.info? ty with
  | none => simp [hq] at hi
  | some i =>
    have hs : i.size = n := by simpa [hq] using hi
    have hst := run_storeCells_at (P := P) g off t vs.toList 0 cs w hg (by simp; omega) (by simpa using h1)
    simp only [Nat.add_zero, Array.length_toList, hv] at hst
    simp [storeVar, Sem.run_bind, sizeOf, typeInfo, hq, hs, Value.cells, hv, hst]

theorem setRow_heap {w : World} {g : Nat} {cs ds : Array Value} {t : TypeId} {fr : Nat × Nat} (hg : w.heap[g]? = some (.cells cs t fr)) : (w.setRow g ds).heap[g]? = some (.cells ds t fr) := by
  obtain ⟨hlt, h⟩ := Array.getElem?_eq_some_iff.1 hg
  unfold World.setRow
  show (w.heap.modify g _)[g]? = _
  rw [Array.getElem?_eq_getElem (by rw [Array.size_modify]; exact hlt), Array.getElem_modify_self, h]

theorem setRow_only {w : World} (g : Nat) (ds : Array Value) : Only (fun b => b = g) w (w.setRow g ds) :=
  ⟨rfl, rfl, rfl, by simp, fun k hk hs => by
    unfold World.setRow
    show (w.heap.modify g _)[k]? = _
    rw [Array.getElem?_modify, if_neg (fun e => hs e.symm)]⟩

theorem setCell_only {w : World} (g i : Nat) (v : Value) : Only (fun b => b = g) w (w.setCell ⟨g, i, none⟩ v) := Only.setCell (S := fun b => b = g) (Only.refl _ _) rfl _

/-- a value that lies in one cell is stored into a block that is known whole -/
theorem wpList_store_known {ops : Array Oper} {rest : List Oper} {o : Oper} {a : Act} {w : World} {Q : Exit → Act → World → Prop} (hgd : o.guard = none) (ty : TypeId) (x y : Operand) (ho : o.op = .store ty x y)
    (g i : Nat) (hx : a.eval x = .pointer (some ⟨g, i, none⟩)) (v : Value) (hy : a.eval y = v) (hv : v.oneCell' = true) (t : TypeId) (cs : List Value) (hg : w.heap[g]? = some (.cells cs.toArray t (0, 0)))
    (hi : (P.info? ty).map (·.size) = some 1) (hn : i < cs.length)
    (h : ∀ w', w'.heap[g]? = some (.cells (cs.set i v).toArray t (0, 0)) → Only (fun b => b = g) w w' → wpList P ops Q rest (a.put o.dst undef) w') : wpList P ops Q (o :: rest) a w := by
  refine wpList_plain hgd fun K hK => ?_
  have hcells : v.cells = #[v] := by cases v <;> first | rfl | (simp [Value.oneCell'] at hv)
  have hst := run_storeCells_at (P := P) g i t [v] 0 cs.toArray w hg (by simp; omega) (by simpa using hv)
  simp only [Nat.add_zero, List.length_singleton] at hst
  have hset : cs.take i ++ [v] ++ cs.drop (i + 1) = cs.set i v := by
    rw [List.set_eq_take_append_cons_drop, if_pos hn]; simp
  rw [hset] at hst
  cases hq : P.info? ty with
  | none => simp [hq] at hi
  | some inf =>
    have hs : inf.size = 1 := by simpa [hq] using hi
    unfold Oper.wp
    simp [execOp, ho, hx, hy, Instr.storeAt, Instr.sureAddr, storeVar, Sem.run_bind, sizeOf, typeInfo, hq, hs, hcells, hst, Result.andThen]
    exact hK _ _ (h _ (setRow_heap hg) (setRow_only _ _))

/-- an aggregate is stored into a part of a block that is known whole -/
theorem wpList_store_part {ops : Array Oper} {rest : List Oper} {o : Oper} {a : Act} {w : World} {Q : Exit → Act → World → Prop} (hgd : o.guard = none) (ty : TypeId) (x y : Operand) (ho : o.op = .store ty x y)
    (g off n : Nat) (hx : a.eval x = .pointer (some ⟨g, off, none⟩)) (vs : Array Value) (hy : a.eval y = .agg vs) (t : TypeId) (cs : Array Value) (hg : w.heap[g]? = some (.cells cs t (0, 0)))
    (hi : (P.info? ty).map (·.size) = some n) (hv : vs.size = n) (hn : off + n ≤ cs.size) (h1 : ∀ v ∈ vs, v.oneCell' = true)
    (h : ∀ w', w'.heap[g]? = some (.cells (cs.toList.take off ++ (vs.toList ++ cs.toList.drop (off + n))).toArray t (0, 0)) → Only (fun b => b = g) w w' → wpList P ops Q rest (a.put o.dst undef) w') : wpList P ops Q (o :: rest) a w := by
  refine wpList_plain hgd fun K hK => ?_
  have hst := run_storeVar_part (P := P) w g off n t ty cs vs hg hi hv hn h1
  unfold Oper.wp
  simp [execOp, ho, hx, hy, Instr.storeAt, Instr.sureAddr, hst, Result.andThen]
  exact hK _ _ (h _ (setRow_heap hg) (setRow_only _ _))

end Go.Proofs.Ytkioejdddmnbmaa

namespace Go.Proofs.Ytkioejdddmnbmaa
open Go.RowKit

theorem info3 : (Try.prog.info? 3).map (fun i => (i.zero, i.size, i.bytes)) = some (some (.int .i64 0), 1, 8) := by kernel_rfl

def intv (xs : List Int) : List Value := xs.map (Value.int .i64)

theorem intv_length (xs : List Int) : (intv xs).length = xs.length := by simp [intv]
theorem intv_get (xs : List Int) (j : Nat) : (intv xs)[j]? = if j < xs.length then some (.int .i64 (nth xs j)) else none := by
  unfold intv
  split
  · rename_i h; simp [nth_eq h, h]
  · rename_i h; simp at h; simp [h]
theorem intv_append (xs ys : List Int) : intv (xs ++ ys) = intv xs ++ intv ys := by simp [intv]
theorem intv_one (xs : List Int) : ∀ u ∈ intv xs, u.oneCell' = true := by
  intro u hu; simp [intv] at hu; obtain ⟨x, _, rfl⟩ := hu; rfl

theorem IntsAt.of_owns {w : World} {base b cap : Nat} {xs : List Int} (h : w.ownsRow base 3 1 (.slice (some ⟨b, 0, none⟩) xs.length cap) xs.length (intv xs)) : IntsAt w (some ⟨b, 0, none⟩) xs :=
  .inr ⟨b, 0, rfl, fun j hj => by
    have := h.cells rfl j (.int .i64 (nth xs j)) (by rw [intv_get, if_pos hj])
    simpa [Addr.add_lit] using this⟩

/-- the run of an append of one number onto a full slice: a new block -/
theorem run_app_full (ty : TypeId) (w : World) (ao : Option Addr) (cap : Nat) (xs : List Int) (hat : IntsAt w ao xs) (hnil : ao = none → xs.length = 0 ∧ cap = 0)
    (ad : Addr) (u : Int) (hu : w.cell? ad = some (.int .i64 u)) (hfull : cap < xs.length + 1) (hb : xs.length ≤ 1000000) :
    ∃ b' cap' w', (Builtin.append_ #[22, 22] ty #[.slice ao xs.length cap, .slice (some ad) 1 1]).run Try.prog w = .ok (.slice (some ⟨b', 0, none⟩) (xs.length + 1) cap') w' ∧
      Below w.heap.size w w' ∧ w.heap.size ≤ b' ∧ IntsAt w' (some ⟨b', 0, none⟩) (xs ++ [u]) ∧ xs.length + 1 ≤ cap' := by
  obtain ⟨i, hi, hz, hs, hby⟩ := info_parts info3
  have hnews : ∀ j v, [Value.int .i64 u][j]? = some v → w.cell? (ad.add j) = some v := by
    intro j v hj
    match j, hj with
    | 0, hj => simp at hj; subst hj; simpa [Addr.add] using hu
    | j + 1, hj => simp at hj
  have hown : ∀ v' w', w'.ownsRow w.heap.size 3 1 v' (xs.length + 1) (intv xs ++ [Value.int .i64 u]) → w.grownBy w' none →
      ∃ b' cap', v' = .slice (some ⟨b', 0, none⟩) (xs.length + 1) cap' ∧ Below w.heap.size w w' ∧ w.heap.size ≤ b' ∧ IntsAt w' (some ⟨b', 0, none⟩) (xs ++ [u]) ∧ xs.length + 1 ≤ cap' := by
    intro v' w' ho hg
    have hB : Below w.heap.size w w' := (Below.refl _ w).grown hg (Nat.le_refl _) (fun k e => by cases e)
    obtain ⟨hl, (⟨rfl, h0⟩ | ⟨g, c, cur, rfl, hge, hh, hle, hrest⟩)⟩ := ho
    · omega
    · refine ⟨g, c, rfl, hB, hge, ?_, hle⟩
      have ho' : w'.ownsRow w.heap.size 3 1 (.slice (some ⟨g, 0, none⟩) (xs ++ [u]).length c) (xs ++ [u]).length (intv (xs ++ [u])) := by
        rw [intv_append]; simp only [List.length_append, List.length_singleton]
        exact ⟨hl, .inr ⟨g, c, cur, rfl, hge, hh, hle, hrest⟩⟩
      exact IntsAt.of_owns ho'
  cases ao with
  | some b =>
    obtain ⟨v', w', hrun, r1, r2⟩ := run_append_arg_grows (P := Try.prog) w 22 ty 3 i (.int .i64 0) 1 8 Try.underlying22 hi hz hs hby rfl (by decide) b xs.length cap (intv xs) (by simp [intv])
      (fun j v hj => by
        rw [intv_get] at hj
        split at hj
        · rename_i hlt
          obtain ⟨b2, off, e, hc⟩ := hat.at hlt
          simp at e; subst e
          simp at hj; subst hj
          rw [Addr.add_lit]; exact hc
        · simp at hj) ad 1 1 [.int .i64 u] rfl hnews hfull (by unfold maxLen; omega) (by omega)
    obtain ⟨b', cap', rfl, h⟩ := hown v' w' r1 r2
    exact ⟨b', cap', w', hrun, h⟩
  | none =>
    obtain ⟨h0, rfl⟩ := hnil rfl
    obtain rfl : xs = [] := List.eq_nil_of_length_eq_zero h0
    obtain ⟨v', w', hrun, r1, r2, _⟩ := run_append_own (P := Try.prog) w w.heap.size 22 ty 3 i (.int .i64 0) 1 8 Try.underlying22 hi hz hs hby rfl (by decide) (.slice none 0 0) 0 [] (World.ownsRow_nil w _ 3 1) ad 1 1 [.int .i64 u] rfl hnews
      (by intro u hu; simp at hu; subst hu; rfl) (by unfold maxLen; omega) (by omega) (Nat.le_refl _)
    obtain ⟨b', cap', rfl, h⟩ := hown v' w' r1 (by simpa [Value.ownBlock] using r2)
    exact ⟨b', cap', w', hrun, h⟩

theorem wpList_app_full {ops : Array Oper} {rest : List Oper} {o : Oper} {a : Act} {Q : Exit → Act → World → Prop} (w : World) (hg : o.guard = none) (s x : Operand)
    (hop : o.op = Op.call { callee := Callee.builtin Builtin.append, args := #[s, x], argTypes := #[22, 22] })
    (ao : Option Addr) (m cap : Nat) (xs : List Int) (hm : xs.length = m) (hs : a.eval s = .slice ao m cap) (hat : IntsAt w ao xs) (hnil : ao = none → m = 0 ∧ cap = 0)
    (ad : Addr) (u : Int) (hx : a.eval x = .slice (some ad) 1 1) (hu : w.cell? ad = some (.int .i64 u)) (hfull : cap < m + 1) (hb : m ≤ 1000000)
    (hK : ∀ b' cap' w', Below w.heap.size w w' → w.heap.size ≤ b' → IntsAt w' (some ⟨b', 0, none⟩) (xs ++ [u]) → m + 1 ≤ cap' →
      wpList Try.prog ops Q rest (a.put o.dst (.slice (some ⟨b', 0, none⟩) (m + 1) cap')) w') :
    wpList Try.prog ops Q (o :: rest) a w := by
  subst hm
  refine wpList_plain hg fun K hK' => ?_
  obtain ⟨b', cap', w', hrun, h1, h2, h3, h4⟩ := run_app_full o.type w ao cap xs hat hnil ad u hu hfull hb
  unfold Oper.wp
  simp [execOp, hop, resolve, invoke, builtin, hs, hx, hrun, Result.andThen]
  exact hK' _ _ (hK b' cap' w' h1 h2 h3 h4)

theorem wpListIn_app_full {F : Fence} {n : Nat} {ops : Array Oper} {rest : List Oper} {o : Oper} {a : Act} {Q : Exit → Act → World → Prop} (w : World) (hg : o.guard = none) (s x : Operand)
    (hop : o.op = Op.call { callee := Callee.builtin Builtin.append, args := #[s, x], argTypes := #[22, 22] })
    (ao : Option Addr) (m cap : Nat) (xs : List Int) (hm : xs.length = m) (hs : a.eval s = .slice ao m cap) (hat : IntsAt w ao xs) (hnil : ao = none → m = 0 ∧ cap = 0)
    (ad : Addr) (u : Int) (hx : a.eval x = .slice (some ad) 1 1) (hu : w.cell? ad = some (.int .i64 u)) (hfull : cap < m + 1) (hb : m ≤ 1000000)
    (hK : ∀ b' cap' w', Below w.heap.size w w' → w.heap.size ≤ b' → IntsAt w' (some ⟨b', 0, none⟩) (xs ++ [u]) → m + 1 ≤ cap' →
      wpListIn F n Try.prog ops Q rest (a.put o.dst (.slice (some ⟨b', 0, none⟩) (m + 1) cap')) w') :
    wpListIn F n Try.prog ops Q (o :: rest) a w := by
  subst hm
  refine wpListIn_plain hg fun K hK' => ?_
  obtain ⟨b', cap', w', hrun, h1, h2, h3, h4⟩ := run_app_full o.type w ao cap xs hat hnil ad u hu hfull hb
  unfold Oper.wpIn
  refine ⟨?_, ?_⟩
  · simp [Oper.about, hop, resolve, Target.leads, Sem.run_pure]
  · rw [Oper.semAt_plain F _ _ (by rw [hop]; intro c hc'; cases hc')]
    simp [execOp, hop, resolve, invoke, builtin, hs, hx, hrun, Result.andThen]
    exact hK' _ _ (hK b' cap' w' h1 h2 h3 h4)


theorem IntsAt.only {S : Nat → Prop} {w w' : World} {a : Option Addr} {xs : List Int} (h : IntsAt w a xs) (hb : Only S w w') (hs : ∀ b off, a = some ⟨b, off, none⟩ → 0 < xs.length → ¬ S b) : IntsAt w' a xs := by
  rcases h with rfl | ⟨b, off, rfl, h⟩
  · exact .inl rfl
  · exact .inr ⟨b, off, rfl, fun j hj => hb.cell (h j hj) (hs b off rfl (by omega))⟩

theorem madeInts (n : Nat) : madeCells #[.int .i64 0] n = (intv (List.replicate n 0)).toArray := by
  apply Array.ext'
  simp only [madeCells, intv, List.map_replicate]
  rw [List.eq_replicate_iff]
  refine ⟨by simp, fun v hv => ?_⟩
  simp at hv
  obtain ⟨a, _, rfl⟩ := hv
  simp [Nat.mod_one]

theorem run_make_ints (w : World) (n m : Nat) (hnm : n ≤ m) (hm : m ≤ 1000000) : (Instr.makeSlice 22 (.int .i64 n) (.int .i64 m)).run Try.prog w =
    .ok (.slice (some ⟨w.heap.size, 0, none⟩) n m) (w.alloc (.cells (intv (List.replicate m 0)).toArray 3)) := by
  obtain ⟨i, hi, hz, hs, hby⟩ := info_parts info3
  have := run_make (P := Try.prog) (w := w) 22 3 i (.int .i64 0) Try.underlying22 hi hz .i64 .i64 n m (by omega) (by omega) (by rw [hby]; omega) (by omega)
  rw [this, hs]
  simp only [Int.toNat_natCast, Nat.mul_one, Value.cells, madeInts]

theorem setRow_alloc (w : World) (cs ds : Array Value) (t : TypeId) : (w.alloc (.cells cs t)).setRow w.heap.size ds = w.alloc (.cells ds t) := by
  unfold World.setRow
  unfold World.alloc
  congr 1
  apply Array.ext
  · simp
  · intro i h1 h2
    simp [Array.getElem_modify, Array.getElem_push]
    by_cases h : i < w.heap.size
    · rw [if_neg (by omega)]; simp [h]
    · obtain rfl : i = w.heap.size := by simp at h2; omega
      simp

/-- copy of a whole slice of ints into a slice that was made just now -/
theorem run_copy_new (ty : TypeId) (w : World) (ao : Option Addr) (cap : Nat) (xs zs : List Int) (hat : IntsAt w ao xs) (hz : zs.length = xs.length) :
    (Builtin.copy_ #[22, 22] ty #[.slice (some ⟨w.heap.size, 0, none⟩) xs.length xs.length, .slice ao xs.length cap]).run Try.prog (w.alloc (.cells (intv zs).toArray 3)) =
      .ok (.int .i64 xs.length) (w.alloc (.cells (intv xs).toArray 3)) := by
  obtain ⟨i, hi, _, hs, _⟩ := info_parts info3
  have hs1 : (Try.prog.info? 3).map (·.size) = some 1 := by rw [hi]; simp [hs]
  by_cases h0 : xs.length = 0
  · obtain rfl : xs = [] := List.eq_nil_of_length_eq_zero h0
    obtain rfl : zs = [] := List.eq_nil_of_length_eq_zero hz
    rw [run_copy_none (P := Try.prog) _ 22 22 ty 3 _ ao _ _ _ cap Try.underlying22 hs1 (by simp)]
    rfl
  · obtain ⟨b, off, rfl, _⟩ := hat.at (k := 0) (by omega)
    have hat' := hat.mono ((Below.refl _ w).alloc (Nat.le_refl _) (.cells (intv zs).toArray 3))
    rw [run_copy_row (P := Try.prog) (w.alloc (.cells (intv zs).toArray 3)) 22 22 ty 3 w.heap.size 0 xs.length xs.length ⟨b, off, none⟩ xs.length cap (intv zs).toArray 3 (intv xs) Try.underlying22 hs1 (heap_alloc_new w _)
      (by simp [intv_length]) (fun j v hj => by
        rw [intv_get] at hj
        split at hj
        · rename_i hlt
          simp at hj; subst hj
          rw [Addr.add_lit]; exact hat'.cell hlt
        · simp at hj) (by simp [intv_length, hz]) (intv_one xs)]
    rw [setRow_alloc]
    rw [List.drop_of_length_le (by simp [intv_length, hz])]
    simp [intv_length, goInt]


/-- a slice of ints of the call's own, nil or at the head of a block from B on -/
def OwnI (B : Nat) (w : World) (ao : Option Addr) (n cap : Nat) (xs : List Int) : Prop := xs.length = n ∧ w.ownsRow B 3 1 (.slice ao n cap) n (intv xs)

theorem OwnI.nil (B : Nat) (w : World) : OwnI B w none 0 0 [] := ⟨rfl, World.ownsRow_nil w B 3 1⟩

theorem OwnI.at {B : Nat} {w : World} {ao : Option Addr} {n cap : Nat} {xs : List Int} (h : OwnI B w ao n cap xs) : IntsAt w ao xs := by
  obtain ⟨rfl, ho⟩ := h
  rcases ho with ⟨hl, (⟨e, h0⟩ | ⟨g, c, cur, e, hge, hh, hr⟩)⟩
  · exact .inl (List.eq_nil_of_length_eq_zero h0)
  · cases e
    exact IntsAt.of_owns ⟨hl, .inr ⟨_, _, cur, rfl, hge, hh, hr⟩⟩

theorem OwnI.none {B : Nat} {w : World} {ao : Option Addr} {n cap : Nat} {xs : List Int} (h : OwnI B w ao n cap xs) : ao = none → n = 0 ∧ cap = 0 := by
  rintro rfl
  rcases h.2 with ⟨hl, (⟨e, h0⟩ | ⟨g, c, cur, e, hr⟩)⟩
  · cases e; exact ⟨rfl, rfl⟩
  · cases e

theorem OwnI.kept {B : Nat} {w w' : World} {ao : Option Addr} {n cap : Nat} {xs : List Int} (h : OwnI B w ao n cap xs) (hB : Below w.heap.size w w') : OwnI B w' ao n cap xs := by
  refine ⟨h.1, h.2.kept (row := Option.none) ⟨hB.os, hB.tape, hB.output, hB.size, fun k hk _ => hB.block k hk⟩ ?_⟩
  cases ao
  · exact .inl rfl
  · exact .inr (by simp [Value.ownBlock])

theorem OwnI.alloc {B : Nat} {w : World} {ao : Option Addr} {n cap : Nat} {xs : List Int} (h : OwnI B w ao n cap xs) (o : Obj) : OwnI B (w.alloc o) ao n cap xs :=
  h.kept ((Below.refl _ _).alloc (Nat.le_refl _) _)

theorem OwnI.base {B B' : Nat} {w : World} {ao : Option Addr} {n cap : Nat} {xs : List Int} (h : OwnI B w ao n cap xs) (hb : B' ≤ B) : OwnI B' w ao n cap xs := by
  refine ⟨h.1, h.2.1, ?_⟩
  rcases h.2.2 with h | ⟨g, c, cur, e, hge, hr⟩
  · exact .inl h
  · exact .inr ⟨g, c, cur, e, Nat.le_trans hb hge, hr⟩

theorem OwnI.drewN {B : Nat} {w : World} {ao : Option Addr} {n cap : Nat} {xs : List Int} (h : OwnI B w ao n cap xs) (k : Nat) : OwnI B (w.drewN k) ao n cap xs := h

/-- the run of an append of one number onto a slice of the call's own -/
theorem run_app_own (ty : TypeId) (w : World) (B : Nat) (ao : Option Addr) (n cap : Nat) (xs : List Int) (hown : OwnI B w ao n cap xs)
    (ad : Addr) (u : Int) (hu : w.cell? ad = some (.int .i64 u)) (hb : n ≤ 1000000) (hB : B ≤ w.heap.size) :
    ∃ b' cap' w', (Builtin.append_ #[22, 22] ty #[.slice ao n cap, .slice (some ad) 1 1]).run Try.prog w = .ok (.slice (some ⟨b', 0, none⟩) (n + 1) cap') w' ∧
      Below B w w' ∧ B ≤ b' ∧ OwnI B w' (some ⟨b', 0, none⟩) (n + 1) cap' (xs ++ [u]) ∧ w.grownBy w' (Value.ownBlock (.slice ao n cap)) := by
  obtain ⟨i, hi, hz, hs, hby⟩ := info_parts info3
  have hnews : ∀ j v, [Value.int .i64 u][j]? = some v → w.cell? (ad.add j) = some v := by
    intro j v hj
    match j, hj with
    | 0, hj => simp at hj; subst hj; simpa [Addr.add] using hu
    | j + 1, hj => simp at hj
  obtain ⟨v', w', hrun, r1, r2, _⟩ := run_append_own (P := Try.prog) w B 22 ty 3 i (.int .i64 0) 1 8 Try.underlying22 hi hz hs hby rfl (by decide) (.slice ao n cap) n (intv xs) hown.2 ad 1 1 [.int .i64 u] rfl hnews
    (by intro u hu; simp at hu; subst hu; rfl) (by unfold maxLen; omega) (by omega) hB
  rcases r1 with ⟨hl, (⟨rfl, h0⟩ | ⟨g, c, cur, rfl, hge, hh, hr⟩)⟩
  · omega
  · refine ⟨g, c, w', hrun, (Below.refl B w).grown r2 hB (fun k e => (hown.2.lt k e).1), hge, ⟨by simp [hown.1], ?_⟩, r2⟩
    rw [intv_append]
    exact ⟨hl, .inr ⟨g, c, cur, rfl, hge, hh, hr⟩⟩

theorem wpList_app_own {ops : Array Oper} {rest : List Oper} {o : Oper} {a : Act} {Q : Exit → Act → World → Prop} (w : World) (hg : o.guard = none) (s x : Operand)
    (hop : o.op = Op.call { callee := Callee.builtin Builtin.append, args := #[s, x], argTypes := #[22, 22] })
    (B : Nat) (ao : Option Addr) (n cap : Nat) (xs : List Int) (hs : a.eval s = .slice ao n cap) (hown : OwnI B w ao n cap xs)
    (ad : Addr) (u : Int) (hx : a.eval x = .slice (some ad) 1 1) (hu : w.cell? ad = some (.int .i64 u)) (hb : n ≤ 1000000) (hB : B ≤ w.heap.size)
    (hK : ∀ b' cap' w', Below B w w' → B ≤ b' → OwnI B w' (some ⟨b', 0, none⟩) (n + 1) cap' (xs ++ [u]) → w.grownBy w' (Value.ownBlock (.slice ao n cap)) →
      wpList Try.prog ops Q rest (a.put o.dst (.slice (some ⟨b', 0, none⟩) (n + 1) cap')) w') :
    wpList Try.prog ops Q (o :: rest) a w := by
  refine wpList_plain hg fun K hK' => ?_
  obtain ⟨b', cap', w', hrun, h1, h2, h3, h4⟩ := run_app_own o.type w B ao n cap xs hown ad u hu hb hB
  unfold Oper.wp
  simp [execOp, hop, resolve, invoke, builtin, hs, hx, hrun, Result.andThen]
  exact hK' _ _ (hK b' cap' w' h1 h2 h3 h4)

theorem wpListIn_app_own {F : Fence} {m : Nat} {ops : Array Oper} {rest : List Oper} {o : Oper} {a : Act} {Q : Exit → Act → World → Prop} (w : World) (hg : o.guard = none) (s x : Operand)
    (hop : o.op = Op.call { callee := Callee.builtin Builtin.append, args := #[s, x], argTypes := #[22, 22] })
    (B : Nat) (ao : Option Addr) (n cap : Nat) (xs : List Int) (hs : a.eval s = .slice ao n cap) (hown : OwnI B w ao n cap xs)
    (ad : Addr) (u : Int) (hx : a.eval x = .slice (some ad) 1 1) (hu : w.cell? ad = some (.int .i64 u)) (hb : n ≤ 1000000) (hB : B ≤ w.heap.size)
    (hK : ∀ b' cap' w', Below B w w' → B ≤ b' → OwnI B w' (some ⟨b', 0, none⟩) (n + 1) cap' (xs ++ [u]) → w.grownBy w' (Value.ownBlock (.slice ao n cap)) →
      wpListIn F m Try.prog ops Q rest (a.put o.dst (.slice (some ⟨b', 0, none⟩) (n + 1) cap')) w') :
    wpListIn F m Try.prog ops Q (o :: rest) a w := by
  refine wpListIn_plain hg fun K hK' => ?_
  obtain ⟨b', cap', w', hrun, h1, h2, h3, h4⟩ := run_app_own o.type w B ao n cap xs hown ad u hu hb hB
  unfold Oper.wpIn
  refine ⟨?_, ?_⟩
  · simp [Oper.about, hop, resolve, Target.leads, Sem.run_pure]
  · rw [Oper.semAt_plain F _ _ (by rw [hop]; intro c hc'; cases hc')]
    simp [execOp, hop, resolve, invoke, builtin, hs, hx, hrun, Result.andThen]
    exact hK' _ _ (hK b' cap' w' h1 h2 h3 h4)


theorem zeroCells_ints (n : Nat) : Builtin.zeroCells #[.int .i64 0] n = (intv (List.replicate n 0)).toArray := by
  rw [← madeInts]
  unfold Builtin.zeroCells madeCells
  simp

/-- clear over a part of a block that is known whole -/
theorem wpList_clear_ints {ops : Array Oper} {rest : List Oper} {o : Oper} {a : Act} {Q : Exit → Act → World → Prop} (w : World) (hgd : o.guard = none) (x : Operand)
    (hop : o.op = Op.call { callee := Callee.builtin Builtin.clear, args := #[x], argTypes := #[22] })
    (g off n c : Nat) (hx : a.eval x = .slice (some ⟨g, off, none⟩) n c) (t : TypeId) (cs : List Value) (hg : w.heap[g]? = some (.cells cs.toArray t (0, 0))) (hn : off + n ≤ cs.length)
    (h : ∀ w', w'.heap[g]? = some (.cells (cs.take off ++ (intv (List.replicate n 0) ++ cs.drop (off + n))).toArray t (0, 0)) → Only (fun b => b = g) w w' → wpList Try.prog ops Q rest (a.put o.dst (.tuple #[])) w') :
    wpList Try.prog ops Q (o :: rest) a w := by
  refine wpList_plain hgd fun K hK => ?_
  obtain ⟨i, hi, hz, _, _⟩ := info_parts info3
  unfold Oper.wp
  rcases Nat.eq_zero_or_pos n with rfl | hp
  · simp [execOp, hop, resolve, invoke, builtin, hx, Builtin.clear_, run_underlying Try.underlying22, Result.andThen]
    exact hK _ _ (h w (by simpa [intv] using hg) (Only.refl _ _))
  · obtain ⟨m, rfl⟩ : ∃ m, n = m + 1 := ⟨n - 1, by omega⟩
    have hst := run_storeCells_at (P := Try.prog) g off t (intv (List.replicate (m + 1) 0)) 0 cs.toArray w hg (by simp [intv]; omega) (intv_one _)
    simp only [Nat.add_zero, intv_length, List.length_replicate] at hst
    have hzc : (Builtin.zeroCells (Value.int IntKind.i64 0).cells (m + 1)).toList = intv (List.replicate (m + 1) 0) := by
      show (Builtin.zeroCells #[.int .i64 0] (m + 1)).toList = _
      rw [zeroCells_ints]
    simp [execOp, hop, resolve, invoke, builtin, hx, Builtin.clear_, run_underlying Try.underlying22, zeroValue, typeInfo, hi, hz, hzc, hst, Result.andThen]
    exact hK _ _ (h _ (by rw [setRow_heap hg]) (setRow_only _ _))

end Go.Proofs.Ytkioejdddmnbmaa

namespace Go.Proofs.Ytkioejdddmnbmaa
open Go.RowKit

/-- some cells of a block -/
def partAt (w : World) (b off n : Nat) : Array Value := match w.heap[b]? with | some (.cells cs _ _) => cs.extract off (off + n) | _ => #[]
def partOk (w : World) (b off n : Nat) : Bool := match w.heap[b]? with | some (.cells cs _ _) => decide (off + n ≤ cs.size) | _ => false

theorem partAt_of {w : World} {b : Nat} {cs : Array Value} {t : TypeId} {fr : Nat × Nat} (h : w.heap[b]? = some (.cells cs t fr)) (off n : Nat) : partAt w b off n = cs.extract off (off + n) := by
  unfold partAt; rw [h]
theorem partOk_of {w : World} {b : Nat} {cs : Array Value} {t : TypeId} {fr : Nat × Nat} (h : w.heap[b]? = some (.cells cs t fr)) {off n : Nat} (hn : off + n ≤ cs.size) : partOk w b off n = true := by
  unfold partOk; rw [h]; simpa using hn
@[go_sem] theorem partAt_drew (w : World) (b off n : Nat) : partAt w.drew b off n = partAt w b off n := rfl
@[go_sem] theorem partOk_drew (w : World) (b off n : Nat) : partOk w.drew b off n = partOk w b off n := rfl
theorem partAt_same {w w' : World} {b : Nat} (h : w'.heap[b]? = w.heap[b]?) (off n : Nat) : partAt w' b off n = partAt w b off n := by unfold partAt; rw [h]
theorem partOk_same {w w' : World} {b : Nat} (h : w'.heap[b]? = w.heap[b]?) (off n : Nat) : partOk w' b off n = partOk w b off n := by unfold partOk; rw [h]

theorem run_loadAt_part {P : Program} (w : World) (b off n : Nat) (ty : TypeId) (d : TypeDesc) (h : partOk w b off n = true)
    (hu : P.underlying ty = some d) (hd : (match d with | .struct _ | .array _ _ => true | _ => false) = true) (hi : (P.info? ty).map (·.size) = some n) :
    (Instr.loadAt ty (.pointer (some ⟨b, off, none⟩))).run P w = .ok (.agg (partAt w b off n)) w := by
  unfold partOk at h
  split at h
  · rename_i cs t fr hg
    rw [partAt_of hg]
    have := run_loadVar_part (P := P) w b off n t ty cs fr d hg hu hd hi (by simpa using h)
    simp [Instr.loadAt, Instr.sureAddr, this]
  · cases h

/-- what a load of an aggregate comes to -/
def loadPart (P : Program) (ty : TypeId) (n : Nat) (v : Value) (w : World) : Result Next :=
  match v with
  | .pointer (some ⟨b, off, none⟩) => if partOk w b off n then .ok (.value (.agg (partAt w b off n))) w else (execOp (fun _ => v) { dst := none, op := .load ty (.tmp 0), type := 0, pos := "", after := #[], guard := none }).run P w
  | _ => (execOp (fun _ => v) { dst := none, op := .load ty (.tmp 0), type := 0, pos := "", after := #[], guard := none }).run P w

@[go_sem] theorem loadPart_ok {P : Program} {ty : TypeId} {n b off : Nat} {w : World} (h : partOk w b off n = true) : loadPart P ty n (.pointer (some ⟨b, off, none⟩)) w = .ok (.value (.agg (partAt w b off n))) w := by
  simp only [loadPart, h, if_true]

theorem execOp_load (ρ : Operand → Value) (dst : Option Tmp) (ty t : TypeId) (x : Operand) (pos : String) (after : Array Edge) (g : Option (Nat × Bool)) :
    execOp ρ { dst := dst, op := .load ty x, type := t, pos := pos, after := after, guard := g } = execOp (fun _ => ρ x) { dst := none, op := .load ty (.tmp 0), type := 0, pos := "", after := #[], guard := none } := rfl

theorem run_load_part {P : Program} {ty : TypeId} {n : Nat} {d : TypeDesc} (hu : P.underlying ty = some d) (hd : (match d with | .struct _ | .array _ _ => true | _ => false) = true) (hi : (P.info? ty).map (·.size) = some n)
    (ρ : Operand → Value) (dst : Option Tmp) (t : TypeId) (x : Operand) (pos : String) (after : Array Edge) (g : Option (Nat × Bool)) (w : World) :
    (execOp ρ { dst := dst, op := .load ty x, type := t, pos := pos, after := after, guard := g }).run P w = loadPart P ty n (ρ x) w := by
  rw [execOp_load]
  unfold loadPart
  split
  · rename_i b off hv
    split
    · rename_i h
      rw [hv]
      have := run_loadAt_part (P := P) w b off n ty d h hu hd hi
      simp [execOp, this]
    · rw [hv]
  · rfl

section
variable {P : Program} {K : Act → World → Prop} {Q : Exit → Act → World → Prop} {a : Act} {w : World}
theorem wp_get (l : List Oper) (i : Nat) (h : i < l.toArray.size) : Oper.wp P (l.toArray[i]'h) a w K Q = Oper.wp P (l[i]'(by simpa using h)) a w K Q := by simp
theorem wp_get0 (o : Oper) (l : List Oper) (h : 0 < (o :: l).length) : Oper.wp P ((o :: l)[0]'h) a w K Q = Oper.wp P o a w K Q := rfl
theorem wp_getS (o : Oper) (l : List Oper) (n : Nat) (h : n + 1 < (o :: l).length) : Oper.wp P ((o :: l)[n + 1]'h) a w K Q = Oper.wp P (l[n]'(by simpa using h)) a w K Q := rfl

theorem wp_load_eq {ty : TypeId} {n : Nat} {d : TypeDesc} (hu : P.underlying ty = some d) (hd : (match d with | .struct _ | .array _ _ => true | _ => false) = true) (hi : (P.info? ty).map (·.size) = some n)
    (dst : Option Tmp) (t : TypeId) (x : Operand) (pos : String) (after : Array Edge) (g : Option (Nat × Bool)) :
    Oper.wp P { dst := dst, op := .load ty x, type := t, pos := pos, after := after, guard := g } a w K Q =
      Oper.upon P { dst := dst, op := .load ty x, type := t, pos := pos, after := after, guard := g } a K Q (loadPart P ty n (a.eval x) w) := by
  unfold Oper.wp
  rw [run_load_part hu hd hi]
end

/-- a part of a block is overwritten -/
def World.setPart (w : World) (b off : Nat) (vs : Array Value) : World :=
  match w.heap[b]? with
  | some (.cells cs _ _) => w.setRow b (cs.toList.take off ++ vs.toList ++ cs.toList.drop (off + vs.size)).toArray
  | _ => w

def freeB (w : World) (b : Nat) : Bool := match w.heap[b]? with | some (.cells _ _ fr) => fr == (0, 0) | _ => false
theorem freeB_of {w : World} {b : Nat} {cs : Array Value} {t : TypeId} (h : w.heap[b]? = some (.cells cs t (0, 0))) : freeB w b = true := by unfold freeB; rw [h]; rfl
@[go_sem] theorem freeB_drew (w : World) (b : Nat) : freeB w.drew b = freeB w b := rfl

/-- what a store of an aggregate comes to -/
def storePart (P : Program) (ty : TypeId) (n : Nat) (v u : Value) (w : World) : Result Next :=
  match v, u with
  | .pointer (some ⟨b, off, none⟩), .agg vs => if (partOk w b off n && freeB w b && (vs.size == n) && vs.all (·.oneCell')) = true then .ok .skip (World.setPart w b off vs) else (execOp (fun o => match o with | .tmp 0 => v | _ => u) { dst := none, op := .store ty (.tmp 0) (.tmp 1), type := 0, pos := "", after := #[], guard := none }).run P w
  | _, _ => (execOp (fun o => match o with | .tmp 0 => v | _ => u) { dst := none, op := .store ty (.tmp 0) (.tmp 1), type := 0, pos := "", after := #[], guard := none }).run P w

@[go_sem] theorem storePart_ok {P : Program} {ty : TypeId} {n b off : Nat} {w : World} {vs : Array Value} (h : partOk w b off n = true) (h2 : freeB w b = true) (h3 : (vs.size == n) = true) (h4 : vs.all (·.oneCell') = true) :
    storePart P ty n (.pointer (some ⟨b, off, none⟩)) (.agg vs) w = .ok .skip (World.setPart w b off vs) := by
  simp only [storePart, h, h2, h3, h4, Bool.and_self, if_true]

theorem run_store_part {P : Program} {ty : TypeId} {n : Nat} (hi : (P.info? ty).map (·.size) = some n)
    (ρ : Operand → Value) (dst : Option Tmp) (t : TypeId) (x y : Operand) (pos : String) (after : Array Edge) (g : Option (Nat × Bool)) (w : World) :
    (execOp ρ { dst := dst, op := .store ty x y, type := t, pos := pos, after := after, guard := g }).run P w = storePart P ty n (ρ x) (ρ y) w := by
  have e : execOp ρ { dst := dst, op := .store ty x y, type := t, pos := pos, after := after, guard := g } =
      execOp (fun o => match o with | .tmp 0 => ρ x | _ => ρ y) { dst := none, op := .store ty (.tmp 0) (.tmp 1), type := 0, pos := "", after := #[], guard := none } := rfl
  rw [e]
  unfold storePart
  split
  · rename_i b off vs hv hu
    split
    · rename_i h
      simp only [Bool.and_eq_true, beq_iff_eq] at h
      obtain ⟨⟨⟨h1, h2⟩, h3⟩, h4⟩ := h
      rw [hv, hu]
      unfold partOk at h1
      unfold freeB at h2
      split at h2
      · rename_i cs ty' fr hg
        obtain rfl : fr = (0, 0) := by simpa using h2
        rw [hg] at h1
        have hst := run_storeVar_part (P := P) w b off n ty' ty cs vs hg hi h3 (by simpa using h1) (fun v hv => by obtain ⟨i, hi, rfl⟩ := Array.getElem_of_mem hv; exact (Array.all_eq_true.1 h4) i hi)
        have : World.setPart w b off vs = w.setRow b (cs.toList.take off ++ vs.toList ++ cs.toList.drop (off + n)).toArray := by unfold World.setPart; rw [hg, h3]
        rw [this]
        simp [execOp, Instr.storeAt, Instr.sureAddr, hst]
      · cases h2
    · rw [hv, hu]
  · rfl

theorem wp_store_eq {P : Program} {K : Act → World → Prop} {Q : Exit → Act → World → Prop} {a : Act} {w : World} {ty : TypeId} {n : Nat} (hi : (P.info? ty).map (·.size) = some n)
    (dst : Option Tmp) (t : TypeId) (x y : Operand) (pos : String) (after : Array Edge) (g : Option (Nat × Bool)) :
    Oper.wp P { dst := dst, op := .store ty x y, type := t, pos := pos, after := after, guard := g } a w K Q =
      Oper.upon P { dst := dst, op := .store ty x y, type := t, pos := pos, after := after, guard := g } a K Q (storePart P ty n (a.eval x) (a.eval y) w) := by
  unfold Oper.wp
  rw [run_store_part hi]

theorem setPart_only (w : World) (b off : Nat) (vs : Array Value) : Only (fun k => k = b) w (World.setPart w b off vs) := by
  unfold World.setPart
  split
  · exact setRow_only _ _
  · exact Only.refl _ _

theorem setPart_heap {w : World} {b : Nat} {cs : Array Value} {t : TypeId} {fr : Nat × Nat} (h : w.heap[b]? = some (.cells cs t fr)) (off : Nat) (vs : Array Value) :
    (World.setPart w b off vs).heap[b]? = some (.cells (cs.toList.take off ++ vs.toList ++ cs.toList.drop (off + vs.size)).toArray t fr) := by
  unfold World.setPart; rw [h]; exact setRow_heap h

theorem wp_alloc_eq {P : Program} {K : Act → World → Prop} {Q : Exit → Act → World → Prop} {a : Act} {w : World} {ty : TypeId} {cs : Array Value} (hi : (P.info? ty).map (·.zero) = some (some (.agg cs)))
    (dst : Option Tmp) (t : TypeId) (pos : String) (after : Array Edge) (g : Option (Nat × Bool)) :
    Oper.wp P { dst := dst, op := .alloc ty, type := t, pos := pos, after := after, guard := g } a w K Q = K (a.put dst (.pointer (some ⟨w.heap.size, 0, none⟩))) (w.alloc (.cells cs ty)) := by
  cases hq : P.info? ty with
  | none => simp [hq] at hi
  | some i =>
    have hz : i.zero = some (.agg cs) := by simpa [hq] using hi
    unfold Oper.wp
    simp [execOp, Instr.alloc, zeroValue, typeInfo, hq, hz, newVar, newRow, Value.cells, Result.andThen, Oper.upon]

def zero78 : Array Value := (intv (List.replicate 12 0)).toArray
theorem wpa78 {K : Act → World → Prop} {Q : Exit → Act → World → Prop} {a : Act} {w : World} (dst : Option Tmp) (t : TypeId) (pos : String) (after : Array Edge) (g : Option (Nat × Bool)) :
    Oper.wp Try.prog { dst := dst, op := .alloc 78, type := t, pos := pos, after := after, guard := g } a w K Q = K (a.put dst (.pointer (some ⟨w.heap.size, 0, none⟩))) (w.alloc (.cells zero78 78)) := wp_alloc_eq (by kernel_rfl) ..

theorem wp78 {K : Act → World → Prop} {Q : Exit → Act → World → Prop} {a : Act} {w : World} (dst : Option Tmp) (t : TypeId) (x : Operand) (pos : String) (after : Array Edge) (g : Option (Nat × Bool)) :
    Oper.wp Try.prog { dst := dst, op := .load 78 x, type := t, pos := pos, after := after, guard := g } a w K Q =
      Oper.upon Try.prog { dst := dst, op := .load 78 x, type := t, pos := pos, after := after, guard := g } a K Q (loadPart Try.prog 78 12 (a.eval x) w) := wp_load_eq Try.underlying78 rfl (by kernel_rfl) ..
theorem wps78 {K : Act → World → Prop} {Q : Exit → Act → World → Prop} {a : Act} {w : World} (dst : Option Tmp) (t : TypeId) (x y : Operand) (pos : String) (after : Array Edge) (g : Option (Nat × Bool)) :
    Oper.wp Try.prog { dst := dst, op := .store 78 x y, type := t, pos := pos, after := after, guard := g } a w K Q =
      Oper.upon Try.prog { dst := dst, op := .store 78 x y, type := t, pos := pos, after := after, guard := g } a K Q (storePart Try.prog 78 12 (a.eval x) (a.eval y) w) := wp_store_eq (by kernel_rfl) ..

end Go.Proofs.Ytkioejdddmnbmaa

namespace Go.Proofs.Ytkioejdddmnbmaa
open Go.RowKit Go.Shelf

def within (lo hi : Int) (l : List Int) : Bool := l.all fun n => decide (lo ≤ n) && decide (n ≤ hi)

set_option maxHeartbeats 400000 in
theorem within1_c (p q : Nat) (n lo hi : Int) (w : World) (hp : w.cell? ⟨p, 0, none⟩ = some (.int .i64 lo)) (hq : w.cell? ⟨q, 0, none⟩ = some (.int .i64 hi)) :
    Calls Try.prog 87 #[.int .i64 n, .pointer (some ⟨p, 0, none⟩), .pointer (some ⟨q, 0, none⟩)] w fun e w' => e = .returned (.bool (decide (n < lo) || decide (hi < n))) ∧ w = w' := by
  go_enter Try.func87, Try.ntmps87
  go_wp2
  · have h : lo ≤ n := by assumption
    go_ret
    exact ⟨ret_bool (by simp), rfl⟩
  · have h : n < lo := by assumption
    go_ret
    exact ⟨ret_bool (by simp), rfl⟩

def AnyP (p : Int → Bool) (xs : List Int) (w : World) (e : Ending) (w' : World) : Prop :=
  ∃ i : Int, e = .returned (.int .i64 i) ∧ decide (0 ≤ i) = xs.any p ∧ w = w'

set_option maxHeartbeats 400000 in
theorem indexFunc_c (a : Option Addr) (cap g : Nat) (caps : Array Value) (p : Int → Bool) (xs : List Int) (w : World) (hx : IntsAt w a xs) (hb : xs.length ≤ 1000000)
    (hg : ∀ k, k < xs.length → Calls Try.prog g (#[.int .i64 (nth xs k)] ++ caps) w fun e w' => e = .returned (.bool (p (nth xs k))) ∧ w = w')
    (eg : ∀ args w, (callFunc g args).run Try.prog w = .ok (.enter g args) w) :
    Calls Try.prog 98 #[.slice a xs.length cap, .func (.func g) #[] caps] w (AnyP p xs w) := by
  go_enter Try.func98, Try.ntmps98
  go_wp2
  go_loop [5, 8] (fun _ i => ∃ k : Nat, k ≤ xs.length ∧ i = .int .i64 k ∧ (xs.take k).any p = false) (fun _ i => xs.length - (intOf i).toNat)
  case atStart => exact ⟨0, Nat.zero_le _, rfl, rfl⟩
  case round =>
    obtain ⟨k, hk, rfl, hp⟩ := hrel
    have Hp := hid hp; clear hp
    by_cases hlt : k < xs.length
    · obtain ⟨b, off, rfl, hc⟩ := hx.at hlt
      have Ht := hid (any_take_succ p hlt)
      have Hx := hid hx; clear hx
      have Hg := hid hg; clear hg
      cases hpk : p (nth xs k) with
      | false =>
        have Hpk := hid hpk; clear hpk
        go_wp2_with fail
        refine (Hg.out k hlt).mono ?_
        rintro e w' ⟨rfl, rfl⟩
        rw [Hpk.out]
        go_wp2
        go_round
        case rel => exact ⟨k + 1, by omega, by go_num, by rw [Ht.out, Hp.out, Hpk.out]; rfl⟩
        case measure => simp [intOf]; omega
      | true =>
        have Hpk := hid hpk; clear hpk
        go_wp2_with fail
        refine (Hg.out k hlt).mono ?_
        rintro e w' ⟨rfl, rfl⟩
        rw [Hpk.out]
        go_wp2
        go_ret
        refine ⟨k, rfl, ?_, rfl⟩
        simp
        exact ⟨_, nth_mem hlt, Hpk.out⟩
    · go_wp2
      go_ret
      refine ⟨-1, rfl, ?_, rfl⟩
      have hp := Hp.out
      rw [List.take_of_length_le (by omega)] at hp
      rw [hp]; rfl

set_option maxHeartbeats 400000 in
theorem containsFunc_c (a : Option Addr) (cap g : Nat) (caps : Array Value) (p : Int → Bool) (xs : List Int) (w : World) (hx : IntsAt w a xs) (hb : xs.length ≤ 1000000)
    (hg : ∀ k, k < xs.length → Calls Try.prog g (#[.int .i64 (nth xs k)] ++ caps) w fun e w' => e = .returned (.bool (p (nth xs k))) ∧ w = w')
    (eg : ∀ args w, (callFunc g args).run Try.prog w = .ok (.enter g args) w) :
    Calls Try.prog 86 #[.slice a xs.length cap, .func (.func g) #[] caps] w fun e w' => e = .returned (.bool (xs.any p)) ∧ w = w' := by
  have H := hid (indexFunc_c a cap g caps p xs w hx hb hg eg)
  generalize hy : xs.any p = y
  have Hy := hid hy
  clear hx hg eg hy
  go_enter Try.func86, Try.ntmps86
  go_wp2_with fail
  refine H.out.mono ?_
  rintro e w' ⟨i, rfl, hi, rfl⟩
  have Hi := hid hi; clear hi
  go_wp2
  go_ret
  exact ⟨ret_bool (Hi.out.trans Hy.out), rfl⟩

theorem any_within (lo hi : Int) (xs : List Int) : (!(xs.any fun n => decide (n < lo) || decide (hi < n))) = within lo hi xs := by
  unfold within
  induction xs with
  | nil => rfl
  | cons x xs ih =>
    simp only [List.any_cons, List.all_cons, Bool.not_or, ih]
    congr 1
    by_cases h1 : x < lo <;> by_cases h2 : hi < x <;> simp [h1, h2] <;> omega

theorem enters87 : ∀ args w, (callFunc 87 args).run Try.prog w = .ok (.enter 87 args) w := enters_of Try.func87 (by kernel_rfl) rfl

set_option maxHeartbeats 400000 in
theorem within_c (a : Option Addr) (cap : Nat) (lo hi : Int) (xs : List Int) (w : World) (hx : IntsAt w a xs) (hb : xs.length ≤ 1000000) :
    Calls Try.prog 59 #[.int .i64 lo, .int .i64 hi, .slice a xs.length cap] w fun e w' => e = .returned (.bool (within lo hi xs)) ∧ Below w.heap.size w w' := by
  have hw := any_within lo hi xs
  have Hw := hid hw; clear hw
  have B1 : Below w.heap.size w ((w.alloc (.cells #[.int .i64 lo] 3)).alloc (.cells #[.int .i64 hi] 3)) := ((Below.refl _ _).alloc (Nat.le_refl _) _).alloc (by simp) _
  have hx1 := hx.mono B1
  have H := hid (containsFunc_c a cap 87 #[.pointer (some ⟨w.heap.size, 0, none⟩), .pointer (some ⟨w.heap.size + 1, 0, none⟩)] (fun n => decide (n < lo) || decide (hi < n)) xs _ hx1 hb
    (fun k _ => within1_c w.heap.size (w.heap.size + 1) (nth xs k) lo hi _ (by simp) (by simp)) enters87)
  clear hx hx1
  have HB := hid B1; clear B1
  go_enter Try.func59, Try.ntmps59
  go_wp2_with fail
  refine H.out.mono ?_
  rintro e w' ⟨rfl, rfl⟩
  go_wp2
  go_ret
  exact ⟨ret_bool Hw.out, HB.out⟩


end Go.Proofs.Ytkioejdddmnbmaa

namespace Go.Proofs.Ytkioejdddmnbmaa
open Go.RowKit Go.Shelf

theorem intv_at {w : World} {a : Addr} {xs : List Int} (h : IntsAt w (some a) xs) : ∀ j v, (intv xs)[j]? = some v → w.cell? (a.add j) = some v := by
  intro j v hj
  rw [intv_get] at hj
  split at hj
  · rename_i hlt
    obtain ⟨b2, off, e, hc⟩ := h.at hlt
    simp at e; subst e
    simp at hj; subst hj
    rw [Addr.add_lit]; exact hc
  · simp at hj

theorem run_app_fullm (ty : TypeId) (w : World) (b : Addr) (n cap : Nat) (xs : List Int) (hat : IntsAt w (some b) xs) (hn : xs.length = n) (hc : cap = n)
    (ax : Option Addr) (m cx : Nat) (ys : List Int) (hy : IntsAt w ax ys) (hm : ys.length = m) (hnil : ax = none → m = 0 ∧ cx = 0) (hb : n + m ≤ 1000000) :
    ∃ ao' cap' w', (Builtin.append_ #[22, 22] ty #[.slice (some b) n cap, .slice ax m cx]).run Try.prog w = .ok (.slice (some ao') (n + m) cap') w' ∧ Below w.heap.size w w' ∧ IntsAt w' (some ao') (xs ++ ys) ∧ n + m ≤ cap' := by
  subst hn
  subst hm
  subst hc
  obtain ⟨i, hi, hz, hs, hby⟩ := info_parts info3
  by_cases h0 : ys.length = 0
  · obtain rfl : ys = [] := List.eq_nil_of_length_eq_zero h0
    have hsrc : Src Try.prog i.size 22 (.slice ax 0 cx) 0 [] w := by
      cases ax with
      | none => exact Src.ofNil w Try.underlying22 cx
      | some a => exact Src.ofSlice w Try.underlying22 a 0 cx [] (by simp) (by intro j u h; simp at h) (by intro u h; cases h)
    exact ⟨b, _, w, run_append_nothing w 22 22 ty 3 i Try.underlying22 hi (some b) xs.length xs.length (Nat.le_refl _) _ hsrc, Below.refl _ _, by simpa using hat, Nat.le_refl _⟩
  · cases ax with
    | none => exact absurd (hnil rfl).1 h0
    | some a =>
      obtain ⟨v', w', hrun, ⟨hl, hr⟩, hg⟩ := run_append_arg_grows (P := Try.prog) w 22 ty 3 i (.int .i64 0) 1 8 Try.underlying22 hi hz hs hby rfl (by decide) b xs.length xs.length (intv xs) (by simp [intv]) (intv_at hat) a ys.length cx (intv ys) (by simp [intv])
        (intv_at hy) (by omega) (by unfold maxLen; omega) (by omega)
      rcases hr with ⟨rfl, h00⟩ | ⟨g, c, cur, rfl, hge, hh, hle, hrest⟩
      · omega
      · refine ⟨_, c, w', hrun, (Below.refl _ w).grown hg (Nat.le_refl _) (fun k e => by cases e), ?_, hle⟩
        have ho' : w'.ownsRow w.heap.size 3 1 (.slice (some ⟨g, 0, none⟩) (xs ++ ys).length c) (xs ++ ys).length (intv (xs ++ ys)) := by
          rw [intv_append, List.length_append]
          exact ⟨hl, .inr ⟨g, c, cur, rfl, hge, hh, hle, hrest⟩⟩
        exact IntsAt.of_owns ho'

theorem wpList_app_fullm {ops : Array Oper} {rest : List Oper} {o : Oper} {a : Act} {Q : Exit → Act → World → Prop} (w : World) (hg : o.guard = none) (s x : Operand)
    (hop : o.op = Op.call { callee := Callee.builtin Builtin.append, args := #[s, x], argTypes := #[22, 22] })
    (b : Addr) (n cap : Nat) (xs : List Int) (hs : a.eval s = .slice (some b) n cap) (hat : IntsAt w (some b) xs) (hn : xs.length = n) (hc : cap = n)
    (ax : Option Addr) (m cx : Nat) (ys : List Int) (hx : a.eval x = .slice ax m cx) (hy : IntsAt w ax ys) (hm : ys.length = m) (hnil : ax = none → m = 0 ∧ cx = 0) (hb : n + m ≤ 1000000)
    (hK : ∀ ao' cap' w', Below w.heap.size w w' → IntsAt w' (some ao') (xs ++ ys) → n + m ≤ cap' → wpList Try.prog ops Q rest (a.put o.dst (.slice (some ao') (n + m) cap')) w') :
    wpList Try.prog ops Q (o :: rest) a w := by
  refine wpList_plain hg fun K hK' => ?_
  obtain ⟨ao', cap', w', hrun, h1, h2, h3⟩ := run_app_fullm o.type w b n cap xs hat hn hc ax m cx ys hy hm hnil hb
  unfold Oper.wp
  simp [execOp, hop, resolve, invoke, builtin, hs, hx, hrun, Result.andThen]
  exact hK' _ _ (hK ao' cap' w' h1 h2 h3)

/-- the same at a step of a region that draws its order, with what the walk wants to know of what lay -/
theorem step_app_fullm {ops : Array Oper} {o : Oper} {a : Act} {K : Act → World → Prop} {Q : Exit → Act → World → Prop} {E : Prop} (w : World) (hgd : o.guard = none) (s x : Operand)
    (hop : o.op = Op.call { callee := Callee.builtin Builtin.append, args := #[s, x], argTypes := #[22, 22] })
    (b : Addr) (n cap : Nat) (xs : List Int) (hs : a.eval s = .slice (some b) n cap) (hat : IntsAt w (some b) xs) (hn : xs.length = n) (hc : cap = n)
    (ax : Option Addr) (m cx : Nat) (ys : List Int) (hx : a.eval x = .slice ax m cx) (hy : IntsAt w ax ys) (hm : ys.length = m) (hnil : ax = none → m = 0 ∧ cx = 0) (hb : n + m ≤ 1000000)
    (hK : ∀ ao' cap' w', Below w.heap.size w w' → IntsAt w' (some ao') (xs ++ ys) → n + m ≤ cap' → (∀ k, k < w.heap.size → k < w'.heap.size) → (∀ k, k < w.heap.size → ¬ k = w'.heap.size) → (∀ k, k < w.heap.size → ¬ w'.heap.size = k) → (∀ k, k < w.heap.size → k ≤ w'.heap.size) → (∀ k, k < w.heap.size → k < w'.heap.size + 1) →
      (∀ b o, b < w.heap.size → w'.cell? ⟨b, o, none⟩ = w.cell? ⟨b, o, none⟩) → (∀ b o, b < w.heap.size → w'.frozen? ⟨b, o, none⟩ = w.frozen? ⟨b, o, none⟩) → K (a.put o.dst (.slice (some ao') (n + m) cap')) w') :
    if Region.wanted o (yielded ops a.tmps) = true then Oper.wp Try.prog o a w K Q else E := by
  have hw : Region.wanted o (yielded ops a.tmps) = true := by simp [Region.wanted, hgd]
  rw [if_pos hw]
  obtain ⟨ao', cap', w', hrun, h1, h2, h3⟩ := run_app_fullm o.type w b n cap xs hat hn hc ax m cx ys hy hm hnil hb
  have hz := h1.size
  unfold Oper.wp
  simp [execOp, hop, resolve, invoke, builtin, hs, hx, hrun, Result.andThen, Oper.upon]
  exact hK ao' cap' w' h1 h2 h3 (fun k hk => by omega) (fun k hk => by omega) (fun k hk => by omega) (fun k hk => by omega) (fun k hk => by omega) (bcell h1).1 (bcell h1).2

/-- a list of one number, just made -/
theorem at_lit1 (w : World) (v : Int) : IntsAt (w.alloc (.cells #[.int .i64 v] 3)) (some ⟨w.heap.size, 0, none⟩) [v] :=
  .inr ⟨_, 0, rfl, fun j hj => by
    have hj0 : j = 0 := by simp at hj; omega
    subst hj0
    simp [nth]⟩
theorem at_lit0 (w : World) : IntsAt (w.alloc (.cells #[] 3)) (some ⟨w.heap.size, 0, none⟩) [] :=
  .inr ⟨_, 0, rfl, fun j hj => absurd hj (by simp)⟩

end Go.Proofs.Ytkioejdddmnbmaa

namespace Go.Proofs.Ytkioejdddmnbmaa
open Go.RowKit Go.Shelf

/-- the run of an append of a list onto a slice of the call's own -/
theorem run_app_many (ty : TypeId) (w : World) (B : Nat) (ao : Option Addr) (n cap : Nat) (xs : List Int) (hown : OwnI B w ao n cap xs)
    (ax : Option Addr) (m cx : Nat) (ys : List Int) (hy : IntsAt w ax ys) (hm : ys.length = m) (hnil : ax = none → m = 0 ∧ cx = 0) (hb : n + m ≤ 1000000) (hB : B ≤ w.heap.size) :
    ∃ ao' cap' w', (Builtin.append_ #[22, 22] ty #[.slice ao n cap, .slice ax m cx]).run Try.prog w = .ok (.slice ao' (n + m) cap') w' ∧
      Below B w w' ∧ OwnI B w' ao' (n + m) cap' (xs ++ ys) ∧ w.grownBy w' (Value.ownBlock (.slice ao n cap)) ∧ (ao ≠ none → ao' ≠ none) := by
  obtain ⟨i, hi, hz, hs, hby⟩ := info_parts info3
  cases ax with
  | none =>
    obtain ⟨rfl, rfl⟩ := hnil rfl
    obtain rfl : ys = [] := List.eq_nil_of_length_eq_zero hm
    refine ⟨ao, cap, w, ?_, Below.refl _ _, by rw [List.append_nil]; exact hown, ⟨rfl, rfl, rfl, Nat.le_refl _, fun _ _ _ => rfl⟩, fun h => h⟩
    exact run_append_owned_none (P := Try.prog) w B 22 ty 3 i 1 Try.underlying22 hi (.slice ao n cap) n (intv xs) hown.2
  | some ad =>
    by_cases h0 : ys.length = 0
    · obtain rfl : ys = [] := List.eq_nil_of_length_eq_zero h0
      simp at hm
      subst hm
      obtain ⟨v', w', hrun, r1, r2, r3⟩ := run_append_own (P := Try.prog) w B 22 ty 3 i (.int .i64 0) 1 8 Try.underlying22 hi hz hs hby rfl (by decide) (.slice ao n cap) n (intv xs) hown.2 ad 0 cx [] rfl (by intro j u h; simp at h)
        (by intro u hu; cases hu) (by unfold maxLen; omega) (by omega) hB
      rcases r1 with ⟨hl, (⟨rfl, h0⟩ | ⟨g, c, cur, rfl, hge, hh, hr⟩)⟩
      · have hv : Value.slice ao n cap = .slice none 0 0 := (r3.1 rfl).1
        cases hv
        exact ⟨none, 0, w', hrun, (Below.refl B w).grown r2 hB (fun k e => (hown.2.lt k e).1), ⟨by simp [hown.1], by rw [intv_append]; exact ⟨hl, .inl ⟨rfl, h0⟩⟩⟩, r2, fun h => h⟩
      · refine ⟨some ⟨g, 0, none⟩, c, w', hrun, (Below.refl B w).grown r2 hB (fun k e => (hown.2.lt k e).1), ⟨by simp [hown.1], ?_⟩, r2, fun _ h => by cases h⟩
        rw [intv_append]
        exact ⟨hl, .inr ⟨g, c, cur, rfl, hge, hh, hr⟩⟩
    · obtain ⟨b, off, e, _⟩ := hy.at (k := 0) (by omega)
      cases e
      obtain ⟨v', w', hrun, r1, r2, _⟩ := run_append_own (P := Try.prog) w B 22 ty 3 i (.int .i64 0) 1 8 Try.underlying22 hi hz hs hby rfl (by decide) (.slice ao n cap) n (intv xs) hown.2 ⟨b, off, none⟩ m cx (intv ys) (by rw [intv_length, hm, Nat.mul_one])
        (fun j u hj => by
          rw [intv_get] at hj
          split at hj
          · rename_i hlt
            simp at hj; subst hj
            rw [Addr.add_lit]; exact hy.cell hlt
          · simp at hj)
        (intv_one _) (by unfold maxLen; omega) (by omega) hB
      rcases r1 with ⟨hl, (⟨rfl, h0⟩ | ⟨g, c, cur, rfl, hge, hh, hr⟩)⟩
      · omega
      · refine ⟨some ⟨g, 0, none⟩, c, w', hrun, (Below.refl B w).grown r2 hB (fun k e => (hown.2.lt k e).1), ⟨by rw [List.length_append, hown.1, hm], ?_⟩, r2, fun _ h => by cases h⟩
        rw [intv_append]
        exact ⟨hl, .inr ⟨g, c, cur, rfl, hge, hh, hr⟩⟩

theorem wpList_app_many {ops : Array Oper} {rest : List Oper} {o : Oper} {a : Act} {Q : Exit → Act → World → Prop} (w : World) (hg : o.guard = none) (s x : Operand)
    (hop : o.op = Op.call { callee := Callee.builtin Builtin.append, args := #[s, x], argTypes := #[22, 22] })
    (B : Nat) (ao : Option Addr) (n cap : Nat) (xs : List Int) (hs : a.eval s = .slice ao n cap) (hown : OwnI B w ao n cap xs)
    (ax : Option Addr) (m cx : Nat) (ys : List Int) (hx : a.eval x = .slice ax m cx) (hy : IntsAt w ax ys) (hm : ys.length = m) (hnil : ax = none → m = 0 ∧ cx = 0) (hb : n + m ≤ 1000000) (hB : B ≤ w.heap.size)
    (hK : ∀ ao' cap' w', Below B w w' → OwnI B w' ao' (n + m) cap' (xs ++ ys) → w.grownBy w' (Value.ownBlock (.slice ao n cap)) → (ao ≠ none → ao' ≠ none) →
      wpList Try.prog ops Q rest (a.put o.dst (.slice ao' (n + m) cap')) w') :
    wpList Try.prog ops Q (o :: rest) a w := by
  refine wpList_plain hg fun K hK' => ?_
  obtain ⟨ao', cap', w', hrun, h1, h2, h3, h4⟩ := run_app_many o.type w B ao n cap xs hown ax m cx ys hy hm hnil hb hB
  unfold Oper.wp
  simp [execOp, hop, resolve, invoke, builtin, hs, hx, hrun, Result.andThen]
  exact hK' _ _ (hK ao' cap' w' h1 h2 h3 h4)



/-- an append onto a list of the call's own, at a step of a region that draws its order -/
theorem step_app_own {ops : Array Oper} {o : Oper} {a : Act} {K : Act → World → Prop} {Q : Exit → Act → World → Prop} {E : Prop} (w : World) (hgd : o.guard = none) (s x : Operand)
    (hop : o.op = Op.call { callee := Callee.builtin Builtin.append, args := #[s, x], argTypes := #[22, 22] })
    (B : Nat) (ao : Option Addr) (n cap : Nat) (xs : List Int) (hs : a.eval s = .slice ao n cap) (hown : OwnI B w ao n cap xs)
    (ad : Addr) (u : Int) (hx : a.eval x = .slice (some ad) 1 1) (hu : w.cell? ad = some (.int .i64 u)) (hb : n ≤ 1000000) (hB : B ≤ w.heap.size)
    (hK : ∀ b' cap' w', Below B w w' → B ≤ b' → OwnI B w' (some ⟨b', 0, none⟩) (n + 1) cap' (xs ++ [u]) → w.grownBy w' (Value.ownBlock (.slice ao n cap)) →
      K (a.put o.dst (.slice (some ⟨b', 0, none⟩) (n + 1) cap')) w') :
    if Region.wanted o (yielded ops a.tmps) = true then Oper.wp Try.prog o a w K Q else E := by
  have hw : Region.wanted o (yielded ops a.tmps) = true := by simp [Region.wanted, hgd]
  rw [if_pos hw]
  obtain ⟨b', cap', w', hrun, h1, h2, h3, h4⟩ := run_app_own o.type w B ao n cap xs hown ad u hu hb hB
  unfold Oper.wp
  simp [execOp, hop, resolve, invoke, builtin, hs, hx, hrun, Result.andThen, Oper.upon]
  exact hK b' cap' w' h1 h2 h3 h4

theorem step_app_many {ops : Array Oper} {o : Oper} {a : Act} {K : Act → World → Prop} {Q : Exit → Act → World → Prop} {E : Prop} (w : World) (hgd : o.guard = none) (s x : Operand)
    (hop : o.op = Op.call { callee := Callee.builtin Builtin.append, args := #[s, x], argTypes := #[22, 22] })
    (B : Nat) (ao : Option Addr) (n cap : Nat) (xs : List Int) (hs : a.eval s = .slice ao n cap) (hown : OwnI B w ao n cap xs)
    (ax : Option Addr) (m cx : Nat) (ys : List Int) (hx : a.eval x = .slice ax m cx) (hy : IntsAt w ax ys) (hm : ys.length = m) (hnil : ax = none → m = 0 ∧ cx = 0) (hb : n + m ≤ 1000000) (hB : B ≤ w.heap.size)
    (hK : ∀ ao' cap' w', Below B w w' → OwnI B w' ao' (n + m) cap' (xs ++ ys) → w.grownBy w' (Value.ownBlock (.slice ao n cap)) → (ao ≠ none → ao' ≠ none) →
      K (a.put o.dst (.slice ao' (n + m) cap')) w') :
    if Region.wanted o (yielded ops a.tmps) = true then Oper.wp Try.prog o a w K Q else E := by
  have hw : Region.wanted o (yielded ops a.tmps) = true := by simp [Region.wanted, hgd]
  rw [if_pos hw]
  obtain ⟨ao', cap', w', hrun, h1, h2, h3, h4⟩ := run_app_many o.type w B ao n cap xs hown ax m cx ys hy hm hnil hb hB
  unfold Oper.wp
  simp [execOp, hop, resolve, invoke, builtin, hs, hx, hrun, Result.andThen, Oper.upon]
  exact hK ao' cap' w' h1 h2 h3 h4

/-- an append of a list onto an empty one, at a step of a region that draws its order -/
theorem step_app_new {ops : Array Oper} {o : Oper} {a : Act} {K : Act → World → Prop} {Q : Exit → Act → World → Prop} {E : Prop} (w : World) (hgd : o.guard = none) (s x : Operand)
    (hop : o.op = Op.call { callee := Callee.builtin Builtin.append, args := #[s, x], argTypes := #[22, 22] })
    (B : Nat) (ao : Option Addr) (cap : Nat) (hs : a.eval s = .slice ao 0 cap) (hown : OwnI B w ao 0 cap [])
    (ax : Option Addr) (m cx : Nat) (ys : List Int) (hx : a.eval x = .slice ax m cx) (hy : IntsAt w ax ys) (hm : ys.length = m) (hnil : ax = none → m = 0 ∧ cx = 0) (hb : m ≤ 1000000) (hB : B ≤ w.heap.size)
    (hK : ∀ ao' cap' w', Below B w w' → OwnI B w' ao' m cap' ys → B ≤ w'.heap.size → w.grownBy w' (Value.ownBlock (.slice ao 0 cap)) → K (a.put o.dst (.slice ao' m cap')) w') :
    if Region.wanted o (yielded ops a.tmps) = true then Oper.wp Try.prog o a w K Q else E :=
  step_app_many w hgd s x hop B ao 0 cap [] hs hown ax m cx ys hx hy hm hnil (by omega) hB (fun ao' cap' w' h1 h2 h4 _ => by
    rw [Nat.zero_add] at h2 ⊢
    exact hK ao' cap' w' h1 h2 (Nat.le_trans hB h1.size) h4)

theorem grown_cell {w w' : World} {row : Option Nat} (h : w.grownBy w' row) {b : Nat} {v : Value} {t : TypeId} (hb : w.heap[b]? = some (.cells #[v] t (0, 0))) (hne : row ≠ some b) : w'.cell? ⟨b, 0, none⟩ = some v := by
  have h1 := (h.block b (Array.getElem?_eq_some_iff.1 hb).1 (fun e => hne e.symm)).trans hb
  rw [cell_of_row _ _ _ _ _ _ h1]; rfl

/-- a list of the call's own, nil where it is empty, perhaps -/
def OwnP (w : World) (xs : List Int) (e : Ending) (w' : World) : Prop := ∃ ao cap, e = .returned (.slice ao xs.length cap) ∧ IntsAt w' ao xs ∧ (ao = none → cap = 0) ∧ Below w.heap.size w w'


end Go.Proofs.Ytkioejdddmnbmaa
