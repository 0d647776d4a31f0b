/- Laws of the walk for append onto a full slice of ints, made for []int (type 22) and int (type 3). -/
import Derived.Test.YtkioejdddmnbmaaRows
import Derived.Test.YtkioejdddmnbmaaLib
import Derived.Test.YtkioejdddmnbmaaRange
import Derived.OwnWalkIn
import Derived.Laws.CopyOwn
import Derived.ArgAppend
import Derived.Deep.QuietTactic
import Derived.BigQuiet
import Derived.Test.YtkioejdddmnbmaaAgg
namespace Go.Proofs.Ytkioejdddmnbmaa
open Go.RowKit

theorem info3 : (Try.prog.info? 3).map (fun i => (i.zero, i.size, i.bytes)) = some (some (.int .i64 0), 1, 8) := by kernel_rfl

def intv (xs : List Int) : List Value := xs.map (Value.int .i64)

theorem intv_length (xs : List Int) : (intv xs).length = xs.length := by simp [intv]
theorem intv_get (xs : List Int) (j : Nat) : (intv xs)[j]? = if j < xs.length then some (.int .i64 (nth xs j)) else none := by
  unfold intv
  split
  · rename_i h; simp [nth_eq h, h]
  · rename_i h; simp at h; simp [h]
theorem intv_append (xs ys : List Int) : intv (xs ++ ys) = intv xs ++ intv ys := by simp [intv]
theorem intv_one (xs : List Int) : ∀ u ∈ intv xs, u.oneCell' = true := by
  intro u hu; simp [intv] at hu; obtain ⟨x, _, rfl⟩ := hu; rfl

theorem IntsAt.of_owns {w : World} {base b cap : Nat} {xs : List Int} (h : w.ownsRow base 3 1 (.slice (some ⟨b, 0, none⟩) xs.length cap) xs.length (intv xs)) : IntsAt w (some ⟨b, 0, none⟩) xs :=
  .inr ⟨b, 0, rfl, fun j hj => by
    have := h.cells rfl j (.int .i64 (nth xs j)) (by rw [intv_get, if_pos hj])
    simpa [Addr.add_lit] using this⟩

/-- the run of an append of one number onto a full slice: a new block -/
theorem run_app_full (ty : TypeId) (w : World) (ao : Option Addr) (cap : Nat) (xs : List Int) (hat : IntsAt w ao xs) (hnil : ao = none → xs.length = 0 ∧ cap = 0)
    (ad : Addr) (u : Int) (hu : w.cell? ad = some (.int .i64 u)) (hfull : cap < xs.length + 1) (hb : xs.length ≤ 1000000) :
    ∃ b' cap' w', (Builtin.append_ #[22, 22] ty #[.slice ao xs.length cap, .slice (some ad) 1 1]).run Try.prog w = .ok (.slice (some ⟨b', 0, none⟩) (xs.length + 1) cap') w' ∧
      Below w.heap.size w w' ∧ w.heap.size ≤ b' ∧ IntsAt w' (some ⟨b', 0, none⟩) (xs ++ [u]) ∧ xs.length + 1 ≤ cap' := by
  obtain ⟨i, hi, hz, hs, hby⟩ := info_parts info3
  have hnews : ∀ j v, [Value.int .i64 u][j]? = some v → w.cell? (ad.add j) = some v := by
    intro j v hj
    match j, hj with
    | 0, hj => simp at hj; subst hj; simpa [Addr.add] using hu
    | j + 1, hj => simp at hj
  have hown : ∀ v' w', w'.ownsRow w.heap.size 3 1 v' (xs.length + 1) (intv xs ++ [Value.int .i64 u]) → w.grownBy w' none →
      ∃ b' cap', v' = .slice (some ⟨b', 0, none⟩) (xs.length + 1) cap' ∧ Below w.heap.size w w' ∧ w.heap.size ≤ b' ∧ IntsAt w' (some ⟨b', 0, none⟩) (xs ++ [u]) ∧ xs.length + 1 ≤ cap' := by
    intro v' w' ho hg
    have hB : Below w.heap.size w w' := (Below.refl _ w).grown hg (Nat.le_refl _) (fun k e => by cases e)
    obtain ⟨hl, (⟨rfl, h0⟩ | ⟨g, c, cur, rfl, hge, hh, hle, hrest⟩)⟩ := ho
    · omega
    · refine ⟨g, c, rfl, hB, hge, ?_, hle⟩
      have ho' : w'.ownsRow w.heap.size 3 1 (.slice (some ⟨g, 0, none⟩) (xs ++ [u]).length c) (xs ++ [u]).length (intv (xs ++ [u])) := by
        rw [intv_append]; simp only [List.length_append, List.length_singleton]
        exact ⟨hl, .inr ⟨g, c, cur, rfl, hge, hh, hle, hrest⟩⟩
      exact IntsAt.of_owns ho'
  cases ao with
  | some b =>
    obtain ⟨v', w', hrun, r1, r2⟩ := run_append_arg_grows (P := Try.prog) w 22 ty 3 i (.int .i64 0) 1 8 Try.underlying22 hi hz hs hby rfl (by decide) b xs.length cap (intv xs) (by simp [intv])
      (fun j v hj => by
        rw [intv_get] at hj
        split at hj
        · rename_i hlt
          obtain ⟨b2, off, e, hc⟩ := hat.at hlt
          simp at e; subst e
          simp at hj; subst hj
          rw [Addr.add_lit]; exact hc
        · simp at hj) ad 1 1 [.int .i64 u] rfl hnews hfull (by unfold maxLen; omega) (by omega)
    obtain ⟨b', cap', rfl, h⟩ := hown v' w' r1 r2
    exact ⟨b', cap', w', hrun, h⟩
  | none =>
    obtain ⟨h0, rfl⟩ := hnil rfl
    obtain rfl : xs = [] := List.eq_nil_of_length_eq_zero h0
    obtain ⟨v', w', hrun, r1, r2, _⟩ := run_append_own (P := Try.prog) w w.heap.size 22 ty 3 i (.int .i64 0) 1 8 Try.underlying22 hi hz hs hby rfl (by decide) (.slice none 0 0) 0 [] (World.ownsRow_nil w _ 3 1) ad 1 1 [.int .i64 u] rfl hnews
      (by intro u hu; simp at hu; subst hu; rfl) (by unfold maxLen; omega) (by omega) (Nat.le_refl _)
    obtain ⟨b', cap', rfl, h⟩ := hown v' w' r1 (by simpa [Value.ownBlock] using r2)
    exact ⟨b', cap', w', hrun, h⟩

theorem wpList_app_full {ops : Array Oper} {rest : List Oper} {o : Oper} {a : Act} {Q : Exit → Act → World → Prop} (w : World) (hg : o.guard = none) (s x : Operand)
    (hop : o.op = Op.call { callee := Callee.builtin Builtin.append, args := #[s, x], argTypes := #[22, 22] })
    (ao : Option Addr) (m cap : Nat) (xs : List Int) (hm : xs.length = m) (hs : a.eval s = .slice ao m cap) (hat : IntsAt w ao xs) (hnil : ao = none → m = 0 ∧ cap = 0)
    (ad : Addr) (u : Int) (hx : a.eval x = .slice (some ad) 1 1) (hu : w.cell? ad = some (.int .i64 u)) (hfull : cap < m + 1) (hb : m ≤ 1000000)
    (hK : ∀ b' cap' w', Below w.heap.size w w' → w.heap.size ≤ b' → IntsAt w' (some ⟨b', 0, none⟩) (xs ++ [u]) → m + 1 ≤ cap' →
      wpList Try.prog ops Q rest (a.put o.dst (.slice (some ⟨b', 0, none⟩) (m + 1) cap')) w') :
    wpList Try.prog ops Q (o :: rest) a w := by
  subst hm
  refine wpList_plain hg fun K hK' => ?_
  obtain ⟨b', cap', w', hrun, h1, h2, h3, h4⟩ := run_app_full o.type w ao cap xs hat hnil ad u hu hfull hb
  unfold Oper.wp
  simp [execOp, hop, resolve, invoke, builtin, hs, hx, hrun, Result.andThen]
  exact hK' _ _ (hK b' cap' w' h1 h2 h3 h4)

theorem wpListIn_app_full {F : Fence} {n : Nat} {ops : Array Oper} {rest : List Oper} {o : Oper} {a : Act} {Q : Exit → Act → World → Prop} (w : World) (hg : o.guard = none) (s x : Operand)
    (hop : o.op = Op.call { callee := Callee.builtin Builtin.append, args := #[s, x], argTypes := #[22, 22] })
    (ao : Option Addr) (m cap : Nat) (xs : List Int) (hm : xs.length = m) (hs : a.eval s = .slice ao m cap) (hat : IntsAt w ao xs) (hnil : ao = none → m = 0 ∧ cap = 0)
    (ad : Addr) (u : Int) (hx : a.eval x = .slice (some ad) 1 1) (hu : w.cell? ad = some (.int .i64 u)) (hfull : cap < m + 1) (hb : m ≤ 1000000)
    (hK : ∀ b' cap' w', Below w.heap.size w w' → w.heap.size ≤ b' → IntsAt w' (some ⟨b', 0, none⟩) (xs ++ [u]) → m + 1 ≤ cap' →
      wpListIn F n Try.prog ops Q rest (a.put o.dst (.slice (some ⟨b', 0, none⟩) (m + 1) cap')) w') :
    wpListIn F n Try.prog ops Q (o :: rest) a w := by
  subst hm
  refine wpListIn_plain hg fun K hK' => ?_
  obtain ⟨b', cap', w', hrun, h1, h2, h3, h4⟩ := run_app_full o.type w ao cap xs hat hnil ad u hu hfull hb
  unfold Oper.wpIn
  refine ⟨?_, ?_⟩
  · simp [Oper.about, hop, resolve, Target.leads, Sem.run_pure]
  · rw [Oper.semAt_plain F _ _ (by rw [hop]; intro c hc'; cases hc')]
    simp [execOp, hop, resolve, invoke, builtin, hs, hx, hrun, Result.andThen]
    exact hK' _ _ (hK b' cap' w' h1 h2 h3 h4)


theorem IntsAt.only {S : Nat → Prop} {w w' : World} {a : Option Addr} {xs : List Int} (h : IntsAt w a xs) (hb : Only S w w') (hs : ∀ b off, a = some ⟨b, off, none⟩ → 0 < xs.length → ¬ S b) : IntsAt w' a xs := by
  rcases h with rfl | ⟨b, off, rfl, h⟩
  · exact .inl rfl
  · exact .inr ⟨b, off, rfl, fun j hj => hb.cell (h j hj) (hs b off rfl (by omega))⟩

theorem madeInts (n : Nat) : madeCells #[.int .i64 0] n = (intv (List.replicate n 0)).toArray := by
  apply Array.ext'
  simp only [madeCells, intv, List.map_replicate]
  rw [List.eq_replicate_iff]
  refine ⟨by simp, fun v hv => ?_⟩
  simp at hv
  obtain ⟨a, _, rfl⟩ := hv
  simp [Nat.mod_one]

theorem run_make_ints (w : World) (n m : Nat) (hnm : n ≤ m) (hm : m ≤ 1000000) : (Instr.makeSlice 22 (.int .i64 n) (.int .i64 m)).run Try.prog w =
    .ok (.slice (some ⟨w.heap.size, 0, none⟩) n m) (w.alloc (.cells (intv (List.replicate m 0)).toArray 3)) := by
  obtain ⟨i, hi, hz, hs, hby⟩ := info_parts info3
  have := run_make (P := Try.prog) (w := w) 22 3 i (.int .i64 0) Try.underlying22 hi hz .i64 .i64 n m (by omega) (by omega) (by rw [hby]; omega) (by omega)
  rw [this, hs]
  simp only [Int.toNat_natCast, Nat.mul_one, Value.cells, madeInts]

theorem setRow_alloc (w : World) (cs ds : Array Value) (t : TypeId) : (w.alloc (.cells cs t)).setRow w.heap.size ds = w.alloc (.cells ds t) := by
  unfold World.setRow
  unfold World.alloc
  congr 1
  apply Array.ext
  · simp
  · intro i h1 h2
    simp [Array.getElem_modify, Array.getElem_push]
    by_cases h : i < w.heap.size
    · rw [if_neg (by omega)]; simp [h]
    · obtain rfl : i = w.heap.size := by simp at h2; omega
      simp

/-- copy of a whole slice of ints into a slice that was made just now -/
theorem run_copy_new (ty : TypeId) (w : World) (ao : Option Addr) (cap : Nat) (xs zs : List Int) (hat : IntsAt w ao xs) (hz : zs.length = xs.length) :
    (Builtin.copy_ #[22, 22] ty #[.slice (some ⟨w.heap.size, 0, none⟩) xs.length xs.length, .slice ao xs.length cap]).run Try.prog (w.alloc (.cells (intv zs).toArray 3)) =
      .ok (.int .i64 xs.length) (w.alloc (.cells (intv xs).toArray 3)) := by
  obtain ⟨i, hi, _, hs, _⟩ := info_parts info3
  have hs1 : (Try.prog.info? 3).map (·.size) = some 1 := by rw [hi]; simp [hs]
  by_cases h0 : xs.length = 0
  · obtain rfl : xs = [] := List.eq_nil_of_length_eq_zero h0
    obtain rfl : zs = [] := List.eq_nil_of_length_eq_zero hz
    rw [run_copy_none (P := Try.prog) _ 22 22 ty 3 _ ao _ _ _ cap Try.underlying22 hs1 (by simp)]
    rfl
  · obtain ⟨b, off, rfl, _⟩ := hat.at (k := 0) (by omega)
    have hat' := hat.mono ((Below.refl _ w).alloc (Nat.le_refl _) (.cells (intv zs).toArray 3))
    rw [run_copy_row (P := Try.prog) (w.alloc (.cells (intv zs).toArray 3)) 22 22 ty 3 w.heap.size 0 xs.length xs.length ⟨b, off, none⟩ xs.length cap (intv zs).toArray 3 (intv xs) Try.underlying22 hs1 (heap_alloc_new w _)
      (by simp [intv_length]) (fun j v hj => by
        rw [intv_get] at hj
        split at hj
        · rename_i hlt
          simp at hj; subst hj
          rw [Addr.add_lit]; exact hat'.cell hlt
        · simp at hj) (by simp [intv_length, hz]) (intv_one xs)]
    rw [setRow_alloc]
    rw [List.drop_of_length_le (by simp [intv_length, hz])]
    simp [intv_length, goInt]


/-- a slice of ints of the call's own, nil or at the head of a block from B on -/
def OwnI (B : Nat) (w : World) (ao : Option Addr) (n cap : Nat) (xs : List Int) : Prop := xs.length = n ∧ w.ownsRow B 3 1 (.slice ao n cap) n (intv xs)

theorem OwnI.nil (B : Nat) (w : World) : OwnI B w none 0 0 [] := ⟨rfl, World.ownsRow_nil w B 3 1⟩

theorem OwnI.at {B : Nat} {w : World} {ao : Option Addr} {n cap : Nat} {xs : List Int} (h : OwnI B w ao n cap xs) : IntsAt w ao xs := by
  obtain ⟨rfl, ho⟩ := h
  rcases ho with ⟨hl, (⟨e, h0⟩ | ⟨g, c, cur, e, hge, hh, hr⟩)⟩
  · exact .inl (List.eq_nil_of_length_eq_zero h0)
  · cases e
    exact IntsAt.of_owns ⟨hl, .inr ⟨_, _, cur, rfl, hge, hh, hr⟩⟩

theorem OwnI.none {B : Nat} {w : World} {ao : Option Addr} {n cap : Nat} {xs : List Int} (h : OwnI B w ao n cap xs) : ao = none → n = 0 ∧ cap = 0 := by
  rintro rfl
  rcases h.2 with ⟨hl, (⟨e, h0⟩ | ⟨g, c, cur, e, hr⟩)⟩
  · cases e; exact ⟨rfl, rfl⟩
  · cases e

theorem OwnI.kept {B : Nat} {w w' : World} {ao : Option Addr} {n cap : Nat} {xs : List Int} (h : OwnI B w ao n cap xs) (hB : Below w.heap.size w w') : OwnI B w' ao n cap xs := by
  refine ⟨h.1, h.2.kept (row := Option.none) ⟨hB.os, hB.tape, hB.output, hB.size, fun k hk _ => hB.block k hk⟩ ?_⟩
  cases ao
  · exact .inl rfl
  · exact .inr (by simp [Value.ownBlock])

theorem OwnI.alloc {B : Nat} {w : World} {ao : Option Addr} {n cap : Nat} {xs : List Int} (h : OwnI B w ao n cap xs) (o : Obj) : OwnI B (w.alloc o) ao n cap xs :=
  h.kept ((Below.refl _ _).alloc (Nat.le_refl _) _)

theorem OwnI.base {B B' : Nat} {w : World} {ao : Option Addr} {n cap : Nat} {xs : List Int} (h : OwnI B w ao n cap xs) (hb : B' ≤ B) : OwnI B' w ao n cap xs := by
  refine ⟨h.1, h.2.1, ?_⟩
  rcases h.2.2 with h | ⟨g, c, cur, e, hge, hr⟩
  · exact .inl h
  · exact .inr ⟨g, c, cur, e, Nat.le_trans hb hge, hr⟩

theorem OwnI.drewN {B : Nat} {w : World} {ao : Option Addr} {n cap : Nat} {xs : List Int} (h : OwnI B w ao n cap xs) (k : Nat) : OwnI B (w.drewN k) ao n cap xs := h

/-- the run of an append of one number onto a slice of the call's own -/
theorem run_app_own (ty : TypeId) (w : World) (B : Nat) (ao : Option Addr) (n cap : Nat) (xs : List Int) (hown : OwnI B w ao n cap xs)
    (ad : Addr) (u : Int) (hu : w.cell? ad = some (.int .i64 u)) (hb : n ≤ 1000000) (hB : B ≤ w.heap.size) :
    ∃ b' cap' w', (Builtin.append_ #[22, 22] ty #[.slice ao n cap, .slice (some ad) 1 1]).run Try.prog w = .ok (.slice (some ⟨b', 0, none⟩) (n + 1) cap') w' ∧
      Below B w w' ∧ B ≤ b' ∧ OwnI B w' (some ⟨b', 0, none⟩) (n + 1) cap' (xs ++ [u]) ∧ w.grownBy w' (Value.ownBlock (.slice ao n cap)) := by
  obtain ⟨i, hi, hz, hs, hby⟩ := info_parts info3
  have hnews : ∀ j v, [Value.int .i64 u][j]? = some v → w.cell? (ad.add j) = some v := by
    intro j v hj
    match j, hj with
    | 0, hj => simp at hj; subst hj; simpa [Addr.add] using hu
    | j + 1, hj => simp at hj
  obtain ⟨v', w', hrun, r1, r2, _⟩ := run_append_own (P := Try.prog) w B 22 ty 3 i (.int .i64 0) 1 8 Try.underlying22 hi hz hs hby rfl (by decide) (.slice ao n cap) n (intv xs) hown.2 ad 1 1 [.int .i64 u] rfl hnews
    (by intro u hu; simp at hu; subst hu; rfl) (by unfold maxLen; omega) (by omega) hB
  rcases r1 with ⟨hl, (⟨rfl, h0⟩ | ⟨g, c, cur, rfl, hge, hh, hr⟩)⟩
  · omega
  · refine ⟨g, c, w', hrun, (Below.refl B w).grown r2 hB (fun k e => (hown.2.lt k e).1), hge, ⟨by simp [hown.1], ?_⟩, r2⟩
    rw [intv_append]
    exact ⟨hl, .inr ⟨g, c, cur, rfl, hge, hh, hr⟩⟩

theorem wpList_app_own {ops : Array Oper} {rest : List Oper} {o : Oper} {a : Act} {Q : Exit → Act → World → Prop} (w : World) (hg : o.guard = none) (s x : Operand)
    (hop : o.op = Op.call { callee := Callee.builtin Builtin.append, args := #[s, x], argTypes := #[22, 22] })
    (B : Nat) (ao : Option Addr) (n cap : Nat) (xs : List Int) (hs : a.eval s = .slice ao n cap) (hown : OwnI B w ao n cap xs)
    (ad : Addr) (u : Int) (hx : a.eval x = .slice (some ad) 1 1) (hu : w.cell? ad = some (.int .i64 u)) (hb : n ≤ 1000000) (hB : B ≤ w.heap.size)
    (hK : ∀ b' cap' w', Below B w w' → B ≤ b' → OwnI B w' (some ⟨b', 0, none⟩) (n + 1) cap' (xs ++ [u]) → w.grownBy w' (Value.ownBlock (.slice ao n cap)) →
      wpList Try.prog ops Q rest (a.put o.dst (.slice (some ⟨b', 0, none⟩) (n + 1) cap')) w') :
    wpList Try.prog ops Q (o :: rest) a w := by
  refine wpList_plain hg fun K hK' => ?_
  obtain ⟨b', cap', w', hrun, h1, h2, h3, h4⟩ := run_app_own o.type w B ao n cap xs hown ad u hu hb hB
  unfold Oper.wp
  simp [execOp, hop, resolve, invoke, builtin, hs, hx, hrun, Result.andThen]
  exact hK' _ _ (hK b' cap' w' h1 h2 h3 h4)

theorem wpListIn_app_own {F : Fence} {m : Nat} {ops : Array Oper} {rest : List Oper} {o : Oper} {a : Act} {Q : Exit → Act → World → Prop} (w : World) (hg : o.guard = none) (s x : Operand)
    (hop : o.op = Op.call { callee := Callee.builtin Builtin.append, args := #[s, x], argTypes := #[22, 22] })
    (B : Nat) (ao : Option Addr) (n cap : Nat) (xs : List Int) (hs : a.eval s = .slice ao n cap) (hown : OwnI B w ao n cap xs)
    (ad : Addr) (u : Int) (hx : a.eval x = .slice (some ad) 1 1) (hu : w.cell? ad = some (.int .i64 u)) (hb : n ≤ 1000000) (hB : B ≤ w.heap.size)
    (hK : ∀ b' cap' w', Below B w w' → B ≤ b' → OwnI B w' (some ⟨b', 0, none⟩) (n + 1) cap' (xs ++ [u]) → w.grownBy w' (Value.ownBlock (.slice ao n cap)) →
      wpListIn F m Try.prog ops Q rest (a.put o.dst (.slice (some ⟨b', 0, none⟩) (n + 1) cap')) w') :
    wpListIn F m Try.prog ops Q (o :: rest) a w := by
  refine wpListIn_plain hg fun K hK' => ?_
  obtain ⟨b', cap', w', hrun, h1, h2, h3, h4⟩ := run_app_own o.type w B ao n cap xs hown ad u hu hb hB
  unfold Oper.wpIn
  refine ⟨?_, ?_⟩
  · simp [Oper.about, hop, resolve, Target.leads, Sem.run_pure]
  · rw [Oper.semAt_plain F _ _ (by rw [hop]; intro c hc'; cases hc')]
    simp [execOp, hop, resolve, invoke, builtin, hs, hx, hrun, Result.andThen]
    exact hK' _ _ (hK b' cap' w' h1 h2 h3 h4)


theorem zeroCells_ints (n : Nat) : Builtin.zeroCells #[.int .i64 0] n = (intv (List.replicate n 0)).toArray := by
  rw [← madeInts]
  unfold Builtin.zeroCells madeCells
  simp

/-- clear over a part of a block that is known whole -/
theorem wpList_clear_ints {ops : Array Oper} {rest : List Oper} {o : Oper} {a : Act} {Q : Exit → Act → World → Prop} (w : World) (hgd : o.guard = none) (x : Operand)
    (hop : o.op = Op.call { callee := Callee.builtin Builtin.clear, args := #[x], argTypes := #[22] })
    (g off n c : Nat) (hx : a.eval x = .slice (some ⟨g, off, none⟩) n c) (t : TypeId) (cs : List Value) (hg : w.heap[g]? = some (.cells cs.toArray t (0, 0))) (hn : off + n ≤ cs.length)
    (h : ∀ w', w'.heap[g]? = some (.cells (cs.take off ++ (intv (List.replicate n 0) ++ cs.drop (off + n))).toArray t (0, 0)) → Only (fun b => b = g) w w' → wpList Try.prog ops Q rest (a.put o.dst (.tuple #[])) w') :
    wpList Try.prog ops Q (o :: rest) a w := by
  refine wpList_plain hgd fun K hK => ?_
  obtain ⟨i, hi, hz, _, _⟩ := info_parts info3
  unfold Oper.wp
  rcases Nat.eq_zero_or_pos n with rfl | hp
  · simp [execOp, hop, resolve, invoke, builtin, hx, Builtin.clear_, run_underlying Try.underlying22, Result.andThen]
    exact hK _ _ (h w (by simpa [intv] using hg) (Only.refl _ _))
  · obtain ⟨m, rfl⟩ : ∃ m, n = m + 1 := ⟨n - 1, by omega⟩
    have hst := run_storeCells_at (P := Try.prog) g off t (intv (List.replicate (m + 1) 0)) 0 cs.toArray w hg (by simp [intv]; omega) (intv_one _)
    simp only [Nat.add_zero, intv_length, List.length_replicate] at hst
    have hzc : (Builtin.zeroCells (Value.int IntKind.i64 0).cells (m + 1)).toList = intv (List.replicate (m + 1) 0) := by
      show (Builtin.zeroCells #[.int .i64 0] (m + 1)).toList = _
      rw [zeroCells_ints]
    simp [execOp, hop, resolve, invoke, builtin, hx, Builtin.clear_, run_underlying Try.underlying22, zeroValue, typeInfo, hi, hz, hzc, hst, Result.andThen]
    exact hK _ _ (h _ (by rw [setRow_heap hg]) (setRow_only _ _))

end Go.Proofs.Ytkioejdddmnbmaa
