/- The arguments of the laws: what is read of them. -/
import Derived.Test.YtnnojhpioenhbaaRows
import Derived.Test.YtnnojhpioenhbaaKM
import Derived.ProofKit
import Derived.Lib.SmallJoins
import Derived.Carry
import Derived.Deep.Slices
namespace Go.Proofs.Ytnnojhpioenhbaa
open Go.ChangeShapes Go.WideShapes Go.ChangeAt Go.RowKit

theorem ownT : ownKnob Try.prog.godebug = none := by kernel_rfl
theorem laidT : laidOutB Try.prog = true := by kernel_rfl
theorem cellsJ2 : Try.prog.cellsOf 2 = 1 := by kernel_rfl
theorem cellsJ3 : Try.prog.cellsOf 3 = 1 := by kernel_rfl
theorem cellsJ42 : Try.prog.cellsOf 42 = 1 := by kernel_rfl
theorem cellsJ25 : Try.prog.cellsOf 25 = 2 := by kernel_rfl
theorem cellsJ51 : Try.prog.cellsOf 51 = 2 := by kernel_rfl
theorem cellsJ32 : Try.prog.cellsOf 32 = 2 := by kernel_rfl
theorem cellsJ77 : Try.prog.cellsOf 77 = 2 := by kernel_rfl

theorem getD_take {zs : List Int} {n j : Nat} (h : j < n) : zs.getD j 0 = nth (zs.take n) j := by
  rw [nth_take h]; rfl

/-- a slice of ints that comes in, out of its one cell -/
theorem cellsInts {H : Type} {enc : TypeId × Value → H} {W : World} {base fuel : Nat} {held : Bool} {v : Value} {y : DataW H × List MemPlace} {t u : TypeId} (ht : Try.prog.underlying t = some (.slice u)) (hu : Try.prog.underlying u = some (.int .i64)) (hc : Try.prog.cellsOf u = 1)
    (h : DataW.trod enc Try.prog W base (fun _ => true) held fuel t [v] = some y) :
    ∃ a cap xs, v = .slice a xs.length cap ∧ IntsAt W a xs ∧ (a = none → cap = 0) ∧ xs.length ≤ cap := by
  rcases open_ints ht hu hc h with ⟨hcs, _⟩ | ⟨a, len, cap, zs, hcs, _, hl, hm, hz, _, hcell, _⟩
  · exact ⟨none, 0, [], by simpa using hcs, .inl rfl, fun _ => rfl, Nat.zero_le _⟩
  · simp only [if_true] at hz
    have hv : v = .slice (some a) len cap := by simpa using hcs
    have hzl : (zs.take len).length = len := by rw [List.length_take]; omega
    refine ⟨some a, cap, zs.take len, by rw [hzl]; exact hv, ?_, fun h => (by cases h), by omega⟩
    by_cases h0 : len = 0
    · subst h0; exact .inl (by simp)
    · obtain ⟨b, off, spot⟩ := a
      have hspot : spot = none := by simpa [Addr.add] using World.cell?_spot (hcell 0 (by omega))
      subst hspot
      refine .inr ⟨b, off, rfl, fun j hj => ?_⟩
      rw [hzl] at hj
      have := hcell j (by omega)
      rw [← getD_take hj]
      rw [add_plain] at this
      exact this

theorem cells_two {w : World} {base : Nat} {a : Addr} {cs : List Value} (h : w.cells? base a 2 = some cs) : ∃ c0 c1, cs = [c0, c1] ∧ w.cell? (a.add 0) = some c0 ∧ w.cell? (a.add 1) = some c1 := by
  unfold World.cells? at h
  split at h
  · cases h0 : w.cell? (a.add 0) with
    | none => simp [List.range_succ, h0] at h
    | some c0 =>
      cases h1 : w.cell? (a.add 1) with
      | none => simp [List.range_succ, h0, h1] at h
      | some c1 =>
        simp [List.range_succ, h0, h1] at h
        exact ⟨c0, c1, h.symm, rfl, rfl⟩
  · cases h
theorem cells_one {w : World} {base : Nat} {a : Addr} {cs : List Value} (h : w.cells? base a 1 = some cs) : ∃ c0, cs = [c0] ∧ w.cell? (a.add 0) = some c0 := by
  unfold World.cells? at h
  split at h
  · cases h0 : w.cell? (a.add 0) with
    | none => simp [List.range_succ, h0] at h
    | some c0 =>
      simp [List.range_succ, h0] at h
      exact ⟨c0, h.symm, rfl⟩
  · cases h

/-- a list of what there is at each place -/
theorem gather {α : Type} {d : α} {Q : Nat → α → Prop} : ∀ n : Nat, (∀ i, i < n → ∃ r, Q i r) → ∃ rs : List α, rs.length = n ∧ ∀ i, i < n → Q i (rs.getD i d)
  | 0, _ => ⟨[], rfl, fun i h => by omega⟩
  | n + 1, h => by
    obtain ⟨rs, hl, hq⟩ := gather n (fun i hi => h i (by omega))
    obtain ⟨r, hr⟩ := h n (by omega)
    refine ⟨rs ++ [r], by simp [hl], fun i hi => ?_⟩
    by_cases e : i = n
    · subst e
      have : (rs ++ [r]).getD i d = r := by rw [List.getD_eq_getElem?_getD, List.getElem?_append_right (by omega)]; simp [hl]
      rw [this]; exact hr
    · have : (rs ++ [r]).getD i d = rs.getD i d := by rw [List.getD_eq_getElem?_getD, List.getD_eq_getElem?_getD, List.getElem?_append_left (by omega)]
      rw [this]; exact hq i (by omega)

set_option maxRecDepth 100000 in
/-- the rows that come in, out of their one cell -/
theorem cells22 {H : Type} {enc : TypeId × Value → H} {W : World} {base fuel : Nat} {held : Bool} {v : Value} {y : DataW H × List MemPlace} (h : DataW.trod enc Try.prog W base (fun _ => true) held fuel 22 [v] = some y) :
    ∃ a cap ls, v = .slice a ls.length cap ∧ RowsAt W a ls ∧ (a = none → cap = 0) ∧ ls.length ≤ cap := by
  rcases Go.Deep.open_slice Try.underlying22 h with ⟨hcs, _⟩ | ⟨a, len, cap, m, n, D, Pl, hcs, _, hl, _, hm, _, hel⟩
  · exact ⟨none, 0, [], by simpa using hcs, .inl rfl, fun _ => rfl, Nat.zero_le _⟩
  · simp only [if_true] at hm
    subst hm
    have hv : v = .slice (some a) len m := by simpa using hcs
    rw [cellsJ42] at hel
    by_cases h0 : len = 0
    · subst h0; exact ⟨some a, m, [], hv, .inl rfl, fun h => (by cases h), hl⟩
    · have each : ∀ i, i < len → ∃ r : List Int, ∃ ai ci, W.cell? (a.add (i * 1)) = some (.slice ai r.length ci) ∧ IntsAt W ai r ∧ (ai = none → ci = 0) := by
        intro i hi
        obtain ⟨cs', hc, ht⟩ := hel i (by omega)
        obtain ⟨c0, rfl, k0⟩ := cells_one hc
        obtain ⟨ai, ci, xs, rfl, hx, hn, _⟩ := cellsInts Try.underlying42 Try.underlying3 cellsJ3 ht
        exact ⟨xs, ai, ci, by simpa [Addr.add] using k0, hx, hn⟩
      obtain ⟨rs, hrl, hrs⟩ := gather (d := []) len each
      obtain ⟨b, off, spot⟩ := a
      have hspot : spot = none := by
        obtain ⟨ai, ci, k, _⟩ := hrs 0 (by omega)
        simpa [Addr.add] using World.cell?_spot k
      subst hspot
      refine ⟨some ⟨b, off, none⟩, m, rs, by rw [hrl]; exact hv, .inr ⟨b, off, rfl, fun i hi => ?_⟩, fun h => (by cases h), by omega⟩
      obtain ⟨ai, ci, k0, hx, hn⟩ := hrs i (by omega)
      rw [add_plain, Nat.mul_one] at k0
      exact ⟨ai, ci, k0, hx, hn⟩

set_option maxRecDepth 100000 in
/-- the plumbs that come in, out of their one cell -/
theorem cells49 {H : Type} {enc : TypeId × Value → H} {W : World} {base fuel : Nat} {held : Bool} {v : Value} {y : DataW H × List MemPlace} (h : DataW.trod enc Try.prog W base (fun _ => true) held fuel 49 [v] = some y) :
    ∃ a cap ls, v = .slice a ls.length cap ∧ PlumbsAt W a ls ∧ (a = none → cap = 0) ∧ ls.length ≤ cap := by
  rcases Go.Deep.open_slice Try.underlying49 h with ⟨hcs, _⟩ | ⟨a, len, cap, m, n, D, Pl, hcs, _, hl, _, hm, _, hel⟩
  · exact ⟨none, 0, [], by simpa using hcs, .inl rfl, fun _ => rfl, Nat.zero_le _⟩
  · simp only [if_true] at hm
    subst hm
    have hv : v = .slice (some a) len m := by simpa using hcs
    rw [cellsJ77] at hel
    by_cases h0 : len = 0
    · subst h0; exact ⟨some a, m, [], hv, .inl rfl, fun h => (by cases h), hl⟩
    · have each : ∀ i, i < len → ∃ r : Int × Int, W.cell? (a.add (i * 2)) = some (.int .i64 r.1) ∧ W.cell? ((a.add (i * 2)).add 1) = some (.int .i64 r.2) := by
        intro i hi
        obtain ⟨cs', hc, ht⟩ := hel i (by omega)
        obtain ⟨c0, c1, rfl, k0, k1⟩ := cells_two hc
        obtain ⟨y0, y1, n', _, _, t0, t1⟩ := trod_struct2 Try.underlying77 ht
        have t0' : DataW.trod enc Try.prog W base (fun _ => true) held n' 2 [c0] = some y0 := by simpa [cellsJ2] using t0
        have t1' : DataW.trod enc Try.prog W base (fun _ => true) held n' 2 [c1] = some y1 := by simpa [cellsJ2] using t1
        obtain ⟨z, hz, _⟩ := DataW.trod_int Try.underlying2 t0'
        obtain ⟨z1, hz1, _⟩ := DataW.trod_int Try.underlying2 t1'
        simp only [List.cons.injEq, and_true] at hz hz1
        subst hz hz1
        exact ⟨(z, z1), by simpa [Addr.add] using k0, k1⟩
      obtain ⟨rs, hrl, hrs⟩ := gather (d := (0, 0)) len each
      obtain ⟨b, off, spot⟩ := a
      have hspot : spot = none := by
        obtain ⟨k, _⟩ := hrs 0 (by omega)
        simpa [Addr.add] using World.cell?_spot k
      subst hspot
      refine ⟨some ⟨b, off, none⟩, m, rs, by rw [hrl]; exact hv, .inr ⟨b, off, rfl, fun i hi => ?_⟩, fun h => (by cases h), by omega⟩
      obtain ⟨k0, k1⟩ := hrs i (by omega)
      rw [add_plain] at k0 k1
      rw [add_plain] at k1
      exact ⟨k0, k1⟩

set_option maxRecDepth 100000 in
theorem arg42 {H : Type} {enc : TypeId × Value → H} {W : World} {r : Reach} {b0 base : Nat} {held : Bool} {v : Value} {d : DataW H} {p : List MemPlace} (hv : Value.okWide Try.prog W r b0 42 v)
    (h : DataW.Trod enc Try.prog W base (fun _ => true) held 42 v d p) : ∃ a cap xs, v = .slice a xs.length cap ∧ IntsAt W a xs ∧ (a = none → cap = 0) ∧ xs.length ≤ cap := by
  obtain ⟨a, len, cap, rfl⟩ := okWide_slice Try.underlying42 hv
  obtain ⟨fuel, hf⟩ := h
  exact cellsInts Try.underlying42 Try.underlying3 cellsJ3 (by simpa [Value.cells] using hf)

set_option maxRecDepth 100000 in
theorem arg3 {H : Type} {enc : TypeId × Value → H} {W : World} {r : Reach} {b0 base : Nat} {sp : Nat → Bool} {held : Bool} {v : Value} {d : DataW H} {p : List MemPlace} (hv : Value.okWide Try.prog W r b0 3 v)
    (h : DataW.Trod enc Try.prog W base sp held 3 v d p) : ∃ n, v = .int .i64 n ∧ (Lit.int .i64 n).wf = true := by
  obtain ⟨a, rfl, rfl, rfl, wa⟩ := open_int Try.underlying3 hv h
  exact ⟨a, rfl, wa⟩

set_option maxRecDepth 100000 in
theorem arg25 {H : Type} {enc : TypeId × Value → H} {W : World} {r : Reach} {b0 base : Nat} {held : Bool} {v : Value} {d : DataW H} {p : List MemPlace} (hv : Value.okWide Try.prog W r b0 25 v)
    (h : DataW.Trod enc Try.prog W base (fun _ => true) held 25 v d p) :
    ∃ pa pc ya yc B, v = .agg #[.slice pa (Bd.pins B).length pc, .slice ya B.pays.length yc] ∧ BdAt W pa ya B ∧ ((pa = none → pc = 0) ∧ B.pins.length ≤ pc) ∧ (ya = none → yc = 0) ∧ B.pays.length ≤ yc := by
  obtain ⟨v0, v1, y0, y1, n, rfl, _, _, h0, h1⟩ := Go.Joins.open_agg2 Try.underlying25 (by kernel_rfl) cellsJ25 hv h
  obtain ⟨pa, pc, ls, rfl, i1, n1, m1⟩ := cells22 h0
  obtain ⟨ya, yc, ys, rfl, i2, n2, m2⟩ := cellsInts Try.underlying23 Try.underlying2 cellsJ2 h1
  exact ⟨pa, pc, ya, yc, ⟨ls, ys⟩, rfl, ⟨i1, i2⟩, ⟨n1, m1⟩, n2, m2⟩

set_option maxRecDepth 100000 in
theorem arg51 {H : Type} {enc : TypeId × Value → H} {W : World} {r : Reach} {b0 base : Nat} {held : Bool} {v : Value} {d : DataW H} {p : List MemPlace} (hv : Value.okWide Try.prog W r b0 51 v)
    (h : DataW.Trod enc Try.prog W base (fun _ => true) held 51 v d p) :
    ∃ la lc sa sc R, v = .agg #[.slice la (Rd.plumbs R).length lc, .slice sa R.slots.length sc] ∧ RdAt W la sa R ∧ ((la = none → lc = 0) ∧ R.plumbs.length ≤ lc) ∧ (sa = none → sc = 0) ∧ R.slots.length ≤ sc := by
  obtain ⟨v0, v1, y0, y1, n, rfl, _, _, h0, h1⟩ := Go.Joins.open_agg2 Try.underlying51 (by kernel_rfl) cellsJ51 hv h
  obtain ⟨la, lc, ls, rfl, i1, n1, m1⟩ := cells49 h0
  obtain ⟨sa, sc, ys, rfl, i2, n2, m2⟩ := cellsInts Try.underlying42 Try.underlying3 cellsJ3 h1
  exact ⟨la, lc, sa, sc, ⟨ls, ys⟩, rfl, ⟨i1, i2⟩, ⟨n1, m1⟩, n2, m2⟩

set_option maxRecDepth 100000 in
theorem arg32 {H : Type} {enc : TypeId × Value → H} {W : World} {r : Reach} {b0 base : Nat} {held : Bool} {v : Value} {d : DataW H} {p : List MemPlace} (hv : Value.okWide Try.prog W r b0 32 v)
    (h : DataW.Trod enc Try.prog W base (fun _ => true) held 32 v d p) : ∃ q : Int × Int, v = .agg #[.int .i64 q.1, .int .i64 q.2] := by
  obtain ⟨v0, v1, y0, y1, n, rfl, _, _, h0, h1⟩ := Go.Joins.open_agg2 Try.underlying32 (by kernel_rfl) cellsJ32 hv h
  obtain ⟨z, hz, _⟩ := DataW.trod_int Try.underlying2 h0
  obtain ⟨z1, hz1, _⟩ := DataW.trod_int Try.underlying2 h1
  simp only [List.cons.injEq, and_true] at hz hz1
  subst hz hz1
  exact ⟨(z, z1), rfl⟩

set_option maxRecDepth 100000 in
theorem arg5 {H : Type} {enc : TypeId × Value → H} {W : World} {r : Reach} {b0 base : Nat} {sp : Nat → Bool} {held : Bool} {v : Value} {d : DataW H} {p : List MemPlace} (hv : Value.okWide Try.prog W r b0 5 v)
    (h : DataW.Trod enc Try.prog W base sp held 5 v d p) : ∃ n : Nat, v = .int .u8 n ∧ n < 256 := by
  obtain ⟨a, rfl, rfl, rfl, wa⟩ := open_int Try.underlying5 hv h
  have h0 : IntKind.u8.min = 0 := by decide
  have h1 : IntKind.u8.max = 255 := by decide
  simp [Lit.wf, h0, h1] at wa
  obtain ⟨n, rfl⟩ := Int.eq_ofNat_of_zero_le (a := a) (by omega)
  exact ⟨n, rfl, by omega⟩

set_option maxRecDepth 100000 in
theorem arg75 {H : Type} {enc : TypeId × Value → H} {W : World} {r : Reach} {b0 base : Nat} {sp : Nat → Bool} {held : Bool} {v : Value} {d : DataW H} {p : List MemPlace} (hv : Value.okWide Try.prog W r b0 75 v)
    (h : DataW.Trod enc Try.prog W base sp held 75 v d p) : ∃ n : Nat, v = .int .u16 n ∧ n < 65536 := by
  obtain ⟨a, rfl, rfl, rfl, wa⟩ := open_int Try.underlying75 hv h
  have h0 : IntKind.u16.min = 0 := by decide
  have h1 : IntKind.u16.max = 65535 := by decide
  simp [Lit.wf, h0, h1] at wa
  obtain ⟨n, rfl⟩ := Int.eq_ofNat_of_zero_le (a := a) (by omega)
  exact ⟨n, rfl, by omega⟩

set_option maxRecDepth 100000 in
theorem argb {H : Type} {enc : TypeId × Value → H} {W : World} {r : Reach} {b0 base : Nat} {sp : Nat → Bool} {held : Bool} {v : Value} {d : DataW H} {p : List MemPlace} (hv : Value.okWide Try.prog W r b0 4 v)
    (h : DataW.Trod enc Try.prog W base sp held 4 v d p) : ∃ b : Bool, v = .bool b := by
  obtain ⟨b, rfl, _⟩ := open_bool Try.underlying4 hv h
  exact ⟨b, rfl⟩

end Go.Proofs.Ytnnojhpioenhbaa
