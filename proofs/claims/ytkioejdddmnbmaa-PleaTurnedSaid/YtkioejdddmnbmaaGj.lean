/- The arguments of the laws: what is read of them. The arguments of the laws: a list with its room. The arguments of the laws: a case with the room of its lists; small numbers; a rule. -/
import Derived.Test.YtkioejdddmnbmaaRows
import Derived.Test.YtkioejdddmnbmaaGb
import Derived.ProofKit
import Derived.Lib.SmallJoins
import Derived.Carry
import Derived.Deep.Slices
namespace Go.Proofs.Ytkioejdddmnbmaa
open Go.ChangeShapes Go.WideShapes Go.ChangeAt Go.RowKit

theorem ownT : ownKnob Try.prog.godebug = none := by kernel_rfl
theorem laidT : laidOutB Try.prog = true := by kernel_rfl
theorem cellsJ3 : Try.prog.cellsOf 3 = 1 := by kernel_rfl
theorem cellsJ22 : Try.prog.cellsOf 22 = 1 := by kernel_rfl
theorem cellsJ60 : Try.prog.cellsOf 60 = 2 := by kernel_rfl
theorem cellsJ25 : Try.prog.cellsOf 25 = 3 := by kernel_rfl

theorem getD_take {zs : List Int} {n j : Nat} (h : j < n) : zs.getD j 0 = nth (zs.take n) j := by
  rw [nth_take h]; rfl

/-- a slice of ints that comes in, out of its one cell -/
theorem cells22n {H : Type} {enc : TypeId × Value → H} {W : World} {base fuel : Nat} {held : Bool} {v : Value} {y : DataW H × List MemPlace} (h : DataW.trod enc Try.prog W base (fun _ => true) held fuel 22 [v] = some y) :
    ∃ a cap xs, v = .slice a xs.length cap ∧ IntsAt W a xs ∧ (a = none → cap = 0) := by
  rcases open_ints Try.underlying22 Try.underlying3 cellsJ3 h with ⟨hcs, _⟩ | ⟨a, len, cap, zs, hcs, _, hl, hm, hz, _, hcell, _⟩
  · exact ⟨none, 0, [], by simpa using hcs, .inl rfl, fun _ => rfl⟩
  · simp only [if_true] at hz
    have hv : v = .slice (some a) len cap := by simpa using hcs
    have hzl : (zs.take len).length = len := by rw [List.length_take]; omega
    refine ⟨some a, cap, zs.take len, by rw [hzl]; exact hv, ?_, fun h => by cases h⟩
    by_cases h0 : len = 0
    · subst h0; exact .inl (by simp)
    · obtain ⟨b, off, spot⟩ := a
      have hspot : spot = none := by simpa [Addr.add] using World.cell?_spot (hcell 0 (by omega))
      subst hspot
      refine .inr ⟨b, off, rfl, fun j hj => ?_⟩
      rw [hzl] at hj
      have := hcell j (by omega)
      rw [← getD_take hj]
      rw [add_plain] at this
      exact this

set_option maxRecDepth 100000 in
theorem arg22 {H : Type} {enc : TypeId × Value → H} {W : World} {r : Reach} {b0 base : Nat} {held : Bool} {v : Value} {d : DataW H} {p : List MemPlace} (hv : Value.okWide Try.prog W r b0 22 v)
    (h : DataW.Trod enc Try.prog W base (fun _ => true) held 22 v d p) : ∃ a cap xs, v = .slice a xs.length cap ∧ IntsAt W a xs ∧ (a = none → cap = 0) := by
  obtain ⟨a, len, cap, rfl⟩ := okWide_slice Try.underlying22 hv
  obtain ⟨fuel, hf⟩ := h
  exact cells22n (by simpa [Value.cells] using hf)

set_option maxRecDepth 100000 in
theorem arg3 {H : Type} {enc : TypeId × Value → H} {W : World} {r : Reach} {b0 base : Nat} {sp : Nat → Bool} {held : Bool} {v : Value} {d : DataW H} {p : List MemPlace} (hv : Value.okWide Try.prog W r b0 3 v)
    (h : DataW.Trod enc Try.prog W base sp held 3 v d p) : ∃ n, v = .int .i64 n ∧ (Lit.int .i64 n).wf = true := by
  obtain ⟨a, rfl, rfl, rfl, wa⟩ := open_int Try.underlying3 hv h
  exact ⟨a, rfl, wa⟩

theorem cells_two {w : World} {base : Nat} {a : Addr} {cs : List Value} (h : w.cells? base a 2 = some cs) : ∃ c0 c1, cs = [c0, c1] ∧ w.cell? (a.add 0) = some c0 ∧ w.cell? (a.add 1) = some c1 := by
  unfold World.cells? at h
  split at h
  · cases h0 : w.cell? (a.add 0) with
    | none => simp [List.range_succ, h0] at h
    | some c0 =>
      cases h1 : w.cell? (a.add 1) with
      | none => simp [List.range_succ, h0, h1] at h
      | some c1 =>
        simp [List.range_succ, h0, h1] at h
        exact ⟨c0, c1, h.symm, rfl, rfl⟩
  · cases h

/-- a list of what there is at each place -/
theorem gather {Q : Nat → Rl → Prop} : ∀ n : Nat, (∀ i, i < n → ∃ r, Q i r) → ∃ rs : List Rl, rs.length = n ∧ ∀ i, i < n → Q i (nthR rs i)
  | 0, _ => ⟨[], rfl, fun i h => by omega⟩
  | n + 1, h => by
    obtain ⟨rs, hl, hq⟩ := gather n (fun i hi => h i (by omega))
    obtain ⟨r, hr⟩ := h n (by omega)
    refine ⟨rs ++ [r], by simp [hl], fun i hi => ?_⟩
    by_cases e : i = n
    · subst e
      have : nthR (rs ++ [r]) i = r := by unfold nthR; rw [List.getD_eq_getElem?_getD, List.getElem?_append_right (by omega)]; simp [hl]
      rw [this]; exact hr
    · have : nthR (rs ++ [r]) i = nthR rs i := by unfold nthR; rw [List.getD_eq_getElem?_getD, List.getD_eq_getElem?_getD, List.getElem?_append_left (by omega)]
      rw [this]; exact hq i (by omega)

set_option maxRecDepth 100000 in
/-- the rules that come in, out of their one cell -/
theorem cells23 {H : Type} {enc : TypeId × Value → H} {W : World} {base fuel : Nat} {held : Bool} {v : Value} {y : DataW H × List MemPlace} (h : DataW.trod enc Try.prog W base (fun _ => true) held fuel 23 [v] = some y) :
    ∃ a cap rs, v = .slice a rs.length cap ∧ RulesAt W a rs ∧ (a = none → cap = 0) := by
  rcases Go.Deep.open_slice Try.underlying23 h with ⟨hcs, _⟩ | ⟨a, len, cap, m, n, D, Pl, hcs, _, hl, _, hm, _, hel⟩
  · exact ⟨none, 0, [], by simpa using hcs, .inl rfl, fun _ => rfl⟩
  · simp only [if_true] at hm
    subst hm
    have hv : v = .slice (some a) len m := by simpa using hcs
    rw [cellsJ60] at hel
    by_cases h0 : len = 0
    · subst h0; exact ⟨some a, m, [], hv, .inl rfl, fun h => by cases h⟩
    · have each : ∀ i, i < len → ∃ r : Rl, ∃ ai ci, W.cell? (a.add (i * 2)) = some (.slice ai r.1.length ci) ∧ IntsAt W ai r.1 ∧ (ai = none → ci = 0) ∧ W.cell? ((a.add (i * 2)).add 1) = some (.int .i64 r.2) := by
        intro i hi
        obtain ⟨cs', hc, ht⟩ := hel i (by omega)
        obtain ⟨c0, c1, rfl, k0, k1⟩ := cells_two hc
        obtain ⟨y0, y1, n', _, _, t0, t1⟩ := trod_struct2 Try.underlying60 ht
        have t0' : DataW.trod enc Try.prog W base (fun _ => true) held n' 22 [c0] = some y0 := by simpa [cellsJ22] using t0
        have t1' : DataW.trod enc Try.prog W base (fun _ => true) held n' 3 [c1] = some y1 := by simpa [cellsJ3] using t1
        obtain ⟨ai, ci, xs, rfl, hx, hn⟩ := cells22n t0'
        obtain ⟨z, hz, _⟩ := DataW.trod_int Try.underlying3 t1'
        simp only [List.cons.injEq, and_true] at hz
        subst hz
        exact ⟨(xs, z), ai, ci, by simpa [Addr.add] using k0, hx, hn, k1⟩
      obtain ⟨rs, hrl, hrs⟩ := gather len each
      obtain ⟨b, off, spot⟩ := a
      have hspot : spot = none := by
        obtain ⟨ai, ci, k, _⟩ := hrs 0 (by omega)
        simpa [Addr.add] using World.cell?_spot k
      subst hspot
      refine ⟨some ⟨b, off, none⟩, m, rs, by rw [hrl]; exact hv, .inr ⟨b, off, rfl, fun i hi => ?_⟩, fun h => by cases h⟩
      obtain ⟨ai, ci, k0, hx, hn, k1⟩ := hrs i (by omega)
      rw [add_plain] at k0 k1
      rw [add_plain] at k1
      exact ⟨ai, ci, ⟨k0, hx, hn, k1⟩⟩

set_option maxRecDepth 100000 in
theorem arg25 {H : Type} {enc : TypeId × Value → H} {W : World} {r : Reach} {b0 base : Nat} {held : Bool} {v : Value} {d : DataW H} {p : List MemPlace} (hv : Value.okWide Try.prog W r b0 25 v)
    (h : DataW.Trod enc Try.prog W base (fun _ => true) held 25 v d p) :
    ∃ facts sa sc seen ra rc rs, v = .agg #[.int .i64 facts, .slice sa (List.length seen) sc, .slice ra (List.length rs) rc] ∧ IntsAt W sa seen ∧ RulesAt W ra rs ∧ (sa = none → sc = 0) ∧ (ra = none → rc = 0) := by
  obtain ⟨v0, v1, v2, y0, y1, y2, n, rfl, _, _, h0, h1, h2⟩ := Go.Joins.open_agg3 Try.underlying25 (by kernel_rfl) cellsJ25 hv h
  obtain ⟨z, hz, _⟩ := DataW.trod_int Try.underlying3 h0
  simp only [List.cons.injEq, and_true] at hz
  subst hz
  obtain ⟨sa, sc, seen, rfl, i1, n1⟩ := cells22n h1
  obtain ⟨ra, rc, rs, rfl, i2, n2⟩ := cells23 h2
  exact ⟨z, sa, sc, seen, ra, rc, rs, rfl, i1, i2, n1, n2⟩

end Go.Proofs.Ytkioejdddmnbmaa

namespace Go.Proofs.Ytkioejdddmnbmaa
open Go.ChangeShapes Go.WideShapes Go.ChangeAt Go.RowKit

set_option maxRecDepth 100000 in
theorem arg22m {H : Type} {enc : TypeId × Value → H} {W : World} {r : Reach} {b0 base : Nat} {held : Bool} {v : Value} {d : DataW H} {p : List MemPlace} (hv : Value.okWide Try.prog W r b0 22 v)
    (h : DataW.Trod enc Try.prog W base (fun _ => true) held 22 v d p) : ∃ a cap xs, v = .slice a xs.length cap ∧ IntsAt W a xs ∧ (a = none → cap = 0) ∧ xs.length ≤ cap := by
  obtain ⟨a, cap, xs, rfl, hi, hn⟩ := arg22 hv h
  refine ⟨a, cap, xs, rfl, hi, hn, ?_⟩
  obtain ⟨fuel, hf⟩ := h
  have hf : DataW.trod enc Try.prog W base (fun _ => true) held fuel 22 [.slice a xs.length cap] = some (d, p) := by simpa [Value.cells] using hf
  rcases open_ints Try.underlying22 Try.underlying3 cellsJ3 hf with ⟨hcs, _⟩ | ⟨b, len, c, zs, hcs, _, hl, _⟩
  · simp at hcs; simp [hcs.2.1]
  · simp at hcs; omega

end Go.Proofs.Ytkioejdddmnbmaa

namespace Go.Proofs.Ytkioejdddmnbmaa
open Go.ChangeShapes Go.WideShapes Go.ChangeAt Go.RowKit

set_option maxRecDepth 100000 in
theorem arg25m {H : Type} {enc : TypeId × Value → H} {W : World} {r : Reach} {b0 base : Nat} {held : Bool} {v : Value} {d : DataW H} {p : List MemPlace} (hv : Value.okWide Try.prog W r b0 25 v)
    (h : DataW.Trod enc Try.prog W base (fun _ => true) held 25 v d p) :
    ∃ facts sa sc seen ra rc rs, v = .agg #[.int .i64 facts, .slice sa (List.length seen) sc, .slice ra (List.length rs) rc] ∧ IntsAt W sa seen ∧ RulesAt W ra rs ∧ (sa = none → sc = 0) ∧ (ra = none → rc = 0) ∧ rs.length ≤ rc := by
  obtain ⟨v0, v1, v2, y0, y1, y2, n, rfl, _, _, h0, h1, h2⟩ := Go.Joins.open_agg3 Try.underlying25 (by kernel_rfl) cellsJ25 hv h
  obtain ⟨z, hz, _⟩ := DataW.trod_int Try.underlying3 h0
  simp only [List.cons.injEq, and_true] at hz
  subst hz
  obtain ⟨sa, sc, seen, rfl, i1, n1⟩ := cells22n h1
  obtain ⟨ra, rc, rs, rfl, i2, n2⟩ := cells23 h2
  refine ⟨z, sa, sc, seen, ra, rc, rs, rfl, i1, i2, n1, n2, ?_⟩
  rcases Go.Deep.open_slice Try.underlying23 h2 with ⟨hcs, _⟩ | ⟨a, len, cap, m, n, D, Pl, hcs, _, hl, _, _⟩
  · simp at hcs; simp [hcs.2.1]
  · simp at hcs; omega

set_option maxRecDepth 100000 in
theorem argu8 {H : Type} {enc : TypeId × Value → H} {W : World} {r : Reach} {b0 base : Nat} {sp : Nat → Bool} {held : Bool} {v : Value} {d : DataW H} {p : List MemPlace} (hv : Value.okWide Try.prog W r b0 5 v)
    (h : DataW.Trod enc Try.prog W base sp held 5 v d p) : ∃ n : Nat, v = .int .u8 n ∧ n < 256 := by
  obtain ⟨a, rfl, rfl, rfl, wa⟩ := open_int Try.underlying5 hv h
  have h0 : IntKind.u8.min = 0 := by decide
  have h1 : IntKind.u8.max = 255 := by decide
  simp [Lit.wf, h0, h1] at wa
  obtain ⟨n, rfl⟩ := Int.eq_ofNat_of_zero_le (a := a) (by omega)
  exact ⟨n, rfl, by omega⟩

set_option maxRecDepth 100000 in
theorem argu16 {H : Type} {enc : TypeId × Value → H} {W : World} {r : Reach} {b0 base : Nat} {sp : Nat → Bool} {held : Bool} {v : Value} {d : DataW H} {p : List MemPlace} (hv : Value.okWide Try.prog W r b0 49 v)
    (h : DataW.Trod enc Try.prog W base sp held 49 v d p) : ∃ n : Nat, v = .int .u16 n ∧ n < 65536 := by
  obtain ⟨a, rfl, rfl, rfl, wa⟩ := open_int Try.underlying49 hv h
  have h0 : IntKind.u16.min = 0 := by decide
  have h1 : IntKind.u16.max = 65535 := by decide
  simp [Lit.wf, h0, h1] at wa
  obtain ⟨n, rfl⟩ := Int.eq_ofNat_of_zero_le (a := a) (by omega)
  exact ⟨n, rfl, by omega⟩

end Go.Proofs.Ytkioejdddmnbmaa
