/- The arguments of the laws: a rule. -/
import Derived.Test.YtkioejdddmnbmaaGj
namespace Go.Proofs.Ytkioejdddmnbmaa
open Go.ChangeShapes Go.WideShapes Go.ChangeAt Go.RowKit

set_option maxRecDepth 100000 in
theorem arg60 {H : Type} {enc : TypeId × Value → H} {W : World} {r : Reach} {b0 base : Nat} {held : Bool} {v : Value} {d : DataW H} {p : List MemPlace} (hv : Value.okWide Try.prog W r b0 60 v)
    (h : DataW.Trod enc Try.prog W base (fun _ => true) held 60 v d p) :
    ∃ (qa : Option Addr) (qc : Nat) (q : Rl), v = .agg #[.slice qa q.1.length qc, .int .i64 q.2] ∧ IntsAt W qa q.1 ∧ (qa = none → qc = 0) := by
  obtain ⟨v0, v1, y0, y1, n, rfl, _, _, h0, h1⟩ := Go.Joins.open_agg2 Try.underlying60 (by kernel_rfl) cellsJ60 hv h
  obtain ⟨z, hz, _⟩ := DataW.trod_int Try.underlying3 h1
  simp only [List.cons.injEq, and_true] at hz
  subst hz
  obtain ⟨sa, sc, seen, rfl, i1, n1⟩ := cells22n h0
  exact ⟨sa, sc, (seen, z), rfl, i1, n1⟩

end Go.Proofs.Ytkioejdddmnbmaa
