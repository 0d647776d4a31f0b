/- The arguments of the laws: what is read of them, a nil slice's capacity too. -/
import Derived.Test.YtjnijhnphhpilaaJoin
namespace Go.Proofs.Ytjnijhnphhpilaa
open Go.ChangeShapes Go.WideShapes Go.ChangeAt Go.RowKit

set_option maxRecDepth 100000 in
theorem cells22n {H : Type} {enc : TypeId × Value → H} {W : World} {base fuel : Nat} {held : Bool} {v : Value} {y : DataW H × List MemPlace} (h : DataW.trod enc Try.prog W base (fun _ => true) held fuel 22 [v] = some y) :
    ∃ a cap xs, v = .slice a xs.length cap ∧ IntsAt W a xs ∧ (a = none → cap = 0) := by
  obtain ⟨a, cap, xs, hv, hi⟩ := cells22 h
  refine ⟨a, cap, xs, hv, hi, fun e => ?_⟩
  subst e
  rcases open_ints Try.underlying22 Try.underlying3 cellsJ3 h with ⟨hcs, _⟩ | ⟨b, len, c, zs, hcs, _⟩
  · rw [hv] at hcs; simp at hcs; exact hcs.2
  · rw [hv] at hcs; simp at hcs

set_option maxRecDepth 100000 in
theorem arg22n {H : Type} {enc : TypeId × Value → H} {W : World} {r : Reach} {b0 base : Nat} {held : Bool} {v : Value} {d : DataW H} {p : List MemPlace} (hv : Value.okWide Try.prog W r b0 22 v)
    (h : DataW.Trod enc Try.prog W base (fun _ => true) held 22 v d p) : ∃ a cap xs, v = .slice a xs.length cap ∧ IntsAt W a xs ∧ (a = none → cap = 0) := by
  obtain ⟨a, len, cap, rfl⟩ := okWide_slice Try.underlying22 hv
  obtain ⟨fuel, hf⟩ := h
  exact cells22n (by simpa [Value.cells] using hf)

set_option maxRecDepth 100000 in
theorem arg24n {H : Type} {enc : TypeId × Value → H} {W : World} {r : Reach} {b0 base : Nat} {held : Bool} {v : Value} {d : DataW H} {p : List MemPlace} (hv : Value.okWide Try.prog W r b0 24 v)
    (h : DataW.Trod enc Try.prog W base (fun _ => true) held 24 v d p) :
    ∃ a1 a2 c1 c2 f g, v = .agg #[.slice a1 f.length c1, .slice a2 g.length c2] ∧ IntsAt W a1 f ∧ IntsAt W a2 g ∧ (a1 = none → c1 = 0) ∧ (a2 = none → c2 = 0) := by
  obtain ⟨v0, v1, y0, y1, n, rfl, _, _, h0, h1⟩ := Go.Joins.open_agg2 Try.underlying24 (by kernel_rfl) cellsJ24 hv h
  obtain ⟨a1, c1, f, rfl, i1, n1⟩ := cells22n h0
  obtain ⟨a2, c2, g, rfl, i2, n2⟩ := cells22n h1
  exact ⟨a1, a2, c1, c2, f, g, rfl, i1, i2, n1, n2⟩

end Go.Proofs.Ytjnijhnphhpilaa
