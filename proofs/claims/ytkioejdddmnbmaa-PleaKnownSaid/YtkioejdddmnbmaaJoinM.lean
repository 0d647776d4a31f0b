/- The arguments of the laws: a list with its room. -/
import Derived.Test.YtkioejdddmnbmaaJoin
namespace Go.Proofs.Ytkioejdddmnbmaa
open Go.ChangeShapes Go.WideShapes Go.ChangeAt Go.RowKit

set_option maxRecDepth 100000 in
theorem arg22m {H : Type} {enc : TypeId × Value → H} {W : World} {r : Reach} {b0 base : Nat} {held : Bool} {v : Value} {d : DataW H} {p : List MemPlace} (hv : Value.okWide Try.prog W r b0 22 v)
    (h : DataW.Trod enc Try.prog W base (fun _ => true) held 22 v d p) : ∃ a cap xs, v = .slice a xs.length cap ∧ IntsAt W a xs ∧ (a = none → cap = 0) ∧ xs.length ≤ cap := by
  obtain ⟨a, cap, xs, rfl, hi, hn⟩ := arg22 hv h
  refine ⟨a, cap, xs, rfl, hi, hn, ?_⟩
  obtain ⟨fuel, hf⟩ := h
  have hf : DataW.trod enc Try.prog W base (fun _ => true) held fuel 22 [.slice a xs.length cap] = some (d, p) := by simpa [Value.cells] using hf
  rcases open_ints Try.underlying22 Try.underlying3 cellsJ3 hf with ⟨hcs, _⟩ | ⟨b, len, c, zs, hcs, _, hl, _⟩
  · simp at hcs; simp [hcs.2.1]
  · simp at hcs; omega

end Go.Proofs.Ytkioejdddmnbmaa
