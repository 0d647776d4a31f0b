/- The arguments of the laws: small numbers. -/
import Derived.Test.YtjnijhnphhpilaaJoin2
namespace Go.Proofs.Ytjnijhnphhpilaa
open Go.ChangeShapes Go.WideShapes Go.ChangeAt Go.RowKit

set_option maxRecDepth 100000 in
theorem argu8 {H : Type} {enc : TypeId × Value → H} {W : World} {r : Reach} {b0 base : Nat} {sp : Nat → Bool} {held : Bool} {v : Value} {d : DataW H} {p : List MemPlace} (hv : Value.okWide Try.prog W r b0 5 v)
    (h : DataW.Trod enc Try.prog W base sp held 5 v d p) : ∃ n : Nat, v = .int .u8 n ∧ n < 256 := by
  obtain ⟨a, rfl, rfl, rfl, wa⟩ := open_int Try.underlying5 hv h
  have h0 : IntKind.u8.min = 0 := by decide
  have h1 : IntKind.u8.max = 255 := by decide
  simp [Lit.wf, h0, h1] at wa
  obtain ⟨n, rfl⟩ := Int.eq_ofNat_of_zero_le (a := a) (by omega)
  exact ⟨n, rfl, by omega⟩

set_option maxRecDepth 100000 in
theorem argu64 {H : Type} {enc : TypeId × Value → H} {W : World} {r : Reach} {b0 base : Nat} {sp : Nat → Bool} {held : Bool} {v : Value} {d : DataW H} {p : List MemPlace} (hv : Value.okWide Try.prog W r b0 51 v)
    (h : DataW.Trod enc Try.prog W base sp held 51 v d p) : ∃ n : Int, v = .int .u64 n ∧ 0 ≤ n := by
  obtain ⟨a, rfl, rfl, rfl, wa⟩ := open_int Try.underlying51 hv h
  have h0 : IntKind.u64.min = 0 := by decide
  simp [Lit.wf, h0] at wa
  exact ⟨a, rfl, by omega⟩

set_option maxRecDepth 100000 in
theorem arg22m {H : Type} {enc : TypeId × Value → H} {W : World} {r : Reach} {b0 base : Nat} {held : Bool} {v : Value} {d : DataW H} {p : List MemPlace} (hv : Value.okWide Try.prog W r b0 22 v)
    (h : DataW.Trod enc Try.prog W base (fun _ => true) held 22 v d p) : ∃ a cap xs, v = .slice a xs.length cap ∧ IntsAt W a xs ∧ (a = none → cap = 0) ∧ xs.length ≤ cap := by
  obtain ⟨a, cap, xs, rfl, hi, hn⟩ := arg22n hv h
  refine ⟨a, cap, xs, rfl, hi, hn, ?_⟩
  obtain ⟨fuel, hf⟩ := h
  have hf : DataW.trod enc Try.prog W base (fun _ => true) held fuel 22 [.slice a xs.length cap] = some (d, p) := by simpa [Value.cells] using hf
  rcases open_ints Try.underlying22 Try.underlying3 cellsJ3 hf with ⟨hcs, _⟩ | ⟨b, len, c, zs, hcs, _, hl, _⟩
  · simp at hcs; simp [hcs.2.1]
  · simp at hcs; omega

set_option maxRecDepth 100000 in
theorem argu64n {H : Type} {enc : TypeId × Value → H} {W : World} {r : Reach} {b0 base : Nat} {sp : Nat → Bool} {held : Bool} {v : Value} {d : DataW H} {p : List MemPlace} (hv : Value.okWide Try.prog W r b0 51 v)
    (h : DataW.Trod enc Try.prog W base sp held 51 v d p) : ∃ n : Nat, v = .int .u64 n ∧ n < 18446744073709551616 := by
  obtain ⟨a, rfl, rfl, rfl, wa⟩ := open_int Try.underlying51 hv h
  have h0 : IntKind.u64.min = 0 := by decide
  have h1 : IntKind.u64.max = 18446744073709551615 := by decide
  simp [Lit.wf, h0, h1] at wa
  obtain ⟨n, rfl⟩ := Int.eq_ofNat_of_zero_le (a := a) (by omega)
  exact ⟨n, rfl, by omega⟩

end Go.Proofs.Ytjnijhnphhpilaa
