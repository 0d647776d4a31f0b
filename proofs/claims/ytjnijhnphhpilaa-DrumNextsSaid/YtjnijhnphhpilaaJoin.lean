/- The arguments of the laws: what is read of them. -/
import Derived.Test.YtjnijhnphhpilaaRows
import Derived.Test.YtjnijhnphhpilaaLib
import Derived.ProofKit
import Derived.Lib.SmallJoins
import Derived.Carry
namespace Go.Proofs.Ytjnijhnphhpilaa
open Go.ChangeShapes Go.WideShapes Go.ChangeAt Go.RowKit

theorem ownT : ownKnob Try.prog.godebug = none := by kernel_rfl
theorem laidT : laidOutB Try.prog = true := by kernel_rfl
theorem cellsJ3 : Try.prog.cellsOf 3 = 1 := by kernel_rfl
theorem cellsJ24 : Try.prog.cellsOf 24 = 2 := by kernel_rfl

theorem getD_take {zs : List Int} {n j : Nat} (h : j < n) : zs.getD j 0 = nth (zs.take n) j := by
  rw [nth_take h]; rfl

/-- a slice of ints that comes in, out of its one cell -/
theorem cells22 {H : Type} {enc : TypeId × Value → H} {W : World} {base fuel : Nat} {held : Bool} {v : Value} {y : DataW H × List MemPlace} (h : DataW.trod enc Try.prog W base (fun _ => true) held fuel 22 [v] = some y) :
    ∃ a cap xs, v = .slice a xs.length cap ∧ IntsAt W a xs := by
  rcases open_ints Try.underlying22 Try.underlying3 cellsJ3 h with ⟨hcs, _⟩ | ⟨a, len, cap, zs, hcs, _, hl, hm, hz, _, hcell, _⟩
  · exact ⟨none, 0, [], by simpa using hcs, .inl rfl⟩
  · simp only [if_true] at hz
    have hv : v = .slice (some a) len cap := by simpa using hcs
    have hzl : (zs.take len).length = len := by rw [List.length_take]; omega
    refine ⟨some a, cap, zs.take len, by rw [hzl]; exact hv, ?_⟩
    by_cases h0 : len = 0
    · subst h0; exact .inl (by simp)
    · obtain ⟨b, off, spot⟩ := a
      have hspot : spot = none := by simpa [Addr.add] using World.cell?_spot (hcell 0 (by omega))
      subst hspot
      refine .inr ⟨b, off, rfl, fun j hj => ?_⟩
      rw [hzl] at hj
      have := hcell j (by omega)
      rw [← getD_take hj]
      rw [add_plain] at this
      exact this

set_option maxRecDepth 100000 in
theorem arg22 {H : Type} {enc : TypeId × Value → H} {W : World} {r : Reach} {b0 base : Nat} {held : Bool} {v : Value} {d : DataW H} {p : List MemPlace} (hv : Value.okWide Try.prog W r b0 22 v)
    (h : DataW.Trod enc Try.prog W base (fun _ => true) held 22 v d p) : ∃ a cap xs, v = .slice a xs.length cap ∧ IntsAt W a xs := by
  obtain ⟨a, len, cap, rfl⟩ := okWide_slice Try.underlying22 hv
  obtain ⟨fuel, hf⟩ := h
  exact cells22 (by simpa [Value.cells] using hf)

set_option maxRecDepth 100000 in
theorem arg24 {H : Type} {enc : TypeId × Value → H} {W : World} {r : Reach} {b0 base : Nat} {held : Bool} {v : Value} {d : DataW H} {p : List MemPlace} (hv : Value.okWide Try.prog W r b0 24 v)
    (h : DataW.Trod enc Try.prog W base (fun _ => true) held 24 v d p) :
    ∃ a1 a2 c1 c2 f g, v = .agg #[.slice a1 f.length c1, .slice a2 g.length c2] ∧ IntsAt W a1 f ∧ IntsAt W a2 g := by
  obtain ⟨v0, v1, y0, y1, n, rfl, _, _, h0, h1⟩ := Go.Joins.open_agg2 Try.underlying24 (by kernel_rfl) cellsJ24 hv h
  obtain ⟨a1, c1, f, rfl, i1⟩ := cells22 h0
  obtain ⟨a2, c2, g, rfl, i2⟩ := cells22 h1
  exact ⟨a1, a2, c1, c2, f, g, rfl, i1, i2⟩

set_option maxRecDepth 100000 in
theorem arg3 {H : Type} {enc : TypeId × Value → H} {W : World} {r : Reach} {b0 base : Nat} {sp : Nat → Bool} {held : Bool} {v : Value} {d : DataW H} {p : List MemPlace} (hv : Value.okWide Try.prog W r b0 3 v)
    (h : DataW.Trod enc Try.prog W base sp held 3 v d p) : ∃ n, v = .int .i64 n ∧ (Lit.int .i64 n).wf = true := by
  obtain ⟨a, rfl, rfl, rfl, wa⟩ := open_int Try.underlying3 hv h
  exact ⟨a, rfl, wa⟩

end Go.Proofs.Ytjnijhnphhpilaa
