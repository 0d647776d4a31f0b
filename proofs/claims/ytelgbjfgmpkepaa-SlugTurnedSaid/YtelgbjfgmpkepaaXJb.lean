/- The laws' arguments: lists of bytes. -/
import Derived.Test.YtelgbjfgmpkepaaKT
import Derived.Test.YtelgbjfgmpkepaaXIa
namespace Go.Proofs.Ytelgbjfgmpkepaa
open Go.ChangeShapes Go.WideShapes Go.ChangeAt Go.RowKit

theorem cellsJ5 : Try.prog.cellsOf 5 = 1 := by kernel_rfl
set_option maxRecDepth 100000 in
theorem arg54 {H : Type} {enc : TypeId × Value → H} {W : World} {r : Reach} {b0 base : Nat} {held : Bool} {v : Value} {d : DataW H} {p : List MemPlace} (hv : Value.okWide Try.prog W r b0 54 v)
    (h : DataW.Trod enc Try.prog W base (fun _ => true) held 54 v d p) : ∃ a cap bs, v = .slice a bs.length cap ∧ BytesAt W a bs ∧ (a = none → cap = 0) ∧ bs.length ≤ cap := by
  obtain ⟨a0, len0, cap0, rfl⟩ := okWide_slice Try.underlying54 hv
  obtain ⟨fuel, hf⟩ := h
  have hf : DataW.trod enc Try.prog W base (fun _ => true) held fuel 54 [.slice a0 len0 cap0] = some (d, p) := by simpa [Value.cells] using hf
  rcases Go.Deep.open_slice Try.underlying54 hf with ⟨hcs, _⟩ | ⟨a, len, cap, m, n, D, Pl, hcs, _, hl, _, hm, _, hel⟩
  · exact ⟨none, 0, [], by simpa using hcs, ⟨.inl rfl, fun b h => by cases h⟩, fun _ => rfl, Nat.zero_le _⟩
  · simp only [if_true] at hm
    subst hm
    have hv : (.slice a0 len0 cap0 : Value) = .slice (some a) len m := by simpa using hcs
    rw [cellsJ5] at hel
    by_cases h0 : len = 0
    · subst h0; exact ⟨some a, m, [], hv, ⟨.inl rfl, fun b h => by cases h⟩, fun h => (by cases h), hl⟩
    · have each : ∀ i, i < len → ∃ b : Nat, W.cell? (a.add (i * 1)) = some (.int .u8 (b : Int)) ∧ b < 256 := by
        intro i hi
        obtain ⟨cs', hc, ht⟩ := hel i (by omega)
        obtain ⟨c0, rfl, k0⟩ := cells_one hc
        obtain ⟨z, hz, _, hw⟩ := DataW.trod_int Try.underlying5 ht
        simp only [List.cons.injEq, and_true] at hz
        subst hz
        have e0 : IntKind.u8.min = 0 := by decide
        have e1 : IntKind.u8.max = 255 := by decide
        simp [Lit.wf, e0, e1] at hw
        obtain ⟨b, rfl⟩ := Int.eq_ofNat_of_zero_le (a := z) (by omega)
        exact ⟨b, by simpa [Addr.add] using k0, by omega⟩
      obtain ⟨rs, hrl, hrs⟩ := gather (d := 0) len each
      obtain ⟨b, off, spot⟩ := a
      have hspot : spot = none := by
        obtain ⟨k, _⟩ := hrs 0 (by omega)
        simpa [Addr.add] using World.cell?_spot k
      subst hspot
      refine ⟨some ⟨b, off, none⟩, m, rs, by rw [hrl]; exact hv, ⟨.inr ⟨b, off, rfl, fun j v hj => ?_⟩, fun x hx => ?_⟩, fun h => (by cases h), by omega⟩
      · have hjl : j < rs.length := by have := (List.getElem?_eq_some_iff.1 hj).1; simpa [bytev] using this
        rw [bytev_get hjl] at hj
        cases hj
        obtain ⟨k0, _⟩ := hrs j (by omega)
        rw [add_plain, Nat.mul_one] at k0
        exact k0
      · obtain ⟨i, hi, rfl⟩ := List.getElem_of_mem hx
        have := (hrs i (by omega)).2
        rw [List.getD_eq_getElem?_getD, List.getElem?_eq_getElem hi] at this
        exact this

end Go.Proofs.Ytelgbjfgmpkepaa
