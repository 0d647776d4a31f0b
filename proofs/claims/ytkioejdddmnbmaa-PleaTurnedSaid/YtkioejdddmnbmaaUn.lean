/- Small laws for the walks of laws: what lies behind a draw; the cells of a case's box out of its block. -/
import Derived.Test.YtkioejdddmnbmaaWi
namespace Go.Proofs.Ytkioejdddmnbmaa
open Go.RowKit

theorem undrewI {w : World} {a : Option Addr} {xs : List Int} (h : IntsAt w a xs) : IntsAt w.drew a xs := h
theorem rowBox {w : World} {b : Nat} {v0 v1 v2 : Value} {t : TypeId} (h : w.heap[b]? = some (.cells #[v0, v1, v2] t (0, 0))) :
    w.cell? ⟨b, 0, none⟩ = some v0 ∧ w.cell? ⟨b, 1, none⟩ = some v1 ∧ w.cell? ⟨b, 2, none⟩ = some v2 :=
  ⟨by rw [cell_of_row _ _ _ _ _ _ h]; rfl, by rw [cell_of_row _ _ _ _ _ _ h]; rfl, by rw [cell_of_row _ _ _ _ _ _ h]; rfl⟩

end Go.Proofs.Ytkioejdddmnbmaa
