/- The key of a fact; the map of a desk. -/
import Derived.Test.YtkioejdddmnbmaaMb
import Derived.Maps.OwnSet
import Derived.Maps.RangeWalk
import Derived.DeepKeys4
import Derived.ChangeKeys
import Derived.Maps.Views
namespace Go.Proofs.Ytkioejdddmnbmaa
open Go.RowKit Go.Shelf

theorem laid : laidOutB Try.prog = true := by kernel_rfl
theorem row107 : (107 : TypeId) < Try.prog.types.size := of_decide_eq_true (by kernel_rfl)
theorem wide107 : (match Try.prog.underlying 107 with | some (.array _ _) | some (.struct _) => true | _ => false) = true := by rw [Try.underlying107]
theorem key107 : Try.prog.keyTypeAt 2 107 = true := by kernel_rfl
set_option maxRecDepth 100000 in
theorem law107 : Go.WideMaps.KeyLaw Try.prog 107 := deep_law_laid laid (m := 2) (by omega) row107 key107 wide107
theorem keyed107 : Go.Maps.Keyed Try.prog 107 := Go.Maps.Keyed.of_law law107
theorem keyTypeAll : Try.prog.keyType 107 = true := by kernel_rfl
theorem cells107 : Try.prog.cellsOf 107 = 1 := by kernel_rfl
theorem cells3 : Try.prog.cellsOf 3 = 1 := by kernel_rfl

theorem fact_wf {n : Nat} (h : n < 12) : (Lit.int .i64 (n : Int)).wf = true := by
  have : ∀ k : Fin 12, (Lit.int .i64 ((k : Nat) : Int)).wf = true := by decide
  exact this ⟨n, h⟩

theorem keyLits3 (d : Nat) {n : Nat} (h : n < 12) : Try.prog.keyLits (d + 1) 3 [.int .i64 (n : Int)] = some [.int .i64 (n : Int)] := by
  unfold Program.keyLits
  rw [Try.underlying3]
  have := fact_wf h
  simp [this]

theorem keyLits107 (d : Nat) {n : Nat} (h : n < 12) : Try.prog.keyLits (d + 2) 107 [.int .i64 (n : Int)] = some [.int .i64 (n : Int)] := by
  unfold Program.keyLits
  rw [Try.underlying107]
  have h2 := keyLits3 d h
  simp [cells107, cells3, h2]

def factKey (n : Nat) : Lit := .string (keyBytes [.int .i64 (n : Int)])

theorem keyOf_fact {n : Nat} (h : n < 12) : keyOf Try.prog 107 (.agg #[.int .i64 (n : Int)]) = some (factKey n) := by
  unfold keyOf
  rw [Try.underlying107]
  have hf : (Value.agg #[.int .i64 (n : Int)]).formed Try.prog 107 = true := by
    simp [Value.formed, Try.underlying107, cells107]
  have hn : ∃ d, Try.prog.types.size + 1 = d + 2 := ⟨Try.prog.types.size - 1, by
    have : 2 ≤ Try.prog.types.size := of_decide_eq_true (by kernel_rfl)
    omega⟩
  obtain ⟨d, hd⟩ := hn
  rw [keyTypeAll, hf, hd]
  have h2 := keyLits107 d h
  simp [Value.cells, h2, factKey]

theorem factKey_inj {n m : Nat} (hn : n < 12) (hm : m < 12) (h : factKey n = factKey m) : n = m := by
  have := keyLits_inj (keyLits107 0 hn) (keyLits107 0 hm) (Lit.string.inj h)
  simp at this
  omega

theorem isKey (n : Nat) : WideAt.IsKeyLit (factKey n) := trivial

end Go.Proofs.Ytkioejdddmnbmaa
