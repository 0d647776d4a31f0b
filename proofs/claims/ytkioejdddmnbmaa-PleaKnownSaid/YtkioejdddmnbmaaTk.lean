/- What PleaKnown calls: values, contracts. -/
import Derived.Test.YtkioejdddmnbmaaSv
import Derived.Test.YtkioejdddmnbmaaLawA
namespace Go.Proofs.Ytkioejdddmnbmaa
open Go.RowKit Go.Shelf

theorem u1 : pVerdictE 7 seenC rsX 7 = 2 ∧ pVerdictN 7 seenC rsX 7 = 0 := by decide +kernel
theorem u2 : pcs 7 seenC rsX [0, 1] = ([0, 1, 2, 3], false, 0) := by decide +kernel
theorem u3 : (pcs 7 seenD rsX [4, 2, 0]).2.2 = 16 := by decide +kernel
theorem u3' : (pcs 7 seenD rsX [4, 2, 0]) = ([], false, 16) := by decide +kernel
theorem u4 : pStepsE 7 seenC rsX 1 = 0 ∧ pStepsL 7 seenC rsX 1 = [] := by decide +kernel
theorem u5 : pNeededE 7 seenC rsX 0 = 0 ∧ pNeededL 7 seenC rsX 0 = [0] := by decide +kernel
theorem u6 : pWrongE 7 seenC rsX = 0 ∧ pWrongL 7 seenC rsX = [] := by decide +kernel
theorem u7 : pIdleE 7 seenC rsX 5 = 2 ∧ pIdleB 7 seenC rsX 5 = false := by decide +kernel
theorem u8 : pcs 7 seenC rsX [] = ([0, 1], false, 0) := by decide +kernel
section
variable {w : World} {p : Nat} {a : Addr} {r : Nat}
theorem k_needed0 (h : ExAt w p (some a) r seenC) : Calls Try.prog 38 #[.agg #[.int .i64 7, .slice (some a) 2 2, .slice (some ⟨r, 0, none⟩) 5 5], .int .i64 0] w (ListC w [0] 0) := by
  have := pNeeded_c 7 (some a) 2 seenC (some ⟨r, 0, none⟩) 5 rsX 0 w (h.c (by decide)) (by decide); rw [u5.1, u5.2] at this; exact this
theorem k_wrongC (h : ExAt w p (some a) r seenC) : Calls Try.prog 40 #[.agg #[.int .i64 7, .slice (some a) 2 2, .slice (some ⟨r, 0, none⟩) 5 5]] w (ListC w [] 0) := by
  have := pWrong_c 7 (some a) 2 seenC (some ⟨r, 0, none⟩) 5 rsX w (h.c (by decide)) (by decide) (fun h => by cases h); rw [u6.1, u6.2] at this; exact this
theorem k_idle5 (h : ExAt w p (some a) r seenC) : Calls Try.prog 42 #[.agg #[.int .i64 7, .slice (some a) 2 2, .slice (some ⟨r, 0, none⟩) 5 5], .int .i64 5] w (BoolE w false 2) := by
  have := pIdle_c 7 (some a) 2 seenC (some ⟨r, 0, none⟩) 5 rsX 5 w (h.c (by decide)) (fun h => by cases h); rw [u7.1, u7.2] at this; exact this
theorem k_stepsNil (h : ExAt w p (some a) r seenC) : Calls Try.prog 30 #[.agg #[.int .i64 7, .slice (some a) 2 2, .slice (some ⟨r, 0, none⟩) 5 5], .slice none 0 0] w (StepsP w ([0, 1], false, 0)) :=
  k_stepsC h [] none 0 _ u8 (.inl rfl) (by decide) (Nat.le_refl _)
theorem k_case (h : ExAt w p (some a) r seenD) : Calls Try.prog 19 #[.agg #[.int .i64 7, .slice (some a) 3 3, .slice (some ⟨r, 0, none⟩) 5 5]] w (fun e w' => e = .returned (.int .i64 0) ∧ Below w.heap.size w w') := by
  have hc := h.c (by decide)
  have := checkCase_c (some a) (some ⟨r, 0, none⟩) 3 5 7 seenD rsX w hc.s hc.r hc.sl hc.rl hc.il
  rw [v6] at this; exact this
end
end Go.Proofs.Ytkioejdddmnbmaa
