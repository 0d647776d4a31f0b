/- The examples in memory; a contract for each call of Works. -/
import Derived.Test.YtkioejdddmnbmaaSu
import Derived.Test.YtkioejdddmnbmaaSi
namespace Go.Proofs.Ytkioejdddmnbmaa
open Go.RowKit Go.Shelf

/-- a case of the examples in memory, with its box -/
structure ExAt (w : World) (p : Nat) (a : Option Addr) (r : Nat) (seen : List Int) : Prop where
  k0 : w.cell? ⟨p, 0, none⟩ = some (.int .i64 7)
  k1 : w.cell? ⟨p, 1, none⟩ = some (.slice a seen.length seen.length)
  k2 : w.cell? ⟨p, 2, none⟩ = some (.slice (some ⟨r, 0, none⟩) 5 5)
  s : IntsAt w a seen
  r' : RulesAt w (some ⟨r, 0, none⟩) rsX
theorem ExAt.mono {w w' : World} {p : Nat} {a : Option Addr} {r : Nat} {seen : List Int} (h : ExAt w p a r seen) (hB : Below w.heap.size w w') : ExAt w' p a r seen :=
  ⟨cstep h.k0 hB, cstep h.k1 hB, cstep h.k2 hB, h.s.mono hB, h.r'.mono hB⟩
theorem rsX_len : ∀ i, i < rsX.length → (nthR rsX i).1.length ≤ 1000000 := by
  intro i hi
  have h5 : i < 5 := hi
  have : ∀ k : Fin 5, (nthR rsX k).1.length ≤ 1000000 := by decide
  exact this ⟨i, h5⟩
theorem ExAt.c {w : World} {p : Nat} {a : Option Addr} {r : Nat} {seen : List Int} (h : ExAt w p a r seen) (hs : seen.length ≤ 3) : CaseAt w a (some ⟨r, 0, none⟩) seen rsX :=
  ⟨h.s, h.r', by omega, by show 5 ≤ 1000000; omega, rsX_len⟩

section
variable {w : World} {p : Nat} {a : Addr} {r : Nat}
theorem k_least (h : ExAt w p (some a) r seenC) : Calls Try.prog 23 #[.agg #[.int .i64 7, .slice (some a) 2 2, .slice (some ⟨r, 0, none⟩) 5 5]] w (ListE w [0, 1, 2, 3] 0) := by
  have := least_c 7 (some a) 2 seenC (some ⟨r, 0, none⟩) 5 rsX w (h.c (by decide)); rw [v1, v2] at this; exact this
theorem k_countC (h : ExAt w p (some a) r seenC) : Calls Try.prog 25 #[.agg #[.int .i64 7, .slice (some a) 2 2, .slice (some ⟨r, 0, none⟩) 5 5]] w (NumE w 2 0) := by
  have := count_c 7 (some a) 2 seenC (some ⟨r, 0, none⟩) 5 rsX w (h.c (by decide)); rw [v3, v5] at this; exact this
theorem k_countD (h : ExAt w p (some a) r seenD) : Calls Try.prog 25 #[.agg #[.int .i64 7, .slice (some a) 3 3, .slice (some ⟨r, 0, none⟩) 5 5]] w (NumE w 0 0) := by
  have := count_c 7 (some a) 3 seenD (some ⟨r, 0, none⟩) 5 rsX w (h.c (by decide)); rw [v4, v6] at this; exact this
theorem k_truth (h : ExAt w p (some a) r seenC) (t : List Int) (b : Option Addr) (c : Nat) (v : Int) (hv : pTruthErr 7 seenC rsX t = v) (ht : IntsAt w b t) (hl : t.length ≤ 10) : Calls Try.prog 21 #[.agg #[.int .i64 7, .slice (some a) 2 2, .slice (some ⟨r, 0, none⟩) 5 5], .slice b t.length c] w fun e w' => e = .returned (.int .i64 v) ∧ Below w.heap.size w w' := by
  have := checkTruth_c 7 (some a) 2 seenC (some ⟨r, 0, none⟩) 5 rsX b c t w (h.c (by decide)) ht (by omega); rw [hv] at this; exact this
theorem k_verdictC (h : ExAt w p (some a) r seenC) (x n e : Int) (hv : pVerdictE 7 seenC rsX x = e ∧ pVerdictN 7 seenC rsX x = n) : Calls Try.prog 27 #[.agg #[.int .i64 7, .slice (some a) 2 2, .slice (some ⟨r, 0, none⟩) 5 5], .int .i64 x] w (NumE w n e) := by
  have := verdict_c 7 (some a) 2 seenC (some ⟨r, 0, none⟩) 5 rsX x w (h.c (by decide)) (fun h => by cases h) (by decide); rw [hv.1, hv.2] at this; exact this
theorem k_verdictD (h : ExAt w p (some a) r seenD) (x n e : Int) (hv : pVerdictE 7 seenD rsX x = e ∧ pVerdictN 7 seenD rsX x = n) : Calls Try.prog 27 #[.agg #[.int .i64 7, .slice (some a) 3 3, .slice (some ⟨r, 0, none⟩) 5 5], .int .i64 x] w (NumE w n e) := by
  have := verdict_c 7 (some a) 3 seenD (some ⟨r, 0, none⟩) 5 rsX x w (h.c (by decide)) (fun h => by cases h) (by decide); rw [hv.1, hv.2] at this; exact this
theorem k_stepsC (h : ExAt w p (some a) r seenC) (t : List Int) (b : Option Addr) (c : Nat) (R : List Int × Bool × Int) (hv : pcs 7 seenC rsX t = R) (ht : IntsAt w b t) (hl : t.length ≤ 10) (hc : t.length ≤ c) : Calls Try.prog 30 #[.agg #[.int .i64 7, .slice (some a) 2 2, .slice (some ⟨r, 0, none⟩) 5 5], .slice b t.length c] w (StepsP w R) := by
  have := checkSteps_c 7 (some a) 2 seenC (some ⟨r, 0, none⟩) 5 rsX b c t w (h.c (by decide)) ht (by omega) hc; rw [hv] at this; exact this
theorem k_stepsD (h : ExAt w p (some a) r seenD) (t : List Int) (b : Option Addr) (c : Nat) (R : List Int × Bool × Int) (hv : pcs 7 seenD rsX t = R) (ht : IntsAt w b t) (hl : t.length ≤ 10) (hc : t.length ≤ c) : Calls Try.prog 30 #[.agg #[.int .i64 7, .slice (some a) 3 3, .slice (some ⟨r, 0, none⟩) 5 5], .slice b t.length c] w (StepsP w R) := by
  have := checkSteps_c 7 (some a) 3 seenD (some ⟨r, 0, none⟩) 5 rsX b c t w (h.c (by decide)) ht (by omega) hc; rw [hv] at this; exact this
theorem k_pSteps (h : ExAt w p (some a) r seenC) (x e : Int) (l : List Int) (hv : pStepsE 7 seenC rsX x = e ∧ pStepsL 7 seenC rsX x = l) : Calls Try.prog 32 #[.agg #[.int .i64 7, .slice (some a) 2 2, .slice (some ⟨r, 0, none⟩) 5 5], .int .i64 x] w (ListC w l e) := by
  have := pSteps_c 7 (some a) 2 seenC (some ⟨r, 0, none⟩) 5 rsX x w (h.c (by decide)); rw [hv.1, hv.2] at this; exact this
theorem k_clashC (h : ExAt w p (some a) r seenC) : Calls Try.prog 33 #[.agg #[.int .i64 7, .slice (some a) 2 2, .slice (some ⟨r, 0, none⟩) 5 5]] w (ListC w [] 5) := by
  have := pClash_c 7 (some a) 2 seenC (some ⟨r, 0, none⟩) 5 rsX w (h.c (by decide)); rw [v19.1, v19.2] at this; exact this
theorem k_clashD (h : ExAt w p (some a) r seenD) : Calls Try.prog 33 #[.agg #[.int .i64 7, .slice (some a) 3 3, .slice (some ⟨r, 0, none⟩) 5 5]] w (ListC w [0, 1, 2] 0) := by
  have := pClash_c 7 (some a) 3 seenD (some ⟨r, 0, none⟩) 5 rsX w (h.c (by decide)); rw [v20.1, v20.2] at this; exact this
theorem k_needed (h : ExAt w p (some a) r seenC) : Calls Try.prog 38 #[.agg #[.int .i64 7, .slice (some a) 2 2, .slice (some ⟨r, 0, none⟩) 5 5], .int .i64 3] w (ListC w [0, 1] 0) := by
  have := pNeeded_c 7 (some a) 2 seenC (some ⟨r, 0, none⟩) 5 rsX 3 w (h.c (by decide)) (by decide); rw [v21.1, v21.2] at this; exact this
theorem k_wrong (h : ExAt w p (some a) r seenD) : Calls Try.prog 40 #[.agg #[.int .i64 7, .slice (some a) 3 3, .slice (some ⟨r, 0, none⟩) 5 5]] w (ListC w [0] 0) := by
  have := pWrong_c 7 (some a) 3 seenD (some ⟨r, 0, none⟩) 5 rsX w (h.c (by decide)) (by decide) (fun h => by cases h); rw [v22.1, v22.2] at this; exact this
theorem k_idle (h : ExAt w p (some a) r seenC) (x : Int) (b : Bool) (hv : pIdleE 7 seenC rsX x = 0 ∧ pIdleB 7 seenC rsX x = b) : Calls Try.prog 42 #[.agg #[.int .i64 7, .slice (some a) 2 2, .slice (some ⟨r, 0, none⟩) 5 5], .int .i64 x] w (BoolE w b 0) := by
  have := pIdle_c 7 (some a) 2 seenC (some ⟨r, 0, none⟩) 5 rsX x w (h.c (by decide)) (fun h => by cases h); rw [hv.1, hv.2] at this; exact this
/-- a list, a clash and no error -/
def RefK (w : World) (e : Ending) (w' : World) : Prop := ∃ ao n cap, e = .returned (.tuple #[.slice ao n cap, .bool true, .int .i64 0]) ∧ Below w.heap.size w w'
theorem k_ref (h : ExAt w p (some a) r seenD) (b : Option Addr) (c : Nat) (ht : IntsAt w b [0, 1, 2]) (hc : 3 ≤ c) : Calls Try.prog 31 #[.agg #[.int .i64 7, .slice (some a) 3 3, .slice (some ⟨r, 0, none⟩) 5 5], .slice b 3 c] w (RefK w) := by
  refine (rCheckSteps_c 7 (some a) 3 seenD (some ⟨r, 0, none⟩) 5 rsX b c [0, 1, 2] w (h.c (by decide)) ht (by decide) hc).mono ?_
  rintro e w' ⟨ao, cap, rfl, _, _, hB⟩
  have h1 : (rcs 7 seenD rsX [0, 1, 2]).2.1 = true := by rw [v25]
  have h2 : (rcs 7 seenD rsX [0, 1, 2]).2.2 = 0 := by rw [v25]
  exact ⟨ao, _, cap, by rw [h1, h2], hB⟩
end

end Go.Proofs.Ytkioejdddmnbmaa
