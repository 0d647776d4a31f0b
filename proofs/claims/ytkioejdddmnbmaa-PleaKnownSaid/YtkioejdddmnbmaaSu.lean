/- Walks: of, Rule, example. -/
import Derived.Test.YtkioejdddmnbmaaSt
namespace Go.Proofs.Ytkioejdddmnbmaa
open Go.RowKit Go.Shelf
attribute [local go_sem ↓] wp_get wp_get0 wp_getS wp78 wps78 wpa78

set_option maxRecDepth 100000 in
theorem of_c (a : Option Addr) (n c : Nat) (w : World) : Calls Try.prog 56 #[.slice a n c] w fun e w' => e = .returned (.slice a n c) ∧ w = w' := by
  go_enter Try.func56, Try.ntmps56
  go_wp2
  go_ret
  exact ⟨rfl, rfl⟩

set_option maxRecDepth 100000 in
theorem rule_c (th : Int) (a : Option Addr) (n c : Nat) (w : World) : Calls Try.prog 85 #[.int .i64 th, .slice a n c] w fun e w' => e = .returned (.agg #[.slice a n c, .int .i64 th]) ∧ Below w.heap.size w w' := by
  go_enter Try.func85, Try.ntmps85
  go_wp2
  exact bodyPost_ret (results_cell_row rfl _ _ w.heap.size 60 #[.slice a n c, .int .i64 th] (0, 0) _ rfl (heap_alloc_new w _) Try.underlying60 rfl (by kernel_rfl)) rfl ⟨rfl, bnew w _⟩

def rsX : List Rl := [([0, 1], 2), ([2], 3), ([3, 4], -1), ([5], 4), ([0, 1], 3)]
def seenC : List Int := [0, 1]
def seenD : List Int := [0, 1, 4]

set_option maxRecDepth 100000 in
set_option maxHeartbeats 2000000 in
theorem example_c (sa : Option Addr) (n sc : Nat) (w : World) : Calls Try.prog 55 #[.slice sa n sc] w fun e w' => ∃ b, e = .returned (.agg #[.int .i64 7, .slice sa n sc, .slice (some ⟨b, 0, none⟩) 5 5]) ∧ RulesAt w' (some ⟨b, 0, none⟩) rsX ∧ Below w.heap.size w w' := by
  go_enter Try.func55, Try.ntmps55
  go_wp2_with fail
  have r0 : ((w.alloc (.cells #[.int .i64 0, .slice none 0 0, .slice none 0 0] 25)).alloc (.cells #[.int .i64 0, .int .i64 1] 3)).heap[w.heap.size]? = some (.cells #[.int .i64 0, .slice none 0 0, .slice none 0 0] 25 (0, 0)) := ((bnew _ _).block _ (by simp)).trans (heap_alloc_new w _)
  have hb0 : Below w.heap.size w ((w.alloc (.cells #[.int .i64 0, .slice none 0 0, .slice none 0 0] 25)).alloc (.cells #[.int .i64 0, .int .i64 1] 3)) := bstep (bnew w _) (bnew _ _)
  have l0 : IntsAt ((w.alloc (.cells #[.int .i64 0, .slice none 0 0, .slice none 0 0] 25)).alloc (.cells #[.int .i64 0, .int .i64 1] 3)) (some ⟨w.heap.size + 1, 0, none⟩) [0, 1] := intsAt_new (w.alloc (.cells #[.int .i64 0, .slice none 0 0, .slice none 0 0] 25)) [0, 1] _ 3 (by simp)
  have R0 := hid r0; have HB0 := hid hb0; have L0 := hid l0
  clear r0 hb0 l0
  refine (rule_c _ _ _ _ _).mono ?_
  rintro e w1 ⟨rfl, hB⟩
  have Hs1 := hid (Array.getElem?_eq_some_iff.1 ((hB.block _ (Array.getElem?_eq_some_iff.1 R0.out).1).trans R0.out)).1
  have Ra := hid ((hB.block _ (Array.getElem?_eq_some_iff.1 R0.out).1).trans R0.out); have Ba := hid (bstep HB0.out hB)
  have A0 := hid (L0.out.mono hB)
  clear hB R0 HB0 L0
  go_wp2_with fail
  have hb := bnew w1 (.cells #[.int .i64 2] 3)
  have R1 := hid ((hb.block _ (Array.getElem?_eq_some_iff.1 Ra.out).1).trans Ra.out); have HB1 := hid (bstep Ba.out hb)
  have L0 := hid (A0.out.mono hb)
  have L1 := hid (intsAt_new w1 [2] _ 3 rfl)
  clear hb Ra Ba A0
  refine (rule_c _ _ _ _ _).mono ?_
  rintro e w2 ⟨rfl, hB⟩
  have Hs2 := hid (Array.getElem?_eq_some_iff.1 ((hB.block _ (Array.getElem?_eq_some_iff.1 R1.out).1).trans R1.out)).1
  have Ra := hid ((hB.block _ (Array.getElem?_eq_some_iff.1 R1.out).1).trans R1.out); have Ba := hid (bstep HB1.out hB)
  have A0 := hid (L0.out.mono hB)
  have A1 := hid (L1.out.mono hB)
  clear hB R1 HB1 L0 L1
  go_wp2_with fail
  have hb := bnew w2 (.cells #[.int .i64 3, .int .i64 4] 3)
  have R2 := hid ((hb.block _ (Array.getElem?_eq_some_iff.1 Ra.out).1).trans Ra.out); have HB2 := hid (bstep Ba.out hb)
  have L0 := hid (A0.out.mono hb)
  have L1 := hid (A1.out.mono hb)
  have L2 := hid (intsAt_new w2 [3, 4] _ 3 rfl)
  clear hb Ra Ba A0 A1
  refine (rule_c _ _ _ _ _).mono ?_
  rintro e w3 ⟨rfl, hB⟩
  have Hs3 := hid (Array.getElem?_eq_some_iff.1 ((hB.block _ (Array.getElem?_eq_some_iff.1 R2.out).1).trans R2.out)).1
  have Ra := hid ((hB.block _ (Array.getElem?_eq_some_iff.1 R2.out).1).trans R2.out); have Ba := hid (bstep HB2.out hB)
  have A0 := hid (L0.out.mono hB)
  have A1 := hid (L1.out.mono hB)
  have A2 := hid (L2.out.mono hB)
  clear hB R2 HB2 L0 L1 L2
  go_wp2_with fail
  have hb := bnew w3 (.cells #[.int .i64 5] 3)
  have R3 := hid ((hb.block _ (Array.getElem?_eq_some_iff.1 Ra.out).1).trans Ra.out); have HB3 := hid (bstep Ba.out hb)
  have L0 := hid (A0.out.mono hb)
  have L1 := hid (A1.out.mono hb)
  have L2 := hid (A2.out.mono hb)
  have L3 := hid (intsAt_new w3 [5] _ 3 rfl)
  clear hb Ra Ba A0 A1 A2
  refine (rule_c _ _ _ _ _).mono ?_
  rintro e w4 ⟨rfl, hB⟩
  have Hs4 := hid (Array.getElem?_eq_some_iff.1 ((hB.block _ (Array.getElem?_eq_some_iff.1 R3.out).1).trans R3.out)).1
  have Ra := hid ((hB.block _ (Array.getElem?_eq_some_iff.1 R3.out).1).trans R3.out); have Ba := hid (bstep HB3.out hB)
  have A0 := hid (L0.out.mono hB)
  have A1 := hid (L1.out.mono hB)
  have A2 := hid (L2.out.mono hB)
  have A3 := hid (L3.out.mono hB)
  clear hB R3 HB3 L0 L1 L2 L3
  go_wp2_with fail
  have hb := bnew w4 (.cells #[.int .i64 0, .int .i64 1] 3)
  have R4 := hid ((hb.block _ (Array.getElem?_eq_some_iff.1 Ra.out).1).trans Ra.out); have HB4 := hid (bstep Ba.out hb)
  have L0 := hid (A0.out.mono hb)
  have L1 := hid (A1.out.mono hb)
  have L2 := hid (A2.out.mono hb)
  have L3 := hid (A3.out.mono hb)
  have L4 := hid (intsAt_new w4 [0, 1] _ 3 rfl)
  clear hb Ra Ba A0 A1 A2 A3
  refine (rule_c _ _ _ _ _).mono ?_
  rintro e w5 ⟨rfl, hB⟩
  have Hs5 := hid (Array.getElem?_eq_some_iff.1 ((hB.block _ (Array.getElem?_eq_some_iff.1 R4.out).1).trans R4.out)).1
  have Ra := hid ((hB.block _ (Array.getElem?_eq_some_iff.1 R4.out).1).trans R4.out); have Ba := hid (bstep HB4.out hB)
  have A0 := hid (L0.out.mono hB)
  have A1 := hid (L1.out.mono hB)
  have A2 := hid (L2.out.mono hB)
  have A3 := hid (L3.out.mono hB)
  have A4 := hid (L4.out.mono hB)
  clear hB R4 HB4 L0 L1 L2 L3 L4
  have hrs : Below w5.heap.size w5 (w5.alloc (.cells #[.slice (some ⟨w.heap.size + 1, 0, none⟩) 2 2, .int .i64 2, .slice (some ⟨w1.heap.size, 0, none⟩) 1 1, .int .i64 3, .slice (some ⟨w2.heap.size, 0, none⟩) 2 2, .int .i64 (-1), .slice (some ⟨w3.heap.size, 0, none⟩) 1 1, .int .i64 4, .slice (some ⟨w4.heap.size, 0, none⟩) 2 2, .int .i64 3] 60)) := bnew _ _
  have hrow := (hrs.block _ (Array.getElem?_eq_some_iff.1 Ra.out).1).trans Ra.out
  have Hrow := hid hrow
  have k0 : w5.cell? ⟨w.heap.size, 0, none⟩ = some (.int .i64 0) := by rw [cell_of_row _ _ _ _ _ _ Ra.out]; rfl
  have k1 : w5.cell? ⟨w.heap.size, 1, none⟩ = some (.slice none 0 0) := by rw [cell_of_row _ _ _ _ _ _ Ra.out]; rfl
  have k2 : w5.cell? ⟨w.heap.size, 2, none⟩ = some (.slice none 0 0) := by rw [cell_of_row _ _ _ _ _ _ Ra.out]; rfl
  have f0 : w5.frozen? ⟨w.heap.size, 0, none⟩ = false := frozen_of_row _ _ _ _ _ Ra.out
  have f1 : w5.frozen? ⟨w.heap.size, 1, none⟩ = false := frozen_of_row _ _ _ _ _ Ra.out
  have f2 : w5.frozen? ⟨w.heap.size, 2, none⟩ = false := frozen_of_row _ _ _ _ _ Ra.out
  have hlt := (Array.getElem?_eq_some_iff.1 Ra.out).1
  have hne : ¬ w.heap.size = w5.heap.size := by omega
  have Hrs := hid hrs
  clear hrow hrs
  go_wp2_with fail
  clear k0 k1 k2 f0 f1 f2
  obtain ⟨W6, hW6⟩ : ∃ W6, W6 = ((w5.setCell ⟨w.heap.size, 0, none⟩ (.int .i64 7)).setCell ⟨w.heap.size, 1, none⟩ (.slice sa n sc)).setCell ⟨w.heap.size, 2, none⟩ (.slice (some ⟨w5.heap.size, 0, none⟩) 5 5) := ⟨_, rfl⟩
  have hs6 : W6.heap.size = w5.heap.size := by rw [hW6]; simp
  have hO6 : Only (fun b => b = w.heap.size) w5 W6 := by rw [hW6]; exact ((setCell_only _ _ _).trans (setCell_only _ _ _)).trans (setCell_only _ _ _)
  have hr6 : W6.heap[w.heap.size]? = some (.cells #[.int .i64 7, .slice sa n sc, .slice (some ⟨w5.heap.size, 0, none⟩) 5 5] 25 (0, 0)) := by
    rw [hW6]
    exact heap_setCell_same _ _ 2 #[.int .i64 7, .slice sa n sc, .slice none 0 0] 25 _ (heap_setCell_same _ _ 1 #[.int .i64 7, .slice none 0 0, .slice none 0 0] 25 _ (heap_setCell_same w5 _ 0 _ 25 _ Ra.out))
  rw [← hW6]
  have hO7 := hO6.alloc (.cells #[.slice (some ⟨w.heap.size + 1, 0, none⟩) 2 2, .int .i64 2, .slice (some ⟨w1.heap.size, 0, none⟩) 1 1, .int .i64 3, .slice (some ⟨w2.heap.size, 0, none⟩) 2 2, .int .i64 (-1), .slice (some ⟨w3.heap.size, 0, none⟩) 1 1, .int .i64 4, .slice (some ⟨w4.heap.size, 0, none⟩) 2 2, .int .i64 3] 60)
  have hn7 := heap_alloc_new W6 (.cells #[.slice (some ⟨w.heap.size + 1, 0, none⟩) 2 2, .int .i64 2, .slice (some ⟨w1.heap.size, 0, none⟩) 1 1, .int .i64 3, .slice (some ⟨w2.heap.size, 0, none⟩) 2 2, .int .i64 (-1), .slice (some ⟨w3.heap.size, 0, none⟩) 1 1, .int .i64 4, .slice (some ⟨w4.heap.size, 0, none⟩) 2 2, .int .i64 3] 60)
  have hr7 := (Below.heap_alloc W6 (.cells #[.slice (some ⟨w.heap.size + 1, 0, none⟩) 2 2, .int .i64 2, .slice (some ⟨w1.heap.size, 0, none⟩) 1 1, .int .i64 3, .slice (some ⟨w2.heap.size, 0, none⟩) 2 2, .int .i64 (-1), .slice (some ⟨w3.heap.size, 0, none⟩) 1 1, .int .i64 4, .slice (some ⟨w4.heap.size, 0, none⟩) 2 2, .int .i64 3] 60) w.heap.size (by omega)).trans hr6
  rw [hs6] at hn7
  generalize W6.alloc (.cells #[.slice (some ⟨w.heap.size + 1, 0, none⟩) 2 2, .int .i64 2, .slice (some ⟨w1.heap.size, 0, none⟩) 1 1, .int .i64 3, .slice (some ⟨w2.heap.size, 0, none⟩) 2 2, .int .i64 (-1), .slice (some ⟨w3.heap.size, 0, none⟩) 1 1, .int .i64 4, .slice (some ⟨w4.heap.size, 0, none⟩) 2 2, .int .i64 3] 60) = W7 at *
  have s1 := Hs1.out; have s2 := Hs2.out; have s3 := Hs3.out; have s4 := Hs4.out
  have B0 : IntsAt W7 (some ⟨w.heap.size + 1, 0, none⟩) [0, 1] := A0.out.only hO7 (fun b off e _ => by cases e; show ¬ w.heap.size + 1 = w.heap.size; omega)
  have B1 : IntsAt W7 (some ⟨w1.heap.size, 0, none⟩) [2] := A1.out.only hO7 (fun b off e _ => by cases e; show ¬ w1.heap.size = w.heap.size; omega)
  have B2 : IntsAt W7 (some ⟨w2.heap.size, 0, none⟩) [3, 4] := A2.out.only hO7 (fun b off e _ => by cases e; show ¬ w2.heap.size = w.heap.size; omega)
  have B3 : IntsAt W7 (some ⟨w3.heap.size, 0, none⟩) [5] := A3.out.only hO7 (fun b off e _ => by cases e; show ¬ w3.heap.size = w.heap.size; omega)
  have B4 : IntsAt W7 (some ⟨w4.heap.size, 0, none⟩) [0, 1] := A4.out.only hO7 (fun b off e _ => by cases e; show ¬ w4.heap.size = w.heap.size; omega)
  refine bodyPost_ret (results_cell_row rfl _ _ w.heap.size 25 _ (0, 0) _ rfl hr7 Try.underlying25 rfl (by kernel_rfl)) rfl ⟨w5.heap.size, rfl, ?_, Ba.out.trans (hO7.below Ba.out.size (by intro j hj e; have e' : j = w.heap.size := e; omega))⟩
  refine .inr ⟨_, 0, rfl, fun i hi => ?_⟩
  have hi5 : i < 5 := hi
  have hcell : ∀ j, W7.cell? ⟨w5.heap.size, j, none⟩ = _ := fun j => cell_of_row _ _ _ _ _ _ hn7
  match i, hi5 with
  | 0, _ => exact ⟨_, 2, by rw [hcell]; rfl, B0, (fun h => by cases h), by rw [hcell]; rfl⟩
  | 1, _ => exact ⟨_, 1, by rw [hcell]; rfl, B1, (fun h => by cases h), by rw [hcell]; rfl⟩
  | 2, _ => exact ⟨_, 2, by rw [hcell]; rfl, B2, (fun h => by cases h), by rw [hcell]; rfl⟩
  | 3, _ => exact ⟨_, 1, by rw [hcell]; rfl, B3, (fun h => by cases h), by rw [hcell]; rfl⟩
  | 4, _ => exact ⟨_, 2, by rw [hcell]; rfl, B4, (fun h => by cases h), by rw [hcell]; rfl⟩

theorem v1 : pLeastE 7 seenC rsX = 0 := by decide +kernel
theorem v2 : pLeastL 7 seenC rsX = [0, 1, 2, 3] := by decide +kernel
theorem v3 : pCountN 7 seenC rsX = 2 := by decide +kernel
theorem v4 : pCountN 7 seenD rsX = 0 := by decide +kernel
theorem v5 : caseErr 7 seenC rsX = 0 := by decide +kernel
theorem v6 : caseErr 7 seenD rsX = 0 := by decide +kernel
theorem v7 : pTruthErr 7 seenC rsX [0, 1, 2, 3, 6] = 0 := by decide +kernel
theorem v8 : pTruthErr 7 seenC rsX [0, 1, 2] = 24 := by decide +kernel
theorem v9 : pTruthErr 7 seenC rsX [1, 0] = 2 := by decide +kernel
theorem v10 : pVerdictE 7 seenC rsX 3 = 0 ∧ pVerdictN 7 seenC rsX 3 = 2 := by decide +kernel
theorem v11 : pVerdictE 7 seenC rsX 5 = 0 ∧ pVerdictN 7 seenC rsX 5 = 0 := by decide +kernel
theorem v12 : pVerdictE 7 seenC rsX 6 = 0 ∧ pVerdictN 7 seenC rsX 6 = 1 := by decide +kernel
theorem v13 : pVerdictE 7 seenD rsX 3 = 24 ∧ pVerdictN 7 seenD rsX 3 = 0 := by decide +kernel
theorem v14 : pcs 7 seenD rsX [4, 2] = ([0, 1, 3, 4], true, 0) := by decide +kernel
theorem v15 : pcs 7 seenC rsX [1, 0] = ([], false, 16) := by decide +kernel
theorem v16 : pcs 7 seenC rsX [0, 0] = ([], false, 11) := by decide +kernel
theorem v17 : pStepsE 7 seenC rsX 2 = 0 ∧ pStepsL 7 seenC rsX 2 = [0] := by decide +kernel
theorem v18 : pStepsE 7 seenC rsX 4 = 5 ∧ pStepsL 7 seenC rsX 4 = [] := by decide +kernel
theorem v19 : pClashE 7 seenC rsX = 5 ∧ pClashL 7 seenC rsX = [] := by decide +kernel
theorem v20 : pClashE 7 seenD rsX = 0 ∧ pClashL 7 seenD rsX = [0, 1, 2] := by decide +kernel
theorem v21 : pNeededE 7 seenC rsX 3 = 0 ∧ pNeededL 7 seenC rsX 3 = [0, 1] := by decide +kernel
theorem v22 : pWrongE 7 seenD rsX = 0 ∧ pWrongL 7 seenD rsX = [0] := by decide +kernel
theorem v23 : pIdleE 7 seenC rsX 4 = 0 ∧ pIdleB 7 seenC rsX 4 = true := by decide +kernel
theorem v24 : pIdleE 7 seenC rsX 1 = 0 ∧ pIdleB 7 seenC rsX 1 = false := by decide +kernel
theorem v25 : (rcs 7 seenD rsX [0, 1, 2]).2 = (true, 0) := by decide +kernel

end Go.Proofs.Ytkioejdddmnbmaa
