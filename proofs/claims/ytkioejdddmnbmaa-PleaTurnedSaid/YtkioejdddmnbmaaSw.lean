/- Walk: Works. -/
import Derived.Test.YtkioejdddmnbmaaGh
import Derived.Test.YtkioejdddmnbmaaGc
import Derived.Deep.RegionHeld3
namespace Go.Proofs.Ytkioejdddmnbmaa
open Go.RowKit Go.Shelf
attribute [local go_sem ↓] wp_get wp_get0 wp_getS wp78 wps78 wpa78

theorem IntsAt.undrew {w : World} {a : Option Addr} {xs : List Int} (h : IntsAt w a xs) : IntsAt w.drew a xs := h
theorem lit01236 (w : World) (b : Nat) (hb : b = w.heap.size) : IntsAt (w.alloc (.cells #[.int .i64 0, .int .i64 1, .int .i64 2, .int .i64 3, .int .i64 6] 3)) (some ⟨b, 0, none⟩) [0, 1, 2, 3, 6] := intsAt_new w [0, 1, 2, 3, 6] b 3 hb
theorem lit012 (w : World) (b : Nat) (hb : b = w.heap.size) : IntsAt (w.alloc (.cells #[.int .i64 0, .int .i64 1, .int .i64 2] 3)) (some ⟨b, 0, none⟩) [0, 1, 2] := intsAt_new w [0, 1, 2] b 3 hb
theorem lit10 (w : World) (b : Nat) (hb : b = w.heap.size) : IntsAt (w.alloc (.cells #[.int .i64 1, .int .i64 0] 3)) (some ⟨b, 0, none⟩) [1, 0] := intsAt_new w [1, 0] b 3 hb
theorem lit42 (w : World) (b : Nat) (hb : b = w.heap.size) : IntsAt (w.alloc (.cells #[.int .i64 4, .int .i64 2] 3)) (some ⟨b, 0, none⟩) [4, 2] := intsAt_new w [4, 2] b 3 hb
theorem lit00 (w : World) (b : Nat) (hb : b = w.heap.size) : IntsAt (w.alloc (.cells #[.int .i64 0, .int .i64 0] 3)) (some ⟨b, 0, none⟩) [0, 0] := intsAt_new w [0, 0] b 3 hb
theorem lit0123 (w : World) (b : Nat) (hb : b = w.heap.size) : IntsAt (w.alloc (.cells #[.int .i64 0, .int .i64 1, .int .i64 2, .int .i64 3] 3)) (some ⟨b, 0, none⟩) [0, 1, 2, 3] := intsAt_new w [0, 1, 2, 3] b 3 hb
theorem lit0134 (w : World) (b : Nat) (hb : b = w.heap.size) : IntsAt (w.alloc (.cells #[.int .i64 0, .int .i64 1, .int .i64 3, .int .i64 4] 3)) (some ⟨b, 0, none⟩) [0, 1, 3, 4] := intsAt_new w [0, 1, 3, 4] b 3 hb
theorem lit0 (w : World) (b : Nat) (hb : b = w.heap.size) : IntsAt (w.alloc (.cells #[.int .i64 0] 3)) (some ⟨b, 0, none⟩) [0] := intsAt_new w [0] b 3 hb
theorem lit01 (w : World) (b : Nat) (hb : b = w.heap.size) : IntsAt (w.alloc (.cells #[.int .i64 0, .int .i64 1] 3)) (some ⟨b, 0, none⟩) [0, 1] := intsAt_new w [0, 1] b 3 hb

set_option maxRecDepth 100000 in
set_option maxHeartbeats 60000000 in
theorem works_c (w : World) : Calls Try.prog 18 #[] w fun e w' => e = .returned (.bool true) ∧ Below w.heap.size w w' := by
  go_enter Try.func18, Try.ntmps18
  go_wp2_with fail
  refine (example_c _ _ _ _).mono ?_
  rintro e w1 ⟨r1, rfl, hr1, hB⟩
  have L1 := hid ((intsAt_new w seenC w.heap.size 3 rfl).mono hB)
  have HB1 := hid (bstep (bnew w (.cells #[.int .i64 0, .int .i64 1] 3)) hB)
  have R1 := hid hr1
  have S1 := hid (show w.heap.size < w1.heap.size from by have := hB.size; simp at this; omega)
  clear hB hr1
  go_wp2_with fail
  refine (example_c _ _ _ _).mono ?_
  rintro e w2 ⟨r2, rfl, hr2, hB⟩
  have hb1 := bnew w1 (.cells #[.int .i64 0, .int .i64 1, .int .i64 4] 3)
  have L2 := hid ((intsAt_new w1 seenD w1.heap.size 3 rfl).mono hB)
  have L1' := hid ((L1.out.mono hb1).mono hB); have R1' := hid ((R1.out.mono hb1).mono hB)
  have HB2 := hid (bstep HB1.out (bstep hb1 hB))
  have R2 := hid hr2
  clear hB hr2 hb1 L1 R1 HB1 S1
  obtain ⟨ax, hax⟩ : ∃ ax : Addr, ax = ⟨w.heap.size, 0, none⟩ := ⟨_, rfl⟩
  obtain ⟨ay, hay⟩ : ∃ ay : Addr, ay = ⟨w1.heap.size, 0, none⟩ := ⟨_, rfl⟩
  rw [← hax] at L1'
  rw [← hay] at L2
  rw [← hax, ← hay]
  clear hax hay
  go_wp2_with fail
  obtain ⟨W3, hW3⟩ : ∃ W3, W3 = (w2.alloc (.cells #[.int .i64 7, .slice (some ax) 2 2, .slice (some ⟨r1, 0, none⟩) 5 5] 25)).alloc (.cells #[.int .i64 7, .slice (some ay) 3 3, .slice (some ⟨r2, 0, none⟩) 5 5] 25) := ⟨_, rfl⟩
  have hb3 : Below w2.heap.size w2 W3 := by rw [hW3]; exact bstep (bnew w2 _) (bnew _ _)
  have C : ExAt W3 w2.heap.size (some ax) r1 seenC := ⟨by rw [hW3]; simp [go_sem], by rw [hW3]; simp [go_sem]; rfl, by rw [hW3]; simp [go_sem], L1'.out.mono hb3, R1'.out.mono hb3⟩
  have D : ExAt W3 (w2.heap.size + 1) (some ay) r2 seenD := ⟨by rw [hW3]; simp [go_sem], by rw [hW3]; simp [go_sem]; rfl, by rw [hW3]; simp [go_sem], L2.out.mono hb3, R2.out.mono hb3⟩
  rw [← hW3]
  have HB := hid (bstep HB2.out hb3)
  have HC := hid C; have HD := hid D
  obtain ⟨p1, hp1⟩ : ∃ p, p = w2.heap.size := ⟨_, rfl⟩
  obtain ⟨p2, hp2⟩ : ∃ p, p = w2.heap.size + 1 := ⟨_, rfl⟩
  rw [← hp1] at HC
  rw [← hp2] at HD
  rw [← hp2, ← hp1]
  have Hpl := hid (show p2 < W3.heap.size from by rw [hp2, hW3]; simp)
  clear hb3 C D HB2 L1' L2 R1' R2 hW3 hp1 hp2
  have k0 := HC.out.k0; have k1 : W3.cell? ⟨p1, 1, none⟩ = some (.slice (some ax) 2 2) := HC.out.k1; have k2 := HC.out.k2
  refine (k_least HC.out).mono ?_
  rintro e x1 ⟨al, cl, rfl, hl, _, hB⟩
  have hBq := hB
  have HC' := hid (HC.out.mono hB); have HD' := hid (HD.out.mono hB); have HB' := hid (bstep HB.out hB)
  clear HC HD HB  
  have HC := HC'; have HD := HD'; have HB := HB'
  clear HC' HD' HB' 
  have LL := hid hl
  clear k0 k1 k2 hB hBq hl
  have k0 := HC.out.k0; have k1 : x1.cell? ⟨p1, 1, none⟩ = some (.slice (some ax) 2 2) := HC.out.k1; have k2 := HC.out.k2
  go_wp2_with fail
  refine (k_countC HC.out).mono ?_
  rintro e x2 ⟨rfl, hB⟩
  have hBq := hB
  have HC' := hid (HC.out.mono hB); have HD' := hid (HD.out.mono hB); have HB' := hid (bstep HB.out hB)
  have LL' := hid (LL.out.mono hB)
  clear HC HD HB LL 
  have HC := HC'; have HD := HD'; have HB := HB'
  have LL := LL'
  clear HC' HD' HB' LL'
  clear k0 k1 k2 hB hBq
  have k0 := HD.out.k0; have k1 : x2.cell? ⟨p2, 1, none⟩ = some (.slice (some ay) 3 3) := HD.out.k1; have k2 := HD.out.k2
  go_wp2_with fail
  refine (k_countD HD.out).mono ?_
  rintro e x3 ⟨rfl, hB⟩
  have hBq := hB
  have HC' := hid (HC.out.mono hB); have HD' := hid (HD.out.mono hB); have HB' := hid (bstep HB.out hB)
  have LL' := hid (LL.out.mono hB)
  clear HC HD HB LL 
  have HC := HC'; have HD := HD'; have HB := HB'
  have LL := LL'
  clear HC' HD' HB' LL'
  clear k0 k1 k2 hB hBq
  have k0 := HC.out.k0; have k1 : x3.cell? ⟨p1, 1, none⟩ = some (.slice (some ax) 2 2) := HC.out.k1; have k2 := HC.out.k2
  have Q0 := hid fun (b : Nat) (w' : World) (h : Below x3.heap.size x3 w') (ht : IntsAt w' (some ⟨b, 0, none⟩) [0, 1, 2, 3, 6]) => (show Calls Try.prog 21 #[.agg #[.int .i64 7, .slice (some ax) 2 2, .slice (some ⟨r1, 0, none⟩) 5 5], .slice (some ⟨b, 0, none⟩) 5 5] w' _ from k_truth (HC.out.mono h) [0, 1, 2, 3, 6] (some ⟨b, 0, none⟩) 5 0 v7 ht (by decide))
  have Q1 := hid fun (b : Nat) (w' : World) (h : Below x3.heap.size x3 w') (ht : IntsAt w' (some ⟨b, 0, none⟩) [0, 1, 2]) => (show Calls Try.prog 21 #[.agg #[.int .i64 7, .slice (some ax) 2 2, .slice (some ⟨r1, 0, none⟩) 5 5], .slice (some ⟨b, 0, none⟩) 3 3] w' _ from k_truth (HC.out.mono h) [0, 1, 2] (some ⟨b, 0, none⟩) 3 24 v8 ht (by decide))
  have Q2 := hid fun (b : Nat) (w' : World) (h : Below x3.heap.size x3 w') (ht : IntsAt w' (some ⟨b, 0, none⟩) [1, 0]) => (show Calls Try.prog 21 #[.agg #[.int .i64 7, .slice (some ax) 2 2, .slice (some ⟨r1, 0, none⟩) 5 5], .slice (some ⟨b, 0, none⟩) 2 2] w' _ from k_truth (HC.out.mono h) [1, 0] (some ⟨b, 0, none⟩) 2 2 v9 ht (by decide))
  go_upto_region 5 with (fail)
  go_cut [9, 10, 11] from 67 to 78 (fun a b c wc => a = .int .i64 0 ∧ b = .int .i64 24 ∧ c = .int .i64 2 ∧ Below x3.heap.size x3 wc)
  case first =>
    go_region_held3 (fun w' => w'.cell? ⟨p1, 0, none⟩ = some (.int .i64 7) ∧ w'.cell? ⟨p1, 1, none⟩ = some (.slice (some ax) 2 2) ∧ w'.cell? ⟨p1, 2, none⟩ = some (.slice (some ⟨r1, 0, none⟩) 5 5)) (first | exact ⟨cstep k0 (by with_reducible repeat (first | exact Below.refl _ _ | refine Below.drew ?_ | refine bstep ?_ (bnew _ _) | (refine bstep ?_ (by assumption)))), cstep k1 (by with_reducible repeat (first | exact Below.refl _ _ | refine Below.drew ?_ | refine bstep ?_ (bnew _ _) | (refine bstep ?_ (by assumption)))), cstep k2 (by with_reducible repeat (first | exact Below.refl _ _ | refine Below.drew ?_ | refine bstep ?_ (bnew _ _) | (refine bstep ?_ (by assumption))))⟩ | go_keep)
      (first
        | (go_at_call 56; refine (of_c _ _ _ _).mono ?_; rintro e wx ⟨rfl, rfl⟩)
        | (go_at_call 21; (with_reducible refine (Q0.out _ _ (by with_reducible repeat (first | exact Below.refl _ _ | refine Below.drew ?_ | refine bstep ?_ (bnew _ _) | (refine bstep ?_ (by assumption)))) (by with_reducible repeat (first | assumption | refine IntsAt.undrew ?_ | exact lit01236 _ _ rfl | exact lit01236 _ _ (by simp) | refine IntsAt.mono ?_ (bnew _ _) | (refine IntsAt.mono ?_ (by assumption))))).mono ?_); rintro e wc0 ⟨rfl, hB0⟩)
        | (go_at_call 21; (with_reducible refine (Q1.out _ _ (by with_reducible repeat (first | exact Below.refl _ _ | refine Below.drew ?_ | refine bstep ?_ (bnew _ _) | (refine bstep ?_ (by assumption)))) (by with_reducible repeat (first | assumption | refine IntsAt.undrew ?_ | exact lit012 _ _ rfl | exact lit012 _ _ (by simp) | refine IntsAt.mono ?_ (bnew _ _) | (refine IntsAt.mono ?_ (by assumption))))).mono ?_); rintro e wc1 ⟨rfl, hB1⟩)
        | (go_at_call 21; (with_reducible refine (Q2.out _ _ (by with_reducible repeat (first | exact Below.refl _ _ | refine Below.drew ?_ | refine bstep ?_ (bnew _ _) | (refine bstep ?_ (by assumption)))) (by with_reducible repeat (first | assumption | refine IntsAt.undrew ?_ | exact lit10 _ _ rfl | exact lit10 _ _ (by simp) | refine IntsAt.mono ?_ (bnew _ _) | (refine IntsAt.mono ?_ (by assumption))))).mono ?_); rintro e wc2 ⟨rfl, hB2⟩))
    all_goals (
      go_wp2
      go_meet
      exact ⟨rfl, rfl, rfl, (by with_reducible repeat (first | exact Below.refl _ _ | refine Below.drew ?_ | refine bstep ?_ (bnew _ _) | (refine bstep ?_ (by assumption))))⟩)
  obtain ⟨rfl, rfl, rfl, hB⟩ := hcut
  clear Q0 Q1 Q2 k0 k1 k2
  have HC' := hid (HC.out.mono hB); have HD' := hid (HD.out.mono hB); have HB' := hid (bstep HB.out hB)
  have LL' := hid (LL.out.mono hB)
  clear HC HD HB LL 
  have HC := HC'; have HD := HD'; have HB := HB'
  have LL := LL'
  clear HC' HD' HB' LL'
  clear hB
  as_aux_lemma =>
  have k0 := HC.out.k0; have k1 : wc.cell? ⟨p1, 1, none⟩ = some (.slice (some ax) 2 2) := HC.out.k1; have k2 := HC.out.k2
  go_wp2_with fail
  refine (k_verdictC HC.out 3 2 0 v10).mono ?_
  rintro e x5 ⟨rfl, hB⟩
  have HC' := hid (HC.out.mono hB); have HD' := hid (HD.out.mono hB); have HB' := hid (bstep HB.out hB)
  have LL' := hid (LL.out.mono hB)
  clear HC HD HB LL 
  have HC := HC'; have HD := HD'; have HB := HB'
  have LL := LL'
  clear HC' HD' HB' LL'
  clear k0 k1 k2 hB
  have k0 := HC.out.k0; have k1 : x5.cell? ⟨p1, 1, none⟩ = some (.slice (some ax) 2 2) := HC.out.k1; have k2 := HC.out.k2
  go_wp2_with fail
  refine (k_verdictC HC.out 5 0 0 v11).mono ?_
  rintro e x6 ⟨rfl, hB⟩
  have HC' := hid (HC.out.mono hB); have HD' := hid (HD.out.mono hB); have HB' := hid (bstep HB.out hB)
  have LL' := hid (LL.out.mono hB)
  clear HC HD HB LL 
  have HC := HC'; have HD := HD'; have HB := HB'
  have LL := LL'
  clear HC' HD' HB' LL'
  clear k0 k1 k2 hB
  have k0 := HC.out.k0; have k1 : x6.cell? ⟨p1, 1, none⟩ = some (.slice (some ax) 2 2) := HC.out.k1; have k2 := HC.out.k2
  go_wp2_with fail
  refine (k_verdictC HC.out 6 1 0 v12).mono ?_
  rintro e x7 ⟨rfl, hB⟩
  have HC' := hid (HC.out.mono hB); have HD' := hid (HD.out.mono hB); have HB' := hid (bstep HB.out hB)
  have LL' := hid (LL.out.mono hB)
  clear HC HD HB LL 
  have HC := HC'; have HD := HD'; have HB := HB'
  have LL := LL'
  clear HC' HD' HB' LL'
  clear k0 k1 k2 hB
  have k0 := HD.out.k0; have k1 : x7.cell? ⟨p2, 1, none⟩ = some (.slice (some ay) 3 3) := HD.out.k1; have k2 := HD.out.k2
  go_wp2_with fail
  refine (k_verdictD HD.out 3 0 24 v13).mono ?_
  rintro e x8 ⟨rfl, hB⟩
  have HC' := hid (HC.out.mono hB); have HD' := hid (HD.out.mono hB); have HB' := hid (bstep HB.out hB)
  have LL' := hid (LL.out.mono hB)
  clear HC HD HB LL 
  have HC := HC'; have HD := HD'; have HB := HB'
  have LL := LL'
  clear HC' HD' HB' LL'
  clear k0 k1 k2 hB
  as_aux_lemma =>
  have k0 := HD.out.k0; have k1 : x8.cell? ⟨p2, 1, none⟩ = some (.slice (some ay) 3 3) := HD.out.k1; have k2 := HD.out.k2
  have Q0 := hid fun (b : Nat) (w' : World) (h : Below x8.heap.size x8 w') (ht : IntsAt w' (some ⟨b, 0, none⟩) [4, 2]) => (show Calls Try.prog 30 #[.agg #[.int .i64 7, .slice (some ay) 3 3, .slice (some ⟨r2, 0, none⟩) 5 5], .slice (some ⟨b, 0, none⟩) 2 2] w' _ from k_stepsD (HD.out.mono h) [4, 2] (some ⟨b, 0, none⟩) 2 ([0, 1, 3, 4], true, 0) v14 ht (by decide) (by decide))
  go_upto_region 10 with (fail)
  go_cut [20, 21, 22] from 99 to 106 (fun a b c wd10 => ∃ ao cao, a = .slice ao 4 cao ∧ b = .bool true ∧ c = .int .i64 0 ∧ IntsAt wd10 ao [0, 1, 3, 4] ∧ Below x8.heap.size x8 wd10)
  case first =>
    go_region_held3 (fun w' => w'.cell? ⟨p2, 0, none⟩ = some (.int .i64 7) ∧ w'.cell? ⟨p2, 1, none⟩ = some (.slice (some ay) 3 3) ∧ w'.cell? ⟨p2, 2, none⟩ = some (.slice (some ⟨r2, 0, none⟩) 5 5)) (first | exact ⟨cstep k0 (by with_reducible repeat (first | exact Below.refl _ _ | refine Below.drew ?_ | refine bstep ?_ (bnew _ _) | (refine bstep ?_ (by assumption)))), cstep k1 (by with_reducible repeat (first | exact Below.refl _ _ | refine Below.drew ?_ | refine bstep ?_ (bnew _ _) | (refine bstep ?_ (by assumption)))), cstep k2 (by with_reducible repeat (first | exact Below.refl _ _ | refine Below.drew ?_ | refine bstep ?_ (bnew _ _) | (refine bstep ?_ (by assumption))))⟩ | go_keep)
      (first
        | (go_at_call 56; refine (of_c _ _ _ _).mono ?_; rintro e wx ⟨rfl, rfl⟩)
        | (go_at_call 30; (with_reducible refine (Q0.out _ _ (by with_reducible repeat (first | exact Below.refl _ _ | refine Below.drew ?_ | refine bstep ?_ (bnew _ _) | (refine bstep ?_ (by assumption)))) (by with_reducible repeat (first | assumption | refine IntsAt.undrew ?_ | exact lit42 _ _ rfl | exact lit42 _ _ (by simp) | refine IntsAt.mono ?_ (bnew _ _) | (refine IntsAt.mono ?_ (by assumption))))).mono ?_); rintro e wc0 ⟨ao, cao, rfl, hl, hz, hB0⟩))
    all_goals (
      go_wp2
      go_meet
      exact ⟨_, _, rfl, rfl, rfl, hl, (by with_reducible repeat (first | exact Below.refl _ _ | refine Below.drew ?_ | refine bstep ?_ (bnew _ _) | (refine bstep ?_ (by assumption))))⟩)
  obtain ⟨a10, c10, rfl, rfl, rfl, hl, hB⟩ := hcut
  clear Q0 k0 k1 k2
  rename World => wd10
  as_aux_lemma =>
  have HC' := hid (HC.out.mono hB); have HD' := hid (HD.out.mono hB); have HB' := hid (bstep HB.out hB)
  have LL' := hid (LL.out.mono hB)
  clear HC HD HB LL 
  have HC := HC'; have HD := HD'; have HB := HB'
  have LL := LL'
  clear HC' HD' HB' LL'
  clear hB
  have L10 := hid hl
  clear hl
  have k0 := HC.out.k0; have k1 : wd10.cell? ⟨p1, 1, none⟩ = some (.slice (some ax) 2 2) := HC.out.k1; have k2 := HC.out.k2
  have Q0 := hid fun (b : Nat) (w' : World) (h : Below wd10.heap.size wd10 w') (ht : IntsAt w' (some ⟨b, 0, none⟩) [1, 0]) => (show Calls Try.prog 30 #[.agg #[.int .i64 7, .slice (some ax) 2 2, .slice (some ⟨r1, 0, none⟩) 5 5], .slice (some ⟨b, 0, none⟩) 2 2] w' _ from k_stepsC (HC.out.mono h) [1, 0] (some ⟨b, 0, none⟩) 2 ([], false, 16) v15 ht (by decide) (by decide))
  go_upto_region 11 with (fail)
  go_cut [23, 24, 25] from 107 to 114 (fun a b c wd11 => ∃ ao cao, a = .slice ao 0 cao ∧ b = .bool false ∧ c = .int .i64 16 ∧ Below wd10.heap.size wd10 wd11)
  case first =>
    go_region_held3 (fun w' => w'.cell? ⟨p1, 0, none⟩ = some (.int .i64 7) ∧ w'.cell? ⟨p1, 1, none⟩ = some (.slice (some ax) 2 2) ∧ w'.cell? ⟨p1, 2, none⟩ = some (.slice (some ⟨r1, 0, none⟩) 5 5)) (first | exact ⟨cstep k0 (by with_reducible repeat (first | exact Below.refl _ _ | refine Below.drew ?_ | refine bstep ?_ (bnew _ _) | (refine bstep ?_ (by assumption)))), cstep k1 (by with_reducible repeat (first | exact Below.refl _ _ | refine Below.drew ?_ | refine bstep ?_ (bnew _ _) | (refine bstep ?_ (by assumption)))), cstep k2 (by with_reducible repeat (first | exact Below.refl _ _ | refine Below.drew ?_ | refine bstep ?_ (bnew _ _) | (refine bstep ?_ (by assumption))))⟩ | go_keep)
      (first
        | (go_at_call 56; refine (of_c _ _ _ _).mono ?_; rintro e wx ⟨rfl, rfl⟩)
        | (go_at_call 30; (with_reducible refine (Q0.out _ _ (by with_reducible repeat (first | exact Below.refl _ _ | refine Below.drew ?_ | refine bstep ?_ (bnew _ _) | (refine bstep ?_ (by assumption)))) (by with_reducible repeat (first | assumption | refine IntsAt.undrew ?_ | exact lit10 _ _ rfl | exact lit10 _ _ (by simp) | refine IntsAt.mono ?_ (bnew _ _) | (refine IntsAt.mono ?_ (by assumption))))).mono ?_); rintro e wc0 ⟨ao, cao, rfl, hl, hz, hB0⟩))
    all_goals (
      go_wp2
      go_meet
      exact ⟨_, _, rfl, rfl, rfl, (by with_reducible repeat (first | exact Below.refl _ _ | refine Below.drew ?_ | refine bstep ?_ (bnew _ _) | (refine bstep ?_ (by assumption))))⟩)
  obtain ⟨a11, c11, rfl, rfl, rfl, hB⟩ := hcut
  clear Q0 k0 k1 k2
  rename World => wd11
  as_aux_lemma =>
  have HC' := hid (HC.out.mono hB); have HD' := hid (HD.out.mono hB); have HB' := hid (bstep HB.out hB)
  have LL' := hid (LL.out.mono hB)
  have L10' := hid (L10.out.mono hB)
  clear HC HD HB LL L10 
  have HC := HC'; have HD := HD'; have HB := HB'
  have LL := LL'
  have L10 := L10'
  clear HC' HD' HB' LL' L10'
  clear hB
  have k0 := HC.out.k0; have k1 : wd11.cell? ⟨p1, 1, none⟩ = some (.slice (some ax) 2 2) := HC.out.k1; have k2 := HC.out.k2
  have Q0 := hid fun (b : Nat) (w' : World) (h : Below wd11.heap.size wd11 w') (ht : IntsAt w' (some ⟨b, 0, none⟩) [0, 0]) => (show Calls Try.prog 30 #[.agg #[.int .i64 7, .slice (some ax) 2 2, .slice (some ⟨r1, 0, none⟩) 5 5], .slice (some ⟨b, 0, none⟩) 2 2] w' _ from k_stepsC (HC.out.mono h) [0, 0] (some ⟨b, 0, none⟩) 2 ([], false, 11) v16 ht (by decide) (by decide))
  go_upto_region 12 with (fail)
  go_cut [26, 27, 28] from 115 to 122 (fun a b c wd12 => ∃ ao cao, a = .slice ao 0 cao ∧ b = .bool false ∧ c = .int .i64 11 ∧ Below wd11.heap.size wd11 wd12)
  case first =>
    go_region_held3 (fun w' => w'.cell? ⟨p1, 0, none⟩ = some (.int .i64 7) ∧ w'.cell? ⟨p1, 1, none⟩ = some (.slice (some ax) 2 2) ∧ w'.cell? ⟨p1, 2, none⟩ = some (.slice (some ⟨r1, 0, none⟩) 5 5)) (first | exact ⟨cstep k0 (by with_reducible repeat (first | exact Below.refl _ _ | refine Below.drew ?_ | refine bstep ?_ (bnew _ _) | (refine bstep ?_ (by assumption)))), cstep k1 (by with_reducible repeat (first | exact Below.refl _ _ | refine Below.drew ?_ | refine bstep ?_ (bnew _ _) | (refine bstep ?_ (by assumption)))), cstep k2 (by with_reducible repeat (first | exact Below.refl _ _ | refine Below.drew ?_ | refine bstep ?_ (bnew _ _) | (refine bstep ?_ (by assumption))))⟩ | go_keep)
      (first
        | (go_at_call 56; refine (of_c _ _ _ _).mono ?_; rintro e wx ⟨rfl, rfl⟩)
        | (go_at_call 30; (with_reducible refine (Q0.out _ _ (by with_reducible repeat (first | exact Below.refl _ _ | refine Below.drew ?_ | refine bstep ?_ (bnew _ _) | (refine bstep ?_ (by assumption)))) (by with_reducible repeat (first | assumption | refine IntsAt.undrew ?_ | exact lit00 _ _ rfl | exact lit00 _ _ (by simp) | refine IntsAt.mono ?_ (bnew _ _) | (refine IntsAt.mono ?_ (by assumption))))).mono ?_); rintro e wc0 ⟨ao, cao, rfl, hl, hz, hB0⟩))
    all_goals (
      go_wp2
      go_meet
      exact ⟨_, _, rfl, rfl, rfl, (by with_reducible repeat (first | exact Below.refl _ _ | refine Below.drew ?_ | refine bstep ?_ (bnew _ _) | (refine bstep ?_ (by assumption))))⟩)
  obtain ⟨a12, c12, rfl, rfl, rfl, hB⟩ := hcut
  clear Q0 k0 k1 k2
  rename World => wd12
  as_aux_lemma =>
  have HC' := hid (HC.out.mono hB); have HD' := hid (HD.out.mono hB); have HB' := hid (bstep HB.out hB)
  have LL' := hid (LL.out.mono hB)
  have L10' := hid (L10.out.mono hB)
  clear HC HD HB LL L10 
  have HC := HC'; have HD := HD'; have HB := HB'
  have LL := LL'
  have L10 := L10'
  clear HC' HD' HB' LL' L10'
  clear hB
  as_aux_lemma =>
  have k0 := HC.out.k0; have k1 : wd12.cell? ⟨p1, 1, none⟩ = some (.slice (some ax) 2 2) := HC.out.k1; have k2 := HC.out.k2
  go_wp2_with fail
  refine (k_pSteps HC.out 2 0 [0] v17).mono ?_
  rintro e x12 ⟨a13, c13, rfl, hl, _, _, hB⟩
  have HC' := hid (HC.out.mono hB); have HD' := hid (HD.out.mono hB); have HB' := hid (bstep HB.out hB)
  have LL' := hid (LL.out.mono hB)
  have L10' := hid (L10.out.mono hB)
  clear HC HD HB LL L10 
  have HC := HC'; have HD := HD'; have HB := HB'
  have LL := LL'
  have L10 := L10'
  clear HC' HD' HB' LL' L10'
  have L13 := hid hl
  clear k0 k1 k2 hB hl
  have k0 := HC.out.k0; have k1 : x12.cell? ⟨p1, 1, none⟩ = some (.slice (some ax) 2 2) := HC.out.k1; have k2 := HC.out.k2
  go_wp2_with fail
  refine (k_pSteps HC.out 4 5 [] v18).mono ?_
  rintro e x13 ⟨a14, c14, rfl, _, _, _, hB⟩
  have HC' := hid (HC.out.mono hB); have HD' := hid (HD.out.mono hB); have HB' := hid (bstep HB.out hB)
  have LL' := hid (LL.out.mono hB)
  have L10' := hid (L10.out.mono hB)
  have L13' := hid (L13.out.mono hB)
  clear HC HD HB LL L10 L13 
  have HC := HC'; have HD := HD'; have HB := HB'
  have LL := LL'
  have L10 := L10'
  have L13 := L13'
  clear HC' HD' HB' LL' L10' L13'
  clear k0 k1 k2 hB
  have k0 := HC.out.k0; have k1 : x13.cell? ⟨p1, 1, none⟩ = some (.slice (some ax) 2 2) := HC.out.k1; have k2 := HC.out.k2
  go_wp2_with fail
  refine (k_clashC HC.out).mono ?_
  rintro e x14 ⟨a15, c15, rfl, _, _, _, hB⟩
  have HC' := hid (HC.out.mono hB); have HD' := hid (HD.out.mono hB); have HB' := hid (bstep HB.out hB)
  have LL' := hid (LL.out.mono hB)
  have L10' := hid (L10.out.mono hB)
  have L13' := hid (L13.out.mono hB)
  clear HC HD HB LL L10 L13 
  have HC := HC'; have HD := HD'; have HB := HB'
  have LL := LL'
  have L10 := L10'
  have L13 := L13'
  clear HC' HD' HB' LL' L10' L13'
  clear k0 k1 k2 hB
  have k0 := HD.out.k0; have k1 : x14.cell? ⟨p2, 1, none⟩ = some (.slice (some ay) 3 3) := HD.out.k1; have k2 := HD.out.k2
  go_wp2_with fail
  refine (k_clashD HD.out).mono ?_
  rintro e x15 ⟨a16, c16, rfl, hl, _, hcap, hB⟩
  have HC' := hid (HC.out.mono hB); have HD' := hid (HD.out.mono hB); have HB' := hid (bstep HB.out hB)
  have LL' := hid (LL.out.mono hB)
  have L10' := hid (L10.out.mono hB)
  have L13' := hid (L13.out.mono hB)
  clear HC HD HB LL L10 L13 
  have HC := HC'; have HD := HD'; have HB := HB'
  have LL := LL'
  have L10 := L10'
  have L13 := L13'
  clear HC' HD' HB' LL' L10' L13'
  have LD := hid hl
  have HCd := hid hcap
  clear k0 k1 k2 hB hl hcap
  have k0 := HC.out.k0; have k1 : x15.cell? ⟨p1, 1, none⟩ = some (.slice (some ax) 2 2) := HC.out.k1; have k2 := HC.out.k2
  go_wp2_with fail
  refine (k_needed HC.out).mono ?_
  rintro e x16 ⟨a17, c17, rfl, hl, _, _, hB⟩
  have HC' := hid (HC.out.mono hB); have HD' := hid (HD.out.mono hB); have HB' := hid (bstep HB.out hB)
  have LL' := hid (LL.out.mono hB)
  have L10' := hid (L10.out.mono hB)
  have L13' := hid (L13.out.mono hB)
  have LD' := hid (LD.out.mono hB)
  clear HC HD HB LL L10 L13 LD 
  have HC := HC'; have HD := HD'; have HB := HB'
  have LL := LL'
  have L10 := L10'
  have L13 := L13'
  have LD := LD'
  clear HC' HD' HB' LL' L10' L13' LD'
  have L17 := hid hl
  clear k0 k1 k2 hB hl
  as_aux_lemma =>
  have k0 := HD.out.k0; have k1 : x16.cell? ⟨p2, 1, none⟩ = some (.slice (some ay) 3 3) := HD.out.k1; have k2 := HD.out.k2
  go_wp2_with fail
  refine (k_wrong HD.out).mono ?_
  rintro e x17 ⟨a18, c18, rfl, hl, _, _, hB⟩
  have HC' := hid (HC.out.mono hB); have HD' := hid (HD.out.mono hB); have HB' := hid (bstep HB.out hB)
  have LL' := hid (LL.out.mono hB)
  have L10' := hid (L10.out.mono hB)
  have L13' := hid (L13.out.mono hB)
  have LD' := hid (LD.out.mono hB)
  have L17' := hid (L17.out.mono hB)
  clear HC HD HB LL L10 L13 LD L17 
  have HC := HC'; have HD := HD'; have HB := HB'
  have LL := LL'
  have L10 := L10'
  have L13 := L13'
  have LD := LD'
  have L17 := L17'
  clear HC' HD' HB' LL' L10' L13' LD' L17'
  have L18 := hid hl
  clear k0 k1 k2 hB hl
  have k0 := HC.out.k0; have k1 : x17.cell? ⟨p1, 1, none⟩ = some (.slice (some ax) 2 2) := HC.out.k1; have k2 := HC.out.k2
  go_wp2_with fail
  refine (k_idle HC.out 4 true v23).mono ?_
  rintro e x18 ⟨rfl, hB⟩
  have HC' := hid (HC.out.mono hB); have HD' := hid (HD.out.mono hB); have HB' := hid (bstep HB.out hB)
  have LL' := hid (LL.out.mono hB)
  have L10' := hid (L10.out.mono hB)
  have L13' := hid (L13.out.mono hB)
  have LD' := hid (LD.out.mono hB)
  have L17' := hid (L17.out.mono hB)
  have L18' := hid (L18.out.mono hB)
  clear HC HD HB LL L10 L13 LD L17 L18 
  have HC := HC'; have HD := HD'; have HB := HB'
  have LL := LL'
  have L10 := L10'
  have L13 := L13'
  have LD := LD'
  have L17 := L17'
  have L18 := L18'
  clear HC' HD' HB' LL' L10' L13' LD' L17' L18'
  clear k0 k1 k2 hB
  have k0 := HC.out.k0; have k1 : x18.cell? ⟨p1, 1, none⟩ = some (.slice (some ax) 2 2) := HC.out.k1; have k2 := HC.out.k2
  go_wp2_with fail
  refine (k_idle HC.out 1 false v24).mono ?_
  rintro e x19 ⟨rfl, hB⟩
  have HC' := hid (HC.out.mono hB); have HD' := hid (HD.out.mono hB); have HB' := hid (bstep HB.out hB)
  have LL' := hid (LL.out.mono hB)
  have L10' := hid (L10.out.mono hB)
  have L13' := hid (L13.out.mono hB)
  have LD' := hid (LD.out.mono hB)
  have L17' := hid (L17.out.mono hB)
  have L18' := hid (L18.out.mono hB)
  clear HC HD HB LL L10 L13 LD L17 L18 
  have HC := HC'; have HD := HD'; have HB := HB'
  have LL := LL'
  have L10 := L10'
  have L13 := L13'
  have LD := LD'
  have L17 := L17'
  have L18 := L18'
  clear HC' HD' HB' LL' L10' L13' LD' L17' L18'
  clear k0 k1 k2 hB
  as_aux_lemma =>
  have k0 := HD.out.k0; have k1 : x19.cell? ⟨p2, 1, none⟩ = some (.slice (some ay) 3 3) := HD.out.k1; have k2 := HD.out.k2
  go_wp2_with fail
  refine (k_ref HD.out a16 c16 LD.out HCd.out).mono ?_
  rintro e x20 ⟨a19, n19, c19, rfl, hB⟩
  have HC' := hid (HC.out.mono hB); have HD' := hid (HD.out.mono hB); have HB' := hid (bstep HB.out hB)
  have LL' := hid (LL.out.mono hB)
  have L10' := hid (L10.out.mono hB)
  have L13' := hid (L13.out.mono hB)
  have LD' := hid (LD.out.mono hB)
  have L17' := hid (L17.out.mono hB)
  have L18' := hid (L18.out.mono hB)
  clear HC HD HB LL L10 L13 LD L17 L18 
  have HC := HC'; have HD := HD'; have HB := HB'
  have LL := LL'
  have L10 := L10'
  have L13 := L13'
  have LD := LD'
  have L17 := L17'
  have L18 := L18'
  clear HC' HD' HB' LL' L10' L13' LD' L17' L18'
  clear k0 k1 k2 hB
  as_aux_lemma =>
  go_wp2_with fail
  refine (of_c _ _ _ _).mono ?_
  rintro e wx ⟨rfl, rfl⟩
  have hbq := bnew x20 (.cells #[.int .i64 0, .int .i64 1, .int .i64 2, .int .i64 3] 3)
  have hlq := lit0123 x20 _ rfl
  have hxq := LL.out.mono hbq
  have HLQ := hid hlq; have HXQ := hid hxq; have HBQ := hid hbq
  clear hlq hxq hbq
  go_wp2_with fail
  refine (ints_c al _ _ _ [0, 1, 2, 3] [0, 1, 2, 3] _ HXQ.out HLQ.out (by decide) (by decide)).mono ?_
  rintro e x21 ⟨rfl, hB⟩
  have hBq := bstep HBQ.out hB
  have HC' := hid (HC.out.mono hBq); have HD' := hid (HD.out.mono hBq); have HB' := hid (bstep HB.out hBq)
  have LL' := hid (LL.out.mono hBq)
  have L10' := hid (L10.out.mono hBq)
  have L13' := hid (L13.out.mono hBq)
  have LD' := hid (LD.out.mono hBq)
  have L17' := hid (L17.out.mono hBq)
  have L18' := hid (L18.out.mono hBq)
  clear HC HD HB LL L10 L13 LD L17 L18 
  have HC := HC'; have HD := HD'; have HB := HB'
  have LL := LL'
  have L10 := L10'
  have L13 := L13'
  have LD := LD'
  have L17 := L17'
  have L18 := L18'
  clear HC' HD' HB' LL' L10' L13' LD' L17' L18'
  clear hB hBq HLQ HXQ HBQ
  go_wp2_with fail
  refine (of_c _ _ _ _).mono ?_
  rintro e wx ⟨rfl, rfl⟩
  have hbq := bnew x21 (.cells #[.int .i64 0, .int .i64 1, .int .i64 3, .int .i64 4] 3)
  have hlq := lit0134 x21 _ rfl
  have hxq := L10.out.mono hbq
  have HLQ := hid hlq; have HXQ := hid hxq; have HBQ := hid hbq
  clear hlq hxq hbq
  go_wp2_with fail
  refine (ints_c a10 _ _ _ [0, 1, 3, 4] [0, 1, 3, 4] _ HXQ.out HLQ.out (by decide) (by decide)).mono ?_
  rintro e x22 ⟨rfl, hB⟩
  have hBq := bstep HBQ.out hB
  have HC' := hid (HC.out.mono hBq); have HD' := hid (HD.out.mono hBq); have HB' := hid (bstep HB.out hBq)
  have LL' := hid (LL.out.mono hBq)
  have L10' := hid (L10.out.mono hBq)
  have L13' := hid (L13.out.mono hBq)
  have LD' := hid (LD.out.mono hBq)
  have L17' := hid (L17.out.mono hBq)
  have L18' := hid (L18.out.mono hBq)
  clear HC HD HB LL L10 L13 LD L17 L18 
  have HC := HC'; have HD := HD'; have HB := HB'
  have LL := LL'
  have L10 := L10'
  have L13 := L13'
  have LD := LD'
  have L17 := L17'
  have L18 := L18'
  clear HC' HD' HB' LL' L10' L13' LD' L17' L18'
  clear hB hBq HLQ HXQ HBQ
  as_aux_lemma =>
  go_wp2_with fail
  refine (of_c _ _ _ _).mono ?_
  rintro e wx ⟨rfl, rfl⟩
  have hbq := bnew x22 (.cells #[.int .i64 0] 3)
  have hlq := lit0 x22 _ rfl
  have hxq := L13.out.mono hbq
  have HLQ := hid hlq; have HXQ := hid hxq; have HBQ := hid hbq
  clear hlq hxq hbq
  go_wp2_with fail
  refine (ints_c a13 _ _ _ [0] [0] _ HXQ.out HLQ.out (by decide) (by decide)).mono ?_
  rintro e x23 ⟨rfl, hB⟩
  have hBq := bstep HBQ.out hB
  have HC' := hid (HC.out.mono hBq); have HD' := hid (HD.out.mono hBq); have HB' := hid (bstep HB.out hBq)
  have LL' := hid (LL.out.mono hBq)
  have L10' := hid (L10.out.mono hBq)
  have L13' := hid (L13.out.mono hBq)
  have LD' := hid (LD.out.mono hBq)
  have L17' := hid (L17.out.mono hBq)
  have L18' := hid (L18.out.mono hBq)
  clear HC HD HB LL L10 L13 LD L17 L18 
  have HC := HC'; have HD := HD'; have HB := HB'
  have LL := LL'
  have L10 := L10'
  have L13 := L13'
  have LD := LD'
  have L17 := L17'
  have L18 := L18'
  clear HC' HD' HB' LL' L10' L13' LD' L17' L18'
  clear hB hBq HLQ HXQ HBQ
  go_wp2_with fail
  refine (of_c _ _ _ _).mono ?_
  rintro e wx ⟨rfl, rfl⟩
  have hbq := bnew x23 (.cells #[.int .i64 0, .int .i64 1] 3)
  have hlq := lit01 x23 _ rfl
  have hxq := L17.out.mono hbq
  have HLQ := hid hlq; have HXQ := hid hxq; have HBQ := hid hbq
  clear hlq hxq hbq
  go_wp2_with fail
  refine (ints_c a17 _ _ _ [0, 1] [0, 1] _ HXQ.out HLQ.out (by decide) (by decide)).mono ?_
  rintro e x24 ⟨rfl, hB⟩
  have hBq := bstep HBQ.out hB
  have HC' := hid (HC.out.mono hBq); have HD' := hid (HD.out.mono hBq); have HB' := hid (bstep HB.out hBq)
  have LL' := hid (LL.out.mono hBq)
  have L10' := hid (L10.out.mono hBq)
  have L13' := hid (L13.out.mono hBq)
  have LD' := hid (LD.out.mono hBq)
  have L17' := hid (L17.out.mono hBq)
  have L18' := hid (L18.out.mono hBq)
  clear HC HD HB LL L10 L13 LD L17 L18 
  have HC := HC'; have HD := HD'; have HB := HB'
  have LL := LL'
  have L10 := L10'
  have L13 := L13'
  have LD := LD'
  have L17 := L17'
  have L18 := L18'
  clear HC' HD' HB' LL' L10' L13' LD' L17' L18'
  clear hB hBq HLQ HXQ HBQ
  go_wp2_with fail
  refine (of_c _ _ _ _).mono ?_
  rintro e wx ⟨rfl, rfl⟩
  have hbq := bnew x24 (.cells #[.int .i64 0] 3)
  have hlq := lit0 x24 _ rfl
  have hxq := L18.out.mono hbq
  have HLQ := hid hlq; have HXQ := hid hxq; have HBQ := hid hbq
  clear hlq hxq hbq
  go_wp2_with fail
  refine (ints_c a18 _ _ _ [0] [0] _ HXQ.out HLQ.out (by decide) (by decide)).mono ?_
  rintro e x25 ⟨rfl, hB⟩
  have hBq := bstep HBQ.out hB
  have HC' := hid (HC.out.mono hBq); have HD' := hid (HD.out.mono hBq); have HB' := hid (bstep HB.out hBq)
  have LL' := hid (LL.out.mono hBq)
  have L10' := hid (L10.out.mono hBq)
  have L13' := hid (L13.out.mono hBq)
  have LD' := hid (LD.out.mono hBq)
  have L17' := hid (L17.out.mono hBq)
  have L18' := hid (L18.out.mono hBq)
  clear HC HD HB LL L10 L13 LD L17 L18 
  have HC := HC'; have HD := HD'; have HB := HB'
  have LL := LL'
  have L10 := L10'
  have L13 := L13'
  have LD := LD'
  have L17 := L17'
  have L18 := L18'
  clear HC' HD' HB' LL' L10' L13' LD' L17' L18'
  clear hB hBq HLQ HXQ HBQ
  go_wp2
  go_ret
  exact ⟨rfl, HB.out⟩

end Go.Proofs.Ytkioejdddmnbmaa
