/- Walk: the law PleaKnown, out of the contract of Works. -/
import Derived.Test.YtkioejdddmnbmaaTk
import Derived.Test.YtkioejdddmnbmaaLit
import Derived.Deep.RegionHeld3
namespace Go.Proofs.Ytkioejdddmnbmaa
open Go.RowKit Go.Shelf
attribute [local go_sem ↓] wp_get wp_get0 wp_getS wp78 wps78 wpa78

theorem IntsAt.undrewK {w : World} {a : Option Addr} {xs : List Int} (h : IntsAt w a xs) : IntsAt w.drew a xs := h
theorem kit01 (w : World) (b : Nat) (hb : b = w.heap.size) : IntsAt (w.alloc (.cells #[.int .i64 0, .int .i64 1] 3)) (some ⟨b, 0, none⟩) [0, 1] := intsAt_new w [0, 1] b 3 hb
theorem kit420 (w : World) (b : Nat) (hb : b = w.heap.size) : IntsAt (w.alloc (.cells #[.int .i64 4, .int .i64 2, .int .i64 0] 3)) (some ⟨b, 0, none⟩) [4, 2, 0] := intsAt_new w [4, 2, 0] b 3 hb
theorem kit0123 (w : World) (b : Nat) (hb : b = w.heap.size) : IntsAt (w.alloc (.cells #[.int .i64 0, .int .i64 1, .int .i64 2, .int .i64 3] 3)) (some ⟨b, 0, none⟩) [0, 1, 2, 3] := intsAt_new w [0, 1, 2, 3] b 3 hb
theorem kit0 (w : World) (b : Nat) (hb : b = w.heap.size) : IntsAt (w.alloc (.cells #[.int .i64 0] 3)) (some ⟨b, 0, none⟩) [0] := intsAt_new w [0] b 3 hb

set_option maxRecDepth 100000 in
set_option maxHeartbeats 8000000 in
theorem known_law (hworks : WorksC) (w : World) : Calls Try.prog 16 #[] w (TrueP w) := by
  have HW := hid hworks
  clear hworks
  go_enter Try.func16, Try.ntmps16
  go_wp2_with fail
  refine (example_c _ _ _ _).mono ?_
  rintro e w1 ⟨r1, rfl, hr1, hB⟩
  have L1 := hid ((intsAt_new w seenC w.heap.size 3 rfl).mono hB)
  have HB1 := hid (bstep (bnew w (.cells #[.int .i64 0, .int .i64 1] 3)) hB)
  have R1 := hid hr1
  have S1 := hid (show w.heap.size < w1.heap.size from by have := hB.size; simp at this; omega)
  clear hB hr1
  go_wp2_with fail
  refine (example_c _ _ _ _).mono ?_
  rintro e w2 ⟨r2, rfl, hr2, hB⟩
  have hb1 := bnew w1 (.cells #[.int .i64 0, .int .i64 1, .int .i64 4] 3)
  have L2 := hid ((intsAt_new w1 seenD w1.heap.size 3 rfl).mono hB)
  have L1' := hid ((L1.out.mono hb1).mono hB); have R1' := hid ((R1.out.mono hb1).mono hB)
  have HB2 := hid (bstep HB1.out (bstep hb1 hB))
  have R2 := hid hr2
  clear hB hr2 hb1 L1 R1 HB1 S1
  obtain ⟨ax, hax⟩ : ∃ ax : Addr, ax = ⟨w.heap.size, 0, none⟩ := ⟨_, rfl⟩
  obtain ⟨ay, hay⟩ : ∃ ay : Addr, ay = ⟨w1.heap.size, 0, none⟩ := ⟨_, rfl⟩
  rw [← hax] at L1'
  rw [← hay] at L2
  rw [← hax, ← hay]
  clear hax hay
  go_wp2_with fail
  obtain ⟨W3, hW3⟩ : ∃ W3, W3 = (w2.alloc (.cells #[.int .i64 7, .slice (some ax) 2 2, .slice (some ⟨r1, 0, none⟩) 5 5] 25)).alloc (.cells #[.int .i64 7, .slice (some ay) 3 3, .slice (some ⟨r2, 0, none⟩) 5 5] 25) := ⟨_, rfl⟩
  have hb3 : Below w2.heap.size w2 W3 := by rw [hW3]; exact bstep (bnew w2 _) (bnew _ _)
  have C : ExAt W3 w2.heap.size (some ax) r1 seenC := ⟨by rw [hW3]; simp [go_sem], by rw [hW3]; simp [go_sem]; rfl, by rw [hW3]; simp [go_sem], L1'.out.mono hb3, R1'.out.mono hb3⟩
  have D : ExAt W3 (w2.heap.size + 1) (some ay) r2 seenD := ⟨by rw [hW3]; simp [go_sem], by rw [hW3]; simp [go_sem]; rfl, by rw [hW3]; simp [go_sem], L2.out.mono hb3, R2.out.mono hb3⟩
  rw [← hW3]
  have HB := hid (bstep HB2.out hb3)
  have HC := hid C; have HD := hid D
  obtain ⟨p1, hp1⟩ : ∃ p, p = w2.heap.size := ⟨_, rfl⟩
  obtain ⟨p2, hp2⟩ : ∃ p, p = w2.heap.size + 1 := ⟨_, rfl⟩
  rw [← hp1] at HC
  rw [← hp2] at HD
  rw [← hp2, ← hp1]
  have Hpl := hid (show p2 < W3.heap.size from by rw [hp2, hW3]; simp)
  clear hb3 C D HB2 L1' L2 R1' R2 hW3 hp1 hp2
  have k0 := HC.out.k0; have k1 : W3.cell? ⟨p1, 1, none⟩ = some (.slice (some ax) 2 2) := HC.out.k1; have k2 := HC.out.k2
  refine (k_verdictC HC.out 7 0 2 u1).mono ?_
  rintro e x1 ⟨rfl, hB⟩
  have hBq := hB
  have HC' := hid (HC.out.mono hB); have HD' := hid (HD.out.mono hB); have HB' := hid (bstep HB.out hB)
  clear HC HD HB  
  have HC := HC'; have HD := HD'; have HB := HB'
  clear HC' HD' HB' 
  clear k0 k1 k2 hB hBq
  as_aux_lemma =>
  have k0 := HC.out.k0; have k1 : x1.cell? ⟨p1, 1, none⟩ = some (.slice (some ax) 2 2) := HC.out.k1; have k2 := HC.out.k2
  have Q0 := hid fun (b : Nat) (w' : World) (h : Below x1.heap.size x1 w') (ht : IntsAt w' (some ⟨b, 0, none⟩) [0, 1]) => (show Calls Try.prog 30 #[.agg #[.int .i64 7, .slice (some ax) 2 2, .slice (some ⟨r1, 0, none⟩) 5 5], .slice (some ⟨b, 0, none⟩) 2 2] w' _ from k_stepsC (HC.out.mono h) [0, 1] (some ⟨b, 0, none⟩) 2 ([0, 1, 2, 3], false, 0) u2 ht (by decide) (by decide))
  go_upto_region 3 with (fail)
  go_cut [5, 6, 7] (fun a b c wc => ∃ ao cao, a = .slice ao 4 cao ∧ b = .bool false ∧ c = .int .i64 0 ∧ IntsAt wc ao [0, 1, 2, 3] ∧ Below x1.heap.size x1 wc)
  case first =>
    as_aux_lemma =>
    go_region_held3 (fun w' => w'.cell? ⟨p1, 0, none⟩ = some (.int .i64 7) ∧ w'.cell? ⟨p1, 1, none⟩ = some (.slice (some ax) 2 2) ∧ w'.cell? ⟨p1, 2, none⟩ = some (.slice (some ⟨r1, 0, none⟩) 5 5)) (first | exact ⟨k0, k1, k2⟩ | exact ⟨cstep k0 (by with_reducible repeat (first | exact Below.refl _ _ | refine Below.drew ?_ | refine bstep ?_ (bnew _ _) | (refine bstep ?_ (by assumption)))), cstep k1 (by with_reducible repeat (first | exact Below.refl _ _ | refine Below.drew ?_ | refine bstep ?_ (bnew _ _) | (refine bstep ?_ (by assumption)))), cstep k2 (by with_reducible repeat (first | exact Below.refl _ _ | refine Below.drew ?_ | refine bstep ?_ (bnew _ _) | (refine bstep ?_ (by assumption))))⟩ | go_keep)
      (first
        | (go_at_call 56; refine (of_c _ _ _ _).mono ?_; rintro e wx ⟨rfl, rfl⟩)
        | (go_at_call 30; (with_reducible refine (Q0.out _ _ (by with_reducible repeat (first | exact Below.refl _ _ | refine Below.drew ?_ | refine bstep ?_ (bnew _ _) | (refine bstep ?_ (by assumption)))) (by with_reducible repeat (first | assumption | refine IntsAt.undrewK ?_ | exact kit01 _ _ rfl | exact kit01 _ _ (by simp) | refine IntsAt.mono ?_ (bnew _ _) | (refine IntsAt.mono ?_ (by assumption))))).mono ?_); rintro e wc0 ⟨ao, cao, rfl, hl, hz, hB0⟩))
    all_goals (
      go_wp2
      go_meet
      exact ⟨_, _, rfl, rfl, rfl, hl, (by with_reducible repeat (first | exact Below.refl _ _ | refine Below.drew ?_ | refine bstep ?_ (bnew _ _) | (refine bstep ?_ (by assumption))))⟩)
  obtain ⟨a10, c10, rfl, rfl, rfl, hl, hB⟩ := hcut
  clear Q0 k0 k1 k2
  rename World => wd3
  as_aux_lemma =>
  have HC' := hid (HC.out.mono hB); have HD' := hid (HD.out.mono hB); have HB' := hid (bstep HB.out hB)
  clear HC HD HB  
  have HC := HC'; have HD := HD'; have HB := HB'
  clear HC' HD' HB' 
  clear hB
  have L10 := hid hl
  clear hl
  have k0 := HD.out.k0; have k1 : wd3.cell? ⟨p2, 1, none⟩ = some (.slice (some ay) 3 3) := HD.out.k1; have k2 := HD.out.k2
  have Q0 := hid fun (b : Nat) (w' : World) (h : Below wd3.heap.size wd3 w') (ht : IntsAt w' (some ⟨b, 0, none⟩) [4, 2, 0]) => (show Calls Try.prog 30 #[.agg #[.int .i64 7, .slice (some ay) 3 3, .slice (some ⟨r2, 0, none⟩) 5 5], .slice (some ⟨b, 0, none⟩) 3 3] w' _ from k_stepsD (HD.out.mono h) [4, 2, 0] (some ⟨b, 0, none⟩) 3 ([], false, 16) u3' ht (by decide) (by decide))
  go_upto_region 4 with (fail)
  go_cut [8, 9, 10] (fun a b c wc => ∃ ao cao, a = .slice ao 0 cao ∧ b = .bool false ∧ c = .int .i64 16 ∧ Below wd3.heap.size wd3 wc)
  case first =>
    as_aux_lemma =>
    go_region_held3 (fun w' => w'.cell? ⟨p2, 0, none⟩ = some (.int .i64 7) ∧ w'.cell? ⟨p2, 1, none⟩ = some (.slice (some ay) 3 3) ∧ w'.cell? ⟨p2, 2, none⟩ = some (.slice (some ⟨r2, 0, none⟩) 5 5)) (first | exact ⟨k0, k1, k2⟩ | exact ⟨cstep k0 (by with_reducible repeat (first | exact Below.refl _ _ | refine Below.drew ?_ | refine bstep ?_ (bnew _ _) | (refine bstep ?_ (by assumption)))), cstep k1 (by with_reducible repeat (first | exact Below.refl _ _ | refine Below.drew ?_ | refine bstep ?_ (bnew _ _) | (refine bstep ?_ (by assumption)))), cstep k2 (by with_reducible repeat (first | exact Below.refl _ _ | refine Below.drew ?_ | refine bstep ?_ (bnew _ _) | (refine bstep ?_ (by assumption))))⟩ | go_keep)
      (first
        | (go_at_call 56; refine (of_c _ _ _ _).mono ?_; rintro e wx ⟨rfl, rfl⟩)
        | (go_at_call 30; (with_reducible refine (Q0.out _ _ (by with_reducible repeat (first | exact Below.refl _ _ | refine Below.drew ?_ | refine bstep ?_ (bnew _ _) | (refine bstep ?_ (by assumption)))) (by with_reducible repeat (first | assumption | refine IntsAt.undrewK ?_ | exact kit420 _ _ rfl | exact kit420 _ _ (by simp) | refine IntsAt.mono ?_ (bnew _ _) | (refine IntsAt.mono ?_ (by assumption))))).mono ?_); rintro e wc0 ⟨ao, cao, rfl, hl, hz, hB0⟩))
    all_goals (
      go_wp2
      go_meet
      exact ⟨_, _, rfl, rfl, rfl, (by with_reducible repeat (first | exact Below.refl _ _ | refine Below.drew ?_ | refine bstep ?_ (bnew _ _) | (refine bstep ?_ (by assumption))))⟩)
  obtain ⟨a11, c11, rfl, rfl, rfl, hB⟩ := hcut
  clear Q0 k0 k1 k2
  rename World => wd4
  as_aux_lemma =>
  have HC' := hid (HC.out.mono hB); have HD' := hid (HD.out.mono hB); have HB' := hid (bstep HB.out hB)
  have L10' := hid (L10.out.mono hB)
  clear HC HD HB L10 
  have HC := HC'; have HD := HD'; have HB := HB'
  have L10 := L10'
  clear HC' HD' HB' L10'
  clear hB
  have k0 := HC.out.k0; have k1 : wd4.cell? ⟨p1, 1, none⟩ = some (.slice (some ax) 2 2) := HC.out.k1; have k2 := HC.out.k2
  go_wp2_with fail
  refine (k_pSteps HC.out 1 0 [] u4).mono ?_
  rintro e x4 ⟨a13, c13, rfl, _, _, _, hB⟩
  have HC' := hid (HC.out.mono hB); have HD' := hid (HD.out.mono hB); have HB' := hid (bstep HB.out hB)
  have L10' := hid (L10.out.mono hB)
  clear HC HD HB L10 
  have HC := HC'; have HD := HD'; have HB := HB'
  have L10 := L10'
  clear HC' HD' HB' L10'
  clear k0 k1 k2 hB
  have k0 := HC.out.k0; have k1 : x4.cell? ⟨p1, 1, none⟩ = some (.slice (some ax) 2 2) := HC.out.k1; have k2 := HC.out.k2
  go_wp2_with fail
  refine (k_needed0 HC.out).mono ?_
  rintro e x5 ⟨a17, c17, rfl, hl, _, _, hB⟩
  have HC' := hid (HC.out.mono hB); have HD' := hid (HD.out.mono hB); have HB' := hid (bstep HB.out hB)
  have L10' := hid (L10.out.mono hB)
  clear HC HD HB L10 
  have HC := HC'; have HD := HD'; have HB := HB'
  have L10 := L10'
  clear HC' HD' HB' L10'
  have L17 := hid hl
  clear k0 k1 k2 hB hl
  as_aux_lemma =>
  have k0 := HC.out.k0; have k1 : x5.cell? ⟨p1, 1, none⟩ = some (.slice (some ax) 2 2) := HC.out.k1; have k2 := HC.out.k2
  go_wp2_with fail
  refine (k_wrongC HC.out).mono ?_
  rintro e x6 ⟨a18, c18, rfl, _, _, _, hB⟩
  have HC' := hid (HC.out.mono hB); have HD' := hid (HD.out.mono hB); have HB' := hid (bstep HB.out hB)
  have L10' := hid (L10.out.mono hB)
  have L17' := hid (L17.out.mono hB)
  clear HC HD HB L10 L17 
  have HC := HC'; have HD := HD'; have HB := HB'
  have L10 := L10'
  have L17 := L17'
  clear HC' HD' HB' L10' L17'
  clear k0 k1 k2 hB
  have k0 := HC.out.k0; have k1 : x6.cell? ⟨p1, 1, none⟩ = some (.slice (some ax) 2 2) := HC.out.k1; have k2 := HC.out.k2
  go_wp2_with fail
  refine (k_idle5 HC.out).mono ?_
  rintro e x7 ⟨rfl, hB⟩
  have HC' := hid (HC.out.mono hB); have HD' := hid (HD.out.mono hB); have HB' := hid (bstep HB.out hB)
  have L10' := hid (L10.out.mono hB)
  have L17' := hid (L17.out.mono hB)
  clear HC HD HB L10 L17 
  have HC := HC'; have HD := HD'; have HB := HB'
  have L10 := L10'
  have L17 := L17'
  clear HC' HD' HB' L10' L17'
  clear k0 k1 k2 hB
  have k0 := HC.out.k0; have k1 : x7.cell? ⟨p1, 1, none⟩ = some (.slice (some ax) 2 2) := HC.out.k1; have k2 := HC.out.k2
  go_wp2_with fail
  refine (k_stepsNil HC.out).mono ?_
  rintro e x8 ⟨a19, c19, rfl, hl, _, hB⟩
  have HC' := hid (HC.out.mono hB); have HD' := hid (HD.out.mono hB); have HB' := hid (bstep HB.out hB)
  have L10' := hid (L10.out.mono hB)
  have L17' := hid (L17.out.mono hB)
  clear HC HD HB L10 L17 
  have HC := HC'; have HD := HD'; have HB := HB'
  have L10 := L10'
  have L17 := L17'
  clear HC' HD' HB' L10' L17'
  have L19 := hid hl
  clear k0 k1 k2 hB hl
  go_wp2_with fail
  refine (of_c _ _ _ _).mono ?_
  rintro e wx ⟨rfl, rfl⟩
  have hbq := bnew x8 (.cells #[.int .i64 0, .int .i64 1, .int .i64 2, .int .i64 3] 3)
  have hlq := kit0123 x8 _ rfl
  have hxq := L10.out.mono hbq
  have HLQ := hid hlq; have HXQ := hid hxq; have HBQ := hid hbq
  clear hlq hxq hbq
  go_wp2_with fail
  refine (ints_c a10 _ _ _ [0, 1, 2, 3] [0, 1, 2, 3] _ HXQ.out HLQ.out (by decide) (by decide)).mono ?_
  rintro e x9 ⟨rfl, hB⟩
  have hBq := bstep HBQ.out hB
  have HC' := hid (HC.out.mono hBq); have HD' := hid (HD.out.mono hBq); have HB' := hid (bstep HB.out hBq)
  have L10' := hid (L10.out.mono hBq)
  have L17' := hid (L17.out.mono hBq)
  have L19' := hid (L19.out.mono hBq)
  clear HC HD HB L10 L17 L19 
  have HC := HC'; have HD := HD'; have HB := HB'
  have L10 := L10'
  have L17 := L17'
  have L19 := L19'
  clear HC' HD' HB' L10' L17' L19'
  clear hB hBq HLQ HXQ HBQ
  go_wp2_with fail
  refine (of_c _ _ _ _).mono ?_
  rintro e wx ⟨rfl, rfl⟩
  have hbq := bnew x9 (.cells #[.int .i64 0] 3)
  have hlq := kit0 x9 _ rfl
  have hxq := L17.out.mono hbq
  have HLQ := hid hlq; have HXQ := hid hxq; have HBQ := hid hbq
  clear hlq hxq hbq
  go_wp2_with fail
  refine (ints_c a17 _ _ _ [0] [0] _ HXQ.out HLQ.out (by decide) (by decide)).mono ?_
  rintro e x10 ⟨rfl, hB⟩
  have hBq := bstep HBQ.out hB
  have HC' := hid (HC.out.mono hBq); have HD' := hid (HD.out.mono hBq); have HB' := hid (bstep HB.out hBq)
  have L10' := hid (L10.out.mono hBq)
  have L17' := hid (L17.out.mono hBq)
  have L19' := hid (L19.out.mono hBq)
  clear HC HD HB L10 L17 L19 
  have HC := HC'; have HD := HD'; have HB := HB'
  have L10 := L10'
  have L17 := L17'
  have L19 := L19'
  clear HC' HD' HB' L10' L17' L19'
  clear hB hBq HLQ HXQ HBQ
  as_aux_lemma =>
  go_wp2_with fail
  refine (of_c _ _ _ _).mono ?_
  rintro e wx ⟨rfl, rfl⟩
  have hbq := bnew x10 (.cells #[.int .i64 0, .int .i64 1] 3)
  have hlq := kit01 x10 _ rfl
  have hxq := L19.out.mono hbq
  have HLQ := hid hlq; have HXQ := hid hxq; have HBQ := hid hbq
  clear hlq hxq hbq
  go_wp2_with fail
  refine (ints_c a19 _ _ _ [0, 1] [0, 1] _ HXQ.out HLQ.out (by decide) (by decide)).mono ?_
  rintro e x11 ⟨rfl, hB⟩
  have hBq := bstep HBQ.out hB
  have HC' := hid (HC.out.mono hBq); have HD' := hid (HD.out.mono hBq); have HB' := hid (bstep HB.out hBq)
  have L10' := hid (L10.out.mono hBq)
  have L17' := hid (L17.out.mono hBq)
  have L19' := hid (L19.out.mono hBq)
  clear HC HD HB L10 L17 L19 
  have HC := HC'; have HD := HD'; have HB := HB'
  have L10 := L10'
  have L17 := L17'
  have L19 := L19'
  clear HC' HD' HB' L10' L17' L19'
  clear hB hBq HLQ HXQ HBQ
  have k0 := HD.out.k0; have k1 : x11.cell? ⟨p2, 1, none⟩ = some (.slice (some ay) 3 3) := HD.out.k1; have k2 := HD.out.k2
  go_wp2_with fail
  refine (k_case HD.out).mono ?_
  rintro e x12 ⟨rfl, hB⟩
  have HC' := hid (HC.out.mono hB); have HD' := hid (HD.out.mono hB); have HB' := hid (bstep HB.out hB)
  have L10' := hid (L10.out.mono hB)
  have L17' := hid (L17.out.mono hB)
  have L19' := hid (L19.out.mono hB)
  clear HC HD HB L10 L17 L19 
  have HC := HC'; have HD := HD'; have HB := HB'
  have L10 := L10'
  have L17 := L17'
  have L19 := L19'
  clear HC' HD' HB' L10' L17' L19'
  clear k0 k1 k2 hB
  go_wp2_with fail
  refine (HW.out _).mono ?_
  rintro e xlast ⟨rfl, hB⟩
  have hBz := bstep HB.out hB
  clear hB
  go_wp2
  go_ret
  exact ⟨rfl, hBz⟩

end Go.Proofs.Ytkioejdddmnbmaa
