/- Walks: the law DrumKnown. -/
import Derived.Test.YtjnijhnphhpilaaLawA
namespace Go.Proofs.Ytjnijhnphhpilaa
open Go.RowKit Go.Shelf

theorem wk1 : proofCheck sRow 3 k2 = 3 := by decide +kernel
theorem wk2 : proofCheck sRow 2 [] = 14 := by decide +kernel
theorem wk3 : placesR k000 = 0 := by decide +kernel
theorem wk4 : checkRow k000 = 0 := by decide +kernel
theorem wk5 : checkDrum aF aF = 0 := by decide +kernel

theorem reI {f : Nat} {args : Array Value} {w : World} {n : Int} (m : Int) (hn : n = m) (h : Calls Try.prog f args w fun e w' => e = .returned (.int .i64 n) ∧ Below w.heap.size w w') :
    Calls Try.prog f args w fun e w' => e = .returned (.int .i64 m) ∧ Below w.heap.size w w' := hn ▸ h
theorem reII {f : Nat} {args : Array Value} {w : World} {n n' : Int} (m m' : Int) (hn : n = m) (hn' : n' = m') (h : Calls Try.prog f args w fun e w' => e = .returned (.tuple #[.int .i64 n, .int .i64 n']) ∧ Below w.heap.size w w') :
    Calls Try.prog f args w fun e w' => e = .returned (.tuple #[.int .i64 m, .int .i64 m']) ∧ Below w.heap.size w w' := hn ▸ hn' ▸ h

set_option maxRecDepth 100000 in
set_option maxHeartbeats 2000000 in
theorem known_law (w : World) : Calls Try.prog 14 #[] w (TrueP w) := by
  go_enter Try.func14, Try.ntmps14
  go_wp2_with fail
  refine (k_row w).mono ?_
  rintro e w1 ⟨ar, cr, rfl, hs1, hB1⟩
  have HI1 := hid ((Inv.nil w1).add hs1); have HB1 := hid hB1
  clear hs1 hB1
  go_wp2_with fail
  refine (k_one w1).mono ?_
  rintro e w2 ⟨aa1, aa2, ca1, ca2, rfl, hx1, hx2, hB⟩
  have HI2 := hid (((HI1.out.step hB).add hx1).add hx2); have HB2 := hid (bstep HB1.out hB)
  clear hx1 hx2 hB HI1 HB1
  have I := inv1 HI2.out (.slice aa1 aF.length ca1) (.slice aa2 aF.length ca2)
  have hB0 := bstep HB2.out (bnew w2 (.cells #[.slice aa1 aF.length ca1, .slice aa2 aF.length ca2] 24))
  go_wp2_with fail
  have hsz : w2.heap.size + 1 = (w2.alloc (.cells #[.slice aa1 aF.length ca1, .slice aa2 aF.length ca2] 24)).heap.size := by simp
  generalize hWW : w2.alloc (.cells #[.slice aa1 aF.length ca1, .slice aa2 aF.length ca2] 24) = w3 at I hB0 hsz ⊢
  obtain ⟨bA, hbb⟩ : ∃ b, b = w2.heap.size := ⟨_, rfl⟩
  rw [← hbb] at I hsz ⊢
  have HI3 := hid I; have HB3 := hid hB0; have HS := hid hsz
  clear I hB0 HI2 HB2 hWW hbb hsz
  refine (of_c _ _).mono ?_
  rintro e wx ⟨rfl, rfl⟩
  have HI4 := hid ((HI3.out.step (bnew w3 (.cells (k2.map (Value.int .i64)).toArray 3))).add (intsAt_new w3 k2 (bA + 1) 3 HS.out))
  have HB4 := hid (bstep HB3.out (bnew w3 (.cells (k2.map (Value.int .i64)).toArray 3)))
  clear HI3 HB3 HS
  go_wp2_with fail
  refine (reI 3 wk1 (checkProof_c ar (some ⟨bA + 1, 0, none⟩) cr 1 3 sRow k2 _ (HI4.out.atI (a := ar) (xs := sRow) 3 rfl) (HI4.out.atI (a := some ⟨bA + 1, 0, none⟩) (xs := k2) 0 rfl) (by decide) (by decide))).mono ?_
  rintro e w5 ⟨rfl, hB⟩
  have HI5 := hid (HI4.out.step hB); have HB5 := hid (bstep HB4.out hB)
  clear hB HI4 HB4
  go_wp2_with fail
  refine (reI 14 wk2 (checkProof_c ar none cr 0 2 sRow [] w5 (HI5.out.atI (a := ar) (xs := sRow) 3 rfl) (.inl rfl) (by decide) (by decide))).mono ?_
  rintro e w6 ⟨rfl, hB⟩
  have HI6 := hid (HI5.out.step hB); have HB6 := hid (bstep HB5.out hB)
  clear hB HI5 HB5
  go_wp2_with fail
  refine (of_c _ _).mono ?_
  rintro e wx ⟨rfl, rfl⟩
  have HI7 := hid ((HI6.out.step (bnew w6 (.cells (k000.map (Value.int .i64)).toArray 3))).add (intsAt_new w6 k000 _ 3 rfl))
  have HB7 := hid (bstep HB6.out (bnew w6 (.cells (k000.map (Value.int .i64)).toArray 3)))
  clear HI6 HB6
  go_wp2_with fail
  refine (reII 0 0 wk3 wk4 (places_c (some ⟨w6.heap.size, 0, none⟩) 3 k000 _ (HI7.out.atI (a := some ⟨w6.heap.size, 0, none⟩) (xs := k000) 0 rfl) (by decide))).mono ?_
  rintro e w8 ⟨rfl, hB⟩
  have HI8 := hid (HI7.out.step hB); have HB8 := hid (bstep HB7.out hB)
  clear hB HI7 HB7
  have cA0 := HI8.out.ceI (b := bA) (k := 0) (v := .slice aa1 aF.length ca1) 0 rfl
  have cA1 := HI8.out.ceI (b := bA) (k := 1) (v := .slice aa2 aF.length ca2) 1 rfl
  go_wp2_with fail
  refine (k_round3 (HI8.out.atI (a := aa1) (xs := aF) 3 rfl) (HI8.out.atI (a := aa2) (xs := aF) 2 rfl)).mono ?_
  rintro e w9 ⟨rfl, hB⟩
  have cA0 := cstep cA0 hB
  have cA1 := cstep cA1 hB
  have HI9 := hid (HI8.out.step hB); have HB9 := hid (bstep HB8.out hB)
  clear hB HI8 HB8
  go_wp2_with fail
  refine (reI 0 wv5 (checkRow_c ar cr sRow w9 (HI9.out.atI (a := ar) (xs := sRow) 4 rfl) (by decide))).mono ?_
  rintro e w10 ⟨rfl, hB⟩
  have cA0 := cstep cA0 hB
  have cA1 := cstep cA1 hB
  have HI10 := hid (HI9.out.step hB); have HB10 := hid (bstep HB9.out hB)
  clear hB HI9 HB9
  go_wp2_with fail
  refine (reI 0 wk5 (checkDrum_c aa1 aa2 ca1 ca2 aF aF w10 (HI10.out.atI (a := aa1) (xs := aF) 3 rfl) (HI10.out.atI (a := aa2) (xs := aF) 2 rfl) (by decide) (by decide))).mono ?_
  rintro e w11 ⟨rfl, hB⟩
  have HB11 := hid (bstep HB10.out hB)
  clear hB HI10 HB10
  go_wp2_with fail
  refine (works_c w11).mono ?_
  rintro e w12 ⟨rfl, hB⟩
  have HB12 := hid (bstep HB11.out hB)
  clear hB
  go_wp2
  go_ret
  exact ⟨rfl, HB12.out⟩

end Go.Proofs.Ytjnijhnphhpilaa
