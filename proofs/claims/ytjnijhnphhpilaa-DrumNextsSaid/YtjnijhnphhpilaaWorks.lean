/- Walks: Works. -/
import Derived.Test.YtjnijhnphhpilaaWvc
import Derived.Deep.RegionHeld3
import Derived.Outline
namespace Go.Proofs.Ytjnijhnphhpilaa
open Go.RowKit Go.Shelf

/-- lists and cells that a world keeps -/
structure Inv (w : World) (L : List (Option Addr × List Int)) (C : List (Nat × Nat × Value)) : Prop where
  sl : ∀ p ∈ L, IntsAt w p.1 p.2
  cl : ∀ q ∈ C, w.cell? ⟨q.1, q.2.1, none⟩ = some q.2.2

section
variable {w : World} {L : List (Option Addr × List Int)} {C : List (Nat × Nat × Value)}
theorem Inv.step {w' : World} (h : Inv w L C) (hB : Below w.heap.size w w') : Inv w' L C :=
  ⟨fun p hp => (h.sl p hp).mono hB, fun q hq => cstep (h.cl q hq) hB⟩
theorem Inv.add (h : Inv w L C) {v : Option Addr} {xs : List Int} (hs : IntsAt w v xs) : Inv w ((v, xs) :: L) C :=
  ⟨fun p hp => (List.mem_cons.1 hp).elim (fun e => by subst e; exact hs) (h.sl p), h.cl⟩
theorem Inv.addC (h : Inv w L C) {b k : Nat} {v : Value} (hs : w.cell? ⟨b, k, none⟩ = some v) : Inv w L ((b, k, v) :: C) :=
  ⟨h.sl, fun p hp => (List.mem_cons.1 hp).elim (fun e => by subst e; exact hs) (h.cl p)⟩
theorem Inv.nil (w : World) : Inv w [] [] := ⟨fun _ h => (by cases h), fun _ h => (by cases h)⟩
theorem Inv.at (h : Inv w L C) {a : Option Addr} {xs : List Int} (hm : (a, xs) ∈ L) : IntsAt w a xs := h.sl _ hm
theorem Inv.atI (h : Inv w L C) {a : Option Addr} {xs : List Int} (i : Nat) (hm : L[i]? = some (a, xs)) : IntsAt w a xs := h.sl _ (List.mem_of_getElem? hm)
theorem Inv.ceI (h : Inv w L C) {b k : Nat} {v : Value} (i : Nat) (hm : C[i]? = some (b, k, v)) : w.cell? ⟨b, k, none⟩ = some v := h.cl _ (List.mem_of_getElem? hm)
theorem Inv.ce (h : Inv w L C) {b k : Nat} {v : Value} (hm : (b, k, v) ∈ C) : w.cell? ⟨b, k, none⟩ = some v := h.cl _ hm
end

theorem bnew (w : World) (o : Obj) : Below w.heap.size w (w.alloc o) := (Below.refl _ _).alloc (Nat.le_refl _) _

theorem inv3 {w : World} {L : List (Option Addr × List Int)} {C : List (Nat × Nat × Value)} (h : Inv w L C) (x1 x2 x3 x4 x5 x6 : Value) :
    Inv (((w.alloc (.cells #[x1, x2] 24)).alloc (.cells #[x3, x4] 24)).alloc (.cells #[x5, x6] 24)) L
      ((w.heap.size, 0, x1) :: (w.heap.size, 1, x2) :: (w.heap.size + 1, 0, x3) :: (w.heap.size + 1, 1, x4) :: (w.heap.size + 1 + 1, 0, x5) :: (w.heap.size + 1 + 1, 1, x6) :: C) := by
  have h3 := ((h.step (bnew w (.cells #[x1, x2] 24))).step (bnew _ (.cells #[x3, x4] 24))).step (bnew _ (.cells #[x5, x6] 24))
  refine (((((h3.addC ?_).addC ?_).addC ?_).addC ?_).addC ?_).addC ?_ <;> simp [go_sem]

theorem inv1 {w : World} {L : List (Option Addr × List Int)} {C : List (Nat × Nat × Value)} (h : Inv w L C) (x1 x2 : Value) :
    Inv (w.alloc (.cells #[x1, x2] 24)) L ((w.heap.size, 0, x1) :: (w.heap.size, 1, x2) :: C) := by
  have h3 := h.step (bnew w (.cells #[x1, x2] 24))
  refine (h3.addC ?_).addC ?_ <;> simp [go_sem]

theorem below3 {B : Nat} {w : World} (hb : B ≤ w.heap.size) (o1 o2 o3 : Obj) : Below B w (((w.alloc o1).alloc o2).alloc o3) :=
  (((Below.refl _ _).alloc hb _).alloc (by simp; omega) _).alloc (by simp; omega) _

/-- an int is handed back; the world grows out of an earlier one -/
def BackI (w0 : World) (n : Int) (e : Ending) (w' : World) : Prop := e = .returned (.int .i64 n) ∧ Below w0.heap.size w0 w'
theorem BackI.of {w0 w w' : World} {n : Int} {e : Ending} (h : e = .returned (.int .i64 n) ∧ Below w.heap.size w w') (hb : Below w0.heap.size w0 w) : BackI w0 n e w' := ⟨h.1, bstep hb h.2⟩

def BackT (w0 : World) (e : Ending) (w' : World) : Prop := e = .returned (.bool true) ∧ Below w0.heap.size w0 w'
theorem BackT.of {w0 w w' : World} {e : Ending} (h : e = .returned (.bool true) ∧ Below w.heap.size w w') (hb : Below w0.heap.size w0 w) : BackT w0 e w' := ⟨h.1, bstep hb h.2⟩

/-- a drum is handed back; the world grows out of an earlier one -/
def RetD0 (w0 : World) (f g : List Int) (e : Ending) (w' : World) : Prop :=
  ∃ a1 a2 c1 c2, e = .returned (.agg #[.slice a1 f.length c1, .slice a2 g.length c2]) ∧ IntsAt w' a1 f ∧ IntsAt w' a2 g ∧ Below w0.heap.size w0 w'
theorem RetD0.of {w0 w w' : World} {f g : List Int} {e : Ending} (hb : Below w0.heap.size w0 w) (h : RetD w f g e w') : RetD0 w0 f g e w' := by
  obtain ⟨a1, a2, c1, c2, he, h1, h2, hB⟩ := h
  exact ⟨a1, a2, c1, c2, he, h1, h2, bstep hb hB⟩

theorem two4 (W : World) : IntsAt ((W.alloc (.cells #[.int .i64 1, .int .i64 1, .int .i64 0, .int .i64 1] 3)).alloc (.cells #[.int .i64 1, .int .i64 1, .int .i64 0, .int .i64 1] 3)) (some ⟨W.heap.size, 0, none⟩) l4 ∧
    IntsAt ((W.alloc (.cells #[.int .i64 1, .int .i64 1, .int .i64 0, .int .i64 1] 3)).alloc (.cells #[.int .i64 1, .int .i64 1, .int .i64 0, .int .i64 1] 3)) (some ⟨W.heap.size + 1, 0, none⟩) l4 :=
  ⟨(intsAt_new W l4 W.heap.size 3 rfl).mono (bnew _ _), intsAt_new (W.alloc (.cells #[.int .i64 1, .int .i64 1, .int .i64 0, .int .i64 1] 3)) l4 (W.heap.size + 1) 3 (by simp)⟩

theorem k_shiftA (W w0 : World) (hb : Below w0.heap.size w0 W) : Calls Try.prog 56 #[.slice (some ⟨W.heap.size, 0, none⟩) 4 4, .slice (some ⟨W.heap.size + 1, 0, none⟩) 4 4]
    ((W.alloc (.cells #[.int .i64 1, .int .i64 1, .int .i64 0, .int .i64 1] 3)).alloc (.cells #[.int .i64 1, .int .i64 1, .int .i64 0, .int .i64 1] 3)) (RetD0 w0 l4 l4) :=
  (k_shift (two4 W).1 (two4 W).2 (by simp) (by simp)).mono fun _ _ h => RetD0.of (bstep hb (bstep (bnew W _) (bnew _ _))) h
theorem k_shiftB (W w0 : World) (hb : Below w0.heap.size w0 W) : Calls Try.prog 56 #[.slice (some ⟨W.heap.size + 1, 0, none⟩) 4 4, .slice (some ⟨W.heap.size, 0, none⟩) 4 4]
    ((W.alloc (.cells #[.int .i64 1, .int .i64 1, .int .i64 0, .int .i64 1] 3)).alloc (.cells #[.int .i64 1, .int .i64 1, .int .i64 0, .int .i64 1] 3)) (RetD0 w0 l4 l4) :=
  (k_shift (two4 W).2 (two4 W).1 (by simp) (by simp)).mono fun _ _ h => RetD0.of (bstep hb (bstep (bnew W _) (bnew _ _))) h

set_option maxRecDepth 100000 in
set_option maxHeartbeats 4000000 in
theorem works_c (w : World) : Calls Try.prog 17 #[] w fun e w' => e = .returned (.bool true) ∧ Below w.heap.size w w' := by
  go_enter Try.func17, Try.ntmps17
  go_wp2_with fail
  refine (k_row w).mono ?_
  rintro e w1 ⟨ar, cr, rfl, hs1, hB1⟩
  have I := (Inv.nil w1).add hs1
  have HI := hid I; have HB := hid hB1
  clear hs1 hB1 I
  go_wp2_with fail
  refine (k_three w1).mono ?_
  rintro e w2 ⟨ad1, ad2, cd1, cd2, rfl, hx1, hx2, hB2⟩
  have I := ((HI.out.step hB2).add hx1).add hx2
  have HI2 := hid I; have HB2 := hid (bstep HB.out hB2)
  clear hx1 hx2 hB2 I HI HB
  go_wp2_with fail
  refine (k_one w2).mono ?_
  rintro e w3 ⟨aa1, aa2, ca1, ca2, rfl, hx1, hx2, hB2⟩
  have I := ((HI2.out.step hB2).add hx1).add hx2
  have HI := hid I; have HB := hid (bstep HB2.out hB2)
  clear hx1 hx2 hB2 I HI2 HB2
  go_wp2_with fail
  refine (k_late w3).mono ?_
  rintro e w4 ⟨ae1, ae2, ce1, ce2, rfl, hx1, hx2, hB2⟩
  have I := ((HI.out.step hB2).add hx1).add hx2
  have HI2 := hid I; have HB2 := hid (bstep HB.out hB2)
  clear hx1 hx2 hB2 I HI HB
  -- GEN
  have I := inv3 HI2.out (.slice ad1 dF.length cd1) (.slice ad2 dG.length cd2) (.slice aa1 aF.length ca1) (.slice aa2 aF.length ca2) (.slice ae1 eF.length ce1) (.slice ae2 eG.length ce2)
  have hB0 := HB2.out.trans (below3 (w := w4) (HB2.out.size) (.cells #[.slice ad1 dF.length cd1, .slice ad2 dG.length cd2] 24) (.cells #[.slice aa1 aF.length ca1, .slice aa2 aF.length ca2] 24) (.cells #[.slice ae1 eF.length ce1, .slice ae2 eG.length ce2] 24))
  go_wp2_with fail
  generalize hW5 : ((w4.alloc (.cells #[.slice ad1 dF.length cd1, .slice ad2 dG.length cd2] 24)).alloc (.cells #[.slice aa1 aF.length ca1, .slice aa2 aF.length ca2] 24)).alloc (.cells #[.slice ae1 eF.length ce1, .slice ae2 eG.length ce2] 24) = w5 at I hB0 ⊢
  obtain ⟨bD, hbD⟩ : ∃ bD, bD = w4.heap.size := ⟨_, rfl⟩
  obtain ⟨bA, hbA⟩ : ∃ bA, bA = w4.heap.size + 1 := ⟨_, rfl⟩
  obtain ⟨bE, hbE⟩ : ∃ bE, bE = w4.heap.size + 1 + 1 := ⟨_, rfl⟩
  rw [← hbE, ← hbA, ← hbD] at I
  rw [← hbE, ← hbA, ← hbD]
  have HI5 := hid I; have HB5 := hid hB0
  clear I hB0 HI2 HB2 hW5 hbD hbA hbE
  refine (k_run10 (HI5.out.atI (a := ad1) (xs := dF) 5 rfl) (HI5.out.atI (a := ad2) (xs := dG) 4 rfl)).mono ?_
  rintro e w6 ⟨al, cl, rfl, hl, hB⟩
  have HI6 := hid ((HI5.out.step hB).add hl); have HB6 := hid (bstep HB5.out hB)
  clear hB HI5 HB5 hl
  have cellbD0 := HI6.out.ceI (b := bD) (k := 0) (v := .slice ad1 dF.length cd1) 0 rfl
  have cellbD1 := HI6.out.ceI (b := bD) (k := 1) (v := .slice ad2 dG.length cd2) 1 rfl
  go_wp2_with fail
  refine (k_run101 (HI6.out.atI (a := ad1) (xs := dF) 6 rfl) (HI6.out.atI (a := ad2) (xs := dG) 5 rfl)).mono ?_
  rintro e w7 ⟨al2, cl2, rfl, hl, hB⟩
  have HI7 := hid ((HI6.out.step hB).add hl); have HB7 := hid (bstep HB6.out hB)
  clear hB HI6 HB6 hl cellbD0 cellbD1
  have cellbD0 := HI7.out.ceI (b := bD) (k := 0) (v := .slice ad1 dF.length cd1) 0 rfl
  have cellbD1 := HI7.out.ceI (b := bD) (k := 1) (v := .slice ad2 dG.length cd2) 1 rfl
  have cellbA0 := HI7.out.ceI (b := bA) (k := 0) (v := .slice aa1 aF.length ca1) 2 rfl
  have cellbA1 := HI7.out.ceI (b := bA) (k := 1) (v := .slice aa2 aF.length ca2) 3 rfl
  have HM1 := hid fun (w' : World) (hb : Below w7.heap.size w7 w') => (k_makes1 (w := w') (a1 := ad1) (a2 := ad2) (a3 := ar) (c1 := cd1) (c2 := cd2) (c3 := cr) ((HI7.out.atI (a := ad1) (xs := dF) 7 rfl).mono hb) ((HI7.out.atI (a := ad2) (xs := dG) 6 rfl).mono hb) ((HI7.out.atI (a := ar) (xs := sRow) 8 rfl).mono hb)).mono (fun _ _ h => BackI.of h hb)
  have HM2 := hid fun (w' : World) (hb : Below w7.heap.size w7 w') => (k_makes2 (w := w') (a1 := aa1) (a2 := aa2) (a3 := ar) (c1 := ca1) (c2 := ca2) (c3 := cr) ((HI7.out.atI (a := aa1) (xs := aF) 5 rfl).mono hb) ((HI7.out.atI (a := aa2) (xs := aF) 4 rfl).mono hb) ((HI7.out.atI (a := ar) (xs := sRow) 8 rfl).mono hb)).mono (fun _ _ h => BackI.of h hb)
  go_wp2_with fail
  go_region_held3 (fun w' => w'.cell? ⟨bD, 0, none⟩ = some (.slice ad1 dF.length cd1) ∧ w'.cell? ⟨bD, 1, none⟩ = some (.slice ad2 dG.length cd2) ∧ w'.cell? ⟨bA, 0, none⟩ = some (.slice aa1 aF.length ca1) ∧ w'.cell? ⟨bA, 1, none⟩ = some (.slice aa2 aF.length ca2))
    (first | go_keep | exact ⟨cstep cellbD0 hBm1, cstep cellbD1 hBm1, cstep cellbA0 hBm1, cstep cellbA1 hBm1⟩ | exact ⟨cstep cellbD0 hBm2, cstep cellbD1 hBm2, cstep cellbA0 hBm2, cstep cellbA1 hBm2⟩)
    (first
      | (go_at_call 25; ((with_reducible refine (HM1.out _ (by first | exact Below.refl _ _ | exact (Below.refl _ _).drew)).mono ?_)); rintro e wm1 ⟨rfl, hBm1⟩)
      | (go_at_call 25; ((with_reducible refine (HM2.out _ (by first | exact hBm1 | exact hBm1.drew)).mono ?_)); rintro e wm2 ⟨rfl, hBm2⟩))
  have HI8 := hid (HI7.out.step hBm2); have HB8 := hid (bstep HB7.out hBm2)
  obtain ⟨w8, hww⟩ : ∃ W, W = wm2 := ⟨_, rfl⟩
  subst hww
  clear hBm1 hBm2 HM1 HM2 HI7 HB7 cellbD0 cellbD1 cellbA0 cellbA1
  go_wp2_with fail
  refine (k_places (HI8.out.atI (a := ar) (xs := sRow) 8 rfl)).mono ?_
  rintro e w9 ⟨rfl, hB⟩
  have HI9 := hid (HI8.out.step hB); have HB9 := hid (bstep HB8.out hB)
  clear hB HI8 HB8 
  go_wp2_with fail
  refine (k_profile (HI9.out.atI (a := ar) (xs := sRow) 8 rfl)).mono ?_
  rintro e w10 ⟨al3, cl3, rfl, hl, hB⟩
  have HI10 := hid ((HI9.out.step hB).add hl); have HB10 := hid (bstep HB9.out hB)
  clear hB HI9 HB9 hl
  go_wp2_with fail
  refine (k_shortest (HI10.out.atI (a := ar) (xs := sRow) 9 rfl)).mono ?_
  rintro e w11 ⟨ah1, ah2, ch1, ch2, rfl, hl, hl2, hB⟩
  have HI11 := hid (((HI10.out.step hB).add hl).add hl2); have HB11 := hid (bstep HB10.out hB)
  clear hB HI10 HB10 hl hl2
  have I := inv1 HI11.out (.slice ah1 dF.length ch1) (.slice ah2 dG.length ch2)
  have hB0 := bstep HB11.out (bnew w11 (.cells #[.slice ah1 dF.length ch1, .slice ah2 dG.length ch2] 24))
  go_wp2_with fail
  generalize hWW : w11.alloc (.cells #[.slice ah1 dF.length ch1, .slice ah2 dG.length ch2] 24) = w12 at I hB0 ⊢
  obtain ⟨bH, hbb⟩ : ∃ b, b = w11.heap.size := ⟨_, rfl⟩
  rw [← hbb] at I ⊢
  have HSbH := hid (show bH + 1 = w12.heap.size from by rw [hbb, ← hWW]; simp)
  have HI12 := hid I; have HB12 := hid hB0
  clear I hB0 HI11 HB11 hWW hbb
  refine (k_count1 (HI12.out.atI (a := ar) (xs := sRow) 11 rfl)).mono ?_
  rintro e w13 ⟨rfl, hB⟩
  have HI13 := hid (HI12.out.step hB); have HB13 := hid (bstep HB12.out hB)
  clear hB HI12 HB12 
  go_wp2_with fail
  refine (of_c _ _).mono ?_
  rintro e wx ⟨rfl, rfl⟩
  have I := (HI13.out.step (bnew w13 (.cells ((sShort).map (Value.int .i64)).toArray 3))).add (intsAt_new w13 sShort _ 3 rfl)
  have hB0 := bstep HB13.out (bnew w13 (.cells ((sShort).map (Value.int .i64)).toArray 3))
  have HI14 := hid I; have HB14 := hid hB0
  clear I hB0 HI13 HB13
  go_wp2_with fail
  refine (k_count2  (HI14.out.atI (a := some ⟨w13.heap.size, 0, none⟩) (xs := sShort) 0 rfl)).mono ?_
  rintro e w15 ⟨rfl, hB⟩
  have HI15 := hid (HI14.out.step hB); have HB15 := hid (bstep HB14.out hB)
  clear hB HI14 HB14 
  go_wp2_with fail
  refine (k_next1 (HI15.out.atI (a := ar) (xs := sRow) 12 rfl)).mono ?_
  rintro e w16 ⟨al4, cl4, rfl, hl, hB⟩
  have HI16 := hid ((HI15.out.step hB).add hl); have HB16 := hid (bstep HB15.out hB)
  clear hB HI15 HB15 hl
  go_wp2_with fail
  refine (of_c _ _).mono ?_
  rintro e wx ⟨rfl, rfl⟩
  have I := (HI16.out.step (bnew w16 (.cells ((sShort).map (Value.int .i64)).toArray 3))).add (intsAt_new w16 sShort _ 3 rfl)
  have hB0 := bstep HB16.out (bnew w16 (.cells ((sShort).map (Value.int .i64)).toArray 3))
  have HI17 := hid I; have HB17 := hid hB0
  clear I hB0 HI16 HB16
  go_wp2_with fail
  refine (k_next2  (HI17.out.atI (a := some ⟨w16.heap.size, 0, none⟩) (xs := sShort) 0 rfl)).mono ?_
  rintro e w18 ⟨al5, cl5, rfl, hl, hB⟩
  have HI18 := hid ((HI17.out.step hB).add hl); have HB18 := hid (bstep HB17.out hB)
  clear hB HI17 HB17 hl
  go_wp2_with fail
  refine (of_c _ _).mono ?_
  rintro e wx ⟨rfl, rfl⟩
  have I := (HI18.out.step (bnew w18 (.cells ((k2).map (Value.int .i64)).toArray 3))).add (intsAt_new w18 k2 _ 3 rfl)
  have hB0 := bstep HB18.out (bnew w18 (.cells ((k2).map (Value.int .i64)).toArray 3))
  have HI19 := hid I; have HB19 := hid hB0
  clear I hB0 HI18 HB18
  go_wp2_with fail
  refine (k_check1 (HI19.out.atI (a := ar) (xs := sRow) 16 rfl) (HI19.out.atI (a := some ⟨w18.heap.size, 0, none⟩) (xs := k2) 0 rfl)).mono ?_
  rintro e w20 ⟨rfl, hB⟩
  have HI20 := hid (HI19.out.step hB); have HB20 := hid (bstep HB19.out hB)
  clear hB HI19 HB19 
  go_wp2_with fail
  refine (of_c _ _).mono ?_
  rintro e wx ⟨rfl, rfl⟩
  have I := (HI20.out.step (bnew w20 (.cells ((k3).map (Value.int .i64)).toArray 3))).add (intsAt_new w20 k3 _ 3 rfl)
  have hB0 := bstep HB20.out (bnew w20 (.cells ((k3).map (Value.int .i64)).toArray 3))
  have HI21 := hid I; have HB21 := hid hB0
  clear I hB0 HI20 HB20
  go_wp2_with fail
  refine (k_check2 (HI21.out.atI (a := ar) (xs := sRow) 17 rfl) (HI21.out.atI (a := some ⟨w20.heap.size, 0, none⟩) (xs := k3) 0 rfl)).mono ?_
  rintro e w22 ⟨rfl, hB⟩
  have HI22 := hid (HI21.out.step hB); have HB22 := hid (bstep HB21.out hB)
  clear hB HI21 HB21 
  go_wp2_with fail
  refine (k_proof1 (HI22.out.atI (a := ar) (xs := sRow) 17 rfl)).mono ?_
  rintro e w23 ⟨al6, cl6, rfl, hl, hB⟩
  have HI23 := hid ((HI22.out.step hB).add hl); have HB23 := hid (bstep HB22.out hB)
  clear hB HI22 HB22 hl
  go_wp2_with fail
  refine (of_c _ _).mono ?_
  rintro e wx ⟨rfl, rfl⟩
  have I := (HI23.out.step (bnew w23 (.cells ((k000).map (Value.int .i64)).toArray 3))).add (intsAt_new w23 k000 _ 3 rfl)
  have hB0 := bstep HB23.out (bnew w23 (.cells ((k000).map (Value.int .i64)).toArray 3))
  have HI24 := hid I; have HB24 := hid hB0
  clear I hB0 HI23 HB23
  go_wp2_with fail
  refine (k_proof2  (HI24.out.atI (a := some ⟨w23.heap.size, 0, none⟩) (xs := k000) 0 rfl)).mono ?_
  rintro e w25 ⟨al7, cl7, rfl, hl, hB⟩
  have HI25 := hid ((HI24.out.step hB).add hl); have HB25 := hid (bstep HB24.out hB)
  clear hB HI24 HB24 hl
  have cellbD0 := HI25.out.ceI (b := bD) (k := 0) (v := .slice ad1 dF.length cd1) 2 rfl
  have cellbD1 := HI25.out.ceI (b := bD) (k := 1) (v := .slice ad2 dG.length cd2) 3 rfl
  go_wp2_with fail
  refine (k_round1 (HI25.out.atI (a := ad1) (xs := dF) 19 rfl) (HI25.out.atI (a := ad2) (xs := dG) 18 rfl)).mono ?_
  rintro e w26 ⟨rfl, hB⟩
  have HI26 := hid (HI25.out.step hB); have HB26 := hid (bstep HB25.out hB)
  clear hB HI25 HB25 cellbD0 cellbD1
  have cellbE0 := HI26.out.ceI (b := bE) (k := 0) (v := .slice ae1 eF.length ce1) 6 rfl
  have cellbE1 := HI26.out.ceI (b := bE) (k := 1) (v := .slice ae2 eG.length ce2) 7 rfl
  go_wp2_with fail
  refine (k_round2 (HI26.out.atI (a := ae1) (xs := eF) 15 rfl) (HI26.out.atI (a := ae2) (xs := eG) 14 rfl)).mono ?_
  rintro e w27 ⟨rfl, hB⟩
  have HI27 := hid (HI26.out.step hB); have HB27 := hid (bstep HB26.out hB)
  clear hB HI26 HB26 cellbE0 cellbE1
  have cellbA0 := HI27.out.ceI (b := bA) (k := 0) (v := .slice aa1 aF.length ca1) 4 rfl
  have cellbA1 := HI27.out.ceI (b := bA) (k := 1) (v := .slice aa2 aF.length ca2) 5 rfl
  have cellbD0 := HI27.out.ceI (b := bD) (k := 0) (v := .slice ad1 dF.length cd1) 2 rfl
  have cellbD1 := HI27.out.ceI (b := bD) (k := 1) (v := .slice ad2 dG.length cd2) 3 rfl
  go_wp2_with fail
  refine (k_together (HI27.out.atI (a := aa1) (xs := aF) 17 rfl) (HI27.out.atI (a := aa2) (xs := aF) 16 rfl) (HI27.out.atI (a := ad1) (xs := dF) 19 rfl) (HI27.out.atI (a := ad2) (xs := dG) 18 rfl)).mono ?_
  rintro e w28 ⟨at1, at2, ct1, ct2, rfl, hl, hl2, hB⟩
  have HI28 := hid (((HI27.out.step hB).add hl).add hl2); have HB28 := hid (bstep HB27.out hB)
  clear hB HI27 HB27 hl hl2 cellbA0 cellbA1 cellbD0 cellbD1
  have I := inv1 HI28.out (.slice at1 l4.length ct1) (.slice at2 l4.length ct2)
  have hB0 := bstep HB28.out (bnew w28 (.cells #[.slice at1 l4.length ct1, .slice at2 l4.length ct2] 24))
  go_wp2_with fail
  generalize hWW : w28.alloc (.cells #[.slice at1 l4.length ct1, .slice at2 l4.length ct2] 24) = w29 at I hB0 ⊢
  obtain ⟨bT, hbb⟩ : ∃ b, b = w28.heap.size := ⟨_, rfl⟩
  rw [← hbb] at I ⊢
  have HSbT := hid (show bT + 1 = w29.heap.size from by rw [hbb, ← hWW]; simp)
  have HI29 := hid I; have HB29 := hid hB0
  clear I hB0 HI28 HB28 hWW hbb
  refine (of_c _ _).mono ?_
  rintro e wx ⟨rfl, rfl⟩
  have I := (HI29.out.step (bnew w29 (.cells ((l10).map (Value.int .i64)).toArray 3))).add (intsAt_new w29 l10 (bT + 1) 3 HSbT.out)
  have hB0 := bstep HB29.out (bnew w29 (.cells ((l10).map (Value.int .i64)).toArray 3))
  have HI30 := hid I; have HB30 := hid hB0
  clear I hB0 HI29 HB29
  go_wp2_with fail
  refine (k_ints (a1 := al) (xs := l10) rfl (by decide) (HI30.out.atI (a := al) (xs := l10) 16 rfl) (HI30.out.atI (a := some ⟨bT + 1, 0, none⟩) (xs := l10) 0 rfl)).mono ?_
  rintro e w31 ⟨rfl, hB⟩
  have HI31 := hid (HI30.out.step hB); have HB31 := hid (bstep HB30.out hB)
  clear hB HI30 HB30
  go_wp2_with fail
  refine (of_c _ _).mono ?_
  rintro e wx ⟨rfl, rfl⟩
  have I := (HI31.out.step (bnew w31 (.cells ((l8).map (Value.int .i64)).toArray 3))).add (intsAt_new w31 l8 (w31.heap.size) 3 rfl)
  have hB0 := bstep HB31.out (bnew w31 (.cells ((l8).map (Value.int .i64)).toArray 3))
  have HI32 := hid I; have HB32 := hid hB0
  clear I hB0 HI31 HB31
  go_wp2_with fail
  refine (k_ints (a1 := al3) (xs := l8) rfl (by decide) (HI32.out.atI (a := al3) (xs := l8) 15 rfl) (HI32.out.atI (a := some ⟨w31.heap.size, 0, none⟩) (xs := l8) 0 rfl)).mono ?_
  rintro e w33 ⟨rfl, hB⟩
  have HI33 := hid (HI32.out.step hB); have HB33 := hid (bstep HB32.out hB)
  clear hB HI32 HB32
  have cellbH0 := HI33.out.ceI (b := bH) (k := 0) (v := .slice ah1 dF.length ch1) 2 rfl
  have cellbH1 := HI33.out.ceI (b := bH) (k := 1) (v := .slice ah2 dG.length ch2) 3 rfl
  have cellbD0 := HI33.out.ceI (b := bD) (k := 0) (v := .slice ad1 dF.length cd1) 4 rfl
  have cellbD1 := HI33.out.ceI (b := bD) (k := 1) (v := .slice ad2 dG.length cd2) 5 rfl
  go_wp2_with fail
  refine (k_same (f := dF) (g := dG) (by decide) (by decide) (HI33.out.atI (a := ah1) (xs := dF) 14 rfl) (HI33.out.atI (a := ah2) (xs := dG) 13 rfl) (HI33.out.atI (a := ad1) (xs := dF) 23 rfl) (HI33.out.atI (a := ad2) (xs := dG) 22 rfl)).mono ?_
  rintro e w34 ⟨rfl, hB⟩
  have HI34 := hid (HI33.out.step hB); have HB34 := hid (bstep HB33.out hB)
  clear hB HI33 HB33 cellbH0 cellbH1 cellbD0 cellbD1
  go_wp2_with fail
  refine (of_c _ _).mono ?_
  rintro e wx ⟨rfl, rfl⟩
  have I := (HI34.out.step (bnew w34 (.cells ((l3).map (Value.int .i64)).toArray 3))).add (intsAt_new w34 l3 (w34.heap.size) 3 rfl)
  have hB0 := bstep HB34.out (bnew w34 (.cells ((l3).map (Value.int .i64)).toArray 3))
  have HI35 := hid I; have HB35 := hid hB0
  clear I hB0 HI34 HB34
  go_wp2_with fail
  refine (k_ints (a1 := al4) (xs := l3) rfl (by decide) (HI35.out.atI (a := al4) (xs := l3) 12 rfl) (HI35.out.atI (a := some ⟨w34.heap.size, 0, none⟩) (xs := l3) 0 rfl)).mono ?_
  rintro e w36 ⟨rfl, hB⟩
  have HI36 := hid (HI35.out.step hB); have HB36 := hid (bstep HB35.out hB)
  clear hB HI35 HB35
  have cellbT0 := HI36.out.ceI (b := bT) (k := 0) (v := .slice at1 l4.length ct1) 0 rfl
  have cellbT1 := HI36.out.ceI (b := bT) (k := 1) (v := .slice at2 l4.length ct2) 1 rfl
  have QC := hid fun (w' : World) (hb : Below w36.heap.size w36 w') => (k_rCheck (w := w') (a1 := ar) (a2 := al6) (c1 := cr) (c2 := cl6) ((HI36.out.atI (a := ar) (xs := sRow) 25 rfl).mono hb) ((HI36.out.atI (a := al6) (xs := sProof) 7 rfl).mono hb)).mono (fun _ _ h => BackI.of h hb)
  have QS := hid fun (w' : World) (hb : Below w36.heap.size w36 w') (x1 x2 : Option Addr) (d1 d2 : Nat) (h1 : IntsAt w' x1 l4) (h2 : IntsAt w' x2 l4) => (k_same (f := l4) (g := l4) (w := w') (a1 := at1) (a2 := at2) (c1 := ct1) (c2 := ct2) (a3 := x1) (a4 := x2) (c3 := d1) (c4 := d2) (by decide) (by decide) ((HI36.out.atI (a := at1) (xs := l4) 4 rfl).mono hb) ((HI36.out.atI (a := at2) (xs := l4) 3 rfl).mono hb) h1 h2).mono (fun _ _ h => BackT.of h hb)
  go_wp2_with fail
  go_region_held3 (fun w' => w'.cell? ⟨bT, 0, none⟩ = some (.slice at1 l4.length ct1) ∧ w'.cell? ⟨bT, 1, none⟩ = some (.slice at2 l4.length ct2))
    (first | go_keep | exact ⟨cstep cellbT0 hBc, cstep cellbT1 hBc⟩ | exact ⟨cstep cellbT0 hBd, cstep cellbT1 hBd⟩ | exact ⟨cstep cellbT0 hBe, cstep cellbT1 hBe⟩)
    (first
      | (go_at_call 39; ((with_reducible refine (QC.out _ (by first | exact Below.refl _ _ | exact (Below.refl _ _).drew | assumption | (refine Below.drew ?_; assumption) | exact hBc.alloc hBc.size _ | exact (hBc.alloc hBc.size _).drew | exact (hBc.alloc hBc.size _).alloc (by simp; have := hBc.size; omega) _ | exact ((hBc.alloc hBc.size _).alloc (by simp; have := hBc.size; omega) _).drew)).mono ?_)); rintro e wc ⟨rfl, hBc⟩)
      | (go_at_call 53; refine (of_c _ _).mono ?_; rintro e wx ⟨rfl, rfl⟩)
      | (go_at_call 56; ((with_reducible refine (k_shiftA wc _ hBc).mono ?_)); rintro e wd ⟨xd1, xd2, yd1, yd2, rfl, hd1, hd2, hBd⟩)
      | (go_at_call 56; ((with_reducible refine (k_shiftB wc _ hBc).mono ?_)); rintro e wd ⟨xd1, xd2, yd1, yd2, rfl, hd1, hd2, hBd⟩)
      | (go_at_call 45; ((with_reducible refine (QS.out _ (by first | exact hBd | exact hBd.drew) _ _ _ _ (by first | exact hd1 | exact hd1.mono ((Below.refl _ _).drew)) (by first | exact hd2 | exact hd2.mono ((Below.refl _ _).drew))).mono ?_)); rintro e we ⟨rfl, hBe⟩))
  all_goals (go_wp2; go_ret; exact ⟨rfl, bstep HB36.out hBe⟩)

end Go.Proofs.Ytjnijhnphhpilaa
