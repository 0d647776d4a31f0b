/- The law SlugKnown. -/
import Derived.Test.YtelgbjfgmpkepaaKS
import Derived.Test.YtelgbjfgmpkepaaXHq
import Derived.Deep.RegionHeld3
import Derived.Deep.CutBlock
namespace Go.Proofs.Ytelgbjfgmpkepaa
open Go.RowKit Go.Shelf

def nzk3 : List (Nat × Tmp) := [(1, 32), (2, 33)]
def dpk3 (i : Nat) : List Nat := if i = 2 then [1] else if i = 3 then [2] else []
def Φk3 (i : Nat) (_ : List Value) (v : Value) (_ q : World) : Prop := if i = 1 then ListV [1, -1, 0] v q else if i = 2 then ListV [1, -1, 0] v q else True
def nzk4 : List (Nat × Tmp) := [(1, 37), (2, 38)]
def dpk4 (i : Nat) : List Nat := if i = 2 then [1] else if i = 4 then [2] else []
def Φk4 (i : Nat) (_ : List Value) (v : Value) (_ q : World) : Prop := if i = 1 then ListV [1, -1, 0] v q else if i = 2 then ListV [1, -1, 0] v q else True
def nzk7 : List (Nat × Tmp) := [(1, 57), (2, 58)]
def dpk7 (i : Nat) : List Nat := if i = 2 then [1] else if i = 3 then [2] else []
def Φk7 (i : Nat) (_ : List Value) (v : Value) (_ q : World) : Prop := if i = 1 then ListV [1, -1, 0] v q else if i = 2 then ListV [1, -1, 0] v q else True
def nzk9 : List (Nat × Tmp) := [(1, 69), (2, 70), (3, 71), (4, 72), (10, 18), (11, 19)]
def dpk9 (i : Nat) : List Nat := if i = 2 then [1] else if i = 3 then [2] else if i = 4 then [3] else if i = 5 then [4] else []
def Φk9 (i : Nat) (_ : List Value) (v : Value) (p q : World) : Prop := if i = 1 then ListV [1, -1, 0] v q else if i = 2 then ListV [1, -1, 0] v q else if i = 3 then RowsV [[1, -1, 0]] v q else if i = 4 then RowsV [[1, -1, 0]] v q else if i = 10 then (v = .pointer (some ⟨p.heap.size, 0, none⟩) ∧ q = p.alloc (.cells #[.int .i64 0, .int .i64 0] 34)) else if i = 11 then (v = .pointer (some ⟨p.heap.size, 0, none⟩) ∧ q = p.alloc (.cells #[.int .i64 0, .int .i64 0] 34)) else True
def nzk10 : List (Nat × Tmp) := [(24, 101), (25, 102)]
def dpk10 (i : Nat) : List Nat := if i = 25 then [24] else if i = 26 then [25] else []
def Φk10 (i : Nat) (_ : List Value) (v : Value) (_ q : World) : Prop := if i = 24 then ListV [0, 0, 3, 3] v q else if i = 25 then (∃ b, v = .agg #[.slice b 4 4, .bool true] ∧ IntsAt q b [0, 0, 3, 3]) else True
set_option maxRecDepth 100000 in
set_option maxHeartbeats 60000000 in
theorem slugKnown_c (w : World) : Calls Try.prog 14 #[] w (TellB w true) := by
  unfold TellB
  go_enter Try.func14, Try.ntmps14
  go_wp2_with fail
  refine (four_54 _).mono ?_
  rintro e w1 ⟨b1, rfl, hk, _, hB1⟩
  go_wp2_with fail
  refine (three_55 _).mono ?_
  rintro e w2 ⟨b2, rfl, hl, _, hB2⟩
  go_wp2_with fail
  refine (two_56 _).mono ?_
  rintro e w3 ⟨b3, rfl, hm, _, hB3⟩
  go_wp2_with fail
  refine (good_57 _).mono ?_
  rintro e w4 ⟨b4, rfl, hn, _, hB4⟩
  obtain ⟨V, hV, hB0, hE⟩ := sex_box w4 b1 b2 b3 b4 (((hk.mono hB2).mono hB3).mono hB4) ((hl.mono hB3).mono hB4) (hm.mono hB4) hn
  have HE := hid hE
  have HB := hid (bstep (bstep (bstep (bstep hB1 hB2) hB3) hB4) hB0)
  have HV := hid hV
  clear hV hB0 hE hk hl hm hn hB1 hB2 hB3 hB4
  simp only [kfour, kthree, ktwo, kgood, List.length_cons, List.length_nil, Nat.zero_add, Nat.reduceAdd]
  go_upto_region 2 with (fail)
  rw [← HV.out]
  obtain ⟨q, hq⟩ : ∃ q, q = w4.heap.size := ⟨_, rfl⟩
  rw [← hq] at HE ⊢
  clear HV hq
  obtain ⟨Y1, hY⟩ : ∃ y, y = V.alloc (.cells #[.int .i64 0, .int .i64 0] 3) := ⟨_, rfl⟩
  have hB : Below V.heap.size V Y1 := by rw [hY]; exact bnew _ _
  have Hl1 := hid (show IntsAt Y1 (some ⟨V.heap.size, 0, none⟩) [0, 0] by rw [hY]; exact intsAt_new _ [0, 0] _ 3 rfl)
  have HY1 := hid hY
  clear hY
  have HE' := hid (show SEx Y1 q b1 b2 b3 b4 from HE.out.mono hB)
  have HB' := hid (bstep HB.out hB)
  clear HB HE
  have HE := HE'
  have HB := HB'
  clear HB' HE'
  clear hB
  go_wp2_with fail
  rw [← HY1.out]
  obtain ⟨bq1, hbq⟩ : ∃ q, q = V.heap.size := ⟨_, rfl⟩
  rw [← hbq] at Hl1 ⊢
  clear hbq
  refine (known_58 false (some ⟨bq1, 0, none⟩) 2 2 Y1).mono ?_
  rintro e x1 ⟨rfl, hB⟩
  have Hl1' := hid (Hl1.out.mono hB)
  clear Hl1 HY1
  have HE' := hid (show SEx x1 q b1 b2 b3 b4 from HE.out.mono hB)
  have HB' := hid (bstep HB.out hB)
  clear HB HE
  have HE := HE'
  have HB := HB'
  clear HB' HE'
  clear hB
  have hck := checkKnown_c (some ⟨bq1, 0, none⟩) 2 ⟨[0, 0], false⟩ x1 Hl1'.out (by decide)
  rw [x_k1] at hck
  have HC := hid hck
  clear hck Hl1'
  go_wp2_with fail
  refine HC.out.mono ?_
  rintro e x2 ⟨rfl, hB⟩
  clear HC
  have HE' := hid (show SEx x2 q b1 b2 b3 b4 from HE.out.mono hB)
  have HB' := hid (bstep HB.out hB)
  clear HB HE
  have HE := HE'
  have HB := HB'
  clear HB' HE'
  clear hB
  obtain ⟨Y2, hY⟩ : ∃ y, y = x2.alloc (.cells #[.int .i64 0, .int .i64 0] 3) := ⟨_, rfl⟩
  have hB : Below x2.heap.size x2 Y2 := by rw [hY]; exact bnew _ _
  have Hl2 := hid (show IntsAt Y2 (some ⟨x2.heap.size, 0, none⟩) [0, 0] by rw [hY]; exact intsAt_new _ [0, 0] _ 3 rfl)
  have HY2 := hid hY
  clear hY
  have HE' := hid (show SEx Y2 q b1 b2 b3 b4 from HE.out.mono hB)
  have HB' := hid (bstep HB.out hB)
  clear HB HE
  have HE := HE'
  have HB := HB'
  clear HB' HE'
  clear hB
  go_wp2_with fail
  rw [← HY2.out]
  obtain ⟨bq2, hbq⟩ : ∃ q, q = x2.heap.size := ⟨_, rfl⟩
  rw [← hbq] at Hl2 ⊢
  clear hbq
  refine (known_58 true (some ⟨bq2, 0, none⟩) 2 2 Y2).mono ?_
  rintro e x3 ⟨rfl, hB⟩
  have Hl2' := hid (Hl2.out.mono hB)
  clear Hl2 HY2
  have HE' := hid (show SEx x3 q b1 b2 b3 b4 from HE.out.mono hB)
  have HB' := hid (bstep HB.out hB)
  clear HB HE
  have HE := HE'
  have HB := HB'
  clear HB' HE'
  clear hB
  have hck := checkKnown_c (some ⟨bq2, 0, none⟩) 2 ⟨[0, 0], true⟩ x3 Hl2'.out (by decide)
  rw [x_k2] at hck
  have HC := hid hck
  clear hck Hl2'
  go_wp2_with fail
  refine HC.out.mono ?_
  rintro e x4 ⟨rfl, hB⟩
  clear HC
  have HE' := hid (show SEx x4 q b1 b2 b3 b4 from HE.out.mono hB)
  have HB' := hid (bstep HB.out hB)
  clear HB HE
  have HE := HE'
  have HB := HB'
  clear HB' HE'
  clear hB
  have cl0 := fun (J : World → Prop) (s : LaterJ x4 J) => (HE.out.mono s.h).l.c0; have cl1 := fun (J : World → Prop) (s : LaterJ x4 J) => (HE.out.mono s.h).l.c1
  go_upto_region 3 with (fail)
  go_cut [7] from 31 to 34 (fun a x5 => a = .int .i64 0 ∧ Below x4.heap.size x4 x5)
  case first =>
    refine wp_region_mix3 (n := 5) (nz := nzk3) (kn := [3]) (dp := dpk3) (bs := [.keep, .off, .off, .say (.int .i64 0), .keep]) (Φ := Φk3) (by kernel_rfl) (by kernel_rfl) (by simp [nzk3]) ?_
    simp only [blind2, Bk.on, blindO, knO]
    repeat (gi_big_quiet_step (fail))
    refine wpQuietIn_nil ?_
    refine ⟨?_, ?_, ?_, ?_⟩
    · intro J hJ hne
      repeat (gi_big_quiet_step (fail))
      exact wpQuietIn_nil rfl
    all_goals (generalize hG : (Act.mk _ _ : Act) = G)
    all_goals (have hGz : G.tmps.size = 132 := by rw [← hG]; rfl)
    · intro i hi o ho r s hs hd
      have hi2 : 1 = i ∨ 2 = i := by simpa [isNz, nzk3] using hi
      rcases hi2 with rfl | rfl
      · simp only [List.getElem?_cons_succ, List.getElem?_cons_zero, Option.some.injEq] at ho
        subst ho
        refine ⟨by simp [Region.wanted], ?_⟩
        exact makes_lit_1m10 _ _ _ _ _ _ s
      · simp only [List.getElem?_cons_succ, List.getElem?_cons_zero, Option.some.injEq] at ho
        subst ho
        obtain ⟨p0, q0, h1, h2⟩ := hd 1 (by simp [dpk3])
        have h1 : ListV [1, -1, 0] (r 1) q0 := h1
        refine ⟨by simp [Region.wanted], ?_⟩
        refine makesOp_mono (makes_of50 _ _ _ _ _ _ s 32 _ (putN_ev_nz (i := 1) (by simp [nzk3]) ⟨(1, 32), by simp [nzk3], rfl⟩ (by rw [hGz]; decide))) ?_
        rintro v s' ⟨h3, rfl, rfl⟩
        exact ⟨h3, h1.mono h2⟩
    · intro i hi o ho r s hs hd
      have hi2 : i = 3 := by simpa [isKn] using hi
      rcases hi2 with rfl
      · simp only [List.getElem?_cons_succ, List.getElem?_cons_zero, Option.some.injEq] at ho
        subst ho
        obtain ⟨p0, q0, h1, h2⟩ := hd 2 (by simp [dpk3])
        have h1 : ListV [1, -1, 0] (r 2) q0 := h1
        obtain ⟨b, hr, hI⟩ := h1.mono h2
        refine makes_call2 _ _ _ _ _ _ s 26 (.tmp 31) (.tmp 33) 24 22 _ _ (putN_ev (by simp [nzk3]) (by rw [← hG] <;> rfl)) ((putN_ev_nz (i := 2) (by simp [nzk3]) ⟨(2, 33), by simp [nzk3], rfl⟩ (by rw [hGz]; decide)).trans hr) enters26 ?_
        exact (y_cw (HE.out.mono hs) (some b) hI (fun h => by cases h)).mono fun e w' h => ⟨_, h.1, h.2, rfl⟩
    · intro r p0 q0 s hs hm hsep
      have HBs := hid hs
      clear hs hm hsep cl0 cl1
      rw [← hG]
      simp only [putN, nzk3, List.foldl_cons, List.foldl_nil, Act.put, List.setIfInBounds_toArray, List.set_cons_succ, List.set_cons_zero, List.drop_succ_cons, List.drop_zero]
      clear hG hGz
      gi_wp2
      go_wp2
      go_meet
      exact ⟨rfl, HBs.out⟩
  obtain ⟨rfl, hB⟩ := hcut
  rename World => x5
  clear cl0 cl1
  have HE' := hid (show SEx x5 q b1 b2 b3 b4 from HE.out.mono hB)
  have HB' := hid (bstep HB.out hB)
  clear HB HE
  have HE := HE'
  have HB := HB'
  clear HB' HE'
  clear hB
  have cl0 := fun (J : World → Prop) (s : LaterJ x5 J) => (HE.out.mono s.h).l.c0; have cl1 := fun (J : World → Prop) (s : LaterJ x5 J) => (HE.out.mono s.h).l.c1
  have HY := hid fun (a b : Int) (J : World → Prop) (s : LaterJ x5 J) => at_59 a b s.w'
  have HX := hid fun (J : World → Prop) (s : LaterJ x5 J) => (show Calls Try.prog 16 #[] s.w' (fun e w' => e = .returned (.bool true) ∧ Below s.w'.heap.size s.w' w') from works_c s.w')
  go_upto_region 4 with (fail)
  go_cut [8, 9] from 35 to 42 (fun a b x6 => a = .int .i64 0 ∧ b = .int .i64 0 ∧ Below x5.heap.size x5 x6)
  case first =>
    refine wp_region_mix3 (n := 10) (nz := nzk4) (kn := [4]) (dp := dpk4) (bs := [.keep, .off, .off, .keep, .say (.tuple #[.int .i64 0, .int .i64 0]), .keep, .keep, .keep, .keep, .keep]) (Φ := Φk4) (by kernel_rfl) (by kernel_rfl) (by simp [nzk4]) ?_
    simp only [blind2, Bk.on, blindO, knO]
    repeat (gi_big_quiet_step (((first | (refine ⟨rfl, ?_⟩; gi_at_call 59; exact callsJ abidesT (HY.out _ _ _ _)) | (refine ⟨rfl, ?_⟩; gi_at_call 16; exact callsJ abidesT (HX.out _ _))))))
    refine wpQuietIn_nil ?_
    refine ⟨?_, ?_, ?_, ?_⟩
    · intro J hJ hne
      repeat (gi_big_quiet_step (((first | (refine ⟨rfl, ?_⟩; gi_at_call 59; exact callsJ hJ (HY.out _ _ _ _)) | (refine ⟨rfl, ?_⟩; gi_at_call 16; exact callsJ hJ (HX.out _ _))))))
      exact wpQuietIn_nil rfl
    all_goals (generalize hG : (Act.mk _ _ : Act) = G)
    all_goals (have hGz : G.tmps.size = 132 := by rw [← hG]; rfl)
    · intro i hi o ho r s hs hd
      have hi2 : 1 = i ∨ 2 = i := by simpa [isNz, nzk4] using hi
      rcases hi2 with rfl | rfl
      · simp only [List.getElem?_cons_succ, List.getElem?_cons_zero, Option.some.injEq] at ho
        subst ho
        refine ⟨by simp [Region.wanted], ?_⟩
        exact makes_lit_1m10 _ _ _ _ _ _ s
      · simp only [List.getElem?_cons_succ, List.getElem?_cons_zero, Option.some.injEq] at ho
        subst ho
        obtain ⟨p0, q0, h1, h2⟩ := hd 1 (by simp [dpk4])
        have h1 : ListV [1, -1, 0] (r 1) q0 := h1
        refine ⟨by simp [Region.wanted], ?_⟩
        refine makesOp_mono (makes_of50 _ _ _ _ _ _ s 37 _ (putN_ev_nz (i := 1) (by simp [nzk4]) ⟨(1, 37), by simp [nzk4], rfl⟩ (by rw [hGz]; decide))) ?_
        rintro v s' ⟨h3, rfl, rfl⟩
        exact ⟨h3, h1.mono h2⟩
    · intro i hi o ho r s hs hd
      have hi2 : i = 4 := by simpa [isKn] using hi
      rcases hi2 with rfl
      · simp only [List.getElem?_cons_succ, List.getElem?_cons_zero, Option.some.injEq] at ho
        subst ho
        obtain ⟨p0, q0, h1, h2⟩ := hd 2 (by simp [dpk4])
        have h1 : ListV [1, -1, 0] (r 2) q0 := h1
        obtain ⟨b, hr, hI⟩ := h1.mono h2
        refine makes_call3 _ _ _ _ _ _ s 22 (.tmp 36) (.tmp 38) (.tmp 39) 24 22 34 _ _ _ (putN_ev (by simp [nzk4]) (by rw [← hG] <;> rfl)) ((putN_ev_nz (i := 2) (by simp [nzk4]) ⟨(2, 38), by simp [nzk4], rfl⟩ (by rw [hGz]; decide)).trans hr) (putN_ev (by simp [nzk4]) (by rw [← hG] <;> rfl)) enters22 ?_
        exact (y_r (HE.out.mono hs) (some b) hI (fun h => by cases h)).mono fun e w' h => ⟨_, h.1, h.2, rfl⟩
    · intro r p0 q0 s hs hm hsep
      have HBs := hid hs
      clear hs hm hsep cl0 cl1 HY HX
      rw [← hG]
      simp only [putN, nzk4, List.foldl_cons, List.foldl_nil, Act.put, List.setIfInBounds_toArray, List.set_cons_succ, List.set_cons_zero, List.drop_succ_cons, List.drop_zero]
      clear hG hGz
      gi_wp2
      go_wp2
      go_meet
      exact ⟨rfl, rfl, HBs.out⟩
  obtain ⟨rfl, rfl, hB⟩ := hcut
  rename World => x6
  clear cl0 cl1 HY HX
  have HE' := hid (show SEx x6 q b1 b2 b3 b4 from HE.out.mono hB)
  have HB' := hid (bstep HB.out hB)
  clear HB HE
  have HE := HE'
  have HB := HB'
  clear HB' HE'
  clear hB
  have c0k := HE.out.k.c0; have c1k := HE.out.k.c1
  have Q0 := hid fun (b : Nat) (w' : World) (h : Below x6.heap.size x6 w') (ht : IntsAt w' (some ⟨b, 0, none⟩) [1, -1, 0, 0]) => y_l (HE.out.mono h) (some ⟨b, 0, none⟩) ht (fun h => by cases h)
  go_upto_region 5 with (fail)
  go_cut [10, 11] from 43 to 49 (fun a b x7 => ∃ o xa, a = .pointer (some ⟨o, 0, none⟩) ∧ b = .int .i64 0 ∧ V2At x7 o 24 (.slice xa 4 4) (.bool true) ∧ KnAt x7 xa ⟨[0, 0, 3, 3], true⟩ ∧ Below x6.heap.size x6 x7)
  case first =>
    go_region_held3 (fun w' => w'.cell? ⟨q, 0, none⟩ = some (.slice (some ⟨b1, 0, none⟩) 4 4) ∧ w'.cell? ⟨q, 1, none⟩ = some (.bool true)) (first | exact ⟨cstep c0k (by with_reducible repeat (first | exact Below.refl _ _ | refine Below.drew ?_ | refine bstep ?_ (bnew _ _) | (refine bstep ?_ (by assumption)) | exact hBx | (refine Below.setCell ?_ (by first | exact Nat.le_refl _ | exact Nat.le_succ _ | exact hBx.size | exact hsz | exact Nat.le_add_right _ _) _))), cstep c1k (by with_reducible repeat (first | exact Below.refl _ _ | refine Below.drew ?_ | refine bstep ?_ (bnew _ _) | (refine bstep ?_ (by assumption)) | exact hBx | (refine Below.setCell ?_ (by first | exact Nat.le_refl _ | exact Nat.le_succ _ | exact hBx.size | exact hsz | exact Nat.le_add_right _ _) _)))⟩ | go_keep) (first | (go_simp; go_at_call 50; refine (of_50 _ _).mono ?_; rintro e wx ⟨rfl, rfl⟩) | (go_simp; go_at_call 24; (with_reducible refine (Q0.out _ _ (by with_reducible repeat (first | exact Below.refl _ _ | refine Below.drew ?_ | refine bstep ?_ (bnew _ _) | (refine bstep ?_ (by assumption)) | exact hBx | (refine Below.setCell ?_ (by first | exact Nat.le_refl _ | exact Nat.le_succ _ | exact hBx.size | exact hsz | exact Nat.le_add_right _ _) _))) (by with_reducible repeat (first | assumption | refine IntsAt.undrew ?_ | exact lit_1m100 _ _ rfl | exact lit_1m100 _ _ (by simp) | refine IntsAt.mono ?_ (bnew _ _) | (refine IntsAt.mono ?_ (by assumption))))).mono ?_); rintro e wc0 ⟨xa, rfl, hx, hB0⟩; have hBx := bstep (show Below x6.heap.size x6 _ from (by with_reducible repeat (first | exact Below.refl _ _ | refine Below.drew ?_ | refine bstep ?_ (bnew _ _) | (refine bstep ?_ (by assumption)) | exact hBx | (refine Below.setCell ?_ (by first | exact Nat.le_refl _ | exact Nat.le_succ _ | exact hBx.size | exact hsz | exact Nat.le_add_right _ _) _)))) hB0; (try (have hz : V2At wc0 (x6.heap.size + 1) 24 (.slice none 0 0) (.bool false) := V2At.mono (by first | exact zbox1 x6 _ _ _ _ | exact zbox0 x6 _ _ _ _) hB0; have c0 := hz.c0; have c1 := hz.c1; have f0 := hz.f0; have f1 := hz.f1)); (try (have hz : V2At wc0 (x6.heap.size) 24 (.slice none 0 0) (.bool false) := V2At.mono (by first | exact zbox1 x6 _ _ _ _ | exact zbox0 x6 _ _ _ _) hB0; have c0 := hz.c0; have c1 := hz.c1; have f0 := hz.f0; have f1 := hz.f1))))
    all_goals (
      go_wp2
      go_meet
      first | exact ⟨_, _, rfl, rfl, hz.set _ _, IntsAt.only (S := fun q => q = _) hx ((setCell_only _ 0 _).trans (setCell_only _ 1 _)) (ints_ne hx hz (fun k y h => by cases h)), below_set2 hBx (by first | exact Nat.le_refl _ | exact Nat.le_succ _ | exact hBx.size | exact hsz | exact Nat.le_add_right _ _) _ _⟩ | exact ⟨_, _, rfl, rfl, heap_alloc_new _ _, hx.mono (bnew _ _), bstep hBx (bnew _ _)⟩)
  obtain ⟨o, xa, rfl, rfl, hv, hx, hB⟩ := hcut
  rename World => x7
  clear Q0 c0k c1k
  have HE' := hid (show SEx x7 q b1 b2 b3 b4 from HE.out.mono hB)
  have HB' := hid (bstep HB.out hB)
  clear HB HE
  have HE := HE'
  have HB := HB'
  clear HB' HE'
  have BX := hid (And.intro hv hx)
  clear hv hx
  clear hB
  have cn0 := HE.out.n.c0; have cn1 := HE.out.n.c1
  go_wp2_with fail
  refine (y_n HE.out).mono ?_
  rintro e x8 ⟨rfl, hB⟩
  have HE' := hid (show SEx x8 q b1 b2 b3 b4 from HE.out.mono hB)
  have BX' := hid (show V2At x8 o 24 (.slice xa 4 4) (.bool true) ∧ KnAt x8 xa ⟨[0, 0, 3, 3], true⟩ from ⟨BX.out.1.mono hB, BX.out.2.mono hB⟩)
  have HB' := hid (bstep HB.out hB)
  clear HB HE BX
  have HE := HE'
  have BX := BX'
  have HB := HB'
  clear HB' HE' BX'
  clear hB cn0 cn1
  have cn0 := fun (J : World → Prop) (s : LaterJ x8 J) => (HE.out.mono s.h).n.c0; have cn1 := fun (J : World → Prop) (s : LaterJ x8 J) => (HE.out.mono s.h).n.c1
  go_upto_region 7 with (fail)
  go_cut [14, 15] from 55 to 61 (fun a b x9 => a = .int .i64 1 ∧ b = .int .i64 0 ∧ Below x8.heap.size x8 x9)
  case first =>
    refine wp_region_mix3 (n := 9) (nz := nzk7) (kn := [3]) (dp := dpk7) (bs := [.keep, .off, .off, .say (.tuple #[.int .i64 1, .int .i64 0]), .keep, .keep, .keep, .keep, .keep]) (Φ := Φk7) (by kernel_rfl) (by kernel_rfl) (by simp [nzk7]) ?_
    simp only [blind2, Bk.on, blindO, knO]
    repeat (gi_big_quiet_step (fail))
    refine wpQuietIn_nil ?_
    refine ⟨?_, ?_, ?_, ?_⟩
    · intro J hJ hne
      repeat (gi_big_quiet_step (fail))
      exact wpQuietIn_nil rfl
    all_goals (generalize hG : (Act.mk _ _ : Act) = G)
    all_goals (have hGz : G.tmps.size = 132 := by rw [← hG]; rfl)
    · intro i hi o ho r s hs hd
      have hi2 : 1 = i ∨ 2 = i := by simpa [isNz, nzk7] using hi
      rcases hi2 with rfl | rfl
      · simp only [List.getElem?_cons_succ, List.getElem?_cons_zero, Option.some.injEq] at ho
        subst ho
        refine ⟨by simp [Region.wanted], ?_⟩
        exact makes_lit_1m10 _ _ _ _ _ _ s
      · simp only [List.getElem?_cons_succ, List.getElem?_cons_zero, Option.some.injEq] at ho
        subst ho
        obtain ⟨p0, q0, h1, h2⟩ := hd 1 (by simp [dpk7])
        have h1 : ListV [1, -1, 0] (r 1) q0 := h1
        refine ⟨by simp [Region.wanted], ?_⟩
        refine makesOp_mono (makes_of50 _ _ _ _ _ _ s 57 _ (putN_ev_nz (i := 1) (by simp [nzk7]) ⟨(1, 57), by simp [nzk7], rfl⟩ (by rw [hGz]; decide))) ?_
        rintro v s' ⟨h3, rfl, rfl⟩
        exact ⟨h3, h1.mono h2⟩
    · intro i hi o ho r s hs hd
      have hi2 : i = 3 := by simpa [isKn] using hi
      rcases hi2 with rfl
      · simp only [List.getElem?_cons_succ, List.getElem?_cons_zero, Option.some.injEq] at ho
        subst ho
        obtain ⟨p0, q0, h1, h2⟩ := hd 2 (by simp [dpk7])
        have h1 : ListV [1, -1, 0] (r 2) q0 := h1
        obtain ⟨b, hr, hI⟩ := h1.mono h2
        refine makes_call2 _ _ _ _ _ _ s 40 (.tmp 56) (.tmp 58) 24 22 _ _ (putN_ev (by simp [nzk7]) (by rw [← hG] <;> rfl)) ((putN_ev_nz (i := 2) (by simp [nzk7]) ⟨(2, 58), by simp [nzk7], rfl⟩ (by rw [hGz]; decide)).trans hr) enters40 ?_
        exact (y_af (HE.out.mono hs) (some b) hI (fun h => by cases h)).mono fun e w' h => ⟨_, h.1, h.2, rfl⟩
    · intro r p0 q0 s hs hm hsep
      have HBs := hid hs
      clear hs hm hsep cn0 cn1
      rw [← hG]
      simp only [putN, nzk7, List.foldl_cons, List.foldl_nil, Act.put, List.setIfInBounds_toArray, List.set_cons_succ, List.set_cons_zero, List.drop_succ_cons, List.drop_zero]
      clear hG hGz
      gi_wp2
      go_wp2
      go_meet
      exact ⟨rfl, rfl, HBs.out⟩
  obtain ⟨rfl, rfl, hB⟩ := hcut
  rename World => x9
  clear cn0 cn1
  have HE' := hid (show SEx x9 q b1 b2 b3 b4 from HE.out.mono hB)
  have BX' := hid (show V2At x9 o 24 (.slice xa 4 4) (.bool true) ∧ KnAt x9 xa ⟨[0, 0, 3, 3], true⟩ from ⟨BX.out.1.mono hB, BX.out.2.mono hB⟩)
  have HB' := hid (bstep HB.out hB)
  clear HB HE BX
  have HE := HE'
  have BX := BX'
  have HB := HB'
  clear HB' HE' BX'
  clear hB
  have cm0 := HE.out.m.c0; have cm1 := HE.out.m.c1
  go_wp2_with fail
  refine (y_nx HE.out).mono ?_
  rintro e x10 ⟨rfl, hB⟩
  have HE' := hid (show SEx x10 q b1 b2 b3 b4 from HE.out.mono hB)
  have BX' := hid (show V2At x10 o 24 (.slice xa 4 4) (.bool true) ∧ KnAt x10 xa ⟨[0, 0, 3, 3], true⟩ from ⟨BX.out.1.mono hB, BX.out.2.mono hB⟩)
  have HB' := hid (bstep HB.out hB)
  clear HB HE BX
  have HE := HE'
  have BX := BX'
  have HB := HB'
  clear HB' HE' BX'
  clear hB cm0 cm1
  have cl0 := fun (J : World → Prop) (s : LaterJ x10 J) => (HE.out.mono s.h).l.c0; have cl1 := fun (J : World → Prop) (s : LaterJ x10 J) => (HE.out.mono s.h).l.c1
  go_upto_region 9 with (fail)
  go_cut [18, 19, 20] from 67 to 76 (fun _ _ c x11 => c = .int .i64 5 ∧ Below x10.heap.size x10 x11)
  case first =>
    refine wp_region_mix5 (n := 12) (nz := nzk9) (kn := [5]) (dp := dpk9) (bs := [.keep, .off, .off, .off, .off, .say (.tuple #[.agg #[.int .i64 0, .int .i64 0], .agg #[.int .i64 0, .int .i64 0], .int .i64 5]), .keep, .keep, .keep, .keep, .off, .off, .off, .off, .off]) (Φ := Φk9) (by kernel_rfl) (E := [8, 9]) (fun _ _ d _ _ h => by cases d <;> exact h) (by kernel_rfl) (by simp [nzk9]) ?_
    simp only [blind2, Bk.on, blindO, knO]
    repeat (gi_big_quiet_step (fail))
    refine wpQuietIn_nil ?_
    refine ⟨?_, ?_, ?_, ?_⟩
    · intro J hJ hne
      repeat (gi_big_quiet_step (fail))
      exact wpQuietIn_nil rfl
    all_goals (generalize hG : (Act.mk _ _ : Act) = G)
    all_goals (have hGz : G.tmps.size = 132 := by rw [← hG]; rfl)
    · intro i hi o ho r s hs hd
      have hi2 : 1 = i ∨ 2 = i ∨ 3 = i ∨ 4 = i ∨ 10 = i ∨ 11 = i := by simpa [isNz, nzk9] using hi
      rcases hi2 with rfl | rfl | rfl | rfl | rfl | rfl
      · simp only [List.getElem?_cons_succ, List.getElem?_cons_zero, Option.some.injEq] at ho
        subst ho
        refine ⟨by simp [Region.wanted], ?_⟩
        exact makes_lit_1m10 _ _ _ _ _ _ s
      · simp only [List.getElem?_cons_succ, List.getElem?_cons_zero, Option.some.injEq] at ho
        subst ho
        obtain ⟨p0, q0, h1, h2⟩ := hd 1 (by simp [dpk9])
        have h1 : ListV [1, -1, 0] (r 1) q0 := h1
        refine ⟨by simp [Region.wanted], ?_⟩
        refine makesOp_mono (makes_of50 _ _ _ _ _ _ s 69 _ (putN_ev_nz (i := 1) (by simp [nzk9]) ⟨(1, 69), by simp [nzk9], rfl⟩ (by rw [hGz]; decide))) ?_
        rintro v s' ⟨h3, rfl, rfl⟩
        exact ⟨h3, h1.mono h2⟩
      · simp only [List.getElem?_cons_succ, List.getElem?_cons_zero, Option.some.injEq] at ho
        subst ho
        obtain ⟨p0, q0, h1, h2⟩ := hd 2 (by simp [dpk9])
        have h1 : ListV [1, -1, 0] (r 2) q0 := h1
        refine ⟨by simp [Region.wanted], ?_⟩
        exact makes_row1 _ _ _ _ _ _ s 70 _ _ (h1.mono h2) (putN_ev_nz (i := 2) (by simp [nzk9]) ⟨(2, 70), by simp [nzk9], rfl⟩ (by rw [hGz]; decide))
      · simp only [List.getElem?_cons_succ, List.getElem?_cons_zero, Option.some.injEq] at ho
        subst ho
        obtain ⟨p0, q0, h1, h2⟩ := hd 3 (by simp [dpk9])
        have h1 : RowsV [[1, -1, 0]] (r 3) q0 := h1
        refine ⟨by simp [Region.wanted], ?_⟩
        refine makesOp_mono (makes_plan51 _ _ _ _ _ _ s 71 _ (putN_ev_nz (i := 3) (by simp [nzk9]) ⟨(3, 71), by simp [nzk9], rfl⟩ (by rw [hGz]; decide))) ?_
        rintro v s' ⟨h3, rfl, rfl⟩
        exact ⟨h3, h1.mono h2⟩
      · simp only [List.getElem?_cons_succ, List.getElem?_cons_zero, Option.some.injEq] at ho
        subst ho
        refine ⟨by simp [Region.wanted], ?_⟩
        exact makes_alloc34 _ _ _ _ _ _ s
      · simp only [List.getElem?_cons_succ, List.getElem?_cons_zero, Option.some.injEq] at ho
        subst ho
        refine ⟨by simp [Region.wanted], ?_⟩
        exact makes_alloc34 _ _ _ _ _ _ s
    · intro i hi o ho r s hs hd
      have hi2 : i = 5 := by simpa [isKn] using hi
      rcases hi2 with rfl
      · simp only [List.getElem?_cons_succ, List.getElem?_cons_zero, Option.some.injEq] at ho
        subst ho
        obtain ⟨p0, q0, h1, h2⟩ := hd 4 (by simp [dpk9])
        have h1 : RowsV [[1, -1, 0]] (r 4) q0 := h1
        obtain ⟨b, hr, hI⟩ := h1.mono h2
        refine makes_call2 _ _ _ _ _ _ s 30 (.tmp 68) (.tmp 72) 24 42 _ _ (putN_ev (by simp [nzk9]) (by rw [← hG] <;> rfl)) ((putN_ev_nz (i := 4) (by simp [nzk9]) ⟨(4, 72), by simp [nzk9], rfl⟩ (by rw [hGz]; decide)).trans hr) enters30 ?_
        exact (y_al (HE.out.mono hs) (some b) hI).mono fun e w' h => ⟨_, h.1, h.2, rfl⟩
    · intro r p0 q0 s hs hm hsep
      obtain ⟨h10, h10b, h10c⟩ := hm 10 (by simp [isNz, nzk9])
      have h10 : r 10 = .pointer (some ⟨(p0 10).heap.size, 0, none⟩) ∧ q0 10 = (p0 10).alloc (.cells #[.int .i64 0, .int .i64 0] 34) := h10
      obtain ⟨h10, h10q⟩ := h10
      have hv10 : V2At s (p0 10).heap.size 34 (.int .i64 0) (.int .i64 0) := V2At.mono (w := q0 10) (by rw [h10q]; exact heap_alloc_new _ _) h10b
      obtain ⟨h11, h11b, h11c⟩ := hm 11 (by simp [isNz, nzk9])
      have h11 : r 11 = .pointer (some ⟨(p0 11).heap.size, 0, none⟩) ∧ q0 11 = (p0 11).alloc (.cells #[.int .i64 0, .int .i64 0] 34) := h11
      obtain ⟨h11, h11q⟩ := h11
      have hv11 : V2At s (p0 11).heap.size 34 (.int .i64 0) (.int .i64 0) := V2At.mono (w := q0 11) (by rw [h11q]; exact heap_alloc_new _ _) h11b
      have hne : (p0 10).heap.size ≠ (p0 11).heap.size := by
        have h := hsep 10 11 (by simp [isNz, nzk9]) (by simp [isNz, nzk9]) (by decide)
        rw [h10q, h11q] at h
        simp at h
        omega
      have hs10 : x10.heap.size ≤ (p0 10).heap.size := h10c.size
      have hs11 : x10.heap.size ≤ (p0 11).heap.size := h11c.size
      obtain ⟨o1, ho1⟩ : ∃ o, o = (p0 10).heap.size := ⟨_, rfl⟩
      obtain ⟨o2, ho2⟩ : ∃ o, o = (p0 11).heap.size := ⟨_, rfl⟩
      rw [← ho1] at h10 hv10 hs10 hne
      rw [← ho2] at h11 hv11 hs11 hne
      have f0 := hv10.f0; have f1 := hv10.f1; have r0 := hv10.c0; have r1 := hv10.c1
      have hw2 : V2At ((s.setCell ⟨o1, 0, none⟩ (.int .i64 0)).setCell ⟨o1, 1, none⟩ (.int .i64 0)) o2 34 (.int .i64 0) (.int .i64 0) := (hv11.other (Ne.symm hne) _ _).other (Ne.symm hne) _ _
      have g0 := hw2.f0; have g1 := hw2.f1; have q0' := hw2.c0; have q1 := hw2.c1
      have HBs := hid (below_set2 (below_set2 hs hs10 (.int .i64 0) (.int .i64 0)) hs11 (.int .i64 0) (.int .i64 0))
      clear hs hm hsep h10b h10c h10q h11b h11c h11q ho1 ho2 hv10 hv11 hs10 hs11 hw2 hne cl0 cl1
      rw [← hG]
      simp only [putN, nzk9, List.foldl_cons, List.foldl_nil, h10, h11, Act.put, List.setIfInBounds_toArray, List.set_cons_succ, List.set_cons_zero, List.drop_succ_cons, List.drop_zero]
      clear hG hGz h10 h11
      gi_wp2
      go_wp2
      go_meet
      exact ⟨rfl, HBs.out⟩
  obtain ⟨rfl, hB⟩ := hcut
  rename World => x11
  clear cl0 cl1
  have HE' := hid (show SEx x11 q b1 b2 b3 b4 from HE.out.mono hB)
  have BX' := hid (show V2At x11 o 24 (.slice xa 4 4) (.bool true) ∧ KnAt x11 xa ⟨[0, 0, 3, 3], true⟩ from ⟨BX.out.1.mono hB, BX.out.2.mono hB⟩)
  have HB' := hid (bstep HB.out hB)
  clear HB HE BX
  have HE := HE'
  have BX := BX'
  have HB := HB'
  clear HB' HE' BX'
  clear hB
  have jx0 := fun (J : World → Prop) (s : LaterJ x11 J) => cstep BX.out.1.c0 s.h
  have jx1 := fun (J : World → Prop) (s : LaterJ x11 J) => cstep BX.out.1.c1 s.h
  have HY := hid fun (a b : Int) (J : World → Prop) (s : LaterJ x11 J) => at_59 a b s.w'
  have HX := hid fun (J : World → Prop) (s : LaterJ x11 J) => (show Calls Try.prog 16 #[] s.w' (fun e w' => e = .returned (.bool true) ∧ Below s.w'.heap.size s.w' w') from works_c s.w')
  go_upto_region 10 with (fail)
  refine wp_region_mix2 (n := 55) (nz := nzk10) (kn := [26]) (dp := dpk10) (bs := [.keep, .keep, .keep, .keep, .keep, .keep, .keep, .keep, .keep, .keep, .keep, .keep, .keep, .keep, .keep, .keep, .keep, .keep, .keep, .keep, .keep, .keep, .keep, .keep, .off, .off, .say (.bool true), .keep, .keep, .keep, .keep, .keep, .keep, .keep, .keep, .keep, .keep, .keep, .keep, .keep, .keep, .keep, .keep, .keep, .keep, .keep, .keep, .keep, .keep, .keep, .keep, .keep, .keep, .keep, .keep, .off]) (Φ := Φk10) (by kernel_rfl) (by kernel_rfl) (by simp [nzk10]) ?_
  simp only [blind2, Bk.on, blindO, knO]
  repeat (gi_big_quiet_step (((first | (refine ⟨rfl, ?_⟩; gi_at_call 59; exact callsJ abidesT (HY.out _ _ _ _)) | (refine ⟨rfl, ?_⟩; gi_at_call 16; exact callsJ abidesT (HX.out _ _))))))
  refine wpQuietIn_nil ?_
  refine ⟨?_, ?_, ?_, ?_⟩
  · intro J hJ hne
    repeat (gi_big_quiet_step (((first | (refine ⟨rfl, ?_⟩; gi_at_call 59; exact callsJ hJ (HY.out _ _ _ _)) | (refine ⟨rfl, ?_⟩; gi_at_call 16; exact callsJ hJ (HX.out _ _))))))
    exact wpQuietIn_nil rfl
  all_goals (generalize hG : (Act.mk _ _ : Act) = G)
  all_goals (have hGz : G.tmps.size = 132 := by rw [← hG]; rfl)
  · intro i hi o ho r s hs hd
    have hi2 : 24 = i ∨ 25 = i := by simpa [isNz, nzk10] using hi
    rcases hi2 with rfl | rfl
    · simp only [List.getElem?_cons_succ, List.getElem?_cons_zero, Option.some.injEq] at ho
      subst ho
      refine ⟨wanted_at (g := 22) (t := 99) rfl rfl (by simp [nzk10]) (by rw [← hG] <;> rfl), ?_⟩
      exact makes_lit_0033 _ _ _ _ _ _ s
    · simp only [List.getElem?_cons_succ, List.getElem?_cons_zero, Option.some.injEq] at ho
      subst ho
      obtain ⟨p0, q0, h1, h2⟩ := hd 24 (by simp [dpk10])
      have h1 : ListV [0, 0, 3, 3] (r 24) q0 := h1
      obtain ⟨b, hr, hI⟩ := h1.mono h2
      refine ⟨wanted_at (g := 22) (t := 99) rfl rfl (by simp [nzk10]) (by rw [← hG] <;> rfl), ?_⟩
      refine makes_call2 _ _ _ _ _ _ s 58 (.const (.bool true)) (.tmp 101) 4 22 _ _ rfl ((putN_ev_nz (i := 24) (by simp [nzk10]) ⟨(24, 101), by simp [nzk10], rfl⟩ (by rw [hGz]; decide)).trans hr) enters58 ?_
      exact (known_58 true (some b) 4 4 s).mono fun e w' ⟨h1, h2⟩ => ⟨_, h1, h2, some b, rfl, IntsAt.mono hI h2⟩
  · intro i hi o ho r s hs hd
    have hi2 : i = 26 := by simpa [isKn] using hi
    rcases hi2 with rfl
    · simp only [List.getElem?_cons_succ, List.getElem?_cons_zero, Option.some.injEq] at ho
      subst ho
      obtain ⟨p0, q0, h1, h2⟩ := hd 25 (by simp [dpk10])
      have h1 : ∃ b, r 25 = .agg #[.slice b 4 4, .bool true] ∧ IntsAt q0 b [0, 0, 3, 3] := h1
      obtain ⟨b, hr, hI⟩ := h1
      have hI := IntsAt.mono hI h2
      refine makes_call2 _ _ _ _ _ _ s 28 (.tmp 100) (.tmp 102) 24 24 _ _ (putN_ev (by simp [nzk10]) (by rw [← hG] <;> rfl)) ((putN_ev_nz (i := 25) (by simp [nzk10]) ⟨(25, 102), by simp [nzk10], rfl⟩ (by rw [hGz]; decide)).trans hr) enters28 ?_
      exact (k_sm ⟨[0, 0, 3, 3], true⟩ xa b 4 4 4 4 true true s rfl rfl rfl rfl (BX.out.2.mono hs) hI (by decide)).mono fun e w' h => ⟨_, h.1, h.2, rfl⟩
  · intro r p0 q0 s hs hm hsep
    have hlast : (putN nzk10 r G).eval (.tmp 131) = .bool true := putN_ev (by simp [nzk10]) (by rw [← hG] <;> rfl)
    have HL := hid hlast; have HBs := hid (bstep HB.out hs)
    clear hs hm hsep jx0 jx1 HY HX
    simp only [List.drop_succ_cons, List.drop_zero]
    have hev : (putN nzk10 r G).defers = [] := by rw [(putN_size nzk10 r G).2, ← hG]
    have hz : (putN nzk10 r G).tmps.size = 132 := by rw [(putN_size nzk10 r G).1, hGz]
    have e131 : (putN nzk10 r G).tmps[131]?.getD undef = .bool true := by simpa [Act.eval] using HL.out
    obtain ⟨A, hA⟩ : ∃ A, A = putN nzk10 r G := ⟨_, rfl⟩
    rw [← hA] at hev hz e131 ⊢
    clear hA HL hG hGz
    obtain ⟨T, D⟩ := A
    simp only at hev hz e131 ⊢
    subst hev
    gi_wp2
    have hb : 131 < T.size := by omega
    have h0 : 0 < T.size := by omega
    simp [hb] at e131
    go_wp2
    go_ret
    refine ⟨?_, HBs.out⟩
    simp [e131, h0]

end Go.Proofs.Ytelgbjfgmpkepaa
