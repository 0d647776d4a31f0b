/- The law PinsNarrower, with a plumb more. -/
import Derived.Test.YtnnojhpioenhbaaXJe
import Derived.Test.YtnnojhpioenhbaaXLe
namespace Go.Proofs.Ytnnojhpioenhbaa
open Go.RowKit Go.Shelf

section
variable (pa : Option Addr) (pc : Nat) (ya : Option Addr) (yc : Nat) (la : Option Addr) (lc : Nat) (sa : Option Addr) (sc : Nat) (B : Bd) (R : Rd) (n3 n4 n5 n6 : Nat) (w : World)
set_option maxRecDepth 100000 in
set_option maxHeartbeats 16000000 in
theorem pinsNarrower_t (hworks : WorksC) (hb : BdAt w pa ya B) (hr : RdAt w la sa R) (hln : la = none → lc = 0) (hlm : R.plumbs.length ≤ lc) (hsn : sa = none → sc = 0) (hsm : R.slots.length ≤ sc) (w3 : n3 < 256) (w4 : n4 < 256) (w5 : n5 < 65536) (w6 : n6 < 65536) :
    Calls Try.prog 10 #[.agg #[.slice pa B.pins.length pc, .slice ya B.pays.length yc], .agg #[.slice la R.plumbs.length lc, .slice sa R.slots.length sc], .bool true, .int .u8 (n3 : Int), .int .u8 (n4 : Int), .int .u16 (n5 : Int), .int .u16 (n6 : Int)] w (TellB w true) := by
  have HW := hid hworks
  obtain ⟨V, hV, hB0, k0, k1, k2, k3⟩ := box2 w (.slice pa B.pins.length pc) (.slice ya B.pays.length yc) (.slice la R.plumbs.length lc) (.slice sa R.slots.length sc) 25 51
  have hbV := hb.mono hB0
  have hrV := hr.mono hB0
  have HB0 := hid hB0; have HV := hid hV; have HV0 := hid (Below.refl V.heap.size V)
  have K0 := hid k0; have K1 := hid k1; have K2 := hid k2; have K3 := hid k3
  have HG := hid (read_c pa pc ya yc la lc sa sc B R V hbV hrV)
  unfold WorksC TellB at *
  cases hg : readB B R with
  | false =>
    rw [hg] at HG
    clear hworks hb hr hln hlm hsn hsm hV hB0 hbV hrV hg
    go_enter Try.func10, Try.ntmps10
    go_upto_region 1 with (fail)
    rw [← HV.out]
    go_wp2_with fail
    refine (HG.out).mono ?_
    rintro e w1 ⟨rfl, hB⟩
    have HB1 := hid (bstep HV0.out hB)
    clear hB
    go_wp2_with fail
    refine (HW.out _).mono ?_
    rintro e w2 ⟨rfl, hB⟩
    have HB2 := hid (bstep HB1.out hB)
    clear hB
    go_wp2
    go_ret
    exact ⟨rfl, bstep HB0.out HB2.out⟩
  | true =>
    rw [hg] at HG
    obtain ⟨⟨hfi, hwi⟩, h0⟩ := readB_iff hg
    have hl2 := wideB_lens hwi
    obtain ⟨hBk, hRk⟩ := readErr_zero.1 h0
    have hmm : manyN R = R.plumbs.length + R.slots.length := rfl
    have HM := hid fun (w' : World) => rMany_c la lc sa sc R w' (by have := hRk.m; omega)
    unfold TellI at HM
    by_cases hm12 : 12 ≤ manyN R
    · have hI : (12 : Int) ≤ ((manyN R : Nat) : Int) := by omega
      obtain ⟨mn, hmn⟩ : ∃ m, m = manyN R := ⟨_, rfl⟩
      rw [← hmn] at HM hI
      clear hworks hb hr hln hlm hsn hsm hV hB0 hbV hrV hg hfi hwi h0 hl2 hBk hRk hmm hm12 hmn
      go_enter Try.func10, Try.ntmps10
      go_upto_region 1 with (fail)
      rw [← HV.out]
      go_wp2_with fail
      refine (HG.out).mono ?_
      rintro e w1 ⟨rfl, hB⟩
      have HB1 := hid (bstep HV0.out hB)
      have k2 := cstep k2 hB
      have k3 := cstep k3 hB
      clear hB
      go_wp2_with fail
      refine (HM.out _).mono ?_
      rintro e w2 ⟨rfl, hB⟩
      have HB2 := hid (bstep HB1.out hB)
      clear hB
      go_wp2_with fail
      refine (HW.out _).mono ?_
      rintro e w3 ⟨rfl, hB⟩
      have HB3 := hid (bstep HB2.out hB)
      clear hB
      go_wp2
      go_ret
      exact ⟨rfl, bstep HB0.out HB3.out⟩
    have hI : ¬ (12 : Int) ≤ ((manyN R : Nat) : Int) := by omega
    have hn := hBk.n8; have hn1 := hBk.n1; have hpy := hBk.pays
    have ha := givN_lv n3; have hb2 := givN_lv n4
    have H4 := hid fun (w' : World) => given_c n3 w' w3
    have H5 := hid fun (w' : World) => given_c n4 w' w4
    unfold TellI at H4 H5
    obtain ⟨a, haE⟩ : ∃ a, a = givN n3 := ⟨_, rfl⟩
    obtain ⟨b, hbE⟩ : ∃ a, a = givN n4 := ⟨_, rfl⟩
    rw [← haE] at H4 ha
    rw [← hbE] at H5 hb2
    obtain ⟨lo, hmin, hi, hmax, hlo, hhi, hle⟩ : ∃ lo, (if b < a then b else a) = lo ∧ ∃ hi, (if a < b then b else a) = hi ∧ (-5 ≤ lo ∧ lo ≤ 5) ∧ (-5 ≤ hi ∧ hi ≤ 5) ∧ lo ≤ hi := by
      refine ⟨_, rfl, _, rfl, ?_, ?_, ?_⟩
      · split <;> omega
      · split <;> omega
      · split <;> split <;> omega
    obtain ⟨sv, hs⟩ : ∃ s, s = n3 % (B.pins.length + 1) := ⟨_, rfl⟩
    have hsB : sv ≤ B.pins.length := by have := Nat.mod_lt n3 (show 0 < B.pins.length + 1 by omega); omega
    have c1 : Int.tmod (n3 : Int) ((B.pins.length : Int) + 1) = (sv : Int) := by have := tmod_nat n3 (B.pins.length + 1); rw [← hs] at this; simpa using this
    have c2 : ¬ (B.pins.length : Int) + 1 = 0 := by omega
    have c3 : IntKind.i64.wrap (n3 : Int) = (n3 : Int) := wrap_i64_of (by omega) (by omega)
    have c4 : IntKind.i64.wrap ((B.pins.length : Int) + 1) = (B.pins.length : Int) + 1 := wrap_i64_of (by omega) (by omega)
    have c5 : IntKind.i64.wrap (sv : Int) = (sv : Int) := wrap_i64_of (by omega) (by omega)
    have c6 : IntKind.i64.wrap (n5 : Int) = (n5 : Int) := wrap_i64_of (by omega) (by omega)
    have c7 : IntKind.i64.wrap (n6 : Int) = (n6 : Int) := wrap_i64_of (by omega) (by omega)
    have c8 : IntKind.i64.wrap (1 + (n6 : Int)) = 1 + (n6 : Int) := wrap_i64_of (by omega) (by omega)
    obtain ⟨T, hT⟩ : ∃ T, T = (moreR B R true lo hi sv) := ⟨_, rfl⟩
    have hTk : Rok2 B T := by rw [hT]; exact more_rok hRk (by omega) _ ⟨hle, hlo.1, hhi.2⟩ hsB
    have hT0 : readErr B T = 0 := readErr_zero.2 ⟨hBk, hTk⟩
    have hTsub : ∀ lv, okL B T lv = true → okL B R lv = true := fun lv h => by rw [hT] at h; exact more_ok h
    have hTm := hTk.m
    have hTmm : manyN T = T.plumbs.length + T.slots.length := rfl
    have hTl : T.plumbs.length = R.plumbs.length + 1 ∧ T.slots.length = R.slots.length := by rw [hT]; simp [moreR]
    have hTe : T.plumbs = R.plumbs ++ [(lo, hi)] ∧ T.slots = R.slots := by rw [hT]; simp [moreR]
    obtain ⟨q, hq⟩ : ∃ q : Int × Int, q = ((n5 : Int), 1 + (n6 : Int)) := ⟨_, rfl⟩
    have hqp : promB q = true := by rw [hq]; unfold promB; simp; omega
    have H1 := hid fun (w' : World) (h : Below V.heap.size V w') => pLevels_c pa pc ya yc la lc sa sc B R w' (hbV.mono h) (hrV.mono h) (by omega) (by omega) (by omega) (by omega)
    have H2 := hid fun (xa za : Option Addr) (xc zc : Nat) (w' : World) (h : Below V.heap.size V w') (hx : RdAt w' xa za T) => pLevels_c pa pc ya yc xa xc za zc B T w' (hbV.mono h) hx (by omega) (by omega) (by omega) (by omega)
    have H7 := hid fun (w' : World) (h : Below V.heap.size V w') => pSpan_c pa pc ya yc la lc sa sc B R w' (hbV.mono h) (hrV.mono h) (by omega) (by omega) (by omega) (by omega)
    have H8 := hid fun (xa za : Option Addr) (xc zc : Nat) (w' : World) (h : Below V.heap.size V w') (hx : RdAt w' xa za T) => pSpan_c pa pc ya yc xa xc za zc B T w' (hbV.mono h) hx (by omega) (by omega) (by omega) (by omega)
    have H9 := hid fun (w' : World) (h : Below V.heap.size V w') => pBroken_c pa pc ya yc la lc sa sc B R q w' (hbV.mono h) (hrV.mono h) (by omega) (by omega) (by omega) (by omega)
    have H10 := hid fun (xa za : Option Addr) (xc zc : Nat) (w' : World) (h : Below V.heap.size V w') (hx : RdAt w' xa za T) => pBroken_c pa pc ya yc xa xc za zc B T q w' (hbV.mono h) hx (by omega) (by omega) (by omega) (by omega)
    unfold SliceE at H1 H2
    unfold SpanE at H7 H8
    unfold IntE at H9 H10
    have HrV := hid hrV
    have Hl := hid (show R.plumbs.length ≤ 1000000 ∧ R.slots.length ≤ 1000000 by have := hRk.m; omega)
    have Hnn := hid (show (la = none → R.plumbs.length = 0) ∧ (sa = none → R.slots.length = 0) from ⟨fun h => by have := hln h; omega, fun h => by have := hsn h; omega⟩)
    have HTl := hid hTl; have HTe := hid hTe
    have Hpl1 := hid (show R.plumbs.length + 1 ≤ 1000000 by omega)
    have hS18 : levErr B T = 0 ∨ levErr B T = 18 := by unfold levErr; rw [if_pos hT0]; split; exact .inr rfl; exact .inl rfl
    have HN := hid fun (h : levErr B T = 0) => narrow_ok hBk h0 hT0 hTsub h hqp
    have HTL := hid (levelsL_len B T); have HRL := hid (levelsL_len B R)
    have Hq := hid hq; have HS18 := hid hS18
    have HX := hid fun (w' : World) => levX_len B R
    have HXT := hid fun (w' : World) => levX_len B T
    have HC := hid fun (x y : Int × Int) (w' : World) (hx : payB x = true) (hy : payB y = true) => lessP_c x y w' hx hy
    have HPy := hid fun (x : Int × Int) (w' : World) => isPay_c x w'
    unfold TellB at HC HPy
    have HhI := hid hI
    clear hworks hb hr hln hlm hsn hsm hV hB0 hbV hrV hg hfi hwi h0 hl2 hBk hRk hmm hm12 hn hn1 hpy ha hb2 haE hbE hlo hhi hle hs hsB hT hTk hT0 hTsub hTm hTmm hTl hTe hq hqp hS18
    obtain ⟨mn, hmn⟩ : ∃ m, m = manyN R := ⟨_, rfl⟩
    rw [← hmn] at HM hI HhI
    clear hmn
    go_enter Try.func10, Try.ntmps10
    go_upto_region 1 with (fail)
    rw [← HV.out]
    go_wp2_with fail
    refine (HG.out).mono ?_
    rintro e w1 ⟨rfl, hB⟩
    have HB1 := hid (bstep HV0.out hB)
    have k0 := cstep k0 hB
    have k1 := cstep k1 hB
    have k2 := cstep k2 hB
    have k3 := cstep k3 hB
    clear hB
    go_wp2_with fail
    refine (HM.out _).mono ?_
    rintro e w2 ⟨rfl, hB⟩
    have HB2 := hid (bstep HB1.out hB)
    have k0 := cstep k0 hB
    have k1 := cstep k1 hB
    have k2 := cstep k2 hB
    have k3 := cstep k3 hB
    clear hB
    have jk2 := fun (J : World → Prop) (s : LaterJ w2 J) => cstep k2 s.h
    have jk3 := fun (J : World → Prop) (s : LaterJ w2 J) => cstep k3 s.h
    have Kk0_ := hid k0
    have Kk1_ := hid k1
    have Kk2_ := hid k2
    have Kk3_ := hid k3
    have HrC := hid (HrV.out.mono HB2.out)
    clear k0 k1 k2 k3
    go_upto_region 3 with (fail)
    refine wp_region_mix (n := 10) (nz := nz10) (dp := fun i => if i = 3 then [0] else if i = 7 then [4] else if i = 8 then [3, 7] else []) (bs := [true, false, false, true, true, false, false, true, true, true, true]) (Φ := narΦ w2.heap.size R) (by kernel_rfl) (by kernel_rfl) (by simp [nz10]) ?_
    simp only [blindL, blindO, if_true, Bool.false_eq_true, if_false]
    repeat (gi_big_quiet_step (fail))
    refine wpQuietIn_nil ?_
    refine ⟨?_, ?_⟩
    · intro J hJ hne
      repeat (gi_big_quiet_step (fail))
      exact wpQuietIn_nil rfl
    refine ⟨fun i hi o ho r s hs hd => ?_, fun r p q s hs hm ha => ?_⟩
    · have hi2 : i = 0 ∨ i = 3 ∨ i = 4 ∨ i = 7 ∨ i = 8 ∨ i = 9 := by simp only [nz10, isNz, List.any_cons, List.any_nil, Bool.or_false, Bool.or_eq_true, beq_iff_eq] at hi; omega
      generalize hG : (Act.mk _ _ : Act) = G
      have hGz : G.tmps.size = 237 := by rw [← hG]; rfl
      have hsz : w2.heap.size ≤ s.heap.size := hs.size
      rcases hi2 with rfl | rfl | rfl | rfl | rfl | rfl
      all_goals (simp only [List.getElem?_cons_succ, List.getElem?_cons_zero, Option.some.injEq] at ho; subst ho)
      · exact makesOp_weak (makes_nil49 _ _ _ _ _ s) fun v s' ⟨h1, h2, h3⟩ => ⟨h1, ⟨h2, h3⟩, hsz⟩
      · obtain ⟨p, q, ⟨⟨hv, hq⟩, hpq⟩, hqs⟩ := hd 0 (by simp)
        have hg : s.heap[p.heap.size]? = some (.cells #[] 77 (0, 0)) := (hqs.block _ (by rw [hq]; simp)).trans (by rw [hq]; exact heap_alloc_new _ _)
        exact makes_app0 et49 app00_49 _ _ _ _ (.tmp 44) (.tmp 46) _ s p.heap.size w2.heap.size ((putN_ev_nz (i := 0) (by simp [nz10]) ⟨(0, 44), by simp [nz10], rfl⟩ (by rw [hGz]; decide)).trans hv) hg hpq la R.plumbs.length lc (pairv R.plumbs) (putN_ev (by simp [nz10]) (by rw [← hG]; rfl)) (cells_of_plumbs (HrC.out.mono hs).1) (pairv_len _) Hnn.out.1 Hl.out.1
      · exact makesOp_weak (makes_nil42 _ _ _ _ _ s) fun v s' ⟨h1, h2, h3⟩ => ⟨h1, ⟨h2, h3⟩, hsz⟩
      · obtain ⟨p, q, ⟨⟨hv, hq⟩, hpq⟩, hqs⟩ := hd 4 (by simp)
        have hg : s.heap[p.heap.size]? = some (.cells #[] 3 (0, 0)) := (hqs.block _ (by rw [hq]; simp)).trans (by rw [hq]; exact heap_alloc_new _ _)
        exact makes_app0 et42 app00_42 _ _ _ _ (.tmp 48) (.tmp 50) _ s p.heap.size w2.heap.size ((putN_ev_nz (i := 4) (by simp [nz10]) ⟨(4, 48), by simp [nz10], rfl⟩ (by rw [hGz]; decide)).trans hv) hg hpq sa R.slots.length sc (intv R.slots) (putN_ev (by simp [nz10]) (by rw [← hG]; rfl)) (cellsAt_ints.2 (HrC.out.mono hs).2) (by rw [intv_length, Nat.mul_one]) Hnn.out.2 Hl.out.2
      · obtain ⟨p, q, ⟨a3, e3, h3, _⟩, _⟩ := hd 3 (by simp)
        obtain ⟨p2, q2, ⟨a7, e7, h7, _⟩, _⟩ := hd 7 (by simp)
        exact makes_build51 _ _ _ _ 47 51 (r 3) (r 7) a3 a7 R.plumbs.length e3 R.slots.length e7 _ s (putN_ev_nz (i := 3) (by simp [nz10]) ⟨(3, 47), by simp [nz10], rfl⟩ (by rw [hGz]; decide)) (putN_ev_nz (i := 7) (by simp [nz10]) ⟨(7, 51), by simp [nz10], rfl⟩ (by rw [hGz]; decide)) h3 h7
      · exact makes_new51 _ _ _ _ _ s
    obtain ⟨⟨a3, e3, h3, ho3⟩, hq3, hz3⟩ := hm 3 (by simp [isNz, nz10])
    obtain ⟨⟨a7, e7, h7, ho7⟩, hq7, hz7⟩ := hm 7 (by simp [isNz, nz10])
    obtain ⟨h8, hz8, hz8b⟩ := hm 8 (by simp [isNz, nz10])
    obtain ⟨h9, hq9, hp9⟩ := hm 9 (by simp [isNz, nz10])
    have h8b : r 8 = .agg #[r 3, r 7] := h8
    clear h8
    have h8 := h8b
    clear h8b
    rw [h3, h7] at h8
    obtain ⟨h9b, hv9, hz9⟩ := NewV.at h9
    clear h9
    have h9 := h9b
    clear h9b
    have hb9 := hv9.mono hq9
    have hge9 := hp9.size
    have ho3b : OwnV 77 2 w2.heap.size (q 3) a3 R.plumbs.length e3 (pairv R.plumbs) := ho3
    have ho7b : OwnV 3 1 w2.heap.size (q 7) a7 R.slots.length e7 (intv R.slots) := ho7
    have ho3s := ho3b.kept hq3; have ho7s := ho7b.kept hq7
    clear ho3b ho7b
    simp only [List.drop_succ_cons, List.drop_zero, nz10, putN, List.foldl_cons, List.foldl_nil, Act.put, List.setIfInBounds_toArray, List.set_cons_succ, List.set_cons_zero]
    obtain ⟨g, hg⟩ : ∃ g, g = (p 9).heap.size := ⟨_, rfl⟩
    rw [← hg] at h9 hb9 hge9
    obtain ⟨mm0, hmm0⟩ : ∃ v, v = r 0 := ⟨_, rfl⟩
    obtain ⟨mm3, hmm3⟩ : ∃ v, v = r 3 := ⟨_, rfl⟩
    obtain ⟨mm4, hmm4⟩ : ∃ v, v = r 4 := ⟨_, rfl⟩
    obtain ⟨mm7, hmm7⟩ : ∃ v, v = r 7 := ⟨_, rfl⟩
    obtain ⟨mm8, hmm8⟩ : ∃ v, v = r 8 := ⟨_, rfl⟩
    obtain ⟨mm9, hmm9⟩ : ∃ v, v = r 9 := ⟨_, rfl⟩
    rw [← hmm3] at h3
    rw [← hmm7] at h7
    rw [← hmm8] at h8
    rw [← hmm9] at h9
    rw [← hmm0, ← hmm3, ← hmm4, ← hmm7, ← hmm8, ← hmm9]
    rw [h3, h7, h8, h9]
    have c0 := hb9.c0; have c1 := hb9.c1; have f0 := hb9.f0; have f1 := hb9.f1
    have HB9 := hid hb9; have HS := hid hs; have Hge9 := hid hge9; have HO3 := hid ho3s; have HO7 := hid ho7s
    clear hz3 hz7 hz8 hz8b hz9 hm ha hs h3 h7 h8 h9 ho3 ho7 ho3s ho7s hq3 hq7 hq9 hp9 hv9 hb9 hge9 hg hmm0 hmm3 hmm4 hmm7 hmm8 hmm9 jk2 jk3 p q r
    gi_wp2
    have hbx := HB9.out.set (.slice a3 R.plumbs.length e3) (.slice a7 R.slots.length e7)
    have hB := below_set2 HS.out Hge9.out (.slice a3 R.plumbs.length e3) (.slice a7 R.slots.length e7)
    have ho3 := (HO3.out.setOther HB9.out (by decide) 0 (.slice a3 R.plumbs.length e3)).setOther (HB9.out.set0 _) (by decide) 1 (.slice a7 R.slots.length e7)
    have ho7 := (HO7.out.setOther HB9.out (by decide) 0 (.slice a3 R.plumbs.length e3)).setOther (HB9.out.set0 _) (by decide) 1 (.slice a7 R.slots.length e7)
    obtain ⟨w3, hw⟩ : ∃ x, x = (s.setCell ⟨g, 0, none⟩ (.slice a3 R.plumbs.length e3)).setCell ⟨g, 1, none⟩ (.slice a7 R.slots.length e7) := ⟨_, rfl⟩
    rw [← hw] at hbx hB ho3 ho7 ⊢
    have HBX := hid hbx; have HO3 := hid ho3; have HO7 := hid ho7
    clear hw c0 c1 f0 f1 HB9 HS hbx ho3 ho7
    have k0 := Kk0_.out; have k1 := Kk1_.out; have k2 := Kk2_.out; have k3 := Kk3_.out
    clear Kk0_ Kk1_ Kk2_ Kk3_
    have HBs := hid hB
    have HB3 := hid (bstep HB2.out hB)
    have k0 := cstep k0 hB
    have k1 := cstep k1 hB
    have k2 := cstep k2 hB
    have k3 := cstep k3 hB
    clear hB
    have Hgc := hid (show V.heap.size ≤ g from Nat.le_trans HB2.out.size Hge9.out)
    go_wp2_with fail
    refine (H4.out _).mono ?_
    rintro e w4 ⟨rfl, hB⟩
    have HB4 := hid (bstep HB3.out hB)
    have k0 := cstep k0 hB
    have k1 := cstep k1 hB
    have k2 := cstep k2 hB
    have k3 := cstep k3 hB
    have HBX := hid (HBX.out.mono hB)
    have HO3 := hid (HO3.out.kept hB); have HO7 := hid (HO7.out.kept hB)
    clear hB
    go_wp2_with fail
    refine (H5.out _).mono ?_
    rintro e w5 ⟨rfl, hB⟩
    have HB5 := hid (bstep HB4.out hB)
    have k0 := cstep k0 hB
    have k1 := cstep k1 hB
    have k2 := cstep k2 hB
    have k3 := cstep k3 hB
    have HBX := hid (HBX.out.mono hB)
    have HO3 := hid (HO3.out.kept hB); have HO7 := hid (HO7.out.kept hB)
    clear hB
    go_wp2_with fail
    refine (H4.out _).mono ?_
    rintro e w6 ⟨rfl, hB⟩
    have HB6 := hid (bstep HB5.out hB)
    have k0 := cstep k0 hB
    have k1 := cstep k1 hB
    have k2 := cstep k2 hB
    have k3 := cstep k3 hB
    have HBX := hid (HBX.out.mono hB)
    have HO3 := hid (HO3.out.kept hB); have HO7 := hid (HO7.out.kept hB)
    clear hB
    go_wp2_with fail
    refine (H5.out _).mono ?_
    rintro e w7 ⟨rfl, hB⟩
    have HB7 := hid (bstep HB6.out hB)
    have k0 := cstep k0 hB
    have k1 := cstep k1 hB
    have k2 := cstep k2 hB
    have k3 := cstep k3 hB
    have HBX := hid (HBX.out.mono hB)
    have HO3 := hid (HO3.out.kept hB); have HO7 := hid (HO7.out.kept hB)
    clear hB
    have hbx0 := HBX.out.c0
    obtain ⟨LL, hLL⟩ : ∃ L, L = w7.alloc (.cells #[.int .i64 lo, .int .i64 hi] 77) := ⟨_, rfl⟩
    have hBL : Below w7.heap.size w7 LL := by rw [hLL]; exact bnew _ _
    have hcL : CellsAt LL (some ⟨w7.heap.size, 0, none⟩) [.int .i64 lo, .int .i64 hi] := by
      rw [hLL]
      refine CellsAt.of_heap (heap_alloc_new _ _) fun j v hj => ?_
      rw [Nat.zero_add]
      simpa using hj
    have HL1 := hid (HO3.out.kept hBL); have HL2 := hid (HO7.out.kept hBL); have HLX := hid (HBX.out.mono hBL); have HLL := hid hLL; have hszL : w2.heap.size ≤ LL.heap.size := Nat.le_trans (Nat.le_trans Hge9.out (Nat.le_of_lt HBX.out.lt)) hBL.size; have HBLL := hid (bstep HB7.out hBL); have hpl : R.plumbs.length + 1 ≤ 1000000 := Hpl1.out
    clear hBL hLL
    go_wp2_with (at_builtin; rw [← HLL.out]; refine wpList_appV et49 _ rfl _ _ rfl w2.heap.size a3 R.plumbs.length e3 (pairv R.plumbs) rfl HL1.out (some ⟨w7.heap.size, 0, none⟩) 1 1 [.int .i64 lo, .int .i64 hi] rfl hcL rfl (fun u hu => by simp at hu; rcases hu with rfl | rfl <;> rfl) (fun h => by cases h) hpl hszL ?_; (intro ao' cap' w' hB' hown' hgr' hn'; refine Hid.out ?_))
    refine hid ?_
    have hvk : V2At w' g 51 (.slice a3 R.plumbs.length e3) (.slice a7 R.slots.length e7) := HLX.out.grown hgr' (by intro e; obtain ⟨_, cur2, hh2⟩ := HL1.out.block e.symm; have hh := HLX.out; unfold V2At at hh; rw [hh] at hh2; cases hh2)
    have hs7 : OwnV 3 1 w2.heap.size w' a7 R.slots.length e7 (intv R.slots) := HL2.out.grown HL1.out hgr' (by decide)
    have hown2 : OwnV 77 2 w2.heap.size w' ao' (R.plumbs.length + 1) cap' (pairv T.plumbs) := by rw [HTe.out.1, pairv_append]; exact hown'
    have hBw : Below V.heap.size V w' := HBLL.out.trans (hB'.mono HB2.out.size)
    have f0 := hvk.f0; have x0 := hvk.c0
    have Hvk := hid hvk; have Hs7 := hid hs7; have Hown := hid hown2; have HBw := hid hBw
    clear hB' hown' hgr' hn' hvk hs7 hown2 hBw hbx0 k0 k1 k2 k3
    go_upto_region 8 with (fail)
    have hx2 := Hvk.out.set0 (.slice ao' (R.plumbs.length + 1) cap')
    have hrx : RdAt (w'.setCell ⟨g, 0, none⟩ (.slice ao' (R.plumbs.length + 1) cap')) ao' a7 T := ⟨plumbs_of_cells (Hown.out.setOther Hvk.out (by decide) 0 _).at, by rw [HTe.out.2]; exact cellsAt_ints.1 (Hs7.out.setOther Hvk.out (by decide) 0 _).at⟩
    have hB := HBw.out.setCell (p := ⟨g, 0, none⟩) Hgc.out (.slice ao' (R.plumbs.length + 1) cap')
    obtain ⟨w8, hw⟩ : ∃ x, x = w'.setCell ⟨g, 0, none⟩ (.slice ao' (R.plumbs.length + 1) cap') := ⟨_, rfl⟩
    rw [← hw] at hx2 hrx hB ⊢
    obtain ⟨xo, hxo⟩ : ∃ x, x = ao' := ⟨_, rfl⟩
    obtain ⟨xcap, hxc⟩ : ∃ x, x = cap' := ⟨_, rfl⟩
    rw [← hxo, ← hxc] at hx2 ⊢
    rw [← hxo] at hrx
    obtain ⟨zo, hzo⟩ : ∃ x, x = a7 := ⟨_, rfl⟩
    obtain ⟨zcap, hzc⟩ : ∃ x, x = e7 := ⟨_, rfl⟩
    rw [← hzo, ← hzc] at hx2
    rw [← hzo] at hrx
    have HY := hid hx2; have HRX := hid hrx; have HBY := hid hB
    have Hxl := hid (show (R.plumbs.length + 1 : Nat) = T.plumbs.length from HTl.out.1.symm)
    have Hzl := hid (show R.slots.length = T.slots.length from HTl.out.2.symm)
    clear hw hx2 hrx hB hxo hxc hzo hzc f0 x0 Hvk Hs7 Hown HBw HL1 HL2 HLX HLL HBLL HO3 HO7 HBX hcL hszL
    rw [Hxl.out, Hzl.out] at HY
    have k0 := cstep K0.out HBY.out; have k1 := cstep K1.out HBY.out; have k2 := cstep K2.out HBY.out; have k3 := cstep K3.out HBY.out
    have y0 := HY.out.c0; have y1 := HY.out.c1
    clear HY
    rcases HS18.out with hS0 | hS0
    · have hN := HN.out hS0
      obtain ⟨⟨n1, ⟨n2, n3e⟩, nin⟩, ⟨⟨p1, p2⟩, p3, p4⟩, ⟨l1, l2, l3⟩, br, br2⟩ := hN
      rw [n1, n2] at H1
      rw [hS0, n3e] at H2
      rw [n1] at H7
      rw [hS0] at H8
      obtain ⟨Lr, hLr⟩ : ∃ l, l = levelsL B R := ⟨_, rfl⟩
      obtain ⟨Ls, hLs⟩ : ∃ l, l = levelsL B T := ⟨_, rfl⟩
      rw [← hLr] at H1 nin HRL
      rw [← hLs] at H2 nin HTL
      obtain ⟨A1, hA1⟩ : ∃ q, q = spanLo B R := ⟨_, rfl⟩
      obtain ⟨A2, hA2⟩ : ∃ q, q = spanHi B R := ⟨_, rfl⟩
      obtain ⟨A3, hA3⟩ : ∃ q, q = spanLo B T := ⟨_, rfl⟩
      obtain ⟨A4, hA4⟩ : ∃ q, q = spanHi B T := ⟨_, rfl⟩
      rw [← hA1, ← hA2] at H7
      rw [← hA3, ← hA4] at H8
      rw [← hA1] at p1 l1
      rw [← hA2] at p2 l2
      rw [← hA3] at p3 l1 l3
      rw [← hA4] at p4 l2 l3
      obtain ⟨e3, he3⟩ : ∃ e, e = broErr B R q := ⟨_, rfl⟩
      obtain ⟨e4, he4⟩ : ∃ e, e = broErr B T q := ⟨_, rfl⟩
      rw [← he3] at H9 br
      rw [← he4] at H10 br br2
      obtain ⟨v3, hv3⟩ : ∃ e, e = broX B R q := ⟨_, rfl⟩
      obtain ⟨v4, hv4⟩ : ∃ e, e = broX B T q := ⟨_, rfl⟩
      rw [← hv3] at H9
      rw [← hv4] at H10
      have P1 := hid fun (w' : World) => HPy.out A1 w'
      have P2 := hid fun (w' : World) => HPy.out A2 w'
      have P3 := hid fun (w' : World) => HPy.out A3 w'
      have P4 := hid fun (w' : World) => HPy.out A4 w'
      rw [p1] at P1
      rw [p2] at P2
      rw [p3] at P3
      rw [p4] at P4
      have L1 := hid fun (w' : World) => HC.out A3 A1 w' p3 p1
      have L2 := hid fun (w' : World) => HC.out A2 A4 w' p2 p4
      have L3 := hid fun (w' : World) => HC.out A4 A3 w' p4 p3
      rw [l1] at L1
      rw [l2] at L2
      rw [l3] at L3
      have Hin := hid nin; have Hbr := hid br; have Hbr2 := hid br2
      clear hS0 n1 n2 n3e nin p1 p2 p3 p4 l1 l2 l3 br br2 hLr hLs hA1 hA2 hA3 hA4 he3 he4 hv3 hv4
      go_wp2_with fail
      refine (H1.out _ HBY.out).mono ?_
      rintro e w9 ⟨uo, uc, rfl, hx, _, hB⟩
      have HB9 := hid (bstep HBY.out hB)
      have k0 := cstep k0 hB
      have k1 := cstep k1 hB
      have k2 := cstep k2 hB
      have k3 := cstep k3 hB
      have y0 := cstep y0 hB
      have y1 := cstep y1 hB
      have HRX := hid (HRX.out.mono hB)
      clear hB
      have HU := hid hx
      clear hx
      go_wp2_with fail
      refine (H2.out _ _ _ _ _ HB9.out HRX.out).mono ?_
      rintro e w10 ⟨vo, vc, rfl, hy, _, hB⟩
      have HB10 := hid (bstep HB9.out hB)
      have k0 := cstep k0 hB
      have k1 := cstep k1 hB
      have k2 := cstep k2 hB
      have k3 := cstep k3 hB
      have y0 := cstep y0 hB
      have y1 := cstep y1 hB
      have HRX := hid (HRX.out.mono hB)
      have HU := hid (HU.out.mono hB)
      clear hB
      have HVv := hid hy
      clear hy
      have hL1 : ¬ (11 : Int) < (Lr.length : Int) := by have := HRL.out; omega
      have hL2 : ¬ (11 : Int) < (Ls.length : Int) := by have := HTL.out; omega
      go_wp2
      go_loopw [22, 23, 24] (fun i _ _ wr => ∃ k : Nat, k ≤ Ls.length ∧ i = .int .i64 k ∧ Below w10.heap.size w10 wr) (fun i _ _ _ => Ls.length - (intOf i).toNat)
      case atStart => exact ⟨0, Nat.zero_le _, rfl, Below.refl _ _⟩
      case round =>
        obtain ⟨k, hk, rfl, hB⟩ := hrel
        obtain ⟨wj, rfl⟩ : ∃ wj : World, wj = wr := ⟨_, rfl⟩
        have HBj := hid hB
        have k0 := cstep k0 hB
        have k1 := cstep k1 hB
        have k2 := cstep k2 hB
        have k3 := cstep k3 hB
        have y0 := cstep y0 hB
        have y1 := cstep y1 hB
        have HRX := hid (HRX.out.mono hB)
        have HU := hid (HU.out.mono hB)
        have HVv := hid (HVv.out.mono hB)
        clear hB
        by_cases hkn : k < Ls.length
        · have hkI : (k : Int) < (Ls.length : Int) := by omega
          obtain ⟨vb, vo2, rfl, d1⟩ := HVv.out.at (k := k) hkn
          obtain ⟨y, hy⟩ : ∃ y, y = nth Ls k := ⟨_, rfl⟩
          rw [← hy] at d1
          have hany : (Lr.any fun x => decide (x = y)) = true := List.any_eq_true.2 ⟨y, Hin.out y (by rw [hy]; exact nth_mem hkn), by simp⟩
          have Hany := hid hany
          have v3e : IntKind.i64.wrap ((k : Int) + 1) = (k : Int) + 1 := wrap_i64_of (by omega) (by have := HTL.out; omega)
          clear hany hy
          go_wp2
          go_loopw [23, 24] (fun v j wr => ∃ n : Nat, n ≤ Lr.length ∧ j = .int .i64 n ∧ v = .bool ((Lr.take n).any fun x => decide (x = y)) ∧ Below wj.heap.size wj wr) (fun _ j _ => Lr.length - (intOf j).toNat)
          case atStart => exact ⟨0, Nat.zero_le _, rfl, rfl, Below.refl _ _⟩
          case round =>
            obtain ⟨n, hn, rfl, rfl, hB⟩ := hrel
            obtain ⟨wi, rfl⟩ : ∃ wi : World, wi = wr := ⟨_, rfl⟩
            have HBi := hid hB
            have d1 := cstep d1 hB
            have HU := hid (HU.out.mono hB)
            clear hB
            by_cases hnt : n < Lr.length
            · have hntI : (n : Int) < (Lr.length : Int) := by omega
              obtain ⟨ub, uo2, rfl, d0⟩ := HU.out.at (k := n) hnt
              have hs := any_succ (at_ := y) hnt
              obtain ⟨x, hx⟩ : ∃ x, x = nth Lr n := ⟨_, rfl⟩
              rw [← hx] at d0 hs
              obtain ⟨cc, hcc⟩ : ∃ c, c = decide (x = y) := ⟨_, rfl⟩
              rw [← hcc] at hs
              obtain ⟨v, hv⟩ : ∃ v, v = ((Lr.take n).any fun x => decide (x = y)) := ⟨_, rfl⟩
              rw [← hv] at hs ⊢
              have Hs := hid hs; have Hcc := hid hcc
              have v5 : IntKind.i64.wrap ((n : Int) + 1) = (n : Int) + 1 := wrap_i64_of (by omega) (by have := HRL.out; omega)
              clear hs hv hx hcc
              cases v with
              | true =>
                go_upto_region 21 with (fail)
                refine wp_region_later (by kernel_rfl) (by kernel_rfl) ?_
                repeat (go_big_quiet_step (fail))
                refine wpQuiet_nil ?_
                rintro w11 ⟨⟨_, hB⟩, rfl⟩
                have HB11 := hid (bstep HBi.out hB)
                have d0 := cstep d0 hB
                have d1 := cstep d1 hB
                clear hB
                go_wp2
                go_roundw
                case rel => exact ⟨n + 1, hnt, by go_num, by rw [Hs.out]; rfl, HB11.out⟩
                case measure => simp [intOf]; omega
              | false =>
                have jd0 := fun s : Later wi => cstep d0 s.h
                have jd1 := fun s : Later wi => cstep d1 s.h
                go_upto_region 21 with (fail)
                refine wp_region_later (by kernel_rfl) (by kernel_rfl) ?_
                repeat (go_big_quiet_step (fail))
                refine wpQuiet_nil ?_
                rintro w12 ⟨⟨_, hB⟩, rfl⟩
                clear jd0 jd1
                have HB12 := hid (bstep HBi.out hB)
                have d0 := cstep d0 hB
                have d1 := cstep d1 hB
                clear hB
                go_wp2
                go_roundw
                case rel => exact ⟨n + 1, hnt, by go_num, by rw [Hs.out, Hcc.out]; rfl, HB12.out⟩
                case measure => simp [intOf]; omega
            · have hnL : n = Lr.length := by omega
              rw [hnL, List.take_length, Hany.out]
              have hNN : ¬ (Lr.length : Int) < (Lr.length : Int) := by omega
              clear hnL hnt hn
              go_wp2
              go_roundw
              case rel => exact ⟨k + 1, by omega, by go_num, bstep HBj.out HBi.out⟩
              case measure => simp [intOf]; omega
        · have hkI : ¬ (k : Int) < (Ls.length : Int) := by omega
          have hkL : k = Ls.length := by omega
          rw [hkL]
          have hNN : ¬ (Ls.length : Int) < (Ls.length : Int) := by omega
          clear hkL hkn hk hkI
          have HBj := hid (bstep HB10.out HBj.out)
          go_wp2_with fail
          refine (H7.out _ HBj.out).mono ?_
          rintro e w13 ⟨rfl, hB⟩
          have HB13 := hid (bstep HBj.out hB)
          have k0 := cstep k0 hB
          have k1 := cstep k1 hB
          have k2 := cstep k2 hB
          have k3 := cstep k3 hB
          have y0 := cstep y0 hB
          have y1 := cstep y1 hB
          have HRX := hid (HRX.out.mono hB)
          clear hB
          go_upto_region 25 with (fail)
          obtain ⟨w14, hY⟩ : ∃ y, y = ((w13.alloc (.cells #[.int .i64 A1.1, .int .i64 A1.2] 32)).alloc (.cells #[.int .i64 A2.1, .int .i64 A2.2] 32)) := ⟨_, rfl⟩
          have hB : Below w13.heap.size w13 w14 := by rw [hY]; exact bstep (bnew _ _) (bnew _ _)
          have QA := hid (show Q2 w14 (w13.heap.size) A1.1 A1.2 by rw [hY]; constructor <;> simp [go_sem])
          have QB := hid (show Q2 w14 (w13.heap.size + 1) A2.1 A2.2 by rw [hY]; constructor <;> simp [go_sem])
          rw [← hY]
          obtain ⟨qa, hqa⟩ : ∃ q, q = w13.heap.size := ⟨_, rfl⟩
          obtain ⟨qb, hqb⟩ : ∃ q, q = w13.heap.size + 1 := ⟨_, rfl⟩
          rw [← hqb] at QB ⊢
          rw [← hqa] at QA ⊢
          clear hY hqa hqb
          have HB14 := hid (bstep HB13.out hB)
          have k0 := cstep k0 hB
          have k1 := cstep k1 hB
          have k2 := cstep k2 hB
          have k3 := cstep k3 hB
          have y0 := cstep y0 hB
          have y1 := cstep y1 hB
          have HRX := hid (HRX.out.mono hB)
          clear hB
          go_wp2_with fail
          refine (H8.out _ _ _ _ _ HB14.out HRX.out).mono ?_
          rintro e w15 ⟨rfl, hB⟩
          have HB15 := hid (bstep HB14.out hB)
          have k0 := cstep k0 hB
          have k1 := cstep k1 hB
          have k2 := cstep k2 hB
          have k3 := cstep k3 hB
          have y0 := cstep y0 hB
          have y1 := cstep y1 hB
          have HRX := hid (HRX.out.mono hB)
          have QA := hid (QA.out.mono hB)
          have QB := hid (QB.out.mono hB)
          clear hB
          go_upto_region 26 with (fail)
          obtain ⟨w16, hY⟩ : ∃ y, y = ((w15.alloc (.cells #[.int .i64 A3.1, .int .i64 A3.2] 32)).alloc (.cells #[.int .i64 A4.1, .int .i64 A4.2] 32)) := ⟨_, rfl⟩
          have hB : Below w15.heap.size w15 w16 := by rw [hY]; exact bstep (bnew _ _) (bnew _ _)
          have QC := hid (show Q2 w16 (w15.heap.size) A3.1 A3.2 by rw [hY]; constructor <;> simp [go_sem])
          have QD := hid (show Q2 w16 (w15.heap.size + 1) A4.1 A4.2 by rw [hY]; constructor <;> simp [go_sem])
          rw [← hY]
          obtain ⟨qc, hqc⟩ : ∃ q, q = w15.heap.size := ⟨_, rfl⟩
          obtain ⟨qd, hqd⟩ : ∃ q, q = w15.heap.size + 1 := ⟨_, rfl⟩
          rw [← hqd] at QD ⊢
          rw [← hqc] at QC ⊢
          clear hY hqc hqd
          have HB16 := hid (bstep HB15.out hB)
          have k0 := cstep k0 hB
          have k1 := cstep k1 hB
          have k2 := cstep k2 hB
          have k3 := cstep k3 hB
          have y0 := cstep y0 hB
          have y1 := cstep y1 hB
          have HRX := hid (HRX.out.mono hB)
          have QA := hid (QA.out.mono hB)
          have QB := hid (QB.out.mono hB)
          clear hB
          go_wp2_with fail
          refine (by_c w16 (n5 : Int) (1 + (n6 : Int))).mono ?_
          rintro e w17 ⟨rfl, hB⟩
          have HB17 := hid (bstep HB16.out hB)
          have k0 := cstep k0 hB
          have k1 := cstep k1 hB
          have k2 := cstep k2 hB
          have k3 := cstep k3 hB
          have y0 := cstep y0 hB
          have y1 := cstep y1 hB
          have HRX := hid (HRX.out.mono hB)
          have QA := hid (QA.out.mono hB)
          have QB := hid (QB.out.mono hB)
          have QC := hid (QC.out.mono hB)
          have QD := hid (QD.out.mono hB)
          clear hB
          go_upto_region 27 with (fail)
          obtain ⟨w18, hY⟩ : ∃ y, y = (w17.alloc (.cells #[.int .i64 (n5 : Int), .int .i64 (1 + (n6 : Int))] 32)) := ⟨_, rfl⟩
          have hB : Below w17.heap.size w17 w18 := by rw [hY]; exact bnew _ _
          have QP := hid (show Q2 w18 (w17.heap.size) (n5 : Int) (1 + (n6 : Int)) by rw [hY]; constructor <;> simp [go_sem])
          rw [← hY]
          obtain ⟨qp, hqp⟩ : ∃ q, q = w17.heap.size := ⟨_, rfl⟩
          rw [← hqp] at QP ⊢
          clear hY hqp
          have HB18 := hid (bstep HB17.out hB)
          have k0 := cstep k0 hB
          have k1 := cstep k1 hB
          have k2 := cstep k2 hB
          have k3 := cstep k3 hB
          have y0 := cstep y0 hB
          have y1 := cstep y1 hB
          have HRX := hid (HRX.out.mono hB)
          have QA := hid (QA.out.mono hB)
          have QB := hid (QB.out.mono hB)
          have QC := hid (QC.out.mono hB)
          have QD := hid (QD.out.mono hB)
          clear hB
          have z0 := QA.out.1; have z1 := QA.out.2; have z2 := QB.out.1; have z3 := QB.out.2; have z4 := QC.out.1; have z5 := QC.out.2; have z6 := QD.out.1; have z7 := QD.out.2; have z8 := QP.out.1; have z9 := QP.out.2
          clear QA QB QC QD QP
          rw [Hq.out] at H9 H10
          go_wp2_with fail
          refine (H9.out _ HB18.out).mono ?_
          rintro e w19 ⟨rfl, hB⟩
          have HB19 := hid (bstep HB18.out hB)
          have k0 := cstep k0 hB
          have k1 := cstep k1 hB
          have k2 := cstep k2 hB
          have k3 := cstep k3 hB
          have y0 := cstep y0 hB
          have y1 := cstep y1 hB
          have HRX := hid (HRX.out.mono hB)
          have z0 := cstep z0 hB
          have z1 := cstep z1 hB
          have z2 := cstep z2 hB
          have z3 := cstep z3 hB
          have z4 := cstep z4 hB
          have z5 := cstep z5 hB
          have z6 := cstep z6 hB
          have z7 := cstep z7 hB
          have z8 := cstep z8 hB
          have z9 := cstep z9 hB
          clear hB
          go_wp2_with fail
          refine (H10.out _ _ _ _ _ HB19.out HRX.out).mono ?_
          rintro e w20 ⟨rfl, hB⟩
          have HB20 := hid (bstep HB19.out hB)
          have k0 := cstep k0 hB
          have k1 := cstep k1 hB
          have k2 := cstep k2 hB
          have k3 := cstep k3 hB
          have y0 := cstep y0 hB
          have y1 := cstep y1 hB
          have HRX := hid (HRX.out.mono hB)
          have z0 := cstep z0 hB
          have z1 := cstep z1 hB
          have z2 := cstep z2 hB
          have z3 := cstep z3 hB
          have z4 := cstep z4 hB
          have z5 := cstep z5 hB
          have z6 := cstep z6 hB
          have z7 := cstep z7 hB
          have z8 := cstep z8 hB
          have z9 := cstep z9 hB
          clear hB
          go_wp2_with fail
          refine (P1.out _).mono ?_
          rintro e w21 ⟨rfl, hB⟩
          have HB21 := hid (bstep HB20.out hB)
          have z0 := cstep z0 hB
          have z1 := cstep z1 hB
          have z2 := cstep z2 hB
          have z3 := cstep z3 hB
          have z4 := cstep z4 hB
          have z5 := cstep z5 hB
          have z6 := cstep z6 hB
          have z7 := cstep z7 hB
          have z8 := cstep z8 hB
          have z9 := cstep z9 hB
          clear hB
          go_wp2_with fail
          refine (P2.out _).mono ?_
          rintro e w22 ⟨rfl, hB⟩
          have HB22 := hid (bstep HB21.out hB)
          have z0 := cstep z0 hB
          have z1 := cstep z1 hB
          have z2 := cstep z2 hB
          have z3 := cstep z3 hB
          have z4 := cstep z4 hB
          have z5 := cstep z5 hB
          have z6 := cstep z6 hB
          have z7 := cstep z7 hB
          have z8 := cstep z8 hB
          have z9 := cstep z9 hB
          clear hB
          go_wp2_with fail
          refine (P3.out _).mono ?_
          rintro e w23 ⟨rfl, hB⟩
          have HB23 := hid (bstep HB22.out hB)
          have z0 := cstep z0 hB
          have z1 := cstep z1 hB
          have z2 := cstep z2 hB
          have z3 := cstep z3 hB
          have z4 := cstep z4 hB
          have z5 := cstep z5 hB
          have z6 := cstep z6 hB
          have z7 := cstep z7 hB
          have z8 := cstep z8 hB
          have z9 := cstep z9 hB
          clear hB
          go_wp2_with fail
          refine (P4.out _).mono ?_
          rintro e w24 ⟨rfl, hB⟩
          have HB24 := hid (bstep HB23.out hB)
          have z0 := cstep z0 hB
          have z1 := cstep z1 hB
          have z2 := cstep z2 hB
          have z3 := cstep z3 hB
          have z4 := cstep z4 hB
          have z5 := cstep z5 hB
          have z6 := cstep z6 hB
          have z7 := cstep z7 hB
          have z8 := cstep z8 hB
          have z9 := cstep z9 hB
          clear hB
          go_wp2_with fail
          refine (L1.out _).mono ?_
          rintro e w25 ⟨rfl, hB⟩
          have HB25 := hid (bstep HB24.out hB)
          have z0 := cstep z0 hB
          have z1 := cstep z1 hB
          have z2 := cstep z2 hB
          have z3 := cstep z3 hB
          have z4 := cstep z4 hB
          have z5 := cstep z5 hB
          have z6 := cstep z6 hB
          have z7 := cstep z7 hB
          have z8 := cstep z8 hB
          have z9 := cstep z9 hB
          clear hB
          go_wp2_with fail
          refine (L2.out _).mono ?_
          rintro e w26 ⟨rfl, hB⟩
          have HB26 := hid (bstep HB25.out hB)
          have z0 := cstep z0 hB
          have z1 := cstep z1 hB
          have z2 := cstep z2 hB
          have z3 := cstep z3 hB
          have z4 := cstep z4 hB
          have z5 := cstep z5 hB
          have z6 := cstep z6 hB
          have z7 := cstep z7 hB
          have z8 := cstep z8 hB
          have z9 := cstep z9 hB
          clear hB
          go_wp2_with fail
          refine (L3.out _).mono ?_
          rintro e w27 ⟨rfl, hB⟩
          have HB27 := hid (bstep HB26.out hB)
          have z0 := cstep z0 hB
          have z1 := cstep z1 hB
          have z2 := cstep z2 hB
          have z3 := cstep z3 hB
          have z4 := cstep z4 hB
          have z5 := cstep z5 hB
          have z6 := cstep z6 hB
          have z7 := cstep z7 hB
          have z8 := cstep z8 hB
          have z9 := cstep z9 hB
          clear hB
          have fin : (e3 = 0 ∧ e4 = 0) ∨ (e3 = 0 ∧ e4 = 5) ∨ (e3 = 5 ∧ e4 = 5) := by
            rcases Hbr.out with h | ⟨h, h2⟩
            · rcases Hbr2.out with h2 | h2
              · exact .inl ⟨h, h2⟩
              · exact .inr (.inl ⟨h, h2⟩)
            · exact .inr (.inr ⟨h, h2⟩)
          clear Hbr Hbr2
          rcases fin with ⟨h1, h2⟩ | ⟨h1, h2⟩ | ⟨h1, h2⟩
          · subst h1 h2
            go_wp2_with fail
            refine (HW.out _).mono ?_
            rintro e w28 ⟨rfl, hB⟩
            have HB28 := hid (bstep HB27.out hB)
            have z0 := cstep z0 hB
            have z1 := cstep z1 hB
            have z2 := cstep z2 hB
            have z3 := cstep z3 hB
            have z4 := cstep z4 hB
            have z5 := cstep z5 hB
            have z6 := cstep z6 hB
            have z7 := cstep z7 hB
            have z8 := cstep z8 hB
            have z9 := cstep z9 hB
            clear hB
            go_wp2
            go_ret
            exact ⟨rfl, bstep HB0.out HB28.out⟩
          · subst h1 h2
            go_wp2_with fail
            refine (HW.out _).mono ?_
            rintro e w28 ⟨rfl, hB⟩
            have HB28 := hid (bstep HB27.out hB)
            have z0 := cstep z0 hB
            have z1 := cstep z1 hB
            have z2 := cstep z2 hB
            have z3 := cstep z3 hB
            have z4 := cstep z4 hB
            have z5 := cstep z5 hB
            have z6 := cstep z6 hB
            have z7 := cstep z7 hB
            have z8 := cstep z8 hB
            have z9 := cstep z9 hB
            clear hB
            go_wp2
            go_ret
            exact ⟨rfl, bstep HB0.out HB28.out⟩
          · subst h1 h2
            go_wp2_with fail
            refine (HW.out _).mono ?_
            rintro e w28 ⟨rfl, hB⟩
            have HB28 := hid (bstep HB27.out hB)
            have z0 := cstep z0 hB
            have z1 := cstep z1 hB
            have z2 := cstep z2 hB
            have z3 := cstep z3 hB
            have z4 := cstep z4 hB
            have z5 := cstep z5 hB
            have z6 := cstep z6 hB
            have z7 := cstep z7 hB
            have z8 := cstep z8 hB
            have z9 := cstep z9 hB
            clear hB
            go_wp2
            go_ret
            exact ⟨rfl, bstep HB0.out HB28.out⟩
    · rw [hS0] at H2
      clear hS0 HN
      go_wp2_with fail
      refine (H1.out _ HBY.out).mono ?_
      rintro e w29 ⟨uo, uc, rfl, _, _, hB⟩
      have HB29 := hid (bstep HBY.out hB)
      have k0 := cstep k0 hB
      have k1 := cstep k1 hB
      have k2 := cstep k2 hB
      have k3 := cstep k3 hB
      have y0 := cstep y0 hB
      have y1 := cstep y1 hB
      have HRX := hid (HRX.out.mono hB)
      clear hB
      go_wp2_with fail
      refine (H2.out _ _ _ _ _ HB29.out HRX.out).mono ?_
      rintro e w30 ⟨vo, vc, rfl, _, _, hB⟩
      have HB30 := hid (bstep HB29.out hB)
      have k0 := cstep k0 hB
      have k1 := cstep k1 hB
      have k2 := cstep k2 hB
      have k3 := cstep k3 hB
      have y0 := cstep y0 hB
      have y1 := cstep y1 hB
      have HRX := hid (HRX.out.mono hB)
      clear hB
      go_wp2_with fail
      refine (HW.out _).mono ?_
      rintro e w31 ⟨rfl, hB⟩
      have HB31 := hid (bstep HB30.out hB)
      clear hB
      go_wp2
      go_ret
      exact ⟨rfl, bstep HB0.out HB31.out⟩
end

end Go.Proofs.Ytnnojhpioenhbaa
