/- The law PinsKnown. -/
import Derived.Test.YtnnojhpioenhbaaKN
import Derived.Test.YtnnojhpioenhbaaXLa
import Derived.Deep.RegionHeld3
namespace Go.Proofs.Ytnnojhpioenhbaa
open Go.RowKit Go.Shelf

theorem kval0 : atErr exB (-5) = 0 := by decide +kernel
theorem kval1 : waysX exB 0 = [35, 25, 40] := by decide +kernel
theorem kval2 : waysX exB (-5) = [100, 0, 0] := by decide +kernel
theorem kval3 : payX exB 2 = (9, 2) := by decide +kernel
theorem kval4 : fallsErr exB 0 [1, 1] = 0 := by decide +kernel
theorem kval5 : fallsX exB 0 [1, 1] = 40 := by decide +kernel
theorem kval6 : fallsErr exB 0 [2, 0] = 3 := by decide +kernel
theorem kval7 : fallsX exB 0 [2, 0] = 0 := by decide +kernel
theorem kval8 : crErr exB exS [1, 0, 0, 0, 0, 0, 0, 0, 0, 0, 0] = 0 := by decide +kernel
theorem kval9 : crErr exB exS [1, 0] = 15 := by decide +kernel
theorem kval10 : cbErr exB exR (3, 1) (-2) = 16 := by decide +kernel
theorem kval11 : bdErr exB = 0 := by decide +kernel
theorem lit20 (w : World) (b : Nat) (hb : b = w.heap.size) : IntsAt (w.alloc (.cells #[.int .i64 2, .int .i64 0] 3)) (some ⟨b, 0, none⟩) [2, 0] := intsAt_new w [2, 0] b 3 hb
set_option maxRecDepth 100000 in
set_option maxHeartbeats 1000000 in
theorem makes_lit_g (dst : Option Tmp) (ty : TypeId) (pos : String) (after : Array Edge) (gd : Option (Nat × Bool)) (A : Act) (s : World) :
    makesOp Try.prog { dst := dst, op := .buildSlice 23 3 #[(0, .const (.int .i64 35)), (1, .const (.int .i64 25)), (2, .const (.int .i64 40))], type := ty, pos := pos, after := after, guard := gd } A s fun v s' => Below s.heap.size s s' ∧ ListV [35, 25, 40] v s' := by
  unfold makesOp
  simp [go_sem]
  exact ⟨bnew _ _, _, rfl, intsAt_new s [35, 25, 40] _ 2 rfl⟩
set_option maxRecDepth 100000 in
set_option maxHeartbeats 1000000 in
theorem makes_lit_h (dst : Option Tmp) (ty : TypeId) (pos : String) (after : Array Edge) (gd : Option (Nat × Bool)) (A : Act) (s : World) :
    makesOp Try.prog { dst := dst, op := .buildSlice 23 3 #[(0, .const (.int .i64 100)), (1, .const (.int .i64 0)), (2, .const (.int .i64 0))], type := ty, pos := pos, after := after, guard := gd } A s fun v s' => Below s.heap.size s s' ∧ ListV [100, 0, 0] v s' := by
  unfold makesOp
  simp [go_sem]
  exact ⟨bnew _ _, _, rfl, intsAt_new s [100, 0, 0] _ 2 rfl⟩
set_option maxRecDepth 100000 in
set_option maxHeartbeats 1000000 in
theorem makes_lit_i (dst : Option Tmp) (ty : TypeId) (pos : String) (after : Array Edge) (gd : Option (Nat × Bool)) (A : Act) (s : World) :
    makesOp Try.prog { dst := dst, op := .buildSlice 42 2 #[(0, .const (.int .i64 1)), (1, .const (.int .i64 0))], type := ty, pos := pos, after := after, guard := gd } A s fun v s' => Below s.heap.size s s' ∧ ListV [1, 0] v s' := by
  unfold makesOp
  simp [go_sem]
  exact ⟨bnew _ _, _, rfl, intsAt_new s [1, 0] _ 3 rfl⟩

set_option maxRecDepth 100000 in
set_option maxHeartbeats 1000000 in
theorem makes_cr (dst : Option Tmp) (ty : TypeId) (pos : String) (after : Array Edge) (gd : Option (Nat × Bool)) (A : Act) (s : World) (x y z : Tmp) {q b1 b2 r1 r2 s1 s2 : Nat} (E : Ex s q b1 b2 r1 r2 s1 s2) (p : List Int) (err : Int) (a : Option Addr)
    (hx : A.eval (.tmp x) = .agg #[.slice (some ⟨b1, 0, none⟩) 2 2, .slice (some ⟨b2, 0, none⟩) 3 3]) (hy : A.eval (.tmp y) = .agg #[.slice (some ⟨s1, 0, none⟩) 1 1, .slice (some ⟨s2, 0, none⟩) 1 1]) (hz : A.eval (.tmp z) = .slice a p.length p.length)
    (hp : IntsAt s a p) (hl : p.length ≤ 1000000) (he : crErr exB exS p = err) :
    makesOp Try.prog { dst := dst, op := .call { callee := .value (.func 40), args := #[.tmp x, .tmp y, .tmp z], argTypes := #[25, 51, 42] }, type := ty, pos := pos, after := after, guard := gd } A s fun u s' => Below s.heap.size s s' ∧ u = .int .i64 err := by
  have hx' : A.tmps[x]?.getD undef = .agg #[.slice (some ⟨b1, 0, none⟩) 2 2, .slice (some ⟨b2, 0, none⟩) 3 3] := by simpa [Act.eval] using hx
  have hy' : A.tmps[y]?.getD undef = .agg #[.slice (some ⟨s1, 0, none⟩) 1 1, .slice (some ⟨s2, 0, none⟩) 1 1] := by simpa [Act.eval] using hy
  have hz' : A.tmps[z]?.getD undef = .slice a p.length p.length := by simpa [Act.eval] using hz
  unfold makesOp
  simp [go_sem, hx', hy', hz']
  refine (kCr E err p a hp hl he).mono ?_
  rintro e w' ⟨h1, hB⟩
  first | exact ⟨_, h1, hB, rfl⟩ | exact ⟨hB, h1⟩ | exact ⟨h1, hB⟩

def nz7 : List (Nat × Tmp) := [(2, 51), (3, 52), (7, 56), (8, 57)]
def dp7 (i : Nat) : List Nat := if i = 3 then [2] else if i = 4 then [3] else if i = 8 then [7] else if i = 9 then [8] else []
def ls7 (i : Nat) : List Int := if i = 2 then [1, 0, 0, 0, 0, 0, 0, 0, 0, 0, 0] else if i = 3 then [1, 0, 0, 0, 0, 0, 0, 0, 0, 0, 0] else [1, 0]
def Φ7 (i : Nat) (_ : List Value) (v : Value) (_ q : World) : Prop := ListV (ls7 i) v q
def nz9 : List (Nat × Tmp) := [(4, 67), (5, 68), (14, 77), (15, 78)]
def dp9 (i : Nat) : List Nat := if i = 5 then [4] else if i = 6 then [5] else if i = 15 then [14] else if i = 16 then [15] else []
def ls9 (i : Nat) : List Int := if i = 4 then [35, 25, 40] else if i = 5 then [35, 25, 40] else [100, 0, 0]
def Φ9 (i : Nat) (_ : List Value) (v : Value) (_ q : World) : Prop := ListV (ls9 i) v q
set_option maxRecDepth 100000 in
set_option maxHeartbeats 60000000 in
theorem pinsKnown_c (w : World) (hworks : WorksC) : Calls Try.prog 15 #[] w (TellB w true) := by
  have HWk := hid hworks
  unfold WorksC at hworks HWk
  unfold TellB at *
  clear hworks
  go_enter Try.func15, Try.ntmps15
  go_wp2_with fail
  refine (board_c _).mono ?_
  rintro e w1 ⟨b1, b2, rfl, hb, hB1⟩
  go_wp2_with fail
  refine (one_c _).mono ?_
  rintro e w2 ⟨r1, r2, rfl, hr, hB2⟩
  go_wp2_with fail
  refine (two_c _).mono ?_
  rintro e w3 ⟨s1, s2, rfl, hs, hB3⟩
  obtain ⟨V, hV, hB0, k0, k1, k2, k3, k4, k5⟩ := box3 w3 (.slice (some ⟨b1, 0, none⟩) 2 2) (.slice (some ⟨b2, 0, none⟩) 3 3) (.slice (some ⟨r1, 0, none⟩) 1 1) (.slice (some ⟨r2, 0, none⟩) 1 1) (.slice (some ⟨s1, 0, none⟩) 1 1) (.slice (some ⟨s2, 0, none⟩) 1 1) 25 51 51
  have HE := hid (show Ex V w3.heap.size b1 b2 r1 r2 s1 s2 from ⟨k0, k1, k2, k3, k4, k5, ((hb.mono hB2).mono hB3).mono hB0, (hr.mono hB3).mono hB0, hs.mono hB0⟩)
  have HB := hid (bstep (bstep (bstep hB1 hB2) hB3) hB0)
  have HV := hid hV
  clear hV hB0 k0 k1 k2 k3 k4 k5 hb hr hs hB1 hB2 hB3
  go_wp2_with fail
  rw [← HV.out]
  obtain ⟨q, hq⟩ : ∃ q, q = w3.heap.size := ⟨_, rfl⟩
  rw [← hq] at HE ⊢
  clear HV hq
  refine (kWays HE.out 0 0 _ v3 kval1).mono ?_
  rintro e x1 ⟨aw, caw, rfl, hx, _, hB⟩
  have HE' := hid (HE.out.mono hB); have HB' := hid (bstep HB.out hB)
  clear HE HB 
  have HE := HE'; have HB := HB'
  clear HE' HB' 
  have LW := hid hx
  clear hB hx
  have k0 := HE.out.k0; have k1 := HE.out.k1; have k2 := HE.out.k2; have k3 := HE.out.k3; have k4 := HE.out.k4; have k5 := HE.out.k5
  go_wp2_with fail
  refine (kWays HE.out (-5) 0 _ kval0 kval2).mono ?_
  rintro e x2 ⟨av, cav, rfl, hx, _, hB⟩
  have HE' := hid (HE.out.mono hB); have HB' := hid (bstep HB.out hB)
  have LW' := hid (LW.out.mono hB)
  clear HE HB LW
  have HE := HE'; have HB := HB'
  have LW := LW'
  clear HE' HB' LW'
  have LV := hid hx
  clear hB hx k0 k1 k2 k3 k4 k5
  have k0 := HE.out.k0; have k1 := HE.out.k1; have k2 := HE.out.k2; have k3 := HE.out.k3; have k4 := HE.out.k4; have k5 := HE.out.k5
  go_wp2_with fail
  refine (kPay HE.out 2 0 _ v1 kval3).mono ?_
  rintro e x3 ⟨rfl, hB⟩
  have HE' := hid (HE.out.mono hB); have HB' := hid (bstep HB.out hB)
  have LW' := hid (LW.out.mono hB)
  have LV' := hid (LV.out.mono hB)
  clear HE HB LW LV
  have HE := HE'; have HB := HB'
  have LW := LW'
  have LV := LV'
  clear HE' HB' LW' LV'
  clear hB k0 k1 k2 k3 k4 k5
  have k0 := HE.out.k0; have k1 := HE.out.k1; have k2 := HE.out.k2; have k3 := HE.out.k3; have k4 := HE.out.k4; have k5 := HE.out.k5
  go_upto_region 5 with (fail)
  obtain ⟨x4, hY⟩ : ∃ y, y = (x3.alloc (.cells #[.int .i64 9, .int .i64 2] 32)) := ⟨_, rfl⟩
  have hB : Below x3.heap.size x3 x4 := by rw [hY]; exact bnew _ _
  have LP := hid (show x4.cell? ⟨x3.heap.size, 0, none⟩ = some (.int .i64 9) ∧ x4.cell? ⟨x3.heap.size, 1, none⟩ = some (.int .i64 2) by rw [hY]; constructor <;> simp [go_sem])
  rw [← hY]
  obtain ⟨qp, hqp⟩ : ∃ q, q = x3.heap.size := ⟨_, rfl⟩
  rw [← hqp] at LP ⊢
  clear hY hqp k0 k1 k2 k3 k4 k5
  have HE' := hid (HE.out.mono hB); have HB' := hid (bstep HB.out hB)
  have LW' := hid (LW.out.mono hB)
  have LV' := hid (LV.out.mono hB)
  clear HE HB LW LV
  have HE := HE'; have HB := HB'
  have LW := LW'
  have LV := LV'
  clear HE' HB' LW' LV'
  clear hB
  have k0 := HE.out.k0; have k1 := HE.out.k1; have k2 := HE.out.k2; have k3 := HE.out.k3; have k4 := HE.out.k4; have k5 := HE.out.k5
  have Q0 := hid fun (b : Nat) (w' : World) (h : Below x4.heap.size x4 w') (ht : IntsAt w' (some ⟨b, 0, none⟩) [1, 1]) => (show Calls Try.prog 28 #[.agg #[.slice (some ⟨b1, 0, none⟩) 2 2, .slice (some ⟨b2, 0, none⟩) 3 3], .int .i64 0, .slice (some ⟨b, 0, none⟩) 2 2] w' _ from kFalls (HE.out.mono h) 0 0 40 [1, 1] (some ⟨b, 0, none⟩) ht (by decide) kval4 kval5)
  go_cut [10, 11] from 35 to 41 (fun a b x5 => a = .int .i64 40 ∧ b = .int .i64 0 ∧ Below x4.heap.size x4 x5)
  case first =>
    go_region_held3 (fun w' => w'.cell? ⟨q, 0, none⟩ = some (.slice (some ⟨b1, 0, none⟩) 2 2) ∧ w'.cell? ⟨q, 1, none⟩ = some (.slice (some ⟨b2, 0, none⟩) 3 3)) (first | exact ⟨cstep k0 (by with_reducible repeat (first | exact Below.refl _ _ | refine Below.drew ?_ | refine bstep ?_ (bnew _ _) | (refine bstep ?_ (by assumption)))), cstep k1 (by with_reducible repeat (first | exact Below.refl _ _ | refine Below.drew ?_ | refine bstep ?_ (bnew _ _) | (refine bstep ?_ (by assumption))))⟩ | go_keep)
      (first
        | (go_at_call 64; refine (of_c _ _).mono ?_; rintro e wx ⟨rfl, rfl⟩)
        | (go_at_call 28; (with_reducible refine (Q0.out _ _ (by with_reducible repeat (first | exact Below.refl _ _ | refine Below.drew ?_ | refine bstep ?_ (bnew _ _) | (refine bstep ?_ (by assumption)))) (by with_reducible repeat (first | assumption | refine IntsAt.undrew ?_ | exact lit11 _ _ rfl | exact lit11 _ _ (by simp) | refine IntsAt.mono ?_ (bnew _ _) | (refine IntsAt.mono ?_ (by assumption))))).mono ?_); rintro e wc0 ⟨rfl, hB0⟩))
    all_goals (
      go_wp2
      go_meet
      exact ⟨rfl, rfl, (by with_reducible repeat (first | exact Below.refl _ _ | refine Below.drew ?_ | refine bstep ?_ (bnew _ _) | (refine bstep ?_ (by assumption))))⟩)
  obtain ⟨rfl, rfl, hB⟩ := hcut
  rename World => x5
  clear Q0 k0 k1 k2 k3 k4 k5
  have HE' := hid (HE.out.mono hB); have HB' := hid (bstep HB.out hB)
  have LW' := hid (LW.out.mono hB)
  have LV' := hid (LV.out.mono hB)
  clear HE HB LW LV
  have HE := HE'; have HB := HB'
  have LW := LW'
  have LV := LV'
  clear HE' HB' LW' LV'
  have LP' := hid (show x5.cell? ⟨qp, 0, none⟩ = some (.int .i64 9) ∧ x5.cell? ⟨qp, 1, none⟩ = some (.int .i64 2) from ⟨cstep LP.out.1 hB, cstep LP.out.2 hB⟩)
  clear LP
  have LP := LP'
  clear LP'
  clear hB
  have k0 := HE.out.k0; have k1 := HE.out.k1; have k2 := HE.out.k2; have k3 := HE.out.k3; have k4 := HE.out.k4; have k5 := HE.out.k5
  have Q0 := hid fun (b : Nat) (w' : World) (h : Below x5.heap.size x5 w') (ht : IntsAt w' (some ⟨b, 0, none⟩) [2, 0]) => (show Calls Try.prog 28 #[.agg #[.slice (some ⟨b1, 0, none⟩) 2 2, .slice (some ⟨b2, 0, none⟩) 3 3], .int .i64 0, .slice (some ⟨b, 0, none⟩) 2 2] w' _ from kFalls (HE.out.mono h) 0 3 0 [2, 0] (some ⟨b, 0, none⟩) ht (by decide) kval6 kval7)
  go_upto_region 6 with (fail)
  go_cut [12, 13] from 42 to 48 (fun a b x6 => a = .int .i64 0 ∧ b = .int .i64 3 ∧ Below x5.heap.size x5 x6)
  case first =>
    go_region_held3 (fun w' => w'.cell? ⟨q, 0, none⟩ = some (.slice (some ⟨b1, 0, none⟩) 2 2) ∧ w'.cell? ⟨q, 1, none⟩ = some (.slice (some ⟨b2, 0, none⟩) 3 3)) (first | exact ⟨cstep k0 (by with_reducible repeat (first | exact Below.refl _ _ | refine Below.drew ?_ | refine bstep ?_ (bnew _ _) | (refine bstep ?_ (by assumption)))), cstep k1 (by with_reducible repeat (first | exact Below.refl _ _ | refine Below.drew ?_ | refine bstep ?_ (bnew _ _) | (refine bstep ?_ (by assumption))))⟩ | go_keep)
      (first
        | (go_at_call 64; refine (of_c _ _).mono ?_; rintro e wx ⟨rfl, rfl⟩)
        | (go_at_call 28; (with_reducible refine (Q0.out _ _ (by with_reducible repeat (first | exact Below.refl _ _ | refine Below.drew ?_ | refine bstep ?_ (bnew _ _) | (refine bstep ?_ (by assumption)))) (by with_reducible repeat (first | assumption | refine IntsAt.undrew ?_ | exact lit20 _ _ rfl | exact lit20 _ _ (by simp) | refine IntsAt.mono ?_ (bnew _ _) | (refine IntsAt.mono ?_ (by assumption))))).mono ?_); rintro e wc0 ⟨rfl, hB0⟩))
    all_goals (
      go_wp2
      go_meet
      exact ⟨rfl, rfl, (by with_reducible repeat (first | exact Below.refl _ _ | refine Below.drew ?_ | refine bstep ?_ (bnew _ _) | (refine bstep ?_ (by assumption))))⟩)
  obtain ⟨rfl, rfl, hB⟩ := hcut
  rename World => x6
  clear Q0 k0 k1 k2 k3 k4 k5
  have HE' := hid (HE.out.mono hB); have HB' := hid (bstep HB.out hB)
  have LW' := hid (LW.out.mono hB)
  have LV' := hid (LV.out.mono hB)
  clear HE HB LW LV
  have HE := HE'; have HB := HB'
  have LW := LW'
  have LV := LV'
  clear HE' HB' LW' LV'
  have LP' := hid (show x6.cell? ⟨qp, 0, none⟩ = some (.int .i64 9) ∧ x6.cell? ⟨qp, 1, none⟩ = some (.int .i64 2) from ⟨cstep LP.out.1 hB, cstep LP.out.2 hB⟩)
  clear LP
  have LP := LP'
  clear LP'
  clear hB
  have k0 := fun (J : World → Prop) (s : LaterJ x6 J) => (HE.out.mono s.h).k0
  have k1 := fun (J : World → Prop) (s : LaterJ x6 J) => (HE.out.mono s.h).k1
  have k2 := fun (J : World → Prop) (s : LaterJ x6 J) => (HE.out.mono s.h).k2
  have k3 := fun (J : World → Prop) (s : LaterJ x6 J) => (HE.out.mono s.h).k3
  have k4 := fun (J : World → Prop) (s : LaterJ x6 J) => (HE.out.mono s.h).k4
  have k5 := fun (J : World → Prop) (s : LaterJ x6 J) => (HE.out.mono s.h).k5
  have jLPa := fun (J : World → Prop) (s : LaterJ x6 J) => cstep LP.out.1 s.h
  have jLPb := fun (J : World → Prop) (s : LaterJ x6 J) => cstep LP.out.2 s.h
  go_upto_region 7 with (fail)
  refine wp_region_mix2 (n := 10) (nz := nz7) (kn := [4, 9]) (dp := dp7) (bs := [.keep, .keep, .off, .off, .say (.int .i64 0), .keep, .keep, .off, .off, .say (.int .i64 15), .off, .off]) (Φ := Φ7) (by kernel_rfl) (by kernel_rfl) (by simp [nz7]) ?_
  simp only [blind2, Bk.on, blindO, knO]
  repeat (gi_big_quiet_step (fail))
  refine wpQuietIn_nil ?_
  refine ⟨?_, ?_, ?_, ?_⟩
  · intro J hJ hne
    repeat (gi_big_quiet_step (fail))
    exact wpQuietIn_nil rfl
  all_goals (generalize hG : (Act.mk _ _ : Act) = G)
  all_goals (have hGz : G.tmps.size = 122 := by rw [← hG]; rfl)
  · intro i hi o ho r s hs hd
    have hi2 : 2 = i ∨ 3 = i ∨ 7 = i ∨ 8 = i := by simpa [isNz, nz7] using hi
    rcases hi2 with rfl | rfl | rfl | rfl
    · simp only [List.getElem?_cons_succ, List.getElem?_cons_zero, Option.some.injEq] at ho
      subst ho
      refine ⟨by simp [Region.wanted], ?_⟩
      exact makes_lit_f _ _ _ _ _ _ s
    · simp only [List.getElem?_cons_succ, List.getElem?_cons_zero, Option.some.injEq] at ho
      subst ho
      refine ⟨by simp [Region.wanted], ?_⟩
      obtain ⟨p0, q0, h1, h2⟩ := hd 2 (by simp [dp7])
      have h1 : ListV [1, 0, 0, 0, 0, 0, 0, 0, 0, 0, 0] (r 2) q0 := h1
      refine makesOp_mono (makes_of64 _ _ _ _ _ _ s 51 _ (putN_ev_nz (i := 2) (by simp [nz7]) ⟨(2, 51), by simp [nz7], rfl⟩ (by rw [hGz]; decide))) ?_
      rintro v s' ⟨h3, rfl, rfl⟩
      exact ⟨h3, h1.mono h2⟩
    · simp only [List.getElem?_cons_succ, List.getElem?_cons_zero, Option.some.injEq] at ho
      subst ho
      refine ⟨by simp [Region.wanted], ?_⟩
      exact makes_lit_i _ _ _ _ _ _ s
    · simp only [List.getElem?_cons_succ, List.getElem?_cons_zero, Option.some.injEq] at ho
      subst ho
      refine ⟨by simp [Region.wanted], ?_⟩
      obtain ⟨p0, q0, h1, h2⟩ := hd 7 (by simp [dp7])
      have h1 : ListV [1, 0] (r 7) q0 := h1
      refine makesOp_mono (makes_of64 _ _ _ _ _ _ s 56 _ (putN_ev_nz (i := 7) (by simp [nz7]) ⟨(7, 56), by simp [nz7], rfl⟩ (by rw [hGz]; decide))) ?_
      rintro v s' ⟨h3, rfl, rfl⟩
      exact ⟨h3, h1.mono h2⟩
  · intro i hi o ho r s hs hd
    have hi2 : i = 4 ∨ i = 9 := by simpa [isKn] using hi
    rcases hi2 with rfl | rfl
    · simp only [List.getElem?_cons_succ, List.getElem?_cons_zero, Option.some.injEq] at ho
      subst ho
      obtain ⟨p0, q0, h1, h2⟩ := hd 3 (by simp [dp7])
      have h1 : ListV [1, 0, 0, 0, 0, 0, 0, 0, 0, 0, 0] (r 3) q0 := h1
      obtain ⟨a0, h3, h4⟩ := h1
      exact makes_cr _ _ _ _ _ _ s 49 50 52 (HE.out.mono hs) [1, 0, 0, 0, 0, 0, 0, 0, 0, 0, 0] 0 _ (putN_ev (by simp [nz7]) (by rw [← hG]; rfl)) (putN_ev (by simp [nz7]) (by rw [← hG]; rfl)) ((putN_ev_nz (i := 3) (by simp [nz7]) ⟨(3, 52), by simp [nz7], rfl⟩ (by rw [hGz]; decide)).trans h3) (h4.mono h2) (by decide) kval8
    · simp only [List.getElem?_cons_succ, List.getElem?_cons_zero, Option.some.injEq] at ho
      subst ho
      obtain ⟨p0, q0, h1, h2⟩ := hd 8 (by simp [dp7])
      have h1 : ListV [1, 0] (r 8) q0 := h1
      obtain ⟨a0, h3, h4⟩ := h1
      exact makes_cr _ _ _ _ _ _ s 54 55 57 (HE.out.mono hs) [1, 0] 15 _ (putN_ev (by simp [nz7]) (by rw [← hG]; rfl)) (putN_ev (by simp [nz7]) (by rw [← hG]; rfl)) ((putN_ev_nz (i := 8) (by simp [nz7]) ⟨(8, 57), by simp [nz7], rfl⟩ (by rw [hGz]; decide)).trans h3) (h4.mono h2) (by decide) kval9
  intro r p0 q0 x7 hs hz1 hz2
  clear hz1 hz2
  have ha : (putN nz7 r G).eval (.tmp 53) = .int .i64 0 := putN_ev (by simp [nz7]) (by rw [← hG]; rfl)
  have hb : (putN nz7 r G).eval (.tmp 58) = .int .i64 15 := putN_ev (by simp [nz7]) (by rw [← hG]; rfl)
  have hput : putN nz7 r G = (((G.put (some 51) (r 2)).put (some 52) (r 3)).put (some 56) (r 7)).put (some 57) (r 8) := rfl
  rw [hput, ← hG]
  simp only [List.drop_succ_cons, List.drop_zero, Act.put, List.setIfInBounds_toArray, List.set_cons_succ, List.set_cons_zero]
  clear ha hb hput hG hGz k0 k1 k2 k3 k4 k5 jLPa jLPb
  obtain ⟨mm2, hmm2⟩ : ∃ v, v = r 2 := ⟨_, rfl⟩
  obtain ⟨mm3, hmm3⟩ : ∃ v, v = r 3 := ⟨_, rfl⟩
  obtain ⟨mm7, hmm7⟩ : ∃ v, v = r 7 := ⟨_, rfl⟩
  obtain ⟨mm8, hmm8⟩ : ∃ v, v = r 8 := ⟨_, rfl⟩
  rw [← hmm2, ← hmm3, ← hmm7, ← hmm8]
  clear hmm2 hmm3 hmm7 hmm8
  clear p0 q0 r
  gi_wp2
  have hB := hs
  clear hs
  have HE' := hid (HE.out.mono hB); have HB' := hid (bstep HB.out hB)
  have LW' := hid (LW.out.mono hB)
  have LV' := hid (LV.out.mono hB)
  clear HE HB LW LV
  have HE := HE'; have HB := HB'
  have LW := LW'
  have LV := LV'
  clear HE' HB' LW' LV'
  have LP' := hid (show x7.cell? ⟨qp, 0, none⟩ = some (.int .i64 9) ∧ x7.cell? ⟨qp, 1, none⟩ = some (.int .i64 2) from ⟨cstep LP.out.1 hB, cstep LP.out.2 hB⟩)
  clear LP
  have LP := LP'
  clear LP'
  clear hB
  have k0 := fun s : Later x7 => (HE.out.mono s.h).k0
  have k1 := fun s : Later x7 => (HE.out.mono s.h).k1
  have k2 := fun s : Later x7 => (HE.out.mono s.h).k2
  have k3 := fun s : Later x7 => (HE.out.mono s.h).k3
  have k4 := fun s : Later x7 => (HE.out.mono s.h).k4
  have k5 := fun s : Later x7 => (HE.out.mono s.h).k5
  have HY := hid fun s : Later x7 => (show Calls Try.prog 57 #[.int .i64 3, .int .i64 1] s.w' (fun e w' => e = .returned (.agg #[.int .i64 3, .int .i64 1]) ∧ Below s.w'.heap.size s.w' w') from by_c s.w' 3 1)
  have HR := hid fun s : Later x7 => (show Calls Try.prog 46 #[.agg #[.slice (some ⟨b1, 0, none⟩) 2 2, .slice (some ⟨b2, 0, none⟩) 3 3], .agg #[.slice (some ⟨r1, 0, none⟩) 1 1, .slice (some ⟨r2, 0, none⟩) 1 1], .agg #[.int .i64 3, .int .i64 1], .int .i64 (-2)] s.w' (fun e w' => e = .returned (.int .i64 16) ∧ Below s.w'.heap.size s.w' w') from kCb (HE.out.mono s.h) (3, 1) (-2) 16 kval10)
  go_upto_region 8 with (fail)
  refine wp_region_later (by kernel_rfl) (by kernel_rfl) ?_
  repeat (go_big_quiet_step ((first | (go_at_call 57; with_reducible exact callsLater (HY.out _)) | (go_at_call 46; with_reducible exact callsLater (HR.out _)))))
  refine wpQuiet_nil ?_
  rintro x8 ⟨⟨_, hB⟩, rfl⟩
  clear k0 k1 k2 k3 k4 k5 HY HR
  have HE' := hid (HE.out.mono hB); have HB' := hid (bstep HB.out hB)
  have LW' := hid (LW.out.mono hB)
  have LV' := hid (LV.out.mono hB)
  clear HE HB LW LV
  have HE := HE'; have HB := HB'
  have LW := LW'
  have LV := LV'
  clear HE' HB' LW' LV'
  have LP' := hid (show x8.cell? ⟨qp, 0, none⟩ = some (.int .i64 9) ∧ x8.cell? ⟨qp, 1, none⟩ = some (.int .i64 2) from ⟨cstep LP.out.1 hB, cstep LP.out.2 hB⟩)
  clear LP
  have LP := LP'
  clear LP'
  clear hB
  have k0 := fun (J : World → Prop) (s : LaterJ x8 J) => (HE.out.mono s.h).k0
  have k1 := fun (J : World → Prop) (s : LaterJ x8 J) => (HE.out.mono s.h).k1
  have k2 := fun (J : World → Prop) (s : LaterJ x8 J) => (HE.out.mono s.h).k2
  have k3 := fun (J : World → Prop) (s : LaterJ x8 J) => (HE.out.mono s.h).k3
  have k4 := fun (J : World → Prop) (s : LaterJ x8 J) => (HE.out.mono s.h).k4
  have k5 := fun (J : World → Prop) (s : LaterJ x8 J) => (HE.out.mono s.h).k5
  have jLPa := fun (J : World → Prop) (s : LaterJ x8 J) => cstep LP.out.1 s.h
  have jLPb := fun (J : World → Prop) (s : LaterJ x8 J) => cstep LP.out.2 s.h
  have HY := hid fun (J : World → Prop) (s : LaterJ x8 J) => (show Calls Try.prog 57 #[.int .i64 9, .int .i64 2] s.w' (fun e w' => e = .returned (.agg #[.int .i64 9, .int .i64 2]) ∧ Below s.w'.heap.size s.w' w') from by_c s.w' 9 2)
  have HC := hid fun (J : World → Prop) (s : LaterJ x8 J) => (show Calls Try.prog 24 #[.agg #[.slice (some ⟨b1, 0, none⟩) 2 2, .slice (some ⟨b2, 0, none⟩) 3 3]] s.w' (fun e w' => e = .returned (.int .i64 0) ∧ Below s.w'.heap.size s.w' w') from by have := checkBoard_c _ 2 _ 3 exB s.w' ((HE.out.mono s.h).b) lB lY; unfold TellI at this; rw [kval11] at this; exact this)
  have HWj := hid fun (J : World → Prop) (s : LaterJ x8 J) => (show Calls Try.prog 17 #[] s.w' (fun e w' => e = .returned (.bool true) ∧ Below s.w'.heap.size s.w' w') from HWk.out s.w')
  go_upto_region 9 with (fail)
  refine wp_region_mix2 (n := 59) (nz := nz9) (kn := [6, 16]) (dp := dp9) (bs := [.keep, .keep, .keep, .keep, .off, .off, .say (.bool true), .keep, .keep, .keep, .keep, .keep, .keep, .keep, .off, .off, .say (.bool true), .keep, .keep, .keep, .keep, .keep, .keep, .keep, .keep, .keep, .keep, .keep, .keep, .keep, .keep, .keep, .keep, .keep, .keep, .keep, .keep, .keep, .keep, .keep, .keep, .keep, .keep, .keep, .keep, .keep, .keep, .keep, .keep, .keep, .keep, .keep, .keep, .keep, .keep, .keep, .keep, .keep, .keep, .off]) (Φ := Φ9) (by kernel_rfl) (by kernel_rfl) (by simp [nz9]) ?_
  simp only [blind2, Bk.on, blindO, knO]
  repeat (gi_big_quiet_step ((first | (refine ⟨rfl, ?_⟩; gi_at_call 57; exact callsJ abidesT (HY.out _ _)) | (refine ⟨rfl, ?_⟩; gi_at_call 24; exact callsJ abidesT (HC.out _ _)) | (refine ⟨rfl, ?_⟩; gi_at_call 17; exact callsJ abidesT (HWj.out _ _)))))
  refine wpQuietIn_nil ?_
  refine ⟨?_, ?_, ?_, ?_⟩
  · intro J hJ hne
    repeat (gi_big_quiet_step ((first | (refine ⟨rfl, ?_⟩; gi_at_call 57; exact callsJ hJ (HY.out _ _)) | (refine ⟨rfl, ?_⟩; gi_at_call 24; exact callsJ hJ (HC.out _ _)) | (refine ⟨rfl, ?_⟩; gi_at_call 17; exact callsJ hJ (HWj.out _ _)))))
    exact wpQuietIn_nil rfl
  all_goals (generalize hG : (Act.mk _ _ : Act) = G)
  all_goals (have hGz : G.tmps.size = 122 := by rw [← hG]; rfl)
  · intro i hi o ho r s hs hd
    have hi2 : 4 = i ∨ 5 = i ∨ 14 = i ∨ 15 = i := by simpa [isNz, nz9] using hi
    rcases hi2 with rfl | rfl | rfl | rfl
    · simp only [List.getElem?_cons_succ, List.getElem?_cons_zero, Option.some.injEq] at ho
      subst ho
      refine ⟨wanted_at (g := 2) (t := 65) rfl rfl (by simp [nz9]) (by rw [← hG]; rfl), ?_⟩
      exact makes_lit_g _ _ _ _ _ _ s
    · simp only [List.getElem?_cons_succ, List.getElem?_cons_zero, Option.some.injEq] at ho
      subst ho
      refine ⟨wanted_at (g := 2) (t := 65) rfl rfl (by simp [nz9]) (by rw [← hG]; rfl), ?_⟩
      obtain ⟨p0, q0, h1, h2⟩ := hd 4 (by simp [dp9])
      have h1 : ListV [35, 25, 40] (r 4) q0 := h1
      refine makesOp_mono (makes_of65 _ _ _ _ _ _ s 67 _ (putN_ev_nz (i := 4) (by simp [nz9]) ⟨(4, 67), by simp [nz9], rfl⟩ (by rw [hGz]; decide))) ?_
      rintro v s' ⟨h3, rfl, rfl⟩
      exact ⟨h3, h1.mono h2⟩
    · simp only [List.getElem?_cons_succ, List.getElem?_cons_zero, Option.some.injEq] at ho
      subst ho
      refine ⟨wanted_at (g := 12) (t := 75) rfl rfl (by simp [nz9]) (by rw [← hG]; rfl), ?_⟩
      exact makes_lit_h _ _ _ _ _ _ s
    · simp only [List.getElem?_cons_succ, List.getElem?_cons_zero, Option.some.injEq] at ho
      subst ho
      refine ⟨wanted_at (g := 12) (t := 75) rfl rfl (by simp [nz9]) (by rw [← hG]; rfl), ?_⟩
      obtain ⟨p0, q0, h1, h2⟩ := hd 14 (by simp [dp9])
      have h1 : ListV [100, 0, 0] (r 14) q0 := h1
      refine makesOp_mono (makes_of65 _ _ _ _ _ _ s 77 _ (putN_ev_nz (i := 14) (by simp [nz9]) ⟨(14, 77), by simp [nz9], rfl⟩ (by rw [hGz]; decide))) ?_
      rintro v s' ⟨h3, rfl, rfl⟩
      exact ⟨h3, h1.mono h2⟩
  · intro i hi o ho r s hs hd
    have hi2 : i = 6 ∨ i = 16 := by simpa [isKn] using hi
    rcases hi2 with rfl | rfl
    · simp only [List.getElem?_cons_succ, List.getElem?_cons_zero, Option.some.injEq] at ho
      subst ho
      obtain ⟨p0, q0, h1, h2⟩ := hd 5 (by simp [dp9])
      have h1 : ListV [35, 25, 40] (r 5) q0 := h1
      obtain ⟨a0, h3, h4⟩ := h1
      exact makes_longs _ _ _ _ _ _ s 66 68 [35, 25, 40] _ _ _ _ _ _ rfl rfl (putN_ev (by simp [nz9]) (by rw [← hG]; rfl)) ((putN_ev_nz (i := 5) (by simp [nz9]) ⟨(5, 68), by simp [nz9], rfl⟩ (by rw [hGz]; decide)).trans h3) (LW.out.mono hs) (h4.mono h2) (by decide)
    · simp only [List.getElem?_cons_succ, List.getElem?_cons_zero, Option.some.injEq] at ho
      subst ho
      obtain ⟨p0, q0, h1, h2⟩ := hd 15 (by simp [dp9])
      have h1 : ListV [100, 0, 0] (r 15) q0 := h1
      obtain ⟨a0, h3, h4⟩ := h1
      exact makes_longs _ _ _ _ _ _ s 76 78 [100, 0, 0] _ _ _ _ _ _ rfl rfl (putN_ev (by simp [nz9]) (by rw [← hG]; rfl)) ((putN_ev_nz (i := 15) (by simp [nz9]) ⟨(15, 78), by simp [nz9], rfl⟩ (by rw [hGz]; decide)).trans h3) (LV.out.mono hs) (h4.mono h2) (by decide)
  · intro r p0 q0 s hs _ _
    have hlast : (putN nz9 r G).eval (.tmp 121) = .bool true := putN_ev (by simp [nz9]) (by rw [← hG]; rfl)
    have HL := hid hlast; have HBs := hid (bstep HB.out hs)
    clear hs
    simp only [List.drop_succ_cons, List.drop_zero]
    have hev : (putN nz9 r G).defers = [] := by rw [(putN_size nz9 r G).2, ← hG]
    have hz : (putN nz9 r G).tmps.size = 122 := by rw [(putN_size nz9 r G).1, hGz]
    have e266 : (putN nz9 r G).tmps[121]?.getD undef = .bool true := by simpa [Act.eval] using HL.out
    obtain ⟨A, hA⟩ : ∃ A, A = putN nz9 r G := ⟨_, rfl⟩
    rw [← hA] at hev hz e266 ⊢
    clear hA HL hG hGz
    obtain ⟨T, D⟩ := A
    simp only at hev hz e266 ⊢
    subst hev
    gi_wp2
    have hb : 121 < T.size := by omega
    have h0 : 0 < T.size := by omega
    simp [hb] at e266
    go_wp2
    go_ret
    refine ⟨?_, HBs.out⟩
    simp [e266, h0]

end Go.Proofs.Ytnnojhpioenhbaa
