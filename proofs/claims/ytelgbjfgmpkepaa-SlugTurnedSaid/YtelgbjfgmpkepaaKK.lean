/- Walks: after. -/
import Derived.Test.YtelgbjfgmpkepaaKJ
import Derived.Test.YtelgbjfgmpkepaaKB
namespace Go.Proofs.Ytelgbjfgmpkepaa
open Go.RowKit Go.Shelf

/-- a count of at most 12 coppers -/
def Cnt.fine (c : Cnt) : Prop := c.g + c.l + c.h + c.b ≤ 12 ∧ c.z ≤ 1
theorem Cnt.fine.small {c : Cnt} (h : c.fine) : c.small := by unfold Cnt.fine at h; unfold Cnt.small; omega
/-- the map holds what is needed -/
def MemoAt (w : World) (m : Nat) : Prop := ∃ f, MapFn w m f ∧ ∀ q v, f q = some v → v = ((nd 1000 q : Nat) : Int)
theorem MemoAt.lt {w : World} {m : Nat} (h : MemoAt w m) : m < w.heap.size := by obtain ⟨f, h, _⟩ := h; exact h.lt
theorem MemoAt.mono {w w' : World} {m : Nat} (h : MemoAt w m) (hB : Below w.heap.size w w') : MemoAt w' m := by
  have hl := h.lt
  obtain ⟨f, h, h2⟩ := h
  exact ⟨f, h.same (hB.block _ hl), h2⟩
theorem MemoAt.same {w w' : World} {m : Nat} (h : MemoAt w m) (e : w'.heap[m]? = w.heap[m]?) : MemoAt w' m := by
  obtain ⟨f, h, h2⟩ := h
  exact ⟨f, h.same e, h2⟩
theorem MemoAt.ne {w : World} {m g k : Nat} {v : Value} (h : MemoAt w m) (hc : w.cell? ⟨g, k, none⟩ = some v) : g ≠ m := by
  rintro rfl
  obtain ⟨f, ⟨L, c, hb, _⟩, _⟩ := h
  simp [World.cell?, hb] at hc
theorem memo_made {w : World} {m : Nat} (h : w.heap[m]? = some (.map #[] 0)) : MemoAt w m := ⟨_, mapFn_made h, fun q v h => by cases h⟩
/-- a call that may fill the map: it hands back a number -/
def NumM (m : Nat) (w : World) (v : Nat) (e : Ending) (w' : World) : Prop := e = .returned (.int .i64 ((v : Nat) : Int)) ∧ MemoAt w' m ∧ Only (fun q => q = m) w w'
/-- what is told of needed, for counts of few cases -/
def NeedTo (N : Nat) : Prop := ∀ (c : Cnt) (g m : Nat) (w : World), c.fine → 0 < c.cases → c.cases < N → w.cell? ⟨g, 2, none⟩ = some (.map (some m)) → MemoAt w m → Calls Try.prog 77 #[.pointer (some ⟨g, 0, none⟩), cntV c] w (NumM m w (nd 1000 c))
theorem kept_fine {c : Cnt} (h : c.fine) {l k b z : Nat} (hs : l + k + b ≤ c.g + c.l + c.h + c.b) (hz : z ≤ 1) : (c.kept l k b z).fine := by
  unfold Cnt.fine at h
  unfold Cnt.fine Cnt.kept
  simp only
  omega
theorem res_fine {c : Cnt} (h : c.fine) {p : Pn} (hf : Fits c p) : (resL c p).fine ∧ (resR c p).fine ∧ (resE c p).fine := by
  have h2 := h
  unfold Cnt.fine at h2
  have := hf.k1; have := hf.k2; have := hf.k3
  exact ⟨kept_fine h (by omega) (by omega), kept_fine h (by omega) (by omega), kept_fine h (by omega) h2.2⟩
theorem cntV_eq (c : Cnt) : cntV c = .agg #[.int .i64 (c.g : Int), .int .i64 (c.l : Int), .int .i64 (c.h : Int), .int .i64 (c.b : Int), .int .i64 (c.z : Int)] := rfl
theorem aft_never {c : Cnt} {p : Pn} {x : Cnt} (hx : x = resL c p ∨ x = resR c p ∨ x = resE c p) (h0 : x.cases ≠ 0) (h : x.cases = c.cases) : aft 1000 c p = 1000 := by
  have hle := aft_le 1000 c p
  have hv : val 1000 (nd 1000) c x = 1000 := by unfold val; rw [if_neg h0, if_pos h]
  have : val 1000 (nd 1000) c x ≤ aft 1000 c p := by unfold aft aftF; rcases hx with rfl | rfl | rfl <;> omega
  omega
/-- the most of the first results -/
def aftTo (c : Cnt) (p : Pn) : Nat → Nat
  | 0 => 0
  | 1 => val 1000 (nd 1000) c (resL c p)
  | 2 => max (val 1000 (nd 1000) c (resL c p)) (val 1000 (nd 1000) c (resR c p))
  | _ => aft 1000 c p
theorem aftTo_le (c : Cnt) (p : Pn) (k : Nat) : aftTo c p k ≤ 1000 := by
  have := val_le 1000 c (resL c p); have := val_le 1000 c (resR c p)
  unfold aftTo
  split
  · omega
  · omega
  · omega
  · exact aft_le _ _ _
set_option maxRecDepth 100000 in
theorem makes_three (dst : Option Tmp) (ty : TypeId) (pos : String) (after : Array Edge) (a b d : Tmp) (X Y Z : Cnt) (A : Act) (w : World) (h1 : A.eval (.tmp a) = cntV X) (h2 : A.eval (.tmp b) = cntV Y) (h3 : A.eval (.tmp d) = cntV Z) :
    makesOp Try.prog { dst := dst, op := .buildSlice 124 3 #[(0, .tmp a), (1, .tmp b), (2, .tmp d)], type := ty, pos := pos, after := after, guard := none } A w fun v s' => Below w.heap.size w s' ∧ (v = .slice (some ⟨w.heap.size, 0, none⟩) 3 3 ∧ s' = w.alloc (.cells (cntCells X ++ (cntCells Y ++ cntCells Z)).toArray 95)) := by
  unfold cntV at h1 h2 h3
  unfold makesOp
  simp only [execOp, List.map_toArray, List.map_cons, List.map_nil, h1, h2, h3]
  simp [go_sem, cntCells]
  exact bnew _ _
set_option maxRecDepth 100000 in
theorem makes_len (dst : Option Tmp) (ty : TypeId) (pos : String) (after : Array Edge) (x : Tmp) (A : Act) (w : World) (a : Option Addr) (n c : Nat) (hx : A.eval (.tmp x) = .slice a n c) :
    makesOp Try.prog { dst := dst, op := .call { callee := .builtin .len, args := #[.tmp x], argTypes := #[124] }, type := ty, pos := pos, after := after, guard := none } A w fun v s' => Below w.heap.size w s' ∧ v = .int .i64 (n : Int) := by
  have hx' : A.tmps[x]?.getD undef = .slice a n c := by simpa [Act.eval] using hx
  unfold makesOp
  simp [go_sem, hx']
  exact Below.refl _ _
def nzE : List (Nat × Tmp) := [(69, 79)]
def dpE (i : Nat) : List Nat := if i = 70 then [69] else []
/-- a block of three counts -/
def I15 (w : World) (g : Nat) (x y z : Cnt) : Prop := w.heap[g]? = some (.cells (cntCells x ++ (cntCells y ++ cntCells z)).toArray 95 (0, 0))
theorem I15.mono {w w' : World} {g : Nat} {x y z : Cnt} (h : I15 w g x y z) (hB : Below w.heap.size w w') : I15 w' g x y z := (hB.block _ (Array.getElem?_eq_some_iff.1 h).1).trans h
theorem I15.same {w w' : World} {g : Nat} {x y z : Cnt} (h : I15 w g x y z) (e : w'.heap[g]? = w.heap[g]?) : I15 w' g x y z := e.trans h
theorem I15.c {w : World} {g : Nat} {x y z : Cnt} (h : I15 w g x y z) (k : Nat) {v : Value} (hv : (cntCells x ++ (cntCells y ++ cntCells z))[k]? = some v) : w.cell? ⟨g, k, none⟩ = some v := by
  rw [cell_of_row _ _ _ _ _ _ h]; simpa using hv
section
variable (g m : Nat) (c : Cnt) (p : Pn) (x : Int) (w : World)
set_option maxRecDepth 100000 in
set_option maxHeartbeats 4000000 in
theorem after_c (hc : c.fine) (hc1 : 1 < c.cases) (hf : Fits c p) (IH : NeedTo c.cases) (hg : w.cell? ⟨g, 2, none⟩ = some (.map (some m))) (hM : MemoAt w m) :
    Calls Try.prog 88 #[.pointer (some ⟨g, 0, none⟩), cntV c, pnV p x] w (NumM m w (aft 1000 c p)) := by
  obtain ⟨V, hV, hB, hcb, hpb⟩ : ∃ V, V = (w.alloc (.cells #[.int .i64 (c.g : Int), .int .i64 (c.l : Int), .int .i64 (c.h : Int), .int .i64 (c.b : Int), .int .i64 (c.z : Int)] 95)).alloc (.cells #[.int .i64 0, .int .i64 (p.a1 : Int), .int .i64 (p.a2 : Int), .int .i64 (p.a3 : Int), .int .i64 x, .int .i64 (p.b1 : Int), .int .i64 (p.b2 : Int), .int .i64 (p.b3 : Int)] 103) ∧ Below w.heap.size w V ∧ I5 V w.heap.size 95 c.g c.l c.h c.b c.z ∧ P8 V (w.heap.size + 1) p x :=
    ⟨_, rfl, bstep (bnew _ _) (bnew _ _), (i5_new w 95 _ _ _ _ _).mono (bnew _ _), by
      have := p8_new (w.alloc (.cells #[.int .i64 (c.g : Int), .int .i64 (c.l : Int), .int .i64 (c.h : Int), .int .i64 (c.b : Int), .int .i64 (c.z : Int)] 95)) p x
      simpa using this⟩
  have hfl := hc
  unfold Cnt.fine at hfl
  have hk1 := hf.k1; have hk2 := hf.k2; have hk3 := hf.k3
  obtain ⟨fL, fR, fE⟩ := res_fine hc hf
  have eL : resL c p = c.kept (p.b1 + p.b3) (p.a2 + p.a3) 0 0 := rfl
  have eR : resR c p = c.kept (p.a1 + p.a3) (p.b2 + p.b3) 0 0 := rfl
  have eE : resE c p = c.kept (c.l - p.a1 - p.b1) (c.h - p.a2 - p.b2) (c.b - p.a3 - p.b3) c.z := rfl
  obtain ⟨l1, hl1⟩ : ∃ n, n = p.b1 + p.b3 := ⟨_, rfl⟩
  obtain ⟨h1, hh1⟩ : ∃ n, n = p.a2 + p.a3 := ⟨_, rfl⟩
  obtain ⟨l2, hl2⟩ : ∃ n, n = p.a1 + p.a3 := ⟨_, rfl⟩
  obtain ⟨h2, hh2⟩ : ∃ n, n = p.b2 + p.b3 := ⟨_, rfl⟩
  obtain ⟨m1, hm1⟩ : ∃ n, n = c.l - p.a1 := ⟨_, rfl⟩
  obtain ⟨m2, hm2⟩ : ∃ n, n = c.h - p.a2 := ⟨_, rfl⟩
  obtain ⟨m3, hm3⟩ : ∃ n, n = c.b - p.a3 := ⟨_, rfl⟩
  obtain ⟨l3, hl3⟩ : ∃ n, n = m1 - p.b1 := ⟨_, rfl⟩
  obtain ⟨h3, hh3⟩ : ∃ n, n = m2 - p.b2 := ⟨_, rfl⟩
  obtain ⟨b3, hb3⟩ : ∃ n, n = m3 - p.b3 := ⟨_, rfl⟩
  have e1 : IntKind.i64.wrap ((p.b1 : Int) + (p.b3 : Int)) = (l1 : Int) := by rw [wrap_i64_of (by omega) (by omega)]; omega
  have e2 : IntKind.i64.wrap ((p.a2 : Int) + (p.a3 : Int)) = (h1 : Int) := by rw [wrap_i64_of (by omega) (by omega)]; omega
  have e3 : IntKind.i64.wrap ((p.a1 : Int) + (p.a3 : Int)) = (l2 : Int) := by rw [wrap_i64_of (by omega) (by omega)]; omega
  have e4 : IntKind.i64.wrap ((p.b2 : Int) + (p.b3 : Int)) = (h2 : Int) := by rw [wrap_i64_of (by omega) (by omega)]; omega
  have e5 : IntKind.i64.wrap ((c.l : Int) - (p.a1 : Int)) = (m1 : Int) := by rw [wrap_i64_of (by omega) (by omega)]; omega
  have e6 : IntKind.i64.wrap ((m1 : Int) - (p.b1 : Int)) = (l3 : Int) := by rw [wrap_i64_of (by omega) (by omega)]; omega
  have e7 : IntKind.i64.wrap ((c.h : Int) - (p.a2 : Int)) = (m2 : Int) := by rw [wrap_i64_of (by omega) (by omega)]; omega
  have e8 : IntKind.i64.wrap ((m2 : Int) - (p.b2 : Int)) = (h3 : Int) := by rw [wrap_i64_of (by omega) (by omega)]; omega
  have e9 : IntKind.i64.wrap ((c.b : Int) - (p.a3 : Int)) = (m3 : Int) := by rw [wrap_i64_of (by omega) (by omega)]; omega
  have e0 : IntKind.i64.wrap ((m3 : Int) - (p.b3 : Int)) = (b3 : Int) := by rw [wrap_i64_of (by omega) (by omega)]; omega
  have H1 := hid fun (w' : World) => less_96 c hc.small l1 h1 0 0 (by omega) (by omega) (by omega) (by omega) (by omega) w'
  have H2 := hid fun (w' : World) => less_96 c hc.small l2 h2 0 0 (by omega) (by omega) (by omega) (by omega) (by omega) w'
  have H3 := hid fun (w' : World) => less_96 c hc.small l3 h3 b3 c.z (by omega) (by omega) (by omega) (by omega) (by omega) w'
  rw [← hl1, ← hh1] at eL
  rw [← hl2, ← hh2] at eR
  rw [← hm1, ← hm2, ← hm3, ← hl3, ← hh3, ← hb3] at eE
  rw [← eL] at H1
  rw [← eR] at H2
  rw [← eE] at H3
  have sL : ∀ (v : Nat), aftTo c p 1 = max (aftTo c p 0) (val 1000 (nd 1000) c (resL c p)) := fun _ => by simp [aftTo]
  have sR : ∀ (v : Nat), aftTo c p 2 = max (aftTo c p 1) (val 1000 (nd 1000) c (resR c p)) := fun _ => by simp [aftTo]
  have sE : ∀ (v : Nat), aftTo c p 3 = max (aftTo c p 2) (val 1000 (nd 1000) c (resE c p)) := fun _ => by simp [aftTo, aft, aftF]
  have Hnev := hid fun (x : Cnt) (hx : x = resL c p ∨ x = resR c p ∨ x = resE c p) (h0 : x.cases ≠ 0) (h : x.cases = c.cases) => aft_never hx h0 h
  obtain ⟨cL, cR, cE⟩ := res_le hf
  obtain ⟨X1, hX1⟩ : ∃ X, X = resL c p := ⟨_, rfl⟩
  obtain ⟨X2, hX2⟩ : ∃ X, X = resR c p := ⟨_, rfl⟩
  obtain ⟨X3, hX3⟩ : ∃ X, X = resE c p := ⟨_, rfl⟩
  rw [← hX1] at H1 fL sL cL
  rw [← hX2] at H2 fR sR cR
  rw [← hX3] at H3 fE sE cE
  rw [← hX1, ← hX2, ← hX3] at Hnev
  have Ha3 := hid (show aftTo c p 3 = aft 1000 c p from rfl)
  have Hale := hid (aftTo_le c p)
  have Ha0 := hid (show aftTo c p 0 = 0 from rfl)
  have HcC := hid fun (w' : World) => cases_87 c hc.small w'
  have HfL := hid fL; have HfR := hid fR; have HfE := hid fE; have HcL := hid cL; have HcR := hid cR; have HcE := hid cE
  have HsL := hid (sL 0); have HsR := hid (sR 0); have HsE := hid (sE 0)
  obtain ⟨at', hat⟩ : ∃ f : Nat → Nat, f = aftTo c p := ⟨_, rfl⟩
  rw [← hat] at HsL HsR HsE Ha3 Hale Ha0
  have HIH := hid IH; have Hc1 := hid hc1
  unfold CntC at H1 H2 H3
  unfold TellI at HcC
  rw [cntV_eq] at H1 H2 H3 HcC
  rw [cntV_eq c]
  unfold pnV
  rw [cntV_eq] at H1 H2 H3
  have c0 := hcb.c0; have c1 := hcb.c1; have c2 := hcb.c2; have c3 := hcb.c3; have c4 := hcb.c4
  have p1 := hpb.c1; have p2 := hpb.c2; have p3 := hpb.c3; have p5 := hpb.c5; have p6 := hpb.c6; have p7 := hpb.c7
  have HV := hid hV; have HB := hid hB; have Hg := hid hg; have HM := hid hM; have Hcb := hid hcb
  unfold NumM
  rw [← Ha3.out]
  clear hV hB hcb hpb hc hc1 hf IH hg hM hfl hk1 hk2 hk3 fL fR fE eL eR eE hl1 hh1 hl2 hh2 hm1 hm2 hm3 hl3 hh3 hb3 sL sR sE cL cR cE hX1 hX2 hX3 hat
  go_enter Try.func88, Try.ntmps88
  go_upto_region 1 with (fail)
  rw [← HV.out]
  have HHc := hid (show I5 V w.heap.size 95 c.g c.l c.h c.b c.z from Hcb.out)
  have H1j := hid fun (J : World → Prop) (s : LaterJ V J) => H1.out s.w'
  have H2j := hid fun (J : World → Prop) (s : LaterJ V J) => H2.out s.w'
  have H3j := hid fun (J : World → Prop) (s : LaterJ V J) => H3.out s.w'
  have jc0 := fun (J : World → Prop) (s : LaterJ V J) => cstep c0 s.h
  have jc1 := fun (J : World → Prop) (s : LaterJ V J) => cstep c1 s.h
  have jc2 := fun (J : World → Prop) (s : LaterJ V J) => cstep c2 s.h
  have jc3 := fun (J : World → Prop) (s : LaterJ V J) => cstep c3 s.h
  have jc4 := fun (J : World → Prop) (s : LaterJ V J) => cstep c4 s.h
  have jp1 := fun (J : World → Prop) (s : LaterJ V J) => cstep p1 s.h
  have jp2 := fun (J : World → Prop) (s : LaterJ V J) => cstep p2 s.h
  have jp3 := fun (J : World → Prop) (s : LaterJ V J) => cstep p3 s.h
  have jp5 := fun (J : World → Prop) (s : LaterJ V J) => cstep p5 s.h
  have jp6 := fun (J : World → Prop) (s : LaterJ V J) => cstep p6 s.h
  have jp7 := fun (J : World → Prop) (s : LaterJ V J) => cstep p7 s.h
  clear c0 c1 c2 c3 c4 p1 p2 p3 p5 p6 p7
  go_wp2
  simp only [List.append_eq, List.cons_append, List.nil_append]
  refine wp_region_mix3 (n := 72) (nz := nzE) (kn := [70]) (dp := dpE) (bs := [.keep, .keep, .keep, .keep, .keep, .keep, .keep, .keep, .keep, .keep, .keep, .keep, .keep, .keep, .keep, .keep, .keep, .keep, .keep, .keep, .keep, .keep, .keep, .keep, .keep, .keep, .keep, .keep, .keep, .keep, .keep, .keep, .keep, .keep, .keep, .keep, .keep, .keep, .keep, .keep, .keep, .keep, .keep, .keep, .keep, .keep, .keep, .keep, .keep, .keep, .keep, .keep, .keep, .keep, .keep, .keep, .keep, .keep, .keep, .keep, .keep, .keep, .keep, .keep, .keep, .keep, .keep, .keep, .keep, .off, .say (.int .i64 3), .keep]) (Φ := fun _ _ v p q => v = .slice (some ⟨p.heap.size, 0, none⟩) 3 3 ∧ q = p.alloc (.cells (cntCells X1 ++ (cntCells X2 ++ cntCells X3)).toArray 95)) (by kernel_rfl) (by kernel_rfl) (by simp [nzE]) ?_
  simp only [blind2, Bk.on, blindO, knO]
  repeat (gi_big_quiet_step ((first | (refine ⟨rfl, ?_⟩; gi_at_call 96; with_reducible exact callsJ abidesT (H1j.out _ _)) | (refine ⟨rfl, ?_⟩; gi_at_call 96; with_reducible exact callsJ abidesT (H2j.out _ _)) | (refine ⟨rfl, ?_⟩; gi_at_call 96; with_reducible exact callsJ abidesT (H3j.out _ _)))))
  refine wpQuietIn_nil ?_
  refine ⟨?_, ?_, ?_, ?_⟩
  · intro J hJ hne
    repeat (gi_big_quiet_step ((first | (refine ⟨rfl, ?_⟩; gi_at_call 96; with_reducible exact callsJ hJ (H1j.out _ _)) | (refine ⟨rfl, ?_⟩; gi_at_call 96; with_reducible exact callsJ hJ (H2j.out _ _)) | (refine ⟨rfl, ?_⟩; gi_at_call 96; with_reducible exact callsJ hJ (H3j.out _ _)))))
    exact wpQuietIn_nil rfl
  all_goals (generalize hG : (Act.mk _ _ : Act) = G)
  all_goals (have hGz : G.tmps.size = 100 := by rw [← hG]; rfl)
  · intro i hi o ho r s hs hd
    obtain rfl : 69 = i := by simpa [isNz, nzE] using hi
    simp only [List.getElem?_cons_succ, List.getElem?_cons_zero, Option.some.injEq] at ho
    subst ho
    refine ⟨by simp [Region.wanted], ?_⟩
    exact makes_three _ _ _ _ 25 41 78 X1 X2 X3 _ s (putN_ev (by simp [nzE]) (by rw [← hG]; rfl)) (putN_ev (by simp [nzE]) (by rw [← hG]; rfl)) (putN_ev (by simp [nzE]) (by rw [← hG]; rfl))
  · intro i hi o ho r s hs hd
    obtain rfl : i = 70 := by simpa [isKn] using hi
    simp only [List.getElem?_cons_succ, List.getElem?_cons_zero, Option.some.injEq] at ho
    subst ho
    obtain ⟨p0, q0, ⟨h1, _⟩, h2⟩ := hd 69 (by simp [dpE])
    exact makesOp_weak (makes_len _ _ _ _ 79 _ s _ 3 3 ((putN_ev_nz (i := 69) (by simp [nzE]) ⟨(69, 79), by simp [nzE], rfl⟩ (by rw [hGz]; decide)).trans h1)) (fun v w' h => h)
  · intro r p0 q0 w2 hs hm _
    obtain ⟨⟨h1, h2⟩, h3, h4⟩ := hm 69 (by simp [isNz, nzE])
    have hI := (show I15 (q0 69) (p0 69).heap.size X1 X2 X3 by rw [h2]; exact heap_alloc_new _ _).mono h3
    have hqb : V.heap.size ≤ (p0 69).heap.size := h4.size
    obtain ⟨q, hq⟩ : ∃ q, q = (p0 69).heap.size := ⟨_, rfl⟩
    rw [← hq] at hI h1 hqb
    have HI := hid hI; have Hs := hid (bstep HB.out hs); have Hqb := hid hqb; have HsV := hid hs
    rw [← hG]
    simp only [putN, nzE, List.foldl_cons, List.foldl_nil, h1, Act.put, List.setIfInBounds_toArray, List.set_cons_succ, List.set_cons_zero, List.drop_succ_cons, List.drop_zero]
    clear hI h1 h2 h3 h4 hq hs hm hqb hG hGz
    have HM2 := hid (HM.out.mono Hs.out)
    have Hmw := hid (show m < w.heap.size from HM.out.lt)
    have Hgm := hid (HM.out.ne Hg.out)
    have Hg2 := hid (cstep Hg.out Hs.out)
    have Hcb2 := hid (Hcb.out.mono HsV.out)
    have Hwq := hid (show w.heap.size < q from Nat.lt_of_lt_of_le Hcb.out.lt Hqb.out)
    have Ha0' := hid (show ((at' 0 : Nat) : Int) = 0 by rw [Ha0.out]; rfl)
    gi_wp2
    go_wp2
    go_loopw [6, 7, 9, 81] (fun _ n _ i wr => ∃ (k : Nat) (j : Int), k ≤ 3 ∧ j = (k : Int) ∧ i = .int .i64 j ∧ n = .int .i64 ((at' k : Nat) : Int) ∧ MemoAt wr m ∧ Only (fun q => q = m) w2 wr) (fun _ _ _ i _ => 3 - (intOf i).toNat)
    case atStart => exact ⟨0, 0, by omega, rfl, rfl, by rw [Ha0'.out], HM2.out, Only.refl _ _⟩
    case round =>
      obtain ⟨k, j, hk, hj, rfl, rfl, hMr, hO⟩ := hrel
      obtain ⟨wo, rfl⟩ : ∃ x : World, x = wr := ⟨_, rfl⟩
      have HMo := hid hMr; have HO := hid hO
      have hIo : I15 wo q X1 X2 X3 := HI.out.same (hO.block _ (Array.getElem?_eq_some_iff.1 HI.out).1 (fun e => by have e : q = m := e; have := Hmw.out; have := Hwq.out; omega))
      have hco : I5 wo w.heap.size 95 c.g c.l c.h c.b c.z := Hcb2.out.same (hO.block _ Hcb2.out.lt (fun e => by have e : w.heap.size = m := e; have := Hmw.out; omega))
      have hgo : wo.cell? ⟨g, 2, none⟩ = some (.map (some m)) := hO.cell Hg2.out (fun e => Hgm.out e)
      have HIo := hid hIo; have Hco := hid hco; have Hgo := hid hgo
      clear hMr hO hIo hco hgo
      by_cases hk3 : k = 3
      · subst hk3
        obtain rfl : j = 3 := hj
        have HOw := hid ((Only.of_below Hs.out).trans HO.out)
        go_wp2
        go_ret
        exact ⟨rfl, HMo.out, HOw.out⟩
      · have hka := Hale.out k
        rcases (show k = 0 ∨ k = 1 ∨ k = 2 by omega) with rfl | rfl | rfl
        · obtain rfl : j = 0 := hj
          have x0 := HIo.out.c 0 rfl; have x1 := HIo.out.c 1 rfl; have x2 := HIo.out.c 2 rfl; have x3 := HIo.out.c 3 rfl; have x4 := HIo.out.c 4 rfl
          have e1 : IntKind.i64.wrap ((0 : Int) + 1) = 1 := by decide
          obtain ⟨Y, hY, hBY, hy⟩ := box95 wo X1
          have HY := hid hY; have HBY := hid hBY; have Hy := hid hy
          have d0 := hy.c0; have d1 := hy.c1; have d2 := hy.c2; have d3 := hy.c3; have d4 := hy.c4
          have HX := hid fun (w' : World) => cases_87 X1 HfL.out.small w'
          unfold TellI at HX
          rw [cntV_eq] at HX
          have hv : val 1000 (nd 1000) c X1 = if X1.cases = 0 then 0 else if X1.cases = c.cases then 1000 else nd 1000 X1 := rfl
          have hst := HsL.out
          rw [hv] at hst
          have hle : X1.cases ≤ c.cases := HcL.out
          have hnev := Hnev.out X1 (.inl rfl)
          have hih := HIH.out X1 g m
          obtain ⟨xc, hxc⟩ : ∃ n, n = X1.cases := ⟨_, rfl⟩
          obtain ⟨cc, hcc⟩ : ∃ n, n = c.cases := ⟨_, rfl⟩
          rw [← hxc] at HX hst hle hnev hih
          rw [← hcc] at hst hle hnev hih
          have HcC2 := HcC
          rw [← hcc] at HcC2
          have Hih := hid hih; have Hnv := hid hnev
          have HBo := hid (Only.of_below (S := fun q => q = m) HBY.out)
          clear hY hBY hy hv hnev hih hxc hcc hk hk3
          go_upto_region 5 with (fail)
          rw [← HY.out]
          clear x0 x1 x2 x3 x4
          go_wp2_with fail
          refine (HX.out Y).mono ?_
          rintro e w3 ⟨rfl, hB⟩
          have HB3 := hid (bstep HBY.out hB)
          have HY3 := hid (Hy.out.mono hB)
          have Hc3 := hid (Hco.out.mono HB3.out)
          have d0 := cstep d0 hB; have d1 := cstep d1 hB; have d2 := cstep d2 hB; have d3 := cstep d3 hB; have d4 := cstep d4 hB
          have HM3 := hid (HMo.out.mono HB3.out)
          have HO3 := hid (HO.out.trans (Only.of_below HB3.out))
          clear hB
          by_cases h0 : xc = 0
          · have b1 : ((xc : Int) == 0) = true := by rw [beq_iff_eq]; omega
            rw [if_pos h0] at hst
            have Hst := hid (show at' 1 = at' 0 by omega)
            clear hst hka h0
            go_wp2
            go_roundw
            case rel => exact ⟨1, 1, by omega, rfl, rfl, by rw [Hst.out], HM3.out, HO3.out⟩
            case measure => simp [intOf]
          · have b1 : ((xc : Int) == 0) = false := by rw [beq_eq_false_iff_ne]; omega
            rw [if_neg h0] at hst
            have c0 := Hc3.out.c0; have c1 := Hc3.out.c1; have c2 := Hc3.out.c2; have c3 := Hc3.out.c3; have c4 := Hc3.out.c4
            go_wp2_with fail
            refine (HcC2.out w3).mono ?_
            rintro e w4 ⟨rfl, hB⟩
            have HM4 := hid (HM3.out.mono hB)
            have HO4 := hid (HO3.out.trans (Only.of_below hB))
            have d0 := cstep d0 hB; have d1 := cstep d1 hB; have d2 := cstep d2 hB; have d3 := cstep d3 hB; have d4 := cstep d4 hB
            have Hg4 := hid (cstep Hgo.out (bstep HB3.out hB))
            clear hB c0 c1 c2 c3 c4
            by_cases he : xc = cc
            · have b2 : ((xc : Int) == (cc : Int)) = true := by rw [beq_iff_eq]; omega
              have Hf := hid (show (1000 : Int) = ((at' 3 : Nat) : Int) by rw [Ha3.out, Hnv.out h0 he]; rfl)
              have HOw := hid ((Only.of_below Hs.out).trans HO4.out)
              clear hst hka
              go_wp2
              go_ret
              exact ⟨by rw [← Hf.out]; rfl, HM4.out, HOw.out⟩
            · have b2 : ((xc : Int) == (cc : Int)) = false := by rw [beq_eq_false_iff_ne]; omega
              rw [if_neg he] at hst
              have hN := Hih.out w4 HfL.out (by omega) (by omega) Hg4.out HM4.out
              unfold NumM at hN
              rw [cntV_eq] at hN
              obtain ⟨nx, hnx⟩ : ∃ n, n = nd 1000 X1 := ⟨_, rfl⟩
              rw [← hnx] at hN hst
              obtain ⟨a, ha⟩ : ∃ a : Nat, a = at' 0 := ⟨_, rfl⟩
              obtain ⟨a', ha'⟩ : ∃ a : Nat, a = at' 1 := ⟨_, rfl⟩
              rw [← ha, ← ha'] at hst
              rw [← ha]
              have Hi := hid (show (if a < nx then (nx : Int) else (a : Int)) = (a' : Int) by split <;> omega)
              have HN := hid hN; have Ha' := hid ha'
              clear hN hst hka hnx ha ha'
              go_wp2_with fail
              refine HN.out.mono ?_
              rintro e w5 ⟨rfl, hM5, hO5⟩
              have HM5 := hid hM5; have HO5 := hid (HO4.out.trans hO5)
              clear hM5 hO5 HN
              go_wp2
              go_roundw
              case rel => exact ⟨1, 1, by omega, rfl, rfl, by rw [Hi.out, Ha'.out], HM5.out, HO5.out⟩
              case measure => simp [intOf]
        · obtain rfl : j = 1 := hj
          have x0 := HIo.out.c 5 rfl; have x1 := HIo.out.c 6 rfl; have x2 := HIo.out.c 7 rfl; have x3 := HIo.out.c 8 rfl; have x4 := HIo.out.c 9 rfl
          have e1 : IntKind.i64.wrap ((1 : Int) + 1) = 2 := by decide
          obtain ⟨Y, hY, hBY, hy⟩ := box95 wo X2
          have HY := hid hY; have HBY := hid hBY; have Hy := hid hy
          have d0 := hy.c0; have d1 := hy.c1; have d2 := hy.c2; have d3 := hy.c3; have d4 := hy.c4
          have HX := hid fun (w' : World) => cases_87 X2 HfR.out.small w'
          unfold TellI at HX
          rw [cntV_eq] at HX
          have hv : val 1000 (nd 1000) c X2 = if X2.cases = 0 then 0 else if X2.cases = c.cases then 1000 else nd 1000 X2 := rfl
          have hst := HsR.out
          rw [hv] at hst
          have hle : X2.cases ≤ c.cases := HcR.out
          have hnev := Hnev.out X2 (.inr (.inl rfl))
          have hih := HIH.out X2 g m
          obtain ⟨xc, hxc⟩ : ∃ n, n = X2.cases := ⟨_, rfl⟩
          obtain ⟨cc, hcc⟩ : ∃ n, n = c.cases := ⟨_, rfl⟩
          rw [← hxc] at HX hst hle hnev hih
          rw [← hcc] at hst hle hnev hih
          have HcC2 := HcC
          rw [← hcc] at HcC2
          have Hih := hid hih; have Hnv := hid hnev
          have HBo := hid (Only.of_below (S := fun q => q = m) HBY.out)
          clear hY hBY hy hv hnev hih hxc hcc hk hk3
          go_upto_region 5 with (fail)
          rw [← HY.out]
          clear x0 x1 x2 x3 x4
          go_wp2_with fail
          refine (HX.out Y).mono ?_
          rintro e w3 ⟨rfl, hB⟩
          have HB3 := hid (bstep HBY.out hB)
          have HY3 := hid (Hy.out.mono hB)
          have Hc3 := hid (Hco.out.mono HB3.out)
          have d0 := cstep d0 hB; have d1 := cstep d1 hB; have d2 := cstep d2 hB; have d3 := cstep d3 hB; have d4 := cstep d4 hB
          have HM3 := hid (HMo.out.mono HB3.out)
          have HO3 := hid (HO.out.trans (Only.of_below HB3.out))
          clear hB
          by_cases h0 : xc = 0
          · have b1 : ((xc : Int) == 0) = true := by rw [beq_iff_eq]; omega
            rw [if_pos h0] at hst
            have Hst := hid (show at' 2 = at' 1 by omega)
            clear hst hka h0
            go_wp2
            go_roundw
            case rel => exact ⟨2, 2, by omega, rfl, rfl, by rw [Hst.out], HM3.out, HO3.out⟩
            case measure => simp [intOf]
          · have b1 : ((xc : Int) == 0) = false := by rw [beq_eq_false_iff_ne]; omega
            rw [if_neg h0] at hst
            have c0 := Hc3.out.c0; have c1 := Hc3.out.c1; have c2 := Hc3.out.c2; have c3 := Hc3.out.c3; have c4 := Hc3.out.c4
            go_wp2_with fail
            refine (HcC2.out w3).mono ?_
            rintro e w4 ⟨rfl, hB⟩
            have HM4 := hid (HM3.out.mono hB)
            have HO4 := hid (HO3.out.trans (Only.of_below hB))
            have d0 := cstep d0 hB; have d1 := cstep d1 hB; have d2 := cstep d2 hB; have d3 := cstep d3 hB; have d4 := cstep d4 hB
            have Hg4 := hid (cstep Hgo.out (bstep HB3.out hB))
            clear hB c0 c1 c2 c3 c4
            by_cases he : xc = cc
            · have b2 : ((xc : Int) == (cc : Int)) = true := by rw [beq_iff_eq]; omega
              have Hf := hid (show (1000 : Int) = ((at' 3 : Nat) : Int) by rw [Ha3.out, Hnv.out h0 he]; rfl)
              have HOw := hid ((Only.of_below Hs.out).trans HO4.out)
              clear hst hka
              go_wp2
              go_ret
              exact ⟨by rw [← Hf.out]; rfl, HM4.out, HOw.out⟩
            · have b2 : ((xc : Int) == (cc : Int)) = false := by rw [beq_eq_false_iff_ne]; omega
              rw [if_neg he] at hst
              have hN := Hih.out w4 HfR.out (by omega) (by omega) Hg4.out HM4.out
              unfold NumM at hN
              rw [cntV_eq] at hN
              obtain ⟨nx, hnx⟩ : ∃ n, n = nd 1000 X2 := ⟨_, rfl⟩
              rw [← hnx] at hN hst
              obtain ⟨a, ha⟩ : ∃ a : Nat, a = at' 1 := ⟨_, rfl⟩
              obtain ⟨a', ha'⟩ : ∃ a : Nat, a = at' 2 := ⟨_, rfl⟩
              rw [← ha, ← ha'] at hst
              rw [← ha]
              have Hi := hid (show (if a < nx then (nx : Int) else (a : Int)) = (a' : Int) by split <;> omega)
              have HN := hid hN; have Ha' := hid ha'
              clear hN hst hka hnx ha ha'
              go_wp2_with fail
              refine HN.out.mono ?_
              rintro e w5 ⟨rfl, hM5, hO5⟩
              have HM5 := hid hM5; have HO5 := hid (HO4.out.trans hO5)
              clear hM5 hO5 HN
              go_wp2
              go_roundw
              case rel => exact ⟨2, 2, by omega, rfl, rfl, by rw [Hi.out, Ha'.out], HM5.out, HO5.out⟩
              case measure => simp [intOf]
        · obtain rfl : j = 2 := hj
          have x0 := HIo.out.c 10 rfl; have x1 := HIo.out.c 11 rfl; have x2 := HIo.out.c 12 rfl; have x3 := HIo.out.c 13 rfl; have x4 := HIo.out.c 14 rfl
          have e1 : IntKind.i64.wrap ((2 : Int) + 1) = 3 := by decide
          obtain ⟨Y, hY, hBY, hy⟩ := box95 wo X3
          have HY := hid hY; have HBY := hid hBY; have Hy := hid hy
          have d0 := hy.c0; have d1 := hy.c1; have d2 := hy.c2; have d3 := hy.c3; have d4 := hy.c4
          have HX := hid fun (w' : World) => cases_87 X3 HfE.out.small w'
          unfold TellI at HX
          rw [cntV_eq] at HX
          have hv : val 1000 (nd 1000) c X3 = if X3.cases = 0 then 0 else if X3.cases = c.cases then 1000 else nd 1000 X3 := rfl
          have hst := HsE.out
          rw [hv] at hst
          have hle : X3.cases ≤ c.cases := HcE.out
          have hnev := Hnev.out X3 (.inr (.inr rfl))
          have hih := HIH.out X3 g m
          obtain ⟨xc, hxc⟩ : ∃ n, n = X3.cases := ⟨_, rfl⟩
          obtain ⟨cc, hcc⟩ : ∃ n, n = c.cases := ⟨_, rfl⟩
          rw [← hxc] at HX hst hle hnev hih
          rw [← hcc] at hst hle hnev hih
          have HcC2 := HcC
          rw [← hcc] at HcC2
          have Hih := hid hih; have Hnv := hid hnev
          have HBo := hid (Only.of_below (S := fun q => q = m) HBY.out)
          clear hY hBY hy hv hnev hih hxc hcc hk hk3
          go_upto_region 5 with (fail)
          rw [← HY.out]
          clear x0 x1 x2 x3 x4
          go_wp2_with fail
          refine (HX.out Y).mono ?_
          rintro e w3 ⟨rfl, hB⟩
          have HB3 := hid (bstep HBY.out hB)
          have HY3 := hid (Hy.out.mono hB)
          have Hc3 := hid (Hco.out.mono HB3.out)
          have d0 := cstep d0 hB; have d1 := cstep d1 hB; have d2 := cstep d2 hB; have d3 := cstep d3 hB; have d4 := cstep d4 hB
          have HM3 := hid (HMo.out.mono HB3.out)
          have HO3 := hid (HO.out.trans (Only.of_below HB3.out))
          clear hB
          by_cases h0 : xc = 0
          · have b1 : ((xc : Int) == 0) = true := by rw [beq_iff_eq]; omega
            rw [if_pos h0] at hst
            have Hst := hid (show at' 3 = at' 2 by omega)
            clear hst hka h0
            go_wp2
            go_roundw
            case rel => exact ⟨3, 3, by omega, rfl, rfl, by rw [Hst.out], HM3.out, HO3.out⟩
            case measure => simp [intOf]
          · have b1 : ((xc : Int) == 0) = false := by rw [beq_eq_false_iff_ne]; omega
            rw [if_neg h0] at hst
            have c0 := Hc3.out.c0; have c1 := Hc3.out.c1; have c2 := Hc3.out.c2; have c3 := Hc3.out.c3; have c4 := Hc3.out.c4
            go_wp2_with fail
            refine (HcC2.out w3).mono ?_
            rintro e w4 ⟨rfl, hB⟩
            have HM4 := hid (HM3.out.mono hB)
            have HO4 := hid (HO3.out.trans (Only.of_below hB))
            have d0 := cstep d0 hB; have d1 := cstep d1 hB; have d2 := cstep d2 hB; have d3 := cstep d3 hB; have d4 := cstep d4 hB
            have Hg4 := hid (cstep Hgo.out (bstep HB3.out hB))
            clear hB c0 c1 c2 c3 c4
            by_cases he : xc = cc
            · have b2 : ((xc : Int) == (cc : Int)) = true := by rw [beq_iff_eq]; omega
              have Hf := hid (show (1000 : Int) = ((at' 3 : Nat) : Int) by rw [Ha3.out, Hnv.out h0 he]; rfl)
              have HOw := hid ((Only.of_below Hs.out).trans HO4.out)
              clear hst hka
              go_wp2
              go_ret
              exact ⟨by rw [← Hf.out]; rfl, HM4.out, HOw.out⟩
            · have b2 : ((xc : Int) == (cc : Int)) = false := by rw [beq_eq_false_iff_ne]; omega
              rw [if_neg he] at hst
              have hN := Hih.out w4 HfE.out (by omega) (by omega) Hg4.out HM4.out
              unfold NumM at hN
              rw [cntV_eq] at hN
              obtain ⟨nx, hnx⟩ : ∃ n, n = nd 1000 X3 := ⟨_, rfl⟩
              rw [← hnx] at hN hst
              obtain ⟨a, ha⟩ : ∃ a : Nat, a = at' 2 := ⟨_, rfl⟩
              obtain ⟨a', ha'⟩ : ∃ a : Nat, a = at' 3 := ⟨_, rfl⟩
              rw [← ha, ← ha'] at hst
              rw [← ha]
              have Hi := hid (show (if a < nx then (nx : Int) else (a : Int)) = (a' : Int) by split <;> omega)
              have HN := hid hN; have Ha' := hid ha'
              clear hN hst hka hnx ha ha'
              go_wp2_with fail
              refine HN.out.mono ?_
              rintro e w5 ⟨rfl, hM5, hO5⟩
              have HM5 := hid hM5; have HO5 := hid (HO4.out.trans hO5)
              clear hM5 hO5 HN
              go_wp2
              go_roundw
              case rel => exact ⟨3, 3, by omega, rfl, rfl, by rw [Hi.out, Ha'.out], HM5.out, HO5.out⟩
              case measure => simp [intOf]
end

end Go.Proofs.Ytelgbjfgmpkepaa
