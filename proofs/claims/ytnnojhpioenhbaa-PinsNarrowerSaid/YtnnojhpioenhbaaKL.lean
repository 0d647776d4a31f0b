/- Walk: Span, of the program. Walks: CheckRefuted, of the program. Walks: Refuted, of the program. Walk: Broken, of the program. -/
import Derived.Test.YtnnojhpioenhbaaKK
import Derived.Test.YtnnojhpioenhbaaKI
import Derived.Test.YtnnojhpioenhbaaKJ
import Derived.Test.YtnnojhpioenhbaaKG
namespace Go.Proofs.Ytnnojhpioenhbaa
open Go.RowKit Go.Shelf

theorem et121 : ET 121 32 (.agg #[.int .i64 0, .int .i64 0]) 2 16 := ⟨Try.underlying121, by kernel_rfl, rfl, by decide, by decide⟩
def pairv : List (Int × Int) → List Value
  | [] => []
  | q :: l => .int .i64 q.1 :: .int .i64 q.2 :: pairv l
theorem pairv_len (l : List (Int × Int)) : (pairv l).length = l.length * 2 := by
  induction l with
  | nil => rfl
  | cons q l ih => simp only [pairv, List.length_cons, ih]; omega
theorem pairv_append (l m : List (Int × Int)) : pairv (l ++ m) = pairv l ++ pairv m := by
  induction l with
  | nil => rfl
  | cons q l ih => simp only [List.cons_append, pairv, ih]
theorem pairv_get : ∀ (l : List (Int × Int)) (j : Nat), j < l.length → (pairv l)[j * 2]? = some (.int .i64 (nthP l j).1) ∧ (pairv l)[j * 2 + 1]? = some (.int .i64 (nthP l j).2)
  | [], _, h => by simp at h
  | q :: l, 0, _ => ⟨rfl, rfl⟩
  | q :: l, j + 1, h => by
    obtain ⟨h1, h2⟩ := pairv_get l j (by simpa using h)
    rw [show (j + 1) * 2 = j * 2 + 1 + 1 by omega]
    exact ⟨by simpa [pairv, nthP] using h1, by simpa [pairv, nthP] using h2⟩
theorem plumbs_of_cells {w : World} {a : Option Addr} {l : List (Int × Int)} (h : CellsAt w a (pairv l)) : PlumbsAt w a l := by
  rcases h with h | ⟨b, off, rfl, h⟩
  · cases l with
    | nil => exact .inl rfl
    | cons q l => cases h
  · refine .inr ⟨b, off, rfl, fun j hj => ?_⟩
    obtain ⟨h1, h2⟩ := pairv_get l j hj
    exact ⟨h _ _ h1, h _ _ h2⟩
theorem lowN_congr {f g : Nat → Int × Int} : ∀ {k : Nat}, (∀ i, i ≤ k → f i = g i) → lowN f k = lowN g k
  | 0, h => h 0 (Nat.le_refl _)
  | k + 1, h => by simp only [lowN]; rw [lowN_congr (f := f) (g := g) (k := k) fun i hi => h i (by omega), h (k + 1) (Nat.le_refl _)]
theorem highN_congr {f g : Nat → Int × Int} : ∀ {k : Nat}, (∀ i, i ≤ k → f i = g i) → highN f k = highN g k
  | 0, h => h 0 (Nat.le_refl _)
  | k + 1, h => by simp only [highN]; rw [highN_congr (f := f) (g := g) (k := k) fun i hi => h i (by omega), h (k + 1) (Nat.le_refl _)]
theorem enters94 : ∀ args w, (callFunc 94 args).run Try.prog w = .ok (.enter 94 args) w := enters_of Try.func94 (by kernel_rfl) rfl
theorem enters93 : ∀ args w, (callFunc 93 args).run Try.prog w = .ok (.enter 93 args) w := enters_of Try.func93 (by kernel_rfl) rfl

set_option maxRecDepth 100000 in
theorem makes_litQ (dst : Option Tmp) (ty : TypeId) (pos : String) (after : Array Edge) (x : Tmp) (c : Int × Int) (A : Act) (w : World) (hx : A.eval (.tmp x) = .agg #[.int .i64 c.1, .int .i64 c.2]) :
    makesOp Try.prog { dst := dst, op := .buildSlice 121 1 #[(0, .tmp x)], type := ty, pos := pos, after := after, guard := none } A w fun v s' => Below w.heap.size w s' ∧ (v = .slice (some ⟨w.heap.size, 0, none⟩) 1 1 ∧ s' = w.alloc (.cells #[.int .i64 c.1, .int .i64 c.2] 32)) := by
  unfold makesOp
  simp only [execOp, List.map_toArray, List.map_cons, List.map_nil, hx]
  simp [go_sem]
  exact bnew _ _

/-- what the loop over the levels that agree keeps -/
structure SpI (w1 : World) (b N Bs : Nat) (qs : List (Int × Int)) (k : Nat) (W : World) : Prop where
  le : k ≤ N
  out : ∃ ao cap, W.heap[b]? = some (.cells #[.slice ao k cap] 121 (0, 0)) ∧ OwnV 32 2 Bs W ao k cap (pairv (qs.take k))
  b : Below w1.heap.size w1 W
theorem OwnV.only {e sz B : Nat} {w w' : World} {ao : Option Addr} {n cap : Nat} {xs : List Value} (h : OwnV e sz B w ao n cap xs) {T : Nat → Prop} (ho : Only T w w') (hT : ∀ k, T k → k < B) : OwnV e sz B w' ao n cap xs :=
  h.keptIf fun g _ hg hh => ho.block g (Array.getElem?_eq_some_iff.1 hh).1 fun ht => by have := hT g ht; omega
theorem SpI.only {w1 : World} {b N Bs : Nat} {qs : List (Int × Int)} {k : Nat} {W W' : World} (h : SpI w1 b N Bs qs k W) {T : Nat → Prop} (ho : Only T W W') (hT : ∀ k, T k → k < Bs) (hb : ¬ T b) (h1 : ∀ k, k < w1.heap.size → ¬ T k) : SpI w1 b N Bs qs k W' := by
  obtain ⟨ao, cap, h2, h3⟩ := h.out
  exact ⟨h.le, ⟨ao, cap, (ho.block b (Array.getElem?_eq_some_iff.1 h2).1 hb).trans h2, h3.only ho hT⟩, h.b.trans (ho.below h.b.size h1)⟩
theorem set2_block {w : World} {g k : Nat} (h : k ≠ g) (x y : Value) : ((w.setCell ⟨g, 0, none⟩ x).setCell ⟨g, 1, none⟩ y).heap[k]? = w.heap[k]? :=
  (Below.heap_setCell _ _ _ _ (fun e => h e)).trans (Below.heap_setCell _ _ _ _ (fun e => h e))
theorem QAt.put {w : World} {g : Nat} {q : Int × Int} (h : QAt w g q) {D : Nat} (hr : g ≠ D) (o : Obj) : QAt (w.putObj D o) g q := (World.putObj_heap_other (fun e => hr e)).trans h
theorem take_succ_nthP {xs : List (Int × Int)} {k : Nat} (h : k < xs.length) : xs.take (k + 1) = xs.take k ++ [nthP xs k] := by
  rw [List.take_succ_eq_append_getElem h, nthP_eq h]

section
variable (pa : Option Addr) (pc : Nat) (ya : Option Addr) (yc : Nat) (la : Option Addr) (lc : Nat) (sa : Option Addr) (sc : Nat) (B : Bd) (R : Rd) (w : World)
set_option maxRecDepth 100000 in
set_option maxHeartbeats 8000000 in
theorem pSpan_c (hb : BdAt w pa ya B) (hr : RdAt w la sa R) (hl : B.pins.length ≤ 1000000) (hy : B.pays.length ≤ 1000000) (hP : R.plumbs.length ≤ 1000000) (hS : R.slots.length ≤ 1000000) :
    Calls Try.prog 42 #[.agg #[.slice pa B.pins.length pc, .slice ya B.pays.length yc], .agg #[.slice la R.plumbs.length lc, .slice sa R.slots.length sc]] w (SpanE w (levErr B R) (spanLo B R) (spanHi B R)) := by
  obtain ⟨V1, hV1, hB1, k0, k1, k2, k3⟩ := box2 w (.slice pa B.pins.length pc) (.slice ya B.pays.length yc) (.slice la R.plumbs.length lc) (.slice sa R.slots.length sc) 25 51
  obtain ⟨V, hV⟩ : ∃ V, V = (V1.alloc (.cells #[.int .i64 0, .int .i64 0] 32)).alloc (.cells #[.int .i64 0, .int .i64 0] 32) := ⟨_, rfl⟩
  have hB2 : Below V1.heap.size V1 V := by rw [hV]; exact bstep (bnew _ _) (bnew _ _)
  have hz : V1.heap.size = w.heap.size + 1 + 1 := by rw [hV1]; simp
  have q4 : QAt V (w.heap.size + 1 + 1) (0, 0) := by
    rw [← hz, hV]; exact (show QAt (V1.alloc (.cells #[.int .i64 0, .int .i64 0] 32)) V1.heap.size (0, 0) from heap_alloc_new _ _).mono (bnew _ _)
  have q5 : QAt V (w.heap.size + 1 + 1 + 1) (0, 0) := by
    have h := heap_alloc_new (V1.alloc (.cells #[.int .i64 0, .int .i64 0] 32)) (.cells #[.int .i64 0, .int .i64 0] 32)
    rw [World.size_alloc, hz] at h
    rw [hV]; exact h
  have k0 := cstep k0 hB2; have k1 := cstep k1 hB2; have k2 := cstep k2 hB2; have k3 := cstep k3 hB2
  have hB0 := bstep hB1 hB2
  have hbV := hb.mono hB0; have hrV := hr.mono hB0
  rw [hV1] at hV
  have HV := hid hV; have HB0 := hid hB0; have Q4 := hid q4; have Q5 := hid q5
  have HV0 := hid (Below.refl V.heap.size V)
  have hE : levErr B R = if readErr B R = 0 then (if levelsL B R = [] then 18 else 0) else readErr B R := rfl
  have hX : spanLo B R = if levErr B R = 0 then lowN (spanF B R) ((levelsL B R).length - 1) else (0, 0) := rfl
  have hY : spanHi B R = if levErr B R = 0 then highN (spanF B R) ((levelsL B R).length - 1) else (0, 0) := rfl
  unfold SpanE
  by_cases h0 : readErr B R = 0
  case neg =>
    have HC := hid fun (w' : World) (h : Below V.heap.size V w') => read_bad pa pc ya yc la lc sa sc B R w' (hbV.mono h) (hrV.mono h) hl hy hP hS h0
    unfold NoFr at HC
    rw [if_neg h0] at hE
    rw [hE, if_neg h0] at hX hY
    rw [hE, hX, hY]
    obtain ⟨v, hv⟩ : ∃ v, v = readErr B R := ⟨_, rfl⟩
    rw [← hv] at HC h0 ⊢
    clear hE hX hY hv hb hr hl hy hP hS hV hB0 hbV hrV hV1 hB1 hB2 hz q4 q5
    go_enter Try.func42, Try.ntmps42
    go_upto_region 1 with (fail)
    rw [← HV.out]
    go_wp2_with fail
    refine (HC.out _ HV0.out).mono ?_
    rintro e w1 ⟨rfl, hB⟩
    have q4 := Q4.out.mono hB; have q5 := Q5.out.mono hB
    have c0 := q4.c0; have c1 := q4.c1; have f0 := q4.f0; have f1 := q4.f1
    have d0 := q5.c0; have d1 := q5.c1; have g0 := q5.f0; have g1 := q5.f1
    have HB1 := hid (bstep HB0.out hB)
    have R4 := hid ((q4.set 0 0).other (r := w.heap.size + 1 + 1 + 1) (by omega) (.int .i64 0) (.int .i64 0))
    have R5 := hid ((q5.other (r := w.heap.size + 1 + 1) (by omega) (.int .i64 0) (.int .i64 0)).set 0 0)
    have HB2 := hid (below_set2 (below_set2 HB1.out (show w.heap.size ≤ w.heap.size + 1 + 1 by omega) (.int .i64 0) (.int .i64 0)) (show w.heap.size ≤ w.heap.size + 1 + 1 + 1 by omega) (.int .i64 0) (.int .i64 0))
    clear q4 q5 hB k0 k1 k2 k3
    go_wp2
    refine bodyPost_ret (results_cells3 rfl _ _ (w.heap.size + 1 + 1) (w.heap.size + 1 + 1 + 1) (0, 0) (0, 0) rfl rfl R4.out R5.out) rfl ?_
    exact ⟨rfl, HB2.out⟩
  case pos =>
    have HC := hid fun (w' : World) (h : Below V.heap.size V w') => read_ok pa pc ya yc la lc sa sc B R w' (hbV.mono h) (hrV.mono h) hl hy hP hS h0
    unfold NewFr at HC
    obtain ⟨hBk, hRk⟩ := readErr_zero.1 h0
    rw [if_pos h0] at hE
    have hll := levelsL_len B R
    have HbV := hid hbV; have HrV := hid hrV
    obtain ⟨L, hL⟩ : ∃ L, L = levelsL B R := ⟨_, rfl⟩
    obtain ⟨qs, hqs⟩ : ∃ qs, qs = L.map (payQ B) := ⟨_, rfl⟩
    have hql : qs.length = L.length := by rw [hqs]; simp
    have hqn : ∀ i, i < L.length → nthP qs i = payQ B (nth L i) := fun i hi => by rw [nthP_eq (by omega), nth_eq hi]; simp [hqs]
    have hspan : ∀ i, i < L.length → nthP qs i = spanF B R i := fun i hi => by rw [hqn i hi, hL]; rfl
    have hfit : ∀ q ∈ qs, FitQ q := fun q hq => by
      rw [hqs, hL] at hq
      obtain ⟨x, hx, rfl⟩ := List.mem_map.1 hq
      obtain ⟨i, hi, rfl⟩ := List.getElem_of_mem hx
      have := spanF_fit (R := R) hBk hi
      rw [spanF, nth_eq hi] at this; exact this
    have he0 : ¬ L.length = 0 → levErr B R = 0 := fun h => by rw [hE, ← hL, if_neg fun h2 => h (by rw [h2]; rfl)]
    have Hlo := hid fun (h : 0 < L.length) => show spanLo B R = bestK lessQ (nthP qs) (qs.length - 1) by
      rw [bestK_low, hX, if_pos (he0 (by omega)), ← hL, hql]
      exact lowN_congr fun i hi => (hspan i (by omega)).symm
    have Hhi := hid fun (h : 0 < L.length) => show spanHi B R = bestK (fun x y => lessQ y x) (nthP qs) (qs.length - 1) by
      rw [bestK_high, hY, if_pos (he0 (by omega)), ← hL, hql]
      exact highN_congr fun i hi => (hspan i (by omega)).symm
    have Hz := hid fun (h : L.length = 0) => show levErr B R = 18 ∧ spanLo B R = (0, 0) ∧ spanHi B R = (0, 0) by
      have e : levErr B R = 18 := by rw [hE, ← hL, if_pos (List.eq_nil_of_length_eq_zero h)]
      rw [hX, hY, e]; exact ⟨rfl, rfl, rfl⟩
    have Hnz := hid he0
    obtain ⟨ev, hev⟩ : ∃ ev, ev = levErr B R := ⟨_, rfl⟩
    obtain ⟨lo, hlo⟩ : ∃ x, x = spanLo B R := ⟨_, rfl⟩
    obtain ⟨hi, hhi⟩ : ∃ x, x = spanHi B R := ⟨_, rfl⟩
    rw [← hlo, ← hhi] at Hz
    rw [← hev] at Hz Hnz ⊢
    rw [← hlo] at Hlo ⊢
    rw [← hhi] at Hhi ⊢
    have Hfit := hid hfit; have Hqn := hid hqn; have Hql := hid hql; have HL := hid hL
    rw [← hL] at hll
    clear hE hX hY hb hr hl hy hP hS hV hB0 hbV hrV hV1 hB1 hB2 hz q4 q5 h0 hev hlo hhi hql hqn hspan hfit hqs hL he0
    refine callsIn_wide.1 (callsIn_of_wp_marks (n := 0) Try.func42 rfl trivial ?_ rfl)
    simp only [Try.ntmps42, List.size_toArray, List.length_cons, List.length_nil, Nat.reduceAdd, Nat.reduceSub, Array.replicate_succ, Array.replicate_zero, List.push_toArray, List.append_toArray, List.nil_append, List.cons_append]
    refine wpIn_wide.2 ?_
    go_upto_region 1 with (fail)
    rw [← HV.out]
    go_wp2_with fail
    refine (HC.out _ HV0.out).mono ?_
    rintro e w1 ⟨g, rfl, hg, hge, hB⟩
    have hfr := frAt_of hg (HbV.out.mono hB) (HrV.out.mono hB)
    have HB1 := hid hB; have Hfr := hid hfr; have Q4 := hid (Q4.out.mono hB); have Q5 := hid (Q5.out.mono hB)
    clear hB hg hge k0 k1 k2 k3 hfr
    have HA := hid fun (w' : World) => agreeing_c g w'
    obtain ⟨w3, hw3⟩ : ∃ w3, w3 = (w1.alloc (.cells #[.slice none 0 0] 121)).alloc (.cells #[.pointer (some ⟨g, 0, none⟩)] 88) := ⟨_, rfl⟩
    have hB3 : Below w1.heap.size w1 w3 := by rw [hw3]; exact bstep (bnew _ _) (bnew _ _)
    have hz3 : w3.heap.size = w1.heap.size + 1 + 1 := by rw [hw3]; simp
    have hb3 : w3.heap[w1.heap.size]? = some (.cells #[.slice none 0 0] 121 (0, 0)) := by
      rw [hw3]; exact ((bnew _ _).block _ (by simp)).trans (heap_alloc_new w1 _)
    have hp3 : w3.cell? ⟨w1.heap.size + 1, 0, none⟩ = some (.pointer (some ⟨g, 0, none⟩)) := by
      have h := heap_alloc_new (w1.alloc (.cells #[.slice none 0 0] 121)) (.cells #[.pointer (some ⟨g, 0, none⟩)] 88)
      rw [World.size_alloc, ← hw3] at h
      rw [cell_of_row _ _ _ _ _ _ h]; rfl
    have hGen := agreeing1_c ⟨pa, pc, ya, yc, la, lc, sa, sc⟩ B R (w1.heap.size + 1) g 0 w1 w3 (fun b => b = w1.heap.size ∨ w3.heap.size + 6 ≤ b) (fun _ => False) (fun _ h => h.elim) hBk hRk (by rintro k (h | h) <;> omega) Hfr.out hp3 (by rintro (h | h) <;> omega) hB3
    rw [← HL.out] at hGen
    have HI0 := hid (show SpI w1 w1.heap.size L.length (w3.heap.size + 6) qs 0 w3 from ⟨Nat.zero_le _, ⟨none, 0, hb3, by rw [List.take_zero]; exact OwnV.nil _ _ _ _⟩, hB3⟩)
    have Hgen := hid hGen; have Hz3 := hid hz3; have HW3 := hid hw3
    clear hGen hw3 hB3 hz3 hb3 hp3
    go_wp2_with fail
    refine (HA.out _).mono ?_
    rintro e w4 ⟨rfl, hw4⟩
    rw [World.size_alloc]
    rw [← HW3.out] at hw4
    subst hw4
    go_wp2
    refine (wpIn_wide (n := 0)).1 ?_
    refine range_lawT' (fun v t => t.setIfInBounds 10 (v.getD 0 undef)) rfl enters110 Hgen.out ?hS ⟨id, id⟩ ?hT ?hps ?hX (SpI w1 w1.heap.size L.length (w3.heap.size + 6) qs) (fun _ _ _ => False) ?hI (fun _ _ _ _ h => h.elim) ?hIT (fun _ _ _ _ h => h.elim) (fun k W h => h.le) HI0.out ?assign ?body ?done (fun _ _ _ h => h.elim)
    case hS => have := Hz3.out; refine ⟨fun h => ?_, fun h => ?_⟩ <;> rcases h with h | h <;> omega
    case hT => refine ⟨fun h => ?_, fun h => ?_⟩ <;> omega
    case hps => rintro k v W ⟨g, rfl, _⟩; rfl
    case hX => intro k v W W' hv ho; exact hv.only ho (by omega) (by have := Hz3.out; omega)
    case hI =>
      intro k W' W'' h ho
      have e1 := Hz3.out
      exact h.only ho (fun k e => by have e' : k = w3.heap.size + 1 := e; omega) (fun e => by have e' : w1.heap.size = w3.heap.size + 1 := e; omega) (fun k hk e => by have e' : k = w3.heap.size + 1 := e; omega)
    case hIT =>
      intro k W' W'' h ho
      have e1 := Hz3.out
      exact h.only ho (fun k e => by have := e.2; omega) (fun e => by have := e.1; omega) (fun k hk e => by have := e.1; omega)
    case assign =>
      intro l k v W K hx hK
      obtain ⟨g', rfl, _⟩ := hx
      conv in (Act.mk _ _) => simp
      gi_wp2
      simpa using hK
    case body =>
      intro k v W' hW' hI hX hkl
      obtain ⟨g', rfl, hg5, hgs, hgh, hgB⟩ := hX
      obtain ⟨ao, cap, hbx, hown⟩ := hI.out
      have hkq : k < qs.length := by rw [Hql.out]; exact hkl
      have hlvk : -5 ≤ nth L k ∧ nth L k ≤ 5 := by rw [HL.out]; exact (levelsL_at (by rw [← HL.out]; exact hkl)).1
      have hfr := frAt_of hgh (Hfr.out.bd.mono hgB) (Hfr.out.rd.mono hgB)
      have cb : W'.cell? ⟨w1.heap.size, 0, none⟩ = some (.slice ao k cap) := by rw [cell_of_row _ _ _ _ _ _ hbx]; rfl
      have hsz : w3.heap.size + 6 ≤ W'.heap.size := by omega
      have htk := take_succ_nthP hkq
      rw [Hqn.out k hkl] at htk
      have HPy := hid fun (J : World → Prop) (s : LaterJ W' J) => pay_c g' ⟨pa, pc, ya, yc, la, lc, sa, sc⟩ B R (nth L k) s.w' (hfr.mono s.h) hBk hlvk
      obtain ⟨c, hc⟩ : ∃ c, c = payQ B (nth L k) := ⟨_, rfl⟩
      rw [← hc] at HPy htk
      have i2 := fun (J : World → Prop) (s : LaterJ W' J) => cstep cb s.h
      have HIb := hid hI.b; have Hbx := hid hbx; have Hown := hid hown; have Htk := hid htk
      clear hI hgB hgh hbx hown cb hc htk hfr
      conv in (Act.mk _ _) => simp
      gi_wp2
      refine wpIn_region_mix (n := 4) (nz := [(3, 29)]) (dp := fun _ => []) (bs := [false, false, false, true, true, true]) (Φ := fun _ _ v p q => v = .slice (some ⟨p.heap.size, 0, none⟩) 1 1 ∧ q = p.alloc (.cells #[.int .i64 c.1, .int .i64 c.2] 32)) mix8 (by kernel_rfl) (by simp) (by simp) ?_
      simp only [blindL, blindO, if_true, Bool.false_eq_true, if_false]
      repeat (gi_big_quiet_step ((refine ⟨rfl, ?_⟩; gi_at_call 70; exact callsJ abidesT (HPy.out _ _))))
      refine wpQuietIn_nil ?_
      refine ⟨?_, ?_⟩
      · intro J hJ hne
        repeat (gi_big_quiet_step ((refine ⟨rfl, ?_⟩; gi_at_call 70; exact callsJ hJ (HPy.out _ _))))
        exact wpQuietIn_nil rfl
      · refine mixAsk1 _ rfl (fun u s _ => makes_litQ _ _ _ _ 28 c _ s rfl) ?_
        intro u p q s hp hu hq hs
        obtain ⟨rfl, hqe⟩ := hu
        have hcs : CellsAt s (some ⟨p.heap.size, 0, none⟩) (pairv [c]) := by
          refine CellsAt.mono (w := q) ?_ hq
          rw [hqe]
          exact CellsAt.of_heap (heap_alloc_new _ _) fun j v hj => by
            have e : pairv [c] = [.int .i64 c.1, .int .i64 c.2] := rfl
            rw [e] at hj
            simpa using hj
        have hsz2 : w3.heap.size + 6 ≤ s.heap.size := Nat.le_trans hsz hs.size
        have hown2 := Hown.out.kept hs
        have hbx2 := (hs.block _ (Array.getElem?_eq_some_iff.1 Hbx.out).1).trans Hbx.out
        have hk1 : k + 1 ≤ 1000000 := by omega
        have Hbx2 := hid hbx2; have Hs := hid hs
        simp only [List.drop_succ_cons, List.drop_zero, Act.put, List.setIfInBounds_toArray, List.set_cons_succ, List.set_cons_zero]
        refine wpListIn_appV et121 s rfl (.tmp 26) (.tmp 29) rfl (w3.heap.size + 6) ao k cap (pairv (qs.take k)) rfl hown2 (some ⟨p.heap.size, 0, none⟩) 1 1 _ rfl hcs rfl (by simp [pairv, Value.oneCell']) (fun h => by cases h) hk1 hsz2 ?_
        intro ao' cap' w' hB' hown' hgr' hn'
        rw [← pairv_append, ← Htk.out] at hown'
        have hbx3 : w'.heap[w1.heap.size]? = some (.cells #[.slice ao k cap] 121 (0, 0)) := (hB'.block _ (by have := Hz3.out; omega)).trans Hbx2.out
        have cb : w'.cell? ⟨w1.heap.size, 0, none⟩ = some (.slice ao k cap) := by rw [cell_of_row _ _ _ _ _ _ hbx3]; rfl
        have fb : w'.frozen? ⟨w1.heap.size, 0, none⟩ = false := frozen_of_row _ _ 0 _ _ hbx3
        have hO : Only (fun b => b = w1.heap.size ∨ w3.heap.size + 6 ≤ b) W' (w'.setCell ⟨w1.heap.size, 0, none⟩ (.slice ao' (k + 1) cap')) := by
          refine Only.setCell ((Only.of_below Hs.out).trans (Only.of_grown hgr' fun j e => .inr ?_)) (.inl rfl) _
          exact (OwnV.block hown2 e).1
        have hfin : (w'.setCell ⟨w1.heap.size, 0, none⟩ (.slice ao' (k + 1) cap')).heap[w1.heap.size]? = some (.cells #[.slice ao' (k + 1) cap'] 121 (0, 0)) := heap_setCell_same w' _ 0 _ 121 _ hbx3
        have HR := hid (show Only (fun b => b = w1.heap.size ∨ w3.heap.size + 6 ≤ b) W' (w'.setCell ⟨w1.heap.size, 0, none⟩ (.slice ao' (k + 1) cap')) ∧ SpI w1 w1.heap.size L.length (w3.heap.size + 6) qs (k + 1) (w'.setCell ⟨w1.heap.size, 0, none⟩ (.slice ao' (k + 1) cap')) from
          ⟨hO, by omega, ⟨ao', cap', hfin, hown'.keptIf fun g _ hg _ => Below.heap_setCell _ _ _ _ (fun e => by have := Hz3.out; have e' : g = w1.heap.size := e; omega)⟩,
            ((bstep HIb.out Hs.out).trans (hB'.mono (by have := Hz3.out; omega))).setCell (Nat.le_refl _) _⟩)
        clear hB' hown' hgr' hn' hcs hown2 hbx2 hbx3 hO hfin hp hq hs i2
        gi_wp2
        exact HR.out
    case done =>
      rintro k W' hk hI hD hlt
      obtain rfl : k = L.length := hk
      obtain ⟨ao, cap, hbx, hown⟩ := hI.out
      rw [← Hql.out, List.take_length, Hql.out] at hown
      have cb : W'.cell? ⟨w1.heap.size, 0, none⟩ = some (.slice ao L.length cap) := by rw [cell_of_row _ _ _ _ _ _ hbx]; rfl
      have q4 := Q4.out.mono hI.b; have q5 := Q5.out.mono hI.b
      have hl4 := Q4.out.lt; have hl5 := Q5.out.lt
      have HD := hid hD; have Hown := hid hown; have HIb := hid hI.b; have Hq4 := hid q4; have Hq5 := hid q5
      clear hbx hown hI hD
      by_cases hn : L.length = 0
      · have hnI : (L.length : Int) = 0 := by omega
        obtain ⟨rfl, rfl, rfl⟩ := Hz.out hn
        have c0 := q4.c0; have c1 := q4.c1; have f0 := q4.f0; have f1 := q4.f1
        have d0 := q5.c0; have d1 := q5.c1; have g0 := q5.f0; have g1 := q5.f1
        have R4 := hid ((q4.set 0 0).other (r := w.heap.size + 1 + 1 + 1) (by omega) (.int .i64 0) (.int .i64 0))
        have R5 := hid ((q5.other (r := w.heap.size + 1 + 1) (by omega) (.int .i64 0) (.int .i64 0)).set 0 0)
        clear q4 q5 hn
        have hB9 := HIb.out
        have HB10 := hid (below_set2 (below_set2 (bstep HB0.out (bstep HB1.out hB9)) (show w.heap.size ≤ w.heap.size + 1 + 1 by omega) (.int .i64 0) (.int .i64 0)) (show w.heap.size ≤ w.heap.size + 1 + 1 + 1 by omega) (.int .i64 0) (.int .i64 0))
        have hz3 := Hz3.out
        have n4 : w3.heap.size ≠ w.heap.size + 1 + 1 := by omega
        have n5 : w3.heap.size ≠ w.heap.size + 1 + 1 + 1 := by omega
        have HD2 := hid ((set2_block n5 (.int .i64 0) (.int .i64 0)).trans ((set2_block n4 (.int .i64 0) (.int .i64 0)).trans HD.out))
        have hge : w.heap.size ≤ w3.heap.size := by omega
        have N4 := hid n4; have N5 := hid n5; have Hge := hid hge
        clear hB9 hz3 n4 n5 hge hl4 hl5
        go_wp2
        refine ⟨by simp, .inl ⟨_, _, rfl, run_takeDeferred HD2.out, ?_⟩⟩
        refine ⟨_, results_cells3 rfl _ _ (w.heap.size + 1 + 1) (w.heap.size + 1 + 1 + 1) (0, 0) (0, 0) rfl rfl (R4.out.put N4.out.symm _) (R5.out.put N5.out.symm _), rfl, HB10.out.trans ((Only.put1 _ w3.heap.size (.deferred none)).below HB10.out.size (by intro j hj e; have e' : j = w3.heap.size := e; have := Hge.out; omega))⟩
      · have hnI : ¬ (L.length : Int) = 0 := by omega
        obtain rfl := Hnz.out hn
        have Hlo2 := hid (Hlo.out (by omega)); have Hhi2 := hid (Hhi.out (by omega))
        have hcap := Hown.out.capOf
        have hx : PlumbsAt W' ao qs := plumbs_of_cells Hown.out.at
        have i1 := fun (J : World → Prop) (s : LaterJ W' J) => cstep cb s.h
        have HX1 := hid fun (J : World → Prop) (s : LaterJ W' J) => bestQ_c ao cap 94 lessQ qs s.w' (hx.mono s.h) (by rw [Hql.out]; omega) (by rw [Hql.out]; omega) (by rw [Hql.out]; exact hcap) (fun x y hx hy w' => lessQ_c x y w' (Hfit.out x hx) (Hfit.out y hy)) enters94
        have HX2 := hid fun (J : World → Prop) (s : LaterJ W' J) => bestQ_c ao cap 93 (fun x y => lessQ y x) qs s.w' (hx.mono s.h) (by rw [Hql.out]; omega) (by rw [Hql.out]; omega) (by rw [Hql.out]; exact hcap) (fun x y hx hy w' => moreQ_c x y w' (Hfit.out x hx) (Hfit.out y hy)) enters93
        unfold QV at HX1 HX2
        rw [← Hlo2.out, Hql.out] at HX1
        rw [← Hhi2.out, Hql.out] at HX2
        have Hl4 := hid hl4; have Hl5 := hid hl5
        clear q4 q5 hl4 hl5 hn hcap hx
        go_upto_region 11 with (fail)
        clear cb
        refine wp_region_mix (n := 5) (nz := []) (dp := fun _ => []) (bs := [false, false, false, false, false, true, true, true]) (Φ := fun _ _ _ _ _ => True) mix8 (by kernel_rfl) (by simp) ?_
        simp only [blindL, blindO, if_true, Bool.false_eq_true, if_false]
        repeat (gi_big_quiet_step ((first | (refine ⟨rfl, ?_⟩; gi_at_call 95; with_reducible exact callsJ abidesT (HX1.out _ _)) | (refine ⟨rfl, ?_⟩; gi_at_call 95; with_reducible exact callsJ abidesT (HX2.out _ _)))))
        refine wpQuietIn_nil ?_
        refine ⟨?_, ?_⟩
        · intro J hJ hne
          repeat (gi_big_quiet_step ((first | (refine ⟨rfl, ?_⟩; gi_at_call 95; with_reducible exact callsJ hJ (HX1.out _ _)) | (refine ⟨rfl, ?_⟩; gi_at_call 95; with_reducible exact callsJ hJ (HX2.out _ _)))))
          exact wpQuietIn_nil rfl
        · refine mixAsk0 fun s hs => ?_
          simp only [List.drop_succ_cons, List.drop_zero]
          have q4 := Hq4.out.mono hs; have q5 := Hq5.out.mono hs
          have hl4 := Hl4.out; have hl5 := Hl5.out; have hz3 := Hz3.out
          have c0 := q4.c0; have c1 := q4.c1; have f0 := q4.f0; have f1 := q4.f1
          have d0 := q5.c0; have d1 := q5.c1; have g0 := q5.f0; have g1 := q5.f1
          have R4 := hid ((q4.set lo.1 lo.2).other (r := w.heap.size + 1 + 1 + 1) (by omega) (.int .i64 hi.1) (.int .i64 hi.2))
          have R5 := hid ((q5.other (r := w.heap.size + 1 + 1) (by omega) (.int .i64 lo.1) (.int .i64 lo.2)).set hi.1 hi.2)
          have HB10 := hid (below_set2 (below_set2 (bstep (bstep HB0.out (bstep HB1.out HIb.out)) hs) (show w.heap.size ≤ w.heap.size + 1 + 1 by omega) (.int .i64 lo.1) (.int .i64 lo.2)) (show w.heap.size ≤ w.heap.size + 1 + 1 + 1 by omega) (.int .i64 hi.1) (.int .i64 hi.2))
          have n4 : w3.heap.size ≠ w.heap.size + 1 + 1 := by omega
          have n5 : w3.heap.size ≠ w.heap.size + 1 + 1 + 1 := by omega
          have HD2 := hid ((set2_block n5 (.int .i64 hi.1) (.int .i64 hi.2)).trans ((set2_block n4 (.int .i64 lo.1) (.int .i64 lo.2)).trans ((hs.block _ (Array.getElem?_eq_some_iff.1 HD.out).1).trans HD.out)))
          have hge : w.heap.size ≤ w3.heap.size := by omega
          have N4 := hid n4; have N5 := hid n5; have Hge := hid hge
          clear hz3 n4 n5 hge hl4 hl5 q4 q5 hs i1
          gi_wp2
          go_wp2
          refine ⟨by simp, .inl ⟨_, _, rfl, run_takeDeferred HD2.out, ?_⟩⟩
          refine ⟨_, results_cells3 rfl _ _ (w.heap.size + 1 + 1) (w.heap.size + 1 + 1 + 1) lo hi rfl rfl (R4.out.put N4.out.symm _) (R5.out.put N5.out.symm _), rfl, HB10.out.trans ((Only.put1 _ w3.heap.size (.deferred none)).below HB10.out.size (by intro j hj e; have e' : j = w3.heap.size := e; have := Hge.out; omega))⟩
end

end Go.Proofs.Ytnnojhpioenhbaa

namespace Go.Proofs.Ytnnojhpioenhbaa
open Go.RowKit Go.Shelf

section
variable (w : World) (g : Nat) (v : Value) (h : w.cell? ⟨g, 0, none⟩ = some v)
include h
set_option maxRecDepth 100000 in
theorem load3 : (loadVar 3 ⟨g, 0, none⟩).run Try.prog w = .ok v w := by simp [go_sem, h]
set_option maxRecDepth 100000 in
theorem load28 : (loadVar 28 ⟨g, 0, none⟩).run Try.prog w = .ok v w := by simp [go_sem, h]
set_option maxRecDepth 100000 in
theorem load42 : (loadVar 42 ⟨g, 0, none⟩).run Try.prog w = .ok v w := by simp [go_sem, h]
end
theorem results_c1 {fn : Func} {p : Tmp} {ty : TypeId} (h : fn.results = #[.cell p ty]) (tmps : Array Value) (P : Program) (w : World) :
    (results fn tmps).run P w = ((asAddr (tmps.getD p undef)).run P w).andThen fun a w₁ => (loadVar ty a).run P w₁ := by
  simp only [results, h]
  simp [Sem.run_bind, Result.andThen]
theorem results_cc {fn : Func} {p r : Tmp} {ty ty2 : TypeId} (h : fn.results = #[.cell p ty, .cell r ty2]) (tmps : Array Value) (P : Program) (w : World) :
    (results fn tmps).run P w = ((asAddr (tmps.getD p undef)).run P w).andThen fun a w₁ => ((loadVar ty a).run P w₁).andThen fun v w₂ =>
      ((asAddr (tmps.getD r undef)).run P w₂).andThen fun b w₃ => ((loadVar ty2 b).run P w₃).andThen fun x w₄ => .ok (.tuple #[v, x]) w₄ := by
  simp only [results, h]
  simp [Sem.run_bind, Result.andThen]
theorem results_cell28 {fn : Func} {p : Tmp} (h : fn.results = #[.cell p 28]) (tmps : Array Value) (w : World) (g : Nat) (v : Value) (hp : tmps.getD p undef = .pointer (some ⟨g, 0, none⟩)) (hc : w.cell? ⟨g, 0, none⟩ = some v) :
    (results fn tmps).run Try.prog w = .ok v w := by
  rw [results_c1 h, hp]
  simp [asAddr, load28 w g v hc, Result.andThen]
theorem results_cell42_28 {fn : Func} {p r : Tmp} (h : fn.results = #[.cell p 42, .cell r 28]) (tmps : Array Value) (w : World) (g g2 : Nat) (v v2 : Value) (hp : tmps.getD p undef = .pointer (some ⟨g, 0, none⟩)) (hr : tmps.getD r undef = .pointer (some ⟨g2, 0, none⟩)) (hc : w.cell? ⟨g, 0, none⟩ = some v) (hc2 : w.cell? ⟨g2, 0, none⟩ = some v2) :
    (results fn tmps).run Try.prog w = .ok (.tuple #[v, v2]) w := by
  rw [results_cc h, hp, hr]
  simp [asAddr, load28 w g2 v2 hc2, load42 w g v hc, Result.andThen]
theorem results_cell3_28 {fn : Func} {p r : Tmp} (h : fn.results = #[.cell p 3, .cell r 28]) (tmps : Array Value) (w : World) (g g2 : Nat) (v v2 : Value) (hp : tmps.getD p undef = .pointer (some ⟨g, 0, none⟩)) (hr : tmps.getD r undef = .pointer (some ⟨g2, 0, none⟩)) (hc : w.cell? ⟨g, 0, none⟩ = some v) (hc2 : w.cell? ⟨g2, 0, none⟩ = some v2) :
    (results fn tmps).run Try.prog w = .ok (.tuple #[v, v2]) w := by
  rw [results_cc h, hp, hr]
  simp [asAddr, load28 w g2 v2 hc2, load3 w g v hc, Result.andThen]

/-- a box of one value -/
def VAt (w : World) (g : Nat) (t : TypeId) (v : Value) : Prop := w.heap[g]? = some (.cells #[v] t (0, 0))
section
variable {w w' : World} {g : Nat} {t : TypeId} {v : Value}
theorem VAt.c (h : VAt w g t v) : w.cell? ⟨g, 0, none⟩ = some v := by rw [cell_of_row _ _ _ _ _ _ h]; rfl
theorem VAt.f (h : VAt w g t v) : w.frozen? ⟨g, 0, none⟩ = false := frozen_of_row w _ 0 _ _ h
theorem VAt.lt (h : VAt w g t v) : g < w.heap.size := (Array.getElem?_eq_some_iff.1 h).1
theorem VAt.mono (h : VAt w g t v) (hB : Below w.heap.size w w') : VAt w' g t v := (hB.block _ h.lt).trans h
theorem VAt.below (h : VAt w g t v) {N : Nat} (hB : Below N w w') (hg : g < N) : VAt w' g t v := (hB.block _ hg).trans h
theorem VAt.only (h : VAt w g t v) {T : Nat → Prop} (ho : Only T w w') (hT : ¬ T g) : VAt w' g t v := (ho.block _ h.lt hT).trans h
theorem VAt.set (h : VAt w g t v) (u : Value) : VAt (w.setCell ⟨g, 0, none⟩ u) g t u := heap_setCell_same w _ 0 #[v] t u h
theorem VAt.other (h : VAt w g t v) {r : Nat} (hr : g ≠ r) (u : Value) : VAt (w.setCell ⟨r, 0, none⟩ u) g t v := (Below.heap_setCell _ _ _ _ (fun e => hr e)).trans h
theorem VAt.put (h : VAt w g t v) {D : Nat} (hr : g ≠ D) (o : Obj) : VAt (w.putObj D o) g t v := (World.putObj_heap_other (fun e => hr e)).trans h
theorem VAt.new (w : World) (t : TypeId) (v : Value) : VAt (w.alloc (.cells #[v] t)) w.heap.size t v := heap_alloc_new w _
end

section
attribute [local go_sem] Oper.semAt_some
variable (pa : Option Addr) (pc : Nat) (ya : Option Addr) (yc : Nat) (la : Option Addr) (lc : Nat) (sa : Option Addr) (sc : Nat) (xa : Option Addr) (xc : Nat) (B : Bd) (R : Rd) (xs : List Int) (w : World)
set_option maxRecDepth 100000 in
set_option maxHeartbeats 8000000 in
theorem pCheckRefuted_c (hb : BdAt w pa ya B) (hr : RdAt w la sa R) (hx : IntsAt w xa xs) (hl : B.pins.length ≤ 1000000) (hy : B.pays.length ≤ 1000000) (hP : R.plumbs.length ≤ 1000000) (hS : R.slots.length ≤ 1000000) (hxl : xs.length ≤ 1000000) :
    Calls Try.prog 40 #[.agg #[.slice pa B.pins.length pc, .slice ya B.pays.length yc], .agg #[.slice la R.plumbs.length lc, .slice sa R.slots.length sc], .slice xa xs.length xc] w (TellI w (crErr B R xs)) := by
  obtain ⟨V1, hV1, hB1, k0, k1, k2, k3⟩ := box2 w (.slice pa B.pins.length pc) (.slice ya B.pays.length yc) (.slice la R.plumbs.length lc) (.slice sa R.slots.length sc) 25 51
  obtain ⟨V, hV⟩ : ∃ V, V = (V1.alloc (.cells #[.slice xa xs.length xc] 42)).alloc (.cells #[.int .i64 0] 28) := ⟨_, rfl⟩
  have hB2 : Below V1.heap.size V1 V := by rw [hV]; exact bstep (bnew _ _) (bnew _ _)
  have hz : V1.heap.size = w.heap.size + 1 + 1 := by rw [hV1]; simp
  have q5 : VAt V (w.heap.size + 1 + 1) 42 (.slice xa xs.length xc) := by rw [← hz, hV]; exact (VAt.new V1 42 _).mono (bnew _ _)
  have q6 : VAt V (w.heap.size + 1 + 1 + 1) 28 (.int .i64 0) := by
    have h := VAt.new (V1.alloc (.cells #[.slice xa xs.length xc] 42)) 28 (.int .i64 0)
    rw [World.size_alloc, hz] at h
    rw [hV]; exact h
  have k0 := cstep k0 hB2; have k1 := cstep k1 hB2; have k2 := cstep k2 hB2; have k3 := cstep k3 hB2
  have hB0 := bstep hB1 hB2
  have hbV := hb.mono hB0; have hrV := hr.mono hB0; have hxV := hx.mono hB0
  rw [hV1] at hV
  have HV := hid hV; have HB0 := hid hB0; have Q5 := hid q5; have Q6 := hid q6
  have HV0 := hid (Below.refl V.heap.size V)
  have hE : crErr B R xs = if readErr B R = 0 then (if xs.length = 11 then (if within 0 ((manyN R : Int) - 1) xs = true then (if allTo (noAg B R xs) 11 = true then 0 else 14) else 3) else 15) else readErr B R := rfl
  unfold TellI
  by_cases h0 : readErr B R = 0
  case neg =>
    have HC := hid fun (w' : World) (h : Below V.heap.size V w') => read_bad pa pc ya yc la lc sa sc B R w' (hbV.mono h) (hrV.mono h) hl hy hP hS h0
    unfold NoFr at HC
    rw [if_neg h0] at hE
    rw [hE]
    obtain ⟨v, hv⟩ : ∃ v, v = readErr B R := ⟨_, rfl⟩
    rw [← hv] at HC h0 ⊢
    clear hE hv hb hr hx hl hy hP hS hxl hV hB0 hbV hrV hxV hV1 hB1 hB2 hz q5 q6
    go_enter Try.func40, Try.ntmps40
    go_upto_region 1 with (fail)
    rw [← HV.out]
    go_wp2_with fail
    refine (HC.out _ HV0.out).mono ?_
    rintro e w1 ⟨rfl, hB⟩
    have q6 := Q6.out.mono hB
    have c0 := q6.c; have f0 := q6.f
    have R6 := hid (q6.set (.int .i64 v)).c
    have HB1 := hid ((bstep HB0.out hB).setCell (p := ⟨w.heap.size + 1 + 1 + 1, 0, none⟩) (show w.heap.size ≤ w.heap.size + 1 + 1 + 1 by omega) (.int .i64 v))
    clear q6 hB k0 k1 k2 k3
    go_wp2
    refine bodyPost_ret (results_cell28 rfl _ _ (w.heap.size + 1 + 1 + 1) (.int .i64 v) rfl R6.out) rfl ?_
    exact ⟨rfl, HB1.out⟩
  case pos =>
    have HC := hid fun (w' : World) (h : Below V.heap.size V w') => read_ok pa pc ya yc la lc sa sc B R w' (hbV.mono h) (hrV.mono h) hl hy hP hS h0
    unfold NewFr at HC
    obtain ⟨hBk, hRk⟩ := readErr_zero.1 h0
    rw [if_pos h0] at hE
    by_cases h11 : xs.length = 11
    case neg =>
      rw [if_neg h11] at hE
      rw [hE]
      have hI : ¬ (xs.length : Int) = 11 := by omega
      clear hE hb hr hx hl hy hP hS hxl hV hB0 hbV hrV hxV hV1 hB1 hB2 hz q5 q6 h0 hBk hRk h11
      go_enter Try.func40, Try.ntmps40
      go_upto_region 1 with (fail)
      rw [← HV.out]
      go_wp2_with fail
      refine (HC.out _ HV0.out).mono ?_
      rintro e w1 ⟨g, rfl, hg, hge, hB⟩
      have q6 := Q6.out.mono hB; have q5 := Q5.out.mono hB
      have c0 := q6.c; have f0 := q6.f; have d0 := q5.c
      have R6 := hid (q6.set (.int .i64 15)).c
      have HB1 := hid ((bstep HB0.out hB).setCell (p := ⟨w.heap.size + 1 + 1 + 1, 0, none⟩) (show w.heap.size ≤ w.heap.size + 1 + 1 + 1 by omega) (.int .i64 15))
      clear q6 q5 hB k0 k1 k2 k3 hg hge
      go_wp2
      refine bodyPost_ret (results_cell28 rfl _ _ (w.heap.size + 1 + 1 + 1) (.int .i64 15) rfl R6.out) rfl ?_
      exact ⟨rfl, HB1.out⟩
    case pos =>
      rw [if_pos h11] at hE
      have hm := hRk.m
      have hI : (xs.length : Int) = 11 := by omega
      have HE := hid hE
      have HW := hid fun (w' : World) (h : Below V.heap.size V w') => within_c xa xc 0 ((manyN R : Int) - 1) xs w' (hxV.mono h) hxl
      have HbV := hid hbV; have HrV := hid hrV; have HxV := hid hxV; have H11 := hid h11
      have ew : IntKind.i64.wrap ((manyN R : Int) - 1) = (manyN R : Int) - 1 := wrap_i64_of (by omega) (by omega)
      clear hE hb hr hx hl hy hP hS hxl hV hB0 hbV hrV hxV hV1 hB1 hB2 hz q5 q6 h0 h11
      refine callsIn_wide.1 (callsIn_of_wp_marks (n := 0) Try.func40 rfl trivial ?_ rfl)
      simp only [Try.ntmps40, List.size_toArray, List.length_cons, List.length_nil, Nat.reduceAdd, Nat.reduceSub, Array.replicate_succ, Array.replicate_zero, List.push_toArray, List.append_toArray, List.nil_append, List.cons_append]
      refine wpIn_wide.2 ?_
      go_upto_region 1 with (fail)
      rw [← HV.out]
      go_wp2_with fail
      refine (HC.out _ HV0.out).mono ?_
      rintro e w1 ⟨g, rfl, hg, hge, hB⟩
      have hfr := frAt_of hg (HbV.out.mono hB) (HrV.out.mono hB)
      have Hfr := hid hfr
      have Q5 := hid (Q5.out.mono hB); have Q6 := hid (Q6.out.mono hB)
      have HB1 := hid hB
      have d0 := Q5.out.c
      have j5 := fun s : Later w1 => (Q5.out.mono s.h).c
      have H1 := hid fun s : Later w1 => many_c g ⟨pa, pc, ya, yc, la, lc, sa, sc⟩ B R 0 s.w' (hfr.mono s.h) (by omega)
      have H2 := hid fun s : Later w1 => HW.out s.w' (bstep HB1.out s.h)
      clear hB hg hge k0 k1 k2 k3 hfr
      by_cases hw : within 0 ((manyN R : Int) - 1) xs = true
      case neg =>
        have hwf : within 0 ((manyN R : Int) - 1) xs = false := by simpa using hw
        rw [hwf] at H2
        rw [if_neg hw] at HE
        clear hw hwf
        go_upto_region 6 with (fail)
        clear d0
        refine wp_region_later (by kernel_rfl) (by kernel_rfl) ?_
        repeat (go_big_quiet_step ((first | (go_at_call 88; exact callsLater (H1.out _)) | (go_at_call 72; exact callsLater (H2.out _)))))
        refine wpQuiet_nil ?_
        rintro w2 ⟨⟨_, hB2⟩, rfl⟩
        have q6 := Q6.out.mono hB2
        have c0 := q6.c; have f0 := q6.f
        have R6 := hid (q6.set (.int .i64 3)).c
        have HB3 := hid ((bstep HB0.out (bstep HB1.out hB2)).setCell (p := ⟨w.heap.size + 1 + 1 + 1, 0, none⟩) (show w.heap.size ≤ w.heap.size + 1 + 1 + 1 by omega) (.int .i64 3))
        clear q6 hB2 j5
        go_wp2
        refine ⟨_, results_cell28 rfl _ _ (w.heap.size + 1 + 1 + 1) (.int .i64 3) rfl R6.out, ?_⟩
        exact ⟨by rw [HE.out], HB3.out⟩
      case pos =>
        rw [hw] at H2
        rw [if_pos hw] at HE
        have Hn := hid fun (k : Nat) (hk : k < 11) => within_nth hw (k := k) (by rw [H11.out]; exact hk)
        clear hw
        go_upto_region 6 with (fail)
        clear d0
        refine wp_region_later (by kernel_rfl) (by kernel_rfl) ?_
        repeat (go_big_quiet_step ((first | (go_at_call 88; exact callsLater (H1.out _)) | (go_at_call 72; exact callsLater (H2.out _)))))
        refine wpQuiet_nil ?_
        rintro w2 ⟨⟨_, hB2⟩, rfl⟩
        have HB2 := hid (bstep HB1.out hB2)
        have Hfr2 := hid (Hfr.out.mono hB2); have Q5 := hid (Q5.out.mono hB2); have Q6 := hid (Q6.out.mono hB2)
        clear hB2 j5
        have HA := hid fun (w' : World) => levels_c g w'
        obtain ⟨w3, hw3⟩ : ∃ w3, w3 = w2.alloc (.cells #[.pointer (some ⟨g, 0, none⟩)] 88) := ⟨_, rfl⟩
        have hB3 : Below w2.heap.size w2 w3 := by rw [hw3]; exact bnew _ _
        have hz3 : w3.heap.size = w2.heap.size + 1 := by rw [hw3]; simp
        have hp3 : w3.cell? ⟨w2.heap.size, 0, none⟩ = some (.pointer (some ⟨g, 0, none⟩)) := by rw [hw3]; simp [go_sem]
        have hGen := levels1_c w2.heap.size g ⟨pa, pc, ya, yc, la, lc, sa, sc⟩ B R 0 w2 w3 (fun _ => False) (fun b => b = w.heap.size + 1 + 1 + 1) (fun _ h => h.elim) Hfr2.out hp3 id hB3
        have Hgen := hid hGen; have Hz3 := hid hz3; have HW3 := hid hw3; have HB3 := hid hB3
        have Hl6 := hid (show w.heap.size + 1 + 1 + 1 < w2.heap.size from Q6.out.lt)
        clear hGen hw3 hz3 hp3 hB3
        go_wp2_with fail
        refine (HA.out _).mono ?_
        rintro e w4 ⟨rfl, hw4⟩
        rw [← HW3.out] at hw4
        subst hw4
        go_wp2
        refine (wpIn_wide (n := 0)).1 ?_
        refine range_lawT' (fun v t => t.setIfInBounds 9 (v.getD 0 undef)) rfl enters111 Hgen.out ⟨id, id⟩ ?hSx ⟨id, id⟩ ?hps ?hX (fun k W => k ≤ 11 ∧ allTo (noAg B R xs) k = true ∧ Below w2.heap.size w2 W) (fun c k W => c = .ret ∧ VAt W (w.heap.size + 1 + 1 + 1) 28 (.int .i64 14) ∧ allTo (noAg B R xs) 11 = false ∧ Below w.heap.size w W) ?hI ?hIx ?hIT ?hIxT (fun k W h => h.1) ⟨Nat.zero_le _, rfl, HB3.out⟩ ?assign ?body ?done ?stop
        case hSx => have := Hz3.out; have := Hl6.out; refine ⟨fun h => ?_, fun h => ?_⟩ <;> omega
        case hps => rintro k v W ⟨g, rfl, _⟩; rfl
        case hX => intro k v W W' hv ho; exact hv.only ho (by omega) (by have := Hz3.out; omega)
        case hI =>
          rintro k W' W'' ⟨h1, h2, h3⟩ ho
          exact ⟨h1, h2, h3.trans (ho.below h3.size (fun j hj e => by have e' : j = w3.heap.size + 1 := e; have := Hz3.out; omega))⟩
        case hIx =>
          rintro c k W' W'' ⟨h1, h2, h3, h4⟩ ho
          refine ⟨h1, h2.only ho (fun e => by have e' : w.heap.size + 1 + 1 + 1 = w3.heap.size + 1 := e; have := Hz3.out; have := Hl6.out; omega), h3, h4.trans (ho.below h4.size (fun j hj e => by have e' : j = w3.heap.size + 1 := e; have := Hz3.out; have := Hl6.out; omega))⟩
        case hIT =>
          rintro k W' W'' ⟨h1, h2, h3⟩ ho
          exact ⟨h1, h2, h3.trans (ho.below h3.size (fun _ _ h => h))⟩
        case hIxT =>
          rintro c k W' W'' ⟨h1, h2, h3, h4⟩ ho
          exact ⟨h1, h2.only ho id, h3, h4.trans (ho.below h4.size (fun _ _ h => h))⟩
        case assign =>
          intro l k v W K hx hK
          obtain ⟨g', rfl, _⟩ := hx
          conv in (Act.mk _ _) => simp
          gi_wp2
          simpa using hK
        case body =>
          rintro k v W' hW' ⟨hk11, hall, hBW⟩ hX hkl
          obtain ⟨g', rfl, hg5, hgs, hgh, hgB⟩ := hX
          have hfr := frAt_of hgh (Hfr2.out.bd.mono hgB) (Hfr2.out.rd.mono hgB)
          have hlv : -5 ≤ lvN k ∧ lvN k ≤ 5 := by unfold lvN; omega
          obtain ⟨xb, xo, rfl, _⟩ := HxV.out.at (k := 0) (by rw [H11.out]; omega)
          have hcx := ((HxV.out.mono HB2.out).mono hBW).cell (k := k) (by rw [H11.out]; exact hkl)
          have hnb := Hn.out k hkl
          have hno : noAg B R xs k = !agB B R (lvN k) (nth xs k).toNat := rfl
          have hal : allTo (noAg B R xs) (k + 1) = (allTo (noAg B R xs) k && noAg B R xs k) := rfl
          have haf := fun h => allTo_false (p := noAg B R xs) hkl h
          rw [hall, Bool.true_and] at hal
          obtain ⟨x, hxx⟩ := Int.eq_ofNat_of_zero_le hnb.1
          rw [hxx] at hcx hnb hno
          have hno2 : noAg B R xs k = !agB B R (lvN k) x := hno
          have j4 : W'.cell? ⟨g', 4, none⟩ = some (.int .i64 ((k : Int) - 5)) := hfr.k4
          have jb := ((Q5.out.mono hBW)).c
          have i1 := fun s : Later W' => cstep j4 s.h
          have i2 := fun s : Later W' => cstep jb s.h
          have i3 := fun s : Later W' => cstep hcx s.h
          have HAg := hid fun s : Later W' => agrees_c g' ⟨pa, pc, ya, yc, la, lc, sa, sc⟩ B R (lvN k) s.w' x (hfr.mono s.h) hBk hlv hRk (by omega)
          obtain ⟨u, hu⟩ : ∃ u, u = agB B R (lvN k) x := ⟨_, rfl⟩
          rw [← hu] at hno2 HAg
          unfold TellB at HAg
          have e5 : IntKind.i64.wrap ((k : Int) - 5 + 5) = (k : Int) := by rw [wrap_i64_of (by omega) (by omega)]; omega
          have hkI : (k : Int) < (xs.length : Int) := by rw [hI]; omega
          have HBW := hid hBW
          have Hq6 := hid (Q6.out.mono hBW)
          clear hBW hfr hgh hgB hcx hxx hu hno hnb j4 jb hall hW' hlv
          conv in (Act.mk _ _) => simp
          cases u with
          | true =>
            have hF := haf hno2
            have HF := hid hF
            clear hal haf hno2 hF
            gi_wp2
            refine wpIn_region_later _ rfl mix8 (by kernel_rfl) (by simp) ?_
            repeat (gi_big_quiet_step ((refine ⟨rfl, ?_⟩; gi_at_call 91; exact callsLaterIn (HAg.out _))))
            refine wpQuietIn_nil ?_
            rintro w5 ⟨⟨_, hB5⟩, rfl⟩
            have q6 := Hq6.out.mono hB5
            have c0 := q6.c; have f0 := q6.f
            have HR := hid (show Only (fun b => b = w.heap.size + 1 + 1 + 1) W' (w5.setCell ⟨w.heap.size + 1 + 1 + 1, 0, none⟩ (.int .i64 14)) ∧ True ∧ VAt (w5.setCell ⟨w.heap.size + 1 + 1 + 1, 0, none⟩ (.int .i64 14)) (w.heap.size + 1 + 1 + 1) 28 (.int .i64 14) ∧ Below w.heap.size w (w5.setCell ⟨w.heap.size + 1 + 1 + 1, 0, none⟩ (.int .i64 14)) from
              ⟨Only.setCell (S := fun b => b = w.heap.size + 1 + 1 + 1) (p := ⟨w.heap.size + 1 + 1 + 1, 0, none⟩) (Only.of_below hB5) rfl _, trivial, q6.set _, (bstep HB0.out (bstep (bstep HB2.out HBW.out) hB5)).setCell (show w.heap.size ≤ w.heap.size + 1 + 1 + 1 by omega) _⟩)
            clear q6 hB5 i1 i2 i3
            gi_wp2
            exact ⟨HR.out.1, rfl, HR.out.2.2.1, HF.out, HR.out.2.2.2⟩
          | false =>
            rw [hno2] at hal
            have Hal := hid hal
            clear hal haf hno2
            gi_wp2
            refine wpIn_region_later _ rfl mix8 (by kernel_rfl) (by simp) ?_
            repeat (gi_big_quiet_step ((refine ⟨rfl, ?_⟩; gi_at_call 91; exact callsLaterIn (HAg.out _))))
            refine wpQuietIn_nil ?_
            rintro w5 ⟨⟨_, hB5⟩, rfl⟩
            have HR := hid (show Only (fun _ => False) W' w5 ∧ (k + 1 ≤ 11 ∧ allTo (noAg B R xs) (k + 1) = true ∧ Below w2.heap.size w2 w5) from ⟨Only.of_below hB5, by omega, Hal.out, bstep HBW.out hB5⟩)
            clear hB5 i1 i2 i3
            gi_wp2
            exact HR.out
        case done =>
          rintro k W' rfl ⟨_, hall, hBW⟩ hD hlt
          rw [if_pos hall] at HE
          have q6 := Q6.out.mono hBW
          have c0 := q6.c; have f0 := q6.f
          have n6 : w.heap.size + 1 + 1 + 1 ≠ w3.heap.size := by have := Hz3.out; have := Hl6.out; omega
          have R6 := hid ((q6.set (.int .i64 0)).put n6 (.deferred none)).c
          have HD := hid ((Below.heap_setCell W' ⟨w.heap.size + 1 + 1 + 1, 0, none⟩ (.int .i64 0) w3.heap.size (fun e => n6 e.symm)).trans hD)
          have HB5 := hid ((bstep HB0.out (bstep HB2.out hBW)).setCell (p := ⟨w.heap.size + 1 + 1 + 1, 0, none⟩) (show w.heap.size ≤ w.heap.size + 1 + 1 + 1 by omega) (.int .i64 0))
          clear q6 n6 hD hBW hall
          go_wp2
          refine ⟨by simp, .inl ⟨_, _, rfl, run_takeDeferred HD.out, ?_⟩⟩
          refine ⟨_, results_cell28 rfl _ _ (w.heap.size + 1 + 1 + 1) (.int .i64 0) rfl R6.out, by rw [HE.out], HB5.out.trans ((Only.put1 _ w3.heap.size (.deferred none)).below HB5.out.size (by intro j hj e; have e' : j = w3.heap.size := e; have := Hz3.out; have := Hl6.out; omega))⟩
        case stop =>
          rintro c k W' ⟨rfl, hv, hall, hB5⟩ hD
          rw [hall, if_neg (by simp)] at HE
          have n6 : w.heap.size + 1 + 1 + 1 ≠ w3.heap.size := by have := Hz3.out; have := Hl6.out; omega
          have R6 := hid (hv.put n6 (.deferred none)).c
          have HB5 := hid hB5
          refine wpIn_ret ?_
          refine ⟨by simp, .inl ⟨_, _, rfl, run_takeDeferred hD, ?_⟩⟩
          refine ⟨_, results_cell28 rfl _ _ (w.heap.size + 1 + 1 + 1) (.int .i64 14) rfl R6.out, by rw [HE.out], HB5.out.trans ((Only.put1 _ w3.heap.size (.deferred none)).below HB5.out.size (by intro j hj e; have e' : j = w3.heap.size := e; have := Hz3.out; have := Hl6.out; omega))⟩
end

end Go.Proofs.Ytnnojhpioenhbaa

namespace Go.Proofs.Ytnnojhpioenhbaa
open Go.RowKit Go.Shelf

theorem refK_nth (f : Int → Nat) {n k : Nat} (hk : k < n) : nth (refK f n) k = ((f ((k : Int) - 5) : Nat) : Int) := by
  simp [nth, refK, List.getD, hk]
theorem refK_take (f : Int → Nat) {n k : Nat} (hk : k ≤ n) : (refK f n).take k = refK f k := by
  unfold refK; rw [← List.map_take, List.take_range, Nat.min_eq_left hk]
theorem levels_some {B : Bd} {R : Rd} {k : Nat} (hk : k < 11) (h : lvlK (okL B R) (k + 1) = lvlK (okL B R) k ++ [lvN k]) : ¬ levelsL B R = [] := fun e => by
  have := (levels_at hk h).1
  rw [e] at this
  simp at this

section
variable {F : Fence} {n : Nat} {ops : Array Oper} {rest : List Oper} {o : Oper} {a : Act} {Q : Exit → Act → World → Prop}
theorem wpListIn_appFull (w : World) (hg : o.guard = none) (s x : Operand) (hop : o.op = Op.call { callee := Callee.builtin Builtin.append, args := #[s, x], argTypes := #[42, 42] })
    (ao : Option Addr) (cap N : Nat) (xs : List Int) (hl : xs.length = N) (hs : a.eval s = .slice ao N cap) (hat : IntsAt w ao xs) (hnil : ao = none → N = 0 ∧ cap = 0)
    (ad : Addr) (u : Int) (hx : a.eval x = .slice (some ad) 1 1) (hu : w.cell? ad = some (.int .i64 u)) (hfull : cap < N + 1) (hb : N ≤ 100000)
    (hK : ∀ ao' cap' w', Below w.heap.size w w' → OwnI 3 w.heap.size w' ao' (N + 1) cap' (xs ++ [u]) → wpListIn F n Try.prog ops Q rest (a.put o.dst (.slice ao' (N + 1) cap')) w') :
    wpListIn F n Try.prog ops Q (o :: rest) a w := by
  subst hl
  refine wpListIn_plain hg fun K hK' => ?_
  obtain ⟨ao', cap', w', hrun, h1, h2⟩ := run_app_full o.type w ao cap xs hat hnil ad u hu hfull hb
  unfold Oper.wpIn
  refine ⟨?_, ?_⟩
  · simp [Oper.about, hop, resolve, Target.leads, Sem.run_pure]
  · rw [Oper.semAt_plain F _ _ (by rw [hop]; intro c hc'; cases hc')]
    simp [execOp, hop, resolve, invoke, builtin, hs, hx, hrun, Result.andThen]
    exact hK' _ _ (hK ao' cap' w' h1 h2)
end

section
attribute [local go_sem] Oper.semAt_some
variable (pa : Option Addr) (pc : Nat) (ya : Option Addr) (yc : Nat) (la : Option Addr) (lc : Nat) (sa : Option Addr) (sc : Nat) (B : Bd) (R : Rd) (w : World)
set_option maxRecDepth 100000 in
set_option maxHeartbeats 8000000 in
theorem pRefuted_c (hb : BdAt w pa ya B) (hr : RdAt w la sa R) (hl : B.pins.length ≤ 1000000) (hy : B.pays.length ≤ 1000000) (hP : R.plumbs.length ≤ 1000000) (hS : R.slots.length ≤ 1000000) :
    Calls Try.prog 36 #[.agg #[.slice pa B.pins.length pc, .slice ya B.pays.length yc], .agg #[.slice la R.plumbs.length lc, .slice sa R.slots.length sc]] w (SliceE w (refErr B R) (refX B R)) := by
  obtain ⟨V1, hV1, hB1, k0, k1, k2, k3⟩ := box2 w (.slice pa B.pins.length pc) (.slice ya B.pays.length yc) (.slice la R.plumbs.length lc) (.slice sa R.slots.length sc) 25 51
  obtain ⟨V, hV⟩ : ∃ V, V = (V1.alloc (.cells #[.slice none 0 0] 42)).alloc (.cells #[.int .i64 0] 28) := ⟨_, rfl⟩
  have hB2 : Below V1.heap.size V1 V := by rw [hV]; exact bstep (bnew _ _) (bnew _ _)
  have hz : V1.heap.size = w.heap.size + 1 + 1 := by rw [hV1]; simp
  have q5 : VAt V (w.heap.size + 1 + 1) 42 (.slice none 0 0) := by rw [← hz, hV]; exact (VAt.new V1 42 _).mono (bnew _ _)
  have q6 : VAt V (w.heap.size + 1 + 1 + 1) 28 (.int .i64 0) := by
    have h := VAt.new (V1.alloc (.cells #[.slice none 0 0] 42)) 28 (.int .i64 0)
    rw [World.size_alloc, hz] at h
    rw [hV]; exact h
  have k0 := cstep k0 hB2; have k1 := cstep k1 hB2; have k2 := cstep k2 hB2; have k3 := cstep k3 hB2
  have hB0 := bstep hB1 hB2
  have hbV := hb.mono hB0; have hrV := hr.mono hB0
  rw [hV1] at hV
  have HV := hid hV; have HB0 := hid hB0; have Q5 := hid q5; have Q6 := hid q6
  have HV0 := hid (Below.refl V.heap.size V)
  have hE : refErr B R = if readErr B R = 0 then (if levelsL B R = [] then 0 else 5) else readErr B R := rfl
  have hX : refX B R = if refErr B R = 0 then refK (firstR B R) 11 else [] := rfl
  unfold SliceE
  by_cases h0 : readErr B R = 0
  case neg =>
    have HC := hid fun (w' : World) (h : Below V.heap.size V w') => read_bad pa pc ya yc la lc sa sc B R w' (hbV.mono h) (hrV.mono h) hl hy hP hS h0
    unfold NoFr at HC
    rw [if_neg h0] at hE
    rw [hE, if_neg h0] at hX
    rw [hE, hX]
    obtain ⟨v, hv⟩ : ∃ v, v = readErr B R := ⟨_, rfl⟩
    rw [← hv] at HC h0 ⊢
    clear hE hX hv hb hr hl hy hP hS hV hB0 hbV hrV hV1 hB1 hB2 hz q5 q6
    go_enter Try.func36, Try.ntmps36
    go_upto_region 1 with (fail)
    rw [← HV.out]
    go_wp2_with fail
    refine (HC.out _ HV0.out).mono ?_
    rintro e w1 ⟨rfl, hB⟩
    have hB := bstep hB (bnew w1 (.cells #[.pointer none] 88))
    have q5 := Q5.out.mono hB; have q6 := Q6.out.mono hB
    have n5 : w.heap.size + 1 + 1 + 1 ≠ w.heap.size + 1 + 1 := by omega
    have c5 := q5.c; have f5 := q5.f
    have c6 := (q6.other n5 (.slice none 0 0)).c; have f6 := (q6.other n5 (.slice none 0 0)).f
    have R5 := hid ((q5.set (.slice none 0 0)).other n5.symm (.int .i64 v)).c
    have R6 := hid ((q6.other n5 (.slice none 0 0)).set (.int .i64 v)).c
    have HB1 := hid (((bstep HB0.out hB).setCell (p := ⟨w.heap.size + 1 + 1, 0, none⟩) (show w.heap.size ≤ w.heap.size + 1 + 1 by omega) (.slice none 0 0)).setCell (p := ⟨w.heap.size + 1 + 1 + 1, 0, none⟩) (show w.heap.size ≤ w.heap.size + 1 + 1 + 1 by omega) (.int .i64 v))
    clear q5 q6 hB k0 k1 k2 k3 n5
    go_wp2
    refine bodyPost_ret (results_cell42_28 rfl _ _ (w.heap.size + 1 + 1) (w.heap.size + 1 + 1 + 1) (.slice none 0 0) (.int .i64 v) rfl rfl R5.out R6.out) rfl ?_
    exact ⟨none, 0, rfl, .inl rfl, fun _ => rfl, HB1.out⟩
  case pos =>
    have HC := hid fun (w' : World) (h : Below V.heap.size V w') => read_ok pa pc ya yc la lc sa sc B R w' (hbV.mono h) (hrV.mono h) hl hy hP hS h0
    unfold NewFr at HC
    obtain ⟨hBk, hRk⟩ := readErr_zero.1 h0
    rw [if_pos h0] at hE
    have hm := hRk.m
    have HE := hid hE; have HX := hid hX
    have HbV := hid hbV; have HrV := hid hrV
    clear hE hX hb hr hl hy hP hS hV hB0 hbV hrV hV1 hB1 hB2 hz q5 q6 h0
    refine callsIn_wide.1 (callsIn_of_wp_marks (n := 0) Try.func36 rfl trivial ?_ rfl)
    simp only [Try.ntmps36, List.size_toArray, List.length_cons, List.length_nil, Nat.reduceAdd, Nat.reduceSub, Array.replicate_succ, Array.replicate_zero, List.push_toArray, List.append_toArray, List.nil_append, List.cons_append]
    refine wpIn_wide.2 ?_
    go_upto_region 1 with (fail)
    rw [← HV.out]
    go_wp2_with fail
    refine (HC.out _ HV0.out).mono ?_
    rintro e w1 ⟨g, rfl, hg, hge, hB⟩
    have hfr := frAt_of hg (HbV.out.mono hB) (HrV.out.mono hB)
    have Hfr := hid hfr
    have Q5 := hid (Q5.out.mono hB); have Q6 := hid (Q6.out.mono hB)
    have HB1 := hid hB
    clear hB hg hge k0 k1 k2 k3 hfr
    have HA := hid fun (w' : World) => levels_c g w'
    obtain ⟨w3, hw3⟩ : ∃ w3, w3 = (w1.alloc (.cells #[.pointer (some ⟨g, 0, none⟩)] 88)).alloc (.cells #[.slice none 0 0] 42) := ⟨_, rfl⟩
    have hB3 : Below w1.heap.size w1 w3 := by rw [hw3]; exact bstep (bnew _ _) (bnew _ _)
    have hz3 : w3.heap.size = w1.heap.size + 1 + 1 := by rw [hw3]; simp
    have q7 : VAt w3 w1.heap.size 88 (.pointer (some ⟨g, 0, none⟩)) := by rw [hw3]; exact (VAt.new w1 88 _).mono (bnew _ _)
    have q8 : VAt w3 (w1.heap.size + 1) 42 (.slice none 0 0) := by
      have h := VAt.new (w1.alloc (.cells #[.pointer (some ⟨g, 0, none⟩)] 88)) 42 (.slice none 0 0)
      rw [World.size_alloc, ← hw3] at h
      exact h
    obtain ⟨w4, hw4⟩ : ∃ w4, w4 = w3.alloc (.cells #[.pointer (some ⟨g, 0, none⟩)] 88) := ⟨_, rfl⟩
    have hB4 : Below w3.heap.size w3 w4 := by rw [hw4]; exact bnew _ _
    have hz4 : w4.heap.size = w3.heap.size + 1 := by rw [hw4]; simp
    have hp4 : w4.cell? ⟨w3.heap.size, 0, none⟩ = some (.pointer (some ⟨g, 0, none⟩)) := by rw [hw4]; simp [go_sem]
    have hB34 := bstep hB3 hB4
    have hGen := levels1_c w3.heap.size g ⟨pa, pc, ya, yc, la, lc, sa, sc⟩ B R 0 w1 w4 (fun b => b = w1.heap.size + 1) (fun b => b = w.heap.size + 1 + 1 ∨ b = w.heap.size + 1 + 1 + 1) (fun k h => by omega) Hfr.out hp4 (by omega) hB34
    have Hgen := hid hGen
    have Hz := hid (show w4.heap.size = w1.heap.size + 3 by omega)
    have HW3 := hid hw3; have HW4 := hid hw4; have HB4 := hid hB34
    obtain ⟨L, hL⟩ : ∃ L, L = refK (firstR B R) 11 := ⟨_, rfl⟩
    have hLl : L.length = 11 := by rw [hL]; exact refK_len _ _
    have hLn : ∀ k, k < 11 → nth L k = (firstR B R (lvN k) : Nat) := fun k hk => by rw [hL]; exact refK_nth _ hk
    have HI0 := hid (show LvI w1 (w1.heap.size + 1) L.length (w4.heap.size + 2) L 0 w4 ∧ lvlK (okL B R) 0 = [] ∧ VAt w4 w1.heap.size 88 (.pointer (some ⟨g, 0, none⟩)) from ⟨⟨Nat.zero_le _, ⟨none, 0, q8.mono hB4, by rw [List.take_zero]; exact OwnI.nil _ _ _⟩, hB34⟩, rfl, q7.mono hB4⟩)
    have Hl6 := hid (show w.heap.size + 1 + 1 + 1 < w1.heap.size from Q6.out.lt)
    have HL := hid hL; have HLl := hid hLl; have HLn := hid hLn
    clear hGen hw3 hz3 hw4 hB4 hB34 hz4 hp4 hB3 q7 q8 hL hLl hLn
    go_wp2_with fail
    rw [← HW3.out]
    refine (HA.out _).mono ?_
    rintro e w5 ⟨rfl, hw5⟩
    rw [← HW4.out] at hw5
    subst hw5
    go_wp2
    refine (wpIn_wide (n := 0)).1 ?_
    refine range_lawT' (fun v t => t.setIfInBounds 9 (v.getD 0 undef)) rfl enters111 Hgen.out ?hS ?hSx ⟨id, id⟩ ?hps ?hX (fun k W => LvI w1 (w1.heap.size + 1) L.length (w4.heap.size + 2) L k W ∧ lvlK (okL B R) k = [] ∧ VAt W w1.heap.size 88 (.pointer (some ⟨g, 0, none⟩))) (fun c k W => c = .ret ∧ VAt W (w.heap.size + 1 + 1) 42 (.slice none 0 0) ∧ VAt W (w.heap.size + 1 + 1 + 1) 28 (.int .i64 5) ∧ ¬ levelsL B R = [] ∧ Below w.heap.size w W) ?hI ?hIx ?hIT ?hIxT (fun k W h => by have := h.1.le; have := HLl.out; omega) HI0.out ?assign ?body ?done ?stop
    case hS => have := Hz.out; refine ⟨fun h => ?_, fun h => ?_⟩ <;> omega
    case hSx => have := Hz.out; have := Hl6.out; refine ⟨fun h => ?_, fun h => ?_⟩ <;> omega
    case hps => rintro k v W ⟨g, rfl, _⟩; rfl
    case hX => intro k v W W' hv ho; exact hv.only ho (by omega) (by have := Hz.out; omega)
    case hI =>
      rintro k W' W'' ⟨h, h2, h3⟩ ho
      have e1 := Hz.out
      exact ⟨h.only ho (fun k e => by have e' : k = w4.heap.size + 1 := e; omega) (fun e => by have e' : w1.heap.size + 1 = w4.heap.size + 1 := e; omega) (fun k hk e => by have e' : k = w4.heap.size + 1 := e; omega), h2, h3.only ho (fun e => by have e' : w1.heap.size = w4.heap.size + 1 := e; omega)⟩
    case hIx =>
      rintro c k W' W'' ⟨h1, h2, h3, h4, h5⟩ ho
      have e1 := Hz.out; have e2 := Hl6.out
      exact ⟨h1, h2.only ho (fun e => by have e' : w.heap.size + 1 + 1 = w4.heap.size + 1 := e; omega), h3.only ho (fun e => by have e' : w.heap.size + 1 + 1 + 1 = w4.heap.size + 1 := e; omega), h4, h5.trans (ho.below h5.size (fun j hj e => by have e' : j = w4.heap.size + 1 := e; omega))⟩
    case hIT =>
      rintro k W' W'' ⟨h, h2, h3⟩ ho
      exact ⟨h.only ho (fun _ h => h.elim) id (fun _ _ h => h), h2, h3.only ho id⟩
    case hIxT =>
      rintro c k W' W'' ⟨h1, h2, h3, h4, h5⟩ ho
      exact ⟨h1, h2.only ho id, h3.only ho id, h4, h5.trans (ho.below h5.size (fun _ _ h => h))⟩
    case assign =>
      intro l k v W K hx hK
      obtain ⟨g', rfl, _⟩ := hx
      conv in (Act.mk _ _) => simp
      gi_wp2
      simpa using hK
    case body =>
      rintro k v W' hW' ⟨hI, hlk, q7⟩ hX hkl
      obtain ⟨g', rfl, hg5, hgs, hgh, hgB⟩ := hX
      have hfr := frAt_of hgh (Hfr.out.bd.mono hgB) (Hfr.out.rd.mono hgB)
      have hlv : -5 ≤ lvN k ∧ lvN k ≤ 5 := by unfold lvN; omega
      have HF := hid (first_c g' ⟨pa, pc, ya, yc, la, lc, sa, sc⟩ B R (lvN k) W' hfr hBk hlv hRk)
      have HM := hid fun (w' : World) (h : Below W'.heap.size W' w') => many_c g ⟨pa, pc, ya, yc, la, lc, sa, sc⟩ B R 0 w' ((Hfr.out.mono hgB).mono h) (by omega)
      unfold TellI at HF HM
      have hst : lvlK (okL B R) (k + 1) = if okL B R (lvN k) then lvlK (okL B R) k ++ [lvN k] else lvlK (okL B R) k := rfl
      have hok : okL B R (lvN k) = decide (firstN (agB B R (lvN k)) (manyN R) = manyN R) := rfl
      have hnx : nth L k = (firstN (agB B R (lvN k)) (manyN R) : Nat) := HLn.out k hkl
      have hls := fun h => levels_some (B := B) (R := R) hkl h
      obtain ⟨n, hn⟩ : ∃ n, n = firstN (agB B R (lvN k)) (manyN R) := ⟨_, rfl⟩
      obtain ⟨m, hmm⟩ : ∃ m, m = manyN R := ⟨_, rfl⟩
      rw [← hn] at HF hok hnx
      rw [← hmm] at HM hok
      obtain ⟨ao, cap, hbx, hown⟩ := hI.out
      have q8 : VAt W' (w1.heap.size + 1) 42 (.slice ao k cap) := hbx
      have HIb := hid hI.b; have Q7 := hid q7; have Q8 := hid q8; have Hown := hid hown; have Hls := hid hls
      have hT := take_succ_nth (xs := L) (k := k) (by rw [HLl.out]; exact hkl)
      rw [hnx] at hT
      have HT := hid hT
      clear hI hbx q7 q8 hown hn hmm hfr hlv hgh hgB hnx hls hT
      conv in (Act.mk _ _) => simp
      gi_wp2_with fail
      refine ⟨trivial, rfl, CallsIn.mono (CallsIn.inRound _ (callsIn_wide.2 HF.out)) ?_⟩
      rintro e w5 ⟨rfl, hB5⟩
      have HB5 := hid hB5
      have j7 := (Q7.out.mono hB5).c
      clear hB5
      by_cases hnm : n = m
      · rw [hnm, decide_eq_true rfl] at hok
        rw [if_pos hok] at hst
        have hls := Hls.out hst
        have hnI : (n : Int) = (m : Int) := by omega
        have Hls := hid hls
        clear hst hok hls hlk
        gi_wp2_with fail
        refine ⟨trivial, rfl, CallsIn.mono (CallsIn.inRound _ (callsIn_wide.2 (HM.out _ HB5.out))) ?_⟩
        rintro e w6 ⟨rfl, hB6⟩
        have hB56 := bstep HB5.out hB6
        have p5 := (Q5.out.mono (bstep HIb.out hB56)); have p6 := (Q6.out.mono (bstep HIb.out hB56))
        have n5 : w.heap.size + 1 + 1 + 1 ≠ w.heap.size + 1 + 1 := by omega
        have c5 := p5.c; have f5 := p5.f
        have c6 := (p6.other n5 (.slice none 0 0)).c; have f6 := (p6.other n5 (.slice none 0 0)).f
        have R5 := hid ((p5.set (.slice none 0 0)).other n5.symm (.int .i64 5))
        have R6 := hid ((p6.other n5 (.slice none 0 0)).set (.int .i64 5))
        have HBz := hid (((bstep HB0.out (bstep HB1.out (bstep HIb.out hB56))).setCell (p := ⟨w.heap.size + 1 + 1, 0, none⟩) (show w.heap.size ≤ w.heap.size + 1 + 1 by omega) (.slice none 0 0)).setCell (p := ⟨w.heap.size + 1 + 1 + 1, 0, none⟩) (show w.heap.size ≤ w.heap.size + 1 + 1 + 1 by omega) (.int .i64 5))
        have HO := hid (Only.setCell (S := fun b => b = w.heap.size + 1 + 1 ∨ b = w.heap.size + 1 + 1 + 1) (p := ⟨w.heap.size + 1 + 1 + 1, 0, none⟩) (Only.setCell (S := fun b => b = w.heap.size + 1 + 1 ∨ b = w.heap.size + 1 + 1 + 1) (p := ⟨w.heap.size + 1 + 1, 0, none⟩) (Only.of_below hB56) (.inl rfl) (.slice none 0 0)) (.inr rfl) (.int .i64 5))
        clear p5 p6 n5 hB6 hB56 j7
        gi_wp2
        exact ⟨HO.out, rfl, R5.out, R6.out, Hls.out, HBz.out⟩
      · rw [decide_eq_false hnm] at hok
        rw [if_neg (by rw [hok]; simp), hlk] at hst
        have hnI : ¬ (n : Int) = (m : Int) := by omega
        have Hst := hid hst
        clear hst hok hlk
        gi_wp2_with fail
        refine ⟨trivial, rfl, CallsIn.mono (CallsIn.inRound _ (callsIn_wide.2 (HM.out _ HB5.out))) ?_⟩
        rintro e w6 ⟨rfl, hB6⟩
        have hB56 := bstep HB5.out hB6
        have j8 := (Q8.out.mono hB56).c
        have hcap := Hown.out.capOf
        have hsl := full42 ao k cap hcap
        have HB56 := hid hB56
        have hsz : w4.heap.size + 2 ≤ w6.heap.size := by have := HB56.out.size; omega
        have hat := ((Hown.out.kept hB56).kept (bnew w6 (.cells #[.int .i64 n] 3))).at
        have hk1 : k ≤ 100000 := by omega
        have hlk1 : (L.take k).length = k := by rw [List.length_take, HLl.out]; omega
        have j9 : (w6.alloc (.cells #[.int .i64 n] 3)).cell? ⟨w6.heap.size, 0, none⟩ = some (.int .i64 n) := by simp [go_sem]
        have Hat := hid hat; have Hj9 := hid j9; have Hsz := hid hsz; have Hlk1 := hid hlk1; have Hk1 := hid hk1
        clear j7 hB6 hB56 hat j9 hsz hlk1 hk1
        gi_wp2_with (gi_at_builtin; refine wpListIn_appFull _ rfl (.tmp 34) (.tmp 36) rfl ao k k (L.take k) Hlk1.out rfl Hat.out (fun h => ⟨(Hown.out.none h).1, (Hown.out.none h).1⟩) ⟨w6.heap.size, 0, none⟩ n rfl Hj9.out (Nat.lt_succ_self _) Hk1.out ?_)
        intro ao' cap' w7 hB7 hown7
        have hB67 := (bnew w6 (.cells #[.int .i64 n] 3)).trans (hB7.mono (Nat.le_succ _))
        have hB57 := bstep HB56.out hB67
        have q8 := Q8.out.mono hB57
        have q7 := Q7.out.mono hB57
        have c8 := q8.c; have f8 := q8.f
        have hown8 := (hown7.base (B' := w4.heap.size + 2) (Nat.le_succ_of_le Hsz.out))
        have HO := hid (Only.setCell (S := fun b => b = w1.heap.size + 1) (p := ⟨w1.heap.size + 1, 0, none⟩) (Only.of_below hB57) rfl (.slice ao' (k + 1) cap'))
        have HI2 := hid (show LvI w1 (w1.heap.size + 1) L.length (w4.heap.size + 2) L (k + 1) (w7.setCell ⟨w1.heap.size + 1, 0, none⟩ (.slice ao' (k + 1) cap')) from
          ⟨by have := HLl.out; omega, ⟨ao', cap', q8.set _, by
            rw [HT.out]
            exact hown8.keptIf fun g _ hg _ => Below.heap_setCell _ _ _ _ (fun e => by have := Hz.out; have e' : g = w1.heap.size + 1 := e; omega)⟩,
            (bstep HIb.out hB57).setCell (by show w1.heap.size ≤ w1.heap.size + 1; omega) _⟩)
        have HQ7 := hid (q7.other (r := w1.heap.size + 1) (by omega) (.slice ao' (k + 1) cap'))
        clear q7 q8 hB7 hB67 hB57 hown7 hown8 j8
        gi_wp2
        exact ⟨HO.out, HI2.out, Hst.out, HQ7.out⟩
    case done =>
      rintro k W' rfl ⟨hI, hlk, q7⟩ hD hlt
      have hn : levelsL B R = [] := hlk
      rw [if_pos hn] at HE
      have HX := HX.out
      rw [HE.out, if_pos rfl] at HX
      obtain ⟨ao, cap, hbx, hown⟩ := hI.out
      have q8 : VAt W' (w1.heap.size + 1) 42 (.slice ao 11 cap) := hbx
      have hLk : L.take 11 = refX B R := by rw [HX, HL.out]; exact refK_take _ (Nat.le_refl _)
      rw [hLk] at hown
      have e1 := Hz.out; have e2 := Hl6.out
      have p5 := Q5.out.mono hI.b; have p6 := Q6.out.mono hI.b
      have n5 : w.heap.size + 1 + 1 + 1 ≠ w.heap.size + 1 + 1 := by omega
      have c8 := q8.c
      have c5 := p5.c; have f5 := p5.f
      have c6 := (p6.other n5 (.slice ao 11 cap)).c; have f6 := (p6.other n5 (.slice ao 11 cap)).f
      have r5 := ((p5.set (.slice ao 11 cap)).other n5.symm (.int .i64 0))
      have r6 := ((p6.other n5 (.slice ao 11 cap)).set (.int .i64 0))
      have hB5 := (((bstep HB0.out (bstep HB1.out hI.b)).setCell (p := ⟨w.heap.size + 1 + 1, 0, none⟩) (show w.heap.size ≤ w.heap.size + 1 + 1 by omega) (.slice ao 11 cap)).setCell (p := ⟨w.heap.size + 1 + 1 + 1, 0, none⟩) (show w.heap.size ≤ w.heap.size + 1 + 1 + 1 by omega) (.int .i64 0))
      have R5 := hid (r5.put (D := w4.heap.size) (by omega) (.deferred none)).c
      have R6 := hid (r6.put (D := w4.heap.size) (by omega) (.deferred none)).c
      have HD := hid ((Below.heap_setCell _ ⟨w.heap.size + 1 + 1 + 1, 0, none⟩ (.int .i64 0) w4.heap.size (fun e => by have e' : w4.heap.size = w.heap.size + 1 + 1 + 1 := e; omega)).trans ((Below.heap_setCell W' ⟨w.heap.size + 1 + 1, 0, none⟩ (.slice ao 11 cap) w4.heap.size (fun e => by have e' : w4.heap.size = w.heap.size + 1 + 1 := e; omega)).trans hD))
      have hO : Only (fun b => b < w4.heap.size + 1) W' (((W'.setCell ⟨w.heap.size + 1 + 1, 0, none⟩ (.slice ao 11 cap)).setCell ⟨w.heap.size + 1 + 1 + 1, 0, none⟩ (.int .i64 0)).putObj w4.heap.size (.deferred none)) :=
        (Only.setCell (S := fun b => b < w4.heap.size + 1) (p := ⟨w.heap.size + 1 + 1 + 1, 0, none⟩) (Only.setCell (S := fun b => b < w4.heap.size + 1) (p := ⟨w.heap.size + 1 + 1, 0, none⟩) (Only.refl _ _) (show w.heap.size + 1 + 1 < w4.heap.size + 1 by omega) _) (show w.heap.size + 1 + 1 + 1 < w4.heap.size + 1 by omega) _).trans (Only.putObj (S := fun b => b < w4.heap.size + 1) _ (r := w4.heap.size) (Nat.lt_succ_self _) (.deferred none))
      have hown2 := hown.only hO (fun k h => by have : k < w4.heap.size + 1 := h; omega)
      have HBz := hid (hB5.trans ((Only.put1 _ w4.heap.size (.deferred none)).below hB5.size (by intro j hj e; have e' : j = w4.heap.size := e; omega)))
      have Hown := hid hown2
      have hlx : (refX B R).length = 11 := by rw [HX]; exact refK_len _ _
      have Hlx := hid hlx
      clear hI hbx hown hown2 q7 q8 p5 p6 n5 r5 r6 hB5 hO e1 e2 HX hLk hD hn hlk hlx hlt
      go_wp2
      refine ⟨by simp, .inl ⟨_, _, rfl, run_takeDeferred HD.out, ?_⟩⟩
      refine ⟨_, results_cell42_28 rfl _ _ (w.heap.size + 1 + 1) (w.heap.size + 1 + 1 + 1) (.slice ao 11 cap) (.int .i64 0) rfl rfl R5.out R6.out, ao, cap, ?_, Hown.out.at, fun h => (Hown.out.none h).2, HBz.out⟩
      rw [HE.out, Hlx.out]
    case stop =>
      rintro c k W' ⟨rfl, hv, hv2, hn, hB5⟩ hD
      rw [if_neg hn] at HE
      have HX := HX.out
      rw [HE.out, if_neg (by omega)] at HX
      have e1 := Hz.out; have e2 := Hl6.out
      have R5 := hid (hv.put (D := w4.heap.size) (by omega) (.deferred none)).c
      have R6 := hid (hv2.put (D := w4.heap.size) (by omega) (.deferred none)).c
      have HB5 := hid hB5; have HX := hid HX
      clear e1 e2
      refine wpIn_ret ?_
      refine ⟨by simp, .inl ⟨_, _, rfl, run_takeDeferred hD, ?_⟩⟩
      refine ⟨_, results_cell42_28 rfl _ _ (w.heap.size + 1 + 1) (w.heap.size + 1 + 1 + 1) (.slice none 0 0) (.int .i64 5) rfl rfl R5.out R6.out, none, 0, ?_, (.inl HX.out), fun _ => rfl, HB5.out.trans ((Only.put1 _ w4.heap.size (.deferred none)).below HB5.out.size (by intro j hj e; have e' : j = w4.heap.size := e; have := Hz.out; have := Hl6.out; omega))⟩
      rw [HE.out, HX.out]; rfl
end

end Go.Proofs.Ytnnojhpioenhbaa

namespace Go.Proofs.Ytnnojhpioenhbaa
open Go.RowKit Go.Shelf

section
attribute [local go_sem] Oper.semAt_some
variable (pa : Option Addr) (pc : Nat) (ya : Option Addr) (yc : Nat) (la : Option Addr) (lc : Nat) (sa : Option Addr) (sc : Nat) (B : Bd) (R : Rd) (q : Int × Int) (w : World)
set_option maxRecDepth 100000 in
set_option maxHeartbeats 8000000 in
theorem pBroken_c (hb : BdAt w pa ya B) (hr : RdAt w la sa R) (hl : B.pins.length ≤ 1000000) (hy : B.pays.length ≤ 1000000) (hP : R.plumbs.length ≤ 1000000) (hS : R.slots.length ≤ 1000000) :
    Calls Try.prog 44 #[.agg #[.slice pa B.pins.length pc, .slice ya B.pays.length yc], .agg #[.slice la R.plumbs.length lc, .slice sa R.slots.length sc], .agg #[.int .i64 q.1, .int .i64 q.2]] w (IntE w (broErr B R q) (broX B R q)) := by
  obtain ⟨V1, hV1, hB1, k0, k1, k2, k3, k4, k5⟩ := box3 w (.slice pa B.pins.length pc) (.slice ya B.pays.length yc) (.slice la R.plumbs.length lc) (.slice sa R.slots.length sc) (.int .i64 q.1) (.int .i64 q.2) 25 51 32
  obtain ⟨V, hV⟩ : ∃ V, V = (V1.alloc (.cells #[.int .i64 0] 3)).alloc (.cells #[.int .i64 0] 28) := ⟨_, rfl⟩
  have hB2 : Below V1.heap.size V1 V := by rw [hV]; exact bstep (bnew _ _) (bnew _ _)
  have hz : V1.heap.size = w.heap.size + 1 + 1 + 1 := by rw [hV1]; simp
  have q5 : VAt V (w.heap.size + 1 + 1 + 1) 3 (.int .i64 0) := by rw [← hz, hV]; exact (VAt.new V1 3 _).mono (bnew _ _)
  have q6 : VAt V (w.heap.size + 1 + 1 + 1 + 1) 28 (.int .i64 0) := by
    have h := VAt.new (V1.alloc (.cells #[.int .i64 0] 3)) 28 (.int .i64 0)
    rw [World.size_alloc, hz] at h
    rw [hV]; exact h
  have k0 := cstep k0 hB2; have k1 := cstep k1 hB2; have k2 := cstep k2 hB2; have k3 := cstep k3 hB2; have k4 := cstep k4 hB2; have k5 := cstep k5 hB2
  have hB0 := bstep hB1 hB2
  have hbV := hb.mono hB0; have hrV := hr.mono hB0
  rw [hV1] at hV
  have HV := hid hV; have HB0 := hid hB0; have Q5 := hid q5; have Q6 := hid q6
  have HV0 := hid (Below.refl V.heap.size V)
  have hE : broErr B R q = if promErr B R q = 0 then (if levelsL B R = [] then 18 else if (levelsL B R).find? (brB B R q) = none then 5 else 0) else promErr B R q := rfl
  have hX : broX B R q = if promErr B R q = 0 then ((levelsL B R).find? (brB B R q)).getD 0 else 0 := rfl
  unfold IntE
  by_cases h0 : promErr B R q = 0
  case neg =>
    have HC := hid fun (w' : World) (h : Below V.heap.size V w') => promised_bad pa pc ya yc la lc sa sc B R q w' (hbV.mono h) (hrV.mono h) hl hy hP hS h0
    unfold NoFr at HC
    rw [if_neg h0] at hE hX
    rw [hE, hX]
    obtain ⟨v, hv⟩ : ∃ v, v = promErr B R q := ⟨_, rfl⟩
    rw [← hv] at HC h0 ⊢
    clear hE hX hv hb hr hl hy hP hS hV hB0 hbV hrV hV1 hB1 hB2 hz q5 q6
    go_enter Try.func44, Try.ntmps44
    go_upto_region 1 with (fail)
    rw [← HV.out]
    go_wp2_with fail
    refine (HC.out _ HV0.out).mono ?_
    rintro e w1 ⟨rfl, hB⟩
    have Hn9 := hid (show w1.heap.size ≠ w.heap.size + 1 + 1 + 1 from fun e => by have := (Q5.out.mono hB).lt; omega)
    have hB := bstep hB (bnew w1 (.cells #[.int .i64 v] 28))
    have q9 := VAt.new w1 28 (.int .i64 v)
    have j9 := q9.c
    have q5 := Q5.out.mono hB; have q6 := Q6.out.mono hB
    have HB := hid hB; have Hq9 := hid q9; have Hq5 := hid q5; have Hq6 := hid q6
    clear q5 q6 hB k0 k1 k2 k3 k4 k5 q9
    go_upto_region 3 with (fail)
    obtain ⟨w2, hw2⟩ : ∃ w2, w2 = w1.alloc (.cells #[.int .i64 v] 28) := ⟨_, rfl⟩
    rw [← hw2] at HB Hq9 Hq5 Hq6 j9 ⊢
    clear hw2
    have n5 : w.heap.size + 1 + 1 + 1 + 1 ≠ w.heap.size + 1 + 1 + 1 := by omega
    have c5 := Hq5.out.c; have f5 := Hq5.out.f
    have c6 := Hq6.out.c; have f6 := Hq6.out.f
    have c7 := (Hq6.out.other n5 (.int .i64 0)).c; have f7 := (Hq6.out.other n5 (.int .i64 0)).f
    have c8 := (Hq5.out.other n5.symm (.int .i64 v)).c; have f8 := (Hq5.out.other n5.symm (.int .i64 v)).f
    have n9 : w1.heap.size ≠ w.heap.size + 1 + 1 + 1 := fun e => Hn9.out e
    have j9' := (Hq9.out.other n9 (.int .i64 0)).c
    go_region
    have R5 := hid (show VAt ((w2.setCell ⟨w.heap.size + 1 + 1 + 1, 0, none⟩ (.int .i64 0)).setCell ⟨w.heap.size + 1 + 1 + 1 + 1, 0, none⟩ (.int .i64 v)).drew (w.heap.size + 1 + 1 + 1) 3 (.int .i64 0) from (Hq5.out.set (.int .i64 0)).other n5.symm (.int .i64 v)).c
    have R6 := hid (show VAt ((w2.setCell ⟨w.heap.size + 1 + 1 + 1, 0, none⟩ (.int .i64 0)).setCell ⟨w.heap.size + 1 + 1 + 1 + 1, 0, none⟩ (.int .i64 v)).drew (w.heap.size + 1 + 1 + 1 + 1) 28 (.int .i64 v) from (Hq6.out.other n5 (.int .i64 0)).set (.int .i64 v)).c
    have HB1 := hid (((bstep HB0.out HB.out).setCell (p := ⟨w.heap.size + 1 + 1 + 1, 0, none⟩) (show w.heap.size ≤ w.heap.size + 1 + 1 + 1 by omega) (.int .i64 0)).setCell (p := ⟨w.heap.size + 1 + 1 + 1 + 1, 0, none⟩) (show w.heap.size ≤ w.heap.size + 1 + 1 + 1 + 1 by omega) (.int .i64 v)).drew
    clear c5 c6 c7 c8 f5 f6 f7 f8 j9 j9' n9 n5 HB Hq5 Hq6 Hq9
    go_wp2
    refine bodyPost_ret (results_cell3_28 rfl _ _ (w.heap.size + 1 + 1 + 1) (w.heap.size + 1 + 1 + 1 + 1) (.int .i64 0) (.int .i64 v) rfl rfl R5.out R6.out) rfl ?_
    exact ⟨rfl, HB1.out⟩
  case pos =>
    have HC := hid fun (w' : World) (h : Below V.heap.size V w') => promised_ok pa pc ya yc la lc sa sc B R q w' (hbV.mono h) (hrV.mono h) hl hy hP hS h0
    unfold NewFr at HC
    obtain ⟨hr0, hp0⟩ := promErr_zero h0
    obtain ⟨hBk, hRk⟩ := readErr_zero.1 hr0
    have hq1 := promB_fit hp0
    rw [if_pos h0] at hE hX
    rw [hE, hX]
    obtain ⟨ev, hev⟩ : ∃ ev : Int, ev = if levelsL B R = [] then 18 else if (levelsL B R).find? (brB B R q) = none then 5 else 0 := ⟨_, rfl⟩
    obtain ⟨xv, hxv⟩ : ∃ xv : Int, xv = ((levelsL B R).find? (brB B R q)).getD 0 := ⟨_, rfl⟩
    rw [← hev, ← hxv]
    have Hev := hid hev; have Hxv := hid hxv
    have HbV := hid hbV; have HrV := hid hrV
    clear hE hX hb hr hl hy hP hS hV hB0 hbV hrV hV1 hB1 hB2 hz q5 q6 h0 hev hxv hr0 hp0
    refine callsIn_wide.1 (callsIn_of_wp_marks (n := 0) Try.func44 rfl trivial ?_ rfl)
    simp only [Try.ntmps44, List.size_toArray, List.length_cons, List.length_nil, Nat.reduceAdd, Nat.reduceSub, Array.replicate_succ, Array.replicate_zero, List.push_toArray, List.append_toArray, List.nil_append, List.cons_append]
    refine wpIn_wide.2 ?_
    go_upto_region 1 with (fail)
    rw [← HV.out]
    go_wp2_with fail
    refine (HC.out _ HV0.out).mono ?_
    rintro e w1 ⟨g, rfl, hg, hge, hB⟩
    have hfr := frAt_of hg (HbV.out.mono hB) (HrV.out.mono hB)
    have Hfr := hid hfr
    have Q5 := hid (Q5.out.mono hB); have Q6 := hid (Q6.out.mono hB)
    have Q4 := hid (show w1.cell? ⟨w.heap.size + 1 + 1, 0, none⟩ = some (.int .i64 q.1) ∧ w1.cell? ⟨w.heap.size + 1 + 1, 1, none⟩ = some (.int .i64 q.2) from ⟨cstep k4 hB, cstep k5 hB⟩)
    have HB1 := hid hB
    clear hB hg hge k0 k1 k2 k3 k4 k5 hfr
    have HA := hid fun (w' : World) => agreeing_c g w'
    obtain ⟨w3, hw3⟩ : ∃ w3, w3 = w1.alloc (.cells #[.int .i64 18] 28) := ⟨_, rfl⟩
    have hB3 : Below w1.heap.size w1 w3 := by rw [hw3]; exact bnew _ _
    have hz3 : w3.heap.size = w1.heap.size + 1 := by rw [hw3]; simp
    have q9 : VAt w3 w1.heap.size 28 (.int .i64 18) := by rw [hw3]; exact VAt.new w1 28 _
    obtain ⟨w4, hw4⟩ : ∃ w4, w4 = w3.alloc (.cells #[.pointer (some ⟨g, 0, none⟩)] 88) := ⟨_, rfl⟩
    have hB4 : Below w3.heap.size w3 w4 := by rw [hw4]; exact bnew _ _
    have hz4 : w4.heap.size = w3.heap.size + 1 := by rw [hw4]; simp
    have hp4 : w4.cell? ⟨w3.heap.size, 0, none⟩ = some (.pointer (some ⟨g, 0, none⟩)) := by rw [hw4]; simp [go_sem]
    have hB34 := bstep hB3 hB4
    have Hl6 := hid (show w.heap.size + 1 + 1 + 1 + 1 < w1.heap.size from Q6.out.lt)
    have hl6 := Hl6.out
    have hGen := agreeing1_c ⟨pa, pc, ya, yc, la, lc, sa, sc⟩ B R w3.heap.size g 0 w1 w4 (fun b => b = w1.heap.size) (fun b => b = w.heap.size + 1 + 1 + 1 ∨ b = w.heap.size + 1 + 1 + 1 + 1) (by rintro k (h | h) <;> omega) hBk hRk (by rintro k h; omega) Hfr.out hp4 (by omega) hB34
    obtain ⟨L, hL⟩ : ∃ L, L = levelsL B R := ⟨_, rfl⟩
    have hLat : ∀ k, k < L.length → -5 ≤ nth L k ∧ nth L k ≤ 5 := fun k hk => by rw [hL] at hk ⊢; exact (levelsL_at hk).1
    rw [← hL] at hGen
    have Hll := hid (show L.length ≤ 11 by rw [hL]; exact levelsL_len B R)
    obtain ⟨p, hp⟩ : ∃ p, p = brB B R q := ⟨_, rfl⟩
    have hpk : ∀ k, k < L.length → p (nth L k) = lessQ (payQ B (nth L k)) q := fun k hk => by
      have h1 : okL B R (nth L k) = true := by rw [hL] at hk ⊢; exact (levelsL_at hk).2
      have h2 : p (nth L k) = (okL B R (nth L k) && lessQ (payQ B (nth L k)) q) := by rw [hp]; rfl
      rw [h2, h1, Bool.true_and]
    have hev0 := Hev.out; have hxv0 := Hxv.out
    rw [← hL, ← hp] at hev0 hxv0
    clear Hev Hxv
    have Hev := hid hev0; have Hxv := hid hxv0
    clear hev0 hxv0
    have HI0 := hid (show 0 ≤ L.length ∧ allTo (fun j => !p (nth L j)) 0 = true ∧ Below w1.heap.size w1 w4 ∧ ∃ u : Int, VAt w4 w1.heap.size 28 (.int .i64 u) ∧ u = (if 0 = 0 then 18 else 5) from ⟨Nat.zero_le _, rfl, hB34, 18, q9.mono hB4, rfl⟩)
    have Hgen := hid hGen
    have Hz := hid (show w4.heap.size = w1.heap.size + 2 by omega)
    have HW3 := hid hw3; have HW4 := hid hw4; have HLat := hid hLat; have Hpk := hid hpk; have Hq1 := hid hq1
    clear hGen hw3 hz3 hw4 hB4 hB34 hz4 hp4 hB3 q9 hL hl6 hLat hpk hp hq1
    go_wp2_with fail
    rw [← HW3.out]
    refine (HA.out _).mono ?_
    rintro e w5 ⟨rfl, hw5⟩
    rw [← HW4.out] at hw5
    subst hw5
    go_wp2
    refine (wpIn_wide (n := 0)).1 ?_
    refine range_lawT' (fun v t => t.setIfInBounds 10 (v.getD 0 undef)) rfl enters110 Hgen.out ?hS ?hSx ?hT ?hps ?hX (fun k W => k ≤ L.length ∧ allTo (fun j => !p (nth L j)) k = true ∧ Below w1.heap.size w1 W ∧ ∃ u : Int, VAt W w1.heap.size 28 (.int .i64 u) ∧ u = (if k = 0 then 18 else 5)) (fun c k W => c = .ret ∧ ∃ x, VAt W (w.heap.size + 1 + 1 + 1) 3 (.int .i64 x) ∧ VAt W (w.heap.size + 1 + 1 + 1 + 1) 28 (.int .i64 0) ∧ L.find? p = some x ∧ Below w.heap.size w W) ?hI ?hIx ?hIT ?hIxT (fun k W h => h.1) HI0.out ?assign ?body ?done ?stop
    case hS => have := Hz.out; refine ⟨fun h => ?_, fun h => ?_⟩ <;> omega
    case hSx => have := Hz.out; have := Hl6.out; refine ⟨fun h => ?_, fun h => ?_⟩ <;> omega
    case hT => refine ⟨fun h => ?_, fun h => ?_⟩ <;> omega
    case hps => rintro k v W ⟨g, rfl, _⟩; rfl
    case hX => intro k v W W' hv ho; exact hv.only ho (by omega) (by have := Hz.out; omega)
    case hI =>
      rintro k W' W'' ⟨h1, h2, h3, u, h4, h5⟩ ho
      have e1 := Hz.out
      exact ⟨h1, h2, h3.trans (ho.below h3.size (fun j hj e => by have e' : j = w4.heap.size + 1 := e; omega)), u, h4.only ho (fun e => by have e' : w1.heap.size = w4.heap.size + 1 := e; omega), h5⟩
    case hIx =>
      rintro c k W' W'' ⟨h1, x, h2, h3, h4, h5⟩ ho
      have e1 := Hz.out; have e2 := Hl6.out
      exact ⟨h1, x, h2.only ho (fun e => by have e' : w.heap.size + 1 + 1 + 1 = w4.heap.size + 1 := e; omega), h3.only ho (fun e => by have e' : w.heap.size + 1 + 1 + 1 + 1 = w4.heap.size + 1 := e; omega), h4, h5.trans (ho.below h5.size (fun j hj e => by have e' : j = w4.heap.size + 1 := e; omega))⟩
    case hIT =>
      rintro k W' W'' ⟨h1, h2, h3, u, h4, h5⟩ ho
      have e1 := Hz.out
      exact ⟨h1, h2, h3.trans (ho.below h3.size (fun j hj e => by have := e.1; omega)), u, h4.only ho (fun e => by have := e.1; omega), h5⟩
    case hIxT =>
      rintro c k W' W'' ⟨h1, x, h2, h3, h4, h5⟩ ho
      have e1 := Hz.out; have e2 := Hl6.out
      exact ⟨h1, x, h2.only ho (fun e => by have := e.1; omega), h3.only ho (fun e => by have := e.1; omega), h4, h5.trans (ho.below h5.size (fun j hj e => by have := e.1; omega))⟩
    case assign =>
      intro l k v W K hx hK
      obtain ⟨g', rfl, _⟩ := hx
      conv in (Act.mk _ _) => simp
      gi_wp2
      simpa using hK
    case body =>
      rintro k v W' hW' ⟨hk, hall, hBW, u, q9, hu⟩ hX hkl
      obtain ⟨g', rfl, hg5, hgs, hgh, hgB⟩ := hX
      have hfr := frAt_of hgh (Hfr.out.bd.mono hgB) (Hfr.out.rd.mono hgB)
      have hlv := HLat.out k hkl
      have HP := hid fun s : Later W' => pay_c g' ⟨pa, pc, ya, yc, la, lc, sa, sc⟩ B R (nth L k) s.w' (hfr.mono s.h) hBk hlv
      have HQ := hid fun s : Later W' => lessQ_c (payQ B (nth L k)) q s.w' (payQ_fit hBk (nth L k) hlv).1 Hq1.out
      unfold TellB at HQ
      have hpn := Hpk.out k hkl
      have hfa := fun h => find_at hkl hall (p := p) h
      have hal : allTo (fun j => !p (nth L j)) (k + 1) = (allTo (fun j => !p (nth L j)) k && !p (nth L k)) := rfl
      rw [hall, Bool.true_and] at hal
      have hc4 : W'.cell? ⟨g', 4, none⟩ = some (.int .i64 (nth L k)) := hfr.k4
      obtain ⟨x, hxx⟩ : ∃ x, x = nth L k := ⟨_, rfl⟩
      rw [← hxx] at HP HQ hpn hfa hal hc4
      obtain ⟨y, hyy⟩ : ∃ y, y = payQ B x := ⟨_, rfl⟩
      rw [← hyy] at HP HQ hpn
      obtain ⟨b, hb⟩ : ∃ b, b = lessQ y q := ⟨_, rfl⟩
      rw [← hb] at HQ hpn
      rw [hpn] at hfa hal
      have j4 := fun s : Later W' => cstep (cstep Q4.out.1 hBW) s.h
      have j5 := fun s : Later W' => cstep (cstep Q4.out.2 hBW) s.h
      have HBW := hid hBW; have Q9 := hid q9
      clear hBW q9 hu hgh hgB hfr hlv hxx hyy hb hall hpn
      conv in (Act.mk _ _) => simp
      cases b with
      | true =>
        have Hfa := hid (hfa rfl)
        have Hc4 := hid hc4
        clear hfa hal hc4
        gi_wp2
        refine wpIn_region_later _ rfl mix8 (by kernel_rfl) (by simp) ?_
        repeat (gi_big_quiet_step ((first | (refine ⟨rfl, ?_⟩; gi_at_call 70; exact callsLaterIn (HP.out _)) | (refine ⟨rfl, ?_⟩; gi_at_call 94; exact callsLaterIn (HQ.out _)))))
        refine wpQuietIn_nil ?_
        rintro w6 ⟨⟨_, hB6⟩, rfl⟩
        have c4 := cstep Hc4.out hB6
        have p5 := (Q5.out.mono (bstep HBW.out hB6)); have p6 := (Q6.out.mono (bstep HBW.out hB6))
        have n5 : w.heap.size + 1 + 1 + 1 + 1 ≠ w.heap.size + 1 + 1 + 1 := by omega
        have c5 := p5.c; have f5 := p5.f
        have c6 := (p6.other n5 (.int .i64 x)).c; have f6 := (p6.other n5 (.int .i64 x)).f
        have R5 := hid ((p5.set (.int .i64 x)).other n5.symm (.int .i64 0))
        have R6 := hid ((p6.other n5 (.int .i64 x)).set (.int .i64 0))
        have HBz := hid (((bstep HB0.out (bstep HB1.out (bstep HBW.out hB6))).setCell (p := ⟨w.heap.size + 1 + 1 + 1, 0, none⟩) (show w.heap.size ≤ w.heap.size + 1 + 1 + 1 by omega) (.int .i64 x)).setCell (p := ⟨w.heap.size + 1 + 1 + 1 + 1, 0, none⟩) (show w.heap.size ≤ w.heap.size + 1 + 1 + 1 + 1 by omega) (.int .i64 0))
        have HO := hid (Only.setCell (S := fun b => b = w.heap.size + 1 + 1 + 1 ∨ b = w.heap.size + 1 + 1 + 1 + 1) (p := ⟨w.heap.size + 1 + 1 + 1 + 1, 0, none⟩) (Only.setCell (S := fun b => b = w.heap.size + 1 + 1 + 1 ∨ b = w.heap.size + 1 + 1 + 1 + 1) (p := ⟨w.heap.size + 1 + 1 + 1, 0, none⟩) (Only.of_below hB6) (.inl rfl) (.int .i64 x)) (.inr rfl) (.int .i64 0))
        clear p5 p6 n5 hB6 j4 j5
        gi_wp2
        exact ⟨HO.out, rfl, x, R5.out, R6.out, Hfa.out, HBz.out⟩
      | false =>
        have Hal := hid hal
        clear hfa hal hc4
        gi_wp2
        refine wpIn_region_later _ rfl mix8 (by kernel_rfl) (by simp) ?_
        repeat (gi_big_quiet_step ((first | (refine ⟨rfl, ?_⟩; gi_at_call 70; exact callsLaterIn (HP.out _)) | (refine ⟨rfl, ?_⟩; gi_at_call 94; exact callsLaterIn (HQ.out _)))))
        refine wpQuietIn_nil ?_
        rintro w6 ⟨⟨_, hB6⟩, rfl⟩
        have p9 := Q9.out.mono hB6
        have c9 := p9.c; have f9 := p9.f
        have R9 := hid (p9.set (.int .i64 5))
        have HBz := hid ((bstep HBW.out hB6).setCell (p := ⟨w1.heap.size, 0, none⟩) (show w1.heap.size ≤ w1.heap.size from Nat.le_refl _) (.int .i64 5))
        have HO := hid (Only.setCell (S := fun b => b = w1.heap.size) (p := ⟨w1.heap.size, 0, none⟩) (Only.of_below hB6) rfl (.int .i64 5))
        clear p9 hB6 j4 j5
        gi_wp2
        exact ⟨HO.out, hkl, Hal.out, HBz.out, 5, R9.out, (if_neg (Nat.succ_ne_zero k)).symm⟩
    case done =>
      rintro k W' hk ⟨_, hall, hBW, u, q9, hu⟩ hD hlt
      obtain rfl : k = L.length := hk
      have hnone := find_none hall
      have hev := Hev.out; have hxv := Hxv.out
      rw [hnone] at hev hxv
      have hxv0 : xv = 0 := hxv
      clear hxv
      have huv : u = ev := by
        rw [hu, hev]
        by_cases h : L.length = 0
        · rw [if_pos h, if_pos (List.eq_nil_of_length_eq_zero h)]
        · rw [if_neg h, if_neg (fun e => h (by rw [e]; rfl)), if_pos rfl]
      subst huv hxv0
      have e1 := Hz.out; have e2 := Hl6.out
      have p5 := Q5.out.mono hBW; have p6 := Q6.out.mono hBW
      have n5 : w.heap.size + 1 + 1 + 1 + 1 ≠ w.heap.size + 1 + 1 + 1 := by omega
      have c5 := p5.c; have f5 := p5.f
      have c6 := p6.c; have f6 := p6.f
      have c7 := (p6.other n5 (.int .i64 0)).c; have f7 := (p6.other n5 (.int .i64 0)).f
      have c8 := (p5.other n5.symm (.int .i64 u)).c; have f8 := (p5.other n5.symm (.int .i64 u)).f
      have j9 := q9.c
      have j9' := (q9.other (r := w.heap.size + 1 + 1 + 1) (by omega) (.int .i64 0)).c
      have hO := ((Only.setCell (S := fun b => b = w.heap.size + 1 + 1 + 1 ∨ b = w.heap.size + 1 + 1 + 1 + 1) (p := ⟨w.heap.size + 1 + 1 + 1 + 1, 0, none⟩) (Only.setCell (S := fun b => b = w.heap.size + 1 + 1 + 1 ∨ b = w.heap.size + 1 + 1 + 1 + 1) (p := ⟨w.heap.size + 1 + 1 + 1, 0, none⟩) (Only.refl _ W') (.inl rfl) (.int .i64 0)) (.inr rfl) (.int .i64 u))).drew
      have HD := hid ((hO.block w4.heap.size hlt (by rintro (e | e) <;> omega)).trans hD)
      have r5 := (show VAt ((W'.setCell ⟨w.heap.size + 1 + 1 + 1, 0, none⟩ (.int .i64 0)).setCell ⟨w.heap.size + 1 + 1 + 1 + 1, 0, none⟩ (.int .i64 u)).drew (w.heap.size + 1 + 1 + 1) 3 (.int .i64 0) from (p5.set (.int .i64 0)).other n5.symm (.int .i64 u))
      have r6 := (show VAt ((W'.setCell ⟨w.heap.size + 1 + 1 + 1, 0, none⟩ (.int .i64 0)).setCell ⟨w.heap.size + 1 + 1 + 1 + 1, 0, none⟩ (.int .i64 u)).drew (w.heap.size + 1 + 1 + 1 + 1) 28 (.int .i64 u) from (p6.other n5 (.int .i64 0)).set (.int .i64 u))
      have R5 := hid (r5.put (D := w4.heap.size) (by omega) (.deferred none)).c
      have R6 := hid (r6.put (D := w4.heap.size) (by omega) (.deferred none)).c
      have hB5 := (((bstep HB0.out (bstep HB1.out hBW)).setCell (p := ⟨w.heap.size + 1 + 1 + 1, 0, none⟩) (show w.heap.size ≤ w.heap.size + 1 + 1 + 1 by omega) (.int .i64 0)).setCell (p := ⟨w.heap.size + 1 + 1 + 1 + 1, 0, none⟩) (show w.heap.size ≤ w.heap.size + 1 + 1 + 1 + 1 by omega) (.int .i64 u)).drew
      have HBz := hid (hB5.trans ((Only.put1 _ w4.heap.size (.deferred none)).below hB5.size (by intro j hj e; have e' : j = w4.heap.size := e; omega)))
      clear hO r5 r6 hB5 e1 e2 hev hnone hall hu hBW q9 p5 p6 n5 hD hlt
      go_upto_region 10 with (fail)
      go_region
      go_wp2
      refine ⟨by simp, .inl ⟨_, _, rfl, run_takeDeferred HD.out, ?_⟩⟩
      refine ⟨_, results_cell3_28 rfl _ _ (w.heap.size + 1 + 1 + 1) (w.heap.size + 1 + 1 + 1 + 1) (.int .i64 0) (.int .i64 u) rfl rfl R5.out R6.out, rfl, HBz.out⟩
    case stop =>
      rintro c k W' ⟨rfl, x, hv, hv2, hf, hB5⟩ hD
      have hev := Hev.out; have hxv := Hxv.out
      have hne : ¬ L = [] := fun e => by rw [e] at hf; cases hf
      rw [hf, if_neg hne, if_neg (by simp)] at hev
      rw [hf] at hxv
      have hxv0 : xv = x := hxv
      clear hxv
      subst hxv0 hev
      have e1 := Hz.out; have e2 := Hl6.out
      have R5 := hid (hv.put (D := w4.heap.size) (by omega) (.deferred none)).c
      have R6 := hid (hv2.put (D := w4.heap.size) (by omega) (.deferred none)).c
      have HB5 := hid hB5
      clear e1 e2
      refine wpIn_ret ?_
      refine ⟨by simp, .inl ⟨_, _, rfl, run_takeDeferred hD, ?_⟩⟩
      refine ⟨_, results_cell3_28 rfl _ _ (w.heap.size + 1 + 1 + 1) (w.heap.size + 1 + 1 + 1 + 1) (.int .i64 xv) (.int .i64 0) rfl rfl R5.out R6.out, rfl, HB5.out.trans ((Only.put1 _ w4.heap.size (.deferred none)).below HB5.out.size (by intro j hj e; have e' : j = w4.heap.size := e; have := Hz.out; have := Hl6.out; omega))⟩
end

end Go.Proofs.Ytnnojhpioenhbaa
