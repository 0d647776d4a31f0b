/- A region that draws its order, whose operations read what lay and whose callees lay new blocks alone: one walk in the order of the text. Boxes of arguments. Walk of the reference: Many. Walk of the reference: Agrees. Walks of the reference: First, LevelsOf. Walks of the reference: CheckReadings. Walks of the reference: Levels, Refuted. Walk of the reference: CheckRefuted. -/
import Derived.Test.YtnnojhpioenhbaaKE
import Derived.BigQuiet
import Derived.Deep.RegionLaw
namespace Go.Proofs.Ytnnojhpioenhbaa
open Go.RowKit Go.Shelf

/-- a world with new blocks alone -/
structure Later (w : World) where
  w' : World
  h : Below w.heap.size w w'

instance (w : World) : Nonempty (Later w) := ⟨⟨w, Below.refl _ _⟩⟩

theorem Below.drewSelf (w : World) : Below w.heap.size w w.drew := ⟨rfl, rfl, rfl, Nat.le_refl _, fun _ _ => rfl⟩

section
variable {P : Program} {id : Nat} {Q : Exit → Act → World → Prop} {a : Act} {w : World} {l : List Oper}
/-- ONE WALK OF THE TEXT's ORDER: reads of what lay, calls that lay new blocks -/
theorem wp_region_later (hm : P.follows .mixedOrders = true) (hB : Region.lexB .any l.toArray = true)
    (h : wpQuiet P l.toArray (fun w' => ∃ s : Later w, w' = s.w') (fun a' => ∀ w', (∃ s : Later w, w' = s.w') → Q .normal a' w') l a) : (Code.region id l.toArray true).wp P Q a w :=
  wp_region_quiet (C := fun w' => ∃ s : Later w, w' = s.w') hm hB ⟨⟨w.drew, Below.drewSelf w⟩, rfl⟩ (by simpa using h)
/-- the same in a round -/
theorem wpIn_region_later {F : Fence} {n : Nat} (i : Nat) (hro : F.round = none) (hm : P.follows .mixedOrders = true) (hB : Region.lexB .any l.toArray = true) (hd : ∀ o ∈ l, ∀ c, o.op ≠ .defer c)
    (h : wpQuietIn F n P l.toArray (fun w' => ∃ s : Later w, w' = s.w') (fun a' => ∀ w', (∃ s : Later w, w' = s.w') → Q .normal a' w') l a) : (Code.region id l.toArray true).wpIn (F.inRound i) n P Q a w := by
  have hB' := hB
  simp only [Region.lexB, Bool.and_eq_true] at hB'
  refine wpIn_region_any hm (wpAnyIn_round hro i (fun j o ho => hd o (List.mem_of_getElem? (by simpa using ho))) _ _ _ _ (wpAnyIn_of_quiet (C := fun w' => ∃ s : Later w, w' = s.w') (Q := fun a' => ∀ w', (∃ s : Later w, w' = s.w') → Q .normal a' w') hro (fun _ w' hw' h => h w' hw') _ _ _ _ ⟨⟨w.drew, Below.drewSelf w⟩, rfl⟩ ?_))
  have := wpAnyQIn_lex (F := F) (n := n) (C := fun w' => ∃ s : Later w, w' = s.w') (md := .any) hB'.1 l.toArray.toList 0 (Array.replicate l.toArray.size false) a (by simp) (by simpa using hB'.2) (by simpa using h)
  simpa using this
end
/-- a call in such a region -/
theorem callsLater {P : Program} {f : FuncId} {args : Array Value} {w : World} {s : Later w} {v : Value} (h : Calls P f args s.w' fun e w2 => e = .returned v ∧ Below s.w'.heap.size s.w' w2) :
    Calls P f args s.w' fun e w2 => e = .returned v ∧ ∃ s' : Later w, w2 = s'.w' := h.mono fun _ w2 ⟨he, hB⟩ => ⟨he, ⟨⟨w2, bstep s.h hB⟩, rfl⟩⟩
theorem callsLaterIn {P : Program} {f : FuncId} {args : Array Value} {w : World} {s : Later w} {v : Value} {n : Nat} (h : Calls P f args s.w' fun e w2 => e = .returned v ∧ Below s.w'.heap.size s.w' w2) :
    CallsIn Fence.wide n P f args s.w' fun e w2 => e = .returned v ∧ ∃ s' : Later w, w2 = s'.w' := callsIn_wide.2 (callsLater h)

section
variable {t e : TypeId} {z : Value} {sz nb : Nat} {ops : Array Oper} {rest : List Oper} {o : Oper} {a : Act} {Q : Exit → Act → World → Prop}
/-- one element more, out of a new block -/
theorem wpList_app1 (E : ET t e z sz nb) (w : World) (hg : o.guard = none) (s x : Operand) (hop : o.op = Op.call { callee := Callee.builtin Builtin.append, args := #[s, x], argTypes := #[t, t] })
    (B : Nat) (ao : Option Addr) (n cap : Nat) (vs : List Value) (hs : a.eval s = .slice ao n cap) (hown : OwnV e sz B w ao n cap vs)
    (ys : List Value) (hx : a.eval x = .slice (some ⟨w.heap.size, 0, none⟩) 1 1) (hl : ys.length = sz) (h1 : ∀ u ∈ ys, u.oneCell' = true) (hb : n + 1 ≤ 1000000) (hB : B ≤ w.heap.size)
    (hK : ∀ ao' cap' w', Below B w w' → OwnV e sz B w' ao' (n + 1) cap' (vs ++ ys) → wpList Try.prog ops Q rest (a.put o.dst (.slice ao' (n + 1) cap')) w') :
    wpList Try.prog ops Q (o :: rest) a (w.alloc (.cells ys.toArray e)) :=
  wpList_appV E _ hg s x hop B ao n cap vs hs (hown.kept (bnew _ _)) (some ⟨w.heap.size, 0, none⟩) 1 1 ys hx (CellsAt.of_heap (heap_alloc_new w _) fun j v hj => by simpa using hj) (by rw [hl, Nat.one_mul]) h1 (fun h => by cases h) hb
    (Nat.le_trans hB (bnew w _).size) fun ao' cap' w' h2 h3 _ _ => hK ao' cap' w' (((bnew w _).mono hB).trans h2) h3
theorem wpListIn_app1 {F : Fence} {k : Nat} (E : ET t e z sz nb) (w : World) (hg : o.guard = none) (s x : Operand) (hop : o.op = Op.call { callee := Callee.builtin Builtin.append, args := #[s, x], argTypes := #[t, t] })
    (B : Nat) (ao : Option Addr) (n cap : Nat) (vs : List Value) (hs : a.eval s = .slice ao n cap) (hown : OwnV e sz B w ao n cap vs)
    (ys : List Value) (hx : a.eval x = .slice (some ⟨w.heap.size, 0, none⟩) 1 1) (hl : ys.length = sz) (h1 : ∀ u ∈ ys, u.oneCell' = true) (hb : n + 1 ≤ 1000000) (hB : B ≤ w.heap.size)
    (hK : ∀ ao' cap' w', Below B w w' → OwnV e sz B w' ao' (n + 1) cap' (vs ++ ys) → wpListIn F k Try.prog ops Q rest (a.put o.dst (.slice ao' (n + 1) cap')) w') :
    wpListIn F k Try.prog ops Q (o :: rest) a (w.alloc (.cells ys.toArray e)) :=
  wpListIn_appV E _ hg s x hop B ao n cap vs hs (hown.kept (bnew _ _)) (some ⟨w.heap.size, 0, none⟩) 1 1 ys hx (CellsAt.of_heap (heap_alloc_new w _) fun j v hj => by simpa using hj) (by rw [hl, Nat.one_mul]) h1 (fun h => by cases h) hb
    (Nat.le_trans hB (bnew w _).size) fun ao' cap' w' h2 h3 _ _ => hK ao' cap' w' (((bnew w _).mono hB).trans h2) h3
end

section
variable (w : World) (x0 x1 y0 y1 z0 z1 : Value) (t u v : TypeId)
theorem box1 : ∃ W, W = w.alloc (.cells #[x0, x1] t) ∧ Below w.heap.size w W ∧ W.cell? ⟨w.heap.size, 0, none⟩ = some x0 ∧ W.cell? ⟨w.heap.size, 1, none⟩ = some x1 :=
  ⟨_, rfl, bnew w _, by simp [go_sem], by simp [go_sem]⟩
theorem box2 : ∃ W, W = (w.alloc (.cells #[x0, x1] t)).alloc (.cells #[y0, y1] u) ∧ Below w.heap.size w W ∧ W.cell? ⟨w.heap.size, 0, none⟩ = some x0 ∧ W.cell? ⟨w.heap.size, 1, none⟩ = some x1 ∧
    W.cell? ⟨w.heap.size + 1, 0, none⟩ = some y0 ∧ W.cell? ⟨w.heap.size + 1, 1, none⟩ = some y1 :=
  ⟨_, rfl, bstep (bnew w _) (bnew _ _), by simp [go_sem], by simp [go_sem], by simp [go_sem], by simp [go_sem]⟩
theorem box3 : ∃ W, W = ((w.alloc (.cells #[x0, x1] t)).alloc (.cells #[y0, y1] u)).alloc (.cells #[z0, z1] v) ∧ Below w.heap.size w W ∧ W.cell? ⟨w.heap.size, 0, none⟩ = some x0 ∧ W.cell? ⟨w.heap.size, 1, none⟩ = some x1 ∧
    W.cell? ⟨w.heap.size + 1, 0, none⟩ = some y0 ∧ W.cell? ⟨w.heap.size + 1, 1, none⟩ = some y1 ∧ W.cell? ⟨w.heap.size + 1 + 1, 0, none⟩ = some z0 ∧ W.cell? ⟨w.heap.size + 1 + 1, 1, none⟩ = some z1 :=
  ⟨_, rfl, bstep (bstep (bnew w _) (bnew _ _)) (bnew _ _), by simp [go_sem], by simp [go_sem], by simp [go_sem], by simp [go_sem], by simp [go_sem], by simp [go_sem]⟩
end

section
variable (la : Option Addr) (lc : Nat) (sa : Option Addr) (sc : Nat) (R : Rd) (w : World)
set_option maxRecDepth 100000 in
theorem rMany_c (hm : manyN R ≤ 1000000) : Calls Try.prog 51 #[.agg #[.slice la R.plumbs.length lc, .slice sa R.slots.length sc]] w (TellI w (manyN R : Nat)) := by
  obtain ⟨V, hV, hB0, k0, k1⟩ := box1 w (.slice la R.plumbs.length lc) (.slice sa R.slots.length sc) 51
  have HB0 := hid hB0; have HV := hid hV
  have hE : manyN R = R.plumbs.length + R.slots.length := rfl
  have hw : IntKind.i64.wrap ((R.plumbs.length : Int) + (R.slots.length : Int)) = (R.plumbs.length : Int) + (R.slots.length : Int) := wrap_i64_of (by omega) (by omega)
  have HE := hid hE
  unfold TellI
  clear hE hm hV hB0
  go_enter Try.func51, Try.ntmps51
  go_upto_region 1 with (fail)
  rw [← HV.out]
  go_wp2
  go_ret
  exact ⟨ret_int (by rw [HE.out]; rfl), HB0.out⟩
end

end Go.Proofs.Ytnnojhpioenhbaa

namespace Go.Proofs.Ytnnojhpioenhbaa
open Go.RowKit Go.Shelf

section
variable (pa : Option Addr) (pc : Nat) (ya : Option Addr) (yc : Nat) (la : Option Addr) (lc : Nat) (sa : Option Addr) (sc : Nat) (B : Bd) (R : Rd) (lv : Int) (w : World)
set_option maxRecDepth 100000 in
set_option maxHeartbeats 1000000 in
theorem rAgrees_c (i : Nat) (hb : BdAt w pa ya B) (hr : RdAt w la sa R) (hB : Bok B) (hlv : -5 ≤ lv ∧ lv ≤ 5) (hR : Rok2 B R) (hi : i < manyN R) :
    Calls Try.prog 92 #[.agg #[.slice pa B.pins.length pc, .slice ya B.pays.length yc], .agg #[.slice la R.plumbs.length lc, .slice sa R.slots.length sc], .int .i64 lv, .int .i64 i] w (TellB w (agB B R lv i)) := by
  obtain ⟨V, hV, hB0, k0, k1, k2, k3⟩ := box2 w (.slice pa B.pins.length pc) (.slice ya B.pays.length yc) (.slice la R.plumbs.length lc) (.slice sa R.slots.length sc) 25 51
  have hbV := hb.mono hB0
  have hrV := hr.mono hB0
  have HB0 := hid hB0; have HV := hid hV
  have hE : manyN R = R.plumbs.length + R.slots.length := rfl
  have hm := hR.m
  unfold TellB
  by_cases hp : R.plumbs.length ≤ i
  · have hpI : ¬ (i : Int) < (R.plumbs.length : Int) := by omega
    have HWy := hid fun (w' : World) (h : Below V.heap.size V w') => waysOf_c pa pc ya yc B lv w' (hbV.mono h) hB hlv
    obtain ⟨b, off, rfl, hc⟩ := hrV.2.at (k := i - R.plumbs.length) (by omega)
    have hs := hR.slot (i - R.plumbs.length) (by omega)
    have hag : agB B R lv i = decide (0 < W (Rt B lv) B.pins.length (nth R.slots (i - R.plumbs.length)).toNat) := by unfold agB; rw [if_pos hp]
    have hsub : IntKind.i64.wrap ((i : Int) - (R.plumbs.length : Int)) = ((i - R.plumbs.length : Nat) : Int) := by rw [wrap_i64_of (by omega) (by omega)]; omega
    obtain ⟨d, hd⟩ : ∃ d, d = i - R.plumbs.length := ⟨_, rfl⟩
    rw [← hd] at hc hs hag hsub
    obtain ⟨s, hs2⟩ := Int.eq_ofNat_of_zero_le hs.1
    rw [hs2] at hc hag
    have hsn : s ≤ B.pins.length := by omega
    have hlen := rowW_len (Rt B lv) B.pins.length
    have hnw := rowW_nth (Rt B lv) hsn
    obtain ⟨ws, hws⟩ : ∃ ws, ws = rowW (Rt B lv) B.pins.length := ⟨_, rfl⟩
    rw [← hws] at hlen hnw HWy
    have Hlen := hid hlen; have Hnw := hid hnw
    unfold ListR at HWy
    rw [hlen] at HWy
    have hag2 : agB B R lv i = decide (0 < W (Rt B lv) B.pins.length s) := hag
    obtain ⟨v, hv⟩ : ∃ v, v = W (Rt B lv) B.pins.length s := ⟨_, rfl⟩
    rw [← hv] at hag2 Hnw
    have hdl : (d : Int) < (R.slots.length : Int) := by omega
    have hsl : (s : Int) < (B.pins.length : Int) + 1 := by omega
    have Hag := hid hag2; have Hsn := hid hsn
    clear hE hm hag hag2 hd hs hs2 hv hnw hsn hB hlv hR hb hr hbV hrV hV hB0 hi hp hws hlen
    go_enter Try.func92, Try.ntmps92
    go_upto_region 1 with (fail)
    rw [← HV.out]
    go_upto_region 3 with (fail)
    go_region_law (go_simp; go_at_call 69; refine (HWy.out _ (show Below V.heap.size V V.drew from below_drawN _ V 1)).mono ?_; rintro e w1 ⟨ao, cap, rfl, hx, hn, hB1⟩; obtain ⟨xb, xo, rfl, hcx⟩ := hx.at (k := s) (by rw [Hlen.out]; have := Hsn.out; omega); rw [Hnw.out] at hcx; have hB2 : Below V.heap.size V w1 := bstep (show Below V.heap.size V V.drew from below_drawN _ V 1) hB1; have k0 := cstep k0 hB2; have k1 := cstep k1 hB2; have k2 := cstep k2 hB2; have k3 := cstep k3 hB2; have hc := cstep hc hB2)
    all_goals (
      go_wp2
      go_ret
      exact ⟨ret_bool (by rw [Hag.out]), bstep HB0.out hB2⟩)
  · have hpI : (i : Int) < (R.plumbs.length : Int) := by omega
    obtain ⟨b, off, rfl, h0, h1⟩ := hrV.1.at (j := i) (by omega)
    have hag : agB B R lv i = (decide ((nthP R.plumbs i).1 ≤ lv) && decide (lv ≤ (nthP R.plumbs i).2)) := by unfold agB; rw [if_neg hp]
    obtain ⟨lo, hlo⟩ : ∃ x, x = (nthP R.plumbs i).1 := ⟨_, rfl⟩
    obtain ⟨hi2, hhi⟩ : ∃ x, x = (nthP R.plumbs i).2 := ⟨_, rfl⟩
    rw [← hlo] at hag h0; rw [← hhi] at hag h1
    by_cases hl : lo ≤ lv
    · rw [decide_eq_true hl, Bool.true_and] at hag
      have Hag := hid hag
      clear hE hm hag hB hlv hR hb hr hbV hrV hV hB0 hi hp hlo hhi
      go_enter Try.func92, Try.ntmps92
      go_upto_region 1 with (fail)
      rw [← HV.out]
      go_wp2
      go_ret
      exact ⟨ret_bool (by rw [Hag.out]), HB0.out⟩
    · rw [decide_eq_false hl, Bool.false_and] at hag
      have Hag := hid hag
      clear hE hm hag hB hlv hR hb hr hbV hrV hV hB0 hi hp hlo hhi
      go_enter Try.func92, Try.ntmps92
      go_upto_region 1 with (fail)
      rw [← HV.out]
      go_wp2
      go_ret
      exact ⟨ret_bool (by rw [Hag.out]), HB0.out⟩
end

end Go.Proofs.Ytnnojhpioenhbaa

namespace Go.Proofs.Ytnnojhpioenhbaa
open Go.RowKit Go.Shelf

def firstR (B : Bd) (R : Rd) (lv : Int) : Nat := firstN (agB B R lv) (manyN R)
section
variable (pa : Option Addr) (pc : Nat) (ya : Option Addr) (yc : Nat) (la : Option Addr) (lc : Nat) (sa : Option Addr) (sc : Nat) (B : Bd) (R : Rd) (lv : Int) (w : World)
set_option maxRecDepth 100000 in
set_option maxHeartbeats 1000000 in
theorem rFirst_c (hb : BdAt w pa ya B) (hr : RdAt w la sa R) (hB : Bok B) (hlv : -5 ≤ lv ∧ lv ≤ 5) (hR : Rok2 B R) :
    Calls Try.prog 50 #[.agg #[.slice pa B.pins.length pc, .slice ya B.pays.length yc], .agg #[.slice la R.plumbs.length lc, .slice sa R.slots.length sc], .int .i64 lv] w (TellI w (firstR B R lv : Nat)) := by
  obtain ⟨V, hV, hB0, k0, k1, k2, k3⟩ := box2 w (.slice pa B.pins.length pc) (.slice ya B.pays.length yc) (.slice la R.plumbs.length lc) (.slice sa R.slots.length sc) 25 51
  have hbV := hb.mono hB0
  have hrV := hr.mono hB0
  have HB0 := hid hB0; have HV := hid hV
  have HM := hid fun (w' : World) => rMany_c la lc sa sc R w' (by have := hR.m; omega)
  have HA := hid fun (i : Nat) (hi : i < manyN R) (w' : World) (h : Below V.heap.size V w') => rAgrees_c pa pc ya yc la lc sa sc B R lv w' i (hbV.mono h) (hrV.mono h) hB hlv hR hi
  have hm := hR.m
  unfold firstR
  obtain ⟨m, hmm⟩ : ∃ m, m = manyN R := ⟨_, rfl⟩
  obtain ⟨p, hp⟩ : ∃ p, p = agB B R lv := ⟨_, rfl⟩
  rw [← hmm] at HM hm HA ⊢
  rw [← hp] at HA ⊢
  have HF := hid fun k => @firstN_eq p m k
  unfold TellB at HA
  unfold TellI at HM ⊢
  clear hb hr hB hlv hR hmm hp hV hB0 hbV hrV
  go_enter Try.func50, Try.ntmps50
  go_upto_region 1 with (fail)
  rw [← HV.out]
  go_wp2
  go_loopw [7] (fun i wr => ∃ k : Nat, k ≤ m ∧ i = .int .i64 k ∧ allTo p k = true ∧ Below V.heap.size V wr) (fun i _ => m - (intOf i).toNat)
  case atStart => exact ⟨0, Nat.zero_le _, rfl, rfl, Below.refl _ _⟩
  case round =>
    obtain ⟨k, hk, rfl, hall, hBk⟩ := hrel
    obtain ⟨wk, rfl⟩ : ∃ wk : World, wk = wr := ⟨_, rfl⟩
    have k0 := cstep k0 hBk; have k1 := cstep k1 hBk; have k2 := cstep k2 hBk; have k3 := cstep k3 hBk
    have HB := hid hBk; have Hall := hid hall
    clear hBk hall
    by_cases hlt : k < m
    · have hltI : (k : Int) < (m : Int) := by omega
      cases hpk : p k with
      | true =>
        have HAk := hid (HA.out k hlt)
        rw [hpk] at HAk
        have hs : allTo p (k + 1) = (allTo p k && p k) := rfl
        rw [hpk, Hall.out] at hs
        have Hs := hid hs
        have e1 : IntKind.i64.wrap ((k : Int) + 1) = (k : Int) + 1 := wrap_i64_of (by omega) (by omega)
        clear hpk hs
        go_wp2_with fail
        refine (HM.out _).mono ?_
        rintro e w1 ⟨rfl, hB⟩
        have HB1 := hid (bstep HB.out hB)
        have k0 := cstep k0 hB
        have k1 := cstep k1 hB
        have k2 := cstep k2 hB
        have k3 := cstep k3 hB
        clear hB
        go_wp2_with fail
        refine (HAk.out _ HB1.out).mono ?_
        rintro e w2 ⟨rfl, hB⟩
        have HB2 := hid (bstep HB1.out hB)
        clear hB
        go_wp2
        go_roundw
        case rel => exact ⟨k + 1, by omega, by go_num, Hs.out, HB2.out⟩
        case measure => simp [intOf]; omega
      | false =>
        have HAk := hid (HA.out k hlt)
        rw [hpk] at HAk
        have HE := hid (HF.out k hk Hall.out (fun _ => hpk))
        clear hpk
        go_wp2_with fail
        refine (HM.out _).mono ?_
        rintro e w1 ⟨rfl, hB⟩
        have HB1 := hid (bstep HB.out hB)
        have k0 := cstep k0 hB
        have k1 := cstep k1 hB
        have k2 := cstep k2 hB
        have k3 := cstep k3 hB
        clear hB
        go_wp2_with fail
        refine (HAk.out _ HB1.out).mono ?_
        rintro e w2 ⟨rfl, hB⟩
        have HB2 := hid (bstep HB1.out hB)
        clear hB
        go_wp2
        go_ret
        exact ⟨ret_int (by rw [HE.out]), bstep HB0.out HB2.out⟩
    · obtain rfl : k = m := by omega
      have hltI : ¬ (k : Int) < (k : Int) := by omega
      have HE := hid (HF.out k hk Hall.out (fun h => absurd h hlt))
      go_wp2_with fail
      refine (HM.out _).mono ?_
      rintro e w1 ⟨rfl, hB⟩
      have HB1 := hid (bstep HB.out hB)
      have k0 := cstep k0 hB
      have k1 := cstep k1 hB
      have k2 := cstep k2 hB
      have k3 := cstep k3 hB
      clear hB
      go_wp2
      go_ret
      exact ⟨ret_int (by rw [HE.out]), bstep HB0.out HB1.out⟩

/-- the levels that agree, of the first k from -5 on -/
def lvlK (p : Int → Bool) : Nat → List Int
  | 0 => []
  | k + 1 => if p ((k : Int) - 5) then lvlK p k ++ [(k : Int) - 5] else lvlK p k
theorem lvlK_len (p : Int → Bool) (k : Nat) : (lvlK p k).length ≤ k := by
  induction k with
  | zero => exact Nat.le_refl _
  | succ k ih =>
    rw [lvlK]
    split
    · rw [List.length_append, List.length_singleton]; omega
    · omega
theorem lvlK_mem (p : Int → Bool) (k : Nat) (x : Int) : x ∈ lvlK p k ↔ (-5 ≤ x ∧ x < (k : Int) - 5) ∧ p x = true := by
  induction k with
  | zero => exact ⟨(fun h => by cases h), (fun h => by omega)⟩
  | succ k ih =>
    rw [lvlK]
    split
    · rename_i h
      simp only [List.mem_append, ih, List.mem_singleton]
      constructor
      · rintro (⟨h1, h2⟩ | rfl)
        · exact ⟨by omega, h2⟩
        · exact ⟨by omega, h⟩
      · rintro ⟨h1, h2⟩
        by_cases e : x = (k : Int) - 5
        · exact .inr e
        · exact .inl ⟨by omega, h2⟩
    · rename_i h
      rw [ih]
      constructor
      · rintro ⟨h1, h2⟩; exact ⟨by omega, h2⟩
      · rintro ⟨h1, h2⟩
        refine ⟨⟨h1.1, ?_⟩, h2⟩
        rcases Int.lt_or_eq_of_le (show x ≤ (k : Int) - 5 by omega) with h3 | h3
        · exact h3
        · rw [h3] at h2; exact absurd h2 h
/-- whether a level agrees with all readings -/
def okL (B : Bd) (R : Rd) (lv : Int) : Bool := decide (firstR B R lv = manyN R)
def levelsL (B : Bd) (R : Rd) : List Int := lvlK (okL B R) 11

set_option maxRecDepth 100000 in
set_option maxHeartbeats 2000000 in
theorem rLevelsOf_c (hb : BdAt w pa ya B) (hr : RdAt w la sa R) (hB : Bok B) (hR : Rok2 B R) :
    Calls Try.prog 85 #[.agg #[.slice pa B.pins.length pc, .slice ya B.pays.length yc], .agg #[.slice la R.plumbs.length lc, .slice sa R.slots.length sc]] w (ListR w (levelsL B R)) := by
  obtain ⟨V, hV, hB0, k0, k1, k2, k3⟩ := box2 w (.slice pa B.pins.length pc) (.slice ya B.pays.length yc) (.slice la R.plumbs.length lc) (.slice sa R.slots.length sc) 25 51
  have hbV := hb.mono hB0
  have hrV := hr.mono hB0
  have HB0 := hid hB0; have HV := hid hV
  have hm := hR.m
  unfold ListR levelsL
  have HM := hid fun (w' : World) => rMany_c la lc sa sc R w' (by have := hR.m; omega)
  have HA := hid fun (lv : Int) (hlv : -5 ≤ lv ∧ lv ≤ 5) (w' : World) (h : Below V.heap.size V w') => rFirst_c pa pc ya yc la lc sa sc B R lv w' (hbV.mono h) (hrV.mono h) hB hlv hR
  unfold TellI at HA HM
  have HF := hid fun (lv : Int) => show firstR B R lv ≤ manyN R by obtain ⟨k, h1, h2, _⟩ := firstN_spec (agB B R lv) (manyN R); unfold firstR; omega
  have HO := hid fun (lv : Int) => show okL B R lv = decide (firstR B R lv = manyN R) from rfl
  obtain ⟨p, hp⟩ : ∃ p, p = okL B R := ⟨_, rfl⟩
  obtain ⟨f, hf⟩ : ∃ f, f = firstR B R := ⟨_, rfl⟩
  obtain ⟨m, hmm⟩ : ∃ m, m = manyN R := ⟨_, rfl⟩
  rw [← hmm] at HM HF HO hm
  rw [← hp] at HO ⊢
  rw [← hf] at HA HF HO
  clear hb hr hB hR hp hf hmm hV hB0 hbV hrV
  go_enter Try.func85, Try.ntmps85
  go_upto_region 1 with (fail)
  rw [← HV.out]
  go_wp2
  go_loopw [5, 6] (fun o i wr => ∃ (k : Nat) (ao : Option Addr) (cap : Nat), k ≤ 11 ∧ i = .int .i64 ((k : Int) - 5) ∧ o = .slice ao (lvlK p k).length cap ∧ OwnI 3 V.heap.size wr ao (lvlK p k).length cap (lvlK p k) ∧ Below V.heap.size V wr) (fun _ i _ => (6 - intOf i).toNat)
  case atStart => exact ⟨0, none, 0, Nat.zero_le _, rfl, rfl, OwnI.nil _ _ _, Below.refl _ _⟩
  case round =>
    obtain ⟨k, ao, cap, hk, rfl, rfl, ho, hBk⟩ := hrel
    obtain ⟨wk, rfl⟩ : ∃ wk : World, wk = wr := ⟨_, rfl⟩
    have k0 := cstep k0 hBk; have k1 := cstep k1 hBk; have k2 := cstep k2 hBk; have k3 := cstep k3 hBk
    have hsz : V.heap.size ≤ wk.heap.size := hBk.size
    have Ho := hid ho; have HBk := hid hBk
    have hl := lvlK_len p k
    by_cases hlt : k < 11
    · have hltI : (k : Int) - 5 ≤ 5 := by omega
      have hHA := HA.out ((k : Int) - 5) (by omega)
      have hHF := HF.out ((k : Int) - 5)
      have hHO := HO.out ((k : Int) - 5)
      have hst : lvlK p (k + 1) = if p ((k : Int) - 5) then lvlK p k ++ [(k : Int) - 5] else lvlK p k := rfl
      have j0 := fun s : Later wk => cstep k0 s.h
      have j1 := fun s : Later wk => cstep k1 s.h
      have j2 := fun s : Later wk => cstep k2 s.h
      have j3 := fun s : Later wk => cstep k3 s.h
      have HA1 := hid fun s : Later wk => hHA s.w' (bstep HBk.out s.h)
      obtain ⟨n, hn⟩ : ∃ n, n = f ((k : Int) - 5) := ⟨_, rfl⟩
      obtain ⟨L, hL⟩ : ∃ L, L = lvlK p k := ⟨_, rfl⟩
      obtain ⟨c, hc⟩ : ∃ c : Int, c = (k : Int) - 5 := ⟨_, rfl⟩
      rw [← hc] at hst hltI HA1 hHA hHF hHO hn ⊢
      rw [← hn] at HA1 hHF hHO
      rw [← hL] at hst Ho hl ⊢
      clear ho hBk hHA hn hL k0 k1 k2 k3
      have e1 : IntKind.i64.wrap (c + 1) = c + 1 := wrap_i64_of (by omega) (by omega)
      have Hc := hid hc
      clear hc
      by_cases hnm : n = m
      · have hnmI : (n : Int) = (m : Int) := by omega
        rw [hnm, decide_eq_true rfl] at hHO
        rw [if_pos hHO] at hst
        have Hst := hid hst
        clear hst hHO hHF hnm
        go_upto_region 5 with (fail)
        refine wp_region_later (by kernel_rfl) (by kernel_rfl) ?_
        repeat (go_big_quiet_step ((first | (go_at_call 50; exact callsLater (HA1.out _)) | (go_at_call 51; exact callsLater (HM.out _)))))
        refine wpQuiet_nil ?_
        rintro w1 ⟨⟨_, hB1⟩, rfl⟩
        have HB1 := hid (bstep HBk.out hB1)
        have Ho1 := hid (Ho.out.kept hB1)
        have hsz1 : V.heap.size ≤ w1.heap.size := Nat.le_trans hsz hB1.size
        have hL1 : L.length + 1 ≤ 1000000 := by omega
        clear hB1 j0 j1 j2 j3
        go_wp2_with (at_builtin; refine wpList_app1 et42 w1 rfl _ _ rfl V.heap.size ao L.length cap (intv L) rfl Ho1.out.2 [.int .i64 c] rfl rfl ?c1 hL1 hsz1 ?_; rotate_right; (intro ao' cap' w' hB' hown'; refine Hid.out ?_))
        case c1 => simp [Value.oneCell']
        refine hid ?_
        have HB2 := hid (HB1.out.trans hB')
        have Ho2 := hid (show OwnI 3 V.heap.size w' ao' (L ++ [c]).length cap' (L ++ [c]) by rw [List.length_append]; exact OwnI.app rfl rfl hown')
        have Hla := hid (show (L ++ [c]).length = L.length + 1 by simp)
        clear hB' hown'
        go_wp2
        go_roundw
        case rel => exact ⟨k + 1, ao', cap', by omega, by rw [Hc.out]; go_num, by rw [Hst.out, Hla.out], by rw [Hst.out]; exact Ho2.out, HB2.out⟩
        case measure => simp [intOf]; omega
      · have hnmI : ¬ (n : Int) = (m : Int) := by omega
        rw [decide_eq_false hnm] at hHO
        rw [if_neg (by rw [hHO]; simp)] at hst
        have Hst := hid hst
        clear hst hHO hHF hnm
        go_upto_region 5 with (fail)
        refine wp_region_later (by kernel_rfl) (by kernel_rfl) ?_
        repeat (go_big_quiet_step ((first | (go_at_call 50; exact callsLater (HA1.out _)) | (go_at_call 51; exact callsLater (HM.out _)))))
        refine wpQuiet_nil ?_
        rintro w1 ⟨⟨_, hB1⟩, rfl⟩
        have HB1 := hid (bstep HBk.out hB1)
        have Ho1 := hid (Ho.out.kept hB1)
        clear hB1 j0 j1 j2 j3
        go_wp2
        go_roundw
        case rel => exact ⟨k + 1, ao, cap, by omega, by rw [Hc.out]; go_num, by rw [Hst.out], by rw [Hst.out]; exact Ho1.out, HB1.out⟩
        case measure => simp [intOf]; omega
    · obtain rfl : k = 11 := by omega
      go_wp2
      go_ret
      exact ⟨ao, cap, rfl, Ho.out.at, fun h => (Ho.out.none h).2, bstep HB0.out HBk.out⟩
end

end Go.Proofs.Ytnnojhpioenhbaa

namespace Go.Proofs.Ytnnojhpioenhbaa
open Go.RowKit Go.Shelf

theorem oddP_lo {lo hi : Int} (h : lo < -5) : oddP (lo, hi) = true := by simp [oddP, h]
theorem oddP_or {lo hi : Int} (h : hi < lo) : oddP (lo, hi) = true := by simp [oddP, h]
theorem oddP_hi {lo hi : Int} (h : 5 < hi) : oddP (lo, hi) = true := by simp [oddP, h]
theorem oddP_no {lo hi : Int} (h1 : ¬ lo < -5) (h2 : ¬ hi < lo) (h3 : ¬ 5 < hi) : oddP (lo, hi) = false := by simp [oddP]; omega
theorem any_of {xs : List (Int × Int)} {k : Nat} (hk : k < xs.length) (h : oddP (nthP xs k) = true) : xs.any oddP = true := List.any_eq_true.2 ⟨_, nthP_mem hk, h⟩

section
variable (pa : Option Addr) (pc : Nat) (ya : Option Addr) (yc : Nat) (la : Option Addr) (lc : Nat) (sa : Option Addr) (sc : Nat) (B : Bd) (R : Rd) (w : World)
set_option maxRecDepth 100000 in
set_option maxHeartbeats 4000000 in
theorem rCheckReadings_c (hb : BdAt w pa ya B) (hr : RdAt w la sa R) (hl : B.pins.length ≤ 1000000) (hP : R.plumbs.length ≤ 1000000) (hS : R.slots.length ≤ 1000000) :
    Calls Try.prog 39 #[.agg #[.slice pa B.pins.length pc, .slice ya B.pays.length yc], .agg #[.slice la R.plumbs.length lc, .slice sa R.slots.length sc]] w (TellI w (readErr B R)) := by
  obtain ⟨V, hV, hB0, k0, k1, k2, k3⟩ := box2 w (.slice pa B.pins.length pc) (.slice ya B.pays.length yc) (.slice la R.plumbs.length lc) (.slice sa R.slots.length sc) 25 51
  have hbV := hb.mono hB0
  have hrV := hr.mono hB0
  have HB0 := hid hB0; have HV := hid hV; have HV0 := hid (Below.refl V.heap.size V)
  have HC := hid fun (w' : World) (h : Below V.heap.size V w') => rCheckBoard_c pa pc ya yc B w' (hbV.mono h) hl
  have hE : readErr B R = if bdErr B = 0 then (if 12 < manyN R then 6 else if (R.plumbs.any oddP || !within 0 (B.pins.length : Int) R.slots) = true then 3 else 0) else bdErr B := rfl
  unfold TellI at HC ⊢
  by_cases h0 : bdErr B = 0
  case neg =>
    rw [if_neg h0] at hE
    rw [hE]
    obtain ⟨v, hv⟩ : ∃ v, v = bdErr B := ⟨_, rfl⟩
    rw [← hv] at HC h0 ⊢
    clear hE hv hb hr hl hP hS hV hB0 hbV hrV
    go_enter Try.func39, Try.ntmps39
    go_upto_region 1 with (fail)
    rw [← HV.out]
    go_wp2_with fail
    refine (HC.out _ HV0.out).mono ?_
    rintro e w1 ⟨rfl, hB⟩
    have HB1 := hid (bstep HV0.out hB)
    have k0 := cstep k0 hB
    have k1 := cstep k1 hB
    clear hB
    go_wp2_with fail
    refine (HC.out _ HB1.out).mono ?_
    rintro e w2 ⟨rfl, hB⟩
    have HB2 := hid (bstep HB1.out hB)
    clear hB
    go_wp2
    go_ret
    exact ⟨rfl, bstep HB0.out HB2.out⟩
  case pos =>
    rw [if_pos h0] at hE
    rw [h0] at HC
    have hM : manyN R = R.plumbs.length + R.slots.length := rfl
    have ew : IntKind.i64.wrap ((R.plumbs.length : Int) + (R.slots.length : Int)) = (R.plumbs.length : Int) + (R.slots.length : Int) := wrap_i64_of (by omega) (by omega)
    by_cases hm : 12 < manyN R
    case pos =>
      rw [if_pos hm] at hE
      rw [hE]
      have hmI : (12 : Int) < (R.plumbs.length : Int) + (R.slots.length : Int) := by omega
      clear hE hb hr hl hP hS hV hB0 hbV hrV hM hm h0
      go_enter Try.func39, Try.ntmps39
      go_upto_region 1 with (fail)
      rw [← HV.out]
      go_wp2_with fail
      refine (HC.out _ HV0.out).mono ?_
      rintro e w1 ⟨rfl, hB⟩
      have HB1 := hid (bstep HV0.out hB)
      have k0 := cstep k0 hB
      have k1 := cstep k1 hB
      have k2 := cstep k2 hB
      have k3 := cstep k3 hB
      clear hB
      go_wp2
      go_ret
      exact ⟨rfl, bstep HB0.out HB1.out⟩
    case neg =>
      rw [if_neg hm] at hE
      have hmI : ¬ (12 : Int) < (R.plumbs.length : Int) + (R.slots.length : Int) := by omega
      have HE := hid hE
      have Hr := hid hrV
      clear hE hb hr hl hV hB0 hbV hrV hM hm h0
      go_enter Try.func39, Try.ntmps39
      go_upto_region 1 with (fail)
      rw [← HV.out]
      go_wp2_with fail
      refine (HC.out _ HV0.out).mono ?_
      rintro e w1 ⟨rfl, hB⟩
      have HB1 := hid (bstep HV0.out hB)
      have k0 := cstep k0 hB
      have k1 := cstep k1 hB
      have k2 := cstep k2 hB
      have k3 := cstep k3 hB
      clear hB
      go_wp2
      go_loopw [5] (fun i wr => ∃ k : Nat, k ≤ R.plumbs.length ∧ i = .int .i64 k ∧ (R.plumbs.take k).any oddP = false ∧ Below V.heap.size V wr ∧ wr.cell? ⟨w.heap.size, 0, none⟩ = some (.slice pa B.pins.length pc) ∧ wr.cell? ⟨w.heap.size + 1, 0, none⟩ = some (.slice la R.plumbs.length lc) ∧ wr.cell? ⟨w.heap.size + 1, 1, none⟩ = some (.slice sa R.slots.length sc)) (fun i _ => R.plumbs.length - (intOf i).toNat)
      case atStart => exact ⟨0, Nat.zero_le _, rfl, rfl, HB1.out, k0, k2, k3⟩
      case round =>
        obtain ⟨k, hk, rfl, hall, hBk, k0, k2, k3⟩ := hrel
        obtain ⟨wk, rfl⟩ : ∃ wk : World, wk = wr := ⟨_, rfl⟩
        have HB := hid hBk; have Hall := hid hall
        have hrk := Hr.out.mono hBk
        clear hBk hall k1
        by_cases hlt : k < R.plumbs.length
        · have hltI : (k : Int) < (R.plumbs.length : Int) := by omega
          obtain ⟨b, off, rfl, c0, c1⟩ := hrk.1.at hlt
          have hany := anyP_take_succ oddP hlt
          have hof := fun h => any_of hlt h
          obtain ⟨p, hp⟩ : ∃ p, p = nthP R.plumbs k := ⟨_, rfl⟩
          rw [← hp] at c0 c1 hany hof
          clear hp
          obtain ⟨lo, hi⟩ := p
          have e1 : IntKind.i64.wrap ((k : Int) + 1) = (k : Int) + 1 := wrap_i64_of (by omega) (by omega)
          have HBn := hid (bstep HB.out (bnew wk (.cells #[.int .i64 lo, .int .i64 hi] 77)))
          have g0 := cstep k0 (bnew wk (.cells #[.int .i64 lo, .int .i64 hi] 77))
          have g2 := cstep k2 (bnew wk (.cells #[.int .i64 lo, .int .i64 hi] 77))
          have g3 := cstep k3 (bnew wk (.cells #[.int .i64 lo, .int .i64 hi] 77))
          have G := hid (And.intro g0 (And.intro g2 g3))
          rw [Hall.out, Bool.false_or] at hany
          clear g0 g2 g3 hrk
          by_cases h1 : lo < -5
          · rw [hof (oddP_lo h1), Bool.true_or, if_pos rfl] at HE
            clear hany hof
            go_wp2
            go_ret
            exact ⟨ret_int (by rw [HE.out]), bstep HB0.out HBn.out⟩
          · by_cases h2 : hi < lo
            · rw [hof (oddP_or h2), Bool.true_or, if_pos rfl] at HE
              clear hany hof
              go_wp2
              go_ret
              exact ⟨ret_int (by rw [HE.out]), bstep HB0.out HBn.out⟩
            · by_cases h3 : 5 < hi
              · rw [hof (oddP_hi h3), Bool.true_or, if_pos rfl] at HE
                clear hany hof
                go_wp2
                go_ret
                exact ⟨ret_int (by rw [HE.out]), bstep HB0.out HBn.out⟩
              · rw [oddP_no h1 h2 h3] at hany
                have Hany := hid hany
                clear hany hof
                go_wp2
                go_roundw
                case rel => exact ⟨k + 1, by omega, by go_num, Hany.out, HBn.out, G.out.1, G.out.2.1, G.out.2.2⟩
                case measure => simp [intOf]; omega
        · obtain rfl : k = R.plumbs.length := by omega
          have hltI : ¬ (R.plumbs.length : Int) < (R.plumbs.length : Int) := by omega
          have hall := Hall.out
          rw [List.take_length] at hall
          rw [hall, Bool.false_or] at HE
          clear hall
          go_wp2
          go_loopw [7] (fun i wr => ∃ j : Nat, j ≤ R.slots.length ∧ i = .int .i64 j ∧ within 0 (B.pins.length : Int) (R.slots.take j) = true ∧ ∃ n, wr = wk.drewN n) (fun i _ => R.slots.length - (intOf i).toNat)
          case atStart => exact ⟨0, Nat.zero_le _, rfl, rfl, 0, rfl⟩
          case round =>
            obtain ⟨j, hj, rfl, hall, n, rfl⟩ := hrel
            have Hall2 := hid hall
            clear hall
            by_cases hlt : j < R.slots.length
            · have hltJ : (j : Int) < (R.slots.length : Int) := by omega
              obtain ⟨b, off, rfl, c0⟩ := hrk.2.at hlt
              have hany := within_take_succ 0 (B.pins.length : Int) hlt
              have hof := @within_false 0 (B.pins.length : Int) _ _ hlt
              obtain ⟨x, hx⟩ : ∃ x, x = nth R.slots j := ⟨_, rfl⟩
              rw [← hx] at hany hof c0
              have e1 : IntKind.i64.wrap ((j : Int) + 1) = (j : Int) + 1 := wrap_i64_of (by omega) (by omega)
              have m0 : (wk.drewN n).cell? ⟨w.heap.size, 0, none⟩ = some (.slice pa B.pins.length pc) := k0
              have m3 : (wk.drewN n).cell? ⟨w.heap.size + 1, 1, none⟩ = some (.slice (some ⟨b, off, none⟩) R.slots.length sc) := k3
              have mc : (wk.drewN n).cell? ⟨b, off + j, none⟩ = some (.int .i64 x) := c0
              obtain ⟨Z, hZ⟩ : ∃ Z, Z = wk.drewN n := ⟨_, rfl⟩
              rw [← hZ] at m0 m3 mc ⊢
              have HZ := hid hZ
              have HBZ := hid (show Below V.heap.size V Z by rw [hZ]; exact bstep HB.out (below_drawN _ _ _))
              rw [Hall2.out, Bool.true_and] at hany
              clear hrk hx hZ c0 k0 k2 k3
              by_cases h1 : x < 0
              · rw [hof (by omega), Bool.not_false, if_pos rfl] at HE
                have h1d : decide (x < 0) = true := decide_eq_true h1
                clear hany hof h1
                go_upto_region 14 with (fail)
                go_quiet (fail)
                go_wp2
                go_ret
                exact ⟨ret_int (by rw [HE.out]), bstep HB0.out (bstep HBZ.out (below_drawN _ _ _))⟩
              · by_cases h2 : (B.pins.length : Int) < x
                · rw [hof (by omega), Bool.not_false, if_pos rfl] at HE
                  have h1d : decide (x < 0) = false := decide_eq_false h1
                  clear hany hof h1
                  go_upto_region 14 with (fail)
                  go_quiet (fail)
                  go_wp2
                  go_ret
                  exact ⟨ret_int (by rw [HE.out]), bstep HB0.out (bstep HBZ.out (below_drawN _ _ _))⟩
                · rw [decide_eq_true (show 0 ≤ x by omega), decide_eq_true (show x ≤ (B.pins.length : Int) by omega)] at hany
                  have Hany := hid hany
                  have h1d : decide (x < 0) = false := decide_eq_false h1
                  clear hany hof h1
                  go_upto_region 14 with (fail)
                  go_quiet (fail)
                  go_wp2
                  go_roundw
                  case rel => exact ⟨j + 1, by omega, by go_num, Hany.out, n + nq, by rw [HZ.out]; simp [World.drewN, Nat.add_assoc]⟩
                  case measure => simp [intOf]; omega
            · obtain rfl : j = R.slots.length := by omega
              have hltJ : ¬ (R.slots.length : Int) < (R.slots.length : Int) := by omega
              have hall := Hall2.out
              rw [List.take_length] at hall
              rw [hall, Bool.not_true, if_neg (by simp)] at HE
              have m3 : (wk.drewN n).cell? ⟨w.heap.size + 1, 1, none⟩ = some (.slice sa R.slots.length sc) := k3
              go_wp2
              go_ret
              exact ⟨ret_int (by rw [HE.out]), bstep HB0.out (bstep HB.out (below_drawN _ _ _))⟩
end

end Go.Proofs.Ytnnojhpioenhbaa

namespace Go.Proofs.Ytnnojhpioenhbaa
open Go.RowKit Go.Shelf

def levErr (B : Bd) (R : Rd) : Int := if readErr B R = 0 then (if levelsL B R = [] then 18 else 0) else readErr B R
def levX (B : Bd) (R : Rd) : List Int := if readErr B R = 0 then levelsL B R else []
def refErr (B : Bd) (R : Rd) : Int := if readErr B R = 0 then (if levelsL B R = [] then 0 else 5) else readErr B R
def refK (f : Int → Nat) (k : Nat) : List Int := (List.range k).map fun (i : Nat) => ((f ((i : Int) - 5) : Nat) : Int)
theorem refK_len (f : Int → Nat) (k : Nat) : (refK f k).length = k := by simp [refK]
theorem refK_succ (f : Int → Nat) (k : Nat) : refK f (k + 1) = refK f k ++ [((f ((k : Int) - 5) : Nat) : Int)] := by unfold refK; rw [List.range_succ, List.map_append]; rfl
def refX (B : Bd) (R : Rd) : List Int := if refErr B R = 0 then refK (firstR B R) 11 else []
theorem levelsL_len (B : Bd) (R : Rd) : (levelsL B R).length ≤ 11 := lvlK_len _ _

section
variable (pa : Option Addr) (pc : Nat) (ya : Option Addr) (yc : Nat) (la : Option Addr) (lc : Nat) (sa : Option Addr) (sc : Nat) (B : Bd) (R : Rd) (w : World)
set_option maxRecDepth 100000 in
set_option maxHeartbeats 1000000 in
theorem rLevels_c (hb : BdAt w pa ya B) (hr : RdAt w la sa R) (hl : B.pins.length ≤ 1000000) (hP : R.plumbs.length ≤ 1000000) (hS : R.slots.length ≤ 1000000) :
    Calls Try.prog 35 #[.agg #[.slice pa B.pins.length pc, .slice ya B.pays.length yc], .agg #[.slice la R.plumbs.length lc, .slice sa R.slots.length sc]] w (SliceE w (levErr B R) (levX B R)) := by
  obtain ⟨V, hV, hB0, k0, k1, k2, k3⟩ := box2 w (.slice pa B.pins.length pc) (.slice ya B.pays.length yc) (.slice la R.plumbs.length lc) (.slice sa R.slots.length sc) 25 51
  have hbV := hb.mono hB0
  have hrV := hr.mono hB0
  have HB0 := hid hB0; have HV := hid hV; have HV0 := hid (Below.refl V.heap.size V)
  have K0 := hid k0; have K1 := hid k1; have K2 := hid k2; have K3 := hid k3
  have HC := hid fun (w' : World) (h : Below V.heap.size V w') => rCheckReadings_c pa pc ya yc la lc sa sc B R w' (hbV.mono h) (hrV.mono h) hl hP hS
  have hE : levErr B R = if readErr B R = 0 then (if levelsL B R = [] then 18 else 0) else readErr B R := rfl
  have hX : levX B R = if readErr B R = 0 then levelsL B R else [] := rfl
  unfold TellI at HC
  unfold SliceE
  by_cases h0 : readErr B R = 0
  case neg =>
    rw [if_neg h0] at hE hX
    rw [hE, hX]
    obtain ⟨v, hv⟩ : ∃ v, v = readErr B R := ⟨_, rfl⟩
    rw [← hv] at HC h0 ⊢
    clear hE hX hv hb hr hl hP hS hV hB0 hbV hrV
    go_enter Try.func35, Try.ntmps35
    go_upto_region 1 with (fail)
    rw [← HV.out]
    go_wp2_with fail
    refine (HC.out _ HV0.out).mono ?_
    rintro e w1 ⟨rfl, hB⟩
    have HB1 := hid (bstep HV0.out hB)
    have k0 := cstep k0 hB
    have k1 := cstep k1 hB
    have k2 := cstep k2 hB
    have k3 := cstep k3 hB
    clear hB
    go_wp2_with fail
    refine (HC.out _ HB1.out).mono ?_
    rintro e w2 ⟨rfl, hB⟩
    have HB2 := hid (bstep HB1.out hB)
    clear hB
    go_wp2
    go_ret2
    exact ⟨none, 0, rfl, .inl rfl, fun _ => rfl, bstep HB0.out HB2.out⟩
  case pos =>
    rw [if_pos h0] at hE hX
    rw [hE, hX]
    obtain ⟨hBk, hRk⟩ := readErr_zero.1 h0
    have HL := hid fun (w' : World) (h : Below V.heap.size V w') => rLevelsOf_c pa pc ya yc la lc sa sc B R w' (hbV.mono h) (hrV.mono h) hBk hRk
    unfold ListR at HL
    rw [h0] at HC
    obtain ⟨L, hL⟩ : ∃ L, L = levelsL B R := ⟨_, rfl⟩
    rw [← hL] at HL ⊢
    clear hE hX hb hr hl hP hS hV hB0 hbV hrV h0 hBk hRk hL
    by_cases hn : L = []
    · rw [if_pos hn]
      subst hn
      go_enter Try.func35, Try.ntmps35
      go_upto_region 1 with (fail)
      rw [← HV.out]
      go_wp2_with fail
      refine (HC.out _ HV0.out).mono ?_
      rintro e w1 ⟨rfl, hB⟩
      have HB1 := hid (bstep HV0.out hB)
      have k0 := cstep k0 hB
      have k1 := cstep k1 hB
      have k2 := cstep k2 hB
      have k3 := cstep k3 hB
      clear hB
      go_wp2_with fail
      refine (HL.out _ HB1.out).mono ?_
      rintro e w2 ⟨ao, cap, rfl, hx, hcn, hB⟩
      have HB2 := hid (bstep HB1.out hB)
      clear hB
      go_wp2
      go_ret2
      exact ⟨none, 0, rfl, .inl rfl, fun _ => rfl, bstep HB0.out HB2.out⟩
    · rw [if_neg hn]
      have hnI : ¬ (L.length : Int) = 0 := by have : L.length ≠ 0 := fun h => hn (List.eq_nil_of_length_eq_zero h); omega
      clear hn
      go_enter Try.func35, Try.ntmps35
      go_upto_region 1 with (fail)
      rw [← HV.out]
      go_wp2_with fail
      refine (HC.out _ HV0.out).mono ?_
      rintro e w1 ⟨rfl, hB⟩
      have HB1 := hid (bstep HV0.out hB)
      have k0 := cstep k0 hB
      have k1 := cstep k1 hB
      have k2 := cstep k2 hB
      have k3 := cstep k3 hB
      clear hB
      go_wp2_with fail
      refine (HL.out _ HB1.out).mono ?_
      rintro e w2 ⟨ao, cap, rfl, hx, hcn, hB⟩
      have HB2 := hid (bstep HB1.out hB)
      clear hB
      go_wp2
      go_ret2
      exact ⟨ao, cap, rfl, hx, hcn, bstep HB0.out HB2.out⟩

set_option maxRecDepth 100000 in
set_option maxHeartbeats 2000000 in
theorem rRefuted_c (hb : BdAt w pa ya B) (hr : RdAt w la sa R) (hl : B.pins.length ≤ 1000000) (hP : R.plumbs.length ≤ 1000000) (hS : R.slots.length ≤ 1000000) :
    Calls Try.prog 37 #[.agg #[.slice pa B.pins.length pc, .slice ya B.pays.length yc], .agg #[.slice la R.plumbs.length lc, .slice sa R.slots.length sc]] w (SliceE w (refErr B R) (refX B R)) := by
  obtain ⟨V, hV, hB0, k0, k1, k2, k3⟩ := box2 w (.slice pa B.pins.length pc) (.slice ya B.pays.length yc) (.slice la R.plumbs.length lc) (.slice sa R.slots.length sc) 25 51
  have hbV := hb.mono hB0
  have hrV := hr.mono hB0
  have HB0 := hid hB0; have HV := hid hV; have HV0 := hid (Below.refl V.heap.size V)
  have K0 := hid k0; have K1 := hid k1; have K2 := hid k2; have K3 := hid k3
  have HC := hid fun (w' : World) (h : Below V.heap.size V w') => rCheckReadings_c pa pc ya yc la lc sa sc B R w' (hbV.mono h) (hrV.mono h) hl hP hS
  have hE : refErr B R = if readErr B R = 0 then (if levelsL B R = [] then 0 else 5) else readErr B R := rfl
  have hX : refX B R = if refErr B R = 0 then refK (firstR B R) 11 else [] := rfl
  unfold TellI at HC
  unfold SliceE
  by_cases h0 : readErr B R = 0
  case neg =>
    rw [if_neg h0] at hE
    rw [hE, if_neg h0] at hX
    rw [hE, hX]
    obtain ⟨v, hv⟩ : ∃ v, v = readErr B R := ⟨_, rfl⟩
    rw [← hv] at HC h0 ⊢
    clear hE hX hv hb hr hl hP hS hV hB0 hbV hrV
    go_enter Try.func37, Try.ntmps37
    go_upto_region 1 with (fail)
    rw [← HV.out]
    go_wp2_with fail
    refine (HC.out _ HV0.out).mono ?_
    rintro e w1 ⟨rfl, hB⟩
    have HB1 := hid (bstep HV0.out hB)
    have k0 := cstep k0 hB
    have k1 := cstep k1 hB
    have k2 := cstep k2 hB
    have k3 := cstep k3 hB
    clear hB
    go_wp2_with fail
    refine (HC.out _ HB1.out).mono ?_
    rintro e w2 ⟨rfl, hB⟩
    have HB2 := hid (bstep HB1.out hB)
    clear hB
    go_wp2
    go_ret2
    exact ⟨none, 0, rfl, .inl rfl, fun _ => rfl, bstep HB0.out HB2.out⟩
  case pos =>
    rw [if_pos h0] at hE
    obtain ⟨hBk, hRk⟩ := readErr_zero.1 h0
    have HL := hid fun (w' : World) (h : Below V.heap.size V w') => rLevelsOf_c pa pc ya yc la lc sa sc B R w' (hbV.mono h) (hrV.mono h) hBk hRk
    have HA := hid fun (lv : Int) (hlv : -5 ≤ lv ∧ lv ≤ 5) (w' : World) (h : Below V.heap.size V w') => rFirst_c pa pc ya yc la lc sa sc B R lv w' (hbV.mono h) (hrV.mono h) hBk hlv hRk
    unfold ListR at HL
    unfold TellI at HA
    rw [h0] at HC
    by_cases hn : levelsL B R = []
    case neg =>
      rw [if_neg hn] at hE
      rw [hE, if_neg (by omega)] at hX
      rw [hE, hX]
      obtain ⟨L, hL⟩ : ∃ L, L = levelsL B R := ⟨_, rfl⟩
      rw [← hL] at HL hn
      have hnI : (0 : Int) < (L.length : Int) := by have : L.length ≠ 0 := fun h => hn (List.eq_nil_of_length_eq_zero h); omega
      clear hE hX hb hr hl hP hS hV hB0 hbV hrV h0 hBk hRk hL hn
      go_enter Try.func37, Try.ntmps37
      go_upto_region 1 with (fail)
      rw [← HV.out]
      go_wp2_with fail
      refine (HC.out _ HV0.out).mono ?_
      rintro e w1 ⟨rfl, hB⟩
      have HB1 := hid (bstep HV0.out hB)
      have k0 := cstep k0 hB
      have k1 := cstep k1 hB
      have k2 := cstep k2 hB
      have k3 := cstep k3 hB
      clear hB
      go_wp2_with fail
      refine (HL.out _ HB1.out).mono ?_
      rintro e w2 ⟨ao, cap, rfl, hx, hcn, hB⟩
      have HB2 := hid (bstep HB1.out hB)
      clear hB
      go_wp2
      go_ret2
      exact ⟨none, 0, rfl, .inl rfl, fun _ => rfl, bstep HB0.out HB2.out⟩
    case pos =>
      rw [if_pos hn] at hE
      rw [hE, if_pos rfl] at hX
      rw [hE, hX]
      rw [hn] at HL
      obtain ⟨f, hf⟩ : ∃ f, f = firstR B R := ⟨_, rfl⟩
      rw [← hf] at HA ⊢
      have Hlen := hid (refK_len f)
      have Hsu := hid (refK_succ f)
      clear hE hX hb hr hl hP hS hV hB0 hbV hrV h0 hBk hRk hn hf
      go_enter Try.func37, Try.ntmps37
      go_upto_region 1 with (fail)
      rw [← HV.out]
      go_wp2_with fail
      refine (HC.out _ HV0.out).mono ?_
      rintro e w1 ⟨rfl, hB⟩
      have HB1 := hid (bstep HV0.out hB)
      have k0 := cstep k0 hB
      have k1 := cstep k1 hB
      have k2 := cstep k2 hB
      have k3 := cstep k3 hB
      clear hB
      go_wp2_with fail
      refine (HL.out _ HB1.out).mono ?_
      rintro e w2 ⟨ao, cap, rfl, hx, hcn, hB⟩
      have HB2 := hid (bstep HB1.out hB)
      have k0 := cstep k0 hB
      have k1 := cstep k1 hB
      have k2 := cstep k2 hB
      have k3 := cstep k3 hB
      clear hB
      clear hx hcn
      go_wp2
      go_loopw [6, 7] (fun o i wr => ∃ (k : Nat) (ao : Option Addr) (cap : Nat), k ≤ 11 ∧ i = .int .i64 ((k : Int) - 5) ∧ o = .slice ao k cap ∧ OwnI 3 V.heap.size wr ao k cap (refK f k) ∧ Below V.heap.size V wr) (fun _ i _ => (6 - intOf i).toNat)
      case atStart => exact ⟨0, none, 0, Nat.zero_le _, rfl, rfl, OwnI.nil _ _ _, HB2.out⟩
      case round =>
        obtain ⟨k, ao, cap, hk, rfl, rfl, ho, hBk⟩ := hrel
        obtain ⟨wk, rfl⟩ : ∃ wk : World, wk = wr := ⟨_, rfl⟩
        have k0 := cstep K0.out hBk; have k1 := cstep K1.out hBk; have k2 := cstep K2.out hBk; have k3 := cstep K3.out hBk
        have hsz : V.heap.size ≤ wk.heap.size := hBk.size
        have Ho := hid ho; have HBk := hid hBk
        clear ho hBk
        by_cases hlt : k < 11
        · have hltI : (k : Int) - 5 ≤ 5 := by omega
          have HAk := hid (HA.out ((k : Int) - 5) (by omega) wk HBk.out)
          have Hst := hid (Hsu.out k)
          obtain ⟨n, hn⟩ : ∃ n, n = f ((k : Int) - 5) := ⟨_, rfl⟩
          obtain ⟨c, hc⟩ : ∃ c : Int, c = (k : Int) - 5 := ⟨_, rfl⟩
          rw [← hn] at HAk Hst
          rw [← hc] at HAk hltI ⊢
          have e1 : IntKind.i64.wrap (c + 1) = c + 1 := wrap_i64_of (by omega) (by omega)
          have Hc := hid hc
          have hL1 : k + 1 ≤ 1000000 := by omega
          clear hc hn
          go_wp2_with fail
          refine (HAk.out).mono ?_
          rintro e w3 ⟨rfl, hB⟩
          have HB3 := hid (bstep HBk.out hB)
          have Ho := hid (Ho.out.kept hB)
          clear hB
          have hsz3 : V.heap.size ≤ w3.heap.size := HB3.out.size
          clear k0 k1 k2 k3
          go_wp2_with (at_builtin; refine wpList_app1 et42 w3 rfl _ _ rfl V.heap.size ao k cap (intv (refK f k)) rfl Ho.out.2 [.int .i64 n] rfl rfl ?c1 hL1 hsz3 ?_; rotate_right; (intro ao' cap' w' hB' hown'; refine Hid.out ?_))
          case c1 => simp [Value.oneCell']
          refine hid ?_
          have HB4 := hid (HB3.out.trans hB')
          have Ho2 := hid (show OwnI 3 V.heap.size w' ao' (k + 1) cap' (refK f k ++ [(n : Int)]) from OwnI.app (Hlen.out k) rfl hown')
          clear hB' hown'
          go_wp2
          go_roundw
          case rel => exact ⟨k + 1, ao', cap', by omega, by rw [Hc.out]; go_num, rfl, by rw [Hst.out]; exact Ho2.out, HB4.out⟩
          case measure => simp [intOf]; omega
        · obtain rfl : k = 11 := by omega
          go_wp2
          go_ret2
          exact ⟨ao, cap, by rw [Hlen.out]; rfl, Ho.out.at, fun h => (Ho.out.none h).2, bstep HB0.out HBk.out⟩
end

end Go.Proofs.Ytnnojhpioenhbaa

namespace Go.Proofs.Ytnnojhpioenhbaa
open Go.RowKit Go.Shelf

/-- no level agrees with its reading -/
def noAg (B : Bd) (R : Rd) (xs : List Int) (k : Nat) : Bool := !agB B R ((k : Int) - 5) (nth xs k).toNat
def crErr (B : Bd) (R : Rd) (xs : List Int) : Int :=
  if readErr B R = 0 then (if xs.length = 11 then (if within 0 ((manyN R : Int) - 1) xs = true then (if allTo (noAg B R xs) 11 = true then 0 else 14) else 3) else 15) else readErr B R

section
variable (pa : Option Addr) (pc : Nat) (ya : Option Addr) (yc : Nat) (la : Option Addr) (lc : Nat) (sa : Option Addr) (sc : Nat) (xa : Option Addr) (xc : Nat) (B : Bd) (R : Rd) (xs : List Int) (w : World)
set_option maxRecDepth 100000 in
set_option maxHeartbeats 4000000 in
theorem rCheckRefuted_c (hb : BdAt w pa ya B) (hr : RdAt w la sa R) (hx : IntsAt w xa xs) (hl : B.pins.length ≤ 1000000) (hP : R.plumbs.length ≤ 1000000) (hS : R.slots.length ≤ 1000000) :
    Calls Try.prog 41 #[.agg #[.slice pa B.pins.length pc, .slice ya B.pays.length yc], .agg #[.slice la R.plumbs.length lc, .slice sa R.slots.length sc], .slice xa xs.length xc] w (TellI w (crErr B R xs)) := by
  obtain ⟨V, hV, hB0, k0, k1, k2, k3⟩ := box2 w (.slice pa B.pins.length pc) (.slice ya B.pays.length yc) (.slice la R.plumbs.length lc) (.slice sa R.slots.length sc) 25 51
  have hbV := hb.mono hB0
  have hrV := hr.mono hB0
  have HB0 := hid hB0; have HV := hid hV; have HV0 := hid (Below.refl V.heap.size V)
  have K0 := hid k0; have K1 := hid k1; have K2 := hid k2; have K3 := hid k3
  have hxV := hx.mono hB0
  have HC := hid fun (w' : World) (h : Below V.heap.size V w') => rCheckReadings_c pa pc ya yc la lc sa sc B R w' (hbV.mono h) (hrV.mono h) hl hP hS
  have hE : crErr B R xs = if readErr B R = 0 then (if xs.length = 11 then (if within 0 ((manyN R : Int) - 1) xs = true then (if allTo (noAg B R xs) 11 = true then 0 else 14) else 3) else 15) else readErr B R := rfl
  unfold TellI at HC ⊢
  by_cases h0 : readErr B R = 0
  case neg =>
    rw [if_neg h0] at hE
    rw [hE]
    obtain ⟨v, hv⟩ : ∃ v, v = readErr B R := ⟨_, rfl⟩
    rw [← hv] at HC h0 ⊢
    clear hE hv hb hr hl hP hS hV hB0 hbV hrV hx hxV
    go_enter Try.func41, Try.ntmps41
    go_upto_region 1 with (fail)
    rw [← HV.out]
    go_wp2_with fail
    refine (HC.out _ HV0.out).mono ?_
    rintro e w1 ⟨rfl, hB⟩
    have HB1 := hid (bstep HV0.out hB)
    have k0 := cstep k0 hB
    have k1 := cstep k1 hB
    have k2 := cstep k2 hB
    have k3 := cstep k3 hB
    clear hB
    go_wp2_with fail
    refine (HC.out _ HB1.out).mono ?_
    rintro e w2 ⟨rfl, hB⟩
    have HB2 := hid (bstep HB1.out hB)
    clear hB
    go_wp2
    go_ret
    exact ⟨rfl, bstep HB0.out HB2.out⟩
  case pos =>
    rw [if_pos h0] at hE
    obtain ⟨hBk, hRk⟩ := readErr_zero.1 h0
    rw [h0] at HC
    by_cases h11 : xs.length = 11
    case neg =>
      rw [if_neg h11] at hE
      rw [hE]
      have hI : ¬ (xs.length : Int) = 11 := by omega
      clear hE hb hr hl hP hS hV hB0 hbV hrV hx hxV h0 hBk hRk h11
      go_enter Try.func41, Try.ntmps41
      go_upto_region 1 with (fail)
      rw [← HV.out]
      go_wp2_with fail
      refine (HC.out _ HV0.out).mono ?_
      rintro e w1 ⟨rfl, hB⟩
      have HB1 := hid (bstep HV0.out hB)
      have k0 := cstep k0 hB
      have k1 := cstep k1 hB
      have k2 := cstep k2 hB
      have k3 := cstep k3 hB
      clear hB
      go_wp2
      go_ret
      exact ⟨rfl, bstep HB0.out HB1.out⟩
    case pos =>
      rw [if_pos h11] at hE
      have HE := hid hE
      have hm := hRk.m
      have hI : (xs.length : Int) = 11 := by omega
      have HM := hid fun (w' : World) => rMany_c la lc sa sc R w' (by omega)
      have HA := hid fun (i : Nat) (hi : i < manyN R) (lv : Int) (hlv : -5 ≤ lv ∧ lv ≤ 5) (w' : World) (h : Below V.heap.size V w') => rAgrees_c pa pc ya yc la lc sa sc B R lv w' i (hbV.mono h) (hrV.mono h) hBk hlv hRk hi
      unfold TellI at HM
      unfold TellB at HA
      obtain ⟨xb, xo, rfl, _⟩ := hxV.at (k := 0) (by omega)
      have HX := hid fun (w' : World) (h : Below V.heap.size V w') (k : Nat) (hk : k < 11) => (hxV.mono h).cell (k := k) (by omega)
      have Hwt := hid fun (k : Nat) (hk : k < 11) => within_take_succ 0 ((manyN R : Int) - 1) (xs := xs) (k := k) (by omega)
      have Hwf := hid fun (k : Nat) (hk : k < 11) => @within_false 0 ((manyN R : Int) - 1) xs k (by omega)
      have Hwn := hid fun (h : within 0 ((manyN R : Int) - 1) xs = true) (k : Nat) (hk : k < 11) => within_nth h (k := k) (by omega)
      have Htk := hid (show xs.take 11 = xs by rw [← h11, List.take_length])
      have Hal := hid fun (k : Nat) => show allTo (noAg B R xs) (k + 1) = (allTo (noAg B R xs) k && noAg B R xs k) from rfl
      have Haf := hid fun (k : Nat) (hk : k < 11) (h : noAg B R xs k = false) => allTo_false hk h
      have Hno := hid fun (k : Nat) => show noAg B R xs k = !agB B R ((k : Int) - 5) (nth xs k).toNat from rfl
      obtain ⟨m, hmm⟩ : ∃ m, m = manyN R := ⟨_, rfl⟩
      rw [← hmm] at HM HA Hwt Hwf Hwn HE hm
      obtain ⟨p, hp⟩ : ∃ p, p = noAg B R xs := ⟨_, rfl⟩
      rw [← hp] at Hal Haf Hno HE
      clear hE hb hr hl hP hS hV hB0 hbV hrV hx hxV h0 hBk hRk h11 hmm hp
      go_enter Try.func41, Try.ntmps41
      go_upto_region 1 with (fail)
      rw [← HV.out]
      go_wp2_with fail
      refine (HC.out _ HV0.out).mono ?_
      rintro e w1 ⟨rfl, hB⟩
      have HB1 := hid (bstep HV0.out hB)
      clear hB
      clear k0 k1 k2 k3
      go_wp2
      go_loopw [7] (fun i wr => ∃ k : Nat, k ≤ 11 ∧ i = .int .i64 k ∧ within 0 ((m : Int) - 1) (xs.take k) = true ∧ Below V.heap.size V wr) (fun i _ => 11 - (intOf i).toNat)
      case atStart => exact ⟨0, Nat.zero_le _, rfl, rfl, HB1.out⟩
      case round =>
        obtain ⟨k, hk, rfl, hall, hBk⟩ := hrel
        obtain ⟨wk, rfl⟩ : ∃ wk : World, wk = wr := ⟨_, rfl⟩
        have HB := hid hBk; have Hall := hid hall
        by_cases hlt : k < 11
        · have hltI : (k : Int) < 11 := by omega
          have hcx := HX.out wk hBk k hlt
          have hwt := Hwt.out k hlt
          have hwf := Hwf.out k hlt
          obtain ⟨x, hxx⟩ : ∃ x, x = nth xs k := ⟨_, rfl⟩
          rw [← hxx] at hcx hwt hwf
          rw [Hall.out, Bool.true_and] at hwt
          have j2 := fun s : Later wk => cstep (cstep K2.out hBk) s.h
          have j3 := fun s : Later wk => cstep (cstep K3.out hBk) s.h
          have jx := fun s : Later wk => cstep hcx s.h
          have HM1 := hid fun s : Later wk => HM.out s.w'
          have e1 : IntKind.i64.wrap ((k : Int) + 1) = (k : Int) + 1 := wrap_i64_of (by omega) (by omega)
          clear hBk hall hxx hcx
          by_cases h1 : x < 0
          · have h1d : decide (x < 0) = true := decide_eq_true h1
            rw [hwf (by omega), if_neg (by simp)] at HE
            clear hwf hwt h1
            go_upto_region 8 with (fail)
            refine wp_region_later (by kernel_rfl) (by kernel_rfl) ?_
            repeat (go_big_quiet_step ((go_at_call 51; exact callsLater (HM1.out _))))
            refine wpQuiet_nil ?_
            rintro w2 ⟨⟨_, hB2⟩, rfl⟩
            have HB2 := hid (bstep HB.out hB2)
            clear hB2 j2 j3 jx
            go_wp2
            go_ret
            exact ⟨ret_int (by rw [HE.out]), bstep HB0.out HB2.out⟩
          · have h1d : decide (x < 0) = false := decide_eq_false h1
            by_cases h2 : (m : Int) ≤ x
            · rw [hwf (by omega), if_neg (by simp)] at HE
              clear hwf hwt h1
              go_upto_region 8 with (fail)
              refine wp_region_later (by kernel_rfl) (by kernel_rfl) ?_
              repeat (go_big_quiet_step ((go_at_call 51; exact callsLater (HM1.out _))))
              refine wpQuiet_nil ?_
              rintro w2 ⟨⟨_, hB2⟩, rfl⟩
              have HB2 := hid (bstep HB.out hB2)
              clear hB2 j2 j3 jx
              go_wp2
              go_ret
              exact ⟨ret_int (by rw [HE.out]), bstep HB0.out HB2.out⟩
            · rw [decide_eq_true (show 0 ≤ x by omega), decide_eq_true (show x ≤ (m : Int) - 1 by omega)] at hwt
              have Hwt2 := hid hwt
              clear hwf hwt h1
              go_upto_region 8 with (fail)
              refine wp_region_later (by kernel_rfl) (by kernel_rfl) ?_
              repeat (go_big_quiet_step ((go_at_call 51; exact callsLater (HM1.out _))))
              refine wpQuiet_nil ?_
              rintro w2 ⟨⟨_, hB2⟩, rfl⟩
              have HB2 := hid (bstep HB.out hB2)
              clear hB2 j2 j3 jx
              go_wp2
              go_roundw
              case rel => exact ⟨k + 1, by omega, by go_num, Hwt2.out, HB2.out⟩
              case measure => simp [intOf]; omega
        · obtain rfl : k = 11 := by omega
          have hall := Hall.out
          rw [Htk.out] at hall
          have Hn := hid (Hwn.out hall)
          rw [hall, if_pos rfl] at HE
          clear hall hBk
          go_wp2
          go_loopw [8] (fun i wr => ∃ k : Nat, k ≤ 11 ∧ i = .int .i64 k ∧ allTo p k = true ∧ Below V.heap.size V wr) (fun i _ => 11 - (intOf i).toNat)
          case atStart => exact ⟨0, Nat.zero_le _, rfl, rfl, HB.out⟩
          case round =>
            obtain ⟨k, hk, rfl, hall, hBk⟩ := hrel
            obtain ⟨wk, rfl⟩ : ∃ wk : World, wk = wr := ⟨_, rfl⟩
            have HB := hid hBk; have Hall2 := hid hall
            by_cases hlt : k < 11
            · have hltI : (k : Int) < 11 := by omega
              have hcx := HX.out wk hBk k hlt
              have hnb := Hn.out k hlt
              have hal := Hal.out k
              have haf := Haf.out k hlt
              have hno := Hno.out k
              rw [Hall2.out, Bool.true_and] at hal
              obtain ⟨x, hxx⟩ := Int.eq_ofNat_of_zero_le hnb.1
              rw [hxx] at hcx hnb hno
              have j0 := fun s : Later wk => cstep (cstep K0.out hBk) s.h
              have j1 := fun s : Later wk => cstep (cstep K1.out hBk) s.h
              have j2 := fun s : Later wk => cstep (cstep K2.out hBk) s.h
              have j3 := fun s : Later wk => cstep (cstep K3.out hBk) s.h
              have jx := fun s : Later wk => cstep hcx s.h
              have HA1 := hid fun s : Later wk => HA.out x (by omega) ((k : Int) - 5) (by omega) s.w' (bstep hBk s.h)
              have hno2 : p k = !agB B R ((k : Int) - 5) x := hno
              obtain ⟨v, hv⟩ : ∃ v, v = agB B R ((k : Int) - 5) x := ⟨_, rfl⟩
              rw [← hv] at hno2 HA1
              have e1 : IntKind.i64.wrap ((k : Int) + 1) = (k : Int) + 1 := wrap_i64_of (by omega) (by omega)
              have e2 : IntKind.i64.wrap ((k : Int) - 5) = (k : Int) - 5 := wrap_i64_of (by omega) (by omega)
              clear hBk hall hxx hcx hv hno hnb
              cases v with
              | true =>
                rw [haf hno2, if_neg (by simp)] at HE
                clear hal haf hno2
                go_upto_region 13 with (fail)
                refine wp_region_later (by kernel_rfl) (by kernel_rfl) ?_
                repeat (go_big_quiet_step ((go_at_call 92; exact callsLater (HA1.out _))))
                refine wpQuiet_nil ?_
                rintro w2 ⟨⟨_, hB2⟩, rfl⟩
                have HB2 := hid (bstep HB.out hB2)
                clear hB2 j0 j1 j2 j3 jx
                go_wp2
                go_ret
                exact ⟨ret_int (by rw [HE.out]), bstep HB0.out HB2.out⟩
              | false =>
                rw [hno2] at hal
                have Hal2 := hid hal
                clear hal haf hno2
                go_upto_region 13 with (fail)
                refine wp_region_later (by kernel_rfl) (by kernel_rfl) ?_
                repeat (go_big_quiet_step ((go_at_call 92; exact callsLater (HA1.out _))))
                refine wpQuiet_nil ?_
                rintro w2 ⟨⟨_, hB2⟩, rfl⟩
                have HB2 := hid (bstep HB.out hB2)
                clear hB2 j0 j1 j2 j3 jx
                go_wp2
                go_roundw
                case rel => exact ⟨k + 1, by omega, by go_num, Hal2.out, HB2.out⟩
                case measure => simp [intOf]; omega
            · obtain rfl : k = 11 := by omega
              have hall := Hall2.out
              rw [hall, if_pos rfl] at HE
              clear hall hBk
              go_wp2
              go_ret
              exact ⟨ret_int (by rw [HE.out]), bstep HB0.out HB.out⟩
end

end Go.Proofs.Ytnnojhpioenhbaa
