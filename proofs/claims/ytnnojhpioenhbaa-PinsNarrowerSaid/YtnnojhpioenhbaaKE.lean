/- Walks of the reference: Power, Least. Walk of the reference: Rows. Walks of the reference: WaysOf, Ways, PayOf, Pay. Walks of the reference: FallsOf, Falls, from. -/
import Derived.Test.YtnnojhpioenhbaaKD
namespace Go.Proofs.Ytnnojhpioenhbaa
open Go.RowKit Go.Shelf

theorem pow_big {r : Nat} (h : r ≤ 18) : (10 : Int) ^ r ≤ 1000000000000000000 := by
  have : ∀ k : Fin 19, (10 : Int) ^ (k : Nat) ≤ 1000000000000000000 := by decide
  exact this ⟨r, by omega⟩

set_option maxRecDepth 100000 in
theorem power_c (n : Nat) (w : World) (hn : n ≤ 18) : Calls Try.prog 54 #[.int .i64 n] w fun e w' => e = .returned (.int .i64 (10 ^ n)) ∧ w = w' := by
  go_enter Try.func54, Try.ntmps54
  go_wp2
  go_loopw [3, 4] (fun d i wr => ∃ k : Nat, k ≤ n ∧ i = .int .i64 k ∧ d = .int .i64 (10 ^ k) ∧ wr = w) (fun _ i _ => n - (intOf i).toNat)
  case atStart => exact ⟨0, Nat.zero_le _, rfl, rfl, rfl⟩
  case round =>
    obtain ⟨k, hk, rfl, rfl, rfl⟩ := hrel
    by_cases hlt : k < n
    · have h10 := pow_big (r := k + 1) (by omega)
      have h11 : (10 : Int) ^ (k + 1) = 10 * 10 ^ k := by rw [Int.pow_succ, Int.mul_comm]
      have h12 : (0 : Int) < 10 ^ k := Int.pow_pos (by omega)
      obtain ⟨D, hD⟩ : ∃ D, D = (10 : Int) ^ k := ⟨_, rfl⟩
      rw [← hD] at h11 h12 ⊢
      rw [h11] at h10
      have e1 : IntKind.i64.wrap (10 * D) = 10 * D := wrap_i64_of (by omega) (by omega)
      have H11 := hid h11
      clear h10 h11 h12 hD
      go_wp2
      go_roundw
      case rel => exact ⟨k + 1, by omega, by go_num, by rw [H11.out], trivial⟩
      case measure => simp [intOf]; omega
    · obtain rfl : k = n := by omega
      go_wp2
      go_ret
      exact ⟨rfl, rfl⟩

set_option maxRecDepth 100000 in
set_option maxHeartbeats 1000000 in
theorem least_c (N D : Int) (w : World) (hN : 0 ≤ N) (hN1 : N ≤ 4000000000000000000) (hD : 0 < D) (hD1 : D ≤ 4000000000000000000) :
    Calls Try.prog 101 #[.int .i64 N, .int .i64 D] w fun e w' => e = .returned (.agg #[.int .i64 (lst N D).1, .int .i64 (lst N D).2]) ∧ Below w.heap.size w w' := by
  have HX0 := hid (bnew w (.cells #[.int .i64 0, .int .i64 0] 32))
  have HXz := hid (heap_alloc_new w (.cells #[.int .i64 0, .int .i64 0] 32))
  obtain ⟨Y, hY⟩ : ∃ Y, Y = w.alloc (.cells #[.int .i64 0, .int .i64 0] 32) := ⟨_, rfl⟩
  rw [← hY] at HX0 HXz
  have HY := hid hY
  clear hY
  go_enter Try.func101, Try.ntmps101
  go_upto_region 1 with (fail)
  rw [← HY.out]
  go_wp2
  go_loopw [5, 6] (fun x y wr => ∃ a b : Int, x = .int .i64 a ∧ y = .int .i64 b ∧ 0 ≤ a ∧ 0 ≤ b ∧ a ≤ 4000000000000000000 ∧ b ≤ 4000000000000000000 ∧ Int.gcd a b = Int.gcd N D ∧ ∃ m, wr = Y.drewN m) (fun _ y _ => (intOf y).toNat)
  case atStart => exact ⟨N, D, rfl, rfl, hN, by omega, hN1, hD1, rfl, 0, rfl⟩
  case round =>
    obtain ⟨a, b, rfl, rfl, ha, hb, ha1, hb1, hgc, m, rfl⟩ := hrel
    by_cases hb0 : 0 < b
    · obtain ⟨g1, g2, g3⟩ := gcd_step ha hb0
      have hne : ¬ b = 0 := by omega
      have hd : decide (b = 0) = false := decide_eq_false hne
      obtain ⟨q, hq⟩ : ∃ q, q = a.tmod b := ⟨_, rfl⟩
      rw [← hq] at g1 g2 g3
      have hqs := hq.symm
      have Hg := hid (g1.trans hgc); have Hb := hid (show 0 ≤ b ∧ b ≤ 4000000000000000000 ∧ 0 ≤ q ∧ q < b from ⟨hb, hb1, g2, g3⟩)
      clear hq g1 g2 g3 hgc ha hb ha1 hb1 hN hN1 hD hD1
      go_upto_region 3 with (fail)
      go_region_held3 (fun _ => True) (trivial) (fail)
      all_goals (
        go_wp2
        go_roundw
        case rel => exact ⟨b, q, rfl, rfl, by have := Hb.out; omega, by have := Hb.out; omega, by have := Hb.out; omega, by have := Hb.out; omega, Hg.out, m + 1, rfl⟩
        case measure => have := Hb.out; simp [intOf]; omega)
    · obtain rfl : b = 0 := by omega
      rw [Int.gcd_zero_right] at hgc
      have haG : a = (Int.gcd N D : Int) := by omega
      have hGp : 0 < (Int.gcd N D : Int) := gcd_pos hD
      have hne : ¬ a = 0 := by omega
      have hd : decide (a = 0) = false := decide_eq_false hne
      have e1 : N.tdiv a = (lst N D).1 := by rw [Int.tdiv_eq_ediv_of_nonneg hN, haG]; rfl
      have e2 : D.tdiv a = (lst N D).2 := by rw [Int.tdiv_eq_ediv_of_nonneg (by omega), haG]; rfl
      obtain ⟨x, hx⟩ : ∃ x, x = (lst N D).1 := ⟨_, rfl⟩
      obtain ⟨y, hy⟩ : ∃ x, x = (lst N D).2 := ⟨_, rfl⟩
      rw [← hx] at e1; rw [← hy] at e2
      have Hx := hid hx; have Hy := hid hy
      have e3 : IntKind.i64.wrap x = x := by
        rw [← e1, Int.tdiv_eq_ediv_of_nonneg hN]
        exact wrap_i64_of (by have := Int.ediv_nonneg hN ha; omega) (by have := Int.ediv_le_self a hN; omega)
      have e4 : IntKind.i64.wrap y = y := by
        rw [← e2, Int.tdiv_eq_ediv_of_nonneg (by omega)]
        exact wrap_i64_of (by have := Int.ediv_nonneg (Int.le_of_lt hD) ha; omega) (by have := Int.ediv_le_self a (Int.le_of_lt hD); omega)
      have r0 : (Y.drewN m).cell? ⟨w.heap.size, 0, none⟩ = some (.int .i64 0) := by show Y.cell? _ = _; rw [cell_of_row _ _ _ _ _ _ HXz.out]; rfl
      have r1 : (Y.drewN m).cell? ⟨w.heap.size, 1, none⟩ = some (.int .i64 0) := by show Y.cell? _ = _; rw [cell_of_row _ _ _ _ _ _ HXz.out]; rfl
      have z0 : (Y.drewN m).frozen? ⟨w.heap.size, 0, none⟩ = false := frozen_of_row Y _ 0 _ _ HXz.out
      have z1 : (Y.drewN m).frozen? ⟨w.heap.size, 1, none⟩ = false := frozen_of_row Y _ 1 _ _ HXz.out
      clear hgc haG hGp hx hy ha hb ha1 hb1 hN hN1 hD hD1
      go_upto_region 4 with (fail)
      obtain ⟨Z, hZ⟩ : ∃ Z, Z = Y.drewN m := ⟨_, rfl⟩
      have HZ := hid hZ
      rw [← hZ] at r0 r1 z0 z1 ⊢
      clear hZ
      go_region_with (fail)
      all_goals (
        go_wp2
        have hfin : ((Z.setCell ⟨w.heap.size, 0, none⟩ (.int .i64 x)).setCell ⟨w.heap.size, 1, none⟩ (.int .i64 y)).drew.heap[w.heap.size]? = some (.cells #[.int .i64 x, .int .i64 y] 32 (0, 0)) := by
          have h0 : Z.heap[w.heap.size]? = some (.cells #[.int .i64 0, .int .i64 0] 32 (0, 0)) := by rw [HZ.out]; exact HXz.out
          exact heap_setCell_same _ _ 1 #[.int .i64 x, .int .i64 0] 32 _ (heap_setCell_same _ _ 0 _ 32 _ h0)
        refine bodyPost_ret (results_cell_row rfl _ _ w.heap.size 32 _ (0, 0) _ rfl hfin Try.underlying32 rfl (by kernel_rfl)) rfl ?_
        refine ⟨by rw [Hx.out, Hy.out], ?_⟩
        have hB9 : Below w.heap.size w Z := by rw [HZ.out]; exact bstep HX0.out (below_drawN _ Y m)
        exact Below.drew (Below.setCell (p := ⟨w.heap.size, 1, none⟩) (Below.setCell (p := ⟨w.heap.size, 0, none⟩) hB9 (Nat.le_refl _) _) (Nat.le_refl _) _))

end Go.Proofs.Ytnnojhpioenhbaa

namespace Go.Proofs.Ytnnojhpioenhbaa
open Go.RowKit Go.Shelf

def rowW (G : Nat → Nat → Int) (r : Nat) : List Int := (List.range (r + 1)).map (W G r)
def rowsL (G : Nat → Nat → Int) (r : Nat) : List (List Int) := (List.range (r + 1)).map (rowW G)
theorem rowW_len (G : Nat → Nat → Int) (r : Nat) : (rowW G r).length = r + 1 := by simp [rowW]
theorem rowW_nth (G : Nat → Nat → Int) {r k : Nat} (hk : k ≤ r) : nth (rowW G r) k = W G r k := by
  rw [nth_eq (by rw [rowW_len]; omega)]; simp [rowW]
theorem rowsL_len (G : Nat → Nat → Int) (r : Nat) : (rowsL G r).length = r + 1 := by simp [rowsL]
theorem rowsL_nth (G : Nat → Nat → Int) {r j : Nat} (hj : j ≤ r) : nthL (rowsL G r) j = rowW G j := by
  rw [nthL_eq (by rw [rowsL_len]; omega)]; simp [rowsL]
theorem rowsL_succ (G : Nat → Nat → Int) (r : Nat) : rowsL G (r + 1) = rowsL G r ++ [rowW G (r + 1)] := by
  unfold rowsL; rw [List.range_succ, List.map_append]; rfl
def nxK (G : Nat → Nat → Int) (r k : Nat) : List Int := (List.range (r + 2)).map fun j => if j < k then W G (r + 1) j else if j = k then oldV G r k else 0
theorem nxK_len (G : Nat → Nat → Int) (r k : Nat) : (nxK G r k).length = r + 2 := by simp [nxK]
theorem nxK_nth (G : Nat → Nat → Int) {r k j : Nat} (hj : j < r + 2) : nth (nxK G r k) j = if j < k then W G (r + 1) j else if j = k then oldV G r k else 0 := by
  rw [nth_eq (by rw [nxK_len]; omega)]; simp [nxK]
theorem nxK_zero (G : Nat → Nat → Int) (r : Nat) : nxK G r 0 = List.replicate (r + 2) 0 := by
  unfold nxK; rw [List.eq_replicate_iff]
  refine ⟨by simp, fun x hx => ?_⟩
  obtain ⟨j, _, rfl⟩ := List.mem_map.1 hx
  rw [if_neg (by omega)]; split <;> simp [oldV]
theorem nxK_end (G : Nat → Nat → Int) (r : Nat) : nxK G r (r + 1) = rowW G (r + 1) := by
  unfold nxK rowW
  refine List.map_congr_left fun j hj => ?_
  have := List.mem_range.1 hj
  by_cases h : j < r + 1
  · rw [if_pos h]
  · obtain rfl : j = r + 1 := by omega
    rw [if_neg h, if_pos rfl]
    simp only [oldV, W, Nat.add_sub_cancel]
    rw [if_pos (by omega), W_far G r (r + 1) (by omega)]; simp
theorem nxK_step (G : Nat → Nat → Int) (r k : Nat) : nxK G r (k + 1) = ((nxK G r k).set k (W G (r + 1) k)).set (k + 1) (W G r k * G r k) := by
  apply List.ext_getElem (by simp [nxK])
  intro i h1 h2
  rw [List.getElem_set, List.getElem_set]
  simp only [nxK, List.getElem_map, List.getElem_range]
  by_cases e : k + 1 = i
  · subst e; rw [if_neg (by omega), if_pos rfl, if_pos rfl]; simp [oldV]
  · rw [if_neg e]
    by_cases e2 : k = i
    · subst e2; rw [if_pos (by omega), if_pos rfl]
    · rw [if_neg e2]
      by_cases h : i < k
      · rw [if_pos h, if_pos (by omega)]
      · rw [if_neg h, if_neg (by omega), if_neg (by omega), if_neg (by omega)]

theorem OwnR.old {er ee B : Nat} {w w' : World} {ao : Option Addr} {n cap : Nat} {ls : List (List Int)} {vs : List Value} (h : OwnR er ee B w ao n cap ls vs) (hk : ∀ k, k < w.heap.size → w'.heap[k]? = w.heap[k]?) : OwnR er ee B w' ao n cap ls vs :=
  h.keptIf fun g _ _ _ _ hh => hk g (Array.getElem?_eq_some_iff.1 hh).1

set_option maxRecDepth 100000 in
set_option maxHeartbeats 4000000 in
theorem rows_c (pa : Option Addr) (pc : Nat) (ya : Option Addr) (yc : Nat) (B : Bd) (lv : Int) (w : World) (hb : BdAt w pa ya B) (hB : Bok B) (hlv : -5 ≤ lv ∧ lv ≤ 5) :
    Calls Try.prog 104 #[.agg #[.slice pa B.pins.length pc, .slice ya B.pays.length yc], .int .i64 lv] w fun e w' => ∃ ao cap vs, e = .returned (.slice ao (B.pins.length + 1) cap) ∧ OwnR 23 2 w.heap.size w' ao (B.pins.length + 1) cap (rowsL (Rt B lv) B.pins.length) vs ∧ Below w.heap.size w w' := by
  have HR := hid fun (w' : World) (h : Below w.heap.size w w') (r k : Nat) (hr : r < B.pins.length) (hk : k ≤ r) => rRight_c pa pc ya yc B lv r k w' (hb.mono h) hB hlv hr hk
  have hn8 := hB.n8
  have HG := hid fun n => Rt_ok B lv n
  obtain ⟨G, hG⟩ : ∃ G, G = Rt B lv := ⟨_, rfl⟩
  rw [← hG] at HR HG ⊢
  have HB0 := hid (bnew w (.cells #[.slice pa B.pins.length pc, .slice ya B.pays.length yc] 25))
  obtain ⟨W0, hW0⟩ : ∃ W, W = ((w.alloc (.cells #[.slice pa B.pins.length pc, .slice ya B.pays.length yc] 25)).alloc (.cells #[.int .i64 1] 2)).alloc (.cells #[.slice (some ⟨w.heap.size + 1, 0, none⟩) 1 1] 23) := ⟨_, rfl⟩
  have hBW : Below w.heap.size w W0 := by rw [hW0]; exact bstep (bstep (bnew w _) (bnew _ _)) (bnew _ _)
  have k0 : W0.cell? ⟨w.heap.size, 0, none⟩ = some (.slice pa B.pins.length pc) := by rw [hW0]; simp [go_sem]
  have k1 : W0.cell? ⟨w.heap.size, 1, none⟩ = some (.slice ya B.pays.length yc) := by rw [hW0]; simp [go_sem]
  have hr1 : W0.heap[w.heap.size + 1]? = some (.cells #[.int .i64 1] 2 (0, 0)) := by
    rw [hW0]
    have h := heap_alloc_new (w.alloc (.cells #[.slice pa B.pins.length pc, .slice ya B.pays.length yc] 25)) (.cells #[.int .i64 1] 2)
    rw [World.size_alloc] at h
    exact ((bnew _ _).block _ (by simp)).trans h
  have hr2 : W0.heap[w.heap.size + 1 + 1]? = some (.cells #[.slice (some ⟨w.heap.size + 1, 0, none⟩) 1 1] 23 (0, 0)) := by
    rw [hW0]
    have h := heap_alloc_new ((w.alloc (.cells #[.slice pa B.pins.length pc, .slice ya B.pays.length yc] 25)).alloc (.cells #[.int .i64 1] 2)) (.cells #[.slice (some ⟨w.heap.size + 1, 0, none⟩) 1 1] 23)
    rw [World.size_alloc, World.size_alloc] at h
    exact h
  have hown : OwnR 23 2 (w.heap.size + 1) W0 (some ⟨w.heap.size + 1 + 1, 0, none⟩) 1 1 (rowsL G 0) [.slice (some ⟨w.heap.size + 1, 0, none⟩) 1 1] :=
    ⟨⟨rfl, .inr ⟨_, 1, _, rfl, by omega, hr2, Nat.le_refl _, by unfold maxLen; omega, rfl, rfl⟩⟩, rfl, fun j hj => by
      obtain rfl : j = 0 := by omega
      refine ⟨some ⟨w.heap.size + 1, 0, none⟩, 1, rfl, rfl, rfl, .inr ⟨_, 1, _, rfl, by omega, hr1, Nat.le_refl _, by unfold maxLen; omega, rfl, ?_⟩⟩
      simp [rowsL, rowW, nthL, intv, W]⟩
  have Hown := hid hown; have HBW := hid hBW; have HW0 := hid hW0; have K0 := hid k0; have K1 := hid k1
  clear hG hb hB hlv hW0 hBW hr1 hr2 hown
  go_enter Try.func104, Try.ntmps104
  go_upto_region 2 with (fail)
  rw [← HW0.out]
  go_wp2
  go_loopw [5, 6, 7, 8, 9] (fun o i _ _ _ wr => ∃ (r : Nat) (ao : Option Addr) (cap : Nat) (vs : List Value), r ≤ B.pins.length ∧ i = .int .i64 r ∧ o = .slice ao (r + 1) cap ∧ OwnR 23 2 (w.heap.size + 1) wr ao (r + 1) cap (rowsL G r) vs ∧ Below w.heap.size w wr ∧
    wr.cell? ⟨w.heap.size, 0, none⟩ = some (.slice pa B.pins.length pc) ∧ wr.cell? ⟨w.heap.size, 1, none⟩ = some (.slice ya B.pays.length yc)) (fun _ i _ _ _ _ => B.pins.length - (intOf i).toNat)
  case atStart => exact ⟨0, _, _, _, Nat.zero_le _, rfl, rfl, Hown.out, HBW.out, K0.out, K1.out⟩
  case round =>
    obtain ⟨r, ao, cap, vs, hr, rfl, rfl, ho, hBr, k0, k1⟩ := hrel
    obtain ⟨wo, rfl⟩ : ∃ wo : World, wo = wr := ⟨_, rfl⟩
    have Ho := hid ho; have HBo := hid hBr
    clear ho hBr
    by_cases hlt : r < B.pins.length
    · have e1 : IntKind.i64.wrap ((r : Int) + 2) = (r : Int) + 2 := wrap_i64_of (by omega) (by omega)
      obtain ⟨N3, hN3⟩ : ∃ N1, N1 = (intv (List.replicate (r + 2) 0)).toArray := ⟨_, rfl⟩
      have hm3 : ∀ w' : World, (Instr.makeSlice 23 (.int .i64 ((r : Int) + 2)) (.int .i64 ((r : Int) + 2))).run Try.prog w' = .ok (.slice (some ⟨w'.heap.size, 0, none⟩) (r + 2) (r + 2)) (w'.alloc (.cells N3 2)) := fun w' => by
        have := run_make_ints et23 w' (r + 2) (r + 2) (Nat.le_refl _) (by omega)
        rw [← hN3] at this; exact this
      have hz3 := heap_alloc_new wo (.cells N3 2)
      have Hz3 := hid (show (wo.alloc (.cells N3 2)).heap[wo.heap.size]? = some (.cells (intv (nxK G r 0)).toArray 2 (0, 0)) by rw [hz3, hN3, nxK_zero])
      have HwL := hid (show w.heap.size < wo.heap.size from block_lt_of_cell k0)
      have K0 := hid k0; have K1 := hid k1
      clear hN3 hz3
      go_wp2
      go_loopw [8, 9] (fun i _ wr => ∃ k : Nat, k ≤ r + 1 ∧ i = .int .i64 k ∧ wr.heap[wo.heap.size]? = some (.cells (intv (nxK G r k)).toArray 2 (0, 0)) ∧ Only (fun b => b = wo.heap.size) (wo.alloc (.cells N3 2)) wr) (fun i _ _ => r + 1 - (intOf i).toNat)
      case atStart => exact ⟨0, Nat.zero_le _, rfl, Hz3.out, Only.refl _ _⟩
      case round =>
        obtain ⟨k, hk, rfl, hh, hO⟩ := hrel
        obtain ⟨wi, rfl⟩ : ∃ wi : World, wi = wr := ⟨_, rfl⟩
        have hBo : Below wo.heap.size wo wi := (bnew wo (.cells N3 2)).trans (hO.below (by simp) (by intro j hj e; have e' : j = wo.heap.size := e; omega))
        have HBi := hid (bstep HBo.out hBo)
        have Hoi := hid (Ho.out.old (w' := wi) fun j hj => hBo.block j hj)
        have k0 := cstep K0.out hBo; have k1 := cstep K1.out hBo
        have Hh := hid hh; have HO := hid hO; have HBoi := hid hBo
        have hrbL := (Array.getElem?_eq_some_iff.1 hh).1
        clear hh hO hBo
        by_cases hkr : k < r + 1
        · have hkI : (k : Int) ≤ (r : Int) := by omega
          have HRk := hid (HR.out wi HBi.out r k hlt (by omega))
          have hq := HG.out (r + 1) r k (by omega) (by omega)
          have hold := oldV_add G r k
          have ha0 := W_nonneg (HG.out r) k
          have ha1 := Int.le_trans (W_le (HG.out r) k) (ten_le (by omega))
          have hn0 := W_nonneg (HG.out (r + 1)) k
          have hn1 := Int.le_trans (W_le (HG.out (r + 1)) k) (ten_le (by omega))
          have hst := nxK_step G r k
          obtain ⟨ra, rc, hv, hrow⟩ := Hoi.out.row r (by omega)
          rw [rowsL_nth G (Nat.le_refl r)] at hv hrow
          rw [rowW_len] at hv
          obtain ⟨ob, oo, rfl, hcells⟩ : ∃ b off, ao = some ⟨b, off, none⟩ ∧ ∀ j v, vs[j]? = some v → wi.cell? ⟨b, off + j, none⟩ = some v := by
            rcases Hoi.out.own.at with h | h
            · rw [h] at hv; cases hv
            · exact h
          have c1 := hcells r _ hv
          obtain ⟨rb, ro, rfl, c2⟩ := hrow.at.at (k := k) (by rw [rowW_len]; omega)
          rw [rowW_nth G (by omega)] at c2
          have c3 : wi.cell? ⟨wo.heap.size, k, none⟩ = some (.int .i64 (oldV G r k)) := by
            rw [cell_of_row _ _ _ _ _ _ Hh.out, List.getElem?_toArray, intv_get, if_pos (by rw [nxK_len]; omega), nxK_nth G (by omega), if_neg (by omega), if_pos rfl]
          have c4 : wi.cell? ⟨wo.heap.size, k + 1, none⟩ = some (.int .i64 0) := by
            rw [cell_of_row _ _ _ _ _ _ Hh.out, List.getElem?_toArray, intv_get, if_pos (by rw [nxK_len]; omega), nxK_nth G (by omega), if_neg (by omega), if_neg (by omega)]
          have f3 : wi.frozen? ⟨wo.heap.size, k, none⟩ = false := frozen_of_row _ _ _ _ _ Hh.out
          have f4 : wi.frozen? ⟨wo.heap.size, k + 1, none⟩ = false := frozen_of_row _ _ _ _ _ Hh.out
          have hob : ¬ ob = wo.heap.size := by
            have := (Ho.out.own.at).resolve_left (by intro h; rw [h] at hv; cases hv)
            obtain ⟨b, off, e, hc⟩ := this
            cases e
            have := block_lt_of_cell (hc r _ hv)
            simp at this; omega
          have hrb : ¬ rb = wo.heap.size := by
            obtain ⟨ra2, rc2, hv2, hrow2⟩ := Ho.out.row r (by omega)
            rw [rowsL_nth G (Nat.le_refl r)] at hv2 hrow2
            rw [rowW_len] at hv2
            rw [hv] at hv2
            cases hv2
            obtain ⟨b, off, e, hc⟩ := hrow2.at.at (k := k) (by rw [rowW_len]; omega)
            cases e
            have := block_lt_of_cell hc
            simp at this; omega
          obtain ⟨q, hqq⟩ : ∃ q, q = G r k := ⟨_, rfl⟩
          obtain ⟨a, haa⟩ : ∃ q, q = W G r k := ⟨_, rfl⟩
          obtain ⟨o, hoo⟩ : ∃ q, q = oldV G r k := ⟨_, rfl⟩
          obtain ⟨nv, hnv⟩ : ∃ q, q = W G (r + 1) k := ⟨_, rfl⟩
          rw [← hqq, ← haa, ← hoo, ← hnv] at hold
          rw [← hqq] at HRk hq hst
          rw [← haa] at ha0 ha1 hst c2
          rw [← hoo] at c3
          rw [← hnv] at hn0 hn1 hst
          have hp1 := Int.mul_nonneg ha0 (show (0 : Int) ≤ 10 - q by omega)
          have hp2 := Int.mul_nonneg ha0 hq.1
          have hp3 : a * (10 - q) + a * q = 10 * a := by grind
          have e2 : IntKind.i64.wrap (10 - q) = 10 - q := wrap_i64_of (by omega) (by omega)
          have e3 : IntKind.i64.wrap (a * (10 - q)) = a * (10 - q) := wrap_i64_of (by omega) (by omega)
          have e4 : IntKind.i64.wrap (o + a * (10 - q)) = nv := by rw [hold]; exact wrap_i64_of (by omega) (by omega)
          have e5 : IntKind.i64.wrap (a * q) = a * q := wrap_i64_of (by omega) (by omega)
          have e6 : IntKind.i64.wrap ((k : Int) + 1) = (k : Int) + 1 := wrap_i64_of (by omega) (by omega)
          have hk2 : (k : Int) + 1 < (r : Int) + 2 := by omega
          have hk3 : (k : Int) < (r : Int) + 2 := by omega
          have hk4 : (0 : Int) ≤ (k : Int) + 1 := by omega
          have hk5 : ((k : Int) + 1).toNat = k + 1 := by omega
          have hk6 : (k : Int) < (r : Int) + 1 := by omega
          have hk7 : (r : Int) < (r : Int) + 1 := by omega
          have Hst := hid hst
          clear hst hold hqq haa hoo hnv ha0 ha1 hn0 hn1 hp1 hp2 hp3 hq hv hrow hcells
          go_wp2_with fail
          refine HRk.out.mono ?_
          rintro e w2 ⟨rfl, hB2⟩
          have c1 := cstep c1 hB2; have c2 := cstep c2 hB2; have c3 := cstep c3 hB2; have c4 := cstep c4 hB2
          have Hh2 := hid ((hB2.block _ hrbL).trans Hh.out)
          have f3 : w2.frozen? ⟨wo.heap.size, k, none⟩ = false := frozen_of_row _ _ _ _ _ Hh2.out
          have HO2 := hid (HO.out.trans (Only.of_below (S := fun b => b = wo.heap.size) hB2))
          clear hB2 f4 k0 k1
          go_upto_region 10 with (fail)
          go_cut [] from 32 to 47 (fun wc => wc = (w2.setCell ⟨wo.heap.size, k, none⟩ (.int .i64 nv)).drew)
          case first =>
            go_region_with (fail)
            all_goals (
              go_wp2
              go_meet
              rfl)
          have hO3 : Only (fun b => b = wo.heap.size) w2 wc := by rw [hcut]; exact (setCell_only (w := w2) wo.heap.size k _).drew
          have hX8 : wc.heap[wo.heap.size]? = some (.cells (intv ((nxK G r k).set k nv)).toArray 2 (0, 0)) := by
            rw [hcut]; exact (heap_setCell_same w2 _ k _ 2 _ Hh2.out).trans (by rw [intv_set])
          have c1 := hO3.cell c1 hob
          have c2 := hO3.cell c2 hrb
          have c4 : wc.cell? ⟨wo.heap.size, k + 1, none⟩ = some (.int .i64 0) := by
            rw [cell_of_row _ _ _ _ _ _ hX8, List.getElem?_toArray, intv_get, if_pos (by rw [List.length_set, nxK_len]; omega)]
            congr 2
            have := nxK_nth G (r := r) (k := k) (j := k + 1) (by omega)
            rw [if_neg (by omega), if_neg (by omega)] at this
            rw [← this]; unfold nth; rw [List.getD, List.getD, List.getElem?_set_ne (by omega)]
          have f4 : wc.frozen? ⟨wo.heap.size, k + 1, none⟩ = false := frozen_of_row _ _ _ _ _ hX8
          have HX8 := hid hX8; have HO3 := hid (HO2.out.trans hO3)
          clear hX8 hO3 hcut c3 f3
          go_upto_region 11 with (fail)
          go_region_with (fail)
          all_goals (
            go_wp2
            go_roundw
            case rel => exact ⟨k + 1, by omega, by go_num, (heap_setCell_same wc _ (k + 1) _ 2 _ HX8.out).trans (by rw [intv_set, Hst.out]), (HO3.out.trans (setCell_only (w := wc) wo.heap.size (k + 1) _)).drew⟩
            case measure => simp [intOf]; omega)
        · obtain rfl : k = r + 1 := by omega
          have hkI : ¬ (((r + 1 : Nat) : Int) ≤ (r : Int)) := by omega
          have hrow := Hh.out
          rw [nxK_end] at hrow
          have hnx : OwnI 2 (w.heap.size + 1) wi (some ⟨wo.heap.size, 0, none⟩) (r + 2) (r + 2) (rowW G (r + 1)) :=
            ⟨rowW_len G (r + 1), by simp [intv_length, rowW_len], .inr ⟨wo.heap.size, r + 2, _, rfl, by have := HwL.out; omega, hrow, Nat.le_refl _, by unfold maxLen; omega, by simp [intv_length, rowW_len], by rw [Nat.mul_one]; exact List.take_of_length_le (by simp [intv_length, rowW_len])⟩⟩
          obtain ⟨L, hL⟩ : ∃ L, L = wi.alloc (.cells #[.slice (some ⟨wo.heap.size, 0, none⟩) (r + 2) (r + 2)] 23) := ⟨_, rfl⟩
          have hBL : Below wi.heap.size wi L := by rw [hL]; exact bnew _ _
          have hoL := Hoi.out.kept hBL
          have hnL := hnx.kept hBL
          have hcL : L.cell? ⟨wi.heap.size, 0, none⟩ = some (.slice (some ⟨wo.heap.size, 0, none⟩) (r + 2) (r + 2)) := by rw [hL]; simp [go_sem]
          have hsz : w.heap.size + 1 ≤ L.heap.size := by have := hBL.size; have := HwL.out; have := HBoi.out.size; omega
          have HoL := hid hoL; have HnL := hid hnL; have HL := hid hL; have HBL := hid (bstep HBi.out hBL)
          have Hk0 := hid (cstep k0 hBL); have Hk1 := hid (cstep k1 hBL)
          have Hsu := hid (rowsL_succ G r)
          clear hrow hnx hBL hoL hnL hL
          go_wp2_with (at_builtin; rw [← HL.out]; refine wpList_appV et35 _ rfl _ _ rfl (w.heap.size + 1) ao (r + 1) cap vs rfl HoL.out.own (some ⟨wi.heap.size, 0, none⟩) 1 1 [.slice (some ⟨wo.heap.size, 0, none⟩) (r + 2) (r + 2)] rfl (cellsAt_one rfl hcL) rfl ?c1 ?c2 ?c3 hsz ?_; rotate_right; (intro ao' cap' w' hB' hown' hgr' hn'; refine Hid.out ?_))
          case c1 => rfl
          case c3 => omega
          refine hid ?_
          have Hnew := hid (OwnR.app HoL.out (by decide) hgr' HnL.out hown')
          have HBn := hid (HBL.out.trans (hB'.mono (Nat.le_succ _)))
          have k0 : w'.cell? ⟨w.heap.size, 0, none⟩ = some (.slice pa B.pins.length pc) := (hB'.cell (p := ⟨w.heap.size, 0, none⟩) (Nat.lt_succ_self _)).trans Hk0.out
          have k1 : w'.cell? ⟨w.heap.size, 1, none⟩ = some (.slice ya B.pays.length yc) := (hB'.cell (p := ⟨w.heap.size, 1, none⟩) (Nat.lt_succ_self _)).trans Hk1.out
          have e7 : IntKind.i64.wrap ((r : Int) + 1) = (r : Int) + 1 := wrap_i64_of (by omega) (by omega)
          clear hB' hown' hgr' hn'
          go_wp2
          go_roundw
          case rel => exact ⟨r + 1, ao', cap', _, by omega, by go_num, rfl, by rw [Hsu.out]; exact Hnew.out, HBn.out, k0, k1⟩
          case measure => simp [intOf]; omega
    · obtain rfl : r = B.pins.length := by omega
      go_wp2
      go_ret
      exact ⟨ao, cap, vs, rfl, Ho.out.base (Nat.le_succ _), HBo.out⟩

end Go.Proofs.Ytnnojhpioenhbaa

namespace Go.Proofs.Ytnnojhpioenhbaa
open Go.RowKit Go.Shelf

section
variable (pa : Option Addr) (pc : Nat) (ya : Option Addr) (yc : Nat) (B : Bd) (lv : Int) (w : World)
theorem rowsLast_c (hb : BdAt w pa ya B) (hB : Bok B) (hlv : -5 ≤ lv ∧ lv ≤ 5) :
    Calls Try.prog 104 #[.agg #[.slice pa B.pins.length pc, .slice ya B.pays.length yc], .int .i64 lv] w fun e w' => ∃ ob oo cap ra rc, e = .returned (.slice (some ⟨ob, oo, none⟩) (B.pins.length + 1) cap) ∧ w'.cell? ⟨ob, oo + B.pins.length, none⟩ = some (.slice ra (B.pins.length + 1) rc) ∧
      IntsAt w' ra (rowW (Rt B lv) B.pins.length) ∧ (ra = none → rc = 0) ∧ Below w.heap.size w w' := by
  refine (rows_c pa pc ya yc B lv w hb hB hlv).mono ?_
  rintro e w' ⟨ao, cap, vs, rfl, ho, hBw⟩
  obtain ⟨ra, rc, hv, hrow⟩ := ho.row B.pins.length (by omega)
  rw [rowsL_nth _ (Nat.le_refl _)] at hv hrow
  rw [rowW_len] at hv
  rcases ho.own.at with h | ⟨b, off, rfl, hc⟩
  · rw [h] at hv; cases hv
  · exact ⟨b, off, cap, ra, rc, rfl, hc _ _ hv, hrow.at, fun h => (hrow.none h).2, hBw⟩

/-- a list -/
def ListR (w : World) (xs : List Int) (e : Ending) (w' : World) : Prop := ∃ ao cap, e = .returned (.slice ao xs.length cap) ∧ IntsAt w' ao xs ∧ (ao = none → cap = 0) ∧ Below w.heap.size w w'

set_option maxRecDepth 100000 in
set_option maxHeartbeats 1000000 in
theorem waysOf_c (hb : BdAt w pa ya B) (hB : Bok B) (hlv : -5 ≤ lv ∧ lv ≤ 5) :
    Calls Try.prog 69 #[.agg #[.slice pa B.pins.length pc, .slice ya B.pays.length yc], .int .i64 lv] w (ListR w (rowW (Rt B lv) B.pins.length)) := by
  have HB0 := hid (bnew w (.cells #[.slice pa B.pins.length pc, .slice ya B.pays.length yc] 25))
  obtain ⟨W, hW⟩ : ∃ W, W = w.alloc (.cells #[.slice pa B.pins.length pc, .slice ya B.pays.length yc] 25) := ⟨_, rfl⟩
  have hbW := hb.mono HB0.out
  rw [← hW] at hbW HB0
  have k0 : W.cell? ⟨w.heap.size, 0, none⟩ = some (.slice pa B.pins.length pc) := by rw [hW]; simp [go_sem]
  have k1 : W.cell? ⟨w.heap.size, 1, none⟩ = some (.slice ya B.pays.length yc) := by rw [hW]; simp [go_sem]
  have HW := hid hW
  have HC := hid (fun (w' : World) (h : Below W.heap.size W w') => rowsLast_c pa pc ya yc B lv w' (hbW.mono h) hB hlv)
  have Hlen := hid (rowW_len (Rt B lv) B.pins.length)
  have hnI : (B.pins.length : Int) < (B.pins.length : Int) + 1 := by omega
  unfold ListR
  obtain ⟨ws, hws⟩ : ∃ ws, ws = rowW (Rt B lv) B.pins.length := ⟨_, rfl⟩
  rw [← hws] at HC Hlen ⊢
  clear hW hbW hb hB hlv hws
  go_enter Try.func69, Try.ntmps69
  go_upto_region 1 with (fail)
  rw [← HW.out]
  go_region_with (go_at_call 104; refine (HC.out _ (show Below W.heap.size W W.drew from below_drawN _ W 1)).mono ?_; rintro e w1 ⟨ob, oo, cap, ra, rc, rfl, hc, hx, hn, hB1⟩; have k0 := cstep (w := W.drew) k0 hB1; have k1 := cstep (w := W.drew) k1 hB1)
  all_goals (
    go_wp2
    go_ret
    exact ⟨_, _, by rw [Hlen.out]; rfl, hx, hn, bstep HB0.out (bstep (show Below W.heap.size W W.drew from below_drawN _ W 1) hB1)⟩)
end

theorem wv_row (G : Nat → Nat → Int) {n : Nat} (hn : n ≤ 8) : (wv G n).take (n + 1) = rowW G n := by
  unfold wv rowW
  rw [← List.map_take, List.take_range, Nat.min_eq_left (by omega)]

set_option maxRecDepth 100000 in
set_option maxHeartbeats 1000000 in
theorem rWays_c (pa : Option Addr) (pc : Nat) (ya : Option Addr) (yc : Nat) (B : Bd) (lv : Int) (w : World) (hb : BdAt w pa ya B) (hl : B.pins.length ≤ 1000000) :
    Calls Try.prog 19 #[.agg #[.slice pa B.pins.length pc, .slice ya B.pays.length yc], .int .i64 lv] w (SliceE w (atErr B lv) (waysX B lv)) := by
  have HB0 := hid (bnew w (.cells #[.slice pa B.pins.length pc, .slice ya B.pays.length yc] 25))
  obtain ⟨W, hW⟩ : ∃ W, W = w.alloc (.cells #[.slice pa B.pins.length pc, .slice ya B.pays.length yc] 25) := ⟨_, rfl⟩
  have hbW := hb.mono HB0.out
  rw [← hW] at hbW HB0
  have k0 : W.cell? ⟨w.heap.size, 0, none⟩ = some (.slice pa B.pins.length pc) := by rw [hW]; simp [go_sem]
  have k1 : W.cell? ⟨w.heap.size, 1, none⟩ = some (.slice ya B.pays.length yc) := by rw [hW]; simp [go_sem]
  have HW := hid hW
  have HA := hid (fun (w' : World) (h : Below W.heap.size W w') => at_c pa pc ya yc B lv w' (hbW.mono h) hl)
  unfold SliceE
  unfold TellI at HA
  by_cases h0 : atErr B lv = 0
  · obtain ⟨hBk, hlv⟩ := atErr_zero.1 h0
    have hx : waysX B lv = rowW (Rt B lv) B.pins.length := by unfold waysX; rw [if_pos h0, wv_row _ hBk.n8]
    have HP := hid (fun (w' : World) (h : Below W.heap.size W w') => waysOf_c pa pc ya yc B lv w' (hbW.mono h) hBk hlv)
    unfold ListR at HP
    rw [h0] at HA
    rw [h0, hx]
    obtain ⟨ws, hws⟩ : ∃ ws, ws = rowW (Rt B lv) B.pins.length := ⟨_, rfl⟩
    rw [← hws] at HP ⊢
    clear hW hbW hb hl h0 hx hBk hlv hws
    go_enter Try.func19, Try.ntmps19
    go_upto_region 1 with (fail)
    rw [← HW.out]
    go_wp2_with fail
    refine (HA.out _ (Below.refl _ _)).mono ?_
    rintro e w1 ⟨rfl, hB⟩
    have HB1 := hid (bstep HB0.out hB); have HBW := hid hB
    have k0 := cstep k0 hB; have k1 := cstep k1 hB
    clear hB
    go_wp2_with fail
    refine (HP.out _ HBW.out).mono ?_
    rintro e w2 ⟨ao, cap, rfl, hx, hn, hB⟩
    have HB2 := hid (bstep HB1.out hB)
    clear hB
    go_wp2
    go_ret2
    exact ⟨ao, cap, rfl, hx, hn, HB2.out⟩
  · have hx : waysX B lv = [] := by unfold waysX; rw [if_neg h0]
    rw [hx]
    obtain ⟨v, hv⟩ : ∃ v, v = atErr B lv := ⟨_, rfl⟩
    rw [← hv] at HA h0 ⊢
    clear hW hbW hb hl hx hv
    go_enter Try.func19, Try.ntmps19
    go_upto_region 1 with (fail)
    rw [← HW.out]
    go_wp2_with fail
    refine (HA.out _ (Below.refl _ _)).mono ?_
    rintro e w1 ⟨rfl, hB⟩
    have HB1 := hid (bstep HB0.out hB); have HBW := hid hB
    have k0 := cstep k0 hB; have k1 := cstep k1 hB
    clear hB
    go_wp2_with fail
    refine (HA.out _ HBW.out).mono ?_
    rintro e w2 ⟨rfl, hB⟩
    have HB2 := hid (bstep HB1.out hB)
    clear hB
    go_wp2
    go_ret2
    exact ⟨none, 0, rfl, .inl rfl, fun _ => rfl, HB2.out⟩

set_option maxRecDepth 100000 in
set_option maxHeartbeats 4000000 in
theorem payOf_c (pa : Option Addr) (pc : Nat) (ya : Option Addr) (yc : Nat) (B : Bd) (lv : Int) (w : World) (hb : BdAt w pa ya B) (hB : Bok B) (hlv : -5 ≤ lv ∧ lv ≤ 5) :
    Calls Try.prog 71 #[.agg #[.slice pa B.pins.length pc, .slice ya B.pays.length yc], .int .i64 lv] w fun e w' => e = .returned (.agg #[.int .i64 (payQ B lv).1, .int .i64 (payQ B lv).2]) ∧ Below w.heap.size w w' := by
  have HB0 := hid (bstep (bnew w (.cells #[.slice pa B.pins.length pc, .slice ya B.pays.length yc] 25)) (bnew _ (.cells #[.int .i64 0, .int .i64 0] 32)))
  obtain ⟨V0, hW⟩ : ∃ V0, V0 = (w.alloc (.cells #[.slice pa B.pins.length pc, .slice ya B.pays.length yc] 25)).alloc (.cells #[.int .i64 0, .int .i64 0] 32) := ⟨_, rfl⟩
  have hbW := hb.mono HB0.out
  rw [← hW] at hbW HB0
  have k0 : V0.cell? ⟨w.heap.size, 0, none⟩ = some (.slice pa B.pins.length pc) := by rw [hW]; simp [go_sem]
  have k1 : V0.cell? ⟨w.heap.size, 1, none⟩ = some (.slice ya B.pays.length yc) := by rw [hW]; simp [go_sem]
  have hr : V0.heap[w.heap.size + 1]? = some (.cells #[.int .i64 0, .int .i64 0] 32 (0, 0)) := by
    rw [hW]; have h := heap_alloc_new (w.alloc (.cells #[.slice pa B.pins.length pc, .slice ya B.pays.length yc] 25)) (.cells #[.int .i64 0, .int .i64 0] 32); rw [World.size_alloc] at h; exact h
  have HW := hid hW; have Hr := hid hr
  have HP := hid (waysOf_c pa pc ya yc B lv V0 hbW hB hlv)
  unfold ListR at HP
  have hn8 := hB.n8
  have hpl := hB.pays
  have Hps := hid fun k => @paySum_le B hB lv k
  have HQ := hid (show payQ B lv = lst (payN B lv) (10 ^ B.pins.length) from rfl)
  have HN := hid (show payN B lv = sumTo (fun i => W (Rt B lv) B.pins.length i * nth B.pays i) (B.pins.length + 1) from rfl)
  have Hws := hid fun i (hi : i ≤ B.pins.length) => rowW_nth (Rt B lv) hi
  have Hwl := hid (rowW_len (Rt B lv) B.pins.length)
  have HPow := hid fun (w' : World) => power_c B.pins.length w' (by omega)
  have hN0 := Hps.out (B.pins.length + 1) (Nat.le_refl _)
  have ht := ten_le hn8
  have hD0 : (0 : Int) < 10 ^ B.pins.length := Int.pow_pos (by omega)
  rw [← HN.out] at hN0
  have HL := hid fun (w' : World) => least_c (payN B lv) (10 ^ B.pins.length) w' hN0.1 (by omega) hD0 (by omega)
  rw [← HQ.out] at HL
  obtain ⟨qa, hqa⟩ : ∃ q, q = (payQ B lv).1 := ⟨_, rfl⟩
  obtain ⟨qb, hqb⟩ : ∃ q, q = (payQ B lv).2 := ⟨_, rfl⟩
  rw [← hqa, ← hqb] at HL ⊢
  obtain ⟨D, hD⟩ : ∃ D, D = (10 : Int) ^ B.pins.length := ⟨_, rfl⟩
  rw [← hD] at HL HPow
  obtain ⟨yb, yo, rfl, _⟩ := hbW.2.at (k := 0) (by omega)
  have Hy := hid hbW.2
  have Hpl := hid hpl
  obtain ⟨ws, hws⟩ : ∃ ws, ws = rowW (Rt B lv) B.pins.length := ⟨_, rfl⟩
  rw [← hws] at HP Hws Hwl
  have htI := hid ht
  clear hW hr hbW hb hB hlv hws hqa hqb hD hN0 hD0 hpl ht
  go_enter Try.func71, Try.ntmps71
  go_upto_region 1 with (fail)
  rw [← HW.out]
  go_wp2_with fail
  refine HP.out.mono ?_
  rintro e w1 ⟨ao, cap, rfl, hx, hn, hB⟩
  have HB1 := hid (bstep HB0.out hB); have Hx := hid hx
  have Hr1 := hid ((hB.block _ (Array.getElem?_eq_some_iff.1 Hr.out).1).trans Hr.out)
  have k0 := cstep k0 hB; have k1 := cstep k1 hB
  have Hy1 := hid (Hy.out.mono hB)
  obtain ⟨xb, xo, rfl, _⟩ := hx.at (k := 0) (by rw [Hwl.out]; omega)
  have hl := Hwl.out
  rw [hl]
  clear hB hx hl
  go_wp2
  go_loopw [6, 7] (fun s i wr => ∃ k m : Nat, k ≤ B.pins.length + 1 ∧ i = .int .i64 k ∧ s = .int .i64 (sumTo (fun i => W (Rt B lv) B.pins.length i * nth B.pays i) k) ∧ wr = w1.drewN m) (fun _ i _ => B.pins.length + 1 - (intOf i).toNat)
  case atStart => exact ⟨0, 0, Nat.zero_le _, rfl, rfl, rfl⟩
  case round =>
    obtain ⟨k, m, hk, rfl, rfl, rfl⟩ := hrel
    have hpl := Hpl.out
    have ht := htI.out
    by_cases hlt : k < B.pins.length + 1
    · have hkI : (k : Int) < (B.pays.length : Int) := by omega
      have hkI2 : (k : Int) < (B.pins.length : Int) + 1 := by omega
      have hc : (w1.drewN m).cell? ⟨yb, yo + k, none⟩ = some (.int .i64 (nth B.pays k)) := Hy1.out.cell (k := k) (by omega)
      have hc9 : (w1.drewN m).cell? ⟨xb, xo + k, none⟩ = some (.int .i64 (W (Rt B lv) B.pins.length k)) := by
        have := Hx.out.cell (k := k) (by rw [Hwl.out]; omega)
        rw [Hws.out k (by omega)] at this; exact this
      have j1 : (w1.drewN m).cell? ⟨w.heap.size, 1, none⟩ = some (.slice (some ⟨yb, yo, none⟩) B.pays.length yc) := k1
      have hs1 := Hps.out k hk
      have hs2 := Hps.out (k + 1) (by omega)
      have hst : sumTo (fun i => W (Rt B lv) B.pins.length i * nth B.pays i) (k + 1) = sumTo (fun i => W (Rt B lv) B.pins.length i * nth B.pays i) k + W (Rt B lv) B.pins.length k * nth B.pays k := rfl
      obtain ⟨S, hS⟩ : ∃ S, S = sumTo (fun i => W (Rt B lv) B.pins.length i * nth B.pays i) k := ⟨_, rfl⟩
      obtain ⟨a, ha⟩ : ∃ S, S = W (Rt B lv) B.pins.length k := ⟨_, rfl⟩
      obtain ⟨p, hp⟩ : ∃ S, S = nth B.pays k := ⟨_, rfl⟩
      rw [← hS, ← ha, ← hp] at hst
      rw [hst] at hs2
      rw [← hS] at hs1 ⊢
      rw [← ha] at hc9
      rw [← hp] at hc
      have e1 : IntKind.i64.wrap (a * p) = a * p := wrap_i64_of (by omega) (by omega)
      have e2 : IntKind.i64.wrap (S + a * p) = S + a * p := wrap_i64_of (by omega) (by omega)
      have Hst := hid hst
      clear hs1 hs2 hst ht hS ha hp hpl k0 k1
      obtain ⟨Z, hZ⟩ : ∃ Z, Z = w1.drewN m := ⟨_, rfl⟩
      have HZ := hid hZ
      rw [← hZ] at hc hc9 j1 ⊢
      clear hZ
      go_upto_region 6 with (fail)
      go_region_held3 (fun w' => w'.cell? ⟨w.heap.size, 1, none⟩ = some (.slice (some ⟨yb, yo, none⟩) B.pays.length yc) ∧ w'.cell? ⟨yb, yo + k, none⟩ = some (.int .i64 p) ∧ w'.cell? ⟨xb, xo + k, none⟩ = some (.int .i64 a)) (first | exact ⟨j1, hc, hc9⟩ | go_keep) (fail)
      all_goals (
        go_wp2
        go_roundw
        case rel => exact ⟨k + 1, m + 1, by omega, by go_num, by rw [Hst.out], by rw [HZ.out]; rfl⟩
        case measure => simp [intOf]; omega)
    · obtain rfl : k = B.pins.length + 1 := by omega
      rw [← HN.out]
      have hkI : ¬ (((B.pins.length + 1 : Nat) : Int) < (B.pays.length : Int)) := by omega
      obtain ⟨Z, hZ⟩ : ∃ Z, Z = w1.drewN m := ⟨_, rfl⟩
      have j0 : Z.cell? ⟨w.heap.size, 0, none⟩ = some (.slice pa B.pins.length pc) := by rw [hZ]; exact k0
      have hrZ : Z.heap[w.heap.size + 1]? = some (.cells #[.int .i64 0, .int .i64 0] 32 (0, 0)) := by rw [hZ]; exact Hr1.out
      have hBZ : Below w.heap.size w Z := by rw [hZ]; exact bstep HB1.out (below_drawN _ w1 m)
      rw [← hZ]
      obtain ⟨N, hN⟩ : ∃ N, N = payN B lv := ⟨_, rfl⟩
      rw [← hN] at HL ⊢
      have HrZ := hid hrZ; have HBZ := hid hBZ
      clear hZ hrZ hBZ hN hpl ht k0 k1 hlt hk
      go_wp2_with fail
      refine (HPow.out _).mono ?_
      rintro e w2 ⟨rfl, rfl⟩
      go_wp2_with fail
      refine (HL.out _).mono ?_
      rintro e w3 ⟨rfl, hB⟩
      have HB3 := hid (bstep HBZ.out hB)
      have hr2 := (hB.block _ (Array.getElem?_eq_some_iff.1 HrZ.out).1).trans HrZ.out
      have r0 : w3.cell? ⟨w.heap.size + 1, 0, none⟩ = some (.int .i64 0) := by rw [cell_of_row _ _ _ _ _ _ hr2]; rfl
      have r1 : w3.cell? ⟨w.heap.size + 1, 1, none⟩ = some (.int .i64 0) := by rw [cell_of_row _ _ _ _ _ _ hr2]; rfl
      have z0 : w3.frozen? ⟨w.heap.size + 1, 0, none⟩ = false := frozen_of_row w3 _ 0 _ _ hr2
      have z1 : w3.frozen? ⟨w.heap.size + 1, 1, none⟩ = false := frozen_of_row w3 _ 1 _ _ hr2
      have Hfin := hid (heap_setCell_same _ _ 1 #[.int .i64 qa, .int .i64 0] 32 (.int .i64 qb) (heap_setCell_same _ _ 0 _ 32 (.int .i64 qa) hr2))
      clear hB hr2
      go_wp2
      refine bodyPost_ret (results_cell_row rfl _ _ (w.heap.size + 1) 32 _ (0, 0) _ rfl Hfin.out Try.underlying32 rfl (by kernel_rfl)) rfl ?_
      exact ⟨rfl, (HB3.out.setCell (p := ⟨w.heap.size + 1, 0, none⟩) (Nat.le_succ _) _).setCell (p := ⟨w.heap.size + 1, 1, none⟩) (Nat.le_succ _) _⟩

set_option maxRecDepth 100000 in
set_option maxHeartbeats 1000000 in
theorem rPay_c (pa : Option Addr) (pc : Nat) (ya : Option Addr) (yc : Nat) (B : Bd) (lv : Int) (w : World) (hb : BdAt w pa ya B) (hl : B.pins.length ≤ 1000000) :
    Calls Try.prog 21 #[.agg #[.slice pa B.pins.length pc, .slice ya B.pays.length yc], .int .i64 lv] w (QE w (atErr B lv) (payX B lv)) := by
  have HB0 := hid (bstep (bnew w (.cells #[.slice pa B.pins.length pc, .slice ya B.pays.length yc] 25)) (bnew _ (.cells #[.int .i64 0, .int .i64 0] 32)))
  obtain ⟨W, hW⟩ : ∃ W, W = (w.alloc (.cells #[.slice pa B.pins.length pc, .slice ya B.pays.length yc] 25)).alloc (.cells #[.int .i64 0, .int .i64 0] 32) := ⟨_, rfl⟩
  have hbW := hb.mono HB0.out
  rw [← hW] at hbW HB0
  have k0 : W.cell? ⟨w.heap.size, 0, none⟩ = some (.slice pa B.pins.length pc) := by rw [hW]; simp [go_sem]
  have k1 : W.cell? ⟨w.heap.size, 1, none⟩ = some (.slice ya B.pays.length yc) := by rw [hW]; simp [go_sem]
  have hr : W.heap[w.heap.size + 1]? = some (.cells #[.int .i64 0, .int .i64 0] 32 (0, 0)) := by
    rw [hW]; have h := heap_alloc_new (w.alloc (.cells #[.slice pa B.pins.length pc, .slice ya B.pays.length yc] 25)) (.cells #[.int .i64 0, .int .i64 0] 32); rw [World.size_alloc] at h; exact h
  have HW := hid hW; have Hr := hid hr
  have HA := hid (fun (w' : World) (h : Below W.heap.size W w') => at_c pa pc ya yc B lv w' (hbW.mono h) hl)
  unfold QE
  unfold TellI at HA
  by_cases h0 : atErr B lv = 0
  · have hx : payX B lv = payQ B lv := by unfold payX; rw [if_pos h0]
    obtain ⟨hBk, hlv⟩ := atErr_zero.1 h0
    have HP := hid (fun (w' : World) (h : Below W.heap.size W w') => payOf_c pa pc ya yc B lv w' (hbW.mono h) hBk hlv)
    rw [h0] at HA
    rw [h0, hx]
    obtain ⟨q, hq⟩ : ∃ q, q = payQ B lv := ⟨_, rfl⟩
    rw [← hq] at HP ⊢
    obtain ⟨a, c⟩ := q
    clear hW hr hbW hb hl h0 hx hBk hlv hq
    go_enter Try.func21, Try.ntmps21
    go_upto_region 1 with (fail)
    rw [← HW.out]
    go_wp2_with fail
    refine (HA.out _ (Below.refl _ _)).mono ?_
    rintro e w1 ⟨rfl, hB⟩
    have HB1 := hid (bstep HB0.out hB); have HBW := hid hB
    have Hr1 := hid ((hB.block _ (Array.getElem?_eq_some_iff.1 Hr.out).1).trans Hr.out)
    have k0 := cstep k0 hB; have k1 := cstep k1 hB
    clear hB
    go_wp2_with fail
    refine (HP.out _ HBW.out).mono ?_
    rintro e w3 ⟨rfl, hB⟩
    have HB3 := hid (bstep HB1.out hB)
    have hr2 := (hB.block _ (Array.getElem?_eq_some_iff.1 Hr1.out).1).trans Hr1.out
    have r0 : w3.cell? ⟨w.heap.size + 1, 0, none⟩ = some (.int .i64 0) := by rw [cell_of_row _ _ _ _ _ _ hr2]; rfl
    have r1 : w3.cell? ⟨w.heap.size + 1, 1, none⟩ = some (.int .i64 0) := by rw [cell_of_row _ _ _ _ _ _ hr2]; rfl
    have z0 : w3.frozen? ⟨w.heap.size + 1, 0, none⟩ = false := frozen_of_row w3 _ 0 _ _ hr2
    have z1 : w3.frozen? ⟨w.heap.size + 1, 1, none⟩ = false := frozen_of_row w3 _ 1 _ _ hr2
    have Hfin := hid (heap_setCell_same _ _ 1 #[.int .i64 a, .int .i64 0] 32 (.int .i64 c) (heap_setCell_same _ _ 0 _ 32 (.int .i64 a) hr2))
    clear hB hr2
    go_wp2
    refine bodyPost_ret (results_cell2 rfl _ _ (w.heap.size + 1) 32 _ _ (0, 0) rfl Hfin.out) rfl ?_
    exact ⟨rfl, (HB3.out.setCell (p := ⟨w.heap.size + 1, 0, none⟩) (Nat.le_succ _) _).setCell (p := ⟨w.heap.size + 1, 1, none⟩) (Nat.le_succ _) _⟩
  · have hx : payX B lv = (0, 0) := by unfold payX; rw [if_neg h0]
    rw [hx]
    obtain ⟨v, hv⟩ : ∃ v, v = atErr B lv := ⟨_, rfl⟩
    rw [← hv] at HA h0 ⊢
    clear hW hr hbW hb hl hx hv
    go_enter Try.func21, Try.ntmps21
    go_upto_region 1 with (fail)
    rw [← HW.out]
    go_wp2_with fail
    refine (HA.out _ (Below.refl _ _)).mono ?_
    rintro e w1 ⟨rfl, hB⟩
    have HB1 := hid (bstep HB0.out hB); have HBW := hid hB
    have Hr1 := hid ((hB.block _ (Array.getElem?_eq_some_iff.1 Hr.out).1).trans Hr.out)
    have k0 := cstep k0 hB; have k1 := cstep k1 hB
    clear hB
    go_wp2_with fail
    refine (HA.out _ HBW.out).mono ?_
    rintro e w3 ⟨rfl, hB⟩
    have HB3 := hid (bstep HB1.out hB)
    have hr2 := (hB.block _ (Array.getElem?_eq_some_iff.1 Hr1.out).1).trans Hr1.out
    have r0 : w3.cell? ⟨w.heap.size + 1, 0, none⟩ = some (.int .i64 0) := by rw [cell_of_row _ _ _ _ _ _ hr2]; rfl
    have r1 : w3.cell? ⟨w.heap.size + 1, 1, none⟩ = some (.int .i64 0) := by rw [cell_of_row _ _ _ _ _ _ hr2]; rfl
    have z0 : w3.frozen? ⟨w.heap.size + 1, 0, none⟩ = false := frozen_of_row w3 _ 0 _ _ hr2
    have z1 : w3.frozen? ⟨w.heap.size + 1, 1, none⟩ = false := frozen_of_row w3 _ 1 _ _ hr2
    have Hfin := hid (heap_setCell_same _ _ 1 #[.int .i64 0, .int .i64 0] 32 (.int .i64 0) (heap_setCell_same _ _ 0 _ 32 (.int .i64 0) hr2))
    clear hB hr2
    go_wp2
    refine bodyPost_ret (results_cell2 rfl _ _ (w.heap.size + 1) 32 _ _ (0, 0) rfl Hfin.out) rfl ?_
    exact ⟨rfl, (HB3.out.setCell (p := ⟨w.heap.size + 1, 0, none⟩) (Nat.le_succ _) _).setCell (p := ⟨w.heap.size + 1, 1, none⟩) (Nat.le_succ _) _⟩


end Go.Proofs.Ytnnojhpioenhbaa

namespace Go.Proofs.Ytnnojhpioenhbaa
open Go.RowKit Go.Shelf

theorem foK_slot (G : Nat → Nat → Int) (p : List Int) : (foK G p p.length).2 = slotOf G p := by unfold foK slotOf; rw [List.take_length]

set_option maxRecDepth 100000 in
set_option maxHeartbeats 1000000 in
theorem fallsOf_c (pa : Option Addr) (pc : Nat) (ya : Option Addr) (yc : Nat) (B : Bd) (lv : Int) (a : Option Addr) (cap : Nat) (p : List Int) (w : World) (hb : BdAt w pa ya B) (hB : Bok B) (hlv : -5 ≤ lv ∧ lv ≤ 5) (hx : IntsAt w a p) (hl : p.length = B.pins.length) (hp : ∀ k, k < p.length → nth p k = 0 ∨ nth p k = 1) :
    Calls Try.prog 79 #[.agg #[.slice pa B.pins.length pc, .slice ya B.pays.length yc], .int .i64 lv, .slice a p.length cap] w fun e w' => e = .returned (.tuple #[.int .i64 (fallsOf (Rt B lv) p), .int .i64 (slotOf (Rt B lv) p : Nat)]) ∧ Below w.heap.size w w' := by
  have HB0 := hid (bnew w (.cells #[.slice pa B.pins.length pc, .slice ya B.pays.length yc] 25))
  obtain ⟨W, hW⟩ : ∃ W, W = w.alloc (.cells #[.slice pa B.pins.length pc, .slice ya B.pays.length yc] 25) := ⟨_, rfl⟩
  have hbW := hb.mono HB0.out
  rw [← hW] at hbW HB0
  have k0 : W.cell? ⟨w.heap.size, 0, none⟩ = some (.slice pa B.pins.length pc) := by rw [hW]; simp [go_sem]
  have k1 : W.cell? ⟨w.heap.size, 1, none⟩ = some (.slice ya B.pays.length yc) := by rw [hW]; simp [go_sem]
  have HW := hid hW
  have HR := hid fun (w' : World) (h : Below W.heap.size W w') (r k : Nat) (hr : r < p.length) (hk : k ≤ r) => rRight_c pa pc ya yc B lv r k w' (hbW.mono h) hB hlv (by omega) hk
  have hn8 := hB.n8
  have Hx := hid fun (w' : World) (h : Below w.heap.size w w') => hx.mono h
  have Hall := hid (foK_all (Rt B lv) p); have Hslot := hid (foK_slot (Rt B lv) p)
  have Hok := hid fun k (h1 : k ≤ p.length) => foK_ok (Rt_ok B lv p.length) (p := p) (k := k) h1 h1
  have Hsu := hid fun k (h1 : k < p.length) => foK_succ (Rt B lv) h1
  have HG := hid (Rt_ok B lv p.length)
  have Hz := hid (foK_zero (Rt B lv) p)
  obtain ⟨G, hG⟩ : ∃ G, G = Rt B lv := ⟨_, rfl⟩
  rw [← hG] at HR Hall Hok Hsu HG Hz Hslot ⊢
  have Hl := hid hl
  have K0 := hid k0; have K1 := hid k1
  clear hb hB hlv hx hG hl hW hbW
  go_enter Try.func79, Try.ntmps79
  go_upto_region 1 with (fail)
  rw [← HW.out]
  go_wp2
  go_loopw [8, 9, 10, 11] (fun n s i _ wr => ∃ k : Nat, k ≤ p.length ∧ i = .int .i64 k ∧ n = .int .i64 (foK G p k).1 ∧ s = .int .i64 (foK G p k).2 ∧ Below W.heap.size W wr) (fun _ _ i _ _ => p.length - (intOf i).toNat)
  case atStart => exact ⟨0, Nat.zero_le _, rfl, by rw [Hz.out], by rw [Hz.out]; rfl, Below.refl _ _⟩
  case round =>
    obtain ⟨k, hk, rfl, rfl, rfl, hBk⟩ := hrel
    obtain ⟨wk, rfl⟩ : ∃ wk : World, wk = wr := ⟨_, rfl⟩
    have HB := hid hBk
    have k0 := cstep K0.out hBk; have k1 := cstep K1.out hBk
    have hl := Hl.out
    clear hBk
    by_cases hlt : k < p.length
    · have hlI : (k : Int) < (B.pins.length : Int) := by omega
      obtain ⟨b, off, rfl, hc⟩ := (Hx.out _ (bstep HB0.out HB.out)).at hlt
      have hsu := Hsu.out k hlt
      obtain ⟨o1, o2, o3⟩ := Hok.out k (by omega)
      obtain ⟨p1, p2, p3⟩ := Hok.out (k + 1) (by omega)
      have hg := HG.out k (foK G p k).2 hlt o1
      have HRk := hid (HR.out wk HB.out k (foK G p k).2 hlt o1)
      have ht := ten_le (r := k + 1) (by omega)
      rcases hp k hlt with h01 | h01
      · rw [h01] at hc
        rw [h01, if_neg (by omega), if_neg (by omega)] at hsu
        rw [hsu] at p1 p2 p3
        simp only at p1 p2 p3
        have Hsu2 := hid hsu
        obtain ⟨q, hq⟩ : ∃ q, q = G k (foK G p k).2 := ⟨_, rfl⟩
        obtain ⟨m, hm⟩ : ∃ q, q = (foK G p k).1 := ⟨_, rfl⟩
        obtain ⟨j, hj⟩ : ∃ q, q = (foK G p k).2 := ⟨_, rfl⟩
        rw [← hq, ← hm] at p2 p3
        rw [← hq] at hg
        rw [← hq, ← hj] at HRk
        have Hq := hid hq; have Hm := hid hm; have Hj := hid hj
        have e1 : IntKind.i64.wrap (10 - q) = 10 - q := wrap_i64_of (by omega) (by omega)
        have e2 : IntKind.i64.wrap (m * (10 - q)) = m * (10 - q) := wrap_i64_of (by omega) (by omega)
        rw [← hm, ← hj]
        clear hsu o1 o2 o3 p1 p2 p3 hg ht h01 hq hm hj hl
        go_wp2_with fail
        refine HRk.out.mono ?_
        rintro e w2 ⟨rfl, hB2⟩
        have HB2 := hid (bstep HB.out hB2)
        have hc := cstep hc hB2
        clear hB2
        go_wp2
        go_roundw
        case rel => exact ⟨k + 1, by omega, by go_num, by rw [Hsu2.out, ← Hq.out, ← Hm.out], by rw [Hsu2.out, ← Hj.out], HB2.out⟩
        case measure => simp [intOf]; omega
      · rw [h01] at hc
        rw [h01, if_pos rfl, if_pos rfl] at hsu
        rw [hsu] at p1 p2 p3
        simp only at p1 p2 p3
        have Hsu2 := hid hsu
        obtain ⟨q, hq⟩ : ∃ q, q = G k (foK G p k).2 := ⟨_, rfl⟩
        obtain ⟨m, hm⟩ : ∃ q, q = (foK G p k).1 := ⟨_, rfl⟩
        obtain ⟨j, hj⟩ : ∃ q, q = (foK G p k).2 := ⟨_, rfl⟩
        rw [← hq, ← hm] at p2 p3
        rw [← hq, ← hj] at HRk
        rw [← hj] at o1
        have Hq := hid hq; have Hm := hid hm; have Hj := hid hj
        have e2 : IntKind.i64.wrap (m * q) = m * q := wrap_i64_of (by omega) (by omega)
        have e3 : IntKind.i64.wrap ((j : Int) + 1) = (j : Int) + 1 := wrap_i64_of (by omega) (by omega)
        rw [← hm, ← hj]
        clear hsu o1 o2 o3 p1 p2 p3 hg ht h01 hq hm hj hl
        go_wp2_with fail
        refine HRk.out.mono ?_
        rintro e w2 ⟨rfl, hB2⟩
        have HB2 := hid (bstep HB.out hB2)
        have hc := cstep hc hB2
        clear hB2
        go_wp2
        go_roundw
        case rel => exact ⟨k + 1, by omega, by go_num, by rw [Hsu2.out, ← Hq.out, ← Hm.out], by rw [Hsu2.out, ← Hj.out]; go_num, HB2.out⟩
        case measure => simp [intOf]; omega
    · obtain rfl : k = p.length := by omega
      have hlI : ¬ (p.length : Int) < (B.pins.length : Int) := by omega
      have Hpl := hid hl
      clear hl
      go_wp2
      go_ret2
      exact ⟨by rw [← Hall.out, ← Hslot.out]; rfl, bstep HB0.out HB.out⟩

set_option maxRecDepth 100000 in
set_option maxHeartbeats 1000000 in
theorem rFalls_c (a : Option Addr) (cap : Nat) (p : List Int) (pa : Option Addr) (pc : Nat) (ya : Option Addr) (yc : Nat) (B : Bd) (lv : Int) (w : World) (hb : BdAt w pa ya B) (hl : B.pins.length ≤ 1000000) (hp : IntsAt w a p) :
    Calls Try.prog 29 #[.agg #[.slice pa B.pins.length pc, .slice ya B.pays.length yc], .int .i64 lv, .slice a p.length cap] w (IntE w (fallsErr B lv p) (fallsX B lv p)) := by
  have HB0 := hid (bnew w (.cells #[.slice pa B.pins.length pc, .slice ya B.pays.length yc] 25))
  obtain ⟨W, hW⟩ : ∃ W, W = w.alloc (.cells #[.slice pa B.pins.length pc, .slice ya B.pays.length yc] 25) := ⟨_, rfl⟩
  have hbW := hb.mono HB0.out
  rw [← hW] at hbW HB0
  have k0 : W.cell? ⟨w.heap.size, 0, none⟩ = some (.slice pa B.pins.length pc) := by rw [hW]; simp [go_sem]
  have k1 : W.cell? ⟨w.heap.size, 1, none⟩ = some (.slice ya B.pays.length yc) := by rw [hW]; simp [go_sem]
  have HW := hid hW
  have HA := hid (fun (w' : World) (h : Below W.heap.size W w') => at_c pa pc ya yc B lv w' (hbW.mono h) hl)
  unfold IntE
  unfold TellI at HA
  by_cases h0 : atErr B lv = 0
  · rw [h0] at HA
    by_cases hlen : p.length = B.pins.length
    · have hlI : (p.length : Int) = (B.pins.length : Int) := by omega
      have HpW := hid (show IntsAt W a p from by rw [hW]; exact hp.mono (hW ▸ HB0.out))
      obtain ⟨hBk, hlv⟩ := atErr_zero.1 h0
      have hn8 := hBk.n8
      have HP := hid fun (w' : World) (h : Below W.heap.size W w') (h01 : ∀ k, k < p.length → nth p k = 0 ∨ nth p k = 1) => fallsOf_c pa pc ya yc B lv a cap p w' (hbW.mono h) hBk hlv (HpW.out.mono h) hlen h01
      have Hbad := hid fun (h : within 0 1 p = false) => (show fallsErr B lv p = 3 ∧ fallsX B lv p = 0 from by
        have : fallsErr B lv p = 3 := by unfold fallsErr; rw [if_pos h0, if_pos hlen, h]; rfl
        exact ⟨this, by unfold fallsX; rw [if_neg (by omega)]⟩)
      have Hgood := hid fun (h : within 0 1 p = true) => (show fallsErr B lv p = 0 ∧ fallsX B lv p = fallsOf (Rt B lv) p from by
        have : fallsErr B lv p = 0 := by unfold fallsErr; rw [if_pos h0, if_pos hlen, h]; rfl
        exact ⟨this, by unfold fallsX; rw [if_pos this]⟩)
      have hpn : p.length ≤ 8 := by omega
      have Hlen := hid hlen
      clear hW hbW hb hl h0 hBk hlv hlen hp
      go_enter Try.func29, Try.ntmps29
      go_upto_region 1 with (fail)
      rw [← HW.out]
      go_wp2_with fail
      refine (HA.out _ (Below.refl _ _)).mono ?_
      rintro e w1 ⟨rfl, hB⟩
      have HB1 := hid (bstep HB0.out hB); have HBW := hid hB
      have k0 := cstep k0 hB; have k1 := cstep k1 hB
      clear hB
      go_wp2
      go_loopw [8] (fun i wr => ∃ k : Nat, k ≤ p.length ∧ i = .int .i64 k ∧ within 0 1 (p.take k) = true ∧ wr = w1) (fun i _ => p.length - (intOf i).toNat)
      case atStart => exact ⟨0, Nat.zero_le _, rfl, rfl, rfl⟩
      case round =>
        obtain ⟨k, hk, rfl, hin, rfl⟩ := hrel
        have Hin := hid hin
        clear hin
        by_cases hlt : k < p.length
        · have hkI : (k : Int) < (B.pins.length : Int) := by omega
          obtain ⟨b, off, rfl, hc⟩ := (HpW.out.mono HBW.out).at hlt
          have hts := within_take_succ 0 1 (xs := p) (k := k) hlt
          have hwf := within_false (lo := 0) (hi := 1) (xs := p) (k := k) hlt
          obtain ⟨x, hx⟩ : ∃ x, x = nth p k := ⟨_, rfl⟩
          rw [← hx] at hts hwf hc
          by_cases hx0 : x < 0
          · have HE := hid (Hbad.out (hwf (by omega)))
            clear hts hwf hx
            go_wp2
            go_ret2
            exact ⟨by rw [HE.out.1, HE.out.2]; rfl, HB1.out⟩
          · by_cases hx1 : 1 < x
            · have HE := hid (Hbad.out (hwf (by omega)))
              clear hts hwf hx
              go_wp2
              go_ret2
              exact ⟨by rw [HE.out.1, HE.out.2]; rfl, HB1.out⟩
            · rw [decide_eq_true (show (0 : Int) ≤ x by omega), decide_eq_true (show x ≤ 1 by omega), Hin.out] at hts
              have Hts := hid hts
              clear hts hwf hx
              go_wp2
              go_roundw
              case rel => exact ⟨k + 1, by omega, by go_num, Hts.out, trivial⟩
              case measure => simp [intOf]; omega
        · obtain rfl : k = p.length := by omega
          have hkI : ¬ (p.length : Int) < (p.length : Int) := by omega
          have hin := Hin.out
          rw [List.take_length] at hin
          have HE := hid (Hgood.out hin)
          have HPk := hid (HP.out wr HBW.out (fun k hk => by have := within_nth hin hk; omega))
          clear hin hlt hk hkI
          go_wp2_with fail
          refine HPk.out.mono ?_
          rintro e w3 ⟨rfl, hB⟩
          have HB3 := hid (bstep HB1.out hB)
          clear hB
          go_wp2
          go_ret2
          exact ⟨by rw [HE.out.1, HE.out.2]; rfl, HB3.out⟩
    · have hlI : ¬ (p.length : Int) = (B.pins.length : Int) := by omega
      have hd : decide ((p.length : Int) = (B.pins.length : Int)) = false := decide_eq_false hlI
      have hE : fallsErr B lv p = 15 := by unfold fallsErr; rw [if_pos h0, if_neg hlen]
      have hx : fallsX B lv p = 0 := by unfold fallsX; rw [if_neg (by omega)]
      rw [hE, hx]
      clear hW hbW hb hl h0 hE hx hlen hp
      go_enter Try.func29, Try.ntmps29
      go_upto_region 1 with (fail)
      rw [← HW.out]
      go_wp2_with fail
      refine (HA.out _ (Below.refl _ _)).mono ?_
      rintro e w1 ⟨rfl, hB⟩
      have HB1 := hid (bstep HB0.out hB); have HBW := hid hB
      have k0 := cstep k0 hB; have k1 := cstep k1 hB
      clear hB
      go_wp2
      go_ret2
      exact ⟨rfl, HB1.out⟩
  · have hE : fallsErr B lv p = atErr B lv := by unfold fallsErr; rw [if_neg h0]
    have hx : fallsX B lv p = 0 := by unfold fallsX; rw [if_neg (by rw [hE]; exact h0)]
    rw [hE, hx]
    obtain ⟨v, hv⟩ : ∃ v, v = atErr B lv := ⟨_, rfl⟩
    rw [← hv] at HA h0 ⊢
    clear hW hbW hb hl hx hv hE hp
    go_enter Try.func29, Try.ntmps29
    go_upto_region 1 with (fail)
    rw [← HW.out]
    go_wp2_with fail
    refine (HA.out _ (Below.refl _ _)).mono ?_
    rintro e w1 ⟨rfl, hB⟩
    have HB1 := hid (bstep HB0.out hB); have HBW := hid hB
    have k0 := cstep k0 hB; have k1 := cstep k1 hB
    clear hB
    go_wp2_with fail
    refine (HA.out _ HBW.out).mono ?_
    rintro e w2 ⟨rfl, hB⟩
    have HB2 := hid (bstep HB1.out hB)
    clear hB
    go_wp2
    go_ret2
    exact ⟨rfl, HB2.out⟩


end Go.Proofs.Ytnnojhpioenhbaa
