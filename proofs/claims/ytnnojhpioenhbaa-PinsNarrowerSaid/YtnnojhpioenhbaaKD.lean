/- Equality of the falls of two rows. Walk: what a board pays, by the program. Walk: what a board pays, by the program. Walks: how many falls a path has, by the program; the ways back. Walk: the ways back to a slot, by the program. Walks: the exported functions of the program that tell a board at a level: Ways, Pay, Back, Falls. -/
import Derived.Test.YtnnojhpioenhbaaKC
namespace Go.Proofs.Ytnnojhpioenhbaa
open Go.RowKit Go.Shelf

theorem row92 : (92 : TypeId) < Try.prog.types.size := of_decide_eq_true (by kernel_rfl)
theorem wide92 : (match Try.prog.underlying 92 with | some (.array _ _) | some (.struct _) => true | _ => false) = true := by rw [Try.underlying92]
theorem key92 : Try.prog.keyTypeAt 2 92 = true := by kernel_rfl
theorem keyAll92 : Try.prog.keyType 92 = true := by kernel_rfl
theorem cells92 : Try.prog.cellsOf 92 = 9 := by kernel_rfl
theorem cells2 : Try.prog.cellsOf 2 = 1 := by kernel_rfl
theorem keyLits2 (d : Nat) {x : Int} (h : (Lit.int .i64 x).wf = true) : Try.prog.keyLits (d + 1) 2 [.int .i64 x] = some [.int .i64 x] := by
  unfold Program.keyLits
  rw [Try.underlying2]
  simp [h]
theorem keyLits92 (d : Nat) (x0 x1 x2 x3 x4 x5 x6 x7 x8 : Int) (h : ∀ x ∈ [x0, x1, x2, x3, x4, x5, x6, x7, x8], (Lit.int .i64 x).wf = true) :
    Try.prog.keyLits (d + 2) 92 [.int .i64 x0, .int .i64 x1, .int .i64 x2, .int .i64 x3, .int .i64 x4, .int .i64 x5, .int .i64 x6, .int .i64 x7, .int .i64 x8] = some [.int .i64 x0, .int .i64 x1, .int .i64 x2, .int .i64 x3, .int .i64 x4, .int .i64 x5, .int .i64 x6, .int .i64 x7, .int .i64 x8] := by
  unfold Program.keyLits
  rw [Try.underlying92]
  have k := fun (x : Int) (hx : x ∈ [x0, x1, x2, x3, x4, x5, x6, x7, x8]) => keyLits2 d (h x hx)
  have a0 := k x0 (by simp); have a1 := k x1 (by simp); have a2 := k x2 (by simp); have a3 := k x3 (by simp); have a4 := k x4 (by simp)
  have a5 := k x5 (by simp); have a6 := k x6 (by simp); have a7 := k x7 (by simp); have a8 := k x8 (by simp)
  simp [cells92, cells2, a0, a1, a2, a3, a4, a5, a6, a7, a8, List.range, List.range.loop]

def key92K (x0 x1 x2 x3 x4 x5 x6 x7 x8 : Int) : Lit := .string (keyBytes [.int .i64 x0, .int .i64 x1, .int .i64 x2, .int .i64 x3, .int .i64 x4, .int .i64 x5, .int .i64 x6, .int .i64 x7, .int .i64 x8])
theorem keyOf_92 (x0 x1 x2 x3 x4 x5 x6 x7 x8 : Int) (h : ∀ x ∈ [x0, x1, x2, x3, x4, x5, x6, x7, x8], (Lit.int .i64 x).wf = true) :
    keyOf Try.prog 92 (.agg #[.int .i64 x0, .int .i64 x1, .int .i64 x2, .int .i64 x3, .int .i64 x4, .int .i64 x5, .int .i64 x6, .int .i64 x7, .int .i64 x8]) = some (key92K x0 x1 x2 x3 x4 x5 x6 x7 x8) := by
  unfold keyOf
  rw [Try.underlying92]
  have hf : (Value.agg #[.int .i64 x0, .int .i64 x1, .int .i64 x2, .int .i64 x3, .int .i64 x4, .int .i64 x5, .int .i64 x6, .int .i64 x7, .int .i64 x8]).formed Try.prog 92 = true := by
    simp [Value.formed, Try.underlying92, cells92]
  obtain ⟨d, hd⟩ : ∃ d, Try.prog.types.size + 1 = d + 2 := ⟨Try.prog.types.size - 1, by
    have : 2 ≤ Try.prog.types.size := of_decide_eq_true (by kernel_rfl)
    omega⟩
  rw [keyAll92, hf, hd]
  have h2 := keyLits92 d x0 x1 x2 x3 x4 x5 x6 x7 x8 h
  simp [Value.cells, h2, key92K]
theorem list9 {xs : List Int} (h : xs.length = 9) : ∃ x0 x1 x2 x3 x4 x5 x6 x7 x8, xs = [x0, x1, x2, x3, x4, x5, x6, x7, x8] := by
  match xs, h with
  | [x0, x1, x2, x3, x4, x5, x6, x7, x8], _ => exact ⟨x0, x1, x2, x3, x4, x5, x6, x7, x8, rfl⟩
set_option maxRecDepth 100000 in
theorem run_eq92 (xs : List Int) (h9 : xs.length = 9) (hb : ∀ x ∈ xs, 0 ≤ x ∧ x ≤ 1000000000) (hne : ¬ ∀ x ∈ xs, x = 0) (w : World) :
    (Op.equal 92 (.agg (intv xs).toArray) (.agg #[.int .i64 0, .int .i64 0, .int .i64 0, .int .i64 0, .int .i64 0, .int .i64 0, .int .i64 0, .int .i64 0, .int .i64 0])).run Try.prog w = .ok false w := by
  obtain ⟨x0, x1, x2, x3, x4, x5, x6, x7, x8, rfl⟩ := list9 h9
  have hw : ∀ x ∈ [x0, x1, x2, x3, x4, x5, x6, x7, x8], (Lit.int .i64 x).wf = true := fun x hx => WalkArith.wf_i64 (by have := hb x hx; omega)
  have hw0 : ∀ x ∈ [(0 : Int), 0, 0, 0, 0, 0, 0, 0, 0], (Lit.int .i64 x).wf = true := by intro x hx; simp at hx; subst hx; exact WalkArith.wf_i64 (by omega)
  obtain ⟨r, hr, hiff⟩ := run_equal_deep (P := Try.prog) w (m := 2) (by omega) key92 wide92 (keyOf_92 x0 x1 x2 x3 x4 x5 x6 x7 x8 hw) (keyOf_92 0 0 0 0 0 0 0 0 0 hw0)
  cases r with
  | false => exact hr
  | true =>
    have e := Lit.string.inj (hiff.1 rfl)
    have e2 := keyLits_inj (P := Try.prog) (keyLits92 0 x0 x1 x2 x3 x4 x5 x6 x7 x8 hw) (keyLits92 0 0 0 0 0 0 0 0 0 0 hw0) e
    simp at e2
    exact absurd (fun x hx => by simp at hx; omega) hne

/-- what a board pays, by all its falls -/
def payN (B : Bd) (lv : Int) : Int := sumTo (fun i => W (Rt B lv) B.pins.length i * nth B.pays i) (B.pins.length + 1)
def payQ (B : Bd) (lv : Int) : Int × Int := lst (payN B lv) (10 ^ B.pins.length)
theorem paySum_le {B : Bd} (hB : Bok B) (lv : Int) : ∀ {k : Nat}, k ≤ B.pins.length + 1 → 0 ≤ sumTo (fun i => W (Rt B lv) B.pins.length i * nth B.pays i) k ∧ sumTo (fun i => W (Rt B lv) B.pins.length i * nth B.pays i) k ≤ 500 * 10 ^ B.pins.length := by
  intro k hk
  have hW := W_nonneg (Rt_ok B lv B.pins.length)
  have h0 : ∀ j, j < B.pins.length + 1 → 0 ≤ W (Rt B lv) B.pins.length j * nth B.pays j := fun j hj => Int.mul_nonneg (hW j) (hB.pay j (by omega)).1
  refine ⟨sumTo_nonneg fun j hj => h0 j (by omega), ?_⟩
  have h1 : sumTo (fun i => W (Rt B lv) B.pins.length i * nth B.pays i) k ≤ sumTo (fun i => 500 * W (Rt B lv) B.pins.length i) k := sumTo_le fun j hj => by
    have := Int.mul_le_mul_of_nonneg_left (hB.pay j (by omega)).2 (hW j)
    omega
  rw [sumTo_mul] at h1
  have h2 : sumTo (W (Rt B lv) B.pins.length) k ≤ sumTo (W (Rt B lv) B.pins.length) (B.pins.length + 1) := by
    have : ∀ d, sumTo (W (Rt B lv) B.pins.length) k ≤ sumTo (W (Rt B lv) B.pins.length) (k + d) := by
      intro d
      induction d with
      | zero => exact Int.le_refl _
      | succ d ih => have := hW (k + d); show sumTo (W (Rt B lv) B.pins.length) k ≤ sumTo (W (Rt B lv) B.pins.length) (k + d) + W (Rt B lv) B.pins.length (k + d); omega
    have := this (B.pins.length + 1 - k)
    rwa [show k + (B.pins.length + 1 - k) = B.pins.length + 1 by omega] at this
  rw [W_sum] at h2
  have h3 : sumTo (fun k => W (Rt B lv) B.pins.length k) k = sumTo (W (Rt B lv) B.pins.length) k := rfl
  omega
theorem nth_wv (G : Nat → Nat → Int) (n : Nat) {i : Nat} (hi : i < 9) : nth (wv G n) i = W G n i := by unfold wv nth; simp [List.getD, hi]
theorem wv_ne (G : Nat → Nat → Int) {n : Nat} (hn : n ≤ 8) : ¬ ∀ x ∈ wv G n, x = 0 := fun h => by
  have h0 : ∀ i, i < n + 1 → W G n i = 0 := fun i hi => by
    rw [← nth_wv G n (i := i) (by omega)]
    exact h _ (nth_mem (by simp [wv]; omega))
  have hs := W_sum G n
  rw [sumTo_congr (g := fun _ => 0) h0, sumTo_zero] at hs
  have : (0 : Int) < 10 ^ n := Int.pow_pos (by omega)
  omega
theorem wv_bound {G : Nat → Nat → Int} {n : Nat} (hG : Rok G n) (hn : n ≤ 8) : ∀ x ∈ wv G n, 0 ≤ x ∧ x ≤ 1000000000 := fun x hx => by
  obtain ⟨j, _, rfl⟩ := List.mem_map.1 hx
  have := W_le hG j
  have := ten_le hn
  exact ⟨W_nonneg hG j, by omega⟩
theorem gcd_step {x y : Int} (hx : 0 ≤ x) (hy : 0 < y) : Int.gcd y (x.tmod y) = Int.gcd x y ∧ 0 ≤ x.tmod y ∧ x.tmod y < y := by
  rw [Int.tmod_eq_emod_of_nonneg hx]
  refine ⟨?_, Int.emod_nonneg _ (by omega), Int.emod_lt_of_pos _ hy⟩
  obtain ⟨a, rfl⟩ := Int.eq_ofNat_of_zero_le hx
  obtain ⟨b, rfl⟩ := Int.eq_ofNat_of_zero_le (Int.le_of_lt hy)
  rw [← Int.natCast_emod, Int.gcd_natCast_natCast, Int.gcd_natCast_natCast, Nat.gcd_comm a b, Nat.gcd_rec b a, Nat.gcd_comm]

end Go.Proofs.Ytnnojhpioenhbaa

namespace Go.Proofs.Ytnnojhpioenhbaa
open Go.RowKit Go.Shelf

theorem run_eq92' (xs : List Int) (h9 : xs.length = 9) (hb : ∀ x ∈ xs, 0 ≤ x ∧ x ≤ 1000000000) (hne : ¬ ∀ x ∈ xs, x = 0) (w : World) :
    (Op.equalIn 10000 92 (.agg (intv xs).toArray) (.agg #[.int .i64 0, .int .i64 0, .int .i64 0, .int .i64 0, .int .i64 0, .int .i64 0, .int .i64 0, .int .i64 0, .int .i64 0])).run Try.prog w = .ok false w := run_eq92 xs h9 hb hne w
section
attribute [local go_sem ↓] wp_get wp_get0 wp_getS wp92 wps92 wpa92
set_option maxRecDepth 100000 in
set_option maxHeartbeats 4000000 in
theorem pay_c (g : Nat) (A : FA) (B : Bd) (R : Rd) (lv : Int) (w : World) (hf : FrAt w g A B R lv) (hB : Bok B) (hlv : -5 ≤ lv ∧ lv ≤ 5) :
    Calls Try.prog 70 #[.pointer (some ⟨g, 0, none⟩)] w fun e w' => e = .returned (.agg #[.int .i64 (payQ B lv).1, .int .i64 (payQ B lv).2]) ∧ Below w.heap.size w w' := by
  have HF := hid fun (w' : World) (h : Below w.heap.size w w') => hf.mono h
  have HW := hid fun (w' : World) (h : Below w.heap.size w w') => ways_c g A B R lv w' (hf.mono h) hB hlv
  have hn8 := hB.n8
  have hn1 := hB.n1
  have hpl := hB.pays
  have Hpay := hid hB.pay
  have Hps := hid fun k => @paySum_le B hB lv k
  have HQ := hid (show payQ B lv = lst (payN B lv) (10 ^ B.pins.length) from rfl)
  have HN := hid (show payN B lv = sumTo (fun i => W (Rt B lv) B.pins.length i * nth B.pays i) (B.pins.length + 1) from rfl)
  have hb := wv_bound (Rt_ok B lv B.pins.length) hn8
  have Heq := run_eq92' (wv (Rt B lv) B.pins.length) (by simp [wv]) hb (wv_ne _ hn8)
  have Hnth := hid fun i (hi : i < 9) => nth_wv (Rt B lv) B.pins.length (i := i) hi
  have Hlen := hid (show (wv (Rt B lv) B.pins.length).length = 9 by simp [wv])
  obtain ⟨ws, hws⟩ : ∃ ws, ws = wv (Rt B lv) B.pins.length := ⟨_, rfl⟩
  rw [← hws] at HW Heq Hnth hb Hlen
  have hV9 : ((intv ws).toArray.size == 9) = true := by simp [intv_length, Hlen.out]
  have hVo : (intv ws).toArray.all (·.oneCell') = true := by simp only [List.all_toArray]; exact List.all_eq_true.2 (intv_one _)
  have Hb := hid hb
  obtain ⟨V, hV⟩ : ∃ V, V = (intv ws).toArray := ⟨_, rfl⟩
  rw [← hV] at HW Heq hV9 hVo
  have HV := hid hV
  have HX0 := hid (bnew w (.cells #[.int .i64 0, .int .i64 0] 32))
  have HXz := hid (heap_alloc_new w (.cells #[.int .i64 0, .int .i64 0] 32))
  clear hf hB hlv hws hb hV
  go_enter Try.func70, Try.ntmps70
  go_wp2_with fail
  refine (HW.out _ HX0.out).mono ?_
  rintro e w1 ⟨rfl, hB⟩
  have HB1 := hid (bstep HX0.out hB)
  have Hz1 := hid ((hB.block _ (Array.getElem?_eq_some_iff.1 HXz.out).1).trans HXz.out)
  have hz8 := heap_alloc_new w1 (.cells zero92 92)
  have q1 : partOk (w1.alloc (.cells zero92 92)) w1.heap.size 0 9 = true := partOk_of hz8 (by decide)
  have q2 : freeB (w1.alloc (.cells zero92 92)) w1.heap.size = true := freeB_of hz8
  have Hz8 := hid hz8
  clear hB hz8
  go_upto_region 3 with (fail)
  have hY8 : (World.setPart (w1.alloc (.cells zero92 92)) w1.heap.size 0 V).heap[w1.heap.size]? = some (.cells V 92 (0, 0)) := by
    rw [setPart_heap Hz8.out]
    have e : zero92.toList.drop (0 + V.size) = [] := List.drop_of_length_le (by have := beq_iff_eq.1 hV9; simp [zero92, intv_length]; omega)
    rw [e]; simp
  have hYB : Below w.heap.size w (World.setPart (w1.alloc (.cells zero92 92)) w1.heap.size 0 V) := (bstep HB1.out (bnew w1 (.cells zero92 92))).trans ((setPart_only _ w1.heap.size 0 V).below (by simp; have := HB1.out.size; omega) (by intro j hj e; have e' : j = w1.heap.size := e; have := HB1.out.size; omega))
  have hYz := ((setPart_only (w1.alloc (.cells zero92 92)) w1.heap.size 0 V).block w.heap.size (by have := (Array.getElem?_eq_some_iff.1 Hz1.out).1; simp; omega) (by show ¬ w.heap.size = w1.heap.size; have := (Array.getElem?_eq_some_iff.1 Hz1.out).1; omega)).trans (((bnew w1 (.cells zero92 92)).block _ (Array.getElem?_eq_some_iff.1 Hz1.out).1).trans Hz1.out)
  have hwb := hid (show w.heap.size < w1.heap.size from (Array.getElem?_eq_some_iff.1 Hz1.out).1)
  obtain ⟨Y, hY⟩ : ∃ Y, Y = World.setPart (w1.alloc (.cells zero92 92)) w1.heap.size 0 V := ⟨_, rfl⟩
  rw [← hY] at hY8 hYB hYz ⊢
  have q1 : partOk Y w1.heap.size 0 9 = true := partOk_of hY8 (by have := beq_iff_eq.1 hV9; omega)
  have q3 : partAt Y w1.heap.size 0 9 = V := by
    rw [partAt_of hY8, show (0 : Nat) + 9 = V.size from by have := beq_iff_eq.1 hV9; omega]
    exact Array.extract_size
  have HY8 := hid hY8; have HYB := hid hYB; have HYz := hid hYz
  have f1 := HF.out Y hYB
  have k0 := f1.k0; have k1 := f1.k1
  obtain ⟨yb, yo, hya, _⟩ := f1.bd.2.at (k := 0) (by omega)
  have Hcell := hid fun k (hk : k < B.pays.length) => IntsAt.cell (show IntsAt Y (some ⟨yb, yo, none⟩) B.pays from hya ▸ f1.bd.2) hk
  rw [hya] at k1
  have Hpl := hid hpl
  clear hpl hya
  clear hY8 hYB hYz hY q2 hVo Hz8 Hz1 HW f1
  go_wp2
  go_loopw [4, 6, 7, 22] (fun s _ _ i wr => ∃ k : Nat, k ≤ B.pins.length + 1 ∧ i = .int .i64 k ∧ s = .int .i64 (sumTo (fun i => W (Rt B lv) B.pins.length i * nth B.pays i) k) ∧ wr = Y) (fun _ _ _ i _ => B.pins.length + 1 - (intOf i).toNat)
  case atStart => exact ⟨0, Nat.zero_le _, rfl, rfl, rfl⟩
  case round =>
    obtain ⟨k, hk, rfl, rfl, rfl⟩ := hrel
    have hpl := Hpl.out
    by_cases hlt : k < B.pins.length + 1
    · have hkI : (k : Int) < (B.pays.length : Int) := by omega
      have hc := Hcell.out k (by omega)
      have hc9 : wr.cell? ⟨w1.heap.size, k, none⟩ = some (.int .i64 (W (Rt B lv) B.pins.length k)) := by
        rw [cell_of_row _ _ _ _ _ _ HY8.out, HV.out, List.getElem?_toArray, intv_get, if_pos (by rw [Hlen.out]; omega), Hnth.out k (by omega)]
      have hs1 := Hps.out k hk
      have hs2 := Hps.out (k + 1) (by omega)
      have hst : sumTo (fun i => W (Rt B lv) B.pins.length i * nth B.pays i) (k + 1) = sumTo (fun i => W (Rt B lv) B.pins.length i * nth B.pays i) k + W (Rt B lv) B.pins.length k * nth B.pays k := rfl
      have ht := ten_le hn8
      have hk9 : k < 9 := by omega
      obtain ⟨S, hS⟩ : ∃ S, S = sumTo (fun i => W (Rt B lv) B.pins.length i * nth B.pays i) k := ⟨_, rfl⟩
      obtain ⟨a, ha⟩ : ∃ S, S = W (Rt B lv) B.pins.length k := ⟨_, rfl⟩
      obtain ⟨p, hp⟩ : ∃ S, S = nth B.pays k := ⟨_, rfl⟩
      rw [← hS, ← ha, ← hp] at hst
      rw [hst] at hs2
      rw [← hS] at hs1 ⊢
      rw [← ha] at hc9
      rw [← hp] at hc
      have e1 : IntKind.i64.wrap (a * p) = a * p := wrap_i64_of (by omega) (by omega)
      have e2 : IntKind.i64.wrap (S + a * p) = S + a * p := wrap_i64_of (by omega) (by omega)
      have Hst := hid hst
      clear hs1 hs2 hst ht hS ha hp hpl
      go_wp2
      go_roundw
      case rel => exact ⟨k + 1, by omega, by go_num, by rw [Hst.out], trivial⟩
      case measure => simp [intOf]; omega
    · obtain rfl : k = B.pins.length + 1 := by omega
      have hkI : ¬ (((B.pins.length + 1 : Nat) : Int) < (B.pays.length : Int)) := by omega
      obtain ⟨Y, rfl⟩ : ∃ Y : World, Y = wr := ⟨_, rfl⟩
      have hNb := Hps.out (B.pins.length + 1) (Nat.le_refl _)
      rw [← HN.out] at hNb ⊢
      have ht := ten_le hn8
      obtain ⟨N, hN⟩ : ∃ N, N = payN B lv := ⟨_, rfl⟩
      rw [← hN] at hNb ⊢
      have HN2 := hid hN
      clear hN hlt hk hpl
      go_wp2
      go_loopw [5, 41] (fun d i wr => ∃ k : Nat, k ≤ B.pins.length ∧ i = .int .i64 k ∧ d = .int .i64 (10 ^ k) ∧ wr = Y) (fun _ i _ => B.pins.length - (intOf i).toNat)
      case atStart => exact ⟨0, Nat.zero_le _, rfl, rfl, rfl⟩
      case round =>
        obtain ⟨k, hk, rfl, rfl, rfl⟩ := hrel
        by_cases hlt : k < B.pins.length
        · have h10 := ten_le (r := k + 1) (by omega)
          have h11 : (10 : Int) ^ (k + 1) = 10 ^ k * 10 := Int.pow_succ 10 k
          have h12 : (0 : Int) < 10 ^ k := Int.pow_pos (by omega)
          obtain ⟨D, hD⟩ : ∃ D, D = (10 : Int) ^ k := ⟨_, rfl⟩
          rw [← hD] at h11 h12 ⊢
          rw [h11] at h10
          have e1 : IntKind.i64.wrap (D * 10) = D * 10 := wrap_i64_of (by omega) (by omega)
          have H11 := hid h11
          clear h10 h11 h12 hD
          go_wp2
          go_roundw
          case rel => exact ⟨k + 1, by omega, by go_num, by rw [H11.out], trivial⟩
          case measure => simp [intOf]; omega
        · obtain rfl : k = B.pins.length := by omega
          obtain ⟨Y, rfl⟩ : ∃ Y : World, Y = wr := ⟨_, rfl⟩
          have hD0 : (0 : Int) < 10 ^ B.pins.length := Int.pow_pos (by omega)
          obtain ⟨D, hD⟩ : ∃ D, D = (10 : Int) ^ B.pins.length := ⟨_, rfl⟩
          rw [← hD] at hD0 ht hNb ⊢
          have HD := hid hD
          clear hD hlt hk
          go_wp2
          go_loopw [8, 9] (fun x y wr => ∃ a b : Int, x = .int .i64 a ∧ y = .int .i64 b ∧ 0 ≤ a ∧ 0 ≤ b ∧ a ≤ 100000000000 ∧ b ≤ 100000000 ∧ Int.gcd a b = Int.gcd N D ∧ ∃ m, wr = Y.drewN m) (fun _ y _ => (intOf y).toNat)
          case atStart => exact ⟨N, D, rfl, rfl, hNb.1, by omega, by omega, ht, rfl, 0, rfl⟩
          case round =>
            obtain ⟨a, b, rfl, rfl, ha, hb, ha1, hb1, hgc, m, rfl⟩ := hrel
            by_cases hb0 : 0 < b
            · obtain ⟨g1, g2, g3⟩ := gcd_step ha hb0
              have hne : ¬ b = 0 := by omega
              have hd : decide (b = 0) = false := decide_eq_false hne
              obtain ⟨q, hq⟩ : ∃ q, q = a.tmod b := ⟨_, rfl⟩
              rw [← hq] at g1 g2 g3
              have hqs := hq.symm
              have Hg := hid (g1.trans hgc); have Hb := hid (show 0 ≤ b ∧ b ≤ 100000000 ∧ 0 ≤ q ∧ q < b from ⟨hb, hb1, g2, g3⟩)
              clear hq g1 g2 g3 hgc ha hb ha1 hb1
              go_upto_region 16 with (fail)
              go_region_held3 (fun _ => True) (trivial) (fail)
              all_goals (
                go_wp2
                go_roundw
                case rel => exact ⟨b, q, rfl, rfl, by have := Hb.out; omega, by have := Hb.out; omega, by have := Hb.out; omega, by have := Hb.out; omega, Hg.out, m + 1, rfl⟩
                case measure => have := Hb.out; simp [intOf]; omega)
            · obtain rfl : b = 0 := by omega
              rw [Int.gcd_zero_right] at hgc
              have haG : a = (Int.gcd N D : Int) := by omega
              have hGp : 0 < (Int.gcd N D : Int) := gcd_pos hD0
              have hne : ¬ a = 0 := by omega
              have hd : decide (a = 0) = false := decide_eq_false hne
              have e1 : N.tdiv a = (payQ B lv).1 := by
                rw [HQ.out, ← HN2.out, ← HD.out, Int.tdiv_eq_ediv_of_nonneg hNb.1, haG]; rfl
              have e2 : D.tdiv a = (payQ B lv).2 := by
                rw [HQ.out, ← HN2.out, ← HD.out, Int.tdiv_eq_ediv_of_nonneg (by omega), haG]; rfl
              obtain ⟨x, hx⟩ : ∃ x, x = (payQ B lv).1 := ⟨_, rfl⟩
              obtain ⟨y, hy⟩ : ∃ x, x = (payQ B lv).2 := ⟨_, rfl⟩
              rw [← hx] at e1; rw [← hy] at e2
              have Hx := hid hx; have Hy := hid hy
              have e3 : IntKind.i64.wrap x = x := by
                rw [← e1, Int.tdiv_eq_ediv_of_nonneg hNb.1]
                exact wrap_i64_of (by have := Int.ediv_nonneg hNb.1 ha; omega) (by have := Int.ediv_le_self a hNb.1; omega)
              have e4 : IntKind.i64.wrap y = y := by
                rw [← e2, Int.tdiv_eq_ediv_of_nonneg (by omega)]
                exact wrap_i64_of (by have := Int.ediv_nonneg (Int.le_of_lt hD0) ha; omega) (by have := Int.ediv_le_self a (Int.le_of_lt hD0); omega)
              have r0 : (Y.drewN m).cell? ⟨w.heap.size, 0, none⟩ = some (.int .i64 0) := by show Y.cell? _ = _; rw [cell_of_row _ _ _ _ _ _ HYz.out]; rfl
              have r1 : (Y.drewN m).cell? ⟨w.heap.size, 1, none⟩ = some (.int .i64 0) := by show Y.cell? _ = _; rw [cell_of_row _ _ _ _ _ _ HYz.out]; rfl
              have z0 : (Y.drewN m).frozen? ⟨w.heap.size, 0, none⟩ = false := frozen_of_row Y _ 0 _ _ HYz.out
              have z1 : (Y.drewN m).frozen? ⟨w.heap.size, 1, none⟩ = false := frozen_of_row Y _ 1 _ _ HYz.out
              clear hgc haG hGp hx hy ha hb ha1 hb1 hNb hD0 ht
              go_upto_region 17 with (fail)
              obtain ⟨Z, hZ⟩ : ∃ Z, Z = Y.drewN m := ⟨_, rfl⟩
              have HZ := hid hZ
              rw [← hZ] at r0 r1 z0 z1 ⊢
              clear hZ
              go_region_with (fail)
              all_goals (
                go_wp2
                have hfin : ((Z.setCell ⟨w.heap.size, 0, none⟩ (.int .i64 x)).setCell ⟨w.heap.size, 1, none⟩ (.int .i64 y)).drew.heap[w.heap.size]? = some (.cells #[.int .i64 x, .int .i64 y] 32 (0, 0)) := by
                  have h0 : Z.heap[w.heap.size]? = some (.cells #[.int .i64 0, .int .i64 0] 32 (0, 0)) := by rw [HZ.out]; exact HYz.out
                  exact heap_setCell_same _ _ 1 #[.int .i64 x, .int .i64 0] 32 _ (heap_setCell_same _ _ 0 _ 32 _ h0)
                refine bodyPost_ret (results_cell_row rfl _ _ w.heap.size 32 _ (0, 0) _ rfl hfin Try.underlying32 rfl (by kernel_rfl)) rfl ?_
                refine ⟨by rw [Hx.out, Hy.out], ?_⟩
                have hB9 : Below w.heap.size w Z := by rw [HZ.out]; exact bstep HYB.out (below_drawN _ Y m)
                exact Below.drew (Below.setCell (p := ⟨w.heap.size, 1, none⟩) (Below.setCell (p := ⟨w.heap.size, 0, none⟩) hB9 (Nat.le_refl _) _) (Nat.le_refl _) _))
end

end Go.Proofs.Ytnnojhpioenhbaa

namespace Go.Proofs.Ytnnojhpioenhbaa
open Go.RowKit Go.Shelf

/-- the falls and the pin behind the first k steps of a path -/
def foK (G : Nat → Nat → Int) (p : List Int) (k : Nat) : Int × Nat := fo G 0 0 1 (p.take k)
theorem foK_zero (G : Nat → Nat → Int) (p : List Int) : foK G p 0 = (1, 0) := by simp [foK, fo]
theorem foK_succ (G : Nat → Nat → Int) {p : List Int} {k : Nat} (h : k < p.length) : foK G p (k + 1) = (if nth p k = 1 then (foK G p k).1 * G k (foK G p k).2 else (foK G p k).1 * (10 - G k (foK G p k).2), if nth p k = 1 then (foK G p k).2 + 1 else (foK G p k).2) := by
  unfold foK
  rw [take_succ_nth h, fo_snoc, Nat.zero_add, List.length_take, Nat.min_eq_left (by omega)]
theorem foK_ok {G : Nat → Nat → Int} {n : Nat} (hG : Rok G n) {p : List Int} : ∀ {k : Nat}, k ≤ p.length → k ≤ n → (foK G p k).2 ≤ k ∧ 0 ≤ (foK G p k).1 ∧ (foK G p k).1 ≤ 10 ^ k := by
  intro k
  induction k with
  | zero => intro _ _; rw [foK_zero]; exact ⟨Nat.le_refl _, by omega, by simp⟩
  | succ k ih =>
    intro h1 h2
    obtain ⟨a, b, c⟩ := ih (by omega) (by omega)
    have hg := hG k (foK G p k).2 (by omega) a
    rw [foK_succ G (by omega), Int.pow_succ]
    have key : ∀ x : Int, 0 ≤ x → x ≤ 10 → 0 ≤ (foK G p k).1 * x ∧ (foK G p k).1 * x ≤ 10 ^ k * 10 := fun x h0 h10 => ⟨Int.mul_nonneg b h0, Int.le_trans (Int.mul_le_mul_of_nonneg_left h10 b) (Int.mul_le_mul_of_nonneg_right c (by omega))⟩
    simp only
    split
    · exact ⟨by omega, key _ hg.1 hg.2⟩
    · exact ⟨by omega, key _ (by omega) (by omega)⟩
theorem foK_all (G : Nat → Nat → Int) (p : List Int) : (foK G p p.length).1 = fallsOf G p := by unfold foK fallsOf; rw [List.take_length]

theorem run_index2 (xs : List Int) (h2 : xs.length = 2) {k : Nat} (hk : k < 2) (w' : World) : (Instr.index 135 (.agg (intv xs).toArray) (.int .i64 k)).run Try.prog w' = .ok (.int .i64 (nth xs k)) w' := by
  obtain ⟨i, hi, hz, hs, hby⟩ := info_parts et23.hi
  have hp := run_part_plain (P := Try.prog) w' (e := 2) plain2 (xs := (intv xs).toArray) (off := k) (v := .int .i64 (nth xs k)) (by rw [List.getElem?_toArray, intv_get, if_pos (by omega)])
  have h9' : ¬ 2 ≤ k := by omega
  simp [Instr.index, asIntOf, run_underlying Try.underlying135, sizeOf, typeInfo, hi, hs, h9', hp, Result.andThen]
set_option maxRecDepth 100000 in
set_option maxHeartbeats 1000000 in
theorem falls_c (g : Nat) (A : FA) (B : Bd) (R : Rd) (lv : Int) (a : Option Addr) (cap : Nat) (p : List Int) (w : World) (hf : FrAt w g A B R lv) (hB : Bok B) (hlv : -5 ≤ lv ∧ lv ≤ 5) (hx : IntsAt w a p) (hl : p.length = B.pins.length) (hp : ∀ k, k < p.length → nth p k = 0 ∨ nth p k = 1) :
    Calls Try.prog 78 #[.pointer (some ⟨g, 0, none⟩), .slice a p.length cap] w (TellI w (fallsOf (Rt B lv) p)) := by
  have HR := hid fun (w' : World) (h : Below w.heap.size w w') (r k : Nat) (hr : r < p.length) (hk : k ≤ r) => right_c g A B R lv r k w' (hf.mono h) hB hlv (by omega) hk
  have hn8 := hB.n8
  rw [← hl] at hn8
  have Hx := hid fun (w' : World) (h : Below w.heap.size w w') => hx.mono h
  have Hall := hid (foK_all (Rt B lv) p)
  have Hok := hid fun k (h1 : k ≤ p.length) => foK_ok (Rt_ok B lv p.length) (p := p) (k := k) h1 h1
  have Hsu := hid fun k (h1 : k < p.length) => foK_succ (Rt B lv) h1
  have HG := hid (Rt_ok B lv p.length)
  have Hz := hid (foK_zero (Rt B lv) p)
  unfold TellI
  obtain ⟨G, hG⟩ : ∃ G, G = Rt B lv := ⟨_, rfl⟩
  rw [← hG] at HR Hall Hok Hsu HG Hz ⊢
  clear hf hB hlv hx hG hl
  go_enter Try.func78, Try.ntmps78
  go_wp2
  go_loopw [5, 6, 7, 8, 9, 12] (fun n s _ _ _ i wr => ∃ k : Nat, k ≤ p.length ∧ i = .int .i64 k ∧ n = .int .i64 (foK G p k).1 ∧ s = .int .i64 (foK G p k).2 ∧ Below w.heap.size w wr) (fun _ _ _ _ _ i _ => p.length - (intOf i).toNat)
  case atStart => exact ⟨0, Nat.zero_le _, rfl, by rw [Hz.out], by rw [Hz.out]; rfl, Below.refl _ _⟩
  case round =>
    obtain ⟨k, hk, rfl, rfl, rfl, hBk⟩ := hrel
    obtain ⟨wk, rfl⟩ : ∃ wk : World, wk = wr := ⟨_, rfl⟩
    have HB := hid hBk
    clear hBk
    by_cases hlt : k < p.length
    · obtain ⟨b, off, rfl, hc⟩ := (Hx.out _ HB.out).at hlt
      have hsu := Hsu.out k hlt
      obtain ⟨o1, o2, o3⟩ := Hok.out k (by omega)
      obtain ⟨p1, p2, p3⟩ := Hok.out (k + 1) (by omega)
      have hg := HG.out k (foK G p k).2 hlt o1
      have HRk := hid (HR.out wk HB.out k (foK G p k).2 hlt o1)
      have ht := ten_le (r := k + 1) (by omega)
      rcases hp k hlt with h01 | h01
      · rw [h01] at hc
        rw [h01, if_neg (by omega), if_neg (by omega)] at hsu
        rw [hsu] at p1 p2 p3
        simp only at p1 p2 p3
        have Hsu2 := hid hsu
        obtain ⟨q, hq⟩ : ∃ q, q = G k (foK G p k).2 := ⟨_, rfl⟩
        obtain ⟨m, hm⟩ : ∃ q, q = (foK G p k).1 := ⟨_, rfl⟩
        obtain ⟨j, hj⟩ : ∃ q, q = (foK G p k).2 := ⟨_, rfl⟩
        rw [← hq, ← hm] at p2 p3
        rw [← hq] at hg
        rw [← hj] at o1
        rw [← hq, ← hj] at HRk
        have Hq := hid hq; have Hm := hid hm; have Hj := hid hj
        have e1 : IntKind.i64.wrap (10 - q) = 10 - q := wrap_i64_of (by omega) (by omega)
        have i0 : ∀ w', (Instr.index 135 (.agg #[.int .i64 (10 - q), .int .i64 q]) (.int .i64 0)).run Try.prog w' = .ok (.int .i64 (10 - q)) w' := fun w' => run_index2 [10 - q, q] rfl (k := 0) (by omega) w'
        have e2 : IntKind.i64.wrap (m * (10 - q)) = m * (10 - q) := wrap_i64_of (by omega) (by omega)
        have e3 : IntKind.i64.wrap (j : Int) = (j : Int) := wrap_i64_nat (by omega)
        rw [← hm, ← hj]
        clear hsu o1 o2 o3 p1 p2 p3 hg ht h01 hq hm hj
        go_wp2_with fail
        refine HRk.out.mono ?_
        rintro e w2 ⟨rfl, hB2⟩
        have HB2 := hid (bstep HB.out hB2)
        clear hB2
        go_wp2
        go_roundw
        case rel => exact ⟨k + 1, by omega, by go_num, by rw [Hsu2.out, ← Hq.out, ← Hm.out], by rw [Hsu2.out, ← Hj.out], HB2.out⟩
        case measure => simp [intOf]; omega
      · rw [h01] at hc
        rw [h01, if_pos rfl, if_pos rfl] at hsu
        rw [hsu] at p1 p2 p3
        simp only at p1 p2 p3
        have Hsu2 := hid hsu
        obtain ⟨q, hq⟩ : ∃ q, q = G k (foK G p k).2 := ⟨_, rfl⟩
        obtain ⟨m, hm⟩ : ∃ q, q = (foK G p k).1 := ⟨_, rfl⟩
        obtain ⟨j, hj⟩ : ∃ q, q = (foK G p k).2 := ⟨_, rfl⟩
        rw [← hq, ← hm] at p2 p3
        rw [← hq] at hg
        rw [← hj] at o1
        rw [← hq, ← hj] at HRk
        have Hq := hid hq; have Hm := hid hm; have Hj := hid hj
        have e1 : IntKind.i64.wrap (10 - q) = 10 - q := wrap_i64_of (by omega) (by omega)
        have i0 : ∀ w', (Instr.index 135 (.agg #[.int .i64 (10 - q), .int .i64 q]) (.int .i64 1)).run Try.prog w' = .ok (.int .i64 q) w' := fun w' => run_index2 [10 - q, q] rfl (k := 1) (by omega) w'
        have e2 : IntKind.i64.wrap (m * q) = m * q := wrap_i64_of (by omega) (by omega)
        have e3 : IntKind.i64.wrap ((j : Int) + 1) = (j : Int) + 1 := wrap_i64_of (by omega) (by omega)
        rw [← hm, ← hj]
        clear hsu o1 o2 o3 p1 p2 p3 hg ht h01 hq hm hj
        go_wp2_with fail
        refine HRk.out.mono ?_
        rintro e w2 ⟨rfl, hB2⟩
        have HB2 := hid (bstep HB.out hB2)
        clear hB2
        go_wp2
        go_roundw
        case rel => exact ⟨k + 1, by omega, by go_num, by rw [Hsu2.out, ← Hq.out, ← Hm.out], by rw [Hsu2.out, ← Hj.out]; go_num, HB2.out⟩
        case measure => simp [intOf]; omega
    · obtain rfl : k = p.length := by omega
      go_wp2
      go_ret
      exact ⟨by rw [← Hall.out]; rfl, HB.out⟩

end Go.Proofs.Ytnnojhpioenhbaa

namespace Go.Proofs.Ytnnojhpioenhbaa
open Go.RowKit Go.Shelf

/-- the ways to a slot from the pins of the row that is d from the end -/
def bkRow (G : Nat → Nat → Int) (n s d : Nat) : List Int := (List.range (n - d + 1)).map (Fb G n s d)
def backL (G : Nat → Nat → Int) (n s : Nat) : List (List Int) := (List.range n).map fun r => bkRow G n s (n - r)
theorem bkRow_len (G : Nat → Nat → Int) (n s d : Nat) : (bkRow G n s d).length = n - d + 1 := by simp [bkRow]
theorem bkRow_nth (G : Nat → Nat → Int) (n s d : Nat) {k : Nat} (hk : k < n - d + 1) : nth (bkRow G n s d) k = Fb G n s d k := by
  rw [nth_eq (by rw [bkRow_len]; exact hk)]; simp [bkRow]
def rowK (G : Nat → Nat → Int) (n s d k : Nat) : List Int := (List.range (n - d + 1)).map fun j => if j < k then Fb G n s d j else 0
theorem rowK_len (G : Nat → Nat → Int) (n s d k : Nat) : (rowK G n s d k).length = n - d + 1 := by simp [rowK]
theorem rowK_zero (G : Nat → Nat → Int) (n s d : Nat) : rowK G n s d 0 = List.replicate (n - d + 1) 0 := by
  unfold rowK; rw [List.eq_replicate_iff]
  refine ⟨by simp, fun x hx => ?_⟩
  obtain ⟨j, _, rfl⟩ := List.mem_map.1 hx; simp
theorem rowK_end (G : Nat → Nat → Int) (n s d : Nat) : rowK G n s d (n - d + 1) = bkRow G n s d := by
  unfold rowK bkRow
  exact List.map_congr_left fun j hj => by rw [if_pos (List.mem_range.1 hj)]
theorem rowK_step (G : Nat → Nat → Int) (n s d k : Nat) : rowK G n s d (k + 1) = (rowK G n s d k).set k (Fb G n s d k) := by
  apply List.ext_getElem (by simp [rowK])
  intro i h1 h2
  rw [List.getElem_set]
  simp only [rowK, List.getElem_map, List.getElem_range]
  by_cases e : k = i
  · subst e; simp
  · rw [if_neg e]
    by_cases h : i < k
    · rw [if_pos h, if_pos (by omega)]
    · rw [if_neg h, if_neg (by omega)]
theorem bkRow_zero (G : Nat → Nat → Int) {n s : Nat} : bkRow G n s 0 = (List.replicate (n + 1) 0).set s 1 := by
  apply List.ext_getElem (by simp [bkRow])
  intro i h1 h2
  rw [List.getElem_set]
  simp only [bkRow, List.getElem_map, List.getElem_range, Fb, List.getElem_replicate]
  by_cases e : s = i
  · subst e; simp
  · rw [if_neg e, if_neg (fun h => e h.symm)]

theorem madeNils (n : Nat) : madeCells #[.slice none 0 0] n = (List.replicate n (Value.slice none 0 0)).toArray := by
  apply Array.ext'
  simp only [madeCells]
  rw [List.eq_replicate_iff]
  refine ⟨by simp, fun v hv => ?_⟩
  simp at hv
  obtain ⟨a, _, rfl⟩ := hv
  simp [Nat.mod_one]
theorem run_make_rows (w : World) (n : Nat) (hm : n ≤ 1000000) : (Instr.makeSlice 35 (.int .i64 n) (.int .i64 n)).run Try.prog w =
    .ok (.slice (some ⟨w.heap.size, 0, none⟩) n n) (w.alloc (.cells (List.replicate n (Value.slice none 0 0)).toArray 23)) := by
  obtain ⟨i, hi, hz, hs, hby⟩ := info_parts et35.hi
  have := run_make (P := Try.prog) (w := w) 35 23 i (.slice none 0 0) et35.hu hi hz .i64 .i64 n n (by omega) (by omega) (by rw [hby]; omega) (by omega)
  rw [this, hs]
  simp only [Int.toNat_natCast, Nat.mul_one, Value.cells, madeNils]

theorem Only.drew {S : Nat → Prop} {A C : World} (h : Only S A C) : Only S A C.drew := ⟨h.os, h.tape, h.output, h.size, h.block⟩
/-- the rows that are done -/
def Done (w : World) (G : Nat → Nat → Int) (n s d : Nat) (vs : List Value) : Prop :=
  vs.length = n ∧ (∀ v ∈ vs, v.oneCell' = true) ∧ ∀ j, n - d ≤ j → j < n → ∃ rb, vs[j]? = some (.slice (some ⟨rb, 0, none⟩) (j + 1) (j + 1)) ∧ w.heap[rb]? = some (.cells (intv (bkRow G n s (n - j))).toArray 2 (0, 0))
theorem Done.keep {w w' : World} {G : Nat → Nat → Int} {n s d : Nat} {vs : List Value} (h : Done w G n s d vs) (hk : ∀ (b : Nat) (cs : Array Value), w.heap[b]? = some (Obj.cells cs 2 (0, 0)) → w'.heap[b]? = w.heap[b]?) : Done w' G n s d vs :=
  ⟨h.1, h.2.1, fun j h1 h2 => by obtain ⟨rb, a, b⟩ := h.2.2 j h1 h2; exact ⟨rb, a, (hk _ _ b).trans b⟩⟩

/-- where the loop stands -/
structure BkAt (w wr : World) (G : Nat → Nat → Int) (n s d nb : Nat) : Prop where
  b : Below w.heap.size w wr
  nx : wr.heap[nb]? = some (.cells (intv (bkRow G n s d)).toArray 2 (0, 0))
  nge : w.heap.size < nb
  out : ∃ vs : List Value, wr.heap[w.heap.size]? = some (.cells vs.toArray 23 (0, 0)) ∧ Done wr G n s d vs

set_option maxRecDepth 100000 in
set_option maxHeartbeats 4000000 in
theorem back_c (g : Nat) (A : FA) (B : Bd) (R : Rd) (lv : Int) (s : Nat) (w : World) (hf : FrAt w g A B R lv) (hB : Bok B) (hlv : -5 ≤ lv ∧ lv ≤ 5) (hs : s ≤ B.pins.length) :
    Calls Try.prog 73 #[.pointer (some ⟨g, 0, none⟩), .int .i64 s] w fun e w' => ∃ b, e = .returned (.slice (some ⟨b, 0, none⟩) B.pins.length B.pins.length) ∧ RowsAt w' (some ⟨b, 0, none⟩) (backL (Rt B lv) B.pins.length s) ∧ Below w.heap.size w w' := by
  have HR := hid fun (w' : World) (h : Below w.heap.size w w') (r k : Nat) (hr : r < B.pins.length) (hk : k ≤ r) => right_c g A B R lv r k w' (hf.mono h) hB hlv hr hk
  have HF := hid fun (w' : World) (h : Below w.heap.size w w') => hf.mono h
  have hn8 := hB.n8
  have hpl := hB.pays
  have HG := hid fun n => Rt_ok B lv n
  obtain ⟨G, hG⟩ : ∃ G, G = Rt B lv := ⟨_, rfl⟩
  rw [← hG] at HR HG ⊢
  obtain ⟨N1, hN1⟩ : ∃ N1, N1 = (List.replicate B.pins.length (Value.slice none 0 0)).toArray := ⟨_, rfl⟩
  obtain ⟨N2, hN2⟩ : ∃ N1, N1 = (intv (List.replicate B.pays.length 0)).toArray := ⟨_, rfl⟩
  have hm1 := fun w' : World => run_make_rows w' B.pins.length (by omega)
  have hm2 := fun w' : World => run_make_ints et23 w' B.pays.length B.pays.length (Nat.le_refl _) (by omega)
  rw [← hN1] at hm1; rw [← hN2] at hm2
  have k0 := hf.k0
  obtain ⟨W1, hW1⟩ : ∃ W1, W1 = w.alloc (.cells N1 23) := ⟨_, rfl⟩
  have hz1 : W1.heap.size = w.heap.size + 1 := by rw [hW1]; simp
  have hB1 : Below w.heap.size w W1 := by rw [hW1]; exact bnew w _
  have q1 := (hf.mono hB1).k1
  have hh10 : W1.heap[w.heap.size]? = some (.cells N1 23 (0, 0)) := by rw [hW1]; exact heap_alloc_new w _
  obtain ⟨W2, hW2⟩ : ∃ W2, W2 = W1.alloc (.cells N2 2) := ⟨_, rfl⟩
  have hh2 : W2.heap[w.heap.size + 1]? = some (.cells N2 2 (0, 0)) := by rw [hW2, ← hz1]; exact heap_alloc_new W1 _
  have hh1 : W2.heap[w.heap.size]? = some (.cells N1 23 (0, 0)) := by rw [hW2]; exact ((bnew W1 _).block _ (by omega)).trans hh10
  have hB2 : Below w.heap.size w W2 := by rw [hW2]; exact bstep hB1 (bnew _ _)
  have f2 := HF.out W2 hB2
  have j0 := f2.k0
  have cs : W2.cell? ⟨w.heap.size + 1, s, none⟩ = some (.int .i64 0) := by
    rw [cell_of_row _ _ _ _ _ _ hh2, hN2, List.getElem?_toArray, intv_get, if_pos (by simp; omega)]
    rw [nth_eq (by simp; omega)]; simp
  have fs : W2.frozen? ⟨w.heap.size + 1, s, none⟩ = false := frozen_of_row _ _ _ _ _ hh2
  have hsI : (s : Int) < (B.pays.length : Int) := by omega
  have HW2 := hid hW2; have HW1 := hid hW1; have Hh1 := hid hh1; have Hh2 := hid hh2; have HB2 := hid hB2; have Hpl := hid hpl; have Hz1 := hid hz1; have HN1 := hid hN1; have HN2 := hid hN2
  clear hf hB hG hlv hW2 hh1 hh2 hB2 f2 hpl hW1 hh10 hB1 hz1 hN1 hN2
  go_enter Try.func73, Try.ntmps73
  go_upto_region 2 with (fail)
  rw [← HW1.out]
  go_upto_region 3 with (fail)
  rw [← HW2.out, Hz1.out]
  clear k0 q1
  have H0 := hid (show BkAt w (W2.setCell ⟨w.heap.size + 1, s, none⟩ (.int .i64 1)) G B.pins.length s 0 (w.heap.size + 1) from
    ⟨HB2.out.setCell (p := ⟨w.heap.size + 1, s, none⟩) (Nat.le_succ _) _, (heap_setCell_same W2 _ s _ 2 _ Hh2.out).trans (by rw [bkRow_zero, ← Hpl.out, ← intv_set, HN2.out]), Nat.lt_succ_self _,
      ⟨List.replicate B.pins.length (Value.slice none 0 0), ((setCell_only (w := W2) (w.heap.size + 1) s (.int .i64 1)).block _ (Array.getElem?_eq_some_iff.1 Hh1.out).1 (by show ¬ w.heap.size = w.heap.size + 1; omega)).trans (by rw [Hh1.out, HN1.out]), by simp,
        (by intro v hv; rw [List.mem_replicate] at hv; obtain ⟨_, rfl⟩ := hv; rfl), (fun j h1 h2 => absurd h1 (by omega))⟩⟩)
  have j0' : (W2.setCell ⟨w.heap.size + 1, s, none⟩ (.int .i64 1)).cell? ⟨g, 0, none⟩ = some (.slice A.pa B.pins.length A.pc) := (HF.out _ H0.out.b).k0
  have e1 : IntKind.i64.wrap ((B.pins.length : Int) - 1) = (B.pins.length : Int) - 1 := wrap_i64_of (by omega) (by omega)
  have HFb := hid fun d => @Fb_nonneg G B.pins.length s (HG.out _) d
  have HFl := hid fun d k => @Fb_le G B.pins.length s (HG.out _) hs d k
  go_wp2
  go_loopw [6, 7, 8, 9, 10] (fun nx r _ _ _ wr => ∃ d nb : Nat, d ≤ B.pins.length ∧ r = .int .i64 ((B.pins.length : Int) - 1 - d) ∧ nx = .slice (some ⟨nb, 0, none⟩) (B.pins.length - d + 1) (B.pins.length - d + 1) ∧ BkAt w wr G B.pins.length s d nb) (fun _ r _ _ _ _ => (intOf r + 1).toNat)
  case atStart => exact ⟨0, w.heap.size + 1, Nat.zero_le _, by rw [Int.natCast_zero, Int.sub_zero], by rw [Hpl.out]; rfl, H0.out⟩
  case round =>
    obtain ⟨d, nb, hd, rfl, rfl, hAt⟩ := hrel
    obtain ⟨wo, rfl⟩ : ∃ wo : World, wo = wr := ⟨_, rfl⟩
    have HAt := hid hAt
    clear hAt cs fs hsI j0 j0' e1 hm1 hm2 H0
    by_cases hlt : d < B.pins.length
    · obtain ⟨r, hr⟩ : ∃ r, r = B.pins.length - 1 - d := ⟨_, rfl⟩
      have hrI : (B.pins.length : Int) - 1 - (d : Int) = (r : Int) := by omega
      have hnd : B.pins.length - d + 1 = r + 2 := by omega
      have hnd1 : B.pins.length - (d + 1) + 1 = r + 1 := by omega
      have hndr : B.pins.length - (d + 1) = r := by omega
      rw [hrI, hnd]
      have e1 : IntKind.i64.wrap ((r : Int) + 1) = (r : Int) + 1 := wrap_i64_of (by omega) (by omega)
      obtain ⟨N3, hN3⟩ : ∃ N1, N1 = (intv (List.replicate (r + 1) 0)).toArray := ⟨_, rfl⟩
      have hm3 : ∀ w' : World, (Instr.makeSlice 23 (.int .i64 ((r : Int) + 1)) (.int .i64 ((r : Int) + 1))).run Try.prog w' = .ok (.slice (some ⟨w'.heap.size, 0, none⟩) (r + 1) (r + 1)) (w'.alloc (.cells N3 2)) := fun w' => by
        have := run_make_ints et23 w' (r + 1) (r + 1) (Nat.le_refl _) (by omega)
        rw [← hN3] at this; exact this
      have hz3 := heap_alloc_new wo (.cells N3 2)
      have Hz3 := hid (show (wo.alloc (.cells N3 2)).heap[wo.heap.size]? = some (.cells (intv (rowK G B.pins.length s (d + 1) 0)).toArray 2 (0, 0)) by rw [hz3, hN3, rowK_zero, hnd1])
      have HnbL := hid (show nb < wo.heap.size from (Array.getElem?_eq_some_iff.1 HAt.out.nx).1)
      have HwL := hid (show w.heap.size < wo.heap.size by have := HnbL.out; have := HAt.out.nge; omega)
      have hr8 : r < 8 := by omega
      have HN3 := hid hN3; have Hr := hid hr; have Hnd1 := hid hnd1; have Hndr := hid hndr; have HrI := hid hrI; have Hnd := hid hnd
      have hrn : r < B.pins.length := by omega
      clear hN3 hz3 hr hrI hnd hnd1 hndr
      go_wp2
      go_loopw [9, 10, 44] (fun _ _ i wr => ∃ k : Nat, k ≤ r + 1 ∧ i = .int .i64 k ∧ wr.heap[wo.heap.size]? = some (.cells (intv (rowK G B.pins.length s (d + 1) k)).toArray 2 (0, 0)) ∧ Only (fun b => b = wo.heap.size) (wo.alloc (.cells N3 2)) wr) (fun _ _ i _ => r + 1 - (intOf i).toNat)
      case atStart => exact ⟨0, Nat.zero_le _, rfl, Hz3.out, Only.refl _ _⟩
      case round =>
        obtain ⟨k, hk, rfl, hh, hO⟩ := hrel
        obtain ⟨wi, rfl⟩ : ∃ wi : World, wi = wr := ⟨_, rfl⟩
        have hBo : Below wo.heap.size wo wi := (bnew wo (.cells N3 2)).trans (hO.below (by simp) (by intro j hj e; have e' : j = wo.heap.size := e; omega))
        have HBi := hid (bstep HAt.out.b hBo)
        have Hnx := hid ((hBo.block nb HnbL.out).trans HAt.out.nx)
        have Hh := hid hh; have HO := hid hO
        have hrbL := (Array.getElem?_eq_some_iff.1 hh).1
        have HrbL := hid hrbL
        clear hh hO hBo
        by_cases hkr : k < r + 1
        · have hkI : (k : Int) < (r : Int) + 1 := by omega
          have HRk := hid (HR.out wi HBi.out r k hrn (by omega))
          have hq := HG.out (r + 1) r k (by omega) (by omega)
          have hnr := Hnd.out
          have x0 := HFb.out d (by omega) k (by omega)
          have x1 := HFl.out d k (by omega) (by omega)
          have y0 := HFb.out d (by omega) (k + 1) (by omega)
          have y1 := HFl.out d (k + 1) (by omega) (by omega)
          have ht := ten_le (r := d) (by omega)
          have hF : Fb G B.pins.length s (d + 1) k = (10 - G r k) * Fb G B.pins.length s d k + G r k * Fb G B.pins.length s d (k + 1) := by simp only [Fb]; rw [Hndr.out]
          have hst := rowK_step G B.pins.length s (d + 1) k
          have c1 : ∀ w' : World, w'.heap[nb]? = wi.heap[nb]? → w'.cell? ⟨nb, k, none⟩ = some (.int .i64 (Fb G B.pins.length s d k)) := fun w' e => by
            rw [cell_of_row _ _ _ _ _ _ (e.trans Hnx.out), List.getElem?_toArray, intv_get, if_pos (by rw [bkRow_len]; omega), bkRow_nth _ _ _ _ (by omega)]
          have c2 : ∀ w' : World, w'.heap[nb]? = wi.heap[nb]? → w'.cell? ⟨nb, k + 1, none⟩ = some (.int .i64 (Fb G B.pins.length s d (k + 1))) := fun w' e => by
            rw [cell_of_row _ _ _ _ _ _ (e.trans Hnx.out), List.getElem?_toArray, intv_get, if_pos (by rw [bkRow_len]; omega), bkRow_nth _ _ _ _ (by omega)]
          have c3 : ∀ w' : World, w'.heap[wo.heap.size]? = wi.heap[wo.heap.size]? → w'.cell? ⟨wo.heap.size, k, none⟩ = some (.int .i64 (nth (rowK G B.pins.length s (d + 1) k) k)) ∧ w'.frozen? ⟨wo.heap.size, k, none⟩ = false := fun w' e => by
            refine ⟨?_, frozen_of_row _ _ _ _ _ (e.trans Hh.out)⟩
            rw [cell_of_row _ _ _ _ _ _ (e.trans Hh.out), List.getElem?_toArray, intv_get, if_pos (by rw [rowK_len, Hnd1.out]; omega)]
          rw [hF] at hst
          obtain ⟨q, hqq⟩ : ∃ q, q = G r k := ⟨_, rfl⟩
          obtain ⟨x, hx⟩ : ∃ q, q = Fb G B.pins.length s d k := ⟨_, rfl⟩
          obtain ⟨y, hy⟩ : ∃ q, q = Fb G B.pins.length s d (k + 1) := ⟨_, rfl⟩
          rw [← hqq] at HRk hq; rw [← hqq, ← hx, ← hy] at hst
          rw [← hx] at x0 x1 c1; rw [← hy] at y0 y1 c2
          have p1 := Int.mul_nonneg (show (0 : Int) ≤ 10 - q by omega) x0
          have p2 := Int.mul_nonneg hq.1 y0
          have p3 := Int.mul_le_mul_of_nonneg_left (show x ≤ 100000000 by omega) (show (0 : Int) ≤ 10 - q by omega)
          have p4 := Int.mul_le_mul_of_nonneg_left (show y ≤ 100000000 by omega) hq.1
          have e2 : IntKind.i64.wrap (10 - q) = 10 - q := wrap_i64_of (by omega) (by omega)
          have e3 : IntKind.i64.wrap ((10 - q) * x) = (10 - q) * x := wrap_i64_of (by omega) (by omega)
          have e4 : IntKind.i64.wrap (q * y) = q * y := wrap_i64_of (by omega) (by omega)
          have e5 : IntKind.i64.wrap ((10 - q) * x + q * y) = (10 - q) * x + q * y := wrap_i64_of (by omega) (by omega)
          have e6 : IntKind.i64.wrap ((k : Int) + 1) = (k : Int) + 1 := wrap_i64_of (by omega) (by omega)
          have hk2 : (k : Int) + 1 < (r : Int) + 2 := by omega
          have hk3 : (k : Int) < (r : Int) + 2 := by omega
          have hk4 : (0 : Int) ≤ (k : Int) + 1 := by omega
          have hk5 : ((k : Int) + 1).toNat = k + 1 := by omega
          have Hst := hid hst; have C1 := hid c1; have C2 := hid c2; have C3 := hid c3
          clear hst c1 c2 c3 hF hqq hx hy x0 x1 y0 y1 ht p1 p2 p3 p4 hq hnr
          go_wp2_with fail
          refine HRk.out.mono ?_
          rintro e w2 ⟨rfl, hB2⟩
          have d1 := C1.out w2 (hB2.block nb (by have := HnbL.out; omega))
          have d2 := C2.out w2 (hB2.block nb (by have := HnbL.out; omega))
          obtain ⟨d3, d4⟩ := C3.out w2 (hB2.block _ hrbL)
          have Hh2 := hid ((hB2.block _ hrbL).trans Hh.out)
          have HO2 := hid (HO.out.trans (Only.of_below (S := fun b => b = wo.heap.size) hB2))
          clear hB2
          go_upto_region 12 with (fail)
          go_region_with (fail)
          all_goals (
            go_wp2
            go_roundw
            case rel => exact ⟨k + 1, by omega, by go_num, (heap_setCell_same w2 _ k _ 2 _ Hh2.out).trans (by rw [intv_set, Hst.out]), (HO2.out.trans (setCell_only (w := w2) wo.heap.size k _)).drew⟩
            case measure => simp [intOf]; omega)
        · obtain rfl : k = r + 1 := by omega
          have hkI : ¬ (((r + 1 : Nat) : Int) < (r : Int) + 1) := by omega
          have hb0 := (HO.out.block w.heap.size (by have := HwL.out; simp; omega) (by show ¬ w.heap.size = wo.heap.size; have := HwL.out; omega)).trans ((bnew wo (.cells N3 2)).block _ HwL.out)
          have hBo2 : ∀ j, j < wo.heap.size → wi.heap[j]? = wo.heap[j]? := fun j hj => (HO.out.block j (by simp; omega) (by show ¬ j = wo.heap.size; omega)).trans ((bnew wo (.cells N3 2)).block _ hj)
          obtain ⟨vs, hvs, hdone⟩ := HAt.out.out
          have hvi := hb0.trans hvs
          have hfrow := Hh.out
          rw [← Hnd1.out, rowK_end] at hfrow
          have cr : wi.cell? ⟨w.heap.size, r, none⟩ = some (vs.getD r undef) := by
            rw [cell_of_row _ _ _ _ _ _ hvi, List.getElem?_toArray]
            have : r < vs.length := by rw [hdone.1]; exact hrn
            rw [List.getElem?_eq_getElem this]; simp [List.getD, this]
          have fr : wi.frozen? ⟨w.heap.size, r, none⟩ = false := frozen_of_row _ _ _ _ _ hvi
          have hset := heap_setCell_same wi w.heap.size r _ 23 (.slice (some ⟨wo.heap.size, 0, none⟩) (r + 1) (r + 1)) hvi
          have hX : ∀ j, j < wi.heap.size → ¬ j = w.heap.size → (wi.setCell ⟨w.heap.size, r, none⟩ (.slice (some ⟨wo.heap.size, 0, none⟩) (r + 1) (r + 1))).heap[j]? = wi.heap[j]? := fun j hj hne => (setCell_only (w := wi) w.heap.size r _).block j hj hne
          have hnr := Hndr.out
          have HBk := hid (show BkAt w (wi.setCell ⟨w.heap.size, r, none⟩ (.slice (some ⟨wo.heap.size, 0, none⟩) (r + 1) (r + 1))) G B.pins.length s (d + 1) wo.heap.size from
            ⟨HBi.out.setCell (p := ⟨w.heap.size, r, none⟩) (Nat.le_refl _) _, (hX _ hrbL (by have := HwL.out; omega)).trans hfrow, HwL.out,
              ⟨vs.set r (.slice (some ⟨wo.heap.size, 0, none⟩) (r + 1) (r + 1)), hset.trans (by simp), by rw [List.length_set]; exact hdone.1,
                (by intro v hv; rcases List.mem_or_eq_of_mem_set hv with h | rfl; exact hdone.2.1 v h; rfl), fun j h1 h2 => by
                  by_cases e : r = j
                  · subst e
                    refine ⟨wo.heap.size, List.getElem?_set_self (by rw [hdone.1]; exact h2), (hX _ hrbL (by have := HwL.out; omega)).trans ?_⟩
                    rw [hfrow, show B.pins.length - r = d + 1 by omega]
                  · obtain ⟨rb, x1, x2⟩ := hdone.2.2 j (by omega) h2
                    have hlt := (Array.getElem?_eq_some_iff.1 x2).1
                    refine ⟨rb, by rw [List.getElem?_set_ne e]; exact x1, (hX rb (by omega) ?_).trans ((hBo2 rb hlt).trans x2)⟩
                    intro c; subst c; rw [hvs] at x2; cases x2⟩⟩)
          have e7 : IntKind.i64.wrap ((r : Int) - 1) = (r : Int) - 1 := wrap_i64_of (by omega) (by omega)
          clear hb0 hBo2 hvs hdone hvi hfrow hset hX hnr
          go_wp2
          go_roundw
          case rel => exact ⟨d + 1, wo.heap.size, by omega, by have := HrI.out; congr 1; omega, by rw [Hnd1.out], HBk.out⟩
          case measure => simp [intOf]
    · obtain rfl : d = B.pins.length := by omega
      obtain ⟨vs, hvs, hdone⟩ := HAt.out.out
      have Hrows := hid (show RowsAt wo (some ⟨w.heap.size, 0, none⟩) (backL G B.pins.length s) from .inr ⟨w.heap.size, 0, rfl, fun j hj => by
        have hj' : j < B.pins.length := by simpa [backL] using hj
        obtain ⟨rb, x1, x2⟩ := hdone.2.2 j (by omega) hj'
        have e : nthL (backL G B.pins.length s) j = bkRow G B.pins.length s (B.pins.length - j) := by rw [nthL_eq hj]; simp [backL]
        rw [e, bkRow_len, show B.pins.length - (B.pins.length - j) + 1 = j + 1 by omega]
        refine ⟨some ⟨rb, 0, none⟩, j + 1, ?_, ?_, fun h => by cases h⟩
        · rw [cell_of_row _ _ _ _ _ _ hvs, List.getElem?_toArray, Nat.zero_add]; exact x1
        · exact IntsAt.of_heap x2 fun i hi => by rw [List.getElem?_toArray, intv_get, Nat.zero_add, if_pos hi]⟩)
      have e8 : ¬ (0 : Int) ≤ (B.pins.length : Int) - 1 - (B.pins.length : Int) := by omega
      clear hvs hdone
      go_wp2
      go_ret
      exact ⟨_, rfl, Hrows.out, HAt.out.b⟩

end Go.Proofs.Ytnnojhpioenhbaa

namespace Go.Proofs.Ytnnojhpioenhbaa
open Go.RowKit Go.Shelf

/-- a list and an error -/
def SliceE (w : World) (err : Int) (xs : List Int) (e : Ending) (w' : World) : Prop := ∃ ao cap, e = .returned (.tuple #[.slice ao xs.length cap, .int .i64 err]) ∧ IntsAt w' ao xs ∧ (ao = none → cap = 0) ∧ Below w.heap.size w w'
def RowsE (w : World) (err : Int) (ls : List (List Int)) (e : Ending) (w' : World) : Prop := ∃ ao cap, e = .returned (.tuple #[.slice ao ls.length cap, .int .i64 err]) ∧ RowsAt w' ao ls ∧ (ao = none → cap = 0) ∧ Below w.heap.size w w'
def QE (w : World) (err : Int) (q : Int × Int) (e : Ending) (w' : World) : Prop := e = .returned (.tuple #[.agg #[.int .i64 q.1, .int .i64 q.2], .int .i64 err]) ∧ Below w.heap.size w w'
def IntE (w : World) (err v : Int) (e : Ending) (w' : World) : Prop := e = .returned (.tuple #[.int .i64 v, .int .i64 err]) ∧ Below w.heap.size w w'

theorem atErr_zero {B : Bd} {lv : Int} : atErr B lv = 0 ↔ Bok B ∧ -5 ≤ lv ∧ lv ≤ 5 := by
  rw [← bok_iff]
  unfold atErr
  by_cases h0 : bdErr B = 0
  · rw [if_pos h0]
    cases hw : within (-5) 5 [lv] with
    | true => have := within_one.1 hw; simp [h0, this]
    | false =>
      have : ¬ (-5 ≤ lv ∧ lv ≤ 5) := fun h => by rw [within_one.2 h] at hw; cases hw
      simp [h0]; omega
  · rw [if_neg h0]
    exact ⟨fun h => absurd h h0, fun h => h.1⟩
theorem levelled_bad (pa : Option Addr) (pc : Nat) (ya : Option Addr) (yc : Nat) (B : Bd) (w : World) (lv : Int) (hb : BdAt w pa ya B) (hl : B.pins.length ≤ 1000000) (hy : B.pays.length ≤ 1000000) (h0 : ¬ atErr B lv = 0) :
    Calls Try.prog 66 #[.agg #[.slice pa B.pins.length pc, .slice ya B.pays.length yc], .int .i64 lv] w (NoFr w (atErr B lv)) := by
  have hE : atErr B lv = if bdErr B = 0 then (if within (-5) 5 [lv] then 0 else 2) else bdErr B := rfl
  by_cases hbd : bdErr B = 0
  · rw [if_pos hbd] at hE
    cases hw : within (-5) 5 [lv] with
    | true => rw [hw, if_pos rfl] at hE; exact absurd hE h0
    | false =>
      rw [hw, if_neg (by simp)] at hE
      rw [hE]
      exact levelled_bad2 pa pc ya yc B w lv hb hl hy hbd hw
  · rw [if_neg hbd] at hE
    rw [hE]
    exact levelled_bad1 pa pc ya yc B w lv hb hl hy hbd
theorem levelled_good (pa : Option Addr) (pc : Nat) (ya : Option Addr) (yc : Nat) (B : Bd) (w : World) (lv : Int) (hb : BdAt w pa ya B) (hl : B.pins.length ≤ 1000000) (hy : B.pays.length ≤ 1000000) (h0 : atErr B lv = 0) :
    Calls Try.prog 66 #[.agg #[.slice pa B.pins.length pc, .slice ya B.pays.length yc], .int .i64 lv] w (fun e w' => ∃ g, e = .returned (.tuple #[.pointer (some ⟨g, 0, none⟩), .int .i64 0]) ∧ FrAt w' g (fa0 pa pc ya yc) B R0 lv ∧ Below w.heap.size w w') := by
  obtain ⟨h1, h2⟩ := atErr_zero.1 h0
  refine (levelled_ok pa pc ya yc B w lv hb hl hy (bok_iff.2 h1) (within_one.2 h2)).mono ?_
  rintro e w' ⟨g, rfl, hg, hge, hB⟩
  exact ⟨g, rfl, frAt_of hg (hb.mono hB) ⟨.inl rfl, .inl rfl⟩, hB⟩

def waysX (B : Bd) (lv : Int) : List Int := if atErr B lv = 0 then (wv (Rt B lv) B.pins.length).take (B.pins.length + 1) else []
def payX (B : Bd) (lv : Int) : Int × Int := if atErr B lv = 0 then payQ B lv else (0, 0)
def backErr (B : Bd) (lv slot : Int) : Int := if atErr B lv = 0 then (if within 0 (B.pins.length : Int) [slot] then 0 else 3) else atErr B lv
def backX (B : Bd) (lv slot : Int) : List (List Int) := if backErr B lv slot = 0 then backL (Rt B lv) B.pins.length slot.toNat else []
def fallsErr (B : Bd) (lv : Int) (p : List Int) : Int := if atErr B lv = 0 then (if p.length = B.pins.length then (if within 0 1 p then 0 else 3) else 15) else atErr B lv
def fallsX (B : Bd) (lv : Int) (p : List Int) : Int := if fallsErr B lv p = 0 then fallsOf (Rt B lv) p else 0

section
attribute [local go_sem ↓] wp_get wp_get0 wp_getS wp92 wps92 wpa92
set_option maxRecDepth 100000 in
set_option maxHeartbeats 1000000 in
theorem pWays_c (pa : Option Addr) (pc : Nat) (ya : Option Addr) (yc : Nat) (B : Bd) (lv : Int) (w : World) (hb : BdAt w pa ya B) (hl : B.pins.length ≤ 1000000) (hy : B.pays.length ≤ 1000000) :
    Calls Try.prog 18 #[.agg #[.slice pa B.pins.length pc, .slice ya B.pays.length yc], .int .i64 lv] w (SliceE w (atErr B lv) (waysX B lv)) := by
  have HB0 := hid (bnew w (.cells #[.slice pa B.pins.length pc, .slice ya B.pays.length yc] 25))
  obtain ⟨W, hW⟩ : ∃ W, W = w.alloc (.cells #[.slice pa B.pins.length pc, .slice ya B.pays.length yc] 25) := ⟨_, rfl⟩
  have hbW := hb.mono HB0.out
  rw [← hW] at hbW HB0
  have k0 : W.cell? ⟨w.heap.size, 0, none⟩ = some (.slice pa B.pins.length pc) := by rw [hW]; simp [go_sem]
  have k1 : W.cell? ⟨w.heap.size, 1, none⟩ = some (.slice ya B.pays.length yc) := by rw [hW]; simp [go_sem]
  have HW := hid hW
  unfold SliceE
  by_cases h0 : atErr B lv = 0
  · have hx : waysX B lv = (wv (Rt B lv) B.pins.length).take (B.pins.length + 1) := by unfold waysX; rw [if_pos h0]
    obtain ⟨hBk, hlv⟩ := atErr_zero.1 h0
    have hn8 := hBk.n8; have hpl := hBk.pays
    have HC := hid (levelled_good pa pc ya yc B W lv hbW hl hy h0)
    have HWy := hid fun (g : Nat) (w' : World) (h : FrAt w' g (fa0 pa pc ya yc) B R0 lv) => ways_c g _ B R0 lv w' h hBk hlv
    have Hlen := hid (show (wv (Rt B lv) B.pins.length).length = 9 by simp [wv])
    rw [h0, hx]
    obtain ⟨ws, hws⟩ : ∃ ws, ws = wv (Rt B lv) B.pins.length := ⟨_, rfl⟩
    rw [← hws] at HWy Hlen ⊢
    have hV9 : ((intv ws).toArray.size == 9) = true := by simp [intv_length, Hlen.out]
    have hVo : (intv ws).toArray.all (·.oneCell') = true := by simp only [List.all_toArray]; exact List.all_eq_true.2 (intv_one _)
    obtain ⟨V, hV⟩ : ∃ V, V = (intv ws).toArray := ⟨_, rfl⟩
    rw [← hV] at HWy hV9 hVo
    obtain ⟨N2, hN2⟩ : ∃ N1, N1 = intv (List.replicate B.pays.length 0) := ⟨_, rfl⟩
    have hm2 := fun w' : World => run_make_ints et23 w' B.pays.length B.pays.length (Nat.le_refl _) (by omega)
    rw [← hN2] at hm2
    have HN2 := hid hN2; have HV := hid hV; have Hpl := hid hpl
    have Htl := hid (show (ws.take (B.pins.length + 1)).length = B.pays.length by rw [List.length_take, Hlen.out]; omega)
    clear hW hbW hb hl hy h0 hx hBk hlv hws hV hN2 hpl
    go_enter Try.func18, Try.ntmps18
    go_upto_region 1 with (fail)
    rw [← HW.out]
    go_wp2_with fail
    refine HC.out.mono ?_
    rintro e w1 ⟨g, rfl, hfr, hB⟩
    have HB1 := hid (bstep HB0.out hB); have Hfr := hid hfr
    have k1 := cstep k1 hB
    clear hB hfr k0 HC
    go_wp2_with fail
    refine (HWy.out g w1 Hfr.out).mono ?_
    rintro e w2 ⟨rfl, hB⟩
    have HB2 := hid (bstep HB1.out hB)
    have k1 := cstep k1 hB
    have hz8 := heap_alloc_new w2 (.cells zero92 92)
    have q1 : partOk (w2.alloc (.cells zero92 92)) w2.heap.size 0 9 = true := partOk_of hz8 (by decide)
    have q2 : freeB (w2.alloc (.cells zero92 92)) w2.heap.size = true := freeB_of hz8
    have Hz8 := hid hz8
    clear hB hz8
    go_upto_region 5 with (fail)
    have hY8 : (World.setPart (w2.alloc (.cells zero92 92)) w2.heap.size 0 V).heap[w2.heap.size]? = some (.cells V 92 (0, 0)) := by
      rw [setPart_heap Hz8.out]
      have e : zero92.toList.drop (0 + V.size) = [] := List.drop_of_length_le (by have := beq_iff_eq.1 hV9; simp [zero92, intv_length]; omega)
      rw [e]; simp
    have hYB := (bnew w2 (.cells zero92 92)).trans ((setPart_only (w2.alloc (.cells zero92 92)) w2.heap.size 0 V).below (B := w2.heap.size) (by simp) (by intro j hj e; have e' : j = w2.heap.size := e; omega))
    obtain ⟨Y, hY⟩ : ∃ Y, Y = World.setPart (w2.alloc (.cells zero92 92)) w2.heap.size 0 V := ⟨_, rfl⟩
    rw [← hY] at hY8 hYB ⊢
    have k1 := cstep k1 hYB
    have HY8 := hid hY8; have HYB := hid (bstep HB2.out hYB)
    have HYz := hid (show w2.heap.size < Y.heap.size from (Array.getElem?_eq_some_iff.1 hY8).1)
    clear hY8 hYB hY q1 q2 hVo Hz8
    go_upto_region 6 with (fail)
    obtain ⟨Z, hZ⟩ : ∃ Z, Z = Y.alloc (.cells N2.toArray 2) := ⟨_, rfl⟩
    have hZn : Z.heap[Y.heap.size]? = some (.cells N2.toArray 2 (0, 0)) := by rw [hZ]; exact heap_alloc_new _ _
    have hZB : Below Y.heap.size Y Z := by rw [hZ]; exact bnew _ _
    have hZ8 := (hZB.block _ HYz.out).trans HY8.out
    rw [← hZ]
    have HZn := hid hZn; have HZB := hid hZB; have HZ8 := hid hZ8
    clear hZ hZn hZB hZ8
    have hcp := run_copy_row (P := Try.prog) Z 23 23 3 2 Y.heap.size 0 B.pays.length B.pays.length ⟨w2.heap.size, 0, none⟩ 9 9 N2.toArray 2 (intv (ws.take (B.pins.length + 1))) et23.hu (by kernel_rfl) HZn.out
      (by rw [intv_length, Htl.out]; exact (Nat.min_eq_right (by have := Hpl.out; omega)).symm)
      (fun j v hj => by
        rw [intv_get] at hj
        split at hj
        · rename_i hlt
          cases hj
          rw [Addr.add_lit, cell_of_row _ _ _ _ _ _ HZ8.out, HV.out, List.getElem?_toArray, intv_get, Nat.zero_add, if_pos (by rw [Hlen.out]; rw [Htl.out] at hlt; have := Hpl.out; omega), nth_take (by rw [Htl.out] at hlt; have := Hpl.out; omega)]
        · cases hj)
      (by rw [intv_length, Htl.out, HN2.out]; simp [intv_length]) (intv_one _)
    have hfin := setRow_heap (ds := (N2.toArray.toList.take 0 ++ intv (ws.take (B.pins.length + 1)) ++ N2.toArray.toList.drop (0 + (intv (ws.take (B.pins.length + 1))).length)).toArray) HZn.out
    have hdr : N2.toArray.toList.take 0 ++ intv (ws.take (B.pins.length + 1)) ++ N2.toArray.toList.drop (0 + (intv (ws.take (B.pins.length + 1))).length) = intv (ws.take (B.pins.length + 1)) := by
      have : (N2.toArray.toList.drop (0 + (intv (ws.take (B.pins.length + 1))).length)) = [] := List.drop_of_length_le (by rw [intv_length, Htl.out, HN2.out]; simp [intv_length])
      rw [this]; simp
    rw [hdr] at hfin hcp
    have hXB := (bstep HYB.out HZB.out).trans ((setRow_only (w := Z) Y.heap.size (intv (ws.take (B.pins.length + 1))).toArray).below (by have := (bstep HYB.out HZB.out).size; exact this) (by intro j hj e; have e' : j = Y.heap.size := e; have := HYB.out.size; omega))
    obtain ⟨X, hX⟩ : ∃ X, X = Z.setRow Y.heap.size (intv (ws.take (B.pins.length + 1))).toArray := ⟨_, rfl⟩
    rw [← hX] at hcp hfin hXB
    obtain ⟨cl, hcl⟩ : ∃ n, n = (intv (ws.take (B.pins.length + 1))).length := ⟨_, rfl⟩
    rw [← hcl] at hcp
    have Hfin := hid hfin; have HXB := hid hXB
    clear hfin hdr hXB hX hcl
    go_wp2
    go_ret2
    exact ⟨some ⟨Y.heap.size, 0, none⟩, B.pays.length, by rw [Htl.out]; rfl, IntsAt.of_heap Hfin.out fun j hj => by rw [List.getElem?_toArray, intv_get, Nat.zero_add, if_pos hj], (fun h => by cases h), HXB.out⟩
  · have hx : waysX B lv = [] := by unfold waysX; rw [if_neg h0]
    rw [hx]
    obtain ⟨v, hv⟩ : ∃ v, v = atErr B lv := ⟨_, rfl⟩
    have HC := hid (levelled_bad pa pc ya yc B W lv hbW hl hy h0)
    rw [← hv] at HC h0
    unfold NoFr at HC
    have HE := hid hv.symm
    clear hW hbW hb hl hy hv
    go_enter Try.func18, Try.ntmps18
    go_upto_region 1 with (fail)
    rw [← HW.out]
    go_wp2_with fail
    refine HC.out.mono ?_
    rintro e w1 ⟨rfl, hB⟩
    have HB1 := hid (bstep HB0.out hB)
    clear hB
    go_wp2
    go_ret2
    exact ⟨none, 0, by rw [HE.out]; rfl, .inl rfl, fun _ => rfl, HB1.out⟩


end
theorem results_cell2 {fn : Func} {p u : Tmp} (h : fn.results = #[.cell p 32, .tmp u]) (tmps : Array Value) (w : World) (g : Nat) (t : TypeId) (a b : Value) (fr : Nat × Nat)
    (hp : tmps.getD p undef = .pointer (some ⟨g, 0, none⟩)) (hg : w.heap[g]? = some (.cells #[a, b] t fr)) : (results fn tmps).run Try.prog w = .ok (.tuple #[.agg #[a, b], tmps.getD u undef]) w := by
  rw [results_cell_tmp h, hp]
  have := run_loadVar_row (P := Try.prog) w g t 32 #[a, b] fr _ hg Try.underlying32 rfl (by kernel_rfl)
  simp [asAddr, this, Result.andThen]

set_option maxRecDepth 100000 in
set_option maxHeartbeats 1000000 in
theorem pPay_c (pa : Option Addr) (pc : Nat) (ya : Option Addr) (yc : Nat) (B : Bd) (lv : Int) (w : World) (hb : BdAt w pa ya B) (hl : B.pins.length ≤ 1000000) (hy : B.pays.length ≤ 1000000) :
    Calls Try.prog 20 #[.agg #[.slice pa B.pins.length pc, .slice ya B.pays.length yc], .int .i64 lv] w (QE w (atErr B lv) (payX B lv)) := by
  have HB0 := hid (bstep (bnew w (.cells #[.slice pa B.pins.length pc, .slice ya B.pays.length yc] 25)) (bnew _ (.cells #[.int .i64 0, .int .i64 0] 32)))
  obtain ⟨W, hW⟩ : ∃ W, W = (w.alloc (.cells #[.slice pa B.pins.length pc, .slice ya B.pays.length yc] 25)).alloc (.cells #[.int .i64 0, .int .i64 0] 32) := ⟨_, rfl⟩
  have hbW := hb.mono HB0.out
  rw [← hW] at hbW HB0
  have k0 : W.cell? ⟨w.heap.size, 0, none⟩ = some (.slice pa B.pins.length pc) := by rw [hW]; simp [go_sem]
  have k1 : W.cell? ⟨w.heap.size, 1, none⟩ = some (.slice ya B.pays.length yc) := by rw [hW]; simp [go_sem]
  have hr : W.heap[w.heap.size + 1]? = some (.cells #[.int .i64 0, .int .i64 0] 32 (0, 0)) := by
    rw [hW]; have h := heap_alloc_new (w.alloc (.cells #[.slice pa B.pins.length pc, .slice ya B.pays.length yc] 25)) (.cells #[.int .i64 0, .int .i64 0] 32); rw [World.size_alloc] at h; exact h
  have HW := hid hW; have Hr := hid hr
  unfold QE
  by_cases h0 : atErr B lv = 0
  · have hx : payX B lv = payQ B lv := by unfold payX; rw [if_pos h0]
    obtain ⟨hBk, hlv⟩ := atErr_zero.1 h0
    have HC := hid (levelled_good pa pc ya yc B W lv hbW hl hy h0)
    have HP := hid fun (g : Nat) (w' : World) (h : FrAt w' g (fa0 pa pc ya yc) B R0 lv) => pay_c g _ B R0 lv w' h hBk hlv
    rw [h0, hx]
    obtain ⟨q, hq⟩ : ∃ q, q = payQ B lv := ⟨_, rfl⟩
    rw [← hq] at HP ⊢
    obtain ⟨a, c⟩ := q
    clear hW hr hbW hb hl hy h0 hx hBk hlv hq
    go_enter Try.func20, Try.ntmps20
    go_upto_region 1 with (fail)
    rw [← HW.out]
    go_wp2_with fail
    refine HC.out.mono ?_
    rintro e w1 ⟨g, rfl, hfr, hB⟩
    have HB1 := hid (bstep HB0.out hB); have Hfr := hid hfr
    have Hr1 := hid ((hB.block _ (Array.getElem?_eq_some_iff.1 Hr.out).1).trans Hr.out)
    clear hB hfr k0 k1 HC
    go_wp2_with fail
    refine (HP.out g w1 Hfr.out).mono ?_
    rintro e w2 ⟨rfl, hB⟩
    have HB2 := hid (bstep HB1.out hB)
    have hr2 := (hB.block _ (Array.getElem?_eq_some_iff.1 Hr1.out).1).trans Hr1.out
    have r0 : w2.cell? ⟨w.heap.size + 1, 0, none⟩ = some (.int .i64 0) := by rw [cell_of_row _ _ _ _ _ _ hr2]; rfl
    have r1 : w2.cell? ⟨w.heap.size + 1, 1, none⟩ = some (.int .i64 0) := by rw [cell_of_row _ _ _ _ _ _ hr2]; rfl
    have z0 : w2.frozen? ⟨w.heap.size + 1, 0, none⟩ = false := frozen_of_row w2 _ 0 _ _ hr2
    have z1 : w2.frozen? ⟨w.heap.size + 1, 1, none⟩ = false := frozen_of_row w2 _ 1 _ _ hr2
    have hfin : ((w2.setCell ⟨w.heap.size + 1, 0, none⟩ (.int .i64 a)).setCell ⟨w.heap.size + 1, 1, none⟩ (.int .i64 c)).heap[w.heap.size + 1]? = some (.cells #[.int .i64 a, .int .i64 c] 32 (0, 0)) :=
      heap_setCell_same _ _ 1 #[.int .i64 a, .int .i64 0] 32 _ (heap_setCell_same _ _ 0 _ 32 _ hr2)
    have Hfin := hid hfin
    clear hB hr2 hfin
    go_wp2
    refine bodyPost_ret (results_cell2 rfl _ _ (w.heap.size + 1) 32 _ _ (0, 0) rfl Hfin.out) rfl ?_
    exact ⟨rfl, (HB2.out.setCell (p := ⟨w.heap.size + 1, 0, none⟩) (Nat.le_succ _) _).setCell (p := ⟨w.heap.size + 1, 1, none⟩) (Nat.le_succ _) _⟩
  · have hx : payX B lv = (0, 0) := by unfold payX; rw [if_neg h0]
    rw [hx]
    obtain ⟨v, hv⟩ : ∃ v, v = atErr B lv := ⟨_, rfl⟩
    have HC := hid (levelled_bad pa pc ya yc B W lv hbW hl hy h0)
    rw [← hv] at HC h0
    unfold NoFr at HC
    have HE := hid hv.symm
    clear hW hr hbW hb hl hy hv
    go_enter Try.func20, Try.ntmps20
    go_upto_region 1 with (fail)
    rw [← HW.out]
    go_wp2_with fail
    refine HC.out.mono ?_
    rintro e w1 ⟨rfl, hB⟩
    have HB1 := hid (bstep HB0.out hB)
    have hr2 := (hB.block _ (Array.getElem?_eq_some_iff.1 Hr.out).1).trans Hr.out
    have r0 : w1.cell? ⟨w.heap.size + 1, 0, none⟩ = some (.int .i64 0) := by rw [cell_of_row _ _ _ _ _ _ hr2]; rfl
    have r1 : w1.cell? ⟨w.heap.size + 1, 1, none⟩ = some (.int .i64 0) := by rw [cell_of_row _ _ _ _ _ _ hr2]; rfl
    have z0 : w1.frozen? ⟨w.heap.size + 1, 0, none⟩ = false := frozen_of_row w1 _ 0 _ _ hr2
    have z1 : w1.frozen? ⟨w.heap.size + 1, 1, none⟩ = false := frozen_of_row w1 _ 1 _ _ hr2
    have Hfin := hid (heap_setCell_same _ _ 1 #[.int .i64 0, .int .i64 0] 32 (.int .i64 0) (heap_setCell_same _ _ 0 _ 32 (.int .i64 0) hr2))
    clear hB hr2
    go_wp2
    refine bodyPost_ret (results_cell2 rfl _ _ (w.heap.size + 1) 32 _ _ (0, 0) rfl Hfin.out) rfl ?_
    exact ⟨by rw [HE.out]; rfl, (HB1.out.setCell (p := ⟨w.heap.size + 1, 0, none⟩) (Nat.le_succ _) _).setCell (p := ⟨w.heap.size + 1, 1, none⟩) (Nat.le_succ _) _⟩

set_option maxRecDepth 100000 in
set_option maxHeartbeats 1000000 in
theorem pBack_c (slot : Int) (pa : Option Addr) (pc : Nat) (ya : Option Addr) (yc : Nat) (B : Bd) (lv : Int) (w : World) (hb : BdAt w pa ya B) (hl : B.pins.length ≤ 1000000) (hy : B.pays.length ≤ 1000000) :
    Calls Try.prog 22 #[.agg #[.slice pa B.pins.length pc, .slice ya B.pays.length yc], .int .i64 lv, .int .i64 slot] w (RowsE w (backErr B lv slot) (backX B lv slot)) := by
  have HB0 := hid (bnew w (.cells #[.slice pa B.pins.length pc, .slice ya B.pays.length yc] 25))
  obtain ⟨W, hW⟩ : ∃ W, W = w.alloc (.cells #[.slice pa B.pins.length pc, .slice ya B.pays.length yc] 25) := ⟨_, rfl⟩
  have hbW := hb.mono HB0.out
  rw [← hW] at hbW HB0
  have k0 : W.cell? ⟨w.heap.size, 0, none⟩ = some (.slice pa B.pins.length pc) := by rw [hW]; simp [go_sem]
  have k1 : W.cell? ⟨w.heap.size, 1, none⟩ = some (.slice ya B.pays.length yc) := by rw [hW]; simp [go_sem]
  have HW := hid hW
  unfold RowsE
  by_cases h0 : atErr B lv = 0
  · obtain ⟨hBk, hlv⟩ := atErr_zero.1 h0
    have HC := hid (levelled_good pa pc ya yc B W lv hbW hl hy h0)
    have HI := hid fun (b : Nat) (w' : World) (h : b = w'.heap.size) => within1 0 (B.pins.length : Int) slot b w' h
    cases hw : within 0 (B.pins.length : Int) [slot] with
    | true =>
      have hE : backErr B lv slot = 0 := by unfold backErr; rw [if_pos h0, hw]; rfl
      have hx : backX B lv slot = backL (Rt B lv) B.pins.length slot.toNat := by unfold backX; rw [if_pos hE]
      have hs := within_one.1 hw
      obtain ⟨s, rfl⟩ := Int.eq_ofNat_of_zero_le hs.1
      have HP := hid fun (g : Nat) (w' : World) (h : FrAt w' g (fa0 pa pc ya yc) B R0 lv) => back_c g _ B R0 lv s w' h hBk hlv (by omega)
      rw [hw] at HI
      rw [hE, hx, Int.toNat_natCast]
      have Hl := hid (show (backL (Rt B lv) B.pins.length s).length = B.pins.length by simp [backL])
      obtain ⟨ls, hls⟩ : ∃ q, q = backL (Rt B lv) B.pins.length s := ⟨_, rfl⟩
      rw [← hls] at HP Hl ⊢
      clear hW hbW hb hl hy h0 hE hx hBk hlv hls hs hw
      go_enter Try.func22, Try.ntmps22
      go_upto_region 1 with (fail)
      rw [← HW.out]
      go_wp2_with fail
      refine HC.out.mono ?_
      rintro e w1 ⟨g, rfl, hfr, hB⟩
      have HB1 := hid (bstep HB0.out hB); have Hfr := hid hfr
      have k0 := cstep k0 hB
      clear hB hfr k1 HC
      go_wp2_with fail
      refine (HI.out _ _ rfl).mono ?_
      rintro e w2 ⟨rfl, hB⟩
      have HB2 := hid (bstep HB1.out hB); have Hfr2 := hid (Hfr.out.mono hB)
      clear hB
      go_wp2_with fail
      refine (HP.out g w2 Hfr2.out).mono ?_
      rintro e w3 ⟨b, rfl, hrows, hB⟩
      have HB3 := hid (bstep HB2.out hB); have Hrows := hid hrows
      clear hB hrows
      go_wp2
      go_ret2
      exact ⟨_, _, by rw [Hl.out]; rfl, Hrows.out, (fun h => by cases h), HB3.out⟩
    | false =>
      have hE : backErr B lv slot = 3 := by unfold backErr; rw [if_pos h0, hw]; rfl
      have hx : backX B lv slot = [] := by unfold backX; rw [if_neg (by omega)]
      rw [hw] at HI
      rw [hE, hx]
      clear hW hbW hb hl hy h0 hE hx hBk hlv hw
      go_enter Try.func22, Try.ntmps22
      go_upto_region 1 with (fail)
      rw [← HW.out]
      go_wp2_with fail
      refine HC.out.mono ?_
      rintro e w1 ⟨g, rfl, hfr, hB⟩
      have HB1 := hid (bstep HB0.out hB)
      have k0 := cstep k0 hB
      clear hB hfr k1 HC
      go_wp2_with fail
      refine (HI.out _ _ rfl).mono ?_
      rintro e w2 ⟨rfl, hB⟩
      have HB2 := hid (bstep HB1.out hB)
      clear hB
      go_wp2
      go_ret2
      exact ⟨none, 0, rfl, .inl rfl, fun _ => rfl, HB2.out⟩
  · have hE : backErr B lv slot = atErr B lv := by unfold backErr; rw [if_neg h0]
    have hx : backX B lv slot = [] := by unfold backX; rw [if_neg (by rw [hE]; exact h0)]
    rw [hE, hx]
    obtain ⟨v, hv⟩ : ∃ v, v = atErr B lv := ⟨_, rfl⟩
    have HC := hid (levelled_bad pa pc ya yc B W lv hbW hl hy h0)
    rw [← hv] at HC h0
    unfold NoFr at HC
    have HE := hid hv.symm
    clear hW hbW hb hl hy hv hE hx
    go_enter Try.func22, Try.ntmps22
    go_upto_region 1 with (fail)
    rw [← HW.out]
    go_wp2_with fail
    refine HC.out.mono ?_
    rintro e w1 ⟨rfl, hB⟩
    have HB1 := hid (bstep HB0.out hB)
    clear hB
    go_wp2
    go_ret2
    exact ⟨none, 0, by rw [HE.out]; rfl, .inl rfl, fun _ => rfl, HB1.out⟩

set_option maxRecDepth 100000 in
set_option maxHeartbeats 1000000 in
theorem pFalls_c (a : Option Addr) (cap : Nat) (p : List Int) (pa : Option Addr) (pc : Nat) (ya : Option Addr) (yc : Nat) (B : Bd) (lv : Int) (w : World) (hb : BdAt w pa ya B) (hl : B.pins.length ≤ 1000000) (hy : B.pays.length ≤ 1000000) (hp : IntsAt w a p) (hpl : p.length ≤ 1000000) :
    Calls Try.prog 28 #[.agg #[.slice pa B.pins.length pc, .slice ya B.pays.length yc], .int .i64 lv, .slice a p.length cap] w (IntE w (fallsErr B lv p) (fallsX B lv p)) := by
  have HB0 := hid (bnew w (.cells #[.slice pa B.pins.length pc, .slice ya B.pays.length yc] 25))
  obtain ⟨W, hW⟩ : ∃ W, W = w.alloc (.cells #[.slice pa B.pins.length pc, .slice ya B.pays.length yc] 25) := ⟨_, rfl⟩
  have hbW := hb.mono HB0.out
  rw [← hW] at hbW HB0
  have k0 : W.cell? ⟨w.heap.size, 0, none⟩ = some (.slice pa B.pins.length pc) := by rw [hW]; simp [go_sem]
  have k1 : W.cell? ⟨w.heap.size, 1, none⟩ = some (.slice ya B.pays.length yc) := by rw [hW]; simp [go_sem]
  have HW := hid hW
  unfold IntE
  by_cases h0 : atErr B lv = 0
  · obtain ⟨hBk, hlv⟩ := atErr_zero.1 h0
    have HC := hid (levelled_good pa pc ya yc B W lv hbW hl hy h0)
    have HpW := hid (show IntsAt W a p from by rw [hW]; exact hp.mono (hW ▸ HB0.out))
    have HI := hid fun (w' : World) (h : Below W.heap.size W w') => within_c a cap 0 1 p w' (HpW.out.mono h) hpl
    by_cases hlen : p.length = B.pins.length
    · have hlI : (p.length : Int) = (B.pins.length : Int) := by omega
      cases hw : within 0 1 p with
      | true =>
        have hE : fallsErr B lv p = 0 := by unfold fallsErr; rw [if_pos h0, if_pos hlen, hw]; rfl
        have hx : fallsX B lv p = fallsOf (Rt B lv) p := by unfold fallsX; rw [if_pos hE]
        have HP := hid fun (g : Nat) (w' : World) (h : FrAt w' g (fa0 pa pc ya yc) B R0 lv) (hx : IntsAt w' a p) => falls_c g _ B R0 lv a cap p w' h hBk hlv hx hlen (fun k hk => by have := within_nth hw hk; omega)
        rw [hw] at HI
        rw [hE, hx]
        unfold TellI at HP
        obtain ⟨v, hv⟩ : ∃ q, q = fallsOf (Rt B lv) p := ⟨_, rfl⟩
        rw [← hv] at HP ⊢
        clear hW hbW hb hl hy h0 hE hx hBk hlv hv hw hp hpl hlen
        go_enter Try.func28, Try.ntmps28
        go_upto_region 1 with (fail)
        rw [← HW.out]
        go_wp2_with fail
        refine HC.out.mono ?_
        rintro e w1 ⟨g, rfl, hfr, hB⟩
        have HB1 := hid (bstep HB0.out hB); have Hfr := hid hfr; have HBW := hid hB
        have k0 := cstep k0 hB
        clear hB hfr k1 HC
        go_wp2_with fail
        refine (HI.out _ HBW.out).mono ?_
        rintro e w2 ⟨rfl, hB⟩
        have HB2 := hid (bstep HB1.out hB); have Hfr2 := hid (Hfr.out.mono hB); have Hp2 := hid (HpW.out.mono (bstep HBW.out hB))
        clear hB
        go_wp2_with fail
        refine (HP.out g w2 Hfr2.out Hp2.out).mono ?_
        rintro e w3 ⟨rfl, hB⟩
        have HB3 := hid (bstep HB2.out hB)
        clear hB
        go_wp2
        go_ret2
        exact ⟨rfl, HB3.out⟩
      | false =>
        have hE : fallsErr B lv p = 3 := by unfold fallsErr; rw [if_pos h0, if_pos hlen, hw]; rfl
        have hx : fallsX B lv p = 0 := by unfold fallsX; rw [if_neg (by omega)]
        rw [hw] at HI
        rw [hE, hx]
        clear hW hbW hb hl hy h0 hE hx hBk hlv hw hp hpl hlen
        go_enter Try.func28, Try.ntmps28
        go_upto_region 1 with (fail)
        rw [← HW.out]
        go_wp2_with fail
        refine HC.out.mono ?_
        rintro e w1 ⟨g, rfl, hfr, hB⟩
        have HB1 := hid (bstep HB0.out hB); have HBW := hid hB
        have k0 := cstep k0 hB
        clear hB hfr k1 HC
        go_wp2_with fail
        refine (HI.out _ HBW.out).mono ?_
        rintro e w2 ⟨rfl, hB⟩
        have HB2 := hid (bstep HB1.out hB)
        clear hB
        go_wp2
        go_ret2
        exact ⟨rfl, HB2.out⟩
    · have hlI : ¬ (p.length : Int) = (B.pins.length : Int) := by omega
      have hd : decide ((p.length : Int) = (B.pins.length : Int)) = false := decide_eq_false hlI
      have hE : fallsErr B lv p = 15 := by unfold fallsErr; rw [if_pos h0, if_neg hlen]
      have hx : fallsX B lv p = 0 := by unfold fallsX; rw [if_neg (by omega)]
      rw [hE, hx]
      clear hW hbW hb hl hy h0 hE hx hBk hlv hp hpl hlen
      go_enter Try.func28, Try.ntmps28
      go_upto_region 1 with (fail)
      rw [← HW.out]
      go_wp2_with fail
      refine HC.out.mono ?_
      rintro e w1 ⟨g, rfl, hfr, hB⟩
      have HB1 := hid (bstep HB0.out hB)
      have k0 := cstep k0 hB
      clear hB hfr k1 HC
      go_wp2
      go_ret2
      exact ⟨rfl, HB1.out⟩
  · have hE : fallsErr B lv p = atErr B lv := by unfold fallsErr; rw [if_neg h0]
    have hx : fallsX B lv p = 0 := by unfold fallsX; rw [if_neg (by rw [hE]; exact h0)]
    rw [hE, hx]
    obtain ⟨v, hv⟩ : ∃ v, v = atErr B lv := ⟨_, rfl⟩
    have HC := hid (levelled_bad pa pc ya yc B W lv hbW hl hy h0)
    rw [← hv] at HC h0
    unfold NoFr at HC
    have HE := hid hv.symm
    clear hW hbW hb hl hy hv hE hx hp hpl
    go_enter Try.func28, Try.ntmps28
    go_upto_region 1 with (fail)
    rw [← HW.out]
    go_wp2_with fail
    refine HC.out.mono ?_
    rintro e w1 ⟨rfl, hB⟩
    have HB1 := hid (bstep HB0.out hB)
    clear hB
    go_wp2
    go_ret2
    exact ⟨by rw [HE.out]; rfl, HB1.out⟩


end Go.Proofs.Ytnnojhpioenhbaa
