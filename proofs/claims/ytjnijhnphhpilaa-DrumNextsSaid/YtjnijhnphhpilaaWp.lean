/- Walks: times, Together. -/
import Derived.Test.YtjnijhnphhpilaaWk
namespace Go.Proofs.Ytjnijhnphhpilaa
open Go.RowKit Go.Shelf

def zero71 : Array Value := (intv (List.replicate 82 0)).toArray
theorem wpa71 {K : Act → World → Prop} {Q : Exit → Act → World → Prop} {a : Act} {w : World} (dst : Option Tmp) (t : TypeId) (pos : String) (after : Array Edge) (g : Option (Nat × Bool)) :
    Oper.wp Try.prog { dst := dst, op := .alloc 71, type := t, pos := pos, after := after, guard := g } a w K Q = K (a.put dst (.pointer (some ⟨w.heap.size, 0, none⟩))) (w.alloc (.cells zero71 71)) := wp_alloc_eq (by kernel_rfl) ..
attribute [local go_sem ↓] wp_get wp_get0 wp_getS wp73 wp71 wps73 wps71 wpa73 wpa71 wpb75 wpx75

/-- a feed, its own number 1 ahead of it -/
def feed1 (a : List Int) : List Int := (1 :: a) ++ List.replicate (81 - a.length) 0

theorem feed1_length {a : List Int} (h : a.length ≤ 81) : (feed1 a).length = 82 := by simp [feed1]; omega

theorem feed1_bits {a : List Int} (h : isBits a = true) : isBits (feed1 a) = true := by
  unfold feed1
  rw [isBits_append]
  have h1 : isBits (1 :: a) = true := by unfold isBits at *; rw [List.all_cons, h]; rfl
  have h2 : isBits (List.replicate (81 - a.length) 0) = true := by
    unfold isBits; rw [List.all_eq_true]; intro x hx; rw [List.eq_of_mem_replicate hx]; rfl
  rw [h1, h2]; rfl

def convTo (x y : List Int) (k : Nat) : Nat → Int
  | 0 => 0
  | i + 1 => (convTo x y k i + nth x i * nth y (k + 1 - i)) % 2

theorem convTo_bit (x y : List Int) (k : Nat) : ∀ i, convTo x y k i = 0 ∨ convTo x y k i = 1
  | 0 => .inl rfl
  | _ + 1 => mod_bit _

def timesF (a b : List Int) : List Int := (List.range (a.length + b.length)).map fun k => convTo (feed1 a) (feed1 b) k (k + 2)

theorem timesF_length (a b : List Int) : (timesF a b).length = a.length + b.length := by simp [timesF]

theorem nth_set (L : List Int) (k : Nat) (v : Int) (j : Nat) : nth (L.set k v) j = if k = j ∧ j < L.length then v else nth L j := by
  unfold nth
  rw [List.getD_eq_getElem?_getD, List.getD_eq_getElem?_getD, List.getElem?_set]
  by_cases h : k = j
  · subst h
    by_cases h2 : k < L.length
    · simp [h2]
    · simp [h2]
  · simp [h]

/-- copy of a list into a block of ints behind its first number -/
theorem run_copy_feed (ty : TypeId) (w : World) (g : Nat) (ao : Option Addr) (cap : Nat) (a : List Int) (t : TypeId) (hg : w.heap[g]? = some (.cells (intv (1 :: List.replicate 81 0)).toArray t (0, 0)))
    (hat : IntsAt w ao a) (ha : a.length ≤ 81) :
    ∃ w', (Builtin.copy_ #[22, 22] ty #[.slice (some ⟨g, 1, none⟩) 81 81, .slice ao a.length cap]).run Try.prog w = .ok (.int .i64 a.length) w' ∧ w'.heap[g]? = some (.cells (intv (feed1 a)).toArray t (0, 0)) ∧ Only (fun k => k = g) w w' := by
  obtain ⟨i, hi, _, hs, _⟩ := info_parts info3
  have hs1 : (Try.prog.info? 3).map (·.size) = some 1 := by rw [hi]; simp [hs]
  have hmin : Nat.min a.length 81 = a.length := Nat.min_eq_left ha
  by_cases h0 : a.length = 0
  · obtain rfl : a = [] := List.eq_nil_of_length_eq_zero h0
    refine ⟨w, ?_, ?_, Only.refl _ _⟩
    · rw [run_copy_none (P := Try.prog) _ 22 22 ty 3 _ ao _ _ _ cap Try.underlying22 hs1 (by simp)]
      rfl
    · rw [hg]; rfl
  · obtain ⟨b, off, rfl, _⟩ := hat.at (k := 0) (by omega)
    have hrun := run_copy_row (P := Try.prog) w 22 22 ty 3 g 1 81 81 ⟨b, off, none⟩ a.length cap _ t (intv a) Try.underlying22 hs1 hg
      (by rw [intv_length, hmin]) (fun j v hj => by
        rw [intv_get] at hj
        split at hj
        · rename_i hlt
          simp at hj; subst hj
          rw [Addr.add_lit]; exact hat.cell (by omega)
        · simp at hj) (by simp [intv_length]; omega) (intv_one _)
    rw [show goInt ((intv a).length : Int) = .int .i64 a.length from by rw [intv_length]; rfl] at hrun
    refine ⟨_, hrun, ?_, setRow_only _ _⟩
    rw [setRow_heap hg]
    have e : (intv (1 :: List.replicate 81 0)).take 1 ++ intv a ++ (intv (1 :: List.replicate 81 0)).drop (1 + (intv a).length) = intv (feed1 a) := by
      unfold feed1 intv
      simp only [List.map_cons, List.map_replicate, List.length_map, List.map_append, List.take_succ_cons, List.take_zero]
      rw [show 1 + a.length = a.length + 1 from by omega, List.drop_succ_cons, List.drop_replicate]
      simp
    rw [← e]

theorem nth_timesF (a b : List Int) {k : Nat} (h : k < a.length + b.length) : nth (timesF a b) k = convTo (feed1 a) (feed1 b) k (k + 2) := by
  rw [nth_eq (by rw [timesF_length]; exact h)]
  simp [timesF]

set_option maxRecDepth 100000 in
set_option maxHeartbeats 1000000 in
theorem times_c (a1 a2 : Option Addr) (c1 c2 : Nat) (x y : List Int) (w : World) (hx : IntsAt w a1 x) (hy : IntsAt w a2 y) (hl : x.length + y.length ≤ 40) (hbx : isBits x = true) (hby : isBits y = true) :
    Calls Try.prog 74 #[.slice a1 x.length c1, .slice a2 y.length c2] w (RunP w (timesF x y)) := by
  have Hx := hid hx; have Hy := hid hy; have Hbx := hid (feed1_bits hbx); have Hby := hid (feed1_bits hby)
  clear hx hy hbx hby
  go_enter Try.func74, Try.ntmps74
  go_upto_region 3 with (fail)
  obtain ⟨W2, hW2⟩ : ∃ W2, W2 = (w.alloc (.cells (zero71.setIfInBounds 0 (.int .i64 1)) 71)).alloc (.cells (zero71.setIfInBounds 0 (.int .i64 1)) 71) := ⟨_, rfl⟩
  rw [← hW2]
  have hs2 : W2.heap.size = w.heap.size + 2 := by rw [hW2]; simp
  have hB2 : Below w.heap.size w W2 := by rw [hW2]; exact ((Below.refl _ _).alloc (Nat.le_refl _) _).alloc (by simp) _
  have ez : zero71.setIfInBounds 0 (.int .i64 1) = (intv (1 :: List.replicate 81 0)).toArray := by
    unfold zero71
    rw [List.setIfInBounds_toArray]
    rfl
  have hx2 : W2.heap[w.heap.size]? = some (.cells (intv (1 :: List.replicate 81 0)).toArray 71 (0, 0)) := by
    rw [hW2, heap_push, heap_push, Array.getElem?_push, if_neg (by simp only [Array.size_push]; omega), Array.getElem?_push, if_pos rfl, ez]
  have hy2 : W2.heap[w.heap.size + 1]? = some (.cells (intv (1 :: List.replicate 81 0)).toArray 71 (0, 0)) := by
    rw [hW2, heap_push, heap_push, Array.getElem?_push, if_pos (by simp only [Array.size_push]), ez]
  obtain ⟨w3, hrun3, hx3, ho3⟩ := run_copy_feed 3 W2 w.heap.size a1 c1 x 71 hx2 (Hx.out.mono hB2) (by omega)
  have hB3 : Below w.heap.size w w3 := hB2.trans (ho3.below hB2.size (by intro j hj; omega))
  have hs3 : w.heap.size + 2 ≤ w3.heap.size := by have := ho3.size; omega
  have hy3 := (ho3.block (w.heap.size + 1) (by omega) (by omega)).trans hy2
  obtain ⟨w4, hrun4, hy4, ho4⟩ := run_copy_feed 3 w3 (w.heap.size + 1) a2 c2 y 71 hy3 (Hy.out.mono hB3) (by omega)
  have hB4 : Below w.heap.size w w4 := hB3.trans (ho4.below hB3.size (by intro j hj; omega))
  have hs4 : w.heap.size + 2 ≤ w4.heap.size := by have := ho3.size; have := ho4.size; omega
  have hx4 := (ho4.block w.heap.size (by omega) (by omega)).trans hx3
  have HB4 := hid hB4; have Hx4 := hid hx4; have Hy4 := hid hy4
  clear hW2 hs2 hs3 hB2 ez hx2 hy2 hx3 hB3 hy3 hB4 hx4 hy4 ho3 ho4
  have hmk : ∀ w, (Instr.makeSlice 22 (.int .i64 ((x.length : Int) + y.length)) (.int .i64 ((x.length : Int) + y.length))).run Try.prog w = .ok (.slice (some ⟨w.heap.size, 0, none⟩) (x.length + y.length) (x.length + y.length)) (w.alloc (.cells (intv (List.replicate (x.length + y.length) 0)).toArray 3)) :=
    fun w => by
      have h := run_make_ints w (x.length + y.length) (x.length + y.length) (by omega) (by omega)
      rw [Int.natCast_add] at h
      exact h
  have hN : x.length + y.length ≤ 40 := hl
  obtain ⟨N, hNe⟩ : ∃ N, N = x.length + y.length := ⟨_, rfl⟩
  obtain ⟨cv, hcv⟩ : ∃ cv, cv = convTo (feed1 x) (feed1 y) := ⟨_, rfl⟩
  have HNe := hid hNe; have Hcv := hid hcv
  clear hcv
  go_wp2
  go_loopw [8, 9, 26, 31] (fun _ _ i _ wr => ∃ (k : Nat) (L : List Int), k ≤ x.length + y.length ∧ i = .int .i64 k ∧ L.length = x.length + y.length ∧ wr.heap[w4.heap.size]? = some (.cells (intv L).toArray 3 (0, 0)) ∧
    (∀ j, j < x.length + y.length → nth L j = if j < k then cv j (j + 2) else 0) ∧ Below w4.heap.size w4 wr) (fun _ _ i _ _ => x.length + y.length - (intOf i).toNat)
  case atStart =>
    refine ⟨0, List.replicate (x.length + y.length) 0, Nat.zero_le _, rfl, by simp, heap_alloc_new w4 _, fun j hj => ?_, (Below.refl _ _).alloc (Nat.le_refl _) _⟩
    rw [if_neg (by omega), nth_eq (by simpa using hj)]
    simp
  case round =>
    obtain ⟨k, L, hk, rfl, hLl, hLh, hL, hB⟩ := hrel
    obtain ⟨wq, rfl⟩ : ∃ wq : World, wq = wr := ⟨_, rfl⟩
    have HLl := hid hLl; have HLh := hid hLh; have HL := hid hL; have HB := hid hB
    clear hLl hLh hL hB hNe
    by_cases hlt : k < x.length + y.length
    · have hlt2 : (k : Int) < (x.length : Int) + (y.length : Int) := by omega
      go_wp2
      go_loopw [9, 31] (fun _ i wr => ∃ (m : Nat) (M : List Int), m ≤ k + 2 ∧ i = .int .i64 m ∧ M.length = x.length + y.length ∧ wr.heap[w4.heap.size]? = some (.cells (intv M).toArray 3 (0, 0)) ∧
        (∀ j, j < x.length + y.length → nth M j = if j < k then cv j (j + 2) else if j = k then cv k m else 0) ∧ Below w4.heap.size w4 wr) (fun _ i _ => k + 2 - (intOf i).toNat)
      case atStart =>
        refine ⟨0, L, Nat.zero_le _, rfl, HLl.out, HLh.out, fun j hj => ?_, HB.out⟩
        rw [HL.out j hj]
        split
        · rfl
        · split
          · rw [Hcv.out]; rfl
          · rfl
      case round =>
        obtain ⟨m, M, hm, rfl, hMl, hMh, hM, hB2⟩ := hrel
        obtain ⟨wp, rfl⟩ : ∃ wp : World, wp = wr := ⟨_, rfl⟩
        by_cases hmlt : m < k + 2
        · have hck : wp.cell? ⟨w4.heap.size, k, none⟩ = some (.int .i64 (cv k m)) := by
            rw [cell_of_row _ _ _ _ _ _ hMh, List.getElem?_toArray, intv_get, if_pos (by rw [hMl]; exact hlt), hM k hlt, if_neg (by omega), if_pos rfl]
          have hfr : wp.frozen? ⟨w4.heap.size, k, none⟩ = false := frozen_of_row _ _ _ _ _ hMh
          have hxx : wp.cell? ⟨w.heap.size, m, none⟩ = some (.int .i64 (nth (feed1 x) m)) := by
            rw [cell_of_row _ _ _ _ _ _ ((hB2.block w.heap.size (by omega)).trans Hx4.out), List.getElem?_toArray, intv_get, if_pos (by rw [feed1_length (by omega)]; omega)]
          have hyy : wp.cell? ⟨w.heap.size + 1, k + 1 - m, none⟩ = some (.int .i64 (nth (feed1 y) (k + 1 - m))) := by
            rw [cell_of_row _ _ _ _ _ _ ((hB2.block (w.heap.size + 1) (by omega)).trans Hy4.out), List.getElem?_toArray, intv_get, if_pos (by rw [feed1_length (by omega)]; omega)]
          obtain ⟨r, hr⟩ : ∃ r, r = k + 1 - m := ⟨_, rfl⟩
          rw [← hr] at hyy
          have hrI : (k : Int) + 1 - (m : Int) = (r : Int) := by omega
          have hr82 : r < 82 := by omega
          have hm82 : m < 82 := by omega
          have hstep : bits .xor .i64 (cv k m) (bits .and .i64 (nth (feed1 x) m) (nth (feed1 y) r)) = cv k (m + 1) := by
            rw [and_bit (isBits_nth Hbx.out _) (isBits_nth Hby.out _), xor_bit (by rw [Hcv.out]; exact convTo_bit _ _ _ _) (mul_bit (isBits_nth Hbx.out _) (isBits_nth Hby.out _)), Hcv.out, hr]; rfl
          have Hstep := hid hstep; have HMl := hid hMl; have HMh := hid hMh; have HM := hid hM; have HB2 := hid hB2; have Hr := hid hr
          clear hstep hMl hMh hM hB2 hr
          go_wp2
          go_region
          go_wp2
          go_roundw
          case rel =>
            rw [Hstep.out]
            refine ⟨m + 1, M.set k (cv k (m + 1)), by omega, by go_num, by rw [List.length_set]; exact HMl.out, ?_, fun j hj => ?_, (HB2.out.setCell (Nat.le_refl _) _).drew⟩
            · exact (heap_setCell_same wp w4.heap.size k _ 3 _ HMh.out).trans (cellsSet (by unfold intv; rw [List.map_set]))
            · rw [nth_set, HM.out j hj, HMl.out]
              by_cases hjk : k = j
              · subst hjk
                rw [if_pos ⟨rfl, hj⟩, if_neg (by omega), if_pos rfl]
              · rw [if_neg (fun h => hjk h.1)]
                by_cases hjl : j < k
                · rw [if_pos hjl, if_pos hjl]
                · rw [if_neg hjl, if_neg hjl, if_neg (fun h => hjk h.symm), if_neg (fun h => hjk h.symm)]
          case measure => simp [intOf]; omega
        · obtain rfl : m = k + 2 := by omega
          have HMl := hid hMl; have HMh := hid hMh; have HM := hid hM; have HB2 := hid hB2
          clear hMl hMh hM hB2
          go_wp2
          go_roundw
          case rel =>
            refine ⟨k + 1, M, by omega, by go_num, HMl.out, HMh.out, fun j hj => ?_, HB2.out⟩
            rw [HM.out j hj]
            by_cases hjk : j = k
            · subst hjk; rw [if_neg (by omega), if_pos rfl, if_pos (by omega)]
            · by_cases hjl : j < k
              · rw [if_pos hjl, if_pos (by omega)]
              · rw [if_neg hjl, if_neg hjk, if_neg (by omega)]
          case measure => simp [intOf]; omega
    · obtain rfl : k = x.length + y.length := by omega
      have hLt : L = timesF x y := ext_nth (by rw [HLl.out, timesF_length]) fun j hj => by
        rw [HLl.out] at hj
        rw [HL.out j hj, nth_timesF x y hj, if_pos hj, Hcv.out]
      have HLt := hid hLt
      clear hLt
      go_wp2
      go_ret
      refine ⟨_, rfl, ⟨w4.heap.size, x.length + y.length, by rw [timesF_length]; rfl, ?_⟩, HB4.out.trans (HB.out.mono HB4.out.size)⟩
      rw [timesF_length]
      have hh := HLh.out
      rw [HLt.out] at hh
      refine ⟨by rw [intv_length, timesF_length]; simp, .inr ⟨w4.heap.size, x.length + y.length, _, rfl, HB4.out.size, hh, Nat.le_refl _, by unfold maxLen; omega, by simp [intv_length, timesF_length], ?_⟩⟩
      simp only [Nat.mul_one]
      rw [List.take_of_length_le (by simp [intv_length, timesF_length])]

end Go.Proofs.Ytjnijhnphhpilaa
