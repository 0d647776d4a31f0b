/- Walk: how many falls come to each slot, by the program (a map of spots). Walks: many, agrees, first; less and what is odd of a plumb. Walks: ContainsFunc of plumbs, CheckReadings, read, promised. -/
import Derived.Test.YtnnojhpioenhbaaKB
import Derived.Test.YtnnojhpioenhbaaKA
import Derived.WalkMore
namespace Go.Proofs.Ytnnojhpioenhbaa
open Go.RowKit Go.Shelf

theorem map_insert {w : World} {b : Nat} {f : Nat → Nat → Option Int} (h : MapFn w b f) {r j : Nat} (hr : r < 100) (hj : j < 100) (hn : f r j = none) (v : Int) :
    ∃ w1 : World, (Instr.mapUpdate 128 (.map (some b)) (spotV r j) (.int .i64 v)).run Try.prog w = .ok () w1 ∧ Only (fun k => k = b) w w1 ∧ MapFn w1 b (upd f r j (some v)) := by
  obtain ⟨L, c, hb, G, F⟩ := h
  have hck : ∀ em, (Instr.checkKey em 10000 127 (spotV r j)).run Try.prog w = .ok () w := fun em => law127.check w em (keyOf_spot hr hj)
  rcases find_spot w G F hr hj with ⟨h1, hno, h2⟩ | ⟨i, e, h1, hi, _, _, h2⟩
  · refine ⟨Go.ChangeMaps.setBlock w b (.map ((L ++ [({ r := r, j := j, v := v, b := c } : Ent)]).map Ent.me).toArray (c + 1)), ?_, setBlock_only _ _ _, ⟨_, _, setBlock_at hb, G.push hr hj hno v, F.push hno v⟩⟩
    simp [Instr.mapUpdate, run_underlying Try.underlying128, MapKept.run_getObj_map hb, hck, h1, MapKept.run_setObj_map _ hb, Result.andThen, Go.ChangeMaps.setBlock, Ent.me]
  · rw [hn] at h2; cases h2

/-- what the map holds ahead of row r, and within it -/
def fnRow (R : Nat → Nat → Int) (r : Nat) : Nat → Nat → Option Int := fun r' j => if r' = r ∧ j ≤ r then some (W R r j) else none
def fnIn (R : Nat → Nat → Int) (r k : Nat) : Nat → Nat → Option Int := fun r' j =>
  if r' = r then (if k ≤ j ∧ j ≤ r then some (W R r j) else none) else if r' = r + 1 ∧ j ≤ k ∧ 0 < k then some (if j < k then W R (r + 1) j else W R r (k - 1) * R r (k - 1)) else none
theorem fnIn_zero (R : Nat → Nat → Int) (r r' j : Nat) : fnIn R r 0 r' j = fnRow R r r' j := by
  unfold fnIn fnRow
  by_cases h : r' = r
  · simp [h]
  · simp [h]
theorem fnIn_end (R : Nat → Nat → Int) (r r' j : Nat) : fnIn R r (r + 1) r' j = fnRow R (r + 1) r' j := by
  unfold fnIn fnRow
  by_cases h : r' = r
  · subst h
    rw [if_pos rfl, if_neg (by omega), if_neg (by omega)]
  · rw [if_neg h]
    by_cases h2 : r' = r + 1 ∧ j ≤ r + 1
    · rw [if_pos ⟨h2.1, h2.2, by omega⟩, if_pos h2]
      by_cases h3 : j < r + 1
      · rw [if_pos h3]
      · obtain rfl : j = r + 1 := by omega
        rw [if_neg h3]
        simp only [W, Nat.add_sub_cancel]
        rw [W_far R r (r + 1) (by omega)]; simp
    · rw [if_neg (fun c => h2 ⟨c.1, c.2.1⟩), if_neg h2]
/-- the value at the next row's pin k, ahead of pin k -/
def oldV (R : Nat → Nat → Int) (r k : Nat) : Int := if 0 < k then W R r (k - 1) * R r (k - 1) else 0
theorem oldV_add (R : Nat → Nat → Int) (r k : Nat) : oldV R r k + W R r k * (10 - R r k) = W R (r + 1) k := by
  unfold oldV
  cases k with
  | zero => simp [W]
  | succ k => simp [W]; omega
theorem fnIn_old (R : Nat → Nat → Int) (r k : Nat) : (fnIn R r k (r + 1) k).getD 0 = oldV R r k := by
  unfold fnIn oldV
  rw [if_neg (by omega)]
  by_cases h : 0 < k
  · rw [if_pos ⟨rfl, Nat.le_refl _, h⟩, if_pos h, if_neg (by omega)]; rfl
  · rw [if_neg (fun c => h c.2.2), if_neg h]; rfl
theorem fnIn_this (R : Nat → Nat → Int) {r k : Nat} (hk : k ≤ r) : fnIn R r k r k = some (W R r k) := by
  unfold fnIn; rw [if_pos rfl, if_pos ⟨Nat.le_refl _, hk⟩]
theorem fnIn_new (R : Nat → Nat → Int) (r k : Nat) : fnIn R r k (r + 1) (k + 1) = none := by
  unfold fnIn; rw [if_neg (by omega), if_neg (by omega)]
theorem fnIn_step (R : Nat → Nat → Int) {r k : Nat} (hk : k ≤ r) (r' j : Nat) :
    fnIn R r (k + 1) r' j = upd (upd (upd (fnIn R r k) (r + 1) k (some (W R (r + 1) k))) (r + 1) (k + 1) (some (W R r k * R r k))) r k none r' j := by
  unfold upd
  by_cases h1 : r' = r ∧ j = k
  · rw [if_pos h1]; obtain ⟨rfl, rfl⟩ := h1
    unfold fnIn; rw [if_pos rfl, if_neg (by omega)]
  · rw [if_neg h1]
    by_cases h2 : r' = r + 1 ∧ j = k + 1
    · rw [if_pos h2]; obtain ⟨rfl, rfl⟩ := h2
      unfold fnIn; rw [if_neg (by omega), if_pos ⟨rfl, Nat.le_refl _, by omega⟩, if_neg (by omega)]; simp
    · rw [if_neg h2]
      by_cases h3 : r' = r + 1 ∧ j = k
      · rw [if_pos h3]; obtain ⟨rfl, rfl⟩ := h3
        unfold fnIn; rw [if_neg (by omega), if_pos ⟨rfl, by omega, by omega⟩, if_pos (by omega)]
      · rw [if_neg h3]
        unfold fnIn
        by_cases h4 : r' = r
        · subst h4
          rw [if_pos rfl, if_pos rfl]
          by_cases h5 : k ≤ j ∧ j ≤ r'
          · rw [if_pos h5, if_pos (by omega)]
          · rw [if_neg h5, if_neg (by omega)]
        · rw [if_neg h4, if_neg h4]
          by_cases h5 : r' = r + 1 ∧ j ≤ k ∧ 0 < k
          · rw [if_pos h5, if_pos (by omega), if_pos (by omega), if_pos (by omega)]
          · rw [if_neg h5, if_neg (by omega)]

attribute [local go_sem ↓] wp_get wp_get0 wp_getS wp92 wps92 wpa92

theorem wpList_del {ops : Array Oper} {rest : List Oper} {o : Oper} {a : Act} {Q : Exit → Act → World → Prop} (w : World) (hg : o.guard = none) (m x : Operand)
    (hop : o.op = Op.call { callee := Callee.builtin Builtin.delete, args := #[m, x], argTypes := #[128, 127] }) (b : Nat) (f : Nat → Nat → Option Int) (r j : Nat) (hr : r < 100) (hj : j < 100) (hm : a.eval m = .map (some b)) (hx : a.eval x = spotV r j) (h : MapFn w b f)
    (hK : ∀ w1, Only (fun k => k = b) w w1 → MapFn w1 b (upd f r j none) → wpList Try.prog ops Q rest (a.put o.dst (.tuple #[])) w1) : wpList Try.prog ops Q (o :: rest) a w := by
  refine wpList_plain hg fun K hK' => ?_
  obtain ⟨w1, hrun, h1, h2⟩ := map_delete h hr hj o.type
  unfold Oper.wp
  simp [execOp, hop, resolve, invoke, builtin, hm, hx, hrun, Result.andThen]
  exact hK' _ _ (hK w1 h1 h2)
theorem fnRow_zero (R : Nat → Nat → Int) (r j : Nat) : fnRow R 0 r j = upd (fun _ _ => none) 0 0 (some 1) r j := by
  unfold fnRow upd
  by_cases h : r = 0 ∧ j = 0
  · obtain ⟨rfl, rfl⟩ := h; simp [W]
  · rw [if_neg h, if_neg (by omega)]
theorem ten_le {r : Nat} (h : r ≤ 8) : (10 : Int) ^ r ≤ 100000000 := by
  have : ∀ k : Fin 9, (10 : Int) ^ (k : Nat) ≤ 100000000 := by decide
  exact this ⟨r, by omega⟩

/-- what the walk of ways knows of its world -/
structure WaAt (w wr : World) (f : Nat → Nat → Option Int) : Prop where
  b : Below w.heap.size w wr
  z : wr.heap[w.heap.size]? = some (.cells zero92 92 (0, 0))
  m : MapFn wr (w.heap.size + 1) f
theorem WaAt.mono {w wr wr' : World} {f : Nat → Nat → Option Int} (h : WaAt w wr f) (hB : Below wr.heap.size wr wr') : WaAt w wr' f :=
  ⟨bstep h.b hB, (hB.block _ (Array.getElem?_eq_some_iff.1 h.z).1).trans h.z, h.m.same (hB.block _ h.m.lt)⟩
theorem WaAt.turn {w wr wr' : World} {f f' : Nat → Nat → Option Int} (h : WaAt w wr f) (hO : Only (fun k => k = w.heap.size + 1) wr wr') (hm : MapFn wr' (w.heap.size + 1) f') : WaAt w wr' f' :=
  ⟨h.b.trans (hO.below h.b.size (by intro k hk e; have e' : k = w.heap.size + 1 := e; omega)), (hO.block _ (Array.getElem?_eq_some_iff.1 h.z).1 (by show ¬ w.heap.size = w.heap.size + 1; omega)).trans h.z, hm⟩
theorem WaAt.ext {w wr : World} {f g : Nat → Nat → Option Int} (h : WaAt w wr f) (e : ∀ r j, g r j = f r j) : WaAt w wr g := ⟨h.b, h.z, h.m.ext e⟩

/-- how many entries a range has left -/
def leftN (w : World) (b t : Nat) : Nat := match w.heap[t]?, w.heap[b]? with
  | some (.mapIter _ _ seen _), some (.map es _) => (leftOf es seen).size
  | _, _ => 0
theorem MapIt.left {w : World} {b t : Nat} {f : Nat → Nat → Option Int} {n : Nat} (h : MapIt w b t f n) : leftN w b t = n := by
  obtain ⟨L, c, since, c0, seen, h1, h2, h3, h4, h5, h6, h7, h8⟩ := h
  unfold leftN; rw [h1, h3]; exact h7.symm
theorem heap_sa (w : World) (o : Obj) (c j : Nat) (v : Value) {k : Nat} (hk : k < w.heap.size) (hne : ¬ k = c) : ((w.setCell ⟨c, j, none⟩ v).alloc o).heap[k]? = w.heap[k]? :=
  ((bnew (w.setCell ⟨c, j, none⟩ v) o).block k (by show k < (w.heap.modify _ _).size; rw [Array.size_modify]; exact hk)).trans ((setCell_only (w := w) c j v).block k hk hne)
theorem intv_set (xs : List Int) (j : Nat) (v : Int) : (intv xs).toArray.setIfInBounds j (.int .i64 v) = (intv (xs.set j v)).toArray := by
  apply Array.ext'; simp [intv]
/-- the falls of all slots -/
def wv (G : Nat → Nat → Int) (n : Nat) : List Int := (List.range 9).map (W G n)
def wvF (G : Nat → Nat → Int) (n : Nat) (f : Nat → Nat → Option Int) : List Int := (List.range 9).map fun j => if f n j = none then W G n j else 0
theorem wvF_len (G : Nat → Nat → Int) (n : Nat) (f : Nat → Nat → Option Int) : (wvF G n f).length = 9 := by simp [wvF]
theorem wvF_start (G : Nat → Nat → Int) (n : Nat) : wvF G n (fnRow G n) = List.replicate 9 0 := by
  unfold wvF
  rw [List.eq_replicate_iff]
  refine ⟨by simp, fun x hx => ?_⟩
  obtain ⟨j, _, rfl⟩ := List.mem_map.1 hx
  unfold fnRow
  by_cases h : j ≤ n
  · simp [h]
  · simp [h]; exact W_far G n j (by omega)
theorem wvF_end (G : Nat → Nat → Int) (n : Nat) {f : Nat → Nat → Option Int} (h : ∀ r j, f r j = none) : wvF G n f = wv G n := by
  unfold wvF wv
  exact List.map_congr_left fun j _ => by rw [h]; simp
theorem wvF_step (G : Nat → Nat → Int) {n j : Nat} {f : Nat → Nat → Option Int} : wvF G n (upd f n j none) = (wvF G n f).set j (W G n j) := by
  apply List.ext_getElem (by simp [wvF])
  intro i h1 h2
  rw [List.getElem_set]
  simp only [wvF, List.getElem_map, List.getElem_range, upd]
  by_cases e : j = i
  · subst e; simp
  · have e2 : ¬ i = j := fun h => e h.symm
    simp [e, e2]

set_option maxRecDepth 100000 in
set_option maxHeartbeats 4000000 in
theorem ways_c (g : Nat) (A : FA) (B : Bd) (R : Rd) (lv : Int) (w : World) (hf : FrAt w g A B R lv) (hB : Bok B) (hlv : -5 ≤ lv ∧ lv ≤ 5) :
    Calls Try.prog 67 #[.pointer (some ⟨g, 0, none⟩)] w fun e w' => e = .returned (.agg (intv (wv (Rt B lv) B.pins.length)).toArray) ∧ Below w.heap.size w w' := by
  have HF := hid fun (w' : World) (h : Below w.heap.size w w') => hf.mono h
  have HR := hid fun (w' : World) (h : Below w.heap.size w w') (r k : Nat) (hr : r < B.pins.length) (hk : k ≤ r) => right_c g A B R lv r k w' (hf.mono h) hB hlv hr hk
  have hn8 := hB.n8
  obtain ⟨G, hG⟩ : ∃ G, G = Rt B lv := ⟨_, rfl⟩
  have Hok := hid fun n => show Rok G n from by rw [hG]; exact Rt_ok B lv n
  have HRg := hid fun r k => show Rt B lv r k = G r k from by rw [hG]
  have hm := @run_makeMap Try.prog
  have hm0 := mapFn_made (w.alloc (.cells zero92 92))
  have hsz : (w.alloc (.cells zero92 92)).heap.size = w.heap.size + 1 := by simp
  rw [hsz] at hm0
  obtain ⟨X1, hins, hO1, hM1⟩ := map_insert hm0 (r := 0) (j := 0) (by omega) (by omega) rfl 1
  have hB0 : Below w.heap.size w ((w.alloc (.cells zero92 92)).alloc (.map #[] 0)) := bstep (bnew w _) (bnew _ _)
  have hz0 : ((w.alloc (.cells zero92 92)).alloc (.map #[] 0)).heap[w.heap.size]? = some (.cells zero92 92 (0, 0)) := ((bnew (w.alloc (.cells zero92 92)) _).block _ (by simp)).trans (heap_alloc_new w _)
  have HW1 := hid (WaAt.turn ⟨hB0, hz0, hm0⟩ hO1 (hM1.ext (fnRow_zero G)))
  have f1 := HF.out _ HW1.out.b
  have k0 := f1.k0
  unfold spotV at hins
  rw [show ((0 : Nat) : Int) = 0 from rfl] at hins
  clear hf hB hG hm0 hsz hO1 hM1 hB0 hz0 f1 hlv
  go_enter Try.func67, Try.ntmps67
  go_wp2
  go_loopw [4, 5, 6, 7, 20] (fun _ _ _ _ i wr => ∃ r : Nat, r ≤ B.pins.length ∧ i = .int .i64 r ∧ WaAt w wr (fnRow G r)) (fun _ _ _ _ i _ => B.pins.length - (intOf i).toNat)
  case atStart => exact ⟨0, Nat.zero_le _, rfl, HW1.out⟩
  case round =>
    obtain ⟨r, hr, rfl, hWa⟩ := hrel
    obtain ⟨wo, rfl⟩ : ∃ wo : World, wo = wr := ⟨_, rfl⟩
    have HWo := hid hWa
    clear hWa hins k0 HW1
    by_cases hlt : r < B.pins.length
    · have hw1 : IntKind.i64.wrap ((r : Int) + 1) = (r : Int) + 1 := wrap_i64_of (by omega) (by omega)
      go_wp2
      go_loopw [5, 6, 7, 25] (fun _ _ _ i wr => ∃ k : Nat, k ≤ r + 1 ∧ i = .int .i64 k ∧ WaAt w wr (fnIn G r k)) (fun _ _ _ i _ => r + 1 - (intOf i).toNat)
      case atStart => exact ⟨0, Nat.zero_le _, rfl, HWo.out.ext (fnIn_zero G r)⟩
      case round =>
        obtain ⟨k, hk, rfl, hWa⟩ := hrel
        obtain ⟨wi, rfl⟩ : ∃ wi : World, wi = wr := ⟨_, rfl⟩
        have HWi := hid hWa
        have hWi_lt := hid (show w.heap.size + 1 < wi.heap.size from hWa.m.lt)
        clear hWa
        by_cases hkr : k < r + 1
        · have hkI : (k : Int) < (r : Int) + 1 := by omega
          have HRi := hid (HR.out (wi.alloc (.cells #[.int .i64 r, .int .i64 k] 127)) (bstep HWi.out.b (bnew _ _)) r k hlt (by omega))
          rw [HRg.out] at HRi
          have hq := Hok.out (r + 1) r k (by omega) (by omega)
          have hold := oldV_add G r k
          have ha0 := W_nonneg (Hok.out r) k
          have ha1 := Int.le_trans (W_le (Hok.out r) k) (ten_le (by omega))
          have hn0 := W_nonneg (Hok.out (r + 1)) k
          have hn1 := Int.le_trans (W_le (Hok.out (r + 1)) k) (ten_le (by omega))
          have hst := fnIn_step G (r := r) (k := k) (by omega)
          have hl1 := fnIn_old G r k; have hl2 := fnIn_this G (r := r) (k := k) (by omega); have hl3 := fnIn_new G r k
          obtain ⟨q, hqq⟩ : ∃ q, q = G r k := ⟨_, rfl⟩
          obtain ⟨a, haa⟩ : ∃ q, q = W G r k := ⟨_, rfl⟩
          obtain ⟨o, hoo⟩ : ∃ q, q = oldV G r k := ⟨_, rfl⟩
          obtain ⟨nv, hnv⟩ : ∃ q, q = W G (r + 1) k := ⟨_, rfl⟩
          rw [← hqq, ← haa, ← hoo, ← hnv] at hold
          rw [← hqq] at HRi hq hst
          rw [← haa] at ha0 ha1 hst hl2
          rw [← hoo] at hl1
          rw [← hnv] at hn0 hn1 hst
          clear hqq haa hoo hnv
          have hp1 := Int.mul_nonneg ha0 (show (0 : Int) ≤ 10 - q by omega)
          have hp2 := Int.mul_nonneg ha0 hq.1
          have hp3 : a * (10 - q) + a * q = 10 * a := by grind
          have e1 : IntKind.i64.wrap (10 - q) = 10 - q := wrap_i64_of (by omega) (by omega)
          have e2 : IntKind.i64.wrap (a * (10 - q)) = a * (10 - q) := wrap_i64_of (by omega) (by omega)
          have e3 : IntKind.i64.wrap (o + a * (10 - q)) = nv := by rw [hold]; exact wrap_i64_of (by omega) (by omega)
          have e4 : IntKind.i64.wrap (a * q) = a * q := wrap_i64_of (by omega) (by omega)
          have e5 : IntKind.i64.wrap ((k : Int) + 1) = (k : Int) + 1 := wrap_i64_of (by omega) (by omega)
          have Hst := hid hst
          clear hst hold ha0 ha1 hn0 hn1 hp1 hp2 hp3 hq
          go_wp2_with fail
          refine HRi.out.mono ?_
          rintro e w2 ⟨rfl, hB2⟩
          have hWa2 := (HWi.out.mono (bnew wi (.cells #[.int .i64 r, .int .i64 k] 127))).mono hB2
          have s0 : w2.cell? ⟨wi.heap.size, 0, none⟩ = some (.int .i64 r) := cstep (by simp [go_sem]) hB2
          have s1 : w2.cell? ⟨wi.heap.size, 1, none⟩ = some (.int .i64 k) := cstep (by simp [go_sem]) hB2
          have hbs := hWi_lt.out
          have HB2 := hid hB2
          have Hw2 := hid hWa2
          clear hB2
          go_upto_region 10 with (fail)
          obtain ⟨Y, st, hE, hOY, hMY, hS⟩ := map_entry (w := w2.drew) (hWa2.m.same rfl) (r := r + 1) (j := k) (by omega) (by omega)
          obtain ⟨Z, hSt, hOZ, hMZ⟩ := hS Y nv rfl
          have L1 := map_look (w := w2.drew) (hWa2.m.same rfl) (r := r + 1) (j := k) (by omega) (by omega)
          have L2 := map_look (w := w2.drew) (hWa2.m.same rfl) (r := r) (j := k) (by omega) (by omega)
          have L3 := map_look hMY (r := r + 1) (j := k) (by omega) (by omega)
          have L4 := map_look hMY (r := r) (j := k) (by omega) (by omega)
          have u1 : (upd (fnIn G r k) (r + 1) k (some o) (r + 1) k).getD 0 = o := by simp [upd]
          have u2 : (upd (fnIn G r k) (r + 1) k (some o) r k).getD 0 = a := by simp [upd, hl2]
          rw [hl1] at hE L1 L3 L4
          rw [u1] at L3; rw [u2] at L4
          rw [hl2, Option.getD_some] at L2
          have sp1 : spotV (r + 1) k = .agg #[.int .i64 ((r : Int) + 1), .int .i64 (k : Int)] := rfl
          rw [sp1] at hE L1 L3
          unfold spotV at L2 L4
          have HwZ := hid (((hWa2.mono (below_drawN _ w2 1)).turn hOY hMY).turn hOZ hMZ)
          have y0 := hOY.cell (p := ⟨wi.heap.size, 0, none⟩) s0 (by show ¬ wi.heap.size = w.heap.size + 1; omega)
          have y1 := hOY.cell (p := ⟨wi.heap.size, 1, none⟩) s1 (by show ¬ wi.heap.size = w.heap.size + 1; omega)
          have z0 := hOZ.cell (p := ⟨wi.heap.size, 0, none⟩) y0 (by show ¬ wi.heap.size = w.heap.size + 1; omega)
          have z1 := hOZ.cell (p := ⟨wi.heap.size, 1, none⟩) y1 (by show ¬ wi.heap.size = w.heap.size + 1; omega)
          have Z0 := hid z0; have Z1 := hid z1
          clear hOY hMY hS hOZ hMZ u1 u2 sp1 hl1 z0 z1 hWa2
          go_cut [] from 34 to 48 (fun wc => wc = Z)
          case first =>
            go_region_with (fail)
            all_goals (
              go_wp2
              go_meet
              rfl)
          subst hcut
          have Z0' := Z0.out; have Z1' := Z1.out
          clear s0 s1 y0 y1 hE L1 L2 L3 L4 hSt Hw2 HB2
          go_upto_region 11 with (fail)
          obtain ⟨Y, st2, hE, hOY, hMY, hS⟩ := map_entry (w := wc.drew) (HwZ.out.m.same rfl) (r := r + 1) (j := k + 1) (by omega) (by omega)
          obtain ⟨Z, hSt, hOZ, hMZ⟩ := hS Y (a * q) rfl
          have L1 := map_look (w := wc.drew) (HwZ.out.m.same rfl) (r := r + 1) (j := k + 1) (by omega) (by omega)
          have L2 := map_look (w := wc.drew) (HwZ.out.m.same rfl) (r := r) (j := k) (by omega) (by omega)
          have L3 := map_look hMY (r := r + 1) (j := k + 1) (by omega) (by omega)
          have L4 := map_look hMY (r := r) (j := k) (by omega) (by omega)
          have u0 : (upd (fnIn G r k) (r + 1) k (some nv) (r + 1) (k + 1)).getD 0 = 0 := by simp [upd, hl3]
          have u1 : (upd (fnIn G r k) (r + 1) k (some nv) r k).getD 0 = a := by simp [upd, hl2]
          rw [u0] at hE L1 L3 L4
          rw [u1] at L2
          have u2 : (upd (upd (fnIn G r k) (r + 1) k (some nv)) (r + 1) (k + 1) (some 0) (r + 1) (k + 1)).getD 0 = 0 := by simp [upd]
          have u3 : (upd (upd (fnIn G r k) (r + 1) k (some nv)) (r + 1) (k + 1) (some 0) r k).getD 0 = a := by simp [upd, hl2]
          rw [u2] at L3; rw [u3] at L4
          have sp1 : spotV (r + 1) (k + 1) = .agg #[.int .i64 ((r : Int) + 1), .int .i64 ((k : Int) + 1)] := rfl
          rw [sp1] at hE L1 L3
          unfold spotV at L2 L4
          have HwY := hid (((HwZ.out.mono (below_drawN _ wc 1)).turn hOY hMY).turn hOZ hMZ)
          have y0 := hOY.cell (p := ⟨wi.heap.size, 0, none⟩) Z0' (by show ¬ wi.heap.size = w.heap.size + 1; omega)
          have y1 := hOY.cell (p := ⟨wi.heap.size, 1, none⟩) Z1' (by show ¬ wi.heap.size = w.heap.size + 1; omega)
          have z0 := hOZ.cell (p := ⟨wi.heap.size, 0, none⟩) y0 (by show ¬ wi.heap.size = w.heap.size + 1; omega)
          have z1 := hOZ.cell (p := ⟨wi.heap.size, 1, none⟩) y1 (by show ¬ wi.heap.size = w.heap.size + 1; omega)
          have X0 := hid z0; have X1 := hid z1
          clear hOY hMY hS hOZ hMZ u0 u1 u2 u3 sp1 hl2 hl3 z0 z1 HwZ Z0 Z1
          go_cut [] from 49 to 63 (fun wc2 => wc2 = Z)
          case first =>
            go_region_with (fail)
            all_goals (
              go_wp2
              go_meet
              rfl)
          subst hcut
          have x0 := X0.out; have x1 := X1.out
          clear Z0' Z1' y0 y1 hE L1 L2 L3 L4 hSt e1 e2 e3 e4
          go_wp2_with (at_delete; refine wpList_del _ rfl _ _ rfl (w.heap.size + 1) _ r k (by omega) (by omega) rfl rfl HwY.out.m ?_; (intro w9 hO9 hM9; refine Hid.out ?_))
          refine hid ?_
          have Hw9 := hid ((HwY.out.turn hO9 hM9).ext (fun r' j => Hst.out r' j))
          clear hO9 hM9
          go_wp2
          go_roundw
          case rel => exact ⟨k + 1, by omega, by go_num, Hw9.out⟩
          case measure => simp [intOf]; omega
        · obtain rfl : k = r + 1 := by omega
          have HWe := hid (HWi.out.ext (fun r' j => (fnIn_end G r r' j).symm))
          have hkI : ¬ (((r + 1 : Nat) : Int) < (r : Int) + 1) := by omega
          go_wp2
          go_roundw
          case rel => exact ⟨r + 1, by omega, by go_num, HWe.out⟩
          case measure => simp [intOf]; omega
    · obtain rfl : r = B.pins.length := by omega
      have hkI : ¬ ((B.pins.length : Int) < (B.pins.length : Int)) := by omega
      have hz8 := heap_alloc_new wo (.cells zero92 92)
      have Hz8 := hid hz8
      have HWb := hid (HWo.out.mono (bnew wo (.cells zero92 92)))
      have hob := hid (show w.heap.size + 1 < wo.heap.size from HWo.out.m.lt)
      clear hz8 hlt
      go_wp2_with (refine wpList_clear_ints et23 _ rfl _ rfl wo.heap.size 0 9 9 rfl 92 (intv (List.replicate 9 0)) Hz8.out ?c1 ?c2; rotate_right; (intro w1 hh1 hO1; refine Hid.out ?_))
      case c1 => simp [intv]
      refine hid ?_
      have hz : (intv (List.replicate 9 0)).take 0 ++ (intv (List.replicate 9 0) ++ (intv (List.replicate 9 0)).drop (0 + 9)) = intv (wvF G B.pins.length (fnRow G B.pins.length)) := by rw [wvF_start]; simp [intv]
      rw [hz] at hh1
      have hW1 : WaAt w w1 (fnRow G B.pins.length) := ⟨HWb.out.b.trans (hO1.below HWb.out.b.size (by intro k hk e; have e' : k = wo.heap.size := e; have := hob.out; omega)), (hO1.block _ (Array.getElem?_eq_some_iff.1 HWb.out.z).1 (by show ¬ w.heap.size = wo.heap.size; have := hob.out; omega)).trans HWb.out.z,
        HWb.out.m.same (hO1.block _ HWb.out.m.lt (by show ¬ w.heap.size + 1 = wo.heap.size; have := hob.out; omega))⟩
      obtain ⟨w2, n0, hrng, hB2, hIt⟩ := map_range hW1.m
      have h8 := hid ((hB2.block _ (Array.getElem?_eq_some_iff.1 hh1).1).trans hh1)
      have HB2 := hid (bstep hW1.b hB2)
      have Hz2 := hid ((hB2.block _ (Array.getElem?_eq_some_iff.1 hW1.z).1).trans hW1.z)
      have HIt := hid hIt
      have hsz1 := hid (show wo.heap.size < w1.heap.size from (Array.getElem?_eq_some_iff.1 hh1).1)
      clear hz hh1 hO1 hW1 hB2 hIt Hz8 HWb
      go_wp2
      go_loopw [9, 10] (fun _ _ wr => ∃ (f : Nat → Nat → Option Int) (n : Nat), MapIt wr (w.heap.size + 1) w1.heap.size f n ∧ (∀ r j v, f r j = some v → r = B.pins.length ∧ j ≤ B.pins.length ∧ v = W G B.pins.length j) ∧ wr.heap[wo.heap.size]? = some (.cells (intv (wvF G B.pins.length f)).toArray 92 (0, 0)) ∧ Below w.heap.size w wr ∧ wr.heap[w.heap.size]? = some (.cells zero92 92 (0, 0))) (fun _ _ wr => leftN wr (w.heap.size + 1) w1.heap.size)
      case atStart => exact ⟨_, n0, HIt.out, fun r j v h => by unfold fnRow at h; split at h <;> simp_all, h8.out, HB2.out, Hz2.out⟩
      case round =>
        obtain ⟨f, n, hIt, hf, h8, hB, hz⟩ := hrel
        obtain ⟨wk, rfl⟩ : ∃ wk : World, wk = wr := ⟨_, rfl⟩
        have Hf := hid hf; have HB := hid hB; have Hz := hid hz; have H8 := hid h8; have HIt := hid hIt
        rcases map_next hIt 0 with ⟨hnone, hrun⟩ | ⟨r, j, v, w3, m, hfv, hrun, hent, hIt3, hmn, hO⟩
        · have hwv := wvF_end G B.pins.length hnone
          rw [hwv] at h8
          have hp1 : partOk wk wo.heap.size 0 9 = true := partOk_of h8 (by simp [intv_length, wv])
          have hp2 : partOk wk w.heap.size 0 9 = true := partOk_of hz (by decide)
          have hfb : freeB wk w.heap.size = true := freeB_of hz
          have hpa : partAt wk wo.heap.size 0 9 = (intv (wv G B.pins.length)).toArray := by
            rw [partAt_of h8, show (0 : Nat) + 9 = ((intv (wv G B.pins.length)).toArray).size from by simp [intv_length, wv]]
            exact Array.extract_size
          have hps : ((partAt wk wo.heap.size 0 9).size == 9) = true := by rw [hpa]; simp [intv_length, wv]
          have hal : (partAt wk wo.heap.size 0 9).all (·.oneCell') = true := by rw [hpa]; simp only [List.all_toArray]; exact List.all_eq_true.2 (intv_one _)
          have Hpa := hid hpa
          clear hnone hIt hf h8 hB hz hwv hpa
          go_wp2
          have hfin : (World.setPart wk w.heap.size 0 (partAt wk wo.heap.size 0 9)).heap[w.heap.size]? = some (.cells (intv (wv G B.pins.length)).toArray 92 (0, 0)) := by
            rw [setPart_heap Hz.out, Hpa.out]
            have e : zero92.toList.drop (0 + (intv (wv G B.pins.length)).toArray.size) = [] := List.drop_of_length_le (by simp [zero92, intv_length, wv])
            rw [e]
            simp
          refine bodyPost_ret (results_cell_row rfl _ _ w.heap.size 92 _ (0, 0) _ rfl hfin Try.underlying92 rfl (by rw [show ((intv (wv G B.pins.length)).toArray).size = 9 from by simp [intv_length, wv]]; kernel_rfl)) rfl ?_
          refine ⟨by rw [show Rt B lv = G from funext fun r => funext fun k => HRg.out r k], HB.out.trans ((setPart_only wk w.heap.size 0 _).below HB.out.size (by intro j hj e; have e' : j = w.heap.size := e; omega))⟩
        · obtain ⟨rfl, hj, rfl⟩ := hf r j v hfv
          have hent3 := hent w3 rfl rfl
          have h83 := (hO.block _ (Array.getElem?_eq_some_iff.1 h8).1 (by show ¬ wo.heap.size = w1.heap.size; have := hsz1.out; omega)).trans h8
          have hz3 := (hO.block _ (Array.getElem?_eq_some_iff.1 hz).1 (by show ¬ w.heap.size = w1.heap.size; have := hsz1.out; have := hob.out; omega)).trans hz
          have hB3 := hB.trans (hO.below hB.size (by intro k hk e; have e' : k = w1.heap.size := e; have := hsz1.out; have := hob.out; omega))
          have hlt8 := (Array.getElem?_eq_some_iff.1 h83).1
          have hne8 : ¬ wo.heap.size = w3.heap.size := by omega
          have hc8 : w3.cell? ⟨wo.heap.size, j, none⟩ = some (.int .i64 (nth (wvF G B.pins.length f) j)) := by
            rw [cell_of_row _ _ _ _ _ _ h83, List.getElem?_toArray, intv_get, if_pos (by rw [wvF_len]; omega)]
          have hf8 : w3.frozen? ⟨wo.heap.size, j, none⟩ = false := frozen_of_row _ _ _ _ _ h83
          have H83 := hid h83; have Hz3 := hid hz3; have HB3 := hid hB3; have HIt3 := hid hIt3; have Hmn := hid hmn
          have Hst := hid (wvF_step G (n := B.pins.length) (j := j) (f := f))
          unfold spotV at hrun hent3
          have hj9 : j < 9 := by omega
          clear hIt hf h8 hB hz hent hIt3 hmn hO hfv h83 hz3 hB3
          have hb3 := HIt3.out.lt
          go_wp2
          go_roundw
          case rel =>
            refine ⟨_, m, HIt3.out.same (heap_sa _ _ _ _ _ hb3.1 (by have := hob.out; omega)) (heap_sa _ _ _ _ _ hb3.2 (by have := hsz1.out; omega)), fun r' j' v' h' => ?_, ?_, ?_, (heap_sa _ _ _ _ _ (Array.getElem?_eq_some_iff.1 Hz3.out).1 (by have := hob.out; omega)).trans Hz3.out⟩
            · unfold upd at h'
              split at h'
              · cases h'
              · exact Hf.out r' j' v' h'
            · rw [Hst.out]
              exact ((bnew _ _).block _ (by show wo.heap.size < (w3.heap.modify _ _).size; rw [Array.size_modify]; exact hlt8)).trans ((heap_setCell_same w3 wo.heap.size j _ 92 _ H83.out).trans (by rw [← intv_set]))
            · exact bstep (HB3.out.setCell (p := ⟨wo.heap.size, j, none⟩) (show w.heap.size ≤ wo.heap.size by have := hob.out; omega) _) (bnew _ _)
          case measure =>
            rw [(HIt3.out.same (heap_sa w3 _ wo.heap.size j _ hb3.1 (by have := hob.out; omega)) (heap_sa w3 _ wo.heap.size j _ hb3.2 (by have := hsz1.out; omega))).left, HIt.out.left]
            exact Hmn.out

end Go.Proofs.Ytnnojhpioenhbaa

namespace Go.Proofs.Ytnnojhpioenhbaa
open Go.RowKit Go.Shelf

def manyN (R : Rd) : Nat := R.plumbs.length + R.slots.length
/-- whether a level agrees with a reading -/
def agB (B : Bd) (R : Rd) (lv : Int) (i : Nat) : Bool :=
  if R.plumbs.length ≤ i then decide (0 < W (Rt B lv) B.pins.length (nth R.slots (i - R.plumbs.length)).toNat) else (decide ((nthP R.plumbs i).1 ≤ lv) && decide (lv ≤ (nthP R.plumbs i).2))
def firstFrom (p : Nat → Bool) : Nat → Nat → Nat
  | 0, k => k
  | f + 1, k => if p k then firstFrom p f (k + 1) else k
/-- the first at which p does not hold, of m -/
def firstN (p : Nat → Bool) (m : Nat) : Nat := firstFrom p m 0
theorem firstN_eq {p : Nat → Bool} {m k : Nat} (hk : k ≤ m) (h : allTo p k = true) (h2 : k < m → p k = false) : firstN p m = k := by
  have : ∀ d j, j + d = k → firstFrom p (m - j) j = k := by
    intro d
    induction d with
    | zero =>
      intro j hj
      obtain rfl : j = k := by omega
      by_cases hm : j < m
      · obtain ⟨f, hf⟩ : ∃ f, m - j = f + 1 := ⟨m - j - 1, by omega⟩
        rw [hf]; simp only [firstFrom]; rw [h2 hm]; rfl
      · rw [show m - j = 0 by omega]; rfl
    | succ d ih =>
      intro j hj
      obtain ⟨f, hf⟩ : ∃ f, m - j = f + 1 := ⟨m - j - 1, by omega⟩
      have := ih (j + 1) (by omega)
      rw [show m - (j + 1) = f by omega] at this
      rw [hf]; simp only [firstFrom]; rw [allTo_iff.1 h j (by omega)]; simpa using this
  exact this k 0 (by omega)
theorem firstN_spec (p : Nat → Bool) (m : Nat) : ∃ k, firstN p m = k ∧ k ≤ m ∧ allTo p k = true ∧ (k < m → p k = false) := by
  induction m with
  | zero => exact ⟨0, rfl, Nat.le_refl _, rfl, fun h => by omega⟩
  | succ m ih =>
    obtain ⟨k, h1, h2, h3, h4⟩ := ih
    by_cases hk : k < m
    · exact ⟨k, firstN_eq (by omega) h3 (fun _ => h4 hk), by omega, h3, fun _ => h4 hk⟩
    · obtain rfl : k = m := by omega
      cases hp : p k with
      | true => exact ⟨k + 1, firstN_eq (Nat.le_refl _) (by simp [allTo, h3, hp]) (fun h => by omega), Nat.le_refl _, by simp [allTo, h3, hp], fun h => by omega⟩
      | false => exact ⟨k, firstN_eq (by omega) h3 (fun _ => hp), by omega, h3, fun _ => hp⟩

/-- valid readings -/
structure Rok2 (B : Bd) (R : Rd) : Prop where
  m : manyN R ≤ 12
  plumb : ∀ i, i < R.plumbs.length → (nthP R.plumbs i).1 ≤ (nthP R.plumbs i).2 ∧ -5 ≤ (nthP R.plumbs i).1 ∧ (nthP R.plumbs i).2 ≤ 5
  slot : ∀ i, i < R.slots.length → 0 ≤ nth R.slots i ∧ nth R.slots i ≤ (B.pins.length : Int)

section
variable (g : Nat) (A : FA) (B : Bd) (R : Rd) (lv : Int) (w : World)
set_option maxRecDepth 100000 in
theorem many_c (hf : FrAt w g A B R lv) (hm : manyN R ≤ 1000000) :
    Calls Try.prog 88 #[.pointer (some ⟨g, 0, none⟩)] w fun e w' => e = .returned (.int .i64 (manyN R : Nat)) ∧ Below w.heap.size w w' := by
  have k2 := hf.k2; have k3 := hf.k3
  have hE : manyN R = R.plumbs.length + R.slots.length := rfl
  have hw : IntKind.i64.wrap ((R.plumbs.length : Int) + (R.slots.length : Int)) = (R.plumbs.length : Int) + (R.slots.length : Int) := wrap_i64_of (by omega) (by omega)
  have HE := hid hE
  clear hf hE hm
  go_enter Try.func88, Try.ntmps88
  go_upto_region 1 with (fail)
  go_quiet (fail)
  go_wp2
  go_ret
  exact ⟨ret_int (by rw [HE.out]; rfl), below_drawN _ _ _⟩

theorem plain2 : Try.prog.plainKey 2 = true := by kernel_rfl
theorem run_index_int (xs : List Int) (h9 : xs.length = 9) {k : Nat} (hk : k < 9) (w' : World) : (Instr.index 92 (.agg (intv xs).toArray) (.int .i64 k)).run Try.prog w' = .ok (.int .i64 (nth xs k)) w' := by
  obtain ⟨i, hi, hz, hs, hby⟩ := info_parts et23.hi
  have hp := run_part_plain (P := Try.prog) w' (e := 2) plain2 (xs := (intv xs).toArray) (off := k) (v := .int .i64 (nth xs k)) (by rw [List.getElem?_toArray, intv_get, if_pos (by omega)])
  have h9' : ¬ 9 ≤ k := by omega
  simp [Instr.index, asIntOf, run_underlying Try.underlying92, sizeOf, typeInfo, hi, hs, h9', hp, Result.andThen]

set_option maxRecDepth 100000 in
set_option maxHeartbeats 1000000 in
theorem agrees_c (i : Nat) (hf : FrAt w g A B R lv) (hB : Bok B) (hlv : -5 ≤ lv ∧ lv ≤ 5) (hR : Rok2 B R) (hi : i < manyN R) :
    Calls Try.prog 91 #[.pointer (some ⟨g, 0, none⟩), .int .i64 i] w (TellB w (agB B R lv i)) := by
  have hm := hR.m
  have hE : manyN R = R.plumbs.length + R.slots.length := rfl
  have k2 := hf.k2; have k3 := hf.k3; have k4 := hf.k4
  unfold TellB
  by_cases hp : R.plumbs.length ≤ i
  · have hpI : (R.plumbs.length : Int) ≤ (i : Int) := by omega
    have HW := hid fun (w' : World) (h : Below w.heap.size w w') => ways_c g A B R lv w' (hf.mono h) hB hlv
    obtain ⟨b, off, hsa, hc⟩ := hf.rd.2.at (k := i - R.plumbs.length) (by omega)
    have hs := hR.slot (i - R.plumbs.length) (by omega)
    have hag : agB B R lv i = decide (0 < W (Rt B lv) B.pins.length (nth R.slots (i - R.plumbs.length)).toNat) := by unfold agB; rw [if_pos hp]
    have hsub : IntKind.i64.wrap ((i : Int) - (R.plumbs.length : Int)) = ((i - R.plumbs.length : Nat) : Int) := by rw [wrap_i64_of (by omega) (by omega)]; omega
    obtain ⟨d, hd⟩ : ∃ d, d = i - R.plumbs.length := ⟨_, rfl⟩
    rw [← hd] at hc hs hag hsub
    obtain ⟨s, hs2⟩ := Int.eq_ofNat_of_zero_le hs.1
    have hn := hB.n8
    rw [hs2] at hc hag
    have hx := run_index_int (wv (Rt B lv) B.pins.length) (by simp [wv]) (k := s) (by omega)
    have hnw : nth (wv (Rt B lv) B.pins.length) s = W (Rt B lv) B.pins.length s := by unfold wv nth; simp [List.getD, show s < 9 by omega]
    rw [hnw] at hx
    have hag2 : agB B R lv i = decide (0 < W (Rt B lv) B.pins.length s) := hag
    obtain ⟨v, hv⟩ : ∃ v, v = W (Rt B lv) B.pins.length s := ⟨_, rfl⟩
    rw [← hv] at hag2 hx
    obtain ⟨V, hV⟩ : ∃ V, V = (intv (wv (Rt B lv) B.pins.length)).toArray := ⟨_, rfl⟩
    rw [← hV] at hx HW
    have hdl : (d : Int) < (R.slots.length : Int) := by omega
    rw [hsa] at k3
    have Hag := hid hag2
    clear hf hB hlv hR hag hag2 hd hs hs2 hn hnw hv hV hsa hE hm hi hp
    go_enter Try.func91, Try.ntmps91
    go_upto_region 3 with (fail)
    go_region_with (go_at_call 67; refine (HW.out _ (show Below w.heap.size w w.drew from below_drawN _ w 1)).mono ?_; rintro e w1 ⟨rfl, hB1⟩; have k3 := cstep (w := w.drew) k3 hB1; have hc := cstep (w := w.drew) hc hB1)
    all_goals (
      go_wp2
      go_ret
      exact ⟨ret_bool (by rw [Hag.out]), bstep (show Below w.heap.size w w.drew from below_drawN _ w 1) hB1⟩)
  · have hpI : ¬ (R.plumbs.length : Int) ≤ (i : Int) := by omega
    obtain ⟨b, off, hla, h0, h1⟩ := hf.rd.1.at (j := i) (by omega)
    have hag : agB B R lv i = (decide ((nthP R.plumbs i).1 ≤ lv) && decide (lv ≤ (nthP R.plumbs i).2)) := by unfold agB; rw [if_neg hp]
    obtain ⟨lo, hlo⟩ : ∃ x, x = (nthP R.plumbs i).1 := ⟨_, rfl⟩
    obtain ⟨hi2, hhi⟩ : ∃ x, x = (nthP R.plumbs i).2 := ⟨_, rfl⟩
    rw [← hlo] at hag h0; rw [← hhi] at hag h1
    rw [hla] at k2
    have hdl : (i : Int) < (R.plumbs.length : Int) := by omega
    have Hag := hid hag
    have HB0 := hid (bnew w (.cells #[.int .i64 lo, .int .i64 hi2] 77))
    obtain ⟨V, hV⟩ : ∃ V, V = w.alloc (.cells #[.int .i64 lo, .int .i64 hi2] 77) := ⟨_, rfl⟩
    rw [← hV] at HB0
    have v0 : V.cell? ⟨w.heap.size, 0, none⟩ = some (.int .i64 lo) := by rw [hV]; simp [go_sem]
    have v1 : V.cell? ⟨w.heap.size, 1, none⟩ = some (.int .i64 hi2) := by rw [hV]; simp [go_sem]
    have v4 := cstep k4 HB0.out
    have HV := hid hV
    by_cases hl : lo ≤ lv
    · rw [decide_eq_true hl, Bool.true_and] at hag
      have Hag := hid hag
      have hd : decide (lo ≤ lv) = true := decide_eq_true hl
      clear hf hB hlv hR hag hlo hhi hla hE hm hi hp k3 hl hV
      go_enter Try.func91, Try.ntmps91
      go_upto_region 5 with (fail)
      rw [← HV.out]
      go_quiet (fail)
      all_goals (
        go_wp2
        go_ret
        exact ⟨ret_bool (by rw [Hag.out]), bstep HB0.out (below_drawN _ _ _)⟩)
    · rw [decide_eq_false hl, Bool.false_and] at hag
      have Hag := hid hag
      have hd : decide (lo ≤ lv) = false := decide_eq_false hl
      clear hf hB hlv hR hag hlo hhi hla hE hm hi hp k3 hl hV
      go_enter Try.func91, Try.ntmps91
      go_upto_region 5 with (fail)
      rw [← HV.out]
      go_quiet (fail)
      all_goals (
        go_wp2
        go_ret
        exact ⟨ret_bool (by rw [Hag.out]), bstep HB0.out (below_drawN _ _ _)⟩)

set_option maxRecDepth 100000 in
set_option maxHeartbeats 1000000 in
theorem first_c (hf : FrAt w g A B R lv) (hB : Bok B) (hlv : -5 ≤ lv ∧ lv ≤ 5) (hR : Rok2 B R) :
    Calls Try.prog 87 #[.pointer (some ⟨g, 0, none⟩)] w (TellI w (firstN (agB B R lv) (manyN R) : Nat)) := by
  have HM := hid fun (w' : World) (h : Below w.heap.size w w') => many_c g A B R lv w' (hf.mono h) (by have := hR.m; omega)
  have HA := hid fun (i : Nat) (hi : i < manyN R) (w' : World) (h : Below w.heap.size w w') => agrees_c g A B R lv w' i (hf.mono h) hB hlv hR hi
  have hm := hR.m
  obtain ⟨m, hmm⟩ : ∃ m, m = manyN R := ⟨_, rfl⟩
  obtain ⟨p, hp⟩ : ∃ p, p = agB B R lv := ⟨_, rfl⟩
  rw [← hmm] at HM hm HA ⊢
  rw [← hp] at HA ⊢
  have HF := hid fun k => @firstN_eq p m k
  unfold TellB at HA
  unfold TellI
  clear hf hB hlv hR hmm hp
  go_enter Try.func87, Try.ntmps87
  go_wp2
  go_step3
  go_wp2
  go_step3
  go_wp2
  go_loopw [3] (fun i wr => ∃ k : Nat, k ≤ m ∧ i = .int .i64 k ∧ allTo p k = true ∧ Below w.heap.size w wr) (fun i _ => m - (intOf i).toNat)
  case atStart => exact ⟨0, Nat.zero_le _, rfl, rfl, Below.refl _ _⟩
  case round =>
    obtain ⟨k, hk, rfl, hall, hBk⟩ := hrel
    obtain ⟨wk, rfl⟩ : ∃ wk : World, wk = wr := ⟨_, rfl⟩
    have HB := hid hBk; have Hall := hid hall
    clear hBk hall
    by_cases hlt : k < m
    · have hltI : (k : Int) < (m : Int) := by omega
      cases hpk : p k with
      | true =>
        have HAk := hid (HA.out k hlt)
        rw [hpk] at HAk
        have hs : allTo p (k + 1) = (allTo p k && p k) := rfl
        rw [hpk, Hall.out] at hs
        have Hs := hid hs
        clear hpk hs
        go_wp2_with fail
        refine (HM.out _ HB.out).mono ?_
        rintro e w1 ⟨rfl, hB⟩
        have HB1 := hid (bstep HB.out hB)
        clear hB
        go_wp2_with fail
        refine (HAk.out _ HB1.out).mono ?_
        rintro e w2 ⟨rfl, hB⟩
        have HB2 := hid (bstep HB1.out hB)
        clear hB
        go_wp2
        go_roundw
        case rel => exact ⟨k + 1, by omega, by go_num, Hs.out, HB2.out⟩
        case measure => simp [intOf]; omega
      | false =>
        have HAk := hid (HA.out k hlt)
        rw [hpk] at HAk
        have HE := hid (HF.out k hk Hall.out (fun _ => hpk))
        clear hpk
        go_wp2_with fail
        refine (HM.out _ HB.out).mono ?_
        rintro e w1 ⟨rfl, hB⟩
        have HB1 := hid (bstep HB.out hB)
        clear hB
        go_wp2_with fail
        refine (HAk.out _ HB1.out).mono ?_
        rintro e w2 ⟨rfl, hB⟩
        have HB2 := hid (bstep HB1.out hB)
        clear hB
        go_wp2
        rw [Exit.noGoto_ret]
        go_ret
        exact ⟨ret_int (by rw [HE.out]), HB2.out⟩
    · obtain rfl : k = m := by omega
      have hltI : ¬ (k : Int) < (k : Int) := by omega
      have HE := hid (HF.out k hk Hall.out (fun h => absurd h hlt))
      go_wp2_with fail
      refine (HM.out _ HB.out).mono ?_
      rintro e w1 ⟨rfl, hB⟩
      have HB1 := hid (bstep HB.out hB)
      clear hB
      go_wp2
      rw [Exit.noGoto_ret]
      go_ret
      exact ⟨ret_int (by rw [HE.out]), HB1.out⟩
end

/-- the numbers of two fractions whose products do not run over -/
def Fits (x y : Int × Int) : Prop := (0 ≤ x.1 ∧ x.1 * y.2 ≤ 4611686018427387903 ∧ 0 ≤ x.1 * y.2) ∧ 0 ≤ y.1 * x.2 ∧ y.1 * x.2 ≤ 4611686018427387903

set_option maxRecDepth 100000 in
theorem less_c (x y : Int × Int) (w : World) (h : Fits x y) :
    Calls Try.prog 94 #[.agg #[.int .i64 x.1, .int .i64 x.2], .agg #[.int .i64 y.1, .int .i64 y.2]] w (TellB w (lessQ x y)) := by
  obtain ⟨a, b⟩ := x
  obtain ⟨c, d⟩ := y
  obtain ⟨⟨h1, h2, h3⟩, h4, h5⟩ := h
  simp only at h1 h2 h3 h4 h5
  have e1 : IntKind.i64.wrap (a * d) = a * d := wrap_i64_of (by omega) (by omega)
  have e2 : IntKind.i64.wrap (c * b) = c * b := wrap_i64_of (by omega) (by omega)
  have HE := hid (show lessQ (a, b) (c, d) = decide (a * d < c * b) from rfl)
  have HB := hid (bstep (bnew w (.cells #[.int .i64 a, .int .i64 b] 32)) (bnew _ (.cells #[.int .i64 c, .int .i64 d] 32)))
  unfold TellB
  clear h1 h2 h3 h4 h5
  go_enter Try.func94, Try.ntmps94
  go_wp2
  go_ret
  exact ⟨ret_bool (by rw [HE.out]), HB.out⟩
set_option maxRecDepth 100000 in
theorem more_c (x y : Int × Int) (w : World) (h : Fits y x) :
    Calls Try.prog 93 #[.agg #[.int .i64 x.1, .int .i64 x.2], .agg #[.int .i64 y.1, .int .i64 y.2]] w (TellB w (lessQ y x)) := by
  have HB := hid (bstep (bnew w (.cells #[.int .i64 x.1, .int .i64 x.2] 32)) (bnew _ (.cells #[.int .i64 y.1, .int .i64 y.2] 32)))
  have HL := hid fun (w' : World) => less_c y x w' h
  unfold TellB at *
  obtain ⟨v, hv⟩ : ∃ v, v = lessQ y x := ⟨_, rfl⟩
  rw [← hv] at HL ⊢
  clear h hv
  go_enter Try.func93, Try.ntmps93
  go_wp2_with fail
  refine (HL.out _).mono ?_
  rintro e w1 ⟨rfl, hB⟩
  have HB1 := hid (bstep HB.out hB)
  clear hB
  go_wp2
  go_ret
  exact ⟨rfl, HB1.out⟩

/-- what is odd of a plumb -/
def oddP (p : Int × Int) : Bool := (decide (p.2 < p.1) || decide (p.1 < -5)) || decide (5 < p.2)
set_option maxRecDepth 100000 in
theorem oddP_c (p : Int × Int) (w : World) : Calls Try.prog 89 #[.agg #[.int .i64 p.1, .int .i64 p.2]] w (TellB w (oddP p)) := by
  obtain ⟨a, b⟩ := p
  have HB := hid (bnew w (.cells #[.int .i64 a, .int .i64 b] 77))
  have hE : oddP (a, b) = ((decide (b < a) || decide (a < -5)) || decide (5 < b)) := rfl
  unfold TellB
  by_cases h1 : b < a
  · rw [hE, decide_eq_true h1]
    clear hE
    go_enter Try.func89, Try.ntmps89
    go_wp2
    go_ret
    exact ⟨ret_bool (by simp), HB.out⟩
  · by_cases h2 : a < -5
    · rw [hE, decide_eq_true h2]
      clear hE
      go_enter Try.func89, Try.ntmps89
      go_wp2
      go_ret
      exact ⟨ret_bool (by simp), HB.out⟩
    · rw [hE, decide_eq_false h1, decide_eq_false h2]
      clear hE
      go_enter Try.func89, Try.ntmps89
      go_wp2
      go_ret
      exact ⟨ret_bool (by simp), HB.out⟩

end Go.Proofs.Ytnnojhpioenhbaa

namespace Go.Proofs.Ytnnojhpioenhbaa
open Go.RowKit Go.Shelf

theorem nthP_mem {xs : List (Int × Int)} {k : Nat} (h : k < xs.length) : nthP xs k ∈ xs := by rw [nthP_eq h]; exact List.getElem_mem h
theorem anyP_take_succ (p : Int × Int → Bool) {xs : List (Int × Int)} {k : Nat} (h : k < xs.length) : (xs.take (k + 1)).any p = ((xs.take k).any p || p (nthP xs k)) := by
  rw [List.take_succ_eq_append_getElem h, List.any_append, nthP_eq h]; simp

set_option maxHeartbeats 400000 in
theorem indexFuncP_c (a : Option Addr) (cap : Nat) (xs : List (Int × Int)) (w : World) (hx : PlumbsAt w a xs) (hb : xs.length ≤ 1000000) :
    Calls Try.prog 112 #[.slice a xs.length cap, .func (.func 89) #[] #[]] w fun e w' => ∃ i : Int, e = .returned (.int .i64 i) ∧ decide (0 ≤ i) = xs.any oddP ∧ Below w.heap.size w w' := by
  have Hx := hid hx
  have HG := hid fun (p : Int × Int) (w' : World) => oddP_c p w'
  unfold TellB at HG
  clear hx
  go_enter Try.func112, Try.ntmps112
  go_wp2
  go_loopw [5, 8] (fun _ i wr => ∃ k : Nat, k ≤ xs.length ∧ i = .int .i64 k ∧ (xs.take k).any oddP = false ∧ Below w.heap.size w wr) (fun _ i _ => xs.length - (intOf i).toNat)
  case atStart => exact ⟨0, Nat.zero_le _, rfl, rfl, Below.refl _ _⟩
  case round =>
    obtain ⟨k, hk, rfl, hp, hB⟩ := hrel
    obtain ⟨wk, rfl⟩ : ∃ wk : World, wk = wr := ⟨_, rfl⟩
    have Hp := hid hp; have HB := hid hB
    clear hp hB
    by_cases hlt : k < xs.length
    · obtain ⟨b, off, rfl, hc0, hc1⟩ := (Hx.out.mono HB.out).at hlt
      have Ht := hid (anyP_take_succ oddP hlt)
      have HGk := hid (HG.out (nthP xs k) wk)
      cases hpk : oddP (nthP xs k) with
      | false =>
        have Hpk := hid hpk
        rw [hpk] at HGk
        clear hpk
        go_wp2_with fail
        refine HGk.out.mono ?_
        rintro e w' ⟨rfl, hB⟩
        have HB1 := hid (bstep HB.out hB)
        clear hB
        go_wp2
        go_roundw
        case rel => exact ⟨k + 1, by omega, by go_num, by rw [Ht.out, Hp.out, Hpk.out]; rfl, HB1.out⟩
        case measure => simp [intOf]; omega
      | true =>
        have Hpk := hid hpk
        rw [hpk] at HGk
        clear hpk
        go_wp2_with fail
        refine HGk.out.mono ?_
        rintro e w' ⟨rfl, hB⟩
        have HB1 := hid (bstep HB.out hB)
        clear hB
        go_wp2
        go_ret
        exact ⟨k, rfl, by
          rw [List.any_eq_true.2 ⟨_, nthP_mem hlt, Hpk.out⟩]; simp, HB1.out⟩
    · go_wp2
      go_ret
      refine ⟨-1, rfl, ?_, HB.out⟩
      have hp := Hp.out
      rw [List.take_of_length_le (by omega)] at hp
      rw [hp]; rfl
set_option maxHeartbeats 400000 in
theorem containsFuncP_c (a : Option Addr) (cap : Nat) (xs : List (Int × Int)) (w : World) (hx : PlumbsAt w a xs) (hb : xs.length ≤ 1000000) :
    Calls Try.prog 90 #[.slice a xs.length cap, .func (.func 89) #[] #[]] w (TellB w (xs.any oddP)) := by
  have H := hid (indexFuncP_c a cap xs w hx hb)
  unfold TellB
  generalize hy : xs.any oddP = y at *
  have Hy := hid hy
  clear hx hy
  go_enter Try.func90, Try.ntmps90
  go_wp2_with fail
  refine H.out.mono ?_
  rintro e w' ⟨i, rfl, hi, hB⟩
  have Hi := hid hi; have HB := hid hB
  clear hi hB
  go_wp2
  go_ret
  exact ⟨ret_bool Hi.out, HB.out⟩

/-- the error of readings -/
def readErr (B : Bd) (R : Rd) : Int := if bdErr B = 0 then (if 12 < manyN R then 6 else if (R.plumbs.any oddP || !within 0 (B.pins.length : Int) R.slots) = true then 3 else 0) else bdErr B
theorem readErr_bad {B : Bd} {R : Rd} (h : ¬ bdErr B = 0) : readErr B R = bdErr B := by unfold readErr; rw [if_neg h]
theorem readErr_zero {B : Bd} {R : Rd} : readErr B R = 0 ↔ Bok B ∧ Rok2 B R := by
  rw [← bok_iff]
  unfold readErr
  by_cases h0 : bdErr B = 0
  · rw [if_pos h0]
    by_cases hm : 12 < manyN R
    · rw [if_pos hm]
      exact ⟨fun h => by omega, fun h => by have := h.2.m; omega⟩
    · rw [if_neg hm]
      have key : (R.plumbs.any oddP || !within 0 (B.pins.length : Int) R.slots) = false ↔ Rok2 B R := by
        rw [Bool.or_eq_false_iff, Bool.not_eq_false']
        constructor
        · rintro ⟨h1, h2⟩
          refine ⟨by omega, fun i hi => ?_, fun i hi => within_nth h2 hi⟩
          have := List.any_eq_false.1 h1 _ (nthP_mem hi)
          simp [oddP] at this
          omega
        · intro h
          refine ⟨List.any_eq_false.2 fun p hp => ?_, List.all_eq_true.2 fun x hx => ?_⟩
          · obtain ⟨i, hi, rfl⟩ := List.getElem_of_mem hp
            have := h.plumb i hi
            rw [nthP_eq hi] at this
            simp [oddP]; omega
          · obtain ⟨i, hi, rfl⟩ := List.getElem_of_mem hx
            have := h.slot i hi
            rw [nth_eq hi] at this
            simp [this]
      cases hc : (R.plumbs.any oddP || !within 0 (B.pins.length : Int) R.slots) with
      | true => rw [if_pos rfl]; exact ⟨fun h => by omega, fun h => by rw [key.2 h.2] at hc; cases hc⟩
      | false => rw [if_neg (by simp)]; exact ⟨fun _ => ⟨h0, key.1 hc⟩, fun _ => rfl⟩
  · rw [if_neg h0]
    exact ⟨fun h => absurd h h0, fun h => h.1⟩

set_option maxRecDepth 100000 in
set_option maxHeartbeats 1000000 in
theorem checkReadings_c (pa : Option Addr) (pc : Nat) (ya : Option Addr) (yc : Nat) (la : Option Addr) (lc : Nat) (sa : Option Addr) (sc : Nat) (B : Bd) (R : Rd) (w : World) (hb : BdAt w pa ya B) (hr : RdAt w la sa R) (hl : B.pins.length ≤ 1000000) (hy : B.pays.length ≤ 1000000) (hP : R.plumbs.length ≤ 1000000) (hS : R.slots.length ≤ 1000000) :
    Calls Try.prog 38 #[.agg #[.slice pa B.pins.length pc, .slice ya B.pays.length yc], .agg #[.slice la R.plumbs.length lc, .slice sa R.slots.length sc]] w (TellI w (readErr B R)) := by

  have HB0 := hid (bstep (bnew w (.cells #[.slice pa B.pins.length pc, .slice ya B.pays.length yc] 25)) (bnew _ (.cells #[.slice la R.plumbs.length lc, .slice sa R.slots.length sc] 51)))
  obtain ⟨W, hW⟩ : ∃ W, W = (w.alloc (.cells #[.slice pa B.pins.length pc, .slice ya B.pays.length yc] 25)).alloc (.cells #[.slice la R.plumbs.length lc, .slice sa R.slots.length sc] 51) := ⟨_, rfl⟩
  have hbW := hb.mono HB0.out
  have hrW := hr.mono HB0.out
  rw [← hW] at hbW hrW HB0
  have k0 : W.cell? ⟨w.heap.size, 0, none⟩ = some (.slice pa B.pins.length pc) := by rw [hW]; simp [go_sem]
  have k1 : W.cell? ⟨w.heap.size, 1, none⟩ = some (.slice ya B.pays.length yc) := by rw [hW]; simp [go_sem]
  have k2 : W.cell? ⟨w.heap.size + 1, 0, none⟩ = some (.slice la R.plumbs.length lc) := by rw [hW]; simp [go_sem]
  have k3 : W.cell? ⟨w.heap.size + 1, 1, none⟩ = some (.slice sa R.slots.length sc) := by rw [hW]; simp [go_sem]
  have HW := hid hW

  have HC := hid (checkBoard_c pa pc ya yc B W hbW hl hy)
  have HO := hid fun (w' : World) (h : Below W.heap.size W w') => containsFuncP_c la lc R.plumbs w' (hrW.mono h).1 hP
  have HI := hid fun (w' : World) (h : Below W.heap.size W w') => within_c sa sc 0 (B.pins.length : Int) R.slots w' (hrW.mono h).2 hS
  unfold TellI TellB at *
  have hw : IntKind.i64.wrap ((R.plumbs.length : Int) + (R.slots.length : Int)) = (R.plumbs.length : Int) + (R.slots.length : Int) := wrap_i64_of (by omega) (by omega)
  have hmn : manyN R = R.plumbs.length + R.slots.length := rfl
  by_cases h0 : bdErr B = 0
  · rw [h0] at HC
    by_cases hm : 12 < manyN R
    · have hmI : (12 : Int) < (R.plumbs.length : Int) + (R.slots.length : Int) := by omega
      have HE := hid (show readErr B R = 6 from by unfold readErr; rw [if_pos h0, if_pos hm])
      clear hW hbW hrW hb hr hl hy hP hS h0 hm hmn
      go_enter Try.func38, Try.ntmps38
      go_upto_region 1 with (fail)
      rw [← HW.out]
      go_wp2_with fail
      refine HC.out.mono ?_
      rintro e w1 ⟨rfl, hB⟩
      have HB1 := hid (bstep HB0.out hB)
      have k2 := cstep k2 hB; have k3 := cstep k3 hB
      clear hB
      go_wp2
      go_ret
      exact ⟨by rw [HE.out]; rfl, HB1.out⟩
    · have hmI : ¬ (12 : Int) < (R.plumbs.length : Int) + (R.slots.length : Int) := by omega
      have hE : readErr B R = if (R.plumbs.any oddP || !within 0 (B.pins.length : Int) R.slots) = true then 3 else 0 := by unfold readErr; rw [if_pos h0, if_neg hm]
      obtain ⟨a, ha⟩ : ∃ a, a = R.plumbs.any oddP := ⟨_, rfl⟩
      obtain ⟨c, hc⟩ : ∃ a, a = within 0 (B.pins.length : Int) R.slots := ⟨_, rfl⟩
      rw [← ha, ← hc] at hE
      rw [← ha] at HO
      rw [← hc] at HI
      have HE := hid hE
      clear hW hbW hrW hb hr hl hy hP hS h0 hm hmn ha hc hE
      cases a with
      | true =>
        go_enter Try.func38, Try.ntmps38
        go_upto_region 1 with (fail)
        rw [← HW.out]
        go_wp2_with fail
        refine HC.out.mono ?_
        rintro e w1 ⟨rfl, hB⟩
        have HB1 := hid hB; have HB2 := hid (bstep HB0.out hB)
        have k0 := cstep k0 hB; have k2 := cstep k2 hB; have k3 := cstep k3 hB
        clear hB
        go_wp2_with fail
        refine (HO.out _ HB1.out).mono ?_
        rintro e w2 ⟨rfl, hB⟩
        have HB3 := hid (bstep HB2.out hB)
        clear hB
        go_wp2
        go_ret
        exact ⟨by rw [HE.out]; rfl, HB3.out⟩
      | false =>
        cases c with
        | true =>
          go_enter Try.func38, Try.ntmps38
          go_upto_region 1 with (fail)
          rw [← HW.out]
          go_wp2_with fail
          refine HC.out.mono ?_
          rintro e w1 ⟨rfl, hB⟩
          have HB1 := hid hB; have HB2 := hid (bstep HB0.out hB)
          have k0 := cstep k0 hB; have k2 := cstep k2 hB; have k3 := cstep k3 hB
          clear hB
          go_wp2_with fail
          refine (HO.out _ HB1.out).mono ?_
          rintro e w2 ⟨rfl, hB⟩
          have HB3 := hid (bstep HB2.out hB); have HB4 := hid (bstep HB1.out hB)
          have k0 := cstep k0 hB; have k2 := cstep k2 hB; have k3 := cstep k3 hB
          clear hB
          go_wp2_with fail
          refine (HI.out _ HB4.out).mono ?_
          rintro e w3 ⟨rfl, hB⟩
          have HB5 := hid (bstep HB3.out hB)
          clear hB
          go_wp2
          go_ret
          exact ⟨by rw [HE.out]; rfl, HB5.out⟩
        | false =>
          go_enter Try.func38, Try.ntmps38
          go_upto_region 1 with (fail)
          rw [← HW.out]
          go_wp2_with fail
          refine HC.out.mono ?_
          rintro e w1 ⟨rfl, hB⟩
          have HB1 := hid hB; have HB2 := hid (bstep HB0.out hB)
          have k0 := cstep k0 hB; have k2 := cstep k2 hB; have k3 := cstep k3 hB
          clear hB
          go_wp2_with fail
          refine (HO.out _ HB1.out).mono ?_
          rintro e w2 ⟨rfl, hB⟩
          have HB3 := hid (bstep HB2.out hB); have HB4 := hid (bstep HB1.out hB)
          have k0 := cstep k0 hB; have k2 := cstep k2 hB; have k3 := cstep k3 hB
          clear hB
          go_wp2_with fail
          refine (HI.out _ HB4.out).mono ?_
          rintro e w3 ⟨rfl, hB⟩
          have HB5 := hid (bstep HB3.out hB)
          clear hB
          go_wp2
          go_ret
          exact ⟨by rw [HE.out]; rfl, HB5.out⟩
  · obtain ⟨v, hv⟩ : ∃ v, v = bdErr B := ⟨_, rfl⟩
    have HE := hid ((readErr_bad (R := R) h0).trans hv.symm)
    rw [← hv] at HC h0
    clear hW hbW hrW hb hr hl hy hP hS hmn hv hw
    go_enter Try.func38, Try.ntmps38
    go_upto_region 1 with (fail)
    rw [← HW.out]
    go_wp2_with fail
    refine HC.out.mono ?_
    rintro e w1 ⟨rfl, hB⟩
    have HB1 := hid (bstep HB0.out hB)
    clear hB
    go_wp2
    go_ret
    exact ⟨by rw [HE.out]; rfl, HB1.out⟩

set_option maxRecDepth 100000 in
set_option maxHeartbeats 1000000 in
theorem read_ok (pa : Option Addr) (pc : Nat) (ya : Option Addr) (yc : Nat) (la : Option Addr) (lc : Nat) (sa : Option Addr) (sc : Nat) (B : Bd) (R : Rd) (w : World) (hb : BdAt w pa ya B) (hr : RdAt w la sa R) (hl : B.pins.length ≤ 1000000) (hy : B.pays.length ≤ 1000000) (hP : R.plumbs.length ≤ 1000000) (hS : R.slots.length ≤ 1000000) (h0 : readErr B R = 0) :
    Calls Try.prog 83 #[.agg #[.slice pa B.pins.length pc, .slice ya B.pays.length yc], .agg #[.slice la R.plumbs.length lc, .slice sa R.slots.length sc]] w (NewFr w ⟨pa, pc, ya, yc, la, lc, sa, sc⟩ B R 0) := by

  have HB0 := hid (bstep (bnew w (.cells #[.slice pa B.pins.length pc, .slice ya B.pays.length yc] 25)) (bnew _ (.cells #[.slice la R.plumbs.length lc, .slice sa R.slots.length sc] 51)))
  obtain ⟨W, hW⟩ : ∃ W, W = (w.alloc (.cells #[.slice pa B.pins.length pc, .slice ya B.pays.length yc] 25)).alloc (.cells #[.slice la R.plumbs.length lc, .slice sa R.slots.length sc] 51) := ⟨_, rfl⟩
  have hbW := hb.mono HB0.out
  have hrW := hr.mono HB0.out
  rw [← hW] at hbW hrW HB0
  have k0 : W.cell? ⟨w.heap.size, 0, none⟩ = some (.slice pa B.pins.length pc) := by rw [hW]; simp [go_sem]
  have k1 : W.cell? ⟨w.heap.size, 1, none⟩ = some (.slice ya B.pays.length yc) := by rw [hW]; simp [go_sem]
  have k2 : W.cell? ⟨w.heap.size + 1, 0, none⟩ = some (.slice la R.plumbs.length lc) := by rw [hW]; simp [go_sem]
  have k3 : W.cell? ⟨w.heap.size + 1, 1, none⟩ = some (.slice sa R.slots.length sc) := by rw [hW]; simp [go_sem]
  have HW := hid hW

  have HC := hid (checkReadings_c pa pc ya yc la lc sa sc B R W hbW hrW hl hy hP hS)

  rw [h0] at HC
  unfold TellI at HC
  unfold NewFr

  clear hW hbW hrW hb hr hl hy hP hS h0

  go_enter Try.func83, Try.ntmps83
  go_upto_region 1 with (fail)
  rw [← HW.out]
  go_wp2_with fail
  refine HC.out.mono ?_
  rintro e w1 ⟨rfl, hB⟩
  have HB1 := hid (bstep HB0.out hB)

  have k0 := cstep k0 hB; have k1 := cstep k1 hB; have k2 := cstep k2 hB; have k3 := cstep k3 hB
  have Hz := hid (heap_alloc_new w1 (.cells (frCells ⟨pa, pc, ya, yc, la, lc, sa, sc⟩ B R 0) 114))
  clear hB
  go_wp2
  go_ret2
  exact ⟨_, rfl, Hz.out, HB1.out.size, bstep HB1.out (bnew _ _)⟩

set_option maxRecDepth 100000 in
set_option maxHeartbeats 1000000 in
theorem read_bad (pa : Option Addr) (pc : Nat) (ya : Option Addr) (yc : Nat) (la : Option Addr) (lc : Nat) (sa : Option Addr) (sc : Nat) (B : Bd) (R : Rd) (w : World) (hb : BdAt w pa ya B) (hr : RdAt w la sa R) (hl : B.pins.length ≤ 1000000) (hy : B.pays.length ≤ 1000000) (hP : R.plumbs.length ≤ 1000000) (hS : R.slots.length ≤ 1000000) (h0 : ¬ readErr B R = 0) :
    Calls Try.prog 83 #[.agg #[.slice pa B.pins.length pc, .slice ya B.pays.length yc], .agg #[.slice la R.plumbs.length lc, .slice sa R.slots.length sc]] w (NoFr w (readErr B R)) := by

  have HB0 := hid (bstep (bnew w (.cells #[.slice pa B.pins.length pc, .slice ya B.pays.length yc] 25)) (bnew _ (.cells #[.slice la R.plumbs.length lc, .slice sa R.slots.length sc] 51)))
  obtain ⟨W, hW⟩ : ∃ W, W = (w.alloc (.cells #[.slice pa B.pins.length pc, .slice ya B.pays.length yc] 25)).alloc (.cells #[.slice la R.plumbs.length lc, .slice sa R.slots.length sc] 51) := ⟨_, rfl⟩
  have hbW := hb.mono HB0.out
  have hrW := hr.mono HB0.out
  rw [← hW] at hbW hrW HB0
  have k0 : W.cell? ⟨w.heap.size, 0, none⟩ = some (.slice pa B.pins.length pc) := by rw [hW]; simp [go_sem]
  have k1 : W.cell? ⟨w.heap.size, 1, none⟩ = some (.slice ya B.pays.length yc) := by rw [hW]; simp [go_sem]
  have k2 : W.cell? ⟨w.heap.size + 1, 0, none⟩ = some (.slice la R.plumbs.length lc) := by rw [hW]; simp [go_sem]
  have k3 : W.cell? ⟨w.heap.size + 1, 1, none⟩ = some (.slice sa R.slots.length sc) := by rw [hW]; simp [go_sem]
  have HW := hid hW

  have HC := hid (checkReadings_c pa pc ya yc la lc sa sc B R W hbW hrW hl hy hP hS)

  obtain ⟨v, hv⟩ : ∃ v, v = readErr B R := ⟨_, rfl⟩
  rw [← hv] at HC h0 ⊢
  unfold TellI at HC
  unfold NoFr

  clear hW hbW hrW hb hr hl hy hP hS hv

  go_enter Try.func83, Try.ntmps83
  go_upto_region 1 with (fail)
  rw [← HW.out]
  go_wp2_with fail
  refine HC.out.mono ?_
  rintro e w1 ⟨rfl, hB⟩
  have HB1 := hid (bstep HB0.out hB)

  clear hB
  go_wp2
  go_ret2
  exact ⟨rfl, HB1.out⟩


end Go.Proofs.Ytnnojhpioenhbaa
