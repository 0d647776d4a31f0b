/- Walks: turn$1, the next stand of a drum. -/
import Derived.Test.YtjnijhnphhpilaaWq
namespace Go.Proofs.Ytjnijhnphhpilaa
open Go.RowKit Go.Shelf

def zero100 : Array Value := (intv (List.replicate 12 0)).toArray
theorem wpa100 {K : Act → World → Prop} {Q : Exit → Act → World → Prop} {a : Act} {w : World} (dst : Option Tmp) (t : TypeId) (pos : String) (after : Array Edge) (g : Option (Nat × Bool)) :
    Oper.wp Try.prog { dst := dst, op := .alloc 100, type := t, pos := pos, after := after, guard := g } a w K Q = K (a.put dst (.pointer (some ⟨w.heap.size, 0, none⟩))) (w.alloc (.cells zero100 100)) := wp_alloc_eq (by kernel_rfl) ..
theorem wpx100 {K : Act → World → Prop} {Q : Exit → Act → World → Prop} {a : Act} {w : World} (dst : Option Tmp) (x : Operand) (t : TypeId) (pos : String) (after : Array Edge) (g : Option (Nat × Bool)) :
    Oper.wp Try.prog { dst := dst, op := .box 100 x, type := t, pos := pos, after := after, guard := g } a w K Q =
      K (a.put dst (.pointer (some ⟨w.heap.size, 0, none⟩))) (w.alloc (.cells (a.eval x).cells 100)) := by
  unfold Oper.wp
  simp [execOp, Instr.box, newVar, newRow, Result.andThen, Oper.upon]
theorem wp100 {K : Act → World → Prop} {Q : Exit → Act → World → Prop} {a : Act} {w : World} (dst : Option Tmp) (t : TypeId) (x : Operand) (pos : String) (after : Array Edge) (g : Option (Nat × Bool)) :
    Oper.wp Try.prog { dst := dst, op := .load 100 x, type := t, pos := pos, after := after, guard := g } a w K Q =
      Oper.upon Try.prog { dst := dst, op := .load 100 x, type := t, pos := pos, after := after, guard := g } a K Q (loadPart Try.prog 100 12 (a.eval x) w) := wp_load_eq Try.underlying100 rfl (by kernel_rfl) ..
theorem wp98 {K : Act → World → Prop} {Q : Exit → Act → World → Prop} {a : Act} {w : World} (dst : Option Tmp) (t : TypeId) (x : Operand) (pos : String) (after : Array Edge) (g : Option (Nat × Bool)) :
    Oper.wp Try.prog { dst := dst, op := .load 98 x, type := t, pos := pos, after := after, guard := g } a w K Q =
      Oper.upon Try.prog { dst := dst, op := .load 98 x, type := t, pos := pos, after := after, guard := g } a K Q (loadPart Try.prog 98 12 (a.eval x) w) := wp_load_eq Try.underlying98 rfl (by kernel_rfl) ..
theorem wps100 {K : Act → World → Prop} {Q : Exit → Act → World → Prop} {a : Act} {w : World} (dst : Option Tmp) (t : TypeId) (x y : Operand) (pos : String) (after : Array Edge) (g : Option (Nat × Bool)) :
    Oper.wp Try.prog { dst := dst, op := .store 100 x y, type := t, pos := pos, after := after, guard := g } a w K Q =
      Oper.upon Try.prog { dst := dst, op := .store 100 x y, type := t, pos := pos, after := after, guard := g } a K Q (storePart Try.prog 100 12 (a.eval x) (a.eval y) w) := wp_store_eq (by kernel_rfl) ..
attribute [local go_sem ↓] wp_get wp_get0 wp_getS wpa100 wpx100 wp100 wp98 wps100

/-- the stand behind a stand, over the first k places -/
def standTo (f s : List Int) : Nat → List Int
  | 0 => List.replicate 12 0
  | k + 1 =>
    let o := (standTo f s k).set 0 ((nth (standTo f s k) 0 + nth f k * nth s k) % 2)
    if k = 0 then o else o.set k (nth s (k - 1))

theorem standTo_length (f s : List Int) : ∀ k, (standTo f s k).length = 12
  | 0 => rfl
  | k + 1 => by
    unfold standTo
    simp only
    split <;> simp [standTo_length f s k]

theorem standTo_bits {f s : List Int} (hs : isBits s = true) : ∀ k, isBits (standTo f s k) = true
  | 0 => by unfold standTo; decide
  | k + 1 => by
    unfold standTo
    simp only
    split
    · exact isBits_set (standTo_bits hs k) _ (mod_bit _)
    · exact isBits_set (isBits_set (standTo_bits hs k) _ (mod_bit _)) _ (isBits_nth hs _)

set_option maxRecDepth 100000 in
set_option maxHeartbeats 1000000 in
theorem turn1_c (a1 _a2 : Option Addr) (c1 _c2 db : Nat) (f _g s : List Int) (w : World) (hd0 : w.cell? ⟨db, 0, none⟩ = some (.slice a1 f.length c1)) (h1 : IntsAt w a1 f) (hf : isBits f = true) (hs : isBits s = true) (hs12 : s.length = 12) (hl : f.length ≤ 12) :
    Calls Try.prog 81 #[.agg (intv s).toArray, .pointer (some ⟨db, 0, none⟩)] w fun e w' => e = .returned (.agg (intv (standTo f s f.length)).toArray) ∧ Below w.heap.size w w' := by
  have hlt := block_lt_of_cell hd0
  have H1 := hid h1; have Hf := hid hf; have Hs := hid hs; have Hs12 := hid hs12
  clear h1 hf hs hs12
  go_enter Try.func81, Try.ntmps81
  go_upto_region 2 with (fail)
  obtain ⟨W3, hW3⟩ : ∃ W3, W3 = ((w.alloc (.cells (intv s).toArray 100)).alloc (.cells zero100 100)).alloc (.cells zero100 100) := ⟨_, rfl⟩
  rw [← hW3]
  have hB3 : Below w.heap.size w W3 := by rw [hW3]; exact (((Below.refl _ _).alloc (Nat.le_refl _) _).alloc (by simp) _).alloc (by simp; omega) _
  have hsz : W3.heap.size = w.heap.size + 3 := by rw [hW3]; simp
  have hs3 : W3.heap[w.heap.size]? = some (.cells (intv s).toArray 100 (0, 0)) := by
    rw [hW3, heap_push, heap_push, heap_push, Array.getElem?_push, if_neg (by simp only [Array.size_push]; omega), Array.getElem?_push, if_neg (by simp only [Array.size_push]; omega), Array.getElem?_push, if_pos rfl]
  have hr3 : W3.heap[w.heap.size + 1]? = some (.cells zero100 100 (0, 0)) := by
    rw [hW3, heap_push, heap_push, heap_push, Array.getElem?_push, if_neg (by simp only [Array.size_push]; omega), Array.getElem?_push, if_pos (by simp only [Array.size_push])]
  have ho3 : W3.heap[w.heap.size + 2]? = some (.cells zero100 100 (0, 0)) := by rw [hW3]; exact heap3_3 w _ _ _
  have hd3 := cstep hd0 hB3
  have HB3 := hid hB3; have Hs3 := hid hs3; have Hr3 := hid hr3; have Ho3 := hid ho3
  clear hW3 hB3 hs3 hr3 ho3 hd0
  go_wp2
  go_loopw [5, 6, 10] (fun _ _ i wr => ∃ k : Nat, k ≤ f.length ∧ i = .int .i64 k ∧ wr.heap[w.heap.size + 2]? = some (.cells (intv (standTo f s k)).toArray 100 (0, 0)) ∧ Only (fun b => b = w.heap.size + 2) W3 wr) (fun _ _ i _ => f.length - (intOf i).toNat)
  case atStart => exact ⟨0, Nat.zero_le _, rfl, Ho3.out, Only.refl _ _⟩
  case round =>
    obtain ⟨k, hk, rfl, hcur, ho⟩ := hrel
    obtain ⟨wq, rfl⟩ : ∃ wq : World, wq = wr := ⟨_, rfl⟩
    by_cases hlt : k < f.length
    · have hf1 := (H1.out.mono HB3.out).only ho (fun b off e hl2 h => by subst e; have := H1.out.lt hl2; omega)
      obtain ⟨b, off, rfl, hc⟩ := hf1.at hlt
      have hsq := (ho.block w.heap.size (by omega) (by omega)).trans Hs3.out
      have c0 : wq.cell? ⟨w.heap.size + 2, 0, none⟩ = some (.int .i64 (nth (standTo f s k) 0)) := by
        rw [cell_of_row _ _ _ _ _ _ hcur, List.getElem?_toArray, intv_get, if_pos (by rw [standTo_length]; omega)]
      have ck : wq.cell? ⟨w.heap.size + 2, k, none⟩ = some (.int .i64 (nth (standTo f s k) k)) := by
        rw [cell_of_row _ _ _ _ _ _ hcur, List.getElem?_toArray, intv_get, if_pos (by rw [standTo_length]; omega)]
      have cf : ∀ j, wq.frozen? ⟨w.heap.size + 2, j, none⟩ = false := fun j => frozen_of_row _ _ _ _ _ hcur
      have cs : ∀ j, j < 12 → wq.cell? ⟨w.heap.size, j, none⟩ = some (.int .i64 (nth s j)) := fun j hj => by
        rw [cell_of_row _ _ _ _ _ _ hsq, List.getElem?_toArray, intv_get, if_pos (by rw [Hs12.out]; exact hj)]
      have csk := cs k (by omega)
      have hk12 : k < 12 := by omega
      have hstep : bits .xor .i64 (nth (standTo f s k) 0) (bits .and .i64 (nth f k) (nth s k)) = (nth (standTo f s k) 0 + nth f k * nth s k) % 2 := by
        rw [and_bit (isBits_nth Hf.out _) (isBits_nth Hs.out _), xor_bit (isBits_nth (standTo_bits Hs.out k) _) (mul_bit (isBits_nth Hf.out _) (isBits_nth Hs.out _))]
      have Hstep := hid hstep; have Hcur := hid hcur; have Ho := hid ho; have Cs := hid cs
      clear hstep hcur ho hf1 cs hsq
      by_cases h0 : k = 0
      · subst h0
        rw [Nat.add_zero] at hc
        go_wp2
        go_region
        go_wp2
        go_roundw
        case rel =>
          refine ⟨1, by omega, by go_num, ?_, (Ho.out.set1 _ _).drew⟩
          rw [Hstep.out]
          exact (heap_setCell_same wq (w.heap.size + 2) 0 _ 100 _ Hcur.out).trans (cellsSet (by unfold intv; rw [← List.map_set]; rfl))
        case measure => simp [intOf]; omega
      · obtain ⟨j, rfl⟩ : ∃ j, k = j + 1 := ⟨k - 1, by omega⟩
        have csj := Cs.out j (by omega)
        go_wp2
        go_region
        go_wp2
        go_roundw
        case rel =>
          refine ⟨j + 1 + 1, by omega, by go_num, ?_, ((Ho.out.set1 _ _).set1 _ _).drew⟩
          rw [Hstep.out]
          have e1 := (heap_setCell_same wq (w.heap.size + 2) 0 _ 100 (.int .i64 ((nth (standTo f s (j + 1)) 0 + nth f (j + 1) * nth s (j + 1)) % 2)) Hcur.out).trans (cellsSet (l' := intv ((standTo f s (j + 1)).set 0 ((nth (standTo f s (j + 1)) 0 + nth f (j + 1) * nth s (j + 1)) % 2))) (by unfold intv; rw [← List.map_set]))
          exact (heap_setCell_same _ (w.heap.size + 2) (j + 1) _ 100 (.int .i64 (nth s j)) e1).trans (cellsSet (by unfold intv; rw [← List.map_set]; rfl))
        case measure => simp [intOf]; omega
    · obtain rfl : k = f.length := by omega
      have hr6 := (ho.block (w.heap.size + 1) (by omega) (by omega)).trans Hr3.out
      have hpo : partOk wq (w.heap.size + 2) 0 12 = true := partOk_of hcur (by simp [intv_length, standTo_length])
      have hpa : partAt wq (w.heap.size + 2) 0 12 = (intv (standTo f s f.length)).toArray := by
        rw [partAt_of hcur]
        apply Array.ext'
        simp only [List.extract_toArray, List.extract_eq_take_drop, List.drop_zero, Nat.sub_zero, Nat.zero_add]
        rw [List.take_of_length_le (by rw [intv_length, standTo_length]; omega)]
      have hpo2 : partOk wq (w.heap.size + 1) 0 12 = true := partOk_of hr6 (by simp [zero100, intv_length])
      have hfb : freeB wq (w.heap.size + 1) = true := freeB_of hr6
      have hps : ((partAt wq (w.heap.size + 2) 0 12).size == 12) = true := by rw [hpa]; simp [intv_length, standTo_length]
      have hp1 : (partAt wq (w.heap.size + 2) 0 12).all (·.oneCell') = true := by
        rw [hpa]; simp only [List.all_toArray]; exact List.all_eq_true.2 (intv_one _)
      have Hr6 := hid hr6; have Hpa := hid hpa; have Hcur := hid hcur; have Ho := hid ho
      clear hr6 hpa hcur ho
      go_wp2
      have hfin : (World.setPart wq (w.heap.size + 1) 0 (partAt wq (w.heap.size + 2) 0 12)).heap[w.heap.size + 1]? = some (.cells (intv (standTo f s f.length)).toArray 100 (0, 0)) := by
        rw [setPart_heap Hr6.out, Hpa.out]
        have e : zero100.toList.drop (0 + (intv (standTo f s f.length)).toArray.size) = [] := List.drop_of_length_le (by simp [zero100, intv_length, standTo_length])
        rw [e]
        simp
      refine bodyPost_ret (results_cell_row rfl _ _ (w.heap.size + 1) 100 _ (0, 0) _ rfl hfin Try.underlying100 rfl (by rw [show ((intv (standTo f s f.length)).toArray).size = 12 from by simp [intv_length, standTo_length]]; kernel_rfl)) rfl ?_
      refine ⟨rfl, ?_⟩
      have hb1 : Below w.heap.size w wq := HB3.out.trans (Ho.out.below HB3.out.size (by intro j hj; omega))
      exact hb1.trans ((setPart_only wq (w.heap.size + 1) 0 _).below hb1.size (by intro j hj; omega))

end Go.Proofs.Ytjnijhnphhpilaa
