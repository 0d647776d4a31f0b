/- Walk: slices.Backward (an iterator). -/
import Derived.Test.YtkioejdddmnbmaaSi
namespace Go.Proofs.Ytkioejdddmnbmaa
open Go.RowKit Go.Shelf
attribute [local go_sem] Oper.semAt_some

set_option maxRecDepth 100000 in
theorem backwardSeq_c (a : Option Addr) (n c : Nat) (w : World) :
    Calls Try.prog 96 #[.slice a n c] w fun e w' => e = .returned (.func (.func 99) #[] #[.pointer (some ⟨w.heap.size, 0, none⟩)]) ∧ w.alloc (.cells #[.slice a n c] 22) = w' := by
  go_enter Try.func96, Try.ntmps96
  go_wp2
  go_ret
  exact ⟨rfl, rfl⟩

theorem enters99 : ∀ args w, (callFunc 99 args).run Try.prog w = .ok (.enter 99 args) w := enters_of Try.func99 (by kernel_rfl) rfl

def bwX (l : List Int) (k : Nat) (v : Array Value) (_ : World) : Prop := v = #[.int .i64 ((l.length - 1 - k : Nat) : Int), .int .i64 (nth l (l.length - 1 - k))]

set_option maxRecDepth 100000 in
set_option maxHeartbeats 4000000 in
theorem backward1_c (bx : Nat) (a : Option Addr) (c : Nat) (l : List Int) (w1 w0 : World) (S : Nat → Prop)
    (hS : ∀ k, S k → w1.heap.size ≤ k ∧ k < w0.heap.size) (hat : IntsAt w1 a l) (hp0 : w0.cell? ⟨bx, 0, none⟩ = some (.slice a l.length c)) (hpS : ¬ S bx) (hB0 : Below w1.heap.size w1 w0) (hl : l.length ≤ 1000000) :
    Gen Try.prog 99 #[.pointer (some ⟨bx, 0, none⟩)] S (bwX l) l.length l.length (fun k => k = l.length) w0 := by
  intro y J Jx W hW hyW hyt hJ hJx hN hY h0
  refine callsIn_of_wp Try.func99 rfl trivial ?_ rfl
  simp only [Try.ntmps99, List.size_toArray, List.length_cons, List.length_nil, Nat.reduceAdd, Nat.reduceSub, Array.replicate_succ, Array.replicate_zero, List.push_toArray, List.append_toArray, List.nil_append, List.cons_append]
  have HBW := hid (show Below w1.heap.size w1 W from hB0.trans (hW.mono hB0.size))
  have HA := hid fun (w' : World) (h : Below w1.heap.size w1 w') => hat.mono h
  have d0 := cstep hp0 hW
  have D0 := hid d0
  have hbl : bx ≠ y := by have := block_lt_of_cell hp0; simp at this; omega
  have HY := hid hY; have HJ := hid hJ; have HN := hid hN; have H0 := hid h0; have HS := hid hS
  have Hy := hid (show w1.heap.size ≤ y from Nat.le_trans hB0.size hyW)
  clear hp0 hat hB0 hY hJ hN h0 hS hJx hW hyW
  gi_wp2
  gi_loopw [3] (fun i wr => ∃ k : Nat, k ≤ l.length ∧ i = .int .i64 ((l.length : Int) - 1 - (k : Int)) ∧ J k wr ∧ Below w1.heap.size w1 wr ∧ wr.cell? ⟨bx, 0, none⟩ = some (.slice a l.length c)) (fun i _ => (intOf i + 1).toNat)
  case atStart => exact ⟨0, Nat.zero_le _, by simp, H0.out, HBW.out, D0.out⟩
  case round =>
    obtain ⟨k, hk, rfl, hJk, hB, e0⟩ := hrel
    obtain ⟨wo, rfl⟩ : ∃ wo : World, wo = wr := ⟨_, rfl⟩
    have HJk := hid hJk; have HB := hid hB; have E0 := hid e0
    clear hJk hB d0
    by_cases hlt : k < l.length
    · have hj : (l.length : Int) - 1 - (k : Int) = ((l.length - 1 - k : Nat) : Int) := by omega
      rw [hj]
      obtain ⟨b, off, rfl, hc⟩ := (HA.out _ HB.out).at (k := l.length - 1 - k) (by omega)
      obtain ⟨fn, tmps, assign, body, hy, hR⟩ := HY.out k #[.int .i64 ((l.length - 1 - k : Nat) : Int), .int .i64 (nth l (l.length - 1 - k))] wo HJk.out rfl hlt
      obtain ⟨j, hje⟩ : ∃ j, j = l.length - 1 - k := ⟨_, rfl⟩
      rw [← hje] at hc hy ⊢
      obtain ⟨x, hx⟩ : ∃ x, x = nth l j := ⟨_, rfl⟩
      rw [← hx] at hc hy
      have HR := hid hR; have Hje := hid hje
      have hj2 : j < l.length := by omega
      clear hR hx hj hje
      gi_wp2
      refine ⟨rfl, HR.out.mono ?_⟩
      rintro e W3 (⟨rfl, hJ3, hO3⟩ | ⟨rfl, hJ3⟩)
      · have hB3 : Below w1.heap.size w1 W3 := HB.out.trans (hO3.below HB.out.size (by
          rintro j hj (h | h)
          · have := (HS.out _ h).1; omega
          · have := Hy.out; omega))
        have g3 := hO3.cell E0.out (by rintro (h | h); exact hpS h; exact hbl h)
        have HJ3 := hid hJ3; have HB4 := hid hB3; have G3 := hid g3
        clear hJ3 hO3 hB3 g3 hy hc e0
        gi_wp2
        go_roundw
        case rel => exact ⟨k + 1, by omega, by congr 1; have := Hje.out; omega, HJ3.out, HB4.out, G3.out⟩
        case measure => simp [intOf]
      · have HJ3 := hid hJ3
        clear hJ3 hy hc e0
        gi_wp2
        refine bodyPost_ret (results_none rfl _ _ _) rfl ?_
        exact ⟨⟨_, rfl⟩, .inr ⟨_, HJ3.out⟩⟩
    · obtain rfl : k = l.length := by omega
      have hneg : (l.length : Int) - 1 - (l.length : Int) = -1 := by omega
      rw [hneg]
      gi_wp2
      refine bodyPost_end (results_none rfl _ _ _) rfl ?_
      exact ⟨⟨_, rfl⟩, .inl ⟨_, rfl, HJk.out⟩⟩

end Go.Proofs.Ytkioejdddmnbmaa
