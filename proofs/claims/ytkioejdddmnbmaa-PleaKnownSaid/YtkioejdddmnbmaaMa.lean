/- Marks. Walks: marked, has. -/
import Derived.Test.YtkioejdddmnbmaaCb
namespace Go.Proofs.Ytkioejdddmnbmaa
open Go.RowKit Go.Shelf
attribute [local go_sem ↓] wp_get wp_get0 wp_getS wp78 wps78 wpa78

/-- facts of a case's limit -/
def factsOk (l : List Int) : Prop := ∀ k, k < l.length → 0 ≤ nth l k ∧ nth l k < 12

def markTo (l : List Int) : Nat → List Int
  | 0 => List.replicate 12 0
  | k + 1 => (markTo l k).set (nth l k).toNat 1
def markL (l : List Int) : List Int := markTo l l.length
theorem markTo_length (l : List Int) : ∀ k, (markTo l k).length = 12
  | 0 => by simp [markTo]
  | k + 1 => by rw [markTo, List.length_set, markTo_length l k]
theorem markL_length (l : List Int) : (markL l).length = 12 := markTo_length l _

theorem cellsSet {l l' : List Value} {t : TypeId} {i : Nat} {v : Value} (h : l.set i v = l') : some (Obj.cells (l.toArray.setIfInBounds i v) t (0, 0)) = some (Obj.cells l'.toArray t (0, 0)) := by
  subst h; simp

set_option maxRecDepth 100000 in
set_option maxHeartbeats 1000000 in
theorem marked_c (a : Option Addr) (cap : Nat) (l : List Int) (w : World) (hx : IntsAt w a l) (hl : l.length ≤ 1000000) (hf : factsOk l) :
    Calls Try.prog 63 #[.slice a l.length cap] w fun e w' => e = .returned (.agg (intv (markL l)).toArray) ∧ Below w.heap.size w w' := by
  have Hx := hid hx; have Hf := hid hf
  clear hx hf
  go_enter Try.func63, Try.ntmps63
  have hh : ((w.alloc (.cells zero78 78)).alloc (.cells zero78 78)).heap[w.heap.size + 1]? = some (.cells (intv (List.replicate 12 0)).toArray 78 (0, 0)) := by
    have h := heap_alloc_new (w.alloc (.cells zero78 78)) (.cells zero78 78)
    rw [World.size_alloc] at h
    exact h
  have hB0 : Below w.heap.size w ((w.alloc (.cells zero78 78)).alloc (.cells zero78 78)) := bstep (bnew w _) (bnew _ _)
  have hh0 : ((w.alloc (.cells zero78 78)).alloc (.cells zero78 78)).heap[w.heap.size]? = some (.cells zero78 78 (0, 0)) := by
    rw [show ((w.alloc (.cells zero78 78)).alloc (.cells zero78 78)).heap[w.heap.size]? = (w.alloc (.cells zero78 78)).heap[w.heap.size]? from by
      show ((w.alloc (.cells zero78 78)).heap.push _)[w.heap.size]? = _
      rw [Array.getElem?_push, if_neg (by simp)]]
    exact heap_alloc_new _ _
  have Hh := hid hh; have HB0 := hid hB0; have Hh0 := hid hh0
  clear hh hB0 hh0
  go_wp2_with (refine wpList_clear_ints _ rfl _ rfl (w.heap.size + 1) 0 12 12 rfl 78 (intv (List.replicate 12 0)) Hh.out ?c1 ?c2; rotate_right; (intro w1 hh1 hO1; refine Hid.out ?_))
  case c1 => simp [intv]
  refine hid ?_
  have hz : (intv (List.replicate 12 0)).take 0 ++ (intv (List.replicate 12 0) ++ (intv (List.replicate 12 0)).drop (0 + 12)) = intv (markTo l 0) := by simp [intv, markTo]
  rw [hz] at hh1
  have HB1 := hid (HB0.out.trans (hO1.below (by have := HB0.out.size; omega) (by intro k hk e; have e' : k = w.heap.size + 1 := e; omega)))
  have Hh1 := hid hh1
  have Hr := hid ((hO1.block w.heap.size (by have := (Array.getElem?_eq_some_iff.1 Hh0.out).1; exact this) (by show ¬ w.heap.size = w.heap.size + 1; omega)).trans Hh0.out)
  clear hh1 hO1 hz Hh HB0 Hh0
  go_wp2
  go_loopw [9] (fun i wr => ∃ k : Nat, k ≤ l.length ∧ i = .int .i64 k ∧ wr.heap[w.heap.size + 1]? = some (.cells (intv (markTo l k)).toArray 78 (0, 0)) ∧ Only (fun b => b = w.heap.size + 1) w1 wr) (fun i _ => l.length - (intOf i).toNat)
  case atStart => exact ⟨0, Nat.zero_le _, rfl, Hh1.out, Only.refl _ _⟩
  case round =>
    obtain ⟨k, hk, rfl, hh, hO⟩ := hrel
    obtain ⟨wo, rfl⟩ : ∃ wo : World, wo = wr := ⟨_, rfl⟩
    have hBo : Below w.heap.size w wo := HB1.out.trans (hO.below HB1.out.size (by intro j hj e; have e' : j = w.heap.size + 1 := e; omega))
    by_cases hlt : k < l.length
    · obtain ⟨b, off, rfl, hc⟩ := (Hx.out.mono hBo).at hlt
      obtain ⟨f0, f1⟩ := Hf.out k hlt
      obtain ⟨n, hn⟩ := Int.eq_ofNat_of_zero_le f0
      have hset : markTo l (k + 1) = (markTo l k).set n 1 := by rw [markTo, hn]; rfl
      rw [hn] at hc
      have hn12 : n < 12 := by omega
      have hcc : wo.cell? ⟨w.heap.size + 1, n, none⟩ = some (.int .i64 (nth (markTo l k) n)) := by
        rw [cell_of_row _ _ _ _ _ _ hh, List.getElem?_toArray, intv_get, if_pos (by rw [markTo_length]; exact hn12)]
      have hfr : wo.frozen? ⟨w.heap.size + 1, n, none⟩ = false := frozen_of_row _ _ _ _ _ hh
      have Hh2 := hid hh; have HO := hid hO; have Hset := hid hset
      clear hh hO hset f0 f1 hn hBo
      go_wp2
      go_roundw
      case rel => exact ⟨k + 1, by omega, by go_num, (heap_setCell_same wo _ _ _ 78 _ Hh2.out).trans (by rw [Hset.out]; exact cellsSet (by unfold intv; rw [List.map_set])), HO.out.trans (setCell_only _ _ _)⟩
      case measure => simp [intOf]; omega
    · obtain rfl : k = l.length := by omega
      have hr := (hO.block w.heap.size (Array.getElem?_eq_some_iff.1 Hr.out).1 (by show ¬ w.heap.size = w.heap.size + 1; omega)).trans Hr.out
      have hp1 : partOk wo (w.heap.size + 1) 0 12 = true := partOk_of hh (by simp [intv_length, markTo_length])
      have hp2 : partOk wo w.heap.size 0 12 = true := partOk_of hr (by decide)
      have hfb : freeB wo w.heap.size = true := freeB_of hr
      have hpa : partAt wo (w.heap.size + 1) 0 12 = (intv (markTo l l.length)).toArray := by
        rw [partAt_of hh]
        have : ((intv (markTo l l.length)).toArray).size = 12 := by simp [intv_length, markTo_length]
        rw [show (0 : Nat) + 12 = ((intv (markTo l l.length)).toArray).size from by omega]
        exact Array.extract_size
      have hps : ((partAt wo (w.heap.size + 1) 0 12).size == 12) = true := by rw [hpa]; simp [intv_length, markTo_length]
      have hal : (partAt wo (w.heap.size + 1) 0 12).all (·.oneCell') = true := by
        rw [hpa]; simp only [List.all_toArray]; exact List.all_eq_true.2 (intv_one _)
      have Hr2 := hid hr; have HBo := hid hBo; have Hpa := hid hpa
      clear hr hh hO hBo hpa
      go_wp2
      have hfin : (World.setPart wo w.heap.size 0 (partAt wo (w.heap.size + 1) 0 12)).heap[w.heap.size]? = some (.cells (intv (markTo l l.length)).toArray 78 (0, 0)) := by
        rw [setPart_heap Hr2.out, Hpa.out]
        have e : zero78.toList.drop (0 + (intv (markTo l l.length)).toArray.size) = [] := List.drop_of_length_le (by simp [zero78, intv_length, markTo_length])
        rw [e]
        simp
      refine bodyPost_ret (results_cell_row rfl _ _ w.heap.size 78 _ (0, 0) _ rfl hfin Try.underlying78 rfl (by rw [show ((intv (markTo l l.length)).toArray).size = 12 from by simp [intv_length, markTo_length]]; kernel_rfl)) rfl ?_
      exact ⟨rfl, HBo.out.trans ((setPart_only wo w.heap.size 0 _).below HBo.out.size (by intro j hj e; have e' : j = w.heap.size := e; omega))⟩


def zeroAt (m : List Int) (x : Int) : Bool := nth m x.toNat == 0
def hasM (m l : List Int) : Bool := !l.any (zeroAt m)

set_option maxRecDepth 100000 in
theorem has1_c (g n : Nat) (m : List Int) (w : World) (hc : w.cell? ⟨g, n, none⟩ = some (.int .i64 (nth m n))) (hn : n < 12) :
    Calls Try.prog 95 #[.int .i64 n, .pointer (some ⟨g, 0, none⟩)] w fun e w' => e = .returned (.bool (zeroAt m n)) ∧ w = w' := by
  have hz : zeroAt m n = (nth m n == 0) := rfl
  rw [hz]
  generalize nth m n = v at *
  clear hz
  go_enter Try.func95, Try.ntmps95
  go_wp2
  go_ret
  exact ⟨rfl, rfl⟩

theorem enters95 : ∀ args w, (callFunc 95 args).run Try.prog w = .ok (.enter 95 args) w := enters_of Try.func95 (by kernel_rfl) rfl

set_option maxRecDepth 100000 in
set_option maxHeartbeats 1000000 in
theorem has_c (a : Option Addr) (cap : Nat) (m l : List Int) (w : World) (hx : IntsAt w a l) (hl : l.length ≤ 1000000) (hm : m.length = 12) (hf : factsOk l) :
    Calls Try.prog 73 #[.agg (intv m).toArray, .slice a l.length cap] w fun e w' => e = .returned (.bool (hasM m l)) ∧ Below w.heap.size w w' := by
  have HB0 := hid (bnew w (.cells (intv m).toArray 78))
  have hh := heap_alloc_new w (.cells (intv m).toArray 78)
  have H := hid (containsFunc_c a cap 95 #[.pointer (some ⟨w.heap.size, 0, none⟩)] (zeroAt m) l (w.alloc (.cells (intv m).toArray 78)) (hx.mono HB0.out) hl
    (fun k hk => by
      obtain ⟨f0, f1⟩ := hf k hk
      obtain ⟨n, hn⟩ := Int.eq_ofNat_of_zero_le f0
      have := has1_c w.heap.size n m (w.alloc (.cells (intv m).toArray 78)) (by rw [cell_of_row _ _ _ _ _ _ hh, List.getElem?_toArray, intv_get, if_pos (by omega)]) (by omega)
      rw [hn]
      exact this) enters95)
  unfold hasM
  generalize l.any (zeroAt m) = v at *
  obtain ⟨V, hV⟩ : ∃ V, V = (intv m).toArray := ⟨_, rfl⟩
  rw [← hV] at H HB0 ⊢
  clear hx hl hm hf hV hh
  go_enter Try.func73, Try.ntmps73
  go_wp2_with fail
  refine H.out.mono ?_
  rintro e w' ⟨rfl, rfl⟩
  go_wp2
  go_ret
  exact ⟨rfl, HB0.out⟩

end Go.Proofs.Ytkioejdddmnbmaa
