/- Walks: turn. -/
import Derived.Test.YtjnijhnphhpilaaTm
import Derived.WalkMore
import Derived.Carry
namespace Go.Proofs.Ytjnijhnphhpilaa
open Go.RowKit Go.Shelf
attribute [local go_sem ↓] wp_get wp_get0 wp_getS wpa100 wpx100 wp100 wp98 wps100

theorem turned_only {w w' : World} {b : Nat} (h : w.mapTurned w' b) : Only (fun k => k = b) w w' :=
  ⟨h.grown.os, h.grown.tape, h.grown.output, h.grown.size, fun j hj hs => h.grown.block j hj (fun e => hs (by cases e; rfl))⟩

theorem key98 : Try.prog.keyTypeAt 2 98 = true := by kernel_rfl
theorem keyTypeAll98 : Try.prog.keyType 98 = true := by kernel_rfl
theorem wide98 : (match Try.prog.underlying 98 with | some (.array _ _) | some (.struct _) => true | _ => false) = true := by rw [Try.underlying98]

theorem keyOf_stand98 {s : List Int} (hs : s.length = 12) (hb : isBits s = true) : keyOf Try.prog 98 (.agg (intv s).toArray) = some (.string (keyBytes (stLits s))) := by
  unfold keyOf
  rw [Try.underlying98]
  have hf : (Value.agg (intv s).toArray).formed Try.prog 98 = true := by
    simp [Value.formed, Try.underlying98, cells98, intv_length, hs]
  have hn : ∃ n, Try.prog.types.size + 1 = n + 2 := ⟨Try.prog.types.size - 1, by
    have : 2 ≤ Try.prog.types.size := of_decide_eq_true (by kernel_rfl)
    omega⟩
  obtain ⟨n, hn⟩ := hn
  rw [keyTypeAll98, hf, hn]
  have h := keyLits98 n hs hb
  simp [Value.cells, h]

set_option maxRecDepth 100000 in
theorem eql98 {s t : List Int} (hs : s.length = 12) (ht : t.length = 12) (hb : isBits s = true) (hc : isBits t = true) (w : World) :
    (binOp .eql 98 (.agg (intv s).toArray) (.agg (intv t).toArray)).run Try.prog w = .ok (.bool (decide (s = t))) w := by
  obtain ⟨r, hr, hiff⟩ := run_equal_deep w (m := 2) (by omega) key98 wide98 (keyOf_stand98 hs hb) (keyOf_stand98 ht hc)
  have e : r = decide (s = t) := by
    rw [Bool.eq_iff_iff, hiff, decide_eq_true_iff]
    exact ⟨fun h => stand_key_inj hs ht hb hc (Lit.string.inj h), fun h => by rw [h]⟩
  rw [run_eql_struct]
  rw [Op.equal, Op.maxDepth] at hr
  rw [hr, e]
  rfl

theorem wrap64_nat {n : Nat} (h : n ≤ 1000000) : wrap64 (n : Int) = n := by unfold wrap64; omega

theorem World.heap_alloc_old' (w : World) (o : Obj) (i : Nat) (h : i < w.heap.size) : (w.alloc o).heap[i]? = w.heap[i]? := heap_alloc_old w o h

def TurnP (w : World) (f g : List Int) (e : Ending) (w' : World) : Prop := ∃ i r, e = .returned (.tuple #[.int .i64 (i : Nat), .int .i64 (r : Nat)]) ∧ TurnIs f g i r ∧ Below w.heap.size w w'

set_option maxRecDepth 100000 in
set_option maxHeartbeats 1000000 in
theorem turn_c (a1 a2 : Option Addr) (c1 c2 : Nat) (f g : List Int) (w : World) (h1 : IntsAt w a1 f) (h2 : IntsAt w a2 g) (hfb : isBits f = true) (hgb : isBits g = true) (hl : f.length = g.length) (hl12 : g.length ≤ 12) :
    Calls Try.prog 72 #[.agg #[.slice a1 f.length c1, .slice a2 g.length c2]] w (TurnP w f g) := by
  have H1 := hid h1; have H2 := hid h2; have Hf := hid hfb; have Hg := hid hgb; have Hl := hid hl
  clear h1 h2 hfb hgb hl
  go_enter Try.func72, Try.ntmps72
  go_wp2
  go_step3
  go_wp2
  obtain ⟨W2, hW2⟩ : ∃ W2, W2 = (w.alloc (.cells #[.slice a1 f.length c1, .slice a2 g.length c2] 24)).alloc (.cells zero100 100) := ⟨_, rfl⟩
  rw [← hW2]
  have hs2 : W2.heap.size = w.heap.size + 2 := by rw [hW2]; simp
  have hB2 : Below w.heap.size w W2 := by rw [hW2]; exact ((Below.refl _ _).alloc (Nat.le_refl _) _).alloc (by simp) _
  have hd2 : W2.heap[w.heap.size]? = some (.cells #[.slice a1 f.length c1, .slice a2 g.length c2] 24 (0, 0)) := by
    rw [hW2, heap_push, heap_push, Array.getElem?_push, if_neg (by simp only [Array.size_push]; omega), Array.getElem?_push, if_pos rfl]
  have hn2 : W2.heap[w.heap.size + 1]? = some (.cells zero100 100 (0, 0)) := by
    rw [hW2, heap_push, heap_push, Array.getElem?_push, if_pos (by simp only [Array.size_push])]
  have HB2 := hid hB2; have Hd2 := hid hd2; have Hn2 := hid hn2
  have q1 := cell_of_row W2 w.heap.size 1 _ _ _ hd2
  simp at q1
  clear hW2 hB2 hd2 hn2
  go_loopw [5, 19] (fun _ i wr => ∃ k : Nat, k ≤ g.length ∧ i = .int .i64 k ∧ wr.heap[w.heap.size + 1]? = some (.cells (intv (stand0To g k)).toArray 100 (0, 0)) ∧ Only (fun b => b = w.heap.size + 1) W2 wr) (fun _ i _ => g.length - (intOf i).toNat)
  case atStart => exact ⟨0, Nat.zero_le _, rfl, Hn2.out, Only.refl _ _⟩
  case round =>
    obtain ⟨k, hk, rfl, hcur, ho⟩ := hrel
    obtain ⟨wq, rfl⟩ : ∃ wq : World, wq = wr := ⟨_, rfl⟩
    by_cases hlt : k < g.length
    · have hg1 := (H2.out.mono HB2.out).only ho (fun b off e hl2 h => by subst e; have := H2.out.lt hl2; omega)
      obtain ⟨r, hr⟩ : ∃ r, r = g.length - 1 - k := ⟨_, rfl⟩
      obtain ⟨b, off, rfl, hc⟩ := hg1.at (k := r) (by omega)
      have c1' := ho.cell q1 (by simp)
      have ck : wq.cell? ⟨w.heap.size + 1, k, none⟩ = some (.int .i64 (nth (stand0To g k) k)) := by
        rw [cell_of_row _ _ _ _ _ _ hcur, List.getElem?_toArray, intv_get, if_pos (by rw [stand0To_length]; omega)]
      have cf : ∀ j, wq.frozen? ⟨w.heap.size + 1, j, none⟩ = false := fun j => frozen_of_row _ _ _ _ _ hcur
      have hrI : (g.length : Int) - 1 - (k : Int) = (r : Int) := by omega
      have hrl : r < g.length := by omega
      have hk12 : k < 12 := by omega
      have Hcur := hid hcur; have Ho := hid ho; have Hr := hid hr
      clear hcur ho hg1 hr
      go_wp2
      go_roundw
      case rel =>
        refine ⟨k + 1, by omega, by go_num, ?_, Ho.out.set1 _ _⟩
        exact (heap_setCell_same wq (w.heap.size + 1) k _ 100 _ Hcur.out).trans (cellsSet (by unfold intv; rw [← List.map_set, stand0To, Hr.out]))
      case measure => simp [intOf]; omega
    · obtain rfl : k = g.length := by omega
      have hmm : (Instr.makeMap 102 none).run Try.prog wq = .ok (.map (some wq.heap.size)) (wq.alloc (.map #[] 0)) := run_makeMap 102 wq
      have hBq := HB2.out.trans (ho.below HB2.out.size (by intro j hj; omega))
      have hsz := ho.size
      have hBm := hBq.alloc hBq.size (.map #[] 0)
      have hdq := (ho.block w.heap.size (by omega) (by omega)).trans Hd2.out
      have hown := World.ownsMap_made (H := Unit) wq Try.prog 100 (plainElem Try.prog 3)
      have hdm := (World.heap_alloc_old' wq (.map #[] 0) w.heap.size (by omega)).trans hdq
      have hcm := (World.heap_alloc_old' wq (.map #[] 0) (w.heap.size + 1) (by omega)).trans hcur
      have HBm := hid hBm; have Hdm := hid hdm; have Hcm := hid hcm; have Hown := hid hown
      clear hBq hBm hdq hown hdm hcm hcur ho q1
      go_wp2
      go_step3
      go_wp2
      obtain ⟨bm, hbm⟩ : ∃ bm, bm = wq.heap.size := ⟨_, rfl⟩
      rw [← hbm] at Hown ⊢
      have hbm2 : w.heap.size + 2 ≤ bm := by omega
      have hx1 := H1.out.mono HBm.out
      have Hx1 := hid hx1
      clear hx1 hmm hbm
      go_loopw [8, 9, 10] (fun s _ _ wr => ∃ n : Nat, s = .int .i64 n ∧ wr.ownsMap Try.prog 100 (plainElem Try.prog 3) bm n (DN (H := Unit) f g n) ∧ Apart f g n ∧
        wr.heap[w.heap.size + 1]? = some (.cells (intv (standAt f g n)).toArray 100 (0, 0)) ∧ wr.heap[w.heap.size]? = some (.cells #[.slice a1 f.length c1, .slice a2 g.length c2] 24 (0, 0)) ∧ Below w.heap.size w wr) (fun s _ _ _ => 4097 - (intOf s).toNat)
      case atStart => exact ⟨0, rfl, Hown.out, fun i j _ h => by omega, Hcm.out, Hdm.out, HBm.out⟩
      case round =>
        obtain ⟨n, rfl, hm, hap, hst, hdb, hB⟩ := hrel
        obtain ⟨wp, rfl⟩ : ∃ wp : World, wp = wr := ⟨_, rfl⟩
        have hn := apart_le Hg.out hap
        have hpo : partOk wp (w.heap.size + 1) 0 12 = true := partOk_of hst (by simp [intv_length, standAt_length])
        have hpa : partAt wp (w.heap.size + 1) 0 12 = (intv (standAt f g n)).toArray := by
          rw [partAt_of hst]
          apply Array.ext'
          simp only [List.extract_toArray, List.extract_eq_take_drop, List.drop_zero, Nat.sub_zero, Nat.zero_add]
          rw [List.take_of_length_le (by rw [intv_length, standAt_length]; omega)]
        have hkey : keyOf Try.prog 100 (.agg (partAt wp (w.heap.size + 1) 0 12)) = some (stKey (standAt f g n)) := by
          rw [hpa]; exact keyOf_stand (standAt_length _ _ _) (standAt_bits Hg.out _)
        have Hm := hid hm; have Hap := hid hap; have Hst := hid hst; have Hdb := hid hdb; have HB := hid hB; have Hpa := hid hpa; have Hkey := hid hkey
        clear hm hap hst hdb hB hpa hkey
        go_wp2_with (at_lookup; refine Go.wpList_lookup_own_ok_int wp rfl _ _ 102 rfl 100 3 .i64 keyed100 Try.underlying102 Try.underlying3 ?z bm n (DN (H := Unit) f g n) rfl Hm.out _ (stKey (standAt f g n)) rfl Hkey.out ?K; rotate_right; (intro c hat hwc; refine Hid.out ?_))
        case z => kernel_rfl
        case K =>
          by_cases hex : ∃ i, i < n ∧ standAt f g i = standAt f g n
          · obtain ⟨i, hi, hie⟩ := hex
            have hhas : Go.Maps.has (DN (H := Unit) f g n) (stKey (standAt f g n)) = true := by rw [← hie]; exact dn_has Hg.out hi
            rw [hhas]
            obtain ⟨c', hlk, hat', _⟩ := Hm.out.lookup_int keyed100 Try.underlying102 Try.underlying3 (show (zeroValue 3).run Try.prog wp = .ok (.int .i64 0) wp from by kernel_rfl) Hkey.out
            rw [← hie, dn_at Hg.out hi Hap.out] at hat'
            have hci : c' = (i : Int) := by cases hat'; rfl
            rw [hci] at hlk
            have Hie := hid hie
            clear hie hhas hat hwc hat' hci
            refine hid ?_
            go_wp2_with (at_range; refine Go.wpList_range_own wp rfl _ 102 rfl 100 3 keyed100 Try.underlying102 (plainElem Try.prog 3) bm n (DN (H := Unit) f g n) rfl Hm.out ?K3; rotate_right; (intro w1 hrg1 hgr1 hsz1; refine Hid.out ?_))
            case K3 =>
              have ho1 : Only (fun _ => False) wp w1 := ⟨hgr1.os, hgr1.tape, hgr1.output, hgr1.size, fun j hj _ => hgr1.block j hj (by simp)⟩
              have hst1 := (ho1.block (w.heap.size + 1) (Array.getElem?_eq_some_iff.1 Hst.out).1 (fun h => h)).trans Hst.out
              have hdb1 := (ho1.block w.heap.size (Array.getElem?_eq_some_iff.1 Hdb.out).1 (fun h => h)).trans Hdb.out
              have hB1 : Below w.heap.size w w1 := HB.out.trans (ho1.below HB.out.size (by intro j hj h; exact h))
              obtain ⟨r, hr⟩ : ∃ r, r = wp.heap.size := ⟨_, rfl⟩
              rw [← hr] at hrg1 ⊢
              have hbr : bm < r := by rw [hr]; exact Hm.out.lt
              have Hrg1 := hid hrg1; have Hst1 := hid hst1; have Hdb1 := hid hdb1; have HB1 := hid hB1
              clear hrg1 hst1 hdb1 hB1 ho1 hgr1 hlk hr hsz1
              refine hid ?_
              go_wp2
              go_loopw [12, 13] (fun _ _ wr => ∃ dels left cnt, wr.ranges Try.prog 100 (plainElem Try.prog 3) bm r n (DD (H := Unit) f g n dels) left cnt ∧ RngI f g n i dels left ∧
                wr.heap[w.heap.size + 1]? = some (.cells (intv (standAt f g n)).toArray 100 (0, 0)) ∧ wr.heap[w.heap.size]? = some (.cells #[.slice a1 f.length c1, .slice a2 g.length c2] 24 (0, 0)) ∧ Below w.heap.size w wr) (fun _ _ wr => wr.rangeLeft bm r)
              case atStart => exact ⟨[], _, _, Hrg1.out, rng_start Hg.out hi, Hst1.out, Hdb1.out, HB1.out⟩
              case round =>
                obtain ⟨dels, left, cnt, hrg, hri, hst, hdb, hB⟩ := hrel
                obtain ⟨wx, rfl⟩ : ∃ wx : World, wx = wr := ⟨_, rfl⟩
                have hleft := hrg.left_eq
                have Hrg := hid hrg; have Hri := hid hri; have Hst2 := hid hst; have Hdb2 := hid hdb; have HB2x := hid hB; have Hleft := hid hleft
                clear hrg hri hst hdb hB hleft
                rcases Hrg.out.next keyed100 0 with ⟨h0, hall, hnx⟩ | ⟨key, v, kl, y, w3, cnt3, hkey, hlk, hv, hat, hnx, hrg3, hlt3, hgr3, hsz3, hen⟩
                · have Hall := hid hall
                  clear hall
                  have hlen := Hrg.out.owns.len Try.underlying102 3
                  have hsize : Go.Maps.size (DD (H := Unit) f g n dels) = n - i := by
                    have h1 := dd_size (H := Unit) Hg.out Hap.out (fun a ha => Nat.lt_trans (Hri.out.lt a ha) hi) Hri.out.nodup
                    have h2 := Hri.out.all Hall.out
                    omega
                  rw [hsize] at hlen
                  obtain ⟨rd, hrd⟩ : ∃ rd, rd = n - i := ⟨_, rfl⟩
                  rw [← hrd] at hlen
                  have hpoX : partOk wx (w.heap.size + 1) 0 12 = true := partOk_of Hst2.out (by simp [intv_length, standAt_length])
                  have hpaX : partAt wx (w.heap.size + 1) 0 12 = (intv (standAt f g n)).toArray := by
                    rw [partAt_of Hst2.out]
                    apply Array.ext'
                    simp only [List.extract_toArray, List.extract_eq_take_drop, List.drop_zero, Nat.sub_zero, Nat.zero_add]
                    rw [List.take_of_length_le (by rw [intv_length, standAt_length]; omega)]
                  have hcall := turn1_c a1 a2 c1 c2 w.heap.size f g (standAt f g n) wx (by rw [cell_of_row _ _ _ _ _ _ Hdb2.out]; rfl) (H1.out.mono HB2x.out) Hf.out (standAt_bits Hg.out n) (standAt_length _ _ _) (by have := Hl.out; omega)
                  have Hcall := hid hcall; have HpaX := hid hpaX; have Hrd := hid hrd
                  clear hcall hpaX hsize hrd
                  go_wp2_with fail
                  rw [HpaX.out]
                  refine Hcall.out.mono ?_
                  rintro e w2 ⟨rfl, hB2⟩
                  have hst2 := (hB2.block (w.heap.size + 1) (Array.getElem?_eq_some_iff.1 Hst2.out).1).trans Hst2.out
                  have heql := eql98 (standTo_length f (standAt f g n) f.length) (standAt_length f g n) (standTo_bits (standAt_bits Hg.out n) f.length) (standAt_bits Hg.out n)
                  obtain ⟨nx, hnx⟩ : ∃ nx, nx = standTo f (standAt f g n) f.length := ⟨_, rfl⟩
                  rw [← hnx] at heql ⊢
                  have hps2 : ((intv nx).toArray.size == 12) = true := by rw [hnx]; simp [intv_length, standTo_length]
                  have hal2 : (intv nx).toArray.all (·.oneCell') = true := by simp only [List.all_toArray]; exact List.all_eq_true.2 (intv_one _)
                  obtain ⟨va, hva⟩ : ∃ va, va = (intv nx).toArray := ⟨_, rfl⟩
                  rw [← hva] at hps2 hal2 heql ⊢
                  have hvs : va.size = 12 := by simpa using hps2
                  have hpo3 : partOk (w2.alloc (.cells zero100 100)) w2.heap.size 0 12 = true := partOk_of (heap_alloc_new w2 _) (by simp [zero100, intv_length])
                  have hfb3 : freeB (w2.alloc (.cells zero100 100)) w2.heap.size = true := freeB_of (heap_alloc_new w2 _)
                  have hset : World.setPart (w2.alloc (.cells zero100 100)) w2.heap.size 0 va = w2.alloc (.cells va 100) := by
                    unfold World.setPart
                    rw [heap_alloc_new]
                    simp only [List.take_zero, List.nil_append, Nat.zero_add, hvs]
                    rw [setRow_alloc, List.drop_of_length_le (by simp [zero100, intv_length])]
                    simp
                  have hpo4 : partOk (w2.alloc (.cells va 100)) w2.heap.size 0 12 = true := partOk_of (heap_alloc_new w2 _) (by omega)
                  have hpa4 : partAt (w2.alloc (.cells va 100)) w2.heap.size 0 12 = va := by
                    rw [partAt_of (heap_alloc_new w2 _)]
                    rw [← hvs, Nat.zero_add, Array.extract_size]
                  have hst4 : (w2.alloc (.cells va 100)).heap[w.heap.size + 1]? = some (.cells (intv (standAt f g n)).toArray 100 (0, 0)) := (heap_alloc_old w2 _ (Array.getElem?_eq_some_iff.1 hst2).1).trans hst2
                  have hpo5 : partOk (w2.alloc (.cells va 100)) (w.heap.size + 1) 0 12 = true := partOk_of hst4 (by simp [intv_length, standAt_length])
                  obtain ⟨vb, hvb⟩ : ∃ vb, vb = (intv (standAt f g n)).toArray := ⟨_, rfl⟩
                  have hpa5 : partAt (w2.alloc (.cells va 100)) (w.heap.size + 1) 0 12 = vb := by
                    rw [partAt_of hst4, hvb]
                    apply Array.ext'
                    simp only [List.extract_toArray, List.extract_eq_take_drop, List.drop_zero, Nat.sub_zero, Nat.zero_add]
                    rw [List.take_of_length_le (by rw [intv_length, standAt_length]; omega)]
                  rw [← hvb] at heql
                  have Hnx := hid hnx
                  have HB2' := hid (bstep HB2x.out (hB2.alloc hB2.size (.cells va 100)))
                  have Hit := hid (show TurnIs f g i (n - i) from ⟨by omega, by rw [show i + (n - i) = n from by omega]; exact Hie.out, by rw [show i + (n - i) = n from by omega]; exact Hap.out⟩)
                  clear hst2 hva hst4 hvb hB2 hvs hnx
                  by_cases hd : nx = standAt f g n
                  · have hr1 : n - i = 1 := by
                      have h1 : standAt f g (i + 1) = standAt f g i := by
                        rw [show standAt f g (i + 1) = standTo f (standAt f g i) f.length from rfl, Hie.out, ← Hnx.out, hd]
                      by_cases h2 : i + 1 < n
                      · exact absurd h1.symm (Hap.out i (i + 1) (by omega) h2)
                      · omega
                    have Hr1 := hid hr1
                    rw [decide_eq_true hd] at heql
                    clear hd hr1
                    go_wp2
                    go_ret2
                    exact ⟨i, 1, rfl, by rw [← Hr1.out]; exact Hit.out, HB2'.out⟩
                  · rw [decide_eq_false hd] at heql
                    clear hd
                    go_wp2
                    go_ret2
                    exact ⟨i, n - i, by rw [Hrd.out]; rfl, Hit.out, HB2'.out⟩
                · obtain ⟨s, rfl, hs12, rfl⟩ := keyOf_inv hkey
                  obtain ⟨j, hj, hsj⟩ := Hri.out.keys _ hlk
                  obtain ⟨c3, rfl, rfl, hwc3⟩ := plainElem_int_inv Try.underlying3 hv
                  have hsb : stKey s = stKey (standAt f g j) := hsj
                  have Hsb := hid hsb; have Hlk3 := hid hlk; have Hat3 := hid hat; have Hrg3 := hid hrg3; have Hs12 := hid hs12; have Hkey3 := hid hkey
                  obtain ⟨va, hva⟩ : ∃ va, va = (intv s).toArray := ⟨_, rfl⟩
                  rw [← hva] at hnx hen
                  have hvs : va.size = 12 := by rw [hva]; simp [intv_length, hs12]
                  have hps3 : (va.size == 12) = true := by rw [hvs]; rfl
                  have hal3 : va.all (·.oneCell') = true := by rw [hva]; simp only [List.all_toArray]; exact List.all_eq_true.2 (intv_one _)
                  have hst3 := (hgr3.block (w.heap.size + 1) (Array.getElem?_eq_some_iff.1 Hst2.out).1 (by simp; omega)).trans Hst2.out
                  have hdb3 := (hgr3.block w.heap.size (Array.getElem?_eq_some_iff.1 Hdb2.out).1 (by simp; omega)).trans Hdb2.out
                  have hB3 : Below w.heap.size w w3 := HB2x.out.trans ⟨hgr3.os, hgr3.tape, hgr3.output, hgr3.size, fun k hk => hgr3.block k (Nat.lt_of_lt_of_le hk HB2x.out.size) (by simp; omega)⟩
                  have hpo3 : partOk (w3.alloc (.cells zero100 100)) w3.heap.size 0 12 = true := partOk_of (heap_alloc_new w3 _) (by simp [zero100, intv_length])
                  have hfb3 : freeB (w3.alloc (.cells zero100 100)) w3.heap.size = true := freeB_of (heap_alloc_new w3 _)
                  have hset : World.setPart (w3.alloc (.cells zero100 100)) w3.heap.size 0 va = w3.alloc (.cells va 100) := by
                    unfold World.setPart
                    rw [heap_alloc_new]
                    simp only [List.take_zero, List.nil_append, Nat.zero_add, hvs]
                    rw [setRow_alloc, List.drop_of_length_le (by simp [zero100, intv_length])]
                    simp
                  have hpo4 : partOk (w3.alloc (.cells va 100)) w3.heap.size 0 12 = true := partOk_of (heap_alloc_new w3 _) (by omega)
                  have hpa4 : partAt (w3.alloc (.cells va 100)) w3.heap.size 0 12 = va := by
                    rw [partAt_of (heap_alloc_new w3 _)]
                    rw [← hvs, Nat.zero_add, Array.extract_size]
                  have Hva := hid hva; have Hst3 := hid hst3; have Hdb3 := hid hdb3; have HB3 := hid hB3
                  clear hsb hlk hat hrg3 hs12 hkey hsj hv hgr3 hsz3 hva hvs hst3 hdb3 hB3
                  have hcj0 : c3 = (j : Int) := by
                    have h1 := Hat3.out (.lit (.int .i64 0))
                    rw [Hsb.out, dd_at Hg.out Hap.out hj (fun a ha => Nat.lt_trans (Hri.out.lt a ha) hi) (Hri.out.fresh j hj (by rw [← Hsb.out]; exact Hlk3.out))] at h1
                    cases h1; rfl
                  by_cases hji : j < i
                  · have hcj : c3 = (j : Int) := hcj0
                    have hrgA : (w3.alloc (.cells va 100)).ranges Try.prog 100 (plainElem Try.prog 3) bm r n (DD (H := Unit) f g n dels) (fun z => left z && !z.sameKey (stKey (standAt f g j))) cnt3 := by
                      have h := Hrg3.out.alloc (.cells va 100)
                      rw [Hsb.out] at h
                      exact h
                    obtain ⟨w5, cnt5, hdel, hrg5, hle5, htn5⟩ := hrgA.drop keyed100 Try.underlying102 (key := .agg va) (kl := stKey (standAt f g j)) (by rw [Hva.out, ← Hsb.out]; exact Hkey3.out) 0
                    rw [Go.Maps.strike_twice] at hrg5
                    have Hrg5 := hid hrg5; have Htn5 := hid htn5
                    clear hrg5 htn5 hrgA
                    go_wp2
                    have hBa := (Below.refl w3.heap.size w3).alloc (Nat.le_refl _) (.cells va 100)
                    have hO5 := turned_only Htn5.out
                    have hst4 := (hBa.block _ (Array.getElem?_eq_some_iff.1 Hst3.out).1).trans Hst3.out
                    have hdb4 := (hBa.block _ (Array.getElem?_eq_some_iff.1 Hdb3.out).1).trans Hdb3.out
                    have hB4 := bstep HB3.out hBa
                    go_roundw
                    case rel =>
                      exact ⟨j :: dels, _, cnt5, Hrg5.out, Hri.out.strike Hg.out Hap.out hi hji (by rw [← Hsb.out]; exact Hlk3.out), (hO5.block _ (Array.getElem?_eq_some_iff.1 hst4).1 (by omega)).trans hst4, (hO5.block _ (Array.getElem?_eq_some_iff.1 hdb4).1 (by omega)).trans hdb4, hB4.trans (hO5.below hB4.size (by intro k hk; omega))⟩
                    case measure => rw [Hrg5.out.left_eq, Hleft.out]; omega
                  · have hcj : c3 = (j : Int) := hcj0
                    have hcji : decide (c3 < (i : Int)) = false := by rw [hcj]; simp; omega
                    have hrgA : (w3.alloc (.cells va 100)).ranges Try.prog 100 (plainElem Try.prog 3) bm r n (DD (H := Unit) f g n dels) (fun z => left z && !z.sameKey (stKey (standAt f g j))) cnt3 := by
                      have h := Hrg3.out.alloc (.cells va 100)
                      rw [Hsb.out] at h
                      exact h
                    have HrgA := hid hrgA
                    clear hrgA
                    go_wp2
                    go_roundw
                    case rel =>
                      have hBa := (Below.refl w3.heap.size w3).alloc (Nat.le_refl _) (.cells va 100)
                      exact ⟨dels, _, cnt3, HrgA.out, Hri.out.keep Hg.out Hap.out hi hj (by omega), (hBa.block _ (Array.getElem?_eq_some_iff.1 Hst3.out).1).trans Hst3.out, (hBa.block _ (Array.getElem?_eq_some_iff.1 Hdb3.out).1).trans Hdb3.out, bstep HB3.out hBa⟩
                    case measure => rw [HrgA.out.left_eq, Hleft.out]; exact hlt3
          · have hhas : Go.Maps.has (DN (H := Unit) f g n) (stKey (standAt f g n)) = false := dn_has_not Hg.out (standAt_length _ _ _) (standAt_bits Hg.out _) (fun i hi h => hex ⟨i, hi, h⟩)
            rw [hhas]
            have Hex := hid hex
            clear hex hhas hat hwc
            refine hid ?_
            go_wp2_with (at_mapUpdate; refine Go.wpList_mapUpdate_own wp rfl _ _ _ 102 rfl 100 3 keyed100 Try.underlying102 (plainElem Try.prog 3) bm n (DN (H := Unit) f g n) rfl Hm.out ?hn _ _ (stKey (standAt f g n)) rfl rfl Hkey.out (.lit (.int .i64 n)) [] ?hv ?K2; rotate_right; (intro w1 hown1 hgr1; refine Hid.out ?_))
            case hn => unfold maxLen; omega
            case hv => exact plainElem_int Try.underlying3 (by have h := Go.RowKit.wrap64_wf (n : Int); rwa [wrap64_nat (by omega)] at h)
            case K2 =>
              have ho1 : Only (fun b => b = bm) wp w1 := ⟨hgr1.os, hgr1.tape, hgr1.output, hgr1.size, fun j hj hs => hgr1.block j hj (fun e => hs (by cases e; rfl))⟩
              have hst1 := (ho1.block (w.heap.size + 1) (Array.getElem?_eq_some_iff.1 Hst.out).1 (by omega)).trans Hst.out
              have hdb1 := (ho1.block w.heap.size (Array.getElem?_eq_some_iff.1 Hdb.out).1 (by omega)).trans Hdb.out
              have hB1 : Below w.heap.size w w1 := HB.out.trans (ho1.below HB.out.size (by intro j hj; omega))
              have hpo1 : partOk w1 (w.heap.size + 1) 0 12 = true := partOk_of hst1 (by simp [intv_length, standAt_length])
              have hpa1 : partAt w1 (w.heap.size + 1) 0 12 = (intv (standAt f g n)).toArray := by
                rw [partAt_of hst1]
                apply Array.ext'
                simp only [List.extract_toArray, List.extract_eq_take_drop, List.drop_zero, Nat.sub_zero, Nat.zero_add]
                rw [List.take_of_length_le (by rw [intv_length, standAt_length]; omega)]
              have hcall := turn1_c a1 a2 c1 c2 w.heap.size f g (standAt f g n) w1 (by rw [cell_of_row _ _ _ _ _ _ hdb1]; rfl) (H1.out.mono hB1) Hf.out (standAt_bits Hg.out n) (standAt_length _ _ _) (by have := Hl.out; omega)
              have Hcall := hid hcall; have Hown1 := hid hown1; have Hst1 := hid hst1; have Hdb1 := hid hdb1; have HB1 := hid hB1; have Hpa1 := hid hpa1
              clear hcall hown1 hgr1 ho1 hst1 hdb1 hB1 hpa1
              refine hid ?_
              go_wp2_with fail
              rw [Hpa1.out]
              refine Hcall.out.mono ?_
              rintro e w2 ⟨rfl, hB2⟩
              have hst2 := (hB2.block (w.heap.size + 1) (Array.getElem?_eq_some_iff.1 Hst1.out).1).trans Hst1.out
              have hdb2 := (hB2.block w.heap.size (Array.getElem?_eq_some_iff.1 Hdb1.out).1).trans Hdb1.out
              have hpo2 : partOk w2 (w.heap.size + 1) 0 12 = true := partOk_of hst2 (by simp [intv_length, standAt_length])
              have hfb2 : freeB w2 (w.heap.size + 1) = true := freeB_of hst2
              obtain ⟨nx, hnx⟩ : ∃ nx, nx = standTo f (standAt f g n) f.length := ⟨_, rfl⟩
              rw [← hnx]
              have hps2 : ((intv nx).toArray.size == 12) = true := by rw [hnx]; simp [intv_length, standTo_length]
              have hal2 : (intv nx).toArray.all (·.oneCell') = true := by simp only [List.all_toArray]; exact List.all_eq_true.2 (intv_one _)
              obtain ⟨va, hva⟩ : ∃ va, va = (intv nx).toArray := ⟨_, rfl⟩
              rw [← hva] at hps2 hal2 ⊢
              have Hva := hid hva
              clear hva
              have hown2 : w2.ownsMap Try.prog 100 (plainElem Try.prog 3) bm (n + 1) (DN (H := Unit) f g (n + 1)) := Hown1.out.kept (row := none) ⟨hB2.os, hB2.tape, hB2.output, hB2.size, fun j hj _ => hB2.block j hj⟩ (by simp)
              have Hst2 := hid hst2; have Hdb2 := hid hdb2; have Hown2 := hid hown2; have HB2' := hid (bstep HB1.out hB2); have Hnx := hid hnx
              clear hst2 hdb2 hown2 hB2 hnx
              go_wp2
              have hO := setPart_only w2 (w.heap.size + 1) 0 va
              have hfin : (World.setPart w2 (w.heap.size + 1) 0 va).heap[w.heap.size + 1]? = some (.cells (intv nx).toArray 100 (0, 0)) := by
                rw [setPart_heap Hst2.out, Hva.out]
                have e : (intv (standAt f g n)).toArray.toList.drop (0 + (intv nx).toArray.size) = [] := List.drop_of_length_le (by rw [Hnx.out]; simp [intv_length, standAt_length, standTo_length])
                rw [e]
                simp
              have hap1 : Apart f g (n + 1) := fun a b hab hb => by
                by_cases hbn : b = n
                · subst hbn; exact fun h => Hex.out ⟨a, hab, h⟩
                · exact Hap.out a b hab (by omega)
              have hn1 := apart_le Hg.out hap1
              go_roundw
              case rel =>
                refine ⟨n + 1, by go_num, Hown2.out.kept (row := some (w.heap.size + 1)) ⟨hO.os, hO.tape, hO.output, hO.size, fun j hj hs => hO.block j hj (fun h => hs (by rw [h]))⟩ (by simp; omega), hap1, ?_, ?_, ?_⟩
                · rw [hfin, Hnx.out]; rfl
                · exact (hO.block w.heap.size (Array.getElem?_eq_some_iff.1 Hdb2.out).1 (by omega)).trans Hdb2.out
                · exact HB2'.out.trans (hO.below HB2'.out.size (by intro j hj; omega))
              case measure => simp [intOf]; omega

end Go.Proofs.Ytjnijhnphhpilaa
