/- Walks: the truths of a desk (an iterator), Count. -/
import Derived.Test.YtkioejdddmnbmaaSd
import Derived.RangeFuncNested
import Derived.RangeFuncBound
import Derived.RangeFuncCalls
import Derived.Shelf.RegionOpen
import Derived.OwnWalkIn
import Derived.TacticsInMore
import Derived.LoopNIn
import Derived.LoopIn
namespace Go.Proofs.Ytkioejdddmnbmaa
open Go.RowKit Go.Shelf
attribute [local go_sem ↓] wp_get wp_get0 wp_getS wp78 wps78 wpa78
attribute [local go_sem] Oper.semAt_some

theorem wpi78 {F : Fence} {n : Nat} {K : Act → World → Prop} {Q : Exit → Act → World → Prop} {a : Act} {w : World} (dst : Option Tmp) (t : TypeId) (x : Operand) (pos : String) (after : Array Edge) (g : Option (Nat × Bool)) :
    Oper.wpIn F n Try.prog { dst := dst, op := .load 78 x, type := t, pos := pos, after := after, guard := g } a w K Q =
      Oper.uponIn F n Try.prog { dst := dst, op := .load 78 x, type := t, pos := pos, after := after, guard := g } a K Q (loadPart Try.prog 78 12 (a.eval x) w) := by
  unfold Oper.wpIn
  rw [Oper.semAt_eq _ _ _ (fun c h => by cases h), run_load_part (n := 12) Try.underlying78 rfl (by kernel_rfl)]
  simp [Oper.about]
theorem wpai78 {F : Fence} {n : Nat} {K : Act → World → Prop} {Q : Exit → Act → World → Prop} {a : Act} {w : World} (dst : Option Tmp) (t : TypeId) (pos : String) (after : Array Edge) (g : Option (Nat × Bool)) :
    Oper.wpIn F n Try.prog { dst := dst, op := .alloc 78, type := t, pos := pos, after := after, guard := g } a w K Q = K (a.put dst (.pointer (some ⟨w.heap.size, 0, none⟩))) (w.alloc (.cells zero78 78)) := by
  have h : (Oper.wp Try.prog { dst := dst, op := .alloc 78, type := t, pos := pos, after := after, guard := g } a w K Q) = K (a.put dst (.pointer (some ⟨w.heap.size, 0, none⟩))) (w.alloc (.cells zero78 78)) := wpa78 ..
  unfold Oper.wpIn
  rw [Oper.semAt_eq _ _ _ (fun c h => by cases h)]
  have hr : (execOp a.eval { dst := dst, op := .alloc 78, type := t, pos := pos, after := after, guard := g }).run Try.prog w = .ok (.value (.pointer (some ⟨w.heap.size, 0, none⟩))) (w.alloc (.cells zero78 78)) := by
    have hi : (Try.prog.info? 78).map (·.zero) = some (some (.agg zero78)) := by kernel_rfl
    cases hq : Try.prog.info? 78 with
    | none => simp [hq] at hi
    | some i =>
      have hz : i.zero = some (.agg zero78) := by simpa [hq] using hi
      simp [execOp, Instr.alloc, zeroValue, typeInfo, hq, hz, newVar, newRow, Value.cells, Result.andThen]
  rw [hr]
  simp [Oper.about, Oper.uponIn]
attribute [local go_sem ↓] wpi78 wpai78

/-- marks out of bits -/
def bitTo (b : Nat) : Nat → List Int
  | 0 => List.replicate 12 0
  | k + 1 => (bitTo b k).set k (if b.testBit k = true then 1 else 0)
theorem bitTo_length (b : Nat) : ∀ k, (bitTo b k).length = 12
  | 0 => by simp [bitTo]
  | k + 1 => by rw [bitTo, List.length_set, bitTo_length b k]
theorem bitTo_nth (b : Nat) {n : Nat} (hn : n < 12) : ∀ k, nth (bitTo b k) n = if n < k ∧ b.testBit n = true then 1 else 0
  | 0 => by
    rw [bitTo]; unfold nth
    rw [List.getD_eq_getElem?_getD, List.getElem?_replicate, if_pos hn]; simp
  | k + 1 => by
    rw [bitTo]
    have ih := bitTo_nth b hn k
    unfold nth at ih ⊢
    rw [List.getD_eq_getElem?_getD, List.getElem?_set]
    rw [List.getD_eq_getElem?_getD] at ih
    by_cases e : k = n
    · subst e
      rw [if_pos rfl, if_pos (by rw [bitTo_length]; omega)]
      cases hb : b.testBit k <;> simp
    · rw [if_neg e, ih]
      by_cases h1 : n < k
      · have : n < k + 1 := by omega
        simp [h1, this]
      · have : ¬ n < k + 1 := by omega
        simp [h1, this]
/-- is a truth, by bits, of the program -/
def trB (f : Nat) (seen : List Int) (rs : List Rl) (b : Nat) : Bool := isTruthM seen rs (bitTo b f)
/-- how many below -/
def cntTo (p : Nat → Bool) : Nat → Nat
  | 0 => 0
  | k + 1 => if p k = true then cntTo p k + 1 else cntTo p k
theorem cntTo_le (p : Nat → Bool) : ∀ k, cntTo p k ≤ k
  | 0 => Nat.le_refl _
  | k + 1 => by have := cntTo_le p k; rw [cntTo]; split <;> omega

/-- what the iterator leans on -/
structure TrAt (w : World) (g f : Nat) (sa : Option Addr) (sc : Nat) (seen : List Int) (ra : Option Addr) (rc : Nat) (rs : List Rl) : Prop where
  k0 : w.cell? ⟨g, 0, none⟩ = some (.int .i64 f)
  k1 : w.cell? ⟨g, 1, none⟩ = some (.slice sa seen.length sc)
  k2 : w.cell? ⟨g, 2, none⟩ = some (.slice ra rs.length rc)
  c : CaseAt w sa ra seen rs
theorem TrAt.mono {w w' : World} {g f : Nat} {sa : Option Addr} {sc : Nat} {seen : List Int} {ra : Option Addr} {rc : Nat} {rs : List Rl} (h : TrAt w g f sa sc seen ra rc rs) (hB : Below w.heap.size w w') : TrAt w' g f sa sc seen ra rc rs :=
  ⟨cstep h.k0 hB, cstep h.k1 hB, cstep h.k2 hB, h.c.mono hB⟩

set_option maxRecDepth 100000 in
set_option maxHeartbeats 4000000 in
theorem truths1_c (bw g f : Nat) (sa : Option Addr) (sc : Nat) (seen : List Int) (ra : Option Addr) (rc : Nat) (rs : List Rl) (w1 w0 : World) (S : Nat → Prop)
    (hS : ∀ k, S k → w1.heap.size ≤ k ∧ k < w0.heap.size) (hat : TrAt w1 g f sa sc seen ra rc rs) (hp0 : w0.cell? ⟨bw, 0, none⟩ = some (.pointer (some ⟨g, 0, none⟩))) (hpS : ¬ S bw) (hB0 : Below w1.heap.size w1 w0) (hf : f ≤ 12) (hsf : factsOk seen) (hro : rulesOk rs) :
    Gen Try.prog 92 #[.pointer (some ⟨bw, 0, none⟩)] S (fun _ v _ => v.size = 1) (2 ^ f) (2 ^ f) (fun k => k = cntTo (trB f seen rs) (2 ^ f)) w0 := by
  intro l J Jx W hW hlW hlt hJ hJx hN hY h0
  refine callsIn_of_wp Try.func92 rfl trivial ?_ rfl
  simp only [Try.ntmps92, List.size_toArray, List.length_cons, List.length_nil, Nat.reduceAdd, Nat.reduceSub, Array.replicate_succ, Array.replicate_zero, List.push_toArray, List.append_toArray, List.nil_append, List.cons_append]
  have HBW := hid (show Below w1.heap.size w1 W from hB0.trans (hW.mono hB0.size))
  have HA := hid fun (w' : World) (h : Below w1.heap.size w1 w') => hat.mono h
  have hatW := HA.out _ HBW.out
  have d0 := cstep hp0 hW; have d1 := hatW.k0
  have D0 := hid d0
  have hbl : bw ≠ l := by have := block_lt_of_cell hp0; simp at this; omega
  have HY := hid hY; have HJ := hid hJ; have HN := hid hN; have H0 := hid h0; have HS := hid hS; have Hsf := hid hsf; have Hro := hid hro
  have hpw := pow_le hf
  have hsh := shl_one hf
  have hf64 : (f : Int) < 64 := by omega
  have Hl := hid (show w1.heap.size ≤ l from Nat.le_trans hB0.size hlW)
  obtain ⟨P, hP⟩ : ∃ P : Nat, P = 2 ^ f := ⟨_, rfl⟩
  rw [← hP] at hpw hsh HY HN ⊢
  clear hp0 hat hatW hB0 hsf hro hY hJ hN h0 hS hJx hW hP hlW
  gi_wp2
  gi_loopw [12] (fun n wr => ∃ b : Nat, n = .int .i64 b ∧ b ≤ P ∧ J (cntTo (trB f seen rs) b) wr ∧ Below w1.heap.size w1 wr ∧ l < wr.heap.size ∧ wr.cell? ⟨bw, 0, none⟩ = some (.pointer (some ⟨g, 0, none⟩))) (fun n _ => P - (intOf n).toNat)
  case atStart => exact ⟨0, rfl, Nat.zero_le _, H0.out, HBW.out, hlt, D0.out⟩
  case round =>
    obtain ⟨b, rfl, hb, hJb, hB, hlr, e0⟩ := hrel
    obtain ⟨wo, rfl⟩ : ∃ wo : World, wo = wr := ⟨_, rfl⟩
    have HJb := hid hJb; have HB := hid hB
    have hatW := HA.out _ HB.out
    have e1 := hatW.k0
    have E0 := hid e0; have E1 := hid e1
    clear hJb hB d0 d1 hatW
    by_cases hbP : b < P
    · have hz := heap_alloc_new wo (.cells zero78 78)
      have b0 := cstep e0 (bnew wo (.cells zero78 78)); have b1 := cstep e1 (bnew wo (.cells zero78 78))
      have Hz := hid hz
      clear hz e0 e1
      gi_wp2
      gi_loopw [20] (fun i wi => ∃ k : Nat, i = .int .i64 k ∧ k ≤ f ∧ wi.heap[wo.heap.size]? = some (.cells (intv (bitTo b k)).toArray 78 (0, 0)) ∧ Only (fun x => x = wo.heap.size) (wo.alloc (.cells zero78 78)) wi) (fun i _ => f - (intOf i).toNat)
      case atStart => exact ⟨0, rfl, Nat.zero_le _, Hz.out, Only.refl _ _⟩
      case round =>
        obtain ⟨k, rfl, hk, hh, hO⟩ := hrel
        obtain ⟨wi, rfl⟩ : ∃ wi : World, wi = wr := ⟨_, rfl⟩
        by_cases hlt2 : k < f
        · have hk12 : k < 12 := by omega
          have hcc : wi.cell? ⟨wo.heap.size, k, none⟩ = some (.int .i64 (nth (bitTo b k) k)) := by
            rw [cell_of_row _ _ _ _ _ _ hh, List.getElem?_toArray, intv_get, if_pos (by rw [bitTo_length]; exact hk12)]
          have hfr : wi.frozen? ⟨wo.heap.size, k, none⟩ = false := frozen_of_row _ _ _ _ _ hh
          have hk64 : (k : Int) < 64 := by omega
          have hset : bitTo b (k + 1) = (bitTo b k).set k (if b.testBit k = true then 1 else 0) := rfl
          have hbit := bits_one_i64 (a := b) (by omega) k
          obtain ⟨v, hv⟩ : ∃ v : Int, v = if b.testBit k = true then 1 else 0 := ⟨_, rfl⟩
          rw [← hv] at hset hbit
          have Hh := hid hh; have HO := hid hO; have Hset := hid hset
          clear hh hO hset hv b0 b1
          gi_wp2
          go_roundw
          case rel => exact ⟨k + 1, by go_num, by omega, (heap_setCell_same wi _ _ _ 78 _ Hh.out).trans (by rw [Hset.out]; exact cellsSet (by unfold intv; rw [List.map_set])), HO.out.trans (setCell_only _ _ _)⟩
          case measure => simp [intOf]; omega
        · obtain rfl : k = f := by omega
          have hO2 : Below wo.heap.size wo wi := (bnew wo (.cells zero78 78)).trans (hO.below (by simp) (by intro j hj e; have e' : j = wo.heap.size := e; omega))
          have HO2 := hid hO2
          have HBi := hid (HB.out.trans (hO2.mono HB.out.size))
          have hat := HA.out _ HBi.out
          have f0 := cstep E0.out hO2; have f1 := hat.k0
          have F0 := hid f0
          have o1 : partOk wi wo.heap.size 0 12 = true := partOk_of hh (by simp [intv_length, bitTo_length])
          have p1 : partAt wi wo.heap.size 0 12 = (intv (bitTo b k)).toArray := by
            rw [partAt_of hh, show 0 + 12 = (intv (bitTo b k)).toArray.size from by simp [intv_length, bitTo_length]]
            exact Array.extract_size
          have HT := hid (isTruth_c g sa ra sc rc (bitTo b k) seen rs wi hat.c.s hat.c.r hat.c.sl hat.c.rl (bitTo_length b k) Hsf.out Hro.out hat.k1 hat.k2)
          unfold TellB at HT
          have htr : trB k seen rs b = isTruthM seen rs (bitTo b k) := rfl
          rw [← htr] at HT
          have hc1 : cntTo (trB k seen rs) (b + 1) = if trB k seen rs b = true then cntTo (trB k seen rs) b + 1 else cntTo (trB k seen rs) b := rfl
          have hcl := cntTo_le (trB k seen rs) b
          have Hhh := hid hh
          obtain ⟨V, hV⟩ : ∃ V, V = (intv (bitTo b k)).toArray := ⟨_, rfl⟩
          rw [← hV] at p1 HT
          obtain ⟨cb, hcb⟩ : ∃ cb, cb = cntTo (trB k seen rs) b := ⟨_, rfl⟩
          rw [← hcb] at hc1 hcl HJb
          have HV := hid hV
          clear hh hO hO2 htr hV b0 b1 hat hcb
          cases htb : trB k seen rs b with
          | true =>
            rw [htb] at HT hc1
            rw [if_pos rfl] at hc1
            have Hc1 := hid hc1
            clear hc1 htb
            gi_wp2
            refine ⟨trivial, rfl, (callsIn_wide.2 HT.out).mono ?_⟩
            rintro e w2 ⟨rfl, hB2⟩
            have hh2 := (hB2.block wo.heap.size (Array.getElem?_eq_some_iff.1 Hhh.out).1).trans Hhh.out
            have o2 : partOk w2 wo.heap.size 0 12 = true := partOk_of hh2 (by simp [intv_length, bitTo_length])
            have p2 : partAt w2 wo.heap.size 0 12 = V := by
              rw [partAt_of hh2, HV.out, show 0 + 12 = (intv (bitTo b k)).toArray.size from by simp [intv_length, bitTo_length]]
              exact Array.extract_size
            have HB3 := hid (bstep HBi.out hB2)
            have G0 := hid (cstep F0.out hB2)
            have hlw2 : l < w2.heap.size := Nat.lt_of_lt_of_le hlr (Nat.le_trans HO2.out.size hB2.size)
            obtain ⟨fn, tmps, assign, body, hy, hR⟩ := HY.out cb #[.agg V] w2 (HJ.out _ _ _ HJb.out (bstep HO2.out hB2)) rfl (by omega)
            have HR := hid hR; have Hy := hid hy
            clear hR hh2 hB2 o1 p1 f0 f1 hy
            have hy := Hy.out
            gi_wp2
            refine ⟨rfl, HR.out.mono ?_⟩
            rintro e W3 (⟨rfl, hJ3, hO3⟩ | ⟨rfl, hJ3⟩)
            · have hB3 : Below w1.heap.size w1 W3 := HB3.out.trans (hO3.below HB3.out.size (by
                rintro j hj (h | h)
                · have := (HS.out _ h).1; omega
                · have := Hl.out; omega))
              have hs3 := hO3.size
              have g3 := hO3.cell G0.out (by rintro (h | h); exact hpS h; exact hbl h)
              have G3 := hid g3
              have HJ3 := hid hJ3; have HB4 := hid hB3
              clear hJ3 hO3 hB3 o2 p2 hy g3
              gi_wp2
              go_roundw
              case rel => exact ⟨b + 1, by go_num, by omega, by rw [Hc1.out]; exact HJ3.out, HB4.out, by omega, G3.out⟩
              case measure => simp [intOf]; omega
            · have HJ3 := hid hJ3
              clear hJ3 o2 p2 hy
              gi_wp2
              refine bodyPost_ret (results_none rfl _ _ _) rfl ?_
              exact ⟨⟨_, rfl⟩, .inr ⟨_, HJ3.out⟩⟩
          | false =>
            rw [htb] at HT hc1
            rw [if_neg (by simp)] at hc1
            have Hc1 := hid hc1
            clear hc1 htb
            gi_wp2
            refine ⟨trivial, rfl, (callsIn_wide.2 HT.out).mono ?_⟩
            rintro e w2 ⟨rfl, hB2⟩
            have HB3 := hid (bstep HBi.out hB2)
            have G0 := hid (cstep F0.out hB2)
            have hlw2 : l < w2.heap.size := Nat.lt_of_lt_of_le hlr (Nat.le_trans HO2.out.size hB2.size)
            have HJ3 := hid (HJ.out _ _ _ HJb.out (bstep HO2.out hB2))
            clear hB2 o1 p1 f0 f1
            gi_wp2
            refine ⟨(fun _ h => by cases h), ?_⟩
            gi_wp2
            go_roundw
            case rel => exact ⟨b + 1, by go_num, by omega, by rw [Hc1.out]; exact HJ3.out, HB3.out, by omega, G0.out⟩
            case measure => simp [intOf]; omega
    · obtain rfl : b = P := by omega
      gi_wp2
      refine bodyPost_end (results_none rfl _ _ _) rfl ?_
      exact ⟨⟨_, rfl⟩, .inl ⟨_, rfl, HJb.out⟩⟩

theorem enters92 : ∀ args w, (callFunc 92 args).run Try.prog w = .ok (.enter 92 args) w := enters_of Try.func92 (by kernel_rfl) rfl

set_option maxRecDepth 100000 in
theorem truthsSeq_c (g : Nat) (w : World) :
    Calls Try.prog 68 #[.pointer (some ⟨g, 0, none⟩)] w fun e w' => e = .returned (.func (.func 92) #[] #[.pointer (some ⟨w.heap.size, 0, none⟩)]) ∧ w.alloc (.cells #[.pointer (some ⟨g, 0, none⟩)] 73) = w' := by
  go_enter Try.func68, Try.ntmps68
  go_wp2
  go_ret
  exact ⟨rfl, rfl⟩

def pCountN (facts : Int) (seen : List Int) (rs : List Rl) : Int := if caseErr facts seen rs = 0 then (cntTo (trB facts.toNat seen rs) (2 ^ facts.toNat) : Nat) else 0

structure CntI (w1 : World) (nb N k : Nat) (W : World) : Prop where
  le : k ≤ N
  n : W.cell? ⟨nb, 0, none⟩ = some (.int .i64 k)
  fr : W.frozen? ⟨nb, 0, none⟩ = false
  b : Below w1.heap.size w1 W
theorem CntI.only {w1 : World} {nb N k l : Nat} {W W' : World} (h : CntI w1 nb N k W) (ho : Only (fun b => b = l) W W') (hl : nb < l) (hl2 : w1.heap.size ≤ l) : CntI w1 nb N k W' :=
  ⟨h.le, ho.cell h.n (by simp; omega), (World.frozen?_of_block (ho.block _ (block_lt_of_cell h.n) (by simp; omega))).trans h.fr, h.b.trans (ho.below h.b.size (by intro j hj; omega))⟩

theorem open_none {facts : Int} {seen : List Int} {rs : List Rl} : openErr facts seen rs [] = caseErr facts seen rs := by unfold openErr; split <;> simp_all [within_nil]

set_option maxRecDepth 100000 in
set_option maxHeartbeats 4000000 in
theorem count_c (facts : Int) (sa : Option Addr) (sc : Nat) (seen : List Int) (ra : Option Addr) (rc : Nat) (rs : List Rl) (w : World) (hc : CaseAt w sa ra seen rs) :
    Calls Try.prog 25 #[.agg #[.int .i64 facts, .slice sa seen.length sc, .slice ra rs.length rc]] w (NumE w (pCountN facts seen rs) (caseErr facts seen rs)) := by
  obtain ⟨W0, hW0⟩ : ∃ W0, W0 = w.alloc (.cells #[.int .i64 facts, .slice sa seen.length sc, .slice ra rs.length rc] 25) := ⟨_, rfl⟩
  have HB0 := hid (show Below w.heap.size w W0 by rw [hW0]; exact bnew w _)
  obtain ⟨c0, c1, c2⟩ := caseBox w facts sa ra seen.length sc rs.length rc
  rw [← hW0] at c0 c1 c2
  have C0 := hid c0; have C1 := hid c1; have C2 := hid c2
  have HS := hid hW0
  have HO := hid (open_c facts sa sc seen ra rc rs none 0 [] W0 (hc.mono HB0.out) (IntsAt.nil _ _) (by simp))
  rw [open_none] at HO
  unfold NumE pCountN
  by_cases hz : caseErr facts seen rs = 0
  · rw [if_pos hz]
    obtain ⟨f, rfl, hf1, hf2⟩ := case_nat hz
    rw [hz] at HO ⊢
    rw [Int.toNat_natCast]
    obtain ⟨C, hC⟩ : ∃ C, C = cntTo (trB f seen rs) (2 ^ f) := ⟨_, rfl⟩
    rw [← hC]
    have HCn := hid hC
    clear hC
    have Hc := hid hc; have Hsf := hid (case_seen hz); have Hro := hid (case_rules hz hc.il)
    clear hc hz hW0 c0 c1 c2
    refine callsIn_wide.1 (callsIn_of_wp_marks (n := 0) Try.func25 rfl trivial ?_ rfl)
    simp only [Try.ntmps25, List.size_toArray, List.length_cons, List.length_nil, Nat.reduceAdd, Nat.reduceSub, Array.replicate_succ, Array.replicate_zero, List.push_toArray, List.append_toArray, List.nil_append, List.cons_append]
    gi_wp2
    rw [← HS.out]
    refine ⟨trivial, rfl, (callsIn_wide.2 HO.out).mono ?_⟩
    rintro e w1 ⟨p, rfl, hB, hp⟩
    obtain ⟨g, bm, oa, oc, rfl, hd⟩ := hp rfl
    have HB1 := hid (bstep HB0.out hB)
    have Hd := hid hd
    clear hB hp hd
    gi_wp2
    refine ⟨trivial, rfl, (callsIn_wide.2 (truthsSeq_c g _)).mono ?_⟩
    rintro e w2 ⟨rfl, rfl⟩
    gi_wp2
    obtain ⟨W3, hW3⟩ : ∃ W3, W3 = (w1.alloc (.cells #[.int .i64 0] 3)).alloc (.cells #[.pointer (some ⟨g, 0, none⟩)] 73) := ⟨_, rfl⟩
    have hs3 : W3.heap.size = w1.heap.size + 2 := by rw [hW3]; simp
    have hB3 : Below w1.heap.size w1 W3 := by rw [hW3]; exact bstep (bnew w1 _) (bnew _ _)
    have hp3 : W3.cell? ⟨w1.heap.size + 1, 0, none⟩ = some (.pointer (some ⟨g, 0, none⟩)) := by rw [hW3]; simp [go_sem]
    have hn3 : W3.cell? ⟨w1.heap.size, 0, none⟩ = some (.int .i64 0) := by rw [hW3]; simp [go_sem]
    have hf3 : W3.frozen? ⟨w1.heap.size, 0, none⟩ = false := by rw [hW3]; simp [go_sem]
    have htr : TrAt w1 g f sa sc seen ra rc rs := ⟨Hd.out.k0, Hd.out.k1, Hd.out.k2, Hc.out.mono HB1.out⟩
    rw [← hW3]
    have hI0 : CntI w1 w1.heap.size (2 ^ f) 0 W3 := ⟨Nat.zero_le _, hn3, hf3, hB3⟩
    have Hs3 := hid hs3; have HpW := hid (pow_le hf2)
    clear hW3 hn3 hf3
    have hTR := truths1_c (w1.heap.size + 1) g f sa sc seen ra rc rs w1 W3 (fun b => b = w1.heap.size) (fun k hk => by have hk' : k = w1.heap.size := hk; omega) htr hp3 (by show ¬ w1.heap.size + 1 = w1.heap.size; omega) hB3 hf2 Hsf.out Hro.out
    rw [← HCn.out] at hTR
    refine range_law (S := fun b => b = w1.heap.size) (L := 2 ^ f) (N := 2 ^ f) (X := fun _ v _ => v.size = 1) (Done := fun k => k = C) rfl enters92
      hTR ?hS ?hps ?hX (CntI w1 w1.heap.size (2 ^ f)) (fun _ _ _ => False) ?hI ?hIx (fun k W h => h.le) hI0
      (fun v => { tmps := #[.agg #[.int .i64 f, .slice sa seen.length sc, .slice ra rs.length rc], .pointer (some ⟨w.heap.size, 0, none⟩), .int .i64 0, .int .i64 0, .pointer (some ⟨g, 0, none⟩), .int .i64 0, .pointer (some ⟨w1.heap.size, 0, none⟩),
        .tuple #[.pointer (some ⟨g, 0, none⟩), .int .i64 0], .agg #[.int .i64 f, .slice sa seen.length sc, .slice ra rs.length rc], .tuple #[.pointer (some ⟨g, 0, none⟩), .int .i64 0], .pointer (some ⟨g, 0, none⟩), .int .i64 0, .int .i64 0, .bool false, undef, .pointer (some ⟨g, 0, none⟩),
        .func (.func 92) #[] #[.pointer (some ⟨w1.heap.size + 1, 0, none⟩)], v.getD 0 undef, undef, undef, undef], defers := [] }) ?assign ?body ?done ?stop
    case hS => rw [hs3]; constructor <;> omega
    case hps => intro k v W hv; exact hv
    case hX => intro k v W W' hv _; exact hv
    case hI => intro k W W' h ho; exact h.only ho (by rw [hs3]; omega) (by rw [hs3]; omega)
    case hIx => intro c k W W' h; exact h.elim
    case assign =>
      intro l k v W K hx hK
      obtain ⟨x, rfl⟩ : ∃ x, v = #[x] := by
        obtain ⟨vl⟩ := v
        match vl, hx with
        | [x], _ => exact ⟨x, rfl⟩
      gi_wp2
      simpa using hK
    case body =>
      intro k v W hW hI hX hkl
      have hn := hI.n; have hfr := hI.fr
      have hk2 : k ≤ 5000 := by have := HpW.out; omega
      have HI := hid hI
      clear hI hX
      gi_wp2
      have hO := setCell_only (w := W) w1.heap.size 0 (.int .i64 ((k : Int) + 1))
      refine ⟨hO, ⟨by omega, ?_, ?_, HI.out.b.trans (hO.below HI.out.b.size (by intro j hj e; have e' : j = w1.heap.size := e; omega))⟩⟩
      · simp [go_sem, hn]
      · simp [go_sem, hfr]
    case done =>
      rintro k W hk hI hD hlt
      have hk' : k = C := hk
      subst hk'
      have hn := hI.n
      have HI := hid hI
      clear hI
      gi_wp2
      rw [Hs3.out] at hD
      refine ⟨by simp, .inl ⟨_, _, rfl, run_takeDeferred hD, ?_⟩⟩
      have h2 := HI.out.only (Only.put1 W (w1.heap.size + 2) (.deferred none)) (by omega) (by omega)
      exact ⟨_, results_tmp2 rfl _ _ _, rfl, bstep HB1.out h2.b⟩
    case stop => intro c k W h; exact h.elim
  · rw [if_neg hz]
    have hcb := errB hz
    clear hc hz hW0 c0 c1 c2
    generalize caseErr facts seen rs = c at *
    refine callsIn_wide.1 (callsIn_of_wp_marks (n := 0) Try.func25 rfl trivial ?_ rfl)
    simp only [Try.ntmps25, List.size_toArray, List.length_cons, List.length_nil, Nat.reduceAdd, Nat.reduceSub, Array.replicate_succ, Array.replicate_zero, List.push_toArray, List.append_toArray, List.nil_append, List.cons_append]
    gi_wp2
    rw [← HS.out]
    refine ⟨trivial, rfl, (callsIn_wide.2 HO.out).mono ?_⟩
    rintro e w1 ⟨p, rfl, hB, hp⟩
    have HB1 := hid (bstep HB0.out hB)
    clear hB hp
    gi_wp2
    exact ⟨_, results_tmp2 rfl _ _ _, rfl, HB1.out⟩

end Go.Proofs.Ytkioejdddmnbmaa
