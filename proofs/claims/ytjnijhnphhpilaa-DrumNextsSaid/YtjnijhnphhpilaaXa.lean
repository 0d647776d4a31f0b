/- Lists of equations in memory; append. Walk of the reference: equations. Walk of the reference: solved. -/
import Derived.Test.YtjnijhnphhpilaaZp
import Derived.Test.YtjnijhnphhpilaaApf
import Derived.Test.YtjnijhnphhpilaaLc
import Derived.Laws.Bits64b
import Derived.Test.YtjnijhnphhpilaaLd
namespace Go.Proofs.Ytjnijhnphhpilaa
open Go.RowKit

theorem info94 : (Try.prog.info? 94).map (fun i => (i.zero, i.size, i.bytes)) = some (some (.agg #[.int .u64 0, .int .u64 0]), 2, 16) := by kernel_rfl
theorem un82 : Try.prog.underlying 82 = some (.slice 94) := by kernel_rfl

def EV (E : List Nat) (vs : List Value) : Prop := ∀ i, i < E.length → vs[2 * i]? = some (.int .u64 (en E i)) ∧ ∃ p : Int, vs[2 * i + 1]? = some (.int .u64 p)

/-- a list of equations at an address -/
def QAt (w : World) (ao : Option Addr) (E : List Nat) : Prop := E = [] ∨ ∃ b cs, ao = some ⟨b, 0, none⟩ ∧ w.heap[b]? = some (.cells cs 94 (0, 0)) ∧ EV E cs.toList

def OwnQ (B : Nat) (w : World) (ao : Option Addr) (n cap : Nat) (E : List Nat) : Prop := E.length = n ∧ ∃ vs, w.ownsRow B 94 2 (.slice ao n cap) n vs ∧ EV E vs

theorem OwnQ.nil (B : Nat) (w : World) : OwnQ B w none 0 0 [] := ⟨rfl, [], World.ownsRow_nil w B 94 2, fun i hi => absurd hi (by simp)⟩

theorem OwnQ.at {B : Nat} {w : World} {ao : Option Addr} {n cap : Nat} {E : List Nat} (h : OwnQ B w ao n cap E) : QAt w ao E := by
  obtain ⟨rfl, vs, ⟨hl, (⟨e, h0⟩ | ⟨g, c, cur, e, hge, hh, hle, hm, hs, ht⟩)⟩, hv⟩ := h
  · exact .inl (List.eq_nil_of_length_eq_zero h0)
  · cases e
    refine .inr ⟨g, cur, rfl, hh, fun i hi => ?_⟩
    have h1 := hv i hi
    rw [← ht, List.getElem?_take, List.getElem?_take, if_pos (by omega), if_pos (by omega)] at h1
    exact h1

theorem OwnQ.ge {B : Nat} {w : World} {b off : Nat} {n cap : Nat} {E : List Nat} (h : OwnQ B w (some ⟨b, off, none⟩) n cap E) : B ≤ b := by
  obtain ⟨rfl, vs, ⟨hl, (⟨e, h0⟩ | ⟨g, c, cur, e, hge, hh, hle, hm, hs, ht⟩)⟩, hv⟩ := h
  · cases e
  · cases e; exact hge

theorem OwnQ.kept {B : Nat} {w w' : World} {ao : Option Addr} {n cap : Nat} {E : List Nat} (h : OwnQ B w ao n cap E) (hB : Below w.heap.size w w') : OwnQ B w' ao n cap E := by
  obtain ⟨hl, vs, ho, hv⟩ := h
  refine ⟨hl, vs, ho.kept (row := Option.none) ⟨hB.os, hB.tape, hB.output, hB.size, fun k hk _ => hB.block k hk⟩ ?_, hv⟩
  cases ao
  · exact .inl rfl
  · exact .inr (by simp [Value.ownBlock])

theorem OwnQ.lt {B : Nat} {w : World} {b off : Nat} {n cap : Nat} {E : List Nat} (h : OwnQ B w (some ⟨b, off, none⟩) n cap E) : b < w.heap.size := by
  obtain ⟨rfl, vs, ⟨hl, (⟨e, h0⟩ | ⟨g, c, cur, e, hge, hh, hle, hm, hs, ht⟩)⟩, hv⟩ := h
  · cases e
  · cases e; exact (Array.getElem?_eq_some_iff.1 hh).1

theorem OwnQ.only {S : Nat → Prop} {B : Nat} {w w' : World} {ao : Option Addr} {n cap : Nat} {E : List Nat} (h : OwnQ B w ao n cap E) (hO : Only S w w') (hS : ∀ b off, ao = some ⟨b, off, Option.none⟩ → ¬ S b) : OwnQ B w' ao n cap E := by
  obtain ⟨hl, vs, ⟨hl2, hr⟩, hv⟩ := h
  refine ⟨hl, vs, ⟨hl2, ?_⟩, hv⟩
  rcases hr with h | ⟨g, c, cur, e, hge, hh, hr⟩
  · exact .inl h
  · cases e
    exact .inr ⟨_, _, cur, rfl, hge, (hO.block _ (Array.getElem?_eq_some_iff.1 hh).1 (hS _ 0 rfl)).trans hh, hr⟩

/-- the run of an append of one equation onto a list of the call's own -/
theorem run_app_q (ty : TypeId) (w : World) (B : Nat) (ao : Option Addr) (n cap : Nat) (E : List Nat) (hown : OwnQ B w ao n cap E)
    (b off : Nat) (u : Nat) (p : Int) (hu : w.cell? ⟨b, off, none⟩ = some (.int .u64 u)) (hp : w.cell? ⟨b, off + 1, none⟩ = some (.int .u64 p)) (hb : n ≤ 1000000) (hB : B ≤ w.heap.size) :
    ∃ ao' cap' w', (Builtin.append_ #[82, 82] ty #[.slice ao n cap, .slice (some ⟨b, off, none⟩) 1 1]).run Try.prog w = .ok (.slice ao' (n + 1) cap') w' ∧
      Below B w w' ∧ OwnQ B w' ao' (n + 1) cap' (E ++ [u]) := by
  obtain ⟨i, hi, hz, hs, hby⟩ := info_parts info94
  obtain ⟨hl, vs, ho, hv⟩ := hown
  obtain ⟨v', w', hrun, r1, r2, _⟩ := run_append_own (P := Try.prog) w B 82 ty 94 i (.agg #[.int .u64 0, .int .u64 0]) 2 16 un82 hi hz hs hby rfl (by decide) (.slice ao n cap) n vs ho ⟨b, off, none⟩ 1 1 [.int .u64 u, .int .u64 p] rfl
    (by
      intro j v hj
      match j, hj with
      | 0, hj => simp at hj; subst hj; simpa [Addr.add] using hu
      | 1, hj => simp at hj; subst hj; simpa [Addr.add] using hp
      | j + 2, hj => simp at hj)
    (by intro v hv; simp at hv; rcases hv with rfl | rfl <;> rfl) (by unfold maxLen; omega) (by omega) hB
  have hlo : vs.length = n * 2 := ho.1
  have hB' : Below B w w' := (Below.refl B w).grown r2 hB (fun k e => (ho.lt k e).1)
  have hv' : EV (E ++ [u]) (vs ++ [.int .u64 u, .int .u64 p]) := by
    intro i hi
    simp at hi
    by_cases e : i < E.length
    · rw [List.getElem?_append_left (by omega), List.getElem?_append_left (by omega)]
      have h1 := hv i e
      refine ⟨?_, h1.2⟩
      rw [h1.1]
      unfold en
      rw [List.getD_eq_getElem?_getD, List.getD_eq_getElem?_getD, List.getElem?_append_left e]
    · have : i = E.length := by omega
      subst this
      rw [List.getElem?_append_right (by omega), List.getElem?_append_right (by omega), show 2 * E.length - vs.length = 0 from by omega, show 2 * E.length + 1 - vs.length = 1 from by omega]
      refine ⟨?_, p, rfl⟩
      unfold en
      rw [List.getD_eq_getElem?_getD, List.getElem?_append_right (by omega)]
      simp
  obtain ⟨hl2, hr⟩ := r1
  rcases hr with ⟨rfl, h0⟩ | ⟨g, c, cur, rfl, hge, hh, hr⟩
  · omega
  · exact ⟨_, c, w', hrun, hB', by simp [hl], _, ⟨hl2, .inr ⟨g, c, cur, rfl, hge, hh, hr⟩⟩, hv'⟩

theorem wpList_app_q {ops : Array Oper} {rest : List Oper} {o : Oper} {a : Act} {Q : Exit → Act → World → Prop} (w : World) (hg : o.guard = none) (s x : Operand)
    (hop : o.op = Op.call { callee := Callee.builtin Builtin.append, args := #[s, x], argTypes := #[82, 82] })
    (B : Nat) (ao : Option Addr) (n cap : Nat) (E : List Nat) (hs : a.eval s = .slice ao n cap) (hown : OwnQ B w ao n cap E)
    (b off : Nat) (u : Nat) (p : Int) (hx : a.eval x = .slice (some ⟨b, off, none⟩) 1 1) (hu : w.cell? ⟨b, off, none⟩ = some (.int .u64 u)) (hp : w.cell? ⟨b, off + 1, none⟩ = some (.int .u64 p)) (hb : n ≤ 1000000) (hB : B ≤ w.heap.size)
    (hK : ∀ ao' cap' w', Below B w w' → OwnQ B w' ao' (n + 1) cap' (E ++ [u]) → wpList Try.prog ops Q rest (a.put o.dst (.slice ao' (n + 1) cap')) w') :
    wpList Try.prog ops Q (o :: rest) a w := by
  refine wpList_plain hg fun K hK' => ?_
  obtain ⟨ao', cap', w', hrun, h1, h2⟩ := run_app_q o.type w B ao n cap E hown b off u p hu hp hb hB
  unfold Oper.wp
  simp [execOp, hop, resolve, invoke, builtin, hs, hx, hrun, Result.andThen]
  exact hK' _ _ (hK ao' cap' w' h1 h2)

end Go.Proofs.Ytjnijhnphhpilaa

namespace Go.Proofs.Ytjnijhnphhpilaa
open Go.RowKit Go.Shelf

theorem wrap_pb {y : Int} (hy : y = 0 ∨ y = 1) {j : Nat} (hj : j < 64) : IntKind.u64.wrap (y * 2 ^ j) = ((pb (decide (y = 1)) j : Nat) : Int) := by
  rw [IntKind.wrap_u64]
  rcases hy with rfl | rfl
  · simp [pb]
  · have h : (2 : Nat) ^ j < 2 ^ 64 := Nat.pow_lt_pow_right (by omega) hj
    have e : (1 : Int) * 2 ^ j = ((2 ^ j : Nat) : Int) := by simp
    rw [e]
    simp only [pb, decide_true, if_true]
    obtain ⟨v, hv⟩ : ∃ v, v = 2 ^ j := ⟨_, rfl⟩
    rw [← hv] at h ⊢
    omega

theorem or_pb {q : Nat} (hq : q < 2 ^ 41) {y : Int} (hy : y = 0 ∨ y = 1) {j : Nat} (hj : j < 40) : bits .or .u64 (q : Int) (IntKind.u64.wrap (y * 2 ^ j)) = ((q ||| pb (decide (y = 1)) j : Nat) : Int) := by
  rw [wrap_pb hy (by omega)]
  have h := pb_lt (decide (y = 1)) (m := j) (k := 40) hj
  exact bits_or_u64_nat _ _ (by omega) (by omega)

/-- a list of equations that a call hands back -/
def QP (w : World) (E : List Nat) (e : Ending) (w' : World) : Prop := ∃ ao cap, e = .returned (.slice ao E.length cap) ∧ OwnQ w.heap.size w' ao E.length cap E ∧ Below w.heap.size w w'

set_option maxRecDepth 100000 in
set_option maxHeartbeats 4000000 in
theorem equations_c (a : Option Addr) (cap P : Nat) (xs : List Int) (w : World) (hx : IntsAt w a xs) (hl : xs.length ≤ 40) (hP : P ≤ xs.length) (hb : isBits xs = true) :
    Calls Try.prog 80 #[.slice a xs.length cap, .int .i64 P] w (QP w (eqs xs P)) := by
  have Hx := hid hx; have Hb := hid hb
  clear hx hb
  go_enter Try.func80, Try.ntmps80
  go_wp2
  go_loopw [5, 6] (fun o t wr => ∃ (i : Nat) (ao : Option Addr) (cp : Nat), P + i ≤ xs.length ∧ t = .int .i64 ((P + i : Nat) : Int) ∧ o = .slice ao i cp ∧ OwnQ w.heap.size wr ao i cp ((eqs xs P).take i) ∧ Below w.heap.size w wr) (fun _ t _ => xs.length - (intOf t).toNat)
  case atStart => exact ⟨0, none, 0, by omega, rfl, rfl, OwnQ.nil _ _, Below.refl _ _⟩
  case round =>
    obtain ⟨i, ao, cp, hi, rfl, rfl, hown, hB⟩ := hrel
    obtain ⟨wo, rfl⟩ : ∃ wo : World, wo = wr := ⟨_, rfl⟩
    have Hown := hid hown; have HB := hid hB
    clear hown hB
    obtain ⟨t, ht⟩ : ∃ t, t = P + i := ⟨_, rfl⟩
    have Ht := hid ht
    rw [← ht]
    rw [← ht] at hi
    have hPt : P ≤ t := by omega
    clear ht
    by_cases hlt : t < xs.length
    · obtain ⟨b1, off1, rfl, hc⟩ := (Hx.out.mono HB.out).at hlt
      have hbit := isBits_nth Hb.out t
      obtain ⟨x, hxx⟩ : ∃ x, x = nth xs t := ⟨_, rfl⟩
      rw [← hxx] at hc hbit
      have Hxx := hid hxx
      clear hxx
      have hx0 : 0 ≤ x := by omega
      have hx1 : x ≤ 1 := by omega
      have hc' := cstep hc (bnew wo (.cells #[.int .u64 0, .int .u64 0] 94))
      have hq0 : x * 1099511627776 = ((qb xs t 0 : Nat) : Int) := by
        rw [qb, pb, bt, ← Hxx.out]
        rcases hbit with rfl | rfl <;> decide
      have Hq0 := hid hq0
      clear hq0
      go_wp2
      go_region
      rw [Hq0.out]
      go_wp2
      obtain ⟨p, hp⟩ : ∃ p, p = IntKind.u64.wrap (2 ^ t) := ⟨_, rfl⟩
      rw [← hp]
      have HB1 := hid (HB.out.trans (((bnew wo (.cells #[.int .u64 (qb xs t 0), .int .u64 p] 94)).drew).mono HB.out.size))
      have Hh1 := hid (heap_alloc_new wo (.cells #[.int .u64 (qb xs t 0), .int .u64 p] 94))
      have Hown1 := hid (Hown.out.kept ((bnew wo (.cells #[.int .u64 (qb xs t 0), .int .u64 p] 94)).drew))
      have hc1 := cstep hc ((bnew wo (.cells #[.int .u64 (qb xs t 0), .int .u64 p] 94)).drew)
      have hh1 : (wo.alloc (.cells #[.int .u64 (qb xs t 0), .int .u64 p] 94)).drew.heap[wo.heap.size]? = some (.cells #[.int .u64 (qb xs t 0), .int .u64 p] 94 (0, 0)) := Hh1.out
      have Hh2 := hid hh1
      obtain ⟨be, hbe⟩ : ∃ b, b = wo.heap.size := ⟨_, rfl⟩
      have hbw : w.heap.size ≤ be := by rw [hbe]; exact HB.out.size
      rw [← hbe] at Hh2 ⊢
      have Hbe := hid hbe
      generalize (wo.alloc (.cells #[.int .u64 (qb xs t 0), .int .u64 p] 94)).drew = wn1 at HB1 Hown1 Hh2 hc1 ⊢
      clear hp hc hc' Hh1 hh1 hbe hbit hx0 hx1 Hq0 Hxx
      go_loopw [8] (fun k wr => ∃ j : Nat, j ≤ P ∧ k = .int .i64 j ∧ wr.heap[be]? = some (.cells #[.int .u64 (qb xs t j), .int .u64 p] 94 (0, 0)) ∧ Only (fun b => b = be) wn1 wr) (fun k _ => P - (intOf k).toNat)
      case atStart => exact ⟨0, Nat.zero_le _, rfl, Hh2.out, Only.refl _ _⟩
      case round =>
        obtain ⟨j, hj, rfl, hh, hO⟩ := hrel
        obtain ⟨wq, rfl⟩ : ∃ wq : World, wq = wr := ⟨_, rfl⟩
        by_cases hjP : j < P
        · obtain ⟨r, hr⟩ : ∃ r, r = t - j - 1 := ⟨_, rfl⟩
          have hrI : (t : Int) - (j : Int) - 1 = (r : Int) := by omega
          have hrl : r < xs.length := by omega
          have hb1 : b1 < w.heap.size := Hx.out.lt (by omega)
          have hcr : wq.cell? ⟨b1, off1 + r, none⟩ = some (.int .i64 (nth xs r)) := hO.cell ((Hx.out.mono HB1.out).cell hrl) (by show ¬ b1 = be; omega)
          have hq : wq.cell? ⟨be, 0, none⟩ = some (.int .u64 (qb xs t j)) := by rw [cell_of_row _ _ _ _ _ _ hh]; rfl
          have hfr : wq.frozen? ⟨be, 0, none⟩ = false := frozen_of_row _ _ _ _ _ hh
          have hbit := isBits_nth Hb.out r
          have hqs : qb xs t (j + 1) = qb xs t j ||| pb (bt xs r) j := by rw [qb, hr]
          have hbt : bt xs r = decide (nth xs r = 1) := rfl
          obtain ⟨y, hy⟩ : ∃ y, y = nth xs r := ⟨_, rfl⟩
          rw [← hy] at hcr hbit hbt
          rw [hbt] at hqs
          have hql := qb_lt xs t j (by omega)
          have hy0 : 0 ≤ y := by omega
          have hy1 : y ≤ 1 := by omega
          have hj64 : (j : Int) % 64 = (j : Int) := by omega
          have Hqs := hid hqs; have Hh := hid hh; have HO := hid hO; have Hbit := hid hbit; have Hr := hid hr; have Hql := hid hql
          clear hqs hh hO hy hbt hbit hr hql
          go_wp2
          go_region
          go_wp2
          go_roundw
          case rel =>
            refine ⟨j + 1, by omega, by go_num, ?_, (HO.out.set1 _ _).drew⟩
            refine (heap_setCell_same wq be 0 _ 94 _ Hh.out).trans ?_
            rw [or_pb Hql.out Hbit.out (by omega), ← Hqs.out]
            rfl
          case measure => simp [intOf]; omega
        · obtain rfl : j = P := by omega
          have Hh := hid hh; have HO := hid hO
          clear hh hO
          have q0 := cell_of_row wq be 0 _ _ _ Hh.out
          have q1 := cell_of_row wq be 1 _ _ _ Hh.out
          simp at q0 q1
          have hbo : be = wo.heap.size := Hbe.out
          have hown := Hown1.out.only HO.out (fun b off e hb => by
            subst e
            have h1 := Hown.out.lt
            have hb' : b = be := hb
            omega)
          have hBq : Below w.heap.size w wq := HB1.out.trans (HO.out.below HB1.out.size (by intro k hk e; have e' : k = be := e; omega))
          have Hown2 := hid hown; have HBq := hid hBq
          have hi40 : i ≤ 40 := by have := Ht.out; omega
          have hqe : (eqs xs j).take (i + 1) = (eqs xs j).take i ++ [qb xs t j] := by
            have hlen := eqs_length xs j
            have hti := Ht.out
            rw [List.take_succ_eq_append_getElem (by omega)]
            congr 1
            have := eqs_en xs j (i := i) (by omega)
            unfold en at this
            rw [List.getD_eq_getElem?_getD, List.getElem?_eq_getElem (by omega)] at this
            simp only [Option.getD_some] at this
            rw [this, ← hti]
          have Hqe := hid hqe
          clear hown hBq hqe hbo
          go_wp2_with (at_builtin; refine wpList_app_q _ rfl _ _ rfl w.heap.size ao i cp ((eqs xs j).take i) rfl ?c1 _ _ (qb xs t j) p rfl ?c2 ?c3 ?c4 ?c5 ?c6; rotate_right; (intro ao' cap' w' hB' hown'; refine Hid.out ?_))
          case c1 => exact Hown2.out.kept (bnew _ _)
          case c2 => simp
          case c3 => simp
          case c4 => omega
          case c5 => have := HBq.out.size; simp; omega
          case c6 =>
            refine hid ?_
            have Hown3 := hid hown'
            have HB3 := hid (HBq.out.trans (Below.trans ((bnew wq (.cells #[.int .u64 (qb xs t j), .int .u64 p] 94)).mono HBq.out.size) hB'))
            clear hown' hB'
            go_wp2
            go_roundw
            case rel => exact ⟨i + 1, ao', cap', by have := Ht.out; omega, by have := Ht.out; go_num, rfl, by rw [Hqe.out]; exact Hown3.out, HB3.out⟩
            case measure => simp [intOf]; omega
    · obtain rfl : t = xs.length := by omega
      go_wp2
      go_ret
      have hil : i = xs.length - P := by have := Ht.out; omega
      have hlen := eqs_length xs P
      have ho := Hown.out
      rw [List.take_of_length_le (by omega)] at ho
      refine ⟨ao, cp, by rw [hlen, ← hil]; rfl, by rw [hlen, ← hil]; exact ho, HB.out⟩

end Go.Proofs.Ytjnijhnphhpilaa

namespace Go.Proofs.Ytjnijhnphhpilaa
open Go.RowKit Go.Shelf

/-- the solver's list behind k columns, n of them with a pivot -/
structure SolI (xs : List Int) (P : Nat) (w : World) (ao : Option Addr) (k n : Nat) (F : List Nat) (pv : Nat → Nat) (wr : World) : Prop where
  eqv : Eqv P (eqs xs P) F
  ech : Ech F k n pv
  top : ∀ i, i < F.length → ∀ c, P ≤ c → c ≠ 40 → eb F i c = false
  mem : QAt wr ao F
  own : ∀ b off, ao = some ⟨b, off, none⟩ → w.heap.size ≤ b
  below : Below w.heap.size w wr

def SolP (xs : List Int) (P : Nat) (w : World) (e : Ending) (w' : World) : Prop :=
  ∃ (ao : Option Addr) (cap : Nat) (F : List Nat) (n : Nat) (pv : Nat → Nat), e = .returned (.tuple #[.slice ao (xs.length - P) cap, .int .i64 n, .bool (goodB F n)]) ∧ Solved xs P F n pv ∧ QAt w' ao F ∧ Below w.heap.size w w'

theorem QAt.at {w : World} {ao : Option Addr} {F : List Nat} (h : QAt w ao F) {i : Nat} (hi : i < F.length) : ∃ b cs, ao = some ⟨b, 0, none⟩ ∧ w.heap[b]? = some (.cells cs 94 (0, 0)) ∧ EV F cs.toList := by
  rcases h with rfl | ⟨b, cs, h⟩
  · exact absurd hi (by simp)
  · exact ⟨b, cs, h⟩

theorem EV.cell {w : World} {b : Nat} {cs : Array Value} {F : List Nat} (hh : w.heap[b]? = some (.cells cs 94 (0, 0))) (h : EV F cs.toList) {i : Nat} (hi : i < F.length) :
    w.cell? ⟨b, i * 2, none⟩ = some (.int .u64 (en F i)) ∧ (∃ p : Int, w.cell? ⟨b, i * 2 + 1, none⟩ = some (.int .u64 p)) ∧ w.frozen? ⟨b, i * 2, none⟩ = false ∧ w.frozen? ⟨b, i * 2 + 1, none⟩ = false := by
  have h1 := h i hi
  simp only [Array.getElem?_toList] at h1
  refine ⟨?_, ?_, frozen_of_row _ _ _ _ _ hh, frozen_of_row _ _ _ _ _ hh⟩
  · rw [cell_of_row _ _ _ _ _ _ hh, Nat.mul_comm]; exact h1.1
  · obtain ⟨p, hp⟩ := h1.2
    exact ⟨p, by rw [cell_of_row _ _ _ _ _ _ hh, Nat.mul_comm]; exact hp⟩

theorem en_lt {F : List Nat} {P : Nat} (hP : P ≤ 40) (top : ∀ i, i < F.length → ∀ c, P ≤ c → c ≠ 40 → eb F i c = false) {i : Nat} (hi : i < F.length) : en F i < 2 ^ 41 :=
  Nat.lt_pow_two_of_testBit _ (fun c hc => top i hi c (by omega) (by omega))

theorem bit_eb {F : List Nat} {i : Nat} (h : en F i < 2 ^ 41) (k : Nat) : bits .and .u64 ((en F i : Int) / 2 ^ k) 1 = if eb F i k then 1 else 0 := by
  rw [bit_of (by unfold lt64; omega) k]
  unfold eb
  rw [Nat.testBit_eq_decide_div_mod_eq]
  have h2 : en F i / 2 ^ k % 2 < 2 := by omega
  by_cases e : en F i / 2 ^ k % 2 = 1
  · rw [e]; rfl
  · have e0 : en F i / 2 ^ k % 2 = 0 := by omega
    rw [e0]; rfl

/-- an equation is written -/
theorem EV.put {w : World} {b : Nat} {cs : Array Value} {F : List Nat} (hh : w.heap[b]? = some (.cells cs 94 (0, 0))) (h : EV F cs.toList) {i : Nat} (hi : i < F.length) (v : Nat) (p : Int) :
    ∃ cs' : Array Value, ((w.setCell ⟨b, i * 2, none⟩ (.int .u64 v)).setCell ⟨b, i * 2 + 1, none⟩ (.int .u64 p)).heap[b]? = some (.cells cs' 94 (0, 0)) ∧ EV (F.set i v) cs'.toList := by
  refine ⟨_, heap_setCell_same _ b (i * 2 + 1) _ 94 _ (heap_setCell_same w b (i * 2) cs 94 _ hh), fun j hj => ?_⟩
  rw [List.length_set] at hj
  have h1 := h j hj
  have hi1 := h i hi
  simp only [Array.getElem?_toList] at h1 hi1 ⊢
  have hs1 : 2 * i + 1 < cs.size := by
    obtain ⟨p, hp⟩ := hi1.2
    exact (Array.getElem?_eq_some_iff.1 hp).1
  by_cases e : i = j
  · subst e
    rw [en_set, if_pos ⟨rfl, hi⟩]
    refine ⟨?_, p, ?_⟩
    · rw [Array.getElem?_setIfInBounds_ne (by omega), show 2 * i = i * 2 from by omega, Array.getElem?_setIfInBounds_self_of_lt (by omega)]
    · rw [show 2 * i + 1 = i * 2 + 1 from by omega, Array.getElem?_setIfInBounds_self_of_lt (by rw [Array.size_setIfInBounds]; omega)]
  · rw [en_set, if_neg (fun k => e k.1)]
    rw [Array.getElem?_setIfInBounds_ne (by omega), Array.getElem?_setIfInBounds_ne (by omega), Array.getElem?_setIfInBounds_ne (by omega), Array.getElem?_setIfInBounds_ne (by omega)]
    exact h1

/-- behind so many rounds of the third loop -/
structure ElI (xs : List Int) (P : Nat) (w : World) (b k n j : Nat) (F1 G : List Nat) (wr : World) : Prop where
  eqv : Eqv P (eqs xs P) G
  len : G.length = F1.length
  top : ∀ i, i < G.length → ∀ c, P ≤ c → c ≠ 40 → eb G i c = false
  pt : ∀ i, i < F1.length → ∀ c, eb G i c = if i < j ∧ i ≠ n ∧ eb F1 i k = true then (eb F1 i c ^^ eb F1 n c) else eb F1 i c
  mem : ∃ cs, wr.heap[b]? = some (.cells cs 94 (0, 0)) ∧ EV G cs.toList
  below : Below w.heap.size w wr

theorem ElI.skip {xs : List Int} {P : Nat} {w wr : World} {b k n j : Nat} {F1 G : List Nat} (h : ElI xs P w b k n j F1 G wr) (hs : j = n ∨ eb F1 j k = false) : ElI xs P w b k n (j + 1) F1 G wr :=
  ⟨h.eqv, h.len, h.top, fun i hi c => by
    rw [h.pt i hi c]
    by_cases e : i = j
    · subst e
      rw [if_neg (by omega), if_neg (fun h => hs.elim (fun h3 => h.2.1 h3) (fun h3 => by rw [h3] at h; cases h.2.2))]
    · by_cases h1 : i < j
      · have e1 : (i < j ∧ i ≠ n ∧ eb F1 i k = true) ↔ (i < j + 1 ∧ i ≠ n ∧ eb F1 i k = true) := ⟨fun h => ⟨by omega, h.2⟩, fun h => ⟨h1, h.2⟩⟩
        simp only [e1]
      · rw [if_neg (fun h => h1 h.1), if_neg (fun h => absurd h.1 (by omega))], h.mem, h.below⟩

theorem ElI.here {xs : List Int} {P : Nat} {w wr : World} {b k n j : Nat} {F1 G : List Nat} (h : ElI xs P w b k n j F1 G wr) {i : Nat} (hi : i < F1.length) (hj : j ≤ i ∨ i = n) (c : Nat) : eb G i c = eb F1 i c := by
  rw [h.pt i hi c, if_neg (fun h => hj.elim (fun h3 => by omega) (fun h3 => h.2.1 h3))]

theorem ElI.add {xs : List Int} {P : Nat} {w wr wn : World} {b k n j : Nat} {F1 G : List Nat} (h : ElI xs P w b k n j F1 G wr) (hj : j < F1.length) (hn : n < F1.length) (hne : j ≠ n) (hb : eb F1 j k = true)
    (hm : ∃ cs, wn.heap[b]? = some (.cells cs 94 (0, 0)) ∧ EV (G.set j (en G j ^^^ en G n)) cs.toList) (hB : Below w.heap.size w wn) : ElI xs P w b k n (j + 1) F1 (G.set j (en G j ^^^ en G n)) wn := by
  have hjG : j < G.length := by rw [h.len]; exact hj
  have hnG : n < G.length := by rw [h.len]; exact hn
  refine ⟨h.eqv.trans (Eqv.add hjG hnG hne), by rw [List.length_set, h.len], fun i hi c h1 h2 => ?_, fun i hi c => ?_, hm, hB⟩
  · rw [List.length_set] at hi
    rw [eb_xor G hjG]
    split
    · rw [h.top j hjG c h1 h2, h.top n hnG c h1 h2]; rfl
    · exact h.top i hi c h1 h2
  · rw [eb_xor G hjG]
    by_cases e : i = j
    · subst e
      rw [if_pos rfl, if_pos ⟨by omega, hne, hb⟩, h.here hj (.inl (Nat.le_refl _)), h.here hn (.inr rfl)]
    · rw [if_neg e, h.pt i hi c]
      by_cases h1 : i < j
      · have e1 : (i < j ∧ i ≠ n ∧ eb F1 i k = true) ↔ (i < j + 1 ∧ i ≠ n ∧ eb F1 i k = true) := ⟨fun h => ⟨by omega, h.2⟩, fun h => ⟨h1, h.2⟩⟩
        simp only [e1]
      · rw [if_neg (fun h => h1 h.1), if_neg (fun h => absurd h.1 (by omega))]

set_option maxRecDepth 100000 in
set_option maxHeartbeats 10000000 in
theorem solved_c (a : Option Addr) (cap P : Nat) (xs : List Int) (w : World) (hx : IntsAt w a xs) (hl : xs.length ≤ 40) (hP : P ≤ xs.length) (hb : isBits xs = true) :
    Calls Try.prog 71 #[.slice a xs.length cap, .int .i64 P] w (SolP xs P w) := by
  have HE := hid (equations_c a cap P xs w hx hl hP hb)
  have hP40 : P ≤ 40 := by omega
  clear hx hb
  go_enter Try.func71, Try.ntmps71
  go_wp2_with fail
  refine HE.out.mono ?_
  rintro e w1 ⟨ao, cp, rfl, hown, hB⟩
  obtain ⟨m, hm⟩ : ∃ m, m = (eqs xs P).length := ⟨_, rfl⟩
  have hmx : m = xs.length - P := by rw [hm, eqs_length]
  rw [← hm]
  have HI := hid (show SolI xs P w ao 0 0 (eqs xs P) id w1 from ⟨Eqv.refl _ _, Ech.start _ _, fun i hi c h1 h2 => by
      rw [eqs_length] at hi
      rw [eqs_eb xs hP40 hi, if_neg (by omega)]; simp [h2], hown.at, fun b off e => by subst e; exact hown.ge, hB⟩)
  have Hm := hid hm; have Hmx := hid hmx
  have hm40 : m ≤ 40 := by omega
  clear hown hB hm hmx HE
  go_wp2
  go_loopw [8, 9] (fun n k wr => ∃ (kk nn : Nat) (F : List Nat) (pv : Nat → Nat), kk ≤ P ∧ k = .int .i64 kk ∧ n = .int .i64 nn ∧ SolI xs P w ao kk nn F pv wr) (fun _ k _ => P - (intOf k).toNat)
  case atStart => exact ⟨0, 0, _, id, Nat.zero_le _, rfl, rfl, HI.out⟩
  case round =>
    obtain ⟨k, n, F, pv, hk, rfl, rfl, hI⟩ := hrel
    obtain ⟨wo, rfl⟩ : ∃ wo : World, wo = wr := ⟨_, rfl⟩
    have HI2 := hid hI
    have hFm : F.length = m := by rw [hI.eqv.len, Hm.out]
    have hnm : n ≤ m := by have := hI.ech.nle; omega
    have HFm := hid hFm
    clear HI hI hFm
    by_cases hkP : k < P
    · go_wp2
      go_loop [10] (fun t => ∃ r : Nat, n ≤ r ∧ r ≤ m ∧ t = .int .i64 r ∧ ∀ i, n ≤ i → i < r → eb F i k = false) (fun t => m - (intOf t).toNat)
      case atStart => exact ⟨n, Nat.le_refl _, hnm, rfl, fun i h1 h2 => by omega⟩
      case round =>
        obtain ⟨r, hr0, hr, rfl, hz⟩ := hrel
        have Hz := hid hz
        clear hz
        by_cases hrm : r < m
        · obtain ⟨b, cs, rfl, hh, hev⟩ := HI2.out.mem.at (i := r) (by rw [HFm.out]; exact hrm)
          obtain ⟨q0, -, -, -⟩ := hev.cell hh (i := r) (by rw [HFm.out]; exact hrm)
          have hbit := bit_eb (en_lt hP40 HI2.out.top (i := r) (by rw [HFm.out]; exact hrm)) k
          have hk64 : (k : Int) % 64 = (k : Int) := by omega
          cases hbb : eb F r k with
          | false =>
            rw [hbb] at hbit
            simp only [Bool.false_eq_true, if_false] at hbit
            have Hbb := hid hbb
            clear hbb hh hev
            go_wp2
            go_round
            case rel => exact ⟨r + 1, by omega, by omega, by go_num, fun i h1 h2 => by
              by_cases e : i = r
              · subst e; exact Hbb.out
              · exact Hz.out i h1 (by omega)⟩
            case measure => simp [intOf]; omega
          | true =>
            rw [hbb] at hbit
            simp only [if_true] at hbit
            have Hbb := hid hbb
            clear hbb
            have hnm2 : n < m := by omega
            obtain ⟨q1, ⟨p1, q2⟩, f1, f2⟩ := hev.cell hh (i := r) (by rw [HFm.out]; exact hrm)
            obtain ⟨q3, ⟨p2, q4⟩, f3, f4⟩ := hev.cell hh (i := n) (by rw [HFm.out]; exact hnm2)
            have Hh := hid hh; have Hev := hid hev
            have hF1l : ((F.set n (en F r)).set r (en F n)).length = m := by rw [List.length_set, List.length_set]; exact HFm.out
            have hput : ∀ (z1 z2 : Int), ∃ cs' : Array Value, ((((wo.setCell ⟨b, n * 2, none⟩ (.int .u64 (en F r))).setCell ⟨b, n * 2 + 1, none⟩ (.int .u64 z1)).setCell ⟨b, r * 2, none⟩ (.int .u64 (en F n))).setCell ⟨b, r * 2 + 1, none⟩ (.int .u64 z2)).heap[b]? = some (.cells cs' 94 (0, 0)) ∧
                EV ((F.set n (en F r)).set r (en F n)) cs'.toList := fun z1 z2 => by
              obtain ⟨c1, g1, g2⟩ := hev.put hh (i := n) (by rw [HFm.out]; exact hnm2) (en F r) z1
              exact g2.put g1 (i := r) (by rw [List.length_set, HFm.out]; exact hrm) (en F n) z2
            have hge : w.heap.size ≤ b := HI2.out.own b 0 rfl
            have hBp : ∀ (z1 z2 : Int), Below w.heap.size w (((((wo.setCell ⟨b, n * 2, none⟩ (.int .u64 (en F r))).setCell ⟨b, n * 2 + 1, none⟩ (.int .u64 z1)).setCell ⟨b, r * 2, none⟩ (.int .u64 (en F n))).setCell ⟨b, r * 2 + 1, none⟩ (.int .u64 z2)).drew) := fun z1 z2 =>
              ((((HI2.out.below.setCell hge _).setCell hge _).setCell hge _).setCell hge _).drew
            have Hput := hid hput; have HBp := hid hBp; have HF1l := hid hF1l
            clear hh hev q0 hput hBp hF1l
            go_upto_region 10 with (fail)
            go_cut [] (fun wc => (∃ cs' : Array Value, wc.heap[b]? = some (.cells cs' 94 (0, 0)) ∧ EV ((F.set n (en F r)).set r (en F n)) cs'.toList) ∧ Below w.heap.size w wc)
            case first =>
              by_cases hrn : r = n
              · subst hrn
                go_region
                go_wp2
                go_meet
                exact ⟨Hput.out _ _, HBp.out _ _⟩
              · have hrn2 : ¬ n = r := fun e => hrn e.symm
                go_region
                go_wp2
                go_meet
                exact ⟨Hput.out _ _, HBp.out _ _⟩
            case rest =>
              obtain ⟨hmem, hBc⟩ := hcut
              obtain ⟨F1, hF1⟩ : ∃ F1, F1 = (F.set n (en F r)).set r (en F n) := ⟨_, rfl⟩
              have HF1 := hid hF1
              rw [← hF1] at hmem HF1l
              have hrF : r < F.length := by rw [HFm.out]; exact hrm
              have hnF : n < F.length := by rw [HFm.out]; exact hnm2
              have hF1eb : ∀ i, i < F.length → ∀ c, eb F1 i c = eb F (if i = n then r else if i = r then n else i) c := fun i hi c => by unfold eb; rw [hF1, Eqv.exch_en hi]
              have hEl := hid (show ElI xs P w b k n 0 F1 F1 wc from ⟨HI2.out.eqv.trans (by rw [hF1]; exact Eqv.exch hnF hrF), rfl, fun i hi c h1 h2 => by
                  rw [HF1l.out, ← HFm.out] at hi
                  rw [hF1eb i hi c]
                  exact HI2.out.top _ (by split; exact hrF; split <;> assumption) c h1 h2, fun i hi c => by rw [if_neg (fun h => absurd h.1 (by omega))], hmem, hBc⟩)
              have HF1eb := hid hF1eb
              clear hF1 hmem hBc hF1eb Hput HBp q1 q2 q3 q4 f1 f2 f3 f4
              go_wp2
              go_loopw [11] (fun i wr => ∃ (j : Nat) (G : List Nat), j ≤ m ∧ i = .int .i64 j ∧ ElI xs P w b k n j F1 G wr) (fun i _ => m - (intOf i).toNat)
              case atStart => exact ⟨0, F1, Nat.zero_le _, rfl, hEl.out⟩
              case round =>
                obtain ⟨j, G, hj, rfl, hel⟩ := hrel
                obtain ⟨wq, rfl⟩ : ∃ wq : World, wq = wr := ⟨_, rfl⟩
                have Hel := hid hel
                clear hel
                by_cases hjm : j < m
                · by_cases hjn : j = n
                  · subst hjn
                    go_wp2
                    go_roundw
                    case rel => exact ⟨j + 1, G, by omega, by go_num, Hel.out.skip (.inl rfl)⟩
                    case measure => simp [intOf]; omega
                  · obtain ⟨cs2, hh2, hev2⟩ := Hel.out.mem
                    have hjG : j < G.length := by rw [Hel.out.len, HF1l.out]; exact hjm
                    have hnG : n < G.length := by rw [Hel.out.len, HF1l.out]; exact hnm2
                    obtain ⟨q1, ⟨p1, q2⟩, f1, f2⟩ := hev2.cell hh2 hjG
                    obtain ⟨q3, ⟨p2, q4⟩, f3, f4⟩ := hev2.cell hh2 hnG
                    have hbit := bit_eb (en_lt hP40 Hel.out.top hjG) k
                    have hk64 : (k : Int) % 64 = (k : Int) := by omega
                    have hbG := Hel.out.here (i := j) (by rw [HF1l.out]; exact hjm) (.inl (Nat.le_refl _)) k
                    rw [hbG] at hbit
                    have Hput2 := hid (fun (z : Int) => hev2.put hh2 hjG (en G j ^^^ en G n) z)
                    have Hxor := hid (bits_xor_u64_nat (en G j) (en G n) (by have := en_lt hP40 Hel.out.top hjG; omega) (by have := en_lt hP40 Hel.out.top hnG; omega))
                    clear hh2 hev2 hbG
                    cases hbb : eb F1 j k with
                    | false =>
                      rw [hbb] at hbit
                      simp only [Bool.false_eq_true, if_false] at hbit
                      have Hbb := hid hbb
                      clear hbb
                      go_wp2
                      go_roundw
                      case rel => exact ⟨j + 1, G, by omega, by go_num, Hel.out.skip (.inr Hbb.out)⟩
                      case measure => simp [intOf]; omega
                    | true =>
                      rw [hbb] at hbit
                      simp only [if_true] at hbit
                      have Hbb := hid hbb
                      have hnj : ¬ n = j := fun e => hjn e.symm
                      clear hbb
                      go_wp2
                      go_region
                      go_wp2
                      go_roundw
                      case rel =>
                        refine ⟨j + 1, G.set j (en G j ^^^ en G n), by omega, by go_num, Hel.out.add (by rw [HF1l.out]; exact hjm) (by rw [HF1l.out]; exact hnm2) hjn Hbb.out ?_ (((Hel.out.below.setCell hge _).setCell hge _).drew)⟩
                        obtain ⟨cs4, g1, g2⟩ := Hput2.out (bits .xor .u64 p1 p2)
                        exact ⟨cs4, by rw [Hxor.out]; exact g1, g2⟩
                      case measure => simp [intOf]; omega
                · obtain rfl : j = m := by omega
                  go_wp2
                  go_roundw
                  case rel =>
                    have hel := Hel.out
                    refine ⟨k + 1, n + 1, G, fun i => if i = n then k else pv i, by omega, by go_num, by go_num, ⟨hel.eqv, ?_, hel.top, ?_, HI2.out.own, hel.below⟩⟩
                    · refine HI2.out.ech.next hr0 hrF Hbb.out (by rw [hel.len, HF1l.out, HFm.out]) (fun i hi c => ?_)
                      have hi1 : i < F1.length := by rw [HF1l.out, ← HFm.out]; exact hi
                      rw [hel.pt i hi1 c, HF1eb.out i hi k, HF1eb.out i hi c, HF1eb.out n hnF c]
                      simp only [if_true]
                      have hij : i < j := by rw [← HFm.out]; exact hi
                      simp only [hij, true_and]
                    · obtain ⟨cs3, h1, h2⟩ := hel.mem
                      exact .inr ⟨b, cs3, rfl, h1, h2⟩
                  case measure => simp [intOf]; omega
        · obtain rfl : r = m := by omega
          go_wp2
          go_roundw
          case rel =>
            refine ⟨k + 1, n, F, pv, by omega, by go_num, rfl, ⟨HI2.out.eqv, HI2.out.ech.skip (fun i h1 h2 => Hz.out i h1 (by rw [← HFm.out]; exact h2)), HI2.out.top, HI2.out.mem, HI2.out.own, HI2.out.below⟩⟩
          case measure => simp [intOf]; omega
    · obtain rfl : k = P := by omega
      go_wp2
      go_loop [12, 13] (fun g i => ∃ j : Nat, n ≤ j ∧ j ≤ m ∧ i = .int .i64 j ∧ g = .bool ((List.range j).all (fun i => decide (i < n) || en F i == 0))) (fun _ i => m - (intOf i).toNat)
      case atStart => exact ⟨n, Nat.le_refl _, hnm, rfl, by rw [List.all_eq_true.2 (fun i hi => by simp [List.mem_range.1 hi])]⟩
      case round =>
        obtain ⟨j, hnj, hj, rfl, rfl⟩ := hrel
        by_cases hjm : j < m
        · have hall : (List.range (j + 1)).all (fun i => decide (i < n) || en F i == 0) = ((List.range j).all (fun i => decide (i < n) || en F i == 0) && (en F j == 0)) := by
            rw [List.range_succ, List.all_append]
            simp [show ¬ j < n by omega]
          obtain ⟨v, hv⟩ : ∃ v, v = (List.range j).all (fun i => decide (i < n) || en F i == 0) := ⟨_, rfl⟩
          rw [← hv] at hall ⊢
          have Hall := hid hall
          clear hall hv
          cases v with
          | false =>
            go_wp2
            go_round
            case rel => exact ⟨j + 1, by omega, by omega, by go_num, by rw [Hall.out]; rfl⟩
            case measure => simp [intOf]; omega
          | true =>
            obtain ⟨b, cs, rfl, hh, hev⟩ := HI2.out.mem.at (i := j) (by rw [HFm.out]; exact hjm)
            obtain ⟨q0, -, -, -⟩ := hev.cell hh (i := j) (by rw [HFm.out]; exact hjm)
            clear hh hev
            obtain ⟨x, hx⟩ : ∃ x, x = en F j := ⟨_, rfl⟩
            rw [← hx] at q0 Hall
            clear hx
            by_cases hx0 : x = 0
            · subst hx0
              go_wp2
              go_round
              case rel => exact ⟨j + 1, by omega, by omega, by go_num, by rw [Hall.out]; rfl⟩
              case measure => simp [intOf]; omega
            · have hxb : ((x : Int) == 0) = false := by simp; omega
              have hxn : (x == 0) = false := by simpa using hx0
              have Hxn := hid hxn
              clear hxn
              go_wp2
              go_round
              case rel => exact ⟨j + 1, by omega, by omega, by go_num, by rw [Hall.out, Hxn.out]; rfl⟩
              case measure => simp [intOf]; omega
        · obtain rfl : j = m := by omega
          go_wp2
          go_ret3
          have hg : goodB F n = (List.range j).all (fun i => decide (i < n) || en F i == 0) := by unfold goodB; rw [HFm.out]
          exact ⟨ao, cp, F, n, pv, by rw [← Hmx.out, hg]; rfl, ⟨HI2.out.eqv, HI2.out.ech, HI2.out.top⟩, HI2.out.mem, HI2.out.below⟩

end Go.Proofs.Ytjnijhnphhpilaa
