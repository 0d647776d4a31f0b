/- Lists of equations in memory; append. Walk of the reference: equations. -/
import Derived.Test.YtjnijhnphhpilaaZp
import Derived.Test.YtjnijhnphhpilaaApf
import Derived.Test.YtjnijhnphhpilaaLc
import Derived.Laws.Bits64b
namespace Go.Proofs.Ytjnijhnphhpilaa
open Go.RowKit

theorem info94 : (Try.prog.info? 94).map (fun i => (i.zero, i.size, i.bytes)) = some (some (.agg #[.int .u64 0, .int .u64 0]), 2, 16) := by kernel_rfl
theorem un82 : Try.prog.underlying 82 = some (.slice 94) := by kernel_rfl

def EV (E : List Nat) (vs : List Value) : Prop := ∀ i, i < E.length → vs[2 * i]? = some (.int .u64 (en E i)) ∧ ∃ p : Int, vs[2 * i + 1]? = some (.int .u64 p)

/-- a list of equations at an address -/
def QAt (w : World) (ao : Option Addr) (E : List Nat) : Prop := E = [] ∨ ∃ b cs, ao = some ⟨b, 0, none⟩ ∧ w.heap[b]? = some (.cells cs 94 (0, 0)) ∧ EV E cs.toList

def OwnQ (B : Nat) (w : World) (ao : Option Addr) (n cap : Nat) (E : List Nat) : Prop := E.length = n ∧ ∃ vs, w.ownsRow B 94 2 (.slice ao n cap) n vs ∧ EV E vs

theorem OwnQ.nil (B : Nat) (w : World) : OwnQ B w none 0 0 [] := ⟨rfl, [], World.ownsRow_nil w B 94 2, fun i hi => absurd hi (by simp)⟩

theorem OwnQ.at {B : Nat} {w : World} {ao : Option Addr} {n cap : Nat} {E : List Nat} (h : OwnQ B w ao n cap E) : QAt w ao E := by
  obtain ⟨rfl, vs, ⟨hl, (⟨e, h0⟩ | ⟨g, c, cur, e, hge, hh, hle, hm, hs, ht⟩)⟩, hv⟩ := h
  · exact .inl (List.eq_nil_of_length_eq_zero h0)
  · cases e
    refine .inr ⟨g, cur, rfl, hh, fun i hi => ?_⟩
    have h1 := hv i hi
    rw [← ht, List.getElem?_take, List.getElem?_take, if_pos (by omega), if_pos (by omega)] at h1
    exact h1

theorem OwnQ.ge {B : Nat} {w : World} {b off : Nat} {n cap : Nat} {E : List Nat} (h : OwnQ B w (some ⟨b, off, none⟩) n cap E) : B ≤ b := by
  obtain ⟨rfl, vs, ⟨hl, (⟨e, h0⟩ | ⟨g, c, cur, e, hge, hh, hle, hm, hs, ht⟩)⟩, hv⟩ := h
  · cases e
  · cases e; exact hge

theorem OwnQ.kept {B : Nat} {w w' : World} {ao : Option Addr} {n cap : Nat} {E : List Nat} (h : OwnQ B w ao n cap E) (hB : Below w.heap.size w w') : OwnQ B w' ao n cap E := by
  obtain ⟨hl, vs, ho, hv⟩ := h
  refine ⟨hl, vs, ho.kept (row := Option.none) ⟨hB.os, hB.tape, hB.output, hB.size, fun k hk _ => hB.block k hk⟩ ?_, hv⟩
  cases ao
  · exact .inl rfl
  · exact .inr (by simp [Value.ownBlock])

theorem OwnQ.lt {B : Nat} {w : World} {b off : Nat} {n cap : Nat} {E : List Nat} (h : OwnQ B w (some ⟨b, off, none⟩) n cap E) : b < w.heap.size := by
  obtain ⟨rfl, vs, ⟨hl, (⟨e, h0⟩ | ⟨g, c, cur, e, hge, hh, hle, hm, hs, ht⟩)⟩, hv⟩ := h
  · cases e
  · cases e; exact (Array.getElem?_eq_some_iff.1 hh).1

theorem OwnQ.only {S : Nat → Prop} {B : Nat} {w w' : World} {ao : Option Addr} {n cap : Nat} {E : List Nat} (h : OwnQ B w ao n cap E) (hO : Only S w w') (hS : ∀ b off, ao = some ⟨b, off, Option.none⟩ → ¬ S b) : OwnQ B w' ao n cap E := by
  obtain ⟨hl, vs, ⟨hl2, hr⟩, hv⟩ := h
  refine ⟨hl, vs, ⟨hl2, ?_⟩, hv⟩
  rcases hr with h | ⟨g, c, cur, e, hge, hh, hr⟩
  · exact .inl h
  · cases e
    exact .inr ⟨_, _, cur, rfl, hge, (hO.block _ (Array.getElem?_eq_some_iff.1 hh).1 (hS _ 0 rfl)).trans hh, hr⟩

/-- the run of an append of one equation onto a list of the call's own -/
theorem run_app_q (ty : TypeId) (w : World) (B : Nat) (ao : Option Addr) (n cap : Nat) (E : List Nat) (hown : OwnQ B w ao n cap E)
    (b off : Nat) (u : Nat) (p : Int) (hu : w.cell? ⟨b, off, none⟩ = some (.int .u64 u)) (hp : w.cell? ⟨b, off + 1, none⟩ = some (.int .u64 p)) (hb : n ≤ 1000000) (hB : B ≤ w.heap.size) :
    ∃ ao' cap' w', (Builtin.append_ #[82, 82] ty #[.slice ao n cap, .slice (some ⟨b, off, none⟩) 1 1]).run Try.prog w = .ok (.slice ao' (n + 1) cap') w' ∧
      Below B w w' ∧ OwnQ B w' ao' (n + 1) cap' (E ++ [u]) := by
  obtain ⟨i, hi, hz, hs, hby⟩ := info_parts info94
  obtain ⟨hl, vs, ho, hv⟩ := hown
  obtain ⟨v', w', hrun, r1, r2, _⟩ := run_append_own (P := Try.prog) w B 82 ty 94 i (.agg #[.int .u64 0, .int .u64 0]) 2 16 un82 hi hz hs hby rfl (by decide) (.slice ao n cap) n vs ho ⟨b, off, none⟩ 1 1 [.int .u64 u, .int .u64 p] rfl
    (by
      intro j v hj
      match j, hj with
      | 0, hj => simp at hj; subst hj; simpa [Addr.add] using hu
      | 1, hj => simp at hj; subst hj; simpa [Addr.add] using hp
      | j + 2, hj => simp at hj)
    (by intro v hv; simp at hv; rcases hv with rfl | rfl <;> rfl) (by unfold maxLen; omega) (by omega) hB
  have hlo : vs.length = n * 2 := ho.1
  have hB' : Below B w w' := (Below.refl B w).grown r2 hB (fun k e => (ho.lt k e).1)
  have hv' : EV (E ++ [u]) (vs ++ [.int .u64 u, .int .u64 p]) := by
    intro i hi
    simp at hi
    by_cases e : i < E.length
    · rw [List.getElem?_append_left (by omega), List.getElem?_append_left (by omega)]
      have h1 := hv i e
      refine ⟨?_, h1.2⟩
      rw [h1.1]
      unfold en
      rw [List.getD_eq_getElem?_getD, List.getD_eq_getElem?_getD, List.getElem?_append_left e]
    · have : i = E.length := by omega
      subst this
      rw [List.getElem?_append_right (by omega), List.getElem?_append_right (by omega), show 2 * E.length - vs.length = 0 from by omega, show 2 * E.length + 1 - vs.length = 1 from by omega]
      refine ⟨?_, p, rfl⟩
      unfold en
      rw [List.getD_eq_getElem?_getD, List.getElem?_append_right (by omega)]
      simp
  obtain ⟨hl2, hr⟩ := r1
  rcases hr with ⟨rfl, h0⟩ | ⟨g, c, cur, rfl, hge, hh, hr⟩
  · omega
  · exact ⟨_, c, w', hrun, hB', by simp [hl], _, ⟨hl2, .inr ⟨g, c, cur, rfl, hge, hh, hr⟩⟩, hv'⟩

theorem wpList_app_q {ops : Array Oper} {rest : List Oper} {o : Oper} {a : Act} {Q : Exit → Act → World → Prop} (w : World) (hg : o.guard = none) (s x : Operand)
    (hop : o.op = Op.call { callee := Callee.builtin Builtin.append, args := #[s, x], argTypes := #[82, 82] })
    (B : Nat) (ao : Option Addr) (n cap : Nat) (E : List Nat) (hs : a.eval s = .slice ao n cap) (hown : OwnQ B w ao n cap E)
    (b off : Nat) (u : Nat) (p : Int) (hx : a.eval x = .slice (some ⟨b, off, none⟩) 1 1) (hu : w.cell? ⟨b, off, none⟩ = some (.int .u64 u)) (hp : w.cell? ⟨b, off + 1, none⟩ = some (.int .u64 p)) (hb : n ≤ 1000000) (hB : B ≤ w.heap.size)
    (hK : ∀ ao' cap' w', Below B w w' → OwnQ B w' ao' (n + 1) cap' (E ++ [u]) → wpList Try.prog ops Q rest (a.put o.dst (.slice ao' (n + 1) cap')) w') :
    wpList Try.prog ops Q (o :: rest) a w := by
  refine wpList_plain hg fun K hK' => ?_
  obtain ⟨ao', cap', w', hrun, h1, h2⟩ := run_app_q o.type w B ao n cap E hown b off u p hu hp hb hB
  unfold Oper.wp
  simp [execOp, hop, resolve, invoke, builtin, hs, hx, hrun, Result.andThen]
  exact hK' _ _ (hK ao' cap' w' h1 h2)

end Go.Proofs.Ytjnijhnphhpilaa

namespace Go.Proofs.Ytjnijhnphhpilaa
open Go.RowKit Go.Shelf

theorem wrap_pb {y : Int} (hy : y = 0 ∨ y = 1) {j : Nat} (hj : j < 64) : IntKind.u64.wrap (y * 2 ^ j) = ((pb (decide (y = 1)) j : Nat) : Int) := by
  rw [IntKind.wrap_u64]
  rcases hy with rfl | rfl
  · simp [pb]
  · have h : (2 : Nat) ^ j < 2 ^ 64 := Nat.pow_lt_pow_right (by omega) hj
    have e : (1 : Int) * 2 ^ j = ((2 ^ j : Nat) : Int) := by simp
    rw [e]
    simp only [pb, decide_true, if_true]
    obtain ⟨v, hv⟩ : ∃ v, v = 2 ^ j := ⟨_, rfl⟩
    rw [← hv] at h ⊢
    omega

theorem or_pb {q : Nat} (hq : q < 2 ^ 41) {y : Int} (hy : y = 0 ∨ y = 1) {j : Nat} (hj : j < 40) : bits .or .u64 (q : Int) (IntKind.u64.wrap (y * 2 ^ j)) = ((q ||| pb (decide (y = 1)) j : Nat) : Int) := by
  rw [wrap_pb hy (by omega)]
  have h := pb_lt (decide (y = 1)) (m := j) (k := 40) hj
  exact bits_or_u64_nat _ _ (by omega) (by omega)

/-- a list of equations that a call hands back -/
def QP (w : World) (E : List Nat) (e : Ending) (w' : World) : Prop := ∃ ao cap, e = .returned (.slice ao E.length cap) ∧ OwnQ w.heap.size w' ao E.length cap E ∧ Below w.heap.size w w'

set_option maxRecDepth 100000 in
set_option maxHeartbeats 4000000 in
theorem equations_c (a : Option Addr) (cap P : Nat) (xs : List Int) (w : World) (hx : IntsAt w a xs) (hl : xs.length ≤ 40) (hP : P ≤ xs.length) (hb : isBits xs = true) :
    Calls Try.prog 80 #[.slice a xs.length cap, .int .i64 P] w (QP w (eqs xs P)) := by
  have Hx := hid hx; have Hb := hid hb
  clear hx hb
  go_enter Try.func80, Try.ntmps80
  go_wp2
  go_loopw [5, 6] (fun o t wr => ∃ (i : Nat) (ao : Option Addr) (cp : Nat), P + i ≤ xs.length ∧ t = .int .i64 ((P + i : Nat) : Int) ∧ o = .slice ao i cp ∧ OwnQ w.heap.size wr ao i cp ((eqs xs P).take i) ∧ Below w.heap.size w wr) (fun _ t _ => xs.length - (intOf t).toNat)
  case atStart => exact ⟨0, none, 0, by omega, rfl, rfl, OwnQ.nil _ _, Below.refl _ _⟩
  case round =>
    obtain ⟨i, ao, cp, hi, rfl, rfl, hown, hB⟩ := hrel
    obtain ⟨wo, rfl⟩ : ∃ wo : World, wo = wr := ⟨_, rfl⟩
    have Hown := hid hown; have HB := hid hB
    clear hown hB
    obtain ⟨t, ht⟩ : ∃ t, t = P + i := ⟨_, rfl⟩
    have Ht := hid ht
    rw [← ht]
    rw [← ht] at hi
    have hPt : P ≤ t := by omega
    clear ht
    by_cases hlt : t < xs.length
    · obtain ⟨b1, off1, rfl, hc⟩ := (Hx.out.mono HB.out).at hlt
      have hbit := isBits_nth Hb.out t
      obtain ⟨x, hxx⟩ : ∃ x, x = nth xs t := ⟨_, rfl⟩
      rw [← hxx] at hc hbit
      have Hxx := hid hxx
      clear hxx
      have hx0 : 0 ≤ x := by omega
      have hx1 : x ≤ 1 := by omega
      have hc' := cstep hc (bnew wo (.cells #[.int .u64 0, .int .u64 0] 94))
      have hq0 : x * 1099511627776 = ((qb xs t 0 : Nat) : Int) := by
        rw [qb, pb, bt, ← Hxx.out]
        rcases hbit with rfl | rfl <;> decide
      have Hq0 := hid hq0
      clear hq0
      go_wp2
      go_region
      rw [Hq0.out]
      go_wp2
      obtain ⟨p, hp⟩ : ∃ p, p = IntKind.u64.wrap (2 ^ t) := ⟨_, rfl⟩
      rw [← hp]
      have HB1 := hid (HB.out.trans (((bnew wo (.cells #[.int .u64 (qb xs t 0), .int .u64 p] 94)).drew).mono HB.out.size))
      have Hh1 := hid (heap_alloc_new wo (.cells #[.int .u64 (qb xs t 0), .int .u64 p] 94))
      have Hown1 := hid (Hown.out.kept ((bnew wo (.cells #[.int .u64 (qb xs t 0), .int .u64 p] 94)).drew))
      have hc1 := cstep hc ((bnew wo (.cells #[.int .u64 (qb xs t 0), .int .u64 p] 94)).drew)
      have hh1 : (wo.alloc (.cells #[.int .u64 (qb xs t 0), .int .u64 p] 94)).drew.heap[wo.heap.size]? = some (.cells #[.int .u64 (qb xs t 0), .int .u64 p] 94 (0, 0)) := Hh1.out
      have Hh2 := hid hh1
      obtain ⟨be, hbe⟩ : ∃ b, b = wo.heap.size := ⟨_, rfl⟩
      have hbw : w.heap.size ≤ be := by rw [hbe]; exact HB.out.size
      rw [← hbe] at Hh2 ⊢
      have Hbe := hid hbe
      generalize (wo.alloc (.cells #[.int .u64 (qb xs t 0), .int .u64 p] 94)).drew = wn1 at HB1 Hown1 Hh2 hc1 ⊢
      clear hp hc hc' Hh1 hh1 hbe hbit hx0 hx1 Hq0 Hxx
      go_loopw [8] (fun k wr => ∃ j : Nat, j ≤ P ∧ k = .int .i64 j ∧ wr.heap[be]? = some (.cells #[.int .u64 (qb xs t j), .int .u64 p] 94 (0, 0)) ∧ Only (fun b => b = be) wn1 wr) (fun k _ => P - (intOf k).toNat)
      case atStart => exact ⟨0, Nat.zero_le _, rfl, Hh2.out, Only.refl _ _⟩
      case round =>
        obtain ⟨j, hj, rfl, hh, hO⟩ := hrel
        obtain ⟨wq, rfl⟩ : ∃ wq : World, wq = wr := ⟨_, rfl⟩
        by_cases hjP : j < P
        · obtain ⟨r, hr⟩ : ∃ r, r = t - j - 1 := ⟨_, rfl⟩
          have hrI : (t : Int) - (j : Int) - 1 = (r : Int) := by omega
          have hrl : r < xs.length := by omega
          have hb1 : b1 < w.heap.size := Hx.out.lt (by omega)
          have hcr : wq.cell? ⟨b1, off1 + r, none⟩ = some (.int .i64 (nth xs r)) := hO.cell ((Hx.out.mono HB1.out).cell hrl) (by show ¬ b1 = be; omega)
          have hq : wq.cell? ⟨be, 0, none⟩ = some (.int .u64 (qb xs t j)) := by rw [cell_of_row _ _ _ _ _ _ hh]; rfl
          have hfr : wq.frozen? ⟨be, 0, none⟩ = false := frozen_of_row _ _ _ _ _ hh
          have hbit := isBits_nth Hb.out r
          have hqs : qb xs t (j + 1) = qb xs t j ||| pb (bt xs r) j := by rw [qb, hr]
          have hbt : bt xs r = decide (nth xs r = 1) := rfl
          obtain ⟨y, hy⟩ : ∃ y, y = nth xs r := ⟨_, rfl⟩
          rw [← hy] at hcr hbit hbt
          rw [hbt] at hqs
          have hql := qb_lt xs t j (by omega)
          have hy0 : 0 ≤ y := by omega
          have hy1 : y ≤ 1 := by omega
          have hj64 : (j : Int) % 64 = (j : Int) := by omega
          have Hqs := hid hqs; have Hh := hid hh; have HO := hid hO; have Hbit := hid hbit; have Hr := hid hr; have Hql := hid hql
          clear hqs hh hO hy hbt hbit hr hql
          go_wp2
          go_region
          go_wp2
          go_roundw
          case rel =>
            refine ⟨j + 1, by omega, by go_num, ?_, (HO.out.set1 _ _).drew⟩
            refine (heap_setCell_same wq be 0 _ 94 _ Hh.out).trans ?_
            rw [or_pb Hql.out Hbit.out (by omega), ← Hqs.out]
            rfl
          case measure => simp [intOf]; omega
        · obtain rfl : j = P := by omega
          have Hh := hid hh; have HO := hid hO
          clear hh hO
          have q0 := cell_of_row wq be 0 _ _ _ Hh.out
          have q1 := cell_of_row wq be 1 _ _ _ Hh.out
          simp at q0 q1
          have hbo : be = wo.heap.size := Hbe.out
          have hown := Hown1.out.only HO.out (fun b off e hb => by
            subst e
            have h1 := Hown.out.lt
            have hb' : b = be := hb
            omega)
          have hBq : Below w.heap.size w wq := HB1.out.trans (HO.out.below HB1.out.size (by intro k hk e; have e' : k = be := e; omega))
          have Hown2 := hid hown; have HBq := hid hBq
          have hi40 : i ≤ 40 := by have := Ht.out; omega
          have hqe : (eqs xs j).take (i + 1) = (eqs xs j).take i ++ [qb xs t j] := by
            have hlen := eqs_length xs j
            have hti := Ht.out
            rw [List.take_succ_eq_append_getElem (by omega)]
            congr 1
            have := eqs_en xs j (i := i) (by omega)
            unfold en at this
            rw [List.getD_eq_getElem?_getD, List.getElem?_eq_getElem (by omega)] at this
            simp only [Option.getD_some] at this
            rw [this, ← hti]
          have Hqe := hid hqe
          clear hown hBq hqe hbo
          go_wp2_with (at_builtin; refine wpList_app_q _ rfl _ _ rfl w.heap.size ao i cp ((eqs xs j).take i) rfl ?c1 _ _ (qb xs t j) p rfl ?c2 ?c3 ?c4 ?c5 ?c6; rotate_right; (intro ao' cap' w' hB' hown'; refine Hid.out ?_))
          case c1 => exact Hown2.out.kept (bnew _ _)
          case c2 => simp
          case c3 => simp
          case c4 => omega
          case c5 => have := HBq.out.size; simp; omega
          case c6 =>
            refine hid ?_
            have Hown3 := hid hown'
            have HB3 := hid (HBq.out.trans (Below.trans ((bnew wq (.cells #[.int .u64 (qb xs t j), .int .u64 p] 94)).mono HBq.out.size) hB'))
            clear hown' hB'
            go_wp2
            go_roundw
            case rel => exact ⟨i + 1, ao', cap', by have := Ht.out; omega, by have := Ht.out; go_num, rfl, by rw [Hqe.out]; exact Hown3.out, HB3.out⟩
            case measure => simp [intOf]; omega
    · obtain rfl : t = xs.length := by omega
      go_wp2
      go_ret
      have hil : i = xs.length - P := by have := Ht.out; omega
      have hlen := eqs_length xs P
      have ho := Hown.out
      rw [List.take_of_length_le (by omega)] at ho
      refine ⟨ao, cp, by rw [hlen, ← hil]; rfl, by rw [hlen, ← hil]; exact ho, HB.out⟩

end Go.Proofs.Ytjnijhnphhpilaa
