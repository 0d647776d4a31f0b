/- Walks: Delete of rules; Idle of the program. -/
import Derived.Test.YtkioejdddmnbmaaRr
import Derived.Test.YtkioejdddmnbmaaSp
namespace Go.Proofs.Ytkioejdddmnbmaa
open Go.RowKit Go.Shelf
attribute [local go_sem ↓] wp_get wp_get0 wp_getS wp78 wps78 wpa78

theorem heap_setCells (g : Nat) (t : TypeId) : ∀ (vs : List Value) (o : Nat) (cur : List Value) (w : World), w.heap[g]? = some (.cells cur.toArray t (0, 0)) → o + vs.length ≤ cur.length →
    (w.setCells g o vs).heap[g]? = some (.cells (cur.take o ++ vs ++ cur.drop (o + vs.length)).toArray t (0, 0))
  | [], o, cur, w, hg, _ => by
    show w.heap[g]? = _
    rw [hg]; simp
  | v :: vs, o, cur, w, hg, hl => by
    have hl' : o + 1 + vs.length ≤ cur.length := by simp at hl; omega
    have h1 : (w.setCell ⟨g, o, none⟩ v).heap[g]? = some (.cells (cur.set o v).toArray t (0, 0)) := by
      rw [heap_setCell_same w g o _ t _ hg]; exact cellsSet rfl
    have ih := heap_setCells g t vs (o + 1) (cur.set o v) (w.setCell ⟨g, o, none⟩ v) h1 (by rw [List.length_set]; exact hl')
    show ((w.setCell ⟨g, o, none⟩ v).setCells g (o + 1) vs).heap[g]? = _
    rw [ih]
    have e1 : (cur.set o v).take (o + 1) = cur.take o ++ [v] := by
      rw [List.take_succ_eq_append_getElem (by rw [List.length_set]; omega), List.take_set_of_le (Nat.le_refl _)]; simp
    have e2 : (cur.set o v).drop (o + 1 + vs.length) = cur.drop (o + (v :: vs).length) := by
      rw [List.drop_set_of_lt (by omega)]; congr 1; simp; omega
    rw [e1, e2, List.append_assoc (cur.take o)]; rfl
theorem setCells_only (w : World) (g o : Nat) (vs : List Value) : Only (fun b => b = g) w (w.setCells g o vs) := by
  induction vs generalizing o w with
  | nil => exact Only.refl _ _
  | cons v vs ih => exact (setCell_only g o v).trans (ih _ _)

/-- clear over one rule of a row -/
theorem wpList_clear_rule {ops : Array Oper} {rest : List Oper} {o : Oper} {a : Act} {Q : Exit → Act → World → Prop} (w : World) (hgd : o.guard = none) (x : Operand)
    (hop : o.op = Op.call { callee := Callee.builtin Builtin.clear, args := #[x], argTypes := #[23] })
    (g off c : Nat) (hx : a.eval x = .slice (some ⟨g, off, none⟩) 1 c) (t : TypeId) (cs : List Value) (hg : w.heap[g]? = some (.cells cs.toArray t (0, 0))) (hn : off + 2 ≤ cs.length)
    (h : ∀ w', w'.heap[g]? = some (.cells (cs.take off ++ ([Value.slice none 0 0, Value.int .i64 0] ++ cs.drop (off + 2))).toArray t (0, 0)) → Only (fun b => b = g) w w' → wpList Try.prog ops Q rest (a.put o.dst (.tuple #[])) w') :
    wpList Try.prog ops Q (o :: rest) a w := by
  refine wpList_plain hgd fun K hK => ?_
  obtain ⟨i, hi, hz, _, _⟩ := info_parts info60
  unfold Oper.wp
  have hst := run_storeCells_at (P := Try.prog) g off t [.slice none 0 0, .int .i64 0] 0 cs.toArray w hg (by simp; omega) (by intro v hv; simp at hv; rcases hv with rfl | rfl <;> rfl)
  simp only [Nat.add_zero, List.length_cons, List.length_nil] at hst
  have hzc : (Builtin.zeroCells (Value.agg #[.slice none 0 0, .int .i64 0]).cells 1).toList = [.slice none 0 0, .int .i64 0] := by kernel_rfl
  simp [execOp, hop, resolve, invoke, builtin, hx, Builtin.clear_, run_underlying Try.underlying23, zeroValue, typeInfo, hi, hz, hzc, hst, Result.andThen]
  exact hK _ _ (h _ (by rw [setRow_heap hg]; simp) (setRow_only _ _))

def DelR (w0 : World) (rs : List Rl) (e : Ending) (w' : World) : Prop := ∃ ao cap, e = .returned (.slice ao rs.length cap) ∧ RulesAt w' ao rs ∧ (ao = none → cap = 0) ∧ Below w0.heap.size w0 w'

set_option maxRecDepth 100000 in
set_option maxHeartbeats 4000000 in
theorem deleteR_c (w0 : World) (ao : Option Addr) (cap k : Nat) (rs : List Rl) (w : World) (hown : OwnRu w0 w ao rs.length cap rs) (hB : Below w0.heap.size w0 w) (hk : k < rs.length) (hl : rs.length ≤ 1000) :
    Calls Try.prog 82 #[.slice ao rs.length cap, .int .i64 k, .int .i64 ((k : Int) + 1)] w (DelR w0 (rs.take k ++ rs.drop (k + 1))) := by
  obtain ⟨_, cl, ⟨hcl, (⟨e, h0⟩ | ⟨g, c, cur, e, hge, hh, hc, hm, hs, ht⟩)⟩, hC⟩ := hown
  · omega
  · cases e
    obtain ⟨i, hi, hz, hsi, hby⟩ := info_parts info60
    have hhl : w.heap[g]? = some (.cells cur.toList.toArray 60 (0, 0)) := by simpa using hh
    have hcurl : cur.toList.length = cap * 2 := by simpa using hs
    generalize cur.toList = cu at *
    clear hh hs
    obtain ⟨n, hn⟩ : ∃ n, n = rs.length := ⟨_, rfl⟩
    rw [← hn] at hcl hc ht hk hl ⊢
    have hlen : (rs.take k ++ rs.drop (k + 1)).length = n - 1 := by rw [List.length_append, List.length_take, List.length_drop]; omega
    have HB := hid hB; have HC := hid hC; have Hh := hid hhl; have Hcl := hid hcl; have Hcu := hid hcurl; have Ht := hid ht; have Hn := hid hn; have Hlen := hid hlen
    have Hi := hid hi; have Hsi := hid hsi
    have hcells : ∀ j, j < cl.length → w.cell? ⟨g, j, none⟩ = cl[j]? := fun j hj => by
      rw [cell_of_row _ _ _ _ _ _ hhl, List.getElem?_toArray]
      have := congrArg (fun l => l[j]?) ht
      simp only [List.getElem?_take] at this
      rw [if_pos (by rw [← hcl]; exact hj)] at this
      exact this
    have Hcells := hid hcells
    have Hfr := hid (fun j => (frozen_of_row w g j _ 60 hhl : w.frozen? ⟨g, j, none⟩ = false))
    have hkI : (k : Int) < (n : Int) := by omega
    have hkne : ((k : Int) == (k : Int) + 1) = false := by rw [beq_eq_false_iff_ne]; omega
    have hk1c : k + 1 ≤ cap := by omega
    have hkc : k ≤ cap := by omega
    have Hge := hid hge
    clear hB hC hhl hcl hcurl ht hn hlen hi hz hsi hby hcells hge
    have step : ∀ (ad : Addr) (c' : Nat), (n - (k + 1) = 0 ∨ ad = ⟨g, (k + 1) * 2, none⟩) → ∀ j u, (cl.drop ((k + 1) * 2))[j]? = some u → w.cell? (ad.add j) = some u := by
      intro ad c' had j u hj
      rw [List.getElem?_drop] at hj
      have hjl := (List.getElem?_eq_some_iff.1 hj).1
      rcases had with h | rfl
      · have := Hcl.out; omega
      · rw [Addr.add_lit, Hcells.out _ hjl]; exact hj
    have Hstep := hid step
    have hk1n : (k : Int) + 1 ≤ (n : Int) := by omega
    have hk10 : 0 ≤ (k : Int) + 1 := by omega
    clear step
    obtain ⟨p, hp⟩ : ∃ p, n = p + 1 := ⟨n - 1, by omega⟩
    subst hp
    rw [Nat.add_sub_cancel] at Hlen
    go_enter Try.func82, Try.ntmps82
    go_upto_region 5 with (fail)
    go_cut [0] (fun s wc => s = .slice (some ⟨g, 0, none⟩) p cap ∧ (∃ cu' : List Value, wc.heap[g]? = some (.cells cu'.toArray 60 (0, 0)) ∧ cu'.length = cap * 2 ∧ cu'.take (p * 2) = cl.take (k * 2) ++ cl.drop ((k + 1) * 2)) ∧ Below w0.heap.size w0 wc)
    case first =>
      have fin : ∀ wd : World, wd.heap[g]? = some (.cells cu.toArray 60 (0, 0)) → Below w0.heap.size w0 wd → (∃ cu' : List Value, (wd.setCells g (k * 2) (cl.drop ((k + 1) * 2))).heap[g]? = some (.cells cu'.toArray 60 (0, 0)) ∧ cu'.length = cap * 2 ∧ cu'.take (p * 2) = cl.take (k * 2) ++ cl.drop ((k + 1) * 2)) ∧ Below w0.heap.size w0 (wd.setCells g (k * 2) (cl.drop ((k + 1) * 2))) := by
        intro wd hd hBd
        have hcl := Hcl.out; have hcu := Hcu.out; have ht := Ht.out
        have hdl : (cl.drop ((k + 1) * 2)).length = (p - k) * 2 := by rw [List.length_drop]; omega
        refine ⟨⟨cu.take (k * 2) ++ cl.drop ((k + 1) * 2) ++ cu.drop (k * 2 + (cl.drop ((k + 1) * 2)).length), heap_setCells g 60 _ _ _ _ hd (by rw [hdl]; omega), ?_, ?_⟩, hBd.trans ((setCells_only _ _ _ _).below hBd.size (by intro j hj e; have e' : j = g := e; have := Hge.out; omega))⟩
        · rw [List.length_append, List.length_append, List.length_take, hdl, List.length_drop, hcu]; omega
        · have e1 : cl.take (k * 2) = cu.take (k * 2) := by rw [← ht, List.take_take]; congr 1; omega
          rw [e1, List.take_append_of_le_length (by rw [List.length_append, List.length_take, hdl, hcu]; omega), List.take_of_length_le (by rw [List.length_append, List.length_take, hdl, hcu]; omega)]
      have Hfin := hid fin
      clear fin
      have hkp : k ≤ p := by omega
      by_cases hkc1 : k + 1 = cap
      · go_region_law ((refine step_append_room (by rfl) _ _ 23 (by rfl) 60 i 2 Try.underlying23 Hi.out Hsi.out g 0 k cap (by rfl) _ 0 _ (cl.drop ((k + 1) * 2)) (by rfl) (by have := Hcl.out; rw [List.length_drop]; omega) (Hstep.out _ 0 (.inl (by omega))) (fun u hu => HC.out.one u (List.mem_of_mem_drop hu)) (by omega) (fun j hj => by have := Hcl.out; rw [List.length_drop] at hj; omega) ?_))
        all_goals (
          go_wp2
          go_meet
          have hfin := Hfin.out w.drew Hh.out HB.out.drew
          rw [hkc1] at hfin
          exact ⟨by congr 1; omega, by rw [hkc1]; exact hfin.1, hfin.2⟩)
      · have hcne : ¬ cap = k + 1 := fun h => hkc1 h.symm
        go_region_law ((refine step_append_room (by rfl) _ _ 23 (by rfl) 60 i 2 Try.underlying23 Hi.out Hsi.out g 0 k cap (by rfl) _ (p - k) _ (cl.drop ((k + 1) * 2)) (by rfl) (by have := Hcl.out; rw [List.length_drop]; omega) (Hstep.out _ 0 (.inr (by rfl))) (fun u hu => HC.out.one u (List.mem_of_mem_drop hu)) (by omega) (fun j hj => ⟨by have := Hcl.out; have := Hcu.out; rw [List.length_drop] at hj; simp only [World.cell?_drew]; rw [cell_of_row _ _ _ _ _ _ Hh.out, List.getElem?_toArray, List.getElem?_eq_getElem (by omega)]; rfl, Hfr.out _⟩) ?_))
        all_goals (
          go_wp2
          go_meet
          exact ⟨rfl, Hfin.out w.drew Hh.out HB.out.drew⟩)
    case rest =>
      obtain ⟨rfl, ⟨cu', hh', hcu', ht'⟩, hB'⟩ := hcut
      have hpc : p + 1 ≤ cap := hc
      have hpcI : ¬ cap = p := by omega
      have Hh' := hid hh'; have Hcu' := hid hcu'; have Ht' := hid ht'; have HB' := hid hB'
      clear hh' hcu' ht' hB'
      go_wp2_with (refine wpList_clear_rule _ rfl _ rfl g (p * 2) (cap - p) rfl 60 cu' Hh'.out ?e1 ?e2; rotate_right; (intro w3 hh3 hO3; refine Hid.out ?_))
      case e1 => have := Hcu'.out; omega
      case e2 =>
        refine hid ?_
        have hB3 : Below w0.heap.size w0 w3 := HB'.out.trans (hO3.below HB'.out.size (by intro j hj e; have e' : j = g := e; have := Hge.out; omega))
        have hCn : RulesC w0 (cl.take (k * 2) ++ cl.drop ((k + 1) * 2)) (rs.take k ++ rs.drop (k + 1)) := (HC.out.take (by have := Hn.out; omega)).append (HC.out.drop (by have := Hn.out; omega))
        have hat3 : RulesAt w3 (some ⟨g, 0, none⟩) (rs.take k ++ rs.drop (k + 1)) := by
          refine rules_of_cells hCn hB3 hh3 ?_
          rw [hCn.1, Hlen.out, ← Ht'.out, List.take_append_of_le_length (by rw [List.length_take, Hcu'.out]; omega), List.take_take, Nat.min_self]
        have Hat3 := hid hat3; have HB3 := hid hB3
        clear hh3 hO3 hB3 hCn hat3
        go_wp2
        go_ret
        exact ⟨some ⟨g, 0, none⟩, cap, by rw [Hlen.out]; rfl, Hat3.out, (fun h => by cases h), HB3.out⟩

end Go.Proofs.Ytkioejdddmnbmaa
