/- Append of a list onto a slice of ints without room: nothing that lay is written. -/
import Derived.Test.YtkioejdddmnbmaaApp
import Derived.Test.YtkioejdddmnbmaaWa
import Derived.Deep.Upon
import Derived.Deep.RegionHeld3
namespace Go.Proofs.Ytkioejdddmnbmaa
open Go.RowKit Go.Shelf

theorem intv_at {w : World} {a : Addr} {xs : List Int} (h : IntsAt w (some a) xs) : ∀ j v, (intv xs)[j]? = some v → w.cell? (a.add j) = some v := by
  intro j v hj
  rw [intv_get] at hj
  split at hj
  · rename_i hlt
    obtain ⟨b2, off, e, hc⟩ := h.at hlt
    simp at e; subst e
    simp at hj; subst hj
    rw [Addr.add_lit]; exact hc
  · simp at hj

theorem run_app_fullm (ty : TypeId) (w : World) (b : Addr) (n cap : Nat) (xs : List Int) (hat : IntsAt w (some b) xs) (hn : xs.length = n) (hc : cap = n)
    (ax : Option Addr) (m cx : Nat) (ys : List Int) (hy : IntsAt w ax ys) (hm : ys.length = m) (hnil : ax = none → m = 0 ∧ cx = 0) (hb : n + m ≤ 1000000) :
    ∃ ao' cap' w', (Builtin.append_ #[22, 22] ty #[.slice (some b) n cap, .slice ax m cx]).run Try.prog w = .ok (.slice (some ao') (n + m) cap') w' ∧ Below w.heap.size w w' ∧ IntsAt w' (some ao') (xs ++ ys) ∧ n + m ≤ cap' := by
  subst hn
  subst hm
  subst hc
  obtain ⟨i, hi, hz, hs, hby⟩ := info_parts info3
  by_cases h0 : ys.length = 0
  · obtain rfl : ys = [] := List.eq_nil_of_length_eq_zero h0
    have hsrc : Src Try.prog i.size 22 (.slice ax 0 cx) 0 [] w := by
      cases ax with
      | none => exact Src.ofNil w Try.underlying22 cx
      | some a => exact Src.ofSlice w Try.underlying22 a 0 cx [] (by simp) (by intro j u h; simp at h) (by intro u h; cases h)
    exact ⟨b, _, w, run_append_nothing w 22 22 ty 3 i Try.underlying22 hi (some b) xs.length xs.length (Nat.le_refl _) _ hsrc, Below.refl _ _, by simpa using hat, Nat.le_refl _⟩
  · cases ax with
    | none => exact absurd (hnil rfl).1 h0
    | some a =>
      obtain ⟨v', w', hrun, ⟨hl, hr⟩, hg⟩ := run_append_arg_grows (P := Try.prog) w 22 ty 3 i (.int .i64 0) 1 8 Try.underlying22 hi hz hs hby rfl (by decide) b xs.length xs.length (intv xs) (by simp [intv]) (intv_at hat) a ys.length cx (intv ys) (by simp [intv])
        (intv_at hy) (by omega) (by unfold maxLen; omega) (by omega)
      rcases hr with ⟨rfl, h00⟩ | ⟨g, c, cur, rfl, hge, hh, hle, hrest⟩
      · omega
      · refine ⟨_, c, w', hrun, (Below.refl _ w).grown hg (Nat.le_refl _) (fun k e => by cases e), ?_, hle⟩
        have ho' : w'.ownsRow w.heap.size 3 1 (.slice (some ⟨g, 0, none⟩) (xs ++ ys).length c) (xs ++ ys).length (intv (xs ++ ys)) := by
          rw [intv_append, List.length_append]
          exact ⟨hl, .inr ⟨g, c, cur, rfl, hge, hh, hle, hrest⟩⟩
        exact IntsAt.of_owns ho'

theorem wpList_app_fullm {ops : Array Oper} {rest : List Oper} {o : Oper} {a : Act} {Q : Exit → Act → World → Prop} (w : World) (hg : o.guard = none) (s x : Operand)
    (hop : o.op = Op.call { callee := Callee.builtin Builtin.append, args := #[s, x], argTypes := #[22, 22] })
    (b : Addr) (n cap : Nat) (xs : List Int) (hs : a.eval s = .slice (some b) n cap) (hat : IntsAt w (some b) xs) (hn : xs.length = n) (hc : cap = n)
    (ax : Option Addr) (m cx : Nat) (ys : List Int) (hx : a.eval x = .slice ax m cx) (hy : IntsAt w ax ys) (hm : ys.length = m) (hnil : ax = none → m = 0 ∧ cx = 0) (hb : n + m ≤ 1000000)
    (hK : ∀ ao' cap' w', Below w.heap.size w w' → IntsAt w' (some ao') (xs ++ ys) → n + m ≤ cap' → wpList Try.prog ops Q rest (a.put o.dst (.slice (some ao') (n + m) cap')) w') :
    wpList Try.prog ops Q (o :: rest) a w := by
  refine wpList_plain hg fun K hK' => ?_
  obtain ⟨ao', cap', w', hrun, h1, h2, h3⟩ := run_app_fullm o.type w b n cap xs hat hn hc ax m cx ys hy hm hnil hb
  unfold Oper.wp
  simp [execOp, hop, resolve, invoke, builtin, hs, hx, hrun, Result.andThen]
  exact hK' _ _ (hK ao' cap' w' h1 h2 h3)

/-- the same at a step of a region that draws its order, with what the walk wants to know of what lay -/
theorem step_app_fullm {ops : Array Oper} {o : Oper} {a : Act} {K : Act → World → Prop} {Q : Exit → Act → World → Prop} {E : Prop} (w : World) (hgd : o.guard = none) (s x : Operand)
    (hop : o.op = Op.call { callee := Callee.builtin Builtin.append, args := #[s, x], argTypes := #[22, 22] })
    (b : Addr) (n cap : Nat) (xs : List Int) (hs : a.eval s = .slice (some b) n cap) (hat : IntsAt w (some b) xs) (hn : xs.length = n) (hc : cap = n)
    (ax : Option Addr) (m cx : Nat) (ys : List Int) (hx : a.eval x = .slice ax m cx) (hy : IntsAt w ax ys) (hm : ys.length = m) (hnil : ax = none → m = 0 ∧ cx = 0) (hb : n + m ≤ 1000000)
    (hK : ∀ ao' cap' w', Below w.heap.size w w' → IntsAt w' (some ao') (xs ++ ys) → n + m ≤ cap' → (∀ k, k < w.heap.size → k < w'.heap.size) → (∀ k, k < w.heap.size → ¬ k = w'.heap.size) → (∀ k, k < w.heap.size → ¬ w'.heap.size = k) → (∀ k, k < w.heap.size → k ≤ w'.heap.size) → (∀ k, k < w.heap.size → k < w'.heap.size + 1) →
      (∀ b o, b < w.heap.size → w'.cell? ⟨b, o, none⟩ = w.cell? ⟨b, o, none⟩) → (∀ b o, b < w.heap.size → w'.frozen? ⟨b, o, none⟩ = w.frozen? ⟨b, o, none⟩) → K (a.put o.dst (.slice (some ao') (n + m) cap')) w') :
    if Region.wanted o (yielded ops a.tmps) = true then Oper.wp Try.prog o a w K Q else E := by
  have hw : Region.wanted o (yielded ops a.tmps) = true := by simp [Region.wanted, hgd]
  rw [if_pos hw]
  obtain ⟨ao', cap', w', hrun, h1, h2, h3⟩ := run_app_fullm o.type w b n cap xs hat hn hc ax m cx ys hy hm hnil hb
  have hz := h1.size
  unfold Oper.wp
  simp [execOp, hop, resolve, invoke, builtin, hs, hx, hrun, Result.andThen, Oper.upon]
  exact hK ao' cap' w' h1 h2 h3 (fun k hk => by omega) (fun k hk => by omega) (fun k hk => by omega) (fun k hk => by omega) (fun k hk => by omega) (bcell h1).1 (bcell h1).2

/-- a list of one number, just made -/
theorem at_lit1 (w : World) (v : Int) : IntsAt (w.alloc (.cells #[.int .i64 v] 3)) (some ⟨w.heap.size, 0, none⟩) [v] :=
  .inr ⟨_, 0, rfl, fun j hj => by
    have hj0 : j = 0 := by simp at hj; omega
    subst hj0
    simp [nth]⟩
theorem at_lit0 (w : World) : IntsAt (w.alloc (.cells #[] 3)) (some ⟨w.heap.size, 0, none⟩) [] :=
  .inr ⟨_, 0, rfl, fun j hj => absurd hj (by simp)⟩

end Go.Proofs.Ytkioejdddmnbmaa
