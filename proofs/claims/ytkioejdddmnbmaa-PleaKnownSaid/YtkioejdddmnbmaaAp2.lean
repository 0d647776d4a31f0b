/- Appends onto a list of the call's own: of a list; at a step of a region that draws its order. (Turned from the drum seat's Lb, Ld.) -/
import Derived.Test.YtkioejdddmnbmaaApf
import Derived.Laws.OwnMore
import Derived.Deep.RegionHeld3
import Derived.Deep.DeepCutAuto
import Derived.BigRegion
import Derived.Deep.RegionWith
import Derived.StillTailTactics
namespace Go.Proofs.Ytkioejdddmnbmaa
open Go.RowKit Go.Shelf

/-- the run of an append of a list onto a slice of the call's own -/
theorem run_app_many (ty : TypeId) (w : World) (B : Nat) (ao : Option Addr) (n cap : Nat) (xs : List Int) (hown : OwnI B w ao n cap xs)
    (ax : Option Addr) (m cx : Nat) (ys : List Int) (hy : IntsAt w ax ys) (hm : ys.length = m) (hnil : ax = none → m = 0 ∧ cx = 0) (hb : n + m ≤ 1000000) (hB : B ≤ w.heap.size) :
    ∃ ao' cap' w', (Builtin.append_ #[22, 22] ty #[.slice ao n cap, .slice ax m cx]).run Try.prog w = .ok (.slice ao' (n + m) cap') w' ∧
      Below B w w' ∧ OwnI B w' ao' (n + m) cap' (xs ++ ys) ∧ w.grownBy w' (Value.ownBlock (.slice ao n cap)) ∧ (ao ≠ none → ao' ≠ none) := by
  obtain ⟨i, hi, hz, hs, hby⟩ := info_parts info3
  cases ax with
  | none =>
    obtain ⟨rfl, rfl⟩ := hnil rfl
    obtain rfl : ys = [] := List.eq_nil_of_length_eq_zero hm
    refine ⟨ao, cap, w, ?_, Below.refl _ _, by rw [List.append_nil]; exact hown, ⟨rfl, rfl, rfl, Nat.le_refl _, fun _ _ _ => rfl⟩, fun h => h⟩
    exact run_append_owned_none (P := Try.prog) w B 22 ty 3 i 1 Try.underlying22 hi (.slice ao n cap) n (intv xs) hown.2
  | some ad =>
    by_cases h0 : ys.length = 0
    · obtain rfl : ys = [] := List.eq_nil_of_length_eq_zero h0
      simp at hm
      subst hm
      obtain ⟨v', w', hrun, r1, r2, r3⟩ := run_append_own (P := Try.prog) w B 22 ty 3 i (.int .i64 0) 1 8 Try.underlying22 hi hz hs hby rfl (by decide) (.slice ao n cap) n (intv xs) hown.2 ad 0 cx [] rfl (by intro j u h; simp at h)
        (by intro u hu; cases hu) (by unfold maxLen; omega) (by omega) hB
      rcases r1 with ⟨hl, (⟨rfl, h0⟩ | ⟨g, c, cur, rfl, hge, hh, hr⟩)⟩
      · have hv : Value.slice ao n cap = .slice none 0 0 := (r3.1 rfl).1
        cases hv
        exact ⟨none, 0, w', hrun, (Below.refl B w).grown r2 hB (fun k e => (hown.2.lt k e).1), ⟨by simp [hown.1], by rw [intv_append]; exact ⟨hl, .inl ⟨rfl, h0⟩⟩⟩, r2, fun h => h⟩
      · refine ⟨some ⟨g, 0, none⟩, c, w', hrun, (Below.refl B w).grown r2 hB (fun k e => (hown.2.lt k e).1), ⟨by simp [hown.1], ?_⟩, r2, fun _ h => by cases h⟩
        rw [intv_append]
        exact ⟨hl, .inr ⟨g, c, cur, rfl, hge, hh, hr⟩⟩
    · obtain ⟨b, off, e, _⟩ := hy.at (k := 0) (by omega)
      cases e
      obtain ⟨v', w', hrun, r1, r2, _⟩ := run_append_own (P := Try.prog) w B 22 ty 3 i (.int .i64 0) 1 8 Try.underlying22 hi hz hs hby rfl (by decide) (.slice ao n cap) n (intv xs) hown.2 ⟨b, off, none⟩ m cx (intv ys) (by rw [intv_length, hm, Nat.mul_one])
        (fun j u hj => by
          rw [intv_get] at hj
          split at hj
          · rename_i hlt
            simp at hj; subst hj
            rw [Addr.add_lit]; exact hy.cell hlt
          · simp at hj)
        (intv_one _) (by unfold maxLen; omega) (by omega) hB
      rcases r1 with ⟨hl, (⟨rfl, h0⟩ | ⟨g, c, cur, rfl, hge, hh, hr⟩)⟩
      · omega
      · refine ⟨some ⟨g, 0, none⟩, c, w', hrun, (Below.refl B w).grown r2 hB (fun k e => (hown.2.lt k e).1), ⟨by rw [List.length_append, hown.1, hm], ?_⟩, r2, fun _ h => by cases h⟩
        rw [intv_append]
        exact ⟨hl, .inr ⟨g, c, cur, rfl, hge, hh, hr⟩⟩

theorem wpList_app_many {ops : Array Oper} {rest : List Oper} {o : Oper} {a : Act} {Q : Exit → Act → World → Prop} (w : World) (hg : o.guard = none) (s x : Operand)
    (hop : o.op = Op.call { callee := Callee.builtin Builtin.append, args := #[s, x], argTypes := #[22, 22] })
    (B : Nat) (ao : Option Addr) (n cap : Nat) (xs : List Int) (hs : a.eval s = .slice ao n cap) (hown : OwnI B w ao n cap xs)
    (ax : Option Addr) (m cx : Nat) (ys : List Int) (hx : a.eval x = .slice ax m cx) (hy : IntsAt w ax ys) (hm : ys.length = m) (hnil : ax = none → m = 0 ∧ cx = 0) (hb : n + m ≤ 1000000) (hB : B ≤ w.heap.size)
    (hK : ∀ ao' cap' w', Below B w w' → OwnI B w' ao' (n + m) cap' (xs ++ ys) → w.grownBy w' (Value.ownBlock (.slice ao n cap)) → (ao ≠ none → ao' ≠ none) →
      wpList Try.prog ops Q rest (a.put o.dst (.slice ao' (n + m) cap')) w') :
    wpList Try.prog ops Q (o :: rest) a w := by
  refine wpList_plain hg fun K hK' => ?_
  obtain ⟨ao', cap', w', hrun, h1, h2, h3, h4⟩ := run_app_many o.type w B ao n cap xs hown ax m cx ys hy hm hnil hb hB
  unfold Oper.wp
  simp [execOp, hop, resolve, invoke, builtin, hs, hx, hrun, Result.andThen]
  exact hK' _ _ (hK ao' cap' w' h1 h2 h3 h4)



/-- an append onto a list of the call's own, at a step of a region that draws its order -/
theorem step_app_own {ops : Array Oper} {o : Oper} {a : Act} {K : Act → World → Prop} {Q : Exit → Act → World → Prop} {E : Prop} (w : World) (hgd : o.guard = none) (s x : Operand)
    (hop : o.op = Op.call { callee := Callee.builtin Builtin.append, args := #[s, x], argTypes := #[22, 22] })
    (B : Nat) (ao : Option Addr) (n cap : Nat) (xs : List Int) (hs : a.eval s = .slice ao n cap) (hown : OwnI B w ao n cap xs)
    (ad : Addr) (u : Int) (hx : a.eval x = .slice (some ad) 1 1) (hu : w.cell? ad = some (.int .i64 u)) (hb : n ≤ 1000000) (hB : B ≤ w.heap.size)
    (hK : ∀ b' cap' w', Below B w w' → B ≤ b' → OwnI B w' (some ⟨b', 0, none⟩) (n + 1) cap' (xs ++ [u]) → w.grownBy w' (Value.ownBlock (.slice ao n cap)) →
      K (a.put o.dst (.slice (some ⟨b', 0, none⟩) (n + 1) cap')) w') :
    if Region.wanted o (yielded ops a.tmps) = true then Oper.wp Try.prog o a w K Q else E := by
  have hw : Region.wanted o (yielded ops a.tmps) = true := by simp [Region.wanted, hgd]
  rw [if_pos hw]
  obtain ⟨b', cap', w', hrun, h1, h2, h3, h4⟩ := run_app_own o.type w B ao n cap xs hown ad u hu hb hB
  unfold Oper.wp
  simp [execOp, hop, resolve, invoke, builtin, hs, hx, hrun, Result.andThen, Oper.upon]
  exact hK b' cap' w' h1 h2 h3 h4

theorem step_app_many {ops : Array Oper} {o : Oper} {a : Act} {K : Act → World → Prop} {Q : Exit → Act → World → Prop} {E : Prop} (w : World) (hgd : o.guard = none) (s x : Operand)
    (hop : o.op = Op.call { callee := Callee.builtin Builtin.append, args := #[s, x], argTypes := #[22, 22] })
    (B : Nat) (ao : Option Addr) (n cap : Nat) (xs : List Int) (hs : a.eval s = .slice ao n cap) (hown : OwnI B w ao n cap xs)
    (ax : Option Addr) (m cx : Nat) (ys : List Int) (hx : a.eval x = .slice ax m cx) (hy : IntsAt w ax ys) (hm : ys.length = m) (hnil : ax = none → m = 0 ∧ cx = 0) (hb : n + m ≤ 1000000) (hB : B ≤ w.heap.size)
    (hK : ∀ ao' cap' w', Below B w w' → OwnI B w' ao' (n + m) cap' (xs ++ ys) → w.grownBy w' (Value.ownBlock (.slice ao n cap)) → (ao ≠ none → ao' ≠ none) →
      K (a.put o.dst (.slice ao' (n + m) cap')) w') :
    if Region.wanted o (yielded ops a.tmps) = true then Oper.wp Try.prog o a w K Q else E := by
  have hw : Region.wanted o (yielded ops a.tmps) = true := by simp [Region.wanted, hgd]
  rw [if_pos hw]
  obtain ⟨ao', cap', w', hrun, h1, h2, h3, h4⟩ := run_app_many o.type w B ao n cap xs hown ax m cx ys hy hm hnil hb hB
  unfold Oper.wp
  simp [execOp, hop, resolve, invoke, builtin, hs, hx, hrun, Result.andThen, Oper.upon]
  exact hK ao' cap' w' h1 h2 h3 h4

/-- an append of a list onto an empty one, at a step of a region that draws its order -/
theorem step_app_new {ops : Array Oper} {o : Oper} {a : Act} {K : Act → World → Prop} {Q : Exit → Act → World → Prop} {E : Prop} (w : World) (hgd : o.guard = none) (s x : Operand)
    (hop : o.op = Op.call { callee := Callee.builtin Builtin.append, args := #[s, x], argTypes := #[22, 22] })
    (B : Nat) (ao : Option Addr) (cap : Nat) (hs : a.eval s = .slice ao 0 cap) (hown : OwnI B w ao 0 cap [])
    (ax : Option Addr) (m cx : Nat) (ys : List Int) (hx : a.eval x = .slice ax m cx) (hy : IntsAt w ax ys) (hm : ys.length = m) (hnil : ax = none → m = 0 ∧ cx = 0) (hb : m ≤ 1000000) (hB : B ≤ w.heap.size)
    (hK : ∀ ao' cap' w', Below B w w' → OwnI B w' ao' m cap' ys → B ≤ w'.heap.size → w.grownBy w' (Value.ownBlock (.slice ao 0 cap)) → K (a.put o.dst (.slice ao' m cap')) w') :
    if Region.wanted o (yielded ops a.tmps) = true then Oper.wp Try.prog o a w K Q else E :=
  step_app_many w hgd s x hop B ao 0 cap [] hs hown ax m cx ys hx hy hm hnil (by omega) hB (fun ao' cap' w' h1 h2 h4 _ => by
    rw [Nat.zero_add] at h2 ⊢
    exact hK ao' cap' w' h1 h2 (Nat.le_trans hB h1.size) h4)

theorem grown_cell {w w' : World} {row : Option Nat} (h : w.grownBy w' row) {b : Nat} {v : Value} {t : TypeId} (hb : w.heap[b]? = some (.cells #[v] t (0, 0))) (hne : row ≠ some b) : w'.cell? ⟨b, 0, none⟩ = some v := by
  have h1 := (h.block b (Array.getElem?_eq_some_iff.1 hb).1 (fun e => hne e.symm)).trans hb
  rw [cell_of_row _ _ _ _ _ _ h1]; rfl

/-- a list of the call's own, nil where it is empty, perhaps -/
def OwnP (w : World) (xs : List Int) (e : Ending) (w' : World) : Prop := ∃ ao cap, e = .returned (.slice ao xs.length cap) ∧ IntsAt w' ao xs ∧ (ao = none → cap = 0) ∧ Below w.heap.size w w'


end Go.Proofs.Ytkioejdddmnbmaa
