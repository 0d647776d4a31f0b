/- Plain: what is learned of results. -/
import Derived.Test.YtelgbjfgmpkepaaXQg
import Derived.Test.YtelgbjfgmpkepaaXQf
namespace Go.Proofs.Ytelgbjfgmpkepaa
open Go.RowKit Go.Shelf

theorem plan_two (n : Nat) (bs : List Nat) : ∃ p q, planTo n bs 2 = [p, q] ∧ WOk n p ∧ p.sum = 0 ∧ WOk n q ∧ q.sum = 0 :=
  ⟨_, _, rfl, laid_ok _ _, laid_sum _ _, laid_ok _ _, laid_sum _ _⟩
/-- what is learned of one weighing -/
theorem ln_of {C : Kn} {ws : List Int} {r : Int} (hk : Kok C) (hw : WOk C.cop.length ws) (hs : ws.sum = 0) (hr : -1 ≤ r ∧ r ≤ 1) :
    (withL C ws r = [] ∧ lnErr C ws r = 21 ∧ lnVal C ws r = ⟨[], false⟩) ∨
    (lnErr C ws r = 0 ∧ lnVal C ws r = krK C ws r ∧ Kok (krK C ws r) ∧ (krK C ws r).cop.length = C.cop.length ∧ casesOf (krK C ws r) = withL C ws r) := by
  have hkw := kw_of hk hw hs
  unfold lnVal lnErr
  rw [if_pos hkw, if_pos (within_one.2 hr)]
  by_cases h0 : (withL C ws r).length = 0
  · left
    rw [if_pos h0, if_neg (by omega)]
    exact ⟨List.eq_nil_of_length_eq_zero h0, rfl, rfl⟩
  · right
    rw [if_neg h0, if_pos rfl]
    exact ⟨rfl, rfl, kr_ok hk (by rw [krK_cases]; exact h0), krK_len _ _ _, cases_kr _ _ _⟩
/-- what two weighings tell -/
theorem td_of {K : Kn} {p q : List Int} {r s : Int} (hk : Kok K) (hp : WOk K.cop.length p ∧ p.sum = 0) (hq : WOk K.cop.length q ∧ q.sum = 0) (hr : -1 ≤ r ∧ r ≤ 1) (hs : -1 ≤ s ∧ s ≤ 1) :
    (withL (krK K p r) q s = [] → tdErr K [p, q] [r, s] = 21 ∧ tdVal K [p, q] [r, s] = []) ∧
    (withL (krK K p r) q s ≠ [] → tdErr K [p, q] [r, s] = 0 ∧ tdVal K [p, q] [r, s] = withL (krK K p r) q s) := by
  have he := pErr_ok hk (ps := [p, q]) (by simp) (fun x hx => by
    rcases List.mem_cons.1 hx with rfl | hx
    · exact hp
    · rw [List.mem_singleton] at hx; subst hx; exact hq)
  have ht : toldL K [p, q] [r, s] = withL (krK K p r) q s := by
    unfold toldL
    rw [show withL (krK K p r) q s = (casesOf (krK K p r)).filter fun c => decide (resultOf q c = s) from rfl, cases_kr]
    unfold withL
    rw [List.filter_filter]
    refine List.filter_congr fun c _ => ?_
    unfold codeOf
    simp only [List.map_cons, List.map_nil, List.cons.injEq, and_true]
    by_cases h1 : resultOf p c = r
    · by_cases h2 : resultOf q c = s
      · simp [h1, h2]
      · simp [h1, h2, Ne.symm h2]
    · simp [h1, Ne.symm h1]
  have hw : within (-1) 1 [r, s] = true := within_iff.2 fun k hk => by
    match k, hk with
    | 0, _ => exact hr
    | 1, _ => exact hs
  have e1 : tdErr K [p, q] [r, s] = if (withL (krK K p r) q s).length = 0 then 21 else 0 := by
    unfold tdErr
    rw [if_pos he, if_pos (by rfl), if_pos hw, ht]
  unfold tdVal
  rw [e1, ht]
  constructor
  · intro h; rw [h]; exact ⟨rfl, rfl⟩
  · intro h
    have h0 : ¬ (withL (krK K p r) q s).length = 0 := fun e => h (List.eq_nil_of_length_eq_zero e)
    rw [if_neg h0, if_pos rfl]
    exact ⟨rfl, rfl⟩
/-- how many cases have one of the first results -/
def manyTo (K : Kn) (p : List Int) : Nat → Nat
  | 0 => 0
  | i + 1 => manyTo K p i + (withL K p ((i : Int) - 1)).length
theorem many_le (K : Kn) (p : List Int) : ∀ i, manyTo K p i ≤ i * (casesOf K).length
  | 0 => by simp [manyTo]
  | i + 1 => by
    have := many_le K p i
    have := withL_le (ws := p) K ((i : Int) - 1)
    simp only [manyTo, Nat.succ_mul]
    omega
theorem many_all {K : Kn} {p : List Int} (hk : Kok K) (hw : WOk K.cop.length p) : manyTo K p 3 = (casesOf K).length := by
  have key : ∀ L : List (Int × Int), (∀ c ∈ L, CaseOk K.cop.length c) → (L.filter fun c => decide (resultOf p c = ((0 : Nat) : Int) - 1)).length + (L.filter fun c => decide (resultOf p c = ((1 : Nat) : Int) - 1)).length + (L.filter fun c => decide (resultOf p c = ((2 : Nat) : Int) - 1)).length = L.length := by
    intro L
    induction L with
    | nil => intro _; rfl
    | cons c L ih =>
      intro h
      have := ih fun x hx => h x (List.mem_cons_of_mem _ hx)
      have hr := resultOf_range hw (h c (List.mem_cons_self ..))
      obtain ⟨v, hv⟩ : ∃ v, v = resultOf p c := ⟨_, rfl⟩
      rw [← hv] at hr
      simp only [List.filter_cons, ← hv]
      rcases three_of hr with rfl | rfl | rfl <;> simp at this ⊢ <;> omega
  have := key (casesOf K) (casesOf_ok hk.cop)
  simp only [manyTo]
  unfold withL
  omega
/-- a case that was learned: its result, and its place -/
theorem learned_case {K : Kn} {p : List Int} {r : Int} {c : Int × Int} (hk : Kok K) (hw : WOk K.cop.length p) (hs : p.sum = 0) (hc : c ∈ withL K p r) : resErr K p c = 0 ∧ resVal K p c = r ∧ 0 ≤ place (casesOf K) c := by
  obtain ⟨h1, h2⟩ := mem_withL.1 hc
  have hp : 0 ≤ place (casesOf K) c := place_of_mem h1
  have e : resErr K p c = 0 := by unfold resErr; rw [if_pos (kw_of hk hw hs), if_pos hp]
  exact ⟨e, by unfold resVal; rw [if_pos e]; exact h2, hp⟩

end Go.Proofs.Ytelgbjfgmpkepaa
