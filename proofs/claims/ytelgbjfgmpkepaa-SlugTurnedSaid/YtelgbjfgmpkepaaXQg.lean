/- Plain: plans. -/
import Derived.Test.YtelgbjfgmpkepaaXIb
namespace Go.Proofs.Ytelgbjfgmpkepaa
open Go.RowKit Go.Shelf

theorem planTo_mem {n : Nat} {bs : List Nat} {m : Nat} {p : List Int} (h : p ∈ planTo n bs m) : WOk n p ∧ p.sum = 0 := by
  unfold planTo at h
  obtain ⟨i, _, rfl⟩ := List.mem_map.1 h
  exact ⟨laid_ok _ _, laid_sum _ _⟩
theorem psErr_ok {K : Kn} : ∀ {ps : List (List Int)}, (∀ p ∈ ps, WOk K.cop.length p ∧ p.sum = 0) → psErr K ps = 0
  | [], _ => rfl
  | p :: ps, h => by
    obtain ⟨hw, hs⟩ := h p (by simp)
    have e : wErr K p = 0 := by
      unfold wErr
      rw [if_pos hw.1, if_pos (within_iff.2 fun k hk => hw.2 k (by rw [← hw.1]; exact hk)), if_pos hs]
    rw [psErr, if_pos e]
    exact psErr_ok fun q hq => h q (List.mem_cons_of_mem _ hq)
theorem pErr_ok {K : Kn} (hk : Kok K) {ps : List (List Int)} (h6 : ps.length ≤ 6) (h : ∀ p ∈ ps, WOk K.cop.length p ∧ p.sum = 0) : pErr K ps = 0 := by
  unfold pErr
  rw [if_pos (kok_iff.2 hk), if_neg (by omega), psErr_ok h]
theorem sameB_iff {ps : List (List Int)} {a b : Int × Int} : sameB ps a b = true ↔ ∀ p ∈ ps, resultOf p a = resultOf p b := by
  unfold sameB codeOf
  rw [decide_eq_true_iff]
  exact List.map_inj_left
theorem alike_none_iff {ps : List (List Int)} : ∀ {L : List (Int × Int)}, alikeL ps L = none ↔ L.Pairwise (fun a b => sameB ps a b = false)
  | [] => by simp [alikeL]
  | x :: L => by
    rw [alikeL, List.pairwise_cons]
    cases hf : L.find? (sameB ps x) with
    | none =>
      have h := List.find?_eq_none.1 hf
      simp only
      rw [alike_none_iff]
      exact ⟨fun h2 => ⟨fun a ha => by simpa using h a ha, h2⟩, fun h2 => h2.2⟩
    | some y =>
      have h1 := List.mem_of_find?_eq_some hf
      have h2 := List.find?_some hf
      simp only
      exact ⟨fun e => (by cases e), fun e => absurd h2 (by rw [e.1 y h1]; simp)⟩
theorem placeFrom_lo : ∀ {L : List (Int × Int)} {i : Nat} {c : Int × Int}, c ∈ L → (i : Int) ≤ placeFrom i L c
  | [], _, _, h => by cases h
  | x :: L, i, c, h => by
    rw [placeFrom]
    by_cases e : x.1 = c.1 ∧ x.2 = c.2
    · rw [if_pos e]; exact Int.le_refl _
    · rw [if_neg e]
      have := placeFrom_lo (i := i + 1) ((List.mem_cons.1 h).resolve_left (fun h2 => e (by rw [h2]; exact ⟨rfl, rfl⟩)))
      omega
/-- two cases that a plan does not tell lie in this order -/
theorem alike_some {ps : List (List Int)} : ∀ {L : List (Int × Int)} {a b : Int × Int} {i : Nat}, L.Nodup → alikeL ps L = some (a, b) → a ∈ L ∧ b ∈ L ∧ 0 ≤ placeFrom i L a ∧ placeFrom i L a < placeFrom i L b ∧ sameB ps a b = true
  | [], _, _, _, _, h => by simp [alikeL] at h
  | x :: L, a, b, i, hn, h => by
    rw [List.nodup_cons] at hn
    rw [alikeL] at h
    cases hf : L.find? (sameB ps x) with
    | none =>
      rw [hf] at h
      simp only at h
      obtain ⟨h1, h2, h3, h4, h5⟩ := alike_some (i := i + 1) hn.2 h
      have na : ¬ (x.1 = a.1 ∧ x.2 = a.2) := fun e => hn.1 (by rw [show x = a from Prod.ext e.1 e.2]; exact h1)
      have nb : ¬ (x.1 = b.1 ∧ x.2 = b.2) := fun e => hn.1 (by rw [show x = b from Prod.ext e.1 e.2]; exact h2)
      rw [placeFrom, if_neg na, placeFrom, if_neg nb]
      exact ⟨List.mem_cons_of_mem _ h1, List.mem_cons_of_mem _ h2, h3, h4, h5⟩
    | some y =>
      rw [hf] at h
      simp only [Option.some.injEq, Prod.mk.injEq] at h
      obtain ⟨rfl, rfl⟩ := h
      have h1 := List.mem_of_find?_eq_some hf
      have h2 := List.find?_some hf
      have nb : ¬ (x.1 = y.1 ∧ x.2 = y.2) := fun e => hn.1 (by rw [show x = y from Prod.ext e.1 e.2]; exact h1)
      have hp : ((i + 1 : Nat) : Int) ≤ placeFrom (i + 1) L y := placeFrom_lo h1
      rw [placeFrom, if_pos ⟨rfl, rfl⟩, placeFrom, if_neg nb]
      exact ⟨List.mem_cons_self .., List.mem_cons_of_mem _ h1, by omega, by omega, h2⟩
/-- a plan that tells all cases is enough -/
theorem tells_can : ∀ {ps : List (List Int)} {K : Kn}, Kok K → (∀ p ∈ ps, WOk K.cop.length p ∧ p.sum = 0) → alikeL ps (casesOf K) = none → Can ps.length (cntOf K)
  | [], K, hk, _, h => by
    have hp := cases_pos hk
    rw [alike_none_iff] at h
    show (cntOf K).cases = 1
    rw [cntOf_cases]
    match hL : casesOf K with
    | [] => rw [hL] at hp; simp at hp
    | [_] => rfl
    | x :: y :: L =>
      rw [hL, List.pairwise_cons] at h
      have := h.1 y (by simp)
      simp [sameB, codeOf] at this
  | p :: ps, K, hk, hw, h => by
    obtain ⟨h1, h2⟩ := hw p (by simp)
    refine canK_intro hk h1 h2 fun r hr => ?_
    by_cases h0 : (cntOf (krK K p r)).cases = 0
    · exact .inl h0
    · refine .inr (tells_can (kr_ok hk h0) (fun q hq => by rw [krK_len]; exact hw q (List.mem_cons_of_mem _ hq)) ?_)
      rw [alike_none_iff] at h ⊢
      rw [cases_kr]
      unfold withL
      rw [List.pairwise_filter]
      refine h.imp fun {a b} hab ha hb => ?_
      cases hs : sameB ps a b with
      | false => rfl
      | true =>
        have : sameB (p :: ps) a b = true := by
          rw [sameB_iff] at hs ⊢
          intro q hq
          rcases List.mem_cons.1 hq with rfl | hq
          · rw [of_decide_eq_true ha, of_decide_eq_true hb]
          · exact hs q hq
        rw [this] at hab; cases hab
theorem boundN_le {n m : Nat} (h0 : 0 < n) (h : n ≤ 27) (hm : n ≤ 3 ^ m) : boundN n ≤ m := by
  have h3 : boundN n ≤ 3 := by unfold boundN; split <;> (try split) <;> (try split) <;> omega
  rcases Nat.lt_or_ge m 3 with h4 | h4
  · have h2 : ∀ m, m < 3 → ∀ n, n < 28 → n ≤ 3 ^ m → boundN n ≤ m := by decide
    exact h2 m h4 n (by omega) hm
  · omega
/-- what a plan says -/
theorem either_law {K : Kn} (hk : Kok K) (bs : List Nat) {m : Nat} (h6 : m ≤ 6) :
    knErr K = 0 ∧ (neErr K = 0 ∨ neErr K = 21) ∧ (neErr K = 0 → bdVal K ≤ neVal K) ∧
    ((alO K (planTo K.cop.length bs m) = none ∧ cpErr K (planTo K.cop.length bs m) = 0 ∧ alErr K (planTo K.cop.length bs m) = 5 ∧ bdVal K ≤ (m : Int) ∧ neErr K = 0 ∧ neVal K ≤ (m : Int)) ∨
     (∃ a b, alO K (planTo K.cop.length bs m) = some (a, b) ∧ cpErr K (planTo K.cop.length bs m) = 21 ∧ alErr K (planTo K.cop.length bs m) = 0 ∧ 0 ≤ place (casesOf K) a ∧ place (casesOf K) a < place (casesOf K) b ∧ sameB (planTo K.cop.length bs m) a b = true ∧ CaseOk K.cop.length a ∧ CaseOk K.cop.length b)) := by
  have hkn := kok_iff.2 hk
  have hp := pErr_ok hk (ps := planTo K.cop.length bs m) (by rw [planTo_len]; exact h6) fun p hp => planTo_mem hp
  have hbd : bdVal K = ((boundN (casesOf K).length : Nat) : Int) := by unfold bdVal; rw [if_pos hkn]
  have hpos := cases_pos hk
  have hlen := casesOf_len K
  have hn12 := hk.n12
  have hne := ne_of hk
  have hb : nd 1000 (cntOf K) < 1000 → boundN (casesOf K).length ≤ nd 1000 (cntOf K) := fun h => by
    have := (can_of_nd hk h).bound
    rw [cntOf_cases] at this
    exact boundN_le hpos (by omega) this
  refine ⟨hkn, by omega, fun h => by rw [hbd]; have := hb (by omega); omega, ?_⟩
  unfold cpErr alErr
  rw [if_pos hp, if_pos hp]
  cases ho : alO K (planTo K.cop.length bs m) with
  | none =>
    left
    unfold alO at ho
    rw [if_pos hp] at ho
    have hc := tells_can hk (fun p hp => planTo_mem hp) ho
    rw [planTo_len] at hc
    have h1 := (can_nd 1000 hc).1
    have := hb (by omega)
    refine ⟨rfl, rfl, rfl, by rw [hbd]; omega, by omega, by omega⟩
  | some ab =>
    right
    obtain ⟨a, b⟩ := ab
    unfold alO at ho
    rw [if_pos hp] at ho
    obtain ⟨h1, h2, h3, h4, h5⟩ := alike_some (i := 0) (casesOf_nodup K) ho
    exact ⟨a, b, rfl, rfl, rfl, h3, h4, h5, casesOf_ok hk.cop a h1, casesOf_ok hk.cop b h2⟩

end Go.Proofs.Ytelgbjfgmpkepaa
