/- Plain: one more good copper; one case less. -/
import Derived.Test.YtelgbjfgmpkepaaXQh
namespace Go.Proofs.Ytelgbjfgmpkepaa
open Go.RowKit Go.Shelf

/-- one more good copper -/
def moreK (K : Kn) : Kn := ⟨K.cop ++ [0], K.none⟩
theorem moreK_len (K : Kn) : (moreK K).cop.length = K.cop.length + 1 := by simp [moreK]
theorem moreK_cnt (K : Kn) : cntOf (moreK K) = ⟨(cntOf K).g + 1, (cntOf K).l, (cntOf K).h, (cntOf K).b, (cntOf K).z⟩ := by
  unfold cntOf moreK
  simp only [List.count_append]
  refine cnt_eq5 ?_ ?_ ?_ ?_ rfl <;> simp
theorem moreK_ok {K : Kn} (hk : Kok K) (h11 : K.cop.length < 12) : Kok (moreK K) := by
  have hlt : ∀ k, k < K.cop.length → nth (moreK K).cop k = nth K.cop k := fun k h => nth_append_left h
  refine ⟨by rw [moreK_len]; omega, by rw [moreK_len]; omega, fun k h => ?_, ?_⟩
  · rw [moreK_len] at h
    by_cases h1 : k < K.cop.length
    · rw [hlt k h1]; exact hk.cop k h1
    · obtain rfl : k = K.cop.length + 0 := by omega
      have : nth (moreK K).cop (K.cop.length + 0) = nth [0] 0 := nth_append_right K.cop [0] 0
      rw [this]; decide
  · rcases hk.some with h | ⟨k, h1, h2⟩
    · exact .inl h
    · exact .inr ⟨k, by rw [moreK_len]; omega, by rw [hlt k h1]; exact h2⟩
/-- it needs no more -/
theorem more_good {K : Kn} (hk : Kok K) (h11 : K.cop.length < 12) (hn : neErr K = 0) : neErr (moreK K) = 0 ∧ neVal (moreK K) ≤ neVal K := by
  rcases ne_of hk with ⟨_, h, _⟩ | ⟨h1, _, h3⟩
  · rw [h] at hn; cases hn
  · have hc := can_good (can_of_nd hk h1)
    rw [← moreK_cnt] at hc
    have h4 := (can_nd 1000 hc).1
    rcases ne_of (moreK_ok hk h11) with ⟨h5, _, _⟩ | ⟨_, h6, h7⟩
    · omega
    · exact ⟨h6, by omega⟩
/-- the cases that are left -/
theorem left_mem {n : Nat} {M : List (Int × Int)} {c : Int × Int} (h : c ∈ casesOf (leftK n M)) : c ∈ M := by
  obtain ⟨x, y⟩ := c
  have hok := casesOf_ok (K := leftK n M) (fun k hk => by rw [leftK_len] at hk; rw [leftK_nth hk]; exact bitAt_range _ _) _ h
  rcases hok with ⟨h1, h2⟩ | ⟨⟨h1, h2⟩, h3⟩
  · simp only at h1 h2
    subst h1 h2
    have := mem_casesNone.1 h
    unfold leftK at this
    simpa using this
  · simp only at h1 h2 h3
    obtain ⟨i, rfl⟩ : ∃ i : Nat, x = (i : Int) := ⟨x.toNat, by omega⟩
    rw [leftK_len] at h2
    have := ((mem_cases h3).1 h).2
    rw [leftK_nth (by omega)] at this
    unfold bitAt hasKind at this
    rcases h3 with rfl | rfl
    · by_cases e : ((i : Int), (1 : Int)) ∈ M
      · exact e
      · rw [if_neg e] at this
        split at this <;> simp at this
    · by_cases e : ((i : Int), (2 : Int)) ∈ M
      · exact e
      · rw [if_neg e] at this
        split at this <;> simp at this
/-- all cases but one -/
def lessL (L : List (Int × Int)) (i : Nat) : List (Int × Int) := L.take i ++ L.drop (i + 1)
theorem lessL_sub (L : List (Int × Int)) (i : Nat) : (lessL L i).Sublist L := by
  have h : (L.take i ++ L.drop i) = L := List.take_append_drop i L
  have h2 : (L.drop (i + 1)).Sublist (L.drop i) := by
    rw [← List.drop_drop (i := 1)]
    exact List.drop_sublist _ _
  have := List.Sublist.append (List.Sublist.refl (L.take i)) h2
  rw [h] at this
  exact this
theorem lessL_len {L : List (Int × Int)} {i : Nat} (h : i < L.length) : (lessL L i).length = L.length - 1 := by
  unfold lessL
  rw [List.length_append, List.length_take, List.length_drop]
  omega
theorem less_law {K : Kn} {i : Nat} (hk : Kok K) (hi : i < (casesOf K).length) (h2 : (casesOf K).length ≠ 1) (hn : neErr K = 0) :
    (lessL (casesOf K) i).Nodup ∧ (∀ c ∈ lessL (casesOf K) i, CaseOk K.cop.length c) ∧ neErr (leftK K.cop.length (lessL (casesOf K) i)) = 0 ∧ neVal (leftK K.cop.length (lessL (casesOf K) i)) ≤ neVal K := by
  have hs := lessL_sub (casesOf K) i
  have hl := lessL_len hi
  have hc : ∀ c ∈ lessL (casesOf K) i, CaseOk K.cop.length c := fun c h => casesOf_ok hk.cop c (hs.subset h)
  have hokC : Kok (leftK K.cop.length (lessL (casesOf K) i)) := kok_iff.1 ((knErr_left hk.n1 hk.n12 hc).2 (by omega))
  refine ⟨(casesOf_nodup K).sublist hs, hc, ?_⟩
  rcases ne_of hk with ⟨_, h, _⟩ | ⟨h1, _, h3⟩
  · rw [h] at hn; cases hn
  · have := SubK.nd hokC hk ⟨leftK_len _ _, fun c h => hs.subset (left_mem h)⟩ h1
    rcases ne_of hokC with ⟨h5, _, _⟩ | ⟨_, h6, h7⟩
    · omega
    · exact ⟨h6, by omega⟩
/-- where one case is left, none is needed -/
theorem one_none {K : Kn} (hk : Kok K) (h1 : (casesOf K).length = 1) : neVal K = 0 := by
  have h0 : nd 1000 (cntOf K) = 0 := nd_one 1000 (by rw [cntOf_cases]; exact h1)
  rcases ne_of hk with ⟨h, _, _⟩ | ⟨_, _, h⟩
  · omega
  · rw [h, h0]; rfl

end Go.Proofs.Ytelgbjfgmpkepaa
