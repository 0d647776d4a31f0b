/- Plain: what a valid case answers where one fact more is seen, or one rule more is given. -/
import Derived.Test.YtkioejdddmnbmaaGq
import Derived.Test.YtkioejdddmnbmaaLawS
import Derived.Test.YtkioejdddmnbmaaTc
namespace Go.Proofs.Ytkioejdddmnbmaa

theorem sound_true {facts : Int} {seen : List Int} {rs : List Rl} (h : soundB facts seen rs = true) : fineB facts seen rs = true ∧ (knownR rs (bitsL seen)).2 = false := by
  unfold soundB at h
  rw [Bool.and_eq_true] at h
  exact ⟨h.1, by simpa using h.2⟩

section
variable {f : Nat} {seen seen' : List Int} {rs rs' : List Rl}

theorem Valid.il (h : Valid f seen rs) : ∀ i, i < rs.length → (nthR rs i).1.length ≤ 1000000 := fun _ hi => (rulesOk_mem h.ok.r (nthR_mem hi)).2.1
theorem Valid.cl (h : Valid f seen rs) : (knownR rs (bitsL seen)).2 = true ↔ Clsh rs (SeenP seen) := by
  rw [(knownR_end h.ok.r (bitsL seen)).cl]
  constructor
  · exact fun hd => hd.more (fun _ h => h) (fun n hn => .seen ((bitsL_test h.ok.s n).1 hn))
  · exact fun hd => hd.more (fun _ h => h) (fun n hn => .seen ((bitsL_test h.ok.s n).2 hn))
theorem Valid.nocl (h : Valid f seen rs) (hk : (knownR rs (bitsL seen)).2 = false) : ¬ Clsh rs (SeenP seen) := fun hc => by
  rw [h.cl.2 hc] at hk; cases hk
theorem Valid.some (h : Valid f seen rs) (hc : ¬ Clsh rs (SeenP seen)) : truthsN f seen rs ≠ [] := fun he => hc (h.nil.1 he)

theorem Valid.stepsD (h : Valid f seen rs) {i : Nat} (hi : i < f) (hd : Der rs (SeenP seen) i) :
    pStepsE (f : Int) seen rs i = 0 ∧ ∃ L, rcs (f : Int) seen rs (pStepsL (f : Int) seen rs i) = (L, false, 0) ∧ L.contains (i : Int) = true := by
  have he : pStepsE (f : Int) seen rs i = 0 := by
    rw [stepsE_eq h.il, h.stepsE hi, if_pos (show (derB seen rs).testBit i = true from (derB_iff h.ok i).2 hd)]
  obtain ⟨a, b, c⟩ := steps_taken h.il he
  exact ⟨he, (rcs (f : Int) seen rs (pStepsL (f : Int) seen rs i)).1, by rw [← a, ← b], c⟩
theorem Valid.stepsN (h : Valid f seen rs) {i : Nat} (hi : i < f) (hd : ¬ Der rs (SeenP seen) i) :
    pStepsE (f : Int) seen rs i = 5 ∧ pStepsL (f : Int) seen rs i = [] := by
  have he : pStepsE (f : Int) seen rs i = 5 := by
    rw [stepsE_eq h.il, h.stepsE hi, if_neg (fun q : (derB seen rs).testBit i = true => hd ((derB_iff h.ok i).1 q))]
  exact ⟨he, pSteps_nil (by rw [he]; decide)⟩
theorem Valid.clashD (h : Valid f seen rs) (hc : Clsh rs (SeenP seen)) :
    pClashE (f : Int) seen rs = 0 ∧ ∃ L, rcs (f : Int) seen rs (pClashL (f : Int) seen rs) = (L, true, 0) := by
  have he : pClashE (f : Int) seen rs = 0 := by
    rw [clashE_eq h.il, h.clashE, if_pos (h.nil.2 hc)]
  obtain ⟨a, b⟩ := clash_taken h.il he
  exact ⟨he, (rcs (f : Int) seen rs (pClashL (f : Int) seen rs)).1, by rw [← a, ← b]⟩
theorem Valid.clashN (h : Valid f seen rs) (hc : ¬ Clsh rs (SeenP seen)) :
    pClashE (f : Int) seen rs = 5 ∧ pClashL (f : Int) seen rs = [] := by
  have he : pClashE (f : Int) seen rs = 5 := by
    rw [clashE_eq h.il, h.clashE, if_neg (h.some hc)]
  exact ⟨he, pClash_nil (by rw [he]; decide)⟩
theorem Valid.leastC (h : Valid f seen rs) (hc : Clsh rs (SeenP seen)) : rLeastE (f : Int) seen rs = 24 ∧ rLeastL (f : Int) seen rs = [] :=
  ⟨by rw [h.leastE, if_pos (h.nil.2 hc)], h.leastN (h.nil.2 hc)⟩
theorem Valid.leastD (h : Valid f seen rs) (hc : ¬ Clsh rs (SeenP seen)) : rLeastE (f : Int) seen rs = 0 ∧ rLeastL (f : Int) seen rs = listedB (derB seen rs) f :=
  ⟨by rw [h.leastE, if_neg (h.some hc)], h.leastL (h.some hc)⟩
theorem Valid.verdictC (h : Valid f seen rs) {i : Nat} (hi : i < f) (hc : Clsh rs (SeenP seen)) : rVerdictE (f : Int) seen rs i = 24 ∧ rVerdictN (f : Int) seen rs i = 0 :=
  ⟨by rw [h.verdictE hi, if_pos (h.nil.2 hc)], (h.verdictN hi).1 (h.nil.2 hc)⟩
theorem Valid.verdictD (h : Valid f seen rs) {i : Nat} (hi : i < f) (hc : ¬ Clsh rs (SeenP seen)) : rVerdictE (f : Int) seen rs i = 0 := by
  rw [h.verdictE hi, if_neg (h.some hc)]
theorem Valid.least_truth (h : Valid f seen rs) (hc : ¬ Clsh rs (SeenP seen)) : truthErr (f : Int) seen rs (listedB (derB seen rs) f) = 0 := by
  rw [h.truth, if_pos]
  rw [h.truth_iff, bits_listed_self h.ok.f1 h.derB_lt]
  exact derB_truth h.ok hc
theorem Valid.least_has (h : Valid f seen rs) {i : Nat} : (listedB (derB seen rs) f).contains (i : Int) = true ↔ Der rs (SeenP seen) i := by
  rw [List.contains_iff_mem]; exact h.least_mem

/-! more -/
theorem Valid.fewer (h : Valid f seen rs) (h' : Valid f seen' rs') (hs : ∀ n, SeenP seen n → SeenP seen' n) (hr : ∀ r ∈ rs, r ∈ rs') {b : Nat} (hb : b ∈ truthsN f seen' rs') : b ∈ truthsN f seen rs := by
  obtain ⟨h1, h2, h3⟩ := (mem_truthsN h'.ok).1 hb
  exact (mem_truthsN h.ok).2 ⟨h1, fun n hn => h2 n (hs n hn), fun r hm => h3 r (hr r hm)⟩
theorem Valid.count_le (h : Valid f seen rs) (h' : Valid f seen' rs') (hs : ∀ n, SeenP seen n → SeenP seen' n) (hr : ∀ r ∈ rs, r ∈ rs') : (truthsN f seen' rs').length ≤ (truthsN f seen rs).length := by
  have : ∀ b ∈ List.range (2 ^ f), truthB seen' rs' b = true → truthB seen rs b = true := fun b hb q => by
    have : b ∈ truthsN f seen' rs' := by unfold truthsN; exact List.mem_filter.2 ⟨hb, q⟩
    have := h.fewer h' hs hr this
    unfold truthsN at this
    exact (List.mem_filter.1 this).2
  unfold truthsN
  rw [← List.countP_eq_length_filter, ← List.countP_eq_length_filter]
  exact List.countP_mono_left this
theorem Valid.truth_more (h : Valid f seen rs) (h' : Valid f seen' rs') (hs : ∀ n, SeenP seen n → SeenP seen' n) (hr : ∀ r ∈ rs, r ∈ rs') (hc : ¬ Clsh rs' (SeenP seen')) : truthErr (f : Int) seen rs (listedB (derB seen' rs') f) = 0 := by
  rw [h.truth, if_pos]
  rw [h.truth_iff, bits_listed_self h.ok.f1 h'.derB_lt]
  exact h.fewer h' hs hr (derB_truth h'.ok hc)

/-- what stays -/
theorem Valid.stays (h : Valid f seen rs) (h' : Valid f seen' rs') (hs : ∀ n, SeenP seen n → SeenP seen' n) (hr : ∀ r ∈ rs, r ∈ rs') {i : Nat} (hi : i < f) :
    (rVerdictE (f : Int) seen' rs' i = 24) ∨ (rVerdictE (f : Int) seen' rs' i = 0 ∧ rVerdictE (f : Int) seen rs i = 0 ∧ (rVerdictN (f : Int) seen rs i = 1 ∨ rVerdictN (f : Int) seen rs i = rVerdictN (f : Int) seen' rs' i)) := by
  by_cases hc : Clsh rs' (SeenP seen')
  · exact .inl (h'.verdictC hi hc).1
  · have hc0 : ¬ Clsh rs (SeenP seen) := fun q => hc (q.more hr (fun n hn => .seen (hs n hn)))
    refine .inr ⟨h'.verdictD hi hc, h.verdictD hi hc0, ?_⟩
    obtain ⟨a1, a2, a3⟩ := (h.verdictN hi).2 (h.some hc0)
    obtain ⟨b1, b2, b3⟩ := (h'.verdictN hi).2 (h'.some hc)
    by_cases hd : Der rs (SeenP seen) i
    · exact .inr (by rw [a1 hd, b1 (hd.more hr (fun n hn => .seen (hs n hn)))])
    · by_cases hq : Clsh rs (SeenQ seen i)
      · refine .inr ?_
        rw [a2 hq, b2]
        refine hq.more hr (fun n hn => .seen ?_)
        rcases hn with hn | hn
        · exact .inl (hs n hn)
        · exact .inr hn
      · exact .inl (a3 hd hq)

/-- one fact more is seen -/
def withL (f : Nat) (seen : List Int) (i : Nat) : List Int := listedB (bitsL seen ||| 2 ^ i) f
theorem Valid.more (h : Valid f seen rs) (i : Nat) : Valid f (withL f seen i) rs := h.listed _
theorem Valid.seen_with (h : Valid f seen rs) {i : Nat} (hi : i < f) (n : Nat) : SeenP (withL f seen i) n ↔ SeenQ seen i n := by
  unfold withL
  rw [seen_listed, bt_or]
  unfold SeenQ
  have e : bt (bitsL seen) n ↔ SeenP seen n := bitsL_test h.ok.s n
  rw [e]
  constructor
  · rintro ⟨_, q | q⟩
    · exact .inl q
    · exact .inr q.symm
  · rintro (q | q)
    · exact ⟨h.ok.sl n q, .inl q⟩
    · exact ⟨by omega, .inr q.symm⟩
theorem Valid.clsh_with (h : Valid f seen rs) {i : Nat} (hi : i < f) : Clsh rs (SeenP (withL f seen i)) ↔ Clsh rs (SeenQ seen i) :=
  ⟨fun q => q.more (fun _ h => h) (fun n hn => .seen ((h.seen_with hi n).1 hn)), fun q => q.more (fun _ h => h) (fun n hn => .seen ((h.seen_with hi n).2 hn))⟩
end

end Go.Proofs.Ytkioejdddmnbmaa
