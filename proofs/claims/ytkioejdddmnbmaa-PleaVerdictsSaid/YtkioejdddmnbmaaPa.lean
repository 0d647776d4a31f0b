/- Plain: the program's answers on verdicts are the reference's. -/
import Derived.Test.YtkioejdddmnbmaaSg
import Derived.Test.YtkioejdddmnbmaaSd
namespace Go.Proofs.Ytkioejdddmnbmaa

theorem rising_lt {facts : Int} {l : List Int} (h : rising facts l = true) : ∀ k, k < l.length → 0 ≤ nth l k ∧ nth l k ≤ facts - 1 := by
  intro k
  induction k with
  | zero =>
    intro hk
    have := List.all_eq_true.1 h 0 (List.mem_range.2 hk)
    have h2 := within_one.1 this
    exact h2
  | succ k ih =>
    intro hk
    have h1 := ih (by omega)
    have := List.all_eq_true.1 h (k + 1) (List.mem_range.2 hk)
    have h2 := within_one.1 this
    have h3 : nextAt l (k + 1) = nth l k + 1 := by unfold nextAt; rw [if_neg (by omega)]; rfl
    rw [h3] at h2
    omega

/-- a case whose facts lie below f -/
structure CaseOk (f : Nat) (seen : List Int) (rs : List Rl) : Prop where
  f1 : f ≤ 12
  s : factsOk seen
  r : rulesOk rs
  sl : ∀ n, SeenP seen n → n < f
  rl : ∀ r ∈ rs, r.2 < f

theorem caseOk {facts : Int} {seen : List Int} {rs : List Rl} (h : caseErr facts seen rs = 0) (hl : ∀ i, i < rs.length → (nthR rs i).1.length ≤ 1000000) : CaseOk facts.toNat seen rs := by
  obtain ⟨⟨f0, f1⟩, _, hris, ha⟩ := case_zero h
  refine ⟨by omega, rising_facts f1 hris, case_rules h hl, fun n hn => ?_, fun r hr => ?_⟩
  · obtain ⟨k, hk, he⟩ := nth_mem_iff.1 hn
    have := rising_lt hris k hk
    omega
  · have := List.all_eq_true.1 ha _ hr
    unfold ruleOk at this
    rw [Bool.and_eq_true] at this
    have h2 := within_one.1 this.2
    omega

section
variable {f : Nat} {seen : List Int} {rs : List Rl}
theorem CaseOk.der_lt (h : CaseOk f seen rs) {n : Nat} (hd : Der rs (SeenP seen) n) : n < f := by
  cases hd with
  | seen hs => exact h.sl n hs
  | rule hr h0 _ => have := h.rl _ hr; omega

theorem mem_truthsN (h : CaseOk f seen rs) {b : Nat} : b ∈ truthsN f seen rs ↔ b < 2 ^ f ∧ (∀ n, SeenP seen n → bt b n) ∧ Closed rs (bt b) := by
  unfold truthsN
  rw [List.mem_filter, List.mem_range, truthB_iff h.s h.r]

/-- what follows, as bits -/
def derB (seen : List Int) (rs : List Rl) : Nat := (knownR rs (bitsL seen)).1
theorem derB_iff (h : CaseOk f seen rs) (n : Nat) : bt (derB seen rs) n ↔ Der rs (SeenP seen) n := by
  unfold derB
  rw [(knownR_end h.r (bitsL seen)).full n]
  constructor
  · exact fun hd => hd.more (fun _ h => h) (fun n hn => .seen ((bitsL_test h.s n).1 hn))
  · exact fun hd => hd.more (fun _ h => h) (fun n hn => .seen ((bitsL_test h.s n).2 hn))
theorem derB_truth (h : CaseOk f seen rs) (hc : ¬ Clsh rs (SeenP seen)) : derB seen rs ∈ truthsN f seen rs := by
  refine (mem_truthsN h).2 ⟨?_, fun n hn => (derB_iff h n).2 (.seen hn), fun r hr hx => ?_⟩
  · refine Nat.lt_pow_two_of_testBit _ fun i hi => ?_
    cases hb : (derB seen rs).testBit i with
    | false => rfl
    | true => have := h.der_lt ((derB_iff h i).1 hb); omega
  · have hx' : ∀ x ∈ r.1, Der rs (SeenP seen) x.toNat := fun x hm => (derB_iff h _).1 (hx x hm)
    by_cases h0 : 0 ≤ r.2
    · exact ⟨h0, (derB_iff h _).2 (.rule hr h0 hx')⟩
    · exact absurd ⟨r, hr, by omega, hx'⟩ hc
theorem truths_nil (h : CaseOk f seen rs) : truthsN f seen rs = [] ↔ Clsh rs (SeenP seen) := by
  constructor
  · intro he
    refine Classical.byContradiction fun hc => ?_
    have := derB_truth h hc
    rw [he] at this
    cases this
  · intro hc
    refine List.eq_nil_iff_forall_not_mem.2 fun b hb => ?_
    obtain ⟨_, h1, h2⟩ := (mem_truthsN h).1 hb
    exact Clsh.no h1 h2 hc
theorem desk_clash (h : CaseOk f seen rs) : 0 ≤ (deskOf seen rs).clash ↔ truthsN f seen rs = [] := by
  rw [truths_nil h, (deskOf_end h.s h.r).cl]
theorem all_truths (h : CaseOk f seen rs) (hc : ¬ Clsh rs (SeenP seen)) (n : Nat) : (∀ b ∈ truthsN f seen rs, b.testBit n = true) ↔ Der rs (SeenP seen) n := by
  constructor
  · intro ha; exact (derB_iff h n).1 (ha _ (derB_truth h hc))
  · intro hd b hb
    obtain ⟨_, h1, h2⟩ := (mem_truthsN h).1 hb
    exact hd.into h1 h2

theorem foldl_and_test (l : List Nat) (c n : Nat) : (l.foldl (· &&& ·) c).testBit n = (c.testBit n && l.all (fun b => b.testBit n)) := by
  induction l generalizing c with
  | nil => simp
  | cons x l ih => rw [List.foldl_cons, ih, Nat.testBit_and, List.all_cons, Bool.and_assoc]

theorem selTo_congr {p q : Nat → Bool} : ∀ k, (∀ n, n < k → p n = q n) → selTo p k = selTo q k
  | 0, _ => rfl
  | k + 1, h => by rw [selTo, selTo, selTo_congr k (fun n hn => h n (by omega)), h k (by omega)]
theorem selTo_stop {q : Nat → Bool} {f : Nat} (h : ∀ n, f ≤ n → q n = false) : ∀ d, selTo q (f + d) = selTo q f
  | 0 => rfl
  | d + 1 => by rw [← Nat.add_assoc, selTo, h _ (by omega), selTo_stop h d]; simp

theorem nth_pos {l : List Int} (h : marksOk l) (n : Nat) : 0 < nth l n ↔ nth l n ≠ 0 := by
  have := h n; omega

theorem least_lists (h : CaseOk f seen rs) (hc : ¬ Clsh rs (SeenP seen)) : listM (deskOf seen rs).known = listedB ((truthsN f seen rs).foldl (· &&& ·) 4095) f := by
  have he := deskOf_end h.s h.r
  unfold listM listedB
  have h12 : 12 = f + (12 - f) := by have := h.f1; omega
  rw [h12, selTo_stop (f := f)]
  · refine selTo_congr f fun n hn => ?_
    rw [foldl_and_test]
    have h4 : (4095 : Nat).testBit n = true := by
      rw [show (4095 : Nat) = 2 ^ 12 - 1 from rfl, Nat.testBit_two_pow_sub_one]
      have := h.f1; simp; omega
    rw [h4, Bool.true_and, Bool.eq_iff_iff, decide_eq_true_eq, nth_pos he.ok, he.full n, ← all_truths h hc, List.all_eq_true]
  · intro n hn
    simp only [decide_eq_false_iff_not]
    rw [nth_pos he.ok, he.full n]
    intro hd; have := h.der_lt hd; omega

theorem cntTo_eq (p : Nat → Bool) : ∀ k, cntTo p k = ((List.range k).filter p).length
  | 0 => rfl
  | k + 1 => by
    rw [cntTo, List.range_succ, List.filter_append, List.length_append, cntTo_eq p k]
    cases hp : p k <;> simp [hp]
theorem trB_eq (h : CaseOk f seen rs) {b : Nat} (hb : b < 2 ^ f) : trB f seen rs b = truthB seen rs b := by
  have hn : ∀ n, nth (bitTo b f) n ≠ 0 ↔ bt b n := by
    intro n
    unfold bt
    by_cases hn : n < 12
    · rw [bitTo_nth b hn f]
      by_cases hf : n < f
      · cases hb' : b.testBit n <;> simp [hf]
      · have : b.testBit n = false := Nat.testBit_lt_two_pow (Nat.lt_of_lt_of_le hb (Nat.pow_le_pow_right (by omega) (by omega)))
        simp [hf, this]
    · have h1 : b.testBit n = false := Nat.testBit_lt_two_pow (Nat.lt_of_lt_of_le hb (Nat.pow_le_pow_right (by omega) (by have := h.f1; omega)))
      have h2 : nth (bitTo b f) n = 0 := by
        unfold nth
        rw [List.getD_eq_getElem?_getD, List.getElem?_eq_none (by rw [bitTo_length]; omega)]; rfl
      simp [h1, h2]
  rw [Bool.eq_iff_iff]
  unfold trB
  rw [isTruthM_iff h.s h.r, truthB_iff h.s h.r]
  have hfun : (fun n => nth (bitTo b f) n ≠ 0) = bt b := funext fun n => propext (hn n)
  rw [hfun]
  constructor
  · rintro ⟨h1, h2⟩; exact ⟨fun n k => (hn n).1 (h1 n k), h2⟩
  · rintro ⟨h1, h2⟩; exact ⟨fun n k => (hn n).2 (h1 n k), h2⟩
theorem cnt_eq (h : CaseOk f seen rs) : cntTo (trB f seen rs) (2 ^ f) = (truthsN f seen rs).length := by
  rw [cntTo_eq]
  unfold truthsN
  congr 1
  refine List.filter_congr fun b hb => trB_eq h (List.mem_range.1 hb)

theorem CaseOk.snoc (h : CaseOk f seen rs) {x : Nat} (hx : x < f) : CaseOk f (seen ++ [(x : Int)]) rs := by
  refine ⟨h.f1, ?_, h.r, fun n hn => ?_, h.rl⟩
  · intro k hk
    rw [List.length_append] at hk
    have hm : nth (seen ++ [(x : Int)]) k ∈ seen ++ [(x : Int)] := nth_mem (by simpa using hk)
    rcases List.mem_append.1 hm with h1 | h1
    · exact factsOk_mem h.s h1
    · have := List.mem_singleton.1 h1
      have := h.f1; omega
  · unfold SeenP at hn
    rcases List.mem_append.1 hn with h1 | h1
    · exact h.sl n h1
    · have := List.mem_singleton.1 h1; omega
theorem hasN_none (h : CaseOk f seen rs) {x : Nat} (hx : x < f) : hasN (truthsN f seen rs) x = 0 ↔ 0 ≤ (deskOf (seen ++ [(x : Int)]) rs).clash := by
  rw [desk_clash (h.snoc hx)]
  unfold hasN
  rw [List.length_eq_zero_iff, List.filter_eq_nil_iff, List.eq_nil_iff_forall_not_mem]
  constructor
  · intro ha b hb
    obtain ⟨h0, h1, h2⟩ := (mem_truthsN (h.snoc hx)).1 hb
    refine ha b ((mem_truthsN h).2 ⟨h0, fun n hn => h1 n (List.mem_append.2 (.inl hn)), h2⟩) (h1 x (List.mem_append.2 (.inr (by simp))))
  · intro ha b hb ht
    obtain ⟨h0, h1, h2⟩ := (mem_truthsN h).1 hb
    refine ha b ((mem_truthsN (h.snoc hx)).2 ⟨h0, fun n hn => ?_, h2⟩)
    unfold SeenP at hn
    rcases List.mem_append.1 hn with k | k
    · exact h1 n k
    · have := List.mem_singleton.1 k
      have e : n = x := by omega
      rw [e]; exact ht
theorem hasN_all (h : CaseOk f seen rs) (hc : ¬ Clsh rs (SeenP seen)) {x : Nat} : hasN (truthsN f seen rs) x = (truthsN f seen rs).length ↔ 0 < nth (deskOf seen rs).known x := by
  have he := deskOf_end h.s h.r
  rw [nth_pos he.ok, he.full x, ← all_truths h hc]
  unfold hasN
  rw [List.length_filter_eq_length_iff]
end

theorem least_eq {facts : Int} {seen : List Int} {rs : List Rl} (hl : ∀ i, i < rs.length → (nthR rs i).1.length ≤ 1000000) : pLeastL facts seen rs = rLeastL facts seen rs ∧ pLeastE facts seen rs = rLeastE facts seen rs := by
  unfold pLeastL rLeastL pLeastE rLeastE
  by_cases hz : caseErr facts seen rs = 0
  · have h := caseOk hz hl
    rw [if_pos hz, if_pos hz, if_pos hz, if_pos hz]
    by_cases hc : truthsN facts.toNat seen rs = []
    · rw [if_pos hc, if_pos hc, if_pos ((desk_clash h).2 hc), if_pos ((desk_clash h).2 hc)]; exact ⟨rfl, rfl⟩
    · have hd : ¬ 0 ≤ (deskOf seen rs).clash := fun k => hc ((desk_clash h).1 k)
      rw [if_neg hc, if_neg hc, if_neg hd, if_neg hd]
      exact ⟨least_lists h (fun k => hc ((truths_nil h).2 k)), rfl⟩
  · rw [if_neg hz, if_neg hz, if_neg hz, if_neg hz]; exact ⟨rfl, rfl⟩

theorem count_eq {facts : Int} {seen : List Int} {rs : List Rl} (hl : ∀ i, i < rs.length → (nthR rs i).1.length ≤ 1000000) : pCountN facts seen rs = rCountN facts seen rs := by
  unfold pCountN rCountN
  by_cases hz : caseErr facts seen rs = 0
  · rw [if_pos hz, if_pos hz, cnt_eq (caseOk hz hl)]
  · rw [if_neg hz, if_neg hz]

theorem open_fact {facts : Int} {seen : List Int} {rs : List Rl} {x : Int} : openErr facts seen rs [x] = factErr facts seen rs x := by
  unfold openErr factErr
  by_cases hz : caseErr facts seen rs = 0
  · rw [if_pos hz, if_pos hz]
    by_cases hx : 0 ≤ x ∧ x < facts
    · rw [if_pos hx, if_pos (within_one.2 ⟨hx.1, by omega⟩)]
    · rw [if_neg hx, if_neg (fun k => hx (by have := within_one.1 k; omega))]
  · rw [if_neg hz, if_neg hz]

theorem verdict_eq {facts : Int} {seen : List Int} {rs : List Rl} {x : Int} (hl : ∀ i, i < rs.length → (nthR rs i).1.length ≤ 1000000) : pVerdictN facts seen rs x = rVerdictN facts seen rs x ∧ pVerdictE facts seen rs x = rVerdictE facts seen rs x := by
  unfold pVerdictN rVerdictN pVerdictE rVerdictE
  rw [open_fact]
  by_cases hz : factErr facts seen rs x = 0
  · obtain ⟨hc0, h0, h1⟩ := fact_zero hz
    have h := caseOk hc0 hl
    rw [if_pos hz, if_pos hz, if_pos hz, if_pos hz]
    by_cases hc : truthsN facts.toNat seen rs = []
    · rw [if_pos hc, if_pos hc, if_pos ((desk_clash h).2 hc), if_pos ((desk_clash h).2 hc)]; exact ⟨rfl, rfl⟩
    · have hd : ¬ 0 ≤ (deskOf seen rs).clash := fun k => hc ((desk_clash h).1 k)
      have hcl : ¬ Clsh rs (SeenP seen) := fun k => hc ((truths_nil h).2 k)
      rw [if_neg hc, if_neg hc, if_neg hd, if_neg hd]
      refine ⟨?_, rfl⟩
      have hx : ((x.toNat : Nat) : Int) = x := by omega
      have hn := hasN_none h (x := x.toNat) (by omega)
      rw [hx] at hn
      by_cases ha : 0 < nth (deskOf seen rs).known x.toNat
      · rw [if_pos ha, if_pos ((hasN_all h hcl).2 ha)]
      · rw [if_neg ha, if_neg (fun k => ha ((hasN_all h hcl).1 k))]
        by_cases hb : 0 ≤ (deskOf (seen ++ [x]) rs).clash
        · rw [if_pos hb, if_pos (hn.2 hb)]
        · rw [if_neg hb, if_neg (fun k => hb (hn.1 k))]
  · rw [if_neg hz, if_neg hz, if_neg hz, if_neg hz]; exact ⟨rfl, rfl⟩
end Go.Proofs.Ytkioejdddmnbmaa
