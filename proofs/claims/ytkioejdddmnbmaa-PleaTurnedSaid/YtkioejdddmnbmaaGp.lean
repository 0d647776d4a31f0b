/- Plain: the program's answers on verdicts are the reference's. Plain: CheckSteps of the program and of the reference answer alike. Walks: ref.ClashError, ref.StepsError. Plain: the errors of Steps and Clash are the reference's. Plain: the steps that Steps and Clash hand back: they run, and end in what is seen and what they make. Plain: CheckSteps of what Steps hands back. Plain: no step of those handed back can be left out. Plain: what Steps and Clash hand back is tight. Plain: CheckSteps of what Steps and Clash hand back: taken, and they reach what was asked. Walk: tight. -/
import Derived.Test.YtkioejdddmnbmaaGe
import Derived.Test.YtkioejdddmnbmaaGd
import Derived.Deep.QuietTactic
import Derived.Lib.SmallJoins
import Derived.Test.YtkioejdddmnbmaaGf
import Derived.Test.YtkioejdddmnbmaaGc
import Derived.Deep.RegionHeld3
import Derived.Deep.DeepCutAuto
namespace Go.Proofs.Ytkioejdddmnbmaa

theorem rising_lt {facts : Int} {l : List Int} (h : rising facts l = true) : ∀ k, k < l.length → 0 ≤ nth l k ∧ nth l k ≤ facts - 1 := by
  intro k
  induction k with
  | zero =>
    intro hk
    have := List.all_eq_true.1 h 0 (List.mem_range.2 hk)
    have h2 := within_one.1 this
    exact h2
  | succ k ih =>
    intro hk
    have h1 := ih (by omega)
    have := List.all_eq_true.1 h (k + 1) (List.mem_range.2 hk)
    have h2 := within_one.1 this
    have h3 : nextAt l (k + 1) = nth l k + 1 := by unfold nextAt; rw [if_neg (by omega)]; rfl
    rw [h3] at h2
    omega

/-- a case whose facts lie below f -/
structure CaseOk (f : Nat) (seen : List Int) (rs : List Rl) : Prop where
  f1 : f ≤ 12
  s : factsOk seen
  r : rulesOk rs
  sl : ∀ n, SeenP seen n → n < f
  rl : ∀ r ∈ rs, r.2 < f

theorem caseOk {facts : Int} {seen : List Int} {rs : List Rl} (h : caseErr facts seen rs = 0) (hl : ∀ i, i < rs.length → (nthR rs i).1.length ≤ 1000000) : CaseOk facts.toNat seen rs := by
  obtain ⟨⟨f0, f1⟩, _, hris, ha⟩ := case_zero h
  refine ⟨by omega, rising_facts f1 hris, case_rules h hl, fun n hn => ?_, fun r hr => ?_⟩
  · obtain ⟨k, hk, he⟩ := nth_mem_iff.1 hn
    have := rising_lt hris k hk
    omega
  · have := List.all_eq_true.1 ha _ hr
    unfold ruleOk at this
    rw [Bool.and_eq_true] at this
    have h2 := within_one.1 this.2
    omega

section
variable {f : Nat} {seen : List Int} {rs : List Rl}
theorem CaseOk.der_lt (h : CaseOk f seen rs) {n : Nat} (hd : Der rs (SeenP seen) n) : n < f := by
  cases hd with
  | seen hs => exact h.sl n hs
  | rule hr h0 _ => have := h.rl _ hr; omega

theorem mem_truthsN (h : CaseOk f seen rs) {b : Nat} : b ∈ truthsN f seen rs ↔ b < 2 ^ f ∧ (∀ n, SeenP seen n → bt b n) ∧ Closed rs (bt b) := by
  unfold truthsN
  rw [List.mem_filter, List.mem_range, truthB_iff h.s h.r]

/-- what follows, as bits -/
def derB (seen : List Int) (rs : List Rl) : Nat := (knownR rs (bitsL seen)).1
theorem derB_iff (h : CaseOk f seen rs) (n : Nat) : bt (derB seen rs) n ↔ Der rs (SeenP seen) n := by
  unfold derB
  rw [(knownR_end h.r (bitsL seen)).full n]
  constructor
  · exact fun hd => hd.more (fun _ h => h) (fun n hn => .seen ((bitsL_test h.s n).1 hn))
  · exact fun hd => hd.more (fun _ h => h) (fun n hn => .seen ((bitsL_test h.s n).2 hn))
theorem derB_truth (h : CaseOk f seen rs) (hc : ¬ Clsh rs (SeenP seen)) : derB seen rs ∈ truthsN f seen rs := by
  refine (mem_truthsN h).2 ⟨?_, fun n hn => (derB_iff h n).2 (.seen hn), fun r hr hx => ?_⟩
  · refine Nat.lt_pow_two_of_testBit _ fun i hi => ?_
    cases hb : (derB seen rs).testBit i with
    | false => rfl
    | true => have := h.der_lt ((derB_iff h i).1 hb); omega
  · have hx' : ∀ x ∈ r.1, Der rs (SeenP seen) x.toNat := fun x hm => (derB_iff h _).1 (hx x hm)
    by_cases h0 : 0 ≤ r.2
    · exact ⟨h0, (derB_iff h _).2 (.rule hr h0 hx')⟩
    · exact absurd ⟨r, hr, by omega, hx'⟩ hc
theorem truths_nil (h : CaseOk f seen rs) : truthsN f seen rs = [] ↔ Clsh rs (SeenP seen) := by
  constructor
  · intro he
    refine Classical.byContradiction fun hc => ?_
    have := derB_truth h hc
    rw [he] at this
    cases this
  · intro hc
    refine List.eq_nil_iff_forall_not_mem.2 fun b hb => ?_
    obtain ⟨_, h1, h2⟩ := (mem_truthsN h).1 hb
    exact Clsh.no h1 h2 hc
theorem desk_clash (h : CaseOk f seen rs) : 0 ≤ (deskOf seen rs).clash ↔ truthsN f seen rs = [] := by
  rw [truths_nil h, (deskOf_end h.s h.r).cl]
theorem all_truths (h : CaseOk f seen rs) (hc : ¬ Clsh rs (SeenP seen)) (n : Nat) : (∀ b ∈ truthsN f seen rs, b.testBit n = true) ↔ Der rs (SeenP seen) n := by
  constructor
  · intro ha; exact (derB_iff h n).1 (ha _ (derB_truth h hc))
  · intro hd b hb
    obtain ⟨_, h1, h2⟩ := (mem_truthsN h).1 hb
    exact hd.into h1 h2

theorem foldl_and_test (l : List Nat) (c n : Nat) : (l.foldl (· &&& ·) c).testBit n = (c.testBit n && l.all (fun b => b.testBit n)) := by
  induction l generalizing c with
  | nil => simp
  | cons x l ih => rw [List.foldl_cons, ih, Nat.testBit_and, List.all_cons, Bool.and_assoc]

theorem selTo_congr {p q : Nat → Bool} : ∀ k, (∀ n, n < k → p n = q n) → selTo p k = selTo q k
  | 0, _ => rfl
  | k + 1, h => by rw [selTo, selTo, selTo_congr k (fun n hn => h n (by omega)), h k (by omega)]
theorem selTo_stop {q : Nat → Bool} {f : Nat} (h : ∀ n, f ≤ n → q n = false) : ∀ d, selTo q (f + d) = selTo q f
  | 0 => rfl
  | d + 1 => by rw [← Nat.add_assoc, selTo, h _ (by omega), selTo_stop h d]; simp

theorem nth_pos {l : List Int} (h : marksOk l) (n : Nat) : 0 < nth l n ↔ nth l n ≠ 0 := by
  have := h n; omega

theorem least_lists (h : CaseOk f seen rs) (hc : ¬ Clsh rs (SeenP seen)) : listM (deskOf seen rs).known = listedB ((truthsN f seen rs).foldl (· &&& ·) 4095) f := by
  have he := deskOf_end h.s h.r
  unfold listM listedB
  have h12 : 12 = f + (12 - f) := by have := h.f1; omega
  rw [h12, selTo_stop (f := f)]
  · refine selTo_congr f fun n hn => ?_
    rw [foldl_and_test]
    have h4 : (4095 : Nat).testBit n = true := by
      rw [show (4095 : Nat) = 2 ^ 12 - 1 from rfl, Nat.testBit_two_pow_sub_one]
      have := h.f1; simp; omega
    rw [h4, Bool.true_and, Bool.eq_iff_iff, decide_eq_true_eq, nth_pos he.ok, he.full n, ← all_truths h hc, List.all_eq_true]
  · intro n hn
    simp only [decide_eq_false_iff_not]
    rw [nth_pos he.ok, he.full n]
    intro hd; have := h.der_lt hd; omega

theorem cntTo_eq (p : Nat → Bool) : ∀ k, cntTo p k = ((List.range k).filter p).length
  | 0 => rfl
  | k + 1 => by
    rw [cntTo, List.range_succ, List.filter_append, List.length_append, cntTo_eq p k]
    cases hp : p k <;> simp [hp]
theorem trB_eq (h : CaseOk f seen rs) {b : Nat} (hb : b < 2 ^ f) : trB f seen rs b = truthB seen rs b := by
  have hn : ∀ n, nth (bitTo b f) n ≠ 0 ↔ bt b n := by
    intro n
    unfold bt
    by_cases hn : n < 12
    · rw [bitTo_nth b hn f]
      by_cases hf : n < f
      · cases hb' : b.testBit n <;> simp [hf]
      · have : b.testBit n = false := Nat.testBit_lt_two_pow (Nat.lt_of_lt_of_le hb (Nat.pow_le_pow_right (by omega) (by omega)))
        simp [hf, this]
    · have h1 : b.testBit n = false := Nat.testBit_lt_two_pow (Nat.lt_of_lt_of_le hb (Nat.pow_le_pow_right (by omega) (by have := h.f1; omega)))
      have h2 : nth (bitTo b f) n = 0 := by
        unfold nth
        rw [List.getD_eq_getElem?_getD, List.getElem?_eq_none (by rw [bitTo_length]; omega)]; rfl
      simp [h1, h2]
  rw [Bool.eq_iff_iff]
  unfold trB
  rw [isTruthM_iff h.s h.r, truthB_iff h.s h.r]
  have hfun : (fun n => nth (bitTo b f) n ≠ 0) = bt b := funext fun n => propext (hn n)
  rw [hfun]
  constructor
  · rintro ⟨h1, h2⟩; exact ⟨fun n k => (hn n).1 (h1 n k), h2⟩
  · rintro ⟨h1, h2⟩; exact ⟨fun n k => (hn n).2 (h1 n k), h2⟩
theorem cnt_eq (h : CaseOk f seen rs) : cntTo (trB f seen rs) (2 ^ f) = (truthsN f seen rs).length := by
  rw [cntTo_eq]
  unfold truthsN
  congr 1
  refine List.filter_congr fun b hb => trB_eq h (List.mem_range.1 hb)

theorem CaseOk.snoc (h : CaseOk f seen rs) {x : Nat} (hx : x < f) : CaseOk f (seen ++ [(x : Int)]) rs := by
  refine ⟨h.f1, ?_, h.r, fun n hn => ?_, h.rl⟩
  · intro k hk
    rw [List.length_append] at hk
    have hm : nth (seen ++ [(x : Int)]) k ∈ seen ++ [(x : Int)] := nth_mem (by simpa using hk)
    rcases List.mem_append.1 hm with h1 | h1
    · exact factsOk_mem h.s h1
    · have := List.mem_singleton.1 h1
      have := h.f1; omega
  · unfold SeenP at hn
    rcases List.mem_append.1 hn with h1 | h1
    · exact h.sl n h1
    · have := List.mem_singleton.1 h1; omega
theorem hasN_none (h : CaseOk f seen rs) {x : Nat} (hx : x < f) : hasN (truthsN f seen rs) x = 0 ↔ 0 ≤ (deskOf (seen ++ [(x : Int)]) rs).clash := by
  rw [desk_clash (h.snoc hx)]
  unfold hasN
  rw [List.length_eq_zero_iff, List.filter_eq_nil_iff, List.eq_nil_iff_forall_not_mem]
  constructor
  · intro ha b hb
    obtain ⟨h0, h1, h2⟩ := (mem_truthsN (h.snoc hx)).1 hb
    refine ha b ((mem_truthsN h).2 ⟨h0, fun n hn => h1 n (List.mem_append.2 (.inl hn)), h2⟩) (h1 x (List.mem_append.2 (.inr (by simp))))
  · intro ha b hb ht
    obtain ⟨h0, h1, h2⟩ := (mem_truthsN h).1 hb
    refine ha b ((mem_truthsN (h.snoc hx)).2 ⟨h0, fun n hn => ?_, h2⟩)
    unfold SeenP at hn
    rcases List.mem_append.1 hn with k | k
    · exact h1 n k
    · have := List.mem_singleton.1 k
      have e : n = x := by omega
      rw [e]; exact ht
theorem hasN_all (h : CaseOk f seen rs) (hc : ¬ Clsh rs (SeenP seen)) {x : Nat} : hasN (truthsN f seen rs) x = (truthsN f seen rs).length ↔ 0 < nth (deskOf seen rs).known x := by
  have he := deskOf_end h.s h.r
  rw [nth_pos he.ok, he.full x, ← all_truths h hc]
  unfold hasN
  rw [List.length_filter_eq_length_iff]
end

theorem least_eq {facts : Int} {seen : List Int} {rs : List Rl} (hl : ∀ i, i < rs.length → (nthR rs i).1.length ≤ 1000000) : pLeastL facts seen rs = rLeastL facts seen rs ∧ pLeastE facts seen rs = rLeastE facts seen rs := by
  unfold pLeastL rLeastL pLeastE rLeastE
  by_cases hz : caseErr facts seen rs = 0
  · have h := caseOk hz hl
    rw [if_pos hz, if_pos hz, if_pos hz, if_pos hz]
    by_cases hc : truthsN facts.toNat seen rs = []
    · rw [if_pos hc, if_pos hc, if_pos ((desk_clash h).2 hc), if_pos ((desk_clash h).2 hc)]; exact ⟨rfl, rfl⟩
    · have hd : ¬ 0 ≤ (deskOf seen rs).clash := fun k => hc ((desk_clash h).1 k)
      rw [if_neg hc, if_neg hc, if_neg hd, if_neg hd]
      exact ⟨least_lists h (fun k => hc ((truths_nil h).2 k)), rfl⟩
  · rw [if_neg hz, if_neg hz, if_neg hz, if_neg hz]; exact ⟨rfl, rfl⟩

theorem count_eq {facts : Int} {seen : List Int} {rs : List Rl} (hl : ∀ i, i < rs.length → (nthR rs i).1.length ≤ 1000000) : pCountN facts seen rs = rCountN facts seen rs := by
  unfold pCountN rCountN
  by_cases hz : caseErr facts seen rs = 0
  · rw [if_pos hz, if_pos hz, cnt_eq (caseOk hz hl)]
  · rw [if_neg hz, if_neg hz]

theorem open_fact {facts : Int} {seen : List Int} {rs : List Rl} {x : Int} : openErr facts seen rs [x] = factErr facts seen rs x := by
  unfold openErr factErr
  by_cases hz : caseErr facts seen rs = 0
  · rw [if_pos hz, if_pos hz]
    by_cases hx : 0 ≤ x ∧ x < facts
    · rw [if_pos hx, if_pos (within_one.2 ⟨hx.1, by omega⟩)]
    · rw [if_neg hx, if_neg (fun k => hx (by have := within_one.1 k; omega))]
  · rw [if_neg hz, if_neg hz]

theorem verdict_eq {facts : Int} {seen : List Int} {rs : List Rl} {x : Int} (hl : ∀ i, i < rs.length → (nthR rs i).1.length ≤ 1000000) : pVerdictN facts seen rs x = rVerdictN facts seen rs x ∧ pVerdictE facts seen rs x = rVerdictE facts seen rs x := by
  unfold pVerdictN rVerdictN pVerdictE rVerdictE
  rw [open_fact]
  by_cases hz : factErr facts seen rs x = 0
  · obtain ⟨hc0, h0, h1⟩ := fact_zero hz
    have h := caseOk hc0 hl
    rw [if_pos hz, if_pos hz, if_pos hz, if_pos hz]
    by_cases hc : truthsN facts.toNat seen rs = []
    · rw [if_pos hc, if_pos hc, if_pos ((desk_clash h).2 hc), if_pos ((desk_clash h).2 hc)]; exact ⟨rfl, rfl⟩
    · have hd : ¬ 0 ≤ (deskOf seen rs).clash := fun k => hc ((desk_clash h).1 k)
      have hcl : ¬ Clsh rs (SeenP seen) := fun k => hc ((truths_nil h).2 k)
      rw [if_neg hc, if_neg hc, if_neg hd, if_neg hd]
      refine ⟨?_, rfl⟩
      have hx : ((x.toNat : Nat) : Int) = x := by omega
      have hn := hasN_none h (x := x.toNat) (by omega)
      rw [hx] at hn
      by_cases ha : 0 < nth (deskOf seen rs).known x.toNat
      · rw [if_pos ha, if_pos ((hasN_all h hcl).2 ha)]
      · rw [if_neg ha, if_neg (fun k => ha ((hasN_all h hcl).1 k))]
        by_cases hb : 0 ≤ (deskOf (seen ++ [x]) rs).clash
        · rw [if_pos hb, if_pos (hn.2 hb)]
        · rw [if_neg hb, if_neg (fun k => hb (hn.1 k))]
  · rw [if_neg hz, if_neg hz, if_neg hz, if_neg hz]; exact ⟨rfl, rfl⟩
end Go.Proofs.Ytkioejdddmnbmaa

namespace Go.Proofs.Ytkioejdddmnbmaa

/-- marks and bits that say the same -/
structure Sim (f : Nat) (m : List Int) (b : Nat) : Prop where
  len : m.length = 12
  ok : marksOk m
  eq : ∀ n, nth m n ≠ 0 ↔ b.testBit n = true
  lt : ∀ n, b.testBit n = true → n < f

theorem Sim.lists {f : Nat} {m : List Int} {b : Nat} (hf : f ≤ 12) (h : Sim f m b) : listM m = listedB b f := by
  unfold listM listedB
  have h12 : 12 = f + (12 - f) := by omega
  rw [h12, selTo_stop (f := f)]
  · refine selTo_congr f fun n _ => ?_
    rw [Bool.eq_iff_iff, decide_eq_true_eq, nth_pos h.ok, h.eq n]
  · intro n hn
    simp only [decide_eq_false_iff_not]
    rw [nth_pos h.ok, h.eq n]
    intro hd; have := h.lt n hd; omega

theorem nth_set1 {m : List Int} (hm : m.length = 12) {k : Nat} (hk : k < 12) (n : Nat) : nth (m.set k 1) n ≠ 0 ↔ (nth m n ≠ 0 ∨ k = n) := by
  unfold nth
  rw [List.getD_eq_getElem?_getD, List.getD_eq_getElem?_getD, List.getElem?_set]
  by_cases h : k = n
  · subst h; simp [hm, hk]
  · simp [h]

theorem Sim.set {f : Nat} {m : List Int} {b k : Nat} (hf : f ≤ 12) (h : Sim f m b) (hk : k < f) : Sim f (m.set k 1) (b ||| 2 ^ k) := by
  refine ⟨by rw [List.length_set]; exact h.len, h.ok.set k, fun n => ?_, fun n hn => ?_⟩
  · rw [nth_set1 h.len (by omega), Nat.testBit_or, Nat.testBit_two_pow, Bool.or_eq_true, h.eq n, decide_eq_true_eq]
  · rw [Nat.testBit_or, Nat.testBit_two_pow, Bool.or_eq_true, decide_eq_true_eq] at hn
    rcases hn with hn | hn
    · exact h.lt n hn
    · omega

theorem Sim.has {f : Nat} {m : List Int} {b : Nat} (h : Sim f m b) {l : List Int} (hl : factsOk l) : hasM m l = true ↔ b &&& bitsL l = bitsL l := by
  rw [hasM_iff, seenP_all hl (T := fun n => nth m n ≠ 0), and_self_iff]
  constructor
  · intro ha n hn; exact (h.eq n).1 (ha n ((bitsL_test hl n).1 hn))
  · intro ha n hn; exact (h.eq n).2 (ha n ((bitsL_test hl n).2 hn))

/-- two runs of CheckSteps that end alike -/
inductive Same (f : Nat) : Option (List Int × Bool) → Option (Nat × Bool) → Prop
  | none : Same f none none
  | some {m : List Int} {b : Nat} (c : Bool) : Sim f m b → Same f (some (m, c)) (some (b, c))

theorem go_same {f : Nat} {seen : List Int} {rs : List Rl} (hc : CaseOk f seen rs) : ∀ (t : List Int) (m : List Int) (b : Nat), (∀ n ∈ t, 0 ≤ n ∧ n.toNat < rs.length) → Sim f m b → Same f (pGo rs m t) (rGo rs (b, false) t)
  | [], m, b, _, h => by rw [pGo, rGo]; exact .some false h
  | n :: t, m, b, ht, h => by
    have hn := (ht n (by simp)).2
    have hr := rulesOk_mem hc.r (nthR_mem hn)
    have hlt := hc.rl _ (nthR_mem hn)
    rw [pGo, rGo, if_neg (show ¬ ((b, false).2 = true) from by simp)]
    dsimp only
    by_cases hh : hasM m (nthR rs n.toNat).1 = true
    · rw [if_pos hh, if_pos ((h.has hr.1).1 hh)]
      by_cases h0 : (nthR rs n.toNat).2 < 0
      · rw [if_pos h0, if_pos h0]
        cases t with
        | nil => rw [if_pos rfl, rGo]; exact .some true h
        | cons x t => rw [if_neg (by simp), rGo, if_pos rfl]; exact .none
      · rw [if_neg h0, if_neg h0]
        exact go_same hc t _ _ (fun x hx => ht x (by simp [hx])) (h.set hc.f1 (by omega))
    · rw [if_neg hh, if_neg (fun k => hh ((h.has hr.1).2 k))]; exact .none

theorem pcs_eq {facts : Int} {seen : List Int} {rs : List Rl} {t : List Int} (hl : ∀ i, i < rs.length → (nthR rs i).1.length ≤ 1000000) : pcs facts seen rs t = rcs facts seen rs t := by
  unfold pcs rcs
  by_cases hz : caseErr facts seen rs = 0
  · rw [if_pos hz, if_pos hz]
    by_cases hw : within 0 ((rs.length : Int) - 1) t = true
    · rw [if_pos hw, if_pos hw]
      by_cases hd : dupB t = true
      · rw [if_pos hd, if_pos hd]
      · rw [if_neg hd, if_neg hd]
        have hc := caseOk hz hl
        have hs : Sim facts.toNat (markL seen) (bitsL seen) := ⟨markL_length _, markL_ok _, fun n => by rw [markL_iff hc.s, bitsL_test hc.s], fun n hn => hc.sl n ((bitsL_test hc.s n).1 hn)⟩
        have ht : ∀ n ∈ t, 0 ≤ n ∧ n.toNat < rs.length := fun n hn => by
          obtain ⟨k, hk, rfl⟩ := nth_mem_iff.1 hn
          have := within_nth hw hk
          omega
        have := go_same hc t _ _ ht hs
        generalize pGo rs (markL seen) t = p at this ⊢
        generalize rGo rs (bitsL seen, false) t = q at this ⊢
        cases this with
        | none => rfl
        | some c h => rw [pFin, rFin, h.lists hc.f1]
    · rw [if_neg hw, if_neg hw]
  · rw [if_neg hz, if_neg hz]
end Go.Proofs.Ytkioejdddmnbmaa

namespace Go.Proofs.Ytkioejdddmnbmaa
open Go.RowKit Go.Shelf

def rClashE (facts : Int) (seen : List Int) (rs : List Rl) : Int := if caseErr facts seen rs = 0 then (if truthsN facts.toNat seen rs = [] then 0 else 5) else caseErr facts seen rs

set_option maxRecDepth 100000 in
set_option maxHeartbeats 2000000 in
theorem rClash_c (sa ra : Option Addr) (sc rc : Nat) (facts : Int) (seen : List Int) (rs : List Rl) (w : World) (hc : CaseAt w sa ra seen rs) :
    Calls Try.prog 35 #[.agg #[.int .i64 facts, .slice sa seen.length sc, .slice ra rs.length rc]] w fun e w' => e = .returned (.int .i64 (rClashE facts seen rs)) ∧ Below w.heap.size w w' := by
  obtain ⟨W0, hW0⟩ : ∃ W0, W0 = w.alloc (.cells #[.int .i64 facts, .slice sa seen.length sc, .slice ra rs.length rc] 25) := ⟨_, rfl⟩
  have HB0 := hid (show Below w.heap.size w W0 by rw [hW0]; exact bnew w _)
  obtain ⟨c0, c1, c2⟩ := caseBox w facts sa ra seen.length sc rs.length rc
  rw [← hW0] at c0 c1 c2
  have C0 := hid c0; have C1 := hid c1; have C2 := hid c2
  have HS := hid hW0
  have HC := hid fun (w' : World) (h : Below w.heap.size w w') => rcc sa ra sc rc facts seen rs w' (hc.mono h)
  unfold rClashE
  by_cases hz : caseErr facts seen rs = 0
  · rw [if_pos hz]
    obtain ⟨f, rfl, hf1, hf2⟩ := case_nat hz
    have HT := hid fun (w' : World) (h : Below w.heap.size w w') => truths_c sa ra sc rc f seen rs w' (hc.mono h) hf2 (case_seen hz) (case_rules hz hc.il)
    rw [hz] at HC
    rw [Int.toNat_natCast]
    unfold OwnP at HT
    rw [truthsL_length] at HT
    by_cases hn : truthsN f seen rs = []
    · rw [if_pos hn]
      rw [hn] at HT
      generalize truthsL f seen rs = l at *
      clear hc hz hW0 c0 c1 c2 hn
      go_enter Try.func35, Try.ntmps35
      go_wp2_with fail
      rw [← HS.out]
      refine (HC.out _ HB0.out).mono ?_
      rintro e w1 ⟨rfl, hB⟩
      have HB1 := hid (bstep HB0.out hB)
      have d0 := cstep C0.out hB; have d1 := cstep C1.out hB; have d2 := cstep C2.out hB
      clear hB
      go_wp2_with fail
      refine (HT.out _ HB1.out).mono ?_
      rintro e w2 ⟨ao, cap, rfl, hat, hn, hB⟩
      have HB2 := hid (bstep HB1.out hB)
      clear hB hat
      go_wp2
      go_ret
      exact ⟨rfl, HB2.out⟩
    · rw [if_neg hn]
      have hlt : decide (0 < (truthsN f seen rs).length) = true := by
        cases h : truthsN f seen rs with
        | nil => exact absurd h hn
        | cons x l => simp
      generalize (truthsN f seen rs).length = n at *
      generalize truthsL f seen rs = l at *
      clear hc hz hW0 c0 c1 c2 hn
      go_enter Try.func35, Try.ntmps35
      go_wp2_with fail
      rw [← HS.out]
      refine (HC.out _ HB0.out).mono ?_
      rintro e w1 ⟨rfl, hB⟩
      have HB1 := hid (bstep HB0.out hB)
      have d0 := cstep C0.out hB; have d1 := cstep C1.out hB; have d2 := cstep C2.out hB
      clear hB
      go_wp2_with fail
      refine (HT.out _ HB1.out).mono ?_
      rintro e w2 ⟨ao, cap, rfl, hat, hn, hB⟩
      have HB2 := hid (bstep HB1.out hB)
      clear hB hat
      go_wp2
      go_ret
      exact ⟨rfl, HB2.out⟩
  · rw [if_neg hz]
    have hcb := errB hz
    clear hc hz hW0 c0 c1 c2
    generalize caseErr facts seen rs = c at *
    go_enter Try.func35, Try.ntmps35
    go_wp2_with fail
    rw [← HS.out]
    refine (HC.out _ HB0.out).mono ?_
    rintro e w1 ⟨rfl, hB⟩
    have HB1 := hid (bstep HB0.out hB)
    have d0 := cstep C0.out hB; have d1 := cstep C1.out hB; have d2 := cstep C2.out hB
    clear hB
    go_wp2_with fail
    refine (HC.out _ HB1.out).mono ?_
    rintro e w2 ⟨rfl, hB⟩
    go_wp2
    go_ret
    exact ⟨rfl, bstep HB1.out hB⟩

def rStepsE (facts : Int) (seen : List Int) (rs : List Rl) (x : Int) : Int := if factErr facts seen rs x = 0 then (if (knownR rs (bitsL seen)).1.testBit x.toNat = true then 0 else 5) else factErr facts seen rs x

set_option maxRecDepth 100000 in
set_option maxHeartbeats 2000000 in
theorem rSteps_c (sa ra : Option Addr) (sc rc : Nat) (facts : Int) (seen : List Int) (rs : List Rl) (x : Int) (w : World) (hc : CaseAt w sa ra seen rs) :
    Calls Try.prog 34 #[.agg #[.int .i64 facts, .slice sa seen.length sc, .slice ra rs.length rc], .int .i64 x] w fun e w' => e = .returned (.int .i64 (rStepsE facts seen rs x)) ∧ Below w.heap.size w w' := by
  obtain ⟨W0, hW0⟩ : ∃ W0, W0 = w.alloc (.cells #[.int .i64 facts, .slice sa seen.length sc, .slice ra rs.length rc] 25) := ⟨_, rfl⟩
  have HB0 := hid (show Below w.heap.size w W0 by rw [hW0]; exact bnew w _)
  obtain ⟨c0, c1, c2⟩ := caseBox w facts sa ra seen.length sc rs.length rc
  rw [← hW0] at c0 c1 c2
  have C0 := hid c0; have C1 := hid c1; have C2 := hid c2
  have HS := hid hW0
  have HC := hid fun (w' : World) (h : Below w.heap.size w w') => factErr_c sa ra sc rc facts seen rs x w' (hc.mono h)
  unfold rStepsE
  by_cases hz : factErr facts seen rs x = 0
  · obtain ⟨hz0, h0, h1⟩ := fact_zero hz
    rw [if_pos hz]
    have hsf := case_seen hz0
    have hro := case_rules hz0 hc.il
    have hblt := bitsL_lt hsf
    have H49 := hid fun (w' : World) (h : Below w.heap.size w w') => bits_c sa sc seen w' (hc.mono h).s hc.sl hsf
    have H50 := hid fun (w' : World) (h : Below w.heap.size w w') => known_c ra rc rs (bitsL seen) w' (hc.mono h).r hro hc.rl hblt
    obtain ⟨b, hb⟩ : ∃ b, b = (knownR rs (bitsL seen)).1 := ⟨_, rfl⟩
    have hbl : b < 2 ^ 12 := by rw [hb]; exact knownR_lt hro hblt
    rw [← hb] at H50 ⊢
    obtain ⟨c, hcc⟩ : ∃ c, c = (knownR rs (bitsL seen)).2 := ⟨_, rfl⟩
    rw [← hcc] at H50
    obtain ⟨bs, hbs⟩ : ∃ c, c = bitsL seen := ⟨_, rfl⟩
    rw [← hbs] at H49 H50
    obtain ⟨k, rfl⟩ : ∃ k : Nat, x = k := ⟨x.toNat, by omega⟩
    have hk12 : k < 12 := by have := (case_zero hz0).1; omega
    rw [Int.toNat_natCast]
    rw [hz] at HC
    have hbit := bits_one_i64 (a := b) (by omega) k
    have hk64 : (k : Int) < 64 := by omega
    clear hc hz hz0 h0 h1 hsf hro hblt hb hcc hbs hbl hW0 c0 c1 c2
    cases htb : b.testBit k with
    | true =>
      rw [htb] at hbit
      simp only [if_true] at hbit ⊢
      go_enter Try.func34, Try.ntmps34
      go_wp2_with fail
      rw [← HS.out]
      refine (HC.out _ HB0.out).mono ?_
      rintro e w1 ⟨rfl, hB⟩
      have HB1 := hid (bstep HB0.out hB)
      have d0 := cstep C0.out hB; have d1 := cstep C1.out hB; have d2 := cstep C2.out hB
      have K49 := hid fun n => (H49.out (w1.drewN n) (bstep HB1.out (Go.Joins.below_draws _ _ _))).mono fun e w'' h => (⟨h.1, n, h.2⟩ : e = .returned (.int .i64 (bs : Int)) ∧ ∃ m, w'' = w1.drewN m)
      have K50 := hid fun n => (H50.out (w1.drewN n) (bstep HB1.out (Go.Joins.below_draws _ _ _))).mono fun e w'' h => (⟨h.1, n, h.2⟩ : e = .returned (.tuple #[.int .i64 (b : Int), .bool c]) ∧ ∃ m, w'' = w1.drewN m)
      clear hB H49 H50 HC
      go_wp2_with fail
      go_quiet (first | (go_at_call 49; exact K49.out _) | (go_at_call 50; exact K50.out _))
      go_wp2
      go_ret
      exact ⟨rfl, bstep HB1.out (Go.Joins.below_draws _ _ _)⟩
    | false =>
      rw [htb] at hbit
      simp at hbit ⊢
      go_enter Try.func34, Try.ntmps34
      go_wp2_with fail
      rw [← HS.out]
      refine (HC.out _ HB0.out).mono ?_
      rintro e w1 ⟨rfl, hB⟩
      have HB1 := hid (bstep HB0.out hB)
      have d0 := cstep C0.out hB; have d1 := cstep C1.out hB; have d2 := cstep C2.out hB
      have K49 := hid fun n => (H49.out (w1.drewN n) (bstep HB1.out (Go.Joins.below_draws _ _ _))).mono fun e w'' h => (⟨h.1, n, h.2⟩ : e = .returned (.int .i64 (bs : Int)) ∧ ∃ m, w'' = w1.drewN m)
      have K50 := hid fun n => (H50.out (w1.drewN n) (bstep HB1.out (Go.Joins.below_draws _ _ _))).mono fun e w'' h => (⟨h.1, n, h.2⟩ : e = .returned (.tuple #[.int .i64 (b : Int), .bool c]) ∧ ∃ m, w'' = w1.drewN m)
      clear hB H49 H50 HC
      go_wp2_with fail
      go_quiet (first | (go_at_call 49; exact K49.out _) | (go_at_call 50; exact K50.out _))
      go_wp2
      go_ret
      exact ⟨rfl, bstep HB1.out (Go.Joins.below_draws _ _ _)⟩
  · rw [if_neg hz]
    have hcb := errB hz
    clear hc hz hW0 c0 c1 c2
    generalize factErr facts seen rs x = c at *
    go_enter Try.func34, Try.ntmps34
    go_wp2_with fail
    rw [← HS.out]
    refine (HC.out _ HB0.out).mono ?_
    rintro e w1 ⟨rfl, hB⟩
    have HB1 := hid (bstep HB0.out hB)
    have d0 := cstep C0.out hB; have d1 := cstep C1.out hB; have d2 := cstep C2.out hB
    clear hB
    go_wp2_with fail
    refine (HC.out _ HB1.out).mono ?_
    rintro e w2 ⟨rfl, hB⟩
    go_wp2
    go_ret
    exact ⟨rfl, bstep HB1.out hB⟩

end Go.Proofs.Ytkioejdddmnbmaa

namespace Go.Proofs.Ytkioejdddmnbmaa

theorem desk_bit {f : Nat} {seen : List Int} {rs : List Rl} (h : CaseOk f seen rs) (n : Nat) : nth (deskOf seen rs).known n ≠ 0 ↔ (knownR rs (bitsL seen)).1.testBit n = true := by
  rw [(deskOf_end h.s h.r).full n]; exact (derB_iff h n).symm

theorem stepsE_eq {facts : Int} {seen : List Int} {rs : List Rl} {x : Int} (hl : ∀ i, i < rs.length → (nthR rs i).1.length ≤ 1000000) : pStepsE facts seen rs x = rStepsE facts seen rs x := by
  unfold pStepsE rStepsE
  rw [open_fact]
  by_cases hz : factErr facts seen rs x = 0
  · have h := caseOk (fact_zero hz).1 hl
    rw [if_pos hz, if_pos hz]
    by_cases hb : (knownR rs (bitsL seen)).1.testBit x.toNat = true
    · rw [if_pos hb, if_neg ((desk_bit h _).2 hb)]
    · rw [if_neg hb, if_pos (Classical.byContradiction fun k => hb ((desk_bit h _).1 k))]
  · rw [if_neg hz, if_neg hz]

theorem clashE_eq {facts : Int} {seen : List Int} {rs : List Rl} (hl : ∀ i, i < rs.length → (nthR rs i).1.length ≤ 1000000) : pClashE facts seen rs = rClashE facts seen rs := by
  unfold pClashE rClashE
  by_cases hz : caseErr facts seen rs = 0
  · have h := caseOk hz hl
    rw [if_pos hz, if_pos hz]
    by_cases hb : truthsN facts.toNat seen rs = []
    · rw [if_pos hb, if_neg (by have := (desk_clash h).2 hb; omega)]
    · rw [if_neg hb, if_pos (by have : ¬ 0 ≤ (deskOf seen rs).clash := fun k => hb ((desk_clash h).1 k); omega)]
  · rw [if_neg hz, if_neg hz]
end Go.Proofs.Ytkioejdddmnbmaa

namespace Go.Proofs.Ytkioejdddmnbmaa

theorem moreTo_keep {m l : List Int} {n : Nat} (h : nth m n ≠ 0) : ∀ k, nth (moreTo m l k) n ≠ 0
  | 0 => h
  | k + 1 => nth_set_ne (moreTo_keep h k)
theorem moreTo_mark {m l : List Int} (hm : m.length = 12) (hl : factsOk l) : ∀ k, k ≤ l.length → ∀ i, i < k → nth (moreTo m l k) (nth l i).toNat ≠ 0
  | 0, _, i, h => by omega
  | k + 1, hk, i, h => by
    rw [moreTo]
    by_cases e : i = k
    · subst e
      have := hl i (by omega)
      rw [nth_set, if_pos ⟨rfl, by rw [moreTo_length, hm]; omega⟩]; decide
    · exact nth_set_ne (moreTo_mark hm hl k (by omega) i (by omega))

section
variable {rs : List Rl} {ord : List (Nat × Nat)} {m0 : List Int}
theorem wm_succ {k n : Nat} (h : nth (wm rs ord m0 k) n ≠ 0) : nth (wm rs ord m0 (k + 1)) n ≠ 0 := by
  rw [wm]; split
  · exact h
  · exact moreTo_keep h _
theorem wm_le {k n : Nat} (h : nth (wm rs ord m0 k) n ≠ 0) : ∀ d, nth (wm rs ord m0 (k + d)) n ≠ 0
  | 0 => h
  | d + 1 => wm_succ (wm_le h d)
theorem keep_if (hr : rulesOk rs) (hm : m0.length = 12) {j : Nat} (hj : j < ord.length) (hlt : (ordAt ord j).2 < rs.length) (hk : keepAt rs ord m0 j = true) {x : Int} (hx : x ∈ (nthR rs (ordAt ord j).2).1) {i : Nat} (hi : i < j) (he : (ordAt ord i).1 = x.toNat) : keepAt rs ord m0 i = true := by
  have hok := (hr _ hlt).1
  have h1 : nth (wm rs ord m0 (ord.length - 1 - j)) (ordAt ord j).1 ≠ 0 := by simpa [keepAt] using hk
  have h2 : nth (wm rs ord m0 (ord.length - 1 - j + 1)) x.toNat ≠ 0 := by
    rw [wm]
    have e : ord.length - 1 - (ord.length - 1 - j) = j := by omega
    rw [e, if_neg h1]
    obtain ⟨q, hq, rfl⟩ := nth_mem_iff.1 hx
    exact moreTo_mark (wm_length hm _) hok _ (Nat.le_refl _) q hq
  have h3 := wm_le h2 (j - i - 1)
  rw [show ord.length - 1 - j + 1 + (j - i - 1) = ord.length - 1 - i from by omega, ← he] at h3
  simpa [keepAt] using h3
end

theorem pGo_append {rs : List Rl} : ∀ (a b : List Int) (m m' : List Int), pGo rs m a = some (m', false) → pGo rs m (a ++ b) = pGo rs m' b
  | [], b, m, m', h => by
    rw [pGo] at h
    simp at h
    rw [h, List.nil_append]
  | n :: a, b, m, m', h => by
    rw [List.cons_append, pGo]
    rw [pGo] at h
    by_cases hh : hasM m (nthR rs n.toNat).1 = true
    · rw [if_pos hh] at h ⊢
      by_cases h0 : (nthR rs n.toNat).2 < 0
      · rw [if_pos h0] at h
        split at h <;> simp at h
      · rw [if_neg h0] at h ⊢
        exact pGo_append a b _ _ h
    · rw [if_neg hh] at h; cases h

/-- what OrdOk says of a place -/
theorem OrdOk.pos {rs : List Rl} {S : Nat → Prop} {ord : List (Nat × Nat)} (h : OrdOk rs S ord) {k : Nat} (hk : k < ord.length) :
    (ordAt ord k).2 < rs.length ∧ (nthR rs (ordAt ord k).2).2 = ((ordAt ord k).1 : Int) ∧ (ordAt ord k).1 < 12 ∧ ¬ S (ordAt ord k).1 ∧ (∀ i, i < k → (ordAt ord i).1 ≠ (ordAt ord k).1) ∧
      ∀ x ∈ (nthR rs (ordAt ord k).2).1, S x.toNat ∨ ∃ i, i < k ∧ (ordAt ord i).1 = x.toNat := by
  have hs : ord = ord.take k ++ ord[k] :: ord.drop (k + 1) := by rw [← List.drop_eq_getElem_cons hk, List.take_append_drop]
  obtain ⟨h1, h2, h3, h4, h5, h6⟩ := h _ _ _ hs
  have hin : ∀ y, y ∈ (ord.take k).map (·.1) ↔ ∃ i, i < k ∧ (ordAt ord i).1 = y := by
    intro y
    rw [List.mem_map]
    constructor
    · rintro ⟨p, hp, rfl⟩
      obtain ⟨i, hi, rfl⟩ := List.getElem_of_mem hp
      rw [List.length_take] at hi
      exact ⟨i, by omega, by rw [ordAt_eq (by omega), List.getElem_take]⟩
    · rintro ⟨i, hi, rfl⟩
      exact ⟨ord[i], List.mem_take_iff_getElem.2 ⟨i, by omega, rfl⟩, by rw [ordAt_eq (by omega)]⟩
  rw [ordAt_eq hk]
  refine ⟨h1, h2, h3, h4, fun i hi he => h5 ((hin _).2 ⟨i, hi, he⟩), fun x hx => ?_⟩
  rcases h6 x hx with h | h
  · exact .inl h
  · exact .inr ((hin _).1 h)

/-- the kept steps run, and end in what is seen and what they make -/
theorem steps_run {seen : List Int} {rs : List Rl} {ord : List (Nat × Nat)} {m0 : List Int} (hs : factsOk seen) (hr : rulesOk rs) (ho : OrdOk rs (SeenP seen) ord) (hm : m0.length = 12) : ∀ k, k ≤ ord.length →
    ∃ m', pGo rs (markL seen) (stepsTo rs ord m0 k) = some (m', false) ∧ m'.length = 12 ∧ ∀ n, nth m' n ≠ 0 ↔ SeenP seen n ∨ ∃ j, j < k ∧ keepAt rs ord m0 j = true ∧ (ordAt ord j).1 = n
  | 0, _ => ⟨markL seen, by rw [stepsTo, pGo], markL_length _, fun n => by rw [markL_iff hs]; simp⟩
  | k + 1, hk => by
    obtain ⟨m', h1, h2, h3⟩ := steps_run hs hr ho hm k (by omega)
    obtain ⟨p1, p2, p3, p4, p5, p6⟩ := ho.pos (k := k) (by omega)
    rw [stepsTo]
    by_cases hkeep : keepAt rs ord m0 k = true
    · rw [if_pos hkeep]
      refine ⟨m'.set (ordAt ord k).1 1, ?_, by rw [List.length_set]; exact h2, fun n => ?_⟩
      · rw [pGo_append _ _ _ _ h1, pGo]
        have hh : hasM m' (nthR rs ((((ordAt ord k).2 : Nat) : Int)).toNat).1 = true := by
          rw [Int.toNat_natCast, hasM_iff]
          intro x hx
          refine (h3 _).2 ?_
          rcases p6 x hx with h | ⟨i, hi, he⟩
          · exact .inl h
          · exact .inr ⟨i, hi, keep_if hr hm (by omega) p1 hkeep hx hi he, he⟩
        rw [if_pos hh, Int.toNat_natCast, p2, if_neg (by omega), pGo, Int.toNat_natCast]
      · rw [nth_set1 h2 p3, h3 n]
        constructor
        · rintro ((h | ⟨j, hj, hkj, he⟩) | h)
          · exact .inl h
          · exact .inr ⟨j, by omega, hkj, he⟩
          · exact .inr ⟨k, by omega, hkeep, h⟩
        · rintro (h | ⟨j, hj, hkj, he⟩)
          · exact .inl (.inl h)
          · by_cases e : j = k
            · subst e; exact .inr he
            · exact .inl (.inr ⟨j, by omega, hkj, he⟩)
    · rw [if_neg hkeep]
      refine ⟨m', h1, h2, fun n => ?_⟩
      rw [h3 n]
      constructor
      · rintro (h | ⟨j, hj, hkj, he⟩)
        · exact .inl h
        · exact .inr ⟨j, by omega, hkj, he⟩
      · rintro (h | ⟨j, hj, hkj, he⟩)
        · exact .inl h
        · by_cases e : j = k
          · subst e; exact absurd hkj hkeep
          · exact .inr ⟨j, by omega, hkj, he⟩
end Go.Proofs.Ytkioejdddmnbmaa

namespace Go.Proofs.Ytkioejdddmnbmaa

theorem dup_nodup {l : List Int} (h : l.Nodup) : dupB l = false := by
  rw [← Bool.not_eq_true]
  intro hd
  unfold dupB at hd
  obtain ⟨k, hk, hx⟩ := List.any_eq_true.1 hd
  obtain ⟨x, hx, he⟩ := List.any_eq_true.1 hx
  have hk' := List.mem_range.1 hk
  have he' : nth l k = x := by simpa using he
  have hs : l = l.take k ++ nth l k :: l.drop (k + 1) := by rw [← drop_nth hk', List.take_append_drop]
  rw [hs, List.nodup_append] at h
  exact h.2.2 x hx (nth l k) (by simp) he'.symm

section
variable {rs : List Rl} {ord : List (Nat × Nat)} {m0 : List Int}
theorem stepsTo_mem : ∀ (k : Nat) {y : Int}, y ∈ stepsTo rs ord m0 k → ∃ j, j < k ∧ keepAt rs ord m0 j = true ∧ y = ((ordAt ord j).2 : Int)
  | 0, y, h => by rw [stepsTo] at h; cases h
  | k + 1, y, h => by
    rw [stepsTo] at h
    split at h
    · rename_i hk
      rcases List.mem_append.1 h with h1 | h1
      · obtain ⟨j, hj, h2⟩ := stepsTo_mem k h1; exact ⟨j, by omega, h2⟩
      · exact ⟨k, by omega, hk, List.mem_singleton.1 h1⟩
    · obtain ⟨j, hj, h2⟩ := stepsTo_mem k h; exact ⟨j, by omega, h2⟩

theorem ord_rules {S : Nat → Prop} (ho : OrdOk rs S ord) {j k : Nat} (hj : j < k) (hk : k < ord.length) : (ordAt ord j).2 ≠ (ordAt ord k).2 := by
  obtain ⟨_, a2, _⟩ := ho.pos (k := j) (by omega)
  obtain ⟨_, b2, _, _, b5, _⟩ := ho.pos hk
  intro e
  rw [e, b2] at a2
  exact b5 j hj (by omega)

theorem stepsTo_nodup {S : Nat → Prop} (ho : OrdOk rs S ord) : ∀ k, k ≤ ord.length → (stepsTo rs ord m0 k).Nodup
  | 0, _ => by rw [stepsTo]; exact List.nodup_nil
  | k + 1, hk => by
    rw [stepsTo]
    have ih := stepsTo_nodup ho k (by omega)
    split
    · rw [List.nodup_append]
      refine ⟨ih, by simp, fun x hx y hy => ?_⟩
      rw [List.mem_singleton.1 hy]
      obtain ⟨j, hj, _, he⟩ := stepsTo_mem k hx
      have := ord_rules ho hj (by omega)
      omega
    · exact ih

theorem stepsTo_within {S : Nat → Prop} (ho : OrdOk rs S ord) {k : Nat} (hk : k ≤ ord.length) : ∀ x ∈ stepsTo rs ord m0 k, 0 ≤ x ∧ x ≤ (rs.length : Int) - 1 := by
  intro x hx
  obtain ⟨j, hj, _, rfl⟩ := stepsTo_mem k hx
  have := (ho.pos (k := j) (by omega)).1
  omega
end

theorem within_all {lo hi : Int} {l : List Int} (h : ∀ x ∈ l, lo ≤ x ∧ x ≤ hi) : within lo hi l = true := by
  unfold within
  refine List.all_eq_true.2 fun x hx => ?_
  have := h x hx
  simpa using this

/-- CheckSteps takes the kept steps; behind them is known what is seen and what they make -/
theorem pcs_steps {facts : Int} {seen : List Int} {rs : List Rl} {m0 : List Int} (hl : ∀ i, i < rs.length → (nthR rs i).1.length ≤ 1000000) (hz : caseErr facts seen rs = 0) (hm : m0.length = 12) :
    ∃ m', pcs facts seen rs (stepsM rs (deskOf seen rs).ord m0) = (listM m', false, 0) ∧ m'.length = 12 ∧ ∀ n, nth m' n ≠ 0 ↔ SeenP seen n ∨ ∃ j, j < (deskOf seen rs).ord.length ∧ keepAt rs (deskOf seen rs).ord m0 j = true ∧ (ordAt (deskOf seen rs).ord j).1 = n := by
  have hc := caseOk hz hl
  have ho := (deskOf_end hc.s hc.r).ord
  obtain ⟨m', h1, h2, h3⟩ := steps_run (m0 := m0) hc.s hc.r ho hm _ (Nat.le_refl _)
  refine ⟨m', ?_, h2, h3⟩
  unfold pcs stepsM
  rw [if_pos hz, if_pos (within_all (stepsTo_within ho (Nat.le_refl _))), dup_nodup (stepsTo_nodup ho _ (Nat.le_refl _)), if_neg (by simp), h1, pFin]
end Go.Proofs.Ytkioejdddmnbmaa

namespace Go.Proofs.Ytkioejdddmnbmaa

/-- what a run of CheckSteps that ends well says -/
theorem pGo_end {rs : List Rl} : ∀ (t m m' : List Int) (c : Bool), pGo rs m t = some (m', c) →
    (∀ n, nth m n ≠ 0 → nth m' n ≠ 0) ∧ (∀ y ∈ t, ∀ x ∈ (nthR rs y.toNat).1, nth m' x.toNat ≠ 0) ∧ (∀ n, nth m' n ≠ 0 → nth m n ≠ 0 ∨ ∃ y ∈ t, (nthR rs y.toNat).2 = (n : Int)) ∧ (c = true → ∃ y ∈ t, (nthR rs y.toNat).2 < 0)
  | [], m, m', c, h => by
    rw [pGo] at h
    simp at h
    obtain ⟨rfl, rfl⟩ := h
    exact ⟨fun _ h => h, (fun y hy => by cases hy), fun _ h => .inl h, (fun h => by cases h)⟩
  | y :: t, m, m', c, h => by
    rw [pGo] at h
    by_cases hh : hasM m (nthR rs y.toNat).1 = true
    · rw [if_pos hh] at h
      by_cases h0 : (nthR rs y.toNat).2 < 0
      · rw [if_pos h0] at h
        by_cases ht : t = []
        · rw [if_pos ht] at h
          simp at h
          obtain ⟨rfl, rfl⟩ := h
          subst ht
          refine ⟨fun _ h => h, fun z hz x hx => ?_, fun _ h => .inl h, fun _ => ⟨y, by simp, h0⟩⟩
          rw [List.mem_singleton.1 hz] at hx
          exact hasM_iff.1 hh x hx
        · rw [if_neg ht] at h; cases h
      · rw [if_neg h0] at h
        obtain ⟨a1, a2, a3, a4⟩ := pGo_end t _ _ _ h
        have hk : ∀ n, nth m n ≠ 0 → nth m' n ≠ 0 := fun n hn => a1 n (nth_set_ne hn)
        refine ⟨hk, fun z hz x hx => ?_, fun n hn => ?_, fun hc => ?_⟩
        · rcases List.mem_cons.1 hz with rfl | hz
          · exact hk _ (hasM_iff.1 hh x hx)
          · exact a2 z hz x hx
        · rcases a3 n hn with h1 | ⟨z, hz, he⟩
          · rw [nth_set] at h1
            split at h1
            · rename_i hx
              exact .inr ⟨y, by simp, by omega⟩
            · exact .inl h1
          · exact .inr ⟨z, by simp [hz], he⟩
        · obtain ⟨z, hz, he⟩ := a4 hc; exact ⟨z, by simp [hz], he⟩
    · rw [if_neg hh] at h; cases h

theorem moreTo_from {m l : List Int} {n : Nat} : ∀ k, k ≤ l.length → nth (moreTo m l k) n ≠ 0 → nth m n ≠ 0 ∨ ∃ x ∈ l, x.toNat = n
  | 0, _, h => .inl h
  | k + 1, hk, h => by
    rw [moreTo, nth_set] at h
    split at h
    · rename_i hx
      exact .inr ⟨nth l k, nth_mem (by omega), hx.1.symm⟩
    · exact moreTo_from k (by omega) h

section
variable {rs : List Rl} {ord : List (Nat × Nat)} {m0 : List Int}
theorem wm_from {n : Nat} : ∀ k, k ≤ ord.length → nth (wm rs ord m0 k) n ≠ 0 → nth m0 n ≠ 0 ∨ ∃ j, ord.length - k ≤ j ∧ j < ord.length ∧ keepAt rs ord m0 j = true ∧ ∃ x ∈ (nthR rs (ordAt ord j).2).1, x.toNat = n
  | 0, _, h => .inl h
  | k + 1, hk, h => by
    rw [wm] at h
    split at h
    · rcases wm_from k (by omega) h with h1 | ⟨j, h1, h2⟩
      · exact .inl h1
      · exact .inr ⟨j, by omega, h2⟩
    · rename_i h0
      rcases moreTo_from _ (Nat.le_refl _) h with h1 | h1
      · rcases wm_from k (by omega) h1 with h1 | ⟨j, h1, h2⟩
        · exact .inl h1
        · exact .inr ⟨j, by omega, h2⟩
      · refine .inr ⟨ord.length - 1 - k, by omega, by omega, ?_, h1⟩
        have e : ord.length - 1 - (ord.length - 1 - k) = k := by omega
        unfold keepAt
        rw [e]
        simpa using h0
theorem stepsTo_has : ∀ (k : Nat) {j : Nat}, j < k → keepAt rs ord m0 j = true → ((ordAt ord j).2 : Int) ∈ stepsTo rs ord m0 k
  | 0, j, h, _ => by omega
  | k + 1, j, h, hk => by
    rw [stepsTo]
    by_cases e : j = k
    · subst e; rw [if_pos hk]; simp
    · have := stepsTo_has k (by omega) hk
      split
      · exact List.mem_append.2 (.inl this)
      · exact this

/-- a run without one kept step: that step's fact is wanted at the start, and is not made -/
theorem without {S : Nat → Prop} (ho : OrdOk rs S ord) {m : List Int} (hms : ∀ n, nth m n ≠ 0 ↔ S n) {t m' : List Int} {c : Bool} {j : Nat} (hj : j < ord.length) (hk : keepAt rs ord m0 j = true)
    (hin : ∀ i, i < ord.length → keepAt rs ord m0 i = true → i ≠ j → ((ordAt ord i).2 : Int) ∈ t)
    (hout : ∀ y ∈ t, (nthR rs y.toNat).2 < 0 ∨ ∃ i, i < ord.length ∧ i ≠ j ∧ y = ((ordAt ord i).2 : Int)) (h : pGo rs m t = some (m', c)) :
    nth m' (ordAt ord j).1 = 0 ∧ nth m0 (ordAt ord j).1 ≠ 0 := by
  obtain ⟨_, a2, a3, _⟩ := pGo_end t m m' c h
  obtain ⟨p1, p2, p3, p4, p5, p6⟩ := ho.pos hj
  have hz : nth m' (ordAt ord j).1 = 0 := by
    refine Classical.byContradiction fun hne => ?_
    rcases a3 _ hne with h1 | ⟨y, hy, he⟩
    · exact p4 ((hms _).1 h1)
    · rcases hout y hy with h2 | ⟨i, hi, hij, rfl⟩
      · omega
      · rw [Int.toNat_natCast] at he
        obtain ⟨_, q2, _, _, q5, _⟩ := ho.pos hi
        rw [q2] at he
        by_cases hlt : i < j
        · exact p5 i hlt (by omega)
        · exact q5 j (by omega) (by omega)
  refine ⟨hz, ?_⟩
  have hw : nth (wm rs ord m0 (ord.length - 1 - j)) (ordAt ord j).1 ≠ 0 := by simpa [keepAt] using hk
  rcases wm_from _ (by omega) hw with h1 | ⟨i, hi, hi2, hki, x, hx, he⟩
  · exact h1
  · have := a2 _ (hin i hi2 hki (by omega)) x (by rw [Int.toNat_natCast]; exact hx)
    rw [he] at this
    exact absurd hz this
end
end Go.Proofs.Ytkioejdddmnbmaa

namespace Go.Proofs.Ytkioejdddmnbmaa

/-- is no one of them to be left out? -/
def outAt (l : List Int) (i : Nat) : List Int := l.take i ++ l.drop (i + 1)
def tightB (facts : Int) (seen : List Int) (rs : List Rl) (l : List Int) (want : Int) : Bool :=
  (List.range l.length).all fun i => !(decide ((rcs facts seen rs (outAt l i)).2.2 = 0) && (if want < 0 then (rcs facts seen rs (outAt l i)).2.1 else (rcs facts seen rs (outAt l i)).1.contains want))

theorem out_split {l : List Int} {i : Nat} (h : i < l.length) : l = l.take i ++ nth l i :: l.drop (i + 1) := by rw [← drop_nth h, List.take_append_drop]
theorem out_has {l : List Int} {i : Nat} (h : i < l.length) {y : Int} (hy : y ∈ l) (hne : y ≠ nth l i) : y ∈ outAt l i := by
  rw [out_split h] at hy
  unfold outAt
  rcases List.mem_append.1 hy with h1 | h1
  · exact List.mem_append.2 (.inl h1)
  · rcases List.mem_cons.1 h1 with h2 | h2
    · exact absurd h2 hne
    · exact List.mem_append.2 (.inr h2)
theorem out_mem {l : List Int} {i : Nat} {y : Int} (hy : y ∈ outAt l i) : y ∈ l := by
  unfold outAt at hy
  rcases List.mem_append.1 hy with h1 | h1
  · exact List.mem_of_mem_take h1
  · exact List.mem_of_mem_drop h1
theorem out_ne {l : List Int} (hn : l.Nodup) {i : Nat} (h : i < l.length) {y : Int} (hy : y ∈ outAt l i) : y ≠ nth l i := by
  rw [out_split h, List.nodup_append, List.nodup_cons] at hn
  unfold outAt at hy
  rcases List.mem_append.1 hy with h1 | h1
  · exact fun e => hn.2.2 y h1 (nth l i) (by simp) e
  · exact fun e => hn.2.1.1 (e ▸ h1)

theorem pcs_zero {facts : Int} {seen : List Int} {rs : List Rl} {t : List Int} (hz : caseErr facts seen rs = 0) (h : (pcs facts seen rs t).2.2 = 0) : ∃ m' c, pGo rs (markL seen) t = some (m', c) ∧ pcs facts seen rs t = (listM m', c, 0) := by
  unfold pcs at h ⊢
  rw [if_pos hz] at h ⊢
  split at h
  · split at h
    · cases h
    · rename_i h1 h2
      rw [if_pos h1, if_neg h2]
      cases hp : pGo rs (markL seen) t with
      | none => rw [hp, pFin] at h; cases h
      | some q => obtain ⟨m', c⟩ := q; exact ⟨m', c, rfl, rfl⟩
  · cases h

theorem mem_selTo {p : Nat → Bool} {k : Nat} {x : Int} : x ∈ selTo p k ↔ ∃ n : Nat, x = n ∧ n < k ∧ p n = true := by
  rw [selTo_eq, List.mem_map]
  constructor
  · rintro ⟨n, hn, rfl⟩
    have := List.mem_filter.1 hn
    exact ⟨n, rfl, List.mem_range.1 this.1, this.2⟩
  · rintro ⟨n, rfl, h1, h2⟩
    exact ⟨n, List.mem_filter.2 ⟨List.mem_range.2 h1, h2⟩, rfl⟩

theorem mark_one {x : Int} (h0 : 0 ≤ x) (h1 : x < 12) {n : Nat} (h : nth (markL [x]) n ≠ 0) : (n : Int) = x := by
  have hf : factsOk [x] := fun k hk => by
    have : k = 0 := by simpa using hk
    subst this; exact ⟨h0, h1⟩
  exact List.mem_singleton.1 ((markL_iff hf n).1 h)

theorem tight_steps {facts : Int} {seen : List Int} {rs : List Rl} {x : Int} (hl : ∀ i, i < rs.length → (nthR rs i).1.length ≤ 1000000) (h : pStepsE facts seen rs x = 0) : tightB facts seen rs (pStepsL facts seen rs x) x = true := by
  have ho0 : openErr facts seen rs [x] = 0 := by
    unfold pStepsE at h
    split at h
    · rename_i k; exact k
    · exact h
  have hfe := ho0
  rw [open_fact] at hfe
  obtain ⟨hz, h0, h1⟩ := fact_zero hfe
  have hx12 : x < 12 := by have := (case_zero hz).1; omega
  have hc := caseOk hz hl
  have hL : pStepsL facts seen rs x = stepsM rs (deskOf seen rs).ord (markL [x]) := by
    unfold pStepsE at h
    rw [if_pos ho0] at h
    unfold pStepsL
    rw [if_pos ho0]
    split at h
    · cases h
    · rename_i k; rw [if_neg k]
  rw [hL]
  have ho := (deskOf_end hc.s hc.r).ord
  generalize (deskOf seen rs).ord = ord at ho ⊢
  have hnd := stepsTo_nodup (m0 := markL [x]) ho _ (Nat.le_refl _)
  unfold tightB
  refine List.all_eq_true.2 fun i hi => ?_
  have hi' := List.mem_range.1 hi
  rw [← pcs_eq hl]
  by_cases he : (pcs facts seen rs (outAt (stepsM rs ord (markL [x])) i)).2.2 = 0
  · obtain ⟨m', c, hgo, hp⟩ := pcs_zero hz he
    obtain ⟨j, hj, hkj, hej⟩ := stepsTo_mem ord.length (nth_mem hi')
    obtain ⟨w1, w2⟩ := without (m0 := markL [x]) ho (fun n => markL_iff hc.s n) hj hkj
      (fun i' hi2 hki hne => out_has hi' (stepsTo_has _ hi2 hki) (by
        show _ ≠ nth (stepsTo rs ord (markL [x]) ord.length) i
        rw [hej]
        intro e
        by_cases hlt : i' < j
        · exact ord_rules ho hlt hj (by omega)
        · exact ord_rules ho (show j < i' by omega) hi2 (by omega)))
      (fun y hy => by
        obtain ⟨i2, hi2, _, rfl⟩ := stepsTo_mem ord.length (out_mem hy)
        refine .inr ⟨i2, hi2, fun e => ?_, rfl⟩
        subst e
        exact out_ne hnd hi' hy hej.symm) hgo
    have hxe := mark_one h0 hx12 w2
    rw [hp, if_neg (by omega)]
    have hnot : (listM m').contains x = false := by
      rw [← Bool.not_eq_true, List.contains_iff_mem]
      intro hm
      obtain ⟨n, hn, _, hpn⟩ := mem_selTo.1 hm
      have : n = (ordAt ord j).1 := by omega
      subst this
      rw [w1] at hpn
      simp at hpn
    rw [hnot]; simp
  · rw [decide_eq_false he]; simp

theorem out_last {l : List Int} {z : Int} : outAt (l ++ [z]) l.length = l := by
  unfold outAt; simp
theorem out_front {l : List Int} {z : Int} {i : Nat} (h : i < l.length) : outAt (l ++ [z]) i = outAt l i ++ [z] := by
  unfold outAt
  rw [List.take_append_of_le_length (by omega), List.drop_append_of_le_length (by omega), List.append_assoc]

theorem tight_clash {facts : Int} {seen : List Int} {rs : List Rl} (hl : ∀ i, i < rs.length → (nthR rs i).1.length ≤ 1000000) (h : pClashE facts seen rs = 0) : tightB facts seen rs (pClashL facts seen rs) (-1) = true := by
  have hz : caseErr facts seen rs = 0 := by
    unfold pClashE at h
    split at h
    · rename_i k; exact k
    · exact h
  have hc := caseOk hz hl
  have hE := deskOf_end hc.s hc.r
  have hcl : 0 ≤ (deskOf seen rs).clash := by
    unfold pClashE at h
    rw [if_pos hz] at h
    split at h
    · cases h
    · omega
  have hL : pClashL facts seen rs = stepsM rs (deskOf seen rs).ord (markL (nthR rs (deskOf seen rs).clash.toNat).1) ++ [(deskOf seen rs).clash] := by
    unfold pClashL
    rw [if_pos hz, if_neg (by omega)]
  obtain ⟨q1, q2, _⟩ := hE.clash hcl
  rw [hL]
  have ho := hE.ord
  generalize (deskOf seen rs).ord = ord at ho ⊢
  generalize (deskOf seen rs).clash = z at hcl q1 q2 ⊢
  have hfz := (hc.r _ q1).1
  have hnd := stepsTo_nodup (m0 := markL (nthR rs z.toNat).1) ho _ (Nat.le_refl _)
  have hpos : ∀ y ∈ stepsM rs ord (markL (nthR rs z.toNat).1), 0 ≤ (nthR rs y.toNat).2 := fun y hy => by
    obtain ⟨i2, hi2, _, rfl⟩ := stepsTo_mem ord.length hy
    have := (ho.pos hi2).2.1
    rw [Int.toNat_natCast, this]; omega
  unfold tightB
  refine List.all_eq_true.2 fun i hi => ?_
  have hi' := List.mem_range.1 hi
  rw [← pcs_eq hl, if_pos (by decide)]
  generalize hS : stepsM rs ord (markL (nthR rs z.toNat).1) = S at hi' hpos ⊢
  rw [List.length_append, List.length_singleton] at hi'
  by_cases hlast : i = S.length
  · subst hlast
    rw [out_last]
    by_cases he : (pcs facts seen rs S).2.2 = 0
    · obtain ⟨m', c, hgo, hp⟩ := pcs_zero hz he
      obtain ⟨_, _, _, a4⟩ := pGo_end _ _ _ _ hgo
      rw [hp]
      cases c with
      | false => simp
      | true =>
        obtain ⟨y, hy, hlt⟩ := a4 rfl
        have := hpos y hy
        omega
    · rw [decide_eq_false he]; simp
  · have hi2 : i < S.length := by omega
    rw [out_front hi2]
    by_cases he : (pcs facts seen rs (outAt S i ++ [z])).2.2 = 0
    · obtain ⟨m', c, hgo, hp⟩ := pcs_zero hz he
      obtain ⟨_, a2, _, _⟩ := pGo_end _ _ _ _ hgo
      subst hS
      obtain ⟨j, hj, hkj, hej⟩ := stepsTo_mem ord.length (nth_mem hi2)
      obtain ⟨w1, w2⟩ := without (m0 := markL (nthR rs z.toNat).1) ho (fun n => markL_iff hc.s n) hj hkj
        (fun i' hi3 hki hne => List.mem_append.2 (.inl (out_has hi2 (stepsTo_has _ hi3 hki) (by
          show _ ≠ nth (stepsTo rs ord (markL (nthR rs z.toNat).1) ord.length) i
          rw [hej]
          intro e
          by_cases hlt : i' < j
          · exact ord_rules ho hlt hj (by omega)
          · exact ord_rules ho (show j < i' by omega) hi3 (by omega)))))
        (fun y hy => by
          rcases List.mem_append.1 hy with hy | hy
          · obtain ⟨i3, hi3, _, rfl⟩ := stepsTo_mem ord.length (out_mem hy)
            refine .inr ⟨i3, hi3, fun e => ?_, rfl⟩
            subst e
            exact out_ne hnd hi2 hy hej.symm
          · rw [List.mem_singleton.1 hy]; exact .inl q2) hgo
      have hin := (markL_iff hfz _).1 w2
      have := a2 z (List.mem_append.2 (.inr (by simp))) _ hin
      rw [Int.toNat_natCast] at this
      exact absurd w1 this
    · rw [decide_eq_false he]; simp

end Go.Proofs.Ytkioejdddmnbmaa

namespace Go.Proofs.Ytkioejdddmnbmaa

/-- what is wanted and known stands behind the kept steps -/
theorem wanted_in {seen : List Int} {rs : List Rl} {m0 m' : List Int} (hE : DEnd rs (SeenP seen) (deskOf seen rs))
    (h3 : ∀ n, nth m' n ≠ 0 ↔ SeenP seen n ∨ ∃ j, j < (deskOf seen rs).ord.length ∧ keepAt rs (deskOf seen rs).ord m0 j = true ∧ (ordAt (deskOf seen rs).ord j).1 = n) {n : Nat} (hw : nth m0 n ≠ 0) (hk : nth (deskOf seen rs).known n ≠ 0) : nth m' n ≠ 0 := by
  refine (h3 n).2 ?_
  rcases (hE.ordk n).1 hk with h | h
  · exact .inl h
  · obtain ⟨p, hp, rfl⟩ := List.mem_map.1 h
    obtain ⟨j, hj, rfl⟩ := List.getElem_of_mem hp
    refine .inr ⟨j, hj, ?_, by rw [ordAt_eq hj]⟩
    unfold keepAt
    have hw' : nth (wm rs (deskOf seen rs).ord m0 0) (deskOf seen rs).ord[j].1 ≠ 0 := hw
    have := wm_le hw' ((deskOf seen rs).ord.length - 1 - j)
    rw [Nat.zero_add] at this
    rw [ordAt_eq hj]
    simpa using this

theorem has_listM {m : List Int} (ho : marksOk m) {x : Int} (h0 : 0 ≤ x) (h1 : x < 12) (h : nth m x.toNat ≠ 0) : (listM m).contains x = true := by
  rw [List.contains_iff_mem]
  refine mem_selTo.2 ⟨x.toNat, by omega, by omega, ?_⟩
  have := (nth_pos ho x.toNat).2 h
  simpa using this

/-- marks stay marks -/
theorem pGo_ok {rs : List Rl} : ∀ (t m m' : List Int) (c : Bool), marksOk m → pGo rs m t = some (m', c) → marksOk m'
  | [], m, m', c, ho, h => by
    rw [pGo] at h
    simp at h
    rw [← h.1]; exact ho
  | y :: t, m, m', c, ho, h => by
    rw [pGo] at h
    split at h
    · split at h
      · split at h
        · simp at h; rw [← h.1]; exact ho
        · cases h
      · exact pGo_ok t _ _ _ (ho.set _) h
    · cases h

theorem steps_taken {facts : Int} {seen : List Int} {rs : List Rl} {x : Int} (hl : ∀ i, i < rs.length → (nthR rs i).1.length ≤ 1000000) (h : pStepsE facts seen rs x = 0) :
    (rcs facts seen rs (pStepsL facts seen rs x)).2.2 = 0 ∧ (rcs facts seen rs (pStepsL facts seen rs x)).2.1 = false ∧ (rcs facts seen rs (pStepsL facts seen rs x)).1.contains x = true := by
  have ho0 : openErr facts seen rs [x] = 0 := by
    unfold pStepsE at h
    split at h
    · rename_i k; exact k
    · exact h
  have hfe := ho0
  rw [open_fact] at hfe
  obtain ⟨hz, h0, h1⟩ := fact_zero hfe
  have hx12 : x < 12 := by have := (case_zero hz).1; omega
  have hc := caseOk hz hl
  have hE := deskOf_end hc.s hc.r
  have hkn : nth (deskOf seen rs).known x.toNat ≠ 0 := by
    unfold pStepsE at h
    rw [if_pos ho0] at h
    split at h
    · cases h
    · rename_i k; exact k
  have hL : pStepsL facts seen rs x = stepsM rs (deskOf seen rs).ord (markL [x]) := by
    unfold pStepsL
    rw [if_pos ho0, if_neg hkn]
  rw [hL, ← pcs_eq hl]
  obtain ⟨m', hp, _, h3⟩ := pcs_steps (m0 := markL [x]) hl hz (markL_length _)
  obtain ⟨m2, c2, hgo, hp2⟩ := pcs_zero hz (by rw [hp])
  rw [hp] at hp2
  have hok := pGo_ok _ _ _ _ (markL_ok _) hgo
  have hf : factsOk [x] := fun k hk => by
    have : k = 0 := by simpa using hk
    subst this; exact ⟨h0, hx12⟩
  have hw : nth (markL [x]) x.toNat ≠ 0 := (markL_iff hf _).2 (by unfold SeenP; rw [Int.toNat_of_nonneg h0]; simp)
  have hin := wanted_in hE h3 hw hkn
  have hl2 : listM m' = listM m2 := by injection hp2
  rw [hp]
  refine ⟨rfl, rfl, ?_⟩
  obtain ⟨m3, g1, g2, g3⟩ := steps_run (m0 := markL [x]) hc.s hc.r hE.ord (markL_length _) _ (Nat.le_refl _)
  have hok3 := pGo_ok _ _ _ _ (markL_ok _) g1
  have hin3 : nth m3 x.toNat ≠ 0 := wanted_in hE g3 hw hkn
  have e : m2 = m3 := by
    have : pGo rs (markL seen) (stepsM rs (deskOf seen rs).ord (markL [x])) = some (m3, false) := g1
    rw [hgo] at this
    injection this with this
    injection this
  show (listM m').contains x = true
  rw [hl2, e]
  exact has_listM hok3 h0 hx12 hin3

theorem clash_taken {facts : Int} {seen : List Int} {rs : List Rl} (hl : ∀ i, i < rs.length → (nthR rs i).1.length ≤ 1000000) (h : pClashE facts seen rs = 0) :
    (rcs facts seen rs (pClashL facts seen rs)).2.2 = 0 ∧ (rcs facts seen rs (pClashL facts seen rs)).2.1 = true := by
  have hz : caseErr facts seen rs = 0 := by
    unfold pClashE at h
    split at h
    · rename_i k; exact k
    · exact h
  have hc := caseOk hz hl
  have hE := deskOf_end hc.s hc.r
  have hcl : 0 ≤ (deskOf seen rs).clash := by
    unfold pClashE at h
    rw [if_pos hz] at h
    split at h
    · cases h
    · omega
  have hL : pClashL facts seen rs = stepsM rs (deskOf seen rs).ord (markL (nthR rs (deskOf seen rs).clash.toNat).1) ++ [(deskOf seen rs).clash] := by
    unfold pClashL
    rw [if_pos hz, if_neg (by omega)]
  obtain ⟨q1, q2, q3⟩ := hE.clash hcl
  have hfz := (hc.r _ q1).1
  obtain ⟨m3, g1, g2, g3⟩ := steps_run (m0 := markL (nthR rs (deskOf seen rs).clash.toNat).1) hc.s hc.r hE.ord (markL_length _) _ (Nat.le_refl _)
  have hhas : hasM m3 (nthR rs (deskOf seen rs).clash.toNat).1 = true := by
    rw [hasM_iff]
    intro x hx
    refine wanted_in hE g3 ((markL_iff hfz _).2 ?_) (q3 x hx)
    have := factsOk_mem hfz hx
    unfold SeenP
    rw [Int.toNat_of_nonneg this.1]; exact hx
  have hgo : pGo rs (markL seen) (stepsM rs (deskOf seen rs).ord (markL (nthR rs (deskOf seen rs).clash.toNat).1) ++ [(deskOf seen rs).clash]) = some (m3, true) := by
    unfold stepsM
    rw [pGo_append _ _ _ _ g1, pGo, if_pos hhas, if_pos q2, if_pos rfl]
  have hnd := stepsTo_nodup (m0 := markL (nthR rs (deskOf seen rs).clash.toNat).1) hE.ord _ (Nat.le_refl _)
  have hnd2 : (stepsM rs (deskOf seen rs).ord (markL (nthR rs (deskOf seen rs).clash.toNat).1) ++ [(deskOf seen rs).clash]).Nodup := by
    rw [List.nodup_append]
    refine ⟨hnd, by simp, fun y hy z hz' => ?_⟩
    rw [List.mem_singleton.1 hz']
    obtain ⟨j, hj, _, rfl⟩ := stepsTo_mem _ hy
    have hp := (hE.ord.pos hj).2.1
    intro e
    have e2 : (deskOf seen rs).clash.toNat = (ordAt (deskOf seen rs).ord j).2 := by omega
    rw [e2, hp] at q2
    omega
  rw [hL, ← pcs_eq hl]
  unfold pcs
  rw [if_pos hz, if_pos (within_all fun y hy => ?_), dup_nodup hnd2, if_neg (by simp), hgo, pFin]
  · exact ⟨rfl, rfl⟩
  · rcases List.mem_append.1 hy with hy | hy
    · exact stepsTo_within hE.ord (Nat.le_refl _) y hy
    · rw [List.mem_singleton.1 hy]; omega
end Go.Proofs.Ytkioejdddmnbmaa

namespace Go.Proofs.Ytkioejdddmnbmaa
open Go.RowKit Go.Shelf
attribute [local go_sem ↓] wp_get wp_get0 wp_getS wp78 wps78 wpa78

set_option maxRecDepth 100000 in
theorem sizeOf3 (w : World) : (sizeOf 3).run Try.prog w = .ok 1 w := by simp [go_sem]
set_option maxRecDepth 100000 in
theorem elem22 : Try.prog.elem 22 = 3 := by kernel_rfl
set_option maxRecDepth 100000 in
/-- a list without its first numbers, as a slice -/
theorem slice_from {w : World} {a : Option Addr} {l : List Int} (h : IntsAt w a l) {c k : Nat} (hk : k ≤ l.length) (hc : l.length ≤ c) : ∃ a2 : Option Addr, (∀ w' : World, (Instr.slice 22 (.slice a l.length c) (some (.int .i64 (k : Int))) none none).run Try.prog w' = .ok (.slice a2 (l.length - k) (c - k)) w') ∧ IntsAt w a2 (l.drop k) ∧ (a ≠ none → a2 ≠ none) := by
  refine ⟨if c = k then a else a.map (·.add (k * 1)), fun w' => ?_, ?_, ?_⟩
  · have hsz : ((sizeOf (Try.prog.elem 22)).run Try.prog w') = .ok 1 w' := by
      rw [elem22]; exact sizeOf3 w'
    rw [run_slice_l w' 22 a l.length c Try.underlying22 .i64 (k : Int) (by omega) (by omega), hsz]
    simp [Result.andThen, sliced]
  · by_cases hz : l.drop k = []
    · rw [hz]; exact .inl rfl
    · have hlt : k < l.length := by
        apply Classical.byContradiction
        intro hn
        exact hz (List.drop_eq_nil_of_le (by omega))
      obtain ⟨b, off, rfl, _⟩ := h.at hlt
      have h2 := h.drop k
      split
      · omega
      · rw [Option.map_some, Addr.add_lit, Nat.mul_one]; exact h2
  · intro hne
    split
    · exact hne
    · cases a with
      | none => exact absurd rfl hne
      | some b => simp

theorem own_le {B : Nat} {w : World} {ao : Option Addr} {n cap : Nat} {xs : List Int} (h : OwnI B w ao n cap xs) : n ≤ cap := by
  rcases h.2.2 with ⟨e, h0⟩ | ⟨g, c, cur, e, hge, hh, hle, _⟩
  · omega
  · cases e; exact hle
theorem rcs_len (facts : Int) (seen : List Int) (rs : List Rl) (t : List Int) : (rcs facts seen rs t).1.length ≤ 12 := by
  unfold rcs
  split
  · rename_i hz
    have := (case_zero hz).1
    split
    · split
      · exact Nat.zero_le _
      · cases rGo rs (bitsL seen, false) t with
        | none => exact Nat.zero_le _
        | some q =>
          have := selTo_length (fun k => q.1.testBit k) facts.toNat
          show (listedB q.1 facts.toNat).length ≤ 12
          unfold listedB; omega
    · exact Nat.zero_le _
  · exact Nat.zero_le _

/-- may this one be left out? -/
def loose (facts : Int) (seen : List Int) (rs : List Rl) (l : List Int) (want : Int) (i : Nat) : Bool := decide ((rcs facts seen rs (outAt l i)).2.2 = 0) && (if want < 0 then (rcs facts seen rs (outAt l i)).2.1 else (rcs facts seen rs (outAt l i)).1.contains want)
theorem tightB_all (facts : Int) (seen : List Int) (rs : List Rl) (l : List Int) (want : Int) : tightB facts seen rs l want = (List.range l.length).all (fun i => !loose facts seen rs l want i) := rfl
theorem any_contains (l : List Int) (n : Int) : l.any (fun x => x == n) = l.contains n := by
  rw [Bool.eq_iff_iff, List.any_eq_true, List.contains_iff_mem]
  constructor
  · rintro ⟨x, hx, h⟩; rw [beq_iff_eq] at h; exact h ▸ hx
  · intro h; exact ⟨n, h, beq_self_eq_true n⟩
theorem outAt_length {l : List Int} {i : Nat} (h : i < l.length) : (outAt l i).length = i + (l.length - (i + 1)) := by
  unfold outAt
  rw [List.length_append, List.length_take, List.length_drop]; omega

set_option maxRecDepth 100000 in
set_option maxHeartbeats 4000000 in
theorem tight_c (sa ra la : Option Addr) (sc rc lc : Nat) (facts : Int) (seen : List Int) (rs : List Rl) (l : List Int) (x : Int) (w : World) (hc : CaseAt w sa ra seen rs) (hl : IntsAt w la l) (hll : l.length ≤ 1000) (hcap : l.length ≤ lc) :
    Calls Try.prog 37 #[.agg #[.int .i64 facts, .slice sa seen.length sc, .slice ra rs.length rc], .slice la l.length lc, .int .i64 x] w (TellB w (tightB facts seen rs l x)) := by
  obtain ⟨W0, hW0⟩ : ∃ W0, W0 = w.alloc (.cells #[.int .i64 facts, .slice sa seen.length sc, .slice ra rs.length rc] 25) := ⟨_, rfl⟩
  have HB0 := hid (show Below w.heap.size w W0 by rw [hW0]; exact bnew w _)
  obtain ⟨c0, c1, c2⟩ := caseBox w facts sa ra seen.length sc rs.length rc
  rw [← hW0] at c0 c1 c2
  have C0 := hid c0; have C1 := hid c1; have C2 := hid c2
  have HS := hid hW0
  have HL := hid hl; have Hc := hid hc
  have HQ := hid fun (a' : Option Addr) (c' : Nat) (t : List Int) (w' : World) (h : Below w.heap.size w w') (ht : IntsAt w' a' t) (h1 : t.length ≤ 1000000) (h2 : t.length ≤ c') => rCheckSteps_c facts sa sc seen ra rc rs a' c' t w' (hc.mono h) ht h1 h2
  unfold TellB
  rw [tightB_all]
  obtain ⟨R, hR⟩ : ∃ R, R = (List.range l.length).all (fun i => !loose facts seen rs l x i) := ⟨_, rfl⟩
  rw [← hR]
  have HR := hid hR
  clear hc hl hW0 c0 c1 c2 hR
  have hlcI : (l.length : Int) ≤ (lc : Int) := by omega
  go_enter Try.func37, Try.ntmps37
  go_upto_region 1 with (fail)
  rw [← HS.out]
  go_wp2
  go_loopw [7] (fun i wr => ∃ k : Nat, k ≤ l.length ∧ i = .int .i64 k ∧ (List.range k).all (fun i => !loose facts seen rs l x i) = true ∧ Below W0.heap.size W0 wr) (fun i _ => l.length - (intOf i).toNat)
  case atStart => exact ⟨0, Nat.zero_le _, rfl, rfl, Below.refl _ _⟩
  case round =>
    obtain ⟨k, hk, rfl, hgo, hB⟩ := hrel
    obtain ⟨wo, rfl⟩ : ∃ wo : World, wo = wr := ⟨_, rfl⟩
    have HB := hid hB
    have HBt := hid (bstep HB0.out hB)
    clear hB
    by_cases hlt : k < l.length
    · obtain ⟨la2, hs2, hat2, hne⟩ := slice_from (HL.out.mono HBt.out) (k := k + 1) (by omega) hcap
      have hwr : IntKind.i64.wrap ((k : Int) + 1) = (k : Int) + 1 := by have h := wrap_i64_nat (a := k + 1) (by omega); simpa using h
      rw [show (((k + 1 : Nat)) : Int) = (k : Int) + 1 from by omega] at hs2
      have hna : la ≠ none := by
        intro e
        obtain ⟨b, off, h, _⟩ := (HL.out.mono HBt.out).at hlt
        rw [e] at h; cases h
      have hna2 := hne hna
      have Hata := hid ((HL.out.mono HBt.out).take k); have Hat2 := hid hat2
      have hlk : (l.take k).length = k := by rw [List.length_take]; omega
      have hkI : (k : Int) ≤ (lc : Int) := by omega
      have hlo := outAt_length hlt
      obtain ⟨m, hm⟩ : ∃ m, m = l.length - (k + 1) := ⟨_, rfl⟩
      have hdl : (l.drop (k + 1)).length = m := by rw [List.length_drop, hm]
      rw [← hm] at hs2 hlo
      have Hdl := hid hdl; have Hlk := hid hlk; have Hlo := hid hlo
      have hml : k + m ≤ 1000000 := by omega
      obtain ⟨P, hP⟩ : ∃ P, P = outAt l k := ⟨_, rfl⟩
      have hPe : l.take k ++ l.drop (k + 1) = P := hP.symm
      have HP := hid hP; have HPe := hid hPe
      obtain ⟨lo, hlo2⟩ : ∃ b, b = loose facts seen rs l x k := ⟨_, rfl⟩
      have Hloo := hid hlo2
      have Hgo := hid hgo
      clear hat2 hne hdl hlk hlo hm hP hPe hlo2 hgo
      go_upto_region 4 with (fail)
      go_cut [8] (fun s wc => ∃ ao cap, s = .slice ao (k + m) cap ∧ IntsAt wc ao P ∧ (ao = none → cap = 0) ∧ k + m ≤ cap ∧ Below wo.heap.size wo wc)
      case first =>
        go_region_held3 (fun _ => True) (trivial)
          (first
            | (refine step_app_new _ (by rfl) _ _ (by rfl) wo.heap.size (some ⟨wo.heap.size, 0, none⟩) 0 (by rfl) (by first | exact own_lit0 wo wo.heap.size (Nat.le_refl _) | exact (own_lit0 wo wo.heap.size (Nat.le_refl _)).drewN 1) la k lc (l.take k) (by rfl) (by first | exact Hata.out.mono (bnew _ _) | exact Hata.out.mono (bnew _ _).drew) Hlk.out (fun h => absurd h hna) (by omega) (by simp) ?_; intro a8 c8 w8 hB8 hown8 hz8 hg8; have hB08 : Below wo.heap.size wo w8 := Below.trans (by first | exact bnew wo _ | exact (bnew wo _).drew) hB8)
            | (refine step_app_many _ (by rfl) _ _ (by rfl) wo.heap.size a8 k c8 (l.take k) (by rfl) (by first | exact hown8 | exact hown8.drewN 1) la2 m _ (l.drop (k + 1)) (by rfl) (by first | exact Hat2.out.mono hB08 | exact Hat2.out.mono hB08.drew) Hdl.out (fun h => absurd h hna2) hml hz8 ?_; intro a9 c9 w9 hB9 hown9 hg9 hn9))
        all_goals (
          go_wp2
          go_meet
          exact ⟨a9, c9, rfl, by rw [← HPe.out]; exact hown9.at, fun h => (hown9.none h).2, own_le hown9, (by first | exact hB08.trans hB9 | exact hB08.drew.trans hB9)⟩)
      case rest =>
        obtain ⟨ao, cap, rfl, hat9, hn9, hcap9, hB9⟩ := hcut
        have HB9 := hid hB9
        have HBt9 := hid (bstep HBt.out hB9)
        have d0 := cstep C0.out (bstep HB.out hB9); have d1 := cstep C1.out (bstep HB.out hB9); have d2 := cstep C2.out (bstep HB.out hB9)
        have HQ9 := HQ.out ao cap P wc HBt9.out hat9 (by rw [HP.out, Hlo.out]; exact hml) (by rw [HP.out, Hlo.out]; exact hcap9)
        rw [show P.length = k + m from by rw [HP.out]; exact Hlo.out] at HQ9
        unfold StepsP at HQ9
        have hlq : lo = (decide ((rcs facts seen rs P).2.2 = 0) && (if x < 0 then (rcs facts seen rs P).2.1 else (rcs facts seen rs P).1.contains x)) := by rw [Hloo.out, HP.out]; rfl
        have hrl := rcs_len facts seen rs P
        obtain ⟨⟨L, C, E⟩, hT⟩ : ∃ T, T = rcs facts seen rs P := ⟨_, rfl⟩
        rw [← hT] at HQ9 hlq hrl
        dsimp only at HQ9 hlq hrl
        have HQ9 := hid HQ9
        have Hlq := hid hlq
        clear hB9 hat9 hcap9 hn9 hlq hT
        go_wp2_with fail
        refine HQ9.out.mono ?_
        rintro e w10 ⟨a10, c10, rfl, hat10, hn10, hB10⟩
        have HB10 := hid (bstep HB9.out hB10)
        have HBt10 := hid (bstep HBt.out HB10.out)
        have HH := hasL_c a10 c10 L x w10 hat10 (by omega)
        rw [any_contains] at HH
        have HH := hid HH
        clear hat10 hn10 hB10 d0 d1 d2 HQ9
        have hnext : lo = false → ((List.range (k + 1)).all (fun i => !loose facts seen rs l x i)) = true := fun h => by
          rw [all_range_succ, Hgo.out, ← Hloo.out, h]; rfl
        have hend : lo = true → R = false := fun h => by
          rw [HR.out]
          refine List.all_eq_false.2 ⟨k, List.mem_range.2 hlt, ?_⟩
          rw [← Hloo.out, h]; simp
        have Hnext := hid hnext; have Hend := hid hend
        clear hnext hend
        by_cases hE : E = 0
        · subst hE
          by_cases hx : x < 0
          · have q1 : decide (x < 0) = true := decide_eq_true hx
            have q2 : decide (0 ≤ x) = false := decide_eq_false (by omega)
            have q3 : decide (x ≥ 0) = false := decide_eq_false (by omega)
            rw [if_pos hx] at Hlq
            clear hx
            cases C with
            | true =>
              have hRf := Hend.out Hlq.out
              subst hRf
              go_wp2
              go_ret
              exact ⟨rfl, HBt10.out⟩
            | false =>
              have Hn := hid (Hnext.out Hlq.out)
              go_wp2
              go_roundw
              case rel => exact ⟨k + 1, by omega, by go_num, Hn.out, bstep HB.out HB10.out⟩
              case measure => simp [intOf]; omega
          · have q1 : decide (x < 0) = false := decide_eq_false hx
            have q2 : decide (0 ≤ x) = true := decide_eq_true (by omega)
            have q3 : decide (x ≥ 0) = true := decide_eq_true (by omega)
            rw [if_neg hx] at Hlq
            clear hx
            obtain ⟨hv, hhv⟩ : ∃ b, b = L.contains x := ⟨_, rfl⟩
            rw [← hhv] at Hlq HH
            clear hhv
            cases hv with
            | true =>
              have hRf := Hend.out Hlq.out
              subst hRf
              go_wp2_with fail
              refine HH.out.mono ?_
              rintro e w11 ⟨rfl, rfl⟩
              go_wp2
              go_ret
              exact ⟨rfl, HBt10.out⟩
            | false =>
              have Hn := hid (Hnext.out Hlq.out)
              go_wp2_with fail
              refine HH.out.mono ?_
              rintro e w11 ⟨rfl, rfl⟩
              go_wp2
              go_roundw
              case rel => exact ⟨k + 1, by omega, by go_num, Hn.out, bstep HB.out HB10.out⟩
              case measure => simp [intOf]; omega
        · have hEb : (E == 0) = false := by simpa using hE
          have hEd : decide (E = 0) = false := decide_eq_false hE
          rw [hEd, Bool.false_and] at Hlq
          have Hn := hid (Hnext.out Hlq.out)
          clear hE hEd
          go_wp2
          go_roundw
          case rel => exact ⟨k + 1, by omega, by go_num, Hn.out, bstep HB.out HB10.out⟩
          case measure => simp [intOf]; omega
    · obtain rfl : k = l.length := by omega
      have hRt : R = true := HR.out.trans hgo
      subst hRt
      clear hgo
      go_wp2
      go_ret
      exact ⟨rfl, HBt.out⟩

end Go.Proofs.Ytkioejdddmnbmaa
