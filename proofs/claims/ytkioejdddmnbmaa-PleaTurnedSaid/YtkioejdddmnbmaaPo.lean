/- Plain: what a valid case answers about the fewest facts, and about an idle rule. -/
import Derived.Test.YtkioejdddmnbmaaPl
namespace Go.Proofs.Ytkioejdddmnbmaa

theorem before_len {a b : List Int} (h : beforeL a b = true) : a.length ≤ b.length := by
  unfold beforeL at h
  split at h
  · omega
  · simp only [decide_eq_true_eq] at h; omega
theorem out_sub (l : List Int) (k : Nat) : (outAt l k).Sublist l := by
  have h1 : (l.take k ++ l.drop (k + 1)).Sublist (l.take k ++ l.drop k) := (List.Sublist.refl _).append (List.drop_sublist_drop_left l (by omega))
  rw [List.take_append_drop] at h1; exact h1
theorem out_len {l : List Int} {k : Nat} (h : k < l.length) : (outAt l k).length + 1 = l.length := by
  unfold outAt; rw [List.length_append, List.length_take, List.length_drop]; omega
theorem clsh_iff {rs : List Rl} {S S' : Nat → Prop} (h : ∀ n, S n ↔ S' n) : Clsh rs S ↔ Clsh rs S' :=
  ⟨fun q => q.more (fun _ h => h) (fun n hn => .seen ((h n).1 hn)), fun q => q.more (fun _ h => h) (fun n hn => .seen ((h n).2 hn))⟩

/-- what was seen, but for some -/
def SeenL (seen M : List Int) (n : Nat) : Prop := SeenP seen n ∧ ¬ SeenP M n

theorem sub_test {s b : Nat} (hs : s < 2 ^ 12) (h : ∀ n, bt b n → bt s n) (n : Nat) : bt (s - b) n ↔ bt s n ∧ ¬ bt b n := by
  have hx : ∀ m, bt (s ^^^ b) m ↔ bt s m ∧ ¬ bt b m := fun m => by
    have := h m
    unfold bt at this ⊢
    rw [Nat.testBit_xor]
    cases h1 : s.testBit m <;> cases h2 : b.testBit m <;> simp_all
  rw [bits_minus hs (m := b) (r := s ^^^ b) (fun m => by
    rw [hx]
    constructor
    · intro q
      by_cases hb : bt b m
      · exact .inl hb
      · exact .inr ⟨q, hb⟩
    · rintro (q | q)
      · exact h m q
      · exact q.1) (fun m q q2 => ((hx m).1 q2).2 q)]
  exact hx n
theorem add_test {a t : Nat} (ha : a < 2 ^ 12) (ht : t < 12) (hn : ¬ bt a t) (n : Nat) : bt (a + 2 ^ t) n ↔ bt a n ∨ t = n := by
  have h2 : 2 ^ t < 2 ^ 12 := Nat.pow_lt_pow_right (by omega) ht
  have hz : a &&& 2 ^ t = 0 := by
    refine Nat.eq_of_testBit_eq fun m => ?_
    rw [Nat.testBit_and, Nat.zero_testBit, Nat.testBit_two_pow]
    by_cases e : t = m
    · subst e
      have : a.testBit t = false := by simpa [bt] using hn
      rw [this]; rfl
    · simp [e]
  rw [add_or ha h2 hz]
  exact bt_or

section
variable {f : Nat} {seen : List Int} {rs : List Rl}

theorem Valid.sub (h : Valid f seen rs) {M : List Int} (hM : M.Sublist seen) : Valid f M rs :=
  h.other (h.rise.sublist hM) (fun x hx => h.all x (hM.subset hx))
theorem Valid.list (h : Valid f seen rs) : listedB (bitsL seen) f = seen := listed_bits h.ok.f1 h.rise h.all
theorem Valid.part (h : Valid f seen rs) {b : Nat} (hb : ∀ n, bt b n → bt (bitsL seen) n) : (listedB b f).Sublist seen := by
  have := sub_of_bits (f := f) hb
  rw [h.list] at this; exact this
theorem and_in (b s : Nat) : ∀ n, bt (b &&& s) n → bt s n := fun n h => by
  unfold bt at h ⊢
  rw [Nat.testBit_and, Bool.and_eq_true] at h
  exact h.2
theorem Valid.goodN_iff (h : Valid f seen rs) {n : Nat} : goodN rs n seen = true ↔ Der rs (SeenP seen) n := by
  rw [goodN_bit h.ok]; exact derB_iff h.ok n

theorem Valid.needed (h : Valid f seen rs) {i : Nat} (hi : i < f) (hd : Der rs (SeenP seen) i) :
    pNeededE (f : Int) seen rs i = 0 ∧ (pNeededL (f : Int) seen rs i).Sublist seen ∧ Der rs (SeenP (pNeededL (f : Int) seen rs i)) i ∧
    ∀ M : List Int, M.Sublist seen → Der rs (SeenP M) i → (pNeededL (f : Int) seen rs i).length ≤ M.length := by
  have he : pNeededE (f : Int) seen rs i = 0 := (h.stepsD hi hd).1
  have h1 := he
  unfold pNeededE at h1
  split at h1
  · rename_i ho
    split at h1
    · cases h1
    · rename_i hk
      obtain ⟨L, hL⟩ := few_some (h.goodN_iff.2 hd)
      have hp : pNeededL (f : Int) seen rs i = L := by
        unfold pNeededL
        rw [if_pos ho, if_neg hk, Int.toNat_natCast, hL]; rfl
      obtain ⟨l1, l2, l3⟩ := few_spec h.rise hL
      rw [hp]
      refine ⟨he, l1, (h.sub l1).goodN_iff.1 l2, fun M m1 m2 => ?_⟩
      rcases l3 M m1 ((h.sub m1).goodN_iff.2 m2) with e | e
      · rw [e]; exact Nat.le_refl _
      · exact before_len e
  · rename_i ho; exact absurd h1 ho
theorem Valid.neededN (h : Valid f seen rs) {i : Nat} (hi : i < f) (hd : ¬ Der rs (SeenP seen) i) :
    pNeededE (f : Int) seen rs i = 5 ∧ pNeededL (f : Int) seen rs i = [] := by
  have he : pNeededE (f : Int) seen rs i = 5 := (h.stepsN hi hd).1
  refine ⟨he, ?_⟩
  have h1 := he
  unfold pNeededE at h1
  unfold pNeededL
  split
  · rename_i ho
    rw [if_pos ho] at h1
    split
    · rfl
    · rename_i hk; rw [if_neg hk] at h1; cases h1
  · rfl
theorem Valid.needed_out (h : Valid f seen rs) {i : Nat} (hi : i < f) (hd : Der rs (SeenP seen) i) {k : Nat} (hk : k < (pNeededL (f : Int) seen rs i).length) :
    pStepsE (f : Int) (outAt (pNeededL (f : Int) seen rs i) k) rs i = 5 := by
  obtain ⟨_, l1, _, l3⟩ := h.needed hi hd
  have hs := (out_sub (pNeededL (f : Int) seen rs i) k).trans l1
  refine ((h.sub hs).stepsN hi fun hq => ?_).1
  have := l3 _ hs hq
  have := out_len hk
  omega

/-! wrong -/
theorem Valid.goodW_iff (h : Valid f seen rs) (M : List Int) : goodW seen rs M = true ↔ ¬ Clsh rs (SeenL seen M) := by
  have hv : Valid f (leftL seen M) rs := h.sub List.filter_sublist
  unfold goodW
  rw [desk_cl hv.ok, Bool.not_eq_true', ← clsh_iff (S' := SeenL seen M) (fun n => seen_left (seen := seen) (l := M) (n := n)), ← hv.cl, Bool.not_eq_true]
theorem Valid.wrongN (h : Valid f seen rs) (he : pWrongE (f : Int) seen rs ≠ 0) :
    pWrongE (f : Int) seen rs = 5 ∧ pWrongL (f : Int) seen rs = [] ∧ ∀ M : List Int, M.Sublist seen → Clsh rs (SeenL seen M) := by
  unfold pWrongE pWrongL at *
  rw [if_pos h.z] at he ⊢
  rw [if_pos h.z]
  split at he
  · rename_i hn
    refine ⟨by rw [if_pos hn], by rw [hn]; rfl, fun M hM => ?_⟩
    have := few_none h.rise hn hM
    refine Classical.byContradiction fun hq => ?_
    rw [(h.goodW_iff M).2 hq] at this; cases this
  · exact absurd rfl he
theorem Valid.wrongD (h : Valid f seen rs) (he : pWrongE (f : Int) seen rs = 0) :
    (pWrongL (f : Int) seen rs).Sublist seen ∧ ¬ Clsh rs (SeenL seen (pWrongL (f : Int) seen rs)) ∧
    ∀ M : List Int, M.Sublist seen → ¬ Clsh rs (SeenL seen M) → (pWrongL (f : Int) seen rs).length ≤ M.length := by
  unfold pWrongE pWrongL at *
  rw [if_pos h.z] at he ⊢
  split at he
  · cases he
  · rename_i hn
    cases hL : fewM (goodW seen rs) seen with
    | none => exact absurd hL hn
    | some L =>
      rw [Option.getD_some]
      obtain ⟨l1, l2, l3⟩ := few_spec h.rise hL
      refine ⟨l1, (h.goodW_iff L).1 l2, fun M m1 m2 => ?_⟩
      rcases l3 M m1 ((h.goodW_iff M).2 m2) with e | e
      · rw [e]; exact Nat.le_refl _
      · exact before_len e
theorem left_nil (seen : List Int) (n : Nat) : SeenL seen [] n ↔ SeenP seen n := by
  unfold SeenL
  constructor
  · exact fun q => q.1
  · intro q
    refine ⟨q, ?_⟩
    unfold SeenP; simp
/-- listed from bits: what was seen but for some -/
theorem Valid.left_listed (h : Valid f seen rs) {M : List Int} (hM : M.Sublist seen) (n : Nat) : SeenP (listedB (bitsL seen - bitsL M) f) n ↔ SeenL seen M n := by
  have hm := (h.sub hM).ok.s
  have hin : ∀ n, bt (bitsL M) n → bt (bitsL seen) n := fun n hn => (bitsL_test h.ok.s n).2 (hM.subset ((bitsL_test hm n).1 hn))
  rw [seen_listed, sub_test (bitsL_lt h.ok.s) hin]
  unfold SeenL
  have e1 : bt (bitsL seen) n ↔ SeenP seen n := bitsL_test h.ok.s n
  have e2 : bt (bitsL M) n ↔ SeenP M n := bitsL_test hm n
  rw [e1, e2]
  exact ⟨fun q => q.2, fun q => ⟨h.ok.sl n q.1, q⟩⟩
theorem Valid.clsh_left (h : Valid f seen rs) {M : List Int} (hM : M.Sublist seen) : Clsh rs (SeenP (listedB (bitsL seen - bitsL M) f)) ↔ Clsh rs (SeenL seen M) := clsh_iff (h.left_listed hM)
theorem Valid.bits_part (h : Valid f seen rs) (b : Nat) : bitsL (listedB (b &&& bitsL seen) f) = b &&& bitsL seen :=
  bits_listed_self h.ok.f1 (lt_pow_of fun n hn => h.ok.sl n ((bitsL_test h.ok.s n).1 (and_in _ _ n hn)))
theorem Valid.wrong_left (h : Valid f seen rs) (he : pWrongE (f : Int) seen rs = 0) {k : Nat} (hk : k < (pWrongL (f : Int) seen rs).length) :
    Clsh rs (SeenP (listedB (bitsL seen - bitsL (pWrongL (f : Int) seen rs) + 2 ^ (nth (pWrongL (f : Int) seen rs) k).toNat) f)) := by
  obtain ⟨l1, l2, l3⟩ := h.wrongD he
  generalize hL : pWrongL (f : Int) seen rs = L at *
  have hs := (out_sub L k).trans l1
  have hcl : Clsh rs (SeenL seen (outAt L k)) := Classical.byContradiction fun hq => by
    have := l3 _ hs hq
    have := out_len hk
    omega
  have hm := (h.sub l1).ok.s
  have hin : ∀ n, bt (bitsL L) n → bt (bitsL seen) n := fun n hn => (bitsL_test h.ok.s n).2 (l1.subset ((bitsL_test hm n).1 hn))
  have h0 := h.all _ (l1.subset (nth_mem hk))
  have hb : bt (bitsL L) (nth L k).toNat := (bitsL_test hm _).2 (by
    unfold SeenP
    rw [Int.toNat_of_nonneg h0.1]; exact nth_mem hk)
  have hlt : bitsL seen - bitsL L < 2 ^ 12 := Nat.lt_of_le_of_lt (Nat.sub_le _ _) (bitsL_lt h.ok.s)
  refine hcl.more (fun _ h => h) fun n hn => .seen ?_
  rw [seen_listed, add_test hlt (by have := h.ok.f1; omega) (fun q => ((sub_test (bitsL_lt h.ok.s) hin _).1 q).2 hb), sub_test (bitsL_lt h.ok.s) hin]
  refine ⟨h.ok.sl n hn.1, ?_⟩
  by_cases e : (nth L k).toNat = n
  · exact .inr e
  · refine .inl ⟨(bitsL_test h.ok.s n).2 hn.1, fun q => hn.2 ?_⟩
    have hq : ((n : Nat) : Int) ∈ L := (bitsL_test hm n).1 q
    exact out_has hk hq (by omega)

/-! idle -/
theorem rule_split {k : Nat} (hk : k < rs.length) (r : Rl) : r ∈ rs ↔ r ∈ lessR rs k ∨ r = nthR rs k := by
  have e : rs = rs.take k ++ nthR rs k :: rs.drop (k + 1) := by
    have hd : rs.drop k = nthR rs k :: rs.drop (k + 1) := by
      rw [List.drop_eq_getElem_cons hk]
      unfold nthR
      rw [List.getD_eq_getElem?_getD, List.getElem?_eq_getElem hk]; rfl
    rw [← hd, List.take_append_drop]
  have e2 : r ∈ rs ↔ r ∈ rs.take k ++ nthR rs k :: rs.drop (k + 1) := by rw [← e]
  rw [e2]
  unfold lessR
  rw [List.mem_append, List.mem_append, List.mem_cons]
  constructor
  · rintro (q | q | q)
    · exact .inl (.inl q)
    · exact .inr q
    · exact .inl (.inr q)
  · rintro ((q | q) | q)
    · exact .inl q
    · exact .inr (.inr q)
    · exact .inr (.inl q)
theorem Valid.less (h : Valid f seen rs) (k : Nat) : Valid f seen (lessR rs k) := by
  obtain ⟨⟨f0, f1⟩, h2, h3, h4⟩ := case_zero h.z
  refine ⟨?_, h.ok.f1, h.ok.s, lessR_ok h.ok.r, h.ok.sl, fun r hm => h.ok.rl r (lessR_mem hm)⟩
  unfold caseErr
  rw [if_pos, if_pos]
  · rw [Bool.and_eq_true]
    exact ⟨h3, List.all_eq_true.2 fun r hr => List.all_eq_true.1 h4 r (lessR_mem hr)⟩
  · rw [Bool.and_eq_true]
    exact ⟨within_one.2 (by omega), decide_eq_true (Nat.le_trans lessR_len h2)⟩
theorem Valid.free (h : Valid f seen rs) : Valid f [] rs := h.sub (List.nil_sublist _)
theorem Valid.idle_same (h : Valid f seen rs) {k : Nat} (hk : k < rs.length) (hi : idleR f rs k = true) : truthsN f seen (lessR rs k) = truthsN f seen rs := by
  unfold truthsN
  refine List.filter_congr fun b hb => ?_
  rw [Bool.eq_iff_iff, truthB_iff h.ok.s (h.less k).ok.r, truthB_iff h.ok.s h.ok.r]
  constructor
  · rintro ⟨h1, h2⟩
    refine ⟨h1, fun r hr => ?_⟩
    rcases (rule_split hk r).1 hr with q | q
    · exact h2 r q
    · subst q
      unfold idleR at hi
      have := List.all_eq_true.1 hi b ((mem_truthsN (h.free.less k).ok).2 ⟨List.mem_range.1 hb, fun n hn => absurd hn (by unfold SeenP; simp), h2⟩)
      have hf := (rulesOk_mem h.ok.r hr).1
      intro hx
      exact (keeps_iff hf).1 this ((seenP_all hf (T := bt b)).1 hx)
  · rintro ⟨h1, h2⟩
    exact ⟨h1, fun r hr => h2 r (lessR_mem hr)⟩
theorem Valid.idle_not (h : Valid f seen rs) {k : Nat} (hk : k < rs.length) (hi : idleR f rs k = false) : (truthsN f [] rs).length < (truthsN f [] (lessR rs k)).length := by
  unfold idleR at hi
  obtain ⟨b, hb, hn⟩ := List.all_eq_false.1 hi
  have hf := (rulesOk_mem h.ok.r (nthR_mem hk)).1
  unfold truthsN
  rw [← List.countP_eq_length_filter, ← List.countP_eq_length_filter]
  refine countP_lt (fun x _ q => ?_) ⟨b, List.mem_range.2 (truthsN_lt hb), ?_, ?_⟩
  · rw [truthB_iff h.free.ok.s (h.free.less k).ok.r]
    have := (truthB_iff h.free.ok.s h.free.ok.r x).1 q
    exact ⟨this.1, fun r hr => this.2 r (lessR_mem hr)⟩
  · unfold truthsN at hb
    exact (List.mem_filter.1 hb).2
  · cases hq : truthB [] rs b with
    | false => rfl
    | true =>
      have := (truthB_iff h.free.ok.s h.free.ok.r b).1 hq
      refine absurd ((keeps_iff hf).2 fun hx => this.2 _ (nthR_mem hk) ((seenP_all hf (T := bt b)).2 hx)) hn
theorem Valid.idle_own (h : Valid f seen rs) {k : Nat} (hk : k < rs.length) (hi : idleR f rs k = false) : (nthR rs k).1.contains (nthR rs k).2 = false := by
  have hf := (rulesOk_mem h.ok.r (nthR_mem hk)).1
  cases hc : (nthR rs k).1.contains (nthR rs k).2 with
  | false => rfl
  | true =>
    rw [List.contains_iff_mem] at hc
    unfold idleR at hi
    obtain ⟨b, hb, hn⟩ := List.all_eq_false.1 hi
    have h0 := factsOk_mem hf hc
    refine absurd ((keeps_iff hf).2 fun hx => ⟨h0.1, hx _ ?_⟩) hn
    unfold SeenP
    rw [Int.toNat_of_nonneg h0.1]; exact hc
theorem Valid.idleB (h : Valid f seen rs) {k : Nat} (hk : k < rs.length) : pIdleB (f : Int) seen rs k = idleR f rs k ∧ pIdleE (f : Int) seen rs k = 0 := by
  have h1 := idle_eq (x := (k : Int)) (facts := (f : Int)) (seen := seen) h.il
  rw [h1.1, h1.2]
  unfold rIdleB rIdleE
  rw [if_pos h.z, if_pos h.z, if_pos (by omega), if_pos (by omega), Int.toNat_natCast, Int.toNat_natCast]
  exact ⟨rfl, rfl⟩
theorem Valid.idle_truth (h : Valid f seen rs) {k : Nat} (hk : k < rs.length) (hi : idleR f rs k = true) (b : Nat) :
    truthErr (f : Int) seen (lessR rs k) (listedB b f) = truthErr (f : Int) seen rs (listedB b f) := by
  have e : truthB seen (lessR rs k) (bitsL (listedB b f)) = truthB seen rs (bitsL (listedB b f)) := by
    rw [Bool.eq_iff_iff, (h.less k).truth_iff, h.truth_iff, h.idle_same hk hi]
  rw [(h.less k).truth, h.truth, e]
end

end Go.Proofs.Ytkioejdddmnbmaa
