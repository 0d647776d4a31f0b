/- Plain: what the reference's rounds find; truths by bits and by marks. No condition but those of a valid case. -/
import Derived.Test.YtkioejdddmnbmaaHa
namespace Go.Proofs.Ytkioejdddmnbmaa
open Go.RowKit

def bt (b : Nat) : Nat → Prop := fun n => b.testBit n = true
theorem bitsL_test {l : List Int} (h : factsOk l) (n : Nat) : (bitsL l).testBit n = true ↔ SeenP l n := by
  unfold bitsL
  rw [bitsTo_test, List.any_eq_true]
  unfold SeenP
  rw [nth_mem_iff]
  constructor
  · rintro ⟨i, hi, he⟩
    have hi' := List.mem_range.1 hi
    refine ⟨i, hi', ?_⟩
    have := h i hi'
    have he' : (nth l i).toNat = n := by simpa using he
    omega
  · rintro ⟨i, hi, he⟩
    exact ⟨i, List.mem_range.2 hi, by rw [he]; simp⟩
theorem seenP_all {l : List Int} (h : factsOk l) {T : Nat → Prop} : (∀ x ∈ l, T x.toNat) ↔ ∀ n, SeenP l n → T n := by
  constructor
  · intro h2 n hn
    have := h2 _ hn
    simpa using this
  · intro h2 x hx
    have h3 := factsOk_mem h hx
    refine h2 _ ?_
    unfold SeenP
    rw [Int.toNat_of_nonneg h3.1]; exact hx
theorem and_self_iff {a b : Nat} : a &&& b = b ↔ ∀ n, b.testBit n = true → a.testBit n = true := by
  constructor
  · intro h n hn
    have := congrArg (fun x => x.testBit n) h
    simp only [Nat.testBit_and, hn, Bool.and_true] at this
    exact this
  · intro h
    refine Nat.eq_of_testBit_eq (fun n => ?_)
    rw [Nat.testBit_and]
    cases hb : b.testBit n with
    | false => simp
    | true => rw [h n hb]; rfl
theorem bits_has {b : Nat} {l : List Int} (h : factsOk l) : b &&& bitsL l = bitsL l ↔ ∀ x ∈ l, bt b x.toNat := by
  rw [and_self_iff, seenP_all h]
  exact ⟨fun h2 n hn => h2 n ((bitsL_test h n).2 hn), fun h2 n hn => h2 n ((bitsL_test h n).1 hn)⟩

/-- the reference's rounds -/
def kn1 (rs : List Rl) (s : Nat × Bool) (i : Nat) : Nat × Bool :=
  if s.1 &&& bitsL (nthR rs i).1 = bitsL (nthR rs i).1 then (if (nthR rs i).2 < 0 then (s.1, true) else (s.1 ||| 2 ^ (nthR rs i).2.toNat, s.2)) else s
def knTo (rs : List Rl) (s : Nat × Bool) : Nat → Nat × Bool
  | 0 => s
  | k + 1 => kn1 rs (knTo rs s k) k
def knRounds (rs : List Rl) (s : Nat × Bool) : Nat → Nat × Bool
  | 0 => s
  | n + 1 => knTo rs (knRounds rs s n) rs.length
def knownR (rs : List Rl) (b : Nat) : Nat × Bool := knRounds rs (b, false) (rs.length + 1)

structure KInv (rs : List Rl) (S : Nat → Prop) (s : Nat × Bool) : Prop where
  sound : ∀ n, bt s.1 n → Der rs S n
  seen : ∀ n, S n → bt s.1 n
  cl : s.2 = true → Clsh rs S
theorem bt_or {b n k : Nat} : bt (b ||| 2 ^ n) k ↔ bt b k ∨ n = k := by
  unfold bt
  rw [Nat.testBit_or, Nat.testBit_two_pow, Bool.or_eq_true, decide_eq_true_iff]
theorem KInv.step {rs : List Rl} {S : Nat → Prop} {s : Nat × Bool} (h : KInv rs S s) (hro : rulesOk rs) {i : Nat} (hi : i < rs.length) : KInv rs S (kn1 rs s i) := by
  unfold kn1
  split
  · rename_i hh
    have hall := (bits_has (hro i hi).1).1 hh
    split
    · rename_i h0
      exact ⟨h.sound, h.seen, fun _ => ⟨_, nthR_mem hi, h0, fun x hx => h.sound _ (hall x hx)⟩⟩
    · rename_i h0
      refine ⟨fun n hn => ?_, fun n hn => bt_or.2 (.inl (h.seen n hn)), h.cl⟩
      rcases bt_or.1 hn with hn | rfl
      · exact h.sound n hn
      · exact .rule (nthR_mem hi) (by omega) (fun x hx => h.sound _ (hall x hx))
  · exact h
theorem KInv.to {rs : List Rl} {S : Nat → Prop} {s : Nat × Bool} (h : KInv rs S s) (hro : rulesOk rs) : ∀ k, k ≤ rs.length → KInv rs S (knTo rs s k)
  | 0, _ => h
  | k + 1, hk => (h.to hro k (by omega)).step hro (by omega)
theorem kn1_mono (rs : List Rl) (s : Nat × Bool) (i n : Nat) (h : bt s.1 n) : bt (kn1 rs s i).1 n := by
  unfold kn1
  split
  · split
    · exact h
    · exact bt_or.2 (.inl h)
  · exact h
theorem knTo_mono (rs : List Rl) (s : Nat × Bool) {j k : Nat} (hjk : j ≤ k) (n : Nat) (h : bt (knTo rs s j).1 n) : bt (knTo rs s k).1 n := by
  induction k with
  | zero => obtain rfl : j = 0 := by omega
            exact h
  | succ k ih =>
    by_cases e : j = k + 1
    · subst e; exact h
    · exact kn1_mono rs _ k n (ih (by omega))
theorem kn1_cl (rs : List Rl) (s : Nat × Bool) (i : Nat) (h : s.2 = true) : (kn1 rs s i).2 = true := by
  unfold kn1
  split
  · split
    · rfl
    · exact h
  · exact h
theorem knTo_cl (rs : List Rl) (s : Nat × Bool) {j k : Nat} (hjk : j ≤ k) (h : (knTo rs s j).2 = true) : (knTo rs s k).2 = true := by
  induction k with
  | zero => obtain rfl : j = 0 := by omega
            exact h
  | succ k ih =>
    by_cases e : j = k + 1
    · subst e; exact h
    · exact kn1_cl rs _ k (ih (by omega))

/-- rules whose conclusion is known -/
def satR (b : Nat) (r : Rl) : Bool := decide (0 ≤ r.2) && b.testBit r.2.toNat
theorem countP_lt {α : Type} {p q : α → Bool} : ∀ {l : List α}, (∀ x ∈ l, p x = true → q x = true) → (∃ x ∈ l, q x = true ∧ p x = false) → l.countP p < l.countP q
  | [], _, h => by obtain ⟨x, hx, _⟩ := h; cases hx
  | y :: l, h, he => by
    have hle : l.countP p ≤ l.countP q := List.countP_mono_left (fun x hx => h x (by simp [hx]))
    rw [List.countP_cons, List.countP_cons]
    obtain ⟨x, hx, h1, h2⟩ := he
    rcases List.mem_cons.1 hx with rfl | hx
    · rw [h1, h2]; simp; omega
    · have ih := countP_lt (l := l) (fun x hx => h x (by simp [hx])) ⟨x, hx, h1, h2⟩
      have := h y (by simp)
      cases hp : p y with
      | false => simp; split <;> omega
      | true => rw [this hp]; simp; omega

/-- a round ends closed, or one more rule's conclusion is known -/
theorem round_or {rs : List Rl} (hro : rulesOk rs) (s : Nat × Bool) :
    (∀ r ∈ rs, 0 ≤ r.2 → (∀ x ∈ r.1, bt s.1 x.toNat) → bt s.1 r.2.toNat) ∨ rs.countP (satR s.1) < rs.countP (satR (knTo rs s rs.length).1) := by
  by_cases hc : ∀ r ∈ rs, 0 ≤ r.2 → (∀ x ∈ r.1, bt s.1 x.toNat) → bt s.1 r.2.toNat
  · exact .inl hc
  · right
    simp only [Classical.not_forall] at hc
    obtain ⟨r, hm, h0, hall, hn⟩ := hc
    obtain ⟨i, hi, rfl⟩ := mem_nthR hm
    have hmono : ∀ n, bt s.1 n → bt (knTo rs s rs.length).1 n := fun n h => knTo_mono rs s (Nat.zero_le _) n h
    refine countP_lt (fun x _ h => ?_) ⟨_, hm, ?_, ?_⟩
    · unfold satR at h ⊢
      rw [Bool.and_eq_true] at h ⊢
      exact ⟨h.1, hmono _ h.2⟩
    · unfold satR
      rw [Bool.and_eq_true]
      refine ⟨decide_eq_true h0, ?_⟩
      refine knTo_mono rs s (j := i + 1) (by omega) _ ?_
      have hb : (knTo rs s i).1 &&& bitsL (nthR rs i).1 = bitsL (nthR rs i).1 := (bits_has (hro i hi).1).2 (fun x hx => knTo_mono rs s (Nat.zero_le _) _ (hall x hx))
      show bt (kn1 rs (knTo rs s i) i).1 _
      unfold kn1
      rw [if_pos hb, if_neg (by omega)]
      exact bt_or.2 (.inr rfl)
    · unfold satR
      rw [decide_eq_true h0, Bool.true_and]
      exact Bool.eq_false_iff.2 hn

theorem KInv.rounds {rs : List Rl} {S : Nat → Prop} {s : Nat × Bool} (h : KInv rs S s) (hro : rulesOk rs) : ∀ n, KInv rs S (knRounds rs s n)
  | 0 => h
  | n + 1 => (h.rounds hro n).to hro _ (Nat.le_refl _)
theorem closed_stays {rs : List Rl} (hro : rulesOk rs) {s : Nat × Bool} (hc : ∀ r ∈ rs, 0 ≤ r.2 → (∀ x ∈ r.1, bt s.1 x.toNat) → bt s.1 r.2.toNat) : ∀ k, k ≤ rs.length → (knTo rs s k).1 = s.1
  | 0, _ => rfl
  | k + 1, hk => by
    have ih := closed_stays hro hc k (by omega)
    show (kn1 rs (knTo rs s k) k).1 = s.1
    unfold kn1
    split
    · rename_i hh
      rw [ih] at hh
      split
      · exact ih
      · have := hc _ (nthR_mem (show k < rs.length by omega)) (by omega) ((bits_has (hro k (by omega)).1).1 hh)
        show (knTo rs s k).1 ||| _ = _
        rw [ih]
        refine Nat.eq_of_testBit_eq (fun n => ?_)
        rw [Nat.testBit_or, Nat.testBit_two_pow]
        by_cases e : (nthR rs k).2.toNat = n
        · subst e
          have h2 : s.1.testBit (nthR rs k).2.toNat = true := this
          rw [h2]; simp
        · simp [e]
    · exact ih
theorem rounds_or {rs : List Rl} (hro : rulesOk rs) (s : Nat × Bool) : ∀ n, (∀ r ∈ rs, 0 ≤ r.2 → (∀ x ∈ r.1, bt (knRounds rs s n).1 x.toNat) → bt (knRounds rs s n).1 r.2.toNat) ∨ n ≤ rs.countP (satR (knRounds rs s n).1)
  | 0 => .inr (Nat.zero_le _)
  | n + 1 => by
    rcases rounds_or hro s n with h | h
    · left
      have := closed_stays hro h rs.length (Nat.le_refl _)
      rw [knRounds, this]
      exact h
    · rcases round_or hro (knRounds rs s n) with h2 | h2
      · left
        have := closed_stays hro h2 rs.length (Nat.le_refl _)
        rw [knRounds, this]
        exact h2
      · right
        rw [knRounds]
        omega

structure KEnd (rs : List Rl) (S : Nat → Prop) (s : Nat × Bool) : Prop where
  full : ∀ n, bt s.1 n ↔ Der rs S n
  cl : s.2 = true ↔ Clsh rs S

theorem knownR_end {rs : List Rl} (hro : rulesOk rs) (b : Nat) : KEnd rs (bt b) (knownR rs b) := by
  have h0 : KInv rs (bt b) (b, false) := ⟨fun n h => .seen h, fun n h => h, fun h => by cases h⟩
  have hI := h0.rounds hro
  have hcl : ∀ r ∈ rs, 0 ≤ r.2 → (∀ x ∈ r.1, bt (knRounds rs (b, false) rs.length).1 x.toNat) → bt (knRounds rs (b, false) rs.length).1 r.2.toNat := by
    rcases rounds_or hro (b, false) rs.length with h | h
    · exact h
    · intro r hm h0 _
      have h2 := Nat.le_antisymm h List.countP_le_length
      have h3 := List.countP_eq_length.1 h2.symm r hm
      unfold satR at h3
      rw [Bool.and_eq_true] at h3
      exact h3.2
  have he : (knownR rs b).1 = (knRounds rs (b, false) rs.length).1 := closed_stays hro hcl rs.length (Nat.le_refl _)
  have hfull : ∀ n, bt (knownR rs b).1 n ↔ Der rs (bt b) n := by
    intro n
    refine ⟨(hI _).sound n, fun h => ?_⟩
    rw [he]
    exact h.least (hI _).seen (fun r h1 h2 h3 => hcl r h1 h2 h3)
  refine ⟨hfull, (hI _).cl, ?_⟩
  rintro ⟨r, hm, h0, hx⟩
  obtain ⟨i, hi, rfl⟩ := mem_nthR hm
  refine knTo_cl rs _ (j := i + 1) (by omega) ?_
  have hb : (knTo rs (knRounds rs (b, false) rs.length) i).1 &&& bitsL (nthR rs i).1 = bitsL (nthR rs i).1 :=
    (bits_has (hro i hi).1).2 (fun x hx' => knTo_mono rs _ (Nat.zero_le _) _ (by
      have := (hfull _).2 (hx x hx')
      rw [he] at this
      exact this))
  show (kn1 rs (knTo rs (knRounds rs (b, false) rs.length) i) i).2 = true
  unfold kn1
  rw [if_pos hb, if_pos h0]

/-! truths -/
theorem closed_kept {T : Nat → Prop} {rs : List Rl} {k : Rl → Bool} (h : ∀ r ∈ rs, k r = true ↔ ((∀ x ∈ r.1, T x.toNat) → 0 ≤ r.2 ∧ T r.2.toNat)) : rs.all k = true ↔ Closed rs T := by
  rw [List.all_eq_true]
  exact ⟨fun h2 r hr => (h r hr).1 (h2 r hr), fun h2 r hr => (h r hr).2 (h2 r hr)⟩
theorem truthB_iff {seen : List Int} {rs : List Rl} (hs : factsOk seen) (hr : rulesOk rs) (b : Nat) : truthB seen rs b = true ↔ (∀ n, SeenP seen n → bt b n) ∧ Closed rs (bt b) := by
  unfold truthB
  rw [Bool.and_eq_true, beq_iff_eq, bits_has hs, seenP_all hs, closed_kept]
  intro r hm
  obtain ⟨h1, _, h3, _⟩ := rulesOk_mem hr hm
  unfold keepsB
  rw [Bool.or_eq_true, Bool.and_eq_true, decide_eq_true_iff, Bool.not_eq_true', ← bits_has h1]
  constructor
  · rintro (h | h) h2
    · rw [beq_eq_false_iff_ne] at h; exact absurd h2 h
    · exact h
  · intro h
    by_cases h2 : b &&& bitsL r.1 = bitsL r.1
    · exact .inr (h h2)
    · exact .inl (beq_eq_false_iff_ne.2 h2)
theorem isTruthM_iff {seen : List Int} {rs : List Rl} (hs : factsOk seen) (hr : rulesOk rs) (m : List Int) : isTruthM seen rs m = true ↔ (∀ n, SeenP seen n → nth m n ≠ 0) ∧ Closed rs (fun n => nth m n ≠ 0) := by
  unfold isTruthM
  rw [Bool.and_eq_true, hasM_iff, seenP_all hs (T := fun n => nth m n ≠ 0), closed_kept]
  intro r hm
  obtain ⟨h1, _, h3, _⟩ := rulesOk_mem hr hm
  unfold keptM
  rw [Bool.or_eq_true, Bool.and_eq_true, decide_eq_true_iff, Bool.not_eq_true', ← hasM_iff, hasM_iff (l := [r.2])]
  constructor
  · rintro (h | h) h2
    · rw [h] at h2; cases h2
    · exact ⟨h.1, h.2 _ (by simp)⟩
  · intro h
    cases h2 : hasM m r.1 with
    | true =>
      have := h h2
      exact .inr ⟨this.1, fun x hx => by rw [List.mem_singleton.1 hx]; exact this.2⟩
    | false => exact .inl rfl

end Go.Proofs.Ytkioejdddmnbmaa
