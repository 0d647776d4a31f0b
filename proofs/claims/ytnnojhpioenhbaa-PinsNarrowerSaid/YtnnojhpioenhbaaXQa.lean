/- The laws, plain: which levels agree, refutations, pays that rise, pays that are compared. -/
import Derived.Test.YtnnojhpioenhbaaKM
import Derived.Test.YtnnojhpioenhbaaKI
import Derived.Test.YtnnojhpioenhbaaKG
import Derived.Test.YtnnojhpioenhbaaKF
namespace Go.Proofs.Ytnnojhpioenhbaa
open Go.RowKit Go.Shelf

theorem levels_mem {B : Bd} {R : Rd} {lv : Int} : lv ∈ levelsL B R ↔ (-5 ≤ lv ∧ lv ≤ 5) ∧ okL B R lv = true := by
  unfold levelsL; rw [lvlK_mem]; constructor <;> (rintro ⟨h1, h2⟩; exact ⟨by omega, h2⟩)

theorem okL_ag {B : Bd} {R : Rd} {lv : Int} (h : okL B R lv = true) : ∀ i, i < manyN R → agB B R lv i = true := by
  have h := of_decide_eq_true h
  obtain ⟨k, hk, h1, h2, h3⟩ := firstN_spec (agB B R lv) (manyN R)
  have e : firstR B R lv = k := hk
  intro i hi
  exact allTo_iff.1 h2 i (by omega)
theorem okL_of {B : Bd} {R : Rd} {lv : Int} (h : ∀ i, i < manyN R → agB B R lv i = true) : okL B R lv = true := by
  obtain ⟨k, hk, h1, h2, h3⟩ := firstN_spec (agB B R lv) (manyN R)
  have e : firstR B R lv = k := hk
  refine decide_eq_true ?_
  rw [e]
  by_cases hlt : k < manyN R
  · have := h3 hlt; rw [h k hlt] at this; cases this
  · omega
theorem notOk_ag {B : Bd} {R : Rd} {lv : Int} (h : okL B R lv = false) : firstR B R lv < manyN R ∧ agB B R lv (firstR B R lv) = false := by
  have h := of_decide_eq_false h
  obtain ⟨k, hk, h1, h2, h3⟩ := firstN_spec (agB B R lv) (manyN R)
  have e : firstR B R lv = k := hk
  rw [e] at h ⊢
  exact ⟨by omega, h3 (by omega)⟩

theorem crErr_zero {B : Bd} {R : Rd} {xs : List Int} : crErr B R xs = 0 ↔ readErr B R = 0 ∧ xs.length = 11 ∧ within 0 ((manyN R : Int) - 1) xs = true ∧ allTo (noAg B R xs) 11 = true := by
  unfold crErr
  by_cases h0 : readErr B R = 0
  · rw [if_pos h0]
    by_cases h1 : xs.length = 11
    · rw [if_pos h1]
      by_cases h2 : within 0 ((manyN R : Int) - 1) xs = true
      · rw [if_pos h2]
        by_cases h3 : allTo (noAg B R xs) 11 = true
        · rw [if_pos h3]; exact ⟨fun _ => ⟨h0, h1, h2, h3⟩, fun _ => rfl⟩
        · rw [if_neg h3]; exact ⟨fun h => by omega, fun h => absurd h.2.2.2 h3⟩
      · rw [if_neg h2]; exact ⟨fun h => by omega, fun h => absurd h.2.2.1 h2⟩
    · rw [if_neg h1]; exact ⟨fun h => by omega, fun h => absurd h.2.1 h1⟩
  · rw [if_neg h0]; exact ⟨fun h => absurd h h0, fun h => absurd h.1 h0⟩

/-- some level agrees: no list is a refutation -/
theorem cr_not {B : Bd} {R : Rd} {xs : List Int} (h : ¬ levelsL B R = []) : ¬ crErr B R xs = 0 := by
  intro h0
  obtain ⟨_, h1, h2, h3⟩ := crErr_zero.1 h0
  obtain ⟨lv, hlv⟩ := List.exists_mem_of_ne_nil _ h
  obtain ⟨hb, ho⟩ := levels_mem.1 hlv
  obtain ⟨k, hk⟩ := Int.eq_ofNat_of_zero_le (a := lv + 5) (by omega)
  have e : ((k : Nat) : Int) - 5 = lv := by omega
  have h4 := allTo_iff.1 h3 k (by omega)
  unfold noAg at h4
  rw [e] at h4
  have hx : nth xs k ∈ xs := nth_mem (by omega)
  have h5 := List.all_eq_true.1 h2 _ hx
  simp only [Bool.and_eq_true, decide_eq_true_eq] at h5
  rw [okL_ag ho _ (by omega)] at h4
  cases h4
/-- no level agrees: the first readings with which levels do not agree are a refutation -/
theorem cr_ref {B : Bd} {R : Rd} (h0 : readErr B R = 0) (h : levelsL B R = []) : refX B R = refK (firstR B R) 11 ∧ crErr B R (refX B R) = 0 := by
  have hno : ∀ k : Nat, k < 11 → okL B R ((k : Int) - 5) = false := fun k hk => by
    cases ho : okL B R ((k : Int) - 5) with
    | false => rfl
    | true =>
      have : ((k : Int) - 5) ∈ levelsL B R := levels_mem.2 ⟨by omega, ho⟩
      rw [h] at this; cases this
  have e : refX B R = refK (firstR B R) 11 := by
    unfold refX
    rw [if_pos (by unfold refErr; rw [if_pos h0, if_pos h])]
  refine ⟨e, ?_⟩
  rw [e]
  have hn : ∀ k, k < 11 → nth (refK (firstR B R) 11) k = (firstR B R ((k : Int) - 5) : Nat) := fun k hk => by
    rw [nth_eq (by rw [refK_len]; exact hk)]; simp [refK]
  refine crErr_zero.2 ⟨h0, refK_len _ _, List.all_eq_true.2 fun x hx => ?_, allTo_iff.2 fun k hk => ?_⟩
  · obtain ⟨k, hk, rfl⟩ := List.mem_map.1 hx
    have := (notOk_ag (hno k (List.mem_range.1 hk))).1
    simp only [Bool.and_eq_true, decide_eq_true_eq]; omega
  · unfold noAg
    rw [hn k hk, Int.toNat_natCast, (notOk_ag (hno k hk)).2]; rfl

/-- sums by parts -/
theorem sumTo_parts {a S y : Nat → Int} (h : ∀ j, S j = a j + S (j + 1)) : ∀ k, sumTo (fun i => a i * y i) (k + 1) = y 0 * S 0 + sumTo (fun i => (y (i + 1) - y i) * S (i + 1)) k - S (k + 1) * y k := by
  intro k
  induction k with
  | zero =>
    have h0 := h 0
    simp only [sumTo, Int.zero_add, Int.add_zero]
    rw [h0, Int.mul_add, Int.mul_comm (y 0) (a 0), Int.mul_comm (y 0) (S (0 + 1))]
    simp only [Nat.zero_add]; omega
  | succ k ih =>
    have h1 := h (k + 1)
    have e1 : sumTo (fun i => a i * y i) (k + 1 + 1) = sumTo (fun i => a i * y i) (k + 1) + a (k + 1) * y (k + 1) := rfl
    have e2 : sumTo (fun i => (y (i + 1) - y i) * S (i + 1)) (k + 1) = sumTo (fun i => (y (i + 1) - y i) * S (i + 1)) k + (y (k + 1) - y k) * S (k + 1) := rfl
    rw [e1, e2, ih]
    have e3 : a (k + 1) = S (k + 1) - S (k + 1 + 1) := by omega
    rw [e3, Int.sub_mul, Int.sub_mul, Int.mul_comm (y (k + 1)) (S (k + 1)), Int.mul_comm (y k) (S (k + 1))]
    omega
/-- a greater level does not pay less where no pay is less than the one before it -/
theorem payN_le {B : Bd} (hB : Bok B) {lo hi : Int} (hl : lo ≤ hi) (hr : ∀ i, i < B.pins.length → nth B.pays i ≤ nth B.pays (i + 1)) : payN B lo ≤ payN B hi := by
  have hS : ∀ r j, r ≤ B.pins.length → Sf (Rt B lo) r j ≤ Sf (Rt B hi) r j := fun r j h => Sf_le (Rt_ok B lo B.pins.length) (Rt_ok B hi B.pins.length) (fun r k _ _ => by unfold Rt; generalize nth (nthL B.pins r) k = z; omega) r h j
  unfold payN
  rw [sumTo_parts (S := Sf (Rt B lo) B.pins.length) (Sf_succ _ _), sumTo_parts (S := Sf (Rt B hi) B.pins.length) (Sf_succ _ _), Sf_far (Rt B lo) (Nat.lt_succ_self B.pins.length), Sf_far (Rt B hi) (Nat.lt_succ_self B.pins.length), Int.zero_mul]
  have h0 := (hB.pay 0 (by omega)).1
  have h1 := Int.mul_le_mul_of_nonneg_left (hS B.pins.length 0 (Nat.le_refl _)) h0
  have h2 : sumTo (fun i => (nth B.pays (i + 1) - nth B.pays i) * Sf (Rt B lo) B.pins.length (i + 1)) B.pins.length ≤ sumTo (fun i => (nth B.pays (i + 1) - nth B.pays i) * Sf (Rt B hi) B.pins.length (i + 1)) B.pins.length :=
    sumTo_le fun i hi => Int.mul_le_mul_of_nonneg_left (hS _ _ (Nat.le_refl _)) (by have := hr i hi; omega)
  omega

/-- what a board pays, compared -/
theorem lessP_lst {d a p q : Int} (hd : 0 < d) (ha : 0 < a) (h : d * a = 100000000) : lessP (lst p d) (lst q d) = decide (p < q) := by
  unfold lessP
  rw [← h, lst_over hd, lst_over hd]
  apply decide_eq_decide.2
  constructor
  · intro h1; exact Int.lt_of_mul_lt_mul_right h1 (Int.le_of_lt ha)
  · intro h1; exact Int.mul_lt_mul_of_pos_right h1 ha
theorem pow_split {n : Nat} (h : n ≤ 8) : (0 : Int) < 10 ^ n ∧ (0 : Int) < 10 ^ (8 - n) ∧ (10 : Int) ^ n * 10 ^ (8 - n) = 100000000 := by
  refine ⟨Int.pow_pos (by omega), Int.pow_pos (by omega), ?_⟩
  rw [← Int.pow_add, show n + (8 - n) = 8 by omega]; rfl
theorem lessP_pay {B : Bd} (hB : Bok B) (p q : Int) : lessP (lst p (10 ^ B.pins.length)) (lst q (10 ^ B.pins.length)) = decide (p < q) := by
  obtain ⟨h1, h2, h3⟩ := pow_split hB.n8
  exact lessP_lst h1 h2 h3
theorem payB_pay {B : Bd} (hB : Bok B) {lv : Int} (hlv : -5 ≤ lv ∧ lv ≤ 5) : payB (payQ B lv) = true := by
  obtain ⟨hf, h5⟩ := payQ_fit hB lv hlv
  have h1 := lst_pos (n := payN B lv) (pow_split hB.n8).1
  have h2 := lst_den_le (n := payN B lv) (pow_split hB.n8).1
  have h3 := lst_nonneg (d := 10 ^ B.pins.length) (paySum_le hB lv (Nat.le_refl _)).1
  have h4 : (10 : Int) ^ B.pins.length ≤ 100000000 := by
    have h1 : 10 ^ B.pins.length ≤ 10 ^ 8 := Nat.pow_le_pow_right (by omega) hB.n8
    have h2 : ((10 ^ B.pins.length : Nat) : Int) ≤ ((10 ^ 8 : Nat) : Int) := Int.ofNat_le.2 h1
    simpa using h2
  have e : payQ B lv = lst (payN B lv) (10 ^ B.pins.length) := rfl
  rw [payB_iff]
  rw [e] at h5 ⊢
  exact ⟨⟨by omega, h3⟩, h5⟩

end Go.Proofs.Ytnnojhpioenhbaa
