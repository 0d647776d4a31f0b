/- Both feeds together, plain: they generate the sum of both rows. -/
import Derived.Test.YtjnijhnphhpilaaPp
import Derived.Test.YtjnijhnphhpilaaWq
namespace Go.Proofs.Ytjnijhnphhpilaa
open Go.RowKit

/-- the product of two feeds -/
def conv (C D : Nat → Bool) (k : Nat) : Bool := xsum (k + 1) (fun i => C i && D (k - i))

/-- the product, summed over a row: first one feed, then the other -/
theorem conv_sum {C D s : Nat → Bool} {L M t : Nat} (dC : ∀ k, L < k → C k = false) (dD : ∀ k, M < k → D k = false) :
    xsum (L + M + 1) (fun k => conv C D k && s (t - k)) = xsum (L + 1) (fun i => C i && xsum (M + 1) (fun j => D j && s (t - i - j))) := by
  have e1 : xsum (L + M + 1) (fun k => conv C D k && s (t - k)) = xsum (L + M + 1) (fun k => xsum (L + M + 1) (fun i => C i && ((decide (i ≤ k) && D (k - i)) && s (t - k)))) := by
    refine xsum_congr (fun k hk => ?_)
    unfold conv
    rw [Bool.and_comm, ← xsum_and, xsum_le (n := k + 1) (m := L + M + 1) (f := fun i => C i && ((decide (i ≤ k) && D (k - i)) && s (t - k))) (by omega) (fun i hi _ => by rw [decide_eq_false (by omega)]; simp)]
    refine xsum_congr (fun i hi => ?_)
    rw [decide_eq_true (by omega)]
    cases C i <;> cases D (k - i) <;> cases s (t - k) <;> rfl
  rw [e1, xsum_swap (fun k i => C i && ((decide (i ≤ k) && D (k - i)) && s (t - k)))]
  rw [xsum_le (n := L + 1) (by omega) (fun i hi _ => xsum_zero (fun k _ => by rw [dC i (by omega)]; rfl))]
  refine xsum_congr (fun i hi => ?_)
  rw [xsum_and]
  congr 1
  rw [xsum_le (n := i + M + 1) (by omega) (fun k hk _ => by rw [dD (k - i) (by omega)]; simp)]
  exact xsum_shift D s i M t

theorem conv_comm (C D : Nat → Bool) (k : Nat) : conv C D k = conv D C k := by
  unfold conv
  rw [xsum_rev]
  refine xsum_congr (fun i hi => ?_)
  rw [show k - (k + 1 - 1 - i) = i from by omega, show k + 1 - 1 - i = k - i from by omega, Bool.and_comm]

theorem conv_deg {C D : Nat → Bool} {L M : Nat} (dC : ∀ k, L < k → C k = false) (dD : ∀ k, M < k → D k = false) {k : Nat} (hk : L + M < k) : conv C D k = false := by
  unfold conv
  refine xsum_zero (fun i hi => ?_)
  by_cases h : L < i
  · rw [dC i h]; rfl
  · rw [dD (k - i) (by omega)]; simp

theorem conv_one {C D : Nat → Bool} (h1 : C 0 = true) (h2 : D 0 = true) : conv C D 0 = true := by
  unfold conv; simp [xsum, h1, h2]

/-- the product generates what one of both generates -/
theorem Fed.conv_right {C D s : Nat → Bool} {L M N : Nat} (hD : Fed D M N s) (h1 : C 0 = true) (dC : ∀ k, L < k → C k = false) (dD : ∀ k, M < k → D k = false) : Fed (conv C D) (L + M) N s :=
  ⟨conv_one h1 hD.1, fun t t1 t2 => by
    rw [conv_sum dC dD]
    exact xsum_zero (fun i hi => by rw [hD.2 (t - i) (by omega) (by omega)]; simp)⟩

theorem Fed.conv_left {C D s : Nat → Bool} {L M N : Nat} (hC : Fed C L N s) (h1 : D 0 = true) (dC : ∀ k, L < k → C k = false) (dD : ∀ k, M < k → D k = false) : Fed (conv C D) (L + M) N s := by
  have h := Fed.conv_right (C := D) (L := M) hC h1 dD dC
  rw [Nat.add_comm M L] at h
  exact h.congr (fun k _ => conv_comm D C k) (fun _ _ => rfl)

theorem Fed.xor {C s u : Nat → Bool} {L N : Nat} (h1 : Fed C L N s) (h2 : Fed C L N u) : Fed C L N (fun t => s t ^^ u t) :=
  ⟨h1.1, fun t t1 t2 => by
    have e : (fun k => C k && (s (t - k) ^^ u (t - k))) = (fun k => (C k && s (t - k)) ^^ (C k && u (t - k))) := by
      funext k; cases C k <;> rfl
    rw [e, xsum_xor, h1.2 t t1 t2, h2.2 t t1 t2]
    rfl⟩

/-- the row that is 1 just where one of both is -/
def xorL (a b : List Int) : List Int := (List.range a.length).map fun i => (nth a i + nth b i) % 2
theorem xorL_length (a b : List Int) : (xorL a b).length = a.length := by simp [xorL]
theorem xorL_nth (a b : List Int) {i : Nat} (h : i < a.length) : nth (xorL a b) i = (nth a i + nth b i) % 2 := by
  have h2 : i < (xorL a b).length := by rw [xorL_length]; exact h
  rw [nth_eq h2]; simp [xorL]
theorem xorL_bits (a b : List Int) : isBits (xorL a b) = true := isBits_of (fun k hk => by
  rw [xorL_length] at hk; rw [xorL_nth a b hk]; exact mod_bit _)
theorem bt_xorL {a b : List Int} (ha : isBits a = true) (hb : isBits b = true) {i : Nat} (h : i < a.length) : bt (xorL a b) i = (bt a i ^^ bt b i) := by
  unfold bt; rw [xorL_nth a b h, bit_xor (isBits_nth ha _) (isBits_nth hb _)]

theorem pl_xor {a b : List Int} (ha : checkRow a = 0) (hb : checkRow b = 0) (hl : b.length = a.length) : pl (xorL a b) ≤ pl a + pl b := by
  obtain ⟨la, ba⟩ := checkRow_zero ha
  obtain ⟨lb, bb⟩ := checkRow_zero hb
  obtain ⟨l1, _, _, _⟩ := rdDrum_len ha
  obtain ⟨l2, _, _, _⟩ := rdDrum_len hb
  have ga := rd_gen ha
  have gb := rd_gen hb
  rw [hl] at gb
  have dA : ∀ k, pl a < k → cf (rdDrum (rdAll a)).1 k = false := fun k hk => cf_deg (by rw [l1]; exact hk)
  have dB : ∀ k, pl b < k → cf (rdDrum (rdAll b)).1 k = false := fun k hk => cf_deg (by rw [l2]; exact hk)
  refine rd_least (row_valid (by rw [xorL_length]; exact la) (xorL_bits a b)) (C := conv (cf (rdDrum (rdAll a)).1) (cf (rdDrum (rdAll b)).1)) ?_
  rw [xorL_length]
  exact ((ga.conv_left rfl dA dB).xor (gb.conv_right rfl dA dB)).row (fun t ht => (bt_xorL ba bb ht).symm)

theorem bt_feed1 {a : List Int} (_h : a.length ≤ 81) (k : Nat) : bt (feed1 a) k = cf a k := by
  unfold feed1
  cases k with
  | zero => rfl
  | succ k =>
    show bt (1 :: a ++ List.replicate (81 - a.length) 0) (k + 1) = bt a k
    by_cases e : k < a.length
    · rw [bt_append (by simp; omega)]; rfl
    · rw [bt_ge (l := a) (by omega)]
      have h2 := nth_append_right (1 :: a) (List.replicate (81 - a.length) 0) (k - a.length)
      rw [List.length_cons, show a.length + 1 + (k - a.length) = k + 1 from by omega] at h2
      unfold bt
      rw [h2]
      by_cases e2 : k - a.length < (List.replicate (81 - a.length) (0 : Int)).length
      · rw [List.eq_of_mem_replicate (nth_mem e2)]; rfl
      · rw [nth_of_ge (by omega)]; rfl

theorem conv_xsum {x y : List Int} (hx : isBits x = true) (hy : isBits y = true) (k : Nat) : ∀ i, decide (convTo x y k i = 1) = xsum i (fun j => bt x j && bt y (k + 1 - j))
  | 0 => rfl
  | i + 1 => by
    rw [xsum, ← conv_xsum hx hy k i, convTo, bit_xor (convTo_bit x y k i) (mul_bit (isBits_nth hx _) (isBits_nth hy _)), bit_and (isBits_nth hx _) (isBits_nth hy _)]
    rfl

theorem cf_times {a b : List Int} (ha : isBits a = true) (hb : isBits b = true) (hl : a.length + b.length ≤ 81) (k : Nat) (hk : k ≤ a.length + b.length) : cf (timesF a b) k = conv (cf a) (cf b) k := by
  cases k with
  | zero => exact (conv_one rfl rfl).symm
  | succ k =>
    show bt (timesF a b) k = _
    unfold bt
    rw [nth_timesF a b (by omega), conv_xsum (feed1_bits ha) (feed1_bits hb)]
    unfold conv
    exact xsum_congr (fun i _ => by rw [bt_feed1 (by omega), bt_feed1 (by omega)])

theorem timesF_bits (a b : List Int) : isBits (timesF a b) = true := isBits_of (fun k hk => by
  rw [timesF_length] at hk
  rw [nth_timesF a b hk]; exact convTo_bit _ _ _ _)

theorem timesF_comm {a b : List Int} (ha : isBits a = true) (hb : isBits b = true) (hl : a.length + b.length ≤ 81) : timesF a b = timesF b a := by
  refine bt_ext (timesF_bits _ _) (timesF_bits _ _) (by rw [timesF_length, timesF_length, Nat.add_comm]) (fun k hk => ?_)
  rw [timesF_length] at hk
  have h1 := cf_times ha hb hl (k + 1) (by omega)
  have h2 := cf_times hb ha (by omega) (k + 1) (by omega)
  rw [conv_comm] at h2
  exact h1.trans h2.symm

theorem xorTo_length (p q : List Int) : ∀ n, (xorTo p q n).length = p.length
  | 0 => rfl
  | n + 1 => by rw [xorTo, List.length_set, xorTo_length p q n]
theorem xorTo_nth' (p q : List Int) : ∀ n k, n ≤ p.length → k < n → nth (xorTo p q n) k = (nth p k + nth q k) % 2
  | 0, _, _, h => by omega
  | n + 1, k, hn, hk => by
    rw [xorTo, nth_set, xorTo_length]
    by_cases e : n = k
    · subst e; rw [if_pos ⟨rfl, by omega⟩]
    · rw [if_neg (fun h => e h.1)]; exact xorTo_nth' p q n k (by omega) (by omega)
theorem xorTo_xorL (p q : List Int) {n : Nat} (hn : p.length = n) : xorTo p q n = xorL p q :=
  ext_nth (by rw [xorTo_length, xorL_length]) (fun k hk => by
    rw [xorTo_length] at hk
    rw [xorTo_nth' p q n k (by omega) (by omega), xorL_nth p q hk])
theorem xorL_comm {a b : List Int} (h : a.length = b.length) : xorL a b = xorL b a :=
  ext_nth (by rw [xorL_length, xorL_length, h]) (fun k hk => by
    rw [xorL_length] at hk
    rw [xorL_nth a b hk, xorL_nth b a (by omega), Int.add_comm])
theorem xorL_take (a b : List Int) (n : Nat) (hn : n ≤ a.length) : (xorL a b).take n = xorL (a.take n) (b.take n) :=
  ext_nth (by rw [List.length_take, xorL_length, xorL_length, List.length_take]) (fun k hk => by
    rw [List.length_take, xorL_length] at hk
    rw [nth_take (by omega), xorL_nth a b (by omega), xorL_nth _ _ (by rw [List.length_take]; omega), nth_take (by omega), nth_take (by omega)])

/-- two drums together play the sum of both -/
theorem plays_together {f g f2 g2 : List Int} (h1 : checkDrum f g = 0) (h2 : checkDrum f2 g2 = 0) (hl : f.length + f2.length ≤ 40) {n : Nat} (_hn : f.length + f2.length ≤ n) :
    playsF (timesF f f2) (xorL (playsF f g (f.length + f2.length)) (playsF f2 g2 (f.length + f2.length))) n = xorL (playsF f g n) (playsF f2 g2 n) := by
  obtain ⟨l1, _, bf, bg⟩ := checkDrum_zero h1
  obtain ⟨l2, _, bf2, bg2⟩ := checkDrum_zero h2
  have hlen : (xorL (playsF f g n) (playsF f2 g2 n)).length = n := by rw [xorL_length, playsF_length]
  have hgl : (xorL (playsF f g (f.length + f2.length)) (playsF f2 g2 (f.length + f2.length))).length = f.length + f2.length := by rw [xorL_length, playsF_length]
  have dA : ∀ k, f.length < k → cf f k = false := fun k hk => cf_deg hk
  have dB : ∀ k, f2.length < k → cf f2 k = false := fun k hk => cf_deg hk
  have ga := (seq_gen bf bg l1 n).row (fun t ht => (bt_seq f g ht).symm)
  have gb := (seq_gen bf2 bg2 l2 n).row (fun t ht => (bt_seq f2 g2 ht).symm)
  have hx := (ga.conv_left (D := cf f2) rfl dA dB).xor (gb.conv_right (C := cf f) rfl dA dB)
  have h := gen_makes (f := timesF f f2) (g := xorL (playsF f g (f.length + f2.length)) (playsF f2 g2 (f.length + f2.length))) (row := xorL (playsF f g n) (playsF f2 g2 n)) (timesF_bits _ _) (xorL_bits _ _) (xorL_bits _ _) (by rw [timesF_length, hgl])
    (by
      rw [hlen, timesF_length]
      exact hx.congr (fun k hk => (cf_times bf bf2 (by omega) k hk).symm) (fun t ht => (bt_xorL (playsF_bits (f := f) bg n) (playsF_bits (f := f2) bg2 n) (by rw [playsF_length]; exact ht)).symm))
    (fun t t1 t2 => by
      rw [hgl] at t1
      rw [hlen] at t2
      rw [xorL_nth _ _ (by rw [playsF_length]; exact t2), xorL_nth _ _ (by rw [playsF_length]; exact t1), nth_seq f g t2, nth_seq f2 g2 t2, nth_seq f g t1, nth_seq f2 g2 t1])
  rw [hlen] at h
  exact h

end Go.Proofs.Ytjnijhnphhpilaa
