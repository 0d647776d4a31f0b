/- Rows and feeds modulo 2, plain: sums, generation, proofs of places, the reader of a row, drums. -/
import Derived.Test.YtjnijhnphhpilaaWo
import Derived.Test.YtjnijhnphhpilaaWl
import Derived.Test.YtjnijhnphhpilaaWp
namespace Go.Proofs.Ytjnijhnphhpilaa

section
/-- the sum, modulo 2, of the first n values -/
def xsum : Nat → (Nat → Bool) → Bool
  | 0, _ => false
  | n + 1, f => xsum n f ^^ f n

theorem xsum_congr {f g : Nat → Bool} : ∀ {n : Nat}, (∀ i, i < n → f i = g i) → xsum n f = xsum n g
  | 0, _ => rfl
  | n + 1, h => by rw [xsum, xsum, xsum_congr (fun i hi => h i (by omega)), h n (by omega)]
theorem xsum_zero {f : Nat → Bool} {n : Nat} (h : ∀ i, i < n → f i = false) : xsum n f = false := by
  induction n with
  | zero => rfl
  | succ n ih => rw [xsum, ih (fun i hi => h i (by omega)), h n (by omega)]; rfl
theorem xsum_xor (f g : Nat → Bool) : ∀ n, xsum n (fun i => f i ^^ g i) = (xsum n f ^^ xsum n g)
  | 0 => rfl
  | n + 1 => by
    rw [xsum, xsum, xsum, xsum_xor f g n]
    cases xsum n f <;> cases xsum n g <;> cases f n <;> cases g n <;> rfl
theorem xsum_and (b : Bool) (f : Nat → Bool) : ∀ n, xsum n (fun i => b && f i) = (b && xsum n f)
  | 0 => by cases b <;> rfl
  | n + 1 => by rw [xsum, xsum, xsum_and b f n]; cases b <;> cases xsum n f <;> cases f n <;> rfl
theorem xsum_swap (f : Nat → Nat → Bool) (m : Nat) : ∀ n, xsum n (fun i => xsum m (fun j => f i j)) = xsum m (fun j => xsum n (fun i => f i j))
  | 0 => (xsum_zero (fun _ _ => rfl)).symm
  | n + 1 => by
    rw [xsum, xsum_swap f m n, ← xsum_xor]
    rfl
theorem xsum_add (f : Nat → Bool) (n : Nat) : ∀ m, xsum (n + m) f = (xsum n f ^^ xsum m (fun i => f (n + i)))
  | 0 => by simp [xsum]
  | m + 1 => by rw [← Nat.add_assoc, xsum, xsum_add f n m, xsum, Bool.xor_assoc]
/-- what lies behind is zero -/
theorem xsum_le {f : Nat → Bool} {n m : Nat} (h : n ≤ m) (hz : ∀ i, n ≤ i → i < m → f i = false) : xsum m f = xsum n f := by
  obtain ⟨d, rfl⟩ := Nat.exists_eq_add_of_le h
  rw [xsum_add, xsum_zero (n := d) (fun i hi => hz (n + i) (by omega) (by omega))]
  simp
theorem xsum_head (f : Nat → Bool) (n : Nat) : xsum (n + 1) f = (f 0 ^^ xsum n (fun i => f (i + 1))) := by
  rw [Nat.add_comm n 1, xsum_add]
  simp only [xsum, Bool.false_bne]
  congr 1
  exact xsum_congr (fun i _ => by rw [Nat.add_comm])
/-- just one is counted -/
theorem xsum_one {f : Nat → Bool} {n k : Nat} (hk : k < n) (h : ∀ i, i < n → i ≠ k → f i = false) : xsum n f = f k := by
  induction n with
  | zero => omega
  | succ n ih =>
    rw [xsum]
    by_cases e : k = n
    · subst e; rw [xsum_zero (fun i hi => h i (by omega) (by omega))]; simp
    · rw [ih (by omega) (fun i hi => h i (by omega)), h n (by omega) (fun h => e h.symm)]; simp
/-- counted from the other end -/
theorem xsum_rev (f : Nat → Bool) : ∀ n, xsum n f = xsum n (fun i => f (n - 1 - i))
  | 0 => rfl
  | n + 1 => by
    rw [xsum_head (fun i => f (n + 1 - 1 - i)), xsum, xsum_rev f n, Bool.xor_comm]
    simp only [Nat.add_sub_cancel, Nat.sub_zero]
    congr 1
    exact xsum_congr (fun i hi => by congr 1; omega)

/-- a feed, with the play itself: of the plays from L on, before N, each is fed by the L before it -/
def Fed (C : Nat → Bool) (L N : Nat) (s : Nat → Bool) : Prop := C 0 = true ∧ ∀ t, L ≤ t → t < N → xsum (L + 1) (fun k => C k && s (t - k)) = false

/-- plays that prove that a row needs more than m places -/
structure Prf (P : Nat → Bool) (m N : Nat) (s : Nat → Bool) : Prop where
  rng : ∀ n, P n = true → m ≤ n ∧ n < N
  own : xsum N (fun n => P n && s n) = true
  oth : ∀ k, 1 ≤ k → k ≤ m → xsum N (fun n => P n && s (n - k)) = false

theorem Prf.no {P : Nat → Bool} {m N : Nat} {s : Nat → Bool} (h : Prf P m N s) {C : Nat → Bool} {L : Nat} (hL : L ≤ m) (hg : Fed C L N s) : False := by
  have h1 : xsum N (fun n => xsum (L + 1) (fun k => P n && (C k && s (n - k)))) = false := xsum_zero (fun n hn => by
    rw [xsum_and]
    cases hp : P n with
    | false => rfl
    | true => rw [hg.2 n (by have := h.rng n hp; omega) hn]; rfl)
  rw [xsum_swap (fun n k => P n && (C k && s (n - k)))] at h1
  rw [xsum_one (k := 0) (by omega) (fun k hk hne => by
    have e : (fun i => P i && (C k && s (i - k))) = (fun i => C k && (P i && s (i - k))) := by
      funext i; cases P i <;> cases C k <;> rfl
    rw [e, xsum_and, h.oth k (by omega) (by omega)]
    simp)] at h1
  simp only [hg.1, Bool.true_and, Nat.sub_zero] at h1
  rw [h.own] at h1
  cases h1

/-- fewer plays have fewer needs -/
theorem Fed.less {C : Nat → Bool} {L N M : Nat} {s : Nat → Bool} (h : Fed C L N s) (hM : M ≤ N) : Fed C L M s := ⟨h.1, fun t h1 h2 => h.2 t h1 (by omega)⟩
/-- more places do no harm -/
theorem Fed.more {C : Nat → Bool} {L M N : Nat} {s : Nat → Bool} (h : Fed C L N s) (hM : L ≤ M) (hz : ∀ k, L < k → C k = false) : Fed C M N s :=
  ⟨h.1, fun t h1 h2 => by rw [xsum_le (n := L + 1) (by omega) (fun i hi _ => by rw [hz i (by omega)]; rfl)]; exact h.2 t (by omega) h2⟩
theorem Fed.congr {C C' : Nat → Bool} {L N : Nat} {s s' : Nat → Bool} (h : Fed C L N s) (hC : ∀ k, k ≤ L → C k = C' k) (hs : ∀ t, t < N → s t = s' t) : Fed C' L N s' :=
  ⟨by rw [← hC 0 (by omega)]; exact h.1, fun t h1 h2 => by
    rw [← h.2 t h1 h2]
    exact (xsum_congr (fun k hk => by rw [hC k (by omega), hs (t - k) (by omega)])).symm⟩

/-- the sum that tells whether a play is wrong -/
def wrong (C : Nat → Bool) (L : Nat) (s : Nat → Bool) (t : Nat) : Bool := xsum (L + 1) (fun k => C k && s (t - k))

/-- the old feed, far plays ago -/
def shiftX (C B : Nat → Bool) (far : Nat) (k : Nat) : Bool := C k ^^ (decide (far ≤ k) && B (k - far))

theorem xsum_shift (B s : Nat → Bool) (far m t : Nat) : xsum (far + m + 1) (fun k => (decide (far ≤ k) && B (k - far)) && s (t - k)) = xsum (m + 1) (fun k => B k && s (t - far - k)) := by
  rw [Nat.add_assoc, xsum_add, xsum_zero (fun i hi => by rw [decide_eq_false (by omega)]; rfl)]
  simp only [Bool.false_bne]
  refine xsum_congr (fun i _ => ?_)
  rw [decide_eq_true (by omega), Nat.add_sub_cancel_left, Bool.true_and, Nat.sub_sub]

/-- the state of a reader behind N plays of s -/
structure BM (s : Nat → Bool) (N : Nat) (C : Nat → Bool) (L : Nat) (B : Nat → Bool) (far : Nat) (P : Nat → Bool) : Prop where
  gen : Fed C L N s
  deg : ∀ k, L < k → C k = false
  le : L ≤ N
  old : (L = 0 ∧ far = N + 1 ∧ (∀ k, B k = decide (k = 0))) ∨
    (0 < L ∧ 1 ≤ far ∧ ∃ r LB, r + far = N ∧ LB + L = r + 1 ∧ LB ≤ r ∧ Fed B LB r s ∧ wrong B LB s r = true ∧ (∀ k, LB < k → B k = false))
  prf : 0 < L → Prf P (L - 1) N s

theorem Prf.longer {P : Nat → Bool} {m N M : Nat} {s : Nat → Bool} (h : Prf P m N s) (hM : N ≤ M) : Prf P m M s where
  rng n hp := ⟨(h.rng n hp).1, Nat.lt_of_lt_of_le (h.rng n hp).2 hM⟩
  own := by
    rw [xsum_le hM (fun i hi _ => by
      cases hp : P i with
      | false => rfl
      | true => have := h.rng i hp; omega)]
    exact h.own
  oth k h1 h2 := by
    rw [xsum_le hM (fun i hi _ => by
      cases hp : P i with
      | false => rfl
      | true => have := h.rng i hp; omega)]
    exact h.oth k h1 h2

/-- a right play -/
theorem BM.right {s C B P : Nat → Bool} {N L far : Nat} (h : BM s N C L B far P) (hw : wrong C L s N = false) : BM s (N + 1) C L B (far + 1) P where
  gen := ⟨h.gen.1, fun t h1 h2 => by
    by_cases e : t = N
    · subst e; exact hw
    · exact h.gen.2 t h1 (by omega)⟩
  deg := h.deg
  le := by have := h.le; omega
  old := by
    rcases h.old with ⟨h1, h2, h3⟩ | ⟨h1, h2, r, LB, h3, h4, h5, h6, h7, h8⟩
    · exact .inl ⟨h1, by omega, h3⟩
    · exact .inr ⟨h1, by omega, r, LB, by omega, h4, h5, h6, h7, h8⟩
  prf hL := (h.prf hL).longer (by omega)

/-- what the new feed yields, in as many places as it has -/
theorem shift_gen {s C B : Nat → Bool} {N L r LB far M : Nat} (hC : Fed C L N s) (dC : ∀ k, L < k → C k = false) (hr : r + far = N) (h1 : 1 ≤ far)
    (hB : Fed B LB r s) (hw : wrong B LB s r = true) (dB : ∀ k, LB < k → B k = false) (hN : wrong C L s N = true) (hL : L ≤ M) (hM : LB + far ≤ M) :
    Fed (shiftX C B far) M (N + 1) s ∧ ∀ k, M < k → shiftX C B far k = false := by
  have hdeg : ∀ k, M < k → shiftX C B far k = false := fun k hk => by
    unfold shiftX
    rw [dC k (by omega), decide_eq_true (by omega), dB (k - far) (by omega)]
    rfl
  refine ⟨⟨?_, fun t t1 t2 => ?_⟩, hdeg⟩
  · unfold shiftX
    rw [hC.1, decide_eq_false (by omega)]
    rfl
  · have e : xsum (M + 1) (fun k => shiftX C B far k && s (t - k)) = (wrong C L s t ^^ wrong B LB s (t - far)) := by
      have e1 : (fun k => shiftX C B far k && s (t - k)) = (fun k => (C k && s (t - k)) ^^ ((decide (far ≤ k) && B (k - far)) && s (t - k))) := by
        funext k; unfold shiftX; cases C k <;> cases s (t - k) <;> simp
      rw [e1, xsum_xor]
      congr 1
      · exact xsum_le (by omega) (fun i hi _ => by rw [dC i (by omega)]; rfl)
      · rw [xsum_le (n := far + LB + 1) (by omega) (fun i hi _ => by rw [dB (i - far) (by omega)]; simp), xsum_shift]
        rfl
    rw [e]
    by_cases et : t = N
    · subst et
      rw [hN, show t - far = r from by omega, hw]
      rfl
    · have e2 : wrong C L s t = false := hC.2 t (by omega) (by omega)
      have e3 : wrong B LB s (t - far) = false := hB.2 (t - far) (by omega) (by omega)
      rw [e2, e3]
      rfl

/-- a wrong play, where the places stay -/
theorem BM.stay {s C B P : Nat → Bool} {N L far : Nat} (h : BM s N C L B far P) (hw : wrong C L s N = true) (h2 : N < 2 * L) : BM s (N + 1) (shiftX C B far) L B (far + 1) P := by
  rcases h.old with ⟨h1, _⟩ | ⟨h1, hf, r, LB, h3, h4, h5, h6, h7, h8⟩
  · omega
  · obtain ⟨hg, hd⟩ := shift_gen h.gen h.deg h3 hf h6 h7 h8 hw (Nat.le_refl L) (by omega)
    exact ⟨hg, hd, by have := h.le; omega, .inr ⟨h1, by omega, r, LB, by omega, h4, h5, h6, h7, h8⟩, fun hL => (h.prf hL).longer (by omega)⟩

/-- the plays that the feed counts for a wrong play -/
def prfOf (C : Nat → Bool) (L N : Nat) (n : Nat) : Bool := decide (n ≤ N) && decide (N ≤ n + L) && C (N - n)

theorem prfOf_sum (C : Nat → Bool) {L N : Nat} (hL : L ≤ N) (f : Nat → Bool) : xsum (N + 1) (fun n => prfOf C L N n && f n) = xsum (L + 1) (fun k => C k && f (N - k)) := by
  rw [xsum_rev]
  rw [xsum_le (n := L + 1) (by omega) (fun i h1 h2 => by
    unfold prfOf
    rw [decide_eq_false (p := N ≤ N + 1 - 1 - i + L) (by omega)]
    simp)]
  refine xsum_congr (fun k hk => ?_)
  unfold prfOf
  rw [decide_eq_true (by omega), decide_eq_true (p := N ≤ N + 1 - 1 - k + L) (by omega), show N - (N + 1 - 1 - k) = k from by omega, show N + 1 - 1 - k = N - k from by omega]
  simp

/-- a wrong play, where the places change -/
theorem BM.jump {s C B P : Nat → Bool} {N L far : Nat} (h : BM s N C L B far P) (hw : wrong C L s N = true) (h2 : 2 * L ≤ N) :
    BM s (N + 1) (shiftX C B far) (N + 1 - L) C 1 (prfOf C L N) := by
  have hgd : Fed (shiftX C B far) (N + 1 - L) (N + 1) s ∧ ∀ k, N + 1 - L < k → shiftX C B far k = false := by
    rcases h.old with ⟨h1, hf, hB⟩ | ⟨h1, hf, r, LB, h3, h4, h5, h6, h7, h8⟩
    · subst h1
      refine ⟨⟨?_, fun t t1 t2 => by omega⟩, fun k hk => ?_⟩
      · unfold shiftX; rw [h.gen.1, decide_eq_false (by omega)]; rfl
      · unfold shiftX; rw [h.deg k (by omega), hB, decide_eq_false (p := k - far = 0) (by omega)]; simp
    · exact shift_gen h.gen h.deg h3 hf h6 h7 h8 hw (by omega) (by omega)
  refine ⟨hgd.1, hgd.2, by omega, .inr ⟨by omega, by omega, N, L, rfl, by omega, h.le, h.gen, hw, h.deg⟩, fun _ => ?_⟩
  refine ⟨fun n hn => ?_, ?_, fun k k1 k2 => ?_⟩
  · unfold prfOf at hn
    simp only [Bool.and_eq_true, decide_eq_true_eq] at hn
    omega
  · rw [prfOf_sum C h.le]; exact hw
  · rw [prfOf_sum C h.le (fun n => s (n - k))]
    have := h.gen.2 (N - k) (by omega) (by omega)
    rw [← this]
    exact xsum_congr (fun i _ => by rw [Nat.sub_right_comm])

theorem BM.start (s : Nat → Bool) {C B : Nat → Bool} (hC : ∀ k, C k = decide (k = 0)) (hB : ∀ k, B k = decide (k = 0)) (P : Nat → Bool) : BM s 0 C 0 B 1 P :=
  ⟨⟨by rw [hC]; rfl, fun t _ h => by omega⟩, fun k hk => by rw [hC, decide_eq_false (by omega)], Nat.le_refl _, .inl ⟨rfl, rfl, hB⟩, fun h => by omega⟩

/-- no feed of fewer places generates the row -/
theorem BM.least {s C B P : Nat → Bool} {N L far : Nat} (h : BM s N C L B far P) {C' : Nat → Bool} {L' : Nat} (hg : Fed C' L' N s) : L ≤ L' := by
  by_cases hL : L = 0
  · omega
  · by_cases hl : L ≤ L'
    · exact hl
    · exact ((h.prf (by omega)).no (by omega) hg).elim
end

section
open Go.RowKit

/-- a number of a list as a bit -/
def bt (l : List Int) (k : Nat) : Bool := decide (nth l k = 1)

theorem bt_ge {l : List Int} {k : Nat} (h : l.length ≤ k) : bt l k = false := by unfold bt; rw [nth_of_ge h]; rfl
theorem bt_take {l : List Int} {k n : Nat} (h : k < n) : bt (l.take n) k = bt l k := by unfold bt; rw [nth_take h]
theorem bt_append {l m : List Int} {k : Nat} (h : k < l.length) : bt (l ++ m) k = bt l k := by unfold bt; rw [nth_append_left h]
theorem bit_xor {x y : Int} (hx : x = 0 ∨ x = 1) (hy : y = 0 ∨ y = 1) : decide ((x + y) % 2 = 1) = (decide (x = 1) ^^ decide (y = 1)) := by
  rcases hx with rfl | rfl <;> rcases hy with rfl | rfl <;> rfl
theorem bit_and {x y : Int} (hx : x = 0 ∨ x = 1) (hy : y = 0 ∨ y = 1) : decide (x * y = 1) = (decide (x = 1) && decide (y = 1)) := by
  rcases hx with rfl | rfl <;> rcases hy with rfl | rfl <;> rfl
theorem bit_eq {x y : Int} (hx : x = 0 ∨ x = 1) (hy : y = 0 ∨ y = 1) (h : decide (x = 1) = decide (y = 1)) : x = y := by
  rcases hx with rfl | rfl <;> rcases hy with rfl | rfl <;> first | rfl | cases h
theorem bt_ext {a b : List Int} (ha : isBits a = true) (hb : isBits b = true) (hl : a.length = b.length) (h : ∀ k, k < a.length → bt a k = bt b k) : a = b :=
  ext_nth hl (fun k hk => bit_eq (isBits_nth ha k) (isBits_nth hb k) (h k hk))

theorem odd_wrong {own row : List Int} {play : Int} {s : Nat → Bool} (h0 : nth own 0 = 1) (ho : isBits own = true) (hr : isBits row = true) (hp : play = 0 ∨ play = 1)
    (hs : ∀ t, t < row.length → s t = bt row t) (hN : s row.length = decide (play = 1)) :
    ∀ k, k ≤ row.length → decide (oddTo own row play k = 1) = xsum (k + 1) (fun i => bt own i && s (row.length - i))
  | 0, _ => by
    simp only [oddTo, xsum, bt, h0, Nat.sub_zero, hN]
    simp only [Bool.false_bne, decide_true, Bool.true_and]
    exact decide_eq_decide.2 Iff.rfl
  | k + 1, hk => by
    have ih := odd_wrong h0 ho hr hp hs hN k (by omega)
    rw [xsum, ← ih, oddTo, bit_xor (oddTo_bit hp k) (mul_bit (isBits_nth ho _) (isBits_nth hr _)), bit_and (isBits_nth ho _) (isBits_nth hr _), hs (row.length - (k + 1)) (by omega)]
    rfl

theorem nth_set' (L : List Int) (k : Nat) (v : Int) (j : Nat) : nth (L.set k v) j = if k = j ∧ j < L.length then v else nth L j := by
  unfold nth List.getD
  rw [List.getElem?_set]
  by_cases h : k = j
  · subst h
    by_cases h2 : k < L.length
    · simp [h2]
    · simp [h2]
  · simp [h]

theorem nth_xorFrom (own old : List Int) (far : Nat) : ∀ m, far + m ≤ own.length → ∀ k, nth (xorFrom own old far m) k = if far ≤ k ∧ k < far + m then (nth own k + nth old (k - far)) % 2 else nth own k
  | 0, _, k => by rw [if_neg (by omega)]; rfl
  | m + 1, hm, k => by
    rw [xorFrom, nth_set', xorFrom_length, nth_xorFrom own old far m (by omega), nth_xorFrom own old far m (by omega) k]
    by_cases h : far + m = k
    · subst h
      rw [if_pos ⟨rfl, by omega⟩, if_neg (by omega), if_pos ⟨by omega, by omega⟩, Nat.add_sub_cancel_left]
    · rw [if_neg (fun e => h e.1)]
      by_cases h2 : far ≤ k ∧ k < far + m
      · rw [if_pos h2, if_pos ⟨h2.1, by omega⟩]
      · rw [if_neg h2, if_neg (by omega)]

theorem bt_xorFrom {own old : List Int} (ho : isBits own = true) (hl : isBits old = true) (hlen : own.length = 82) {far : Nat} (hf : far ≤ 82) {k : Nat} (hk : k < 82) :
    bt (xorFrom own old far (82 - far)) k = shiftX (bt own) (bt old) far k := by
  unfold bt
  rw [nth_xorFrom own old far (82 - far) (by omega)]
  unfold shiftX
  by_cases h : far ≤ k
  · rw [if_pos ⟨h, by omega⟩, bit_xor (isBits_nth ho _) (isBits_nth hl _), decide_eq_true h]
    rfl
  · rw [if_neg (by omega), decide_eq_false h]
    simp

/-- a list of plays, one behind the other: those that P says -/
structure PL (P : Nat → Bool) (l : List Int) : Prop where
  asc : ∀ i j, i < j → j < l.length → nth l i < nth l j
  mem : ∀ x, x ∈ l ↔ ∃ n : Nat, x = n ∧ P n = true

theorem PL.append {P Q : Nat → Bool} {l : List Int} {n : Nat} (h : PL P l) (hlt : ∀ k, P k = true → k < n) (hQ : ∀ k, Q k = true ↔ P k = true ∨ k = n) : PL Q (l ++ [(n : Int)]) where
  asc i j hij hj := by
    rw [List.length_append, List.length_singleton] at hj
    by_cases e : j < l.length
    · rw [nth_append_left e, nth_append_left (by omega)]; exact h.asc i j hij e
    · obtain rfl : j = l.length := by omega
      have := nth_append_right l [(n : Int)] 0
      rw [Nat.add_zero] at this
      rw [this, nth_append_left hij]
      obtain ⟨k, hk, hp⟩ := (h.mem _).1 (nth_mem hij)
      have := hlt k hp
      rw [hk]
      show (k : Int) < (n : Int)
      omega
  mem x := by
    rw [List.mem_append, h.mem]
    constructor
    · rintro (⟨k, rfl, hp⟩ | hx)
      · exact ⟨k, rfl, (hQ k).2 (.inl hp)⟩
      · exact ⟨n, by simpa using hx, (hQ n).2 (.inr rfl)⟩
    · rintro ⟨k, rfl, hk⟩
      rcases (hQ k).1 hk with hp | rfl
      · exact .inl ⟨k, rfl, hp⟩
      · exact .inr (by simp)

theorem PL.congr {P Q : Nat → Bool} {l : List Int} (h : PL P l) (hQ : ∀ k, Q k = P k) : PL Q l := ⟨h.asc, fun x => by rw [h.mem]; simp only [hQ]⟩

theorem proofTo_pl {own : List Int} {L N : Nat} (hL : L ≤ N) : ∀ m, m ≤ L + 1 → PL (fun n => decide (n + L < N + m) && prfOf (bt own) L N n) (proofTo own L N m)
  | 0, _ => ⟨fun i j _ h => by simp [proofTo] at h, fun x => by
      simp only [proofTo, List.not_mem_nil, false_iff]
      rintro ⟨n, _, h⟩
      simp only [prfOf, Bool.and_eq_true, decide_eq_true_eq] at h
      omega⟩
  | m + 1, hm => by
    have ih := proofTo_pl (own := own) hL m (by omega)
    unfold proofTo
    have e1 : ((N : Int) - ((L - m : Nat) : Int)) = ((N - (L - m) : Nat) : Int) := by omega
    by_cases h : nth own (L - m) = 1
    · rw [if_pos h, e1]
      refine ih.append (fun k hk => ?_) (fun k => ?_)
      · simp only [Bool.and_eq_true, decide_eq_true_eq] at hk; omega
      · simp only [prfOf, Bool.and_eq_true, decide_eq_true_eq]
        constructor
        · rintro ⟨h1, ⟨h2, h3⟩, h4⟩
          by_cases e : k + L < N + m
          · exact .inl ⟨e, ⟨h2, h3⟩, h4⟩
          · exact .inr (by omega)
        · rintro (⟨h1, ⟨h2, h3⟩, h4⟩ | rfl)
          · exact ⟨by omega, ⟨h2, h3⟩, h4⟩
          · refine ⟨by omega, ⟨by omega, by omega⟩, ?_⟩
            unfold bt
            rw [show N - (N - (L - m)) = L - m from by omega]
            exact decide_eq_true h
    · rw [if_neg h]
      refine ih.congr (fun k => ?_)
      rw [Bool.eq_iff_iff]
      simp only [prfOf, Bool.and_eq_true, decide_eq_true_eq]
      constructor
      · rintro ⟨h1, ⟨h2, h3⟩, h4⟩
        refine ⟨?_, ⟨h2, h3⟩, h4⟩
        by_cases e : k + L < N + m
        · exact e
        · exfalso
          unfold bt at h4
          rw [show N - k = L - m from by omega] at h4
          exact h (of_decide_eq_true h4)
      · rintro ⟨h1, ⟨h2, h3⟩, h4⟩
        exact ⟨by omega, ⟨h2, h3⟩, h4⟩

theorem proofTo_all {own : List Int} {L N : Nat} (hL : L ≤ N) : PL (prfOf (bt own) L N) (proofTo own L N (L + 1)) :=
  (proofTo_pl hL (L + 1) (Nat.le_refl _)).congr (fun k => by
    rw [Bool.eq_iff_iff]
    simp only [prfOf, Bool.and_eq_true, decide_eq_true_eq]
    constructor
    · rintro ⟨⟨h2, h3⟩, h4⟩; exact ⟨by omega, ⟨h2, h3⟩, h4⟩
    · rintro ⟨_, ⟨h2, h3⟩, h4⟩; exact ⟨⟨h2, h3⟩, h4⟩)

/-- what a reader that has read the first N plays of a row knows -/
structure RB (s : Nat → Bool) (N : Nat) (r : Rd) : Prop where
  ok : r.Ok
  len : r.row.length = N
  row : ∀ t, t < N → s t = bt r.row t
  ol : (rdOwn r.own r.row).length = 82 ∧ (rdOwn r.old r.row).length = 82
  one : nth (rdOwn r.own r.row) 0 = 1
  bm : ∃ P, BM s N (bt (rdOwn r.own r.row)) r.places (bt (rdOwn r.old r.row)) (rdFar r.far r.row) P ∧ (0 < r.places → PL P r.proof)

theorem bt_one82 (k : Nat) : bt one82 k = decide (k = 0) := by
  by_cases h : k < 82
  · have : ∀ k, k < 82 → bt one82 k = decide (k = 0) := by decide +kernel
    exact this k h
  · rw [bt_ge (by rw [one82_length]; omega), decide_eq_false (by omega)]

theorem RB.start (s : Nat → Bool) : RB s 0 rd0 where
  ok := rd0_ok
  len := rfl
  row t h := by omega
  ol := ⟨one82_length, one82_length⟩
  one := by decide +kernel
  bm := ⟨fun _ => false, BM.start s (C := bt one82) (B := bt one82) bt_one82 bt_one82 _, fun h => absurd h (by decide)⟩

theorem BM.congr {s C C' B P : Nat → Bool} {N L far : Nat} (h : BM s N C L B far P) (hC : ∀ k, C k = C' k) : BM s N C' L B far P := by
  have : C = C' := funext hC
  rw [← this]; exact h

theorem rdOwn_pos {own row : List Int} (h : row.length ≠ 0) : rdOwn own row = own := if_neg h
theorem rdFar_pos {far : Nat} {row : List Int} (h : row.length ≠ 0) : rdFar far row = far := if_neg h

theorem RB.read {s : Nat → Bool} {N : Nat} {r : Rd} (h : RB s N r) {play : Int} (hp : play = 0 ∨ play = 1) (hN : N < 80) (hs : s N = decide (play = 1)) : RB s (N + 1) (r.read play) := by
  have hok := h.ok.read hp (by rw [h.len]; exact hN)
  have hrow := Rd.read_row r play
  have hlen : (r.read play).row.length = N + 1 := by rw [hrow, List.length_append, h.len]; rfl
  have hne : (r.read play).row.length ≠ 0 := by omega
  have hrw : ∀ t, t < N + 1 → s t = bt (r.read play).row t := by
    intro t ht
    rw [hrow]
    by_cases e : t < N
    · rw [bt_append (by rw [h.len]; exact e)]; exact h.row t e
    · obtain rfl : t = N := by omega
      have := nth_append_right r.row [play] 0
      rw [Nat.add_zero, h.len] at this
      unfold bt
      rw [this]; exact hs
  obtain ⟨P, hb, hpl⟩ := h.bm
  obtain ⟨ol1, ol2⟩ := h.ol
  have rok := h.ok.ok
  have hbo := rok.bown
  have hbl := rok.bold
  have hbr := rok.brow
  have hfar : rdFar r.far r.row ≤ 82 := by have := rok.far2; rw [h.len] at this; omega
  have hle := hb.le
  have hodd := odd_wrong h.one hbo hbr hp (by rw [h.len]; exact h.row) (by rw [h.len]; exact hs) r.places (by rw [h.len]; exact hle)
  rw [h.len] at hodd
  have hwr : wrong (bt (rdOwn r.own r.row)) r.places s N = decide (oddTo (rdOwn r.own r.row) r.row play r.places = 1) := hodd.symm
  have hcon : (oddTo (rdOwn r.own r.row) r.row play r.places == 1) = wrong (bt (rdOwn r.own r.row)) r.places s N := by
    rw [hwr, Bool.eq_iff_iff]; simp
  have hx0 : ∀ M, (∀ k, M < k → shiftX (bt (rdOwn r.own r.row)) (bt (rdOwn r.old r.row)) (rdFar r.far r.row) k = false) → M < 82 →
      ∀ k, shiftX (bt (rdOwn r.own r.row)) (bt (rdOwn r.old r.row)) (rdFar r.far r.row) k = bt (xorFrom (rdOwn r.own r.row) (rdOwn r.old r.row) (rdFar r.far r.row) (82 - rdFar r.far r.row)) k := by
    intro M hM hM2 k
    by_cases hk : k < 82
    · exact (bt_xorFrom hbo hbl ol1 hfar hk).symm
    · rw [hM k (by omega), bt_ge (by rw [xorFrom_length, ol1]; omega)]
  have hxl : (xorFrom (rdOwn r.own r.row) (rdOwn r.old r.row) (rdFar r.far r.row) (82 - rdFar r.far r.row)).length = 82 := by rw [xorFrom_length, ol1]
  have hx1 : nth (xorFrom (rdOwn r.own r.row) (rdOwn r.old r.row) (rdFar r.far r.row) (82 - rdFar r.far r.row)) 0 = 1 := by
    rw [nth_xorFrom _ _ _ _ (by rw [ol1]; omega), if_neg (by have := rok.far1; omega)]
    exact h.one
  cases hw : wrong (bt (rdOwn r.own r.row)) r.places s N with
  | false =>
    have e : r.read play = ⟨rdOwn r.own r.row, r.places, r.row ++ [play], rdOwn r.old r.row, rdFar r.far r.row + 1, r.proof⟩ := by
      unfold Rd.read
      simp [hcon, hw]
    refine ⟨hok, hlen, hrw, ?_, ?_, P, ?_, ?_⟩ <;> (try rw [rdOwn_pos hne]) <;> (try rw [rdOwn_pos hne]) <;> (try rw [rdFar_pos hne]) <;> rw [e]
    · exact ⟨ol1, ol2⟩
    · exact h.one
    · exact hb.right hw
    · exact hpl
  | true =>
    by_cases h2 : N < 2 * r.places
    · have e : r.read play = ⟨xorFrom (rdOwn r.own r.row) (rdOwn r.old r.row) (rdFar r.far r.row) (82 - rdFar r.far r.row), r.places, r.row ++ [play], rdOwn r.old r.row, rdFar r.far r.row + 1, r.proof⟩ := by
        unfold Rd.read
        simp [hcon, hw, h.len, h2]
      have hb' := hb.stay hw h2
      refine ⟨hok, hlen, hrw, ?_, ?_, P, ?_, ?_⟩ <;> (try rw [rdOwn_pos hne]) <;> (try rw [rdOwn_pos hne]) <;> (try rw [rdFar_pos hne]) <;> rw [e]
      · exact ⟨hxl, ol2⟩
      · exact hx1
      · exact hb'.congr (hx0 r.places hb'.deg (by omega))
      · exact hpl
    · have e : r.read play = ⟨xorFrom (rdOwn r.own r.row) (rdOwn r.old r.row) (rdFar r.far r.row) (82 - rdFar r.far r.row), N + 1 - r.places, r.row ++ [play], rdOwn r.own r.row, 1, proofTo (rdOwn r.own r.row) r.places N (r.places + 1)⟩ := by
        unfold Rd.read
        simp [hcon, hw, h.len, h2]
      have hb' := hb.jump hw (by omega)
      refine ⟨hok, hlen, hrw, ?_, ?_, prfOf (bt (rdOwn r.own r.row)) r.places N, ?_, ?_⟩ <;> (try rw [rdOwn_pos hne]) <;> (try rw [rdOwn_pos hne]) <;> (try rw [rdFar_pos hne]) <;> rw [e]
      · exact ⟨hxl, ol1⟩
      · exact hx1
      · exact hb'.congr (hx0 (N + 1 - r.places) hb'.deg (by omega))
      · exact fun _ => proofTo_all hle

theorem RB.all {xs : List Int} (h : isBits xs = true) (hl : xs.length ≤ 80) : ∀ k, k ≤ xs.length → RB (bt xs) k (rdAll (xs.take k))
  | 0, _ => by rw [List.take_zero]; exact RB.start _
  | k + 1, hk => by
    rw [rdAll_take_succ (by omega)]
    exact (RB.all h hl k (by omega)).read (isBits_nth h k) (by omega) rfl

theorem RB.full {xs : List Int} (h : isBits xs = true) (hl : xs.length ≤ 80) : RB (bt xs) xs.length (rdAll xs) := by
  have := RB.all h hl xs.length (Nat.le_refl _)
  rwa [List.take_length] at this
end

section
open Go.RowKit

/-- the feed of a drum, with the play itself -/
def cf (f : List Int) : Nat → Bool
  | 0 => true
  | k + 1 => bt f k

theorem cf_deg {f : List Int} {k : Nat} (h : f.length < k) : cf f k = false := by
  cases k with
  | zero => omega
  | succ k => exact bt_ge (by omega)

theorem lin_xsum {f h : List Int} (hf : isBits f = true) (hh : isBits h = true) : ∀ k, decide (linTo f h k = 1) = xsum k (fun i => bt f i && bt h (h.length - 1 - i))
  | 0 => rfl
  | k + 1 => by
    rw [xsum, ← lin_xsum hf hh k, linTo, bit_xor (linTo_bit f h k) (mul_bit (isBits_nth hf _) (isBits_nth hh _)), bit_and (isBits_nth hf _) (isBits_nth hh _)]
    rfl

theorem nth_playsF (f g : List Int) {n t : Nat} (h : t < n) : nth (playsF f g n) t = playNext f g (playsF f g t) := by
  rw [← nth_take (n := t + 1) (by omega), playsF_take f g (t + 1) n h, playsF]
  have := nth_append_right (playsF f g t) [playNext f g (playsF f g t)] 0
  rw [Nat.add_zero, playsF_length] at this
  exact this

theorem next_xsum {f g : List Int} (hf : isBits f = true) (hg : isBits g = true) {t : Nat} (ht : g.length ≤ t) (s : Nat → Bool) (hs : ∀ i, i < t → s i = bt (playsF f g t) i) (hl : f.length ≤ t) :
    decide (playNext f g (playsF f g t) = 1) = xsum f.length (fun i => bt f i && s (t - 1 - i)) := by
  unfold playNext
  rw [playsF_length, if_neg (by omega), lin_xsum hf (playsF_bits (f := f) hg t), playsF_length]
  by_cases h0 : f.length = 0
  · rw [h0]; rfl
  · exact xsum_congr (fun i hi => by rw [hs (t - 1 - i) (by omega)])

theorem gen_head {C : Nat → Bool} {L t : Nat} {s : Nat → Bool} (h0 : C 0 = true) : (xsum (L + 1) (fun k => C k && s (t - k)) = false) ↔ s t = xsum L (fun i => C (i + 1) && s (t - 1 - i)) := by
  rw [xsum_head, h0]
  have e : xsum L (fun i => C (i + 1) && s (t - (i + 1))) = xsum L (fun i => C (i + 1) && s (t - 1 - i)) := xsum_congr (fun i _ => by rw [Nat.sub_sub, Nat.add_comm 1 i])
  rw [e]
  simp only [Bool.true_and, Nat.sub_zero]
  cases s t <;> cases xsum L (fun i => C (i + 1) && s (t - 1 - i)) <;> simp

/-- the plays of a drum -/
def seqF (f g : List Int) (t : Nat) : Int := playNext f g (playsF f g t)
def sq (f g : List Int) (t : Nat) : Bool := decide (seqF f g t = 1)
theorem nth_seq (f g : List Int) {n t : Nat} (h : t < n) : nth (playsF f g n) t = seqF f g t := nth_playsF f g h
theorem bt_seq (f g : List Int) {n t : Nat} (h : t < n) : bt (playsF f g n) t = sq f g t := by unfold bt sq; rw [nth_seq f g h]
theorem seqF_bit {f g : List Int} (hg : isBits g = true) (t : Nat) : seqF f g t = 0 ∨ seqF f g t = 1 := playNext_bit hg _
theorem seqF_first (f g : List Int) {t : Nat} (h : t < g.length) : seqF f g t = nth g t := playNext_early f g h

theorem seq_gen {f g : List Int} (hf : isBits f = true) (hg : isBits g = true) (hl : f.length = g.length) (n : Nat) : Fed (cf f) f.length n (sq f g) :=
  ⟨rfl, fun t h1 h2 => (gen_head rfl).2 (next_xsum hf hg (by omega) (sq f g) (fun i hi => (bt_seq f g hi).symm) h1)⟩

theorem Fed.row {C : Nat → Bool} {L N : Nat} {s s' : Nat → Bool} (h : Fed C L N s) (hs : ∀ t, t < N → s t = s' t) : Fed C L N s' := h.congr (fun _ _ => rfl) hs

/-- a drum whose feed generates a row makes it -/
theorem gen_seq {f g : List Int} (hf : isBits f = true) (hg : isBits g = true) (hl : f.length = g.length) {s : Nat → Bool} {N : Nat} (h : Fed (cf f) f.length N s) (h0 : ∀ t, t < g.length → t < N → s t = bt g t) :
    ∀ t, t < N → s t = sq f g t := by
  intro t
  induction t using Nat.strongRecOn with
  | _ t ih =>
    intro ht
    by_cases e : t < g.length
    · rw [h0 t e ht]; unfold bt sq; rw [seqF_first f g e]
    · have h1 := (gen_head (L := f.length) (t := t) (s := s) (C := cf f) rfl).1 (h.2 t (by omega) ht)
      have h2 := (gen_head (L := f.length) (t := t) (s := sq f g) (C := cf f) rfl).1 ((seq_gen hf hg hl N).2 t (by omega) ht)
      rw [h1, h2]
      by_cases h0 : f.length = 0
      · rw [h0]; rfl
      · exact xsum_congr (fun i hi => by rw [ih (t - 1 - i) (by omega) (by omega)])

theorem plays_eq {f g row : List Int} (hg : isBits g = true) (hr : isBits row = true) {n : Nat} (hn : n = row.length) : playsF f g n = row ↔ ∀ t, t < n → bt row t = sq f g t := by
  subst hn
  constructor
  · intro h t ht; rw [← bt_seq f g ht, h]
  · intro h
    exact bt_ext (playsF_bits (f := f) hg _) hr (playsF_length _ _ _) (fun k hk => by rw [playsF_length] at hk; rw [bt_seq f g hk, h k hk])

/-- a drum that makes a row generates it -/
theorem makes_gen {f g row : List Int} (hf : isBits f = true) (hg : isBits g = true) (hr : isBits row = true) (hl : f.length = g.length) (h : playsF f g row.length = row) : Fed (cf f) f.length row.length (bt row) :=
  (seq_gen hf hg hl row.length).row (fun t ht => ((plays_eq hg hr rfl).1 h t ht).symm)

/-- a generated row is made by the drum of its first plays -/
theorem gen_makes {f g row : List Int} (hf : isBits f = true) (hg : isBits g = true) (hr : isBits row = true) (hl : f.length = g.length) (h : Fed (cf f) f.length row.length (bt row)) (h0 : ∀ t, t < g.length → t < row.length → nth row t = nth g t) : playsF f g row.length = row :=
  (plays_eq hg hr rfl).2 (gen_seq hf hg hl h (fun t t1 t2 => by unfold bt; rw [h0 t t1 t2]))

/- the reader's drum -/
theorem rdDrum_cf {xs : List Int} (h : checkRow xs = 0) : ∀ k, k ≤ (rdAll xs).places → cf (rdDrum (rdAll xs)).1 k = bt (rdOwn (rdAll xs).own (rdAll xs).row) k := by
  obtain ⟨hlen, hbits⟩ := checkRow_zero h
  have hb := RB.full hbits (by omega)
  intro k hk
  cases k with
  | zero => show true = bt _ 0; unfold bt; rw [hb.one]; rfl
  | succ k =>
    have hp := rdAll_places h
    have hne : (rdAll xs).row.length ≠ 0 := by rw [hb.len]; omega
    show bt (((rdAll xs).own.drop 1).take (rdAll xs).places) k = _
    rw [bt_take (by omega), rdOwn_pos hne]
    unfold bt
    rw [nth_drop, Nat.add_comm]

theorem rd_gen {xs : List Int} (h : checkRow xs = 0) : Fed (cf (rdDrum (rdAll xs)).1) (rdAll xs).places xs.length (bt xs) := by
  obtain ⟨hlen, hbits⟩ := checkRow_zero h
  have hb := RB.full hbits (by omega)
  obtain ⟨P, hbm, _⟩ := hb.bm
  exact hbm.gen.congr (fun k hk => (rdDrum_cf h k hk).symm) (fun _ _ => rfl)

theorem rd_makes {xs : List Int} (h : checkRow xs = 0) : playsF (rdDrum (rdAll xs)).1 (rdDrum (rdAll xs)).2 xs.length = xs := by
  obtain ⟨hlen, hbits⟩ := checkRow_zero h
  obtain ⟨l1, l2, b1, b2⟩ := rdDrum_len h
  refine gen_makes b1 b2 hbits (by omega) (by rw [l1]; exact rd_gen h) (fun t t1 t2 => ?_)
  show _ = nth ((rdAll xs).row.take (rdAll xs).places) t
  rw [nth_take (by omega), rdAll_row]

/-- no drum of fewer places makes the row -/
theorem rd_least {xs : List Int} (h : checkRow xs = 0) {C : Nat → Bool} {L : Nat} (hg : Fed C L xs.length (bt xs)) : (rdAll xs).places ≤ L := by
  obtain ⟨hlen, hbits⟩ := checkRow_zero h
  obtain ⟨P, hbm, _⟩ := (RB.full hbits (by omega)).bm
  exact hbm.least hg

theorem rd_least_drum {xs f g : List Int} (h : checkRow xs = 0) (hf : isBits f = true) (hg : isBits g = true) (hl : f.length = g.length) (hm : playsF f g xs.length = xs) : (rdAll xs).places ≤ f.length :=
  rd_least h (makes_gen hf hg (checkRow_zero h).2 hl hm)
end

end Go.Proofs.Ytjnijhnphhpilaa
