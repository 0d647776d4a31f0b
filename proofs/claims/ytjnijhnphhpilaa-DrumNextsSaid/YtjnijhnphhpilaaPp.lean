/- Proofs of places, rows of which plays are left out, rows behind plays that were lost: plain. -/
import Derived.Test.YtjnijhnphhpilaaGp
namespace Go.Proofs.Ytjnijhnphhpilaa
open Go.RowKit

/-- the plays of a list that are below some number -/
def inL (l : List Int) (k : Nat) (n : Nat) : Bool := decide ((n : Int) ∈ l.take k)

theorem asc_nodup {l : List Int} (h : ∀ i j, i < j → j < l.length → nth l i < nth l j) {k : Nat} (hk : k < l.length) : nth l k ∉ l.take k := by
  intro hm
  obtain ⟨j, hj, e⟩ := List.getElem_of_mem hm
  rw [List.length_take] at hj
  rw [List.getElem_take] at e
  have := h j k (by omega) hk
  rw [nth_eq (by omega), e] at this
  omega

theorem sumOf_xsum {row l : List Int} (hr : isBits row = true) (b N : Nat) (hasc : ∀ i j, i < j → j < l.length → nth l i < nth l j) (hb : ∀ k, k < l.length → 0 ≤ nth l k ∧ nth l k < N) :
    ∀ k, k ≤ l.length → decide (sumOf row l b k = 1) = xsum N (fun n => inL l k n && bt row (n - b))
  | 0, _ => by
    rw [xsum_zero (fun n _ => by simp [inL])]; rfl
  | k + 1, hk => by
    have ih := sumOf_xsum hr b N hasc hb k (by omega)
    have hbk := hb k (by omega)
    have hnk := asc_nodup hasc (k := k) (by omega)
    obtain ⟨x, hx⟩ := Int.eq_ofNat_of_zero_le hbk.1
    rw [sumOf, bit_xor (sumOf_bit row l b k) (isBits_nth hr _), ih, hx, Int.toNat_natCast]
    have e : (fun n => inL l (k + 1) n && bt row (n - b)) = (fun n => (inL l k n && bt row (n - b)) ^^ (decide (n = x) && bt row (n - b))) := by
      funext n
      have e2 : inL l (k + 1) n = (inL l k n ^^ decide (n = x)) := by
        unfold inL
        rw [take_succ_nth (by omega), hx]
        by_cases hn : n = x
        · subst hn
          rw [hx] at hnk
          simp only [List.mem_append, List.mem_singleton, or_true, decide_true, hnk, decide_false, Bool.false_bne]
        · have : ¬ ((n : Int) = (x : Int)) := by omega
          simp [hn]
          intro h
          exact absurd h this
      rw [e2]
      cases inL l k n <;> cases decide (n = x) <;> cases bt row (n - b) <;> rfl
    rw [e, xsum_xor]
    congr 1
    rw [xsum_one (k := x) (by rw [hx] at hbk; omega) (fun i _ hi => by rw [decide_eq_false hi]; rfl), decide_eq_true rfl, Bool.true_and]
    rfl

theorem inL_all (l : List Int) (n : Nat) : inL l l.length n = decide ((n : Int) ∈ l) := by unfold inL; rw [List.take_length]

theorem rng_of {places : Int} {len : Nat} {l : List Int} (hasc : ∀ i j, i < j → j < l.length → nth l i < nth l j) (hb : ∀ k, k < l.length → places ≤ nth l k ∧ nth l k < len) : ∀ k, k ≤ l.length → rngTo places len l k = true
  | 0, _ => rfl
  | k + 1, hk => by
    rw [rngTo, rng_of hasc hb k (by omega), Bool.true_and, within_one]
    have := hb k (by omega)
    refine ⟨?_, by omega⟩
    cases k with
    | zero => exact this.1
    | succ j =>
      have := hasc j (j + 1) (by omega) (by omega)
      show nth l j + 1 ≤ nth l (j + 1)
      omega

theorem rng_asc {places : Int} {len : Nat} {l : List Int} (h : rngTo places len l l.length = true) : ∀ i j, i < j → j < l.length → nth l i < nth l j := by
  have step : ∀ n, rngTo places len l n = true → ∀ k, k + 1 < n → nth l k < nth l (k + 1) := by
    intro n
    induction n with
    | zero => intro _ k hk; omega
    | succ n ih =>
      intro h k hk
      rw [rngTo, Bool.and_eq_true, within_one] at h
      by_cases e : k + 1 < n
      · exact ih h.1 k e
      · obtain rfl : n = k + 1 := by omega
        have := h.2.1
        simp only [nextOf] at this
        omega
  intro i j hij
  induction hij with
  | refl => intro hj; exact step _ h i hj
  | step h1 ih =>
    rename_i m
    intro hj
    have h2 := ih (by omega)
    have h3 := step _ h m hj
    show nth l i < nth l (m + 1)
    omega

theorem anyOdd_false {row l : List Int} : ∀ {k : Nat}, anyOdd row l k = false ↔ ∀ j, 1 ≤ j → j ≤ k → sumOf row l j l.length ≠ 1
  | 0 => ⟨fun _ j h1 h2 => by omega, fun _ => rfl⟩
  | k + 1 => by
    rw [anyOdd, Bool.or_eq_false_iff, anyOdd_false (k := k)]
    constructor
    · rintro ⟨h1, h2⟩ j j1 j2
      by_cases e : j ≤ k
      · exact h1 j j1 e
      · obtain rfl : j = k + 1 := by omega
        intro e2; rw [e2] at h2; cases h2
    · intro h
      refine ⟨fun j j1 j2 => h j j1 (by omega), ?_⟩
      have := h (k + 1) (by omega) (by omega)
      simpa using this

/-- plays that prove it are taken -/
theorem prf_check {xs l : List Int} (hv : checkRow xs = 0) {P : Nat → Bool} {m : Nat} (hp : Prf P m xs.length (bt xs)) (hl : PL P l) : proofCheck xs m l = 0 := by
  obtain ⟨hlen, hbits⟩ := checkRow_zero hv
  have hmem : ∀ k, k < l.length → (m : Int) ≤ nth l k ∧ nth l k < xs.length := by
    intro k hk
    obtain ⟨n, e, hn⟩ := (hl.mem _).1 (nth_mem hk)
    have := hp.rng n hn
    rw [e]; omega
  have hP : ∀ n, inL l l.length n = P n := by
    intro n
    rw [inL_all, Bool.eq_iff_iff, decide_eq_true_iff, hl.mem]
    constructor
    · rintro ⟨k, e, hk⟩
      obtain rfl : n = k := by omega
      exact hk
    · intro h; exact ⟨n, rfl, h⟩
  have hsum : ∀ b, decide (sumOf xs l b l.length = 1) = xsum xs.length (fun n => P n && bt xs (n - b)) := by
    intro b
    rw [sumOf_xsum hbits b xs.length hl.asc (fun k hk => by have := hmem k hk; omega) l.length (Nat.le_refl _)]
    exact xsum_congr (fun n _ => by rw [hP])
  have h0 : sumOf xs l 0 l.length = 1 := by
    have := hsum 0
    rw [show xsum xs.length (fun n => P n && bt xs (n - 0)) = true from hp.own] at this
    exact of_decide_eq_true this
  have hodd : anyOdd xs l m = false := anyOdd_false.2 (fun j j1 j2 e => by
    have := hsum j
    rw [hp.oth j j1 j2, e] at this
    cases this)
  have hne : l.length ≠ 0 := by
    intro e
    rw [e] at h0
    cases h0
  unfold proofCheck
  rw [if_neg (by simp [hv]), if_neg (by omega), if_neg (by rw [rng_of hl.asc hmem l.length (Nat.le_refl _)]; simp), if_neg hne, if_neg]
  rw [Int.toNat_natCast, hodd, h0]
  simp

/-- plays that are taken prove it -/
theorem check_prf {xs l : List Int} {m : Nat} (h : proofCheck xs m l = 0) : checkRow xs = 0 ∧ Prf (fun n => decide ((n : Int) ∈ l)) m xs.length (bt xs) := by
  unfold proofCheck at h
  split at h
  · rename_i h1; exact absurd h h1
  · rename_i hv
    have hv : checkRow xs = 0 := by simpa using hv
    obtain ⟨hlen, hbits⟩ := checkRow_zero hv
    rw [if_neg (by omega)] at h
    split at h
    · cases h
    · rename_i hr
      have hr : rngTo m xs.length l l.length = true := by simpa using hr
      split at h
      · cases h
      · split at h
        · cases h
        · rename_i hs
          have hasc := rng_asc hr
          have hb := rngTo_true _ hr
          have hsum : ∀ b, decide (sumOf xs l b l.length = 1) = xsum xs.length (fun n => decide ((n : Int) ∈ l) && bt xs (n - b)) := by
            intro b
            rw [sumOf_xsum hbits b xs.length hasc (fun k hk => by have := hb k hk; omega) l.length (Nat.le_refl _)]
            exact xsum_congr (fun n _ => by rw [inL_all])
          have h0 : sumOf xs l 0 l.length = 1 := by
            rcases sumOf_bit xs l 0 l.length with e | e
            · exact absurd (.inl e) hs
            · exact e
          have hodd : anyOdd xs l m = false := by
            cases ho : anyOdd xs l m with
            | false => rfl
            | true => exact absurd (.inr (by rw [Int.toNat_natCast]; exact ho)) hs
          refine ⟨hv, fun n hn => ?_, ?_, fun k k1 k2 => ?_⟩
          · have hm := of_decide_eq_true hn
            obtain ⟨j, hj, e⟩ := List.getElem_of_mem hm
            have := hb j hj
            rw [nth_eq hj, e] at this
            omega
          · have := hsum 0
            rw [h0] at this
            exact this.symm
          · have := hsum k
            rw [← this]
            exact decide_eq_false (anyOdd_false.1 hodd k k1 k2)

theorem rd_proof {xs : List Int} (hv : checkRow xs = 0) (hp : 0 < pl xs) : proofCheck xs ((pl xs : Int) - 1) (rdAll xs).proof = 0 ∧ (rdAll xs).proof.length ≤ 40 := by
  obtain ⟨hlen, hbits⟩ := checkRow_zero hv
  obtain ⟨P, hb, hl⟩ := (RB.full hbits (by omega)).bm
  have h1 := hl hp
  have h2 := hb.prf hp
  have e : ((pl xs : Int) - 1) = ((pl xs - 1 : Nat) : Int) := by omega
  rw [e]
  refine ⟨prf_check hv h2 h1, ?_⟩
  have hstep : ∀ k, k < (rdAll xs).proof.length → (k : Int) ≤ nth (rdAll xs).proof k := by
    intro k
    induction k with
    | zero =>
      intro hk
      obtain ⟨n, e, _⟩ := (h1.mem _).1 (nth_mem hk)
      rw [e]; omega
    | succ k ih =>
      intro hk
      have := ih (by omega)
      have := h1.asc k (k + 1) (by omega) hk
      omega
  by_cases h0 : (rdAll xs).proof.length = 0
  · omega
  · have := hstep ((rdAll xs).proof.length - 1) (by omega)
    obtain ⟨n, e, hn⟩ := (h1.mem _).1 (nth_mem (xs := (rdAll xs).proof) (k := (rdAll xs).proof.length - 1) (by omega))
    have := h2.rng n hn
    omega

/-- plays that prove it: the row has more places, and so has each drum that makes it -/
theorem check_more {xs l : List Int} {m : Nat} (h : proofCheck xs m l = 0) : m < pl xs ∧ ∀ f g : List Int, isBits f = true → isBits g = true → f.length = g.length → playsF f g xs.length = xs → m < f.length := by
  obtain ⟨hv, hp⟩ := check_prf h
  refine ⟨?_, fun f g hf hg hl hm => ?_⟩
  · by_cases e : pl xs ≤ m
    · exact (hp.no e (rd_gen hv)).elim
    · omega
  · by_cases e : f.length ≤ m
    · exact (hp.no e (makes_gen hf hg (checkRow_zero hv).2 hl hm)).elim
    · omega

/- plays left out -/
theorem Fed.shift {C : Nat → Bool} {L N d : Nat} {s : Nat → Bool} (h : Fed C L N s) : Fed C L (N - d) (fun t => s (d + t)) :=
  ⟨h.1, fun t t1 t2 => by
    rw [← h.2 (d + t) (by omega) (by omega)]
    exact xsum_congr (fun k hk => by rw [show d + t - k = d + (t - k) from by omega])⟩

theorem bt_drop (l : List Int) (d t : Nat) : bt (l.drop d) t = bt l (d + t) := by unfold bt; rw [nth_drop]

theorem pl_drop {xs : List Int} (hv : checkRow xs = 0) (d : Nat) : pl (xs.drop d) ≤ pl xs := by
  obtain ⟨hlen, hbits⟩ := checkRow_zero hv
  refine rd_least (checkRow_of' (by rw [List.length_drop]; omega) (isBits_drop hbits d)) (C := cf (rdDrum (rdAll xs)).1) ?_
  rw [List.length_drop]
  exact ((rd_gen hv).shift (d := d)).row (fun t _ => (bt_drop xs d t).symm)
where
  checkRow_of' {xs : List Int} (hl : xs.length ≤ 40) (hb : isBits xs = true) : checkRow xs = 0 := by
    unfold checkRow; rw [if_neg (by omega), if_pos hb]

theorem row_valid {xs : List Int} (hl : xs.length ≤ 40) (hb : isBits xs = true) : checkRow xs = 0 := by
  unfold checkRow; rw [if_neg (by omega), if_pos hb]

/-- the plays of a drum, from any play on, have no more places than it -/
theorem pl_window {f g : List Int} (hf : isBits f = true) (hg : isBits g = true) (hl : f.length = g.length) {N d : Nat} (hd : d + 40 ≤ N) : pl (((playsF f g N).drop d).take 40) ≤ f.length := by
  have hlen : (((playsF f g N).drop d).take 40).length = 40 := by rw [List.length_take, List.length_drop, playsF_length]; omega
  refine rd_least (row_valid (by omega) (isBits_take (isBits_drop (playsF_bits (f := f) hg N) d) 40)) (C := cf f) ?_
  rw [hlen]
  have h := (seq_gen hf hg hl (d + 40)).shift (d := d)
  rw [Nat.add_sub_cancel_left] at h
  refine h.row (fun t ht => ?_)
  rw [bt_take ht, bt_drop, bt_seq f g (by omega)]

/-- a row with a play that was won, behind as many lost plays as it has places, and one more, has more -/
theorem pl_zeros {xs : List Int} (hv : checkRow xs = 0) (hp : 0 < pl xs) (hl : xs.length + pl xs + 1 ≤ 40) : pl xs < pl (List.replicate (pl xs + 1) 0 ++ xs) := by
  obtain ⟨hlen, hbits⟩ := checkRow_zero hv
  obtain ⟨n, hn⟩ : ∃ n, n = pl xs := ⟨_, rfl⟩
  rw [← hn] at hp hl ⊢
  have hz : isBits (List.replicate (n + 1) (0 : Int)) = true := by
    unfold isBits; rw [List.all_eq_true]; intro x hx; rw [List.eq_of_mem_replicate hx]; rfl
  have hlr : (List.replicate (n + 1) (0 : Int) ++ xs).length = n + 1 + xs.length := by simp
  have hv2 : checkRow (List.replicate (n + 1) 0 ++ xs) = 0 := row_valid (by omega) (by rw [isBits_append, hz, hbits]; rfl)
  by_cases h : n < pl (List.replicate (n + 1) 0 ++ xs)
  · exact h
  · exfalso
    have hg := rd_gen hv2
    rw [show (rdAll (List.replicate (n + 1) 0 ++ xs)).places = pl (List.replicate (n + 1) 0 ++ xs) from rfl, hlr] at hg
    have hall : ∀ t, t < n + 1 + xs.length → bt (List.replicate (n + 1) 0 ++ xs) t = false := by
      intro t
      induction t using Nat.strongRecOn with
      | _ t ih =>
        intro ht
        by_cases e : t < n + 1
        · rw [bt_append (by simp; omega)]
          unfold bt
          have hb := nth_mem (xs := List.replicate (n + 1) (0 : Int)) (k := t) (by simp; omega)
          rw [List.eq_of_mem_replicate hb]; rfl
        · have := (gen_head (L := pl (List.replicate (n + 1) 0 ++ xs)) (t := t) (s := bt (List.replicate (n + 1) 0 ++ xs)) hg.1).1 (hg.2 t (by omega) ht)
          rw [this]
          exact xsum_zero (fun i hi => by rw [ih (t - 1 - i) (by omega) (by omega)]; simp)
    have hxz : ∀ t, t < xs.length → bt xs t = false := by
      intro t ht
      have h1 := hall (n + 1 + t) (by omega)
      unfold bt at h1 ⊢
      have h2 := nth_append_right (List.replicate (n + 1) (0 : Int)) xs t
      rw [List.length_replicate] at h2
      rwa [h2] at h1
    have h0 : pl xs ≤ 0 := rd_least hv (C := cf []) ⟨rfl, fun t t1 t2 => by
      simp only [xsum, Nat.sub_zero, hxz t t2]
      simp⟩
    omega

end Go.Proofs.Ytjnijhnphhpilaa
