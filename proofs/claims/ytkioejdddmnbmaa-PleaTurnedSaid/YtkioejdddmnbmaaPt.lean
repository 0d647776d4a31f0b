/- Plain: facts that have other numbers, and rules in another order: as many truths, and verdicts go with the facts. -/
import Derived.Test.YtkioejdddmnbmaaPl
namespace Go.Proofs.Ytkioejdddmnbmaa

theorem nodup_le : ∀ {a b : List Nat}, a.Nodup → (∀ x ∈ a, x ∈ b) → a.length ≤ b.length
  | [], _, _, _ => Nat.zero_le _
  | x :: a, b, h, hs => by
    have h' := List.nodup_cons.1 h
    have h1 := nodup_le (a := a) (b := b.erase x) h'.2 (fun y hy => (List.mem_erase_of_ne (fun e : y = x => h'.1 (by rw [← e]; exact hy))).2 (hs y (by simp [hy])))
    have hx := hs x (by simp)
    rw [List.length_erase_of_mem hx] at h1
    have := List.length_pos_of_mem hx
    rw [List.length_cons]; omega

/-- a fact's other number, and back -/
def sg (f s n : Nat) : Nat := (n + s) % f
def tu (f s m : Nat) : Nat := if s ≤ m then m - s else m + f - s
section
variable {f s : Nat}
theorem sg_eq {n : Nat} (hs : s < f) (hn : n < f) : sg f s n = if n + s < f then n + s else n + s - f := by
  unfold sg
  split
  · exact Nat.mod_eq_of_lt (by omega)
  · rw [Nat.mod_eq_sub_mod (by omega), Nat.mod_eq_of_lt (by omega)]
theorem sg_lt {n : Nat} (hs : s < f) : sg f s n < f := Nat.mod_lt _ (by omega)
theorem tu_lt {m : Nat} (hs : s < f) (hm : m < f) : tu f s m < f := by unfold tu; split <;> omega
theorem tu_sg {n : Nat} (hs : s < f) (hn : n < f) : tu f s (sg f s n) = n := by
  rw [sg_eq hs hn]; unfold tu
  split <;> split <;> omega
theorem sg_tu {m : Nat} (hs : s < f) (hm : m < f) : sg f s (tu f s m) = m := by
  rw [sg_eq hs (tu_lt hs hm)]; unfold tu
  split <;> split <;> omega
theorem sg_inj {n k : Nat} (hs : s < f) (hn : n < f) (hk : k < f) (h : sg f s n = sg f s k) : n = k := by
  rw [← tu_sg hs hn, ← tu_sg hs hk, h]

/-- the bits of a moved list, as the loop finds them -/
def mvTo (f s : Nat) (l : List Int) : Nat → Nat
  | 0 => 0
  | k + 1 => mvTo f s l k ||| 2 ^ sg f s (nth l k).toNat
def mvL (f s : Nat) (l : List Int) : List Int := listedB (mvTo f s l l.length) f
theorem mvTo_test (l : List Int) (m : Nat) : ∀ k, bt (mvTo f s l k) m ↔ ∃ j, j < k ∧ sg f s (nth l j).toNat = m
  | 0 => by
    unfold bt
    rw [mvTo, Nat.zero_testBit]
    constructor
    · intro h; cases h
    · rintro ⟨j, h, _⟩; omega
  | k + 1 => by
    rw [mvTo, bt_or, mvTo_test l m k]
    constructor
    · rintro (⟨j, h1, h2⟩ | h)
      · exact ⟨j, by omega, h2⟩
      · exact ⟨k, by omega, h⟩
    · rintro ⟨j, h1, h2⟩
      by_cases e : j = k
      · subst e; exact .inr h2
      · exact .inl ⟨j, by omega, h2⟩
theorem mvTo_lt (hs : s < f) (l : List Int) (k : Nat) : mvTo f s l k < 2 ^ f := lt_pow_of fun n hn => by
  obtain ⟨j, _, rfl⟩ := (mvTo_test l n k).1 hn
  exact sg_lt hs
theorem mem_mv (hs : s < f) {l : List Int} {x : Int} : x ∈ mvL f s l ↔ ∃ y ∈ l, x = ((sg f s y.toNat : Nat) : Int) := by
  unfold mvL
  rw [mem_listed]
  constructor
  · rintro ⟨n, rfl, _, h⟩
    obtain ⟨j, hj, rfl⟩ := (mvTo_test l n _).1 h
    exact ⟨nth l j, nth_mem hj, rfl⟩
  · rintro ⟨y, hy, rfl⟩
    obtain ⟨j, hj, rfl⟩ := nth_mem_iff.1 hy
    exact ⟨_, rfl, sg_lt hs, (mvTo_test l _ _).2 ⟨j, hj, rfl⟩⟩

def mvT (f s : Nat) (t : Int) : Int := if 0 ≤ t then ((sg f s t.toNat : Nat) : Int) else t
def mvR (f s : Nat) (r : Rl) : Rl := (mvL f s r.1, mvT f s r.2)
def mvTo' (f s fr : Nat) (rs : List Rl) (k : Nat) : List Rl := (List.range k).map (fun j => mvR f s (nthR rs ((j + fr) % rs.length)))
def mvRs (f s fr : Nat) (rs : List Rl) : List Rl := mvTo' f s fr rs rs.length
theorem mvTo'_len (fr : Nat) (rs : List Rl) (k : Nat) : (mvTo' f s fr rs k).length = k := by unfold mvTo'; rw [List.length_map, List.length_range]
theorem mvTo'_succ (fr : Nat) (rs : List Rl) (k : Nat) : mvTo' f s fr rs (k + 1) = mvTo' f s fr rs k ++ [mvR f s (nthR rs ((k + fr) % rs.length))] := by
  unfold mvTo'; rw [List.range_succ, List.map_append]; rfl
theorem mem_mvRs {fr : Nat} {rs : List Rl} {r' : Rl} : r' ∈ mvRs f s fr rs ↔ ∃ r ∈ rs, r' = mvR f s r := by
  unfold mvRs mvTo'
  rw [List.mem_map]
  constructor
  · rintro ⟨j, hj, rfl⟩
    have := List.mem_range.1 hj
    exact ⟨_, nthR_mem (Nat.mod_lt _ (by omega)), rfl⟩
  · rintro ⟨r, hr, rfl⟩
    obtain ⟨i, hi, rfl⟩ := mem_nthR hr
    have hf2 : fr % rs.length < rs.length := Nat.mod_lt _ (by omega)
    refine ⟨tu rs.length (fr % rs.length) i, List.mem_range.2 (tu_lt hf2 hi), ?_⟩
    have := sg_tu hf2 hi
    unfold sg at this
    rw [Nat.add_mod_mod] at this
    rw [this]

variable {seen : List Int} {rs : List Rl}
theorem Valid.ruleAll (h : Valid f seen rs) {r : Rl} (hr : r ∈ rs) : (∀ x ∈ r.1, 0 ≤ x ∧ x < (f : Int)) ∧ -1 ≤ r.2 ∧ r.2 < (f : Int) := by
  have := List.all_eq_true.1 (case_zero h.z).2.2.2 _ hr
  unfold ruleOk at this
  rw [Bool.and_eq_true] at this
  have h2 := within_one.1 this.2
  exact ⟨fun x hx => rising_all this.1 hx, by omega, by omega⟩
theorem mv_neg {t : Int} : mvT f s t < 0 ↔ t < 0 := by
  unfold mvT; split <;> omega
theorem mv_pos {t : Int} (h : 0 ≤ t) : (mvT f s t).toNat = sg f s t.toNat := by
  unfold mvT; rw [if_pos h, Int.toNat_natCast]
theorem Valid.moved (h : Valid f seen rs) (hs : s < f) (fr : Nat) : Valid f (mvL f s seen) (mvRs f s fr rs) := by
  obtain ⟨⟨f0, f1⟩, h2, h3, h4⟩ := case_zero h.z
  refine valid_of ?_ fun i hi => ?_
  · unfold caseErr
    rw [if_pos, if_pos]
    · rw [Bool.and_eq_true]
      refine ⟨listed_rising _ _, List.all_eq_true.2 fun r' hr' => ?_⟩
      obtain ⟨r, hr, rfl⟩ := mem_mvRs.1 hr'
      have := (h.ruleAll hr).2
      unfold ruleOk
      rw [Bool.and_eq_true]
      refine ⟨listed_rising _ _, within_one.2 ?_⟩
      show -1 ≤ mvT f s r.2 ∧ mvT f s r.2 ≤ (f : Int) - 1
      unfold mvT
      split
      · have := sg_lt (n := r.2.toNat) hs; omega
      · omega
    · rw [Bool.and_eq_true]
      refine ⟨within_one.2 (by omega), decide_eq_true ?_⟩
      unfold mvRs; rw [mvTo'_len]; exact h2
  · obtain ⟨r, _, e⟩ := mem_mvRs.1 (nthR_mem hi)
    rw [e]
    have := listed_len (mvTo f s r.1 r.1.length) f
    show (mvL f s r.1).length ≤ 1000000
    unfold mvL
    have := h.ok.f1
    omega

/-- what was seen goes with the facts -/
structure Goes (f s : Nat) (S S' : Nat → Prop) : Prop where
  fwd : ∀ n, S n → n < f ∧ S' (sg f s n)
  back : ∀ m, S' m → ∃ n, n < f ∧ m = sg f s n ∧ S n
theorem Valid.goes (h : Valid f seen rs) (hs : s < f) : Goes f s (SeenP seen) (SeenP (mvL f s seen)) := by
  refine ⟨fun n hn => ⟨h.ok.sl n hn, ?_⟩, fun m hm => ?_⟩
  · unfold SeenP
    rw [mem_mv hs]
    exact ⟨_, hn, by rw [Int.toNat_natCast]⟩
  · unfold SeenP at hm
    rw [mem_mv hs] at hm
    obtain ⟨y, hy, e⟩ := hm
    have := h.all y hy
    refine ⟨y.toNat, by omega, by omega, ?_⟩
    unfold SeenP
    rw [Int.toNat_of_nonneg this.1]; exact hy
theorem Goes.also {S S' : Nat → Prop} (g : Goes f s S S') {i : Nat} (hi : i < f) : Goes f s (fun n => S n ∨ n = i) (fun n => S' n ∨ n = sg f s i) := by
  refine ⟨fun n hn => ?_, fun m hm => ?_⟩
  · rcases hn with hn | rfl
    · exact ⟨(g.fwd n hn).1, .inl (g.fwd n hn).2⟩
    · exact ⟨hi, .inr rfl⟩
  · rcases hm with hm | rfl
    · obtain ⟨n, h1, h2, h3⟩ := g.back m hm
      exact ⟨n, h1, h2, .inl h3⟩
    · exact ⟨i, hi, rfl, .inr rfl⟩
variable {S S' : Nat → Prop}
theorem Valid.der_to (h : Valid f seen rs) (hs : s < f) (fr : Nat) (g : Goes f s S S') {n : Nat} (hd : Der rs S n) : n < f ∧ Der (mvRs f s fr rs) S' (sg f s n) := by
  refine hd.least (T := fun n => n < f ∧ Der (mvRs f s fr rs) S' (sg f s n)) (fun n hn => ⟨(g.fwd n hn).1, .seen (g.fwd n hn).2⟩) fun r hr h0 hx => ?_
  have ha := h.ruleAll hr
  refine ⟨by omega, ?_⟩
  have h2 : 0 ≤ (mvR f s r).2 := by
    have : ¬ mvT f s r.2 < 0 := fun q => by have := mv_neg.1 q; omega
    show 0 ≤ mvT f s r.2
    omega
  have := Der.rule (rs := mvRs f s fr rs) (S := S') (mem_mvRs.2 ⟨r, hr, rfl⟩) h2 (fun x hx' => by
    obtain ⟨y, hy, rfl⟩ := (mem_mv hs).1 hx'
    rw [Int.toNat_natCast]
    exact (hx y hy).2)
  rw [show (mvR f s r).2.toNat = sg f s r.2.toNat from mv_pos h0] at this
  exact this
theorem Valid.all_back (h : Valid f seen rs) (hs : s < f) {r : Rl} (hr : r ∈ rs) {T : Nat → Prop} (hx : ∀ x ∈ (mvR f s r).1, ∃ n, n < f ∧ x.toNat = sg f s n ∧ T n) : ∀ y ∈ r.1, T y.toNat := fun y hy => by
  obtain ⟨n, h1, h2, h3⟩ := hx _ ((mem_mv hs).2 ⟨y, hy, rfl⟩)
  rw [Int.toNat_natCast] at h2
  have ha := (h.ruleAll hr).1 y hy
  rw [sg_inj hs (by omega) h1 h2]; exact h3
theorem Valid.der_from (h : Valid f seen rs) (hs : s < f) (fr : Nat) (g : Goes f s S S') {m : Nat} (hd : Der (mvRs f s fr rs) S' m) : ∃ n, n < f ∧ m = sg f s n ∧ Der rs S n := by
  refine hd.least (T := fun m => ∃ n, n < f ∧ m = sg f s n ∧ Der rs S n) (fun m hm => ?_) fun r' hr' h0 hx => ?_
  · obtain ⟨n, h1, h2, h3⟩ := g.back m hm
    exact ⟨n, h1, h2, .seen h3⟩
  · obtain ⟨r, hr, rfl⟩ := mem_mvRs.1 hr'
    have ha := h.ruleAll hr
    have h2 : 0 ≤ r.2 := by
      refine Classical.byContradiction fun hn => ?_
      have : mvT f s r.2 < 0 := mv_neg.2 (by omega)
      have h0' : 0 ≤ mvT f s r.2 := h0
      omega
    exact ⟨r.2.toNat, by omega, mv_pos h2, .rule hr h2 (h.all_back hs hr hx)⟩
theorem Valid.clsh_mv (h : Valid f seen rs) (hs : s < f) (fr : Nat) (g : Goes f s S S') : Clsh (mvRs f s fr rs) S' ↔ Clsh rs S := by
  constructor
  · rintro ⟨r', hr', h0, hx⟩
    obtain ⟨r, hr, rfl⟩ := mem_mvRs.1 hr'
    exact ⟨r, hr, mv_neg.1 h0, h.all_back hs hr fun x hx' => h.der_from hs fr g (hx x hx')⟩
  · rintro ⟨r, hr, h0, hx⟩
    refine ⟨mvR f s r, mem_mvRs.2 ⟨r, hr, rfl⟩, mv_neg.2 h0, fun x hx' => ?_⟩
    obtain ⟨y, hy, rfl⟩ := (mem_mv hs).1 hx'
    rw [Int.toNat_natCast]
    exact (h.der_to hs fr g (hx y hy)).2
theorem Valid.der_mv (h : Valid f seen rs) (hs : s < f) (fr : Nat) (g : Goes f s S S') {i : Nat} (hi : i < f) : Der (mvRs f s fr rs) S' (sg f s i) ↔ Der rs S i := by
  constructor
  · intro hd
    obtain ⟨n, h1, h2, h3⟩ := h.der_from hs fr g hd
    rw [sg_inj hs hi h1 h2]; exact h3
  · exact fun hd => (h.der_to hs fr g hd).2
theorem Valid.moved_verdict (h : Valid f seen rs) (hs : s < f) (fr : Nat) {i : Nat} (hi : i < f) :
    rVerdictN (f : Int) (mvL f s seen) (mvRs f s fr rs) (sg f s i : Nat) = rVerdictN (f : Int) seen rs i ∧
    rVerdictE (f : Int) (mvL f s seen) (mvRs f s fr rs) (sg f s i : Nat) = rVerdictE (f : Int) seen rs i := by
  have h' := h.moved hs fr
  have hj : sg f s i < f := sg_lt hs
  have g := h.goes hs
  have gq : Goes f s (SeenQ seen i) (SeenQ (mvL f s seen) (sg f s i)) := g.also hi
  by_cases hc : Clsh rs (SeenP seen)
  · have hc' := (h.clsh_mv hs fr g).2 hc
    rw [(h.verdictC hi hc).1, (h.verdictC hi hc).2, (h'.verdictC hj hc').1, (h'.verdictC hj hc').2]
    exact ⟨rfl, rfl⟩
  · have hc' : ¬ Clsh (mvRs f s fr rs) (SeenP (mvL f s seen)) := fun q => hc ((h.clsh_mv hs fr g).1 q)
    rw [h.verdictD hi hc, h'.verdictD hj hc']
    refine ⟨?_, rfl⟩
    obtain ⟨a1, a2, a3⟩ := (h.verdictN hi).2 (h.some hc)
    obtain ⟨b1, b2, b3⟩ := (h'.verdictN hj).2 (h'.some hc')
    by_cases hd : Der rs (SeenP seen) i
    · rw [a1 hd, b1 ((h.der_mv hs fr g hi).2 hd)]
    · by_cases hq : Clsh rs (SeenQ seen i)
      · rw [a2 hq, b2 ((h.clsh_mv hs fr gq).2 hq)]
      · rw [a3 hd hq, b3 (fun q => hd ((h.der_mv hs fr g hi).1 q)) (fun q => hq ((h.clsh_mv hs fr gq).1 q))]

/-! truths -/
def toB (f : Nat) (p : Nat → Bool) : Nat := bitsL (selTo p f)
theorem toB_test {p : Nat → Bool} (hf : f ≤ 12) (n : Nat) : bt (toB f p) n ↔ n < f ∧ p n = true := by
  have hfo : factsOk (selTo p f) := fun k hk => by
    obtain ⟨n, h1, h2, _⟩ := mem_sel.1 (nth_mem hk)
    rw [h1]; omega
  unfold toB bt
  rw [bitsL_test hfo]
  unfold SeenP
  rw [mem_sel]
  constructor
  · rintro ⟨m, h1, h2, h3⟩
    have : n = m := by omega
    subst this; exact ⟨h2, h3⟩
  · rintro ⟨h1, h2⟩
    exact ⟨n, rfl, h1, h2⟩
theorem toB_lt {p : Nat → Bool} (hf : f ≤ 12) : toB f p < 2 ^ f := lt_pow_of fun n hn => ((toB_test hf n).1 hn).1
theorem bt_lt {b n : Nat} (hb : b < 2 ^ f) (h : bt b n) : n < f := by
  refine Classical.byContradiction fun hn => ?_
  have h2 : b < 2 ^ n := Nat.lt_of_lt_of_le hb (Nat.pow_le_pow_right (by omega) (by omega))
  unfold bt at h
  rw [Nat.testBit_lt_two_pow h2] at h; cases h
theorem bits_ext {a b : Nat} (ha : a < 2 ^ f) (hb : b < 2 ^ f) (h : ∀ n, n < f → (bt a n ↔ bt b n)) : a = b := by
  refine Nat.eq_of_testBit_eq fun n => ?_
  rw [Bool.eq_iff_iff]
  constructor
  · exact fun q => (h n (bt_lt ha q)).1 q
  · exact fun q => (h n (bt_lt hb q)).2 q
theorem map_le {a b : List Nat} (ha : a.Nodup) (g : Nat → Nat) (hi : ∀ x ∈ a, ∀ y ∈ a, g x = g y → x = y) (hb : ∀ x ∈ a, g x ∈ b) : a.length ≤ b.length := by
  rw [← List.length_map (f := g)]
  refine nodup_le ?_ fun y hy => ?_
  · refine List.pairwise_map.2 (List.Pairwise.imp_of_mem ?_ ha)
    intro x y hx hy hne e
    exact hne (hi x hx y hy e)
  · obtain ⟨x, hx, rfl⟩ := List.mem_map.1 hy
    exact hb x hx
theorem truths_nodup : (truthsN f seen rs).Nodup := by
  unfold truthsN
  exact List.Pairwise.filter _ List.nodup_range
theorem Valid.moved_count (h : Valid f seen rs) (hs : s < f) (fr : Nat) : (truthsN f (mvL f s seen) (mvRs f s fr rs)).length = (truthsN f seen rs).length := by
  have h' := h.moved hs fr
  have hf := h.ok.f1
  have g := h.goes hs
  refine Nat.le_antisymm ?_ ?_
  · refine map_le truths_nodup (fun b => toB f fun n => b.testBit (sg f s n)) (fun a ha b hb e => ?_) fun b hb => ?_
    · obtain ⟨a1, _, _⟩ := (mem_truthsN h'.ok).1 ha
      obtain ⟨b1, _, _⟩ := (mem_truthsN h'.ok).1 hb
      refine bits_ext a1 b1 fun m hm => ?_
      have hA := toB_test (f := f) (p := fun n => a.testBit (sg f s n)) hf (tu f s m)
      have hB := toB_test (f := f) (p := fun n => b.testBit (sg f s n)) hf (tu f s m)
      rw [e, hB] at hA
      rw [sg_tu hs hm] at hA
      have ht := tu_lt hs hm
      exact ⟨fun q => (hA.2 ⟨ht, q⟩).2, fun q => (hA.1 ⟨ht, q⟩).2⟩
    · obtain ⟨b1, b2, b3⟩ := (mem_truthsN h'.ok).1 hb
      refine (mem_truthsN h.ok).2 ⟨toB_lt hf, fun n hn => ?_, fun r hr hx => ?_⟩
      · exact (toB_test hf n).2 ⟨(g.fwd n hn).1, b2 _ (g.fwd n hn).2⟩
      · have ha := h.ruleAll hr
        have := b3 (mvR f s r) (mem_mvRs.2 ⟨r, hr, rfl⟩) (fun x hx' => by
          obtain ⟨y, hy, rfl⟩ := (mem_mv hs).1 hx'
          rw [Int.toNat_natCast]
          exact ((toB_test hf _).1 (hx y hy)).2)
        have h0 : 0 ≤ r.2 := by
          refine Classical.byContradiction fun hn => ?_
          have h1 : mvT f s r.2 < 0 := mv_neg.2 (by omega)
          have h2 : 0 ≤ mvT f s r.2 := this.1
          omega
        refine ⟨h0, (toB_test hf _).2 ⟨by omega, ?_⟩⟩
        have h2 := this.2
        rw [show (mvR f s r).2.toNat = sg f s r.2.toNat from mv_pos h0] at h2
        exact h2
  · refine map_le truths_nodup (fun b => toB f fun n => b.testBit (tu f s n)) (fun a ha b hb e => ?_) fun b hb => ?_
    · obtain ⟨a1, _, _⟩ := (mem_truthsN h.ok).1 ha
      obtain ⟨b1, _, _⟩ := (mem_truthsN h.ok).1 hb
      refine bits_ext a1 b1 fun m hm => ?_
      have hA := toB_test (f := f) (p := fun n => a.testBit (tu f s n)) hf (sg f s m)
      have hB := toB_test (f := f) (p := fun n => b.testBit (tu f s n)) hf (sg f s m)
      rw [e, hB] at hA
      rw [tu_sg hs hm] at hA
      have ht := sg_lt (n := m) hs
      exact ⟨fun q => (hA.2 ⟨ht, q⟩).2, fun q => (hA.1 ⟨ht, q⟩).2⟩
    · obtain ⟨b1, b2, b3⟩ := (mem_truthsN h.ok).1 hb
      refine (mem_truthsN h'.ok).2 ⟨toB_lt hf, fun m hm => ?_, fun r' hr' hx => ?_⟩
      · obtain ⟨n, n1, rfl, n3⟩ := g.back m hm
        refine (toB_test hf _).2 ⟨sg_lt hs, ?_⟩
        rw [tu_sg hs n1]; exact b2 n n3
      · obtain ⟨r, hr, rfl⟩ := mem_mvRs.1 hr'
        have ha := h.ruleAll hr
        have := b3 r hr (h.all_back hs hr fun x hx' => by
          obtain ⟨h1, h2⟩ := (toB_test hf _).1 (hx x hx')
          exact ⟨_, tu_lt hs h1, (sg_tu hs h1).symm, h2⟩)
        have hp : (mvR f s r).2.toNat = sg f s r.2.toNat := mv_pos this.1
        rw [hp]
        refine ⟨?_, (toB_test hf _).2 ⟨sg_lt hs, ?_⟩⟩
        · have : ¬ mvT f s r.2 < 0 := fun q => by have := mv_neg.1 q; omega
          show 0 ≤ mvT f s r.2
          omega
        · rw [tu_sg hs (by omega)]; exact this.2
end

end Go.Proofs.Ytkioejdddmnbmaa
