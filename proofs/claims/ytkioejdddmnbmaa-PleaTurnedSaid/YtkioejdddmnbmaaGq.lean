/- Plain: the first of the shortest lists that are good is the least one of the good lists, shorter ones ahead. Walks of the reference: before, Needed, Wrong. Plain: what Needed, Wrong and Idle hand back are the reference's answers. Plain: a valid case's answers, said by what follows. Walks of the reference: Without, Idle. -/
import Derived.Test.YtkioejdddmnbmaaGp
import Derived.Test.YtkioejdddmnbmaaGg
import Derived.Test.YtkioejdddmnbmaaGc
import Derived.Deep.DeepCutAuto
import Derived.Test.YtkioejdddmnbmaaGh
import Derived.Test.YtkioejdddmnbmaaGe
namespace Go.Proofs.Ytkioejdddmnbmaa

/-- the order of lists: at the first place where they part the less -/
def lexB : List Int → List Int → Bool
  | x :: a, y :: b => if x = y then lexB a b else decide (x < y)
  | [], _ => false
  | _ :: _, [] => false
def beforeL (a b : List Int) : Bool := if a.length = b.length then lexB a b else decide (a.length < b.length)

theorem lexB_irr : ∀ a : List Int, lexB a a = false
  | [] => rfl
  | x :: a => by rw [lexB, if_pos rfl]; exact lexB_irr a
theorem lexB_trans : ∀ {a b c : List Int}, lexB a b = true → lexB b c = true → lexB a c = true
  | [], _, _, h, _ => by rw [lexB] at h; cases h
  | x :: a, [], _, h, _ => by rw [lexB] at h; cases h
  | x :: a, y :: b, [], _, h => by rw [lexB] at h; cases h
  | x :: a, y :: b, z :: c, h1, h2 => by
    rw [lexB] at h1 h2 ⊢
    split at h1
    · split at h2
      · rw [if_pos (by omega)]; exact lexB_trans h1 h2
      · simp only [decide_eq_true_eq] at h2
        rw [if_neg (by omega)]; exact decide_eq_true (by omega)
    · simp only [decide_eq_true_eq] at h1
      split at h2
      · rw [if_neg (by omega)]; exact decide_eq_true (by omega)
      · simp only [decide_eq_true_eq] at h2
        rw [if_neg (by omega)]; exact decide_eq_true (by omega)
theorem before_irr (a : List Int) : beforeL a a = false := by unfold beforeL; rw [if_pos rfl]; exact lexB_irr a
theorem before_trans {a b c : List Int} (h1 : beforeL a b = true) (h2 : beforeL b c = true) : beforeL a c = true := by
  unfold beforeL at *
  split at h1
  · split at h2
    · rw [if_pos (by omega)]; exact lexB_trans h1 h2
    · simp only [decide_eq_true_eq] at h2
      rw [if_neg (by omega)]; exact decide_eq_true (by omega)
  · simp only [decide_eq_true_eq] at h1
    split at h2
    · rw [if_neg (by omega)]; exact decide_eq_true (by omega)
    · simp only [decide_eq_true_eq] at h2
      rw [if_neg (by omega)]; exact decide_eq_true (by omega)

/-- strictly rising -/
def Rise (l : List Int) : Prop := l.Pairwise (· < ·)

theorem sm_spec {good : List Int → Bool} : ∀ (t : List Int) (r : Nat) (b : List Int), Rise t →
    match sm good t r b with
    | some L => ∃ M, M.Sublist t ∧ M.length = r ∧ L = b ++ M ∧ good L = true ∧ ∀ M', M'.Sublist t → M'.length = r → good (b ++ M') = true → M' = M ∨ lexB M M' = true
    | none => ∀ M', M'.Sublist t → M'.length = r → good (b ++ M') = false
  | t, 0, b, _ => by
    rw [sm_zero]
    by_cases h : good b = true
    · rw [if_pos h]
      refine ⟨[], List.nil_sublist _, rfl, (List.append_nil b).symm, h, fun M' _ h2 _ => .inl (List.length_eq_zero_iff.1 h2)⟩
    · rw [if_neg h]
      intro M' _ h2
      rw [List.length_eq_zero_iff.1 h2, List.append_nil]
      simpa using h
  | [], r + 1, b, _ => by
    rw [sm]
    intro M' h1 h2
    rw [List.sublist_nil.1 h1] at h2
    cases h2
  | x :: t, r + 1, b, hr => by
    have hx : ∀ y ∈ t, x < y := (List.pairwise_cons.1 hr).1
    have ht : Rise t := (List.pairwise_cons.1 hr).2
    have i1 := sm_spec (good := good) t r (b ++ [x]) ht
    have i2 := sm_spec (good := good) t (r + 1) b ht
    rw [sm]
    cases h1 : sm good t r (b ++ [x]) with
    | some L =>
      rw [h1] at i1
      obtain ⟨M, m1, m2, m3, m4, m5⟩ := i1
      refine ⟨x :: M, m1.cons_cons x, by rw [List.length_cons, m2], by rw [m3]; simp, m4, fun M' s1 s2 s3 => ?_⟩
      rcases List.sublist_cons_iff.1 s1 with q | ⟨q, rfl, hq⟩
      · cases M' with
        | nil => cases s2
        | cons y M'' =>
          have hy := hx y (q.subset (by simp))
          refine .inr ?_
          rw [lexB, if_neg (by omega)]; exact decide_eq_true hy
      · rcases m5 q hq (by simpa using s2) (by rw [List.append_assoc]; exact s3) with e | e
        · exact .inl (by rw [e])
        · refine .inr ?_
          rw [lexB, if_pos rfl]; exact e
    | none =>
      rw [h1] at i1
      dsimp only at i1 ⊢
      have hc : ∀ q, q.Sublist t → (x :: q).length = r + 1 → good (b ++ x :: q) = false := fun q hq hl => by
        have := i1 q hq (by simpa using hl)
        rw [List.append_assoc] at this; exact this
      cases h2 : sm good t (r + 1) b with
      | some L =>
        rw [h2] at i2
        obtain ⟨M, m1, m2, m3, m4, m5⟩ := i2
        refine ⟨M, m1.cons x, m2, m3, m4, fun M' s1 s2 s3 => ?_⟩
        rcases List.sublist_cons_iff.1 s1 with q | ⟨q, rfl, hq⟩
        · exact m5 M' q s2 s3
        · rw [hc q hq s2] at s3; cases s3
      | none =>
        rw [h2] at i2
        intro M' s1 s2
        rcases List.sublist_cons_iff.1 s1 with q | ⟨q, rfl, hq⟩
        · exact i2 M' q s2
        · exact hc q hq s2

theorem fw_spec {good : List Int → Bool} {seen : List Int} (hr : Rise seen) : ∀ (d m : Nat),
    match fwFrom good seen m d with
    | some L => L.Sublist seen ∧ good L = true ∧ ∀ M, M.Sublist seen → m ≤ M.length → good M = true → M = L ∨ beforeL L M = true
    | none => ∀ M, M.Sublist seen → m ≤ M.length → M.length < m + d → good M = false
  | 0, m => by
    rw [fwFrom]
    intro M _ h1 h2
    omega
  | d + 1, m => by
    have i1 := sm_spec (good := good) seen m [] hr
    have i2 := fw_spec (good := good) hr d (m + 1)
    rw [fwFrom]
    cases h1 : sm good seen m [] with
    | some L =>
      rw [h1] at i1
      obtain ⟨M, m1, m2, m3, m4, m5⟩ := i1
      rw [List.nil_append] at m3
      subst m3
      refine ⟨m1, m4, fun M' s1 s2 s3 => ?_⟩
      by_cases hl : M'.length = m
      · rcases m5 M' s1 hl s3 with e | e
        · exact .inl e
        · refine .inr ?_
          unfold beforeL
          rw [if_pos (by omega)]; exact e
      · refine .inr ?_
        unfold beforeL
        rw [if_neg (by omega)]; exact decide_eq_true (by omega)
    | none =>
      rw [h1] at i1
      dsimp only at i1 ⊢
      cases h2 : fwFrom good seen (m + 1) d with
      | some L =>
        rw [h2] at i2
        obtain ⟨m1, m2, m3⟩ := i2
        refine ⟨m1, m2, fun M s1 s2 s3 => ?_⟩
        by_cases hl : M.length = m
        · have := i1 M s1 hl
          rw [List.nil_append, s3] at this; cases this
        · exact m3 M s1 (by omega) s3
      | none =>
        rw [h2] at i2
        intro M s1 s2 s3
        by_cases hl : M.length = m
        · have := i1 M s1 hl
          rw [List.nil_append] at this; exact this
        · exact i2 M s1 (by omega) (by omega)

theorem few_spec {good : List Int → Bool} {seen : List Int} (hr : Rise seen) {L : List Int} (h : fewM good seen = some L) :
    L.Sublist seen ∧ good L = true ∧ ∀ M, M.Sublist seen → good M = true → M = L ∨ beforeL L M = true := by
  have := fw_spec (good := good) hr (seen.length + 1) 0
  unfold fewM at h
  rw [h] at this
  exact ⟨this.1, this.2.1, fun M h1 h2 => this.2.2 M h1 (Nat.zero_le _) h2⟩
theorem few_none {good : List Int → Bool} {seen : List Int} (hr : Rise seen) (h : fewM good seen = none) {M : List Int} (hm : M.Sublist seen) : good M = false := by
  have := fw_spec (good := good) hr (seen.length + 1) 0
  unfold fewM at h
  rw [h] at this
  exact this M hm (Nat.zero_le _) (by have := hm.length_le; omega)

/-! lists of facts and bits -/
theorem rising_rise {facts : Int} {l : List Int} (h : rising facts l = true) : Rise l := by
  have step : ∀ k, k + 1 < l.length → nth l k < nth l (k + 1) := fun k hk => by
    have := List.all_eq_true.1 h (k + 1) (List.mem_range.2 hk)
    have h2 := (within_one.1 this).1
    have h3 : nextAt l (k + 1) = nth l k + 1 := by unfold nextAt; rw [if_neg (by omega)]; rfl
    omega
  have far : ∀ d k, k + d + 1 < l.length → nth l k < nth l (k + d + 1) := fun d => by
    induction d with
    | zero => exact fun k hk => step k hk
    | succ d ih =>
      intro k hk
      have h1 := ih k (by omega)
      have h2 := step (k + d + 1) (by omega)
      have : k + (d + 1) + 1 = k + d + 1 + 1 := by omega
      rw [this]; omega
  refine List.pairwise_iff_getElem.2 fun i j hi hj hij => ?_
  have := far (j - i - 1) i (by omega)
  rw [show i + (j - i - 1) + 1 = j from by omega, nth_eq hi, nth_eq hj] at this
  exact this

theorem rise_ext : ∀ {a b : List Int}, Rise a → Rise b → (∀ x, x ∈ a ↔ x ∈ b) → a = b
  | [], [], _, _, _ => rfl
  | [], y :: b, _, _, h => absurd ((h y).2 (by simp)) (by simp)
  | x :: a, [], _, _, h => absurd ((h x).1 (by simp)) (by simp)
  | x :: a, y :: b, ha, hb, h => by
    have ha' := List.pairwise_cons.1 ha
    have hb' := List.pairwise_cons.1 hb
    have e : x = y := by
      rcases List.mem_cons.1 ((h x).1 (by simp)) with e | e
      · exact e
      · rcases List.mem_cons.1 ((h y).2 (by simp)) with e2 | e2
        · exact e2.symm
        · have h1 := hb'.1 x e
          have h2 := ha'.1 y e2
          omega
    subst e
    have : a = b := rise_ext ha'.2 hb'.2 fun z => by
      constructor
      · intro hz
        rcases List.mem_cons.1 ((h z).1 (by simp [hz])) with e | e
        · have := ha'.1 z hz; omega
        · exact e
      · intro hz
        rcases List.mem_cons.1 ((h z).2 (by simp [hz])) with e | e
        · have := hb'.1 z hz; omega
        · exact e
    rw [this]

theorem selTo_rise (p : Nat → Bool) (k : Nat) : Rise (selTo p k) := by
  rw [selTo_eq]
  refine List.pairwise_map.2 ?_
  refine (List.Pairwise.filter p List.pairwise_lt_range).imp ?_
  intro a b h
  omega
theorem mem_sel {p : Nat → Bool} {k : Nat} {x : Int} : x ∈ selTo p k ↔ ∃ n : Nat, x = n ∧ n < k ∧ p n = true := by
  rw [selTo_eq, List.mem_map]
  constructor
  · rintro ⟨n, hn, rfl⟩
    have := List.mem_filter.1 hn
    exact ⟨n, rfl, List.mem_range.1 this.1, this.2⟩
  · rintro ⟨n, rfl, h1, h2⟩
    exact ⟨n, List.mem_filter.2 ⟨List.mem_range.2 h1, h2⟩, rfl⟩
theorem mem_listed {b f : Nat} {x : Int} : x ∈ listedB b f ↔ ∃ n : Nat, x = n ∧ n < f ∧ bt b n := mem_sel
theorem listed_facts {b f : Nat} (hf : f ≤ 12) : factsOk (listedB b f) := fun k hk => by
  obtain ⟨n, h1, h2, _⟩ := mem_listed.1 (nth_mem hk)
  rw [h1]; omega
theorem seen_listed {b f : Nat} {n : Nat} : SeenP (listedB b f) n ↔ n < f ∧ bt b n := by
  unfold SeenP
  rw [mem_listed]
  constructor
  · rintro ⟨m, h1, h2, h3⟩
    have : n = m := by omega
    subst this; exact ⟨h2, h3⟩
  · rintro ⟨h1, h2⟩
    exact ⟨n, rfl, h1, h2⟩

theorem rising_all {facts : Int} {l : List Int} (h : rising facts l = true) {x : Int} (hx : x ∈ l) : 0 ≤ x ∧ x < facts := by
  obtain ⟨k, hk, rfl⟩ := nth_mem_iff.1 hx
  have := rising_lt h k hk
  omega

/-- a rising list is what its bits list -/
theorem listed_bits {f : Nat} {l : List Int} (hf : f ≤ 12) (hr : Rise l) (hl : ∀ x ∈ l, 0 ≤ x ∧ x < f) : listedB (bitsL l) f = l := by
  have hfo : factsOk l := fun k hk => by have := hl _ (nth_mem hk); omega
  refine rise_ext (selTo_rise _ _) hr fun x => ?_
  rw [mem_listed]
  constructor
  · rintro ⟨n, rfl, _, h⟩
    exact (bitsL_test hfo n).1 h
  · intro h
    have := hl x h
    refine ⟨x.toNat, by omega, by omega, (bitsL_test hfo _).2 ?_⟩
    show ((x.toNat : Nat) : Int) ∈ l
    rw [Int.toNat_of_nonneg this.1]; exact h

/-- bits among others: a part of the list -/
theorem sub_of_bits {f s b : Nat} (h : ∀ n, bt b n → bt s n) : (listedB b f).Sublist (listedB s f) := by
  unfold listedB
  rw [selTo_eq, selTo_eq]
  refine List.Sublist.map _ ?_
  have : (List.range f).filter (fun k => b.testBit k) = ((List.range f).filter (fun k => s.testBit k)).filter (fun k => b.testBit k) := by
    rw [List.filter_filter]
    refine List.filter_congr fun n _ => ?_
    rw [Bool.eq_iff_iff, Bool.and_eq_true]
    exact ⟨fun hb => ⟨hb, h n hb⟩, fun hb => hb.1⟩
  rw [this]
  exact List.filter_sublist

/-- the best of the good ones, as the reference goes through them -/
def bestTo (good : Nat → Bool) (f s : Nat) (b0 : List Int) : Nat → List Int
  | 0 => b0
  | k + 1 => if (k &&& s == k && good k && beforeL (listedB k f) (bestTo good f s b0 k)) = true then listedB k f else bestTo good f s b0 k

theorem best_spec {good : Nat → Bool} {f s : Nat} {b0 : List Int} : ∀ k,
    (bestTo good f s b0 k = b0 ∨ ∃ j, j < k ∧ j &&& s = j ∧ good j = true ∧ bestTo good f s b0 k = listedB j f) ∧
    beforeL b0 (bestTo good f s b0 k) = false ∧ ∀ j, j < k → j &&& s = j → good j = true → beforeL (listedB j f) (bestTo good f s b0 k) = false
  | 0 => ⟨.inl rfl, before_irr _, fun j h => by omega⟩
  | k + 1 => by
    obtain ⟨h1, h2, h3⟩ := best_spec (good := good) (f := f) (s := s) (b0 := b0) k
    rw [bestTo]
    by_cases hc : (k &&& s == k && good k && beforeL (listedB k f) (bestTo good f s b0 k)) = true
    · rw [if_pos hc]
      rw [Bool.and_eq_true, Bool.and_eq_true, beq_iff_eq] at hc
      obtain ⟨⟨c1, c2⟩, c3⟩ := hc
      refine ⟨.inr ⟨k, by omega, c1, c2, rfl⟩, ?_, fun j hj j1 j2 => ?_⟩
      · cases hb : beforeL b0 (listedB k f) with
        | false => rfl
        | true => rw [before_trans hb c3] at h2; cases h2
      · by_cases e : j = k
        · subst e; exact before_irr _
        · cases hb : beforeL (listedB j f) (listedB k f) with
          | false => rfl
          | true =>
            have := h3 j (by omega) j1 j2
            rw [before_trans hb c3] at this; cases this
    · rw [if_neg hc]
      refine ⟨?_, h2, fun j hj j1 j2 => ?_⟩
      · rcases h1 with e | ⟨j, a1, a2, a3, a4⟩
        · exact .inl e
        · exact .inr ⟨j, by omega, a2, a3, a4⟩
      · by_cases e : j = k
        · subst e
          cases hb : beforeL (listedB j f) (bestTo good f s b0 j) with
          | false => rfl
          | true => exact absurd (by rw [j1, j2, hb]; simp) hc
        · exact h3 j (by omega) j1 j2

/-- the two roads to the best list meet -/
theorem few_best {gl : List Int → Bool} {gb : Nat → Bool} {f : Nat} {seen L : List Int} (hf : f ≤ 12) (hr : Rise seen) (hs : ∀ x ∈ seen, 0 ≤ x ∧ x < f)
    (hg : ∀ M, M.Sublist seen → gl M = gb (bitsL M)) (hgs : gl seen = true) (h : fewM gl seen = some L) : bestTo gb f (bitsL seen) seen (bitsL seen + 1) = L := by
  obtain ⟨l1, l2, l3⟩ := few_spec hr h
  have hfo : factsOk seen := fun k hk => by have := hs _ (nth_mem hk); omega
  obtain ⟨b1, b2, b3⟩ := best_spec (good := gb) (f := f) (s := bitsL seen) (b0 := seen) (bitsL seen + 1)
  generalize hR : bestTo gb f (bitsL seen) seen (bitsL seen + 1) = R at b1 b2 b3 ⊢
  have sub : ∀ M, M.Sublist seen → Rise M ∧ (∀ x ∈ M, 0 ≤ x ∧ x < f) ∧ factsOk M := fun M hM =>
    ⟨hr.sublist hM, fun x hx => hs x (hM.subset hx), fun k hk => by have := hs _ (hM.subset (nth_mem hk)); omega⟩
  have hsub : ∀ j, j &&& bitsL seen = j → (listedB j f).Sublist seen ∧ bitsL (listedB j f) = j := fun j hj => by
    have hin : ∀ n, bt j n → bt (bitsL seen) n := fun n hn => by
      have : (j &&& bitsL seen).testBit n = true := by rw [hj]; exact hn
      rw [Nat.testBit_and, Bool.and_eq_true] at this
      exact this.2
    have h1 := sub_of_bits (f := f) hin
    rw [listed_bits hf hr hs] at h1
    refine ⟨h1, Nat.eq_of_testBit_eq fun n => ?_⟩
    rw [Bool.eq_iff_iff, bitsL_test (listed_facts hf) n, seen_listed]
    refine ⟨fun q => q.2, fun q => ⟨?_, q⟩⟩
    have := hs _ ((bitsL_test hfo n).1 (hin n q))
    omega
  have hRs : R.Sublist seen ∧ gl R = true := by
    rcases b1 with e | ⟨j, j0, j1, j2, e⟩
    · rw [e]; exact ⟨List.Sublist.refl _, hgs⟩
    · obtain ⟨q1, q2⟩ := hsub j j1
      rw [e]
      exact ⟨q1, by rw [hg _ q1, q2]; exact j2⟩
  have hLb : bitsL L &&& bitsL seen = bitsL L := by
    obtain ⟨_, _, s3⟩ := sub L l1
    refine Nat.eq_of_testBit_eq fun n => ?_
    rw [Nat.testBit_and, Bool.eq_iff_iff, Bool.and_eq_true]
    refine ⟨fun q => q.1, fun q => ⟨q, ?_⟩⟩
    exact (bitsL_test hfo n).2 (l1.subset ((bitsL_test s3 n).1 q))
  have hLj : bitsL L < bitsL seen + 1 := by
    have : bitsL L ≤ bitsL seen := by rw [← hLb]; exact Nat.and_le_right
    omega
  have hno := b3 _ hLj hLb (by rw [← hg L l1]; exact l2)
  rw [listed_bits hf (sub L l1).1 (sub L l1).2.1] at hno
  rcases l3 R hRs.1 hRs.2 with e | e
  · exact e
  · rw [hno] at e; cases e

end Go.Proofs.Ytkioejdddmnbmaa

namespace Go.Proofs.Ytkioejdddmnbmaa
open Go.RowKit Go.Shelf

theorem lex_drop {xs ys : List Int} {k : Nat} (h1 : k < xs.length) (h2 : k < ys.length) : lexB (xs.drop k) (ys.drop k) = if nth xs k = nth ys k then lexB (xs.drop (k + 1)) (ys.drop (k + 1)) else decide (nth xs k < nth ys k) := by
  rw [drop_nth h1, drop_nth h2, lexB]

set_option maxRecDepth 100000 in
set_option maxHeartbeats 1000000 in
theorem before_c (a1 a2 : Option Addr) (c1 c2 : Nat) (xs ys : List Int) (w : World) (hx : IntsAt w a1 xs) (hy : IntsAt w a2 ys) (hb : xs.length ≤ 1000000) (_hb2 : ys.length ≤ 1000000) :
    Calls Try.prog 78 #[.slice a1 xs.length c1, .slice a2 ys.length c2] w fun e w' => e = .returned (.bool (beforeL xs ys)) ∧ Below w.heap.size w w' := by
  obtain ⟨R, hR⟩ : ∃ R, R = beforeL xs ys := ⟨_, rfl⟩
  rw [← hR]
  unfold beforeL at hR
  go_enter Try.func78, Try.ntmps78
  by_cases hl : xs.length = ys.length
  · have hlb : (((xs.length : Nat) : Int) != ((ys.length : Nat) : Int)) = false := by simp [hl]
    rw [if_pos hl] at hR
    have Hl := hid hl; clear hl
    have HR := hid hR; clear hR
    go_wp2
    go_loopw [5] (fun i wr => ∃ k : Nat, k ≤ xs.length ∧ i = .int .i64 k ∧ lexB (xs.drop k) (ys.drop k) = R ∧ Below w.heap.size w wr) (fun i _ => xs.length - (intOf i).toNat)
    case atStart => exact ⟨0, Nat.zero_le _, rfl, HR.out.symm, Below.refl _ _⟩
    case round =>
      obtain ⟨k, hk, rfl, ht, hB⟩ := hrel
      have Ht := hid ht; clear ht
      by_cases hlt : k < xs.length
      · have hlt2 : k < ys.length := by have := Hl.out; omega
        have Hi := hid (lex_drop hlt hlt2)
        obtain ⟨b, off, rfl, hc⟩ := (hx.mono hB).at hlt
        obtain ⟨b2, off2, rfl, hc2⟩ := (hy.mono hB).at (k := k) hlt2
        have Hx := hid hx; clear hx
        have Hy := hid hy; clear hy
        obtain ⟨u, hu⟩ : ∃ u, u = nth xs k := ⟨_, rfl⟩
        obtain ⟨v, hv⟩ : ∃ v, v = nth ys k := ⟨_, rfl⟩
        rw [← hu] at hc Hi
        rw [← hv] at hc2 Hi
        clear hu hv
        by_cases he : u = v
        · have heb : (u != v) = false := by simp [he]
          have hi := Hi.out
          rw [if_pos he, Ht.out] at hi
          have Hi2 := hid hi.symm
          clear he hi Hi
          go_wp2
          go_quiet (fail)
          go_wp2
          go_roundw
          case rel => exact ⟨k + 1, by omega, by go_num, Hi2.out, below_drewN hB _⟩
          case measure => simp [intOf]; omega
        · have heb : (u != v) = true := by simp [he]
          have hi := Hi.out
          rw [if_neg he, Ht.out] at hi
          have Hi2 := hid hi
          clear he hi Hi
          go_wp2
          go_quiet (fail)
          go_wp2
          go_quiet (fail)
          go_wp2
          go_ret
          exact ⟨ret_bool Hi2.out.symm, below_drewN (below_drewN hB _) _⟩
      · have ht := Ht.out
        rw [List.drop_eq_nil_of_le (by omega), lexB] at ht
        subst ht
        go_wp2
        go_ret
        exact ⟨rfl, hB⟩
  · have hlb : (((xs.length : Nat) : Int) != ((ys.length : Nat) : Int)) = true := by simp; omega
    rw [if_neg hl] at hR
    have hd : decide (((xs.length : Nat) : Int) < ((ys.length : Nat) : Int)) = R := by rw [hR]; simp
    go_wp2
    go_ret
    exact ⟨ret_bool (by first | exact hd | simpa using hd), Below.refl _ _⟩

/-- a list and an error -/
def BestP (w : World) (xs : List Int) (er : Int) (e : Ending) (w' : World) : Prop :=
  ∃ ao cap, e = .returned (.tuple #[.slice ao xs.length cap, .int .i64 er]) ∧ IntsAt w' ao xs ∧ Below w.heap.size w w'
def rNeededL (facts : Int) (seen : List Int) (rs : List Rl) (x : Int) : List Int := if rStepsE facts seen rs x = 0 then bestTo (fun k => (knownR rs k).1.testBit x.toNat) facts.toNat (bitsL seen) seen (bitsL seen + 1) else []

theorem best_len {good : Nat → Bool} {f s : Nat} {b0 : List Int} (hf : f ≤ 12) (hb : b0.length ≤ 1000) : ∀ k, (bestTo good f s b0 k).length ≤ 1000
  | 0 => hb
  | k + 1 => by
    rw [bestTo]
    split
    · have := selTo_length (fun i => k.testBit i) f
      show (listedB k f).length ≤ 1000
      unfold listedB; omega
    · exact best_len hf hb k

set_option maxRecDepth 100000 in
set_option maxHeartbeats 4000000 in
theorem rNeeded_c (sa ra : Option Addr) (sc rc : Nat) (facts : Int) (seen : List Int) (rs : List Rl) (x : Int) (w : World) (hc : CaseAt w sa ra seen rs) (hsl : seen.length ≤ 1000) :
    Calls Try.prog 39 #[.agg #[.int .i64 facts, .slice sa seen.length sc, .slice ra rs.length rc], .int .i64 x] w (BestP w (rNeededL facts seen rs x) (rStepsE facts seen rs x)) := by
  obtain ⟨W0, hW0⟩ : ∃ W0, W0 = w.alloc (.cells #[.int .i64 facts, .slice sa seen.length sc, .slice ra rs.length rc] 25) := ⟨_, rfl⟩
  have HB0 := hid (show Below w.heap.size w W0 by rw [hW0]; exact bnew w _)
  obtain ⟨c0, c1, c2⟩ := caseBox w facts sa ra seen.length sc rs.length rc
  rw [← hW0] at c0 c1 c2
  have C0 := hid c0; have C1 := hid c1; have C2 := hid c2
  have HS := hid hW0
  have HC := hid fun (w' : World) (h : Below w.heap.size w w') => rSteps_c sa ra sc rc facts seen rs x w' (hc.mono h)
  unfold BestP rNeededL
  by_cases hz : rStepsE facts seen rs x = 0
  · rw [if_pos hz]
    rw [hz] at HC ⊢
    have hfz : factErr facts seen rs x = 0 := by
      unfold rStepsE at hz
      split at hz
      · rename_i h; exact h
      · rename_i h; exact absurd hz h
    obtain ⟨hz0, h0, h1⟩ := fact_zero hfz
    have hsf := case_seen hz0
    have hro := case_rules hz0 hc.il
    have hblt := bitsL_lt hsf
    obtain ⟨f, rfl, hf1, hf2⟩ := case_nat hz0
    obtain ⟨n, rfl⟩ : ∃ k : Nat, x = k := ⟨x.toNat, by omega⟩
    rw [Int.toNat_natCast, Int.toNat_natCast]
    have hn64 : (n : Int) < 64 := by omega
    have H49 := hid fun (w' : World) (h : Below w.heap.size w w') => bits_c sa sc seen w' (hc.mono h).s hc.sl hsf
    have H50 := hid fun (k : Nat) (hk : k < 2 ^ 12) (w' : World) (h : Below w.heap.size w w') => known_c ra rc rs k w' (hc.mono h).r hro hc.rl hk
    have H45 := hid fun (k : Nat) (hk : k < 2 ^ 62) (w' : World) => listed_c k f w' (by omega) hk
    have Hkl := hid fun (k : Nat) (hk : k < 2 ^ 12) => knownR_lt hro hk
    have Hlen := hid (best_len (good := fun k => (knownR rs k).1.testBit n) (f := f) (s := bitsL seen) (b0 := seen) hf2 hsl)
    have hbt0 : ∀ k : Nat, bestTo (fun k => (knownR rs k).1.testBit n) f (bitsL seen) seen (k + 1) = if (k &&& bitsL seen == k && (knownR rs k).1.testBit n && beforeL (listedB k f) (bestTo (fun k => (knownR rs k).1.testBit n) f (bitsL seen) seen k)) = true then listedB k f else bestTo (fun k => (knownR rs k).1.testBit n) f (bitsL seen) seen k := fun k => rfl
    have Hbt := hid hbt0; clear hbt0
    have hb00 : bestTo (fun k => (knownR rs k).1.testBit n) f (bitsL seen) seen 0 = seen := rfl
    have Hb0 := hid hb00; clear hb00
    obtain ⟨B, hB⟩ : ∃ B, B = bestTo (fun k => (knownR rs k).1.testBit n) f (bitsL seen) seen := ⟨_, rfl⟩
    rw [← hB] at Hlen Hbt Hb0 ⊢
    obtain ⟨s, hs⟩ : ∃ s, s = bitsL seen := ⟨_, rfl⟩
    rw [← hs] at hblt Hbt H49 ⊢
    unfold OwnP at H45
    have Hs := hid hc.s
    clear hc hz hfz hz0 h0 h1 hsf hro hB hs hW0 c0 c1 c2
    go_enter Try.func39, Try.ntmps39
    go_wp2_with fail
    rw [← HS.out]
    refine (HC.out _ HB0.out).mono ?_
    rintro e w1 ⟨rfl, hB⟩
    have HB1 := hid (bstep HB0.out hB)
    have d0 := cstep C0.out hB; have d1 := cstep C1.out hB; have d2 := cstep C2.out hB
    clear hB
    go_wp2_with fail
    refine (H49.out _ HB1.out).mono ?_
    rintro e w2 ⟨rfl, hw2⟩
    cases hw2
    have D0 := hid d0; have D2 := hid d2
    clear d0 d1 d2 C0 C1 C2
    go_wp2
    go_loopw [6, 8] (fun b i wr => ∃ (k : Nat) (ao : Option Addr) (cap : Nat), k ≤ s + 1 ∧ i = .int .i64 k ∧ b = .slice ao (B k).length cap ∧ IntsAt wr ao (B k) ∧ Below w1.heap.size w1 wr) (fun _ i _ => s + 1 - (intOf i).toNat)
    case atStart => exact ⟨0, sa, sc, Nat.zero_le _, rfl, by rw [Hb0.out], by rw [Hb0.out]; exact Hs.out.mono HB1.out, Below.refl _ _⟩
    case round =>
      obtain ⟨k, ao, cap, hk, rfl, rfl, hat, hB⟩ := hrel
      obtain ⟨wo, rfl⟩ : ∃ wo : World, wo = wr := ⟨_, rfl⟩
      have HB := hid hB
      have HBt := hid (bstep HB1.out hB)
      have Hat := hid hat
      clear hB hat
      by_cases hle : k ≤ s
      · have d0 := cstep D0.out HB.out; have d2 := cstep D2.out HB.out
        have hk12 : k < 2 ^ 12 := by omega
        have hK := H50.out k hk12 wo HBt.out
        have hkb := Hkl.out k hk12
        have hlen := Hlen.out k
        have hbt := Hbt.out k
        have hL := H45.out k (by omega) wo
        have hand := bits_and_i64 (a := k) (b := s) (by omega) (by omega)
        obtain ⟨⟨q, c⟩, hq⟩ : ∃ q, q = knownR rs k := ⟨_, rfl⟩
        rw [← hq] at hK hkb hbt
        have hkb : q < 2 ^ 12 := hkb
        have hK : Calls Try.prog 50 #[.slice ra rs.length rc, .int .i64 k] wo fun e w' => e = .returned (.tuple #[.int .i64 q, .bool c]) ∧ w' = wo := hK
        have hbt : B (k + 1) = if (k &&& s == k && q.testBit n && beforeL (listedB k f) (B k)) = true then listedB k f else B k := hbt
        have hbit := bits_one_i64 (a := q) (by omega) n
        obtain ⟨M, hM⟩ : ∃ M, M = B k := ⟨_, rfl⟩
        have HM := hid hM
        rw [← hM] at hlen hbt Hat ⊢
        obtain ⟨N, hN⟩ : ∃ N, N = listedB k f := ⟨_, rfl⟩
        have hNl : N.length ≤ 1000000 := by
          rw [hN]
          have := selTo_length (fun i => k.testBit i) f
          unfold listedB; omega
        rw [← hN] at hL hbt
        have HL := hid hL
        have HBf := hid fun (a : Option Addr) (c : Nat) (w' : World) (h : IntsAt w' a N) (h2 : IntsAt w' ao M) => before_c a ao c cap N M w' h h2 hNl (by omega)
        obtain ⟨bf, hbf⟩ : ∃ b, b = beforeL N M := ⟨_, rfl⟩
        rw [← hbf] at HBf hbt
        have Hkb := hid hkb; have HK := hid hK; have HBT := hid hbt; have Hhand := hid hand; have Hhbit := hid hbit
        clear hkb hK hbt hand hbit hq hM hN hbf hL hlen
        go_wp2_with fail
        refine HK.out.mono ?_
        rintro e w3 ⟨rfl, hw3⟩
        cases hw3
        go_wp2_with fail
        refine HL.out.mono ?_
        rintro e w4 ⟨a4, c4, rfl, hx4, _, hB4⟩
        have HB4 := hid (bstep HB.out hB4)
        have HX4 := hid hx4
        have HM4 := hid (Hat.out.mono hB4)
        clear hB4 hx4 d0 d2 Hat
        have hand := Hhand.out; have hbit := Hhbit.out
        have hbt := HBT.out
        by_cases hc1 : k &&& s = k
        · rw [hc1] at hand hbt
          have hq1 : (k == k) = true := by simp
          clear hc1
          cases htb : q.testBit n with
          | true =>
            rw [htb] at hbit hbt
            simp only [if_true] at hbit
            rw [hq1, Bool.true_and, Bool.true_and] at hbt
            have HBT2 := hid hbt
            clear hbt
            go_wp2_with fail
            refine (HBf.out _ _ _ HX4.out HM4.out).mono ?_
            rintro e w5 ⟨rfl, hB5⟩
            have HB5 := hid (bstep HB4.out hB5)
            have HX5 := hid (HX4.out.mono hB5); have HM5 := hid (HM4.out.mono hB5)
            clear hB5
            cases bf with
            | true =>
              have hbt := HBT2.out
              rw [if_pos rfl] at hbt
              have HBT3 := hid hbt
              clear hbt
              go_wp2
              go_roundw
              case rel => exact ⟨k + 1, a4, c4, by omega, by go_num, by rw [HBT3.out], by rw [HBT3.out]; exact HX5.out, HB5.out⟩
              case measure => simp [intOf]; omega
            | false =>
              have hbt := HBT2.out
              rw [if_neg (by simp)] at hbt
              have HBT3 := hid hbt
              clear hbt
              go_wp2
              go_roundw
              case rel => exact ⟨k + 1, ao, cap, by omega, by go_num, by rw [HBT3.out], by rw [HBT3.out]; exact HM5.out, HB5.out⟩
              case measure => simp [intOf]; omega
          | false =>
            rw [htb] at hbit hbt
            simp at hbit
            rw [Bool.and_false, Bool.false_and, if_neg (by simp)] at hbt
            have HBT3 := hid hbt
            clear hbt
            go_wp2
            go_roundw
            case rel => exact ⟨k + 1, ao, cap, by omega, by go_num, by rw [HBT3.out], by rw [HBT3.out]; exact HM4.out, HB4.out⟩
            case measure => simp [intOf]; omega
        · have hq1 : (k &&& s == k) = false := by simpa using hc1
          rw [hq1, Bool.false_and, Bool.false_and, if_neg (by simp)] at hbt
          have HBT3 := hid hbt
          have hne : (((k &&& s : Nat) : Int) == (k : Int)) = false := by simp; omega
          clear hbt hc1 hq1 hbit
          go_wp2
          go_roundw
          case rel => exact ⟨k + 1, ao, cap, by omega, by go_num, by rw [HBT3.out], by rw [HBT3.out]; exact HM4.out, HB4.out⟩
          case measure => simp [intOf]; omega
      · obtain rfl : k = s + 1 := by omega
        go_wp2
        go_ret2
        exact ⟨ao, cap, rfl, Hat.out, HBt.out⟩
  · rw [if_neg hz]
    have hcb := errB hz
    clear hc hz hW0 c0 c1 c2
    generalize rStepsE facts seen rs x = c at *
    go_enter Try.func39, Try.ntmps39
    go_wp2_with fail
    rw [← HS.out]
    refine (HC.out _ HB0.out).mono ?_
    rintro e w1 ⟨rfl, hB⟩
    have HB1 := hid (bstep HB0.out hB)
    have d0 := cstep C0.out hB; have d1 := cstep C1.out hB; have d2 := cstep C2.out hB
    clear hB
    go_wp2_with fail
    refine (HC.out _ HB1.out).mono ?_
    rintro e w2 ⟨rfl, hB⟩
    go_wp2
    go_ret2
    exact ⟨none, 0, rfl, IntsAt.nil _ _, bstep HB1.out hB⟩

def rWrongE (facts : Int) (seen : List Int) (rs : List Rl) : Int := if caseErr facts seen rs = 0 then (if (knownR rs 0).2 = true then 5 else 0) else caseErr facts seen rs
def rWrongL (facts : Int) (seen : List Int) (rs : List Rl) : List Int := if caseErr facts seen rs = 0 then (if (knownR rs 0).2 = true then [] else bestTo (fun k => !(knownR rs (bitsL seen - k)).2) facts.toNat (bitsL seen) seen (bitsL seen + 1)) else []

set_option maxRecDepth 100000 in
set_option maxHeartbeats 4000000 in
theorem rWrong_c (sa ra : Option Addr) (sc rc : Nat) (facts : Int) (seen : List Int) (rs : List Rl) (w : World) (hc : CaseAt w sa ra seen rs) (hsl : seen.length ≤ 1000) :
    Calls Try.prog 41 #[.agg #[.int .i64 facts, .slice sa seen.length sc, .slice ra rs.length rc]] w (BestP w (rWrongL facts seen rs) (rWrongE facts seen rs)) := by
  obtain ⟨W0, hW0⟩ : ∃ W0, W0 = w.alloc (.cells #[.int .i64 facts, .slice sa seen.length sc, .slice ra rs.length rc] 25) := ⟨_, rfl⟩
  have HB0 := hid (show Below w.heap.size w W0 by rw [hW0]; exact bnew w _)
  obtain ⟨c0, c1, c2⟩ := caseBox w facts sa ra seen.length sc rs.length rc
  rw [← hW0] at c0 c1 c2
  have C0 := hid c0; have C1 := hid c1; have C2 := hid c2
  have HS := hid hW0
  have HC := hid fun (w' : World) (h : Below w.heap.size w w') => rcc sa ra sc rc facts seen rs w' (hc.mono h)
  unfold BestP rWrongL rWrongE
  by_cases hz : caseErr facts seen rs = 0
  · rw [if_pos hz, if_pos hz]
    rw [hz] at HC
    have hsf := case_seen hz
    have hro := case_rules hz hc.il
    have hblt := bitsL_lt hsf
    obtain ⟨f, rfl, hf1, hf2⟩ := case_nat hz
    rw [Int.toNat_natCast]
    have H49 := hid fun (w' : World) (h : Below w.heap.size w w') => bits_c sa sc seen w' (hc.mono h).s hc.sl hsf
    have H50 := hid fun (k : Nat) (hk : k < 2 ^ 12) (w' : World) (h : Below w.heap.size w w') => known_c ra rc rs k w' (hc.mono h).r hro hc.rl hk
    have H45 := hid fun (k : Nat) (hk : k < 2 ^ 62) (w' : World) => listed_c k f w' (by omega) hk
    have Hlen := hid (best_len (good := fun k => !(knownR rs (bitsL seen - k)).2) (f := f) (s := bitsL seen) (b0 := seen) hf2 hsl)
    have hbt0 : ∀ k : Nat, bestTo (fun k => !(knownR rs (bitsL seen - k)).2) f (bitsL seen) seen (k + 1) = if (k &&& bitsL seen == k && !(knownR rs (bitsL seen - k)).2 && beforeL (listedB k f) (bestTo (fun k => !(knownR rs (bitsL seen - k)).2) f (bitsL seen) seen k)) = true then listedB k f else bestTo (fun k => !(knownR rs (bitsL seen - k)).2) f (bitsL seen) seen k := fun k => rfl
    have Hbt := hid hbt0; clear hbt0
    have hb00 : bestTo (fun k => !(knownR rs (bitsL seen - k)).2) f (bitsL seen) seen 0 = seen := rfl
    have Hb0 := hid hb00; clear hb00
    obtain ⟨B, hB⟩ : ∃ B, B = bestTo (fun k => !(knownR rs (bitsL seen - k)).2) f (bitsL seen) seen := ⟨_, rfl⟩
    rw [← hB] at Hlen Hbt Hb0 ⊢
    obtain ⟨s, hs⟩ : ∃ s, s = bitsL seen := ⟨_, rfl⟩
    rw [← hs] at hblt Hbt H49 ⊢
    unfold OwnP at H45
    have Hs := hid hc.s
    obtain ⟨⟨u0, v0⟩, hu0⟩ : ∃ q, q = knownR rs 0 := ⟨_, rfl⟩
    have h500 := H50.out 0 (by decide)
    rw [← hu0] at h500 ⊢
    have h500 : ∀ (w' : World), Below w.heap.size w w' → Calls Try.prog 50 #[.slice ra rs.length rc, .int .i64 0] w' fun e w'' => e = .returned (.tuple #[.int .i64 u0, .bool v0]) ∧ w'' = w' := h500
    have H500 := hid h500
    have hE : ((if (u0, v0).2 = true then [] else B (s + 1) : List Int), (if (u0, v0).2 = true then 5 else 0 : Int)) = (if v0 = true then ([], 5) else (B (s + 1), 0)) := by cases v0 <;> rfl
    show Calls _ _ _ _ fun e w' => ∃ ao cap, e = .returned (.tuple #[.slice ao (if v0 = true then [] else B (s + 1) : List Int).length cap, .int .i64 (if v0 = true then 5 else 0)]) ∧ IntsAt w' ao (if v0 = true then [] else B (s + 1)) ∧ _
    clear hc hz hsf hro hB hs hW0 c0 c1 c2 hu0 h500 hE
    cases v0 with
    | true =>
      simp only [if_true]
      go_enter Try.func41, Try.ntmps41
      go_wp2_with fail
      rw [← HS.out]
      refine (HC.out _ HB0.out).mono ?_
      rintro e w1 ⟨rfl, hB⟩
      have HB1 := hid (bstep HB0.out hB)
      have d0 := cstep C0.out hB; have d1 := cstep C1.out hB; have d2 := cstep C2.out hB
      clear hB
      go_wp2_with fail
      refine (H500.out _ HB1.out).mono ?_
      rintro e w2 ⟨rfl, hw2⟩
      cases hw2
      go_wp2
      go_ret2
      exact ⟨none, 0, rfl, IntsAt.nil _ _, HB1.out⟩
    | false =>
    simp only [Bool.false_eq_true, if_false]
    go_enter Try.func41, Try.ntmps41
    go_wp2_with fail
    rw [← HS.out]
    refine (HC.out _ HB0.out).mono ?_
    rintro e w1 ⟨rfl, hB⟩
    have HB1 := hid (bstep HB0.out hB)
    have d0 := cstep C0.out hB; have d1 := cstep C1.out hB; have d2 := cstep C2.out hB
    clear hB
    go_wp2_with fail
    refine (H500.out _ HB1.out).mono ?_
    rintro e w2 ⟨rfl, hw2⟩
    cases hw2
    go_wp2_with fail
    refine (H49.out _ HB1.out).mono ?_
    rintro e w2 ⟨rfl, hw2⟩
    cases hw2
    have D0 := hid d0; have D2 := hid d2
    clear d0 d1 d2 C0 C1 C2
    go_wp2
    go_loopw [6, 8] (fun b i wr => ∃ (k : Nat) (ao : Option Addr) (cap : Nat), k ≤ s + 1 ∧ i = .int .i64 k ∧ b = .slice ao (B k).length cap ∧ IntsAt wr ao (B k) ∧ Below w1.heap.size w1 wr) (fun _ i _ => s + 1 - (intOf i).toNat)
    case atStart => exact ⟨0, sa, sc, Nat.zero_le _, rfl, by rw [Hb0.out], by rw [Hb0.out]; exact Hs.out.mono HB1.out, Below.refl _ _⟩
    case round =>
      obtain ⟨k, ao, cap, hk, rfl, rfl, hat, hB⟩ := hrel
      obtain ⟨wo, rfl⟩ : ∃ wo : World, wo = wr := ⟨_, rfl⟩
      have HB := hid hB
      have HBt := hid (bstep HB1.out hB)
      have Hat := hid hat
      clear hB hat
      by_cases hle : k ≤ s
      · have d0 := cstep D0.out HB.out; have d2 := cstep D2.out HB.out
        have hlen := Hlen.out k
        have hbt := Hbt.out k
        have hand := bits_and_i64 (a := k) (b := s) (by omega) (by omega)
        by_cases hc1 : k &&& s = k
        · have hK := H50.out (s - k) (by omega) wo HBt.out
          have hL := H45.out k (by omega) wo
          have hsub : IntKind.i64.wrap ((s : Int) - (k : Int)) = ((s - k : Nat) : Int) := by
            have h := wrap_i64_nat (a := s - k) (by omega)
            rw [show ((s : Int) - (k : Int)) = ((s - k : Nat) : Int) from by omega]; exact h
          obtain ⟨⟨q, c⟩, hq⟩ : ∃ q, q = knownR rs (s - k) := ⟨_, rfl⟩
          rw [← hq] at hK hbt
          have hK : Calls Try.prog 50 #[.slice ra rs.length rc, .int .i64 ((s - k : Nat) : Int)] wo fun e w' => e = .returned (.tuple #[.int .i64 q, .bool c]) ∧ w' = wo := hK
          obtain ⟨y, hy⟩ : ∃ y : Int, y = ((s - k : Nat) : Int) := ⟨_, rfl⟩
          rw [← hy] at hK hsub
          have hbt : B (k + 1) = if (k &&& s == k && !c && beforeL (listedB k f) (B k)) = true then listedB k f else B k := hbt
          obtain ⟨M, hM⟩ : ∃ M, M = B k := ⟨_, rfl⟩
          have HM := hid hM
          rw [← hM] at hlen hbt Hat ⊢
          obtain ⟨N, hN⟩ : ∃ N, N = listedB k f := ⟨_, rfl⟩
          have hNl : N.length ≤ 1000000 := by
            rw [hN]
            have := selTo_length (fun i => k.testBit i) f
            unfold listedB; omega
          rw [← hN] at hL hbt
          have HL := hid hL
          have HBf := hid fun (a : Option Addr) (c : Nat) (w' : World) (h : IntsAt w' a N) (h2 : IntsAt w' ao M) => before_c a ao c cap N M w' h h2 hNl (by omega)
          obtain ⟨bf, hbf⟩ : ∃ b, b = beforeL N M := ⟨_, rfl⟩
          rw [← hbf] at HBf hbt
          rw [hc1] at hand hbt
          have hq1 : (k == k) = true := by simp
          rw [hq1, Bool.true_and] at hbt
          have HK := hid hK; have HBT := hid hbt
          clear hK hbt hq hM hN hbf hL hlen hc1 hy hq1
          go_wp2_with fail
          refine HK.out.mono ?_
          rintro e w3 ⟨rfl, hw3⟩
          cases hw3
          go_wp2_with fail
          refine HL.out.mono ?_
          rintro e w4 ⟨a4, c4, rfl, hx4, _, hB4⟩
          have HB4 := hid (bstep HB.out hB4)
          have HX4 := hid hx4
          have HM4 := hid (Hat.out.mono hB4)
          clear hB4 hx4 d0 d2 Hat hand hsub
          cases c with
          | false =>
            go_wp2_with fail
            refine (HBf.out _ _ _ HX4.out HM4.out).mono ?_
            rintro e w5 ⟨rfl, hB5⟩
            have HB5 := hid (bstep HB4.out hB5)
            have HX5 := hid (HX4.out.mono hB5); have HM5 := hid (HM4.out.mono hB5)
            clear hB5
            cases bf with
            | true =>
              have hbt := HBT.out
              rw [Bool.not_false, Bool.true_and, if_pos rfl] at hbt
              have HBT3 := hid hbt
              clear hbt
              go_wp2
              go_roundw
              case rel => exact ⟨k + 1, a4, c4, by omega, by go_num, by rw [HBT3.out], by rw [HBT3.out]; exact HX5.out, HB5.out⟩
              case measure => simp [intOf]; omega
            | false =>
              have hbt := HBT.out
              rw [Bool.not_false, Bool.true_and, if_neg (by simp)] at hbt
              have HBT3 := hid hbt
              clear hbt
              go_wp2
              go_roundw
              case rel => exact ⟨k + 1, ao, cap, by omega, by go_num, by rw [HBT3.out], by rw [HBT3.out]; exact HM5.out, HB5.out⟩
              case measure => simp [intOf]; omega
          | true =>
            have hbt := HBT.out
            rw [Bool.not_true, Bool.false_and, if_neg (by simp)] at hbt
            have HBT3 := hid hbt
            clear hbt
            go_wp2
            go_roundw
            case rel => exact ⟨k + 1, ao, cap, by omega, by go_num, by rw [HBT3.out], by rw [HBT3.out]; exact HM4.out, HB4.out⟩
            case measure => simp [intOf]; omega
        · have hq1 : (k &&& s == k) = false := by simpa using hc1
          rw [hq1, Bool.false_and, Bool.false_and, if_neg (by simp)] at hbt
          have HBT3 := hid hbt
          have hne : (((k &&& s : Nat) : Int) != (k : Int)) = true := by simp; omega
          clear hbt hc1 hq1 hlen
          go_wp2
          go_roundw
          case rel => exact ⟨k + 1, ao, cap, by omega, by go_num, by rw [HBT3.out], by rw [HBT3.out]; exact Hat.out, HB.out⟩
          case measure => simp [intOf]; omega
      · obtain rfl : k = s + 1 := by omega
        go_wp2
        go_ret2
        exact ⟨ao, cap, rfl, Hat.out, HBt.out⟩
  · rw [if_neg hz, if_neg hz]
    have hcb := errB hz
    clear hc hz hW0 c0 c1 c2
    generalize caseErr facts seen rs = c at *
    go_enter Try.func41, Try.ntmps41
    go_wp2_with fail
    rw [← HS.out]
    refine (HC.out _ HB0.out).mono ?_
    rintro e w1 ⟨rfl, hB⟩
    have HB1 := hid (bstep HB0.out hB)
    have d0 := cstep C0.out hB; have d1 := cstep C1.out hB; have d2 := cstep C2.out hB
    clear hB
    go_wp2_with fail
    refine (HC.out _ HB1.out).mono ?_
    rintro e w2 ⟨rfl, hB⟩
    go_wp2
    go_ret2
    exact ⟨none, 0, rfl, IntsAt.nil _ _, bstep HB1.out hB⟩

end Go.Proofs.Ytkioejdddmnbmaa

namespace Go.Proofs.Ytkioejdddmnbmaa

/-- the same case with other facts seen, of those below f -/
theorem CaseOk.other {f : Nat} {seen l : List Int} {rs : List Rl} (h : CaseOk f seen rs) (hl : ∀ x ∈ l, 0 ≤ x ∧ x < f) : CaseOk f l rs :=
  ⟨h.f1, fun k hk => by have := hl _ (nth_mem hk); have := h.f1; omega, h.r, fun n hn => by have := hl _ hn; omega, h.rl⟩
theorem goodN_bit {f : Nat} {l : List Int} {rs : List Rl} (h : CaseOk f l rs) (n : Nat) : goodN rs n l = (knownR rs (bitsL l)).1.testBit n := by
  unfold goodN
  rw [Bool.eq_iff_iff, decide_eq_true_eq, nth_pos (deskOf_end h.s h.r).ok, desk_bit h]
theorem desk_cl {f : Nat} {l : List Int} {rs : List Rl} (h : CaseOk f l rs) : decide ((deskOf l rs).clash < 0) = !(knownR rs (bitsL l)).2 := by
  have h1 := (deskOf_end h.s h.r).cl
  have h2 := (knownR_end h.r (bitsL l)).cl
  have h3 : Clsh rs (SeenP l) ↔ Clsh rs (bt (bitsL l)) := by
    constructor
    · exact fun hd => hd.more (fun _ h => h) (fun n hn => .seen ((bitsL_test h.s n).2 hn))
    · exact fun hd => hd.more (fun _ h => h) (fun n hn => .seen ((bitsL_test h.s n).1 hn))
  cases hb : (knownR rs (bitsL l)).2 with
  | true =>
    have := h1.2 (h3.2 (h2.1 hb))
    simp only [Bool.not_true, decide_eq_false_iff_not]; omega
  | false =>
    have : ¬ 0 ≤ (deskOf l rs).clash := fun h => by
      have := h2.2 (h3.1 (h1.1 h))
      rw [hb] at this; cases this
    simp only [Bool.not_false, decide_eq_true_eq]; omega

theorem needed_eq {facts : Int} {seen : List Int} {rs : List Rl} {x : Int} (hl : ∀ i, i < rs.length → (nthR rs i).1.length ≤ 1000000) : pNeededL facts seen rs x = rNeededL facts seen rs x ∧ pNeededE facts seen rs x = rStepsE facts seen rs x := by
  have hE : pNeededE facts seen rs x = rStepsE facts seen rs x := stepsE_eq hl
  refine ⟨?_, hE⟩
  unfold rNeededL
  rw [← hE]
  unfold pNeededL pNeededE
  by_cases ho : openErr facts seen rs [x] = 0
  · rw [if_pos ho, if_pos ho]
    by_cases hk : nth (deskOf seen rs).known x.toNat = 0
    · rw [if_pos hk, if_pos hk, if_neg (by decide)]
    · rw [if_neg hk, if_neg hk, if_pos rfl]
      obtain ⟨hz, hw⟩ := open_zero ho
      obtain ⟨⟨f0, f1⟩, _, hris, _⟩ := case_zero hz
      have hc := caseOk hz hl
      have hall : ∀ y ∈ seen, 0 ≤ y ∧ y < (facts.toNat : Int) := fun y hy => by have := rising_all hris hy; omega
      have hg : goodN rs x.toNat seen = true := by
        have := (nth_pos (deskOf_end hc.s hc.r).ok x.toNat).2 hk
        exact decide_eq_true this
      obtain ⟨L, hL⟩ := few_some hg
      rw [hL, Option.getD_some]
      exact (few_best (by omega) (rising_rise hris) hall (fun M hM => goodN_bit (hc.other (fun y hy => hall y (hM.subset hy))) _) hg hL).symm
  · rw [if_neg ho, if_neg ho, if_neg ho]

theorem add_or {a b : Nat} (ha : a < 2 ^ 12) (hb : b < 2 ^ 12) (h : a &&& b = 0) : a + b = a ||| b := by
  have h1 : (BitVec.ofNat 13 a) &&& (BitVec.ofNat 13 b) = 0#13 := by
    apply BitVec.eq_of_toNat_eq
    simp [BitVec.toNat_and, Nat.mod_eq_of_lt (show a < 2 ^ 13 by omega), Nat.mod_eq_of_lt (show b < 2 ^ 13 by omega), h]
  have h2 := BitVec.add_eq_or_of_and_eq_zero _ _ h1
  have h3 := congrArg BitVec.toNat h2
  simp only [BitVec.toNat_add, BitVec.toNat_or, BitVec.toNat_ofNat] at h3
  rw [Nat.mod_eq_of_lt (show a < 2 ^ 13 by omega), Nat.mod_eq_of_lt (show b < 2 ^ 13 by omega), Nat.mod_eq_of_lt (show a + b < 2 ^ 13 by omega)] at h3
  exact h3

/-- bits without some of them -/
theorem bits_minus {s m r : Nat} (hs : s < 2 ^ 12) (h : ∀ n, bt s n ↔ bt m n ∨ bt r n) (hd : ∀ n, bt m n → ¬ bt r n) : s - m = r := by
  have h1 : s = m ||| r := by
    refine Nat.eq_of_testBit_eq fun n => ?_
    rw [Nat.testBit_or, Bool.eq_iff_iff, Bool.or_eq_true]; exact h n
  have hz : m &&& r = 0 := by
    refine Nat.eq_of_testBit_eq fun n => ?_
    rw [Nat.testBit_and, Nat.zero_testBit]
    cases hm : m.testBit n with
    | false => rfl
    | true =>
      cases hr : r.testBit n with
      | false => rfl
      | true => exact absurd hr (hd n hm)
  have hm : m ≤ s := by rw [h1]; exact Nat.left_le_or
  have hr : r ≤ s := by rw [h1]; exact Nat.right_le_or
  have := add_or (a := m) (b := r) (by omega) (by omega) hz
  omega

theorem seen_left {seen l : List Int} {n : Nat} : SeenP (leftL seen l) n ↔ SeenP seen n ∧ ¬ SeenP l n := by
  unfold SeenP leftL
  rw [List.mem_filter]
  constructor
  · rintro ⟨h1, h2⟩
    refine ⟨h1, fun h => ?_⟩
    have : l.any (fun y => (n : Int) == y) = true := List.any_eq_true.2 ⟨_, h, by simp⟩
    rw [this] at h2; cases h2
  · rintro ⟨h1, h2⟩
    refine ⟨h1, ?_⟩
    cases ha : l.any (fun y => (n : Int) == y) with
    | false => rfl
    | true =>
      obtain ⟨y, hy, he⟩ := List.any_eq_true.1 ha
      rw [beq_iff_eq] at he
      exact absurd (he ▸ hy) h2

theorem goodW_bit {f : Nat} {seen M : List Int} {rs : List Rl} (h : CaseOk f seen rs) (hf : factsOk M) (hM : ∀ x ∈ M, x ∈ seen) (hs : ∀ x ∈ seen, 0 ≤ x ∧ x < f) : goodW seen rs M = !(knownR rs (bitsL seen - bitsL M)).2 := by
  have hl : ∀ x ∈ leftL seen M, 0 ≤ x ∧ x < (f : Int) := fun x hx => hs x (List.mem_filter.1 hx).1
  have hc := h.other hl
  unfold goodW
  rw [desk_cl hc]
  have : bitsL seen - bitsL M = bitsL (leftL seen M) := by
    refine bits_minus (bitsL_lt h.s) (fun n => ?_) (fun n h1 h2 => ?_)
    · show (bitsL seen).testBit n = true ↔ (bitsL M).testBit n = true ∨ (bitsL (leftL seen M)).testBit n = true
      rw [bitsL_test h.s, bitsL_test hf, bitsL_test hc.s, seen_left]
      constructor
      · intro h1
        by_cases h2 : SeenP M n
        · exact .inl h2
        · exact .inr ⟨h1, h2⟩
      · rintro (h1 | h1)
        · exact hM _ h1
        · exact h1.1
    · exact (seen_left.1 ((bitsL_test hc.s n).1 h2)).2 ((bitsL_test hf n).1 h1)
  rw [this]

theorem knownR_zero {rs : List Rl} {b : Nat} (hr : rulesOk rs) (h : (knownR rs 0).2 = true) : (knownR rs b).2 = true := by
  have h1 := (knownR_end hr 0).cl.1 h
  exact (knownR_end hr b).cl.2 (h1.more (fun _ h => h) (fun n hn => by unfold bt at hn; rw [Nat.zero_testBit] at hn; cases hn))

theorem wrong_eq {facts : Int} {seen : List Int} {rs : List Rl} (hl : ∀ i, i < rs.length → (nthR rs i).1.length ≤ 1000000) : pWrongL facts seen rs = rWrongL facts seen rs ∧ pWrongE facts seen rs = rWrongE facts seen rs := by
  unfold pWrongL rWrongL pWrongE rWrongE
  by_cases hz : caseErr facts seen rs = 0
  · simp only [if_pos hz]
    obtain ⟨⟨f0, f1⟩, _, hris, _⟩ := case_zero hz
    have hc := caseOk hz hl
    have hall : ∀ y ∈ seen, 0 ≤ y ∧ y < (facts.toNat : Int) := fun y hy => by have := rising_all hris hy; omega
    have hsub : ∀ M, M.Sublist seen → goodW seen rs M = !(knownR rs (bitsL seen - bitsL M)).2 := fun M hM =>
      goodW_bit hc (factsOk_sub (fun x hx => hM.subset hx) hc.s) (fun x hx => hM.subset hx) hall
    have hr := rising_rise hris
    by_cases h0 : (knownR rs 0).2 = true
    · rw [if_pos h0, if_pos h0]
      have hn : fewM (goodW seen rs) seen = none := by
        cases hq : fewM (goodW seen rs) seen with
        | none => rfl
        | some L =>
          obtain ⟨l1, l2, _⟩ := few_spec hr hq
          rw [hsub L l1, knownR_zero hc.r h0] at l2; cases l2
      rw [hn]; exact ⟨rfl, rfl⟩
    · rw [if_neg h0, if_neg h0]
      have hg : goodW seen rs seen = true := by
        rw [hsub seen (List.Sublist.refl _), Nat.sub_self]
        simpa using h0
      obtain ⟨L, hL⟩ := few_some hg
      rw [hL, Option.getD_some, if_neg (by simp)]
      exact ⟨(few_best (gb := fun k => !(knownR rs (bitsL seen - k)).2) (by omega) hr hall hsub hg hL).symm, rfl⟩
  · simp only [if_neg hz]; exact ⟨trivial, trivial⟩

/-! idle rules -/
def idleR (f : Nat) (rs : List Rl) (k : Nat) : Bool := (truthsN f [] (lessR rs k)).all (fun b => keepsB b (nthR rs k))
theorem keeps_iff {b : Nat} {r : Rl} (hf : factsOk r.1) : keepsB b r = true ↔ ((∀ n, SeenP r.1 n → bt b n) → 0 ≤ r.2 ∧ bt b r.2.toNat) := by
  unfold keepsB
  rw [Bool.or_eq_true, Bool.and_eq_true, decide_eq_true_iff, Bool.not_eq_true', ← seenP_all hf (T := bt b), ← bits_has hf]
  constructor
  · rintro (h | h) h2
    · rw [beq_eq_false_iff_ne] at h; exact absurd h2 h
    · exact h
  · intro h
    by_cases h2 : b &&& bitsL r.1 = bitsL r.1
    · exact .inr (h h2)
    · exact .inl (beq_eq_false_iff_ne.2 h2)
theorem case_less {facts : Int} {seen : List Int} {rs : List Rl} {k : Nat} (hz : caseErr facts seen rs = 0) (hl : ∀ i, i < rs.length → (nthR rs i).1.length ≤ 1000000) (hk : k < rs.length) : CaseOk facts.toNat (nthR rs k).1 (lessR rs k) := by
  have hc := caseOk hz hl
  obtain ⟨⟨f0, f1⟩, _, _, ha⟩ := case_zero hz
  have hr := List.all_eq_true.1 ha _ (nthR_mem hk)
  unfold ruleOk at hr
  rw [Bool.and_eq_true] at hr
  exact ⟨by omega, (hc.r k hk).1, lessR_ok hc.r, fun n hn => by have := rising_all hr.1 hn; omega, fun r hm => hc.rl r (lessR_mem hm)⟩
theorem idle_eq' {facts : Int} {seen : List Int} {rs : List Rl} {k : Nat} (hz : caseErr facts seen rs = 0) (hl : ∀ i, i < rs.length → (nthR rs i).1.length ≤ 1000000) (hk : k < rs.length) : idleB rs k = idleR facts.toNat rs k := by
  have hc := case_less hz hl hk
  have hE := deskOf_end hc.s hc.r
  have hfree : CaseOk facts.toNat [] (lessR rs k) := hc.other (fun x hx => by cases hx)
  rw [Bool.eq_iff_iff]
  unfold idleB idleR
  rw [Bool.or_eq_true, Bool.and_eq_true, decide_eq_true_eq, decide_eq_true_eq, decide_eq_true_eq, nth_pos hE.ok, hE.cl, hE.full, List.all_eq_true]
  constructor
  · intro h b hb
    obtain ⟨_, _, h2⟩ := (mem_truthsN hfree).1 hb
    refine (keeps_iff hc.s).2 fun hin => ?_
    rcases h with h | ⟨h, h3⟩
    · exact absurd h (Clsh.no hin h2)
    · exact ⟨h, h3.into hin h2⟩
  · intro h
    refine Classical.byContradiction fun hn => ?_
    rw [not_or] at hn
    have hb := derB_truth hc hn.1
    obtain ⟨b1, b2, b3⟩ := (mem_truthsN hc).1 hb
    have h1 := h _ ((mem_truthsN hfree).2 ⟨b1, ⟨fun n hn => absurd hn (by unfold SeenP; simp), b3⟩⟩)
    obtain ⟨h2, h3⟩ := (keeps_iff hc.s).1 h1 b2
    exact hn.2 ⟨h2, (derB_iff hc _).1 h3⟩

def rIdleE (facts : Int) (seen : List Int) (rs : List Rl) (x : Int) : Int := if caseErr facts seen rs = 0 then (if 0 ≤ x ∧ x < (rs.length : Int) then 0 else 2) else caseErr facts seen rs
def rIdleB (facts : Int) (seen : List Int) (rs : List Rl) (x : Int) : Bool := if caseErr facts seen rs = 0 then (if 0 ≤ x ∧ x < (rs.length : Int) then idleR facts.toNat rs x.toNat else false) else false
theorem idle_eq {facts : Int} {seen : List Int} {rs : List Rl} {x : Int} (hl : ∀ i, i < rs.length → (nthR rs i).1.length ≤ 1000000) : pIdleB facts seen rs x = rIdleB facts seen rs x ∧ pIdleE facts seen rs x = rIdleE facts seen rs x := by
  unfold pIdleB rIdleB pIdleE rIdleE
  by_cases hz : caseErr facts seen rs = 0
  · simp only [if_pos hz]
    by_cases hx : 0 ≤ x ∧ x < (rs.length : Int)
    · have hw : within 0 ((rs.length : Int) - 1) [x] = true := within_one.2 (by omega)
      simp only [if_pos hx, if_pos hw]
      exact ⟨idle_eq' hz hl (by omega), trivial⟩
    · have hw : ¬ within 0 ((rs.length : Int) - 1) [x] = true := fun h => hx (by have := within_one.1 h; omega)
      simp only [if_neg hx, if_neg hw]; exact ⟨trivial, trivial⟩
  · simp only [if_neg hz]; exact ⟨trivial, trivial⟩

end Go.Proofs.Ytkioejdddmnbmaa

namespace Go.Proofs.Ytkioejdddmnbmaa

theorem rise_rising {facts : Int} {l : List Int} (hr : Rise l) (hl : ∀ x ∈ l, 0 ≤ x ∧ x < facts) : rising facts l = true := by
  unfold rising
  refine List.all_eq_true.2 fun i hi => ?_
  have hi' := List.mem_range.1 hi
  have h1 := hl _ (nth_mem hi')
  unfold risesAt
  refine within_one.2 ⟨?_, by omega⟩
  unfold nextAt
  split
  · omega
  · have := List.pairwise_iff_getElem.1 hr (i - 1) i (by omega) hi' (by omega)
    rw [nth_eq hi', nth_eq (show i - 1 < l.length by omega)]; omega
theorem listed_lt {b f : Nat} : ∀ x ∈ listedB b f, 0 ≤ x ∧ x < (f : Int) := fun x hx => by
  obtain ⟨n, rfl, h1, _⟩ := mem_listed.1 hx
  omega
theorem listed_rise (b f : Nat) : Rise (listedB b f) := selTo_rise _ _
theorem listed_rising (b f : Nat) : rising (f : Int) (listedB b f) = true := rise_rising (listed_rise b f) listed_lt
theorem bits_listed {b f : Nat} (hf : f ≤ 12) (n : Nat) : bt (bitsL (listedB b f)) n ↔ n < f ∧ bt b n := by
  unfold bt
  rw [bitsL_test (listed_facts hf), seen_listed]; exact Iff.rfl
theorem lt_pow_of {b f : Nat} (h : ∀ n, bt b n → n < f) : b < 2 ^ f := by
  refine Nat.lt_pow_two_of_testBit _ fun i hi => ?_
  cases hb : b.testBit i with
  | false => rfl
  | true => have := h i hb; omega
theorem bits_listed_lt {b f : Nat} (hf : f ≤ 12) : bitsL (listedB b f) < 2 ^ f := lt_pow_of fun n hn => ((bits_listed hf n).1 hn).1
theorem bits_listed_self {b f : Nat} (hf : f ≤ 12) (hb : b < 2 ^ f) : bitsL (listedB b f) = b := by
  refine Nat.eq_of_testBit_eq fun n => ?_
  rw [Bool.eq_iff_iff]
  refine (bits_listed hf n).trans ⟨fun h => h.2, fun h => ⟨?_, h⟩⟩
  refine Classical.byContradiction fun hn => ?_
  have h2 : b < 2 ^ n := Nat.lt_of_lt_of_le hb (Nat.pow_le_pow_right (by omega) (by omega))
  rw [Nat.testBit_lt_two_pow h2] at h; cases h
theorem listed_len (b f : Nat) : (listedB b f).length ≤ f := selTo_length _ _

section
variable {f : Nat} {seen : List Int} {rs : List Rl}

/-- a valid case -/
structure Valid (f : Nat) (seen : List Int) (rs : List Rl) : Prop where
  z : caseErr (f : Int) seen rs = 0
  ok : CaseOk f seen rs
theorem valid_of (hz : caseErr (f : Int) seen rs = 0) (hl : ∀ i, i < rs.length → (nthR rs i).1.length ≤ 1000000) : Valid f seen rs :=
  ⟨hz, by have := caseOk hz hl; rw [Int.toNat_natCast] at this; exact this⟩
theorem Valid.f1 (h : Valid f seen rs) : 1 ≤ f ∧ f ≤ 12 := by have := (case_zero h.z).1; omega
theorem Valid.rise (h : Valid f seen rs) : Rise seen := rising_rise (case_zero h.z).2.2.1
theorem Valid.all (h : Valid f seen rs) : ∀ x ∈ seen, 0 ≤ x ∧ x < (f : Int) := fun _ hx => rising_all (case_zero h.z).2.2.1 hx
/-- the same case with other facts seen -/
theorem Valid.other (h : Valid f seen rs) {l : List Int} (hr : Rise l) (hl : ∀ x ∈ l, 0 ≤ x ∧ x < (f : Int)) : Valid f l rs := by
  refine ⟨?_, h.ok.other hl⟩
  have hz := h.z
  unfold caseErr at hz ⊢
  rw [rise_rising hr hl]
  have := (case_zero h.z)
  obtain ⟨⟨f0, f1⟩, h2, h3, h4⟩ := this
  rw [h3] at hz
  exact hz
theorem Valid.listed (h : Valid f seen rs) (b : Nat) : Valid f (listedB b f) rs := h.other (listed_rise _ _) listed_lt

theorem Valid.fact (h : Valid f seen rs) {i : Nat} (hi : i < f) : factErr (f : Int) seen rs i = 0 := by
  unfold factErr
  rw [if_pos h.z, if_pos (by omega)]
theorem Valid.truth (h : Valid f seen rs) (b : Nat) : truthErr (f : Int) seen rs (listedB b f) = if truthB seen rs (bitsL (listedB b f)) = true then 0 else 24 := by
  unfold truthErr
  rw [if_neg (fun hn => hn h.z), if_pos (listed_rising _ _)]
theorem Valid.truth_iff (h : Valid f seen rs) (b : Nat) : truthB seen rs (bitsL (listedB b f)) = true ↔ bitsL (listedB b f) ∈ truthsN f seen rs := by
  unfold truthsN
  rw [List.mem_filter, List.mem_range]
  exact ⟨fun q => ⟨bits_listed_lt h.ok.f1, q⟩, fun q => q.2⟩
theorem Valid.nil (h : Valid f seen rs) : truthsN f seen rs = [] ↔ Clsh rs (SeenP seen) := truths_nil h.ok
theorem Valid.leastE (h : Valid f seen rs) : rLeastE (f : Int) seen rs = if truthsN f seen rs = [] then 24 else 0 := by
  unfold rLeastE; rw [if_pos h.z, Int.toNat_natCast]
theorem Valid.count (h : Valid f seen rs) : rCountN (f : Int) seen rs = ((truthsN f seen rs).length : Int) := by
  unfold rCountN; rw [if_pos h.z, Int.toNat_natCast]
theorem Valid.leastL (h : Valid f seen rs) (hn : truthsN f seen rs ≠ []) : rLeastL (f : Int) seen rs = listedB (derB seen rs) f := by
  unfold rLeastL
  rw [if_pos h.z, Int.toNat_natCast, if_neg hn]
  refine selTo_congr f fun n hn' => ?_
  have hc : ¬ Clsh rs (SeenP seen) := fun hc => hn (h.nil.2 hc)
  rw [foldl_and_test]
  have h4 : (4095 : Nat).testBit n = true := by
    rw [show (4095 : Nat) = 2 ^ 12 - 1 from rfl, Nat.testBit_two_pow_sub_one]
    have := h.f1; simp; omega
  rw [h4, Bool.true_and, Bool.eq_iff_iff, List.all_eq_true, all_truths h.ok hc]
  exact (derB_iff h.ok n).symm
theorem Valid.leastN (h : Valid f seen rs) (hn : truthsN f seen rs = []) : rLeastL (f : Int) seen rs = [] := by
  unfold rLeastL
  rw [if_pos h.z, Int.toNat_natCast, if_pos hn]
theorem Valid.der_lt (h : Valid f seen rs) {n : Nat} (hd : Der rs (SeenP seen) n) : n < f := h.ok.der_lt hd
theorem Valid.derB_lt (h : Valid f seen rs) : derB seen rs < 2 ^ f := lt_pow_of fun n hn => h.der_lt ((derB_iff h.ok n).1 hn)
theorem Valid.least_mem (h : Valid f seen rs) {n : Nat} : ((n : Nat) : Int) ∈ listedB (derB seen rs) f ↔ Der rs (SeenP seen) n := by
  rw [mem_listed]
  constructor
  · rintro ⟨m, e, _, hb⟩
    have : n = m := by omega
    subst this
    exact (derB_iff h.ok n).1 hb
  · intro hd
    exact ⟨n, rfl, h.der_lt hd, (derB_iff h.ok n).2 hd⟩
theorem Valid.stepsE (h : Valid f seen rs) {i : Nat} (hi : i < f) : rStepsE (f : Int) seen rs i = if (derB seen rs).testBit i = true then 0 else 5 := by
  unfold rStepsE
  rw [if_pos (h.fact hi), Int.toNat_natCast]; rfl
theorem Valid.clashE (h : Valid f seen rs) : rClashE (f : Int) seen rs = if truthsN f seen rs = [] then 0 else 5 := by
  unfold rClashE; rw [if_pos h.z, Int.toNat_natCast]
theorem Valid.verdictE (h : Valid f seen rs) {i : Nat} (hi : i < f) : rVerdictE (f : Int) seen rs i = if truthsN f seen rs = [] then 24 else 0 := by
  unfold rVerdictE; rw [if_pos (h.fact hi), Int.toNat_natCast]

/-- a fact seen besides -/
def SeenQ (seen : List Int) (i : Nat) : Nat → Prop := fun n => SeenP seen n ∨ n = i
theorem Valid.verdictN (h : Valid f seen rs) {i : Nat} (hi : i < f) : (truthsN f seen rs = [] → rVerdictN (f : Int) seen rs i = 0) ∧ (truthsN f seen rs ≠ [] →
    (Der rs (SeenP seen) i → rVerdictN (f : Int) seen rs i = 2) ∧ (Clsh rs (SeenQ seen i) → rVerdictN (f : Int) seen rs i = 0) ∧ (¬ Der rs (SeenP seen) i → ¬ Clsh rs (SeenQ seen i) → rVerdictN (f : Int) seen rs i = 1)) := by
  have hN : rVerdictN (f : Int) seen rs i = if truthsN f seen rs = [] then 0 else if hasN (truthsN f seen rs) i = (truthsN f seen rs).length then 2 else if hasN (truthsN f seen rs) i = 0 then 0 else 1 := by
    unfold rVerdictN; rw [if_pos (h.fact hi), Int.toNat_natCast, Int.toNat_natCast]
  refine ⟨fun hn => by rw [hN, if_pos hn], fun hn => ?_⟩
  rw [hN, if_neg hn]
  have hc : ¬ Clsh rs (SeenP seen) := fun hc => hn (h.nil.2 hc)
  have hcnt : hasN (truthsN f seen rs) i = (truthsN f seen rs).countP (fun b => b.testBit i) := by unfold hasN; rw [List.countP_eq_length_filter]
  have hall : hasN (truthsN f seen rs) i = (truthsN f seen rs).length ↔ Der rs (SeenP seen) i := by
    rw [hcnt, List.countP_eq_length, ← all_truths h.ok hc]
  have hnone : hasN (truthsN f seen rs) i = 0 ↔ Clsh rs (SeenQ seen i) := by
    rw [hcnt, List.countP_eq_zero]
    constructor
    · intro ha
      refine Classical.byContradiction fun hx => ?_
      have hv : CaseOk f (seen ++ [(i : Int)]) rs := h.ok.other (fun x hx => by
        rcases List.mem_append.1 hx with hx | hx
        · exact h.all x hx
        · rw [List.mem_singleton.1 hx]; omega)
      have hS : ∀ n, SeenP (seen ++ [(i : Int)]) n ↔ SeenQ seen i n := fun n => by
        unfold SeenP SeenQ SeenP
        rw [List.mem_append, List.mem_singleton]
        constructor
        · rintro (q | q)
          · exact .inl q
          · exact .inr (by omega)
        · rintro (q | q)
          · exact .inl q
          · exact .inr (by omega)
      have hx' : ¬ Clsh rs (SeenP (seen ++ [(i : Int)])) := fun hy => hx (hy.more (fun _ q => q) (fun n q => .seen ((hS n).1 q)))
      obtain ⟨b1, b2, b3⟩ := (mem_truthsN hv).1 (derB_truth hv hx')
      have := ha _ ((mem_truthsN h.ok).2 ⟨b1, fun n q => b2 n ((hS n).2 (.inl q)), b3⟩)
      exact this (b2 i ((hS i).2 (.inr rfl)))
    · intro hx b hb hbi
      obtain ⟨_, h1, h2⟩ := (mem_truthsN h.ok).1 hb
      exact Clsh.no (fun n q => by
        rcases q with q | q
        · exact h1 n q
        · rw [q]; exact hbi) h2 hx
  have hboth : Der rs (SeenP seen) i → ¬ Clsh rs (SeenQ seen i) := fun hd hx => by
    have h1 := hall.2 hd
    have h2 := hnone.2 hx
    rw [h2] at h1
    exact hn (List.length_eq_zero_iff.1 h1.symm)
  refine ⟨fun hd => by rw [if_pos (hall.2 hd)], fun hx => ?_, fun hd hx => ?_⟩
  · rw [if_neg (fun q => hboth (hall.1 q) hx), if_pos (hnone.2 hx)]
  · rw [if_neg (fun q => hd (hall.1 q)), if_neg (fun q => hx (hnone.1 q))]

/-- steps that are taken lead to what follows -/
theorem rGo_sound {rs : List Rl} (hro : rulesOk rs) {S : Nat → Prop} : ∀ (t : List Int) (b b' : Nat) (c c' : Bool), (∀ y ∈ t, 0 ≤ y ∧ y < (rs.length : Int)) → (∀ n, bt b n → Der rs S n) → (c = true → Clsh rs S) → rGo rs (b, c) t = some (b', c') → (∀ n, bt b' n → Der rs S n) ∧ (c' = true → Clsh rs S)
  | [], b, b', c, c', _, hb, hc, h => by
    rw [rGo] at h
    simp at h
    obtain ⟨rfl, rfl⟩ := h
    exact ⟨hb, hc⟩
  | y :: t, b, b', c, c', hy, hb, hc, h => by
    have hy0 := hy y (by simp)
    have hm := nthR_mem (rs := rs) (i := y.toNat) (by omega)
    have ho := rulesOk_mem hro hm
    rw [rGo] at h
    split at h
    · cases h
    · split at h
      · rename_i hin
        have hd : ∀ x ∈ (nthR rs y.toNat).1, Der rs S x.toNat := fun x hx => hb _ ((bits_has ho.1).1 hin x hx)
        split at h
        · rename_i hneg
          exact rGo_sound hro t _ _ _ _ (fun z hz => hy z (by simp [hz])) hb (fun _ => ⟨_, hm, hneg, hd⟩) h
        · rename_i hneg
          refine rGo_sound hro t _ _ _ _ (fun z hz => hy z (by simp [hz])) (fun n hn => ?_) hc h
          rcases bt_or.1 hn with q | q
          · exact hb n q
          · rw [← q]; exact .rule hm (by omega) hd
      · cases h
theorem rcs_sound (h : Valid f seen rs) {t : List Int} (he : (rcs (f : Int) seen rs t).2.2 = 0) :
    (∀ x ∈ (rcs (f : Int) seen rs t).1, ∃ n : Nat, x = n ∧ n < f ∧ Der rs (SeenP seen) n) ∧ ((rcs (f : Int) seen rs t).2.1 = true → Clsh rs (SeenP seen)) := by
  unfold rcs at he ⊢
  rw [if_pos h.z] at he ⊢
  split at he
  · rename_i hw
    split at he
    · cases he
    · rename_i hdup
      rw [if_pos hw, if_neg hdup]
      rw [Int.toNat_natCast] at he ⊢
      cases hg : rGo rs (bitsL seen, false) t with
      | none => rw [hg, rFin] at he; cases he
      | some q =>
        obtain ⟨b', c'⟩ := q
        rw [rFin]
        have := rGo_sound h.ok.r t _ _ _ _ (S := SeenP seen) (fun y hy => by
          obtain ⟨k, hk, rfl⟩ := nth_mem_iff.1 hy
          have := within_nth hw hk
          omega) (fun n hn => .seen ((bitsL_test h.ok.s n).1 hn)) (fun e => by cases e) hg
        exact ⟨fun x hx => by
          obtain ⟨n, h1, h2, h3⟩ := mem_listed.1 hx
          exact ⟨n, h1, h2, this.1 n h3⟩, this.2⟩
  · cases he
end

end Go.Proofs.Ytkioejdddmnbmaa

namespace Go.Proofs.Ytkioejdddmnbmaa
open Go.RowKit Go.Shelf

theorem sizeOf60 (w : World) : (sizeOf 60).run Try.prog w = .ok 2 w := by simp [go_sem]
set_option maxRecDepth 100000 in
theorem elem23 : Try.prog.elem 23 = 60 := by kernel_rfl
theorem RulesAt.take {w : World} {a : Option Addr} {rs : List Rl} (h : RulesAt w a rs) (k : Nat) : RulesAt w a (rs.take k) := by
  rcases h with rfl | ⟨b, off, rfl, h⟩
  · exact .inl (by simp)
  · refine .inr ⟨b, off, rfl, fun i hi => ?_⟩
    rw [List.length_take] at hi
    rw [nthR_take (by omega)]
    exact h i (by omega)
theorem RulesAt.drop {w : World} {b off : Nat} {rs : List Rl} (h : RulesAt w (some ⟨b, off, none⟩) rs) (k : Nat) : RulesAt w (some ⟨b, off + k * 2, none⟩) (rs.drop k) := by
  refine .inr ⟨b, off + k * 2, rfl, fun i hi => ?_⟩
  rw [List.length_drop] at hi
  rw [nthR_drop]
  rcases h with rfl | ⟨b2, off2, e, h⟩
  · simp at hi
  · simp at e
    obtain ⟨rfl, rfl⟩ := e
    obtain ⟨a, cap, hr⟩ := h (k + i) (by omega)
    rw [show off + (k + i) * 2 = off + k * 2 + i * 2 from by omega] at hr
    exact ⟨a, cap, hr⟩

set_option maxRecDepth 100000 in
/-- rules without the first ones, as a slice -/
theorem sliceR_from {w : World} {a : Option Addr} {l : List Rl} (h : RulesAt w a l) {c k : Nat} (hk : k ≤ l.length) (hc : l.length ≤ c) : ∃ a2 : Option Addr, (∀ w' : World, (Instr.slice 23 (.slice a l.length c) (some (.int .i64 (k : Int))) none none).run Try.prog w' = .ok (.slice a2 (l.length - k) (c - k)) w') ∧ RulesAt w a2 (l.drop k) ∧ (a ≠ none → a2 ≠ none) := by
  refine ⟨if c = k then a else a.map (·.add (k * 2)), fun w' => ?_, ?_, ?_⟩
  · have hsz : ((sizeOf (Try.prog.elem 23)).run Try.prog w') = .ok 2 w' := by
      rw [elem23]; exact sizeOf60 w'
    rw [run_slice_l w' 23 a l.length c Try.underlying23 .i64 (k : Int) (by omega) (by omega), hsz]
    simp [Result.andThen, sliced]
  · by_cases hz : l.drop k = []
    · rw [hz]; exact .inl rfl
    · have hlt : k < l.length := by
        apply Classical.byContradiction
        intro hn
        exact hz (List.drop_eq_nil_of_le (by omega))
      obtain ⟨b, off, _, _, rfl, _⟩ := h.at hlt
      have h2 := h.drop k
      split
      · omega
      · rw [Option.map_some, Addr.add_lit]; exact h2
  · intro hne
    split
    · exact hne
    · cases a with
      | none => exact absurd rfl hne
      | some b => simp

def LessP (w : World) (rs : List Rl) (e : Ending) (w' : World) : Prop := ∃ ao cap, e = .returned (.slice ao rs.length cap) ∧ RulesAt w' ao rs ∧ (ao = none → cap = 0) ∧ Below w.heap.size w w'

theorem OwnRu.none {w0 w : World} {ao : Option Addr} {n cap : Nat} {rs : List Rl} (h : OwnRu w0 w ao n cap rs) : ao = none → cap = 0 := by
  rintro rfl
  obtain ⟨_, cl, ⟨_, (⟨e, h0⟩ | ⟨g, c, cur, e, _⟩)⟩, _⟩ := h
  · cases e; rfl
  · cases e

set_option maxRecDepth 100000 in
set_option maxHeartbeats 2000000 in
theorem without_c (ra : Option Addr) (rc k : Nat) (rs : List Rl) (w : World) (hr : RulesAt w ra rs) (hk : k < rs.length) (hrc : rs.length ≤ rc) (hrl : rs.length ≤ 1000) :
    Calls Try.prog 52 #[.slice ra rs.length rc, .int .i64 k] w (LessP w (lessR rs k)) := by
  obtain ⟨a2, hs2, hat2, hne⟩ := sliceR_from hr (k := k + 1) (by omega) hrc
  have hwr : IntKind.i64.wrap ((k : Int) + 1) = (k : Int) + 1 := by have h := wrap_i64_nat (a := k + 1) (by omega); simpa using h
  rw [show (((k + 1 : Nat)) : Int) = (k : Int) + 1 from by omega] at hs2
  have hna : ra ≠ none := by
    intro e
    obtain ⟨b, off, _, _, h, _⟩ := hr.at hk
    rw [e] at h; cases h
  have hna2 := hne hna
  have Hata := hid (hr.take k); have Hat2 := hid hat2
  have Hlk := hid (show (rs.take k).length = k by rw [List.length_take]; omega)
  have hkI : (k : Int) ≤ (rc : Int) := by omega
  obtain ⟨m, hm⟩ : ∃ m, m = rs.length - (k + 1) := ⟨_, rfl⟩
  have Hdl := hid (show (rs.drop (k + 1)).length = m by rw [List.length_drop, hm])
  rw [← hm] at hs2
  have hml : k + m ≤ 1000000 := by omega
  have Hm := hid hm
  have hle : (lessR rs k).length = k + m := by unfold lessR; rw [List.length_append, Hlk.out, Hdl.out]
  unfold LessP
  rw [hle]
  have hlR : rs.take k ++ rs.drop (k + 1) = lessR rs k := rfl
  obtain ⟨P, hP⟩ : ∃ P, P = lessR rs k := ⟨_, rfl⟩
  rw [← hP] at hlR ⊢
  have HlR := hid hlR
  clear hat2 hne hm hr hle hlR hP
  go_enter Try.func52, Try.ntmps52
  go_upto_region 1 with (fail)
  go_region_held3 (fun _ => True) (trivial)
    (first
      | (refine step_app_rules _ w (by rfl) _ _ (by rfl) (some ⟨w.heap.size, 0, none⟩) 0 0 [] (by rfl) (by first | exact ownRu_lit0 w | exact (ownRu_lit0 w)) (by first | exact bnew w _ | exact (bnew w _).drew) ra k rc (rs.take k) (by rfl) Hata.out Hlk.out (fun h => absurd h hna) (by omega) ?_; intro a8 c8 w8 hB8 hown8)
      | (refine step_app_rules _ w (by rfl) _ _ (by rfl) a8 (0 + k) c8 ([] ++ rs.take k) (by rfl) (by first | exact hown8) (by first | exact hB8 | exact hB8.drew) a2 m _ (rs.drop (k + 1)) (by rfl) Hat2.out Hdl.out (fun h => absurd h hna2) (by omega) ?_; intro a9 c9 w9 hB9 hown9))
  all_goals (
    go_wp2
    go_ret
    refine ⟨a9, c9, by first | rfl | (rw [Nat.zero_add]; rfl), ?_, hown9.none, hB9⟩
    have h := hown9.at hB9
    rw [List.nil_append, HlR.out] at h
    exact h)

theorem all_take_succN (p : Nat → Bool) {l : List Nat} {k : Nat} (h : k < l.length) : (l.take (k + 1)).all p = ((l.take k).all p && p l[k]) := by
  rw [List.take_succ_eq_append_getElem h, List.all_append]; simp

set_option maxRecDepth 100000 in
set_option maxHeartbeats 4000000 in
theorem rIdle_c (sa ra : Option Addr) (sc rc : Nat) (facts : Int) (seen : List Int) (rs : List Rl) (x : Int) (w : World) (hc : CaseAt w sa ra seen rs) (hrc : rs.length ≤ rc) :
    Calls Try.prog 43 #[.agg #[.int .i64 facts, .slice sa seen.length sc, .slice ra rs.length rc], .int .i64 x] w (BoolE w (rIdleB facts seen rs x) (rIdleE facts seen rs x)) := by
  obtain ⟨W0, hW0⟩ : ∃ W0, W0 = w.alloc (.cells #[.int .i64 facts, .slice sa seen.length sc, .slice ra rs.length rc] 25) := ⟨_, rfl⟩
  have HB0 := hid (show Below w.heap.size w W0 by rw [hW0]; exact bnew w _)
  obtain ⟨c0, c1, c2⟩ := caseBox w facts sa ra seen.length sc rs.length rc
  rw [← hW0] at c0 c1 c2
  have C0 := hid c0; have C1 := hid c1; have C2 := hid c2
  have HS := hid hW0
  have HC := hid fun (w' : World) (h : Below w.heap.size w w') => rcc sa ra sc rc facts seen rs w' (hc.mono h)
  unfold BoolE rIdleB rIdleE
  by_cases hz : caseErr facts seen rs = 0
  · rw [if_pos hz, if_pos hz]
    rw [hz] at HC
    obtain ⟨f, rfl, hf1, hf2⟩ := case_nat hz
    rw [Int.toNat_natCast]
    have hlI : (rs.length : Int) ≤ 14 := by have := (case_zero hz).2.1; omega
    by_cases hx : 0 ≤ x ∧ x < (rs.length : Int)
    · rw [if_pos hx, if_pos hx]
      obtain ⟨hx0, hx1⟩ := hx
      obtain ⟨k, rfl⟩ := Int.eq_ofNat_of_zero_le hx0
      rw [Int.toNat_natCast]
      have hkl : k < rs.length := by omega
      have hro := case_rules hz hc.il
      have hcl := case_less hz hc.il hkl
      obtain ⟨hf1', hf2', hf3', hf4'⟩ := hro k hkl
      obtain ⟨b2, off2, a2, cp2, rfl, hra0⟩ := hc.r.at hkl
      have H52 := hid fun (w' : World) (h : Below w.heap.size w w') => without_c (some ⟨b2, off2, none⟩) rc k rs w' (hc.r.mono h) hkl hrc (by omega)
      have H66 := hid fun (ra' : Option Addr) (rc' : Nat) (w' : World) (hr' : RulesAt w' ra' (lessR rs k)) => (show Calls Try.prog 66 #[.agg #[.int .i64 f, .slice none 0 0, .slice ra' (lessR rs k).length rc']] w' (OwnP w' (truthsL f [] (lessR rs k))) from truths_c none ra' 0 rc' f [] (lessR rs k) w' ⟨IntsAt.nil _ _, hr', by simp, by have := lessR_len (rs := rs) (k := k); have := hc.rl; omega, fun i hi => (lessR_ok hro i hi).2.1⟩ hf2 (fun i hi => by cases hi) (lessR_ok hro))
      have H84 := hid fun (b : Nat) (hb : b < 2 ^ 12) (w' : World) (h : Below w.heap.size w w') => keeps_c a2 cp2 (nthR rs k) b w' (hra0.at'.mono h) hf2' hf1' hf4' hb
      unfold LessP at H52
      unfold OwnP at H66
      unfold TellB at H84
      have Htl := hid fun (j : Nat) (hj : j < (truthsN f [] (lessR rs k)).length) => (truthsN_lt (List.getElem_mem hj) : (truthsN f [] (lessR rs k))[j] < 2 ^ f)
      have hp12 := pow_le hf2
      obtain ⟨R, hR⟩ : ∃ R, R = idleR f rs k := ⟨_, rfl⟩
      have hR2 : R = (truthsN f [] (lessR rs k)).all (fun b => keepsB b (nthR rs k)) := hR
      rw [← hR]
      rw [truthsL_eq] at H66
      have hTl := truthsN_length hf2 [] (lessR rs k)
      obtain ⟨T, hT⟩ : ∃ T, T = truthsN f [] (lessR rs k) := ⟨_, rfl⟩
      rw [← hT] at H66 Htl hR2 hTl
      rw [List.length_map] at H66
      obtain ⟨M, hM⟩ : ∃ M, M = lessR rs k := ⟨_, rfl⟩
      rw [← hM] at H52 H66
      have HR := hid hR2
      have Hra := hid hra0
      have hln : ∃ n, n = (nthR rs k).1.length := ⟨_, rfl⟩
      obtain ⟨ln, hln⟩ := hln
      obtain ⟨th, hth⟩ : ∃ n, n = (nthR rs k).2 := ⟨_, rfl⟩
      rw [← hln, ← hth] at H84
      have Hln := hid hln; have Hth := hid hth
      have HTl := hid hTl
      clear hc hz hW0 c0 c1 c2 hro hcl hR hR2 hT hM hra0 hln hth hf1' hf2' hf3' hf4' hTl
      go_enter Try.func43, Try.ntmps43
      go_wp2_with fail
      rw [← HS.out]
      refine (HC.out _ HB0.out).mono ?_
      rintro e w1 ⟨rfl, hB⟩
      have HB1 := hid (bstep HB0.out hB)
      have d0 := cstep C0.out hB; have d2 := cstep C2.out hB
      have D0 := hid d0; have D2 := hid d2
      clear hB
      go_upto_region 5 with (fail)
      go_cut [6] (fun s wc => ∃ ao cap, s = .slice ao T.length cap ∧ IntsAt wc ao (T.map (fun n : Nat => (n : Int))) ∧ Below w1.heap.size w1 wc)
      case first =>
        go_region_held3 (fun w' => w'.cell? ⟨w.heap.size, 0, none⟩ = some (.int .i64 f) ∧ w'.cell? ⟨w.heap.size, 2, none⟩ = some (.slice (some ⟨b2, off2, none⟩) rs.length rc)) (first | go_keep | exact ⟨cstep D0.out hBl, cstep D2.out hBl⟩ | exact ⟨cstep D0.out (bstep hBl hB7), cstep D2.out (bstep hBl hB7)⟩)
          (first
            | (go_at_call 52; (with_reducible refine (H52.out _ (by first | exact HB1.out | exact HB1.out.drew)).mono ?_); rintro e w5 ⟨a5, c5, rfl, hr5, _, hB5⟩; have hBl : Below w1.heap.size w1 w5 := by first | exact hB5 | exact ((Below.refl _ _).drew).trans hB5)
            | (go_at_call 66; (with_reducible refine (H66.out _ _ _ hr5).mono ?_); rintro e w7 ⟨a7, c7, rfl, hx7, _, hB7⟩))
        all_goals (
          go_wp2
          go_meet
          exact ⟨a7, c7, rfl, hx7, bstep hBl hB7⟩)
      case rest =>
        obtain ⟨ao, cap, rfl, hxa, hBa⟩ := hcut
        have HBa := hid (bstep HB1.out hBa)
        have HX := hid hxa
        have E2 := hid (cstep D2.out hBa)
        clear hxa hBa d0 d2
        go_wp2
        go_loopw [7] (fun i wr => ∃ j : Nat, j ≤ T.length ∧ i = .int .i64 j ∧ (T.take j).all (fun b => keepsB b (nthR rs k)) = true ∧ Below wc.heap.size wc wr) (fun i _ => T.length - (intOf i).toNat)
        case atStart => exact ⟨0, Nat.zero_le _, rfl, rfl, Below.refl _ _⟩
        case round =>
          obtain ⟨j, hj, rfl, hgo, hB⟩ := hrel
          obtain ⟨wo, rfl⟩ : ∃ wo : World, wo = wr := ⟨_, rfl⟩
          have HB := hid hB
          have HBt := hid (bstep HBa.out hB)
          have Hgo := hid hgo
          clear hB hgo
          by_cases hlt : j < T.length
          · have hb := Htl.out j hlt
            have hall := all_take_succN (fun b => keepsB b (nthR rs k)) hlt
            rw [Hgo.out, Bool.true_and] at hall
            obtain ⟨bl, offl, rfl, hcell⟩ := (HX.out.mono HB.out).at (k := j) (by rw [List.length_map]; exact hlt)
            have hnt : nth (T.map (fun n : Nat => (n : Int))) j = ((T[j] : Nat) : Int) := by
              rw [nth_eq (by rw [List.length_map]; exact hlt), List.getElem_map]
            rw [hnt] at hcell
            have hend : keepsB T[j] (nthR rs k) = false → R = false := fun h => by
              rw [HR.out]
              exact List.all_eq_false.2 ⟨T[j], List.getElem_mem hlt, by rw [h]; simp⟩
            obtain ⟨t, ht⟩ : ∃ t, t = T[j] := ⟨_, rfl⟩
            rw [← ht] at hb hcell hall hend
            have H84' := hid (H84.out t (by omega))
            obtain ⟨kb, hkb⟩ : ∃ b, b = keepsB t (nthR rs k) := ⟨_, rfl⟩
            rw [← hkb] at H84' hall hend
            have Hall := hid hall; have Hend := hid hend
            have Hcell := hid hcell
            have e2 := cstep E2.out HB.out
            have q0 := (Hra.out.mono HBt.out).cI; have q1 := (Hra.out.mono HBt.out).cT
            rw [← Hln.out] at q0
            rw [← Hth.out] at q1
            have E2' := hid e2; have Q0 := hid q0; have Q1 := hid q1
            clear hnt hall hend ht hkb hb
            go_upto_region 9 with (fail)
            go_cut [46] (fun s wc' => s = .bool (!kb) ∧ Below wo.heap.size wo wc')
            case first =>
              go_region_held3 (fun w' => w'.cell? ⟨w.heap.size, 2, none⟩ = some (.slice (some ⟨b2, off2, none⟩) rs.length rc) ∧ w'.cell? ⟨b2, off2 + k * 2, none⟩ = some (.slice a2 ln cp2) ∧ w'.cell? ⟨b2, off2 + k * 2 + 1, none⟩ = some (.int .i64 th) ∧ w'.cell? ⟨bl, offl + j, none⟩ = some (.int .i64 t)) (first | exact ⟨cstep E2'.out hB9, cstep Q0.out hB9, cstep Q1.out hB9, cstep Hcell.out hB9⟩ | go_keep)
                (first
                  | (go_at_call 84; (with_reducible refine (H84'.out _ (by first | exact HBt.out | exact HBt.out.drew)).mono ?_); rintro e w9 ⟨rfl, hB8⟩; have hB9 : Below wo.heap.size wo w9 := by first | exact hB8 | exact ((Below.refl _ _).drew).trans hB8))
              all_goals (
                go_wp2
                go_meet
                exact ⟨rfl, hB9⟩)
            case rest =>
              obtain ⟨rfl, hB9⟩ := hcut
              have HB9 := hid (bstep HB.out hB9)
              clear hB9 e2 q0 q1 hcell
              cases kb with
              | true =>
                have hT4 := HTl.out
                go_wp2
                go_roundw
                case rel => exact ⟨j + 1, by omega, by go_num, Hall.out, HB9.out⟩
                case measure => simp [intOf]; omega
              | false =>
                have hRf := Hend.out rfl
                subst hRf
                go_wp2
                go_ret2
                exact ⟨rfl, bstep HBa.out HB9.out⟩
          · obtain rfl : j = T.length := by omega
            have hRt : R = true := by
              rw [HR.out]
              have := Hgo.out
              rw [List.take_length] at this
              exact this
            subst hRt
            go_wp2
            go_ret2
            exact ⟨rfl, HBt.out⟩
    · rw [if_neg hx, if_neg hx]
      by_cases h0 : x < 0
      · have q0 : decide (x < 0) = true := decide_eq_true h0
        clear hc hz hW0 c0 c1 c2 hx h0
        go_enter Try.func43, Try.ntmps43
        go_wp2_with fail
        rw [← HS.out]
        refine (HC.out _ HB0.out).mono ?_
        rintro e w1 ⟨rfl, hB⟩
        have HB1 := hid (bstep HB0.out hB)
        have d0 := cstep C0.out hB; have d2 := cstep C2.out hB
        clear hB
        go_wp2
        go_ret2
        exact ⟨rfl, HB1.out⟩
      · have q0 : decide (x < 0) = false := decide_eq_false h0
        have q1 : decide (x ≥ (rs.length : Int)) = true := decide_eq_true (by omega)
        have q2 : decide ((rs.length : Int) ≤ x) = true := decide_eq_true (by omega)
        clear hc hz hW0 c0 c1 c2 hx h0
        go_enter Try.func43, Try.ntmps43
        go_wp2_with fail
        rw [← HS.out]
        refine (HC.out _ HB0.out).mono ?_
        rintro e w1 ⟨rfl, hB⟩
        have HB1 := hid (bstep HB0.out hB)
        have d0 := cstep C0.out hB; have d2 := cstep C2.out hB
        clear hB
        go_wp2
        go_ret2
        exact ⟨rfl, HB1.out⟩
  · rw [if_neg hz, if_neg hz]
    have hcb := errB hz
    clear hc hz hW0 c0 c1 c2
    generalize caseErr facts seen rs = c at *
    go_enter Try.func43, Try.ntmps43
    go_wp2_with fail
    rw [← HS.out]
    refine (HC.out _ HB0.out).mono ?_
    rintro e w1 ⟨rfl, hB⟩
    have HB1 := hid (bstep HB0.out hB)
    have d0 := cstep C0.out hB; have d1 := cstep C1.out hB; have d2 := cstep C2.out hB
    clear hB
    go_wp2_with fail
    refine (HC.out _ HB1.out).mono ?_
    rintro e w2 ⟨rfl, hB⟩
    go_wp2
    go_ret2
    exact ⟨rfl, bstep HB1.out hB⟩

end Go.Proofs.Ytkioejdddmnbmaa
