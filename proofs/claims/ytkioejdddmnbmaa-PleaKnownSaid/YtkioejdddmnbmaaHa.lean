/- Plain: what follows from facts by rules; the desk finds it. No condition but those of a valid case. -/
import Derived.Test.YtkioejdddmnbmaaDd
namespace Go.Proofs.Ytkioejdddmnbmaa
open Go.RowKit

/-- what follows by rules -/
inductive Der (rs : List Rl) (S : Nat → Prop) : Nat → Prop
  | seen {n : Nat} : S n → Der rs S n
  | rule {r : Rl} : r ∈ rs → 0 ≤ r.2 → (∀ x ∈ r.1, Der rs S x.toNat) → Der rs S r.2.toNat
def Clsh (rs : List Rl) (S : Nat → Prop) : Prop := ∃ r ∈ rs, r.2 < 0 ∧ ∀ x ∈ r.1, Der rs S x.toNat
/-- facts that keep all rules -/
def Closed (rs : List Rl) (T : Nat → Prop) : Prop := ∀ r ∈ rs, (∀ x ∈ r.1, T x.toNat) → 0 ≤ r.2 ∧ T r.2.toNat

theorem Der.least {rs : List Rl} {S T : Nat → Prop} (hS : ∀ n, S n → T n) (hc : ∀ r ∈ rs, 0 ≤ r.2 → (∀ x ∈ r.1, T x.toNat) → T r.2.toNat) {n : Nat} (h : Der rs S n) : T n := by
  induction h with
  | seen h => exact hS _ h
  | rule hr h0 _ ih => exact hc _ hr h0 ih
theorem Der.into {rs : List Rl} {S T : Nat → Prop} (hS : ∀ n, S n → T n) (hc : Closed rs T) {n : Nat} (h : Der rs S n) : T n :=
  h.least hS (fun r hr _ h => (hc r hr h).2)
theorem Der.more {rs rs' : List Rl} {S S' : Nat → Prop} (hr : ∀ r ∈ rs, r ∈ rs') (hS : ∀ n, S n → Der rs' S' n) {n : Nat} (h : Der rs S n) : Der rs' S' n :=
  h.least hS (fun r h1 h2 h3 => .rule (hr r h1) h2 h3)
theorem Clsh.more {rs rs' : List Rl} {S S' : Nat → Prop} (hr : ∀ r ∈ rs, r ∈ rs') (hS : ∀ n, S n → Der rs' S' n) (h : Clsh rs S) : Clsh rs' S' := by
  obtain ⟨r, h1, h2, h3⟩ := h
  exact ⟨r, hr r h1, h2, fun x hx => (h3 x hx).more hr hS⟩
theorem Clsh.no {rs : List Rl} {S T : Nat → Prop} (hS : ∀ n, S n → T n) (hc : Closed rs T) : ¬ Clsh rs S := by
  rintro ⟨r, hr, h0, h⟩
  have := (hc r hr (fun x hx => (h x hx).into hS hc)).1
  omega
theorem der_closed {rs : List Rl} {S : Nat → Prop} (h : ¬ Clsh rs S) : Closed rs (Der rs S) := by
  intro r hr h2
  by_cases h0 : 0 ≤ r.2
  · exact ⟨h0, .rule hr h0 h2⟩
  · exact absurd ⟨r, hr, by omega, h2⟩ h

theorem hasM_iff {m l : List Int} : hasM m l = true ↔ ∀ x ∈ l, nth m x.toNat ≠ 0 := by
  unfold hasM zeroAt; simp
theorem mem_nthR {rs : List Rl} {r : Rl} (h : r ∈ rs) : ∃ i, i < rs.length ∧ nthR rs i = r := by
  obtain ⟨i, hi, rfl⟩ := List.getElem_of_mem h
  exact ⟨i, hi, by unfold nthR; rw [List.getD_eq_getElem?_getD, List.getElem?_eq_getElem hi]; rfl⟩
theorem nth_mem_iff {l : List Int} {x : Int} : x ∈ l ↔ ∃ k, k < l.length ∧ nth l k = x := by
  constructor
  · intro h
    obtain ⟨k, hk, rfl⟩ := List.getElem_of_mem h
    exact ⟨k, hk, nth_eq hk⟩
  · rintro ⟨k, hk, rfl⟩; exact nth_mem hk
theorem factsOk_mem {l : List Int} (h : factsOk l) {x : Int} (hx : x ∈ l) : 0 ≤ x ∧ x < 12 := by
  obtain ⟨k, hk, rfl⟩ := nth_mem_iff.1 hx; exact h k hk
theorem rulesOk_mem {rs : List Rl} (h : rulesOk rs) {r : Rl} (hr : r ∈ rs) : factsOk r.1 ∧ r.1.length ≤ 1000000 ∧ -1 ≤ r.2 ∧ r.2 < 12 := by
  obtain ⟨i, hi, rfl⟩ := mem_nthR hr; exact h i hi

/-- what a desk's order says -/
def OrdOk (rs : List Rl) (S : Nat → Prop) (ord : List (Nat × Nat)) : Prop :=
  ∀ a p b, ord = a ++ p :: b → p.2 < rs.length ∧ (nthR rs p.2).2 = (p.1 : Int) ∧ p.1 < 12 ∧ ¬ S p.1 ∧ p.1 ∉ a.map (·.1) ∧ ∀ x ∈ (nthR rs p.2).1, S x.toNat ∨ x.toNat ∈ a.map (·.1)
theorem OrdOk.nil (rs : List Rl) (S : Nat → Prop) : OrdOk rs S [] := fun a p b h => by simp at h
theorem OrdOk.snoc {rs : List Rl} {S : Nat → Prop} {ord : List (Nat × Nat)} (h : OrdOk rs S ord) {p : Nat × Nat}
    (hp : p.2 < rs.length ∧ (nthR rs p.2).2 = (p.1 : Int) ∧ p.1 < 12 ∧ ¬ S p.1 ∧ p.1 ∉ ord.map (·.1) ∧ ∀ x ∈ (nthR rs p.2).1, S x.toNat ∨ x.toNat ∈ ord.map (·.1)) : OrdOk rs S (ord ++ [p]) := by
  intro a q b e
  rcases List.eq_nil_or_concat b with rfl | ⟨b', y, rfl⟩
  · have := List.append_inj' e rfl
    obtain ⟨rfl, e2⟩ := this
    cases e2
    exact hp
  · have e' : ord ++ [p] = (a ++ q :: b') ++ [y] := by rw [e]; simp
    obtain ⟨rfl, _⟩ := List.append_inj' e' rfl
    exact h a q b' rfl

structure DInv (rs : List Rl) (S : Nat → Prop) (s : LSt) : Prop where
  len : s.known.length = 12
  ok : marksOk s.known
  sound : ∀ n, nth s.known n ≠ 0 → Der rs S n
  seen : ∀ n, S n → nth s.known n ≠ 0
  clash : 0 ≤ s.clash → s.clash.toNat < rs.length ∧ (nthR rs s.clash.toNat).2 < 0 ∧ ∀ x ∈ (nthR rs s.clash.toNat).1, nth s.known x.toNat ≠ 0
  low : -1 ≤ s.clash
  ordk : ∀ n, nth s.known n ≠ 0 ↔ S n ∨ n ∈ s.ord.map (·.1)
  ord : OrdOk rs S s.ord

theorem nth_set_ne {l : List Int} {n k : Nat} (h : nth l k ≠ 0) : nth (l.set n 1) k ≠ 0 := by
  rw [nth_set]; split
  · decide
  · exact h

theorem DInv.learn1 {rs : List Rl} {S : Nat → Prop} {s : LSt} (h : DInv rs S s) (hro : rulesOk rs) {i : Nat} (hi : i < rs.length) : DInv rs S (learn1 rs s i) := by
  unfold Go.Proofs.Ytkioejdddmnbmaa.learn1
  by_cases hh : hasM s.known (nthR rs i).1 = true
  · rw [if_pos hh]
    have hall := hasM_iff.1 hh
    by_cases h0 : (nthR rs i).2 < 0
    · rw [if_pos h0]
      by_cases hc : s.clash < 0
      · rw [if_pos hc]
        exact { h with clash := fun _ => ⟨by simpa using hi, by simpa using h0, by simpa using hall⟩, low := by show (-1:Int) ≤ (i : Int); omega }
      · rw [if_neg hc]; exact h
    · rw [if_neg h0]
      by_cases hz : nth s.known (nthR rs i).2.toNat = 0
      · rw [if_pos hz]
        obtain ⟨_, _, _, hlt⟩ := hro i hi
        have hn : (nthR rs i).2.toNat < s.known.length := by rw [h.len]; omega
        have hset : ∀ k, nth (s.known.set (nthR rs i).2.toNat 1) k ≠ 0 ↔ (k = (nthR rs i).2.toNat ∨ nth s.known k ≠ 0) := by
          intro k
          rw [nth_set]
          by_cases e : k = (nthR rs i).2.toNat
          · rw [if_pos ⟨e, hn⟩]; simp [e]
          · rw [if_neg (fun h => e h.1)]; simp [e]
        refine ⟨by show (s.known.set _ 1).length = 12; rw [List.length_set]; exact h.len, h.ok.set _, ?_, fun n hS => (hset n).2 (.inr (h.seen n hS)), ?_, h.low, ?_, ?_⟩
        · intro n hn2
          rcases (hset n).1 hn2 with rfl | h2
          · exact .rule (nthR_mem hi) (by omega) (fun x hx => h.sound _ (hall x hx))
          · exact h.sound n h2
        · intro hc
          obtain ⟨c1, c2, c3⟩ := h.clash hc
          exact ⟨c1, c2, fun x hx => (hset _).2 (.inr (c3 x hx))⟩
        · intro n
          show nth (s.known.set _ 1) n ≠ 0 ↔ _
          rw [hset n, h.ordk n]
          simp only [List.map_append, List.map_cons, List.map_nil, List.mem_append, List.mem_singleton]
          constructor
          · rintro (h | h | h)
            · exact .inr (.inr h)
            · exact .inl h
            · exact .inr (.inl h)
          · rintro (h | h | h)
            · exact .inr (.inl h)
            · exact .inr (.inr h)
            · exact .inl h
        · refine h.ord.snoc ⟨hi, by show (nthR rs i).2 = (((nthR rs i).2.toNat : Nat) : Int); omega, by show (nthR rs i).2.toNat < 12; omega, fun hS => h.seen _ hS hz, fun hm => (h.ordk _).2 (.inr hm) hz, fun x hx => (h.ordk _).1 (hall x hx)⟩
      · rw [if_neg hz]; exact h
  · rw [if_neg hh]; exact h
theorem DInv.learnTo {rs : List Rl} {S : Nat → Prop} {s : LSt} (h : DInv rs S s) (hro : rulesOk rs) : ∀ k, k ≤ rs.length → DInv rs S (learnTo rs s k)
  | 0, _ => h
  | k + 1, hk => (h.learnTo hro k (by omega)).learn1 hro (by omega)

theorem count_mono {rs : List Rl} {s : LSt} (hl : s.known.length = 12) (hr : rulesOk rs) {j k : Nat} (hjk : j ≤ k) (hk : k ≤ rs.length) : (learnTo rs s k).known.count 0 ≤ (learnTo rs s j).known.count 0 := by
  induction k with
  | zero => obtain rfl : j = 0 := by omega
            exact Nat.le_refl _
  | succ k ih =>
    by_cases e : j = k + 1
    · subst e; exact Nat.le_refl _
    · have h1 := ih (by omega) (by omega)
      have h2 := learn1_zeros (rs := rs) (s := learnTo rs s k) k ((learnTo_len k).trans hl) (hr k (by omega)).2.2.2
      rw [learnTo]
      rcases h2 with h2 | h2
      · rw [h2]; exact h1
      · omega

/-- a round that leaves the facts: nothing more follows -/
theorem fix_known {rs : List Rl} {s : LSt} (hl : s.known.length = 12) (hr : rulesOk rs) (he : s.known = (learnTo rs s rs.length).known) : ∀ k, k ≤ rs.length → (learnTo rs s k).known = s.known := by
  intro k hk
  rcases learnTo_zeros hl hr k hk with h | h
  · exact h
  · have h2 := count_mono (rs := rs) (s := s) hl hr hk (Nat.le_refl _)
    rw [← he] at h2
    omega
theorem clash_mono {rs : List Rl} {s : LSt} {j k : Nat} (hjk : j ≤ k) (h : 0 ≤ (learnTo rs s j).clash) : 0 ≤ (learnTo rs s k).clash := by
  induction k with
  | zero => obtain rfl : j = 0 := by omega
            exact h
  | succ k ih =>
    by_cases e : j = k + 1
    · subst e; exact h
    · have h1 := ih (by omega)
      rw [learnTo]
      unfold learn1
      split
      · split
        · split
          · show (0 : Int) ≤ (k : Int); omega
          · exact h1
        · split
          · exact h1
          · exact h1
      · exact h1

theorem fix_closed {rs : List Rl} {S : Nat → Prop} {s : LSt} (h : DInv rs S s) (hr : rulesOk rs) (he : s.known = (learnTo rs s rs.length).known) {r : Rl} (hm : r ∈ rs) (hall : ∀ x ∈ r.1, nth s.known x.toNat ≠ 0) :
    (r.2 < 0 → 0 ≤ (learnTo rs s rs.length).clash) ∧ (0 ≤ r.2 → nth s.known r.2.toNat ≠ 0) := by
  obtain ⟨i, hi, rfl⟩ := mem_nthR hm
  have k0 := fix_known h.len hr he i (by omega)
  have k1 := fix_known h.len hr he (i + 1) (by omega)
  have hl1 : learnTo rs s (i + 1) = learn1 rs (learnTo rs s i) i := rfl
  have hh : hasM (learnTo rs s i).known (nthR rs i).1 = true := by rw [k0]; exact hasM_iff.2 hall
  unfold learn1 at hl1
  rw [if_pos hh] at hl1
  constructor
  · intro h0
    rw [if_pos h0] at hl1
    refine clash_mono (j := i + 1) (by omega) ?_
    rw [hl1]
    split
    · show (0 : Int) ≤ (i : Int); omega
    · rename_i hc; omega
  · intro h0 hz
    rw [if_neg (by omega), if_pos (by rw [k0]; exact hz)] at hl1
    have h2 : (learnTo rs s (i + 1)).known = (learnTo rs s i).known.set (nthR rs i).2.toNat 1 := by rw [hl1]
    rw [k0, k1] at h2
    have h3 := nth_set s.known (nthR rs i).2.toNat 1 (nthR rs i).2.toNat
    rw [← h2, if_pos ⟨rfl, by rw [h.len]; have := (hr i hi).2.2.2; omega⟩] at h3
    omega

/-- what a desk knows in the end -/
structure DEnd (rs : List Rl) (S : Nat → Prop) (s : LSt) : Prop extends DInv rs S s where
  full : ∀ n, nth s.known n ≠ 0 ↔ Der rs S n
  cl : 0 ≤ s.clash ↔ Clsh rs S

theorem runL_end {rs : List Rl} {S : Nat → Prop} (hr : rulesOk rs) : ∀ (n : Nat) (s : LSt), DInv rs S s → s.known.count 0 < n → DEnd rs S (runL rs s n)
  | 0, s, _, h => by omega
  | n + 1, s, h, hn => by
    rw [runL]
    by_cases he : s.known = (learnTo rs s rs.length).known
    · rw [if_pos he]
      have h2 := h.learnTo hr rs.length (Nat.le_refl _)
      have hcl := fun r hm hall => fix_closed (r := r) h hr he hm hall
      have hfull : ∀ n, nth (learnTo rs s rs.length).known n ≠ 0 ↔ Der rs S n := by
        intro n
        refine ⟨h2.sound n, fun hd => ?_⟩
        rw [← he]
        exact hd.least (T := fun n => nth s.known n ≠ 0) h.seen (fun r h1 h3 h4 => (hcl r h1 h4).2 h3)
      refine { h2 with full := hfull, cl := ⟨fun hc => ?_, ?_⟩ }
      · obtain ⟨c1, c2, c3⟩ := h2.clash hc
        exact ⟨_, nthR_mem c1, c2, fun x hx => (hfull _).1 (c3 x hx)⟩
      · rintro ⟨r, hm, h0, hx⟩
        exact (hcl r hm (fun x hx' => by rw [he]; exact (hfull _).2 (hx x hx'))).1 h0
    · rw [if_neg he]
      refine runL_end hr n _ (h.learnTo hr rs.length (Nat.le_refl _)) ?_
      rcases learnTo_zeros h.len hr rs.length (Nat.le_refl _) with e | e
      · exact absurd e.symm he
      · omega

/-- facts of a list -/
def SeenP (l : List Int) : Nat → Prop := fun n => (n : Int) ∈ l
theorem markL_iff {l : List Int} (h : factsOk l) (n : Nat) : nth (markL l) n ≠ 0 ↔ SeenP l n := by
  by_cases hn : n < 12
  · unfold markL
    rw [markTo_nth l hn, bitsTo_test]
    have : ((List.range l.length).any fun i => (nth l i).toNat == n) = true ↔ SeenP l n := by
      rw [List.any_eq_true]
      unfold SeenP
      rw [nth_mem_iff]
      constructor
      · rintro ⟨i, hi, he⟩
        have hi' := List.mem_range.1 hi
        refine ⟨i, hi', ?_⟩
        have := h i hi'
        have he' : (nth l i).toNat = n := by simpa using he
        omega
      · rintro ⟨i, hi, he⟩
        exact ⟨i, List.mem_range.2 hi, by rw [he]; simp⟩
    rw [← this]
    cases ((List.range l.length).any fun i => (nth l i).toNat == n) <;> simp
  · constructor
    · intro h2; exact absurd (nth_of_ge (by rw [markL_length]; omega)) h2
    · intro h2
      have := factsOk_mem h h2
      omega

theorem deskOf_end {seen : List Int} {rs : List Rl} (hs : factsOk seen) (hr : rulesOk rs) : DEnd rs (SeenP seen) (deskOf seen rs) := by
  refine runL_end hr 13 _ ⟨markL_length _, markL_ok _, fun n h => .seen ((markL_iff hs n).1 h), fun n h => (markL_iff hs n).2 h, fun h => absurd h (by show ¬ (0:Int) ≤ -1; decide), by show (-1:Int) ≤ -1; decide, fun n => ?_, OrdOk.nil _ _⟩ ?_
  · rw [markL_iff hs]; simp
  · have := List.count_le_length (a := (0 : Int)) (l := markL seen)
    rw [markL_length] at this
    show (markL seen).count 0 < 13
    omega

end Go.Proofs.Ytkioejdddmnbmaa
