/- Equations over bits, solved by pivots. Plain. The equations of a row, and what their pivots say of its places. Plain. -/
import Derived.Test.YtjnijhnphhpilaaOp
import Derived.Test.YtjnijhnphhpilaaTm
namespace Go.Proofs.Ytjnijhnphhpilaa
open Go.RowKit

theorem xsum_pick {f : Nat → Bool} {n j : Nat} (hj : j < n) : xsum n f = (f j ^^ xsum n (fun i => decide (i ≠ j) && f i)) := by
  have h : f = fun i => (decide (i = j) && f i) ^^ (decide (i ≠ j) && f i) := by
    funext i; by_cases e : i = j <;> simp [e]
  have h1 : xsum n f = xsum n (fun i => (decide (i = j) && f i) ^^ (decide (i ≠ j) && f i)) := by rw [← h]
  rw [h1, xsum_xor, xsum_one (f := fun i => decide (i = j) && f i) hj (fun i _ hne => by simp [hne])]
  simp

def en (E : List Nat) (i : Nat) : Nat := E.getD i 0
/-- one number of an equation -/
def eb (E : List Nat) (i c : Nat) : Bool := (en E i).testBit c

theorem en_set (E : List Nat) (k v j : Nat) : en (E.set k v) j = if k = j ∧ j < E.length then v else en E j := by
  unfold en
  rw [List.getD_eq_getElem?_getD, List.getD_eq_getElem?_getD, List.getElem?_set]
  by_cases h : k = j
  · subst h
    by_cases h2 : k < E.length
    · simp [h2]
    · simp [h2]
  · simp [h]

/-- numbers that meet all equations -/
def Sat (P : Nat) (E : List Nat) (x : Nat → Bool) : Prop := ∀ i, i < E.length → xsum P (fun c => eb E i c && x c) = eb E i 40
/-- no equation is the sum of others -/
def Indep (P : Nat) (E : List Nat) : Prop := ∀ y : Nat → Bool, (∀ c, c < P → xsum E.length (fun i => y i && eb E i c) = false) → ∀ i, i < E.length → y i = false

/-- two lists of equations that say the same -/
structure Eqv (P : Nat) (E F : List Nat) : Prop where
  len : F.length = E.length
  sat : ∀ x, Sat P E x ↔ Sat P F x
  ind : Indep P E → Indep P F

theorem Eqv.refl (P : Nat) (E : List Nat) : Eqv P E E := ⟨rfl, fun _ => Iff.rfl, fun h => h⟩
theorem Eqv.trans {P : Nat} {E F G : List Nat} (h : Eqv P E F) (k : Eqv P F G) : Eqv P E G := ⟨k.len.trans h.len, fun x => (h.sat x).trans (k.sat x), fun i => k.ind (h.ind i)⟩

theorem xsum_exch {f : Nat → Bool} {n a b : Nat} (ha : a < n) (hb : b < n) : xsum n (fun i => f (if i = a then b else if i = b then a else i)) = xsum n f := by
  by_cases hab : a = b
  · subst hab; exact xsum_congr (fun i _ => by by_cases e : i = a <;> simp [e])
  · rw [xsum_pick (f := fun i => f (if i = a then b else if i = b then a else i)) ha, xsum_pick (f := fun i => decide (i ≠ a) && f (if i = a then b else if i = b then a else i)) hb]
    rw [xsum_pick (f := f) ha, xsum_pick (f := fun i => decide (i ≠ a) && f i) hb]
    have e : xsum n (fun i => decide (i ≠ b) && (decide (i ≠ a) && f (if i = a then b else if i = b then a else i))) = xsum n (fun i => decide (i ≠ b) && (decide (i ≠ a) && f i)) := xsum_congr (fun i _ => by
      by_cases e1 : i = a
      · simp [e1]
      · by_cases e2 : i = b
        · simp [e2]
        · simp [e1, e2])
    rw [e]
    have hba : b ≠ a := fun h => hab h.symm
    simp only [if_pos, ne_eq, hba, not_false_eq_true, decide_true, Bool.true_and, if_neg]
    cases f a <;> cases f b <;> simp

/-- two equations change places -/
theorem Eqv.exch {P : Nat} {E : List Nat} {n a : Nat} (hn : n < E.length) (ha : a < E.length) : Eqv P E ((E.set n (en E a)).set a (en E n)) := by
  have hen : ∀ i, i < E.length → en ((E.set n (en E a)).set a (en E n)) i = en E (if i = n then a else if i = a then n else i) := by
    intro i hi
    rw [en_set, List.length_set]
    by_cases e1 : a = i
    · subst e1
      rw [if_pos ⟨rfl, hi⟩]
      by_cases e2 : a = n
      · rw [if_pos e2, e2]
      · rw [if_neg e2, if_pos rfl]
    · rw [if_neg (fun h => e1 h.1), en_set]
      by_cases e2 : n = i
      · subst e2; rw [if_pos ⟨rfl, hi⟩, if_pos rfl]
      · rw [if_neg (fun h => e2 h.1), if_neg (fun h => e2 h.symm), if_neg (fun h => e1 h.symm)]
  have heb : ∀ i, i < E.length → ∀ c, eb ((E.set n (en E a)).set a (en E n)) i c = eb E (if i = n then a else if i = a then n else i) c := fun i hi c => by unfold eb; rw [hen i hi]
  have hlt : ∀ i, i < E.length → (if i = n then a else if i = a then n else i) < E.length := by
    intro i hi
    split
    · exact ha
    · split <;> assumption
  have hl : ((E.set n (en E a)).set a (en E n)).length = E.length := by rw [List.length_set, List.length_set]
  refine ⟨hl, fun x => ⟨fun h i hi => ?_, fun h i hi => ?_⟩, fun h y hy i hi => ?_⟩
  · rw [hl] at hi
    rw [heb i hi, xsum_congr (fun c _ => by rw [heb i hi c])]
    exact h _ (hlt i hi)
  · have h2 := h (if i = n then a else if i = a then n else i) (by rw [hl]; exact hlt i hi)
    rw [heb _ (hlt i hi), xsum_congr (fun c _ => by rw [heb _ (hlt i hi) c])] at h2
    have e : (if (if i = n then a else if i = a then n else i) = n then a else if (if i = n then a else if i = a then n else i) = a then n else (if i = n then a else if i = a then n else i)) = i := by
      by_cases e1 : i = n
      · subst e1
        rw [if_pos rfl]
        by_cases e3 : a = i
        · rw [if_pos e3, e3]
        · rw [if_neg e3, if_pos rfl]
      · by_cases e2 : i = a
        · subst e2; rw [if_neg e1, if_pos rfl, if_pos rfl]
        · rw [if_neg e1, if_neg e2, if_neg e1, if_neg e2]
    rw [e] at h2
    exact h2
  · rw [hl] at hi hy
    have h2 := h (fun j => y (if j = n then a else if j = a then n else j)) (fun c hc => by
      rw [← hy c hc, ← xsum_exch (f := fun i => y i && eb ((E.set n (en E a)).set a (en E n)) i c) hn ha]
      exact xsum_congr (fun j hj => by
        rw [heb _ (hlt j hj)]
        have e : (if (if j = n then a else if j = a then n else j) = n then a else if (if j = n then a else if j = a then n else j) = a then n else (if j = n then a else if j = a then n else j)) = j := by
          by_cases e1 : j = n
          · subst e1
            rw [if_pos rfl]
            by_cases e3 : a = j
            · rw [if_pos e3, e3]
            · rw [if_neg e3, if_pos rfl]
          · by_cases e2 : j = a
            · subst e2; rw [if_neg e1, if_pos rfl, if_pos rfl]
            · rw [if_neg e1, if_neg e2, if_neg e1, if_neg e2]
        rw [e])) (if i = n then a else if i = a then n else i) (hlt i hi)
    have e : (if (if i = n then a else if i = a then n else i) = n then a else if (if i = n then a else if i = a then n else i) = a then n else (if i = n then a else if i = a then n else i)) = i := by
      by_cases e1 : i = n
      · subst e1
        rw [if_pos rfl]
        by_cases e3 : a = i
        · rw [if_pos e3, e3]
        · rw [if_neg e3, if_pos rfl]
      · by_cases e2 : i = a
        · subst e2; rw [if_neg e1, if_pos rfl, if_pos rfl]
        · rw [if_neg e1, if_neg e2, if_neg e1, if_neg e2]
    simp only [e] at h2
    exact h2

theorem Eqv.exch_en {E : List Nat} {n a : Nat} {i : Nat} (hi : i < E.length) : en ((E.set n (en E a)).set a (en E n)) i = en E (if i = n then a else if i = a then n else i) := by
  rw [en_set, List.length_set]
  by_cases e1 : a = i
  · subst e1
    rw [if_pos ⟨rfl, hi⟩]
    by_cases e2 : a = n
    · rw [if_pos e2, e2]
    · rw [if_neg e2, if_pos rfl]
  · rw [if_neg (fun h => e1 h.1), en_set]
    by_cases e2 : n = i
    · subst e2; rw [if_pos ⟨rfl, hi⟩, if_pos rfl]
    · rw [if_neg (fun h => e2 h.1), if_neg (fun h => e2 h.symm), if_neg (fun h => e1 h.symm)]

theorem eb_xor (E : List Nat) {j : Nat} (hj : j < E.length) (m i c : Nat) : eb (E.set j (en E j ^^^ en E m)) i c = if i = j then (eb E j c ^^ eb E m c) else eb E i c := by
  unfold eb
  rw [en_set]
  by_cases e : i = j
  · subst e; rw [if_pos ⟨rfl, hj⟩, if_pos rfl, Nat.testBit_xor]
  · rw [if_neg (fun h => e h.1.symm), if_neg e]

/-- one equation is added to another -/
theorem Eqv.add {P : Nat} {E : List Nat} {j m : Nat} (hj : j < E.length) (hm : m < E.length) (hne : j ≠ m) : Eqv P E (E.set j (en E j ^^^ en E m)) := by
  have hl : (E.set j (en E j ^^^ en E m)).length = E.length := List.length_set ..
  have hrow : ∀ (i : Nat) (x : Nat → Bool), xsum P (fun c => eb (E.set j (en E j ^^^ en E m)) i c && x c) = if i = j then (xsum P (fun c => eb E j c && x c) ^^ xsum P (fun c => eb E m c && x c)) else xsum P (fun c => eb E i c && x c) := by
    intro i x
    by_cases e : i = j
    · rw [if_pos e, ← xsum_xor]
      exact xsum_congr (fun c _ => by rw [eb_xor E hj, if_pos e]; cases eb E j c <;> cases eb E m c <;> cases x c <;> rfl)
    · rw [if_neg e]
      exact xsum_congr (fun c _ => by rw [eb_xor E hj, if_neg e])
  refine ⟨hl, fun x => ⟨fun h i hi => ?_, fun h i hi => ?_⟩, fun h y hy i hi => ?_⟩
  · rw [hl] at hi
    rw [hrow, eb_xor E hj]
    by_cases e : i = j
    · rw [if_pos e, if_pos e, h j hj, h m hm]
    · rw [if_neg e, if_neg e, h i hi]
  · have h2 := h i (by rw [hl]; exact hi)
    rw [hrow, eb_xor E hj] at h2
    by_cases e : i = j
    · subst e
      rw [if_pos rfl, if_pos rfl] at h2
      have h3 := h m (by rw [hl]; exact hm)
      rw [hrow, eb_xor E hj, if_neg (fun k => hne k.symm), if_neg (fun k => hne k.symm)] at h3
      rw [h3] at h2
      revert h2
      cases xsum P (fun c => eb E i c && x c) <;> cases eb E i 40 <;> cases eb E m 40 <;> simp
    · rw [if_neg e, if_neg e] at h2
      exact h2
  · rw [hl] at hi hy
    have h2 := h (fun i => if i = m then (y m ^^ y j) else y i) (fun c hc => by
      rw [← hy c hc, xsum_pick (f := fun i => (if i = m then (y m ^^ y j) else y i) && eb E i c) hm, xsum_pick (f := fun i => y i && eb (E.set j (en E j ^^^ en E m)) i c) hm]
      rw [xsum_pick (f := fun i => decide (i ≠ m) && ((if i = m then (y m ^^ y j) else y i) && eb E i c)) hj, xsum_pick (f := fun i => decide (i ≠ m) && (y i && eb (E.set j (en E j ^^^ en E m)) i c)) hj]
      have e : xsum E.length (fun i => decide (i ≠ j) && (decide (i ≠ m) && ((if i = m then (y m ^^ y j) else y i) && eb E i c))) = xsum E.length (fun i => decide (i ≠ j) && (decide (i ≠ m) && (y i && eb (E.set j (en E j ^^^ en E m)) i c))) := xsum_congr (fun i _ => by
        by_cases e1 : i = j
        · simp [e1]
        · by_cases e2 : i = m
          · simp [e2]
          · rw [eb_xor E hj, if_neg e1, if_neg e2])
      have hne' : ¬ m = j := fun k => hne k.symm
      rw [e, eb_xor E hj, eb_xor E hj]
      simp only [hne, hne', if_true, if_false, ne_eq, not_false_eq_true, decide_true, Bool.true_and]
      cases y m <;> cases y j <;> cases eb E m c <;> cases eb E j c <;> simp)
    have hy0 : ∀ i, i < E.length → i ≠ m → y i = false := fun i hi e => by have := h2 i hi; simpa [e] using this
    by_cases e : i = m
    · subst e
      have := h2 i hm
      simp only [if_pos] at this
      rw [hy0 j hj hne] at this
      simpa using this
    · exact hy0 i hi e

/-- the list when the first k columns are done, with n pivots -/
structure Ech (E : List Nat) (k n : Nat) (pv : Nat → Nat) : Prop where
  nle : n ≤ E.length
  nk : n ≤ k
  lt : ∀ i, i < n → pv i < k
  mono : ∀ i j, i < j → j < n → pv i < pv j
  one : ∀ i, i < n → eb E i (pv i) = true
  zero : ∀ i, i < n → ∀ j, j < E.length → j ≠ i → eb E j (pv i) = false
  head : ∀ i, i < n → ∀ c, c < pv i → eb E i c = false
  low : ∀ i, n ≤ i → i < E.length → ∀ c, c < k → eb E i c = false

theorem Ech.start (E : List Nat) (pv : Nat → Nat) : Ech E 0 0 pv :=
  ⟨Nat.zero_le _, Nat.le_refl _, fun _ h => absurd h (by omega), fun _ _ _ h => absurd h (by omega), fun _ h => absurd h (by omega), fun _ h => absurd h (by omega), fun _ h => absurd h (by omega), fun _ _ _ _ h => absurd h (by omega)⟩

theorem Ech.skip {E : List Nat} {k n : Nat} {pv : Nat → Nat} (h : Ech E k n pv) (hz : ∀ i, n ≤ i → i < E.length → eb E i k = false) : Ech E (k + 1) n pv :=
  ⟨h.nle, by have := h.nk; omega, fun i hi => by have := h.lt i hi; omega, h.mono, h.one, h.zero, h.head, fun i h1 h2 c hc => by
    by_cases e : c = k
    · subst e; exact hz i h1 h2
    · exact h.low i h1 h2 c (by omega)⟩

theorem Ech.next {E F : List Nat} {k n a : Nat} {pv : Nat → Nat} (h : Ech E k n pv) (hn : n ≤ a) (ha : a < E.length) (hone : eb E a k = true) (hl : F.length = E.length)
    (hF : ∀ i, i < E.length → ∀ c, eb F i c = (let s := if i = n then a else if i = a then n else i; if i ≠ n ∧ eb E s k = true then (eb E s c ^^ eb E a c) else eb E s c)) :
    Ech F (k + 1) (n + 1) (fun i => if i = n then k else pv i) := by
  have hpn : ∀ i, i < n → eb E a (pv i) = false := fun i hi => h.zero i hi a ha (by omega)
  have han : ∀ c, c < k → eb E a c = false := fun c hc => h.low a hn ha c hc
  have hnn : ∀ c, eb F n c = eb E a c := fun c => by rw [hF n (by omega) c]; simp
  refine ⟨by rw [hl]; omega, by have := h.nk; omega, fun i hi => ?_, fun i j hij hj => ?_, fun i hi => ?_, fun i hi j hj hne => ?_, fun i hi c hc => ?_, fun i h1 h2 c hc => ?_⟩
  · by_cases e : i = n
    · simp only [if_pos e]; omega
    · simp only [if_neg e]; have := h.lt i (by omega); omega
  · by_cases e : j = n
    · simp only [if_pos e, if_neg (show i ≠ n by omega)]; exact h.lt i (by omega)
    · simp only [if_neg e, if_neg (show i ≠ n by omega)]; exact h.mono i j hij (by omega)
  · by_cases e : i = n
    · subst e; simp only [if_pos]; rw [hnn]; exact hone
    · have hin : i < n := by omega
      simp only [if_neg e]
      rw [hF i (by omega)]
      simp only [if_neg e, if_neg (show i ≠ a by omega)]
      split
      · rw [h.one i hin, hpn i hin]; rfl
      · exact h.one i hin
  · rw [hl] at hj
    by_cases e : i = n
    · subst e
      simp only [if_pos]
      rw [hF j hj]
      simp only [if_neg hne]
      generalize (if j = a then i else j) = s
      split
      · rename_i hb; rw [hb.2, hone]; rfl
      · rename_i hb
        cases hx : eb E s k with
        | false => rfl
        | true => exact absurd ⟨hne, hx⟩ hb
    · have hin : i < n := by omega
      simp only [if_neg e]
      rw [hF j hj]
      have hs : ∀ s, s = (if j = n then a else if j = a then n else j) → eb E s (pv i) = false := fun s hs => h.zero i hin s (by rw [hs]; split; exact ha; split; omega; exact hj) (by rw [hs]; split; omega; split <;> omega)
      simp only
      rw [hs _ rfl, hpn i hin]
      simp
  · by_cases e : i = n
    · subst e; simp only [if_pos] at hc; rw [hnn]; exact han c hc
    · have hin : i < n := by omega
      simp only [if_neg e] at hc
      rw [hF i (by omega)]
      simp only [if_neg e, if_neg (show i ≠ a by omega)]
      have := h.lt i hin
      rw [h.head i hin c hc, han c (by omega)]
      simp
  · rw [hl] at h2
    rw [hF i h2]
    simp only [if_neg (show i ≠ n by omega)]
    by_cases e : c = k
    · subst e
      generalize (if i = a then n else i) = s
      split
      · rename_i hb; rw [hb.2, hone]; rfl
      · rename_i hb
        cases hx : eb E s c with
        | false => rfl
        | true => exact absurd ⟨by omega, hx⟩ hb
    · have hs : eb E (if i = a then n else i) c = false := h.low _ (by split <;> omega) (by split <;> omega) c (by omega)
      rw [hs, han c (by omega)]
      simp

/-- the numbers that the solved list tells: the own number of each pivot, 0 elsewhere -/
def tell (E : List Nat) (n : Nat) (pv : Nat → Nat) (c : Nat) : Bool := (List.range n).any (fun i => pv i == c && eb E i 40)

section
variable {E : List Nat} {P n : Nat} {pv : Nat → Nat}

theorem Ech.inj (h : Ech E P n pv) {i j : Nat} (hi : i < n) (hj : j < n) (e : pv i = pv j) : i = j := by
  by_cases h1 : i < j
  · have := h.mono i j h1 hj; omega
  · by_cases h2 : j < i
    · have := h.mono j i h2 hi; omega
    · omega

theorem Ech.tell_pv (h : Ech E P n pv) {i : Nat} (hi : i < n) : tell E n pv (pv i) = eb E i 40 := by
  cases hb : eb E i 40 with
  | true => exact List.any_eq_true.2 ⟨i, List.mem_range.2 hi, by simp [hb]⟩
  | false =>
    refine List.any_eq_false.2 (fun j hj => ?_)
    have hj' := List.mem_range.1 hj
    by_cases e : pv j = pv i
    · have := h.inj hj' hi e; subst this; simp [hb]
    · simp [e]

theorem tell_other {c : Nat} (hc : ∀ i, i < n → pv i ≠ c) : tell E n pv c = false :=
  List.any_eq_false.2 (fun j hj => by simp [hc j (List.mem_range.1 hj)])

/-- a row of a pivot meets but its own column among the pivots -/
theorem Ech.row (h : Ech E P n pv) {i : Nat} (hi : i < n) {x : Nat → Bool} (hx : ∀ c, c < P → (∀ j, j < n → pv j ≠ c) → x c = false) : xsum P (fun c => eb E i c && x c) = x (pv i) := by
  rw [xsum_one (k := pv i) (h.lt i hi) (fun c hc hne => by
    by_cases e : ∃ j, j < n ∧ pv j = c
    · obtain ⟨j, hj, rfl⟩ := e
      have hij : i ≠ j := fun e => hne (by rw [e])
      rw [h.zero j hj i (by have := h.nle; omega) hij]; rfl
    · rw [hx c hc (fun j hj e2 => e ⟨j, hj, e2⟩)]; simp)]
  rw [h.one i hi]; rfl

theorem Ech.good (h : Ech E P n pv) (hg : ∀ i, n ≤ i → i < E.length → eb E i 40 = false) : Sat P E (tell E n pv) := by
  intro i hi
  by_cases e : i < n
  · rw [h.row e (fun c _ hc => tell_other hc), h.tell_pv e]
  · rw [hg i (by omega) hi]
    exact xsum_zero (fun c hc => by rw [h.low i (by omega) hi c hc]; rfl)

theorem Ech.bad (h : Ech E P n pv) {x : Nat → Bool} (hs : Sat P E x) : ∀ i, n ≤ i → i < E.length → eb E i 40 = false := by
  intro i h1 h2
  rw [← hs i h2]
  exact xsum_zero (fun c hc => by rw [h.low i h1 h2 c hc]; rfl)

/-- where the numbers that meet the equations are the only ones each column has its pivot -/
theorem Ech.full (h : Ech E P n pv) (hs : ∃ x, Sat P E x) (hu : ∀ x y, Sat P E x → Sat P E y → ∀ c, c < P → x c = y c) : n = P := by
  have hnP := h.nk
  by_cases e : n = P
  · exact e
  exfalso
  have hex : ∃ c, c < P ∧ ∀ i, i < n → pv i ≠ c := Classical.byContradiction fun hno => by
    have hle : P ≤ ((List.range n).map pv).length := le_of_all (fun c hc => Classical.byContradiction fun hm => hno ⟨c, hc, fun i hi e => hm (List.mem_map.2 ⟨i, List.mem_range.2 hi, e⟩)⟩)
    simp at hle
    omega
  obtain ⟨c0, hc0, hc⟩ := hex
  obtain ⟨x, hx⟩ := hs
  -- a column without a pivot may be turned
  have hz : Sat P E (fun c => x c ^^ (decide (c = c0) || (List.range n).any (fun i => pv i == c && eb E i c0))) := by
    intro i hi
    have e1 : (fun c => eb E i c && (x c ^^ (decide (c = c0) || (List.range n).any (fun i => pv i == c && eb E i c0)))) = (fun c => (eb E i c && x c) ^^ (eb E i c && (decide (c = c0) || (List.range n).any (fun i => pv i == c && eb E i c0)))) := by
      funext c; cases eb E i c <;> simp
    rw [e1, xsum_xor, hx i hi]
    have e2 : xsum P (fun c => eb E i c && (decide (c = c0) || (List.range n).any (fun i => pv i == c && eb E i c0))) = false := by
      by_cases hin : i < n
      · rw [xsum_pick hc0]
        have e3 : (eb E i c0 && (decide (c0 = c0) || (List.range n).any (fun i => pv i == c0 && eb E i c0))) = eb E i c0 := by simp
        rw [e3, xsum_one (k := pv i) (h.lt i hin) (fun c hcP hne => by
          by_cases ec : c = c0
          · simp [ec]
          · by_cases ej : ∃ j, j < n ∧ pv j = c
            · obtain ⟨j, hj, rfl⟩ := ej
              have hij : i ≠ j := fun e => hne (by rw [e])
              rw [h.zero j hj i hi hij]; simp
            · have : (List.range n).any (fun i => pv i == c && eb E i c0) = false := List.any_eq_false.2 (fun j hj => by
                have h0 : ¬ pv j = c := fun e2 => ej ⟨j, List.mem_range.1 hj, e2⟩
                simp [h0])
              rw [this]; simp [ec])]
        have hne : pv i ≠ c0 := hc i hin
        rw [h.one i hin]
        have e4 : (List.range n).any (fun j => pv j == pv i && eb E j c0) = eb E i c0 := by
          cases hb : eb E i c0 with
          | true => exact List.any_eq_true.2 ⟨i, List.mem_range.2 hin, by simp [hb]⟩
          | false =>
            refine List.any_eq_false.2 (fun j hj => ?_)
            by_cases e : pv j = pv i
            · have := h.inj (List.mem_range.1 hj) hin e; subst this; simp [hb]
            · simp [e]
        rw [e4]
        simp [hne]
      · exact xsum_zero (fun c hcP => by rw [h.low i (by omega) hi c hcP]; rfl)
    rw [e2]; simp
  have := hu _ _ hx hz c0 hc0
  simp at this

/-- where no equation is the sum of others each has its pivot -/
theorem Ech.all (h : Ech E P n pv) (hi : Indep P E) : n = E.length := by
  have hnl := h.nle
  by_cases e : n = E.length
  · exact e
  exfalso
  have := hi (fun i => decide (i = n)) (fun c hc => by
    rw [xsum_one (k := n) (by omega) (fun i _ hne => by simp [hne])]
    simp [h.low n (Nat.le_refl _) (by omega) c hc]) n (by omega)
  simp at this
end

end Go.Proofs.Ytjnijhnphhpilaa

namespace Go.Proofs.Ytjnijhnphhpilaa
open Go.RowKit

/-- one bit at a place -/
def pb (b : Bool) (m : Nat) : Nat := if b then 2 ^ m else 0
theorem pb_test (b : Bool) (m c : Nat) : (pb b m).testBit c = (b && decide (m = c)) := by
  cases b <;> simp [pb, Nat.testBit_two_pow]
theorem pb_lt (b : Bool) {m k : Nat} (h : m < k) : pb b m < 2 ^ k := by
  have : 2 ^ m < 2 ^ k := Nat.pow_lt_pow_right (by omega) h
  have := Nat.two_pow_pos k
  unfold pb; split <;> omega

/-- the bits of the equation of play t, its first k numbers laid -/
def qb (xs : List Int) (t : Nat) : Nat → Nat
  | 0 => pb (bt xs t) 40
  | k + 1 => qb xs t k ||| pb (bt xs (t - k - 1)) k

theorem qb_lt (xs : List Int) (t : Nat) : ∀ k, k ≤ 40 → qb xs t k < 2 ^ 41
  | 0, _ => pb_lt _ (by omega)
  | k + 1, h => Nat.or_lt_two_pow (qb_lt xs t k (by omega)) (pb_lt _ (by omega))

theorem qb_test (xs : List Int) (t : Nat) : ∀ k, k ≤ 40 → ∀ c, (qb xs t k).testBit c = if c < k then bt xs (t - c - 1) else decide (c = 40) && bt xs t
  | 0, _, c => by
    rw [qb, pb_test, if_neg (by omega), Bool.and_comm]
    congr 1
    exact decide_eq_decide.2 ⟨fun h => h.symm, fun h => h.symm⟩
  | k + 1, h, c => by
    rw [qb, Nat.testBit_or, qb_test xs t k (by omega), pb_test]
    by_cases e : k = c
    · subst e
      rw [if_neg (by omega), if_pos (by omega), show decide (k = 40) = false from decide_eq_false (by omega)]; simp
    · rw [show decide (k = c) = false from decide_eq_false e]
      by_cases h2 : c < k
      · rw [if_pos h2, if_pos (by omega)]; simp
      · rw [if_neg h2, if_neg (by omega)]; simp

def eqs (xs : List Int) (P : Nat) : List Nat := (List.range (xs.length - P)).map fun i => qb xs (P + i) P
theorem eqs_length (xs : List Int) (P : Nat) : (eqs xs P).length = xs.length - P := by simp [eqs]
theorem eqs_en (xs : List Int) (P : Nat) {i : Nat} (h : i < xs.length - P) : en (eqs xs P) i = qb xs (P + i) P := by
  unfold en eqs
  rw [List.getD_eq_getElem?_getD]
  simp [h]
theorem eqs_eb (xs : List Int) {P : Nat} (hP : P ≤ 40) {i : Nat} (h : i < xs.length - P) (c : Nat) : eb (eqs xs P) i c = if c < P then bt xs (P + i - c - 1) else decide (c = 40) && bt xs (P + i) := by
  unfold eb
  rw [eqs_en xs P h, qb_test xs _ P hP]

/-- numbers as a feed -/
def cx (x : Nat → Bool) : Nat → Bool
  | 0 => true
  | c + 1 => x c

theorem sat_fed {xs : List Int} {P : Nat} (hP : P ≤ 40) (x : Nat → Bool) : Sat P (eqs xs P) x ↔ Fed (cx x) P xs.length (bt xs) := by
  have key : ∀ i, i < xs.length - P → ((xsum P (fun c => eb (eqs xs P) i c && x c) = eb (eqs xs P) i 40) ↔ xsum (P + 1) (fun k => cx x k && bt xs (P + i - k)) = false) := by
    intro i hi
    rw [gen_head rfl, eqs_eb xs hP hi 40, if_neg (by omega)]
    have e : xsum P (fun c => eb (eqs xs P) i c && x c) = xsum P (fun k => cx x (k + 1) && bt xs (P + i - 1 - k)) := xsum_congr (fun c hc => by
      rw [eqs_eb xs hP hi c, if_pos hc, show P + i - c - 1 = P + i - 1 - c from by omega, Bool.and_comm]; rfl)
    rw [e]
    simp only [decide_true, Bool.true_and]
    exact ⟨fun h => h.symm, fun h => h.symm⟩
  constructor
  · intro h
    refine ⟨rfl, fun t h1 h2 => ?_⟩
    have := (key (t - P) (by omega)).1 (h (t - P) (by rw [eqs_length]; omega))
    rw [show P + (t - P) = t from by omega] at this
    exact this
  · intro h i hi
    rw [eqs_length] at hi
    exact (key i hi).2 (h.2 (P + i) (by omega) (by omega))

/-- what the reference's solver hands back -/
structure Solved (xs : List Int) (P : Nat) (E : List Nat) (n : Nat) (pv : Nat → Nat) : Prop where
  eqv : Eqv P (eqs xs P) E
  ech : Ech E P n pv
  top : ∀ i, i < E.length → ∀ c, P ≤ c → c ≠ 40 → eb E i c = false

def goodB (E : List Nat) (n : Nat) : Bool := (List.range E.length).all (fun i => decide (i < n) || en E i == 0)

section
variable {xs : List Int} {P n : Nat} {E : List Nat} {pv : Nat → Nat}

theorem goodB_iff (h : Solved xs P E n pv) : goodB E n = true ↔ ∀ i, n ≤ i → i < E.length → eb E i 40 = false := by
  unfold goodB
  rw [List.all_eq_true]
  constructor
  · intro hg i h1 h2
    have := hg i (List.mem_range.2 h2)
    simp only [Bool.or_eq_true, decide_eq_true_eq, beq_iff_eq] at this
    rcases this with h3 | h3
    · omega
    · unfold eb; rw [h3]; simp
  · intro hg i hi
    have hi' := List.mem_range.1 hi
    by_cases h1 : i < n
    · simp [h1]
    · have h0 : en E i = 0 := Nat.eq_of_testBit_eq (fun c => by
        have : eb E i c = false := by
          by_cases hc : c < P
          · exact h.ech.low i (by omega) hi' c hc
          · by_cases h40 : c = 40
            · subst h40; exact hg i (by omega) hi'
            · exact h.top i hi' c (by omega) h40
        rw [Nat.zero_testBit]; exact this)
      simp [h0]

theorem good_fed (h : Solved xs P E n pv) (hP : P ≤ 40) : goodB E n = true ↔ ∃ x, Fed (cx x) P xs.length (bt xs) := by
  rw [goodB_iff h]
  constructor
  · intro hg
    exact ⟨tell E n pv, (sat_fed hP _).1 ((h.eqv.sat _).2 (h.ech.good hg))⟩
  · rintro ⟨x, hx⟩
    exact h.ech.bad ((h.eqv.sat x).1 ((sat_fed hP x).2 hx))

theorem good_tell (h : Solved xs P E n pv) (hP : P ≤ 40) (hg : goodB E n = true) : Fed (cx (tell E n pv)) P xs.length (bt xs) :=
  (sat_fed hP _).1 ((h.eqv.sat _).2 (h.ech.good ((goodB_iff h).1 hg)))

theorem Solved.least (h : Solved xs P E n pv) (hv : checkRow xs = 0) (hg : goodB E n = true) (hP : P ≤ 40) : pl xs ≤ P := by
  obtain ⟨x, hx⟩ := (good_fed h hP).1 hg
  exact rd_least hv hx

theorem Solved.good_pl (h : Solved xs (pl xs) E n pv) (hv : checkRow xs = 0) : goodB E n = true := by
  have hlen := (checkRow_zero hv).1
  have hp := pl_le hv
  refine (good_fed h (by omega)).2 ⟨fun c => cf (rF xs) (c + 1), ?_⟩
  have := rd_gen hv
  exact this.congr (fun k _ => by cases k <;> rfl) (fun _ _ => rfl)

/-- where a row has less than twice as many plays as places no equation is the sum of others -/
theorem eqs_indep (hv : checkRow xs = 0) (h2 : xs.length < 2 * pl xs) : Indep (pl xs) (eqs xs (pl xs)) := by
  obtain ⟨hlen, hbits⟩ := checkRow_zero hv
  have hp := pl_le hv
  intro y hy
  rw [eqs_length] at hy ⊢
  -- the last equation that is taken
  have key : ∀ m, m ≤ xs.length - pl xs → (∀ j, m ≤ j → j < xs.length - pl xs → y j = false) → ∀ j, j < xs.length - pl xs → y j = false := by
    intro m
    induction m with
    | zero => intro _ h j hj; exact h j (by omega) hj
    | succ m ih =>
      intro hm h
      refine ih (by omega) (fun j h1 h3 => ?_)
      by_cases e : j = m
      · subst e
        cases hj : y j with
        | false => rfl
        | true =>
          exfalso
          have hF : Fed (fun d => y (j - d)) j (pl xs + j) (bt xs) := by
            refine ⟨by simpa using hj, fun u u1 u2 => ?_⟩
            have hc := hy (pl xs + j - 1 - u) (by omega)
            rw [xsum_le (n := j + 1) (by omega) (fun i h5 h6 => by rw [h i (by omega) h6]; rfl), xsum_rev] at hc
            rw [← hc]
            exact xsum_congr (fun d hd => by
              rw [show j + 1 - 1 - d = j - d from by omega, eqs_eb xs (by omega) (by omega), if_pos (by omega)]
              rw [show pl xs + (j - d) - (pl xs + j - 1 - u) - 1 = u - d from by omega])
          have hvt : checkRow (xs.take (pl xs + j)) = 0 := row_valid (by rw [List.length_take]; omega) (isBits_take hbits _)
          have hlt : (xs.take (pl xs + j)).length = pl xs + j := by rw [List.length_take]; omega
          have h3' : pl (xs.take (pl xs + j)) ≤ j := rd_least hvt (C := fun d => y (j - d)) (by
            rw [hlt]
            exact hF.row (fun t ht => (bt_take ht).symm))
          have h4 := pl_jump hv (M := pl xs + j) (by omega) (by omega)
          omega
      · exact h j (by omega) h3
  exact key (xs.length - pl xs) (Nat.le_refl _) (fun j h1 h2 => by omega)

theorem Solved.rank (h : Solved xs (pl xs) E n pv) (hv : checkRow xs = 0) : pl xs - n = 2 * pl xs - xs.length := by
  have hlen := (checkRow_zero hv).1
  have hp := pl_le hv
  have hl : E.length = xs.length - pl xs := by rw [h.eqv.len, eqs_length]
  by_cases h2 : xs.length < 2 * pl xs
  · have := h.ech.all (h.eqv.ind (eqs_indep hv h2))
    omega
  · have hg := h.good_pl hv
    have := h.ech.full ⟨_, h.ech.good ((goodB_iff h).1 hg)⟩ (fun x y hx hy c hc => by
      have fx := (sat_fed (xs := xs) (P := pl xs) (by omega) x).1 ((h.eqv.sat x).2 hx)
      have fy := (sat_fed (xs := xs) (P := pl xs) (by omega) y).1 ((h.eqv.sat y).2 hy)
      exact fed_only hv (by omega) fx fy (c + 1) (by omega))
    omega

/-- the feed that the reference tells, where there is but one -/
theorem Solved.feed (h : Solved xs (pl xs) E n pv) (hv : checkRow xs = 0) (h2 : 2 * pl xs ≤ xs.length) : ∀ c, c < pl xs → tell E n pv c = bt (rF xs) c := by
  have hlen := (checkRow_zero hv).1
  have hp := pl_le hv
  have h1 := good_tell h (by omega) (h.good_pl hv)
  intro c hc
  exact fed_only hv h2 h1 (rd_gen hv) (c + 1) (by omega)

end
end Go.Proofs.Ytjnijhnphhpilaa
