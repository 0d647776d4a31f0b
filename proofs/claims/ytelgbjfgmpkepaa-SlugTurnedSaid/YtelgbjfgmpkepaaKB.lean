/- A region that draws its order: operations that read what lay, calls that lay new blocks and tell known values, some operations that make memory (told by what they make), in whatever order; behind them some operations in one forced order. The law of Mx with one more kind of operations: those that lean on what is made and yet tell a known value. Guards are borne by all. Iterators with blocks of their own: the law of ranges. Walks: levels. Helpers: numbers, boxes of two cells, lists that are copied. The law of My (mix2) for a region without a tail: all operations come in whatever order. -/
import Derived.Test.YtelgbjfgmpkepaaKA
import Derived.StillTail
import Derived.LoopIn
import Derived.ArgAppend
namespace Go.Proofs.Ytelgbjfgmpkepaa
open Go.RowKit Go.Shelf

/-- a later world of which a word holds -/
structure LaterJ (w : World) (J : World → Prop) where
  w' : World
  h : Below w.heap.size w w'
  j : J w'
/-- a word that abides new blocks -/
def Abides (J : World → Prop) : Prop := ∀ A B, J A → Below A.heap.size A B → J B

def blindO (o : Oper) : Oper := { dst := none, op := .move (.const undef), type := o.type, pos := o.pos, after := o.after, guard := none }
def blindL : List Bool → List Oper → List Oper
  | b :: bs, o :: l => (if b = true then blindO o else o) :: blindL bs l
  | _, l => l
def dstOf (l : List Oper) (i : Nat) : List Tmp := ((l[i]?).bind (·.dst)).toList
def lookOf (l : List Oper) (j : Nat) : List Tmp := match l[j]? with | some o => o.looksAt l.toArray | none => []
def waits (l : List Oper) (j i : Nat) : Prop := Region.waitsFor .any l.toArray j i = true
instance (l : List Oper) (j i : Nat) : Decidable (waits l j i) := inferInstanceAs (Decidable (_ = true))

/-- in the blinded list what an operation looks at is written ahead of it, and each slot once -/
def LexOk (l : List Oper) : Prop :=
  (∀ j, j < l.length → ∀ i, i < l.length → j ≤ i → ∀ d ∈ dstOf l i, d ∉ lookOf l j) ∧ (∀ j, j < l.length → ∀ i, i < l.length → i ≠ j → ∀ d ∈ dstOf l i, d ∉ dstOf l j)
def lexOkB (l : List Oper) : Bool := (List.range l.length).all fun j => (List.range l.length).all fun i => (dstOf l i).all fun d => (!decide (j ≤ i) || !(lookOf l j).contains d) && (decide (i = j) || !(dstOf l j).contains d)
theorem lexOk_of {l : List Oper} (h : lexOkB l = true) : LexOk l := by
  have key : ∀ j, j < l.length → ∀ i, i < l.length → ∀ d ∈ dstOf l i, (¬ j ≤ i ∨ d ∉ lookOf l j) ∧ (i = j ∨ d ∉ dstOf l j) := fun j hj i hi d hd => by
    have h1 := List.all_eq_true.1 (List.all_eq_true.1 (List.all_eq_true.1 h j (List.mem_range.2 hj)) i (List.mem_range.2 hi)) d hd
    simp only [Bool.and_eq_true, Bool.or_eq_true, Bool.not_eq_true', decide_eq_true_eq, decide_eq_false_iff_not] at h1
    refine ⟨h1.1.imp id fun h2 hc => ?_, h1.2.imp id fun h2 hc => ?_⟩
    · rw [List.contains_iff_mem.2 hc] at h2; cases h2
    · rw [List.contains_iff_mem.2 hc] at h2; cases h2
  exact ⟨fun j hj i hi hji d hd => (key j hj i hi d hd).1.resolve_left fun h => h hji, fun j hj i hi hne d hd => (key j hj i hi d hd).2.resolve_left hne⟩

section
variable {P : Program} {C : World → Prop}
theorem dst_of {l : List Oper} {i : Nat} {o : Oper} {d : Tmp} (ho : l[i]? = some o) (hd : o.dst = some d) : d ∈ dstOf l i := by simp [dstOf, ho, hd]
theorem of_dst {l : List Oper} {i : Nat} {d : Tmp} (h : d ∈ dstOf l i) : ∃ o, l[i]? = some o ∧ o.dst = some d := by
  unfold dstOf at h
  cases ho : l[i]? with
  | none => simp [ho] at h
  | some o => simp [ho] at h; exact ⟨o, rfl, h⟩

/-- what is known of an operation at the end's slots -/
def AtEnd (P : Program) (ops : Array Oper) (C : World → Prop) (G : Act) (o : Oper) : Prop :=
  if Region.wanted o (yielded ops G.tmps) = true then ∃ v, (∀ w, C w → o.quietAtIn Fence.wide 0 P G C w v) ∧ G.put o.dst v = G else G.put o.dst undef = G

theorem eval_same {o : Oper} {ops : Array Oper} {a b : Act} (h : ∀ d ∈ o.looksAt ops, a.tmps[d]? = b.tmps[d]?) : ∀ x ∈ o.op.operands, a.eval x = b.eval x := by
  intro x hx
  cases x with
  | tmp d =>
    have := h d (List.mem_append_left _ (List.mem_filterMap.2 ⟨.tmp d, by simpa using hx, rfl⟩))
    simp [Act.eval, this]
  | _ => rfl
theorem wanted_same {o : Oper} {ops ops' : Array Oper} {a b : Act} (h : ∀ d ∈ o.looksAt ops, a.tmps[d]? = b.tmps[d]?) (hg : ∀ g b, o.guard = some (g, b) → (ops[g]?).bind (·.dst) = (ops'[g]?).bind (·.dst)) :
    Region.wanted o (yielded ops a.tmps) = Region.wanted o (yielded ops' b.tmps) := by
  unfold Region.wanted
  cases hg0 : o.guard with
  | none => rfl
  | some p =>
    obtain ⟨g, want⟩ := p
    have e := hg g want hg0
    simp only
    congr 1
    unfold yielded
    rw [← e]
    cases hd : (ops[g]?).bind (·.dst) with
    | none => rfl
    | some d =>
      have := h d (by unfold Oper.looksAt; rw [hg0]; refine List.mem_append_right _ ?_; simp [hd])
      simp [this]
theorem put_same {G g : Act} {x : Option Tmp} {v : Value} (h : ∀ d, x = some d → G.tmps[d]? = (g.put x v).tmps[d]?) (hs : G.tmps.size = g.tmps.size) : G.put x v = G := by
  cases x with
  | none => rfl
  | some d =>
    have h1 := h d rfl
    obtain ⟨t, df⟩ := G
    simp only [Act.put] at h1 ⊢
    congr 1
    apply Array.ext_getElem?
    intro i
    by_cases hi : d = i
    · subst hi
      rw [h1]
      simp only [Array.getElem?_setIfInBounds_self]
      simp at hs
      rw [hs]
    · rw [Array.getElem?_setIfInBounds_ne hi]
theorem put_get {a : Act} {x : Option Tmp} {v : Value} {t : Nat} (h : x ≠ some t) : (a.put x v).tmps[t]? = a.tmps[t]? := by
  cases x with
  | none => rfl
  | some d => simp only [Act.put]; exact Array.getElem?_setIfInBounds_ne fun e => h (by rw [e])
theorem put_size {a : Act} {x : Option Tmp} {v : Value} : (a.put x v).tmps.size = a.tmps.size := by
  cases x <;> simp [Act.put]
theorem put_defers {a : Act} {x : Option Tmp} {v : Value} : (a.put x v).defers = a.defers := by
  cases x <;> rfl

theorem lex_end {G : Act} {L : List Oper} (hL : LexOk L) (hsel : ∀ (j : Nat) (o : Oper) cs b, L.toArray[j]? = some o → o.op ≠ .select cs b) : ∀ (l : List Oper) (k : Nat) (g : Act), (∀ j, l[j]? = L[k + j]?) → wpQuietIn Fence.wide 0 P L.toArray C (fun g => g = G) l g →
    (G.defers = g.defers ∧ G.tmps.size = g.tmps.size ∧ ∀ t, (∀ i, k ≤ i → t ∉ dstOf L i) → G.tmps[t]? = g.tmps[t]?) ∧ ∀ (j : Nat) (o : Oper), k ≤ j → L[j]? = some o → AtEnd P L.toArray C G o
  | [], k, g, hl, h => by
    have e : g = G := h
    subst e
    refine ⟨⟨rfl, rfl, fun _ _ => rfl⟩, fun j o hj ho => ?_⟩
    have := hl (j - k)
    rw [show k + (j - k) = j by omega, ho] at this
    cases this
  | o :: l, k, g, hl, h => by
    have h0 : L[k]? = some o := by simpa using (hl 0).symm
    have hkL : k < L.length := (List.getElem?_eq_some_iff.1 h0).1
    have hl' : ∀ j, l[j]? = L[k + 1 + j]? := fun j => by have := hl (j + 1); simpa [Nat.add_assoc, Nat.add_comm 1 j] using this
    have key : ∀ v, wpQuietIn Fence.wide 0 P L.toArray C (fun g => g = G) l (g.put o.dst v) →
        (G.defers = g.defers ∧ G.tmps.size = g.tmps.size ∧ ∀ t, (∀ i, k ≤ i → t ∉ dstOf L i) → G.tmps[t]? = g.tmps[t]?) ∧ (∀ d ∈ o.looksAt L.toArray, G.tmps[d]? = g.tmps[d]?) ∧ G.put o.dst v = G ∧
        ∀ (j : Nat) (o : Oper), k + 1 ≤ j → L[j]? = some o → AtEnd P L.toArray C G o := by
      intro v hv
      obtain ⟨⟨i1, i2, i3⟩, i4⟩ := lex_end hL hsel l (k + 1) _ hl' hv
      rw [put_defers] at i1
      rw [put_size] at i2
      refine ⟨⟨i1, i2, fun t ht => ?_⟩, fun d hd => ?_, put_same (fun d hd => i3 d fun i hi hdi => ?_) i2, i4⟩
      · rw [i3 t fun i hi => ht i (by omega), put_get fun e => ht k (Nat.le_refl _) (dst_of h0 e)]
      · have hn : ∀ i, k ≤ i → d ∉ dstOf L i := fun i hi hdi => by
          obtain ⟨oi, hoi, _⟩ := of_dst hdi
          exact hL.1 k hkL i (List.getElem?_eq_some_iff.1 hoi).1 hi d hdi (by unfold lookOf; rw [h0]; exact hd)
        rw [i3 d fun i hi => hn i (by omega), put_get fun e => hn k (Nat.le_refl _) (dst_of h0 e)]
      · obtain ⟨oi, hoi, _⟩ := of_dst hdi
        exact hL.2 k hkL i (List.getElem?_eq_some_iff.1 hoi).1 (by omega) d hdi (dst_of h0 hd)
    have hif := h.2
    by_cases hw : Region.wanted o (yielded L.toArray g.tmps) = true
    · rw [if_pos hw] at hif
      obtain ⟨v, hv, hK⟩ := hif
      obtain ⟨i1, i2, i3, i4⟩ := key v hK
      refine ⟨i1, fun j o' hj ho => ?_⟩
      by_cases e : j = k
      · subst e
        obtain rfl : o = o' := Option.some.inj (h0.symm.trans ho)
        have hw2 := wanted_same (a := G) (b := g) (ops := L.toArray) (ops' := L.toArray) i2 (fun _ _ _ => rfl)
        unfold AtEnd
        rw [hw2, if_pos hw]
        refine ⟨v, fun w hw' => ?_, i3⟩
        have := hv w hw'
        unfold Oper.quietAtIn at this ⊢
        rwa [execOp_congr o (fun cs b => hsel j o cs b (by simpa using h0)) (eval_same i2)]
      · exact i4 j o' (by omega) ho
    · rw [if_neg hw] at hif
      obtain ⟨i1, i2, i3, i4⟩ := key undef hif
      refine ⟨i1, fun j o' hj ho => ?_⟩
      by_cases e : j = k
      · subst e
        obtain rfl : o = o' := Option.some.inj (h0.symm.trans ho)
        have hw2 := wanted_same (a := G) (b := g) (ops := L.toArray) (ops' := L.toArray) i2 (fun _ _ _ => rfl)
        unfold AtEnd
        rw [hw2, if_neg hw]
        exact i3
      · exact i4 j o' (by omega) ho

theorem blind_get {bs : List Bool} : ∀ {l : List Oper} {j : Nat}, bs[j]? = some false → (blindL bs l)[j]? = l[j]? := by
  induction bs with
  | nil => intro l j h; cases h
  | cons b bs ih =>
    intro l j h
    cases l with
    | nil => rfl
    | cons o l =>
      cases j with
      | zero => simp at h; subst h; rfl
      | succ j => exact ih (by simpa using h)

theorem blind_len (bs : List Bool) : ∀ l : List Oper, (blindL bs l).length = l.length := by
  induction bs with
  | nil => intro l; cases l <;> rfl
  | cons b bs ih => intro l; cases l with
    | nil => rfl
    | cons o l => simp [blindL, ih]
theorem blind_dst {bs : List Bool} : ∀ {l : List Oper} {j : Nat} {o : Oper}, bs[j]? = some true → (blindL bs l)[j]? = some o → o.dst = none := by
  induction bs with
  | nil => intro l j o h; cases h
  | cons b bs ih =>
    intro l j o h ho
    cases l with
    | nil => cases ho
    | cons x l =>
      cases j with
      | zero =>
        simp at h; subst h
        simp only [blindL, if_true, List.getElem?_cons_zero, Option.some.injEq] at ho
        rw [← ho]; rfl
      | succ j => exact ih (by simpa using h) (by simpa [blindL] using ho)

/-- slots of what is made -/
def putN (nz : List (Nat × Tmp)) (r : Nat → Value) (G : Act) : Act := nz.foldl (fun a x => a.put (some x.2) (r x.1)) G
theorem putN_size (nz : List (Nat × Tmp)) (r : Nat → Value) : ∀ G, (putN nz r G).tmps.size = G.tmps.size ∧ (putN nz r G).defers = G.defers := by
  induction nz with
  | nil => intro G; exact ⟨rfl, rfl⟩
  | cons x nz ih =>
    intro G
    have := ih (G.put (some x.2) (r x.1))
    rw [put_size, put_defers] at this
    exact this
theorem putN_other {nz : List (Nat × Tmp)} {r : Nat → Value} {t : Tmp} (h : ∀ x ∈ nz, x.2 ≠ t) : ∀ G, (putN nz r G).tmps[t]? = G.tmps[t]? := by
  induction nz with
  | nil => intro G; rfl
  | cons x nz ih =>
    intro G
    have := ih (fun y hy => h y (by simp [hy])) (G.put (some x.2) (r x.1))
    rw [put_get fun e => h x (by simp) (Option.some.inj e)] at this
    exact this
theorem putN_at {r : Nat → Value} {i : Nat} {d : Tmp} : ∀ {nz : List (Nat × Tmp)}, (∀ y ∈ nz, y.2 = d → y.1 = i) → (∃ y ∈ nz, y.2 = d) → ∀ G : Act, d < G.tmps.size → (putN nz r G).tmps[d]? = some (r i)
  | [], _, h, _, _ => by obtain ⟨_, h, _⟩ := h; cases h
  | y :: nz, hu, h, G, hs => by
    by_cases h2 : ∃ z ∈ nz, z.2 = d
    · exact putN_at (fun z hz => hu z (by simp [hz])) h2 (G.put (some y.2) (r y.1)) (by rw [put_size]; exact hs)
    · obtain ⟨z, hz, hzd⟩ := h
      have hzy : z = y := by
        rcases List.mem_cons.1 hz with h | h
        · exact h
        · exact absurd ⟨z, h, hzd⟩ h2
      subst hzy
      show (putN nz r (G.put (some z.2) (r z.1))).tmps[d]? = _
      rw [putN_other (fun a ha e => h2 ⟨a, ha, e⟩), hzd, hu z (by simp) hzd]
      simp [Act.put, hs]

/-- what an operation makes -/
def makesOp (P : Program) (o : Oper) (A : Act) (s : World) (R : Value → World → Prop) : Prop :=
  match (execOp A.eval o).run P s with
  | .ok (.value v) s' => R v s'
  | .ok (.enter f args) s' => Calls P f args s' fun e w2 => ∃ v, e = .returned v ∧ R v w2
  | _ => False

def isNz (nz : List (Nat × Tmp)) (i : Nat) : Bool := nz.any fun x => x.1 == i
def marksL (n : Nat) (nz : List (Nat × Tmp)) (m : Nat) : List Bool := (List.range m).map fun j => isNz nz j || decide (n ≤ j)
def doneL (n m : Nat) : Array Bool := ((List.range m).map fun j => decide (j < n)).toArray
/-- the region's form -/
def mixB (n : Nat) (nz : List (Nat × Tmp)) (dp : Nat → List Nat) (bs : List Bool) (l : List Oper) : Bool :=
  (bs == marksL n nz l.length && lexOkB (blindL bs l) && Region.noSelect l.toArray && Region.noSelect (blindL bs l).toArray && decide (n < l.length) && Region.sinkB .any l.toArray n && Region.chainB .any l.toArray n &&
    Region.seqB .any l.toArray (l.length - n) n (doneL n l.length)) &&
  ((List.range n).all fun j => (List.range n).all fun i => (dstOf l i).all fun d =>
    (!(lookOf l j).contains d || (!decide (i = j) && Region.waitsFor .any l.toArray j i && (!isNz nz i || (isNz nz j && (dp j).contains i)))) && (decide (i = j) || !(dstOf l j).contains d)) &&
  ((List.range n).all fun j => match l[j]? with | some o => o.after.all fun e => !Region.binds .any e || decide (e.on < j) | none => true) &&
  ((List.range n).all fun j => isNz nz j || match l[j]? with | some o => (match o.guard with | some (g, _) => decide (g < n) && !isNz nz g | none => true) | none => true) &&
  (nz.all fun x => decide (x.1 < n) && (dstOf l x.1 == [x.2]) && (match l[x.1]? with | some o => o.guard.isNone | none => false) && (dp x.1).all fun d => isNz nz d && Region.waitsFor .any l.toArray x.1 d)

structure MixOk (n : Nat) (nz : List (Nat × Tmp)) (dp : Nat → List Nat) (bs : List Bool) (l : List Oper) : Prop where
  lex : LexOk (blindL bs l)
  sel : Region.noSelect l.toArray = true
  sel' : Region.noSelect (blindL bs l).toArray = true
  nlt : n < l.length
  sink : Region.sinkB .any l.toArray n = true
  chain : Region.chainB .any l.toArray n = true
  seq : Region.seqB .any l.toArray (l.length - n) n (doneL n l.length) = true
  quiet : ∀ j, j < n → isNz nz j = false → (blindL bs l)[j]? = l[j]?
  look : ∀ j, j < n → ∀ i, i < n → ∀ d ∈ dstOf l i, d ∈ lookOf l j → i ≠ j ∧ Region.waitsFor .any l.toArray j i = true ∧ (isNz nz i = true → isNz nz j = true ∧ i ∈ dp j)
  dst : ∀ j, j < n → ∀ i, i < n → i ≠ j → ∀ d ∈ dstOf l i, d ∉ dstOf l j
  back : ∀ j, j < n → ∀ o, l[j]? = some o → ∀ e ∈ o.after, Region.binds .any e = true → e.on < j
  guard : ∀ j, j < n → isNz nz j = false → ∀ o, l[j]? = some o → ∀ g b, o.guard = some (g, b) → g < n ∧ isNz nz g = false
  blind : ∀ i t, t ∈ dstOf (blindL bs l) i → i < n ∧ t ∈ dstOf l i ∧ isNz nz i = false
  nzok : ∀ x ∈ nz, x.1 < n ∧ dstOf l x.1 = [x.2] ∧ (∀ o, l[x.1]? = some o → o.guard = none) ∧ ∀ d ∈ dp x.1, isNz nz d = true ∧ Region.waitsFor .any l.toArray x.1 d = true

theorem mixOk_of {n : Nat} {nz : List (Nat × Tmp)} {dp : Nat → List Nat} {bs : List Bool} {l : List Oper} (h : mixB n nz dp bs l = true) : MixOk n nz dp bs l := by
  simp only [mixB, Bool.and_eq_true] at h
  obtain ⟨⟨⟨⟨⟨⟨⟨⟨⟨⟨⟨hbs, hlex⟩, hsel⟩, hsel'⟩, hn⟩, hsink⟩, hchain⟩, hseq⟩, hlook⟩, hback⟩, hguard⟩, hnz⟩ := h
  have hbs := beq_iff_eq.1 hbs
  have key : ∀ j, j < n → ∀ i, i < n → ∀ d ∈ dstOf l i, ((!(lookOf l j).contains d || (!decide (i = j) && Region.waitsFor .any l.toArray j i && (!isNz nz i || (isNz nz j && (dp j).contains i)))) && (decide (i = j) || !(dstOf l j).contains d)) = true := fun j hj i hi d hd =>
    List.all_eq_true.1 (List.all_eq_true.1 (List.all_eq_true.1 hlook j (List.mem_range.2 hj)) i (List.mem_range.2 hi)) d hd
  refine ⟨lexOk_of hlex, hsel, hsel', of_decide_eq_true hn, hsink, hchain, hseq, fun j hj hz => blind_get ?_, fun j hj i hi d hd hl => ?_, fun j hj i hi hne d hd hd2 => ?_, fun j hj o ho e he hb => ?_, fun j hj hz o ho g b hg => ?_, fun i t ht => ?_, fun x hx => ?_⟩
  · have hn := of_decide_eq_true hn
    rw [hbs, marksL, List.getElem?_map, List.getElem?_range (by omega)]
    simp [hz]; omega
  · have h := key j hj i hi d hd
    rw [List.contains_iff_mem.2 hl] at h
    simp only [Bool.not_true, Bool.false_or, Bool.and_eq_true, Bool.not_eq_true', decide_eq_false_iff_not, Bool.or_eq_true, List.contains_iff_mem] at h
    exact ⟨h.1.1.1, h.1.1.2, fun hz => h.1.2.resolve_left fun h => by rw [hz] at h; cases h⟩
  · have h := key j hj i hi d hd
    rw [List.contains_iff_mem.2 hd2] at h
    simp [hne] at h
  · have h := List.all_eq_true.1 hback j (List.mem_range.2 hj)
    rw [ho] at h
    have := Array.all_eq_true_iff_forall_mem.1 h e he
    simp only [hb, Bool.not_true, Bool.false_or, decide_eq_true_eq] at this
    exact this
  · have h := List.all_eq_true.1 hguard j (List.mem_range.2 hj)
    rw [hz, ho] at h
    simp only [Bool.false_or, hg, Bool.and_eq_true, decide_eq_true_eq, Bool.not_eq_true'] at h
    exact h
  · obtain ⟨o, ho, hd⟩ := of_dst ht
    rcases Nat.lt_or_ge i l.length with hi | hi
    · have hm : bs[i]? = some (isNz nz i || decide (n ≤ i)) := by rw [hbs, marksL, List.getElem?_map, List.getElem?_range hi]; rfl
      cases hb : (isNz nz i || decide (n ≤ i)) with
      | true =>
        rw [hb] at hm
        rw [blind_dst hm ho] at hd; cases hd
      | false =>
        rw [hb] at hm
        rw [Bool.or_eq_false_iff, decide_eq_false_iff_not] at hb
        refine ⟨by omega, ?_, hb.1⟩
        rw [blind_get hm] at ho
        exact dst_of ho hd
    · rw [List.getElem?_eq_none (by rw [blind_len]; exact hi)] at ho; cases ho
  · have h := List.all_eq_true.1 hnz x hx
    simp only [Bool.and_eq_true, decide_eq_true_eq, beq_iff_eq] at h
    obtain ⟨⟨⟨h1, h2⟩, h3⟩, h5⟩ := h
    exact ⟨h1, h2, fun o ho => by rw [ho] at h3; simpa using h3, fun d hd => by simpa using List.all_eq_true.1 h5 d hd⟩

theorem isNz_iff {nz : List (Nat × Tmp)} {i : Nat} : isNz nz i = true ↔ ∃ x ∈ nz, x.1 = i := by simp [isNz]

theorem wpAnyIn_of_seq {F : Fence} {N : Nat} {ops : Array Oper} {md : Region.Mode} {Q' : Exit → Act → World → Prop} (f : Nat) : ∀ (l : List Oper) (k : Nat) (listed : Array Bool) (a : Act) (w : World), (∀ j, l[j]? = ops[k + j]?) →
    Region.seqB md ops l.length k listed = true → wpListIn F N P ops Q' l a w → wpAnyIn F N P md ops Q' (l.length + f) listed a w
  | [], _, listed, a, w, _, hB, h => by
    have h0 : Region.ready md ops listed = [] := by simpa [Region.seqB] using hB
    rw [List.length_nil, Nat.zero_add]
    cases f with
    | zero => exact ⟨h0, h⟩
    | succ f => exact ⟨fun _ => h, fun i hi => by rw [h0] at hi; cases hi⟩
  | o :: l, k, listed, a, w, hl, hB, h => by
    have h0 : ops[k]? = some o := by simpa using (hl 0).symm
    simp only [List.length_cons, Region.seqB, Bool.and_eq_true, decide_eq_true_eq] at hB
    rw [List.length_cons, show l.length + 1 + f = (l.length + f) + 1 by omega]
    refine ⟨fun h1 => (by rw [hB.1] at h1; cases h1), fun i hi => ?_⟩
    rw [hB.1] at hi
    have hik : i = k := by simpa using hi
    subst hik
    have hw : wpOpIn F N P ops Q' i (wpListIn F N P ops Q' l) a w := by unfold wpOpIn; simp only [h0]; exact h
    exact wpOpIn_mono (fun a' w' h' => wpAnyIn_of_seq f l (i + 1) _ a' w' (fun j => by have := hl (j + 1); simpa [Nat.add_assoc, Nat.add_comm 1 j] using this) hB.2 h') hw

/-- the values that an operation leans on -/
def dpv (dp : Nat → List Nat) (r : Nat → Value) (i : Nat) : List Value := (dp i).map r

structure MixInv (n : Nat) (nz : List (Nat × Tmp)) (dp : Nat → List Nat) (l : List Oper) (Φ : Nat → List Value → Value → World → World → Prop) (w : World) (G : Act) (listed : Array Bool) (a : Act) (s : World) (r : Nat → Value) (p q : Nat → World) : Prop where
  head : HeadInv .any l.toArray n listed
  defers : a.defers = G.defers
  size : a.tmps.size = G.tmps.size
  slot : ∀ t, (∀ j, j < n → t ∈ dstOf l j → listed.getD j true = true ∧ isNz nz j = false) → a.tmps[t]? = G.tmps[t]?
  noisy : ∀ i, isNz nz i = true → listed.getD i true = true → ∀ d ∈ dstOf l i, a.tmps[d]? = some (r i)
  later : Below w.heap.size w s
  made : ∀ i, isNz nz i = true → listed.getD i true = true → Φ i (dpv dp r i) (r i) (p i) (q i) ∧ Below (q i).heap.size (q i) s ∧ Below w.heap.size w (p i)
  apart : ∀ i i', isNz nz i = true → isNz nz i' = true → listed.getD i true = true → listed.getD i' true = true → i ≠ i' → (q i).heap.size ≤ (p i').heap.size ∨ (q i').heap.size ≤ (p i).heap.size

/-- how many of the head are to come -/
def unl (n : Nat) (listed : Array Bool) : Nat := ((List.range n).filter fun j => !listed.getD j true).length
theorem filter_lt {p q : Nat → Bool} (h : ∀ x, q x = true → p x = true) {i : Nat} (hp : p i = true) (hq : q i = false) : ∀ l : List Nat, i ∈ l → (l.filter q).length + 1 ≤ (l.filter p).length
  | [], hi => by cases hi
  | x :: l, hi => by
    have hle : ∀ l : List Nat, (l.filter q).length ≤ (l.filter p).length := by
      intro l
      induction l with
      | nil => exact Nat.le_refl _
      | cons y l ih =>
        by_cases hy : q y = true
        · rw [List.filter_cons_of_pos hy, List.filter_cons_of_pos (h y hy)]; simpa using ih
        · rw [List.filter_cons_of_neg hy]
          by_cases hy2 : p y = true
          · rw [List.filter_cons_of_pos hy2]; simp; omega
          · rw [List.filter_cons_of_neg hy2]; exact ih
    by_cases hx : x = i
    · subst hx
      rw [List.filter_cons_of_neg (by simp [hq]), List.filter_cons_of_pos hp]
      have := hle l
      simp; omega
    · have ih := filter_lt h hp hq l (by rcases List.mem_cons.1 hi with e | e; exact absurd e.symm hx; exact e)
      by_cases hy : q x = true
      · rw [List.filter_cons_of_pos hy, List.filter_cons_of_pos (h x hy)]; simp; omega
      · rw [List.filter_cons_of_neg hy]
        by_cases hy2 : p x = true
        · rw [List.filter_cons_of_pos hy2]; simp; omega
        · rw [List.filter_cons_of_neg hy2]; exact ih
theorem unl_set {n i : Nat} {listed : Array Bool} (hi : i < n) (hs : i < listed.size) (hu : listed.getD i true = false) : unl n (listed.setIfInBounds i true) + 1 ≤ unl n listed := by
  refine filter_lt (fun x hx => ?_) (i := i) (by rw [hu]; rfl) (by simp [hs]) _ (List.mem_range.2 hi)
  by_cases e : i = x
  · subst e; simp [hs] at hx
  · rwa [getD_set_ne true e] at hx

theorem getD_true {listed : Array Bool} {j : Nat} (h : listed.getD j false = true) : listed.getD j true = true := by
  rcases Nat.lt_or_ge j listed.size with h' | h'
  · simp [h'] at h ⊢; exact h
  · simp [Array.getElem?_eq_none h'] at h
theorem getD_false_of {listed : Array Bool} {j : Nat} (hj : j < listed.size) (h : listed.getD j true = true) : listed.getD j false = true := by
  simp [hj] at h ⊢; exact h

section
variable {n : Nat} {nz : List (Nat × Tmp)} {dp : Nat → List Nat} {bs : List Bool} {l : List Oper} {Φ : Nat → List Value → Value → World → World → Prop} {w : World} {G : Act} {listed : Array Bool} {a : Act} {s : World} {r : Nat → Value} {p q : Nat → World}
theorem MixOk.dst_nz (ok : MixOk n nz dp bs l) {x : Nat × Tmp} (hx : x ∈ nz) {t : Tmp} {j : Nat} (hj : j < n) (ht : t ∈ dstOf l j) (hz : isNz nz j = true) (hall : ∀ y ∈ nz, y.2 ≠ t) : False := by
  have _ := hx; have _ := hj
  obtain ⟨y, hy, rfl⟩ := isNz_iff.1 hz
  obtain ⟨_, h2, _⟩ := ok.nzok y hy
  rw [h2] at ht
  exact hall y hy (List.mem_singleton.1 ht).symm
theorem MixOk.not_nz (ok : MixOk n nz dp bs l) {t : Tmp} {j : Nat} (ht : t ∈ dstOf l j) (hall : ∀ y ∈ nz, y.2 ≠ t) : isNz nz j = false := by
  cases hz : isNz nz j with
  | false => rfl
  | true =>
    obtain ⟨y, hy, rfl⟩ := isNz_iff.1 hz
    obtain ⟨_, h2, _⟩ := ok.nzok y hy
    rw [h2] at ht
    exact absurd (List.mem_singleton.1 ht).symm (hall y hy)
theorem MixOk.nz_lt (ok : MixOk n nz dp bs l) {j : Nat} (hz : isNz nz j = true) : j < n := by
  obtain ⟨y, hy, rfl⟩ := isNz_iff.1 hz
  exact (ok.nzok y hy).1
theorem MixOk.one (ok : MixOk n nz dp bs l) {x y : Nat × Tmp} (hx : x ∈ nz) (hy : y ∈ nz) (e : x.2 = y.2) : x.1 = y.1 := by
  obtain ⟨h1, h2, _⟩ := ok.nzok x hx
  obtain ⟨h3, h4, _⟩ := ok.nzok y hy
  refine Classical.byContradiction fun hne => ?_
  exact ok.dst y.1 h3 x.1 h1 hne x.2 (by rw [h2]; simp) (by rw [h4, e]; simp)

theorem MixInv.quiet (ok : MixOk n nz dp bs l) (inv : MixInv n nz dp l Φ w G listed a s r p q) {i : Nat} (hi : i ∈ Region.ready .any l.toArray listed) (hin : i < n) (hz : isNz nz i = false) {o : Oper} (ho : l[i]? = some o) {v : Value} (hG : G.put o.dst v = G)
    {s' : World} (hs : Below s.heap.size s s') : MixInv n nz dp l Φ w G (listed.setIfInBounds i true) (a.put o.dst v) s' r p q := by
  have hlis : ∀ j, isNz nz j = true → (listed.setIfInBounds i true).getD j true = true → listed.getD j true = true := fun j hj h => by
    rwa [getD_set_ne true (fun e => by rw [e] at hz; rw [hz] at hj; cases hj)] at h
  refine ⟨inv.head.set hi hin, by rw [put_defers]; exact inv.defers, by rw [put_size]; exact inv.size, fun t ht => ?_, fun j hj hl d hd => ?_, inv.later.trans (hs.mono inv.later.size), fun j hj hl => ?_, fun j j' hj hj' hl hl' hne => inv.apart j j' hj hj' (hlis j hj hl) (hlis j' hj' hl') hne⟩
  · by_cases hd : o.dst = some t
    · have e1 : (a.put o.dst v).tmps[t]? = (G.put o.dst v).tmps[t]? := by
        rw [hd]; simp only [Act.put, Array.getElem?_setIfInBounds_self]; rw [inv.size]
      rw [e1, hG]
    · rw [put_get hd]
      refine inv.slot t fun j hj htj => ?_
      have h := ht j hj htj
      by_cases e : i = j
      · subst e
        obtain ⟨o', ho', hd'⟩ := of_dst htj
        rw [ho] at ho'; cases ho'
        exact absurd hd' hd
      · rw [getD_set_ne true e] at h; exact h
  · have hne : i ≠ j := fun e => by rw [e] at hz; rw [hz] at hj; cases hj
    rw [put_get fun e => ok.dst i hin j (ok.nz_lt hj) (fun e => hne e.symm) d hd (dst_of ho e)]
    exact inv.noisy j hj (hlis j hj hl) d hd
  · obtain ⟨h1, h2, h3⟩ := inv.made j hj (hlis j hj hl)
    exact ⟨h1, bstep h2 hs, h3⟩

theorem MixInv.made1 (ok : MixOk n nz dp bs l) (inv : MixInv n nz dp l Φ w G listed a s r p q) {i : Nat} (hi : i ∈ Region.ready .any l.toArray listed) {x : Nat × Tmp} (hx : x ∈ nz) (hxi : x.1 = i) {o : Oper} (ho : l[i]? = some o) {v : Value}
    {s' : World} (hs : Below s.heap.size s s') (hsz : x.2 < G.tmps.size) (hΦ : Φ i (dpv dp r i) v s s') :
    MixInv n nz dp l Φ w G (listed.setIfInBounds i true) (a.put o.dst v) s' (fun k => if k = i then v else r k) (fun k => if k = i then s else p k) (fun k => if k = i then s' else q k) := by
  obtain ⟨hin, hdi, hgi, hdw⟩ := ok.nzok x hx
  rw [hxi] at hin hdi hgi hdw
  have hun := (mem_ready.1 hi).1
  have hod : o.dst = some x.2 := by
    obtain ⟨o', ho', hd'⟩ := of_dst (show x.2 ∈ dstOf l i by rw [hdi]; simp)
    rw [ho] at ho'; cases ho'; exact hd'
  have hiz : isNz nz i = true := isNz_iff.2 ⟨x, hx, hxi⟩
  have hlis : ∀ j, j ≠ i → (listed.setIfInBounds i true).getD j true = true → listed.getD j true = true := fun j hj h => by rwa [getD_set_ne true (fun e => hj e.symm)] at h
  -- what leans on i is not listed
  have hdep : ∀ j, isNz nz j = true → listed.getD j true = true → i ∉ dp j := fun j hj hl hd => by
    obtain ⟨y, hy, rfl⟩ := isNz_iff.1 hj
    obtain ⟨h1, _, _, h5⟩ := ok.nzok y hy
    obtain ⟨oj, hoj, e2, he, hb, hon⟩ := Region.waitsFor_spec (h5 i hd).2
    have hls : y.1 < listed.size := by rw [inv.head.size]; have := ok.nlt; simp; omega
    have := inv.head.closed y.1 oj hoj (getD_false_of hls hl) e2 he hb
    rw [hon] at this
    rw [getD_true this] at hun; cases hun
  have hself : i ∉ dp i := fun hd => by
    obtain ⟨oj, hoj, e2, he, hb, hon⟩ := Region.waitsFor_spec (hdw i hd).2
    obtain ⟨_, o', ho', hafter⟩ := mem_ready.1 hi
    rw [hoj] at ho'; cases ho'
    have := hafter e2 he hb
    rw [hon] at this
    rw [getD_true this] at hun; cases hun
  refine ⟨inv.head.set hi hin, by rw [put_defers]; exact inv.defers, by rw [put_size]; exact inv.size, fun t ht => ?_, fun j hj hl d hd => ?_, inv.later.trans (hs.mono inv.later.size), fun j hj hl => ?_, fun j j' hj hj' hl hl' hne => ?_⟩
  · have htx : x.2 ≠ t := fun e => by
      have := (ht i hin (by rw [hdi, e]; simp)).2
      rw [hiz] at this; cases this
    rw [hod, put_get fun e => htx (Option.some.inj e)]
    refine inv.slot t fun j hj htj => ?_
    have h := ht j hj htj
    by_cases e : i = j
    · subst e; rw [hiz] at h; cases h.2
    · rw [getD_set_ne true e] at h; exact h
  · by_cases e : j = i
    · subst e
      rw [hdi] at hd
      obtain rfl := List.mem_singleton.1 hd
      rw [hod]
      simp [Act.put, inv.size, hsz]
    · rw [put_get fun e2 => ok.dst i hin j (ok.nz_lt hj) e d hd (dst_of ho e2), if_neg e]
      exact inv.noisy j hj (hlis j e hl) d hd
  · by_cases e : j = i
    · subst e
      have e1 : dpv dp (fun k => if k = j then v else r k) j = dpv dp r j := by
        unfold dpv
        exact List.map_congr_left fun d hd => if_neg fun e => hself (by rw [e] at hd; exact hd)
      rw [e1]
      simp only [if_true]
      exact ⟨hΦ, Below.refl _ _, inv.later⟩
    · have hl0 := hlis j e hl
      obtain ⟨h1, h2, h3⟩ := inv.made j hj hl0
      have e1 : dpv dp (fun k => if k = i then v else r k) j = dpv dp r j := by
        unfold dpv
        exact List.map_congr_left fun d hd => if_neg fun e2 => hdep j hj hl0 (by rw [e2] at hd; exact hd)
      rw [e1, if_neg e, if_neg e, if_neg e]
      exact ⟨h1, bstep h2 hs, h3⟩
  · by_cases e : j = i
    · subst e
      have e2 : j' ≠ j := fun h => hne h.symm
      rw [if_pos rfl, if_pos rfl, if_neg e2, if_neg e2]
      exact .inr (inv.made j' hj' (hlis j' e2 hl')).2.1.size
    · by_cases e2 : j' = i
      · subst e2
        rw [if_pos rfl, if_pos rfl, if_neg e, if_neg e]
        exact .inl (inv.made j hj (hlis j e hl)).2.1.size
      · rw [if_neg e, if_neg e, if_neg e2, if_neg e2]
        exact inv.apart j j' hj hj' (hlis j e hl) (hlis j' e2 hl') hne
end

theorem mix_any {n : Nat} {nz : List (Nat × Tmp)} {dp : Nat → List Nat} {bs : List Bool} {l : List Oper} {Φ : Nat → List Value → Value → World → World → Prop} {w : World} {G : Act} {Q : Exit → Act → World → Prop} (ok : MixOk n nz dp bs l)
    (hQ : ∀ (J : World → Prop), Abides J → Nonempty (LaterJ w J) → ∀ (j : Nat) (o : Oper), (blindL bs l)[j]? = some o → AtEnd P (blindL bs l).toArray (fun w' => ∃ s : LaterJ w J, w' = s.w') G o)
    (hN : ∀ i, isNz nz i = true → ∀ o, l[i]? = some o → ∀ (r : Nat → Value) (s : World), Below w.heap.size w s → (∀ d ∈ dp i, ∃ p q, Φ d (dpv dp r d) (r d) p q ∧ Below q.heap.size q s) →
      makesOp P o (putN nz r G) s fun v s' => Below s.heap.size s s' ∧ Φ i (dpv dp r i) v s s')
    (hT : ∀ (r : Nat → Value) (p q : Nat → World) (s : World), Below w.heap.size w s → (∀ i, isNz nz i = true → Φ i (dpv dp r i) (r i) (p i) (q i) ∧ Below (q i).heap.size (q i) s ∧ Below w.heap.size w (p i)) →
      (∀ i i', isNz nz i = true → isNz nz i' = true → i ≠ i' → (q i).heap.size ≤ (p i').heap.size ∨ (q i').heap.size ≤ (p i).heap.size) → wpListIn Fence.wide 0 P l.toArray Q (l.drop n) (putN nz r G) s)
    (hsz : ∀ x ∈ nz, x.2 < G.tmps.size) :
    ∀ (h : Nat) (listed : Array Bool) (a : Act) (s : World) (r : Nat → Value) (p q : Nat → World), unl n listed ≤ h → MixInv n nz dp l Φ w G listed a s r p q → wpAnyIn Fence.wide 0 P .any l.toArray Q ((l.length - n) + h) listed a s := by
  have hnl := ok.nlt
  -- the head is done
  have fin : ∀ (h : Nat) (listed : Array Bool) (a : Act) (s : World) (r : Nat → Value) (p q : Nat → World), (∀ j, j < n → listed.getD j true = true) → MixInv n nz dp l Φ w G listed a s r p q → wpAnyIn Fence.wide 0 P .any l.toArray Q ((l.length - n) + h) listed a s := by
    intro h listed a s r p q hall inv
    have ha : a = putN nz r G := by
      obtain ⟨e1, e2⟩ := putN_size nz r G
      have e3 : a.tmps = (putN nz r G).tmps := by
        apply Array.ext_getElem?
        intro t
        by_cases hx : ∃ x ∈ nz, x.2 = t
        · obtain ⟨x, hx, rfl⟩ := hx
          rw [putN_at (i := x.1) (fun y hy e => ok.one hy hx e) ⟨x, hx, rfl⟩ G (hsz x hx)]
          obtain ⟨h1, h2, _⟩ := ok.nzok x hx
          exact inv.noisy x.1 (isNz_iff.2 ⟨x, hx, rfl⟩) (hall x.1 h1) x.2 (by rw [h2]; simp)
        · rw [putN_other (fun y hy e => hx ⟨y, hy, e⟩)]
          exact inv.slot t fun j hj htj => ⟨hall j hj, ok.not_nz htj fun y hy e => hx ⟨y, hy, e⟩⟩
      have e4 := inv.defers
      rw [← e2] at e4
      cases a; cases hP : putN nz r G; rw [hP] at e3 e4; cases e3; cases e4; rfl
    have hl : listed = doneL n l.length := by
      have hs : listed.size = l.length := by rw [inv.head.size]; simp
      apply Array.ext (by rw [hs]; simp [doneL])
      intro j hj hj2
      have e : (doneL n l.length)[j] = decide (j < n) := by simp [doneL]
      rw [e]
      by_cases hjn : j < n
      · have := hall j hjn
        simp [hj] at this
        rw [this]; simp [hjn]
      · have := inv.head.tail j (by omega) (by simp; omega)
        simp [hj] at this
        rw [this]; simp [hjn]
    have hm : ∀ i, isNz nz i = true → listed.getD i true = true := fun i hi => hall i (ok.nz_lt hi)
    have hw := hT r p q s inv.later (fun i hi => inv.made i hi (hm i hi)) fun i i' hi hi' hne => inv.apart i i' hi hi' (hm i hi) (hm i' hi') hne
    rw [← ha] at hw
    have hd : (l.drop n).length = l.length - n := by simp
    rw [← hd]
    exact wpAnyIn_of_seq h (l.drop n) n listed a s (fun j => by simp [List.getElem?_drop]) (by rw [hd, hl]; exact ok.seq) hw
  intro h
  induction h with
  | zero =>
    intro listed a s r p q hu inv
    refine fin 0 listed a s r p q (fun j hj => ?_) inv
    cases hj2 : listed.getD j true with
    | true => rfl
    | false =>
      have : j ∈ (List.range n).filter fun j => !listed.getD j true := List.mem_filter.2 ⟨List.mem_range.2 hj, by rw [hj2]; rfl⟩
      have h0 : ((List.range n).filter fun j => !listed.getD j true).length = 0 := Nat.le_zero.1 hu
      rw [List.eq_nil_of_length_eq_zero h0] at this
      cases this
  | succ h ih =>
    intro listed a s r p q hu inv
    by_cases hall : ∀ j, j < n → listed.getD j true = true
    · exact fin (h + 1) listed a s r p q hall inv
    -- the first that is to come
    have hex : ∃ k, k < n ∧ listed.getD k true = false ∧ ∀ j, j < k → listed.getD j true = true := by
      have : ∀ m, (∀ j, j < m → listed.getD j true = true) ∨ ∃ k, k < m ∧ listed.getD k true = false ∧ ∀ j, j < k → listed.getD j true = true := by
        intro m
        induction m with
        | zero => exact .inl fun j hj => by omega
        | succ m ihm =>
          rcases ihm with h | ⟨k, h1, h2, h3⟩
          · cases hm : listed.getD m true with
            | true =>
              refine .inl fun j hj => ?_
              rcases Nat.lt_or_eq_of_le (Nat.lt_succ_iff.1 hj) with h1 | rfl
              · exact h j h1
              · exact hm
            | false => exact .inr ⟨m, by omega, hm, h⟩
          · exact .inr ⟨k, by omega, h2, h3⟩
      exact (this n).resolve_left hall
    obtain ⟨k, hkn, hku, hkl⟩ := hex
    have hsz2 : listed.size = l.length := by rw [inv.head.size]; simp
    have hkr : k ∈ Region.ready .any l.toArray listed := by
      have hk0 : l[k]? = some (l[k]'(by omega)) := by simp
      refine mem_ready.2 ⟨hku, l[k]'(by omega), (by rw [List.getElem?_toArray]; exact hk0), fun e he hb => ?_⟩
      have := ok.back k hkn _ hk0 e he hb
      exact getD_false_of (by omega) (hkl _ this)
    rw [show (l.length - n) + (h + 1) = ((l.length - n) + h) + 1 by omega]
    refine ⟨(fun h0 => by rw [h0] at hkr; cases hkr), fun i hi => ?_⟩
    have hin : i < n := by
      rcases Nat.lt_or_ge i n with h1 | h1
      · exact h1
      · exact absurd hi (tail_waits ok.sink ok.chain (by simpa using hnl) inv.head _ k rfl hkn hku i h1)
    obtain ⟨hiu, o, hoA, hafter⟩ := mem_ready.1 hi
    have ho : l[i]? = some o := by simpa using hoA
    have hul : unl n (listed.setIfInBounds i true) ≤ h := by have := unl_set (n := n) hin (by omega) hiu; omega
    -- what it looks at is there
    have hlk : ∀ j, j < n → ∀ d ∈ dstOf l j, d ∈ o.looksAt l.toArray → listed.getD j true = true ∧ (isNz nz j = true → isNz nz i = true ∧ j ∈ dp i) := fun j hj d hd hdo => by
      obtain ⟨_, h2, h3⟩ := ok.look i hin j hj d hd (by unfold lookOf; rw [ho]; exact hdo)
      obtain ⟨o', ho', e, he, hb, hon⟩ := Region.waitsFor_spec h2
      rw [hoA] at ho'; cases ho'
      have := hafter e he hb
      rw [hon] at this
      exact ⟨getD_true this, h3⟩
    have hsel := Region.noSelect_spec ok.sel i o
    unfold wpOpIn
    simp only [hoA]
    cases hz : isNz nz i with
    | false =>
      have hsame : ∀ d ∈ o.looksAt l.toArray, a.tmps[d]? = G.tmps[d]? := fun d hd => inv.slot d fun j hj hdj => by
        obtain ⟨h1, h2⟩ := hlk j hj d hdj hd
        refine ⟨h1, ?_⟩
        cases hjz : isNz nz j with
        | false => rfl
        | true => have := (h2 hjz).1; rw [hz] at this; cases this
      have hE := hQ (fun B => Below s.heap.size s B) (fun A B hA hB => bstep hA hB) ⟨⟨s, inv.later, Below.refl _ _⟩⟩ i o (by rw [ok.quiet i hin hz]; exact ho)
      unfold AtEnd at hE
      have hwe := wanted_same (o := o) (ops := l.toArray) (ops' := (blindL bs l).toArray) hsame (fun g b hg => by
        obtain ⟨h1, h2⟩ := ok.guard i hin hz o ho g b hg
        simp only [List.getElem?_toArray]
        rw [ok.quiet g h1 h2])
      rw [← hwe] at hE
      by_cases hw : Region.wanted o (yielded l.toArray a.tmps) = true
      · rw [if_pos hw] at hE ⊢
        obtain ⟨v, hv, hG⟩ := hE
        have hq := hv s ⟨⟨s, inv.later, Below.refl _ _⟩, rfl⟩
        unfold Oper.quietAtIn at hq
        rw [← execOp_congr o (fun cs b => hsel cs b hoA) (eval_same hsame)] at hq
        unfold Oper.wpIn
        refine ⟨fun _ _ => trivial, ?_⟩
        rw [show Fence.wide.round = none from rfl, Oper.semAt_none]
        generalize (execOp a.eval o).run P s = res at *
        cases res with
        | ok x w' =>
          cases x <;> simp only [Oper.quietUponIn] at hq <;> simp only [Oper.uponIn]
          case value u =>
            obtain ⟨e1, e2⟩ := hq
            rw [e1, e2]
            exact ih _ _ _ _ _ _ hul (inv.quiet ok hi hin hz ho hG (Below.refl _ _))
          case skip =>
            obtain ⟨e1, e2⟩ := hq
            rw [e1, ← e2]
            exact ih _ _ _ _ _ _ hul (inv.quiet ok hi hin hz ho hG (Below.refl _ _))
          case enter f args =>
            obtain ⟨e1, _, hc⟩ := hq
            rw [e1]
            refine ⟨fun h => by simp [Fence.wide] at h, hc.mono fun e w'' ⟨he, s', hs'⟩ => ?_⟩
            subst he
            rw [hs']
            exact ih _ _ _ _ _ _ hul (inv.quiet ok hi hin hz ho hG s'.j)
        | halt x w' => simp only [Oper.quietUponIn] at hq
      · rw [if_neg hw] at hE ⊢
        exact ⟨fun _ _ => trivial, ih _ _ _ _ _ _ hul (inv.quiet ok hi hin hz ho hE (Below.refl _ _))⟩
    | true =>
      obtain ⟨x, hx, hxi⟩ := isNz_iff.1 hz
      obtain ⟨_, hdi, hgi, hdw⟩ := ok.nzok x hx
      rw [hxi] at hdi hgi hdw
      have hw : Region.wanted o (yielded l.toArray a.tmps) = true := by simp [Region.wanted, hgi o ho]
      rw [if_pos hw]
      have hsame : ∀ d ∈ o.looksAt l.toArray, a.tmps[d]? = (putN nz r G).tmps[d]? := fun d hd => by
        by_cases hy : ∃ y ∈ nz, y.2 = d
        · obtain ⟨y, hy, rfl⟩ := hy
          obtain ⟨h1, h2, _⟩ := ok.nzok y hy
          rw [putN_at (i := y.1) (fun z hz e => ok.one hz hy e) ⟨y, hy, rfl⟩ G (hsz y hy)]
          obtain ⟨h3, _⟩ := hlk y.1 h1 y.2 (by rw [h2]; simp) hd
          exact inv.noisy y.1 (isNz_iff.2 ⟨y, hy, rfl⟩) h3 y.2 (by rw [h2]; simp)
        · rw [putN_other (fun y hy2 e => hy ⟨y, hy2, e⟩)]
          exact inv.slot d fun j hj hdj => ⟨(hlk j hj d hdj hd).1, ok.not_nz hdj fun y hy2 e => hy ⟨y, hy2, e⟩⟩
      have hm := hN i hz o ho r s inv.later fun d hd => by
        have hl : listed.getD d true = true := by
          obtain ⟨o', ho', e, he, hb, hon⟩ := Region.waitsFor_spec (hdw d hd).2
          rw [hoA] at ho'; cases ho'
          have := hafter e he hb
          rw [hon] at this
          exact getD_true this
        obtain ⟨h1, h2, _⟩ := inv.made d (hdw d hd).1 hl
        exact ⟨_, _, h1, h2⟩
      unfold makesOp at hm
      rw [← execOp_congr o (fun cs b => hsel cs b hoA) (eval_same hsame)] at hm
      unfold Oper.wpIn
      refine ⟨fun _ _ => trivial, ?_⟩
      rw [show Fence.wide.round = none from rfl, Oper.semAt_none]
      generalize (execOp a.eval o).run P s = res at *
      cases res with
      | ok y w' =>
        cases y <;> simp only at hm <;> simp only [Oper.uponIn]
        case value u => exact ih _ _ _ _ _ _ hul (inv.made1 ok hi hx hxi ho hm.1 (hsz x hx) hm.2)
        case enter f args =>
          refine ⟨fun h => by simp [Fence.wide] at h, callsIn_wide.2 (hm.mono fun e w'' ⟨v, he, h1, h2⟩ => ?_)⟩
          subst he
          exact ih _ _ _ _ _ _ hul (inv.made1 ok hi hx hxi ho h1 (hsz x hx) h2)
      | halt y w' => exact hm.elim

theorem quiet_ends {F : Fence} {N : Nat} {ops : Array Oper} {R : Act → Prop} : ∀ (l : List Oper) (a : Act), wpQuietIn F N P ops C R l a → ∃ G, R G
  | [], a, h => ⟨a, h⟩
  | o :: l, a, h => by
    have hif := h.2
    by_cases hw : Region.wanted o (yielded ops a.tmps) = true
    · rw [if_pos hw] at hif
      obtain ⟨v, _, hK⟩ := hif
      exact quiet_ends l _ hK
    · rw [if_neg hw] at hif
      exact quiet_ends l _ hif

/-- what is asked of the operations that make memory, and of what stands behind the head -/
def MixAsk (P : Program) (n : Nat) (nz : List (Nat × Tmp)) (dp : Nat → List Nat) (l : List Oper) (Φ : Nat → List Value → Value → World → World → Prop) (w : World) (Q : Exit → Act → World → Prop) (G : Act) : Prop :=
  (∀ i, isNz nz i = true → ∀ o, l[i]? = some o → ∀ (r : Nat → Value) (s : World), Below w.heap.size w s → (∀ d ∈ dp i, ∃ p q, Φ d (dpv dp r d) (r d) p q ∧ Below q.heap.size q s) →
      makesOp P o (putN nz r G) s fun v s' => Below s.heap.size s s' ∧ Φ i (dpv dp r i) v s s') ∧
  (∀ (r : Nat → Value) (p q : Nat → World) (s : World), Below w.heap.size w s → (∀ i, isNz nz i = true → Φ i (dpv dp r i) (r i) (p i) (q i) ∧ Below (q i).heap.size (q i) s ∧ Below w.heap.size w (p i)) →
      (∀ i i', isNz nz i = true → isNz nz i' = true → i ≠ i' → (q i).heap.size ≤ (p i').heap.size ∨ (q i').heap.size ≤ (p i).heap.size) → wpListIn Fence.wide 0 P l.toArray Q (l.drop n) (putN nz r G) s)

theorem mix_start {n : Nat} {nz : List (Nat × Tmp)} {dp : Nat → List Nat} {bs : List Bool} {l : List Oper} {Φ : Nat → List Value → Value → World → World → Prop} {w : World} {Q : Exit → Act → World → Prop} {a : Act} (hB : mixB n nz dp bs l = true) (hsz : ∀ x ∈ nz, x.2 < a.tmps.size)
    (h : wpQuietIn Fence.wide 0 P (blindL bs l).toArray (fun w' => ∃ s : LaterJ w (fun _ => True), w' = s.w') (fun G =>
      (∀ J : World → Prop, Abides J → Nonempty (LaterJ w J) → wpQuietIn Fence.wide 0 P (blindL bs l).toArray (fun w' => ∃ s : LaterJ w J, w' = s.w') (fun g => g = G) (blindL bs l) a) ∧ MixAsk P n nz dp l Φ w Q G) (blindL bs l) a) :
    wpAnyIn Fence.wide 0 P .any l.toArray Q l.length (Array.replicate l.length false) a w.drew := by
  have ok := mixOk_of hB
  obtain ⟨G, hJ, hN, hT⟩ := quiet_ends _ _ h
  have hsel' := Region.noSelect_spec ok.sel'
  have hE : ∀ J : World → Prop, Abides J → Nonempty (LaterJ w J) → _ := fun J hA hne => lex_end ok.lex hsel' (blindL bs l) 0 a (fun j => by rw [Nat.zero_add]) (hJ J hA hne)
  obtain ⟨⟨e1, e2, e3⟩, _⟩ := hE (fun _ => True) (fun _ _ _ _ => trivial) ⟨⟨w, Below.refl _ _, trivial⟩⟩
  have hnl := ok.nlt
  have hun : ∀ j, j < l.length → (Array.replicate l.length false).getD j true = false := fun j hj => by simp [hj]
  have inv0 : MixInv n nz dp l Φ w G (Array.replicate l.length false) a w.drew (fun _ => undef) (fun _ => w) (fun _ => w) :=
    ⟨⟨by simp, fun j oj _ hl => (by rw [getD_replicate_false] at hl; cases hl), fun t _ ht => hun t (by simpa using ht)⟩, e1.symm, e2.symm, fun t ht => (e3 t fun i _ hti => by
        obtain ⟨h1, h2, _⟩ := ok.blind i t hti
        have := (ht i h1 h2).1
        rw [hun i (by omega)] at this; cases this).symm,
      fun i hi hl => (by rw [hun i (by have := ok.nz_lt hi; omega)] at hl; cases hl), Below.drewSelf w, fun i hi hl => (by rw [hun i (by have := ok.nz_lt hi; omega)] at hl; cases hl), fun i i' hi _ hl => (by rw [hun i (by have := ok.nz_lt hi; omega)] at hl; cases hl)⟩
  have := mix_any ok (fun J hA hne j o ho => (hE J hA hne).2 j o (Nat.zero_le _) ho) hN hT (fun x hx => by rw [e2]; exact hsz x hx) n (Array.replicate l.length false) a w.drew _ _ _ (by unfold unl; refine Nat.le_trans (List.length_filter_le _ _) (by simp)) inv0
  rwa [show l.length - n + n = l.length by omega] at this

theorem wp_region_mix {id n : Nat} {nz : List (Nat × Tmp)} {dp : Nat → List Nat} {bs : List Bool} {l : List Oper} {Φ : Nat → List Value → Value → World → World → Prop} {w : World} {Q : Exit → Act → World → Prop} {a : Act} (hm : P.follows .mixedOrders = true) (hB : mixB n nz dp bs l = true) (hsz : ∀ x ∈ nz, x.2 < a.tmps.size)
    (h : wpQuietIn Fence.wide 0 P (blindL bs l).toArray (fun w' => ∃ s : LaterJ w (fun _ => True), w' = s.w') (fun G =>
      (∀ J : World → Prop, Abides J → Nonempty (LaterJ w J) → wpQuietIn Fence.wide 0 P (blindL bs l).toArray (fun w' => ∃ s : LaterJ w J, w' = s.w') (fun g => g = G) (blindL bs l) a) ∧ MixAsk P n nz dp l Φ w Q G) (blindL bs l) a) :
    (Code.region id l.toArray true).wp P Q a w := by
  refine (wpIn_wide (n := 0)).1 (wpIn_region_any hm ?_)
  have := mix_start hB hsz h
  simpa using this
/-- in a round -/
theorem wpIn_region_mix {i id n : Nat} {nz : List (Nat × Tmp)} {dp : Nat → List Nat} {bs : List Bool} {l : List Oper} {Φ : Nat → List Value → Value → World → World → Prop} {w : World} {Q : Exit → Act → World → Prop} {a : Act} (hm : P.follows .mixedOrders = true) (hB : mixB n nz dp bs l = true) (hd : ∀ o ∈ l, ∀ c, o.op ≠ .defer c) (hsz : ∀ x ∈ nz, x.2 < a.tmps.size)
    (h : wpQuietIn Fence.wide 0 P (blindL bs l).toArray (fun w' => ∃ s : LaterJ w (fun _ => True), w' = s.w') (fun G =>
      (∀ J : World → Prop, Abides J → Nonempty (LaterJ w J) → wpQuietIn Fence.wide 0 P (blindL bs l).toArray (fun w' => ∃ s : LaterJ w J, w' = s.w') (fun g => g = G) (blindL bs l) a) ∧ MixAsk P n nz dp l Φ w Q G) (blindL bs l) a) :
    (Code.region id l.toArray true).wpIn (Fence.wide.inRound i) 0 P Q a w := by
  refine wpIn_region_any hm (wpAnyIn_round rfl i (fun j o ho => hd o (List.mem_of_getElem? (by simpa using ho))) _ _ _ _ ?_)
  have := mix_start hB hsz h
  simpa using this

/-- none that makes memory -/
theorem mixAsk0 {n : Nat} {l : List Oper} {w : World} {Q : Exit → Act → World → Prop} {G : Act} (hT : ∀ s : World, Below w.heap.size w s → wpListIn Fence.wide 0 P l.toArray Q (l.drop n) G s) :
    MixAsk P n [] (fun _ => []) l (fun _ _ _ _ _ => True) w Q G := by
  refine ⟨fun i hi => by simp [isNz] at hi, fun r p q s hs _ _ => hT s hs⟩
/-- one operation that makes memory -/
theorem mixAsk1 {n i : Nat} {d : Tmp} {l : List Oper} {o : Oper} (Φ : Value → World → World → Prop) {w : World} {Q : Exit → Act → World → Prop} {G : Act} (ho : l[i]? = some o)
    (hN : ∀ (u : Value) (s : World), Below w.heap.size w s → makesOp P o (G.put (some d) u) s fun v s' => Below s.heap.size s s' ∧ Φ v s s')
    (hT : ∀ (v : Value) (p q s : World), Below w.heap.size w p → Φ v p q → Below q.heap.size q s → Below w.heap.size w s → wpListIn Fence.wide 0 P l.toArray Q (l.drop n) (G.put (some d) v) s) :
    MixAsk P n [(i, d)] (fun _ => []) l (fun _ _ => Φ) w Q G := by
  refine ⟨fun j hj o' ho' r s hs _ => ?_, fun r p q s hs hm _ => ?_⟩
  · have hj : i = j := by simpa [isNz] using hj
    subst hj
    rw [ho] at ho'; cases ho'
    exact hN (r i) s hs
  · obtain ⟨h1, h2, h3⟩ := hm i (by simp [isNz])
    exact hT (r i) (p i) (q i) s h3 h1 h2 hs
/-- two such, of which none leans on the other -/
theorem mixAsk2 {n i j : Nat} {d e : Tmp} {l : List Oper} {o o2 : Oper} (hij : i ≠ j) (Φ Ψ : Value → World → World → Prop) {w : World} {Q : Exit → Act → World → Prop} {G : Act} (ho : l[i]? = some o) (ho2 : l[j]? = some o2)
    (hN : ∀ (u v : Value) (s : World), Below w.heap.size w s → makesOp P o ((G.put (some d) u).put (some e) v) s fun v s' => Below s.heap.size s s' ∧ Φ v s s')
    (hN2 : ∀ (u v : Value) (s : World), Below w.heap.size w s → makesOp P o2 ((G.put (some d) u).put (some e) v) s fun v s' => Below s.heap.size s s' ∧ Ψ v s s')
    (hT : ∀ (u v : Value) (p q p2 q2 s : World), Below w.heap.size w p → Φ u p q → Below q.heap.size q s → Below w.heap.size w p2 → Ψ v p2 q2 → Below q2.heap.size q2 s → (q.heap.size ≤ p2.heap.size ∨ q2.heap.size ≤ p.heap.size) → Below w.heap.size w s →
      wpListIn Fence.wide 0 P l.toArray Q (l.drop n) ((G.put (some d) u).put (some e) v) s) :
    MixAsk P n [(i, d), (j, e)] (fun _ => []) l (fun k _ => if k = i then Φ else Ψ) w Q G := by
  refine ⟨fun k hk o' ho' r s hs _ => ?_, fun r p q s hs hm ha => ?_⟩
  · have hk : i = k ∨ j = k := by simpa [isNz] using hk
    rcases hk with rfl | rfl
    · rw [ho] at ho'; cases ho'
      simp only [if_true]
      exact hN (r i) (r j) s hs
    · rw [ho2] at ho'; cases ho'
      simp only [if_neg (Ne.symm hij)]
      exact hN2 (r i) (r j) s hs
  · obtain ⟨h1, h2, h3⟩ := hm i (by simp [isNz])
    obtain ⟨h4, h5, h6⟩ := hm j (by simp [isNz])
    simp only [if_true] at h1
    simp only [if_neg (Ne.symm hij)] at h4
    exact hT (r i) (r j) (p i) (q i) (p j) (q j) s h3 h1 h2 h6 h4 h5 (ha i j (by simp [isNz]) (by simp [isNz]) hij) hs

theorem callsJ {f : FuncId} {args : Array Value} {w : World} {J : World → Prop} {s : LaterJ w J} {v : Value} {n : Nat} (hJ : Abides J) (h : Calls P f args s.w' fun e w2 => e = .returned v ∧ Below s.w'.heap.size s.w' w2) :
    CallsIn Fence.wide n P f args s.w' fun e w2 => e = .returned v ∧ ∃ s' : LaterJ w J, w2 = s'.w' :=
  callsIn_wide.2 (h.mono fun _ w2 ⟨he, hB⟩ => ⟨he, ⟨⟨w2, bstep s.h hB, hJ _ _ s.j hB⟩, rfl⟩⟩)
theorem abidesT : Abides fun _ => True := fun _ _ _ _ => trivial
end

@[go_sem ↓ high] theorem asked_wide {P : Program} {o : Oper} {a : Act} {C : World → Prop} : o.askedIn Fence.wide P a C := fun _ _ _ _ => trivial

instance (w : World) : Nonempty (LaterJ w fun _ => True) := ⟨⟨w, Below.refl _ _, trivial⟩⟩

end Go.Proofs.Ytelgbjfgmpkepaa

namespace Go.Proofs.Ytelgbjfgmpkepaa
open Go.RowKit Go.Shelf

/-- how an operation is looked at: as it is, not at all, as one that tells a known value -/
inductive Bk where
  | keep | off | say (v : Value)
def knO (v : Value) (o : Oper) : Oper := { dst := o.dst, op := .move (.const v), type := o.type, pos := o.pos, after := o.after, guard := o.guard }
def Bk.on : Bk → Oper → Oper
  | .keep, o => o
  | .off, o => blindO o
  | .say v, o => knO v o
def blind2 : List Bk → List Oper → List Oper
  | b :: bs, o :: l => b.on o :: blind2 bs l
  | _, l => l
def kv (bs : List Bk) (j : Nat) : Value := match bs[j]? with | some (.say v) => v | _ => undef
theorem blind2_len (bs : List Bk) : ∀ l : List Oper, (blind2 bs l).length = l.length := by
  induction bs with
  | nil => intro l; cases l <;> rfl
  | cons b bs ih => intro l; cases l with
    | nil => rfl
    | cons o l => simp [blind2, ih]
theorem blind2_get {bs : List Bk} : ∀ {l : List Oper} {j : Nat} {b : Bk}, bs[j]? = some b → (blind2 bs l)[j]? = (l[j]?).map b.on := by
  induction bs with
  | nil => intro l j b h; cases h
  | cons b bs ih =>
    intro l j b' h
    cases l with
    | nil => rfl
    | cons o l =>
      cases j with
      | zero => simp at h; subst h; rfl
      | succ j => exact ih (by simpa using h)

section
variable {P : Program} {C : World → Prop}
def isKn (kn : List Nat) (j : Nat) : Bool := kn.contains j
def markOk (n : Nat) (nz : List (Nat × Tmp)) (kn : List Nat) (j : Nat) : Option Bk → Bool
  | some .keep => !isNz nz j && !isKn kn j && decide (j < n)
  | some .off => isNz nz j || decide (n ≤ j)
  | some (.say _) => isKn kn j && !isNz nz j && decide (j < n)
  | none => false
/-- the region's form -/
def mixB2 (n : Nat) (nz : List (Nat × Tmp)) (kn : List Nat) (dp : Nat → List Nat) (bs : List Bk) (l : List Oper) : Bool :=
  (((List.range l.length).all fun j => markOk n nz kn j bs[j]?) && lexOkB (blind2 bs l) && Region.noSelect l.toArray && Region.noSelect (blind2 bs l).toArray && decide (n < l.length) && Region.sinkB .any l.toArray n && Region.chainB .any l.toArray n &&
    Region.seqB .any l.toArray (l.length - n) n (doneL n l.length)) &&
  ((List.range n).all fun j => (List.range n).all fun i => (dstOf l i).all fun d =>
    (!(lookOf l j).contains d || (!decide (i = j) && Region.waitsFor .any l.toArray j i && (!isNz nz i || ((isNz nz j || isKn kn j) && (dp j).contains i)))) && (decide (i = j) || !(dstOf l j).contains d)) &&
  ((List.range n).all fun j => match l[j]? with | some o => o.after.all fun e => !Region.binds .any e || decide (e.on < j) | none => true) &&
  ((List.range n).all fun j => match l[j]? with | some o => (match o.guard with | some (g, _) => decide (g < n) && !isNz nz g | none => true) | none => true) &&
  (nz.all fun x => decide (x.1 < n) && (dstOf l x.1 == [x.2]) && (dp x.1).all fun d => isNz nz d && Region.waitsFor .any l.toArray x.1 d) &&
  (kn.all fun x => (decide (x < n) && !isNz nz x) && (dp x).all fun d => isNz nz d && Region.waitsFor .any l.toArray x d)

structure MixOk2 (n : Nat) (nz : List (Nat × Tmp)) (kn : List Nat) (dp : Nat → List Nat) (bs : List Bk) (l : List Oper) : Prop where
  lex : LexOk (blind2 bs l)
  sel : Region.noSelect l.toArray = true
  sel' : Region.noSelect (blind2 bs l).toArray = true
  nlt : n < l.length
  sink : Region.sinkB .any l.toArray n = true
  chain : Region.chainB .any l.toArray n = true
  seq : Region.seqB .any l.toArray (l.length - n) n (doneL n l.length) = true
  quiet : ∀ j, j < n → isNz nz j = false → isKn kn j = false → (blind2 bs l)[j]? = l[j]?
  known : ∀ j, isKn kn j = true → (blind2 bs l)[j]? = (l[j]?).map (knO (kv bs j))
  look : ∀ j, j < n → ∀ i, i < n → ∀ d ∈ dstOf l i, d ∈ lookOf l j → i ≠ j ∧ Region.waitsFor .any l.toArray j i = true ∧ (isNz nz i = true → (isNz nz j = true ∨ isKn kn j = true) ∧ i ∈ dp j)
  dst : ∀ j, j < n → ∀ i, i < n → i ≠ j → ∀ d ∈ dstOf l i, d ∉ dstOf l j
  back : ∀ j, j < n → ∀ o, l[j]? = some o → ∀ e ∈ o.after, Region.binds .any e = true → e.on < j
  guard : ∀ j, j < n → ∀ o, l[j]? = some o → ∀ g b, o.guard = some (g, b) → g < n ∧ isNz nz g = false
  blind : ∀ i t, t ∈ dstOf (blind2 bs l) i → i < n ∧ t ∈ dstOf l i ∧ isNz nz i = false
  nzok : ∀ x ∈ nz, x.1 < n ∧ dstOf l x.1 = [x.2] ∧ ∀ d ∈ dp x.1, isNz nz d = true ∧ Region.waitsFor .any l.toArray x.1 d = true
  knok : ∀ x, isKn kn x = true → (x < n ∧ isNz nz x = false) ∧ ∀ d ∈ dp x, isNz nz d = true ∧ Region.waitsFor .any l.toArray x d = true

theorem mixOk2_of {n : Nat} {nz : List (Nat × Tmp)} {kn : List Nat} {dp : Nat → List Nat} {bs : List Bk} {l : List Oper} (h : mixB2 n nz kn dp bs l = true) : MixOk2 n nz kn dp bs l := by
  simp only [mixB2, Bool.and_eq_true] at h
  obtain ⟨⟨⟨⟨⟨⟨⟨⟨⟨⟨⟨⟨hbs, hlex⟩, hsel⟩, hsel'⟩, hn⟩, hsink⟩, hchain⟩, hseq⟩, hlook⟩, hback⟩, hguard⟩, hnz⟩, hkn⟩ := h
  have hn := of_decide_eq_true hn
  have mark : ∀ j, j < l.length → markOk n nz kn j bs[j]? = true := fun j hj => List.all_eq_true.1 hbs j (List.mem_range.2 hj)
  have hkno : ∀ x, isKn kn x = true → (x < n ∧ isNz nz x = false) ∧ ∀ d ∈ dp x, isNz nz d = true ∧ Region.waitsFor .any l.toArray x d = true := fun x hx => by
    have h := List.all_eq_true.1 hkn x (List.contains_iff_mem.1 hx)
    simp only [Bool.and_eq_true, decide_eq_true_eq, Bool.not_eq_true'] at h
    exact ⟨h.1, fun d hd => by simpa using List.all_eq_true.1 h.2 d hd⟩
  have key : ∀ j, j < n → ∀ i, i < n → ∀ d ∈ dstOf l i, ((!(lookOf l j).contains d || (!decide (i = j) && Region.waitsFor .any l.toArray j i && (!isNz nz i || ((isNz nz j || isKn kn j) && (dp j).contains i)))) && (decide (i = j) || !(dstOf l j).contains d)) = true := fun j hj i hi d hd =>
    List.all_eq_true.1 (List.all_eq_true.1 (List.all_eq_true.1 hlook j (List.mem_range.2 hj)) i (List.mem_range.2 hi)) d hd
  refine ⟨lexOk_of hlex, hsel, hsel', hn, hsink, hchain, hseq, fun j hj hz hk => ?_, fun j hk => ?_, fun j hj i hi d hd hl => ?_, fun j hj i hi hne d hd hd2 => ?_, fun j hj o ho e he hb => ?_, fun j hj o ho g b hg => ?_, fun i t ht => ?_, fun x hx => ?_, hkno⟩
  · have hm := mark j (by omega)
    cases hb : bs[j]? with
    | none => rw [hb] at hm; cases hm
    | some b =>
      rw [blind2_get hb]
      rw [hb] at hm
      cases b with
      | keep => cases l[j]? <;> rfl
      | off => simp [markOk, hz] at hm; omega
      | say v => simp [markOk, hk] at hm
  · obtain ⟨⟨h1, h2⟩, _⟩ := hkno j hk
    have hm := mark j (by omega)
    cases hb : bs[j]? with
    | none => rw [hb] at hm; cases hm
    | some b =>
      rw [blind2_get hb]
      rw [hb] at hm
      cases b with
      | keep => simp [markOk, hk] at hm
      | off => simp [markOk, h2] at hm; omega
      | say v =>
        have e : kv bs j = v := by simp [kv, hb]
        rw [e]; cases l[j]? <;> rfl
  · have h := key j hj i hi d hd
    rw [List.contains_iff_mem.2 hl] at h
    simp only [Bool.not_true, Bool.false_or, Bool.and_eq_true, Bool.not_eq_true', decide_eq_false_iff_not, Bool.or_eq_true, List.contains_iff_mem] at h
    exact ⟨h.1.1.1, h.1.1.2, fun hz => h.1.2.resolve_left fun h => by rw [hz] at h; cases h⟩
  · have h := key j hj i hi d hd
    rw [List.contains_iff_mem.2 hd2] at h
    simp [hne] at h
  · have h := List.all_eq_true.1 hback j (List.mem_range.2 hj)
    rw [ho] at h
    have := Array.all_eq_true_iff_forall_mem.1 h e he
    simp only [hb, Bool.not_true, Bool.false_or, decide_eq_true_eq] at this
    exact this
  · have h := List.all_eq_true.1 hguard j (List.mem_range.2 hj)
    rw [ho] at h
    simp only [hg, Bool.and_eq_true, decide_eq_true_eq, Bool.not_eq_true'] at h
    exact h
  · obtain ⟨o, ho, hd⟩ := of_dst ht
    rcases Nat.lt_or_ge i l.length with hi | hi
    · have hm := mark i hi
      cases hb : bs[i]? with
      | none => rw [hb] at hm; cases hm
      | some b =>
        rw [hb] at hm
        rw [blind2_get hb] at ho
        cases hl : l[i]? with
        | none => rw [hl] at ho; cases ho
        | some o2 =>
          rw [hl] at ho
          simp only [Option.map_some, Option.some.injEq] at ho
          cases b with
          | keep =>
            simp [markOk] at hm
            have ho : o2 = o := ho
            subst ho
            exact ⟨hm.2, dst_of hl hd, hm.1.1⟩
          | off => rw [← ho] at hd; cases hd
          | say v =>
            simp [markOk] at hm
            rw [← ho] at hd
            exact ⟨hm.2, dst_of hl hd, hm.1.2⟩
    · rw [List.getElem?_eq_none (by rw [blind2_len]; exact hi)] at ho; cases ho
  · have h := List.all_eq_true.1 hnz x hx
    simp only [Bool.and_eq_true, decide_eq_true_eq, beq_iff_eq] at h
    obtain ⟨⟨h1, h2⟩, h5⟩ := h
    exact ⟨h1, h2, fun d hd => by simpa using List.all_eq_true.1 h5 d hd⟩

section
variable {n : Nat} {nz : List (Nat × Tmp)} {dp : Nat → List Nat} {kn : List Nat} {bs : List Bk} {l : List Oper} {Φ : Nat → List Value → Value → World → World → Prop} {w : World} {G : Act} {listed : Array Bool} {a : Act} {s : World} {r : Nat → Value} {p q : Nat → World}
theorem MixOk2.dst_nz (ok : MixOk2 n nz kn dp bs l) {x : Nat × Tmp} (hx : x ∈ nz) {t : Tmp} {j : Nat} (hj : j < n) (ht : t ∈ dstOf l j) (hz : isNz nz j = true) (hall : ∀ y ∈ nz, y.2 ≠ t) : False := by
  have _ := hx; have _ := hj
  obtain ⟨y, hy, rfl⟩ := isNz_iff.1 hz
  obtain ⟨_, h2, _⟩ := ok.nzok y hy
  rw [h2] at ht
  exact hall y hy (List.mem_singleton.1 ht).symm
theorem MixOk2.not_nz (ok : MixOk2 n nz kn dp bs l) {t : Tmp} {j : Nat} (ht : t ∈ dstOf l j) (hall : ∀ y ∈ nz, y.2 ≠ t) : isNz nz j = false := by
  cases hz : isNz nz j with
  | false => rfl
  | true =>
    obtain ⟨y, hy, rfl⟩ := isNz_iff.1 hz
    obtain ⟨_, h2, _⟩ := ok.nzok y hy
    rw [h2] at ht
    exact absurd (List.mem_singleton.1 ht).symm (hall y hy)
theorem MixOk2.nz_lt (ok : MixOk2 n nz kn dp bs l) {j : Nat} (hz : isNz nz j = true) : j < n := by
  obtain ⟨y, hy, rfl⟩ := isNz_iff.1 hz
  exact (ok.nzok y hy).1
theorem MixOk2.one (ok : MixOk2 n nz kn dp bs l) {x y : Nat × Tmp} (hx : x ∈ nz) (hy : y ∈ nz) (e : x.2 = y.2) : x.1 = y.1 := by
  obtain ⟨h1, h2, _⟩ := ok.nzok x hx
  obtain ⟨h3, h4, _⟩ := ok.nzok y hy
  refine Classical.byContradiction fun hne => ?_
  exact ok.dst y.1 h3 x.1 h1 hne x.2 (by rw [h2]; simp) (by rw [h4, e]; simp)

theorem MixInv.quiet2 (ok : MixOk2 n nz kn dp bs l) (inv : MixInv n nz dp l Φ w G listed a s r p q) {i : Nat} (hi : i ∈ Region.ready .any l.toArray listed) (hin : i < n) (hz : isNz nz i = false) {o : Oper} (ho : l[i]? = some o) {v : Value} (hG : G.put o.dst v = G)
    {s' : World} (hs : Below s.heap.size s s') : MixInv n nz dp l Φ w G (listed.setIfInBounds i true) (a.put o.dst v) s' r p q := by
  have hlis : ∀ j, isNz nz j = true → (listed.setIfInBounds i true).getD j true = true → listed.getD j true = true := fun j hj h => by
    rwa [getD_set_ne true (fun e => by rw [e] at hz; rw [hz] at hj; cases hj)] at h
  refine ⟨inv.head.set hi hin, by rw [put_defers]; exact inv.defers, by rw [put_size]; exact inv.size, fun t ht => ?_, fun j hj hl d hd => ?_, inv.later.trans (hs.mono inv.later.size), fun j hj hl => ?_, fun j j' hj hj' hl hl' hne => inv.apart j j' hj hj' (hlis j hj hl) (hlis j' hj' hl') hne⟩
  · by_cases hd : o.dst = some t
    · have e1 : (a.put o.dst v).tmps[t]? = (G.put o.dst v).tmps[t]? := by
        rw [hd]; simp only [Act.put, Array.getElem?_setIfInBounds_self]; rw [inv.size]
      rw [e1, hG]
    · rw [put_get hd]
      refine inv.slot t fun j hj htj => ?_
      have h := ht j hj htj
      by_cases e : i = j
      · subst e
        obtain ⟨o', ho', hd'⟩ := of_dst htj
        rw [ho] at ho'; cases ho'
        exact absurd hd' hd
      · rw [getD_set_ne true e] at h; exact h
  · have hne : i ≠ j := fun e => by rw [e] at hz; rw [hz] at hj; cases hj
    rw [put_get fun e => ok.dst i hin j (ok.nz_lt hj) (fun e => hne e.symm) d hd (dst_of ho e)]
    exact inv.noisy j hj (hlis j hj hl) d hd
  · obtain ⟨h1, h2, h3⟩ := inv.made j hj (hlis j hj hl)
    exact ⟨h1, bstep h2 hs, h3⟩

theorem MixInv.made2 (ok : MixOk2 n nz kn dp bs l) (inv : MixInv n nz dp l Φ w G listed a s r p q) {i : Nat} (hi : i ∈ Region.ready .any l.toArray listed) {x : Nat × Tmp} (hx : x ∈ nz) (hxi : x.1 = i) {o : Oper} (ho : l[i]? = some o) {v : Value}
    {s' : World} (hs : Below s.heap.size s s') (hsz : x.2 < G.tmps.size) (hΦ : Φ i (dpv dp r i) v s s') :
    MixInv n nz dp l Φ w G (listed.setIfInBounds i true) (a.put o.dst v) s' (fun k => if k = i then v else r k) (fun k => if k = i then s else p k) (fun k => if k = i then s' else q k) := by
  obtain ⟨hin, hdi, hdw⟩ := ok.nzok x hx
  rw [hxi] at hin hdi hdw
  have hun := (mem_ready.1 hi).1
  have hod : o.dst = some x.2 := by
    obtain ⟨o', ho', hd'⟩ := of_dst (show x.2 ∈ dstOf l i by rw [hdi]; simp)
    rw [ho] at ho'; cases ho'; exact hd'
  have hiz : isNz nz i = true := isNz_iff.2 ⟨x, hx, hxi⟩
  have hlis : ∀ j, j ≠ i → (listed.setIfInBounds i true).getD j true = true → listed.getD j true = true := fun j hj h => by rwa [getD_set_ne true (fun e => hj e.symm)] at h
  -- what leans on i is not listed
  have hdep : ∀ j, isNz nz j = true → listed.getD j true = true → i ∉ dp j := fun j hj hl hd => by
    obtain ⟨y, hy, rfl⟩ := isNz_iff.1 hj
    obtain ⟨h1, _, h5⟩ := ok.nzok y hy
    obtain ⟨oj, hoj, e2, he, hb, hon⟩ := Region.waitsFor_spec (h5 i hd).2
    have hls : y.1 < listed.size := by rw [inv.head.size]; have := ok.nlt; simp; omega
    have := inv.head.closed y.1 oj hoj (getD_false_of hls hl) e2 he hb
    rw [hon] at this
    rw [getD_true this] at hun; cases hun
  have hself : i ∉ dp i := fun hd => by
    obtain ⟨oj, hoj, e2, he, hb, hon⟩ := Region.waitsFor_spec (hdw i hd).2
    obtain ⟨_, o', ho', hafter⟩ := mem_ready.1 hi
    rw [hoj] at ho'; cases ho'
    have := hafter e2 he hb
    rw [hon] at this
    rw [getD_true this] at hun; cases hun
  refine ⟨inv.head.set hi hin, by rw [put_defers]; exact inv.defers, by rw [put_size]; exact inv.size, fun t ht => ?_, fun j hj hl d hd => ?_, inv.later.trans (hs.mono inv.later.size), fun j hj hl => ?_, fun j j' hj hj' hl hl' hne => ?_⟩
  · have htx : x.2 ≠ t := fun e => by
      have := (ht i hin (by rw [hdi, e]; simp)).2
      rw [hiz] at this; cases this
    rw [hod, put_get fun e => htx (Option.some.inj e)]
    refine inv.slot t fun j hj htj => ?_
    have h := ht j hj htj
    by_cases e : i = j
    · subst e; rw [hiz] at h; cases h.2
    · rw [getD_set_ne true e] at h; exact h
  · by_cases e : j = i
    · subst e
      rw [hdi] at hd
      obtain rfl := List.mem_singleton.1 hd
      rw [hod]
      simp [Act.put, inv.size, hsz]
    · rw [put_get fun e2 => ok.dst i hin j (ok.nz_lt hj) e d hd (dst_of ho e2), if_neg e]
      exact inv.noisy j hj (hlis j e hl) d hd
  · by_cases e : j = i
    · subst e
      have e1 : dpv dp (fun k => if k = j then v else r k) j = dpv dp r j := by
        unfold dpv
        exact List.map_congr_left fun d hd => if_neg fun e => hself (by rw [e] at hd; exact hd)
      rw [e1]
      simp only [if_true]
      exact ⟨hΦ, Below.refl _ _, inv.later⟩
    · have hl0 := hlis j e hl
      obtain ⟨h1, h2, h3⟩ := inv.made j hj hl0
      have e1 : dpv dp (fun k => if k = i then v else r k) j = dpv dp r j := by
        unfold dpv
        exact List.map_congr_left fun d hd => if_neg fun e2 => hdep j hj hl0 (by rw [e2] at hd; exact hd)
      rw [e1, if_neg e, if_neg e, if_neg e]
      exact ⟨h1, bstep h2 hs, h3⟩
  · by_cases e : j = i
    · subst e
      have e2 : j' ≠ j := fun h => hne h.symm
      rw [if_pos rfl, if_pos rfl, if_neg e2, if_neg e2]
      exact .inr (inv.made j' hj' (hlis j' e2 hl')).2.1.size
    · by_cases e2 : j' = i
      · subst e2
        rw [if_pos rfl, if_pos rfl, if_neg e, if_neg e]
        exact .inl (inv.made j hj (hlis j e hl)).2.1.size
      · rw [if_neg e, if_neg e, if_neg e2, if_neg e2]
        exact inv.apart j j' hj hj' (hlis j e hl) (hlis j' e2 hl') hne
end

theorem mix_any2 {n : Nat} {nz : List (Nat × Tmp)} {kn : List Nat} {dp : Nat → List Nat} {bs : List Bk} {l : List Oper} {Φ : Nat → List Value → Value → World → World → Prop} {w : World} {G : Act} {Q : Exit → Act → World → Prop} (ok : MixOk2 n nz kn dp bs l)
    (hQ : ∀ (J : World → Prop), Abides J → Nonempty (LaterJ w J) → ∀ (j : Nat) (o : Oper), (blind2 bs l)[j]? = some o → AtEnd P (blind2 bs l).toArray (fun w' => ∃ s : LaterJ w J, w' = s.w') G o)
    (hN : ∀ i, isNz nz i = true → ∀ o, l[i]? = some o → ∀ (r : Nat → Value) (s : World), Below w.heap.size w s → (∀ d ∈ dp i, ∃ p q, Φ d (dpv dp r d) (r d) p q ∧ Below q.heap.size q s) →
      Region.wanted o (yielded l.toArray (putN nz r G).tmps) = true ∧ makesOp P o (putN nz r G) s fun v s' => Below s.heap.size s s' ∧ Φ i (dpv dp r i) v s s')
    (hK : ∀ i, isKn kn i = true → ∀ o, l[i]? = some o → ∀ (r : Nat → Value) (s : World), Below w.heap.size w s → (∀ d ∈ dp i, ∃ p q, Φ d (dpv dp r d) (r d) p q ∧ Below q.heap.size q s) →
      makesOp P o (putN nz r G) s fun v s' => Below s.heap.size s s' ∧ v = kv bs i)
    (hT : ∀ (r : Nat → Value) (p q : Nat → World) (s : World), Below w.heap.size w s → (∀ i, isNz nz i = true → Φ i (dpv dp r i) (r i) (p i) (q i) ∧ Below (q i).heap.size (q i) s ∧ Below w.heap.size w (p i)) →
      (∀ i i', isNz nz i = true → isNz nz i' = true → i ≠ i' → (q i).heap.size ≤ (p i').heap.size ∨ (q i').heap.size ≤ (p i).heap.size) → wpListIn Fence.wide 0 P l.toArray Q (l.drop n) (putN nz r G) s)
    (hsz : ∀ x ∈ nz, x.2 < G.tmps.size) :
    ∀ (h : Nat) (listed : Array Bool) (a : Act) (s : World) (r : Nat → Value) (p q : Nat → World), unl n listed ≤ h → MixInv n nz dp l Φ w G listed a s r p q → wpAnyIn Fence.wide 0 P .any l.toArray Q ((l.length - n) + h) listed a s := by
  have hnl := ok.nlt
  -- the head is done
  have fin : ∀ (h : Nat) (listed : Array Bool) (a : Act) (s : World) (r : Nat → Value) (p q : Nat → World), (∀ j, j < n → listed.getD j true = true) → MixInv n nz dp l Φ w G listed a s r p q → wpAnyIn Fence.wide 0 P .any l.toArray Q ((l.length - n) + h) listed a s := by
    intro h listed a s r p q hall inv
    have ha : a = putN nz r G := by
      obtain ⟨e1, e2⟩ := putN_size nz r G
      have e3 : a.tmps = (putN nz r G).tmps := by
        apply Array.ext_getElem?
        intro t
        by_cases hx : ∃ x ∈ nz, x.2 = t
        · obtain ⟨x, hx, rfl⟩ := hx
          rw [putN_at (i := x.1) (fun y hy e => ok.one hy hx e) ⟨x, hx, rfl⟩ G (hsz x hx)]
          obtain ⟨h1, h2, _⟩ := ok.nzok x hx
          exact inv.noisy x.1 (isNz_iff.2 ⟨x, hx, rfl⟩) (hall x.1 h1) x.2 (by rw [h2]; simp)
        · rw [putN_other (fun y hy e => hx ⟨y, hy, e⟩)]
          exact inv.slot t fun j hj htj => ⟨hall j hj, ok.not_nz htj fun y hy e => hx ⟨y, hy, e⟩⟩
      have e4 := inv.defers
      rw [← e2] at e4
      cases a; cases hP : putN nz r G; rw [hP] at e3 e4; cases e3; cases e4; rfl
    have hl : listed = doneL n l.length := by
      have hs : listed.size = l.length := by rw [inv.head.size]; simp
      apply Array.ext (by rw [hs]; simp [doneL])
      intro j hj hj2
      have e : (doneL n l.length)[j] = decide (j < n) := by simp [doneL]
      rw [e]
      by_cases hjn : j < n
      · have := hall j hjn
        simp [hj] at this
        rw [this]; simp [hjn]
      · have := inv.head.tail j (by omega) (by simp; omega)
        simp [hj] at this
        rw [this]; simp [hjn]
    have hm : ∀ i, isNz nz i = true → listed.getD i true = true := fun i hi => hall i (ok.nz_lt hi)
    have hw := hT r p q s inv.later (fun i hi => inv.made i hi (hm i hi)) fun i i' hi hi' hne => inv.apart i i' hi hi' (hm i hi) (hm i' hi') hne
    rw [← ha] at hw
    have hd : (l.drop n).length = l.length - n := by simp
    rw [← hd]
    exact wpAnyIn_of_seq h (l.drop n) n listed a s (fun j => by simp [List.getElem?_drop]) (by rw [hd, hl]; exact ok.seq) hw
  intro h
  induction h with
  | zero =>
    intro listed a s r p q hu inv
    refine fin 0 listed a s r p q (fun j hj => ?_) inv
    cases hj2 : listed.getD j true with
    | true => rfl
    | false =>
      have : j ∈ (List.range n).filter fun j => !listed.getD j true := List.mem_filter.2 ⟨List.mem_range.2 hj, by rw [hj2]; rfl⟩
      have h0 : ((List.range n).filter fun j => !listed.getD j true).length = 0 := Nat.le_zero.1 hu
      rw [List.eq_nil_of_length_eq_zero h0] at this
      cases this
  | succ h ih =>
    intro listed a s r p q hu inv
    by_cases hall : ∀ j, j < n → listed.getD j true = true
    · exact fin (h + 1) listed a s r p q hall inv
    -- the first that is to come
    have hex : ∃ k, k < n ∧ listed.getD k true = false ∧ ∀ j, j < k → listed.getD j true = true := by
      have : ∀ m, (∀ j, j < m → listed.getD j true = true) ∨ ∃ k, k < m ∧ listed.getD k true = false ∧ ∀ j, j < k → listed.getD j true = true := by
        intro m
        induction m with
        | zero => exact .inl fun j hj => by omega
        | succ m ihm =>
          rcases ihm with h | ⟨k, h1, h2, h3⟩
          · cases hm : listed.getD m true with
            | true =>
              refine .inl fun j hj => ?_
              rcases Nat.lt_or_eq_of_le (Nat.lt_succ_iff.1 hj) with h1 | rfl
              · exact h j h1
              · exact hm
            | false => exact .inr ⟨m, by omega, hm, h⟩
          · exact .inr ⟨k, by omega, h2, h3⟩
      exact (this n).resolve_left hall
    obtain ⟨k, hkn, hku, hkl⟩ := hex
    have hsz2 : listed.size = l.length := by rw [inv.head.size]; simp
    have hkr : k ∈ Region.ready .any l.toArray listed := by
      have hk0 : l[k]? = some (l[k]'(by omega)) := by simp
      refine mem_ready.2 ⟨hku, l[k]'(by omega), (by rw [List.getElem?_toArray]; exact hk0), fun e he hb => ?_⟩
      have := ok.back k hkn _ hk0 e he hb
      exact getD_false_of (by omega) (hkl _ this)
    rw [show (l.length - n) + (h + 1) = ((l.length - n) + h) + 1 by omega]
    refine ⟨(fun h0 => by rw [h0] at hkr; cases hkr), fun i hi => ?_⟩
    have hin : i < n := by
      rcases Nat.lt_or_ge i n with h1 | h1
      · exact h1
      · exact absurd hi (tail_waits ok.sink ok.chain (by simpa using hnl) inv.head _ k rfl hkn hku i h1)
    obtain ⟨hiu, o, hoA, hafter⟩ := mem_ready.1 hi
    have ho : l[i]? = some o := by simpa using hoA
    have hul : unl n (listed.setIfInBounds i true) ≤ h := by have := unl_set (n := n) hin (by omega) hiu; omega
    -- what it looks at is there
    have hlk : ∀ j, j < n → ∀ d ∈ dstOf l j, d ∈ o.looksAt l.toArray → listed.getD j true = true ∧ (isNz nz j = true → (isNz nz i = true ∨ isKn kn i = true) ∧ j ∈ dp i) := fun j hj d hd hdo => by
      obtain ⟨_, h2, h3⟩ := ok.look i hin j hj d hd (by unfold lookOf; rw [ho]; exact hdo)
      obtain ⟨o', ho', e, he, hb, hon⟩ := Region.waitsFor_spec h2
      rw [hoA] at ho'; cases ho'
      have := hafter e he hb
      rw [hon] at this
      exact ⟨getD_true this, h3⟩
    have hsel := Region.noSelect_spec ok.sel i o
    -- at the slots that an operation looks at
    have hsameR : ∀ d ∈ o.looksAt l.toArray, a.tmps[d]? = (putN nz r G).tmps[d]? := fun d hd => by
        by_cases hy : ∃ y ∈ nz, y.2 = d
        · obtain ⟨y, hy, rfl⟩ := hy
          obtain ⟨h1, h2, _⟩ := ok.nzok y hy
          rw [putN_at (i := y.1) (fun z hz e => ok.one hz hy e) ⟨y, hy, rfl⟩ G (hsz y hy)]
          obtain ⟨h3, _⟩ := hlk y.1 h1 y.2 (by rw [h2]; simp) hd
          exact inv.noisy y.1 (isNz_iff.2 ⟨y, hy, rfl⟩) h3 y.2 (by rw [h2]; simp)
        · rw [putN_other (fun y hy2 e => hy ⟨y, hy2, e⟩)]
          exact inv.slot d fun j hj hdj => ⟨(hlk j hj d hdj hd).1, ok.not_nz hdj fun y hy2 e => hy ⟨y, hy2, e⟩⟩
    have hdep : ∀ d, Region.waitsFor .any l.toArray i d = true → isNz nz d = true → ∃ p q, Φ d (dpv dp r d) (r d) p q ∧ Below q.heap.size q s := fun d hwf hdz => by
        have hl : listed.getD d true = true := by
          obtain ⟨o', ho', e, he, hb, hon⟩ := Region.waitsFor_spec hwf
          rw [hoA] at ho'; cases ho'
          have := hafter e he hb
          rw [hon] at this
          exact getD_true this
        obtain ⟨h1, h2, _⟩ := inv.made d hdz hl
        exact ⟨_, _, h1, h2⟩
    have hgd : ∀ g b, o.guard = some (g, b) → (l.toArray[g]?).bind (·.dst) = ((blind2 bs l).toArray[g]?).bind (·.dst) := fun g b hg => by
        obtain ⟨h1, h2⟩ := ok.guard i hin o ho g b hg
        simp only [List.getElem?_toArray]
        cases hk : isKn kn g with
        | false => rw [ok.quiet g h1 h2 hk]
        | true => rw [ok.known g hk]; cases l[g]? <;> rfl
    -- the guard stands in a quiet slot
    have hgG : ∀ g b, o.guard = some (g, b) → ∀ d, (l.toArray[g]?).bind (·.dst) = some d → a.tmps[d]? = G.tmps[d]? := fun g b hg d hd => by
        obtain ⟨h1, h2⟩ := ok.guard i hin o ho g b hg
        have hdl : d ∈ o.looksAt l.toArray := by unfold Oper.looksAt; rw [hg]; refine List.mem_append_right _ ?_; simp; simpa using hd
        refine inv.slot d fun j hj hdj => ⟨(hlk j hj d hdj hdl).1, ?_⟩
        by_cases e : j = g
        · rw [e]; exact h2
        · refine absurd hdj (ok.dst j hj g h1 (fun e2 => e e2.symm) d ?_)
          cases hg0 : l[g]? with
          | none => simp [hg0] at hd
          | some og => simp [hg0] at hd; exact dst_of hg0 hd
    have hwG : Region.wanted o (yielded l.toArray a.tmps) = Region.wanted o (yielded (blind2 bs l).toArray G.tmps) := by
        unfold Region.wanted
        cases hg0 : o.guard with
        | none => rfl
        | some pr =>
          obtain ⟨g, want⟩ := pr
          simp only
          congr 1
          unfold yielded
          rw [← hgd g want hg0]
          cases hd : (l.toArray[g]?).bind (·.dst) with
          | none => rfl
          | some d => simp [hgG g want hg0 d hd]
    unfold wpOpIn
    simp only [hoA]
    cases hz : isNz nz i with
    | false =>
     cases hkn : isKn kn i with
     | false =>
      have hsame : ∀ d ∈ o.looksAt l.toArray, a.tmps[d]? = G.tmps[d]? := fun d hd => inv.slot d fun j hj hdj => by
        obtain ⟨h1, h2⟩ := hlk j hj d hdj hd
        refine ⟨h1, ?_⟩
        cases hjz : isNz nz j with
        | false => rfl
        | true => rcases (h2 hjz).1 with h | h; (rw [hz] at h; cases h); (rw [hkn] at h; cases h)
      have hE := hQ (fun B => Below s.heap.size s B) (fun A B hA hB => bstep hA hB) ⟨⟨s, inv.later, Below.refl _ _⟩⟩ i o (by rw [ok.quiet i hin hz hkn]; exact ho)
      unfold AtEnd at hE
      have hwe := hwG
      rw [← hwe] at hE
      by_cases hw : Region.wanted o (yielded l.toArray a.tmps) = true
      · rw [if_pos hw] at hE ⊢
        obtain ⟨v, hv, hG⟩ := hE
        have hq := hv s ⟨⟨s, inv.later, Below.refl _ _⟩, rfl⟩
        unfold Oper.quietAtIn at hq
        rw [← execOp_congr o (fun cs b => hsel cs b hoA) (eval_same hsame)] at hq
        unfold Oper.wpIn
        refine ⟨fun _ _ => trivial, ?_⟩
        rw [show Fence.wide.round = none from rfl, Oper.semAt_none]
        generalize (execOp a.eval o).run P s = res at *
        cases res with
        | ok x w' =>
          cases x <;> simp only [Oper.quietUponIn] at hq <;> simp only [Oper.uponIn]
          case value u =>
            obtain ⟨e1, e2⟩ := hq
            rw [e1, e2]
            exact ih _ _ _ _ _ _ hul (inv.quiet2 ok hi hin hz ho hG (Below.refl _ _))
          case skip =>
            obtain ⟨e1, e2⟩ := hq
            rw [e1, ← e2]
            exact ih _ _ _ _ _ _ hul (inv.quiet2 ok hi hin hz ho hG (Below.refl _ _))
          case enter f args =>
            obtain ⟨e1, _, hc⟩ := hq
            rw [e1]
            refine ⟨fun h => by simp [Fence.wide] at h, hc.mono fun e w'' ⟨he, s', hs'⟩ => ?_⟩
            subst he
            rw [hs']
            exact ih _ _ _ _ _ _ hul (inv.quiet2 ok hi hin hz ho hG s'.j)
        | halt x w' => simp only [Oper.quietUponIn] at hq
      · rw [if_neg hw] at hE ⊢
        exact ⟨fun _ _ => trivial, ih _ _ _ _ _ _ hul (inv.quiet2 ok hi hin hz ho hE (Below.refl _ _))⟩
     | true =>
      have hE := hQ (fun B => Below s.heap.size s B) (fun A B hA hB => bstep hA hB) ⟨⟨s, inv.later, Below.refl _ _⟩⟩ i (knO (kv bs i) o) (by rw [ok.known i hkn, ho]; rfl)
      unfold AtEnd at hE
      have hwe : Region.wanted o (yielded l.toArray a.tmps) = Region.wanted (knO (kv bs i) o) (yielded (blind2 bs l).toArray G.tmps) := hwG
      rw [← hwe] at hE
      by_cases hw : Region.wanted o (yielded l.toArray a.tmps) = true
      · rw [if_pos hw] at hE ⊢
        obtain ⟨v, hv, hG⟩ := hE
        have hq := hv s ⟨⟨s, inv.later, Below.refl _ _⟩, rfl⟩
        have hvk : v = kv bs i := by
          unfold Oper.quietAtIn at hq
          simp [knO, execOp, Oper.quietUponIn, Act.eval] at hq
          first | exact hq.symm | exact hq | exact hq.2.symm | exact hq.2
        subst hvk
        have hG : G.put o.dst (kv bs i) = G := hG
        have hm := hK i hkn o ho r s inv.later fun d hd => hdep d ((ok.knok i hkn).2 d hd).2 ((ok.knok i hkn).2 d hd).1
        unfold makesOp at hm
        rw [← execOp_congr o (fun cs b => hsel cs b hoA) (eval_same hsameR)] at hm
        unfold Oper.wpIn
        refine ⟨fun _ _ => trivial, ?_⟩
        rw [show Fence.wide.round = none from rfl, Oper.semAt_none]
        generalize (execOp a.eval o).run P s = res at *
        cases res with
        | ok y w' =>
          cases y <;> simp only at hm <;> simp only [Oper.uponIn]
          case value u =>
            obtain ⟨e1, e2⟩ := hm
            rw [e2]
            exact ih _ _ _ _ _ _ hul (inv.quiet2 ok hi hin hz ho hG e1)
          case enter f args =>
            refine ⟨fun h => by simp [Fence.wide] at h, callsIn_wide.2 (hm.mono fun e w'' ⟨v, he, h1, h2⟩ => ?_)⟩
            subst he h2
            exact ih _ _ _ _ _ _ hul (inv.quiet2 ok hi hin hz ho hG h1)
        | halt y w' => exact hm.elim
      · rw [if_neg hw] at hE ⊢
        exact ⟨fun _ _ => trivial, ih _ _ _ _ _ _ hul (inv.quiet2 ok hi hin hz ho hE (Below.refl _ _))⟩
    | true =>
      obtain ⟨x, hx, hxi⟩ := isNz_iff.1 hz
      obtain ⟨_, hdi, hdw⟩ := ok.nzok x hx
      rw [hxi] at hdi hdw
      obtain ⟨hw2, hm⟩ := hN i hz o ho r s inv.later fun d hd => hdep d (hdw d hd).2 (hdw d hd).1
      have hw : Region.wanted o (yielded l.toArray a.tmps) = true := by
        rw [wanted_same (ops := l.toArray) (ops' := l.toArray) (b := putN nz r G) hsameR (fun _ _ _ => rfl)]; exact hw2
      rw [if_pos hw]
      unfold makesOp at hm
      rw [← execOp_congr o (fun cs b => hsel cs b hoA) (eval_same hsameR)] at hm
      unfold Oper.wpIn
      refine ⟨fun _ _ => trivial, ?_⟩
      rw [show Fence.wide.round = none from rfl, Oper.semAt_none]
      generalize (execOp a.eval o).run P s = res at *
      cases res with
      | ok y w' =>
        cases y <;> simp only at hm <;> simp only [Oper.uponIn]
        case value u => exact ih _ _ _ _ _ _ hul (inv.made2 ok hi hx hxi ho hm.1 (hsz x hx) hm.2)
        case enter f args =>
          refine ⟨fun h => by simp [Fence.wide] at h, callsIn_wide.2 (hm.mono fun e w'' ⟨v, he, h1, h2⟩ => ?_)⟩
          subst he
          exact ih _ _ _ _ _ _ hul (inv.made2 ok hi hx hxi ho h1 (hsz x hx) h2)
      | halt y w' => exact hm.elim

/-- what is asked of the operations that make memory, and of what stands behind the head -/
def MixAsk2 (P : Program) (n : Nat) (nz : List (Nat × Tmp)) (kn : List Nat) (bs : List Bk) (dp : Nat → List Nat) (l : List Oper) (Φ : Nat → List Value → Value → World → World → Prop) (w : World) (Q : Exit → Act → World → Prop) (G : Act) : Prop :=
  (∀ i, isNz nz i = true → ∀ o, l[i]? = some o → ∀ (r : Nat → Value) (s : World), Below w.heap.size w s → (∀ d ∈ dp i, ∃ p q, Φ d (dpv dp r d) (r d) p q ∧ Below q.heap.size q s) →
      Region.wanted o (yielded l.toArray (putN nz r G).tmps) = true ∧ makesOp P o (putN nz r G) s fun v s' => Below s.heap.size s s' ∧ Φ i (dpv dp r i) v s s') ∧
  (∀ i, isKn kn i = true → ∀ o, l[i]? = some o → ∀ (r : Nat → Value) (s : World), Below w.heap.size w s → (∀ d ∈ dp i, ∃ p q, Φ d (dpv dp r d) (r d) p q ∧ Below q.heap.size q s) →
      makesOp P o (putN nz r G) s fun v s' => Below s.heap.size s s' ∧ v = kv bs i) ∧
  (∀ (r : Nat → Value) (p q : Nat → World) (s : World), Below w.heap.size w s → (∀ i, isNz nz i = true → Φ i (dpv dp r i) (r i) (p i) (q i) ∧ Below (q i).heap.size (q i) s ∧ Below w.heap.size w (p i)) →
      (∀ i i', isNz nz i = true → isNz nz i' = true → i ≠ i' → (q i).heap.size ≤ (p i').heap.size ∨ (q i').heap.size ≤ (p i).heap.size) → wpListIn Fence.wide 0 P l.toArray Q (l.drop n) (putN nz r G) s)

theorem mix_start2 {n : Nat} {nz : List (Nat × Tmp)} {dp : Nat → List Nat} {kn : List Nat} {bs : List Bk} {l : List Oper} {Φ : Nat → List Value → Value → World → World → Prop} {w : World} {Q : Exit → Act → World → Prop} {a : Act} (hB : mixB2 n nz kn dp bs l = true) (hsz : ∀ x ∈ nz, x.2 < a.tmps.size)
    (h : wpQuietIn Fence.wide 0 P (blind2 bs l).toArray (fun w' => ∃ s : LaterJ w (fun _ => True), w' = s.w') (fun G =>
      (∀ J : World → Prop, Abides J → Nonempty (LaterJ w J) → wpQuietIn Fence.wide 0 P (blind2 bs l).toArray (fun w' => ∃ s : LaterJ w J, w' = s.w') (fun g => g = G) (blind2 bs l) a) ∧ MixAsk2 P n nz kn bs dp l Φ w Q G) (blind2 bs l) a) :
    wpAnyIn Fence.wide 0 P .any l.toArray Q l.length (Array.replicate l.length false) a w.drew := by
  have ok := mixOk2_of hB
  obtain ⟨G, hJ, hN, hK, hT⟩ := quiet_ends _ _ h
  have hsel' := Region.noSelect_spec ok.sel'
  have hE : ∀ J : World → Prop, Abides J → Nonempty (LaterJ w J) → _ := fun J hA hne => lex_end ok.lex hsel' (blind2 bs l) 0 a (fun j => by rw [Nat.zero_add]) (hJ J hA hne)
  obtain ⟨⟨e1, e2, e3⟩, _⟩ := hE (fun _ => True) (fun _ _ _ _ => trivial) ⟨⟨w, Below.refl _ _, trivial⟩⟩
  have hnl := ok.nlt
  have hun : ∀ j, j < l.length → (Array.replicate l.length false).getD j true = false := fun j hj => by simp [hj]
  have inv0 : MixInv n nz dp l Φ w G (Array.replicate l.length false) a w.drew (fun _ => undef) (fun _ => w) (fun _ => w) :=
    ⟨⟨by simp, fun j oj _ hl => (by rw [getD_replicate_false] at hl; cases hl), fun t _ ht => hun t (by simpa using ht)⟩, e1.symm, e2.symm, fun t ht => (e3 t fun i _ hti => by
        obtain ⟨h1, h2, _⟩ := ok.blind i t hti
        have := (ht i h1 h2).1
        rw [hun i (by omega)] at this; cases this).symm,
      fun i hi hl => (by rw [hun i (by have := ok.nz_lt hi; omega)] at hl; cases hl), Below.drewSelf w, fun i hi hl => (by rw [hun i (by have := ok.nz_lt hi; omega)] at hl; cases hl), fun i i' hi _ hl => (by rw [hun i (by have := ok.nz_lt hi; omega)] at hl; cases hl)⟩
  have := mix_any2 ok (fun J hA hne j o ho => (hE J hA hne).2 j o (Nat.zero_le _) ho) hN hK hT (fun x hx => by rw [e2]; exact hsz x hx) n (Array.replicate l.length false) a w.drew _ _ _ (by unfold unl; refine Nat.le_trans (List.length_filter_le _ _) (by simp)) inv0
  rwa [show l.length - n + n = l.length by omega] at this

theorem wp_region_mix2 {id n : Nat} {nz : List (Nat × Tmp)} {dp : Nat → List Nat} {kn : List Nat} {bs : List Bk} {l : List Oper} {Φ : Nat → List Value → Value → World → World → Prop} {w : World} {Q : Exit → Act → World → Prop} {a : Act} (hm : P.follows .mixedOrders = true) (hB : mixB2 n nz kn dp bs l = true) (hsz : ∀ x ∈ nz, x.2 < a.tmps.size)
    (h : wpQuietIn Fence.wide 0 P (blind2 bs l).toArray (fun w' => ∃ s : LaterJ w (fun _ => True), w' = s.w') (fun G =>
      (∀ J : World → Prop, Abides J → Nonempty (LaterJ w J) → wpQuietIn Fence.wide 0 P (blind2 bs l).toArray (fun w' => ∃ s : LaterJ w J, w' = s.w') (fun g => g = G) (blind2 bs l) a) ∧ MixAsk2 P n nz kn bs dp l Φ w Q G) (blind2 bs l) a) :
    (Code.region id l.toArray true).wp P Q a w := by
  refine (wpIn_wide (n := 0)).1 (wpIn_region_any hm ?_)
  have := mix_start2 hB hsz h
  simpa using this
/-- in a round -/
theorem wpIn_region_mix2 {i id n : Nat} {nz : List (Nat × Tmp)} {dp : Nat → List Nat} {kn : List Nat} {bs : List Bk} {l : List Oper} {Φ : Nat → List Value → Value → World → World → Prop} {w : World} {Q : Exit → Act → World → Prop} {a : Act} (hm : P.follows .mixedOrders = true) (hB : mixB2 n nz kn dp bs l = true) (hd : ∀ o ∈ l, ∀ c, o.op ≠ .defer c) (hsz : ∀ x ∈ nz, x.2 < a.tmps.size)
    (h : wpQuietIn Fence.wide 0 P (blind2 bs l).toArray (fun w' => ∃ s : LaterJ w (fun _ => True), w' = s.w') (fun G =>
      (∀ J : World → Prop, Abides J → Nonempty (LaterJ w J) → wpQuietIn Fence.wide 0 P (blind2 bs l).toArray (fun w' => ∃ s : LaterJ w J, w' = s.w') (fun g => g = G) (blind2 bs l) a) ∧ MixAsk2 P n nz kn bs dp l Φ w Q G) (blind2 bs l) a) :
    (Code.region id l.toArray true).wpIn (Fence.wide.inRound i) 0 P Q a w := by
  refine wpIn_region_any hm (wpAnyIn_round rfl i (fun j o ho => hd o (List.mem_of_getElem? (by simpa using ho))) _ _ _ _ ?_)
  have := mix_start2 hB hsz h
  simpa using this

end

end Go.Proofs.Ytelgbjfgmpkepaa

namespace Go.Proofs.Ytelgbjfgmpkepaa
open Go.RowKit Go.Shelf

/-- AN ITERATOR's CONTRACT, where it has blocks of its own (T): it hands to its rounds, one behind the other, values of which X holds; a round may turn the blocks of S alone. -/
def GenT (P : Program) (gf : Nat) (lb : Array Value) (S Sx T : Nat → Prop) (X : Nat → Array Value → World → Prop) (L N : Nat) (Done : Nat → Prop) (w0 : World) : Prop :=
  ∀ (l : Nat) (J Jx : Nat → World → Prop) (W : World), Below w0.heap.size w0 W → l = w0.heap.size + 1 → W.heap.size = w0.heap.size + 2 →
    (∀ k W W', J k W → Below W.heap.size W W' → J k W') → (∀ k W W', Jx k W → Below W.heap.size W W' → Jx k W') → (∀ k W W', J k W → Only T W W' → J k W') → (∀ k W W', Jx k W → Only T W W' → Jx k W') → (∀ k W, J k W → k ≤ N) →
    (∀ k v W1, J k W1 → X k v W1 → k < L → YieldAt Fence.wide 0 P l v W1 fun e W' =>
      (e = .returned (.bool true) ∧ J (k + 1) W' ∧ Only (fun b => S b ∨ b = l) W1 W') ∨ (e = .returned (.bool false) ∧ Jx (k + 1) W' ∧ Only (fun b => Sx b ∨ b = l) W1 W')) →
    J 0 W →
    CallsIn Fence.wide 0 P gf (#[.func (.yield l) #[] #[]] ++ lb) W fun e W' => (∃ v, e = .returned v) ∧ ((∃ k, Done k ∧ J k W') ∨ (∃ k, Jx k W'))

/-- how the body of a round may be left: S where it goes on, Sx where the loop ends -/
def roundEndsX (S Sx : Nat → Prop) (I : Nat → World → Prop) (Ix : Code → Nat → World → Prop) (k : Nat) (W : World) : Exit → Act → World → Prop
  | .normal, _, W' => Only S W W' ∧ I (k + 1) W'
  | .ret, _, W' => Only Sx W W' ∧ Ix .ret (k + 1) W'
  | .exit id, _, W' => Only Sx W W' ∧ Ix (.exit id) (k + 1) W'
  | _, _, _ => False

theorem range_lawT {P : Program} {g : Operand} {ps : Array Tmp} {assign body : Code} {Q : Exit → Act → World → Prop} {a : Act} {w : World}
    {gf : Nat} {lb : Array Value} (hg : a.eval g = .func (.func gf) #[] lb) (eg : ∀ args w, (callFunc gf args).run P w = .ok (.enter gf args) w)
    {S Sx T : Nat → Prop} {X : Nat → Array Value → World → Prop} {L N : Nat} {Done : Nat → Prop} (hseq : GenT P gf lb S Sx T X L N Done w)
    (hS : ¬ S w.heap.size ∧ ¬ S (w.heap.size + 1)) (hSx : ¬ Sx w.heap.size ∧ ¬ Sx (w.heap.size + 1)) (hT : ¬ T w.heap.size ∧ ¬ T (w.heap.size + 1)) (hps : ∀ k v W, X k v W → v.size = ps.size)
    (hX : ∀ k v W W', X k v W → Only (fun b => b = w.heap.size + 1) W W' → X k v W')
    (I : Nat → World → Prop) (Ix : Code → Nat → World → Prop)
    (hI : ∀ k W W', I k W → Only (fun b => b = w.heap.size + 1) W W' → I k W')
    (hIx : ∀ c k W W', Ix c k W → Only (fun b => b = w.heap.size + 1) W W' → Ix c k W')
    (hIT : ∀ k W W', I k W → Only T W W' → I k W') (hIxT : ∀ c k W W', Ix c k W → Only T W W' → Ix c k W')
    (hN : ∀ k W, I k W → k ≤ N) (h0 : I 0 w) (a₁ : Array Value → Act)
    (hassign : ∀ (l k : Nat) (v : Array Value) (W : World) (K : Act → World → Prop), X k v W → K (a₁ v) W →
      assign.wpIn (Fence.wide.inRound l) 0 P (Exit.then K (fun _ _ _ => False)) { tmps := (ps.zip v).foldl (fun t (p, v) => t.setIfInBounds p v) a.tmps, defers := [] } W)
    (hbody : ∀ (k : Nat) (v : Array Value) (W : World), w.heap.size + 1 < W.heap.size → I k W → X k v W → k < L → body.wpIn (Fence.wide.inRound (w.heap.size + 1)) 0 P (roundEndsX S Sx I Ix k W) (a₁ v) W)
    (hdone : ∀ (k : Nat) (W : World), Done k → I k W → W.heap[w.heap.size]? = some (.deferred (some [])) → w.heap.size < W.heap.size →
      Q .normal { a with defers := { target := .collected w.heap.size, args := #[] } :: a.defers } W)
    (hstop : ∀ (c : Code) (k : Nat) (W : World), Ix c k W → W.heap[w.heap.size]? = some (.deferred (some [])) →
      c.wpIn Fence.wide 0 P Q { a with defers := { target := .collected w.heap.size, args := #[] } :: a.defers } W) :
    (Code.rangeFunc g ps assign body).wpIn Fence.wide 0 P Q a w := by
  refine wpIn_rangeFunc ?_
  intro fn hfn
  rw [show Fence.wide.round = none from rfl]
  obtain ⟨rec, hrec⟩ : ∃ rec : LoopState → Option Code → Loop, rec = fun st pe => { state := st, pending := pe, fn, tmps := a.tmps, params := ps, assign, body, defers := w.heap.size } := ⟨_, rfl⟩
  obtain ⟨W1, hW1⟩ : ∃ W1, (w.alloc (.deferred (some []))).alloc (.loop (rec .ready none)) = W1 := ⟨_, rfl⟩
  have hL1 : W1.heap[w.heap.size + 1]? = some (.loop (rec .ready none)) := by
    rw [← hW1]; have := World.alloc_heap_new (w.alloc (.deferred (some []))) (.loop (rec .ready none)); rwa [World.size_alloc] at this
  have hK1 : W1.heap[w.heap.size]? = some (.deferred (some [])) := by
    rw [← hW1]; exact (Below.heap_alloc _ _ _ (by simp)).trans (World.alloc_heap_new w _)
  have hb1 : Below w.heap.size w W1 := by
    rw [← hW1]; exact ((Below.refl _ w).alloc (Nat.le_refl _) _).alloc (by simp) _
  have hI1 : I 0 W1 := hI _ _ _ h0 (Only.of_below hb1)
  have keep : ∀ {A B : World} {i : Nat} {o : Obj}, Below A.heap.size A B → A.heap[i]? = some o → B.heap[i]? = some o := fun h ho =>
    (h.block _ (Array.getElem?_eq_some_iff.1 ho).1).trans ho
  refine ⟨w.heap.size + 1, [{ target := .collected w.heap.size, args := #[] }], W1, { target := .fn (.func gf) lb, args := #[.func (.yield (w.heap.size + 1)) #[] #[]] }, W1, gf,
    #[.func (.yield (w.heap.size + 1)) #[] #[]] ++ lb, W1, ?_, ?_, ?_, ?_, fun h => by simp [Fence.wide] at h, ?_⟩
  · rw [← hW1, hrec]; exact run_enterLoop_outer _ _ _ _ _
  · simp only [resolve, hg]
    simp [go_sem]
  · intro f' _; trivial
  · simp [invoke, go_sem, eg]
  · refine (hseq (w.heap.size + 1)
      (fun k W => I k W ∧ W.heap[w.heap.size + 1]? = some (.loop (rec .ready none)) ∧ W.heap[w.heap.size]? = some (.deferred (some [])))
      (fun k W => ∃ c, Ix c k W ∧ W.heap[w.heap.size + 1]? = some (.loop (rec .done (some c))) ∧ W.heap[w.heap.size]? = some (.deferred (some [])))
      W1 hb1 rfl (by rw [← hW1]; simp)
      (fun k A B hs hAB => ⟨hI _ _ _ hs.1 (Only.of_below hAB), keep hAB hs.2.1, keep hAB hs.2.2⟩)
      (fun k A B hs hAB => by
        obtain ⟨c, hc, hl, hk⟩ := hs
        exact ⟨c, hIx _ _ _ _ hc (Only.of_below hAB), keep hAB hl, keep hAB hk⟩)
      (fun k A B hs hAB => ⟨hIT _ _ _ hs.1 hAB, (hAB.block _ (Array.getElem?_eq_some_iff.1 hs.2.1).1 hT.2).trans hs.2.1, (hAB.block _ (Array.getElem?_eq_some_iff.1 hs.2.2).1 hT.1).trans hs.2.2⟩)
      (fun k A B hs hAB => by
        obtain ⟨c, hc, hl, hk⟩ := hs
        exact ⟨c, hIxT _ _ _ _ hc hAB, (hAB.block _ (Array.getElem?_eq_some_iff.1 hl).1 hT.2).trans hl, (hAB.block _ (Array.getElem?_eq_some_iff.1 hk).1 hT.1).trans hk⟩)
      (fun k W hs => hN _ _ hs.1)
      ?_ ⟨hI1, hL1, hK1⟩).mono ?_
    · rintro k v W ⟨hi, hl, hk⟩ hx hlen
      have hlt : w.heap.size + 1 < W.heap.size := (Array.getElem?_eq_some_iff.1 hl).1
      have hy := run_yield (P := P) (args := v) hl (by rw [hrec]; exact hps _ _ _ hx)
      rw [hrec] at hy
      refine ⟨fn, _, assign, body, hy, roundIn_of_wpIn hfn (hassign _ k v W _ hx ⟨_, run_beginRound hl (by rw [hrec]), ?_⟩)⟩
      have hl2 : (W.putObj (w.heap.size + 1) (.loop { rec .ready none with state := .busy })).heap[w.heap.size + 1]? = some (.loop { rec .ready none with state := .busy }) := World.putObj_heap_same hlt
      have hk2 : (W.putObj (w.heap.size + 1) (.loop { rec .ready none with state := .busy })).heap[w.heap.size]? = some (.deferred (some [])) := (World.putObj_heap_other (by omega)).trans hk
      have hw2 : Only (fun b => b = w.heap.size + 1) W (W.putObj (w.heap.size + 1) (.loop { rec .ready none with state := .busy })) := Only.put1 _ _ _
      refine wpIn_mono (hbody k v _ (by simp; omega) (hI _ _ _ hi hw2) (hX _ _ _ _ hx hw2) hlen) ?_
      have fin : ∀ (Sy : Nat → Prop), (¬ Sy w.heap.size ∧ ¬ Sy (w.heap.size + 1)) → ∀ (jump : Option Code) (W3 : World), Only Sy (W.putObj (w.heap.size + 1) (.loop { rec .ready none with state := .busy })) W3 →
          (Instr.endRound (w.heap.size + 1) jump).run P W3 = .ok (.bool jump.isNone) (W3.putObj (w.heap.size + 1) (.loop (rec (if jump.isNone then .ready else .done) jump))) ∧
          (W3.putObj (w.heap.size + 1) (.loop (rec (if jump.isNone then .ready else .done) jump))).heap[w.heap.size + 1]? = some (.loop (rec (if jump.isNone then .ready else .done) jump)) ∧
          (W3.putObj (w.heap.size + 1) (.loop (rec (if jump.isNone then .ready else .done) jump))).heap[w.heap.size]? = some (.deferred (some [])) ∧
          Only (fun b => b = w.heap.size + 1) W3 (W3.putObj (w.heap.size + 1) (.loop (rec (if jump.isNone then .ready else .done) jump))) := fun Sy hSy jump W3 hk3 => by
        have hl3 := (hk3.block _ (by simp; omega) hSy.2).trans hl2
        have := run_endRound (P := P) jump hl3
        rw [hrec] at this ⊢
        exact ⟨this, World.putObj_heap_same (Array.getElem?_eq_some_iff.1 hl3).1, (World.putObj_heap_other (by omega)).trans ((hk3.block _ (by simp; omega) hSy.1).trans hk2), Only.put1 _ _ _⟩
      rintro e a3 W3 hp
      cases e with
      | normal =>
        obtain ⟨hk3, hi3⟩ := hp
        obtain ⟨hr, hl4, hk4, ho⟩ := fin S hS none W3 hk3
        exact ⟨_, _, hr, .inl ⟨rfl, ⟨hI _ _ _ hi3 ho, hl4, hk4⟩, ((hw2.mono (fun _ h => .inr h)).trans (hk3.mono (fun _ h => .inl h))).trans (ho.mono (fun _ h => .inr h))⟩⟩
      | ret =>
        obtain ⟨hk3, hi3⟩ := hp
        obtain ⟨hr, hl4, hk4, ho⟩ := fin Sx hSx (some .ret) W3 hk3
        exact ⟨_, _, hr, .inr ⟨rfl, ⟨.ret, hIx _ _ _ _ hi3 ho, hl4, hk4⟩, ((hw2.mono (fun _ h => .inr h)).trans (hk3.mono (fun _ h => .inl h))).trans (ho.mono (fun _ h => .inr h))⟩⟩
      | exit id =>
        obtain ⟨hk3, hi3⟩ := hp
        obtain ⟨hr, hl4, hk4, ho⟩ := fin Sx hSx (some (.exit id)) W3 hk3
        exact ⟨_, _, hr, .inr ⟨rfl, ⟨.exit id, hIx _ _ _ _ hi3 ho, hl4, hk4⟩, ((hw2.mono (fun _ h => .inr h)).trans (hk3.mono (fun _ h => .inl h))).trans (ho.mono (fun _ h => .inr h))⟩⟩
      | goto t => exact hp.elim
      | panic ch => exact hp.elim
      | outgrown => exact hp.elim
    · rintro e W2 ⟨⟨v, rfl⟩, (⟨k, hS, hi, hl, hk⟩ | ⟨k, c, hi, hl, hk⟩)⟩
      · exact ⟨none, _, by have := run_endLoop (P := P) hl (by rw [hrec]; simp); rw [hrec] at this; exact this, hdone k _ hS (hI _ _ _ hi (Only.put1 _ _ _)) ((World.putObj_heap_other (by omega)).trans hk) (by simp; exact (Array.getElem?_eq_some_iff.1 hk).1)⟩
      · exact ⟨some c, _, by have := run_endLoop (P := P) hl (by rw [hrec]; simp); rw [hrec] at this; exact this, hstop c k _ (hIx _ _ _ _ hi (Only.put1 _ _ _)) ((World.putObj_heap_other (by omega)).trans hk)⟩


/-- the frame of a round told by what the assignment does -/
theorem range_lawT' {P : Program} {g : Operand} {ps : Array Tmp} {assign body : Code} {Q : Exit → Act → World → Prop} {a : Act} {w : World}
    {gf : Nat} {lb : Array Value} (gs : Array Value → Array Value → Array Value) (hg : a.eval g = .func (.func gf) #[] lb) (eg : ∀ args w, (callFunc gf args).run P w = .ok (.enter gf args) w)
    {S Sx T : Nat → Prop} {X : Nat → Array Value → World → Prop} {L N : Nat} {Done : Nat → Prop} (hseq : GenT P gf lb S Sx T X L N Done w)
    (hS : ¬ S w.heap.size ∧ ¬ S (w.heap.size + 1)) (hSx : ¬ Sx w.heap.size ∧ ¬ Sx (w.heap.size + 1)) (hT : ¬ T w.heap.size ∧ ¬ T (w.heap.size + 1)) (hps : ∀ k v W, X k v W → v.size = ps.size)
    (hX : ∀ k v W W', X k v W → Only (fun b => b = w.heap.size + 1) W W' → X k v W')
    (I : Nat → World → Prop) (Ix : Code → Nat → World → Prop)
    (hI : ∀ k W W', I k W → Only (fun b => b = w.heap.size + 1) W W' → I k W')
    (hIx : ∀ c k W W', Ix c k W → Only (fun b => b = w.heap.size + 1) W W' → Ix c k W')
    (hIT : ∀ k W W', I k W → Only T W W' → I k W') (hIxT : ∀ c k W W', Ix c k W → Only T W W' → Ix c k W')
    (hN : ∀ k W, I k W → k ≤ N) (h0 : I 0 w)
    (hassign : ∀ (l k : Nat) (v : Array Value) (W : World) (K : Act → World → Prop), X k v W → K { tmps := gs v ((ps.zip v).foldl (fun t (p, v) => t.setIfInBounds p v) a.tmps), defers := [] } W →
      assign.wpIn (Fence.wide.inRound l) 0 P (Exit.then K (fun _ _ _ => False)) { tmps := (ps.zip v).foldl (fun t (p, v) => t.setIfInBounds p v) a.tmps, defers := [] } W)
    (hbody : ∀ (k : Nat) (v : Array Value) (W : World), w.heap.size + 1 < W.heap.size → I k W → X k v W → k < L → body.wpIn (Fence.wide.inRound (w.heap.size + 1)) 0 P (roundEndsX S Sx I Ix k W) { tmps := gs v ((ps.zip v).foldl (fun t (p, v) => t.setIfInBounds p v) a.tmps), defers := [] } W)
    (hdone : ∀ (k : Nat) (W : World), Done k → I k W → W.heap[w.heap.size]? = some (.deferred (some [])) → w.heap.size < W.heap.size →
      Q .normal { a with defers := { target := .collected w.heap.size, args := #[] } :: a.defers } W)
    (hstop : ∀ (c : Code) (k : Nat) (W : World), Ix c k W → W.heap[w.heap.size]? = some (.deferred (some [])) →
      c.wpIn Fence.wide 0 P Q { a with defers := { target := .collected w.heap.size, args := #[] } :: a.defers } W) :
    (Code.rangeFunc g ps assign body).wpIn Fence.wide 0 P Q a w :=
  range_lawT hg eg hseq hS hSx hT hps hX I Ix hI hIx hIT hIxT hN h0 (fun v => { tmps := gs v ((ps.zip v).foldl (fun t (p, v) => t.setIfInBounds p v) a.tmps), defers := [] }) hassign hbody hdone hstop

theorem Only.none {T : Nat → Prop} {A B : World} (h : Only (fun _ => False) A B) : Only T A B := h.mono fun _ h => h.elim


end Go.Proofs.Ytelgbjfgmpkepaa

namespace Go.Proofs.Ytelgbjfgmpkepaa
open Go.RowKit Go.Shelf

theorem wrap_i64_nat {a : Nat} (h : a < 2 ^ 62) : IntKind.i64.wrap ((a : Nat) : Int) = (a : Int) := by
  rw [IntKind.wrap_i64]
  omega
theorem wrap_i64_of {a : Int} (h0 : -(2 ^ 62) ≤ a) (h : a < 2 ^ 62) : IntKind.i64.wrap a = a := by
  rw [IntKind.wrap_i64]
  omega
theorem wrap_u8_of {a : Int} (h0 : 0 ≤ a) (h : a < 256) : IntKind.u8.wrap a = a := by
  rw [IntKind.wrap_u8]
  omega
theorem lt_of_cell {w : World} {b o : Nat} {v : Value} (h : w.cell? ⟨b, o, none⟩ = some v) : b < w.heap.size := World.block_lt_of_cell? w ⟨b, o, none⟩ h
theorem tmod_nat (a b : Nat) : Int.tmod (a : Int) (b : Int) = ((a % b : Nat) : Int) := by
  rw [Int.tmod_eq_emod_of_nonneg (by omega)]; omega
theorem below_drawN (B : Nat) (w : World) (n : Nat) : Below B w (w.drewN n) := ⟨rfl, rfl, rfl, Nat.le_refl _, fun _ _ => rfl⟩
theorem below_set2 {w : World} {g N : Nat} {A : World} (h : Below N A w) (hg : N ≤ g) (x y : Value) : Below N A ((w.setCell ⟨g, 0, none⟩ x).setCell ⟨g, 1, none⟩ y) :=
  (h.setCell (p := ⟨g, 0, none⟩) hg _).setCell (p := ⟨g, 1, none⟩) hg _
/-- a box of two cells -/
def V2At (w : World) (g : Nat) (t : TypeId) (x y : Value) : Prop := w.heap[g]? = some (.cells #[x, y] t (0, 0))
section
variable {w w' : World} {g : Nat} {t : TypeId} {x y : Value}
theorem V2At.c0 (h : V2At w g t x y) : w.cell? ⟨g, 0, none⟩ = some x := by rw [cell_of_row _ _ _ _ _ _ h]; rfl
theorem V2At.c1 (h : V2At w g t x y) : w.cell? ⟨g, 1, none⟩ = some y := by rw [cell_of_row _ _ _ _ _ _ h]; rfl
theorem V2At.f0 (h : V2At w g t x y) : w.frozen? ⟨g, 0, none⟩ = false := frozen_of_row w _ 0 _ _ h
theorem V2At.f1 (h : V2At w g t x y) : w.frozen? ⟨g, 1, none⟩ = false := frozen_of_row w _ 1 _ _ h
theorem V2At.lt (h : V2At w g t x y) : g < w.heap.size := (Array.getElem?_eq_some_iff.1 h).1
theorem V2At.mono (h : V2At w g t x y) (hB : Below w.heap.size w w') : V2At w' g t x y := (hB.block _ h.lt).trans h
theorem V2At.set (h : V2At w g t x y) (a b : Value) : V2At ((w.setCell ⟨g, 0, none⟩ a).setCell ⟨g, 1, none⟩ b) g t a b :=
  heap_setCell_same _ _ 1 #[a, y] t _ (heap_setCell_same _ _ 0 _ t _ h)
theorem V2At.set1 (h : V2At w g t x y) (b : Value) : V2At (w.setCell ⟨g, 1, none⟩ b) g t x b :=
  heap_setCell_same _ _ 1 #[x, y] t _ h
theorem V2At.other (h : V2At w g t x y) {r : Nat} (hr : g ≠ r) (k : Nat) (a : Value) : V2At (w.setCell ⟨r, k, none⟩ a) g t x y :=
  (Below.heap_setCell _ _ _ _ (fun e => hr e)).trans h
end
/-- a new box -/
def NewV (t : TypeId) (x y v : Value) (p q : World) : Prop := v = .pointer (some ⟨p.heap.size, 0, none⟩) ∧ q = p.alloc (.cells #[x, y] t)
theorem NewV.at {t : TypeId} {x y v : Value} {p q : World} (h : NewV t x y v p q) : v = .pointer (some ⟨p.heap.size, 0, none⟩) ∧ V2At q p.heap.size t x y ∧ q.heap.size = p.heap.size + 1 := by
  obtain ⟨h1, h2⟩ := h
  subst h2
  exact ⟨h1, heap_alloc_new _ _, by simp⟩
theorem V2At.grown {w w' : World} {g : Nat} {t : TypeId} {x y : Value} (h : V2At w g t x y) {row : Option Nat} (hg : w.grownBy w' row) (hr : some g ≠ row) : V2At w' g t x y :=
  (hg.block g h.lt hr).trans h
theorem V2At.set0 {w : World} {g : Nat} {t : TypeId} {x y : Value} (h : V2At w g t x y) (b : Value) : V2At (w.setCell ⟨g, 0, none⟩ b) g t b y :=
  heap_setCell_same _ _ 0 #[x, y] t _ h
theorem putN_ev_nz {nz : List (Nat × Tmp)} {r : Nat → Value} {G : Act} {i : Nat} {d : Tmp} (h : ∀ y ∈ nz, y.2 = d → y.1 = i) (he : ∃ y ∈ nz, y.2 = d) (hd : d < G.tmps.size) : (putN nz r G).eval (.tmp d) = r i := by
  have e := putN_at (r := r) h he G hd
  simp [Act.eval, e]
theorem putN_ev {nz : List (Nat × Tmp)} {r : Nat → Value} {G : Act} {d : Tmp} {v : Value} (h : ∀ x ∈ nz, x.2 ≠ d) (hv : G.eval (.tmp d) = v) : (putN nz r G).eval (.tmp d) = v := by
  have e := putN_other (r := r) h G
  rw [← hv]
  simp [Act.eval, e]

/-- a list that is copied behind an empty one -/
theorem run_app0 {t e : TypeId} {z : Value} {sz nb : Nat} (E : ET t e z sz nb) (h00 : ∀ (ty : TypeId) (w : World) (a : Addr) (ax : Option Addr) (cx : Nat), (Builtin.append_ #[t, t] ty #[.slice (some a) 0 0, .slice ax 0 cx]).run Try.prog w = .ok (.slice (some a) 0 0) w)
    (ty : TypeId) (w : World) (g B : Nat) (hg : w.heap[g]? = some (.cells #[] e (0, 0))) (hBg : B ≤ g) (ax : Option Addr) (m cx : Nat) (ys : List Value) (hy : CellsAt w ax ys) (hl : ys.length = m * sz) (hnil : ax = none → m = 0) (hb : m ≤ 1000000) :
    ∃ ao' cap' w', (Builtin.append_ #[t, t] ty #[.slice (some ⟨g, 0, none⟩) 0 0, .slice ax m cx]).run Try.prog w = .ok (.slice ao' m cap') w' ∧ Below w.heap.size w w' ∧ OwnV e sz B w' ao' m cap' ys := by
  have hlt : g < w.heap.size := (Array.getElem?_eq_some_iff.1 hg).1
  by_cases h0 : m = 0
  · subst h0
    obtain rfl : ys = [] := List.eq_nil_of_length_eq_zero (by rw [hl, Nat.zero_mul])
    exact ⟨_, 0, w, h00 ty w _ ax cx, Below.refl _ _, ⟨by simp, .inr ⟨g, 0, _, rfl, hBg, hg, Nat.le_refl _, Nat.zero_le _, by simp, by simp⟩⟩⟩
  · cases ax with
    | none => exact absurd (hnil rfl) h0
    | some ad =>
      obtain ⟨i, hi, hz, hs, hby⟩ := info_parts E.hi
      have hbytes : (0 + m) * nb ≤ 140737488355328 := by
        have h1 := Nat.mul_le_mul (show 0 + m ≤ 1000000 by omega) E.hb
        omega
      have hsp : ∀ j u, ys[j]? = some u → w.cell? (ad.add j) = some u := by
        intro j u hj
        rcases hy with h | ⟨b, off, e', hc⟩
        · subst h; cases hj
        · cases e'; rw [Addr.add_lit]; exact hc j u hj
      obtain ⟨v', w', hrun, r1, r2⟩ := run_append_arg_grows (P := Try.prog) w t ty e i z sz nb E.hu hi hz hs hby E.hz E.hp ⟨g, 0, none⟩ 0 0 [] (by simp) (by intro j u h; cases h) ad m cx ys hl hsp (by omega) (by unfold maxLen; omega) hbytes
      have hbl : Below w.heap.size w w' := (Below.refl w.heap.size w).grown r2 (Nat.le_refl _) (fun k e => by cases e)
      rcases r1 with ⟨hl', (⟨rfl, hz0⟩ | ⟨g', c, cur, rfl, hge, hh, hr⟩)⟩
      · omega
      · rw [Nat.zero_add] at hrun hl' hr
        rw [List.nil_append] at hl' hr
        exact ⟨_, c, w', hrun, hbl, ⟨hl', .inr ⟨g', c, cur, rfl, by omega, hh, hr⟩⟩⟩

theorem makesOp_weak {P : Program} {o : Oper} {A : Act} {s : World} {R S : Value → World → Prop} (h : makesOp P o A s R) (hi : ∀ v w, R v w → S v w) : makesOp P o A s S := by
  unfold makesOp at h ⊢
  generalize (execOp A.eval o).run P s = res at h ⊢
  cases res with
  | ok y w' =>
    cases y <;> simp only at h ⊢
    case value u => exact hi _ _ h
    case enter f args => exact h.mono fun e w2 ⟨v, h1, h2⟩ => ⟨v, h1, hi _ _ h2⟩
  | halt y w' => exact h.elim
theorem makes_app0 {t e : TypeId} {z : Value} {sz nb : Nat} (E : ET t e z sz nb) (h00 : ∀ (ty : TypeId) (w : World) (a : Addr) (ax : Option Addr) (cx : Nat), (Builtin.append_ #[t, t] ty #[.slice (some a) 0 0, .slice ax 0 cx]).run Try.prog w = .ok (.slice (some a) 0 0) w)
    (dst : Option Tmp) (ty : TypeId) (pos : String) (after : Array Edge) (S X : Operand) (A : Act) (w : World) (g B : Nat) (hs : A.eval S = .slice (some ⟨g, 0, none⟩) 0 0) (hg : w.heap[g]? = some (.cells #[] e (0, 0))) (hBg : B ≤ g)
    (ax : Option Addr) (m cx : Nat) (ys : List Value) (hx : A.eval X = .slice ax m cx) (hy : CellsAt w ax ys) (hl : ys.length = m * sz) (hnil : ax = none → m = 0) (hb : m ≤ 1000000) :
    makesOp Try.prog { dst := dst, op := .call { callee := .builtin .append, args := #[S, X], argTypes := #[t, t] }, type := ty, pos := pos, after := after, guard := none } A w fun v s' => Below w.heap.size w s' ∧ ∃ ao' cap', v = .slice ao' m cap' ∧ OwnV e sz B s' ao' m cap' ys := by
  obtain ⟨ao', cap', w', hrun, h1, h2⟩ := run_app0 E h00 ty w g B hg hBg ax m cx ys hy hl hnil hb
  unfold makesOp
  simp [execOp, resolve, invoke, builtin, hs, hx, hrun, Result.andThen]
  exact ⟨h1, ao', cap', ⟨rfl, rfl⟩, h2⟩
theorem OwnV.setOther {e sz B : Nat} {w : World} {ao : Option Addr} {n cap : Nat} {vs : List Value} (h : OwnV e sz B w ao n cap vs) {g : Nat} {t : TypeId} {x y : Value} (hb : V2At w g t x y) (hne : e ≠ t) (k : Nat) (v : Value) : OwnV e sz B (w.setCell ⟨g, k, Option.none⟩ v) ao n cap vs :=
  h.keptIf fun b cur _ hh => Below.heap_setCell _ _ _ _ (fun e2 => by have e2 : b = g := e2; subst e2; unfold V2At at hb; rw [hb] at hh; cases hh; exact hne rfl)

end Go.Proofs.Ytelgbjfgmpkepaa

namespace Go.Proofs.Ytelgbjfgmpkepaa
open Go.RowKit Go.Shelf

section
variable {P : Program}
def mixB3 (n : Nat) (nz : List (Nat × Tmp)) (kn : List Nat) (dp : Nat → List Nat) (bs : List Bk) (l : List Oper) : Bool :=
  (((List.range l.length).all fun j => markOk n nz kn j bs[j]?) && lexOkB (blind2 bs l) && Region.noSelect l.toArray && Region.noSelect (blind2 bs l).toArray && decide (n = l.length) &&
    Region.seqB .any l.toArray (l.length - n) n (doneL n l.length)) &&
  ((List.range n).all fun j => (List.range n).all fun i => (dstOf l i).all fun d =>
    (!(lookOf l j).contains d || (!decide (i = j) && Region.waitsFor .any l.toArray j i && (!isNz nz i || ((isNz nz j || isKn kn j) && (dp j).contains i)))) && (decide (i = j) || !(dstOf l j).contains d)) &&
  ((List.range n).all fun j => match l[j]? with | some o => o.after.all fun e => !Region.binds .any e || decide (e.on < j) | none => true) &&
  ((List.range n).all fun j => match l[j]? with | some o => (match o.guard with | some (g, _) => decide (g < n) && !isNz nz g | none => true) | none => true) &&
  (nz.all fun x => decide (x.1 < n) && (dstOf l x.1 == [x.2]) && (dp x.1).all fun d => isNz nz d && Region.waitsFor .any l.toArray x.1 d) &&
  (kn.all fun x => (decide (x < n) && !isNz nz x) && (dp x).all fun d => isNz nz d && Region.waitsFor .any l.toArray x d)

structure MixOk3 (n : Nat) (nz : List (Nat × Tmp)) (kn : List Nat) (dp : Nat → List Nat) (bs : List Bk) (l : List Oper) : Prop where
  lex : LexOk (blind2 bs l)
  sel : Region.noSelect l.toArray = true
  sel' : Region.noSelect (blind2 bs l).toArray = true
  nlt : n = l.length
  seq : Region.seqB .any l.toArray (l.length - n) n (doneL n l.length) = true
  quiet : ∀ j, j < n → isNz nz j = false → isKn kn j = false → (blind2 bs l)[j]? = l[j]?
  known : ∀ j, isKn kn j = true → (blind2 bs l)[j]? = (l[j]?).map (knO (kv bs j))
  look : ∀ j, j < n → ∀ i, i < n → ∀ d ∈ dstOf l i, d ∈ lookOf l j → i ≠ j ∧ Region.waitsFor .any l.toArray j i = true ∧ (isNz nz i = true → (isNz nz j = true ∨ isKn kn j = true) ∧ i ∈ dp j)
  dst : ∀ j, j < n → ∀ i, i < n → i ≠ j → ∀ d ∈ dstOf l i, d ∉ dstOf l j
  back : ∀ j, j < n → ∀ o, l[j]? = some o → ∀ e ∈ o.after, Region.binds .any e = true → e.on < j
  guard : ∀ j, j < n → ∀ o, l[j]? = some o → ∀ g b, o.guard = some (g, b) → g < n ∧ isNz nz g = false
  blind : ∀ i t, t ∈ dstOf (blind2 bs l) i → i < n ∧ t ∈ dstOf l i ∧ isNz nz i = false
  nzok : ∀ x ∈ nz, x.1 < n ∧ dstOf l x.1 = [x.2] ∧ ∀ d ∈ dp x.1, isNz nz d = true ∧ Region.waitsFor .any l.toArray x.1 d = true
  knok : ∀ x, isKn kn x = true → (x < n ∧ isNz nz x = false) ∧ ∀ d ∈ dp x, isNz nz d = true ∧ Region.waitsFor .any l.toArray x d = true

theorem mixOk3_of {n : Nat} {nz : List (Nat × Tmp)} {kn : List Nat} {dp : Nat → List Nat} {bs : List Bk} {l : List Oper} (h : mixB3 n nz kn dp bs l = true) : MixOk3 n nz kn dp bs l := by
  simp only [mixB3, Bool.and_eq_true] at h
  obtain ⟨⟨⟨⟨⟨⟨⟨⟨⟨⟨hbs, hlex⟩, hsel⟩, hsel'⟩, hn⟩, hseq⟩, hlook⟩, hback⟩, hguard⟩, hnz⟩, hkn⟩ := h
  have hn := of_decide_eq_true hn
  have mark : ∀ j, j < l.length → markOk n nz kn j bs[j]? = true := fun j hj => List.all_eq_true.1 hbs j (List.mem_range.2 hj)
  have hkno : ∀ x, isKn kn x = true → (x < n ∧ isNz nz x = false) ∧ ∀ d ∈ dp x, isNz nz d = true ∧ Region.waitsFor .any l.toArray x d = true := fun x hx => by
    have h := List.all_eq_true.1 hkn x (List.contains_iff_mem.1 hx)
    simp only [Bool.and_eq_true, decide_eq_true_eq, Bool.not_eq_true'] at h
    exact ⟨h.1, fun d hd => by simpa using List.all_eq_true.1 h.2 d hd⟩
  have key : ∀ j, j < n → ∀ i, i < n → ∀ d ∈ dstOf l i, ((!(lookOf l j).contains d || (!decide (i = j) && Region.waitsFor .any l.toArray j i && (!isNz nz i || ((isNz nz j || isKn kn j) && (dp j).contains i)))) && (decide (i = j) || !(dstOf l j).contains d)) = true := fun j hj i hi d hd =>
    List.all_eq_true.1 (List.all_eq_true.1 (List.all_eq_true.1 hlook j (List.mem_range.2 hj)) i (List.mem_range.2 hi)) d hd
  refine ⟨lexOk_of hlex, hsel, hsel', hn, hseq, fun j hj hz hk => ?_, fun j hk => ?_, fun j hj i hi d hd hl => ?_, fun j hj i hi hne d hd hd2 => ?_, fun j hj o ho e he hb => ?_, fun j hj o ho g b hg => ?_, fun i t ht => ?_, fun x hx => ?_, hkno⟩
  · have hm := mark j (by omega)
    cases hb : bs[j]? with
    | none => rw [hb] at hm; cases hm
    | some b =>
      rw [blind2_get hb]
      rw [hb] at hm
      cases b with
      | keep => cases l[j]? <;> rfl
      | off => simp [markOk, hz] at hm; omega
      | say v => simp [markOk, hk] at hm
  · obtain ⟨⟨h1, h2⟩, _⟩ := hkno j hk
    have hm := mark j (by omega)
    cases hb : bs[j]? with
    | none => rw [hb] at hm; cases hm
    | some b =>
      rw [blind2_get hb]
      rw [hb] at hm
      cases b with
      | keep => simp [markOk, hk] at hm
      | off => simp [markOk, h2] at hm; omega
      | say v =>
        have e : kv bs j = v := by simp [kv, hb]
        rw [e]; cases l[j]? <;> rfl
  · have h := key j hj i hi d hd
    rw [List.contains_iff_mem.2 hl] at h
    simp only [Bool.not_true, Bool.false_or, Bool.and_eq_true, Bool.not_eq_true', decide_eq_false_iff_not, Bool.or_eq_true, List.contains_iff_mem] at h
    exact ⟨h.1.1.1, h.1.1.2, fun hz => h.1.2.resolve_left fun h => by rw [hz] at h; cases h⟩
  · have h := key j hj i hi d hd
    rw [List.contains_iff_mem.2 hd2] at h
    simp [hne] at h
  · have h := List.all_eq_true.1 hback j (List.mem_range.2 hj)
    rw [ho] at h
    have := Array.all_eq_true_iff_forall_mem.1 h e he
    simp only [hb, Bool.not_true, Bool.false_or, decide_eq_true_eq] at this
    exact this
  · have h := List.all_eq_true.1 hguard j (List.mem_range.2 hj)
    rw [ho] at h
    simp only [hg, Bool.and_eq_true, decide_eq_true_eq, Bool.not_eq_true'] at h
    exact h
  · obtain ⟨o, ho, hd⟩ := of_dst ht
    rcases Nat.lt_or_ge i l.length with hi | hi
    · have hm := mark i hi
      cases hb : bs[i]? with
      | none => rw [hb] at hm; cases hm
      | some b =>
        rw [hb] at hm
        rw [blind2_get hb] at ho
        cases hl : l[i]? with
        | none => rw [hl] at ho; cases ho
        | some o2 =>
          rw [hl] at ho
          simp only [Option.map_some, Option.some.injEq] at ho
          cases b with
          | keep =>
            simp [markOk] at hm
            have ho : o2 = o := ho
            subst ho
            exact ⟨hm.2, dst_of hl hd, hm.1.1⟩
          | off => rw [← ho] at hd; cases hd
          | say v =>
            simp [markOk] at hm
            rw [← ho] at hd
            exact ⟨hm.2, dst_of hl hd, hm.1.2⟩
    · rw [List.getElem?_eq_none (by rw [blind2_len]; exact hi)] at ho; cases ho
  · have h := List.all_eq_true.1 hnz x hx
    simp only [Bool.and_eq_true, decide_eq_true_eq, beq_iff_eq] at h
    obtain ⟨⟨h1, h2⟩, h5⟩ := h
    exact ⟨h1, h2, fun d hd => by simpa using List.all_eq_true.1 h5 d hd⟩

section
variable {n : Nat} {nz : List (Nat × Tmp)} {dp : Nat → List Nat} {kn : List Nat} {bs : List Bk} {l : List Oper} {Φ : Nat → List Value → Value → World → World → Prop} {w : World} {G : Act} {listed : Array Bool} {a : Act} {s : World} {r : Nat → Value} {p q : Nat → World}
theorem MixOk3.dst_nz (ok : MixOk3 n nz kn dp bs l) {x : Nat × Tmp} (hx : x ∈ nz) {t : Tmp} {j : Nat} (hj : j < n) (ht : t ∈ dstOf l j) (hz : isNz nz j = true) (hall : ∀ y ∈ nz, y.2 ≠ t) : False := by
  have _ := hx; have _ := hj
  obtain ⟨y, hy, rfl⟩ := isNz_iff.1 hz
  obtain ⟨_, h2, _⟩ := ok.nzok y hy
  rw [h2] at ht
  exact hall y hy (List.mem_singleton.1 ht).symm
theorem MixOk3.not_nz (ok : MixOk3 n nz kn dp bs l) {t : Tmp} {j : Nat} (ht : t ∈ dstOf l j) (hall : ∀ y ∈ nz, y.2 ≠ t) : isNz nz j = false := by
  cases hz : isNz nz j with
  | false => rfl
  | true =>
    obtain ⟨y, hy, rfl⟩ := isNz_iff.1 hz
    obtain ⟨_, h2, _⟩ := ok.nzok y hy
    rw [h2] at ht
    exact absurd (List.mem_singleton.1 ht).symm (hall y hy)
theorem MixOk3.nz_lt (ok : MixOk3 n nz kn dp bs l) {j : Nat} (hz : isNz nz j = true) : j < n := by
  obtain ⟨y, hy, rfl⟩ := isNz_iff.1 hz
  exact (ok.nzok y hy).1
theorem MixOk3.one (ok : MixOk3 n nz kn dp bs l) {x y : Nat × Tmp} (hx : x ∈ nz) (hy : y ∈ nz) (e : x.2 = y.2) : x.1 = y.1 := by
  obtain ⟨h1, h2, _⟩ := ok.nzok x hx
  obtain ⟨h3, h4, _⟩ := ok.nzok y hy
  refine Classical.byContradiction fun hne => ?_
  exact ok.dst y.1 h3 x.1 h1 hne x.2 (by rw [h2]; simp) (by rw [h4, e]; simp)

theorem MixInv.quiet3 (ok : MixOk3 n nz kn dp bs l) (inv : MixInv n nz dp l Φ w G listed a s r p q) {i : Nat} (hi : i ∈ Region.ready .any l.toArray listed) (hin : i < n) (hz : isNz nz i = false) {o : Oper} (ho : l[i]? = some o) {v : Value} (hG : G.put o.dst v = G)
    {s' : World} (hs : Below s.heap.size s s') : MixInv n nz dp l Φ w G (listed.setIfInBounds i true) (a.put o.dst v) s' r p q := by
  have hlis : ∀ j, isNz nz j = true → (listed.setIfInBounds i true).getD j true = true → listed.getD j true = true := fun j hj h => by
    rwa [getD_set_ne true (fun e => by rw [e] at hz; rw [hz] at hj; cases hj)] at h
  refine ⟨inv.head.set hi hin, by rw [put_defers]; exact inv.defers, by rw [put_size]; exact inv.size, fun t ht => ?_, fun j hj hl d hd => ?_, inv.later.trans (hs.mono inv.later.size), fun j hj hl => ?_, fun j j' hj hj' hl hl' hne => inv.apart j j' hj hj' (hlis j hj hl) (hlis j' hj' hl') hne⟩
  · by_cases hd : o.dst = some t
    · have e1 : (a.put o.dst v).tmps[t]? = (G.put o.dst v).tmps[t]? := by
        rw [hd]; simp only [Act.put, Array.getElem?_setIfInBounds_self]; rw [inv.size]
      rw [e1, hG]
    · rw [put_get hd]
      refine inv.slot t fun j hj htj => ?_
      have h := ht j hj htj
      by_cases e : i = j
      · subst e
        obtain ⟨o', ho', hd'⟩ := of_dst htj
        rw [ho] at ho'; cases ho'
        exact absurd hd' hd
      · rw [getD_set_ne true e] at h; exact h
  · have hne : i ≠ j := fun e => by rw [e] at hz; rw [hz] at hj; cases hj
    rw [put_get fun e => ok.dst i hin j (ok.nz_lt hj) (fun e => hne e.symm) d hd (dst_of ho e)]
    exact inv.noisy j hj (hlis j hj hl) d hd
  · obtain ⟨h1, h2, h3⟩ := inv.made j hj (hlis j hj hl)
    exact ⟨h1, bstep h2 hs, h3⟩

theorem MixInv.made3 (ok : MixOk3 n nz kn dp bs l) (inv : MixInv n nz dp l Φ w G listed a s r p q) {i : Nat} (hi : i ∈ Region.ready .any l.toArray listed) {x : Nat × Tmp} (hx : x ∈ nz) (hxi : x.1 = i) {o : Oper} (ho : l[i]? = some o) {v : Value}
    {s' : World} (hs : Below s.heap.size s s') (hsz : x.2 < G.tmps.size) (hΦ : Φ i (dpv dp r i) v s s') :
    MixInv n nz dp l Φ w G (listed.setIfInBounds i true) (a.put o.dst v) s' (fun k => if k = i then v else r k) (fun k => if k = i then s else p k) (fun k => if k = i then s' else q k) := by
  obtain ⟨hin, hdi, hdw⟩ := ok.nzok x hx
  rw [hxi] at hin hdi hdw
  have hun := (mem_ready.1 hi).1
  have hod : o.dst = some x.2 := by
    obtain ⟨o', ho', hd'⟩ := of_dst (show x.2 ∈ dstOf l i by rw [hdi]; simp)
    rw [ho] at ho'; cases ho'; exact hd'
  have hiz : isNz nz i = true := isNz_iff.2 ⟨x, hx, hxi⟩
  have hlis : ∀ j, j ≠ i → (listed.setIfInBounds i true).getD j true = true → listed.getD j true = true := fun j hj h => by rwa [getD_set_ne true (fun e => hj e.symm)] at h
  -- what leans on i is not listed
  have hdep : ∀ j, isNz nz j = true → listed.getD j true = true → i ∉ dp j := fun j hj hl hd => by
    obtain ⟨y, hy, rfl⟩ := isNz_iff.1 hj
    obtain ⟨h1, _, h5⟩ := ok.nzok y hy
    obtain ⟨oj, hoj, e2, he, hb, hon⟩ := Region.waitsFor_spec (h5 i hd).2
    have hls : y.1 < listed.size := by rw [inv.head.size]; have := ok.nlt; simp; omega
    have := inv.head.closed y.1 oj hoj (getD_false_of hls hl) e2 he hb
    rw [hon] at this
    rw [getD_true this] at hun; cases hun
  have hself : i ∉ dp i := fun hd => by
    obtain ⟨oj, hoj, e2, he, hb, hon⟩ := Region.waitsFor_spec (hdw i hd).2
    obtain ⟨_, o', ho', hafter⟩ := mem_ready.1 hi
    rw [hoj] at ho'; cases ho'
    have := hafter e2 he hb
    rw [hon] at this
    rw [getD_true this] at hun; cases hun
  refine ⟨inv.head.set hi hin, by rw [put_defers]; exact inv.defers, by rw [put_size]; exact inv.size, fun t ht => ?_, fun j hj hl d hd => ?_, inv.later.trans (hs.mono inv.later.size), fun j hj hl => ?_, fun j j' hj hj' hl hl' hne => ?_⟩
  · have htx : x.2 ≠ t := fun e => by
      have := (ht i hin (by rw [hdi, e]; simp)).2
      rw [hiz] at this; cases this
    rw [hod, put_get fun e => htx (Option.some.inj e)]
    refine inv.slot t fun j hj htj => ?_
    have h := ht j hj htj
    by_cases e : i = j
    · subst e; rw [hiz] at h; cases h.2
    · rw [getD_set_ne true e] at h; exact h
  · by_cases e : j = i
    · subst e
      rw [hdi] at hd
      obtain rfl := List.mem_singleton.1 hd
      rw [hod]
      simp [Act.put, inv.size, hsz]
    · rw [put_get fun e2 => ok.dst i hin j (ok.nz_lt hj) e d hd (dst_of ho e2), if_neg e]
      exact inv.noisy j hj (hlis j e hl) d hd
  · by_cases e : j = i
    · subst e
      have e1 : dpv dp (fun k => if k = j then v else r k) j = dpv dp r j := by
        unfold dpv
        exact List.map_congr_left fun d hd => if_neg fun e => hself (by rw [e] at hd; exact hd)
      rw [e1]
      simp only [if_true]
      exact ⟨hΦ, Below.refl _ _, inv.later⟩
    · have hl0 := hlis j e hl
      obtain ⟨h1, h2, h3⟩ := inv.made j hj hl0
      have e1 : dpv dp (fun k => if k = i then v else r k) j = dpv dp r j := by
        unfold dpv
        exact List.map_congr_left fun d hd => if_neg fun e2 => hdep j hj hl0 (by rw [e2] at hd; exact hd)
      rw [e1, if_neg e, if_neg e, if_neg e]
      exact ⟨h1, bstep h2 hs, h3⟩
  · by_cases e : j = i
    · subst e
      have e2 : j' ≠ j := fun h => hne h.symm
      rw [if_pos rfl, if_pos rfl, if_neg e2, if_neg e2]
      exact .inr (inv.made j' hj' (hlis j' e2 hl')).2.1.size
    · by_cases e2 : j' = i
      · subst e2
        rw [if_pos rfl, if_pos rfl, if_neg e, if_neg e]
        exact .inl (inv.made j hj (hlis j e hl)).2.1.size
      · rw [if_neg e, if_neg e, if_neg e2, if_neg e2]
        exact inv.apart j j' hj hj' (hlis j e hl) (hlis j' e2 hl') hne
end

theorem mix_any3 {n : Nat} {nz : List (Nat × Tmp)} {kn : List Nat} {dp : Nat → List Nat} {bs : List Bk} {l : List Oper} {Φ : Nat → List Value → Value → World → World → Prop} {w : World} {G : Act} {Q : Exit → Act → World → Prop} (ok : MixOk3 n nz kn dp bs l)
    (hQ : ∀ (J : World → Prop), Abides J → Nonempty (LaterJ w J) → ∀ (j : Nat) (o : Oper), (blind2 bs l)[j]? = some o → AtEnd P (blind2 bs l).toArray (fun w' => ∃ s : LaterJ w J, w' = s.w') G o)
    (hN : ∀ i, isNz nz i = true → ∀ o, l[i]? = some o → ∀ (r : Nat → Value) (s : World), Below w.heap.size w s → (∀ d ∈ dp i, ∃ p q, Φ d (dpv dp r d) (r d) p q ∧ Below q.heap.size q s) →
      Region.wanted o (yielded l.toArray (putN nz r G).tmps) = true ∧ makesOp P o (putN nz r G) s fun v s' => Below s.heap.size s s' ∧ Φ i (dpv dp r i) v s s')
    (hK : ∀ i, isKn kn i = true → ∀ o, l[i]? = some o → ∀ (r : Nat → Value) (s : World), Below w.heap.size w s → (∀ d ∈ dp i, ∃ p q, Φ d (dpv dp r d) (r d) p q ∧ Below q.heap.size q s) →
      makesOp P o (putN nz r G) s fun v s' => Below s.heap.size s s' ∧ v = kv bs i)
    (hT : ∀ (r : Nat → Value) (p q : Nat → World) (s : World), Below w.heap.size w s → (∀ i, isNz nz i = true → Φ i (dpv dp r i) (r i) (p i) (q i) ∧ Below (q i).heap.size (q i) s ∧ Below w.heap.size w (p i)) →
      (∀ i i', isNz nz i = true → isNz nz i' = true → i ≠ i' → (q i).heap.size ≤ (p i').heap.size ∨ (q i').heap.size ≤ (p i).heap.size) → wpListIn Fence.wide 0 P l.toArray Q (l.drop n) (putN nz r G) s)
    (hsz : ∀ x ∈ nz, x.2 < G.tmps.size) :
    ∀ (h : Nat) (listed : Array Bool) (a : Act) (s : World) (r : Nat → Value) (p q : Nat → World), unl n listed ≤ h → MixInv n nz dp l Φ w G listed a s r p q → wpAnyIn Fence.wide 0 P .any l.toArray Q ((l.length - n) + h) listed a s := by
  have hnl := ok.nlt
  -- the head is done
  have fin : ∀ (h : Nat) (listed : Array Bool) (a : Act) (s : World) (r : Nat → Value) (p q : Nat → World), (∀ j, j < n → listed.getD j true = true) → MixInv n nz dp l Φ w G listed a s r p q → wpAnyIn Fence.wide 0 P .any l.toArray Q ((l.length - n) + h) listed a s := by
    intro h listed a s r p q hall inv
    have ha : a = putN nz r G := by
      obtain ⟨e1, e2⟩ := putN_size nz r G
      have e3 : a.tmps = (putN nz r G).tmps := by
        apply Array.ext_getElem?
        intro t
        by_cases hx : ∃ x ∈ nz, x.2 = t
        · obtain ⟨x, hx, rfl⟩ := hx
          rw [putN_at (i := x.1) (fun y hy e => ok.one hy hx e) ⟨x, hx, rfl⟩ G (hsz x hx)]
          obtain ⟨h1, h2, _⟩ := ok.nzok x hx
          exact inv.noisy x.1 (isNz_iff.2 ⟨x, hx, rfl⟩) (hall x.1 h1) x.2 (by rw [h2]; simp)
        · rw [putN_other (fun y hy e => hx ⟨y, hy, e⟩)]
          exact inv.slot t fun j hj htj => ⟨hall j hj, ok.not_nz htj fun y hy e => hx ⟨y, hy, e⟩⟩
      have e4 := inv.defers
      rw [← e2] at e4
      cases a; cases hP : putN nz r G; rw [hP] at e3 e4; cases e3; cases e4; rfl
    have hl : listed = doneL n l.length := by
      have hs : listed.size = l.length := by rw [inv.head.size]; simp
      apply Array.ext (by rw [hs]; simp [doneL])
      intro j hj hj2
      have e : (doneL n l.length)[j] = decide (j < n) := by simp [doneL]
      rw [e]
      by_cases hjn : j < n
      · have := hall j hjn
        simp [hj] at this
        rw [this]; simp [hjn]
      · have := inv.head.tail j (by omega) (by simp; omega)
        simp [hj] at this
        rw [this]; simp [hjn]
    have hm : ∀ i, isNz nz i = true → listed.getD i true = true := fun i hi => hall i (ok.nz_lt hi)
    have hw := hT r p q s inv.later (fun i hi => inv.made i hi (hm i hi)) fun i i' hi hi' hne => inv.apart i i' hi hi' (hm i hi) (hm i' hi') hne
    rw [← ha] at hw
    have hd : (l.drop n).length = l.length - n := by simp
    rw [← hd]
    exact wpAnyIn_of_seq h (l.drop n) n listed a s (fun j => by simp [List.getElem?_drop]) (by rw [hd, hl]; exact ok.seq) hw
  intro h
  induction h with
  | zero =>
    intro listed a s r p q hu inv
    refine fin 0 listed a s r p q (fun j hj => ?_) inv
    cases hj2 : listed.getD j true with
    | true => rfl
    | false =>
      have : j ∈ (List.range n).filter fun j => !listed.getD j true := List.mem_filter.2 ⟨List.mem_range.2 hj, by rw [hj2]; rfl⟩
      have h0 : ((List.range n).filter fun j => !listed.getD j true).length = 0 := Nat.le_zero.1 hu
      rw [List.eq_nil_of_length_eq_zero h0] at this
      cases this
  | succ h ih =>
    intro listed a s r p q hu inv
    by_cases hall : ∀ j, j < n → listed.getD j true = true
    · exact fin (h + 1) listed a s r p q hall inv
    -- the first that is to come
    have hex : ∃ k, k < n ∧ listed.getD k true = false ∧ ∀ j, j < k → listed.getD j true = true := by
      have : ∀ m, (∀ j, j < m → listed.getD j true = true) ∨ ∃ k, k < m ∧ listed.getD k true = false ∧ ∀ j, j < k → listed.getD j true = true := by
        intro m
        induction m with
        | zero => exact .inl fun j hj => by omega
        | succ m ihm =>
          rcases ihm with h | ⟨k, h1, h2, h3⟩
          · cases hm : listed.getD m true with
            | true =>
              refine .inl fun j hj => ?_
              rcases Nat.lt_or_eq_of_le (Nat.lt_succ_iff.1 hj) with h1 | rfl
              · exact h j h1
              · exact hm
            | false => exact .inr ⟨m, by omega, hm, h⟩
          · exact .inr ⟨k, by omega, h2, h3⟩
      exact (this n).resolve_left hall
    obtain ⟨k, hkn, hku, hkl⟩ := hex
    have hsz2 : listed.size = l.length := by rw [inv.head.size]; simp
    have hkr : k ∈ Region.ready .any l.toArray listed := by
      have hk0 : l[k]? = some (l[k]'(by omega)) := by simp
      refine mem_ready.2 ⟨hku, l[k]'(by omega), (by rw [List.getElem?_toArray]; exact hk0), fun e he hb => ?_⟩
      have := ok.back k hkn _ hk0 e he hb
      exact getD_false_of (by omega) (hkl _ this)
    rw [show (l.length - n) + (h + 1) = ((l.length - n) + h) + 1 by omega]
    refine ⟨(fun h0 => by rw [h0] at hkr; cases hkr), fun i hi => ?_⟩
    have hin : i < n := by
      rcases Nat.lt_or_ge i n with h1 | h1
      · exact h1
      · obtain ⟨_, o, ho, _⟩ := mem_ready.1 hi
        have := (Array.getElem?_eq_some_iff.1 ho).1
        simp at this
        omega
    obtain ⟨hiu, o, hoA, hafter⟩ := mem_ready.1 hi
    have ho : l[i]? = some o := by simpa using hoA
    have hul : unl n (listed.setIfInBounds i true) ≤ h := by have := unl_set (n := n) hin (by omega) hiu; omega
    -- what it looks at is there
    have hlk : ∀ j, j < n → ∀ d ∈ dstOf l j, d ∈ o.looksAt l.toArray → listed.getD j true = true ∧ (isNz nz j = true → (isNz nz i = true ∨ isKn kn i = true) ∧ j ∈ dp i) := fun j hj d hd hdo => by
      obtain ⟨_, h2, h3⟩ := ok.look i hin j hj d hd (by unfold lookOf; rw [ho]; exact hdo)
      obtain ⟨o', ho', e, he, hb, hon⟩ := Region.waitsFor_spec h2
      rw [hoA] at ho'; cases ho'
      have := hafter e he hb
      rw [hon] at this
      exact ⟨getD_true this, h3⟩
    have hsel := Region.noSelect_spec ok.sel i o
    -- at the slots that an operation looks at
    have hsameR : ∀ d ∈ o.looksAt l.toArray, a.tmps[d]? = (putN nz r G).tmps[d]? := fun d hd => by
        by_cases hy : ∃ y ∈ nz, y.2 = d
        · obtain ⟨y, hy, rfl⟩ := hy
          obtain ⟨h1, h2, _⟩ := ok.nzok y hy
          rw [putN_at (i := y.1) (fun z hz e => ok.one hz hy e) ⟨y, hy, rfl⟩ G (hsz y hy)]
          obtain ⟨h3, _⟩ := hlk y.1 h1 y.2 (by rw [h2]; simp) hd
          exact inv.noisy y.1 (isNz_iff.2 ⟨y, hy, rfl⟩) h3 y.2 (by rw [h2]; simp)
        · rw [putN_other (fun y hy2 e => hy ⟨y, hy2, e⟩)]
          exact inv.slot d fun j hj hdj => ⟨(hlk j hj d hdj hd).1, ok.not_nz hdj fun y hy2 e => hy ⟨y, hy2, e⟩⟩
    have hdep : ∀ d, Region.waitsFor .any l.toArray i d = true → isNz nz d = true → ∃ p q, Φ d (dpv dp r d) (r d) p q ∧ Below q.heap.size q s := fun d hwf hdz => by
        have hl : listed.getD d true = true := by
          obtain ⟨o', ho', e, he, hb, hon⟩ := Region.waitsFor_spec hwf
          rw [hoA] at ho'; cases ho'
          have := hafter e he hb
          rw [hon] at this
          exact getD_true this
        obtain ⟨h1, h2, _⟩ := inv.made d hdz hl
        exact ⟨_, _, h1, h2⟩
    have hgd : ∀ g b, o.guard = some (g, b) → (l.toArray[g]?).bind (·.dst) = ((blind2 bs l).toArray[g]?).bind (·.dst) := fun g b hg => by
        obtain ⟨h1, h2⟩ := ok.guard i hin o ho g b hg
        simp only [List.getElem?_toArray]
        cases hk : isKn kn g with
        | false => rw [ok.quiet g h1 h2 hk]
        | true => rw [ok.known g hk]; cases l[g]? <;> rfl
    -- the guard stands in a quiet slot
    have hgG : ∀ g b, o.guard = some (g, b) → ∀ d, (l.toArray[g]?).bind (·.dst) = some d → a.tmps[d]? = G.tmps[d]? := fun g b hg d hd => by
        obtain ⟨h1, h2⟩ := ok.guard i hin o ho g b hg
        have hdl : d ∈ o.looksAt l.toArray := by unfold Oper.looksAt; rw [hg]; refine List.mem_append_right _ ?_; simp; simpa using hd
        refine inv.slot d fun j hj hdj => ⟨(hlk j hj d hdj hdl).1, ?_⟩
        by_cases e : j = g
        · rw [e]; exact h2
        · refine absurd hdj (ok.dst j hj g h1 (fun e2 => e e2.symm) d ?_)
          cases hg0 : l[g]? with
          | none => simp [hg0] at hd
          | some og => simp [hg0] at hd; exact dst_of hg0 hd
    have hwG : Region.wanted o (yielded l.toArray a.tmps) = Region.wanted o (yielded (blind2 bs l).toArray G.tmps) := by
        unfold Region.wanted
        cases hg0 : o.guard with
        | none => rfl
        | some pr =>
          obtain ⟨g, want⟩ := pr
          simp only
          congr 1
          unfold yielded
          rw [← hgd g want hg0]
          cases hd : (l.toArray[g]?).bind (·.dst) with
          | none => rfl
          | some d => simp [hgG g want hg0 d hd]
    unfold wpOpIn
    simp only [hoA]
    cases hz : isNz nz i with
    | false =>
     cases hkn : isKn kn i with
     | false =>
      have hsame : ∀ d ∈ o.looksAt l.toArray, a.tmps[d]? = G.tmps[d]? := fun d hd => inv.slot d fun j hj hdj => by
        obtain ⟨h1, h2⟩ := hlk j hj d hdj hd
        refine ⟨h1, ?_⟩
        cases hjz : isNz nz j with
        | false => rfl
        | true => rcases (h2 hjz).1 with h | h; (rw [hz] at h; cases h); (rw [hkn] at h; cases h)
      have hE := hQ (fun B => Below s.heap.size s B) (fun A B hA hB => bstep hA hB) ⟨⟨s, inv.later, Below.refl _ _⟩⟩ i o (by rw [ok.quiet i hin hz hkn]; exact ho)
      unfold AtEnd at hE
      have hwe := hwG
      rw [← hwe] at hE
      by_cases hw : Region.wanted o (yielded l.toArray a.tmps) = true
      · rw [if_pos hw] at hE ⊢
        obtain ⟨v, hv, hG⟩ := hE
        have hq := hv s ⟨⟨s, inv.later, Below.refl _ _⟩, rfl⟩
        unfold Oper.quietAtIn at hq
        rw [← execOp_congr o (fun cs b => hsel cs b hoA) (eval_same hsame)] at hq
        unfold Oper.wpIn
        refine ⟨fun _ _ => trivial, ?_⟩
        rw [show Fence.wide.round = none from rfl, Oper.semAt_none]
        generalize (execOp a.eval o).run P s = res at *
        cases res with
        | ok x w' =>
          cases x <;> simp only [Oper.quietUponIn] at hq <;> simp only [Oper.uponIn]
          case value u =>
            obtain ⟨e1, e2⟩ := hq
            rw [e1, e2]
            exact ih _ _ _ _ _ _ hul (inv.quiet3 ok hi hin hz ho hG (Below.refl _ _))
          case skip =>
            obtain ⟨e1, e2⟩ := hq
            rw [e1, ← e2]
            exact ih _ _ _ _ _ _ hul (inv.quiet3 ok hi hin hz ho hG (Below.refl _ _))
          case enter f args =>
            obtain ⟨e1, _, hc⟩ := hq
            rw [e1]
            refine ⟨fun h => by simp [Fence.wide] at h, hc.mono fun e w'' ⟨he, s', hs'⟩ => ?_⟩
            subst he
            rw [hs']
            exact ih _ _ _ _ _ _ hul (inv.quiet3 ok hi hin hz ho hG s'.j)
        | halt x w' => simp only [Oper.quietUponIn] at hq
      · rw [if_neg hw] at hE ⊢
        exact ⟨fun _ _ => trivial, ih _ _ _ _ _ _ hul (inv.quiet3 ok hi hin hz ho hE (Below.refl _ _))⟩
     | true =>
      have hE := hQ (fun B => Below s.heap.size s B) (fun A B hA hB => bstep hA hB) ⟨⟨s, inv.later, Below.refl _ _⟩⟩ i (knO (kv bs i) o) (by rw [ok.known i hkn, ho]; rfl)
      unfold AtEnd at hE
      have hwe : Region.wanted o (yielded l.toArray a.tmps) = Region.wanted (knO (kv bs i) o) (yielded (blind2 bs l).toArray G.tmps) := hwG
      rw [← hwe] at hE
      by_cases hw : Region.wanted o (yielded l.toArray a.tmps) = true
      · rw [if_pos hw] at hE ⊢
        obtain ⟨v, hv, hG⟩ := hE
        have hq := hv s ⟨⟨s, inv.later, Below.refl _ _⟩, rfl⟩
        have hvk : v = kv bs i := by
          unfold Oper.quietAtIn at hq
          simp [knO, execOp, Oper.quietUponIn, Act.eval] at hq
          first | exact hq.symm | exact hq | exact hq.2.symm | exact hq.2
        subst hvk
        have hG : G.put o.dst (kv bs i) = G := hG
        have hm := hK i hkn o ho r s inv.later fun d hd => hdep d ((ok.knok i hkn).2 d hd).2 ((ok.knok i hkn).2 d hd).1
        unfold makesOp at hm
        rw [← execOp_congr o (fun cs b => hsel cs b hoA) (eval_same hsameR)] at hm
        unfold Oper.wpIn
        refine ⟨fun _ _ => trivial, ?_⟩
        rw [show Fence.wide.round = none from rfl, Oper.semAt_none]
        generalize (execOp a.eval o).run P s = res at *
        cases res with
        | ok y w' =>
          cases y <;> simp only at hm <;> simp only [Oper.uponIn]
          case value u =>
            obtain ⟨e1, e2⟩ := hm
            rw [e2]
            exact ih _ _ _ _ _ _ hul (inv.quiet3 ok hi hin hz ho hG e1)
          case enter f args =>
            refine ⟨fun h => by simp [Fence.wide] at h, callsIn_wide.2 (hm.mono fun e w'' ⟨v, he, h1, h2⟩ => ?_)⟩
            subst he h2
            exact ih _ _ _ _ _ _ hul (inv.quiet3 ok hi hin hz ho hG h1)
        | halt y w' => exact hm.elim
      · rw [if_neg hw] at hE ⊢
        exact ⟨fun _ _ => trivial, ih _ _ _ _ _ _ hul (inv.quiet3 ok hi hin hz ho hE (Below.refl _ _))⟩
    | true =>
      obtain ⟨x, hx, hxi⟩ := isNz_iff.1 hz
      obtain ⟨_, hdi, hdw⟩ := ok.nzok x hx
      rw [hxi] at hdi hdw
      obtain ⟨hw2, hm⟩ := hN i hz o ho r s inv.later fun d hd => hdep d (hdw d hd).2 (hdw d hd).1
      have hw : Region.wanted o (yielded l.toArray a.tmps) = true := by
        rw [wanted_same (ops := l.toArray) (ops' := l.toArray) (b := putN nz r G) hsameR (fun _ _ _ => rfl)]; exact hw2
      rw [if_pos hw]
      unfold makesOp at hm
      rw [← execOp_congr o (fun cs b => hsel cs b hoA) (eval_same hsameR)] at hm
      unfold Oper.wpIn
      refine ⟨fun _ _ => trivial, ?_⟩
      rw [show Fence.wide.round = none from rfl, Oper.semAt_none]
      generalize (execOp a.eval o).run P s = res at *
      cases res with
      | ok y w' =>
        cases y <;> simp only at hm <;> simp only [Oper.uponIn]
        case value u => exact ih _ _ _ _ _ _ hul (inv.made3 ok hi hx hxi ho hm.1 (hsz x hx) hm.2)
        case enter f args =>
          refine ⟨fun h => by simp [Fence.wide] at h, callsIn_wide.2 (hm.mono fun e w'' ⟨v, he, h1, h2⟩ => ?_)⟩
          subst he
          exact ih _ _ _ _ _ _ hul (inv.made3 ok hi hx hxi ho h1 (hsz x hx) h2)
      | halt y w' => exact hm.elim

theorem mix_start3 {n : Nat} {nz : List (Nat × Tmp)} {dp : Nat → List Nat} {kn : List Nat} {bs : List Bk} {l : List Oper} {Φ : Nat → List Value → Value → World → World → Prop} {w : World} {Q : Exit → Act → World → Prop} {a : Act} (hB : mixB3 n nz kn dp bs l = true) (hsz : ∀ x ∈ nz, x.2 < a.tmps.size)
    (h : wpQuietIn Fence.wide 0 P (blind2 bs l).toArray (fun w' => ∃ s : LaterJ w (fun _ => True), w' = s.w') (fun G =>
      (∀ J : World → Prop, Abides J → Nonempty (LaterJ w J) → wpQuietIn Fence.wide 0 P (blind2 bs l).toArray (fun w' => ∃ s : LaterJ w J, w' = s.w') (fun g => g = G) (blind2 bs l) a) ∧ MixAsk2 P n nz kn bs dp l Φ w Q G) (blind2 bs l) a) :
    wpAnyIn Fence.wide 0 P .any l.toArray Q l.length (Array.replicate l.length false) a w.drew := by
  have ok := mixOk3_of hB
  obtain ⟨G, hJ, hN, hK, hT⟩ := quiet_ends _ _ h
  have hsel' := Region.noSelect_spec ok.sel'
  have hE : ∀ J : World → Prop, Abides J → Nonempty (LaterJ w J) → _ := fun J hA hne => lex_end ok.lex hsel' (blind2 bs l) 0 a (fun j => by rw [Nat.zero_add]) (hJ J hA hne)
  obtain ⟨⟨e1, e2, e3⟩, _⟩ := hE (fun _ => True) (fun _ _ _ _ => trivial) ⟨⟨w, Below.refl _ _, trivial⟩⟩
  have hnl := ok.nlt
  have hun : ∀ j, j < l.length → (Array.replicate l.length false).getD j true = false := fun j hj => by simp [hj]
  have inv0 : MixInv n nz dp l Φ w G (Array.replicate l.length false) a w.drew (fun _ => undef) (fun _ => w) (fun _ => w) :=
    ⟨⟨by simp, fun j oj _ hl => (by rw [getD_replicate_false] at hl; cases hl), fun t _ ht => hun t (by simpa using ht)⟩, e1.symm, e2.symm, fun t ht => (e3 t fun i _ hti => by
        obtain ⟨h1, h2, _⟩ := ok.blind i t hti
        have := (ht i h1 h2).1
        rw [hun i (by omega)] at this; cases this).symm,
      fun i hi hl => (by rw [hun i (by have := ok.nz_lt hi; omega)] at hl; cases hl), Below.drewSelf w, fun i hi hl => (by rw [hun i (by have := ok.nz_lt hi; omega)] at hl; cases hl), fun i i' hi _ hl => (by rw [hun i (by have := ok.nz_lt hi; omega)] at hl; cases hl)⟩
  have := mix_any3 ok (fun J hA hne j o ho => (hE J hA hne).2 j o (Nat.zero_le _) ho) hN hK hT (fun x hx => by rw [e2]; exact hsz x hx) n (Array.replicate l.length false) a w.drew _ _ _ (by unfold unl; refine Nat.le_trans (List.length_filter_le _ _) (by simp)) inv0
  rwa [show l.length - n + n = l.length by omega] at this

theorem wp_region_mix3 {id n : Nat} {nz : List (Nat × Tmp)} {dp : Nat → List Nat} {kn : List Nat} {bs : List Bk} {l : List Oper} {Φ : Nat → List Value → Value → World → World → Prop} {w : World} {Q : Exit → Act → World → Prop} {a : Act} (hm : P.follows .mixedOrders = true) (hB : mixB3 n nz kn dp bs l = true) (hsz : ∀ x ∈ nz, x.2 < a.tmps.size)
    (h : wpQuietIn Fence.wide 0 P (blind2 bs l).toArray (fun w' => ∃ s : LaterJ w (fun _ => True), w' = s.w') (fun G =>
      (∀ J : World → Prop, Abides J → Nonempty (LaterJ w J) → wpQuietIn Fence.wide 0 P (blind2 bs l).toArray (fun w' => ∃ s : LaterJ w J, w' = s.w') (fun g => g = G) (blind2 bs l) a) ∧ MixAsk2 P n nz kn bs dp l Φ w Q G) (blind2 bs l) a) :
    (Code.region id l.toArray true).wp P Q a w := by
  refine (wpIn_wide (n := 0)).1 (wpIn_region_any hm ?_)
  have := mix_start3 hB hsz h
  simpa using this
/-- in a round -/
theorem wpIn_region_mix3 {i id n : Nat} {nz : List (Nat × Tmp)} {dp : Nat → List Nat} {kn : List Nat} {bs : List Bk} {l : List Oper} {Φ : Nat → List Value → Value → World → World → Prop} {w : World} {Q : Exit → Act → World → Prop} {a : Act} (hm : P.follows .mixedOrders = true) (hB : mixB3 n nz kn dp bs l = true) (hd : ∀ o ∈ l, ∀ c, o.op ≠ .defer c) (hsz : ∀ x ∈ nz, x.2 < a.tmps.size)
    (h : wpQuietIn Fence.wide 0 P (blind2 bs l).toArray (fun w' => ∃ s : LaterJ w (fun _ => True), w' = s.w') (fun G =>
      (∀ J : World → Prop, Abides J → Nonempty (LaterJ w J) → wpQuietIn Fence.wide 0 P (blind2 bs l).toArray (fun w' => ∃ s : LaterJ w J, w' = s.w') (fun g => g = G) (blind2 bs l) a) ∧ MixAsk2 P n nz kn bs dp l Φ w Q G) (blind2 bs l) a) :
    (Code.region id l.toArray true).wpIn (Fence.wide.inRound i) 0 P Q a w := by
  refine wpIn_region_any hm (wpAnyIn_round rfl i (fun j o ho => hd o (List.mem_of_getElem? (by simpa using ho))) _ _ _ _ ?_)
  have := mix_start3 hB hsz h
  simpa using this

end

end Go.Proofs.Ytelgbjfgmpkepaa
