/- The law of My (mix2) where late operations may come behind the first stores. Walk: Works. -/
import Derived.Test.YtelgbjfgmpkepaaKB
import Derived.Test.YtelgbjfgmpkepaaKR
import Derived.Deep.RegionHeld3
import Derived.Deep.CutBlock
namespace Go.Proofs.Ytelgbjfgmpkepaa
open Go.RowKit Go.Shelf

/-- an operation whose value hangs on the frame alone -/
def pureB (o : Oper) : Bool := match o.op with
  | .move (.tmp _) => true
  | .extract (.tmp _) _ => true
  | _ => false
theorem pure_run {P : Program} {o : Oper} (h : pureB o = true) (F : Operand → Value) : ((∃ v, ∀ w, (execOp F o).run P w = .ok (.value v) w) ∨ ∀ w, ∃ x, (execOp F o).run P w = .halt x w) ∧ ∀ w, o.about P w F = none := by
  obtain ⟨dst, op, ty, pos, after, gd⟩ := o
  unfold pureB at h
  simp only at h
  split at h
  · rename_i x t
    refine ⟨.inl ⟨F (.tmp t), fun w => ?_⟩, fun w => ?_⟩
    · simp [execOp]
    · simp [Oper.about]
  · rename_i x t k
    refine ⟨?_, fun w => by simp [Oper.about]⟩
    cases hF : F (.tmp t) with
    | tuple vs =>
      cases hv : vs[k]? with
      | some v => exact .inl ⟨v, fun w => by simp [execOp, go_sem, hF, hv]⟩
      | none => right; intro w; simp [execOp, go_sem, hF, hv]
    | _ => right; intro w; simp [execOp, go_sem, hF]
  · cases h
/-- the late operations -/
def lateB (n : Nat) (nz : List (Nat × Tmp)) (kn : List Nat) (E : List Nat) (l : List Oper) : Bool :=
  E.all fun e => (decide (e < n) && !isNz nz e && !isKn kn e) && match l[e]? with
    | some o => ((match o.guard with | none => true | some _ => false) && pureB o) && (List.range l.length).all fun j => decide (j = e) || Region.waitsFor .any l.toArray j e || Region.waitsFor .any l.toArray e j || (match l[j]? with | some oj => o.apart l.toArray oj | none => true)
    | none => false
theorem lateB_spec {n : Nat} {nz : List (Nat × Tmp)} {kn : List Nat} {E : List Nat} {l : List Oper} (h : lateB n nz kn E l = true) {e : Nat} (he : e ∈ E) : isNz nz e = false ∧ isKn kn e = false ∧ ∀ o, l[e]? = some o → o.guard = none ∧ pureB o = true ∧
    ∀ j oj, l.toArray[j]? = some oj → j ≠ e → (∀ x ∈ oj.after, Region.binds .any x = true → x.on ≠ e) → (Region.waitsFor .any l.toArray e j = true → False) → o.apart l.toArray oj = true := by
  have h := List.all_eq_true.1 h e he
  simp only [Bool.and_eq_true, Bool.not_eq_true', decide_eq_true_eq] at h
  obtain ⟨⟨⟨_, h1⟩, h2⟩, h3⟩ := h
  refine ⟨h1, h2, fun o ho => ?_⟩
  rw [ho] at h3
  simp only [Bool.and_eq_true] at h3
  obtain ⟨⟨h4, h5⟩, h6⟩ := h3
  refine ⟨?_, h5, fun j oj hj hne hno hwn => ?_⟩
  · cases hg : o.guard with
    | none => rfl
    | some g => rw [hg] at h4; cases h4
  · have hjl : j < l.length := by have := (Array.getElem?_eq_some_iff.1 hj).1; simpa using this
    have h7 := List.all_eq_true.1 h6 j (List.mem_range.2 hjl)
    have hj2 : l[j]? = some oj := by simpa using hj
    rw [hj2] at h7
    simp only [Bool.or_eq_true, decide_eq_true_eq] at h7
    rcases h7 with ((h7 | h7) | h7) | h7
    · exact absurd h7 hne
    · obtain ⟨o', ho', x, hx, hb, hon⟩ := Region.waitsFor_spec h7
      rw [hj] at ho'; cases ho'
      exact absurd hon (hno x hx hb)
    · exact (hwn h7).elim
    · exact h7
/-- the first of the tail waits for the head, but for the late ones -/
def lateSink (n : Nat) (E : List Nat) (l : List Oper) : Bool := (List.range n).all fun i => E.contains i || Region.waitsFor .any l.toArray n i
theorem late_waits {n : Nat} {E : List Nat} {l : List Oper} {listed : Array Bool} (hs : lateSink n E l = true) (hc : Region.chainB .any l.toArray n = true) (inv : HeadInv .any l.toArray n listed) {i : Nat} (hi : i < n) (hE : i ∉ E) (hun : listed.getD i true = false) : ∀ t, n ≤ t → t ∉ Region.ready .any l.toArray listed := by
  intro t ht hr
  obtain ⟨_, ot, hot, hall⟩ := mem_ready.1 hr
  have htlt : t < l.toArray.size := (Array.getElem?_eq_some_iff.1 hot).1
  have key : ∀ j, listed.getD j true = false → Region.waitsFor .any l.toArray t j = true → False := fun j hj hw => by
    obtain ⟨o', ho', x, hx, hb, hon⟩ := Region.waitsFor_spec hw
    rw [hot] at ho'; cases ho'
    have h2 := hall x hx hb
    rw [hon, getD_both hj] at h2
    cases h2
  by_cases htn : t = n
  · have h1 := List.all_eq_true.1 hs i (List.mem_range.2 hi)
    simp only [Bool.or_eq_true, List.contains_iff_mem] at h1
    rcases h1 with h1 | h1
    · exact hE h1
    · rw [← htn] at h1; exact key i hun h1
  · have h1 := List.all_eq_true.1 hc t (List.mem_range.2 htlt)
    simp only [Bool.or_eq_true, decide_eq_true_eq] at h1
    rcases h1 with h1 | h1
    · omega
    · exact key (t - 1) (inv.tail (t - 1) (by omega) (by omega)) h1
section
variable {P : Program}
def mixB5 (n : Nat) (nz : List (Nat × Tmp)) (kn : List Nat) (E : List Nat) (dp : Nat → List Nat) (bs : List Bk) (l : List Oper) : Bool :=
  (((List.range l.length).all fun j => markOk n nz kn j bs[j]?) && lexOkB (blind2 bs l) && Region.noSelect l.toArray && Region.noSelect (blind2 bs l).toArray && decide (n < l.length) && lateSink n E l && Region.chainB .any l.toArray n &&
    Region.seqB .any l.toArray (l.length - n) n (doneL n l.length)) &&
  ((List.range n).all fun j => (List.range n).all fun i => (dstOf l i).all fun d =>
    (!(lookOf l j).contains d || (!decide (i = j) && Region.waitsFor .any l.toArray j i && (!isNz nz i || ((isNz nz j || isKn kn j) && (dp j).contains i)))) && (decide (i = j) || !(dstOf l j).contains d)) &&
  ((List.range n).all fun j => match l[j]? with | some o => o.after.all fun e => !Region.binds .any e || decide (e.on < j) | none => true) &&
  ((List.range n).all fun j => match l[j]? with | some o => (match o.guard with | some (g, _) => decide (g < n) && !isNz nz g | none => true) | none => true) &&
  (nz.all fun x => decide (x.1 < n) && (dstOf l x.1 == [x.2]) && (dp x.1).all fun d => isNz nz d && Region.waitsFor .any l.toArray x.1 d) &&
  (kn.all fun x => (decide (x < n) && !isNz nz x) && (dp x).all fun d => isNz nz d && Region.waitsFor .any l.toArray x d) && lateB n nz kn E l

structure MixOk5 (n : Nat) (nz : List (Nat × Tmp)) (kn : List Nat) (E : List Nat) (dp : Nat → List Nat) (bs : List Bk) (l : List Oper) : Prop where
  lex : LexOk (blind2 bs l)
  sel : Region.noSelect l.toArray = true
  sel' : Region.noSelect (blind2 bs l).toArray = true
  nlt : n < l.length
  sink : lateSink n E l = true
  chain : Region.chainB .any l.toArray n = true
  seq : Region.seqB .any l.toArray (l.length - n) n (doneL n l.length) = true
  quiet : ∀ j, j < n → isNz nz j = false → isKn kn j = false → (blind2 bs l)[j]? = l[j]?
  known : ∀ j, isKn kn j = true → (blind2 bs l)[j]? = (l[j]?).map (knO (kv bs j))
  look : ∀ j, j < n → ∀ i, i < n → ∀ d ∈ dstOf l i, d ∈ lookOf l j → i ≠ j ∧ Region.waitsFor .any l.toArray j i = true ∧ (isNz nz i = true → (isNz nz j = true ∨ isKn kn j = true) ∧ i ∈ dp j)
  dst : ∀ j, j < n → ∀ i, i < n → i ≠ j → ∀ d ∈ dstOf l i, d ∉ dstOf l j
  back : ∀ j, j < n → ∀ o, l[j]? = some o → ∀ e ∈ o.after, Region.binds .any e = true → e.on < j
  guard : ∀ j, j < n → ∀ o, l[j]? = some o → ∀ g b, o.guard = some (g, b) → g < n ∧ isNz nz g = false
  blind : ∀ i t, t ∈ dstOf (blind2 bs l) i → i < n ∧ t ∈ dstOf l i ∧ isNz nz i = false
  nzok : ∀ x ∈ nz, x.1 < n ∧ dstOf l x.1 = [x.2] ∧ ∀ d ∈ dp x.1, isNz nz d = true ∧ Region.waitsFor .any l.toArray x.1 d = true
  knok : ∀ x, isKn kn x = true → (x < n ∧ isNz nz x = false) ∧ ∀ d ∈ dp x, isNz nz d = true ∧ Region.waitsFor .any l.toArray x d = true
  late : lateB n nz kn E l = true

theorem mixOk5_of {n : Nat} {nz : List (Nat × Tmp)} {kn : List Nat} {E : List Nat} {dp : Nat → List Nat} {bs : List Bk} {l : List Oper} (h : mixB5 n nz kn E dp bs l = true) : MixOk5 n nz kn E dp bs l := by
  simp only [mixB5, Bool.and_eq_true] at h
  obtain ⟨⟨⟨⟨⟨⟨⟨⟨⟨⟨⟨⟨⟨hbs, hlex⟩, hsel⟩, hsel'⟩, hn⟩, hsink⟩, hchain⟩, hseq⟩, hlook⟩, hback⟩, hguard⟩, hnz⟩, hkn⟩, hlate⟩ := h
  have hn := of_decide_eq_true hn
  have mark : ∀ j, j < l.length → markOk n nz kn j bs[j]? = true := fun j hj => List.all_eq_true.1 hbs j (List.mem_range.2 hj)
  have hkno : ∀ x, isKn kn x = true → (x < n ∧ isNz nz x = false) ∧ ∀ d ∈ dp x, isNz nz d = true ∧ Region.waitsFor .any l.toArray x d = true := fun x hx => by
    have h := List.all_eq_true.1 hkn x (List.contains_iff_mem.1 hx)
    simp only [Bool.and_eq_true, decide_eq_true_eq, Bool.not_eq_true'] at h
    exact ⟨h.1, fun d hd => by simpa using List.all_eq_true.1 h.2 d hd⟩
  have key : ∀ j, j < n → ∀ i, i < n → ∀ d ∈ dstOf l i, ((!(lookOf l j).contains d || (!decide (i = j) && Region.waitsFor .any l.toArray j i && (!isNz nz i || ((isNz nz j || isKn kn j) && (dp j).contains i)))) && (decide (i = j) || !(dstOf l j).contains d)) = true := fun j hj i hi d hd =>
    List.all_eq_true.1 (List.all_eq_true.1 (List.all_eq_true.1 hlook j (List.mem_range.2 hj)) i (List.mem_range.2 hi)) d hd
  refine ⟨lexOk_of hlex, hsel, hsel', hn, hsink, hchain, hseq, fun j hj hz hk => ?_, fun j hk => ?_, fun j hj i hi d hd hl => ?_, fun j hj i hi hne d hd hd2 => ?_, fun j hj o ho e he hb => ?_, fun j hj o ho g b hg => ?_, fun i t ht => ?_, fun x hx => ?_, hkno, hlate⟩
  · have hm := mark j (by omega)
    cases hb : bs[j]? with
    | none => rw [hb] at hm; cases hm
    | some b =>
      rw [blind2_get hb]
      rw [hb] at hm
      cases b with
      | keep => cases l[j]? <;> rfl
      | off => simp [markOk, hz] at hm; omega
      | say v => simp [markOk, hk] at hm
  · obtain ⟨⟨h1, h2⟩, _⟩ := hkno j hk
    have hm := mark j (by omega)
    cases hb : bs[j]? with
    | none => rw [hb] at hm; cases hm
    | some b =>
      rw [blind2_get hb]
      rw [hb] at hm
      cases b with
      | keep => simp [markOk, hk] at hm
      | off => simp [markOk, h2] at hm; omega
      | say v =>
        have e : kv bs j = v := by simp [kv, hb]
        rw [e]; cases l[j]? <;> rfl
  · have h := key j hj i hi d hd
    rw [List.contains_iff_mem.2 hl] at h
    simp only [Bool.not_true, Bool.false_or, Bool.and_eq_true, Bool.not_eq_true', decide_eq_false_iff_not, Bool.or_eq_true, List.contains_iff_mem] at h
    exact ⟨h.1.1.1, h.1.1.2, fun hz => h.1.2.resolve_left fun h => by rw [hz] at h; cases h⟩
  · have h := key j hj i hi d hd
    rw [List.contains_iff_mem.2 hd2] at h
    simp [hne] at h
  · have h := List.all_eq_true.1 hback j (List.mem_range.2 hj)
    rw [ho] at h
    have := Array.all_eq_true_iff_forall_mem.1 h e he
    simp only [hb, Bool.not_true, Bool.false_or, decide_eq_true_eq] at this
    exact this
  · have h := List.all_eq_true.1 hguard j (List.mem_range.2 hj)
    rw [ho] at h
    simp only [hg, Bool.and_eq_true, decide_eq_true_eq, Bool.not_eq_true'] at h
    exact h
  · obtain ⟨o, ho, hd⟩ := of_dst ht
    rcases Nat.lt_or_ge i l.length with hi | hi
    · have hm := mark i hi
      cases hb : bs[i]? with
      | none => rw [hb] at hm; cases hm
      | some b =>
        rw [hb] at hm
        rw [blind2_get hb] at ho
        cases hl : l[i]? with
        | none => rw [hl] at ho; cases ho
        | some o2 =>
          rw [hl] at ho
          simp only [Option.map_some, Option.some.injEq] at ho
          cases b with
          | keep =>
            simp [markOk] at hm
            have ho : o2 = o := ho
            subst ho
            exact ⟨hm.2, dst_of hl hd, hm.1.1⟩
          | off => rw [← ho] at hd; cases hd
          | say v =>
            simp [markOk] at hm
            rw [← ho] at hd
            exact ⟨hm.2, dst_of hl hd, hm.1.2⟩
    · rw [List.getElem?_eq_none (by rw [blind2_len]; exact hi)] at ho; cases ho
  · have h := List.all_eq_true.1 hnz x hx
    simp only [Bool.and_eq_true, decide_eq_true_eq, beq_iff_eq] at h
    obtain ⟨⟨h1, h2⟩, h5⟩ := h
    exact ⟨h1, h2, fun d hd => by simpa using List.all_eq_true.1 h5 d hd⟩

section
variable {n : Nat} {nz : List (Nat × Tmp)} {dp : Nat → List Nat} {kn : List Nat} {E : List Nat} {bs : List Bk} {l : List Oper} {Φ : Nat → List Value → Value → World → World → Prop} {w : World} {G : Act} {listed : Array Bool} {a : Act} {s : World} {r : Nat → Value} {p q : Nat → World}
theorem MixOk5.dst_nz (ok : MixOk5 n nz kn E dp bs l) {x : Nat × Tmp} (hx : x ∈ nz) {t : Tmp} {j : Nat} (hj : j < n) (ht : t ∈ dstOf l j) (hz : isNz nz j = true) (hall : ∀ y ∈ nz, y.2 ≠ t) : False := by
  have _ := hx; have _ := hj
  obtain ⟨y, hy, rfl⟩ := isNz_iff.1 hz
  obtain ⟨_, h2, _⟩ := ok.nzok y hy
  rw [h2] at ht
  exact hall y hy (List.mem_singleton.1 ht).symm
theorem MixOk5.not_nz (ok : MixOk5 n nz kn E dp bs l) {t : Tmp} {j : Nat} (ht : t ∈ dstOf l j) (hall : ∀ y ∈ nz, y.2 ≠ t) : isNz nz j = false := by
  cases hz : isNz nz j with
  | false => rfl
  | true =>
    obtain ⟨y, hy, rfl⟩ := isNz_iff.1 hz
    obtain ⟨_, h2, _⟩ := ok.nzok y hy
    rw [h2] at ht
    exact absurd (List.mem_singleton.1 ht).symm (hall y hy)
theorem MixOk5.nz_lt (ok : MixOk5 n nz kn E dp bs l) {j : Nat} (hz : isNz nz j = true) : j < n := by
  obtain ⟨y, hy, rfl⟩ := isNz_iff.1 hz
  exact (ok.nzok y hy).1
theorem MixOk5.one (ok : MixOk5 n nz kn E dp bs l) {x y : Nat × Tmp} (hx : x ∈ nz) (hy : y ∈ nz) (e : x.2 = y.2) : x.1 = y.1 := by
  obtain ⟨h1, h2, _⟩ := ok.nzok x hx
  obtain ⟨h3, h4, _⟩ := ok.nzok y hy
  refine Classical.byContradiction fun hne => ?_
  exact ok.dst y.1 h3 x.1 h1 hne x.2 (by rw [h2]; simp) (by rw [h4, e]; simp)

theorem MixInv.quiet5 (ok : MixOk5 n nz kn E dp bs l) (inv : MixInv n nz dp l Φ w G listed a s r p q) {i : Nat} (hi : i ∈ Region.ready .any l.toArray listed) (hin : i < n) (hz : isNz nz i = false) {o : Oper} (ho : l[i]? = some o) {v : Value} (hG : G.put o.dst v = G)
    {s' : World} (hs : Below s.heap.size s s') : MixInv n nz dp l Φ w G (listed.setIfInBounds i true) (a.put o.dst v) s' r p q := by
  have hlis : ∀ j, isNz nz j = true → (listed.setIfInBounds i true).getD j true = true → listed.getD j true = true := fun j hj h => by
    rwa [getD_set_ne true (fun e => by rw [e] at hz; rw [hz] at hj; cases hj)] at h
  refine ⟨inv.head.set hi hin, by rw [put_defers]; exact inv.defers, by rw [put_size]; exact inv.size, fun t ht => ?_, fun j hj hl d hd => ?_, inv.later.trans (hs.mono inv.later.size), fun j hj hl => ?_, fun j j' hj hj' hl hl' hne => inv.apart j j' hj hj' (hlis j hj hl) (hlis j' hj' hl') hne⟩
  · by_cases hd : o.dst = some t
    · have e1 : (a.put o.dst v).tmps[t]? = (G.put o.dst v).tmps[t]? := by
        rw [hd]; simp only [Act.put, Array.getElem?_setIfInBounds_self]; rw [inv.size]
      rw [e1, hG]
    · rw [put_get hd]
      refine inv.slot t fun j hj htj => ?_
      have h := ht j hj htj
      by_cases e : i = j
      · subst e
        obtain ⟨o', ho', hd'⟩ := of_dst htj
        rw [ho] at ho'; cases ho'
        exact absurd hd' hd
      · rw [getD_set_ne true e] at h; exact h
  · have hne : i ≠ j := fun e => by rw [e] at hz; rw [hz] at hj; cases hj
    rw [put_get fun e => ok.dst i hin j (ok.nz_lt hj) (fun e => hne e.symm) d hd (dst_of ho e)]
    exact inv.noisy j hj (hlis j hj hl) d hd
  · obtain ⟨h1, h2, h3⟩ := inv.made j hj (hlis j hj hl)
    exact ⟨h1, bstep h2 hs, h3⟩

theorem MixInv.made5 (ok : MixOk5 n nz kn E dp bs l) (inv : MixInv n nz dp l Φ w G listed a s r p q) {i : Nat} (hi : i ∈ Region.ready .any l.toArray listed) {x : Nat × Tmp} (hx : x ∈ nz) (hxi : x.1 = i) {o : Oper} (ho : l[i]? = some o) {v : Value}
    {s' : World} (hs : Below s.heap.size s s') (hsz : x.2 < G.tmps.size) (hΦ : Φ i (dpv dp r i) v s s') :
    MixInv n nz dp l Φ w G (listed.setIfInBounds i true) (a.put o.dst v) s' (fun k => if k = i then v else r k) (fun k => if k = i then s else p k) (fun k => if k = i then s' else q k) := by
  obtain ⟨hin, hdi, hdw⟩ := ok.nzok x hx
  rw [hxi] at hin hdi hdw
  have hun := (mem_ready.1 hi).1
  have hod : o.dst = some x.2 := by
    obtain ⟨o', ho', hd'⟩ := of_dst (show x.2 ∈ dstOf l i by rw [hdi]; simp)
    rw [ho] at ho'; cases ho'; exact hd'
  have hiz : isNz nz i = true := isNz_iff.2 ⟨x, hx, hxi⟩
  have hlis : ∀ j, j ≠ i → (listed.setIfInBounds i true).getD j true = true → listed.getD j true = true := fun j hj h => by rwa [getD_set_ne true (fun e => hj e.symm)] at h
  -- what leans on i is not listed
  have hdep : ∀ j, isNz nz j = true → listed.getD j true = true → i ∉ dp j := fun j hj hl hd => by
    obtain ⟨y, hy, rfl⟩ := isNz_iff.1 hj
    obtain ⟨h1, _, h5⟩ := ok.nzok y hy
    obtain ⟨oj, hoj, e2, he, hb, hon⟩ := Region.waitsFor_spec (h5 i hd).2
    have hls : y.1 < listed.size := by rw [inv.head.size]; have := ok.nlt; simp; omega
    have := inv.head.closed y.1 oj hoj (getD_false_of hls hl) e2 he hb
    rw [hon] at this
    rw [getD_true this] at hun; cases hun
  have hself : i ∉ dp i := fun hd => by
    obtain ⟨oj, hoj, e2, he, hb, hon⟩ := Region.waitsFor_spec (hdw i hd).2
    obtain ⟨_, o', ho', hafter⟩ := mem_ready.1 hi
    rw [hoj] at ho'; cases ho'
    have := hafter e2 he hb
    rw [hon] at this
    rw [getD_true this] at hun; cases hun
  refine ⟨inv.head.set hi hin, by rw [put_defers]; exact inv.defers, by rw [put_size]; exact inv.size, fun t ht => ?_, fun j hj hl d hd => ?_, inv.later.trans (hs.mono inv.later.size), fun j hj hl => ?_, fun j j' hj hj' hl hl' hne => ?_⟩
  · have htx : x.2 ≠ t := fun e => by
      have := (ht i hin (by rw [hdi, e]; simp)).2
      rw [hiz] at this; cases this
    rw [hod, put_get fun e => htx (Option.some.inj e)]
    refine inv.slot t fun j hj htj => ?_
    have h := ht j hj htj
    by_cases e : i = j
    · subst e; rw [hiz] at h; cases h.2
    · rw [getD_set_ne true e] at h; exact h
  · by_cases e : j = i
    · subst e
      rw [hdi] at hd
      obtain rfl := List.mem_singleton.1 hd
      rw [hod]
      simp [Act.put, inv.size, hsz]
    · rw [put_get fun e2 => ok.dst i hin j (ok.nz_lt hj) e d hd (dst_of ho e2), if_neg e]
      exact inv.noisy j hj (hlis j e hl) d hd
  · by_cases e : j = i
    · subst e
      have e1 : dpv dp (fun k => if k = j then v else r k) j = dpv dp r j := by
        unfold dpv
        exact List.map_congr_left fun d hd => if_neg fun e => hself (by rw [e] at hd; exact hd)
      rw [e1]
      simp only [if_true]
      exact ⟨hΦ, Below.refl _ _, inv.later⟩
    · have hl0 := hlis j e hl
      obtain ⟨h1, h2, h3⟩ := inv.made j hj hl0
      have e1 : dpv dp (fun k => if k = i then v else r k) j = dpv dp r j := by
        unfold dpv
        exact List.map_congr_left fun d hd => if_neg fun e2 => hdep j hj hl0 (by rw [e2] at hd; exact hd)
      rw [e1, if_neg e, if_neg e, if_neg e]
      exact ⟨h1, bstep h2 hs, h3⟩
  · by_cases e : j = i
    · subst e
      have e2 : j' ≠ j := fun h => hne h.symm
      rw [if_pos rfl, if_pos rfl, if_neg e2, if_neg e2]
      exact .inr (inv.made j' hj' (hlis j' e2 hl')).2.1.size
    · by_cases e2 : j' = i
      · subst e2
        rw [if_pos rfl, if_pos rfl, if_neg e, if_neg e]
        exact .inl (inv.made j hj (hlis j e hl)).2.1.size
      · rw [if_neg e, if_neg e, if_neg e2, if_neg e2]
        exact inv.apart j j' hj hj' (hlis j e hl) (hlis j' e2 hl') hne
end

theorem mix_any5 {n : Nat} {nz : List (Nat × Tmp)} {kn : List Nat} {E : List Nat} {dp : Nat → List Nat} {bs : List Bk} {l : List Oper} {Φ : Nat → List Value → Value → World → World → Prop} {w : World} {G : Act} {Q : Exit → Act → World → Prop} (hP : ∀ (c : _) (a : Act) (d : Option Tmp) (v : Value) (w : World), Q (.panic c) (a.put d v) w → Q (.panic c) a w) (ok : MixOk5 n nz kn E dp bs l)
    (hQ : ∀ (J : World → Prop), Abides J → Nonempty (LaterJ w J) → ∀ (j : Nat) (o : Oper), (blind2 bs l)[j]? = some o → AtEnd P (blind2 bs l).toArray (fun w' => ∃ s : LaterJ w J, w' = s.w') G o)
    (hN : ∀ i, isNz nz i = true → ∀ o, l[i]? = some o → ∀ (r : Nat → Value) (s : World), Below w.heap.size w s → (∀ d ∈ dp i, ∃ p q, Φ d (dpv dp r d) (r d) p q ∧ Below q.heap.size q s) →
      Region.wanted o (yielded l.toArray (putN nz r G).tmps) = true ∧ makesOp P o (putN nz r G) s fun v s' => Below s.heap.size s s' ∧ Φ i (dpv dp r i) v s s')
    (hK : ∀ i, isKn kn i = true → ∀ o, l[i]? = some o → ∀ (r : Nat → Value) (s : World), Below w.heap.size w s → (∀ d ∈ dp i, ∃ p q, Φ d (dpv dp r d) (r d) p q ∧ Below q.heap.size q s) →
      makesOp P o (putN nz r G) s fun v s' => Below s.heap.size s s' ∧ v = kv bs i)
    (hT : ∀ (r : Nat → Value) (p q : Nat → World) (s : World), Below w.heap.size w s → (∀ i, isNz nz i = true → Φ i (dpv dp r i) (r i) (p i) (q i) ∧ Below (q i).heap.size (q i) s ∧ Below w.heap.size w (p i)) →
      (∀ i i', isNz nz i = true → isNz nz i' = true → i ≠ i' → (q i).heap.size ≤ (p i').heap.size ∨ (q i').heap.size ≤ (p i).heap.size) → wpListIn Fence.wide 0 P l.toArray Q (l.drop n) (putN nz r G) s)
    (hsz : ∀ x ∈ nz, x.2 < G.tmps.size) :
    ∀ (h : Nat) (listed : Array Bool) (a : Act) (s : World) (r : Nat → Value) (p q : Nat → World), unl n listed ≤ h → MixInv n nz dp l Φ w G listed a s r p q → wpAnyIn Fence.wide 0 P .any l.toArray Q ((l.length - n) + h) listed a s := by
  have hnl := ok.nlt
  -- the head is done
  have fin : ∀ (h : Nat) (listed : Array Bool) (a : Act) (s : World) (r : Nat → Value) (p q : Nat → World), (∀ j, j < n → listed.getD j true = true) → MixInv n nz dp l Φ w G listed a s r p q → wpAnyIn Fence.wide 0 P .any l.toArray Q ((l.length - n) + h) listed a s := by
    intro h listed a s r p q hall inv
    have ha : a = putN nz r G := by
      obtain ⟨e1, e2⟩ := putN_size nz r G
      have e3 : a.tmps = (putN nz r G).tmps := by
        apply Array.ext_getElem?
        intro t
        by_cases hx : ∃ x ∈ nz, x.2 = t
        · obtain ⟨x, hx, rfl⟩ := hx
          rw [putN_at (i := x.1) (fun y hy e => ok.one hy hx e) ⟨x, hx, rfl⟩ G (hsz x hx)]
          obtain ⟨h1, h2, _⟩ := ok.nzok x hx
          exact inv.noisy x.1 (isNz_iff.2 ⟨x, hx, rfl⟩) (hall x.1 h1) x.2 (by rw [h2]; simp)
        · rw [putN_other (fun y hy e => hx ⟨y, hy, e⟩)]
          exact inv.slot t fun j hj htj => ⟨hall j hj, ok.not_nz htj fun y hy e => hx ⟨y, hy, e⟩⟩
      have e4 := inv.defers
      rw [← e2] at e4
      cases a; cases hP : putN nz r G; rw [hP] at e3 e4; cases e3; cases e4; rfl
    have hl : listed = doneL n l.length := by
      have hs : listed.size = l.length := by rw [inv.head.size]; simp
      apply Array.ext (by rw [hs]; simp [doneL])
      intro j hj hj2
      have e : (doneL n l.length)[j] = decide (j < n) := by simp [doneL]
      rw [e]
      by_cases hjn : j < n
      · have := hall j hjn
        simp [hj] at this
        rw [this]; simp [hjn]
      · have := inv.head.tail j (by omega) (by simp; omega)
        simp [hj] at this
        rw [this]; simp [hjn]
    have hm : ∀ i, isNz nz i = true → listed.getD i true = true := fun i hi => hall i (ok.nz_lt hi)
    have hw := hT r p q s inv.later (fun i hi => inv.made i hi (hm i hi)) fun i i' hi hi' hne => inv.apart i i' hi hi' (hm i hi) (hm i' hi') hne
    rw [← ha] at hw
    have hd : (l.drop n).length = l.length - n := by simp
    rw [← hd]
    exact wpAnyIn_of_seq h (l.drop n) n listed a s (fun j => by simp [List.getElem?_drop]) (by rw [hd, hl]; exact ok.seq) hw
  intro h
  induction h with
  | zero =>
    intro listed a s r p q hu inv
    refine fin 0 listed a s r p q (fun j hj => ?_) inv
    cases hj2 : listed.getD j true with
    | true => rfl
    | false =>
      have : j ∈ (List.range n).filter fun j => !listed.getD j true := List.mem_filter.2 ⟨List.mem_range.2 hj, by rw [hj2]; rfl⟩
      have h0 : ((List.range n).filter fun j => !listed.getD j true).length = 0 := Nat.le_zero.1 hu
      rw [List.eq_nil_of_length_eq_zero h0] at this
      cases this
  | succ h ih =>
    intro listed a s r p q hu inv
    by_cases hall : ∀ j, j < n → listed.getD j true = true
    · exact fin (h + 1) listed a s r p q hall inv
    -- the first that is to come
    have hex : ∃ k, k < n ∧ listed.getD k true = false ∧ ∀ j, j < k → listed.getD j true = true := by
      have : ∀ m, (∀ j, j < m → listed.getD j true = true) ∨ ∃ k, k < m ∧ listed.getD k true = false ∧ ∀ j, j < k → listed.getD j true = true := by
        intro m
        induction m with
        | zero => exact .inl fun j hj => by omega
        | succ m ihm =>
          rcases ihm with h | ⟨k, h1, h2, h3⟩
          · cases hm : listed.getD m true with
            | true =>
              refine .inl fun j hj => ?_
              rcases Nat.lt_or_eq_of_le (Nat.lt_succ_iff.1 hj) with h1 | rfl
              · exact h j h1
              · exact hm
            | false => exact .inr ⟨m, by omega, hm, h⟩
          · exact .inr ⟨k, by omega, h2, h3⟩
      exact (this n).resolve_left hall
    obtain ⟨k, hkn, hku, hkl⟩ := hex
    have hsz2 : listed.size = l.length := by rw [inv.head.size]; simp
    have hkr : k ∈ Region.ready .any l.toArray listed := by
      have hk0 : l[k]? = some (l[k]'(by omega)) := by simp
      refine mem_ready.2 ⟨hku, l[k]'(by omega), (by rw [List.getElem?_toArray]; exact hk0), fun e he hb => ?_⟩
      have := ok.back k hkn _ hk0 e he hb
      exact getD_false_of (by omega) (hkl _ this)
    rw [show (l.length - n) + (h + 1) = ((l.length - n) + h) + 1 by omega]
    by_cases hkE : k ∈ E
    · obtain ⟨hz, hkn2, hlo⟩ := lateB_spec ok.late hkE
      obtain ⟨_, o, hoA, hafter⟩ := mem_ready.1 hkr
      have ho : l[k]? = some o := by simpa using hoA
      obtain ⟨hg0, hpu, hap⟩ := hlo o ho
      have hul : unl n (listed.setIfInBounds k true) ≤ h := by have := unl_set (n := n) hkn (by omega) hku; omega
      have hsame : ∀ d ∈ o.looksAt l.toArray, a.tmps[d]? = G.tmps[d]? := fun d hd => inv.slot d fun j hj hdj => by
        obtain ⟨_, h2, h3⟩ := ok.look k hkn j hj d hdj (by unfold lookOf; rw [ho]; exact hd)
        obtain ⟨o', ho', e, he, hb, hon⟩ := Region.waitsFor_spec h2
        rw [hoA] at ho'; cases ho'
        have h4 := hafter e he hb
        rw [hon] at h4
        refine ⟨getD_true h4, ?_⟩
        cases hjz : isNz nz j with
        | false => rfl
        | true => rcases (h3 hjz).1 with h5 | h5; (rw [hz] at h5; cases h5); (rw [hkn2] at h5; cases h5)
      have hsel := Region.noSelect_spec ok.sel k o
      have hE := hQ (fun B => Below s.heap.size s B) (fun A B hA hB => bstep hA hB) ⟨⟨s, inv.later, Below.refl _ _⟩⟩ k o (by rw [ok.quiet k hkn hz hkn2]; exact ho)
      unfold AtEnd at hE
      rw [if_pos (by simp [Region.wanted, hg0])] at hE
      obtain ⟨v, hv, hG⟩ := hE
      have hq := hv s ⟨⟨s, inv.later, Below.refl _ _⟩, rfl⟩
      unfold Oper.quietAtIn at hq
      rw [← execOp_congr o (fun cs b => hsel cs b hoA) (eval_same hsame)] at hq
      obtain ⟨hpr, hab⟩ := pure_run (P := P) hpu a.eval
      have hrun : ∀ w, (execOp a.eval o).run P w = .ok (.value v) w := by
        rcases hpr with ⟨u, hu⟩ | hh
        · rw [hu s] at hq
          simp only [Oper.quietUponIn] at hq
          obtain ⟨_, e2⟩ := hq
          intro w
          rw [hu w, e2]
        · obtain ⟨x, hx⟩ := hh s
          rw [hx] at hq
          simp only [Oper.quietUponIn] at hq
      exact wpAnyIn_first (i := k) (oi := o) (v := v) rfl hoA (Region.noSelect_spec ok.sel) (fun c a' w' h' => hP c a' _ _ w' h') _ listed a s (fun j oj hj hne hun hno => hap j oj hj hne hno fun hw => by
          obtain ⟨o', ho', x, hx, hb, hon⟩ := Region.waitsFor_spec hw
          rw [hoA] at ho'; cases ho'
          have h2 := hafter x hx hb
          rw [hon, getD_both hun] at h2
          cases h2) hkr ⟨.inl ⟨by simp [Region.wanted, hg0], hrun⟩, hab⟩
        (ih _ _ _ _ _ _ hul (inv.quiet5 ok hkr hkn hz ho hG (Below.refl _ _)))
    refine ⟨(fun h0 => by rw [h0] at hkr; cases hkr), fun i hi => ?_⟩
    have hin : i < n := by
      rcases Nat.lt_or_ge i n with h1 | h1
      · exact h1
      · exact absurd hi (late_waits ok.sink ok.chain inv.head hkn hkE hku i h1)
    obtain ⟨hiu, o, hoA, hafter⟩ := mem_ready.1 hi
    have ho : l[i]? = some o := by simpa using hoA
    have hul : unl n (listed.setIfInBounds i true) ≤ h := by have := unl_set (n := n) hin (by omega) hiu; omega
    -- what it looks at is there
    have hlk : ∀ j, j < n → ∀ d ∈ dstOf l j, d ∈ o.looksAt l.toArray → listed.getD j true = true ∧ (isNz nz j = true → (isNz nz i = true ∨ isKn kn i = true) ∧ j ∈ dp i) := fun j hj d hd hdo => by
      obtain ⟨_, h2, h3⟩ := ok.look i hin j hj d hd (by unfold lookOf; rw [ho]; exact hdo)
      obtain ⟨o', ho', e, he, hb, hon⟩ := Region.waitsFor_spec h2
      rw [hoA] at ho'; cases ho'
      have := hafter e he hb
      rw [hon] at this
      exact ⟨getD_true this, h3⟩
    have hsel := Region.noSelect_spec ok.sel i o
    -- at the slots that an operation looks at
    have hsameR : ∀ d ∈ o.looksAt l.toArray, a.tmps[d]? = (putN nz r G).tmps[d]? := fun d hd => by
        by_cases hy : ∃ y ∈ nz, y.2 = d
        · obtain ⟨y, hy, rfl⟩ := hy
          obtain ⟨h1, h2, _⟩ := ok.nzok y hy
          rw [putN_at (i := y.1) (fun z hz e => ok.one hz hy e) ⟨y, hy, rfl⟩ G (hsz y hy)]
          obtain ⟨h3, _⟩ := hlk y.1 h1 y.2 (by rw [h2]; simp) hd
          exact inv.noisy y.1 (isNz_iff.2 ⟨y, hy, rfl⟩) h3 y.2 (by rw [h2]; simp)
        · rw [putN_other (fun y hy2 e => hy ⟨y, hy2, e⟩)]
          exact inv.slot d fun j hj hdj => ⟨(hlk j hj d hdj hd).1, ok.not_nz hdj fun y hy2 e => hy ⟨y, hy2, e⟩⟩
    have hdep : ∀ d, Region.waitsFor .any l.toArray i d = true → isNz nz d = true → ∃ p q, Φ d (dpv dp r d) (r d) p q ∧ Below q.heap.size q s := fun d hwf hdz => by
        have hl : listed.getD d true = true := by
          obtain ⟨o', ho', e, he, hb, hon⟩ := Region.waitsFor_spec hwf
          rw [hoA] at ho'; cases ho'
          have := hafter e he hb
          rw [hon] at this
          exact getD_true this
        obtain ⟨h1, h2, _⟩ := inv.made d hdz hl
        exact ⟨_, _, h1, h2⟩
    have hgd : ∀ g b, o.guard = some (g, b) → (l.toArray[g]?).bind (·.dst) = ((blind2 bs l).toArray[g]?).bind (·.dst) := fun g b hg => by
        obtain ⟨h1, h2⟩ := ok.guard i hin o ho g b hg
        simp only [List.getElem?_toArray]
        cases hk : isKn kn g with
        | false => rw [ok.quiet g h1 h2 hk]
        | true => rw [ok.known g hk]; cases l[g]? <;> rfl
    -- the guard stands in a quiet slot
    have hgG : ∀ g b, o.guard = some (g, b) → ∀ d, (l.toArray[g]?).bind (·.dst) = some d → a.tmps[d]? = G.tmps[d]? := fun g b hg d hd => by
        obtain ⟨h1, h2⟩ := ok.guard i hin o ho g b hg
        have hdl : d ∈ o.looksAt l.toArray := by unfold Oper.looksAt; rw [hg]; refine List.mem_append_right _ ?_; simp; simpa using hd
        refine inv.slot d fun j hj hdj => ⟨(hlk j hj d hdj hdl).1, ?_⟩
        by_cases e : j = g
        · rw [e]; exact h2
        · refine absurd hdj (ok.dst j hj g h1 (fun e2 => e e2.symm) d ?_)
          cases hg0 : l[g]? with
          | none => simp [hg0] at hd
          | some og => simp [hg0] at hd; exact dst_of hg0 hd
    have hwG : Region.wanted o (yielded l.toArray a.tmps) = Region.wanted o (yielded (blind2 bs l).toArray G.tmps) := by
        unfold Region.wanted
        cases hg0 : o.guard with
        | none => rfl
        | some pr =>
          obtain ⟨g, want⟩ := pr
          simp only
          congr 1
          unfold yielded
          rw [← hgd g want hg0]
          cases hd : (l.toArray[g]?).bind (·.dst) with
          | none => rfl
          | some d => simp [hgG g want hg0 d hd]
    unfold wpOpIn
    simp only [hoA]
    cases hz : isNz nz i with
    | false =>
     cases hkn : isKn kn i with
     | false =>
      have hsame : ∀ d ∈ o.looksAt l.toArray, a.tmps[d]? = G.tmps[d]? := fun d hd => inv.slot d fun j hj hdj => by
        obtain ⟨h1, h2⟩ := hlk j hj d hdj hd
        refine ⟨h1, ?_⟩
        cases hjz : isNz nz j with
        | false => rfl
        | true => rcases (h2 hjz).1 with h | h; (rw [hz] at h; cases h); (rw [hkn] at h; cases h)
      have hE := hQ (fun B => Below s.heap.size s B) (fun A B hA hB => bstep hA hB) ⟨⟨s, inv.later, Below.refl _ _⟩⟩ i o (by rw [ok.quiet i hin hz hkn]; exact ho)
      unfold AtEnd at hE
      have hwe := hwG
      rw [← hwe] at hE
      by_cases hw : Region.wanted o (yielded l.toArray a.tmps) = true
      · rw [if_pos hw] at hE ⊢
        obtain ⟨v, hv, hG⟩ := hE
        have hq := hv s ⟨⟨s, inv.later, Below.refl _ _⟩, rfl⟩
        unfold Oper.quietAtIn at hq
        rw [← execOp_congr o (fun cs b => hsel cs b hoA) (eval_same hsame)] at hq
        unfold Oper.wpIn
        refine ⟨fun _ _ => trivial, ?_⟩
        rw [show Fence.wide.round = none from rfl, Oper.semAt_none]
        generalize (execOp a.eval o).run P s = res at *
        cases res with
        | ok x w' =>
          cases x <;> simp only [Oper.quietUponIn] at hq <;> simp only [Oper.uponIn]
          case value u =>
            obtain ⟨e1, e2⟩ := hq
            rw [e1, e2]
            exact ih _ _ _ _ _ _ hul (inv.quiet5 ok hi hin hz ho hG (Below.refl _ _))
          case skip =>
            obtain ⟨e1, e2⟩ := hq
            rw [e1, ← e2]
            exact ih _ _ _ _ _ _ hul (inv.quiet5 ok hi hin hz ho hG (Below.refl _ _))
          case enter f args =>
            obtain ⟨e1, _, hc⟩ := hq
            rw [e1]
            refine ⟨fun h => by simp [Fence.wide] at h, hc.mono fun e w'' ⟨he, s', hs'⟩ => ?_⟩
            subst he
            rw [hs']
            exact ih _ _ _ _ _ _ hul (inv.quiet5 ok hi hin hz ho hG s'.j)
        | halt x w' => simp only [Oper.quietUponIn] at hq
      · rw [if_neg hw] at hE ⊢
        exact ⟨fun _ _ => trivial, ih _ _ _ _ _ _ hul (inv.quiet5 ok hi hin hz ho hE (Below.refl _ _))⟩
     | true =>
      have hE := hQ (fun B => Below s.heap.size s B) (fun A B hA hB => bstep hA hB) ⟨⟨s, inv.later, Below.refl _ _⟩⟩ i (knO (kv bs i) o) (by rw [ok.known i hkn, ho]; rfl)
      unfold AtEnd at hE
      have hwe : Region.wanted o (yielded l.toArray a.tmps) = Region.wanted (knO (kv bs i) o) (yielded (blind2 bs l).toArray G.tmps) := hwG
      rw [← hwe] at hE
      by_cases hw : Region.wanted o (yielded l.toArray a.tmps) = true
      · rw [if_pos hw] at hE ⊢
        obtain ⟨v, hv, hG⟩ := hE
        have hq := hv s ⟨⟨s, inv.later, Below.refl _ _⟩, rfl⟩
        have hvk : v = kv bs i := by
          unfold Oper.quietAtIn at hq
          simp [knO, execOp, Oper.quietUponIn, Act.eval] at hq
          first | exact hq.symm | exact hq | exact hq.2.symm | exact hq.2
        subst hvk
        have hG : G.put o.dst (kv bs i) = G := hG
        have hm := hK i hkn o ho r s inv.later fun d hd => hdep d ((ok.knok i hkn).2 d hd).2 ((ok.knok i hkn).2 d hd).1
        unfold makesOp at hm
        rw [← execOp_congr o (fun cs b => hsel cs b hoA) (eval_same hsameR)] at hm
        unfold Oper.wpIn
        refine ⟨fun _ _ => trivial, ?_⟩
        rw [show Fence.wide.round = none from rfl, Oper.semAt_none]
        generalize (execOp a.eval o).run P s = res at *
        cases res with
        | ok y w' =>
          cases y <;> simp only at hm <;> simp only [Oper.uponIn]
          case value u =>
            obtain ⟨e1, e2⟩ := hm
            rw [e2]
            exact ih _ _ _ _ _ _ hul (inv.quiet5 ok hi hin hz ho hG e1)
          case enter f args =>
            refine ⟨fun h => by simp [Fence.wide] at h, callsIn_wide.2 (hm.mono fun e w'' ⟨v, he, h1, h2⟩ => ?_)⟩
            subst he h2
            exact ih _ _ _ _ _ _ hul (inv.quiet5 ok hi hin hz ho hG h1)
        | halt y w' => exact hm.elim
      · rw [if_neg hw] at hE ⊢
        exact ⟨fun _ _ => trivial, ih _ _ _ _ _ _ hul (inv.quiet5 ok hi hin hz ho hE (Below.refl _ _))⟩
    | true =>
      obtain ⟨x, hx, hxi⟩ := isNz_iff.1 hz
      obtain ⟨_, hdi, hdw⟩ := ok.nzok x hx
      rw [hxi] at hdi hdw
      obtain ⟨hw2, hm⟩ := hN i hz o ho r s inv.later fun d hd => hdep d (hdw d hd).2 (hdw d hd).1
      have hw : Region.wanted o (yielded l.toArray a.tmps) = true := by
        rw [wanted_same (ops := l.toArray) (ops' := l.toArray) (b := putN nz r G) hsameR (fun _ _ _ => rfl)]; exact hw2
      rw [if_pos hw]
      unfold makesOp at hm
      rw [← execOp_congr o (fun cs b => hsel cs b hoA) (eval_same hsameR)] at hm
      unfold Oper.wpIn
      refine ⟨fun _ _ => trivial, ?_⟩
      rw [show Fence.wide.round = none from rfl, Oper.semAt_none]
      generalize (execOp a.eval o).run P s = res at *
      cases res with
      | ok y w' =>
        cases y <;> simp only at hm <;> simp only [Oper.uponIn]
        case value u => exact ih _ _ _ _ _ _ hul (inv.made5 ok hi hx hxi ho hm.1 (hsz x hx) hm.2)
        case enter f args =>
          refine ⟨fun h => by simp [Fence.wide] at h, callsIn_wide.2 (hm.mono fun e w'' ⟨v, he, h1, h2⟩ => ?_)⟩
          subst he
          exact ih _ _ _ _ _ _ hul (inv.made5 ok hi hx hxi ho h1 (hsz x hx) h2)
      | halt y w' => exact hm.elim

theorem mix_start5 {n : Nat} {nz : List (Nat × Tmp)} {dp : Nat → List Nat} {kn : List Nat} {E : List Nat} {bs : List Bk} {l : List Oper} {Φ : Nat → List Value → Value → World → World → Prop} {w : World} {Q : Exit → Act → World → Prop} {a : Act} (hP : ∀ (c : _) (a : Act) (d : Option Tmp) (v : Value) (w : World), Q (.panic c) (a.put d v) w → Q (.panic c) a w) (hB : mixB5 n nz kn E dp bs l = true) (hsz : ∀ x ∈ nz, x.2 < a.tmps.size)
    (h : wpQuietIn Fence.wide 0 P (blind2 bs l).toArray (fun w' => ∃ s : LaterJ w (fun _ => True), w' = s.w') (fun G =>
      (∀ J : World → Prop, Abides J → Nonempty (LaterJ w J) → wpQuietIn Fence.wide 0 P (blind2 bs l).toArray (fun w' => ∃ s : LaterJ w J, w' = s.w') (fun g => g = G) (blind2 bs l) a) ∧ MixAsk2 P n nz kn bs dp l Φ w Q G) (blind2 bs l) a) :
    wpAnyIn Fence.wide 0 P .any l.toArray Q l.length (Array.replicate l.length false) a w.drew := by
  have ok := mixOk5_of hB
  obtain ⟨G, hJ, hN, hK, hT⟩ := quiet_ends _ _ h
  have hsel' := Region.noSelect_spec ok.sel'
  have hE : ∀ J : World → Prop, Abides J → Nonempty (LaterJ w J) → _ := fun J hA hne => lex_end ok.lex hsel' (blind2 bs l) 0 a (fun j => by rw [Nat.zero_add]) (hJ J hA hne)
  obtain ⟨⟨e1, e2, e3⟩, _⟩ := hE (fun _ => True) (fun _ _ _ _ => trivial) ⟨⟨w, Below.refl _ _, trivial⟩⟩
  have hnl := ok.nlt
  have hun : ∀ j, j < l.length → (Array.replicate l.length false).getD j true = false := fun j hj => by simp [hj]
  have inv0 : MixInv n nz dp l Φ w G (Array.replicate l.length false) a w.drew (fun _ => undef) (fun _ => w) (fun _ => w) :=
    ⟨⟨by simp, fun j oj _ hl => (by rw [getD_replicate_false] at hl; cases hl), fun t _ ht => hun t (by simpa using ht)⟩, e1.symm, e2.symm, fun t ht => (e3 t fun i _ hti => by
        obtain ⟨h1, h2, _⟩ := ok.blind i t hti
        have := (ht i h1 h2).1
        rw [hun i (by omega)] at this; cases this).symm,
      fun i hi hl => (by rw [hun i (by have := ok.nz_lt hi; omega)] at hl; cases hl), Below.drewSelf w, fun i hi hl => (by rw [hun i (by have := ok.nz_lt hi; omega)] at hl; cases hl), fun i i' hi _ hl => (by rw [hun i (by have := ok.nz_lt hi; omega)] at hl; cases hl)⟩
  have := mix_any5 hP ok (fun J hA hne j o ho => (hE J hA hne).2 j o (Nat.zero_le _) ho) hN hK hT (fun x hx => by rw [e2]; exact hsz x hx) n (Array.replicate l.length false) a w.drew _ _ _ (by unfold unl; refine Nat.le_trans (List.length_filter_le _ _) (by simp)) inv0
  rwa [show l.length - n + n = l.length by omega] at this

theorem wp_region_mix5 {id n : Nat} {nz : List (Nat × Tmp)} {dp : Nat → List Nat} {kn : List Nat} {E : List Nat} {bs : List Bk} {l : List Oper} {Φ : Nat → List Value → Value → World → World → Prop} {w : World} {Q : Exit → Act → World → Prop} {a : Act} (hm : P.follows .mixedOrders = true) (hP : ∀ (c : _) (a : Act) (d : Option Tmp) (v : Value) (w : World), Q (.panic c) (a.put d v) w → Q (.panic c) a w) (hB : mixB5 n nz kn E dp bs l = true) (hsz : ∀ x ∈ nz, x.2 < a.tmps.size)
    (h : wpQuietIn Fence.wide 0 P (blind2 bs l).toArray (fun w' => ∃ s : LaterJ w (fun _ => True), w' = s.w') (fun G =>
      (∀ J : World → Prop, Abides J → Nonempty (LaterJ w J) → wpQuietIn Fence.wide 0 P (blind2 bs l).toArray (fun w' => ∃ s : LaterJ w J, w' = s.w') (fun g => g = G) (blind2 bs l) a) ∧ MixAsk2 P n nz kn bs dp l Φ w Q G) (blind2 bs l) a) :
    (Code.region id l.toArray true).wp P Q a w := by
  refine (wpIn_wide (n := 0)).1 (wpIn_region_any hm ?_)
  have := mix_start5 hP hB hsz h
  simpa using this
/-- in a round -/
theorem wpIn_region_mix5 {i id n : Nat} {nz : List (Nat × Tmp)} {dp : Nat → List Nat} {kn : List Nat} {E : List Nat} {bs : List Bk} {l : List Oper} {Φ : Nat → List Value → Value → World → World → Prop} {w : World} {Q : Exit → Act → World → Prop} {a : Act} (hm : P.follows .mixedOrders = true) (hP : ∀ (c : _) (a : Act) (d : Option Tmp) (v : Value) (w : World), Q (.panic c) (a.put d v) w → Q (.panic c) a w) (hB : mixB5 n nz kn E dp bs l = true) (hd : ∀ o ∈ l, ∀ c, o.op ≠ .defer c) (hsz : ∀ x ∈ nz, x.2 < a.tmps.size)
    (h : wpQuietIn Fence.wide 0 P (blind2 bs l).toArray (fun w' => ∃ s : LaterJ w (fun _ => True), w' = s.w') (fun G =>
      (∀ J : World → Prop, Abides J → Nonempty (LaterJ w J) → wpQuietIn Fence.wide 0 P (blind2 bs l).toArray (fun w' => ∃ s : LaterJ w J, w' = s.w') (fun g => g = G) (blind2 bs l) a) ∧ MixAsk2 P n nz kn bs dp l Φ w Q G) (blind2 bs l) a) :
    (Code.region id l.toArray true).wpIn (Fence.wide.inRound i) 0 P Q a w := by
  refine wpIn_region_any hm (wpAnyIn_round rfl i (fun j o ho => hd o (List.mem_of_getElem? (by simpa using ho))) _ _ _ _ ?_)
  have := mix_start5 hP hB hsz h
  simpa using this

end

end Go.Proofs.Ytelgbjfgmpkepaa

namespace Go.Proofs.Ytelgbjfgmpkepaa
open Go.RowKit Go.Shelf

theorem zbox1 (w : World) (c : Obj) (t : TypeId) (x y : Value) : V2At ((w.alloc c).alloc (.cells #[x, y] t)) (w.heap.size + 1) t x y := by
  have := heap_alloc_new (w.alloc c) (.cells #[x, y] t)
  simpa [V2At] using this
theorem zbox0 (w : World) (c : Obj) (t : TypeId) (x y : Value) : V2At ((w.alloc (.cells #[x, y] t)).alloc c) w.heap.size t x y := V2At.mono (heap_alloc_new _ _) (bnew _ _)
theorem zb0 (w : World) (t : TypeId) (x y : Value) : V2At (w.alloc (.cells #[x, y] t)) w.heap.size t x y := heap_alloc_new _ _
theorem zb1 (w : World) (a : Obj) (t : TypeId) (x y : Value) : V2At ((w.alloc a).alloc (.cells #[x, y] t)) (w.heap.size + 1) t x y := by
  have := heap_alloc_new (w.alloc a) (.cells #[x, y] t)
  simpa [V2At] using this
theorem zb2 (w : World) (a b : Obj) (t : TypeId) (x y : Value) : V2At (((w.alloc a).alloc b).alloc (.cells #[x, y] t)) (w.heap.size + 1 + 1) t x y := by
  have := heap_alloc_new ((w.alloc a).alloc b) (.cells #[x, y] t)
  simpa [V2At] using this
theorem zb3 (w : World) (a b c : Obj) (t : TypeId) (x y : Value) : V2At ((((w.alloc a).alloc b).alloc c).alloc (.cells #[x, y] t)) (w.heap.size + 1 + 1 + 1) t x y := by
  have := heap_alloc_new (((w.alloc a).alloc b).alloc c) (.cells #[x, y] t)
  simpa [V2At] using this
theorem zb' (w : World) (b : Nat) (t : TypeId) (x y : Value) (hb : b = w.heap.size) : V2At (w.alloc (.cells #[x, y] t)) b t x y := by
  subst hb
  exact heap_alloc_new _ _
theorem V2At.undrew {w : World} {g : Nat} {t : TypeId} {x y : Value} (h : V2At w g t x y) : V2At w.drew g t x y := h
theorem two_set {w : World} {a b : Nat} {t : TypeId} {x y x' y' u0 u1 v0 v1 : Value} (h1 : V2At w a t x y) (h2 : V2At w b t x' y') (hne : a ≠ b) : V2At ((((w.setCell ⟨a, 0, none⟩ u0).setCell ⟨a, 1, none⟩ u1).setCell ⟨b, 0, none⟩ v0).setCell ⟨b, 1, none⟩ v1) a t u0 u1 ∧ V2At ((((w.setCell ⟨a, 0, none⟩ u0).setCell ⟨a, 1, none⟩ u1).setCell ⟨b, 0, none⟩ v0).setCell ⟨b, 1, none⟩ v1) b t v0 v1 :=
  ⟨(((h1.set u0 u1).other hne 0 v0).other hne 1 v1), (((h2.other (Ne.symm hne) 0 u0).other (Ne.symm hne) 1 u1).set v0 v1)⟩
theorem IntsAt.undrew {w : World} {a : Option Addr} {xs : List Int} (h : IntsAt w a xs) : IntsAt w.drew a xs := h
theorem RowsAt.undrew {w : World} {a : Option Addr} {xs : List (List Int)} (h : RowsAt w a xs) : RowsAt w.drew a xs := h
theorem lit_1m100 (w : World) (b : Nat) (hb : b = w.heap.size) : IntsAt (w.alloc (.cells #[.int .i64 1, .int .i64 (-1), .int .i64 0, .int .i64 0] 3)) (some ⟨b, 0, none⟩) [1, -1, 0, 0] := intsAt_new w [1, -1, 0, 0] b 3 hb
theorem lit_000 (w : World) (b : Nat) (hb : b = w.heap.size) : IntsAt (w.alloc (.cells #[.int .i64 0, .int .i64 0, .int .i64 0] 3)) (some ⟨b, 0, none⟩) [0, 0, 0] := intsAt_new w [0, 0, 0] b 3 hb
theorem lit_1m1 (w : World) (b : Nat) (hb : b = w.heap.size) : IntsAt (w.alloc (.cells #[.int .i64 1, .int .i64 (-1)] 3)) (some ⟨b, 0, none⟩) [1, -1] := intsAt_new w [1, -1] b 3 hb
theorem row_1m1 (w : World) (b c : Nat) (hb : b = w.heap.size) (h : IntsAt w (some ⟨c, 0, none⟩) [1, -1]) : RowsAt (w.alloc (.cells #[.slice (some ⟨c, 0, none⟩) 2 2] 22)) (some ⟨b, 0, none⟩) [[1, -1]] := by
  subst hb
  refine .inr ⟨_, 0, rfl, fun j hj => ?_⟩
  match j, hj with
  | 0, _ => exact ⟨some ⟨c, 0, none⟩, 2, by rw [cell_of_row _ _ _ _ _ _ (heap_alloc_new _ _)]; rfl, h.mono (bnew _ _), fun h => by cases h⟩

def nz3 : List (Nat × Tmp) := [(1, 48), (2, 49), (5, 52), (6, 53)]
def dp3 (i : Nat) : List Nat := if i = 2 then [1] else if i = 3 then [2] else if i = 6 then [5] else if i = 7 then [6] else []
def Φ3 (i : Nat) (_ : List Value) (v : Value) (_ q : World) : Prop := if i = 1 then ListV [1, 1, 0] v q else if i = 2 then ListV [1, 1, 0] v q else if i = 5 then ListV [1, -1] v q else if i = 6 then ListV [1, -1] v q else True
def nz4 : List (Nat × Tmp) := [(1, 57), (2, 58)]
def dp4 (i : Nat) : List Nat := if i = 2 then [1] else if i = 4 then [2] else []
def Φ4 (i : Nat) (_ : List Value) (v : Value) (_ q : World) : Prop := if i = 1 then ListV [1, -1, 0] v q else if i = 2 then ListV [1, -1, 0] v q else True
def nz5 : List (Nat × Tmp) := [(1, 65), (2, 66)]
def dp5 (i : Nat) : List Nat := if i = 2 then [1] else if i = 4 then [2] else []
def Φ5 (i : Nat) (_ : List Value) (v : Value) (_ q : World) : Prop := if i = 1 then ListV [1, -1, 0] v q else if i = 2 then ListV [1, -1, 0] v q else True
def nz8 : List (Nat × Tmp) := [(1, 86), (2, 87), (3, 88), (4, 89), (7, 92), (8, 93), (9, 94), (10, 95)]
def dp8 (i : Nat) : List Nat := if i = 2 then [1] else if i = 3 then [2] else if i = 4 then [3] else if i = 5 then [4] else if i = 8 then [7] else if i = 9 then [8] else if i = 10 then [9] else if i = 11 then [10] else []
def Φ8 (i : Nat) (_ : List Value) (v : Value) (_ q : World) : Prop := if i = 1 then ListV [1, -1, 0] v q else if i = 2 then ListV [1, -1, 0] v q else if i = 3 then RowsV [[1, -1, 0]] v q else if i = 4 then RowsV [[1, -1, 0]] v q else if i = 7 then ListV [1, -1] v q else if i = 8 then ListV [1, -1] v q else if i = 9 then RowsV [[1, -1]] v q else if i = 10 then RowsV [[1, -1]] v q else True
def nz9 : List (Nat × Tmp) := [(1, 99), (2, 100), (3, 101), (4, 102), (10, 19), (11, 20)]
def dp9 (i : Nat) : List Nat := if i = 2 then [1] else if i = 3 then [2] else if i = 4 then [3] else if i = 5 then [4] else []
def Φ9 (i : Nat) (_ : List Value) (v : Value) (p q : World) : Prop := if i = 1 then ListV [1, -1] v q else if i = 2 then ListV [1, -1] v q else if i = 3 then RowsV [[1, -1]] v q else if i = 4 then RowsV [[1, -1]] v q else if i = 10 then (v = .pointer (some ⟨p.heap.size, 0, none⟩) ∧ q = p.alloc (.cells #[.int .i64 0, .int .i64 0] 34)) else if i = 11 then (v = .pointer (some ⟨p.heap.size, 0, none⟩) ∧ q = p.alloc (.cells #[.int .i64 0, .int .i64 0] 34)) else True
def nz10 : List (Nat × Tmp) := [(1, 109), (2, 110), (3, 111), (4, 112), (5, 113), (6, 114), (7, 115), (8, 107), (9, 116), (10, 117), (11, 22), (12, 23)]
def dp10 (i : Nat) : List Nat := if i = 2 then [1] else if i = 3 then [2] else if i = 4 then [3] else if i = 6 then [5] else if i = 7 then [4, 6] else if i = 8 then [7] else if i = 9 then [8] else if i = 10 then [8] else if i = 11 then [9] else if i = 12 then [10] else []
def Φ10 (i : Nat) (_ : List Value) (v : Value) (_ q : World) : Prop := if i = 1 then ListV [1, -1, 0, 0] v q else if i = 2 then ListV [1, -1, 0, 0] v q else if i = 3 then RowsV [[1, -1, 0, 0]] v q else if i = 4 then RowsV [[1, -1, 0, 0]] v q else if i = 5 then ListV [1] v q else if i = 6 then ListV [1] v q else if i = 7 then (∃ ta tc, v = .tuple #[.slice ta 2 tc, .int .i64 0] ∧ PlumbsAt q ta [(0, 2), (1, 1)]) else if i = 8 then (∃ ta tc, v = .tuple #[.slice ta 2 tc, .int .i64 0] ∧ PlumbsAt q ta [(0, 2), (1, 1)]) else if i = 9 then (∃ ta tc, v = .slice ta 2 tc ∧ PlumbsAt q ta [(0, 2), (1, 1)]) else if i = 10 then (v = .int .i64 0) else if i = 11 then (∃ ta tc, v = .slice ta 2 tc ∧ PlumbsAt q ta [(0, 2), (1, 1)]) else if i = 12 then (v = .int .i64 0) else True
def nz15 : List (Nat × Tmp) := [(1, 140), (2, 141)]
def dp15 (i : Nat) : List Nat := if i = 2 then [1] else if i = 3 then [2] else []
def Φ15 (i : Nat) (_ : List Value) (v : Value) (_ q : World) : Prop := if i = 1 then ListV [1, 0, -1] v q else if i = 2 then ListV [1, 0, -1] v q else True
def nz20 : List (Nat × Tmp) := [(5, 227), (13, 235), (14, 236), (31, 253)]
def dp20 (i : Nat) : List Nat := if i = 6 then [5] else if i = 14 then [13] else if i = 15 then [14] else if i = 32 then [31] else []
def Φ20 (i : Nat) (_ : List Value) (v : Value) (_ q : World) : Prop := if i = 5 then PairsV [(0, 1), (0, 2), (1, 1), (1, 2)] v q else if i = 13 then ListV [2, 1, 0, 0] v q else if i = 14 then (∃ b, v = .agg #[.slice b 4 4, .bool false] ∧ IntsAt q b [2, 1, 0, 0]) else if i = 31 then PairsV [(0, 2), (1, 1)] v q else True
set_option maxRecDepth 100000 in
set_option maxHeartbeats 60000000 in
theorem works_c (w : World) : Calls Try.prog 16 #[] w (TellB w true) := by
  unfold TellB
  go_enter Try.func16, Try.ntmps16
  go_wp2_with fail
  refine (four_54 _).mono ?_
  rintro e w1 ⟨b1, rfl, hk, _, hB1⟩
  go_wp2_with fail
  refine (three_55 _).mono ?_
  rintro e w2 ⟨b2, rfl, hl, _, hB2⟩
  go_wp2_with fail
  refine (two_56 _).mono ?_
  rintro e w3 ⟨b3, rfl, hm, _, hB3⟩
  go_wp2_with fail
  refine (good_57 _).mono ?_
  rintro e w4 ⟨b4, rfl, hn, _, hB4⟩
  obtain ⟨V, hV, hB0, hE⟩ := sex_box w4 b1 b2 b3 b4 (((hk.mono hB2).mono hB3).mono hB4) ((hl.mono hB3).mono hB4) (hm.mono hB4) hn
  have HE := hid hE
  have HB := hid (bstep (bstep (bstep (bstep hB1 hB2) hB3) hB4) hB0)
  have HV := hid hV
  clear hV hB0 hE hk hl hm hn hB1 hB2 hB3 hB4
  simp only [kfour, kthree, ktwo, kgood, List.length_cons, List.length_nil, Nat.zero_add, Nat.reduceAdd]
  go_upto_region 2 with (fail)
  rw [← HV.out]
  obtain ⟨q, hq⟩ : ∃ q, q = w4.heap.size := ⟨_, rfl⟩
  rw [← hq] at HE ⊢
  clear HV hq
  have cm0 := HE.out.m.c0; have cm1 := HE.out.m.c1
  go_wp2_with fail
  refine (k_cases HE.out).mono ?_
  rintro e x1 ⟨ca, cc, rfl, hx, hB⟩
  have HE' := hid (show SEx x1 q b1 b2 b3 b4 from HE.out.mono hB)
  have HB' := hid (bstep HB.out hB)
  clear HB HE
  have HE := HE'
  have HB := HB'
  clear HB' HE'
  have LC := hid hx
  clear hB hx cm0 cm1
  have cl0 := fun (J : World → Prop) (s : LaterJ x1 J) => (HE.out.mono s.h).l.c0; have cl1 := fun (J : World → Prop) (s : LaterJ x1 J) => (HE.out.mono s.h).l.c1
  go_upto_region 3 with (fail)
  go_cut [7, 8] from 47 to 54 (fun a b x2 => a = .int .i64 14 ∧ b = .int .i64 15 ∧ Below x1.heap.size x1 x2)
  case first =>
    refine wp_region_mix3 (n := 10) (nz := nz3) (kn := [3, 7]) (dp := dp3) (bs := [.keep, .off, .off, .say (.int .i64 14), .keep, .off, .off, .say (.int .i64 15), .keep, .keep]) (Φ := Φ3) (by kernel_rfl) (by kernel_rfl) (by simp [nz3]) ?_
    simp only [blind2, Bk.on, blindO, knO]
    repeat (gi_big_quiet_step (fail))
    refine wpQuietIn_nil ?_
    refine ⟨?_, ?_, ?_, ?_⟩
    · intro J hJ hne
      repeat (gi_big_quiet_step (fail))
      exact wpQuietIn_nil rfl
    all_goals (generalize hG : (Act.mk _ _ : Act) = G)
    all_goals (have hGz : G.tmps.size = 280 := by rw [← hG]; rfl)
    · intro i hi o ho r s hs hd
      have hi2 : 1 = i ∨ 2 = i ∨ 5 = i ∨ 6 = i := by simpa [isNz, nz3] using hi
      rcases hi2 with rfl | rfl | rfl | rfl
      · simp only [List.getElem?_cons_succ, List.getElem?_cons_zero, Option.some.injEq] at ho
        subst ho
        refine ⟨by simp [Region.wanted], ?_⟩
        exact makes_lit_110 _ _ _ _ _ _ s
      · simp only [List.getElem?_cons_succ, List.getElem?_cons_zero, Option.some.injEq] at ho
        subst ho
        obtain ⟨p0, q0, h1, h2⟩ := hd 1 (by simp [dp3])
        have h1 : ListV [1, 1, 0] (r 1) q0 := h1
        refine ⟨by simp [Region.wanted], ?_⟩
        refine makesOp_mono (makes_of50 _ _ _ _ _ _ s 48 _ (putN_ev_nz (i := 1) (by simp [nz3]) ⟨(1, 48), by simp [nz3], rfl⟩ (by rw [hGz]; decide))) ?_
        rintro v s' ⟨h3, rfl, rfl⟩
        exact ⟨h3, h1.mono h2⟩
      · simp only [List.getElem?_cons_succ, List.getElem?_cons_zero, Option.some.injEq] at ho
        subst ho
        refine ⟨by simp [Region.wanted], ?_⟩
        exact makes_lit_1m1 _ _ _ _ _ _ s
      · simp only [List.getElem?_cons_succ, List.getElem?_cons_zero, Option.some.injEq] at ho
        subst ho
        obtain ⟨p0, q0, h1, h2⟩ := hd 5 (by simp [dp3])
        have h1 : ListV [1, -1] (r 5) q0 := h1
        refine ⟨by simp [Region.wanted], ?_⟩
        refine makesOp_mono (makes_of50 _ _ _ _ _ _ s 52 _ (putN_ev_nz (i := 5) (by simp [nz3]) ⟨(5, 52), by simp [nz3], rfl⟩ (by rw [hGz]; decide))) ?_
        rintro v s' ⟨h3, rfl, rfl⟩
        exact ⟨h3, h1.mono h2⟩
    · intro i hi o ho r s hs hd
      have hi2 : i = 3 ∨ i = 7 := by simpa [isKn] using hi
      rcases hi2 with rfl | rfl
      · simp only [List.getElem?_cons_succ, List.getElem?_cons_zero, Option.some.injEq] at ho
        subst ho
        obtain ⟨p0, q0, h1, h2⟩ := hd 2 (by simp [dp3])
        have h1 : ListV [1, 1, 0] (r 2) q0 := h1
        obtain ⟨b, hr, hI⟩ := h1.mono h2
        refine makes_call2 _ _ _ _ _ _ s 26 (.tmp 47) (.tmp 49) 24 22 _ _ (putN_ev (by simp [nz3]) (by rw [← hG] <;> rfl)) ((putN_ev_nz (i := 2) (by simp [nz3]) ⟨(2, 49), by simp [nz3], rfl⟩ (by rw [hGz]; decide)).trans hr) enters26 ?_
        exact (k_cw1 (HE.out.mono hs) (some b) hI (fun h => by cases h)).mono fun e w' h => ⟨_, h.1, h.2, rfl⟩
      · simp only [List.getElem?_cons_succ, List.getElem?_cons_zero, Option.some.injEq] at ho
        subst ho
        obtain ⟨p0, q0, h1, h2⟩ := hd 6 (by simp [dp3])
        have h1 : ListV [1, -1] (r 6) q0 := h1
        obtain ⟨b, hr, hI⟩ := h1.mono h2
        refine makes_call2 _ _ _ _ _ _ s 26 (.tmp 51) (.tmp 53) 24 22 _ _ (putN_ev (by simp [nz3]) (by rw [← hG] <;> rfl)) ((putN_ev_nz (i := 6) (by simp [nz3]) ⟨(6, 53), by simp [nz3], rfl⟩ (by rw [hGz]; decide)).trans hr) enters26 ?_
        exact (k_cw2 (HE.out.mono hs) (some b) hI (fun h => by cases h)).mono fun e w' h => ⟨_, h.1, h.2, rfl⟩
    · intro r p0 q0 s hs hm hsep
      have HBs := hid hs
      clear hs hm hsep cl0 cl1
      rw [← hG]
      simp only [putN, nz3, List.foldl_cons, List.foldl_nil, Act.put, List.setIfInBounds_toArray, List.set_cons_succ, List.set_cons_zero, List.drop_succ_cons, List.drop_zero]
      clear hG hGz
      gi_wp2
      go_wp2
      go_meet
      exact ⟨rfl, rfl, HBs.out⟩
  obtain ⟨rfl, rfl, hB⟩ := hcut
  rename World => x2
  clear cl0 cl1
  have HE' := hid (show SEx x2 q b1 b2 b3 b4 from HE.out.mono hB)
  have LC' := hid (show PlumbsAt x2 ca [(0, 1), (0, 2), (1, 1), (1, 2)] from LC.out.mono hB)
  have HB' := hid (bstep HB.out hB)
  clear HB HE LC
  have HE := HE'
  have LC := LC'
  have HB := HB'
  clear HB' HE' LC'
  clear hB
  have cl0 := fun (J : World → Prop) (s : LaterJ x2 J) => (HE.out.mono s.h).l.c0; have cl1 := fun (J : World → Prop) (s : LaterJ x2 J) => (HE.out.mono s.h).l.c1
  have HY := hid fun (a b : Int) (J : World → Prop) (s : LaterJ x2 J) => at_59 a b s.w'
  go_upto_region 4 with (fail)
  go_cut [9, 10] from 55 to 62 (fun a b x3 => a = .int .i64 (-1) ∧ b = .int .i64 0 ∧ Below x2.heap.size x2 x3)
  case first =>
    refine wp_region_mix3 (n := 10) (nz := nz4) (kn := [4]) (dp := dp4) (bs := [.keep, .off, .off, .keep, .say (.tuple #[.int .i64 (-1), .int .i64 0]), .keep, .keep, .keep, .keep, .keep]) (Φ := Φ4) (by kernel_rfl) (by kernel_rfl) (by simp [nz4]) ?_
    simp only [blind2, Bk.on, blindO, knO]
    repeat (gi_big_quiet_step ((refine ⟨rfl, ?_⟩; gi_at_call 59; exact callsJ abidesT (HY.out _ _ _ _))))
    refine wpQuietIn_nil ?_
    refine ⟨?_, ?_, ?_, ?_⟩
    · intro J hJ hne
      repeat (gi_big_quiet_step ((refine ⟨rfl, ?_⟩; gi_at_call 59; exact callsJ hJ (HY.out _ _ _ _))))
      exact wpQuietIn_nil rfl
    all_goals (generalize hG : (Act.mk _ _ : Act) = G)
    all_goals (have hGz : G.tmps.size = 280 := by rw [← hG]; rfl)
    · intro i hi o ho r s hs hd
      have hi2 : 1 = i ∨ 2 = i := by simpa [isNz, nz4] using hi
      rcases hi2 with rfl | rfl
      · simp only [List.getElem?_cons_succ, List.getElem?_cons_zero, Option.some.injEq] at ho
        subst ho
        refine ⟨by simp [Region.wanted], ?_⟩
        exact makes_lit_1m10 _ _ _ _ _ _ s
      · simp only [List.getElem?_cons_succ, List.getElem?_cons_zero, Option.some.injEq] at ho
        subst ho
        obtain ⟨p0, q0, h1, h2⟩ := hd 1 (by simp [dp4])
        have h1 : ListV [1, -1, 0] (r 1) q0 := h1
        refine ⟨by simp [Region.wanted], ?_⟩
        refine makesOp_mono (makes_of50 _ _ _ _ _ _ s 57 _ (putN_ev_nz (i := 1) (by simp [nz4]) ⟨(1, 57), by simp [nz4], rfl⟩ (by rw [hGz]; decide))) ?_
        rintro v s' ⟨h3, rfl, rfl⟩
        exact ⟨h3, h1.mono h2⟩
    · intro i hi o ho r s hs hd
      have hi2 : i = 4 := by simpa [isKn] using hi
      rcases hi2 with rfl
      · simp only [List.getElem?_cons_succ, List.getElem?_cons_zero, Option.some.injEq] at ho
        subst ho
        obtain ⟨p0, q0, h1, h2⟩ := hd 2 (by simp [dp4])
        have h1 : ListV [1, -1, 0] (r 2) q0 := h1
        obtain ⟨b, hr, hI⟩ := h1.mono h2
        refine makes_call3 _ _ _ _ _ _ s 22 (.tmp 56) (.tmp 58) (.tmp 59) 24 22 34 _ _ _ (putN_ev (by simp [nz4]) (by rw [← hG] <;> rfl)) ((putN_ev_nz (i := 2) (by simp [nz4]) ⟨(2, 58), by simp [nz4], rfl⟩ (by rw [hGz]; decide)).trans hr) (putN_ev (by simp [nz4]) (by rw [← hG] <;> rfl)) enters22 ?_
        exact (k_r (HE.out.mono hs) 1 (-1) 0 w_r1 (some b) hI (fun h => by cases h)).mono fun e w' h => ⟨_, h.1, h.2, rfl⟩
    · intro r p0 q0 s hs hm hsep
      have HBs := hid hs
      clear hs hm hsep cl0 cl1 HY
      rw [← hG]
      simp only [putN, nz4, List.foldl_cons, List.foldl_nil, Act.put, List.setIfInBounds_toArray, List.set_cons_succ, List.set_cons_zero, List.drop_succ_cons, List.drop_zero]
      clear hG hGz
      gi_wp2
      go_wp2
      go_meet
      exact ⟨rfl, rfl, HBs.out⟩
  obtain ⟨rfl, rfl, hB⟩ := hcut
  rename World => x3
  clear cl0 cl1 HY
  have HE' := hid (show SEx x3 q b1 b2 b3 b4 from HE.out.mono hB)
  have LC' := hid (show PlumbsAt x3 ca [(0, 1), (0, 2), (1, 1), (1, 2)] from LC.out.mono hB)
  have HB' := hid (bstep HB.out hB)
  clear HB HE LC
  have HE := HE'
  have LC := LC'
  have HB := HB'
  clear HB' HE' LC'
  clear hB
  have cl0 := fun (J : World → Prop) (s : LaterJ x3 J) => (HE.out.mono s.h).l.c0; have cl1 := fun (J : World → Prop) (s : LaterJ x3 J) => (HE.out.mono s.h).l.c1
  have HY := hid fun (a b : Int) (J : World → Prop) (s : LaterJ x3 J) => at_59 a b s.w'
  go_upto_region 5 with (fail)
  go_cut [11, 12] from 63 to 70 (fun a b x4 => a = .int .i64 0 ∧ b = .int .i64 2 ∧ Below x3.heap.size x3 x4)
  case first =>
    refine wp_region_mix3 (n := 10) (nz := nz5) (kn := [4]) (dp := dp5) (bs := [.keep, .off, .off, .keep, .say (.tuple #[.int .i64 0, .int .i64 2]), .keep, .keep, .keep, .keep, .keep]) (Φ := Φ5) (by kernel_rfl) (by kernel_rfl) (by simp [nz5]) ?_
    simp only [blind2, Bk.on, blindO, knO]
    repeat (gi_big_quiet_step ((refine ⟨rfl, ?_⟩; gi_at_call 59; exact callsJ abidesT (HY.out _ _ _ _))))
    refine wpQuietIn_nil ?_
    refine ⟨?_, ?_, ?_, ?_⟩
    · intro J hJ hne
      repeat (gi_big_quiet_step ((refine ⟨rfl, ?_⟩; gi_at_call 59; exact callsJ hJ (HY.out _ _ _ _))))
      exact wpQuietIn_nil rfl
    all_goals (generalize hG : (Act.mk _ _ : Act) = G)
    all_goals (have hGz : G.tmps.size = 280 := by rw [← hG]; rfl)
    · intro i hi o ho r s hs hd
      have hi2 : 1 = i ∨ 2 = i := by simpa [isNz, nz5] using hi
      rcases hi2 with rfl | rfl
      · simp only [List.getElem?_cons_succ, List.getElem?_cons_zero, Option.some.injEq] at ho
        subst ho
        refine ⟨by simp [Region.wanted], ?_⟩
        exact makes_lit_1m10 _ _ _ _ _ _ s
      · simp only [List.getElem?_cons_succ, List.getElem?_cons_zero, Option.some.injEq] at ho
        subst ho
        obtain ⟨p0, q0, h1, h2⟩ := hd 1 (by simp [dp5])
        have h1 : ListV [1, -1, 0] (r 1) q0 := h1
        refine ⟨by simp [Region.wanted], ?_⟩
        refine makesOp_mono (makes_of50 _ _ _ _ _ _ s 65 _ (putN_ev_nz (i := 1) (by simp [nz5]) ⟨(1, 65), by simp [nz5], rfl⟩ (by rw [hGz]; decide))) ?_
        rintro v s' ⟨h3, rfl, rfl⟩
        exact ⟨h3, h1.mono h2⟩
    · intro i hi o ho r s hs hd
      have hi2 : i = 4 := by simpa [isKn] using hi
      rcases hi2 with rfl
      · simp only [List.getElem?_cons_succ, List.getElem?_cons_zero, Option.some.injEq] at ho
        subst ho
        obtain ⟨p0, q0, h1, h2⟩ := hd 2 (by simp [dp5])
        have h1 : ListV [1, -1, 0] (r 2) q0 := h1
        obtain ⟨b, hr, hI⟩ := h1.mono h2
        refine makes_call3 _ _ _ _ _ _ s 22 (.tmp 64) (.tmp 66) (.tmp 67) 24 22 34 _ _ _ (putN_ev (by simp [nz5]) (by rw [← hG] <;> rfl)) ((putN_ev_nz (i := 2) (by simp [nz5]) ⟨(2, 66), by simp [nz5], rfl⟩ (by rw [hGz]; decide)).trans hr) (putN_ev (by simp [nz5]) (by rw [← hG] <;> rfl)) enters22 ?_
        exact (k_r (HE.out.mono hs) 2 0 2 w_r2 (some b) hI (fun h => by cases h)).mono fun e w' h => ⟨_, h.1, h.2, rfl⟩
    · intro r p0 q0 s hs hm hsep
      have HBs := hid hs
      clear hs hm hsep cl0 cl1 HY
      rw [← hG]
      simp only [putN, nz5, List.foldl_cons, List.foldl_nil, Act.put, List.setIfInBounds_toArray, List.set_cons_succ, List.set_cons_zero, List.drop_succ_cons, List.drop_zero]
      clear hG hGz
      gi_wp2
      go_wp2
      go_meet
      exact ⟨rfl, rfl, HBs.out⟩
  obtain ⟨rfl, rfl, hB⟩ := hcut
  rename World => x4
  clear cl0 cl1 HY
  have HE' := hid (show SEx x4 q b1 b2 b3 b4 from HE.out.mono hB)
  have LC' := hid (show PlumbsAt x4 ca [(0, 1), (0, 2), (1, 1), (1, 2)] from LC.out.mono hB)
  have HB' := hid (bstep HB.out hB)
  clear HB HE LC
  have HE := HE'
  have LC := LC'
  have HB := HB'
  clear HB' HE' LC'
  clear hB
  have c0k := HE.out.k.c0; have c1k := HE.out.k.c1
  have Q0 := hid fun (b : Nat) (w' : World) (h : Below x4.heap.size x4 w') (ht : IntsAt w' (some ⟨b, 0, none⟩) [1, -1, 0, 0]) => k_l1 (HE.out.mono h) (some ⟨b, 0, none⟩) ht (fun h => by cases h)
  go_upto_region 6 with (fail)
  go_cut [13, 14] from 71 to 77 (fun a b x5 => ∃ o xa, a = .pointer (some ⟨o, 0, none⟩) ∧ b = .int .i64 0 ∧ V2At x5 o 24 (.slice xa 4 4) (.bool false) ∧ KnAt x5 xa ⟨[2, 1, 0, 0], false⟩ ∧ Below x4.heap.size x4 x5)
  case first =>
    go_region_held3 (fun w' => w'.cell? ⟨q, 0, none⟩ = some (.slice (some ⟨b1, 0, none⟩) 4 4) ∧ w'.cell? ⟨q, 1, none⟩ = some (.bool true)) (first | exact ⟨cstep c0k (by with_reducible repeat (first | exact Below.refl _ _ | refine Below.drew ?_ | refine bstep ?_ (bnew _ _) | (refine bstep ?_ (by assumption)) | exact hBx | (refine Below.setCell ?_ (by first | exact Nat.le_refl _ | exact Nat.le_succ _ | exact hBx.size | exact hsz | exact Nat.le_add_right _ _) _))), cstep c1k (by with_reducible repeat (first | exact Below.refl _ _ | refine Below.drew ?_ | refine bstep ?_ (bnew _ _) | (refine bstep ?_ (by assumption)) | exact hBx | (refine Below.setCell ?_ (by first | exact Nat.le_refl _ | exact Nat.le_succ _ | exact hBx.size | exact hsz | exact Nat.le_add_right _ _) _)))⟩ | go_keep) (first | (go_simp; go_at_call 50; refine (of_50 _ _).mono ?_; rintro e wx ⟨rfl, rfl⟩) | (go_simp; go_at_call 24; (with_reducible refine (Q0.out _ _ (by with_reducible repeat (first | exact Below.refl _ _ | refine Below.drew ?_ | refine bstep ?_ (bnew _ _) | (refine bstep ?_ (by assumption)) | exact hBx | (refine Below.setCell ?_ (by first | exact Nat.le_refl _ | exact Nat.le_succ _ | exact hBx.size | exact hsz | exact Nat.le_add_right _ _) _))) (by with_reducible repeat (first | assumption | refine IntsAt.undrew ?_ | exact lit_1m100 _ _ rfl | exact lit_1m100 _ _ (by simp) | refine IntsAt.mono ?_ (bnew _ _) | (refine IntsAt.mono ?_ (by assumption))))).mono ?_); rintro e wc0 ⟨xa, rfl, hx, hB0⟩; have hBx := bstep (show Below x4.heap.size x4 _ from (by with_reducible repeat (first | exact Below.refl _ _ | refine Below.drew ?_ | refine bstep ?_ (bnew _ _) | (refine bstep ?_ (by assumption)) | exact hBx | (refine Below.setCell ?_ (by first | exact Nat.le_refl _ | exact Nat.le_succ _ | exact hBx.size | exact hsz | exact Nat.le_add_right _ _) _)))) hB0; (try (have hz : V2At wc0 (x4.heap.size + 1) 24 (.slice none 0 0) (.bool false) := V2At.mono (by first | exact zbox1 x4 _ _ _ _ | exact zbox0 x4 _ _ _ _) hB0; have c0 := hz.c0; have c1 := hz.c1; have f0 := hz.f0; have f1 := hz.f1)); (try (have hz : V2At wc0 (x4.heap.size) 24 (.slice none 0 0) (.bool false) := V2At.mono (by first | exact zbox1 x4 _ _ _ _ | exact zbox0 x4 _ _ _ _) hB0; have c0 := hz.c0; have c1 := hz.c1; have f0 := hz.f0; have f1 := hz.f1))))
    all_goals (
      go_wp2
      go_meet
      first | exact ⟨_, _, rfl, rfl, hz.set _ _, IntsAt.only (S := fun q => q = _) hx ((setCell_only _ 0 _).trans (setCell_only _ 1 _)) (ints_ne hx hz (fun k y h => by cases h)), below_set2 hBx (by first | exact Nat.le_refl _ | exact Nat.le_succ _ | exact hBx.size | exact hsz | exact Nat.le_add_right _ _) _ _⟩ | exact ⟨_, _, rfl, rfl, heap_alloc_new _ _, hx.mono (bnew _ _), bstep hBx (bnew _ _)⟩)
  obtain ⟨o, xa, rfl, rfl, hv, hx, hB⟩ := hcut
  rename World => x5
  clear Q0 c0k c1k
  have HE' := hid (show SEx x5 q b1 b2 b3 b4 from HE.out.mono hB)
  have LC' := hid (show PlumbsAt x5 ca [(0, 1), (0, 2), (1, 1), (1, 2)] from LC.out.mono hB)
  have HB' := hid (bstep HB.out hB)
  clear HB HE LC
  have HE := HE'
  have LC := LC'
  have HB := HB'
  clear HB' HE' LC'
  have BX := hid (And.intro hv hx)
  clear hv hx
  clear hB
  have c0k := HE.out.l.c0; have c1k := HE.out.l.c1
  have Q0 := hid fun (b : Nat) (w' : World) (h : Below x5.heap.size x5 w') (ht : IntsAt w' (some ⟨b, 0, none⟩) [0, 0, 0]) => k_l2 (HE.out.mono h) (some ⟨b, 0, none⟩) ht (fun h => by cases h)
  go_upto_region 7 with (fail)
  go_cut [15, 16] from 78 to 84 (fun _ b x6 => b = .int .i64 21 ∧ Below x5.heap.size x5 x6)
  case first =>
    go_region_held3 (fun w' => w'.cell? ⟨q + 1, 0, none⟩ = some (.slice (some ⟨b2, 0, none⟩) 3 3) ∧ w'.cell? ⟨q + 1, 1, none⟩ = some (.bool false)) (first | exact ⟨cstep c0k (by with_reducible repeat (first | exact Below.refl _ _ | refine Below.drew ?_ | refine bstep ?_ (bnew _ _) | (refine bstep ?_ (by assumption)) | exact hBx | (refine Below.setCell ?_ (by first | exact Nat.le_refl _ | exact Nat.le_succ _ | exact hBx.size | exact hsz | exact Nat.le_add_right _ _) _))), cstep c1k (by with_reducible repeat (first | exact Below.refl _ _ | refine Below.drew ?_ | refine bstep ?_ (bnew _ _) | (refine bstep ?_ (by assumption)) | exact hBx | (refine Below.setCell ?_ (by first | exact Nat.le_refl _ | exact Nat.le_succ _ | exact hBx.size | exact hsz | exact Nat.le_add_right _ _) _)))⟩ | go_keep) (first | (go_simp; go_at_call 50; refine (of_50 _ _).mono ?_; rintro e wx ⟨rfl, rfl⟩) | (go_simp; go_at_call 24; (with_reducible refine (Q0.out _ _ (by with_reducible repeat (first | exact Below.refl _ _ | refine Below.drew ?_ | refine bstep ?_ (bnew _ _) | (refine bstep ?_ (by assumption)) | exact hBx | (refine Below.setCell ?_ (by first | exact Nat.le_refl _ | exact Nat.le_succ _ | exact hBx.size | exact hsz | exact Nat.le_add_right _ _) _))) (by with_reducible repeat (first | assumption | refine IntsAt.undrew ?_ | exact lit_000 _ _ rfl | exact lit_000 _ _ (by simp) | refine IntsAt.mono ?_ (bnew _ _) | (refine IntsAt.mono ?_ (by assumption))))).mono ?_); rintro e wc0 ⟨xa, rfl, hx, hB0⟩; have hBx := bstep (show Below x5.heap.size x5 _ from (by with_reducible repeat (first | exact Below.refl _ _ | refine Below.drew ?_ | refine bstep ?_ (bnew _ _) | (refine bstep ?_ (by assumption)) | exact hBx | (refine Below.setCell ?_ (by first | exact Nat.le_refl _ | exact Nat.le_succ _ | exact hBx.size | exact hsz | exact Nat.le_add_right _ _) _)))) hB0; (try (have hz : V2At wc0 (x5.heap.size + 1) 24 (.slice none 0 0) (.bool false) := V2At.mono (by first | exact zbox1 x5 _ _ _ _ | exact zbox0 x5 _ _ _ _) hB0; have c0 := hz.c0; have c1 := hz.c1; have f0 := hz.f0; have f1 := hz.f1)); (try (have hz : V2At wc0 (x5.heap.size) 24 (.slice none 0 0) (.bool false) := V2At.mono (by first | exact zbox1 x5 _ _ _ _ | exact zbox0 x5 _ _ _ _) hB0; have c0 := hz.c0; have c1 := hz.c1; have f0 := hz.f0; have f1 := hz.f1))))
    all_goals (
      go_wp2
      go_meet
      first | exact ⟨rfl, below_set2 hBx (by first | exact Nat.le_refl _ | exact Nat.le_succ _ | exact hBx.size | exact hsz | exact Nat.le_add_right _ _) _ _⟩ | exact ⟨rfl, bstep hBx (bnew _ _)⟩)
  obtain ⟨rfl, hB⟩ := hcut
  rename World => x6
  clear Q0 c0k c1k
  have HE' := hid (show SEx x6 q b1 b2 b3 b4 from HE.out.mono hB)
  have LC' := hid (show PlumbsAt x6 ca [(0, 1), (0, 2), (1, 1), (1, 2)] from LC.out.mono hB)
  have BX' := hid (show V2At x6 o 24 (.slice xa 4 4) (.bool false) ∧ KnAt x6 xa ⟨[2, 1, 0, 0], false⟩ from ⟨BX.out.1.mono hB, BX.out.2.mono hB⟩)
  have HB' := hid (bstep HB.out hB)
  clear HB HE LC BX
  have HE := HE'
  have LC := LC'
  have BX := BX'
  have HB := HB'
  clear HB' HE' LC' BX'
  clear hB
  have cl0 := fun (J : World → Prop) (s : LaterJ x6 J) => (HE.out.mono s.h).l.c0; have cl1 := fun (J : World → Prop) (s : LaterJ x6 J) => (HE.out.mono s.h).l.c1
  have cm0 := fun (J : World → Prop) (s : LaterJ x6 J) => (HE.out.mono s.h).m.c0; have cm1 := fun (J : World → Prop) (s : LaterJ x6 J) => (HE.out.mono s.h).m.c1
  go_upto_region 8 with (fail)
  go_cut [17, 18] from 85 to 96 (fun a b x7 => a = .int .i64 0 ∧ b = .int .i64 21 ∧ Below x6.heap.size x6 x7)
  case first =>
    refine wp_region_mix3 (n := 14) (nz := nz8) (kn := [5, 11]) (dp := dp8) (bs := [.keep, .off, .off, .off, .off, .say (.int .i64 0), .keep, .off, .off, .off, .off, .say (.int .i64 21), .keep, .keep]) (Φ := Φ8) (by kernel_rfl) (by kernel_rfl) (by simp [nz8]) ?_
    simp only [blind2, Bk.on, blindO, knO]
    repeat (gi_big_quiet_step (fail))
    refine wpQuietIn_nil ?_
    refine ⟨?_, ?_, ?_, ?_⟩
    · intro J hJ hne
      repeat (gi_big_quiet_step (fail))
      exact wpQuietIn_nil rfl
    all_goals (generalize hG : (Act.mk _ _ : Act) = G)
    all_goals (have hGz : G.tmps.size = 280 := by rw [← hG]; rfl)
    · intro i hi o ho r s hs hd
      have hi2 : 1 = i ∨ 2 = i ∨ 3 = i ∨ 4 = i ∨ 7 = i ∨ 8 = i ∨ 9 = i ∨ 10 = i := by simpa [isNz, nz8] using hi
      rcases hi2 with rfl | rfl | rfl | rfl | rfl | rfl | rfl | rfl
      · simp only [List.getElem?_cons_succ, List.getElem?_cons_zero, Option.some.injEq] at ho
        subst ho
        refine ⟨by simp [Region.wanted], ?_⟩
        exact makes_lit_1m10 _ _ _ _ _ _ s
      · simp only [List.getElem?_cons_succ, List.getElem?_cons_zero, Option.some.injEq] at ho
        subst ho
        obtain ⟨p0, q0, h1, h2⟩ := hd 1 (by simp [dp8])
        have h1 : ListV [1, -1, 0] (r 1) q0 := h1
        refine ⟨by simp [Region.wanted], ?_⟩
        refine makesOp_mono (makes_of50 _ _ _ _ _ _ s 86 _ (putN_ev_nz (i := 1) (by simp [nz8]) ⟨(1, 86), by simp [nz8], rfl⟩ (by rw [hGz]; decide))) ?_
        rintro v s' ⟨h3, rfl, rfl⟩
        exact ⟨h3, h1.mono h2⟩
      · simp only [List.getElem?_cons_succ, List.getElem?_cons_zero, Option.some.injEq] at ho
        subst ho
        obtain ⟨p0, q0, h1, h2⟩ := hd 2 (by simp [dp8])
        have h1 : ListV [1, -1, 0] (r 2) q0 := h1
        refine ⟨by simp [Region.wanted], ?_⟩
        exact makes_row1 _ _ _ _ _ _ s 87 _ _ (h1.mono h2) (putN_ev_nz (i := 2) (by simp [nz8]) ⟨(2, 87), by simp [nz8], rfl⟩ (by rw [hGz]; decide))
      · simp only [List.getElem?_cons_succ, List.getElem?_cons_zero, Option.some.injEq] at ho
        subst ho
        obtain ⟨p0, q0, h1, h2⟩ := hd 3 (by simp [dp8])
        have h1 : RowsV [[1, -1, 0]] (r 3) q0 := h1
        refine ⟨by simp [Region.wanted], ?_⟩
        refine makesOp_mono (makes_plan51 _ _ _ _ _ _ s 88 _ (putN_ev_nz (i := 3) (by simp [nz8]) ⟨(3, 88), by simp [nz8], rfl⟩ (by rw [hGz]; decide))) ?_
        rintro v s' ⟨h3, rfl, rfl⟩
        exact ⟨h3, h1.mono h2⟩
      · simp only [List.getElem?_cons_succ, List.getElem?_cons_zero, Option.some.injEq] at ho
        subst ho
        refine ⟨by simp [Region.wanted], ?_⟩
        exact makes_lit_1m1 _ _ _ _ _ _ s
      · simp only [List.getElem?_cons_succ, List.getElem?_cons_zero, Option.some.injEq] at ho
        subst ho
        obtain ⟨p0, q0, h1, h2⟩ := hd 7 (by simp [dp8])
        have h1 : ListV [1, -1] (r 7) q0 := h1
        refine ⟨by simp [Region.wanted], ?_⟩
        refine makesOp_mono (makes_of50 _ _ _ _ _ _ s 92 _ (putN_ev_nz (i := 7) (by simp [nz8]) ⟨(7, 92), by simp [nz8], rfl⟩ (by rw [hGz]; decide))) ?_
        rintro v s' ⟨h3, rfl, rfl⟩
        exact ⟨h3, h1.mono h2⟩
      · simp only [List.getElem?_cons_succ, List.getElem?_cons_zero, Option.some.injEq] at ho
        subst ho
        obtain ⟨p0, q0, h1, h2⟩ := hd 8 (by simp [dp8])
        have h1 : ListV [1, -1] (r 8) q0 := h1
        refine ⟨by simp [Region.wanted], ?_⟩
        exact makes_row1 _ _ _ _ _ _ s 93 _ _ (h1.mono h2) (putN_ev_nz (i := 8) (by simp [nz8]) ⟨(8, 93), by simp [nz8], rfl⟩ (by rw [hGz]; decide))
      · simp only [List.getElem?_cons_succ, List.getElem?_cons_zero, Option.some.injEq] at ho
        subst ho
        obtain ⟨p0, q0, h1, h2⟩ := hd 9 (by simp [dp8])
        have h1 : RowsV [[1, -1]] (r 9) q0 := h1
        refine ⟨by simp [Region.wanted], ?_⟩
        refine makesOp_mono (makes_plan51 _ _ _ _ _ _ s 94 _ (putN_ev_nz (i := 9) (by simp [nz8]) ⟨(9, 94), by simp [nz8], rfl⟩ (by rw [hGz]; decide))) ?_
        rintro v s' ⟨h3, rfl, rfl⟩
        exact ⟨h3, h1.mono h2⟩
    · intro i hi o ho r s hs hd
      have hi2 : i = 5 ∨ i = 11 := by simpa [isKn] using hi
      rcases hi2 with rfl | rfl
      · simp only [List.getElem?_cons_succ, List.getElem?_cons_zero, Option.some.injEq] at ho
        subst ho
        obtain ⟨p0, q0, h1, h2⟩ := hd 4 (by simp [dp8])
        have h1 : RowsV [[1, -1, 0]] (r 4) q0 := h1
        obtain ⟨b, hr, hI⟩ := h1.mono h2
        refine makes_call2 _ _ _ _ _ _ s 34 (.tmp 85) (.tmp 89) 24 42 _ _ (putN_ev (by simp [nz8]) (by rw [← hG] <;> rfl)) ((putN_ev_nz (i := 4) (by simp [nz8]) ⟨(4, 89), by simp [nz8], rfl⟩ (by rw [hGz]; decide)).trans hr) enters34 ?_
        exact (k_p1 (HE.out.mono hs) (some b) hI).mono fun e w' h => ⟨_, h.1, h.2, rfl⟩
      · simp only [List.getElem?_cons_succ, List.getElem?_cons_zero, Option.some.injEq] at ho
        subst ho
        obtain ⟨p0, q0, h1, h2⟩ := hd 10 (by simp [dp8])
        have h1 : RowsV [[1, -1]] (r 10) q0 := h1
        obtain ⟨b, hr, hI⟩ := h1.mono h2
        refine makes_call2 _ _ _ _ _ _ s 34 (.tmp 91) (.tmp 95) 24 42 _ _ (putN_ev (by simp [nz8]) (by rw [← hG] <;> rfl)) ((putN_ev_nz (i := 10) (by simp [nz8]) ⟨(10, 95), by simp [nz8], rfl⟩ (by rw [hGz]; decide)).trans hr) enters34 ?_
        exact (k_p2 (HE.out.mono hs) (some b) hI).mono fun e w' h => ⟨_, h.1, h.2, rfl⟩
    · intro r p0 q0 s hs hm hsep
      have HBs := hid hs
      clear hs hm hsep cl0 cl1 cm0 cm1
      rw [← hG]
      simp only [putN, nz8, List.foldl_cons, List.foldl_nil, Act.put, List.setIfInBounds_toArray, List.set_cons_succ, List.set_cons_zero, List.drop_succ_cons, List.drop_zero]
      clear hG hGz
      gi_wp2
      go_wp2
      go_meet
      exact ⟨rfl, rfl, HBs.out⟩
  obtain ⟨rfl, rfl, hB⟩ := hcut
  rename World => x7
  clear cl0 cl1 cm0 cm1
  have HE' := hid (show SEx x7 q b1 b2 b3 b4 from HE.out.mono hB)
  have LC' := hid (show PlumbsAt x7 ca [(0, 1), (0, 2), (1, 1), (1, 2)] from LC.out.mono hB)
  have BX' := hid (show V2At x7 o 24 (.slice xa 4 4) (.bool false) ∧ KnAt x7 xa ⟨[2, 1, 0, 0], false⟩ from ⟨BX.out.1.mono hB, BX.out.2.mono hB⟩)
  have HB' := hid (bstep HB.out hB)
  clear HB HE LC BX
  have HE := HE'
  have LC := LC'
  have BX := BX'
  have HB := HB'
  clear HB' HE' LC' BX'
  clear hB
  have cm0 := fun (J : World → Prop) (s : LaterJ x7 J) => (HE.out.mono s.h).m.c0; have cm1 := fun (J : World → Prop) (s : LaterJ x7 J) => (HE.out.mono s.h).m.c1
  go_upto_region 9 with (fail)
  go_cut [19, 20, 21] from 97 to 106 (fun a b c x8 => ∃ p1 p2, a = .pointer (some ⟨p1, 0, none⟩) ∧ b = .pointer (some ⟨p2, 0, none⟩) ∧ c = .int .i64 0 ∧ V2At x8 p1 34 (.int .i64 0) (.int .i64 1) ∧ V2At x8 p2 34 (.int .i64 1) (.int .i64 2) ∧ Below x7.heap.size x7 x8)
  case first =>
    refine wp_region_mix5 (n := 12) (nz := nz9) (kn := [5]) (dp := dp9) (bs := [.keep, .off, .off, .off, .off, .say (.tuple #[.agg #[.int .i64 0, .int .i64 1], .agg #[.int .i64 1, .int .i64 2], .int .i64 0]), .keep, .keep, .keep, .keep, .off, .off, .off, .off, .off]) (Φ := Φ9) (by kernel_rfl) (E := [8, 9]) (fun _ _ d _ _ h => by cases d <;> exact h) (by kernel_rfl) (by simp [nz9]) ?_
    simp only [blind2, Bk.on, blindO, knO]
    repeat (gi_big_quiet_step (fail))
    refine wpQuietIn_nil ?_
    refine ⟨?_, ?_, ?_, ?_⟩
    · intro J hJ hne
      repeat (gi_big_quiet_step (fail))
      exact wpQuietIn_nil rfl
    all_goals (generalize hG : (Act.mk _ _ : Act) = G)
    all_goals (have hGz : G.tmps.size = 280 := by rw [← hG]; rfl)
    · intro i hi o ho r s hs hd
      have hi2 : 1 = i ∨ 2 = i ∨ 3 = i ∨ 4 = i ∨ 10 = i ∨ 11 = i := by simpa [isNz, nz9] using hi
      rcases hi2 with rfl | rfl | rfl | rfl | rfl | rfl
      · simp only [List.getElem?_cons_succ, List.getElem?_cons_zero, Option.some.injEq] at ho
        subst ho
        refine ⟨by simp [Region.wanted], ?_⟩
        exact makes_lit_1m1 _ _ _ _ _ _ s
      · simp only [List.getElem?_cons_succ, List.getElem?_cons_zero, Option.some.injEq] at ho
        subst ho
        obtain ⟨p0, q0, h1, h2⟩ := hd 1 (by simp [dp9])
        have h1 : ListV [1, -1] (r 1) q0 := h1
        refine ⟨by simp [Region.wanted], ?_⟩
        refine makesOp_mono (makes_of50 _ _ _ _ _ _ s 99 _ (putN_ev_nz (i := 1) (by simp [nz9]) ⟨(1, 99), by simp [nz9], rfl⟩ (by rw [hGz]; decide))) ?_
        rintro v s' ⟨h3, rfl, rfl⟩
        exact ⟨h3, h1.mono h2⟩
      · simp only [List.getElem?_cons_succ, List.getElem?_cons_zero, Option.some.injEq] at ho
        subst ho
        obtain ⟨p0, q0, h1, h2⟩ := hd 2 (by simp [dp9])
        have h1 : ListV [1, -1] (r 2) q0 := h1
        refine ⟨by simp [Region.wanted], ?_⟩
        exact makes_row1 _ _ _ _ _ _ s 100 _ _ (h1.mono h2) (putN_ev_nz (i := 2) (by simp [nz9]) ⟨(2, 100), by simp [nz9], rfl⟩ (by rw [hGz]; decide))
      · simp only [List.getElem?_cons_succ, List.getElem?_cons_zero, Option.some.injEq] at ho
        subst ho
        obtain ⟨p0, q0, h1, h2⟩ := hd 3 (by simp [dp9])
        have h1 : RowsV [[1, -1]] (r 3) q0 := h1
        refine ⟨by simp [Region.wanted], ?_⟩
        refine makesOp_mono (makes_plan51 _ _ _ _ _ _ s 101 _ (putN_ev_nz (i := 3) (by simp [nz9]) ⟨(3, 101), by simp [nz9], rfl⟩ (by rw [hGz]; decide))) ?_
        rintro v s' ⟨h3, rfl, rfl⟩
        exact ⟨h3, h1.mono h2⟩
      · simp only [List.getElem?_cons_succ, List.getElem?_cons_zero, Option.some.injEq] at ho
        subst ho
        refine ⟨by simp [Region.wanted], ?_⟩
        exact makes_alloc34 _ _ _ _ _ _ s
      · simp only [List.getElem?_cons_succ, List.getElem?_cons_zero, Option.some.injEq] at ho
        subst ho
        refine ⟨by simp [Region.wanted], ?_⟩
        exact makes_alloc34 _ _ _ _ _ _ s
    · intro i hi o ho r s hs hd
      have hi2 : i = 5 := by simpa [isKn] using hi
      rcases hi2 with rfl
      · simp only [List.getElem?_cons_succ, List.getElem?_cons_zero, Option.some.injEq] at ho
        subst ho
        obtain ⟨p0, q0, h1, h2⟩ := hd 4 (by simp [dp9])
        have h1 : RowsV [[1, -1]] (r 4) q0 := h1
        obtain ⟨b, hr, hI⟩ := h1.mono h2
        refine makes_call2 _ _ _ _ _ _ s 30 (.tmp 98) (.tmp 102) 24 42 _ _ (putN_ev (by simp [nz9]) (by rw [← hG] <;> rfl)) ((putN_ev_nz (i := 4) (by simp [nz9]) ⟨(4, 102), by simp [nz9], rfl⟩ (by rw [hGz]; decide)).trans hr) enters30 ?_
        exact (k_al (HE.out.mono hs) (some b) hI).mono fun e w' h => ⟨_, h.1, h.2, rfl⟩
    · intro r p0 q0 s hs hm hsep
      obtain ⟨h10, h10b, h10c⟩ := hm 10 (by simp [isNz, nz9])
      have h10 : r 10 = .pointer (some ⟨(p0 10).heap.size, 0, none⟩) ∧ q0 10 = (p0 10).alloc (.cells #[.int .i64 0, .int .i64 0] 34) := h10
      obtain ⟨h10, h10q⟩ := h10
      have hv10 : V2At s (p0 10).heap.size 34 (.int .i64 0) (.int .i64 0) := V2At.mono (w := q0 10) (by rw [h10q]; exact heap_alloc_new _ _) h10b
      obtain ⟨h11, h11b, h11c⟩ := hm 11 (by simp [isNz, nz9])
      have h11 : r 11 = .pointer (some ⟨(p0 11).heap.size, 0, none⟩) ∧ q0 11 = (p0 11).alloc (.cells #[.int .i64 0, .int .i64 0] 34) := h11
      obtain ⟨h11, h11q⟩ := h11
      have hv11 : V2At s (p0 11).heap.size 34 (.int .i64 0) (.int .i64 0) := V2At.mono (w := q0 11) (by rw [h11q]; exact heap_alloc_new _ _) h11b
      have hne : (p0 10).heap.size ≠ (p0 11).heap.size := by
        have h := hsep 10 11 (by simp [isNz, nz9]) (by simp [isNz, nz9]) (by decide)
        rw [h10q, h11q] at h
        simp at h
        omega
      have hs10 : x7.heap.size ≤ (p0 10).heap.size := h10c.size
      have hs11 : x7.heap.size ≤ (p0 11).heap.size := h11c.size
      obtain ⟨o1, ho1⟩ : ∃ o, o = (p0 10).heap.size := ⟨_, rfl⟩
      obtain ⟨o2, ho2⟩ : ∃ o, o = (p0 11).heap.size := ⟨_, rfl⟩
      rw [← ho1] at h10 hv10 hs10 hne
      rw [← ho2] at h11 hv11 hs11 hne
      have f0 := hv10.f0; have f1 := hv10.f1; have r0 := hv10.c0; have r1 := hv10.c1
      have hw1 := hv10.set (.int .i64 0) (.int .i64 1)
      have hw2 : V2At ((s.setCell ⟨o1, 0, none⟩ (.int .i64 0)).setCell ⟨o1, 1, none⟩ (.int .i64 1)) o2 34 (.int .i64 0) (.int .i64 0) := (hv11.other (Ne.symm hne) _ _).other (Ne.symm hne) _ _
      have g0 := hw2.f0; have g1 := hw2.f1; have q0' := hw2.c0; have q1 := hw2.c1
      have Hw1 := hid ((hw1.other hne 0 (.int .i64 1)).other hne 1 (.int .i64 2)); have Hw2 := hid (hw2.set (.int .i64 1) (.int .i64 2)); have HBs := hid (below_set2 (below_set2 hs hs10 (.int .i64 0) (.int .i64 1)) hs11 (.int .i64 1) (.int .i64 2))
      clear hs hm hsep h10b h10c h10q h11b h11c h11q ho1 ho2 hv10 hv11 hs10 hs11 hw1 hw2 cm0 cm1
      rw [← hG]
      simp only [putN, nz9, List.foldl_cons, List.foldl_nil, h10, h11, Act.put, List.setIfInBounds_toArray, List.set_cons_succ, List.set_cons_zero, List.drop_succ_cons, List.drop_zero]
      clear hG hGz h10 h11
      gi_wp2
      go_wp2
      go_meet
      exact ⟨o1, o2, rfl, rfl, rfl, Hw1.out, Hw2.out, HBs.out⟩
  obtain ⟨p1, p2, rfl, rfl, rfl, hv, hx, hB⟩ := hcut
  rename World => x8
  clear cm0 cm1
  have HE' := hid (show SEx x8 q b1 b2 b3 b4 from HE.out.mono hB)
  have LC' := hid (show PlumbsAt x8 ca [(0, 1), (0, 2), (1, 1), (1, 2)] from LC.out.mono hB)
  have BX' := hid (show V2At x8 o 24 (.slice xa 4 4) (.bool false) ∧ KnAt x8 xa ⟨[2, 1, 0, 0], false⟩ from ⟨BX.out.1.mono hB, BX.out.2.mono hB⟩)
  have HB' := hid (bstep HB.out hB)
  clear HB HE LC BX
  have HE := HE'
  have LC := LC'
  have BX := BX'
  have HB := HB'
  clear HB' HE' LC' BX'
  have BP := hid (And.intro hv hx)
  clear hv hx
  clear hB
  have ck0 := fun (J : World → Prop) (s : LaterJ x8 J) => (HE.out.mono s.h).k.c0; have ck1 := fun (J : World → Prop) (s : LaterJ x8 J) => (HE.out.mono s.h).k.c1
  go_upto_region 10 with (fail)
  go_cut [22, 23] from 107 to 117 (fun a b x9 => ∃ ta tc, a = .slice ta 2 tc ∧ b = .int .i64 0 ∧ PlumbsAt x9 ta [(0, 2), (1, 1)] ∧ Below x8.heap.size x8 x9)
  case first =>
    refine wp_region_mix3 (n := 13) (nz := nz10) (kn := []) (dp := dp10) (bs := [.keep, .off, .off, .off, .off, .off, .off, .off, .off, .off, .off, .off, .off]) (Φ := Φ10) (by kernel_rfl) (by kernel_rfl) (by simp [nz10]) ?_
    simp only [blind2, Bk.on, blindO]
    repeat (gi_big_quiet_step (fail))
    refine wpQuietIn_nil ?_
    refine ⟨?_, ?_, ?_, ?_⟩
    · intro J hJ hne
      repeat (gi_big_quiet_step (fail))
      exact wpQuietIn_nil rfl
    all_goals (generalize hG : (Act.mk _ _ : Act) = G)
    all_goals (have hGz : G.tmps.size = 280 := by rw [← hG]; rfl)
    · intro i hi o ho r s hs hd
      have hi2 : 1 = i ∨ 2 = i ∨ 3 = i ∨ 4 = i ∨ 5 = i ∨ 6 = i ∨ 7 = i ∨ 8 = i ∨ 9 = i ∨ 10 = i ∨ 11 = i ∨ 12 = i := by simpa [isNz, nz10] using hi
      rcases hi2 with rfl | rfl | rfl | rfl | rfl | rfl | rfl | rfl | rfl | rfl | rfl | rfl
      · simp only [List.getElem?_cons_succ, List.getElem?_cons_zero, Option.some.injEq] at ho
        subst ho
        refine ⟨by simp [Region.wanted], ?_⟩
        exact makes_lit_1m100 _ _ _ _ _ _ s
      · simp only [List.getElem?_cons_succ, List.getElem?_cons_zero, Option.some.injEq] at ho
        subst ho
        obtain ⟨p0, q0, h1, h2⟩ := hd 1 (by simp [dp10])
        have h1 : ListV [1, -1, 0, 0] (r 1) q0 := h1
        refine ⟨by simp [Region.wanted], ?_⟩
        refine makesOp_mono (makes_of50 _ _ _ _ _ _ s 109 _ (putN_ev_nz (i := 1) (by simp [nz10]) ⟨(1, 109), by simp [nz10], rfl⟩ (by rw [hGz]; decide))) ?_
        rintro v s' ⟨h3, rfl, rfl⟩
        exact ⟨h3, h1.mono h2⟩
      · simp only [List.getElem?_cons_succ, List.getElem?_cons_zero, Option.some.injEq] at ho
        subst ho
        obtain ⟨p0, q0, h1, h2⟩ := hd 2 (by simp [dp10])
        have h1 : ListV [1, -1, 0, 0] (r 2) q0 := h1
        refine ⟨by simp [Region.wanted], ?_⟩
        exact makes_row1 _ _ _ _ _ _ s 110 _ _ (h1.mono h2) (putN_ev_nz (i := 2) (by simp [nz10]) ⟨(2, 110), by simp [nz10], rfl⟩ (by rw [hGz]; decide))
      · simp only [List.getElem?_cons_succ, List.getElem?_cons_zero, Option.some.injEq] at ho
        subst ho
        obtain ⟨p0, q0, h1, h2⟩ := hd 3 (by simp [dp10])
        have h1 : RowsV [[1, -1, 0, 0]] (r 3) q0 := h1
        refine ⟨by simp [Region.wanted], ?_⟩
        refine makesOp_mono (makes_plan51 _ _ _ _ _ _ s 111 _ (putN_ev_nz (i := 3) (by simp [nz10]) ⟨(3, 111), by simp [nz10], rfl⟩ (by rw [hGz]; decide))) ?_
        rintro v s' ⟨h3, rfl, rfl⟩
        exact ⟨h3, h1.mono h2⟩
      · simp only [List.getElem?_cons_succ, List.getElem?_cons_zero, Option.some.injEq] at ho
        subst ho
        refine ⟨by simp [Region.wanted], ?_⟩
        exact makes_lit_1 _ _ _ _ _ _ s
      · simp only [List.getElem?_cons_succ, List.getElem?_cons_zero, Option.some.injEq] at ho
        subst ho
        obtain ⟨p0, q0, h1, h2⟩ := hd 5 (by simp [dp10])
        have h1 : ListV [1] (r 5) q0 := h1
        refine ⟨by simp [Region.wanted], ?_⟩
        refine makesOp_mono (makes_of50 _ _ _ _ _ _ s 113 _ (putN_ev_nz (i := 5) (by simp [nz10]) ⟨(5, 113), by simp [nz10], rfl⟩ (by rw [hGz]; decide))) ?_
        rintro v s' ⟨h3, rfl, rfl⟩
        exact ⟨h3, h1.mono h2⟩
      · simp only [List.getElem?_cons_succ, List.getElem?_cons_zero, Option.some.injEq] at ho
        subst ho
        obtain ⟨p0, q0, h1, h2⟩ := hd 4 (by simp [dp10])
        have h1 : RowsV [[1, -1, 0, 0]] (r 4) q0 := h1
        obtain ⟨b, hr, hI⟩ := h1.mono h2
        obtain ⟨p1, q1, g1, g2⟩ := hd 6 (by simp [dp10])
        have g1 : ListV [1] (r 6) q1 := g1
        obtain ⟨c, gr, gI⟩ := g1.mono g2
        refine ⟨by simp [Region.wanted], ?_⟩
        refine makes_call3 _ _ _ _ _ _ s 32 (.tmp 108) (.tmp 112) (.tmp 114) 24 42 22 _ _ _ (putN_ev (by simp [nz10]) (by rw [← hG] <;> rfl)) ((putN_ev_nz (i := 4) (by simp [nz10]) ⟨(4, 112), by simp [nz10], rfl⟩ (by rw [hGz]; decide)).trans hr) ((putN_ev_nz (i := 6) (by simp [nz10]) ⟨(6, 114), by simp [nz10], rfl⟩ (by rw [hGz]; decide)).trans gr) enters32 ?_
        exact (k_td (HE.out.mono hs) (some b) hI (some c) gI).mono fun e w' ⟨ao, cap, h1, h2, h3⟩ => ⟨_, h1, h3, ao, cap, rfl, h2⟩
      · simp only [List.getElem?_cons_succ, List.getElem?_cons_zero, Option.some.injEq] at ho
        subst ho
        obtain ⟨p0, q0, h1, h2⟩ := hd 7 (by simp [dp10])
        have h1 : ∃ ta tc, r 7 = .tuple #[.slice ta 2 tc, .int .i64 0] ∧ PlumbsAt q0 ta [(0, 2), (1, 1)] := h1
        obtain ⟨ta, tc, hr, hI⟩ := h1
        refine ⟨by simp [Region.wanted], ?_⟩
        have ev : (putN nz10 r G).eval (.tmp 115) = _ := (putN_ev_nz (i := 7) (by simp [nz10]) ⟨(7, 115), by simp [nz10], rfl⟩ (by rw [hGz]; decide)).trans hr
        generalize putN nz10 r G = AA at ev ⊢
        refine makesOp_mono (makes_move _ _ _ _ _ AA s 115 _ ev) ?_
        rintro v s' ⟨h3, rfl, rfl⟩
        exact ⟨h3, ta, tc, rfl, hI.mono h2⟩
      · simp only [List.getElem?_cons_succ, List.getElem?_cons_zero, Option.some.injEq] at ho
        subst ho
        obtain ⟨p0, q0, h1, h2⟩ := hd 8 (by simp [dp10])
        have h1 : ∃ ta tc, r 8 = .tuple #[.slice ta 2 tc, .int .i64 0] ∧ PlumbsAt q0 ta [(0, 2), (1, 1)] := h1
        obtain ⟨ta, tc, hr, hI⟩ := h1
        refine ⟨by simp [Region.wanted], ?_⟩
        have ev : (putN nz10 r G).eval (.tmp 107) = _ := (putN_ev_nz (i := 8) (by simp [nz10]) ⟨(8, 107), by simp [nz10], rfl⟩ (by rw [hGz]; decide)).trans hr
        generalize putN nz10 r G = AA at ev ⊢
        refine makesOp_mono (makes_ext0 _ _ _ _ _ AA s 107 _ _ ev) ?_
        rintro v s' ⟨h3, rfl, rfl⟩
        exact ⟨h3, ta, tc, rfl, hI.mono h2⟩
      · simp only [List.getElem?_cons_succ, List.getElem?_cons_zero, Option.some.injEq] at ho
        subst ho
        obtain ⟨p0, q0, h1, h2⟩ := hd 8 (by simp [dp10])
        have h1 : ∃ ta tc, r 8 = .tuple #[.slice ta 2 tc, .int .i64 0] ∧ PlumbsAt q0 ta [(0, 2), (1, 1)] := h1
        obtain ⟨ta, tc, hr, hI⟩ := h1
        refine ⟨by simp [Region.wanted], ?_⟩
        have ev : (putN nz10 r G).eval (.tmp 107) = _ := (putN_ev_nz (i := 8) (by simp [nz10]) ⟨(8, 107), by simp [nz10], rfl⟩ (by rw [hGz]; decide)).trans hr
        generalize putN nz10 r G = AA at ev ⊢
        refine makesOp_mono (makes_ext1 _ _ _ _ _ AA s 107 _ _ ev) ?_
        rintro v s' ⟨h3, rfl, rfl⟩
        exact ⟨h3, rfl⟩
      · simp only [List.getElem?_cons_succ, List.getElem?_cons_zero, Option.some.injEq] at ho
        subst ho
        obtain ⟨p0, q0, h1, h2⟩ := hd 9 (by simp [dp10])
        have h1 : ∃ ta tc, r 9 = .slice ta 2 tc ∧ PlumbsAt q0 ta [(0, 2), (1, 1)] := h1
        obtain ⟨ta, tc, hr, hI⟩ := h1
        refine ⟨by simp [Region.wanted], ?_⟩
        have ev : (putN nz10 r G).eval (.tmp 116) = _ := (putN_ev_nz (i := 9) (by simp [nz10]) ⟨(9, 116), by simp [nz10], rfl⟩ (by rw [hGz]; decide)).trans hr
        generalize putN nz10 r G = AA at ev ⊢
        refine makesOp_mono (makes_assign _ _ _ _ _ AA s 116 _ ev) ?_
        rintro v s' ⟨h3, rfl, rfl⟩
        exact ⟨h3, ta, tc, rfl, hI.mono h2⟩
      · simp only [List.getElem?_cons_succ, List.getElem?_cons_zero, Option.some.injEq] at ho
        subst ho
        obtain ⟨p0, q0, h1, h2⟩ := hd 10 (by simp [dp10])
        have h1 : r 10 = .int .i64 0 := h1
        refine ⟨by simp [Region.wanted], ?_⟩
        have ev : (putN nz10 r G).eval (.tmp 117) = _ := (putN_ev_nz (i := 10) (by simp [nz10]) ⟨(10, 117), by simp [nz10], rfl⟩ (by rw [hGz]; decide)).trans h1
        generalize putN nz10 r G = AA at ev ⊢
        refine makesOp_mono (makes_assign _ _ _ _ _ AA s 117 _ ev) ?_
        rintro v s' ⟨h3, rfl, rfl⟩
        exact ⟨h3, rfl⟩
    · intro i hi o ho r s hs hd
      simp [isKn] at hi
    · intro r p0 q0 s hs hm hsep
      obtain ⟨h11, h11b, _⟩ := hm 11 (by simp [isNz, nz10])
      obtain ⟨h12, _, _⟩ := hm 12 (by simp [isNz, nz10])
      have h11 : ∃ ta tc, r 11 = .slice ta 2 tc ∧ PlumbsAt (q0 11) ta [(0, 2), (1, 1)] := h11
      have h12 : r 12 = .int .i64 0 := h12
      obtain ⟨ta, tc, h11, hI⟩ := h11
      have HI := hid (hI.mono h11b); have HBs := hid hs
      clear hs hm hsep h11b hI ck0 ck1
      rw [← hG]
      simp only [putN, nz10, List.foldl_cons, List.foldl_nil, h11, h12, Act.put, List.setIfInBounds_toArray, List.set_cons_succ, List.set_cons_zero, List.drop_succ_cons, List.drop_zero]
      clear hG hGz h11 h12
      gi_wp2
      go_wp2
      go_meet
      exact ⟨ta, tc, rfl, rfl, HI.out, HBs.out⟩
  obtain ⟨ta, tc, rfl, rfl, hx, hB⟩ := hcut
  rename World => x9
  clear ck0 ck1
  have HE' := hid (show SEx x9 q b1 b2 b3 b4 from HE.out.mono hB)
  have LC' := hid (show PlumbsAt x9 ca [(0, 1), (0, 2), (1, 1), (1, 2)] from LC.out.mono hB)
  have BX' := hid (show V2At x9 o 24 (.slice xa 4 4) (.bool false) ∧ KnAt x9 xa ⟨[2, 1, 0, 0], false⟩ from ⟨BX.out.1.mono hB, BX.out.2.mono hB⟩)
  have BP' := hid (show V2At x9 p1 34 (.int .i64 0) (.int .i64 1) ∧ V2At x9 p2 34 (.int .i64 1) (.int .i64 2) from ⟨BP.out.1.mono hB, BP.out.2.mono hB⟩)
  have HB' := hid (bstep HB.out hB)
  clear HB HE LC BX BP
  have HE := HE'
  have LC := LC'
  have BX := BX'
  have BP := BP'
  have HB := HB'
  clear HB' HE' LC' BX' BP'
  have LT := hid hx
  clear hx
  clear hB
  have ck0 := HE.out.k.c0; have ck1 := HE.out.k.c1
  go_wp2_with fail
  refine (k_bd HE.out).mono ?_
  rintro e x10 ⟨rfl, hB⟩
  have HE' := hid (show SEx x10 q b1 b2 b3 b4 from HE.out.mono hB)
  have LC' := hid (show PlumbsAt x10 ca [(0, 1), (0, 2), (1, 1), (1, 2)] from LC.out.mono hB)
  have BX' := hid (show V2At x10 o 24 (.slice xa 4 4) (.bool false) ∧ KnAt x10 xa ⟨[2, 1, 0, 0], false⟩ from ⟨BX.out.1.mono hB, BX.out.2.mono hB⟩)
  have BP' := hid (show V2At x10 p1 34 (.int .i64 0) (.int .i64 1) ∧ V2At x10 p2 34 (.int .i64 1) (.int .i64 2) from ⟨BP.out.1.mono hB, BP.out.2.mono hB⟩)
  have LT' := hid (show PlumbsAt x10 ta [(0, 2), (1, 1)] from LT.out.mono hB)
  have HB' := hid (bstep HB.out hB)
  clear HB HE LC BX BP LT
  have HE := HE'
  have LC := LC'
  have BX := BX'
  have BP := BP'
  have LT := LT'
  have HB := HB'
  clear HB' HE' LC' BX' BP' LT'
  clear hB ck0 ck1
  have ck0 := HE.out.k.c0; have ck1 := HE.out.k.c1
  go_wp2_with fail
  refine (k_n1 HE.out).mono ?_
  rintro e x11 ⟨rfl, hB⟩
  have HE' := hid (show SEx x11 q b1 b2 b3 b4 from HE.out.mono hB)
  have LC' := hid (show PlumbsAt x11 ca [(0, 1), (0, 2), (1, 1), (1, 2)] from LC.out.mono hB)
  have BX' := hid (show V2At x11 o 24 (.slice xa 4 4) (.bool false) ∧ KnAt x11 xa ⟨[2, 1, 0, 0], false⟩ from ⟨BX.out.1.mono hB, BX.out.2.mono hB⟩)
  have BP' := hid (show V2At x11 p1 34 (.int .i64 0) (.int .i64 1) ∧ V2At x11 p2 34 (.int .i64 1) (.int .i64 2) from ⟨BP.out.1.mono hB, BP.out.2.mono hB⟩)
  have LT' := hid (show PlumbsAt x11 ta [(0, 2), (1, 1)] from LT.out.mono hB)
  have HB' := hid (bstep HB.out hB)
  clear HB HE LC BX BP LT
  have HE := HE'
  have LC := LC'
  have BX := BX'
  have BP := BP'
  have LT := LT'
  have HB := HB'
  clear HB' HE' LC' BX' BP' LT'
  clear hB ck0 ck1
  have cl0 := HE.out.l.c0; have cl1 := HE.out.l.c1
  go_wp2_with fail
  refine (k_n2 HE.out).mono ?_
  rintro e x12 ⟨rfl, hB⟩
  have HE' := hid (show SEx x12 q b1 b2 b3 b4 from HE.out.mono hB)
  have LC' := hid (show PlumbsAt x12 ca [(0, 1), (0, 2), (1, 1), (1, 2)] from LC.out.mono hB)
  have BX' := hid (show V2At x12 o 24 (.slice xa 4 4) (.bool false) ∧ KnAt x12 xa ⟨[2, 1, 0, 0], false⟩ from ⟨BX.out.1.mono hB, BX.out.2.mono hB⟩)
  have BP' := hid (show V2At x12 p1 34 (.int .i64 0) (.int .i64 1) ∧ V2At x12 p2 34 (.int .i64 1) (.int .i64 2) from ⟨BP.out.1.mono hB, BP.out.2.mono hB⟩)
  have LT' := hid (show PlumbsAt x12 ta [(0, 2), (1, 1)] from LT.out.mono hB)
  have HB' := hid (bstep HB.out hB)
  clear HB HE LC BX BP LT
  have HE := HE'
  have LC := LC'
  have BX := BX'
  have BP := BP'
  have LT := LT'
  have HB := HB'
  clear HB' HE' LC' BX' BP' LT'
  clear hB cl0 cl1
  have cm0 := HE.out.m.c0; have cm1 := HE.out.m.c1
  go_wp2_with fail
  refine (k_n3 HE.out).mono ?_
  rintro e x13 ⟨rfl, hB⟩
  have HE' := hid (show SEx x13 q b1 b2 b3 b4 from HE.out.mono hB)
  have LC' := hid (show PlumbsAt x13 ca [(0, 1), (0, 2), (1, 1), (1, 2)] from LC.out.mono hB)
  have BX' := hid (show V2At x13 o 24 (.slice xa 4 4) (.bool false) ∧ KnAt x13 xa ⟨[2, 1, 0, 0], false⟩ from ⟨BX.out.1.mono hB, BX.out.2.mono hB⟩)
  have BP' := hid (show V2At x13 p1 34 (.int .i64 0) (.int .i64 1) ∧ V2At x13 p2 34 (.int .i64 1) (.int .i64 2) from ⟨BP.out.1.mono hB, BP.out.2.mono hB⟩)
  have LT' := hid (show PlumbsAt x13 ta [(0, 2), (1, 1)] from LT.out.mono hB)
  have HB' := hid (bstep HB.out hB)
  clear HB HE LC BX BP LT
  have HE := HE'
  have LC := LC'
  have BX := BX'
  have BP := BP'
  have LT := LT'
  have HB := HB'
  clear HB' HE' LC' BX' BP' LT'
  clear hB cm0 cm1
  have cn0 := fun (J : World → Prop) (s : LaterJ x13 J) => (HE.out.mono s.h).n.c0; have cn1 := fun (J : World → Prop) (s : LaterJ x13 J) => (HE.out.mono s.h).n.c1
  go_upto_region 15 with (fail)
  go_cut [32, 33] from 138 to 144 (fun a b x14 => a = .int .i64 1 ∧ b = .int .i64 0 ∧ Below x13.heap.size x13 x14)
  case first =>
    refine wp_region_mix3 (n := 9) (nz := nz15) (kn := [3]) (dp := dp15) (bs := [.keep, .off, .off, .say (.tuple #[.int .i64 1, .int .i64 0]), .keep, .keep, .keep, .keep, .keep]) (Φ := Φ15) (by kernel_rfl) (by kernel_rfl) (by simp [nz15]) ?_
    simp only [blind2, Bk.on, blindO, knO]
    repeat (gi_big_quiet_step (fail))
    refine wpQuietIn_nil ?_
    refine ⟨?_, ?_, ?_, ?_⟩
    · intro J hJ hne
      repeat (gi_big_quiet_step (fail))
      exact wpQuietIn_nil rfl
    all_goals (generalize hG : (Act.mk _ _ : Act) = G)
    all_goals (have hGz : G.tmps.size = 280 := by rw [← hG]; rfl)
    · intro i hi o ho r s hs hd
      have hi2 : 1 = i ∨ 2 = i := by simpa [isNz, nz15] using hi
      rcases hi2 with rfl | rfl
      · simp only [List.getElem?_cons_succ, List.getElem?_cons_zero, Option.some.injEq] at ho
        subst ho
        refine ⟨by simp [Region.wanted], ?_⟩
        exact makes_lit_10m1 _ _ _ _ _ _ s
      · simp only [List.getElem?_cons_succ, List.getElem?_cons_zero, Option.some.injEq] at ho
        subst ho
        obtain ⟨p0, q0, h1, h2⟩ := hd 1 (by simp [dp15])
        have h1 : ListV [1, 0, -1] (r 1) q0 := h1
        refine ⟨by simp [Region.wanted], ?_⟩
        refine makesOp_mono (makes_of50 _ _ _ _ _ _ s 140 _ (putN_ev_nz (i := 1) (by simp [nz15]) ⟨(1, 140), by simp [nz15], rfl⟩ (by rw [hGz]; decide))) ?_
        rintro v s' ⟨h3, rfl, rfl⟩
        exact ⟨h3, h1.mono h2⟩
    · intro i hi o ho r s hs hd
      have hi2 : i = 3 := by simpa [isKn] using hi
      rcases hi2 with rfl
      · simp only [List.getElem?_cons_succ, List.getElem?_cons_zero, Option.some.injEq] at ho
        subst ho
        obtain ⟨p0, q0, h1, h2⟩ := hd 2 (by simp [dp15])
        have h1 : ListV [1, 0, -1] (r 2) q0 := h1
        obtain ⟨b, hr, hI⟩ := h1.mono h2
        refine makes_call2 _ _ _ _ _ _ s 40 (.tmp 139) (.tmp 141) 24 22 _ _ (putN_ev (by simp [nz15]) (by rw [← hG] <;> rfl)) ((putN_ev_nz (i := 2) (by simp [nz15]) ⟨(2, 141), by simp [nz15], rfl⟩ (by rw [hGz]; decide)).trans hr) enters40 ?_
        exact (k_af (HE.out.mono hs) (some b) hI (fun h => by cases h)).mono fun e w' h => ⟨_, h.1, h.2, rfl⟩
    · intro r p0 q0 s hs hm hsep
      have HBs := hid hs
      clear hs hm hsep cn0 cn1
      rw [← hG]
      simp only [putN, nz15, List.foldl_cons, List.foldl_nil, Act.put, List.setIfInBounds_toArray, List.set_cons_succ, List.set_cons_zero, List.drop_succ_cons, List.drop_zero]
      clear hG hGz
      gi_wp2
      go_wp2
      go_meet
      exact ⟨rfl, rfl, HBs.out⟩
  obtain ⟨rfl, rfl, hB⟩ := hcut
  rename World => x14
  clear cn0 cn1
  have HE' := hid (show SEx x14 q b1 b2 b3 b4 from HE.out.mono hB)
  have LC' := hid (show PlumbsAt x14 ca [(0, 1), (0, 2), (1, 1), (1, 2)] from LC.out.mono hB)
  have BX' := hid (show V2At x14 o 24 (.slice xa 4 4) (.bool false) ∧ KnAt x14 xa ⟨[2, 1, 0, 0], false⟩ from ⟨BX.out.1.mono hB, BX.out.2.mono hB⟩)
  have BP' := hid (show V2At x14 p1 34 (.int .i64 0) (.int .i64 1) ∧ V2At x14 p2 34 (.int .i64 1) (.int .i64 2) from ⟨BP.out.1.mono hB, BP.out.2.mono hB⟩)
  have LT' := hid (show PlumbsAt x14 ta [(0, 2), (1, 1)] from LT.out.mono hB)
  have HB' := hid (bstep HB.out hB)
  clear HB HE LC BX BP LT
  have HE := HE'
  have LC := LC'
  have BX := BX'
  have BP := BP'
  have LT := LT'
  have HB := HB'
  clear HB' HE' LC' BX' BP' LT'
  clear hB
  have cl0 := HE.out.l.c0; have cl1 := HE.out.l.c1
  go_wp2_with fail
  refine (k_nx HE.out).mono ?_
  rintro e x15 ⟨qs, qa, qc, rfl, hx, hql, hq1, hq2, hB⟩
  have HE' := hid (show SEx x15 q b1 b2 b3 b4 from HE.out.mono hB)
  have LC' := hid (show PlumbsAt x15 ca [(0, 1), (0, 2), (1, 1), (1, 2)] from LC.out.mono hB)
  have BX' := hid (show V2At x15 o 24 (.slice xa 4 4) (.bool false) ∧ KnAt x15 xa ⟨[2, 1, 0, 0], false⟩ from ⟨BX.out.1.mono hB, BX.out.2.mono hB⟩)
  have BP' := hid (show V2At x15 p1 34 (.int .i64 0) (.int .i64 1) ∧ V2At x15 p2 34 (.int .i64 1) (.int .i64 2) from ⟨BP.out.1.mono hB, BP.out.2.mono hB⟩)
  have LT' := hid (show PlumbsAt x15 ta [(0, 2), (1, 1)] from LT.out.mono hB)
  have HB' := hid (bstep HB.out hB)
  clear HB HE LC BX BP LT
  have HE := HE'
  have LC := LC'
  have BX := BX'
  have BP := BP'
  have LT := LT'
  have HB := HB'
  clear HB' HE' LC' BX' BP' LT'
  have LQ := hid hx
  have Hql := hid hql; have Hq1 := hid hq1; have Hq2 := hid hq2
  clear hql hq1 hq2
  clear hB hx cl0 cl1
  have cl0 := HE.out.l.c0; have cl1 := HE.out.l.c1
  go_wp2_with fail
  refine (k_ra HE.out qs qa qc LQ.out Hql.out Hq1.out Hq2.out).mono ?_
  rintro e x16 ⟨rfl, hB⟩
  have HE' := hid (show SEx x16 q b1 b2 b3 b4 from HE.out.mono hB)
  have LC' := hid (show PlumbsAt x16 ca [(0, 1), (0, 2), (1, 1), (1, 2)] from LC.out.mono hB)
  have BX' := hid (show V2At x16 o 24 (.slice xa 4 4) (.bool false) ∧ KnAt x16 xa ⟨[2, 1, 0, 0], false⟩ from ⟨BX.out.1.mono hB, BX.out.2.mono hB⟩)
  have BP' := hid (show V2At x16 p1 34 (.int .i64 0) (.int .i64 1) ∧ V2At x16 p2 34 (.int .i64 1) (.int .i64 2) from ⟨BP.out.1.mono hB, BP.out.2.mono hB⟩)
  have LT' := hid (show PlumbsAt x16 ta [(0, 2), (1, 1)] from LT.out.mono hB)
  have LQ' := hid (show IntsAt x16 qa qs from LQ.out.mono hB)
  have HB' := hid (bstep HB.out hB)
  clear HB HE LC BX BP LT LQ
  have HE := HE'
  have LC := LC'
  have BX := BX'
  have BP := BP'
  have LT := LT'
  have LQ := LQ'
  have HB := HB'
  clear HB' HE' LC' BX' BP' LT' LQ'
  clear hB cl0 cl1
  have jx0 := fun (J : World → Prop) (s : LaterJ x16 J) => cstep BX.out.1.c0 s.h
  have jx1 := fun (J : World → Prop) (s : LaterJ x16 J) => cstep BX.out.1.c1 s.h
  have ja0 := fun (J : World → Prop) (s : LaterJ x16 J) => cstep BP.out.1.c0 s.h
  have ja1 := fun (J : World → Prop) (s : LaterJ x16 J) => cstep BP.out.1.c1 s.h
  have jb0 := fun (J : World → Prop) (s : LaterJ x16 J) => cstep BP.out.2.c0 s.h
  have jb1 := fun (J : World → Prop) (s : LaterJ x16 J) => cstep BP.out.2.c1 s.h
  have HY := hid fun (a b : Int) (J : World → Prop) (s : LaterJ x16 J) => at_59 a b s.w'
  go_upto_region 20 with (fail)
  refine wp_region_mix2 (n := 58) (nz := nz20) (kn := [6, 15, 32]) (dp := dp20) (bs := [.keep, .keep, .keep, .keep, .keep, .off, .say (.bool true), .keep, .keep, .keep, .keep, .keep, .keep, .off, .off, .say (.bool true), .keep, .keep, .keep, .keep, .keep, .keep, .keep, .keep, .keep, .keep, .keep, .keep, .keep, .keep, .keep, .off, .say (.bool true), .keep, .keep, .keep, .keep, .keep, .keep, .keep, .keep, .keep, .keep, .keep, .keep, .keep, .keep, .keep, .keep, .keep, .keep, .keep, .keep, .keep, .keep, .keep, .keep, .keep, .off]) (Φ := Φ20) (by kernel_rfl) (by kernel_rfl) (by simp [nz20]) ?_
  simp only [blind2, Bk.on, blindO, knO]
  repeat (gi_big_quiet_step ((refine ⟨rfl, ?_⟩; gi_at_call 59; exact callsJ abidesT (HY.out _ _ _ _))))
  refine wpQuietIn_nil ?_
  refine ⟨?_, ?_, ?_, ?_⟩
  · intro J hJ hne
    repeat (gi_big_quiet_step ((refine ⟨rfl, ?_⟩; gi_at_call 59; exact callsJ hJ (HY.out _ _ _ _))))
    exact wpQuietIn_nil rfl
  all_goals (generalize hG : (Act.mk _ _ : Act) = G)
  all_goals (have hGz : G.tmps.size = 280 := by rw [← hG]; rfl)
  · intro i hi o ho r s hs hd
    have hi2 : 5 = i ∨ 13 = i ∨ 14 = i ∨ 31 = i := by simpa [isNz, nz20] using hi
    rcases hi2 with rfl | rfl | rfl | rfl
    · simp only [List.getElem?_cons_succ, List.getElem?_cons_zero, Option.some.injEq] at ho
      subst ho
      refine ⟨by simp [Region.wanted], ?_⟩
      exact makes_pairs4 _ _ _ _ _ _ s 223 224 225 226 (0, 1) (0, 2) (1, 1) (1, 2) (putN_ev (by simp [nz20]) (by rw [← hG] <;> rfl)) (putN_ev (by simp [nz20]) (by rw [← hG] <;> rfl)) (putN_ev (by simp [nz20]) (by rw [← hG] <;> rfl)) (putN_ev (by simp [nz20]) (by rw [← hG] <;> rfl))
    · simp only [List.getElem?_cons_succ, List.getElem?_cons_zero, Option.some.injEq] at ho
      subst ho
      refine ⟨wanted_at (g := 11) (t := 233) rfl rfl (by simp [nz20]) (by rw [← hG] <;> rfl), ?_⟩
      exact makes_lit_2100 _ _ _ _ _ _ s
    · simp only [List.getElem?_cons_succ, List.getElem?_cons_zero, Option.some.injEq] at ho
      subst ho
      obtain ⟨p0, q0, h1, h2⟩ := hd 13 (by simp [dp20])
      have h1 : ListV [2, 1, 0, 0] (r 13) q0 := h1
      obtain ⟨b, hr, hI⟩ := h1.mono h2
      refine ⟨wanted_at (g := 11) (t := 233) rfl rfl (by simp [nz20]) (by rw [← hG] <;> rfl), ?_⟩
      refine makes_call2 _ _ _ _ _ _ s 58 (.const (.bool false)) (.tmp 235) 4 22 _ _ rfl ((putN_ev_nz (i := 13) (by simp [nz20]) ⟨(13, 235), by simp [nz20], rfl⟩ (by rw [hGz]; decide)).trans hr) enters58 ?_
      exact (known_58 false (some b) 4 4 s).mono fun e w' ⟨h1, h2⟩ => ⟨_, h1, h2, some b, rfl, IntsAt.mono hI h2⟩
    · simp only [List.getElem?_cons_succ, List.getElem?_cons_zero, Option.some.injEq] at ho
      subst ho
      refine ⟨wanted_at (g := 27) (t := 249) rfl rfl (by simp [nz20]) (by rw [← hG] <;> rfl), ?_⟩
      exact makes_pairs2 _ _ _ _ _ _ s 251 252 (0, 2) (1, 1) (putN_ev (by simp [nz20]) (by rw [← hG] <;> rfl)) (putN_ev (by simp [nz20]) (by rw [← hG] <;> rfl))
  · intro i hi o ho r s hs hd
    have hi2 : i = 6 ∨ i = 15 ∨ i = 32 := by simpa [isKn] using hi
    rcases hi2 with rfl | rfl | rfl
    · simp only [List.getElem?_cons_succ, List.getElem?_cons_zero, Option.some.injEq] at ho
      subst ho
      obtain ⟨p0, q0, h1, h2⟩ := hd 5 (by simp [dp20])
      have h1 : PairsV [(0, 1), (0, 2), (1, 1), (1, 2)] (r 5) q0 := h1
      obtain ⟨b, hr, hI⟩ := h1.mono h2
      refine makes_call2 _ _ _ _ _ _ s 21 (.tmp 222) (.tmp 227) 27 27 _ _ (putN_ev (by simp [nz20]) (by rw [← hG] <;> rfl)) ((putN_ev_nz (i := 5) (by simp [nz20]) ⟨(5, 227), by simp [nz20], rfl⟩ (by rw [hGz]; decide)).trans hr) enters21 ?_
      exact (k_cs [(0, 1), (0, 2), (1, 1), (1, 2)] ca (some b) 4 4 cc 4 s rfl rfl (LC.out.mono hs) hI (by decide)).mono fun e w' h => ⟨_, h.1, h.2, rfl⟩
    · simp only [List.getElem?_cons_succ, List.getElem?_cons_zero, Option.some.injEq] at ho
      subst ho
      obtain ⟨p0, q0, h1, h2⟩ := hd 14 (by simp [dp20])
      have h1 : ∃ b, r 14 = .agg #[.slice b 4 4, .bool false] ∧ IntsAt q0 b [2, 1, 0, 0] := h1
      obtain ⟨b, hr, hI⟩ := h1
      have hI := IntsAt.mono hI h2
      refine makes_call2 _ _ _ _ _ _ s 28 (.tmp 234) (.tmp 236) 24 24 _ _ (putN_ev (by simp [nz20]) (by rw [← hG] <;> rfl)) ((putN_ev_nz (i := 14) (by simp [nz20]) ⟨(14, 236), by simp [nz20], rfl⟩ (by rw [hGz]; decide)).trans hr) enters28 ?_
      exact (k_sm ⟨[2, 1, 0, 0], false⟩ xa b 4 4 4 4 false false s rfl rfl rfl rfl (BX.out.2.mono hs) hI (by decide)).mono fun e w' h => ⟨_, h.1, h.2, rfl⟩
    · simp only [List.getElem?_cons_succ, List.getElem?_cons_zero, Option.some.injEq] at ho
      subst ho
      obtain ⟨p0, q0, h1, h2⟩ := hd 31 (by simp [dp20])
      have h1 : PairsV [(0, 2), (1, 1)] (r 31) q0 := h1
      obtain ⟨b, hr, hI⟩ := h1.mono h2
      refine makes_call2 _ _ _ _ _ _ s 21 (.tmp 250) (.tmp 253) 27 27 _ _ (putN_ev (by simp [nz20]) (by rw [← hG] <;> rfl)) ((putN_ev_nz (i := 31) (by simp [nz20]) ⟨(31, 253), by simp [nz20], rfl⟩ (by rw [hGz]; decide)).trans hr) enters21 ?_
      exact (k_cs [(0, 2), (1, 1)] ta (some b) 2 2 tc 2 s rfl rfl (LT.out.mono hs) hI (by decide)).mono fun e w' h => ⟨_, h.1, h.2, rfl⟩
  · intro r p0 q0 s hs hm hsep
    have hlast : (putN nz20 r G).eval (.tmp 279) = .bool true := putN_ev (by simp [nz20]) (by rw [← hG] <;> rfl)
    have HL := hid hlast; have HBs := hid (bstep HB.out hs)
    clear hs hm hsep jx0 jx1 ja0 ja1 jb0 jb1 HY
    simp only [List.drop_succ_cons, List.drop_zero]
    have hev : (putN nz20 r G).defers = [] := by rw [(putN_size nz20 r G).2, ← hG]
    have hz : (putN nz20 r G).tmps.size = 280 := by rw [(putN_size nz20 r G).1, hGz]
    have e279 : (putN nz20 r G).tmps[279]?.getD undef = .bool true := by simpa [Act.eval] using HL.out
    obtain ⟨A, hA⟩ : ∃ A, A = putN nz20 r G := ⟨_, rfl⟩
    rw [← hA] at hev hz e279 ⊢
    clear hA HL hG hGz
    obtain ⟨T, D⟩ := A
    simp only at hev hz e279 ⊢
    subst hev
    gi_wp2
    have hb : 279 < T.size := by omega
    have h0 : 0 < T.size := by omega
    simp [hb] at e279
    go_wp2
    go_ret
    refine ⟨?_, HBs.out⟩
    simp [e279, h0]

end Go.Proofs.Ytelgbjfgmpkepaa
