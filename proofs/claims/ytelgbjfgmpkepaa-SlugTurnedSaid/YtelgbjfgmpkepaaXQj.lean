/- Plain: coppers in another order; light and heavy exchanged; pans exchanged. -/
import Derived.Test.YtelgbjfgmpkepaaXQi
namespace Go.Proofs.Ytelgbjfgmpkepaa
open Go.RowKit Go.Shelf

/-- a kind, light and heavy exchanged -/
def flipV (k : Int) : Int := if k = 1 then 2 else if k = 2 then 1 else k
def flipK (K : Kn) : Kn := ⟨K.cop.map flipV, K.none⟩
theorem flipK_len (K : Kn) : (flipK K).cop.length = K.cop.length := by simp [flipK]
theorem flipK_nth {K : Kn} {k : Nat} (h : k < K.cop.length) : nth (flipK K).cop k = flipV (nth K.cop k) := by
  rw [nth_eq (by rw [flipK_len]; exact h), nth_eq h]; simp [flipK]
theorem flipV_range {k : Int} (h : 0 ≤ k ∧ k ≤ 3) : 0 ≤ flipV k ∧ flipV k ≤ 3 := by unfold flipV; split <;> (try split) <;> omega
theorem count_flip {a : Int} (ha : 0 ≤ a ∧ a ≤ 3) : ∀ {xs : List Int}, (∀ x ∈ xs, 0 ≤ x ∧ x ≤ 3) → (xs.map flipV).count a = xs.count (flipV a)
  | [], _ => rfl
  | x :: xs, h => by
    rw [List.map_cons, List.count_cons, List.count_cons, count_flip ha (fun y hy => h y (List.mem_cons_of_mem _ hy))]
    have hx := h x (by simp)
    have : (flipV x == a) = (x == flipV a) := by
      rcases (show x = 0 ∨ x = 1 ∨ x = 2 ∨ x = 3 by omega) with rfl | rfl | rfl | rfl <;> rcases (show a = 0 ∨ a = 1 ∨ a = 2 ∨ a = 3 by omega) with rfl | rfl | rfl | rfl <;> decide
    rw [this]
theorem mem_range {K : Kn} (hk : Kok K) : ∀ x ∈ K.cop, 0 ≤ x ∧ x ≤ 3 := fun x hx => by
  obtain ⟨k, hk1, e⟩ := List.getElem_of_mem hx
  have := hk.cop k hk1
  rw [nth_eq hk1, e] at this
  exact this
theorem flip_cnt {K : Kn} (hk : Kok K) : cntOf (flipK K) = (cntOf K).flip := by
  have h := mem_range hk
  unfold cntOf Cnt.flip flipK
  refine cnt_eq5 ?_ ?_ ?_ ?_ rfl
  · exact count_flip (by decide) h
  · exact count_flip (by decide) h
  · exact count_flip (by decide) h
  · exact count_flip (by decide) h
theorem flip_ok {K : Kn} (hk : Kok K) : Kok (flipK K) := by
  refine ⟨by rw [flipK_len]; exact hk.n1, by rw [flipK_len]; exact hk.n12, fun k h => ?_, ?_⟩
  · rw [flipK_len] at h; rw [flipK_nth h]; exact flipV_range (hk.cop k h)
  · rcases hk.some with h | ⟨k, h1, h2⟩
    · exact .inl h
    · refine .inr ⟨k, by rw [flipK_len]; exact h1, ?_⟩
      rw [flipK_nth h1]
      have := hk.cop k h1
      unfold flipV; split <;> (try split) <;> omega
theorem ne_same {K X : Kn} (hk : Kok K) (hx : Kok X) (h : nd 1000 (cntOf X) = nd 1000 (cntOf K)) : neErr X = neErr K ∧ neVal X = neVal K := by
  unfold neErr neVal
  rw [kok_iff.2 hk, kok_iff.2 hx, h]
  exact ⟨rfl, rfl⟩
theorem flip_ne {K : Kn} (hk : Kok K) : neErr (flipK K) = neErr K ∧ neVal (flipK K) = neVal K := by
  have hp := cases_pos hk
  have hl := casesOf_len K
  have := hk.n12
  refine ne_same hk (flip_ok hk) ?_
  rw [flip_cnt hk]
  exact nd_flip (by rw [cntOf_cases]; exact hp) (by rw [cntOf_cases]; omega)
/-- coppers that come in another order -/
theorem turn_eq {xs ys : List Int} {s : Nat} (hl : ys.length = xs.length) (hs : s < xs.length) (h : ∀ k, k < xs.length → nth ys ((k + s) % xs.length) = nth xs k) : ys = xs.drop (xs.length - s) ++ xs.take (xs.length - s) := by
  have hd : (xs.drop (xs.length - s)).length = s := by rw [List.length_drop]; omega
  refine ext_nth (by rw [List.length_append, List.length_drop, List.length_take]; omega) fun p hp => ?_
  rw [hl] at hp
  by_cases hps : p < s
  · have h1 := h (p + xs.length - s) (by omega)
    rw [show (p + xs.length - s + s) % xs.length = p by rw [Nat.sub_add_cancel (by omega), Nat.add_mod_right, Nat.mod_eq_of_lt hp]] at h1
    rw [h1, nth_append_left (by omega), nth_eq (by omega), nth_eq (by omega), List.getElem_drop]
    congr 1; omega
  · have h1 := h (p - s) (by omega)
    rw [show (p - s + s) % xs.length = p by rw [Nat.sub_add_cancel (by omega), Nat.mod_eq_of_lt hp]] at h1
    obtain ⟨q, rfl⟩ : ∃ q, p = (xs.drop (xs.length - s)).length + q := ⟨p - s, by omega⟩
    rw [h1, nth_append_right, nth_eq (by omega), nth_eq (by rw [List.length_take]; omega), List.getElem_take]
    congr 1; omega
theorem turn_cnt {K X : Kn} {s : Nat} (hn : X.none = K.none) (hl : X.cop.length = K.cop.length) (hs : s < K.cop.length) (h : ∀ k, k < K.cop.length → nth X.cop ((k + s) % K.cop.length) = nth K.cop k) : cntOf X = cntOf K := by
  have key : ∀ a, X.cop.count a = K.cop.count a := fun a => by
    rw [turn_eq hl hs h, List.count_append, Nat.add_comm, ← List.count_append, List.take_append_drop]
  unfold cntOf
  rw [hn, key, key, key, key]
theorem turn_ok {K X : Kn} {s : Nat} (hk : Kok K) (hn : X.none = K.none) (hl : X.cop.length = K.cop.length) (hs : s < K.cop.length) (h : ∀ k, k < K.cop.length → nth X.cop ((k + s) % K.cop.length) = nth K.cop k) : Kok X := by
  refine ⟨by rw [hl]; exact hk.n1, by rw [hl]; exact hk.n12, fun p hp => ?_, ?_⟩
  · have hm : nth X.cop p ∈ X.cop := nth_mem hp
    refine mem_range hk _ ?_
    generalize nth X.cop p = v at hm
    rw [turn_eq hl hs h] at hm
    rcases List.mem_append.1 hm with h1 | h1
    · exact List.mem_of_mem_drop h1
    · exact List.mem_of_mem_take h1
  · rcases hk.some with h1 | ⟨k, h1, h2⟩
    · exact .inl (by rw [hn]; exact h1)
    · exact .inr ⟨(k + s) % K.cop.length, by rw [hl]; exact Nat.mod_lt _ (by omega), by rw [h k h1]; exact h2⟩
theorem turn_ne {K X : Kn} {s : Nat} (hk : Kok K) (hn : X.none = K.none) (hl : X.cop.length = K.cop.length) (hs : s < K.cop.length) (h : ∀ k, k < K.cop.length → nth X.cop ((k + s) % K.cop.length) = nth K.cop k) : neErr X = neErr K ∧ neVal X = neVal K :=
  ne_same hk (turn_ok hk hn hl hs h) (by rw [turn_cnt hn hl hs h])
theorem nth_set (xs : List Int) (a b : Nat) (v : Int) (ha : a < xs.length) : nth (xs.set a v) b = if a = b then v else nth xs b := by
  unfold nth
  rw [List.getD, List.getD, List.getElem?_set]
  by_cases h : a = b
  · subst h; simp [ha]
  · simp [h]
theorem mod_apart {n s i k : Nat} (hk : k < i) (hi : i < n) : ¬ (k + s) % n = (i + s) % n := fun h => by
  have h1 := Nat.div_add_mod (k + s) n
  have h2 := Nat.div_add_mod (i + s) n
  rw [h] at h1
  rcases Nat.lt_or_ge ((k + s) / n) ((i + s) / n) with h3 | h3
  · have := Nat.mul_le_mul_left n (show (k + s) / n + 1 ≤ (i + s) / n from h3)
    rw [Nat.mul_add, Nat.mul_one] at this
    omega
  · have := Nat.mul_le_mul_left n h3
    omega
/-- one copper more is laid -/
theorem rot_set {xs X : List Int} {n s i : Nat} (hl : X.length = n) (hi : i < n) (h : ∀ k, k < i → nth X ((k + s) % n) = nth xs k) : ∀ k, k < i + 1 → nth (X.set ((i + s) % n) (nth xs i)) ((k + s) % n) = nth xs k := fun k hk => by
  rw [nth_set _ _ _ _ (by rw [hl]; exact Nat.mod_lt _ (by omega))]
  by_cases e : k = i
  · subst e; rw [if_pos rfl]
  · rw [if_neg (fun h2 => mod_apart (show k < i by omega) hi h2.symm)]
    exact h k (by omega)
/-- both pans exchanged -/
def negL (ws : List Int) : List Int := ws.map fun x => -x
theorem negL_len (ws : List Int) : (negL ws).length = ws.length := by simp [negL]
theorem negL_nth (ws : List Int) (k : Nat) : nth (negL ws) k = -nth ws k := by
  by_cases h : k < ws.length
  · rw [nth_eq (by rw [negL_len]; exact h), nth_eq h]; simp [negL]
  · have h1 : (negL ws)[k]? = none := List.getElem?_eq_none (by rw [negL_len]; omega)
    have h2 : ws[k]? = none := List.getElem?_eq_none (by omega)
    unfold nth; rw [List.getD, List.getD, h1, h2]; rfl
theorem negL_ok {n : Nat} {ws : List Int} (h : WOk n ws) : WOk n (negL ws) := ⟨by rw [negL_len]; exact h.1, fun k hk => by rw [negL_nth]; have := h.2 k hk; omega⟩
theorem negL_sum : ∀ ws : List Int, (negL ws).sum = -ws.sum
  | [] => rfl
  | x :: ws => by
    have h1 : negL (x :: ws) = -x :: negL ws := rfl
    rw [h1, List.sum_cons, List.sum_cons, negL_sum ws]; omega
theorem result_neg (ws : List Int) (c : Int × Int) : resultOf (negL ws) c = -resultOf ws c := by
  unfold resultOf
  rw [negL_nth]
  split
  · rfl
  · split <;> rfl
/-- a case, light and heavy exchanged -/
def otherC (c : Int × Int) : Int × Int := if 0 < c.2 then (c.1, 3 - c.2) else c
theorem result_other {n : Nat} (ws : List Int) {c : Int × Int} (h : CaseOk n c) : resultOf ws (otherC c) = -resultOf ws c := by
  obtain ⟨x, y⟩ := c
  unfold CaseOk at h
  unfold resultOf otherC
  simp only at h
  rcases h with ⟨rfl, rfl⟩ | ⟨⟨h1, h2⟩, rfl | rfl⟩
  · rfl
  · have : ¬ x < 0 := by omega
    simp [this]
  · have : ¬ x < 0 := by omega
    simp [this]
theorem hasKind_flip {k : Int} (h : 0 ≤ k ∧ k ≤ 3) : hasKind (flipV k) 2 = hasKind k 1 ∧ hasKind (flipV k) 1 = hasKind k 2 := by
  rcases (show k = 0 ∨ k = 1 ∨ k = 2 ∨ k = 3 by omega) with rfl | rfl | rfl | rfl <;> decide
theorem other_mem {K : Kn} (hk : Kok K) {c : Int × Int} (h : c ∈ casesOf K) : otherC c ∈ casesOf (flipK K) := by
  have hc := casesOf_ok hk.cop c h
  obtain ⟨x, y⟩ := c
  unfold CaseOk at hc
  simp only at hc
  rcases hc with ⟨rfl, rfl⟩ | ⟨⟨h1, h2⟩, rfl | rfl⟩
  · have h0 : K.none = true := mem_casesNone.1 h
    exact mem_casesNone.2 (show (flipK K).none = true from h0)
  · obtain ⟨i, rfl⟩ : ∃ i : Nat, x = (i : Int) := ⟨x.toNat, by omega⟩
    have h3 := (mem_cases (.inl rfl)).1 h
    refine (mem_cases (.inr rfl)).2 ⟨by rw [flipK_len]; exact h3.1, ?_⟩
    rw [flipK_nth h3.1, (hasKind_flip (hk.cop i h3.1)).1]; exact h3.2
  · obtain ⟨i, rfl⟩ : ∃ i : Nat, x = (i : Int) := ⟨x.toNat, by omega⟩
    have h3 := (mem_cases (.inr rfl)).1 h
    refine (mem_cases (.inl rfl)).2 ⟨by rw [flipK_len]; exact h3.1, ?_⟩
    rw [flipK_nth h3.1, (hasKind_flip (hk.cop i h3.1)).2]; exact h3.2
theorem flip_flipK {K : Kn} (hk : Kok K) : flipK (flipK K) = K := by
  obtain ⟨cop, nn⟩ := K
  have h := mem_range hk
  unfold flipK
  simp only [List.map_map, Kn.mk.injEq, and_true]
  refine (List.map_congr_left fun x hx => ?_).trans (List.map_id _)
  have := h x hx
  show flipV (flipV x) = x
  rcases (show x = 0 ∨ x = 1 ∨ x = 2 ∨ x = 3 by simpa using (show x = 0 ∨ x = 1 ∨ x = 2 ∨ x = 3 by omega)) with rfl | rfl | rfl | rfl <;> rfl
theorem other_other {n : Nat} {c : Int × Int} (h : CaseOk n c) : otherC (otherC c) = c := by
  obtain ⟨x, y⟩ := c
  unfold CaseOk at h
  simp only at h
  rcases h with ⟨rfl, rfl⟩ | ⟨_, rfl | rfl⟩ <;> rfl
theorem sameB_symm {ps : List (List Int)} {a b : Int × Int} : sameB ps a b = sameB ps b a := by
  unfold sameB
  exact decide_eq_decide.2 ⟨fun h => h.symm, fun h => h.symm⟩
theorem pw_iff {ps : List (List Int)} : ∀ {L : List (Int × Int)}, L.Nodup → (L.Pairwise (fun a b => sameB ps a b = false) ↔ ∀ a ∈ L, ∀ b ∈ L, a ≠ b → sameB ps a b = false)
  | [], _ => by simp
  | x :: L, hn => by
    rw [List.nodup_cons] at hn
    rw [List.pairwise_cons, pw_iff hn.2]
    constructor
    · rintro ⟨h1, h2⟩ a ha b hb hab
      rcases List.mem_cons.1 ha with ea | ha
      · rcases List.mem_cons.1 hb with eb | hb
        · exact absurd (ea.trans eb.symm) hab
        · rw [ea]; exact h1 b hb
      · rcases List.mem_cons.1 hb with eb | hb
        · rw [eb, sameB_symm]; exact h1 a ha
        · exact h2 a ha b hb hab
    · intro h
      exact ⟨fun b hb => h x (by simp) b (List.mem_cons_of_mem _ hb) (fun e => hn.1 (e ▸ hb)), fun a ha b hb => h a (List.mem_cons_of_mem _ ha) b (List.mem_cons_of_mem _ hb)⟩
theorem alike_iff {ps : List (List Int)} {K : Kn} : alikeL ps (casesOf K) = none ↔ ∀ a ∈ casesOf K, ∀ b ∈ casesOf K, a ≠ b → sameB ps a b = false := alike_none_iff.trans (pw_iff (casesOf_nodup K))
theorem same_neg (p : List Int) (a b : Int × Int) : sameB [negL p] a b = sameB [p] a b := by
  refine Bool.eq_iff_iff.2 ?_
  rw [sameB_iff, sameB_iff]
  simp only [List.mem_singleton, forall_eq, result_neg]
  omega
theorem same_other {n : Nat} (p : List Int) {a b : Int × Int} (ha : CaseOk n a) (hb : CaseOk n b) : sameB [p] (otherC a) (otherC b) = sameB [p] a b := by
  refine Bool.eq_iff_iff.2 ?_
  rw [sameB_iff, sameB_iff]
  simp only [List.mem_singleton, forall_eq, result_other p ha, result_other p hb]
  omega
theorem alike_flip {K : Kn} (hk : Kok K) {p : List Int} (h : alikeL [p] (casesOf K) = none) : alikeL [p] (casesOf (flipK K)) = none := by
  rw [alike_iff] at h ⊢
  intro a ha b hb hab
  have hf := flip_ok hk
  have ca := casesOf_ok hf.cop a ha; have cb := casesOf_ok hf.cop b hb
  have ha2 := other_mem hf ha; have hb2 := other_mem hf hb
  rw [flip_flipK hk] at ha2 hb2
  have := h _ ha2 _ hb2 (fun e => hab (by rw [← other_other ca, ← other_other cb, e]))
  rw [same_other p ca cb] at this
  exact this
theorem cp_of {K : Kn} {p : List Int} (hk : Kok K) (hp : WOk K.cop.length p) (hs : p.sum = 0) : cpErr K [p] = if alikeL [p] (casesOf K) = none then 0 else 21 := by
  have h : pErr K [p] = 0 := pErr_ok hk (by simp) fun q hq => by rw [List.mem_singleton] at hq; subst hq; exact ⟨hp, hs⟩
  unfold cpErr alO
  rw [if_pos h, if_pos h]
  cases alikeL [p] (casesOf K) <;> simp
/-- results with the other sign; what a plan does not tell stays so -/
theorem turned_law {K : Kn} (hk : Kok K) (bs : List Nat) {c : Int × Int} (hc : c ∈ casesOf K) :
    resErr K (laidL K.cop.length bs) c = 0 ∧ (-1 ≤ resVal K (laidL K.cop.length bs) c ∧ resVal K (laidL K.cop.length bs) c ≤ 1) ∧
    resErr K (negL (laidL K.cop.length bs)) c = 0 ∧ resVal K (negL (laidL K.cop.length bs)) c = -resVal K (laidL K.cop.length bs) c ∧
    resErr (flipK K) (laidL K.cop.length bs) (otherC c) = 0 ∧ resVal (flipK K) (laidL K.cop.length bs) (otherC c) = -resVal K (laidL K.cop.length bs) c ∧
    cpErr K [negL (laidL K.cop.length bs)] = cpErr K [laidL K.cop.length bs] ∧ cpErr (flipK K) [laidL K.cop.length bs] = cpErr K [laidL K.cop.length bs] := by
  have hp := laid_ok K.cop.length bs
  have hs := laid_sum K.cop.length bs
  generalize laidL K.cop.length bs = p at hp hs
  have hf := flip_ok hk
  have hcok := casesOf_ok hk.cop c hc
  have hq := negL_ok hp
  have hqs : (negL p).sum = 0 := by rw [negL_sum, hs]; rfl
  have hpf : WOk (flipK K).cop.length p := by rw [flipK_len]; exact hp
  have e0 : ∀ (K' : Kn) (ws : List Int) (c' : Int × Int), Kok K' → WOk K'.cop.length ws → ws.sum = 0 → c' ∈ casesOf K' → resErr K' ws c' = 0 ∧ resVal K' ws c' = resultOf ws c' := fun K' ws c' h1 h2 h3 h4 => by
    have h5 : resErr K' ws c' = 0 := by
      unfold resErr
      rw [if_pos (kw_of h1 h2 h3), if_pos (show 0 ≤ place (casesOf K') c' from place_of_mem h4)]
    exact ⟨h5, by unfold resVal; rw [if_pos h5]⟩
  obtain ⟨a1, a2⟩ := e0 _ _ _ hk hp hs hc
  obtain ⟨b1, b2⟩ := e0 _ _ _ hk hq hqs hc
  obtain ⟨c1, c2⟩ := e0 _ _ _ hf hpf hs (other_mem hk hc)
  refine ⟨a1, by rw [a2]; exact resultOf_range hp hcok, b1, by rw [b2, a2, result_neg], c1, by rw [c2, a2, result_other p hcok], ?_, ?_⟩
  · rw [cp_of hk hq hqs, cp_of hk hp hs]
    have : alikeL [negL p] (casesOf K) = none ↔ alikeL [p] (casesOf K) = none := by
      rw [alike_iff, alike_iff]; simp only [same_neg]
    simp only [this]
  · rw [cp_of hf hpf hs, cp_of hk hp hs]
    have : alikeL [p] (casesOf (flipK K)) = none ↔ alikeL [p] (casesOf K) = none := by
      refine ⟨fun h => ?_, alike_flip hk⟩
      have := alike_flip hf h
      rw [flip_flipK hk] at this
      exact this
    simp only [this]

end Go.Proofs.Ytelgbjfgmpkepaa
