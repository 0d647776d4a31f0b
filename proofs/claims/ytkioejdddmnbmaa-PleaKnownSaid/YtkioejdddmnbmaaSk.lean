/- Plain: the steps that a desk hands back; what its map of needed facts holds. -/
import Derived.Test.YtkioejdddmnbmaaSj
import Derived.Test.YtkioejdddmnbmaaHb
namespace Go.Proofs.Ytkioejdddmnbmaa
open Go.RowKit Go.Shelf

def ordAt (ord : List (Nat × Nat)) (k : Nat) : Nat × Nat := ord.getD k (0, 0)
def moreTo (m l : List Int) : Nat → List Int
  | 0 => m
  | k + 1 => (moreTo m l k).set (nth l k).toNat 1
theorem moreTo_length (m l : List Int) : ∀ k, (moreTo m l k).length = m.length
  | 0 => rfl
  | k + 1 => by rw [moreTo, List.length_set, moreTo_length m l k]
/-- the facts that are wanted behind k facts, from the last one back -/
def wm (rs : List Rl) (ord : List (Nat × Nat)) (m0 : List Int) : Nat → List Int
  | 0 => m0
  | k + 1 => if nth (wm rs ord m0 k) (ordAt ord (ord.length - 1 - k)).1 = 0 then wm rs ord m0 k else moreTo (wm rs ord m0 k) (nthR rs (ordAt ord (ord.length - 1 - k)).2).1 (nthR rs (ordAt ord (ord.length - 1 - k)).2).1.length
theorem wm_length {rs : List Rl} {ord : List (Nat × Nat)} {m0 : List Int} (h : m0.length = 12) : ∀ k, (wm rs ord m0 k).length = 12
  | 0 => h
  | k + 1 => by
    rw [wm]; split
    · exact wm_length h k
    · rw [moreTo_length]; exact wm_length h k
/-- the map of needed facts behind k facts -/
def dm (rs : List Rl) (ord : List (Nat × Nat)) (m0 : List Int) : Nat → DataW Unit
  | 0 => MD ord
  | k + 1 => if nth (wm rs ord m0 k) (ordAt ord (ord.length - 1 - k)).1 = 0 then (dm rs ord m0 k).del (factKey (ordAt ord (ord.length - 1 - k)).1) else dm rs ord m0 k
def keepAt (rs : List Rl) (ord : List (Nat × Nat)) (m0 : List Int) (j : Nat) : Bool := nth (wm rs ord m0 (ord.length - 1 - j)) (ordAt ord j).1 != 0
def stepsTo (rs : List Rl) (ord : List (Nat × Nat)) (m0 : List Int) : Nat → List Int
  | 0 => []
  | k + 1 => if keepAt rs ord m0 k = true then stepsTo rs ord m0 k ++ [((ordAt ord k).2 : Int)] else stepsTo rs ord m0 k
def stepsM (rs : List Rl) (ord : List (Nat × Nat)) (m0 : List Int) : List Int := stepsTo rs ord m0 ord.length
theorem stepsTo_length (rs : List Rl) (ord : List (Nat × Nat)) (m0 : List Int) : ∀ k, (stepsTo rs ord m0 k).length ≤ k
  | 0 => Nat.le_refl _
  | k + 1 => by
    have := stepsTo_length rs ord m0 k
    rw [stepsTo]; split
    · rw [List.length_append]; show _ + 1 ≤ _; omega
    · omega

/-- facts of an order are below 12, each once, with rules -/
structure OrdF (rs : List Rl) (ord : List (Nat × Nat)) : Prop where
  len : ord.length ≤ 12
  f : ∀ k, k < ord.length → (ordAt ord k).1 < 12 ∧ (ordAt ord k).2 < rs.length
  ne : ∀ j k, j < k → k < ord.length → (ordAt ord j).1 ≠ (ordAt ord k).1

theorem ordAt_eq {ord : List (Nat × Nat)} {k : Nat} (h : k < ord.length) : ordAt ord k = ord[k] := by
  unfold ordAt; rw [List.getD_eq_getElem?_getD, List.getElem?_eq_getElem h]; rfl
theorem OrdOk.ordF {rs : List Rl} {S : Nat → Prop} {ord : List (Nat × Nat)} (h : OrdOk rs S ord) (hl : ord.length ≤ 12) : OrdF rs ord := by
  have hs : ∀ k (hk : k < ord.length), ord = ord.take k ++ ord[k] :: ord.drop (k + 1) := fun k hk => by
    rw [← List.drop_eq_getElem_cons hk, List.take_append_drop]
  refine ⟨hl, fun k hk => ?_, fun j k hjk hk => ?_⟩
  · have := h _ _ _ (hs k hk)
    rw [ordAt_eq hk]
    exact ⟨this.2.2.1, this.1⟩
  · have := (h _ _ _ (hs k hk)).2.2.2.2.1
    rw [ordAt_eq hk, ordAt_eq (by omega)]
    intro e
    refine this (List.mem_map.2 ⟨ord[j], ?_, e⟩)
    rw [List.mem_take_iff_getElem]
    exact ⟨j, by omega, rfl⟩

theorem md_isMap {H : Type} : ∀ (l : List (Nat × Nat)), Maps.IsMap (MD (H := H) l) := by
  intro l
  have : ∀ (l : List (Nat × Nat)) (D : DataW H), Maps.IsMap D → Maps.IsMap (l.foldl (fun D p => D.put (factKey p.1) (.lit (.int .i64 (p.2 : Int)))) D) := by
    intro l
    induction l with
    | nil => intro D h; exact h
    | cons p l ih => intro D h; exact ih _ (h.put _ _)
  exact this l _ Maps.isMap_empty

theorem md_at' {H : Type} : ∀ (n : Nat) (l : List (Nat × Nat)), l.length = n → (∀ k, k < l.length → (ordAt l k).1 < 12) → (∀ j k, j < k → k < l.length → (ordAt l j).1 ≠ (ordAt l k).1) → ∀ j, j < l.length →
    Maps.has (MD (H := H) l) (factKey (ordAt l j).1) = true ∧ ∀ z, (MD (H := H) l).atKey (factKey (ordAt l j).1) z = .lit (.int .i64 ((ordAt l j).2 : Int)) := by
  intro n
  induction n with
  | zero => intro l hl _ _ j hj; omega
  | succ n ihn =>
    intro l hln
    rcases List.eq_nil_or_concat l with rfl | ⟨l', p, hl⟩
    · cases hln
    rw [List.concat_eq_append] at hl
    subst hl
    have hlen : (l' ++ [p]).length = l'.length + 1 := by simp
    intro h12 hne j hj
    have hat : ∀ k, k < l'.length → ordAt (l' ++ [p]) k = ordAt l' k := fun k hk => by
      unfold ordAt; rw [List.getD_eq_getElem?_getD, List.getD_eq_getElem?_getD, List.getElem?_append_left hk]
    have hlast : ordAt (l' ++ [p]) l'.length = p := by unfold ordAt; simp [List.getD_eq_getElem?_getD]
    by_cases e : j = l'.length
    · subst e
      rw [hlast, md_append]
      exact ⟨Maps.has_put_same (md_isMap l') (isKey _) _, fun z => Maps.atKey_put_same (md_isMap l') (isKey _) _ _⟩
    · have hj' : j < l'.length := by omega
      have ih := ihn l' (by omega) (fun k hk => by rw [← hat k hk]; exact h12 k (by omega)) (fun a b h1 h2 => by rw [← hat a (by omega), ← hat b h2]; exact hne a b h1 (by omega)) j hj'
      have hk : factKey (ordAt l' j).1 ≠ factKey p.1 := by
        intro e2
        have h1 := h12 j (by omega)
        have h2 := h12 l'.length (by omega)
        have h3 := hne j l'.length hj' (by omega)
        rw [hlast] at h2 h3
        rw [hat j hj'] at h1 h3
        exact h3 (factKey_inj h1 h2 e2)
      rw [hat j hj', md_append]
      exact ⟨by rw [Maps.has_put_other hk]; exact ih.1, fun z => by rw [Maps.atKey_put_other hk]; exact ih.2 z⟩

theorem dm_at {rs : List Rl} {ord : List (Nat × Nat)} (h : OrdF rs ord) (m0 : List Int) {j : Nat} (hj : j < ord.length) : ∀ k, k ≤ ord.length →
    Maps.has (dm rs ord m0 k) (factKey (ordAt ord j).1) = (decide (j + k < ord.length) || keepAt rs ord m0 j) ∧ ((decide (j + k < ord.length) || keepAt rs ord m0 j) = true → ∀ z, (dm rs ord m0 k).atKey (factKey (ordAt ord j).1) z = .lit (.int .i64 ((ordAt ord j).2 : Int)))
  | 0, _ => by
    have := md_at' (H := Unit) ord.length ord rfl (fun k hk => (h.f k hk).1) h.ne j hj
    rw [dm, decide_eq_true (by omega), Bool.true_or]
    exact ⟨this.1, fun _ => this.2⟩
  | k + 1, hk => by
    have ih := dm_at h m0 hj k (by omega)
    rw [dm]
    by_cases e : j = ord.length - 1 - k
    · have hjk : ord.length - 1 - j = k := by omega
      have hkp : keepAt rs ord m0 j = (nth (wm rs ord m0 k) (ordAt ord j).1 != 0) := by unfold keepAt; rw [hjk]
      rw [decide_eq_true (by omega), Bool.true_or] at ih
      rw [decide_eq_false (by omega), Bool.false_or, hkp, ← e]
      split
      · rename_i hz
        rw [hz]
        exact ⟨Maps.has_del_same, fun h => by simp at h⟩
      · rename_i hz
        have hb : (nth (wm rs ord m0 k) (ordAt ord j).1 != 0) = true := by simpa using hz
        rw [hb]
        exact ⟨ih.1, fun _ => ih.2 rfl⟩
    · have hne : factKey (ordAt ord j).1 ≠ factKey (ordAt ord (ord.length - 1 - k)).1 := by
        intro e2
        have h1 := (h.f j hj).1
        have h2 := (h.f (ord.length - 1 - k) (by omega)).1
        have h3 := factKey_inj h1 h2 e2
        rcases Nat.lt_or_gt_of_ne e with h4 | h4
        · exact h.ne _ _ h4 (by omega) h3
        · exact h.ne _ _ h4 hj h3.symm
      have hd : decide (j + (k + 1) < ord.length) = decide (j + k < ord.length) := by
        rw [decide_eq_decide]; omega
      rw [hd]
      split
      · exact ⟨by rw [Maps.has_del_other hne]; exact ih.1, fun hb z => by rw [Maps.atKey_del_other hne]; exact ih.2 hb z⟩
      · exact ih

theorem dm_end {rs : List Rl} {ord : List (Nat × Nat)} (h : OrdF rs ord) (m0 : List Int) {j : Nat} (hj : j < ord.length) :
    Maps.has (dm rs ord m0 ord.length) (factKey (ordAt ord j).1) = keepAt rs ord m0 j ∧ (keepAt rs ord m0 j = true → ∀ z, (dm rs ord m0 ord.length).atKey (factKey (ordAt ord j).1) z = .lit (.int .i64 ((ordAt ord j).2 : Int))) := by
  have := dm_at h m0 hj ord.length (Nat.le_refl _)
  rw [decide_eq_false (by omega), Bool.false_or] at this
  exact this

end Go.Proofs.Ytkioejdddmnbmaa
