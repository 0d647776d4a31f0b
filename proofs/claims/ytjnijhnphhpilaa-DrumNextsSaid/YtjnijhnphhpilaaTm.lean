/- turn: the stands of a drum as plain functions; the map of stands as a datum. -/
import Derived.Test.YtjnijhnphhpilaaWr
import Derived.Maps.OwnSet
import Derived.Maps.RangeWalk
import Derived.DeepKeys4
import Derived.ChangeKeys
import Derived.Maps.Views
namespace Go.Proofs.Ytjnijhnphhpilaa

section
open Go.RowKit

/-- the first stand of a drum, over the first k places -/
def stand0To (g : List Int) : Nat → List Int
  | 0 => List.replicate 12 0
  | k + 1 => (stand0To g k).set k (nth g (g.length - 1 - k))

theorem stand0To_length (g : List Int) : ∀ k, (stand0To g k).length = 12
  | 0 => rfl
  | k + 1 => by rw [stand0To, List.length_set, stand0To_length g k]

theorem stand0To_bits {g : List Int} (hg : isBits g = true) : ∀ k, isBits (stand0To g k) = true
  | 0 => by unfold stand0To; decide
  | k + 1 => isBits_set (stand0To_bits hg k) _ (isBits_nth hg _)

/-- the stand of a drum behind so many plays -/
def standAt (f g : List Int) : Nat → List Int
  | 0 => stand0To g g.length
  | n + 1 => standTo f (standAt f g n) f.length

theorem standAt_length (f g : List Int) : ∀ n, (standAt f g n).length = 12
  | 0 => stand0To_length g _
  | _n + 1 => standTo_length f _ _

theorem standAt_bits {f g : List Int} (hg : isBits g = true) : ∀ n, isBits (standAt f g n) = true
  | 0 => stand0To_bits hg _
  | n + 1 => standTo_bits (standAt_bits hg n) _

/-- the first n stands differ -/
def Apart (f g : List Int) (n : Nat) : Prop := ∀ i j, i < j → j < n → standAt f g i ≠ standAt f g j

/-- a list of bits as a number -/
def bitNum : List Int → Nat
  | [] => 0
  | x :: l => x.toNat + 2 * bitNum l

theorem bitNum_lt : ∀ {l : List Int}, isBits l = true → bitNum l < 2 ^ l.length
  | [], _ => by simp [bitNum]
  | x :: l, h => by
    unfold isBits at h
    rw [List.all_cons, Bool.and_eq_true] at h
    have hx : x = 0 ∨ x = 1 := by have := h.1; simp [isBit] at this; omega
    have := bitNum_lt (l := l) h.2
    rw [bitNum, List.length_cons, Nat.pow_succ]
    omega

theorem bitNum_inj : ∀ {l m : List Int}, isBits l = true → isBits m = true → l.length = m.length → bitNum l = bitNum m → l = m
  | [], [], _, _, _, _ => rfl
  | [], _ :: _, _, _, h, _ => by simp at h
  | _ :: _, [], _, _, h, _ => by simp at h
  | x :: l, y :: m, hl, hm, h, e => by
    unfold isBits at hl hm
    rw [List.all_cons, Bool.and_eq_true] at hl hm
    have hx : x = 0 ∨ x = 1 := by have := hl.1; simp [isBit] at this; omega
    have hy : y = 0 ∨ y = 1 := by have := hm.1; simp [isBit] at this; omega
    rw [bitNum, bitNum] at e
    have e1 : bitNum l = bitNum m := by omega
    have e2 : x = y := by omega
    rw [e2, bitNum_inj hl.2 hm.2 (by simpa using h) e1]

theorem nodup_lt : ∀ (m : Nat) (l : List Nat), l.Nodup → (∀ x ∈ l, x < m) → l.length ≤ m
  | 0, l, _, h => by
    cases l with
    | nil => simp
    | cons x l => exact absurd (h x (by simp)) (by omega)
  | m + 1, l, hn, h => by
    have h1 := nodup_lt m (l.erase m) (hn.erase m) (fun x hx => by
      have hx2 := (List.Nodup.mem_erase_iff hn).1 hx
      have := h x hx2.2
      have := hx2.1
      omega)
    have h2 := List.length_erase (a := m) (l := l)
    split at h2 <;> omega

theorem apart_le {f g : List Int} (hg : isBits g = true) {n : Nat} (h : Apart f g n) : n ≤ 4096 := by
  have hn : ((List.range n).map fun i => bitNum (standAt f g i)).Nodup := by
    unfold List.Nodup
    rw [List.pairwise_map]
    refine List.Pairwise.imp_of_mem ?_ List.pairwise_lt_range
    intro a b ha hb hab e
    have hb2 := List.mem_range.1 hb
    exact h a b hab hb2 (bitNum_inj (standAt_bits hg _) (standAt_bits hg _) (by rw [standAt_length, standAt_length]) e)
  have := nodup_lt 4096 _ hn (fun x hx => by
    obtain ⟨i, _, rfl⟩ := List.mem_map.1 hx
    have := bitNum_lt (standAt_bits (f := f) hg i)
    rw [standAt_length] at this
    exact this)
  simpa using this

/-- what turn answers: the first stand that comes again, and after how many plays -/
def TurnIs (f g : List Int) (i r : Nat) : Prop := 0 < r ∧ standAt f g i = standAt f g (i + r) ∧ Apart f g (i + r)
end

section
open Go.RowKit Go.Shelf

theorem laid : laidOutB Try.prog = true := by kernel_rfl
theorem row100 : (100 : TypeId) < Try.prog.types.size := of_decide_eq_true (by kernel_rfl)
theorem wide100 : (match Try.prog.underlying 100 with | some (.array _ _) | some (.struct _) => true | _ => false) = true := by rw [Try.underlying100]
theorem key100 : Try.prog.keyTypeAt 3 100 = true := by kernel_rfl
set_option maxRecDepth 100000 in
theorem law100 : Go.WideMaps.KeyLaw Try.prog 100 := deep_law_laid laid (m := 3) (by omega) row100 key100 wide100
theorem keyed100 : Go.Maps.Keyed Try.prog 100 := Go.Maps.Keyed.of_law law100

theorem keyTypeAll : Try.prog.keyType 100 = true := by kernel_rfl
theorem cells100 : Try.prog.cellsOf 100 = 12 := by kernel_rfl
theorem cells98 : Try.prog.cellsOf 98 = 12 := by kernel_rfl
theorem cells3 : Try.prog.cellsOf 3 = 1 := by kernel_rfl

theorem bit_wf {n : Int} (h : n = 0 ∨ n = 1) : (Lit.int .i64 n).wf = true := by rcases h with rfl | rfl <;> decide

theorem keyLits3 (d : Nat) {n : Int} (h : n = 0 ∨ n = 1) : Try.prog.keyLits (d + 1) 3 [.int .i64 n] = some [.int .i64 n] := by
  simp [Program.keyLits, Try.underlying3, bit_wf h]

def stLits (s : List Int) : List Lit := s.map (Lit.int .i64)

theorem mapM_some {α β : Type} (f : α → Option β) (g : α → β) : ∀ (l : List α), (∀ x ∈ l, f x = some (g x)) → l.mapM f = some (l.map g)
  | [], _ => rfl
  | x :: l, h => by
    rw [List.mapM_cons, h x (by simp), mapM_some f g l (fun y hy => h y (by simp [hy]))]
    rfl

theorem flat_nth (s : List Int) : ((List.range s.length).map fun i => [Lit.int .i64 (nth s i)]).flatten = stLits s := by
  unfold stLits
  rw [← List.flatMap_def]
  have hfm : ∀ l : List Nat, (l.flatMap fun i => [Lit.int .i64 (nth s i)]) = l.map fun i => Lit.int .i64 (nth s i) := by
    intro l
    induction l with
    | nil => rfl
    | cons x l ih => rw [List.flatMap_cons, ih]; rfl
  rw [hfm]
  apply List.ext_getElem (by simp)
  intro i h1 h2
  simp at h1
  simp [nth_eq h1]

theorem keyLits98 (d : Nat) {s : List Int} (hs : s.length = 12) (hb : isBits s = true) : Try.prog.keyLits (d + 2) 98 (intv s) = some (stLits s) := by
  have e : Try.prog.keyLits (d + 2) 98 (intv s) = (if (intv s).length = Try.prog.cellsOf 98 then ((List.range 12).mapM fun i => Try.prog.keyLits (d + 1) 3 (((intv s).drop (i * Try.prog.cellsOf 3)).take (Try.prog.cellsOf 3))).map List.flatten else none) := by
    conv => lhs; unfold Program.keyLits
    rw [Try.underlying98]
  rw [e, cells98, cells3, if_pos (by rw [intv_length, hs])]
  rw [mapM_some _ (fun i => [Lit.int .i64 (nth s i)]) _ (fun i hi => by
    have hi2 : i < s.length := by rw [hs]; exact List.mem_range.1 hi
    rw [Nat.mul_one]
    have e2 : ((intv s).drop i).take 1 = [.int .i64 (nth s i)] := by
      unfold intv
      rw [← List.map_drop, ← List.map_take, List.drop_eq_getElem_cons hi2, nth_eq hi2]
      rfl
    rw [e2]
    exact keyLits3 d (isBits_nth hb i))]
  have := flat_nth s
  rw [hs] at this
  rw [Option.map_some, this]

theorem keyLits100 (d : Nat) {s : List Int} (hs : s.length = 12) (hb : isBits s = true) : Try.prog.keyLits (d + 3) 100 (intv s) = some (stLits s) := by
  unfold Program.keyLits
  rw [Try.underlying100]
  have h := keyLits98 d hs hb
  simp [cells100, cells98, intv_length, hs]
  rw [List.take_of_length_le (by rw [intv_length, hs]; omega)]
  simp [h]

theorem keyOf_stand {s : List Int} (hs : s.length = 12) (hb : isBits s = true) : keyOf Try.prog 100 (.agg (intv s).toArray) = some (.string (keyBytes (stLits s))) := by
  unfold keyOf
  rw [Try.underlying100]
  have hf : (Value.agg (intv s).toArray).formed Try.prog 100 = true := by
    simp [Value.formed, Try.underlying100, cells100, intv_length, hs]
  have hn : ∃ n, Try.prog.types.size + 1 = n + 3 := ⟨Try.prog.types.size - 2, by
    have : 2 ≤ Try.prog.types.size := of_decide_eq_true (by kernel_rfl)
    omega⟩
  obtain ⟨n, hn⟩ := hn
  rw [keyTypeAll, hf, hn]
  have h := keyLits100 n hs hb
  simp [Value.cells, h]

theorem stLits_wf {s : List Int} (hb : isBits s = true) : ∀ l ∈ stLits s, l.keyWf := by
  intro l hl
  unfold stLits at hl
  obtain ⟨x, hx, rfl⟩ := List.mem_map.1 hl
  obtain ⟨k, hk, rfl⟩ := List.getElem_of_mem hx
  have := isBits_nth hb k
  rw [nth_eq hk] at this
  exact bit_wf this

theorem stand_key_inj {s t : List Int} (hs : s.length = 12) (ht : t.length = 12) (hb : isBits s = true) (hc : isBits t = true) (h : keyBytes (stLits s) = keyBytes (stLits t)) : s = t := by
  have := keyLits_inj (keyLits100 0 hs hb) (keyLits100 0 ht hc) h
  unfold stLits at this
  exact (List.map_inj_right (fun x y e => by cases e; rfl)).1 this
end

section
open Go.RowKit Go.Shelf

def stKey (s : List Int) : Lit := .string (keyBytes (stLits s))

/-- the map behind n rounds -/
def DN {H : Type} (f g : List Int) : Nat → DataW H
  | 0 => .map []
  | n + 1 => (DN f g n).put (stKey (standAt f g n)) (.lit (.int .i64 n))

theorem stKey_ne {f g : List Int} (hg : isBits g = true) {i j : Nat} (h : standAt f g i ≠ standAt f g j) : stKey (standAt f g i) ≠ stKey (standAt f g j) := by
  intro e
  unfold stKey at e
  exact h (stand_key_inj (standAt_length _ _ _) (standAt_length _ _ _) (standAt_bits hg _) (standAt_bits hg _) (Lit.string.inj e))

theorem isKey (s : List Int) : WideAt.IsKeyLit (stKey s) := trivial

section
variable {H : Type} {f g : List Int} (hg : isBits g = true)

theorem dn_isMap (f g : List Int) (n : Nat) : Go.Maps.IsMap (DN (H := H) f g n) := by
  induction n with
  | zero => exact ⟨[], rfl⟩
  | succ n ih =>
    obtain ⟨es, e⟩ := ih
    rw [DN, e]
    exact ⟨_, rfl⟩

theorem dn_tidy (f g : List Int) (n : Nat) : Go.Maps.Tidy (DN (H := H) f g n) := by
  induction n with
  | zero => exact ⟨[], rfl, List.Pairwise.nil⟩
  | succ n ih => rw [DN]; exact ih.put (isKey _) _

include hg
/-- the key of a stand that has not come is not in the map -/
theorem dn_has_not {n : Nat} {s : List Int} (hs : s.length = 12) (hb : isBits s = true) (h : ∀ i, i < n → standAt f g i ≠ s) : Go.Maps.has (DN (H := H) f g n) (stKey s) = false := by
  induction n with
  | zero => rfl
  | succ n ih =>
    have hne : stKey s ≠ stKey (standAt f g n) := fun e => h n (by omega) (stand_key_inj (standAt_length _ _ _) hs (standAt_bits hg _) hb (Lit.string.inj e).symm)
    rw [DN, Go.Maps.has_put_other hne]
    exact ih (fun i hi => h i (by omega))

theorem dn_has {n i : Nat} (hi : i < n) : Go.Maps.has (DN (H := H) f g n) (stKey (standAt f g i)) = true := by
  induction n with
  | zero => omega
  | succ n ih =>
    rw [DN]
    by_cases h : standAt f g i = standAt f g n
    · rw [h]; exact Go.Maps.has_put_same (dn_isMap f g n) (isKey _) _
    · rw [Go.Maps.has_put_other (stKey_ne hg h)]
      have : i ≠ n := fun e => h (by rw [e])
      exact ih (by omega)

theorem dn_at {n i : Nat} (hi : i < n) (ha : Apart f g n) (z : DataW H) : (DN (H := H) f g n).atKey (stKey (standAt f g i)) z = .lit (.int .i64 i) := by
  induction n with
  | zero => omega
  | succ n ih =>
    rw [DN]
    by_cases h : i = n
    · subst h; exact Go.Maps.atKey_put_same (dn_isMap f g i) (isKey _) _ _
    · rw [Go.Maps.atKey_put_other (stKey_ne hg (ha i n (by omega) (by omega)))]
      exact ih (by omega) (fun a b hab hb => ha a b hab (by omega))

theorem dn_size {n : Nat} (ha : Apart f g n) : Go.Maps.size (DN (H := H) f g n) = n := by
  induction n with
  | zero => rfl
  | succ n ih =>
    rw [DN, Go.Maps.size_put (dn_tidy f g n), dn_has_not hg (standAt_length _ _ _) (standAt_bits hg _) (fun i hi => ha i n hi (by omega)), ih (fun a b hab hb => ha a b hab (by omega))]
    rfl
end
end

section
open Go.RowKit Go.Shelf

set_option maxRecDepth 100000 in
theorem keyLits3_inv {d : Nat} {v : Value} {ls : List Lit} (h : Try.prog.keyLits (d + 1) 3 [v] = some ls) : ∃ n, v = .int .i64 n ∧ ls = [.int .i64 n] := by
  unfold Program.keyLits at h
  rw [Try.underlying3] at h
  cases v <;> simp at h
  obtain ⟨⟨rfl, _⟩, rfl⟩ := h
  exact ⟨_, rfl, rfl⟩

theorem mapM_inv {α β : Type} (f : α → Option β) : ∀ (l : List α) (r : List β), l.mapM f = some r → r.length = l.length ∧ ∀ i (h : i < l.length) (h' : i < r.length), f l[i] = some r[i]
  | [], r, h => by
    simp at h; subst h; exact ⟨rfl, fun i h => by simp at h⟩
  | x :: l, r, h => by
    rw [List.mapM_cons] at h
    cases hx : f x with
    | none => rw [hx] at h; cases h
    | some y =>
      rw [hx] at h
      cases hl : l.mapM f with
      | none => simp [hl] at h
      | some q =>
        simp [hl] at h
        subst h
        obtain ⟨h1, h2⟩ := mapM_inv f l q hl
        refine ⟨by simp [h1], fun i hi hi' => ?_⟩
        cases i with
        | zero => exact hx
        | succ i => exact h2 i (by simpa using hi) (by simpa using hi')

set_option maxRecDepth 100000 in
theorem keyLits98_inv {d : Nat} {cs : List Value} {ls : List Lit} (h : Try.prog.keyLits (d + 2) 98 cs = some ls) : ∃ s, cs = intv s ∧ s.length = 12 ∧ ls = stLits s := by
  have e : Try.prog.keyLits (d + 2) 98 cs = (if cs.length = Try.prog.cellsOf 98 then ((List.range 12).mapM fun i => Try.prog.keyLits (d + 1) 3 ((cs.drop (i * Try.prog.cellsOf 3)).take (Try.prog.cellsOf 3))).map List.flatten else none) := by
    conv => lhs; unfold Program.keyLits
    rw [Try.underlying98]
  rw [e, cells98, cells3] at h
  split at h
  · rename_i hl
    cases hm : (List.range 12).mapM (fun i => Try.prog.keyLits (d + 1) 3 ((cs.drop (i * 1)).take 1)) with
    | none => rw [hm] at h; cases h
    | some r =>
      rw [hm, Option.map_some] at h
      have h := Option.some.inj h
      obtain ⟨hr, hi⟩ := mapM_inv _ _ _ hm
      rw [List.length_range] at hr
      have hcell : ∀ i, i < 12 → ∃ n, cs[i]? = some (.int .i64 n) ∧ r[i]? = some [.int .i64 n] := by
        intro i hi12
        have h2 := hi i (by simpa using hi12) (by omega)
        simp only [List.getElem_range, Nat.mul_one] at h2
        have ed : (cs.drop i).take 1 = [cs[i]'(by omega)] := by rw [List.drop_eq_getElem_cons (by omega)]; rfl
        rw [ed] at h2
        obtain ⟨n, hn, hn2⟩ := keyLits3_inv h2
        exact ⟨n, by rw [List.getElem?_eq_getElem (by omega), hn], by rw [List.getElem?_eq_getElem (by omega), hn2]⟩
      let s : List Int := cs.map fun v => match v with | .int _ n => n | _ => 0
      have hs : s.length = 12 := by simp [s, hl]
      have hcs : cs = intv s := by
        apply List.ext_getElem (by simp [intv, s])
        intro i h1 h2
        obtain ⟨n, hn, _⟩ := hcell i (by omega)
        rw [List.getElem?_eq_getElem h1] at hn
        have hn := Option.some.inj hn
        simp [intv, s, hn]
      refine ⟨s, hcs, hs, ?_⟩
      rw [← h, ← flat_nth s, hs]
      congr 1
      apply List.ext_getElem (by simp [hr])
      intro i h1 h2
      obtain ⟨n, hn, hn2⟩ := hcell i (by omega)
      rw [List.getElem?_eq_getElem h1] at hn2
      have hn2 := Option.some.inj hn2
      rw [hcs, intv_get, if_pos (by omega)] at hn
      rw [hn2]
      simp at hn ⊢
      exact hn.symm
  · cases h

set_option maxRecDepth 100000 in
theorem keyLits100_inv {d : Nat} {cs : List Value} {ls : List Lit} (h : Try.prog.keyLits (d + 3) 100 cs = some ls) : ∃ s, cs = intv s ∧ s.length = 12 ∧ ls = stLits s := by
  unfold Program.keyLits at h
  rw [Try.underlying100] at h
  simp only [cells100] at h
  split at h
  · rename_i hl
    have e1 : (cs.drop 0).take 12 = cs := by rw [List.drop_zero, List.take_of_length_le (by omega)]
    rw [← cells98] at e1
    cases hq : Try.prog.keyLits (d + 2) 98 cs with
    | none =>
      simp [List.mapM_cons, cells98] at h
      rw [List.take_of_length_le (by omega), hq] at h
      cases h
    | some q =>
      simp [List.mapM_cons, cells98] at h
      rw [List.take_of_length_le (by omega), hq] at h
      obtain ⟨s, h1, h2, h3⟩ := keyLits98_inv hq
      have h := Option.some.inj h
      exact ⟨s, h1, h2, by rw [← h, h3]; simp⟩
  · cases h

set_option maxRecDepth 100000 in
theorem keyOf_inv {key : Value} {kl : Lit} (h : keyOf Try.prog 100 key = some kl) : ∃ s, key = .agg (intv s).toArray ∧ s.length = 12 ∧ kl = stKey s := by
  unfold keyOf at h
  rw [Try.underlying100] at h
  simp only at h
  split at h
  · rename_i hf
    obtain ⟨n, hn⟩ : ∃ n, Try.prog.types.size + 1 = n + 3 := ⟨Try.prog.types.size - 2, by
      have : 2 ≤ Try.prog.types.size := of_decide_eq_true (by kernel_rfl)
      omega⟩
    rw [hn] at h
    cases hk : Try.prog.keyLits (n + 3) 100 key.cells.toList with
    | none => rw [hk] at h; cases h
    | some ls =>
      rw [hk, Option.map_some] at h
      have h := Option.some.inj h
      obtain ⟨s, hs1, hs2, hs3⟩ := keyLits100_inv hk
      refine ⟨s, ?_, hs2, by rw [← h, hs3]; rfl⟩
      have hfm : key.formed Try.prog 100 = true := by
        simp only [Bool.and_eq_true] at hf; exact hf.2
      cases key <;> simp [Value.formed, Try.underlying100] at hfm
      rename_i cs
      have e : cs.toList = intv s := hs1
      rw [← e]
  · cases h
end

section
open Go.RowKit Go.Shelf

/-- the map behind n rounds, without the stands of some numbers -/
def DD {H : Type} (f g : List Int) (n : Nat) (dels : List Nat) : DataW H := dels.foldr (fun j D => D.del (stKey (standAt f g j))) (DN f g n)

structure RngI (f g : List Int) (n i : Nat) (dels : List Nat) (left : Lit → Bool) : Prop where
  nodup : dels.Nodup
  lt : ∀ j ∈ dels, j < i
  done : ∀ j, j < i → left (stKey (standAt f g j)) = false → j ∈ dels
  fresh : ∀ j, j < n → left (stKey (standAt f g j)) = true → j ∉ dels
  keys : ∀ kl, left kl = true → ∃ j, j < n ∧ kl = stKey (standAt f g j)

theorem le_of_all {i : Nat} : ∀ {l : List Nat}, (∀ j, j < i → j ∈ l) → i ≤ l.length := by
  induction i with
  | zero => intro l _; exact Nat.zero_le _
  | succ i ih =>
    intro l h
    have h1 := ih (l := l.erase i) (fun j hj => (List.mem_erase_of_ne (by omega)).2 (h j (by omega)))
    have h2 := List.length_erase_of_mem (h i (by omega))
    have h3 : 0 < l.length := List.length_pos_of_mem (h i (by omega))
    omega

theorem RngI.all {f g : List Int} {n i : Nat} {dels : List Nat} {left : Lit → Bool} (h : RngI f g n i dels left) (hl : ∀ kl, left kl = false) : dels.length = i :=
  Nat.le_antisymm (nodup_lt i dels h.nodup h.lt) (le_of_all fun j hj => h.done j hj (hl _))

section
variable {H : Type} {f g : List Int}

theorem dn_has_inv {n : Nat} {kl : Lit} (h : Go.Maps.has (DN (H := H) f g n) kl = true) : ∃ j, j < n ∧ kl = stKey (standAt f g j) := by
  induction n with
  | zero => simp [DN, Go.Maps.has] at h
  | succ n ih =>
    by_cases he : kl = stKey (standAt f g n)
    · exact ⟨n, by omega, he⟩
    · rw [DN, Go.Maps.has_put_other he] at h
      obtain ⟨j, hj, e⟩ := ih h
      exact ⟨j, by omega, e⟩

theorem dd_tidy (f g : List Int) (n : Nat) (dels : List Nat) : Go.Maps.Tidy (DD (H := H) f g n dels) := by
  induction dels with
  | nil => exact dn_tidy f g n
  | cons j l ih => exact ih.del _

variable (hg : isBits g = true)
include hg
theorem rng_start {n i : Nat} (hi : i < n) : RngI f g n i [] (Go.Maps.has (DN (H := H) f g n)) where
  nodup := List.nodup_nil
  lt := by intro j h; cases h
  done := by intro j hj h; rw [dn_has hg (by omega)] at h; cases h
  fresh := by intro j _ _ h; cases h
  keys := by intro kl h; exact dn_has_inv h

theorem dd_has {n j : Nat} {dels : List Nat} (ha : Apart f g n) (hj : j < n) (hd : ∀ a ∈ dels, a < n) (hn : j ∉ dels) : Go.Maps.has (DD (H := H) f g n dels) (stKey (standAt f g j)) = true := by
  induction dels with
  | nil => exact dn_has hg hj
  | cons a l ih =>
    have hne : a ≠ j := fun e => hn (by rw [e]; simp)
    have hap : standAt f g j ≠ standAt f g a := by
      have := hd a (by simp)
      rcases Nat.lt_or_gt_of_ne hne with h | h
      · exact fun e => ha a j h hj e.symm
      · exact ha j a h this
    have := ih (fun b hb => hd b (by simp [hb])) (fun h => hn (by simp [h]))
    show Go.Maps.has ((DD f g n l).del _) _ = true
    rw [Go.Maps.has_del_other (stKey_ne hg hap)]
    exact this

theorem dd_at {n j : Nat} {dels : List Nat} (ha : Apart f g n) (hj : j < n) (hd : ∀ a ∈ dels, a < n) (hn : j ∉ dels) (z : DataW H) : (DD (H := H) f g n dels).atKey (stKey (standAt f g j)) z = .lit (.int .i64 j) := by
  induction dels with
  | nil => exact dn_at hg hj ha z
  | cons a l ih =>
    have hne : a ≠ j := fun e => hn (by rw [e]; simp)
    have hap : standAt f g j ≠ standAt f g a := by
      have := hd a (by simp)
      rcases Nat.lt_or_gt_of_ne hne with h | h
      · exact fun e => ha a j h hj e.symm
      · exact ha j a h this
    show ((DD f g n l).del _).atKey _ z = _
    rw [Go.Maps.atKey_del_other (stKey_ne hg hap)]
    exact ih (fun b hb => hd b (by simp [hb])) (fun h => hn (by simp [h]))

theorem dd_size {n : Nat} {dels : List Nat} (ha : Apart f g n) (hd : ∀ a ∈ dels, a < n) (hn : dels.Nodup) : Go.Maps.size (DD (H := H) f g n dels) + dels.length = n := by
  induction dels with
  | nil => exact dn_size hg ha
  | cons a l ih =>
    rw [List.nodup_cons] at hn
    have h1 := ih (fun b hb => hd b (by simp [hb])) hn.2
    have h2 := Go.Maps.size_del (k := stKey (standAt f g a)) (dd_tidy (H := H) f g n l)
    rw [dd_has hg ha (hd a (by simp)) (fun b hb => hd b (by simp [hb])) hn.1] at h2
    have e : DD (H := H) f g n (a :: l) = (DD f g n l).del (stKey (standAt f g a)) := rfl
    rw [e, List.length_cons]
    simp at h2
    omega
end

theorem sameKey_iff {a b : List Int} : (stKey a).sameKey (stKey b) = true ↔ stKey a = stKey b :=
  ⟨WideAt.sameKey_eq, fun h => by rw [h]; exact WideAt.sameKey_self (isKey _)⟩

/-- a stand has come that stays -/
theorem RngI.keep {f g : List Int} {n i j : Nat} {dels : List Nat} {left : Lit → Bool} (h : RngI f g n i dels left) (hg : isBits g = true) (ha : Apart f g n) (_hi : i < n) (hj : j < n) (hij : i ≤ j) :
    RngI f g n i dels (fun z => left z && !z.sameKey (stKey (standAt f g j))) where
  nodup := h.nodup
  lt := h.lt
  done := by
    intro a hai hl
    refine h.done a hai ?_
    have hne : ¬ (stKey (standAt f g a)).sameKey (stKey (standAt f g j)) = true := fun e => stKey_ne hg (ha a j (by omega) hj) (sameKey_iff.1 e)
    simpa [hne] using hl
  fresh := by intro a han hl; exact h.fresh a han (by simp at hl; exact hl.1)
  keys := by intro kl hl; exact h.keys kl (by simp at hl; exact hl.1)

/-- a stand has come that goes -/
theorem RngI.strike {f g : List Int} {n i j : Nat} {dels : List Nat} {left : Lit → Bool} (h : RngI f g n i dels left) (hg : isBits g = true) (ha : Apart f g n) (hi : i < n) (hj : j < i) (hl : left (stKey (standAt f g j)) = true) :
    RngI f g n i (j :: dels) (fun z => left z && !z.sameKey (stKey (standAt f g j))) where
  nodup := List.nodup_cons.2 ⟨h.fresh j (by omega) hl, h.nodup⟩
  lt := by
    intro a hm
    rcases List.mem_cons.1 hm with rfl | hm
    · exact hj
    · exact h.lt a hm
  done := by
    intro a hai hla
    by_cases he : a = j
    · rw [he]; simp
    · cases hl2 : left (stKey (standAt f g a)) with
      | false => exact List.mem_cons_of_mem _ (h.done a hai hl2)
      | true =>
        rw [hl2] at hla
        simp at hla
        have hk := sameKey_iff.1 hla
        rcases Nat.lt_or_gt_of_ne he with h1 | h1
        · exact absurd hk (stKey_ne hg (ha a j h1 (by omega)))
        · exact absurd hk.symm (stKey_ne hg (ha j a h1 (by omega)))
  fresh := by
    intro a han hla hm
    simp at hla
    rcases List.mem_cons.1 hm with rfl | hm
    · have := WideAt.sameKey_self (isKey (standAt f g a))
      rw [hla.2] at this; cases this
    · exact h.fresh a han hla.1 hm
  keys := by intro kl hl; exact h.keys kl (by simp at hl; exact hl.1)
end

end Go.Proofs.Ytjnijhnphhpilaa
