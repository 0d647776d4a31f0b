/- turn: what reads as a stand is one. -/
import Derived.Test.YtjnijhnphhpilaaWu
namespace Go.Proofs.Ytjnijhnphhpilaa
open Go.RowKit Go.Shelf

set_option maxRecDepth 100000 in
theorem keyLits3_inv {d : Nat} {v : Value} {ls : List Lit} (h : Try.prog.keyLits (d + 1) 3 [v] = some ls) : ∃ n, v = .int .i64 n ∧ ls = [.int .i64 n] := by
  unfold Program.keyLits at h
  rw [Try.underlying3] at h
  cases v <;> simp at h
  obtain ⟨⟨rfl, _⟩, rfl⟩ := h
  exact ⟨_, rfl, rfl⟩

theorem mapM_inv {α β : Type} (f : α → Option β) : ∀ (l : List α) (r : List β), l.mapM f = some r → r.length = l.length ∧ ∀ i (h : i < l.length) (h' : i < r.length), f l[i] = some r[i]
  | [], r, h => by
    simp at h; subst h; exact ⟨rfl, fun i h => by simp at h⟩
  | x :: l, r, h => by
    rw [List.mapM_cons] at h
    cases hx : f x with
    | none => rw [hx] at h; cases h
    | some y =>
      rw [hx] at h
      cases hl : l.mapM f with
      | none => simp [hl] at h
      | some q =>
        simp [hl] at h
        subst h
        obtain ⟨h1, h2⟩ := mapM_inv f l q hl
        refine ⟨by simp [h1], fun i hi hi' => ?_⟩
        cases i with
        | zero => exact hx
        | succ i => exact h2 i (by simpa using hi) (by simpa using hi')

set_option maxRecDepth 100000 in
theorem keyLits98_inv {d : Nat} {cs : List Value} {ls : List Lit} (h : Try.prog.keyLits (d + 2) 98 cs = some ls) : ∃ s, cs = intv s ∧ s.length = 12 ∧ ls = stLits s := by
  have e : Try.prog.keyLits (d + 2) 98 cs = (if cs.length = Try.prog.cellsOf 98 then ((List.range 12).mapM fun i => Try.prog.keyLits (d + 1) 3 ((cs.drop (i * Try.prog.cellsOf 3)).take (Try.prog.cellsOf 3))).map List.flatten else none) := by
    conv => lhs; unfold Program.keyLits
    rw [Try.underlying98]
  rw [e, cells98, cells3] at h
  split at h
  · rename_i hl
    cases hm : (List.range 12).mapM (fun i => Try.prog.keyLits (d + 1) 3 ((cs.drop (i * 1)).take 1)) with
    | none => rw [hm] at h; cases h
    | some r =>
      rw [hm, Option.map_some] at h
      have h := Option.some.inj h
      obtain ⟨hr, hi⟩ := mapM_inv _ _ _ hm
      rw [List.length_range] at hr
      have hcell : ∀ i, i < 12 → ∃ n, cs[i]? = some (.int .i64 n) ∧ r[i]? = some [.int .i64 n] := by
        intro i hi12
        have h2 := hi i (by simpa using hi12) (by omega)
        simp only [List.getElem_range, Nat.mul_one] at h2
        have ed : (cs.drop i).take 1 = [cs[i]'(by omega)] := by rw [List.drop_eq_getElem_cons (by omega)]; rfl
        rw [ed] at h2
        obtain ⟨n, hn, hn2⟩ := keyLits3_inv h2
        exact ⟨n, by rw [List.getElem?_eq_getElem (by omega), hn], by rw [List.getElem?_eq_getElem (by omega), hn2]⟩
      let s : List Int := cs.map fun v => match v with | .int _ n => n | _ => 0
      have hs : s.length = 12 := by simp [s, hl]
      have hcs : cs = intv s := by
        apply List.ext_getElem (by simp [intv, s])
        intro i h1 h2
        obtain ⟨n, hn, _⟩ := hcell i (by omega)
        rw [List.getElem?_eq_getElem h1] at hn
        have hn := Option.some.inj hn
        simp [intv, s, hn]
      refine ⟨s, hcs, hs, ?_⟩
      rw [← h, ← flat_nth s, hs]
      congr 1
      apply List.ext_getElem (by simp [hr])
      intro i h1 h2
      obtain ⟨n, hn, hn2⟩ := hcell i (by omega)
      rw [List.getElem?_eq_getElem h1] at hn2
      have hn2 := Option.some.inj hn2
      rw [hcs, intv_get, if_pos (by omega)] at hn
      rw [hn2]
      simp at hn ⊢
      exact hn.symm
  · cases h

set_option maxRecDepth 100000 in
theorem keyLits100_inv {d : Nat} {cs : List Value} {ls : List Lit} (h : Try.prog.keyLits (d + 3) 100 cs = some ls) : ∃ s, cs = intv s ∧ s.length = 12 ∧ ls = stLits s := by
  unfold Program.keyLits at h
  rw [Try.underlying100] at h
  simp only [cells100, cells98] at h
  split at h
  · rename_i hl
    have e1 : (cs.drop 0).take 12 = cs := by rw [List.drop_zero, List.take_of_length_le (by omega)]
    rw [← cells98] at e1
    cases hq : Try.prog.keyLits (d + 2) 98 cs with
    | none =>
      simp [List.mapM_cons, cells98, e1] at h
      rw [List.take_of_length_le (by omega), hq] at h
      cases h
    | some q =>
      simp [List.mapM_cons, cells98, e1] at h
      rw [List.take_of_length_le (by omega), hq] at h
      obtain ⟨s, h1, h2, h3⟩ := keyLits98_inv hq
      have h := Option.some.inj h
      exact ⟨s, h1, h2, by rw [← h, h3]; simp⟩
  · cases h

set_option maxRecDepth 100000 in
theorem keyOf_inv {key : Value} {kl : Lit} (h : keyOf Try.prog 100 key = some kl) : ∃ s, key = .agg (intv s).toArray ∧ s.length = 12 ∧ kl = stKey s := by
  unfold keyOf at h
  rw [Try.underlying100] at h
  simp only at h
  split at h
  · rename_i hf
    obtain ⟨n, hn⟩ : ∃ n, Try.prog.types.size + 1 = n + 3 := ⟨Try.prog.types.size - 2, by
      have : 2 ≤ Try.prog.types.size := of_decide_eq_true (by kernel_rfl)
      omega⟩
    rw [hn] at h
    cases hk : Try.prog.keyLits (n + 3) 100 key.cells.toList with
    | none => rw [hk] at h; cases h
    | some ls =>
      rw [hk, Option.map_some] at h
      have h := Option.some.inj h
      obtain ⟨s, hs1, hs2, hs3⟩ := keyLits100_inv hk
      refine ⟨s, ?_, hs2, by rw [← h, hs3]; rfl⟩
      have hfm : key.formed Try.prog 100 = true := by
        simp only [Bool.and_eq_true] at hf; exact hf.2
      cases key <;> simp [Value.formed, Try.underlying100] at hfm
      rename_i cs
      have e : cs.toList = intv s := hs1
      rw [← e]
  · cases h

end Go.Proofs.Ytjnijhnphhpilaa
