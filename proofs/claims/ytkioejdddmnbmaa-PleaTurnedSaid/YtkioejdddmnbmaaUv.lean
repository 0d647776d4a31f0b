/- The facts of a list moved round (moved, 54); a list of rules of the call's own whose lists are of its own, too. -/
import Derived.Test.YtkioejdddmnbmaaPt
import Derived.Test.YtkioejdddmnbmaaUm
namespace Go.Proofs.Ytkioejdddmnbmaa
open Go.RowKit Go.Shelf

set_option maxRecDepth 100000 in
set_option maxHeartbeats 2000000 in
theorem moved_c (a : Option Addr) (cap : Nat) (l : List Int) (f s : Nat) (w : World) (hx : IntsAt w a l) (hl : l.length ≤ 1000000) (hs : s < f) (hf : f ≤ 12) (hl2 : ∀ k, k < l.length → 0 ≤ nth l k ∧ nth l k < (f : Int)) :
    Calls Try.prog 54 #[.slice a l.length cap, .int .i64 s, .int .i64 f] w (OwnLP w (mvL f s l)) := by
  have Hx := hid hx
  have H45 := hid (listedO_c (mvTo f s l l.length) f w (by omega) (by have := mvTo_lt hs l l.length; have : 2 ^ f ≤ 2 ^ 12 := Nat.pow_le_pow_right (by omega) hf; omega))
  have Hr := hid fun k (hk : k < l.length) => (show ∃ n : Nat, nth l k = (n : Int) ∧ n < 12 ∧ sg f s n < 12 ∧ sg f s n = (n + s) % f ∧ mvTo f s l (k + 1) = mvTo f s l k ||| 2 ^ sg f s n ∧ mvTo f s l k < 2 ^ 12 from by
    obtain ⟨h0, h1⟩ := hl2 k hk
    obtain ⟨n, hn⟩ := Int.eq_ofNat_of_zero_le h0
    have h2 := sg_lt (n := n) hs
    refine ⟨n, hn, by omega, by omega, rfl, by rw [mvTo, hn]; rfl, ?_⟩
    have := mvTo_lt hs l k
    exact Nat.lt_of_lt_of_le this (Nat.pow_le_pow_right (by omega) hf))
  have hf0 : decide ((f : Int) = 0) = false := decide_eq_false (by omega)
  have hs12 : s < 12 := by omega
  unfold mvL
  clear hx hl2
  go_enter Try.func54, Try.ntmps54
  go_wp2
  go_loop [7, 8] (fun n i => ∃ k : Nat, k ≤ l.length ∧ i = .int .i64 k ∧ n = .int .i64 (mvTo f s l k)) (fun _ i => l.length - (intOf i).toNat)
  case atStart => exact ⟨0, Nat.zero_le _, rfl, rfl⟩
  case round =>
    obtain ⟨k, hk, rfl, rfl⟩ := hrel
    by_cases hlt : k < l.length
    · obtain ⟨b, off, rfl, hc⟩ := Hx.out.at hlt
      obtain ⟨n, hn, hn12, hg12, hge, hms, hmb⟩ := Hr.out k hlt
      rw [hn] at hc
      have hmod : ((n : Int) + (s : Int)).tmod (f : Int) = ((sg f s n : Nat) : Int) := by
        rw [Int.tmod_eq_emod_of_nonneg (by omega), hge]; rfl
      obtain ⟨g, hg⟩ : ∃ g, g = sg f s n := ⟨_, rfl⟩
      rw [← hg] at hg12 hmod hms
      have hp : (2 : Nat) ^ g < 2 ^ 12 := Nat.pow_lt_pow_right (by omega) hg12
      have hsum : IntKind.i64.wrap ((n : Int) + (s : Int)) = (n : Int) + (s : Int) := by
        have h := wrap_i64_nat (a := n + s) (by omega); simpa using h
      obtain ⟨v, hv⟩ : ∃ v, v = mvTo f s l k := ⟨_, rfl⟩
      rw [← hv] at hms hmb ⊢
      have hor := bits_or_i64 (a := v) (b := 2 ^ g) (by omega) (by omega)
      have hsh : wrap64 ((2 : Int) ^ g) = ((2 ^ g : Nat) : Int) := by
        have e : (2 : Int) ^ g = ((2 ^ g : Nat) : Int) := by simp
        rw [e]
        obtain ⟨q, hq⟩ : ∃ q, q = 2 ^ g := ⟨_, rfl⟩
        rw [← hq] at hp ⊢
        unfold wrap64; omega
      have Hs := hid hms; have Hor := hid hor; have Hsh := hid hsh
      have hgI : (g : Int) < 64 := by omega
      have hg0 : decide ((g : Int) < 0) = false := decide_eq_false (by omega)
      have hltI : (k : Int) < (l.length : Int) := by omega
      clear hn hge hms hv hor hsh hp hmb hg
      go_wp2
      go_round
      case rel => exact ⟨k + 1, by omega, by go_num, by rw [Hs.out, ← Hor.out, ← Hsh.out]⟩
      case measure => simp [intOf]; omega
    · obtain rfl : k = l.length := by omega
      clear hlt hk
      go_wp2_with fail
      refine (H45.out).mono ?_
      rintro e w1 ⟨ao, c, rfl, hown, hB⟩
      go_wp2
      go_ret
      exact ⟨ao, c, rfl, hown, hB⟩

/-- rules in cells, whose lists are the call's own since a world of B blocks -/
def RulesO (B : Nat) (w : World) (cl : List Value) (rs : List Rl) : Prop :=
  cl.length = rs.length * 2 ∧ ∀ i, i < rs.length → ∃ a cap, cl[i * 2]? = some (.slice a (nthR rs i).1.length cap) ∧ cl[i * 2 + 1]? = some (.int .i64 (nthR rs i).2) ∧ OwnI B w a (nthR rs i).1.length cap (nthR rs i).1
def OwnRo (B : Nat) (w : World) (ao : Option Addr) (n cap : Nat) (rs : List Rl) : Prop :=
  rs.length = n ∧ ∃ cl, w.ownsRow B 60 2 (.slice ao n cap) n cl ∧ RulesO B w cl rs

theorem OwnI.keptIf {B : Nat} {w w' : World} {ao : Option Addr} {n cap : Nat} {xs : List Int} (h : OwnI B w ao n cap xs) (hk : ∀ (k : Nat) (cur : Array Value), w.heap[k]? = some (.cells cur 3 (0, 0)) → w'.heap[k]? = w.heap[k]?) : OwnI B w' ao n cap xs := by
  obtain ⟨h1, h2, h3⟩ := h
  refine ⟨h1, h2, ?_⟩
  rcases h3 with h3 | ⟨g, c, cur, e, hge, hh, hr⟩
  · exact .inl h3
  · exact .inr ⟨g, c, cur, e, hge, (hk g cur hh).trans hh, hr⟩
theorem RulesO.keptIf {B : Nat} {w w' : World} {cl : List Value} {rs : List Rl} (h : RulesO B w cl rs) (hk : ∀ (k : Nat) (cur : Array Value), w.heap[k]? = some (.cells cur 3 (0, 0)) → w'.heap[k]? = w.heap[k]?) : RulesO B w' cl rs :=
  ⟨h.1, fun i hi => by obtain ⟨a, c, e1, e2, e3⟩ := h.2 i hi; exact ⟨a, c, e1, e2, e3.keptIf hk⟩⟩
theorem OwnRo.keptIf {B : Nat} {w w' : World} {ao : Option Addr} {n cap : Nat} {rs : List Rl} (h : OwnRo B w ao n cap rs) (hk : ∀ (k : Nat) (cur : Array Value) (t : TypeId), w.heap[k]? = some (.cells cur t (0, 0)) → t = 3 ∨ t = 60 → w'.heap[k]? = w.heap[k]?) : OwnRo B w' ao n cap rs := by
  obtain ⟨h1, cl, ⟨h2, h3⟩, h4⟩ := h
  refine ⟨h1, cl, ⟨h2, ?_⟩, h4.keptIf fun k cur e => hk k cur 3 e (.inl rfl)⟩
  rcases h3 with h3 | ⟨g, c, cur, e, hge, hh, hr⟩
  · exact .inl h3
  · exact .inr ⟨g, c, cur, e, hge, (hk g cur 60 hh (.inr rfl)).trans hh, hr⟩
theorem OwnRo.kept {B : Nat} {w w' : World} {ao : Option Addr} {n cap : Nat} {rs : List Rl} (h : OwnRo B w ao n cap rs) (hB : Below w.heap.size w w') : OwnRo B w' ao n cap rs :=
  h.keptIf fun k _ _ e _ => hB.block k (Array.getElem?_eq_some_iff.1 e).1
theorem OwnRo.nil (B : Nat) (w : World) : OwnRo B w none 0 0 [] := ⟨rfl, [], World.ownsRow_nil w B 60 2, rfl, fun i hi => by simp at hi⟩
theorem OwnRo.nilCap {B : Nat} {w : World} {ao : Option Addr} {n cap : Nat} {rs : List Rl} (h : OwnRo B w ao n cap rs) : ao = Option.none → cap = 0 := by
  rintro rfl
  obtain ⟨_, cl, ⟨_, (⟨e, _⟩ | ⟨g, c, cur, e, _⟩)⟩, _⟩ := h
  · cases e; rfl
  · cases e
theorem OwnRo.at {B : Nat} {w : World} {ao : Option Addr} {n cap : Nat} {rs : List Rl} (h : OwnRo B w ao n cap rs) : RulesAt w ao rs := by
  obtain ⟨h1, cl, ⟨hl, (⟨e, h0⟩ | ⟨g, c, cur, e, hge, hh, hc, hm, hs, ht⟩)⟩, hC⟩ := h
  · exact .inl (List.eq_nil_of_length_eq_zero (h1.trans h0))
  · cases e
    refine .inr ⟨g, 0, rfl, fun i hi => ?_⟩
    obtain ⟨a, cap, e1, e2, e3⟩ := hC.2 i hi
    have hcell : ∀ j, j < cl.length → w.cell? ⟨g, j, none⟩ = cl[j]? := fun j hj => by
      rw [cell_of_row _ _ _ _ _ _ hh]
      have h2 := congrArg (fun l : List Value => l[j]?) ht
      rw [← hl] at h2
      simp only [List.getElem?_take, hj, if_true] at h2
      rw [← h2]; simp
    have hcl := hC.1
    exact ⟨a, cap, by rw [Nat.zero_add, hcell _ (by omega)]; exact e1, e3.at, fun h => (e3.none h).2, by rw [Nat.zero_add, hcell _ (by omega)]; exact e2⟩
/-- the block of the row, where there is one, holds rules -/
theorem OwnRo.block {B : Nat} {w : World} {ao : Option Addr} {n cap k : Nat} {rs : List Rl} (h : OwnRo B w ao n cap rs) (hk : Value.ownBlock (.slice ao n cap) = some k) : B ≤ k ∧ ∃ cur, w.heap[k]? = some (.cells cur 60 (0, 0)) := by
  obtain ⟨_, cl, ⟨_, (⟨e, _⟩ | ⟨g, c, cur, e, hge, hh, _⟩)⟩, _⟩ := h
  · cases e; cases hk
  · cases e
    simp [Value.ownBlock] at hk
    subst hk
    exact ⟨hge, cur, hh⟩

/-- an append of one rule whose list is the call's own -/
theorem run_app_one (ty : TypeId) (w : World) (B : Nat) (hB : B ≤ w.heap.size) (ao : Option Addr) (n cap : Nat) (rs : List Rl) (hown : OwnRo B w ao n cap rs)
    (g1 cx : Nat) (qa : Option Addr) (qc : Nat) (q : Rl) (hq : OwnI B w qa q.1.length qc q.1) (h1 : w.heap[g1]? = some (.cells #[.slice qa q.1.length qc, .int .i64 q.2] 60 (0, 0))) (hb : n + 1 ≤ 1000000) :
    ∃ g' cap' w', (Builtin.append_ #[23, 23] ty #[.slice ao n cap, .slice (some ⟨g1, 0, none⟩) 1 cx]).run Try.prog w = .ok (.slice (some ⟨g', 0, none⟩) (n + 1) cap') w' ∧
      OwnRo B w' (some ⟨g', 0, none⟩) (n + 1) cap' (rs ++ [q]) ∧ w.grownBy w' (Value.ownBlock (.slice ao n cap)) := by
  obtain ⟨i, hi, hz, hs, hby⟩ := info_parts info60
  have hblk := fun k hk => hown.block (k := k) hk
  obtain ⟨hn, cl, hrow, hC⟩ := hown
  obtain ⟨v', w', hrun, r1, r2, r3⟩ := run_append_own (P := Try.prog) w B 23 ty 60 i (.agg #[.slice none 0 0, .int .i64 0]) 2 32 Try.underlying23 hi hz hs hby rfl (by decide) (.slice ao n cap) n cl hrow ⟨g1, 0, none⟩ 1 cx [.slice qa q.1.length qc, .int .i64 q.2] rfl
    (fun j u hj => by
      rw [Addr.add_lit, Nat.zero_add, cell_of_row _ _ _ _ _ _ h1]
      rw [← hj]; simp)
    (by intro u hu; simp at hu; rcases hu with rfl | rfl <;> rfl) (by unfold maxLen; omega) (by omega) hB
  have hk : ∀ (k : Nat) (cur : Array Value), w.heap[k]? = some (.cells cur 3 (0, 0)) → w'.heap[k]? = w.heap[k]? := fun k cur e => r2.block k (Array.getElem?_eq_some_iff.1 e).1 fun h => by
    obtain ⟨_, cur2, h2⟩ := hblk k h.symm
    rw [h2] at e; simp at e
  have r1' := r1
  rcases r1 with ⟨hl, (⟨rfl, h0⟩ | ⟨g, c, cur, rfl, hge, hh, hr⟩)⟩
  · omega
  · refine ⟨g, c, w', hrun, ⟨by rw [List.length_append, hn]; rfl, cl ++ [.slice qa q.1.length qc, .int .i64 q.2], r1', ?_⟩, r2⟩
    have hC' := hC.keptIf hk
    have hq' := hq.keptIf hk
    have hcl := hC.1
    refine ⟨by rw [List.length_append, List.length_append, hcl]; simp; omega, fun j hj => ?_⟩
    rw [List.length_append, List.length_singleton] at hj
    by_cases hlt : j < rs.length
    · obtain ⟨a, cp, e1, e2, e3⟩ := hC'.2 j hlt
      rw [nthR_append_left hlt]
      exact ⟨a, cp, by rw [List.getElem?_append_left (by omega)]; exact e1, by rw [List.getElem?_append_left (by omega)]; exact e2, e3⟩
    · obtain rfl : j = rs.length := by omega
      rw [nthR_append_right (Nat.le_refl _), Nat.sub_self]
      refine ⟨qa, qc, ?_, ?_, hq'⟩
      · rw [List.getElem?_append_right (by omega), hcl, Nat.sub_self]; rfl
      · rw [List.getElem?_append_right (by omega), hcl, show rs.length * 2 + 1 - rs.length * 2 = 1 by omega]; rfl

end Go.Proofs.Ytkioejdddmnbmaa
