/- A region that draws its order, within a round of a range over a function: one walk of its operations serves, if they only read. -/
import Derived.Sort.QuietIn
import Derived.RangeFuncCalls
import Derived.Test.YtkioejdddmnbmaaRange
namespace Go.Proofs.Ytkioejdddmnbmaa
open Go.RowKit

section
variable {F : Fence} {n : Nat} {P : Program} {ops : Array Oper} {Q : Exit → Act → World → Prop} {md : Region.Mode}

theorem uponIn_round (l : Nat) {o : Oper} {a : Act} {K : Act → World → Prop} : ∀ r, o.uponIn F n P a K Q r → o.uponIn (F.inRound l) n P a K Q r
  | .ok x w', h => by cases x <;> simp only [Oper.uponIn] at h ⊢ <;> exact h
  | .halt x w', h => by cases x <;> simp only [Oper.uponIn] at h ⊢ <;> exact h

theorem operIn_round (_hro : F.round = none) (l : Nat) {o : Oper} (hd : ∀ c, o.op ≠ .defer c) {a : Act} {w : World} {K : Act → World → Prop} (h : o.wpIn F n P a w K Q) : o.wpIn (F.inRound l) n P a w K Q := by
  unfold Oper.wpIn at h ⊢
  rw [Oper.semAt_eq _ _ _ hd] at h ⊢
  exact ⟨h.1, uponIn_round l _ h.2⟩

theorem wpOpIn_round (hro : F.round = none) (l : Nat) (hd : ∀ (i : Nat) (o : Oper), ops[i]? = some o → ∀ c, o.op ≠ .defer c) {i : Nat} {a : Act} {w : World} {K : Act → World → Prop} (h : wpOpIn F n P ops Q i K a w) : wpOpIn (F.inRound l) n P ops Q i K a w := by
  unfold wpOpIn at *
  split
  · rename_i hn; simp only [hn] at h; exact h
  · rename_i o ho
    simp only [ho] at h
    split
    · rename_i hw; simp only [hw, if_true] at h; exact operIn_round hro l (hd i o ho) h
    · rename_i hw; simp only [hw] at h; exact h

theorem wpAnyIn_round (hro : F.round = none) (l : Nat) (hd : ∀ (i : Nat) (o : Oper), ops[i]? = some o → ∀ c, o.op ≠ .defer c) : ∀ (fuel : Nat) (listed : Array Bool) (a : Act) (w : World), wpAnyIn F n P md ops Q fuel listed a w → wpAnyIn (F.inRound l) n P md ops Q fuel listed a w
  | 0, _, _, _, h => h
  | fuel + 1, _, _, _, h => ⟨h.1, fun i hi => wpOpIn_round hro l hd (wpOpIn_mono (fun a w h => wpAnyIn_round hro l hd fuel _ a w h) (h.2 i hi))⟩

theorem wpIn_region_quiet_round {id : Nat} {a : Act} {w : World} {lst : List Oper} (l : Nat) (hro : F.round = none) (hm : P.follows .mixedOrders = true) (hB : Region.lexB .any lst.toArray = true)
    (hd : ∀ o ∈ lst, ∀ c, o.op ≠ .defer c)
    (h : wpQuietIn F n P lst.toArray (fun w' => ∃ n, w' = w.drewN n) (fun a' => ∀ w', (∃ n, w' = w.drewN n) → Q .normal a' w') lst a) : (Code.region id lst.toArray true).wpIn (F.inRound l) n P Q a w := by
  have hB' := hB
  simp only [Region.lexB, Bool.and_eq_true] at hB'
  refine wpIn_region_any hm (wpAnyIn_round hro l (fun i o ho => hd o (List.mem_of_getElem? (by simpa using ho))) _ _ _ _ (wpAnyIn_of_quiet (C := fun w' => ∃ n, w' = w.drewN n) (Q := fun a' => ∀ w', (∃ n, w' = w.drewN n) → Q .normal a' w') hro (fun _ w' hw' h => h w' hw') _ _ _ _ ⟨1, rfl⟩ ?_))
  have := wpAnyQIn_lex (F := F) (n := n) (C := fun w' => ∃ n, w' = w.drewN n) (md := .any) hB'.1 lst.toArray.toList 0 (Array.replicate lst.toArray.size false) a (by simp) (by simpa using hB'.2) (by simpa using h)
  simpa using this
end

end Go.Proofs.Ytkioejdddmnbmaa
