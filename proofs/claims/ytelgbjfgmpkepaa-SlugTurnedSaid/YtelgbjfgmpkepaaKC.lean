/- The law of ranges where the assignment of a round makes memory. The mix law (Ad) for any preorder of worlds in place of 'new blocks only': printed by mkmr.py. Walks: within, ContainsFunc, IndexFunc. The layer, plain: what is known of coppers, cases, weighings, results. Walk: CheckKnown. Lists of cases in memory. -/
import Derived.Test.YtelgbjfgmpkepaaKB
import Derived.Deep.RegionHeld3
import Derived.Deep.DeepCutAuto
import Derived.Deep.RegionLaw
import Derived.BigRegion
import Derived.Deep.RegionWith
import Derived.StillTailTactics
namespace Go.Proofs.Ytelgbjfgmpkepaa
open Go.RowKit Go.Shelf

theorem range_lawU {P : Program} {g : Operand} {ps : Array Tmp} {assign body : Code} {Q : Exit → Act → World → Prop} {a : Act} {w : World}
    {gf : Nat} {lb : Array Value} (hg : a.eval g = .func (.func gf) #[] lb) (eg : ∀ args w, (callFunc gf args).run P w = .ok (.enter gf args) w)
    {S Sx T : Nat → Prop} {X : Nat → Array Value → World → Prop} {L N : Nat} {Done : Nat → Prop} (hseq : GenT P gf lb S Sx T X L N Done w)
    (hS : ¬ S w.heap.size ∧ ¬ S (w.heap.size + 1)) (hSx : ¬ Sx w.heap.size ∧ ¬ Sx (w.heap.size + 1)) (hT : ¬ T w.heap.size ∧ ¬ T (w.heap.size + 1)) (hps : ∀ k v W, X k v W → v.size = ps.size)
    (hX : ∀ k v W W', X k v W → Only (fun b => b = w.heap.size + 1) W W' → X k v W')
    (I : Nat → World → Prop) (Ix : Code → Nat → World → Prop)
    (hI : ∀ k W W', I k W → Only (fun b => b = w.heap.size + 1) W W' → I k W')
    (hIx : ∀ c k W W', Ix c k W → Only (fun b => b = w.heap.size + 1) W W' → Ix c k W')
    (hIT : ∀ k W W', I k W → Only T W W' → I k W') (hIxT : ∀ c k W W', Ix c k W → Only T W W' → Ix c k W')
    (hN : ∀ k W, I k W → k ≤ N) (h0 : I 0 w) (A : Nat → Array Value → Act → World → Prop) (hA : ∀ k v a₁ W W', A k v a₁ W → Only (fun b => b = w.heap.size + 1) W W' → A k v a₁ W')
    (hassign : ∀ (l k : Nat) (v : Array Value) (W : World) (K : Act → World → Prop), w.heap.size + 1 < W.heap.size → I k W → X k v W → (∀ a₁ W1, Below W.heap.size W W1 → A k v a₁ W1 → K a₁ W1) →
      assign.wpIn (Fence.wide.inRound l) 0 P (Exit.then K (fun _ _ _ => False)) { tmps := (ps.zip v).foldl (fun t (p, v) => t.setIfInBounds p v) a.tmps, defers := [] } W)
    (hbody : ∀ (k : Nat) (v : Array Value) (a₁ : Act) (W : World), w.heap.size + 1 < W.heap.size → I k W → X k v W → A k v a₁ W → k < L → body.wpIn (Fence.wide.inRound (w.heap.size + 1)) 0 P (roundEndsX S Sx I Ix k W) a₁ W)
    (hdone : ∀ (k : Nat) (W : World), Done k → I k W → W.heap[w.heap.size]? = some (.deferred (some [])) → w.heap.size < W.heap.size →
      Q .normal { a with defers := { target := .collected w.heap.size, args := #[] } :: a.defers } W)
    (hstop : ∀ (c : Code) (k : Nat) (W : World), Ix c k W → W.heap[w.heap.size]? = some (.deferred (some [])) →
      c.wpIn Fence.wide 0 P Q { a with defers := { target := .collected w.heap.size, args := #[] } :: a.defers } W) :
    (Code.rangeFunc g ps assign body).wpIn Fence.wide 0 P Q a w := by
  refine wpIn_rangeFunc ?_
  intro fn hfn
  rw [show Fence.wide.round = none from rfl]
  obtain ⟨rec, hrec⟩ : ∃ rec : LoopState → Option Code → Loop, rec = fun st pe => { state := st, pending := pe, fn, tmps := a.tmps, params := ps, assign, body, defers := w.heap.size } := ⟨_, rfl⟩
  obtain ⟨W1, hW1⟩ : ∃ W1, (w.alloc (.deferred (some []))).alloc (.loop (rec .ready none)) = W1 := ⟨_, rfl⟩
  have hL1 : W1.heap[w.heap.size + 1]? = some (.loop (rec .ready none)) := by
    rw [← hW1]; have := World.alloc_heap_new (w.alloc (.deferred (some []))) (.loop (rec .ready none)); rwa [World.size_alloc] at this
  have hK1 : W1.heap[w.heap.size]? = some (.deferred (some [])) := by
    rw [← hW1]; exact (Below.heap_alloc _ _ _ (by simp)).trans (World.alloc_heap_new w _)
  have hb1 : Below w.heap.size w W1 := by
    rw [← hW1]; exact ((Below.refl _ w).alloc (Nat.le_refl _) _).alloc (by simp) _
  have hI1 : I 0 W1 := hI _ _ _ h0 (Only.of_below hb1)
  have keep : ∀ {A B : World} {i : Nat} {o : Obj}, Below A.heap.size A B → A.heap[i]? = some o → B.heap[i]? = some o := fun h ho =>
    (h.block _ (Array.getElem?_eq_some_iff.1 ho).1).trans ho
  refine ⟨w.heap.size + 1, [{ target := .collected w.heap.size, args := #[] }], W1, { target := .fn (.func gf) lb, args := #[.func (.yield (w.heap.size + 1)) #[] #[]] }, W1, gf,
    #[.func (.yield (w.heap.size + 1)) #[] #[]] ++ lb, W1, ?_, ?_, ?_, ?_, fun h => by simp [Fence.wide] at h, ?_⟩
  · rw [← hW1, hrec]; exact run_enterLoop_outer _ _ _ _ _
  · simp only [resolve, hg]
    simp [go_sem]
  · intro f' _; trivial
  · simp [invoke, go_sem, eg]
  · refine (hseq (w.heap.size + 1)
      (fun k W => I k W ∧ W.heap[w.heap.size + 1]? = some (.loop (rec .ready none)) ∧ W.heap[w.heap.size]? = some (.deferred (some [])))
      (fun k W => ∃ c, Ix c k W ∧ W.heap[w.heap.size + 1]? = some (.loop (rec .done (some c))) ∧ W.heap[w.heap.size]? = some (.deferred (some [])))
      W1 hb1 rfl (by rw [← hW1]; simp)
      (fun k A B hs hAB => ⟨hI _ _ _ hs.1 (Only.of_below hAB), keep hAB hs.2.1, keep hAB hs.2.2⟩)
      (fun k A B hs hAB => by
        obtain ⟨c, hc, hl, hk⟩ := hs
        exact ⟨c, hIx _ _ _ _ hc (Only.of_below hAB), keep hAB hl, keep hAB hk⟩)
      (fun k A B hs hAB => ⟨hIT _ _ _ hs.1 hAB, (hAB.block _ (Array.getElem?_eq_some_iff.1 hs.2.1).1 hT.2).trans hs.2.1, (hAB.block _ (Array.getElem?_eq_some_iff.1 hs.2.2).1 hT.1).trans hs.2.2⟩)
      (fun k A B hs hAB => by
        obtain ⟨c, hc, hl, hk⟩ := hs
        exact ⟨c, hIxT _ _ _ _ hc hAB, (hAB.block _ (Array.getElem?_eq_some_iff.1 hl).1 hT.2).trans hl, (hAB.block _ (Array.getElem?_eq_some_iff.1 hk).1 hT.1).trans hk⟩)
      (fun k W hs => hN _ _ hs.1)
      ?_ ⟨hI1, hL1, hK1⟩).mono ?_
    · rintro k v W0 ⟨hi0, hl0, hk0⟩ hx0 hlen
      have hy := run_yield (P := P) (args := v) hl0 (by rw [hrec]; exact hps _ _ _ hx0)
      rw [hrec] at hy
      refine ⟨fn, _, assign, body, hy, roundIn_of_wpIn hfn (hassign _ k v W0 _ (Array.getElem?_eq_some_iff.1 hl0).1 hi0 hx0 fun a₁ W hB1 hA1 => ?_)⟩
      have hl := keep hB1 hl0
      have hk := keep hB1 hk0
      have hi := hI _ _ _ hi0 (Only.of_below hB1)
      have hx := hX _ _ _ _ hx0 (Only.of_below hB1)
      have hlt : w.heap.size + 1 < W.heap.size := (Array.getElem?_eq_some_iff.1 hl).1
      refine ⟨_, run_beginRound hl (by rw [hrec]), ?_⟩
      have hl2 : (W.putObj (w.heap.size + 1) (.loop { rec .ready none with state := .busy })).heap[w.heap.size + 1]? = some (.loop { rec .ready none with state := .busy }) := World.putObj_heap_same hlt
      have hk2 : (W.putObj (w.heap.size + 1) (.loop { rec .ready none with state := .busy })).heap[w.heap.size]? = some (.deferred (some [])) := (World.putObj_heap_other (by omega)).trans hk
      have hw2 : Only (fun b => b = w.heap.size + 1) W (W.putObj (w.heap.size + 1) (.loop { rec .ready none with state := .busy })) := Only.put1 _ _ _
      refine wpIn_mono (hbody k v a₁ _ (by simp; omega) (hI _ _ _ hi hw2) (hX _ _ _ _ hx hw2) (hA _ _ _ _ _ hA1 hw2) hlen) ?_
      have fin : ∀ (Sy : Nat → Prop), (¬ Sy w.heap.size ∧ ¬ Sy (w.heap.size + 1)) → ∀ (jump : Option Code) (W3 : World), Only Sy (W.putObj (w.heap.size + 1) (.loop { rec .ready none with state := .busy })) W3 →
          (Instr.endRound (w.heap.size + 1) jump).run P W3 = .ok (.bool jump.isNone) (W3.putObj (w.heap.size + 1) (.loop (rec (if jump.isNone then .ready else .done) jump))) ∧
          (W3.putObj (w.heap.size + 1) (.loop (rec (if jump.isNone then .ready else .done) jump))).heap[w.heap.size + 1]? = some (.loop (rec (if jump.isNone then .ready else .done) jump)) ∧
          (W3.putObj (w.heap.size + 1) (.loop (rec (if jump.isNone then .ready else .done) jump))).heap[w.heap.size]? = some (.deferred (some [])) ∧
          Only (fun b => b = w.heap.size + 1) W3 (W3.putObj (w.heap.size + 1) (.loop (rec (if jump.isNone then .ready else .done) jump))) := fun Sy hSy jump W3 hk3 => by
        have hl3 := (hk3.block _ (by simp; omega) hSy.2).trans hl2
        have := run_endRound (P := P) jump hl3
        rw [hrec] at this ⊢
        exact ⟨this, World.putObj_heap_same (Array.getElem?_eq_some_iff.1 hl3).1, (World.putObj_heap_other (by omega)).trans ((hk3.block _ (by simp; omega) hSy.1).trans hk2), Only.put1 _ _ _⟩
      rintro e a3 W3 hp
      cases e with
      | normal =>
        obtain ⟨hk3, hi3⟩ := hp
        obtain ⟨hr, hl4, hk4, ho⟩ := fin S hS none W3 hk3
        exact ⟨_, _, hr, .inl ⟨rfl, ⟨hI _ _ _ hi3 ho, hl4, hk4⟩, (Only.of_below hB1).trans (((hw2.mono (fun _ h => .inr h)).trans (hk3.mono (fun _ h => .inl h))).trans (ho.mono (fun _ h => .inr h)))⟩⟩
      | ret =>
        obtain ⟨hk3, hi3⟩ := hp
        obtain ⟨hr, hl4, hk4, ho⟩ := fin Sx hSx (some .ret) W3 hk3
        exact ⟨_, _, hr, .inr ⟨rfl, ⟨.ret, hIx _ _ _ _ hi3 ho, hl4, hk4⟩, (Only.of_below hB1).trans (((hw2.mono (fun _ h => .inr h)).trans (hk3.mono (fun _ h => .inl h))).trans (ho.mono (fun _ h => .inr h)))⟩⟩
      | exit id =>
        obtain ⟨hk3, hi3⟩ := hp
        obtain ⟨hr, hl4, hk4, ho⟩ := fin Sx hSx (some (.exit id)) W3 hk3
        exact ⟨_, _, hr, .inr ⟨rfl, ⟨.exit id, hIx _ _ _ _ hi3 ho, hl4, hk4⟩, (Only.of_below hB1).trans (((hw2.mono (fun _ h => .inr h)).trans (hk3.mono (fun _ h => .inl h))).trans (ho.mono (fun _ h => .inr h)))⟩⟩
      | goto t => exact hp.elim
      | panic ch => exact hp.elim
      | outgrown => exact hp.elim
    · rintro e W2 ⟨⟨v, rfl⟩, (⟨k, hS, hi, hl, hk⟩ | ⟨k, c, hi, hl, hk⟩)⟩
      · exact ⟨none, _, by have := run_endLoop (P := P) hl (by rw [hrec]; simp); rw [hrec] at this; exact this, hdone k _ hS (hI _ _ _ hi (Only.put1 _ _ _)) ((World.putObj_heap_other (by omega)).trans hk) (by simp; exact (Array.getElem?_eq_some_iff.1 hk).1)⟩
      · exact ⟨some c, _, by have := run_endLoop (P := P) hl (by rw [hrec]; simp); rw [hrec] at this; exact this, hstop c k _ (hIx _ _ _ _ hi (Only.put1 _ _ _)) ((World.putObj_heap_other (by omega)).trans hk)⟩

/-- what the assignment lays is told of the frame ahead -/
theorem range_lawU' {P : Program} {g : Operand} {ps : Array Tmp} {assign body : Code} {Q : Exit → Act → World → Prop} {a : Act} {w : World}
    {gf : Nat} {lb : Array Value} (hg : a.eval g = .func (.func gf) #[] lb) (eg : ∀ args w, (callFunc gf args).run P w = .ok (.enter gf args) w)
    {S Sx T : Nat → Prop} {X : Nat → Array Value → World → Prop} {L N : Nat} {Done : Nat → Prop} (hseq : GenT P gf lb S Sx T X L N Done w)
    (hS : ¬ S w.heap.size ∧ ¬ S (w.heap.size + 1)) (hSx : ¬ Sx w.heap.size ∧ ¬ Sx (w.heap.size + 1)) (hT : ¬ T w.heap.size ∧ ¬ T (w.heap.size + 1)) (hps : ∀ k v W, X k v W → v.size = ps.size)
    (hX : ∀ k v W W', X k v W → Only (fun b => b = w.heap.size + 1) W W' → X k v W')
    (I : Nat → World → Prop) (Ix : Code → Nat → World → Prop)
    (hI : ∀ k W W', I k W → Only (fun b => b = w.heap.size + 1) W W' → I k W')
    (hIx : ∀ c k W W', Ix c k W → Only (fun b => b = w.heap.size + 1) W W' → Ix c k W')
    (hIT : ∀ k W W', I k W → Only T W W' → I k W') (hIxT : ∀ c k W W', Ix c k W → Only T W W' → Ix c k W')
    (hN : ∀ k W, I k W → k ≤ N) (h0 : I 0 w) (A : Array Value → Nat → Array Value → Act → World → Prop) (hA : ∀ t k v a₁ W W', A t k v a₁ W → Only (fun b => b = w.heap.size + 1) W W' → A t k v a₁ W')
    (hassign : ∀ (l k : Nat) (v : Array Value) (W : World) (K : Act → World → Prop), w.heap.size + 1 < W.heap.size → I k W → X k v W → (∀ a₁ W1, Below W.heap.size W W1 → A a.tmps k v a₁ W1 → K a₁ W1) →
      assign.wpIn (Fence.wide.inRound l) 0 P (Exit.then K (fun _ _ _ => False)) { tmps := (ps.zip v).foldl (fun t (p, v) => t.setIfInBounds p v) a.tmps, defers := [] } W)
    (hbody : ∀ (k : Nat) (v : Array Value) (a₁ : Act) (W : World), w.heap.size + 1 < W.heap.size → I k W → X k v W → A a.tmps k v a₁ W → k < L → body.wpIn (Fence.wide.inRound (w.heap.size + 1)) 0 P (roundEndsX S Sx I Ix k W) a₁ W)
    (hdone : ∀ (k : Nat) (W : World), Done k → I k W → W.heap[w.heap.size]? = some (.deferred (some [])) → w.heap.size < W.heap.size →
      Q .normal { a with defers := { target := .collected w.heap.size, args := #[] } :: a.defers } W)
    (hstop : ∀ (c : Code) (k : Nat) (W : World), Ix c k W → W.heap[w.heap.size]? = some (.deferred (some [])) →
      c.wpIn Fence.wide 0 P Q { a with defers := { target := .collected w.heap.size, args := #[] } :: a.defers } W) :
    (Code.rangeFunc g ps assign body).wpIn Fence.wide 0 P Q a w :=
  range_lawU hg eg hseq hS hSx hT hps hX I Ix hI hIx hIT hIxT hN h0 (A a.tmps) (hA a.tmps) hassign hbody hdone hstop

end Go.Proofs.Ytelgbjfgmpkepaa

namespace Go.Proofs.Ytelgbjfgmpkepaa
open Go.RowKit Go.Shelf

/-- a preorder of worlds that a draw abides and that never shrinks -/
structure Pre (ρ : World → World → Prop) : Prop where
  refl : ∀ A, ρ A A
  trans : ∀ {A B C}, ρ A B → ρ B C → ρ A C
  drew : ∀ A, ρ A A.drew
  size : ∀ {A B}, ρ A B → A.heap.size ≤ B.heap.size
structure LaterR (ρ : World → World → Prop) (w : World) (J : World → Prop) where
  w' : World
  h : ρ w w'
  j : J w'
def AbidesR (ρ : World → World → Prop) (J : World → Prop) : Prop := ∀ A B, J A → ρ A B → J B

structure MixInvR (ρ : World → World → Prop) (n : Nat) (nz : List (Nat × Tmp)) (dp : Nat → List Nat) (l : List Oper) (Φ : Nat → List Value → Value → World → World → Prop) (w : World) (G : Act) (listed : Array Bool) (a : Act) (s : World) (r : Nat → Value) (p q : Nat → World) : Prop where
  head : HeadInv .any l.toArray n listed
  defers : a.defers = G.defers
  size : a.tmps.size = G.tmps.size
  slot : ∀ t, (∀ j, j < n → t ∈ dstOf l j → listed.getD j true = true ∧ isNz nz j = false) → a.tmps[t]? = G.tmps[t]?
  noisy : ∀ i, isNz nz i = true → listed.getD i true = true → ∀ d ∈ dstOf l i, a.tmps[d]? = some (r i)
  later : ρ w s
  made : ∀ i, isNz nz i = true → listed.getD i true = true → Φ i (dpv dp r i) (r i) (p i) (q i) ∧ ρ (q i) s ∧ ρ w (p i)
  apart : ∀ i i', isNz nz i = true → isNz nz i' = true → listed.getD i true = true → listed.getD i' true = true → i ≠ i' → (q i).heap.size ≤ (p i').heap.size ∨ (q i').heap.size ≤ (p i).heap.size

section

variable {P : Program} {C : World → Prop}
section
variable {ρ : World → World → Prop} (hρ : Pre ρ)
section
variable {n : Nat} {nz : List (Nat × Tmp)} {dp : Nat → List Nat} {bs : List Bool} {l : List Oper} {Φ : Nat → List Value → Value → World → World → Prop} {w : World} {G : Act} {listed : Array Bool} {a : Act} {s : World} {r : Nat → Value} {p q : Nat → World}
include hρ
theorem MixInvR.quiet (ok : MixOk n nz dp bs l) (inv : MixInvR ρ n nz dp l Φ w G listed a s r p q) {i : Nat} (hi : i ∈ Region.ready .any l.toArray listed) (hin : i < n) (hz : isNz nz i = false) {o : Oper} (ho : l[i]? = some o) {v : Value} (hG : G.put o.dst v = G)
    {s' : World} (hs : ρ s s') : MixInvR ρ n nz dp l Φ w G (listed.setIfInBounds i true) (a.put o.dst v) s' r p q := by
  have hlis : ∀ j, isNz nz j = true → (listed.setIfInBounds i true).getD j true = true → listed.getD j true = true := fun j hj h => by
    rwa [getD_set_ne true (fun e => by rw [e] at hz; rw [hz] at hj; cases hj)] at h
  refine ⟨inv.head.set hi hin, by rw [put_defers]; exact inv.defers, by rw [put_size]; exact inv.size, fun t ht => ?_, fun j hj hl d hd => ?_, hρ.trans inv.later hs, fun j hj hl => ?_, fun j j' hj hj' hl hl' hne => inv.apart j j' hj hj' (hlis j hj hl) (hlis j' hj' hl') hne⟩
  · by_cases hd : o.dst = some t
    · have e1 : (a.put o.dst v).tmps[t]? = (G.put o.dst v).tmps[t]? := by
        rw [hd]; simp only [Act.put, Array.getElem?_setIfInBounds_self]; rw [inv.size]
      rw [e1, hG]
    · rw [put_get hd]
      refine inv.slot t fun j hj htj => ?_
      have h := ht j hj htj
      by_cases e : i = j
      · subst e
        obtain ⟨o', ho', hd'⟩ := of_dst htj
        rw [ho] at ho'; cases ho'
        exact absurd hd' hd
      · rw [getD_set_ne true e] at h; exact h
  · have hne : i ≠ j := fun e => by rw [e] at hz; rw [hz] at hj; cases hj
    rw [put_get fun e => ok.dst i hin j (ok.nz_lt hj) (fun e => hne e.symm) d hd (dst_of ho e)]
    exact inv.noisy j hj (hlis j hj hl) d hd
  · obtain ⟨h1, h2, h3⟩ := inv.made j hj (hlis j hj hl)
    exact ⟨h1, hρ.trans h2 hs, h3⟩

theorem MixInvR.made1 (ok : MixOk n nz dp bs l) (inv : MixInvR ρ n nz dp l Φ w G listed a s r p q) {i : Nat} (hi : i ∈ Region.ready .any l.toArray listed) {x : Nat × Tmp} (hx : x ∈ nz) (hxi : x.1 = i) {o : Oper} (ho : l[i]? = some o) {v : Value}
    {s' : World} (hs : ρ s s') (hsz : x.2 < G.tmps.size) (hΦ : Φ i (dpv dp r i) v s s') :
    MixInvR ρ n nz dp l Φ w G (listed.setIfInBounds i true) (a.put o.dst v) s' (fun k => if k = i then v else r k) (fun k => if k = i then s else p k) (fun k => if k = i then s' else q k) := by
  obtain ⟨hin, hdi, hgi, hdw⟩ := ok.nzok x hx
  rw [hxi] at hin hdi hgi hdw
  have hun := (mem_ready.1 hi).1
  have hod : o.dst = some x.2 := by
    obtain ⟨o', ho', hd'⟩ := of_dst (show x.2 ∈ dstOf l i by rw [hdi]; simp)
    rw [ho] at ho'; cases ho'; exact hd'
  have hiz : isNz nz i = true := isNz_iff.2 ⟨x, hx, hxi⟩
  have hlis : ∀ j, j ≠ i → (listed.setIfInBounds i true).getD j true = true → listed.getD j true = true := fun j hj h => by rwa [getD_set_ne true (fun e => hj e.symm)] at h
  -- what leans on i is not listed
  have hdep : ∀ j, isNz nz j = true → listed.getD j true = true → i ∉ dp j := fun j hj hl hd => by
    obtain ⟨y, hy, rfl⟩ := isNz_iff.1 hj
    obtain ⟨h1, _, _, h5⟩ := ok.nzok y hy
    obtain ⟨oj, hoj, e2, he, hb, hon⟩ := Region.waitsFor_spec (h5 i hd).2
    have hls : y.1 < listed.size := by rw [inv.head.size]; have := ok.nlt; simp; omega
    have := inv.head.closed y.1 oj hoj (getD_false_of hls hl) e2 he hb
    rw [hon] at this
    rw [getD_true this] at hun; cases hun
  have hself : i ∉ dp i := fun hd => by
    obtain ⟨oj, hoj, e2, he, hb, hon⟩ := Region.waitsFor_spec (hdw i hd).2
    obtain ⟨_, o', ho', hafter⟩ := mem_ready.1 hi
    rw [hoj] at ho'; cases ho'
    have := hafter e2 he hb
    rw [hon] at this
    rw [getD_true this] at hun; cases hun
  refine ⟨inv.head.set hi hin, by rw [put_defers]; exact inv.defers, by rw [put_size]; exact inv.size, fun t ht => ?_, fun j hj hl d hd => ?_, hρ.trans inv.later hs, fun j hj hl => ?_, fun j j' hj hj' hl hl' hne => ?_⟩
  · have htx : x.2 ≠ t := fun e => by
      have := (ht i hin (by rw [hdi, e]; simp)).2
      rw [hiz] at this; cases this
    rw [hod, put_get fun e => htx (Option.some.inj e)]
    refine inv.slot t fun j hj htj => ?_
    have h := ht j hj htj
    by_cases e : i = j
    · subst e; rw [hiz] at h; cases h.2
    · rw [getD_set_ne true e] at h; exact h
  · by_cases e : j = i
    · subst e
      rw [hdi] at hd
      obtain rfl := List.mem_singleton.1 hd
      rw [hod]
      simp [Act.put, inv.size, hsz]
    · rw [put_get fun e2 => ok.dst i hin j (ok.nz_lt hj) e d hd (dst_of ho e2), if_neg e]
      exact inv.noisy j hj (hlis j e hl) d hd
  · by_cases e : j = i
    · subst e
      have e1 : dpv dp (fun k => if k = j then v else r k) j = dpv dp r j := by
        unfold dpv
        exact List.map_congr_left fun d hd => if_neg fun e => hself (by rw [e] at hd; exact hd)
      rw [e1]
      simp only [if_true]
      exact ⟨hΦ, hρ.refl _, inv.later⟩
    · have hl0 := hlis j e hl
      obtain ⟨h1, h2, h3⟩ := inv.made j hj hl0
      have e1 : dpv dp (fun k => if k = i then v else r k) j = dpv dp r j := by
        unfold dpv
        exact List.map_congr_left fun d hd => if_neg fun e2 => hdep j hj hl0 (by rw [e2] at hd; exact hd)
      rw [e1, if_neg e, if_neg e, if_neg e]
      exact ⟨h1, hρ.trans h2 hs, h3⟩
  · by_cases e : j = i
    · subst e
      have e2 : j' ≠ j := fun h => hne h.symm
      rw [if_pos rfl, if_pos rfl, if_neg e2, if_neg e2]
      exact .inr (hρ.size (inv.made j' hj' (hlis j' e2 hl')).2.1)
    · by_cases e2 : j' = i
      · subst e2
        rw [if_pos rfl, if_pos rfl, if_neg e, if_neg e]
        exact .inl (hρ.size (inv.made j hj (hlis j e hl)).2.1)
      · rw [if_neg e, if_neg e, if_neg e2, if_neg e2]
        exact inv.apart j j' hj hj' (hlis j e hl) (hlis j' e2 hl') hne
end
include hρ
theorem mix_anyR {n : Nat} {nz : List (Nat × Tmp)} {dp : Nat → List Nat} {bs : List Bool} {l : List Oper} {Φ : Nat → List Value → Value → World → World → Prop} {w : World} {G : Act} {Q : Exit → Act → World → Prop} (ok : MixOk n nz dp bs l)
    (hQ : ∀ (J : World → Prop), AbidesR ρ J → Nonempty (LaterR ρ w J) → ∀ (j : Nat) (o : Oper), (blindL bs l)[j]? = some o → AtEnd P (blindL bs l).toArray (fun w' => ∃ s : LaterR ρ w J, w' = s.w') G o)
    (hN : ∀ i, isNz nz i = true → ∀ o, l[i]? = some o → ∀ (r : Nat → Value) (s : World), ρ w s → (∀ d ∈ dp i, ∃ p q, Φ d (dpv dp r d) (r d) p q ∧ ρ q s) →
      makesOp P o (putN nz r G) s fun v s' => ρ s s' ∧ Φ i (dpv dp r i) v s s')
    (hT : ∀ (r : Nat → Value) (p q : Nat → World) (s : World), ρ w s → (∀ i, isNz nz i = true → Φ i (dpv dp r i) (r i) (p i) (q i) ∧ ρ (q i) s ∧ ρ w (p i)) →
      (∀ i i', isNz nz i = true → isNz nz i' = true → i ≠ i' → (q i).heap.size ≤ (p i').heap.size ∨ (q i').heap.size ≤ (p i).heap.size) → wpListIn Fence.wide 0 P l.toArray Q (l.drop n) (putN nz r G) s)
    (hsz : ∀ x ∈ nz, x.2 < G.tmps.size) :
    ∀ (h : Nat) (listed : Array Bool) (a : Act) (s : World) (r : Nat → Value) (p q : Nat → World), unl n listed ≤ h → MixInvR ρ n nz dp l Φ w G listed a s r p q → wpAnyIn Fence.wide 0 P .any l.toArray Q ((l.length - n) + h) listed a s := by
  have hnl := ok.nlt
  -- the head is done
  have fin : ∀ (h : Nat) (listed : Array Bool) (a : Act) (s : World) (r : Nat → Value) (p q : Nat → World), (∀ j, j < n → listed.getD j true = true) → MixInvR ρ n nz dp l Φ w G listed a s r p q → wpAnyIn Fence.wide 0 P .any l.toArray Q ((l.length - n) + h) listed a s := by
    intro h listed a s r p q hall inv
    have ha : a = putN nz r G := by
      obtain ⟨e1, e2⟩ := putN_size nz r G
      have e3 : a.tmps = (putN nz r G).tmps := by
        apply Array.ext_getElem?
        intro t
        by_cases hx : ∃ x ∈ nz, x.2 = t
        · obtain ⟨x, hx, rfl⟩ := hx
          rw [putN_at (i := x.1) (fun y hy e => ok.one hy hx e) ⟨x, hx, rfl⟩ G (hsz x hx)]
          obtain ⟨h1, h2, _⟩ := ok.nzok x hx
          exact inv.noisy x.1 (isNz_iff.2 ⟨x, hx, rfl⟩) (hall x.1 h1) x.2 (by rw [h2]; simp)
        · rw [putN_other (fun y hy e => hx ⟨y, hy, e⟩)]
          exact inv.slot t fun j hj htj => ⟨hall j hj, ok.not_nz htj fun y hy e => hx ⟨y, hy, e⟩⟩
      have e4 := inv.defers
      rw [← e2] at e4
      cases a; cases hP : putN nz r G; rw [hP] at e3 e4; cases e3; cases e4; rfl
    have hl : listed = doneL n l.length := by
      have hs : listed.size = l.length := by rw [inv.head.size]; simp
      apply Array.ext (by rw [hs]; simp [doneL])
      intro j hj hj2
      have e : (doneL n l.length)[j] = decide (j < n) := by simp [doneL]
      rw [e]
      by_cases hjn : j < n
      · have := hall j hjn
        simp [hj] at this
        rw [this]; simp [hjn]
      · have := inv.head.tail j (by omega) (by simp; omega)
        simp [hj] at this
        rw [this]; simp [hjn]
    have hm : ∀ i, isNz nz i = true → listed.getD i true = true := fun i hi => hall i (ok.nz_lt hi)
    have hw := hT r p q s inv.later (fun i hi => inv.made i hi (hm i hi)) fun i i' hi hi' hne => inv.apart i i' hi hi' (hm i hi) (hm i' hi') hne
    rw [← ha] at hw
    have hd : (l.drop n).length = l.length - n := by simp
    rw [← hd]
    exact wpAnyIn_of_seq h (l.drop n) n listed a s (fun j => by simp [List.getElem?_drop]) (by rw [hd, hl]; exact ok.seq) hw
  intro h
  induction h with
  | zero =>
    intro listed a s r p q hu inv
    refine fin 0 listed a s r p q (fun j hj => ?_) inv
    cases hj2 : listed.getD j true with
    | true => rfl
    | false =>
      have : j ∈ (List.range n).filter fun j => !listed.getD j true := List.mem_filter.2 ⟨List.mem_range.2 hj, by rw [hj2]; rfl⟩
      have h0 : ((List.range n).filter fun j => !listed.getD j true).length = 0 := Nat.le_zero.1 hu
      rw [List.eq_nil_of_length_eq_zero h0] at this
      cases this
  | succ h ih =>
    intro listed a s r p q hu inv
    by_cases hall : ∀ j, j < n → listed.getD j true = true
    · exact fin (h + 1) listed a s r p q hall inv
    -- the first that is to come
    have hex : ∃ k, k < n ∧ listed.getD k true = false ∧ ∀ j, j < k → listed.getD j true = true := by
      have : ∀ m, (∀ j, j < m → listed.getD j true = true) ∨ ∃ k, k < m ∧ listed.getD k true = false ∧ ∀ j, j < k → listed.getD j true = true := by
        intro m
        induction m with
        | zero => exact .inl fun j hj => by omega
        | succ m ihm =>
          rcases ihm with h | ⟨k, h1, h2, h3⟩
          · cases hm : listed.getD m true with
            | true =>
              refine .inl fun j hj => ?_
              rcases Nat.lt_or_eq_of_le (Nat.lt_succ_iff.1 hj) with h1 | rfl
              · exact h j h1
              · exact hm
            | false => exact .inr ⟨m, by omega, hm, h⟩
          · exact .inr ⟨k, by omega, h2, h3⟩
      exact (this n).resolve_left hall
    obtain ⟨k, hkn, hku, hkl⟩ := hex
    have hsz2 : listed.size = l.length := by rw [inv.head.size]; simp
    have hkr : k ∈ Region.ready .any l.toArray listed := by
      have hk0 : l[k]? = some (l[k]'(by omega)) := by simp
      refine mem_ready.2 ⟨hku, l[k]'(by omega), (by rw [List.getElem?_toArray]; exact hk0), fun e he hb => ?_⟩
      have := ok.back k hkn _ hk0 e he hb
      exact getD_false_of (by omega) (hkl _ this)
    rw [show (l.length - n) + (h + 1) = ((l.length - n) + h) + 1 by omega]
    refine ⟨(fun h0 => by rw [h0] at hkr; cases hkr), fun i hi => ?_⟩
    have hin : i < n := by
      rcases Nat.lt_or_ge i n with h1 | h1
      · exact h1
      · exact absurd hi (tail_waits ok.sink ok.chain (by simpa using hnl) inv.head _ k rfl hkn hku i h1)
    obtain ⟨hiu, o, hoA, hafter⟩ := mem_ready.1 hi
    have ho : l[i]? = some o := by simpa using hoA
    have hul : unl n (listed.setIfInBounds i true) ≤ h := by have := unl_set (n := n) hin (by omega) hiu; omega
    -- what it looks at is there
    have hlk : ∀ j, j < n → ∀ d ∈ dstOf l j, d ∈ o.looksAt l.toArray → listed.getD j true = true ∧ (isNz nz j = true → isNz nz i = true ∧ j ∈ dp i) := fun j hj d hd hdo => by
      obtain ⟨_, h2, h3⟩ := ok.look i hin j hj d hd (by unfold lookOf; rw [ho]; exact hdo)
      obtain ⟨o', ho', e, he, hb, hon⟩ := Region.waitsFor_spec h2
      rw [hoA] at ho'; cases ho'
      have := hafter e he hb
      rw [hon] at this
      exact ⟨getD_true this, h3⟩
    have hsel := Region.noSelect_spec ok.sel i o
    unfold wpOpIn
    simp only [hoA]
    cases hz : isNz nz i with
    | false =>
      have hsame : ∀ d ∈ o.looksAt l.toArray, a.tmps[d]? = G.tmps[d]? := fun d hd => inv.slot d fun j hj hdj => by
        obtain ⟨h1, h2⟩ := hlk j hj d hdj hd
        refine ⟨h1, ?_⟩
        cases hjz : isNz nz j with
        | false => rfl
        | true => have := (h2 hjz).1; rw [hz] at this; cases this
      have hE := hQ (fun B => ρ s B) (fun A B hA hB => hρ.trans hA hB) ⟨⟨s, inv.later, hρ.refl _⟩⟩ i o (by rw [ok.quiet i hin hz]; exact ho)
      unfold AtEnd at hE
      have hwe := wanted_same (o := o) (ops := l.toArray) (ops' := (blindL bs l).toArray) hsame (fun g b hg => by
        obtain ⟨h1, h2⟩ := ok.guard i hin hz o ho g b hg
        simp only [List.getElem?_toArray]
        rw [ok.quiet g h1 h2])
      rw [← hwe] at hE
      by_cases hw : Region.wanted o (yielded l.toArray a.tmps) = true
      · rw [if_pos hw] at hE ⊢
        obtain ⟨v, hv, hG⟩ := hE
        have hq := hv s ⟨⟨s, inv.later, hρ.refl _⟩, rfl⟩
        unfold Oper.quietAtIn at hq
        rw [← execOp_congr o (fun cs b => hsel cs b hoA) (eval_same hsame)] at hq
        unfold Oper.wpIn
        refine ⟨fun _ _ => trivial, ?_⟩
        rw [show Fence.wide.round = none from rfl, Oper.semAt_none]
        generalize (execOp a.eval o).run P s = res at *
        cases res with
        | ok x w' =>
          cases x <;> simp only [Oper.quietUponIn] at hq <;> simp only [Oper.uponIn]
          case value u =>
            obtain ⟨e1, e2⟩ := hq
            rw [e1, e2]
            exact ih _ _ _ _ _ _ hul (inv.quiet hρ ok hi hin hz ho hG (hρ.refl _))
          case skip =>
            obtain ⟨e1, e2⟩ := hq
            rw [e1, ← e2]
            exact ih _ _ _ _ _ _ hul (inv.quiet hρ ok hi hin hz ho hG (hρ.refl _))
          case enter f args =>
            obtain ⟨e1, _, hc⟩ := hq
            rw [e1]
            refine ⟨fun h => by simp [Fence.wide] at h, hc.mono fun e w'' ⟨he, s', hs'⟩ => ?_⟩
            subst he
            rw [hs']
            exact ih _ _ _ _ _ _ hul (inv.quiet hρ ok hi hin hz ho hG s'.j)
        | halt x w' => simp only [Oper.quietUponIn] at hq
      · rw [if_neg hw] at hE ⊢
        exact ⟨fun _ _ => trivial, ih _ _ _ _ _ _ hul (inv.quiet hρ ok hi hin hz ho hE (hρ.refl _))⟩
    | true =>
      obtain ⟨x, hx, hxi⟩ := isNz_iff.1 hz
      obtain ⟨_, hdi, hgi, hdw⟩ := ok.nzok x hx
      rw [hxi] at hdi hgi hdw
      have hw : Region.wanted o (yielded l.toArray a.tmps) = true := by simp [Region.wanted, hgi o ho]
      rw [if_pos hw]
      have hsame : ∀ d ∈ o.looksAt l.toArray, a.tmps[d]? = (putN nz r G).tmps[d]? := fun d hd => by
        by_cases hy : ∃ y ∈ nz, y.2 = d
        · obtain ⟨y, hy, rfl⟩ := hy
          obtain ⟨h1, h2, _⟩ := ok.nzok y hy
          rw [putN_at (i := y.1) (fun z hz e => ok.one hz hy e) ⟨y, hy, rfl⟩ G (hsz y hy)]
          obtain ⟨h3, _⟩ := hlk y.1 h1 y.2 (by rw [h2]; simp) hd
          exact inv.noisy y.1 (isNz_iff.2 ⟨y, hy, rfl⟩) h3 y.2 (by rw [h2]; simp)
        · rw [putN_other (fun y hy2 e => hy ⟨y, hy2, e⟩)]
          exact inv.slot d fun j hj hdj => ⟨(hlk j hj d hdj hd).1, ok.not_nz hdj fun y hy2 e => hy ⟨y, hy2, e⟩⟩
      have hm := hN i hz o ho r s inv.later fun d hd => by
        have hl : listed.getD d true = true := by
          obtain ⟨o', ho', e, he, hb, hon⟩ := Region.waitsFor_spec (hdw d hd).2
          rw [hoA] at ho'; cases ho'
          have := hafter e he hb
          rw [hon] at this
          exact getD_true this
        obtain ⟨h1, h2, _⟩ := inv.made d (hdw d hd).1 hl
        exact ⟨_, _, h1, h2⟩
      unfold makesOp at hm
      rw [← execOp_congr o (fun cs b => hsel cs b hoA) (eval_same hsame)] at hm
      unfold Oper.wpIn
      refine ⟨fun _ _ => trivial, ?_⟩
      rw [show Fence.wide.round = none from rfl, Oper.semAt_none]
      generalize (execOp a.eval o).run P s = res at *
      cases res with
      | ok y w' =>
        cases y <;> simp only at hm <;> simp only [Oper.uponIn]
        case value u => exact ih _ _ _ _ _ _ hul (inv.made1 hρ ok hi hx hxi ho hm.1 (hsz x hx) hm.2)
        case enter f args =>
          refine ⟨fun h => by simp [Fence.wide] at h, callsIn_wide.2 (hm.mono fun e w'' ⟨v, he, h1, h2⟩ => ?_)⟩
          subst he
          exact ih _ _ _ _ _ _ hul (inv.made1 hρ ok hi hx hxi ho h1 (hsz x hx) h2)
      | halt y w' => exact hm.elim

end
def MixAskR (ρ : World → World → Prop) (P : Program) (n : Nat) (nz : List (Nat × Tmp)) (dp : Nat → List Nat) (l : List Oper) (Φ : Nat → List Value → Value → World → World → Prop) (w : World) (Q : Exit → Act → World → Prop) (G : Act) : Prop :=
  (∀ i, isNz nz i = true → ∀ o, l[i]? = some o → ∀ (r : Nat → Value) (s : World), ρ w s → (∀ d ∈ dp i, ∃ p q, Φ d (dpv dp r d) (r d) p q ∧ ρ q s) →
      makesOp P o (putN nz r G) s fun v s' => ρ s s' ∧ Φ i (dpv dp r i) v s s') ∧
  (∀ (r : Nat → Value) (p q : Nat → World) (s : World), ρ w s → (∀ i, isNz nz i = true → Φ i (dpv dp r i) (r i) (p i) (q i) ∧ ρ (q i) s ∧ ρ w (p i)) →
      (∀ i i', isNz nz i = true → isNz nz i' = true → i ≠ i' → (q i).heap.size ≤ (p i').heap.size ∨ (q i').heap.size ≤ (p i).heap.size) → wpListIn Fence.wide 0 P l.toArray Q (l.drop n) (putN nz r G) s)

section
variable {ρ : World → World → Prop} (hρ : Pre ρ)
include hρ
theorem mix_startR {n : Nat} {nz : List (Nat × Tmp)} {dp : Nat → List Nat} {bs : List Bool} {l : List Oper} {Φ : Nat → List Value → Value → World → World → Prop} {w : World} {Q : Exit → Act → World → Prop} {a : Act} (hB : mixB n nz dp bs l = true) (hsz : ∀ x ∈ nz, x.2 < a.tmps.size)
    (h : wpQuietIn Fence.wide 0 P (blindL bs l).toArray (fun w' => ∃ s : LaterR ρ w (fun _ => True), w' = s.w') (fun G =>
      (∀ J : World → Prop, AbidesR ρ J → Nonempty (LaterR ρ w J) → wpQuietIn Fence.wide 0 P (blindL bs l).toArray (fun w' => ∃ s : LaterR ρ w J, w' = s.w') (fun g => g = G) (blindL bs l) a) ∧ MixAskR ρ P n nz dp l Φ w Q G) (blindL bs l) a) :
    wpAnyIn Fence.wide 0 P .any l.toArray Q l.length (Array.replicate l.length false) a w.drew := by
  have ok := mixOk_of hB
  obtain ⟨G, hJ, hN, hT⟩ := quiet_ends _ _ h
  have hsel' := Region.noSelect_spec ok.sel'
  have hE : ∀ J : World → Prop, AbidesR ρ J → Nonempty (LaterR ρ w J) → _ := fun J hA hne => lex_end ok.lex hsel' (blindL bs l) 0 a (fun j => by rw [Nat.zero_add]) (hJ J hA hne)
  obtain ⟨⟨e1, e2, e3⟩, _⟩ := hE (fun _ => True) (fun _ _ _ _ => trivial) ⟨⟨w, hρ.refl _, trivial⟩⟩
  have hnl := ok.nlt
  have hun : ∀ j, j < l.length → (Array.replicate l.length false).getD j true = false := fun j hj => by simp [hj]
  have inv0 : MixInvR ρ n nz dp l Φ w G (Array.replicate l.length false) a w.drew (fun _ => undef) (fun _ => w) (fun _ => w) :=
    ⟨⟨by simp, fun j oj _ hl => (by rw [getD_replicate_false] at hl; cases hl), fun t _ ht => hun t (by simpa using ht)⟩, e1.symm, e2.symm, fun t ht => (e3 t fun i _ hti => by
        obtain ⟨h1, h2, _⟩ := ok.blind i t hti
        have := (ht i h1 h2).1
        rw [hun i (by omega)] at this; cases this).symm,
      fun i hi hl => (by rw [hun i (by have := ok.nz_lt hi; omega)] at hl; cases hl), hρ.drew w, fun i hi hl => (by rw [hun i (by have := ok.nz_lt hi; omega)] at hl; cases hl), fun i i' hi _ hl => (by rw [hun i (by have := ok.nz_lt hi; omega)] at hl; cases hl)⟩
  have := mix_anyR hρ ok (fun J hA hne j o ho => (hE J hA hne).2 j o (Nat.zero_le _) ho) hN hT (fun x hx => by rw [e2]; exact hsz x hx) n (Array.replicate l.length false) a w.drew _ _ _ (by unfold unl; refine Nat.le_trans (List.length_filter_le _ _) (by simp)) inv0
  rwa [show l.length - n + n = l.length by omega] at this

theorem wp_region_mixR {id n : Nat} {nz : List (Nat × Tmp)} {dp : Nat → List Nat} {bs : List Bool} {l : List Oper} {Φ : Nat → List Value → Value → World → World → Prop} {w : World} {Q : Exit → Act → World → Prop} {a : Act} (hm : P.follows .mixedOrders = true) (hB : mixB n nz dp bs l = true) (hsz : ∀ x ∈ nz, x.2 < a.tmps.size)
    (h : wpQuietIn Fence.wide 0 P (blindL bs l).toArray (fun w' => ∃ s : LaterR ρ w (fun _ => True), w' = s.w') (fun G =>
      (∀ J : World → Prop, AbidesR ρ J → Nonempty (LaterR ρ w J) → wpQuietIn Fence.wide 0 P (blindL bs l).toArray (fun w' => ∃ s : LaterR ρ w J, w' = s.w') (fun g => g = G) (blindL bs l) a) ∧ MixAskR ρ P n nz dp l Φ w Q G) (blindL bs l) a) :
    (Code.region id l.toArray true).wp P Q a w := by
  refine (wpIn_wide (n := 0)).1 (wpIn_region_any hm ?_)
  have := mix_startR hρ hB hsz h
  simpa using this
/-- in a round -/
theorem wpIn_region_mixR {i id n : Nat} {nz : List (Nat × Tmp)} {dp : Nat → List Nat} {bs : List Bool} {l : List Oper} {Φ : Nat → List Value → Value → World → World → Prop} {w : World} {Q : Exit → Act → World → Prop} {a : Act} (hm : P.follows .mixedOrders = true) (hB : mixB n nz dp bs l = true) (hd : ∀ o ∈ l, ∀ c, o.op ≠ .defer c) (hsz : ∀ x ∈ nz, x.2 < a.tmps.size)
    (h : wpQuietIn Fence.wide 0 P (blindL bs l).toArray (fun w' => ∃ s : LaterR ρ w (fun _ => True), w' = s.w') (fun G =>
      (∀ J : World → Prop, AbidesR ρ J → Nonempty (LaterR ρ w J) → wpQuietIn Fence.wide 0 P (blindL bs l).toArray (fun w' => ∃ s : LaterR ρ w J, w' = s.w') (fun g => g = G) (blindL bs l) a) ∧ MixAskR ρ P n nz dp l Φ w Q G) (blindL bs l) a) :
    (Code.region id l.toArray true).wpIn (Fence.wide.inRound i) 0 P Q a w := by
  refine wpIn_region_any hm (wpAnyIn_round rfl i (fun j o ho => hd o (List.mem_of_getElem? (by simpa using ho))) _ _ _ _ ?_)
  have := mix_startR hρ hB hsz h
  simpa using this

theorem callsJR {f : FuncId} {args : Array Value} {w : World} {J : World → Prop} {s : LaterR ρ w J} {v : Value} {n : Nat} (hJ : AbidesR ρ J) (h : Calls P f args s.w' fun e w2 => e = .returned v ∧ ρ s.w' w2) :
    CallsIn Fence.wide n P f args s.w' fun e w2 => e = .returned v ∧ ∃ s' : LaterR ρ w J, w2 = s'.w' :=
  callsIn_wide.2 (h.mono fun _ w2 ⟨he, hB⟩ => ⟨he, ⟨⟨w2, hρ.trans s.h hB, hJ _ _ s.j hB⟩, rfl⟩⟩)
omit hρ in
theorem mixAsk0R {n : Nat} {l : List Oper} {w : World} {Q : Exit → Act → World → Prop} {G : Act} (hT : ∀ s : World, ρ w s → wpListIn Fence.wide 0 P l.toArray Q (l.drop n) G s) :
    MixAskR ρ P n [] (fun _ => []) l (fun _ _ _ _ _ => True) w Q G := by
  refine ⟨fun i hi => by simp [isNz] at hi, fun r p q s hs _ _ => hT s hs⟩
end
end

end Go.Proofs.Ytelgbjfgmpkepaa

namespace Go.Proofs.Ytelgbjfgmpkepaa
open Go.RowKit Go.Shelf

def within (lo hi : Int) (l : List Int) : Bool := l.all fun n => decide (lo ≤ n) && decide (n ≤ hi)

set_option maxHeartbeats 400000 in
theorem within1_c (p q : Nat) (n lo hi : Int) (w : World) (hp : w.cell? ⟨p, 0, none⟩ = some (.int .i64 lo)) (hq : w.cell? ⟨q, 0, none⟩ = some (.int .i64 hi)) :
    Calls Try.prog 83 #[.int .i64 n, .pointer (some ⟨p, 0, none⟩), .pointer (some ⟨q, 0, none⟩)] w fun e w' => e = .returned (.bool (decide (n < lo) || decide (hi < n))) ∧ w = w' := by
  go_enter Try.func83, Try.ntmps83
  go_wp2
  · have h : lo ≤ n := by assumption
    go_ret
    exact ⟨ret_bool (by simp), rfl⟩
  · have h : n < lo := by assumption
    go_ret
    exact ⟨ret_bool (by simp), rfl⟩

def AnyP (p : Int → Bool) (xs : List Int) (w : World) (e : Ending) (w' : World) : Prop :=
  ∃ i : Int, e = .returned (.int .i64 i) ∧ decide (0 ≤ i) = xs.any p ∧ w = w'

set_option maxHeartbeats 400000 in
theorem indexFunc_c (a : Option Addr) (cap g : Nat) (caps : Array Value) (p : Int → Bool) (xs : List Int) (w : World) (hx : IntsAt w a xs) (hb : xs.length ≤ 1000000)
    (hg : ∀ k, k < xs.length → Calls Try.prog g (#[.int .i64 (nth xs k)] ++ caps) w fun e w' => e = .returned (.bool (p (nth xs k))) ∧ w = w')
    (eg : ∀ args w, (callFunc g args).run Try.prog w = .ok (.enter g args) w) :
    Calls Try.prog 95 #[.slice a xs.length cap, .func (.func g) #[] caps] w (AnyP p xs w) := by
  go_enter Try.func95, Try.ntmps95
  go_wp2
  go_loop [5, 8] (fun _ i => ∃ k : Nat, k ≤ xs.length ∧ i = .int .i64 k ∧ (xs.take k).any p = false) (fun _ i => xs.length - (intOf i).toNat)
  case atStart => exact ⟨0, Nat.zero_le _, rfl, rfl⟩
  case round =>
    obtain ⟨k, hk, rfl, hp⟩ := hrel
    have Hp := hid hp; clear hp
    by_cases hlt : k < xs.length
    · obtain ⟨b, off, rfl, hc⟩ := hx.at hlt
      have Ht := hid (any_take_succ p hlt)
      have Hx := hid hx; clear hx
      have Hg := hid hg; clear hg
      cases hpk : p (nth xs k) with
      | false =>
        have Hpk := hid hpk; clear hpk
        go_wp2_with fail
        refine (Hg.out k hlt).mono ?_
        rintro e w' ⟨rfl, rfl⟩
        rw [Hpk.out]
        go_wp2
        go_round
        case rel => exact ⟨k + 1, by omega, by go_num, by rw [Ht.out, Hp.out, Hpk.out]; rfl⟩
        case measure => simp [intOf]; omega
      | true =>
        have Hpk := hid hpk; clear hpk
        go_wp2_with fail
        refine (Hg.out k hlt).mono ?_
        rintro e w' ⟨rfl, rfl⟩
        rw [Hpk.out]
        go_wp2
        go_ret
        refine ⟨k, rfl, ?_, rfl⟩
        simp
        exact ⟨_, nth_mem hlt, Hpk.out⟩
    · go_wp2
      go_ret
      refine ⟨-1, rfl, ?_, rfl⟩
      have hp := Hp.out
      rw [List.take_of_length_le (by omega)] at hp
      rw [hp]; rfl

set_option maxHeartbeats 400000 in
theorem containsFunc_c (a : Option Addr) (cap g : Nat) (caps : Array Value) (p : Int → Bool) (xs : List Int) (w : World) (hx : IntsAt w a xs) (hb : xs.length ≤ 1000000)
    (hg : ∀ k, k < xs.length → Calls Try.prog g (#[.int .i64 (nth xs k)] ++ caps) w fun e w' => e = .returned (.bool (p (nth xs k))) ∧ w = w')
    (eg : ∀ args w, (callFunc g args).run Try.prog w = .ok (.enter g args) w) :
    Calls Try.prog 82 #[.slice a xs.length cap, .func (.func g) #[] caps] w fun e w' => e = .returned (.bool (xs.any p)) ∧ w = w' := by
  have H := hid (indexFunc_c a cap g caps p xs w hx hb hg eg)
  generalize hy : xs.any p = y
  have Hy := hid hy
  clear hx hg eg hy
  go_enter Try.func82, Try.ntmps82
  go_wp2_with fail
  refine H.out.mono ?_
  rintro e w' ⟨i, rfl, hi, rfl⟩
  have Hi := hid hi; clear hi
  go_wp2
  go_ret
  exact ⟨ret_bool (Hi.out.trans Hy.out), rfl⟩

theorem any_within (lo hi : Int) (xs : List Int) : (!(xs.any fun n => decide (n < lo) || decide (hi < n))) = within lo hi xs := by
  unfold within
  induction xs with
  | nil => rfl
  | cons x xs ih =>
    simp only [List.any_cons, List.all_cons, Bool.not_or, ih]
    congr 1
    by_cases h1 : x < lo <;> by_cases h2 : hi < x <;> simp [h1, h2] <;> omega

theorem enters83 : ∀ args w, (callFunc 83 args).run Try.prog w = .ok (.enter 83 args) w := enters_of Try.func83 (by kernel_rfl) rfl

set_option maxHeartbeats 400000 in
theorem within_c (a : Option Addr) (cap : Nat) (lo hi : Int) (xs : List Int) (w : World) (hx : IntsAt w a xs) (hb : xs.length ≤ 1000000) :
    Calls Try.prog 62 #[.int .i64 lo, .int .i64 hi, .slice a xs.length cap] w fun e w' => e = .returned (.bool (within lo hi xs)) ∧ Below w.heap.size w w' := by
  have hw := any_within lo hi xs
  have Hw := hid hw; clear hw
  have B1 : Below w.heap.size w ((w.alloc (.cells #[.int .i64 lo] 3)).alloc (.cells #[.int .i64 hi] 3)) := ((Below.refl _ _).alloc (Nat.le_refl _) _).alloc (by simp) _
  have hx1 := hx.mono B1
  have H := hid (containsFunc_c a cap 83 #[.pointer (some ⟨w.heap.size, 0, none⟩), .pointer (some ⟨w.heap.size + 1, 0, none⟩)] (fun n => decide (n < lo) || decide (hi < n)) xs _ hx1 hb
    (fun k _ => within1_c w.heap.size (w.heap.size + 1) (nth xs k) lo hi _ (by simp) (by simp)) enters83)
  clear hx hx1
  have HB := hid B1; clear B1
  go_enter Try.func62, Try.ntmps62
  go_wp2_with fail
  refine H.out.mono ?_
  rintro e w' ⟨rfl, rfl⟩
  go_wp2
  go_ret
  exact ⟨ret_bool Hw.out, HB.out⟩


end Go.Proofs.Ytelgbjfgmpkepaa

namespace Go.Proofs.Ytelgbjfgmpkepaa
open Go.RowKit Go.Shelf

/-- what is known: what each copper may be, and whether all may be good -/
structure Kn where
  cop : List Int
  none : Bool
def KnAt (w : World) (ka : Option Addr) (K : Kn) : Prop := IntsAt w ka K.cop
theorem KnAt.mono {w w' : World} {ka : Option Addr} {K : Kn} (h : KnAt w ka K) (hB : Below w.heap.size w w') : KnAt w' ka K := IntsAt.mono h hB
/-- the kinds of slug that a copper may be -/
def hasKind (n kind : Int) : Bool := decide (n = kind) || decide (n = 3)
/-- the cases of the copper i -/
def copCases (K : Kn) (i : Nat) : List (Int × Int) :=
  (if hasKind (nth K.cop i) 1 = true then [((i : Int), 1)] else []) ++ (if hasKind (nth K.cop i) 2 = true then [((i : Int), 2)] else [])
/-- the cases of the first k coppers -/
def casesTo (K : Kn) : Nat → List (Int × Int)
  | 0 => []
  | k + 1 => casesTo K k ++ copCases K k
/-- all cases -/
def casesOf (K : Kn) : List (Int × Int) := casesTo K K.cop.length ++ (if K.none = true then [(-1, 0)] else [])
theorem copCases_len (K : Kn) (i : Nat) : (copCases K i).length ≤ 2 := by
  unfold copCases; split <;> split <;> simp
theorem casesTo_len (K : Kn) (k : Nat) : (casesTo K k).length ≤ 2 * k := by
  induction k with
  | zero => exact Nat.le_refl _
  | succ k ih => have := copCases_len K k; simp only [casesTo, List.length_append]; omega
theorem casesOf_len (K : Kn) : (casesOf K).length ≤ 2 * K.cop.length + 1 := by
  have := casesTo_len K K.cop.length
  unfold casesOf; rw [List.length_append]; split <;> simp <;> omega
/-- the error of what is known -/
def knErr (K : Kn) : Int :=
  if within 1 12 [(K.cop.length : Int)] = true then (if within 0 3 K.cop = true then (if (!K.none && within 0 0 K.cop) = true then 5 else 0) else 3) else 6
theorem within_one {lo hi x : Int} : within lo hi [x] = true ↔ lo ≤ x ∧ x ≤ hi := by simp [within]
theorem within_iff {lo hi : Int} {xs : List Int} : within lo hi xs = true ↔ ∀ k, k < xs.length → lo ≤ nth xs k ∧ nth xs k ≤ hi := by
  unfold within
  rw [List.all_eq_true]
  constructor
  · intro h k hk
    have := h _ (nth_mem hk)
    simpa using this
  · intro h x hx
    obtain ⟨k, hk, e⟩ := List.getElem_of_mem hx
    have := h k hk
    rw [nth_eq hk, e] at this
    simpa using this
/-- what is known is valid -/
structure Kok (K : Kn) : Prop where
  n1 : 1 ≤ K.cop.length
  n12 : K.cop.length ≤ 12
  cop : ∀ k, k < K.cop.length → 0 ≤ nth K.cop k ∧ nth K.cop k ≤ 3
  some : K.none = true ∨ ∃ k, k < K.cop.length ∧ nth K.cop k ≠ 0
theorem kok_iff {K : Kn} : knErr K = 0 ↔ Kok K := by
  unfold knErr
  by_cases h1 : within 1 12 [(K.cop.length : Int)] = true
  · rw [if_pos h1]
    have hn := within_one.1 h1
    by_cases h2 : within 0 3 K.cop = true
    · rw [if_pos h2]
      have hc := within_iff.1 h2
      by_cases h3 : (!K.none && within 0 0 K.cop) = true
      · rw [if_pos h3]
        rw [Bool.and_eq_true] at h3
        refine ⟨fun h => by omega, fun h => ?_⟩
        rcases h.some with h4 | ⟨k, hk, h4⟩
        · rw [h4] at h3; simp at h3
        · have := within_iff.1 h3.2 k hk; omega
      · rw [if_neg h3]
        refine ⟨fun _ => ⟨by omega, by omega, hc, ?_⟩, fun _ => rfl⟩
        cases hn2 : K.none with
        | true => exact .inl rfl
        | false =>
          rw [hn2] at h3
          refine .inr (Classical.byContradiction fun h5 => h3 ?_)
          rw [Bool.not_false, Bool.true_and]
          refine within_iff.2 fun k hk => ?_
          have := hc k hk
          by_cases h6 : nth K.cop k = 0
          · omega
          · exact absurd ⟨k, hk, h6⟩ h5
    · rw [if_neg h2]; exact ⟨fun h => by omega, fun h => absurd (within_iff.2 h.cop) h2⟩
  · rw [if_neg h1]; exact ⟨fun h => by omega, fun h => absurd (within_one.2 ⟨by have := h.n1; omega, by have := h.n12; omega⟩) h1⟩
/-- the reference tells by the cases whether there is one -/
theorem cases_none {K : Kn} (h2 : within 0 3 K.cop = true) : (casesOf K).length = 0 ↔ (!K.none && within 0 0 K.cop) = true := by
  have hc := within_iff.1 h2
  have key : ∀ k, k ≤ K.cop.length → ((casesTo K k).length = 0 ↔ ∀ j, j < k → nth K.cop j = 0) := by
    intro k
    induction k with
    | zero => intro _; exact ⟨fun _ j hj => by omega, fun _ => rfl⟩
    | succ k ih =>
      intro hk
      have ih := ih (by omega)
      have hck := hc k (by omega)
      have e : (casesTo K (k + 1)).length = (casesTo K k).length + (copCases K k).length := by simp [casesTo]
      have e2 : (copCases K k).length = 0 ↔ nth K.cop k = 0 := by
        unfold copCases hasKind
        rcases (show nth K.cop k = 0 ∨ nth K.cop k = 1 ∨ nth K.cop k = 2 ∨ nth K.cop k = 3 by omega) with h | h | h | h <;> rw [h] <;> simp
      constructor
      · intro h j hj
        by_cases ej : j = k
        · subst ej; exact e2.1 (by omega)
        · exact ih.1 (by omega) j (by omega)
      · intro h
        have h1 := ih.2 fun j hj => h j (by omega)
        have h2 := e2.2 (h k (by omega))
        omega
  unfold casesOf
  rw [List.length_append]
  cases hn : K.none with
  | true => simp
  | false =>
    rw [Bool.not_false, Bool.true_and]
    simp only [Bool.false_eq_true, if_false, List.length_nil, Nat.add_zero]
    rw [key _ (Nat.le_refl _), within_iff]
    constructor
    · intro h k hk; have := h k hk; omega
    · intro h k hk; have := h k hk; omega
/-- the error of a weighing, of valid knowledge -/
def wErr (K : Kn) (ws : List Int) : Int := if ws.length = K.cop.length then (if within (-1) 1 ws = true then (if ws.sum = 0 then 0 else 14) else 3) else 15
/-- the result of a weighing in a case -/
def resultOf (ws : List Int) (c : Int × Int) : Int := if c.1 < 0 then 0 else if c.2 = 2 then nth ws c.1.toNat else -nth ws c.1.toNat

end Go.Proofs.Ytelgbjfgmpkepaa

namespace Go.Proofs.Ytelgbjfgmpkepaa
open Go.RowKit Go.Shelf

/-- a call that tells a number, a bool, and leaves what lay -/
def TellI (w : World) (v : Int) (e : Ending) (w' : World) : Prop := e = .returned (.int .i64 v) ∧ Below w.heap.size w w'
def TellB (w : World) (v : Bool) (e : Ending) (w' : World) : Prop := e = .returned (.bool v) ∧ Below w.heap.size w w'
theorem at_lit1 (w : World) (x : Int) : IntsAt (w.alloc (.cells #[.int .i64 x] 3)) (some ⟨w.heap.size, 0, none⟩) [x] := intsAt_new w [x] _ 3 rfl
theorem within1 (lo hi x : Int) (b : Nat) (w : World) (hb : b = w.heap.size) : Calls Try.prog 62 #[.int .i64 lo, .int .i64 hi, .slice (some ⟨b, 0, none⟩) 1 1] (w.alloc (.cells #[.int .i64 x] 3)) (fun e w' => e = .returned (.bool (within lo hi [x])) ∧ Below w.heap.size w w') := by
  subst hb
  exact (within_c (some ⟨w.heap.size, 0, none⟩) 1 lo hi [x] (w.alloc (.cells #[.int .i64 x] 3)) (at_lit1 w x) (by simp)).mono fun _ _ ⟨h1, h2⟩ => ⟨h1, bstep (bnew _ _) h2⟩

section
variable (ka : Option Addr) (kc : Nat) (K : Kn) (w : World)
set_option maxRecDepth 100000 in
set_option maxHeartbeats 1000000 in
theorem checkKnown_c (hk : KnAt w ka K) (hl : K.cop.length ≤ 1000000) : Calls Try.prog 19 #[.agg #[.slice ka K.cop.length kc, .bool K.none]] w (TellI w (knErr K)) := by
  obtain ⟨V, hV, hB0, k0, k1⟩ := box1 w (.slice ka K.cop.length kc) (.bool K.none) 24
  have hkV := hk.mono hB0
  have HB0 := hid hB0; have HV := hid hV; have HV0 := hid (Below.refl V.heap.size V)
  have K0 := hid k0; have K1 := hid k1
  have HW1 := hid fun (b : Nat) (w' : World) (h : b = w'.heap.size) => within1 1 12 (K.cop.length : Int) b w' h
  have HW2 := hid fun (w' : World) (h : Below V.heap.size V w') => within_c ka kc 0 3 K.cop w' (hkV.mono h) hl
  have HW3 := hid fun (w' : World) (h : Below V.heap.size V w') => within_c ka kc 0 0 K.cop w' (hkV.mono h) hl
  have hE : knErr K = if within 1 12 [(K.cop.length : Int)] = true then (if within 0 3 K.cop = true then (if (!K.none && within 0 0 K.cop) = true then 5 else 0) else 3) else 6 := rfl
  unfold TellI
  rw [hE]
  obtain ⟨nn, hnn⟩ : ∃ b, b = K.none := ⟨_, rfl⟩
  rw [← hnn] at k1 K1 HV ⊢
  cases hw1 : within 1 12 [(K.cop.length : Int)] with
  | false =>
    rw [hw1] at HW1
    rw [if_neg (by simp)]
    clear hE hk hV hB0 hkV hw1 hl hnn
    go_enter Try.func19, Try.ntmps19
    go_upto_region 1 with (fail)
    rw [← HV.out]
    go_wp2_with fail
    refine (HW1.out _ _ (by simp)).mono ?_
    rintro e w1 ⟨rfl, hB⟩
    have HB1 := hid (bstep HV0.out hB)
    clear hB
    go_wp2
    go_ret
    exact ⟨rfl, bstep HB0.out HB1.out⟩
  | true =>
    rw [hw1] at HW1
    rw [if_pos rfl]
    cases hw2 : within 0 3 K.cop with
    | false =>
      rw [hw2] at HW2
      rw [if_neg (by simp)]
      clear hE hk hV hB0 hkV hw1 hw2 hl hnn
      go_enter Try.func19, Try.ntmps19
      go_upto_region 1 with (fail)
      rw [← HV.out]
      go_wp2_with fail
      refine (HW1.out _ _ (by simp)).mono ?_
      rintro e w1 ⟨rfl, hB⟩
      have HB1 := hid (bstep HV0.out hB)
      have k0 := cstep k0 hB
      have k1 := cstep k1 hB
      clear hB
      go_wp2_with fail
      refine (HW2.out _ HB1.out).mono ?_
      rintro e w2 ⟨rfl, hB⟩
      have HB2 := hid (bstep HB1.out hB)
      clear hB
      go_wp2
      go_ret
      exact ⟨rfl, bstep HB0.out HB2.out⟩
    | true =>
      rw [hw2] at HW2
      rw [if_pos rfl]
      cases nn with
      | true =>
        rw [Bool.not_true, Bool.false_and, if_neg (by simp)]
        clear hE hk hV hB0 hkV hw1 hw2 hl hnn
        go_enter Try.func19, Try.ntmps19
        go_upto_region 1 with (fail)
        rw [← HV.out]
        go_wp2_with fail
        refine (HW1.out _ _ (by simp)).mono ?_
        rintro e w1 ⟨rfl, hB⟩
        have HB1 := hid (bstep HV0.out hB)
        have k0 := cstep k0 hB
        have k1 := cstep k1 hB
        clear hB
        go_wp2_with fail
        refine (HW2.out _ HB1.out).mono ?_
        rintro e w2 ⟨rfl, hB⟩
        have HB2 := hid (bstep HB1.out hB)
        have k0 := cstep k0 hB
        have k1 := cstep k1 hB
        clear hB
        go_wp2
        go_ret
        exact ⟨rfl, bstep HB0.out HB2.out⟩
      | false =>
        rw [Bool.not_false, Bool.true_and]
        cases hw3 : within 0 0 K.cop with
        | false =>
          rw [hw3] at HW3
          rw [if_neg (by simp)]
          clear hE hk hV hB0 hkV hw1 hw2 hw3 hl hnn
          go_enter Try.func19, Try.ntmps19
          go_upto_region 1 with (fail)
          rw [← HV.out]
          go_wp2_with fail
          refine (HW1.out _ _ (by simp)).mono ?_
          rintro e w1 ⟨rfl, hB⟩
          have HB1 := hid (bstep HV0.out hB)
          have k0 := cstep k0 hB
          have k1 := cstep k1 hB
          clear hB
          go_wp2_with fail
          refine (HW2.out _ HB1.out).mono ?_
          rintro e w2 ⟨rfl, hB⟩
          have HB2 := hid (bstep HB1.out hB)
          have k0 := cstep k0 hB
          have k1 := cstep k1 hB
          clear hB
          go_wp2_with fail
          refine (HW3.out _ HB2.out).mono ?_
          rintro e w3 ⟨rfl, hB⟩
          have HB3 := hid (bstep HB2.out hB)
          clear hB
          go_wp2
          go_ret
          exact ⟨rfl, bstep HB0.out HB3.out⟩
        | true =>
          rw [hw3] at HW3
          rw [if_pos rfl]
          clear hE hk hV hB0 hkV hw1 hw2 hw3 hl hnn
          go_enter Try.func19, Try.ntmps19
          go_upto_region 1 with (fail)
          rw [← HV.out]
          go_wp2_with fail
          refine (HW1.out _ _ (by simp)).mono ?_
          rintro e w1 ⟨rfl, hB⟩
          have HB1 := hid (bstep HV0.out hB)
          have k0 := cstep k0 hB
          have k1 := cstep k1 hB
          clear hB
          go_wp2_with fail
          refine (HW2.out _ HB1.out).mono ?_
          rintro e w2 ⟨rfl, hB⟩
          have HB2 := hid (bstep HB1.out hB)
          have k0 := cstep k0 hB
          have k1 := cstep k1 hB
          clear hB
          go_wp2_with fail
          refine (HW3.out _ HB2.out).mono ?_
          rintro e w3 ⟨rfl, hB⟩
          have HB3 := hid (bstep HB2.out hB)
          clear hB
          go_wp2
          go_ret
          exact ⟨rfl, bstep HB0.out HB3.out⟩
end

end Go.Proofs.Ytelgbjfgmpkepaa

namespace Go.Proofs.Ytelgbjfgmpkepaa
open Go.RowKit Go.Shelf

def nthP (ls : List (Int × Int)) (k : Nat) : Int × Int := ls.getD k (0, 0)
theorem nthP_eq {ls : List (Int × Int)} {k : Nat} (h : k < ls.length) : nthP ls k = ls[k] := by simp [nthP, List.getD, h]
def PlumbsAt (w : World) (a : Option Addr) (ls : List (Int × Int)) : Prop :=
  ls = [] ∨ ∃ b off, a = some ⟨b, off, none⟩ ∧ ∀ j, j < ls.length → w.cell? ⟨b, off + j * 2, none⟩ = some (.int .i64 (nthP ls j).1) ∧ w.cell? ⟨b, off + j * 2 + 1, none⟩ = some (.int .i64 (nthP ls j).2)
theorem PlumbsAt.nil (w : World) (a : Option Addr) : PlumbsAt w a [] := .inl rfl
theorem PlumbsAt.at {w : World} {a : Option Addr} {ls : List (Int × Int)} (h : PlumbsAt w a ls) {j : Nat} (hj : j < ls.length) :
    ∃ b off, a = some ⟨b, off, none⟩ ∧ w.cell? ⟨b, off + j * 2, none⟩ = some (.int .i64 (nthP ls j).1) ∧ w.cell? ⟨b, off + j * 2 + 1, none⟩ = some (.int .i64 (nthP ls j).2) := by
  rcases h with rfl | ⟨b, off, rfl, h⟩
  · simp at hj
  · exact ⟨b, off, rfl, h j hj⟩
theorem PlumbsAt.mono {w w' : World} {a : Option Addr} {ls : List (Int × Int)} (h : PlumbsAt w a ls) (hb : Below w.heap.size w w') : PlumbsAt w' a ls := by
  rcases h with rfl | ⟨b, off, rfl, h⟩
  · exact .inl rfl
  · exact .inr ⟨b, off, rfl, fun j hj => ⟨cstep (h j hj).1 hb, cstep (h j hj).2 hb⟩⟩
def pairv : List (Int × Int) → List Value
  | [] => []
  | q :: l => .int .i64 q.1 :: .int .i64 q.2 :: pairv l
theorem pairv_len (l : List (Int × Int)) : (pairv l).length = l.length * 2 := by
  induction l with
  | nil => rfl
  | cons q l ih => simp only [pairv, List.length_cons, ih]; omega
theorem pairv_append (l m : List (Int × Int)) : pairv (l ++ m) = pairv l ++ pairv m := by
  induction l with
  | nil => rfl
  | cons q l ih => simp only [List.cons_append, pairv, ih]
theorem pairv_get : ∀ (l : List (Int × Int)) (j : Nat), j < l.length → (pairv l)[j * 2]? = some (.int .i64 (nthP l j).1) ∧ (pairv l)[j * 2 + 1]? = some (.int .i64 (nthP l j).2)
  | [], _, h => by simp at h
  | q :: l, 0, _ => ⟨rfl, rfl⟩
  | q :: l, j + 1, h => by
    obtain ⟨h1, h2⟩ := pairv_get l j (by simpa using h)
    rw [show (j + 1) * 2 = j * 2 + 1 + 1 by omega]
    exact ⟨by simpa [pairv, nthP] using h1, by simpa [pairv, nthP] using h2⟩
theorem plumbs_of_cells {w : World} {a : Option Addr} {l : List (Int × Int)} (h : CellsAt w a (pairv l)) : PlumbsAt w a l := by
  rcases h with h | ⟨b, off, rfl, h⟩
  · cases l with
    | nil => exact .inl rfl
    | cons q l => cases h
  · refine .inr ⟨b, off, rfl, fun j hj => ?_⟩
    obtain ⟨h1, h2⟩ := pairv_get l j hj
    exact ⟨h _ _ h1, h _ _ h2⟩
theorem cells_of_plumbs {w : World} {a : Option Addr} {l : List (Int × Int)} (h : PlumbsAt w a l) : CellsAt w a (pairv l) := by
  rcases h with rfl | ⟨b, off, rfl, h⟩
  · exact .inl rfl
  · refine .inr ⟨b, off, rfl, fun j v hj => ?_⟩
    have hlt : j < (pairv l).length := (List.getElem?_eq_some_iff.1 hj).1
    rw [pairv_len] at hlt
    have key : ∀ (l : List (Int × Int)) (j : Nat), j < l.length → (pairv l)[j * 2]? = some (.int .i64 (nthP l j).1) ∧ (pairv l)[j * 2 + 1]? = some (.int .i64 (nthP l j).2) := by
      intro l
      induction l with
      | nil => intro j hj; cases hj
      | cons q l ih =>
        intro j hj
        cases j with
        | zero => exact ⟨rfl, rfl⟩
        | succ j =>
          have h1 := ih j (by simpa using hj)
          have e1 : (j + 1) * 2 = j * 2 + 1 + 1 := by omega
          have e2 : nthP (q :: l) (j + 1) = nthP l j := rfl
          rw [e1, e2]
          exact h1
    obtain ⟨k1, k2⟩ := key l (j / 2) (by omega)
    obtain ⟨h1, h2⟩ := h (j / 2) (by omega)
    by_cases ev : j % 2 = 0
    · have e : j = j / 2 * 2 := by omega
      rw [e] at hj ⊢
      rw [k1] at hj; cases hj; exact h1
    · have e : j = j / 2 * 2 + 1 := by omega
      rw [e] at hj ⊢
      rw [k2] at hj; cases hj; exact h2

theorem take_succ_nthP {xs : List (Int × Int)} {k : Nat} (h : k < xs.length) : xs.take (k + 1) = xs.take k ++ [nthP xs k] := by
  rw [List.take_succ_eq_append_getElem h, nthP_eq h]

theorem pairv_one (L : List (Int × Int)) : ∀ u ∈ pairv L, u.oneCell' = true := by
  induction L with
  | nil => intro u hu; cases hu
  | cons q L ih =>
    intro u hu
    simp only [pairv, List.mem_cons] at hu
    rcases hu with rfl | rfl | hu
    · rfl
    · rfl
    · exact ih u hu
theorem nthP_mem {xs : List (Int × Int)} {k : Nat} (h : k < xs.length) : nthP xs k ∈ xs := by rw [nthP_eq h]; exact List.getElem_mem h
/-- a list of cases of the call's own -/
def OwnP (B : Nat) (w : World) (ao : Option Addr) (n cap : Nat) (L : List (Int × Int)) : Prop := L.length = n ∧ OwnV 34 2 B w ao n cap (pairv L)
theorem OwnP.nil (B : Nat) (w : World) : OwnP B w none 0 0 [] := ⟨rfl, OwnV.nil 34 2 B w⟩
theorem OwnP.at {B : Nat} {w : World} {ao : Option Addr} {n cap : Nat} {L : List (Int × Int)} (h : OwnP B w ao n cap L) : PlumbsAt w ao L := plumbs_of_cells h.2.at
theorem OwnP.kept {B : Nat} {w w' : World} {ao : Option Addr} {n cap : Nat} {L : List (Int × Int)} (h : OwnP B w ao n cap L) (hB : Below w.heap.size w w') : OwnP B w' ao n cap L := ⟨h.1, h.2.kept hB⟩
theorem OwnP.app {B : Nat} {w : World} {ao : Option Addr} {n cap : Nat} {L : List (Int × Int)} {c : Int × Int} (hl : L.length = n) (h : OwnV 34 2 B w ao (n + 1) cap (pairv L ++ [.int .i64 c.1, .int .i64 c.2])) : OwnP B w ao (n + 1) cap (L ++ [c]) :=
  ⟨by rw [List.length_append, hl]; rfl, by rw [pairv_append]; exact h⟩
theorem OwnP.fresh {B : Nat} {w : World} {ao : Option Addr} {n cap : Nat} {L : List (Int × Int)} (h : OwnP B w ao n cap L) : ((ao = none → cap = 0) ∧ L.length ≤ cap) ∧ ∀ b off, ao = some ⟨b, off, none⟩ → B ≤ b :=
  ⟨⟨fun e => (h.2.none e).2, by
    rw [h.1]
    rcases h.2.2 with ⟨e, h0⟩ | ⟨g, c, cur, e, hge, hh, hr⟩
    · omega
    · cases e; exact hr.1⟩, fun b off e => by subst e; exact (h.2.block (g := b) (by simp [Value.ownBlock])).1⟩
/-- a call that hands back a list of cases -/
def ListC (w : World) (L : List (Int × Int)) (e : Ending) (w' : World) : Prop := ∃ ao cap, e = .returned (.slice ao L.length cap) ∧ PlumbsAt w' ao L ∧ (((ao = none → cap = 0) ∧ L.length ≤ cap) ∧ ∀ b off, ao = some ⟨b, off, none⟩ → w.heap.size ≤ b) ∧ Below w.heap.size w w'
/-- the same, of a list of the call's own -/
def ListO (w : World) (L : List (Int × Int)) (e : Ending) (w' : World) : Prop := ∃ ao cap, e = .returned (.slice ao L.length cap) ∧ OwnP w.heap.size w' ao L.length cap L ∧ Below w.heap.size w w'
theorem ListO.c {w : World} {L : List (Int × Int)} {e : Ending} {w' : World} (h : ListO w L e w') : ListC w L e w' := by
  obtain ⟨ao, cap, h1, h2, h3⟩ := h
  exact ⟨ao, cap, h1, h2.at, h2.fresh, h3⟩
theorem kindAnd : ∀ (a : Fin 4) (b : Fin 2), bits .and .i64 ((a.val : Nat) : Int) ((b.val + 1 : Nat) : Int) = if a.val = b.val + 1 ∨ a.val = 3 then ((b.val + 1 : Nat) : Int) else 0 := by decide +kernel
theorem kind_and {x : Int} {k : Nat} (hx : 0 ≤ x ∧ x ≤ 3) (hk : k < 2) : bits .and .i64 x ((k : Int) + 1) = if hasKind x ((k : Int) + 1) = true then (k : Int) + 1 else 0 := by
  obtain ⟨n, rfl⟩ := Int.eq_ofNat_of_zero_le hx.1
  have := kindAnd ⟨n, by omega⟩ ⟨k, hk⟩
  simp only at this
  rw [show (((k + 1 : Nat) : Int)) = (k : Int) + 1 by omega] at this
  rw [this]
  unfold hasKind
  by_cases h : n = k + 1 ∨ n = 3
  · rw [if_pos h, if_pos]
    simp only [Bool.or_eq_true, decide_eq_true_eq]; omega
  · rw [if_neg h, if_neg]
    simp only [Bool.or_eq_true, decide_eq_true_eq]; omega

end Go.Proofs.Ytelgbjfgmpkepaa
