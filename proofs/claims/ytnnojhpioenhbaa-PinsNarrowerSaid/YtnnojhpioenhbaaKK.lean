/- Iterators with blocks of their own: the law of ranges. Walks: levels. Walk: agreeing. Walks: promised, CheckBroken. Walk: Levels, of the program. -/
import Derived.Test.YtnnojhpioenhbaaKI
import Derived.LoopIn
import Derived.Deep.DeepCutAuto
import Derived.Test.YtnnojhpioenhbaaKJ
namespace Go.Proofs.Ytnnojhpioenhbaa
open Go.RowKit Go.Shelf

/-- AN ITERATOR's CONTRACT, where it has blocks of its own (T): it hands to its rounds, one behind the other, values of which X holds; a round may turn the blocks of S alone. -/
def GenT (P : Program) (gf : Nat) (lb : Array Value) (S Sx T : Nat → Prop) (X : Nat → Array Value → World → Prop) (L N : Nat) (Done : Nat → Prop) (w0 : World) : Prop :=
  ∀ (l : Nat) (J Jx : Nat → World → Prop) (W : World), Below w0.heap.size w0 W → l = w0.heap.size + 1 → W.heap.size = w0.heap.size + 2 →
    (∀ k W W', J k W → Below W.heap.size W W' → J k W') → (∀ k W W', Jx k W → Below W.heap.size W W' → Jx k W') → (∀ k W W', J k W → Only T W W' → J k W') → (∀ k W W', Jx k W → Only T W W' → Jx k W') → (∀ k W, J k W → k ≤ N) →
    (∀ k v W1, J k W1 → X k v W1 → k < L → YieldAt Fence.wide 0 P l v W1 fun e W' =>
      (e = .returned (.bool true) ∧ J (k + 1) W' ∧ Only (fun b => S b ∨ b = l) W1 W') ∨ (e = .returned (.bool false) ∧ Jx (k + 1) W' ∧ Only (fun b => Sx b ∨ b = l) W1 W')) →
    J 0 W →
    CallsIn Fence.wide 0 P gf (#[.func (.yield l) #[] #[]] ++ lb) W fun e W' => (∃ v, e = .returned v) ∧ ((∃ k, Done k ∧ J k W') ∨ (∃ k, Jx k W'))

/-- how the body of a round may be left: S where it goes on, Sx where the loop ends -/
def roundEndsX (S Sx : Nat → Prop) (I : Nat → World → Prop) (Ix : Code → Nat → World → Prop) (k : Nat) (W : World) : Exit → Act → World → Prop
  | .normal, _, W' => Only S W W' ∧ I (k + 1) W'
  | .ret, _, W' => Only Sx W W' ∧ Ix .ret (k + 1) W'
  | .exit id, _, W' => Only Sx W W' ∧ Ix (.exit id) (k + 1) W'
  | _, _, _ => False

theorem range_lawT {P : Program} {g : Operand} {ps : Array Tmp} {assign body : Code} {Q : Exit → Act → World → Prop} {a : Act} {w : World}
    {gf : Nat} {lb : Array Value} (hg : a.eval g = .func (.func gf) #[] lb) (eg : ∀ args w, (callFunc gf args).run P w = .ok (.enter gf args) w)
    {S Sx T : Nat → Prop} {X : Nat → Array Value → World → Prop} {L N : Nat} {Done : Nat → Prop} (hseq : GenT P gf lb S Sx T X L N Done w)
    (hS : ¬ S w.heap.size ∧ ¬ S (w.heap.size + 1)) (hSx : ¬ Sx w.heap.size ∧ ¬ Sx (w.heap.size + 1)) (hT : ¬ T w.heap.size ∧ ¬ T (w.heap.size + 1)) (hps : ∀ k v W, X k v W → v.size = ps.size)
    (hX : ∀ k v W W', X k v W → Only (fun b => b = w.heap.size + 1) W W' → X k v W')
    (I : Nat → World → Prop) (Ix : Code → Nat → World → Prop)
    (hI : ∀ k W W', I k W → Only (fun b => b = w.heap.size + 1) W W' → I k W')
    (hIx : ∀ c k W W', Ix c k W → Only (fun b => b = w.heap.size + 1) W W' → Ix c k W')
    (hIT : ∀ k W W', I k W → Only T W W' → I k W') (hIxT : ∀ c k W W', Ix c k W → Only T W W' → Ix c k W')
    (hN : ∀ k W, I k W → k ≤ N) (h0 : I 0 w) (a₁ : Array Value → Act)
    (hassign : ∀ (l k : Nat) (v : Array Value) (W : World) (K : Act → World → Prop), X k v W → K (a₁ v) W →
      assign.wpIn (Fence.wide.inRound l) 0 P (Exit.then K (fun _ _ _ => False)) { tmps := (ps.zip v).foldl (fun t (p, v) => t.setIfInBounds p v) a.tmps, defers := [] } W)
    (hbody : ∀ (k : Nat) (v : Array Value) (W : World), w.heap.size + 1 < W.heap.size → I k W → X k v W → k < L → body.wpIn (Fence.wide.inRound (w.heap.size + 1)) 0 P (roundEndsX S Sx I Ix k W) (a₁ v) W)
    (hdone : ∀ (k : Nat) (W : World), Done k → I k W → W.heap[w.heap.size]? = some (.deferred (some [])) → w.heap.size < W.heap.size →
      Q .normal { a with defers := { target := .collected w.heap.size, args := #[] } :: a.defers } W)
    (hstop : ∀ (c : Code) (k : Nat) (W : World), Ix c k W → W.heap[w.heap.size]? = some (.deferred (some [])) →
      c.wpIn Fence.wide 0 P Q { a with defers := { target := .collected w.heap.size, args := #[] } :: a.defers } W) :
    (Code.rangeFunc g ps assign body).wpIn Fence.wide 0 P Q a w := by
  refine wpIn_rangeFunc ?_
  intro fn hfn
  rw [show Fence.wide.round = none from rfl]
  obtain ⟨rec, hrec⟩ : ∃ rec : LoopState → Option Code → Loop, rec = fun st pe => { state := st, pending := pe, fn, tmps := a.tmps, params := ps, assign, body, defers := w.heap.size } := ⟨_, rfl⟩
  obtain ⟨W1, hW1⟩ : ∃ W1, (w.alloc (.deferred (some []))).alloc (.loop (rec .ready none)) = W1 := ⟨_, rfl⟩
  have hL1 : W1.heap[w.heap.size + 1]? = some (.loop (rec .ready none)) := by
    rw [← hW1]; have := World.alloc_heap_new (w.alloc (.deferred (some []))) (.loop (rec .ready none)); rwa [World.size_alloc] at this
  have hK1 : W1.heap[w.heap.size]? = some (.deferred (some [])) := by
    rw [← hW1]; exact (Below.heap_alloc _ _ _ (by simp)).trans (World.alloc_heap_new w _)
  have hb1 : Below w.heap.size w W1 := by
    rw [← hW1]; exact ((Below.refl _ w).alloc (Nat.le_refl _) _).alloc (by simp) _
  have hI1 : I 0 W1 := hI _ _ _ h0 (Only.of_below hb1)
  have keep : ∀ {A B : World} {i : Nat} {o : Obj}, Below A.heap.size A B → A.heap[i]? = some o → B.heap[i]? = some o := fun h ho =>
    (h.block _ (Array.getElem?_eq_some_iff.1 ho).1).trans ho
  refine ⟨w.heap.size + 1, [{ target := .collected w.heap.size, args := #[] }], W1, { target := .fn (.func gf) lb, args := #[.func (.yield (w.heap.size + 1)) #[] #[]] }, W1, gf,
    #[.func (.yield (w.heap.size + 1)) #[] #[]] ++ lb, W1, ?_, ?_, ?_, ?_, fun h => by simp [Fence.wide] at h, ?_⟩
  · rw [← hW1, hrec]; exact run_enterLoop_outer _ _ _ _ _
  · simp only [resolve, hg]
    simp [go_sem]
  · intro f' _; trivial
  · simp [invoke, go_sem, eg]
  · refine (hseq (w.heap.size + 1)
      (fun k W => I k W ∧ W.heap[w.heap.size + 1]? = some (.loop (rec .ready none)) ∧ W.heap[w.heap.size]? = some (.deferred (some [])))
      (fun k W => ∃ c, Ix c k W ∧ W.heap[w.heap.size + 1]? = some (.loop (rec .done (some c))) ∧ W.heap[w.heap.size]? = some (.deferred (some [])))
      W1 hb1 rfl (by rw [← hW1]; simp)
      (fun k A B hs hAB => ⟨hI _ _ _ hs.1 (Only.of_below hAB), keep hAB hs.2.1, keep hAB hs.2.2⟩)
      (fun k A B hs hAB => by
        obtain ⟨c, hc, hl, hk⟩ := hs
        exact ⟨c, hIx _ _ _ _ hc (Only.of_below hAB), keep hAB hl, keep hAB hk⟩)
      (fun k A B hs hAB => ⟨hIT _ _ _ hs.1 hAB, (hAB.block _ (Array.getElem?_eq_some_iff.1 hs.2.1).1 hT.2).trans hs.2.1, (hAB.block _ (Array.getElem?_eq_some_iff.1 hs.2.2).1 hT.1).trans hs.2.2⟩)
      (fun k A B hs hAB => by
        obtain ⟨c, hc, hl, hk⟩ := hs
        exact ⟨c, hIxT _ _ _ _ hc hAB, (hAB.block _ (Array.getElem?_eq_some_iff.1 hl).1 hT.2).trans hl, (hAB.block _ (Array.getElem?_eq_some_iff.1 hk).1 hT.1).trans hk⟩)
      (fun k W hs => hN _ _ hs.1)
      ?_ ⟨hI1, hL1, hK1⟩).mono ?_
    · rintro k v W ⟨hi, hl, hk⟩ hx hlen
      have hlt : w.heap.size + 1 < W.heap.size := (Array.getElem?_eq_some_iff.1 hl).1
      have hy := run_yield (P := P) (args := v) hl (by rw [hrec]; exact hps _ _ _ hx)
      rw [hrec] at hy
      refine ⟨fn, _, assign, body, hy, roundIn_of_wpIn hfn (hassign _ k v W _ hx ⟨_, run_beginRound hl (by rw [hrec]), ?_⟩)⟩
      have hl2 : (W.putObj (w.heap.size + 1) (.loop { rec .ready none with state := .busy })).heap[w.heap.size + 1]? = some (.loop { rec .ready none with state := .busy }) := World.putObj_heap_same hlt
      have hk2 : (W.putObj (w.heap.size + 1) (.loop { rec .ready none with state := .busy })).heap[w.heap.size]? = some (.deferred (some [])) := (World.putObj_heap_other (by omega)).trans hk
      have hw2 : Only (fun b => b = w.heap.size + 1) W (W.putObj (w.heap.size + 1) (.loop { rec .ready none with state := .busy })) := Only.put1 _ _ _
      refine wpIn_mono (hbody k v _ (by simp; omega) (hI _ _ _ hi hw2) (hX _ _ _ _ hx hw2) hlen) ?_
      have fin : ∀ (Sy : Nat → Prop), (¬ Sy w.heap.size ∧ ¬ Sy (w.heap.size + 1)) → ∀ (jump : Option Code) (W3 : World), Only Sy (W.putObj (w.heap.size + 1) (.loop { rec .ready none with state := .busy })) W3 →
          (Instr.endRound (w.heap.size + 1) jump).run P W3 = .ok (.bool jump.isNone) (W3.putObj (w.heap.size + 1) (.loop (rec (if jump.isNone then .ready else .done) jump))) ∧
          (W3.putObj (w.heap.size + 1) (.loop (rec (if jump.isNone then .ready else .done) jump))).heap[w.heap.size + 1]? = some (.loop (rec (if jump.isNone then .ready else .done) jump)) ∧
          (W3.putObj (w.heap.size + 1) (.loop (rec (if jump.isNone then .ready else .done) jump))).heap[w.heap.size]? = some (.deferred (some [])) ∧
          Only (fun b => b = w.heap.size + 1) W3 (W3.putObj (w.heap.size + 1) (.loop (rec (if jump.isNone then .ready else .done) jump))) := fun Sy hSy jump W3 hk3 => by
        have hl3 := (hk3.block _ (by simp; omega) hSy.2).trans hl2
        have := run_endRound (P := P) jump hl3
        rw [hrec] at this ⊢
        exact ⟨this, World.putObj_heap_same (Array.getElem?_eq_some_iff.1 hl3).1, (World.putObj_heap_other (by omega)).trans ((hk3.block _ (by simp; omega) hSy.1).trans hk2), Only.put1 _ _ _⟩
      rintro e a3 W3 hp
      cases e with
      | normal =>
        obtain ⟨hk3, hi3⟩ := hp
        obtain ⟨hr, hl4, hk4, ho⟩ := fin S hS none W3 hk3
        exact ⟨_, _, hr, .inl ⟨rfl, ⟨hI _ _ _ hi3 ho, hl4, hk4⟩, ((hw2.mono (fun _ h => .inr h)).trans (hk3.mono (fun _ h => .inl h))).trans (ho.mono (fun _ h => .inr h))⟩⟩
      | ret =>
        obtain ⟨hk3, hi3⟩ := hp
        obtain ⟨hr, hl4, hk4, ho⟩ := fin Sx hSx (some .ret) W3 hk3
        exact ⟨_, _, hr, .inr ⟨rfl, ⟨.ret, hIx _ _ _ _ hi3 ho, hl4, hk4⟩, ((hw2.mono (fun _ h => .inr h)).trans (hk3.mono (fun _ h => .inl h))).trans (ho.mono (fun _ h => .inr h))⟩⟩
      | exit id =>
        obtain ⟨hk3, hi3⟩ := hp
        obtain ⟨hr, hl4, hk4, ho⟩ := fin Sx hSx (some (.exit id)) W3 hk3
        exact ⟨_, _, hr, .inr ⟨rfl, ⟨.exit id, hIx _ _ _ _ hi3 ho, hl4, hk4⟩, ((hw2.mono (fun _ h => .inr h)).trans (hk3.mono (fun _ h => .inl h))).trans (ho.mono (fun _ h => .inr h))⟩⟩
      | goto t => exact hp.elim
      | panic ch => exact hp.elim
      | outgrown => exact hp.elim
    · rintro e W2 ⟨⟨v, rfl⟩, (⟨k, hS, hi, hl, hk⟩ | ⟨k, c, hi, hl, hk⟩)⟩
      · exact ⟨none, _, by have := run_endLoop (P := P) hl (by rw [hrec]; simp); rw [hrec] at this; exact this, hdone k _ hS (hI _ _ _ hi (Only.put1 _ _ _)) ((World.putObj_heap_other (by omega)).trans hk) (by simp; exact (Array.getElem?_eq_some_iff.1 hk).1)⟩
      · exact ⟨some c, _, by have := run_endLoop (P := P) hl (by rw [hrec]; simp); rw [hrec] at this; exact this, hstop c k _ (hIx _ _ _ _ hi (Only.put1 _ _ _)) ((World.putObj_heap_other (by omega)).trans hk)⟩


/-- the frame of a round told by what the assignment does -/
theorem range_lawT' {P : Program} {g : Operand} {ps : Array Tmp} {assign body : Code} {Q : Exit → Act → World → Prop} {a : Act} {w : World}
    {gf : Nat} {lb : Array Value} (gs : Array Value → Array Value → Array Value) (hg : a.eval g = .func (.func gf) #[] lb) (eg : ∀ args w, (callFunc gf args).run P w = .ok (.enter gf args) w)
    {S Sx T : Nat → Prop} {X : Nat → Array Value → World → Prop} {L N : Nat} {Done : Nat → Prop} (hseq : GenT P gf lb S Sx T X L N Done w)
    (hS : ¬ S w.heap.size ∧ ¬ S (w.heap.size + 1)) (hSx : ¬ Sx w.heap.size ∧ ¬ Sx (w.heap.size + 1)) (hT : ¬ T w.heap.size ∧ ¬ T (w.heap.size + 1)) (hps : ∀ k v W, X k v W → v.size = ps.size)
    (hX : ∀ k v W W', X k v W → Only (fun b => b = w.heap.size + 1) W W' → X k v W')
    (I : Nat → World → Prop) (Ix : Code → Nat → World → Prop)
    (hI : ∀ k W W', I k W → Only (fun b => b = w.heap.size + 1) W W' → I k W')
    (hIx : ∀ c k W W', Ix c k W → Only (fun b => b = w.heap.size + 1) W W' → Ix c k W')
    (hIT : ∀ k W W', I k W → Only T W W' → I k W') (hIxT : ∀ c k W W', Ix c k W → Only T W W' → Ix c k W')
    (hN : ∀ k W, I k W → k ≤ N) (h0 : I 0 w)
    (hassign : ∀ (l k : Nat) (v : Array Value) (W : World) (K : Act → World → Prop), X k v W → K { tmps := gs v ((ps.zip v).foldl (fun t (p, v) => t.setIfInBounds p v) a.tmps), defers := [] } W →
      assign.wpIn (Fence.wide.inRound l) 0 P (Exit.then K (fun _ _ _ => False)) { tmps := (ps.zip v).foldl (fun t (p, v) => t.setIfInBounds p v) a.tmps, defers := [] } W)
    (hbody : ∀ (k : Nat) (v : Array Value) (W : World), w.heap.size + 1 < W.heap.size → I k W → X k v W → k < L → body.wpIn (Fence.wide.inRound (w.heap.size + 1)) 0 P (roundEndsX S Sx I Ix k W) { tmps := gs v ((ps.zip v).foldl (fun t (p, v) => t.setIfInBounds p v) a.tmps), defers := [] } W)
    (hdone : ∀ (k : Nat) (W : World), Done k → I k W → W.heap[w.heap.size]? = some (.deferred (some [])) → w.heap.size < W.heap.size →
      Q .normal { a with defers := { target := .collected w.heap.size, args := #[] } :: a.defers } W)
    (hstop : ∀ (c : Code) (k : Nat) (W : World), Ix c k W → W.heap[w.heap.size]? = some (.deferred (some [])) →
      c.wpIn Fence.wide 0 P Q { a with defers := { target := .collected w.heap.size, args := #[] } :: a.defers } W) :
    (Code.rangeFunc g ps assign body).wpIn Fence.wide 0 P Q a w :=
  range_lawT hg eg hseq hS hSx hT hps hX I Ix hI hIx hIT hIxT hN h0 (fun v => { tmps := gs v ((ps.zip v).foldl (fun t (p, v) => t.setIfInBounds p v) a.tmps), defers := [] }) hassign hbody hdone hstop

theorem Only.none {T : Nat → Prop} {A B : World} (h : Only (fun _ => False) A B) : Only T A B := h.mono fun _ h => h.elim

/-- a frame's block, at the k-th level of some -/
def lvX (c : Nat) (w0 w1 : World) (A : FA) (B : Bd) (R : Rd) (lv : Nat → Int) (k : Nat) (v : Array Value) (W : World) : Prop :=
  ∃ g, v = #[.pointer (some ⟨g, 0, none⟩)] ∧ w0.heap.size + c < g ∧ g < W.heap.size ∧ W.heap[g]? = some (.cells (frCells A B R (lv k)) 114 (0, 0)) ∧ Below w1.heap.size w1 W
def lvN (k : Nat) : Int := (k : Int) - 5

theorem enters111 : ∀ args w, (callFunc 111 args).run Try.prog w = .ok (.enter 111 args) w := enters_of Try.func111 (by kernel_rfl) rfl
theorem enters110 : ∀ args w, (callFunc 110 args).run Try.prog w = .ok (.enter 110 args) w := enters_of Try.func110 (by kernel_rfl) rfl
set_option maxRecDepth 100000 in
theorem levels_c (g : Nat) (w : World) :
    Calls Try.prog 86 #[.pointer (some ⟨g, 0, none⟩)] w fun e w' => e = .returned (.func (.func 111) #[] #[.pointer (some ⟨w.heap.size, 0, none⟩)]) ∧ w.alloc (.cells #[.pointer (some ⟨g, 0, none⟩)] 88) = w' := by
  go_enter Try.func86, Try.ntmps86
  go_wp2
  go_ret
  exact ⟨rfl, rfl⟩
set_option maxRecDepth 100000 in
theorem agreeing_c (g : Nat) (w : World) :
    Calls Try.prog 84 #[.pointer (some ⟨g, 0, none⟩)] w fun e w' => e = .returned (.func (.func 110) #[] #[.pointer (some ⟨w.heap.size, 0, none⟩)]) ∧ w.alloc (.cells #[.pointer (some ⟨g, 0, none⟩)] 88) = w' := by
  go_enter Try.func84, Try.ntmps84
  go_wp2
  go_ret
  exact ⟨rfl, rfl⟩

set_option maxRecDepth 100000 in
set_option maxHeartbeats 4000000 in
theorem levels1_c (bw g : Nat) (A : FA) (B : Bd) (R : Rd) (lv : Int) (w1 w0 : World) (S Sx : Nat → Prop)
    (hS : ∀ k, S k → w1.heap.size ≤ k) (hf : FrAt w1 g A B R lv) (hp0 : w0.cell? ⟨bw, 0, none⟩ = some (.pointer (some ⟨g, 0, none⟩))) (hpS : ¬ S bw) (hB0 : Below w1.heap.size w1 w0) :
    GenT Try.prog 111 #[.pointer (some ⟨bw, 0, none⟩)] S Sx (fun _ => False) (lvX 1 w0 w1 A B R lvN) 11 11 (fun k => k = 11) w0 := by
  intro l J Jx W hW hlW hWs hJ hJx _ _ hN hY h0
  refine callsIn_of_wp Try.func111 rfl trivial ?_ rfl
  simp only [Try.ntmps111, List.size_toArray, List.length_cons, List.length_nil, Nat.reduceAdd, Nat.reduceSub, Array.replicate_succ, Array.replicate_zero, List.push_toArray, List.append_toArray, List.nil_append, List.cons_append]
  have HBW := hid (show Below w1.heap.size w1 W from hB0.trans (hW.mono hB0.size))
  have HA := hid fun (w' : World) (h : Below w1.heap.size w1 w') => hf.mono h
  have d0 := cstep hp0 hW
  have D0 := hid d0
  have hbl : bw ≠ l := by have := block_lt_of_cell hp0; simp at this; omega
  have hlt : l < W.heap.size := by omega
  have HY := hid hY; have HJ := hid hJ; have HN := hid hN; have H0 := hid h0; have HS := hid hS
  have Hl := hid (show w1.heap.size ≤ l by have := hB0.size; omega)
  have HWz := hid (show w0.heap.size + 1 < W.heap.size by omega)
  clear hp0 hf hB0 hY hJ hN h0 hS hJx hW hlW hWs
  gi_wp2
  gi_loopw [3] (fun n wr => ∃ k : Nat, n = .int .i64 ((k : Int) - 5) ∧ k ≤ 11 ∧ J k wr ∧ Below w1.heap.size w1 wr ∧ W.heap.size ≤ wr.heap.size ∧ wr.cell? ⟨bw, 0, none⟩ = some (.pointer (some ⟨g, 0, none⟩))) (fun n _ => (6 - intOf n).toNat)
  case atStart => exact ⟨0, rfl, Nat.zero_le _, H0.out, HBW.out, Nat.le_refl _, D0.out⟩
  case round =>
    obtain ⟨k, rfl, hk, hJk, hB, hsz, e0⟩ := hrel
    obtain ⟨wo, rfl⟩ : ∃ wo : World, wo = wr := ⟨_, rfl⟩
    have HJk := hid hJk; have HB := hid hB; have Hsz := hid hsz
    have hfr := HA.out _ hB
    clear hJk hB hsz d0
    by_cases hlt2 : k < 11
    · have hltI : (k : Int) - 5 ≤ 5 := by omega
      have c0 := hfr.k0; have c1 := hfr.k1; have c2 := hfr.k2; have c3 := hfr.k3; have c4 := hfr.k4
      have e1 : IntKind.i64.wrap ((k : Int) - 5 + 1) = (k : Int) - 5 + 1 := wrap_i64_of (by omega) (by omega)
      obtain ⟨w2, hw2⟩ : ∃ w2, w2 = wo.alloc (.cells (frCells A B R (lvN k)) 114) := ⟨_, rfl⟩
      have hB2 : Below wo.heap.size wo w2 := by rw [hw2]; exact bnew _ _
      have hg2 : w2.heap[wo.heap.size]? = some (.cells (frCells A B R (lvN k)) 114 (0, 0)) := by rw [hw2]; exact heap_alloc_new _ _
      have hz2 : w2.heap.size = wo.heap.size + 1 := by rw [hw2]; simp
      have HB2 := hid (bstep HB.out hB2)
      have hX : lvX 1 w0 w1 A B R lvN k #[.pointer (some ⟨wo.heap.size, 0, none⟩)] w2 := ⟨wo.heap.size, rfl, by have := HWz.out; have := Hsz.out; omega, by omega, hg2, HB2.out⟩
      obtain ⟨fn, tmps, assign, body, hy, hR⟩ := HY.out k #[.pointer (some ⟨wo.heap.size, 0, none⟩)] w2 (HJ.out _ _ _ HJk.out hB2) hX hlt2
      have G0 := hid (cstep e0 hB2)
      have Hz := hid (show W.heap.size ≤ w2.heap.size by have := Hsz.out; omega)
      have hO : ∀ W', Only (fun b => S b ∨ b = l) (wo.alloc (.cells (frCells A B R (lvN k)) 114)) W' → Only (fun b => S b ∨ b = l) w2 W' := fun W' h => by rw [hw2]; exact h
      have HO := hid hO
      rw [hw2] at hy hR
      unfold frCells lvN at hy hR HO
      have HR := hid hR
      clear hO hR hX hg2 hB2 hz2 hfr hw2
      gi_wp2
      refine ⟨rfl, HR.out.mono ?_⟩
      rintro e W3 (⟨rfl, hJ3, hO3'⟩ | ⟨rfl, hJ3, _⟩)
      · have hO3 := HO.out _ hO3'
        have hB3 : Below w1.heap.size w1 W3 := HB2.out.trans (hO3.below HB2.out.size (by
          rintro j hj (h | h)
          · have := HS.out _ h; omega
          · have := Hl.out; omega))
        have hs3 := hO3.size
        have g3 := hO3.cell G0.out (by rintro (h | h); exact hpS h; exact hbl h)
        have HJ3 := hid hJ3; have HB4 := hid hB3; have G3 := hid g3; have Hz3 := hid (Nat.le_trans Hz.out hs3)
        clear hJ3 hO3 hO3' hB3 hy g3 c0 c1 c2 c3 c4 e0 hs3
        gi_wp2
        go_roundw
        case rel => exact ⟨k + 1, by go_num, by omega, HJ3.out, HB4.out, Hz3.out, G3.out⟩
        case measure => simp [intOf]; omega
      · have HJ3 := hid hJ3
        clear hJ3 hy c0 c1 c2 c3 c4 e0
        gi_wp2
        refine bodyPost_ret (results_none rfl _ _ _) rfl ?_
        exact ⟨⟨_, rfl⟩, .inr ⟨_, HJ3.out⟩⟩
    · obtain rfl : k = 11 := by omega
      gi_wp2
      refine bodyPost_end (results_none rfl _ _ _) rfl ?_
      exact ⟨⟨_, rfl⟩, .inl ⟨_, rfl, HJk.out⟩⟩

end Go.Proofs.Ytnnojhpioenhbaa

namespace Go.Proofs.Ytnnojhpioenhbaa
open Go.RowKit Go.Shelf

theorem lvX.only {c : Nat} {w0 w1 : World} {A : FA} {B : Bd} {R : Rd} {lv : Nat → Int} {k : Nat} {v : Array Value} {W W' : World} (h : lvX c w0 w1 A B R lv k v W) {l : Nat} (ho : Only (fun b => b = l) W W') (hl : l ≤ w0.heap.size + c) (hl1 : w1.heap.size ≤ l) : lvX c w0 w1 A B R lv k v W' := by
  obtain ⟨g, h1, h2, h3, h4, h5⟩ := h
  exact ⟨g, h1, h2, Nat.lt_of_lt_of_le h3 ho.size, (ho.block g h3 (by omega)).trans h4, h5.trans (ho.below h5.size (by intro j hj e; omega))⟩
theorem lvX.mono {c : Nat} {w0 w1 : World} {A : FA} {B : Bd} {R : Rd} {lv : Nat → Int} {k : Nat} {v : Array Value} {W W' : World} (h : lvX c w0 w1 A B R lv k v W) (ho : Below W.heap.size W W') : lvX c w0 w1 A B R lv k v W' := by
  obtain ⟨g, h1, h2, h3, h4, h5⟩ := h
  exact ⟨g, h1, h2, Nat.lt_of_lt_of_le h3 ho.size, (ho.block g h3).trans h4, bstep h5 ho⟩
theorem mix8 : Try.prog.follows .mixedOrders = true := by kernel_rfl

theorem lvlK_pre (p : Int → Bool) (k : Nat) : ∀ d, ∃ t, lvlK p (k + d) = lvlK p k ++ t
  | 0 => ⟨[], by simp⟩
  | d + 1 => by
    obtain ⟨t, ht⟩ := lvlK_pre p k d
    rw [show k + (d + 1) = (k + d) + 1 by omega, lvlK, ht]
    split
    · exact ⟨t ++ [((k + d : Nat) : Int) - 5], by rw [List.append_assoc]⟩
    · exact ⟨t, rfl⟩
theorem levels_at {B : Bd} {R : Rd} {k : Nat} (hk : k < 11) (h : lvlK (okL B R) (k + 1) = lvlK (okL B R) k ++ [lvN k]) : (lvlK (okL B R) k).length < (levelsL B R).length ∧ nth (levelsL B R) (lvlK (okL B R) k).length = lvN k := by
  obtain ⟨t, ht⟩ := lvlK_pre (okL B R) (k + 1) (11 - (k + 1))
  rw [show k + 1 + (11 - (k + 1)) = 11 by omega, h] at ht
  have e : levelsL B R = lvlK (okL B R) k ++ [lvN k] ++ t := ht
  rw [e]
  refine ⟨by simp, ?_⟩
  rw [nth_append_left (by simp)]
  have := nth_append_right (lvlK (okL B R) k) [lvN k] 0
  rw [Nat.add_zero] at this
  rw [this]; rfl

/-- what the iterator keeps -/
structure AgI (J : Nat → World → Prop) (w1 : World) (n0 bw g l : Nat) (p : Int → Bool) (k : Nat) (W : World) : Prop where
  le : k ≤ 11
  j : J (lvlK p k).length W
  b : Below w1.heap.size w1 W
  z : n0 + 2 ≤ W.heap.size
  y : W.cell? ⟨n0, 0, none⟩ = some (.func (.yield l) #[] #[])
  f : W.cell? ⟨bw, 0, none⟩ = some (.pointer (some ⟨g, 0, none⟩))
theorem AgI.only {J : Nat → World → Prop} {w1 : World} {n0 bw g l : Nat} {p : Int → Bool} {k : Nat} {W W' : World} (h : AgI J w1 n0 bw g l p k W) {T : Nat → Prop} (ho : Only T W W') (hj : ∀ k, J k W → J k W') (hn : ¬ T n0) (hb : ¬ T bw) (h1 : ∀ k, k < w1.heap.size → ¬ T k) : AgI J w1 n0 bw g l p k W' :=
  ⟨h.le, hj _ h.j, h.b.trans (ho.below h.b.size h1), Nat.le_trans h.z ho.size, ho.cell h.y hn, ho.cell h.f hb⟩

section
variable (A : FA) (B : Bd) (R : Rd)
set_option maxRecDepth 100000 in
set_option maxHeartbeats 8000000 in
theorem agreeing1_c (bw g : Nat) (lv : Int) (w1 w0 : World) (S Sx : Nat → Prop) (hSx : ∀ k, Sx k → k < w0.heap.size ∨ w0.heap.size + 6 ≤ k) (hBk : Bok B) (hRk : Rok2 B R)
    (hS : ∀ k, S k → w1.heap.size ≤ k ∧ (k < w0.heap.size ∨ w0.heap.size + 6 ≤ k)) (hf : FrAt w1 g A B R lv) (hp0 : w0.cell? ⟨bw, 0, none⟩ = some (.pointer (some ⟨g, 0, none⟩))) (hpS : ¬ S bw) (hB0 : Below w1.heap.size w1 w0) :
    GenT Try.prog 110 #[.pointer (some ⟨bw, 0, none⟩)] S Sx (fun b => w0.heap.size + 2 ≤ b ∧ b ≤ w0.heap.size + 5) (lvX 5 w0 w1 A B R (nth (levelsL B R))) (levelsL B R).length (levelsL B R).length (fun k => k = (levelsL B R).length) w0 := by
  intro l J Jx W hW hlW hWs hJ hJx hJT hJxT hN hY h0
  refine callsIn_of_wp_marks (n := 0) Try.func110 rfl trivial ?_ rfl
  simp only [Try.ntmps110, List.size_toArray, List.length_cons, List.length_nil, Nat.reduceAdd, Nat.reduceSub, Array.replicate_succ, Array.replicate_zero, List.push_toArray, List.append_toArray, List.nil_append, List.cons_append]
  have hBW : Below w1.heap.size w1 W := hB0.trans (hW.mono hB0.size)
  have d0 := cstep hp0 hW
  have hb0 : bw < w0.heap.size := block_lt_of_cell hp0
  obtain ⟨w2, hw2⟩ : ∃ w2, w2 = (W.alloc (.cells #[.func (.yield l) #[] #[]] 136)).alloc (.cells #[.pointer (some ⟨g, 0, none⟩)] 88) := ⟨_, rfl⟩
  have hB2 : Below W.heap.size W w2 := by rw [hw2]; exact bstep (bnew _ _) (bnew _ _)
  have hz2 : w2.heap.size = W.heap.size + 1 + 1 := by rw [hw2]; simp
  have hy2 : w2.cell? ⟨W.heap.size, 0, none⟩ = some (.func (.yield l) #[] #[]) := by rw [hw2]; simp [go_sem]
  have hp2 : w2.cell? ⟨W.heap.size + 1, 0, none⟩ = some (.pointer (some ⟨g, 0, none⟩)) := by
    have h := heap_alloc_new (W.alloc (.cells #[.func (.yield l) #[] #[]] 136)) (.cells #[.pointer (some ⟨g, 0, none⟩)] 88)
    rw [World.size_alloc, ← hw2] at h
    rw [cell_of_row _ _ _ _ _ _ h]; rfl
  have hsz0 := hB0.size
  have hGen := levels1_c (W.heap.size + 1) g A B R lv w1 w2 (fun b => S b ∨ b = l) (fun b => Sx b ∨ b = l) (by
    rintro k (h | h)
    · have := hS k h; omega
    · omega) hf hp2 (by
    rintro (h | h)
    · have := hS _ h; omega
    · omega) (bstep hBW hB2)
  have HI0 := hid (show AgI J w1 W.heap.size bw g l (okL B R) 0 w2 from ⟨Nat.zero_le _, hJ _ _ _ h0 hB2, bstep hBW hB2, by omega, hy2, cstep d0 hB2⟩)
  have HL := hid fun (w' : World) => levels_c g w'
  have hbW : bw < W.heap.size := by omega
  have hbn : ¬ bw = W.heap.size := by omega
  have HW2 := hid hw2; have Hws := hid hWs; have HlW := hid hlW; have Hz2 := hid hz2; have HS := hid hS; have HSx := hid hSx; have Hsz0 := hid hsz0
  have HJ := hid hJ; have HJx := hid hJx; have HJT := hid hJT; have HJxT := hid hJxT; have HN := hid hN; have HY := hid hY; have Hb0 := hid hb0; have Hf := hid hf; have Hgen := hid hGen
  clear hw2 hWs hlW hz2 hB2 hBW hy2 hp2 hsz0 hGen hS hSx hJ hJx hJT hJxT hN hY h0 hp0 hf hW hB0 hb0
  gi_wp2
  refine ⟨trivial, rfl, (callsIn_wide.2 (HL.out _)).mono ?_⟩
  rintro e w3 ⟨rfl, hw3⟩
  rw [World.size_alloc]
  rw [← HW2.out] at hw3
  subst hw3
  gi_wp2
  refine range_lawT' (fun v t => t.setIfInBounds 3 (v.getD 0 undef)) rfl enters111 Hgen.out ?hS ?hSx ?hT ?hps ?hX (AgI J w1 W.heap.size bw g l (okL B R)) (fun c _ W' => c = .ret ∧ ∃ k, Jx k W') ?hI ?hIx ?hIT ?hIxT (fun k W h => h.le) HI0.out ?assign ?body ?done ?stop
  case hS =>
    refine ⟨fun h => ?_, fun h => ?_⟩ <;> rcases h with h | h
    · have := HS.out _ h; have := Hz2.out; have := Hws.out; omega
    · have := Hz2.out; have := Hws.out; have := HlW.out; omega
    · have := HS.out _ h; have := Hz2.out; have := Hws.out; omega
    · have := Hz2.out; have := Hws.out; have := HlW.out; omega
  case hSx =>
    refine ⟨fun h => ?_, fun h => ?_⟩ <;> rcases h with h | h
    · have := HSx.out _ h; have := Hz2.out; have := Hws.out; omega
    · have := Hz2.out; have := Hws.out; have := HlW.out; omega
    · have := HSx.out _ h; have := Hz2.out; have := Hws.out; omega
    · have := Hz2.out; have := Hws.out; have := HlW.out; omega
  case hT => exact ⟨id, id⟩
  case hps => rintro k v W ⟨g, rfl, _⟩; rfl
  case hX => intro k v W W' hv ho; exact hv.only ho (Nat.le_refl _) (by have := Hz2.out; have := Hws.out; have := Hsz0.out; omega)
  case hI =>
    intro k W' W'' h ho
    have e1 := Hz2.out; have e2 := Hws.out; have e3 := Hsz0.out
    exact h.only ho (fun k hk => HJT.out k _ _ hk (ho.mono fun b e => by have e' : b = w2.heap.size + 1 := e; constructor <;> omega)) (by omega) (by omega) (fun k hk e => by have e' : k = w2.heap.size + 1 := e; omega)
  case hIx =>
    rintro c k W' W'' ⟨hc, k2, hk⟩ ho
    have e1 := Hz2.out; have e2 := Hws.out
    exact ⟨hc, k2, HJxT.out _ _ _ hk (ho.mono fun b e => by have e' : b = w2.heap.size + 1 := e; constructor <;> omega)⟩
  case hIT =>
    intro k W' W'' h ho
    exact h.only ho (fun k hk => HJT.out k _ _ hk ho.none) id id (fun _ _ h => h)
  case hIxT =>
    rintro c k W' W'' ⟨hc, k2, hk⟩ ho
    exact ⟨hc, k2, HJxT.out _ _ _ hk ho.none⟩
  case assign =>
    intro l k v W K hx hK
    obtain ⟨g', rfl, _⟩ := hx
    conv in (Act.mk _ _) => simp
    gi_wp2
    simpa using hK
  case body =>
    intro k v W' hW' hI hX hkl
    obtain ⟨g', rfl, hg5, hgs, hgh, hgB⟩ := hX
    have hfr := frAt_of hgh (Hf.out.bd.mono hgB) (Hf.out.rd.mono hgB)
    have hlv : -5 ≤ lvN k ∧ lvN k ≤ 5 := by unfold lvN; omega
    have hm := hRk.m
    have HF := hid fun s : Later W' => first_c g' A B R (lvN k) s.w' (hfr.mono s.h) hBk hlv hRk
    have HM := hid fun s : Later W' => many_c g A B R lv s.w' ((Hf.out.mono hgB).mono s.h) (by omega)
    unfold TellI at HF
    have hok : okL B R (lvN k) = decide (firstN (agB B R (lvN k)) (manyN R) = manyN R) := rfl
    have hst : lvlK (okL B R) (k + 1) = if okL B R (lvN k) then lvlK (okL B R) k ++ [lvN k] else lvlK (okL B R) k := rfl
    have hlv2 := levels_at (B := B) (R := R) hkl
    obtain ⟨n, hn⟩ : ∃ n, n = firstN (agB B R (lvN k)) (manyN R) := ⟨_, rfl⟩
    obtain ⟨m, hmm⟩ : ∃ m, m = manyN R := ⟨_, rfl⟩
    rw [← hn] at HF hok
    rw [← hmm] at HM hok
    have j1 := fun s : Later W' => cstep hI.f s.h
    have HI := hid hI; have HgB := hid hgB; have Hgh := hid hgh
    clear hfr hn hmm hm
    conv in (Act.mk _ _) => simp
    by_cases hnm : n = m
    · rw [hnm, decide_eq_true rfl] at hok
      rw [if_pos hok] at hst
      obtain ⟨hcl, hcn⟩ := hlv2 hst
      have hI2 : (n : Int) = (m : Int) := by omega
      have HF2 := hid fun (J : World → Prop) (s : LaterJ W' J) => HF.out ⟨s.w', s.h⟩
      have HM2 := hid fun (J : World → Prop) (s : LaterJ W' J) => HM.out ⟨s.w', s.h⟩
      have i1 := fun (J : World → Prop) (s : LaterJ W' J) => cstep hI.f s.h
      have i2 := fun (J : World → Prop) (s : LaterJ W' J) => cstep hI.y s.h
      have hcs : (lvlK (okL B R) (k + 1)).length = (lvlK (okL B R) k).length + 1 := by rw [hst]; simp
      obtain ⟨c, hc⟩ : ∃ c, c = (lvlK (okL B R) k).length := ⟨_, rfl⟩
      rw [← hc] at hcs hcl hcn
      have Hcs := hid hcs; have Hc := hid hc; have Hcl := hid hcl; have Hcn := hid hcn
      clear hst hok hnm hI hgB hgh hcs hc hcl hcn j1 HF HM
      gi_wp2
      refine wpIn_region_mix (n := 8) (nz := []) (dp := fun _ => []) (bs := [false, false, false, false, false, false, false, false, true, true, true]) (Φ := fun _ _ _ _ _ => True) mix8 (by kernel_rfl) (by simp) (by simp) ?_
      simp only [blindL, blindO, if_true, Bool.false_eq_true, if_false]
      repeat (gi_big_quiet_step ((first | (refine ⟨rfl, ?_⟩; gi_at_call 87; exact callsJ abidesT (HF2.out _ _)) | (refine ⟨rfl, ?_⟩; gi_at_call 88; exact callsJ abidesT (HM2.out _ _)))))
      refine wpQuietIn_nil ?_
      refine ⟨?_, ?_⟩
      · intro J hJ hne
        repeat (gi_big_quiet_step ((first | (refine ⟨rfl, ?_⟩; gi_at_call 87; exact callsJ hJ (HF2.out _ _)) | (refine ⟨rfl, ?_⟩; gi_at_call 88; exact callsJ hJ (HM2.out _ _)))))
        exact wpQuietIn_nil rfl
      · refine mixAsk0 fun s hs => ?_
        simp only [List.drop_succ_cons, List.drop_zero]
        have hjs : J c s := by rw [Hc.out]; exact HJ.out _ _ _ HI.out.j hs
        have hX : lvX 5 w0 w1 A B R (nth (levelsL B R)) c #[.pointer (some ⟨g', 0, none⟩)] s := ⟨g', rfl, by have := Hz2.out; have := Hws.out; omega, Nat.lt_of_lt_of_le hgs hs.size, by rw [Hcn.out]; exact (hs.block g' hgs).trans Hgh.out, bstep HgB.out hs⟩
        obtain ⟨fn, tmps, assign, body, hy, hR⟩ := HY.out c #[.pointer (some ⟨g', 0, none⟩)] s hjs hX Hcl.out
        have HR := hid hR; have Hs := hid hs
        clear hjs hX hR hs
        gi_wp2
        refine ⟨rfl, HR.out.mono ?_⟩
        rintro e W3 (⟨rfl, hJ3, hO3⟩ | ⟨rfl, hJ3, hO3⟩)
        · have hb1 : ∀ k, k < w1.heap.size → ¬ (S k ∨ k = l) := by
            rintro k hk (h | h)
            · have := (HS.out _ h).1; omega
            · have := HlW.out; have := Hsz0.out; omega
          have hy1 : ¬ (S W.heap.size ∨ W.heap.size = l) := by
            rintro (h | h)
            · have := (HS.out _ h).2; have := Hws.out; omega
            · have := HlW.out; have := Hws.out; omega
          have hf1 : ¬ (S bw ∨ bw = l) := by
            rintro (h | h)
            · exact hpS h
            · have := HlW.out; have := Hb0.out; omega
          have HR1 := hid (show Only (fun b => S b ∨ b = l) W' W3 ∧ AgI J w1 W.heap.size bw g l (okL B R) (k + 1) W3 from ⟨(Only.of_below Hs.out).trans hO3, ⟨by omega, (by rw [Hcs.out]; exact hJ3), (bstep HI.out.b Hs.out).trans (hO3.below (bstep HI.out.b Hs.out).size hb1), Nat.le_trans HI.out.z (Nat.le_trans Hs.out.size hO3.size), hO3.cell (cstep HI.out.y Hs.out) hy1, hO3.cell (cstep HI.out.f Hs.out) hf1⟩⟩)
          clear hJ3 hO3 hy hb1 hy1 hf1
          gi_wp2
          exact HR1.out
        · have HR1 := hid (show Only (fun b => Sx b ∨ b = l) W' W3 ∧ (Code.ret = .ret ∧ ∃ k, Jx k W3) from ⟨(Only.of_below Hs.out).trans hO3, rfl, _, hJ3⟩)
          clear hJ3 hO3 hy
          gi_wp2
          exact ⟨HR1.out.1, rfl, HR1.out.2.2⟩
    · rw [decide_eq_false hnm] at hok
      rw [if_neg (by rw [hok]; simp)] at hst
      have hI2 : ((n : Int) == (m : Int)) = false := beq_false_of_ne (by omega)
      have Hst := hid hst
      clear hst hlv2 hok hnm hI hgB hgh
      gi_wp2
      refine wpIn_region_later _ rfl mix8 (by kernel_rfl) (by simp) ?_
      repeat (gi_big_quiet_step ((first | (refine ⟨rfl, ?_⟩; gi_at_call 87; exact callsLaterIn (HF.out _)) | (refine ⟨rfl, ?_⟩; gi_at_call 88; exact callsLaterIn (HM.out _)))))
      refine wpQuietIn_nil ?_
      rintro w3 ⟨⟨_, hB3⟩, rfl⟩
      gi_wp2
      exact ⟨Only.of_below hB3, ⟨by omega, (by rw [Hst.out]; exact HJ.out _ _ _ HI.out.j hB3), bstep HI.out.b hB3, Nat.le_trans HI.out.z hB3.size, cstep HI.out.y hB3, cstep HI.out.f hB3⟩⟩
  case done =>
    rintro k W' rfl hI hD hlt
    have hT : ∀ b, b = w2.heap.size → w0.heap.size + 2 ≤ b ∧ b ≤ w0.heap.size + 5 := fun b e => by have := Hz2.out; have := Hws.out; omega
    refine ⟨by simp, .inl ⟨_, _, rfl, run_takeDeferred hD, ?_⟩⟩
    refine ⟨_, results_none rfl _ _ _, ⟨_, rfl⟩, .inl ⟨_, rfl, HJT.out _ _ _ hI.j ((Only.put1 W' w2.heap.size (.deferred none)).mono hT)⟩⟩
  case stop =>
    rintro c k W' ⟨rfl, k2, hk⟩ hD
    have hT : ∀ b, b = w2.heap.size → w0.heap.size + 2 ≤ b ∧ b ≤ w0.heap.size + 5 := fun b e => by have := Hz2.out; have := Hws.out; omega
    have HR1 := hid (HJxT.out _ _ _ hk ((Only.put1 W' w2.heap.size (.deferred none)).mono hT))
    refine wpIn_ret ?_
    refine ⟨by simp, .inl ⟨_, _, rfl, run_takeDeferred hD, ?_⟩⟩
    refine ⟨_, results_none rfl _ _ _, ⟨_, rfl⟩, .inr ⟨_, HR1.out⟩⟩
end

end Go.Proofs.Ytnnojhpioenhbaa

namespace Go.Proofs.Ytnnojhpioenhbaa
open Go.RowKit Go.Shelf

section
variable (pa : Option Addr) (pc : Nat) (ya : Option Addr) (yc : Nat) (la : Option Addr) (lc : Nat) (sa : Option Addr) (sc : Nat) (B : Bd) (R : Rd) (q : Int × Int) (lv : Int) (w : World)
set_option maxRecDepth 100000 in
set_option maxHeartbeats 2000000 in
theorem promised_bad (hb : BdAt w pa ya B) (hr : RdAt w la sa R) (hl : B.pins.length ≤ 1000000) (hy : B.pays.length ≤ 1000000) (hP : R.plumbs.length ≤ 1000000) (hS : R.slots.length ≤ 1000000) (h0 : ¬ promErr B R q = 0) :
    Calls Try.prog 97 #[.agg #[.slice pa B.pins.length pc, .slice ya B.pays.length yc], .agg #[.slice la R.plumbs.length lc, .slice sa R.slots.length sc], .agg #[.int .i64 q.1, .int .i64 q.2]] w (NoFr w (promErr B R q)) := by
  obtain ⟨V, hV, hB0, k0, k1, k2, k3, k4, k5⟩ := box3 w (.slice pa B.pins.length pc) (.slice ya B.pays.length yc) (.slice la R.plumbs.length lc) (.slice sa R.slots.length sc) (.int .i64 q.1) (.int .i64 q.2) 25 51 32
  have hbV := hb.mono hB0
  have hrV := hr.mono hB0
  have HB0 := hid hB0; have HV := hid hV; have HV0 := hid (Below.refl V.heap.size V)
  have K0 := hid k0; have K1 := hid k1; have K2 := hid k2; have K3 := hid k3; have K4 := hid k4; have K5 := hid k5
  have hE : promErr B R q = if readErr B R = 0 then (if promB q = true then 0 else 3) else readErr B R := rfl
  have hQ : promB q = ((decide (0 ≤ q.1) && decide (q.1 ≤ 1000000)) && (decide (1 ≤ q.2) && decide (q.2 ≤ 1000000))) := rfl
  unfold NoFr
  by_cases hr0 : readErr B R = 0
  case neg =>
    have HC := hid fun (w' : World) (h : Below V.heap.size V w') => read_bad pa pc ya yc la lc sa sc B R w' (hbV.mono h) (hrV.mono h) hl hy hP hS hr0
    unfold NoFr at HC
    rw [if_neg hr0] at hE
    rw [hE]
    obtain ⟨v, hv⟩ : ∃ v, v = readErr B R := ⟨_, rfl⟩
    rw [← hv] at HC hr0 ⊢
    clear hE hv hb hr hl hy hP hS hV hB0 hbV hrV hQ h0
    go_enter Try.func97, Try.ntmps97
    go_upto_region 1 with (fail)
    rw [← HV.out]
    go_wp2_with fail
    refine (HC.out _ HV0.out).mono ?_
    rintro e w1 ⟨rfl, hB⟩
    have HB1 := hid (bstep HV0.out hB)
    have k4 := cstep k4 hB
    have k5 := cstep k5 hB
    clear hB
    go_wp2
    go_ret2
    exact ⟨rfl, bstep HB0.out HB1.out⟩
  case pos =>
    have HC := hid fun (w' : World) (h : Below V.heap.size V w') => read_ok pa pc ya yc la lc sa sc B R w' (hbV.mono h) (hrV.mono h) hl hy hP hS hr0
    unfold NewFr at HC
    rw [if_pos hr0] at hE
    have hq : ¬ promB q = true := fun h => h0 (by rw [hE, if_pos h])
    rw [if_neg hq] at hE
    rw [hE]
    obtain ⟨n, d⟩ := q
    simp only at hQ k4 k5 HV
    rw [hQ] at hq
    clear hE hb hr hl hy hP hS hV hB0 hbV hrV h0 hr0 hQ
    by_cases h1 : n < 0
    · clear hq
      go_enter Try.func97, Try.ntmps97
      go_upto_region 1 with (fail)
      rw [← HV.out]
      go_wp2_with fail
      refine (HC.out _ HV0.out).mono ?_
      rintro e w1 ⟨g, rfl, hg, hge, hB⟩
      have HB1 := hid (bstep HV0.out hB)
      have k4 := cstep k4 hB
      have k5 := cstep k5 hB
      clear hB
      clear hg hge
      go_wp2
      go_ret2
      exact ⟨rfl, bstep HB0.out HB1.out⟩
    · by_cases h2 : 1000000 < n
      · clear hq
        go_enter Try.func97, Try.ntmps97
        go_upto_region 1 with (fail)
        rw [← HV.out]
        go_wp2_with fail
        refine (HC.out _ HV0.out).mono ?_
        rintro e w1 ⟨g, rfl, hg, hge, hB⟩
        have HB1 := hid (bstep HV0.out hB)
        have k4 := cstep k4 hB
        have k5 := cstep k5 hB
        clear hB
        clear hg hge
        go_wp2
        go_ret2
        exact ⟨rfl, bstep HB0.out HB1.out⟩
      · by_cases h3 : d < 1
        · clear hq
          go_enter Try.func97, Try.ntmps97
          go_upto_region 1 with (fail)
          rw [← HV.out]
          go_wp2_with fail
          refine (HC.out _ HV0.out).mono ?_
          rintro e w1 ⟨g, rfl, hg, hge, hB⟩
          have HB1 := hid (bstep HV0.out hB)
          have k4 := cstep k4 hB
          have k5 := cstep k5 hB
          clear hB
          clear hg hge
          go_wp2
          go_ret2
          exact ⟨rfl, bstep HB0.out HB1.out⟩
        · have h4 : 1000000 < d := by
            refine Classical.byContradiction fun h4 => hq ?_
            rw [decide_eq_true (show 0 ≤ n by omega), decide_eq_true (show n ≤ 1000000 by omega), decide_eq_true (show 1 ≤ d by omega), decide_eq_true (show d ≤ 1000000 by omega)]; rfl
          clear hq
          go_enter Try.func97, Try.ntmps97
          go_upto_region 1 with (fail)
          rw [← HV.out]
          go_wp2_with fail
          refine (HC.out _ HV0.out).mono ?_
          rintro e w1 ⟨g, rfl, hg, hge, hB⟩
          have HB1 := hid (bstep HV0.out hB)
          have k4 := cstep k4 hB
          have k5 := cstep k5 hB
          clear hB
          clear hg hge
          go_wp2
          go_ret2
          exact ⟨rfl, bstep HB0.out HB1.out⟩
set_option maxRecDepth 100000 in
set_option maxHeartbeats 2000000 in
theorem promised_ok (hb : BdAt w pa ya B) (hr : RdAt w la sa R) (hl : B.pins.length ≤ 1000000) (hy : B.pays.length ≤ 1000000) (hP : R.plumbs.length ≤ 1000000) (hS : R.slots.length ≤ 1000000) (h0 : promErr B R q = 0) :
    Calls Try.prog 97 #[.agg #[.slice pa B.pins.length pc, .slice ya B.pays.length yc], .agg #[.slice la R.plumbs.length lc, .slice sa R.slots.length sc], .agg #[.int .i64 q.1, .int .i64 q.2]] w (NewFr w ⟨pa, pc, ya, yc, la, lc, sa, sc⟩ B R 0) := by
  obtain ⟨V, hV, hB0, k0, k1, k2, k3, k4, k5⟩ := box3 w (.slice pa B.pins.length pc) (.slice ya B.pays.length yc) (.slice la R.plumbs.length lc) (.slice sa R.slots.length sc) (.int .i64 q.1) (.int .i64 q.2) 25 51 32
  have hbV := hb.mono hB0
  have hrV := hr.mono hB0
  have HB0 := hid hB0; have HV := hid hV; have HV0 := hid (Below.refl V.heap.size V)
  have K0 := hid k0; have K1 := hid k1; have K2 := hid k2; have K3 := hid k3; have K4 := hid k4; have K5 := hid k5
  obtain ⟨hr0, hq⟩ := promErr_zero h0
  have HC := hid fun (w' : World) (h : Below V.heap.size V w') => read_ok pa pc ya yc la lc sa sc B R w' (hbV.mono h) (hrV.mono h) hl hy hP hS hr0
  have hQ : promB q = ((decide (0 ≤ q.1) && decide (q.1 ≤ 1000000)) && (decide (1 ≤ q.2) && decide (q.2 ≤ 1000000))) := rfl
  rw [hQ] at hq
  simp only [Bool.and_eq_true, decide_eq_true_eq] at hq
  unfold NewFr at *
  obtain ⟨n, d⟩ := q
  simp only at hq k4 k5 HV
  have h1 : ¬ n < 0 := by omega
  have h2 : ¬ 1000000 < n := by omega
  have h3 : ¬ d < 1 := by omega
  have h4 : ¬ 1000000 < d := by omega
  clear hb hr hl hy hP hS hV hB0 hbV hrV h0 hr0 hQ hq
  go_enter Try.func97, Try.ntmps97
  go_upto_region 1 with (fail)
  rw [← HV.out]
  go_wp2_with fail
  refine (HC.out _ HV0.out).mono ?_
  rintro e w1 ⟨g, rfl, hg, hge, hB⟩
  have HB1 := hid hB; have Hg := hid hg; have Hge := hid hge
  have k4 := cstep k4 hB; have k5 := cstep k5 hB
  clear hB hg hge
  go_wp2
  go_ret2
  exact ⟨g, rfl, Hg.out, Nat.le_trans HB0.out.size Hge.out, bstep HB0.out HB1.out⟩

set_option maxRecDepth 100000 in
set_option maxHeartbeats 2000000 in
theorem pCheckBroken_c (hb : BdAt w pa ya B) (hr : RdAt w la sa R) (hl : B.pins.length ≤ 1000000) (hy : B.pays.length ≤ 1000000) (hP : R.plumbs.length ≤ 1000000) (hS : R.slots.length ≤ 1000000) :
    Calls Try.prog 46 #[.agg #[.slice pa B.pins.length pc, .slice ya B.pays.length yc], .agg #[.slice la R.plumbs.length lc, .slice sa R.slots.length sc], .agg #[.int .i64 q.1, .int .i64 q.2], .int .i64 lv] w (TellI w (cbErr B R q lv)) := by
  obtain ⟨V, hV, hB0, k0, k1, k2, k3, k4, k5⟩ := box3 w (.slice pa B.pins.length pc) (.slice ya B.pays.length yc) (.slice la R.plumbs.length lc) (.slice sa R.slots.length sc) (.int .i64 q.1) (.int .i64 q.2) 25 51 32
  have hbV := hb.mono hB0
  have hrV := hr.mono hB0
  have HB0 := hid hB0; have HV := hid hV; have HV0 := hid (Below.refl V.heap.size V)
  have K0 := hid k0; have K1 := hid k1; have K2 := hid k2; have K3 := hid k3; have K4 := hid k4; have K5 := hid k5
  have hE : cbErr B R q lv = if promErr B R q = 0 then (if within (-5) 5 [lv] = true then (if brB B R q lv = true then 0 else 16) else 2) else promErr B R q := rfl
  unfold TellI
  by_cases h0 : promErr B R q = 0
  case neg =>
    have HC := hid fun (w' : World) (h : Below V.heap.size V w') => promised_bad pa pc ya yc la lc sa sc B R q w' (hbV.mono h) (hrV.mono h) hl hy hP hS h0
    unfold NoFr at HC
    rw [if_neg h0] at hE
    rw [hE]
    obtain ⟨v, hv⟩ : ∃ v, v = promErr B R q := ⟨_, rfl⟩
    rw [← hv] at HC h0 ⊢
    clear hE hv hb hr hl hy hP hS hV hB0 hbV hrV
    go_enter Try.func46, Try.ntmps46
    go_upto_region 1 with (fail)
    rw [← HV.out]
    go_wp2_with fail
    refine (HC.out _ HV0.out).mono ?_
    rintro e w1 ⟨rfl, hB⟩
    have HB1 := hid (bstep HV0.out hB)
    have k4 := cstep k4 hB
    have k5 := cstep k5 hB
    clear hB
    go_wp2
    go_ret
    exact ⟨rfl, bstep HB0.out HB1.out⟩
  case pos =>
    rw [if_pos h0] at hE
    obtain ⟨hr0, hq0⟩ := promErr_zero h0
    obtain ⟨hBk, hRk⟩ := readErr_zero.1 hr0
    have HC := hid fun (w' : World) (h : Below V.heap.size V w') => promised_ok pa pc ya yc la lc sa sc B R q w' (hbV.mono h) (hrV.mono h) hl hy hP hS h0
    unfold NewFr at HC
    have HL := hid fun (b : Nat) (w' : World) (h : b = w'.heap.size) => within1 (-5) 5 lv b w' h
    by_cases hw : within (-5) 5 [lv] = true
    case neg =>
      rw [if_neg hw] at hE
      rw [hE]
      have hwf : within (-5) 5 [lv] = false := by simpa using hw
      rw [hwf] at HL
      clear hE hb hr hl hy hP hS hV hB0 hbV hrV hw hwf hBk hRk h0 hr0 hq0
      go_enter Try.func46, Try.ntmps46
      go_upto_region 1 with (fail)
      rw [← HV.out]
      go_wp2_with fail
      refine (HC.out _ HV0.out).mono ?_
      rintro e w1 ⟨g, rfl, hg, hge, hB⟩
      have HB1 := hid (bstep HV0.out hB)
      have k4 := cstep k4 hB
      have k5 := cstep k5 hB
      clear hB
      clear hg hge
      go_wp2_with fail
      refine (HL.out _ _ (by simp)).mono ?_
      rintro e w2 ⟨rfl, hB⟩
      have HB2 := hid (bstep HB1.out hB)
      clear hB
      go_wp2
      go_ret
      exact ⟨rfl, bstep HB0.out HB2.out⟩
    case pos =>
      rw [if_pos hw] at hE
      have hlv := within_one.1 hw
      rw [hw] at HL
      have HbV := hid hbV; have HrV := hid hrV
      have hm := hRk.m
      have hF : brB B R q lv = (decide (firstR B R lv = manyN R) && lessQ (payQ B lv) q) := rfl
      have HE := hid hE; have HF := hid hF
      have hq1 := promB_fit hq0
      clear hE hF hb hr hl hy hP hS hV hB0 hbV hrV hw h0 hr0 hq0
      go_enter Try.func46, Try.ntmps46
      go_upto_region 1 with (fail)
      rw [← HV.out]
      go_wp2_with fail
      refine (HC.out _ HV0.out).mono ?_
      rintro e w1 ⟨g, rfl, hg, hge, hB⟩
      have HB1 := hid hB; have Hg := hid hg; have Hge := hid hge
      have k4 := cstep k4 hB; have k5 := cstep k5 hB
      clear hB hg hge
      go_wp2_with fail
      refine (HL.out _ _ (by simp)).mono ?_
      rintro e w2 ⟨rfl, hB⟩
      have HB2 := hid (bstep HB1.out hB)
      have k4 := cstep k4 hB; have k5 := cstep k5 hB
      have hg2 := (hB.block g (Array.getElem?_eq_some_iff.1 Hg.out).1).trans Hg.out
      have c4 : w2.cell? ⟨g, 4, none⟩ = some (.int .i64 0) := by rw [cell_of_row _ _ _ _ _ _ hg2]; rfl
      have f4 : w2.frozen? ⟨g, 4, none⟩ = false := frozen_of_row _ _ 4 _ _ hg2
      have hg3 : (w2.setCell ⟨g, 4, none⟩ (.int .i64 lv)).heap[g]? = some (.cells (frCells ⟨pa, pc, ya, yc, la, lc, sa, sc⟩ B R lv) 114 (0, 0)) := (heap_setCell_same w2 g 4 _ 114 (.int .i64 lv) hg2).trans rfl
      have hB3 : Below V.heap.size V (w2.setCell ⟨g, 4, none⟩ (.int .i64 lv)) := HB2.out.setCell Hge.out _
      go_upto_region 7 with (fail)
      have hgk : ¬ w.heap.size + 1 + 1 = g := by have := block_lt_of_cell K4.out; have := Hge.out; simp at *; omega
      have k4 : (w2.setCell ⟨g, 4, none⟩ (.int .i64 lv)).cell? ⟨w.heap.size + 1 + 1, 0, none⟩ = some (.int .i64 q.1) := (World.cell?_of_block (Below.heap_setCell _ _ _ _ hgk)).trans k4
      have k5 : (w2.setCell ⟨g, 4, none⟩ (.int .i64 lv)).cell? ⟨w.heap.size + 1 + 1, 1, none⟩ = some (.int .i64 q.2) := (World.cell?_of_block (Below.heap_setCell _ _ _ _ hgk)).trans k5
      obtain ⟨w3, hw3⟩ : ∃ w3, w3 = w2.setCell ⟨g, 4, none⟩ (.int .i64 lv) := ⟨_, rfl⟩
      rw [← hw3] at hg3 hB3 k4 k5 ⊢
      have hfr := frAt_of hg3 (HbV.out.mono hB3) (HrV.out.mono hB3)
      have j4 := fun s : Later w3 => cstep k4 s.h
      have j5 := fun s : Later w3 => cstep k5 s.h
      have H1 := hid fun s : Later w3 => first_c g _ B R lv s.w' (hfr.mono s.h) hBk hlv hRk
      have H2 := hid fun s : Later w3 => many_c g _ B R lv s.w' (hfr.mono s.h) (by omega)
      have H3 := hid fun s : Later w3 => pay_c g _ B R lv s.w' (hfr.mono s.h) hBk hlv
      have H4 := hid fun s : Later w3 => lessQ_c (payQ B lv) q s.w' (payQ_fit hBk lv hlv).1 hq1
      have hle : firstR B R lv ≤ manyN R := by obtain ⟨k, h1, h2, _⟩ := firstN_spec (agB B R lv) (manyN R); unfold firstR; omega
      unfold TellI at H1
      unfold TellB at H4
      obtain ⟨n, hn⟩ : ∃ n, n = firstR B R lv := ⟨_, rfl⟩
      have hn2 : firstN (agB B R lv) (manyN R) = n := hn.symm
      rw [hn2] at H1
      rw [← hn] at hle HF
      obtain ⟨m, hmm⟩ : ∃ m, m = manyN R := ⟨_, rfl⟩
      rw [← hmm] at H2 hle HF
      obtain ⟨p, hp⟩ : ∃ p, p = payQ B lv := ⟨_, rfl⟩
      rw [← hp] at H3 H4 HF
      obtain ⟨u, hu⟩ : ∃ u, u = lessQ p q := ⟨_, rfl⟩
      rw [← hu] at H4 HF
      have HB3 := hid (bstep HB0.out hB3)
      clear hw3 hg3 hB3 hfr hgk hg2 c4 f4 hB hn hn2 hmm hp hu hm hq1 k4 k5
      by_cases hlt : n < m
      · have hI : decide ((n : Int) < (m : Int)) = true := decide_eq_true (by omega)
        rw [decide_eq_false (by omega), Bool.false_and] at HF
        rw [HF.out, if_neg (by simp)] at HE
        refine wp_region_later (by kernel_rfl) (by kernel_rfl) ?_
        repeat (go_big_quiet_step ((first | (go_at_call 87; exact callsLater (H1.out _)) | (go_at_call 88; exact callsLater (H2.out _)) | (go_at_call 70; exact callsLater (H3.out _)) | (go_at_call 94; exact callsLater (H4.out _)))))
        refine wpQuiet_nil ?_
        rintro w4 ⟨⟨_, hB4⟩, rfl⟩
        have HB4 := hid (bstep HB3.out hB4)
        clear hB4 j4 j5
        go_wp2
        go_ret
        exact ⟨ret_int (by rw [HE.out]), HB4.out⟩
      · have hI : decide ((n : Int) < (m : Int)) = false := decide_eq_false (by omega)
        rw [decide_eq_true (show n = m by omega), Bool.true_and] at HF
        cases u with
        | true =>
          rw [HF.out, if_pos rfl] at HE
          refine wp_region_later (by kernel_rfl) (by kernel_rfl) ?_
          repeat (go_big_quiet_step ((first | (go_at_call 87; exact callsLater (H1.out _)) | (go_at_call 88; exact callsLater (H2.out _)) | (go_at_call 70; exact callsLater (H3.out _)) | (go_at_call 94; exact callsLater (H4.out _)))))
          refine wpQuiet_nil ?_
          rintro w4 ⟨⟨_, hB4⟩, rfl⟩
          have HB4 := hid (bstep HB3.out hB4)
          clear hB4 j4 j5
          go_wp2
          go_ret
          exact ⟨ret_int (by rw [HE.out]), HB4.out⟩
        | false =>
          rw [HF.out, if_neg (by simp)] at HE
          refine wp_region_later (by kernel_rfl) (by kernel_rfl) ?_
          repeat (go_big_quiet_step ((first | (go_at_call 87; exact callsLater (H1.out _)) | (go_at_call 88; exact callsLater (H2.out _)) | (go_at_call 70; exact callsLater (H3.out _)) | (go_at_call 94; exact callsLater (H4.out _)))))
          refine wpQuiet_nil ?_
          rintro w4 ⟨⟨_, hB4⟩, rfl⟩
          have HB4 := hid (bstep HB3.out hB4)
          clear hB4 j4 j5
          go_wp2
          go_ret
          exact ⟨ret_int (by rw [HE.out]), HB4.out⟩
end

end Go.Proofs.Ytnnojhpioenhbaa

namespace Go.Proofs.Ytnnojhpioenhbaa
open Go.RowKit Go.Shelf

set_option maxRecDepth 100000 in
theorem makes_litT (dst : Option Tmp) (ty : TypeId) (pos : String) (after : Array Edge) (x : Tmp) (c : Int) (A : Act) (w : World) (hx : A.eval (.tmp x) = .int .i64 c) :
    makesOp Try.prog { dst := dst, op := .buildSlice 42 1 #[(0, .tmp x)], type := ty, pos := pos, after := after, guard := none } A w fun v s' => Below w.heap.size w s' ∧ (v = .slice (some ⟨w.heap.size, 0, none⟩) 1 1 ∧ s' = w.alloc (.cells #[.int .i64 c] 3)) := by
  unfold makesOp
  simp only [execOp, List.map_toArray, List.map_cons, List.map_nil, hx]
  simp [go_sem]
  exact bnew _ _
theorem Only.of_grown {S : Nat → Prop} {w w' : World} {row : Option Nat} (h : w.grownBy w' row) (hr : ∀ k, row = some k → S k) : Only S w w' :=
  ⟨h.os, h.tape, h.output, h.size, fun k hk hs => h.block k hk fun e => hs (hr k e.symm)⟩
theorem OwnI.only {e B : Nat} {w w' : World} {ao : Option Addr} {n cap : Nat} {xs : List Int} (h : OwnI e B w ao n cap xs) {T : Nat → Prop} (ho : Only T w w') (hT : ∀ k, T k → k < B) : OwnI e B w' ao n cap xs :=
  h.keptIf fun g _ hg hh => ho.block g (Array.getElem?_eq_some_iff.1 hh).1 fun ht => by have := hT g ht; omega

/-- what the loop over the levels that agree keeps -/
structure LvI (w1 : World) (b N Bs : Nat) (L : List Int) (k : Nat) (W : World) : Prop where
  le : k ≤ N
  out : ∃ ao cap, W.heap[b]? = some (.cells #[.slice ao k cap] 42 (0, 0)) ∧ OwnI 3 Bs W ao k cap (L.take k)
  b : Below w1.heap.size w1 W
theorem LvI.only {w1 : World} {b N Bs : Nat} {L : List Int} {k : Nat} {W W' : World} (h : LvI w1 b N Bs L k W) {T : Nat → Prop} (ho : Only T W W') (hT : ∀ k, T k → k < Bs) (hb : ¬ T b) (h1 : ∀ k, k < w1.heap.size → ¬ T k) : LvI w1 b N Bs L k W' := by
  obtain ⟨ao, cap, h2, h3⟩ := h.out
  exact ⟨h.le, ⟨ao, cap, (ho.block b (Array.getElem?_eq_some_iff.1 h2).1 hb).trans h2, h3.only ho hT⟩, h.b.trans (ho.below h.b.size h1)⟩

section
variable (pa : Option Addr) (pc : Nat) (ya : Option Addr) (yc : Nat) (la : Option Addr) (lc : Nat) (sa : Option Addr) (sc : Nat) (B : Bd) (R : Rd) (w : World)
set_option maxRecDepth 100000 in
set_option maxHeartbeats 8000000 in
theorem pLevels_c (hb : BdAt w pa ya B) (hr : RdAt w la sa R) (hl : B.pins.length ≤ 1000000) (hy : B.pays.length ≤ 1000000) (hP : R.plumbs.length ≤ 1000000) (hS : R.slots.length ≤ 1000000) :
    Calls Try.prog 34 #[.agg #[.slice pa B.pins.length pc, .slice ya B.pays.length yc], .agg #[.slice la R.plumbs.length lc, .slice sa R.slots.length sc]] w (SliceE w (levErr B R) (levX B R)) := by
  obtain ⟨V, hV, hB0, k0, k1, k2, k3⟩ := box2 w (.slice pa B.pins.length pc) (.slice ya B.pays.length yc) (.slice la R.plumbs.length lc) (.slice sa R.slots.length sc) 25 51
  have hbV := hb.mono hB0
  have hrV := hr.mono hB0
  have HB0 := hid hB0; have HV := hid hV; have HV0 := hid (Below.refl V.heap.size V)
  have K0 := hid k0; have K1 := hid k1; have K2 := hid k2; have K3 := hid k3
  have hE : levErr B R = if readErr B R = 0 then (if levelsL B R = [] then 18 else 0) else readErr B R := rfl
  have hX : levX B R = if readErr B R = 0 then levelsL B R else [] := rfl
  unfold SliceE
  by_cases h0 : readErr B R = 0
  case neg =>
    have HC := hid fun (w' : World) (h : Below V.heap.size V w') => read_bad pa pc ya yc la lc sa sc B R w' (hbV.mono h) (hrV.mono h) hl hy hP hS h0
    unfold NoFr at HC
    rw [if_neg h0] at hE hX
    rw [hE, hX]
    obtain ⟨v, hv⟩ : ∃ v, v = readErr B R := ⟨_, rfl⟩
    rw [← hv] at HC h0 ⊢
    clear hE hX hv hb hr hl hy hP hS hV hB0 hbV hrV
    go_enter Try.func34, Try.ntmps34
    go_upto_region 1 with (fail)
    rw [← HV.out]
    go_wp2_with fail
    refine (HC.out _ HV0.out).mono ?_
    rintro e w1 ⟨rfl, hB⟩
    have HB1 := hid (bstep HV0.out hB)
    clear hB
    go_wp2
    go_ret2
    exact ⟨none, 0, rfl, .inl rfl, fun _ => rfl, bstep HB0.out HB1.out⟩
  case pos =>
    have HC := hid fun (w' : World) (h : Below V.heap.size V w') => read_ok pa pc ya yc la lc sa sc B R w' (hbV.mono h) (hrV.mono h) hl hy hP hS h0
    unfold NewFr at HC
    obtain ⟨hBk, hRk⟩ := readErr_zero.1 h0
    rw [if_pos h0] at hE hX
    rw [hE, hX]
    obtain ⟨ev, hev⟩ : ∃ ev : Int, ev = if levelsL B R = [] then 18 else 0 := ⟨_, rfl⟩
    rw [← hev]
    have Hev := hid hev
    have hll := levelsL_len B R
    have HbV := hid hbV; have HrV := hid hrV
    clear hE hX hb hr hl hy hP hS hV hB0 hbV hrV h0 hev
    refine callsIn_wide.1 (callsIn_of_wp_marks (n := 0) Try.func34 rfl trivial ?_ rfl)
    simp only [Try.ntmps34, List.size_toArray, List.length_cons, List.length_nil, Nat.reduceAdd, Nat.reduceSub, Array.replicate_succ, Array.replicate_zero, List.push_toArray, List.append_toArray, List.nil_append, List.cons_append]
    refine wpIn_wide.2 ?_
    go_upto_region 1 with (fail)
    rw [← HV.out]
    go_wp2_with fail
    refine (HC.out _ HV0.out).mono ?_
    rintro e w1 ⟨g, rfl, hg, hge, hB⟩
    have hfr := frAt_of hg (HbV.out.mono hB) (HrV.out.mono hB)
    have HB1 := hid hB; have Hfr := hid hfr
    clear hB hg hge k0 k1 k2 k3 hfr
    have HA := hid fun (w' : World) => agreeing_c g w'
    obtain ⟨w3, hw3⟩ : ∃ w3, w3 = (w1.alloc (.cells #[.slice none 0 0] 42)).alloc (.cells #[.pointer (some ⟨g, 0, none⟩)] 88) := ⟨_, rfl⟩
    have hB3 : Below w1.heap.size w1 w3 := by rw [hw3]; exact bstep (bnew _ _) (bnew _ _)
    have hz3 : w3.heap.size = w1.heap.size + 1 + 1 := by rw [hw3]; simp
    have hb3 : w3.heap[w1.heap.size]? = some (.cells #[.slice none 0 0] 42 (0, 0)) := by
      rw [hw3]; exact ((bnew _ _).block _ (by simp)).trans (heap_alloc_new w1 _)
    have hp3 : w3.cell? ⟨w1.heap.size + 1, 0, none⟩ = some (.pointer (some ⟨g, 0, none⟩)) := by
      have h := heap_alloc_new (w1.alloc (.cells #[.slice none 0 0] 42)) (.cells #[.pointer (some ⟨g, 0, none⟩)] 88)
      rw [World.size_alloc, ← hw3] at h
      rw [cell_of_row _ _ _ _ _ _ h]; rfl
    have hGen := agreeing1_c ⟨pa, pc, ya, yc, la, lc, sa, sc⟩ B R (w1.heap.size + 1) g 0 w1 w3 (fun b => b = w1.heap.size ∨ w3.heap.size + 6 ≤ b) (fun _ => False) (fun _ h => h.elim) hBk hRk (by rintro k (h | h) <;> omega) Hfr.out hp3 (by rintro (h | h) <;> omega) hB3
    obtain ⟨L, hL⟩ : ∃ L, L = levelsL B R := ⟨_, rfl⟩
    rw [← hL] at hGen hll
    have HI0 := hid (show LvI w1 w1.heap.size L.length (w3.heap.size + 6) L 0 w3 from ⟨Nat.zero_le _, ⟨none, 0, hb3, by rw [List.take_zero]; exact OwnI.nil _ _ _⟩, hB3⟩)
    have Hgen := hid hGen; have Hz3 := hid hz3; have HW3 := hid hw3
    clear hGen hw3 hB3 hz3 hb3 hp3
    go_wp2_with fail
    refine (HA.out _).mono ?_
    rintro e w4 ⟨rfl, hw4⟩
    rw [World.size_alloc]
    rw [← HW3.out] at hw4
    subst hw4
    go_wp2
    refine (wpIn_wide (n := 0)).1 ?_
    refine range_lawT' (fun v t => t.setIfInBounds 9 (v.getD 0 undef)) rfl enters110 Hgen.out ?hS ⟨id, id⟩ ?hT ?hps ?hX (LvI w1 w1.heap.size L.length (w3.heap.size + 6) L) (fun _ _ _ => False) ?hI (fun _ _ _ _ h => h.elim) ?hIT (fun _ _ _ _ h => h.elim) (fun k W h => h.le) HI0.out ?assign ?body ?done (fun _ _ _ h => h.elim)
    case hS => have := Hz3.out; refine ⟨fun h => ?_, fun h => ?_⟩ <;> rcases h with h | h <;> omega
    case hT => refine ⟨fun h => ?_, fun h => ?_⟩ <;> omega
    case hps => rintro k v W ⟨g, rfl, _⟩; rfl
    case hX => intro k v W W' hv ho; exact hv.only ho (by omega) (by have := Hz3.out; omega)
    case hI =>
      intro k W' W'' h ho
      have e1 := Hz3.out
      exact h.only ho (fun k e => by have e' : k = w3.heap.size + 1 := e; omega) (fun e => by have e' : w1.heap.size = w3.heap.size + 1 := e; omega) (fun k hk e => by have e' : k = w3.heap.size + 1 := e; omega)
    case hIT =>
      intro k W' W'' h ho
      have e1 := Hz3.out
      exact h.only ho (fun k e => by have := e.2; omega) (fun e => by have := e.1; omega) (fun k hk e => by have := e.1; omega)
    case assign =>
      intro l k v W K hx hK
      obtain ⟨g', rfl, _⟩ := hx
      conv in (Act.mk _ _) => simp
      gi_wp2
      simpa using hK
    case body =>
      intro k v W' hW' hI hX hkl
      obtain ⟨g', rfl, hg5, hgs, hgh, hgB⟩ := hX
      obtain ⟨ao, cap, hbx, hown⟩ := hI.out
      have c4 : W'.cell? ⟨g', 4, none⟩ = some (.int .i64 (nth L k)) := by rw [cell_of_row _ _ _ _ _ _ hgh]; rfl
      have cb : W'.cell? ⟨w1.heap.size, 0, none⟩ = some (.slice ao k cap) := by rw [cell_of_row _ _ _ _ _ _ hbx]; rfl
      have hsz : w3.heap.size + 6 ≤ W'.heap.size := by omega
      have htk := take_succ_nth hkl
      obtain ⟨c, hc⟩ : ∃ c, c = nth L k := ⟨_, rfl⟩
      rw [← hc] at c4 htk
      have i1 := fun (J : World → Prop) (s : LaterJ W' J) => cstep c4 s.h
      have i2 := fun (J : World → Prop) (s : LaterJ W' J) => cstep cb s.h
      have HIb := hid hI.b; have Hbx := hid hbx; have Hown := hid hown; have Htk := hid htk
      clear hI hgB hgh hbx hown c4 cb hc htk
      conv in (Act.mk _ _) => simp
      gi_wp2
      refine wpIn_region_mix (n := 6) (nz := [(5, 27)]) (dp := fun _ => []) (bs := [false, false, false, false, false, true, true, true]) (Φ := fun _ _ v p q => v = .slice (some ⟨p.heap.size, 0, none⟩) 1 1 ∧ q = p.alloc (.cells #[.int .i64 c] 3)) mix8 (by kernel_rfl) (by simp) (by simp) ?_
      simp only [blindL, blindO, if_true, Bool.false_eq_true, if_false]
      repeat (gi_big_quiet_step (fail))
      refine wpQuietIn_nil ?_
      refine ⟨?_, ?_⟩
      · intro J hJ hne
        repeat (gi_big_quiet_step (fail))
        exact wpQuietIn_nil rfl
      · refine mixAsk1 _ rfl (fun u s _ => makes_litT _ _ _ _ 26 c _ s rfl) ?_
        intro u p q s hp hu hq hs
        obtain ⟨rfl, hqe⟩ := hu
        have hcs : CellsAt s (some ⟨p.heap.size, 0, none⟩) [.int .i64 c] := by
          refine CellsAt.mono (w := q) ?_ hq
          rw [hqe]
          exact CellsAt.of_heap (heap_alloc_new _ _) fun j v hj => by simpa using hj
        have hsz2 : w3.heap.size + 6 ≤ s.heap.size := Nat.le_trans hsz hs.size
        have hown2 := Hown.out.kept hs
        have hbx2 := (hs.block _ (Array.getElem?_eq_some_iff.1 Hbx.out).1).trans Hbx.out
        have hk1 : k + 1 ≤ 1000000 := by omega
        have Hbx2 := hid hbx2; have Hs := hid hs
        simp only [List.drop_succ_cons, List.drop_zero, Act.put, List.setIfInBounds_toArray, List.set_cons_succ, List.set_cons_zero]
        refine wpListIn_appV et42 s rfl (.tmp 22) (.tmp 27) rfl (w3.heap.size + 6) ao k cap (intv (L.take k)) rfl hown2.2 (some ⟨p.heap.size, 0, none⟩) 1 1 _ rfl hcs rfl (by simp [Value.oneCell']) (fun h => by cases h) hk1 hsz2 ?_
        intro ao' cap' w' hB' hown' hgr' hn'
        have hl1 : (L.take k).length = k := by rw [List.length_take]; omega
        have hown3 : OwnI 3 (w3.heap.size + 6) w' ao' (k + 1) cap' (L.take k ++ [c]) := OwnI.app hl1 rfl hown'
        have hbx3 : w'.heap[w1.heap.size]? = some (.cells #[.slice ao k cap] 42 (0, 0)) := (hB'.block _ (by have := Hz3.out; omega)).trans Hbx2.out
        have cb : w'.cell? ⟨w1.heap.size, 0, none⟩ = some (.slice ao k cap) := by rw [cell_of_row _ _ _ _ _ _ hbx3]; rfl
        have fb : w'.frozen? ⟨w1.heap.size, 0, none⟩ = false := frozen_of_row _ _ 0 _ _ hbx3
        have hO : Only (fun b => b = w1.heap.size ∨ w3.heap.size + 6 ≤ b) W' (w'.setCell ⟨w1.heap.size, 0, none⟩ (.slice ao' (k + 1) cap')) := by
          refine Only.setCell ((Only.of_below Hs.out).trans (Only.of_grown hgr' fun j e => .inr ?_)) (.inl rfl) _
          exact (OwnV.block hown2.2 e).1
        have hfin : (w'.setCell ⟨w1.heap.size, 0, none⟩ (.slice ao' (k + 1) cap')).heap[w1.heap.size]? = some (.cells #[.slice ao' (k + 1) cap'] 42 (0, 0)) := heap_setCell_same w' _ 0 _ 42 _ hbx3
        have HR := hid (show Only (fun b => b = w1.heap.size ∨ w3.heap.size + 6 ≤ b) W' (w'.setCell ⟨w1.heap.size, 0, none⟩ (.slice ao' (k + 1) cap')) ∧ LvI w1 w1.heap.size L.length (w3.heap.size + 6) L (k + 1) (w'.setCell ⟨w1.heap.size, 0, none⟩ (.slice ao' (k + 1) cap')) from
          ⟨hO, by omega, ⟨ao', cap', hfin, by
            rw [Htk.out]
            exact hown3.keptIf fun g _ hg _ => Below.heap_setCell _ _ _ _ (fun e => by have := Hz3.out; have e' : g = w1.heap.size := e; omega)⟩,
            ((bstep HIb.out Hs.out).trans (hB'.mono (by have := Hz3.out; omega))).setCell (Nat.le_refl _) _⟩)
        clear hB' hown' hgr' hn' hcs hown2 hbx2 hown3 hbx3 hO hfin hp hq hs i1 i2
        gi_wp2
        exact HR.out
    case done =>
      rintro k W' hk hI hD hlt
      obtain rfl : k = L.length := hk
      obtain ⟨ao, cap, hbx, hown⟩ := hI.out
      rw [List.take_length] at hown
      have cb : W'.cell? ⟨w1.heap.size, 0, none⟩ = some (.slice ao L.length cap) := by rw [cell_of_row _ _ _ _ _ _ hbx]; rfl
      have HD := hid hD; have Hown := hid hown; have HIb := hid hI.b
      have hLe : (levelsL B R = []) ↔ L.length = 0 := by rw [← hL]; exact List.length_eq_zero_iff.symm
      have hlx : levelsL B R = L := hL.symm
      have HP := hid (Only.put1 W' w3.heap.size (.deferred none))
      have Hlx := hid hlx
      clear hbx hown hI hD hL hlx
      by_cases hn : L.length = 0
      · have hnI : (L.length : Int) = 0 := by omega
        have hLn := hLe.2 hn
        have HLn := hid hLn
        have Hev2 := hid (show ev = 18 by rw [Hev.out, if_pos hLn])
        clear hLe hn hLn
        go_wp2
        refine ⟨by simp, .inl ⟨_, _, rfl, run_takeDeferred HD.out, ?_⟩⟩
        refine ⟨_, results_tmp2 rfl _ _ _, none, 0, ?_, (.inl (by rw [HLn.out])), fun _ => rfl, bstep HB0.out (bstep HB1.out (HIb.out.trans (HP.out.below HIb.out.size (by intro j hj e; have e' : j = w3.heap.size := e; have := Hz3.out; omega))))⟩
        rw [HLn.out, Hev2.out]; rfl
      · have hnI : ¬ (L.length : Int) = 0 := by omega
        have hLn : ¬ levelsL B R = [] := fun h => hn (hLe.1 h)
        have Hev2 := hid (show ev = 0 by rw [Hev.out, if_neg hLn])
        clear hLe hn hLn
        go_wp2
        refine ⟨by simp, .inl ⟨_, _, rfl, run_takeDeferred HD.out, ?_⟩⟩
        have hown2 := Hown.out.only HP.out (fun j e => by have e' : j = w3.heap.size := e; omega)
        refine ⟨_, results_tmp2 rfl _ _ _, ao, cap, ?_, (by rw [Hlx.out]; exact hown2.at), fun h => (Hown.out.none h).2, bstep HB0.out (bstep HB1.out (HIb.out.trans (HP.out.below HIb.out.size (by intro j hj e; have e' : j = w3.heap.size := e; have := Hz3.out; omega))))⟩
        rw [Hlx.out, Hev2.out]; rfl
end

end Go.Proofs.Ytnnojhpioenhbaa
