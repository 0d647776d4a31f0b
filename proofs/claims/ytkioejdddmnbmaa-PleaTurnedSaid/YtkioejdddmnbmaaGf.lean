/- Walk: slices.Backward (an iterator). Plain: the steps that a desk hands back; what its map of needed facts holds. Walk: the steps of a desk. Walks: Steps, Clash of the program. -/
import Derived.Test.YtkioejdddmnbmaaGe
import Derived.Test.YtkioejdddmnbmaaGd
import Derived.Maps.Ext
import Derived.Maps.OwnIn
import Derived.Test.YtkioejdddmnbmaaGa
import Derived.Deep.RegionLaw
namespace Go.Proofs.Ytkioejdddmnbmaa
open Go.RowKit Go.Shelf
attribute [local go_sem] Oper.semAt_some

set_option maxRecDepth 100000 in
theorem backwardSeq_c (a : Option Addr) (n c : Nat) (w : World) :
    Calls Try.prog 96 #[.slice a n c] w fun e w' => e = .returned (.func (.func 99) #[] #[.pointer (some ⟨w.heap.size, 0, none⟩)]) ∧ w.alloc (.cells #[.slice a n c] 22) = w' := by
  go_enter Try.func96, Try.ntmps96
  go_wp2
  go_ret
  exact ⟨rfl, rfl⟩

theorem enters99 : ∀ args w, (callFunc 99 args).run Try.prog w = .ok (.enter 99 args) w := enters_of Try.func99 (by kernel_rfl) rfl

def bwX (l : List Int) (k : Nat) (v : Array Value) (_ : World) : Prop := v = #[.int .i64 ((l.length - 1 - k : Nat) : Int), .int .i64 (nth l (l.length - 1 - k))]

set_option maxRecDepth 100000 in
set_option maxHeartbeats 4000000 in
theorem backward1_c (bx : Nat) (a : Option Addr) (c : Nat) (l : List Int) (w1 w0 : World) (S : Nat → Prop)
    (hS : ∀ k, S k → w1.heap.size ≤ k ∧ k < w0.heap.size) (hat : IntsAt w1 a l) (hp0 : w0.cell? ⟨bx, 0, none⟩ = some (.slice a l.length c)) (hpS : ¬ S bx) (hB0 : Below w1.heap.size w1 w0) (hl : l.length ≤ 1000000) :
    Gen Try.prog 99 #[.pointer (some ⟨bx, 0, none⟩)] S (bwX l) l.length l.length (fun k => k = l.length) w0 := by
  intro y J Jx W hW hyW hyt hJ hJx hN hY h0
  refine callsIn_of_wp Try.func99 rfl trivial ?_ rfl
  simp only [Try.ntmps99, List.size_toArray, List.length_cons, List.length_nil, Nat.reduceAdd, Nat.reduceSub, Array.replicate_succ, Array.replicate_zero, List.push_toArray, List.append_toArray, List.nil_append, List.cons_append]
  have HBW := hid (show Below w1.heap.size w1 W from hB0.trans (hW.mono hB0.size))
  have HA := hid fun (w' : World) (h : Below w1.heap.size w1 w') => hat.mono h
  have d0 := cstep hp0 hW
  have D0 := hid d0
  have hbl : bx ≠ y := by have := block_lt_of_cell hp0; simp at this; omega
  have HY := hid hY; have HJ := hid hJ; have HN := hid hN; have H0 := hid h0; have HS := hid hS
  have Hy := hid (show w1.heap.size ≤ y from Nat.le_trans hB0.size hyW)
  clear hp0 hat hB0 hY hJ hN h0 hS hJx hW hyW
  gi_wp2
  gi_loopw [3] (fun i wr => ∃ k : Nat, k ≤ l.length ∧ i = .int .i64 ((l.length : Int) - 1 - (k : Int)) ∧ J k wr ∧ Below w1.heap.size w1 wr ∧ wr.cell? ⟨bx, 0, none⟩ = some (.slice a l.length c)) (fun i _ => (intOf i + 1).toNat)
  case atStart => exact ⟨0, Nat.zero_le _, by simp, H0.out, HBW.out, D0.out⟩
  case round =>
    obtain ⟨k, hk, rfl, hJk, hB, e0⟩ := hrel
    obtain ⟨wo, rfl⟩ : ∃ wo : World, wo = wr := ⟨_, rfl⟩
    have HJk := hid hJk; have HB := hid hB; have E0 := hid e0
    clear hJk hB d0
    by_cases hlt : k < l.length
    · have hj : (l.length : Int) - 1 - (k : Int) = ((l.length - 1 - k : Nat) : Int) := by omega
      rw [hj]
      obtain ⟨b, off, rfl, hc⟩ := (HA.out _ HB.out).at (k := l.length - 1 - k) (by omega)
      obtain ⟨fn, tmps, assign, body, hy, hR⟩ := HY.out k #[.int .i64 ((l.length - 1 - k : Nat) : Int), .int .i64 (nth l (l.length - 1 - k))] wo HJk.out rfl hlt
      obtain ⟨j, hje⟩ : ∃ j, j = l.length - 1 - k := ⟨_, rfl⟩
      rw [← hje] at hc hy ⊢
      obtain ⟨x, hx⟩ : ∃ x, x = nth l j := ⟨_, rfl⟩
      rw [← hx] at hc hy
      have HR := hid hR; have Hje := hid hje
      have hj2 : j < l.length := by omega
      clear hR hx hj hje
      gi_wp2
      refine ⟨rfl, HR.out.mono ?_⟩
      rintro e W3 (⟨rfl, hJ3, hO3⟩ | ⟨rfl, hJ3⟩)
      · have hB3 : Below w1.heap.size w1 W3 := HB.out.trans (hO3.below HB.out.size (by
          rintro j hj (h | h)
          · have := (HS.out _ h).1; omega
          · have := Hy.out; omega))
        have g3 := hO3.cell E0.out (by rintro (h | h); exact hpS h; exact hbl h)
        have HJ3 := hid hJ3; have HB4 := hid hB3; have G3 := hid g3
        clear hJ3 hO3 hB3 g3 hy hc e0
        gi_wp2
        go_roundw
        case rel => exact ⟨k + 1, by omega, by congr 1; have := Hje.out; omega, HJ3.out, HB4.out, G3.out⟩
        case measure => simp [intOf]
      · have HJ3 := hid hJ3
        clear hJ3 hy hc e0
        gi_wp2
        refine bodyPost_ret (results_none rfl _ _ _) rfl ?_
        exact ⟨⟨_, rfl⟩, .inr ⟨_, HJ3.out⟩⟩
    · obtain rfl : k = l.length := by omega
      have hneg : (l.length : Int) - 1 - (l.length : Int) = -1 := by omega
      rw [hneg]
      gi_wp2
      refine bodyPost_end (results_none rfl _ _ _) rfl ?_
      exact ⟨⟨_, rfl⟩, .inl ⟨_, rfl, HJk.out⟩⟩

end Go.Proofs.Ytkioejdddmnbmaa

namespace Go.Proofs.Ytkioejdddmnbmaa
open Go.RowKit Go.Shelf

def ordAt (ord : List (Nat × Nat)) (k : Nat) : Nat × Nat := ord.getD k (0, 0)
def moreTo (m l : List Int) : Nat → List Int
  | 0 => m
  | k + 1 => (moreTo m l k).set (nth l k).toNat 1
theorem moreTo_length (m l : List Int) : ∀ k, (moreTo m l k).length = m.length
  | 0 => rfl
  | k + 1 => by rw [moreTo, List.length_set, moreTo_length m l k]
/-- the facts that are wanted behind k facts, from the last one back -/
def wm (rs : List Rl) (ord : List (Nat × Nat)) (m0 : List Int) : Nat → List Int
  | 0 => m0
  | k + 1 => if nth (wm rs ord m0 k) (ordAt ord (ord.length - 1 - k)).1 = 0 then wm rs ord m0 k else moreTo (wm rs ord m0 k) (nthR rs (ordAt ord (ord.length - 1 - k)).2).1 (nthR rs (ordAt ord (ord.length - 1 - k)).2).1.length
theorem wm_length {rs : List Rl} {ord : List (Nat × Nat)} {m0 : List Int} (h : m0.length = 12) : ∀ k, (wm rs ord m0 k).length = 12
  | 0 => h
  | k + 1 => by
    rw [wm]; split
    · exact wm_length h k
    · rw [moreTo_length]; exact wm_length h k
/-- the map of needed facts behind k facts -/
def dm (rs : List Rl) (ord : List (Nat × Nat)) (m0 : List Int) : Nat → DataW Unit
  | 0 => MD ord
  | k + 1 => if nth (wm rs ord m0 k) (ordAt ord (ord.length - 1 - k)).1 = 0 then (dm rs ord m0 k).del (factKey (ordAt ord (ord.length - 1 - k)).1) else dm rs ord m0 k
def keepAt (rs : List Rl) (ord : List (Nat × Nat)) (m0 : List Int) (j : Nat) : Bool := nth (wm rs ord m0 (ord.length - 1 - j)) (ordAt ord j).1 != 0
def stepsTo (rs : List Rl) (ord : List (Nat × Nat)) (m0 : List Int) : Nat → List Int
  | 0 => []
  | k + 1 => if keepAt rs ord m0 k = true then stepsTo rs ord m0 k ++ [((ordAt ord k).2 : Int)] else stepsTo rs ord m0 k
def stepsM (rs : List Rl) (ord : List (Nat × Nat)) (m0 : List Int) : List Int := stepsTo rs ord m0 ord.length
theorem stepsTo_length (rs : List Rl) (ord : List (Nat × Nat)) (m0 : List Int) : ∀ k, (stepsTo rs ord m0 k).length ≤ k
  | 0 => Nat.le_refl _
  | k + 1 => by
    have := stepsTo_length rs ord m0 k
    rw [stepsTo]; split
    · rw [List.length_append]; show _ + 1 ≤ _; omega
    · omega

/-- facts of an order are below 12, each once, with rules -/
structure OrdF (rs : List Rl) (ord : List (Nat × Nat)) : Prop where
  len : ord.length ≤ 12
  f : ∀ k, k < ord.length → (ordAt ord k).1 < 12 ∧ (ordAt ord k).2 < rs.length
  ne : ∀ j k, j < k → k < ord.length → (ordAt ord j).1 ≠ (ordAt ord k).1

theorem ordAt_eq {ord : List (Nat × Nat)} {k : Nat} (h : k < ord.length) : ordAt ord k = ord[k] := by
  unfold ordAt; rw [List.getD_eq_getElem?_getD, List.getElem?_eq_getElem h]; rfl
theorem OrdOk.ordF {rs : List Rl} {S : Nat → Prop} {ord : List (Nat × Nat)} (h : OrdOk rs S ord) (hl : ord.length ≤ 12) : OrdF rs ord := by
  have hs : ∀ k (hk : k < ord.length), ord = ord.take k ++ ord[k] :: ord.drop (k + 1) := fun k hk => by
    rw [← List.drop_eq_getElem_cons hk, List.take_append_drop]
  refine ⟨hl, fun k hk => ?_, fun j k hjk hk => ?_⟩
  · have := h _ _ _ (hs k hk)
    rw [ordAt_eq hk]
    exact ⟨this.2.2.1, this.1⟩
  · have := (h _ _ _ (hs k hk)).2.2.2.2.1
    rw [ordAt_eq hk, ordAt_eq (by omega)]
    intro e
    refine this (List.mem_map.2 ⟨ord[j], ?_, e⟩)
    rw [List.mem_take_iff_getElem]
    exact ⟨j, by omega, rfl⟩

theorem md_isMap {H : Type} : ∀ (l : List (Nat × Nat)), Maps.IsMap (MD (H := H) l) := by
  intro l
  have : ∀ (l : List (Nat × Nat)) (D : DataW H), Maps.IsMap D → Maps.IsMap (l.foldl (fun D p => D.put (factKey p.1) (.lit (.int .i64 (p.2 : Int)))) D) := by
    intro l
    induction l with
    | nil => intro D h; exact h
    | cons p l ih => intro D h; exact ih _ (h.put _ _)
  exact this l _ Maps.isMap_empty

theorem md_at' {H : Type} : ∀ (n : Nat) (l : List (Nat × Nat)), l.length = n → (∀ k, k < l.length → (ordAt l k).1 < 12) → (∀ j k, j < k → k < l.length → (ordAt l j).1 ≠ (ordAt l k).1) → ∀ j, j < l.length →
    Maps.has (MD (H := H) l) (factKey (ordAt l j).1) = true ∧ ∀ z, (MD (H := H) l).atKey (factKey (ordAt l j).1) z = .lit (.int .i64 ((ordAt l j).2 : Int)) := by
  intro n
  induction n with
  | zero => intro l hl _ _ j hj; omega
  | succ n ihn =>
    intro l hln
    rcases List.eq_nil_or_concat l with rfl | ⟨l', p, hl⟩
    · cases hln
    rw [List.concat_eq_append] at hl
    subst hl
    have hlen : (l' ++ [p]).length = l'.length + 1 := by simp
    intro h12 hne j hj
    have hat : ∀ k, k < l'.length → ordAt (l' ++ [p]) k = ordAt l' k := fun k hk => by
      unfold ordAt; rw [List.getD_eq_getElem?_getD, List.getD_eq_getElem?_getD, List.getElem?_append_left hk]
    have hlast : ordAt (l' ++ [p]) l'.length = p := by unfold ordAt; simp [List.getD_eq_getElem?_getD]
    by_cases e : j = l'.length
    · subst e
      rw [hlast, md_append]
      exact ⟨Maps.has_put_same (md_isMap l') (isKey _) _, fun z => Maps.atKey_put_same (md_isMap l') (isKey _) _ _⟩
    · have hj' : j < l'.length := by omega
      have ih := ihn l' (by omega) (fun k hk => by rw [← hat k hk]; exact h12 k (by omega)) (fun a b h1 h2 => by rw [← hat a (by omega), ← hat b h2]; exact hne a b h1 (by omega)) j hj'
      have hk : factKey (ordAt l' j).1 ≠ factKey p.1 := by
        intro e2
        have h1 := h12 j (by omega)
        have h2 := h12 l'.length (by omega)
        have h3 := hne j l'.length hj' (by omega)
        rw [hlast] at h2 h3
        rw [hat j hj'] at h1 h3
        exact h3 (factKey_inj h1 h2 e2)
      rw [hat j hj', md_append]
      exact ⟨by rw [Maps.has_put_other hk]; exact ih.1, fun z => by rw [Maps.atKey_put_other hk]; exact ih.2 z⟩

theorem dm_at {rs : List Rl} {ord : List (Nat × Nat)} (h : OrdF rs ord) (m0 : List Int) {j : Nat} (hj : j < ord.length) : ∀ k, k ≤ ord.length →
    Maps.has (dm rs ord m0 k) (factKey (ordAt ord j).1) = (decide (j + k < ord.length) || keepAt rs ord m0 j) ∧ ((decide (j + k < ord.length) || keepAt rs ord m0 j) = true → ∀ z, (dm rs ord m0 k).atKey (factKey (ordAt ord j).1) z = .lit (.int .i64 ((ordAt ord j).2 : Int)))
  | 0, _ => by
    have := md_at' (H := Unit) ord.length ord rfl (fun k hk => (h.f k hk).1) h.ne j hj
    rw [dm, decide_eq_true (by omega), Bool.true_or]
    exact ⟨this.1, fun _ => this.2⟩
  | k + 1, hk => by
    have ih := dm_at h m0 hj k (by omega)
    rw [dm]
    by_cases e : j = ord.length - 1 - k
    · have hjk : ord.length - 1 - j = k := by omega
      have hkp : keepAt rs ord m0 j = (nth (wm rs ord m0 k) (ordAt ord j).1 != 0) := by unfold keepAt; rw [hjk]
      rw [decide_eq_true (by omega), Bool.true_or] at ih
      rw [decide_eq_false (by omega), Bool.false_or, hkp, ← e]
      split
      · rename_i hz
        rw [hz]
        exact ⟨Maps.has_del_same, fun h => by simp at h⟩
      · rename_i hz
        have hb : (nth (wm rs ord m0 k) (ordAt ord j).1 != 0) = true := by simpa using hz
        rw [hb]
        exact ⟨ih.1, fun _ => ih.2 rfl⟩
    · have hne : factKey (ordAt ord j).1 ≠ factKey (ordAt ord (ord.length - 1 - k)).1 := by
        intro e2
        have h1 := (h.f j hj).1
        have h2 := (h.f (ord.length - 1 - k) (by omega)).1
        have h3 := factKey_inj h1 h2 e2
        rcases Nat.lt_or_gt_of_ne e with h4 | h4
        · exact h.ne _ _ h4 (by omega) h3
        · exact h.ne _ _ h4 hj h3.symm
      have hd : decide (j + (k + 1) < ord.length) = decide (j + k < ord.length) := by
        rw [decide_eq_decide]; omega
      rw [hd]
      split
      · exact ⟨by rw [Maps.has_del_other hne]; exact ih.1, fun hb z => by rw [Maps.atKey_del_other hne]; exact ih.2 hb z⟩
      · exact ih

theorem dm_end {rs : List Rl} {ord : List (Nat × Nat)} (h : OrdF rs ord) (m0 : List Int) {j : Nat} (hj : j < ord.length) :
    Maps.has (dm rs ord m0 ord.length) (factKey (ordAt ord j).1) = keepAt rs ord m0 j ∧ (keepAt rs ord m0 j = true → ∀ z, (dm rs ord m0 ord.length).atKey (factKey (ordAt ord j).1) z = .lit (.int .i64 ((ordAt ord j).2 : Int))) := by
  have := dm_at h m0 hj ord.length (Nat.le_refl _)
  rw [decide_eq_false (by omega), Bool.false_or] at this
  exact this

end Go.Proofs.Ytkioejdddmnbmaa

namespace Go.Proofs.Ytkioejdddmnbmaa
open Go.RowKit Go.Shelf Go.Maps
attribute [local go_sem ↓] wp_get wp_get0 wp_getS wp78 wps78 wpa78 wpi78 wpai78
attribute [local go_sem] Oper.semAt_some mm80

set_option maxRecDepth 100000 in
theorem keyOf107_inv {key : Value} {kl : Lit} (h : keyOf Try.prog 107 key = some kl) : (∃ x, key = .agg #[.int .i64 x]) ∧ WideAt.IsKeyLit kl := by
  unfold keyOf at h
  rw [Try.underlying107] at h
  simp only at h
  split at h
  · rename_i hc
    obtain ⟨ls, hls, rfl⟩ := Option.map_eq_some_iff.1 h
    refine ⟨?_, trivial⟩
    rw [Bool.and_eq_true] at hc
    cases key with
    | agg cs =>
      obtain ⟨cl⟩ := cs
      have hsz : cl.length = 1 := by
        have := hc.2
        simp [Value.formed, Try.underlying107, cells107] at this
        exact this
      match cl, hsz with
      | [v], _ =>
        have hn : ∃ d, Try.prog.types.size + 1 = d + 2 := ⟨Try.prog.types.size - 1, by
          have : 2 ≤ Try.prog.types.size := of_decide_eq_true (by kernel_rfl)
          omega⟩
        obtain ⟨d, hd⟩ := hn
        rw [hd] at hls
        unfold Program.keyLits at hls
        rw [Try.underlying107] at hls
        simp [cells107, cells3, Value.cells, Program.keyLits, Try.underlying3] at hls
        cases v with
        | int q n =>
          by_cases hq : q = .i64 ∧ (Lit.int .i64 n).wf = true
          · obtain ⟨rfl, _⟩ := hq; exact ⟨n, rfl⟩
          · simp [hq] at hls
        | _ => simp at hls
    | _ => simp [Value.formed, Try.underlying107] at hc
  · cases h

/-- the law of ranges, the frame of a round told by what the assignment does -/
theorem range_law' {P : Program} {op : Operand} {ps : Array Tmp} {assign body : Code} {Q : Exit → Act → World → Prop} {a : Act} {w : World} (gs : Array Value → Array Value → Array Value)
    {gf : Nat} {lb : Array Value} (hg : a.eval op = .func (.func gf) #[] lb) (eg : ∀ args w, (callFunc gf args).run P w = .ok (.enter gf args) w)
    {S : Nat → Prop} {X : Nat → Array Value → World → Prop} {L N : Nat} {Done : Nat → Prop} (hseq : Gen P gf lb S X L N Done w)
    (hS : ¬ S w.heap.size ∧ ¬ S (w.heap.size + 1)) (hps : ∀ k v W, X k v W → v.size = ps.size)
    (hX : ∀ k v W W', X k v W → Only (fun b => b = w.heap.size + 1) W W' → X k v W')
    (I : Nat → World → Prop)
    (hI : ∀ k W W', I k W → Only (fun b => b = w.heap.size + 1) W W' → I k W')
    (hN : ∀ k W, I k W → k ≤ N) (h0 : I 0 w)
    (hassign : ∀ (l k : Nat) (v : Array Value) (W : World) (K : Act → World → Prop), X k v W → K { tmps := gs v ((ps.zip v).foldl (fun t (p, v) => t.setIfInBounds p v) a.tmps), defers := [] } W →
      assign.wpIn (Fence.wide.inRound l) 0 P (Exit.then K (fun _ _ _ => False)) { tmps := (ps.zip v).foldl (fun t (p, v) => t.setIfInBounds p v) a.tmps, defers := [] } W)
    (hbody : ∀ (k : Nat) (v : Array Value) (W : World), w.heap.size + 1 < W.heap.size → I k W → X k v W → k < L → body.wpIn (Fence.wide.inRound (w.heap.size + 1)) 0 P (roundEnds S I (fun _ _ _ => False) k W) { tmps := gs v ((ps.zip v).foldl (fun t (p, v) => t.setIfInBounds p v) a.tmps), defers := [] } W)
    (hdone : ∀ (k : Nat) (W : World), Done k → I k W → W.heap[w.heap.size]? = some (.deferred (some [])) → w.heap.size < W.heap.size →
      Q .normal { a with defers := { target := .collected w.heap.size, args := #[] } :: a.defers } W) :
    (Code.rangeFunc op ps assign body).wpIn Fence.wide 0 P Q a w :=
  range_law hg eg hseq hS hps hX I (fun _ _ _ => False) hI (fun _ _ _ _ h => h.elim) hN h0 (fun v => { tmps := gs v ((ps.zip v).foldl (fun t (p, v) => t.setIfInBounds p v) a.tmps), defers := [] }) hassign hbody hdone (fun _ _ _ h => h.elim)

theorem ownI_ge {B : Nat} {w : World} {ao : Option Addr} {n cap : Nat} {xs : List Int} (h : OwnI B w ao n cap xs) {b off : Nat} (e : ao = some ⟨b, off, none⟩) : B ≤ b := by
  obtain ⟨hn, (⟨e2, _⟩ | ⟨g', c, cur, e2, hge, hh, hr⟩)⟩ := h.2
  · cases e2; cases e
  · cases e2; cases e; exact hge

theorem ownI_cap {B : Nat} {w : World} {ao : Option Addr} {n cap : Nat} {xs : List Int} (h : OwnI B w ao n cap xs) : n ≤ cap := by
  obtain ⟨hn, (⟨e2, h0⟩ | ⟨g', c, cur, e2, hge, hh, hc, hr⟩)⟩ := h.2
  · cases e2; omega
  · cases e2; exact hc
/-- a list is handed back, with room -/
def OwnC (w : World) (xs : List Int) (e : Ending) (w' : World) : Prop := ∃ ao cap, e = .returned (.slice ao xs.length cap) ∧ IntsAt w' ao xs ∧ (ao = none → cap = 0) ∧ xs.length ≤ cap ∧ Below w.heap.size w w'

/-- what the loop over the order keeps -/
structure StI (w : World) (g m8 b9 b5 mb : Nat) (rs : List Rl) (ord : List (Nat × Nat)) (m0 : List Int) (k : Nat) (W : World) : Prop where
  le : k ≤ ord.length
  mk0 : W.heap[m8]? = some (.cells (intv (wm rs ord m0 k)).toArray 78 (0, 0))
  fn : W.heap[b9]? = some (.cells #[.func (.func 73) #[.agg (intv (wm rs ord m0 k)).toArray] #[]] 90 (0, 0))
  mp : W.ownsMap (H := Unit) Try.prog 107 (plainElem Try.prog 3) mb ord.length (dm rs ord m0 k)
  c5 : W.cell? ⟨b5, 0, none⟩ = some (.map (some mb))
  cx : W.cell? ⟨w.heap.size, 0, none⟩ = some (.pointer (some ⟨g, 0, none⟩))
  b : Below w.heap.size w W
theorem StI.only {w : World} {g m8 b9 b5 mb : Nat} {rs : List Rl} {ord : List (Nat × Nat)} {m0 : List Int} {k : Nat} {W W' : World} (h : StI w g m8 b9 b5 mb rs ord m0 k W) {l : Nat} (ho : Only (fun b => b = l) W W') (h1 : m8 ≠ l) (h2 : b9 ≠ l) (h3 : b5 ≠ l) (h4 : mb ≠ l) (h5 : w.heap.size < l) :
    StI w g m8 b9 b5 mb rs ord m0 k W' :=
  ⟨h.le, (ho.block _ (Array.getElem?_eq_some_iff.1 h.mk0).1 h1).trans h.mk0, (ho.block _ (Array.getElem?_eq_some_iff.1 h.fn).1 h2).trans h.fn,
    h.mp.kept (row := some l) ⟨ho.os, ho.tape, ho.output, ho.size, fun j hj hs => ho.block j hj (fun e => hs (by rw [e]))⟩ (by simpa using h4), ho.cell h.c5 h3, ho.cell h.cx (by show ¬ w.heap.size = l; omega), h.b.trans (ho.below h.b.size (by intro j hj e; have e' : j = l := e; omega))⟩

set_option maxRecDepth 100000 in
set_option maxHeartbeats 4000000 in
theorem steps_c (B : Nat) (g bm : Nat) (oa : Option Addr) (oc : Nat) (c0 c1 : Value) (ra : Option Addr) (rc : Nat) (rs : List Rl) (known : List Int) (ord : List (Nat × Nat)) (clash : Int) (fa : Option Addr) (fc : Nat) (fs : List Int) (w : World)
    (hd : DeskAt B w g bm oa oc c0 c1 (.slice ra rs.length rc) known ord ord clash) (hr : RulesAt w ra rs) (hro : rulesOk rs) (_hrl : rs.length ≤ 1000000) (hof : OrdF rs ord) (hf : IntsAt w fa fs) (hfl : fs.length ≤ 1000000) (hff : factsOk fs) :
    Calls Try.prog 74 #[.pointer (some ⟨g, 0, none⟩), .slice fa fs.length fc] w (OwnC w (stepsM rs ord (markL fs))) := by
  have Hd := hid hd; have Hr := hid hr; have Hro := hid hro; have Hof := hid hof; have Hf := hid hf; have Hff := hid hff
  obtain ⟨R, hR⟩ : ∃ R, R = stepsM rs ord (markL fs) := ⟨_, rfl⟩
  rw [← hR]
  have HR := hid hR
  clear hR
  have km := hd.kM
  have hbm := hd.map.lt
  have hgs := hd.size
  have hsz : size (MD (H := Unit) ord) ≤ ord.length := hd.map.size_le
  have hol := hof.len
  have Hsz := hid hsz
  clear hd hr hro hof hf hff hsz
  refine callsIn_wide.1 (callsIn_of_wp_marks (n := 0) Try.func74 rfl trivial ?_ rfl)
  simp only [Try.ntmps74, List.size_toArray, List.length_cons, List.length_nil, Nat.reduceAdd, Nat.reduceSub, Array.replicate_succ, Array.replicate_zero, List.push_toArray, List.append_toArray, List.nil_append, List.cons_append]
  refine wpIn_wide.2 ?_
  have e1 : (((w.alloc (.cells #[.pointer (some ⟨g, 0, none⟩)] 73)).alloc (.map #[] 0)).alloc (.cells #[.map (some (w.heap.size + 1))] 80)).heap.size = w.heap.size + 1 + 1 + 1 := by simp
  have hmap3 := ((Hd.out.map.kept (row := none) (w' := ((w.alloc (.cells #[.pointer (some ⟨g, 0, none⟩)] 73)).alloc (.map #[] 0)).alloc (.cells #[.map (some (w.heap.size + 1))] 80)) (by
    have h := bstep (bnew w (.cells #[.pointer (some ⟨g, 0, none⟩)] 73)) (bstep (bnew _ (.map #[] 0)) (bnew _ (.cells #[.map (some (w.heap.size + 1))] 80)))
    exact ⟨h.os, h.tape, h.output, h.size, fun j hj _ => h.block j hj⟩) (by simp)))
  have Hmap3 := hid hmap3
  have km3 := cstep km (bstep (bnew w (.cells #[.pointer (some ⟨g, 0, none⟩)] 73)) (bstep (bnew _ (.map #[] 0)) (bnew _ (.cells #[.map (some (w.heap.size + 1))] 80))))
  have km1 := cstep km (bnew w (.cells #[.pointer (some ⟨g, 0, none⟩)] 73))
  clear hmap3
  go_wp2_with (at_range; refine wpList_range_own _ rfl _ 80 rfl 107 3 keyed107 Try.underlying80 _ bm ord.length _ rfl Hmap3.out ?_; intro w0 hrg0 hg0 hs0)
  go_frame
  rw [e1] at hrg0 hs0 ⊢
  have hB3 : Below w.heap.size w (((w.alloc (.cells #[.pointer (some ⟨g, 0, none⟩)] 73)).alloc (.map #[] 0)).alloc (.cells #[.map (some (w.heap.size + 1))] 80)) := bstep (bnew w (.cells #[.pointer (some ⟨g, 0, none⟩)] 73)) (bstep (bnew _ (.map #[] 0)) (bnew _ (.cells #[.map (some (w.heap.size + 1))] 80)))
  have hmade := (World.ownsMap_made (H := Unit) (w.alloc (.cells #[.pointer (some ⟨g, 0, none⟩)] 73)) Try.prog 107 (plainElem Try.prog 3)).kept (row := none) (w' := ((w.alloc (.cells #[.pointer (some ⟨g, 0, none⟩)] 73)).alloc (.map #[] 0)).alloc (.cells #[.map (some (w.heap.size + 1))] 80)) (by
    have h := bnew ((w.alloc (.cells #[.pointer (some ⟨g, 0, none⟩)] 73)).alloc (.map #[] 0)) (.cells #[.map (some (w.heap.size + 1))] 80)
    exact ⟨h.os, h.tape, h.output, h.size, fun j hj _ => h.block j hj⟩) (by simp)
  rw [show (w.alloc (.cells #[.pointer (some ⟨g, 0, none⟩)] 73)).heap.size = w.heap.size + 1 from by simp] at hmade
  have hk5 : (((w.alloc (.cells #[.pointer (some ⟨g, 0, none⟩)] 73)).alloc (.map #[] 0)).alloc (.cells #[.map (some (w.heap.size + 1))] 80)).cell? ⟨w.heap.size + 1 + 1, 0, none⟩ = some (.map (some (w.heap.size + 1))) := by simp [go_sem]
  have hkx : (((w.alloc (.cells #[.pointer (some ⟨g, 0, none⟩)] 73)).alloc (.map #[] 0)).alloc (.cells #[.map (some (w.heap.size + 1))] 80)).cell? ⟨w.heap.size, 0, none⟩ = some (.pointer (some ⟨g, 0, none⟩)) := cstep (by simp [go_sem]) (bstep (bnew (w.alloc (.cells #[.pointer (some ⟨g, 0, none⟩)] 73)) (.map #[] 0)) (bnew _ _))
  have hg0B : ∀ {v : World}, v.grownBy w0 none → Below v.heap.size v w0 := fun h => ⟨h.os, h.tape, h.output, h.size, fun j hj => h.block j hj (by simp)⟩
  have hB0 := hg0B hg0
  have Hrg0 := hid hrg0; have Hmade := hid (hmade.kept hg0 (by simp)); have Hk5 := hid (cstep hk5 hB0); have Hkx := hid (cstep hkx hB0); have HB0 := hid (bstep hB3 hB0)
  clear hrg0 hmade hk5 hkx hB3 hB0 hg0B hg0 hs0 km km1 km3 e1
  go_loopw [7] (fun _ wr => ∃ (left : Lit → Bool) (cnt : Nat) (Dout : DataW Unit), wr.ranges Try.prog 107 (plainElem Try.prog 3) bm (w.heap.size + 1 + 1 + 1) ord.length (MD ord) left cnt ∧ cnt ≤ size (MD (H := Unit) ord) ∧
      wr.ownsMap Try.prog 107 (plainElem Try.prog 3) (w.heap.size + 1) (size (MD (H := Unit) ord) - cnt) Dout ∧ Agree Dout (MD ord) left ∧ wr.cell? ⟨w.heap.size + 1 + 1, 0, none⟩ = some (.map (some (w.heap.size + 1))) ∧ wr.cell? ⟨w.heap.size, 0, none⟩ = some (.pointer (some ⟨g, 0, none⟩)) ∧ Below w.heap.size w wr)
    (fun _ wr => wr.rangeLeft bm (w.heap.size + 1 + 1 + 1))
  case atStart => exact ⟨_, _, .map [], Hrg0.out, Nat.le_refl _, Hmade.out.mono (Nat.zero_le _), agree_start _, Hk5.out, Hkx.out, HB0.out⟩
  case round =>
    obtain ⟨left, cnt, Dout, hrg, hcs, hout, hA, hk5, hkx, hnx⟩ := hrel
    obtain ⟨wo, rfl⟩ : ∃ wo : World, wo = wr := ⟨_, rfl⟩
    have Hrg := hid hrg; have Hout := hid hout; have HA := hid hA; have Hnx := hid hnx; have Hk5 := hid hk5; have Hkx := hid hkx
    clear hrg hout hA hnx
    go_wp2_with (first
      | (at_next; refine wpList_next_ranges _ rfl _ rfl 107 keyed107 (plainElem Try.prog 3) (fun x : Int => .agg #[.int .i64 x]) (fun c : Int => .int .i64 c) (fun key kl h => (keyOf107_inv h).1) (fun v y h => by obtain ⟨c, h1, _⟩ := plainElem_int_inv Try.underlying3 h; exact ⟨c, h1⟩) bm (w.heap.size + 1 + 1 + 1) ord.length (MD ord) left cnt rfl Hrg.out ?_ ?_)
      | go_in)
    · intro hc0 hl0
      have hmapw := Hd.out.map.kept (row := none) (w' := wo) ⟨Hnx.out.os, Hnx.out.tape, Hnx.out.output, Hnx.out.size, fun j hj _ => Hnx.out.block j hj⟩ (by simp)
      have eD := agree_end HA.out hl0 (Hout.out.canon keyed107) (hmapw.canon keyed107)
      subst eD
      have HM0 := hid Hout.out
      have HMk := hid (marked_c fa fc fs wo (Hf.out.mono Hnx.out) hfl Hff.out)
      obtain ⟨V, hV⟩ : ∃ V, V = (intv (markL fs)).toArray := ⟨_, rfl⟩
      rw [← hV] at HMk
      have HV := hid hV
      have hV2 : (V.size == 12) = true := by rw [hV]; simp [intv_length, markL_length]
      have hV3 : V.all (·.oneCell') = true := by rw [hV]; simp only [List.all_toArray]; exact List.all_eq_true.2 (intv_one _)
      clear hV hmapw hl0 hc0 HA hcs Hrg
      go_wp2_with fail
      refine HMk.out.mono ?_
      rintro e w3 ⟨rfl, hB⟩
      have HB3 := hid (bstep Hnx.out hB)
      have HM1 := hid (HM0.out.kept (row := none) (w' := w3) ⟨hB.os, hB.tape, hB.output, hB.size, fun j hj _ => hB.block j hj⟩ (by simp))
      have K5 := hid (cstep Hk5.out hB); have Kx := hid (cstep Hkx.out hB)
      have kx := Kx.out
      have kO := Hd.out.kept HB3.out
      have kO2 := kO.kO
      clear hB hk5 hkx kO
      have hpo : partOk (w3.alloc (.cells zero78 78)) w3.heap.size 0 12 = true := partOk_of (heap_alloc_new w3 _) (by simp [zero78, intv_length])
      have hfb : freeB (w3.alloc (.cells zero78 78)) w3.heap.size = true := freeB_of (heap_alloc_new w3 _)
      have hVs : V.size = 12 := by simpa using hV2
      have hset : World.setPart (w3.alloc (.cells zero78 78)) w3.heap.size 0 V = w3.alloc (.cells V 78) := by
        unfold World.setPart
        rw [heap_alloc_new]
        simp only [List.take_zero, List.nil_append, Nat.zero_add, hVs]
        rw [setRow_alloc, List.drop_of_length_le (by simp [zero78, intv_length])]
        simp
      have HVs := hid hVs; have Hset := hid hset
      clear hVs hset
      go_upto_region 7 with (fail)
      rw [Hset.out]
      have hVs := HVs.out
      have o1 : partOk (w3.alloc (.cells V 78)) w3.heap.size 0 12 = true := partOk_of (heap_alloc_new w3 _) (by omega)
      have p1 : partAt (w3.alloc (.cells V 78)) w3.heap.size 0 12 = V := by
        rw [partAt_of (heap_alloc_new w3 _), show 0 + 12 = V.size from by omega]
        exact Array.extract_size
      clear hpo hfb hVs hV2 hV3
      have l1 := cstep kx (bstep (bnew w3 (.cells V 78)) (bnew _ (.cells #[.func (.func 73) #[.agg V] #[]] 90)))
      have l2 := cstep kO2 (bstep (bnew w3 (.cells V 78)) (bnew _ (.cells #[.func (.func 73) #[.agg V] #[]] 90)))
      clear kx kO2
      go_wp2_with fail
      refine (backwardSeq_c oa ord.length oc _).mono ?_
      rintro e w4 ⟨rfl, rfl⟩
      go_wp2_with fail
      clear l1 l2 o1 p1
      obtain ⟨W5, hW5⟩ : ∃ W5, W5 = ((w3.alloc (.cells V 78)).alloc (.cells #[.func (.func 73) #[.agg V] #[]] 90)).alloc (.cells #[.slice oa ord.length oc] 22) := ⟨_, rfl⟩
      have hs5 : W5.heap.size = w3.heap.size + 3 := by rw [hW5]; simp
      have hB5 : Below w3.heap.size w3 W5 := by rw [hW5]; exact bstep (bnew w3 _) (bstep (bnew _ _) (bnew _ _))
      have hp5 : W5.cell? ⟨w3.heap.size + 2, 0, none⟩ = some (.slice oa ord.length oc) := by rw [hW5]; simp [go_sem]
      have hm5 : W5.heap[w3.heap.size]? = some (.cells (intv (markL fs)).toArray 78 (0, 0)) := by
        rw [hW5, ← HV.out]
        exact ((bnew _ _).block _ (by simp; omega)).trans (((bnew _ _).block _ (by simp)).trans (heap_alloc_new w3 _))
      have hf5 : W5.heap[w3.heap.size + 1]? = some (.cells #[.func (.func 73) #[.agg (intv (markL fs)).toArray] #[]] 90 (0, 0)) := by
        rw [hW5, ← HV.out]
        have h := heap_alloc_new (w3.alloc (.cells V 78)) (.cells #[.func (.func 73) #[.agg V] #[]] 90)
        rw [show (w3.alloc (.cells V 78)).heap.size = w3.heap.size + 1 from by simp] at h
        exact ((bnew _ _).block _ (by simp)).trans h
      have hBw5 : Below w.heap.size w W5 := bstep HB3.out hB5
      have hI0 : StI w g w3.heap.size (w3.heap.size + 1) (w.heap.size + 1 + 1) (w.heap.size + 1) rs ord (markL fs) 0 W5 :=
        ⟨Nat.zero_le _, hm5, hf5, (HM1.out.kept (row := none) (w' := W5) ⟨hB5.os, hB5.tape, hB5.output, hB5.size, fun j hj _ => hB5.block j hj⟩ (by simp)).mono (by have := Hsz.out; omega), cstep K5.out hB5, cstep Kx.out hB5, hBw5⟩
      have hs3 : w.heap.size + 1 + 1 < w3.heap.size := by have := block_lt_of_cell K5.out; exact this
      have hGen := backward1_c (w3.heap.size + 2) oa oc (ordI ord) w W5 (fun b => b = w.heap.size + 1 ∨ b = w3.heap.size ∨ b = w3.heap.size + 1) (by intro k hk; omega) Hd.out.ord.at (by rw [ordI_length]; exact hp5) (by omega) hBw5 (by rw [ordI_length]; omega)
      rw [← hW5]
      have HW5 := hid hW5; have Hs5 := hid hs5; have Hs3 := hid hs3
      clear hW5 hs5 hB5 hp5 hm5 hf5 hBw5 hs3
      refine (wpIn_wide (n := 0)).1 ?_
      refine range_law' (fun v t => t.setIfInBounds 11 (v.getD 1 undef)) rfl enters99 hGen ?hS ?hps ?hX (StI w g w3.heap.size (w3.heap.size + 1) (w.heap.size + 1 + 1) (w.heap.size + 1) rs ord (markL fs)) ?hI (fun k W h => by rw [ordI_length]; exact h.le) hI0 ?assign ?body ?done
      case hS => have := Hs5.out; have := Hs3.out; constructor <;> omega
      case hps => intro k v W hv; rw [show v = _ from hv]; rfl
      case hX => intro k v W W' hv _; exact hv
      case hI => intro k W W' h ho; have := Hs5.out; have := Hs3.out; exact h.only ho (by omega) (by omega) (by omega) (by omega) (by omega)
      case assign =>
        intro l k v W K hx hK
        obtain rfl : v = _ := hx
        gi_wp2
        simpa using hK
      case body =>
        intro k v W hW hI hX hkl
        rw [ordI_length] at hkl
        obtain ⟨j, hj⟩ : ∃ j, j = ord.length - 1 - k := ⟨_, rfl⟩
        have hjl : j < ord.length := by omega
        obtain ⟨hf12, hr2⟩ := Hof.out.f j hjl
        have hwm : wm rs ord (markL fs) (k + 1) = if nth (wm rs ord (markL fs) k) (ordAt ord j).1 = 0 then wm rs ord (markL fs) k else moreTo (wm rs ord (markL fs) k) (nthR rs (ordAt ord j).2).1 (nthR rs (ordAt ord j).2).1.length := by rw [hj]; rfl
        have hdm : dm rs ord (markL fs) (k + 1) = if nth (wm rs ord (markL fs) k) (ordAt ord j).1 = 0 then (dm rs ord (markL fs) k).del (factKey (ordAt ord j).1) else dm rs ord (markL fs) k := by rw [hj]; rfl
        have hX2 : v = #[.int .i64 (j : Int), .int .i64 ((ordAt ord j).1 : Int)] := by
          have h : v = #[.int .i64 (((ordI ord).length - 1 - k : Nat) : Int), .int .i64 (nth (ordI ord) ((ordI ord).length - 1 - k))] := hX
          rw [ordI_length, ← hj] at h
          rw [h]
          congr 4
          rw [nth_eq (by rw [ordI_length]; exact hjl), ordAt_eq hjl]; simp [ordI]
        subst hX2
        have hmlen := wm_length (rs := rs) (ord := ord) (markL_length fs) k
        have Hhat := hid (md_at' (H := Unit) ord.length ord rfl (fun k hk => (Hof.out.f k hk).1) Hof.out.ne j hjl)
        obtain ⟨f, hf⟩ : ∃ f, f = (ordAt ord j).1 := ⟨_, rfl⟩
        obtain ⟨r, hr⟩ : ∃ r, r = (ordAt ord j).2 := ⟨_, rfl⟩
        rw [← hf] at hf12 hwm hdm Hhat ⊢
        rw [← hr] at hr2 hwm Hhat
        obtain ⟨m, hm⟩ : ∃ m, m = wm rs ord (markL fs) k := ⟨_, rfl⟩
        have hmk := hI.mk0; have hfn := hI.fn; have hmp := hI.mp; have hc5 := hI.c5; have hcx := hI.cx
        rw [← hm] at hwm hdm hmk hfn hmlen
        have Hmk := hid hmk; have Hfn := hid hfn; have Hmp := hid hmp; have Hcx := hid hcx; have Hc5 := hid hc5; have HI := hid hI
        have Hwm := hid hwm; have Hdm := hid hdm; have Hhj := hid hj
        have HHas := hid (has_c (some ⟨W.heap.size, 0, none⟩) 1 m [(f : Int)] (W.alloc (.cells #[.int .i64 f] 3)) (at_lit1 W f) (by simp) hmlen (factsOk_one (by omega) (by omega)))
        have hfc : W.cell? ⟨w3.heap.size + 1, 0, none⟩ = some (.func (.func 73) #[.agg (intv m).toArray] #[]) := by rw [cell_of_row _ _ _ _ _ _ hfn]; rfl
        obtain ⟨V2, hV2⟩ : ∃ V, V = (intv m).toArray := ⟨_, rfl⟩
        rw [← hV2] at hfc HHas
        have HV2 := hid hV2
        have hlen1 : ([(f : Int)] : List Int).length = 1 := rfl
        rw [hlen1] at HHas
        have hhas : hasM m [(f : Int)] = (nth m f != 0) := by
          rw [Bool.eq_iff_iff, hasM_iff]; simp
        rw [hhas] at HHas
        have hle3 := block_lt_of_cell hc5
        have Hle3 := hid hle3
        clear hX hj hwm hdm hm hmk hfn hmp hI hV2 hlen1 hhas hf hr hcx hc5 hle3 hjl
        conv in (Act.mk _ _) => simp
        by_cases hz : nth m f = 0
        · have Hw2 := hid (Hwm.out.trans (if_pos hz)); have Hd2 := hid (Hdm.out.trans (if_pos hz))
          rw [show (nth m f != 0) = false from by simp [hz]] at HHas
          clear Hwm Hdm hz
          gi_wp2
          refine ⟨trivial, rfl, CallsIn.mono (CallsIn.inRound _ (callsIn_wide.2 HHas.out)) ?_⟩
          rintro e w1 ⟨rfl, hB⟩
          have HB1 := hid (bstep (bnew W (.cells #[.int .i64 f] 3)) hB)
          have hmp1 := Hmp.out.kept (row := none) (w' := w1) ⟨HB1.out.os, HB1.out.tape, HB1.out.output, HB1.out.size, fun j hj _ => HB1.out.block j hj⟩ (by simp)
          have Hmp1 := hid hmp1
          have hmk1 := (HB1.out.block _ (Array.getElem?_eq_some_iff.1 Hmk.out).1).trans Hmk.out
          have hfn1 := (HB1.out.block _ (Array.getElem?_eq_some_iff.1 Hfn.out).1).trans Hfn.out
          have Hmk1 := hid hmk1; have Hfn1 := hid hfn1
          have c51 := cstep Hc5.out HB1.out; have cx1 := cstep Hcx.out HB1.out
          have Hc51 := hid c51; have Hcx1 := hid cx1
          clear hB hmp1 hmk1 hfn1 hfc
          gi_wp2_with (first
            | (gi_at_delete; refine wpListIn_delete_own _ rfl _ _ 80 107 rfl 3 keyed107 Try.underlying80 (plainElem Try.prog 3) (w.heap.size + 1) ord.length (dm rs ord (markL fs) k) rfl Hmp1.out _ (factKey f) rfl (keyOf_fact hf12) ?_; intro w2 hown2 hturn2)
            | gi_in)
          gi_wp2
          have hOm : Only (fun b => b = w.heap.size + 1) w1 w2 := by
            have hg := hturn2.grown
            exact ⟨hg.os, hg.tape, hg.output, hg.size, fun j hj hs => hg.block j hj (fun e => hs (Option.some.inj e))⟩
          have hOa : Only (fun b => b = w.heap.size + 1 ∨ b = w3.heap.size ∨ b = w3.heap.size + 1) W w2 := (Only.of_below HB1.out).trans (hOm.mono (fun _ h => .inl h))
          have := Hs3.out
          refine ⟨hOa, ⟨by omega, ?_, ?_, ?_, hOm.cell Hc51.out (by show ¬ w.heap.size + 1 + 1 = w.heap.size + 1; omega), hOm.cell Hcx1.out (by show ¬ w.heap.size = w.heap.size + 1; omega), HI.out.b.trans (hOa.below HI.out.b.size (by intro j hj e; omega))⟩⟩
          · rw [Hw2.out]
            exact (hOm.block _ (Array.getElem?_eq_some_iff.1 Hmk1.out).1 (by show ¬ w3.heap.size = w.heap.size + 1; omega)).trans Hmk1.out
          · rw [Hw2.out]
            exact (hOm.block _ (Array.getElem?_eq_some_iff.1 Hfn1.out).1 (by show ¬ w3.heap.size + 1 = w.heap.size + 1; omega)).trans Hfn1.out
          · rw [Hd2.out]; exact hown2
        · have Hw2 := hid (Hwm.out.trans (if_neg hz)); have Hd2 := hid (Hdm.out.trans (if_neg hz))
          rw [show (nth m f != 0) = true from by simp [hz]] at HHas
          clear Hwm Hdm hz
          gi_wp2
          refine ⟨trivial, rfl, CallsIn.mono (CallsIn.inRound _ (callsIn_wide.2 HHas.out)) ?_⟩
          rintro e w1 ⟨rfl, hB⟩
          have HB1 := hid (bstep (bnew W (.cells #[.int .i64 f] 3)) hB)
          have hmp1 := Hmp.out.kept (row := none) (w' := w1) ⟨HB1.out.os, HB1.out.tape, HB1.out.output, HB1.out.size, fun j hj _ => HB1.out.block j hj⟩ (by simp)
          have Hmp1 := hid hmp1
          have hmk1 := (HB1.out.block _ (Array.getElem?_eq_some_iff.1 Hmk.out).1).trans Hmk.out
          have hfn1 := (HB1.out.block _ (Array.getElem?_eq_some_iff.1 Hfn.out).1).trans Hfn.out
          have Hmk1 := hid hmk1; have Hfn1 := hid hfn1
          have c51 := cstep Hc5.out HB1.out; have cx1 := cstep Hcx.out HB1.out
          have Hc51 := hid c51; have Hcx1 := hid cx1
          clear hB hmp1 hmk1 hfn1 hfc
          have hdk := Hd.out.kept (HI.out.b.trans (HB1.out.mono HI.out.b.size))
          have k2 := hdk.k2; have kM := hdk.kM
          obtain ⟨b2, off2, a2, cp2, rfl, hra0⟩ := Hr.out.at hr2
          have Hra0 := hid hra0.at'
          have hra := hra0.mono (HI.out.b.trans (HB1.out.mono HI.out.b.size))
          obtain ⟨hf1, hf2, _, _⟩ := Hro.out r hr2
          have Hf1 := hid hf1; have Hf2 := hid hf2
          have q0 := hra.cI
          have hlk : ∀ n, (Instr.lookup 80 (.map (some bm)) (.agg #[.int .i64 (f : Int)]) false).run Try.prog (w1.drewN n) = .ok (.int .i64 (r : Int)) (w1.drewN n) := by
            intro n
            have hd2 := hdk.map.kept (row := none) (w' := w1.drewN n) ⟨rfl, rfl, rfl, Nat.le_refl _, fun _ _ _ => rfl⟩ (by simp)
            obtain ⟨c, h1, h2, _⟩ := hd2.lookup_int keyed107 Try.underlying80 Try.underlying3 (by kernel_rfl) (keyOf_fact hf12)
            rw [Hhat.out.2] at h2
            cases h2
            exact h1
          have Hra := hid hra
          obtain ⟨ln, hln⟩ : ∃ n, n = (nthR rs r).1.length := ⟨_, rfl⟩
          rw [← hln] at q0
          have Hln := hid hln
          have hmix : Try.prog.follows .mixedOrders = true := by kernel_rfl
          have hr1 : (r : Int) < (rs.length : Int) := by omega
          clear hdk hra hra0 hln hf1 hf2
          gi_wp2
          refine wpIn_region_quiet_round (F := Fence.wide) _ rfl hmix (by kernel_rfl) (by simp) ?_
          repeat (quiet_step_in (fail))
          refine wpQuietIn_nil ?_
          intro _ hw'
          obtain ⟨nq, hw''⟩ := hw'
          subst hw''
          have hrow0 : (w1.drewN nq).heap[w3.heap.size]? = some (.cells (intv m).toArray 78 (0, 0)) := Hmk1.out
          have Hrow0 := hid hrow0
          have HBw := hid (below_drewN (HI.out.b.trans (HB1.out.mono HI.out.b.size)) nq)
          have HOw := hid (show Only (fun b => b = w.heap.size + 1 ∨ b = w3.heap.size ∨ b = w3.heap.size + 1) W (w1.drewN nq) from Only.of_below (below_drewN HB1.out nq))
          have hfnq : (w1.drewN nq).heap[w3.heap.size + 1]? = some (.cells #[.func (.func 73) #[.agg (intv m).toArray] #[]] 90 (0, 0)) := Hfn1.out
          have Hfnq := hid hfnq
          have Hmpq := hid (show (w1.drewN nq).ownsMap (H := Unit) Try.prog 107 (plainElem Try.prog 3) (w.heap.size + 1) ord.length (dm rs ord (markL fs) k) from Hmp1.out)
          have Hc5q := hid (show (w1.drewN nq).cell? ⟨w.heap.size + 1 + 1, 0, none⟩ = _ from Hc51.out); have Hcxq := hid (show (w1.drewN nq).cell? ⟨w.heap.size, 0, none⟩ = _ from Hcx1.out)
          obtain ⟨wq, hwq⟩ : ∃ wq, wq = w1.drewN nq := ⟨_, rfl⟩
          rw [← hwq] at Hrow0 HBw HOw Hfnq Hmpq Hc5q Hcxq ⊢
          have hlnb : ln ≤ 1000000 := by rw [Hln.out]; exact Hf2.out
          clear hrow0 hfnq hwq hlk k2 kM q0 c51 cx1
          gi_wp2
          gi_loopw [68] (fun i wr => ∃ q : Nat, q ≤ ln ∧ i = .int .i64 q ∧ wr.heap[w3.heap.size]? = some (.cells (intv (moreTo m (nthR rs r).1 q)).toArray 78 (0, 0)) ∧ Only (fun b => b = w3.heap.size) wq wr) (fun i _ => ln - (intOf i).toNat)
          case atStart => exact ⟨0, Nat.zero_le _, rfl, Hrow0.out, Only.refl _ _⟩
          case round =>
            obtain ⟨q, hq, rfl, hh, hO⟩ := hrel
            obtain ⟨wi, rfl⟩ : ∃ wi : World, wi = wr := ⟨_, rfl⟩
            have hs3 := Hs3.out
            by_cases hlt : q < ln
            · have hBi : Below w.heap.size w wi := HBw.out.trans (hO.below HBw.out.size (by intro j hj e; have e' : j = w3.heap.size := e; omega))
              have hlq : q < (nthR rs r).1.length := by rw [← Hln.out]; exact hlt
              obtain ⟨b, off, rfl, hc⟩ := (Hra0.out.mono hBi).at hlq
              obtain ⟨f0, f1⟩ := Hf1.out q hlq
              obtain ⟨x, hx⟩ := Int.eq_ofNat_of_zero_le f0
              have hset : moreTo m (nthR rs r).1 (q + 1) = (moreTo m (nthR rs r).1 q).set x 1 := by rw [moreTo, hx]; rfl
              rw [hx] at hc
              have hx12 : x < 12 := by omega
              have hcc : wi.cell? ⟨w3.heap.size, x, none⟩ = some (.int .i64 (nth (moreTo m (nthR rs r).1 q) x)) := by
                rw [cell_of_row _ _ _ _ _ _ hh, List.getElem?_toArray, intv_get, if_pos (by rw [moreTo_length, hmlen]; exact hx12)]
              have hfr : wi.frozen? ⟨w3.heap.size, x, none⟩ = false := frozen_of_row _ _ _ _ _ hh
              have Hh2 := hid hh; have HO := hid hO; have Hset := hid hset
              clear hh hO hset f0 f1 hx hBi hs3
              gi_wp2
              go_roundw
              case rel => exact ⟨q + 1, by omega, by go_num, (heap_setCell_same wi _ _ _ 78 _ Hh2.out).trans (by rw [Hset.out]; exact cellsSet (by unfold intv; rw [List.map_set])), HO.out.trans (setCell_only _ _ _)⟩
              case measure => simp [intOf]; omega
            · obtain rfl : q = ln := by omega
              have hmlen2 : (moreTo m (nthR rs r).1 q).length = 12 := by rw [moreTo_length]; exact hmlen
              have o1 : partOk wi w3.heap.size 0 12 = true := partOk_of hh (by simp [intv_length, hmlen2])
              have p1 : partAt wi w3.heap.size 0 12 = (intv (moreTo m (nthR rs r).1 q)).toArray := by
                rw [partAt_of hh, show 0 + 12 = (intv (moreTo m (nthR rs r).1 q)).toArray.size from by simp [intv_length, hmlen2]]
                exact Array.extract_size
              have hfni := (hO.block _ (Array.getElem?_eq_some_iff.1 Hfnq.out).1 (by show ¬ w3.heap.size + 1 = w3.heap.size; omega)).trans Hfnq.out
              have hcb : wi.cell? ⟨w3.heap.size + 1, 0, none⟩ = some (.func (.func 73) #[.agg (intv m).toArray] #[]) := by rw [cell_of_row _ _ _ _ _ _ hfni]; rfl
              have hfb : wi.frozen? ⟨w3.heap.size + 1, 0, none⟩ = false := frozen_of_row _ _ _ _ _ hfni
              obtain ⟨V4, hV4⟩ : ∃ V, V = (intv (moreTo m (nthR rs r).1 q)).toArray := ⟨_, rfl⟩
              rw [← hV4] at p1
              have HV4 := hid hV4; have Hhh := hid hh; have HO := hid hO; have Hfni := hid hfni
              clear hh hO hfni hV4 hmlen2 hs3
              gi_wp2
              have hs3 := Hs3.out
              have hO9 := setCell_only (w := wi) (w3.heap.size + 1) 0 (.func (.func 73) #[.agg V4] #[])
              have hOx : Only (fun b => b = w3.heap.size ∨ b = w3.heap.size + 1) wq (wi.setCell ⟨w3.heap.size + 1, 0, none⟩ (.func (.func 73) #[.agg V4] #[])) := (HO.out.mono (fun _ h => .inl h)).trans (hO9.mono (fun _ h => .inr h))
              have hmf : wm rs ord (markL fs) (k + 1) = moreTo m (nthR rs r).1 q := by rw [Hw2.out, Hln.out]
              refine ⟨HOw.out.trans (hOx.mono (fun _ h => .inr h)), ⟨by omega, ?_, ?_, ?_, hOx.cell Hc5q.out (by show ¬ (w.heap.size + 1 + 1 = w3.heap.size ∨ w.heap.size + 1 + 1 = w3.heap.size + 1); omega), hOx.cell Hcxq.out (by show ¬ (w.heap.size = w3.heap.size ∨ w.heap.size = w3.heap.size + 1); omega), HBw.out.trans (hOx.below HBw.out.size (by intro j hj e; have e' : j = w3.heap.size ∨ j = w3.heap.size + 1 := e; omega))⟩⟩
              · rw [hmf]
                exact (hO9.block _ (Array.getElem?_eq_some_iff.1 Hhh.out).1 (by show ¬ w3.heap.size = w3.heap.size + 1; omega)).trans Hhh.out
              · rw [hmf, ← HV4.out]
                exact heap_setCell_same wi (w3.heap.size + 1) 0 _ 90 _ Hfni.out
              · rw [Hd2.out]
                have h1 := Hmpq.out.kept (row := some w3.heap.size) (w' := wi) ⟨HO.out.os, HO.out.tape, HO.out.output, HO.out.size, fun j hj hs => HO.out.block j hj (fun e => hs (by rw [e]))⟩ (by simp; omega)
                exact h1.kept (row := some (w3.heap.size + 1)) ⟨hO9.os, hO9.tape, hO9.output, hO9.size, fun j hj hs => hO9.block j hj (fun e => hs (by rw [e]))⟩ (by simp; omega)
      case done =>
        rintro k W hk hI hD hlt
        have hk' : k = (ordI ord).length := hk
        rw [ordI_length] at hk'
        subst hk'
        clear hk
        have hcx := hI.cx
        have hc5 := hI.c5
        have kO := (Hd.out.kept hI.b).kO
        have Hc5 := hid hc5
        have HI := hid hI; have HDf := hid hD; have Hlt := hid hlt
        clear hI hc5 hD
        go_wp2
        go_loopw [14, 82] (fun o i wr => ∃ (q : Nat) (ao : Option Addr) (cap : Nat), q ≤ ord.length ∧ i = .int .i64 q ∧ o = .slice ao (stepsTo rs ord (markL fs) q).length cap ∧ OwnI W.heap.size wr ao (stepsTo rs ord (markL fs) q).length cap (stepsTo rs ord (markL fs) q) ∧ Below W.heap.size W wr) (fun _ i _ => ord.length - (intOf i).toNat)
        case atStart => exact ⟨0, none, 0, Nat.zero_le _, rfl, rfl, OwnI.nil _ _, Below.refl _ _⟩
        case round =>
          obtain ⟨q, ao, cap, hq, rfl, rfl, hown, hB⟩ := hrel
          obtain ⟨wo2, rfl⟩ : ∃ wo2 : World, wo2 = wr := ⟨_, rfl⟩
          have hlen := stepsTo_length rs ord (markL fs) q
          by_cases hlq : q < ord.length
          · obtain ⟨b, off, rfl, hc⟩ := (Hd.out.ord.at.mono (HI.out.b.trans (hB.mono HI.out.b.size))).at (k := q) (by rw [ordI_length]; exact hlq)
            rw [show nth (ordI ord) q = ((ordAt ord q).1 : Int) from by rw [nth_eq (by rw [ordI_length]; exact hlq), ordAt_eq hlq]; simp [ordI]] at hc
            obtain ⟨hf12, hr2⟩ := Hof.out.f q hlq
            obtain ⟨he1, he2⟩ := dm_end Hof.out (markL fs) hlq
            have ht : stepsTo rs ord (markL fs) (q + 1) = if keepAt rs ord (markL fs) q = true then stepsTo rs ord (markL fs) q ++ [((ordAt ord q).2 : Int)] else stepsTo rs ord (markL fs) q := rfl
            have hmp := HI.out.mp.kept (row := none) (w' := wo2) ⟨hB.os, hB.tape, hB.output, hB.size, fun j hj _ => hB.block j hj⟩ (by simp)
            have c5 := cstep Hc5.out hB
            obtain ⟨l, hl⟩ : ∃ l, l = stepsTo rs ord (markL fs) q := ⟨_, rfl⟩
            rw [← hl] at ht hown hlen ⊢
            obtain ⟨f, hf⟩ : ∃ f, f = (ordAt ord q).1 := ⟨_, rfl⟩
            obtain ⟨r, hr⟩ : ∃ r, r = (ordAt ord q).2 := ⟨_, rfl⟩
            rw [← hf] at hc hf12 he1 he2
            rw [← hr] at he2 ht
            have Hown := hid hown; have HB := hid hB; have Hmp := hid hmp; have He1 := hid he1; have He2 := hid he2
            clear hown hB hmp he1 hl hf hr hr2
            cases hkp : keepAt rs ord (markL fs) q with
            | true =>
              rw [hkp, if_pos rfl] at ht
              have Ht := hid ht
              have hat0 := he2 hkp
              have hhas := He1.out
              rw [hkp] at hhas
              clear ht hkp he2
              have Hhas := hid hhas; have Hat0 := hid hat0
              clear hhas hat0
              go_wp2_with (first
                | (at_lookup; refine wpList_lookup_own_ok_int _ rfl _ _ 80 rfl 107 3 .i64 keyed107 Try.underlying80 Try.underlying3 (by kernel_rfl) (w.heap.size + 1) ord.length (dm rs ord (markL fs) ord.length) rfl Hmp.out _ (factKey f) rfl (keyOf_fact hf12) ?_; intro c hat hwc; rw [Hat0.out] at hat; cases hat; rw [Hhas.out])
                | (at_builtin; refine wpList_app_own _ rfl _ _ rfl W.heap.size ao l.length cap l rfl ?e1 _ (r : Int) rfl ?e2 ?e3 ?e4 ?e5; rotate_right; (intro b' cap' w' hB' hb' hown' hgr'; refine Hid.out ?_))
                | go_in)
              case e1 => exact Hown.out.alloc _
              case e2 => simp
              case e3 => omega
              case e4 => have := HB.out.size; simp; omega
              case e5 =>
                refine hid ?_
                have Hown' := hid hown'
                have HB' := hid (HB.out.trans (((bnew wo2 (.cells #[.int .i64 r] 3)).mono HB.out.size).trans hB'))
                clear hown' hB' hgr'
                go_wp2
                go_roundw
                case rel => exact ⟨q + 1, some ⟨b', 0, none⟩, cap', by omega, by go_num, by rw [Ht.out, List.length_append]; rfl, by rw [Ht.out, List.length_append]; exact Hown'.out, HB'.out⟩
                case measure => simp [intOf]; omega
            | false =>
              rw [hkp, if_neg (by simp)] at ht
              have Ht := hid ht
              have hhas := He1.out
              rw [hkp] at hhas
              clear ht hkp he2
              have Hhas := hid hhas
              clear hhas
              go_wp2_with (first
                | (at_lookup; refine wpList_lookup_own_ok_int _ rfl _ _ 80 rfl 107 3 .i64 keyed107 Try.underlying80 Try.underlying3 (by kernel_rfl) (w.heap.size + 1) ord.length (dm rs ord (markL fs) ord.length) rfl Hmp.out _ (factKey f) rfl (keyOf_fact hf12) ?_; intro c hat hwc; rw [Hhas.out])
                | go_in)
              go_wp2
              go_roundw
              case rel => exact ⟨q + 1, ao, cap, by omega, by go_num, by rw [Ht.out], by rw [Ht.out]; exact Hown.out, HB.out⟩
              case measure => simp [intOf]; omega
          · obtain rfl : q = ord.length := by omega
            have hRf : stepsTo rs ord (markL fs) ord.length = R := HR.out.symm
            rw [hRf] at hown ⊢
            go_wp2
            have hD2 := (hB.block _ Hlt.out).trans HDf.out
            refine ⟨by simp, .inl ⟨_, _, rfl, run_takeDeferred hD2, ?_⟩⟩
            refine ⟨_, results_tmp rfl _ _ _, ao, cap, rfl, ?_, fun h => (hown.none h).2, ownI_cap hown, ?_⟩
            · refine hown.at.only (Only.put1 wo2 W5.heap.size (.deferred none)) (fun b off e _ => ?_)
              have := ownI_ge hown e
              have := Hlt.out
              show ¬ b = W5.heap.size
              omega
            · exact ((HI.out.b.trans (hB.mono HI.out.b.size))).trans ((Only.put1 wo2 W5.heap.size (.deferred none)).below (Nat.le_trans HI.out.b.size hB.size) (by intro j hj e; have e' : j = W5.heap.size := e; have := Hs5.out; have := Hs3.out; omega))
    · intro x c kl y1 y2 w1 cnt1 hkey hlk hv hat hrg1 hlt hg1 hs1 hen
      have hB1 : Below w.heap.size w w1 := Hnx.out.grown hg1 Hnx.out.size (fun j hj => by cases hj; omega)
      have q5 : w1.cell? ⟨w.heap.size + 1 + 1, 0, none⟩ = some (.map (some (w.heap.size + 1))) := (World.cell?_of_block (hg1.block _ (block_lt_of_cell Hk5.out) (by intro e; have h := Option.some.inj e; first | omega | (simp at h; done) | (simp at h; omega)))).trans Hk5.out
      have qx : w1.cell? ⟨w.heap.size, 0, none⟩ = some (.pointer (some ⟨g, 0, none⟩)) := (World.cell?_of_block (hg1.block _ (block_lt_of_cell Hkx.out) (by intro e; have h := Option.some.inj e; first | omega | (simp at h; done) | (simp at h; omega)))).trans Hkx.out
      have hout1 := Hout.out.kept hg1 (by simp)
      have Hrg1 := hid hrg1; have Hg1 := hid hg1; have Hqx := hid qx; have Hq5 := hid q5; have HB1 := hid hB1
      clear hrg1 hg1 qx hB1 hk5 hkx
      have q5' := cstep q5 (bnew w1 (.cells #[.int .i64 x] 107))
      have Hout1 := hid (hout1.alloc (.cells #[.int .i64 x] 107))
      have Hat := hid hat; have Hlt := hid hlt; have Hv := hid hv
      have hlen : size (MD (H := Unit) ord) - cnt < maxLen := by have := Hsz.out; unfold maxLen; omega
      clear q5 hout1 hat hlt hv
      go_wp2_with (first
        | (at_mapUpdate; refine wpList_mapUpdate_own _ rfl _ _ _ 80 rfl 107 3 keyed107 Try.underlying80 (plainElem Try.prog 3) (w.heap.size + 1) _ _ rfl Hout1.out hlen _ _ kl rfl rfl hkey y1 y2 Hv.out ?_; intro w2 hout2 hg2; go_frame)
        | go_in)
      have hrg2 := (Hrg1.out.alloc (.cells #[.int .i64 x] 107)).kept hg2 (by simp; have := Hnx.out.size; omega) (by intro e; have h := Option.some.inj e; first | omega | (simp at h; done) | (simp at h; omega))
      have hBn : Below w.heap.size w (w1.alloc (.cells #[.int .i64 x] 107)) := bstep HB1.out (bnew _ _)
      refine ⟨⟨_, cnt1, _, hrg2, by have := Hlt.out; omega, hout2.mono (by have := Hlt.out; omega), agree_step HA.out Hout.out.isMap ?_ Hat.out, ?_, ?_, hBn.grown hg2 (by have := Hnx.out.size; simp; omega) (fun j hj => by cases hj; omega)⟩, ?_⟩
      · exact (keyOf107_inv hkey).2
      · exact (World.cell?_of_block (hg2.block _ (block_lt_of_cell q5') (by intro e; have h := Option.some.inj e; first | omega | (simp at h; done) | (simp at h; omega)))).trans q5'
      · have q := cstep Hqx.out (bnew w1 (.cells #[.int .i64 x] 107))
        exact (World.cell?_of_block (hg2.block _ (block_lt_of_cell q) (by intro e; have h := Option.some.inj e; first | omega | (simp at h; done) | (simp at h; omega)))).trans q
      · rw [hrg2.left_eq, Hrg.out.left_eq]; exact Hlt.out

end Go.Proofs.Ytkioejdddmnbmaa

namespace Go.Proofs.Ytkioejdddmnbmaa
open Go.RowKit Go.Shelf
attribute [local go_sem ↓] wp_get wp_get0 wp_getS wp78 wps78 wpa78

theorem step_app_full1 {ops : Array Oper} {o : Oper} {a : Act} {K : Act → World → Prop} {Q : Exit → Act → World → Prop} {E : Prop} (w : World) (hgd : o.guard = none) (s x : Operand)
    (hop : o.op = Op.call { callee := Callee.builtin Builtin.append, args := #[s, x], argTypes := #[22, 22] })
    (ao : Option Addr) (m cap : Nat) (xs : List Int) (hm : xs.length = m) (hs : a.eval s = .slice ao m cap) (hat : IntsAt w ao xs) (hnil : ao = none → m = 0 ∧ cap = 0)
    (ad : Addr) (u : Int) (hx : a.eval x = .slice (some ad) 1 1) (hu : w.cell? ad = some (.int .i64 u)) (hfull : cap < m + 1) (hb : m ≤ 1000000)
    (hK : ∀ b' cap' w', Below w.heap.size w w' → w.heap.size ≤ b' → IntsAt w' (some ⟨b', 0, none⟩) (xs ++ [u]) → m + 1 ≤ cap' → K (a.put o.dst (.slice (some ⟨b', 0, none⟩) (m + 1) cap')) w') :
    if Region.wanted o (yielded ops a.tmps) = true then Oper.wp Try.prog o a w K Q else E := by
  subst hm
  have hw : Region.wanted o (yielded ops a.tmps) = true := by simp [Region.wanted, hgd]
  rw [if_pos hw]
  obtain ⟨b', cap', w', hrun, h1, h2, h3, h4⟩ := run_app_full o.type w ao cap xs hat hnil ad u hu hfull hb
  unfold Oper.wp
  simp [execOp, hop, resolve, invoke, builtin, hs, hx, hrun, Result.andThen, Oper.upon]
  exact hK b' cap' w' h1 h2 h3 h4

theorem runL_fits {rs : List Rl} (hr : rulesOk rs) : ∀ (n : Nat) (s : LSt), s.fits → (runL rs s n).fits
  | 0, _, h => h
  | n + 1, s, h => by
    have h2 := learnTo_fits h hr rs.length (Nat.le_refl _)
    rw [runL]; split
    · exact h2
    · exact runL_fits hr n _ h2
theorem deskOf_fits {seen : List Int} {rs : List Rl} (hr : rulesOk rs) : (deskOf seen rs).fits := by
  refine runL_fits hr 13 _ ⟨?_, markL_length _⟩
  have := List.count_le_length (a := (0 : Int)) (l := markL seen)
  rw [markL_length] at this
  show 0 + (markL seen).count 0 ≤ 12
  omega
theorem deskOf_ordF {seen : List Int} {rs : List Rl} (hs : factsOk seen) (hr : rulesOk rs) : OrdF rs (deskOf seen rs).ord :=
  (deskOf_end hs hr).ord.ordF (by have := (deskOf_fits (seen := seen) hr).1; omega)

def pStepsE (facts : Int) (seen : List Int) (rs : List Rl) (x : Int) : Int := if openErr facts seen rs [x] = 0 then (if nth (deskOf seen rs).known x.toNat = 0 then 5 else 0) else openErr facts seen rs [x]
def pStepsL (facts : Int) (seen : List Int) (rs : List Rl) (x : Int) : List Int := if openErr facts seen rs [x] = 0 then (if nth (deskOf seen rs).known x.toNat = 0 then [] else stepsM rs (deskOf seen rs).ord (markL [x])) else []

/-- a list and an error are handed back, with room -/
def ListC (w : World) (xs : List Int) (er : Int) (e : Ending) (w' : World) : Prop :=
  ∃ ao cap, e = .returned (.tuple #[.slice ao xs.length cap, .int .i64 er]) ∧ IntsAt w' ao xs ∧ (ao = none → cap = 0) ∧ xs.length ≤ cap ∧ Below w.heap.size w w'

set_option maxRecDepth 100000 in
set_option maxHeartbeats 4000000 in
theorem pSteps_c (facts : Int) (sa : Option Addr) (sc : Nat) (seen : List Int) (ra : Option Addr) (rc : Nat) (rs : List Rl) (x : Int) (w : World) (hc : CaseAt w sa ra seen rs) :
    Calls Try.prog 32 #[.agg #[.int .i64 facts, .slice sa seen.length sc, .slice ra rs.length rc], .int .i64 x] w (ListC w (pStepsL facts seen rs x) (pStepsE facts seen rs x)) := by
  obtain ⟨W0, hW0⟩ : ∃ W0, W0 = w.alloc (.cells #[.int .i64 facts, .slice sa seen.length sc, .slice ra rs.length rc] 25) := ⟨_, rfl⟩
  have HB0 := hid (show Below w.heap.size w W0 by rw [hW0]; exact bnew w _)
  obtain ⟨c0, c1, c2⟩ := caseBox w facts sa ra seen.length sc rs.length rc
  rw [← hW0] at c0 c1 c2
  have HS := hid hW0
  obtain ⟨W1, hW1⟩ : ∃ W1, W1 = W0.alloc (.cells #[.int .i64 x] 3) := ⟨_, rfl⟩
  have hb01 : Below W0.heap.size W0 W1 := by rw [hW1]; exact bnew _ _
  have HO := hid (open_c facts sa sc seen ra rc rs (some ⟨w.heap.size + 1, 0, none⟩) 1 [x] W1 (hc.mono (bstep HB0.out hb01)) (by have h := at_lit1 W0 x; rw [← hW1, show W0.heap.size = w.heap.size + 1 from by rw [hW0]; simp] at h; exact h) (by simp))
  have HS1 := hid hW1
  have HB01 := hid hb01
  unfold ListC pStepsL pStepsE
  have hlen1 : ([x] : List Int).length = 1 := rfl
  rw [hlen1] at HO
  by_cases hz : openErr facts seen rs [x] = 0
  · rw [if_pos hz, if_pos hz]
    rw [hz] at HO
    obtain ⟨hz2, hw⟩ := open_zero hz
    obtain ⟨hx0, hx1⟩ := within_one.1 hw
    obtain ⟨⟨f0, f1⟩, _⟩ := case_zero hz2
    obtain ⟨n, rfl⟩ := Int.eq_ofNat_of_zero_le hx0
    have hn12 : n < 12 := by omega
    have Hof := hid (deskOf_ordF (case_seen hz2) (case_rules hz2 hc.il))
    have Hro := hid (case_rules hz2 hc.il)
    have Hc := hid hc
    rw [Int.toNat_natCast]
    obtain ⟨st, hst⟩ : ∃ st, st = deskOf seen rs := ⟨_, rfl⟩
    rw [← hst] at HO Hof ⊢
    clear hc hz hz2 hW0 c0 c1 c2 hst hw hx0 hx1 f0 f1 hW1 hb01
    by_cases hk : nth st.known n = 0
    · rw [if_pos hk, if_pos hk]
      go_enter Try.func32, Try.ntmps32
      go_wp2_with fail
      rw [← HS.out, ← HS1.out]
      refine HO.out.mono ?_
      rintro e w1 ⟨p, rfl, hB, hp⟩
      obtain ⟨g, bm, oa, oc, rfl, hd⟩ := hp rfl
      have HB1 := hid (bstep HB0.out (bstep HB01.out hB))
      have kk := hd.kK hn12
      rw [hk] at kk
      clear hB hp hd hk
      go_wp2
      go_ret2
      exact ⟨none, 0, rfl, IntsAt.nil _ _, fun _ => rfl, Nat.le_refl _, HB1.out⟩
    · rw [if_neg hk, if_neg hk]
      have hkb : (nth st.known n == 0) = false := by simpa using hk
      obtain ⟨L, hL⟩ : ∃ L, L = stepsM rs st.ord (markL [(n : Int)]) := ⟨_, rfl⟩
      rw [← hL]
      have HL := hid hL
      clear hL
      go_enter Try.func32, Try.ntmps32
      go_wp2_with fail
      rw [← HS.out, ← HS1.out]
      refine HO.out.mono ?_
      rintro e w1 ⟨p, rfl, hB, hp⟩
      obtain ⟨g, bm, oa, oc, rfl, hd⟩ := hp rfl
      have HB1 := hid (bstep HB0.out (bstep HB01.out hB))
      have kk := hd.kK hn12
      have hlit := at_lit1 w1 (n : Int)
      have hb1 := bnew w1 (.cells #[.int .i64 (n : Int)] 3)
      have HSt := hid (steps_c W1.heap.size g bm oa oc (.int .i64 facts) (.slice sa seen.length sc) ra rc rs st.known st.ord st.clash (some ⟨w1.heap.size, 0, none⟩) 1 [(n : Int)] (w1.alloc (.cells #[.int .i64 (n : Int)] 3)) (hd.kept hb1) (Hc.out.r.mono (bstep HB1.out hb1)) Hro.out Hc.out.rl Hof.out hlit (by simp) (factsOk_one (by omega) (by omega)))
      rw [← HL.out] at HSt
      have HB2 := hid (bstep HB1.out hb1)
      generalize nth st.known n = v at *
      clear hB hp hd hlit hb1
      go_wp2_with fail
      refine HSt.out.mono ?_
      rintro e w2 ⟨ao, cap, rfl, hat, hn, hcp, hB⟩
      go_wp2
      go_ret2
      exact ⟨ao, cap, rfl, hat, hn, hcp, bstep HB2.out hB⟩
  · rw [if_neg hz, if_neg hz]
    have hcb := errB hz
    clear hc hz hW0 c0 c1 c2 hW1 hb01
    generalize openErr facts seen rs [x] = c at *
    go_enter Try.func32, Try.ntmps32
    go_wp2_with fail
    rw [← HS.out, ← HS1.out]
    refine HO.out.mono ?_
    rintro e w1 ⟨p, rfl, hB, hp⟩
    have HB1 := hid (bstep HB0.out (bstep HB01.out hB))
    clear hB hp
    go_wp2
    go_ret2
    exact ⟨none, 0, rfl, IntsAt.nil _ _, fun _ => rfl, Nat.le_refl _, HB1.out⟩

def pClashE (facts : Int) (seen : List Int) (rs : List Rl) : Int := if caseErr facts seen rs = 0 then (if (deskOf seen rs).clash < 0 then 5 else 0) else caseErr facts seen rs
def pClashL (facts : Int) (seen : List Int) (rs : List Rl) : List Int := if caseErr facts seen rs = 0 then (if (deskOf seen rs).clash < 0 then [] else stepsM rs (deskOf seen rs).ord (markL (nthR rs (deskOf seen rs).clash.toNat).1) ++ [(deskOf seen rs).clash]) else []

theorem stepsM_len {rs : List Rl} {ord : List (Nat × Nat)} (h : OrdF rs ord) (m : List Int) : (stepsM rs ord m).length ≤ 12 := Nat.le_trans (stepsTo_length _ _ _ _) h.len

set_option maxRecDepth 100000 in
set_option maxHeartbeats 4000000 in
theorem pClash_c (facts : Int) (sa : Option Addr) (sc : Nat) (seen : List Int) (ra : Option Addr) (rc : Nat) (rs : List Rl) (w : World) (hc : CaseAt w sa ra seen rs) :
    Calls Try.prog 33 #[.agg #[.int .i64 facts, .slice sa seen.length sc, .slice ra rs.length rc]] w (ListC w (pClashL facts seen rs) (pClashE facts seen rs)) := by
  obtain ⟨W0, hW0⟩ : ∃ W0, W0 = w.alloc (.cells #[.int .i64 facts, .slice sa seen.length sc, .slice ra rs.length rc] 25) := ⟨_, rfl⟩
  have HB0 := hid (show Below w.heap.size w W0 by rw [hW0]; exact bnew w _)
  obtain ⟨c0, c1, c2⟩ := caseBox w facts sa ra seen.length sc rs.length rc
  rw [← hW0] at c0 c1 c2
  have C2 := hid c2
  have HS := hid hW0
  have HO := hid (open_c facts sa sc seen ra rc rs none 0 [] W0 (hc.mono HB0.out) (IntsAt.nil _ _) (by simp))
  rw [open_none] at HO
  unfold ListC pClashL pClashE
  by_cases hz : caseErr facts seen rs = 0
  · rw [if_pos hz, if_pos hz]
    rw [hz] at HO
    have Hof := hid (deskOf_ordF (case_seen hz) (case_rules hz hc.il))
    have Hcl := hid (deskOf_end (case_seen hz) (case_rules hz hc.il)).clash
    have Hro := hid (case_rules hz hc.il)
    have Hc := hid hc
    obtain ⟨st, hst⟩ : ∃ st, st = deskOf seen rs := ⟨_, rfl⟩
    rw [← hst] at HO Hof Hcl ⊢
    clear hc hz hW0 c0 c1 c2 hst
    by_cases hcl : st.clash < 0
    · rw [if_pos hcl, if_pos hcl]
      go_enter Try.func33, Try.ntmps33
      go_wp2_with fail
      rw [← HS.out]
      refine HO.out.mono ?_
      rintro e w1 ⟨p, rfl, hB, hp⟩
      obtain ⟨g, bm, oa, oc, rfl, hd⟩ := hp rfl
      have HB1 := hid (bstep HB0.out hB)
      have kc := hd.kC
      clear hB hp hd
      go_wp2
      go_ret2
      exact ⟨none, 0, rfl, IntsAt.nil _ _, fun _ => rfl, Nat.le_refl _, HB1.out⟩
    · rw [if_neg hcl, if_neg hcl]
      obtain ⟨k, hk⟩ := Int.eq_ofNat_of_zero_le (show 0 ≤ st.clash by omega)
      obtain ⟨hkr, _, _⟩ := Hcl.out (by omega)
      rw [hk, Int.toNat_natCast] at hkr
      rw [hk, Int.toNat_natCast]
      obtain ⟨hf1, hf2, _, _⟩ := Hro.out k hkr
      obtain ⟨b2, off2, a2, cp2, rfl, hra0⟩ := Hc.out.r.at hkr
      have Hlen := hid (stepsM_len Hof.out (markL (nthR rs k).1))
      obtain ⟨L, hL⟩ : ∃ L, L = stepsM rs st.ord (markL (nthR rs k).1) := ⟨_, rfl⟩
      rw [← hL] at Hlen ⊢
      have HL := hid hL; have Hf1 := hid hf1; have Hf2 := hid hf2; have Hra0 := hid hra0; have Hk := hid hk
      clear hL hf1 hf2 hra0 hcl
      have hkl : (k : Int) < (rs.length : Int) := by omega
      go_enter Try.func33, Try.ntmps33
      go_wp2_with fail
      rw [← HS.out]
      refine HO.out.mono ?_
      rintro e w1 ⟨p, rfl, hB, hp⟩
      obtain ⟨g, bm, oa, oc, rfl, hd⟩ := hp rfl
      have HB1 := hid (bstep HB0.out hB)
      have kc := hd.kC
      rw [Hk.out] at kc
      have d2 := cstep C2.out hB
      have hra := Hra0.out.mono HB1.out
      have q0 := hra.cI
      have HSt := hid fun (w' : World) (h : Below w1.heap.size w1 w') => steps_c W0.heap.size g bm oa oc (.int .i64 facts) (.slice sa seen.length sc) (some ⟨b2, off2, none⟩) rc rs st.known st.ord st.clash a2 cp2 (nthR rs k).1 w' (hd.kept h) (Hc.out.r.mono (bstep HB1.out h)) Hro.out Hc.out.rl Hof.out (hra.at'.mono h) Hf2.out Hf1.out
      rw [← HL.out] at HSt
      obtain ⟨ln, hln⟩ : ∃ n, n = (nthR rs k).1.length := ⟨_, rfl⟩
      rw [← hln] at q0 HSt
      have Hkc := hid kc
      clear hB hp hd hra hln hk
      go_upto_region 6 with (fail)
      go_cut [6] (fun s wc => ∃ ao cap, s = .slice ao L.length cap ∧ IntsAt wc ao L ∧ (ao = none → cap = 0) ∧ L.length ≤ cap ∧ Below w1.heap.size w1 wc)
      case first =>
        go_region_with (go_at_call 74; (with_reducible refine (HSt.out _ (by first | exact Below.refl _ _ | exact (Below.refl _ _).drew)).mono ?_); rintro e w3 ⟨ao, cap, rfl, hat, hn, hcp, hB⟩; have hBl : Below w1.heap.size w1 w3 := by first | exact hB | exact ((Below.refl _ _).drew).trans hB)
        all_goals (
          go_wp2
          go_meet
          exact ⟨ao, cap, rfl, hat, hn, hcp, hBl⟩)
      case rest =>
        obtain ⟨ao, cap, rfl, hat, hn, hcp, hB⟩ := hcut
        have kc2 := cstep Hkc.out hB
        have hgw : g < wc.heap.size := block_lt_of_cell kc2
        have hgw2 : ¬ g = wc.heap.size := by omega
        have HB2 := hid (bstep HB1.out hB)
        have Hat := hid hat
        have hlb : L.length ≤ 1000000 := by have := Hlen.out; omega
        clear hB kc q0 d2 hat HSt
        have hRl : (L ++ [(k : Int)]).length = L.length + 1 := by simp
        have HRl := hid hRl
        clear hRl
        cases ao with
        | none =>
          obtain rfl : L = [] := by
            rcases Hat.out with h | ⟨b, off, h, _⟩
            · exact h
            · cases h
          obtain rfl := hn rfl
          go_wp2_with fail
          go_region_law ((refine step_app_full1 _ (by rfl) _ _ (by rfl) none 0 0 [] (by rfl) (by rfl) (IntsAt.nil _ _) (fun _ => ⟨rfl, rfl⟩) _ (k : Int) (by rfl) (by simp [go_sem]) (by omega) (by omega) ?_; intro b' cap' w' hB' hb' hat' hcap'; have hBl : Below w.heap.size w w' := by first | exact bstep HB2.out (bstep (bnew _ _) hB') | exact bstep HB2.out (bstep (bnew _ _).drew hB') | exact bstep HB2.out.drew (bstep (bnew _ _) hB')))
          all_goals (
            go_wp2
            go_ret2
            exact ⟨some ⟨b', 0, none⟩, cap', rfl, hat', (fun h => by cases h), hcap', hBl⟩)
        | some a0 =>
          go_wp2_with fail
          go_region_law ((refine step_app_full1 _ (by rfl) _ _ (by rfl) (some a0) L.length L.length L (by rfl) (by rfl) (by first | exact Hat.out | exact Hat.out.mono (bnew _ _) | exact Hat.out.mono (bnew _ _).drew | exact (Hat.out.mono (Below.refl _ _).drew).mono (bnew _ _)) (fun h => by cases h) _ (k : Int) (by rfl) (by simp [go_sem]) (by omega) hlb ?_; intro b' cap' w' hB' hb' hat' hcap'; have hBl : Below w.heap.size w w' := by first | exact bstep HB2.out (bstep (bnew _ _) hB') | exact bstep HB2.out (bstep (bnew _ _).drew hB') | exact bstep HB2.out.drew (bstep (bnew _ _) hB')))
          all_goals (
            go_wp2
            go_ret2
            exact ⟨some ⟨b', 0, none⟩, cap', by rw [HRl.out]; rfl, hat', (fun h => by cases h), by rw [HRl.out]; exact hcap', hBl⟩)
  · rw [if_neg hz, if_neg hz]
    have hcb := errB hz
    clear hc hz hW0 c0 c1 c2
    generalize caseErr facts seen rs = c at *
    go_enter Try.func33, Try.ntmps33
    go_wp2_with fail
    rw [← HS.out]
    refine HO.out.mono ?_
    rintro e w1 ⟨p, rfl, hB, hp⟩
    have HB1 := hid (bstep HB0.out hB)
    clear hB hp
    go_wp2
    go_ret2
    exact ⟨none, 0, rfl, IntsAt.nil _ _, fun _ => rfl, Nat.le_refl _, HB1.out⟩

end Go.Proofs.Ytkioejdddmnbmaa
