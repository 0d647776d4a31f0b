/- Walk: the steps of a desk. -/
import Derived.Test.YtkioejdddmnbmaaSk
import Derived.Maps.Ext
import Derived.Maps.OwnIn
import Derived.Test.YtkioejdddmnbmaaRq
namespace Go.Proofs.Ytkioejdddmnbmaa
open Go.RowKit Go.Shelf Go.Maps
attribute [local go_sem ↓] wp_get wp_get0 wp_getS wp78 wps78 wpa78 wpi78 wpai78
attribute [local go_sem] Oper.semAt_some mm80

set_option maxRecDepth 100000 in
theorem keyOf107_inv {key : Value} {kl : Lit} (h : keyOf Try.prog 107 key = some kl) : (∃ x, key = .agg #[.int .i64 x]) ∧ WideAt.IsKeyLit kl := by
  unfold keyOf at h
  rw [Try.underlying107] at h
  simp only at h
  split at h
  · rename_i hc
    obtain ⟨ls, hls, rfl⟩ := Option.map_eq_some_iff.1 h
    refine ⟨?_, trivial⟩
    rw [Bool.and_eq_true] at hc
    cases key with
    | agg cs =>
      obtain ⟨cl⟩ := cs
      have hsz : cl.length = 1 := by
        have := hc.2
        simp [Value.formed, Try.underlying107, cells107] at this
        exact this
      match cl, hsz with
      | [v], _ =>
        have hn : ∃ d, Try.prog.types.size + 1 = d + 2 := ⟨Try.prog.types.size - 1, by
          have : 2 ≤ Try.prog.types.size := of_decide_eq_true (by kernel_rfl)
          omega⟩
        obtain ⟨d, hd⟩ := hn
        rw [hd] at hls
        unfold Program.keyLits at hls
        rw [Try.underlying107] at hls
        simp [cells107, cells3, Value.cells, Program.keyLits, Try.underlying3] at hls
        cases v with
        | int q n =>
          by_cases hq : q = .i64 ∧ (Lit.int .i64 n).wf = true
          · obtain ⟨rfl, _⟩ := hq; exact ⟨n, rfl⟩
          · simp [hq] at hls
        | _ => simp at hls
    | _ => simp [Value.formed, Try.underlying107] at hc
  · cases h

/-- the law of ranges, the frame of a round told by what the assignment does -/
theorem range_law' {P : Program} {op : Operand} {ps : Array Tmp} {assign body : Code} {Q : Exit → Act → World → Prop} {a : Act} {w : World} (gs : Array Value → Array Value → Array Value)
    {gf : Nat} {lb : Array Value} (hg : a.eval op = .func (.func gf) #[] lb) (eg : ∀ args w, (callFunc gf args).run P w = .ok (.enter gf args) w)
    {S : Nat → Prop} {X : Nat → Array Value → World → Prop} {L N : Nat} {Done : Nat → Prop} (hseq : Gen P gf lb S X L N Done w)
    (hS : ¬ S w.heap.size ∧ ¬ S (w.heap.size + 1)) (hps : ∀ k v W, X k v W → v.size = ps.size)
    (hX : ∀ k v W W', X k v W → Only (fun b => b = w.heap.size + 1) W W' → X k v W')
    (I : Nat → World → Prop)
    (hI : ∀ k W W', I k W → Only (fun b => b = w.heap.size + 1) W W' → I k W')
    (hN : ∀ k W, I k W → k ≤ N) (h0 : I 0 w)
    (hassign : ∀ (l k : Nat) (v : Array Value) (W : World) (K : Act → World → Prop), X k v W → K { tmps := gs v ((ps.zip v).foldl (fun t (p, v) => t.setIfInBounds p v) a.tmps), defers := [] } W →
      assign.wpIn (Fence.wide.inRound l) 0 P (Exit.then K (fun _ _ _ => False)) { tmps := (ps.zip v).foldl (fun t (p, v) => t.setIfInBounds p v) a.tmps, defers := [] } W)
    (hbody : ∀ (k : Nat) (v : Array Value) (W : World), w.heap.size + 1 < W.heap.size → I k W → X k v W → k < L → body.wpIn (Fence.wide.inRound (w.heap.size + 1)) 0 P (roundEnds S I (fun _ _ _ => False) k W) { tmps := gs v ((ps.zip v).foldl (fun t (p, v) => t.setIfInBounds p v) a.tmps), defers := [] } W)
    (hdone : ∀ (k : Nat) (W : World), Done k → I k W → W.heap[w.heap.size]? = some (.deferred (some [])) → w.heap.size < W.heap.size →
      Q .normal { a with defers := { target := .collected w.heap.size, args := #[] } :: a.defers } W) :
    (Code.rangeFunc op ps assign body).wpIn Fence.wide 0 P Q a w :=
  range_law hg eg hseq hS hps hX I (fun _ _ _ => False) hI (fun _ _ _ _ h => h.elim) hN h0 (fun v => { tmps := gs v ((ps.zip v).foldl (fun t (p, v) => t.setIfInBounds p v) a.tmps), defers := [] }) hassign hbody hdone (fun _ _ _ h => h.elim)

theorem ownI_ge {B : Nat} {w : World} {ao : Option Addr} {n cap : Nat} {xs : List Int} (h : OwnI B w ao n cap xs) {b off : Nat} (e : ao = some ⟨b, off, none⟩) : B ≤ b := by
  obtain ⟨hn, (⟨e2, _⟩ | ⟨g', c, cur, e2, hge, hh, hr⟩)⟩ := h.2
  · cases e2; cases e
  · cases e2; cases e; exact hge

theorem ownI_cap {B : Nat} {w : World} {ao : Option Addr} {n cap : Nat} {xs : List Int} (h : OwnI B w ao n cap xs) : n ≤ cap := by
  obtain ⟨hn, (⟨e2, h0⟩ | ⟨g', c, cur, e2, hge, hh, hc, hr⟩)⟩ := h.2
  · cases e2; omega
  · cases e2; exact hc
/-- a list is handed back, with room -/
def OwnC (w : World) (xs : List Int) (e : Ending) (w' : World) : Prop := ∃ ao cap, e = .returned (.slice ao xs.length cap) ∧ IntsAt w' ao xs ∧ (ao = none → cap = 0) ∧ xs.length ≤ cap ∧ Below w.heap.size w w'

/-- what the loop over the order keeps -/
structure StI (w : World) (g m8 b9 b5 mb : Nat) (rs : List Rl) (ord : List (Nat × Nat)) (m0 : List Int) (k : Nat) (W : World) : Prop where
  le : k ≤ ord.length
  mk0 : W.heap[m8]? = some (.cells (intv (wm rs ord m0 k)).toArray 78 (0, 0))
  fn : W.heap[b9]? = some (.cells #[.func (.func 73) #[.agg (intv (wm rs ord m0 k)).toArray] #[]] 90 (0, 0))
  mp : W.ownsMap (H := Unit) Try.prog 107 (plainElem Try.prog 3) mb ord.length (dm rs ord m0 k)
  c5 : W.cell? ⟨b5, 0, none⟩ = some (.map (some mb))
  cx : W.cell? ⟨w.heap.size, 0, none⟩ = some (.pointer (some ⟨g, 0, none⟩))
  b : Below w.heap.size w W
theorem StI.only {w : World} {g m8 b9 b5 mb : Nat} {rs : List Rl} {ord : List (Nat × Nat)} {m0 : List Int} {k : Nat} {W W' : World} (h : StI w g m8 b9 b5 mb rs ord m0 k W) {l : Nat} (ho : Only (fun b => b = l) W W') (h1 : m8 ≠ l) (h2 : b9 ≠ l) (h3 : b5 ≠ l) (h4 : mb ≠ l) (h5 : w.heap.size < l) :
    StI w g m8 b9 b5 mb rs ord m0 k W' :=
  ⟨h.le, (ho.block _ (Array.getElem?_eq_some_iff.1 h.mk0).1 h1).trans h.mk0, (ho.block _ (Array.getElem?_eq_some_iff.1 h.fn).1 h2).trans h.fn,
    h.mp.kept (row := some l) ⟨ho.os, ho.tape, ho.output, ho.size, fun j hj hs => ho.block j hj (fun e => hs (by rw [e]))⟩ (by simpa using h4), ho.cell h.c5 h3, ho.cell h.cx (by show ¬ w.heap.size = l; omega), h.b.trans (ho.below h.b.size (by intro j hj e; have e' : j = l := e; omega))⟩

set_option maxRecDepth 100000 in
set_option maxHeartbeats 4000000 in
theorem steps_c (B : Nat) (g bm : Nat) (oa : Option Addr) (oc : Nat) (c0 c1 : Value) (ra : Option Addr) (rc : Nat) (rs : List Rl) (known : List Int) (ord : List (Nat × Nat)) (clash : Int) (fa : Option Addr) (fc : Nat) (fs : List Int) (w : World)
    (hd : DeskAt B w g bm oa oc c0 c1 (.slice ra rs.length rc) known ord ord clash) (hr : RulesAt w ra rs) (hro : rulesOk rs) (_hrl : rs.length ≤ 1000000) (hof : OrdF rs ord) (hf : IntsAt w fa fs) (hfl : fs.length ≤ 1000000) (hff : factsOk fs) :
    Calls Try.prog 74 #[.pointer (some ⟨g, 0, none⟩), .slice fa fs.length fc] w (OwnC w (stepsM rs ord (markL fs))) := by
  have Hd := hid hd; have Hr := hid hr; have Hro := hid hro; have Hof := hid hof; have Hf := hid hf; have Hff := hid hff
  obtain ⟨R, hR⟩ : ∃ R, R = stepsM rs ord (markL fs) := ⟨_, rfl⟩
  rw [← hR]
  have HR := hid hR
  clear hR
  have km := hd.kM
  have hbm := hd.map.lt
  have hgs := hd.size
  have hsz : size (MD (H := Unit) ord) ≤ ord.length := hd.map.size_le
  have hol := hof.len
  have Hsz := hid hsz
  clear hd hr hro hof hf hff hsz
  refine callsIn_wide.1 (callsIn_of_wp_marks (n := 0) Try.func74 rfl trivial ?_ rfl)
  simp only [Try.ntmps74, List.size_toArray, List.length_cons, List.length_nil, Nat.reduceAdd, Nat.reduceSub, Array.replicate_succ, Array.replicate_zero, List.push_toArray, List.append_toArray, List.nil_append, List.cons_append]
  refine wpIn_wide.2 ?_
  have e1 : (((w.alloc (.cells #[.pointer (some ⟨g, 0, none⟩)] 73)).alloc (.map #[] 0)).alloc (.cells #[.map (some (w.heap.size + 1))] 80)).heap.size = w.heap.size + 1 + 1 + 1 := by simp
  have hmap3 := ((Hd.out.map.kept (row := none) (w' := ((w.alloc (.cells #[.pointer (some ⟨g, 0, none⟩)] 73)).alloc (.map #[] 0)).alloc (.cells #[.map (some (w.heap.size + 1))] 80)) (by
    have h := bstep (bnew w (.cells #[.pointer (some ⟨g, 0, none⟩)] 73)) (bstep (bnew _ (.map #[] 0)) (bnew _ (.cells #[.map (some (w.heap.size + 1))] 80)))
    exact ⟨h.os, h.tape, h.output, h.size, fun j hj _ => h.block j hj⟩) (by simp)))
  have Hmap3 := hid hmap3
  have km3 := cstep km (bstep (bnew w (.cells #[.pointer (some ⟨g, 0, none⟩)] 73)) (bstep (bnew _ (.map #[] 0)) (bnew _ (.cells #[.map (some (w.heap.size + 1))] 80))))
  have km1 := cstep km (bnew w (.cells #[.pointer (some ⟨g, 0, none⟩)] 73))
  clear hmap3
  go_wp2_with (at_range; refine wpList_range_own _ rfl _ 80 rfl 107 3 keyed107 Try.underlying80 _ bm ord.length _ rfl Hmap3.out ?_; intro w0 hrg0 hg0 hs0)
  go_frame
  rw [e1] at hrg0 hs0 ⊢
  have hB3 : Below w.heap.size w (((w.alloc (.cells #[.pointer (some ⟨g, 0, none⟩)] 73)).alloc (.map #[] 0)).alloc (.cells #[.map (some (w.heap.size + 1))] 80)) := bstep (bnew w (.cells #[.pointer (some ⟨g, 0, none⟩)] 73)) (bstep (bnew _ (.map #[] 0)) (bnew _ (.cells #[.map (some (w.heap.size + 1))] 80)))
  have hmade := (World.ownsMap_made (H := Unit) (w.alloc (.cells #[.pointer (some ⟨g, 0, none⟩)] 73)) Try.prog 107 (plainElem Try.prog 3)).kept (row := none) (w' := ((w.alloc (.cells #[.pointer (some ⟨g, 0, none⟩)] 73)).alloc (.map #[] 0)).alloc (.cells #[.map (some (w.heap.size + 1))] 80)) (by
    have h := bnew ((w.alloc (.cells #[.pointer (some ⟨g, 0, none⟩)] 73)).alloc (.map #[] 0)) (.cells #[.map (some (w.heap.size + 1))] 80)
    exact ⟨h.os, h.tape, h.output, h.size, fun j hj _ => h.block j hj⟩) (by simp)
  rw [show (w.alloc (.cells #[.pointer (some ⟨g, 0, none⟩)] 73)).heap.size = w.heap.size + 1 from by simp] at hmade
  have hk5 : (((w.alloc (.cells #[.pointer (some ⟨g, 0, none⟩)] 73)).alloc (.map #[] 0)).alloc (.cells #[.map (some (w.heap.size + 1))] 80)).cell? ⟨w.heap.size + 1 + 1, 0, none⟩ = some (.map (some (w.heap.size + 1))) := by simp [go_sem]
  have hkx : (((w.alloc (.cells #[.pointer (some ⟨g, 0, none⟩)] 73)).alloc (.map #[] 0)).alloc (.cells #[.map (some (w.heap.size + 1))] 80)).cell? ⟨w.heap.size, 0, none⟩ = some (.pointer (some ⟨g, 0, none⟩)) := cstep (by simp [go_sem]) (bstep (bnew (w.alloc (.cells #[.pointer (some ⟨g, 0, none⟩)] 73)) (.map #[] 0)) (bnew _ _))
  have hg0B : ∀ {v : World}, v.grownBy w0 none → Below v.heap.size v w0 := fun h => ⟨h.os, h.tape, h.output, h.size, fun j hj => h.block j hj (by simp)⟩
  have hB0 := hg0B hg0
  have Hrg0 := hid hrg0; have Hmade := hid (hmade.kept hg0 (by simp)); have Hk5 := hid (cstep hk5 hB0); have Hkx := hid (cstep hkx hB0); have HB0 := hid (bstep hB3 hB0)
  clear hrg0 hmade hk5 hkx hB3 hB0 hg0B hg0 hs0 km km1 km3 e1
  go_loopw [7] (fun _ wr => ∃ (left : Lit → Bool) (cnt : Nat) (Dout : DataW Unit), wr.ranges Try.prog 107 (plainElem Try.prog 3) bm (w.heap.size + 1 + 1 + 1) ord.length (MD ord) left cnt ∧ cnt ≤ size (MD (H := Unit) ord) ∧
      wr.ownsMap Try.prog 107 (plainElem Try.prog 3) (w.heap.size + 1) (size (MD (H := Unit) ord) - cnt) Dout ∧ Agree Dout (MD ord) left ∧ wr.cell? ⟨w.heap.size + 1 + 1, 0, none⟩ = some (.map (some (w.heap.size + 1))) ∧ wr.cell? ⟨w.heap.size, 0, none⟩ = some (.pointer (some ⟨g, 0, none⟩)) ∧ Below w.heap.size w wr)
    (fun _ wr => wr.rangeLeft bm (w.heap.size + 1 + 1 + 1))
  case atStart => exact ⟨_, _, .map [], Hrg0.out, Nat.le_refl _, Hmade.out.mono (Nat.zero_le _), agree_start _, Hk5.out, Hkx.out, HB0.out⟩
  case round =>
    obtain ⟨left, cnt, Dout, hrg, hcs, hout, hA, hk5, hkx, hnx⟩ := hrel
    obtain ⟨wo, rfl⟩ : ∃ wo : World, wo = wr := ⟨_, rfl⟩
    have Hrg := hid hrg; have Hout := hid hout; have HA := hid hA; have Hnx := hid hnx; have Hk5 := hid hk5; have Hkx := hid hkx
    clear hrg hout hA hnx
    go_wp2_with (first
      | (at_next; refine wpList_next_ranges _ rfl _ rfl 107 keyed107 (plainElem Try.prog 3) (fun x : Int => .agg #[.int .i64 x]) (fun c : Int => .int .i64 c) (fun key kl h => (keyOf107_inv h).1) (fun v y h => by obtain ⟨c, h1, _⟩ := plainElem_int_inv Try.underlying3 h; exact ⟨c, h1⟩) bm (w.heap.size + 1 + 1 + 1) ord.length (MD ord) left cnt rfl Hrg.out ?_ ?_)
      | go_in)
    · intro hc0 hl0
      have hmapw := Hd.out.map.kept (row := none) (w' := wo) ⟨Hnx.out.os, Hnx.out.tape, Hnx.out.output, Hnx.out.size, fun j hj _ => Hnx.out.block j hj⟩ (by simp)
      have eD := agree_end HA.out hl0 (Hout.out.canon keyed107) (hmapw.canon keyed107)
      subst eD
      have HM0 := hid Hout.out
      have HMk := hid (marked_c fa fc fs wo (Hf.out.mono Hnx.out) hfl Hff.out)
      obtain ⟨V, hV⟩ : ∃ V, V = (intv (markL fs)).toArray := ⟨_, rfl⟩
      rw [← hV] at HMk
      have HV := hid hV
      have hV2 : (V.size == 12) = true := by rw [hV]; simp [intv_length, markL_length]
      have hV3 : V.all (·.oneCell') = true := by rw [hV]; simp only [List.all_toArray]; exact List.all_eq_true.2 (intv_one _)
      clear hV hmapw hl0 hc0 HA hcs Hrg
      go_wp2_with fail
      refine HMk.out.mono ?_
      rintro e w3 ⟨rfl, hB⟩
      have HB3 := hid (bstep Hnx.out hB)
      have HM1 := hid (HM0.out.kept (row := none) (w' := w3) ⟨hB.os, hB.tape, hB.output, hB.size, fun j hj _ => hB.block j hj⟩ (by simp))
      have K5 := hid (cstep Hk5.out hB); have Kx := hid (cstep Hkx.out hB)
      have kx := Kx.out
      have kO := Hd.out.kept HB3.out
      have kO2 := kO.kO
      clear hB hk5 hkx kO
      have hpo : partOk (w3.alloc (.cells zero78 78)) w3.heap.size 0 12 = true := partOk_of (heap_alloc_new w3 _) (by simp [zero78, intv_length])
      have hfb : freeB (w3.alloc (.cells zero78 78)) w3.heap.size = true := freeB_of (heap_alloc_new w3 _)
      have hVs : V.size = 12 := by simpa using hV2
      have hset : World.setPart (w3.alloc (.cells zero78 78)) w3.heap.size 0 V = w3.alloc (.cells V 78) := by
        unfold World.setPart
        rw [heap_alloc_new]
        simp only [List.take_zero, List.nil_append, Nat.zero_add, hVs]
        rw [setRow_alloc, List.drop_of_length_le (by simp [zero78, intv_length])]
        simp
      have HVs := hid hVs; have Hset := hid hset
      clear hVs hset
      go_upto_region 7 with (fail)
      rw [Hset.out]
      have hVs := HVs.out
      have o1 : partOk (w3.alloc (.cells V 78)) w3.heap.size 0 12 = true := partOk_of (heap_alloc_new w3 _) (by omega)
      have p1 : partAt (w3.alloc (.cells V 78)) w3.heap.size 0 12 = V := by
        rw [partAt_of (heap_alloc_new w3 _), show 0 + 12 = V.size from by omega]
        exact Array.extract_size
      clear hpo hfb hVs hV2 hV3
      have l1 := cstep kx (bstep (bnew w3 (.cells V 78)) (bnew _ (.cells #[.func (.func 73) #[.agg V] #[]] 90)))
      have l2 := cstep kO2 (bstep (bnew w3 (.cells V 78)) (bnew _ (.cells #[.func (.func 73) #[.agg V] #[]] 90)))
      clear kx kO2
      go_wp2_with fail
      refine (backwardSeq_c oa ord.length oc _).mono ?_
      rintro e w4 ⟨rfl, rfl⟩
      go_wp2_with fail
      clear l1 l2 o1 p1
      obtain ⟨W5, hW5⟩ : ∃ W5, W5 = ((w3.alloc (.cells V 78)).alloc (.cells #[.func (.func 73) #[.agg V] #[]] 90)).alloc (.cells #[.slice oa ord.length oc] 22) := ⟨_, rfl⟩
      have hs5 : W5.heap.size = w3.heap.size + 3 := by rw [hW5]; simp
      have hB5 : Below w3.heap.size w3 W5 := by rw [hW5]; exact bstep (bnew w3 _) (bstep (bnew _ _) (bnew _ _))
      have hp5 : W5.cell? ⟨w3.heap.size + 2, 0, none⟩ = some (.slice oa ord.length oc) := by rw [hW5]; simp [go_sem]
      have hm5 : W5.heap[w3.heap.size]? = some (.cells (intv (markL fs)).toArray 78 (0, 0)) := by
        rw [hW5, ← HV.out]
        exact ((bnew _ _).block _ (by simp; omega)).trans (((bnew _ _).block _ (by simp)).trans (heap_alloc_new w3 _))
      have hf5 : W5.heap[w3.heap.size + 1]? = some (.cells #[.func (.func 73) #[.agg (intv (markL fs)).toArray] #[]] 90 (0, 0)) := by
        rw [hW5, ← HV.out]
        have h := heap_alloc_new (w3.alloc (.cells V 78)) (.cells #[.func (.func 73) #[.agg V] #[]] 90)
        rw [show (w3.alloc (.cells V 78)).heap.size = w3.heap.size + 1 from by simp] at h
        exact ((bnew _ _).block _ (by simp)).trans h
      have hBw5 : Below w.heap.size w W5 := bstep HB3.out hB5
      have hI0 : StI w g w3.heap.size (w3.heap.size + 1) (w.heap.size + 1 + 1) (w.heap.size + 1) rs ord (markL fs) 0 W5 :=
        ⟨Nat.zero_le _, hm5, hf5, (HM1.out.kept (row := none) (w' := W5) ⟨hB5.os, hB5.tape, hB5.output, hB5.size, fun j hj _ => hB5.block j hj⟩ (by simp)).mono (by have := Hsz.out; omega), cstep K5.out hB5, cstep Kx.out hB5, hBw5⟩
      have hs3 : w.heap.size + 1 + 1 < w3.heap.size := by have := block_lt_of_cell K5.out; exact this
      have hGen := backward1_c (w3.heap.size + 2) oa oc (ordI ord) w W5 (fun b => b = w.heap.size + 1 ∨ b = w3.heap.size ∨ b = w3.heap.size + 1) (by intro k hk; omega) Hd.out.ord.at (by rw [ordI_length]; exact hp5) (by omega) hBw5 (by rw [ordI_length]; omega)
      rw [← hW5]
      have HW5 := hid hW5; have Hs5 := hid hs5; have Hs3 := hid hs3
      clear hW5 hs5 hB5 hp5 hm5 hf5 hBw5 hs3
      refine (wpIn_wide (n := 0)).1 ?_
      refine range_law' (fun v t => t.setIfInBounds 11 (v.getD 1 undef)) rfl enters99 hGen ?hS ?hps ?hX (StI w g w3.heap.size (w3.heap.size + 1) (w.heap.size + 1 + 1) (w.heap.size + 1) rs ord (markL fs)) ?hI (fun k W h => by rw [ordI_length]; exact h.le) hI0 ?assign ?body ?done
      case hS => have := Hs5.out; have := Hs3.out; constructor <;> omega
      case hps => intro k v W hv; rw [show v = _ from hv]; rfl
      case hX => intro k v W W' hv _; exact hv
      case hI => intro k W W' h ho; have := Hs5.out; have := Hs3.out; exact h.only ho (by omega) (by omega) (by omega) (by omega) (by omega)
      case assign =>
        intro l k v W K hx hK
        obtain rfl : v = _ := hx
        gi_wp2
        simpa using hK
      case body =>
        intro k v W hW hI hX hkl
        rw [ordI_length] at hkl
        obtain ⟨j, hj⟩ : ∃ j, j = ord.length - 1 - k := ⟨_, rfl⟩
        have hjl : j < ord.length := by omega
        obtain ⟨hf12, hr2⟩ := Hof.out.f j hjl
        have hwm : wm rs ord (markL fs) (k + 1) = if nth (wm rs ord (markL fs) k) (ordAt ord j).1 = 0 then wm rs ord (markL fs) k else moreTo (wm rs ord (markL fs) k) (nthR rs (ordAt ord j).2).1 (nthR rs (ordAt ord j).2).1.length := by rw [hj]; rfl
        have hdm : dm rs ord (markL fs) (k + 1) = if nth (wm rs ord (markL fs) k) (ordAt ord j).1 = 0 then (dm rs ord (markL fs) k).del (factKey (ordAt ord j).1) else dm rs ord (markL fs) k := by rw [hj]; rfl
        have hX2 : v = #[.int .i64 (j : Int), .int .i64 ((ordAt ord j).1 : Int)] := by
          have h : v = #[.int .i64 (((ordI ord).length - 1 - k : Nat) : Int), .int .i64 (nth (ordI ord) ((ordI ord).length - 1 - k))] := hX
          rw [ordI_length, ← hj] at h
          rw [h]
          congr 4
          rw [nth_eq (by rw [ordI_length]; exact hjl), ordAt_eq hjl]; simp [ordI]
        subst hX2
        have hmlen := wm_length (rs := rs) (ord := ord) (markL_length fs) k
        have Hhat := hid (md_at' (H := Unit) ord.length ord rfl (fun k hk => (Hof.out.f k hk).1) Hof.out.ne j hjl)
        obtain ⟨f, hf⟩ : ∃ f, f = (ordAt ord j).1 := ⟨_, rfl⟩
        obtain ⟨r, hr⟩ : ∃ r, r = (ordAt ord j).2 := ⟨_, rfl⟩
        rw [← hf] at hf12 hwm hdm Hhat ⊢
        rw [← hr] at hr2 hwm Hhat
        obtain ⟨m, hm⟩ : ∃ m, m = wm rs ord (markL fs) k := ⟨_, rfl⟩
        have hmk := hI.mk0; have hfn := hI.fn; have hmp := hI.mp; have hc5 := hI.c5; have hcx := hI.cx
        rw [← hm] at hwm hdm hmk hfn hmlen
        have Hmk := hid hmk; have Hfn := hid hfn; have Hmp := hid hmp; have Hcx := hid hcx; have Hc5 := hid hc5; have HI := hid hI
        have Hwm := hid hwm; have Hdm := hid hdm; have Hhj := hid hj
        have HHas := hid (has_c (some ⟨W.heap.size, 0, none⟩) 1 m [(f : Int)] (W.alloc (.cells #[.int .i64 f] 3)) (at_lit1 W f) (by simp) hmlen (factsOk_one (by omega) (by omega)))
        have hfc : W.cell? ⟨w3.heap.size + 1, 0, none⟩ = some (.func (.func 73) #[.agg (intv m).toArray] #[]) := by rw [cell_of_row _ _ _ _ _ _ hfn]; rfl
        obtain ⟨V2, hV2⟩ : ∃ V, V = (intv m).toArray := ⟨_, rfl⟩
        rw [← hV2] at hfc HHas
        have HV2 := hid hV2
        have hlen1 : ([(f : Int)] : List Int).length = 1 := rfl
        rw [hlen1] at HHas
        have hhas : hasM m [(f : Int)] = (nth m f != 0) := by
          rw [Bool.eq_iff_iff, hasM_iff]; simp
        rw [hhas] at HHas
        have hle3 := block_lt_of_cell hc5
        have Hle3 := hid hle3
        clear hX hj hwm hdm hm hmk hfn hmp hI hV2 hlen1 hhas hf hr hcx hc5 hle3 hjl
        conv in (Act.mk _ _) => simp
        by_cases hz : nth m f = 0
        · have Hw2 := hid (Hwm.out.trans (if_pos hz)); have Hd2 := hid (Hdm.out.trans (if_pos hz))
          rw [show (nth m f != 0) = false from by simp [hz]] at HHas
          clear Hwm Hdm hz
          gi_wp2
          refine ⟨trivial, rfl, CallsIn.mono (CallsIn.inRound _ (callsIn_wide.2 HHas.out)) ?_⟩
          rintro e w1 ⟨rfl, hB⟩
          have HB1 := hid (bstep (bnew W (.cells #[.int .i64 f] 3)) hB)
          have hmp1 := Hmp.out.kept (row := none) (w' := w1) ⟨HB1.out.os, HB1.out.tape, HB1.out.output, HB1.out.size, fun j hj _ => HB1.out.block j hj⟩ (by simp)
          have Hmp1 := hid hmp1
          have hmk1 := (HB1.out.block _ (Array.getElem?_eq_some_iff.1 Hmk.out).1).trans Hmk.out
          have hfn1 := (HB1.out.block _ (Array.getElem?_eq_some_iff.1 Hfn.out).1).trans Hfn.out
          have Hmk1 := hid hmk1; have Hfn1 := hid hfn1
          have c51 := cstep Hc5.out HB1.out; have cx1 := cstep Hcx.out HB1.out
          have Hc51 := hid c51; have Hcx1 := hid cx1
          clear hB hmp1 hmk1 hfn1 hfc
          gi_wp2_with (first
            | (gi_at_delete; refine wpListIn_delete_own _ rfl _ _ 80 107 rfl 3 keyed107 Try.underlying80 (plainElem Try.prog 3) (w.heap.size + 1) ord.length (dm rs ord (markL fs) k) rfl Hmp1.out _ (factKey f) rfl (keyOf_fact hf12) ?_; intro w2 hown2 hturn2)
            | gi_in)
          gi_wp2
          have hOm : Only (fun b => b = w.heap.size + 1) w1 w2 := by
            have hg := hturn2.grown
            exact ⟨hg.os, hg.tape, hg.output, hg.size, fun j hj hs => hg.block j hj (fun e => hs (Option.some.inj e))⟩
          have hOa : Only (fun b => b = w.heap.size + 1 ∨ b = w3.heap.size ∨ b = w3.heap.size + 1) W w2 := (Only.of_below HB1.out).trans (hOm.mono (fun _ h => .inl h))
          have := Hs3.out
          refine ⟨hOa, ⟨by omega, ?_, ?_, ?_, hOm.cell Hc51.out (by show ¬ w.heap.size + 1 + 1 = w.heap.size + 1; omega), hOm.cell Hcx1.out (by show ¬ w.heap.size = w.heap.size + 1; omega), HI.out.b.trans (hOa.below HI.out.b.size (by intro j hj e; omega))⟩⟩
          · rw [Hw2.out]
            exact (hOm.block _ (Array.getElem?_eq_some_iff.1 Hmk1.out).1 (by show ¬ w3.heap.size = w.heap.size + 1; omega)).trans Hmk1.out
          · rw [Hw2.out]
            exact (hOm.block _ (Array.getElem?_eq_some_iff.1 Hfn1.out).1 (by show ¬ w3.heap.size + 1 = w.heap.size + 1; omega)).trans Hfn1.out
          · rw [Hd2.out]; exact hown2
        · have Hw2 := hid (Hwm.out.trans (if_neg hz)); have Hd2 := hid (Hdm.out.trans (if_neg hz))
          rw [show (nth m f != 0) = true from by simp [hz]] at HHas
          clear Hwm Hdm hz
          gi_wp2
          refine ⟨trivial, rfl, CallsIn.mono (CallsIn.inRound _ (callsIn_wide.2 HHas.out)) ?_⟩
          rintro e w1 ⟨rfl, hB⟩
          have HB1 := hid (bstep (bnew W (.cells #[.int .i64 f] 3)) hB)
          have hmp1 := Hmp.out.kept (row := none) (w' := w1) ⟨HB1.out.os, HB1.out.tape, HB1.out.output, HB1.out.size, fun j hj _ => HB1.out.block j hj⟩ (by simp)
          have Hmp1 := hid hmp1
          have hmk1 := (HB1.out.block _ (Array.getElem?_eq_some_iff.1 Hmk.out).1).trans Hmk.out
          have hfn1 := (HB1.out.block _ (Array.getElem?_eq_some_iff.1 Hfn.out).1).trans Hfn.out
          have Hmk1 := hid hmk1; have Hfn1 := hid hfn1
          have c51 := cstep Hc5.out HB1.out; have cx1 := cstep Hcx.out HB1.out
          have Hc51 := hid c51; have Hcx1 := hid cx1
          clear hB hmp1 hmk1 hfn1 hfc
          have hdk := Hd.out.kept (HI.out.b.trans (HB1.out.mono HI.out.b.size))
          have k2 := hdk.k2; have kM := hdk.kM
          obtain ⟨b2, off2, a2, cp2, rfl, hra0⟩ := Hr.out.at hr2
          have Hra0 := hid hra0.at'
          have hra := hra0.mono (HI.out.b.trans (HB1.out.mono HI.out.b.size))
          obtain ⟨hf1, hf2, _, _⟩ := Hro.out r hr2
          have Hf1 := hid hf1; have Hf2 := hid hf2
          have q0 := hra.cI
          have hlk : ∀ n, (Instr.lookup 80 (.map (some bm)) (.agg #[.int .i64 (f : Int)]) false).run Try.prog (w1.drewN n) = .ok (.int .i64 (r : Int)) (w1.drewN n) := by
            intro n
            have hd2 := hdk.map.kept (row := none) (w' := w1.drewN n) ⟨rfl, rfl, rfl, Nat.le_refl _, fun _ _ _ => rfl⟩ (by simp)
            obtain ⟨c, h1, h2, _⟩ := hd2.lookup_int keyed107 Try.underlying80 Try.underlying3 (by kernel_rfl) (keyOf_fact hf12)
            rw [Hhat.out.2] at h2
            cases h2
            exact h1
          have Hra := hid hra
          obtain ⟨ln, hln⟩ : ∃ n, n = (nthR rs r).1.length := ⟨_, rfl⟩
          rw [← hln] at q0
          have Hln := hid hln
          have hmix : Try.prog.follows .mixedOrders = true := by kernel_rfl
          have hr1 : (r : Int) < (rs.length : Int) := by omega
          clear hdk hra hra0 hln hf1 hf2
          gi_wp2
          refine wpIn_region_quiet_round (F := Fence.wide) _ rfl hmix (by kernel_rfl) (by simp) ?_
          repeat (quiet_step_in (fail))
          refine wpQuietIn_nil ?_
          intro _ hw'
          obtain ⟨nq, hw''⟩ := hw'
          subst hw''
          have hrow0 : (w1.drewN nq).heap[w3.heap.size]? = some (.cells (intv m).toArray 78 (0, 0)) := Hmk1.out
          have Hrow0 := hid hrow0
          have HBw := hid (below_drewN (HI.out.b.trans (HB1.out.mono HI.out.b.size)) nq)
          have HOw := hid (show Only (fun b => b = w.heap.size + 1 ∨ b = w3.heap.size ∨ b = w3.heap.size + 1) W (w1.drewN nq) from Only.of_below (below_drewN HB1.out nq))
          have hfnq : (w1.drewN nq).heap[w3.heap.size + 1]? = some (.cells #[.func (.func 73) #[.agg (intv m).toArray] #[]] 90 (0, 0)) := Hfn1.out
          have Hfnq := hid hfnq
          have Hmpq := hid (show (w1.drewN nq).ownsMap (H := Unit) Try.prog 107 (plainElem Try.prog 3) (w.heap.size + 1) ord.length (dm rs ord (markL fs) k) from Hmp1.out)
          have Hc5q := hid (show (w1.drewN nq).cell? ⟨w.heap.size + 1 + 1, 0, none⟩ = _ from Hc51.out); have Hcxq := hid (show (w1.drewN nq).cell? ⟨w.heap.size, 0, none⟩ = _ from Hcx1.out)
          obtain ⟨wq, hwq⟩ : ∃ wq, wq = w1.drewN nq := ⟨_, rfl⟩
          rw [← hwq] at Hrow0 HBw HOw Hfnq Hmpq Hc5q Hcxq ⊢
          have hlnb : ln ≤ 1000000 := by rw [Hln.out]; exact Hf2.out
          clear hrow0 hfnq hwq hlk k2 kM q0 c51 cx1
          gi_wp2
          gi_loopw [68] (fun i wr => ∃ q : Nat, q ≤ ln ∧ i = .int .i64 q ∧ wr.heap[w3.heap.size]? = some (.cells (intv (moreTo m (nthR rs r).1 q)).toArray 78 (0, 0)) ∧ Only (fun b => b = w3.heap.size) wq wr) (fun i _ => ln - (intOf i).toNat)
          case atStart => exact ⟨0, Nat.zero_le _, rfl, Hrow0.out, Only.refl _ _⟩
          case round =>
            obtain ⟨q, hq, rfl, hh, hO⟩ := hrel
            obtain ⟨wi, rfl⟩ : ∃ wi : World, wi = wr := ⟨_, rfl⟩
            have hs3 := Hs3.out
            by_cases hlt : q < ln
            · have hBi : Below w.heap.size w wi := HBw.out.trans (hO.below HBw.out.size (by intro j hj e; have e' : j = w3.heap.size := e; omega))
              have hlq : q < (nthR rs r).1.length := by rw [← Hln.out]; exact hlt
              obtain ⟨b, off, rfl, hc⟩ := (Hra0.out.mono hBi).at hlq
              obtain ⟨f0, f1⟩ := Hf1.out q hlq
              obtain ⟨x, hx⟩ := Int.eq_ofNat_of_zero_le f0
              have hset : moreTo m (nthR rs r).1 (q + 1) = (moreTo m (nthR rs r).1 q).set x 1 := by rw [moreTo, hx]; rfl
              rw [hx] at hc
              have hx12 : x < 12 := by omega
              have hcc : wi.cell? ⟨w3.heap.size, x, none⟩ = some (.int .i64 (nth (moreTo m (nthR rs r).1 q) x)) := by
                rw [cell_of_row _ _ _ _ _ _ hh, List.getElem?_toArray, intv_get, if_pos (by rw [moreTo_length, hmlen]; exact hx12)]
              have hfr : wi.frozen? ⟨w3.heap.size, x, none⟩ = false := frozen_of_row _ _ _ _ _ hh
              have Hh2 := hid hh; have HO := hid hO; have Hset := hid hset
              clear hh hO hset f0 f1 hx hBi hs3
              gi_wp2
              go_roundw
              case rel => exact ⟨q + 1, by omega, by go_num, (heap_setCell_same wi _ _ _ 78 _ Hh2.out).trans (by rw [Hset.out]; exact cellsSet (by unfold intv; rw [List.map_set])), HO.out.trans (setCell_only _ _ _)⟩
              case measure => simp [intOf]; omega
            · obtain rfl : q = ln := by omega
              have hmlen2 : (moreTo m (nthR rs r).1 q).length = 12 := by rw [moreTo_length]; exact hmlen
              have o1 : partOk wi w3.heap.size 0 12 = true := partOk_of hh (by simp [intv_length, hmlen2])
              have p1 : partAt wi w3.heap.size 0 12 = (intv (moreTo m (nthR rs r).1 q)).toArray := by
                rw [partAt_of hh, show 0 + 12 = (intv (moreTo m (nthR rs r).1 q)).toArray.size from by simp [intv_length, hmlen2]]
                exact Array.extract_size
              have hfni := (hO.block _ (Array.getElem?_eq_some_iff.1 Hfnq.out).1 (by show ¬ w3.heap.size + 1 = w3.heap.size; omega)).trans Hfnq.out
              have hcb : wi.cell? ⟨w3.heap.size + 1, 0, none⟩ = some (.func (.func 73) #[.agg (intv m).toArray] #[]) := by rw [cell_of_row _ _ _ _ _ _ hfni]; rfl
              have hfb : wi.frozen? ⟨w3.heap.size + 1, 0, none⟩ = false := frozen_of_row _ _ _ _ _ hfni
              obtain ⟨V4, hV4⟩ : ∃ V, V = (intv (moreTo m (nthR rs r).1 q)).toArray := ⟨_, rfl⟩
              rw [← hV4] at p1
              have HV4 := hid hV4; have Hhh := hid hh; have HO := hid hO; have Hfni := hid hfni
              clear hh hO hfni hV4 hmlen2 hs3
              gi_wp2
              have hs3 := Hs3.out
              have hO9 := setCell_only (w := wi) (w3.heap.size + 1) 0 (.func (.func 73) #[.agg V4] #[])
              have hOx : Only (fun b => b = w3.heap.size ∨ b = w3.heap.size + 1) wq (wi.setCell ⟨w3.heap.size + 1, 0, none⟩ (.func (.func 73) #[.agg V4] #[])) := (HO.out.mono (fun _ h => .inl h)).trans (hO9.mono (fun _ h => .inr h))
              have hmf : wm rs ord (markL fs) (k + 1) = moreTo m (nthR rs r).1 q := by rw [Hw2.out, Hln.out]
              refine ⟨HOw.out.trans (hOx.mono (fun _ h => .inr h)), ⟨by omega, ?_, ?_, ?_, hOx.cell Hc5q.out (by show ¬ (w.heap.size + 1 + 1 = w3.heap.size ∨ w.heap.size + 1 + 1 = w3.heap.size + 1); omega), hOx.cell Hcxq.out (by show ¬ (w.heap.size = w3.heap.size ∨ w.heap.size = w3.heap.size + 1); omega), HBw.out.trans (hOx.below HBw.out.size (by intro j hj e; have e' : j = w3.heap.size ∨ j = w3.heap.size + 1 := e; omega))⟩⟩
              · rw [hmf]
                exact (hO9.block _ (Array.getElem?_eq_some_iff.1 Hhh.out).1 (by show ¬ w3.heap.size = w3.heap.size + 1; omega)).trans Hhh.out
              · rw [hmf, ← HV4.out]
                exact heap_setCell_same wi (w3.heap.size + 1) 0 _ 90 _ Hfni.out
              · rw [Hd2.out]
                have h1 := Hmpq.out.kept (row := some w3.heap.size) (w' := wi) ⟨HO.out.os, HO.out.tape, HO.out.output, HO.out.size, fun j hj hs => HO.out.block j hj (fun e => hs (by rw [e]))⟩ (by simp; omega)
                exact h1.kept (row := some (w3.heap.size + 1)) ⟨hO9.os, hO9.tape, hO9.output, hO9.size, fun j hj hs => hO9.block j hj (fun e => hs (by rw [e]))⟩ (by simp; omega)
      case done =>
        rintro k W hk hI hD hlt
        have hk' : k = (ordI ord).length := hk
        rw [ordI_length] at hk'
        subst hk'
        clear hk
        have hcx := hI.cx
        have hc5 := hI.c5
        have kO := (Hd.out.kept hI.b).kO
        have Hc5 := hid hc5
        have HI := hid hI; have HDf := hid hD; have Hlt := hid hlt
        clear hI hc5 hD
        go_wp2
        go_loopw [14, 82] (fun o i wr => ∃ (q : Nat) (ao : Option Addr) (cap : Nat), q ≤ ord.length ∧ i = .int .i64 q ∧ o = .slice ao (stepsTo rs ord (markL fs) q).length cap ∧ OwnI W.heap.size wr ao (stepsTo rs ord (markL fs) q).length cap (stepsTo rs ord (markL fs) q) ∧ Below W.heap.size W wr) (fun _ i _ => ord.length - (intOf i).toNat)
        case atStart => exact ⟨0, none, 0, Nat.zero_le _, rfl, rfl, OwnI.nil _ _, Below.refl _ _⟩
        case round =>
          obtain ⟨q, ao, cap, hq, rfl, rfl, hown, hB⟩ := hrel
          obtain ⟨wo2, rfl⟩ : ∃ wo2 : World, wo2 = wr := ⟨_, rfl⟩
          have hlen := stepsTo_length rs ord (markL fs) q
          by_cases hlq : q < ord.length
          · obtain ⟨b, off, rfl, hc⟩ := (Hd.out.ord.at.mono (HI.out.b.trans (hB.mono HI.out.b.size))).at (k := q) (by rw [ordI_length]; exact hlq)
            rw [show nth (ordI ord) q = ((ordAt ord q).1 : Int) from by rw [nth_eq (by rw [ordI_length]; exact hlq), ordAt_eq hlq]; simp [ordI]] at hc
            obtain ⟨hf12, hr2⟩ := Hof.out.f q hlq
            obtain ⟨he1, he2⟩ := dm_end Hof.out (markL fs) hlq
            have ht : stepsTo rs ord (markL fs) (q + 1) = if keepAt rs ord (markL fs) q = true then stepsTo rs ord (markL fs) q ++ [((ordAt ord q).2 : Int)] else stepsTo rs ord (markL fs) q := rfl
            have hmp := HI.out.mp.kept (row := none) (w' := wo2) ⟨hB.os, hB.tape, hB.output, hB.size, fun j hj _ => hB.block j hj⟩ (by simp)
            have c5 := cstep Hc5.out hB
            obtain ⟨l, hl⟩ : ∃ l, l = stepsTo rs ord (markL fs) q := ⟨_, rfl⟩
            rw [← hl] at ht hown hlen ⊢
            obtain ⟨f, hf⟩ : ∃ f, f = (ordAt ord q).1 := ⟨_, rfl⟩
            obtain ⟨r, hr⟩ : ∃ r, r = (ordAt ord q).2 := ⟨_, rfl⟩
            rw [← hf] at hc hf12 he1 he2
            rw [← hr] at he2 ht
            have Hown := hid hown; have HB := hid hB; have Hmp := hid hmp; have He1 := hid he1; have He2 := hid he2
            clear hown hB hmp he1 hl hf hr hr2
            cases hkp : keepAt rs ord (markL fs) q with
            | true =>
              rw [hkp, if_pos rfl] at ht
              have Ht := hid ht
              have hat0 := he2 hkp
              have hhas := He1.out
              rw [hkp] at hhas
              clear ht hkp he2
              have Hhas := hid hhas; have Hat0 := hid hat0
              clear hhas hat0
              go_wp2_with (first
                | (at_lookup; refine wpList_lookup_own_ok_int _ rfl _ _ 80 rfl 107 3 .i64 keyed107 Try.underlying80 Try.underlying3 (by kernel_rfl) (w.heap.size + 1) ord.length (dm rs ord (markL fs) ord.length) rfl Hmp.out _ (factKey f) rfl (keyOf_fact hf12) ?_; intro c hat hwc; rw [Hat0.out] at hat; cases hat; rw [Hhas.out])
                | (at_builtin; refine wpList_app_own _ rfl _ _ rfl W.heap.size ao l.length cap l rfl ?e1 _ (r : Int) rfl ?e2 ?e3 ?e4 ?e5; rotate_right; (intro b' cap' w' hB' hb' hown' hgr'; refine Hid.out ?_))
                | go_in)
              case e1 => exact Hown.out.alloc _
              case e2 => simp
              case e3 => omega
              case e4 => have := HB.out.size; simp; omega
              case e5 =>
                refine hid ?_
                have Hown' := hid hown'
                have HB' := hid (HB.out.trans (((bnew wo2 (.cells #[.int .i64 r] 3)).mono HB.out.size).trans hB'))
                clear hown' hB' hgr'
                go_wp2
                go_roundw
                case rel => exact ⟨q + 1, some ⟨b', 0, none⟩, cap', by omega, by go_num, by rw [Ht.out, List.length_append]; rfl, by rw [Ht.out, List.length_append]; exact Hown'.out, HB'.out⟩
                case measure => simp [intOf]; omega
            | false =>
              rw [hkp, if_neg (by simp)] at ht
              have Ht := hid ht
              have hhas := He1.out
              rw [hkp] at hhas
              clear ht hkp he2
              have Hhas := hid hhas
              clear hhas
              go_wp2_with (first
                | (at_lookup; refine wpList_lookup_own_ok_int _ rfl _ _ 80 rfl 107 3 .i64 keyed107 Try.underlying80 Try.underlying3 (by kernel_rfl) (w.heap.size + 1) ord.length (dm rs ord (markL fs) ord.length) rfl Hmp.out _ (factKey f) rfl (keyOf_fact hf12) ?_; intro c hat hwc; rw [Hhas.out])
                | go_in)
              go_wp2
              go_roundw
              case rel => exact ⟨q + 1, ao, cap, by omega, by go_num, by rw [Ht.out], by rw [Ht.out]; exact Hown.out, HB.out⟩
              case measure => simp [intOf]; omega
          · obtain rfl : q = ord.length := by omega
            have hRf : stepsTo rs ord (markL fs) ord.length = R := HR.out.symm
            rw [hRf] at hown ⊢
            go_wp2
            have hD2 := (hB.block _ Hlt.out).trans HDf.out
            refine ⟨by simp, .inl ⟨_, _, rfl, run_takeDeferred hD2, ?_⟩⟩
            refine ⟨_, results_tmp rfl _ _ _, ao, cap, rfl, ?_, fun h => (hown.none h).2, ownI_cap hown, ?_⟩
            · refine hown.at.only (Only.put1 wo2 W5.heap.size (.deferred none)) (fun b off e _ => ?_)
              have := ownI_ge hown e
              have := Hlt.out
              show ¬ b = W5.heap.size
              omega
            · exact ((HI.out.b.trans (hB.mono HI.out.b.size))).trans ((Only.put1 wo2 W5.heap.size (.deferred none)).below (Nat.le_trans HI.out.b.size hB.size) (by intro j hj e; have e' : j = W5.heap.size := e; have := Hs5.out; have := Hs3.out; omega))
    · intro x c kl y1 y2 w1 cnt1 hkey hlk hv hat hrg1 hlt hg1 hs1 hen
      have hB1 : Below w.heap.size w w1 := Hnx.out.grown hg1 Hnx.out.size (fun j hj => by cases hj; omega)
      have q5 : w1.cell? ⟨w.heap.size + 1 + 1, 0, none⟩ = some (.map (some (w.heap.size + 1))) := (World.cell?_of_block (hg1.block _ (block_lt_of_cell Hk5.out) (by intro e; have h := Option.some.inj e; first | omega | (simp at h; done) | (simp at h; omega)))).trans Hk5.out
      have qx : w1.cell? ⟨w.heap.size, 0, none⟩ = some (.pointer (some ⟨g, 0, none⟩)) := (World.cell?_of_block (hg1.block _ (block_lt_of_cell Hkx.out) (by intro e; have h := Option.some.inj e; first | omega | (simp at h; done) | (simp at h; omega)))).trans Hkx.out
      have hout1 := Hout.out.kept hg1 (by simp)
      have Hrg1 := hid hrg1; have Hg1 := hid hg1; have Hqx := hid qx; have Hq5 := hid q5; have HB1 := hid hB1
      clear hrg1 hg1 qx hB1 hk5 hkx
      have q5' := cstep q5 (bnew w1 (.cells #[.int .i64 x] 107))
      have Hout1 := hid (hout1.alloc (.cells #[.int .i64 x] 107))
      have Hat := hid hat; have Hlt := hid hlt; have Hv := hid hv
      have hlen : size (MD (H := Unit) ord) - cnt < maxLen := by have := Hsz.out; unfold maxLen; omega
      clear q5 hout1 hat hlt hv
      go_wp2_with (first
        | (at_mapUpdate; refine wpList_mapUpdate_own _ rfl _ _ _ 80 rfl 107 3 keyed107 Try.underlying80 (plainElem Try.prog 3) (w.heap.size + 1) _ _ rfl Hout1.out hlen _ _ kl rfl rfl hkey y1 y2 Hv.out ?_; intro w2 hout2 hg2; go_frame)
        | go_in)
      have hrg2 := (Hrg1.out.alloc (.cells #[.int .i64 x] 107)).kept hg2 (by simp; have := Hnx.out.size; omega) (by intro e; have h := Option.some.inj e; first | omega | (simp at h; done) | (simp at h; omega))
      have hBn : Below w.heap.size w (w1.alloc (.cells #[.int .i64 x] 107)) := bstep HB1.out (bnew _ _)
      refine ⟨⟨_, cnt1, _, hrg2, by have := Hlt.out; omega, hout2.mono (by have := Hlt.out; omega), agree_step HA.out Hout.out.isMap ?_ Hat.out, ?_, ?_, hBn.grown hg2 (by have := Hnx.out.size; simp; omega) (fun j hj => by cases hj; omega)⟩, ?_⟩
      · exact (keyOf107_inv hkey).2
      · exact (World.cell?_of_block (hg2.block _ (block_lt_of_cell q5') (by intro e; have h := Option.some.inj e; first | omega | (simp at h; done) | (simp at h; omega)))).trans q5'
      · have q := cstep Hqx.out (bnew w1 (.cells #[.int .i64 x] 107))
        exact (World.cell?_of_block (hg2.block _ (block_lt_of_cell q) (by intro e; have h := Option.some.inj e; first | omega | (simp at h; done) | (simp at h; omega)))).trans q
      · rw [hrg2.left_eq, Hrg.out.left_eq]; exact Hlt.out

end Go.Proofs.Ytkioejdddmnbmaa
