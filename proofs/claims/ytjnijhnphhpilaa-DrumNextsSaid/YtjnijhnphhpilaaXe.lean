/- Steps of a region that draws its order, each with what it leaves said of a world of its own: makeSlice, an empty literal, alloc of a drum, an append onto a full slice. Walk of the reference: ShortestOf. Walks of the reference: ProofError, Next. -/
import Derived.Test.YtjnijhnphhpilaaApf
import Derived.Test.YtjnijhnphhpilaaXc
namespace Go.Proofs.Ytjnijhnphhpilaa
open Go.RowKit Go.Shelf

def b2j (b : Bool) : Int := if b then 1 else 0
theorem b2j_bt {l : List Int} (h : isBits l = true) (k : Nat) : nth l k = b2j (bt l k) := by
  unfold bt b2j
  rcases isBits_nth h k with e | e <;> rw [e] <;> rfl
theorem nth_noughts (n k : Nat) : nth (List.replicate n (0 : Int)) k = 0 := by
  by_cases h : k < n
  · exact List.eq_of_mem_replicate (nth_mem (xs := List.replicate n (0 : Int)) (k := k) (by simpa using h))
  · exact nth_of_ge (by simp; omega)

/-- what a step that lays a block leaves -/
structure NewB (w : World) (o : Obj) (b : Nat) (w' : World) : Prop where
  at' : w'.heap[b]? = some o
  ge : w.heap.size ≤ b
  below : Below w.heap.size w w'

theorem NewB.of (w : World) (o : Obj) : NewB w o w.heap.size (w.alloc o) := ⟨heap_alloc_new w o, Nat.le_refl _, bnew w o⟩
theorem NewB.lt {w w' : World} {o : Obj} {b : Nat} (h : NewB w o b w') : b < w'.heap.size := (Array.getElem?_eq_some_iff.1 h.at').1

theorem undrewS {X W : World} (h : Below X.drew.heap.size X.drew W) : Below X.heap.size X W := ((Below.refl _ X).drew).trans h
theorem NewB.undrew {w w' : World} {o : Obj} {b : Nat} (h : NewB w.drew o b w') : NewB w o b w' := ⟨h.at', h.ge, undrewS h.below⟩
theorem IntsAt.drewS {w : World} {a : Option Addr} {xs : List Int} (h : IntsAt w a xs) : IntsAt w.drew a xs := h.mono ((Below.refl _ w).drew)
theorem keepH {w w' : World} {b : Nat} {o : Obj} (h : w.heap[b]? = some o) (hB : Below w.heap.size w w') : w'.heap[b]? = some o := (hB.block b (Array.getElem?_eq_some_iff.1 h).1).trans h
theorem keepD {w w' : World} {b : Nat} {o : Obj} (h : w.heap[b]? = some o) (hB : Below w.drew.heap.size w.drew w') : w'.heap[b]? = some o := keepH (w := w.drew) h hB

theorem run_lit0 (w : World) : (Instr.buildSlice 22 0 #[]).run Try.prog w = .ok (.slice (some ⟨w.heap.size, 0, none⟩) 0 0) (w.alloc (.cells #[] 3)) := by
  kernel_rfl

/-- an append onto a full slice: where something is appended the block is new -/
theorem run_app_fullm2 (ty : TypeId) (w : World) (b : Addr) (n cap : Nat) (xs : List Int) (hat : IntsAt w (some b) xs) (hn : xs.length = n) (hc : cap = n)
    (ax : Option Addr) (m cx : Nat) (ys : List Int) (hy : IntsAt w ax ys) (hm : ys.length = m) (hnil : ax = none → m = 0 ∧ cx = 0) (hb : n + m ≤ 1000000) :
    ∃ ao' cap' w', (Builtin.append_ #[22, 22] ty #[.slice (some b) n cap, .slice ax m cx]).run Try.prog w = .ok (.slice (some ao') (n + m) cap') w' ∧ Below w.heap.size w w' ∧ IntsAt w' (some ao') (xs ++ ys) ∧ (0 < m → w.heap.size ≤ ao'.block) := by
  subst hn
  subst hm
  subst hc
  obtain ⟨i, hi, hz, hs, hby⟩ := info_parts info3
  by_cases h0 : ys.length = 0
  · obtain rfl : ys = [] := List.eq_nil_of_length_eq_zero h0
    have hsrc : Src Try.prog i.size 22 (.slice ax 0 cx) 0 [] w := by
      cases ax with
      | none => exact Src.ofNil w Try.underlying22 cx
      | some a => exact Src.ofSlice w Try.underlying22 a 0 cx [] (by simp) (by intro j u h; simp at h) (by intro u h; cases h)
    exact ⟨b, _, w, run_append_nothing w 22 22 ty 3 i Try.underlying22 hi (some b) xs.length xs.length (Nat.le_refl _) _ hsrc, Below.refl _ _, by simpa using hat, fun h => absurd h (by simp)⟩
  · cases ax with
    | none => exact absurd (hnil rfl).1 h0
    | some a =>
      obtain ⟨v', w', hrun, ⟨hl, hr⟩, hg⟩ := run_append_arg_grows (P := Try.prog) w 22 ty 3 i (.int .i64 0) 1 8 Try.underlying22 hi hz hs hby rfl (by decide) b xs.length xs.length (intv xs) (by simp [intv]) (intv_at hat) a ys.length cx (intv ys) (by simp [intv])
        (intv_at hy) (by omega) (by unfold maxLen; omega) (by omega)
      rcases hr with ⟨rfl, h00⟩ | ⟨g, c, cur, rfl, hge, hh, hle, hrest⟩
      · omega
      · refine ⟨_, c, w', hrun, (Below.refl _ w).grown hg (Nat.le_refl _) (fun k e => by cases e), ?_, fun _ => hge⟩
        have ho' : w'.ownsRow w.heap.size 3 1 (.slice (some ⟨g, 0, none⟩) (xs ++ ys).length c) (xs ++ ys).length (intv (xs ++ ys)) := by
          rw [intv_append, List.length_append]
          exact ⟨hl, .inr ⟨g, c, cur, rfl, hge, hh, hle, hrest⟩⟩
        exact IntsAt.of_owns ho'

section
variable {ops : Array Oper} {o : Oper} {a : Act} {K : Act → World → Prop} {Q : Exit → Act → World → Prop} {E : Prop}

theorem step_make (w : World) (hgd : o.guard = none) (s x : Operand) (hop : o.op = Op.makeSlice 22 s x) (n : Nat) (hs : a.eval s = .int .i64 n) (hx : a.eval x = .int .i64 n) (hn : n ≤ 1000000)
    (hK : ∀ b w', NewB w (.cells (intv (zrow n)).toArray 3) b w' → K (a.put o.dst (.slice (some ⟨b, 0, none⟩) n n)) w') :
    if Region.wanted o (yielded ops a.tmps) = true then Oper.wp Try.prog o a w K Q else E := by
  have hw : Region.wanted o (yielded ops a.tmps) = true := by simp [Region.wanted, hgd]
  rw [if_pos hw]
  have hrun := run_make_z w n hn
  unfold Oper.wp
  simp [execOp, hop, hs, hx, hrun, Result.andThen, Oper.upon]
  exact hK _ _ (NewB.of w _)

theorem step_lit0 (w : World) (hgd : o.guard = none) (hop : o.op = Op.buildSlice 22 0 #[])
    (hK : ∀ b w', NewB w (.cells #[] 3) b w' → K (a.put o.dst (.slice (some ⟨b, 0, none⟩) 0 0)) w') :
    if Region.wanted o (yielded ops a.tmps) = true then Oper.wp Try.prog o a w K Q else E := by
  have hw : Region.wanted o (yielded ops a.tmps) = true := by simp [Region.wanted, hgd]
  rw [if_pos hw]
  unfold Oper.wp
  simp [execOp, hop, run_lit0, Result.andThen, Oper.upon]
  exact hK _ _ (NewB.of w _)

theorem step_new24 (w : World) (hgd : o.guard = none) (hop : o.op = Op.alloc 24)
    (hK : ∀ b w', NewB w (.cells #[.slice none 0 0, .slice none 0 0] 24) b w' → K (a.put o.dst (.pointer (some ⟨b, 0, none⟩))) w') :
    if Region.wanted o (yielded ops a.tmps) = true then Oper.wp Try.prog o a w K Q else E := by
  have hw : Region.wanted o (yielded ops a.tmps) = true := by simp [Region.wanted, hgd]
  rw [if_pos hw]
  obtain ⟨dst, op, t, pos, after, g⟩ := o
  simp only at hop
  subst hop
  rw [wp_alloc_eq (cs := #[.slice none 0 0, .slice none 0 0]) (by kernel_rfl)]
  exact hK _ _ (NewB.of w _)

/-- an append of a list onto an empty literal -/
theorem step_app0 (w : World) (hgd : o.guard = none) (s x : Operand)
    (hop : o.op = Op.call { callee := Callee.builtin Builtin.append, args := #[s, x], argTypes := #[22, 22] })
    (b : Addr) (hs : a.eval s = .slice (some b) 0 0)
    (ax : Option Addr) (m cx : Nat) (ys : List Int) (hx : a.eval x = .slice ax m cx) (hy : IntsAt w ax ys) (hm : ys.length = m) (hnil : ax = none → m = 0 ∧ cx = 0) (hb : m ≤ 1000000)
    (hK : ∀ ao' cap' w', Below w.heap.size w w' → IntsAt w' (some ao') ys → (0 < m → w.heap.size ≤ ao'.block) → K (a.put o.dst (.slice (some ao') m cap')) w') :
    if Region.wanted o (yielded ops a.tmps) = true then Oper.wp Try.prog o a w K Q else E := by
  have hw : Region.wanted o (yielded ops a.tmps) = true := by simp [Region.wanted, hgd]
  rw [if_pos hw]
  obtain ⟨ao', cap', w', hrun, h1, h2, h3⟩ := run_app_fullm2 o.type w b 0 0 [] (.inl rfl) rfl rfl ax m cx ys hy hm hnil (by omega)
  rw [Nat.zero_add] at hrun
  unfold Oper.wp
  simp [execOp, hop, resolve, invoke, builtin, hs, hx, hrun, Result.andThen, Oper.upon]
  exact hK ao' cap' w' h1 h2 h3
end



theorem cells2S {w : World} {g : Nat} {x y : Value} {t : TypeId} (h : w.heap[g]? = some (.cells #[x, y] t (0, 0))) : w.cell? ⟨g, 0, none⟩ = some x ∧ w.cell? ⟨g, 1, none⟩ = some y := by
  constructor
  · rw [cell_of_row _ _ _ _ _ _ h]; rfl
  · rw [cell_of_row _ _ _ _ _ _ h]; rfl

theorem zsaid {w : World} {g : Nat} (h : w.heap[g]? = some (.cells #[.slice none 0 0, .slice none 0 0] 24 (0, 0))) :
    w.cell? ⟨g, 0, none⟩ = some (.slice none 0 0) ∧ w.cell? ⟨g, 1, none⟩ = some (.slice none 0 0) ∧ w.frozen? ⟨g, 0, none⟩ = false ∧ w.frozen? ⟨g, 1, none⟩ = false :=
  ⟨(cells2S h).1, (cells2S h).2, frozen_of_row _ _ _ _ _ h, frozen_of_row _ _ _ _ _ h⟩

/-- ints lie where they lay when a drum of no slices is written -/
theorem IntsAt.putS {w : World} {a : Option Addr} {xs : List Int} {g : Nat} (h : IntsAt w a xs) (hg : w.heap[g]? = some (.cells #[.slice none 0 0, .slice none 0 0] 24 (0, 0))) (v1 v2 : Value) : IntsAt ((w.setCell ⟨g, 0, none⟩ v1).setCell ⟨g, 1, none⟩ v2) a xs := by
  refine h.only (S := fun b => b = g) ((setCell_only g 0 v1).trans (setCell_only g 1 v2)) (fun b off e hl hb => ?_)
  subst e
  have hb' : b = g := hb
  subst hb'
  have hc := h.cell hl
  rw [cell_of_row _ _ _ _ _ _ hg] at hc
  match off, hc with
  | 0, hc => simp at hc
  | 1, hc => simp at hc
  | o + 2, hc => simp at hc

end Go.Proofs.Ytjnijhnphhpilaa

namespace Go.Proofs.Ytjnijhnphhpilaa
open Go.RowKit Go.Shelf

/-- the drum to be, its feed of noughts, its first plays -/
structure ShA (w2 : World) (P : Nat) (xs : List Int) (bo bf : Nat) (r : Addr) (cr : Nat) (W : World) : Prop where
  d : W.heap[bo]? = some (.cells #[.slice (some ⟨bf, 0, none⟩) P P, .slice (some r) P cr] 24 (0, 0))
  f : W.heap[bf]? = some (.cells (intv (zrow P)).toArray 3 (0, 0))
  g : IntsAt W (some r) (xs.take P)
  nd : bo ≠ bf
  nr : 0 < P → r.block ≠ bf
  gf : w2.heap.size ≤ bf
  below : Below w2.heap.size w2 W

theorem IntsAt.lt' {w : World} {r : Addr} {xs : List Int} (h : IntsAt w (some r) xs) (h0 : 0 < xs.length) : r.block < w.heap.size := by
  obtain ⟨b, off, e, hc⟩ := h.at h0
  cases e
  rcases h with rfl | ⟨b2, off2, e2, h⟩
  · simp at h0
  · cases e2
    exact IntsAt.lt (xs := xs) (.inr ⟨_, _, rfl, h⟩) h0

theorem za {X : World} {g : Nat} {o : Obj} (h : X.heap[g]? = some o) (o2 : Obj) : (X.alloc o2).heap[g]? = some o := (heap_alloc_old X o2 (Array.getElem?_eq_some_iff.1 h).1).trans h
theorem fz {P : Nat} {X W : World} {g : Nat} (h : X.heap[g]? = some (.cells (intv (zrow P)).toArray 3 (0, 0))) (hB : Below X.heap.size X W) : W.heap[g]? = some (.cells (intv (zrow P)).toArray 3 (0, 0)) := keepH h hB
theorem kz {X W : World} {g : Nat} (h : X.heap[g]? = some (.cells #[.slice none 0 0, .slice none 0 0] 24 (0, 0))) (hB : Below X.heap.size X W) : W.heap[g]? = some (.cells #[.slice none 0 0, .slice none 0 0] 24 (0, 0)) := keepH h hB

theorem ShA.new {w2 Y : World} {P : Nat} {xs : List Int} {bo bf : Nat} {r : Addr} {cr : Nat} (hbo : bo = Y.heap.size) (hf : Y.heap[bf]? = some (.cells (intv (zrow P)).toArray 3 (0, 0))) (hat : IntsAt Y (some r) (xs.take P)) (hnr : 0 < P → r.block ≠ bf) (gf : w2.heap.size ≤ bf) (hB : Below w2.heap.size w2 Y) :
    ShA w2 P xs bo bf r cr (Y.alloc (.cells #[.slice (some ⟨bf, 0, none⟩) P P, .slice (some r) P cr] 24)) := by
  subst hbo
  exact ⟨heap_alloc_new _ _, za hf _, hat.mono (bnew _ _), fun e => by have := (Array.getElem?_eq_some_iff.1 hf).1; omega, hnr, gf, bstep hB (bnew _ _)⟩

theorem ShA.put {w2 Y : World} {P : Nat} {xs : List Int} {bo bf : Nat} {r : Addr} {cr : Nat} (hz : Y.heap[bo]? = some (.cells #[.slice none 0 0, .slice none 0 0] 24 (0, 0))) (hf : Y.heap[bf]? = some (.cells (intv (zrow P)).toArray 3 (0, 0))) (hat : IntsAt Y (some r) (xs.take P))
    (nd : bo ≠ bf) (hnr : 0 < P → r.block ≠ bf) (gf : w2.heap.size ≤ bf) (go : w2.heap.size ≤ bo) (hB : Below w2.heap.size w2 Y) :
    ShA w2 P xs bo bf r cr ((Y.setCell ⟨bo, 0, none⟩ (.slice (some ⟨bf, 0, none⟩) P P)).setCell ⟨bo, 1, none⟩ (.slice (some r) P cr)) :=
  ⟨set24 hz _ _, (((setCell_only bo 0 _).trans (setCell_only bo 1 _)).block bf (Array.getElem?_eq_some_iff.1 hf).1 (fun e => nd e.symm)).trans hf, hat.putS hz _ _, nd, hnr, gf, (hB.setCell go _).setCell go _⟩

theorem ShA.mid {w2 Y : World} {P : Nat} {xs : List Int} {r : Addr} {cr : Nat} (hat : IntsAt Y (some r) (xs.take P)) (hnr : 0 < P → r.block ≠ Y.heap.size + 1) (hB : Below w2.heap.size w2 Y) :
    ShA w2 P xs Y.heap.size (Y.heap.size + 1) r cr ((Y.alloc (.cells #[.slice (some ⟨Y.heap.size + 1, 0, none⟩) P P, .slice (some r) P cr] 24)).alloc (.cells (intv (zrow P)).toArray 3)) := by
  have hh := heap_alloc_new (Y.alloc (.cells #[.slice (some ⟨Y.heap.size + 1, 0, none⟩) P P, .slice (some r) P cr] 24)) (.cells (intv (zrow P)).toArray 3)
  rw [World.size_alloc] at hh
  exact ⟨za (heap_alloc_new _ _) _, hh, (hat.mono (bnew _ _)).mono (bnew _ _), by omega, hnr, by have := hB.size; omega, bstep (bstep hB (bnew _ _)) (bnew _ _)⟩

theorem tell_succ (E : List Nat) (n : Nat) (pv : Nat → Nat) (c : Nat) : tell E (n + 1) pv c = (tell E n pv c || (pv n == c && eb E n 40)) := by
  unfold tell
  rw [List.range_succ, List.any_append]
  simp

set_option maxRecDepth 100000 in
set_option maxHeartbeats 10000000 in
theorem shortestOf_c (a : Option Addr) (cap : Nat) (xs : List Int) (w : World) (hx : IntsAt w a xs) (hn : a = none → cap = 0) (hcap : xs.length ≤ cap) (hv : checkRow xs = 0) (h2 : 2 * pl xs ≤ xs.length) :
    Calls Try.prog 67 #[.slice a xs.length cap] w fun e w' => ∃ v, e = .returned v ∧ DrumV w' v (rF xs) (rG xs) ∧ Below w.heap.size w w' := by
  obtain ⟨hlen, hbits⟩ := checkRow_zero hv
  have hp := pl_le hv
  have Hnil := hid (nilLen hx hn)
  have H1 := hid fun (w' : World) (hb : Below w.heap.size w w') => placesOf_c a cap xs w' (hx.mono hb) hv
  have HS := hid fun (w' : World) (hb : Below w.heap.size w w') => solved_c a cap (pl xs) xs w' (hx.mono hb) hlen hp hbits
  have Hv := hid hv; have Hx := hid hx; have H2 := hid h2
  have HB0 := hid (bnew w (.cells #[.slice none 0 0, .slice none 0 0] 24))
  have Hz0 := hid (heap_alloc_new w (.cells #[.slice none 0 0, .slice none 0 0] 24))
  clear hx hn hbits hv h2
  obtain ⟨P, hP⟩ : ∃ P, P = pl xs := ⟨_, rfl⟩
  rw [← hP] at H1 HS hp
  have HP := hid hP
  clear hP
  go_enter Try.func67, Try.ntmps67
  go_wp2_with fail
  refine (H1.out _ HB0.out).mono ?_
  rintro e w1 ⟨rfl, hB⟩
  have HB1 := hid (bstep HB0.out hB); have Hz1 := hid (keepH Hz0.out hB)
  clear hB HB0 Hz0
  go_wp2_with fail
  refine (HS.out _ HB1.out).mono ?_
  rintro e w2 ⟨ao, cp, F, n, pv, rfl, hs, hq, hB⟩
  have HB2 := hid (bstep HB1.out hB); have Hz2 := hid (keepH Hz1.out hB)
  have Hs := hid hs; have Hq := hid hq
  have HX2 := hid (Hx.out.mono HB2.out)
  have hFm : F.length = xs.length - P := by rw [hs.eqv.len, eqs_length]
  obtain ⟨m, hm⟩ : ∃ m, m = xs.length - P := ⟨_, rfl⟩
  rw [← hm] at hFm ⊢
  have HFm := hid hFm
  clear hB HB1 Hz1 hs hq hm hFm
  have hPc : P ≤ cap := by omega
  have hPcI : (P : Int) ≤ (cap : Int) := by omega
  have hmk : ∀ w : World, (Instr.makeSlice 22 (.int .i64 (P : Int)) (.int .i64 (P : Int))).run Try.prog w = .ok (.slice (some ⟨w.heap.size, 0, none⟩) P P) (w.alloc (.cells (intv (zrow P)).toArray 3)) := fun w => run_make_z w P (by omega)
  have hBl := (Below.refl w2.heap.size w2)
  have Hx := HX2
  go_upto_region 3 with (fail)
  go_cut [7] (fun s wc => ∃ bo bf r cr, s = .pointer (some ⟨bo, 0, none⟩) ∧ ShA w2 P xs bo bf r cr wc)
  case first =>
    go_region_held3 (fun _ => True) (trivial)
      ((refine step_app0 _ (by rfl) _ _ (by rfl) _ rfl a P cap (xs.take P) rfl (by first | exact (Hx.out.mono (bnew _ _)).take P | exact ((Hx.out.mono (bnew _ _)).take P).drewS | exact (Hx.out.mono (bstep (bnew _ _) (bnew _ _))).take P | exact ((Hx.out.mono (bstep (bnew _ _) (bnew _ _))).take P).drewS | exact (Hx.out.mono (bstep (bstep (bnew _ _) (bnew _ _)) (bnew _ _))).take P | exact ((Hx.out.mono (bstep (bstep (bnew _ _) (bnew _ _)) (bnew _ _))).take P).drewS) (by rw [List.length_take]; omega) (fun h => ⟨by have := (Hnil.out h).1; omega, (Hnil.out h).2⟩) (by omega) ?_; intro aq cq wq hBq hat hnr; have hBq := (by first | exact undrewS hBq | exact hBq); have s3q := hBq.size; have hBl : Below w2.heap.size w2 wq := (by first | exact bstep (bnew _ _) hBq | exact bstep (bstep (bnew _ _) (bnew _ _)) hBq | exact bstep (bstep (bstep (bnew _ _) (bnew _ _)) (bnew _ _)) hBq); (first | (have hf := fz (P := P) (heap_alloc_new _ _) hBq; try simp only [World.size_alloc] at hf) | (have hf := fz (P := P) (za (heap_alloc_new _ _) _) hBq; try simp only [World.size_alloc] at hf) | (have hf := fz (P := P) (za (za (heap_alloc_new _ _) _) _) hBq; try simp only [World.size_alloc] at hf) | skip); (first | (have hz := kz (heap_alloc_new _ _) hBq; obtain ⟨z0, z1, z2, z3⟩ := zsaid hz; (try simp only [World.size_alloc] at hz z0 z1 z2 z3); obtain ⟨y0, y1, y2, y3⟩ := zsaid (za hz (.cells (intv (zrow P)).toArray 3))) | (have hz := kz (za (heap_alloc_new _ _) _) hBq; obtain ⟨z0, z1, z2, z3⟩ := zsaid hz; (try simp only [World.size_alloc] at hz z0 z1 z2 z3); obtain ⟨y0, y1, y2, y3⟩ := zsaid (za hz (.cells (intv (zrow P)).toArray 3))) | (have hz := kz (za (za (heap_alloc_new _ _) _) _) hBq; obtain ⟨z0, z1, z2, z3⟩ := zsaid hz; (try simp only [World.size_alloc] at hz z0 z1 z2 z3); obtain ⟨y0, y1, y2, y3⟩ := zsaid (za hz (.cells (intv (zrow P)).toArray 3))) | skip)))
    all_goals (go_wp2; go_meet)
    all_goals try simp only [World.size_alloc] at s3q
    all_goals try simp only [World.size_drew, World.size_alloc] at hnr
    all_goals have hlt := hat.lt'
    all_goals rw [List.length_take, Nat.min_eq_left hp] at hlt
    all_goals have hws := hBl.size
    all_goals try simp only [World.size_alloc] at hws
    all_goals (first
      | exact ⟨_, _, aq, cq, rfl, ShA.mid hat (fun h => by have := hlt h; omega) (by first | exact hBl | exact bstep (bnew _ _) hBl | exact bstep (bstep (bnew _ _) (bnew _ _)) hBl)⟩
      | (refine ⟨_, _, aq, cq, rfl, ShA.new ?b ?f ?g ?h ?i ?j⟩
         case b => (first | rfl | simp)
         case f => (first | exact hf | exact heap_alloc_new _ _)
         case g => (first | exact hat | exact hat.mono (bnew _ _))
         case h => exact fun h => by have h1 := hnr h; have h2 := hlt h; omega
         case i => omega
         case j => (first | exact hBl | exact bstep hBl (bnew _ _)))
      | (refine ⟨_, _, aq, cq, rfl, ShA.put ?z ?f ?g ?n ?h ?i ?k ?j⟩
         case z => (first | exact hz | exact za hz _)
         case f => (first | exact hf | exact heap_alloc_new _ _)
         case g => (first | exact hat | exact hat.mono (bnew _ _))
         case n => omega
         case h => exact fun h => by have h1 := hnr h; have h2 := hlt h; omega
         case i => omega
         case k => omega
         case j => (first | exact hBl | exact bstep hBl (bnew _ _)))
      | go_show)
  case rest =>
    obtain ⟨bo, bf, r, cr, rfl, hA⟩ := hcut
    have hP40 : P ≤ 40 := by omega
    have hnP : n ≤ P := Hs.out.ech.nk
    have hgw : w2.heap.size ≤ bf := hA.gf
    have HA := hid hA
    have HBc := hid (bstep HB2.out hA.below)
    clear hA hBl
    go_wp2
    go_loopw [8] (fun i wr => ∃ (j : Nat) (L : List Int), j ≤ n ∧ i = .int .i64 j ∧ L.length = P ∧ (∀ c, c < P → nth L c = b2j (tell F j pv c)) ∧ wr.heap[bf]? = some (.cells (intv L).toArray 3 (0, 0)) ∧ Only (fun b => b = bf) wc wr) (fun i _ => n - (intOf i).toNat)
    case atStart => exact ⟨0, zrow P, Nat.zero_le _, rfl, by simp [zrow], fun c _ => by rw [show tell F 0 pv c = false from rfl]; exact nth_noughts _ _, HA.out.f, Only.refl _ _⟩
    case round =>
      obtain ⟨j, L, hj, rfl, hLl, hL, hLh, hO⟩ := hrel
      obtain ⟨wo, rfl⟩ : ∃ wo : World, wo = wr := ⟨_, rfl⟩
      have HLl := hid hLl; have HL := hid hL; have HLh := hid hLh; have HO := hid hO
      clear hLl hL hLh hO
      by_cases hjn : j < n
      · have hjF : j < F.length := by have := Hs.out.ech.nle; omega
        obtain ⟨b, cs, rfl, hh, hev⟩ := Hq.out.at hjF
        have hbl : b < w2.heap.size := (Array.getElem?_eq_some_iff.1 hh).1
        have hh2 : wo.heap[b]? = some (.cells cs 94 (0, 0)) := by
          refine (HO.out.block b (by have := HA.out.below.size; omega) (by show ¬ b = bf; omega)).trans ?_
          exact keepH hh HA.out.below
        obtain ⟨q0, -, -, -⟩ := hev.cell hh2 hjF
        have hlt := en_lt hP40 Hs.out.top hjF
        have hpv : pv j < P := Hs.out.ech.lt j hjn
        have hjm : j < m := by rw [← HFm.out]; exact hjF
        have hd := HO.out.block bo (by exact (Array.getElem?_eq_some_iff.1 HA.out.d).1) (by show ¬ bo = bf; exact HA.out.nd)
        have hd0 : wo.cell? ⟨bo, 0, none⟩ = some (.slice (some ⟨bf, 0, none⟩) P P) := by rw [cell_of_row _ _ _ _ _ _ (hd.trans HA.out.d)]; rfl
        have hfb : wo.cell? ⟨bf, pv j, none⟩ = some (.int .i64 (nth L (pv j))) := by
          rw [cell_of_row _ _ _ _ _ _ HLh.out, List.getElem?_toArray, intv_get, if_pos (by rw [HLl.out]; exact hpv)]
        have hff : wo.frozen? ⟨bf, pv j, none⟩ = false := frozen_of_row _ _ _ _ _ HLh.out
        have Hev := hid hev
        clear hh hh2 hev hd
        go_wp2
        go_loop [9] (fun t => ∃ k : Nat, k ≤ pv j ∧ t = .int .i64 k) (fun t => pv j - (intOf t).toNat)
        case atStart => exact ⟨0, Nat.zero_le _, rfl⟩
        case round =>
          obtain ⟨k, hk, rfl⟩ := hrel
          have hbit := bit_eb hlt k
          have hk64 : (k : Int) % 64 = (k : Int) := by omega
          by_cases hkp : k < pv j
          · rw [Hs.out.ech.head j hjn k hkp] at hbit
            simp only [Bool.false_eq_true, if_false] at hbit
            go_wp2
            go_round
            case rel => exact ⟨k + 1, by omega, by go_num⟩
            case measure => simp [intOf]; omega
          · have hkk : k = pv j := by omega
            rw [show eb F j k = true by rw [hkk]; exact Hs.out.ech.one j hjn] at hbit
            simp only [if_true] at hbit
            rw [← hkk] at hfb hff hpv
            have hb40 := bit_eb hlt 40
            obtain ⟨v, hv⟩ : ∃ v : Int, v = (if eb F j 40 = true then 1 else 0) := ⟨_, rfl⟩
            rw [← hv] at hb40
            have hv01 : v = 0 ∨ v = 1 := by rw [hv]; split <;> simp
            have hv0 : 0 ≤ v := by omega
            have hv1 : v ≤ 1 := by omega
            have Hv2 := hid hv; have Hkk := hid hkk
            have hb40' : bits .and .u64 ((en F j : Int) / 1099511627776) 1 = v := by rw [← hb40]; rfl
            clear hv hkk hv01 hb40
            go_wp2
            go_region
            go_wp2
            go_roundw
            case rel =>
              refine ⟨j + 1, L.set k v, by omega, by go_num, by rw [List.length_set]; exact HLl.out, fun c hc => ?_, (heap_setCell_same wo _ _ _ 3 _ HLh.out).trans (cellsSet (by unfold intv; rw [List.map_set])), (HO.out.set1 _ _).drew⟩
              rw [nth_set, HLl.out, tell_succ]
              by_cases e : k = c
              · subst e
                rw [if_pos ⟨rfl, hc⟩, tell_other (fun i hi => by have := Hs.out.ech.mono i j hi hjn; rw [Hkk.out]; omega), ← Hkk.out, Hv2.out]
                simp [b2j]
              · rw [if_neg (fun h => e h.1), HL.out c hc]
                have e2 : (pv j == c) = false := by rw [← Hkk.out]; simpa using e
                rw [e2]; simp
            case measure => simp [intOf]; omega
      · obtain rfl : j = n := by omega
        have hd := (HO.out.block bo (by exact (Array.getElem?_eq_some_iff.1 HA.out.d).1) (by show ¬ bo = bf; exact HA.out.nd)).trans HA.out.d
        obtain ⟨d0, d1⟩ := cells2S hd
        have hz := (HO.out.block w.heap.size (by exact (Array.getElem?_eq_some_iff.1 (keepH Hz2.out HA.out.below)).1) (by show ¬ w.heap.size = bf; have := HB2.out.size; have := (Array.getElem?_eq_some_iff.1 Hz2.out).1; omega)).trans (keepH Hz2.out HA.out.below)
        obtain ⟨z0, z1, z2, z3⟩ := zsaid hz
        have Hz := hid hz
        clear hd hz
        go_wp2
        refine bodyPost_ret (results_cell_row rfl _ _ w.heap.size 24 _ (0, 0) _ rfl (set24 Hz.out _ _) Try.underlying24 rfl (by kernel_rfl)) rfl ?_
        have hs := Hs.out
        have hPp := HP.out
        have hv := Hv.out
        have h2 := H2.out
        have hfl := rF_len hv
        have hLr : L = rF xs := ext_nth (by rw [HLl.out, hfl.1]; exact hPp) (fun c hc => by
          rw [HLl.out] at hc
          rw [HL.out c hc, b2j_bt hfl.2.2.1]
          congr 1
          subst hPp
          exact hs.feed hv h2 c hc)
        have hr : rG xs = xs.take P := by
          rw [hPp]
          show (rdAll xs).row.take (rdAll xs).places = _
          rw [rdAll_row]; rfl
        have hat1 : IntsAt wo (some ⟨bf, 0, none⟩) L := .inr ⟨bf, 0, rfl, fun c hc => by rw [cell_of_row _ _ _ _ _ _ HLh.out, List.getElem?_toArray, intv_get, Nat.zero_add, if_pos hc]⟩
        have hat2 : IntsAt wo (some r) (xs.take P) := HA.out.g.only HO.out (fun b off e hl hb => by
          rw [List.length_take] at hl
          have := HA.out.nr (by omega)
          cases e
          exact this hb)
        refine ⟨_, rfl, ⟨_, _, rfl, ⟨some ⟨bf, 0, none⟩, P, by rw [← hLr, HLl.out], by rw [← hLr]; exact hat1.putS Hz.out _ _, fun e => by cases e⟩, ⟨some r, cr, by rw [hr, List.length_take, Nat.min_eq_left hp], by rw [hr]; exact hat2.putS Hz.out _ _, fun e => by cases e⟩⟩, ?_⟩
        exact ((HBc.out.trans (HO.out.below HBc.out.size (by intro k hk e; have e' : k = bf := e; have := HB2.out.size; omega))).setCell (Nat.le_refl _) _).setCell (Nat.le_refl _) _

end Go.Proofs.Ytjnijhnphhpilaa

namespace Go.Proofs.Ytjnijhnphhpilaa
open Go.RowKit Go.Shelf

theorem IntsAt.dropM {w : World} {ao : Option Addr} {L : List Int} (h : IntsAt w ao L) (k : Nat) : IntsAt w (ao.map (fun x => x.add k)) (L.drop k) := by
  rcases h with rfl | ⟨b, off, rfl, h⟩
  · rw [List.drop_nil]; exact .inl rfl
  · have := IntsAt.drop (xs := L) (.inr ⟨b, off, rfl, h⟩) k
    show IntsAt w (some ((⟨b, off, none⟩ : Addr).add k)) _
    rw [Addr.add_lit]
    exact this

set_option maxRecDepth 100000 in
theorem rProofErr_c (a : Option Addr) (cap : Nat) (xs : List Int) (w : World) (hx : IntsAt w a xs) (hb : xs.length ≤ 1000000) :
    Calls Try.prog 37 #[.slice a xs.length cap] w fun e w' => e = .returned (.int .i64 (proofErr xs)) ∧ Below w.heap.size w w' := by
  have H := hid (rCheckRow_c a cap xs w hx hb)
  by_cases h : checkRow xs = 0
  · have H2 := hid (placesOf_c a cap xs w hx h)
    rw [h] at H
    have he : proofErr xs = if pl xs = 0 then 5 else 0 := by unfold proofErr; rw [if_pos h]; rfl
    rw [he]
    obtain ⟨q, hq⟩ : ∃ q, q = pl xs := ⟨_, rfl⟩
    rw [← hq] at H2 ⊢
    clear hx h he hq
    by_cases hq0 : q = 0
    · subst hq0
      rw [if_pos rfl]
      go_enter Try.func37, Try.ntmps37
      go_wp2_with fail
      refine H.out.mono ?_
      rintro e wx ⟨rfl, rfl⟩
      go_wp2_with fail
      refine H2.out.mono ?_
      rintro e w1 ⟨rfl, hB⟩
      have HB := hid hB
      clear hB
      go_wp2
      go_ret
      exact ⟨rfl, HB.out⟩
    · rw [if_neg hq0]
      have hqI : ¬ (q : Int) = 0 := by omega
      go_enter Try.func37, Try.ntmps37
      go_wp2_with fail
      refine H.out.mono ?_
      rintro e wx ⟨rfl, rfl⟩
      go_wp2_with fail
      refine H2.out.mono ?_
      rintro e w1 ⟨rfl, hB⟩
      have HB := hid hB
      clear hB
      go_wp2
      go_ret
      exact ⟨rfl, HB.out⟩
  · have he : proofErr xs = checkRow xs := by unfold proofErr; rw [if_neg h]
    rw [he]
    have hcb : (checkRow xs != 0) = true := by simpa using h
    clear hx h he
    generalize checkRow xs = c at *
    go_enter Try.func37, Try.ntmps37
    go_wp2_with fail
    refine H.out.mono ?_
    rintro e wx ⟨rfl, rfl⟩
    go_wp2_with fail
    refine H.out.mono ?_
    rintro e wx ⟨rfl, rfl⟩
    go_wp2
    go_ret
    exact ⟨rfl, Below.refl _ _⟩

set_option maxRecDepth 100000 in
set_option maxHeartbeats 2000000 in
theorem rNext_c (a : Option Addr) (cap : Nat) (xs : List Int) (plays : Int) (w : World) (hx : IntsAt w a xs) (hn : a = none → cap = 0) (hcap : xs.length ≤ cap) (hb : xs.length ≤ 1000000) :
    Calls Try.prog 35 #[.slice a xs.length cap, .int .i64 plays] w (Ret2 w (nextR xs plays) (nextErr xs plays)) := by
  have H := hid (rCheckRow_c a cap xs w hx hb)
  by_cases h : checkRow xs = 0
  · have H2 := hid (countOf_c a cap xs w hx h)
    have hcr : countR xs = ((2 ^ (2 * pl xs - xs.length) : Nat) : Int) := by unfold countR; rw [if_pos h]; rfl
    rw [h] at H
    by_cases hp : 0 ≤ plays ∧ plays ≤ 100
    · obtain ⟨n, rfl⟩ := Int.eq_ofNat_of_zero_le hp.1
      have hn100 : n ≤ 100 := by omega
      by_cases h2 : xs.length < 2 * pl xs
      · have he : nextErr xs n = 25 := by rw [next_err h hn100, if_pos h2]
        have hr : nextR xs n = [] := by unfold nextR; rw [if_neg (by rw [he]; decide)]
        rw [he, hr]
        have h1 : (1 : Int) < countR xs := by
          rw [hcr]
          have : 2 ^ 1 ≤ 2 ^ (2 * pl xs - xs.length) := Nat.pow_le_pow_right (by omega) (by omega)
          omega
        have h1n : ¬ countR xs = 1 := by omega
        clear hx hn h hcr hp he hr h2
        generalize countR xs = c at *
        go_enter Try.func35, Try.ntmps35
        go_wp2_with fail
        refine H.out.mono ?_
        rintro e wx ⟨rfl, rfl⟩
        go_wp2_with fail
        refine H2.out.mono ?_
        rintro e w1 ⟨rfl, hB⟩
        have HB := hid hB
        clear hB
        go_wp2
        go_ret2
        exact ⟨_, rfl, Sl.nil _, HB.out⟩
      · have he : nextErr xs n = 0 := by rw [next_err h hn100, if_neg h2]
        have hr : nextR xs n = (playsF (rF xs) (rG xs) (xs.length + n)).drop xs.length := by unfold nextR; rw [if_pos he]; rfl
        have hc1 : countR xs = 1 := by rw [hcr, show 2 * pl xs - xs.length = 0 from by omega]; rfl
        rw [he, hr]
        rw [hc1] at H2
        obtain ⟨l1, l2, b1, b2⟩ := rF_len h
        have hpl := pl_le h
        have hlen := (checkRow_zero h).1
        have H3 := hid fun (w' : World) (hB : Below w.heap.size w w') => shortestOf_c a cap xs w' (hx.mono hB) hn hcap h (by omega)
        have HR := hid fun (w' : World) (x1 x2 : Option Addr) (d1 d2 : Nat) (i1 : IntsAt w' x1 (rF xs)) (i2 : IntsAt w' x2 (rG xs)) => runOf_c x1 x2 d1 d2 (xs.length + n) (rF xs) (rG xs) w' i1 i2 (by omega) (by omega) (by omega) b1 b2
        rw [Int.natCast_add] at HR
        clear hx hn h hcr he hr h2 hc1 l1 l2 b1 b2 hpl
        go_enter Try.func35, Try.ntmps35
        go_wp2_with fail
        refine H.out.mono ?_
        rintro e wx ⟨rfl, rfl⟩
        go_wp2_with fail
        refine H2.out.mono ?_
        rintro e w1 ⟨rfl, hB⟩
        have HB1 := hid hB
        clear hB
        go_wp2_with fail
        refine (H3.out _ HB1.out).mono ?_
        rintro e w2 ⟨_, rfl, ⟨_, _, rfl, ⟨x1, d1, rfl, i1, _⟩, ⟨x2, d2, rfl, i2, _⟩⟩, hB⟩
        have HB2 := hid (bstep HB1.out hB)
        have HR2 := hid (HR.out w2 x1 x2 d1 d2 i1 i2)
        clear hB i1 i2 HB1
        go_wp2_with fail
        refine HR2.out.mono ?_
        rintro e w3 ⟨ao, cp, rfl, hown, hB⟩
        rw [playsF_length] at hown ⊢
        have hat := hown.at
        have hcp : xs.length + n ≤ cp := by
          rcases hown.2.2 with ⟨e, h0⟩ | ⟨g, c, cur, e, _, _, hle, _⟩
          · omega
          · cases e; exact hle
        have hcpI : (xs.length : Int) ≤ (cp : Int) := by omega
        have Hn := hid hown.none; have Hat := hid hat; have HB3 := hid (bstep HB2.out hB)
        clear hown hat hB HB2
        have hdl : ((playsF (rF xs) (rG xs) (xs.length + n)).drop xs.length).length = n := by rw [List.length_drop, playsF_length]; omega
        have Hdl := hid hdl
        clear hdl
        go_wp2
        · go_ret2
          refine ⟨_, rfl, ⟨ao, 0, by rw [Hdl.out]; rfl, ?_, fun _ => rfl⟩, HB3.out⟩
          have h0 : (playsF (rF xs) (rG xs) (xs.length + n)).drop xs.length = [] := List.eq_nil_of_length_eq_zero (by rw [Hdl.out]; omega)
          rw [h0]
          exact .inl rfl
        · go_ret2
          refine ⟨_, rfl, ⟨ao.map (fun x => x.add xs.length), cp - xs.length, by rw [Hdl.out]; rfl, Hat.out.dropM _, fun e => ?_⟩, HB3.out⟩
          cases ao with
          | none => have := Hn.out rfl; omega
          | some r => cases e
    · have he : nextErr xs plays = 2 := by unfold nextErr; rw [if_neg (by simp [h]), if_pos hp]
      have hr : nextR xs plays = [] := by unfold nextR; rw [if_neg (by rw [he]; decide)]
      rw [he, hr]
      clear hx hn h hcr he hr H2
      by_cases h0 : plays < 0
      · go_enter Try.func35, Try.ntmps35
        go_wp2_with fail
        refine H.out.mono ?_
        rintro e wx ⟨rfl, rfl⟩
        go_wp2
        go_ret2
        exact ⟨_, rfl, Sl.nil _, Below.refl _ _⟩
      · have h1 : 100 < plays := by omega
        go_enter Try.func35, Try.ntmps35
        go_wp2_with fail
        refine H.out.mono ?_
        rintro e wx ⟨rfl, rfl⟩
        go_wp2
        go_ret2
        exact ⟨_, rfl, Sl.nil _, Below.refl _ _⟩
  · have he : nextErr xs plays = checkRow xs := by unfold nextErr; rw [if_pos h]
    have hr : nextR xs plays = [] := by unfold nextR; rw [he, if_neg h]
    rw [he, hr]
    have hcb : (checkRow xs != 0) = true := by simpa using h
    clear hx hn h he hr
    generalize checkRow xs = c at *
    go_enter Try.func35, Try.ntmps35
    go_wp2_with fail
    refine H.out.mono ?_
    rintro e wx ⟨rfl, rfl⟩
    go_wp2_with fail
    refine H.out.mono ?_
    rintro e wx ⟨rfl, rfl⟩
    go_wp2
    go_ret2
    exact ⟨_, rfl, Sl.nil _, Below.refl _ _⟩

end Go.Proofs.Ytjnijhnphhpilaa
