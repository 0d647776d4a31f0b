/- Walk: newDesk. -/
import Derived.Test.YtkioejdddmnbmaaDb
namespace Go.Proofs.Ytkioejdddmnbmaa
open Go.RowKit Go.Shelf
attribute [local go_sem ↓] wp_get wp_get0 wp_getS wp78 wps78 wpa78

/-- marks are 0 or 1 -/
def marksOk (l : List Int) : Prop := ∀ k, nth l k = 0 ∨ nth l k = 1
theorem nth_set (l : List Int) (n : Nat) (v : Int) (k : Nat) : nth (l.set n v) k = if k = n ∧ n < l.length then v else nth l k := by
  unfold nth
  rw [List.getD_eq_getElem?_getD, List.getD_eq_getElem?_getD, List.getElem?_set]
  by_cases h : n = k
  · subst h
    by_cases h2 : n < l.length
    · rw [if_pos rfl, if_pos h2, if_pos ⟨rfl, h2⟩]; rfl
    · rw [if_pos rfl, if_neg h2, if_neg (fun h => h2 h.2), List.getElem?_eq_none (by omega)]
  · rw [if_neg h, if_neg (fun h2 => h h2.1.symm)]
theorem marksOk.set {l : List Int} (h : marksOk l) (n : Nat) : marksOk (l.set n 1) := fun k => by
  rw [nth_set]; split
  · exact .inr rfl
  · exact h k
theorem markTo_ok (l : List Int) : ∀ k, marksOk (markTo l k)
  | 0 => fun k => by left; unfold nth markTo; rw [List.getD_eq_getElem?_getD, List.getElem?_replicate]; split <;> rfl
  | k + 1 => (markTo_ok l k).set _
theorem markL_ok (l : List Int) : marksOk (markL l) := markTo_ok l _

theorem learn1_ok {rs : List Rl} {s : LSt} (i : Nat) (h : marksOk s.known) : marksOk (learn1 rs s i).known := by
  unfold learn1
  split
  · split
    · split
      · exact h
      · exact h
    · split
      · exact h.set _
      · exact h
  · exact h
theorem learnTo_ok {rs : List Rl} {s : LSt} (h : marksOk s.known) : ∀ k, marksOk (learnTo rs s k).known
  | 0 => h
  | k + 1 => learn1_ok k (learnTo_ok h k)

theorem bit_wf {n : Int} (h : n = 0 ∨ n = 1) : (Lit.int .i64 n).wf = true := by rcases h with rfl | rfl <;> decide
theorem keyLits3b (d : Nat) {n : Int} (h : n = 0 ∨ n = 1) : Try.prog.keyLits (d + 1) 3 [.int .i64 n] = some [.int .i64 n] := by
  simp [Program.keyLits, Try.underlying3, bit_wf h]
def stLits (s : List Int) : List Lit := s.map (Lit.int .i64)
theorem mapM_some {α β : Type} (f : α → Option β) (g : α → β) : ∀ (l : List α), (∀ x ∈ l, f x = some (g x)) → l.mapM f = some (l.map g)
  | [], _ => rfl
  | x :: l, h => by
    rw [List.mapM_cons, h x (by simp), mapM_some f g l (fun y hy => h y (by simp [hy]))]
    rfl
theorem flat_nth (s : List Int) : ((List.range s.length).map fun i => [Lit.int .i64 (nth s i)]).flatten = stLits s := by
  unfold stLits
  rw [← List.flatMap_def]
  have hfm : ∀ l : List Nat, (l.flatMap fun i => [Lit.int .i64 (nth s i)]) = l.map fun i => Lit.int .i64 (nth s i) := by
    intro l
    induction l with
    | nil => rfl
    | cons x l ih => rw [List.flatMap_cons, ih]; rfl
  rw [hfm]
  apply List.ext_getElem (by simp)
  intro i h1 h2
  simp at h1
  simp [nth_eq h1]
theorem cells78 : Try.prog.cellsOf 78 = 12 := by kernel_rfl
theorem keyLits78 (d : Nat) {s : List Int} (hs : s.length = 12) (hb : marksOk s) : Try.prog.keyLits (d + 2) 78 (intv s) = some (stLits s) := by
  have e : Try.prog.keyLits (d + 2) 78 (intv s) = (if (intv s).length = Try.prog.cellsOf 78 then ((List.range 12).mapM fun i => Try.prog.keyLits (d + 1) 3 (((intv s).drop (i * Try.prog.cellsOf 3)).take (Try.prog.cellsOf 3))).map List.flatten else none) := by
    conv => lhs; unfold Program.keyLits
    rw [Try.underlying78]
  rw [e, cells78, cells3, if_pos (by rw [intv_length, hs])]
  rw [mapM_some _ (fun i => [Lit.int .i64 (nth s i)]) _ (fun i hi => by
    have hi2 : i < s.length := by rw [hs]; exact List.mem_range.1 hi
    rw [Nat.mul_one]
    have e2 : ((intv s).drop i).take 1 = [.int .i64 (nth s i)] := by
      unfold intv
      rw [← List.map_drop, ← List.map_take, List.drop_eq_getElem_cons hi2, nth_eq hi2]
      rfl
    rw [e2]
    exact keyLits3b d (hb i))]
  have := flat_nth s
  rw [hs] at this
  rw [Option.map_some, this]
theorem key78 : Try.prog.keyTypeAt 2 78 = true := by kernel_rfl
theorem keyTypeAll78 : Try.prog.keyType 78 = true := by kernel_rfl
theorem wide78 : (match Try.prog.underlying 78 with | some (.array _ _) | some (.struct _) => true | _ => false) = true := by rw [Try.underlying78]
theorem keyOf_marks {s : List Int} (hs : s.length = 12) (hb : marksOk s) : keyOf Try.prog 78 (.agg (intv s).toArray) = some (.string (keyBytes (stLits s))) := by
  unfold keyOf
  rw [Try.underlying78]
  have hf : (Value.agg (intv s).toArray).formed Try.prog 78 = true := by
    simp [Value.formed, Try.underlying78, cells78, intv_length, hs]
  have hn : ∃ n, Try.prog.types.size + 1 = n + 2 := ⟨Try.prog.types.size - 1, by
    have : 2 ≤ Try.prog.types.size := of_decide_eq_true (by kernel_rfl)
    omega⟩
  obtain ⟨n, hn⟩ := hn
  rw [keyTypeAll78, hf, hn]
  have h := keyLits78 n hs hb
  simp [Value.cells, h]
theorem marks_key_inj {s t : List Int} (hs : s.length = 12) (ht : t.length = 12) (hb : marksOk s) (hc : marksOk t) (h : keyBytes (stLits s) = keyBytes (stLits t)) : s = t := by
  have := keyLits_inj (keyLits78 0 hs hb) (keyLits78 0 ht hc) h
  unfold stLits at this
  exact (List.map_inj_right (fun x y e => by cases e; rfl)).1 this
set_option maxRecDepth 100000 in
theorem eql78 {s t : List Int} (hs : s.length = 12) (ht : t.length = 12) (hb : marksOk s) (hc : marksOk t) (w : World) :
    (binOp .eql 78 (.agg (intv s).toArray) (.agg (intv t).toArray)).run Try.prog w = .ok (.bool (decide (s = t))) w := by
  obtain ⟨r, hr, hiff⟩ := run_equal_deep w (m := 2) (by omega) key78 wide78 (keyOf_marks hs hb) (keyOf_marks ht hc)
  have e : r = decide (s = t) := by
    rw [Bool.eq_iff_iff, hiff, decide_eq_true_iff]
    exact ⟨fun h => marks_key_inj hs ht hb hc (Lit.string.inj h), fun h => by rw [h]⟩
  rw [run_eql_struct]
  rw [Op.equal, Op.maxDepth] at hr
  rw [hr, e]
  rfl

def isZeroV : Value → Bool
  | .int .i64 0 => true
  | _ => false
theorem zeros_intv : ∀ l : List Int, (intv l).countP isZeroV = l.count 0
  | [] => rfl
  | x :: l => by
    have h := zeros_intv l
    unfold intv at h ⊢
    rw [List.map_cons, List.countP_cons, h, List.count_cons]
    congr 1
    by_cases hx : x = 0
    · subst hx; rfl
    · have h1 : isZeroV (.int .i64 x) = false := by unfold isZeroV; split <;> simp_all
      rw [h1]; simp [hx]

theorem learn1_zeros {rs : List Rl} {s : LSt} (i : Nat) (hl : s.known.length = 12) (hr : (nthR rs i).2 < 12) : (learn1 rs s i).known = s.known ∨ (learn1 rs s i).known.count 0 < s.known.count 0 := by
  unfold learn1
  split
  · split
    · split
      · exact .inl rfl
      · exact .inl rfl
    · split
      · rename_i h0 h1
        have := zeros_set (l := s.known) (n := (nthR rs i).2.toNat) (by omega) h1
        right
        show (s.known.set _ 1).count 0 < _
        omega
      · exact .inl rfl
  · exact .inl rfl
theorem learn1_len {rs : List Rl} {s : LSt} (i : Nat) : (learn1 rs s i).known.length = s.known.length := by
  unfold learn1
  split
  · split
    · split <;> rfl
    · split
      · simp
      · rfl
  · rfl
theorem learnTo_len {rs : List Rl} {s : LSt} : ∀ k, (learnTo rs s k).known.length = s.known.length
  | 0 => rfl
  | k + 1 => (learn1_len k).trans (learnTo_len k)
theorem learnTo_zeros {rs : List Rl} {s : LSt} (hl : s.known.length = 12) (hr : rulesOk rs) : ∀ k, k ≤ rs.length → (learnTo rs s k).known = s.known ∨ (learnTo rs s k).known.count 0 < s.known.count 0
  | 0, _ => .inl rfl
  | k + 1, hk => by
    have h1 := learnTo_zeros hl hr k (by omega)
    have h2 := learn1_zeros (rs := rs) (s := learnTo rs s k) k ((learnTo_len k).trans hl) (hr k (by omega)).2.2.2
    rw [learnTo]
    rcases h1 with h1 | h1 <;> rcases h2 with h2 | h2
    · exact .inl (h2.trans h1)
    · right; rw [h1] at h2; exact h2
    · right; rw [h2]; exact h1
    · right; omega

/-- newDesk's rounds -/
def runL (rs : List Rl) (s : LSt) : Nat → LSt
  | 0 => s
  | n + 1 => if s.known = (learnTo rs s rs.length).known then learnTo rs s rs.length else runL rs (learnTo rs s rs.length) n
def deskOf (seen : List Int) (rs : List Rl) : LSt := runL rs ⟨markL seen, [], -1⟩ 13

def DeskP (w : World) (c0 c1 c2 : Value) (s : LSt) (e : Ending) (w' : World) : Prop :=
  ∃ g bm oa oc, e = .returned (.pointer (some ⟨g, 0, none⟩)) ∧ DeskAt w.heap.size w' g bm oa oc c0 c1 c2 s.known s.ord s.ord s.clash ∧ Below w.heap.size w w'

theorem mm80 (w : World) : (Instr.makeMap 80 none).run Try.prog w = .ok (.map (some w.heap.size)) (w.alloc (.map #[] 0)) := run_makeMap 80 w
theorem armC {C : World → Prop} {W0 w1 w3 : World} (h : ∀ w', Below W0.heap.size W0 w' → C w') (hB : Below w1.heap.size w1 w3) (h0 : Below W0.heap.size W0 w1) : C w3 ∧ Below W0.heap.size W0 w3 := ⟨h _ (bstep h0 hB), bstep h0 hB⟩

theorem list12 {l : List Int} (h : l.length = 12) : ∃ m0 m1 m2 m3 m4 m5 m6 m7 m8 m9 m10 m11, l = [m0, m1, m2, m3, m4, m5, m6, m7, m8, m9, m10, m11] := by
  match l, h with
  | [m0, m1, m2, m3, m4, m5, m6, m7, m8, m9, m10, m11], _ => exact ⟨m0, m1, m2, m3, m4, m5, m6, m7, m8, m9, m10, m11, rfl⟩

theorem deskNew {B : Nat} {wm wz : World} {bm g : Nat} {c0 c1 c2 : Value} (m : List Int) (hg : g = wz.heap.size) (hl : m.length = 12) (hb : bm = wm.heap.size) (hB : B ≤ wm.heap.size) (hz : Below (wm.alloc (.map #[] 0)).heap.size (wm.alloc (.map #[] 0)) wz) :
    DeskAt B (wz.alloc (.cells ([c0, c1, c2] ++ intv m ++ [Value.map (some bm), .slice none 0 0, .int .i64 (-1)]).toArray 82)) g bm none 0 c0 c1 c2 m [] [] (-1) := by
  subst hb
  subst hg
  have h1 := World.ownsMap_made (H := Unit) wm Try.prog 107 (plainElem Try.prog 3)
  have hsz := hz.size
  have hsz2 : (wm.alloc (.map #[] 0)).heap.size = wm.heap.size + 1 := by simp
  have h2 := h1.kept (row := none) ⟨hz.os, hz.tape, hz.output, hz.size, fun j hj _ => hz.block j hj⟩ (by simp)
  have hn := bnew wz (.cells ([c0, c1, c2] ++ intv m ++ [Value.map (some wm.heap.size), .slice none 0 0, .int .i64 (-1)]).toArray 82)
  exact ⟨heap_alloc_new wz _, hl, h2.kept (row := none) ⟨hn.os, hn.tape, hn.output, hn.size, fun j hj _ => hn.block j hj⟩ (by simp), OwnI.nil _ _, by omega, hB⟩

attribute [local go_sem] mm80 in
set_option maxRecDepth 100000 in
set_option maxHeartbeats 4000000 in
theorem newDesk_c (facts : Int) (sa : Option Addr) (sc : Nat) (seen : List Int) (ra : Option Addr) (rc : Nat) (rs : List Rl) (w : World) (hs : IntsAt w sa seen) (hsl : seen.length ≤ 1000000) (hsf : factsOk seen) (hr : RulesAt w ra rs) (hro : rulesOk rs) (hrl : rs.length ≤ 1000000) :
    Calls Try.prog 70 #[.agg #[.int .i64 facts, .slice sa seen.length sc, .slice ra rs.length rc]] w (DeskP w (.int .i64 facts) (.slice sa seen.length sc) (.slice ra rs.length rc) (deskOf seen rs)) := by
  obtain ⟨W0, hW0⟩ : ∃ W0, W0 = w.alloc (.cells #[.int .i64 facts, .slice sa seen.length sc, .slice ra rs.length rc] 25) := ⟨_, rfl⟩
  have HB0 := hid (show Below w.heap.size w W0 by rw [hW0]; exact bnew w _)
  obtain ⟨c0, c1, c2⟩ := caseBox w facts sa ra seen.length sc rs.length rc
  rw [← hW0] at c0 c1 c2
  have HM := hid fun (w' : World) (h : Below W0.heap.size W0 w') => marked_c sa sc seen w' (hs.mono (bstep HB0.out h)) hsl hsf
  have HR := hid hr; have Hro := hid hro
  have HC := hid fun (w' : World) (h : Below W0.heap.size W0 w') => (show w'.cell? ⟨w.heap.size, 0, none⟩ = some (.int .i64 facts) ∧ w'.cell? ⟨w.heap.size, 1, none⟩ = some (.slice sa seen.length sc) ∧ w'.cell? ⟨w.heap.size, 2, none⟩ = some (.slice ra rs.length rc) from ⟨cstep c0 h, cstep c1 h, cstep c2 h⟩)
  have HW := hid hW0
  obtain ⟨m0, m1, m2, m3, m4, m5, m6, m7, m8, m9, m10, m11, hm⟩ := list12 (markL_length seen)
  rw [hm] at HM
  have HM2 := hid fun (w' : World) (h : Below W0.heap.size W0 w') => (show Calls Try.prog 63 #[.slice sa seen.length sc] w' fun e w'_1 => e = .returned (.agg #[.int .i64 m0, .int .i64 m1, .int .i64 m2, .int .i64 m3, .int .i64 m4, .int .i64 m5, .int .i64 m6, .int .i64 m7, .int .i64 m8, .int .i64 m9, .int .i64 m10, .int .i64 m11]) ∧ Below w'.heap.size w' w'_1 from HM.out w' h)
  have Hm := hid hm
  clear hs hsf hr hro hW0 hm HM
  go_enter Try.func70, Try.ntmps70
  go_upto_region 1 with (fail)
  rw [← HW.out]
  have hsz0 : W0.heap.size = w.heap.size + 1 := by rw [HW.out]; simp
  have hsz1 : w.heap.size < W0.heap.size := by omega
  have hsz2 : ¬ w.heap.size = W0.heap.size := by omega
  go_cut [3] (fun s wc => ∃ g bm, s = .pointer (some ⟨g, 0, none⟩) ∧ DeskAt w.heap.size wc g bm none 0 (.int .i64 facts) (.slice sa seen.length sc) (.slice ra rs.length rc) (markL seen) [] [] (-1) ∧ Below w.heap.size w wc)
  case first =>
    go_region_with ((go_at_call 63; (with_reducible refine (HM2.out _ (by first | exact Below.refl _ _ | exact (Below.refl _ _).drew | exact bnew _ _ | exact (bnew _ _).drew)).mono ?_); rintro e w3 ⟨rfl, hB⟩; have hA := armC HC.out hB (by first | with_reducible exact Below.refl _ _ | with_reducible exact (Below.refl _ _).drew | with_reducible exact bnew _ _ | with_reducible exact (bnew _ _).drew); obtain ⟨⟨k0, k1, k2⟩, hB2⟩ := hA; have hz3 : w.heap.size < w3.heap.size := Nat.lt_of_lt_of_le hsz1 hB2.size; have hz4 : ¬ w.heap.size = w3.heap.size := Nat.ne_of_lt hz3))
    all_goals (
      go_wp2
      go_meet
      have hb3 : Below w.heap.size w w3 := bstep HB0.out hB2
      have hs3 : w.heap.size ≤ w3.heap.size := hb3.size
      first
      | exact ⟨_, w3.heap.size, rfl, by rw [Hm.out]; exact deskNew (wm := w3) [m0, m1, m2, m3, m4, m5, m6, m7, m8, m9, m10, m11] (by simp) rfl rfl hs3 (by first | with_reducible exact Below.refl _ _ | with_reducible exact (Below.refl _ _).drew), by first | with_reducible exact bstep hb3 (bstep (bnew _ _) (bnew _ _)) | with_reducible exact bstep hb3 (bstep (bnew _ _).drew (bnew _ _))⟩
      | exact ⟨_, w.heap.size + 1, rfl, by rw [Hm.out]; exact deskNew (wm := W0) [m0, m1, m2, m3, m4, m5, m6, m7, m8, m9, m10, m11] rfl rfl hsz0.symm HB0.out.size (by first | with_reducible exact hB | exact bstep (Below.refl _ _).drew hB), by first | with_reducible exact bstep hb3 (bnew _ _) | with_reducible exact bstep hb3 (Below.refl _ _).drew⟩)
  case rest =>
    obtain ⟨g, bm, rfl, hd, hB⟩ := hcut
    obtain ⟨w1, rfl⟩ : ∃ w1 : World, w1 = wc := ⟨_, rfl⟩
    have Hd := hid hd; have HB := hid hB
    clear hd hB HC HM2 c0 c1 c2 hsz0 hsz1 hsz2 HW HB0
    go_wp2
    go_loopw [4] (fun _ wr => ∃ (oa : Option Addr) (oc : Nat) (st : LSt) (f : Nat), DeskAt w.heap.size wr g bm oa oc (.int .i64 facts) (.slice sa seen.length sc) (.slice ra rs.length rc) st.known st.ord st.ord st.clash ∧ st.fits ∧ marksOk st.known ∧ st.known.count 0 < f ∧ runL rs st f = deskOf seen rs ∧ Below w.heap.size w wr)
      (fun _ wr => ((partAt wr g 3 12).toList.countP isZeroV))
    case atStart => exact ⟨none, 0, ⟨markL seen, [], -1⟩, 13, Hd.out, ⟨by have := List.count_le_length (a := (0 : Int)) (l := markL seen); rw [markL_length] at this; simpa using this, markL_length _⟩, markL_ok _, by have := List.count_le_length (a := (0 : Int)) (l := markL seen); rw [markL_length] at this; show (markL seen).count 0 < 13; omega, rfl, HB.out⟩
    case round =>
      obtain ⟨oa, oc, st, f, hdk, hfit, hmk, hzf, hrun, hBr⟩ := hrel
      obtain ⟨wo, rfl⟩ : ∃ wo : World, wo = wr := ⟨_, rfl⟩
      have hmeas : (partAt wo g 3 12).toList.countP isZeroV = st.known.count 0 := by rw [hdk.part]; exact zeros_intv _
      have o1 := hdk.ok; have p1 := hdk.part
      have Hdk := hid hdk; have Hfit := hid hfit; have Hmk := hid hmk; have Hrun := hid hrun; have HBr := hid hBr; have Hmeas := hid hmeas
      have hV2 : ((intv st.known).toArray.size == 12) = true := by simp [intv_length, hfit.2]
      have hV3 : (intv st.known).toArray.all (·.oneCell') = true := by simp only [List.all_toArray]; exact List.all_eq_true.2 (intv_one _)
      obtain ⟨V, hV⟩ : ∃ V, V = (intv st.known).toArray := ⟨_, rfl⟩
      rw [← hV] at p1 hV2 hV3
      have HV := hid hV
      clear hdk hfit hmk hrun hBr hmeas hV
      have hpo : partOk (wo.alloc (.cells zero78 78)) wo.heap.size 0 12 = true := partOk_of (heap_alloc_new wo _) (by simp [zero78, intv_length])
      have hfb : freeB (wo.alloc (.cells zero78 78)) wo.heap.size = true := freeB_of (heap_alloc_new wo _)
      have hVs : V.size = 12 := by simpa using hV2
      have hset : World.setPart (wo.alloc (.cells zero78 78)) wo.heap.size 0 V = wo.alloc (.cells V 78) := by
        unfold World.setPart
        rw [heap_alloc_new]
        simp only [List.take_zero, List.nil_append, Nat.zero_add, hVs]
        rw [setRow_alloc, List.drop_of_length_le (by simp [zero78, intv_length])]
        simp
      have HVs := hid hVs
      have Hset := hid hset
      clear hVs hset
      have hL := hid (learn_c w (wo.alloc (.cells V 78)) g bm oa oc (.int .i64 facts) (.slice sa seen.length sc) ra rc rs st HR.out Hro.out hrl Hfit.out (bstep HBr.out (bnew wo _)) (Hdk.out.kept (bnew wo _)))
      go_wp2_with fail
      rw [Hset.out]
      refine hL.out.mono ?_
      rintro e w2 ⟨oa2, oc2, rfl, hd2, hB2, hK2⟩
      have hrow : w2.heap[wo.heap.size]? = some (.cells V 78 (0, 0)) := hK2 wo.heap.size V 78 (0, 0) (heap_alloc_new wo _) (by decide) (by have := Hdk.out.size; omega)
      have hpo2 : partOk w2 wo.heap.size 0 12 = true := partOk_of hrow (by have := HVs.out; omega)
      have hpa2 : partAt w2 wo.heap.size 0 12 = V := by rw [partAt_of hrow, ← HVs.out, Nat.zero_add, Array.extract_size]
      have hfit2 := learnTo_fits Hfit.out Hro.out rs.length (Nat.le_refl _)
      have hmk2 := learnTo_ok (rs := rs) Hmk.out rs.length
      obtain ⟨st2, hst2⟩ : ∃ s, s = learnTo rs st rs.length := ⟨_, rfl⟩
      rw [← hst2] at hd2 hfit2 hmk2
      have o2 := hd2.ok; have p2 := hd2.part
      have heq := eql78 Hfit.out.2 hfit2.2 Hmk.out hmk2
      obtain ⟨V2, hV2e⟩ : ∃ V, V = (intv st2.known).toArray := ⟨_, rfl⟩
      rw [← hV2e, ← HV.out] at heq
      rw [← hV2e] at p2
      have HV2 := hid hV2e
      have Hst2 := hid hst2; have Hd2 := hid hd2; have HB2 := hid hB2; have Hfit2 := hid hfit2; have Hmk2 := hid hmk2
      clear hst2 hd2 hB2 hfit2 hmk2 hrow hpo hfb hV2 hV3 hV2e hK2 hL o1 p1
      by_cases hsame : st.known = st2.known
      · rw [decide_eq_true hsame] at heq
        have Hsame := hid hsame
        clear hsame
        go_wp2_with fail
        have hD : deskOf seen rs = st2 := by
          rw [← Hrun.out]
          obtain ⟨n, rfl⟩ : ∃ n, f = n + 1 := ⟨f - 1, by omega⟩
          rw [runL, ← Hst2.out, if_pos Hsame.out]
        have HD := hid hD
        clear hD
        go_region
        all_goals (
          go_wp2
          go_ret
          exact ⟨g, bm, oa2, oc2, rfl, by rw [HD.out]; first | exact Hd2.out | exact Hd2.out.kept (Below.refl _ _).drew, by first | exact HB2.out | exact HB2.out.drew⟩)
      · rw [decide_eq_false hsame] at heq
        have Hsame := hid hsame
        clear hsame
        go_wp2_with fail
        have hz := learnTo_zeros Hfit.out.2 Hro.out rs.length (Nat.le_refl _)
        rw [← Hst2.out] at hz
        have hz2 : st2.known.count 0 < st.known.count 0 := by
          rcases hz with h | h
          · exact absurd h.symm Hsame.out
          · exact h
        obtain ⟨n, rfl⟩ : ∃ n, f = n + 1 := ⟨f - 1, by omega⟩
        have hrun2 : runL rs st2 n = deskOf seen rs := by rw [← Hrun.out, runL, ← Hst2.out, if_neg Hsame.out]
        have hmeas2 : (partAt w2 g 3 12).toList.countP isZeroV < (partAt wo g 3 12).toList.countP isZeroV := by
          rw [Hmeas.out, Hd2.out.part, List.toList_toArray, zeros_intv]
          exact hz2
        have Hz2 := hid hz2; have Hrun2 := hid hrun2; have Hmeas2 := hid hmeas2
        clear hz hz2 hrun2 hmeas2
        go_region
        all_goals (
          go_wp2
          go_roundw
          case rel => exact ⟨oa2, oc2, st2, n, by first | exact Hd2.out | exact Hd2.out.kept (Below.refl _ _).drew, Hfit2.out, Hmk2.out, by have := Hz2.out; omega, Hrun2.out, by first | exact HB2.out | exact HB2.out.drew⟩
          case measure => exact Hmeas2.out)

end Go.Proofs.Ytkioejdddmnbmaa
