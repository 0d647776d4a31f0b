/- Walks: isTruth and its closures, find. Lists of facts as bits. Walks of the reference: Bits, Keeps, IsTruth, CheckTruth. Walks of the reference: IsTruth, CheckTruth. Walks: Ints, great, Has, Known, Listed. The key of a fact; the map of a desk. A step of a drawn region: a literal of ints, into a world of its own. -/
import Derived.Test.YtkioejdddmnbmaaGb
import Derived.Laws.EntriesVeiled
import Derived.Deep.RegionWith
import Derived.Laws.ResultCell
import Derived.Laws.Rows
import Derived.Laws.Bits64b
import Derived.Maps.OwnSet
import Derived.Maps.RangeWalk
import Derived.DeepKeys4
import Derived.ChangeKeys
import Derived.Maps.Views
import Derived.Great.BuildSlice
import Derived.Deep.RegionHeld3
namespace Go.Proofs.Ytkioejdddmnbmaa
open Go.RowKit Go.Shelf
attribute [local go_sem ↓] wp_get wp_get0 wp_getS wp78 wps78 wpa78

theorem ret60 {fn : Func} {p u : Tmp} (h : fn.results = #[.cell p 60, .tmp u]) (tmps : Array Value) (w : World) (g : Nat) (x y : Value) (hp : tmps.getD p undef = .pointer (some ⟨g, 0, none⟩))
    (hg : w.heap[g]? = some (.cells #[x, y] 60 (0, 0))) : (results fn tmps).run Try.prog w = .ok (.tuple #[.agg #[x, y], tmps.getD u undef]) w := by
  rw [results_cell_tmp h, hp]
  simp [asAddr, run_loadVar_row w g 60 60 #[x, y] (0, 0) _ hg Try.underlying60 rfl (by kernel_rfl), Result.andThen]
theorem set60 {w : World} {g : Nat} {x y : Value} (hg : w.heap[g]? = some (.cells #[x, y] 60 (0, 0))) (v1 v2 : Value) :
    ((w.setCell ⟨g, 0, none⟩ v1).setCell ⟨g, 1, none⟩ v2).heap[g]? = some (.cells #[v1, v2] 60 (0, 0)) :=
  heap_setCell_same _ g 1 _ 60 v2 (heap_setCell_same w g 0 _ 60 v1 hg)

/-- marks in a block of their own -/
def MarksAt (w : World) (g : Nat) (m : List Int) : Prop := m.length = 12 ∧ w.heap[g]? = some (.cells (intv m).toArray 78 (0, 0))
theorem MarksAt.mono {w w' : World} {g : Nat} {m : List Int} (h : MarksAt w g m) (hB : Below w.heap.size w w') : MarksAt w' g m :=
  ⟨h.1, (hB.block g (Array.getElem?_eq_some_iff.1 h.2).1).trans h.2⟩
theorem MarksAt.ok {w : World} {g : Nat} {m : List Int} (h : MarksAt w g m) : partOk w g 0 12 = true := partOk_of h.2 (by simp [intv_length, h.1])
theorem MarksAt.part {w : World} {g : Nat} {m : List Int} (h : MarksAt w g m) : partAt w g 0 12 = (intv m).toArray := by
  rw [partAt_of h.2]
  apply Array.ext'
  simp only [List.extract_toArray, List.extract_eq_take_drop, List.drop_zero, Nat.sub_zero, Nat.zero_add]
  rw [List.take_of_length_le (by rw [intv_length, h.1]; omega)]

def keptM (m : List Int) (r : Rl) : Bool := !hasM m r.1 || (decide (0 ≤ r.2) && hasM m [r.2])

theorem factsOk_one {x : Int} (h0 : 0 ≤ x) (h1 : x < 12) : factsOk [x] := fun k hk => by
  have : k = 0 := by simp at hk; omega
  subst this
  exact ⟨h0, h1⟩

set_option maxRecDepth 100000 in
set_option maxHeartbeats 2000000 in
theorem kept_c (g : Nat) (a : Option Addr) (cap : Nat) (m : List Int) (r : Rl) (w : World) (hx : IntsAt w a r.1) (hl : r.1.length ≤ 1000000) (hm : MarksAt w g m) (hf : factsOk r.1) (hth : r.2 < 12) :
    Calls Try.prog 89 #[.agg #[.slice a r.1.length cap, .int .i64 r.2], .pointer (some ⟨g, 0, none⟩)] w (TellB w (keptM m r)) := by
  have HB0 := hid (bnew w (.cells #[.slice a r.1.length cap, .int .i64 r.2] 60))
  have Hm := hid hm
  have H1 := hid fun (w' : World) (h : Below w.heap.size w w') => has_c a cap m r.1 w' (hx.mono h) hl hm.1 hf
  have H2 := hid fun (h0 : 0 ≤ r.2) (w' : World) => has_c (some ⟨w'.heap.size, 0, none⟩) 1 m [r.2] (w'.alloc (.cells #[.int .i64 r.2] 3)) (at_lit1 w' r.2) (by simp) hm.1 (factsOk_one h0 hth)
  have hk : keptM m r = (!hasM m r.1 || (decide (0 ≤ r.2) && hasM m [r.2])) := rfl
  rw [hk]
  unfold TellB
  obtain ⟨th, hthe⟩ : ∃ t, t = r.2 := ⟨_, rfl⟩
  obtain ⟨n, hn⟩ : ∃ n, n = r.1.length := ⟨_, rfl⟩
  obtain ⟨v1, hv1⟩ : ∃ v, v = hasM m r.1 := ⟨_, rfl⟩
  obtain ⟨v2, hv2⟩ : ∃ v, v = hasM m [r.2] := ⟨_, rfl⟩
  obtain ⟨V, hV⟩ : ∃ V, V = (intv m).toArray := ⟨_, rfl⟩
  rw [← hv1, ← hv2, ← hthe, ← hn]
  rw [← hn, ← hv1, ← hV] at H1
  rw [← hv2, ← hthe, ← hV] at H2
  rw [← hthe, ← hn] at HB0
  have HV := hid hV
  clear hx hl hm hf hth hk hv1 hv2 hthe hn hV
  have o0 := (Hm.out.mono HB0.out).ok
  have p0 := (Hm.out.mono HB0.out).part
  rw [← HV.out] at p0
  cases v1 with
  | false =>
    go_enter Try.func89, Try.ntmps89
    go_wp2_with fail
    refine (H1.out _ HB0.out).mono ?_
    rintro e w1 ⟨rfl, hB⟩
    have HB1 := hid (bstep HB0.out hB)
    clear hB o0 p0
    go_wp2
    go_ret
    exact ⟨rfl, HB1.out⟩
  | true =>
    by_cases h0 : 0 ≤ th
    · rw [decide_eq_true h0]
      have H3 := hid (H2.out h0)
      go_enter Try.func89, Try.ntmps89
      go_wp2_with fail
      refine (H1.out _ HB0.out).mono ?_
      rintro e w1 ⟨rfl, hB⟩
      have HB1 := hid (bstep HB0.out hB)
      have q1 := cstep (p := ⟨w.heap.size, 1, none⟩) (v := .int .i64 th) (by simp [go_sem]) hB
      have Hm1 := hid (Hm.out.mono HB1.out)
      have Hm2 := hid (Hm1.out.mono (bnew w1 (.cells #[.int .i64 th] 3)))
      have o1 := Hm1.out.ok; have p1 := Hm1.out.part; have o2 := Hm2.out.ok; have p2 := Hm2.out.part
      rw [← HV.out] at p1 p2
      clear hB o0 p0
      go_wp2_with fail
      refine (H3.out w1).mono ?_
      rintro e w2 ⟨rfl, hB⟩
      have HB2 := hid (bstep HB1.out (bstep (bnew w1 _) hB))
      clear hB o1 p1 o2 p2
      go_wp2
      go_ret
      exact ⟨rfl, HB2.out⟩
    · rw [decide_eq_false h0]
      have hlt : th < 0 := by omega
      go_enter Try.func89, Try.ntmps89
      go_wp2_with fail
      refine (H1.out _ HB0.out).mono ?_
      rintro e w1 ⟨rfl, hB⟩
      have HB1 := hid (bstep HB0.out hB)
      have q1 := cstep (p := ⟨w.heap.size, 1, none⟩) (v := .int .i64 th) (by simp [go_sem]) hB
      clear hB o0 p0
      go_wp2
      go_ret
      exact ⟨rfl, HB1.out⟩


/-- a rule as find hands it back -/
def FindP (w : World) (v : Bool) (e : Ending) (w' : World) : Prop := ∃ (a : Option Addr) (n c : Nat) (th : Int), e = .returned (.tuple #[.agg #[.slice a n c, .int .i64 th], .bool v]) ∧ Below w.heap.size w w'

set_option maxRecDepth 100000 in
set_option maxHeartbeats 2000000 in
theorem find_c (ao : Option Addr) (cap g : Nat) (caps : Array Value) (p : Rl → Bool) (rs : List Rl) (w : World) (hx : RulesAt w ao rs) (hb : rs.length ≤ 1000000)
    (hg : ∀ (i : Nat) (a : Option Addr) (c : Nat) (w' : World), i < rs.length → Below w.heap.size w w' → IntsAt w' a (nthR rs i).1 → Calls Try.prog g (#[.agg #[.slice a (nthR rs i).1.length c, .int .i64 (nthR rs i).2]] ++ caps) w' (TellB w' (p (nthR rs i))))
    (eg : ∀ args w, (callFunc g args).run Try.prog w = .ok (.enter g args) w) :
    Calls Try.prog 90 #[.slice ao rs.length cap, .func (.func g) #[] caps] w (FindP w (rs.any p)) := by
  have Hx := hid hx
  have Hg := hid hg
  clear hx hg
  obtain ⟨W0, hW0⟩ : ∃ W0, W0 = w.alloc (.cells #[.slice none 0 0, .int .i64 0] 60) := ⟨_, rfl⟩
  have HB0 := hid (show Below w.heap.size w W0 from by rw [hW0]; exact bnew w _)
  have Hz := hid (show W0.heap[w.heap.size]? = some (.cells #[.slice none 0 0, .int .i64 0] 60 (0, 0)) from by rw [hW0]; exact heap_alloc_new w _)
  have HS := hid hW0
  clear hW0
  go_enter Try.func90, Try.ntmps90
  go_wp2
  rw [← HS.out]
  go_loopw [11] (fun i wr => ∃ k : Nat, k ≤ rs.length ∧ i = .int .i64 k ∧ (rs.take k).any p = false ∧ Below W0.heap.size W0 wr) (fun i _ => rs.length - (intOf i).toNat)
  case atStart => exact ⟨0, Nat.zero_le _, rfl, rfl, Below.refl _ _⟩
  case round =>
    obtain ⟨k, hk, rfl, hp, hB⟩ := hrel
    obtain ⟨wo, rfl⟩ : ∃ wo : World, wo = wr := ⟨_, rfl⟩
    have Hp := hid hp; have HB := hid hB; clear hp hB
    by_cases hlt : k < rs.length
    · obtain ⟨b, off, a, c, rfl, hra⟩ := (Hx.out.mono (bstep HB0.out HB.out)).at hlt
      have Ht := hid (anyR_take_succ p hlt)
      obtain ⟨th, hth⟩ : ∃ t, t = (nthR rs k).2 := ⟨_, rfl⟩
      obtain ⟨n, hn⟩ : ∃ n, n = (nthR rs k).1.length := ⟨_, rfl⟩
      have hk2 := Hg.out k a c (wo.alloc (.cells #[.slice a n c, .int .i64 th] 60)) hlt (bstep HB0.out (bstep HB.out (bnew wo _))) (hra.at'.mono (bnew wo _))
      have q0 := hra.cI
      have q1 := hra.cT
      rw [← hth, ← hn] at hk2
      rw [← hn] at q0
      rw [← hth] at q1
      have Hk2 := hid hk2
      clear hk2 hra hth hn
      cases hpk : p (nthR rs k) with
      | false =>
        have Hpk := hid hpk; clear hpk
        go_wp2_with fail
        refine Hk2.out.mono ?_
        rintro e w' ⟨rfl, hB⟩
        rw [Hpk.out]
        have HB1 := hid (bstep HB.out (bstep (bnew wo _) hB))
        clear hB
        go_wp2
        go_roundw
        case rel => exact ⟨k + 1, by omega, by go_num, by rw [Ht.out, Hp.out, Hpk.out]; rfl, HB1.out⟩
        case measure => simp [intOf]; omega
      | true =>
        have Hpk := hid hpk; clear hpk
        go_wp2_with fail
        refine Hk2.out.mono ?_
        rintro e w' ⟨rfl, hB⟩
        rw [Hpk.out]
        have r0 := cstep (p := ⟨wo.heap.size, 0, none⟩) (v := .slice a n c) (by simp [go_sem]) hB
        have r1 := cstep (p := ⟨wo.heap.size, 1, none⟩) (v := .int .i64 th) (by simp [go_sem]) hB
        have HB1 := hid (bstep HB.out (bstep (bnew wo _) hB))
        have hz := (HB1.out.block w.heap.size (Array.getElem?_eq_some_iff.1 Hz.out).1).trans Hz.out
        have z0 := cell_of_row w' w.heap.size 0 _ _ _ hz
        have z1 := cell_of_row w' w.heap.size 1 _ _ _ hz
        simp at z0 z1
        have f0 : ∀ j, w'.frozen? ⟨w.heap.size, j, none⟩ = false := fun j => frozen_of_row _ _ _ _ _ hz
        have Hz2 := hid hz
        clear hB hz
        have hany : rs.any p = true := List.any_eq_true.2 ⟨_, nthR_mem hlt, Hpk.out⟩
        have Hany := hid hany
        clear hany
        go_wp2
        refine bodyPost_ret (ret60 rfl _ _ w.heap.size _ _ rfl (set60 Hz2.out _ _)) rfl ?_
        exact ⟨a, n, c, th, by rw [Hany.out]; rfl, ((HB0.out.trans (HB1.out.mono HB0.out.size)).setCell (Nat.le_refl _) _).setCell (Nat.le_refl _) _⟩
    · obtain rfl : k = rs.length := by omega
      have hz := (HB.out.block w.heap.size (Array.getElem?_eq_some_iff.1 Hz.out).1).trans Hz.out
      have hz2 : (wo.alloc (.cells #[.slice none 0 0, .int .i64 0] 60)).heap[w.heap.size]? = some (.cells #[.slice none 0 0, .int .i64 0] 60 (0, 0)) := ((bnew wo (.cells #[.slice none 0 0, .int .i64 0] 60)).block w.heap.size (Array.getElem?_eq_some_iff.1 hz).1).trans hz
      have z0 := cell_of_row _ w.heap.size 0 _ _ _ hz2
      have z1 := cell_of_row _ w.heap.size 1 _ _ _ hz2
      simp at z0 z1
      have f0 : ∀ j, (wo.alloc (.cells #[.slice none 0 0, .int .i64 0] 60)).frozen? ⟨w.heap.size, j, none⟩ = false := fun j => frozen_of_row _ _ _ _ _ hz2
      have Hz2 := hid hz2
      have HB1 := hid (bstep HB.out (bnew wo (.cells #[.slice none 0 0, .int .i64 0] 60)))
      have hany : rs.any p = false := by
        have hp := Hp.out
        rw [List.take_of_length_le (by omega)] at hp
        exact hp
      have Hany := hid hany
      clear hany hz hz2
      go_wp2
      refine bodyPost_ret (ret60 rfl _ _ w.heap.size _ _ rfl (set60 Hz2.out _ _)) rfl ?_
      exact ⟨none, 0, 0, 0, by rw [Hany.out]; rfl, ((HB0.out.trans (HB1.out.mono HB0.out.size)).setCell (Nat.le_refl _) _).setCell (Nat.le_refl _) _⟩


theorem enters89 : ∀ args w, (callFunc 89 args).run Try.prog w = .ok (.enter 89 args) w := enters_of Try.func89 (by kernel_rfl) rfl
theorem enters91 : ∀ args w, (callFunc 91 args).run Try.prog w = .ok (.enter 91 args) w := enters_of Try.func91 (by kernel_rfl) rfl

set_option maxRecDepth 100000 in
theorem broken_c (gf g : Nat) (a : Option Addr) (cap : Nat) (m : List Int) (r : Rl) (w : World) (hx : IntsAt w a r.1) (hl : r.1.length ≤ 1000000) (hm : MarksAt w g m) (hf : factsOk r.1) (hth : r.2 < 12)
    (hfn : w.cell? ⟨gf, 0, none⟩ = some (.func (.func 89) #[] #[.pointer (some ⟨g, 0, none⟩)])) :
    Calls Try.prog 91 #[.agg #[.slice a r.1.length cap, .int .i64 r.2], .pointer (some ⟨gf, 0, none⟩)] w (TellB w (!keptM m r)) := by
  have HB0 := hid (bnew w (.cells #[.slice a r.1.length cap, .int .i64 r.2] 60))
  have H := hid (kept_c g a cap m r (w.alloc (.cells #[.slice a r.1.length cap, .int .i64 r.2] 60)) (hx.mono HB0.out) hl (hm.mono HB0.out) hf hth)
  have hfn2 := cstep hfn HB0.out
  unfold TellB
  generalize keptM m r = v at *
  generalize r.1.length = n at *
  generalize r.2 = th at *
  clear hx hl hm hf hth
  go_enter Try.func91, Try.ntmps91
  go_wp2_with fail
  refine H.out.mono ?_
  rintro e w1 ⟨rfl, hB⟩
  have HB1 := hid (bstep HB0.out hB)
  clear hB
  go_wp2
  go_ret
  exact ⟨rfl, HB1.out⟩

/-- a list of facts is a truth -/
def isTruthM (seen : List Int) (rs : List Rl) (m : List Int) : Bool := hasM m seen && rs.all (keptM m)

/-- rules of a case's limit -/
def rulesOk (rs : List Rl) : Prop := ∀ i, i < rs.length → factsOk (nthR rs i).1 ∧ (nthR rs i).1.length ≤ 1000000 ∧ -1 ≤ (nthR rs i).2 ∧ (nthR rs i).2 < 12

set_option maxRecDepth 100000 in
set_option maxHeartbeats 2000000 in
theorem isTruth_c (g : Nat) (sa ra : Option Addr) (sc rc : Nat) (m seen : List Int) (rs : List Rl) (w : World) (hs : IntsAt w sa seen) (hr : RulesAt w ra rs) (hsl : seen.length ≤ 1000000) (hrl : rs.length ≤ 1000000)
    (hm : m.length = 12) (hsf : factsOk seen) (hro : rulesOk rs) (c1 : w.cell? ⟨g, 1, none⟩ = some (.slice sa seen.length sc)) (c2 : w.cell? ⟨g, 2, none⟩ = some (.slice ra rs.length rc)) :
    Calls Try.prog 62 #[.pointer (some ⟨g, 0, none⟩), .agg (intv m).toArray] w (TellB w (isTruthM seen rs m)) := by
  obtain ⟨W0, hW0⟩ : ∃ W0, W0 = (w.alloc (.cells (intv m).toArray 78)).alloc (.cells #[.func (.func 89) #[] #[.pointer (some ⟨w.heap.size, 0, none⟩)]] 71) := ⟨_, rfl⟩
  have HB0 := hid (show Below w.heap.size w W0 from by rw [hW0]; exact bstep (bnew w _) (bnew _ _))
  have hm0 : MarksAt W0 w.heap.size m := ⟨hm, by rw [hW0]; exact ((bnew (w.alloc (.cells (intv m).toArray 78)) (.cells #[.func (.func 89) #[] #[.pointer (some ⟨w.heap.size, 0, none⟩)]] 71)).block w.heap.size (by simp)).trans (heap_alloc_new w _)⟩
  have hf0 : W0.cell? ⟨w.heap.size + 1, 0, none⟩ = some (.func (.func 89) #[] #[.pointer (some ⟨w.heap.size, 0, none⟩)]) := by rw [hW0]; simp [go_sem]
  have Hm := hid hm0; have Hf := hid hf0
  have C1 := hid (cstep c1 HB0.out); have C2 := hid (cstep c2 HB0.out)
  have HF := hid (find_c ra rc 91 #[.pointer (some ⟨w.heap.size + 1, 0, none⟩)] (fun r => !keptM m r) rs W0 (hr.mono HB0.out) hrl
    (fun i a c w2 hi hB hat => broken_c (w.heap.size + 1) w.heap.size a c m (nthR rs i) w2 hat (hro i hi).2.1 (Hm.out.mono hB) (hro i hi).1 (hro i hi).2.2.2 (cstep Hf.out hB)) enters91)
  have HH := hid fun (w' : World) (h : Below w.heap.size w w') => has_c sa sc m seen w' (hs.mono h) hsl hm hsf
  have hany : rs.any (fun r => !keptM m r) = !rs.all (keptM m) := by rw [List.not_all_eq_any_not]
  rw [hany] at HF
  have hit : isTruthM seen rs m = (hasM m seen && rs.all (keptM m)) := rfl
  rw [hit]
  unfold TellB
  have HS := hid hW0
  obtain ⟨V, hV⟩ : ∃ V, V = (intv m).toArray := ⟨_, rfl⟩
  rw [← hV] at HH ⊢
  have HV := hid hV
  generalize hasM m seen = v1 at *
  generalize rs.all (keptM m) = v2 at *
  clear hs hr hm hsf hro c1 c2 hm0 hf0 hany hit hW0 hV
  have hS2 : (w.alloc (.cells V 78)).alloc (.cells #[.func (.func 89) #[] #[.pointer (some ⟨w.heap.size, 0, none⟩)]] 71) = W0 := by rw [HS.out, HV.out]
  have HS2 := hid hS2
  clear hS2
  have d2 := C2.out
  rw [← HS2.out] at d2
  go_enter Try.func62, Try.ntmps62
  go_wp2_with fail
  rw [HS2.out]
  refine HF.out.mono ?_
  rintro e w1 ⟨fa, fn, fc, fth, rfl, hB⟩
  have HB1 := hid (bstep hB (bnew w1 (.cells #[.slice fa fn fc, .int .i64 fth] 60)))
  clear hB d2
  have d1 := cstep C1.out HB1.out
  have hmm := Hm.out.mono HB1.out
  have o1 := hmm.ok; have p1 := hmm.part
  rw [← HV.out] at p1
  clear hmm
  have HB2 := hid (bstep HB0.out HB1.out)
  have HHq := hid (fun (w' : World) (hb : Below (w1.alloc (.cells #[.slice fa fn fc, .int .i64 fth] 60)).heap.size (w1.alloc (.cells #[.slice fa fn fc, .int .i64 fth] 60)) w') => HH.out w' (bstep HB2.out hb))
  cases v1 <;> cases v2 <;> (
    go_wp2_with fail
    first
    | go_region_with ((go_at_call 73; (with_reducible refine (HHq.out _ (by first | exact Below.refl _ _ | exact (Below.refl _ _).drew)).mono ?_); rintro e w3 ⟨rfl, hB⟩; have hBl : Below (w1.alloc (.cells #[.slice fa fn fc, .int .i64 fth] 60)).heap.size (w1.alloc (.cells #[.slice fa fn fc, .int .i64 fth] 60)) w3 := by first | exact hB | exact ((Below.refl _ _).drew).trans hB))
    | fail
    all_goals (
      go_wp2
      go_ret
      exact ⟨rfl, bstep HB2.out hBl⟩))

end Go.Proofs.Ytkioejdddmnbmaa

namespace Go.Proofs.Ytkioejdddmnbmaa
open Go.RowKit Go.Shelf

theorem wrap_i64_nat {a : Nat} (h : a < 2 ^ 62) : IntKind.i64.wrap ((a : Nat) : Int) = (a : Int) := by
  rw [IntKind.wrap_i64]
  omega
theorem toNat_of {a : Nat} (h : a < 2 ^ 62) : (BitVec.ofInt 64 (a : Int)).toNat = a := by
  rw [BitVec.ofInt_natCast, BitVec.toNat_ofNat]; exact Nat.mod_eq_of_lt (by omega)
theorem bits_or_i64 {a b : Nat} (ha : a < 2 ^ 62) (hb : b < 2 ^ 62) : bits .or .i64 (a : Int) (b : Int) = ((a ||| b : Nat) : Int) := by
  show IntKind.i64.wrap ((BitVec.ofInt 64 (a : Int) ||| BitVec.ofInt 64 (b : Int)).toNat : Int) = _
  rw [BitVec.toNat_or, toNat_of ha, toNat_of hb, wrap_i64_nat (Nat.or_lt_two_pow ha hb)]
theorem bits_and_i64 {a b : Nat} (ha : a < 2 ^ 62) (hb : b < 2 ^ 62) : bits .and .i64 (a : Int) (b : Int) = ((a &&& b : Nat) : Int) := by
  show IntKind.i64.wrap ((BitVec.ofInt 64 (a : Int) &&& BitVec.ofInt 64 (b : Int)).toNat : Int) = _
  rw [BitVec.toNat_and, toNat_of ha, toNat_of hb, wrap_i64_nat (Nat.lt_of_le_of_lt Nat.and_le_left ha)]
theorem bits_one_i64 {a : Nat} (ha : a < 2 ^ 62) (k : Nat) : bits .and .i64 ((a : Int) / 2 ^ k) 1 = if a.testBit k then 1 else 0 := by
  have e : ((a : Int) / 2 ^ k) = ((a / 2 ^ k : Nat) : Int) := by simp
  have h2 : a / 2 ^ k < 2 ^ 62 := Nat.lt_of_le_of_lt (Nat.div_le_self _ _) ha
  have := bits_and_i64 h2 (b := 1) (by omega)
  rw [e, show (1 : Int) = ((1 : Nat) : Int) from rfl, this, Nat.and_one_is_mod, Nat.testBit_eq_decide_div_mod_eq]
  by_cases h : a / 2 ^ k % 2 = 1
  · rw [h]; rfl
  · have h0 : a / 2 ^ k % 2 = 0 := by omega
    rw [h0]; rfl

/-- the bits of the first k facts of a list -/
def bitsTo (l : List Int) : Nat → Nat
  | 0 => 0
  | k + 1 => bitsTo l k ||| 2 ^ (nth l k).toNat
def bitsL (l : List Int) : Nat := bitsTo l l.length

theorem bitsTo_lt {l : List Int} (hf : factsOk l) : ∀ k, k ≤ l.length → bitsTo l k < 2 ^ 12
  | 0, _ => by simp [bitsTo]
  | k + 1, h => by
    have := (hf k (by omega)).2
    exact Nat.or_lt_two_pow (bitsTo_lt hf k (by omega)) (Nat.pow_lt_pow_right (by omega) (by have := (hf k (by omega)).1; omega))
theorem bitsL_lt {l : List Int} (hf : factsOk l) : bitsL l < 2 ^ 12 := bitsTo_lt hf _ (Nat.le_refl _)

set_option maxRecDepth 100000 in
theorem bits_c (a : Option Addr) (cap : Nat) (l : List Int) (w : World) (hx : IntsAt w a l) (hl : l.length ≤ 1000000) (hf : factsOk l) :
    Calls Try.prog 49 #[.slice a l.length cap] w fun e w' => e = .returned (.int .i64 (bitsL l)) ∧ w' = w := by
  have Hx := hid hx; have Hf := hid hf
  clear hx hf
  go_enter Try.func49, Try.ntmps49
  go_wp2
  go_loop [3, 4] (fun n i => ∃ k : Nat, k ≤ l.length ∧ i = .int .i64 k ∧ n = .int .i64 (bitsTo l k)) (fun _ i => l.length - (intOf i).toNat)
  case atStart => exact ⟨0, Nat.zero_le _, rfl, rfl⟩
  case round =>
    obtain ⟨k, hk, rfl, rfl⟩ := hrel
    by_cases hlt : k < l.length
    · obtain ⟨b, off, rfl, hc⟩ := Hx.out.at hlt
      obtain ⟨f0, f1⟩ := Hf.out k hlt
      obtain ⟨n, hn⟩ := Int.eq_ofNat_of_zero_le f0
      have hs : bitsTo l (k + 1) = bitsTo l k ||| 2 ^ n := by rw [bitsTo, hn]; rfl
      rw [hn] at hc
      have hn12 : n < 12 := by omega
      have hp : (2 : Nat) ^ n < 2 ^ 12 := Nat.pow_lt_pow_right (by omega) hn12
      have hb := bitsTo_lt Hf.out k hk
      obtain ⟨v, hv⟩ : ∃ v, v = bitsTo l k := ⟨_, rfl⟩
      rw [← hv] at hs hb ⊢
      have hor := bits_or_i64 (a := v) (b := 2 ^ n) (by omega) (by omega)
      have hsh : wrap64 ((2 : Int) ^ n) = ((2 ^ n : Nat) : Int) := by
        have e : (2 : Int) ^ n = ((2 ^ n : Nat) : Int) := by simp
        rw [e]
        obtain ⟨q, hq⟩ : ∃ q, q = 2 ^ n := ⟨_, rfl⟩
        rw [← hq] at hp ⊢
        unfold wrap64; omega
      have Hs := hid hs; have Hor := hid hor; have Hsh := hid hsh
      have hnI : (n : Int) < 64 := by omega
      clear f0 f1 hn hs hv hor hsh hp hb
      go_wp2
      go_round
      case rel => exact ⟨k + 1, by omega, by go_num, by rw [Hs.out, ← Hor.out, ← Hsh.out]⟩
      case measure => simp [intOf]; omega
    · obtain rfl : k = l.length := by omega
      go_wp2
      go_ret
      exact ⟨rfl, rfl⟩


/-- a rule is kept by facts, by bits -/
def keepsB (facts : Nat) (r : Rl) : Bool := !(facts &&& bitsL r.1 == bitsL r.1) || (decide (0 ≤ r.2) && facts.testBit r.2.toNat)
def truthB (seen : List Int) (rs : List Rl) (facts : Nat) : Bool := (facts &&& bitsL seen == bitsL seen) && rs.all (keepsB facts)

set_option maxRecDepth 100000 in
set_option maxHeartbeats 1000000 in
theorem keeps_c (a : Option Addr) (cap : Nat) (r : Rl) (facts : Nat) (w : World) (hx : IntsAt w a r.1) (hl : r.1.length ≤ 1000000) (hf : factsOk r.1) (hth : r.2 < 12) (hfa : facts < 2 ^ 12) :
    Calls Try.prog 84 #[.agg #[.slice a r.1.length cap, .int .i64 r.2], .int .i64 facts] w (TellB w (keepsB facts r)) := by
  have HB0 := hid (bnew w (.cells #[.slice a r.1.length cap, .int .i64 r.2] 60))
  have H := hid (bits_c a cap r.1 (w.alloc (.cells #[.slice a r.1.length cap, .int .i64 r.2] 60)) (hx.mono HB0.out) hl hf)
  have hb := bitsL_lt hf
  have hk : keepsB facts r = (!(facts &&& bitsL r.1 == bitsL r.1) || (decide (0 ≤ r.2) && facts.testBit r.2.toNat)) := rfl
  rw [hk]
  unfold TellB
  obtain ⟨th, hthe⟩ : ∃ t, t = r.2 := ⟨_, rfl⟩
  obtain ⟨n, hn⟩ : ∃ n, n = r.1.length := ⟨_, rfl⟩
  obtain ⟨q, hq⟩ : ∃ q, q = bitsL r.1 := ⟨_, rfl⟩
  rw [← hthe, ← hq]
  rw [← hthe] at HB0 H hth
  rw [← hn] at HB0 H
  rw [← hq] at H hb
  rw [← hn]
  have hand := bits_and_i64 (a := facts) (b := q) (by omega) (by omega)
  clear hx hl hf hk hthe hn hq
  by_cases he : facts &&& q = q
  · have e1 : (facts &&& q == q) = true := by simpa using he
    rw [e1]
    rw [he] at hand
    by_cases h0 : 0 ≤ th
    · obtain ⟨t, rfl⟩ := Int.eq_ofNat_of_zero_le h0
      have hone := bits_one_i64 (a := facts) (by omega) t
      have ht64 : (t : Int) < 64 := by omega
      rw [decide_eq_true h0, Int.toNat_natCast]
      cases htb : facts.testBit t with
      | true =>
        rw [htb] at hone
        simp only [if_true] at hone
        clear htb he e1
        go_enter Try.func84, Try.ntmps84
        go_wp2_with fail
        refine H.out.mono ?_
        rintro e w1 ⟨rfl, rfl⟩
        go_wp2
        go_ret
        exact ⟨rfl, HB0.out⟩
      | false =>
        rw [htb] at hone
        simp only [Bool.false_eq_true, if_false] at hone
        clear htb he e1
        go_enter Try.func84, Try.ntmps84
        go_wp2_with fail
        refine H.out.mono ?_
        rintro e w1 ⟨rfl, rfl⟩
        go_wp2
        go_ret
        exact ⟨rfl, HB0.out⟩
    · rw [decide_eq_false h0]
      have hlt : th < 0 := by omega
      clear he e1 h0
      go_enter Try.func84, Try.ntmps84
      go_wp2_with fail
      refine H.out.mono ?_
      rintro e w1 ⟨rfl, rfl⟩
      go_wp2
      go_ret
      exact ⟨rfl, HB0.out⟩
  · have e1 : (facts &&& q == q) = false := by simpa using he
    rw [e1]
    have hne : (((facts &&& q : Nat) : Int) != (q : Int)) = true := by simp; omega
    have hne2 : ¬ ((facts &&& q : Nat) : Int) = (q : Int) := by omega
    obtain ⟨u, hu⟩ : ∃ u, u = facts &&& q := ⟨_, rfl⟩
    rw [← hu] at hand hne hne2
    clear he e1 hu
    go_enter Try.func84, Try.ntmps84
    go_wp2_with fail
    refine H.out.mono ?_
    rintro e w1 ⟨rfl, rfl⟩
    go_wp2
    go_ret
    exact ⟨rfl, HB0.out⟩

end Go.Proofs.Ytkioejdddmnbmaa

namespace Go.Proofs.Ytkioejdddmnbmaa
open Go.RowKit Go.Shelf

theorem allR_take_succ (p : Rl → Bool) {rs : List Rl} {k : Nat} (h : k < rs.length) : (rs.take (k + 1)).all p = ((rs.take k).all p && p (nthR rs k)) := by
  rw [List.take_succ_eq_append_getElem h, List.all_append]
  unfold nthR
  rw [List.getD_eq_getElem?_getD, List.getElem?_eq_getElem h]
  simp

theorem allR_false {p : Rl → Bool} {rs : List Rl} {k : Nat} (h : k < rs.length) (hp : p (nthR rs k) = false) : rs.all p = false := by
  cases hh : rs.all p with
  | false => rfl
  | true => have := List.all_eq_true.1 hh _ (nthR_mem h); rw [hp] at this; cases this

set_option maxRecDepth 100000 in
set_option maxHeartbeats 2000000 in
theorem isTruthR_c (sa ra : Option Addr) (sc rc : Nat) (facts : Int) (seen : List Int) (rs : List Rl) (b : Nat) (w : World) (hs : IntsAt w sa seen) (hr : RulesAt w ra rs) (hsl : seen.length ≤ 1000000) (hrl : rs.length ≤ 1000000)
    (hsf : factsOk seen) (hro : rulesOk rs) (hb : b < 2 ^ 12) :
    Calls Try.prog 64 #[.agg #[.int .i64 facts, .slice sa seen.length sc, .slice ra rs.length rc], .int .i64 b] w (TellB w (truthB seen rs b)) := by
  obtain ⟨W0, hW0⟩ : ∃ W0, W0 = w.alloc (.cells #[.int .i64 facts, .slice sa seen.length sc, .slice ra rs.length rc] 25) := ⟨_, rfl⟩
  have HB0 := hid (show Below w.heap.size w W0 by rw [hW0]; exact bnew w _)
  have C2 := hid (show W0.cell? ⟨w.heap.size, 2, none⟩ = some (.slice ra rs.length rc) by rw [hW0]; simp [go_sem])
  have HBi := hid (bits_c sa sc seen W0 (hs.mono HB0.out) hsl hsf)
  have HR := hid fun (w' : World) (h : Below W0.heap.size W0 w') => (hr.mono HB0.out).mono h
  have HK := hid fun (i : Nat) (hi : i < rs.length) (a : Option Addr) (c : Nat) (w' : World) (hat : IntsAt w' a (nthR rs i).1) => keeps_c a c (nthR rs i) b w' hat (hro i hi).2.1 (hro i hi).1 (hro i hi).2.2.2 hb
  have hq := bitsL_lt hsf
  have ht : truthB seen rs b = ((b &&& bitsL seen == bitsL seen) && rs.all (keepsB b)) := rfl
  rw [ht]
  unfold TellB
  obtain ⟨q, hqe⟩ : ∃ q, q = bitsL seen := ⟨_, rfl⟩
  rw [← hqe] at HBi hq ⊢
  have hand := bits_and_i64 (a := b) (b := q) (by omega) (by omega)
  have HS := hid hW0
  clear hs hr hsl hsf hro ht hqe hW0
  by_cases he : b &&& q = q
  · have e1 : (b &&& q == q) = true := by simpa using he
    rw [e1, Bool.true_and]
    rw [he] at hand
    clear he e1
    obtain ⟨R, hR⟩ : ∃ R, R = rs.all (keepsB b) := ⟨_, rfl⟩
    rw [← hR]
    have HRs := hid hR
    clear hR
    go_enter Try.func64, Try.ntmps64
    go_wp2_with fail
    rw [← HS.out]
    refine HBi.out.mono ?_
    rintro e w1 ⟨rfl, hw1⟩
    cases hw1
    clear HS HBi
    go_wp2
    go_loopw [6] (fun i wr => ∃ k : Nat, k ≤ rs.length ∧ i = .int .i64 k ∧ (rs.take k).all (keepsB b) = true ∧ Below W0.heap.size W0 wr) (fun i _ => rs.length - (intOf i).toNat)
    case atStart => exact ⟨0, Nat.zero_le _, rfl, rfl, Below.refl _ _⟩
    case round =>
      obtain ⟨k, hk, rfl, hp, hB⟩ := hrel
      obtain ⟨wo, rfl⟩ : ∃ wo : World, wo = wr := ⟨_, rfl⟩
      have Hp := hid hp; have HB := hid hB
      have d2 := cstep C2.out hB
      clear hp hB
      by_cases hlt : k < rs.length
      · obtain ⟨bb, off, a, c, rfl, hra⟩ := (HR.out _ HB.out).at hlt
        have Ht := hid (allR_take_succ (keepsB b) hlt)
        have hk2 := HK.out k hlt a c wo hra.at'
        have q0 := hra.cI
        have q1 := hra.cT
        obtain ⟨th, hth⟩ : ∃ t, t = (nthR rs k).2 := ⟨_, rfl⟩
        obtain ⟨n, hn⟩ : ∃ n, n = (nthR rs k).1.length := ⟨_, rfl⟩
        rw [← hth, ← hn] at hk2
        rw [← hn] at q0
        rw [← hth] at q1
        have Hk2 := hid hk2
        clear hk2 hra hth hn
        cases hpk : keepsB b (nthR rs k) with
        | true =>
          rw [hpk] at Hk2
          have Hpk := hid hpk; clear hpk
          go_wp2_with fail
          refine Hk2.out.mono ?_
          rintro e w' ⟨rfl, hB⟩
          have HB1 := hid (bstep HB.out hB)
          clear hB
          go_wp2
          go_roundw
          case rel => exact ⟨k + 1, by omega, by go_num, by rw [Ht.out, Hp.out, Hpk.out]; rfl, HB1.out⟩
          case measure => simp [intOf]; omega
        | false =>
          rw [hpk] at Hk2
          have Hpk := hid (allR_false hlt hpk); clear hpk
          go_wp2_with fail
          refine Hk2.out.mono ?_
          rintro e w' ⟨rfl, hB⟩
          have HB1 := hid (bstep HB0.out (bstep HB.out hB))
          clear hB
          go_wp2
          go_ret
          exact ⟨ret_bool (by rw [HRs.out, Hpk.out]), HB1.out⟩
      · obtain rfl : k = rs.length := by omega
        have hall : rs.all (keepsB b) = true := by
          have hp := Hp.out
          rw [List.take_of_length_le (by omega)] at hp
          exact hp
        have Hall := hid hall
        clear hall
        go_wp2
        go_ret
        exact ⟨ret_bool (by rw [HRs.out, Hall.out]), bstep HB0.out HB.out⟩
  · have e1 : (b &&& q == q) = false := by simpa using he
    rw [e1, Bool.false_and]
    have hne : (((b &&& q : Nat) : Int) != (q : Int)) = true := by simp; omega
    have hne2 : ¬ ((b &&& q : Nat) : Int) = (q : Int) := by omega
    obtain ⟨u, hu⟩ : ∃ u, u = b &&& q := ⟨_, rfl⟩
    rw [← hu] at hand hne hne2
    clear he e1 hu
    go_enter Try.func64, Try.ntmps64
    go_wp2_with fail
    rw [← HS.out]
    refine HBi.out.mono ?_
    rintro e w1 ⟨rfl, hw1⟩
    cases hw1
    go_wp2
    go_ret
    exact ⟨rfl, HB0.out⟩


theorem rising_facts {facts : Int} {l : List Int} (hf : facts ≤ 12) (h : rising facts l = true) : factsOk l := by
  have key : ∀ k, k < l.length → 0 ≤ nth l k ∧ nth l k ≤ facts - 1 := by
    intro k
    induction k with
    | zero =>
      intro hk
      have := List.all_eq_true.1 h 0 (List.mem_range.2 hk)
      have h2 := within_one.1 this
      exact h2
    | succ k ih =>
      intro hk
      have h1 := ih (by omega)
      have := List.all_eq_true.1 h (k + 1) (List.mem_range.2 hk)
      have h2 := within_one.1 this
      have h3 : nextAt l (k + 1) = nth l k + 1 := by unfold nextAt; rw [if_neg (by omega)]; rfl
      rw [h3] at h2
      omega
  intro k hk
  have := key k hk
  omega

theorem case_zero {facts : Int} {seen : List Int} {rs : List Rl} (h : caseErr facts seen rs = 0) : (1 ≤ facts ∧ facts ≤ 12) ∧ rs.length ≤ 14 ∧ rising facts seen = true ∧ rs.all (ruleOk facts) = true := by
  unfold caseErr at h
  split at h
  · rename_i h1
    rw [Bool.and_eq_true] at h1
    split at h
    · rename_i h2
      rw [Bool.and_eq_true] at h2
      exact ⟨within_one.1 h1.1, of_decide_eq_true h1.2, h2.1, h2.2⟩
    · cases h
  · cases h

theorem case_rules {facts : Int} {seen : List Int} {rs : List Rl} (h : caseErr facts seen rs = 0) (hl : ∀ i, i < rs.length → (nthR rs i).1.length ≤ 1000000) : rulesOk rs := by
  obtain ⟨⟨f0, f1⟩, _, _, ha⟩ := case_zero h
  intro i hi
  have := List.all_eq_true.1 ha _ (nthR_mem hi)
  unfold ruleOk at this
  rw [Bool.and_eq_true] at this
  have h2 := within_one.1 this.2
  exact ⟨rising_facts f1 this.1, hl i hi, h2.1, by omega⟩

theorem bitsTo_test (l : List Int) (c : Nat) : ∀ k, (bitsTo l k).testBit c = (List.range k).any (fun i => (nth l i).toNat == c)
  | 0 => by simp [bitsTo]
  | k + 1 => by
    rw [bitsTo, Nat.testBit_or, bitsTo_test l c k, Nat.testBit_two_pow, List.range_succ, List.any_append]
    simp only [List.any_cons, List.any_nil, Bool.or_false]
    congr 1

theorem markTo_nth (l : List Int) {c : Nat} (hc : c < 12) : ∀ k, nth (markTo l k) c = if (bitsTo l k).testBit c then 1 else 0
  | 0 => by
    rw [markTo, bitsTo]
    unfold nth
    rw [List.getD_eq_getElem?_getD, List.getElem?_replicate, if_pos hc]
    simp
  | k + 1 => by
    rw [markTo, bitsTo, Nat.testBit_or, Nat.testBit_two_pow]
    unfold nth
    rw [List.getD_eq_getElem?_getD, List.getElem?_set]
    by_cases e : (nth l k).toNat = c
    · have e' : (l.getD k 0).toNat = c := e
      rw [if_pos e', if_pos (by rw [markTo_length]; omega)]
      rw [decide_eq_true e', Bool.or_true, if_pos rfl]; rfl
    · have e' : ¬ (l.getD k 0).toNat = c := e
      rw [if_neg e', decide_eq_false e', Bool.or_false]
      have ih := markTo_nth l hc k
      unfold nth at ih
      rw [List.getD_eq_getElem?_getD] at ih
      exact ih

theorem has_bits {t l : List Int} (hl : factsOk l) : hasM (markL t) l = (bitsL t &&& bitsL l == bitsL l) := by
  have hz : ∀ k, k < l.length → (zeroAt (markL t) (nth l k) = !(bitsL t).testBit (nth l k).toNat) := by
    intro k hk
    obtain ⟨h0, h1⟩ := hl k hk
    unfold zeroAt markL bitsL
    rw [markTo_nth t (by omega)]
    cases (bitsTo t t.length).testBit (nth l k).toNat <;> rfl
  rw [Bool.eq_iff_iff]
  constructor
  · intro h
    rw [beq_iff_eq]
    refine Nat.eq_of_testBit_eq (fun c => ?_)
    rw [Nat.testBit_and]
    cases hb : (bitsL l).testBit c with
    | false => simp
    | true =>
      unfold bitsL at hb
      rw [bitsTo_test] at hb
      obtain ⟨i, hi, he⟩ := List.any_eq_true.1 hb
      have hi' := List.mem_range.1 hi
      have he' : (nth l i).toNat = c := by simpa using he
      unfold hasM at h
      have hn : l.any (zeroAt (markL t)) = false := by simpa using h
      have hne := List.any_eq_false.1 hn (nth l i) (nth_mem hi')
      rw [hz i hi', he'] at hne
      simpa using hne
  · intro h
    rw [beq_iff_eq] at h
    unfold hasM
    rw [Bool.not_eq_true']
    refine List.any_eq_false.2 (fun x hx => ?_)
    obtain ⟨k, hk, rfl⟩ := List.getElem_of_mem hx
    have hx2 : l[k] = nth l k := (nth_eq hk).symm
    rw [hx2, hz k hk]
    have hb : (bitsL l).testBit (nth l k).toNat = true := by
      unfold bitsL
      rw [bitsTo_test]
      exact List.any_eq_true.2 ⟨k, List.mem_range.2 hk, by simp⟩
    rw [← h, Nat.testBit_and] at hb
    rw [Bool.and_eq_true] at hb
    simp [hb.1]

theorem kept_bits {t : List Int} {r : Rl} (hf : factsOk r.1) (h0 : -1 ≤ r.2) (h1 : r.2 < 12) : keptM (markL t) r = keepsB (bitsL t) r := by
  unfold keptM keepsB
  rw [has_bits hf]
  congr 1
  by_cases h : 0 ≤ r.2
  · rw [decide_eq_true h, Bool.true_and, Bool.true_and]
    unfold hasM zeroAt markL bitsL
    simp only [List.any_cons, List.any_nil, Bool.or_false]
    rw [markTo_nth t (by omega)]
    cases (bitsTo t t.length).testBit r.2.toNat <;> rfl
  · rw [decide_eq_false h]; rfl

/-- a list is a truth, by marks and by bits -/
theorem truth_bits {t seen : List Int} {rs : List Rl} (hs : factsOk seen) (hr : rulesOk rs) : isTruthM seen rs (markL t) = truthB seen rs (bitsL t) := by
  unfold isTruthM truthB
  rw [has_bits hs]
  congr 1
  rw [Bool.eq_iff_iff, List.all_eq_true, List.all_eq_true]
  constructor <;> intro h x hx
  all_goals
    obtain ⟨i, hi, rfl⟩ := List.getElem_of_mem hx
    have e : nthR rs i = rs[i] := by unfold nthR; rw [List.getD_eq_getElem?_getD, List.getElem?_eq_getElem hi]; rfl
    have h2 := h _ hx
    have hk := kept_bits (t := t) (hr i hi).1 (hr i hi).2.2.1 (hr i hi).2.2.2
    rw [e] at hk
  · rw [← hk]; exact h2
  · rw [hk]; exact h2

def truthErr (facts : Int) (seen : List Int) (rs : List Rl) (t : List Int) : Int :=
  if caseErr facts seen rs ≠ 0 then caseErr facts seen rs else if rising facts t = true then (if truthB seen rs (bitsL t) = true then 0 else 24) else 2


/-- a case in memory: its agg -/
def caseV (facts : Int) (sa : Option Addr) (sn sc : Nat) (ra : Option Addr) (rn rc : Nat) : Array Value := #[.int .i64 facts, .slice sa sn sc, .slice ra rn rc]

theorem caseBox (w : World) (facts : Int) (sa ra : Option Addr) (sn sc rn rc : Nat) :
    (w.alloc (.cells #[.int .i64 facts, .slice sa sn sc, .slice ra rn rc] 25)).cell? ⟨w.heap.size, 0, none⟩ = some (.int .i64 facts) ∧ (w.alloc (.cells #[.int .i64 facts, .slice sa sn sc, .slice ra rn rc] 25)).cell? ⟨w.heap.size, 1, none⟩ = some (.slice sa sn sc) ∧
      (w.alloc (.cells #[.int .i64 facts, .slice sa sn sc, .slice ra rn rc] 25)).cell? ⟨w.heap.size, 2, none⟩ = some (.slice ra rn rc) := by
  refine ⟨?_, ?_, ?_⟩ <;> simp [go_sem]

set_option maxRecDepth 100000 in
set_option maxHeartbeats 4000000 in
theorem rCheckTruth_c (sa ra ta : Option Addr) (sc rc tc : Nat) (facts : Int) (seen t : List Int) (rs : List Rl) (w : World) (hs : IntsAt w sa seen) (hr : RulesAt w ra rs) (ht : IntsAt w ta t) (hb : seen.length ≤ 1000000) (hb2 : rs.length ≤ 1000000) (hb4 : t.length ≤ 1000000)
    (hb3 : ∀ i, i < rs.length → (nthR rs i).1.length ≤ 1000000) :
    Calls Try.prog 22 #[.agg #[.int .i64 facts, .slice sa seen.length sc, .slice ra rs.length rc], .slice ta t.length tc] w fun e w' => e = .returned (.int .i64 (truthErr facts seen rs t)) ∧ Below w.heap.size w w' := by
  obtain ⟨W0, hW0⟩ : ∃ W0, W0 = w.alloc (.cells #[.int .i64 facts, .slice sa seen.length sc, .slice ra rs.length rc] 25) := ⟨_, rfl⟩
  have HB0 := hid (show Below w.heap.size w W0 by rw [hW0]; exact bnew w _)
  obtain ⟨c0, c1, c2⟩ := caseBox w facts sa ra seen.length sc rs.length rc
  rw [← hW0] at c0 c1 c2
  have C0 := hid c0; have C1 := hid c1; have C2 := hid c2
  have HC := hid fun (w' : World) (h : Below w.heap.size w w') => rCheckCase_c sa ra sc rc facts seen rs w' (hs.mono h) (hr.mono h) hb hb2 hb3
  have HL := hid fun (w' : World) (h : Below w.heap.size w w') => isList_c ta tc t facts w' (ht.mono h) hb4
  have hte : truthErr facts seen rs t = if caseErr facts seen rs ≠ 0 then caseErr facts seen rs else if rising facts t = true then (if truthB seen rs (bitsL t) = true then 0 else 24) else 2 := rfl
  have HS := hid hW0
  by_cases hc : caseErr facts seen rs = 0
  · rw [hc] at HC
    obtain ⟨⟨f0, f1⟩, _, hris, _⟩ := case_zero hc
    rw [hte, if_neg (by simp [hc])]
    cases hrt : rising facts t with
    | false =>
      rw [hrt] at HL
      rw [if_neg (by simp)]
      clear hs hr ht hb hb3 hte hrt hc hris hW0 c0 c1 c2 f0 f1
      go_enter Try.func22, Try.ntmps22
      go_wp2_with fail
      rw [← HS.out]
      refine (HC.out _ HB0.out).mono ?_
      rintro e w1 ⟨rfl, hB⟩
      have d0 := cstep C0.out hB
      have HB1 := hid (bstep HB0.out hB)
      clear hB
      go_wp2_with fail
      refine (HL.out _ HB1.out).mono ?_
      rintro e w2 ⟨rfl, hB⟩
      have HB2 := hid (bstep HB1.out hB)
      clear hB
      go_wp2
      go_ret
      exact ⟨rfl, HB2.out⟩
    | true =>
      rw [hrt] at HL
      have htf := rising_facts f1 hrt
      have HBi := hid fun (w' : World) (h : Below w.heap.size w w') => bits_c ta tc t w' (ht.mono h) hb4 htf
      have HT := hid fun (w' : World) (h : Below w.heap.size w w') => isTruthR_c sa ra sc rc facts seen rs (bitsL t) w' (hs.mono h) (hr.mono h) hb hb2 (rising_facts f1 hris) (case_rules hc hb3) (bitsL_lt htf)
      unfold TellB at HT
      generalize truthB seen rs (bitsL t) = v at *
      rw [if_pos rfl]
      obtain ⟨R, hR⟩ : ∃ R : Int, R = (if v = true then 0 else 24) := ⟨_, rfl⟩
      rw [← hR]
      have HRs := hid hR
      clear hs hr ht hb hb3 hte hrt hc hris hW0 c0 c1 c2 f0 f1 htf hR
      go_enter Try.func22, Try.ntmps22
      go_wp2_with fail
      rw [← HS.out]
      refine (HC.out _ HB0.out).mono ?_
      rintro e w1 ⟨rfl, hB⟩
      have d0 := cstep C0.out hB
      have HB1 := hid (bstep HB0.out hB)
      have D0 := hid d0; have D1 := hid (cstep C1.out hB); have D2 := hid (cstep C2.out hB)
      clear hB
      go_wp2_with fail
      refine (HL.out _ HB1.out).mono ?_
      rintro e w2 ⟨rfl, hB⟩
      have HB2 := hid (bstep HB1.out hB)
      have e0 := cstep D0.out hB; have e1 := cstep D1.out hB; have e2 := cstep D2.out hB
      clear hB d0
      go_wp2_with fail
      cases v <;> (
        first
          | go_region_with (first | (go_at_call 49; (with_reducible refine (HBi.out _ (by first | exact HB2.out | exact HB2.out.drew)).mono ?_); rintro e w3 ⟨rfl, hw3⟩; subst hw3) | (go_at_call 64; (with_reducible refine (HT.out _ (by first | exact HB2.out | exact HB2.out.drew)).mono ?_); rintro e w4 ⟨rfl, hB⟩; have hBl : Below w.heap.size w w4 := by first | exact bstep HB2.out hB | exact bstep HB2.out.drew hB))
          | fail
        all_goals (
          go_wp2
          go_ret
          exact ⟨ret_int (by rw [HRs.out]; rfl), hBl⟩))
  · rw [hte, if_pos hc]
    have hcb : (caseErr facts seen rs != 0) = true := by simpa using hc
    clear hs hr ht hb hb3 hte hc hW0 c0 c1 c2
    generalize caseErr facts seen rs = c at *
    go_enter Try.func22, Try.ntmps22
    go_wp2_with fail
    rw [← HS.out]
    refine (HC.out _ HB0.out).mono ?_
    rintro e w1 ⟨rfl, hB⟩
    have d0 := cstep C0.out hB; have d1 := cstep C1.out hB; have d2 := cstep C2.out hB
    have HB1 := hid (bstep HB0.out hB)
    clear hB
    go_wp2_with fail
    refine (HC.out _ HB1.out).mono ?_
    rintro e w2 ⟨rfl, hB⟩
    have HB2 := hid (bstep HB1.out hB)
    clear hB
    go_wp2
    go_ret
    exact ⟨rfl, HB2.out⟩

end Go.Proofs.Ytkioejdddmnbmaa

namespace Go.Proofs.Ytkioejdddmnbmaa
open Go.RowKit Go.Shelf

theorem take_eq_append {xs ys : List Int} {k : Nat} (h1 : k < xs.length) (h2 : k < ys.length) (h : xs.take k = ys.take k) :
    (nth xs k = nth ys k) ↔ xs.take (k + 1) = ys.take (k + 1) := by
  rw [take_succ_nth h1, take_succ_nth h2, h]; simp

set_option maxRecDepth 100000 in
set_option maxHeartbeats 1000000 in
theorem ints_c (a1 a2 : Option Addr) (c1 c2 : Nat) (xs ys : List Int) (w : World) (hx : IntsAt w a1 xs) (hy : IntsAt w a2 ys) (hb : xs.length ≤ 1000000) (_hb2 : ys.length ≤ 1000000) :
    Calls Try.prog 29 #[.slice a1 xs.length c1, .slice a2 ys.length c2] w fun e w' => e = .returned (.bool (decide (xs = ys))) ∧ Below w.heap.size w w' := by
  go_enter Try.func29, Try.ntmps29
  by_cases hl : xs.length = ys.length
  · have hlb : (((xs.length : Nat) : Int) != ((ys.length : Nat) : Int)) = false := by simp [hl]
    have Hl := hid hl; clear hl
    go_wp2
    go_loopw [5] (fun i wr => ∃ k : Nat, k ≤ xs.length ∧ i = .int .i64 k ∧ xs.take k = ys.take k ∧ Below w.heap.size w wr) (fun i _ => xs.length - (intOf i).toNat)
    case atStart => exact ⟨0, Nat.zero_le _, rfl, rfl, Below.refl _ _⟩
    case round =>
      obtain ⟨k, hk, rfl, ht, hB⟩ := hrel
      have Ht := hid ht; clear ht
      by_cases hlt : k < xs.length
      · obtain ⟨b, off, rfl, hc⟩ := (hx.mono hB).at hlt
        obtain ⟨b2, off2, rfl, hc2⟩ := (hy.mono hB).at (k := k) (by have := Hl.out; omega)
        have Hx := hid hx; clear hx
        have Hy := hid hy; clear hy
        have hlt2 : k < ys.length := by have := Hl.out; omega
        have Hi := hid (take_eq_append hlt hlt2 Ht.out)
        by_cases he : nth xs k = nth ys k
        · have heb : (nth xs k != nth ys k) = false := by simp [he]
          have He := hid he; clear he
          go_wp2
          go_quiet (fail)
          go_wp2
          go_roundw
          case rel => exact ⟨k + 1, by omega, by go_num, Hi.out.1 He.out, below_drewN hB _⟩
          case measure => simp [intOf]; omega
        · have heb : (nth xs k != nth ys k) = true := by simp [he]
          have He := hid he; clear he
          go_wp2
          go_quiet (fail)
          go_wp2
          go_ret
          exact ⟨ret_bool (by simp; intro h; exact He.out (by rw [h])), below_drewN hB _⟩
      · go_wp2
        go_ret
        refine ⟨ret_bool ?_, hB⟩
        have h1 := Ht.out
        rw [List.take_of_length_le (by omega), List.take_of_length_le (by have := Hl.out; omega)] at h1
        simp [h1]
  · have hlb : (((xs.length : Nat) : Int) != ((ys.length : Nat) : Int)) = true := by simp; omega
    go_wp2
    go_ret
    exact ⟨ret_bool (by simp; intro h; exact hl (by rw [h])), Below.refl _ _⟩

/-- a case with too many numbers for a statement -/
def greatB (seen : List Int) (rs : List Rl) : Bool := decide (16 < seen.length) || decide (18 < rs.length) || rs.any (fun r => decide (16 < r.1.length))
def maxTo (rs : List Rl) : Nat → Nat
  | 0 => 0
  | k + 1 => max (maxTo rs k) (nthR rs k).1.length
theorem maxTo_any (rs : List Rl) : ∀ k, k ≤ rs.length → decide (16 < maxTo rs k) = (rs.take k).any (fun r => decide (16 < r.1.length))
  | 0, _ => by simp [maxTo]
  | k + 1, h => by
    rw [anyR_take_succ _ (by omega), ← maxTo_any rs k (by omega), maxTo, Bool.eq_iff_iff]
    simp only [decide_eq_true_eq, Bool.or_eq_true]
    omega

set_option maxRecDepth 100000 in
set_option maxHeartbeats 1000000 in
theorem great_c (sa ra : Option Addr) (sc rc : Nat) (facts : Int) (seen : List Int) (rs : List Rl) (w : World) (hr : RulesAt w ra rs) :
    Calls Try.prog 17 #[.agg #[.int .i64 facts, .slice sa seen.length sc, .slice ra rs.length rc]] w (TellB w (greatB seen rs)) := by
  obtain ⟨W0, hW0⟩ : ∃ W0, W0 = w.alloc (.cells #[.int .i64 facts, .slice sa seen.length sc, .slice ra rs.length rc] 25) := ⟨_, rfl⟩
  have HB0 := hid (show Below w.heap.size w W0 by rw [hW0]; exact bnew w _)
  obtain ⟨c0, c1, c2⟩ := caseBox w facts sa ra seen.length sc rs.length rc
  rw [← hW0] at c0 c1 c2
  have HR := hid (hr.mono HB0.out)
  have HS := hid hW0
  have hg : greatB seen rs = (decide (16 < seen.length) || decide (18 < rs.length) || rs.any (fun r => decide (16 < r.1.length))) := rfl
  have Hg := hid hg
  unfold TellB
  obtain ⟨gv, hgv⟩ : ∃ g, g = greatB seen rs := ⟨_, rfl⟩
  rw [← hgv]
  have Hgv := hid hgv
  clear hr hg hgv hW0
  by_cases h1 : 16 < seen.length
  · have h1I : (16 : Int) < (seen.length : Int) := by omega
    have hv : gv = true := by rw [Hgv.out, Hg.out, decide_eq_true h1]; rfl
    subst hv
    go_enter Try.func17, Try.ntmps17
    go_wp2
    go_ret
    exact ⟨rfl, by rw [← HS.out]; exact HB0.out⟩
  · have h1I : ¬ (16 : Int) < (seen.length : Int) := by omega
    by_cases h2 : 18 < rs.length
    · have h2I : (18 : Int) < (rs.length : Int) := by omega
      have hv : gv = true := by rw [Hgv.out, Hg.out, decide_eq_true h2]; simp
      subst hv
      go_enter Try.func17, Try.ntmps17
      go_wp2
      go_ret
      exact ⟨rfl, by rw [← HS.out]; exact HB0.out⟩
    · have h2I : ¬ (18 : Int) < (rs.length : Int) := by omega
      have hv : gv = rs.any (fun r => decide (16 < r.1.length)) := by rw [Hgv.out, Hg.out, decide_eq_false h1, decide_eq_false h2]; rfl
      have Hv := hid hv
      clear hv h1 h2
      go_enter Try.func17, Try.ntmps17
      go_wp2
      rw [← HS.out]
      go_loop [3, 4] (fun n i => ∃ k : Nat, k ≤ rs.length ∧ i = .int .i64 k ∧ n = .int .i64 (maxTo rs k)) (fun _ i => rs.length - (intOf i).toNat)
      case atStart => exact ⟨0, Nat.zero_le _, rfl, rfl⟩
      case round =>
        obtain ⟨k, hk, rfl, rfl⟩ := hrel
        by_cases hlt : k < rs.length
        · obtain ⟨b, off, a, c, rfl, hra⟩ := HR.out.at hlt
          have q0 := hra.cI
          have hm : maxTo rs (k + 1) = max (maxTo rs k) (nthR rs k).1.length := rfl
          obtain ⟨n, hn⟩ : ∃ n, n = (nthR rs k).1.length := ⟨_, rfl⟩
          obtain ⟨m, hm'⟩ : ∃ m, m = maxTo rs k := ⟨_, rfl⟩
          rw [← hn] at q0 hm
          rw [← hm'] at hm ⊢
          have Hm := hid hm
          clear hra hn hm hm'
          go_wp2
          go_round
          case rel =>
            refine ⟨k + 1, by omega, by go_num, ?_⟩
            rw [Hm.out]
            split
            · congr 1; omega
            · congr 1; omega
          case measure => simp [intOf]; omega
        · obtain rfl : k = rs.length := by omega
          have hfin := maxTo_any rs rs.length (Nat.le_refl _)
          rw [List.take_length] at hfin
          have Hfin := hid hfin
          clear hfin
          obtain ⟨m, hm'⟩ : ∃ m, m = maxTo rs rs.length := ⟨_, rfl⟩
          rw [← hm']
          have Hm := hid hm'
          clear hm'
          go_wp2
          go_ret
          exact ⟨ret_bool (by rw [Hv.out, ← Hfin.out, ← Hm.out, Bool.eq_iff_iff]; simp; constructor <;> intro h <;> omega), HB0.out⟩

set_option maxRecDepth 100000 in
theorem hasL_c (a : Option Addr) (cap : Nat) (l : List Int) (n : Int) (w : World) (hx : IntsAt w a l) (hl : l.length ≤ 1000000) :
    Calls Try.prog 36 #[.slice a l.length cap, .int .i64 n] w fun e w' => e = .returned (.bool (l.any (fun x => x == n))) ∧ w' = w := by
  have Hx := hid hx
  clear hx
  obtain ⟨R, hR⟩ : ∃ R, R = l.any (fun x => x == n) := ⟨_, rfl⟩
  rw [← hR]
  have HR := hid hR
  clear hR
  go_enter Try.func36, Try.ntmps36
  go_wp2
  go_loop [5] (fun i => ∃ k : Nat, k ≤ l.length ∧ i = .int .i64 k ∧ (l.take k).any (fun x => x == n) = false) (fun i => l.length - (intOf i).toNat)
  case atStart => exact ⟨0, Nat.zero_le _, rfl, rfl⟩
  case round =>
    obtain ⟨k, hk, rfl, hp⟩ := hrel
    have Hp := hid hp
    clear hp
    by_cases hlt : k < l.length
    · obtain ⟨b, off, rfl, hc⟩ := Hx.out.at hlt
      have Ht := hid (any_take_succ (fun x => x == n) hlt)
      by_cases he : nth l k = n
      · have hany : l.any (fun x => x == n) = true := List.any_eq_true.2 ⟨_, nth_mem hlt, by simp [he]⟩
        have Hany := hid hany
        rw [he] at hc
        clear he hany
        go_wp2
        go_ret
        exact ⟨ret_bool (by rw [HR.out, Hany.out]), rfl⟩
      · have heb : (nth l k == n) = false := by simpa using he
        have Heb := hid heb
        clear heb
        go_wp2
        go_round
        case rel => exact ⟨k + 1, by omega, by go_num, by rw [Ht.out, Hp.out, Heb.out]; rfl⟩
        case measure => simp [intOf]; omega
    · obtain rfl : k = l.length := by omega
      go_wp2
      go_ret
      have hp := Hp.out
      rw [List.take_of_length_le (by omega)] at hp
      exact ⟨ret_bool (by rw [HR.out, hp]), rfl⟩

end Go.Proofs.Ytkioejdddmnbmaa

namespace Go.Proofs.Ytkioejdddmnbmaa
open Go.RowKit Go.Shelf

theorem laid : laidOutB Try.prog = true := by kernel_rfl
theorem row107 : (107 : TypeId) < Try.prog.types.size := of_decide_eq_true (by kernel_rfl)
theorem wide107 : (match Try.prog.underlying 107 with | some (.array _ _) | some (.struct _) => true | _ => false) = true := by rw [Try.underlying107]
theorem key107 : Try.prog.keyTypeAt 2 107 = true := by kernel_rfl
set_option maxRecDepth 100000 in
theorem law107 : Go.WideMaps.KeyLaw Try.prog 107 := deep_law_laid laid (m := 2) (by omega) row107 key107 wide107
theorem keyed107 : Go.Maps.Keyed Try.prog 107 := Go.Maps.Keyed.of_law law107
theorem keyTypeAll : Try.prog.keyType 107 = true := by kernel_rfl
theorem cells107 : Try.prog.cellsOf 107 = 1 := by kernel_rfl
theorem cells3 : Try.prog.cellsOf 3 = 1 := by kernel_rfl

theorem fact_wf {n : Nat} (h : n < 12) : (Lit.int .i64 (n : Int)).wf = true := by
  have : ∀ k : Fin 12, (Lit.int .i64 ((k : Nat) : Int)).wf = true := by decide
  exact this ⟨n, h⟩

theorem keyLits3 (d : Nat) {n : Nat} (h : n < 12) : Try.prog.keyLits (d + 1) 3 [.int .i64 (n : Int)] = some [.int .i64 (n : Int)] := by
  unfold Program.keyLits
  rw [Try.underlying3]
  have := fact_wf h
  simp [this]

theorem keyLits107 (d : Nat) {n : Nat} (h : n < 12) : Try.prog.keyLits (d + 2) 107 [.int .i64 (n : Int)] = some [.int .i64 (n : Int)] := by
  unfold Program.keyLits
  rw [Try.underlying107]
  have h2 := keyLits3 d h
  simp [cells107, cells3, h2]

def factKey (n : Nat) : Lit := .string (keyBytes [.int .i64 (n : Int)])

theorem keyOf_fact {n : Nat} (h : n < 12) : keyOf Try.prog 107 (.agg #[.int .i64 (n : Int)]) = some (factKey n) := by
  unfold keyOf
  rw [Try.underlying107]
  have hf : (Value.agg #[.int .i64 (n : Int)]).formed Try.prog 107 = true := by
    simp [Value.formed, Try.underlying107, cells107]
  have hn : ∃ d, Try.prog.types.size + 1 = d + 2 := ⟨Try.prog.types.size - 1, by
    have : 2 ≤ Try.prog.types.size := of_decide_eq_true (by kernel_rfl)
    omega⟩
  obtain ⟨d, hd⟩ := hn
  rw [keyTypeAll, hf, hd]
  have h2 := keyLits107 d h
  simp [Value.cells, h2, factKey]

theorem factKey_inj {n m : Nat} (hn : n < 12) (hm : m < 12) (h : factKey n = factKey m) : n = m := by
  have := keyLits_inj (keyLits107 0 hn) (keyLits107 0 hm) (Lit.string.inj h)
  simp at this
  omega

theorem isKey (n : Nat) : WideAt.IsKeyLit (factKey n) := trivial

end Go.Proofs.Ytkioejdddmnbmaa

namespace Go.Proofs.Ytkioejdddmnbmaa
open Go.RowKit Go.Shelf

theorem step_lit {ops : Array Oper} {o : Oper} {a : Act} {K : Act → World → Prop} {Q : Exit → Act → World → Prop} {E : Prop} (w : World) (l : List Int) (hgd : o.guard = none)
    (hop : o.op = Op.buildSlice 22 l.length ((l.zipIdx 0).map fun x => (x.2, Operand.const (Value.int .i64 x.1))).toArray) (hpos : 0 < l.length) (hsm : l.length ≤ 1000)
    (hK : ∀ b w', IntsAt w' (some ⟨b, 0, none⟩) l → Below w.heap.size w w' → K (a.put o.dst (.slice (some ⟨b, 0, none⟩) l.length l.length)) w') :
    if Region.wanted o (yielded ops a.tmps) = true then Oper.wp Try.prog o a w K Q else E := by
  have hw : Region.wanted o (yielded ops a.tmps) = true := by simp [Region.wanted, hgd]
  rw [if_pos hw]
  obtain ⟨i, hi, hz, hs, hby⟩ := info_parts info3
  refine wp_buildSlice 22 3 l.length _ hop (l.map (Value.int .i64)).toArray i _ Try.underlying22 hi hz (by rw [hs]; omega) (by rw [hs]; omega) ?_ (hK _ _ (intsAt_new w l _ 3 rfl) (bnew w _))
  rw [parts_eval a _ .i64 l (by simp), hs]
  exact Great.fill_flat _ _ (fun v hv => by obtain ⟨n, _, rfl⟩ := List.mem_map.1 hv; rfl) (by simp)
end Go.Proofs.Ytkioejdddmnbmaa
