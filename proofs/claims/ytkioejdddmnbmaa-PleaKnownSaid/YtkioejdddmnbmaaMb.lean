/- Walks: isTruth and its closures, find. -/
import Derived.Test.YtkioejdddmnbmaaMa
import Derived.Laws.EntriesVeiled
import Derived.Deep.RegionWith
import Derived.Laws.ResultCell
import Derived.Laws.Rows
namespace Go.Proofs.Ytkioejdddmnbmaa
open Go.RowKit Go.Shelf
attribute [local go_sem ↓] wp_get wp_get0 wp_getS wp78 wps78 wpa78

theorem ret60 {fn : Func} {p u : Tmp} (h : fn.results = #[.cell p 60, .tmp u]) (tmps : Array Value) (w : World) (g : Nat) (x y : Value) (hp : tmps.getD p undef = .pointer (some ⟨g, 0, none⟩))
    (hg : w.heap[g]? = some (.cells #[x, y] 60 (0, 0))) : (results fn tmps).run Try.prog w = .ok (.tuple #[.agg #[x, y], tmps.getD u undef]) w := by
  rw [results_cell_tmp h, hp]
  simp [asAddr, run_loadVar_row w g 60 60 #[x, y] (0, 0) _ hg Try.underlying60 rfl (by kernel_rfl), Result.andThen]
theorem set60 {w : World} {g : Nat} {x y : Value} (hg : w.heap[g]? = some (.cells #[x, y] 60 (0, 0))) (v1 v2 : Value) :
    ((w.setCell ⟨g, 0, none⟩ v1).setCell ⟨g, 1, none⟩ v2).heap[g]? = some (.cells #[v1, v2] 60 (0, 0)) :=
  heap_setCell_same _ g 1 _ 60 v2 (heap_setCell_same w g 0 _ 60 v1 hg)

/-- marks in a block of their own -/
def MarksAt (w : World) (g : Nat) (m : List Int) : Prop := m.length = 12 ∧ w.heap[g]? = some (.cells (intv m).toArray 78 (0, 0))
theorem MarksAt.mono {w w' : World} {g : Nat} {m : List Int} (h : MarksAt w g m) (hB : Below w.heap.size w w') : MarksAt w' g m :=
  ⟨h.1, (hB.block g (Array.getElem?_eq_some_iff.1 h.2).1).trans h.2⟩
theorem MarksAt.ok {w : World} {g : Nat} {m : List Int} (h : MarksAt w g m) : partOk w g 0 12 = true := partOk_of h.2 (by simp [intv_length, h.1])
theorem MarksAt.part {w : World} {g : Nat} {m : List Int} (h : MarksAt w g m) : partAt w g 0 12 = (intv m).toArray := by
  rw [partAt_of h.2]
  apply Array.ext'
  simp only [List.extract_toArray, List.extract_eq_take_drop, List.drop_zero, Nat.sub_zero, Nat.zero_add]
  rw [List.take_of_length_le (by rw [intv_length, h.1]; omega)]

def keptM (m : List Int) (r : Rl) : Bool := !hasM m r.1 || (decide (0 ≤ r.2) && hasM m [r.2])

theorem factsOk_one {x : Int} (h0 : 0 ≤ x) (h1 : x < 12) : factsOk [x] := fun k hk => by
  have : k = 0 := by simp at hk; omega
  subst this
  exact ⟨h0, h1⟩

set_option maxRecDepth 100000 in
set_option maxHeartbeats 2000000 in
theorem kept_c (g : Nat) (a : Option Addr) (cap : Nat) (m : List Int) (r : Rl) (w : World) (hx : IntsAt w a r.1) (hl : r.1.length ≤ 1000000) (hm : MarksAt w g m) (hf : factsOk r.1) (hth : r.2 < 12) :
    Calls Try.prog 89 #[.agg #[.slice a r.1.length cap, .int .i64 r.2], .pointer (some ⟨g, 0, none⟩)] w (TellB w (keptM m r)) := by
  have HB0 := hid (bnew w (.cells #[.slice a r.1.length cap, .int .i64 r.2] 60))
  have Hm := hid hm
  have H1 := hid fun (w' : World) (h : Below w.heap.size w w') => has_c a cap m r.1 w' (hx.mono h) hl hm.1 hf
  have H2 := hid fun (h0 : 0 ≤ r.2) (w' : World) => has_c (some ⟨w'.heap.size, 0, none⟩) 1 m [r.2] (w'.alloc (.cells #[.int .i64 r.2] 3)) (at_lit1 w' r.2) (by simp) hm.1 (factsOk_one h0 hth)
  have hk : keptM m r = (!hasM m r.1 || (decide (0 ≤ r.2) && hasM m [r.2])) := rfl
  rw [hk]
  unfold TellB
  obtain ⟨th, hthe⟩ : ∃ t, t = r.2 := ⟨_, rfl⟩
  obtain ⟨n, hn⟩ : ∃ n, n = r.1.length := ⟨_, rfl⟩
  obtain ⟨v1, hv1⟩ : ∃ v, v = hasM m r.1 := ⟨_, rfl⟩
  obtain ⟨v2, hv2⟩ : ∃ v, v = hasM m [r.2] := ⟨_, rfl⟩
  obtain ⟨V, hV⟩ : ∃ V, V = (intv m).toArray := ⟨_, rfl⟩
  rw [← hv1, ← hv2, ← hthe, ← hn]
  rw [← hn, ← hv1, ← hV] at H1
  rw [← hv2, ← hthe, ← hV] at H2
  rw [← hthe, ← hn] at HB0
  have HV := hid hV
  clear hx hl hm hf hth hk hv1 hv2 hthe hn hV
  have o0 := (Hm.out.mono HB0.out).ok
  have p0 := (Hm.out.mono HB0.out).part
  rw [← HV.out] at p0
  cases v1 with
  | false =>
    go_enter Try.func89, Try.ntmps89
    go_wp2_with fail
    refine (H1.out _ HB0.out).mono ?_
    rintro e w1 ⟨rfl, hB⟩
    have HB1 := hid (bstep HB0.out hB)
    clear hB o0 p0
    go_wp2
    go_ret
    exact ⟨rfl, HB1.out⟩
  | true =>
    by_cases h0 : 0 ≤ th
    · rw [decide_eq_true h0]
      have H3 := hid (H2.out h0)
      go_enter Try.func89, Try.ntmps89
      go_wp2_with fail
      refine (H1.out _ HB0.out).mono ?_
      rintro e w1 ⟨rfl, hB⟩
      have HB1 := hid (bstep HB0.out hB)
      have q1 := cstep (p := ⟨w.heap.size, 1, none⟩) (v := .int .i64 th) (by simp [go_sem]) hB
      have Hm1 := hid (Hm.out.mono HB1.out)
      have Hm2 := hid (Hm1.out.mono (bnew w1 (.cells #[.int .i64 th] 3)))
      have o1 := Hm1.out.ok; have p1 := Hm1.out.part; have o2 := Hm2.out.ok; have p2 := Hm2.out.part
      rw [← HV.out] at p1 p2
      clear hB o0 p0
      go_wp2_with fail
      refine (H3.out w1).mono ?_
      rintro e w2 ⟨rfl, hB⟩
      have HB2 := hid (bstep HB1.out (bstep (bnew w1 _) hB))
      clear hB o1 p1 o2 p2
      go_wp2
      go_ret
      exact ⟨rfl, HB2.out⟩
    · rw [decide_eq_false h0]
      have hlt : th < 0 := by omega
      go_enter Try.func89, Try.ntmps89
      go_wp2_with fail
      refine (H1.out _ HB0.out).mono ?_
      rintro e w1 ⟨rfl, hB⟩
      have HB1 := hid (bstep HB0.out hB)
      have q1 := cstep (p := ⟨w.heap.size, 1, none⟩) (v := .int .i64 th) (by simp [go_sem]) hB
      clear hB o0 p0
      go_wp2
      go_ret
      exact ⟨rfl, HB1.out⟩


/-- a rule as find hands it back -/
def FindP (w : World) (v : Bool) (e : Ending) (w' : World) : Prop := ∃ (a : Option Addr) (n c : Nat) (th : Int), e = .returned (.tuple #[.agg #[.slice a n c, .int .i64 th], .bool v]) ∧ Below w.heap.size w w'

set_option maxRecDepth 100000 in
set_option maxHeartbeats 2000000 in
theorem find_c (ao : Option Addr) (cap g : Nat) (caps : Array Value) (p : Rl → Bool) (rs : List Rl) (w : World) (hx : RulesAt w ao rs) (hb : rs.length ≤ 1000000)
    (hg : ∀ (i : Nat) (a : Option Addr) (c : Nat) (w' : World), i < rs.length → Below w.heap.size w w' → IntsAt w' a (nthR rs i).1 → Calls Try.prog g (#[.agg #[.slice a (nthR rs i).1.length c, .int .i64 (nthR rs i).2]] ++ caps) w' (TellB w' (p (nthR rs i))))
    (eg : ∀ args w, (callFunc g args).run Try.prog w = .ok (.enter g args) w) :
    Calls Try.prog 90 #[.slice ao rs.length cap, .func (.func g) #[] caps] w (FindP w (rs.any p)) := by
  have Hx := hid hx
  have Hg := hid hg
  clear hx hg
  obtain ⟨W0, hW0⟩ : ∃ W0, W0 = w.alloc (.cells #[.slice none 0 0, .int .i64 0] 60) := ⟨_, rfl⟩
  have HB0 := hid (show Below w.heap.size w W0 from by rw [hW0]; exact bnew w _)
  have Hz := hid (show W0.heap[w.heap.size]? = some (.cells #[.slice none 0 0, .int .i64 0] 60 (0, 0)) from by rw [hW0]; exact heap_alloc_new w _)
  have HS := hid hW0
  clear hW0
  go_enter Try.func90, Try.ntmps90
  go_wp2
  rw [← HS.out]
  go_loopw [11] (fun i wr => ∃ k : Nat, k ≤ rs.length ∧ i = .int .i64 k ∧ (rs.take k).any p = false ∧ Below W0.heap.size W0 wr) (fun i _ => rs.length - (intOf i).toNat)
  case atStart => exact ⟨0, Nat.zero_le _, rfl, rfl, Below.refl _ _⟩
  case round =>
    obtain ⟨k, hk, rfl, hp, hB⟩ := hrel
    obtain ⟨wo, rfl⟩ : ∃ wo : World, wo = wr := ⟨_, rfl⟩
    have Hp := hid hp; have HB := hid hB; clear hp hB
    by_cases hlt : k < rs.length
    · obtain ⟨b, off, a, c, rfl, hra⟩ := (Hx.out.mono (bstep HB0.out HB.out)).at hlt
      have Ht := hid (anyR_take_succ p hlt)
      obtain ⟨th, hth⟩ : ∃ t, t = (nthR rs k).2 := ⟨_, rfl⟩
      obtain ⟨n, hn⟩ : ∃ n, n = (nthR rs k).1.length := ⟨_, rfl⟩
      have hk2 := Hg.out k a c (wo.alloc (.cells #[.slice a n c, .int .i64 th] 60)) hlt (bstep HB0.out (bstep HB.out (bnew wo _))) (hra.at'.mono (bnew wo _))
      have q0 := hra.cI
      have q1 := hra.cT
      rw [← hth, ← hn] at hk2
      rw [← hn] at q0
      rw [← hth] at q1
      have Hk2 := hid hk2
      clear hk2 hra hth hn
      cases hpk : p (nthR rs k) with
      | false =>
        have Hpk := hid hpk; clear hpk
        go_wp2_with fail
        refine Hk2.out.mono ?_
        rintro e w' ⟨rfl, hB⟩
        rw [Hpk.out]
        have HB1 := hid (bstep HB.out (bstep (bnew wo _) hB))
        clear hB
        go_wp2
        go_roundw
        case rel => exact ⟨k + 1, by omega, by go_num, by rw [Ht.out, Hp.out, Hpk.out]; rfl, HB1.out⟩
        case measure => simp [intOf]; omega
      | true =>
        have Hpk := hid hpk; clear hpk
        go_wp2_with fail
        refine Hk2.out.mono ?_
        rintro e w' ⟨rfl, hB⟩
        rw [Hpk.out]
        have r0 := cstep (p := ⟨wo.heap.size, 0, none⟩) (v := .slice a n c) (by simp [go_sem]) hB
        have r1 := cstep (p := ⟨wo.heap.size, 1, none⟩) (v := .int .i64 th) (by simp [go_sem]) hB
        have HB1 := hid (bstep HB.out (bstep (bnew wo _) hB))
        have hz := (HB1.out.block w.heap.size (Array.getElem?_eq_some_iff.1 Hz.out).1).trans Hz.out
        have z0 := cell_of_row w' w.heap.size 0 _ _ _ hz
        have z1 := cell_of_row w' w.heap.size 1 _ _ _ hz
        simp at z0 z1
        have f0 : ∀ j, w'.frozen? ⟨w.heap.size, j, none⟩ = false := fun j => frozen_of_row _ _ _ _ _ hz
        have Hz2 := hid hz
        clear hB hz
        have hany : rs.any p = true := List.any_eq_true.2 ⟨_, nthR_mem hlt, Hpk.out⟩
        have Hany := hid hany
        clear hany
        go_wp2
        refine bodyPost_ret (ret60 rfl _ _ w.heap.size _ _ rfl (set60 Hz2.out _ _)) rfl ?_
        exact ⟨a, n, c, th, by rw [Hany.out]; rfl, ((HB0.out.trans (HB1.out.mono HB0.out.size)).setCell (Nat.le_refl _) _).setCell (Nat.le_refl _) _⟩
    · obtain rfl : k = rs.length := by omega
      have hz := (HB.out.block w.heap.size (Array.getElem?_eq_some_iff.1 Hz.out).1).trans Hz.out
      have hz2 : (wo.alloc (.cells #[.slice none 0 0, .int .i64 0] 60)).heap[w.heap.size]? = some (.cells #[.slice none 0 0, .int .i64 0] 60 (0, 0)) := ((bnew wo (.cells #[.slice none 0 0, .int .i64 0] 60)).block w.heap.size (Array.getElem?_eq_some_iff.1 hz).1).trans hz
      have z0 := cell_of_row _ w.heap.size 0 _ _ _ hz2
      have z1 := cell_of_row _ w.heap.size 1 _ _ _ hz2
      simp at z0 z1
      have f0 : ∀ j, (wo.alloc (.cells #[.slice none 0 0, .int .i64 0] 60)).frozen? ⟨w.heap.size, j, none⟩ = false := fun j => frozen_of_row _ _ _ _ _ hz2
      have Hz2 := hid hz2
      have HB1 := hid (bstep HB.out (bnew wo (.cells #[.slice none 0 0, .int .i64 0] 60)))
      have hany : rs.any p = false := by
        have hp := Hp.out
        rw [List.take_of_length_le (by omega)] at hp
        exact hp
      have Hany := hid hany
      clear hany hz hz2
      go_wp2
      refine bodyPost_ret (ret60 rfl _ _ w.heap.size _ _ rfl (set60 Hz2.out _ _)) rfl ?_
      exact ⟨none, 0, 0, 0, by rw [Hany.out]; rfl, ((HB0.out.trans (HB1.out.mono HB0.out.size)).setCell (Nat.le_refl _) _).setCell (Nat.le_refl _) _⟩


theorem enters89 : ∀ args w, (callFunc 89 args).run Try.prog w = .ok (.enter 89 args) w := enters_of Try.func89 (by kernel_rfl) rfl
theorem enters91 : ∀ args w, (callFunc 91 args).run Try.prog w = .ok (.enter 91 args) w := enters_of Try.func91 (by kernel_rfl) rfl

set_option maxRecDepth 100000 in
theorem broken_c (gf g : Nat) (a : Option Addr) (cap : Nat) (m : List Int) (r : Rl) (w : World) (hx : IntsAt w a r.1) (hl : r.1.length ≤ 1000000) (hm : MarksAt w g m) (hf : factsOk r.1) (hth : r.2 < 12)
    (hfn : w.cell? ⟨gf, 0, none⟩ = some (.func (.func 89) #[] #[.pointer (some ⟨g, 0, none⟩)])) :
    Calls Try.prog 91 #[.agg #[.slice a r.1.length cap, .int .i64 r.2], .pointer (some ⟨gf, 0, none⟩)] w (TellB w (!keptM m r)) := by
  have HB0 := hid (bnew w (.cells #[.slice a r.1.length cap, .int .i64 r.2] 60))
  have H := hid (kept_c g a cap m r (w.alloc (.cells #[.slice a r.1.length cap, .int .i64 r.2] 60)) (hx.mono HB0.out) hl (hm.mono HB0.out) hf hth)
  have hfn2 := cstep hfn HB0.out
  unfold TellB
  generalize keptM m r = v at *
  generalize r.1.length = n at *
  generalize r.2 = th at *
  clear hx hl hm hf hth
  go_enter Try.func91, Try.ntmps91
  go_wp2_with fail
  refine H.out.mono ?_
  rintro e w1 ⟨rfl, hB⟩
  have HB1 := hid (bstep HB0.out hB)
  clear hB
  go_wp2
  go_ret
  exact ⟨rfl, HB1.out⟩

/-- a list of facts is a truth -/
def isTruthM (seen : List Int) (rs : List Rl) (m : List Int) : Bool := hasM m seen && rs.all (keptM m)

/-- rules of a case's limit -/
def rulesOk (rs : List Rl) : Prop := ∀ i, i < rs.length → factsOk (nthR rs i).1 ∧ (nthR rs i).1.length ≤ 1000000 ∧ -1 ≤ (nthR rs i).2 ∧ (nthR rs i).2 < 12

set_option maxRecDepth 100000 in
set_option maxHeartbeats 2000000 in
theorem isTruth_c (g : Nat) (sa ra : Option Addr) (sc rc : Nat) (m seen : List Int) (rs : List Rl) (w : World) (hs : IntsAt w sa seen) (hr : RulesAt w ra rs) (hsl : seen.length ≤ 1000000) (hrl : rs.length ≤ 1000000)
    (hm : m.length = 12) (hsf : factsOk seen) (hro : rulesOk rs) (c1 : w.cell? ⟨g, 1, none⟩ = some (.slice sa seen.length sc)) (c2 : w.cell? ⟨g, 2, none⟩ = some (.slice ra rs.length rc)) :
    Calls Try.prog 62 #[.pointer (some ⟨g, 0, none⟩), .agg (intv m).toArray] w (TellB w (isTruthM seen rs m)) := by
  obtain ⟨W0, hW0⟩ : ∃ W0, W0 = (w.alloc (.cells (intv m).toArray 78)).alloc (.cells #[.func (.func 89) #[] #[.pointer (some ⟨w.heap.size, 0, none⟩)]] 71) := ⟨_, rfl⟩
  have HB0 := hid (show Below w.heap.size w W0 from by rw [hW0]; exact bstep (bnew w _) (bnew _ _))
  have hm0 : MarksAt W0 w.heap.size m := ⟨hm, by rw [hW0]; exact ((bnew (w.alloc (.cells (intv m).toArray 78)) (.cells #[.func (.func 89) #[] #[.pointer (some ⟨w.heap.size, 0, none⟩)]] 71)).block w.heap.size (by simp)).trans (heap_alloc_new w _)⟩
  have hf0 : W0.cell? ⟨w.heap.size + 1, 0, none⟩ = some (.func (.func 89) #[] #[.pointer (some ⟨w.heap.size, 0, none⟩)]) := by rw [hW0]; simp [go_sem]
  have Hm := hid hm0; have Hf := hid hf0
  have C1 := hid (cstep c1 HB0.out); have C2 := hid (cstep c2 HB0.out)
  have HF := hid (find_c ra rc 91 #[.pointer (some ⟨w.heap.size + 1, 0, none⟩)] (fun r => !keptM m r) rs W0 (hr.mono HB0.out) hrl
    (fun i a c w2 hi hB hat => broken_c (w.heap.size + 1) w.heap.size a c m (nthR rs i) w2 hat (hro i hi).2.1 (Hm.out.mono hB) (hro i hi).1 (hro i hi).2.2.2 (cstep Hf.out hB)) enters91)
  have HH := hid fun (w' : World) (h : Below w.heap.size w w') => has_c sa sc m seen w' (hs.mono h) hsl hm hsf
  have hany : rs.any (fun r => !keptM m r) = !rs.all (keptM m) := by rw [List.not_all_eq_any_not]
  rw [hany] at HF
  have hit : isTruthM seen rs m = (hasM m seen && rs.all (keptM m)) := rfl
  rw [hit]
  unfold TellB
  have HS := hid hW0
  obtain ⟨V, hV⟩ : ∃ V, V = (intv m).toArray := ⟨_, rfl⟩
  rw [← hV] at HH ⊢
  have HV := hid hV
  generalize hasM m seen = v1 at *
  generalize rs.all (keptM m) = v2 at *
  clear hs hr hm hsf hro c1 c2 hm0 hf0 hany hit hW0 hV
  have hS2 : (w.alloc (.cells V 78)).alloc (.cells #[.func (.func 89) #[] #[.pointer (some ⟨w.heap.size, 0, none⟩)]] 71) = W0 := by rw [HS.out, HV.out]
  have HS2 := hid hS2
  clear hS2
  have d2 := C2.out
  rw [← HS2.out] at d2
  go_enter Try.func62, Try.ntmps62
  go_wp2_with fail
  rw [HS2.out]
  refine HF.out.mono ?_
  rintro e w1 ⟨fa, fn, fc, fth, rfl, hB⟩
  have HB1 := hid (bstep hB (bnew w1 (.cells #[.slice fa fn fc, .int .i64 fth] 60)))
  clear hB d2
  have d1 := cstep C1.out HB1.out
  have hmm := Hm.out.mono HB1.out
  have o1 := hmm.ok; have p1 := hmm.part
  rw [← HV.out] at p1
  clear hmm
  have HB2 := hid (bstep HB0.out HB1.out)
  have HHq := hid (fun (w' : World) (hb : Below (w1.alloc (.cells #[.slice fa fn fc, .int .i64 fth] 60)).heap.size (w1.alloc (.cells #[.slice fa fn fc, .int .i64 fth] 60)) w') => HH.out w' (bstep HB2.out hb))
  cases v1 <;> cases v2 <;> (
    go_wp2_with fail
    first
    | go_region_with ((go_at_call 73; (with_reducible refine (HHq.out _ (by first | exact Below.refl _ _ | exact (Below.refl _ _).drew)).mono ?_); rintro e w3 ⟨rfl, hB⟩; have hBl : Below (w1.alloc (.cells #[.slice fa fn fc, .int .i64 fth] 60)).heap.size (w1.alloc (.cells #[.slice fa fn fc, .int .i64 fth] 60)) w3 := by first | exact hB | exact ((Below.refl _ _).drew).trans hB))
    | fail
    all_goals (
      go_wp2
      go_ret
      exact ⟨rfl, bstep HB2.out hBl⟩))

end Go.Proofs.Ytkioejdddmnbmaa
