/- Walks: Needed, Wrong of the program. -/
import Derived.Test.YtkioejdddmnbmaaSo
namespace Go.Proofs.Ytkioejdddmnbmaa
open Go.RowKit Go.Shelf
attribute [local go_sem ↓] wp_get wp_get0 wp_getS wp78 wps78 wpa78

theorem sm_short (good : List Int → Bool) : ∀ (t : List Int) (r : Nat) (b : List Int), t.length < r → sm good t r b = none
  | [], 0, _, h => by cases h
  | [], _ + 1, _, _ => rfl
  | x :: t, 0, _, h => by cases h
  | x :: t, r + 1, b, h => by
    have h' : t.length < r := by simpa using h
    rw [sm, sm_short good t r _ h']
    exact sm_short good t (r + 1) b (by omega)
theorem sm_all (good : List Int → Bool) : ∀ (t b : List Int), good (b ++ t) = true → sm good t t.length b = some (b ++ t)
  | [], b, h => by rw [List.append_nil] at h ⊢; show sm good [] 0 b = _; rw [sm_zero, if_pos h]
  | x :: t, b, h => by
    have e : b ++ x :: t = (b ++ [x]) ++ t := by simp
    rw [e] at h ⊢
    show sm good (x :: t) (t.length + 1) b = _
    rw [sm, sm_all good t (b ++ [x]) h]
theorem fw_some (good : List Int → Bool) (seen : List Int) (h : good seen = true) : ∀ (d m : Nat), m ≤ seen.length → seen.length < m + d → ∃ l, fwFrom good seen m d = some l
  | 0, m, h1, h2 => by omega
  | d + 1, m, h1, h2 => by
    rw [fwFrom]
    cases hq : sm good seen m [] with
    | some l => exact ⟨l, rfl⟩
    | none =>
      by_cases e : m = seen.length
      · subst e
        have := sm_all good seen [] (by simpa using h)
        rw [hq] at this; cases this
      · exact fw_some good seen h d (m + 1) (by omega) (by omega)
theorem few_some {good : List Int → Bool} {seen : List Int} (h : good seen = true) : ∃ l, fewM good seen = some l := fw_some good seen h _ 0 (Nat.zero_le _) (by omega)

def pNeededE (facts : Int) (seen : List Int) (rs : List Rl) (x : Int) : Int := if openErr facts seen rs [x] = 0 then (if nth (deskOf seen rs).known x.toNat = 0 then 5 else 0) else openErr facts seen rs [x]
def pNeededL (facts : Int) (seen : List Int) (rs : List Rl) (x : Int) : List Int := if openErr facts seen rs [x] = 0 then (if nth (deskOf seen rs).known x.toNat = 0 then [] else (fewM (goodN rs x.toNat) seen).getD []) else []

set_option maxRecDepth 100000 in
set_option maxHeartbeats 4000000 in
theorem pNeeded_c (facts : Int) (sa : Option Addr) (sc : Nat) (seen : List Int) (ra : Option Addr) (rc : Nat) (rs : List Rl) (x : Int) (w : World) (hc : CaseAt w sa ra seen rs) (hsl : seen.length ≤ 50) :
    Calls Try.prog 38 #[.agg #[.int .i64 facts, .slice sa seen.length sc, .slice ra rs.length rc], .int .i64 x] w (ListC w (pNeededL facts seen rs x) (pNeededE facts seen rs x)) := by
  obtain ⟨W0, hW0⟩ : ∃ W0, W0 = w.alloc (.cells #[.int .i64 facts, .slice sa seen.length sc, .slice ra rs.length rc] 25) := ⟨_, rfl⟩
  have HB0 := hid (show Below w.heap.size w W0 by rw [hW0]; exact bnew w _)
  have hs0 : W0.heap.size = w.heap.size + 1 := by rw [hW0]; simp
  have HS := hid hW0
  obtain ⟨Wf, hWf⟩ : ∃ Wf, Wf = W0.alloc (.cells #[.int .i64 x] 3) := ⟨_, rfl⟩
  have hsf : Wf.heap.size = w.heap.size + 1 + 1 := by rw [hWf]; simp [hs0]
  have hb0f : Below W0.heap.size W0 Wf := by rw [hWf]; exact bnew _ _
  have hf0 : Wf.cell? ⟨w.heap.size + 1, 0, none⟩ = some (.int .i64 x) := by rw [hWf, ← hs0]; simp [go_sem]
  obtain ⟨W1, hW1⟩ : ∃ W1, W1 = Wf.alloc (.cells #[.int .i64 x] 3) := ⟨_, rfl⟩
  have hbf1 : Below Wf.heap.size Wf W1 := by rw [hW1]; exact bnew _ _
  have HB1 := hid (bstep HB0.out (bstep hb0f hbf1))
  have HO := hid (open_c facts sa sc seen ra rc rs (some ⟨w.heap.size + 1 + 1, 0, none⟩) 1 [x] W1 (hc.mono HB1.out) (by have h := at_lit1 Wf x; rw [← hW1, hsf] at h; exact h) (by simp))
  have HSf := hid hWf; have HS1 := hid hW1
  have F0 := hid (cstep hf0 hbf1)
  have HBf := hid (bstep HB0.out hb0f); have HBf1 := hid hbf1
  have hlen1 : ([x] : List Int).length = 1 := rfl
  rw [hlen1] at HO
  unfold ListC pNeededL pNeededE
  by_cases hz : openErr facts seen rs [x] = 0
  · rw [if_pos hz, if_pos hz]
    rw [hz] at HO
    obtain ⟨hz2, hw⟩ := open_zero hz
    obtain ⟨hx0, hx1⟩ := within_one.1 hw
    obtain ⟨⟨f0, f1⟩, _⟩ := case_zero hz2
    obtain ⟨n, rfl⟩ := Int.eq_ofNat_of_zero_le hx0
    have hn12 : n < 12 := by omega
    have hnI : (n : Int) < 12 := by omega
    have Hro := hid (case_rules hz2 hc.il)
    have Hsf := hid (case_seen hz2)
    have Hc := hid hc
    rw [Int.toNat_natCast]
    have hok := deskOf_end Hsf.out Hro.out
    have hgood : nth (deskOf seen rs).known n ≠ 0 → goodN rs n seen = true := fun h => by
      unfold goodN
      have := hok.ok n
      exact decide_eq_true (by omega)
    have Hgood := hid hgood
    obtain ⟨st, hst⟩ : ∃ st, st = deskOf seen rs := ⟨_, rfl⟩
    rw [← hst] at HO Hgood ⊢
    clear hc hz hz2 hW0 hst hw hx0 hx1 f0 f1 hWf hW1 hs0 hsf hb0f hf0 hbf1 hok hgood
    by_cases hk : nth st.known n = 0
    · rw [if_pos hk, if_pos hk]
      go_enter Try.func38, Try.ntmps38
      go_wp2_with fail
      rw [← HS.out, ← HSf.out, ← HS1.out]
      refine HO.out.mono ?_
      rintro e w1 ⟨p, rfl, hB, hp⟩
      obtain ⟨g, bm, oa, oc, rfl, hd⟩ := hp rfl
      have HB2 := hid (bstep HB1.out hB)
      have g0 := cstep F0.out hB
      have hb2 := bnew w1 (.cells #[.pointer (some ⟨g, 0, none⟩)] 73)
      have kk := (hd.kept hb2).kK hn12
      rw [hk] at kk
      have gg := cstep g0 hb2
      have HB3 := hid (bstep HB2.out hb2)
      clear hB hp hd hk g0 hb2
      go_wp2
      go_quiet (fail)
      go_wp2
      go_ret2
      exact ⟨none, 0, rfl, IntsAt.nil _ _, fun _ => rfl, Nat.le_refl _, below_drewN HB3.out _⟩
    · rw [if_neg hk, if_neg hk]
      have hkb : (nth st.known n == 0) = false := by simpa using hk
      obtain ⟨L, hL⟩ := few_some (Hgood.out hk)
      rw [hL, Option.getD_some]
      have HL := hid hL
      have HF := hid fun (bd g : Nat) (w' : World) (h : Below w.heap.size w w') (d0 : w'.cell? ⟨bd, 0, none⟩ = some (.pointer (some ⟨g, 0, none⟩))) (f0 : w'.cell? ⟨w.heap.size + 1, 0, none⟩ = some (.int .i64 n)) (k0 : w'.cell? ⟨g, 0, none⟩ = some (.int .i64 facts)) (k1 : w'.cell? ⟨g, 1, none⟩ = some (.slice sa seen.length sc)) (k2 : w'.cell? ⟨g, 2, none⟩ = some (.slice ra rs.length rc)) =>
        fewest_c g sa sc seen 76 #[.pointer (some ⟨bd, 0, none⟩), .pointer (some ⟨w.heap.size + 1, 0, none⟩)] (goodN rs n) w' (needed1_c bd (w.heap.size + 1) g n facts ra rc rs w' d0 f0 hn12 k0 k2 (Hc.out.r.mono h) Hro.out Hc.out.rl) enters76 (Hc.out.s.mono h) Hsf.out hsl k1
      rw [hL] at HF
      unfold SomeP at HF
      obtain ⟨v, hv⟩ : ∃ v, v = nth st.known n := ⟨_, rfl⟩
      rw [← hv] at hkb
      have Hv := hid hv
      clear hL hk hv
      go_enter Try.func38, Try.ntmps38
      go_wp2_with fail
      rw [← HS.out, ← HSf.out, ← HS1.out]
      refine HO.out.mono ?_
      rintro e w1 ⟨p, rfl, hB, hp⟩
      obtain ⟨g, bm, oa, oc, rfl, hd⟩ := hp rfl
      have HB2 := hid (bstep HB1.out hB)
      have g0 := cstep F0.out hB
      have hb2 := bnew w1 (.cells #[.pointer (some ⟨g, 0, none⟩)] 73)
      have Hd := hid (hd.kept hb2)
      have kk := Hd.out.kK hn12
      rw [← Hv.out] at kk
      have gg := cstep g0 hb2
      have Hgg := hid gg
      have hbd : (w1.alloc (.cells #[.pointer (some ⟨g, 0, none⟩)] 73)).cell? ⟨w1.heap.size, 0, none⟩ = some (.pointer (some ⟨g, 0, none⟩)) := by simp [go_sem]
      have Hbd := hid hbd
      have HB3 := hid (bstep HB2.out hb2)
      clear hB hp hd g0 hb2 hbd
      go_wp2
      go_quiet (fail)
      go_wp2_with fail
      refine (HF.out w1.heap.size g _ (below_drewN HB3.out nq) Hbd.out Hgg.out Hd.out.k0 Hd.out.k1 Hd.out.k2).mono ?_
      rintro e w4 ⟨ao, m, cap, rfl, hB4, hL4⟩
      obtain ⟨h1, h2, h3, h4⟩ := hL4 L rfl
      have HB4 := hid (bstep (below_drewN HB3.out nq) hB4)
      subst h1
      clear hB4 hL4 kk gg
      go_wp2
      go_ret2
      exact ⟨ao, cap, rfl, h2, h3, h4, HB4.out⟩
  · rw [if_neg hz, if_neg hz]
    have hcb := errB hz
    clear hc hz hW0 hWf hW1 hs0 hsf hb0f hf0 hbf1
    generalize openErr facts seen rs [x] = c at *
    go_enter Try.func38, Try.ntmps38
    go_wp2_with fail
    rw [← HS.out, ← HSf.out, ← HS1.out]
    refine HO.out.mono ?_
    rintro e w1 ⟨p, rfl, hB, hp⟩
    have HB2 := hid (bstep HB1.out hB)
    clear hB hp
    go_wp2
    go_ret2
    exact ⟨none, 0, rfl, IntsAt.nil _ _, fun _ => rfl, Nat.le_refl _, bstep HB2.out (bnew _ _)⟩

def pWrongE (facts : Int) (seen : List Int) (rs : List Rl) : Int := if caseErr facts seen rs = 0 then (if fewM (goodW seen rs) seen = none then 5 else 0) else caseErr facts seen rs
def pWrongL (facts : Int) (seen : List Int) (rs : List Rl) : List Int := if caseErr facts seen rs = 0 then (fewM (goodW seen rs) seen).getD [] else []

set_option maxRecDepth 100000 in
set_option maxHeartbeats 4000000 in
theorem pWrong_c (facts : Int) (sa : Option Addr) (sc : Nat) (seen : List Int) (ra : Option Addr) (rc : Nat) (rs : List Rl) (w : World) (hc : CaseAt w sa ra seen rs) (hsl : seen.length ≤ 50) (hsn : sa = none → sc = 0) :
    Calls Try.prog 40 #[.agg #[.int .i64 facts, .slice sa seen.length sc, .slice ra rs.length rc]] w (ListC w (pWrongL facts seen rs) (pWrongE facts seen rs)) := by
  obtain ⟨W0, hW0⟩ : ∃ W0, W0 = w.alloc (.cells #[.int .i64 facts, .slice sa seen.length sc, .slice ra rs.length rc] 25) := ⟨_, rfl⟩
  have HB0 := hid (show Below w.heap.size w W0 by rw [hW0]; exact bnew w _)
  obtain ⟨c0, c1, c2⟩ := caseBox w facts sa ra seen.length sc rs.length rc
  rw [← hW0] at c0 c1 c2
  have C1 := hid c1
  have HS := hid hW0
  have HO := hid (open_c facts sa sc seen ra rc rs none 0 [] W0 (hc.mono HB0.out) (IntsAt.nil _ _) (by simp))
  rw [open_none] at HO
  unfold ListC pWrongL pWrongE
  by_cases hz : caseErr facts seen rs = 0
  · rw [if_pos hz, if_pos hz]
    rw [hz] at HO
    have Hro := hid (case_rules hz hc.il)
    have Hsf := hid (case_seen hz)
    have Hc := hid hc; have Hsn := hid hsn
    obtain ⟨st, hst⟩ : ∃ st, st = deskOf seen rs := ⟨_, rfl⟩
    rw [← hst] at HO
    have HF := hid fun (bd g : Nat) (w' : World) (h : Below w.heap.size w w') (c1 : w'.cell? ⟨w.heap.size, 1, none⟩ = some (.slice sa seen.length sc)) (d0 : w'.cell? ⟨bd, 0, none⟩ = some (.pointer (some ⟨g, 0, none⟩))) (k0 : w'.cell? ⟨g, 0, none⟩ = some (.int .i64 facts)) (k1 : w'.cell? ⟨g, 1, none⟩ = some (.slice sa seen.length sc)) (k2 : w'.cell? ⟨g, 2, none⟩ = some (.slice ra rs.length rc)) =>
      fewest_c g sa sc seen 79 #[.pointer (some ⟨w.heap.size, 0, none⟩), .pointer (some ⟨bd, 0, none⟩)] (goodW seen rs) w' (wrong1_c w.heap.size bd g facts sa sc seen ra rc rs w' c1 d0 k0 k2 (Hc.out.s.mono h) Hsn.out Hsf.out hsl (Hc.out.r.mono h) Hro.out Hc.out.rl) enters79 (Hc.out.s.mono h) Hsf.out hsl k1
    unfold SomeP at HF
    obtain ⟨q, hq⟩ : ∃ q, q = fewM (goodW seen rs) seen := ⟨_, rfl⟩
    rw [← hq] at HF ⊢
    clear hc hz hW0 c0 c1 c2 hst hq hsn
    cases q with
    | none =>
      rw [if_pos rfl]
      go_enter Try.func40, Try.ntmps40
      go_wp2_with fail
      rw [← HS.out]
      refine HO.out.mono ?_
      rintro e w1 ⟨p, rfl, hB, hp⟩
      obtain ⟨g, bm, oa, oc, rfl, hd⟩ := hp rfl
      have HB2 := hid (bstep HB0.out hB)
      have hb2 := bnew w1 (.cells #[.pointer (some ⟨g, 0, none⟩)] 73)
      have Hd := hid (hd.kept hb2)
      have Hc1 := hid (cstep (cstep C1.out hB) hb2)
      have hbd : (w1.alloc (.cells #[.pointer (some ⟨g, 0, none⟩)] 73)).cell? ⟨w1.heap.size, 0, none⟩ = some (.pointer (some ⟨g, 0, none⟩)) := by simp [go_sem]
      have Hbd := hid hbd
      have HB3 := hid (bstep HB2.out hb2)
      clear hB hp hd hb2 hbd
      go_wp2_with fail
      refine (HF.out w1.heap.size g _ HB3.out Hc1.out Hbd.out Hd.out.k0 Hd.out.k1 Hd.out.k2).mono ?_
      rintro e w4 ⟨ao, m, cap, rfl, hB4, hL4⟩
      have HB4 := hid (bstep HB3.out hB4)
      clear hB4 hL4
      go_wp2
      go_ret2
      exact ⟨none, 0, rfl, IntsAt.nil _ _, fun _ => rfl, Nat.le_refl _, HB4.out⟩
    | some L =>
      rw [if_neg (by simp), Option.getD_some]
      go_enter Try.func40, Try.ntmps40
      go_wp2_with fail
      rw [← HS.out]
      refine HO.out.mono ?_
      rintro e w1 ⟨p, rfl, hB, hp⟩
      obtain ⟨g, bm, oa, oc, rfl, hd⟩ := hp rfl
      have HB2 := hid (bstep HB0.out hB)
      have hb2 := bnew w1 (.cells #[.pointer (some ⟨g, 0, none⟩)] 73)
      have Hd := hid (hd.kept hb2)
      have Hc1 := hid (cstep (cstep C1.out hB) hb2)
      have hbd : (w1.alloc (.cells #[.pointer (some ⟨g, 0, none⟩)] 73)).cell? ⟨w1.heap.size, 0, none⟩ = some (.pointer (some ⟨g, 0, none⟩)) := by simp [go_sem]
      have Hbd := hid hbd
      have HB3 := hid (bstep HB2.out hb2)
      clear hB hp hd hb2 hbd
      go_wp2_with fail
      refine (HF.out w1.heap.size g _ HB3.out Hc1.out Hbd.out Hd.out.k0 Hd.out.k1 Hd.out.k2).mono ?_
      rintro e w4 ⟨ao, m, cap, rfl, hB4, hL4⟩
      obtain ⟨h1, h2, h3, h4⟩ := hL4 L rfl
      have HB4 := hid (bstep HB3.out hB4)
      subst h1
      clear hB4 hL4
      go_wp2
      go_ret2
      exact ⟨ao, cap, rfl, h2, h3, h4, HB4.out⟩
  · rw [if_neg hz, if_neg hz]
    have hcb := errB hz
    clear hc hz hW0 c0 c1 c2
    generalize caseErr facts seen rs = c at *
    go_enter Try.func40, Try.ntmps40
    go_wp2_with fail
    rw [← HS.out]
    refine HO.out.mono ?_
    rintro e w1 ⟨p, rfl, hB, hp⟩
    have HB2 := hid (bstep HB0.out hB)
    clear hB hp
    go_wp2
    go_ret2
    exact ⟨none, 0, rfl, IntsAt.nil _ _, fun _ => rfl, Nat.le_refl _, bstep HB2.out (bnew _ _)⟩

end Go.Proofs.Ytkioejdddmnbmaa
