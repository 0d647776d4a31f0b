/- Walks: the law DrumRuns, out of the contract of Works. -/
import Derived.Test.YtjnijhnphhpilaaWg
import Derived.Test.YtjnijhnphhpilaaWorks
import Derived.Deep.RegionHeld3
import Derived.Outline
namespace Go.Proofs.Ytjnijhnphhpilaa
open Go.RowKit Go.Shelf

/-- true is handed back; the world has grown -/
def TrueP (w : World) (e : Ending) (w' : World) : Prop := e = .returned (.bool true) ∧ Below w.heap.size w w'
/-- what the layer's Works does -/
def WorksC : Prop := ∀ w, Calls Try.prog 17 #[] w (TrueP w)

theorem BaI.of {w0 w w' : World} {n : Int} {e : Ending} (hb : Below w0.heap.size w0 w) (h : e = .returned (.int .i64 n) ∧ Below w.heap.size w w') : BackI w0 n e w' := BackI.of h hb
def BackB (w0 : World) (b : Bool) (e : Ending) (w' : World) : Prop := e = .returned (.bool b) ∧ Below w0.heap.size w0 w'
theorem BackB.of {w0 w w' : World} {b : Bool} {e : Ending} (hb : Below w0.heap.size w0 w) (h : e = .returned (.bool b) ∧ Below w.heap.size w w') : BackB w0 b e w' := ⟨h.1, bstep hb h.2⟩
theorem BackB.true {w0 w w' : World} {b : Bool} {e : Ending} (hb : Below w0.heap.size w0 w) (ht : b = Bool.true) (h : e = .returned (.bool b) ∧ Below w.heap.size w w') : BackB w0 Bool.true e w' := ⟨by rw [h.1, ht], bstep hb h.2⟩

set_option maxRecDepth 100000 in
set_option maxHeartbeats 2000000 in
theorem runs_law (hworks : WorksC) (a1 a2 a3 : Option Addr) (c1 c2 c3 : Nat) (plays : Int) (f g row : List Int) (w : World) (hx : IntsAt w a1 f) (hy : IntsAt w a2 g) (hz : IntsAt w a3 row) :
    Calls Try.prog 3 #[.agg #[.slice a1 f.length c1, .slice a2 g.length c2], .int .i64 plays, .slice a3 row.length c3] w (TrueP w) := by
  have HW := hid hworks; have Hx := hid hx; have Hy := hid hy; have Hz := hid hz
  clear hworks hx hy hz
  have HB0 := hid (bnew w (.cells #[.slice a1 f.length c1, .slice a2 g.length c2] 24))
  by_cases hw : 50 < f.length ∨ 50 < g.length
  · have hwd : decide (50 < f.length ∨ 50 < g.length) = true := by simpa using hw
    have Hwd := hid (wide_c a1 a2 f.length g.length c1 c2 (w.alloc (.cells #[.slice a1 f.length c1, .slice a2 g.length c2] 24)))
    rw [hwd] at Hwd
    clear hw hwd
    go_enter Try.func3, Try.ntmps3
    go_wp2_with fail
    refine Hwd.out.mono ?_
    rintro e w1 ⟨rfl, hB⟩
    have HB1 := hid (bstep HB0.out hB)
    clear hB
    go_wp2_with fail
    refine (HW.out _).mono ?_
    rintro e w2 ⟨rfl, hB⟩
    have HB2 := hid (bstep HB1.out hB)
    clear hB
    go_wp2
    go_ret
    exact ⟨rfl, HB2.out⟩
  · have hwd : decide (50 < f.length ∨ 50 < g.length) = false := by simpa using hw
    have Hwd := hid (wide_c a1 a2 f.length g.length c1 c2 (w.alloc (.cells #[.slice a1 f.length c1, .slice a2 g.length c2] 24)))
    rw [hwd] at Hwd
    have hfl : f.length ≤ 50 := by omega
    have hgl : g.length ≤ 50 := by omega
    clear hw hwd
    by_cases hgr : 50 < row.length
    · have hgd : decide (50 < row.length) = true := by simpa using hgr
      have Hgr := hid (great_c a3 row.length c3)
      rw [hgd] at Hgr
      clear hgr hgd
      go_enter Try.func3, Try.ntmps3
      go_wp2_with fail
      refine Hwd.out.mono ?_
      rintro e w1 ⟨rfl, hB⟩
      have HB1 := hid (bstep HB0.out hB)
      clear hB
      go_wp2_with fail
      refine (Hgr.out _).mono ?_
      rintro e wx ⟨rfl, rfl⟩
      go_wp2_with fail
      refine (HW.out _).mono ?_
      rintro e w2 ⟨rfl, hB⟩
      have HB2 := hid (bstep HB1.out hB)
      clear hB
      go_wp2
      go_ret
      exact ⟨rfl, HB2.out⟩
    · have hgd : decide (50 < row.length) = false := by simpa using hgr
      have Hgr := hid (great_c a3 row.length c3)
      rw [hgd] at Hgr
      have hrl : row.length ≤ 50 := by omega
      clear hgr hgd
      go_enter Try.func3, Try.ntmps3
      go_wp2_with fail
      refine Hwd.out.mono ?_
      rintro e w1 ⟨rfl, hB⟩
      have p1 := cstep (p := ⟨w.heap.size, 0, none⟩) (v := .slice a1 f.length c1) (by simp) hB
      have p2 := cstep (p := ⟨w.heap.size, 1, none⟩) (v := .slice a2 g.length c2) (by simp) hB
      have HB1 := hid (bstep HB0.out hB)
      clear hB
      go_wp2_with fail
      refine (Hgr.out _).mono ?_
      rintro e wx ⟨rfl, rfl⟩
      go_wp2_with fail
      refine (Run_c a1 a2 c1 c2 plays f g w1 (Hx.out.mono HB1.out) (Hy.out.mono HB1.out) (by omega) (by omega)).mono ?_
      rintro e w2 ⟨_, rfl, ⟨b1, d1, rfl, hs1, _⟩, hB⟩
      have p1 := cstep p1 hB
      have p2 := cstep p2 hB
      have HB2 := hid (bstep HB1.out hB); have S1 := hid hs1
      clear hB hs1 HB1
      go_wp2_with fail
      refine (rRun_c a1 a2 c1 c2 plays f g w2 (Hx.out.mono HB2.out) (Hy.out.mono HB2.out) (by omega) (by omega)).mono ?_
      rintro e w3 ⟨_, rfl, ⟨b2, d2, rfl, hs2, _⟩, hB⟩
      have p1 := cstep p1 hB
      have p2 := cstep p2 hB
      have HB3 := hid (bstep HB2.out hB); have S2 := hid hs2; have S1 := hid (S1.out.mono hB)
      clear hB hs2 HB2
      obtain ⟨xs, hxs⟩ : ∃ xs, xs = (runR f g plays).1 := ⟨_, rfl⟩
      obtain ⟨er, her⟩ : ∃ er, er = (runR f g plays).2 := ⟨_, rfl⟩
      have hxl : xs.length ≤ 1000000 := by
        rw [hxs]; unfold runR; split
        · simp
        · split
          · simp only [playsF_length]; omega
          · simp
      rw [← hxs] at S1 S2 ⊢
      rw [← her]
      clear hxs her
      have Q1 := hid fun (w' : World) (hb : Below w3.heap.size w3 w') => (checkDrum_c a1 a2 c1 c2 f g w' ((Hx.out.mono HB3.out).mono hb) ((Hy.out.mono HB3.out).mono hb) (by omega) (by omega)).mono (fun _ _ h => BaI.of hb h)
      have Q2 := hid fun (w' : World) (hb : Below w3.heap.size w3 w') => (rCheckDrum_c a1 a2 c1 c2 f g w' ((Hx.out.mono HB3.out).mono hb) ((Hy.out.mono HB3.out).mono hb) (by omega) (by omega)).mono (fun _ _ h => BaI.of hb h)
      have Q3 := hid fun (w' : World) (hb : Below w3.heap.size w3 w') => (checkRow_c a3 c3 row w' ((Hz.out.mono HB3.out).mono hb) (by omega)).mono (fun _ _ h => BaI.of hb h)
      have Q4 := hid fun (w' : World) (hb : Below w3.heap.size w3 w') => rCheckRow_c a3 c3 row w' ((Hz.out.mono HB3.out).mono hb) (by omega)
      have Q5 := hid fun (w' : World) (hb : Below w3.heap.size w3 w') => (ints_c b1 b2 d1 d2 xs xs w' (S1.out.mono hb) (S2.out.mono hb) hxl hxl).mono (fun _ _ h => BackB.true hb (by simp) h)
      have Q6 := hid fun (w' : World) (hb : Below w3.heap.size w3 w') => (makes_c a1 a2 a3 c1 c2 c3 f g row w' ((Hx.out.mono HB3.out).mono hb) ((Hy.out.mono HB3.out).mono hb) ((Hz.out.mono HB3.out).mono hb) (by omega) (by omega) (by omega)).mono (fun _ _ h => BaI.of hb h)
      have Q7 := hid fun (w' : World) (hb : Below w3.heap.size w3 w') => (rMakes_c a1 a2 a3 c1 c2 c3 f g row w' ((Hx.out.mono HB3.out).mono hb) ((Hy.out.mono HB3.out).mono hb) ((Hz.out.mono HB3.out).mono hb) (by omega) (by omega) (by omega)).mono (fun _ _ h => BaI.of hb h)
      have Q8 := hid fun (w' : World) (hb : Below w3.heap.size w3 w') => (HW.out w').mono (fun _ _ h => BackB.of hb h)
      obtain ⟨e1, he1⟩ : ∃ e, e = checkDrum f g := ⟨_, rfl⟩
      obtain ⟨e2, he2⟩ : ∃ e, e = checkRow row := ⟨_, rfl⟩
      obtain ⟨e3, he3⟩ : ∃ e, e = makesR f g row := ⟨_, rfl⟩
      rw [← he1] at Q1 Q2
      rw [← he2] at Q3 Q4
      rw [← he3] at Q6 Q7
      clear he1 he2 he3 hfl hgl hrl hxl S1 S2
      go_wp2_with fail
      go_region_held3 (fun w' => w'.cell? ⟨w.heap.size, 0, none⟩ = some (.slice a1 f.length c1) ∧ w'.cell? ⟨w.heap.size, 1, none⟩ = some (.slice a2 g.length c2))
        (first | go_keep | exact ⟨cstep p1 (by assumption), cstep p2 (by assumption)⟩)
        (first
        | (go_at_call 20; ((with_reducible refine (Q1.out _ (by first | exact Below.refl _ _ | exact (Below.refl _ _).drew | assumption | (refine Below.drew ?_; assumption))).mono ?_)); rintro e wq20 ⟨rfl, hB20⟩)
        | (go_at_call 21; ((with_reducible refine (Q2.out _ (by first | exact Below.refl _ _ | exact (Below.refl _ _).drew | assumption | (refine Below.drew ?_; assumption))).mono ?_)); rintro e wq21 ⟨rfl, hB21⟩)
        | (go_at_call 22; ((with_reducible refine (Q3.out _ (by first | exact Below.refl _ _ | exact (Below.refl _ _).drew | assumption | (refine Below.drew ?_; assumption))).mono ?_)); rintro e wq22 ⟨rfl, hB22⟩)
        | (go_at_call 23; ((with_reducible refine (Q4.out _ (by first | exact Below.refl _ _ | exact (Below.refl _ _).drew | assumption | (refine Below.drew ?_; assumption))).mono ?_)); rintro e wq ⟨rfl, rfl⟩)
        | (go_at_call 24; ((with_reducible refine (Q5.out _ (by first | exact Below.refl _ _ | exact (Below.refl _ _).drew | assumption | (refine Below.drew ?_; assumption))).mono ?_)); rintro e wq24 ⟨rfl, hB24⟩)
        | (go_at_call 25; ((with_reducible refine (Q6.out _ (by first | exact Below.refl _ _ | exact (Below.refl _ _).drew | assumption | (refine Below.drew ?_; assumption))).mono ?_)); rintro e wq25 ⟨rfl, hB25⟩)
        | (go_at_call 26; ((with_reducible refine (Q7.out _ (by first | exact Below.refl _ _ | exact (Below.refl _ _).drew | assumption | (refine Below.drew ?_; assumption))).mono ?_)); rintro e wq26 ⟨rfl, hB26⟩)
        | (go_at_call 17; ((with_reducible refine (Q8.out _ (by first | exact Below.refl _ _ | exact (Below.refl _ _).drew | assumption | (refine Below.drew ?_; assumption))).mono ?_)); rintro e wq17 ⟨rfl, hB17⟩))
      go_wp2
      go_ret
      exact ⟨rfl, bstep HB3.out hB17⟩

end Go.Proofs.Ytjnijhnphhpilaa
