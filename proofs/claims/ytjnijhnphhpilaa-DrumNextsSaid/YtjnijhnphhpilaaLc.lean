/- Walks: the laws' own helpers: good; the plays of a valid drum, with their room; a made list of zeros. -/
import Derived.Test.YtjnijhnphhpilaaLawE
namespace Go.Proofs.Ytjnijhnphhpilaa
open Go.RowKit Go.Shelf

/-- a list of zeros -/
def zrow (n : Nat) : List Int := List.replicate n 0
theorem zrow_length (n : Nat) : (zrow n).length = n := List.length_replicate

theorem ownZ (w : World) (n : Nat) (hn : n ≤ 1000000) : OwnI w.heap.size (w.alloc (.cells (intv (zrow n)).toArray 3)) (some ⟨w.heap.size, 0, none⟩) n n (zrow n) :=
  ⟨zrow_length n, by
    have := World.ownsRow_lit (base := w.heap.size) (e := 3) (size := 1) w (intv (zrow n)).toArray n (Nat.le_refl _) (by unfold maxLen; omega) (by simp [intv_length, zrow_length])
    simpa using this⟩

theorem run_make_z (w : World) (n : Nat) (hn : n ≤ 1000000) : (Instr.makeSlice 22 (.int .i64 n) (.int .i64 n)).run Try.prog w = .ok (.slice (some ⟨w.heap.size, 0, none⟩) n n) (w.alloc (.cells (intv (zrow n)).toArray 3)) :=
  run_make_ints w n n (Nat.le_refl _) hn

set_option maxRecDepth 100000 in
set_option maxHeartbeats 1000000 in
theorem runOk_c (a1 a2 : Option Addr) (c1 c2 n : Nat) (f g : List Int) (w : World) (hx : IntsAt w a1 f) (hy : IntsAt w a2 g) (hv : checkDrum f g = 0) (hn : n ≤ 100) :
    Calls Try.prog 18 #[.agg #[.slice a1 f.length c1, .slice a2 g.length c2], .int .i64 n] w fun e w' =>
      ∃ b c, e = .returned (.tuple #[.slice (some ⟨b, 0, none⟩) n c, .int .i64 0]) ∧ IntsAt w' (some ⟨b, 0, none⟩) (playsF f g n) ∧ n ≤ c ∧ Below w.heap.size w w' := by
  have B0 := (Below.refl w.heap.size w).alloc (Nat.le_refl _) (.cells #[.slice a1 f.length c1, .slice a2 g.length c2] 24)
  obtain ⟨hl, hlen, hf, hg⟩ := checkDrum_zero hv
  have H1 := hid (checkDrum_c a1 a2 c1 c2 f g _ (hx.mono B0) (hy.mono B0) (by omega) (by omega))
  rw [hv] at H1
  have HB0 := hid B0; have Hx := hid hx; have Hy := hid hy
  have HHrun := hid fun (w' : World) (h : Below w.heap.size w w') => run_c a1 a2 c1 c2 n f g w' (Hx.out.mono h) (Hy.out.mono h) hl hlen (by omega) hf hg
  have hwi : within 0 100 [(n : Int)] = true := by rw [within1]; simp; omega
  have Hwi := hid hwi
  clear B0 hx hy hl hf hg hv hwi
  go_enter Try.func18, Try.ntmps18
  go_wp2_with fail
  refine H1.out.mono ?_
  rintro e w1 ⟨rfl, hB1⟩
  have c0 := cstep (p := ⟨w.heap.size, 0, none⟩) (v := .slice a1 f.length c1) (by simp) hB1
  have c1' := cstep (p := ⟨w.heap.size, 1, none⟩) (v := .slice a2 g.length c2) (by simp) hB1
  have HB1 := hid (bstep HB0.out hB1); clear hB1
  go_wp2_with fail
  have B1 := (Below.refl w1.heap.size w1).alloc (Nat.le_refl _) (.cells #[.int .i64 n] 3)
  refine (within_c _ _ 0 100 [(n : Int)] _ (intsAt_new w1 [(n : Int)] _ 3 rfl) (by simp)).mono ?_
  rw [Hwi.out]
  rintro e w2 ⟨rfl, hB2⟩
  have c0' := cstep c0 (bstep B1 hB2)
  have c1'' := cstep c1' (bstep B1 hB2)
  have HB2 := hid (bstep HB1.out (bstep B1 hB2)); clear hB2 B1
  go_wp2_with fail
  refine (HHrun.out w2 HB2.out).mono ?_
  rintro e w3 ⟨v, rfl, hv, hB3⟩
  have hs := Sl.of_new hv
  obtain ⟨b, cap, rfl, hown⟩ := hv
  have hcap : n ≤ cap := by
    rcases hown.2 with ⟨h, _⟩ | ⟨g', cap', cur, h, _, _, hnc, _⟩
    · cases h
    · cases h; rw [playsF_length] at hnc; exact hnc
  obtain ⟨a', c', e', hat, _⟩ := hs
  cases e'
  rw [playsF_length]
  have Hat := hid hat; have HB3 := hid hB3
  clear hat hB3 hown
  go_wp2
  go_ret2
  exact ⟨b, cap, rfl, Hat.out, hcap, bstep HB2.out HB3.out⟩

set_option maxRecDepth 100000 in
/-- whether a drum is valid -/
theorem good_c (a1 a2 : Option Addr) (c1 c2 : Nat) (f g : List Int) (w : World) (hx : IntsAt w a1 f) (hy : IntsAt w a2 g) :
    Calls Try.prog 49 #[.agg #[.slice a1 f.length c1, .slice a2 g.length c2]] w fun e w' => e = .returned (.bool (checkDrum f g == 0)) ∧ Below w.heap.size w w' := by
  have HB0 := hid (bnew w (.cells #[.slice a1 f.length c1, .slice a2 g.length c2] 24))
  have HW := hid (wide_c a1 a2 f.length g.length c1 c2 (w.alloc (.cells #[.slice a1 f.length c1, .slice a2 g.length c2] 24)))
  have Hx := hid hx; have Hy := hid hy
  clear hx hy
  by_cases hwd : 50 < f.length ∨ 50 < g.length
  · rw [show decide (50 < f.length ∨ 50 < g.length) = true from by simpa using hwd] at HW
    have hc : (checkDrum f g == 0) = false := by unfold checkDrum; rw [if_pos (by omega)]; rfl
    rw [hc]
    clear hwd hc
    go_enter Try.func49, Try.ntmps49
    go_wp2_with fail
    refine HW.out.mono ?_
    rintro e w1 ⟨rfl, hB⟩
    have HB1 := hid (bstep HB0.out hB)
    clear hB
    go_wp2
    go_ret
    exact ⟨rfl, HB1.out⟩
  · rw [show decide (50 < f.length ∨ 50 < g.length) = false from by simpa using hwd] at HW
    have hfl : f.length ≤ 50 := by omega
    have hgl : g.length ≤ 50 := by omega
    clear hwd
    obtain ⟨c, hc⟩ : ∃ c, c = checkDrum f g := ⟨_, rfl⟩
    rw [← hc]
    have Hc := hid hc
    clear hc
    go_enter Try.func49, Try.ntmps49
    go_wp2_with fail
    refine HW.out.mono ?_
    rintro e w1 ⟨rfl, hB⟩
    have p1 := cstep (p := ⟨w.heap.size, 0, none⟩) (v := .slice a1 f.length c1) (by simp) hB
    have p2 := cstep (p := ⟨w.heap.size, 1, none⟩) (v := .slice a2 g.length c2) (by simp) hB
    have HB1 := hid (bstep HB0.out hB)
    clear hB
    have hq := rCheckDrum_c a1 a2 c1 c2 f g w1 (Hx.out.mono HB1.out) (Hy.out.mono HB1.out) (by omega) (by omega)
    rw [← Hc.out] at hq
    have Hq := hid hq
    clear hq
    go_wp2_with fail
    refine Hq.out.mono ?_
    rintro e w2 ⟨rfl, hB⟩
    have HB2 := hid (bstep HB1.out hB)
    clear hB
    go_wp2
    go_ret
    exact ⟨rfl, HB2.out⟩

end Go.Proofs.Ytjnijhnphhpilaa
