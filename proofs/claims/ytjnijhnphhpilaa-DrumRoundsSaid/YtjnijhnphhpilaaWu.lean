/- Walk of the reference: Round. -/
import Derived.Test.YtjnijhnphhpilaaWt
namespace Go.Proofs.Ytjnijhnphhpilaa
open Go.RowKit Go.Shelf

set_option maxRecDepth 100000 in
set_option maxHeartbeats 1000000 in
theorem rRound_c (a1 a2 : Option Addr) (c1 c2 : Nat) (f g : List Int) (w : World) (hx : IntsAt w a1 f) (hy : IntsAt w a2 g) (hb : f.length ≤ 1000000) (hb2 : g.length ≤ 1000000) :
    Calls Try.prog 42 #[.agg #[.slice a1 f.length c1, .slice a2 g.length c2]] w (RoundP w f g) := by
  have B0 := (Below.refl w.heap.size w).alloc (Nat.le_refl _) (.cells #[.slice a1 f.length c1, .slice a2 g.length c2] 24)
  have HB0 := hid B0; have Hx := hid hx; have Hy := hid hy
  have H1 := hid fun (w' : World) (h : Below w.heap.size w w') => rCheckDrum_c a1 a2 c1 c2 f g w' (Hx.out.mono h) (Hy.out.mono h) hb hb2
  clear B0 hx hy
  by_cases hc : checkDrum f g = 0
  · rw [hc] at H1
    obtain ⟨hl, hlen, hf, hg⟩ := checkDrum_zero hc
    have Hc := hid hc; have Hl := hid hl; have Hf := hid hf; have Hg := hid hg
    clear hl hf hg hc
    by_cases h12 : f.length ≤ 12
    · have HHrun := hid fun (w' : World) (h : Below w.heap.size w w') => roundOf_c a1 a2 c1 c2 f g w' (Hx.out.mono h) (Hy.out.mono h) Hl.out (by have := Hl.out; omega) Hf.out Hg.out
      go_enter Try.func42, Try.ntmps42
      go_wp2_with fail
      refine (H1.out _ HB0.out).mono ?_
      rintro e w1 ⟨rfl, hB1⟩
      have c0 := cstep (p := ⟨w.heap.size, 0, none⟩) (v := .slice a1 f.length c1) (by simp) hB1
      have c1' := cstep (p := ⟨w.heap.size, 1, none⟩) (v := .slice a2 g.length c2) (by simp) hB1
      have HB1 := hid (bstep HB0.out hB1); clear hB1
      go_wp2_with fail
      refine (HHrun.out w1 HB1.out).mono ?_
      rintro e w2 ⟨i, r, rfl, ht, hB2⟩
      have Ht := hid ht; have HB2 := hid (bstep HB1.out hB2)
      clear ht hB2
      go_wp2
      go_ret3
      exact ⟨i, r, 0, rfl, .inr (.inr ⟨Hc.out, h12, rfl, i, r, rfl, rfl, Ht.out⟩), HB2.out⟩
    · go_enter Try.func42, Try.ntmps42
      go_wp2_with fail
      refine (H1.out _ HB0.out).mono ?_
      rintro e w1 ⟨rfl, hB1⟩
      have c0 := cstep (p := ⟨w.heap.size, 0, none⟩) (v := .slice a1 f.length c1) (by simp) hB1
      have c1' := cstep (p := ⟨w.heap.size, 1, none⟩) (v := .slice a2 g.length c2) (by simp) hB1
      have HB1 := hid (bstep HB0.out hB1); clear hB1
      go_wp2
      go_ret3
      exact ⟨0, 0, 6, rfl, .inr (.inl ⟨Hc.out, by omega, rfl, rfl, rfl⟩), HB1.out⟩
  · have hcb : (checkDrum f g != 0) = true := by simpa using hc
    have Hc := hid hc
    clear hc
    obtain ⟨c, hcc⟩ : ∃ c, c = checkDrum f g := ⟨_, rfl⟩
    rw [← hcc] at H1 hcb
    have Hcc := hid hcc
    clear hcc
    go_enter Try.func42, Try.ntmps42
    go_wp2_with fail
    refine (H1.out _ HB0.out).mono ?_
    rintro e w1 ⟨rfl, hB1⟩
    have c0 := cstep (p := ⟨w.heap.size, 0, none⟩) (v := .slice a1 f.length c1) (by simp) hB1
    have c1' := cstep (p := ⟨w.heap.size, 1, none⟩) (v := .slice a2 g.length c2) (by simp) hB1
    have HB1 := hid (bstep HB0.out hB1); clear hB1
    go_wp2_with fail
    refine (H1.out _ HB1.out).mono ?_
    rintro e w2 ⟨rfl, hB2⟩
    have HB2 := hid (bstep HB1.out hB2); clear hB2
    go_wp2
    go_ret3
    exact ⟨0, 0, c, rfl, .inl ⟨Hc.out, rfl, rfl, Hcc.out⟩, HB2.out⟩

end Go.Proofs.Ytjnijhnphhpilaa
