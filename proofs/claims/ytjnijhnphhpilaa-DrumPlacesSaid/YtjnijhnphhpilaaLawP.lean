/- Walk: the law DrumPlaces. -/
import Derived.Test.YtjnijhnphhpilaaXc
import Derived.Test.YtjnijhnphhpilaaWorks
import Derived.Test.YtjnijhnphhpilaaLawE
namespace Go.Proofs.Ytjnijhnphhpilaa
open Go.RowKit Go.Shelf

set_option maxRecDepth 100000 in
set_option maxHeartbeats 4000000 in
theorem places_law (a : Option Addr) (cap : Nat) (xs : List Int) (w : World) (hx : IntsAt w a xs) (hcap : xs.length ≤ cap) :
    Calls Try.prog 4 #[.slice a xs.length cap] w (TrueP w) := by
  have HI := hid ((Inv.nil w).add hx)
  have Hgr := hid (great_c a xs.length cap)
  clear hx
  by_cases hgr : 50 < xs.length
  · rw [show decide (50 < xs.length) = true from by simpa using hgr] at Hgr
    clear hgr
    go_enter Try.func4, Try.ntmps4
    go_wp2_with fail
    refine (Hgr.out _).mono ?_
    rintro e wx ⟨rfl, rfl⟩
    go_wp2_with fail
    refine (works_c w).mono ?_
    rintro e w1 ⟨rfl, hB⟩
    have HB := hid hB
    clear hB
    go_wp2
    go_ret
    exact ⟨rfl, HB.out⟩
  · rw [show decide (50 < xs.length) = false from by simpa using hgr] at Hgr
    have hb : xs.length ≤ 1000000 := by omega
    obtain ⟨c, hc⟩ : ∃ c, c = checkRow xs := ⟨_, rfl⟩
    obtain ⟨fs, hfs⟩ : ∃ fs, fs = (if checkRow xs = 0 then (rdDrum (rdAll xs)).1 else []) := ⟨_, rfl⟩
    obtain ⟨gs, hgs⟩ : ∃ gs, gs = (if checkRow xs = 0 then (rdDrum (rdAll xs)).2 else []) := ⟨_, rfl⟩
    have hlen : fs.length ≤ 40 ∧ gs.length ≤ 40 := by
      rw [hfs, hgs]
      by_cases h : checkRow xs = 0
      · rw [if_pos h, if_pos h]
        have := rdDrum_len h
        have h2 := pl_le h
        have h3 := (checkRow_zero h).1
        have h4 : (rdAll xs).places = pl xs := rfl
        omega
      · rw [if_neg h, if_neg h]; simp
    have hfin : (c = 0 ∧ (fs.length : Int) = placesR xs ∧ makesR fs gs xs = 0) ∨ (¬ c = 0 ∧ fs.length = 0 ∧ gs.length = 0) := by
      by_cases h : checkRow xs = 0
      · left
        rw [hfs, hgs, if_pos h, if_pos h]
        refine ⟨by rw [hc, h], ?_, rd_makesR h⟩
        rw [(rdDrum_len h).1]
        unfold placesR; rw [if_pos h]
      · right
        rw [hfs, hgs, if_neg h, if_neg h]
        exact ⟨by rw [hc]; exact h, rfl, rfl⟩
    obtain ⟨pr, hpr⟩ : ∃ p, p = placesR xs := ⟨_, rfl⟩
    obtain ⟨cr, hcr⟩ : ∃ p, p = countR xs := ⟨_, rfl⟩
    obtain ⟨pf, hpf⟩ : ∃ p, p = profR xs := ⟨_, rfl⟩
    have hpl : pf.length ≤ 1000000 := by
      rw [hpf]; unfold profR
      split
      · rw [profTo_length]; omega
      · simp
    have H1 := hid fun (w' : World) (h : Below w.heap.size w w') => places_c a cap xs w' ((HI.out.step h).atI 0 rfl) hb
    have H2 := hid fun (w' : World) (h : Below w.heap.size w w') => rPlaces_c a cap xs w' ((HI.out.step h).atI 0 rfl) hb
    have H3 := hid fun (w' : World) (h : Below w.heap.size w w') => profile_c a cap xs w' ((HI.out.step h).atI 0 rfl) hb
    have H4 := hid fun (w' : World) (h : Below w.heap.size w w') => rProfile_c a cap xs w' ((HI.out.step h).atI 0 rfl) hb hcap
    have H5 := hid fun (w' : World) (h : Below w.heap.size w w') => count_c a cap xs w' ((HI.out.step h).atI 0 rfl) hb
    have H6 := hid fun (w' : World) (h : Below w.heap.size w w') => rCount_c a cap xs w' ((HI.out.step h).atI 0 rfl) hb
    have H7 := hid fun (w' : World) (h : Below w.heap.size w w') => shortest_c a cap xs w' ((HI.out.step h).atI 0 rfl) hb
    unfold ShortP at H7
    rw [← hc, ← hpr] at H1 H2
    rw [← hc, ← hpf] at H3 H4
    rw [← hc, ← hcr] at H5 H6
    rw [← hpr] at hfin
    rw [← hfs, ← hgs, ← hc] at H7
    have Hfin := hid hfin; have Hl := hid hlen; have Hpl := hid hpl
    clear hc hfs hgs hpr hcr hpf hlen hfin hpl hgr
    go_enter Try.func4, Try.ntmps4
    go_wp2_with fail
    refine (Hgr.out _).mono ?_
    rintro e wx ⟨rfl, rfl⟩
    go_wp2_with fail
    refine (H1.out _ (Below.refl _ _)).mono ?_
    rintro e w1 ⟨rfl, hB⟩
    have HB1 := hid hB
    clear hB
    go_wp2_with fail
    refine (H2.out _ HB1.out).mono ?_
    rintro e w2 ⟨rfl, hB⟩
    have HB2 := hid (bstep HB1.out hB)
    clear hB HB1
    go_wp2_with fail
    refine (H3.out _ HB2.out).mono ?_
    rintro e w3 ⟨_, rfl, ⟨x1, d1, rfl, hx1, _⟩, hB⟩
    have HB3 := hid (bstep HB2.out hB); have HI3 := hid ((Inv.nil w3).add hx1)
    clear hB HB2 hx1
    go_wp2_with fail
    refine (H4.out _ HB3.out).mono ?_
    rintro e w4 ⟨_, rfl, ⟨x2, d2, rfl, hx2, _⟩, hB⟩
    have HB4 := hid (bstep HB3.out hB); have HI4 := hid ((HI3.out.step hB).add hx2)
    clear hB HB3 hx2 HI3
    go_wp2_with fail
    refine (H5.out _ HB4.out).mono ?_
    rintro e w5 ⟨rfl, hB⟩
    have HB5 := hid (bstep HB4.out hB); have HI5 := hid (HI4.out.step hB)
    clear hB HB4 HI4
    go_wp2_with fail
    refine (H6.out _ HB5.out).mono ?_
    rintro e w6 ⟨rfl, hB⟩
    have HB6 := hid (bstep HB5.out hB); have HI6 := hid (HI5.out.step hB)
    clear hB HB5 HI5
    go_wp2_with fail
    refine (H7.out _ HB6.out).mono ?_
    rintro e w7 ⟨_, rfl, hB, _, _, rfl, ⟨x3, d3, rfl, hx3, _⟩, ⟨x4, d4, rfl, hx4, _⟩⟩
    have HI7 := hid (inv1 (((HI6.out.step hB).add hx3).add hx4) (.slice x3 fs.length d3) (.slice x4 gs.length d4))
    have HB7 := hid (bstep (bstep HB6.out hB) (bnew w7 (.cells #[.slice x3 fs.length d3, .slice x4 gs.length d4] 24)))
    clear hB HB6 HI6 hx3 hx4
    go_wp2_with fail
    obtain ⟨bx, hbx⟩ : ∃ b, b = w7.heap.size := ⟨_, rfl⟩
    rw [← hbx] at HI7 ⊢
    generalize w7.alloc (.cells #[.slice x3 fs.length d3, .slice x4 gs.length d4] 24) = w8 at *
    clear hbx
    have cs0 := HI7.out.ceI (b := bx) (k := 0) (v := .slice x3 fs.length d3) 0 rfl
    have cs1 := HI7.out.ceI (b := bx) (k := 1) (v := .slice x4 gs.length d4) 1 rfl
    have HZ := hid (ints_c x1 x2 d1 d2 pf pf w8 (HI7.out.atI 3 rfl) (HI7.out.atI 2 rfl) Hpl.out Hpl.out)
    rw [show decide (pf = pf) = true from by simp] at HZ
    refine HZ.out.mono ?_
    rintro e w9 ⟨rfl, hB⟩
    have ct0 := cstep cs0 hB; have ct1 := cstep cs1 hB
    have HB9 := hid (bstep HB7.out hB); have HI9 := hid (HI7.out.step hB)
    clear hB cs0 cs1 HB7 HI7 HZ
    go_wp2_with fail
    have HW := wide_c x3 x4 fs.length gs.length d3 d4 w9
    rw [show decide (50 < fs.length ∨ 50 < gs.length) = false from by have := Hl.out; simp; omega] at HW
    refine HW.mono ?_
    rintro e w10 ⟨rfl, hB⟩
    have cu0 := cstep ct0 hB; have cu1 := cstep ct1 hB
    have HB10 := hid (bstep HB9.out hB); have HI10 := hid (HI9.out.step hB)
    clear hB ct0 ct1 HB9 HI9 HW
    rcases Hfin.out with ⟨rfl, h1, h2⟩ | ⟨h1, h2, h3⟩
    · have HM := rMakes_c x3 x4 a d3 d4 cap fs gs xs w10 (HI10.out.atI 1 rfl) (HI10.out.atI 0 rfl) ((HI.out.step HB10.out).atI (a := a) (xs := xs) 0 rfl) (by have := Hl.out; omega) (by have := Hl.out; omega) hb
      rw [h2] at HM
      have HM' := hid HM
      subst h1
      clear h2 HM
      go_wp2_with fail
      refine HM'.out.mono ?_
      rintro e w11 ⟨rfl, hB⟩
      have HB11 := hid (bstep HB10.out hB)
      clear hB
      go_wp2_with fail
      refine (works_c w11).mono ?_
      rintro e w12 ⟨rfl, hB⟩
      have HB12 := hid (bstep HB11.out hB)
      clear hB
      go_wp2
      go_ret
      exact ⟨rfl, HB12.out⟩
    · have hcb : (c != 0) = true := by simpa using h1
      have e1 : fs = [] := List.eq_nil_of_length_eq_zero h2
      have e2 : gs = [] := List.eq_nil_of_length_eq_zero h3
      subst e1
      subst e2
      clear h1 h2 h3
      go_wp2_with fail
      refine (works_c w10).mono ?_
      rintro e w12 ⟨rfl, hB⟩
      have HB12 := hid (bstep HB10.out hB)
      clear hB
      go_wp2
      go_ret
      exact ⟨rfl, HB12.out⟩

end Go.Proofs.Ytjnijhnphhpilaa
