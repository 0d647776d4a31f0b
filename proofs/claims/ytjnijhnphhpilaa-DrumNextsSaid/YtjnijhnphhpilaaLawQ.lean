/- Walk: the law DrumNexts. -/
import Derived.Test.YtjnijhnphhpilaaXe
import Derived.Test.YtjnijhnphhpilaaWorks
import Derived.Test.YtjnijhnphhpilaaPp
namespace Go.Proofs.Ytjnijhnphhpilaa
open Go.RowKit Go.Shelf

set_option maxRecDepth 100000 in
set_option maxHeartbeats 4000000 in
theorem nexts_law (a a2 : Option Addr) (cap cap2 : Nat) (xs ys : List Int) (next places : Int) (w : World) (hx : IntsAt w a xs) (hn : a = none → cap = 0) (hcap : xs.length ≤ cap) (hy : IntsAt w a2 ys) :
    Calls Try.prog 5 #[.slice a xs.length cap, .int .i64 next, .int .i64 places, .slice a2 ys.length cap2] w (TrueP w) := by
  have HI := hid (((Inv.nil w).add hy).add hx)
  have Hg1 := hid (great_c a xs.length cap); have Hg2 := hid (great_c a2 ys.length cap2)
  have Hnil := hid hn
  clear hx hy hn
  by_cases hg1 : 50 < xs.length
  · rw [show decide (50 < xs.length) = true from by simpa using hg1] at Hg1
    clear hg1
    go_enter Try.func5, Try.ntmps5
    go_wp2_with fail
    refine (Hg1.out _).mono ?_
    rintro e wx ⟨rfl, rfl⟩
    go_wp2_with fail
    refine (works_c w).mono ?_
    rintro e w1 ⟨rfl, hB⟩
    have HB := hid hB
    clear hB
    go_wp2
    go_ret
    exact ⟨rfl, HB.out⟩
  · rw [show decide (50 < xs.length) = false from by simpa using hg1] at Hg1
    by_cases hg2 : 50 < ys.length
    · rw [show decide (50 < ys.length) = true from by simpa using hg2] at Hg2
      clear hg1 hg2
      go_enter Try.func5, Try.ntmps5
      go_wp2_with fail
      refine (Hg1.out _).mono ?_
      rintro e wx ⟨rfl, rfl⟩
      go_wp2_with fail
      refine (Hg2.out _).mono ?_
      rintro e wx ⟨rfl, rfl⟩
      go_wp2_with fail
      refine (works_c w).mono ?_
      rintro e w1 ⟨rfl, hB⟩
      have HB := hid hB
      clear hB
      go_wp2
      go_ret
      exact ⟨rfl, HB.out⟩
    · rw [show decide (50 < ys.length) = false from by simpa using hg2] at Hg2
      have hb : xs.length ≤ 1000000 := by omega
      have hb2 : ys.length ≤ 1000000 := by omega
      obtain ⟨pr, hpr⟩ : ∃ p, p = proofR xs := ⟨_, rfl⟩
      obtain ⟨pe, hpe⟩ : ∃ p, p = proofErr xs := ⟨_, rfl⟩
      obtain ⟨nr, hnr⟩ : ∃ p, p = nextR xs next := ⟨_, rfl⟩
      obtain ⟨ne, hne⟩ : ∃ p, p = nextErr xs next := ⟨_, rfl⟩
      obtain ⟨pc, hpc⟩ : ∃ p, p = proofCheck xs places ys := ⟨_, rfl⟩
      have hfin : (pe = 0 ∧ checkRow xs = 0 ∧ proofCheck xs ((pl xs : Int) - 1) pr = 0 ∧ pr.length ≤ 40) ∨ (¬ pe = 0 ∧ pr = []) := by
        rw [hpe, hpr]
        unfold proofErr proofR
        by_cases h : checkRow xs = 0
        · rw [if_pos h, if_pos h]
          by_cases h0 : (rdAll xs).places = 0
          · right; rw [if_pos h0, if_pos h0]; exact ⟨by decide, rfl⟩
          · left
            rw [if_neg h0, if_neg h0]
            have := rd_proof h (by show 0 < (rdAll xs).places; omega)
            exact ⟨rfl, h, this.1, this.2⟩
        · right; rw [if_neg h, if_neg h]; exact ⟨h, rfl⟩
      have hprl : pr.length ≤ 40 := by
        rcases hfin with ⟨_, _, _, h⟩ | ⟨_, rfl⟩
        · exact h
        · simp
      have hnrl : nr.length ≤ 1000000 := by
        rw [hnr]; unfold nextR
        split
        · rename_i h
          rw [List.length_drop, playsF_length]
          have : next ≤ 100 := by
            unfold nextErr at h
            split at h
            · contradiction
            · split at h
              · cases h
              · rename_i h3; omega
          omega
        · simp
      have H1 := hid fun (w' : World) (h : Below w.heap.size w w') => next_c a cap xs next w' ((HI.out.step h).atI 0 rfl) hb
      have H2 := hid fun (w' : World) (h : Below w.heap.size w w') => rNext_c a cap xs next w' ((HI.out.step h).atI 0 rfl) Hnil.out hcap hb
      have H3 := hid fun (w' : World) (h : Below w.heap.size w w') => proof_c a cap xs w' ((HI.out.step h).atI 0 rfl) hb
      have H4 := hid fun (w' : World) (h : Below w.heap.size w w') => rProofErr_c a cap xs w' ((HI.out.step h).atI 0 rfl) hb
      have H5 := hid fun (w' : World) (h : Below w.heap.size w w') => checkProof_c a a2 cap cap2 places xs ys w' ((HI.out.step h).atI 0 rfl) ((HI.out.step h).atI 1 rfl) hb hb2
      have H6 := hid fun (w' : World) (h : Below w.heap.size w w') => rCheckProof_c a a2 cap cap2 places xs ys w' ((HI.out.step h).atI 0 rfl) ((HI.out.step h).atI 1 rfl) hb hb2
      rw [← hnr, ← hne] at H1 H2
      rw [← hpr, ← hpe] at H3
      rw [← hpe] at H4
      rw [← hpc] at H5 H6
      have Hfin := hid hfin; have Hnrl := hid hnrl
      clear hpr hpe hnr hne hpc hfin hnrl hg1 hg2
      go_enter Try.func5, Try.ntmps5
      go_wp2_with fail
      refine (Hg1.out _).mono ?_
      rintro e wx ⟨rfl, rfl⟩
      go_wp2_with fail
      refine (Hg2.out _).mono ?_
      rintro e wx ⟨rfl, rfl⟩
      go_wp2_with fail
      refine (H1.out _ (Below.refl _ _)).mono ?_
      rintro e w1 ⟨_, rfl, ⟨x1, d1, rfl, hx1, _⟩, hB⟩
      have HB1 := hid hB; have HI1 := hid ((Inv.nil w1).add hx1)
      clear hB hx1
      go_wp2_with fail
      refine (H2.out _ HB1.out).mono ?_
      rintro e w2 ⟨_, rfl, ⟨x2, d2, rfl, hx2, _⟩, hB⟩
      have HB2 := hid (bstep HB1.out hB); have HI2 := hid ((HI1.out.step hB).add hx2)
      clear hB hx2 HB1 HI1
      go_wp2_with fail
      refine (H3.out _ HB2.out).mono ?_
      rintro e w3 ⟨_, rfl, ⟨x3, d3, rfl, hx3, _⟩, hB⟩
      have HB3 := hid (bstep HB2.out hB); have HI3 := hid ((HI2.out.step hB).add hx3)
      clear hB hx3 HB2 HI2
      go_wp2_with fail
      refine (H4.out _ HB3.out).mono ?_
      rintro e w4 ⟨rfl, hB⟩
      have HB4 := hid (bstep HB3.out hB); have HI4 := hid (HI3.out.step hB)
      clear hB HB3 HI3
      have HZ := hid (ints_c x1 x2 d1 d2 nr nr w4 (HI4.out.atI 2 rfl) (HI4.out.atI 1 rfl) Hnrl.out Hnrl.out)
      rw [show decide (nr = nr) = true from by simp] at HZ
      go_wp2_with fail
      refine HZ.out.mono ?_
      rintro e w5 ⟨rfl, hB⟩
      have HB5 := hid (bstep HB4.out hB); have HI5 := hid (HI4.out.step hB)
      clear hB HB4 HI4 HZ
      have Hg3 := hid (great_c x3 pr.length d3 w5)
      rw [show decide (50 < pr.length) = false from by simp; omega] at Hg3
      go_wp2_with fail
      refine Hg3.out.mono ?_
      rintro e wx ⟨rfl, rfl⟩
      clear Hg3
      go_wp2_with fail
      refine (H5.out _ HB5.out).mono ?_
      rintro e w6 ⟨rfl, hB⟩
      have HB6 := hid (bstep HB5.out hB); have HI6 := hid (HI5.out.step hB)
      clear hB HB5 HI5
      go_wp2_with fail
      refine (H6.out _ HB6.out).mono ?_
      rintro e w7 ⟨rfl, hB⟩
      have HB7 := hid (bstep HB6.out hB); have HI7 := hid (HI6.out.step hB)
      clear hB HB6 HI6
      rcases Hfin.out with ⟨rfl, hv, h2, _⟩ | ⟨h1, rfl⟩
      · have HP := hid fun (w' : World) (h : Below w.heap.size w w') => placesOf_c a cap xs w' ((HI.out.step h).atI 0 rfl) hv
        have HC := hid fun (w' : World) (h : Below w7.heap.size w7 w') => rCheckProof_c a x3 cap d3 ((pl xs : Int) - 1) xs pr w' ((HI.out.step (bstep HB7.out h)).atI 0 rfl) ((HI7.out.step h).atI 0 rfl) hb (by omega)
        rw [h2] at HC
        have hp := pl_le hv
        have hl40 := (checkRow_zero hv).1
        obtain ⟨q, hq⟩ : ∃ q, q = pl xs := ⟨_, rfl⟩
        rw [← hq] at HP HC hp
        clear hv h2 hq
        go_wp2_with fail
        refine (HP.out _ HB7.out).mono ?_
        rintro e w8 ⟨rfl, hB⟩
        have HC8 := hid (HC.out w8 hB)
        have HB8 := hid (bstep HB7.out hB)
        clear hB
        go_wp2_with fail
        refine HC8.out.mono ?_
        rintro e w9 ⟨rfl, hB⟩
        have HB9 := hid (bstep HB8.out hB)
        clear hB
        go_wp2_with fail
        refine (works_c w9).mono ?_
        rintro e w10 ⟨rfl, hB⟩
        have HB10 := hid (bstep HB9.out hB)
        clear hB
        go_wp2
        go_ret
        exact ⟨rfl, HB10.out⟩
      · have hcb : (pe != 0) = true := by simpa using h1
        clear h1
        go_wp2_with fail
        refine (works_c w7).mono ?_
        rintro e w10 ⟨rfl, hB⟩
        have HB10 := hid (bstep HB7.out hB)
        clear hB
        go_wp2
        go_ret
        exact ⟨rfl, HB10.out⟩

end Go.Proofs.Ytjnijhnphhpilaa
