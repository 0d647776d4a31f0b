/- Walks: the law DrumSums. -/
import Derived.Test.YtjnijhnphhpilaaLd
namespace Go.Proofs.Ytjnijhnphhpilaa
open Go.RowKit Go.Shelf

theorem xorM_c (a1 a2 : Option Addr) (c1 c2 n1 n2 : Nat) (xs ys : List Int) (w : World) (h1 : xs.length = n1) (h2 : ys.length = n2) (hx : IntsAt w a1 xs) (hy : IntsAt w a2 ys) (hl : n1 ≤ 1000) (hyl : n1 ≤ n2) (hxb : isBits xs = true) (hyb : isBits ys = true) :
    Calls Try.prog 50 #[.slice a1 n1 c1, .slice a2 n2 c2] w (OwnP w (xorL xs ys)) := by
  subst h1; subst h2; exact xor_c a1 a2 c1 c2 xs ys w hx hy hl hyl hxb hyb

theorem intsM_c (a1 a2 : Option Addr) (c1 c2 n1 n2 : Nat) (xs ys : List Int) (w : World) (h1 : xs.length = n1) (h2 : ys.length = n2) (he : xs = ys) (hx : IntsAt w a1 xs) (hy : IntsAt w a2 ys) (hl : xs.length ≤ 1000000) :
    Calls Try.prog 24 #[.slice a1 n1 c1, .slice a2 n2 c2] w fun e w' => e = .returned (.bool true) ∧ Below w.heap.size w w' := by
  subst he; subst h1; subst h2
  exact (ints_c a1 a2 c1 c2 xs xs w hx hy hl hl).mono fun _ _ h => ⟨by rw [h.1]; simp, h.2⟩

theorem k_tog {a1 a2 a3 a4 : Option Addr} {c1 c2 c3 c4 : Nat} {f g f2 g2 : List Int} {w : World} (hd1 : checkDrum f g = 0) (hd2 : checkDrum f2 g2 = 0) (hl : f.length + f2.length ≤ 40)
    (h1 : IntsAt w a1 f) (h2 : IntsAt w a2 g) (h3 : IntsAt w a3 f2) (h4 : IntsAt w a4 g2) :
    Calls Try.prog 43 #[.agg #[.slice a1 f.length c1, .slice a2 g.length c2], .agg #[.slice a3 f2.length c3, .slice a4 g2.length c4]] w
      (RetE w (timesF f f2) (xorL (playsF f g (f.length + f2.length)) (playsF f2 g2 (f.length + f2.length))) 0) := by
  obtain ⟨l1, m1, _, _⟩ := checkDrum_zero hd1
  obtain ⟨l2, m2, _, _⟩ := checkDrum_zero hd2
  have he : togErr f g f2 g2 = 0 := by unfold togErr; rw [if_neg (by simp [hd1]), if_neg (by simp [hd2]), if_neg (by omega)]
  refine (together_c a1 a2 a3 a4 c1 c2 c3 c4 f g f2 g2 w h1 h2 h3 h4 (by omega) (by omega) (by omega) (by omega)).mono fun e w' h => ?_
  obtain ⟨v, rfl, hB, ⟨_, _, rfl, hs1, hs2⟩⟩ := h
  rw [show togFeed f g f2 g2 = timesF f f2 from by unfold togFeed; rw [if_pos he]] at hs1
  rw [show togFirst f g f2 g2 = xorL (playsF f g (f.length + f2.length)) (playsF f2 g2 (f.length + f2.length)) from by
    unfold togFirst; rw [if_pos he]; exact xorTo_xorL _ _ (playsF_length _ _ _)] at hs2
  obtain ⟨b1, d1, rfl, i1, _⟩ := hs1
  obtain ⟨b2, d2, rfl, i2, _⟩ := hs2
  exact ⟨b1, b2, d1, d2, by rw [he], i1, i2, hB⟩

set_option maxRecDepth 100000 in
set_option maxHeartbeats 4000000 in
theorem sums_law (a a1 a2 a3 a4 : Option Addr) (cap c1 c2 c3 c4 : Nat) (xs f g f2 g2 : List Int) (bs : Nat) (w : World) (hx : IntsAt w a xs) (hn : a = none → cap = 0) (hbs : lt64 bs) (hf : IntsAt w a1 f) (hg : IntsAt w a2 g) (hf2 : IntsAt w a3 f2) (hg2 : IntsAt w a4 g2) :
    Calls Try.prog 11 #[.slice a xs.length cap, .int .u64 bs, .agg #[.slice a1 f.length c1, .slice a2 g.length c2], .agg #[.slice a3 f2.length c3, .slice a4 g2.length c4]] w (TrueP w) := by
  obtain ⟨W0, hW0⟩ : ∃ W0, W0 = (w.alloc (.cells #[.slice a1 f.length c1, .slice a2 g.length c2] 24)).alloc (.cells #[.slice a3 f2.length c3, .slice a4 g2.length c4] 24) := ⟨_, rfl⟩
  have hB0 : Below w.heap.size w W0 := by rw [hW0]; exact bstep (bnew w _) (bnew _ _)
  have HI0 := hid (inv1 (inv1 (((((((Inv.nil w).add hg2).add hf2).add hg).add hf).add hx)) (.slice a1 f.length c1) (.slice a2 g.length c2)) (.slice a3 f2.length c3) (.slice a4 g2.length c4))
  rw [← hW0] at HI0
  have e1 : (w.alloc (.cells #[.slice a1 f.length c1, .slice a2 g.length c2] 24)).heap.size = w.heap.size + 1 := by simp
  rw [e1] at HI0
  have HB0 := hid hB0; have HW0 := hid hW0; have Hbs := hid hbs; have Hnil := hid (nilLen hx hn)
  have HF := hid (fine_c a cap xs W0 (HI0.out.atI (a := a) (xs := xs) 0 rfl))
  have HG := hid fun (w' : World) (hb : Below W0.heap.size W0 w') => good_c a1 a2 c1 c2 f g w' ((HI0.out.atI (a := a1) (xs := f) 1 rfl).mono hb) ((HI0.out.atI (a := a2) (xs := g) 2 rfl).mono hb)
  have HH := hid fun (w' : World) (hb : Below W0.heap.size W0 w') => good_c a3 a4 c3 c4 f2 g2 w' ((HI0.out.atI (a := a3) (xs := f2) 3 rfl).mono hb) ((HI0.out.atI (a := a4) (xs := g2) 4 rfl).mono hb)
  clear hW0 hB0 hx hn hf hg hf2 hg2 hbs e1
  have p1 := HI0.out.ceI (b := w.heap.size + 1) (k := 0) (v := .slice a3 f2.length c3) 0 rfl
  have p2 := HI0.out.ceI (b := w.heap.size + 1) (k := 1) (v := .slice a4 g2.length c4) 1 rfl
  have p3 := HI0.out.ceI (b := w.heap.size) (k := 0) (v := .slice a1 f.length c1) 2 rfl
  have p4 := HI0.out.ceI (b := w.heap.size) (k := 1) (v := .slice a2 g.length c2) 3 rfl
  by_cases hv : checkRow xs = 0
  · rw [show (checkRow xs == 0) = true from by simp [hv]] at HF
    by_cases hd : checkDrum f g = 0
    · rw [show (checkDrum f g == 0) = true from by simp [hd]] at HG
      by_cases hd2 : checkDrum f2 g2 = 0
      · rw [show (checkDrum f2 g2 == 0) = true from by simp [hd2]] at HH
        by_cases htot : f.length + f2.length ≤ 40
        · have Hv := hid hv; have Hd := hid hd; have Hd2 := hid hd2
          clear hv hd hd2
          go_enter Try.func11, Try.ntmps11
          go_wp2_with fail
          rw [← HW0.out]
          refine HF.out.mono ?_
          rintro e wx ⟨rfl, rfl⟩
          go_wp2_with fail
          refine (HG.out _ (Below.refl _ _)).mono ?_
          rintro e w1 ⟨rfl, hB⟩
          have p1 := cstep p1 hB
          have p2 := cstep p2 hB
          have p3 := cstep p3 hB
          have p4 := cstep p4 hB
          have HA1 := hid (bstep (Below.refl _ _) hB)
          clear hB
          go_wp2_with fail
          refine (HH.out _ (HA1.out)).mono ?_
          rintro e w2 ⟨rfl, hB⟩
          have p1 := cstep p1 hB
          have p2 := cstep p2 hB
          have p3 := cstep p3 hB
          have p4 := cstep p4 hB
          have HA2 := hid (bstep (HA1.out) hB)
          clear hB
          have hxl := (checkRow_zero Hv.out).1
          have HI2 := hid (HI0.out.step HA2.out); have HB2 := hid (bstep HB0.out HA2.out)
          clear HI0 HB0 HA1 HA2 HG HH HF
          go_wp2_with fail
          refine (bits_c xs.length bs w2 (by omega) Hbs.out).mono ?_
          rintro e w3 ⟨ao, co, rfl, ho, hno, hB⟩
          have HI3 := hid ((HI2.out.step hB).add ho); have HB3 := hid (bstep HB2.out hB)
          clear hB HI2 HB2 ho hno p1 p2 p3 p4
          go_wp2_with fail
          refine (placesL_c a cap xs w3 (HI3.out.atI (a := a) (xs := xs) 1 rfl) Hv.out).mono ?_
          rintro e w4 ⟨rfl, hB⟩
          have HI4 := hid (HI3.out.step hB); have HB4 := hid (bstep HB3.out hB)
          clear hB HI3 HB3
          have Hov := hid (row_valid (xs := bitsL xs.length bs) (by rw [bitsL_length]; omega) (bitsL_bits _ _))
          go_wp2_with fail
          refine (placesL_c ao co (bitsL xs.length bs) w4 (HI4.out.atI (a := ao) (xs := bitsL xs.length bs) 0 rfl) Hov.out).mono ?_
          rintro e w5 ⟨rfl, hB⟩
          have HI5 := hid (HI4.out.step hB); have HB5 := hid (bstep HB4.out hB)
          clear hB HI4 HB4
          go_wp2_with fail
          refine (xor_c a ao cap co xs (bitsL xs.length bs) w5 (HI5.out.atI (a := a) (xs := xs) 1 rfl) (HI5.out.atI (a := ao) (xs := bitsL xs.length bs) 0 rfl) (by omega) (by rw [bitsL_length]; omega) (checkRow_zero Hv.out).2 (bitsL_bits _ _)).mono ?_
          rintro e w6 ⟨az, cz, rfl, hz, hnz, hB⟩
          have HI6 := hid ((HI5.out.step hB).add hz); have HB6 := hid (bstep HB5.out hB)
          clear hB HI5 HB5 hz hnz
          have Hzv := hid (row_valid (xs := xorL xs (bitsL xs.length bs)) (by rw [xorL_length]; omega) (xorL_bits _ _))
          go_wp2_with fail
          refine (placesL_c az cz (xorL xs (bitsL xs.length bs)) w6 (HI6.out.atI (a := az) (xs := xorL xs (bitsL xs.length bs)) 0 rfl) Hzv.out).mono ?_
          rintro e w7 ⟨rfl, hB⟩
          have HI7 := hid (HI6.out.step hB); have HB7 := hid (bstep HB6.out hB)
          clear hB HI6 HB6
          have hpl := pl_xor Hv.out Hov.out (bitsL_length _ _)
          unfold pl at hpl
          obtain ⟨n1, hn1⟩ : ∃ n, n = (rdAll xs).places := ⟨_, rfl⟩
          obtain ⟨n2, hn2⟩ : ∃ n, n = (rdAll (bitsL xs.length bs)).places := ⟨_, rfl⟩
          obtain ⟨n3, hn3⟩ : ∃ n, n = (rdAll (xorL xs (bitsL xs.length bs))).places := ⟨_, rfl⟩
          have hn1l := rdAll_places Hv.out
          have hn2l := rdAll_places Hov.out
          rw [bitsL_length] at hn2l
          rw [← hn1] at hn1l hpl ⊢
          rw [← hn2] at hn2l hpl ⊢
          rw [← hn3] at hpl ⊢
          have q1 : decide ((n1 : Int) + (n2 : Int) < (n3 : Int)) = false := by simp; omega
          have q1' : decide (n1 + n2 < n3) = false := by simp; omega
          clear hn1 hn2 hn3 hpl
          have p1 := HI7.out.ceI (b := w.heap.size + 1) (k := 0) (v := .slice a3 f2.length c3) 0 rfl
          have p2 := HI7.out.ceI (b := w.heap.size + 1) (k := 1) (v := .slice a4 g2.length c4) 1 rfl
          have p3 := HI7.out.ceI (b := w.heap.size) (k := 0) (v := .slice a1 f.length c1) 2 rfl
          have p4 := HI7.out.ceI (b := w.heap.size) (k := 1) (v := .slice a2 g.length c2) 3 rfl
          go_wp2_with fail
          have hT := k_tog (c1 := c1) (c2 := c2) (c3 := c3) (c4 := c4) Hd.out Hd2.out htot (HI7.out.atI (a := a1) (xs := f) 3 rfl) (HI7.out.atI (a := a2) (xs := g) 4 rfl) (HI7.out.atI (a := a3) (xs := f2) 5 rfl) (HI7.out.atI (a := a4) (xs := g2) 6 rfl)
          have hplay := plays_together Hd.out Hd2.out htot (n := 100) (by omega)
          obtain ⟨dl1, _, dbf, dbg⟩ := checkDrum_zero Hd.out
          obtain ⟨dl2, _, dbf2, dbg2⟩ := checkDrum_zero Hd2.out
          have hcomm := timesF_comm dbf dbf2 (by omega)
          have hcomm2 : xorL (playsF f2 g2 (f2.length + f.length)) (playsF f g (f2.length + f.length)) = xorL (playsF f g (f.length + f2.length)) (playsF f2 g2 (f.length + f2.length)) := by
            rw [Nat.add_comm f2.length f.length]; exact xorL_comm (by rw [playsF_length, playsF_length])
          have htl : (timesF f f2).length = f.length + f2.length := timesF_length _ _
          have hgl : (xorL (playsF f g (f.length + f2.length)) (playsF f2 g2 (f.length + f2.length))).length = f.length + f2.length := by rw [xorL_length, playsF_length]
          have htd : checkDrum (timesF f f2) (xorL (playsF f g (f.length + f2.length)) (playsF f2 g2 (f.length + f2.length))) = 0 := checkDrum_of (by rw [htl, hgl]) (by rw [hgl]; exact htot) (timesF_bits _ _) (xorL_bits _ _)
          have hT2 := fun (w' : World) (hb : Below w7.heap.size w7 w') => k_tog (c1 := c3) (c2 := c4) (c3 := c1) (c4 := c2) Hd2.out Hd.out (by omega) ((HI7.out.atI (a := a3) (xs := f2) 5 rfl).mono hb) ((HI7.out.atI (a := a4) (xs := g2) 6 rfl).mono hb) ((HI7.out.atI (a := a1) (xs := f) 3 rfl).mono hb) ((HI7.out.atI (a := a2) (xs := g) 4 rfl).mono hb)
          simp only [hcomm2, ← hcomm] at hT2
          obtain ⟨tf, htf⟩ : ∃ tf, tf = timesF f f2 := ⟨_, rfl⟩
          obtain ⟨tg, htg⟩ : ∃ tg, tg = xorL (playsF f g (f.length + f2.length)) (playsF f2 g2 (f.length + f2.length)) := ⟨_, rfl⟩
          simp only [← htf, ← htg] at hT hT2 hplay htl hgl htd
          have q2 : ((tf.length : Int) != (f.length : Int) + (f2.length : Int)) = false := by simp; omega
          have htl40 : tf.length ≤ 40 := by omega
          have HT2 := hid hT2; have Hplay := hid hplay; have Htd := hid htd; have Htgl := hid (show tg.length = tf.length by omega)
          have HX1 := hid (show isBits (playsF f g 100) = true from playsF_bits (f := f) dbg 100)
          have HX2 := hid (show isBits (playsF f2 g2 100) = true from playsF_bits (f := f2) dbg2 100)
          clear hT2 hplay htd dl1 dbf dbg dl2 dbf2 dbg2 hcomm hcomm2 htl hgl htf htg
          refine hT.mono ?_
          rintro e w8 ⟨t1, t2, d1, d2, rfl, ht1, ht2, hB⟩
          clear hT
          have HS8 := hid hB
          have HI8 := hid (((HI7.out.step hB).add ht1).add ht2); have HB8 := hid (bstep HB7.out hB)
          clear hB HI7 HB7 ht1 ht2 p1 p2 p3 p4
          have HI9 := hid (inv1 HI8.out (.slice t1 tf.length d1) (.slice t2 tg.length d2)); have HB9 := hid (bstep HB8.out (bnew w8 (.cells #[.slice t1 tf.length d1, .slice t2 tg.length d2] 24)))
          have HS9 := hid (bstep HS8.out (bnew w8 (.cells #[.slice t1 tf.length d1, .slice t2 tg.length d2] 24)))
          clear HI8 HB8 HS8
          have p3 := HI9.out.ceI (b := w.heap.size) (k := 0) (v := .slice a1 f.length c1) 4 rfl
          have p4 := HI9.out.ceI (b := w.heap.size) (k := 1) (v := .slice a2 g.length c2) 5 rfl
          go_wp2_with fail
          generalize hWW : w8.alloc (.cells #[.slice t1 tf.length d1, .slice t2 tg.length d2] 24) = w9 at HI9 HB9 HS9 p3 p4 ⊢
          obtain ⟨bt', hbt⟩ : ∃ b, b = w8.heap.size := ⟨_, rfl⟩
          rw [← hbt] at HI9 ⊢
          clear hWW hbt
          refine (runOk_c a1 a2 c1 c2 100 f g w9 (HI9.out.atI (a := a1) (xs := f) 5 rfl) (HI9.out.atI (a := a2) (xs := g) 6 rfl) Hd.out (by omega)).mono ?_
          rintro e w10 ⟨b1, k1, rfl, hr1, _, hB⟩
          have HI10 := hid ((HI9.out.step hB).add hr1); have HB10 := hid (bstep HB9.out hB); have HS10 := hid (bstep HS9.out hB)
          clear hB HI9 HB9 HS9 hr1 p3 p4
          have p1 := HI10.out.ceI (b := w.heap.size + 1) (k := 0) (v := .slice a3 f2.length c3) 2 rfl
          have p2 := HI10.out.ceI (b := w.heap.size + 1) (k := 1) (v := .slice a4 g2.length c4) 3 rfl
          go_wp2_with fail
          refine (runOk_c a3 a4 c3 c4 100 f2 g2 w10 (HI10.out.atI (a := a3) (xs := f2) 8 rfl) (HI10.out.atI (a := a4) (xs := g2) 9 rfl) Hd2.out (by omega)).mono ?_
          rintro e w11 ⟨b2, k2', rfl, hr2, _, hB⟩
          have HI11 := hid ((HI10.out.step hB).add hr2); have HB11 := hid (bstep HB10.out hB); have HS11 := hid (bstep HS10.out hB)
          clear hB HI10 HB10 HS10 hr2 p1 p2
          have p1 := HI11.out.ceI (b := w.heap.size + 1) (k := 0) (v := .slice a3 f2.length c3) 2 rfl
          have p3 := HI11.out.ceI (b := w.heap.size) (k := 0) (v := .slice a1 f.length c1) 4 rfl
          have r1 := HI11.out.ceI (b := bt') (k := 0) (v := .slice t1 tf.length d1) 0 rfl
          have r2 := HI11.out.ceI (b := bt') (k := 1) (v := .slice t2 tg.length d2) 1 rfl
          have hgd := good_c t1 t2 d1 d2 tf tg w11 (HI11.out.atI (a := t1) (xs := tf) 3 rfl) (HI11.out.atI (a := t2) (xs := tg) 2 rfl)
          rw [show (checkDrum tf tg == 0) = true from by rw [Htd.out]; rfl] at hgd
          have Hgd := hid hgd
          clear hgd
          go_wp2_with fail
          refine Hgd.out.mono ?_
          rintro e w12 ⟨rfl, hB⟩
          have HI12 := hid (HI11.out.step hB); have HB12 := hid (bstep HB11.out hB); have HS12 := hid (bstep HS11.out hB)
          have r1 := cstep r1 hB
          have r2 := cstep r2 hB
          clear hB HI11 HB11 HS11 p1 p3 Hgd
          go_wp2_with fail
          refine (runOk_c t1 t2 d1 d2 100 tf tg w12 (HI12.out.atI (a := t1) (xs := tf) 3 rfl) (HI12.out.atI (a := t2) (xs := tg) 2 rfl) Htd.out (by omega)).mono ?_
          rintro e w13 ⟨b3, k3', rfl, hr3, _, hB⟩
          have HI13 := hid ((HI12.out.step hB).add hr3); have HB13 := hid (bstep HB12.out hB); have HS13 := hid (bstep HS12.out hB)
          clear hB HI12 HB12 HS12 hr3 r1 r2
          have p1 := HI13.out.ceI (b := w.heap.size + 1) (k := 0) (v := .slice a3 f2.length c3) 2 rfl
          have p2 := HI13.out.ceI (b := w.heap.size + 1) (k := 1) (v := .slice a4 g2.length c4) 3 rfl
          have p3 := HI13.out.ceI (b := w.heap.size) (k := 0) (v := .slice a1 f.length c1) 4 rfl
          have p4 := HI13.out.ceI (b := w.heap.size) (k := 1) (v := .slice a2 g.length c2) 5 rfl
          go_wp2_with fail
          refine (HT2.out w13 HS13.out).mono ?_
          rintro e w14 ⟨u1, u2, e1, e2, rfl, hu1, hu2, hB⟩
          have HI14 := hid (((HI13.out.step hB).add hu1).add hu2); have HB14 := hid (bstep HB13.out hB)
          clear hB HI13 HB13 HS13 HT2 hu1 hu2 p1 p2 p3 p4
          have HI15 := hid (inv1 HI14.out (.slice u1 tf.length e1) (.slice u2 tg.length e2)); have HB15 := hid (bstep HB14.out (bnew w14 (.cells #[.slice u1 tf.length e1, .slice u2 tg.length e2] 24)))
          clear HI14 HB14
          go_wp2_with fail
          generalize hWW : w14.alloc (.cells #[.slice u1 tf.length e1, .slice u2 tg.length e2] 24) = w15 at HI15 HB15 ⊢
          obtain ⟨bu, hbu⟩ : ∃ b, b = w14.heap.size := ⟨_, rfl⟩
          rw [← hbu] at HI15 ⊢
          clear hWW hbu
          refine (xorM_c (some ⟨b1, 0, none⟩) (some ⟨b2, 0, none⟩) k1 k2' 100 100 (playsF f g 100) (playsF f2 g2 100) w15 (playsF_length _ _ _) (playsF_length _ _ _) (HI15.out.atI (a := some ⟨b1, 0, none⟩) (xs := playsF f g 100) 4 rfl) (HI15.out.atI (a := some ⟨b2, 0, none⟩) (xs := playsF f2 g2 100) 3 rfl) (by omega) (by omega) HX1.out HX2.out).mono ?_
          rintro e w16 ⟨ay, cy, rfl, hy, _, hB⟩
          rw [xorL_length, playsF_length]
          have HI16 := hid ((HI15.out.step hB).add hy); have HB16 := hid (bstep HB15.out hB)
          clear hB HI15 HB15 hy
          go_wp2_with fail
          refine (intsM_c (some ⟨b3, 0, none⟩) ay k3' cy 100 100 (playsF tf tg 100) (xorL (playsF f g 100) (playsF f2 g2 100)) w16 (playsF_length _ _ _) (by rw [xorL_length, playsF_length]) Hplay.out (HI16.out.atI (a := some ⟨b3, 0, none⟩) (xs := playsF tf tg 100) 3 rfl) (HI16.out.atI (a := ay) (xs := xorL (playsF f g 100) (playsF f2 g2 100)) 0 rfl) (by rw [playsF_length]; omega)).mono ?_
          rintro e w17 ⟨rfl, hB⟩
          have HI17 := hid (HI16.out.step hB); have HB17 := hid (bstep HB16.out hB)
          clear hB HI16 HB16
          have r1 := HI17.out.ceI (b := bu) (k := 0) (v := .slice u1 tf.length e1) 0 rfl
          have r2 := HI17.out.ceI (b := bu) (k := 1) (v := .slice u2 tg.length e2) 1 rfl
          have r3 := HI17.out.ceI (b := bt') (k := 0) (v := .slice t1 tf.length d1) 2 rfl
          have r4 := HI17.out.ceI (b := bt') (k := 1) (v := .slice t2 tg.length d2) 3 rfl
          go_wp2_with fail
          refine (k_same (f := tf) (g := tg) (by omega) (by rw [Htgl.out]; omega) (HI17.out.atI (a := u1) (xs := tf) 2 rfl) (HI17.out.atI (a := u2) (xs := tg) 1 rfl) (HI17.out.atI (a := t1) (xs := tf) 7 rfl) (HI17.out.atI (a := t2) (xs := tg) 6 rfl)).mono ?_
          rintro e w18 ⟨rfl, hB⟩
          have HB18 := hid (bstep HB17.out hB)
          clear hB HI17 HB17 r1 r2 r3 r4
          go_wp2_with fail
          refine (works_c w18).mono ?_
          rintro e w19 ⟨rfl, hB⟩
          have HB19 := hid (bstep HB18.out hB)
          clear hB
          go_wp2
          go_ret
          exact ⟨rfl, HB19.out⟩
        · have hq : (40 : Int) < (f.length : Int) + (f2.length : Int) := by omega
          have hfl : f.length ≤ 40 := by have := checkDrum_zero hd; omega
          have hf2l : f2.length ≤ 40 := by have := checkDrum_zero hd2; omega
          clear hv hd hd2 htot
          go_enter Try.func11, Try.ntmps11
          go_wp2_with fail
          rw [← HW0.out]
          refine HF.out.mono ?_
          rintro e wx ⟨rfl, rfl⟩
          go_wp2_with fail
          refine (HG.out _ (Below.refl _ _)).mono ?_
          rintro e w1 ⟨rfl, hB⟩
          have p1 := cstep p1 hB
          have p2 := cstep p2 hB
          have p3 := cstep p3 hB
          have p4 := cstep p4 hB
          have HA1 := hid (bstep (Below.refl _ _) hB)
          clear hB
          go_wp2_with fail
          refine (HH.out _ (HA1.out)).mono ?_
          rintro e w2 ⟨rfl, hB⟩
          have p1 := cstep p1 hB
          have p2 := cstep p2 hB
          have p3 := cstep p3 hB
          have p4 := cstep p4 hB
          have HA2 := hid (bstep (HA1.out) hB)
          clear hB
          have HBX := hid (bstep HB0.out HA2.out)
          go_wp2_with fail
          refine (works_c _).mono ?_
          rintro e w9 ⟨rfl, hB⟩
          have HB9 := hid (HBX.out.trans (hB.mono HBX.out.size))
          clear hB
          go_wp2
          go_ret
          exact ⟨rfl, HB9.out⟩
      · rw [show (checkDrum f2 g2 == 0) = false from by simp [hd2]] at HH
        clear hv hd hd2
        go_enter Try.func11, Try.ntmps11
        go_wp2_with fail
        rw [← HW0.out]
        refine HF.out.mono ?_
        rintro e wx ⟨rfl, rfl⟩
        go_wp2_with fail
        refine (HG.out _ (Below.refl _ _)).mono ?_
        rintro e w1 ⟨rfl, hB⟩
        have p1 := cstep p1 hB
        have p2 := cstep p2 hB
        have p3 := cstep p3 hB
        have p4 := cstep p4 hB
        have HA1 := hid (bstep (Below.refl _ _) hB)
        clear hB
        go_wp2_with fail
        refine (HH.out _ (HA1.out)).mono ?_
        rintro e w2 ⟨rfl, hB⟩
        have p1 := cstep p1 hB
        have p2 := cstep p2 hB
        have p3 := cstep p3 hB
        have p4 := cstep p4 hB
        have HA2 := hid (bstep (HA1.out) hB)
        clear hB
        have HBX := hid (bstep HB0.out HA2.out)
        go_wp2_with fail
        refine (works_c _).mono ?_
        rintro e w9 ⟨rfl, hB⟩
        have HB9 := hid (HBX.out.trans (hB.mono HBX.out.size))
        clear hB
        go_wp2
        go_ret
        exact ⟨rfl, HB9.out⟩
    · rw [show (checkDrum f g == 0) = false from by simp [hd]] at HG
      clear hv hd
      go_enter Try.func11, Try.ntmps11
      go_wp2_with fail
      rw [← HW0.out]
      refine HF.out.mono ?_
      rintro e wx ⟨rfl, rfl⟩
      go_wp2_with fail
      refine (HG.out _ (Below.refl _ _)).mono ?_
      rintro e w1 ⟨rfl, hB⟩
      have p1 := cstep p1 hB
      have p2 := cstep p2 hB
      have p3 := cstep p3 hB
      have p4 := cstep p4 hB
      have HA1 := hid (bstep (Below.refl _ _) hB)
      clear hB
      have HBX := hid (bstep HB0.out HA1.out)
      go_wp2_with fail
      refine (works_c _).mono ?_
      rintro e w9 ⟨rfl, hB⟩
      have HB9 := hid (HBX.out.trans (hB.mono HBX.out.size))
      clear hB
      go_wp2
      go_ret
      exact ⟨rfl, HB9.out⟩
  · rw [show (checkRow xs == 0) = false from by simp [hv]] at HF
    clear hv
    go_enter Try.func11, Try.ntmps11
    go_wp2_with fail
    rw [← HW0.out]
    refine HF.out.mono ?_
    rintro e wx ⟨rfl, rfl⟩
    go_wp2_with fail
    refine (works_c _).mono ?_
    rintro e w9 ⟨rfl, hB⟩
    have HB9 := hid (HB0.out.trans (hB.mono HB0.out.size))
    clear hB
    go_wp2
    go_ret
    exact ⟨rfl, HB9.out⟩

end Go.Proofs.Ytjnijhnphhpilaa
