/- Walks: the law DrumLater. -/
import Derived.Test.YtjnijhnphhpilaaLc
namespace Go.Proofs.Ytjnijhnphhpilaa
open Go.RowKit Go.Shelf

set_option maxRecDepth 100000 in
set_option maxHeartbeats 4000000 in
theorem later_law (a a1 a2 : Option Addr) (cap c1 c2 : Nat) (xs f g : List Int) (many : Nat) (w : World) (hx : IntsAt w a xs) (hn : a = none → cap = 0) (hcap : xs.length ≤ cap) (hf : IntsAt w a1 f) (hg : IntsAt w a2 g) (hm : many < 256) :
    Calls Try.prog 12 #[.slice a xs.length cap, .agg #[.slice a1 f.length c1, .slice a2 g.length c2], .int .u8 many] w (TrueP w) := by
  have Hx := hid hx; have Hn := hid (nilLen hx hn); have Hf := hid hf; have Hg := hid hg
  have HB0 := hid (bnew w (.cells #[.slice a1 f.length c1, .slice a2 g.length c2] 24))
  have HF := hid (fine_c a cap xs (w.alloc (.cells #[.slice a1 f.length c1, .slice a2 g.length c2] 24)) (hx.mono HB0.out))
  have HG := hid (good_c a1 a2 c1 c2 f g (w.alloc (.cells #[.slice a1 f.length c1, .slice a2 g.length c2] 24)) (hf.mono HB0.out) (hg.mono HB0.out))
  clear hx hn hf hg
  by_cases hv : checkRow xs = 0
  · rw [show (checkRow xs == 0) = true from by simp [hv]] at HF
    by_cases hd : checkDrum f g = 0
    · rw [show (checkDrum f g == 0) = true from by simp [hd]] at HG
      have hxl := (checkRow_zero hv).1
      have hpn := pl_le hv
      obtain ⟨hdl, hd40, hdf, hdg⟩ := checkDrum_zero hd
      have Hv := hid hv; have Hd := hid hd; have Hdl := hid hdl; have Hdf := hid hdf; have Hdg := hid hdg
      have hfl : f.length ≤ 40 := by omega
      clear hv hd hdl hdf hdg hd40
      obtain ⟨n, hn⟩ : ∃ n, n = pl xs := ⟨_, rfl⟩
      have Hn' := hid hn
      rw [← hn] at hpn
      clear hn
      obtain ⟨m, hm2⟩ : ∃ m : Nat, m = many % 60 := ⟨_, rfl⟩
      have HmI := hid (show ((many : Int) % 60) = (m : Int) by omega)
      have hm60 : m < 60 := by omega
      have hmany : (many : Int) < 256 := by omega
      clear hm2
      go_enter Try.func12, Try.ntmps12
      go_wp2_with fail
      refine HF.out.mono ?_
      rintro e wx ⟨rfl, rfl⟩
      go_wp2_with fail
      refine HG.out.mono ?_
      rintro e w1 ⟨rfl, hB⟩
      have p1 := cstep (p := ⟨w.heap.size, 0, none⟩) (v := .slice a1 f.length c1) (by simp) hB
      have p2 := cstep (p := ⟨w.heap.size, 1, none⟩) (v := .slice a2 g.length c2) (by simp) hB
      have HB1 := hid (bstep HB0.out hB)
      have HI1 := hid (((((Inv.nil w1).add (Hg.out.mono HB1.out)).add (Hf.out.mono HB1.out)).add (Hx.out.mono HB1.out)).addC p2 |>.addC p1)
      clear hB p1 p2 Hx Hf Hg HF HG
      go_wp2_with fail
      refine (placesL_c a cap xs w1 (HI1.out.atI (a := a) (xs := xs) 0 rfl) Hv.out).mono ?_
      rw [show (rdAll xs).places = n from Hn'.out.symm]
      rintro e w2 ⟨rfl, hB⟩
      have HI2 := hid (HI1.out.step hB); have HB2 := hid (bstep HB1.out hB)
      clear hB HI1 HB1
      have p1 := HI2.out.ceI (b := w.heap.size) (k := 0) (v := .slice a1 f.length c1) 0 rfl
      have p2 := HI2.out.ceI (b := w.heap.size) (k := 1) (v := .slice a2 g.length c2) 1 rfl
      go_wp2_with fail
      refine (runOk_c a1 a2 c1 c2 100 f g w2 (HI2.out.atI (a := a1) (xs := f) 1 rfl) (HI2.out.atI (a := a2) (xs := g) 2 rfl) Hd.out (by omega)).mono ?_
      rintro e w3 ⟨b, cc, rfl, hl, hcc, hB⟩
      have HI3 := hid (HI2.out.step hB); have HB3 := hid (bstep HB2.out hB)
      have Hl := hid hl
      clear hB HI2 HB2 p1 p2 hl
      have hcc2 : m + 40 ≤ cc := by omega
      have hcc3 : (m : Int) + 40 ≤ (cc : Int) := by omega
      have hmi := HmI.out
      go_wp2_with fail
      have hwin := pl_window Hdf.out Hdg.out Hdl.out (N := 100) (d := m) (by omega)
      have hwl : (((playsF f g 100).drop m).take 40).length = 40 := by rw [List.length_take, List.length_drop, playsF_length]; omega
      have hwa : IntsAt w3 (some ⟨b, m, none⟩) (((playsF f g 100).drop m).take 40) := by
        have := (Hl.out.drop m).take 40
        rwa [Nat.zero_add] at this
      have hwv : checkRow (((playsF f g 100).drop m).take 40) = 0 := row_valid (by omega) (isBits_take (isBits_drop (playsF_bits (f := f) Hdg.out 100) m) 40)
      have hk := placesM_c (some ⟨b, m, none⟩) (cc - m) 40 _ w3 hwl hwa hwv
      rw [show (rdAll (((playsF f g 100).drop m).take 40)).places = pl (((playsF f g 100).drop m).take 40) from rfl] at hk
      obtain ⟨kw, hkw⟩ : ∃ kw, kw = pl (((playsF f g 100).drop m).take 40) := ⟨_, rfl⟩
      rw [← hkw] at hk hwin
      have q1 : decide (f.length < kw) = false := by simp; omega
      have Hk := hid hk
      clear hk hkw hwl hwa hwv hmi hwin hcc hcc2 hcc3 Hl
      refine Hk.out.mono ?_
      rintro e w4 ⟨rfl, hB⟩
      have HI4 := hid (HI3.out.step hB); have HB4 := hid (bstep HB3.out hB)
      clear hB HI3 HB3
      have p1 := HI4.out.ceI (b := w.heap.size) (k := 0) (v := .slice a1 f.length c1) 0 rfl
      have p2 := HI4.out.ceI (b := w.heap.size) (k := 1) (v := .slice a2 g.length c2) 1 rfl
      by_cases hN : xs.length = 0
      · have h0 : n = 0 := by omega
        subst h0
        have hN0 : (xs.length : Int) = 0 := by omega
        go_wp2_with fail
        refine (works_c w4).mono ?_
        rintro e w5 ⟨rfl, hB⟩
        have HB5 := hid (bstep HB4.out hB)
        clear hB
        go_wp2
        go_ret
        exact ⟨rfl, HB5.out⟩
      · have hN1 : 0 < xs.length := by omega
        have hd1 := pl_drop Hv.out 1
        rw [← Hn'.out] at hd1
        obtain ⟨b2, off2, rfl, _⟩ := (HI4.out.atI (a := a) (xs := xs) 0 rfl).at hN1
        have hdv : checkRow (xs.drop 1) = 0 := row_valid (by rw [List.length_drop]; omega) (isBits_drop (checkRow_zero Hv.out).2 1)
        have hdl : (xs.drop 1).length = xs.length - 1 := by rw [List.length_drop]
        have hda : IntsAt w4 (some ⟨b2, off2 + 1, none⟩) (xs.drop 1) := (HI4.out.atI (a := some ⟨b2, off2, none⟩) (xs := xs) 0 rfl).drop 1
        obtain ⟨kd, hkd⟩ : ∃ kd, kd = pl (xs.drop 1) := ⟨_, rfl⟩
        have hq := fun (ad : Option Addr) (cd : Nat) (h : IntsAt w4 ad (xs.drop 1)) => placesM_c ad cd (xs.length - 1) (xs.drop 1) w4 hdl h hdv
        rw [show (rdAll (xs.drop 1)).places = kd from hkd.symm] at hq
        rw [← hkd] at hd1
        have Hq := hid hq; have Hda := hid hda
        have q2 : decide (n < kd) = false := by simp; omega
        have hN2 : (1 : Int) ≤ (xs.length : Int) := by omega
        clear hq hkd hdv hdl hda hd1
        by_cases hc1 : cap = 1
        case' pos =>
          have hx1 : xs.length = 1 := by omega
          subst hc1
          have hqq := Hq.out (some ⟨b2, off2, none⟩) 0 (.inl (List.eq_nil_of_length_eq_zero (by rw [List.length_drop]; omega)))
          rw [show xs.length - 1 = 0 from by omega] at hqq
          have Hqq := hid hqq
          clear hqq hx1
          go_wp2_with fail
          refine Hqq.out.mono ?_
        case' neg =>
          have hc2 : 1 < cap := by omega
          go_wp2_with fail
          refine (Hq.out _ _ Hda.out).mono ?_
        all_goals
          rintro e w5 ⟨rfl, hB⟩
          have HI5 := hid (HI4.out.step hB); have HB5 := hid (bstep HB4.out hB)
          clear hB HI4 HB4 Hq Hda
          try clear Hqq
          by_cases hz : n = 0
          · subst hz
            go_wp2_with fail
            refine (works_c w5).mono ?_
            rintro e w6 ⟨rfl, hB⟩
            have HB6 := hid (bstep HB5.out hB)
            clear hB
            go_wp2
            go_ret
            exact ⟨rfl, HB6.out⟩
          · have hz2 : 0 < n := by omega
            have qz : ((n : Int) == 0) = false := by simp; omega
            by_cases hlong : 40 < xs.length + n + 1
            · have ql : (40 : Int) < (xs.length : Int) + (n : Int) + 1 := by omega
              go_wp2_with fail
              refine (works_c w5).mono ?_
              rintro e w6 ⟨rfl, hB⟩
              have HB6 := hid (bstep HB5.out hB)
              clear hB
              go_wp2
              go_ret
              exact ⟨rfl, HB6.out⟩
            · have ql : ¬ (40 : Int) < (xs.length : Int) + (n : Int) + 1 := by omega
              have hpz := pl_zeros Hv.out (by rw [← Hn'.out]; omega) (by rw [← Hn'.out]; omega)
              rw [← Hn'.out] at hpz
              have hzv : checkRow (zrow (n + 1) ++ xs) = 0 := row_valid (by rw [List.length_append, zrow_length]; omega) (by
                rw [isBits_append, (checkRow_zero Hv.out).2, Bool.and_true]
                unfold isBits zrow; rw [List.all_eq_true]; intro x hx; rw [List.eq_of_mem_replicate hx]; rfl)
              have hmk : ∀ w : World, (Instr.makeSlice 22 (.int .i64 ((n : Int) + 1)) (.int .i64 ((n : Int) + 1))).run Try.prog w = .ok (.slice (some ⟨w.heap.size, 0, none⟩) (n + 1) (n + 1)) (w.alloc (.cells (intv (zrow (n + 1))).toArray 3)) := fun w => run_make_z w (n + 1) (by omega)
              obtain ⟨kz, hkz⟩ : ∃ kz, kz = pl (zrow (n + 1) ++ xs) := ⟨_, rfl⟩
              have q3 : decide (n < kz) = true := by rw [hkz]; exact decide_eq_true hpz
              have Hzv := hid hzv; have Hkz := hid hkz
              clear hpz hzv hkz
              go_wp2_with (at_builtin; (first | refine wpList_app_many _ rfl _ _ rfl w5.heap.size (some ⟨w5.heap.size, 0, none⟩) (n + 1) (n + 1) (zrow (n + 1)) ?g3 (ownZ w5 (n + 1) ?g4) (some ⟨b2, off2, none⟩) xs.length cap xs ?g5 ?d1 rfl ?d2 ?d3 ?d4 ?_ | refine wpList_app_many _ rfl _ _ rfl w5.heap.size (some ⟨w5.heap.size, 0, none⟩) (n + 1) (n + 1) (zrow (n + 1)) ?g3 (ownZ w5 (n + 1) ?g4) (some ⟨b2, off2, none⟩) xs.length 1 xs ?g5 ?d1 rfl ?d2 ?d3 ?d4 ?_); rotate_right; (intro ao' cap' w6 hB6 hown6 hgr6 hne6; refine Hid.out ?_))
              case g3 => rfl
              case g5 => rfl
              case g4 => omega
              case d1 => exact (HI5.out.atI (a := some ⟨b2, off2, none⟩) (xs := xs) 0 rfl).mono (bnew _ _)
              case d2 => intro h; cases h
              case d3 => omega
              case d4 => simp
              refine hid ?_
              have hpz := placesM_c ao' cap' (n + 1 + xs.length) (zrow (n + 1) ++ xs) w6 (by rw [List.length_append, zrow_length]) hown6.at Hzv.out
              rw [show (rdAll (zrow (n + 1) ++ xs)).places = kz from Hkz.out.symm] at hpz
              have Hpz := hid hpz
              have HB6 := hid (HB5.out.trans (((bnew w5 (.cells (intv (zrow (n + 1))).toArray 3)).mono HB5.out.size).trans (hB6.mono HB5.out.size)))
              clear hpz hB6 hown6 hgr6 hne6 hmk
              go_wp2_with fail
              refine Hpz.out.mono ?_
              rintro e w7 ⟨rfl, hB⟩
              have HB7 := hid (bstep HB6.out hB)
              clear hB
              go_wp2_with fail
              refine (works_c w7).mono ?_
              rintro e w8 ⟨rfl, hB⟩
              have HB8 := hid (bstep HB7.out hB)
              clear hB
              go_wp2
              go_ret
              exact ⟨rfl, HB8.out⟩
    · rw [show (checkDrum f g == 0) = false from by simp [hd]] at HG
      clear hv hd
      go_enter Try.func12, Try.ntmps12
      go_wp2_with fail
      refine HF.out.mono ?_
      rintro e wx ⟨rfl, rfl⟩
      go_wp2_with fail
      refine HG.out.mono ?_
      rintro e w1 ⟨rfl, hB⟩
      have HB1 := hid (bstep HB0.out hB)
      clear hB
      go_wp2_with fail
      refine (works_c w1).mono ?_
      rintro e w2 ⟨rfl, hB⟩
      have HB2 := hid (bstep HB1.out hB)
      clear hB
      go_wp2
      go_ret
      exact ⟨rfl, HB2.out⟩
  · rw [show (checkRow xs == 0) = false from by simp [hv]] at HF
    clear hv
    go_enter Try.func12, Try.ntmps12
    go_wp2_with fail
    refine HF.out.mono ?_
    rintro e wx ⟨rfl, rfl⟩
    go_wp2_with fail
    refine (works_c _).mono ?_
    rintro e w1 ⟨rfl, hB⟩
    have HB := hid (bstep HB0.out hB)
    clear hB
    go_wp2
    go_ret
    exact ⟨rfl, HB.out⟩

end Go.Proofs.Ytjnijhnphhpilaa
