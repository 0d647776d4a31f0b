/- Walks: the law DrumProved, the walk. -/
import Derived.Test.YtjnijhnphhpilaaLawE
namespace Go.Proofs.Ytjnijhnphhpilaa
open Go.RowKit Go.Shelf

set_option maxRecDepth 100000 in
set_option maxHeartbeats 4000000 in
theorem proved_law (a a1 a2 : Option Addr) (cap c1 c2 : Nat) (xs f g : List Int) (many : Nat) (bs : Int) (w : World) (hx : IntsAt w a xs) (hn : a = none → cap = 0) (hf : IntsAt w a1 f) (hg : IntsAt w a2 g) (hm : many < 256) :
    Calls Try.prog 7 #[.slice a xs.length cap, .int .u8 many, .int .u64 bs, .agg #[.slice a1 f.length c1, .slice a2 g.length c2]] w (TrueP w) := by
  have Hx := hid hx; have Hn := hid (nilLen hx hn); have Hf := hid hf; have Hg := hid hg
  have HB0 := hid (bnew w (.cells #[.slice a1 f.length c1, .slice a2 g.length c2] 24))
  have HF := hid (fine_c a cap xs (w.alloc (.cells #[.slice a1 f.length c1, .slice a2 g.length c2] 24)) (hx.mono HB0.out))
  have HW := hid (wide_c a1 a2 f.length g.length c1 c2 (w.alloc (.cells #[.slice a1 f.length c1, .slice a2 g.length c2] 24)))
  clear hx hn hf hg
  by_cases hv : checkRow xs = 0
  · rw [show (checkRow xs == 0) = true from by simp [hv]] at HF
    by_cases hwd : 50 < f.length ∨ 50 < g.length
    · rw [show decide (50 < f.length ∨ 50 < g.length) = true from by simpa using hwd] at HW
      clear hv hwd
      go_enter Try.func7, Try.ntmps7
      go_wp2_with fail
      refine HF.out.mono ?_
      rintro e wx ⟨rfl, rfl⟩
      go_wp2_with fail
      refine HW.out.mono ?_
      rintro e w1 ⟨rfl, hB⟩
      have HB1 := hid (bstep HB0.out hB)
      clear hB
      go_wp2_with fail
      refine (works_c w1).mono ?_
      rintro e w2 ⟨rfl, hB⟩
      have HB2 := hid (bstep HB1.out hB)
      clear hB
      go_wp2
      go_ret
      exact ⟨rfl, HB2.out⟩
    · rw [show decide (50 < f.length ∨ 50 < g.length) = false from by simpa using hwd] at HW
      have hfl : f.length ≤ 50 := by omega
      have hgl : g.length ≤ 50 := by omega
      have hxl := (checkRow_zero hv).1
      have hpn := pl_le hv
      have hproof : proofErr xs = if pl xs = 0 then 5 else 0 := by unfold proofErr; rw [if_pos hv]; rfl
      have hpl : (proofR xs).length ≤ 40 ∧ (0 < pl xs → proofCheck xs ((pl xs : Int) - 1) (proofR xs) = 0) := by
        unfold proofR
        rw [if_pos hv]
        by_cases h0 : (rdAll xs).places = 0
        · rw [if_pos h0]; exact ⟨by simp, fun h => by unfold pl at h; omega⟩
        · rw [if_neg h0]
          have := rd_proof hv (by unfold pl; omega)
          exact ⟨this.2, fun _ => this.1⟩
      obtain ⟨l1, l2, _, _⟩ := rdDrum_len hv
      have HL1 := hid (show (rdDrum (rdAll xs)).1.length = pl xs from l1); have HL2 := hid (show (rdDrum (rdAll xs)).2.length = pl xs from l2)
      have Hv := hid hv; have Hproof := hid hproof; have Hpl := hid hpl
      clear hv hwd hproof hpl l1 l2
      obtain ⟨n, hn⟩ : ∃ n, n = pl xs := ⟨_, rfl⟩
      have Hn' := hid hn
      rw [← hn] at hpn
      clear hn
      go_enter Try.func7, Try.ntmps7
      go_wp2_with fail
      refine HF.out.mono ?_
      rintro e wx ⟨rfl, rfl⟩
      go_wp2_with fail
      refine HW.out.mono ?_
      rintro e w1 ⟨rfl, hB⟩
      have p1 := cstep (p := ⟨w.heap.size, 0, none⟩) (v := .slice a1 f.length c1) (by simp) hB
      have p2 := cstep (p := ⟨w.heap.size, 1, none⟩) (v := .slice a2 g.length c2) (by simp) hB
      have HB1 := hid (bstep HB0.out hB)
      have P1 := hid p1; have P2 := hid p2
      clear hB p1 p2
      have HI1 := hid (((((Inv.nil w1).add (Hg.out.mono HB1.out)).add (Hf.out.mono HB1.out)).add (Hx.out.mono HB1.out)).addC P2.out |>.addC P1.out)
      clear P1 P2 Hx Hf Hg HF HW
      go_wp2_with fail
      refine (placesL_c a cap xs w1 (HI1.out.atI (a := a) (xs := xs) 0 rfl) Hv.out).mono ?_
      rw [show (rdAll xs).places = n from Hn'.out.symm]
      rintro e w2 ⟨rfl, hB⟩
      have HI2 := hid (HI1.out.step hB); have HB2 := hid (bstep HB1.out hB)
      clear hB HI1 HB1
      go_wp2_with fail
      refine (k_short (HI2.out.atI (a := a) (xs := xs) 0 rfl) Hv.out).mono ?_
      rw [← Hn'.out]
      rintro e w3 ⟨s1, s2, d1, d2, rfl, hs1, hs2, hB⟩
      have HI3 := hid (((HI2.out.step hB).add hs1).add hs2); have HB3 := hid (bstep HB2.out hB)
      clear hB HI2 HB2 hs1 hs2
      have HI4 := hid (inv1 HI3.out (.slice s1 n d1) (.slice s2 n d2)); have HB4 := hid (bstep HB3.out (bnew w3 (.cells #[.slice s1 n d1, .slice s2 n d2] 24)))
      clear HI3 HB3
      go_wp2_with fail
      generalize hWW : w3.alloc (.cells #[.slice s1 n d1, .slice s2 n d2] 24) = w4 at HI4 HB4 ⊢
      obtain ⟨bs', hbs⟩ : ∃ b, b = w3.heap.size := ⟨_, rfl⟩
      rw [← hbs] at HI4 ⊢
      clear hWW hbs
      refine (proof_c a cap xs w4 (HI4.out.atI (a := a) (xs := xs) 2 rfl) (by omega)).mono ?_
      rw [Hproof.out, ← Hn'.out]
      rintro e w5 ⟨_, rfl, ⟨al, cl, rfl, hl, hln⟩, hB⟩
      have Hln := hid hln
      have HI5 := hid ((HI4.out.step hB).add hl); have HB5 := hid (bstep HB4.out hB)
      clear hB HI4 HB4 hl hln
      have hgr := great_c al (proofR xs).length cl
      rw [show decide (50 < (proofR xs).length) = false from by have := Hpl.out.1; simp; omega] at hgr
      have Hgr := hid hgr
      clear hgr
      have cs0 := HI5.out.ceI (b := bs') (k := 0) (v := .slice s1 n d1) 0 rfl
      have cs1 := HI5.out.ceI (b := bs') (k := 1) (v := .slice s2 n d2) 1 rfl
      have HWx := wide_c s1 s2 n n d1 d2 w5
      rw [show decide (50 < n ∨ 50 < n) = false from by simp; omega] at HWx
      have HWx := hid HWx
      have HK := hid (rd_makesR Hv.out)
      by_cases h0 : n = 0
      case' pos =>
        subst h0
        rw [if_pos rfl]
      case' neg =>
        have hpos : 0 < n := by omega
        rw [if_neg h0]
        clear h0
      all_goals
        go_wp2_with fail
        refine HWx.out.mono ?_
        rintro e w6 ⟨rfl, hB⟩
        have HI6 := hid (HI5.out.step hB); have HB6 := hid (bstep HB5.out hB)
        have cs0 := cstep cs0 hB
        have cs1 := cstep cs1 hB
        clear hB HI5 HB5 HWx
        have hmk := makes_c s1 s2 a d1 d2 cap (rdDrum (rdAll xs)).1 (rdDrum (rdAll xs)).2 xs w6 (HI6.out.atI (a := s1) (xs := (rdDrum (rdAll xs)).1) 2 rfl) (HI6.out.atI (a := s2) (xs := (rdDrum (rdAll xs)).2) 1 rfl) (HI6.out.atI (a := a) (xs := xs) 3 rfl) (by rw [HL1.out, ← Hn'.out]; omega) (by rw [HL2.out, ← Hn'.out]; omega) (by omega)
        rw [HK.out, HL1.out, HL2.out, ← Hn'.out] at hmk
        have Hmk := hid hmk
        clear hmk
        go_wp2_with fail
        refine Hmk.out.mono ?_
        rintro e w7 ⟨rfl, hB⟩
        have HI7 := hid (HI6.out.step hB); have HB7 := hid (bstep HB6.out hB)
        have cs0 := cstep cs0 hB
        have cs1 := cstep cs1 hB
        clear hB HI6 HB6 Hmk
        have hmk := rMakes_c s1 s2 a d1 d2 cap (rdDrum (rdAll xs)).1 (rdDrum (rdAll xs)).2 xs w7 (HI7.out.atI (a := s1) (xs := (rdDrum (rdAll xs)).1) 2 rfl) (HI7.out.atI (a := s2) (xs := (rdDrum (rdAll xs)).2) 1 rfl) (HI7.out.atI (a := a) (xs := xs) 3 rfl) (by rw [HL1.out, ← Hn'.out]; omega) (by rw [HL2.out, ← Hn'.out]; omega) (by omega)
        rw [HK.out, HL1.out, HL2.out, ← Hn'.out] at hmk
        have Hmk := hid hmk
        clear hmk
        go_wp2_with fail
        refine Hmk.out.mono ?_
        rintro e w8 ⟨rfl, hB⟩
        have HI8 := hid (HI7.out.step hB); have HB8 := hid (bstep HB7.out hB)
        have cs0 := cstep cs0 hB
        have cs1 := cstep cs1 hB
        clear hB HI7 HB7 Hmk
        go_wp2_with fail
        refine (Hgr.out w8).mono ?_
        rintro e wx ⟨rfl, rfl⟩
        clear cs0 cs1
      · have hck := Hpl.out.2 (by rw [← Hn'.out]; exact hpos)
        rw [← Hn'.out] at hck
        have hc1 := checkProof_c a al cap cl ((n : Int) - 1) xs (proofR xs) w8 (HI8.out.atI (a := a) (xs := xs) 3 rfl) (HI8.out.atI (a := al) (xs := proofR xs) 0 rfl) (by omega) (by have := Hpl.out.1; omega)
        rw [hck] at hc1
        have Hc1 := hid hc1; have Hck := hid hck
        clear hc1 hck
        go_wp2_with fail
        refine Hc1.out.mono ?_
        rintro e w9 ⟨rfl, hB⟩
        have HI9 := hid (HI8.out.step hB); have HB9 := hid (bstep HB8.out hB)
        clear hB HI8 HB8 Hc1
        have hc1 := rCheckProof_c a al cap cl ((n : Int) - 1) xs (proofR xs) w9 (HI9.out.atI (a := a) (xs := xs) 3 rfl) (HI9.out.atI (a := al) (xs := proofR xs) 0 rfl) (by omega) (by have := Hpl.out.1; omega)
        rw [Hck.out] at hc1
        have Hc1 := hid hc1
        clear hc1
        go_wp2_with fail
        refine Hc1.out.mono ?_
        rintro e w10 ⟨rfl, hB⟩
        have HI10 := hid (HI9.out.step hB); have HB10 := hid (bstep HB9.out hB)
        clear hB HI9 HB9 Hc1
        have hmd := makes_c a1 a2 a c1 c2 cap f g xs w10 (HI10.out.atI (a := a1) (xs := f) 4 rfl) (HI10.out.atI (a := a2) (xs := g) 5 rfl) (HI10.out.atI (a := a) (xs := xs) 3 rfl) (by omega) (by omega) (by omega)
        have hel := makes_least (f := f) (g := g) Hv.out
        obtain ⟨em, hem⟩ : ∃ em, em = makesR f g xs := ⟨_, rfl⟩
        rw [← hem] at hmd hel
        rw [← Hn'.out] at hel
        have Hem := hid hem; have Hmd := hid hmd; have Hel := hid hel
        clear hem hmd hel
        have cf0 := HI10.out.ceI (b := w.heap.size) (k := 0) (v := .slice a1 f.length c1) 2 rfl
        have cf1 := HI10.out.ceI (b := w.heap.size) (k := 1) (v := .slice a2 g.length c2) 3 rfl
        go_wp2_with fail
        refine Hmd.out.mono ?_
        rintro e w11 ⟨rfl, hB⟩
        have HI11 := hid (HI10.out.step hB); have HB11 := hid (bstep HB10.out hB)
        have cf0 := cstep cf0 hB
        have cf1 := cstep cf1 hB
        clear hB HI10 HB10 Hmd
        obtain ⟨m, hm2⟩ : ∃ m : Nat, m = many % 41 := ⟨_, rfl⟩
        have hmI : ((many : Int) % 41) = (m : Int) := by omega
        have HmI := hid hmI
        have hm41 : m < 41 := by omega
        have hmany : (many : Int) < 256 := by omega
        clear hm2 hmI
        by_cases hem0 : em = 0
        all_goals
          first
            | (have hfn : n ≤ f.length := Hel.out hem0
               have qf : decide (f.length < n) = false := by simp; omega
               have qe : (em == 0) = true := by simp [hem0])
            | (have qe : (em == 0) = true := by simp [hem0])
            | (have qe : (em == 0) = false := by simp [hem0])
          have Hem0 := hid hem0
          clear hem0
          go_wp2
          go_loopw [17, 18] (fun o i wr => ∃ (k : Nat) (l : List Int) (ao : Option Addr) (cp : Nat), i = .int .i64 k ∧ m ≤ k ∧ (k ≤ xs.length ∨ l = []) ∧ o = .slice ao l.length cp ∧ OwnI w11.heap.size wr ao l.length cp l ∧ Up l m k ∧ Below w11.heap.size w11 wr) (fun _ i _ => xs.length - (intOf i).toNat)
          case atStart => exact ⟨m, [], none, 0, by rw [HmI.out], Nat.le_refl _, .inr rfl, rfl, OwnI.nil _ _, Up.nil _ _, Below.refl _ _⟩
          case round =>
            obtain ⟨k, l, ao, cp, rfl, hmk, hkx, rfl, hown, hup, hB⟩ := hrel
            obtain ⟨wo, rfl⟩ : ∃ wo : World, wo = wr := ⟨_, rfl⟩
            have hll := hup.len
            have Hown := hid hown; have Hup := hid hup; have HBo := hid hB; have Hkx := hid hkx
            clear hown hup hB hkx
            by_cases hlt : k < xs.length
            · have hk64 : (k : Int) ≤ 64 := by omega
              go_wp2_with (at_builtin; refine wpList_app_own _ rfl _ _ rfl w11.heap.size ao l.length cp l rfl ?c1 _ (k : Int) rfl ?c2 ?c3 ?c4 ?c5; rotate_right; (intro b' cap' w' hB' hb' hown' hgr'; refine Hid.out ?_))
              case c1 => exact Hown.out.alloc _
              case c2 => simp
              case c3 => omega
              case c4 => have := HBo.out.size; simp; omega
              case c5 =>
                refine hid ?_
                have Hown' := hid hown'
                have HB' := hid (HBo.out.trans (((bnew wo (.cells #[.int .i64 k] 3)).mono HBo.out.size).trans hB'))
                clear hown' hB' hgr' hb'
                go_wp2
                go_roundw
                case rel => exact ⟨k + 1, l ++ [(k : Int)], some ⟨b', 0, none⟩, cap', by go_num, by omega, .inl (by omega), by rw [List.length_append]; rfl, by rw [List.length_append]; exact Hown'.out, Hup.out.snoc hmk, HB'.out⟩
                case measure => simp [intOf]; omega
              go_roundw
              case rel => exact ⟨k + 1, l, ao, cp, by go_num, by omega, .inl (by omega), rfl, Hown.out, Hup.out.more, HBo.out⟩
              case measure => simp [intOf]; omega
            · have hl40 : l.length ≤ 40 := by
                rcases Hkx.out with h | h
                · omega
                · rw [h]; simp
              have hpc := checkProof_c a ao cap cp (m : Int) xs l wo ((HI11.out.atI (a := a) (xs := xs) 3 rfl).mono HBo.out) Hown.out.at (by omega) (by omega)
              have hc := Hup.out.check Hv.out (Hkx.out.imp (fun h => by omega) id)
              have hcm := check_more (xs := xs) (l := l) (m := m)
              obtain ⟨pc, hpc2⟩ : ∃ pc, pc = proofCheck xs m l := ⟨_, rfl⟩
              rw [← hpc2] at hpc hc hcm
              rw [← Hn'.out] at hcm
              have Hpc := hid hpc; have Hcm := hid hcm; have Hc := hid hc
              clear hpc hcm hc hpc2
              have cg0 := cstep cf0 HBo.out
              have cg1 := cstep cf1 HBo.out
              have HIo := hid (HI11.out.step HBo.out); have HBp := hid (bstep HB11.out HBo.out)
              rw [HmI.out]
              go_wp2_with fail
              refine Hpc.out.mono ?_
              rintro e w13 ⟨rfl, hB⟩
              have HB13 := hid (bstep HBp.out hB)
              have cg0 := cstep cg0 hB
              have cg1 := cstep cg1 hB
              clear hB
              rcases Hc.out with hp0 | hp14
              · subst hp0
                have h1 := Hcm.out rfl
                have h2 : em = 0 → m < f.length := fun h => by
                  rw [Hem.out] at h
                  obtain ⟨e1, e2⟩ := makesR_zero h
                  obtain ⟨hl, _, hf, hg⟩ := checkDrum_zero e1
                  exact h1.2 f g hf hg hl e2
                first
                  | (exfalso; have := h1.1; omega)
                  | (have h3 := h1.1
                     have q1 : decide (n ≤ m) = false := by simp; omega
                     first
                       | (have hq := h2 Hem0.out
                          have q2 : decide (f.length ≤ m) = false := by simp; omega
                          clear h1 h2
                          go_wp2_with fail
                          refine (works_c w13).mono ?_
                          rintro e w14 ⟨rfl, hB⟩
                          have HB14 := hid (bstep HB13.out hB)
                          clear hB
                          go_wp2
                          go_ret
                          exact ⟨rfl, HB14.out⟩)
                       | (clear h1 h2
                          go_wp2_with fail
                          refine (works_c w13).mono ?_
                          rintro e w14 ⟨rfl, hB⟩
                          have HB14 := hid (bstep HB13.out hB)
                          clear hB
                          go_wp2
                          go_ret
                          exact ⟨rfl, HB14.out⟩))
              · subst hp14
                go_wp2_with fail
                refine (works_c w13).mono ?_
                rintro e w14 ⟨rfl, hB⟩
                have HB14 := hid (bstep HB13.out hB)
                clear hB
                go_wp2
                go_ret
                exact ⟨rfl, HB14.out⟩
      · obtain ⟨w10, hww⟩ : ∃ W, W = w8 := ⟨_, rfl⟩
        subst hww
        have HI10 := HI8; have HB10 := HB8
        clear HI8 HB8
        have hmd := makes_c a1 a2 a c1 c2 cap f g xs w10 (HI10.out.atI (a := a1) (xs := f) 4 rfl) (HI10.out.atI (a := a2) (xs := g) 5 rfl) (HI10.out.atI (a := a) (xs := xs) 3 rfl) (by omega) (by omega) (by omega)
        have hel := makes_least (f := f) (g := g) Hv.out
        obtain ⟨em, hem⟩ : ∃ em, em = makesR f g xs := ⟨_, rfl⟩
        rw [← hem] at hmd hel
        rw [← Hn'.out] at hel
        have Hem := hid hem; have Hmd := hid hmd; have Hel := hid hel
        clear hem hmd hel
        have cf0 := HI10.out.ceI (b := w.heap.size) (k := 0) (v := .slice a1 f.length c1) 2 rfl
        have cf1 := HI10.out.ceI (b := w.heap.size) (k := 1) (v := .slice a2 g.length c2) 3 rfl
        go_wp2_with fail
        refine Hmd.out.mono ?_
        rintro e w11 ⟨rfl, hB⟩
        have HI11 := hid (HI10.out.step hB); have HB11 := hid (bstep HB10.out hB)
        have cf0 := cstep cf0 hB
        have cf1 := cstep cf1 hB
        clear hB HI10 HB10 Hmd
        obtain ⟨m, hm2⟩ : ∃ m : Nat, m = many % 41 := ⟨_, rfl⟩
        have hmI : ((many : Int) % 41) = (m : Int) := by omega
        have HmI := hid hmI
        have hm41 : m < 41 := by omega
        have hmany : (many : Int) < 256 := by omega
        clear hm2 hmI
        by_cases hem0 : em = 0
        all_goals
          first
            | (have hfn : n ≤ f.length := Hel.out hem0
               have qf : decide (f.length < n) = false := by simp; omega
               have qe : (em == 0) = true := by simp [hem0])
            | (have qe : (em == 0) = true := by simp [hem0])
            | (have qe : (em == 0) = false := by simp [hem0])
          have Hem0 := hid hem0
          clear hem0
          go_wp2
          go_loopw [17, 18] (fun o i wr => ∃ (k : Nat) (l : List Int) (ao : Option Addr) (cp : Nat), i = .int .i64 k ∧ m ≤ k ∧ (k ≤ xs.length ∨ l = []) ∧ o = .slice ao l.length cp ∧ OwnI w11.heap.size wr ao l.length cp l ∧ Up l m k ∧ Below w11.heap.size w11 wr) (fun _ i _ => xs.length - (intOf i).toNat)
          case atStart => exact ⟨m, [], none, 0, by rw [HmI.out], Nat.le_refl _, .inr rfl, rfl, OwnI.nil _ _, Up.nil _ _, Below.refl _ _⟩
          case round =>
            obtain ⟨k, l, ao, cp, rfl, hmk, hkx, rfl, hown, hup, hB⟩ := hrel
            obtain ⟨wo, rfl⟩ : ∃ wo : World, wo = wr := ⟨_, rfl⟩
            have hll := hup.len
            have Hown := hid hown; have Hup := hid hup; have HBo := hid hB; have Hkx := hid hkx
            clear hown hup hB hkx
            by_cases hlt : k < xs.length
            · have hk64 : (k : Int) ≤ 64 := by omega
              go_wp2_with (at_builtin; refine wpList_app_own _ rfl _ _ rfl w11.heap.size ao l.length cp l rfl ?c1 _ (k : Int) rfl ?c2 ?c3 ?c4 ?c5; rotate_right; (intro b' cap' w' hB' hb' hown' hgr'; refine Hid.out ?_))
              case c1 => exact Hown.out.alloc _
              case c2 => simp
              case c3 => omega
              case c4 => have := HBo.out.size; simp; omega
              case c5 =>
                refine hid ?_
                have Hown' := hid hown'
                have HB' := hid (HBo.out.trans (((bnew wo (.cells #[.int .i64 k] 3)).mono HBo.out.size).trans hB'))
                clear hown' hB' hgr' hb'
                go_wp2
                go_roundw
                case rel => exact ⟨k + 1, l ++ [(k : Int)], some ⟨b', 0, none⟩, cap', by go_num, by omega, .inl (by omega), by rw [List.length_append]; rfl, by rw [List.length_append]; exact Hown'.out, Hup.out.snoc hmk, HB'.out⟩
                case measure => simp [intOf]; omega
              go_roundw
              case rel => exact ⟨k + 1, l, ao, cp, by go_num, by omega, .inl (by omega), rfl, Hown.out, Hup.out.more, HBo.out⟩
              case measure => simp [intOf]; omega
            · have hl40 : l.length ≤ 40 := by
                rcases Hkx.out with h | h
                · omega
                · rw [h]; simp
              have hpc := checkProof_c a ao cap cp (m : Int) xs l wo ((HI11.out.atI (a := a) (xs := xs) 3 rfl).mono HBo.out) Hown.out.at (by omega) (by omega)
              have hc := Hup.out.check Hv.out (Hkx.out.imp (fun h => by omega) id)
              have hcm := check_more (xs := xs) (l := l) (m := m)
              obtain ⟨pc, hpc2⟩ : ∃ pc, pc = proofCheck xs m l := ⟨_, rfl⟩
              rw [← hpc2] at hpc hc hcm
              rw [← Hn'.out] at hcm
              have Hpc := hid hpc; have Hcm := hid hcm; have Hc := hid hc
              clear hpc hcm hc hpc2
              have cg0 := cstep cf0 HBo.out
              have cg1 := cstep cf1 HBo.out
              have HIo := hid (HI11.out.step HBo.out); have HBp := hid (bstep HB11.out HBo.out)
              rw [HmI.out]
              go_wp2_with fail
              refine Hpc.out.mono ?_
              rintro e w13 ⟨rfl, hB⟩
              have HB13 := hid (bstep HBp.out hB)
              have cg0 := cstep cg0 hB
              have cg1 := cstep cg1 hB
              clear hB
              rcases Hc.out with hp0 | hp14
              · subst hp0
                have h1 := Hcm.out rfl
                have h2 : em = 0 → m < f.length := fun h => by
                  rw [Hem.out] at h
                  obtain ⟨e1, e2⟩ := makesR_zero h
                  obtain ⟨hl, _, hf, hg⟩ := checkDrum_zero e1
                  exact h1.2 f g hf hg hl e2
                first
                  | (exfalso; have := h1.1; omega)
                  | (have h3 := h1.1
                     have q1 : decide (n ≤ m) = false := by simp; omega
                     first
                       | (have hq := h2 Hem0.out
                          have q2 : decide (f.length ≤ m) = false := by simp; omega
                          clear h1 h2
                          go_wp2_with fail
                          refine (works_c w13).mono ?_
                          rintro e w14 ⟨rfl, hB⟩
                          have HB14 := hid (bstep HB13.out hB)
                          clear hB
                          go_wp2
                          go_ret
                          exact ⟨rfl, HB14.out⟩)
                       | (clear h1 h2
                          go_wp2_with fail
                          refine (works_c w13).mono ?_
                          rintro e w14 ⟨rfl, hB⟩
                          have HB14 := hid (bstep HB13.out hB)
                          clear hB
                          go_wp2
                          go_ret
                          exact ⟨rfl, HB14.out⟩))
              · subst hp14
                go_wp2_with fail
                refine (works_c w13).mono ?_
                rintro e w14 ⟨rfl, hB⟩
                have HB14 := hid (bstep HB13.out hB)
                clear hB
                go_wp2
                go_ret
                exact ⟨rfl, HB14.out⟩
  · rw [show (checkRow xs == 0) = false from by simp [hv]] at HF
    clear hv
    go_enter Try.func7, Try.ntmps7
    go_wp2_with fail
    refine HF.out.mono ?_
    rintro e wx ⟨rfl, rfl⟩
    go_wp2_with fail
    refine (works_c _).mono ?_
    rintro e w1 ⟨rfl, hB⟩
    have HB := hid (bstep HB0.out hB)
    clear hB
    go_wp2
    go_ret
    exact ⟨rfl, HB.out⟩

end Go.Proofs.Ytjnijhnphhpilaa
