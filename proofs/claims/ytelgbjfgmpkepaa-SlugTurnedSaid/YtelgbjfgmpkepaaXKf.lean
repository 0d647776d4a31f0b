/- The law SlugBest. -/
import Derived.Test.YtelgbjfgmpkepaaXIc
import Derived.Test.YtelgbjfgmpkepaaXKc
namespace Go.Proofs.Ytelgbjfgmpkepaa
open Go.RowKit Go.Shelf

theorem enters49 : ∀ args w, (callFunc 49 args).run Try.prog w = .ok (.enter 49 args) w := enters_of Try.func49 (by kernel_rfl) rfl
/-- a list of ints that was made -/
def IntsV (xs : List Int) (v : Value) (w : World) : Prop := ∃ a c, v = .slice a xs.length c ∧ IntsAt w a xs ∧ (a = none → c = 0)
def nzB4 : List (Nat × Tmp) := [(5, 33)]
def dpB4 (i : Nat) : List Nat := if i = 6 then [5] else []
section
variable (ka : Option Addr) (kc : Nat) (K : Kn) (ba : Option Addr) (bc : Nat) (bs : List Nat) (w : World)
set_option maxRecDepth 100000 in
set_option maxHeartbeats 16000000 in
theorem slugBest_c (hworks : WorksC) (hk : KnAt w ka K) (hb : BytesAt w ba bs) : Calls Try.prog 8 #[.agg #[.slice ka K.cop.length kc, .bool K.none], .slice ba bs.length bc] w (TellB w true) := by
  have HW := hid hworks
  obtain ⟨V, hV, hB0, k0, k1⟩ := box1 w (.slice ka K.cop.length kc) (.bool K.none) 24
  have hkV := hk.mono hB0
  have HB0 := hid hB0; have HV := hid hV; have HV0 := hid (Below.refl V.heap.size V)
  have K0 := hid k0; have K1 := hid k1
  have hbV := hb.mono hB0
  have HF := hid (fine_any ka kc K V hkV)
  unfold WorksC TellB at *
  by_cases hf : knErr K = 0
  · rw [decide_eq_true hf] at HF
    by_cases h100 : 100 < bs.length
    · have b1 : (100 : Int) < (bs.length : Int) := by omega
      clear hworks hk hV hB0 hkV hf hb hbV h100
      go_enter Try.func8, Try.ntmps8
      go_upto_region 1 with (fail)
      rw [← HV.out]
      go_wp2_with fail
      refine (HF.out).mono ?_
      rintro e w1 ⟨rfl, hB⟩
      have HB1 := hid (bstep HV0.out hB)
      clear hB
      go_wp2_with fail
      refine (HW.out _).mono ?_
      rintro e w2 ⟨rfl, hB⟩
      have HB2 := hid (bstep HB1.out hB)
      clear hB
      go_wp2
      go_ret
      exact ⟨rfl, bstep HB0.out HB2.out⟩
    · have b1 : ¬ (100 : Int) < (bs.length : Int) := by omega
      have hok := kok_iff.1 hf
      have hn12 := hok.n12
      have Hok := hid hok
      have H1 := hid fun (w' : World) (h : Below V.heap.size V w') => needed_38 ka kc K w' (hkV.mono h) (by omega)
      have H2 := hid fun (w' : World) (h : Below V.heap.size V w') => laid_49 K.cop.length ba bc bs w' (by omega) (hbV.mono h) (by omega)
      have H3 := hid fun (xa : Option Addr) (xc : Nat) (xs : List Int) (w' : World) (h : Below V.heap.size V w') (hx : IntsAt w' xa xs) (hxl : xs.length ≤ 1000000) (hn : xa = none → xc = 0) => after_40 ka kc K xa xc xs w' (hkV.mono h) (by omega) hx hxl hn
      have H4 := hid fun (w' : World) (h : Below V.heap.size V w') => casesOf_c ka kc K w' (hkV.mono h) (by omega) hok.cop
      have H5 := hid fun (w' : World) (h : Below V.heap.size V w') => next_42 ka kc K w' (hkV.mono h) (by omega)
      have H6 := hid fun (xa : Option Addr) (xc : Nat) (xs : List Int) (w' : World) (h : Below V.heap.size V w') (hx : IntsAt w' xa xs) (hxl : xs.length ≤ 1000000) => rCheckWeighing_c ka kc K xa xc xs w' (hkV.mono h) (by omega) hx hxl
      have hlv := laid_valid hok bs
      have hll := laidL_len K.cop.length bs
      obtain ⟨L, hL⟩ : ∃ L, L = laidL K.cop.length bs := ⟨_, rfl⟩
      rw [← hL] at hlv hll H2
      have hLw := (kw_ok hlv).2
      have Hll := hid (show L.length ≤ 1000000 by omega)
      have Hgood := hid fun (xs : List Int) => nx_good (K := K) (ws := xs)
      have Hnx := hid (nx_of hok)
      have Hne := hid (ne_of hok)
      have Haf := hid (af_of hlv)
      have Hge := hid fun h => afN_ge hok hLw.1 hLw.2 h
      have Hone := hid fun h1 => afN_one hok L h1
      have Hpos := hid fun h1 => nd_pos hok h1
      have Hnd1 := hid (show (casesOf K).length = 1 → nd 1000 (cntOf K) = 0 from fun h => nd_one 1000 (by rw [cntOf_cases]; exact h))
      obtain ⟨N, hN⟩ : ∃ N, N = nd 1000 (cntOf K) := ⟨_, rfl⟩
      rw [← hN] at Hne Hge Hpos Hnd1 Hnx
      obtain ⟨A, hA⟩ : ∃ A, A = afN K L 3 := ⟨_, rfl⟩
      rw [← hA] at Haf Hge Hone
      obtain ⟨m, hm⟩ : ∃ m, m = (casesOf K).length := ⟨_, rfl⟩
      rw [← hm] at Hone Hpos Hnd1
      obtain ⟨v1, hv1⟩ : ∃ x, x = neVal K := ⟨_, rfl⟩
      obtain ⟨v2, hv2⟩ : ∃ x, x = neErr K := ⟨_, rfl⟩
      obtain ⟨v3, hv3⟩ : ∃ x, x = afVal K L := ⟨_, rfl⟩
      obtain ⟨v4, hv4⟩ : ∃ x, x = afErr K L := ⟨_, rfl⟩
      obtain ⟨v5, hv5⟩ : ∃ x, x = nxErr K := ⟨_, rfl⟩
      rw [← hv1, ← hv2] at Hne H1
      rw [← hv3, ← hv4] at Haf
      rw [← hv5] at Hnx Hgood
      rw [← hv1] at Hgood
      have Hv3 := hid hv3; have Hv4 := hid hv4; have Hv5 := hid hv5; have HN := hid hN; have Hm := hid hm
      unfold TellIE at H1 H3
      unfold TellI at H6
      unfold ListC at H4
      rw [← hm] at H4
      clear hworks hk hV hB0 hkV hf hb hbV h100 hok hn12 hlv hll hL hLw hN hA hm hv1 hv2 hv3 hv4 hv5
      go_enter Try.func8, Try.ntmps8
      go_upto_region 1 with (fail)
      rw [← HV.out]
      go_wp2_with fail
      refine (HF.out).mono ?_
      rintro e w1 ⟨rfl, hB⟩
      have HB1 := hid (bstep HV0.out hB)
      have k0 := cstep k0 hB
      have k1 := cstep k1 hB
      clear hB
      go_wp2_with fail
      refine (H1.out _ HB1.out).mono ?_
      rintro e w2 ⟨rfl, hB⟩
      have HB2 := hid (bstep HB1.out hB)
      have k0 := cstep k0 hB
      have k1 := cstep k1 hB
      clear hB
      have j0 := fun (J : World → Prop) (s : LaterJ w2 J) => cstep k0 s.h
      have j1 := fun (J : World → Prop) (s : LaterJ w2 J) => cstep k1 s.h
      go_upto_region 4 with (fail)
      go_cut [7, 8] from 27 to 36 (fun a b w3 => a = .int .i64 v3 ∧ b = .int .i64 v4 ∧ Below w2.heap.size w2 w3)
      case first =>
        refine wp_region_mix3 (n := 12) (nz := nzB4) (kn := [6]) (dp := dpB4) (bs := [.keep, .keep, .keep, .keep, .keep, .off, .say (.tuple #[.int .i64 v3, .int .i64 v4]), .keep, .keep, .keep, .keep, .keep]) (Φ := fun _ _ v _ q => IntsV L v q) (by kernel_rfl) (by kernel_rfl) (by simp [nzB4]) ?_
        simp only [blind2, Bk.on, blindO, knO]
        repeat (gi_big_quiet_step (fail))
        refine wpQuietIn_nil ?_
        refine ⟨?_, ?_, ?_, ?_⟩
        · intro J hJ hne
          repeat (gi_big_quiet_step (fail))
          exact wpQuietIn_nil rfl
        all_goals (generalize hG : (Act.mk _ _ : Act) = G)
        all_goals (have hGz : G.tmps.size = 130 := by rw [← hG]; rfl)
        · intro i hi o ho r s hs hd
          obtain rfl : 5 = i := by simpa [isNz, nzB4] using hi
          simp only [List.getElem?_cons_succ, List.getElem?_cons_zero, Option.some.injEq] at ho
          subst ho
          refine ⟨by simp [Region.wanted], ?_⟩
          refine makes_call2 _ _ _ _ _ _ s 49 (.tmp 31) (.tmp 32) 3 54 _ _ (putN_ev (by simp [nzB4]) (by rw [← hG] <;> rfl)) (putN_ev (by simp [nzB4]) (by rw [← hG] <;> rfl)) enters49 ?_
          exact (H2.out s (bstep HB2.out hs)).mono fun e w' ⟨a, c, h1, h2, h3, h4⟩ => ⟨_, h1, h4, a, c, rfl, h2, h3⟩
        · intro i hi o ho r s hs hd
          obtain rfl : i = 6 := by simpa [isKn] using hi
          simp only [List.getElem?_cons_succ, List.getElem?_cons_zero, Option.some.injEq] at ho
          subst ho
          obtain ⟨p0, q0, h1, h2⟩ := hd 5 (by simp [dpB4])
          have h1 : IntsV L (r 5) q0 := h1
          obtain ⟨a, c, hr, hI, hn⟩ := h1
          refine makes_call2 _ _ _ _ _ _ s 40 (.tmp 28) (.tmp 33) 24 22 _ _ (putN_ev (by simp [nzB4]) (by rw [← hG] <;> rfl)) ((putN_ev_nz (i := 5) (by simp [nzB4]) ⟨(5, 33), by simp [nzB4], rfl⟩ (by rw [hGz]; decide)).trans hr) enters40 ?_
          exact (H3.out a c L s (bstep HB2.out hs) (hI.mono h2) Hll.out hn).mono fun e w' h => ⟨_, h.1, h.2, by rw [← Hv3.out, ← Hv4.out]; rfl⟩
        · intro r p0 q0 s hs hm hsep
          have HBs := hid hs
          clear hs hm hsep j0 j1
          rw [← hG]
          simp only [putN, nzB4, List.foldl_cons, List.foldl_nil, Act.put, List.setIfInBounds_toArray, List.set_cons_succ, List.set_cons_zero, List.drop_succ_cons, List.drop_zero]
          clear hG hGz
          gi_wp2
          go_wp2
          go_meet
          exact ⟨rfl, rfl, HBs.out⟩
      obtain ⟨rfl, rfl, hB⟩ := hcut
      rename World => w3
      have HB3 := hid (bstep HB2.out hB)
      have k0 := cstep k0 hB; have k1 := cstep k1 hB
      clear hB j0 j1
      go_wp2_with fail
      refine (H4.out _ HB3.out).mono ?_
      rintro e w4 ⟨la, lc, rfl, _, _, hB⟩
      have HB4 := hid (bstep HB3.out hB)
      have k0 := cstep k0 hB
      have k1 := cstep k1 hB
      clear hB
      by_cases hone : m = 1
      · have Hz := hid (Hnd1.out hone); have Ha := hid (Hone.out hone)
        rcases Hne.out with ⟨h1, _, _⟩ | ⟨_, rfl, rfl⟩
        · have := Hz.out; omega
        · rcases Haf.out with ⟨h1, _, _⟩ | ⟨_, rfl, rfl⟩
          · have := Ha.out; omega
          · have b2 : ((m : Int) == 1) = true := by simp [hone]
            have e1 : ((N : Int) == 0) = true := by rw [Hz.out]; rfl
            have e2 : ((A : Int) == 0) = true := by rw [Ha.out]; rfl
            clear hone
            go_wp2_with fail
            refine (HW.out _).mono ?_
            rintro e w5 ⟨rfl, hB⟩
            have HB5 := hid (bstep HB4.out hB)
            clear hB
            go_wp2
            go_ret
            exact ⟨rfl, bstep HB0.out HB5.out⟩
      · have b2 : ((m : Int) == 1) = false := by simpa using (show ¬ (m : Int) = 1 by omega)
        have Hp := hid (Hpos.out hone)
        clear hone
        go_wp2_with fail
        refine (H5.out _ HB4.out).mono ?_
        rintro e w5 hN
        have hB := hN.below
        have HB5 := hid (bstep HB4.out hB)
        have k0 := cstep k0 hB; have k1 := cstep k1 hB
        clear hB
        rcases Hne.out with ⟨h1, h2, h3⟩ | ⟨h1, h2, h3⟩
        · have hv5 : v5 = 21 := by have := Hnx.out; rw [if_neg (by omega), if_pos (by omega)] at this; exact this
          have hbad := hN.bad (fun h => by rw [← Hv5.out] at h; omega)
          rw [← Hv5.out, hv5] at hbad
          subst hbad
          subst h2
          have hv4 : v4 = 21 := by
            rcases Haf.out with ⟨_, h, _⟩ | ⟨h, _, _⟩
            · exact h
            · have := Hge.out h; omega
          subst hv4
          clear hN h1 h3 hv5
          go_wp2_with fail
          refine (HW.out _).mono ?_
          rintro e w6 ⟨rfl, hB⟩
          have HB6 := hid (bstep HB5.out hB)
          clear hB
          go_wp2
          go_ret
          exact ⟨rfl, bstep HB0.out HB6.out⟩
        · have hv5 : v5 = 0 := by have h9 := Hp.out; have := Hnx.out; rw [if_neg (by omega), if_neg (by omega)] at this; exact this
          obtain ⟨xs, xa, xc, rfl, hI, hxn, hkw, haf⟩ := hN.good (Hv5.out.symm.trans hv5)
          obtain ⟨g1, g2, g3, g4, g5⟩ := Hgood.out xs hv5 hkw haf
          have HI := hid hI; have Hxn := hid hxn; have Hkw := hid hkw; have G2 := hid g2; have G3 := hid g3
          have HXl := hid (show xs.length ≤ 1000000 by omega)
          have hxl : ¬ (16 : Int) < (xs.length : Int) := by omega
          subst h2
          have es : IntKind.i64.wrap (v1 - 1) = v1 - 1 := wrap_i64_of (by omega) (by omega)
          have c1 : ¬ v1 < 1 := by omega
          have e8 : (v1 - 1 == v1 - 1) = true := by simp
          have Hlow := hid (show v4 = 0 → ¬ v3 < v1 - 1 from fun h => by
            rcases Haf.out with ⟨_, h6, _⟩ | ⟨h6, _, h7⟩
            · omega
            · have := (Hge.out h6).1; omega)
          have Hv4c := hid (show v4 = 0 ∨ v4 = 21 from by rcases Haf.out with ⟨_, h, _⟩ | ⟨_, h, _⟩ <;> simp [h])
          clear hN hI hxn hkw haf g1 g2 g3 g4 g5 h1 h3 hv5
          rcases Hv4c.out with rfl | rfl
          · have c2 := Hlow.out rfl
            go_wp2_with fail
            refine (H6.out xa xc xs _ HB5.out HI.out HXl.out).mono ?_
            rintro e w6 ⟨rfl, hB⟩
            have HB6 := hid (bstep HB5.out hB)
            have k0 := cstep k0 hB; have k1 := cstep k1 hB
            have HI := hid (HI.out.mono hB)
            rw [Hkw.out]
            clear hB
            go_wp2_with fail
            refine (H3.out xa xc xs _ HB6.out HI.out HXl.out Hxn.out).mono ?_
            rintro e w7 ⟨rfl, hB⟩
            have HB7 := hid (bstep HB6.out hB)
            rw [G2.out, G3.out]
            clear hB
            go_wp2_with fail
            refine (HW.out _).mono ?_
            rintro e w8 ⟨rfl, hB⟩
            have HB8 := hid (bstep HB7.out hB)
            clear hB
            go_wp2
            go_ret
            exact ⟨rfl, bstep HB0.out HB8.out⟩
          · go_wp2_with fail
            refine (H6.out xa xc xs _ HB5.out HI.out HXl.out).mono ?_
            rintro e w6 ⟨rfl, hB⟩
            have HB6 := hid (bstep HB5.out hB)
            have k0 := cstep k0 hB; have k1 := cstep k1 hB
            have HI := hid (HI.out.mono hB)
            rw [Hkw.out]
            clear hB
            go_wp2_with fail
            refine (H3.out xa xc xs _ HB6.out HI.out HXl.out Hxn.out).mono ?_
            rintro e w7 ⟨rfl, hB⟩
            have HB7 := hid (bstep HB6.out hB)
            rw [G2.out, G3.out]
            clear hB
            go_wp2_with fail
            refine (HW.out _).mono ?_
            rintro e w8 ⟨rfl, hB⟩
            have HB8 := hid (bstep HB7.out hB)
            clear hB
            go_wp2
            go_ret
            exact ⟨rfl, bstep HB0.out HB8.out⟩
  · rw [decide_eq_false hf] at HF
    clear hworks hk hV hB0 hkV hf hb hbV
    go_enter Try.func8, Try.ntmps8
    go_upto_region 1 with (fail)
    rw [← HV.out]
    go_wp2_with fail
    refine (HF.out).mono ?_
    rintro e w1 ⟨rfl, hB⟩
    have HB1 := hid (bstep HV0.out hB)
    clear hB
    go_wp2_with fail
    refine (HW.out _).mono ?_
    rintro e w2 ⟨rfl, hB⟩
    have HB2 := hid (bstep HB1.out hB)
    clear hB
    go_wp2
    go_ret
    exact ⟨rfl, bstep HB0.out HB2.out⟩
end

end Go.Proofs.Ytelgbjfgmpkepaa
