/- The law PinsEither. -/
import Derived.Test.YtnnojhpioenhbaaXLa
import Derived.Test.YtnnojhpioenhbaaXQa
import Derived.Test.YtnnojhpioenhbaaKK
import Derived.Test.YtnnojhpioenhbaaKL
import Derived.Test.YtnnojhpioenhbaaKG
namespace Go.Proofs.Ytnnojhpioenhbaa
open Go.RowKit Go.Shelf

theorem levX_len (B : Bd) (R : Rd) : (levX B R).length ≤ 11 := by
  unfold levX; split
  · exact levelsL_len B R
  · simp
theorem readB_iff {B : Bd} {R : Rd} (h : readB B R = true) : (fineB B = true ∧ wideB R = false) ∧ readErr B R = 0 := by
  simpa [readB] using h
theorem any_succ {L : List Int} {at_ : Int} {k : Nat} (h : k < L.length) : ((L.take (k + 1)).any fun x => decide (x = at_)) = (((L.take k).any fun x => decide (x = at_)) || decide (nth L k = at_)) := by
  rw [List.take_succ_eq_append_getElem h, List.any_append, nth_eq h]; simp
section
variable (pa : Option Addr) (pc : Nat) (ya : Option Addr) (yc : Nat) (la : Option Addr) (lc : Nat) (sa : Option Addr) (sc : Nat) (xa : Option Addr) (xc : Nat) (B : Bd) (R : Rd) (xs : List Int) (n : Nat) (w : World)
set_option maxRecDepth 100000 in
set_option maxHeartbeats 8000000 in
theorem pinsEither_c (hworks : WorksC) (hb : BdAt w pa ya B) (hr : RdAt w la sa R) (hx : IntsAt w xa xs) (hn : n < 256) : Calls Try.prog 7 #[.agg #[.slice pa B.pins.length pc, .slice ya B.pays.length yc], .agg #[.slice la R.plumbs.length lc, .slice sa R.slots.length sc], .slice xa xs.length xc, .int .u8 (n : Int)] w (TellB w true) := by
  have HW := hid hworks
  obtain ⟨V, hV, hB0, k0, k1, k2, k3⟩ := box2 w (.slice pa B.pins.length pc) (.slice ya B.pays.length yc) (.slice la R.plumbs.length lc) (.slice sa R.slots.length sc) 25 51
  have hbV := hb.mono hB0
  have hrV := hr.mono hB0
  have HB0 := hid hB0; have HV := hid hV; have HV0 := hid (Below.refl V.heap.size V)
  have K0 := hid k0; have K1 := hid k1; have K2 := hid k2; have K3 := hid k3
  have HX := hid (hx.mono hB0)
  have HG := hid (read_c pa pc ya yc la lc sa sc B R V hbV hrV)
  unfold WorksC TellB at *
  cases hg : readB B R with
  | false =>
    rw [hg] at HG
    clear hworks hb hr hx HX hV hB0 hbV hrV hg
    go_enter Try.func7, Try.ntmps7
    go_upto_region 1 with (fail)
    rw [← HV.out]
    go_wp2_with fail
    refine (HG.out).mono ?_
    rintro e w1 ⟨rfl, hB⟩
    have HB1 := hid (bstep HV0.out hB)
    clear hB
    go_wp2_with fail
    refine (HW.out _).mono ?_
    rintro e w2 ⟨rfl, hB⟩
    have HB2 := hid (bstep HB1.out hB)
    clear hB
    go_wp2
    go_ret
    exact ⟨rfl, bstep HB0.out HB2.out⟩
  | true =>
    rw [hg] at HG
    by_cases hl20 : 20 < xs.length
    · have hI : (20 : Int) < (xs.length : Int) := by omega
      clear hworks hb hr hx HX hV hB0 hbV hrV hg hl20
      go_enter Try.func7, Try.ntmps7
      go_upto_region 1 with (fail)
      rw [← HV.out]
      go_wp2_with fail
      refine (HG.out).mono ?_
      rintro e w1 ⟨rfl, hB⟩
      have HB1 := hid (bstep HV0.out hB)
      clear hB
      go_wp2_with fail
      refine (HW.out _).mono ?_
      rintro e w2 ⟨rfl, hB⟩
      have HB2 := hid (bstep HB1.out hB)
      clear hB
      go_wp2
      go_ret
      exact ⟨rfl, bstep HB0.out HB2.out⟩
    have hI : ¬ (20 : Int) < (xs.length : Int) := by omega
    obtain ⟨⟨hfi, hwi⟩, h0⟩ := readB_iff hg
    have hl := fineB_lens hfi
    have hl2 := wideB_lens hwi
    obtain ⟨hBk, hRk⟩ := readErr_zero.1 h0
    have H1 := hid fun (w' : World) (h : Below V.heap.size V w') => pLevels_c pa pc ya yc la lc sa sc B R w' (hbV.mono h) (hrV.mono h) (by omega) (by omega) (by omega) (by omega)
    have H2 := hid fun (w' : World) (h : Below V.heap.size V w') => pRefuted_c pa pc ya yc la lc sa sc B R w' (hbV.mono h) (hrV.mono h) (by omega) (by omega) (by omega) (by omega)
    have H3 := hid fun (w' : World) (h : Below V.heap.size V w') => pCheckRefuted_c pa pc ya yc la lc sa sc xa xc B R xs w' (hbV.mono h) (hrV.mono h) (HX.out.mono h) (by omega) (by omega) (by omega) (by omega) (by omega)
    have H4 := hid fun (w' : World) => given_c n w' hn
    have hlv := givN_lv n
    have H5 := hid fun (w' : World) (h : Below V.heap.size V w') => rFirst_c pa pc ya yc la lc sa sc B R (givN n) w' (hbV.mono h) (hrV.mono h) hBk hlv hRk
    have H6 := hid fun (w' : World) => rMany_c la lc sa sc R w' (by have := hRk.m; omega)
    have H7 := hid fun (xa : Option Addr) (xc : Nat) (xs : List Int) (w' : World) (h : Below V.heap.size V w') (hx : IntsAt w' xa xs) (hl : xs.length ≤ 1000000) => pCheckRefuted_c pa pc ya yc la lc sa sc xa xc B R xs w' (hbV.mono h) (hrV.mono h) hx (by omega) (by omega) (by omega) (by omega) hl
    have H8 := hid fun (xa : Option Addr) (xc : Nat) (xs : List Int) (w' : World) (h : Below V.heap.size V w') (hx : IntsAt w' xa xs) => rCheckRefuted_c pa pc ya yc la lc sa sc xa xc B R xs w' (hbV.mono h) (hrV.mono h) hx (by omega) (by omega) (by omega)
    unfold SliceE TellI at *
    obtain ⟨at_, hat⟩ : ∃ a, a = givN n := ⟨_, rfl⟩
    have hok : okL B R at_ = decide (((firstR B R at_ : Nat) : Int) = ((manyN R : Nat) : Int)) := by unfold okL; exact decide_eq_decide.2 (by omega)
    rw [← hat] at H4 H5 hlv
    by_cases hL : levelsL B R = []
    · obtain ⟨hre, hcr⟩ := cr_ref h0 hL
      have e1 : levErr B R = 18 := by unfold levErr; rw [if_pos h0, if_pos hL]
      have e2 : levX B R = [] := by unfold levX; rw [if_pos h0, hL]
      have e3 : refErr B R = 0 := by unfold refErr; rw [if_pos h0, if_pos hL]
      have e4 : okL B R at_ = false := by
        cases ho : okL B R at_ with
        | false => rfl
        | true => have := levels_mem.2 ⟨hlv, ho⟩; rw [hL] at this; cases this
      rw [e1, e2] at H1
      rw [e3] at H2
      have Hrl := hid (show (refX B R).length ≤ 1000000 by rw [hre, refK_len]; omega)
      have H7b := hid fun (xa : Option Addr) (xc : Nat) (w' : World) (h : Below V.heap.size V w') (hx : IntsAt w' xa (refX B R)) => H7.out xa xc (refX B R) w' h hx Hrl.out
      have H8b := hid fun (xa : Option Addr) (xc : Nat) (w' : World) (h : Below V.heap.size V w') (hx : IntsAt w' xa (refX B R)) => H8.out xa xc (refX B R) w' h hx
      rw [hcr] at H7b H8b
      rw [e4] at hok
      obtain ⟨F, hF⟩ : ∃ F, F = refX B R := ⟨_, rfl⟩
      rw [← hF] at H2 H7b H8b
      obtain ⟨fi, hfi2⟩ : ∃ f, f = firstR B R at_ := ⟨_, rfl⟩
      obtain ⟨ma, hma⟩ : ∃ f, f = manyN R := ⟨_, rfl⟩
      rw [← hfi2] at H5 hok
      rw [← hma] at H6 hok
      obtain ⟨own, hown⟩ : ∃ f, f = crErr B R xs := ⟨_, rfl⟩
      rw [← hown] at H3
      have hq : ¬ (fi : Int) = (ma : Int) := of_decide_eq_false hok.symm
      have hqb : ((fi : Int) == (ma : Int)) = false := by simpa using hq
      clear hworks hb hr hx HX hV hB0 hbV hrV hg hl hl2 hl20 hfi hwi h0 hBk hRk hlv H7 H8 hre hcr hL e1 e2 e3 e4 hok Hrl hF hfi2 hma hown hat
      go_enter Try.func7, Try.ntmps7
      go_upto_region 1 with (fail)
      rw [← HV.out]
      go_wp2_with fail
      refine (HG.out).mono ?_
      rintro e w1 ⟨rfl, hB⟩
      have HB1 := hid (bstep HV0.out hB)
      have k0 := cstep k0 hB
      have k1 := cstep k1 hB
      have k2 := cstep k2 hB
      have k3 := cstep k3 hB
      clear hB
      go_wp2_with fail
      refine (H1.out _ HB1.out).mono ?_
      rintro e w2 ⟨ao, ca, rfl, _, _, hB⟩
      have HB2 := hid (bstep HB1.out hB)
      have k0 := cstep k0 hB
      have k1 := cstep k1 hB
      have k2 := cstep k2 hB
      have k3 := cstep k3 hB
      clear hB
      go_wp2_with fail
      refine (H2.out _ HB2.out).mono ?_
      rintro e w3 ⟨bo, cb, rfl, hx, _, hB⟩
      have HB3 := hid (bstep HB2.out hB)
      have k0 := cstep k0 hB
      have k1 := cstep k1 hB
      have k2 := cstep k2 hB
      have k3 := cstep k3 hB
      clear hB
      have HX := hid hx
      clear hx
      go_wp2_with fail
      refine (H3.out _ HB3.out).mono ?_
      rintro e w4 ⟨rfl, hB⟩
      have HB4 := hid (bstep HB3.out hB)
      have k0 := cstep k0 hB
      have k1 := cstep k1 hB
      have k2 := cstep k2 hB
      have k3 := cstep k3 hB
      have HX := hid (HX.out.mono hB)
      clear hB
      go_wp2_with fail
      refine (H4.out _).mono ?_
      rintro e w5 ⟨rfl, hB⟩
      have HB5 := hid (bstep HB4.out hB)
      have k0 := cstep k0 hB
      have k1 := cstep k1 hB
      have k2 := cstep k2 hB
      have k3 := cstep k3 hB
      have HX := hid (HX.out.mono hB)
      clear hB
      have jk0 := fun s : Later w5 => cstep k0 s.h
      have jk1 := fun s : Later w5 => cstep k1 s.h
      have jk2 := fun s : Later w5 => cstep k2 s.h
      have jk3 := fun s : Later w5 => cstep k3 s.h
      have H5b := hid fun s : Later w5 => H5.out s.w' (bstep HB5.out s.h)
      have H6b := hid fun s : Later w5 => H6.out s.w'
      go_upto_region 7 with (fail)
      refine wp_region_later (by kernel_rfl) (by kernel_rfl) ?_
      repeat (go_big_quiet_step ((first | (go_at_call 50; with_reducible exact callsLater (H5b.out _)) | (go_at_call 51; with_reducible exact callsLater (H6b.out _)))))
      refine wpQuiet_nil ?_
      rintro w6 ⟨⟨_, hB⟩, rfl⟩
      clear jk0 jk1 jk2 jk3 H5b H6b
      have HB6 := hid (bstep HB5.out hB)
      have k0 := cstep k0 hB
      have k1 := cstep k1 hB
      have k2 := cstep k2 hB
      have k3 := cstep k3 hB
      have HX := hid (HX.out.mono hB)
      clear hB
      go_wp2
      go_loopw [16, 17] (fun b i wr => i = .int .i64 0 ∧ b = .bool false ∧ wr = w6) (fun _ _ _ => 0)
      case atStart => exact ⟨rfl, rfl, rfl⟩
      case round =>
        obtain ⟨rfl, rfl, rfl⟩ := hrel
        go_wp2_with fail
        refine (H7b.out _ _ _ HB6.out HX.out).mono ?_
        rintro e w7 ⟨rfl, hB⟩
        have HB7 := hid (bstep HB6.out hB)
        have k0 := cstep k0 hB
        have k1 := cstep k1 hB
        have k2 := cstep k2 hB
        have k3 := cstep k3 hB
        have HX := hid (HX.out.mono hB)
        clear hB
        go_wp2_with fail
        refine (H8b.out _ _ _ HB7.out HX.out).mono ?_
        rintro e w8 ⟨rfl, hB⟩
        have HB8 := hid (bstep HB7.out hB)
        have k0 := cstep k0 hB
        have k1 := cstep k1 hB
        have k2 := cstep k2 hB
        have k3 := cstep k3 hB
        have HX := hid (HX.out.mono hB)
        clear hB
        go_wp2_with fail
        refine (HW.out _).mono ?_
        rintro e w9 ⟨rfl, hB⟩
        have HB9 := hid (bstep HB8.out hB)
        have k0 := cstep k0 hB
        have k1 := cstep k1 hB
        have k2 := cstep k2 hB
        have k3 := cstep k3 hB
        have HX := hid (HX.out.mono hB)
        clear hB
        go_wp2
        go_ret
        exact ⟨rfl, bstep HB0.out HB9.out⟩
    · obtain ⟨e1, e2, e3, e5⟩ : levErr B R = 0 ∧ levX B R = levelsL B R ∧ refErr B R = 5 ∧ refX B R = [] := by
        have e3 : refErr B R = 5 := by unfold refErr; rw [if_pos h0, if_neg hL]
        exact ⟨by unfold levErr; rw [if_pos h0, if_neg hL], by unfold levX; rw [if_pos h0], e3, by unfold refX; rw [e3, if_neg (by omega)]⟩
      have hcr := cr_not (xs := xs) hL
      have hL11 := levelsL_len B R
      have hLp : 0 < (levelsL B R).length := List.length_pos_iff.2 hL
      have hany : ((levelsL B R).any fun x => decide (x = at_)) = okL B R at_ := by
        cases ho : okL B R at_ with
        | true => exact List.any_eq_true.2 ⟨at_, levels_mem.2 ⟨hlv, ho⟩, by simp⟩
        | false =>
          refine List.any_eq_false.2 fun x hx hq => ?_
          have : x = at_ := by simpa using hq
          subst this
          have := (levels_mem.1 hx).2
          rw [ho] at this; cases this
      rw [e1, e2] at H1
      rw [e3, e5] at H2
      rw [hok] at hany
      obtain ⟨L, hLL⟩ : ∃ L, L = levelsL B R := ⟨_, rfl⟩
      rw [← hLL] at H1 hL11 hLp hany
      obtain ⟨fi, hfi2⟩ : ∃ f, f = firstR B R at_ := ⟨_, rfl⟩
      obtain ⟨ma, hma⟩ : ∃ f, f = manyN R := ⟨_, rfl⟩
      rw [← hfi2] at H5 hany
      rw [← hma] at H6 hany
      obtain ⟨own, hown⟩ : ∃ f, f = crErr B R xs := ⟨_, rfl⟩
      rw [← hown] at H3 hcr
      have HL11 := hid hL11; have HLp := hid hLp; have Hany := hid hany; have Hcr := hid hcr
      clear hworks hb hr hx HX hV hB0 hbV hrV hg hl hl2 hl20 hfi hwi h0 hBk hRk hlv H7 H8 e1 e2 e3 e5 hok hfi2 hma hown hL11 hLp hany hcr hL hLL hat
      go_enter Try.func7, Try.ntmps7
      go_upto_region 1 with (fail)
      rw [← HV.out]
      go_wp2_with fail
      refine (HG.out).mono ?_
      rintro e w1 ⟨rfl, hB⟩
      have HB1 := hid (bstep HV0.out hB)
      have k0 := cstep k0 hB
      have k1 := cstep k1 hB
      have k2 := cstep k2 hB
      have k3 := cstep k3 hB
      clear hB
      go_wp2_with fail
      refine (H1.out _ HB1.out).mono ?_
      rintro e w2 ⟨ao, ca, rfl, hx, _, hB⟩
      have HB2 := hid (bstep HB1.out hB)
      have k0 := cstep k0 hB
      have k1 := cstep k1 hB
      have k2 := cstep k2 hB
      have k3 := cstep k3 hB
      clear hB
      have HX := hid hx
      clear hx
      go_wp2_with fail
      refine (H2.out _ HB2.out).mono ?_
      rintro e w3 ⟨bo, cb, rfl, _, _, hB⟩
      have HB3 := hid (bstep HB2.out hB)
      have k0 := cstep k0 hB
      have k1 := cstep k1 hB
      have k2 := cstep k2 hB
      have k3 := cstep k3 hB
      have HX := hid (HX.out.mono hB)
      clear hB
      go_wp2_with fail
      refine (H3.out _ HB3.out).mono ?_
      rintro e w4 ⟨rfl, hB⟩
      have HB4 := hid (bstep HB3.out hB)
      have k0 := cstep k0 hB
      have k1 := cstep k1 hB
      have k2 := cstep k2 hB
      have k3 := cstep k3 hB
      have HX := hid (HX.out.mono hB)
      clear hB
      go_wp2_with fail
      refine (H4.out _).mono ?_
      rintro e w5 ⟨rfl, hB⟩
      have HB5 := hid (bstep HB4.out hB)
      have k0 := cstep k0 hB
      have k1 := cstep k1 hB
      have k2 := cstep k2 hB
      have k3 := cstep k3 hB
      have HX := hid (HX.out.mono hB)
      clear hB
      have jk0 := fun s : Later w5 => cstep k0 s.h
      have jk1 := fun s : Later w5 => cstep k1 s.h
      have jk2 := fun s : Later w5 => cstep k2 s.h
      have jk3 := fun s : Later w5 => cstep k3 s.h
      have H5b := hid fun s : Later w5 => H5.out s.w' (bstep HB5.out s.h)
      have H6b := hid fun s : Later w5 => H6.out s.w'
      go_upto_region 7 with (fail)
      refine wp_region_later (by kernel_rfl) (by kernel_rfl) ?_
      repeat (go_big_quiet_step ((first | (go_at_call 50; with_reducible exact callsLater (H5b.out _)) | (go_at_call 51; with_reducible exact callsLater (H6b.out _)))))
      refine wpQuiet_nil ?_
      rintro w6 ⟨⟨_, hB⟩, rfl⟩
      clear jk0 jk1 jk2 jk3 H5b H6b
      have HB6 := hid (bstep HB5.out hB)
      have k0 := cstep k0 hB
      have k1 := cstep k1 hB
      have k2 := cstep k2 hB
      have k3 := cstep k3 hB
      have HX := hid (HX.out.mono hB)
      clear hB
      obtain ⟨ag, hag⟩ : ∃ b, b = decide ((fi : Int) = (ma : Int)) := ⟨_, rfl⟩
      go_wp2
      go_loopw [16, 17] (fun b i wr => ∃ k : Nat, k ≤ L.length ∧ i = .int .i64 k ∧ b = .bool ((L.take k).any fun x => decide (x = at_)) ∧ Below w6.heap.size w6 wr) (fun _ i _ => L.length - (intOf i).toNat)
      case atStart => exact ⟨0, Nat.zero_le _, rfl, rfl, Below.refl _ _⟩
      case round =>
        obtain ⟨k, hk, rfl, rfl, hB⟩ := hrel
        obtain ⟨wk, rfl⟩ : ∃ wk : World, wk = wr := ⟨_, rfl⟩
        have HB := hid hB
        by_cases hlt : k < L.length
        · have hltI : (k : Int) < (L.length : Int) := by omega
          have hlt11 : (k : Int) < 11 := by have := HL11.out; omega
          obtain ⟨bb, off, rfl, _⟩ := HX.out.at hlt
          have hc := (HX.out.mono hB).cell hlt
          have hs := any_succ (at_ := at_) hlt
          obtain ⟨x, hxx⟩ : ∃ x, x = nth L k := ⟨_, rfl⟩
          rw [← hxx] at hc hs
          obtain ⟨c, hcc⟩ : ∃ c, c = decide (x = at_) := ⟨_, rfl⟩
          rw [← hcc] at hs
          obtain ⟨v, hv⟩ : ∃ v, v = ((L.take k).any fun x => decide (x = at_)) := ⟨_, rfl⟩
          rw [← hv] at hs ⊢
          have Hs := hid hs; have Hcc := hid hcc
          have e3 : IntKind.i64.wrap ((k : Int) + 1) = (k : Int) + 1 := wrap_i64_of (by omega) (by omega)
          clear hB hs hv hxx hcc
          cases v with
          | true =>
            go_wp2
            go_roundw
            case rel => exact ⟨k + 1, hlt, by go_num, by rw [Hs.out]; rfl, HB.out⟩
            case measure => simp [intOf]; omega
          | false =>
            go_wp2
            go_roundw
            case rel => exact ⟨k + 1, hlt, by go_num, by rw [Hs.out, Hcc.out]; rfl, HB.out⟩
            case measure => simp [intOf]; omega
        · have hltI : ¬ (k : Int) < (L.length : Int) := by omega
          have hkL : k = L.length := by have := HL11.out; omega
          have h11 : (L.length : Int) ≤ 11 := by have := HL11.out; omega
          have hp : (0 : Int) < (L.length : Int) := by have := HLp.out; omega
          have hcr : (own != 0) = true := by have := Hcr.out; simpa using this
          rw [hkL, List.take_length, Hany.out]
          have hkq : k = L.length := hkL
          clear hB hkL
          go_wp2_with fail
          refine (HW.out _).mono ?_
          rintro e w9 ⟨rfl, hB⟩
          have HB9 := hid (bstep (bstep HB6.out HB.out) hB)
          clear hB
          go_wp2
          go_ret
          exact ⟨rfl, bstep HB0.out HB9.out⟩
end

end Go.Proofs.Ytnnojhpioenhbaa
