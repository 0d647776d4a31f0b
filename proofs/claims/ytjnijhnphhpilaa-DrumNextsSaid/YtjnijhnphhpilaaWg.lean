/- Walks of the reference: RunOf, Run, Makes. -/
import Derived.Test.YtjnijhnphhpilaaWf
namespace Go.Proofs.Ytjnijhnphhpilaa
open Go.RowKit Go.Shelf

/-- a slice of the call's own, nil or new, is handed back -/
def RunO (w : World) (xs : List Int) (e : Ending) (w' : World) : Prop := ∃ ao cap, e = .returned (.slice ao xs.length cap) ∧ OwnI w.heap.size w' ao xs.length cap xs ∧ Below w.heap.size w w'

set_option maxRecDepth 100000 in
set_option maxHeartbeats 2000000 in
theorem runOf_c (a1 a2 : Option Addr) (c1 c2 many : Nat) (f g : List Int) (w : World) (hx : IntsAt w a1 f) (hy : IntsAt w a2 g) (hl : f.length = g.length) (hlen : g.length ≤ 40) (hNb : many ≤ 1000) (hf : isBits f = true) (hg : isBits g = true) :
    Calls Try.prog 59 #[.agg #[.slice a1 f.length c1, .slice a2 g.length c2], .int .i64 many] w (RunO w (playsF f g many)) := by
  have Hl := hid hl; clear hl
  go_enter Try.func59, Try.ntmps59
  go_wp2
  obtain ⟨W1, hW1⟩ : ∃ W1, W1 = w.alloc (.cells #[.slice a1 f.length c1, .slice a2 g.length c2] 24) := ⟨_, rfl⟩
  rw [← hW1]
  have hs1 : w.heap.size + 1 = W1.heap.size := by rw [hW1]; simp
  have hB1 : Below w.heap.size w W1 := by rw [hW1]; exact (Below.refl _ _).alloc (Nat.le_refl _) _
  have hp1 : PlAt W1 w.heap.size a1 a2 c1 c2 f g := by
    refine ⟨?_, ?_, hx.mono hB1, hy.mono hB1⟩ <;> rw [hW1] <;> simp [go_sem]
  have HB1 := hid hB1; have Hp1 := hid hp1; have Hs1 := hid hs1
  clear hB1 hp1 hW1 hs1 hx hy
  go_loopw [5, 6] (fun o n wr => ∃ (k : Nat) (ao : Option Addr) (cap : Nat), k ≤ many ∧ n = .int .i64 k ∧ o = .slice ao k cap ∧ OwnI W1.heap.size wr ao k cap (playsF f g k) ∧ Below W1.heap.size W1 wr) (fun _ n _ => many - (intOf n).toNat)
  case atStart => exact ⟨0, none, 0, Nat.zero_le _, rfl, rfl, OwnI.nil _ _, Below.refl _ _⟩
  case round =>
    obtain ⟨k, ao, cap, hk, rfl, rfl, hown, hB⟩ := hrel
    obtain ⟨wo, rfl⟩ : ∃ wo : World, wo = wr := ⟨_, rfl⟩
    have hp := Hp1.out.mono hB
    have hd0 := hp.d0; have hd1 := hp.d1
    have Hown := hid hown; have HB := hid hB; have Hp := hid hp
    clear hown hB hp
    by_cases hlt : k < many
    · by_cases hkg : k < g.length
      · obtain ⟨b2, off2, rfl, hc2⟩ := Hp.out.x2.at hkg
        go_wp2_with (at_builtin; refine wpList_app_own _ rfl _ _ rfl W1.heap.size ao k cap (playsF f g k) rfl ?c1 _ (nth g k) rfl ?c2 ?c3 ?c4 ?c5; rotate_right; (intro b' cap' w' hB' hb' hown' hgr'; refine Hid.out ?_))
        case c1 => exact Hown.out.alloc _
        case c2 => simp
        case c3 => omega
        case c4 => have := HB.out.size; simp; omega
        case c5 =>
          refine hid ?_
          have Hown' := hid hown'
          have HB' := hid (HB.out.trans (Below.trans (((Below.refl wo.heap.size wo).alloc (Nat.le_refl _) (.cells #[.int .i64 (nth g k)] 3)).mono HB.out.size) hB'))
          clear hown' hB' hgr'
          go_wp2
          go_roundw
          case rel => exact ⟨k + 1, _, cap', by omega, by go_num, rfl, by rw [playsF, playNext_early f g hkg]; exact Hown'.out, HB'.out⟩
          case measure => simp [intOf]; omega
      · have hkg' : ¬ k < g.length := hkg
        go_wp2
        go_loopw [7, 8] (fun s j w2 => ∃ i : Nat, i ≤ f.length ∧ j = .int .i64 i ∧ s = .int .i64 (sumTo f (playsF f g k) i) ∧ Below wo.heap.size wo w2) (fun _ j _ => f.length - (intOf j).toNat)
        case atStart => exact ⟨0, Nat.zero_le _, rfl, rfl, Below.refl _ _⟩
        case round =>
          obtain ⟨i, hi, rfl, rfl, hB2⟩ := hrel
          have hp2 := Hp.out.mono hB2
          have hd0' := hp2.d0
          have HB2 := hid hB2
          by_cases hif : i < f.length
          · obtain ⟨b2, off2, rfl, hc2⟩ := hp2.x1.at hif
            have hown2 := Hown.out.kept hB2
            obtain ⟨b3, off3, rfl, hc3⟩ := hown2.at.at (k := k - i - 1) (by rw [playsF_length]; have := Hl.out; omega)
            have hig : (i : Int) + 1 ≤ k := by have := Hl.out; omega
            have hbd := sumTo_bd hf (playsF_bits (f := f) hg k) i
            have hm := mul_bit (isBits_nth hf i) (isBits_nth (playsF_bits (f := f) hg k) (k - i - 1))
            have hm0 : 0 ≤ nth f i * nth (playsF f g k) (k - i - 1) := by omega
            have hm1 : nth f i * nth (playsF f g k) (k - i - 1) ≤ 1 := by omega
            have hfl : f.length ≤ 40 := by have := Hl.out; omega
            clear hm hB2 hown2 hp2
            go_wp2
            go_quiet (fail)
            go_wp2
            go_roundw
            case rel => exact ⟨i + 1, by omega, by go_num, by rw [sumTo, playsF_length, show k - 1 - i = k - i - 1 from by omega], below_drewN HB2.out _⟩
            case measure => simp [intOf]; omega
          · obtain rfl : i = f.length := by omega
            have hbd := sumTo_bd hf (playsF_bits (f := f) hg k) f.length
            have hfl : f.length ≤ 40 := by have := Hl.out; omega
            have hmod : sumTo f (playsF f g k) f.length % 2 = playNext f g (playsF f g k) := by
              unfold playNext; rw [sumTo_mod, playsF_length, if_neg hkg]
            obtain ⟨s, hs⟩ : ∃ s, s = sumTo f (playsF f g k) f.length := ⟨_, rfl⟩
            rw [← hs] at hmod hbd ⊢
            have Hmod := hid hmod
            have hown2 := Hown.out.kept hB2
            have Hown2 := hid hown2
            clear hmod hs hB2 hown2 hp2
            go_wp2_with (at_builtin; refine wpList_app_own _ rfl _ _ rfl W1.heap.size ao k cap (playsF f g k) rfl ?c1 _ (s % 2) rfl ?c2 ?c3 ?c4 ?c5; rotate_right; (intro b' cap' w' hB' hb' hown' hgr'; refine Hid.out ?_))
            case c1 => exact Hown2.out.alloc _
            case c2 => simp
            case c3 => omega
            case c4 => have := HB.out.size; have := HB2.out.size; simp; omega
            case c5 =>
              refine hid ?_
              have Hown' := hid hown'
              have HB' := hid (HB.out.trans (Below.trans ((HB2.out.mono HB.out.size).alloc (by have := HB.out.size; have := HB2.out.size; omega) (.cells #[.int .i64 (s % 2)] 3)) hB'))
              clear hown' hB' hgr'
              go_wp2
              go_roundw
              case rel => exact ⟨k + 1, _, cap', by omega, by go_num, rfl, by rw [playsF, ← Hmod.out]; exact Hown'.out, HB'.out⟩
              case measure => simp [intOf]; omega
    · go_wp2
      go_ret
      obtain rfl : k = many := by omega
      refine ⟨ao, cap, by rw [playsF_length]; rfl, by rw [playsF_length]; exact Hown.out.base (by have := Hs1.out; omega), HB1.out.trans (HB.out.mono (by have := Hs1.out; omega))⟩


theorem Sl.of_own {B : Nat} {w : World} {ao : Option Addr} {cap : Nat} {xs : List Int} (h : OwnI B w ao xs.length cap xs) : Sl w (.slice ao xs.length cap) xs :=
  ⟨ao, cap, rfl, h.at, fun e => (h.none e).2⟩

set_option maxRecDepth 100000 in
set_option maxHeartbeats 1000000 in
theorem rRun_c (a1 a2 : Option Addr) (c1 c2 : Nat) (plays : Int) (f g : List Int) (w : World) (hx : IntsAt w a1 f) (hy : IntsAt w a2 g) (hb : f.length ≤ 1000000) (hb2 : g.length ≤ 1000000) :
    Calls Try.prog 19 #[.agg #[.slice a1 f.length c1, .slice a2 g.length c2], .int .i64 plays] w (Ret2 w (runR f g plays).1 (runR f g plays).2) := by
  have B0 := (Below.refl w.heap.size w).alloc (Nat.le_refl _) (.cells #[.slice a1 f.length c1, .slice a2 g.length c2] 24)
  have HB0 := hid B0; have Hx := hid hx; have Hy := hid hy
  have H1 := hid fun (w' : World) (h : Below w.heap.size w w') => rCheckDrum_c a1 a2 c1 c2 f g w' (Hx.out.mono h) (Hy.out.mono h) hb hb2
  clear B0 hx hy
  by_cases hc : checkDrum f g = 0
  · rw [hc] at H1
    obtain ⟨hl, hlen, hf, hg⟩ := checkDrum_zero hc
    have HHrun := hid fun (w' : World) (many : Nat) (hm : many ≤ 1000) (h : Below w.heap.size w w') => runOf_c a1 a2 c1 c2 many f g w' (Hx.out.mono h) (Hy.out.mono h) hl hlen hm hf hg
    have Hc := hid hc
    clear hl hf hg hc
    by_cases hp0 : 0 ≤ plays
    · by_cases hp1 : plays ≤ 100
      · have hr : runR f g plays = (playsF f g plays.toNat, 0) := by unfold runR; rw [if_neg (by simp [Hc.out]), if_pos ⟨hp0, hp1⟩]
        rw [hr]
        obtain ⟨n, rfl⟩ := Int.eq_ofNat_of_zero_le hp0
        clear hr
        simp only [Int.toNat_natCast]
        go_enter Try.func19, Try.ntmps19
        go_wp2_with fail
        refine (H1.out _ HB0.out).mono ?_
        rintro e w1 ⟨rfl, hB1⟩
        have c0 := cstep (p := ⟨w.heap.size, 0, none⟩) (v := .slice a1 f.length c1) (by simp) hB1
        have c1' := cstep (p := ⟨w.heap.size, 1, none⟩) (v := .slice a2 g.length c2) (by simp) hB1
        have HB1 := hid (bstep HB0.out hB1); clear hB1
        go_wp2_with fail
        refine (HHrun.out w1 n (by omega) HB1.out).mono ?_
        rintro e w3 ⟨ao, cap, rfl, hv, hB3⟩
        have Hv := hid (Sl.of_own hv); have HB3 := hid (bstep HB1.out hB3)
        clear hv hB3
        go_wp2
        go_ret2
        exact ⟨_, rfl, Hv.out, HB3.out⟩
      · have hr : runR f g plays = ([], 2) := by unfold runR; rw [if_neg (by simp [Hc.out]), if_neg (by omega)]
        rw [hr]
        clear hr HHrun
        go_enter Try.func19, Try.ntmps19
        go_wp2_with fail
        refine (H1.out _ HB0.out).mono ?_
        rintro e w1 ⟨rfl, hB1⟩
        have HB1 := hid (bstep HB0.out hB1); clear hB1
        go_wp2
        go_ret2
        exact ⟨_, rfl, Sl.nil _, HB1.out⟩
    · have hr : runR f g plays = ([], 2) := by unfold runR; rw [if_neg (by simp [Hc.out]), if_neg (by omega)]
      rw [hr]
      clear hr HHrun
      go_enter Try.func19, Try.ntmps19
      go_wp2_with fail
      refine (H1.out _ HB0.out).mono ?_
      rintro e w1 ⟨rfl, hB1⟩
      have HB1 := hid (bstep HB0.out hB1); clear hB1
      go_wp2
      go_ret2
      exact ⟨_, rfl, Sl.nil _, HB1.out⟩
  · have hr : runR f g plays = ([], checkDrum f g) := by unfold runR; rw [if_pos hc]
    rw [hr]
    have hcb : (checkDrum f g != 0) = true := by simpa using hc
    clear hr hc
    generalize checkDrum f g = c at *
    go_enter Try.func19, Try.ntmps19
    go_wp2_with fail
    refine (H1.out _ HB0.out).mono ?_
    rintro e w1 ⟨rfl, hB1⟩
    have c0 := cstep (p := ⟨w.heap.size, 0, none⟩) (v := .slice a1 f.length c1) (by simp) hB1
    have c1' := cstep (p := ⟨w.heap.size, 1, none⟩) (v := .slice a2 g.length c2) (by simp) hB1
    have HB1 := hid (bstep HB0.out hB1); clear hB1
    go_wp2_with fail
    refine (H1.out _ HB1.out).mono ?_
    rintro e w2 ⟨rfl, hB2⟩
    have HB2 := hid (bstep HB1.out hB2); clear hB2
    go_wp2
    go_ret2
    exact ⟨_, rfl, Sl.nil _, HB2.out⟩

set_option maxRecDepth 100000 in
set_option maxHeartbeats 1000000 in
theorem rMakes_c (a1 a2 a3 : Option Addr) (c1 c2 c3 : Nat) (f g row : List Int) (w : World) (hx : IntsAt w a1 f) (hy : IntsAt w a2 g) (hz : IntsAt w a3 row) (hb : f.length ≤ 1000000) (hb2 : g.length ≤ 1000000) (hb3 : row.length ≤ 1000000) :
    Calls Try.prog 26 #[.agg #[.slice a1 f.length c1, .slice a2 g.length c2], .slice a3 row.length c3] w fun e w' => e = .returned (.int .i64 (makesR f g row)) ∧ Below w.heap.size w w' := by
  have B0 := (Below.refl w.heap.size w).alloc (Nat.le_refl _) (.cells #[.slice a1 f.length c1, .slice a2 g.length c2] 24)
  have HB0 := hid B0; have Hx := hid hx; have Hy := hid hy; have Hz := hid hz
  have H1 := hid fun (w' : World) (h : Below w.heap.size w w') => rCheckDrum_c a1 a2 c1 c2 f g w' (Hx.out.mono h) (Hy.out.mono h) hb hb2
  have H2 := hid fun (w' : World) (h : Below w.heap.size w w') => rCheckRow_c a3 c3 row w' (Hz.out.mono h) hb3
  clear B0 hx hy hz
  by_cases hc : checkDrum f g = 0
  · rw [hc] at H1
    obtain ⟨hl, hlen, hf, hg⟩ := checkDrum_zero hc
    have HHrun := hid fun (w' : World) (many : Nat) (hm : many ≤ 1000) (h : Below w.heap.size w w') => runOf_c a1 a2 c1 c2 many f g w' (Hx.out.mono h) (Hy.out.mono h) hl hlen hm hf hg
    have Hc := hid hc
    clear hl hf hg hc
    by_cases hr : checkRow row = 0
    · rw [hr] at H2
      have hrl := (checkRow_zero hr).1
      have Hr := hid hr; clear hr
      obtain ⟨d, hd⟩ : ∃ d : Bool, d = decide (playsF f g row.length = row) := ⟨_, rfl⟩
      have hres : makesR f g row = if d then 0 else 25 := by unfold makesR; rw [if_neg (by simp [Hc.out]), if_neg (by simp [Hr.out]), hd]; simp
      have Hres := hid hres; have Hd := hid hd; clear hres hd
      go_enter Try.func26, Try.ntmps26
      go_wp2_with fail
      refine (H1.out _ HB0.out).mono ?_
      rintro e w1 ⟨rfl, hB1⟩
      have c0 := cstep (p := ⟨w.heap.size, 0, none⟩) (v := .slice a1 f.length c1) (by simp) hB1
      have c1' := cstep (p := ⟨w.heap.size, 1, none⟩) (v := .slice a2 g.length c2) (by simp) hB1
      have HB1 := hid (bstep HB0.out hB1); clear hB1
      go_wp2_with fail
      refine (H2.out w1 HB1.out).mono ?_
      rintro e w2 ⟨rfl, rfl⟩
      go_wp2_with fail
      refine (HHrun.out w1 row.length (by omega) HB1.out).mono ?_
      rintro e w3 ⟨av, cv, rfl, hv, hB3⟩
      have HB3 := hid (bstep HB1.out hB3)
      have H4 := hid (rSame_c av a3 cv c3 (playsF f g row.length) row w3 hv.at (Hz.out.mono HB3.out) (by rw [playsF_length]; omega) hb3)
      clear hv hB3
      rw [← Hd.out] at H4
      go_wp2_with fail
      refine H4.out.mono ?_
      rintro e w4 ⟨rfl, hB4⟩
      have HB4 := hid (bstep HB3.out hB4); clear hB4 H4
      cases d with
      | true =>
        go_wp2
        go_ret
        exact ⟨ret_int (by rw [Hres.out]; rfl), HB4.out⟩
      | false =>
        go_wp2
        go_ret
        exact ⟨ret_int (by rw [Hres.out]; rfl), HB4.out⟩
    · have hres : makesR f g row = checkRow row := by unfold makesR; rw [if_neg (by simp [Hc.out]), if_pos hr]
      rw [hres]
      have hcb : (checkRow row != 0) = true := by simpa using hr
      clear hr hres HHrun
      generalize checkRow row = c at *
      go_enter Try.func26, Try.ntmps26
      go_wp2_with fail
      refine (H1.out _ HB0.out).mono ?_
      rintro e w1 ⟨rfl, hB1⟩
      have HB1 := hid (bstep HB0.out hB1); clear hB1
      go_wp2_with fail
      refine (H2.out w1 HB1.out).mono ?_
      rintro e w2 ⟨rfl, rfl⟩
      go_wp2_with fail
      refine (H2.out w1 HB1.out).mono ?_
      rintro e w2 ⟨rfl, rfl⟩
      go_wp2
      go_ret
      exact ⟨rfl, HB1.out⟩
  · have hr : makesR f g row = checkDrum f g := by unfold makesR; rw [if_pos hc]
    rw [hr]
    have hcb : (checkDrum f g != 0) = true := by simpa using hc
    clear hr hc
    generalize checkDrum f g = c at *
    go_enter Try.func26, Try.ntmps26
    go_wp2_with fail
    refine (H1.out _ HB0.out).mono ?_
    rintro e w1 ⟨rfl, hB1⟩
    have c0 := cstep (p := ⟨w.heap.size, 0, none⟩) (v := .slice a1 f.length c1) (by simp) hB1
    have c1' := cstep (p := ⟨w.heap.size, 1, none⟩) (v := .slice a2 g.length c2) (by simp) hB1
    have HB1 := hid (bstep HB0.out hB1); clear hB1
    go_wp2_with fail
    refine (H1.out _ HB1.out).mono ?_
    rintro e w2 ⟨rfl, hB2⟩
    have HB2 := hid (bstep HB1.out hB2); clear hB2
    go_wp2
    go_ret
    exact ⟨rfl, HB2.out⟩

end Go.Proofs.Ytjnijhnphhpilaa
