/- Walk: the law PleaProved, out of the contract of Works. -/
import Derived.Test.YtkioejdddmnbmaaLawS
import Derived.Test.YtkioejdddmnbmaaGq
import Derived.Test.YtkioejdddmnbmaaTc
namespace Go.Proofs.Ytkioejdddmnbmaa
open Go.RowKit Go.Shelf

set_option maxRecDepth 100000 in
set_option maxHeartbeats 8000000 in
theorem proved_law (hworks : WorksC) (facts : Int) (sa : Option Addr) (sc : Nat) (seen : List Int) (ra : Option Addr) (rc : Nat) (rs : List Rl) (ta : Option Addr) (tc : Nat) (t : List Int) (bits : Nat) (w : World) (hs : IntsAt w sa seen) (hr : RulesAt w ra rs) (ht : IntsAt w ta t) (htc : t.length ≤ tc) (hbits : bits < 65536) :
    Calls Try.prog 7 #[.agg #[.int .i64 facts, .slice sa seen.length sc, .slice ra rs.length rc], .slice ta t.length tc, .int .u16 bits] w (TrueP w) := by
  have HW := hid hworks
  clear hworks
  obtain ⟨W0, hW0⟩ : ∃ W0, W0 = w.alloc (.cells #[.int .i64 facts, .slice sa seen.length sc, .slice ra rs.length rc] 25) := ⟨_, rfl⟩
  have HB0 := hid (show Below w.heap.size w W0 by rw [hW0]; exact bnew w _)
  obtain ⟨c0, c1, c2⟩ := caseBox w facts sa ra seen.length sc rs.length rc
  rw [← hW0] at c0 c1 c2
  have HR := hid (hr.mono HB0.out); have HSn := hid (hs.mono HB0.out)
  have HT := hid (ht.mono HB0.out)
  have HS := hid hW0
  clear hs hr hW0
  have HG := hid (fine_c sa ra sc rc facts seen rs W0 HSn.out HR.out)
  unfold TellB at HG
  by_cases hg : fineB facts seen rs = true
  case neg =>
    have hgn : fineB facts seen rs = false := by simpa using hg
    rw [hgn] at HG
    clear hg hgn htc hbits
    go_enter Try.func7, Try.ntmps7
    go_wp2_with fail
    rw [← HS.out]
    refine HG.out.mono ?_
    rintro e w1 ⟨rfl, hB⟩
    have HB1 := hid (bstep HB0.out hB)
    clear hB
    go_wp2_with fail
    refine (HW.out _).mono ?_
    rintro e w2 ⟨rfl, hB⟩
    have HB2 := hid (bstep HB1.out hB)
    clear hB
    go_wp2
    go_ret
    exact ⟨rfl, HB2.out⟩
  case pos =>
    obtain ⟨hgf, hz⟩ := fine_true hg
    obtain ⟨hl1, hl2, hl3⟩ := great_lens hgf
    rw [hg] at HG
    obtain ⟨f, rfl, hf1, hf2⟩ := case_nat hz
    have hil : ∀ i, i < rs.length → (nthR rs i).1.length ≤ 1000000 := fun i hi => by have := hl3 i hi; omega
    have hv : Valid f seen rs := valid_of hz hil
    have hC : ∀ w', Below W0.heap.size W0 w' → CaseAt w' sa ra seen rs := fun w' h => great_case (HSn.out.mono h) (HR.out.mono h) hgf
    by_cases hT : 20 < t.length
    case pos =>
      have hd : decide ((t.length : Int) > 20) = true := by simp; omega
      clear hT htc hbits hC hv hil hl1 hl2 hl3 hz hgf hg
      go_enter Try.func7, Try.ntmps7
      go_wp2_with fail
      rw [← HS.out]
      refine HG.out.mono ?_
      rintro e w1 ⟨rfl, hB⟩
      have HB1 := hid (bstep HB0.out hB)
      clear hB
      go_wp2_with fail
      refine (HW.out _).mono ?_
      rintro e w2 ⟨rfl, hB⟩
      have HB2 := hid (bstep HB1.out hB)
      clear hB
      go_wp2
      go_ret
      exact ⟨rfl, HB2.out⟩
    case neg =>
    have hd : decide ((t.length : Int) > 20) = false := by simp; omega
    have Q30 := hid fun (w' : World) (h : Below W0.heap.size W0 w') => (checkSteps_c f sa sc seen ra rc rs ta tc t w' (hC w' h) (HT.out.mono h) (by omega) htc)
    have Q45 := hid fun (w' : World) => listed_c bits f w' (by omega) (by omega)
    have Q21 := hid fun (a : Option Addr) (c : Nat) (w' : World) (h : Below W0.heap.size W0 w') (hx : IntsAt w' a (listedB bits f)) => checkTruth_c f sa sc seen ra rc rs a c (listedB bits f) w' (hC w' h) hx (by have := listed_len bits f; omega)
    have Q46 := hid fun (w' : World) (h : Below W0.heap.size W0 w') => counted_c sa ra sc rc f seen rs w' (hC w' h)
    have Q23 := hid fun (w' : World) (h : Below W0.heap.size W0 w') => least_c f sa sc seen ra rc rs w' (hC w' h)
    rw [pcs_eq hil] at Q30
    rw [pTruth_eq hil, hv.truth] at Q21
    rw [hv.count, hz, show ((0 : Int) == 0) = true from rfl] at Q46
    rw [(least_eq hil).1, (least_eq hil).2] at Q23
    unfold StepsP at Q30
    unfold OwnP at Q45
    unfold ListE at Q23
    have hwr : IntKind.i64.wrap ((bits : Nat) : Int) = (bits : Int) := wrap_i64_nat (by omega)
    have hLl := rcs_len (f : Int) seen rs t
    have hso := fun he => rcs_sound (t := t) hv he
    have hti := hv.truth_iff bits
    have hlE := hv.leastE
    have hOl := listed_len bits f
    obtain ⟨own, hown⟩ : ∃ l, l = listedB bits f := ⟨_, rfl⟩
    have hom : ∀ n : Nat, bt (bitsL own) n → ((n : Nat) : Int) ∈ own := fun n hn => by
      rw [hown] at hn ⊢
      exact (bitsL_test (listed_facts hf2) n).1 hn
    rw [← hown] at Q21 Q45 hti hOl
    obtain ⟨⟨L, C, E⟩, hL⟩ : ∃ T, T = rcs f seen rs t := ⟨_, rfl⟩
    rw [← hL] at Q30 hLl hso
    dsimp only at Q30 hLl hso
    have hT12 : ∃ T, T = truthsN f seen rs := ⟨_, rfl⟩
    obtain ⟨T, hT2⟩ := hT12
    have hLE1 : T ≠ [] → rLeastL (f : Int) seen rs = listedB (derB seen rs) f := fun h => hv.leastL (by rw [← hT2]; exact h)
    have hLE0 : T = [] → rLeastL (f : Int) seen rs = [] := fun h => hv.leastN (by rw [← hT2]; exact h)
    have hder : E = 0 → ∀ x ∈ L, ∃ n : Nat, x = n ∧ n < f ∧ Der rs (SeenP seen) n := fun h => (hso h).1
    have hcla : E = 0 → C = true → T = [] := fun h h2 => by rw [hT2]; exact hv.nil.2 ((hso h).2 h2)
    have hownd : truthB seen rs (bitsL own) = true → ∀ x ∈ L, E = 0 → own.contains x = true := fun h x hx he => by
      obtain ⟨n, rfl, _, hd⟩ := hder he x hx
      obtain ⟨_, h1, h2⟩ := (mem_truthsN hv.ok).1 (hti.1 h)
      exact List.contains_iff_mem.2 (hom n (hd.into h1 h2))
    have hownT : truthB seen rs (bitsL own) = true → T ≠ [] := fun h he => by
      have := hti.1 h
      rw [← hT2, he] at this; cases this
    have hLl3 : (rLeastL (f : Int) seen rs).length ≤ 1000 := by
      by_cases h : T = []
      · rw [hLE0 h]; exact Nat.zero_le _
      · rw [hLE1 h]; have := listed_len (derB seen rs) f; omega
    have hleast : T ≠ [] → ∀ x ∈ L, E = 0 → (rLeastL (f : Int) seen rs).contains x = true := fun h x hx he => by
      obtain ⟨n, rfl, _, hd⟩ := hder he x hx
      rw [hLE1 h]
      exact List.contains_iff_mem.2 (hv.least_mem.2 hd)
    have hbnd : E = 0 → ∀ x ∈ L, 0 ≤ x ∧ x < (f : Int) := fun he x hx => by
      obtain ⟨n, rfl, h1, _⟩ := hder he x hx
      omega
    obtain ⟨M, hM⟩ : ∃ M, M = rLeastL (f : Int) seen rs := ⟨_, rfl⟩
    rw [← hM] at Q23 hleast hLl3
    rw [← hT2] at hlE Q46
    rw [hlE] at Q23
    obtain ⟨tb, htb⟩ : ∃ b, b = truthB seen rs (bitsL own) := ⟨_, rfl⟩
    rw [← htb] at Q21 hownd hownT
    obtain ⟨e2, he2⟩ : ∃ e : Int, e = (if tb = true then 0 else 24) := ⟨_, rfl⟩
    rw [← he2] at Q21
    have He2 := hid he2; clear he2
    have HLl := hid hLl; have HLl3 := hid hLl3; have HOl := hid hOl
    have Hle := hid hleast; have Hbnd := hid hbnd; have Howd := hid hownd; have HowT := hid hownT; have Hcla := hid hcla
    clear hLl hLl3 hOl hleast hbnd hownd hownT hcla hder hLE0 hLE1 hlE hti hom hso hL hM hT2 htb hown hC hv hil hl1 hl2 hl3 hz hgf hg hT htc
    go_enter Try.func7, Try.ntmps7
    go_wp2_with fail
    rw [← HS.out]
    refine HG.out.mono ?_
    rintro e w1 ⟨rfl, hB⟩
    have HB1 := hid hB
    have k0 := cstep c0 hB; have k1 := cstep c1 hB; have k2 := cstep c2 hB
    clear hB c0 c1 c2
    go_wp2_with fail
    refine (Q30.out _ HB1.out).mono ?_
    rintro e w2 ⟨a1, d1, rfl, hx1, _, hB⟩
    have HBz2 := hid (bstep HB1.out hB)
    have k0 := cstep k0 hB
    have k1 := cstep k1 hB
    have k2 := cstep k2 hB
    have X1 := hid hx1
    clear hB hx1 HB1
    go_wp2_with fail
    refine (Q45.out _).mono ?_
    rintro e w3 ⟨a2, d2, rfl, hx2, _, hB⟩
    have HBz3 := hid (bstep HBz2.out hB)
    have k0 := cstep k0 hB
    have k1 := cstep k1 hB
    have k2 := cstep k2 hB
    have X1 := hid (X1.out.mono hB)
    have X2 := hid hx2
    clear hB hx2 HBz2
    go_wp2_with fail
    refine (Q21.out _ _ _ HBz3.out X2.out).mono ?_
    rintro e w4 ⟨rfl, hB⟩
    have HBz4 := hid (bstep HBz3.out hB)
    have k0 := cstep k0 hB
    have k1 := cstep k1 hB
    have k2 := cstep k2 hB
    have X1 := hid (X1.out.mono hB)
    have X2 := hid (X2.out.mono hB)
    clear hB HBz3
    go_wp2_with fail
    refine (Q46.out _ HBz4.out).mono ?_
    rintro e w5 ⟨rfl, hB⟩
    have HBz5 := hid (bstep HBz4.out hB)
    have k0 := cstep k0 hB
    have k1 := cstep k1 hB
    have k2 := cstep k2 hB
    have X1 := hid (X1.out.mono hB)
    have X2 := hid (X2.out.mono hB)
    clear hB HBz4
    by_cases hTn : T = []
    · have htb : tb = false := by
        cases tb with
        | false => rfl
        | true => exact absurd hTn (HowT.out rfl)
      subst htb
      obtain rfl : e2 = 24 := He2.out
      subst hTn
      rw [if_pos rfl] at Q23
      by_cases hE : E = 0
      case neg =>
        have hEb : (E != 0) = true := errB hE
        clear hE
        go_wp2_with fail
        refine (HW.out _).mono ?_
        rintro e w6 ⟨rfl, hB⟩
        have HBz6 := hid (bstep HBz5.out hB)
        have k0 := cstep k0 hB
        have k1 := cstep k1 hB
        have k2 := cstep k2 hB
        have X1 := hid (X1.out.mono hB)
        have X2 := hid (X2.out.mono hB)
        clear hB HBz5
        go_wp2
        go_ret
        exact ⟨rfl, bstep HB0.out HBz6.out⟩
      case pos =>
      subst hE
      cases C with
      | true =>
        go_wp2_with fail
        refine (HW.out _).mono ?_
        rintro e w6 ⟨rfl, hB⟩
        have HBz6 := hid (bstep HBz5.out hB)
        have k0 := cstep k0 hB
        have k1 := cstep k1 hB
        have k2 := cstep k2 hB
        have X1 := hid (X1.out.mono hB)
        have X2 := hid (X2.out.mono hB)
        clear hB HBz5
        go_wp2
        go_ret
        exact ⟨rfl, bstep HB0.out HBz6.out⟩
      | false =>
      go_wp2_with fail
      refine (Q23.out _ HBz5.out).mono ?_
      rintro e w6 ⟨a3, d3, rfl, hx3, _, hB⟩
      have HBz6 := hid (bstep HBz5.out hB)
      have k0 := cstep k0 hB
      have k1 := cstep k1 hB
      have k2 := cstep k2 hB
      have X1 := hid (X1.out.mono hB)
      have X2 := hid (X2.out.mono hB)
      have X3 := hid hx3
      clear hB hx3 HBz5
      obtain ⟨wX, hwX⟩ : ∃ wX, wX = w6 := ⟨_, rfl⟩
      rw [← hwX]
      rw [← hwX] at X1 X2 X3 k0 k1 k2 HBz6
      clear hwX
      have K0 := hid k0; clear k0 k1 k2
      go_wp2
      go_loopw [16] (fun i wr => ∃ k : Nat, k ≤ L.length ∧ i = .int .i64 k ∧ Below wX.heap.size wX wr) (fun i _ => L.length - (intOf i).toNat)
      case atStart => exact ⟨0, Nat.zero_le _, rfl, Below.refl _ _⟩
      case round =>
        obtain ⟨k, hk, rfl, hB⟩ := hrel
        obtain ⟨wo, rfl⟩ : ∃ wo : World, wo = wr := ⟨_, rfl⟩
        have HBo := hid hB; clear hB
        have hLl := HLl.out
        by_cases hlt : k < L.length
        case neg =>
          obtain rfl : k = L.length := by omega
          clear hLl
          have HBc := hid (bstep HBz6.out HBo.out)
          go_wp2_with fail
          refine (HW.out _).mono ?_
          rintro e w7 ⟨rfl, hB⟩
          have HBz7 := hid (bstep HBc.out hB)
          clear hB HBc
          go_wp2
          go_ret
          exact ⟨rfl, bstep HB0.out HBz7.out⟩
        case pos =>
          have hmem := nth_mem hlt
          obtain ⟨hx0, hx1⟩ := Hbnd.out (by first | rfl | trivial) _ hmem
          obtain ⟨b1, off1, rfl, hcell⟩ := (X1.out.mono HBo.out).at hlt
          obtain ⟨x, hx⟩ : ∃ x, x = nth L k := ⟨_, rfl⟩
          rw [← hx] at hcell hx0 hx1
          have p0 : decide (x < 0) = false := decide_eq_false (by omega)
          have p1 : decide (x ≥ (f : Int)) = false := decide_eq_false (by omega)
          have p2 : decide ((f : Int) ≤ x) = false := decide_eq_false (by omega)
          have j0 := cstep K0.out HBo.out
          clear hx hmem hx0 hx1
          go_wp2_with fail
          go_quiet (fail)
          go_wp2
          go_roundw
          case rel => exact ⟨k + 1, by omega, by go_num, bstep HBo.out (Go.Joins.below_draws _ _ _)⟩
          case measure => simp [intOf]; omega
    · have htn : (0 : Int) < (T.length : Int) := by
        cases T with
        | nil => exact absurd rfl hTn
        | cons x l => first | (simp; done) | (simp; omega)
      have htz : ((T.length : Int) == 0) = false := by simp; omega
      have htg2 : decide (0 < T.length) = true := by simp; omega
      have htz2 : (T.length == 0) = false := by simp; omega
      have htg : decide ((T.length : Int) > 0) = true := by simp; omega
      rw [if_neg hTn] at Q23
      cases tb with
      | false =>
        obtain rfl : e2 = 24 := He2.out
        by_cases hE : E = 0
        case neg =>
          have hEb : (E != 0) = true := errB hE
          clear hE
          go_wp2_with fail
          refine (HW.out _).mono ?_
          rintro e w6 ⟨rfl, hB⟩
          have HBz6 := hid (bstep HBz5.out hB)
          have k0 := cstep k0 hB
          have k1 := cstep k1 hB
          have k2 := cstep k2 hB
          have X1 := hid (X1.out.mono hB)
          have X2 := hid (X2.out.mono hB)
          clear hB HBz5
          go_wp2
          go_ret
          exact ⟨rfl, bstep HB0.out HBz6.out⟩
        case pos =>
        subst hE
        cases C with
        | true => exact absurd (Hcla.out (by first | rfl | trivial) (by first | rfl | trivial)) hTn
        | false =>
        go_wp2_with fail
        refine (Q23.out _ HBz5.out).mono ?_
        rintro e w6 ⟨a3, d3, rfl, hx3, _, hB⟩
        have HBz6 := hid (bstep HBz5.out hB)
        have k0 := cstep k0 hB
        have k1 := cstep k1 hB
        have k2 := cstep k2 hB
        have X1 := hid (X1.out.mono hB)
        have X2 := hid (X2.out.mono hB)
        have X3 := hid hx3
        clear hB hx3 HBz5
        obtain ⟨wX, hwX⟩ : ∃ wX, wX = w6 := ⟨_, rfl⟩
        rw [← hwX]
        rw [← hwX] at X1 X2 X3 k0 k1 k2 HBz6
        clear hwX
        have K0 := hid k0; clear k0 k1 k2
        have htn2 := htn
        go_wp2
        go_loopw [16] (fun i wr => ∃ k : Nat, k ≤ L.length ∧ i = .int .i64 k ∧ Below wX.heap.size wX wr) (fun i _ => L.length - (intOf i).toNat)
        case atStart => exact ⟨0, Nat.zero_le _, rfl, Below.refl _ _⟩
        case round =>
          obtain ⟨k, hk, rfl, hB⟩ := hrel
          obtain ⟨wo, rfl⟩ : ∃ wo : World, wo = wr := ⟨_, rfl⟩
          have HBo := hid hB; clear hB
          have hLl := HLl.out
          by_cases hlt : k < L.length
          case neg =>
            obtain rfl : k = L.length := by omega
            clear hLl
            have HBc := hid (bstep HBz6.out HBo.out)
            go_wp2_with fail
            refine (HW.out _).mono ?_
            rintro e w7 ⟨rfl, hB⟩
            have HBz7 := hid (bstep HBc.out hB)
            clear hB HBc
            go_wp2
            go_ret
            exact ⟨rfl, bstep HB0.out HBz7.out⟩
          case pos =>
            have hmem := nth_mem hlt
            obtain ⟨hx0, hx1⟩ := Hbnd.out (by first | rfl | trivial) _ hmem
            have hLe := Hle.out hTn _ hmem (by first | rfl | trivial)
            obtain ⟨b1, off1, rfl, hcell⟩ := (X1.out.mono HBo.out).at hlt
            obtain ⟨x, hx⟩ : ∃ x, x = nth L k := ⟨_, rfl⟩
            rw [← hx] at hcell hx0 hx1 hLe
            have p0 : decide (x < 0) = false := decide_eq_false (by omega)
            have p1 : decide (x ≥ (f : Int)) = false := decide_eq_false (by omega)
            have p2 : decide ((f : Int) ≤ x) = false := decide_eq_false (by omega)
            have j0 := cstep K0.out HBo.out
            have KB := hid fun n => (hasL_c a3 d3 M x (wo.drewN n) (X3.out.mono (bstep HBo.out (Go.Joins.below_draws _ _ _))) (by have := HLl3.out; omega)).mono fun e w'' h => (⟨by rw [h.1, any_contains, hLe], n, h.2⟩ : e = .returned (.bool true) ∧ ∃ m, w'' = wo.drewN m)
            clear hx hmem hx0 hx1 hLe
            go_wp2_with fail
            go_quiet ((go_at_call 36; exact KB.out _))
            go_wp2
            go_roundw
            case rel => exact ⟨k + 1, by omega, by go_num, bstep HBo.out (Go.Joins.below_draws _ _ _)⟩
            case measure => simp [intOf]; omega
      | true =>
        obtain rfl : e2 = 0 := He2.out
        by_cases hE : E = 0
        case neg =>
          have hEb : (E != 0) = true := errB hE
          clear hE
          go_wp2_with fail
          refine (HW.out _).mono ?_
          rintro e w6 ⟨rfl, hB⟩
          have HBz6 := hid (bstep HBz5.out hB)
          have k0 := cstep k0 hB
          have k1 := cstep k1 hB
          have k2 := cstep k2 hB
          have X1 := hid (X1.out.mono hB)
          have X2 := hid (X2.out.mono hB)
          clear hB HBz5
          go_wp2
          go_ret
          exact ⟨rfl, bstep HB0.out HBz6.out⟩
        case pos =>
        subst hE
        cases C with
        | true => exact absurd (Hcla.out (by first | rfl | trivial) (by first | rfl | trivial)) hTn
        | false =>
        go_wp2_with fail
        refine (Q23.out _ HBz5.out).mono ?_
        rintro e w6 ⟨a3, d3, rfl, hx3, _, hB⟩
        have HBz6 := hid (bstep HBz5.out hB)
        have k0 := cstep k0 hB
        have k1 := cstep k1 hB
        have k2 := cstep k2 hB
        have X1 := hid (X1.out.mono hB)
        have X2 := hid (X2.out.mono hB)
        have X3 := hid hx3
        clear hB hx3 HBz5
        obtain ⟨wX, hwX⟩ : ∃ wX, wX = w6 := ⟨_, rfl⟩
        rw [← hwX]
        rw [← hwX] at X1 X2 X3 k0 k1 k2 HBz6
        clear hwX
        have K0 := hid k0; clear k0 k1 k2
        have htn2 := htn
        go_wp2
        go_loopw [16] (fun i wr => ∃ k : Nat, k ≤ L.length ∧ i = .int .i64 k ∧ Below wX.heap.size wX wr) (fun i _ => L.length - (intOf i).toNat)
        case atStart => exact ⟨0, Nat.zero_le _, rfl, Below.refl _ _⟩
        case round =>
          obtain ⟨k, hk, rfl, hB⟩ := hrel
          obtain ⟨wo, rfl⟩ : ∃ wo : World, wo = wr := ⟨_, rfl⟩
          have HBo := hid hB; clear hB
          have hLl := HLl.out
          by_cases hlt : k < L.length
          case neg =>
            obtain rfl : k = L.length := by omega
            clear hLl
            have HBc := hid (bstep HBz6.out HBo.out)
            go_wp2_with fail
            refine (HW.out _).mono ?_
            rintro e w7 ⟨rfl, hB⟩
            have HBz7 := hid (bstep HBc.out hB)
            clear hB HBc
            go_wp2
            go_ret
            exact ⟨rfl, bstep HB0.out HBz7.out⟩
          case pos =>
            have hmem := nth_mem hlt
            obtain ⟨hx0, hx1⟩ := Hbnd.out (by first | rfl | trivial) _ hmem
            have hOw := Howd.out (by first | rfl | trivial) _ hmem (by first | rfl | trivial)
            have hLe := Hle.out hTn _ hmem (by first | rfl | trivial)
            obtain ⟨b1, off1, rfl, hcell⟩ := (X1.out.mono HBo.out).at hlt
            obtain ⟨x, hx⟩ : ∃ x, x = nth L k := ⟨_, rfl⟩
            rw [← hx] at hcell hx0 hx1 hOw hLe
            have p0 : decide (x < 0) = false := decide_eq_false (by omega)
            have p1 : decide (x ≥ (f : Int)) = false := decide_eq_false (by omega)
            have p2 : decide ((f : Int) ≤ x) = false := decide_eq_false (by omega)
            have j0 := cstep K0.out HBo.out
            have KA := hid fun n => (hasL_c a2 d2 own x (wo.drewN n) (X2.out.mono (bstep HBo.out (Go.Joins.below_draws _ _ _))) (by have := HOl.out; omega)).mono fun e w'' h => (⟨by rw [h.1, any_contains, hOw], n, h.2⟩ : e = .returned (.bool true) ∧ ∃ m, w'' = wo.drewN m)
            have KB := hid fun n => (hasL_c a3 d3 M x (wo.drewN n) (X3.out.mono (bstep HBo.out (Go.Joins.below_draws _ _ _))) (by have := HLl3.out; omega)).mono fun e w'' h => (⟨by rw [h.1, any_contains, hLe], n, h.2⟩ : e = .returned (.bool true) ∧ ∃ m, w'' = wo.drewN m)
            clear hx hmem hx0 hx1 hOw hLe
            go_wp2_with fail
            go_quiet (first | (go_at_call 36; with_reducible exact KA.out _) | (go_at_call 36; with_reducible exact KB.out _))
            go_wp2
            go_roundw
            case rel => exact ⟨k + 1, by omega, by go_num, bstep HBo.out (Go.Joins.below_draws _ _ _)⟩
            case measure => simp [intOf]; omega

end Go.Proofs.Ytkioejdddmnbmaa
