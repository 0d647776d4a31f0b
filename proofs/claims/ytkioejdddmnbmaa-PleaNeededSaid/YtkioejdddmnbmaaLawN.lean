/- Walk: the law PleaNeeded, out of the contract of Works. -/
import Derived.Test.YtkioejdddmnbmaaPo
import Derived.Test.YtkioejdddmnbmaaUn
namespace Go.Proofs.Ytkioejdddmnbmaa
open Go.RowKit Go.Shelf

set_option maxRecDepth 100000 in
set_option maxHeartbeats 8000000 in
theorem needed_law (hworks : WorksC) (facts : Int) (sa : Option Addr) (sc : Nat) (seen : List Int) (ra : Option Addr) (rc : Nat) (rs : List Rl) (n p : Nat) (w : World) (hs : IntsAt w sa seen) (hr : RulesAt w ra rs) (hn : n < 256) (hp : p < 65536) :
    Calls Try.prog 13 #[.agg #[.int .i64 facts, .slice sa seen.length sc, .slice ra rs.length rc], .int .u8 n, .int .u16 p] w (TrueP w) := by
  have HW := hid hworks
  clear hworks
  obtain ⟨W0, hW0⟩ : ∃ W0, W0 = w.alloc (.cells #[.int .i64 facts, .slice sa seen.length sc, .slice ra rs.length rc] 25) := ⟨_, rfl⟩
  have HB0 := hid (show Below w.heap.size w W0 by rw [hW0]; exact bnew w _)
  obtain ⟨c0, c1, c2⟩ := caseBox w facts sa ra seen.length sc rs.length rc
  rw [← hW0] at c0 c1 c2
  have HR := hid (hr.mono HB0.out); have HSn := hid (hs.mono HB0.out)
  have HS := hid hW0
  clear hs hr hW0
  have HG := hid (fine_c sa ra sc rc facts seen rs W0 HSn.out HR.out)
  unfold TellB at HG
  by_cases hg : fineB facts seen rs = true
  case neg =>
    have hgn : fineB facts seen rs = false := by simpa using hg
    rw [hgn] at HG
    clear hg hgn hn hp
    go_enter Try.func13, Try.ntmps13
    go_wp2_with fail
    rw [← HS.out]
    refine HG.out.mono ?_
    rintro e w1 ⟨rfl, hB⟩
    have HB1 := hid (bstep HB0.out hB)
    clear hB
    go_wp2_with fail
    refine (HW.out _).mono ?_
    rintro e w2 ⟨rfl, hB⟩
    have HB2 := hid (bstep HB1.out hB)
    clear hB
    go_wp2
    go_ret
    exact ⟨rfl, HB2.out⟩
  case pos =>
    obtain ⟨hgf, hz⟩ := fine_true hg
    obtain ⟨hl1, hl2, hl3⟩ := great_lens hgf
    rw [hg] at HG
    obtain ⟨f, rfl, hf1, hf2⟩ := case_nat hz
    have hil : ∀ i, i < rs.length → (nthR rs i).1.length ≤ 1000000 := fun i hi => by have := hl3 i hi; omega
    have hv : Valid f seen rs := valid_of hz hil
    have hC : ∀ w', Below W0.heap.size W0 w' → CaseAt w' sa ra seen rs := fun w' h => great_case (HSn.out.mono h) (HR.out.mono h) hgf
    obtain ⟨i, hi⟩ : ∃ i, i = n % f := ⟨_, rfl⟩
    have hif : i < f := by rw [hi]; exact Nat.mod_lt _ (by omega)
    have hwr : IntKind.i64.wrap ((n : Nat) : Int) = (n : Int) := wrap_i64_nat (by omega)
    have hmod : ((n : Nat) : Int).tmod (f : Int) = (i : Int) := by rw [hi, Int.tmod_eq_emod_of_nonneg (by omega)]; rfl
    have hwi : IntKind.i64.wrap ((i : Nat) : Int) = (i : Int) := wrap_i64_nat (by omega)
    have hf0 : decide ((f : Int) = 0) = false := decide_eq_false (by omega)
    have hf0b : ((f : Int) == 0) = false := by simp; omega
    have hwp : IntKind.i64.wrap ((p : Nat) : Int) = (p : Int) := wrap_i64_nat (by omega)
    have hsl : bitsL seen < 4096 := bitsTo_lt hv.ok.s seen.length (Nat.le_refl _)
    have hand := bits_and_i64 (a := p) (b := bitsL seen) (by omega) (by omega)
    have hsO := hv.part (and_in p (bitsL seen))
    have hbO : p &&& bitsL seen ≤ bitsL seen := Nat.and_le_right
    obtain ⟨sb, hsb⟩ : ∃ s, s = bitsL seen := ⟨_, rfl⟩
    have H49 := hid fun (w' : World) (h : Below W0.heap.size W0 w') => (bits_c sa sc seen w' ((hC w' h).s) (by omega) hv.ok.s).mono fun e w'' q => (⟨q.1, by rw [q.2]; exact Below.refl _ _⟩ : e = .returned (.int .i64 (bitsL seen)) ∧ Below w'.heap.size w' w'')
    rw [← hsb] at H49 hand hsO hbO hsl
    obtain ⟨ob, hob⟩ : ∃ s, s = p &&& sb := ⟨_, rfl⟩
    rw [← hob] at hand hsO hbO
    have L45 := hid fun (w' : World) => listed_c ob f w' (by omega) (by omega)
    unfold OwnP at L45
    have hOl0 := listed_len ob f
    obtain ⟨O, hO⟩ : ∃ O, O = listedB ob f := ⟨_, rfl⟩
    rw [← hO] at L45 hsO hOl0
    have hvO := hv.sub hsO
    have Q38 := hid fun (w' : World) (h : Below W0.heap.size W0 w') => pNeeded_c f sa sc seen ra rc rs i w' (hC w' h) (by omega)
    have Q32 := hid fun (w' : World) (h : Below W0.heap.size W0 w') => pSteps_c f sa sc seen ra rc rs i w' (hC w' h)
    have X32 := hid fun (l : List Int) (a : Option Addr) (c : Nat) (w' : World) (h : Below W0.heap.size W0 w') (hx : IntsAt w' a l) (h1 : l.length ≤ 1000) => pSteps_c f a c l ra rc rs i w' ⟨hx, (hC w' h).r, by omega, (hC w' h).rl, hil⟩
    obtain ⟨L, hL⟩ : ∃ L, L = pNeededL (f : Int) seen rs i := ⟨_, rfl⟩
    unfold ListC at Q38 Q32 X32
    have HOl := hid (show O.length ≤ 1000 by omega)
    have Hand := hid hand
    clear hand hOl0 hO hob hsb hbO hsl
    by_cases hd : Der rs (SeenP seen) i
    case neg =>
      obtain ⟨q1, q2⟩ := hv.neededN hif hd
      have q3 := (hv.stepsN hif hd).1
      have q4 := (hvO.stepsN hif (fun h => hd (h.more (fun _ h => h) (fun n hn => .seen (hsO.subset hn))))).1
      rw [← hL] at q2 Q38
      rw [q1] at Q38
      rw [q2] at Q38
      rw [q3] at Q32
      have XO := hid fun a c w' h hx h1 => X32.out O a c w' h hx h1
      rw [q4] at XO
      clear q1 q2 q3 q4 hd X32 hC hv hvO hsO hil hl1 hl2 hl3 hz hgf hg hn hp hi hif hL
      go_enter Try.func13, Try.ntmps13
      go_wp2_with fail
      rw [← HS.out]
      refine HG.out.mono ?_
      rintro e w1 ⟨rfl, hB⟩
      have HB1 := hid hB
      have k0 := cstep c0 hB; have k1 := cstep c1 hB; have k2 := cstep c2 hB
      clear hB c0 c1 c2
      have hand := Hand.out
      go_wp2_with fail
      refine (Q38.out _ HB1.out).mono ?_
      rintro e w2 ⟨a1, d1, rfl, hx1, _, hc1, hB⟩
      have HBz2 := hid (bstep HB1.out hB)
      have k0 := cstep k0 hB
      have k1 := cstep k1 hB
      have k2 := cstep k2 hB
      have X1 := hid hx1
      clear hB hx1 HB1
      have Hc1 := hid hc1
      clear hc1
      go_wp2_with fail
      refine (Q32.out _ HBz2.out).mono ?_
      rintro e w3 ⟨a2, d2, rfl, hx2, _, hc2, hB⟩
      have HBz3 := hid (bstep HBz2.out hB)
      have k0 := cstep k0 hB
      have k1 := cstep k1 hB
      have k2 := cstep k2 hB
      have X1 := hid (X1.out.mono hB)
      clear hB HBz2 hx2 hc2
      have Z49 := hid fun (w' : World) (h : Below w3.heap.size w3 w') => H49.out w' (bstep HBz3.out h)
      go_upto_region 6 with (fail)
      go_cut [12] from 42 to 50 (fun s wc => ∃ a d, s = .slice a O.length d ∧ IntsAt wc a O ∧ Below w3.heap.size w3 wc)
      case first =>
        go_region_held3 (fun w' => w'.cell? ⟨w.heap.size, 0, none⟩ = some (.int .i64 (f : Int)) ∧ w'.cell? ⟨w.heap.size, 1, none⟩ = some (.slice sa seen.length sc) ∧ w'.cell? ⟨w.heap.size, 2, none⟩ = some (.slice ra rs.length rc)) (first | exact ⟨k0, k1, k2⟩ | exact ⟨cstep k0 (by with_reducible repeat (first | exact Below.refl _ _ | refine Below.drew ?_ | refine bstep ?_ (bnew _ _) | (refine bstep ?_ (by assumption)))), cstep k1 (by with_reducible repeat (first | exact Below.refl _ _ | refine Below.drew ?_ | refine bstep ?_ (bnew _ _) | (refine bstep ?_ (by assumption)))), cstep k2 (by with_reducible repeat (first | exact Below.refl _ _ | refine Below.drew ?_ | refine bstep ?_ (bnew _ _) | (refine bstep ?_ (by assumption))))⟩ | go_keep)
          (first
            | (go_at_call 49; (with_reducible refine (Z49.out _ (by with_reducible repeat (first | exact Below.refl _ _ | refine Below.drew ?_ | refine bstep ?_ (bnew _ _) | (refine bstep ?_ (by assumption))))).mono ?_); rintro e wx1 ⟨rfl, hB1⟩)
            | (go_at_call 45; (with_reducible refine (L45.out _).mono ?_); rintro e wx2 ⟨a3, d3, rfl, hx3, _, hB2⟩))
        all_goals (
          go_wp2
          go_meet
          exact ⟨a3, d3, rfl, (by with_reducible repeat (first | assumption | refine undrewI ?_ | (refine IntsAt.mono ?_ (by assumption)))), (by with_reducible repeat (first | exact Below.refl _ _ | refine Below.drew ?_ | refine bstep ?_ (bnew _ _) | (refine bstep ?_ (by assumption))))⟩)
      obtain ⟨a3, d3, rfl, hx3, hB⟩ := hcut
      rename World => wA
      clear Z49
      have HBz4 := hid (bstep HBz3.out hB)
      have k0 := cstep k0 hB
      have k1 := cstep k1 hB
      have k2 := cstep k2 hB
      have X1 := hid (X1.out.mono hB)
      have X3 := hid hx3
      clear hB hx3 HBz3
      go_wp2_with fail
      refine (XO.out _ _ _ HBz4.out X3.out HOl.out).mono ?_
      rintro e w5 ⟨a4, d4, rfl, hx4, _, hc4, hB⟩
      have HBz5 := hid (bstep HBz4.out hB)
      have k0 := cstep k0 hB
      have k1 := cstep k1 hB
      have k2 := cstep k2 hB
      have X1 := hid (X1.out.mono hB)
      have X3 := hid (X3.out.mono hB)
      clear hB HBz4 hx4 hc4
      go_wp2_with fail
      refine (HW.out _).mono ?_
      rintro e w6 ⟨rfl, hB⟩
      have HBz6 := hid (bstep HBz5.out hB)
      have k0 := cstep k0 hB
      have k1 := cstep k1 hB
      have k2 := cstep k2 hB
      have X1 := hid (X1.out.mono hB)
      have X3 := hid (X3.out.mono hB)
      clear hB HBz5
      go_wp2
      go_ret
      exact ⟨rfl, bstep HB0.out HBz6.out⟩
    case pos =>
    obtain ⟨q1, q2, q3, q4⟩ := hv.needed hif hd
    have q5 := (hv.stepsD hif hd).1
    rw [← hL] at q2 q3 q4 Q38
    have q6 : ∀ k, k < L.length → pStepsE (f : Int) (outAt L k) rs i = 5 := fun k hk => by
      have := hv.needed_out hif hd (k := k) (by rw [← hL]; exact hk)
      rw [← hL] at this; exact this
    have hvL := hv.sub q2
    have q7 := (hvL.stepsD hif q3).1
    have hrL : rising (f : Int) L = true := rise_rising hvL.rise hvL.all
    have hLl : L.length ≤ 1000 := by have := q2.length_le; omega
    have hLs : ∀ k, k < L.length → seen.contains (nth L k) = true := fun k hk => List.contains_iff_mem.2 (q2.subset (nth_mem hk))
    rw [q1] at Q38
    rw [q5] at Q32
    have XL := hid fun a c w' h hx h1 => X32.out L a c w' h hx h1
    rw [q7] at XL
    have XP := hid fun (k : Nat) (hk : k < L.length) (a : Option Addr) (c : Nat) (w' : World) (h : Below W0.heap.size W0 w') (hx : IntsAt w' a (outAt L k)) (h1 : (outAt L k).length ≤ 1000) => (show Calls Try.prog 32 #[.agg #[.int .i64 (f : Int), .slice a (outAt L k).length c, .slice ra rs.length rc], .int .i64 i] w' (fun e w'' => ∃ ao n cap, e = .returned (.tuple #[.slice ao n cap, .int .i64 5]) ∧ Below w'.heap.size w' w'') from by
      have q := X32.out (outAt L k) a c w' h hx h1
      rw [q6 k hk] at q
      exact q.mono fun e w'' ⟨ao, cap, e1, _, _, _, hB⟩ => ⟨ao, _, cap, e1, hB⟩)
    have H53 := hid fun (a : Option Addr) (c : Nat) (w' : World) (hx : IntsAt w' a L) => isList_c a c L f w' hx (by omega)
    rw [hrL] at H53
    have KS := hid fun (k : Nat) (hk : k < L.length) (w' : World) (h : Below W0.heap.size W0 w') => (show Calls Try.prog 36 #[.slice sa seen.length sc, .int .i64 (nth L k)] w' (fun e w'' => e = .returned (.bool true) ∧ w'' = w') from by
      have q := hasL_c sa sc seen (nth L k) w' ((hC w' h).s) (by omega)
      rw [any_contains, hLs k hk] at q; exact q)
    have HLl := hid hLl
    by_cases ho : Der rs (SeenP O) i
    case pos =>
      have r1 := (hvO.stepsD hif ho).1
      have r2 := q4 O hsO ho
      have XO := hid fun a c w' h hx h1 => X32.out O a c w' h hx h1
      rw [r1] at XO
      have hOL : decide (O.length < L.length) = false := decide_eq_false (by omega)
      have hOL2 : decide ((O.length : Int) < (L.length : Int)) = false := decide_eq_false (by omega)
      clear r1 r2 q1 q2 q3 q4 q5 q6 q7 hrL hLl hLs hvL ho hd X32 hC hv hvO hsO hil hl1 hl2 hl3 hz hgf hg hn hp hi hif hL
      go_enter Try.func13, Try.ntmps13
      go_wp2_with fail
      rw [← HS.out]
      refine HG.out.mono ?_
      rintro e w1 ⟨rfl, hB⟩
      have HB1 := hid hB
      have k0 := cstep c0 hB; have k1 := cstep c1 hB; have k2 := cstep c2 hB
      clear hB c0 c1 c2
      have hand := Hand.out
      go_wp2_with fail
      refine (Q38.out _ HB1.out).mono ?_
      rintro e w2 ⟨a1, d1, rfl, hx1, _, hc1, hB⟩
      have HBz2 := hid (bstep HB1.out hB)
      have k0 := cstep k0 hB
      have k1 := cstep k1 hB
      have k2 := cstep k2 hB
      have X1 := hid hx1
      clear hB hx1 HB1
      have Hc1 := hid hc1
      clear hc1
      go_wp2_with fail
      refine (Q32.out _ HBz2.out).mono ?_
      rintro e w3 ⟨a2, d2, rfl, hx2, _, hc2, hB⟩
      have HBz3 := hid (bstep HBz2.out hB)
      have k0 := cstep k0 hB
      have k1 := cstep k1 hB
      have k2 := cstep k2 hB
      have X1 := hid (X1.out.mono hB)
      clear hB HBz2 hx2 hc2
      have Z49 := hid fun (w' : World) (h : Below w3.heap.size w3 w') => H49.out w' (bstep HBz3.out h)
      go_upto_region 6 with (fail)
      go_cut [12] from 42 to 50 (fun s wc => ∃ a d, s = .slice a O.length d ∧ IntsAt wc a O ∧ Below w3.heap.size w3 wc)
      case first =>
        go_region_held3 (fun w' => w'.cell? ⟨w.heap.size, 0, none⟩ = some (.int .i64 (f : Int)) ∧ w'.cell? ⟨w.heap.size, 1, none⟩ = some (.slice sa seen.length sc) ∧ w'.cell? ⟨w.heap.size, 2, none⟩ = some (.slice ra rs.length rc)) (first | exact ⟨k0, k1, k2⟩ | exact ⟨cstep k0 (by with_reducible repeat (first | exact Below.refl _ _ | refine Below.drew ?_ | refine bstep ?_ (bnew _ _) | (refine bstep ?_ (by assumption)))), cstep k1 (by with_reducible repeat (first | exact Below.refl _ _ | refine Below.drew ?_ | refine bstep ?_ (bnew _ _) | (refine bstep ?_ (by assumption)))), cstep k2 (by with_reducible repeat (first | exact Below.refl _ _ | refine Below.drew ?_ | refine bstep ?_ (bnew _ _) | (refine bstep ?_ (by assumption))))⟩ | go_keep)
          (first
            | (go_at_call 49; (with_reducible refine (Z49.out _ (by with_reducible repeat (first | exact Below.refl _ _ | refine Below.drew ?_ | refine bstep ?_ (bnew _ _) | (refine bstep ?_ (by assumption))))).mono ?_); rintro e wx1 ⟨rfl, hB1⟩)
            | (go_at_call 45; (with_reducible refine (L45.out _).mono ?_); rintro e wx2 ⟨a3, d3, rfl, hx3, _, hB2⟩))
        all_goals (
          go_wp2
          go_meet
          exact ⟨a3, d3, rfl, (by with_reducible repeat (first | assumption | refine undrewI ?_ | (refine IntsAt.mono ?_ (by assumption)))), (by with_reducible repeat (first | exact Below.refl _ _ | refine Below.drew ?_ | refine bstep ?_ (bnew _ _) | (refine bstep ?_ (by assumption))))⟩)
      obtain ⟨a3, d3, rfl, hx3, hB⟩ := hcut
      rename World => wA
      clear Z49
      have HBz4 := hid (bstep HBz3.out hB)
      have k0 := cstep k0 hB
      have k1 := cstep k1 hB
      have k2 := cstep k2 hB
      have X1 := hid (X1.out.mono hB)
      have X3 := hid hx3
      clear hB hx3 HBz3
      go_wp2_with fail
      refine (XO.out _ _ _ HBz4.out X3.out HOl.out).mono ?_
      rintro e w5 ⟨a4, d4, rfl, hx4, _, hc4, hB⟩
      have HBz5 := hid (bstep HBz4.out hB)
      have k0 := cstep k0 hB
      have k1 := cstep k1 hB
      have k2 := cstep k2 hB
      have X1 := hid (X1.out.mono hB)
      have X3 := hid (X3.out.mono hB)
      clear hB HBz4 hx4 hc4
      go_wp2_with fail
      refine (H53.out _ _ _ X1.out).mono ?_
      rintro e w6 ⟨rfl, hB⟩
      have HBz6 := hid (bstep HBz5.out hB)
      have k0 := cstep k0 hB
      have k1 := cstep k1 hB
      have k2 := cstep k2 hB
      have X1 := hid (X1.out.mono hB)
      have X3 := hid (X3.out.mono hB)
      clear hB HBz5
      go_wp2_with fail
      obtain ⟨wx, hwx⟩ : ∃ q, q = World.alloc w6 (.cells #[.int .i64 (f : Int), .slice a1 L.length d1, .slice ra rs.length rc] 25) := ⟨_, rfl⟩
      rw [← hwx]
      have hr0 : wx.heap[w6.heap.size]? = some (.cells #[.int .i64 (f : Int), .slice a1 L.length d1, .slice ra rs.length rc] 25 (0, 0)) := by rw [hwx]; exact heap_alloc_new _ _
      have hB : Below w6.heap.size w6 wx := by rw [hwx]; exact bnew _ _
      clear hwx
      obtain ⟨wo, hwo⟩ : ∃ q, q = w6 := ⟨_, rfl⟩
      rw [← hwo] at hB hr0 HBz6 ⊢
      have HBo := hid HBz6.out
      have k1o : wo.cell? ⟨w.heap.size, 1, none⟩ = some (.slice sa seen.length sc) := by rw [hwo]; exact k1
      have X1o := hid (show IntsAt wo a1 L by rw [hwo]; exact X1.out)
      have K1 := hid k1o
      clear hwo k0 k1 k2 X1 X3 k1o HBz6
      obtain ⟨hx0, hx1, hx2⟩ := rowBox hr0
      have HBx := hid hB; have Hr0 := hid hr0
      clear hB hr0
      refine (XL.out _ _ _ (bstep HBo.out HBx.out) (X1o.out.mono HBx.out) HLl.out).mono ?_
      rintro e wy ⟨ay, dy, rfl, _, _, _, hB⟩
      have Hry := hid ((hB.block _ (Array.getElem?_eq_some_iff.1 Hr0.out).1).trans Hr0.out)
      have HBy := hid (bstep HBx.out hB)
      clear hB hx0 hx1 hx2 Hr0 HBx
      go_wp2
      go_loopw [18] (fun i wr => ∃ (k : Nat) (a : Option Addr) (n c : Nat), k ≤ L.length ∧ i = .int .i64 k ∧ wr.heap[wo.heap.size]? = some (.cells #[.int .i64 (f : Int), .slice a n c, .slice ra rs.length rc] 25 (0, 0)) ∧ Below wo.heap.size wo wr) (fun i _ => L.length - (intOf i).toNat)
      case atStart => exact ⟨0, _, _, _, Nat.zero_le _, rfl, Hry.out, HBy.out⟩
      case round =>
        obtain ⟨k, ak, nk, ck, hk, rfl, hrow, hB⟩ := hrel
        clear Hry HBy
        obtain ⟨wk, rfl⟩ : ∃ wk : World, wk = wr := ⟨_, rfl⟩
        have HB := hid hB; have Hrow := hid hrow
        have HBt := hid (bstep HBo.out hB)
        have Hat := hid (X1o.out.mono hB)
        clear hB hrow
        have hLl2 := HLl.out
        by_cases hlt : k < L.length
        case neg =>
          obtain rfl : k = L.length := by omega
          clear hlt hk
          go_wp2_with fail
          refine (HW.out _).mono ?_
          rintro e wz ⟨rfl, hB⟩
          go_wp2
          go_ret
          exact ⟨rfl, bstep HB0.out (bstep HBt.out hB)⟩
        case pos =>
          have hcap := Hc1.out
          obtain ⟨la2, hs2, hat2, hne⟩ := slice_from Hat.out (k := k + 1) (by omega) hcap
          have hwrk : IntKind.i64.wrap ((k : Int) + 1) = (k : Int) + 1 := by have h := wrap_i64_nat (a := k + 1) (by omega); simpa using h
          rw [show (((k + 1 : Nat)) : Int) = (k : Int) + 1 from by omega] at hs2
          have hna : a1 ≠ none := by
            intro e
            obtain ⟨b, off, h, _⟩ := Hat.out.at hlt
            rw [e] at h; cases h
          have hna2 := hne hna
          have Hata := hid (Hat.out.take k); have Hat2 := hid hat2
          have Hlk := hid (show (L.take k).length = k by rw [List.length_take]; omega)
          have hkI : (k : Int) ≤ (d1 : Int) := by omega
          have hlo := outAt_length hlt
          obtain ⟨m, hm⟩ : ∃ m, m = L.length - (k + 1) := ⟨_, rfl⟩
          have Hdl := hid (show (L.drop (k + 1)).length = m by rw [List.length_drop, hm])
          have hlen : (outAt L k).length = k + m := by unfold outAt; rw [List.length_append, Hlk.out, Hdl.out]
          rw [← hm] at hs2
          have hml : k + m ≤ 1000 := by omega
          have XPk := hid fun a c w' h hx => XP.out k hlt a c w' h hx (by omega)
          have KSk := hid fun (w' : World) (h : Below W0.heap.size W0 w') (mm : Nat) => (KS.out k hlt (w'.drewN mm) (bstep h (Go.Joins.below_draws _ _ _))).mono fun e w'' q => (⟨q.1, mm, q.2⟩ : e = .returned (.bool true) ∧ ∃ m, w'' = w'.drewN m)
          rw [hlen] at XPk
          have hPe : L.take k ++ L.drop (k + 1) = outAt L k := rfl
          obtain ⟨P, hP⟩ : ∃ P, P = outAt L k := ⟨_, rfl⟩
          rw [← hP] at XPk hPe hlen
          have HPe := hid hPe; have Hlen := hid hlen
          have hltI : (k : Int) < (L.length : Int) := by omega
          obtain ⟨hx0, hx1, hx2⟩ := rowBox Hrow.out
          have fx1 : wk.frozen? ⟨wo.heap.size, 1, none⟩ = false := frozen_of_row _ _ _ _ _ Hrow.out
          have Hblt := hid (Array.getElem?_eq_some_iff.1 Hrow.out).1
          clear hat2 hne hm hP hPe hlen hlo
          go_upto_region 21 with (fail)
          go_cut [18] from 117 to 127 (fun s wc => s = .int .i64 k ∧ ∃ ao cap, IntsAt wc ao P ∧ wc.heap[wo.heap.size]? = some (.cells #[.int .i64 (f : Int), .slice ao (k + m) cap, .slice ra rs.length rc] 25 (0, 0)) ∧ Below wo.heap.size wo wc)
          case first =>
            go_region_held3 (fun _ => True) (trivial)
              (first
                | (refine step_app_new _ (by rfl) _ _ (by rfl) wk.heap.size (some ⟨wk.heap.size, 0, none⟩) 0 (by rfl) (by first | exact own_lit0 wk wk.heap.size (Nat.le_refl _) | exact (own_lit0 wk wk.heap.size (Nat.le_refl _)).drewN 1) a1 k d1 (L.take k) (by rfl) (by first | exact Hata.out.mono (bnew _ _) | exact Hata.out.mono (bnew _ _).drew) Hlk.out (fun h => absurd h hna) (by omega) (by simp) ?_; intro a8 c8 w8 hB8 hown8 hz8 hg8; have hB08 : Below wk.heap.size wk w8 := Below.trans (by first | exact bnew wk _ | exact (bnew wk _).drew) hB8)
                | (refine step_app_many _ (by rfl) _ _ (by rfl) wk.heap.size a8 k c8 (L.take k) (by rfl) (by first | exact hown8 | exact hown8.drewN 1) la2 m _ (L.drop (k + 1)) (by rfl) (by first | exact Hat2.out.mono hB08 | exact Hat2.out.mono hB08.drew) Hdl.out (fun h => absurd h hna2) (by omega) hz8 ?_; intro a9 c9 w9 hB9 hown9 hg9 hn9; have hB09 : Below wk.heap.size wk w9 := (by first | exact hB08.trans hB9 | exact hB08.drew.trans hB9); have hx1 := cstep hx1 hB09; have hrow9 := (hB09.block _ Hblt.out).trans Hrow.out; have fx1 := frozen_of_row _ _ 1 _ _ hrow9))
            all_goals (
              go_wp2
              go_meet
              have hlt9 := Hblt.out
              have hO9 : Only (fun b => b = wo.heap.size) w9 (w9.setCell ⟨wo.heap.size, 1, none⟩ (.slice a9 (k + m) c9)) := setCell_only _ _ _
              refine ⟨rfl, a9, c9, ?_, heap_setCell_same _ _ 1 _ 25 _ hrow9, (HB.out.trans (hB09.mono HB.out.size)).trans (hO9.below (by have := HB.out.size; have := hB09.size; omega) (fun j hj e => by omega))⟩
              rw [HPe.out] at hown9
              exact hown9.at.only hO9 (fun b off e _ q => by
                have hge : wk.heap.size ≤ b := by subst e; exact hown9.ge
                omega))
          obtain ⟨rfl, ao, cap, hat9, hrow9, hB9⟩ := hcut
          rename World => wd
          clear hx0 hx1 hx2 fx1
          have HB9 := hid hB9; have Hrow9 := hid hrow9; have Hat9 := hid hat9
          have HBt9 := hid (bstep HBo.out hB9)
          have hx1 : wd.cell? ⟨w.heap.size, 1, none⟩ = some (.slice sa seen.length sc) := cstep K1.out hB9
          clear hB9 hrow9 hat9
          obtain ⟨hx0, hx2, hx3⟩ := rowBox Hrow9.out
          go_wp2_with fail
          refine (XPk.out ao cap wd HBt9.out Hat9.out).mono ?_
          rintro e we ⟨ae, ne, ce, rfl, hB⟩
          have HBe := hid (bstep HB9.out hB)
          have HBte := hid (bstep HBt9.out hB)
          have Hrowe := hid ((hB.block _ (Array.getElem?_eq_some_iff.1 Hrow9.out).1).trans Hrow9.out)
          have hx1 := cstep hx1 hB
          have Hate := hid (X1o.out.mono HBe.out)
          obtain ⟨b1, o1, hb1, hcl⟩ := Hate.out.at hlt
          subst hb1
          clear hB hx0 hx2 hx3 Hrow9 Hat9 HB9 HBt9
          go_wp2_with fail
          go_quiet ((go_at_call 36; exact KSk.out _ HBte.out _))
          go_wp2
          go_roundw
          case rel => exact ⟨k + 1, _, _, _, by omega, by go_num, Hrowe.out, bstep HBe.out (Go.Joins.below_draws _ _ _)⟩
          case measure => simp [intOf]; omega
    case neg =>
      have r1 := (hvO.stepsN hif ho).1
      have XO := hid fun a c w' h hx h1 => X32.out O a c w' h hx h1
      rw [r1] at XO
      clear r1 q1 q2 q3 q4 q5 q6 q7 hrL hLl hLs hvL ho hd X32 hC hv hvO hsO hil hl1 hl2 hl3 hz hgf hg hn hp hi hif hL
      go_enter Try.func13, Try.ntmps13
      go_wp2_with fail
      rw [← HS.out]
      refine HG.out.mono ?_
      rintro e w1 ⟨rfl, hB⟩
      have HB1 := hid hB
      have k0 := cstep c0 hB; have k1 := cstep c1 hB; have k2 := cstep c2 hB
      clear hB c0 c1 c2
      have hand := Hand.out
      go_wp2_with fail
      refine (Q38.out _ HB1.out).mono ?_
      rintro e w2 ⟨a1, d1, rfl, hx1, _, hc1, hB⟩
      have HBz2 := hid (bstep HB1.out hB)
      have k0 := cstep k0 hB
      have k1 := cstep k1 hB
      have k2 := cstep k2 hB
      have X1 := hid hx1
      clear hB hx1 HB1
      have Hc1 := hid hc1
      clear hc1
      go_wp2_with fail
      refine (Q32.out _ HBz2.out).mono ?_
      rintro e w3 ⟨a2, d2, rfl, hx2, _, hc2, hB⟩
      have HBz3 := hid (bstep HBz2.out hB)
      have k0 := cstep k0 hB
      have k1 := cstep k1 hB
      have k2 := cstep k2 hB
      have X1 := hid (X1.out.mono hB)
      clear hB HBz2 hx2 hc2
      have Z49 := hid fun (w' : World) (h : Below w3.heap.size w3 w') => H49.out w' (bstep HBz3.out h)
      go_upto_region 6 with (fail)
      go_cut [12] from 42 to 50 (fun s wc => ∃ a d, s = .slice a O.length d ∧ IntsAt wc a O ∧ Below w3.heap.size w3 wc)
      case first =>
        go_region_held3 (fun w' => w'.cell? ⟨w.heap.size, 0, none⟩ = some (.int .i64 (f : Int)) ∧ w'.cell? ⟨w.heap.size, 1, none⟩ = some (.slice sa seen.length sc) ∧ w'.cell? ⟨w.heap.size, 2, none⟩ = some (.slice ra rs.length rc)) (first | exact ⟨k0, k1, k2⟩ | exact ⟨cstep k0 (by with_reducible repeat (first | exact Below.refl _ _ | refine Below.drew ?_ | refine bstep ?_ (bnew _ _) | (refine bstep ?_ (by assumption)))), cstep k1 (by with_reducible repeat (first | exact Below.refl _ _ | refine Below.drew ?_ | refine bstep ?_ (bnew _ _) | (refine bstep ?_ (by assumption)))), cstep k2 (by with_reducible repeat (first | exact Below.refl _ _ | refine Below.drew ?_ | refine bstep ?_ (bnew _ _) | (refine bstep ?_ (by assumption))))⟩ | go_keep)
          (first
            | (go_at_call 49; (with_reducible refine (Z49.out _ (by with_reducible repeat (first | exact Below.refl _ _ | refine Below.drew ?_ | refine bstep ?_ (bnew _ _) | (refine bstep ?_ (by assumption))))).mono ?_); rintro e wx1 ⟨rfl, hB1⟩)
            | (go_at_call 45; (with_reducible refine (L45.out _).mono ?_); rintro e wx2 ⟨a3, d3, rfl, hx3, _, hB2⟩))
        all_goals (
          go_wp2
          go_meet
          exact ⟨a3, d3, rfl, (by with_reducible repeat (first | assumption | refine undrewI ?_ | (refine IntsAt.mono ?_ (by assumption)))), (by with_reducible repeat (first | exact Below.refl _ _ | refine Below.drew ?_ | refine bstep ?_ (bnew _ _) | (refine bstep ?_ (by assumption))))⟩)
      obtain ⟨a3, d3, rfl, hx3, hB⟩ := hcut
      rename World => wA
      clear Z49
      have HBz4 := hid (bstep HBz3.out hB)
      have k0 := cstep k0 hB
      have k1 := cstep k1 hB
      have k2 := cstep k2 hB
      have X1 := hid (X1.out.mono hB)
      have X3 := hid hx3
      clear hB hx3 HBz3
      go_wp2_with fail
      refine (XO.out _ _ _ HBz4.out X3.out HOl.out).mono ?_
      rintro e w5 ⟨a4, d4, rfl, hx4, _, hc4, hB⟩
      have HBz5 := hid (bstep HBz4.out hB)
      have k0 := cstep k0 hB
      have k1 := cstep k1 hB
      have k2 := cstep k2 hB
      have X1 := hid (X1.out.mono hB)
      have X3 := hid (X3.out.mono hB)
      clear hB HBz4 hx4 hc4
      go_wp2_with fail
      refine (H53.out _ _ _ X1.out).mono ?_
      rintro e w6 ⟨rfl, hB⟩
      have HBz6 := hid (bstep HBz5.out hB)
      have k0 := cstep k0 hB
      have k1 := cstep k1 hB
      have k2 := cstep k2 hB
      have X1 := hid (X1.out.mono hB)
      have X3 := hid (X3.out.mono hB)
      clear hB HBz5
      go_wp2_with fail
      obtain ⟨wx, hwx⟩ : ∃ q, q = World.alloc w6 (.cells #[.int .i64 (f : Int), .slice a1 L.length d1, .slice ra rs.length rc] 25) := ⟨_, rfl⟩
      rw [← hwx]
      have hr0 : wx.heap[w6.heap.size]? = some (.cells #[.int .i64 (f : Int), .slice a1 L.length d1, .slice ra rs.length rc] 25 (0, 0)) := by rw [hwx]; exact heap_alloc_new _ _
      have hB : Below w6.heap.size w6 wx := by rw [hwx]; exact bnew _ _
      clear hwx
      obtain ⟨wo, hwo⟩ : ∃ q, q = w6 := ⟨_, rfl⟩
      rw [← hwo] at hB hr0 HBz6 ⊢
      have HBo := hid HBz6.out
      have k1o : wo.cell? ⟨w.heap.size, 1, none⟩ = some (.slice sa seen.length sc) := by rw [hwo]; exact k1
      have X1o := hid (show IntsAt wo a1 L by rw [hwo]; exact X1.out)
      have K1 := hid k1o
      clear hwo k0 k1 k2 X1 X3 k1o HBz6
      obtain ⟨hx0, hx1, hx2⟩ := rowBox hr0
      have HBx := hid hB; have Hr0 := hid hr0
      clear hB hr0
      refine (XL.out _ _ _ (bstep HBo.out HBx.out) (X1o.out.mono HBx.out) HLl.out).mono ?_
      rintro e wy ⟨ay, dy, rfl, _, _, _, hB⟩
      have Hry := hid ((hB.block _ (Array.getElem?_eq_some_iff.1 Hr0.out).1).trans Hr0.out)
      have HBy := hid (bstep HBx.out hB)
      clear hB hx0 hx1 hx2 Hr0 HBx
      go_wp2
      go_loopw [18] (fun i wr => ∃ (k : Nat) (a : Option Addr) (n c : Nat), k ≤ L.length ∧ i = .int .i64 k ∧ wr.heap[wo.heap.size]? = some (.cells #[.int .i64 (f : Int), .slice a n c, .slice ra rs.length rc] 25 (0, 0)) ∧ Below wo.heap.size wo wr) (fun i _ => L.length - (intOf i).toNat)
      case atStart => exact ⟨0, _, _, _, Nat.zero_le _, rfl, Hry.out, HBy.out⟩
      case round =>
        obtain ⟨k, ak, nk, ck, hk, rfl, hrow, hB⟩ := hrel
        clear Hry HBy
        obtain ⟨wk, rfl⟩ : ∃ wk : World, wk = wr := ⟨_, rfl⟩
        have HB := hid hB; have Hrow := hid hrow
        have HBt := hid (bstep HBo.out hB)
        have Hat := hid (X1o.out.mono hB)
        clear hB hrow
        have hLl2 := HLl.out
        by_cases hlt : k < L.length
        case neg =>
          obtain rfl : k = L.length := by omega
          clear hlt hk
          go_wp2_with fail
          refine (HW.out _).mono ?_
          rintro e wz ⟨rfl, hB⟩
          go_wp2
          go_ret
          exact ⟨rfl, bstep HB0.out (bstep HBt.out hB)⟩
        case pos =>
          have hcap := Hc1.out
          obtain ⟨la2, hs2, hat2, hne⟩ := slice_from Hat.out (k := k + 1) (by omega) hcap
          have hwrk : IntKind.i64.wrap ((k : Int) + 1) = (k : Int) + 1 := by have h := wrap_i64_nat (a := k + 1) (by omega); simpa using h
          rw [show (((k + 1 : Nat)) : Int) = (k : Int) + 1 from by omega] at hs2
          have hna : a1 ≠ none := by
            intro e
            obtain ⟨b, off, h, _⟩ := Hat.out.at hlt
            rw [e] at h; cases h
          have hna2 := hne hna
          have Hata := hid (Hat.out.take k); have Hat2 := hid hat2
          have Hlk := hid (show (L.take k).length = k by rw [List.length_take]; omega)
          have hkI : (k : Int) ≤ (d1 : Int) := by omega
          have hlo := outAt_length hlt
          obtain ⟨m, hm⟩ : ∃ m, m = L.length - (k + 1) := ⟨_, rfl⟩
          have Hdl := hid (show (L.drop (k + 1)).length = m by rw [List.length_drop, hm])
          have hlen : (outAt L k).length = k + m := by unfold outAt; rw [List.length_append, Hlk.out, Hdl.out]
          rw [← hm] at hs2
          have hml : k + m ≤ 1000 := by omega
          have XPk := hid fun a c w' h hx => XP.out k hlt a c w' h hx (by omega)
          have KSk := hid fun (w' : World) (h : Below W0.heap.size W0 w') (mm : Nat) => (KS.out k hlt (w'.drewN mm) (bstep h (Go.Joins.below_draws _ _ _))).mono fun e w'' q => (⟨q.1, mm, q.2⟩ : e = .returned (.bool true) ∧ ∃ m, w'' = w'.drewN m)
          rw [hlen] at XPk
          have hPe : L.take k ++ L.drop (k + 1) = outAt L k := rfl
          obtain ⟨P, hP⟩ : ∃ P, P = outAt L k := ⟨_, rfl⟩
          rw [← hP] at XPk hPe hlen
          have HPe := hid hPe; have Hlen := hid hlen
          have hltI : (k : Int) < (L.length : Int) := by omega
          obtain ⟨hx0, hx1, hx2⟩ := rowBox Hrow.out
          have fx1 : wk.frozen? ⟨wo.heap.size, 1, none⟩ = false := frozen_of_row _ _ _ _ _ Hrow.out
          have Hblt := hid (Array.getElem?_eq_some_iff.1 Hrow.out).1
          clear hat2 hne hm hP hPe hlen hlo
          go_upto_region 21 with (fail)
          go_cut [18] from 117 to 127 (fun s wc => s = .int .i64 k ∧ ∃ ao cap, IntsAt wc ao P ∧ wc.heap[wo.heap.size]? = some (.cells #[.int .i64 (f : Int), .slice ao (k + m) cap, .slice ra rs.length rc] 25 (0, 0)) ∧ Below wo.heap.size wo wc)
          case first =>
            go_region_held3 (fun _ => True) (trivial)
              (first
                | (refine step_app_new _ (by rfl) _ _ (by rfl) wk.heap.size (some ⟨wk.heap.size, 0, none⟩) 0 (by rfl) (by first | exact own_lit0 wk wk.heap.size (Nat.le_refl _) | exact (own_lit0 wk wk.heap.size (Nat.le_refl _)).drewN 1) a1 k d1 (L.take k) (by rfl) (by first | exact Hata.out.mono (bnew _ _) | exact Hata.out.mono (bnew _ _).drew) Hlk.out (fun h => absurd h hna) (by omega) (by simp) ?_; intro a8 c8 w8 hB8 hown8 hz8 hg8; have hB08 : Below wk.heap.size wk w8 := Below.trans (by first | exact bnew wk _ | exact (bnew wk _).drew) hB8)
                | (refine step_app_many _ (by rfl) _ _ (by rfl) wk.heap.size a8 k c8 (L.take k) (by rfl) (by first | exact hown8 | exact hown8.drewN 1) la2 m _ (L.drop (k + 1)) (by rfl) (by first | exact Hat2.out.mono hB08 | exact Hat2.out.mono hB08.drew) Hdl.out (fun h => absurd h hna2) (by omega) hz8 ?_; intro a9 c9 w9 hB9 hown9 hg9 hn9; have hB09 : Below wk.heap.size wk w9 := (by first | exact hB08.trans hB9 | exact hB08.drew.trans hB9); have hx1 := cstep hx1 hB09; have hrow9 := (hB09.block _ Hblt.out).trans Hrow.out; have fx1 := frozen_of_row _ _ 1 _ _ hrow9))
            all_goals (
              go_wp2
              go_meet
              have hlt9 := Hblt.out
              have hO9 : Only (fun b => b = wo.heap.size) w9 (w9.setCell ⟨wo.heap.size, 1, none⟩ (.slice a9 (k + m) c9)) := setCell_only _ _ _
              refine ⟨rfl, a9, c9, ?_, heap_setCell_same _ _ 1 _ 25 _ hrow9, (HB.out.trans (hB09.mono HB.out.size)).trans (hO9.below (by have := HB.out.size; have := hB09.size; omega) (fun j hj e => by omega))⟩
              rw [HPe.out] at hown9
              exact hown9.at.only hO9 (fun b off e _ q => by
                have hge : wk.heap.size ≤ b := by subst e; exact hown9.ge
                omega))
          obtain ⟨rfl, ao, cap, hat9, hrow9, hB9⟩ := hcut
          rename World => wd
          clear hx0 hx1 hx2 fx1
          have HB9 := hid hB9; have Hrow9 := hid hrow9; have Hat9 := hid hat9
          have HBt9 := hid (bstep HBo.out hB9)
          have hx1 : wd.cell? ⟨w.heap.size, 1, none⟩ = some (.slice sa seen.length sc) := cstep K1.out hB9
          clear hB9 hrow9 hat9
          obtain ⟨hx0, hx2, hx3⟩ := rowBox Hrow9.out
          go_wp2_with fail
          refine (XPk.out ao cap wd HBt9.out Hat9.out).mono ?_
          rintro e we ⟨ae, ne, ce, rfl, hB⟩
          have HBe := hid (bstep HB9.out hB)
          have HBte := hid (bstep HBt9.out hB)
          have Hrowe := hid ((hB.block _ (Array.getElem?_eq_some_iff.1 Hrow9.out).1).trans Hrow9.out)
          have hx1 := cstep hx1 hB
          have Hate := hid (X1o.out.mono HBe.out)
          obtain ⟨b1, o1, hb1, hcl⟩ := Hate.out.at hlt
          subst hb1
          clear hB hx0 hx2 hx3 Hrow9 Hat9 HB9 HBt9
          go_wp2_with fail
          go_quiet ((go_at_call 36; exact KSk.out _ HBte.out _))
          go_wp2
          go_roundw
          case rel => exact ⟨k + 1, _, _, _, by omega, by go_num, Hrowe.out, bstep HBe.out (Go.Joins.below_draws _ _ _)⟩
          case measure => simp [intOf]; omega

end Go.Proofs.Ytkioejdddmnbmaa
