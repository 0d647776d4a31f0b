/- Walk: the law PleaWrong, out of the contract of Works. -/
import Derived.Test.YtkioejdddmnbmaaPo
import Derived.Test.YtkioejdddmnbmaaUn
namespace Go.Proofs.Ytkioejdddmnbmaa
open Go.RowKit Go.Shelf

theorem wrap_sub {a b : Nat} (h : b ≤ a) (ha : a < 2 ^ 62) : IntKind.i64.wrap ((a : Int) - (b : Int)) = ((a - b : Nat) : Int) := by
  rw [show (a : Int) - (b : Int) = ((a - b : Nat) : Int) by omega]
  exact wrap_i64_nat (by omega)

set_option maxRecDepth 100000 in
set_option maxHeartbeats 8000000 in
theorem wrong_law (hworks : WorksC) (facts : Int) (sa : Option Addr) (sc : Nat) (seen : List Int) (ra : Option Addr) (rc : Nat) (rs : List Rl) (p : Nat) (w : World) (hs : IntsAt w sa seen) (hr : RulesAt w ra rs) (hnil : sa = none → sc = 0) (hp : p < 65536) :
    Calls Try.prog 14 #[.agg #[.int .i64 facts, .slice sa seen.length sc, .slice ra rs.length rc], .int .u16 p] w (TrueP w) := by
  have HW := hid hworks
  clear hworks
  obtain ⟨W0, hW0⟩ : ∃ W0, W0 = w.alloc (.cells #[.int .i64 facts, .slice sa seen.length sc, .slice ra rs.length rc] 25) := ⟨_, rfl⟩
  have HB0 := hid (show Below w.heap.size w W0 by rw [hW0]; exact bnew w _)
  obtain ⟨c0, c1, c2⟩ := caseBox w facts sa ra seen.length sc rs.length rc
  rw [← hW0] at c0 c1 c2
  have HR := hid (hr.mono HB0.out); have HSn := hid (hs.mono HB0.out)
  have HS := hid hW0
  clear hs hr hW0
  have HG := hid (fine_c sa ra sc rc facts seen rs W0 HSn.out HR.out)
  unfold TellB at HG
  by_cases hg : fineB facts seen rs = true
  case neg =>
    have hgn : fineB facts seen rs = false := by simpa using hg
    rw [hgn] at HG
    clear hg hgn hnil hp
    go_enter Try.func14, Try.ntmps14
    go_wp2_with fail
    rw [← HS.out]
    refine HG.out.mono ?_
    rintro e w1 ⟨rfl, hB⟩
    have HB1 := hid (bstep HB0.out hB)
    clear hB
    go_wp2_with fail
    refine (HW.out _).mono ?_
    rintro e w2 ⟨rfl, hB⟩
    have HB2 := hid (bstep HB1.out hB)
    clear hB
    go_wp2
    go_ret
    exact ⟨rfl, HB2.out⟩
  case pos =>
    obtain ⟨hgf, hz⟩ := fine_true hg
    obtain ⟨hl1, hl2, hl3⟩ := great_lens hgf
    rw [hg] at HG
    obtain ⟨f, rfl, hf1, hf2⟩ := case_nat hz
    have hil : ∀ i, i < rs.length → (nthR rs i).1.length ≤ 1000000 := fun i hi => by have := hl3 i hi; omega
    have hv : Valid f seen rs := valid_of hz hil
    have hC : ∀ w', Below W0.heap.size W0 w' → CaseAt w' sa ra seen rs := fun w' h => great_case (HSn.out.mono h) (HR.out.mono h) hgf
    have hwp : IntKind.i64.wrap ((p : Nat) : Int) = (p : Int) := wrap_i64_nat (by omega)
    have hsl : bitsL seen < 4096 := bitsTo_lt hv.ok.s seen.length (Nat.le_refl _)
    have hand := bits_and_i64 (a := p) (b := bitsL seen) (by omega) (by omega)
    have hsO := hv.part (and_in p (bitsL seen))
    have hbp := hv.bits_part p
    have hbO : p &&& bitsL seen ≤ bitsL seen := Nat.and_le_right
    have hsub := wrap_sub hbO (by omega)
    have H49 := hid fun (w' : World) (h : Below W0.heap.size W0 w') => (bits_c sa sc seen w' ((hC w' h).s) (by omega) hv.ok.s).mono fun e w'' q => (⟨q.1, by rw [q.2]; exact Below.refl _ _⟩ : e = .returned (.int .i64 (bitsL seen)) ∧ Below w'.heap.size w' w'')
    have Q40 := hid fun (w' : World) (h : Below W0.heap.size W0 w') => pWrong_c f sa sc seen ra rc rs w' (hC w' h) (by omega) hnil
    have Q33 := hid fun (w' : World) (h : Below W0.heap.size W0 w') => (show Calls Try.prog 33 #[.agg #[.int .i64 (f : Int), .slice sa seen.length sc, .slice ra rs.length rc]] w' (fun e w'' => ∃ ao n cap, e = .returned (.tuple #[.slice ao n cap, .int .i64 (pClashE (f : Int) seen rs)]) ∧ Below w'.heap.size w' w'') from
      (pClash_c f sa sc seen ra rc rs w' (hC w' h)).mono fun e w'' ⟨ao, cap, e1, _, _, _, hB⟩ => ⟨ao, _, cap, e1, hB⟩)
    have X33 := hid fun (l : List Int) (hl : l.length ≤ 1000) (a : Option Addr) (c : Nat) (w' : World) (h : Below W0.heap.size W0 w') (hx : IntsAt w' a l) => (show Calls Try.prog 33 #[.agg #[.int .i64 (f : Int), .slice a l.length c, .slice ra rs.length rc]] w' (fun e w'' => ∃ ao n cap, e = .returned (.tuple #[.slice ao n cap, .int .i64 (pClashE (f : Int) l rs)]) ∧ Below w'.heap.size w' w'') from
      (pClash_c f a c l ra rc rs w' ⟨hx, (hC w' h).r, by omega, (hC w' h).rl, hil⟩).mono fun e w'' ⟨ao, cap, e1, _, _, _, hB⟩ => ⟨ao, _, cap, e1, hB⟩)
    have X23 := hid fun (l : List Int) (hl : l.length ≤ 1000) (a : Option Addr) (c : Nat) (w' : World) (h : Below W0.heap.size W0 w') (hx : IntsAt w' a l) => (show Calls Try.prog 23 #[.agg #[.int .i64 (f : Int), .slice a l.length c, .slice ra rs.length rc]] w' (fun e w'' => ∃ ao n cap, e = .returned (.tuple #[.slice ao n cap, .int .i64 (rLeastE (f : Int) l rs)]) ∧ Below w'.heap.size w' w'') from by
      have q := least_c f a c l ra rc rs w' ⟨hx, (hC w' h).r, by omega, (hC w' h).rl, hil⟩
      rw [(least_eq hil).1, (least_eq hil).2] at q
      exact q.mono fun e w'' ⟨ao, cap, e1, _, _, hB⟩ => ⟨ao, _, cap, e1, hB⟩)
    obtain ⟨L, hL⟩ : ∃ L, L = pWrongL (f : Int) seen rs := ⟨_, rfl⟩
    rw [← hL] at Q40
    have hcO := hv.clsh_left hsO
    rw [hbp] at hcO
    obtain ⟨sb, hsb⟩ : ∃ s, s = bitsL seen := ⟨_, rfl⟩
    obtain ⟨ob, hob⟩ : ∃ s, s = p &&& bitsL seen := ⟨_, rfl⟩
    rw [← hob] at hand hsO hbO hsub hcO
    rw [← hsb] at H49 hand hbO hsub hsl hcO
    have L45 := hid fun (b : Nat) (hb : b < 2 ^ 20) (w' : World) => listed_c b f w' (by omega) (by omega)
    unfold OwnP at L45
    have LO := hid fun (w' : World) => L45.out ob (by omega) w'
    have LR := hid fun (w' : World) => L45.out (sb - ob) (by omega) w'
    have hOl := listed_len ob f
    have hRl := listed_len (sb - ob) f
    have hvR : Valid f (listedB (sb - ob) f) rs := hv.listed _
    obtain ⟨O, hO⟩ : ∃ O, O = listedB ob f := ⟨_, rfl⟩
    obtain ⟨R, hR⟩ : ∃ R, R = listedB (sb - ob) f := ⟨_, rfl⟩
    rw [← hO] at LO hsO hOl hcO
    rw [← hR] at LR hRl hvR hcO
    have X23R := hid fun a c w' h hx => X23.out R (by omega) a c w' h hx
    unfold ListC at Q40
    have Hand := hid hand
    clear hand hbp
    by_cases he : pWrongE (f : Int) seen rs = 0
    case neg =>
      obtain ⟨q1, q2, q3⟩ := hv.wrongN he
      rw [← hL] at q2
      have q4 := (hvR.leastC (hcO.2 (q3 O hsO))).1
      have q5 := (hv.clashD ((clsh_iff (left_nil seen)).1 (q3 [] (List.nil_sublist _)))).1
      rw [q1, q2] at Q40
      rw [q5] at Q33
      rw [q4] at X23R
      obtain ⟨e1, he1⟩ : ∃ e : Int, e = 24 := ⟨_, rfl⟩
      rw [← he1] at X23R
      have He1 := hid he1
      clear q1 q2 q3 q4 q5 he he1 X33 X23 L45 hsb hC hv hvR hsO hcO hil hl1 hl2 hl3 hz hgf hg hnil hp hL hO hR hob hbO hsl hOl hRl
      go_enter Try.func14, Try.ntmps14
      go_wp2_with fail
      rw [← HS.out]
      refine HG.out.mono ?_
      rintro e w1 ⟨rfl, hB⟩
      have HB1 := hid hB
      have k0 := cstep c0 hB; have k1 := cstep c1 hB; have k2 := cstep c2 hB
      clear hB c0 c1 c2
      have hand := Hand.out
      go_wp2_with fail
      refine (Q40.out _ HB1.out).mono ?_
      rintro e w2 ⟨a1, d1, rfl, hx1, _, _, hB⟩
      have HBz2 := hid (bstep HB1.out hB)
      have k0 := cstep k0 hB
      have k1 := cstep k1 hB
      have k2 := cstep k2 hB
      have X1 := hid hx1
      clear hB hx1 HB1
      go_wp2_with fail
      refine (H49.out _ HBz2.out).mono ?_
      rintro e w3 ⟨rfl, hB⟩
      have HBz3 := hid (bstep HBz2.out hB)
      have k0 := cstep k0 hB
      have k1 := cstep k1 hB
      have k2 := cstep k2 hB
      have X1 := hid (X1.out.mono hB)
      clear hB HBz2
      have Z23 := hid fun (a : Option Addr) (c : Nat) (w' : World) (h : Below w3.heap.size w3 w') (hx : IntsAt w' a R) => X23R.out a c w' (bstep HBz3.out h) hx
      go_upto_region 6 with (fail)
      go_cut [9, 10] from 33 to 47 (fun a b wc => (∃ ad n c, a = .slice ad n c) ∧ b = .int .i64 e1 ∧ Below w3.heap.size w3 wc)
      case first =>
        go_region_held3 (fun w' => w'.cell? ⟨w.heap.size, 0, none⟩ = some (.int .i64 (f : Int)) ∧ w'.cell? ⟨w.heap.size, 1, none⟩ = some (.slice sa seen.length sc) ∧ w'.cell? ⟨w.heap.size, 2, none⟩ = some (.slice ra rs.length rc)) (first | exact ⟨k0, k1, k2⟩ | exact ⟨cstep k0 (by with_reducible repeat (first | exact Below.refl _ _ | refine Below.drew ?_ | refine bstep ?_ (bnew _ _) | (refine bstep ?_ (by assumption)))), cstep k1 (by with_reducible repeat (first | exact Below.refl _ _ | refine Below.drew ?_ | refine bstep ?_ (bnew _ _) | (refine bstep ?_ (by assumption)))), cstep k2 (by with_reducible repeat (first | exact Below.refl _ _ | refine Below.drew ?_ | refine bstep ?_ (bnew _ _) | (refine bstep ?_ (by assumption))))⟩ | go_keep)
          (first
            | (go_at_call 45; (with_reducible refine (LR.out _).mono ?_); rintro e wx1 ⟨aq, dq, rfl, hq, _, hB1⟩)
            | (go_at_call 23; (with_reducible refine (Z23.out _ _ _ (by with_reducible repeat (first | exact Below.refl _ _ | refine Below.drew ?_ | refine bstep ?_ (bnew _ _) | (refine bstep ?_ (by assumption)))) (by with_reducible repeat (first | assumption | refine undrewI ?_ | (refine IntsAt.mono ?_ (by assumption))))).mono ?_); rintro e wx2 ⟨ar, nr, cr, rfl, hB2⟩))
        all_goals (
          go_wp2
          go_meet
          exact ⟨⟨_, _, _, rfl⟩, rfl, (by with_reducible repeat (first | exact Below.refl _ _ | refine Below.drew ?_ | refine bstep ?_ (bnew _ _) | (refine bstep ?_ (by assumption))))⟩)
      obtain ⟨⟨ar, nr, cr, rfl⟩, rfl, hB⟩ := hcut
      rename World => wA
      clear Z23
      have HBz4 := hid (bstep HBz3.out hB)
      have k0 := cstep k0 hB
      have k1 := cstep k1 hB
      have k2 := cstep k2 hB
      have X1 := hid (X1.out.mono hB)
      clear hB HBz3
      go_wp2_with fail
      refine (Q33.out _ HBz4.out).mono ?_
      rintro e w5 ⟨a3, n3, d3, rfl, hB⟩
      have HBz5 := hid (bstep HBz4.out hB)
      have k0 := cstep k0 hB
      have k1 := cstep k1 hB
      have k2 := cstep k2 hB
      have X1 := hid (X1.out.mono hB)
      clear hB HBz4
      obtain rfl := He1.out
      go_wp2_with fail
      refine (HW.out _).mono ?_
      rintro e w6 ⟨rfl, hB⟩
      have HBz6 := hid (bstep HBz5.out hB)
      have k0 := cstep k0 hB
      have k1 := cstep k1 hB
      have k2 := cstep k2 hB
      have X1 := hid (X1.out.mono hB)
      clear hB HBz5
      go_wp2
      go_ret
      exact ⟨rfl, bstep HB0.out HBz6.out⟩
    case pos =>
    obtain ⟨q1, q2, q3⟩ := hv.wrongD he
    rw [← hL] at q1 q2 q3
    rw [he] at Q40
    have hvL := hv.sub q1
    have hrL : rising (f : Int) L = true := rise_rising hvL.rise hvL.all
    have hLl : L.length ≤ 1000 := by have := q1.length_le; omega
    have H53 := hid fun (a : Option Addr) (c : Nat) (w' : World) (hx : IntsAt w' a L) => isList_c a c L f w' hx (by omega)
    rw [hrL] at H53
    have H49L := hid fun (a : Option Addr) (c : Nat) (w' : World) (hx : IntsAt w' a L) => (bits_c a c L w' hx (by omega) hvL.ok.s).mono fun e w'' q => (⟨q.1, by rw [q.2]; exact Below.refl _ _⟩ : e = .returned (.int .i64 (bitsL L)) ∧ Below w'.heap.size w' w'')
    have hin : ∀ n, bt (bitsL L) n → bt sb n := fun n hn => by rw [hsb]; exact (bitsL_test hv.ok.s n).2 (q1.subset ((bitsL_test hvL.ok.s n).1 hn))
    have hand2 : bits .and .i64 ((bitsL L : Nat) : Int) (sb : Int) = ((bitsL L : Nat) : Int) := by
      rw [bits_and_i64 (by have := bitsL_lt hvL.ok.s; omega) (by omega), show bitsL L &&& sb = bitsL L by rw [Nat.and_comm]; exact and_self_iff.2 hin]
    have hle : bitsL L ≤ sb := by
      have := (and_self_iff (a := sb) (b := bitsL L)).2 hin
      rw [← this]; exact Nat.and_le_left
    have hsub2 := wrap_sub hle (by omega)
    have hcL := hv.clsh_left q1
    have hvR2 : Valid f (listedB (sb - bitsL L) f) rs := hv.listed _
    rw [← hsb] at hcL
    have r1 := (hvR2.leastD (fun h => q2 (hcL.1 h))).1
    have hR2l := listed_len (sb - bitsL L) f
    have LS := hid fun (w' : World) => L45.out (sb - bitsL L) (by omega) w'
    have X23S := hid fun a c w' h hx => X23.out (listedB (sb - bitsL L) f) (by omega) a c w' h hx
    rw [r1] at X23S
    -- in the loop
    have hall : ∀ k, k < L.length → ∃ t : Nat, nth L k = (t : Int) ∧ t < 12 ∧ pClashE (f : Int) (listedB (sb - bitsL L + 2 ^ t) f) rs = 0 := fun k hk => by
      have h0 := hv.all _ (q1.subset (nth_mem hk))
      have hw := hv.wrong_left he (k := k) (by rw [← hL]; exact hk)
      rw [← hL, ← hsb] at hw
      refine ⟨(nth L k).toNat, by omega, by omega, ?_⟩
      exact ((hv.listed _).clashD hw).1
    have XC := hid fun (t : Nat) (hc : pClashE (f : Int) (listedB (sb - bitsL L + 2 ^ t) f) rs = 0) (a : Option Addr) (c : Nat) (w' : World) (h : Below W0.heap.size W0 w') (hx : IntsAt w' a (listedB (sb - bitsL L + 2 ^ t) f)) => (show Calls Try.prog 33 #[.agg #[.int .i64 (f : Int), .slice a (listedB (sb - bitsL L + 2 ^ t) f).length c, .slice ra rs.length rc]] w' (fun e w'' => ∃ ao n cap, e = .returned (.tuple #[.slice ao n cap, .int .i64 0]) ∧ Below w'.heap.size w' w'') from by
      have q := X33.out _ (by have := listed_len (sb - bitsL L + 2 ^ t) f; omega) a c w' h hx
      rw [hc] at q; exact q)
    obtain ⟨wb, hwb⟩ : ∃ s, s = bitsL L := ⟨_, rfl⟩
    rw [← hwb] at H49L hand2 hsub2 LS X23S hall XC hle
    obtain ⟨S, hS⟩ : ∃ S, S = listedB (sb - wb) f := ⟨_, rfl⟩
    rw [← hS] at LS X23S
    have LT := hid fun (t : Nat) (ht : t < 12) (w' : World) => L45.out (sb - wb + 2 ^ t) (by have : 2 ^ t < 2 ^ 12 := Nat.pow_lt_pow_right (by omega) ht; omega) w'
    have Hall := hid hall; have HLl := hid hLl; have Hsb := hid hsl
    have Hand2 := hid hand2; have Hsub2 := hid hsub2
    have hOLe : ¬ Clsh rs (SeenP R) → L.length ≤ O.length := fun h => q3 O hsO (fun hc => h (hcO.2 hc))
    obtain ⟨e1, he1⟩ : ∃ e : Int, e = rLeastE (f : Int) R rs := ⟨_, rfl⟩
    obtain ⟨e2, he2⟩ : ∃ e : Int, e = pClashE (f : Int) seen rs := ⟨_, rfl⟩
    rw [← he1] at X23R
    rw [← he2] at Q33
    have h1 : e1 = 24 ∨ (e1 = 0 ∧ L.length ≤ O.length) := by
      by_cases hc : Clsh rs (SeenP R)
      · left; rw [he1]; exact (hvR.leastC hc).1
      · right; exact ⟨by rw [he1]; exact (hvR.leastD hc).1, hOLe hc⟩
    have h2 : (e2 = 0 ∧ 0 < L.length) ∨ (e2 = 5 ∧ L.length = 0) := by
      by_cases hc : Clsh rs (SeenP seen)
      · left
        refine ⟨by rw [he2]; exact (hv.clashD hc).1, ?_⟩
        refine Nat.pos_of_ne_zero fun h0 => q2 ?_
        rw [List.eq_nil_of_length_eq_zero h0]
        exact (clsh_iff (left_nil seen)).2 hc
      · right
        refine ⟨by rw [he2]; exact (hv.clashN hc).1, ?_⟩
        have := q3 [] (List.nil_sublist _) (fun h => hc ((clsh_iff (left_nil seen)).1 h))
        simpa using this
    have H1 := hid h1; have H2 := hid h2
    clear h1 h2 he1 he2 hOLe hS hwb hall hLl hand2 hsub2 hle r1 hR2l hcL hvR2 hin hrL hvL q1 q2 q3 he X23 X33 hsb L45 hC hv hvR hsO hcO hil hl1 hl2 hl3 hz hgf hg hnil hp hL hO hR hob hbO hsl hOl hRl
    go_enter Try.func14, Try.ntmps14
    go_wp2_with fail
    rw [← HS.out]
    refine HG.out.mono ?_
    rintro e w1 ⟨rfl, hB⟩
    have HB1 := hid hB
    have k0 := cstep c0 hB; have k1 := cstep c1 hB; have k2 := cstep c2 hB
    clear hB c0 c1 c2
    have hand := Hand.out
    go_wp2_with fail
    refine (Q40.out _ HB1.out).mono ?_
    rintro e w2 ⟨a1, d1, rfl, hx1, _, _, hB⟩
    have HBz2 := hid (bstep HB1.out hB)
    have k0 := cstep k0 hB
    have k1 := cstep k1 hB
    have k2 := cstep k2 hB
    have X1 := hid hx1
    clear hB hx1 HB1
    go_wp2_with fail
    refine (H49.out _ HBz2.out).mono ?_
    rintro e w3 ⟨rfl, hB⟩
    have HBz3 := hid (bstep HBz2.out hB)
    have k0 := cstep k0 hB
    have k1 := cstep k1 hB
    have k2 := cstep k2 hB
    have X1 := hid (X1.out.mono hB)
    clear hB HBz2
    have Z23 := hid fun (a : Option Addr) (c : Nat) (w' : World) (h : Below w3.heap.size w3 w') (hx : IntsAt w' a R) => X23R.out a c w' (bstep HBz3.out h) hx
    go_upto_region 6 with (fail)
    go_cut [9, 10] from 33 to 47 (fun a b wc => (∃ ad n c, a = .slice ad n c) ∧ b = .int .i64 e1 ∧ Below w3.heap.size w3 wc)
    case first =>
      go_region_held3 (fun w' => w'.cell? ⟨w.heap.size, 0, none⟩ = some (.int .i64 (f : Int)) ∧ w'.cell? ⟨w.heap.size, 1, none⟩ = some (.slice sa seen.length sc) ∧ w'.cell? ⟨w.heap.size, 2, none⟩ = some (.slice ra rs.length rc)) (first | exact ⟨k0, k1, k2⟩ | exact ⟨cstep k0 (by with_reducible repeat (first | exact Below.refl _ _ | refine Below.drew ?_ | refine bstep ?_ (bnew _ _) | (refine bstep ?_ (by assumption)))), cstep k1 (by with_reducible repeat (first | exact Below.refl _ _ | refine Below.drew ?_ | refine bstep ?_ (bnew _ _) | (refine bstep ?_ (by assumption)))), cstep k2 (by with_reducible repeat (first | exact Below.refl _ _ | refine Below.drew ?_ | refine bstep ?_ (bnew _ _) | (refine bstep ?_ (by assumption))))⟩ | go_keep)
        (first
          | (go_at_call 45; (with_reducible refine (LR.out _).mono ?_); rintro e wx1 ⟨aq, dq, rfl, hq, _, hB1⟩)
          | (go_at_call 23; (with_reducible refine (Z23.out _ _ _ (by with_reducible repeat (first | exact Below.refl _ _ | refine Below.drew ?_ | refine bstep ?_ (bnew _ _) | (refine bstep ?_ (by assumption)))) (by with_reducible repeat (first | assumption | refine undrewI ?_ | (refine IntsAt.mono ?_ (by assumption))))).mono ?_); rintro e wx2 ⟨ar, nr, cr, rfl, hB2⟩))
      all_goals (
        go_wp2
        go_meet
        exact ⟨⟨_, _, _, rfl⟩, rfl, (by with_reducible repeat (first | exact Below.refl _ _ | refine Below.drew ?_ | refine bstep ?_ (bnew _ _) | (refine bstep ?_ (by assumption))))⟩)
    obtain ⟨⟨ar, nr, cr, rfl⟩, rfl, hB⟩ := hcut
    rename World => wA
    clear Z23
    have HBz4 := hid (bstep HBz3.out hB)
    have k0 := cstep k0 hB
    have k1 := cstep k1 hB
    have k2 := cstep k2 hB
    have X1 := hid (X1.out.mono hB)
    clear hB HBz3
    go_wp2_with fail
    refine (Q33.out _ HBz4.out).mono ?_
    rintro e w5 ⟨a3, n3, d3, rfl, hB⟩
    have HBz5 := hid (bstep HBz4.out hB)
    have k0 := cstep k0 hB
    have k1 := cstep k1 hB
    have k2 := cstep k2 hB
    have X1 := hid (X1.out.mono hB)
    clear hB HBz4
    have hand2 := Hand2.out; have hsub2 := Hsub2.out
    rcases H1.out with h1 | ⟨h1, hOL⟩
    · skip
      obtain rfl := h1
      rcases H2.out with ⟨h2, hL0⟩ | ⟨h2, hL0⟩
      · skip
        obtain rfl := h2
        have hLd : (L.length == 0) = false := beq_eq_false_iff_ne.2 (by omega)
        have hLe : ((L.length : Int) == 0) = false := beq_eq_false_iff_ne.2 (by omega)
        have hLf : decide (L.length = 0) = false := decide_eq_false (by omega)
        clear hL0 H1 H2
        go_wp2_with fail
        refine (H53.out _ _ _ X1.out).mono ?_
        rintro e w6 ⟨rfl, hB⟩
        have HBz6 := hid (bstep HBz5.out hB)
        have k0 := cstep k0 hB
        have k1 := cstep k1 hB
        have k2 := cstep k2 hB
        have X1 := hid (X1.out.mono hB)
        clear hB HBz5
        go_wp2_with fail
        refine (H49L.out _ _ _ X1.out).mono ?_
        rintro e w7 ⟨rfl, hB⟩
        have HBz7 := hid (bstep HBz6.out hB)
        have k0 := cstep k0 hB
        have k1 := cstep k1 hB
        have k2 := cstep k2 hB
        have X1 := hid (X1.out.mono hB)
        clear hB HBz6
        have Z23 := hid fun (a : Option Addr) (c : Nat) (w' : World) (h : Below w7.heap.size w7 w') (hx : IntsAt w' a S) => X23S.out a c w' (bstep HBz7.out h) hx
        go_upto_region 15 with (fail)
        go_cut [6] from 107 to 121 (fun b wc => b = .int .i64 0 ∧ Below w7.heap.size w7 wc)
        case first =>
          go_region_held3 (fun w' => w'.cell? ⟨w.heap.size, 0, none⟩ = some (.int .i64 (f : Int)) ∧ w'.cell? ⟨w.heap.size, 1, none⟩ = some (.slice sa seen.length sc) ∧ w'.cell? ⟨w.heap.size, 2, none⟩ = some (.slice ra rs.length rc)) (first | exact ⟨k0, k1, k2⟩ | exact ⟨cstep k0 (by with_reducible repeat (first | exact Below.refl _ _ | refine Below.drew ?_ | refine bstep ?_ (bnew _ _) | (refine bstep ?_ (by assumption)))), cstep k1 (by with_reducible repeat (first | exact Below.refl _ _ | refine Below.drew ?_ | refine bstep ?_ (bnew _ _) | (refine bstep ?_ (by assumption)))), cstep k2 (by with_reducible repeat (first | exact Below.refl _ _ | refine Below.drew ?_ | refine bstep ?_ (bnew _ _) | (refine bstep ?_ (by assumption))))⟩ | go_keep)
            (first
              | (go_at_call 45; (with_reducible refine (LS.out _).mono ?_); rintro e wx1 ⟨aq, dq, rfl, hq, _, hB1⟩)
              | (go_at_call 23; (with_reducible refine (Z23.out _ _ _ (by with_reducible repeat (first | exact Below.refl _ _ | refine Below.drew ?_ | refine bstep ?_ (bnew _ _) | (refine bstep ?_ (by assumption)))) (by with_reducible repeat (first | assumption | refine undrewI ?_ | (refine IntsAt.mono ?_ (by assumption))))).mono ?_); rintro e wx2 ⟨ar, nr, cr, rfl, hB2⟩))
          all_goals (
            go_wp2
            go_meet
            exact ⟨rfl, (by with_reducible repeat (first | exact Below.refl _ _ | refine Below.drew ?_ | refine bstep ?_ (bnew _ _) | (refine bstep ?_ (by assumption))))⟩)
        obtain ⟨rfl, hB⟩ := hcut
        rename World => wB
        clear Z23
        have HBz8 := hid (bstep HBz7.out hB)
        have k0 := cstep k0 hB
        have k1 := cstep k1 hB
        have k2 := cstep k2 hB
        have X1 := hid (X1.out.mono hB)
        clear hB HBz7
        go_wp2
        go_loopw [14] (fun i wr => ∃ k : Nat, k ≤ L.length ∧ i = .int .i64 k ∧ Below wB.heap.size wB wr) (fun i _ => L.length - (intOf i).toNat)
        case atStart => exact ⟨0, Nat.zero_le _, rfl, Below.refl _ _⟩
        case round =>
          obtain ⟨k, hk, rfl, hB⟩ := hrel
          obtain ⟨wk, rfl⟩ : ∃ wk : World, wk = wr := ⟨_, rfl⟩
          have HB := hid hB
          have HBt := hid (bstep HBz8.out hB)
          have k0 := cstep k0 hB; have k1 := cstep k1 hB; have k2 := cstep k2 hB
          have Hat := hid (X1.out.mono hB)
          clear hB
          have hLl2 := HLl.out
          by_cases hlt : k < L.length
          case neg =>
            obtain rfl : k = L.length := by omega
            clear hlt hk
            go_wp2_with fail
            refine (HW.out _).mono ?_
            rintro e wz ⟨rfl, hB⟩
            go_wp2
            go_ret
            exact ⟨rfl, bstep HB0.out (bstep HBt.out hB)⟩
          case pos =>
            obtain ⟨t, ht, ht12, htc⟩ := Hall.out k hlt
            obtain ⟨b, off, hb, hcl⟩ := Hat.out.at hlt
            subst hb
            rw [ht] at hcl
            have hsbl := Hsb.out
            have hp2 : (2 : Nat) ^ t < 2 ^ 12 := Nat.pow_lt_pow_right (by omega) ht12
            have hsh := shl_one (f := t) (by omega)
            have htI : (t : Int) < 64 := by omega
            have ht0 : decide ((t : Int) < 0) = false := decide_eq_false (by omega)
            have hadd : IntKind.i64.wrap (((sb - wb : Nat) : Int) + (2 : Int) ^ t) = ((sb - wb + 2 ^ t : Nat) : Int) := by
              rw [show ((sb - wb : Nat) : Int) + (2 : Int) ^ t = ((sb - wb + 2 ^ t : Nat) : Int) by simp]
              exact wrap_i64_nat (by omega)
            have LTk := hid fun w' => LT.out t ht12 w'
            have XCk := hid fun (a : Option Addr) (c : Nat) (w' : World) (h : Below wk.heap.size wk w') (hx : IntsAt w' a (listedB (sb - wb + 2 ^ t) f)) => XC.out t htc a c w' (bstep HBt.out h) hx
            obtain ⟨T, hT⟩ : ∃ T, T = listedB (sb - wb + 2 ^ t) f := ⟨_, rfl⟩
            obtain ⟨tb, htb⟩ : ∃ T, T = sb - wb + 2 ^ t := ⟨_, rfl⟩
            rw [← hT] at LTk XCk
            rw [← htb] at hadd LTk
            have hltI : (k : Int) < (L.length : Int) := by omega
            clear hT htb htc ht hp2 hsbl
            go_upto_region 21 with (fail)
            go_cut [14, 16] from 130 to 150 (fun s e wc => s = .int .i64 k ∧ e = .int .i64 0 ∧ Below wk.heap.size wk wc)
            case first =>
              go_region_held3 (fun w' => w'.cell? ⟨w.heap.size, 0, none⟩ = some (.int .i64 (f : Int)) ∧ w'.cell? ⟨w.heap.size, 2, none⟩ = some (.slice ra rs.length rc) ∧ w'.cell? ⟨b, off + k, none⟩ = some (.int .i64 t)) (first | exact ⟨k0, k2, hcl⟩ | exact ⟨cstep k0 (by with_reducible repeat (first | exact Below.refl _ _ | refine Below.drew ?_ | refine bstep ?_ (bnew _ _) | (refine bstep ?_ (by assumption)))), cstep k2 (by with_reducible repeat (first | exact Below.refl _ _ | refine Below.drew ?_ | refine bstep ?_ (bnew _ _) | (refine bstep ?_ (by assumption)))), cstep hcl (by with_reducible repeat (first | exact Below.refl _ _ | refine Below.drew ?_ | refine bstep ?_ (bnew _ _) | (refine bstep ?_ (by assumption))))⟩ | go_keep)
                (first
                  | (go_at_call 45; (with_reducible refine (LTk.out _).mono ?_); rintro e wx1 ⟨aq, dq, rfl, hq, _, hB1⟩)
                  | (go_at_call 33; (with_reducible refine (XCk.out _ _ _ (by with_reducible repeat (first | exact Below.refl _ _ | refine Below.drew ?_ | refine bstep ?_ (bnew _ _) | (refine bstep ?_ (by assumption)))) (by with_reducible repeat (first | assumption | refine undrewI ?_ | (refine IntsAt.mono ?_ (by assumption))))).mono ?_); rintro e wx2 ⟨ar, nr, cr, rfl, hB2⟩))
              all_goals (
                go_wp2
                go_meet
                exact ⟨rfl, rfl, (by with_reducible repeat (first | exact Below.refl _ _ | refine Below.drew ?_ | refine bstep ?_ (bnew _ _) | (refine bstep ?_ (by assumption))))⟩)
            obtain ⟨rfl, rfl, hB9⟩ := hcut
            rename World => wd
            clear hcl k0 k1 k2
            go_wp2
            go_roundw
            case rel => exact ⟨k + 1, by omega, by go_num, bstep HB.out hB9⟩
            case measure => simp [intOf]; omega
      · skip
        obtain rfl := h2
        have hLd : (L.length == 0) = true := beq_iff_eq.2 (by omega)
        have hLe : ((L.length : Int) == 0) = true := beq_iff_eq.2 (by omega)
        have hLf : decide (L.length = 0) = true := decide_eq_true (by omega)
        clear hL0 H1 H2
        go_wp2_with fail
        refine (H53.out _ _ _ X1.out).mono ?_
        rintro e w6 ⟨rfl, hB⟩
        have HBz6 := hid (bstep HBz5.out hB)
        have k0 := cstep k0 hB
        have k1 := cstep k1 hB
        have k2 := cstep k2 hB
        have X1 := hid (X1.out.mono hB)
        clear hB HBz5
        go_wp2_with fail
        refine (H49L.out _ _ _ X1.out).mono ?_
        rintro e w7 ⟨rfl, hB⟩
        have HBz7 := hid (bstep HBz6.out hB)
        have k0 := cstep k0 hB
        have k1 := cstep k1 hB
        have k2 := cstep k2 hB
        have X1 := hid (X1.out.mono hB)
        clear hB HBz6
        have Z23 := hid fun (a : Option Addr) (c : Nat) (w' : World) (h : Below w7.heap.size w7 w') (hx : IntsAt w' a S) => X23S.out a c w' (bstep HBz7.out h) hx
        go_upto_region 15 with (fail)
        go_cut [6] from 107 to 121 (fun b wc => b = .int .i64 0 ∧ Below w7.heap.size w7 wc)
        case first =>
          go_region_held3 (fun w' => w'.cell? ⟨w.heap.size, 0, none⟩ = some (.int .i64 (f : Int)) ∧ w'.cell? ⟨w.heap.size, 1, none⟩ = some (.slice sa seen.length sc) ∧ w'.cell? ⟨w.heap.size, 2, none⟩ = some (.slice ra rs.length rc)) (first | exact ⟨k0, k1, k2⟩ | exact ⟨cstep k0 (by with_reducible repeat (first | exact Below.refl _ _ | refine Below.drew ?_ | refine bstep ?_ (bnew _ _) | (refine bstep ?_ (by assumption)))), cstep k1 (by with_reducible repeat (first | exact Below.refl _ _ | refine Below.drew ?_ | refine bstep ?_ (bnew _ _) | (refine bstep ?_ (by assumption)))), cstep k2 (by with_reducible repeat (first | exact Below.refl _ _ | refine Below.drew ?_ | refine bstep ?_ (bnew _ _) | (refine bstep ?_ (by assumption))))⟩ | go_keep)
            (first
              | (go_at_call 45; (with_reducible refine (LS.out _).mono ?_); rintro e wx1 ⟨aq, dq, rfl, hq, _, hB1⟩)
              | (go_at_call 23; (with_reducible refine (Z23.out _ _ _ (by with_reducible repeat (first | exact Below.refl _ _ | refine Below.drew ?_ | refine bstep ?_ (bnew _ _) | (refine bstep ?_ (by assumption)))) (by with_reducible repeat (first | assumption | refine undrewI ?_ | (refine IntsAt.mono ?_ (by assumption))))).mono ?_); rintro e wx2 ⟨ar, nr, cr, rfl, hB2⟩))
          all_goals (
            go_wp2
            go_meet
            exact ⟨rfl, (by with_reducible repeat (first | exact Below.refl _ _ | refine Below.drew ?_ | refine bstep ?_ (bnew _ _) | (refine bstep ?_ (by assumption))))⟩)
        obtain ⟨rfl, hB⟩ := hcut
        rename World => wB
        clear Z23
        have HBz8 := hid (bstep HBz7.out hB)
        have k0 := cstep k0 hB
        have k1 := cstep k1 hB
        have k2 := cstep k2 hB
        have X1 := hid (X1.out.mono hB)
        clear hB HBz7
        go_wp2
        go_loopw [14] (fun i wr => ∃ k : Nat, k ≤ L.length ∧ i = .int .i64 k ∧ Below wB.heap.size wB wr) (fun i _ => L.length - (intOf i).toNat)
        case atStart => exact ⟨0, Nat.zero_le _, rfl, Below.refl _ _⟩
        case round =>
          obtain ⟨k, hk, rfl, hB⟩ := hrel
          obtain ⟨wk, rfl⟩ : ∃ wk : World, wk = wr := ⟨_, rfl⟩
          have HB := hid hB
          have HBt := hid (bstep HBz8.out hB)
          have k0 := cstep k0 hB; have k1 := cstep k1 hB; have k2 := cstep k2 hB
          have Hat := hid (X1.out.mono hB)
          clear hB
          have hLl2 := HLl.out
          by_cases hlt : k < L.length
          case neg =>
            obtain rfl : k = L.length := by omega
            clear hlt hk
            go_wp2_with fail
            refine (HW.out _).mono ?_
            rintro e wz ⟨rfl, hB⟩
            go_wp2
            go_ret
            exact ⟨rfl, bstep HB0.out (bstep HBt.out hB)⟩
          case pos =>
            obtain ⟨t, ht, ht12, htc⟩ := Hall.out k hlt
            obtain ⟨b, off, hb, hcl⟩ := Hat.out.at hlt
            subst hb
            rw [ht] at hcl
            have hsbl := Hsb.out
            have hp2 : (2 : Nat) ^ t < 2 ^ 12 := Nat.pow_lt_pow_right (by omega) ht12
            have hsh := shl_one (f := t) (by omega)
            have htI : (t : Int) < 64 := by omega
            have ht0 : decide ((t : Int) < 0) = false := decide_eq_false (by omega)
            have hadd : IntKind.i64.wrap (((sb - wb : Nat) : Int) + (2 : Int) ^ t) = ((sb - wb + 2 ^ t : Nat) : Int) := by
              rw [show ((sb - wb : Nat) : Int) + (2 : Int) ^ t = ((sb - wb + 2 ^ t : Nat) : Int) by simp]
              exact wrap_i64_nat (by omega)
            have LTk := hid fun w' => LT.out t ht12 w'
            have XCk := hid fun (a : Option Addr) (c : Nat) (w' : World) (h : Below wk.heap.size wk w') (hx : IntsAt w' a (listedB (sb - wb + 2 ^ t) f)) => XC.out t htc a c w' (bstep HBt.out h) hx
            obtain ⟨T, hT⟩ : ∃ T, T = listedB (sb - wb + 2 ^ t) f := ⟨_, rfl⟩
            obtain ⟨tb, htb⟩ : ∃ T, T = sb - wb + 2 ^ t := ⟨_, rfl⟩
            rw [← hT] at LTk XCk
            rw [← htb] at hadd LTk
            have hltI : (k : Int) < (L.length : Int) := by omega
            clear hT htb htc ht hp2 hsbl
            go_upto_region 21 with (fail)
            go_cut [14, 16] from 130 to 150 (fun s e wc => s = .int .i64 k ∧ e = .int .i64 0 ∧ Below wk.heap.size wk wc)
            case first =>
              go_region_held3 (fun w' => w'.cell? ⟨w.heap.size, 0, none⟩ = some (.int .i64 (f : Int)) ∧ w'.cell? ⟨w.heap.size, 2, none⟩ = some (.slice ra rs.length rc) ∧ w'.cell? ⟨b, off + k, none⟩ = some (.int .i64 t)) (first | exact ⟨k0, k2, hcl⟩ | exact ⟨cstep k0 (by with_reducible repeat (first | exact Below.refl _ _ | refine Below.drew ?_ | refine bstep ?_ (bnew _ _) | (refine bstep ?_ (by assumption)))), cstep k2 (by with_reducible repeat (first | exact Below.refl _ _ | refine Below.drew ?_ | refine bstep ?_ (bnew _ _) | (refine bstep ?_ (by assumption)))), cstep hcl (by with_reducible repeat (first | exact Below.refl _ _ | refine Below.drew ?_ | refine bstep ?_ (bnew _ _) | (refine bstep ?_ (by assumption))))⟩ | go_keep)
                (first
                  | (go_at_call 45; (with_reducible refine (LTk.out _).mono ?_); rintro e wx1 ⟨aq, dq, rfl, hq, _, hB1⟩)
                  | (go_at_call 33; (with_reducible refine (XCk.out _ _ _ (by with_reducible repeat (first | exact Below.refl _ _ | refine Below.drew ?_ | refine bstep ?_ (bnew _ _) | (refine bstep ?_ (by assumption)))) (by with_reducible repeat (first | assumption | refine undrewI ?_ | (refine IntsAt.mono ?_ (by assumption))))).mono ?_); rintro e wx2 ⟨ar, nr, cr, rfl, hB2⟩))
              all_goals (
                go_wp2
                go_meet
                exact ⟨rfl, rfl, (by with_reducible repeat (first | exact Below.refl _ _ | refine Below.drew ?_ | refine bstep ?_ (bnew _ _) | (refine bstep ?_ (by assumption))))⟩)
            obtain ⟨rfl, rfl, hB9⟩ := hcut
            rename World => wd
            clear hcl k0 k1 k2
            go_wp2
            go_roundw
            case rel => exact ⟨k + 1, by omega, by go_num, bstep HB.out hB9⟩
            case measure => simp [intOf]; omega
    · skip
      obtain rfl := h1
      have hOLd : decide (O.length < L.length) = false := decide_eq_false (by omega)
      have hOLi : decide ((O.length : Int) < (L.length : Int)) = false := decide_eq_false (by omega)
      rcases H2.out with ⟨h2, hL0⟩ | ⟨h2, hL0⟩
      · skip
        obtain rfl := h2
        have hLd : (L.length == 0) = false := beq_eq_false_iff_ne.2 (by omega)
        have hLe : ((L.length : Int) == 0) = false := beq_eq_false_iff_ne.2 (by omega)
        have hLf : decide (L.length = 0) = false := decide_eq_false (by omega)
        clear hL0 H1 H2
        go_wp2_with fail
        refine (H53.out _ _ _ X1.out).mono ?_
        rintro e w6 ⟨rfl, hB⟩
        have HBz6 := hid (bstep HBz5.out hB)
        have k0 := cstep k0 hB
        have k1 := cstep k1 hB
        have k2 := cstep k2 hB
        have X1 := hid (X1.out.mono hB)
        clear hB HBz5
        go_wp2_with fail
        refine (LO.out _).mono ?_
        rintro e w7 ⟨ao, dd, rfl, hxo, _, hB⟩
        have HBz7 := hid (bstep HBz6.out hB)
        have k0 := cstep k0 hB
        have k1 := cstep k1 hB
        have k2 := cstep k2 hB
        have X1 := hid (X1.out.mono hB)
        clear hB HBz6 hxo
        go_wp2_with fail
        refine (H49L.out _ _ _ X1.out).mono ?_
        rintro e w8 ⟨rfl, hB⟩
        have HBz8 := hid (bstep HBz7.out hB)
        have k0 := cstep k0 hB
        have k1 := cstep k1 hB
        have k2 := cstep k2 hB
        have X1 := hid (X1.out.mono hB)
        clear hB HBz7
        have Z23 := hid fun (a : Option Addr) (c : Nat) (w' : World) (h : Below w8.heap.size w8 w') (hx : IntsAt w' a S) => X23S.out a c w' (bstep HBz8.out h) hx
        go_upto_region 15 with (fail)
        go_cut [6] from 107 to 121 (fun b wc => b = .int .i64 0 ∧ Below w8.heap.size w8 wc)
        case first =>
          go_region_held3 (fun w' => w'.cell? ⟨w.heap.size, 0, none⟩ = some (.int .i64 (f : Int)) ∧ w'.cell? ⟨w.heap.size, 1, none⟩ = some (.slice sa seen.length sc) ∧ w'.cell? ⟨w.heap.size, 2, none⟩ = some (.slice ra rs.length rc)) (first | exact ⟨k0, k1, k2⟩ | exact ⟨cstep k0 (by with_reducible repeat (first | exact Below.refl _ _ | refine Below.drew ?_ | refine bstep ?_ (bnew _ _) | (refine bstep ?_ (by assumption)))), cstep k1 (by with_reducible repeat (first | exact Below.refl _ _ | refine Below.drew ?_ | refine bstep ?_ (bnew _ _) | (refine bstep ?_ (by assumption)))), cstep k2 (by with_reducible repeat (first | exact Below.refl _ _ | refine Below.drew ?_ | refine bstep ?_ (bnew _ _) | (refine bstep ?_ (by assumption))))⟩ | go_keep)
            (first
              | (go_at_call 45; (with_reducible refine (LS.out _).mono ?_); rintro e wx1 ⟨aq, dq, rfl, hq, _, hB1⟩)
              | (go_at_call 23; (with_reducible refine (Z23.out _ _ _ (by with_reducible repeat (first | exact Below.refl _ _ | refine Below.drew ?_ | refine bstep ?_ (bnew _ _) | (refine bstep ?_ (by assumption)))) (by with_reducible repeat (first | assumption | refine undrewI ?_ | (refine IntsAt.mono ?_ (by assumption))))).mono ?_); rintro e wx2 ⟨ar, nr, cr, rfl, hB2⟩))
          all_goals (
            go_wp2
            go_meet
            exact ⟨rfl, (by with_reducible repeat (first | exact Below.refl _ _ | refine Below.drew ?_ | refine bstep ?_ (bnew _ _) | (refine bstep ?_ (by assumption))))⟩)
        obtain ⟨rfl, hB⟩ := hcut
        rename World => wB
        clear Z23
        have HBz9 := hid (bstep HBz8.out hB)
        have k0 := cstep k0 hB
        have k1 := cstep k1 hB
        have k2 := cstep k2 hB
        have X1 := hid (X1.out.mono hB)
        clear hB HBz8
        go_wp2
        go_loopw [14] (fun i wr => ∃ k : Nat, k ≤ L.length ∧ i = .int .i64 k ∧ Below wB.heap.size wB wr) (fun i _ => L.length - (intOf i).toNat)
        case atStart => exact ⟨0, Nat.zero_le _, rfl, Below.refl _ _⟩
        case round =>
          obtain ⟨k, hk, rfl, hB⟩ := hrel
          obtain ⟨wk, rfl⟩ : ∃ wk : World, wk = wr := ⟨_, rfl⟩
          have HB := hid hB
          have HBt := hid (bstep HBz9.out hB)
          have k0 := cstep k0 hB; have k1 := cstep k1 hB; have k2 := cstep k2 hB
          have Hat := hid (X1.out.mono hB)
          clear hB
          have hLl2 := HLl.out
          by_cases hlt : k < L.length
          case neg =>
            obtain rfl : k = L.length := by omega
            clear hlt hk
            go_wp2_with fail
            refine (HW.out _).mono ?_
            rintro e wz ⟨rfl, hB⟩
            go_wp2
            go_ret
            exact ⟨rfl, bstep HB0.out (bstep HBt.out hB)⟩
          case pos =>
            obtain ⟨t, ht, ht12, htc⟩ := Hall.out k hlt
            obtain ⟨b, off, hb, hcl⟩ := Hat.out.at hlt
            subst hb
            rw [ht] at hcl
            have hsbl := Hsb.out
            have hp2 : (2 : Nat) ^ t < 2 ^ 12 := Nat.pow_lt_pow_right (by omega) ht12
            have hsh := shl_one (f := t) (by omega)
            have htI : (t : Int) < 64 := by omega
            have ht0 : decide ((t : Int) < 0) = false := decide_eq_false (by omega)
            have hadd : IntKind.i64.wrap (((sb - wb : Nat) : Int) + (2 : Int) ^ t) = ((sb - wb + 2 ^ t : Nat) : Int) := by
              rw [show ((sb - wb : Nat) : Int) + (2 : Int) ^ t = ((sb - wb + 2 ^ t : Nat) : Int) by simp]
              exact wrap_i64_nat (by omega)
            have LTk := hid fun w' => LT.out t ht12 w'
            have XCk := hid fun (a : Option Addr) (c : Nat) (w' : World) (h : Below wk.heap.size wk w') (hx : IntsAt w' a (listedB (sb - wb + 2 ^ t) f)) => XC.out t htc a c w' (bstep HBt.out h) hx
            obtain ⟨T, hT⟩ : ∃ T, T = listedB (sb - wb + 2 ^ t) f := ⟨_, rfl⟩
            obtain ⟨tb, htb⟩ : ∃ T, T = sb - wb + 2 ^ t := ⟨_, rfl⟩
            rw [← hT] at LTk XCk
            rw [← htb] at hadd LTk
            have hltI : (k : Int) < (L.length : Int) := by omega
            clear hT htb htc ht hp2 hsbl
            go_upto_region 21 with (fail)
            go_cut [14, 16] from 130 to 150 (fun s e wc => s = .int .i64 k ∧ e = .int .i64 0 ∧ Below wk.heap.size wk wc)
            case first =>
              go_region_held3 (fun w' => w'.cell? ⟨w.heap.size, 0, none⟩ = some (.int .i64 (f : Int)) ∧ w'.cell? ⟨w.heap.size, 2, none⟩ = some (.slice ra rs.length rc) ∧ w'.cell? ⟨b, off + k, none⟩ = some (.int .i64 t)) (first | exact ⟨k0, k2, hcl⟩ | exact ⟨cstep k0 (by with_reducible repeat (first | exact Below.refl _ _ | refine Below.drew ?_ | refine bstep ?_ (bnew _ _) | (refine bstep ?_ (by assumption)))), cstep k2 (by with_reducible repeat (first | exact Below.refl _ _ | refine Below.drew ?_ | refine bstep ?_ (bnew _ _) | (refine bstep ?_ (by assumption)))), cstep hcl (by with_reducible repeat (first | exact Below.refl _ _ | refine Below.drew ?_ | refine bstep ?_ (bnew _ _) | (refine bstep ?_ (by assumption))))⟩ | go_keep)
                (first
                  | (go_at_call 45; (with_reducible refine (LTk.out _).mono ?_); rintro e wx1 ⟨aq, dq, rfl, hq, _, hB1⟩)
                  | (go_at_call 33; (with_reducible refine (XCk.out _ _ _ (by with_reducible repeat (first | exact Below.refl _ _ | refine Below.drew ?_ | refine bstep ?_ (bnew _ _) | (refine bstep ?_ (by assumption)))) (by with_reducible repeat (first | assumption | refine undrewI ?_ | (refine IntsAt.mono ?_ (by assumption))))).mono ?_); rintro e wx2 ⟨ar, nr, cr, rfl, hB2⟩))
              all_goals (
                go_wp2
                go_meet
                exact ⟨rfl, rfl, (by with_reducible repeat (first | exact Below.refl _ _ | refine Below.drew ?_ | refine bstep ?_ (bnew _ _) | (refine bstep ?_ (by assumption))))⟩)
            obtain ⟨rfl, rfl, hB9⟩ := hcut
            rename World => wd
            clear hcl k0 k1 k2
            go_wp2
            go_roundw
            case rel => exact ⟨k + 1, by omega, by go_num, bstep HB.out hB9⟩
            case measure => simp [intOf]; omega
      · skip
        obtain rfl := h2
        have hLd : (L.length == 0) = true := beq_iff_eq.2 (by omega)
        have hLe : ((L.length : Int) == 0) = true := beq_iff_eq.2 (by omega)
        have hLf : decide (L.length = 0) = true := decide_eq_true (by omega)
        clear hL0 H1 H2
        go_wp2_with fail
        refine (H53.out _ _ _ X1.out).mono ?_
        rintro e w6 ⟨rfl, hB⟩
        have HBz6 := hid (bstep HBz5.out hB)
        have k0 := cstep k0 hB
        have k1 := cstep k1 hB
        have k2 := cstep k2 hB
        have X1 := hid (X1.out.mono hB)
        clear hB HBz5
        go_wp2_with fail
        refine (LO.out _).mono ?_
        rintro e w7 ⟨ao, dd, rfl, hxo, _, hB⟩
        have HBz7 := hid (bstep HBz6.out hB)
        have k0 := cstep k0 hB
        have k1 := cstep k1 hB
        have k2 := cstep k2 hB
        have X1 := hid (X1.out.mono hB)
        clear hB HBz6 hxo
        go_wp2_with fail
        refine (H49L.out _ _ _ X1.out).mono ?_
        rintro e w8 ⟨rfl, hB⟩
        have HBz8 := hid (bstep HBz7.out hB)
        have k0 := cstep k0 hB
        have k1 := cstep k1 hB
        have k2 := cstep k2 hB
        have X1 := hid (X1.out.mono hB)
        clear hB HBz7
        have Z23 := hid fun (a : Option Addr) (c : Nat) (w' : World) (h : Below w8.heap.size w8 w') (hx : IntsAt w' a S) => X23S.out a c w' (bstep HBz8.out h) hx
        go_upto_region 15 with (fail)
        go_cut [6] from 107 to 121 (fun b wc => b = .int .i64 0 ∧ Below w8.heap.size w8 wc)
        case first =>
          go_region_held3 (fun w' => w'.cell? ⟨w.heap.size, 0, none⟩ = some (.int .i64 (f : Int)) ∧ w'.cell? ⟨w.heap.size, 1, none⟩ = some (.slice sa seen.length sc) ∧ w'.cell? ⟨w.heap.size, 2, none⟩ = some (.slice ra rs.length rc)) (first | exact ⟨k0, k1, k2⟩ | exact ⟨cstep k0 (by with_reducible repeat (first | exact Below.refl _ _ | refine Below.drew ?_ | refine bstep ?_ (bnew _ _) | (refine bstep ?_ (by assumption)))), cstep k1 (by with_reducible repeat (first | exact Below.refl _ _ | refine Below.drew ?_ | refine bstep ?_ (bnew _ _) | (refine bstep ?_ (by assumption)))), cstep k2 (by with_reducible repeat (first | exact Below.refl _ _ | refine Below.drew ?_ | refine bstep ?_ (bnew _ _) | (refine bstep ?_ (by assumption))))⟩ | go_keep)
            (first
              | (go_at_call 45; (with_reducible refine (LS.out _).mono ?_); rintro e wx1 ⟨aq, dq, rfl, hq, _, hB1⟩)
              | (go_at_call 23; (with_reducible refine (Z23.out _ _ _ (by with_reducible repeat (first | exact Below.refl _ _ | refine Below.drew ?_ | refine bstep ?_ (bnew _ _) | (refine bstep ?_ (by assumption)))) (by with_reducible repeat (first | assumption | refine undrewI ?_ | (refine IntsAt.mono ?_ (by assumption))))).mono ?_); rintro e wx2 ⟨ar, nr, cr, rfl, hB2⟩))
          all_goals (
            go_wp2
            go_meet
            exact ⟨rfl, (by with_reducible repeat (first | exact Below.refl _ _ | refine Below.drew ?_ | refine bstep ?_ (bnew _ _) | (refine bstep ?_ (by assumption))))⟩)
        obtain ⟨rfl, hB⟩ := hcut
        rename World => wB
        clear Z23
        have HBz9 := hid (bstep HBz8.out hB)
        have k0 := cstep k0 hB
        have k1 := cstep k1 hB
        have k2 := cstep k2 hB
        have X1 := hid (X1.out.mono hB)
        clear hB HBz8
        go_wp2
        go_loopw [14] (fun i wr => ∃ k : Nat, k ≤ L.length ∧ i = .int .i64 k ∧ Below wB.heap.size wB wr) (fun i _ => L.length - (intOf i).toNat)
        case atStart => exact ⟨0, Nat.zero_le _, rfl, Below.refl _ _⟩
        case round =>
          obtain ⟨k, hk, rfl, hB⟩ := hrel
          obtain ⟨wk, rfl⟩ : ∃ wk : World, wk = wr := ⟨_, rfl⟩
          have HB := hid hB
          have HBt := hid (bstep HBz9.out hB)
          have k0 := cstep k0 hB; have k1 := cstep k1 hB; have k2 := cstep k2 hB
          have Hat := hid (X1.out.mono hB)
          clear hB
          have hLl2 := HLl.out
          by_cases hlt : k < L.length
          case neg =>
            obtain rfl : k = L.length := by omega
            clear hlt hk
            go_wp2_with fail
            refine (HW.out _).mono ?_
            rintro e wz ⟨rfl, hB⟩
            go_wp2
            go_ret
            exact ⟨rfl, bstep HB0.out (bstep HBt.out hB)⟩
          case pos =>
            obtain ⟨t, ht, ht12, htc⟩ := Hall.out k hlt
            obtain ⟨b, off, hb, hcl⟩ := Hat.out.at hlt
            subst hb
            rw [ht] at hcl
            have hsbl := Hsb.out
            have hp2 : (2 : Nat) ^ t < 2 ^ 12 := Nat.pow_lt_pow_right (by omega) ht12
            have hsh := shl_one (f := t) (by omega)
            have htI : (t : Int) < 64 := by omega
            have ht0 : decide ((t : Int) < 0) = false := decide_eq_false (by omega)
            have hadd : IntKind.i64.wrap (((sb - wb : Nat) : Int) + (2 : Int) ^ t) = ((sb - wb + 2 ^ t : Nat) : Int) := by
              rw [show ((sb - wb : Nat) : Int) + (2 : Int) ^ t = ((sb - wb + 2 ^ t : Nat) : Int) by simp]
              exact wrap_i64_nat (by omega)
            have LTk := hid fun w' => LT.out t ht12 w'
            have XCk := hid fun (a : Option Addr) (c : Nat) (w' : World) (h : Below wk.heap.size wk w') (hx : IntsAt w' a (listedB (sb - wb + 2 ^ t) f)) => XC.out t htc a c w' (bstep HBt.out h) hx
            obtain ⟨T, hT⟩ : ∃ T, T = listedB (sb - wb + 2 ^ t) f := ⟨_, rfl⟩
            obtain ⟨tb, htb⟩ : ∃ T, T = sb - wb + 2 ^ t := ⟨_, rfl⟩
            rw [← hT] at LTk XCk
            rw [← htb] at hadd LTk
            have hltI : (k : Int) < (L.length : Int) := by omega
            clear hT htb htc ht hp2 hsbl
            go_upto_region 21 with (fail)
            go_cut [14, 16] from 130 to 150 (fun s e wc => s = .int .i64 k ∧ e = .int .i64 0 ∧ Below wk.heap.size wk wc)
            case first =>
              go_region_held3 (fun w' => w'.cell? ⟨w.heap.size, 0, none⟩ = some (.int .i64 (f : Int)) ∧ w'.cell? ⟨w.heap.size, 2, none⟩ = some (.slice ra rs.length rc) ∧ w'.cell? ⟨b, off + k, none⟩ = some (.int .i64 t)) (first | exact ⟨k0, k2, hcl⟩ | exact ⟨cstep k0 (by with_reducible repeat (first | exact Below.refl _ _ | refine Below.drew ?_ | refine bstep ?_ (bnew _ _) | (refine bstep ?_ (by assumption)))), cstep k2 (by with_reducible repeat (first | exact Below.refl _ _ | refine Below.drew ?_ | refine bstep ?_ (bnew _ _) | (refine bstep ?_ (by assumption)))), cstep hcl (by with_reducible repeat (first | exact Below.refl _ _ | refine Below.drew ?_ | refine bstep ?_ (bnew _ _) | (refine bstep ?_ (by assumption))))⟩ | go_keep)
                (first
                  | (go_at_call 45; (with_reducible refine (LTk.out _).mono ?_); rintro e wx1 ⟨aq, dq, rfl, hq, _, hB1⟩)
                  | (go_at_call 33; (with_reducible refine (XCk.out _ _ _ (by with_reducible repeat (first | exact Below.refl _ _ | refine Below.drew ?_ | refine bstep ?_ (bnew _ _) | (refine bstep ?_ (by assumption)))) (by with_reducible repeat (first | assumption | refine undrewI ?_ | (refine IntsAt.mono ?_ (by assumption))))).mono ?_); rintro e wx2 ⟨ar, nr, cr, rfl, hB2⟩))
              all_goals (
                go_wp2
                go_meet
                exact ⟨rfl, rfl, (by with_reducible repeat (first | exact Below.refl _ _ | refine Below.drew ?_ | refine bstep ?_ (bnew _ _) | (refine bstep ?_ (by assumption))))⟩)
            obtain ⟨rfl, rfl, hB9⟩ := hcut
            rename World => wd
            clear hcl k0 k1 k2
            go_wp2
            go_roundw
            case rel => exact ⟨k + 1, by omega, by go_num, bstep HB.out hB9⟩
            case measure => simp [intOf]; omega

end Go.Proofs.Ytkioejdddmnbmaa
