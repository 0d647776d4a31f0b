/- Walk: the law PleaTurned, out of the contract of Works. -/
import Derived.Test.YtkioejdddmnbmaaPo
import Derived.Test.YtkioejdddmnbmaaUx
import Derived.Deep.RegionLaw
namespace Go.Proofs.Ytkioejdddmnbmaa
open Go.RowKit Go.Shelf

theorem alloc_sizeT (w : World) (o : Obj) : (w.alloc o).heap.size = w.heap.size + 1 := by simp
theorem bsetT {W x : World} {b o : Nat} {v : Value} (h : Below W.heap.size W x) (hb : W.heap.size ≤ b) : Below W.heap.size W (x.setCell ⟨b, o, none⟩ v) := h.setCell hb v
theorem drew_sizeT (w : World) : w.drew.heap.size = w.heap.size := rfl

set_option maxRecDepth 100000 in
set_option maxHeartbeats 8000000 in
theorem turned_law (hworks : WorksC) (facts : Int) (sa : Option Addr) (sc : Nat) (seen : List Int) (ra : Option Addr) (rc : Nat) (rs : List Rl) (n p t : Nat) (w : World) (hs : IntsAt w sa seen) (hr : RulesAt w ra rs) (hsnil : sa = none → sc = 0) (hn : n < 256) (hp : p < 256) (ht : t < 256) :
    Calls Try.prog 15 #[.agg #[.int .i64 facts, .slice sa seen.length sc, .slice ra rs.length rc], .int .u8 n, .int .u8 p, .int .u8 t] w (TrueP w) := by
  have HW := hid hworks
  clear hworks
  obtain ⟨W0, hW0⟩ : ∃ W0, W0 = w.alloc (.cells #[.int .i64 facts, .slice sa seen.length sc, .slice ra rs.length rc] 25) := ⟨_, rfl⟩
  have HB0 := hid (show Below w.heap.size w W0 by rw [hW0]; exact bnew w _)
  obtain ⟨c0, c1, c2⟩ := caseBox w facts sa ra seen.length sc rs.length rc
  rw [← hW0] at c0 c1 c2
  have HR := hid (hr.mono HB0.out); have HSn := hid (hs.mono HB0.out)
  have HS := hid hW0
  clear hs hr hW0
  have HG := hid (fine_c sa ra sc rc facts seen rs W0 HSn.out HR.out)
  unfold TellB at HG
  by_cases hg : fineB facts seen rs = true
  case neg =>
    have hgn : fineB facts seen rs = false := by simpa using hg
    rw [hgn] at HG
    clear hg hgn hsnil hn hp ht
    go_enter Try.func15, Try.ntmps15
    go_wp2_with fail
    rw [← HS.out]
    refine HG.out.mono ?_
    rintro e w1 ⟨rfl, hB⟩
    have HB1 := hid (bstep HB0.out hB)
    clear hB
    go_wp2_with fail
    refine (HW.out _).mono ?_
    rintro e w2 ⟨rfl, hB⟩
    have HB2 := hid (bstep HB1.out hB)
    clear hB
    go_wp2
    go_ret
    exact ⟨rfl, HB2.out⟩
  case pos =>
    obtain ⟨hgf, hz⟩ := fine_true hg
    obtain ⟨hl1, hl2, hl3⟩ := great_lens hgf
    rw [hg] at HG
    obtain ⟨f, rfl, hf1, hf2⟩ := case_nat hz
    have hil : ∀ i, i < rs.length → (nthR rs i).1.length ≤ 1000000 := fun i hi => by have := hl3 i hi; omega
    have hv : Valid f seen rs := valid_of hz hil
    have hC : ∀ w', Below W0.heap.size W0 w' → CaseAt w' sa ra seen rs := fun w' h => great_case (HSn.out.mono h) (HR.out.mono h) hgf
    obtain ⟨s, hs⟩ : ∃ i, i = n % f := ⟨_, rfl⟩
    obtain ⟨i, hi⟩ : ∃ i, i = t % f := ⟨_, rfl⟩
    have hsf : s < f := by rw [hs]; exact Nat.mod_lt _ (by omega)
    have hif : i < f := by rw [hi]; exact Nat.mod_lt _ (by omega)
    have hwr : IntKind.i64.wrap ((n : Nat) : Int) = (n : Int) := wrap_i64_nat (by omega)
    have hwp : IntKind.i64.wrap ((p : Nat) : Int) = (p : Int) := wrap_i64_nat (by omega)
    have hwt : IntKind.i64.wrap ((t : Nat) : Int) = (t : Int) := wrap_i64_nat (by omega)
    have hmod : ((n : Nat) : Int).tmod (f : Int) = (s : Int) := by rw [hs, Int.tmod_eq_emod_of_nonneg (by omega)]; rfl
    have hmodt : ((t : Nat) : Int).tmod (f : Int) = (i : Int) := by rw [hi, Int.tmod_eq_emod_of_nonneg (by omega)]; rfl
    have hf0 : decide ((f : Int) = 0) = false := decide_eq_false (by omega)
    have hf0b : ((f : Int) == 0) = false := by simp; omega
    have hwis : IntKind.i64.wrap ((i : Int) + (s : Int)) = (i : Int) + (s : Int) := by
      have h := wrap_i64_nat (a := i + s) (by omega); simpa using h
    have hmodi : ((i : Int) + (s : Int)).tmod (f : Int) = ((sg f s i : Nat) : Int) := by
      rw [Int.tmod_eq_emod_of_nonneg (by omega)]; rfl
    have hvT := hv.moved hsf p
    have hsl : ∀ k, k < seen.length → 0 ≤ nth seen k ∧ nth seen k < (f : Int) := fun k hk => hv.all _ (nth_mem hk)
    have hLl : (mvL f s seen).length ≤ 12 := by have := listed_len (mvTo f s seen seen.length) f; unfold mvL; omega
    have hRl : (mvRs f s p rs).length = rs.length := mvTo'_len p rs rs.length
    have H54 := hid fun (w' : World) (h : Below W0.heap.size W0 w') => moved_c sa sc seen f s w' ((hC w' h).s) (by omega) hsf (by omega) hsl
    have R54 := hid fun (j : Nat) (hj : j < rs.length) (a : Option Addr) (c : Nat) (w' : World) (hx : IntsAt w' a (nthR rs j).1) => moved_c a c (nthR rs j).1 f s w' hx (hil j hj) hsf (by omega) (fun k hk => (hv.ruleAll (nthR_mem hj)).1 _ (nth_mem hk))
    have HT := hid fun (j : Nat) (hj : j < rs.length) => (hv.ruleAll (nthR_mem hj)).2
    have Q27 := hid fun (w' : World) (h : Below W0.heap.size W0 w') => verdict_c f sa sc seen ra rc rs i w' (hC w' h) hsnil (by omega)
    have Q46 := hid fun (w' : World) (h : Below W0.heap.size W0 w') => counted_c sa ra sc rc f seen rs w' (hC w' h)
    have X27 := hid fun (a : Option Addr) (c : Nat) (b : Option Addr) (k : Nat) (w' : World) (hx : IntsAt w' a (mvL f s seen)) (hr : RulesAt w' b (mvRs f s p rs)) (hn : a = none → c = 0) => verdict_c f a c (mvL f s seen) b k (mvRs f s p rs) (sg f s i : Nat) w' ⟨hx, hr, by omega, by omega, hvT.il⟩ hn (by omega)
    have X46 := hid fun (a : Option Addr) (c : Nat) (b : Option Addr) (k : Nat) (w' : World) (hx : IntsAt w' a (mvL f s seen)) (hr : RulesAt w' b (mvRs f s p rs)) => counted_c a b c k f (mvL f s seen) (mvRs f s p rs) w' ⟨hx, hr, by omega, by omega, hvT.il⟩
    rw [(verdict_eq hil).1, (verdict_eq hil).2] at Q27
    simp only [(verdict_eq hvT.il).1, (verdict_eq hvT.il).2, (hv.moved_verdict hsf p hif).1, (hv.moved_verdict hsf p hif).2] at X27
    rw [hv.count, hz, show ((0 : Int) == 0) = true from rfl] at Q46
    rw [hvT.count, hvT.z, show ((0 : Int) == 0) = true from rfl, hv.moved_count hsf p] at X46
    rw [hRl] at X27 X46
    unfold NumE at Q27 X27
    unfold OwnLP at H54 R54
    obtain ⟨N, hN⟩ : ∃ m, m = (truthsN f seen rs).length := ⟨_, rfl⟩
    rw [← hN] at Q46 X46
    obtain ⟨vn, hvn⟩ : ∃ m, m = rVerdictN (f : Int) seen rs i := ⟨_, rfl⟩
    obtain ⟨ve, hve⟩ : ∃ m, m = rVerdictE (f : Int) seen rs i := ⟨_, rfl⟩
    rw [← hvn, ← hve] at Q27 X27
    obtain ⟨i2, hi2⟩ : ∃ m, m = sg f s i := ⟨_, rfl⟩
    rw [← hi2] at hmodi X27
    have HRe := hid (show mvRs f s p rs = mvTo' f s p rs rs.length from rfl)
    obtain ⟨R, hR⟩ : ∃ R, R = mvRs f s p rs := ⟨_, rfl⟩
    rw [← hR] at X27 X46 HRe
    obtain ⟨L, hL⟩ : ∃ R, R = mvL f s seen := ⟨_, rfl⟩
    rw [← hL] at X27 X46 H54
    have Hl18 := hid (show rs.length ≤ 18 from hl2)
    have hs12 : s < 12 := by omega
    have Hsf := hid hsf; have Hp := hid hp
    have hfn0 : ¬ f = 0 := by omega
    have hfd : decide (f = 0) = false := decide_eq_false (by omega)
    have hwi2 : IntKind.i64.wrap ((i2 : Nat) : Int) = (i2 : Int) := wrap_i64_nat (by have := sg_lt (n := i) hsf; omega)
    have hws : IntKind.i64.wrap ((s : Nat) : Int) = (s : Int) := wrap_i64_nat (by omega)
    have hwi : IntKind.i64.wrap ((i : Nat) : Int) = (i : Int) := wrap_i64_nat (by omega)
    clear hL hR hi2 hvn hve hN hi hs hif hsf hvT hsl hLl hRl hC hv hil hl1 hl2 hl3 hz hgf hg hn hp ht hsnil
    go_enter Try.func15, Try.ntmps15
    go_wp2_with fail
    rw [← HS.out]
    refine HG.out.mono ?_
    rintro e w1 ⟨rfl, hB⟩
    have HB1 := hid hB
    have k0 := cstep c0 hB; have k1 := cstep c1 hB; have k2 := cstep c2 hB
    clear hB c0 c1 c2
    have K0 := hid k0; have K1 := hid k1; have K2 := hid k2
    go_upto_region 4 with (fail)
    have Z54 := hid fun (w' : World) (h : Below w1.heap.size w1 w') => H54.out w' (bstep HB1.out h)
    go_cut [10] from 32 to 40 (fun s wc => SeenBox w1 f L s wc)
    case first =>
      go_region_held3 (fun w' => w'.cell? ⟨w.heap.size, 0, none⟩ = some (.int .i64 (f : Int)) ∧ w'.cell? ⟨w.heap.size, 1, none⟩ = some (.slice sa seen.length sc)) (first | exact ⟨k0, k1⟩ | exact ⟨cstep k0 (by with_reducible ((repeat (first | exact Below.refl _ _ | refine Below.drew ?_ | refine bset ?_ | refine bstep ?_ (bnew _ _) | (refine bstep ?_ (by assumption)) | assumption)); all_goals fail)), cstep k1 (by with_reducible ((repeat (first | exact Below.refl _ _ | refine Below.drew ?_ | refine bset ?_ | refine bstep ?_ (bnew _ _) | (refine bstep ?_ (by assumption)) | assumption)); all_goals fail))⟩ | go_keep)
        ((go_at_call 54; (with_reducible refine (Z54.out _ (by with_reducible ((repeat (first | exact Below.refl _ _ | refine Below.drew ?_ | refine bset ?_ | refine bstep ?_ (bnew _ _) | (refine bstep ?_ (by assumption)) | assumption)); all_goals fail))).mono ?_); rintro e wx1 ⟨ar, cr, rfl, hown, hB1⟩; have hownb := hown.base (B' := w1.heap.size) (by first | exact Nat.le_refl _ | (simp only [alloc_sizeT, drew_sizeT]; omega)); try (first | (have hz := zb (naH rfl) hB1; have hzf0 := frozen_of_row _ _ 0 _ _ hz; have hzf1 := frozen_of_row _ _ 1 _ _ hz; have hzf2 := frozen_of_row _ _ 2 _ _ hz; obtain ⟨hz0, hz1, hz2⟩ := rowBox hz) | (have hz := zb (zd (naH rfl)) hB1; have hzf0 := frozen_of_row _ _ 0 _ _ hz; have hzf1 := frozen_of_row _ _ 1 _ _ hz; have hzf2 := frozen_of_row _ _ 2 _ _ hz; obtain ⟨hz0, hz1, hz2⟩ := rowBox hz))))
      all_goals (
        go_wp2
        go_meet
        first | exact SeenBox.new hownb (by with_reducible ((repeat (first | exact Below.refl _ _ | refine Below.drew ?_ | refine bset ?_ | refine bstep ?_ (bnew _ _) | (refine bstep ?_ (by assumption)) | assumption)); all_goals fail)) | exact SeenBox.put hz (Nat.le_refl _) hownb (by with_reducible ((repeat (first | exact Below.refl _ _ | refine Below.drew ?_ | refine bset ?_ | refine bstep ?_ (bnew _ _) | (refine bstep ?_ (by assumption)) | assumption)); all_goals fail)))
    obtain ⟨xb, ax, cx, rfl, hrx, hgx, hox, hB⟩ := hcut
    rename World => wA
    clear Z54 k0 k1 k2
    have HgX := hid hgx
    go_wp2
    go_loopw [11] (fun i wr => ∃ k : Nat, k ≤ rs.length ∧ i = .int .i64 k ∧ TurnAt w1 f L xb k (mvTo' f s p rs k) wr) (fun i _ => rs.length - (intOf i).toNat)
    case atStart => exact ⟨0, Nat.zero_le _, rfl, ax, cx, none, 0, hrx, hgx, hox, OwnRo.nil _ _, hB⟩
    case round =>
      clear hrx hgx hox hB
      obtain ⟨k, hk, rfl, a, c, ao, cap, hrow, _, how, hro, hB⟩ := hrel
      obtain ⟨wk, rfl⟩ : ∃ wk : World, wk = wr := ⟨_, rfl⟩
      have HB := hid hB
      have HBt := hid (bstep HB1.out hB)
      have k0 := cstep K0.out hB; have k2 := cstep K2.out hB
      have How := hid how; have Hro := hid hro; have Hrow := hid hrow
      obtain ⟨kx0, kx1, kx2⟩ := rowBox hrow
      clear hB how hro hrow
      by_cases hlt : k < rs.length
      case neg =>
        obtain rfl : k = rs.length := by omega
        have Hat := hid Hro.out.at
        rw [← HRe.out] at Hat
        have k1 := cstep K1.out HB.out
        have Hax := hid How.out.at
        have Hnx := hid (fun h : a = none => (How.out.none h).2)
        clear hlt hk How Hro Hrow
        go_wp2_with fail
        refine (Q46.out _ HBt.out).mono ?_
        rintro e w41 ⟨rfl, hB⟩
        have HBz41 := hid (bstep HBt.out hB)
        have k0 := cstep k0 hB
        have k1 := cstep k1 hB
        have k2 := cstep k2 hB
        have kx0 := cstep kx0 hB
        have kx1 := cstep kx1 hB
        have kx2 := cstep kx2 hB
        have Hax := hid (Hax.out.mono hB)
        have Hat := hid (Hat.out.mono hB)
        clear hB HBt
        go_wp2_with fail
        refine (X46.out _ _ _ _ _ Hax.out Hat.out).mono ?_
        rintro e w42 ⟨rfl, hB⟩
        have HBz42 := hid (bstep HBz41.out hB)
        have k0 := cstep k0 hB
        have k1 := cstep k1 hB
        have k2 := cstep k2 hB
        have kx0 := cstep kx0 hB
        have kx1 := cstep kx1 hB
        have kx2 := cstep kx2 hB
        have Hax := hid (Hax.out.mono hB)
        have Hat := hid (Hat.out.mono hB)
        clear hB HBz41
        go_wp2_with fail
        refine (Q27.out _ HBz42.out).mono ?_
        rintro e w43 ⟨rfl, hB⟩
        have HBz43 := hid (bstep HBz42.out hB)
        have k0 := cstep k0 hB
        have k1 := cstep k1 hB
        have k2 := cstep k2 hB
        have kx0 := cstep kx0 hB
        have kx1 := cstep kx1 hB
        have kx2 := cstep kx2 hB
        have Hax := hid (Hax.out.mono hB)
        have Hat := hid (Hat.out.mono hB)
        clear hB HBz42
        have Z27 := hid fun (w' : World) (h : Below w43.heap.size w43 w') => X27.out _ c _ cap w' (Hax.out.mono h) (Hat.out.mono h) Hnx.out
        go_upto_region 17 with (fail)
        go_region_held3 (fun w' => w'.cell? ⟨w.heap.size, 0, none⟩ = some (.int .i64 (f : Int)) ∧ w'.cell? ⟨xb, 0, none⟩ = some (.int .i64 (f : Int)) ∧ w'.cell? ⟨xb, 1, none⟩ = some (.slice a L.length c) ∧ w'.cell? ⟨xb, 2, none⟩ = some (.slice ao rs.length cap)) (first | exact ⟨k0, kx0, kx1, kx2⟩ | exact ⟨cstep k0 (by with_reducible ((repeat (first | exact Below.refl _ _ | refine Below.drew ?_ | refine bset ?_ | refine bstep ?_ (bnew _ _) | (refine bstep ?_ (by assumption)) | assumption)); all_goals fail)), cstep kx0 (by with_reducible ((repeat (first | exact Below.refl _ _ | refine Below.drew ?_ | refine bset ?_ | refine bstep ?_ (bnew _ _) | (refine bstep ?_ (by assumption)) | assumption)); all_goals fail)), cstep kx1 (by with_reducible ((repeat (first | exact Below.refl _ _ | refine Below.drew ?_ | refine bset ?_ | refine bstep ?_ (bnew _ _) | (refine bstep ?_ (by assumption)) | assumption)); all_goals fail)), cstep kx2 (by with_reducible ((repeat (first | exact Below.refl _ _ | refine Below.drew ?_ | refine bset ?_ | refine bstep ?_ (bnew _ _) | (refine bstep ?_ (by assumption)) | assumption)); all_goals fail))⟩ | go_keep)
          ((go_at_call 27; (with_reducible refine (Z27.out _ (by with_reducible ((repeat (first | exact Below.refl _ _ | refine Below.drew ?_ | refine bset ?_ | refine bstep ?_ (bnew _ _) | (refine bstep ?_ (by assumption)) | assumption)); all_goals fail))).mono ?_); rintro e wx1 ⟨rfl, hB1⟩))
        all_goals (
          go_wp2_with fail
          refine (HW.out _).mono ?_
          rintro e wz ⟨rfl, hB⟩
          go_wp2
          go_ret
          exact ⟨rfl, bstep HB0.out (bstep HBz43.out (bstep (by with_reducible ((repeat (first | exact Below.refl _ _ | refine Below.drew ?_ | refine bset ?_ | refine bstep ?_ (bnew _ _) | (refine bstep ?_ (by assumption)) | assumption)); all_goals fail)) hB))⟩)
      case pos =>
        have hl18 := Hl18.out; have hp := Hp.out
        obtain ⟨j, hj⟩ : ∃ j, j = (k + p) % rs.length := ⟨_, rfl⟩
        have hjl : j < rs.length := by rw [hj]; exact Nat.mod_lt _ (by omega)
        have hkp : IntKind.i64.wrap ((k : Int) + (p : Int)) = (k : Int) + (p : Int) := by
          have h := wrap_i64_nat (a := k + p) (by omega); simpa using h
        have hmk : ((k : Int) + (p : Int)).tmod (rs.length : Int) = (j : Int) := by
          rw [hj, Int.tmod_eq_emod_of_nonneg (by omega)]; rfl
        have hwj : IntKind.i64.wrap ((j : Nat) : Int) = (j : Int) := wrap_i64_nat (by omega)
        have hrn : ¬ rs = [] := by intro e; rw [e] at hlt; simp at hlt
        have hrz : ¬ rs.length = 0 := by omega
        have hrd : decide (rs.length = 0) = false := decide_eq_false (by omega)
        have hl0 : decide ((rs.length : Int) = 0) = false := decide_eq_false (by omega)
        have hl0b : ((rs.length : Int) == 0) = false := beq_eq_false_iff_ne.2 (by omega)
        have hsu := mvTo'_succ (f := f) (s := s) p rs k
        rw [← hj] at hsu
        have ht1 := HT.out j hjl
        obtain ⟨q1, q2, qa, qc, hra, hrule⟩ := (HR.out.mono HBt.out).at hjl
        have hqI := hrule.cI
        have hqT := hrule.cT
        have Hqa := hid hrule.at'
        have RK := hid fun (w' : World) (h : Below wk.heap.size wk w') => R54.out j hjl qa qc w' (Hqa.out.mono h)
        obtain ⟨q, hq⟩ : ∃ q, q = mvR f s (nthR rs j) := ⟨_, rfl⟩
        have hq1 : mvL f s (nthR rs j).1 = q.1 := by rw [hq]; rfl
        have hq2 : q.2 = mvT f s (nthR rs j).2 := by rw [hq]; rfl
        rw [← hq] at hsu
        obtain ⟨r, hr⟩ : ∃ r, r = nthR rs j := ⟨_, rfl⟩
        rw [← hr] at hqI hqT RK hq1 hq2 ht1 Hqa
        rw [hq1] at RK
        have Hsu := hid hsu
        have hltI : (k : Int) < (rs.length : Int) := by omega
        have hjI : (j : Int) < (rs.length : Int) := by omega
        have hk1 : IntKind.i64.wrap ((k : Int) + 1) = (k : Int) + 1 := by have h := wrap_i64_nat (a := k + 1) (by omega); simpa using h
        subst hra
        clear hj hsu hrule hq hq1 hr hp
        go_upto_region 8 with (fail)
        go_cut [11, 12] from 48 to 59 (fun i s wc => i = .int .i64 k ∧ RuleBox wk qa qc r s wc)
        case first =>
          go_region_held3 (fun w' => w'.cell? ⟨w.heap.size, 2, none⟩ = some (.slice (some ⟨q1, q2, none⟩) rs.length rc) ∧ w'.cell? ⟨q1, q2 + j * 2, none⟩ = some (.slice qa r.1.length qc) ∧ w'.cell? ⟨q1, q2 + j * 2 + 1, none⟩ = some (.int .i64 r.2)) (first | exact ⟨k2, hqI, hqT⟩ | exact ⟨cstep k2 (by with_reducible ((repeat (first | exact Below.refl _ _ | refine Below.drew ?_ | refine bset ?_ | refine bstep ?_ (bnew _ _) | (refine bstep ?_ (by assumption)) | assumption)); all_goals fail)), cstep hqI (by with_reducible ((repeat (first | exact Below.refl _ _ | refine Below.drew ?_ | refine bset ?_ | refine bstep ?_ (bnew _ _) | (refine bstep ?_ (by assumption)) | assumption)); all_goals fail)), cstep hqT (by with_reducible ((repeat (first | exact Below.refl _ _ | refine Below.drew ?_ | refine bset ?_ | refine bstep ?_ (bnew _ _) | (refine bstep ?_ (by assumption)) | assumption)); all_goals fail))⟩ | go_keep) (fail)
          all_goals (
            go_wp2
            go_meet
            exact ⟨rfl, _, rfl, zd (naH rfl), Nat.le_refl _, (bnew _ _).drew⟩)
        obtain ⟨rfl, rb, rfl, hrb, hgb, hB8⟩ := hcut
        rename World => wr8
        have k0 := cstep k0 hB8; have kx2 := cstep kx2 hB8
        have hBr : Below w1.heap.size w1 wr8 := bstep HB.out hB8
        have Hro8 := hid (Hro.out.kept hB8); have How8 := hid (How.out.kept hB8); have Hrow8 := hid (zb Hrow.out hB8)
        have rr0 : wr8.cell? ⟨rb, 0, none⟩ = some (.slice qa r.1.length qc) := by rw [cell_of_row _ _ _ _ _ _ hrb]; rfl
        have rr1 : wr8.cell? ⟨rb, 1, none⟩ = some (.int .i64 r.2) := by rw [cell_of_row _ _ _ _ _ _ hrb]; rfl
        have RK8 := hid fun (w' : World) (h : Below wr8.heap.size wr8 w') => RK.out w' (bstep hB8 h)
        have HBr := hid hBr
        clear hrb hgb hB8 k2 hqI hqT kx0 kx1 hkp hmk hwj
        by_cases hth : 0 ≤ r.2
        case pos =>
          obtain ⟨th, hth2⟩ : ∃ th : Int, th = r.2 := ⟨_, rfl⟩
          rw [← hth2] at rr1 hth hq2 ht1
          have hm3 : (th + (s : Int)).tmod (f : Int) = q.2 := by
            rw [hq2]; unfold mvT; rw [if_pos hth]
            obtain ⟨m, rfl⟩ := Int.eq_ofNat_of_zero_le hth
            rw [Int.tmod_eq_emod_of_nonneg (by omega)]; rfl
          have hb3 : 0 ≤ q.2 ∧ q.2 < 12 := by
            rw [hq2]; unfold mvT; rw [if_pos hth]
            have := sg_lt (n := th.toNat) Hsf.out; omega
          have hs3 : IntKind.i64.wrap (th + (s : Int)) = th + (s : Int) := by
            obtain ⟨m, rfl⟩ := Int.eq_ofNat_of_zero_le hth
            have h := wrap_i64_nat (a := m + s) (by omega); simpa using h
          obtain ⟨z, hz0⟩ : ∃ z : Int, z = q.2 := ⟨_, rfl⟩
          rw [← hz0] at hm3 hb3
          have hw3 : IntKind.i64.wrap z = z := by
            obtain ⟨m, rfl⟩ := Int.eq_ofNat_of_zero_le hb3.1
            exact wrap_i64_nat (by omega)
          have hd3 : decide (0 ≤ th) = true := decide_eq_true hth
          have Hz0 := hid hz0
          clear hz0 hth2 hq2 ht1 hb3
          go_upto_region 12 with (fail)
          go_region_law
            (first
                | (refine step_app_one _ w1.heap.size (by rfl) _ _ (by rfl) ao k cap (mvTo' f s p rs k) (by rfl) _ _ (by rfl) am cm q (Below.size (show Below w1.heap.size w1 _ from (by with_reducible ((repeat (first | exact Below.refl _ _ | apply Below.drew | refine bstep ?_ (bnew _ _) | (refine bstep ?_ (by assumption)) | assumption | exact HBr.out)); all_goals fail)))) (Hro8.out.kept (by with_reducible ((repeat (first | exact Below.refl _ _ | apply Below.drew | refine bstep ?_ (bnew _ _) | (refine bstep ?_ (by assumption)) | assumption | exact HBr.out)); all_goals fail))) (hownb.kept (by with_reducible ((repeat (first | exact Below.refl _ _ | apply Below.drew | refine bstep ?_ (bnew _ _) | (refine bstep ?_ (by assumption)) | assumption | exact HBr.out)); all_goals fail))) (by omega) (by rw [← Hz0.out]; with_reducible ((repeat (first | exact naH (by simp) | apply zd | apply za)); all_goals fail)) ?_; intro g9 c9 w9 hro9 hg9; have hst := OwnRo.step (Hro8.out.kept (by with_reducible ((repeat (first | exact Below.refl _ _ | apply Below.drew | refine bstep ?_ (bnew _ _) | (refine bstep ?_ (by assumption)) | assumption | exact HBr.out)); all_goals fail))) hg9 (zb Hrow8.out (by with_reducible ((repeat (first | exact Below.refl _ _ | apply Below.drew | refine bstep ?_ (bnew _ _) | (refine bstep ?_ (by assumption)) | assumption | exact HBr.out)); all_goals fail))) (How8.out.kept (by with_reducible ((repeat (first | exact Below.refl _ _ | apply Below.drew | refine bstep ?_ (bnew _ _) | (refine bstep ?_ (by assumption)) | assumption | exact HBr.out)); all_goals fail))) (by with_reducible ((repeat (first | exact Below.refl _ _ | apply Below.drew | refine bstep ?_ (bnew _ _) | (refine bstep ?_ (by assumption)) | assumption | exact HBr.out)); all_goals fail)); obtain ⟨hrow9, how9, hB9⟩ := hst; obtain ⟨hz0, hz1, hz2⟩ := rowBox hrow9; have hzf2 := frozen_of_row _ _ 2 _ _ hrow9)
                | (go_simp; go_at_call 54; (with_reducible refine (RK8.out _ (by with_reducible ((repeat (first | exact Below.refl _ _ | apply Below.drew | refine bstep ?_ (bnew _ _) | (refine bstep ?_ (by assumption)) | assumption | exact HBr.out)); all_goals fail))).mono ?_); rintro e wx ⟨am, cm, rfl, hownm, hBm⟩; have hownb := hownm.base (B' := w1.heap.size) (Below.size (show Below w1.heap.size w1 _ from (by with_reducible ((repeat (first | exact Below.refl _ _ | apply Below.drew | refine bstep ?_ (bnew _ _) | (refine bstep ?_ (by assumption)) | assumption | exact HBr.out)); all_goals fail)))); have hBx : Below wr8.heap.size wr8 wx := (by with_reducible ((repeat (first | exact Below.refl _ _ | apply Below.drew | refine bstep ?_ (bnew _ _) | (refine bstep ?_ (by assumption)) | assumption | exact HBr.out)); all_goals fail)); have kx2 := cstep kx2 hBx; have kne : ¬ wx.heap.size = xb := World.new_ne wx _ kx2; have kne2 : ¬ xb = wx.heap.size := fun h => kne h.symm; have klt : xb < wx.heap.size := block_lt_of_cell kx2))
          all_goals (
            go_wp2
            go_roundw
            case rel =>
              refine ⟨k + 1, by omega, by go_num, ?_⟩
              rw [Hsu.out]
              first | exact TurnAt.put hrow9 HgX.out how9 hro9 hB9 | exact (TurnAt.put hrow9 HgX.out how9 hro9 hB9).dr
            case measure => simp [intOf]; omega)
        case neg =>
          have hd3 : decide (0 ≤ r.2) = false := decide_eq_false hth
          have hz0 : r.2 = q.2 := by rw [hq2]; unfold mvT; rw [if_neg hth]
          obtain ⟨z, hz1⟩ : ∃ z : Int, z = r.2 := ⟨_, rfl⟩
          rw [← hz1] at rr1 hth hd3
          have Hz0 := hid (hz1.trans hz0)
          clear hz0 hz1 hq2 ht1
          go_upto_region 12 with (fail)
          go_region_law
            (first
                | (refine step_app_one _ w1.heap.size (by rfl) _ _ (by rfl) ao k cap (mvTo' f s p rs k) (by rfl) _ _ (by rfl) am cm q (Below.size (show Below w1.heap.size w1 _ from (by with_reducible ((repeat (first | exact Below.refl _ _ | apply Below.drew | refine bstep ?_ (bnew _ _) | (refine bstep ?_ (by assumption)) | assumption | exact HBr.out)); all_goals fail)))) (Hro8.out.kept (by with_reducible ((repeat (first | exact Below.refl _ _ | apply Below.drew | refine bstep ?_ (bnew _ _) | (refine bstep ?_ (by assumption)) | assumption | exact HBr.out)); all_goals fail))) (hownb.kept (by with_reducible ((repeat (first | exact Below.refl _ _ | apply Below.drew | refine bstep ?_ (bnew _ _) | (refine bstep ?_ (by assumption)) | assumption | exact HBr.out)); all_goals fail))) (by omega) (by rw [← Hz0.out]; with_reducible ((repeat (first | exact naH (by simp) | apply zd | apply za)); all_goals fail)) ?_; intro g9 c9 w9 hro9 hg9; have hst := OwnRo.step (Hro8.out.kept (by with_reducible ((repeat (first | exact Below.refl _ _ | apply Below.drew | refine bstep ?_ (bnew _ _) | (refine bstep ?_ (by assumption)) | assumption | exact HBr.out)); all_goals fail))) hg9 (zb Hrow8.out (by with_reducible ((repeat (first | exact Below.refl _ _ | apply Below.drew | refine bstep ?_ (bnew _ _) | (refine bstep ?_ (by assumption)) | assumption | exact HBr.out)); all_goals fail))) (How8.out.kept (by with_reducible ((repeat (first | exact Below.refl _ _ | apply Below.drew | refine bstep ?_ (bnew _ _) | (refine bstep ?_ (by assumption)) | assumption | exact HBr.out)); all_goals fail))) (by with_reducible ((repeat (first | exact Below.refl _ _ | apply Below.drew | refine bstep ?_ (bnew _ _) | (refine bstep ?_ (by assumption)) | assumption | exact HBr.out)); all_goals fail)); obtain ⟨hrow9, how9, hB9⟩ := hst; obtain ⟨hz0, hz1, hz2⟩ := rowBox hrow9; have hzf2 := frozen_of_row _ _ 2 _ _ hrow9)
                | (go_simp; go_at_call 54; (with_reducible refine (RK8.out _ (by with_reducible ((repeat (first | exact Below.refl _ _ | apply Below.drew | refine bstep ?_ (bnew _ _) | (refine bstep ?_ (by assumption)) | assumption | exact HBr.out)); all_goals fail))).mono ?_); rintro e wx ⟨am, cm, rfl, hownm, hBm⟩; have hownb := hownm.base (B' := w1.heap.size) (Below.size (show Below w1.heap.size w1 _ from (by with_reducible ((repeat (first | exact Below.refl _ _ | apply Below.drew | refine bstep ?_ (bnew _ _) | (refine bstep ?_ (by assumption)) | assumption | exact HBr.out)); all_goals fail)))); have hBx : Below wr8.heap.size wr8 wx := (by with_reducible ((repeat (first | exact Below.refl _ _ | apply Below.drew | refine bstep ?_ (bnew _ _) | (refine bstep ?_ (by assumption)) | assumption | exact HBr.out)); all_goals fail)); have kx2 := cstep kx2 hBx; have kne : ¬ wx.heap.size = xb := World.new_ne wx _ kx2; have kne2 : ¬ xb = wx.heap.size := fun h => kne h.symm; have klt : xb < wx.heap.size := block_lt_of_cell kx2))
          all_goals (
            go_wp2
            go_roundw
            case rel =>
              refine ⟨k + 1, by omega, by go_num, ?_⟩
              rw [Hsu.out]
              first | exact TurnAt.put hrow9 HgX.out how9 hro9 hB9 | exact (TurnAt.put hrow9 HgX.out how9 hro9 hB9).dr
            case measure => simp [intOf]; omega)

end Go.Proofs.Ytkioejdddmnbmaa
