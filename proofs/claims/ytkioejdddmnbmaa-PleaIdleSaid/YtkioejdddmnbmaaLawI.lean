/- Walk: the law PleaIdle, out of the contract of Works. -/
import Derived.Test.YtkioejdddmnbmaaPo
import Derived.Test.YtkioejdddmnbmaaUm
namespace Go.Proofs.Ytkioejdddmnbmaa
open Go.RowKit Go.Shelf

set_option maxRecDepth 100000 in
set_option maxHeartbeats 8000000 in
theorem idle_law (hworks : WorksC) (facts : Int) (sa : Option Addr) (sc : Nat) (seen : List Int) (ra : Option Addr) (rc : Nat) (rs : List Rl) (n p : Nat) (w : World) (hs : IntsAt w sa seen) (hr : RulesAt w ra rs) (hnil : ra = none → rc = 0) (hrc : rs.length ≤ rc) (hn : n < 256) (hp : p < 65536) :
    Calls Try.prog 12 #[.agg #[.int .i64 facts, .slice sa seen.length sc, .slice ra rs.length rc], .int .u8 n, .int .u16 p] w (TrueP w) := by
  have HW := hid hworks
  clear hworks
  obtain ⟨W0, hW0⟩ : ∃ W0, W0 = w.alloc (.cells #[.int .i64 facts, .slice sa seen.length sc, .slice ra rs.length rc] 25) := ⟨_, rfl⟩
  have HB0 := hid (show Below w.heap.size w W0 by rw [hW0]; exact bnew w _)
  obtain ⟨c0, c1, c2⟩ := caseBox w facts sa ra seen.length sc rs.length rc
  rw [← hW0] at c0 c1 c2
  have HR := hid (hr.mono HB0.out); have HSn := hid (hs.mono HB0.out)
  have HS := hid hW0
  clear hs hr hW0
  have HG := hid (fine_c sa ra sc rc facts seen rs W0 HSn.out HR.out)
  unfold TellB at HG
  by_cases hg : fineB facts seen rs = true
  case neg =>
    have hgn : fineB facts seen rs = false := by simpa using hg
    rw [hgn] at HG
    clear hg hgn hnil hrc hn hp
    go_enter Try.func12, Try.ntmps12
    go_wp2_with fail
    rw [← HS.out]
    refine HG.out.mono ?_
    rintro e w1 ⟨rfl, hB⟩
    have HB1 := hid (bstep HB0.out hB)
    clear hB
    go_wp2_with fail
    refine (HW.out _).mono ?_
    rintro e w2 ⟨rfl, hB⟩
    have HB2 := hid (bstep HB1.out hB)
    clear hB
    go_wp2
    go_ret
    exact ⟨rfl, HB2.out⟩
  case pos =>
    obtain ⟨hgf, hz⟩ := fine_true hg
    obtain ⟨hl1, hl2, hl3⟩ := great_lens hgf
    rw [hg] at HG
    obtain ⟨f, rfl, hf1, hf2⟩ := case_nat hz
    have hil : ∀ i, i < rs.length → (nthR rs i).1.length ≤ 1000000 := fun i hi => by have := hl3 i hi; omega
    have hv : Valid f seen rs := valid_of hz hil
    have hC : ∀ w', Below W0.heap.size W0 w' → CaseAt w' sa ra seen rs := fun w' h => great_case (HSn.out.mono h) (HR.out.mono h) hgf
    by_cases h0 : rs.length = 0
    case pos =>
      have hLd : (rs.length == 0) = true := beq_iff_eq.2 h0
      have hLe : ((rs.length : Int) == 0) = true := beq_iff_eq.2 (by omega)
      have hLf : decide (rs.length = 0) = true := decide_eq_true h0
      clear h0 hC hv hil hl1 hl2 hl3 hz hgf hg hn hp hnil hrc
      go_enter Try.func12, Try.ntmps12
      go_wp2_with fail
      rw [← HS.out]
      refine HG.out.mono ?_
      rintro e w1 ⟨rfl, hB⟩
      have HB1 := hid hB
      have k0 := cstep c0 hB; have k1 := cstep c1 hB; have k2 := cstep c2 hB
      clear hB c0 c1 c2
      go_wp2_with fail
      refine (HW.out _).mono ?_
      rintro e w2 ⟨rfl, hB⟩
      have HBz2 := hid (bstep HB1.out hB)
      have k0 := cstep k0 hB
      have k1 := cstep k1 hB
      have k2 := cstep k2 hB
      clear hB HB1
      go_wp2
      go_ret
      exact ⟨rfl, bstep HB0.out HBz2.out⟩
    case neg =>
    have hLd : (rs.length == 0) = false := beq_eq_false_iff_ne.2 h0
    have hLe : ((rs.length : Int) == 0) = false := beq_eq_false_iff_ne.2 (by omega)
    have hLf : decide (rs.length = 0) = false := decide_eq_false h0
    have hLg : decide ((rs.length : Int) = 0) = false := decide_eq_false (by omega)
    obtain ⟨i, hi⟩ : ∃ i, i = n % rs.length := ⟨_, rfl⟩
    have hif : i < rs.length := by rw [hi]; exact Nat.mod_lt _ (by omega)
    have hwr : IntKind.i64.wrap ((n : Nat) : Int) = (n : Int) := wrap_i64_nat (by omega)
    have hmod : ((n : Nat) : Int).tmod (rs.length : Int) = (i : Int) := by rw [hi, Int.tmod_eq_emod_of_nonneg (by omega)]; rfl
    have hwi : IntKind.i64.wrap ((i : Nat) : Int) = (i : Int) := wrap_i64_nat (by omega)
    have hwp : IntKind.i64.wrap ((p : Nat) : Int) = (p : Int) := wrap_i64_nat (by omega)
    have hvx := hv.less i
    have hM1 : ∀ r ∈ lessR rs i, r ∈ rs := fun r hr => (rule_split hif r).2 (.inl hr)
    have hlx : (lessR rs i).length ≤ 1000 := by have := lessR_len (rs := rs) (k := i); omega
    have Q42 := hid fun (w' : World) (h : Below W0.heap.size W0 w') => pIdle_c f sa sc seen ra rc rs i w' (hC w' h) hnil
    rw [(hv.idleB hif).1, (hv.idleB hif).2] at Q42
    have Q46 := hid fun (w' : World) (h : Below W0.heap.size W0 w') => counted_c sa ra sc rc f seen rs w' (hC w' h)
    have F46 := hid fun (w' : World) (h : Below W0.heap.size W0 w') => counted_c none ra 0 rc f [] rs w' ⟨IntsAt.nil w' _, (hC w' h).r, by simp, (hC w' h).rl, hil⟩
    have X46 := hid fun (a : Option Addr) (c : Nat) (w' : World) (h : Below W0.heap.size W0 w') (hx : RulesAt w' a (lessR rs i)) => counted_c sa a sc c f seen (lessR rs i) w' ⟨(hC w' h).s, hx, by omega, by omega, hvx.il⟩
    have Y46 := hid fun (a : Option Addr) (c : Nat) (w' : World) (hx : RulesAt w' a (lessR rs i)) => counted_c none a 0 c f [] (lessR rs i) w' ⟨IntsAt.nil w' _, hx, by simp, by omega, hvx.il⟩
    rw [hv.count, hz, show ((0 : Int) == 0) = true from rfl] at Q46
    rw [hv.free.count, hv.free.z, show ((0 : Int) == 0) = true from rfl] at F46
    rw [hvx.count, hvx.z, show ((0 : Int) == 0) = true from rfl] at X46
    rw [hvx.free.count, hvx.free.z, show ((0 : Int) == 0) = true from rfl] at Y46
    have hmn : (truthsN f seen rs).length ≤ (truthsN f seen (lessR rs i)).length := hvx.count_le hv (fun _ h => h) hM1
    have hzm : idleR f rs i = true → (truthsN f seen (lessR rs i)).length = (truthsN f seen rs).length := fun h => by rw [hv.idle_same hif h]
    have hzj : idleR f rs i = true → (truthsN f [] (lessR rs i)).length = (truthsN f [] rs).length := fun h => by rw [hv.free.idle_same hif h]
    have hzk : idleR f rs i = false → (truthsN f [] rs).length < (truthsN f [] (lessR rs i)).length := fun h => hv.idle_not hif h
    have hzo := hv.idle_own hif
    have hzt : idleR f rs i = true → truthErr (f : Int) seen (lessR rs i) (listedB p f) = truthErr (f : Int) seen rs (listedB p f) := fun h => hv.idle_truth hif h p
    obtain ⟨q1, q2, qa, qc, hra, hrule⟩ := HR.out.at hif
    have HRu := hid hrule
    have hqa := hrule.at'
    have hqI := hrule.cI
    have hqT := hrule.cT
    have L45 := hid fun (w' : World) => listed_c p f w' (by omega) (by omega)
    unfold OwnP at L45
    have hOl := listed_len p f
    have Q21 := hid fun (a : Option Addr) (c : Nat) (w' : World) (h : Below W0.heap.size W0 w') (hx : IntsAt w' a (listedB p f)) => checkTruth_c f sa sc seen ra rc rs a c (listedB p f) w' (hC w' h) hx (by omega)
    have X21 := hid fun (b : Option Addr) (k : Nat) (a : Option Addr) (c : Nat) (w' : World) (h : Below W0.heap.size W0 w') (hr : RulesAt w' b (lessR rs i)) (hx : IntsAt w' a (listedB p f)) => checkTruth_c f sa sc seen b k (lessR rs i) a c (listedB p f) w' ⟨(hC w' h).s, hr, by omega, by omega, hvx.il⟩ hx (by omega)
    rw [pTruth_eq hil] at Q21
    simp only [pTruth_eq hvx.il] at X21
    have H52 := hid fun (W w' : World) (hW : Below W0.heap.size W0 W) (h : Below W.heap.size W w') => withoutO_c W ra rc i rs w' h (HR.out.mono hW) hif hrc (by omega)
    have hil0 := hil i hif
    have H36 := hid fun (w' : World) (h : Below W0.heap.size W0 w') => (hasL_c qa qc (nthR rs i).1 (nthR rs i).2 w' (hqa.mono h) (by omega))
    simp only [any_contains] at H36
    obtain ⟨O, hO⟩ : ∃ O, O = listedB p f := ⟨_, rfl⟩
    obtain ⟨P, hP⟩ : ∃ P, P = lessR rs i := ⟨_, rfl⟩
    obtain ⟨m1, hm1⟩ : ∃ m, m = (truthsN f seen rs).length := ⟨_, rfl⟩
    obtain ⟨m2, hm2⟩ : ∃ m, m = (truthsN f seen (lessR rs i)).length := ⟨_, rfl⟩
    obtain ⟨m3, hm3⟩ : ∃ m, m = (truthsN f [] rs).length := ⟨_, rfl⟩
    obtain ⟨m4, hm4⟩ : ∃ m, m = (truthsN f [] (lessR rs i)).length := ⟨_, rfl⟩
    rw [← hm1] at Q46 hmn hzm
    rw [← hm2] at X46 hmn hzm
    rw [← hm3] at F46 hzj hzk
    rw [← hm4] at Y46 hzj hzk
    obtain ⟨e1, he1⟩ : ∃ e : Int, e = truthErr (f : Int) seen rs (listedB p f) := ⟨_, rfl⟩
    obtain ⟨e2, he2⟩ : ∃ e : Int, e = truthErr (f : Int) seen (lessR rs i) (listedB p f) := ⟨_, rfl⟩
    rw [← he1] at Q21 hzt
    rw [← he2] at X21 hzt
    rw [← hO] at L45 Q21 X21
    rw [← hP] at X46 Y46 X21 H52 hlx
    obtain ⟨z, hzz⟩ : ∃ z, z = idleR f rs i := ⟨_, rfl⟩
    rw [← hzz] at Q42 hzm hzj hzk hzo hzt
    unfold BoolE at Q42
    unfold OwnLess at H52
    obtain ⟨ql, hql⟩ : ∃ l, l = (nthR rs i).1 := ⟨_, rfl⟩
    obtain ⟨qt, hqt⟩ : ∃ l, l = (nthR rs i).2 := ⟨_, rfl⟩
    rw [← hql] at hqI H36 hzo
    rw [← hqt] at hqT H36 hzo
    have H36 := hid fun (w' : World) (h : Below W0.heap.size W0 w') (mm : Nat) => (H36.out (w'.drewN mm) (bstep h (Go.Joins.below_draws _ _ _))).mono fun e w'' q => (⟨q.1, mm, q.2⟩ : e = .returned (.bool (ql.contains qt)) ∧ ∃ m, w'' = w'.drewN m)
    have hltI : (i : Int) < (rs.length : Int) := by omega
    have hmg : decide ((m2 : Int) < (m1 : Int)) = false := decide_eq_false (by omega)
    have hmg2 : decide (m2 < m1) = false := decide_eq_false (by omega)
    subst hra
    have Hlx := hid hlx; have HqI := hid hqI; have HqT := hid hqT
    clear hqI hqT hO hP hm1 hm2 hm3 hm4 he1 he2 hzz hql hqt hrule HRu hqa hvx hM1 hlx hil0 hOl hmn hi h0 hC hv hil hl1 hl2 hl3 hz hgf hg hn hp hnil hrc
    cases z with
    | true =>
      obtain rfl := hzm rfl
      obtain rfl := hzj rfl
      obtain rfl := hzt rfl
      clear hzm hzj hzk hzo hzt
      go_enter Try.func12, Try.ntmps12
      go_wp2_with fail
      rw [← HS.out]
      refine HG.out.mono ?_
      rintro e w1 ⟨rfl, hB⟩
      have HB1 := hid hB
      have k0 := cstep c0 hB; have k1 := cstep c1 hB; have k2 := cstep c2 hB
      clear hB c0 c1 c2
      go_wp2_with fail
      refine (Q42.out _ HB1.out).mono ?_
      rintro e w2 ⟨rfl, hB⟩
      have HBz2 := hid (bstep HB1.out hB)
      have k0 := cstep k0 hB
      have k1 := cstep k1 hB
      have k2 := cstep k2 hB
      clear hB HB1
      go_wp2_with fail
      have hqI := cstep HqI.out HBz2.out; have hqT := cstep HqT.out HBz2.out
      go_quiet (fail)
      clear hqI hqT
      obtain ⟨w3, hw⟩ : ∃ q, q = World.drewN w2 nq := ⟨_, rfl⟩
      have hB : Below w2.heap.size w2 (World.drewN w2 nq) := Go.Joins.below_draws _ _ _
      rw [← hw]
      rw [← hw] at hB
      clear hw
      have HBz3 := hid (bstep HBz2.out hB)
      have k0 := cstep k0 hB
      have k1 := cstep k1 hB
      have k2 := cstep k2 hB
      clear hB HBz2
      have Z52 := hid fun (w' : World) (h : Below w3.heap.size w3 w') => H52.out w3 w' HBz3.out h
      go_upto_region 7 with (fail)
      go_cut [10] from 65 to 73 (fun s wc => BoxAt w3 f sa seen.length sc P s wc)
      case first =>
        go_region_held3 (fun w' => w'.cell? ⟨w.heap.size, 0, none⟩ = some (.int .i64 (f : Int)) ∧ w'.cell? ⟨w.heap.size, 1, none⟩ = some (.slice sa seen.length sc) ∧ w'.cell? ⟨w.heap.size, 2, none⟩ = some (.slice (some ⟨q1, q2, none⟩) rs.length rc)) (first | exact ⟨k0, k1, k2⟩ | exact ⟨cstep k0 (by with_reducible repeat (first | exact Below.refl _ _ | refine Below.drew ?_ | refine bset ?_ | refine bstep ?_ (bnew _ _) | (refine bstep ?_ (by assumption)))), cstep k1 (by with_reducible repeat (first | exact Below.refl _ _ | refine Below.drew ?_ | refine bset ?_ | refine bstep ?_ (bnew _ _) | (refine bstep ?_ (by assumption)))), cstep k2 (by with_reducible repeat (first | exact Below.refl _ _ | refine Below.drew ?_ | refine bset ?_ | refine bstep ?_ (bnew _ _) | (refine bstep ?_ (by assumption))))⟩ | go_keep)
          ((go_at_call 52; (with_reducible refine (Z52.out _ (by with_reducible repeat (first | exact Below.refl _ _ | refine Below.drew ?_ | refine bstep ?_ (bnew _ _) | (refine bstep ?_ (by assumption))))).mono ?_); rintro e wx1 ⟨ar, cr, rfl, hown, hB1⟩; try (first | (have hz := zb (naH rfl) hB1; have hzf0 := frozen_of_row _ _ 0 _ _ hz; have hzf1 := frozen_of_row _ _ 1 _ _ hz; have hzf2 := frozen_of_row _ _ 2 _ _ hz; obtain ⟨hz0, hz1, hz2⟩ := rowBox hz) | (have hz := zb (zd (naH rfl)) hB1; have hzf0 := frozen_of_row _ _ 0 _ _ hz; have hzf1 := frozen_of_row _ _ 1 _ _ hz; have hzf2 := frozen_of_row _ _ 2 _ _ hz; obtain ⟨hz0, hz1, hz2⟩ := rowBox hz))))
        all_goals (
          go_wp2
          go_meet
          first | exact BoxAt.new hown (by with_reducible repeat (first | exact Below.refl _ _ | refine Below.drew ?_ | refine bstep ?_ (bnew _ _) | (refine bstep ?_ (by assumption)))) | exact BoxAt.put hz (Nat.le_refl _) hown (by with_reducible repeat (first | exact Below.refl _ _ | refine Below.drew ?_ | refine bstep ?_ (bnew _ _) | (refine bstep ?_ (by assumption)))))
      obtain ⟨bx, ax, cx, rfl, hrx, hgx, hRx, hnx, hB⟩ := hcut
      rename World => wA
      clear Z52
      obtain ⟨kx0, kx1, kx2⟩ := rowBox hrx
      have HBz4 := hid (bstep HBz3.out hB)
      have k0 := cstep k0 hB
      have k1 := cstep k1 hB
      have k2 := cstep k2 hB
      have HRx := hid hRx
      clear hB hRx HBz3
      clear hnx hgx hrx
      go_upto_region 8 with (fail)
      go_cut [11, 12] from 74 to 83 (fun s t wc => BoxIs wA f none 0 0 ax P.length cx s wc ∧ BoxIs wA f none 0 0 (some ⟨q1, q2, none⟩) rs.length rc t wc ∧ Below wA.heap.size wA wc)
      case first =>
        go_region_held3 (fun w' => w'.cell? ⟨w.heap.size, 0, none⟩ = some (.int .i64 (f : Int)) ∧ w'.cell? ⟨w.heap.size, 2, none⟩ = some (.slice (some ⟨q1, q2, none⟩) rs.length rc) ∧ w'.cell? ⟨bx, 2, none⟩ = some (.slice ax P.length cx)) (first | exact ⟨k0, k2, kx2⟩ | exact ⟨cstep k0 (by with_reducible repeat (first | exact Below.refl _ _ | refine Below.drew ?_ | refine bset ?_ | refine bstep ?_ (bnew _ _) | (refine bstep ?_ (by assumption)))), cstep k2 (by with_reducible repeat (first | exact Below.refl _ _ | refine Below.drew ?_ | refine bset ?_ | refine bstep ?_ (bnew _ _) | (refine bstep ?_ (by assumption)))), cstep kx2 (by with_reducible repeat (first | exact Below.refl _ _ | refine Below.drew ?_ | refine bset ?_ | refine bstep ?_ (bnew _ _) | (refine bstep ?_ (by assumption))))⟩ | go_keep) (fail)
        all_goals (
          go_wp2
          go_meet
          first | exact boxes_ab | exact boxes_ba)
      obtain ⟨⟨b1, rfl, hr1, _⟩, ⟨b2, rfl, hr2, _⟩, hB⟩ := hcut
      rename World => wB
      obtain ⟨ky0, ky1, ky2⟩ := rowBox hr1; obtain ⟨kz0, kz1, kz2⟩ := rowBox hr2
      clear hr1 hr2
      have HBz5 := hid (bstep HBz4.out hB)
      have k0 := cstep k0 hB
      have k1 := cstep k1 hB
      have k2 := cstep k2 hB
      have kx0 := cstep kx0 hB
      have kx1 := cstep kx1 hB
      have kx2 := cstep kx2 hB
      have HRx := hid (HRx.out.mono hB)
      clear hB HBz4
      go_wp2_with fail
      refine (Q46.out _ HBz5.out).mono ?_
      rintro e w6 ⟨rfl, hB⟩
      have HBz6 := hid (bstep HBz5.out hB)
      have k0 := cstep k0 hB
      have k1 := cstep k1 hB
      have k2 := cstep k2 hB
      have kx0 := cstep kx0 hB
      have kx1 := cstep kx1 hB
      have kx2 := cstep kx2 hB
      have ky0 := cstep ky0 hB
      have ky1 := cstep ky1 hB
      have ky2 := cstep ky2 hB
      have kz0 := cstep kz0 hB
      have kz1 := cstep kz1 hB
      have kz2 := cstep kz2 hB
      have HRx := hid (HRx.out.mono hB)
      clear hB HBz5
      go_wp2_with fail
      refine (X46.out _ _ _ HBz6.out HRx.out).mono ?_
      rintro e w7 ⟨rfl, hB⟩
      have HBz7 := hid (bstep HBz6.out hB)
      have k0 := cstep k0 hB
      have k1 := cstep k1 hB
      have k2 := cstep k2 hB
      have kx0 := cstep kx0 hB
      have kx1 := cstep kx1 hB
      have kx2 := cstep kx2 hB
      have ky0 := cstep ky0 hB
      have ky1 := cstep ky1 hB
      have ky2 := cstep ky2 hB
      have kz0 := cstep kz0 hB
      have kz1 := cstep kz1 hB
      have kz2 := cstep kz2 hB
      have HRx := hid (HRx.out.mono hB)
      clear hB HBz6
      go_wp2_with fail
      refine (Y46.out _ _ _ HRx.out).mono ?_
      rintro e w8 ⟨rfl, hB⟩
      have HBz8 := hid (bstep HBz7.out hB)
      have k0 := cstep k0 hB
      have k1 := cstep k1 hB
      have k2 := cstep k2 hB
      have kx0 := cstep kx0 hB
      have kx1 := cstep kx1 hB
      have kx2 := cstep kx2 hB
      have ky0 := cstep ky0 hB
      have ky1 := cstep ky1 hB
      have ky2 := cstep ky2 hB
      have kz0 := cstep kz0 hB
      have kz1 := cstep kz1 hB
      have kz2 := cstep kz2 hB
      have HRx := hid (HRx.out.mono hB)
      clear hB HBz7
      go_wp2_with fail
      refine (F46.out _ HBz8.out).mono ?_
      rintro e w9 ⟨rfl, hB⟩
      have HBz9 := hid (bstep HBz8.out hB)
      have k0 := cstep k0 hB
      have k1 := cstep k1 hB
      have k2 := cstep k2 hB
      have kx0 := cstep kx0 hB
      have kx1 := cstep kx1 hB
      have kx2 := cstep kx2 hB
      have ky0 := cstep ky0 hB
      have ky1 := cstep ky1 hB
      have ky2 := cstep ky2 hB
      have kz0 := cstep kz0 hB
      have kz1 := cstep kz1 hB
      have kz2 := cstep kz2 hB
      have HRx := hid (HRx.out.mono hB)
      clear hB HBz8
      clear ky0 ky1 ky2 kz0 kz1 kz2
      go_wp2_with fail
      refine (L45.out _).mono ?_
      rintro e w10 ⟨a5, d5, rfl, hx5, _, hB⟩
      have HBz10 := hid (bstep HBz9.out hB)
      have k0 := cstep k0 hB
      have k1 := cstep k1 hB
      have k2 := cstep k2 hB
      have kx0 := cstep kx0 hB
      have kx1 := cstep kx1 hB
      have kx2 := cstep kx2 hB
      have HRx := hid (HRx.out.mono hB)
      have X5 := hid hx5
      clear hB hx5 HBz9
      have Z21 := hid fun (w' : World) (h : Below w10.heap.size w10 w') => Q21.out a5 d5 w' (bstep HBz10.out h) (X5.out.mono h)
      have Z22 := hid fun (w' : World) (h : Below w10.heap.size w10 w') => X21.out ax cx a5 d5 w' (bstep HBz10.out h) (HRx.out.mono h) (X5.out.mono h)
      go_upto_region 16 with (fail)
      have Z18 := hid fun (w' : World) => (show Calls Try.prog 18 #[] w' (fun e w'' => e = .returned (.bool true) ∧ Below w'.heap.size w' w'') from HW.out w')
      go_region_held3 (fun w' => w'.cell? ⟨w.heap.size, 0, none⟩ = some (.int .i64 (f : Int)) ∧ w'.cell? ⟨w.heap.size, 1, none⟩ = some (.slice sa seen.length sc) ∧ w'.cell? ⟨w.heap.size, 2, none⟩ = some (.slice (some ⟨q1, q2, none⟩) rs.length rc) ∧ w'.cell? ⟨bx, 0, none⟩ = some (.int .i64 (f : Int)) ∧ w'.cell? ⟨bx, 1, none⟩ = some (.slice sa seen.length sc) ∧ w'.cell? ⟨bx, 2, none⟩ = some (.slice ax P.length cx)) (first | exact ⟨k0, k1, k2, kx0, kx1, kx2⟩ | exact ⟨cstep k0 (by with_reducible repeat (first | exact Below.refl _ _ | refine Below.drew ?_ | refine bstep ?_ (bnew _ _) | (refine bstep ?_ (by assumption)))), cstep k1 (by with_reducible repeat (first | exact Below.refl _ _ | refine Below.drew ?_ | refine bstep ?_ (bnew _ _) | (refine bstep ?_ (by assumption)))), cstep k2 (by with_reducible repeat (first | exact Below.refl _ _ | refine Below.drew ?_ | refine bstep ?_ (bnew _ _) | (refine bstep ?_ (by assumption)))), cstep kx0 (by with_reducible repeat (first | exact Below.refl _ _ | refine Below.drew ?_ | refine bstep ?_ (bnew _ _) | (refine bstep ?_ (by assumption)))), cstep kx1 (by with_reducible repeat (first | exact Below.refl _ _ | refine Below.drew ?_ | refine bstep ?_ (bnew _ _) | (refine bstep ?_ (by assumption)))), cstep kx2 (by with_reducible repeat (first | exact Below.refl _ _ | refine Below.drew ?_ | refine bstep ?_ (bnew _ _) | (refine bstep ?_ (by assumption))))⟩ | go_keep)
        (first
          | (go_at_call 21; (with_reducible refine (Z21.out _ (by with_reducible repeat (first | exact Below.refl _ _ | refine Below.drew ?_ | refine bstep ?_ (bnew _ _) | (refine bstep ?_ (by assumption))))).mono ?_); rintro e wx1 ⟨rfl, hB1⟩)
          | (go_at_call 21; (with_reducible refine (Z22.out _ (by with_reducible repeat (first | exact Below.refl _ _ | refine Below.drew ?_ | refine bstep ?_ (bnew _ _) | (refine bstep ?_ (by assumption))))).mono ?_); rintro e wx2 ⟨rfl, hB2⟩)
          | (go_at_call 18; (with_reducible refine (Z18.out _).mono ?_); rintro e wx3 ⟨rfl, hB3⟩))
      all_goals (
        go_wp2
        go_ret
        exact ⟨rfl, bstep HB0.out (bstep HBz10.out (by with_reducible repeat (first | exact Below.refl _ _ | refine Below.drew ?_ | refine bstep ?_ (bnew _ _) | (refine bstep ?_ (by assumption)))))⟩)
    | false =>
      have hz1 := hzk rfl
      have hz2 := hzo rfl
      rw [hz2] at H36
      have hzd : ((m4 : Int) == (m3 : Int)) = false := beq_eq_false_iff_ne.2 (by omega)
      have hze : decide (m4 = m3) = false := decide_eq_false (by omega)
      clear hzm hzj hzk hzo hzt hz1 hz2
      go_enter Try.func12, Try.ntmps12
      go_wp2_with fail
      rw [← HS.out]
      refine HG.out.mono ?_
      rintro e w1 ⟨rfl, hB⟩
      have HB1 := hid hB
      have k0 := cstep c0 hB; have k1 := cstep c1 hB; have k2 := cstep c2 hB
      clear hB c0 c1 c2
      go_wp2_with fail
      refine (Q42.out _ HB1.out).mono ?_
      rintro e w2 ⟨rfl, hB⟩
      have HBz2 := hid (bstep HB1.out hB)
      have k0 := cstep k0 hB
      have k1 := cstep k1 hB
      have k2 := cstep k2 hB
      clear hB HB1
      go_wp2_with fail
      have hqI := cstep HqI.out HBz2.out; have hqT := cstep HqT.out HBz2.out
      go_quiet ((go_at_call 36; exact H36.out _ HBz2.out _))
      clear hqI hqT
      obtain ⟨w3, hw⟩ : ∃ q, q = World.drewN w2 nq := ⟨_, rfl⟩
      have hB : Below w2.heap.size w2 (World.drewN w2 nq) := Go.Joins.below_draws _ _ _
      rw [← hw]
      rw [← hw] at hB
      clear hw
      have HBz3 := hid (bstep HBz2.out hB)
      have k0 := cstep k0 hB
      have k1 := cstep k1 hB
      have k2 := cstep k2 hB
      clear hB HBz2
      have Z52 := hid fun (w' : World) (h : Below w3.heap.size w3 w') => H52.out w3 w' HBz3.out h
      go_upto_region 7 with (fail)
      go_cut [10] from 65 to 73 (fun s wc => BoxAt w3 f sa seen.length sc P s wc)
      case first =>
        go_region_held3 (fun w' => w'.cell? ⟨w.heap.size, 0, none⟩ = some (.int .i64 (f : Int)) ∧ w'.cell? ⟨w.heap.size, 1, none⟩ = some (.slice sa seen.length sc) ∧ w'.cell? ⟨w.heap.size, 2, none⟩ = some (.slice (some ⟨q1, q2, none⟩) rs.length rc)) (first | exact ⟨k0, k1, k2⟩ | exact ⟨cstep k0 (by with_reducible repeat (first | exact Below.refl _ _ | refine Below.drew ?_ | refine bset ?_ | refine bstep ?_ (bnew _ _) | (refine bstep ?_ (by assumption)))), cstep k1 (by with_reducible repeat (first | exact Below.refl _ _ | refine Below.drew ?_ | refine bset ?_ | refine bstep ?_ (bnew _ _) | (refine bstep ?_ (by assumption)))), cstep k2 (by with_reducible repeat (first | exact Below.refl _ _ | refine Below.drew ?_ | refine bset ?_ | refine bstep ?_ (bnew _ _) | (refine bstep ?_ (by assumption))))⟩ | go_keep)
          ((go_at_call 52; (with_reducible refine (Z52.out _ (by with_reducible repeat (first | exact Below.refl _ _ | refine Below.drew ?_ | refine bstep ?_ (bnew _ _) | (refine bstep ?_ (by assumption))))).mono ?_); rintro e wx1 ⟨ar, cr, rfl, hown, hB1⟩; try (first | (have hz := zb (naH rfl) hB1; have hzf0 := frozen_of_row _ _ 0 _ _ hz; have hzf1 := frozen_of_row _ _ 1 _ _ hz; have hzf2 := frozen_of_row _ _ 2 _ _ hz; obtain ⟨hz0, hz1, hz2⟩ := rowBox hz) | (have hz := zb (zd (naH rfl)) hB1; have hzf0 := frozen_of_row _ _ 0 _ _ hz; have hzf1 := frozen_of_row _ _ 1 _ _ hz; have hzf2 := frozen_of_row _ _ 2 _ _ hz; obtain ⟨hz0, hz1, hz2⟩ := rowBox hz))))
        all_goals (
          go_wp2
          go_meet
          first | exact BoxAt.new hown (by with_reducible repeat (first | exact Below.refl _ _ | refine Below.drew ?_ | refine bstep ?_ (bnew _ _) | (refine bstep ?_ (by assumption)))) | exact BoxAt.put hz (Nat.le_refl _) hown (by with_reducible repeat (first | exact Below.refl _ _ | refine Below.drew ?_ | refine bstep ?_ (bnew _ _) | (refine bstep ?_ (by assumption)))))
      obtain ⟨bx, ax, cx, rfl, hrx, hgx, hRx, hnx, hB⟩ := hcut
      rename World => wA
      clear Z52
      obtain ⟨kx0, kx1, kx2⟩ := rowBox hrx
      have HBz4 := hid (bstep HBz3.out hB)
      have k0 := cstep k0 hB
      have k1 := cstep k1 hB
      have k2 := cstep k2 hB
      have HRx := hid hRx
      clear hB hRx HBz3
      clear hnx hgx hrx
      go_upto_region 8 with (fail)
      go_cut [11, 12] from 74 to 83 (fun s t wc => BoxIs wA f none 0 0 ax P.length cx s wc ∧ BoxIs wA f none 0 0 (some ⟨q1, q2, none⟩) rs.length rc t wc ∧ Below wA.heap.size wA wc)
      case first =>
        go_region_held3 (fun w' => w'.cell? ⟨w.heap.size, 0, none⟩ = some (.int .i64 (f : Int)) ∧ w'.cell? ⟨w.heap.size, 2, none⟩ = some (.slice (some ⟨q1, q2, none⟩) rs.length rc) ∧ w'.cell? ⟨bx, 2, none⟩ = some (.slice ax P.length cx)) (first | exact ⟨k0, k2, kx2⟩ | exact ⟨cstep k0 (by with_reducible repeat (first | exact Below.refl _ _ | refine Below.drew ?_ | refine bset ?_ | refine bstep ?_ (bnew _ _) | (refine bstep ?_ (by assumption)))), cstep k2 (by with_reducible repeat (first | exact Below.refl _ _ | refine Below.drew ?_ | refine bset ?_ | refine bstep ?_ (bnew _ _) | (refine bstep ?_ (by assumption)))), cstep kx2 (by with_reducible repeat (first | exact Below.refl _ _ | refine Below.drew ?_ | refine bset ?_ | refine bstep ?_ (bnew _ _) | (refine bstep ?_ (by assumption))))⟩ | go_keep) (fail)
        all_goals (
          go_wp2
          go_meet
          first | exact boxes_ab | exact boxes_ba)
      obtain ⟨⟨b1, rfl, hr1, _⟩, ⟨b2, rfl, hr2, _⟩, hB⟩ := hcut
      rename World => wB
      obtain ⟨ky0, ky1, ky2⟩ := rowBox hr1; obtain ⟨kz0, kz1, kz2⟩ := rowBox hr2
      clear hr1 hr2
      have HBz5 := hid (bstep HBz4.out hB)
      have k0 := cstep k0 hB
      have k1 := cstep k1 hB
      have k2 := cstep k2 hB
      have kx0 := cstep kx0 hB
      have kx1 := cstep kx1 hB
      have kx2 := cstep kx2 hB
      have HRx := hid (HRx.out.mono hB)
      clear hB HBz4
      go_wp2_with fail
      refine (Q46.out _ HBz5.out).mono ?_
      rintro e w6 ⟨rfl, hB⟩
      have HBz6 := hid (bstep HBz5.out hB)
      have k0 := cstep k0 hB
      have k1 := cstep k1 hB
      have k2 := cstep k2 hB
      have kx0 := cstep kx0 hB
      have kx1 := cstep kx1 hB
      have kx2 := cstep kx2 hB
      have ky0 := cstep ky0 hB
      have ky1 := cstep ky1 hB
      have ky2 := cstep ky2 hB
      have kz0 := cstep kz0 hB
      have kz1 := cstep kz1 hB
      have kz2 := cstep kz2 hB
      have HRx := hid (HRx.out.mono hB)
      clear hB HBz5
      go_wp2_with fail
      refine (X46.out _ _ _ HBz6.out HRx.out).mono ?_
      rintro e w7 ⟨rfl, hB⟩
      have HBz7 := hid (bstep HBz6.out hB)
      have k0 := cstep k0 hB
      have k1 := cstep k1 hB
      have k2 := cstep k2 hB
      have kx0 := cstep kx0 hB
      have kx1 := cstep kx1 hB
      have kx2 := cstep kx2 hB
      have ky0 := cstep ky0 hB
      have ky1 := cstep ky1 hB
      have ky2 := cstep ky2 hB
      have kz0 := cstep kz0 hB
      have kz1 := cstep kz1 hB
      have kz2 := cstep kz2 hB
      have HRx := hid (HRx.out.mono hB)
      clear hB HBz6
      go_wp2_with fail
      refine (Y46.out _ _ _ HRx.out).mono ?_
      rintro e w8 ⟨rfl, hB⟩
      have HBz8 := hid (bstep HBz7.out hB)
      have k0 := cstep k0 hB
      have k1 := cstep k1 hB
      have k2 := cstep k2 hB
      have kx0 := cstep kx0 hB
      have kx1 := cstep kx1 hB
      have kx2 := cstep kx2 hB
      have ky0 := cstep ky0 hB
      have ky1 := cstep ky1 hB
      have ky2 := cstep ky2 hB
      have kz0 := cstep kz0 hB
      have kz1 := cstep kz1 hB
      have kz2 := cstep kz2 hB
      have HRx := hid (HRx.out.mono hB)
      clear hB HBz7
      go_wp2_with fail
      refine (F46.out _ HBz8.out).mono ?_
      rintro e w9 ⟨rfl, hB⟩
      have HBz9 := hid (bstep HBz8.out hB)
      have k0 := cstep k0 hB
      have k1 := cstep k1 hB
      have k2 := cstep k2 hB
      have kx0 := cstep kx0 hB
      have kx1 := cstep kx1 hB
      have kx2 := cstep kx2 hB
      have ky0 := cstep ky0 hB
      have ky1 := cstep ky1 hB
      have ky2 := cstep ky2 hB
      have kz0 := cstep kz0 hB
      have kz1 := cstep kz1 hB
      have kz2 := cstep kz2 hB
      have HRx := hid (HRx.out.mono hB)
      clear hB HBz8
      clear ky0 ky1 ky2 kz0 kz1 kz2
      go_wp2_with fail
      refine (L45.out _).mono ?_
      rintro e w10 ⟨a5, d5, rfl, hx5, _, hB⟩
      have HBz10 := hid (bstep HBz9.out hB)
      have k0 := cstep k0 hB
      have k1 := cstep k1 hB
      have k2 := cstep k2 hB
      have kx0 := cstep kx0 hB
      have kx1 := cstep kx1 hB
      have kx2 := cstep kx2 hB
      have HRx := hid (HRx.out.mono hB)
      have X5 := hid hx5
      clear hB hx5 HBz9
      have Z21 := hid fun (w' : World) (h : Below w10.heap.size w10 w') => Q21.out a5 d5 w' (bstep HBz10.out h) (X5.out.mono h)
      have Z22 := hid fun (w' : World) (h : Below w10.heap.size w10 w') => X21.out ax cx a5 d5 w' (bstep HBz10.out h) (HRx.out.mono h) (X5.out.mono h)
      go_upto_region 16 with (fail)
      have Z18 := hid fun (w' : World) => (show Calls Try.prog 18 #[] w' (fun e w'' => e = .returned (.bool true) ∧ Below w'.heap.size w' w'') from HW.out w')
      have hBf := bstep HB0.out HBz10.out
      clear Q42 Q46 X46 Y46 F46 Q21 X21 H36 L45 H52 HRx X5 Z21 Z22 k0 k1 k2 kx0 kx1 kx2 hLd hLe hLf hLg hmod hwr hwi hwp hmg hmg2 hzd hze HG HS HR HSn HW Hlx HqI HqT hltI hif hf1 hf2
      first | go_region_with ((go_at_call 18; (with_reducible refine (Z18.out _).mono ?_); rintro e wx3 ⟨rfl, hB3⟩)) | fail
      all_goals (
        go_wp2
        go_ret
        exact ⟨rfl, bstep hBf (by with_reducible repeat (first | exact Below.refl _ _ | refine Below.drew ?_ | refine bstep ?_ (bnew _ _) | (refine bstep ?_ (by assumption))))⟩)

end Go.Proofs.Ytkioejdddmnbmaa
