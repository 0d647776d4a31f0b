/- Walk: the law PleaMore, out of the contract of Works. -/
import Derived.Test.YtkioejdddmnbmaaPo
import Derived.Test.YtkioejdddmnbmaaUm
namespace Go.Proofs.Ytkioejdddmnbmaa
open Go.RowKit Go.Shelf

theorem box_keep2 {W w w' : World} {g n cap b : Nat} {rs : List Rl} {cs : Array Value} (hg : w.grownBy w' (some g)) (hz : w.heap[b]? = some (.cells cs 25 (0, 0))) (h : OwnRu W w (some ⟨g, 0, none⟩) n cap rs) : w'.heap[b]? = some (.cells cs 25 (0, 0)) := box_keep hz h hg
theorem bsetG {W x : World} {b o : Nat} {v : Value} (h : Below W.heap.size W x) (hb : W.heap.size ≤ b) : Below W.heap.size W (x.setCell ⟨b, o, none⟩ v) := h.setCell hb v
theorem drew_size (w : World) : w.drew.heap.size = w.heap.size := rfl
theorem alloc_size (w : World) (o : Obj) : (w.alloc o).heap.size = w.heap.size + 1 := by simp

set_option maxRecDepth 100000 in
set_option maxHeartbeats 8000000 in
theorem more_law (hworks : WorksC) (facts : Int) (sa : Option Addr) (sc : Nat) (seen : List Int) (ra : Option Addr) (rc : Nat) (rs : List Rl) (n k : Nat) (qa : Option Addr) (qc : Nat) (q : Rl) (w : World) (hs : IntsAt w sa seen) (hr : RulesAt w ra rs) (hsnil : sa = none → sc = 0) (hrnil : ra = none → rc = 0) (hn : n < 256) (hk : k < 256) (hq : IntsAt w qa q.1) (hqn : qa = none → qc = 0) :
    Calls Try.prog 11 #[.agg #[.int .i64 facts, .slice sa seen.length sc, .slice ra rs.length rc], .int .u8 n, .int .u8 k, .agg #[.slice qa q.1.length qc, .int .i64 q.2]] w (TrueP w) := by
  have HW := hid hworks
  clear hworks
  obtain ⟨W0, hW0⟩ : ∃ W0, W0 = (w.alloc (.cells #[.int .i64 facts, .slice sa seen.length sc, .slice ra rs.length rc] 25)).alloc (.cells #[.slice qa q.1.length qc, .int .i64 q.2] 60) := ⟨_, rfl⟩
  have HB0 := hid (show Below w.heap.size w W0 by rw [hW0]; exact bstep (bnew w _) (bnew _ _))
  obtain ⟨b0, b1, b2⟩ := caseBox w facts sa ra seen.length sc rs.length rc
  have c0 : W0.cell? ⟨w.heap.size, 0, none⟩ = some (.int .i64 facts) := by rw [hW0]; exact cstep b0 (bnew _ _)
  have c1 : W0.cell? ⟨w.heap.size, 1, none⟩ = some (.slice sa seen.length sc) := by rw [hW0]; exact cstep b1 (bnew _ _)
  have c2 : W0.cell? ⟨w.heap.size, 2, none⟩ = some (.slice ra rs.length rc) := by rw [hW0]; exact cstep b2 (bnew _ _)
  have hd := heap_alloc_new (w.alloc (.cells #[.int .i64 facts, .slice sa seen.length sc, .slice ra rs.length rc] 25)) (.cells #[.slice qa q.1.length qc, .int .i64 q.2] 60)
  rw [show (w.alloc (.cells #[.int .i64 facts, .slice sa seen.length sc, .slice ra rs.length rc] 25)).heap.size = w.heap.size + 1 by simp] at hd
  rw [← hW0] at hd
  have d0 : W0.cell? ⟨w.heap.size + 1, 0, none⟩ = some (.slice qa q.1.length qc) := by rw [cell_of_row _ _ _ _ _ _ hd]; rfl
  have d1 : W0.cell? ⟨w.heap.size + 1, 1, none⟩ = some (.int .i64 q.2) := by rw [cell_of_row _ _ _ _ _ _ hd]; rfl
  clear hd b0 b1 b2
  have HQ := hid (hq.mono HB0.out)
  clear hq
  have HR := hid (hr.mono HB0.out); have HSn := hid (hs.mono HB0.out)
  have HS := hid hW0
  clear hs hr hW0
  have HG := hid (fine_c sa ra sc rc facts seen rs W0 HSn.out HR.out)
  unfold TellB at HG
  by_cases hg : fineB facts seen rs = true
  case neg =>
    have hgn : fineB facts seen rs = false := by simpa using hg
    rw [hgn] at HG
    clear hg hgn hsnil hrnil hn hk hqn HQ d0 d1
    go_enter Try.func11, Try.ntmps11
    go_wp2_with fail
    rw [← HS.out]
    refine HG.out.mono ?_
    rintro e w1 ⟨rfl, hB⟩
    have HB1 := hid (bstep HB0.out hB)
    clear hB
    go_wp2_with fail
    refine (HW.out _).mono ?_
    rintro e w2 ⟨rfl, hB⟩
    have HB2 := hid (bstep HB1.out hB)
    clear hB
    go_wp2
    go_ret
    exact ⟨rfl, HB2.out⟩
  case pos =>
    obtain ⟨hgf, hz⟩ := fine_true hg
    obtain ⟨hl1, hl2, hl3⟩ := great_lens hgf
    rw [hg] at HG
    obtain ⟨f, rfl, hf1, hf2⟩ := case_nat hz
    have hil : ∀ i, i < rs.length → (nthR rs i).1.length ≤ 1000000 := fun i hi => by have := hl3 i hi; omega
    have hv : Valid f seen rs := valid_of hz hil
    have hC : ∀ w', Below W0.heap.size W0 w' → CaseAt w' sa ra seen rs := fun w' h => great_case (HSn.out.mono h) (HR.out.mono h) hgf
    by_cases h16 : q.1.length ≤ 16
    case neg =>
      have hLd : decide (16 < q.1.length) = true := decide_eq_true (by omega)
      have hLe : decide ((16 : Int) < (q.1.length : Int)) = true := decide_eq_true (by omega)
      clear h16 hC hv hil hl1 hl2 hl3 hz hgf hg hn hk hsnil hrnil
      go_enter Try.func11, Try.ntmps11
      go_wp2_with fail
      rw [← HS.out]
      refine HG.out.mono ?_
      rintro e w1 ⟨rfl, hB⟩
      have HB1 := hid hB
      have k0 := cstep c0 hB; have k1 := cstep c1 hB; have k2 := cstep c2 hB
      clear hB c0 c1 c2
      have d0 := cstep d0 HB1.out; have d1 := cstep d1 HB1.out
      go_wp2_with fail
      refine (HW.out _).mono ?_
      rintro e w2 ⟨rfl, hB⟩
      have HBz2 := hid (bstep HB1.out hB)
      have k0 := cstep k0 hB
      have k1 := cstep k1 hB
      have k2 := cstep k2 hB
      have d0 := cstep d0 hB
      have d1 := cstep d1 hB
      clear hB HB1
      go_wp2
      go_ret
      exact ⟨rfl, bstep HB0.out HBz2.out⟩
    case pos =>
    have hLd : decide (16 < q.1.length) = false := decide_eq_false (by omega)
    have hLe : decide ((16 : Int) < (q.1.length : Int)) = false := decide_eq_false (by omega)
    obtain ⟨i, hi⟩ : ∃ i, i = n % f := ⟨_, rfl⟩
    obtain ⟨j, hj⟩ : ∃ i, i = k % f := ⟨_, rfl⟩
    have hif : i < f := by rw [hi]; exact Nat.mod_lt _ (by omega)
    have hjf : j < f := by rw [hj]; exact Nat.mod_lt _ (by omega)
    have hwr : IntKind.i64.wrap ((n : Nat) : Int) = (n : Int) := wrap_i64_nat (by omega)
    have hwk : IntKind.i64.wrap ((k : Nat) : Int) = (k : Int) := wrap_i64_nat (by omega)
    have hmod : ((n : Nat) : Int).tmod (f : Int) = (i : Int) := by rw [hi, Int.tmod_eq_emod_of_nonneg (by omega)]; rfl
    have hmodk : ((k : Nat) : Int).tmod (f : Int) = (j : Int) := by rw [hj, Int.tmod_eq_emod_of_nonneg (by omega)]; rfl
    have hwi : IntKind.i64.wrap ((i : Nat) : Int) = (i : Int) := wrap_i64_nat (by omega)
    have hwj : IntKind.i64.wrap ((j : Nat) : Int) = (j : Int) := wrap_i64_nat (by omega)
    have hf0 : decide ((f : Int) = 0) = false := decide_eq_false (by omega)
    have hf0b : ((f : Int) == 0) = false := by simp; omega
    have hvX := hv.more i
    have hXl : (withL f seen i).length ≤ 12 := by have := listed_len (bitsL seen ||| 2 ^ i) f; unfold withL; omega
    have hsX := hv.seen_with hif
    have hCX : ∀ a w', Below W0.heap.size W0 w' → IntsAt w' a (withL f seen i) → CaseAt w' a ra (withL f seen i) rs := fun a w' h hx => ⟨hx, (hC w' h).r, by omega, (hC w' h).rl, hil⟩
    have Q48 := hid fun (w' : World) (h : Below W0.heap.size W0 w') => with_c f i sa ra sc rc rs.length seen w' ((hC w' h).s) (by omega) hv.ok.s (by omega) (by omega)
    have Q27 := hid fun (w' : World) (h : Below W0.heap.size W0 w') => verdict_c f sa sc seen ra rc rs j w' (hC w' h) hsnil (by omega)
    have X27 := hid fun (a : Option Addr) (c : Nat) (w' : World) (h : Below W0.heap.size W0 w') (hx : IntsAt w' a (withL f seen i)) (hn : a = none → c = 0) => verdict_c f a c (withL f seen i) ra rc rs j w' (hCX a w' h hx) hn (by omega)
    have Q46 := hid fun (w' : World) (h : Below W0.heap.size W0 w') => counted_c sa ra sc rc f seen rs w' (hC w' h)
    have X46 := hid fun (a : Option Addr) (c : Nat) (w' : World) (h : Below W0.heap.size W0 w') (hx : IntsAt w' a (withL f seen i)) => counted_c a ra c rc f (withL f seen i) rs w' (hCX a w' h hx)
    rw [(verdict_eq hil).1, (verdict_eq hil).2] at Q27
    simp only [(verdict_eq hil).1, (verdict_eq hil).2] at X27
    rw [hv.count, hz, show ((0 : Int) == 0) = true from rfl] at Q46
    rw [hvX.count, hvX.z, show ((0 : Int) == 0) = true from rfl] at X46
    have hstX := hv.stays hvX (fun n hn => (hsX n).2 (.inl hn)) (fun _ h => h) hjf
    have hmX := hv.count_le hvX (fun n hn => (hsX n).2 (.inl hn)) (fun _ h => h)
    obtain ⟨Y, hY⟩ : ∃ Y, Y = rs ++ [q] := ⟨_, rfl⟩
    have hYl : Y.length = rs.length + 1 := by rw [hY]; simp
    have hrY : ∀ r ∈ rs, r ∈ Y := fun r hr => by rw [hY]; exact List.mem_append_left _ hr
    have F44 := hid fun (a : Option Addr) (c : Nat) (w' : World) (h : Below W0.heap.size W0 w') (hr : RulesAt w' a Y) => fine_c sa a sc c f seen Y w' ((hC w' h).s) hr
    obtain ⟨N1, hN1⟩ : ∃ m, m = (truthsN f seen rs).length := ⟨_, rfl⟩
    obtain ⟨N2, hN2⟩ : ∃ m, m = (truthsN f (withL f seen i) rs).length := ⟨_, rfl⟩
    rw [← hN1] at Q46 hmX
    rw [← hN2] at X46 hmX
    obtain ⟨vn, hvn⟩ : ∃ m, m = rVerdictN (f : Int) seen rs j := ⟨_, rfl⟩
    obtain ⟨ve, hve⟩ : ∃ m, m = rVerdictE (f : Int) seen rs j := ⟨_, rfl⟩
    obtain ⟨xn, hxn⟩ : ∃ m, m = rVerdictN (f : Int) (withL f seen i) rs j := ⟨_, rfl⟩
    obtain ⟨xe, hxe⟩ : ∃ m, m = rVerdictE (f : Int) (withL f seen i) rs j := ⟨_, rfl⟩
    rw [← hvn, ← hve] at Q27 hstX
    rw [← hxn, ← hxe] at X27 hstX
    have hmd : decide ((N1 : Int) < (N2 : Int)) = false := decide_eq_false (by omega)
    have hme : decide (N1 < N2) = false := decide_eq_false (by omega)
    obtain ⟨X, hX⟩ : ∃ X, X = withL f seen i := ⟨_, rfl⟩
    rw [← hX] at X27 X46 Q48
    unfold WithP at Q48
    have S51 := hid fun (a : Option Addr) (c : Nat) (hn : a = none → c = 0) (w' : World) (h : Below W0.heap.size W0 w') (hx : IntsAt w' a X) => (show Calls Try.prog 51 #[.agg #[.int .i64 (f : Int), .slice sa seen.length sc, .slice ra rs.length rc], .agg #[.int .i64 (f : Int), .slice a X.length c, .slice ra rs.length rc], .int .i64 j] w' (TellB w' true) from
      stays_walk f j vn ve xn xe sa a ra ra sc c rc rc seen.length X.length rs.length rs.length w' (fun w2 hB => Q27.out w2 (bstep h hB)) (fun w2 hB => X27.out a c w2 (bstep h hB) (hx.mono hB) hn) hstX)
    unfold TellB at S51 F44
    have Hrn := hid (fun (h : ra = none) => (show rs.length = 0 ∧ rc = 0 from by
      refine ⟨?_, hrnil h⟩
      rcases HR.out with e | ⟨b, off, e, _⟩
      · rw [e]; rfl
      · rw [h] at e; cases e))
    have Hl18 := hid (show rs.length ≤ 18 from hl2)
    have Hqn := hid hqn
    have HYl := hid hYl; have HrY := hid hrY; have HY := hid hY; have HN1 := hid hN1; have Hve := hid (And.intro hvn hve); have HX := hid hX; have Hxe := hid (And.intro hxn hxe)
    have HvX := hid hvX; have Hv := hid hv; have Hjf := hid hjf; have Hif := hid hif
    clear hqn hYl hrY hY hN1 hN2 hvn hve hxn hxe hX hstX hmX hi hj hvX hCX hsX hXl
    by_cases hfy : fineB (f : Int) seen Y = true
    case neg =>
      have hfn : fineB (f : Int) seen Y = false := by simpa using hfy
      rw [hfn] at F44
      clear hfn hfy Hv HvX Q27 X27 hC hv hil hl1 hl2 hl3 hz hgf hg hn hk hsnil hrnil hif hjf
      go_enter Try.func11, Try.ntmps11
      go_wp2_with fail
      rw [← HS.out]
      refine HG.out.mono ?_
      rintro e w1 ⟨rfl, hB⟩
      have HB1 := hid hB
      have k0 := cstep c0 hB; have k1 := cstep c1 hB; have k2 := cstep c2 hB
      clear hB c0 c1 c2
      have d0 := cstep d0 HB1.out; have d1 := cstep d1 HB1.out
      go_wp2_with fail
      go_quiet (fail)
      obtain ⟨w2, hw⟩ : ∃ q, q = World.drewN w1 nq := ⟨_, rfl⟩
      have hB : Below w1.heap.size w1 (World.drewN w1 nq) := Go.Joins.below_draws _ _ _
      rw [← hw]
      rw [← hw] at hB
      clear hw
      have HBz2 := hid (bstep HB1.out hB)
      have k0 := cstep k0 hB
      have k1 := cstep k1 hB
      have k2 := cstep k2 hB
      have d0 := cstep d0 hB
      have d1 := cstep d1 hB
      clear hB HB1
      go_wp2_with fail
      refine (Q48.out _ HBz2.out).mono ?_
      rintro e w3 ⟨a1, e1, rfl, hx1, hn1, hB⟩
      have HBz3 := hid (bstep HBz2.out hB)
      have k0 := cstep k0 hB
      have k1 := cstep k1 hB
      have k2 := cstep k2 hB
      have d0 := cstep d0 hB
      have d1 := cstep d1 hB
      have X1 := hid hx1
      clear hB hx1 HBz2
      have Hn1 := hid hn1
      clear hn1
      go_upto_region 5 with (fail)
      obtain ⟨w4, hw4⟩ : ∃ q, q = World.alloc w3 (.cells #[.int .i64 (f : Int), .slice a1 X.length e1, .slice ra rs.length rc] 25) := ⟨_, rfl⟩
      rw [← hw4]
      have hB : Below w3.heap.size w3 w4 := by rw [hw4]; exact bnew _ _
      obtain ⟨x0, x1, x2⟩ := caseBox w3 (f : Int) a1 ra X.length e1 rs.length rc
      rw [← hw4] at x0 x1 x2
      clear hw4
      have HBz4 := hid (bstep HBz3.out hB)
      have k0 := cstep k0 hB
      have k1 := cstep k1 hB
      have k2 := cstep k2 hB
      have d0 := cstep d0 hB
      have d1 := cstep d1 hB
      have X1 := hid (X1.out.mono hB)
      clear hB HBz3
      have HRw := hid (HR.out.mono HBz4.out); have HQw := hid (HQ.out.mono HBz4.out)
      go_cut [12] from 41 to 52 (fun s wc => BoxAtN w4 f sa seen.length sc (rs.length + 1) Y s wc)
      case first =>
        go_region_held3 (fun w' => w'.cell? ⟨w.heap.size, 0, none⟩ = some (.int .i64 (f : Int)) ∧ w'.cell? ⟨w.heap.size, 1, none⟩ = some (.slice sa seen.length sc) ∧ w'.cell? ⟨w.heap.size, 2, none⟩ = some (.slice ra rs.length rc) ∧ w'.cell? ⟨w.heap.size + 1, 0, none⟩ = some (.slice qa q.1.length qc) ∧ w'.cell? ⟨w.heap.size + 1, 1, none⟩ = some (.int .i64 q.2)) (first | exact ⟨k0, k1, k2, d0, d1⟩ | exact ⟨cstep k0 (by with_reducible ((repeat (first | exact Below.refl _ _ | refine Below.drew ?_ | refine bset ?_ | refine bset1 ?_ | refine bset2 ?_ | refine bsetG ?_ (by omega) | refine bstep ?_ (bnew _ _) | (refine bstep ?_ (by assumption)) | assumption)); all_goals fail)), cstep k1 (by with_reducible ((repeat (first | exact Below.refl _ _ | refine Below.drew ?_ | refine bset ?_ | refine bset1 ?_ | refine bset2 ?_ | refine bsetG ?_ (by omega) | refine bstep ?_ (bnew _ _) | (refine bstep ?_ (by assumption)) | assumption)); all_goals fail)), cstep k2 (by with_reducible ((repeat (first | exact Below.refl _ _ | refine Below.drew ?_ | refine bset ?_ | refine bset1 ?_ | refine bset2 ?_ | refine bsetG ?_ (by omega) | refine bstep ?_ (bnew _ _) | (refine bstep ?_ (by assumption)) | assumption)); all_goals fail)), cstep d0 (by with_reducible ((repeat (first | exact Below.refl _ _ | refine Below.drew ?_ | refine bset ?_ | refine bset1 ?_ | refine bset2 ?_ | refine bsetG ?_ (by omega) | refine bstep ?_ (bnew _ _) | (refine bstep ?_ (by assumption)) | assumption)); all_goals fail)), cstep d1 (by with_reducible ((repeat (first | exact Below.refl _ _ | refine Below.drew ?_ | refine bset ?_ | refine bset1 ?_ | refine bset2 ?_ | refine bsetG ?_ (by omega) | refine bstep ?_ (bnew _ _) | (refine bstep ?_ (by assumption)) | assumption)); all_goals fail))⟩ | go_keep)
          (first
            | (refine step_appA _ w4 (by rfl) _ _ (by rfl) _ (by rfl) ra rs.length rc rs (by rfl) HRw.out rfl Hrn.out (by have := Hl18.out; omega) (by with_reducible ((repeat (first | exact naH (by simp) | apply zd | apply za)); all_goals fail)) (by omega) (by with_reducible ((repeat (first | exact Below.refl _ _ | refine Below.drew ?_ | refine bset ?_ | refine bset1 ?_ | refine bset2 ?_ | refine bsetG ?_ (by omega) | refine bstep ?_ (bnew _ _) | (refine bstep ?_ (by assumption)) | assumption)); all_goals fail)) ?_; intro g8 c8 w8 hB8 hown8; have hs8 : w4.heap.size ≤ w8.heap.size := Below.size (show Below w4.heap.size w4 w8 from (by with_reducible ((repeat (first | exact Below.refl _ _ | refine Below.drew ?_ | refine bset ?_ | refine bset1 ?_ | refine bset2 ?_ | refine bsetG ?_ (by omega) | refine bstep ?_ (bnew _ _) | (refine bstep ?_ (by assumption)) | assumption)); all_goals fail))); try (have hz8 : w8.heap[(_ : Nat)]? = some (.cells #[.int .i64 0, .slice none 0 0, .slice none 0 0] 25 (0, 0)) := zb (by with_reducible ((repeat (first | exact naH rfl | apply zd | apply za)); all_goals fail)) hB8; (try simp only [alloc_size, Nat.add_assoc, Nat.reduceAdd] at hz8)))
            | (refine step_appC _ w4 (by rfl) _ _ (by rfl) ⟨g8, 0, none⟩ rs.length c8 rs (by rfl) _ _ (by rfl) qa qc q HQw.out Hqn.out (by have := Hl18.out; omega) (by with_reducible ((repeat (first | exact hown8 | apply OwnRu.al | apply OwnRu.dr)); all_goals fail)) (by with_reducible ((repeat (first | exact naH (by simp) | apply zd | apply za | refine zb ?_ hB8)); all_goals fail)) (by with_reducible ((repeat (first | exact Below.refl _ _ | refine Below.drew ?_ | refine bset ?_ | refine bset1 ?_ | refine bset2 ?_ | refine bsetG ?_ (by omega) | refine bstep ?_ (bnew _ _) | (refine bstep ?_ (by assumption)) | assumption)); all_goals fail)) ?_; intro g9 c9 w9 hB9 hown9 hg9; try (have hz9 : w9.heap[(_ : Nat)]? = some (.cells #[.int .i64 0, .slice none 0 0, .slice none 0 0] 25 (0, 0)) := box_keep2 hg9 (by with_reducible ((repeat (first | exact hz8 | exact naH rfl | apply zd | apply za)); all_goals fail)) (by with_reducible ((repeat (first | exact hown8 | apply OwnRu.al | apply OwnRu.dr)); all_goals fail)); (try simp only [alloc_size] at hz9); have hzf0 := frozen_of_row _ _ 0 _ _ hz9; have hzf1 := frozen_of_row _ _ 1 _ _ hz9; have hzf2 := frozen_of_row _ _ 2 _ _ hz9; obtain ⟨hz0, hz1, hz2⟩ := rowBox hz9)))
        all_goals (
          go_wp2
          go_meet
          rw [HY.out]
          first | exact BoxAtN.new hown9 (by with_reducible ((repeat (first | exact Below.refl _ _ | refine Below.drew ?_ | refine bset ?_ | refine bset1 ?_ | refine bset2 ?_ | refine bsetG ?_ (by omega) | refine bstep ?_ (bnew _ _) | (refine bstep ?_ (by assumption)) | assumption)); all_goals fail)) | exact BoxAtN.put hz9 (by omega) hown9 (by with_reducible ((repeat (first | exact Below.refl _ _ | refine Below.drew ?_ | refine bset ?_ | refine bset1 ?_ | refine bset2 ?_ | refine bsetG ?_ (by omega) | refine bstep ?_ (bnew _ _) | (refine bstep ?_ (by assumption)) | assumption)); all_goals fail)))
      rename World => wA
      obtain ⟨by1, ay, cy, rfl, hry, _, hRy, _, hB⟩ := hcut
      rw [← HYl.out] at hry
      obtain ⟨ky0, ky1, ky2⟩ := rowBox hry
      clear hry HRw HQw d0 d1
      have HBz5 := hid (bstep HBz4.out hB)
      have k0 := cstep k0 hB
      have k1 := cstep k1 hB
      have k2 := cstep k2 hB
      have x0 := cstep x0 hB
      have x1 := cstep x1 hB
      have x2 := cstep x2 hB
      have X1 := hid (X1.out.mono hB)
      have RY := hid hRy
      clear hB hRy HBz4
      go_wp2_with fail
      refine (Q46.out _ HBz5.out).mono ?_
      rintro e w6 ⟨rfl, hB⟩
      have HBz6 := hid (bstep HBz5.out hB)
      have k0 := cstep k0 hB
      have k1 := cstep k1 hB
      have k2 := cstep k2 hB
      have x0 := cstep x0 hB
      have x1 := cstep x1 hB
      have x2 := cstep x2 hB
      have ky0 := cstep ky0 hB
      have ky1 := cstep ky1 hB
      have ky2 := cstep ky2 hB
      have X1 := hid (X1.out.mono hB)
      have RY := hid (RY.out.mono hB)
      clear hB HBz5
      go_wp2_with fail
      refine (X46.out _ _ _ HBz6.out X1.out).mono ?_
      rintro e w7 ⟨rfl, hB⟩
      have HBz7 := hid (bstep HBz6.out hB)
      have k0 := cstep k0 hB
      have k1 := cstep k1 hB
      have k2 := cstep k2 hB
      have x0 := cstep x0 hB
      have x1 := cstep x1 hB
      have x2 := cstep x2 hB
      have ky0 := cstep ky0 hB
      have ky1 := cstep ky1 hB
      have ky2 := cstep ky2 hB
      have X1 := hid (X1.out.mono hB)
      have RY := hid (RY.out.mono hB)
      clear hB HBz6
      go_wp2_with fail
      refine (S51.out _ _ Hn1.out _ HBz7.out X1.out).mono ?_
      rintro e w8 ⟨rfl, hB⟩
      have HBz8 := hid (bstep HBz7.out hB)
      have k0 := cstep k0 hB
      have k1 := cstep k1 hB
      have k2 := cstep k2 hB
      have x0 := cstep x0 hB
      have x1 := cstep x1 hB
      have x2 := cstep x2 hB
      have ky0 := cstep ky0 hB
      have ky1 := cstep ky1 hB
      have ky2 := cstep ky2 hB
      have X1 := hid (X1.out.mono hB)
      have RY := hid (RY.out.mono hB)
      clear hB HBz7
      go_wp2_with fail
      refine (F44.out _ _ _ HBz8.out RY.out).mono ?_
      rintro e w9 ⟨rfl, hB⟩
      have HBz9 := hid (bstep HBz8.out hB)
      have k0 := cstep k0 hB
      have k1 := cstep k1 hB
      have k2 := cstep k2 hB
      have x0 := cstep x0 hB
      have x1 := cstep x1 hB
      have x2 := cstep x2 hB
      have ky0 := cstep ky0 hB
      have ky1 := cstep ky1 hB
      have ky2 := cstep ky2 hB
      have X1 := hid (X1.out.mono hB)
      have RY := hid (RY.out.mono hB)
      clear hB HBz8
      go_wp2_with fail
      refine (HW.out _).mono ?_
      rintro e w10 ⟨rfl, hB⟩
      have HBz10 := hid (bstep HBz9.out hB)
      have k0 := cstep k0 hB
      have k1 := cstep k1 hB
      have k2 := cstep k2 hB
      have x0 := cstep x0 hB
      have x1 := cstep x1 hB
      have x2 := cstep x2 hB
      have ky0 := cstep ky0 hB
      have ky1 := cstep ky1 hB
      have ky2 := cstep ky2 hB
      have X1 := hid (X1.out.mono hB)
      have RY := hid (RY.out.mono hB)
      clear hB HBz9
      go_wp2
      go_ret
      exact ⟨rfl, bstep HB0.out HBz10.out⟩
    case pos =>
      obtain ⟨ygf, yz⟩ := fine_true hfy
      obtain ⟨yl1, yl2, yl3⟩ := great_lens ygf
      have yil : ∀ i, i < Y.length → (nthR Y i).1.length ≤ 1000000 := fun i hi => by have := yl3 i hi; omega
      have hvY : Valid f seen Y := valid_of yz yil
      have Y27 := hid fun (a : Option Addr) (c : Nat) (w' : World) (h : Below W0.heap.size W0 w') (hr : RulesAt w' a Y) => verdict_c f sa sc seen a c Y j w' ⟨(hC w' h).s, hr, by omega, by omega, yil⟩ hsnil (by omega)
      have Y46 := hid fun (a : Option Addr) (c : Nat) (w' : World) (h : Below W0.heap.size W0 w') (hr : RulesAt w' a Y) => counted_c sa a sc c f seen Y w' ⟨(hC w' h).s, hr, by omega, by omega, yil⟩
      simp only [(verdict_eq yil).1, (verdict_eq yil).2] at Y27
      rw [hvY.count, hvY.z, show ((0 : Int) == 0) = true from rfl] at Y46
      have hstY := Hv.out.stays hvY (fun _ h => h) HrY.out Hjf.out
      have hmY := Hv.out.count_le hvY (fun _ h => h) HrY.out
      obtain ⟨N3, hN3⟩ : ∃ m, m = (truthsN f seen Y).length := ⟨_, rfl⟩
      rw [← hN3] at Y46 hmY
      rw [← HN1.out] at hmY
      obtain ⟨yn, hyn⟩ : ∃ m, m = rVerdictN (f : Int) seen Y j := ⟨_, rfl⟩
      obtain ⟨ye, hye⟩ : ∃ m, m = rVerdictE (f : Int) seen Y j := ⟨_, rfl⟩
      rw [← hyn, ← hye] at Y27 hstY
      rw [← Hve.out.1, ← Hve.out.2] at hstY
      have S52 := hid fun (a : Option Addr) (c : Nat) (w' : World) (h : Below W0.heap.size W0 w') (hr : RulesAt w' a Y) => (show Calls Try.prog 51 #[.agg #[.int .i64 (f : Int), .slice sa seen.length sc, .slice ra rs.length rc], .agg #[.int .i64 (f : Int), .slice sa seen.length sc, .slice a Y.length c], .int .i64 j] w' (TellB w' true) from
        stays_walk f j vn ve yn ye sa sa ra a sc sc rc c seen.length seen.length rs.length Y.length w' (fun w2 hB => Q27.out w2 (bstep h hB)) (fun w2 hB => Y27.out a c w2 (bstep h hB) (hr.mono hB)) hstY)
      unfold TellB at S52
      rw [hfy] at F44
      have hmf : decide ((N3 : Int) ≤ (N1 : Int)) = true := decide_eq_true (by omega)
      have hmg : decide (N3 ≤ N1) = true := decide_eq_true (by omega)
      clear hN3 hyn hye hstY hmY hvY yil yl1 yl2 yl3 yz ygf hfy Hv HvX Y27 Q27 X27 hC hv hil hl1 hl2 hl3 hz hgf hg hn hk hsnil hrnil hif hjf
      go_enter Try.func11, Try.ntmps11
      go_wp2_with fail
      rw [← HS.out]
      refine HG.out.mono ?_
      rintro e w1 ⟨rfl, hB⟩
      have HB1 := hid hB
      have k0 := cstep c0 hB; have k1 := cstep c1 hB; have k2 := cstep c2 hB
      clear hB c0 c1 c2
      have d0 := cstep d0 HB1.out; have d1 := cstep d1 HB1.out
      go_wp2_with fail
      go_quiet (fail)
      obtain ⟨w2, hw⟩ : ∃ q, q = World.drewN w1 nq := ⟨_, rfl⟩
      have hB : Below w1.heap.size w1 (World.drewN w1 nq) := Go.Joins.below_draws _ _ _
      rw [← hw]
      rw [← hw] at hB
      clear hw
      have HBz2 := hid (bstep HB1.out hB)
      have k0 := cstep k0 hB
      have k1 := cstep k1 hB
      have k2 := cstep k2 hB
      have d0 := cstep d0 hB
      have d1 := cstep d1 hB
      clear hB HB1
      go_wp2_with fail
      refine (Q48.out _ HBz2.out).mono ?_
      rintro e w3 ⟨a1, e1, rfl, hx1, hn1, hB⟩
      have HBz3 := hid (bstep HBz2.out hB)
      have k0 := cstep k0 hB
      have k1 := cstep k1 hB
      have k2 := cstep k2 hB
      have d0 := cstep d0 hB
      have d1 := cstep d1 hB
      have X1 := hid hx1
      clear hB hx1 HBz2
      have Hn1 := hid hn1
      clear hn1
      go_upto_region 5 with (fail)
      obtain ⟨w4, hw4⟩ : ∃ q, q = World.alloc w3 (.cells #[.int .i64 (f : Int), .slice a1 X.length e1, .slice ra rs.length rc] 25) := ⟨_, rfl⟩
      rw [← hw4]
      have hB : Below w3.heap.size w3 w4 := by rw [hw4]; exact bnew _ _
      obtain ⟨x0, x1, x2⟩ := caseBox w3 (f : Int) a1 ra X.length e1 rs.length rc
      rw [← hw4] at x0 x1 x2
      clear hw4
      have HBz4 := hid (bstep HBz3.out hB)
      have k0 := cstep k0 hB
      have k1 := cstep k1 hB
      have k2 := cstep k2 hB
      have d0 := cstep d0 hB
      have d1 := cstep d1 hB
      have X1 := hid (X1.out.mono hB)
      clear hB HBz3
      have HRw := hid (HR.out.mono HBz4.out); have HQw := hid (HQ.out.mono HBz4.out)
      go_cut [12] from 41 to 52 (fun s wc => BoxAtN w4 f sa seen.length sc (rs.length + 1) Y s wc)
      case first =>
        go_region_held3 (fun w' => w'.cell? ⟨w.heap.size, 0, none⟩ = some (.int .i64 (f : Int)) ∧ w'.cell? ⟨w.heap.size, 1, none⟩ = some (.slice sa seen.length sc) ∧ w'.cell? ⟨w.heap.size, 2, none⟩ = some (.slice ra rs.length rc) ∧ w'.cell? ⟨w.heap.size + 1, 0, none⟩ = some (.slice qa q.1.length qc) ∧ w'.cell? ⟨w.heap.size + 1, 1, none⟩ = some (.int .i64 q.2)) (first | exact ⟨k0, k1, k2, d0, d1⟩ | exact ⟨cstep k0 (by with_reducible ((repeat (first | exact Below.refl _ _ | refine Below.drew ?_ | refine bset ?_ | refine bset1 ?_ | refine bset2 ?_ | refine bsetG ?_ (by omega) | refine bstep ?_ (bnew _ _) | (refine bstep ?_ (by assumption)) | assumption)); all_goals fail)), cstep k1 (by with_reducible ((repeat (first | exact Below.refl _ _ | refine Below.drew ?_ | refine bset ?_ | refine bset1 ?_ | refine bset2 ?_ | refine bsetG ?_ (by omega) | refine bstep ?_ (bnew _ _) | (refine bstep ?_ (by assumption)) | assumption)); all_goals fail)), cstep k2 (by with_reducible ((repeat (first | exact Below.refl _ _ | refine Below.drew ?_ | refine bset ?_ | refine bset1 ?_ | refine bset2 ?_ | refine bsetG ?_ (by omega) | refine bstep ?_ (bnew _ _) | (refine bstep ?_ (by assumption)) | assumption)); all_goals fail)), cstep d0 (by with_reducible ((repeat (first | exact Below.refl _ _ | refine Below.drew ?_ | refine bset ?_ | refine bset1 ?_ | refine bset2 ?_ | refine bsetG ?_ (by omega) | refine bstep ?_ (bnew _ _) | (refine bstep ?_ (by assumption)) | assumption)); all_goals fail)), cstep d1 (by with_reducible ((repeat (first | exact Below.refl _ _ | refine Below.drew ?_ | refine bset ?_ | refine bset1 ?_ | refine bset2 ?_ | refine bsetG ?_ (by omega) | refine bstep ?_ (bnew _ _) | (refine bstep ?_ (by assumption)) | assumption)); all_goals fail))⟩ | go_keep)
          (first
            | (refine step_appA _ w4 (by rfl) _ _ (by rfl) _ (by rfl) ra rs.length rc rs (by rfl) HRw.out rfl Hrn.out (by have := Hl18.out; omega) (by with_reducible ((repeat (first | exact naH (by simp) | apply zd | apply za)); all_goals fail)) (by omega) (by with_reducible ((repeat (first | exact Below.refl _ _ | refine Below.drew ?_ | refine bset ?_ | refine bset1 ?_ | refine bset2 ?_ | refine bsetG ?_ (by omega) | refine bstep ?_ (bnew _ _) | (refine bstep ?_ (by assumption)) | assumption)); all_goals fail)) ?_; intro g8 c8 w8 hB8 hown8; have hs8 : w4.heap.size ≤ w8.heap.size := Below.size (show Below w4.heap.size w4 w8 from (by with_reducible ((repeat (first | exact Below.refl _ _ | refine Below.drew ?_ | refine bset ?_ | refine bset1 ?_ | refine bset2 ?_ | refine bsetG ?_ (by omega) | refine bstep ?_ (bnew _ _) | (refine bstep ?_ (by assumption)) | assumption)); all_goals fail))); try (have hz8 : w8.heap[(_ : Nat)]? = some (.cells #[.int .i64 0, .slice none 0 0, .slice none 0 0] 25 (0, 0)) := zb (by with_reducible ((repeat (first | exact naH rfl | apply zd | apply za)); all_goals fail)) hB8; (try simp only [alloc_size, Nat.add_assoc, Nat.reduceAdd] at hz8)))
            | (refine step_appC _ w4 (by rfl) _ _ (by rfl) ⟨g8, 0, none⟩ rs.length c8 rs (by rfl) _ _ (by rfl) qa qc q HQw.out Hqn.out (by have := Hl18.out; omega) (by with_reducible ((repeat (first | exact hown8 | apply OwnRu.al | apply OwnRu.dr)); all_goals fail)) (by with_reducible ((repeat (first | exact naH (by simp) | apply zd | apply za | refine zb ?_ hB8)); all_goals fail)) (by with_reducible ((repeat (first | exact Below.refl _ _ | refine Below.drew ?_ | refine bset ?_ | refine bset1 ?_ | refine bset2 ?_ | refine bsetG ?_ (by omega) | refine bstep ?_ (bnew _ _) | (refine bstep ?_ (by assumption)) | assumption)); all_goals fail)) ?_; intro g9 c9 w9 hB9 hown9 hg9; try (have hz9 : w9.heap[(_ : Nat)]? = some (.cells #[.int .i64 0, .slice none 0 0, .slice none 0 0] 25 (0, 0)) := box_keep2 hg9 (by with_reducible ((repeat (first | exact hz8 | exact naH rfl | apply zd | apply za)); all_goals fail)) (by with_reducible ((repeat (first | exact hown8 | apply OwnRu.al | apply OwnRu.dr)); all_goals fail)); (try simp only [alloc_size] at hz9); have hzf0 := frozen_of_row _ _ 0 _ _ hz9; have hzf1 := frozen_of_row _ _ 1 _ _ hz9; have hzf2 := frozen_of_row _ _ 2 _ _ hz9; obtain ⟨hz0, hz1, hz2⟩ := rowBox hz9)))
        all_goals (
          go_wp2
          go_meet
          rw [HY.out]
          first | exact BoxAtN.new hown9 (by with_reducible ((repeat (first | exact Below.refl _ _ | refine Below.drew ?_ | refine bset ?_ | refine bset1 ?_ | refine bset2 ?_ | refine bsetG ?_ (by omega) | refine bstep ?_ (bnew _ _) | (refine bstep ?_ (by assumption)) | assumption)); all_goals fail)) | exact BoxAtN.put hz9 (by omega) hown9 (by with_reducible ((repeat (first | exact Below.refl _ _ | refine Below.drew ?_ | refine bset ?_ | refine bset1 ?_ | refine bset2 ?_ | refine bsetG ?_ (by omega) | refine bstep ?_ (bnew _ _) | (refine bstep ?_ (by assumption)) | assumption)); all_goals fail)))
      rename World => wA
      obtain ⟨by1, ay, cy, rfl, hry, _, hRy, _, hB⟩ := hcut
      rw [← HYl.out] at hry
      obtain ⟨ky0, ky1, ky2⟩ := rowBox hry
      clear hry HRw HQw d0 d1
      have HBz5 := hid (bstep HBz4.out hB)
      have k0 := cstep k0 hB
      have k1 := cstep k1 hB
      have k2 := cstep k2 hB
      have x0 := cstep x0 hB
      have x1 := cstep x1 hB
      have x2 := cstep x2 hB
      have X1 := hid (X1.out.mono hB)
      have RY := hid hRy
      clear hB hRy HBz4
      go_wp2_with fail
      refine (Q46.out _ HBz5.out).mono ?_
      rintro e w6 ⟨rfl, hB⟩
      have HBz6 := hid (bstep HBz5.out hB)
      have k0 := cstep k0 hB
      have k1 := cstep k1 hB
      have k2 := cstep k2 hB
      have x0 := cstep x0 hB
      have x1 := cstep x1 hB
      have x2 := cstep x2 hB
      have ky0 := cstep ky0 hB
      have ky1 := cstep ky1 hB
      have ky2 := cstep ky2 hB
      have X1 := hid (X1.out.mono hB)
      have RY := hid (RY.out.mono hB)
      clear hB HBz5
      go_wp2_with fail
      refine (X46.out _ _ _ HBz6.out X1.out).mono ?_
      rintro e w7 ⟨rfl, hB⟩
      have HBz7 := hid (bstep HBz6.out hB)
      have k0 := cstep k0 hB
      have k1 := cstep k1 hB
      have k2 := cstep k2 hB
      have x0 := cstep x0 hB
      have x1 := cstep x1 hB
      have x2 := cstep x2 hB
      have ky0 := cstep ky0 hB
      have ky1 := cstep ky1 hB
      have ky2 := cstep ky2 hB
      have X1 := hid (X1.out.mono hB)
      have RY := hid (RY.out.mono hB)
      clear hB HBz6
      go_wp2_with fail
      refine (S51.out _ _ Hn1.out _ HBz7.out X1.out).mono ?_
      rintro e w8 ⟨rfl, hB⟩
      have HBz8 := hid (bstep HBz7.out hB)
      have k0 := cstep k0 hB
      have k1 := cstep k1 hB
      have k2 := cstep k2 hB
      have x0 := cstep x0 hB
      have x1 := cstep x1 hB
      have x2 := cstep x2 hB
      have ky0 := cstep ky0 hB
      have ky1 := cstep ky1 hB
      have ky2 := cstep ky2 hB
      have X1 := hid (X1.out.mono hB)
      have RY := hid (RY.out.mono hB)
      clear hB HBz7
      go_wp2_with fail
      refine (F44.out _ _ _ HBz8.out RY.out).mono ?_
      rintro e w9 ⟨rfl, hB⟩
      have HBz9 := hid (bstep HBz8.out hB)
      have k0 := cstep k0 hB
      have k1 := cstep k1 hB
      have k2 := cstep k2 hB
      have x0 := cstep x0 hB
      have x1 := cstep x1 hB
      have x2 := cstep x2 hB
      have ky0 := cstep ky0 hB
      have ky1 := cstep ky1 hB
      have ky2 := cstep ky2 hB
      have X1 := hid (X1.out.mono hB)
      have RY := hid (RY.out.mono hB)
      clear hB HBz8
      go_wp2_with fail
      refine (Y46.out _ _ _ HBz9.out RY.out).mono ?_
      rintro e w10 ⟨rfl, hB⟩
      have HBz10 := hid (bstep HBz9.out hB)
      have k0 := cstep k0 hB
      have k1 := cstep k1 hB
      have k2 := cstep k2 hB
      have x0 := cstep x0 hB
      have x1 := cstep x1 hB
      have x2 := cstep x2 hB
      have ky0 := cstep ky0 hB
      have ky1 := cstep ky1 hB
      have ky2 := cstep ky2 hB
      have X1 := hid (X1.out.mono hB)
      have RY := hid (RY.out.mono hB)
      clear hB HBz9
      go_wp2_with fail
      refine (S52.out _ _ _ HBz10.out RY.out).mono ?_
      rintro e w11 ⟨rfl, hB⟩
      have HBz11 := hid (bstep HBz10.out hB)
      have k0 := cstep k0 hB
      have k1 := cstep k1 hB
      have k2 := cstep k2 hB
      have x0 := cstep x0 hB
      have x1 := cstep x1 hB
      have x2 := cstep x2 hB
      have ky0 := cstep ky0 hB
      have ky1 := cstep ky1 hB
      have ky2 := cstep ky2 hB
      have X1 := hid (X1.out.mono hB)
      have RY := hid (RY.out.mono hB)
      clear hB HBz10
      go_wp2_with fail
      refine (HW.out _).mono ?_
      rintro e w12 ⟨rfl, hB⟩
      have HBz12 := hid (bstep HBz11.out hB)
      have k0 := cstep k0 hB
      have k1 := cstep k1 hB
      have k2 := cstep k2 hB
      have x0 := cstep x0 hB
      have x1 := cstep x1 hB
      have x2 := cstep x2 hB
      have ky0 := cstep ky0 hB
      have ky1 := cstep ky1 hB
      have ky2 := cstep ky2 hB
      have X1 := hid (X1.out.mono hB)
      have RY := hid (RY.out.mono hB)
      clear hB HBz11
      go_wp2
      go_ret
      exact ⟨rfl, bstep HB0.out HBz12.out⟩

end Go.Proofs.Ytkioejdddmnbmaa
