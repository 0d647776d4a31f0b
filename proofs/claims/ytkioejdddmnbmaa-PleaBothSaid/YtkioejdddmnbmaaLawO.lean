/- Walk: the law PleaBoth, out of the contract of Works. -/
import Derived.Test.YtkioejdddmnbmaaPl
namespace Go.Proofs.Ytkioejdddmnbmaa
open Go.RowKit Go.Shelf

theorem bt_and {a b n : Nat} : bt (a &&& b) n ↔ bt a n ∧ bt b n := by unfold bt; rw [Nat.testBit_and, Bool.and_eq_true]
theorem undrewI {w : World} {a : Option Addr} {xs : List Int} (h : IntsAt w a xs) : IntsAt w.drew a xs := h
/-- the facts of a case with more, by bits -/
def moreB (f : Nat) (seen : List Int) (rs : List Rl) (x : Nat) : Nat := (knownR rs (bitsL seen ||| (x &&& (2 ^ f - 1)))).1
theorem more_in {f : Nat} {seen : List Int} {rs : List Rl} (h : Valid f seen rs) (x : Nat) : bitsL seen ||| (x &&& (2 ^ f - 1)) < 2 ^ f := by
  refine Nat.or_lt_two_pow ?_ ?_
  · exact lt_pow_of fun n hn => h.ok.sl n ((bitsL_test h.ok.s n).1 hn)
  · have : 0 < 2 ^ f := Nat.pow_pos (by omega)
    exact Nat.lt_of_le_of_lt Nat.and_le_right (by omega)
theorem moreB_lt {f : Nat} {seen : List Int} {rs : List Rl} (h : Valid f seen rs) (x : Nat) : moreB f seen rs x < 2 ^ f := by
  refine lt_pow_of fun n hn => ?_
  have := ((knownR_end h.ok.r _).full n).1 hn
  cases this with
  | seen q =>
    refine Classical.byContradiction fun hn => ?_
    have h2 : bitsL seen ||| (x &&& (2 ^ f - 1)) < 2 ^ n := Nat.lt_of_lt_of_le (more_in h x) (Nat.pow_le_pow_right (by omega) (by omega))
    unfold bt at q
    rw [Nat.testBit_lt_two_pow h2] at q; cases q
  | rule hr h0 _ => have := h.ok.rl _ hr; omega
theorem both_truth {f : Nat} {seen : List Int} {rs : List Rl} (h : Valid f seen rs) {a b : Nat} (ha : a ∈ truthsN f seen rs) (hb : b ∈ truthsN f seen rs) : a &&& b ∈ truthsN f seen rs := by
  obtain ⟨a1, a2, a3⟩ := (mem_truthsN h.ok).1 ha
  obtain ⟨b1, b2, b3⟩ := (mem_truthsN h.ok).1 hb
  refine (mem_truthsN h.ok).2 ⟨Nat.lt_of_le_of_lt Nat.and_le_left a1, fun n hn => bt_and.2 ⟨a2 n hn, b2 n hn⟩, fun r hr hx => ?_⟩
  have p := a3 r hr (fun x hm => (bt_and.1 (hx x hm)).1)
  have q := b3 r hr (fun x hm => (bt_and.1 (hx x hm)).2)
  exact ⟨p.1, bt_and.2 ⟨p.2, q.2⟩⟩
/-- the answer of CheckTruth of listed bits -/
theorem listed_truth {f : Nat} {seen : List Int} {rs : List Rl} (h : Valid f seen rs) {a : Nat} (ha : a < 2 ^ f) (hc : ¬ Clsh rs (SeenP seen)) : ∃ t : Bool, truthErr (f : Int) seen rs (listedB a f) = (if t = true then 0 else 24) ∧ (t = true ↔ a ∈ truthsN f seen rs) ∧
    (t = true → ∀ x ∈ listedB (derB seen rs) f, (listedB a f).contains x = true) := by
  have _ := hc
  have hm := h.truth_iff a
  rw [bits_listed_self h.ok.f1 ha] at hm
  refine ⟨truthB seen rs a, ?_, hm, fun ht x hx => ?_⟩
  · rw [h.truth, bits_listed_self h.ok.f1 ha]
  · obtain ⟨n, rfl, hn, _⟩ := mem_listed.1 hx
    obtain ⟨_, h1, h2⟩ := (mem_truthsN h.ok).1 (hm.1 ht)
    rw [List.contains_iff_mem]
    exact mem_listed.2 ⟨n, rfl, hn, (h.least_mem.1 hx).into h1 h2⟩

set_option maxRecDepth 100000 in
set_option maxHeartbeats 8000000 in
theorem both_law (hworks : WorksC) (facts : Int) (sa : Option Addr) (sc : Nat) (seen : List Int) (ra : Option Addr) (rc : Nat) (rs : List Rl) (p q : Nat) (w : World) (hs : IntsAt w sa seen) (hr : RulesAt w ra rs) (hp : p < 65536) (hq : q < 65536) :
    Calls Try.prog 10 #[.agg #[.int .i64 facts, .slice sa seen.length sc, .slice ra rs.length rc], .int .u16 p, .int .u16 q] w (TrueP w) := by
  have HW := hid hworks
  clear hworks
  obtain ⟨W0, hW0⟩ : ∃ W0, W0 = w.alloc (.cells #[.int .i64 facts, .slice sa seen.length sc, .slice ra rs.length rc] 25) := ⟨_, rfl⟩
  have HB0 := hid (show Below w.heap.size w W0 by rw [hW0]; exact bnew w _)
  obtain ⟨c0, c1, c2⟩ := caseBox w facts sa ra seen.length sc rs.length rc
  rw [← hW0] at c0 c1 c2
  have HR := hid (hr.mono HB0.out); have HSn := hid (hs.mono HB0.out)
  have HS := hid hW0
  clear hs hr hW0
  have HG := hid (sound_c sa ra sc rc facts seen rs W0 HSn.out HR.out)
  unfold TellB at HG
  by_cases hg : soundB facts seen rs = true
  case neg =>
    have hgn : soundB facts seen rs = false := by simpa using hg
    rw [hgn] at HG
    clear hg hgn hp hq
    go_enter Try.func10, Try.ntmps10
    go_wp2_with fail
    rw [← HS.out]
    refine HG.out.mono ?_
    rintro e w1 ⟨rfl, hB⟩
    have HB1 := hid (bstep HB0.out hB)
    clear hB
    go_wp2_with fail
    refine (HW.out _).mono ?_
    rintro e w2 ⟨rfl, hB⟩
    have HB2 := hid (bstep HB1.out hB)
    clear hB
    go_wp2
    go_ret
    exact ⟨rfl, HB2.out⟩
  case pos =>
    obtain ⟨hfi, hcl⟩ := sound_true hg
    obtain ⟨hgf, hz⟩ := fine_true hfi
    clear hfi
    obtain ⟨hl1, hl2, hl3⟩ := great_lens hgf
    rw [hg] at HG
    obtain ⟨f, rfl, hf1, hf2⟩ := case_nat hz
    have hil : ∀ i, i < rs.length → (nthR rs i).1.length ≤ 1000000 := fun i hi => by have := hl3 i hi; omega
    have hv : Valid f seen rs := valid_of hz hil
    have hC : ∀ w', Below W0.heap.size W0 w' → CaseAt w' sa ra seen rs := fun w' h => great_case (HSn.out.mono h) (HR.out.mono h) hgf
    have hcl0 := hv.nocl hcl
    have hwp : IntKind.i64.wrap ((p : Nat) : Int) = (p : Int) := wrap_i64_nat (by omega)
    have hwq : IntKind.i64.wrap ((q : Nat) : Int) = (q : Int) := wrap_i64_nat (by omega)
    have hpf : (2 : Nat) ^ f ≤ 4096 := pow_le hf2
    have hpf0 : 0 < (2 : Nat) ^ f := Nat.pow_pos (by omega)
    have hsh := shl_one (f := f) (by omega)
    have hall : IntKind.i64.wrap (((2 ^ f : Nat) : Int) - 1) = ((2 ^ f - 1 : Nat) : Int) := by
      rw [show ((2 ^ f : Nat) : Int) - 1 = ((2 ^ f - 1 : Nat) : Int) by omega]
      exact wrap_i64_nat (by omega)
    have hfI : (f : Int) < 64 := by omega
    have hfN : decide ((f : Int) < 0) = false := decide_eq_false (by omega)
    obtain ⟨A, hA⟩ : ∃ A, A = 2 ^ f - 1 := ⟨_, rfl⟩
    have hsl : bitsL seen < 4096 := bitsTo_lt hv.ok.s seen.length (Nat.le_refl _)
    have hanp := bits_and_i64 (a := p) (b := A) (by omega) (by omega)
    have hanq := bits_and_i64 (a := q) (b := A) (by omega) (by omega)
    have hlp : p &&& A ≤ A := Nat.and_le_right
    have hlq : q &&& A ≤ A := Nat.and_le_right
    have horp := bits_or_i64 (a := bitsL seen) (b := p &&& A) (by omega) (by omega)
    have horq := bits_or_i64 (a := bitsL seen) (b := q &&& A) (by omega) (by omega)
    have hmp := more_in hv p
    have hmq := more_in hv q
    have hAp := moreB_lt hv p
    have hAq := moreB_lt hv q
    rw [← hA] at hmp hmq hall
    rw [show ((2 ^ f : Nat) : Int) = (2 : Int) ^ f by simp] at hall
    have hPd : moreB f seen rs p = (knownR rs (bitsL seen ||| (p &&& A))).1 := by rw [hA]; rfl
    have hQd : moreB f seen rs q = (knownR rs (bitsL seen ||| (q &&& A))).1 := by rw [hA]; rfl
    have K50p := hid fun (w' : World) (h : Below W0.heap.size W0 w') => known_c ra rc rs (bitsL seen ||| (p &&& A)) w' ((hC w' h).r) hv.ok.r (by omega) (by omega)
    have K50q := hid fun (w' : World) (h : Below W0.heap.size W0 w') => known_c ra rc rs (bitsL seen ||| (q &&& A)) w' ((hC w' h).r) hv.ok.r (by omega) (by omega)
    rw [← hPd] at K50p
    rw [← hQd] at K50q
    obtain ⟨cp, hcp⟩ : ∃ c, c = (knownR rs (bitsL seen ||| (p &&& A))).2 := ⟨_, rfl⟩
    obtain ⟨cq, hcq⟩ : ∃ c, c = (knownR rs (bitsL seen ||| (q &&& A))).2 := ⟨_, rfl⟩
    rw [← hcp] at K50p
    rw [← hcq] at K50q
    obtain ⟨sb, hsb⟩ : ∃ s, s = bitsL seen := ⟨_, rfl⟩
    have H49 := hid fun (m : Nat) (w1 : World) (h : Below W0.heap.size W0 w1) => (bits_c sa sc seen (w1.drewN m) (HSn.out.mono (bstep h (Go.Joins.below_draws _ _ _))) (by omega) hv.ok.s).mono fun e w'' h => (⟨h.1, m, h.2⟩ : e = .returned (.int .i64 (bitsL seen)) ∧ ∃ m, w'' = w1.drewN m)
    rw [← hsb] at horp horq K50p K50q H49
    obtain ⟨mp, hmpd⟩ : ∃ s, s = sb ||| (p &&& A) := ⟨_, rfl⟩
    obtain ⟨mq, hmqd⟩ : ∃ s, s = sb ||| (q &&& A) := ⟨_, rfl⟩
    rw [← hmpd] at horp K50p
    rw [← hmqd] at horq K50q
    obtain ⟨a, ha⟩ : ∃ a, a = moreB f seen rs p := ⟨_, rfl⟩
    obtain ⟨b, hb⟩ : ∃ a, a = moreB f seen rs q := ⟨_, rfl⟩
    rw [← ha] at hAp K50p
    rw [← hb] at hAq K50q
    have hAB : a &&& b < 2 ^ f := Nat.lt_of_le_of_lt Nat.and_le_left hAp
    have hand := bits_and_i64 (a := a) (b := b) (by omega) (by omega)
    obtain ⟨t1, ht1, hi1, hx1⟩ := listed_truth hv hAp hcl0
    obtain ⟨t2, ht2, hi2, hx2⟩ := listed_truth hv hAq hcl0
    obtain ⟨t3, ht3, hi3, hx3⟩ := listed_truth hv hAB hcl0
    have h123 : t1 = true → t2 = true → t3 = true := fun q1 q2 => hi3.2 (both_truth hv (hi1.1 q1) (hi2.1 q2))
    obtain ⟨cc, hcc⟩ : ∃ c, c = a &&& b := ⟨_, rfl⟩
    rw [← hcc] at hand hAB ht3 hx3
    have L45a := hid fun (w' : World) => listed_c a f w' (by omega) (by omega)
    have L45b := hid fun (w' : World) => listed_c b f w' (by omega) (by omega)
    have L45c := hid fun (w' : World) => listed_c cc f w' (by omega) (by omega)
    unfold OwnP at L45a L45b L45c
    have hXl : (listedB a f).length ≤ 12 := by have := listed_len a f; omega
    have hYl : (listedB b f).length ≤ 12 := by have := listed_len b f; omega
    have hZl : (listedB cc f).length ≤ 12 := by have := listed_len cc f; omega
    have hMl : (listedB (derB seen rs) f).length ≤ f := listed_len _ _
    have T21a := hid fun (z : Option Addr) (c : Nat) (w' : World) (h : Below W0.heap.size W0 w') (hx : IntsAt w' z (listedB a f)) => checkTruth_c f sa sc seen ra rc rs z c (listedB a f) w' (hC w' h) hx (by omega)
    have T21b := hid fun (z : Option Addr) (c : Nat) (w' : World) (h : Below W0.heap.size W0 w') (hx : IntsAt w' z (listedB b f)) => checkTruth_c f sa sc seen ra rc rs z c (listedB b f) w' (hC w' h) hx (by omega)
    have T21c := hid fun (z : Option Addr) (c : Nat) (w' : World) (h : Below W0.heap.size W0 w') (hx : IntsAt w' z (listedB cc f)) => checkTruth_c f sa sc seen ra rc rs z c (listedB cc f) w' (hC w' h) hx (by omega)
    rw [pTruth_eq hil, ht1] at T21a
    rw [pTruth_eq hil, ht2] at T21b
    rw [pTruth_eq hil, ht3] at T21c
    have Q23 := hid fun (w' : World) (h : Below W0.heap.size W0 w') => least_c f sa sc seen ra rc rs w' (hC w' h)
    rw [(least_eq hil).1, (least_eq hil).2, (hv.leastD hcl0).1, (hv.leastD hcl0).2] at Q23
    unfold ListE at Q23
    obtain ⟨X, hX⟩ : ∃ X, X = listedB a f := ⟨_, rfl⟩
    obtain ⟨Y, hY⟩ : ∃ X, X = listedB b f := ⟨_, rfl⟩
    obtain ⟨Z, hZ⟩ : ∃ X, X = listedB cc f := ⟨_, rfl⟩
    obtain ⟨M, hM⟩ : ∃ X, X = listedB (derB seen rs) f := ⟨_, rfl⟩
    rw [← hX] at L45a T21a hx1 hXl
    rw [← hY] at L45b T21b hYl
    rw [← hZ] at L45c T21c hx3 hZl
    rw [← hM] at Q23 hx1 hx3 hMl
    obtain ⟨e1, he1⟩ : ∃ e : Int, e = (if t1 = true then 0 else 24) := ⟨_, rfl⟩
    obtain ⟨e2, he2⟩ : ∃ e : Int, e = (if t2 = true then 0 else 24) := ⟨_, rfl⟩
    obtain ⟨e3, he3⟩ : ∃ e : Int, e = (if t3 = true then 0 else 24) := ⟨_, rfl⟩
    rw [← he1] at T21a
    rw [← he2] at T21b
    rw [← he3] at T21c
    have KX := hid fun (z : Option Addr) (c : Nat) (x : Int) (w' : World) (hx : IntsAt w' z X) => hasL_c z c X x w' hx (by omega)
    have KZ := hid fun (z : Option Addr) (c : Nat) (x : Int) (w' : World) (hx : IntsAt w' z Z) => hasL_c z c Z x w' hx (by omega)
    have hmM : decide ((f : Int) < (M.length : Int)) = false := decide_eq_false (by omega)
    have hmN : decide (f < M.length) = false := decide_eq_false (by omega)
    have He1 := hid he1; have He2 := hid he2; have He3 := hid he3; have HX1 := hid hx1; have HX3 := hid hx3; have H123 := hid h123; have HMl := hid hMl; have HXl := hid hXl; have HYl := hid hYl; have HZl := hid hZl
    have Hand := hid hand; have Horp := hid horp; have Horq := hid horq; have Hanp := hid hanp; have Hanq := hid hanq
    clear hX hY hZ hM he1 he2 he3 hx1 hx2 hx3 h123 hMl hXl hYl hZl ht1 ht2 ht3 hi1 hi2 hi3 hcc hAp hAq hAB ha hb hmpd hmqd hsb hcp hcq hPd hQd hmp hmq hlp hlq hsl hA hpf hpf0 hp hq hcl0 hcl hC hv hil hl1 hl2 hl3 hz hgf hg
    go_enter Try.func10, Try.ntmps10
    go_wp2_with fail
    rw [← HS.out]
    refine HG.out.mono ?_
    rintro e w1 ⟨rfl, hB⟩
    have HB1 := hid hB
    have k0 := cstep c0 hB; have k1 := cstep c1 hB; have k2 := cstep c2 hB
    clear hB c0 c1 c2
    have hanp := Hanp.out; have hanq := Hanq.out; have horp := Horp.out; have horq := Horq.out; have hand := Hand.out
    go_wp2_with fail
    go_quiet ((go_at_call 49; exact H49.out _ _ HB1.out))
    obtain ⟨W1, hW1⟩ : ∃ W1, W1 = w1.drewN nq := ⟨_, rfl⟩
    have k0 : W1.cell? ⟨w.heap.size, 0, none⟩ = some (.int .i64 (f : Int)) := by rw [hW1]; exact k0
    have k1 : W1.cell? ⟨w.heap.size, 1, none⟩ = some (.slice sa seen.length sc) := by rw [hW1]; exact k1
    have k2 : W1.cell? ⟨w.heap.size, 2, none⟩ = some (.slice ra rs.length rc) := by rw [hW1]; exact k2
    have HBz := hid (show Below W0.heap.size W0 W1 by rw [hW1]; exact bstep HB1.out (Go.Joins.below_draws _ _ _))
    rw [← hW1]
    clear hW1 HB1
    go_wp2_with fail
    refine (K50p.out _ HBz.out).mono ?_
    rintro e wq ⟨rfl, hwq⟩
    rw [hwq]
    clear hwq wq
    go_wp2_with fail
    refine (K50q.out _ HBz.out).mono ?_
    rintro e wq ⟨rfl, hwq⟩
    rw [hwq]
    clear hwq wq
    go_upto_region 6 with (fail)
    go_cut [13, 14, 15] from 57 to 70 (fun a b c wc => ∃ a1 d1 a2 d2 a3 d3, a = .slice a1 X.length d1 ∧ b = .slice a2 Y.length d2 ∧ c = .slice a3 Z.length d3 ∧ IntsAt wc a1 X ∧ IntsAt wc a2 Y ∧ IntsAt wc a3 Z ∧ Below W1.heap.size W1 wc)
    case first =>
      go_region_held3 (fun w' => w'.cell? ⟨w.heap.size, 0, none⟩ = some (.int .i64 (f : Int))) (first | exact cstep k0 (by with_reducible repeat (first | exact Below.refl _ _ | refine Below.drew ?_ | refine bstep ?_ (bnew _ _) | (refine bstep ?_ (by assumption)))) | go_keep)
        (first
          | (go_at_call 45; (with_reducible refine (L45a.out _).mono ?_); rintro e wx1 ⟨a1, d1, rfl, hx1, _, hB1⟩)
          | (go_at_call 45; (with_reducible refine (L45b.out _).mono ?_); rintro e wx2 ⟨a2, d2, rfl, hx2, _, hB2⟩)
          | (go_at_call 45; (with_reducible refine (L45c.out _).mono ?_); rintro e wx3 ⟨a3, d3, rfl, hx3, _, hB3⟩))
      all_goals (
        go_wp2
        go_meet
        exact ⟨a1, d1, a2, d2, a3, d3, rfl, rfl, rfl, (by with_reducible repeat (first | assumption | refine undrewI ?_ | (refine IntsAt.mono ?_ (by assumption)))), (by with_reducible repeat (first | assumption | refine undrewI ?_ | (refine IntsAt.mono ?_ (by assumption)))), (by with_reducible repeat (first | assumption | refine undrewI ?_ | (refine IntsAt.mono ?_ (by assumption)))), (by with_reducible repeat (first | exact Below.refl _ _ | refine Below.drew ?_ | refine bstep ?_ (bnew _ _) | (refine bstep ?_ (by assumption))))⟩)
    obtain ⟨a1, d1, a2, d2, a3, d3, rfl, rfl, rfl, hx1, hx2, hx3, hB⟩ := hcut
    rename World => W2
    have HBz1 := hid (bstep HBz.out hB)
    have k0 := cstep k0 hB
    have k1 := cstep k1 hB
    have k2 := cstep k2 hB
    have X1 := hid hx1
    have X2 := hid hx2
    have X3 := hid hx3
    clear hB hx1 hx2 hx3 HBz
    have S1 := hid fun (w' : World) (h : Below W2.heap.size W2 w') (hx : IntsAt w' a1 X) => T21a.out a1 d1 w' (bstep HBz1.out h) hx
    have S2 := hid fun (w' : World) (h : Below W2.heap.size W2 w') (hx : IntsAt w' a2 Y) => T21b.out a2 d2 w' (bstep HBz1.out h) hx
    have S3 := hid fun (w' : World) (h : Below W2.heap.size W2 w') (hx : IntsAt w' a3 Z) => T21c.out a3 d3 w' (bstep HBz1.out h) hx
    have hx1 := X1.out; have hx2 := X2.out; have hx3 := X3.out
    go_upto_region 7 with (fail)
    go_cut [16, 17, 18] from 71 to 79 (fun a b c wc => a = .int .i64 e1 ∧ b = .int .i64 e2 ∧ c = .int .i64 e3 ∧ Below W2.heap.size W2 wc)
    case first =>
      go_region_held3 (fun w' => w'.cell? ⟨w.heap.size, 0, none⟩ = some (.int .i64 (f : Int)) ∧ w'.cell? ⟨w.heap.size, 1, none⟩ = some (.slice sa seen.length sc) ∧ w'.cell? ⟨w.heap.size, 2, none⟩ = some (.slice ra rs.length rc)) (first | exact ⟨cstep k0 (by with_reducible repeat (first | exact Below.refl _ _ | refine Below.drew ?_ | refine bstep ?_ (bnew _ _) | (refine bstep ?_ (by assumption)))), cstep k1 (by with_reducible repeat (first | exact Below.refl _ _ | refine Below.drew ?_ | refine bstep ?_ (bnew _ _) | (refine bstep ?_ (by assumption)))), cstep k2 (by with_reducible repeat (first | exact Below.refl _ _ | refine Below.drew ?_ | refine bstep ?_ (bnew _ _) | (refine bstep ?_ (by assumption))))⟩ | go_keep)
        (first
          | (go_at_call 21; (with_reducible refine (S1.out _ (by with_reducible repeat (first | exact Below.refl _ _ | refine Below.drew ?_ | refine bstep ?_ (bnew _ _) | (refine bstep ?_ (by assumption)))) (by with_reducible repeat (first | assumption | refine undrewI ?_ | (refine IntsAt.mono ?_ (by assumption))))).mono ?_); rintro e wx1 ⟨rfl, hB1⟩)
          | (go_at_call 21; (with_reducible refine (S2.out _ (by with_reducible repeat (first | exact Below.refl _ _ | refine Below.drew ?_ | refine bstep ?_ (bnew _ _) | (refine bstep ?_ (by assumption)))) (by with_reducible repeat (first | assumption | refine undrewI ?_ | (refine IntsAt.mono ?_ (by assumption))))).mono ?_); rintro e wx2 ⟨rfl, hB2⟩)
          | (go_at_call 21; (with_reducible refine (S3.out _ (by with_reducible repeat (first | exact Below.refl _ _ | refine Below.drew ?_ | refine bstep ?_ (bnew _ _) | (refine bstep ?_ (by assumption)))) (by with_reducible repeat (first | assumption | refine undrewI ?_ | (refine IntsAt.mono ?_ (by assumption))))).mono ?_); rintro e wx3 ⟨rfl, hB3⟩))
      all_goals (
        go_wp2
        go_meet
        exact ⟨rfl, rfl, rfl, (by with_reducible repeat (first | exact Below.refl _ _ | refine Below.drew ?_ | refine bstep ?_ (bnew _ _) | (refine bstep ?_ (by assumption))))⟩)
    obtain ⟨rfl, rfl, rfl, hB⟩ := hcut
    rename World => W3
    clear hx1 hx2 hx3 S1 S2 S3
    have HBz2 := hid (bstep HBz1.out hB)
    have k0 := cstep k0 hB
    have k1 := cstep k1 hB
    have k2 := cstep k2 hB
    have X1 := hid (X1.out.mono hB)
    have X2 := hid (X2.out.mono hB)
    have X3 := hid (X3.out.mono hB)
    clear hB HBz1
    go_wp2_with fail
    refine (Q23.out _ HBz2.out).mono ?_
    rintro e w3 ⟨a4, d4, rfl, hx4, _, hB⟩
    have HBz3 := hid (bstep HBz2.out hB)
    have k0 := cstep k0 hB
    have k1 := cstep k1 hB
    have k2 := cstep k2 hB
    have X1 := hid (X1.out.mono hB)
    have X2 := hid (X2.out.mono hB)
    have X3 := hid (X3.out.mono hB)
    have X4 := hid hx4
    clear hB hx4 HBz2
    have he1 := He1.out; have he2 := He2.out; have he3 := He3.out
    clear He1 He2 He3
    cases t1 with
    | true =>
      obtain rfl : e1 = 0 := he1
      cases t2 with
      | true =>
        obtain rfl : e2 = 0 := he2
        cases t3 with
        | true =>
          obtain rfl : e3 = 0 := he3
          go_wp2
          go_loop [21] (fun i => ∃ k : Nat, k ≤ M.length ∧ i = .int .i64 k) (fun i => M.length - (intOf i).toNat)
          case atStart => exact ⟨0, Nat.zero_le _, rfl⟩
          case round =>
            obtain ⟨k, hk, rfl⟩ := hrel
            have hMf := HMl.out
            by_cases hlt : k < M.length
            case pos =>
              obtain ⟨b, off, rfl, hc⟩ := X4.out.at hlt
              have R1 := hid fun (w' : World) (hx : IntsAt w' a1 X) => (show Calls Try.prog 36 #[.slice a1 X.length d1, .int .i64 (nth M k)] w' (fun e w'' => e = .returned (.bool true) ∧ w'' = w') from by
                have h := KX.out a1 d1 (nth M k) w' hx
                rw [any_contains, HX1.out (by first | rfl | trivial) _ (nth_mem hlt)] at h; exact h)
              have R3 := hid fun (w' : World) (hx : IntsAt w' a3 Z) => (show Calls Try.prog 36 #[.slice a3 Z.length d3, .int .i64 (nth M k)] w' (fun e w'' => e = .returned (.bool true) ∧ w'' = w') from by
                have h := KZ.out a3 d3 (nth M k) w' hx
                rw [any_contains, HX3.out (by first | rfl | trivial) _ (nth_mem hlt)] at h; exact h)
              go_wp2_with fail
              refine (R1.out _ X1.out).mono ?_
              rintro e wq ⟨rfl, rfl⟩
              go_wp2_with fail
              refine (R3.out _ X3.out).mono ?_
              rintro e wq ⟨rfl, rfl⟩
              go_wp2
              go_round
              case rel => exact ⟨k + 1, by omega, by go_num⟩
              case measure => simp [intOf]; omega
            case neg =>
              obtain rfl : k = M.length := by omega
              go_wp2_with fail
              refine (HW.out _).mono ?_
              rintro e w4 ⟨rfl, hB⟩
              have HBz4 := hid (bstep HBz3.out hB)
              have k0 := cstep k0 hB
              have k1 := cstep k1 hB
              have k2 := cstep k2 hB
              have X1 := hid (X1.out.mono hB)
              have X2 := hid (X2.out.mono hB)
              have X3 := hid (X3.out.mono hB)
              have X4 := hid (X4.out.mono hB)
              clear hB HBz3
              go_wp2
              go_ret
              exact ⟨rfl, bstep HB0.out HBz4.out⟩
        | false =>
          exact absurd (H123.out rfl rfl) (by decide)
      | false =>
        obtain rfl : e2 = 24 := he2
        cases t3 with
        | true =>
          obtain rfl : e3 = 0 := he3
          go_wp2
          go_loop [21] (fun i => ∃ k : Nat, k ≤ M.length ∧ i = .int .i64 k) (fun i => M.length - (intOf i).toNat)
          case atStart => exact ⟨0, Nat.zero_le _, rfl⟩
          case round =>
            obtain ⟨k, hk, rfl⟩ := hrel
            have hMf := HMl.out
            by_cases hlt : k < M.length
            case pos =>
              obtain ⟨b, off, rfl, hc⟩ := X4.out.at hlt
              have R1 := hid fun (w' : World) (hx : IntsAt w' a1 X) => (show Calls Try.prog 36 #[.slice a1 X.length d1, .int .i64 (nth M k)] w' (fun e w'' => e = .returned (.bool true) ∧ w'' = w') from by
                have h := KX.out a1 d1 (nth M k) w' hx
                rw [any_contains, HX1.out (by first | rfl | trivial) _ (nth_mem hlt)] at h; exact h)
              have R3 := hid fun (w' : World) (hx : IntsAt w' a3 Z) => (show Calls Try.prog 36 #[.slice a3 Z.length d3, .int .i64 (nth M k)] w' (fun e w'' => e = .returned (.bool true) ∧ w'' = w') from by
                have h := KZ.out a3 d3 (nth M k) w' hx
                rw [any_contains, HX3.out (by first | rfl | trivial) _ (nth_mem hlt)] at h; exact h)
              go_wp2_with fail
              refine (R1.out _ X1.out).mono ?_
              rintro e wq ⟨rfl, rfl⟩
              go_wp2_with fail
              refine (R3.out _ X3.out).mono ?_
              rintro e wq ⟨rfl, rfl⟩
              go_wp2
              go_round
              case rel => exact ⟨k + 1, by omega, by go_num⟩
              case measure => simp [intOf]; omega
            case neg =>
              obtain rfl : k = M.length := by omega
              go_wp2_with fail
              refine (HW.out _).mono ?_
              rintro e w4 ⟨rfl, hB⟩
              have HBz4 := hid (bstep HBz3.out hB)
              have k0 := cstep k0 hB
              have k1 := cstep k1 hB
              have k2 := cstep k2 hB
              have X1 := hid (X1.out.mono hB)
              have X2 := hid (X2.out.mono hB)
              have X3 := hid (X3.out.mono hB)
              have X4 := hid (X4.out.mono hB)
              clear hB HBz3
              go_wp2
              go_ret
              exact ⟨rfl, bstep HB0.out HBz4.out⟩
        | false =>
          obtain rfl : e3 = 24 := he3
          go_wp2
          go_loop [21] (fun i => ∃ k : Nat, k ≤ M.length ∧ i = .int .i64 k) (fun i => M.length - (intOf i).toNat)
          case atStart => exact ⟨0, Nat.zero_le _, rfl⟩
          case round =>
            obtain ⟨k, hk, rfl⟩ := hrel
            have hMf := HMl.out
            by_cases hlt : k < M.length
            case pos =>
              obtain ⟨b, off, rfl, hc⟩ := X4.out.at hlt
              have R1 := hid fun (w' : World) (hx : IntsAt w' a1 X) => (show Calls Try.prog 36 #[.slice a1 X.length d1, .int .i64 (nth M k)] w' (fun e w'' => e = .returned (.bool true) ∧ w'' = w') from by
                have h := KX.out a1 d1 (nth M k) w' hx
                rw [any_contains, HX1.out (by first | rfl | trivial) _ (nth_mem hlt)] at h; exact h)
              go_wp2_with fail
              refine (R1.out _ X1.out).mono ?_
              rintro e wq ⟨rfl, rfl⟩
              go_wp2
              go_round
              case rel => exact ⟨k + 1, by omega, by go_num⟩
              case measure => simp [intOf]; omega
            case neg =>
              obtain rfl : k = M.length := by omega
              go_wp2_with fail
              refine (HW.out _).mono ?_
              rintro e w4 ⟨rfl, hB⟩
              have HBz4 := hid (bstep HBz3.out hB)
              have k0 := cstep k0 hB
              have k1 := cstep k1 hB
              have k2 := cstep k2 hB
              have X1 := hid (X1.out.mono hB)
              have X2 := hid (X2.out.mono hB)
              have X3 := hid (X3.out.mono hB)
              have X4 := hid (X4.out.mono hB)
              clear hB HBz3
              go_wp2
              go_ret
              exact ⟨rfl, bstep HB0.out HBz4.out⟩
    | false =>
      obtain rfl : e1 = 24 := he1
      cases t2 with
      | true =>
        obtain rfl : e2 = 0 := he2
        cases t3 with
        | true =>
          obtain rfl : e3 = 0 := he3
          go_wp2
          go_loop [21] (fun i => ∃ k : Nat, k ≤ M.length ∧ i = .int .i64 k) (fun i => M.length - (intOf i).toNat)
          case atStart => exact ⟨0, Nat.zero_le _, rfl⟩
          case round =>
            obtain ⟨k, hk, rfl⟩ := hrel
            have hMf := HMl.out
            by_cases hlt : k < M.length
            case pos =>
              obtain ⟨b, off, rfl, hc⟩ := X4.out.at hlt
              have R3 := hid fun (w' : World) (hx : IntsAt w' a3 Z) => (show Calls Try.prog 36 #[.slice a3 Z.length d3, .int .i64 (nth M k)] w' (fun e w'' => e = .returned (.bool true) ∧ w'' = w') from by
                have h := KZ.out a3 d3 (nth M k) w' hx
                rw [any_contains, HX3.out (by first | rfl | trivial) _ (nth_mem hlt)] at h; exact h)
              go_wp2_with fail
              refine (R3.out _ X3.out).mono ?_
              rintro e wq ⟨rfl, rfl⟩
              go_wp2
              go_round
              case rel => exact ⟨k + 1, by omega, by go_num⟩
              case measure => simp [intOf]; omega
            case neg =>
              obtain rfl : k = M.length := by omega
              go_wp2_with fail
              refine (HW.out _).mono ?_
              rintro e w4 ⟨rfl, hB⟩
              have HBz4 := hid (bstep HBz3.out hB)
              have k0 := cstep k0 hB
              have k1 := cstep k1 hB
              have k2 := cstep k2 hB
              have X1 := hid (X1.out.mono hB)
              have X2 := hid (X2.out.mono hB)
              have X3 := hid (X3.out.mono hB)
              have X4 := hid (X4.out.mono hB)
              clear hB HBz3
              go_wp2
              go_ret
              exact ⟨rfl, bstep HB0.out HBz4.out⟩
        | false =>
          obtain rfl : e3 = 24 := he3
          go_wp2
          go_loop [21] (fun i => ∃ k : Nat, k ≤ M.length ∧ i = .int .i64 k) (fun i => M.length - (intOf i).toNat)
          case atStart => exact ⟨0, Nat.zero_le _, rfl⟩
          case round =>
            obtain ⟨k, hk, rfl⟩ := hrel
            have hMf := HMl.out
            by_cases hlt : k < M.length
            case pos =>
              obtain ⟨b, off, rfl, hc⟩ := X4.out.at hlt
              go_wp2
              go_round
              case rel => exact ⟨k + 1, by omega, by go_num⟩
              case measure => simp [intOf]; omega
            case neg =>
              obtain rfl : k = M.length := by omega
              go_wp2_with fail
              refine (HW.out _).mono ?_
              rintro e w4 ⟨rfl, hB⟩
              have HBz4 := hid (bstep HBz3.out hB)
              have k0 := cstep k0 hB
              have k1 := cstep k1 hB
              have k2 := cstep k2 hB
              have X1 := hid (X1.out.mono hB)
              have X2 := hid (X2.out.mono hB)
              have X3 := hid (X3.out.mono hB)
              have X4 := hid (X4.out.mono hB)
              clear hB HBz3
              go_wp2
              go_ret
              exact ⟨rfl, bstep HB0.out HBz4.out⟩
      | false =>
        obtain rfl : e2 = 24 := he2
        cases t3 with
        | true =>
          obtain rfl : e3 = 0 := he3
          go_wp2
          go_loop [21] (fun i => ∃ k : Nat, k ≤ M.length ∧ i = .int .i64 k) (fun i => M.length - (intOf i).toNat)
          case atStart => exact ⟨0, Nat.zero_le _, rfl⟩
          case round =>
            obtain ⟨k, hk, rfl⟩ := hrel
            have hMf := HMl.out
            by_cases hlt : k < M.length
            case pos =>
              obtain ⟨b, off, rfl, hc⟩ := X4.out.at hlt
              have R3 := hid fun (w' : World) (hx : IntsAt w' a3 Z) => (show Calls Try.prog 36 #[.slice a3 Z.length d3, .int .i64 (nth M k)] w' (fun e w'' => e = .returned (.bool true) ∧ w'' = w') from by
                have h := KZ.out a3 d3 (nth M k) w' hx
                rw [any_contains, HX3.out (by first | rfl | trivial) _ (nth_mem hlt)] at h; exact h)
              go_wp2_with fail
              refine (R3.out _ X3.out).mono ?_
              rintro e wq ⟨rfl, rfl⟩
              go_wp2
              go_round
              case rel => exact ⟨k + 1, by omega, by go_num⟩
              case measure => simp [intOf]; omega
            case neg =>
              obtain rfl : k = M.length := by omega
              go_wp2_with fail
              refine (HW.out _).mono ?_
              rintro e w4 ⟨rfl, hB⟩
              have HBz4 := hid (bstep HBz3.out hB)
              have k0 := cstep k0 hB
              have k1 := cstep k1 hB
              have k2 := cstep k2 hB
              have X1 := hid (X1.out.mono hB)
              have X2 := hid (X2.out.mono hB)
              have X3 := hid (X3.out.mono hB)
              have X4 := hid (X4.out.mono hB)
              clear hB HBz3
              go_wp2
              go_ret
              exact ⟨rfl, bstep HB0.out HBz4.out⟩
        | false =>
          obtain rfl : e3 = 24 := he3
          go_wp2
          go_loop [21] (fun i => ∃ k : Nat, k ≤ M.length ∧ i = .int .i64 k) (fun i => M.length - (intOf i).toNat)
          case atStart => exact ⟨0, Nat.zero_le _, rfl⟩
          case round =>
            obtain ⟨k, hk, rfl⟩ := hrel
            have hMf := HMl.out
            by_cases hlt : k < M.length
            case pos =>
              obtain ⟨b, off, rfl, hc⟩ := X4.out.at hlt
              go_wp2
              go_round
              case rel => exact ⟨k + 1, by omega, by go_num⟩
              case measure => simp [intOf]; omega
            case neg =>
              obtain rfl : k = M.length := by omega
              go_wp2_with fail
              refine (HW.out _).mono ?_
              rintro e w4 ⟨rfl, hB⟩
              have HBz4 := hid (bstep HBz3.out hB)
              have k0 := cstep k0 hB
              have k1 := cstep k1 hB
              have k2 := cstep k2 hB
              have X1 := hid (X1.out.mono hB)
              have X2 := hid (X2.out.mono hB)
              have X3 := hid (X3.out.mono hB)
              have X4 := hid (X4.out.mono hB)
              clear hB HBz3
              go_wp2
              go_ret
              exact ⟨rfl, bstep HB0.out HBz4.out⟩

end Go.Proofs.Ytkioejdddmnbmaa
