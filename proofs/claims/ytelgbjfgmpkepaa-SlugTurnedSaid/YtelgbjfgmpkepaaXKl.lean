/- The law SlugTurned. -/
import Derived.Test.YtelgbjfgmpkepaaXQj
import Derived.Test.YtelgbjfgmpkepaaXHr
import Derived.Test.YtelgbjfgmpkepaaXIb
import Derived.Test.YtelgbjfgmpkepaaKS
namespace Go.Proofs.Ytelgbjfgmpkepaa
open Go.RowKit Go.Shelf

def nzr8 : List (Nat × Tmp) := [(2, 202), (3, 203), (7, 207), (8, 208), (14, 214), (15, 215), (19, 219), (20, 220)]
def dpr8 (i : Nat) : List Nat := if i = 3 then [2] else if i = 4 then [3] else if i = 8 then [7] else if i = 9 then [8] else if i = 15 then [14] else if i = 16 then [15] else if i = 20 then [19] else if i = 21 then [20] else []
def Φr8 (p q : List Int) (i : Nat) (_ : List Value) (v : Value) (_ w : World) : Prop := if i = 2 then RowsV [p] v w else if i = 3 then RowsV [p] v w else if i = 7 then RowsV [q] v w else if i = 8 then RowsV [q] v w else if i = 14 then RowsV [p] v w else if i = 15 then RowsV [p] v w else if i = 19 then RowsV [p] v w else if i = 20 then RowsV [p] v w else True
theorem bi_ne {w : World} {b o : Nat} {xs : List Int} {x y : Value} (h : BI w b xs) (hv : V2At w o 24 x y) : b ≠ o := by
  rintro rfl
  unfold BI at h
  unfold V2At at hv
  rw [h] at hv
  simp at hv
theorem al3 (w : World) (a b c : Obj) : (((w.alloc a).alloc b).alloc c).drew.heap[w.heap.size]? = some a ∧ (((w.alloc a).alloc b).alloc c).drew.heap[w.heap.size + 1]? = some b ∧ (((w.alloc a).alloc b).alloc c).drew.heap[w.heap.size + 1 + 1]? = some c ∧ Below w.heap.size w (((w.alloc a).alloc b).alloc c).drew := by
  have s1 : (w.alloc a).heap.size = w.heap.size + 1 := by simp
  have s2 : ((w.alloc a).alloc b).heap.size = w.heap.size + 1 + 1 := by simp
  have h0 := heap_alloc_new w a
  have h1 := heap_alloc_new (w.alloc a) b
  have h2 := heap_alloc_new ((w.alloc a).alloc b) c
  rw [s1] at h1
  rw [s2] at h2
  have b1 := bnew (w.alloc a) b
  have b2 := bnew ((w.alloc a).alloc b) c
  exact ⟨(b2.block _ (by omega)).trans ((b1.block _ (by omega)).trans h0), (b2.block _ (by omega)).trans h1, h2, (bstep (bstep (bnew w a) b1) b2).drew⟩
theorem lit_one (w : World) (v : Int) (b : Nat) (hb : b = w.heap.size) : IntsAt (w.alloc (.cells #[.int .i64 v] 3)) (some ⟨b, 0, none⟩) [v] := intsAt_new w [v] b 3 hb
theorem intv_ne (x : Int) (xs : List Int) : intv (x :: xs) ≠ [] := by simp [intv]
section
variable (ka : Option Addr) (kc : Nat) (K : Kn) (more : Nat) (ba : Option Addr) (bc : Nat) (bs : List Nat) (which : Nat) (w : World)
set_option maxRecDepth 100000 in
set_option maxHeartbeats 200000000 in
theorem slugTurned_c (hworks : WorksC) (hk : KnAt w ka K) (hmore : more < 256) (hb : BytesAt w ba bs) (hwh : which < 256) : Calls Try.prog 11 #[.agg #[.slice ka K.cop.length kc, .bool K.none], .int .u8 (more : Int), .slice ba bs.length bc, .int .u8 (which : Int)] w (TellB w true) := by
  have HW := hid hworks
  obtain ⟨V, hV, hB0, k0, k1⟩ := box1 w (.slice ka K.cop.length kc) (.bool K.none) 24
  have hkV := hk.mono hB0
  have HB0 := hid hB0; have HV := hid hV; have HV0 := hid (Below.refl V.heap.size V)
  have K0 := hid k0; have K1 := hid k1
  have hbV := hb.mono hB0
  have HF := hid (fine_any ka kc K V hkV)
  unfold WorksC TellB at *
  by_cases hf : knErr K = 0
  · rw [decide_eq_true hf] at HF
    by_cases h100 : 100 < bs.length
    · have b1 : (100 : Int) < (bs.length : Int) := by omega
      clear hworks hk hV hB0 hkV hf hb hbV h100
      go_enter Try.func11, Try.ntmps11
      go_upto_region 1 with (fail)
      rw [← HV.out]
      go_wp2_with fail
      refine (HF.out).mono ?_
      rintro e w1 ⟨rfl, hB⟩
      have HB1 := hid (bstep HV0.out hB)
      clear hB
      go_wp2_with fail
      refine (HW.out _).mono ?_
      rintro e w2 ⟨rfl, hB⟩
      have HB2 := hid (bstep HB1.out hB)
      clear hB
      go_wp2
      go_ret
      exact ⟨rfl, bstep HB0.out HB2.out⟩
    · have b1 : ¬ (100 : Int) < (bs.length : Int) := by omega
      have hok := kok_iff.1 hf
      have hn12 := hok.n12
      have hn1 := hok.n1
      obtain ⟨s, hs⟩ : ∃ s, s = more % K.cop.length := ⟨_, rfl⟩
      have hsl : s < K.cop.length := by rw [hs]; exact Nat.mod_lt _ (by omega)
      have hpos := cases_pos hok
      have hlen := casesOf_len K
      obtain ⟨L, hL⟩ : ∃ L, L = casesOf K := ⟨_, rfl⟩
      rw [← hL] at hpos hlen
      obtain ⟨m, hm⟩ : ∃ m, m = L.length := ⟨_, rfl⟩
      obtain ⟨j, hj⟩ : ∃ j, j = which % m := ⟨_, rfl⟩
      have hjl : j < m := by rw [hj]; exact Nat.mod_lt _ (by omega)
      obtain ⟨x, y, hxy, hmem⟩ : ∃ x y, nthP L j = (x, y) ∧ (x, y) ∈ casesOf K := ⟨(nthP L j).1, (nthP L j).2, rfl, by rw [← hL]; exact nthP_mem (by omega)⟩
      have hcok := casesOf_ok hok.cop _ hmem
      have hlk := laid_ok K.cop.length bs
      obtain ⟨ra1, ra2, rb1, rb2, rc1, rc2, cp1, cp2⟩ := turned_law hok bs hmem
      obtain ⟨p, hp⟩ : ∃ p, p = laidL K.cop.length bs := ⟨_, rfl⟩
      have hpl : p.length = K.cop.length := by rw [hp]; exact laidL_len ..
      rw [← hp] at hlk ra1 ra2 rb1 rb2 rc1 rc2 cp1 cp2
      obtain ⟨r, hr⟩ : ∃ r, r = resVal K p (x, y) := ⟨_, rfl⟩
      rw [← hr] at ra2 rb2 rc2
      obtain ⟨E, hE⟩ : ∃ E, E = cpErr K [p] := ⟨_, rfl⟩
      rw [← hE] at cp1 cp2
      obtain ⟨fe, fv⟩ := flip_ne hok
      obtain ⟨v1, hv1⟩ : ∃ v, v = neVal K := ⟨_, rfl⟩
      obtain ⟨v2, hv2⟩ : ∃ v, v = neErr K := ⟨_, rfl⟩
      rw [← hv1] at fv
      rw [← hv2] at fe
      have H49 := hid fun (w' : World) (h : Below V.heap.size V w') => laid_own K.cop.length ba bc bs w' (by omega) (hbV.mono h) (by omega)
      have H38 := hid fun (w' : World) (h : Below V.heap.size V w') => needed_38 ka kc K w' (hkV.mono h) (by omega)
      have H38x := hid fun (xa : Option Addr) (X : List Int) (w' : World) (hX : IntsAt w' xa X) (hl : X.length = K.cop.length) (hr : ∀ k, k < K.cop.length → nth X ((k + s) % K.cop.length) = nth K.cop k) => (show Calls Try.prog 38 #[.agg #[.slice xa K.cop.length K.cop.length, .bool K.none]] w' (TellIE w' v1 v2) from by
        have h := needed_38 xa K.cop.length ⟨X, K.none⟩ w' hX (by show X.length ≤ 1000000; omega)
        obtain ⟨h1, h2⟩ := turn_ne (X := ⟨X, K.none⟩) hok rfl hl hsl hr
        rw [h1, h2, ← hv1, ← hv2] at h
        rw [← hl]
        rw [← hl] at h
        exact h)
      have H38y := hid fun (ya : Option Addr) (yc : Nat) (w' : World) (hY : IntsAt w' ya (flipK K).cop) => (show Calls Try.prog 38 #[.agg #[.slice ya K.cop.length yc, .bool K.none]] w' (TellIE w' v1 v2) from by
        have h := needed_38 ya yc (flipK K) w' hY (by rw [flipK_len]; omega)
        rw [fe, fv, flipK_len] at h
        exact h)
      have H46 := hid fun (w' : World) (h : Below V.heap.size V w') => casesOf_c ka kc K w' (hkV.mono h) (by omega) hok.cop
      have H22a := hid fun (qa : Option Addr) (qc : Nat) (w' : World) (h : Below V.heap.size V w') (hq : IntsAt w' qa p) (hqn : qa = none → qc = 0) => result_22 ka kc K qa qc p (x, y) w' (hkV.mono h) (by omega) hq (by omega) hqn
      have H22b := hid fun (qa : Option Addr) (qc : Nat) (w' : World) (h : Below V.heap.size V w') (hq : IntsAt w' qa (negL p)) (hqn : qa = none → qc = 0) => result_22 ka kc K qa qc (negL p) (x, y) w' (hkV.mono h) (by omega) hq (by rw [negL_len]; omega) hqn
      have H22c := hid fun (ya : Option Addr) (yc : Nat) (qa : Option Addr) (qc : Nat) (w' : World) (hY : IntsAt w' ya (flipK K).cop) (hq : IntsAt w' qa p) (hqn : qa = none → qc = 0) => result_22 ya yc (flipK K) qa qc p (otherC (x, y)) w' hY (by rw [flipK_len]; omega) hq (by omega) hqn
      have hl1 : ∀ q : List Int, q.length = K.cop.length → ∀ z ∈ [q], z.length ≤ 1000000 := fun q hq z hz => by rw [List.mem_singleton] at hz; subst hz; omega
      have H34a := hid fun (pa : Option Addr) (w' : World) (h : Below V.heap.size V w') (hp : RowsAt w' pa [p]) => checkPlan_c ka kc K pa 1 [p] w' (hkV.mono h) (by omega) hp (by simp) (hl1 p hpl)
      have H34b := hid fun (pa : Option Addr) (w' : World) (h : Below V.heap.size V w') (hp : RowsAt w' pa [negL p]) => checkPlan_c ka kc K pa 1 [negL p] w' (hkV.mono h) (by omega) hp (by simp) (hl1 _ (by rw [negL_len]; exact hpl))
      have H34c := hid fun (ya : Option Addr) (yc : Nat) (pa : Option Addr) (w' : World) (hY : IntsAt w' ya (flipK K).cop) (hp : RowsAt w' pa [p]) => checkPlan_c ya yc (flipK K) pa 1 [p] w' hY (by rw [flipK_len]; omega) hp (by simp) (hl1 p hpl)
      rw [ra1, ← hr] at H22a
      rw [rb1, rb2, negL_len] at H22b
      rw [rc1, rc2, flipK_len] at H22c
      rw [← hE] at H34a
      rw [cp1] at H34b
      rw [cp2, flipK_len] at H34c
      rw [← hv1, ← hv2] at H38
      rw [← hp] at H49
      rw [show (flipK K).none = K.none from rfl] at H22c H34c
      simp only [List.length_cons, List.length_nil, Nat.zero_add] at H34a H34b H34c
      unfold TellIE at H38 H38x H38y H22a H22b H22c
      unfold TellI at H34a H34b H34c
      unfold ListC at H46
      unfold LaidC at H49
      rw [← hL, ← hm] at H46
      rw [hpl] at H49 H22a H22b H22c
      have Hkd := hid fun k (h : k < K.cop.length) => hok.cop k h
      have Hpd := hid fun k (h : k < K.cop.length) => hlk.2 k h
      have HYn := hid fun k (h : k < K.cop.length) => (show (flipK K).cop.take (k + 1) = (flipK K).cop.take k ++ [flipV (nth K.cop k)] by rw [take_succ_nth (by rw [flipK_len]; exact h), flipK_nth h])
      have HQn := hid fun k (h : k < K.cop.length) => (show (negL p).take (k + 1) = (negL p).take k ++ [-nth p k] by rw [take_succ_nth (by rw [negL_len]; omega), negL_nth])
      have HYl := hid (flipK_len K); have HQl := hid (show (negL p).length = K.cop.length by rw [negL_len]; exact hpl); have Hpl := hid hpl
      have HkV := hid hkV
      have Hc := hid hcok; have Hxy := hid hxy
      have Hjl := hid hjl; have Hm := hid hm
      have Hr2 := hid ra2
      have e1 : IntKind.i64.wrap (which : Int) = (which : Int) := wrap_i64_of (by omega) (by omega)
      have e2 : (which : Int).tmod (m : Int) = (j : Int) := by rw [hj]; exact tmod_nat _ _
      have e2b : (which : Int) % (m : Int) = (j : Int) := by rw [hj]; omega
      have hm0 : ¬ (m : Int) = 0 := by omega
      have hm1 : ((m : Int) == 0) = false := by simpa using (show ¬ m = 0 by omega)
      have hjI : (j : Int) < (m : Int) := by omega
      have HeW := hid (And.intro e1 (And.intro e2 (And.intro e2b (And.intro hm0 (And.intro hm1 hjI)))))
      have g1 : IntKind.i64.wrap (more : Int) = (more : Int) := wrap_i64_of (by omega) (by omega)
      have g2 : (more : Int).tmod (K.cop.length : Int) = (s : Int) := by rw [hs]; exact tmod_nat _ _
      have g2b : (more : Int) % (K.cop.length : Int) = (s : Int) := by rw [hs]; omega
      have g3 : ¬ (K.cop.length : Int) = 0 := by omega
      have g4 : ((K.cop.length : Int) == 0) = false := by simpa using (show ¬ K.cop.length = 0 by omega)
      obtain ⟨n0, hn0⟩ : ∃ n, n = K.cop.length := ⟨_, rfl⟩
      obtain ⟨nn, hnn⟩ : ∃ b, b = K.none := ⟨_, rfl⟩
      rw [← hn0] at g2 g2b g3 g4 k0 K0 HF HV H49 H38 H38x H38y H46 H22a H22b H22c H34a H34b H34c Hkd Hpd HYn HQn HYl HQl Hpl
      rw [← hnn] at k1 K1 HF HV H38 H38x H38y H46 H22a H22b H22c H34a H34b H34c
      rw [← hn0, ← hnn]
      have HgW := hid (And.intro g1 (And.intro g2 (And.intro g2b (And.intro g3 g4))))
      have Hn12 := hid (show n0 ≤ 12 by omega); have Hn1 := hid (show 1 ≤ n0 by omega); have Hs := hid (show s < n0 by omega); have Hn0 := hid hn0
      obtain ⟨Y, hY⟩ : ∃ Y, Y = (flipK K).cop := ⟨_, rfl⟩
      obtain ⟨Qn, hQ⟩ : ∃ Q, Q = negL p := ⟨_, rfl⟩
      rw [← hY] at H38y H22c H34c HYn HYl
      rw [← hQ] at H22b H34b HQn HQl
      obtain ⟨x', y', hoc⟩ : ∃ x' y', otherC (x, y) = (x', y') := ⟨_, _, rfl⟩
      have Hoc := hid hoc
      rw [hoc] at H22c
      clear hworks hk hV hB0 hkV hf hb hbV h100 hok hn12 hn1 hs hsl hpos hlen hL hm hj hjl hxy hmem hcok hlk ra1 ra2 rb1 rb2 rc1 rc2 cp1 cp2 hp hpl hr hE fe fv hv1 hv2 hl1 hn0 hnn hY hQ hoc e1 e2 e2b hm0 hm1 hjI g1 g2 g2b g3 g4 hmore hwh
      go_enter Try.func11, Try.ntmps11
      go_upto_region 1 with (fail)
      rw [← HV.out]
      go_wp2_with fail
      refine (HF.out).mono ?_
      rintro e w1 ⟨rfl, hB⟩
      have HB1 := hid (bstep HV0.out hB)
      have k0 := cstep k0 hB
      have k1 := cstep k1 hB
      clear hB
      go_upto_region 4 with (fail)
      go_cut [10, 11] from 39 to 46 (fun a b w4 => ∃ o1 o2 m, a = .pointer (some ⟨o1, 0, none⟩) ∧ b = .pointer (some ⟨o2, 0, none⟩) ∧ V2At w4 o1 24 (.slice (some ⟨m, 0, none⟩) n0 n0) (.bool nn) ∧ V2At w4 o2 24 (.slice none 0 0) (.bool nn) ∧ BI w4 m (List.replicate n0 0) ∧ o1 ≠ o2 ∧ w1.heap.size ≤ m ∧ w1.heap.size ≤ o1 ∧ w1.heap.size ≤ o2 ∧ Below w1.heap.size w1 w4)
      case first =>
        have hnM : n0 ≤ 1000000 := by have := Hn12.out; omega
        have hmk := fun w' : World => run_make_ints et22 w' n0 n0 (Nat.le_refl _) hnM
        obtain ⟨cz, hcz⟩ : ∃ c, c = (intv (List.replicate n0 0)).toArray := ⟨_, rfl⟩
        rw [← hcz] at hmk
        clear HgW HeW Hkd Hpd HYn HQn hnM
        go_region_held3 (fun w' => w'.cell? ⟨w.heap.size, 0, none⟩ = some (.slice ka n0 kc) ∧ w'.cell? ⟨w.heap.size, 1, none⟩ = some (.bool nn)) (first | exact ⟨cstep k0 (by with_reducible repeat (first | exact Below.refl _ _ | refine Below.drew ?_ | refine bstep ?_ (bnew _ _) | (refine Below.setCell ?_ (by first | exact Nat.le_refl _ | exact Nat.le_succ _ | exact Nat.le_add_right _ _ | exact Nat.le_succ_of_le (Nat.le_succ _)) _))), cstep k1 (by with_reducible repeat (first | exact Below.refl _ _ | refine Below.drew ?_ | refine bstep ?_ (bnew _ _) | (refine Below.setCell ?_ (by first | exact Nat.le_refl _ | exact Nat.le_succ _ | exact Nat.le_add_right _ _ | exact Nat.le_succ_of_le (Nat.le_succ _)) _)))⟩ | go_keep) (fail)
        all_goals (
          go_wp2
          go_meet
          refine ⟨_, _, _, rfl, rfl, (by first | exact (al3 _ _ _ _).1 | exact (al3 _ _ _ _).2.1 | exact (al3 _ _ _ _).2.2.1), (by first | exact (al3 _ _ _ _).1 | exact (al3 _ _ _ _).2.1 | exact (al3 _ _ _ _).2.2.1), (by first | exact (al3 _ _ _ _).1 | exact (al3 _ _ _ _).2.1 | exact (al3 _ _ _ _).2.2.1), by omega, by omega, by omega, by omega, (al3 _ _ _ _).2.2.2⟩)
      obtain ⟨o1, o2, m1, rfl, rfl, hv1, hv2, hbm, hne, hg0, hg1, hg2, hB⟩ := hcut
      rename World => w4
      have HB4 := hid (bstep HB1.out hB)
      have k0 := cstep k0 hB; have k1 := cstep k1 hB
      have HV1 := hid hv1; have HV2 := hid hv2; have HM := hid hbm; have Hne := hid hne; have Hg0 := hid hg0; have Hg1 := hid hg1; have Hg2 := hid hg2
      clear hv1 hv2 hbm hne hg0 hg1 hg2 hB b1
      go_wp2_with fail
      refine (H49.out _ HB4.out).mono ?_
      rintro e w5 ⟨pb, hpg, rfl, hpb, hB⟩
      have HB5 := hid (bstep HB4.out hB)
      have HF5 := hid (show RotF w5.heap.size m1 pb o1 o2 V from by
        have z0 := HB1.out.size; have z1 := hB.size; have z2 := HV1.out.lt; have z3 := HV2.out.lt; have z4 := HM.out.lt; have z5 := hpb.lt; have z6 := Hg0.out; have z7 := Hg1.out; have z8 := Hg2.out
        exact ⟨by omega, by omega, by omega, by omega, by omega, by omega, by omega, Hne.out, bi_ne HM.out HV1.out, bi_ne HM.out HV2.out, by omega, by omega⟩)
      have HI5 := hid (show RotI w5.heap.size m1 pb o1 o2 n0 nn p (List.replicate n0 0) Y Qn 0 0 none 0 none 0 V w5 from ⟨HM.out.mono hB, hpb, HV1.out.mono hB, HV2.out.mono hB, OwnI.nil _ _ _, OwnI.nil _ _ _, (fun _ _ _ _ _ h => by cases h), HB5.out, Nat.le_refl _⟩)
      clear hpg hpb hB HV1 HV2 HM Hne Hg0 Hg1 Hg2 k0 k1
      obtain ⟨B, hBe⟩ : ∃ B, B = w5.heap.size := ⟨_, rfl⟩
      rw [← hBe] at HF5 HI5
      have HBe := hid hBe
      clear hBe
      go_wp2
      go_loopw [13, 14] (fun b t wr => ∃ (k : Nat) (X : List Int) (ao : Option Addr) (cap : Nat) (a2 : Option Addr) (c2 : Nat), k ≤ n0 ∧ b = .slice a2 k c2 ∧ t = .int .i64 (k : Int) ∧ X.length = n0 ∧ (∀ i, i < k → nth X ((i + s) % n0) = nth K.cop i) ∧ RotI B m1 pb o1 o2 n0 nn p X Y Qn k k ao cap a2 c2 V wr) (fun _ t _ => n0 - (intOf t).toNat)
      case atStart => exact ⟨0, List.replicate n0 0, none, 0, none, 0, Nat.zero_le _, rfl, rfl, List.length_replicate, (fun i hi => absurd hi (Nat.not_lt_zero _)), HI5.out⟩
      case round =>
        obtain ⟨k, X, ao, cap, a2, c2, hk, rfl, rfl, hXl, hXn, hI⟩ := hrel
        obtain ⟨wo, rfl⟩ : ∃ wo : World, wo = wr := ⟨_, rfl⟩
        have HIo := hid hI; have HXl := hid hXl; have HXn := hid hXn
        by_cases hlt : k < n0
        · have hkI : (k : Int) < (n0 : Int) := by omega
          have Hlt := hid hlt
          obtain ⟨kb, ko, rfl, hkc⟩ := (show IntsAt V ka K.cop from HkV.out).at (k := k) (by rw [← Hn0.out]; exact hlt)
          obtain ⟨v, hv⟩ : ∃ v, v = nth K.cop k := ⟨_, rfl⟩
          rw [← hv] at hkc
          have Hkc := hid hkc
          have k0 := cstep K0.out hI.be
          have hkc := cstep hkc hI.be
          obtain ⟨jx, hjx⟩ : ∃ j, j = (k + s) % n0 := ⟨_, rfl⟩
          have hjn : jx < n0 := by rw [hjx]; exact Nat.mod_lt _ (by omega)
          have hjI : (jx : Int) < (n0 : Int) := by omega
          have x0 := hI.x1.c0
          have mx := hI.bx.cell (k := jx) (by rw [hXl]; exact hjn)
          have fm := hI.bx.frozen jx
          obtain ⟨g1, g2, g2b, g3, g4⟩ := HgW.out
          have hs12 := Hs.out; have hn12 := Hn12.out
          have g5 : IntKind.i64.wrap ((k : Int) + (s : Int)) = (k : Int) + (s : Int) := wrap_i64_of (by omega) (by omega)
          have g6 : ((k : Int) + (s : Int)).tmod (n0 : Int) = (jx : Int) := by
            have := tmod_nat (k + s) n0
            rw [← hjx] at this
            simpa using this
          have g6b : ((k : Int) + (s : Int)) % (n0 : Int) = (jx : Int) := by rw [show (k : Int) + (s : Int) = ((k + s : Nat) : Int) by omega, hjx]; omega
          have g9 : ¬ n0 = 0 := by omega
          have g7 : IntKind.i64.wrap (s : Int) = (s : Int) := wrap_i64_of (by omega) (by omega)
          have g8 : IntKind.i64.wrap (jx : Int) = (jx : Int) := wrap_i64_of (by omega) (by omega)
          have HI2 := hid (RotI.setX (RotI.drew hI) HF5.out jx v)
          have HXr := hid (show ∀ i, i < k + 1 → nth (X.set jx v) ((i + s) % n0) = nth K.cop i by rw [hjx, hv]; exact rot_set hXl hlt hXn)
          have HXr2 := hid (show (X.set jx v).length = n0 by rw [List.length_set]; exact hXl)
          have hvr := Hkd.out k hlt
          have hyn := HYn.out k hlt
          have hqn := HQn.out k hlt
          have hpr := Hpd.out k hlt
          rw [← hv] at hvr hyn
          clear hk hI hXl hXn hs12 hn12 HIo HXl HXn hjx hv hlt
          go_upto_region 10 with (fail)
          go_cut [] from 55 to 70 (fun wx => RotI B m1 pb o1 o2 n0 nn p (X.set jx v) Y Qn k k ao cap a2 c2 V wx)
          case first =>
            go_still_tail 16, (by kernel_rfl)
            change wpList _ _ _ _ _ wo.drew
            go_wp2
            go_meet
            exact HI2.out
          have hI := hcut
          rename World => wx
          obtain ⟨X2, hX2⟩ : ∃ x, x = X.set jx v := ⟨_, rfl⟩
          rw [← hX2] at hI HXr HXr2
          have HIx := hid hI
          clear HI2 hX2 x0 mx fm g9 g1 g2 g2b g3 g4 g5 g6 g6b g7 g8 hjI hjn k0 hkc
          have k0 := cstep K0.out hI.be
          have hkc := cstep Hkc.out hI.be
          have y0 := hI.y1.c0; have yf := hI.y1.f0
          obtain ⟨q1, hq1⟩ : ∃ q, q = v.tdiv 2 := ⟨_, rfl⟩
          obtain ⟨q2, hq2⟩ : ∃ q, q = v.tmod 2 := ⟨_, rfl⟩
          obtain ⟨f, hf⟩ : ∃ f, f = flipV v := ⟨_, rfl⟩
          have hqq : q1 + q2 * 2 = f ∧ 0 ≤ q1 ∧ q1 ≤ 3 ∧ 0 ≤ q2 ∧ q2 ≤ 3 := by
            rcases (show v = 0 ∨ v = 1 ∨ v = 2 ∨ v = 3 by omega) with rfl | rfl | rfl | rfl <;> (subst hq1 hq2 hf; decide)
          have i1 : v.tdiv 2 = q1 := hq1.symm
          have i2 : v.tmod 2 = q2 := hq2.symm
          have i3 : IntKind.i64.wrap (q2 * 2) = q2 * 2 := wrap_i64_of (by omega) (by omega)
          have i4 : IntKind.i64.wrap (q1 + q2 * 2) = f := by rw [wrap_i64_of (by omega) (by omega)]; exact hqq.1
          have i5 : IntKind.i64.wrap q1 = q1 := wrap_i64_of (by omega) (by omega)
          have i6 : IntKind.i64.wrap q2 = q2 := wrap_i64_of (by omega) (by omega)
          rw [← hf] at hyn
          have hlo : o2 < wx.heap.size := hI.y1.lt
          have hlo2 : ¬ o2 = wx.heap.size := by omega
          have hB5x : B ≤ wx.heap.size := hI.sz
          have hbk : k + 1 ≤ 1000000 := by have := Hn12.out; have := Hlt.out; omega
          have hvo := HF5.out.v2
          have HI1 := hid hI; have HkI := hid hkI
          clear hI hq1 hq2 hf hqq hvr
          go_upto_region 11 with (fail)
          go_cut [] from 71 to 89 (fun wy => ∃ ao' cap', RotI B m1 pb o1 o2 n0 nn p X2 Y Qn (k + 1) k ao' cap' a2 c2 V wy)
          case first =>
            go_region_law (first | (refine step_appS et22 _ rfl _ _ rfl B ao k cap (intv (Y.take k)) rfl (OwnV.kept HI1.out.oy.2 (by first | ((with_reducible repeat (first | exact Below.refl _ _ | refine Below.drew ?_ | refine bstep ?_ (bnew _ _))); done))) (some ⟨wx.heap.size, 0, none⟩) 1 1 (intv [f]) rfl (cellsAt_ints.2 (by first | ((with_reducible repeat (first | exact lit_one _ _ _ rfl | refine IntsAt.undrew ?_)); done))) (by first | exact intv_ne _ _) rfl (intv_one _) hbk (by first | exact Nat.le_trans hB5x (show Below wx.heap.size wx _ from (by first | ((with_reducible repeat (first | exact Below.refl _ _ | refine Below.drew ?_ | refine bstep ?_ (bnew _ _))); done))).size) ?_; intro ao' cap' w' hB' hown hgr hwh; have hE := RotI.appY HI1.out HF5.out (show Below wx.heap.size wx _ from (by first | ((with_reducible repeat (first | exact Below.refl _ _ | refine Below.drew ?_ | refine bstep ?_ (bnew _ _))); done))) hB' hown hgr hwh hyn; have hBw := Below.trans (bstep HI1.out.be (show Below wx.heap.size wx _ from (by first | ((with_reducible repeat (first | exact Below.refl _ _ | refine Below.drew ?_ | refine bstep ?_ (bnew _ _))); done)))) (Below.mono hB' HF5.out.vb); have hv' := (show V2At w' o2 24 _ _ from (Below.block hB' o2 HF5.out.b2).trans (V2At.mono HI1.out.y1 (show Below wx.heap.size wx _ from (by first | ((with_reducible repeat (first | exact Below.refl _ _ | refine Below.drew ?_ | refine bstep ?_ (bnew _ _))); done))))); have z0 := hv'.c0; have z1 := hv'.f0))
            all_goals (
              go_wp2
              go_meet
              exact ⟨_, _, hE⟩)
          obtain ⟨ao', cap', hI⟩ := hcut
          rename World => wy
          clear HI1 HIx k0 hkc y0 yf i1 i2 i3 i4 i5 i6 hlo hlo2 hB5x hyn
          obtain ⟨z, hz⟩ : ∃ z, z = nth p k := ⟨_, rfl⟩
          rw [← hz] at hpr hqn
          have hp0 := hI.bp.cell (k := k) (by rw [Hpl.out]; exact Hlt.out)
          rw [← hz] at hp0
          have i1 : IntKind.i64.wrap (-z) = -z := wrap_i64_of (by omega) (by omega)
          obtain ⟨W1, hW1⟩ : ∃ W1, W1 = wy.alloc (.cells #[.int .i64 (-z)] 3) := ⟨_, rfl⟩
          have hB1 : Below wy.heap.size wy W1 := by rw [hW1]; exact bnew _ _
          have Hcs := hid (show CellsAt W1 (some ⟨wy.heap.size, 0, none⟩) (intv [-z]) by rw [hW1]; exact cellsAt_ints.2 (lit_one _ _ _ rfl))
          have Ho1 := hid (hI.ob.2.kept hB1)
          have Hk1 := hid hbk
          have Hsz := hid (show B ≤ W1.heap.size by have := hI.y1.lt; have := HF5.out.b2; have := hB1.size; have := hI.sz; omega)
          have HW1 := hid hW1; have HIy := hid hI; have HB1 := hid hB1; have Hqn := hid hqn
          have e9 : IntKind.i64.wrap ((k : Int) + 1) = (k : Int) + 1 := wrap_i64_of (by omega) (by have := Hn12.out; omega)
          clear hI hW1 hB1 hpr hz hqn hbk hvo
          go_wp2_with (at_builtin; rw [← HW1.out]; refine wpList_appS et22 W1 rfl (.tmp 90) (.tmp 96) rfl B a2 k c2 _ rfl Ho1.out (some ⟨wy.heap.size, 0, none⟩) 1 1 _ rfl Hcs.out (intv_ne _ _) rfl (intv_one _) Hk1.out Hsz.out ?_)
          intro a3 c3 w' hB' hown hgr hwh
          have hE := hid (RotI.appQ HIy.out HF5.out HB1.out hB' hown hgr hwh Hqn.out)
          clear hB' hown hgr hwh hp0
          go_wp2
          go_roundw
          case rel => exact ⟨k + 1, X2, ao', cap', a3, c3, Hlt.out, rfl, by go_num, HXr2.out, HXr.out, hE.out⟩
          case measure => simp [intOf]; have := Hlt.out; omega
        · obtain rfl : k = n0 := by omega
          have hkn : ¬ (k : Int) < (k : Int) := by omega
          have k0 := cstep K0.out hI.be; have k1 := cstep K1.out hI.be
          have x0 := hI.x1.c0; have x1 := hI.x1.c1; have y0 := hI.y1.c0; have y1 := hI.y1.c1
          have HIX := hid hI.bx.ints; have HIP := hid hI.bp.ints
          have hyy := hI.oy.at; have hqq := hI.ob.at
          rw [List.take_of_length_le (by rw [HYl.out]; exact Nat.le_refl _)] at hyy
          rw [List.take_of_length_le (by rw [HQl.out]; exact Nat.le_refl _)] at hqq
          have HIY := hid hyy; have HIQ := hid hqq
          have HQ0 := hid (show a2 = none → c2 = 0 from fun h => (hI.ob.none h).2)
          have HBo := hid hI.be
          clear hI hyy hqq hk hlt HIo hXl hXn
          go_wp2_with fail
          refine (H38.out _ HBo.out).mono ?_
          rintro e w6 ⟨rfl, hB⟩
          have HB6 := hid (bstep HBo.out hB)
          have k0 := cstep k0 hB
          have k1 := cstep k1 hB
          have x0 := cstep x0 hB
          have x1 := cstep x1 hB
          have y0 := cstep y0 hB
          have y1 := cstep y1 hB
          have HIX := hid (HIX.out.mono hB)
          have HIY := hid (HIY.out.mono hB)
          have HIQ := hid (HIQ.out.mono hB)
          have HIP := hid (HIP.out.mono hB)
          clear hB
          go_wp2_with fail
          refine (H38x.out (some ⟨m1, 0, none⟩) X _ HIX.out HXl.out HXn.out).mono ?_
          rintro e w7 ⟨rfl, hB⟩
          have HB7 := hid (bstep HB6.out hB)
          have k0 := cstep k0 hB
          have k1 := cstep k1 hB
          have x0 := cstep x0 hB
          have x1 := cstep x1 hB
          have y0 := cstep y0 hB
          have y1 := cstep y1 hB
          have HIX := hid (HIX.out.mono hB)
          have HIY := hid (HIY.out.mono hB)
          have HIQ := hid (HIQ.out.mono hB)
          have HIP := hid (HIP.out.mono hB)
          clear hB
          go_wp2_with fail
          refine (H38y.out ao cap _ HIY.out).mono ?_
          rintro e w8 ⟨rfl, hB⟩
          have HB8 := hid (bstep HB7.out hB)
          have k0 := cstep k0 hB
          have k1 := cstep k1 hB
          have x0 := cstep x0 hB
          have x1 := cstep x1 hB
          have y0 := cstep y0 hB
          have y1 := cstep y1 hB
          have HIX := hid (HIX.out.mono hB)
          have HIY := hid (HIY.out.mono hB)
          have HIQ := hid (HIQ.out.mono hB)
          have HIP := hid (HIP.out.mono hB)
          clear hB
          have d1 : (v2 != v2) = false := by simp
          have d2 : (v1 != v1) = false := by simp
          clear x0 x1 HIX hkn
          go_wp2_with fail
          refine (H46.out _ HB8.out).mono ?_
          rintro e w9 ⟨la, lc, rfl, hP, _, hB⟩
          have HB9 := hid (bstep HB8.out hB)
          have k0 := cstep k0 hB
          have k1 := cstep k1 hB
          have y0 := cstep y0 hB
          have y1 := cstep y1 hB
          have HIY := hid (HIY.out.mono hB)
          have HIQ := hid (HIQ.out.mono hB)
          have HIP := hid (HIP.out.mono hB)
          clear hB
          obtain ⟨lb, lo, rfl, hx, hy⟩ := hP.at (j := j) (by rw [← Hm.out]; exact Hjl.out)
          rw [Hxy.out] at hx hy
          simp only at hx hy
          obtain ⟨w10, hW, hB, hb1, hb2⟩ : ∃ W, W = (w9.alloc (.cells #[.int .i64 x, .int .i64 y] 34)).alloc (.cells #[.int .i64 x, .int .i64 y] 34) ∧ Below w9.heap.size w9 W ∧ V2At W w9.heap.size 34 (.int .i64 x) (.int .i64 y) ∧ V2At W (w9.heap.size + 1) 34 (.int .i64 x) (.int .i64 y) :=
            ⟨_, rfl, bstep (bnew _ _) (bnew _ _), V2At.mono (w := w9.alloc (.cells #[.int .i64 x, .int .i64 y] 34)) (heap_alloc_new _ _) (bnew _ _), by have h := heap_alloc_new (w9.alloc (.cells #[.int .i64 x, .int .i64 y] 34)) (.cells #[.int .i64 x, .int .i64 y] 34); simpa [V2At] using h⟩
          obtain ⟨e1, e2, e2b, hm0, hm1, hjI⟩ := HeW.out
          have HW10 := hid hW
          clear hP
          go_upto_region 21 with (fail)
          rw [← HW10.out]
          obtain ⟨pc1, hpc1⟩ : ∃ q, q = w9.heap.size := ⟨_, rfl⟩
          obtain ⟨pc2, hpc2⟩ : ∃ q, q = w9.heap.size + 1 := ⟨_, rfl⟩
          rw [← hpc1] at hb1
          rw [← hpc2] at hb2
          rw [← hpc2, ← hpc1]
          have hge2 : w9.heap.size ≤ pc2 := by omega
          have hpne : pc1 ≠ pc2 := by omega
          have hBw := hB
          have k09 := k0; have k19 := k1; have y09 := y0; have y19 := y1; have HIY9 := HIY; have HIQ9 := HIQ; have HIP9 := HIP
          clear k0 k1 y0 y1 HIY HIQ HIP
          clear hW HW10 hx hy hpc1 hpc2 e1 e2 e2b hm0 hm1 hjI d1 d2 hB
          have c1 := hb1.c1
          go_upto_if 144 with (fail)
          go_cut [] from 142 to 148 (fun wx => V2At wx pc1 34 (.int .i64 x) (.int .i64 y) ∧ V2At wx pc2 34 (.int .i64 x') (.int .i64 y') ∧ Below w9.heap.size w9 wx)
          case first =>
            have ho := Hoc.out
            have c2' := hb2.c1
            have f2 := hb2.f1
            rcases Hc.out with ⟨hcx, hcy⟩ | ⟨_, hcy | hcy⟩
            · simp only at hcx hcy
              subst hcy
              simp [otherC] at ho
              obtain ⟨rfl, rfl⟩ := ho
              have HZ := hid (And.intro hb1 (And.intro hb2 hBw))
              clear hb1 hb2 hBw
              go_wp2
              go_meet
              exact HZ.out
            · simp only at hcy
              subst hcy
              simp [otherC] at ho
              obtain ⟨rfl, rfl⟩ := ho
              have HZ := hid (show V2At (w10.setCell ⟨pc2, 1, none⟩ (.int .i64 2)) pc1 34 (.int .i64 x) (.int .i64 1) ∧ V2At (w10.setCell ⟨pc2, 1, none⟩ (.int .i64 2)) pc2 34 (.int .i64 x) (.int .i64 2) ∧ Below w9.heap.size w9 (w10.setCell ⟨pc2, 1, none⟩ (.int .i64 2)) from ⟨hb1.other hpne 1 _, hb2.set1 _, hBw.setCell (p := ⟨pc2, 1, none⟩) hge2 _⟩)
              clear hb1 hb2 hBw
              go_wp2
              go_meet
              exact HZ.out
            · simp only at hcy
              subst hcy
              simp [otherC] at ho
              obtain ⟨rfl, rfl⟩ := ho
              have HZ := hid (show V2At (w10.setCell ⟨pc2, 1, none⟩ (.int .i64 1)) pc1 34 (.int .i64 x) (.int .i64 2) ∧ V2At (w10.setCell ⟨pc2, 1, none⟩ (.int .i64 1)) pc2 34 (.int .i64 x) (.int .i64 1) ∧ Below w9.heap.size w9 (w10.setCell ⟨pc2, 1, none⟩ (.int .i64 1)) from ⟨hb1.other hpne 1 _, hb2.set1 _, hBw.setCell (p := ⟨pc2, 1, none⟩) hge2 _⟩)
              clear hb1 hb2 hBw
              go_wp2
              go_meet
              exact HZ.out
          obtain ⟨hv1, hv2, hB⟩ := hcut
          rename World => w11
          have k0 := cstep k09 hB; have k1 := cstep k19 hB; have y0 := cstep y09 hB; have y1 := cstep y19 hB
          have HB11 := hid (bstep HB9.out hB)
          have HIY := hid (HIY9.out.mono hB); have HIQ := hid (HIQ9.out.mono hB); have HIP := hid (HIP9.out.mono hB)
          have p0 := hv1.c0; have p1 := hv1.c1; have q0 := hv2.c0; have q1 := hv2.c1
          clear hv1 hv2 hB c1 hb1 hb2 hBw hge2 hpne k09 k19 y09 y19 HIY9 HIQ9 HIP9
          go_wp2_with fail
          refine (H22a.out (some ⟨pb, 0, none⟩) k _ HB11.out HIP.out (fun h => by cases h)).mono ?_
          rintro e w12 ⟨rfl, hB⟩
          have HB12 := hid (bstep HB11.out hB)
          have k0 := cstep k0 hB
          have k1 := cstep k1 hB
          have y0 := cstep y0 hB
          have y1 := cstep y1 hB
          have p0 := cstep p0 hB
          have p1 := cstep p1 hB
          have q0 := cstep q0 hB
          have q1 := cstep q1 hB
          have HIY := hid (HIY.out.mono hB)
          have HIQ := hid (HIQ.out.mono hB)
          have HIP := hid (HIP.out.mono hB)
          clear hB
          go_wp2_with fail
          refine (H22b.out a2 c2 _ HB12.out HIQ.out HQ0.out).mono ?_
          rintro e w13 ⟨rfl, hB⟩
          have HB13 := hid (bstep HB12.out hB)
          have k0 := cstep k0 hB
          have k1 := cstep k1 hB
          have y0 := cstep y0 hB
          have y1 := cstep y1 hB
          have p0 := cstep p0 hB
          have p1 := cstep p1 hB
          have q0 := cstep q0 hB
          have q1 := cstep q1 hB
          have HIY := hid (HIY.out.mono hB)
          have HIQ := hid (HIQ.out.mono hB)
          have HIP := hid (HIP.out.mono hB)
          clear hB
          go_wp2_with fail
          refine (H22c.out ao cap (some ⟨pb, 0, none⟩) k _ HIY.out HIP.out (fun h => by cases h)).mono ?_
          rintro e w14 ⟨rfl, hB⟩
          have HB14 := hid (bstep HB13.out hB)
          have k0 := cstep k0 hB
          have k1 := cstep k1 hB
          have y0 := cstep y0 hB
          have y1 := cstep y1 hB
          have HIY := hid (HIY.out.mono hB)
          have HIQ := hid (HIQ.out.mono hB)
          have HIP := hid (HIP.out.mono hB)
          clear hB
          have r1 : ¬ r < -1 := by have := Hr2.out; omega
          have r2 : ¬ 1 < r := by have := Hr2.out; omega
          have r3 : IntKind.i64.wrap (-r) = -r := wrap_i64_of (by have := Hr2.out; omega) (by have := Hr2.out; omega)
          have r4 : (-r != -r) = false := by simp
          clear p0 p1 q0 q1
          go_upto_region 28 with (fail)
          clear r1 r2 r3 r4
          have j0 := fun (J : World → Prop) (s : LaterJ w14 J) => cstep k0 s.h; have j1 := fun (J : World → Prop) (s : LaterJ w14 J) => cstep k1 s.h; have j2 := fun (J : World → Prop) (s : LaterJ w14 J) => cstep y0 s.h; have j3 := fun (J : World → Prop) (s : LaterJ w14 J) => cstep y1 s.h
          have HX := hid fun (J : World → Prop) (s : LaterJ w14 J) => HW.out s.w'
          have hEE : (E == E) = true := by simp
          refine wp_region_mix2 (n := 27) (nz := nzr8) (kn := [4, 9, 16, 21]) (dp := dpr8) (bs := [.keep, .keep, .off, .off, .say (.int .i64 E), .keep, .keep, .off, .off, .say (.int .i64 E), .keep, .keep, .keep, .keep, .off, .off, .say (.int .i64 E), .keep, .keep, .off, .off, .say (.int .i64 E), .keep, .keep, .keep, .keep, .keep, .off]) (Φ := Φr8 p Qn) (by kernel_rfl) (by kernel_rfl) (by simp [nzr8]) ?_
          simp only [blind2, Bk.on, blindO, knO]
          repeat (gi_big_quiet_step ((refine ⟨rfl, ?_⟩; gi_at_call 16; exact callsJ abidesT (HX.out _ _))))
          refine wpQuietIn_nil ?_
          refine ⟨?_, ?_, ?_, ?_⟩
          · intro J hJ hne
            repeat (gi_big_quiet_step ((refine ⟨rfl, ?_⟩; gi_at_call 16; exact callsJ hJ (HX.out _ _))))
            exact wpQuietIn_nil rfl
          all_goals (generalize hG : (Act.mk _ _ : Act) = G)
          all_goals (have hGz : G.tmps.size = 227 := by rw [← hG]; rfl)
          · intro i hi o ho r s hs hd
            have hi2 : 2 = i ∨ 3 = i ∨ 7 = i ∨ 8 = i ∨ 14 = i ∨ 15 = i ∨ 19 = i ∨ 20 = i := by simpa [isNz, nzr8] using hi
            rcases hi2 with rfl | rfl | rfl | rfl | rfl | rfl | rfl | rfl
            all_goals (simp only [List.getElem?_cons_succ, List.getElem?_cons_zero, Option.some.injEq] at ho; subst ho)
            · refine ⟨by simp [Region.wanted], ?_⟩
              exact makes_rowV _ _ _ _ _ _ s 201 p _ ⟨some ⟨pb, 0, none⟩, k, by rw [Hpl.out], HIP.out.mono hs, fun h => by cases h⟩ (putN_ev (by simp [nzr8]) (by rw [← hG] <;> rfl))
            · obtain ⟨p0, q0, h1, h2⟩ := hd 2 (by simp [dpr8])
              have h1 : RowsV [p] (r 2) q0 := h1
              refine ⟨by simp [Region.wanted], ?_⟩
              refine makesOp_mono (makes_plan51 _ _ _ _ _ _ s 202 _ (putN_ev_nz (i := 2) (by simp [nzr8]) ⟨(2, 202), by simp [nzr8], rfl⟩ (by rw [hGz]; decide))) ?_
              rintro v s' ⟨h3, rfl, rfl⟩
              exact ⟨h3, h1.mono h2⟩
            · refine ⟨by simp [Region.wanted], ?_⟩
              exact makes_rowV _ _ _ _ _ _ s 206 Qn _ ⟨a2, c2, by rw [HQl.out], HIQ.out.mono hs, HQ0.out⟩ (putN_ev (by simp [nzr8]) (by rw [← hG] <;> rfl))
            · obtain ⟨p0, q0, h1, h2⟩ := hd 7 (by simp [dpr8])
              have h1 : RowsV [Qn] (r 7) q0 := h1
              refine ⟨by simp [Region.wanted], ?_⟩
              refine makesOp_mono (makes_plan51 _ _ _ _ _ _ s 207 _ (putN_ev_nz (i := 7) (by simp [nzr8]) ⟨(7, 207), by simp [nzr8], rfl⟩ (by rw [hGz]; decide))) ?_
              rintro v s' ⟨h3, rfl, rfl⟩
              exact ⟨h3, h1.mono h2⟩
            · refine ⟨wanted_at (g := 11) (t := 211) rfl rfl (by simp [nzr8]) (by rw [← hG] <;> rfl), ?_⟩
              exact makes_rowV _ _ _ _ _ _ s 213 p _ ⟨some ⟨pb, 0, none⟩, k, by rw [Hpl.out], HIP.out.mono hs, fun h => by cases h⟩ (putN_ev (by simp [nzr8]) (by rw [← hG] <;> rfl))
            · obtain ⟨p0, q0, h1, h2⟩ := hd 14 (by simp [dpr8])
              have h1 : RowsV [p] (r 14) q0 := h1
              refine ⟨wanted_at (g := 11) (t := 211) rfl rfl (by simp [nzr8]) (by rw [← hG] <;> rfl), ?_⟩
              refine makesOp_mono (makes_plan51 _ _ _ _ _ _ s 214 _ (putN_ev_nz (i := 14) (by simp [nzr8]) ⟨(14, 214), by simp [nzr8], rfl⟩ (by rw [hGz]; decide))) ?_
              rintro v s' ⟨h3, rfl, rfl⟩
              exact ⟨h3, h1.mono h2⟩
            · refine ⟨wanted_at (g := 11) (t := 211) rfl rfl (by simp [nzr8]) (by rw [← hG] <;> rfl), ?_⟩
              exact makes_rowV _ _ _ _ _ _ s 218 p _ ⟨some ⟨pb, 0, none⟩, k, by rw [Hpl.out], HIP.out.mono hs, fun h => by cases h⟩ (putN_ev (by simp [nzr8]) (by rw [← hG] <;> rfl))
            · obtain ⟨p0, q0, h1, h2⟩ := hd 19 (by simp [dpr8])
              have h1 : RowsV [p] (r 19) q0 := h1
              refine ⟨wanted_at (g := 11) (t := 211) rfl rfl (by simp [nzr8]) (by rw [← hG] <;> rfl), ?_⟩
              refine makesOp_mono (makes_plan51 _ _ _ _ _ _ s 219 _ (putN_ev_nz (i := 19) (by simp [nzr8]) ⟨(19, 219), by simp [nzr8], rfl⟩ (by rw [hGz]; decide))) ?_
              rintro v s' ⟨h3, rfl, rfl⟩
              exact ⟨h3, h1.mono h2⟩
          · intro i hi o ho r s hs hd
            have hi2 : i = 4 ∨ i = 9 ∨ i = 16 ∨ i = 21 := by simpa [isKn] using hi
            rcases hi2 with rfl | rfl | rfl | rfl
            all_goals (simp only [List.getElem?_cons_succ, List.getElem?_cons_zero, Option.some.injEq] at ho; subst ho)
            · obtain ⟨p0, q0, h1, h2⟩ := hd 3 (by simp [dpr8])
              have h1 : RowsV [p] (r 3) q0 := h1
              obtain ⟨b, hr, hI⟩ := h1.mono h2
              refine makes_call2 _ _ _ _ _ _ s 34 (.tmp 200) (.tmp 203) 24 42 _ _ (putN_ev (by simp [nzr8]) (by rw [← hG] <;> rfl)) ((putN_ev_nz (i := 3) (by simp [nzr8]) ⟨(3, 203), by simp [nzr8], rfl⟩ (by rw [hGz]; decide)).trans hr) enters34 ?_
              exact (H34a.out (some b) s (bstep HB14.out hs) hI).mono fun e w' h => ⟨_, h.1, h.2, rfl⟩
            · obtain ⟨p0, q0, h1, h2⟩ := hd 8 (by simp [dpr8])
              have h1 : RowsV [Qn] (r 8) q0 := h1
              obtain ⟨b, hr, hI⟩ := h1.mono h2
              refine makes_call2 _ _ _ _ _ _ s 34 (.tmp 205) (.tmp 208) 24 42 _ _ (putN_ev (by simp [nzr8]) (by rw [← hG] <;> rfl)) ((putN_ev_nz (i := 8) (by simp [nzr8]) ⟨(8, 208), by simp [nzr8], rfl⟩ (by rw [hGz]; decide)).trans hr) enters34 ?_
              exact (H34b.out (some b) s (bstep HB14.out hs) hI).mono fun e w' h => ⟨_, h.1, h.2, rfl⟩
            · obtain ⟨p0, q0, h1, h2⟩ := hd 15 (by simp [dpr8])
              have h1 : RowsV [p] (r 15) q0 := h1
              obtain ⟨b, hr, hI⟩ := h1.mono h2
              refine makes_call2 _ _ _ _ _ _ s 34 (.tmp 212) (.tmp 215) 24 42 _ _ (putN_ev (by simp [nzr8]) (by rw [← hG] <;> rfl)) ((putN_ev_nz (i := 15) (by simp [nzr8]) ⟨(15, 215), by simp [nzr8], rfl⟩ (by rw [hGz]; decide)).trans hr) enters34 ?_
              exact (H34a.out (some b) s (bstep HB14.out hs) hI).mono fun e w' h => ⟨_, h.1, h.2, rfl⟩
            · obtain ⟨p0, q0, h1, h2⟩ := hd 20 (by simp [dpr8])
              have h1 : RowsV [p] (r 20) q0 := h1
              obtain ⟨b, hr, hI⟩ := h1.mono h2
              refine makes_call2 _ _ _ _ _ _ s 34 (.tmp 217) (.tmp 220) 24 42 _ _ (putN_ev (by simp [nzr8]) (by rw [← hG] <;> rfl)) ((putN_ev_nz (i := 20) (by simp [nzr8]) ⟨(20, 220), by simp [nzr8], rfl⟩ (by rw [hGz]; decide)).trans hr) enters34 ?_
              exact (H34c.out ao cap (some b) s (HIY.out.mono hs) hI).mono fun e w' h => ⟨_, h.1, h.2, rfl⟩
          · intro r p0 q0 s hs hm hsep
            have hlast : (putN nzr8 r G).eval (.tmp 226) = .bool true := putN_ev (by simp [nzr8]) (by rw [← hG] <;> rfl)
            have HL := hid hlast; have HBs := hid (bstep HB0.out (bstep HB14.out hs))
            clear hs hm hsep j0 j1 j2 j3 HX
            simp only [List.drop_succ_cons, List.drop_zero]
            have hev : (putN nzr8 r G).defers = [] := by rw [(putN_size nzr8 r G).2, ← hG]
            have hz : (putN nzr8 r G).tmps.size = 227 := by rw [(putN_size nzr8 r G).1, hGz]
            have e226 : (putN nzr8 r G).tmps[226]?.getD undef = .bool true := by simpa [Act.eval] using HL.out
            obtain ⟨A, hA⟩ : ∃ A, A = putN nzr8 r G := ⟨_, rfl⟩
            rw [← hA] at hev hz e226 ⊢
            clear hA HL hG hGz hlast
            obtain ⟨T, D⟩ := A
            simp only at hev hz e226 ⊢
            subst hev
            gi_wp2
            have hb : 226 < T.size := by omega
            have h8 : 8 < T.size := by omega
            simp [hb] at e226
            go_wp2
            go_ret
            refine ⟨?_, HBs.out⟩
            simp [e226, h8]
  · rw [decide_eq_false hf] at HF
    clear hworks hk hV hB0 hkV hf hwh hb hbV hmore
    go_enter Try.func11, Try.ntmps11
    go_upto_region 1 with (fail)
    rw [← HV.out]
    go_wp2_with fail
    refine (HF.out).mono ?_
    rintro e w1 ⟨rfl, hB⟩
    have HB1 := hid (bstep HV0.out hB)
    clear hB
    go_wp2_with fail
    refine (HW.out _).mono ?_
    rintro e w2 ⟨rfl, hB⟩
    have HB2 := hid (bstep HB1.out hB)
    clear hB
    go_wp2
    go_ret
    exact ⟨rfl, bstep HB0.out HB2.out⟩
end

end Go.Proofs.Ytelgbjfgmpkepaa
