/- Walks: the small helpers of the laws. Walks: long, Known, at. Walks: Same. Walks: the law's Cases. Walks: the examples of the laws. -/
import Derived.Test.YtelgbjfgmpkepaaKO
namespace Go.Proofs.Ytelgbjfgmpkepaa
open Go.RowKit Go.Shelf

section
variable (ka : Option Addr) (kc : Nat) (K : Kn) (w : World)
set_option maxRecDepth 100000 in
theorem great_15 (hk : KnAt w ka K) : Calls Try.prog 15 #[.agg #[.slice ka K.cop.length kc, .bool K.none]] w (TellB w (decide (16 < K.cop.length))) := by
  obtain ⟨V, hV, hB0, k0, k1⟩ := box1 w (.slice ka K.cop.length kc) (.bool K.none) 24
  have hkV := hk.mono hB0
  have HB0 := hid hB0; have HV := hid hV; have HV0 := hid (Below.refl V.heap.size V)
  have K0 := hid k0; have K1 := hid k1
  obtain ⟨nn, hnn⟩ : ∃ b, b = K.none := ⟨_, rfl⟩
  rw [← hnn] at k1 K1 HV ⊢
  obtain ⟨r, hr⟩ : ∃ r, r = decide (16 < K.cop.length) := ⟨_, rfl⟩
  rw [← hr]
  have Hr := hid hr
  clear hnn hk hV hB0 hkV hr
  unfold TellB
  go_enter Try.func15, Try.ntmps15
  go_upto_region 1 with (fail)
  rw [← HV.out]
  by_cases h : 16 < K.cop.length
  · have b1 : (16 : Int) < (K.cop.length : Int) := by omega
    have Hr2 := hid (Hr.out.trans (decide_eq_true h))
    clear h
    go_wp2
    go_ret
    exact ⟨by rw [Hr2.out]; rfl, HB0.out⟩
  · have b1 : ¬ (16 : Int) < (K.cop.length : Int) := by omega
    have Hr2 := hid (Hr.out.trans (decide_eq_false h))
    clear h
    go_wp2
    go_ret
    exact ⟨by rw [Hr2.out]; rfl, HB0.out⟩
set_option maxRecDepth 100000 in
theorem fine_44 (hk : KnAt w ka K) (hlk : K.cop.length ≤ 1000000) : Calls Try.prog 44 #[.agg #[.slice ka K.cop.length kc, .bool K.none]] w (TellB w (decide (knErr K = 0))) := by
  obtain ⟨V, hV, hB0, k0, k1⟩ := box1 w (.slice ka K.cop.length kc) (.bool K.none) 24
  have hkV := hk.mono hB0
  have HB0 := hid hB0; have HV := hid hV; have HV0 := hid (Below.refl V.heap.size V)
  have K0 := hid k0; have K1 := hid k1
  have H15 := hid fun (w' : World) (h : Below V.heap.size V w') => great_15 ka kc K w' (hkV.mono h)
  have H20 := hid fun (w' : World) (h : Below V.heap.size V w') => rCheckKnown_c ka kc K w' (hkV.mono h) hlk
  unfold TellB at H15
  unfold TellI at H20
  have h12 : knErr K = 0 → ¬ 16 < K.cop.length := fun h => by have := (kok_iff.1 h).n12; omega
  obtain ⟨E, hE⟩ : ∃ E, E = knErr K := ⟨_, rfl⟩
  rw [← hE] at H20 h12 ⊢
  obtain ⟨nn, hnn⟩ : ∃ b, b = K.none := ⟨_, rfl⟩
  rw [← hnn] at k1 K1 HV H15 H20 ⊢
  obtain ⟨r, hr⟩ : ∃ r, r = decide (E = 0) := ⟨_, rfl⟩
  rw [← hr]
  have Hr := hid hr
  clear hnn hk hV hB0 hkV hlk hE hr
  unfold TellB
  go_enter Try.func44, Try.ntmps44
  go_upto_region 1 with (fail)
  rw [← HV.out]
  by_cases h : 16 < K.cop.length
  · rw [decide_eq_true h] at H15
    have Hr2 := hid (Hr.out.trans (decide_eq_false (fun e => h12 e h)))
    clear h h12
    go_wp2_with fail
    refine (H15.out _ HV0.out).mono ?_
    rintro e w1 ⟨rfl, hB⟩
    have HB1 := hid (bstep HV0.out hB)
    have k0 := cstep k0 hB
    have k1 := cstep k1 hB
    clear hB
    go_wp2
    go_ret
    exact ⟨by rw [Hr2.out]; rfl, bstep HB0.out HB1.out⟩
  · rw [decide_eq_false h] at H15
    clear h h12
    go_wp2_with fail
    refine (H15.out _ HV0.out).mono ?_
    rintro e w1 ⟨rfl, hB⟩
    have HB1 := hid (bstep HV0.out hB)
    have k0 := cstep k0 hB
    have k1 := cstep k1 hB
    clear hB
    go_wp2_with fail
    refine (H20.out _ HB1.out).mono ?_
    rintro e w2 ⟨rfl, hB⟩
    have HB2 := hid (bstep HB1.out hB)
    clear hB
    by_cases h0 : E = 0
    · have b1 : (E == 0) = true := by simp [h0]
      have Hr2 := hid (Hr.out.trans (decide_eq_true h0))
      clear h0
      go_wp2
      go_ret
      exact ⟨by rw [Hr2.out]; rfl, bstep HB0.out HB2.out⟩
    · have b1 : (E == 0) = false := by simp [h0]
      have Hr2 := hid (Hr.out.trans (decide_eq_false h0))
      clear h0
      go_wp2
      go_ret
      exact ⟨by rw [Hr2.out]; rfl, bstep HB0.out HB2.out⟩
end
set_option maxRecDepth 100000 in
theorem of_50 (v : Value) (w : World) : Calls Try.prog 50 #[v] w fun e w' => e = .returned v ∧ w' = w := by
  go_enter Try.func50, Try.ntmps50
  go_wp2
  go_ret
  exact ⟨rfl, rfl⟩
set_option maxRecDepth 100000 in
theorem plan_51 (v : Value) (w : World) : Calls Try.prog 51 #[v] w fun e w' => e = .returned v ∧ w' = w := by
  go_enter Try.func51, Try.ntmps51
  go_wp2
  go_ret
  exact ⟨rfl, rfl⟩

end Go.Proofs.Ytelgbjfgmpkepaa

namespace Go.Proofs.Ytelgbjfgmpkepaa
open Go.RowKit Go.Shelf

set_option maxRecDepth 100000 in
set_option maxHeartbeats 1000000 in
theorem known_58 (b : Bool) (a : Option Addr) (n cap : Nat) (w : World) : Calls Try.prog 58 #[.bool b, .slice a n cap] w fun e w' => e = .returned (.agg #[.slice a n cap, .bool b]) ∧ Below w.heap.size w w' := by
  obtain ⟨V, hV, hB, hv⟩ : ∃ V, V = w.alloc (.cells #[.slice none 0 0, .bool false] 24) ∧ Below w.heap.size w V ∧ V2At V w.heap.size 24 (.slice none 0 0) (.bool false) := ⟨_, rfl, bnew _ _, heap_alloc_new _ _⟩
  have f0 := hv.f0; have f1 := hv.f1; have r0 := hv.c0; have r1 := hv.c1
  have HV := hid hV; have HB := hid hB; have Hv := hid hv
  clear hV hB hv
  go_enter Try.func58, Try.ntmps58
  go_upto_region 1 with (fail)
  rw [← HV.out]
  go_wp2
  refine bodyPost_ret (results_c24 rfl _ _ w.heap.size (.slice a n cap) (.bool b) rfl (Hv.out.set _ _)) rfl ?_
  exact ⟨rfl, below_set2 HB.out (Nat.le_refl _) _ _⟩
/-- a list of weighings that the laws find too long -/
def longB (ps : List (List Int)) : Bool := decide (9 < ps.length) || ps.any fun p => decide (16 < p.length)
def maxTo (ps : List (List Int)) : Nat → Nat
  | 0 => 0
  | k + 1 => max (maxTo ps k) (nthL ps k).length
theorem maxTo_le {ps : List (List Int)} {m : Nat} : ∀ {k : Nat}, k ≤ ps.length → (maxTo ps k ≤ m ↔ ∀ j, j < k → (nthL ps j).length ≤ m)
  | 0, _ => ⟨fun _ j hj => by omega, fun _ => Nat.zero_le _⟩
  | k + 1, hk => by
    have ih := maxTo_le (ps := ps) (m := m) (k := k) (by omega)
    unfold maxTo
    constructor
    · intro h j hj
      by_cases e : j = k
      · subst e; omega
      · exact ih.1 (by omega) j (by omega)
    · intro h
      have h1 := ih.2 fun j (hj : j < k) => h j (Nat.lt_succ_of_lt hj)
      have h2 := h k (Nat.lt_succ_self k)
      omega
theorem longB_is {ps : List (List Int)} (h : ¬ 9 < ps.length) : longB ps = decide (16 < maxTo ps ps.length) := by
  have hm := maxTo_le (ps := ps) (m := 16) (Nat.le_refl _)
  unfold longB
  rw [decide_eq_false h, Bool.false_or]
  by_cases h1 : 16 < maxTo ps ps.length
  · rw [decide_eq_true h1]
    rw [List.any_eq_true]
    refine Classical.byContradiction fun hn => ?_
    have := hm.2 fun j hj => by
      refine Classical.byContradiction fun h2 => hn ⟨nthL ps j, nthL_mem hj, by simp; omega⟩
    omega
  · rw [decide_eq_false h1, Bool.eq_false_iff]
    intro hn
    obtain ⟨p, hp, h2⟩ := List.any_eq_true.1 hn
    obtain ⟨j, hj, rfl⟩ := List.getElem_of_mem hp
    have h3 := hm.1 (by omega) j hj
    rw [nthL_eq hj] at h3
    simp at h2
    omega
section
variable (pa : Option Addr) (pc : Nat) (ps : List (List Int)) (w : World)
set_option maxRecDepth 100000 in
set_option maxHeartbeats 1000000 in
theorem long_29 (hp : RowsAt w pa ps) (hl : ps.length ≤ 1000000) (hll : ∀ p ∈ ps, p.length ≤ 1000000) : Calls Try.prog 29 #[.slice pa ps.length pc] w (TellB w (longB ps)) := by
  unfold TellB
  obtain ⟨r, hr⟩ : ∃ r, r = longB ps := ⟨_, rfl⟩
  rw [← hr]
  have Hr := hid hr
  have Hp := hid hp; have Hll := hid hll
  clear hr hp hll
  go_enter Try.func29, Try.ntmps29
  by_cases h9 : 9 < ps.length
  · have b1 : (9 : Int) < (ps.length : Int) := by omega
    have Hr2 := hid (Hr.out.trans (show longB ps = true by unfold longB; rw [decide_eq_true h9]; rfl))
    clear h9
    go_wp2
    go_ret
    exact ⟨by rw [Hr2.out]; rfl, Below.refl _ _⟩
  · have b1 : ¬ (9 : Int) < (ps.length : Int) := by omega
    have Hr2 := hid (Hr.out.trans (longB_is h9))
    go_wp2
    go_loopw [3, 4] (fun m i wr => ∃ k : Nat, k ≤ ps.length ∧ i = .int .i64 (k : Int) ∧ m = .int .i64 ((maxTo ps k : Nat) : Int) ∧ wr = w) (fun _ i _ => ps.length - (intOf i).toNat)
    case atStart => exact ⟨0, Nat.zero_le _, rfl, rfl, rfl⟩
    case round =>
      obtain ⟨k, hk, rfl, rfl, rfl⟩ := hrel
      obtain ⟨m, hm⟩ : ∃ m, m = maxTo ps k := ⟨_, rfl⟩
      rw [← hm]
      by_cases hlt : k < ps.length
      · have hI : (k : Int) < (ps.length : Int) := by omega
        have e1 : IntKind.i64.wrap ((k : Int) + 1) = (k : Int) + 1 := wrap_i64_of (by omega) (by omega)
        obtain ⟨b, off, ra, rc, rfl, hc, hr, _⟩ := Hp.out.at hlt
        have hst : maxTo ps (k + 1) = max m (nthL ps k).length := by rw [hm]; rfl
        obtain ⟨n, hn⟩ : ∃ n, n = (nthL ps k).length := ⟨_, rfl⟩
        rw [← hn] at hst hc
        have Hmx := hid (show (if m < n then (n : Int) else (m : Int)) = ((maxTo ps (k + 1) : Nat) : Int) by rw [hst]; split <;> omega)
        clear hst hm hn hr hk h9
        go_wp2
        exact ⟨⟨k + 1, hlt, by go_num, by rw [Hmx.out], trivial⟩, by simp [intOf]; omega⟩
      · have hI : ¬ (k : Int) < (ps.length : Int) := by omega
        obtain rfl : k = ps.length := by omega
        have Hr3 := Hr2.out
        rw [← hm] at Hr3
        by_cases h16 : 16 < m
        · have b3 : (16 : Int) < (m : Int) := by omega
          rw [decide_eq_true h16] at Hr3
          have Hr4 := hid Hr3
          clear Hr3 h16 hm hk hlt h9
          go_wp2
          go_ret
          exact ⟨by rw [Hr4.out]; rfl, Below.refl _ _⟩
        · have b3 : ¬ (16 : Int) < (m : Int) := by omega
          rw [decide_eq_false h16] at Hr3
          have Hr4 := hid Hr3
          clear Hr3 h16 hm hk hlt h9
          go_wp2
          go_ret
          exact ⟨by rw [Hr4.out]; rfl, Below.refl _ _⟩
end

end Go.Proofs.Ytelgbjfgmpkepaa

namespace Go.Proofs.Ytelgbjfgmpkepaa
open Go.RowKit Go.Shelf

section
variable (xa : Option Addr) (xc : Nat) (K : Kn) (ya : Option Addr) (yc : Nat) (M : Kn) (w : World)
set_option maxRecDepth 100000 in
set_option maxHeartbeats 2000000 in
theorem same_28 (hx : KnAt w xa K) (hy : KnAt w ya M) (hl : K.cop.length ≤ 1000000) : Calls Try.prog 28 #[.agg #[.slice xa K.cop.length xc, .bool K.none], .agg #[.slice ya M.cop.length yc, .bool M.none]] w (TellB w (decide (K.none = M.none ∧ K.cop = M.cop))) := by
  obtain ⟨V, hV, hB0, k0, k1, m0, m1⟩ := box2 w (.slice xa K.cop.length xc) (.bool K.none) (.slice ya M.cop.length yc) (.bool M.none) 24 24
  have Hx := hid (IntsAt.mono hx hB0); have Hy := hid (IntsAt.mono hy hB0); have Hl := hid hl
  obtain ⟨xs, hxs⟩ : ∃ l, l = K.cop := ⟨_, rfl⟩
  obtain ⟨ys, hys⟩ : ∃ l, l = M.cop := ⟨_, rfl⟩
  obtain ⟨p, hp⟩ : ∃ l, l = K.none := ⟨_, rfl⟩
  obtain ⟨q, hq⟩ : ∃ l, l = M.none := ⟨_, rfl⟩
  rw [← hxs] at Hx Hl hV k0 ⊢
  rw [← hys] at Hy hV m0 ⊢
  rw [← hp] at hV k1 ⊢
  rw [← hq] at hV m1 ⊢
  have Hext := hid fun (h1 : xs.length = ys.length) (h2 : ∀ k, k < xs.length → nth xs k = nth ys k) => ext_nth h1 h2
  have Hne := hid fun (k : Nat) (h : ¬ nth xs k = nth ys k) (e : p = q ∧ xs = ys) => h (by rw [e.2])
  have HV := hid hV; have HB0 := hid hB0
  have K0 := hid k0; have M0 := hid m0
  unfold TellB
  obtain ⟨E, hE⟩ : ∃ E, E = decide (p = q ∧ xs = ys) := ⟨_, rfl⟩
  rw [← hE]
  have HE := hid hE
  clear hE hx hy hl hxs hys hp hq hV hB0
  go_enter Try.func28, Try.ntmps28
  go_upto_region 1 with (fail)
  rw [← HV.out]
  by_cases hpq : p = q
  · have b0 : (p != q) = false := by simp [hpq]
    by_cases hn : xs.length = ys.length
    · have b1 : ((xs.length : Int) != (ys.length : Int)) = false := by simp [hn]
      have Hn := hid hn; have Hpq := hid hpq
      clear hn hpq
      go_wp2
      clear b0 b1
      go_loopw [5] (fun i wr => ∃ k : Nat, k ≤ xs.length ∧ i = .int .i64 k ∧ (∀ j, j < k → nth xs j = nth ys j) ∧ Below V.heap.size V wr) (fun i _ => xs.length - (intOf i).toNat)
      case atStart => exact ⟨0, Nat.zero_le _, rfl, fun j hj => absurd hj (by omega), Below.refl _ _⟩
      case round =>
        obtain ⟨k, hk, rfl, hw, hB⟩ := hrel
        obtain ⟨wo, rfl⟩ : ∃ wo : World, wo = wr := ⟨_, rfl⟩
        have Hw := hid hw; have HB := hid hB
        have hxo := Hx.out.mono hB; have hyo := Hy.out.mono hB
        have k0 := cstep K0.out hB; have m0 := cstep M0.out hB
        clear hw hB
        by_cases hlt : k < xs.length
        · have hI : (k : Int) < (xs.length : Int) := by omega
          have hI2 : (k : Int) < (ys.length : Int) := by have := Hn.out; omega
          obtain ⟨b, off, rfl, hcx⟩ := IntsAt.at hxo hlt
          obtain ⟨b2, off2, rfl, hcy⟩ := IntsAt.at hyo (show k < ys.length by omega)
          have e1 : IntKind.i64.wrap ((k : Int) + 1) = (k : Int) + 1 := wrap_i64_of (by omega) (by have := Hl.out; omega)
          have hne := Hne.out k
          obtain ⟨x, hx⟩ : ∃ x, x = nth xs k := ⟨_, rfl⟩
          obtain ⟨y, hy⟩ : ∃ x, x = nth ys k := ⟨_, rfl⟩
          rw [← hx] at hcx hne
          rw [← hy] at hcy hne
          have HX := hid hx; have HY := hid hy; have HNE := hid hne
          clear hx hy hxo hyo hne
          by_cases he : x = y
          · have b2 : (x != y) = false := by simpa using he
            go_wp2
            go_quiet (fail)
            go_wp2
            go_roundw
            case rel =>
              refine ⟨k + 1, hlt, by go_num, fun j hj => ?_, HB.out.trans (below_drawN _ _ _)⟩
              by_cases ej : j = k
              · subst ej; rw [← HX.out, ← HY.out]; exact he
              · exact Hw.out j (by omega)
            case measure => simp [intOf]; omega
          · have b2 : (x != y) = true := by simpa using he
            have HE2 := hid (HE.out.trans (decide_eq_false (HNE.out he)))
            go_wp2
            go_quiet (fail)
            go_wp2
            go_ret
            exact ⟨by rw [HE2.out]; rfl, bstep HB0.out (HB.out.trans (below_drawN _ _ _))⟩
        · have hI : ¬ (k : Int) < (xs.length : Int) := by omega
          have HE2 := hid (HE.out.trans (decide_eq_true ⟨Hpq.out, Hext.out Hn.out fun j hj => Hw.out j (by omega)⟩))
          clear hxo hyo
          go_wp2
          go_ret
          exact ⟨by rw [HE2.out]; rfl, bstep HB0.out HB.out⟩
    · have b1 : ((xs.length : Int) != (ys.length : Int)) = true := by simp; omega
      have b3 : ¬ (xs.length : Int) = (ys.length : Int) := by omega
      obtain rfl := hpq
      have HE2 := hid (HE.out.trans (decide_eq_false (fun e => hn (by rw [e.2]))))
      clear hn b0
      go_wp2
      go_ret
      exact ⟨by rw [HE2.out]; rfl, HB0.out⟩
  · have HE2 := hid (HE.out.trans (decide_eq_false (fun e => hpq e.1)))
    cases p <;> cases q
    · exact absurd rfl hpq
    · clear hpq
      go_wp2
      go_ret
      exact ⟨by rw [HE2.out]; rfl, HB0.out⟩
    · clear hpq
      go_wp2
      go_ret
      exact ⟨by rw [HE2.out]; rfl, HB0.out⟩
    · exact absurd rfl hpq
end

end Go.Proofs.Ytelgbjfgmpkepaa

namespace Go.Proofs.Ytelgbjfgmpkepaa
open Go.RowKit Go.Shelf

theorem ext_nthP {xs ys : List (Int × Int)} (hl : xs.length = ys.length) (h : ∀ k, k < xs.length → nthP xs k = nthP ys k) : xs = ys := by
  apply List.ext_getElem hl
  intro k h1 h2
  have := h k h1
  rwa [nthP_eq h1, nthP_eq h2] at this
section
variable (xa : Option Addr) (xc : Nat) (xs : List (Int × Int)) (ya : Option Addr) (yc : Nat) (ys : List (Int × Int)) (w : World)
set_option maxRecDepth 100000 in
set_option maxHeartbeats 2000000 in
theorem lawCases_21 (hx : PlumbsAt w xa xs) (hy : PlumbsAt w ya ys) (hl : xs.length ≤ 1000000) : Calls Try.prog 21 #[.slice xa xs.length xc, .slice ya ys.length yc] w (TellB w (decide (xs = ys))) := by
  have Hx := hid hx; have Hy := hid hy; have Hl := hid hl
  have Hext := hid fun (h1 : xs.length = ys.length) (h2 : ∀ k, k < xs.length → nthP xs k = nthP ys k) => ext_nthP h1 h2
  have Hne := hid fun (k : Nat) (h : ¬ nthP xs k = nthP ys k) (e : xs = ys) => h (by rw [e])
  unfold TellB
  obtain ⟨E, hE⟩ : ∃ E, E = decide (xs = ys) := ⟨_, rfl⟩
  rw [← hE]
  have HE := hid hE
  clear hE hx hy hl
  by_cases hn : xs.length = ys.length
  · have b1 : ((xs.length : Int) != (ys.length : Int)) = false := by simp [hn]
    have Hn := hid hn
    clear hn
    go_enter Try.func21, Try.ntmps21
    go_wp2
    clear b1
    go_loopw [5] (fun i wr => ∃ k : Nat, k ≤ xs.length ∧ i = .int .i64 k ∧ (∀ j, j < k → nthP xs j = nthP ys j) ∧ Below w.heap.size w wr) (fun i _ => xs.length - (intOf i).toNat)
    case atStart => exact ⟨0, Nat.zero_le _, rfl, fun j hj => absurd hj (by omega), Below.refl _ _⟩
    case round =>
      obtain ⟨k, hk, rfl, hw, hB⟩ := hrel
      obtain ⟨wo, rfl⟩ : ∃ wo : World, wo = wr := ⟨_, rfl⟩
      have Hw := hid hw; have HB := hid hB
      have hxo := Hx.out.mono hB; have hyo := Hy.out.mono hB
      clear hw hB
      by_cases hlt : k < xs.length
      · have hI : (k : Int) < (xs.length : Int) := by omega
        have hI2 : (k : Int) < (ys.length : Int) := by have := Hn.out; omega
        obtain ⟨b, off, rfl, hx, hxx⟩ := hxo.at hlt
        obtain ⟨b2, off2, rfl, hy, hyy⟩ := hyo.at (show k < ys.length by have := Hn.out; omega)
        have e1 : IntKind.i64.wrap ((k : Int) + 1) = (k : Int) + 1 := wrap_i64_of (by omega) (by have := Hl.out; omega)
        have hne := Hne.out k
        obtain ⟨x, hx1⟩ : ∃ x, x = nthP xs k := ⟨_, rfl⟩
        obtain ⟨y, hy1⟩ : ∃ x, x = nthP ys k := ⟨_, rfl⟩
        rw [← hx1] at hx hxx hne
        rw [← hy1] at hy hyy hne
        have HX := hid hx1; have HY := hid hy1; have HNE := hid hne
        obtain ⟨x1, x2⟩ := x
        obtain ⟨y1, y2⟩ := y
        simp only at hx hxx hy hyy
        clear hx1 hy1 hxo hyo hne
        by_cases h1 : x1 = y1
        · by_cases h2 : x2 = y2
          · subst h1 h2
            go_wp2
            go_quiet (fail)
            go_wp2
            go_roundw
            case rel =>
              refine ⟨k + 1, hlt, by go_num, fun j hj => ?_, HB.out.trans (below_drawN _ _ _)⟩
              by_cases ej : j = k
              · subst ej; rw [← HX.out, ← HY.out]
              · exact Hw.out j (by omega)
            case measure => simp [intOf]; omega
          · have HE2 := hid (HE.out.trans (decide_eq_false (HNE.out (by simp [h2]))))
            subst h1
            go_wp2
            go_quiet (fail)
            go_wp2
            go_ret
            exact ⟨by rw [HE2.out]; rfl, HB.out.trans (below_drawN _ _ _)⟩
        · have HE2 := hid (HE.out.trans (decide_eq_false (HNE.out (by simp [h1]))))
          go_wp2
          go_quiet (fail)
          go_wp2
          go_ret
          exact ⟨by rw [HE2.out]; rfl, HB.out.trans (below_drawN _ _ _)⟩
      · have hI : ¬ (k : Int) < (xs.length : Int) := by omega
        have HE2 := hid (HE.out.trans (decide_eq_true (Hext.out Hn.out fun j hj => Hw.out j (by omega))))
        clear hxo hyo
        go_wp2
        go_ret
        exact ⟨by rw [HE2.out]; rfl, HB.out⟩
  · have b1 : ((xs.length : Int) != (ys.length : Int)) = true := by simp; omega
    have b3 : ¬ (xs.length : Int) = (ys.length : Int) := by omega
    have HE2 := hid (HE.out.trans (decide_eq_false (fun e => hn (by rw [e]))))
    clear hn
    go_enter Try.func21, Try.ntmps21
    go_wp2
    go_ret
    exact ⟨by rw [HE2.out]; rfl, Below.refl _ _⟩
end

end Go.Proofs.Ytelgbjfgmpkepaa

namespace Go.Proofs.Ytelgbjfgmpkepaa
open Go.RowKit Go.Shelf

theorem results_c34 {fn : Func} {p : Tmp} (h : fn.results = #[.cell p 34]) (tmps : Array Value) (w : World) (g : Nat) (x y : Value) (hp : tmps.getD p undef = .pointer (some ⟨g, 0, none⟩)) (hg : V2At w g 34 x y) :
    (results fn tmps).run Try.prog w = .ok (.agg #[x, y]) w := by
  rw [results_c1 h, hp]
  simp [asAddr, load34 hg, Result.andThen]
theorem knAt_row {w : World} {b : Nat} {t : TypeId} (xs : List Int) (h : w.heap[b]? = some (.cells (intv xs).toArray t (0, 0))) : IntsAt w (some ⟨b, 0, none⟩) xs := by
  refine .inr ⟨b, 0, rfl, fun j hj => ?_⟩
  rw [cell_of_row _ _ _ _ _ _ h]
  simp only [Nat.zero_add, List.getElem?_toArray, intv_get, if_pos hj]
set_option maxRecDepth 100000 in
set_option maxHeartbeats 1000000 in
theorem at_59 (x y : Int) (w : World) : Calls Try.prog 59 #[.int .i64 x, .int .i64 y] w fun e w' => e = .returned (.agg #[.int .i64 x, .int .i64 y]) ∧ Below w.heap.size w w' := by
  obtain ⟨V, hV, hB, hv⟩ : ∃ V, V = w.alloc (.cells #[.int .i64 0, .int .i64 0] 34) ∧ Below w.heap.size w V ∧ V2At V w.heap.size 34 (.int .i64 0) (.int .i64 0) := ⟨_, rfl, bnew _ _, heap_alloc_new _ _⟩
  have f0 := hv.f0; have f1 := hv.f1; have r0 := hv.c0; have r1 := hv.c1
  have HV := hid hV; have HB := hid hB; have Hv := hid hv
  clear hV hB hv
  go_enter Try.func59, Try.ntmps59
  go_upto_region 1 with (fail)
  rw [← HV.out]
  go_wp2
  refine bodyPost_ret (results_c34 rfl _ _ w.heap.size (.int .i64 x) (.int .i64 y) rfl (Hv.out.set _ _)) rfl ?_
  exact ⟨rfl, below_set2 HB.out (Nat.le_refl _) _ _⟩

def kfour : Kn := ⟨[3, 3, 3, 3], true⟩
set_option maxRecDepth 100000 in
set_option maxHeartbeats 1000000 in
theorem four_54 (w : World) : Calls Try.prog 54 #[] w (KnC w kfour) := by
  obtain ⟨V, hV, hB, hv⟩ : ∃ V, V = w.alloc (.cells #[.slice none 0 0, .bool false] 24) ∧ Below w.heap.size w V ∧ V2At V w.heap.size 24 (.slice none 0 0) (.bool false) := ⟨_, rfl, bnew _ _, heap_alloc_new _ _⟩
  obtain ⟨X, hX, hBX, hx⟩ : ∃ X, X = V.alloc (.cells #[.int .i64 3, .int .i64 3, .int .i64 3, .int .i64 3] 3) ∧ Below V.heap.size V X ∧ X.heap[V.heap.size]? = some (.cells #[.int .i64 3, .int .i64 3, .int .i64 3, .int .i64 3] 3 (0, 0)) := ⟨_, rfl, bnew _ _, heap_alloc_new _ _⟩
  have HV := hid hV; have HX := hid hX; have HB := hid (bstep hB hBX); have Hv := hid (hv.mono hBX)
  have Hi := hid (show IntsAt X (some ⟨V.heap.size, 0, none⟩) [3, 3, 3, 3] from knAt_row [3, 3, 3, 3] hx)
  have Hlt := hid (show w.heap.size < V.heap.size from hv.lt)
  clear hV hB hv hX hBX hx
  unfold KnC kfour
  go_enter Try.func54, Try.ntmps54
  go_upto_region 1 with (fail)
  rw [← HV.out]
  go_wp2_with fail
  rw [← HX.out]
  refine (known_58 true (some ⟨V.heap.size, 0, none⟩) 4 4 X).mono ?_
  rintro e w2 ⟨rfl, hB2⟩
  have Hv2 := hid (Hv.out.mono hB2); have Hi2 := hid (Hi.out.mono hB2); have HB2 := hid (bstep HB.out hB2)
  have f0 := Hv2.out.f0; have f1 := Hv2.out.f1; have r0 := Hv2.out.c0; have r1 := Hv2.out.c1
  clear hB2
  go_wp2
  refine bodyPost_ret (results_c24 rfl _ _ w.heap.size (.slice (some ⟨V.heap.size, 0, none⟩) 4 4) (.bool true) rfl (Hv2.out.set _ _)) rfl ?_
  refine ⟨V.heap.size, rfl, ?_, Nat.le_of_lt Hlt.out, below_set2 HB2.out (Nat.le_refl _) _ _⟩
  exact IntsAt.only (S := fun q => q = w.heap.size) Hi2.out ((setCell_only _ _ _).trans (setCell_only _ _ _)) (fun q off e h => by cases e; have h : V.heap.size = w.heap.size := h; have := Hlt.out; omega)
def kthree : Kn := ⟨[1, 1, 1], false⟩
set_option maxRecDepth 100000 in
set_option maxHeartbeats 1000000 in
theorem three_55 (w : World) : Calls Try.prog 55 #[] w (KnC w kthree) := by
  obtain ⟨V, hV, hB, hv⟩ : ∃ V, V = w.alloc (.cells #[.slice none 0 0, .bool false] 24) ∧ Below w.heap.size w V ∧ V2At V w.heap.size 24 (.slice none 0 0) (.bool false) := ⟨_, rfl, bnew _ _, heap_alloc_new _ _⟩
  obtain ⟨X, hX, hBX, hx⟩ : ∃ X, X = V.alloc (.cells #[.int .i64 1, .int .i64 1, .int .i64 1] 3) ∧ Below V.heap.size V X ∧ X.heap[V.heap.size]? = some (.cells #[.int .i64 1, .int .i64 1, .int .i64 1] 3 (0, 0)) := ⟨_, rfl, bnew _ _, heap_alloc_new _ _⟩
  have HV := hid hV; have HX := hid hX; have HB := hid (bstep hB hBX); have Hv := hid (hv.mono hBX)
  have Hi := hid (show IntsAt X (some ⟨V.heap.size, 0, none⟩) [1, 1, 1] from knAt_row [1, 1, 1] hx)
  have Hlt := hid (show w.heap.size < V.heap.size from hv.lt)
  clear hV hB hv hX hBX hx
  unfold KnC kthree
  go_enter Try.func55, Try.ntmps55
  go_upto_region 1 with (fail)
  rw [← HV.out]
  go_wp2_with fail
  rw [← HX.out]
  refine (known_58 false (some ⟨V.heap.size, 0, none⟩) 3 3 X).mono ?_
  rintro e w2 ⟨rfl, hB2⟩
  have Hv2 := hid (Hv.out.mono hB2); have Hi2 := hid (Hi.out.mono hB2); have HB2 := hid (bstep HB.out hB2)
  have f0 := Hv2.out.f0; have f1 := Hv2.out.f1; have r0 := Hv2.out.c0; have r1 := Hv2.out.c1
  clear hB2
  go_wp2
  refine bodyPost_ret (results_c24 rfl _ _ w.heap.size (.slice (some ⟨V.heap.size, 0, none⟩) 3 3) (.bool false) rfl (Hv2.out.set _ _)) rfl ?_
  refine ⟨V.heap.size, rfl, ?_, Nat.le_of_lt Hlt.out, below_set2 HB2.out (Nat.le_refl _) _ _⟩
  exact IntsAt.only (S := fun q => q = w.heap.size) Hi2.out ((setCell_only _ _ _).trans (setCell_only _ _ _)) (fun q off e h => by cases e; have h : V.heap.size = w.heap.size := h; have := Hlt.out; omega)
def ktwo : Kn := ⟨[3, 3], false⟩
set_option maxRecDepth 100000 in
set_option maxHeartbeats 1000000 in
theorem two_56 (w : World) : Calls Try.prog 56 #[] w (KnC w ktwo) := by
  obtain ⟨V, hV, hB, hv⟩ : ∃ V, V = w.alloc (.cells #[.slice none 0 0, .bool false] 24) ∧ Below w.heap.size w V ∧ V2At V w.heap.size 24 (.slice none 0 0) (.bool false) := ⟨_, rfl, bnew _ _, heap_alloc_new _ _⟩
  obtain ⟨X, hX, hBX, hx⟩ : ∃ X, X = V.alloc (.cells #[.int .i64 3, .int .i64 3] 3) ∧ Below V.heap.size V X ∧ X.heap[V.heap.size]? = some (.cells #[.int .i64 3, .int .i64 3] 3 (0, 0)) := ⟨_, rfl, bnew _ _, heap_alloc_new _ _⟩
  have HV := hid hV; have HX := hid hX; have HB := hid (bstep hB hBX); have Hv := hid (hv.mono hBX)
  have Hi := hid (show IntsAt X (some ⟨V.heap.size, 0, none⟩) [3, 3] from knAt_row [3, 3] hx)
  have Hlt := hid (show w.heap.size < V.heap.size from hv.lt)
  clear hV hB hv hX hBX hx
  unfold KnC ktwo
  go_enter Try.func56, Try.ntmps56
  go_upto_region 1 with (fail)
  rw [← HV.out]
  go_wp2_with fail
  rw [← HX.out]
  refine (known_58 false (some ⟨V.heap.size, 0, none⟩) 2 2 X).mono ?_
  rintro e w2 ⟨rfl, hB2⟩
  have Hv2 := hid (Hv.out.mono hB2); have Hi2 := hid (Hi.out.mono hB2); have HB2 := hid (bstep HB.out hB2)
  have f0 := Hv2.out.f0; have f1 := Hv2.out.f1; have r0 := Hv2.out.c0; have r1 := Hv2.out.c1
  clear hB2
  go_wp2
  refine bodyPost_ret (results_c24 rfl _ _ w.heap.size (.slice (some ⟨V.heap.size, 0, none⟩) 2 2) (.bool false) rfl (Hv2.out.set _ _)) rfl ?_
  refine ⟨V.heap.size, rfl, ?_, Nat.le_of_lt Hlt.out, below_set2 HB2.out (Nat.le_refl _) _ _⟩
  exact IntsAt.only (S := fun q => q = w.heap.size) Hi2.out ((setCell_only _ _ _).trans (setCell_only _ _ _)) (fun q off e h => by cases e; have h : V.heap.size = w.heap.size := h; have := Hlt.out; omega)
def kgood : Kn := ⟨[3, 3, 0], false⟩
set_option maxRecDepth 100000 in
set_option maxHeartbeats 1000000 in
theorem good_57 (w : World) : Calls Try.prog 57 #[] w (KnC w kgood) := by
  obtain ⟨V, hV, hB, hv⟩ : ∃ V, V = w.alloc (.cells #[.slice none 0 0, .bool false] 24) ∧ Below w.heap.size w V ∧ V2At V w.heap.size 24 (.slice none 0 0) (.bool false) := ⟨_, rfl, bnew _ _, heap_alloc_new _ _⟩
  obtain ⟨X, hX, hBX, hx⟩ : ∃ X, X = V.alloc (.cells #[.int .i64 3, .int .i64 3, .int .i64 0] 3) ∧ Below V.heap.size V X ∧ X.heap[V.heap.size]? = some (.cells #[.int .i64 3, .int .i64 3, .int .i64 0] 3 (0, 0)) := ⟨_, rfl, bnew _ _, heap_alloc_new _ _⟩
  have HV := hid hV; have HX := hid hX; have HB := hid (bstep hB hBX); have Hv := hid (hv.mono hBX)
  have Hi := hid (show IntsAt X (some ⟨V.heap.size, 0, none⟩) [3, 3, 0] from knAt_row [3, 3, 0] hx)
  have Hlt := hid (show w.heap.size < V.heap.size from hv.lt)
  clear hV hB hv hX hBX hx
  unfold KnC kgood
  go_enter Try.func57, Try.ntmps57
  go_upto_region 1 with (fail)
  rw [← HV.out]
  go_wp2_with fail
  rw [← HX.out]
  refine (known_58 false (some ⟨V.heap.size, 0, none⟩) 3 3 X).mono ?_
  rintro e w2 ⟨rfl, hB2⟩
  have Hv2 := hid (Hv.out.mono hB2); have Hi2 := hid (Hi.out.mono hB2); have HB2 := hid (bstep HB.out hB2)
  have f0 := Hv2.out.f0; have f1 := Hv2.out.f1; have r0 := Hv2.out.c0; have r1 := Hv2.out.c1
  clear hB2
  go_wp2
  refine bodyPost_ret (results_c24 rfl _ _ w.heap.size (.slice (some ⟨V.heap.size, 0, none⟩) 3 3) (.bool false) rfl (Hv2.out.set _ _)) rfl ?_
  refine ⟨V.heap.size, rfl, ?_, Nat.le_of_lt Hlt.out, below_set2 HB2.out (Nat.le_refl _) _ _⟩
  exact IntsAt.only (S := fun q => q = w.heap.size) Hi2.out ((setCell_only _ _ _).trans (setCell_only _ _ _)) (fun q off e h => by cases e; have h : V.heap.size = w.heap.size := h; have := Hlt.out; omega)

end Go.Proofs.Ytelgbjfgmpkepaa
