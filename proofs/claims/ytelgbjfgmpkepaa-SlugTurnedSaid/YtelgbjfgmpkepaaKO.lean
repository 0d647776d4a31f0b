/- Walks: the reference's needed. Walks: NeededOf, Needed of the reference. Walks: After, NextError of the reference. -/
import Derived.Test.YtelgbjfgmpkepaaKN
import Derived.Test.YtelgbjfgmpkepaaKF
namespace Go.Proofs.Ytelgbjfgmpkepaa
open Go.RowKit Go.Shelf

theorem ix_lt {c : Cnt} (h : c.fine) : c.ix < 4394 := by
  obtain ⟨a, b, d, e, f⟩ := c
  unfold Cnt.fine at h
  unfold Cnt.ix
  simp only at *
  omega
section
variable (c : Cnt) (n tb : Nat) (w : World)
set_option maxRecDepth 100000 in
set_option maxHeartbeats 4000000 in
theorem rNeeded_step (hc : c.fine) (hn : c.g + c.l + c.h + c.b = n) (h0 : 0 < c.cases) (IH : NeedR c.cases) (hT : TabAt w tb n) :
    Calls Try.prog 90 #[.slice (some ⟨tb, 0, none⟩) 4394 4394, .int .i64 (n : Int), rcV c] w (NumT tb n w (nd 99 c)) := by
  obtain ⟨V, hV, hB, hx⟩ := box116 w c
  have HV := hid hV; have HB := hid hB; have Hc := hid hx
  have HTV := hid (hT.mono hB)
  have Htb := hid hT.lt
  have H98 := hid fun (w' : World) => rCases_98 c hc.small w'
  have H99 := hid fun (w' : World) => rIndex_99 c hc.small w'
  unfold TellI at H98 H99
  have c0 := hx.c0; have c1 := hx.c1; have c2 := hx.c2; have c3 := hx.c3
  unfold NumT
  by_cases h1 : c.cases = 1
  · rw [nd_one 99 h1]
    rw [h1] at H98
    unfold rcV at H98 H99 ⊢
    clear hV hB hx hc hn h0 IH hT h1
    go_enter Try.func90, Try.ntmps90
    go_upto_region 1 with (fail)
    rw [← HV.out]
    go_wp2_with fail
    refine (H98.out V).mono ?_
    rintro e w1 ⟨rfl, hB1⟩
    have HT1 := hid (HTV.out.mono hB1); have HO := hid (Only.of_below (S := fun q => q = tb) (bstep HB.out hB1))
    clear hB1
    go_wp2
    go_ret
    exact ⟨rfl, HT1.out, HO.out⟩
  · have b1 : ((c.cases : Int) == 1) = false := by rw [beq_eq_false_iff_ne]; omega
    have Hg := hid hc; have Hn := hid hn; have Hc1 := hid (show 1 < c.cases by omega); have HIH := hid IH
    have hix := ix_lt hc
    obtain ⟨v0, hv0, _, hv⟩ := (HTV.out).get hc hn
    obtain ⟨cc, hcc⟩ : ∃ n, n = c.cases := ⟨_, rfl⟩
    rw [← hcc] at H98 b1
    obtain ⟨ix, hxx⟩ : ∃ n, n = c.ix := ⟨_, rfl⟩
    rw [← hxx] at H99 hix hv0
    have Hix := hid hxx
    have b2 : (ix : Int) < 4394 := by omega
    unfold rcV at H98 H99 ⊢
    obtain ⟨nn, hnn⟩ : ∃ y, y = nd 99 c := ⟨_, rfl⟩
    rw [← hnn] at hv ⊢
    have Hnn := hid hnn
    have hnle : nn ≤ 99 := by rw [hnn]; exact nd_le _ _
    have Hv0 := hid hv0
    clear hV hB hx hc hn h0 IH hT h1 hcc hxx hnn hv0
    by_cases hz : v0 = 0
    · have b3 : ¬ (0 : Int) < (v0 : Int) := by omega
      have Hcf := hid (show c.l ≤ 12 ∧ c.h ≤ 12 by have h := Hg.out; unfold Cnt.fine at h; omega)
      clear hz hv
      go_enter Try.func90, Try.ntmps90
      go_upto_region 1 with (fail)
      rw [← HV.out]
      go_wp2_with fail
      refine (H98.out V).mono ?_
      rintro e w1 ⟨rfl, hB1⟩
      have HT1 := hid (HTV.out.mono hB1); have HB1 := hid (bstep HB.out hB1); have Hc1' := hid (Hc.out.mono hB1)
      have c0 := cstep c0 hB1; have c1 := cstep c1 hB1; have c2 := cstep c2 hB1; have c3 := cstep c3 hB1; have t0 := cstep Hv0.out hB1
      clear hB1
      go_upto_region 3 with (fail)
      go_wp2_with fail
      refine (H99.out w1).mono ?_
      rintro e w2 ⟨rfl, hB2⟩
      have HT2 := hid (HT1.out.mono hB2); have HB2 := hid (bstep HB1.out hB2); have Hc2' := hid (Hc1'.out.mono hB2)
      have t0 := cstep t0 hB2
      clear hB2 c0 c1 c2 c3
      go_wp2
      have Hxl := hid hix
      clear t0 b1 b2 b3 hnle hix
      go_loopw [7, 8, 9, 10, 11] (fun best x1 _ _ _ wr => ∃ k v : Nat, k ≤ c.l + 1 ∧ x1 = .int .i64 (k : Int) ∧ best = .int .i64 (v : Int) ∧ MinS c (fun p => p.a1 < k) v ∧ TabAt wr tb n ∧ Only (fun q => q = tb) w2 wr) (fun _ x1 _ _ _ _ => c.l + 1 - (intOf x1).toNat)
      case atStart => exact ⟨0, 99, Nat.zero_le _, rfl, rfl, MinS.start c (fun p _ h => by omega), HT2.out, Only.refl _ _⟩
      case round =>
        obtain ⟨k, v, hk, rfl, rfl, hM, hTr, hO⟩ := hrel
        obtain ⟨w3, rfl⟩ : ∃ wo : World, wo = wr := ⟨_, rfl⟩
        have hcO : I4 w3 w.heap.size 116 c.l c.h c.b c.z := Hc2'.out.same (hO.block _ Hc2'.out.lt (by have := Htb.out; omega))
        have c0 := hcO.c0
        have hcf := Hcf.out
        have HM := hid hM; have HT := hid hTr; have HO := hid hO; have Hk := hid hk; have HcO := hid hcO
        clear hM hTr hO hcO
        by_cases hkc : k = c.l + 1
        · have hI : ¬ (k : Int) ≤ (c.l : Int) := by omega
          have hend := (HM.out.to (T := fun _ => True) fun p hf _ => by have := hf.k1; omega).end Hc1.out
          rw [← Hnn.out] at hend
          subst hend
          have hvle := HM.out.le
          have ev : IntKind.i64.wrap ((v : Int) + 1) = (v : Int) + 1 := wrap_i64_of (by omega) (by omega)
          have c1 := HcO.out.c1; have c2 := HcO.out.c2; have c3 := HcO.out.c3
          have b2 : (ix : Int) < 4394 := by have := Hxl.out; omega
          clear hkc hcf hk
          go_upto_region 19 with (fail)
          go_wp2_with fail
          refine (H99.out w3).mono ?_
          rintro e w4 ⟨rfl, hB4⟩
          have hT4 := HT.out.mono hB4
          obtain ⟨v1, hv1, hf1, _⟩ := hT4.get Hg.out Hn.out
          rw [← Hix.out] at hv1 hf1
          have hput := hT4.put Hg.out Hn.out ((v : Int) + 1) (by rw [← Hnn.out]; omega)
          rw [← Hix.out] at hput
          have Hput := hid hput
          have HOw := hid (show Only (fun q => q = tb) w (w4.setCell ⟨tb, ix, none⟩ (.int .i64 ((v : Int) + 1))) from Only.setCell (((Only.of_below HB2.out).trans HO.out).trans (Only.of_below hB4)) rfl _)
          clear hB4 hT4 hput c0 c1 c2 c3
          go_wp2
          go_ret
          exact ⟨rfl, Hput.out, HOw.out⟩
        · have hI : (k : Int) ≤ (c.l : Int) := by omega
          have ek : IntKind.i64.wrap ((k : Int) + 1) = (k : Int) + 1 := wrap_i64_of (by omega) (by omega)
          have Hk := hid (show k ≤ c.l by omega)
          clear hkc hcf hk
          go_wp2
          go_loopw [7, 9, 10, 11] (fun best x2 _ _ wr => ∃ j v : Nat, k + j ≤ c.l + 1 ∧ x2 = .int .i64 (j : Int) ∧ best = .int .i64 (v : Int) ∧ MinS c (fun p => p.a1 < k ∨ p.a1 = k ∧ p.b1 < j) v ∧ TabAt wr tb n ∧ Only (fun q => q = tb) w2 wr) (fun _ x2 _ _ _ => c.l + 1 - k - (intOf x2).toNat)
          case atStart => exact ⟨0, v, by have := Hk.out; omega, rfl, rfl, HM.out.to (fun p _ h => by omega), HT.out, HO.out⟩
          case round =>
            obtain ⟨j, v, hj, rfl, rfl, hM, hTr, hO⟩ := hrel
            obtain ⟨w3, rfl⟩ : ∃ wo : World, wo = wr := ⟨_, rfl⟩
            have hcO : I4 w3 w.heap.size 116 c.l c.h c.b c.z := Hc2'.out.same (hO.block _ Hc2'.out.lt (by have := Htb.out; omega))
            have c0 := hcO.c0
            have hcf := Hcf.out
            have hkk := Hk.out
            have HM := hid hM; have HT := hid hTr; have HO := hid hO
            clear hM hTr hO hcO
            have es : IntKind.i64.wrap ((k : Int) + (j : Int)) = (k : Int) + (j : Int) := wrap_i64_of (by omega) (by omega)
            by_cases hjc : k + j = c.l + 1
            · have hI : ¬ (k : Int) + (j : Int) ≤ (c.l : Int) := by omega
              have hfin := hid (HM.out.to (T := fun p => p.a1 < k + 1) fun p hf hp => by have := hf.k1; omega)
              clear hjc hj hcf hkk
              go_wp2
              go_roundw
              case rel => exact ⟨k + 1, v, by have := Hk.out; omega, by go_num, rfl, hfin.out, HT.out, HO.out⟩
              case measure => simp [intOf]; have := Hk.out; omega
            · have hI : (k : Int) + (j : Int) ≤ (c.l : Int) := by omega
              have ej : IntKind.i64.wrap ((j : Int) + 1) = (j : Int) + 1 := wrap_i64_of (by omega) (by omega)
              have Hj := hid (show k + j ≤ c.l by omega)
              clear hjc hj hcf hkk
              go_wp2
              go_loopw [7, 10, 11] (fun best x3 _ wr => ∃ i v : Nat, i ≤ c.h + 1 ∧ x3 = .int .i64 (i : Int) ∧ best = .int .i64 (v : Int) ∧ MinS c (fun p => p.a1 < k ∨ p.a1 = k ∧ (p.b1 < j ∨ p.b1 = j ∧ p.a2 < i)) v ∧ TabAt wr tb n ∧ Only (fun q => q = tb) w2 wr) (fun _ x3 _ _ => c.h + 1 - (intOf x3).toNat)
              case atStart => exact ⟨0, v, Nat.zero_le _, rfl, rfl, HM.out.to (fun p _ h => by omega), HT.out, HO.out⟩
              case round =>
                obtain ⟨i, v, hi, rfl, rfl, hM, hTr, hO⟩ := hrel
                obtain ⟨w3, rfl⟩ : ∃ wo : World, wo = wr := ⟨_, rfl⟩
                have hcO : I4 w3 w.heap.size 116 c.l c.h c.b c.z := Hc2'.out.same (hO.block _ Hc2'.out.lt (by have := Htb.out; omega))
                have c1 := hcO.c1
                have hcf := Hcf.out
                have HM := hid hM; have HT := hid hTr; have HO := hid hO
                clear hM hTr hO hcO
                by_cases hic : i = c.h + 1
                · have hI : ¬ (i : Int) ≤ (c.h : Int) := by omega
                  have hfin := hid (HM.out.to (T := fun p => p.a1 < k ∨ p.a1 = k ∧ p.b1 < j + 1) fun p hf hp => by have := hf.k2; omega)
                  clear hic hi hcf
                  go_wp2
                  go_roundw
                  case rel => exact ⟨j + 1, v, by have := Hj.out; omega, by go_num, rfl, hfin.out, HT.out, HO.out⟩
                  case measure => simp [intOf]; have := Hj.out; omega
                · have hI : (i : Int) ≤ (c.h : Int) := by omega
                  have ei : IntKind.i64.wrap ((i : Int) + 1) = (i : Int) + 1 := wrap_i64_of (by omega) (by omega)
                  have Hi := hid (show i ≤ c.h by omega)
                  clear hic hi hcf
                  go_wp2
                  go_loopw [7, 11] (fun best x4 wr => ∃ o v : Nat, i + o ≤ c.h + 1 ∧ x4 = .int .i64 (o : Int) ∧ best = .int .i64 (v : Int) ∧ MinS c (fun p => p.a1 < k ∨ p.a1 = k ∧ (p.b1 < j ∨ p.b1 = j ∧ (p.a2 < i ∨ p.a2 = i ∧ p.b2 < o))) v ∧ TabAt wr tb n ∧ Only (fun q => q = tb) w2 wr) (fun _ x4 _ => c.h + 1 - i - (intOf x4).toNat)
                  case atStart => exact ⟨0, v, by have := Hi.out; omega, rfl, rfl, HM.out.to (fun p _ h => by omega), HT.out, HO.out⟩
                  case round =>
                    obtain ⟨o, v, ho, rfl, rfl, hM, hTr, hO⟩ := hrel
                    obtain ⟨w3, rfl⟩ : ∃ wo : World, wo = wr := ⟨_, rfl⟩
                    have hcO : I4 w3 w.heap.size 116 c.l c.h c.b c.z := Hc2'.out.same (hO.block _ Hc2'.out.lt (by have := Htb.out; omega))
                    have c1 := hcO.c1
                    have hcf := Hcf.out
                    have hii := Hi.out
                    have HM := hid hM; have HT := hid hTr; have HO := hid hO; have HcO := hid hcO
                    clear hM hTr hO hcO
                    have es2 : IntKind.i64.wrap ((i : Int) + (o : Int)) = (i : Int) + (o : Int) := wrap_i64_of (by omega) (by omega)
                    by_cases hoc : i + o = c.h + 1
                    · have hI2 : ¬ (i : Int) + (o : Int) ≤ (c.h : Int) := by omega
                      have hfin := hid (HM.out.to (T := fun p => p.a1 < k ∨ p.a1 = k ∧ (p.b1 < j ∨ p.b1 = j ∧ p.a2 < i + 1)) fun p hf hp => by have := hf.k2; omega)
                      clear hoc ho hcf hii
                      go_wp2
                      go_roundw
                      case rel => exact ⟨i + 1, v, by have := Hi.out; omega, by go_num, rfl, hfin.out, HT.out, HO.out⟩
                      case measure => simp [intOf]; have := Hi.out; omega
                    · have hI2 : (i : Int) + (o : Int) ≤ (c.h : Int) := by omega
                      have eo : IntKind.i64.wrap ((o : Int) + 1) = (o : Int) + 1 := wrap_i64_of (by omega) (by omega)
                      have Ho := hid (show i + o ≤ c.h by omega)
                      have H100 := hid (both_100 c tb n k j i o w3 Hg.out Hn.out Hc1.out Hj.out Ho.out HIH.out HT.out)
                      unfold BothC rcV at H100
                      have c0 := HcO.out.c0; have c2 := HcO.out.c2; have c3 := HcO.out.c3
                      clear hoc ho hcf hii
                      go_upto_region 18 with (fail)
                      go_wp2_with fail
                      refine H100.out.mono ?_
                      rintro e w4 ⟨u, rfl, hMu, hT4, hO4⟩
                      have HT4 := hid hT4; have HO4 := hid (HO.out.trans hO4)
                      have hfin := hid (HM.out.both hMu (U := fun p => p.a1 < k ∨ p.a1 = k ∧ (p.b1 < j ∨ p.b1 = j ∧ (p.a2 < i ∨ p.a2 = i ∧ p.b2 < o + 1))) fun p hf hp => by unfold Pan4; omega)
                      clear hMu hT4 hO4 c0 c1 c2 c3
                      go_wp2
                      all_goals exact ⟨⟨o + 1, by have := Ho.out; omega, by omega, min v u, by omega, hfin.out, HT4.out, HO4.out⟩, by simp [intOf]; have := Ho.out; omega⟩
    · have b3 : (0 : Int) < (v0 : Int) := by omega
      have hvn : v0 = nn + 1 := hv.resolve_left hz
      have e1 : IntKind.i64.wrap ((v0 : Int) - 1) = (nn : Int) := by rw [wrap_i64_of (by omega) (by omega)]; omega
      clear hz hv hvn
      go_enter Try.func90, Try.ntmps90
      go_upto_region 1 with (fail)
      rw [← HV.out]
      go_wp2_with fail
      refine (H98.out V).mono ?_
      rintro e w1 ⟨rfl, hB1⟩
      have HT1 := hid (HTV.out.mono hB1); have HB1 := hid (bstep HB.out hB1)
      have c0 := cstep c0 hB1; have c1 := cstep c1 hB1; have c2 := cstep c2 hB1; have c3 := cstep c3 hB1; have t0 := cstep Hv0.out hB1
      clear hB1
      go_upto_region 3 with (fail)
      go_wp2_with fail
      refine (H99.out w1).mono ?_
      rintro e w2 ⟨rfl, hB2⟩
      have HT2 := hid (HT1.out.mono hB2); have HB2 := hid (bstep HB1.out hB2)
      have c0 := cstep c0 hB2; have c1 := cstep c1 hB2; have c2 := cstep c2 hB2; have c3 := cstep c3 hB2; have t0 := cstep t0 hB2
      clear hB2
      go_upto_region 4 with (fail)
      go_wp2_with fail
      refine (H99.out w2).mono ?_
      rintro e w3 ⟨rfl, hB3⟩
      have HT3 := hid (HT2.out.mono hB3); have HO3 := hid (Only.of_below (S := fun q => q = tb) (bstep HB2.out hB3)); have t0 := cstep t0 hB3
      clear hB3
      go_wp2
      go_ret
      exact ⟨rfl, HT3.out, HO3.out⟩
end
theorem needR_all : ∀ N, NeedR N
  | 0 => fun _ _ _ _ _ _ _ h _ => absurd h (by omega)
  | N + 1 => fun c n tb w hc hn h0 hlt hT => rNeeded_step c n tb w hc hn h0 (fun c' n' tb' w' hc' hn' h0' hlt' hT' => needR_all N c' n' tb' w' hc' hn' h0' (by omega) hT') hT
/-- what the reference's needed hands back, and what it fills -/
theorem rNeeded_c (c : Cnt) (n tb : Nat) (w : World) (hc : c.fine) (hn : c.g + c.l + c.h + c.b = n) (h0 : 0 < c.cases) (hT : TabAt w tb n) :
    Calls Try.prog 90 #[.slice (some ⟨tb, 0, none⟩) 4394 4394, .int .i64 (n : Int), rcV c] w (NumT tb n w (nd 99 c)) :=
  needR_all (c.cases + 1) c n tb w hc hn h0 (by omega) hT

end Go.Proofs.Ytelgbjfgmpkepaa

namespace Go.Proofs.Ytelgbjfgmpkepaa
open Go.RowKit Go.Shelf

theorem counts_all {xs : List Int} (h : ∀ k, k < xs.length → 0 ≤ nth xs k ∧ nth xs k ≤ 3) : xs.count 0 + xs.count 1 + xs.count 2 + xs.count 3 = xs.length := by
  have key : ∀ k, k ≤ xs.length → (xs.take k).count 0 + (xs.take k).count 1 + (xs.take k).count 2 + (xs.take k).count 3 = k := by
    intro k
    induction k with
    | zero => intro _; simp
    | succ k ih =>
      intro hk
      have hk' : k < xs.length := by omega
      have ih := ih (by omega)
      rw [count_take hk', count_take hk', count_take hk', count_take hk']
      have := h k hk'
      rcases (show nth xs k = 0 ∨ nth xs k = 1 ∨ nth xs k = 2 ∨ nth xs k = 3 by omega) with e | e | e | e <;> rw [e] <;> simp <;> omega
  have := key xs.length (Nat.le_refl _)
  rwa [List.take_length] at this
theorem tab_made {w : World} {tb n : Nat} {t : TypeId} (h : w.heap[tb]? = some (.cells (intv (List.replicate 4394 0)).toArray t (0, 0))) : TabAt w tb n := by
  refine ⟨_, t, h, fun q hq _ => ⟨0, ?_, .inl rfl⟩⟩
  have := ix_lt hq
  simp only [List.getElem?_toArray, intv_get, List.length_replicate, if_pos this]
  rw [nth_eq (by rw [List.length_replicate]; exact this), List.getElem_replicate]
  rfl
section
variable (ka : Option Addr) (kc : Nat) (K : Kn) (w : World)
set_option maxRecDepth 100000 in
set_option maxHeartbeats 4000000 in
theorem neededOf_79 (hk : KnAt w ka K) (hok : Kok K) : Calls Try.prog 79 #[.agg #[.slice ka K.cop.length kc, .bool K.none]] w (TellI w (nd 99 (cntOf K) : Nat)) := by
  obtain ⟨V, hV, hB0, k0, k1⟩ := box1 w (.slice ka K.cop.length kc) (.bool K.none) 24
  have hkV := hk.mono hB0
  have HB0 := hid hB0; have HV := hid hV; have HV0 := hid (Below.refl V.heap.size V)
  have K0 := hid k0; have K1 := hid k1
  have H91 := hid fun (w' : World) (h : Below V.heap.size V w') => countOf_91 ka kc K w' (hkV.mono h) hok.n12 hok.cop
  have hf := cntOf_fine hok.n12
  have hsum : (cntOf K).g + (cntOf K).l + (cntOf K).h + (cntOf K).b = K.cop.length := by
    have h1 := counts_all hok.cop
    unfold cntOf
    simp only
    exact h1
  have H90 := hid fun (tb : Nat) (w' : World) (hT : TabAt w' tb K.cop.length) => rNeeded_c (cntOf K) K.cop.length tb w' hf hsum (by rw [cntOf_cases]; exact cases_pos hok) hT
  obtain ⟨c, hc⟩ : ∃ c, c = cntOf K := ⟨_, rfl⟩
  rw [← hc] at H91 H90 ⊢
  unfold RcC rcV at H91
  unfold NumT rcV at H90
  obtain ⟨N, hN⟩ : ∃ N, N = nd 99 c := ⟨_, rfl⟩
  have hNle : N ≤ 99 := by rw [hN]; exact nd_le _ _
  rw [← hN] at H90 ⊢
  obtain ⟨nn, hnn⟩ : ∃ b, b = K.none := ⟨_, rfl⟩
  rw [← hnn] at k1 K1 HV H91 ⊢
  clear hk hV hB0 hkV hf hsum hc hN hnn hok
  obtain ⟨tz, htz⟩ : ∃ z, z = (intv (List.replicate 4394 0)).toArray := ⟨_, rfl⟩
  have hmk : ∀ w' : World, (Instr.makeSlice 22 (.int .i64 4394) (.int .i64 4394)).run Try.prog w' = .ok (.slice (some ⟨w'.heap.size, 0, none⟩) 4394 4394) (w'.alloc (.cells tz 3)) := fun w' => by
    rw [htz]; exact run_make_ints et22 w' 4394 4394 (by omega) (by omega)
  have Htab := hid fun (w' : World) (b n : Nat) (h : w'.heap[b]? = some (.cells tz 3 (0, 0))) => tab_made (n := n) (by rw [← htz]; exact h)
  clear htz
  go_enter Try.func79, Try.ntmps79
  go_upto_region 1 with (fail)
  rw [← HV.out]
  have a0 := cstep k0 (bnew V (.cells tz 3)); have a1 := cstep k1 (bnew V (.cells tz 3))
  have HVr := hid (Below.refl V.heap.size V); have HVa := hid (bnew V (.cells tz 3))
  go_region_law (first
    | (go_simp; go_at_call 91; refine (H91.out _ (by first | exact Below.refl _ _ | exact below_drawN _ _ 1 | exact HVa.out | exact bstep HVa.out (below_drawN _ _ 1))).mono ?_; rintro e wx ⟨rfl, hB1⟩; have k0 := cstep (by first | exact k0 | exact a0) (bstep (below_drawN _ _ 1) hB1); have b0 := cstep k0 (bnew wx (.cells tz 3)); have HBx := hid hB1; have HBw := hid (bstep HB0.out (bstep (show Below V.heap.size V _ from (by first | exact Below.refl _ _ | exact below_drawN _ _ 1 | exact HVa.out | exact bstep HVa.out (below_drawN _ _ 1))) hB1)); clear a0 a1 k1 hB1)
    | (go_simp; go_at_call 90; refine (H90.out _ _ (by first | exact Htab.out _ _ _ (heap_alloc_new wx _) | exact TabAt.mono (w := (V.alloc (.cells tz 3)).drew) (Htab.out _ V.heap.size _ (heap_alloc_new V _)) HBx.out)).mono ?_; rintro e wy ⟨rfl, _, hO⟩; have HBy := hid (show Below w.heap.size w wy from (by first | exact HBw.out.trans (hO.below HBw.out.size (fun q hq e => by have e : q = V.heap.size := e; have := HB0.out.size; omega)) | exact (bstep HBw.out (bnew wx (.cells tz 3))).trans (hO.below (bstep HBw.out (bnew wx (.cells tz 3))).size (fun q hq e => by have e : q = wx.heap.size := e; have := HBw.out.size; omega)))); clear hO))
  all_goals (
    have b1 : ¬ 99 < N := by omega
    go_wp2
    all_goals (
      go_ret
      exact ⟨rfl, HBy.out⟩))
/-- what Needed tells, as the reference reckons -/
def rneErr (K : Kn) : Int := if knErr K = 0 then (if nd 99 (cntOf K) = 99 then 21 else 0) else knErr K
def rneVal (K : Kn) : Int := if knErr K = 0 then (if nd 99 (cntOf K) = 99 then 0 else ((nd 99 (cntOf K) : Nat) : Int)) else 0
theorem rne_same (K : Kn) : rneErr K = neErr K ∧ rneVal K = neVal K := by
  unfold rneErr rneVal neErr neVal
  by_cases h : knErr K = 0
  · have hok := kok_iff.1 h
    have hf := cntOf_fine hok.n12
    have hcs : (cntOf K).cases ≤ 25 := by
      unfold Cnt.fine at hf
      unfold Cnt.cases
      omega
    have h0 : 0 < (cntOf K).cases := by rw [cntOf_cases]; exact cases_pos hok
    have h2 := nd_two (K := 99) (M := 1000) h0 (by omega) (by omega)
    have h3 := nd_le 99 (cntOf K)
    rw [if_pos h, if_pos h, if_pos h, if_pos h, h2]
    by_cases h4 : nd 99 (cntOf K) = 99
    · simp [h4]
    · rw [if_neg h4, if_neg h4, if_neg h4, if_neg (by omega), if_neg (by omega)]
      exact ⟨rfl, rfl⟩
  · rw [if_neg h, if_neg h, if_neg h, if_neg h]
    exact ⟨rfl, rfl⟩
set_option maxRecDepth 100000 in
set_option maxHeartbeats 2000000 in
theorem rNeeded_39 (hk : KnAt w ka K) (hlk : K.cop.length ≤ 1000000) : Calls Try.prog 39 #[.agg #[.slice ka K.cop.length kc, .bool K.none]] w (TellIE w (neVal K) (neErr K)) := by
  rw [← (rne_same K).1, ← (rne_same K).2]
  obtain ⟨V, hV, hB0, k0, k1⟩ := box1 w (.slice ka K.cop.length kc) (.bool K.none) 24
  have hkV := hk.mono hB0
  have HB0 := hid hB0; have HV := hid hV; have HV0 := hid (Below.refl V.heap.size V)
  have K0 := hid k0; have K1 := hid k1
  have H1 := hid fun (w' : World) (h : Below V.heap.size V w') => rCheckKnown_c ka kc K w' (hkV.mono h) hlk
  have hO : rneVal K = if knErr K = 0 then (if nd 99 (cntOf K) = 99 then 0 else ((nd 99 (cntOf K) : Nat) : Int)) else 0 := rfl
  have hF : rneErr K = if knErr K = 0 then (if nd 99 (cntOf K) = 99 then 21 else 0) else knErr K := rfl
  have Hok := hid (kok_iff (K := K))
  have HkV := hid hkV
  unfold TellI at H1
  obtain ⟨O, hOO⟩ : ∃ O, O = rneVal K := ⟨_, rfl⟩
  obtain ⟨F, hFF⟩ : ∃ F, F = rneErr K := ⟨_, rfl⟩
  rw [← hOO] at hO
  rw [← hFF] at hF
  rw [← hOO, ← hFF]
  obtain ⟨E, hE1⟩ : ∃ E, E = knErr K := ⟨_, rfl⟩
  rw [← hE1] at H1 hO hF Hok
  have H79 := hid fun (h : E = 0) (w' : World) (hB : Below V.heap.size V w') => neededOf_79 ka kc K w' (HkV.out.mono hB) (Hok.out.1 h)
  unfold TellI at H79
  obtain ⟨N, hN⟩ : ∃ N, N = nd 99 (cntOf K) := ⟨_, rfl⟩
  rw [← hN] at hO hF H79
  obtain ⟨nn, hnn⟩ : ∃ b, b = K.none := ⟨_, rfl⟩
  rw [← hnn] at k1 K1 HV H1 H79 ⊢
  clear hnn hOO hFF hE1 hk hV hB0 hkV hlk hN
  unfold TellIE
  by_cases h0 : E = 0
  · rw [if_pos h0] at hO hF
    have G79 := hid (H79.out h0)
    clear H79
    subst h0
    go_enter Try.func39, Try.ntmps39
    go_upto_region 1 with (fail)
    rw [← HV.out]
    go_wp2_with fail
    refine (H1.out _ HV0.out).mono ?_
    rintro e w1 ⟨rfl, hB⟩
    have HB1 := hid (bstep HV0.out hB)
    have k0 := cstep k0 hB
    have k1 := cstep k1 hB
    clear hB
    go_upto_region 3 with (fail)
    go_wp2_with fail
    refine (G79.out _ HB1.out).mono ?_
    rintro e w2 ⟨rfl, hB⟩
    have HB2 := hid (bstep HB1.out hB)
    clear hB
    by_cases hn : N = 99
    · rw [if_pos hn] at hO hF
      have HO := hid hO; have HF := hid hF
      have b1 : ((N : Int) == 99) = true := by simp; omega
      clear hO hF hn
      go_wp2
      go_ret2
      exact ⟨by rw [HO.out, HF.out]; rfl, bstep HB0.out HB2.out⟩
    · rw [if_neg hn] at hO hF
      have HO := hid hO; have HF := hid hF
      have b1 : ((N : Int) == 99) = false := by simp; omega
      clear hO hF hn
      go_wp2
      go_ret2
      exact ⟨by rw [HO.out, HF.out]; rfl, bstep HB0.out HB2.out⟩
  · rw [if_neg h0] at hO hF
    have HO := hid hO; have HF := hid hF
    have b1 : (E != 0) = true := by simpa using h0
    clear hO hF h0
    go_enter Try.func39, Try.ntmps39
    go_upto_region 1 with (fail)
    rw [← HV.out]
    go_wp2_with fail
    refine (H1.out _ HV0.out).mono ?_
    rintro e w1 ⟨rfl, hB⟩
    have HB1 := hid (bstep HV0.out hB)
    have k0 := cstep k0 hB
    have k1 := cstep k1 hB
    clear hB
    go_upto_region 2 with (fail)
    go_wp2_with fail
    refine (H1.out _ HB1.out).mono ?_
    rintro e w2 ⟨rfl, hB⟩
    have HB2 := hid (bstep HB1.out hB)
    clear hB
    go_wp2
    go_ret2
    exact ⟨by rw [HO.out, HF.out]; rfl, bstep HB0.out HB2.out⟩
end

end Go.Proofs.Ytelgbjfgmpkepaa

namespace Go.Proofs.Ytelgbjfgmpkepaa
open Go.RowKit Go.Shelf

/-- the most that the first k results need, as the reference reckons -/
def rafN (K : Kn) (ws : List Int) : Nat → Nat
  | 0 => 0
  | k + 1 => max (rafN K ws k) (if (withL K ws ((k : Int) - 1)).length = 0 then 0 else nd 99 (cntOf (krK K ws ((k : Int) - 1))))
theorem rafN_le (K : Kn) (ws : List Int) : ∀ k, rafN K ws k ≤ 99
  | 0 => Nat.zero_le _
  | k + 1 => by
    have h1 := rafN_le K ws k
    have h2 := nd_le 99 (cntOf (krK K ws ((k : Int) - 1)))
    unfold rafN
    split <;> omega
theorem cases25 {K : Kn} (h : K.cop.length ≤ 12) : (cntOf K).cases ≤ 25 := by
  have hf := cntOf_fine h
  unfold Cnt.fine at hf
  unfold Cnt.cases
  omega
theorem raf_same {K : Kn} (ws : List Int) (hok : Kok K) : ∀ k, afN K ws k = if rafN K ws k = 99 then 1000 else rafN K ws k
  | 0 => rfl
  | k + 1 => by
    have ih := raf_same ws hok k
    have h1 := rafN_le K ws k
    have hkl := knErr_left (M := withL K ws ((k : Int) - 1)) hok.n1 hok.n12 (fun c hc => casesOf_ok hok.cop c (List.mem_filter.1 hc).1)
    have hkr : krK K ws ((k : Int) - 1) = leftK K.cop.length (withL K ws ((k : Int) - 1)) := rfl
    rw [← hkr] at hkl
    unfold afN rafN
    rw [ih]
    by_cases hm : (withL K ws ((k : Int) - 1)).length = 0
    · rw [if_pos hm, if_neg (fun h => (hkl.1 h) hm)]
      simp only [Nat.max_zero]
    · have hk0 := hkl.2 hm
      rw [if_neg hm, if_pos hk0]
      have hokr := kok_iff.1 hk0
      have h25 := cases25 hokr.n12
      have h2 := nd_two (K := 99) (M := 1000) (c := cntOf (krK K ws ((k : Int) - 1))) (by rw [cntOf_cases]; exact cases_pos hokr) (by omega) (by omega)
      have h3 := nd_le 99 (cntOf (krK K ws ((k : Int) - 1)))
      rw [h2]
      generalize nd 99 (cntOf (krK K ws ((k : Int) - 1))) = x at *
      generalize rafN K ws k = y at *
      (repeat' split) <;> omega
def rafErr (K : Kn) (ws : List Int) : Int := if kwErr K ws = 0 then (if rafN K ws 3 = 99 then 21 else 0) else kwErr K ws
def rafVal (K : Kn) (ws : List Int) : Int := if kwErr K ws = 0 then (if rafN K ws 3 = 99 then 0 else ((rafN K ws 3 : Nat) : Int)) else 0
theorem rafE_same (K : Kn) (ws : List Int) : rafErr K ws = afErr K ws ∧ rafVal K ws = afVal K ws := by
  unfold rafErr rafVal afErr afVal
  by_cases h : kwErr K ws = 0
  · obtain ⟨hok, _, _⟩ := kw_ok h
    have h1 := rafN_le K ws 3
    rw [if_pos h, if_pos h, if_pos h, if_pos h, raf_same ws hok 3]
    by_cases h4 : rafN K ws 3 = 99
    · simp [h4]
    · rw [if_neg h4, if_neg h4, if_neg h4, if_neg (by omega), if_neg (by omega)]
      exact ⟨rfl, rfl⟩
  · rw [if_neg h, if_neg h, if_neg h, if_neg h]
    exact ⟨rfl, rfl⟩
/-- the error of Next -/
def nxErr (K : Kn) : Int := if neErr K = 0 ∧ neVal K = 0 then 5 else neErr K
section
variable (ka : Option Addr) (kc : Nat) (K : Kn) (w : World)
set_option maxRecDepth 100000 in
set_option maxHeartbeats 2000000 in
theorem nextError_43 (hk : KnAt w ka K) (hlk : K.cop.length ≤ 1000000) : Calls Try.prog 43 #[.agg #[.slice ka K.cop.length kc, .bool K.none]] w (TellI w (nxErr K)) := by
  obtain ⟨V, hV, hB0, k0, k1⟩ := box1 w (.slice ka K.cop.length kc) (.bool K.none) 24
  have hkV := hk.mono hB0
  have HB0 := hid hB0; have HV := hid hV; have HV0 := hid (Below.refl V.heap.size V)
  have K0 := hid k0; have K1 := hid k1
  have H1 := hid fun (w' : World) (h : Below V.heap.size V w') => rNeeded_39 ka kc K w' (hkV.mono h) hlk
  have hO : nxErr K = if neErr K = 0 ∧ neVal K = 0 then 5 else neErr K := rfl
  unfold TellIE at H1
  unfold TellI
  obtain ⟨O, hOO⟩ : ∃ O, O = nxErr K := ⟨_, rfl⟩
  rw [← hOO] at hO ⊢
  obtain ⟨E, hE⟩ : ∃ E, E = neErr K := ⟨_, rfl⟩
  obtain ⟨N, hN⟩ : ∃ E, E = neVal K := ⟨_, rfl⟩
  rw [← hE, ← hN] at hO H1
  obtain ⟨nn, hnn⟩ : ∃ b, b = K.none := ⟨_, rfl⟩
  rw [← hnn] at k1 K1 HV H1 ⊢
  clear hnn hOO hE hk hV hB0 hkV hlk hN
  by_cases h0 : E = 0
  · by_cases h1 : N = 0
    · rw [if_pos ⟨h0, h1⟩] at hO
      have HO := hid hO
      clear hO
      subst h0 h1
      go_enter Try.func43, Try.ntmps43
      go_upto_region 1 with (fail)
      rw [← HV.out]
      go_wp2_with fail
      refine (H1.out _ HV0.out).mono ?_
      rintro e w1 ⟨rfl, hB⟩
      have HB1 := hid (bstep HV0.out hB)
      have k0 := cstep k0 hB
      have k1 := cstep k1 hB
      clear hB
      go_wp2
      go_ret
      exact ⟨by rw [HO.out]; rfl, bstep HB0.out HB1.out⟩
    · rw [if_neg (fun h => h1 h.2)] at hO
      have HO := hid hO
      have b2 : (N == 0) = false := by simpa using h1
      clear hO h1
      subst h0
      go_enter Try.func43, Try.ntmps43
      go_upto_region 1 with (fail)
      rw [← HV.out]
      go_wp2_with fail
      refine (H1.out _ HV0.out).mono ?_
      rintro e w1 ⟨rfl, hB⟩
      have HB1 := hid (bstep HV0.out hB)
      have k0 := cstep k0 hB
      have k1 := cstep k1 hB
      clear hB
      go_wp2
      go_ret
      exact ⟨by rw [HO.out]; rfl, bstep HB0.out HB1.out⟩
  · rw [if_neg (fun h => h0 h.1)] at hO
    have HO := hid hO
    have b2 : (E == 0) = false := by simpa using h0
    clear hO h0
    go_enter Try.func43, Try.ntmps43
    go_upto_region 1 with (fail)
    rw [← HV.out]
    go_wp2_with fail
    refine (H1.out _ HV0.out).mono ?_
    rintro e w1 ⟨rfl, hB⟩
    have HB1 := hid (bstep HV0.out hB)
    have k0 := cstep k0 hB
    have k1 := cstep k1 hB
    clear hB
    go_wp2
    go_ret
    exact ⟨by rw [HO.out]; rfl, bstep HB0.out HB1.out⟩
end
section
variable (ka : Option Addr) (kc : Nat) (K : Kn) (wa : Option Addr) (wc : Nat) (ws : List Int) (w : World)
set_option maxRecDepth 100000 in
set_option maxHeartbeats 4000000 in
theorem rAfter_41 (hk : KnAt w ka K) (hlk : K.cop.length ≤ 1000000) (hw : IntsAt w wa ws) (hl : ws.length ≤ 1000000) : Calls Try.prog 41 #[.agg #[.slice ka K.cop.length kc, .bool K.none], .slice wa ws.length wc] w (TellIE w (afVal K ws) (afErr K ws)) := by
  rw [← (rafE_same K ws).1, ← (rafE_same K ws).2]
  obtain ⟨V, hV, hB0, k0, k1⟩ := box1 w (.slice ka K.cop.length kc) (.bool K.none) 24
  have hkV := hk.mono hB0
  have HB0 := hid hB0; have HV := hid hV; have HV0 := hid (Below.refl V.heap.size V)
  have K0 := hid k0; have K1 := hid k1
  have hwV := hw.mono hB0
  have H1 := hid fun (w' : World) (h : Below V.heap.size V w') => rCheckWeighing_c ka kc K wa wc ws w' (hkV.mono h) hlk (hwV.mono h) hl
  have HkV := hid hkV
  have HwV := hid hwV
  have hO : rafVal K ws = if kwErr K ws = 0 then (if rafN K ws 3 = 99 then 0 else ((rafN K ws 3 : Nat) : Int)) else 0 := rfl
  have hF : rafErr K ws = if kwErr K ws = 0 then (if rafN K ws 3 = 99 then 21 else 0) else kwErr K ws := rfl
  have Hok := hid (kw_ok (K := K) (ws := ws))
  unfold TellI at H1
  obtain ⟨O, hOO⟩ : ∃ O, O = rafVal K ws := ⟨_, rfl⟩
  obtain ⟨F, hFF⟩ : ∃ F, F = rafErr K ws := ⟨_, rfl⟩
  rw [← hOO] at hO
  rw [← hFF] at hF
  rw [← hOO, ← hFF]
  obtain ⟨E, hE1⟩ : ∃ E, E = kwErr K ws := ⟨_, rfl⟩
  rw [← hE1] at H1 hO hF Hok
  obtain ⟨nn, hnn⟩ : ∃ b, b = K.none := ⟨_, rfl⟩
  rw [← hnn] at k1 K1 HV H1 ⊢
  have Hnn := hid hnn
  clear hnn hOO hFF hE1 hk hw hV hB0 hkV hl hlk hwV
  unfold TellIE
  by_cases h0 : E = 0
  · obtain ⟨hok, hwok, _⟩ := Hok.out h0
    rw [if_pos h0] at hO hF
    have hn12 := hok.n12
    have Hok2 := hid hok; have Hwok := hid hwok
    have HL := hid fun (r : Int) (w' : World) (h : Below V.heap.size V w') => with_c ka kc K wa wc ws r w' (HkV.out.mono h) Hok2.out (HwV.out.mono h) Hwok.out
    rw [← Hnn.out] at HL
    unfold ListC at HL
    subst h0
    have HO := hid hO; have HF := hid hF
    clear hO hF hok hwok
    go_enter Try.func41, Try.ntmps41
    go_upto_region 1 with (fail)
    rw [← HV.out]
    go_wp2_with fail
    refine (H1.out _ HV0.out).mono ?_
    rintro e w1 ⟨rfl, hB⟩
    have HB1 := hid (bstep HV0.out hB)
    have k0 := cstep k0 hB
    have k1 := cstep k1 hB
    clear hB
    go_wp2
    go_loopw [6, 7, 8] (fun n i _ wr => ∃ k : Nat, k ≤ 3 ∧ i = .int .i64 ((k : Int) - 1) ∧ n = .int .i64 ((rafN K ws k : Nat) : Int) ∧ Below V.heap.size V wr) (fun _ i _ _ => 3 - ((intOf i) + 1).toNat)
    case atStart => exact ⟨0, by omega, rfl, rfl, HB1.out⟩
    case round =>
      obtain ⟨k, hk, rfl, rfl, hB⟩ := hrel
      obtain ⟨wo, rfl⟩ : ∃ wo : World, wo = wr := ⟨_, rfl⟩
      have k0 := cstep K0.out hB; have k1 := cstep K1.out hB
      have HBo := hid hB
      obtain ⟨i, hi⟩ : ∃ i : Int, i = (k : Int) - 1 := ⟨_, rfl⟩
      obtain ⟨N, hN⟩ : ∃ N, N = rafN K ws k := ⟨_, rfl⟩
      rw [← hi, ← hN]
      have hNle : N ≤ 99 := by rw [hN]; exact rafN_le _ _ _
      clear hB
      by_cases hk3 : k = 3
      · subst hk3
        have hO := HO.out; have hF := HF.out
        rw [← hN] at hO hF
        have b1 : ¬ i ≤ 1 := by omega
        clear hi hN hk
        by_cases hn : N = 99
        · rw [if_pos hn] at hO hF
          have HO := hid hO; have HF := hid hF
          have b3 : ((N : Int) == 99) = true := by simp; omega
          clear hO hF hn hNle
          go_wp2
          go_ret2
          exact ⟨by rw [HO.out, HF.out]; rfl, bstep HB0.out HBo.out⟩
        · rw [if_neg hn] at hO hF
          have HO := hid hO; have HF := hid hF
          have b3 : ((N : Int) == 99) = false := by simp; omega
          clear hO hF hn hNle
          go_wp2
          go_ret2
          exact ⟨by rw [HO.out, HF.out]; rfl, bstep HB0.out HBo.out⟩
      · have b1 : i ≤ 1 := by omega
        have ei : IntKind.i64.wrap (i + 1) = i + 1 := wrap_i64_of (by omega) (by omega)
        have hstep : rafN K ws (k + 1) = max N (if (withL K ws i).length = 0 then 0 else nd 99 (cntOf (krK K ws i))) := by rw [hN, hi]; rfl
        have Hcok := hid (fun c (hc : c ∈ withL K ws i) => casesOf_ok Hok2.out.cop c (List.mem_filter.1 hc).1)
        have Hnd := hid (List.Sublist.nodup List.filter_sublist (casesOf_nodup K) : (withL K ws i).Nodup)
        have Hml := hid (show (withL K ws i).length ≤ 1000000 by
          have h1 := List.length_filter_le (fun c => decide (resultOf ws c = i)) (casesOf K)
          have h2 := casesOf_len K
          unfold withL
          omega)
        have hkl := knErr_left (M := withL K ws i) Hok2.out.n1 Hok2.out.n12 Hcok.out
        have HL2 := HL.out i
        have hCe : krK K ws i = leftK K.cop.length (withL K ws i) := rfl
        obtain ⟨M, hM⟩ : ∃ M, M = withL K ws i := ⟨_, rfl⟩
        rw [← hM] at hstep Hcok Hnd Hml hkl HL2 hCe
        have HL2 := hid HL2
        obtain ⟨C, hC⟩ : ∃ C, C = krK K ws i := ⟨_, rfl⟩
        rw [← hC] at hstep hCe
        rw [← hCe] at hkl
        have Hst := hid hstep; have Hkl := hid hkl; have Hki := hid hi; have Hkk := hid (show k < 3 by omega); have HCe := hid hCe
        have Hn12 := hid hn12
        clear hi hN hM hC hCe hstep hkl hk hk3
        go_wp2_with fail
        refine (HL2.out _ HBo.out).mono ?_
        rintro e w2 ⟨ma, mc, rfl, hM, ⟨_, _⟩, hB⟩
        have HB2 := hid (bstep HBo.out hB)
        have k0 := cstep k0 hB
        have k1 := cstep k1 hB
        clear hB
        have HM2 := hid hM
        clear hM
        by_cases hz : M.length = 0
        · have hst := Hst.out
          rw [if_pos hz] at hst
          have Hst := hid hst
          have b4 : ¬ (0 : Int) < (M.length : Int) := by omega
          have b5 : ¬ 0 < M.length := by omega
          clear hst hz
          go_wp2
          go_roundw
          case rel => exact ⟨k + 1, Hkk.out, by rw [Hki.out]; congr 1; omega, by rw [Hst.out]; simp, HB2.out⟩
          case measure => simp [intOf]; have := Hki.out; omega
        · have hst := Hst.out
          rw [if_neg hz] at hst
          have HLc := hid (left_c K.cop.length ma mc M w2 (by omega) HM2.out Hml.out Hnd.out Hcok.out)
          unfold KnC at HLc
          rw [← HCe.out] at HLc
          have H79 := hid fun (b : Nat) (w' : World) (h : KnAt w' (some ⟨b, 0, none⟩) C) => neededOf_79 (some ⟨b, 0, none⟩) C.cop.length C w' h (kok_iff.1 (Hkl.out.2 hz))
          unfold TellI at H79
          obtain ⟨nx, hnx⟩ : ∃ y, y = nd 99 (cntOf C) := ⟨_, rfl⟩
          rw [← hnx] at H79 hst
          have Hmx := hid (show (if N < nx then (nx : Int) else (N : Int)) = ((rafN K ws (k + 1) : Nat) : Int) by rw [hst]; split <;> omega)
          have b4 : (0 : Int) < (M.length : Int) := by omega
          have b5 : 0 < M.length := by omega
          clear hst hz hnx
          go_wp2_with fail
          refine HLc.out.mono ?_
          rintro e w3 ⟨b, rfl, hK, _, hB⟩
          have HB3 := hid (bstep HB2.out hB); have HK3 := hid hK
          clear hB hK
          go_wp2_with fail
          refine (H79.out b w3 HK3.out).mono ?_
          rintro e w4 ⟨rfl, hB⟩
          have HB4 := hid (bstep HB3.out hB)
          clear hB
          go_wp2
          exact ⟨⟨k + 1, Hkk.out, by rw [Hki.out]; congr 1; omega, by rw [Hmx.out], HB4.out⟩, by simp [intOf]; have := Hki.out; have := Hkk.out; omega⟩
  · rw [if_neg h0] at hO hF
    have HO := hid hO; have HF := hid hF
    have b1 : (E != 0) = true := by simpa using h0
    clear hO hF h0
    go_enter Try.func41, Try.ntmps41
    go_upto_region 1 with (fail)
    rw [← HV.out]
    go_wp2_with fail
    refine (H1.out _ HV0.out).mono ?_
    rintro e w1 ⟨rfl, hB⟩
    have HB1 := hid (bstep HV0.out hB)
    have k0 := cstep k0 hB
    have k1 := cstep k1 hB
    clear hB
    go_upto_region 2 with (fail)
    go_wp2_with fail
    refine (H1.out _ HB1.out).mono ?_
    rintro e w2 ⟨rfl, hB⟩
    have HB2 := hid (bstep HB1.out hB)
    clear hB
    go_wp2
    go_ret2
    exact ⟨by rw [HO.out, HF.out]; rfl, bstep HB0.out HB2.out⟩
end

end Go.Proofs.Ytelgbjfgmpkepaa
