/- The law SlugAlone. -/
import Derived.Test.YtelgbjfgmpkepaaKT
import Derived.Test.YtelgbjfgmpkepaaXQc
namespace Go.Proofs.Ytelgbjfgmpkepaa
open Go.RowKit Go.Shelf

/-- coppers of one kind -/
def aloneK (n : Nat) (kd : Int) : Kn := ⟨List.replicate n kd, false⟩
theorem boundN_pow {n : Nat} (h : n ≤ 12) : n ≤ 3 ^ boundN n := by
  have h2 : ∀ n, n < 13 → n ≤ 3 ^ boundN n := by decide
  exact h2 n (by omega)
theorem boundN_least {n m : Nat} (h0 : 0 < n) (h : n ≤ 12) (hm : n ≤ 3 ^ m) : boundN n ≤ m := by
  have h3 : boundN n ≤ 3 := by unfold boundN; split <;> (try split) <;> (try split) <;> omega
  rcases Nat.lt_or_ge m 3 with h4 | h4
  · have h2 : ∀ m, m < 3 → ∀ n, n < 13 → n ≤ 3 ^ m → boundN n ≤ m := by decide
    exact h2 m h4 n (by omega) hm
  · omega
theorem count_rep (n : Nat) (a b : Int) : (List.replicate n a).count b = if a = b then n else 0 := by
  rw [List.count_replicate]
  by_cases h : a = b
  · simp [h]
  · simp [h]
theorem alone_val {n : Nat} {kd : Int} (h1 : 1 ≤ n) (h12 : n ≤ 12) (hk : kd = 1 ∨ kd = 2) : neVal (aloneK n kd) = ((boundN n : Nat) : Int) ∧ neErr (aloneK n kd) = 0 ∧ bdVal (aloneK n kd) = ((boundN n : Nat) : Int) ∧ knErr (aloneK n kd) = 0 := by
  have hok : Kok (aloneK n kd) := by
    refine ⟨by simp [aloneK]; omega, by simp [aloneK]; omega, fun k hk2 => ?_, .inr ⟨0, by simp [aloneK]; omega, ?_⟩⟩
    · simp [aloneK] at hk2
      rw [nth_eq (by simp [aloneK]; exact hk2)]
      simp [aloneK]
      omega
    · rw [nth_eq (by simp [aloneK]; omega)]
      simp [aloneK]
      omega
  have hkn := kok_iff.2 hok
  have hnd : nd 1000 (cntOf (aloneK n kd)) = boundN n ∧ (cntOf (aloneK n kd)).cases = n := by
    have hL : nd 1000 ⟨0, n, 0, 0, 0⟩ = boundN n := by
      have hc := can_light (g := 0) (w := boundN n) (n := n) (by omega) (boundN_pow h12)
      have hu := (can_nd 1000 hc).1
      have hc1 := (can_nd 1000 hc).2
      have hn := nd_can (K := 1000) (c := ⟨0, n, 0, 0, 0⟩) _ (Nat.le_refl _) (by simp only [Cnt.cases]; omega) (by simp only [Cnt.cases] at hc1; omega)
      have hb := hn.bound
      simp only [Cnt.cases] at hb
      have := boundN_least (n := n) (by omega) h12 (by omega : n ≤ 3 ^ nd 1000 ⟨0, n, 0, 0, 0⟩)
      omega
    rcases hk with rfl | rfl
    · have e : cntOf (aloneK n 1) = ⟨0, n, 0, 0, 0⟩ := by unfold cntOf aloneK; simp [count_rep]
      rw [e]; exact ⟨hL, by simp only [Cnt.cases]; omega⟩
    · have e : cntOf (aloneK n 2) = (⟨0, n, 0, 0, 0⟩ : Cnt).flip := by unfold cntOf aloneK Cnt.flip; simp [count_rep]
      rw [e, nd_flip (by simp only [Cnt.cases]; omega) (by simp only [Cnt.cases]; omega)]
      exact ⟨hL, by simp only [Cnt.flip, Cnt.cases]; omega⟩
  have hb : boundN n ≤ 3 := by unfold boundN; split <;> (try split) <;> (try split) <;> omega
  unfold neVal neErr bdVal
  rw [if_pos hkn, if_pos hkn, if_pos hkn, hnd.1, if_neg (by omega), if_neg (by omega), ← cntOf_cases, hnd.2]
  exact ⟨rfl, rfl, rfl, hkn⟩
section
variable (c : Nat) (heavy : Bool) (w : World)
set_option maxRecDepth 100000 in
set_option maxHeartbeats 8000000 in
theorem slugAlone_c (hworks : WorksC) (hc : c < 256) : Calls Try.prog 13 #[.int .u8 (c : Int), .bool heavy] w (TellB w true) := by
  have HW := hid hworks
  unfold WorksC TellB at *
  obtain ⟨kd, hkd, hkd2⟩ : ∃ kd : Int, kd = (if heavy = true then 2 else 1) ∧ (kd = 1 ∨ kd = 2) := by
    cases heavy
    · exact ⟨1, rfl, .inl rfl⟩
    · exact ⟨2, rfl, .inr rfl⟩
  obtain ⟨V, hV, hBV, hv⟩ : ∃ V, V = w.alloc (.cells #[.slice none 0 0, .bool false] 24) ∧ Below w.heap.size w V ∧ V2At V w.heap.size 24 (.slice none 0 0) (.bool false) := ⟨_, rfl, bnew _ _, heap_alloc_new _ _⟩
  have hzV : V.heap.size = w.heap.size + 1 := by rw [hV]; simp
  obtain ⟨n, hn⟩ : ∃ n, n = 1 + c % 12 := ⟨_, rfl⟩
  have hn12 : n ≤ 12 := by omega
  have hn1 : 1 ≤ n := by omega
  have e1 : IntKind.i64.wrap (c : Int) = (c : Int) := wrap_i64_of (by omega) (by omega)
  have e2 : (c : Int).tmod 12 = ((c % 12 : Nat) : Int) := tmod_nat _ _
  have e3 : IntKind.i64.wrap (1 + ((c % 12 : Nat) : Int)) = (n : Int) := by rw [wrap_i64_of (by omega) (by omega)]; omega
  have e4 : IntKind.i64.wrap ((c % 12 : Nat) : Int) = ((c % 12 : Nat) : Int) := wrap_i64_of (by omega) (by omega)
  have en : 1 + (c : Int) % 12 = (n : Int) := by omega
  have hval := alone_val hn1 hn12 hkd2
  obtain ⟨b, hb⟩ : ∃ b, b = w.heap.size := ⟨_, rfl⟩
  rw [← hb] at hv hzV
  have HV := hid hV; have HBV := hid hBV; have Hv := hid hv; have HzV := hid hzV; have Hval := hid hval; have Hn12 := hid hn12; have Hb := hid hb; have Hkd := hid hkd
  have H1 := hid fun (ka : Option Addr) (kc : Nat) (w' : World) (h : KnAt w' ka (aloneK n kd)) => needed_38 ka kc (aloneK n kd) w' h (by simp [aloneK]; omega)
  have H2 := hid fun (ka : Option Addr) (kc : Nat) (w' : World) (h : KnAt w' ka (aloneK n kd)) => bound_36 ka kc (aloneK n kd) w' h (by simp [aloneK]; omega)
  have H3 := hid fun (w' : World) => boundOf_c n w' (by omega)
  rw [hval.1, hval.2.1] at H1
  rw [hval.2.2.1, hval.2.2.2] at H2
  unfold TellIE at H1 H2
  unfold TellI at H3
  obtain ⟨B, hB⟩ : ∃ B, B = boundN n := ⟨_, rfl⟩
  rw [← hB] at H1 H2 H3
  have hlK : (aloneK n kd).cop.length = n := by simp [aloneK]
  have hlK2 : (aloneK n kd).none = false := rfl
  rw [hlK, hlK2] at H1 H2
  clear hworks hc hV hBV hv hzV hn hn12 hn1 hval hB hlK hlK2 hb hkd hkd2
  go_enter Try.func13, Try.ntmps13
  go_upto_region 3 with (fail)
  rw [← HV.out, ← Hb.out]
  clear e1 e2 e3 e4 en
  go_wp2
  go_loopw [7, 8] (fun i _ wr => ∃ (k : Nat) (ao : Option Addr) (cap : Nat), k ≤ n ∧ i = .int .i64 k ∧ V2At wr b 24 (.slice ao k cap) (.bool false) ∧ OwnI 3 (b + 1) wr ao k cap (List.replicate k kd) ∧ Below w.heap.size w wr) (fun i _ _ => n - (intOf i).toNat)
  case atStart => exact ⟨0, none, 0, Nat.zero_le _, rfl, Hv.out, OwnI.nil _ _ _, HBV.out⟩
  case round =>
    obtain ⟨k, ao, cap, hk, rfl, hv, ho, hB⟩ := hrel
    obtain ⟨wo, rfl⟩ : ∃ wo : World, wo = wr := ⟨_, rfl⟩
    by_cases hlt : k < n
    · have hI : (k : Int) < (n : Int) := by omega
      have e1 : IntKind.i64.wrap ((k : Int) + 1) = (k : Int) + 1 := wrap_i64_of (by omega) (by have := Hn12.out; omega)
      have c0 := hv.c0
      obtain ⟨W1, hW1⟩ : ∃ W1, W1 = wo.alloc (.cells #[.int .i64 kd] 3) := ⟨_, rfl⟩
      have hB1 : Below wo.heap.size wo W1 := by rw [hW1]; exact bnew _ _
      have Hcs := hid (show CellsAt W1 (some ⟨wo.heap.size, 0, none⟩) (intv [kd]) by rw [hW1]; exact CellsAt.of_heap (heap_alloc_new _ _) fun j v hj => by simpa [intv] using hj)
      have Hone := hid (intv_one [kd])
      have Ho1 := hid (ho.kept hB1)
      have Hv1 := hid (hv.mono hB1)
      have HB1 := hid (bstep hB hB1)
      have Hk1 := hid (show k + 1 ≤ 1000000 by have := Hn12.out; omega)
      have Hsz := hid (show b + 1 ≤ W1.heap.size by have := Hv1.out.lt; omega)
      have HW1 := hid hW1
      have hkd := Hkd.out
      have Hlt := hid hlt
      clear hv ho hB hW1 hB1 hk hlt
      cases heavy with
      | false =>
        obtain rfl : kd = 1 := by simpa using hkd
        clear hkd
        go_wp2_with (at_builtin; rw [← HW1.out]; refine wpList_appV et22 W1 rfl (.tmp 24) (.tmp 26) rfl (b + 1) ao k cap _ rfl Ho1.out.2 (some ⟨wo.heap.size, 0, none⟩) 1 1 _ rfl Hcs.out rfl Hone.out (fun h => by cases h) Hk1.out Hsz.out ?_)
        intro ao' cap' w' hB' hown' _ _
        have hv' : V2At w' b 24 (.slice ao k cap) (.bool false) := (hB'.block _ (Nat.lt_succ_self b)).trans Hv1.out
        have c0 := hv'.c0; have f0 := hv'.f0
        have Hend := hid (show V2At (w'.setCell ⟨b, 0, none⟩ (.slice ao' (k + 1) cap')) b 24 (.slice ao' (k + 1) cap') (.bool false) ∧ OwnI 3 (b + 1) (w'.setCell ⟨b, 0, none⟩ (.slice ao' (k + 1) cap')) ao' (k + 1) cap' (List.replicate (k + 1) 1) ∧ Below w.heap.size w (w'.setCell ⟨b, 0, none⟩ (.slice ao' (k + 1) cap')) from
          ⟨heap_setCell_same w' b 0 _ 24 _ hv', by
            have h := OwnI.app (List.length_replicate (n := k) (a := (1 : Int))) (rfl : ([1] : List Int).length = 1) hown'
            rw [show List.replicate (k + 1) (1 : Int) = List.replicate k 1 ++ [1] from List.replicate_succ']
            exact h.keptIf fun g _ hg _ => Below.heap_setCell _ _ _ _ (fun e => by have e : g = b := e; omega),
           (HB1.out.trans (hB'.mono (by have := Hb.out; omega))).setCell (p := ⟨b, 0, none⟩) (by have := Hb.out; simp only; omega) _⟩)
        clear hB' hown' hv'
        go_wp2
        go_roundw
        case rel => exact ⟨k + 1, ao', cap', Hlt.out, by go_num, Hend.out.1, Hend.out.2.1, Hend.out.2.2⟩
        case measure => simp [intOf]; have := Hlt.out; omega
      | true =>
        obtain rfl : kd = 2 := by simpa using hkd
        clear hkd
        go_wp2_with (at_builtin; rw [← HW1.out]; refine wpList_appV et22 W1 rfl (.tmp 24) (.tmp 26) rfl (b + 1) ao k cap _ rfl Ho1.out.2 (some ⟨wo.heap.size, 0, none⟩) 1 1 _ rfl Hcs.out rfl Hone.out (fun h => by cases h) Hk1.out Hsz.out ?_)
        intro ao' cap' w' hB' hown' _ _
        have hv' : V2At w' b 24 (.slice ao k cap) (.bool false) := (hB'.block _ (Nat.lt_succ_self b)).trans Hv1.out
        have c0 := hv'.c0; have f0 := hv'.f0
        have Hend := hid (show V2At (w'.setCell ⟨b, 0, none⟩ (.slice ao' (k + 1) cap')) b 24 (.slice ao' (k + 1) cap') (.bool false) ∧ OwnI 3 (b + 1) (w'.setCell ⟨b, 0, none⟩ (.slice ao' (k + 1) cap')) ao' (k + 1) cap' (List.replicate (k + 1) 2) ∧ Below w.heap.size w (w'.setCell ⟨b, 0, none⟩ (.slice ao' (k + 1) cap')) from
          ⟨heap_setCell_same w' b 0 _ 24 _ hv', by
            have h := OwnI.app (List.length_replicate (n := k) (a := (2 : Int))) (rfl : ([2] : List Int).length = 1) hown'
            rw [show List.replicate (k + 1) (2 : Int) = List.replicate k 2 ++ [2] from List.replicate_succ']
            exact h.keptIf fun g _ hg _ => Below.heap_setCell _ _ _ _ (fun e => by have e : g = b := e; omega),
           (HB1.out.trans (hB'.mono (by have := Hb.out; omega))).setCell (p := ⟨b, 0, none⟩) (by have := Hb.out; simp only; omega) _⟩)
        clear hB' hown' hv'
        go_wp2
        go_roundw
        case rel => exact ⟨k + 1, ao', cap', Hlt.out, by go_num, Hend.out.1, Hend.out.2.1, Hend.out.2.2⟩
        case measure => simp [intOf]; have := Hlt.out; omega
    · have hI : ¬ (k : Int) < (n : Int) := by omega
      obtain rfl : k = n := by omega
      have c0 := hv.c0; have c1 := hv.c1
      have HK := hid (show KnAt wo ao (aloneK k kd) from ho.at)
      have HBo := hid hB; have Hvo := hid hv
      have E1 : ((B : Int) == (B : Int)) = true := by simp
      clear hv ho hB hk hlt
      go_wp2_with fail
      refine (H1.out ao cap wo HK.out).mono ?_
      rintro e w1 ⟨rfl, hB⟩
      have c0 := cstep c0 hB; have c1 := cstep c1 hB
      have HK1 := hid (show KnAt w1 ao (aloneK k kd) from IntsAt.mono HK.out hB); have HB1 := hid (bstep HBo.out hB)
      clear hB
      go_wp2_with fail
      refine (H2.out ao cap w1 HK1.out).mono ?_
      rintro e w2 ⟨rfl, hB⟩
      have HB2 := hid (bstep HB1.out hB)
      clear hB
      go_wp2_with fail
      refine (H3.out w2).mono ?_
      rintro e w3 ⟨rfl, hB⟩
      have HB3 := hid (bstep HB2.out hB)
      clear hB
      go_wp2_with fail
      refine (HW.out w3).mono ?_
      rintro e w4 ⟨rfl, hB⟩
      have HB4 := hid (bstep HB3.out hB)
      clear hB
      go_wp2
      go_ret
      exact ⟨rfl, HB4.out⟩
end

end Go.Proofs.Ytelgbjfgmpkepaa
