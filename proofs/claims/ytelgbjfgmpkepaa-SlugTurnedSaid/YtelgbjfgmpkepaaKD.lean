/- Walk of the reference: CasesOf. Walk of the reference: CheckKnown. Walk: the cases that a balance has. Walks: the result of a weighing, the error of a weighing. Walk of the reference: the error of a weighing. -/
import Derived.Test.YtelgbjfgmpkepaaKC
namespace Go.Proofs.Ytelgbjfgmpkepaa
open Go.RowKit Go.Shelf

/-- the cases of a copper, of the first j kinds -/
def copTo (K : Kn) (i : Nat) : Nat → List (Int × Int)
  | 0 => []
  | j + 1 => copTo K i j ++ (if hasKind (nth K.cop i) ((j : Int) + 1) = true then [((i : Int), (j : Int) + 1)] else [])
theorem copTo_two (K : Kn) (i : Nat) : copTo K i 2 = copCases K i := by
  have e1 : ((0 : Nat) : Int) + 1 = 1 := rfl
  have e2 : ((1 : Nat) : Int) + 1 = 2 := rfl
  unfold copCases
  simp only [copTo, e1, e2, List.nil_append]
theorem copTo_len (K : Kn) (i : Nat) : ∀ j, (copTo K i j).length ≤ j
  | 0 => Nat.le_refl _
  | j + 1 => by have := copTo_len K i j; simp only [copTo, List.length_append]; split <;> simp <;> omega
section
variable (ka : Option Addr) (kc : Nat) (K : Kn) (w : World)
set_option maxRecDepth 100000 in
set_option maxHeartbeats 2000000 in
theorem casesOf_c (hk : KnAt w ka K) (hn : K.cop.length ≤ 1000) (hc : ∀ k, k < K.cop.length → 0 ≤ nth K.cop k ∧ nth K.cop k ≤ 3) : Calls Try.prog 46 #[.agg #[.slice ka K.cop.length kc, .bool K.none]] w (ListC w (casesOf K)) := by
  obtain ⟨V, hV, hB0, k0, k1⟩ := box1 w (.slice ka K.cop.length kc) (.bool K.none) 24
  have hkV := hk.mono hB0
  have HB0 := hid hB0; have HV := hid hV; have HV0 := hid (Below.refl V.heap.size V)
  have K0 := hid k0; have K1 := hid k1
  have HkV := hid hkV
  have Hn := hid hn; have Hc := hid hc
  have hE : casesOf K = casesTo K K.cop.length ++ (if K.none = true then [(-1, 0)] else []) := rfl
  unfold ListC
  obtain ⟨Z, hZ⟩ : ∃ Z, Z = casesOf K := ⟨_, rfl⟩
  rw [← hZ] at hE ⊢
  obtain ⟨nn, hnn⟩ : ∃ b, b = K.none := ⟨_, rfl⟩
  rw [← hnn] at k1 K1 HV hE ⊢
  have HZ := hid hE
  clear hE hnn hZ hk hV hB0 hkV hn hc
  go_enter Try.func46, Try.ntmps46
  go_upto_region 1 with (fail)
  rw [← HV.out]
  go_wp2
  go_loopw [3, 4, 5] (fun o i _ wr => ∃ (k : Nat) (ao : Option Addr) (cap : Nat), k ≤ K.cop.length ∧ i = .int .i64 k ∧ o = .slice ao (casesTo K k).length cap ∧ OwnP V.heap.size wr ao (casesTo K k).length cap (casesTo K k) ∧ Below V.heap.size V wr) (fun _ i _ _ => K.cop.length - (intOf i).toNat)
  case atStart => exact ⟨0, none, 0, Nat.zero_le _, rfl, rfl, OwnP.nil _ _, Below.refl _ _⟩
  case round =>
    obtain ⟨k, ao, cap, hk, rfl, rfl, ho, hB⟩ := hrel
    obtain ⟨wo, rfl⟩ : ∃ wo : World, wo = wr := ⟨_, rfl⟩
    have HBo := hid hB; have Ho := hid ho
    have k0 := cstep K0.out hB; have k1 := cstep K1.out hB
    clear hB ho
    have hn := Hn.out
    by_cases hlt : k < K.cop.length
    · have hI : (k : Int) < (K.cop.length : Int) := by omega
      have HX := hid (Hc.out k hlt)
      have e1 : IntKind.i64.wrap ((k : Int) + 1) = (k : Int) + 1 := wrap_i64_of (by omega) (by omega)
      have hlen := casesTo_len K k
      obtain ⟨L, hL⟩ : ∃ L, L = casesTo K k := ⟨_, rfl⟩
      rw [← hL] at Ho hlen ⊢
      have Hlen := hid hlen; have HL := hid hL
      clear hlen hL hn
      go_wp2
      go_loopw [3, 5] (fun o kd wr => ∃ (j : Nat) (ai : Option Addr) (ci : Nat), j ≤ 2 ∧ kd = .int .i64 ((j : Int) + 1) ∧ o = .slice ai (L ++ copTo K k j).length ci ∧ OwnP V.heap.size wr ai (L ++ copTo K k j).length ci (L ++ copTo K k j) ∧ Below V.heap.size V wr) (fun _ kd _ => 3 - (intOf kd).toNat)
      case atStart => exact ⟨0, ao, cap, by omega, rfl, by rw [copTo, List.append_nil], by rw [copTo, List.append_nil]; exact Ho.out, HBo.out⟩
      case round =>
        obtain ⟨j, ai, ci, hj, rfl, rfl, hoi, hBi⟩ := hrel
        obtain ⟨wi, rfl⟩ : ∃ wi : World, wi = wr := ⟨_, rfl⟩
        have HBi := hid hBi; have Hoi := hid hoi
        have k0 := cstep K0.out hBi; have k1 := cstep K1.out hBi
        have hsz := hBi.size
        have hkV := HkV.out.mono hBi
        clear hBi hoi
        have hcl := copTo_len K k j
        by_cases hj2 : j < 2
        · have hjI : (j : Int) + 1 ≤ 2 := by omega
          obtain ⟨b, off, rfl, hc⟩ := IntsAt.at hkV hlt
          have hand := kind_and HX.out hj2
          have hst : L ++ copTo K k (j + 1) = (L ++ copTo K k j) ++ (if hasKind (nth K.cop k) ((j : Int) + 1) = true then [((k : Int), (j : Int) + 1)] else []) := by rw [copTo, List.append_assoc]
          have hM : (L ++ copTo K k j).length + 1 ≤ 1000000 := by have := Hlen.out; have := Hn.out; rw [List.length_append]; omega
          have Hst := hid hst
          obtain ⟨M, hMM⟩ : ∃ M, M = L ++ copTo K k j := ⟨_, rfl⟩
          rw [← hMM] at Hst Hoi hM ⊢
          obtain ⟨x, hx⟩ : ∃ x, x = nth K.cop k := ⟨_, rfl⟩
          rw [← hx] at Hst hand hc
          obtain ⟨kd, hkd⟩ : ∃ kd : Int, kd = (j : Int) + 1 := ⟨_, rfl⟩
          rw [← hkd] at Hst hand hjI ⊢
          have e2 : IntKind.i64.wrap (kd + 1) = kd + 1 := wrap_i64_of (by omega) (by omega)
          have Hkd := hid hkd
          have hkd0 : ¬ kd = 0 := by omega
          clear hst hMM hx hkd hkV
          cases hh : hasKind x kd with
          | true =>
            rw [hh, if_pos rfl] at hand
            have hst := Hst.out
            rw [hh, if_pos rfl] at hst
            have Hst2 := hid hst
            clear hst hh Hst
            go_wp2_with (at_builtin; refine wpList_app1 et27 wi rfl _ _ rfl V.heap.size ai M.length ci (pairv M) rfl Hoi.out.2 [.int .i64 (k : Int), .int .i64 kd] rfl rfl ?c1 hM hsz ?_; rotate_right; (intro ao' cap' w' hB' hown'; refine Hid.out ?_))
            case c1 => simp [Value.oneCell']
            refine hid ?_
            have HB2 := hid (HBi.out.trans hB')
            have Ho2 := hid (OwnP.app (c := ((k : Int), kd)) rfl hown')
            clear hB' hown'
            go_wp2
            go_roundw
            case rel => exact ⟨j + 1, ao', cap', by omega, by rw [Hkd.out]; go_num, by rw [Hst2.out, List.length_append]; rfl, by rw [Hst2.out, List.length_append]; exact Ho2.out, HB2.out⟩
            case measure => (have := Hkd.out; simp [intOf]; omega)
          | false =>
            rw [hh, if_neg (by simp)] at hand
            have hst := Hst.out
            rw [hh, if_neg (by simp), List.append_nil] at hst
            have Hst2 := hid hst
            clear hst hh Hst
            go_wp2
            go_roundw
            case rel => exact ⟨j + 1, ai, ci, by omega, by rw [Hkd.out]; go_num, by rw [Hst2.out], by rw [Hst2.out]; exact Hoi.out, HBi.out⟩
            case measure => (have := Hkd.out; simp [intOf]; omega)
        · obtain rfl : j = 2 := by omega
          have hjI : ¬ ((2 : Nat) : Int) + 1 ≤ 2 := by omega
          have hst : casesTo K (k + 1) = L ++ copTo K k 2 := by rw [casesTo, copTo_two, ← HL.out]
          have Hst := hid hst
          rw [← hst] at Hoi ⊢
          clear hst hcl
          go_wp2
          go_roundw
          case rel => exact ⟨k + 1, ai, ci, by omega, by go_num, rfl, Hoi.out, HBi.out⟩
          case measure => simp [intOf]; omega
    · obtain rfl : k = K.cop.length := by omega
      have hI : ¬ (K.cop.length : Int) < (K.cop.length : Int) := by omega
      have hlen := casesTo_len K K.cop.length
      have hsz := HBo.out.size
      obtain ⟨L, hL⟩ : ∃ L, L = casesTo K K.cop.length := ⟨_, rfl⟩
      rw [← hL] at Ho hlen HZ ⊢
      have hM : L.length + 1 ≤ 1000000 := by omega
      clear hL hlen hn
      cases nn with
      | true =>
        have HZ2 := hid (HZ.out.trans (by rw [if_pos rfl] : _ = L ++ [((-1 : Int), (0 : Int))]))
        go_wp2_with (at_builtin; refine wpList_app1 et27 wo rfl _ _ rfl V.heap.size ao L.length cap (pairv L) rfl Ho.out.2 [.int .i64 (-1), .int .i64 0] rfl rfl ?c1 hM hsz ?_; rotate_right; (intro ao' cap' w' hB' hown'; refine Hid.out ?_))
        case c1 => simp [Value.oneCell']
        refine hid ?_
        have HB2 := hid (HBo.out.trans hB')
        have Ho2 := hid (OwnP.app (c := ((-1 : Int), (0 : Int))) rfl hown')
        clear hB' hown'
        go_wp2
        go_ret
        exact ⟨ao', cap', by rw [HZ2.out, List.length_append]; rfl, by rw [HZ2.out]; exact Ho2.out.at, ⟨by rw [HZ2.out]; exact Ho2.out.fresh.1, fun b off e => Nat.le_trans HB0.out.size (Ho2.out.fresh.2 b off e)⟩, bstep HB0.out HB2.out⟩
      | false =>
        have HZ2 := hid (HZ.out.trans (by rw [if_neg (by simp), List.append_nil] : _ = L))
        go_wp2
        go_ret
        exact ⟨ao, cap, by rw [HZ2.out]; rfl, by rw [HZ2.out]; exact Ho.out.at, ⟨by rw [HZ2.out]; exact Ho.out.fresh.1, fun b off e => Nat.le_trans HB0.out.size (Ho.out.fresh.2 b off e)⟩, bstep HB0.out HBo.out⟩
end

end Go.Proofs.Ytelgbjfgmpkepaa

namespace Go.Proofs.Ytelgbjfgmpkepaa
open Go.RowKit Go.Shelf

theorem within_take {lo hi : Int} {xs : List Int} {k : Nat} (hk : k < xs.length) : within lo hi (xs.take (k + 1)) = (within lo hi (xs.take k) && (decide (lo ≤ nth xs k) && decide (nth xs k ≤ hi))) := by
  unfold within; rw [all_take_succ _ hk]
theorem within_bad {lo hi : Int} {xs : List Int} {k : Nat} (hk : k < xs.length) (h : nth xs k < lo ∨ hi < nth xs k) : within lo hi xs = false := by
  cases hw : within lo hi xs with
  | false => rfl
  | true => have := within_iff.1 hw k hk; omega
section
variable (ka : Option Addr) (kc : Nat) (K : Kn) (w : World)
set_option maxRecDepth 100000 in
set_option maxHeartbeats 1000000 in
theorem rCheckKnown_c (hk : KnAt w ka K) (hl : K.cop.length ≤ 1000000) : Calls Try.prog 20 #[.agg #[.slice ka K.cop.length kc, .bool K.none]] w (TellI w (knErr K)) := by
  obtain ⟨V, hV, hB0, k0, k1⟩ := box1 w (.slice ka K.cop.length kc) (.bool K.none) 24
  have hkV := hk.mono hB0
  have HB0 := hid hB0; have HV := hid hV; have HV0 := hid (Below.refl V.heap.size V)
  have K0 := hid k0; have K1 := hid k1
  have HkV := hid hkV
  have hE : knErr K = if within 1 12 [(K.cop.length : Int)] = true then (if within 0 3 K.cop = true then (if (!K.none && within 0 0 K.cop) = true then 5 else 0) else 3) else 6 := rfl
  have HC := hid fun (hn : K.cop.length ≤ 12) (hw : within 0 3 K.cop = true) (w' : World) (h : Below V.heap.size V w') => casesOf_c ka kc K w' (hkV.mono h) (by omega) (within_iff.1 hw)
  have HN := hid fun (hw : within 0 3 K.cop = true) => cases_none hw
  unfold ListC at HC
  unfold TellI
  obtain ⟨Z, hZ⟩ : ∃ Z, Z = casesOf K := ⟨_, rfl⟩
  rw [← hZ] at HC HN
  obtain ⟨E, hEE⟩ : ∃ E, E = knErr K := ⟨_, rfl⟩
  rw [← hEE] at hE ⊢
  obtain ⟨nn, hnn⟩ : ∃ b, b = K.none := ⟨_, rfl⟩
  rw [← hnn] at k1 K1 HV HC HN hE ⊢
  clear hnn hZ hEE
  by_cases hn : 1 ≤ K.cop.length ∧ K.cop.length ≤ 12
  · have hw1 : within 1 12 [(K.cop.length : Int)] = true := within_one.2 (by omega)
    rw [if_pos hw1] at hE
    have HE := hid hE
    have a1 : ¬ (K.cop.length : Int) < 1 := by omega
    have a2 : ¬ (12 : Int) < (K.cop.length : Int) := by omega
    have Hn := hid hn
    clear hE hk hV hB0 hkV hw1 hl hn
    go_enter Try.func20, Try.ntmps20
    go_upto_region 1 with (fail)
    rw [← HV.out]
    go_wp2
    go_loopw [3] (fun i wr => ∃ k : Nat, k ≤ K.cop.length ∧ i = .int .i64 k ∧ within 0 3 (K.cop.take k) = true ∧ wr = V) (fun i _ => K.cop.length - (intOf i).toNat)
    case atStart => exact ⟨0, Nat.zero_le _, rfl, rfl, rfl⟩
    case round =>
      obtain ⟨k, hkk, rfl, hw, rfl⟩ := hrel
      have Hw := hid hw
      by_cases hlt : k < K.cop.length
      · have hI : (k : Int) < (K.cop.length : Int) := by omega
        obtain ⟨b, off, rfl, hc⟩ := IntsAt.at HkV.out hlt
        have hst := within_take (lo := 0) (hi := 3) hlt
        have hbad := within_bad (lo := 0) (hi := 3) hlt
        have e1 : IntKind.i64.wrap ((k : Int) + 1) = (k : Int) + 1 := wrap_i64_of (by omega) (by have := Hn.out; omega)
        obtain ⟨x, hx⟩ : ∃ x, x = nth K.cop k := ⟨_, rfl⟩
        rw [← hx] at hc hst hbad
        rw [hw, Bool.true_and] at hst
        have Hst := hid hst; have Hbad := hid hbad
        clear hst hbad hx hw
        by_cases hb1 : x < 0
        · have hE := HE.out
          rw [Hbad.out (.inl hb1), if_neg (by simp)] at hE
          have HE2 := hid hE
          clear hE
          go_wp2
          go_ret
          exact ⟨by rw [HE2.out]; rfl, HB0.out⟩
        · by_cases hb2 : 3 < x
          · have hE := HE.out
            rw [Hbad.out (.inr hb2), if_neg (by simp)] at hE
            have HE2 := hid hE
            clear hE
            go_wp2
            go_ret
            exact ⟨by rw [HE2.out]; rfl, HB0.out⟩
          · have hst := Hst.out
            rw [decide_eq_true (by omega : 0 ≤ x), decide_eq_true (by omega : x ≤ 3), Bool.true_and] at hst
            have Hst2 := hid hst
            clear hst
            go_wp2
            go_roundw
            case rel => exact ⟨k + 1, hlt, by go_num, Hst2.out, trivial⟩
            case measure => simp [intOf]; omega
      · have hI : ¬ (k : Int) < (K.cop.length : Int) := by omega
        rw [List.take_of_length_le (by omega)] at hw
        have hE := HE.out
        rw [if_pos hw] at hE
        have HZ := hid (HN.out hw)
        have HC2 := hid (HC.out Hn.out.2 hw)
        have HE2 := hid hE
        clear hE hw Hw
        go_wp2_with fail
        refine (HC2.out _ HV0.out).mono ?_
        rintro e w1 ⟨ao, cap, rfl, _, _, hB⟩
        have HB1 := hid hB
        clear hB
        by_cases hz : Z.length = 0
        · have hz2 : ((Z.length : Int) == 0) = true := by simp [hz]
          have hE := HE2.out
          rw [if_pos (HZ.out.1 hz)] at hE
          have HE3 := hid hE
          clear hE
          rw [hz]
          clear hz hz2
          go_wp2
          go_ret
          exact ⟨by rw [HE3.out]; rfl, bstep HB0.out HB1.out⟩
        · have hz2 : ((Z.length : Int) == 0) = false := by simpa using hz
          have hE := HE2.out
          rw [if_neg (fun h => hz (HZ.out.2 h))] at hE
          have HE3 := hid hE
          have hz3 : ¬ (Z.length : Int) = 0 := by omega
          obtain ⟨m, hm⟩ : ∃ m : Nat, m = Z.length := ⟨_, rfl⟩
          rw [← hm] at hz hz2 hz3 ⊢
          clear hE hm
          go_wp2
          go_ret
          exact ⟨by rw [HE3.out]; rfl, bstep HB0.out HB1.out⟩
  · have hw1 : ¬ within 1 12 [(K.cop.length : Int)] = true := fun h => hn (by have := within_one.1 h; omega)
    rw [if_neg hw1] at hE
    have HE := hid hE
    clear hE hw1 hk hV hB0 hkV hl
    by_cases h1 : (K.cop.length : Int) < 1
    · clear hn
      go_enter Try.func20, Try.ntmps20
      go_upto_region 1 with (fail)
      rw [← HV.out]
      go_wp2
      go_ret
      exact ⟨by rw [HE.out]; rfl, HB0.out⟩
    · have h2 : (12 : Int) < (K.cop.length : Int) := by omega
      clear hn
      go_enter Try.func20, Try.ntmps20
      go_upto_region 1 with (fail)
      rw [← HV.out]
      go_wp2
      go_ret
      exact ⟨by rw [HE.out]; rfl, HB0.out⟩
end

end Go.Proofs.Ytelgbjfgmpkepaa

namespace Go.Proofs.Ytelgbjfgmpkepaa
open Go.RowKit Go.Shelf

/-- a balance in memory: what is known, and the map of what is needed -/
structure BalAt (w : World) (g : Nat) (ka : Option Addr) (kc : Nat) (K : Kn) (mv : Value) : Prop where
  c0 : w.cell? ⟨g, 0, none⟩ = some (.slice ka K.cop.length kc)
  c1 : w.cell? ⟨g, 1, none⟩ = some (.bool K.none)
  c2 : w.cell? ⟨g, 2, none⟩ = some mv
  k : KnAt w ka K
theorem BalAt.mono {w w' : World} {g : Nat} {ka : Option Addr} {kc : Nat} {K : Kn} {mv : Value} (h : BalAt w g ka kc K mv) (hB : Below w.heap.size w w') : BalAt w' g ka kc K mv :=
  ⟨cstep h.c0 hB, cstep h.c1 hB, cstep h.c2 hB, h.k.mono hB⟩
section
variable (g : Nat) (ka : Option Addr) (kc : Nat) (K : Kn) (mv : Value) (w : World)
set_option maxRecDepth 100000 in
set_option maxHeartbeats 2000000 in
theorem casesO_c (hb : BalAt w g ka kc K mv) (hn : K.cop.length ≤ 1000) (hc : ∀ k, k < K.cop.length → 0 ≤ nth K.cop k ∧ nth K.cop k ≤ 3) : Calls Try.prog 61 #[.pointer (some ⟨g, 0, none⟩)] w (ListO w (casesOf K)) := by
  have HkV := hid hb.k
  have Hn := hid hn; have Hc := hid hc
  have K0 := hid hb.c0; have K1 := hid hb.c1
  have hE : casesOf K = casesTo K K.cop.length ++ (if K.none = true then [(-1, 0)] else []) := rfl
  unfold ListO
  obtain ⟨Z, hZ⟩ : ∃ Z, Z = casesOf K := ⟨_, rfl⟩
  rw [← hZ] at hE ⊢
  obtain ⟨nn, hnn⟩ : ∃ b, b = K.none := ⟨_, rfl⟩
  rw [← hnn] at K1 hE
  have HZ := hid hE
  have k0 := K0.out; have k1 := K1.out
  clear hE hnn hZ hn hc hb
  go_enter Try.func61, Try.ntmps61
  go_wp2
  go_loopw [3, 4, 5, 7, 14] (fun o _ _ _ i wr => ∃ (k : Nat) (ao : Option Addr) (cap : Nat), k ≤ K.cop.length ∧ i = .int .i64 k ∧ o = .slice ao (casesTo K k).length cap ∧ OwnP w.heap.size wr ao (casesTo K k).length cap (casesTo K k) ∧ Below w.heap.size w wr) (fun _ _ _ _ i _ => K.cop.length - (intOf i).toNat)
  case atStart => exact ⟨0, none, 0, Nat.zero_le _, rfl, rfl, OwnP.nil _ _, Below.refl _ _⟩
  case round =>
    obtain ⟨k, ao, cap, hk, rfl, rfl, ho, hB⟩ := hrel
    obtain ⟨wo, rfl⟩ : ∃ wo : World, wo = wr := ⟨_, rfl⟩
    have HBo := hid hB; have Ho := hid ho
    have k0 := cstep K0.out hB; have k1 := cstep K1.out hB
    have hkV := HkV.out.mono hB
    clear hB ho
    have hn := Hn.out
    by_cases hlt : k < K.cop.length
    · have hI : (k : Int) < (K.cop.length : Int) := by omega
      have HX := hid (Hc.out k hlt)
      obtain ⟨b, off, rfl, hcx⟩ := IntsAt.at hkV hlt
      have e1 : IntKind.i64.wrap ((k : Int) + 1) = (k : Int) + 1 := wrap_i64_of (by omega) (by omega)
      have hlen := casesTo_len K k
      obtain ⟨L, hL⟩ : ∃ L, L = casesTo K k := ⟨_, rfl⟩
      rw [← hL] at Ho hlen ⊢
      obtain ⟨x, hx⟩ : ∃ x, x = nth K.cop k := ⟨_, rfl⟩
      have Hx := hid hx
      rw [← hx] at hcx HX
      have Hlen := hid hlen; have HL := hid hL
      clear hlen hL hn hx hkV
      go_upto_region 6 with (fail)
      obtain ⟨wl, hwl⟩ : ∃ y, y = wo.alloc (.cells #[.int .i64 1, .int .i64 2] 3) := ⟨_, rfl⟩
      have hBl : Below wo.heap.size wo wl := by rw [hwl]; exact bnew _ _
      have hlit : (wo.alloc (.cells #[.int .i64 1, .int .i64 2] 3)).heap[wo.heap.size]? = some (.cells #[.int .i64 1, .int .i64 2] 3 (0, 0)) := heap_alloc_new _ _
      rw [← hwl] at hlit ⊢
      obtain ⟨lb, hlb⟩ : ∃ b, b = wo.heap.size := ⟨_, rfl⟩
      rw [← hlb] at hlit ⊢
      have Hlit := hid hlit; have HBl := hid (bstep HBo.out hBl); have Hol := hid (Ho.out.kept hBl)
      clear hwl hBl hlit hlb
      go_wp2
      go_loopw [3, 7, 21] (fun o _ kd wr => ∃ (j : Nat) (ai : Option Addr) (ci : Nat), j ≤ 2 ∧ kd = .int .i64 (j : Int) ∧ o = .slice ai (L ++ copTo K k j).length ci ∧ OwnP w.heap.size wr ai (L ++ copTo K k j).length ci (L ++ copTo K k j) ∧ Below w.heap.size w wr ∧ wr.heap[lb]? = some (.cells #[.int .i64 1, .int .i64 2] 3 (0, 0))) (fun _ _ kd _ => 3 - (intOf kd).toNat)
      case atStart => exact ⟨0, ao, cap, by omega, rfl, by rw [copTo, List.append_nil], by rw [copTo, List.append_nil]; exact Hol.out, HBl.out, Hlit.out⟩
      case round =>
        obtain ⟨j, ai, ci, hj, rfl, rfl, hoi, hBi, hli⟩ := hrel
        obtain ⟨wi, rfl⟩ : ∃ wi : World, wi = wr := ⟨_, rfl⟩
        have HBi := hid hBi; have Hoi := hid hoi; have Hli := hid hli
        have hsz := hBi.size
        clear hBi hoi
        have hcl := copTo_len K k j
        by_cases hj2 : j < 2
        · have hjI : (j : Int) < 2 := by omega
          have hl1 := (IntsAt.of_heap (off := 0) (xs := [1, 2]) hli (by intro i hi; rcases (show i = 0 ∨ i = 1 by simp at hi; omega) with rfl | rfl <;> rfl)).cell (k := j) (by simpa using hj2)
          have hl2 : nth [1, 2] j = (j : Int) + 1 := by rcases (show j = 0 ∨ j = 1 by omega) with rfl | rfl <;> rfl
          rw [hl2, Nat.zero_add] at hl1
          have hand := kind_and HX.out hj2
          have hst : L ++ copTo K k (j + 1) = (L ++ copTo K k j) ++ (if hasKind (nth K.cop k) ((j : Int) + 1) = true then [((k : Int), (j : Int) + 1)] else []) := by rw [copTo, List.append_assoc]
          rw [← Hx.out] at hst
          have hM : (L ++ copTo K k j).length + 1 ≤ 1000000 := by have := Hlen.out; have := Hn.out; rw [List.length_append]; omega
          have Hst := hid hst
          obtain ⟨M, hMM⟩ : ∃ M, M = L ++ copTo K k j := ⟨_, rfl⟩
          rw [← hMM] at Hst Hoi hM ⊢
          obtain ⟨kd, hkd⟩ : ∃ kd : Int, kd = (j : Int) + 1 := ⟨_, rfl⟩
          rw [← hkd] at Hst hand hl1
          have e2 : IntKind.i64.wrap ((j : Int) + 1) = (j : Int) + 1 := wrap_i64_of (by omega) (by omega)
          have hkd0 : 0 < kd := by omega
          clear hst hMM hkd hli hl2
          cases hh : hasKind x kd with
          | true =>
            rw [hh, if_pos rfl] at hand
            have hst := Hst.out
            rw [hh, if_pos rfl] at hst
            have Hst2 := hid hst
            clear hst hh Hst
            obtain ⟨LL, hLL⟩ : ∃ L, L = wi.alloc (.cells #[.int .i64 (k : Int), .int .i64 kd] 34) := ⟨_, rfl⟩
            have hBL : Below wi.heap.size wi LL := by rw [hLL]; exact bnew _ _
            have hcL : CellsAt LL (some ⟨wi.heap.size, 0, none⟩) [.int .i64 (k : Int), .int .i64 kd] := by
              rw [hLL]
              refine CellsAt.of_heap (heap_alloc_new _ _) fun j v hj => ?_
              rw [Nat.zero_add]
              simpa using hj
            have HO1 := hid (Hoi.out.kept hBL); have HLL := hid hLL; have hszL : w.heap.size ≤ LL.heap.size := Nat.le_trans hsz hBL.size
            have Hli2 := hid ((hBL.block _ (Array.getElem?_eq_some_iff.1 Hli.out).1).trans Hli.out)
            have HBLL := hid (HBi.out.trans (hBL.mono hsz))
            clear hBL hLL
            go_wp2_with (at_builtin; rw [← HLL.out]; refine wpList_appV et27 _ rfl _ _ rfl w.heap.size ai M.length ci (pairv M) rfl HO1.out.2 (some ⟨wi.heap.size, 0, none⟩) 1 1 [.int .i64 (k : Int), .int .i64 kd] rfl hcL rfl (fun u hu => by simp at hu; rcases hu with rfl | rfl <;> rfl) (fun h => by cases h) hM hszL ?_; (intro ao' cap' w' hB' hown' hgr' hn'; refine Hid.out ?_))
            refine hid ?_
            have HB2 := hid (HBLL.out.trans hB')
            have Ho2 := hid (OwnP.app (c := ((k : Int), kd)) rfl hown')
            have Hli3 := hid (show w'.heap[lb]? = some (.cells #[.int .i64 1, .int .i64 2] 3 (0, 0)) from (hgr'.block lb (Array.getElem?_eq_some_iff.1 Hli2.out).1 (by intro e; obtain ⟨_, cur2, hh2⟩ := HO1.out.2.block e.symm; rw [Hli2.out] at hh2; cases hh2)).trans Hli2.out)
            clear hB' hown' hgr' hn' hcL hszL
            go_wp2
            go_roundw
            case rel => exact ⟨j + 1, ao', cap', by omega, by go_num, by rw [Hst2.out, List.length_append]; rfl, by rw [Hst2.out, List.length_append]; exact Ho2.out, HB2.out, Hli3.out⟩
            case measure => simp [intOf]; omega
          | false =>
            rw [hh, if_neg (by simp)] at hand
            have hst := Hst.out
            rw [hh, if_neg (by simp), List.append_nil] at hst
            have Hst2 := hid hst
            clear hst hh Hst
            go_wp2
            go_roundw
            case rel => exact ⟨j + 1, ai, ci, by omega, by go_num, by rw [Hst2.out], by rw [Hst2.out]; exact Hoi.out, HBi.out, Hli.out⟩
            case measure => simp [intOf]; omega
        · obtain rfl : j = 2 := by omega
          have hjI : ¬ ((2 : Nat) : Int) < 2 := by omega
          have hst : casesTo K (k + 1) = L ++ copTo K k 2 := by rw [casesTo, copTo_two, ← HL.out]
          have Hst := hid hst
          rw [← hst] at Hoi ⊢
          clear hst hcl
          go_wp2
          go_roundw
          case rel => exact ⟨k + 1, ai, ci, by omega, by go_num, rfl, Hoi.out, HBi.out⟩
          case measure => simp [intOf]; omega
    · obtain rfl : k = K.cop.length := by omega
      have hI : ¬ (K.cop.length : Int) < (K.cop.length : Int) := by omega
      have hlen := casesTo_len K K.cop.length
      have hsz := HBo.out.size
      obtain ⟨L, hL⟩ : ∃ L, L = casesTo K K.cop.length := ⟨_, rfl⟩
      rw [← hL] at Ho hlen HZ ⊢
      have hM : L.length + 1 ≤ 1000000 := by omega
      clear hL hlen hn hkV
      cases nn with
      | true =>
        have HZ2 := hid (HZ.out.trans (by rw [if_pos rfl] : _ = L ++ [((-1 : Int), (0 : Int))]))
        go_wp2_with (at_builtin; refine wpList_app1 et27 wo rfl _ _ rfl w.heap.size ao L.length cap (pairv L) rfl Ho.out.2 [.int .i64 (-1), .int .i64 0] rfl rfl ?c1 hM hsz ?_; rotate_right; (intro ao' cap' w' hB' hown'; refine Hid.out ?_))
        case c1 => simp [Value.oneCell']
        refine hid ?_
        have HB2 := hid (HBo.out.trans hB')
        have Ho2 := hid (OwnP.app (c := ((-1 : Int), (0 : Int))) rfl hown')
        clear hB' hown'
        go_wp2
        go_ret
        exact ⟨ao', cap', by rw [HZ2.out, List.length_append]; rfl, by rw [HZ2.out, List.length_append]; exact Ho2.out, HB2.out⟩
      | false =>
        have HZ2 := hid (HZ.out.trans (by rw [if_neg (by simp), List.append_nil] : _ = L))
        go_wp2
        go_ret
        exact ⟨ao, cap, by rw [HZ2.out]; rfl, by rw [HZ2.out]; exact Ho.out, HBo.out⟩
theorem cases_c (hb : BalAt w g ka kc K mv) (hn : K.cop.length ≤ 1000) (hc : ∀ k, k < K.cop.length → 0 ≤ nth K.cop k ∧ nth K.cop k ≤ 3) : Calls Try.prog 61 #[.pointer (some ⟨g, 0, none⟩)] w (ListC w (casesOf K)) :=
  (casesO_c g ka kc K mv w hb hn hc).mono fun _ _ h => h.c
end

end Go.Proofs.Ytelgbjfgmpkepaa

namespace Go.Proofs.Ytelgbjfgmpkepaa
open Go.RowKit Go.Shelf

/-- a case, of n coppers -/
def CaseOk (n : Nat) (c : Int × Int) : Prop := (c.1 = -1 ∧ c.2 = 0) ∨ ((0 ≤ c.1 ∧ c.1 < (n : Int)) ∧ (c.2 = 1 ∨ c.2 = 2))
/-- a weighing of n coppers -/
def WOk (n : Nat) (ws : List Int) : Prop := ws.length = n ∧ ∀ k, k < n → -1 ≤ nth ws k ∧ nth ws k ≤ 1
set_option maxRecDepth 100000 in
theorem result_c (a : Option Addr) (n cap : Nat) (w : World) : Calls Try.prog 64 #[.slice a n cap] w fun e w' => e = .returned (.func (.func 85) #[] #[.pointer (some ⟨w.heap.size, 0, none⟩)]) ∧ w' = w.alloc (.cells #[.slice a n cap] 22) := by
  go_enter Try.func64, Try.ntmps64
  go_wp2
  go_ret
  exact ⟨rfl, rfl⟩
theorem box34 (w : World) (c : Int × Int) : ∃ W, W = w.alloc (.cells #[.int .i64 c.1, .int .i64 c.2] 34) ∧ Below w.heap.size w W ∧ W.cell? ⟨w.heap.size, 0, none⟩ = some (.int .i64 c.1) ∧ W.cell? ⟨w.heap.size, 1, none⟩ = some (.int .i64 c.2) :=
  box1 w (.int .i64 c.1) (.int .i64 c.2) 34
set_option maxRecDepth 100000 in
set_option maxHeartbeats 1000000 in
theorem result1_c (p : Nat) (a : Option Addr) (cap n : Nat) (ws : List Int) (c : Int × Int) (w : World) (hp : w.cell? ⟨p, 0, none⟩ = some (.slice a n cap)) (hw : IntsAt w a ws) (hn : WOk n ws) (hc : CaseOk n c) :
    Calls Try.prog 85 #[.agg #[.int .i64 c.1, .int .i64 c.2], .pointer (some ⟨p, 0, none⟩)] w (TellI w (resultOf ws c)) := by
  obtain ⟨V, hV, hB0, k0, k1⟩ := box34 w c
  have hE : resultOf ws c = if c.1 < 0 then 0 else if c.2 = 2 then nth ws c.1.toNat else -nth ws c.1.toNat := rfl
  have hpV := cstep hp hB0
  have hwV := hw.mono hB0
  have HB0 := hid hB0; have HV := hid hV
  unfold TellI
  rw [hE]
  obtain ⟨x, y⟩ := c
  simp only at k0 k1 HV ⊢
  rcases hc with ⟨h1, h2⟩ | ⟨⟨h1, h2⟩, h3⟩
  · simp only at h1 h2
    subst h1 h2
    rw [if_pos (by omega)]
    clear hE hV hB0 hp hw hn
    go_enter Try.func85, Try.ntmps85
    go_upto_region 1 with (fail)
    rw [← HV.out]
    go_wp2
    go_ret
    exact ⟨rfl, HB0.out⟩
  · simp only at h1 h2 h3
    obtain ⟨i, rfl⟩ := Int.eq_ofNat_of_zero_le h1
    rw [if_neg (by omega), Int.toNat_natCast]
    obtain ⟨b, off, rfl, hx⟩ := hwV.at (k := i) (by rw [hn.1]; omega)
    have hr := hn.2 i (by omega)
    obtain ⟨v, hv⟩ : ∃ v, v = nth ws i := ⟨_, rfl⟩
    rw [← hv] at hx hr ⊢
    have e1 : IntKind.i64.wrap (-v) = -v := wrap_i64_of (by omega) (by omega)
    rcases h3 with rfl | rfl
    · rw [if_neg (by omega)]
      clear hE hV hB0 hp hw hn hv hwV hr
      go_enter Try.func85, Try.ntmps85
      go_upto_region 1 with (fail)
      rw [← HV.out]
      go_wp2
      go_ret
      exact ⟨rfl, HB0.out⟩
    · rw [if_pos rfl]
      clear hE hV hB0 hp hw hn hv hwV hr
      go_enter Try.func85, Try.ntmps85
      go_upto_region 1 with (fail)
      rw [← HV.out]
      go_wp2
      go_ret
      exact ⟨rfl, HB0.out⟩
set_option maxRecDepth 100000 in
set_option maxHeartbeats 1000000 in
theorem resultOf_c (a : Option Addr) (cap n : Nat) (ws : List Int) (c : Int × Int) (w : World) (hw : IntsAt w a ws) (hn : WOk n ws) (hc : CaseOk n c) :
    Calls Try.prog 65 #[.slice a n cap, .agg #[.int .i64 c.1, .int .i64 c.2]] w (TellI w (resultOf ws c)) := by
  obtain ⟨V, hV, hB0, k0, k1⟩ := box34 w c
  have hE : resultOf ws c = if c.1 < 0 then 0 else if c.2 = 2 then nth ws c.1.toNat else -nth ws c.1.toNat := rfl
  have hwV := hw.mono hB0
  have HB0 := hid hB0; have HV := hid hV
  unfold TellI
  rw [hE]
  obtain ⟨x, y⟩ := c
  simp only at k0 k1 HV ⊢
  rcases hc with ⟨h1, h2⟩ | ⟨⟨h1, h2⟩, h3⟩
  · simp only at h1 h2
    subst h1 h2
    rw [if_pos (by omega)]
    clear hE hV hB0 hw hn
    go_enter Try.func65, Try.ntmps65
    go_upto_region 1 with (fail)
    rw [← HV.out]
    go_wp2
    go_ret
    exact ⟨rfl, HB0.out⟩
  · simp only at h1 h2 h3
    obtain ⟨i, rfl⟩ := Int.eq_ofNat_of_zero_le h1
    rw [if_neg (by omega), Int.toNat_natCast]
    obtain ⟨b, off, rfl, hx⟩ := hwV.at (k := i) (by rw [hn.1]; omega)
    have hr := hn.2 i (by omega)
    obtain ⟨v, hv⟩ : ∃ v, v = nth ws i := ⟨_, rfl⟩
    rw [← hv] at hx hr ⊢
    have e1 : IntKind.i64.wrap (-v) = -v := wrap_i64_of (by omega) (by omega)
    have h0 : ¬ ((i : Nat) : Int) < 0 := by omega
    rcases h3 with rfl | rfl
    · rw [if_neg (by omega)]
      clear hE hV hB0 hw hn hv hwV hr
      go_enter Try.func65, Try.ntmps65
      go_upto_region 1 with (fail)
      rw [← HV.out]
      go_wp2
      go_ret
      exact ⟨rfl, HB0.out⟩
    · rw [if_pos rfl]
      clear hE hV hB0 hw hn hv hwV hr
      go_enter Try.func65, Try.ntmps65
      go_upto_region 1 with (fail)
      rw [← HV.out]
      go_wp2
      go_ret
      exact ⟨rfl, HB0.out⟩

end Go.Proofs.Ytelgbjfgmpkepaa

namespace Go.Proofs.Ytelgbjfgmpkepaa
open Go.RowKit Go.Shelf

theorem sum_take {xs : List Int} {k : Nat} (hk : k < xs.length) : (xs.take (k + 1)).sum = (xs.take k).sum + nth xs k := by
  rw [List.take_succ_eq_append_getElem hk, List.sum_append, nth_eq hk]; simp
theorem sum_bound {lo hi : Int} : ∀ {xs : List Int}, (∀ k, k < xs.length → lo ≤ nth xs k ∧ nth xs k ≤ hi) → lo * xs.length ≤ xs.sum ∧ xs.sum ≤ hi * xs.length
  | [], _ => by simp
  | x :: xs, h => by
    have h0 := h 0 (by simp)
    have ih := sum_bound (xs := xs) fun k hk => by
      have := h (k + 1) (by simpa using hk)
      simpa [nth] using this
    have e0 : nth (x :: xs) 0 = x := rfl
    rw [e0] at h0
    simp only [List.sum_cons, List.length_cons]
    rw [show lo * ((xs.length + 1 : Nat) : Int) = lo * (xs.length : Int) + lo by rw [show ((xs.length + 1 : Nat) : Int) = (xs.length : Int) + 1 by omega, Int.mul_add, Int.mul_one],
      show hi * ((xs.length + 1 : Nat) : Int) = hi * (xs.length : Int) + hi by rw [show ((xs.length + 1 : Nat) : Int) = (xs.length : Int) + 1 by omega, Int.mul_add, Int.mul_one]]
    omega
section
variable (ka : Option Addr) (kc : Nat) (K : Kn) (wa : Option Addr) (wc : Nat) (ws : List Int) (w : World)
set_option maxRecDepth 100000 in
set_option maxHeartbeats 1000000 in
theorem weighingError_c (hk : KnAt w ka K) (hw : IntsAt w wa ws) (hl : ws.length ≤ 1000000) : Calls Try.prog 68 #[.agg #[.slice ka K.cop.length kc, .bool K.none], .slice wa ws.length wc] w (TellI w (wErr K ws)) := by
  obtain ⟨V, hV, hB0, k0, k1⟩ := box1 w (.slice ka K.cop.length kc) (.bool K.none) 24
  have hkV := hk.mono hB0
  have HB0 := hid hB0; have HV := hid hV; have HV0 := hid (Below.refl V.heap.size V)
  have K0 := hid k0; have K1 := hid k1
  have HwV := hid (hw.mono hB0)
  have hE : wErr K ws = if ws.length = K.cop.length then (if within (-1) 1 ws = true then (if ws.sum = 0 then 0 else 14) else 3) else 15 := rfl
  unfold TellI
  obtain ⟨E, hEE⟩ : ∃ E, E = wErr K ws := ⟨_, rfl⟩
  rw [← hEE] at hE ⊢
  obtain ⟨nn, hnn⟩ : ∃ b, b = K.none := ⟨_, rfl⟩
  rw [← hnn] at k1 K1 HV ⊢
  clear hnn hEE
  by_cases hn : ws.length = K.cop.length
  · rw [if_pos hn] at hE
    have HE := hid hE
    have a1 : ¬ (ws.length : Int) = (K.cop.length : Int) → False := by omega
    have b1 : ((ws.length : Int) != (K.cop.length : Int)) = false := by simp [hn]
    have Hn := hid hn; have Hl := hid hl
    clear hE hk hw hV hB0 hkV hl hn a1
    go_enter Try.func68, Try.ntmps68
    go_upto_region 1 with (fail)
    rw [← HV.out]
    go_wp2
    go_loopw [5, 6] (fun sm i wr => ∃ k : Nat, k ≤ ws.length ∧ i = .int .i64 k ∧ sm = .int .i64 (ws.take k).sum ∧ within (-1) 1 (ws.take k) = true ∧ wr = V) (fun _ i _ => ws.length - (intOf i).toNat)
    case atStart => exact ⟨0, Nat.zero_le _, rfl, rfl, rfl, rfl⟩
    case round =>
      obtain ⟨k, hkk, rfl, rfl, hw, rfl⟩ := hrel
      have Hw := hid hw
      by_cases hlt : k < ws.length
      · have hI : (k : Int) < (ws.length : Int) := by omega
        obtain ⟨b, off, rfl, hc⟩ := IntsAt.at HwV.out hlt
        have hst := within_take (lo := -1) (hi := 1) hlt
        have hbad := within_bad (lo := -1) (hi := 1) hlt
        have hsum := sum_take hlt
        have hsb := sum_bound (within_iff.1 hw)
        rw [List.length_take] at hsb
        have e1 : IntKind.i64.wrap ((k : Int) + 1) = (k : Int) + 1 := wrap_i64_of (by omega) (by have := Hl.out; omega)
        obtain ⟨x, hx⟩ : ∃ x, x = nth ws k := ⟨_, rfl⟩
        obtain ⟨sm, hsm⟩ : ∃ x, x = (ws.take k).sum := ⟨_, rfl⟩
        rw [← hsm] at hsum hsb ⊢
        rw [← hx] at hc hst hbad hsum
        rw [hw, Bool.true_and] at hst
        have Hst := hid hst; have Hbad := hid hbad; have Hsb := hid hsb; have Hsum := hid hsum
        clear hst hbad hx hw hsm hsb hsum
        by_cases hb1 : x < -1
        · have hE := HE.out
          rw [Hbad.out (.inl hb1), if_neg (by simp)] at hE
          have HE2 := hid hE
          clear hE
          go_wp2
          go_ret
          exact ⟨by rw [HE2.out]; rfl, HB0.out⟩
        · by_cases hb2 : 1 < x
          · have hE := HE.out
            rw [Hbad.out (.inr hb2), if_neg (by simp)] at hE
            have HE2 := hid hE
            clear hE
            go_wp2
            go_ret
            exact ⟨by rw [HE2.out]; rfl, HB0.out⟩
          · have hst := Hst.out
            rw [decide_eq_true (by omega : -1 ≤ x), decide_eq_true (by omega : x ≤ 1), Bool.true_and] at hst
            have Hst2 := hid hst
            have e2 : IntKind.i64.wrap (sm + x) = sm + x := by
              have := Hsb.out; have := Hl.out
              exact wrap_i64_of (by omega) (by omega)
            clear hst
            go_wp2
            go_roundw
            case rel => exact ⟨k + 1, hlt, by go_num, by rw [Hsum.out], Hst2.out, trivial⟩
            case measure => simp [intOf]; omega
      · have hI : ¬ (k : Int) < (ws.length : Int) := by omega
        rw [List.take_of_length_le (by omega)] at hw ⊢
        have hE := HE.out
        rw [if_pos hw] at hE
        obtain ⟨sm, hsm⟩ : ∃ x, x = ws.sum := ⟨_, rfl⟩
        rw [← hsm] at hE ⊢
        clear hsm
        by_cases h0 : sm = 0
        · subst h0
          have HE2 := hid (hE.trans (if_pos rfl))
          clear hE hw Hw
          go_wp2
          go_ret
          exact ⟨by rw [HE2.out]; rfl, HB0.out⟩
        · have HE2 := hid (hE.trans (if_neg h0))
          have b2 : (sm != 0) = true := by simpa using h0
          clear hE hw Hw
          go_wp2
          go_ret
          exact ⟨by rw [HE2.out]; rfl, HB0.out⟩
  · rw [if_neg hn] at hE
    have HE := hid hE
    have b1 : ((ws.length : Int) != (K.cop.length : Int)) = true := by simp; omega
    have b2 : ¬ (ws.length : Int) = (K.cop.length : Int) := by omega
    clear hE hk hw hV hB0 hkV hl hn
    go_enter Try.func68, Try.ntmps68
    go_upto_region 1 with (fail)
    rw [← HV.out]
    go_wp2
    go_ret
    exact ⟨by rw [HE.out]; rfl, HB0.out⟩
/-- the error of a weighing, of any knowledge -/
def kwErr (K : Kn) (ws : List Int) : Int := if knErr K = 0 then wErr K ws else knErr K
set_option maxRecDepth 100000 in
set_option maxHeartbeats 1000000 in
theorem rCheckWeighing_c (hk : KnAt w ka K) (hlk : K.cop.length ≤ 1000000) (hw : IntsAt w wa ws) (hl : ws.length ≤ 1000000) : Calls Try.prog 27 #[.agg #[.slice ka K.cop.length kc, .bool K.none], .slice wa ws.length wc] w (TellI w (kwErr K ws)) := by
  obtain ⟨V, hV, hB0, k0, k1⟩ := box1 w (.slice ka K.cop.length kc) (.bool K.none) 24
  have hkV := hk.mono hB0
  have HB0 := hid hB0; have HV := hid hV; have HV0 := hid (Below.refl V.heap.size V)
  have K0 := hid k0; have K1 := hid k1
  have hwV := hw.mono hB0
  have H1 := hid fun (w' : World) (h : Below V.heap.size V w') => rCheckKnown_c ka kc K w' (hkV.mono h) hlk
  have H2 := hid fun (w' : World) (h : Below V.heap.size V w') => weighingError_c ka kc K wa wc ws w' (hkV.mono h) (hwV.mono h) hl
  have hE : kwErr K ws = if knErr K = 0 then wErr K ws else knErr K := rfl
  unfold TellI at H1 H2 ⊢
  rw [hE]
  obtain ⟨E, hEE⟩ : ∃ E, E = knErr K := ⟨_, rfl⟩
  obtain ⟨F, hFF⟩ : ∃ E, E = wErr K ws := ⟨_, rfl⟩
  rw [← hEE] at H1 ⊢
  rw [← hFF] at H2 ⊢
  obtain ⟨nn, hnn⟩ : ∃ b, b = K.none := ⟨_, rfl⟩
  rw [← hnn] at k1 K1 HV H1 H2 ⊢
  clear hE hnn hEE hFF hk hw hV hB0 hkV hl hlk hwV
  by_cases h0 : E = 0
  · subst h0
    rw [if_pos rfl]
    go_enter Try.func27, Try.ntmps27
    go_upto_region 1 with (fail)
    rw [← HV.out]
    go_wp2_with fail
    refine (H1.out _ HV0.out).mono ?_
    rintro e w1 ⟨rfl, hB⟩
    have HB1 := hid (bstep HV0.out hB)
    have k0 := cstep k0 hB
    have k1 := cstep k1 hB
    clear hB
    go_wp2_with fail
    refine (H2.out _ HB1.out).mono ?_
    rintro e w2 ⟨rfl, hB⟩
    have HB2 := hid (bstep HB1.out hB)
    clear hB
    go_wp2
    go_ret
    exact ⟨rfl, bstep HB0.out HB2.out⟩
  · rw [if_neg h0]
    have b1 : (E != 0) = true := by simpa using h0
    go_enter Try.func27, Try.ntmps27
    go_upto_region 1 with (fail)
    rw [← HV.out]
    go_wp2_with fail
    refine (H1.out _ HV0.out).mono ?_
    rintro e w1 ⟨rfl, hB⟩
    have HB1 := hid (bstep HV0.out hB)
    have k0 := cstep k0 hB
    have k1 := cstep k1 hB
    clear hB
    go_wp2_with fail
    refine (H1.out _ HB1.out).mono ?_
    rintro e w2 ⟨rfl, hB⟩
    have HB2 := hid (bstep HB1.out hB)
    clear hB
    go_wp2
    go_ret
    exact ⟨rfl, bstep HB0.out HB2.out⟩
end

end Go.Proofs.Ytelgbjfgmpkepaa
