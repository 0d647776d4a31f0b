/- Walk: open, CheckWeighing. Walks: the place of a case, CheckWeighing, Result. Walks: Result, of the program. Walks: Result, of the reference. The layer, plain: counts, pans, how many weighings a count needs. The layer, plain: what is known by some cases; the cases, each once. -/
import Derived.Test.YtelgbjfgmpkepaaKD
import Derived.Test.YtelgbjfgmpkepaaKC
namespace Go.Proofs.Ytelgbjfgmpkepaa
open Go.RowKit Go.Shelf

/-- a number, made to lie from -2 to 2 -/
def clamp (x : Int) : Int := if -2 < (if 2 < x then 2 else x) then (if 2 < x then 2 else x) else -2
theorem clamp_le (x : Int) : -2 ≤ clamp x ∧ clamp x ≤ 2 := by unfold clamp; split <;> split <;> omega
def clamps (xs : List Int) (k : Nat) : Int := ((xs.take k).map clamp).sum
theorem clamps_succ {xs : List Int} {k : Nat} (hk : k < xs.length) : clamps xs (k + 1) = clamps xs k + clamp (nth xs k) := by
  unfold clamps
  rw [List.take_succ_eq_append_getElem hk, List.map_append, List.sum_append, nth_eq hk]; simp
theorem clamps_bound (xs : List Int) (k : Nat) : -2 * (k : Int) ≤ clamps xs k ∧ clamps xs k ≤ 2 * (k : Int) := by
  have key : ∀ (l : List Int), -2 * (l.length : Int) ≤ (l.map clamp).sum ∧ (l.map clamp).sum ≤ 2 * (l.length : Int) := by
    intro l
    induction l with
    | nil => simp
    | cons x l ih =>
      have := clamp_le x
      simp only [List.map_cons, List.sum_cons, List.length_cons]
      omega
  have := key (xs.take k)
  unfold clamps
  rw [List.length_take] at this
  omega
theorem clamps_all {xs : List Int} (h : within (-1) 1 xs = true) : clamps xs xs.length = xs.sum := by
  unfold clamps
  rw [List.take_length]
  have : xs.map clamp = xs := by
    have h2 : ∀ x ∈ xs, clamp x = id x := fun x hx => by
      have := List.all_eq_true.1 h x hx
      simp at this
      unfold clamp
      rw [if_neg (show ¬ 2 < x by omega), if_pos (show -2 < x by omega)]; rfl
    rw [List.map_congr_left h2, List.map_id]
  rw [this]
/-- the first error of weighings -/
def psErr (K : Kn) : List (List Int) → Int
  | [] => 0
  | p :: ps => if wErr K p = 0 then psErr K ps else wErr K p
theorem psErr_all {K : Kn} : ∀ {ps : List (List Int)}, (∀ j, j < ps.length → wErr K (nthL ps j) = 0) → psErr K ps = 0
  | [], _ => rfl
  | p :: ps, h => by
    rw [psErr, if_pos (show wErr K p = 0 from h 0 (by simp))]
    exact psErr_all fun j hj => h (j + 1) (by simpa using hj)
theorem psErr_at {K : Kn} : ∀ {ps : List (List Int)} {k : Nat}, k < ps.length → (∀ j, j < k → wErr K (nthL ps j) = 0) → wErr K (nthL ps k) ≠ 0 → psErr K ps = wErr K (nthL ps k)
  | [], k, hk, _, _ => by simp at hk
  | p :: ps, 0, _, _, hn => by rw [psErr, if_neg (show ¬ wErr K p = 0 from hn)]; rfl
  | p :: ps, k + 1, hk, h, hn => by
    rw [psErr, if_pos (show wErr K p = 0 from h 0 (by omega))]
    exact psErr_at (by simpa using hk) (fun j hj => h (j + 1) (by omega)) hn
/-- the error of what is known, with weighings -/
def oErr (K : Kn) (ps : List (List Int)) : Int := if knErr K = 0 then psErr K ps else knErr K
theorem oErr_one (K : Kn) (ws : List Int) : oErr K [ws] = kwErr K ws := by
  unfold oErr kwErr psErr psErr
  by_cases h : wErr K ws = 0
  · rw [if_pos h, h]
  · rw [if_neg h]
/-- what open hands back -/
def OpenC (w : World) (ka : Option Addr) (kc : Nat) (K : Kn) (E : Int) (e : Ending) (w' : World) : Prop :=
  Below w.heap.size w w' ∧ ((E ≠ 0 ∧ e = .returned (.tuple #[.pointer none, .int .i64 E])) ∨
    (E = 0 ∧ ∃ g m, e = .returned (.tuple #[.pointer (some ⟨g, 0, none⟩), .int .i64 0]) ∧ w.heap.size ≤ g ∧ w.heap.size ≤ m ∧ g ≠ m ∧ BalAt w' g ka kc K (.map (some m)) ∧ w'.heap[m]? = some (.map #[] 0)))
theorem OpenC.mk {w : World} {ka : Option Addr} {kc : Nat} {K : Kn} {E : Int} {e : Ending} {w' : World} (h : Below w.heap.size w w' ∧ ((E ≠ 0 ∧ e = .returned (.tuple #[.pointer none, .int .i64 E])) ∨
    (E = 0 ∧ ∃ g m, e = .returned (.tuple #[.pointer (some ⟨g, 0, none⟩), .int .i64 0]) ∧ w.heap.size ≤ g ∧ w.heap.size ≤ m ∧ g ≠ m ∧ BalAt w' g ka kc K (.map (some m)) ∧ w'.heap[m]? = some (.map #[] 0)))) : OpenC w ka kc K E e w' := h
section
variable (ka : Option Addr) (kc : Nat) (K : Kn) (pa : Option Addr) (pc : Nat) (ps : List (List Int)) (w : World)
set_option maxRecDepth 100000 in
set_option maxHeartbeats 2000000 in
theorem open_c (hk : KnAt w ka K) (hlk : K.cop.length ≤ 1000000) (hp : RowsAt w pa ps) (hl : ps.length ≤ 1000000) (hll : ∀ p ∈ ps, p.length ≤ 1000000) : Calls Try.prog 60 #[.agg #[.slice ka K.cop.length kc, .bool K.none], .slice pa ps.length pc] w (OpenC w ka kc K (oErr K ps)) := by
  obtain ⟨V, hV, hB0, k0, k1⟩ := box1 w (.slice ka K.cop.length kc) (.bool K.none) 24
  have hkV := hk.mono hB0
  have HB0 := hid hB0; have HV := hid hV; have HV0 := hid (Below.refl V.heap.size V)
  have K0 := hid k0; have K1 := hid k1
  have HpV := hid (hp.mono hB0)
  have H1 := hid fun (w' : World) (h : Below V.heap.size V w') => checkKnown_c ka kc K w' (hkV.mono h) hlk
  have HkV := hid hkV
  have Hl := hid hl; have Hll := hid hll
  have hE : oErr K ps = if knErr K = 0 then psErr K ps else knErr K := rfl
  unfold TellI at H1
  obtain ⟨O, hO⟩ : ∃ O, O = oErr K ps := ⟨_, rfl⟩
  rw [← hO] at hE ⊢
  obtain ⟨E, hEE⟩ : ∃ E, E = knErr K := ⟨_, rfl⟩
  rw [← hEE] at H1 hE
  obtain ⟨nn, hnn⟩ : ∃ b, b = K.none := ⟨_, rfl⟩
  rw [← hnn] at k1 K1 HV H1 ⊢
  have Hnn := hid hnn
  clear hnn hO hEE hk hp hV hB0 hkV hl hlk hll
  by_cases h0 : E = 0
  · subst h0
    rw [if_pos rfl] at hE
    have HE := hid hE
    clear hE
    go_enter Try.func60, Try.ntmps60
    go_upto_region 1 with (fail)
    rw [← HV.out]
    go_wp2_with fail
    refine (H1.out _ HV0.out).mono ?_
    rintro e w1 ⟨rfl, hB⟩
    have HB1 := hid (bstep HV0.out hB)
    have k0 := cstep k0 hB
    have k1 := cstep k1 hB
    clear hB
    go_wp2
    go_loopw [8, 9, 11, 19] (fun _ _ _ i wr => ∃ k : Nat, k ≤ ps.length ∧ i = .int .i64 k ∧ (∀ j, j < k → wErr K (nthL ps j) = 0) ∧ Below V.heap.size V wr) (fun _ _ _ i _ => ps.length - (intOf i).toNat)
    case atStart => exact ⟨0, Nat.zero_le _, rfl, fun j hj => absurd hj (by omega), HB1.out⟩
    case round =>
      obtain ⟨k, hkk, rfl, hw, hBr⟩ := hrel
      obtain ⟨wo, rfl⟩ : ∃ wo : World, wo = wr := ⟨_, rfl⟩
      have HBr := hid hBr; have Hw := hid hw
      have k0 := cstep K0.out hBr; have k1 := cstep K1.out hBr
      have hpo := HpV.out.mono hBr
      clear hBr hw
      by_cases hlt : k < ps.length
      · have hI : (k : Int) < (ps.length : Int) := by omega
        obtain ⟨b, off, ra, rc, rfl, hc, hxs, _⟩ := hpo.at hlt
        have hlen := Hll.out _ (nthL_mem hlt)
        have hbad := psErr_at hlt Hw.out
        have hwE : wErr K (nthL ps k) = if (nthL ps k).length = K.cop.length then (if within (-1) 1 (nthL ps k) = true then (if (nthL ps k).sum = 0 then 0 else 14) else 3) else 15 := rfl
        obtain ⟨xs, hx⟩ : ∃ x, x = nthL ps k := ⟨_, rfl⟩
        have Hx := hid hx
        rw [← hx] at hc hxs hlen hbad hwE
        rw [← HE.out] at hbad
        have e1 : IntKind.i64.wrap ((k : Int) + 1) = (k : Int) + 1 := wrap_i64_of (by omega) (by have := Hl.out; omega)
        have Hbad := hid hbad; have HwE := hid hwE; have Hxs := hid hxs; have Hlen := hid hlen
        clear hbad hwE hx hlen hxs hpo
        go_wp2
        go_loopw [9, 11, 25] (fun sm _ i wr => ∃ j : Nat, j ≤ xs.length ∧ i = .int .i64 j ∧ sm = .int .i64 (clamps xs j) ∧ wo = wr) (fun _ _ i _ => xs.length - (intOf i).toNat)
        case atStart => exact ⟨0, Nat.zero_le _, rfl, rfl, rfl⟩
        case round =>
          obtain ⟨j, hj, rfl, rfl, rfl⟩ := hrel
          by_cases hjt : j < xs.length
          · have hJ : (j : Int) < (xs.length : Int) := by omega
            obtain ⟨xb, xo, rfl, hcx⟩ := IntsAt.at Hxs.out hjt
            have hst := clamps_succ hjt
            have hbd := clamps_bound xs j
            have hcl := clamp_le (nth xs j)
            have hcd : clamp (nth xs j) = if -2 < (if 2 < (nth xs j) then 2 else (nth xs j)) then (if 2 < (nth xs j) then 2 else (nth xs j)) else -2 := rfl
            obtain ⟨cl, hcc⟩ : ∃ c, c = clamp (nth xs j) := ⟨_, rfl⟩
            rw [← hcc] at hst hcl hcd
            obtain ⟨x, hx⟩ : ∃ c, c = nth xs j := ⟨_, rfl⟩
            rw [← hx] at hcx hcd
            obtain ⟨lo, hlo⟩ : ∃ c, (if 2 < x then 2 else x) = c := ⟨_, rfl⟩
            rw [hlo] at hcd
            obtain ⟨sm, hsm⟩ : ∃ x, x = clamps xs j := ⟨_, rfl⟩
            rw [← hsm] at hst hbd ⊢
            have e2 : IntKind.i64.wrap ((j : Int) + 1) = (j : Int) + 1 := wrap_i64_of (by omega) (by have := Hlen.out; omega)
            have e3 : IntKind.i64.wrap (sm + cl) = sm + cl := wrap_i64_of (by have := Hlen.out; omega) (by have := Hlen.out; omega)
            have hhi := hcd.symm
            have Hst := hid hst
            clear hcd hst hbd hcl hcc hx hsm
            go_wp2
            go_roundw
            case rel => exact ⟨j + 1, hjt, by go_num, by rw [Hst.out], trivial⟩
            case measure => simp [intOf]; omega
          · have hJ : ¬ (j : Int) < (xs.length : Int) := by omega
            obtain rfl : j = xs.length := by omega
            have hcl2 := hid fun h => clamps_all (xs := xs) h
            have HC := hid fun (w' : World) (h : Below wo.heap.size wo w') => within_c ra rc (-1) 1 xs w' (Hxs.out.mono h) Hlen.out
            have HBo := hid (Below.refl wo.heap.size wo)
            obtain ⟨sm, hsm⟩ : ∃ x, x = clamps xs xs.length := ⟨_, rfl⟩
            rw [← hsm] at hcl2 ⊢
            clear hsm
            have hwE := HwE.out
            by_cases hn : xs.length = K.cop.length
            · rw [if_pos hn] at hwE
              have b1 : ((xs.length : Int) != (K.cop.length : Int)) = false := by simp [hn]
              have Hn := hid hn
              cases hwi : within (-1) 1 xs with
              | false =>
                rw [hwi] at HC hwE
                rw [if_neg (by simp)] at hwE
                have Hb2 := hid (Hbad.out (by rw [hwE]; decide))
                have Hb3 := hid hwE
                clear hwE hn
                go_wp2_with fail
                refine (HC.out _ HBo.out).mono ?_
                rintro e w2 ⟨rfl, hB⟩
                have HB2 := hid (bstep HBo.out hB)
                clear hB
                go_wp2
                go_ret2
                exact OpenC.mk ⟨bstep HB0.out (bstep HBr.out HB2.out), .inl ⟨by rw [Hb2.out, Hb3.out]; decide, by rw [Hb2.out, Hb3.out]; rfl⟩⟩
              | true =>
                rw [hwi] at HC hwE
                rw [if_pos rfl, ← hcl2.out hwi] at hwE
                by_cases h0 : sm = 0
                · subst h0
                  rw [if_pos rfl] at hwE
                  have Hb3 := hid hwE
                  clear hwE hn
                  go_wp2_with fail
                  refine (HC.out _ HBo.out).mono ?_
                  rintro e w2 ⟨rfl, hB⟩
                  have HB2 := hid (bstep HBo.out hB)
                  clear hB
                  go_wp2
                  go_roundw
                  case rel =>
                    refine ⟨k + 1, hlt, by go_num, fun j hj => ?_, bstep HBr.out HB2.out⟩
                    by_cases ej : j = k
                    · subst ej; rw [← Hx.out]; exact Hb3.out
                    · exact Hw.out j (by omega)
                  case measure => simp [intOf]; omega
                · rw [if_neg h0] at hwE
                  have b2 : (sm != 0) = true := by simpa using h0
                  have Hb2 := hid (Hbad.out (by rw [hwE]; decide))
                  have Hb3 := hid hwE
                  clear hwE hn
                  go_wp2_with fail
                  refine (HC.out _ HBo.out).mono ?_
                  rintro e w2 ⟨rfl, hB⟩
                  have HB2 := hid (bstep HBo.out hB)
                  clear hB
                  go_wp2
                  go_ret2
                  exact OpenC.mk ⟨bstep HB0.out (bstep HBr.out HB2.out), .inl ⟨by rw [Hb2.out, Hb3.out]; decide, by rw [Hb2.out, Hb3.out]; rfl⟩⟩
            · rw [if_neg hn] at hwE
              have b1 : ((xs.length : Int) != (K.cop.length : Int)) = true := by simp; omega
              have b2 : ¬ (xs.length : Int) = (K.cop.length : Int) := by omega
              have Hb2 := hid (Hbad.out (by rw [hwE]; decide))
              have Hb3 := hid hwE
              clear hwE hn
              go_wp2
              go_ret2
              exact OpenC.mk ⟨bstep HB0.out HBr.out, .inl ⟨by rw [Hb2.out, Hb3.out]; decide, by rw [Hb2.out, Hb3.out]; rfl⟩⟩
      · have hI : ¬ (k : Int) < (ps.length : Int) := by omega
        obtain rfl : k = ps.length := by omega
        have HE2 := hid (HE.out.trans (psErr_all Hw.out))
        clear hpo
        have hko := hid (HkV.out.mono HBr.out)
        have hm := run_makeMap (P := Try.prog) 98 wo
        go_wp2
        go_ret2
        clear hm
        have hA := bnew wo (.map #[] 0)
        have hB := bnew (wo.alloc (.map #[] 0)) (.cells #[.slice ka K.cop.length kc, .bool nn, .map (some wo.heap.size)] 100)
        have hs := HBr.out.size
        have hs2 := HB0.out.size
        have hg : ((wo.alloc (.map #[] 0)).alloc (.cells #[.slice ka K.cop.length kc, .bool nn, .map (some wo.heap.size)] 100)).heap[wo.heap.size + 1]? = some (.cells #[.slice ka K.cop.length kc, .bool nn, .map (some wo.heap.size)] 100 (0, 0)) := by
          have := heap_alloc_new (wo.alloc (.map #[] 0)) (.cells #[.slice ka K.cop.length kc, .bool nn, .map (some wo.heap.size)] 100)
          simpa using this
        refine OpenC.mk ⟨bstep HB0.out (bstep HBr.out (bstep hA hB)), .inr ⟨HE2.out, wo.heap.size + 1, wo.heap.size, rfl, by omega, by omega, by omega, ⟨?_, ?_, ?_, ?_⟩, ?_⟩⟩
        · rw [cell_of_row _ _ _ _ _ _ hg]; rfl
        · rw [cell_of_row _ _ _ _ _ _ hg, Hnn.out]; rfl
        · rw [cell_of_row _ _ _ _ _ _ hg]; rfl
        · exact (hko.out.mono hA).mono hB
        · exact (hB.block _ (by simp)).trans (heap_alloc_new _ _)
  · rw [if_neg h0] at hE
    have HE := hid hE
    have H0 := hid h0
    have b1 : (E != 0) = true := by simpa using h0
    clear hE
    go_enter Try.func60, Try.ntmps60
    go_upto_region 1 with (fail)
    rw [← HV.out]
    go_wp2_with fail
    refine (H1.out _ HV0.out).mono ?_
    rintro e w1 ⟨rfl, hB⟩
    have HB1 := hid (bstep HV0.out hB)
    have k0 := cstep k0 hB
    have k1 := cstep k1 hB
    clear hB
    go_wp2
    go_ret2
    exact OpenC.mk ⟨bstep HB0.out HB1.out, .inl ⟨by rw [HE.out]; exact H0.out, by rw [HE.out]; rfl⟩⟩
end

end Go.Proofs.Ytelgbjfgmpkepaa

namespace Go.Proofs.Ytelgbjfgmpkepaa
open Go.RowKit Go.Shelf

def placeFrom : Nat → List (Int × Int) → Int × Int → Int
  | _, [], _ => -1
  | i, x :: L, c => if x.1 = c.1 ∧ x.2 = c.2 then (i : Int) else placeFrom (i + 1) L c
/-- the place of a case among others -/
def place (L : List (Int × Int)) (c : Int × Int) : Int := placeFrom 0 L c
theorem placeFrom_at : ∀ {L : List (Int × Int)} {i k : Nat} {c : Int × Int}, k < L.length → (∀ j, j < k → ¬ ((nthP L j).1 = c.1 ∧ (nthP L j).2 = c.2)) → ((nthP L k).1 = c.1 ∧ (nthP L k).2 = c.2) → placeFrom i L c = ((i + k : Nat) : Int)
  | [], _, k, _, hk, _, _ => by simp at hk
  | x :: L, i, 0, c, _, _, he => by rw [placeFrom, if_pos (show x.1 = c.1 ∧ x.2 = c.2 from he)]; simp
  | x :: L, i, k + 1, c, hk, h, he => by
    rw [placeFrom, if_neg (show ¬ (x.1 = c.1 ∧ x.2 = c.2) from h 0 (by omega)), placeFrom_at (k := k) (by simpa using hk) (fun j hj => h (j + 1) (by omega)) he]
    congr 1; omega
theorem placeFrom_none : ∀ {L : List (Int × Int)} {i : Nat} {c : Int × Int}, (∀ j, j < L.length → ¬ ((nthP L j).1 = c.1 ∧ (nthP L j).2 = c.2)) → placeFrom i L c = -1
  | [], _, _, _ => rfl
  | x :: L, i, c, h => by
    rw [placeFrom, if_neg (show ¬ (x.1 = c.1 ∧ x.2 = c.2) from h 0 (by simp)), placeFrom_none fun j hj => h (j + 1) (by simpa using hj)]
theorem box34' (w : World) (c : Int × Int) : ∃ W, W = w.alloc (.cells #[.int .i64 c.1, .int .i64 c.2] 34) ∧ Below w.heap.size w W ∧ W.cell? ⟨w.heap.size, 0, none⟩ = some (.int .i64 c.1) ∧ W.cell? ⟨w.heap.size, 1, none⟩ = some (.int .i64 c.2) :=
  box34 w c
section
variable (la : Option Addr) (lc : Nat) (L : List (Int × Int)) (c : Int × Int) (w : World)
set_option maxRecDepth 100000 in
set_option maxHeartbeats 1000000 in
theorem index_c (hL : PlumbsAt w la L) (hl : L.length ≤ 1000000) : Calls Try.prog 84 #[.slice la L.length lc, .agg #[.int .i64 c.1, .int .i64 c.2]] w (TellI w (place L c)) := by
  obtain ⟨V, hV, hB0, k0, k1⟩ := box34 w c
  have HLV := hid (hL.mono hB0)
  have K0 := hid k0; have K1 := hid k1
  have HB0 := hid hB0; have HV := hid hV; have Hl := hid hl
  have Hat := hid fun k => placeFrom_at (L := L) (i := 0) (k := k) (c := c)
  have Hno := hid (placeFrom_none (L := L) (i := 0) (c := c))
  unfold TellI
  obtain ⟨P, hP⟩ : ∃ P, P = place L c := ⟨_, rfl⟩
  have hP2 : P = placeFrom 0 L c := hP
  rw [← hP2] at Hat Hno
  rw [← hP]
  obtain ⟨x, y⟩ := c
  simp only at K0 K1 HV Hat Hno ⊢
  clear hP hP2 hL hV hB0 hl k0 k1
  go_enter Try.func84, Try.ntmps84
  go_upto_region 1 with (fail)
  rw [← HV.out]
  go_wp2
  go_loopw [5, 8] (fun _ i wr => ∃ k : Nat, k ≤ L.length ∧ i = .int .i64 k ∧ (∀ j, j < k → ¬ ((nthP L j).1 = x ∧ (nthP L j).2 = y)) ∧ Below V.heap.size V wr) (fun _ i _ => L.length - (intOf i).toNat)
  case atStart => exact ⟨0, Nat.zero_le _, rfl, fun j hj => absurd hj (by omega), Below.refl _ _⟩
  case round =>
    obtain ⟨k, hk, rfl, hw, hBr⟩ := hrel
    obtain ⟨wo, rfl⟩ : ∃ wo : World, wo = wr := ⟨_, rfl⟩
    have Hw := hid hw; have HBr := hid hBr
    have k0 := cstep K0.out hBr; have k1 := cstep K1.out hBr
    have HLr := hid (HLV.out.mono hBr)
    clear hw hBr
    by_cases hlt : k < L.length
    · have hI : (k : Int) < (L.length : Int) := by omega
      obtain ⟨b, off, rfl, hx, hy⟩ := HLr.out.at hlt
      have Hat2 := hid (Hat.out k hlt Hw.out)
      have e1 : IntKind.i64.wrap ((k : Int) + 1) = (k : Int) + 1 := wrap_i64_of (by omega) (by have := Hl.out; omega)
      obtain ⟨u, hu⟩ : ∃ u, u = (nthP L k).1 := ⟨_, rfl⟩
      obtain ⟨v, hv⟩ : ∃ u, u = (nthP L k).2 := ⟨_, rfl⟩
      rw [← hu] at hx Hat2
      rw [← hv] at hy Hat2
      have Hu := hid hu; have Hv := hid hv
      clear hu hv
      by_cases h1 : u = x
      · by_cases h2 : v = y
        · have Hat3 := hid (Hat2.out ⟨h1, h2⟩)
          subst h1 h2
          go_wp2
          go_quiet (fail)
          go_wp2
          go_ret
          exact ⟨by rw [Hat3.out]; simp, bstep HB0.out (HBr.out.trans (below_drawN _ _ _))⟩
        · go_wp2
          go_quiet (fail)
          go_wp2
          go_roundw
          case rel =>
            refine ⟨k + 1, hlt, by go_num, fun j hj => ?_, HBr.out.trans (below_drawN _ _ _)⟩
            by_cases ej : j = k
            · subst ej; rw [← Hv.out]; exact fun h => h2 h.2
            · exact Hw.out j (by omega)
          case measure => simp [intOf]; omega
      · go_wp2
        go_quiet (fail)
        go_wp2
        go_roundw
        case rel =>
          refine ⟨k + 1, hlt, by go_num, fun j hj => ?_, HBr.out.trans (below_drawN _ _ _)⟩
          by_cases ej : j = k
          · subst ej; rw [← Hu.out]; exact fun h => h1 h.1
          · exact Hw.out j (by omega)
        case measure => simp [intOf]; omega
    · have hI : ¬ (k : Int) < (L.length : Int) := by omega
      have Hno2 := hid (Hno.out fun j hj => Hw.out j (by omega))
      go_wp2
      go_ret
      exact ⟨by rw [Hno2.out]; rfl, bstep HB0.out HBr.out⟩
set_option maxRecDepth 100000 in
set_option maxHeartbeats 1000000 in
theorem place_c (hL : PlumbsAt w la L) (hl : L.length ≤ 1000000) : Calls Try.prog 47 #[.slice la L.length lc, .agg #[.int .i64 c.1, .int .i64 c.2]] w (TellI w (place L c)) := by
  obtain ⟨V, hV, hB0, k0, k1⟩ := box34 w c
  have HLV := hid (hL.mono hB0)
  have K0 := hid k0; have K1 := hid k1
  have HB0 := hid hB0; have HV := hid hV; have Hl := hid hl
  have Hat := hid fun k => placeFrom_at (L := L) (i := 0) (k := k) (c := c)
  have Hno := hid (placeFrom_none (L := L) (i := 0) (c := c))
  unfold TellI
  obtain ⟨P, hP⟩ : ∃ P, P = place L c := ⟨_, rfl⟩
  have hP2 : P = placeFrom 0 L c := hP
  rw [← hP2] at Hat Hno
  rw [← hP]
  obtain ⟨x, y⟩ := c
  simp only at K0 K1 HV Hat Hno ⊢
  clear hP hP2 hL hV hB0 hl k0 k1
  go_enter Try.func47, Try.ntmps47
  go_upto_region 1 with (fail)
  rw [← HV.out]
  go_wp2
  go_loopw [5] (fun i wr => ∃ k : Nat, k ≤ L.length ∧ i = .int .i64 k ∧ (∀ j, j < k → ¬ ((nthP L j).1 = x ∧ (nthP L j).2 = y)) ∧ Below V.heap.size V wr) (fun i _ => L.length - (intOf i).toNat)
  case atStart => exact ⟨0, Nat.zero_le _, rfl, fun j hj => absurd hj (by omega), Below.refl _ _⟩
  case round =>
    obtain ⟨k, hk, rfl, hw, hBr⟩ := hrel
    obtain ⟨wo, rfl⟩ : ∃ wo : World, wo = wr := ⟨_, rfl⟩
    have Hw := hid hw; have HBr := hid hBr
    have k0 := cstep K0.out hBr; have k1 := cstep K1.out hBr
    have HLr := hid (HLV.out.mono hBr)
    clear hw hBr
    by_cases hlt : k < L.length
    · have hI : (k : Int) < (L.length : Int) := by omega
      obtain ⟨b, off, rfl, hx, hy⟩ := HLr.out.at hlt
      have Hat2 := hid (Hat.out k hlt Hw.out)
      have e1 : IntKind.i64.wrap ((k : Int) + 1) = (k : Int) + 1 := wrap_i64_of (by omega) (by have := Hl.out; omega)
      obtain ⟨u, hu⟩ : ∃ u, u = (nthP L k).1 := ⟨_, rfl⟩
      obtain ⟨v, hv⟩ : ∃ u, u = (nthP L k).2 := ⟨_, rfl⟩
      rw [← hu] at hx Hat2
      rw [← hv] at hy Hat2
      have Hu := hid hu; have Hv := hid hv
      clear hu hv
      by_cases h1 : u = x
      · by_cases h2 : v = y
        · have Hat3 := hid (Hat2.out ⟨h1, h2⟩)
          subst h1 h2
          go_wp2
          go_quiet (fail)
          go_wp2
          go_ret
          exact ⟨by rw [Hat3.out]; simp, bstep HB0.out (HBr.out.trans (below_drawN _ _ _))⟩
        · go_wp2
          go_quiet (fail)
          go_wp2
          go_roundw
          case rel =>
            refine ⟨k + 1, hlt, by go_num, fun j hj => ?_, HBr.out.trans (below_drawN _ _ _)⟩
            by_cases ej : j = k
            · subst ej; rw [← Hv.out]; exact fun h => h2 h.2
            · exact Hw.out j (by omega)
          case measure => simp [intOf]; omega
      · go_wp2
        go_quiet (fail)
        go_wp2
        go_roundw
        case rel =>
          refine ⟨k + 1, hlt, by go_num, fun j hj => ?_, HBr.out.trans (below_drawN _ _ _)⟩
          by_cases ej : j = k
          · subst ej; rw [← Hu.out]; exact fun h => h1 h.1
          · exact Hw.out j (by omega)
        case measure => simp [intOf]; omega
    · have hI : ¬ (k : Int) < (L.length : Int) := by omega
      have Hno2 := hid (Hno.out fun j hj => Hw.out j (by omega))
      go_wp2
      go_ret
      exact ⟨by rw [Hno2.out]; rfl, bstep HB0.out HBr.out⟩
set_option maxRecDepth 100000 in
set_option maxHeartbeats 1000000 in
theorem contains_c (hL : PlumbsAt w la L) (hl : L.length ≤ 1000000) : Calls Try.prog 63 #[.slice la L.length lc, .agg #[.int .i64 c.1, .int .i64 c.2]] w (TellB w (decide (0 ≤ place L c))) := by
  obtain ⟨V, hV, hB0, k0, k1⟩ := box34 w c
  have H1 := hid fun (w' : World) (h : Below V.heap.size V w') => index_c la lc L c w' ((hL.mono hB0).mono h) hl
  have HB0 := hid hB0; have HV := hid hV; have HV0 := hid (Below.refl V.heap.size V)
  unfold TellI at H1
  unfold TellB
  obtain ⟨P, hP⟩ : ∃ P, P = place L c := ⟨_, rfl⟩
  rw [← hP] at H1 ⊢
  obtain ⟨x, y⟩ := c
  simp only at k0 k1 HV H1 ⊢
  clear hP hL hV hB0 hl
  go_enter Try.func63, Try.ntmps63
  go_upto_region 1 with (fail)
  rw [← HV.out]
  go_wp2_with fail
  refine (H1.out _ HV0.out).mono ?_
  rintro e w1 ⟨rfl, hB⟩
  have HB1 := hid (bstep HV0.out hB)
  clear hB
  by_cases h : 0 ≤ P
  · go_wp2
    go_ret
    exact ⟨ret_bool (by simp; try omega), bstep HB0.out HB1.out⟩
  · go_wp2
    go_ret
    exact ⟨ret_bool (by simp; try omega), bstep HB0.out HB1.out⟩
end
theorem OpenC.err {w : World} {ka : Option Addr} {kc : Nat} {K : Kn} {E : Int} {e : Ending} {w' : World} (h : OpenC w ka kc K E e w') (h0 : E ≠ 0) : e = .returned (.tuple #[.pointer none, .int .i64 E]) ∧ Below w.heap.size w w' := by
  obtain ⟨hB, (h1 | h1)⟩ := h
  · exact ⟨h1.2, hB⟩
  · exact absurd h1.1 h0
theorem OpenC.ok {w : World} {ka : Option Addr} {kc : Nat} {K : Kn} {E : Int} {e : Ending} {w' : World} (h : OpenC w ka kc K E e w') (h0 : E = 0) :
    ∃ g m, e = .returned (.tuple #[.pointer (some ⟨g, 0, none⟩), .int .i64 0]) ∧ w.heap.size ≤ g ∧ w.heap.size ≤ m ∧ g ≠ m ∧ BalAt w' g ka kc K (.map (some m)) ∧ w'.heap[m]? = some (.map #[] 0) ∧ Below w.heap.size w w' := by
  obtain ⟨hB, (h1 | ⟨_, g, m, a, b, c, d, e, f⟩)⟩ := h
  · exact absurd h0 h1.1
  · exact ⟨g, m, a, b, c, d, e, f, hB⟩
theorem rowsOne {w V : World} {wa : Option Addr} {wc : Nat} {ws : List Int} (hV : V = w.alloc (.cells #[.slice wa ws.length wc] 22)) (hw : IntsAt w wa ws) (hn : wa = none → wc = 0) : RowsAt V (some ⟨w.heap.size, 0, none⟩) [ws] := by
  subst hV
  refine .inr ⟨w.heap.size, 0, rfl, fun j hj => ?_⟩
  obtain rfl : j = 0 := by simpa using hj
  exact ⟨wa, wc, by simp [nthL], hw.mono (bnew _ _), hn⟩
section
variable (ka : Option Addr) (kc : Nat) (K : Kn) (wa : Option Addr) (wc : Nat) (ws : List Int) (w : World)
/-- open with one weighing -/
theorem openW (hk : KnAt w ka K) (hlk : K.cop.length ≤ 1000000) (hw : IntsAt w wa ws) (hl : ws.length ≤ 1000000) (hn : wa = none → wc = 0) :
    ∃ X, X = w.alloc (.cells #[.slice wa ws.length wc] 22) ∧ Below w.heap.size w X ∧ Calls Try.prog 60 #[.agg #[.slice ka K.cop.length kc, .bool K.none], .slice (some ⟨w.heap.size, 0, none⟩) 1 1] X (OpenC X ka kc K (kwErr K ws)) := by
  refine ⟨_, rfl, bnew _ _, ?_⟩
  have H1 := open_c ka kc K (some ⟨w.heap.size, 0, none⟩) 1 [ws] _ (hk.mono (bnew w (.cells #[.slice wa ws.length wc] 22))) hlk (rowsOne rfl hw hn) (by simp) (by simpa using hl)
  rw [oErr_one] at H1
  exact H1
theorem kw_ok {K : Kn} {ws : List Int} (h : kwErr K ws = 0) : Kok K ∧ WOk K.cop.length ws ∧ ws.sum = 0 := by
  unfold kwErr at h
  by_cases h0 : knErr K = 0
  · rw [if_pos h0] at h
    unfold wErr at h
    by_cases h1 : ws.length = K.cop.length
    · rw [if_pos h1] at h
      by_cases h2 : within (-1) 1 ws = true
      · rw [if_pos h2] at h
        by_cases h3 : ws.sum = 0
        · exact ⟨kok_iff.1 h0, ⟨h1, fun k hk => within_iff.1 h2 k (by omega)⟩, h3⟩
        · rw [if_neg h3] at h; omega
      · rw [if_neg h2] at h; omega
    · rw [if_neg h1] at h; omega
  · rw [if_neg h0] at h; omega
set_option maxRecDepth 100000 in
set_option maxHeartbeats 1000000 in
theorem checkWeighing_c (hk : KnAt w ka K) (hlk : K.cop.length ≤ 1000000) (hw : IntsAt w wa ws) (hl : ws.length ≤ 1000000) (hnil : wa = none → wc = 0) : Calls Try.prog 26 #[.agg #[.slice ka K.cop.length kc, .bool K.none], .slice wa ws.length wc] w (TellI w (kwErr K ws)) := by
  obtain ⟨V, hV, hB0, k0, k1⟩ := box1 w (.slice ka K.cop.length kc) (.bool K.none) 24
  have hkV := hk.mono hB0
  have HB0 := hid hB0; have HV := hid hV; have HV0 := hid (Below.refl V.heap.size V)
  have K0 := hid k0; have K1 := hid k1
  obtain ⟨X, hX, hBX, hc⟩ := openW ka kc K wa wc ws V hkV hlk (hw.mono hB0) hl hnil
  have HX := hid hX; have HBX := hid hBX; have H1 := hid hc
  unfold TellI
  obtain ⟨E, hEE⟩ : ∃ E, E = kwErr K ws := ⟨_, rfl⟩
  rw [← hEE] at H1 ⊢
  obtain ⟨nn, hnn⟩ : ∃ b, b = K.none := ⟨_, rfl⟩
  rw [← hnn] at k1 K1 HV H1 ⊢
  clear hnn hEE hk hw hV hB0 hkV hl hlk hX hBX hc hnil
  by_cases h0 : E = 0
  · subst h0
    go_enter Try.func26, Try.ntmps26
    go_upto_region 1 with (fail)
    rw [← HV.out]
    go_wp2_with fail
    rw [← HX.out]
    refine H1.out.mono ?_
    rintro e w1 h
    obtain ⟨g, m, rfl, _, _, _, _, _, hB⟩ := h.ok rfl
    have HB1 := hid (bstep HB0.out (bstep HBX.out hB))
    clear h hB
    go_wp2
    go_ret
    exact ⟨rfl, HB1.out⟩
  · have H0 := hid h0
    go_enter Try.func26, Try.ntmps26
    go_upto_region 1 with (fail)
    rw [← HV.out]
    go_wp2_with fail
    rw [← HX.out]
    refine H1.out.mono ?_
    rintro e w1 h
    obtain ⟨rfl, hB⟩ := h.err H0.out
    have HB1 := hid (bstep HB0.out (bstep HBX.out hB))
    clear h hB
    go_wp2
    go_ret
    exact ⟨rfl, HB1.out⟩
end

end Go.Proofs.Ytelgbjfgmpkepaa

namespace Go.Proofs.Ytelgbjfgmpkepaa
open Go.RowKit Go.Shelf

/-- a case that is among the cases is one -/
theorem casesTo_ok {K : Kn} (hc : ∀ k, k < K.cop.length → 0 ≤ nth K.cop k ∧ nth K.cop k ≤ 3) : ∀ {k : Nat}, k ≤ K.cop.length → ∀ c ∈ casesTo K k, CaseOk K.cop.length c
  | 0, _, c, h => by cases h
  | k + 1, hk, c, h => by
    rcases List.mem_append.1 h with h | h
    · exact casesTo_ok hc (by omega) c h
    · unfold copCases at h
      rcases List.mem_append.1 h with h | h
      · split at h
        · simp at h; subst h; exact .inr ⟨⟨by simp, by simp; omega⟩, .inl rfl⟩
        · cases h
      · split at h
        · simp at h; subst h; exact .inr ⟨⟨by simp, by simp; omega⟩, .inr rfl⟩
        · cases h
theorem casesOf_ok {K : Kn} (hc : ∀ k, k < K.cop.length → 0 ≤ nth K.cop k ∧ nth K.cop k ≤ 3) : ∀ c ∈ casesOf K, CaseOk K.cop.length c := by
  intro c h
  unfold casesOf at h
  rcases List.mem_append.1 h with h | h
  · exact casesTo_ok hc (Nat.le_refl _) c h
  · split at h
    · simp at h; subst h; exact .inl ⟨rfl, rfl⟩
    · cases h
theorem placeFrom_mem : ∀ {L : List (Int × Int)} {i : Nat} {c : Int × Int}, 0 ≤ placeFrom i L c → c ∈ L
  | [], _, _, h => by simp [placeFrom] at h
  | x :: L, i, c, h => by
    unfold placeFrom at h
    split at h
    · rename_i e; exact List.mem_cons.2 (.inl (Prod.ext e.1.symm e.2.symm))
    · exact List.mem_cons_of_mem _ (placeFrom_mem h)
/-- the error of a result -/
def resErr (K : Kn) (ws : List Int) (c : Int × Int) : Int := if kwErr K ws = 0 then (if 0 ≤ place (casesOf K) c then 0 else 2) else kwErr K ws
def resVal (K : Kn) (ws : List Int) (c : Int × Int) : Int := if resErr K ws c = 0 then resultOf ws c else 0
/-- a call that hands back a number and an error -/
def TellIE (w : World) (v er : Int) (e : Ending) (w' : World) : Prop := e = .returned (.tuple #[.int .i64 v, .int .i64 er]) ∧ Below w.heap.size w w'
/-- result, its box by a name -/
def FuncC (a : Option Addr) (n cap : Nat) (w : World) (e : Ending) (w' : World) : Prop :=
  ∃ p, e = .returned (.func (.func 85) #[] #[.pointer (some ⟨p, 0, none⟩)]) ∧ w'.cell? ⟨p, 0, none⟩ = some (.slice a n cap) ∧ Below w.heap.size w w'
theorem resultF_c (a : Option Addr) (n cap : Nat) (w : World) : Calls Try.prog 64 #[.slice a n cap] w (FuncC a n cap w) :=
  (result_c a n cap w).mono fun e w' ⟨h1, h2⟩ => ⟨w.heap.size, h1, by rw [h2]; simp, by rw [h2]; exact bnew _ _⟩
theorem place_mem {L : List (Int × Int)} {c : Int × Int} (h : 0 ≤ place L c) : c ∈ L := placeFrom_mem h
section
variable (ka : Option Addr) (kc : Nat) (K : Kn) (wa : Option Addr) (wc : Nat) (ws : List Int) (c : Int × Int) (w : World)
set_option maxRecDepth 100000 in
set_option maxHeartbeats 2000000 in
theorem result_22 (hk : KnAt w ka K) (hlk : K.cop.length ≤ 1000000) (hw : IntsAt w wa ws) (hl : ws.length ≤ 1000000) (hnil : wa = none → wc = 0) : Calls Try.prog 22 #[.agg #[.slice ka K.cop.length kc, .bool K.none], .slice wa ws.length wc, .agg #[.int .i64 c.1, .int .i64 c.2]] w (TellIE w (resVal K ws c) (resErr K ws c)) := by
  obtain ⟨V, hV, hB0, k0, k1, k2, k3⟩ := box2 w (.slice ka K.cop.length kc) (.bool K.none) (.int .i64 c.1) (.int .i64 c.2) 24 34
  have hkV := hk.mono hB0
  have HB0 := hid hB0; have HV := hid hV; have HV0 := hid (Below.refl V.heap.size V)
  have K0 := hid k0; have K1 := hid k1; have K2 := hid k2; have K3 := hid k3
  have hwV := hw.mono hB0
  obtain ⟨X, hX, hBX, hc⟩ := openW ka kc K wa wc ws V hkV hlk hwV hl hnil
  have HX := hid hX; have HBX := hid hBX; have H1 := hid hc
  have HwV := hid hwV
  have hE : resErr K ws c = if kwErr K ws = 0 then (if 0 ≤ place (casesOf K) c then 0 else 2) else kwErr K ws := rfl
  have hR : resVal K ws c = if resErr K ws c = 0 then resultOf ws c else 0 := rfl
  have Hok := hid (kw_ok (K := K) (ws := ws))
  unfold TellIE
  obtain ⟨EE, hEE⟩ : ∃ E, E = resErr K ws c := ⟨_, rfl⟩
  obtain ⟨R, hRR⟩ : ∃ E, E = resVal K ws c := ⟨_, rfl⟩
  rw [← hEE] at hE hR ⊢
  rw [← hRR] at hR ⊢
  obtain ⟨E, hE1⟩ : ∃ E, E = kwErr K ws := ⟨_, rfl⟩
  rw [← hE1] at H1 hE Hok
  obtain ⟨nn, hnn⟩ : ∃ b, b = K.none := ⟨_, rfl⟩
  rw [← hnn] at k1 K1 HV H1 ⊢
  clear hEE hRR hE1 hnn hk hw hV hB0 hkV hl hlk hX hBX hc hnil hwV
  by_cases h0 : E = 0
  · obtain ⟨hok, hwok, _⟩ := Hok.out h0
    rw [if_pos h0] at hE
    have HE := hid hE; have HR := hid hR
    have hn12 := hok.n12
    have Hcok := hid (casesOf_ok hok.cop)
    have Hok2 := hid hok; have Hwok := hid hwok
    have Hlen := hid (casesOf_len K)
    subst h0
    clear hE hR hok hwok hn12
    go_enter Try.func22, Try.ntmps22
    go_upto_region 1 with (fail)
    rw [← HV.out]
    go_wp2_with fail
    rw [← HX.out]
    refine H1.out.mono ?_
    rintro e w1 h
    obtain ⟨g, m, rfl, _, _, _, hbal, _, hB⟩ := h.ok rfl
    have hBV := bstep HBX.out hB
    have HB1 := hid (bstep HB0.out (bstep HBX.out hB))
    have k2 := cstep k2 (bstep HBX.out hB)
    have k3 := cstep k3 (bstep HBX.out hB)
    have Hw1 := hid (HwV.out.mono (bstep HBX.out hB))
    have H2 := hid fun (w' : World) (h : Below w1.heap.size w1 w') => cases_c g ka kc K _ w' (hbal.mono h) (by have := Hok2.out.n12; omega) Hok2.out.cop
    clear h hB hbal hBV
    obtain ⟨L, hL⟩ : ∃ L, L = casesOf K := ⟨_, rfl⟩
    rw [← hL] at H2 HE Hlen Hcok
    have H3 : ∃ bb : Bool, (decide (0 ≤ place L c)) = bb ∧ ∀ ao cap w', PlumbsAt w' ao L → Calls Try.prog 63 #[.slice ao L.length cap, .agg #[.int .i64 c.1, .int .i64 c.2]] w' (TellB w' bb) :=
      ⟨_, rfl, fun ao cap w' h => contains_c ao cap L c w' h (by have := Hlen.out; have := Hok2.out.n12; omega)⟩
    obtain ⟨bb, hbb, H3⟩ := H3
    have H3 := hid H3
    clear hL
    cases bb with
    | true =>
      have hp : 0 ≤ place L c := by simpa using hbb
      have hE2 := HE.out.trans (if_pos hp)
      have hR2 := HR.out
      rw [hE2, if_pos rfl] at hR2
      have H4 := hid fun (p : Nat) (w' : World) (h : Below w1.heap.size w1 w') (hcell : w'.cell? ⟨p, 0, none⟩ = some (.slice wa ws.length wc)) => result1_c p wa wc ws.length ws c w' hcell (Hw1.out.mono h) (by rw [Hwok.out.1]; exact Hwok.out) (by rw [Hwok.out.1]; exact Hcok.out c (place_mem hp))
      rw [← hR2] at H4
      have HE2 := hid hE2
      clear hE2 hR2 hp hbb HE HR
      go_upto_region 4 with (fail)
      go_region_law (first | (go_simp; go_at_call 61; refine (H2.out _ (by first | exact Below.refl _ _ | exact below_drawN _ _ 1)).mono ?_; rintro e wx ⟨ao, cap, rfl, hL, _, hB1⟩; have hBx := bstep (show Below w1.heap.size w1 _ from (by first | exact Below.refl _ _ | exact below_drawN _ _ 1)) hB1; have j2 := cstep k2 hBx; have j3 := cstep k3 hBx; have HBx := hid hBx; have HL := hid hL; clear hB1 hBx hL) | (go_simp; go_at_call 63; refine (H3.out _ _ _ HL.out).mono ?_; rintro e wy ⟨rfl, hB2⟩; have HBy := hid (bstep HBx.out hB2); clear hB2))
      all_goals (
        have k2 := cstep k2 HBy.out
        have k3 := cstep k3 HBy.out
        clear j2 j3
        go_wp2
        go_region_law (first | (go_simp; go_at_call 64; refine (resultF_c _ _ _ _).mono ?_; rintro e wz ⟨p, rfl, hp, hB1⟩; have hBz := bstep (show Below wy.heap.size wy _ from (by first | exact Below.refl _ _ | exact below_drawN _ _ 1)) hB1; have j2 := cstep k2 hBz; have j3 := cstep k3 hBz; have HBz := hid hBz; have Hp := hid hp; clear hB1 hBz hp) | (go_simp; go_at_call 85; refine (H4.out _ _ (bstep HBy.out HBz.out) Hp.out).mono ?_; rintro e wu ⟨rfl, hB2⟩; have HBu := hid (bstep HBz.out hB2); clear hB2))
        all_goals (
          go_wp2
          go_ret2
          exact ⟨by rw [HE2.out]; rfl, bstep HB1.out (bstep HBy.out HBu.out)⟩))
    | false =>
      have hp : ¬ 0 ≤ place L c := by simpa using hbb
      have hE2 := HE.out.trans (if_neg hp)
      have hR2 := HR.out
      rw [hE2, if_neg (by decide)] at hR2
      have HE2 := hid hE2; have HR2 := hid hR2
      clear hE2 hR2 hp hbb HE HR
      go_upto_region 4 with (fail)
      go_region_law (first | (go_simp; go_at_call 61; refine (H2.out _ (by first | exact Below.refl _ _ | exact below_drawN _ _ 1)).mono ?_; rintro e wx ⟨ao, cap, rfl, hL, _, hB1⟩; have hBx := bstep (show Below w1.heap.size w1 _ from (by first | exact Below.refl _ _ | exact below_drawN _ _ 1)) hB1; have j2 := cstep k2 hBx; have j3 := cstep k3 hBx; have HBx := hid hBx; have HL := hid hL; clear hB1 hBx hL) | (go_simp; go_at_call 63; refine (H3.out _ _ _ HL.out).mono ?_; rintro e wy ⟨rfl, hB2⟩; have HBy := hid (bstep HBx.out hB2); clear hB2))
      all_goals (
        go_wp2
        go_ret2
        exact ⟨by rw [HE2.out, HR2.out]; rfl, bstep HB1.out HBy.out⟩)
  · have H0 := hid h0
    rw [if_neg h0] at hE
    rw [hE, if_neg h0] at hR
    have HE := hid hE; have HR := hid hR
    clear hE hR
    go_enter Try.func22, Try.ntmps22
    go_upto_region 1 with (fail)
    rw [← HV.out]
    go_wp2_with fail
    rw [← HX.out]
    refine H1.out.mono ?_
    rintro e w1 h
    obtain ⟨rfl, hB⟩ := h.err H0.out
    have HB1 := hid (bstep HB0.out (bstep HBX.out hB))
    clear h hB
    have b1 : (E != 0) = true := by simpa using h0
    go_wp2
    go_ret2
    exact ⟨by rw [HE.out, HR.out]; rfl, HB1.out⟩
end

end Go.Proofs.Ytelgbjfgmpkepaa

namespace Go.Proofs.Ytelgbjfgmpkepaa
open Go.RowKit Go.Shelf

section
variable (ka : Option Addr) (kc : Nat) (K : Kn) (wa : Option Addr) (wc : Nat) (ws : List Int) (c : Int × Int) (w : World)
set_option maxRecDepth 100000 in
set_option maxHeartbeats 2000000 in
theorem rResult_23 (hk : KnAt w ka K) (hlk : K.cop.length ≤ 1000000) (hw : IntsAt w wa ws) (hl : ws.length ≤ 1000000) : Calls Try.prog 23 #[.agg #[.slice ka K.cop.length kc, .bool K.none], .slice wa ws.length wc, .agg #[.int .i64 c.1, .int .i64 c.2]] w (TellIE w (resVal K ws c) (resErr K ws c)) := by
  obtain ⟨V, hV, hB0, k0, k1, k2, k3⟩ := box2 w (.slice ka K.cop.length kc) (.bool K.none) (.int .i64 c.1) (.int .i64 c.2) 24 34
  have hkV := hk.mono hB0
  have HB0 := hid hB0; have HV := hid hV; have HV0 := hid (Below.refl V.heap.size V)
  have K0 := hid k0; have K1 := hid k1; have K2 := hid k2; have K3 := hid k3
  have hwV := hw.mono hB0
  have H1 := hid fun (w' : World) (h : Below V.heap.size V w') => rCheckWeighing_c ka kc K wa wc ws w' (hkV.mono h) hlk (hwV.mono h) hl
  have HkV := hid hkV
  have HwV := hid hwV
  have hE : resErr K ws c = if kwErr K ws = 0 then (if 0 ≤ place (casesOf K) c then 0 else 2) else kwErr K ws := rfl
  have hR : resVal K ws c = if resErr K ws c = 0 then resultOf ws c else 0 := rfl
  have Hok := hid (kw_ok (K := K) (ws := ws))
  unfold TellI at H1
  unfold TellIE
  obtain ⟨EE, hEE⟩ : ∃ E, E = resErr K ws c := ⟨_, rfl⟩
  obtain ⟨R, hRR⟩ : ∃ E, E = resVal K ws c := ⟨_, rfl⟩
  rw [← hEE] at hE hR ⊢
  rw [← hRR] at hR ⊢
  obtain ⟨E, hE1⟩ : ∃ E, E = kwErr K ws := ⟨_, rfl⟩
  rw [← hE1] at H1 hE Hok
  obtain ⟨nn, hnn⟩ : ∃ b, b = K.none := ⟨_, rfl⟩
  rw [← hnn] at k1 K1 HV H1 ⊢
  have Hnn := hid hnn
  clear hEE hRR hE1 hnn hk hw hV hB0 hkV hl hlk hwV
  by_cases h0 : E = 0
  · obtain ⟨hok, hwok, _⟩ := Hok.out h0
    rw [if_pos h0] at hE
    have HE := hid hE; have HR := hid hR
    have Hcok := hid (casesOf_ok hok.cop)
    have Hok2 := hid hok; have Hwok := hid hwok
    have Hlen := hid (casesOf_len K)
    subst h0
    clear hE hR hok hwok
    go_enter Try.func23, Try.ntmps23
    go_upto_region 1 with (fail)
    rw [← HV.out]
    go_wp2_with fail
    refine (H1.out _ HV0.out).mono ?_
    rintro e w1 ⟨rfl, hB⟩
    have HB1 := hid (bstep HV0.out hB)
    have k0 := cstep k0 hB
    have k1 := cstep k1 hB
    have k2 := cstep k2 hB
    have k3 := cstep k3 hB
    clear hB
    have Hw1 := hid (HwV.out.mono HB1.out)
    have H2 := hid fun (w' : World) (h : Below w1.heap.size w1 w') => casesOf_c ka kc K w' ((HkV.out.mono HB1.out).mono h) (by have := Hok2.out.n12; omega) Hok2.out.cop
    rw [← Hnn.out] at H2
    obtain ⟨L, hL⟩ : ∃ L, L = casesOf K := ⟨_, rfl⟩
    rw [← hL] at H2 HE Hlen Hcok
    have H3 : ∃ P : Int, place L c = P ∧ ∀ ao cap w', PlumbsAt w' ao L → Calls Try.prog 47 #[.slice ao L.length cap, .agg #[.int .i64 c.1, .int .i64 c.2]] w' (TellI w' P) :=
      ⟨_, rfl, fun ao cap w' h => place_c ao cap L c w' h (by have := Hlen.out; have := Hok2.out.n12; omega)⟩
    obtain ⟨P, hPP, H3⟩ := H3
    have H3 := hid H3
    clear hL
    by_cases hp : 0 ≤ P
    · have hE2 := HE.out.trans (if_pos (by rw [hPP]; exact hp))
      have hR2 := HR.out
      rw [hE2, if_pos rfl] at hR2
      have H4 := hid fun (w' : World) (h : Below w1.heap.size w1 w') => resultOf_c wa wc ws.length ws c w' (Hw1.out.mono h) (by rw [Hwok.out.1]; exact Hwok.out) (by rw [Hwok.out.1]; exact Hcok.out c (place_mem (by rw [hPP]; exact hp)))
      rw [← hR2] at H4
      have b1 : ¬ P < 0 := by omega
      have HE2 := hid hE2
      clear hE2 hR2 hPP HE HR
      go_upto_region 3 with (fail)
      go_region_law (first | (go_simp; go_at_call 46; refine (H2.out _ (by first | exact Below.refl _ _ | exact below_drawN _ _ 1)).mono ?_; rintro e wx ⟨ao, cap, rfl, hL, _, hB1⟩; have hBx := bstep (show Below w1.heap.size w1 _ from (by first | exact Below.refl _ _ | exact below_drawN _ _ 1)) hB1; have j2 := cstep k2 hBx; have j3 := cstep k3 hBx; have HBx := hid hBx; have HL := hid hL; clear hB1 hBx hL) | (go_simp; go_at_call 47; refine (H3.out _ _ _ HL.out).mono ?_; rintro e wy ⟨rfl, hB2⟩; have HBy := hid (bstep HBx.out hB2); clear hB2))
      all_goals (
        have k2 := cstep k2 HBy.out
        have k3 := cstep k3 HBy.out
        clear j2 j3
        go_wp2_with fail
        refine (H4.out _ HBy.out).mono ?_
        rintro e w2 ⟨rfl, hB⟩
        have HB2 := hid (bstep HB1.out (bstep HBy.out hB))
        clear hB
        go_wp2
        go_ret2
        exact ⟨by rw [HE2.out]; rfl, bstep HB0.out HB2.out⟩)
    · have hE2 := HE.out.trans (if_neg (by rw [hPP]; exact hp))
      have hR2 := HR.out
      rw [hE2, if_neg (by decide)] at hR2
      have HE2 := hid hE2; have HR2 := hid hR2
      have b1 : P < 0 := by omega
      clear hE2 hR2 hPP HE HR
      go_upto_region 3 with (fail)
      go_region_law (first | (go_simp; go_at_call 46; refine (H2.out _ (by first | exact Below.refl _ _ | exact below_drawN _ _ 1)).mono ?_; rintro e wx ⟨ao, cap, rfl, hL, _, hB1⟩; have hBx := bstep (show Below w1.heap.size w1 _ from (by first | exact Below.refl _ _ | exact below_drawN _ _ 1)) hB1; have j2 := cstep k2 hBx; have j3 := cstep k3 hBx; have HBx := hid hBx; have HL := hid hL; clear hB1 hBx hL) | (go_simp; go_at_call 47; refine (H3.out _ _ _ HL.out).mono ?_; rintro e wy ⟨rfl, hB2⟩; have HBy := hid (bstep HBx.out hB2); clear hB2))
      all_goals (
        go_wp2
        go_ret2
        exact ⟨by rw [HE2.out, HR2.out]; rfl, bstep HB0.out (bstep HB1.out HBy.out)⟩)
  · have H0 := hid h0
    rw [if_neg h0] at hE
    rw [hE, if_neg h0] at hR
    have HE := hid hE; have HR := hid hR
    have b1 : (E != 0) = true := by simpa using h0
    clear hE hR
    go_enter Try.func23, Try.ntmps23
    go_upto_region 1 with (fail)
    rw [← HV.out]
    go_wp2_with fail
    refine (H1.out _ HV0.out).mono ?_
    rintro e w1 ⟨rfl, hB⟩
    have HB1 := hid (bstep HV0.out hB)
    have k0 := cstep k0 hB
    have k1 := cstep k1 hB
    clear hB
    go_wp2_with fail
    refine (H1.out _ HB1.out).mono ?_
    rintro e w2 ⟨rfl, hB⟩
    have HB2 := hid (bstep HB1.out hB)
    clear hB
    go_wp2
    go_ret2
    exact ⟨by rw [HE.out, HR.out]; rfl, bstep HB0.out HB2.out⟩
end

end Go.Proofs.Ytelgbjfgmpkepaa

namespace Go.Proofs.Ytelgbjfgmpkepaa
open Go.RowKit Go.Shelf

/-- how many coppers are good, may be just lighter, just heavier, or either; and 1 if there may be no slug -/
structure Cnt where
  g : Nat
  l : Nat
  h : Nat
  b : Nat
  z : Nat
def Cnt.cases (c : Cnt) : Nat := c.l + c.h + 2 * c.b + c.z
/-- how many coppers of each kind lie in which pan -/
structure Pn where
  a1 : Nat
  b1 : Nat
  a2 : Nat
  b2 : Nat
  a3 : Nat
  b3 : Nat
def Pn.left (p : Pn) : Nat := p.a1 + p.a2 + p.a3
def Pn.right (p : Pn) : Nat := p.b1 + p.b2 + p.b3
/-- pans of a count -/
structure Fits (c : Cnt) (p : Pn) : Prop where
  k1 : p.a1 + p.b1 ≤ c.l
  k2 : p.a2 + p.b2 ≤ c.h
  k3 : p.a3 + p.b3 ≤ c.b
  ge : p.right ≤ p.left
  go : p.left ≤ p.right + c.g
/-- a count, with so many of each kind left, and the total of coppers kept -/
def Cnt.kept (c : Cnt) (l h b z : Nat) : Cnt := ⟨c.g + c.l + c.h + c.b - l - h - b, l, h, b, z⟩
def resL (c : Cnt) (p : Pn) : Cnt := c.kept (p.b1 + p.b3) (p.a2 + p.a3) 0 0
def resR (c : Cnt) (p : Pn) : Cnt := c.kept (p.a1 + p.a3) (p.b2 + p.b3) 0 0
def resE (c : Cnt) (p : Pn) : Cnt := c.kept (c.l - p.a1 - p.b1) (c.h - p.a2 - p.b2) (c.b - p.a3 - p.b3) c.z
theorem res_cases {c : Cnt} {p : Pn} (h : Fits c p) : (resL c p).cases + (resR c p).cases + (resE c p).cases = c.cases := by
  have := h.k1; have := h.k2; have := h.k3
  unfold resL resR resE Cnt.kept Cnt.cases
  simp only
  omega
/-- the pairs of numbers whose sum is at most n, in their order -/
def digits (n : Nat) : List (Nat × Nat) := (List.range (n + 1)).flatMap fun a => (List.range (n + 1 - a)).map fun b => (a, b)
theorem mem_digits {n : Nat} {d : Nat × Nat} : d ∈ digits n ↔ d.1 + d.2 ≤ n := by
  unfold digits
  rw [List.mem_flatMap]
  constructor
  · rintro ⟨a, ha, hd⟩
    rw [List.mem_map] at hd
    obtain ⟨b, hb, rfl⟩ := hd
    rw [List.mem_range] at ha hb
    simp only; omega
  · intro h
    refine ⟨d.1, List.mem_range.2 (by omega), List.mem_map.2 ⟨d.2, List.mem_range.2 (by omega), rfl⟩⟩
/-- all pans of a count, in their order, equal or not -/
def allP (c : Cnt) : List Pn := (digits c.b).flatMap fun d3 => (digits c.h).flatMap fun d2 => (digits c.l).map fun d1 => ⟨d1.1, d1.2, d2.1, d2.2, d3.1, d3.2⟩
def fitsB (c : Cnt) (p : Pn) : Bool := decide (p.right ≤ p.left) && decide (p.left ≤ p.right + c.g)
def splitsL (c : Cnt) : List Pn := (allP c).filter (fitsB c)
theorem mem_splits {c : Cnt} {p : Pn} : p ∈ splitsL c ↔ Fits c p := by
  unfold splitsL allP fitsB
  simp only [List.mem_filter, List.mem_flatMap, List.mem_map, mem_digits, Bool.and_eq_true, decide_eq_true_eq]
  constructor
  · rintro ⟨⟨d3, h3, d2, h2, d1, h1, rfl⟩, h4, h5⟩
    exact ⟨h1, h2, h3, h4, h5⟩
  · intro h
    exact ⟨⟨(p.a3, p.b3), h.k3, (p.a2, p.b2), h.k2, (p.a1, p.b1), h.k1, rfl⟩, h.ge, h.go⟩
/-- what a result needs -/
def val (K : Nat) (f : Cnt → Nat) (c x : Cnt) : Nat := if x.cases = 0 then 0 else if x.cases = c.cases then K else f x
def aftF (K : Nat) (f : Cnt → Nat) (c : Cnt) (p : Pn) : Nat := max (max (val K f c (resL c p)) (val K f c (resR c p))) (val K f c (resE c p))
def minL (K : Nat) : List Nat → Nat
  | [] => K
  | x :: l => min x (minL K l)
theorem minL_le {K : Nat} : ∀ {l : List Nat}, minL K l ≤ K
  | [] => Nat.le_refl _
  | x :: l => by have := minL_le (K := K) (l := l); simp only [minL]; omega
theorem minL_mem {K : Nat} : ∀ {l : List Nat} {x : Nat}, x ∈ l → minL K l ≤ x
  | y :: l, x, h => by
    simp only [minL]
    rcases List.mem_cons.1 h with rfl | h
    · omega
    · have := minL_mem (K := K) h; omega
theorem minL_is {K : Nat} : ∀ {l : List Nat}, minL K l = K ∨ minL K l ∈ l
  | [] => .inl rfl
  | x :: l => by
    simp only [minL]
    rcases minL_is (K := K) (l := l) with h | h
    · rcases Nat.le_total x (minL K l) with h2 | h2
      · rw [Nat.min_eq_left h2]; exact .inr (List.mem_cons_self ..)
      · rw [Nat.min_eq_right h2]; exact .inl h
    · rcases Nat.le_total x (minL K l) with h2 | h2
      · rw [Nat.min_eq_left h2]; exact .inr (List.mem_cons_self ..)
      · rw [Nat.min_eq_right h2]; exact .inr (List.mem_cons_of_mem _ h)
theorem minL_eq {K : Nat} {l : List Nat} {v : Nat} (hK : v ≤ K) (h1 : ∀ x ∈ l, v ≤ x) (h2 : v = K ∨ v ∈ l) : minL K l = v := by
  apply Nat.le_antisymm
  · rcases h2 with rfl | h2
    · exact minL_le
    · exact minL_mem h2
  · rcases minL_is (K := K) (l := l) with h | h
    · omega
    · exact h1 _ h
def ndF (K : Nat) : Nat → Cnt → Nat
  | 0, _ => 0
  | f + 1, c => if c.cases = 1 then 0 else minL K ((splitsL c).map fun p => aftF K (ndF K f) c p + 1)
/-- how many weighings a count needs; K: no number is enough -/
def nd (K : Nat) (c : Cnt) : Nat := ndF K c.cases c
def aft (K : Nat) (c : Cnt) (p : Pn) : Nat := aftF K (nd K) c p
theorem res_le {c : Cnt} {p : Pn} (h : Fits c p) : (resL c p).cases ≤ c.cases ∧ (resR c p).cases ≤ c.cases ∧ (resE c p).cases ≤ c.cases := by
  have := res_cases h; omega
theorem aftF_congr {K : Nat} {f f' : Cnt → Nat} {c : Cnt} {p : Pn} (h : ∀ x : Cnt, 0 < x.cases → x.cases < c.cases → f x = f' x) (hp : Fits c p) : aftF K f c p = aftF K f' c p := by
  have hv : ∀ x : Cnt, x.cases ≤ c.cases → val K f c x = val K f' c x := fun x hx => by
    unfold val
    by_cases h0 : x.cases = 0
    · rw [if_pos h0, if_pos h0]
    · rw [if_neg h0, if_neg h0]
      by_cases h1 : x.cases = c.cases
      · rw [if_pos h1, if_pos h1]
      · rw [if_neg h1, if_neg h1, h x (by omega) (by omega)]
  obtain ⟨h1, h2, h3⟩ := res_le hp
  unfold aftF
  rw [hv _ h1, hv _ h2, hv _ h3]
theorem ndF_fuel (K : Nat) : ∀ (f : Nat) (c : Cnt), 0 < c.cases → c.cases ≤ f → ndF K f c = ndF K c.cases c := by
  intro f
  induction f using Nat.strongRecOn with
  | ind f ih =>
    intro c h0 hf
    cases f with
    | zero => omega
    | succ f =>
      obtain ⟨k, hk⟩ : ∃ k, c.cases = k + 1 := ⟨c.cases - 1, by omega⟩
      rw [hk]
      unfold ndF
      by_cases h1 : c.cases = 1
      · rw [if_pos h1, if_pos h1]
      · rw [if_neg h1, if_neg h1]
        congr 1
        refine List.map_congr_left fun p hp => ?_
        rw [aftF_congr (fun x hx hlt => ?_) (mem_splits.1 hp)]
        rw [ih f (by omega) x hx (by omega), ih k (by omega) x hx (by omega)]
theorem nd_eq (K : Nat) {c : Cnt} (h0 : 0 < c.cases) : nd K c = if c.cases = 1 then 0 else minL K ((splitsL c).map fun p => aft K c p + 1) := by
  obtain ⟨k, hk⟩ : ∃ k, c.cases = k + 1 := ⟨c.cases - 1, by omega⟩
  unfold nd
  rw [hk]
  conv => lhs; unfold ndF
  rw [hk]
  by_cases h1 : k + 1 = 1
  · rw [if_pos h1, if_pos h1]
  · rw [if_neg h1, if_neg h1]
    congr 1
    refine List.map_congr_left fun p hp => ?_
    unfold aft
    rw [aftF_congr (fun x hx hlt => ?_) (mem_splits.1 hp)]
    unfold nd
    exact ndF_fuel K k x hx (by omega)
theorem nd_one (K : Nat) {c : Cnt} (h : c.cases = 1) : nd K c = 0 := by rw [nd_eq K (by omega), if_pos h]
theorem nd_le (K : Nat) (c : Cnt) : nd K c ≤ K := by
  by_cases h0 : c.cases = 0
  · unfold nd; rw [h0]; exact Nat.zero_le _
  · rw [nd_eq K (by omega)]; split
    · exact Nat.zero_le _
    · exact minL_le
theorem val_le (K : Nat) (c x : Cnt) : val K (nd K) c x ≤ K := by
  unfold val
  split
  · exact Nat.zero_le _
  · split
    · exact Nat.le_refl _
    · exact nd_le K x
theorem aft_le (K : Nat) (c : Cnt) (p : Pn) : aft K c p ≤ K := by
  have := val_le K c (resL c p); have := val_le K c (resR c p); have := val_le K c (resE c p)
  unfold aft aftF; omega

/-- w weighings are enough -/
def Can : Nat → Cnt → Prop
  | 0, c => c.cases = 1
  | w + 1, c => c.cases = 1 ∨ (1 < c.cases ∧ ∃ p, Fits c p ∧ ∀ x, x = resL c p ∨ x = resR c p ∨ x = resE c p → x.cases = 0 ∨ (x.cases < c.cases ∧ Can w x))
theorem Can.pos : ∀ {w : Nat} {c : Cnt}, Can w c → 0 < c.cases
  | 0, c, h => by have h : c.cases = 1 := h; omega
  | w + 1, c, h => by
    rcases h with h | ⟨h, _⟩ <;> omega
theorem Can.succ : ∀ {w : Nat} {c : Cnt}, Can w c → Can (w + 1) c
  | 0, _, h => .inl h
  | w + 1, c, h => by
    rcases h with h | ⟨h, p, hf, hx⟩
    · exact .inl h
    · exact .inr ⟨h, p, hf, fun x hx2 => (hx x hx2).imp_right fun h3 => ⟨h3.1, h3.2.succ⟩⟩
theorem Can.mono {w w' : Nat} {c : Cnt} (h : Can w c) (hw : w ≤ w') : Can w' c := by
  induction hw with
  | refl => exact h
  | step _ ih => exact ih.succ
theorem val_of {K : Nat} {f : Cnt → Nat} {c x : Cnt} (h0 : x.cases ≠ 0) (h1 : x.cases ≠ c.cases) : val K f c x = f x := by
  unfold val; rw [if_neg h0, if_neg h1]
theorem can_nd (K : Nat) : ∀ {w : Nat} {c : Cnt}, Can w c → nd K c ≤ w ∧ nd K c + 1 ≤ c.cases
  | 0, c, h => by rw [nd_one K (show c.cases = 1 from h)]; have h : c.cases = 1 := h; omega
  | w + 1, c, h => by
    rcases h with h | ⟨h, p, hf, hx⟩
    · rw [nd_one K h]; omega
    · have key : ∀ x, x = resL c p ∨ x = resR c p ∨ x = resE c p → val K (nd K) c x ≤ w ∧ val K (nd K) c x + 2 ≤ c.cases := fun x hx2 => by
        rcases hx x hx2 with h0 | ⟨h1, h2⟩
        · unfold val; rw [if_pos h0]; omega
        · have := can_nd K h2
          have := h2.pos
          rw [val_of (by omega) (by omega)]; omega
      have k1 := key _ (.inl rfl); have k2 := key _ (.inr (.inl rfl)); have k3 := key _ (.inr (.inr rfl))
      have hm : nd K c ≤ aft K c p + 1 := by
        rw [nd_eq K (by omega), if_neg (by omega)]
        exact minL_mem (List.mem_map.2 ⟨p, mem_splits.2 hf, rfl⟩)
      unfold aft aftF at hm
      omega
theorem aft_lt {K : Nat} {c : Cnt} {p : Pn} (h : aft K c p < K) {x : Cnt} (hx : x = resL c p ∨ x = resR c p ∨ x = resE c p) (h0 : x.cases ≠ 0) : x.cases ≠ c.cases ∧ nd K x ≤ aft K c p := by
  have key : val K (nd K) c x ≤ aft K c p := by unfold aft aftF; rcases hx with rfl | rfl | rfl <;> omega
  unfold val at key
  rw [if_neg h0] at key
  by_cases h1 : x.cases = c.cases
  · rw [if_pos h1] at key; omega
  · rw [if_neg h1] at key; exact ⟨h1, key⟩
theorem nd_can {K : Nat} : ∀ (n : Nat) {c : Cnt}, c.cases ≤ n → 0 < c.cases → nd K c < K → Can (nd K c) c
  | 0, c, hn, h0, _ => by omega
  | n + 1, c, hn, h0, h => by
    by_cases h1 : c.cases = 1
    · exact Can.mono (w := 0) h1 (Nat.zero_le _)
    · have e := nd_eq K h0
      rw [if_neg h1] at e
      rcases minL_is (K := K) (l := (splitsL c).map fun p => aft K c p + 1) with h2 | h2
      · omega
      · rw [← e, List.mem_map] at h2
        obtain ⟨p, hp, h2⟩ := h2
        have hf := mem_splits.1 hp
        rw [← h2]
        refine .inr ⟨by omega, p, hf, fun x hx => ?_⟩
        by_cases hx0 : x.cases = 0
        · exact .inl hx0
        · obtain ⟨h3, h4⟩ := aft_lt (K := K) (by omega) hx hx0
          have hle : x.cases ≤ c.cases := by have := res_le hf; rcases hx with rfl | rfl | rfl <;> omega
          exact .inr ⟨by omega, (nd_can n (by omega) (by omega) (by omega)).mono h4⟩
/-- nd K tells whether weighings are enough -/
theorem nd_never {K : Nat} {c : Cnt} (h0 : 0 < c.cases) (hK : c.cases ≤ K) : nd K c = K ↔ ∀ w, ¬ Can w c := by
  constructor
  · intro h w hw; have := can_nd K hw; omega
  · intro h
    have := nd_le K c
    rcases Nat.lt_or_ge (nd K c) K with h1 | h1
    · exact absurd (nd_can _ (Nat.le_refl _) h0 h1) (h _)
    · omega
theorem nd_min {K : Nat} {c : Cnt} {w : Nat} (h : Can w c) : nd K c ≤ w := (can_nd K h).1
/-- two numbers for 'never' -/
theorem nd_two {K M : Nat} {c : Cnt} (h0 : 0 < c.cases) (hK : c.cases ≤ K) (hM : c.cases ≤ M) : nd M c = if nd K c = K then M else nd K c := by
  by_cases h : nd K c = K
  · rw [if_pos h]; exact (nd_never h0 hM).2 ((nd_never h0 hK).1 h)
  · rw [if_neg h]
    have hlt : nd K c < K := by have := nd_le K c; omega
    have h1 := nd_can _ (Nat.le_refl _) h0 hlt
    have h2 := can_nd M h1
    have hMlt : nd M c < M := by have := (can_nd M h1).2; omega
    have h3 := nd_min (K := K) (nd_can _ (Nat.le_refl _) h0 hMlt)
    omega
theorem Can.bound : ∀ {w : Nat} {c : Cnt}, Can w c → c.cases ≤ 3 ^ w
  | 0, c, h => by have h : c.cases = 1 := h; rw [h]; decide
  | w + 1, c, h => by
    have hp : 0 < 3 ^ w := Nat.pow_pos (by decide)
    rw [Nat.pow_succ]
    rcases h with h | ⟨h, p, hf, hx⟩
    · omega
    · have hs := res_cases hf
      have key : ∀ x, x = resL c p ∨ x = resR c p ∨ x = resE c p → x.cases ≤ 3 ^ w := fun x hx2 => by
        rcases hx x hx2 with h1 | h1
        · omega
        · exact h1.2.bound
      have := key _ (.inl rfl); have := key _ (.inr (.inl rfl)); have := key _ (.inr (.inr rfl))
      omega

end Go.Proofs.Ytelgbjfgmpkepaa

namespace Go.Proofs.Ytelgbjfgmpkepaa
open Go.RowKit Go.Shelf

/-- the number of a copper, by the cases in which it is a slug -/
def bitAt (M : List (Int × Int)) (i : Nat) : Int := (if ((i : Int), (1 : Int)) ∈ M then 1 else 0) + (if ((i : Int), (2 : Int)) ∈ M then 2 else 0)
/-- what is known by some cases of n coppers -/
def leftK (n : Nat) (M : List (Int × Int)) : Kn := { cop := (List.range n).map fun i => bitAt M i, none := decide (((-1 : Int), (0 : Int)) ∈ M) }
theorem leftK_len (n : Nat) (M : List (Int × Int)) : (leftK n M).cop.length = n := by simp [leftK]
theorem leftK_nth {n : Nat} {M : List (Int × Int)} {i : Nat} (h : i < n) : nth (leftK n M).cop i = bitAt M i := by
  rw [nth_eq (by rw [leftK_len]; exact h)]
  simp [leftK]
theorem bitAt_range (M : List (Int × Int)) (i : Nat) : 0 ≤ bitAt M i ∧ bitAt M i ≤ 3 := by
  unfold bitAt; split <;> split <;> omega
theorem bitAt_app {n : Nat} {M : List (Int × Int)} {c : Int × Int} (hc : CaseOk n c) (hm : c ∉ M) (j : Nat) : bitAt (M ++ [c]) j = bitAt M j + (if c.1 = (j : Int) then c.2 else 0) := by
  obtain ⟨x, y⟩ := c
  have key : ∀ k : Int, ((j : Int), k) ∈ M ++ [(x, y)] ↔ ((j : Int), k) ∈ M ∨ (x = (j : Int) ∧ y = k) := fun k => by
    rw [List.mem_append, List.mem_singleton, Prod.mk.injEq]
    constructor
    · rintro (h | h)
      · exact .inl h
      · exact .inr ⟨h.1.symm, h.2.symm⟩
    · rintro (h | h)
      · exact .inl h
      · exact .inr ⟨h.1.symm, h.2.symm⟩
  unfold bitAt
  simp only
  by_cases hx : x = (j : Int)
  · rw [if_pos hx]
    rcases hc with ⟨h1, _⟩ | ⟨_, h2⟩
    · simp only at h1; omega
    · simp only at h2
      rcases h2 with h2 | h2
      · have e1 : ((j : Int), (1 : Int)) ∉ M := by rw [← hx, ← h2]; exact hm
        rw [if_pos ((key 1).2 (.inr ⟨hx, h2⟩)), if_neg e1]
        by_cases e2 : ((j : Int), (2 : Int)) ∈ M
        · rw [if_pos ((key 2).2 (.inl e2)), if_pos e2]; omega
        · rw [if_neg (fun h => ((key 2).1 h).elim e2 (fun h3 => by omega)), if_neg e2]; omega
      · have e1 : ((j : Int), (2 : Int)) ∉ M := by rw [← hx, ← h2]; exact hm
        rw [if_pos ((key 2).2 (.inr ⟨hx, h2⟩)), if_neg e1]
        by_cases e2 : ((j : Int), (1 : Int)) ∈ M
        · rw [if_pos ((key 1).2 (.inl e2)), if_pos e2]; omega
        · rw [if_neg (fun h => ((key 1).1 h).elim e2 (fun h3 => by omega)), if_neg e2]; omega
  · rw [if_neg hx]
    have e : ∀ k : Int, (((j : Int), k) ∈ M ++ [(x, y)]) = (((j : Int), k) ∈ M) := fun k => propext ⟨fun h => ((key k).1 h).elim id (fun h3 => absurd h3.1 hx), fun h => (key k).2 (.inl h)⟩
    simp only [e]; omega
/-- a case more: of a copper -/
theorem leftK_cop {n : Nat} {M : List (Int × Int)} {i : Nat} {kd : Int} (hi : i < n) (hk : kd = 1 ∨ kd = 2) (hm : ((i : Int), kd) ∉ M) :
    (leftK n (M ++ [((i : Int), kd)])).cop = (leftK n M).cop.set i (nth (leftK n M).cop i + kd) ∧ (leftK n (M ++ [((i : Int), kd)])).none = (leftK n M).none := by
  have hc : CaseOk n ((i : Int), kd) := .inr ⟨⟨by simp, by simp; omega⟩, hk⟩
  constructor
  · refine ext_nth (by rw [List.length_set, leftK_len, leftK_len]) fun j hj => ?_
    rw [leftK_len] at hj
    rw [leftK_nth hj, bitAt_app hc hm, nth_eq (by rw [List.length_set, leftK_len]; exact hj), List.getElem_set]
    by_cases e : i = j
    · subst e; rw [if_pos rfl, if_pos rfl, leftK_nth hj]
    · rw [if_neg (by simp only; omega), if_neg e, ← nth_eq, leftK_nth hj]; omega
  · unfold leftK
    simp only [decide_eq_decide, List.mem_append, List.mem_singleton, Prod.mk.injEq]
    constructor
    · rintro (h | h)
      · exact h
      · omega
    · exact .inl
/-- a case more: no slug -/
theorem leftK_none {n : Nat} {M : List (Int × Int)} : (leftK n (M ++ [((-1 : Int), (0 : Int))])).cop = (leftK n M).cop ∧ (leftK n (M ++ [((-1 : Int), (0 : Int))])).none = true := by
  constructor
  · refine ext_nth (by rw [leftK_len, leftK_len]) fun j hj => ?_
    rw [leftK_len] at hj
    rw [leftK_nth hj, leftK_nth hj]
    have e : ∀ k : Int, (((j : Int), k) ∈ M ++ [((-1 : Int), (0 : Int))]) = (((j : Int), k) ∈ M) := fun k => propext (by
      rw [List.mem_append, List.mem_singleton, Prod.mk.injEq]
      exact ⟨fun h => h.elim id (fun h3 => by omega), .inl⟩)
    unfold bitAt
    simp only [e]
  · simp [leftK]
theorem leftK_or {n : Nat} {M : List (Int × Int)} {i : Nat} {kd : Int} (hi : i < n) (hk : kd = 1 ∨ kd = 2) (hm : ((i : Int), kd) ∉ M) : bits .or .i64 (nth (leftK n M).cop i) kd = nth (leftK n M).cop i + kd := by
  rw [leftK_nth hi]
  unfold bitAt
  rcases hk with rfl | rfl
  · rw [if_neg hm]
    split <;> decide +kernel
  · rw [if_neg hm]
    split <;> decide +kernel
theorem leftK_lt {n : Nat} {M : List (Int × Int)} {i : Nat} {kd : Int} (hi : i < n) (hk : kd = 1 ∨ kd = 2) (hm : ((i : Int), kd) ∉ M) : 0 ≤ nth (leftK n M).cop i ∧ nth (leftK n M).cop i + kd ≤ 3 := by
  rw [leftK_nth hi]
  unfold bitAt
  rcases hk with rfl | rfl
  · rw [if_neg hm]; split <;> omega
  · rw [if_neg hm]; split <;> omega
theorem casesTo_lt {K : Kn} : ∀ {k : Nat} {c : Int × Int}, c ∈ casesTo K k → 0 ≤ c.1 ∧ c.1 < (k : Int)
  | 0, _, h => by cases h
  | k + 1, c, h => by
    rcases List.mem_append.1 h with h | h
    · have := casesTo_lt h; omega
    · unfold copCases at h
      rcases List.mem_append.1 h with h | h
      · split at h
        · simp at h; subst h; simp only; omega
        · cases h
      · split at h
        · simp at h; subst h; simp only; omega
        · cases h
theorem copCases_at {K : Kn} {k : Nat} {c : Int × Int} (h : c ∈ copCases K k) : c.1 = (k : Int) := by
  unfold copCases at h
  rcases List.mem_append.1 h with h | h
  · split at h
    · simp at h; subst h; rfl
    · cases h
  · split at h
    · simp at h; subst h; rfl
    · cases h
theorem copCases_nodup (K : Kn) (k : Nat) : (copCases K k).Nodup := by
  unfold copCases
  split <;> split <;> simp
theorem casesTo_nodup (K : Kn) : ∀ k, (casesTo K k).Nodup
  | 0 => List.nodup_nil
  | k + 1 => by
    refine List.nodup_append.2 ⟨casesTo_nodup K k, copCases_nodup K k, fun a ha b hb e => ?_⟩
    subst e
    have := casesTo_lt ha
    have := copCases_at hb
    omega
theorem casesOf_nodup (K : Kn) : (casesOf K).Nodup := by
  unfold casesOf
  refine List.nodup_append.2 ⟨casesTo_nodup K _, by split <;> simp, fun a ha b hb e => ?_⟩
  subst e
  have := casesTo_lt ha
  split at hb
  · simp at hb; subst hb; simp only at this; omega
  · cases hb
theorem nodup_new {L : List (Int × Int)} (h : L.Nodup) {k : Nat} (hk : k < L.length) : nthP L k ∉ L.take k := by
  have h2 : (L.take (k + 1)).Nodup := List.Sublist.nodup (List.take_sublist _ _) h
  rw [take_succ_nthP hk] at h2
  intro hm
  exact (List.nodup_append.1 h2).2.2 _ hm _ (List.mem_singleton_self _) rfl
theorem mem_copCases {K : Kn} {k : Nat} {kd : Int} (hk : kd = 1 ∨ kd = 2) : ((k : Int), kd) ∈ copCases K k ↔ hasKind (nth K.cop k) kd = true := by
  unfold copCases
  rw [List.mem_append]
  rcases hk with rfl | rfl
  · cases h1 : hasKind (nth K.cop k) 1 <;> cases h2 : hasKind (nth K.cop k) 2 <;> simp
  · cases h1 : hasKind (nth K.cop k) 1 <;> cases h2 : hasKind (nth K.cop k) 2 <;> simp
theorem mem_casesTo {K : Kn} {i : Nat} {kd : Int} (hk : kd = 1 ∨ kd = 2) : ∀ {k : Nat}, ((i : Int), kd) ∈ casesTo K k ↔ i < k ∧ hasKind (nth K.cop i) kd = true
  | 0 => by simp [casesTo]
  | k + 1 => by
    unfold casesTo
    rw [List.mem_append, mem_casesTo hk]
    by_cases e : i = k
    · subst e
      rw [mem_copCases hk]
      constructor
      · rintro (h | h)
        · omega
        · exact ⟨by omega, h⟩
      · intro h; exact .inr h.2
    · constructor
      · rintro (h | h)
        · exact ⟨by omega, h.2⟩
        · have := copCases_at h; simp only at this; omega
      · intro h; exact .inl ⟨by omega, h.2⟩
/-- the cases of a copper -/
theorem mem_cases {K : Kn} {i : Nat} {kd : Int} (hk : kd = 1 ∨ kd = 2) : ((i : Int), kd) ∈ casesOf K ↔ i < K.cop.length ∧ hasKind (nth K.cop i) kd = true := by
  unfold casesOf
  rw [List.mem_append, mem_casesTo hk]
  constructor
  · rintro (h | h)
    · exact h
    · split at h
      · simp at h
      · cases h
  · exact .inl
theorem mem_casesNone {K : Kn} : ((-1 : Int), (0 : Int)) ∈ casesOf K ↔ K.none = true := by
  unfold casesOf
  rw [List.mem_append]
  constructor
  · rintro (h | h)
    · have := casesTo_lt h; simp only at this; omega
    · cases hn : K.none with
      | true => rfl
      | false => rw [hn] at h; simp at h
  · intro h; rw [h]; exact .inr (by simp)
/-- the cases in which a weighing has a result -/
def withL (K : Kn) (ws : List Int) (r : Int) : List (Int × Int) := (casesOf K).filter fun c => decide (resultOf ws c = r)

end Go.Proofs.Ytelgbjfgmpkepaa
