/- Walks: slices.Equal, code. Walks: alike. Walks of the reference: Tells, planError. Walks of the reference: Alike. Walks: opened, CheckPlan, Alike of the program; CheckPlan of the reference. Walks: Alike of the program. -/
import Derived.Test.YtelgbjfgmpkepaaKF
namespace Go.Proofs.Ytelgbjfgmpkepaa
open Go.RowKit Go.Shelf

theorem IntsAt.of_owns {w : World} {base b cap : Nat} {xs : List Int} (h : w.ownsRow base 3 1 (.slice (some ⟨b, 0, none⟩) xs.length cap) xs.length (intv xs)) : IntsAt w (some ⟨b, 0, none⟩) xs :=
  .inr ⟨b, 0, rfl, fun j hj => by
    have := h.cells rfl j (.int .i64 (nth xs j)) (by rw [intv_get, if_pos hj])
    simpa [Addr.add_lit] using this⟩

/-- the run of an append of one number onto a full slice: a new block -/
theorem run_app_full (ty : TypeId) (w : World) (ao : Option Addr) (cap : Nat) (xs : List Int) (hat : IntsAt w ao xs) (hnil : ao = none → xs.length = 0 ∧ cap = 0)
    (ad : Addr) (u : Int) (hu : w.cell? ad = some (.int .i64 u)) (hfull : cap < xs.length + 1) (hb : xs.length ≤ 1000000) :
    ∃ b' cap' w', (Builtin.append_ #[22, 22] ty #[.slice ao xs.length cap, .slice (some ad) 1 1]).run Try.prog w = .ok (.slice (some ⟨b', 0, none⟩) (xs.length + 1) cap') w' ∧
      Below w.heap.size w w' ∧ w.heap.size ≤ b' ∧ IntsAt w' (some ⟨b', 0, none⟩) (xs ++ [u]) ∧ xs.length + 1 ≤ cap' := by
  obtain ⟨i, hi, hz, hs, hby⟩ := info_parts et22.hi
  have hnews : ∀ j v, [Value.int .i64 u][j]? = some v → w.cell? (ad.add j) = some v := by
    intro j v hj
    match j, hj with
    | 0, hj => simp at hj; subst hj; simpa [Addr.add] using hu
    | j + 1, hj => simp at hj
  have hown : ∀ v' w', w'.ownsRow w.heap.size 3 1 v' (xs.length + 1) (intv xs ++ [Value.int .i64 u]) → w.grownBy w' none →
      ∃ b' cap', v' = .slice (some ⟨b', 0, none⟩) (xs.length + 1) cap' ∧ Below w.heap.size w w' ∧ w.heap.size ≤ b' ∧ IntsAt w' (some ⟨b', 0, none⟩) (xs ++ [u]) ∧ xs.length + 1 ≤ cap' := by
    intro v' w' ho hg
    have hB : Below w.heap.size w w' := (Below.refl _ w).grown hg (Nat.le_refl _) (fun k e => by cases e)
    obtain ⟨hl, (⟨rfl, h0⟩ | ⟨g, c, cur, rfl, hge, hh, hle, hrest⟩)⟩ := ho
    · omega
    · refine ⟨g, c, rfl, hB, hge, ?_, hle⟩
      have ho' : w'.ownsRow w.heap.size 3 1 (.slice (some ⟨g, 0, none⟩) (xs ++ [u]).length c) (xs ++ [u]).length (intv (xs ++ [u])) := by
        rw [intv_append]; simp only [List.length_append, List.length_singleton]
        exact ⟨hl, .inr ⟨g, c, cur, rfl, hge, hh, hle, hrest⟩⟩
      exact IntsAt.of_owns ho'
  cases ao with
  | some b =>
    obtain ⟨v', w', hrun, r1, r2⟩ := run_append_arg_grows (P := Try.prog) w 22 ty 3 i (.int .i64 0) 1 8 Try.underlying22 hi hz hs hby rfl (by decide) b xs.length cap (intv xs) (by simp [intv])
      (fun j v hj => by
        rw [intv_get] at hj
        split at hj
        · rename_i hlt
          obtain ⟨b2, off, e, hc⟩ := hat.at hlt
          simp at e; subst e
          simp at hj; subst hj
          rw [Addr.add_lit]; exact hc
        · simp at hj) ad 1 1 [.int .i64 u] rfl hnews hfull (by unfold maxLen; omega) (by omega)
    obtain ⟨b', cap', rfl, h⟩ := hown v' w' r1 r2
    exact ⟨b', cap', w', hrun, h⟩
  | none =>
    obtain ⟨h0, rfl⟩ := hnil rfl
    obtain rfl : xs = [] := List.eq_nil_of_length_eq_zero h0
    obtain ⟨v', w', hrun, r1, r2, _⟩ := run_append_own (P := Try.prog) w w.heap.size 22 ty 3 i (.int .i64 0) 1 8 Try.underlying22 hi hz hs hby rfl (by decide) (.slice none 0 0) 0 [] (World.ownsRow_nil w _ 3 1) ad 1 1 [.int .i64 u] rfl hnews
      (by intro u hu; simp at hu; subst hu; rfl) (by unfold maxLen; omega) (by omega) (Nat.le_refl _)
    obtain ⟨b', cap', rfl, h⟩ := hown v' w' r1 (by simpa [Value.ownBlock] using r2)
    exact ⟨b', cap', w', hrun, h⟩
theorem step_app_full1 {ops : Array Oper} {o : Oper} {a : Act} {K : Act → World → Prop} {Q : Exit → Act → World → Prop} {E : Prop} (w : World) (hgd : o.guard = none) (s x : Operand)
    (hop : o.op = Op.call { callee := Callee.builtin Builtin.append, args := #[s, x], argTypes := #[22, 22] })
    (ao : Option Addr) (m cap : Nat) (xs : List Int) (hm : xs.length = m) (hs : a.eval s = .slice ao m cap) (hat : IntsAt w ao xs) (hnil : ao = none → m = 0 ∧ cap = 0)
    (ad : Addr) (u : Int) (hx : a.eval x = .slice (some ad) 1 1) (hu : w.cell? ad = some (.int .i64 u)) (hfull : cap < m + 1) (hb : m ≤ 1000000)
    (hK : ∀ b' cap' w', Below w.heap.size w w' → w.heap.size ≤ b' → IntsAt w' (some ⟨b', 0, none⟩) (xs ++ [u]) → m + 1 ≤ cap' → K (a.put o.dst (.slice (some ⟨b', 0, none⟩) (m + 1) cap')) w') :
    if Region.wanted o (yielded ops a.tmps) = true then Oper.wp Try.prog o a w K Q else E := by
  subst hm
  have hw : Region.wanted o (yielded ops a.tmps) = true := by simp [Region.wanted, hgd]
  rw [if_pos hw]
  obtain ⟨b', cap', w', hrun, h1, h2, h3, h4⟩ := run_app_full o.type w ao cap xs hat hnil ad u hu hfull hb
  unfold Oper.wp
  simp [execOp, hop, resolve, invoke, builtin, hs, hx, hrun, Result.andThen, Oper.upon]
  exact hK b' cap' w' h1 h2 h3 h4
theorem slice_full (ao : Option Addr) (k cap : Nat) (w' : World) (hcap : k ≤ cap) : (Instr.slice 22 (.slice ao k cap) none (some (.int .i64 (k : Int))) (some (.int .i64 (k : Int)))).run Try.prog w' = .ok (.slice ao k k) w' := by
  have hk : (k : Int) ≤ (cap : Int) := by omega
  simp [go_sem, hk]
section
variable (xa : Option Addr) (xc : Nat) (xs : List Int) (ya : Option Addr) (yc : Nat) (ys : List Int) (w : World)
set_option maxRecDepth 100000 in
set_option maxHeartbeats 1000000 in
theorem equal_c (hx : IntsAt w xa xs) (hy : IntsAt w ya ys) (hl : xs.length ≤ 1000000) : Calls Try.prog 74 #[.slice xa xs.length xc, .slice ya ys.length yc] w (TellB w (decide (xs = ys))) := by
  have Hx := hid hx; have Hy := hid hy; have Hl := hid hl
  have Hext := hid fun (h1 : xs.length = ys.length) (h2 : ∀ k, k < xs.length → nth xs k = nth ys k) => ext_nth h1 h2
  have Hne := hid fun (k : Nat) (h : ¬ nth xs k = nth ys k) (e : xs = ys) => h (by rw [e])
  unfold TellB
  obtain ⟨E, hE⟩ : ∃ E, E = decide (xs = ys) := ⟨_, rfl⟩
  rw [← hE]
  have HE := hid hE
  clear hE hx hy hl
  by_cases hn : xs.length = ys.length
  · have b1 : ((xs.length : Int) != (ys.length : Int)) = false := by simp [hn]
    have Hn := hid hn
    clear hn
    go_enter Try.func74, Try.ntmps74
    go_wp2
    go_loopw [5, 13] (fun _ i wr => ∃ k : Nat, k ≤ xs.length ∧ i = .int .i64 k ∧ (∀ j, j < k → nth xs j = nth ys j) ∧ Below w.heap.size w wr) (fun _ i _ => xs.length - (intOf i).toNat)
    case atStart => exact ⟨0, Nat.zero_le _, rfl, fun j hj => absurd hj (by omega), Below.refl _ _⟩
    case round =>
      obtain ⟨k, hk, rfl, hw, hB⟩ := hrel
      obtain ⟨wo, rfl⟩ : ∃ wo : World, wo = wr := ⟨_, rfl⟩
      have Hw := hid hw; have HB := hid hB
      have hxo := Hx.out.mono hB; have hyo := Hy.out.mono hB
      clear hw hB
      by_cases hlt : k < xs.length
      · have hI : (k : Int) < (xs.length : Int) := by omega
        have hI2 : (k : Int) < (ys.length : Int) := by have := Hn.out; omega
        obtain ⟨b, off, rfl, hcx⟩ := IntsAt.at hxo hlt
        obtain ⟨b2, off2, rfl, hcy⟩ := IntsAt.at hyo (show k < ys.length by omega)
        have e1 : IntKind.i64.wrap ((k : Int) + 1) = (k : Int) + 1 := wrap_i64_of (by omega) (by have := Hl.out; omega)
        have hne := Hne.out k
        obtain ⟨x, hx⟩ : ∃ x, x = nth xs k := ⟨_, rfl⟩
        obtain ⟨y, hy⟩ : ∃ x, x = nth ys k := ⟨_, rfl⟩
        rw [← hx] at hcx hne
        rw [← hy] at hcy hne
        have HX := hid hx; have HY := hid hy; have HNE := hid hne
        clear hx hy hxo hyo hne
        by_cases he : x = y
        · have b2 : (x != y) = false := by simpa using he
          go_wp2
          go_quiet (fail)
          go_wp2
          go_roundw
          case rel =>
            refine ⟨k + 1, hlt, by go_num, fun j hj => ?_, HB.out.trans (below_drawN _ _ _)⟩
            by_cases ej : j = k
            · subst ej; rw [← HX.out, ← HY.out]; exact he
            · exact Hw.out j (by omega)
          case measure => simp [intOf]; omega
        · have b2 : (x != y) = true := by simpa using he
          have HE2 := hid (HE.out.trans (decide_eq_false (HNE.out he)))
          go_wp2
          go_quiet (fail)
          go_wp2
          go_ret
          exact ⟨by rw [HE2.out]; rfl, HB.out.trans (below_drawN _ _ _)⟩
      · have hI : ¬ (k : Int) < (xs.length : Int) := by omega
        have HE2 := hid (HE.out.trans (decide_eq_true (Hext.out Hn.out fun j hj => Hw.out j (by omega))))
        clear hxo hyo
        go_wp2
        go_ret
        exact ⟨by rw [HE2.out]; rfl, HB.out⟩
  · have b1 : ((xs.length : Int) != (ys.length : Int)) = true := by simp; omega
    have HE2 := hid (HE.out.trans (decide_eq_false (fun h => hn (by rw [h]))))
    go_enter Try.func74, Try.ntmps74
    go_wp2
    go_ret
    exact ⟨by rw [HE2.out]; rfl, Below.refl _ _⟩
end
/-- the results of a plan in a case -/
def codeOf (ps : List (List Int)) (c : Int × Int) : List Int := ps.map fun p => resultOf p c
theorem codeOf_take {ps : List (List Int)} {c : Int × Int} {k : Nat} (hk : k < ps.length) : codeOf (ps.take (k + 1)) c = codeOf (ps.take k) c ++ [resultOf (nthL ps k) c] := by
  unfold codeOf
  rw [List.take_succ_eq_append_getElem hk, List.map_append, nthL_eq hk]; simp
theorem codeOf_len (ps : List (List Int)) (c : Int × Int) : (codeOf ps c).length = ps.length := by simp [codeOf]
/-- a call that hands back a list of ints -/
def IntsC (w : World) (xs : List Int) (e : Ending) (w' : World) : Prop := ∃ ao cap, e = .returned (.slice ao xs.length cap) ∧ IntsAt w' ao xs ∧ (ao = none → cap = 0) ∧ Below w.heap.size w w'
section
variable (pa : Option Addr) (pc : Nat) (ps : List (List Int)) (c : Int × Int) (n : Nat) (w : World)
set_option maxRecDepth 100000 in
set_option maxHeartbeats 4000000 in
theorem code_c (hp : RowsAt w pa ps) (hl : ps.length ≤ 1000) (hw : ∀ p ∈ ps, WOk n p) (hc : CaseOk n c) : Calls Try.prog 75 #[.slice pa ps.length pc, .agg #[.int .i64 c.1, .int .i64 c.2]] w (IntsC w (codeOf ps c)) := by
  obtain ⟨V, hV, hB0, k0, k1⟩ := box34 w c
  have HpV := hid (hp.mono hB0)
  have K0 := hid k0; have K1 := hid k1
  have HB0 := hid hB0; have HV := hid hV; have Hl := hid hl; have Hw := hid hw; have Hc := hid hc
  unfold IntsC
  obtain ⟨Z, hZ⟩ : ∃ Z, Z = codeOf ps c := ⟨_, rfl⟩
  have HZl := hid (show Z.length = ps.length by rw [hZ]; exact codeOf_len _ _)
  rw [← hZ]
  have HZ := hid hZ
  clear hZ hp hl hw hc hV hB0 k0 k1
  go_enter Try.func75, Try.ntmps75
  go_upto_region 1 with (fail)
  rw [← HV.out]
  go_wp2
  go_loopw [5, 7, 10] (fun o _ i wr => ∃ (k : Nat) (ao : Option Addr) (cap : Nat), k ≤ ps.length ∧ i = .int .i64 k ∧ o = .slice ao k cap ∧ IntsAt wr ao (codeOf (ps.take k) c) ∧ (ao = none → k = 0 ∧ cap = 0) ∧ k ≤ cap ∧ Below V.heap.size V wr) (fun _ _ i _ => ps.length - (intOf i).toNat)
  case atStart => exact ⟨0, none, 0, Nat.zero_le _, rfl, rfl, IntsAt.nil _ _, fun _ => ⟨rfl, rfl⟩, Nat.le_refl _, Below.refl _ _⟩
  case round =>
    obtain ⟨k, ao, cap, hk, rfl, rfl, ho, hnil, hcap, hB⟩ := hrel
    obtain ⟨wo, rfl⟩ : ∃ wo : World, wo = wr := ⟨_, rfl⟩
    have HB := hid hB; have Ho := hid ho; have Hnil := hid hnil
    have k0 := cstep K0.out hB; have k1 := cstep K1.out hB
    have hpo := HpV.out.mono hB
    clear hB ho hnil
    by_cases hlt : k < ps.length
    · have hI : (k : Int) < (ps.length : Int) := by omega
      obtain ⟨b, off, ra, rc, rfl, hcx, hxs, _⟩ := hpo.at hlt
      have hwok := Hw.out _ (nthL_mem hlt)
      have e1 : IntKind.i64.wrap ((k : Int) + 1) = (k : Int) + 1 := wrap_i64_of (by omega) (by have := Hl.out; omega)
      have hst := codeOf_take (c := c) hlt
      obtain ⟨p, hp⟩ : ∃ x, x = nthL ps k := ⟨_, rfl⟩
      rw [← hp] at hcx hxs hwok hst
      have H85 := hid fun (q : Nat) (w' : World) (h : Below wo.heap.size wo w') (hcell : w'.cell? ⟨q, 0, none⟩ = some (.slice ra p.length rc)) => result1_c q ra rc p.length p c w' hcell (hxs.mono h) (by rw [hwok.1]; exact hwok) (by rw [hwok.1]; exact Hc.out)
      obtain ⟨R, hR⟩ : ∃ R, R = resultOf p c := ⟨_, rfl⟩
      rw [← hR] at H85 hst
      have Hst := hid hst
      have hslc : ∀ w' : World, (Instr.slice 22 (.slice ao k cap) none (some (.int .i64 (k : Int))) (some (.int .i64 (k : Int)))).run Try.prog w' = .ok (.slice ao k k) w' := fun w' => slice_full ao k cap w' hcap
      have hml : (codeOf (ps.take k) c).length = k := by rw [codeOf_len, List.length_take]; omega
      have Hml := hid hml
      have hk1 : k ≤ 1000000 := by have := Hl.out; omega
      clear hp hR hxs hwok hpo hst hml
      go_upto_region 5 with (fail)
      go_region_law (first | (refine step_app_full1 _ rfl _ _ rfl ao k k (codeOf (ps.take k) c) Hml.out rfl (Ho.out.mono (bstep HBu.out (bnew _ _))) (fun e => ⟨(Hnil.out e).1, (Hnil.out e).1⟩) ⟨wu.heap.size, 0, none⟩ R rfl (by simp) (by omega) hk1 ?_; intro b' cap' w' hB' hlb hI' hcap'; have HB' := hid (bstep (bstep HBu.out (bnew _ _)) hB'); clear hB') | (go_simp; go_at_call 64; refine (resultF_c _ _ _ _).mono ?_; rintro e wz ⟨q, rfl, hq, hB1⟩; have hBz := bstep (show Below wo.heap.size wo _ from (by first | exact Below.refl _ _ | exact below_drawN _ _ 1)) hB1; have j0 := cstep k0 hBz; have j1 := cstep k1 hBz; have HBz := hid hBz; have Hq := hid hq; clear hB1 hBz hq) | (go_simp; go_at_call 85; refine (H85.out _ _ HBz.out Hq.out).mono ?_; rintro e wu ⟨rfl, hB2⟩; have HBu := hid (bstep HBz.out hB2); clear hB2))
      all_goals (
        have HI2 := hid hI'
        have Hcap2 := hid hcap'
        clear hI' hcap' hlb
        go_wp2
        go_roundw)
      all_goals first
        | (simp [intOf]; omega)
        | exact ⟨k + 1, some ⟨b', 0, none⟩, cap', hlt, by go_num, rfl, by rw [Hst.out]; exact HI2.out, (fun e => by cases e), Hcap2.out, bstep HB.out HB'.out⟩
    · have hI : ¬ (k : Int) < (ps.length : Int) := by omega
      rw [List.take_of_length_le (by omega), ← HZ.out] at Ho
      obtain rfl : k = ps.length := by omega
      have HZl := hid HZl.out
      rw [← HZl.out]
      have HZ2 := hid HZl.out
      go_wp2
      go_ret
      exact ⟨ao, cap, rfl, Ho.out, fun e => (Hnil.out e).2, bstep HB0.out HB.out⟩
end

end Go.Proofs.Ytelgbjfgmpkepaa

namespace Go.Proofs.Ytelgbjfgmpkepaa
open Go.RowKit Go.Shelf

/-- two cases have the same results -/
def sameB (ps : List (List Int)) (a b : Int × Int) : Bool := decide (codeOf ps a = codeOf ps b)
/-- the first two cases that a plan does not tell -/
def alikeL (ps : List (List Int)) : List (Int × Int) → Option ((Int × Int) × (Int × Int))
  | [] => none
  | x :: L => match L.find? (sameB ps x) with
    | some y => some (x, y)
    | none => alikeL ps L
theorem find_first {p : Int × Int → Bool} : ∀ {L : List (Int × Int)} {j : Nat}, j < L.length → (∀ k, k < j → p (nthP L k) = false) → p (nthP L j) = true → L.find? p = some (nthP L j)
  | [], _, h, _, _ => by simp at h
  | x :: L, 0, _, _, h => by rw [List.find?_cons_of_pos (show p x = true from h)]; rfl
  | x :: L, j + 1, hj, hn, h => by
    rw [List.find?_cons_of_neg (by rw [show p x = false from hn 0 (by omega)]; simp), find_first (j := j) (by simpa using hj) (fun k hk => hn (k + 1) (by omega)) h]
    rfl
theorem find_no {p : Int × Int → Bool} : ∀ {L : List (Int × Int)}, (∀ k, k < L.length → p (nthP L k) = false) → L.find? p = none
  | [], _ => rfl
  | x :: L, h => by
    rw [List.find?_cons_of_neg (by rw [show p x = false from h 0 (by simp)]; simp), find_no fun k hk => h (k + 1) (by simpa using hk)]
theorem alike_at {ps : List (List Int)} : ∀ {L : List (Int × Int)} {i j : Nat}, i < j → j < L.length → (∀ i' j', i' < i → i' < j' → j' < L.length → sameB ps (nthP L i') (nthP L j') = false) →
    (∀ j', i < j' → j' < j → sameB ps (nthP L i) (nthP L j') = false) → sameB ps (nthP L i) (nthP L j) = true → alikeL ps L = some (nthP L i, nthP L j)
  | [], _, _, _, h, _, _, _ => by simp at h
  | x :: L, 0, j, hij, hj, _, h2, he => by
    obtain ⟨j, rfl⟩ : ∃ k, j = k + 1 := ⟨j - 1, by omega⟩
    have : L.find? (sameB ps x) = some (nthP L j) := find_first (by simpa using hj) (fun k hk => h2 (k + 1) (by omega) (by omega)) he
    rw [alikeL, this]; rfl
  | x :: L, i + 1, j, hij, hj, h1, h2, he => by
    obtain ⟨j, rfl⟩ : ∃ k, j = k + 1 := ⟨j - 1, by omega⟩
    have h0 : L.find? (sameB ps x) = none := find_no fun k hk => h1 0 (k + 1) (by omega) (by omega) (by simpa using hk)
    rw [alikeL, h0]
    exact alike_at (i := i) (j := j) (by omega) (by simpa using hj) (fun i' j' a b c => h1 (i' + 1) (j' + 1) (by omega) (by omega) (by simpa using c)) (fun j' a b => h2 (j' + 1) (by omega) (by omega)) he
theorem alike_none {ps : List (List Int)} : ∀ {L : List (Int × Int)}, (∀ i' j', i' < j' → j' < L.length → sameB ps (nthP L i') (nthP L j') = false) → alikeL ps L = none
  | [], _ => rfl
  | x :: L, h => by
    have h0 : L.find? (sameB ps x) = none := find_no fun k hk => h 0 (k + 1) (by omega) (by simpa using hk)
    rw [alikeL, h0]
    exact alike_none fun i' j' a b => h (i' + 1) (j' + 1) (by omega) (by simpa using b)
/-- a call that hands back two cases and a bool -/
def PairC (w : World) (o : Option ((Int × Int) × (Int × Int))) (e : Ending) (w' : World) : Prop :=
  e = .returned (.tuple #[.agg #[.int .i64 (o.getD ((0, 0), (0, 0))).1.1, .int .i64 (o.getD ((0, 0), (0, 0))).1.2], .agg #[.int .i64 (o.getD ((0, 0), (0, 0))).2.1, .int .i64 (o.getD ((0, 0), (0, 0))).2.2], .bool o.isSome]) ∧ Below w.heap.size w w'
theorem PlumbsAt.drop {w : World} {b off : Nat} {ls : List (Int × Int)} (h : PlumbsAt w (some ⟨b, off, none⟩) ls) (n : Nat) : PlumbsAt w (some ⟨b, off + n * 2, none⟩) (ls.drop n) := by
  by_cases hz : ls.length ≤ n
  · rw [List.drop_of_length_le hz]; exact .inl rfl
  · refine .inr ⟨b, off + n * 2, rfl, fun j hj => ?_⟩
    rw [List.length_drop] at hj
    obtain ⟨b2, o2, e, h1, h2⟩ := h.at (j := n + j) (by omega)
    cases e
    have e1 : nthP (ls.drop n) j = nthP ls (n + j) := by simp [nthP]
    rw [e1, show off + n * 2 + j * 2 = off + (n + j) * 2 by omega]
    exact ⟨h1, h2⟩
theorem sliceP_from {w : World} {a : Option Addr} {L : List (Int × Int)} (h : PlumbsAt w a L) {c k : Nat} (hk : k ≤ L.length) (hc : L.length ≤ c) : ∃ a2 : Option Addr, (∀ w' : World, (Instr.slice 27 (.slice a L.length c) (some (.int .i64 (k : Int))) none none).run Try.prog w' = .ok (.slice a2 (L.length - k) (c - k)) w') ∧ PlumbsAt w a2 (L.drop k) := by
  refine ⟨if c = k then a else a.map (·.add (k * 2)), fun w' => ?_, ?_⟩
  · have h1 : (k : Int) ≤ (L.length : Int) := by omega
    simp [go_sem, h1]
  · by_cases hz : L.length ≤ k
    · rw [List.drop_of_length_le hz]; exact .inl rfl
    · obtain ⟨b, off, rfl, _⟩ := h.at (j := k) (by omega)
      rw [if_neg (by omega), Option.map_some, Addr.add_lit]
      exact h.drop k
theorem nthP_drop (xs : List (Int × Int)) (k n : Nat) : nthP (xs.drop n) k = nthP xs (n + k) := by
  simp [nthP]
section
variable (g : Nat) (ka : Option Addr) (kc : Nat) (K : Kn) (mv : Value) (pa : Option Addr) (pc : Nat) (ps : List (List Int)) (w : World)
set_option maxRecDepth 100000 in
set_option maxHeartbeats 4000000 in
theorem alike_c (hb : BalAt w g ka kc K mv) (hok : Kok K) (hp : RowsAt w pa ps) (hl : ps.length ≤ 1000) (hw : ∀ p ∈ ps, WOk K.cop.length p) : Calls Try.prog 70 #[.pointer (some ⟨g, 0, none⟩), .slice pa ps.length pc] w (PairC w (alikeL ps (casesOf K))) := by
  obtain ⟨V, hV, hB0, _, _, _, _⟩ := box2 w (.int .i64 0) (.int .i64 0) (.int .i64 0) (.int .i64 0) 34 34
  have hr0 : V2At V w.heap.size 34 (.int .i64 0) (.int .i64 0) := by rw [hV]; exact V2At.mono (heap_alloc_new _ _) (bnew _ _)
  have hr1 : V2At V (w.heap.size + 1) 34 (.int .i64 0) (.int .i64 0) := by
    rw [hV]
    have := heap_alloc_new (w.alloc (.cells #[.int .i64 0, .int .i64 0] 34)) (.cells #[.int .i64 0, .int .i64 0] 34)
    simpa [V2At] using this
  have H1 := hid (cases_c g ka kc K mv V (hb.mono hB0) (by have := hok.n12; omega) hok.cop)
  have Hlen := hid (show (casesOf K).length ≤ 1000 by have := casesOf_len K; have := hok.n12; omega)
  have Hcok := hid (casesOf_ok hok.cop)
  have HCC := hid fun (c : Int × Int) (hc : CaseOk K.cop.length c) (w' : World) (h : Below V.heap.size V w') => code_c pa pc ps c K.cop.length w' ((hp.mono hB0).mono h) hl hw hc
  have HB0 := hid hB0; have HV := hid hV; have Hr0 := hid hr0; have Hr1 := hid hr1
  have Hpl := hid hl
  unfold ListC at H1
  unfold IntsC at HCC
  unfold PairC
  obtain ⟨L, hL⟩ : ∃ L, L = casesOf K := ⟨_, rfl⟩
  rw [← hL] at H1 Hlen Hcok ⊢
  have Hat := hid fun i j => alike_at (ps := ps) (L := L) (i := i) (j := j)
  have Hno := hid (alike_none (ps := ps) (L := L))
  obtain ⟨O, hO⟩ : ∃ O, O = alikeL ps L := ⟨_, rfl⟩
  rw [← hO] at Hat Hno ⊢
  clear hV hB0 hr0 hr1 hb hok hp hl hw hL hO
  go_enter Try.func70, Try.ntmps70
  go_upto_region 1 with (fail)
  rw [← HV.out]
  go_step3
  go_wp2_with fail
  refine H1.out.mono ?_
  rintro e w1 ⟨la, lc, rfl, hL, ⟨⟨_, hlc⟩, _⟩, hB⟩
  have HB1 := hid hB; have HL1 := hid hL; have Hlc := hid hlc
  clear hB hL hlc
  go_wp2
  go_step3
  go_wp2
  go_loopw [8, 9, 16] (fun _ _ i wr => ∃ k : Nat, k ≤ L.length ∧ i = .int .i64 k ∧ (∀ i' j', i' < k → i' < j' → j' < L.length → sameB ps (nthP L i') (nthP L j') = false) ∧ Below w1.heap.size w1 wr) (fun _ _ i _ => L.length - (intOf i).toNat)
  case atStart => exact ⟨0, Nat.zero_le _, rfl, fun i' j' h => absurd h (by omega), Below.refl _ _⟩
  case round =>
    obtain ⟨k, hk, rfl, hw, hB⟩ := hrel
    obtain ⟨wo, rfl⟩ : ∃ wo : World, wo = wr := ⟨_, rfl⟩
    have Hw := hid hw; have HB := hid hB
    have HLo := hid (HL1.out.mono hB)
    clear hw hB
    by_cases hlt : k < L.length
    · have hI : (k : Int) < (L.length : Int) := by omega
      obtain ⟨lb, lo, e0, hx, hy⟩ := HLo.out.at hlt
      obtain ⟨a2, hsl, hLd⟩ := sliceP_from HLo.out (k := k + 1) (c := lc) (by omega) Hlc.out
      have hcase := Hcok.out _ (nthP_mem hlt)
      have e1 : IntKind.i64.wrap ((k : Int) + 1) = (k : Int) + 1 := wrap_i64_of (by omega) (by have := Hlen.out; omega)
      rw [show ((k + 1 : Nat) : Int) = (k : Int) + 1 by omega] at hsl
      have e2 : IntKind.i64.wrap ((L.length : Int) - 1) = (L.length : Int) - 1 := wrap_i64_of (by omega) (by have := Hlen.out; omega)
      obtain ⟨c, hc⟩ : ∃ c, c = nthP L k := ⟨_, rfl⟩
      rw [← hc] at hx hy hcase
      have Hc := hid hc; have Hcase := hid hcase
      obtain ⟨Y, hY, hBY, y0, y1⟩ := box34 wo c
      have HY := hid hY; have HBY := hid hBY
      have HLd := hid (hLd.mono hBY)
      have K0 := hid y0; have K1 := hid y1
      clear hc hcase hY hBY hLd y0 y1
      subst e0
      obtain ⟨x, y⟩ := c
      simp only at hx hy HY K0 K1
      go_upto_region 5 with (fail)
      rw [← HY.out]
      clear hx hy
      go_wp2
      have hLdl : (L.drop (k + 1)).length = L.length - (k + 1) := List.length_drop
      go_loopw [11, 26] (fun _ i wr => ∃ j : Nat, j ≤ L.length - (k + 1) ∧ i = .int .i64 j ∧ (∀ j', k < j' → j' < k + 1 + j → sameB ps (nthP L k) (nthP L j') = false) ∧ Below Y.heap.size Y wr) (fun _ i _ => L.length - (intOf i).toNat)
      case atStart => exact ⟨0, Nat.zero_le _, rfl, fun j' h h2 => absurd h (by omega), Below.refl _ _⟩
      case round =>
        obtain ⟨j, hj, rfl, hw, hB⟩ := hrel
        obtain ⟨wi, rfl⟩ : ∃ wi : World, wi = wr := ⟨_, rfl⟩
        have Hwi := hid hw; have HBi := hid hB
        have k0 := cstep K0.out hB; have k1 := cstep K1.out hB
        have HLi := hid (HLd.out.mono hB)
        clear hw hB
        by_cases hjt : j < L.length - (k + 1)
        · have hJ : (j : Int) < ((L.length - (k + 1) : Nat) : Int) := by omega
          obtain ⟨lb2, lo2, rfl, hx, hy⟩ := HLi.out.at (j := j) (by omega)
          rw [nthP_drop] at hx hy
          have hcase2 := Hcok.out _ (nthP_mem (show k + 1 + j < L.length by omega))
          have e3 : IntKind.i64.wrap ((j : Int) + 1) = (j : Int) + 1 := wrap_i64_of (by omega) (by have := Hlen.out; omega)
          obtain ⟨d, hd⟩ : ∃ c, c = nthP L (k + 1 + j) := ⟨_, rfl⟩
          rw [← hd] at hx hy hcase2
          have Hd := hid hd; have Hcase2 := hid hcase2
          obtain ⟨Z, hZ, hBZ, z0, z1⟩ := box34 wi d
          have HZ := hid hZ; have HBZ := hid hBZ
          have k0 := cstep k0 hBZ; have k1 := cstep k1 hBZ
          have HBt := hid (bstep HB1.out (bstep HB.out (bstep HBY.out (bstep HBi.out hBZ))))
          have HC1 := hid fun (w' : World) (h : Below Z.heap.size Z w') => HCC.out (x, y) Hcase.out w' (bstep HBt.out h)
          have HC2 := hid fun (w' : World) (h : Below Z.heap.size Z w') => HCC.out d Hcase2.out w' (bstep HBt.out h)
          have hSB : sameB ps (x, y) d = decide (codeOf ps (x, y) = codeOf ps d) := rfl
          have hxl := codeOf_len ps (x, y)
          obtain ⟨A, hA⟩ : ∃ A, A = codeOf ps (x, y) := ⟨_, rfl⟩
          obtain ⟨B, hBB⟩ : ∃ A, A = codeOf ps d := ⟨_, rfl⟩
          rw [← hA] at HC1 hSB hxl
          rw [← hBB] at HC2 hSB
          have HEQ := hid fun (xa : Option Addr) (xc : Nat) (ya : Option Addr) (yc : Nat) (w' : World) (h1 : IntsAt w' xa A) (h2 : IntsAt w' ya B) => equal_c xa xc A ya yc B w' h1 h2 (by rw [hxl]; have := Hpl.out; omega)
          rw [← hSB] at HEQ
          have hSS : sameB ps (nthP L k) (nthP L (k + 1 + j)) = sameB ps (x, y) d := by rw [← Hc.out, ← Hd.out]
          obtain ⟨S, hS⟩ : ∃ S, S = sameB ps (x, y) d := ⟨_, rfl⟩
          rw [← hS] at HEQ hSS
          unfold TellB at HEQ
          have HSS := hid hSS
          clear hd hcase2 hZ hBZ hA hBB hSB hS hSS hxl
          obtain ⟨u, v⟩ := d
          simp only at hx hy z0 z1 HZ
          go_upto_region 8 with (fail)
          rw [← HZ.out]
          clear hx hy
          have HZ0 := hid z0; have HZ1 := hid z1
          go_cut [36] from 30 to 36 (fun a wd => a = .bool S ∧ Below Z.heap.size Z wd)
          case first =>
            go_region_law (first | (go_simp; go_at_call 75; with_reducible refine (HC1.out _ (Below.drewSelf _)).mono ?_; rintro e wx ⟨ax, cx, rfl, hA, _, hB1⟩; have hBx := bstep (Below.drewSelf Z) hB1; have z0 := cstep z0 hBx; have z1 := cstep z1 hBx; have HBx := hid hBx; have HA := hid hA; clear hB1 hBx hA) | (go_simp; go_at_call 75; with_reducible refine (HC2.out _ HBx.out).mono ?_; rintro e wy ⟨ay, cy, rfl, hA, _, hB1⟩; have HAy := hid (HA.out.mono hB1); have HBy := hid (bstep HBx.out hB1); have HB' := hid hA; clear hB1 hA) | (go_simp; go_at_call 74; with_reducible refine (HEQ.out _ _ _ _ _ HAy.out HB'.out).mono ?_; rintro e wu ⟨rfl, hB1⟩; have HBu := hid (bstep HBy.out hB1); clear hB1))
            all_goals (
              go_wp2
              go_meet
              exact ⟨rfl, HBu.out⟩)
          obtain ⟨rfl, hB⟩ := hcut
          rename World => w5
          have HB5 := hid hB
          have k0 := cstep k0 hB; have k1 := cstep k1 hB
          have z0 := cstep HZ0.out hB; have z1 := cstep HZ1.out hB
          have HBi2 := hid (bstep HBi.out (bstep HBZ.out hB))
          clear hB
          cases S with
          | true =>
            have hr0 := Hr0.out.mono (bstep HBt.out HB5.out)
            have hr1 := Hr1.out.mono (bstep HBt.out HB5.out)
            have HrA := hid hr0; have HrB := hid hr1
            have f0 := hr0.f0; have f1 := hr0.f1; have f2 := hr1.f0; have f3 := hr1.f1
            have r0 := hr0.c0; have r1 := hr0.c1; have r2 := hr1.c0; have r3 := hr1.c1
            have hfin := Hat.out k (k + 1 + j) (by omega) (by omega) Hw.out (fun j' h1 h2 => Hwi.out j' h1 h2) HSS.out
            rw [← Hc.out, ← Hd.out] at hfin
            have Hfin := hid hfin
            have HBw := hid (bstep HB0.out (bstep HBt.out HB5.out))
            have q1 := Nat.le_trans HB0.out.size (Nat.le_trans HB1.out.size HB.out.size)
            have q2 := Nat.le_trans HBY.out.size HBi.out.size
            have q3 := lt_of_cell K0.out
            have q4 : w.heap.size + 1 < wo.heap.size := Nat.lt_of_lt_of_le Hr1.out.lt (Nat.le_trans HB1.out.size HB.out.size)
            have p1 : ¬ w.heap.size = wo.heap.size := by omega
            have p2 : ¬ w.heap.size = wi.heap.size := by omega
            have p3 : ¬ w.heap.size + 1 = wo.heap.size := by omega
            have p4 : ¬ w.heap.size + 1 = wi.heap.size := by omega
            have p5 : ¬ wo.heap.size = w.heap.size := by omega
            have p6 : ¬ wi.heap.size = w.heap.size := by omega
            have p7 : ¬ wo.heap.size = w.heap.size + 1 := by omega
            have p8 : ¬ wi.heap.size = w.heap.size + 1 := by omega
            clear hr0 hr1 hfin
            go_wp2
            have HA := hid (((HrA.out.set (.int .i64 x) (.int .i64 y)).other (r := w.heap.size + 1) (by omega) 0 (.int .i64 u)).other (r := w.heap.size + 1) (by omega) 1 (.int .i64 v))
            have HB' := hid (((HrB.out.other (r := w.heap.size) (by omega) 0 (.int .i64 x)).other (r := w.heap.size) (by omega) 1 (.int .i64 y)).set (.int .i64 u) (.int .i64 v))
            have HBz := hid (below_set2 (below_set2 HBw.out (Nat.le_refl w.heap.size) (.int .i64 x) (.int .i64 y)) (Nat.le_succ w.heap.size) (.int .i64 u) (.int .i64 v))
            go_region_law (fail)
            all_goals (
              go_wp2
              rw [Exit.noGoto_ret]
              refine bodyPost_ret (results_cc34t rfl _ _ w.heap.size (w.heap.size + 1) _ _ _ _ rfl rfl HA.out HB'.out) rfl ?_
              exact ⟨by rw [Hfin.out]; rfl, HBz.out.trans ⟨rfl, rfl, rfl, Nat.le_refl _, fun _ _ => rfl⟩⟩)
          | false =>
            go_wp2
            go_roundw
            case rel =>
              refine ⟨j + 1, by omega, by go_num, fun j' h1 h2 => ?_, HBi2.out⟩
              by_cases ej : j' = k + 1 + j
              · subst ej; exact HSS.out
              · exact Hwi.out j' h1 (by omega)
            case measure => simp [intOf]; omega
        · obtain rfl : j = L.length - (k + 1) := by omega
          have hJ : ¬ ((L.length - (k + 1) : Nat) : Int) < ((L.length - (k + 1) : Nat) : Int) := by omega
          have HBo := hid (bstep HB.out (bstep HBY.out HBi.out))
          have HW2 := hid (show ∀ i' j', i' < k + 1 → i' < j' → j' < L.length → sameB ps (nthP L i') (nthP L j') = false from fun i' j' h1 h2 h3 => by
            by_cases e : i' = k
            · subst e; exact Hwi.out j' h2 (by omega)
            · exact Hw.out i' j' (by omega) h2 h3)
          by_cases hlast : k = L.length - 1
          · have b1 : ((k : Int) == (L.length : Int) - 1) = true := by rw [beq_iff_eq]; omega
            have HBf := hid (bstep HB1.out HBo.out)
            have hr0 := Hr0.out.mono HBf.out
            have hr1 := Hr1.out.mono HBf.out
            have HrA := hid hr0; have HrB := hid hr1
            have f0 := hr0.f0; have f1 := hr0.f1; have f2 := hr1.f0; have f3 := hr1.f1
            have r0 := hr0.c0; have r1 := hr0.c1; have r2 := hr1.c0; have r3 := hr1.c1
            have HBw := hid (bstep HB0.out HBf.out)
            clear hr0 hr1
            have Hfin := hid (Hno.out fun i' j' h2 h3 => HW2.out i' j' (by omega) h2 h3)
            go_wp2
            refine bodyPost_ret (results_cc34t rfl _ _ w.heap.size (w.heap.size + 1) _ _ _ _ rfl rfl (((HrA.out.set _ _).other (r := w.heap.size + 1) (by omega) _ _).other (r := w.heap.size + 1) (by omega) _ _) (((HrB.out.other (r := w.heap.size) (by omega) _ _).other (r := w.heap.size) (by omega) _ _).set _ _)) rfl ?_
            exact ⟨by rw [Hfin.out]; rfl, below_set2 (below_set2 HBw.out (Nat.le_refl _) _ _) (Nat.le_succ _) _ _⟩
          · have b1 : ((k : Int) == (L.length : Int) - 1) = false := by rw [beq_eq_false_iff_ne]; omega
            go_wp2
            go_roundw
            case rel => exact ⟨k + 1, hlt, by go_num, HW2.out, HBo.out⟩
            case measure => simp [intOf]; omega
    · obtain rfl : k = L.length := by omega
      have hI : ¬ (L.length : Int) < (L.length : Int) := by omega
      have HBf := hid (bstep HB1.out HB.out)
      have hr0 := Hr0.out.mono HBf.out
      have hr1 := Hr1.out.mono HBf.out
      have HrA := hid hr0; have HrB := hid hr1
      have f0 := hr0.f0; have f1 := hr0.f1; have f2 := hr1.f0; have f3 := hr1.f1
      have r0 := hr0.c0; have r1 := hr0.c1; have r2 := hr1.c0; have r3 := hr1.c1
      have HBw := hid (bstep HB0.out HBf.out)
      clear hr0 hr1
      have Hfin := hid (Hno.out fun i' j' h2 h3 => Hw.out i' j' (by omega) h2 h3)
      go_wp2
      refine bodyPost_ret (results_cc34t rfl _ _ w.heap.size (w.heap.size + 1) _ _ _ _ rfl rfl (((HrA.out.set _ _).other (r := w.heap.size + 1) (by omega) _ _).other (r := w.heap.size + 1) (by omega) _ _) (((HrB.out.other (r := w.heap.size) (by omega) _ _).other (r := w.heap.size) (by omega) _ _).set _ _)) rfl ?_
      exact ⟨by rw [Hfin.out]; rfl, below_set2 (below_set2 HBw.out (Nat.le_refl _) _ _) (Nat.le_succ _) _ _⟩
end

end Go.Proofs.Ytelgbjfgmpkepaa

namespace Go.Proofs.Ytelgbjfgmpkepaa
open Go.RowKit Go.Shelf

section
variable (pa : Option Addr) (pc : Nat) (ps : List (List Int)) (a b : Int × Int) (n : Nat) (w : World)
set_option maxRecDepth 100000 in
set_option maxHeartbeats 2000000 in
theorem tells_c (hp : RowsAt w pa ps) (hl : ps.length ≤ 1000) (hw : ∀ p ∈ ps, WOk n p) (ha : CaseOk n a) (hb : CaseOk n b) : Calls Try.prog 48 #[.slice pa ps.length pc, .agg #[.int .i64 a.1, .int .i64 a.2], .agg #[.int .i64 b.1, .int .i64 b.2]] w (TellB w (!sameB ps a b)) := by
  obtain ⟨V, hV, hB0, k0, k1, k2, k3⟩ := box2 w (.int .i64 a.1) (.int .i64 a.2) (.int .i64 b.1) (.int .i64 b.2) 34 34
  have HpV := hid (hp.mono hB0)
  have HC := hid fun (p : List Int) (hp : p ∈ ps) (ra : Option Addr) (rc : Nat) (w' : World) (h : IntsAt w' ra p) => resultOf_c ra rc p.length p a w' h (by rw [(hw p hp).1]; exact hw p hp) (by rw [(hw p hp).1]; exact ha)
  have HD := hid fun (p : List Int) (hp : p ∈ ps) (ra : Option Addr) (rc : Nat) (w' : World) (h : IntsAt w' ra p) => resultOf_c ra rc p.length p b w' h (by rw [(hw p hp).1]; exact hw p hp) (by rw [(hw p hp).1]; exact hb)
  have K0 := hid k0; have K1 := hid k1; have K2 := hid k2; have K3 := hid k3
  have HB0 := hid hB0; have HV := hid hV; have Hl := hid hl
  have hS : sameB ps a b = decide (codeOf ps a = codeOf ps b) := rfl
  unfold TellB
  obtain ⟨S, hS2⟩ : ∃ S, S = sameB ps a b := ⟨_, rfl⟩
  rw [← hS2] at hS ⊢
  have HS := hid hS
  have Hne := hid fun (k : Nat) (hk : k < ps.length) (h : resultOf (nthL ps k) a ≠ resultOf (nthL ps k) b) (e : codeOf ps a = codeOf ps b) => h (by
    have h2 := congrArg (fun l => l.getD k 0) e
    simp only [codeOf, List.getD, List.getElem?_map] at h2
    rw [List.getElem?_eq_getElem hk] at h2
    simpa [nthL_eq hk] using h2)
  unfold TellI at HC HD
  obtain ⟨ax, ay⟩ := a
  obtain ⟨bx, bz⟩ := b
  simp only at K0 K1 K2 K3 HV
  clear hS2 hS hp hl hw ha hb hV hB0 k0 k1 k2 k3
  go_enter Try.func48, Try.ntmps48
  go_upto_region 1 with (fail)
  rw [← HV.out]
  go_wp2
  go_loopw [7] (fun i wr => ∃ k : Nat, k ≤ ps.length ∧ i = .int .i64 k ∧ codeOf (ps.take k) (ax, ay) = codeOf (ps.take k) (bx, bz) ∧ Below V.heap.size V wr) (fun i _ => ps.length - (intOf i).toNat)
  case atStart => exact ⟨0, Nat.zero_le _, rfl, rfl, Below.refl _ _⟩
  case round =>
    obtain ⟨k, hk, rfl, hw, hB⟩ := hrel
    obtain ⟨wo, rfl⟩ : ∃ wo : World, wo = wr := ⟨_, rfl⟩
    have HB := hid hB; have Hw := hid hw
    have k0 := cstep K0.out hB; have k1 := cstep K1.out hB; have k2 := cstep K2.out hB; have k3 := cstep K3.out hB
    have hpo := HpV.out.mono hB
    clear hB hw
    by_cases hlt : k < ps.length
    · have hI : (k : Int) < (ps.length : Int) := by omega
      obtain ⟨g, off, ra, rc, rfl, hcx, hxs, _⟩ := hpo.at hlt
      have e1 : IntKind.i64.wrap ((k : Int) + 1) = (k : Int) + 1 := wrap_i64_of (by omega) (by have := Hl.out; omega)
      have hst1 := codeOf_take (c := (ax, ay)) hlt
      have hst2 := codeOf_take (c := (bx, bz)) hlt
      have hne := Hne.out k hlt
      have H1 := hid fun s : Later wo => HC.out _ (nthL_mem hlt) ra rc s.w' (hxs.mono s.h)
      have H2 := hid fun s : Later wo => HD.out _ (nthL_mem hlt) ra rc s.w' (hxs.mono s.h)
      obtain ⟨R, hR⟩ : ∃ R, R = resultOf (nthL ps k) (ax, ay) := ⟨_, rfl⟩
      obtain ⟨T, hT⟩ : ∃ R, R = resultOf (nthL ps k) (bx, bz) := ⟨_, rfl⟩
      rw [← hR] at H1 hst1 hne
      rw [← hT] at H2 hst2 hne
      obtain ⟨p, hp⟩ : ∃ x, x = nthL ps k := ⟨_, rfl⟩
      rw [← hp] at hcx H1 H2
      have Hst1 := hid hst1; have Hst2 := hid hst2; have Hne2 := hid hne
      have j0 := fun s : Later wo => cstep k0 s.h
      have j1 := fun s : Later wo => cstep k1 s.h
      have j2 := fun s : Later wo => cstep k2 s.h
      have j3 := fun s : Later wo => cstep k3 s.h
      have jc := fun s : Later wo => cstep hcx s.h
      clear hst1 hst2 hne hR hT hp hxs hpo k0 k1 k2 k3 hcx
      by_cases he : R = T
      · have b1 : (R != T) = false := by simpa using he
        go_wp2
        refine wp_region_later (by kernel_rfl) (by kernel_rfl) ?_
        repeat (go_big_quiet_step ((first | (go_at_call 65; with_reducible exact callsLater (H1.out _)) | (go_at_call 65; with_reducible exact callsLater (H2.out _)))))
        refine wpQuiet_nil ?_
        rintro w1 ⟨⟨_, hB⟩, rfl⟩
        have HB1 := hid hB
        clear hB j0 j1 j2 j3 jc
        go_wp2
        go_roundw
        case rel => exact ⟨k + 1, hlt, by go_num, by rw [Hst1.out, Hst2.out, Hw.out, he], bstep HB.out HB1.out⟩
        case measure => simp [intOf]; omega
      · have b1 : (R != T) = true := by simpa using he
        have HE2 := hid (HS.out.trans (decide_eq_false (Hne2.out he)))
        go_wp2
        refine wp_region_later (by kernel_rfl) (by kernel_rfl) ?_
        repeat (go_big_quiet_step ((first | (go_at_call 65; with_reducible exact callsLater (H1.out _)) | (go_at_call 65; with_reducible exact callsLater (H2.out _)))))
        refine wpQuiet_nil ?_
        rintro w1 ⟨⟨_, hB⟩, rfl⟩
        have HB1 := hid hB
        clear hB j0 j1 j2 j3 jc
        go_wp2
        go_ret
        exact ⟨by rw [HE2.out]; rfl, bstep HB0.out (bstep HB.out HB1.out)⟩
    · have hI : ¬ (k : Int) < (ps.length : Int) := by omega
      have hw := Hw.out
      rw [List.take_of_length_le (by omega)] at hw
      have HE2 := hid (HS.out.trans (decide_eq_true hw))
      clear hw
      go_wp2
      go_ret
      exact ⟨by rw [HE2.out]; rfl, bstep HB0.out HB.out⟩
end
/-- the error of a plan, of any knowledge, but for 21 -/
def pErr (K : Kn) (ps : List (List Int)) : Int := if knErr K = 0 then (if 6 < ps.length then 6 else psErr K ps) else knErr K
section
variable (ka : Option Addr) (kc : Nat) (K : Kn) (pa : Option Addr) (pc : Nat) (ps : List (List Int)) (w : World)
set_option maxRecDepth 100000 in
set_option maxHeartbeats 2000000 in
theorem planError_c (hk : KnAt w ka K) (hlk : K.cop.length ≤ 1000000) (hp : RowsAt w pa ps) (hl : ps.length ≤ 1000000) (hll : ∀ p ∈ ps, p.length ≤ 1000000) : Calls Try.prog 71 #[.agg #[.slice ka K.cop.length kc, .bool K.none], .slice pa ps.length pc] w (TellI w (pErr K ps)) := by
  obtain ⟨V, hV, hB0, k0, k1⟩ := box1 w (.slice ka K.cop.length kc) (.bool K.none) 24
  have hkV := hk.mono hB0
  have HB0 := hid hB0; have HV := hid hV; have HV0 := hid (Below.refl V.heap.size V)
  have K0 := hid k0; have K1 := hid k1
  have HpV := hid (hp.mono hB0)
  have H1 := hid fun (w' : World) (h : Below V.heap.size V w') => rCheckKnown_c ka kc K w' (hkV.mono h) hlk
  have HkV := hid hkV
  have Hl := hid hl; have Hll := hid hll
  have hE : pErr K ps = if knErr K = 0 then (if 6 < ps.length then 6 else psErr K ps) else knErr K := rfl
  have H2 := hid fun (p : List Int) (hp : p ∈ ps) (ra : Option Addr) (rc : Nat) (w' : World) (h : Below V.heap.size V w') (hx : IntsAt w' ra p) => weighingError_c ka kc K ra rc p w' (hkV.mono h) hx (hll p hp)
  have Hat := hid fun k => psErr_at (K := K) (ps := ps) (k := k)
  have Hno := hid (psErr_all (K := K) (ps := ps))
  unfold TellI at H1 H2
  unfold TellI
  obtain ⟨O, hO⟩ : ∃ O, O = pErr K ps := ⟨_, rfl⟩
  rw [← hO] at hE ⊢
  obtain ⟨E, hEE⟩ : ∃ E, E = knErr K := ⟨_, rfl⟩
  rw [← hEE] at H1 hE
  obtain ⟨nn, hnn⟩ : ∃ b, b = K.none := ⟨_, rfl⟩
  rw [← hnn] at k1 K1 HV H1 H2 ⊢
  clear hnn hO hEE hk hp hV hB0 hkV hl hlk hll
  by_cases h0 : E = 0
  · subst h0
    rw [if_pos rfl] at hE
    by_cases h6 : 6 < ps.length
    · rw [if_pos h6] at hE
      have HE := hid hE
      have hI6 : (6 : Int) < (ps.length : Int) := by omega
      clear hE
      go_enter Try.func71, Try.ntmps71
      go_upto_region 1 with (fail)
      rw [← HV.out]
      go_wp2_with fail
      refine (H1.out _ HV0.out).mono ?_
      rintro e w1 ⟨rfl, hB⟩
      have HB1 := hid (bstep HV0.out hB)
      have k0 := cstep k0 hB
      have k1 := cstep k1 hB
      clear hB
      go_wp2
      go_ret
      exact ⟨by rw [HE.out]; rfl, bstep HB0.out HB1.out⟩
    · rw [if_neg h6] at hE
      have HE := hid hE
      have hI6 : ¬ (6 : Int) < (ps.length : Int) := by omega
      clear hE
      go_enter Try.func71, Try.ntmps71
      go_upto_region 1 with (fail)
      rw [← HV.out]
      go_wp2_with fail
      refine (H1.out _ HV0.out).mono ?_
      rintro e w1 ⟨rfl, hB⟩
      have HB1 := hid (bstep HV0.out hB)
      have k0 := cstep k0 hB
      have k1 := cstep k1 hB
      clear hB
      go_wp2
      go_loopw [5] (fun i wr => ∃ k : Nat, k ≤ ps.length ∧ i = .int .i64 k ∧ (∀ j, j < k → wErr K (nthL ps j) = 0) ∧ Below V.heap.size V wr) (fun i _ => ps.length - (intOf i).toNat)
      case atStart => exact ⟨0, Nat.zero_le _, rfl, fun j hj => absurd hj (by omega), HB1.out⟩
      case round =>
        obtain ⟨k, hkk, rfl, hw, hB⟩ := hrel
        obtain ⟨wo, rfl⟩ : ∃ wo : World, wo = wr := ⟨_, rfl⟩
        have HB := hid hB; have Hw := hid hw
        have k0 := cstep K0.out hB; have k1 := cstep K1.out hB
        have hpo := HpV.out.mono hB
        clear hB hw
        by_cases hlt : k < ps.length
        · have hI : (k : Int) < (ps.length : Int) := by omega
          obtain ⟨g, off, ra, rc, rfl, hcx, hxs, _⟩ := hpo.at hlt
          have e1 : IntKind.i64.wrap ((k : Int) + 1) = (k : Int) + 1 := wrap_i64_of (by omega) (by have := Hl.out; omega)
          have hat := Hat.out k hlt Hw.out
          have H3 := hid fun s : Later wo => H2.out _ (nthL_mem hlt) ra rc s.w' (bstep HB.out s.h) (hxs.mono s.h)
          obtain ⟨R, hR⟩ : ∃ R, R = wErr K (nthL ps k) := ⟨_, rfl⟩
          rw [← hR] at H3 hat
          obtain ⟨p, hp⟩ : ∃ x, x = nthL ps k := ⟨_, rfl⟩
          rw [← hp] at hcx H3
          have HR := hid hR; have Hat2 := hid hat
          have j0 := fun s : Later wo => cstep k0 s.h
          have j1 := fun s : Later wo => cstep k1 s.h
          have jc := fun s : Later wo => cstep hcx s.h
          clear hR hat hp hxs hpo k0 k1 hcx
          by_cases he : R = 0
          · subst he
            go_wp2
            refine wp_region_later (by kernel_rfl) (by kernel_rfl) ?_
            repeat (go_big_quiet_step ((go_at_call 68; with_reducible exact callsLater (H3.out _))))
            refine wpQuiet_nil ?_
            rintro w2 ⟨⟨_, hB⟩, rfl⟩
            have HB2 := hid (bstep HB.out hB)
            clear hB j0 j1 jc
            go_wp2
            go_roundw
            case rel =>
              refine ⟨k + 1, hlt, by go_num, fun j hj => ?_, HB2.out⟩
              by_cases ej : j = k
              · subst ej; exact HR.out.symm
              · exact Hw.out j (by omega)
            case measure => simp [intOf]; omega
          · have b1 : (R != 0) = true := by simpa using he
            have HE2 := hid (HE.out.trans (Hat2.out he))
            go_wp2
            refine wp_region_later (by kernel_rfl) (by kernel_rfl) ?_
            repeat (go_big_quiet_step ((go_at_call 68; with_reducible exact callsLater (H3.out _))))
            refine wpQuiet_nil ?_
            rintro w2 ⟨s2, rfl⟩
            have HB2 := hid (bstep HB.out s2.h)
            have k0 := j0 s2; have k1 := j1 s2; have kc' := jc s2
            have H4 := hid fun s : Later s2.w' => H3.out ⟨s.w', bstep s2.h s.h⟩
            have j0 := fun s : Later s2.w' => cstep k0 s.h
            have j1 := fun s : Later s2.w' => cstep k1 s.h
            have jc := fun s : Later s2.w' => cstep kc' s.h
            clear k0 k1 kc'
            go_wp2
            refine wp_region_later (by kernel_rfl) (by kernel_rfl) ?_
            repeat (go_big_quiet_step ((go_at_call 68; with_reducible exact callsLater (H4.out _))))
            refine wpQuiet_nil ?_
            rintro w3 ⟨s3, rfl⟩
            have HB3 := hid (bstep HB0.out (bstep HB2.out s3.h))
            clear j0 j1 jc
            go_wp2
            go_ret
            exact ⟨by rw [HE2.out]; rfl, HB3.out⟩
        · have hI : ¬ (k : Int) < (ps.length : Int) := by omega
          obtain rfl : k = ps.length := by omega
          have HE2 := hid (HE.out.trans (Hno.out Hw.out))
          go_wp2
          go_ret
          exact ⟨by rw [HE2.out]; rfl, bstep HB0.out HB.out⟩
  · rw [if_neg h0] at hE
    have HE := hid hE
    have b1 : (E != 0) = true := by simpa using h0
    clear hE
    go_enter Try.func71, Try.ntmps71
    go_upto_region 1 with (fail)
    rw [← HV.out]
    go_wp2_with fail
    refine (H1.out _ HV0.out).mono ?_
    rintro e w1 ⟨rfl, hB⟩
    have HB1 := hid (bstep HV0.out hB)
    have k0 := cstep k0 hB
    have k1 := cstep k1 hB
    clear hB
    go_wp2_with fail
    refine (H1.out _ HB1.out).mono ?_
    rintro e w2 ⟨rfl, hB⟩
    have HB2 := hid (bstep HB1.out hB)
    clear hB
    go_wp2
    go_ret
    exact ⟨by rw [HE.out]; rfl, bstep HB0.out HB2.out⟩
end

end Go.Proofs.Ytelgbjfgmpkepaa

namespace Go.Proofs.Ytelgbjfgmpkepaa
open Go.RowKit Go.Shelf

theorem psErr_zero {K : Kn} : ∀ {ps : List (List Int)}, psErr K ps = 0 → ∀ p ∈ ps, wErr K p = 0
  | [], _, p, h => by cases h
  | q :: ps, h, p, hp => by
    rw [psErr] at h
    by_cases h0 : wErr K q = 0
    · rw [if_pos h0] at h
      rcases List.mem_cons.1 hp with rfl | hp
      · exact h0
      · exact psErr_zero h p hp
    · rw [if_neg h0] at h; exact absurd h h0
theorem wErr_zero {K : Kn} {ws : List Int} (h : wErr K ws = 0) : WOk K.cop.length ws ∧ ws.sum = 0 := by
  unfold wErr at h
  by_cases h1 : ws.length = K.cop.length
  · rw [if_pos h1] at h
    by_cases h2 : within (-1) 1 ws = true
    · rw [if_pos h2] at h
      by_cases h3 : ws.sum = 0
      · exact ⟨⟨h1, fun k hk => within_iff.1 h2 k (by omega)⟩, h3⟩
      · rw [if_neg h3] at h; omega
    · rw [if_neg h2] at h; omega
  · rw [if_neg h1] at h; omega
theorem pErr_zero {K : Kn} {ps : List (List Int)} (h : pErr K ps = 0) : Kok K ∧ ps.length ≤ 6 ∧ (∀ p ∈ ps, WOk K.cop.length p) ∧ ∀ p ∈ ps, p.sum = 0 := by
  unfold pErr at h
  by_cases h0 : knErr K = 0
  · rw [if_pos h0] at h
    by_cases h6 : 6 < ps.length
    · rw [if_pos h6] at h; omega
    · rw [if_neg h6] at h
      have := psErr_zero h
      exact ⟨kok_iff.1 h0, by omega, fun p hp => (wErr_zero (this p hp)).1, fun p hp => (wErr_zero (this p hp)).2⟩
  · rw [if_neg h0] at h; exact absurd h h0
/-- the two cases that a plan does not tell, of any knowledge -/
def alO (K : Kn) (ps : List (List Int)) : Option ((Int × Int) × (Int × Int)) := if pErr K ps = 0 then alikeL ps (casesOf K) else none
def alErr (K : Kn) (ps : List (List Int)) : Int := if pErr K ps = 0 then (if (alO K ps).isSome then 0 else 5) else pErr K ps
/-- a call that hands back two cases and an error -/
def AlC (w : World) (o : Option ((Int × Int) × (Int × Int))) (er : Int) (e : Ending) (w' : World) : Prop :=
  e = .returned (.tuple #[.agg #[.int .i64 (o.getD ((0, 0), (0, 0))).1.1, .int .i64 (o.getD ((0, 0), (0, 0))).1.2], .agg #[.int .i64 (o.getD ((0, 0), (0, 0))).2.1, .int .i64 (o.getD ((0, 0), (0, 0))).2.2], .int .i64 er]) ∧ Below w.heap.size w w'
theorem box3z (w : World) (x y : Value) : ∃ V, V = ((w.alloc (.cells #[x, y] 24)).alloc (.cells #[.int .i64 0, .int .i64 0] 34)).alloc (.cells #[.int .i64 0, .int .i64 0] 34) ∧ Below w.heap.size w V ∧ V.cell? ⟨w.heap.size, 0, none⟩ = some x ∧ V.cell? ⟨w.heap.size, 1, none⟩ = some y ∧ V2At V (w.heap.size + 1) 34 (.int .i64 0) (.int .i64 0) ∧ V2At V (w.heap.size + 1 + 1) 34 (.int .i64 0) (.int .i64 0) := by
  obtain ⟨V, hV, hB, k0, k1, _⟩ := box3 w x y (.int .i64 0) (.int .i64 0) (.int .i64 0) (.int .i64 0) 24 34 34
  refine ⟨V, hV, hB, k0, k1, ?_, ?_⟩
  · rw [hV]
    refine V2At.mono (w := (w.alloc (.cells #[x, y] 24)).alloc (.cells #[.int .i64 0, .int .i64 0] 34)) ?_ (bnew _ _)
    have := heap_alloc_new (w.alloc (.cells #[x, y] 24)) (.cells #[.int .i64 0, .int .i64 0] 34)
    simpa [V2At] using this
  · rw [hV]
    have := heap_alloc_new ((w.alloc (.cells #[x, y] 24)).alloc (.cells #[.int .i64 0, .int .i64 0] 34)) (.cells #[.int .i64 0, .int .i64 0] 34)
    simpa [V2At] using this
theorem set_two {w : World} {p q : Nat} {a b c d : Value} (h1 : V2At w p 34 a b) (h2 : V2At w q 34 c d) (hne : ¬ p = q) (x y u v : Value) :
    V2At ((((w.setCell ⟨p, 0, none⟩ x).setCell ⟨p, 1, none⟩ y).setCell ⟨q, 0, none⟩ u).setCell ⟨q, 1, none⟩ v) p 34 x y ∧ V2At ((((w.setCell ⟨p, 0, none⟩ x).setCell ⟨p, 1, none⟩ y).setCell ⟨q, 0, none⟩ u).setCell ⟨q, 1, none⟩ v) q 34 u v :=
  ⟨((h1.set x y).other (r := q) hne 0 u).other (r := q) hne 1 v, ((h2.other (r := p) (fun e => hne e.symm) 0 x).other (r := p) (fun e => hne e.symm) 1 y).set u v⟩
theorem below_two {N : Nat} {A w : World} (h : Below N A w) {p q : Nat} (hp : N ≤ p) (hq : N ≤ q) (x y u v : Value) : Below N A ((((w.setCell ⟨p, 0, none⟩ x).setCell ⟨p, 1, none⟩ y).setCell ⟨q, 0, none⟩ u).setCell ⟨q, 1, none⟩ v) :=
  below_set2 (below_set2 h hp x y) hq u v
section
variable (ka : Option Addr) (kc : Nat) (K : Kn) (pa : Option Addr) (pc : Nat) (ps : List (List Int)) (w : World)
set_option maxRecDepth 100000 in
set_option maxHeartbeats 4000000 in
theorem rAlike_c (hk : KnAt w ka K) (hlk : K.cop.length ≤ 1000000) (hp : RowsAt w pa ps) (hl : ps.length ≤ 1000000) (hll : ∀ p ∈ ps, p.length ≤ 1000000) : Calls Try.prog 31 #[.agg #[.slice ka K.cop.length kc, .bool K.none], .slice pa ps.length pc] w (AlC w (alO K ps) (alErr K ps)) := by
  obtain ⟨V, hV, hB0, k0, k1, hr0, hr1⟩ := box3z w (.slice ka K.cop.length kc) (.bool K.none)
  have hkV := hk.mono hB0
  have K0 := hid k0; have K1 := hid k1
  have HB0 := hid hB0; have HV := hid hV; have HV0 := hid (Below.refl V.heap.size V)
  have Hr0 := hid hr0; have Hr1 := hid hr1
  have HpV := hid (hp.mono hB0)
  have H1 := hid fun (w' : World) (h : Below V.heap.size V w') => planError_c ka kc K pa pc ps w' (hkV.mono h) hlk (HpV.out.mono h) hl hll
  have HkV := hid hkV
  have hE : alErr K ps = if pErr K ps = 0 then (if (alO K ps).isSome then 0 else 5) else pErr K ps := rfl
  have hO : alO K ps = if pErr K ps = 0 then alikeL ps (casesOf K) else none := rfl
  have Hok := hid (pErr_zero (K := K) (ps := ps))
  unfold TellI at H1
  unfold AlC
  obtain ⟨EE, hEE⟩ : ∃ O, O = alErr K ps := ⟨_, rfl⟩
  obtain ⟨O, hOO⟩ : ∃ O, O = alO K ps := ⟨_, rfl⟩
  rw [← hEE, ← hOO] at hE ⊢
  rw [← hOO] at hO
  obtain ⟨E, hE1⟩ : ∃ E, E = pErr K ps := ⟨_, rfl⟩
  rw [← hE1] at H1 hE hO Hok
  obtain ⟨nn, hnn⟩ : ∃ b, b = K.none := ⟨_, rfl⟩
  rw [← hnn] at k1 K1 HV H1 ⊢
  have Hnn := hid hnn
  clear hnn hEE hOO hE1 hk hp hV hB0 hkV hl hlk hll hr0 hr1
  by_cases h0 : E = 0
  · obtain ⟨hok, hp6, hwok, _⟩ := Hok.out h0
    rw [if_pos h0] at hE hO
    have hn12 := hok.n12
    have HE := hid hE; have HO := hid hO
    have Hlen := hid (show (casesOf K).length ≤ 1000 by have := casesOf_len K; omega)
    have Hcok := hid (casesOf_ok hok.cop)
    have H2 := hid fun (w' : World) (h : Below V.heap.size V w') => casesOf_c ka kc K w' (HkV.out.mono h) (by omega) hok.cop
    have H3 := hid fun (a b : Int × Int) (ha : CaseOk K.cop.length a) (hb : CaseOk K.cop.length b) (w' : World) (h : Below V.heap.size V w') => tells_c pa pc ps a b K.cop.length w' (HpV.out.mono h) (by omega) hwok ha hb
    rw [← Hnn.out] at H2
    subst h0
    unfold ListC at H2
    unfold TellB at H3
    obtain ⟨L, hL⟩ : ∃ L, L = casesOf K := ⟨_, rfl⟩
    rw [← hL] at H2 Hlen Hcok HO
    have Hat := hid fun i j => alike_at (ps := ps) (L := L) (i := i) (j := j)
    have Hno := hid (alike_none (ps := ps) (L := L))
    rw [← HO.out] at Hat Hno
    clear hE hO hok hp6 hwok hL hn12
    go_enter Try.func31, Try.ntmps31
    go_upto_region 1 with (fail)
    rw [← HV.out]
    go_wp2_with fail
    refine (H1.out _ HV0.out).mono ?_
    rintro e w1 ⟨rfl, hB⟩
    have HB1 := hid (bstep HV0.out hB)
    have k0 := cstep k0 hB
    have k1 := cstep k1 hB
    clear hB
    go_wp2_with fail
    refine (H2.out _ HB1.out).mono ?_
    rintro e w2 ⟨la, lc, rfl, hL, ⟨_, hfr⟩, hB⟩
    have HB2 := hid (bstep HB1.out hB)
    clear hB
    have HL2 := hid hL
    have Hfr := hid (fun b off (h : la = some ⟨b, off, none⟩) => (show w.heap.size + 1 + 1 < b from Nat.lt_of_lt_of_le (Hr1.out.mono HB1.out).lt (hfr b off h)))
    clear hL hfr
    go_wp2
    go_loopw [8, 9] (fun i _ wr => ∃ k : Nat, k ≤ L.length ∧ i = .int .i64 k ∧ (∀ i' j', i' < k → i' < j' → j' < L.length → sameB ps (nthP L i') (nthP L j') = false) ∧ Below w2.heap.size w2 wr) (fun i _ _ => L.length - (intOf i).toNat)
    case atStart => exact ⟨0, Nat.zero_le _, rfl, fun i' j' h => absurd h (by omega), Below.refl _ _⟩
    case round =>
      obtain ⟨k, hk, rfl, hw, hB⟩ := hrel
      obtain ⟨wo, rfl⟩ : ∃ wo : World, wo = wr := ⟨_, rfl⟩
      have Hw := hid hw; have HB := hid hB
      clear hw hB
      by_cases hlt : k < L.length
      · have hI : (k : Int) < (L.length : Int) := by omega
        have e1 : IntKind.i64.wrap ((k : Int) + 1) = (k : Int) + 1 := wrap_i64_of (by omega) (by have := Hlen.out; omega)
        go_wp2
        go_loopw [9] (fun i wr => ∃ j : Nat, k < j ∧ j ≤ L.length ∧ i = .int .i64 j ∧ (∀ j', k < j' → j' < j → sameB ps (nthP L k) (nthP L j') = false) ∧ Below w2.heap.size w2 wr) (fun i _ => L.length - (intOf i).toNat)
        case atStart => exact ⟨k + 1, by omega, by omega, by go_num, fun j' h h2 => absurd h (by omega), HB.out⟩
        case round =>
          obtain ⟨j, hkj, hj, rfl, hw, hB⟩ := hrel
          obtain ⟨wi, rfl⟩ : ∃ wi : World, wi = wr := ⟨_, rfl⟩
          have Hwi := hid hw; have HBi := hid hB
          have hLi := HL2.out.mono hB
          clear hw hB
          by_cases hjt : j < L.length
          · have hJ : (j : Int) < (L.length : Int) := by omega
            obtain ⟨lb, lo, rfl, hx, hy⟩ := hLi.at hlt
            obtain ⟨lb', lo', e', hu, hv⟩ := hLi.at hjt
            cases e'
            have hc1 := Hcok.out _ (nthP_mem hlt)
            have hc2 := Hcok.out _ (nthP_mem hjt)
            have e3 : IntKind.i64.wrap ((j : Int) + 1) = (j : Int) + 1 := wrap_i64_of (by omega) (by have := Hlen.out; omega)
            have H4 := hid fun s : Later wi => H3.out _ _ hc1 hc2 s.w' (bstep HB2.out (bstep HBi.out s.h))
            have hat := Hat.out k j hkj hjt Hw.out Hwi.out
            obtain ⟨S, hS⟩ : ∃ S, S = sameB ps (nthP L k) (nthP L j) := ⟨_, rfl⟩
            rw [← hS] at H4 hat
            have HS := hid hS
            obtain ⟨c, hc⟩ : ∃ c, c = nthP L k := ⟨_, rfl⟩
            obtain ⟨d, hd⟩ : ∃ c, c = nthP L j := ⟨_, rfl⟩
            rw [← hc] at hx hy H4 hat
            rw [← hd] at hu hv H4 hat
            have Hat2 := hid hat
            have Hlb := hid (Hfr.out lb lo rfl)
            obtain ⟨x, y⟩ := c
            obtain ⟨u, v⟩ := d
            simp only at hx hy hu hv H4
            have j0 := fun s : Later wi => cstep hx s.h
            have j1 := fun s : Later wi => cstep hy s.h
            have j2 := fun s : Later wi => cstep hu s.h
            have j3 := fun s : Later wi => cstep hv s.h
            clear hS hc hd hat hc1 hc2 hx hy hu hv hLi
            cases S with
            | true =>
              go_wp2
              refine wp_region_later (by kernel_rfl) (by kernel_rfl) ?_
              repeat (go_big_quiet_step ((go_at_call 48; with_reducible exact callsLater (H4.out _))))
              refine wpQuiet_nil ?_
              rintro w3 ⟨s3, rfl⟩
              have HB3 := hid (bstep HB2.out (bstep HBi.out s3.h))
              have hx := j0 s3; have hy := j1 s3; have hu := j2 s3; have hv := j3 s3
              clear j0 j1 j2 j3
              have hr0 := Hr0.out.mono HB3.out
              have hr1 := Hr1.out.mono HB3.out
              have HrA := hid hr0; have HrB := hid hr1
              have f0 := hr0.f0; have f1 := hr0.f1; have f2 := hr1.f0; have f3 := hr1.f1
              have r0 := hr0.c0; have r1 := hr0.c1; have r2 := hr1.c0; have r3 := hr1.c1
              have HBw := hid (bstep HB0.out HB3.out)
              clear hr0 hr1
              have q1 := Hlb.out
              have p1 : ¬ w.heap.size + 1 = lb := by omega
              have p2 : ¬ w.heap.size + 1 + 1 = lb := by omega
              have p3 : ¬ lb = w.heap.size + 1 := by omega
              have p4 : ¬ lb = w.heap.size + 1 + 1 := by omega
              have HA := hid (set_two HrA.out HrB.out (by omega) (.int .i64 x) (.int .i64 y) (.int .i64 u) (.int .i64 v))
              have HBz := hid (below_two HBw.out (p := w.heap.size + 1) (q := w.heap.size + 1 + 1) (by omega) (by omega) (.int .i64 x) (.int .i64 y) (.int .i64 u) (.int .i64 v))
              have Hfin := hid (Hat2.out (by first | exact rfl | exact trivial))
              go_wp2
              go_region_law (fail)
              all_goals (
                go_wp2
                refine bodyPost_ret (results_cc34t rfl _ _ (w.heap.size + 1) (w.heap.size + 1 + 1) _ _ _ _ rfl rfl HA.out.1 HA.out.2) rfl ?_
                exact ⟨by rw [HE.out, Hfin.out]; rfl, HBz.out.trans ⟨rfl, rfl, rfl, Nat.le_refl _, fun _ _ => rfl⟩⟩)
            | false =>
              go_wp2
              refine wp_region_later (by kernel_rfl) (by kernel_rfl) ?_
              repeat (go_big_quiet_step ((go_at_call 48; with_reducible exact callsLater (H4.out _))))
              refine wpQuiet_nil ?_
              rintro w3 ⟨⟨_, hB⟩, rfl⟩
              have HB3 := hid (bstep HBi.out hB)
              clear hB j0 j1 j2 j3
              go_wp2
              go_roundw
              case rel =>
                refine ⟨j + 1, by omega, by omega, by go_num, fun j' h1 h2 => ?_, HB3.out⟩
                by_cases ej : j' = j
                · subst ej; exact HS.out.symm
                · exact Hwi.out j' h1 (by omega)
              case measure => simp [intOf]; omega
          · have hJ : ¬ (j : Int) < (L.length : Int) := by omega
            go_wp2
            go_roundw
            case rel =>
              refine ⟨k + 1, hlt, by go_num, fun i' j' h1 h2 h3 => ?_, HBi.out⟩
              by_cases e : i' = k
              · subst e; exact Hwi.out j' h2 (by omega)
              · exact Hw.out i' j' (by omega) h2 h3
            case measure => simp [intOf]; omega
      · have hI : ¬ (k : Int) < (L.length : Int) := by omega
        have HB3 := hid (bstep HB2.out HB.out)
        have hr0 := Hr0.out.mono HB3.out
        have hr1 := Hr1.out.mono HB3.out
        have HrA := hid hr0; have HrB := hid hr1
        have f0 := hr0.f0; have f1 := hr0.f1; have f2 := hr1.f0; have f3 := hr1.f1
        have r0 := hr0.c0; have r1 := hr0.c1; have r2 := hr1.c0; have r3 := hr1.c1
        have HBw := hid (bstep HB0.out HB3.out)
        clear hr0 hr1
        have Hfin := hid (Hno.out fun i' j' h2 h3 => Hw.out i' j' (by omega) h2 h3)
        have HA := hid (set_two HrA.out HrB.out (by omega) (.int .i64 0) (.int .i64 0) (.int .i64 0) (.int .i64 0))
        have HBz := hid (below_two HBw.out (p := w.heap.size + 1) (q := w.heap.size + 1 + 1) (by omega) (by omega) (.int .i64 0) (.int .i64 0) (.int .i64 0) (.int .i64 0))
        go_wp2
        refine bodyPost_ret (results_cc34t rfl _ _ (w.heap.size + 1) (w.heap.size + 1 + 1) _ _ _ _ rfl rfl HA.out.1 HA.out.2) rfl ?_
        exact ⟨by rw [HE.out, Hfin.out]; rfl, HBz.out⟩
  · rw [if_neg h0] at hE hO
    have HE := hid hE; have HO := hid hO
    have b1 : (E != 0) = true := by simpa using h0
    clear hE hO
    go_enter Try.func31, Try.ntmps31
    go_upto_region 1 with (fail)
    rw [← HV.out]
    go_wp2_with fail
    refine (H1.out _ HV0.out).mono ?_
    rintro e w1 ⟨rfl, hB⟩
    have HB1 := hid (bstep HV0.out hB)
    have k0 := cstep k0 hB
    have k1 := cstep k1 hB
    clear hB
    go_wp2_with fail
    refine (H1.out _ HB1.out).mono ?_
    rintro e w2 ⟨rfl, hB⟩
    have HB2 := hid (bstep HB1.out hB)
    have hr0 := Hr0.out.mono HB2.out
    have hr1 := Hr1.out.mono HB2.out
    have HrA := hid hr0; have HrB := hid hr1
    have f0 := hr0.f0; have f1 := hr0.f1; have f2 := hr1.f0; have f3 := hr1.f1
    have r0 := hr0.c0; have r1 := hr0.c1; have r2 := hr1.c0; have r3 := hr1.c1
    have HBw := hid (bstep HB0.out HB2.out)
    clear hr0 hr1 hB
    have HA := hid (set_two HrA.out HrB.out (by omega) (.int .i64 0) (.int .i64 0) (.int .i64 0) (.int .i64 0))
    have HBz := hid (below_two HBw.out (p := w.heap.size + 1) (q := w.heap.size + 1 + 1) (by omega) (by omega) (.int .i64 0) (.int .i64 0) (.int .i64 0) (.int .i64 0))
    go_wp2
    refine bodyPost_ret (results_cc34t rfl _ _ (w.heap.size + 1) (w.heap.size + 1 + 1) _ _ _ _ rfl rfl HA.out.1 HA.out.2) rfl ?_
    exact ⟨by rw [HE.out, HO.out]; rfl, HBz.out⟩
end

end Go.Proofs.Ytelgbjfgmpkepaa

namespace Go.Proofs.Ytelgbjfgmpkepaa
open Go.RowKit Go.Shelf

theorem OpenC.shift {w w1 : World} {ka : Option Addr} {kc : Nat} {K : Kn} {E : Int} {e : Ending} {w' : World} (h : OpenC w1 ka kc K E e w') (hB : Below w.heap.size w w1) : OpenC w ka kc K E e w' := by
  obtain ⟨hB1, h⟩ := h
  refine OpenC.mk ⟨bstep hB hB1, ?_⟩
  rcases h with h | ⟨h0, g, m, a, b, c, d⟩
  · exact .inl h
  · exact .inr ⟨h0, g, m, a, Nat.le_trans hB.size b, Nat.le_trans hB.size c, d⟩
/-- the error of a plan that is to tell all -/
def cpErr (K : Kn) (ps : List (List Int)) : Int := if pErr K ps = 0 then (if (alO K ps).isSome then 21 else 0) else pErr K ps
section
variable (ka : Option Addr) (kc : Nat) (K : Kn) (pa : Option Addr) (pc : Nat) (ps : List (List Int)) (w : World)
set_option maxRecDepth 100000 in
set_option maxHeartbeats 2000000 in
theorem opened_c (hk : KnAt w ka K) (hlk : K.cop.length ≤ 1000000) (hp : RowsAt w pa ps) (hl : ps.length ≤ 1000000) (hll : ∀ p ∈ ps, p.length ≤ 1000000) : Calls Try.prog 69 #[.agg #[.slice ka K.cop.length kc, .bool K.none], .slice pa ps.length pc] w (OpenC w ka kc K (pErr K ps)) := by
  obtain ⟨V, hV, hB0, k0, k1⟩ := box1 w (.slice ka K.cop.length kc) (.bool K.none) 24
  have hkV := hk.mono hB0
  have HB0 := hid hB0; have HV := hid hV; have HV0 := hid (Below.refl V.heap.size V)
  have K0 := hid k0; have K1 := hid k1
  have HpV := hid (hp.mono hB0)
  have H1 := hid fun (w' : World) (h : Below V.heap.size V w') => checkKnown_c ka kc K w' (hkV.mono h) hlk
  have H2 := hid fun (w' : World) (h : Below V.heap.size V w') => open_c ka kc K pa pc ps w' (hkV.mono h) hlk (HpV.out.mono h) hl hll
  have hE : pErr K ps = if knErr K = 0 then (if 6 < ps.length then 6 else psErr K ps) else knErr K := rfl
  have hE2 : oErr K ps = if knErr K = 0 then psErr K ps else knErr K := rfl
  unfold TellI at H1
  obtain ⟨O, hO⟩ : ∃ O, O = pErr K ps := ⟨_, rfl⟩
  rw [← hO] at hE ⊢
  obtain ⟨O2, hO2⟩ : ∃ O, O = oErr K ps := ⟨_, rfl⟩
  rw [← hO2] at hE2 H2
  obtain ⟨E, hEE⟩ : ∃ E, E = knErr K := ⟨_, rfl⟩
  rw [← hEE] at H1 hE hE2
  obtain ⟨nn, hnn⟩ : ∃ b, b = K.none := ⟨_, rfl⟩
  rw [← hnn] at k1 K1 HV H1 H2 ⊢
  have Hnn := hid hnn
  clear hnn hO hO2 hEE hk hp hV hB0 hkV hl hlk hll
  by_cases h0 : E = 0
  · subst h0
    rw [if_pos rfl] at hE hE2
    by_cases h6 : 6 < ps.length
    · rw [if_pos h6] at hE
      have HE := hid hE
      have hI6 : (6 : Int) < (ps.length : Int) := by omega
      clear hE hE2
      go_enter Try.func69, Try.ntmps69
      go_upto_region 1 with (fail)
      rw [← HV.out]
      go_wp2_with fail
      refine (H1.out _ HV0.out).mono ?_
      rintro e w1 ⟨rfl, hB⟩
      have HB1 := hid (bstep HV0.out hB)
      have k0 := cstep k0 hB
      have k1 := cstep k1 hB
      clear hB
      go_wp2
      go_ret2
      exact OpenC.mk ⟨bstep HB0.out HB1.out, .inl ⟨by rw [HE.out]; decide, by rw [HE.out]; rfl⟩⟩
    · rw [if_neg h6, ← hE2] at hE
      have HE := hid hE
      have hI6 : ¬ (6 : Int) < (ps.length : Int) := by omega
      clear hE hE2
      go_enter Try.func69, Try.ntmps69
      go_upto_region 1 with (fail)
      rw [← HV.out]
      go_wp2_with fail
      refine (H1.out _ HV0.out).mono ?_
      rintro e w1 ⟨rfl, hB⟩
      have HB1 := hid (bstep HV0.out hB)
      have k0 := cstep k0 hB
      have k1 := cstep k1 hB
      clear hB
      go_wp2_with fail
      refine (H2.out _ HB1.out).mono ?_
      rintro e w2 h
      have hs := h.shift (bstep HB0.out HB1.out)
      by_cases hz : O2 = 0
      · obtain ⟨g, m, rfl, _⟩ := h.ok hz
        have Hs := hid hs
        clear h hs
        go_wp2
        go_ret2
        rw [HE.out]
        have := Hs.out
        rw [hz] at this ⊢
        exact this
      · obtain ⟨rfl, _⟩ := h.err hz
        have Hs := hid hs
        clear h hs
        go_wp2
        go_ret2
        rw [HE.out]
        exact Hs.out
  · rw [if_neg h0] at hE
    have HE := hid hE
    have H0 := hid h0
    have b1 : (E != 0) = true := by simpa using h0
    clear hE hE2
    go_enter Try.func69, Try.ntmps69
    go_upto_region 1 with (fail)
    rw [← HV.out]
    go_wp2_with fail
    refine (H1.out _ HV0.out).mono ?_
    rintro e w1 ⟨rfl, hB⟩
    have HB1 := hid (bstep HV0.out hB)
    have k0 := cstep k0 hB
    have k1 := cstep k1 hB
    clear hB
    go_wp2
    go_ret2
    exact OpenC.mk ⟨bstep HB0.out HB1.out, .inl ⟨by rw [HE.out]; exact H0.out, by rw [HE.out]; rfl⟩⟩
set_option maxRecDepth 100000 in
set_option maxHeartbeats 2000000 in
theorem checkPlan_c (hk : KnAt w ka K) (hlk : K.cop.length ≤ 1000000) (hp : RowsAt w pa ps) (hl : ps.length ≤ 1000000) (hll : ∀ p ∈ ps, p.length ≤ 1000000) : Calls Try.prog 34 #[.agg #[.slice ka K.cop.length kc, .bool K.none], .slice pa ps.length pc] w (TellI w (cpErr K ps)) := by
  obtain ⟨V, hV, hB0, k0, k1⟩ := box1 w (.slice ka K.cop.length kc) (.bool K.none) 24
  have hkV := hk.mono hB0
  have HB0 := hid hB0; have HV := hid hV; have HV0 := hid (Below.refl V.heap.size V)
  have K0 := hid k0; have K1 := hid k1
  have HpV := hid (hp.mono hB0)
  have H1 := hid fun (w' : World) (h : Below V.heap.size V w') => opened_c ka kc K pa pc ps w' (hkV.mono h) hlk (HpV.out.mono h) hl hll
  have hE : cpErr K ps = if pErr K ps = 0 then (if (alO K ps).isSome then 21 else 0) else pErr K ps := rfl
  have hO : alO K ps = if pErr K ps = 0 then alikeL ps (casesOf K) else none := rfl
  have Hok := hid (pErr_zero (K := K) (ps := ps))
  unfold TellI
  obtain ⟨EE, hEE⟩ : ∃ O, O = cpErr K ps := ⟨_, rfl⟩
  rw [← hEE] at hE ⊢
  obtain ⟨O, hOO⟩ : ∃ O, O = alO K ps := ⟨_, rfl⟩
  rw [← hOO] at hE hO
  obtain ⟨E, hE1⟩ : ∃ E, E = pErr K ps := ⟨_, rfl⟩
  rw [← hE1] at H1 hE hO Hok
  obtain ⟨nn, hnn⟩ : ∃ b, b = K.none := ⟨_, rfl⟩
  rw [← hnn] at k1 K1 HV H1 ⊢
  clear hnn hEE hOO hE1 hk hp hV hB0 hkV hl hlk hll
  by_cases h0 : E = 0
  · obtain ⟨hok, hp6, hwok, _⟩ := Hok.out h0
    rw [if_pos h0] at hE hO
    have H2 := hid fun (g : Nat) (mv : Value) (w' : World) (h : Below V.heap.size V w') (hb : BalAt w' g ka kc K mv) => alike_c g ka kc K mv pa pc ps w' hb hok (HpV.out.mono h) (by omega) hwok
    rw [← hO] at H2
    have HE := hid hE
    subst h0
    unfold PairC at H2
    obtain ⟨A, hA⟩ : ∃ A, A = O.getD ((0, 0), (0, 0)) := ⟨_, rfl⟩
    rw [← hA] at H2
    obtain ⟨⟨x, y⟩, ⟨u, v⟩⟩ := A
    simp only at H2
    obtain ⟨S, hS⟩ : ∃ S, S = O.isSome := ⟨_, rfl⟩
    rw [← hS] at H2 HE
    clear hE hO hok hp6 hwok hA hS
    go_enter Try.func34, Try.ntmps34
    go_upto_region 1 with (fail)
    rw [← HV.out]
    go_wp2_with fail
    refine (H1.out _ HV0.out).mono ?_
    rintro e w1 h
    obtain ⟨g, m, rfl, _, _, _, hbal, _, hB⟩ := h.ok rfl
    have HB1 := hid hB; have HBal := hid hbal
    clear h hB hbal
    go_wp2_with fail
    refine (H2.out g _ _ HB1.out HBal.out).mono ?_
    rintro e w2 ⟨rfl, hB⟩
    have HB2 := hid (bstep HB1.out hB)
    clear hB
    have HBf := hid (bstep HB0.out (bstep HB2.out (bstep (bnew w2 (.cells #[.int .i64 x, .int .i64 y] 34)) (bnew _ (.cells #[.int .i64 u, .int .i64 v] 34)))))
    cases S with
    | true =>
      go_wp2
      go_ret
      exact ⟨by rw [HE.out]; rfl, HBf.out⟩
    | false =>
      go_wp2
      go_ret
      exact ⟨by rw [HE.out]; rfl, HBf.out⟩
  · rw [if_neg h0] at hE
    have HE := hid hE
    have H0 := hid h0
    have b1 : (E != 0) = true := by simpa using h0
    clear hE hO
    go_enter Try.func34, Try.ntmps34
    go_upto_region 1 with (fail)
    rw [← HV.out]
    go_wp2_with fail
    refine (H1.out _ HV0.out).mono ?_
    rintro e w1 h
    obtain ⟨rfl, hB⟩ := h.err H0.out
    have HB1 := hid hB
    clear h hB
    go_wp2
    go_ret
    exact ⟨by rw [HE.out]; rfl, bstep HB0.out HB1.out⟩
set_option maxRecDepth 100000 in
set_option maxHeartbeats 2000000 in
theorem rCheckPlan_c (hk : KnAt w ka K) (hlk : K.cop.length ≤ 1000000) (hp : RowsAt w pa ps) (hl : ps.length ≤ 1000000) (hll : ∀ p ∈ ps, p.length ≤ 1000000) : Calls Try.prog 35 #[.agg #[.slice ka K.cop.length kc, .bool K.none], .slice pa ps.length pc] w (TellI w (cpErr K ps)) := by
  obtain ⟨V, hV, hB0, k0, k1⟩ := box1 w (.slice ka K.cop.length kc) (.bool K.none) 24
  have hkV := hk.mono hB0
  have HB0 := hid hB0; have HV := hid hV; have HV0 := hid (Below.refl V.heap.size V)
  have K0 := hid k0; have K1 := hid k1
  have HpV := hid (hp.mono hB0)
  have H1 := hid fun (w' : World) (h : Below V.heap.size V w') => rAlike_c ka kc K pa pc ps w' (hkV.mono h) hlk (HpV.out.mono h) hl hll
  have H2 := hid fun (w' : World) (h : Below V.heap.size V w') => planError_c ka kc K pa pc ps w' (hkV.mono h) hlk (HpV.out.mono h) hl hll
  have hE : cpErr K ps = if pErr K ps = 0 then (if (alO K ps).isSome then 21 else 0) else pErr K ps := rfl
  have hA : alErr K ps = if pErr K ps = 0 then (if (alO K ps).isSome then 0 else 5) else pErr K ps := rfl
  unfold TellI at H2
  unfold AlC at H1
  unfold TellI
  obtain ⟨EE, hEE⟩ : ∃ O, O = cpErr K ps := ⟨_, rfl⟩
  rw [← hEE] at hE ⊢
  obtain ⟨AE, hAE⟩ : ∃ O, O = alErr K ps := ⟨_, rfl⟩
  rw [← hAE] at hA H1
  obtain ⟨O, hOO⟩ : ∃ O, O = alO K ps := ⟨_, rfl⟩
  rw [← hOO] at hE hA H1
  obtain ⟨E, hE1⟩ : ∃ E, E = pErr K ps := ⟨_, rfl⟩
  rw [← hE1] at hE hA H2
  obtain ⟨nn, hnn⟩ : ∃ b, b = K.none := ⟨_, rfl⟩
  rw [← hnn] at k1 K1 HV H1 H2 ⊢
  obtain ⟨A, hAA⟩ : ∃ A, A = O.getD ((0, 0), (0, 0)) := ⟨_, rfl⟩
  rw [← hAA] at H1
  obtain ⟨⟨x, y⟩, ⟨u, v⟩⟩ := A
  simp only at H1
  obtain ⟨S, hS⟩ : ∃ S, S = O.isSome := ⟨_, rfl⟩
  rw [← hS] at hE hA
  have HBf := hid fun (w2 : World) => bstep (bnew w2 (.cells #[.int .i64 x, .int .i64 y] 34)) (bnew _ (.cells #[.int .i64 u, .int .i64 v] 34))
  clear hnn hEE hOO hE1 hk hp hV hB0 hkV hl hlk hll hAE hAA hS
  by_cases hA0 : AE = 0
  · have hEE : EE = 21 := by
      by_cases h0 : E = 0
      · rw [if_pos h0] at hE hA
        cases S with
        | true => exact hE
        | false => rw [if_neg (by decide)] at hA; omega
      · rw [if_neg h0] at hA; omega
    have HEE := hid hEE
    subst hA0
    clear hE hA hEE
    go_enter Try.func35, Try.ntmps35
    go_upto_region 1 with (fail)
    rw [← HV.out]
    go_wp2_with fail
    refine (H1.out _ HV0.out).mono ?_
    rintro e w1 ⟨rfl, hB⟩
    have HB1 := hid (bstep HV0.out hB)
    have k0 := cstep k0 hB
    have k1 := cstep k1 hB
    clear hB
    go_wp2
    go_ret
    exact ⟨by rw [HEE.out]; rfl, bstep HB0.out (bstep HB1.out (HBf.out _))⟩
  · have b1 : ((AE : Int) == 0) = false := by rw [beq_eq_false_iff_ne]; exact hA0
    obtain ⟨X, hX⟩ : ∃ X, X = fun w2 : World => (w2.alloc (.cells #[.int .i64 x, .int .i64 y] 34)).alloc (.cells #[.int .i64 u, .int .i64 v] 34) := ⟨_, rfl⟩
    by_cases h5 : AE = 5
    · have b2 : ((AE : Int) == 5) = true := by rw [beq_iff_eq]; exact h5
      by_cases h0 : E = 0
      · have hEE : EE = 0 := by
          rw [if_pos h0] at hE hA
          cases S with
          | true => rw [if_pos rfl] at hA; omega
          | false => rw [if_neg (by decide)] at hE; exact hE
        have HEE := hid hEE
        subst h0
        clear hE hA hEE hX X
        go_enter Try.func35, Try.ntmps35
        go_upto_region 1 with (fail)
        rw [← HV.out]
        go_wp2_with fail
        refine (H1.out _ HV0.out).mono ?_
        rintro e w1 ⟨rfl, hB⟩
        have HB1 := hid (bstep HV0.out hB)
        have k0 := cstep k0 hB
        have k1 := cstep k1 hB
        clear hB
        have k0 := cstep k0 (HBf.out w1); have k1 := cstep k1 (HBf.out w1)
        go_wp2_with fail
        refine (H2.out _ (bstep HB1.out (HBf.out w1))).mono ?_
        rintro e w2 ⟨rfl, hB⟩
        have HB2 := hid (bstep (bstep HB1.out (HBf.out w1)) hB)
        clear hB
        go_wp2
        go_ret
        exact ⟨by rw [HEE.out]; rfl, bstep HB0.out HB2.out⟩
      · have hEE : EE = 5 := by rw [if_neg h0] at hE hA; omega
        have HEE := hid hEE
        have b3 : ((E : Int) == 0) = false := by rw [beq_eq_false_iff_ne]; exact h0
        clear hE hA hEE hX X
        go_enter Try.func35, Try.ntmps35
        go_upto_region 1 with (fail)
        rw [← HV.out]
        go_wp2_with fail
        refine (H1.out _ HV0.out).mono ?_
        rintro e w1 ⟨rfl, hB⟩
        have HB1 := hid (bstep HV0.out hB)
        have k0 := cstep k0 hB
        have k1 := cstep k1 hB
        clear hB
        have k0 := cstep k0 (HBf.out w1); have k1 := cstep k1 (HBf.out w1)
        go_wp2_with fail
        refine (H2.out _ (bstep HB1.out (HBf.out w1))).mono ?_
        rintro e w2 ⟨rfl, hB⟩
        have HB2 := hid (bstep (bstep HB1.out (HBf.out w1)) hB)
        clear hB
        go_wp2
        go_ret
        exact ⟨by rw [HEE.out]; rfl, bstep HB0.out HB2.out⟩
    · have b2 : ((AE : Int) == 5) = false := by rw [beq_eq_false_iff_ne]; exact h5
      have hEE : EE = AE := by
        by_cases h0 : E = 0
        · rw [if_pos h0] at hA
          cases S with
          | true => rw [if_pos rfl] at hA; omega
          | false => rw [if_neg (by decide)] at hA; omega
        · rw [if_neg h0] at hE hA; omega
      have HEE := hid hEE
      clear hE hA hEE hX X
      go_enter Try.func35, Try.ntmps35
      go_upto_region 1 with (fail)
      rw [← HV.out]
      go_wp2_with fail
      refine (H1.out _ HV0.out).mono ?_
      rintro e w1 ⟨rfl, hB⟩
      have HB1 := hid (bstep HV0.out hB)
      have k0 := cstep k0 hB
      have k1 := cstep k1 hB
      clear hB
      go_wp2
      go_ret
      exact ⟨by rw [HEE.out]; rfl, bstep HB0.out (bstep HB1.out (HBf.out _))⟩
end

end Go.Proofs.Ytelgbjfgmpkepaa

namespace Go.Proofs.Ytelgbjfgmpkepaa
open Go.RowKit Go.Shelf

section
variable (ka : Option Addr) (kc : Nat) (K : Kn) (pa : Option Addr) (pc : Nat) (ps : List (List Int)) (w : World)
set_option maxRecDepth 100000 in
set_option maxHeartbeats 2000000 in
theorem alike_30 (hk : KnAt w ka K) (hlk : K.cop.length ≤ 1000000) (hp : RowsAt w pa ps) (hl : ps.length ≤ 1000000) (hll : ∀ p ∈ ps, p.length ≤ 1000000) : Calls Try.prog 30 #[.agg #[.slice ka K.cop.length kc, .bool K.none], .slice pa ps.length pc] w (AlC w (alO K ps) (alErr K ps)) := by
  obtain ⟨V, hV, hB0, k0, k1, hr0, hr1⟩ := box3z w (.slice ka K.cop.length kc) (.bool K.none)
  have hkV := hk.mono hB0
  have K0 := hid k0; have K1 := hid k1
  have HB0 := hid hB0; have HV := hid hV; have HV0 := hid (Below.refl V.heap.size V)
  have Hr0 := hid hr0; have Hr1 := hid hr1
  have HpV := hid (hp.mono hB0)
  have H1 := hid fun (w' : World) (h : Below V.heap.size V w') => opened_c ka kc K pa pc ps w' (hkV.mono h) hlk (HpV.out.mono h) hl hll
  have hE : alErr K ps = if pErr K ps = 0 then (if (alO K ps).isSome then 0 else 5) else pErr K ps := rfl
  have hO : alO K ps = if pErr K ps = 0 then alikeL ps (casesOf K) else none := rfl
  have Hok := hid (pErr_zero (K := K) (ps := ps))
  unfold AlC
  obtain ⟨EE, hEE⟩ : ∃ O, O = alErr K ps := ⟨_, rfl⟩
  rw [← hEE] at hE ⊢
  obtain ⟨O, hOO⟩ : ∃ O, O = alO K ps := ⟨_, rfl⟩
  rw [← hOO] at hE hO ⊢
  obtain ⟨E, hE1⟩ : ∃ E, E = pErr K ps := ⟨_, rfl⟩
  rw [← hE1] at H1 hE hO Hok
  obtain ⟨nn, hnn⟩ : ∃ b, b = K.none := ⟨_, rfl⟩
  rw [← hnn] at k1 K1 HV H1 ⊢
  have hA0 : O.isSome = false → O.getD ((0, 0), (0, 0)) = ((0, 0), (0, 0)) := by cases O <;> simp
  have hAn : O = none → O.getD ((0, 0), (0, 0)) = ((0, 0), (0, 0)) := by rintro rfl; rfl
  obtain ⟨A, hAA⟩ : ∃ A, A = O.getD ((0, 0), (0, 0)) := ⟨_, rfl⟩
  rw [← hAA] at hA0 hAn ⊢
  have HAA := hid hAA
  clear hnn hEE hOO hE1 hk hp hV hB0 hkV hl hlk hll hr0 hr1 hAA
  obtain ⟨⟨x, y⟩, ⟨u, v⟩⟩ := A
  simp only at HAA ⊢
  by_cases h0 : E = 0
  · obtain ⟨hok, hp6, hwok, _⟩ := Hok.out h0
    rw [if_pos h0] at hE hO
    have H2 := hid fun (g : Nat) (mv : Value) (w' : World) (h : Below V.heap.size V w') (hb : BalAt w' g ka kc K mv) => alike_c g ka kc K mv pa pc ps w' hb hok (HpV.out.mono h) (by omega) hwok
    rw [← hO] at H2
    have HE := hid hE
    subst h0
    unfold PairC at H2
    rw [← HAA.out] at H2
    simp only at H2
    obtain ⟨S, hS⟩ : ∃ S, S = O.isSome := ⟨_, rfl⟩
    rw [← hS] at H2 HE hA0
    clear hE hO hok hp6 hwok hS hAn
    go_enter Try.func30, Try.ntmps30
    go_upto_region 1 with (fail)
    rw [← HV.out]
    go_wp2_with fail
    refine (H1.out _ HV0.out).mono ?_
    rintro e w1 h
    obtain ⟨g, m, rfl, _, _, _, hbal, _, hB⟩ := h.ok rfl
    have HB1 := hid hB; have HBal := hid hbal
    clear h hB hbal
    go_wp2_with fail
    refine (H2.out g _ _ HB1.out HBal.out).mono ?_
    rintro e w2 ⟨rfl, hB⟩
    have HB2 := hid (bstep HB1.out hB)
    clear hB
    obtain ⟨X, hX, hBX, x0, x1, x2, x3⟩ := box2 w2 (.int .i64 x) (.int .i64 y) (.int .i64 u) (.int .i64 v) 34 34
    have HX := hid hX
    have HB3 := hid (bstep HB2.out hBX)
    have Hw2 := hid (show V.heap.size ≤ w2.heap.size from HB2.out.size)
    clear hX hBX
    have hr0 := Hr0.out.mono HB3.out
    have hr1 := Hr1.out.mono HB3.out
    have HrA := hid hr0; have HrB := hid hr1
    have f0 := hr0.f0; have f1 := hr0.f1; have f2 := hr1.f0; have f3 := hr1.f1
    have r0 := hr0.c0; have r1 := hr0.c1; have r2 := hr1.c0; have r3 := hr1.c1
    have HBw := hid (bstep HB0.out HB3.out)
    clear hr0 hr1
    cases S with
    | true =>
      have q1 := Hr1.out.lt
      have q2 := Hw2.out
      have p1 : ¬ w.heap.size + 1 = w2.heap.size := by omega
      have p2 : ¬ w.heap.size + 1 + 1 = w2.heap.size := by omega
      have p3 : ¬ w2.heap.size = w.heap.size + 1 := by omega
      have p4 : ¬ w2.heap.size = w.heap.size + 1 + 1 := by omega
      have p5 : ¬ w.heap.size + 1 = w2.heap.size + 1 := by omega
      have p6 : ¬ w.heap.size + 1 + 1 = w2.heap.size + 1 := by omega
      have p7 : ¬ w2.heap.size + 1 = w.heap.size + 1 := by omega
      have p8 : ¬ w2.heap.size + 1 = w.heap.size + 1 + 1 := by omega
      have HA := hid (set_two HrA.out HrB.out (by omega) (.int .i64 x) (.int .i64 y) (.int .i64 u) (.int .i64 v))
      have HBz := hid (below_two HBw.out (p := w.heap.size + 1) (q := w.heap.size + 1 + 1) (by omega) (by omega) (.int .i64 x) (.int .i64 y) (.int .i64 u) (.int .i64 v))
      clear hA0
      go_upto_region 5 with (fail)
      rw [← HX.out]
      go_wp2
      go_region_law (fail)
      all_goals (
        go_wp2
        refine bodyPost_ret (results_cc34t rfl _ _ (w.heap.size + 1) (w.heap.size + 1 + 1) _ _ _ _ rfl rfl HA.out.1 HA.out.2) rfl ?_
        exact ⟨by rw [HE.out]; rfl, HBz.out.trans ⟨rfl, rfl, rfl, Nat.le_refl _, fun _ _ => rfl⟩⟩)
    | false =>
      have hA := hA0 rfl
      simp only [Prod.mk.injEq] at hA
      obtain ⟨⟨rfl, rfl⟩, ⟨rfl, rfl⟩⟩ := hA
      have HA := hid (set_two HrA.out HrB.out (by omega) (.int .i64 0) (.int .i64 0) (.int .i64 0) (.int .i64 0))
      have HBz := hid (below_two HBw.out (p := w.heap.size + 1) (q := w.heap.size + 1 + 1) (by omega) (by omega) (.int .i64 0) (.int .i64 0) (.int .i64 0) (.int .i64 0))
      clear hA0
      go_upto_region 5 with (fail)
      rw [← HX.out]
      go_wp2
      refine bodyPost_ret (results_cc34t rfl _ _ (w.heap.size + 1) (w.heap.size + 1 + 1) _ _ _ _ rfl rfl HA.out.1 HA.out.2) rfl ?_
      exact ⟨by rw [HE.out]; rfl, HBz.out⟩
  · rw [if_neg h0] at hE hO
    have HE := hid hE
    have H0 := hid h0
    have hA := hAn hO
    simp only [Prod.mk.injEq] at hA
    obtain ⟨⟨rfl, rfl⟩, ⟨rfl, rfl⟩⟩ := hA
    have b1 : (E != 0) = true := by simpa using h0
    clear hE hO hA0 hAn
    go_enter Try.func30, Try.ntmps30
    go_upto_region 1 with (fail)
    rw [← HV.out]
    go_wp2_with fail
    refine (H1.out _ HV0.out).mono ?_
    rintro e w1 h
    obtain ⟨rfl, hB⟩ := h.err H0.out
    have HB1 := hid hB
    have hr0 := Hr0.out.mono HB1.out
    have hr1 := Hr1.out.mono HB1.out
    have HrA := hid hr0; have HrB := hid hr1
    have f0 := hr0.f0; have f1 := hr0.f1; have f2 := hr1.f0; have f3 := hr1.f1
    have r0 := hr0.c0; have r1 := hr0.c1; have r2 := hr1.c0; have r3 := hr1.c1
    have HBw := hid (bstep HB0.out HB1.out)
    clear h hB hr0 hr1
    have HA := hid (set_two HrA.out HrB.out (by omega) (.int .i64 0) (.int .i64 0) (.int .i64 0) (.int .i64 0))
    have HBz := hid (below_two HBw.out (p := w.heap.size + 1) (q := w.heap.size + 1 + 1) (by omega) (by omega) (.int .i64 0) (.int .i64 0) (.int .i64 0) (.int .i64 0))
    go_wp2
    refine bodyPost_ret (results_cc34t rfl _ _ (w.heap.size + 1) (w.heap.size + 1 + 1) _ _ _ _ rfl rfl HA.out.1 HA.out.2) rfl ?_
    exact ⟨by rw [HE.out]; rfl, HBz.out⟩
end

end Go.Proofs.Ytelgbjfgmpkepaa
