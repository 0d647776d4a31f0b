/- The arguments of the laws: what is read of them. The law SlugKnowns. -/
import Derived.Test.YtelgbjfgmpkepaaRows
import Derived.Test.YtelgbjfgmpkepaaKE
import Derived.ProofKit
import Derived.Lib.SmallJoins
import Derived.Carry
import Derived.Deep.Slices
import Derived.Test.YtelgbjfgmpkepaaKR
namespace Go.Proofs.Ytelgbjfgmpkepaa
open Go.ChangeShapes Go.WideShapes Go.ChangeAt Go.RowKit

theorem ownT : ownKnob Try.prog.godebug = none := by kernel_rfl
theorem laidT : laidOutB Try.prog = true := by kernel_rfl
theorem cellsJ3 : Try.prog.cellsOf 3 = 1 := by kernel_rfl
theorem cellsJ22 : Try.prog.cellsOf 22 = 1 := by kernel_rfl
theorem cellsJ24 : Try.prog.cellsOf 24 = 2 := by kernel_rfl
theorem cellsJ34 : Try.prog.cellsOf 34 = 2 := by kernel_rfl

theorem getD_take {zs : List Int} {n j : Nat} (h : j < n) : zs.getD j 0 = nth (zs.take n) j := by
  rw [nth_take h]; rfl

/-- a slice of ints that comes in, out of its one cell -/
theorem cellsInts {H : Type} {enc : TypeId × Value → H} {W : World} {base fuel : Nat} {held : Bool} {v : Value} {y : DataW H × List MemPlace} {t u : TypeId} (ht : Try.prog.underlying t = some (.slice u)) (hu : Try.prog.underlying u = some (.int .i64)) (hc : Try.prog.cellsOf u = 1)
    (h : DataW.trod enc Try.prog W base (fun _ => true) held fuel t [v] = some y) :
    ∃ a cap xs, v = .slice a xs.length cap ∧ IntsAt W a xs ∧ (a = none → cap = 0) ∧ xs.length ≤ cap := by
  rcases open_ints ht hu hc h with ⟨hcs, _⟩ | ⟨a, len, cap, zs, hcs, _, hl, hm, hz, _, hcell, _⟩
  · exact ⟨none, 0, [], by simpa using hcs, .inl rfl, fun _ => rfl, Nat.zero_le _⟩
  · simp only [if_true] at hz
    have hv : v = .slice (some a) len cap := by simpa using hcs
    have hzl : (zs.take len).length = len := by rw [List.length_take]; omega
    refine ⟨some a, cap, zs.take len, by rw [hzl]; exact hv, ?_, fun h => (by cases h), by omega⟩
    by_cases h0 : len = 0
    · subst h0; exact .inl (by simp)
    · obtain ⟨b, off, spot⟩ := a
      have hspot : spot = none := by simpa [Addr.add] using World.cell?_spot (hcell 0 (by omega))
      subst hspot
      refine .inr ⟨b, off, rfl, fun j hj => ?_⟩
      rw [hzl] at hj
      have := hcell j (by omega)
      rw [← getD_take hj]
      rw [add_plain] at this
      exact this

theorem cells_two {w : World} {base : Nat} {a : Addr} {cs : List Value} (h : w.cells? base a 2 = some cs) : ∃ c0 c1, cs = [c0, c1] ∧ w.cell? (a.add 0) = some c0 ∧ w.cell? (a.add 1) = some c1 := by
  unfold World.cells? at h
  split at h
  · cases h0 : w.cell? (a.add 0) with
    | none => simp [List.range_succ, h0] at h
    | some c0 =>
      cases h1 : w.cell? (a.add 1) with
      | none => simp [List.range_succ, h0, h1] at h
      | some c1 =>
        simp [List.range_succ, h0, h1] at h
        exact ⟨c0, c1, h.symm, rfl, rfl⟩
  · cases h
theorem cells_one {w : World} {base : Nat} {a : Addr} {cs : List Value} (h : w.cells? base a 1 = some cs) : ∃ c0, cs = [c0] ∧ w.cell? (a.add 0) = some c0 := by
  unfold World.cells? at h
  split at h
  · cases h0 : w.cell? (a.add 0) with
    | none => simp [List.range_succ, h0] at h
    | some c0 =>
      simp [List.range_succ, h0] at h
      exact ⟨c0, h.symm, rfl⟩
  · cases h

/-- a list of what there is at each place -/
theorem gather {α : Type} {d : α} {Q : Nat → α → Prop} : ∀ n : Nat, (∀ i, i < n → ∃ r, Q i r) → ∃ rs : List α, rs.length = n ∧ ∀ i, i < n → Q i (rs.getD i d)
  | 0, _ => ⟨[], rfl, fun i h => by omega⟩
  | n + 1, h => by
    obtain ⟨rs, hl, hq⟩ := gather n (fun i hi => h i (by omega))
    obtain ⟨r, hr⟩ := h n (by omega)
    refine ⟨rs ++ [r], by simp [hl], fun i hi => ?_⟩
    by_cases e : i = n
    · subst e
      have : (rs ++ [r]).getD i d = r := by rw [List.getD_eq_getElem?_getD, List.getElem?_append_right (by omega)]; simp [hl]
      rw [this]; exact hr
    · have : (rs ++ [r]).getD i d = rs.getD i d := by rw [List.getD_eq_getElem?_getD, List.getD_eq_getElem?_getD, List.getElem?_append_left (by omega)]
      rw [this]; exact hq i (by omega)

set_option maxRecDepth 100000 in
/-- the rows that come in, out of their one cell -/
theorem cells42 {H : Type} {enc : TypeId × Value → H} {W : World} {base fuel : Nat} {held : Bool} {v : Value} {y : DataW H × List MemPlace} (h : DataW.trod enc Try.prog W base (fun _ => true) held fuel 42 [v] = some y) :
    ∃ a cap ls, v = .slice a ls.length cap ∧ RowsAt W a ls ∧ (a = none → cap = 0) ∧ ls.length ≤ cap := by
  rcases Go.Deep.open_slice Try.underlying42 h with ⟨hcs, _⟩ | ⟨a, len, cap, m, n, D, Pl, hcs, _, hl, _, hm, _, hel⟩
  · exact ⟨none, 0, [], by simpa using hcs, .inl rfl, fun _ => rfl, Nat.zero_le _⟩
  · simp only [if_true] at hm
    subst hm
    have hv : v = .slice (some a) len m := by simpa using hcs
    rw [cellsJ22] at hel
    by_cases h0 : len = 0
    · subst h0; exact ⟨some a, m, [], hv, .inl rfl, fun h => (by cases h), hl⟩
    · have each : ∀ i, i < len → ∃ r : List Int, ∃ ai ci, W.cell? (a.add (i * 1)) = some (.slice ai r.length ci) ∧ IntsAt W ai r ∧ (ai = none → ci = 0) := by
        intro i hi
        obtain ⟨cs', hc, ht⟩ := hel i (by omega)
        obtain ⟨c0, rfl, k0⟩ := cells_one hc
        obtain ⟨ai, ci, xs, rfl, hx, hn, _⟩ := cellsInts Try.underlying22 Try.underlying3 cellsJ3 ht
        exact ⟨xs, ai, ci, by simpa [Addr.add] using k0, hx, hn⟩
      obtain ⟨rs, hrl, hrs⟩ := gather (d := []) len each
      obtain ⟨b, off, spot⟩ := a
      have hspot : spot = none := by
        obtain ⟨ai, ci, k, _⟩ := hrs 0 (by omega)
        simpa [Addr.add] using World.cell?_spot k
      subst hspot
      refine ⟨some ⟨b, off, none⟩, m, rs, by rw [hrl]; exact hv, .inr ⟨b, off, rfl, fun i hi => ?_⟩, fun h => (by cases h), by omega⟩
      obtain ⟨ai, ci, k0, hx, hn⟩ := hrs i (by omega)
      rw [add_plain, Nat.mul_one] at k0
      exact ⟨ai, ci, k0, hx, hn⟩

set_option maxRecDepth 100000 in
theorem arg22 {H : Type} {enc : TypeId × Value → H} {W : World} {r : Reach} {b0 base : Nat} {held : Bool} {v : Value} {d : DataW H} {p : List MemPlace} (hv : Value.okWide Try.prog W r b0 22 v)
    (h : DataW.Trod enc Try.prog W base (fun _ => true) held 22 v d p) : ∃ a cap xs, v = .slice a xs.length cap ∧ IntsAt W a xs ∧ (a = none → cap = 0) ∧ xs.length ≤ cap := by
  obtain ⟨a, len, cap, rfl⟩ := okWide_slice Try.underlying22 hv
  obtain ⟨fuel, hf⟩ := h
  exact cellsInts Try.underlying22 Try.underlying3 cellsJ3 (by simpa [Value.cells] using hf)

set_option maxRecDepth 100000 in
theorem arg42 {H : Type} {enc : TypeId × Value → H} {W : World} {r : Reach} {b0 base : Nat} {held : Bool} {v : Value} {d : DataW H} {p : List MemPlace} (hv : Value.okWide Try.prog W r b0 42 v)
    (h : DataW.Trod enc Try.prog W base (fun _ => true) held 42 v d p) : ∃ a cap ls, v = .slice a ls.length cap ∧ RowsAt W a ls ∧ (a = none → cap = 0) ∧ ls.length ≤ cap := by
  obtain ⟨a, len, cap, rfl⟩ := okWide_slice Try.underlying42 hv
  obtain ⟨fuel, hf⟩ := h
  exact cells42 (by simpa [Value.cells] using hf)

set_option maxRecDepth 100000 in
theorem arg24 {H : Type} {enc : TypeId × Value → H} {W : World} {r : Reach} {b0 base : Nat} {held : Bool} {v : Value} {d : DataW H} {p : List MemPlace} (hv : Value.okWide Try.prog W r b0 24 v)
    (h : DataW.Trod enc Try.prog W base (fun _ => true) held 24 v d p) :
    ∃ ka kc K, v = .agg #[.slice ka (Kn.cop K).length kc, .bool K.none] ∧ KnAt W ka K ∧ (ka = none → kc = 0) ∧ K.cop.length ≤ kc := by
  obtain ⟨v0, v1, y0, y1, n, rfl, _, _, h0, h1⟩ := Go.Joins.open_agg2 Try.underlying24 (by kernel_rfl) cellsJ24 hv h
  obtain ⟨ka, kc, xs, rfl, i1, n1, m1⟩ := cellsInts Try.underlying22 Try.underlying3 cellsJ3 h0
  obtain ⟨z, hz, _⟩ := DataW.trod_bool Try.underlying4 h1
  simp only [List.cons.injEq, and_true] at hz
  subst hz
  exact ⟨ka, kc, ⟨xs, z⟩, rfl, i1, n1, m1⟩

set_option maxRecDepth 100000 in
theorem arg3 {H : Type} {enc : TypeId × Value → H} {W : World} {r : Reach} {b0 base : Nat} {sp : Nat → Bool} {held : Bool} {v : Value} {d : DataW H} {p : List MemPlace} (hv : Value.okWide Try.prog W r b0 3 v)
    (h : DataW.Trod enc Try.prog W base sp held 3 v d p) : ∃ n, v = .int .i64 n ∧ (Lit.int .i64 n).wf = true := by
  obtain ⟨a, rfl, rfl, rfl, wa⟩ := open_int Try.underlying3 hv h
  exact ⟨a, rfl, wa⟩

set_option maxRecDepth 100000 in
theorem arg34 {H : Type} {enc : TypeId × Value → H} {W : World} {r : Reach} {b0 base : Nat} {held : Bool} {v : Value} {d : DataW H} {p : List MemPlace} (hv : Value.okWide Try.prog W r b0 34 v)
    (h : DataW.Trod enc Try.prog W base (fun _ => true) held 34 v d p) : ∃ q : Int × Int, v = .agg #[.int .i64 q.1, .int .i64 q.2] := by
  obtain ⟨v0, v1, y0, y1, n, rfl, _, _, h0, h1⟩ := Go.Joins.open_agg2 Try.underlying34 (by kernel_rfl) cellsJ34 hv h
  obtain ⟨z, hz, _⟩ := DataW.trod_int Try.underlying3 h0
  obtain ⟨z1, hz1, _⟩ := DataW.trod_int Try.underlying3 h1
  simp only [List.cons.injEq, and_true] at hz hz1
  subst hz hz1
  exact ⟨(z, z1), rfl⟩

set_option maxRecDepth 100000 in
theorem arg5 {H : Type} {enc : TypeId × Value → H} {W : World} {r : Reach} {b0 base : Nat} {sp : Nat → Bool} {held : Bool} {v : Value} {d : DataW H} {p : List MemPlace} (hv : Value.okWide Try.prog W r b0 5 v)
    (h : DataW.Trod enc Try.prog W base sp held 5 v d p) : ∃ n : Nat, v = .int .u8 n ∧ n < 256 := by
  obtain ⟨a, rfl, rfl, rfl, wa⟩ := open_int Try.underlying5 hv h
  have h0 : IntKind.u8.min = 0 := by decide
  have h1 : IntKind.u8.max = 255 := by decide
  simp [Lit.wf, h0, h1] at wa
  obtain ⟨n, rfl⟩ := Int.eq_ofNat_of_zero_le (a := a) (by omega)
  exact ⟨n, rfl, by omega⟩

set_option maxRecDepth 100000 in
theorem argb {H : Type} {enc : TypeId × Value → H} {W : World} {r : Reach} {b0 base : Nat} {sp : Nat → Bool} {held : Bool} {v : Value} {d : DataW H} {p : List MemPlace} (hv : Value.okWide Try.prog W r b0 4 v)
    (h : DataW.Trod enc Try.prog W base sp held 4 v d p) : ∃ b : Bool, v = .bool b := by
  obtain ⟨b, rfl, _⟩ := open_bool Try.underlying4 hv h
  exact ⟨b, rfl⟩


end Go.Proofs.Ytelgbjfgmpkepaa

namespace Go.Proofs.Ytelgbjfgmpkepaa
open Go.RowKit Go.Shelf

def WorksC : Prop := ∀ w, Calls Try.prog 16 #[] w (TellB w true)
section
variable (ka : Option Addr) (kc : Nat) (K : Kn) (w : World)
set_option maxRecDepth 100000 in
set_option maxHeartbeats 8000000 in
theorem slugKnowns_c (hworks : WorksC) (hk : KnAt w ka K) : Calls Try.prog 3 #[.agg #[.slice ka K.cop.length kc, .bool K.none]] w (TellB w true) := by
  have HW := hid hworks
  obtain ⟨V, hV, hB0, k0, k1⟩ := box1 w (.slice ka K.cop.length kc) (.bool K.none) 24
  have hkV := hk.mono hB0
  have HB0 := hid hB0; have HV := hid hV; have HV0 := hid (Below.refl V.heap.size V)
  have K0 := hid k0; have K1 := hid k1
  have HG := hid (great_15 ka kc K V hkV)
  unfold WorksC TellB at *
  by_cases hg : 16 < K.cop.length
  · rw [decide_eq_true hg] at HG
    clear hworks hk hV hB0 hkV hg
    go_enter Try.func3, Try.ntmps3
    go_upto_region 1 with (fail)
    rw [← HV.out]
    go_wp2_with fail
    refine (HG.out).mono ?_
    rintro e w1 ⟨rfl, hB⟩
    have HB1 := hid (bstep HV0.out hB)
    clear hB
    go_wp2_with fail
    refine (HW.out _).mono ?_
    rintro e w2 ⟨rfl, hB⟩
    have HB2 := hid (bstep HB1.out hB)
    clear hB
    go_wp2
    go_ret
    exact ⟨rfl, bstep HB0.out HB2.out⟩
  · rw [decide_eq_false hg] at HG
    have H1 := hid fun (w' : World) (h : Below V.heap.size V w') => cases_17 ka kc K w' (hkV.mono h) (by omega)
    have H2 := hid fun (w' : World) (h : Below V.heap.size V w') => rCases_18 ka kc K w' (hkV.mono h) (by omega)
    have H3 := hid fun (w' : World) (h : Below V.heap.size V w') => checkKnown_c ka kc K w' (hkV.mono h) (by omega)
    have H4 := hid fun (w' : World) (h : Below V.heap.size V w') => rCheckKnown_c ka kc K w' (hkV.mono h) (by omega)
    have hlen : (csVal K).length ≤ 1000000 := by
      have := casesOf_len K
      unfold csVal
      split
      · omega
      · simp
    have Hlen := hid hlen
    unfold TdC TellI at *
    clear hworks hk hV hB0 hkV hg hlen
    go_enter Try.func3, Try.ntmps3
    go_upto_region 1 with (fail)
    rw [← HV.out]
    go_wp2_with fail
    refine (HG.out).mono ?_
    rintro e w1 ⟨rfl, hB⟩
    have HB1 := hid (bstep HV0.out hB)
    have k0 := cstep k0 hB
    have k1 := cstep k1 hB
    clear hB
    go_wp2_with fail
    refine (H1.out _ HB1.out).mono ?_
    rintro e w2 ⟨ao, ca, rfl, hx, hB⟩
    have HB2 := hid (bstep HB1.out hB)
    have k0 := cstep k0 hB
    have k1 := cstep k1 hB
    clear hB
    have HX := hid hx
    clear hx
    go_wp2_with fail
    refine (H2.out _ HB2.out).mono ?_
    rintro e w3 ⟨bo, cb, rfl, hy, hB⟩
    have HB3 := hid (bstep HB2.out hB)
    have k0 := cstep k0 hB
    have k1 := cstep k1 hB
    have HX := hid (HX.out.mono hB)
    clear hB
    have HY := hid hy
    clear hy
    have j0 := fun s : Later w3 => cstep k0 s.h
    have j1 := fun s : Later w3 => cstep k1 s.h
    have A1 := hid fun s : Later w3 => H3.out s.w' (bstep HB3.out s.h)
    have A2 := hid fun s : Later w3 => H4.out s.w' (bstep HB3.out s.h)
    have A3 := hid fun s : Later w3 => (show Calls Try.prog 21 #[.slice ao (csVal K).length ca, .slice bo (csVal K).length cb] s.w' (TellB s.w' true) from k_cs (csVal K) ao bo _ _ ca cb s.w' rfl rfl (HX.out.mono s.h) (HY.out.mono s.h) Hlen.out)
    have A4 := hid fun s : Later w3 => HW.out s.w'
    unfold TellB at A3
    have E1 : ((knErr K : Int) == knErr K) = true := by simp
    go_upto_region 5 with (fail)
    refine wp_region_later (by kernel_rfl) (by kernel_rfl) ?_
    repeat (go_big_quiet_step ((first | (go_at_call 19; with_reducible exact callsLater (A1.out _)) | (go_at_call 20; with_reducible exact callsLater (A2.out _)) | (go_at_call 21; with_reducible exact callsLater (A3.out _)) | (go_at_call 16; with_reducible exact callsLater (A4.out _)))))
    refine wpQuiet_nil ?_
    rintro w4 ⟨⟨_, hB⟩, rfl⟩
    have HB4 := hid (bstep HB3.out hB)
    clear hB j0 j1
    go_wp2
    go_ret
    exact ⟨rfl, bstep HB0.out HB4.out⟩
end

end Go.Proofs.Ytelgbjfgmpkepaa
