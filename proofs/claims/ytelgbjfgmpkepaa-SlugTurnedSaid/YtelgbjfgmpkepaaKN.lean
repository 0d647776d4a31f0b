/- Walks: the reference's counts: cases, index, CountOf. The layer, plain: how the reference takes the least over all pans. Walks: the reference's neededBoth. -/
import Derived.Test.YtelgbjfgmpkepaaKM
import Derived.Test.YtelgbjfgmpkepaaKI
namespace Go.Proofs.Ytelgbjfgmpkepaa
open Go.RowKit Go.Shelf

/-- a block of four ints -/
def I4 (w : World) (g : Nat) (t : TypeId) (a b c d : Int) : Prop := w.heap[g]? = some (.cells #[.int .i64 a, .int .i64 b, .int .i64 c, .int .i64 d] t (0, 0))
section
variable {w w' : World} {g : Nat} {t : TypeId} {a b c d : Int}
theorem I4.c0 (h : I4 w g t a b c d) : w.cell? ⟨g, 0, none⟩ = some (.int .i64 a) := by rw [cell_of_row _ _ _ _ _ _ h]; rfl
theorem I4.c1 (h : I4 w g t a b c d) : w.cell? ⟨g, 1, none⟩ = some (.int .i64 b) := by rw [cell_of_row _ _ _ _ _ _ h]; rfl
theorem I4.c2 (h : I4 w g t a b c d) : w.cell? ⟨g, 2, none⟩ = some (.int .i64 c) := by rw [cell_of_row _ _ _ _ _ _ h]; rfl
theorem I4.c3 (h : I4 w g t a b c d) : w.cell? ⟨g, 3, none⟩ = some (.int .i64 d) := by rw [cell_of_row _ _ _ _ _ _ h]; rfl
theorem I4.f (h : I4 w g t a b c d) (k : Nat) : w.frozen? ⟨g, k, none⟩ = false := frozen_of_row w _ k _ _ h
theorem I4.lt (h : I4 w g t a b c d) : g < w.heap.size := (Array.getElem?_eq_some_iff.1 h).1
theorem I4.mono (h : I4 w g t a b c d) (hB : Below w.heap.size w w') : I4 w' g t a b c d := (hB.block _ h.lt).trans h
theorem I4.same (h : I4 w g t a b c d) (hs : w'.heap[g]? = w.heap[g]?) : I4 w' g t a b c d := hs.trans h
theorem I4.other (h : I4 w g t a b c d) {r : Nat} (hr : g ≠ r) (k : Nat) (v : Value) : I4 (w.setCell ⟨r, k, none⟩ v) g t a b c d := (Below.heap_setCell _ _ _ _ (fun e => hr e)).trans h
theorem I4.set0 (h : I4 w g t a b c d) (x : Int) : I4 (w.setCell ⟨g, 0, none⟩ (.int .i64 x)) g t x b c d := heap_setCell_same w g 0 _ t _ h
theorem I4.set1 (h : I4 w g t a b c d) (x : Int) : I4 (w.setCell ⟨g, 1, none⟩ (.int .i64 x)) g t a x c d := heap_setCell_same w g 1 _ t _ h
theorem I4.set2 (h : I4 w g t a b c d) (x : Int) : I4 (w.setCell ⟨g, 2, none⟩ (.int .i64 x)) g t a b x d := heap_setCell_same w g 2 _ t _ h
theorem I4.set3 (h : I4 w g t a b c d) (x : Int) : I4 (w.setCell ⟨g, 3, none⟩ (.int .i64 x)) g t a b c x := heap_setCell_same w g 3 _ t _ h
end
theorem i4_new (w : World) (t : TypeId) (a b c d : Int) : I4 (w.alloc (.cells #[.int .i64 a, .int .i64 b, .int .i64 c, .int .i64 d] t)) w.heap.size t a b c d := heap_alloc_new _ _
/-- the reference's count -/
def rcV (c : Cnt) : Value := .agg #[.int .i64 (c.l : Int), .int .i64 (c.h : Int), .int .i64 (c.b : Int), .int .i64 (c.z : Int)]
theorem rcV_eq (c : Cnt) : rcV c = .agg #[.int .i64 (c.l : Int), .int .i64 (c.h : Int), .int .i64 (c.b : Int), .int .i64 (c.z : Int)] := rfl
theorem box116 (w : World) (c : Cnt) : ∃ V, V = w.alloc (.cells #[.int .i64 (c.l : Int), .int .i64 (c.h : Int), .int .i64 (c.b : Int), .int .i64 (c.z : Int)] 116) ∧ Below w.heap.size w V ∧ I4 V w.heap.size 116 c.l c.h c.b c.z :=
  ⟨_, rfl, bnew _ _, i4_new _ _ _ _ _ _⟩
theorem load116 {w : World} {g : Nat} {a b c d : Int} (h : I4 w g 116 a b c d) : (loadVar 116 ⟨g, 0, none⟩).run Try.prog w = .ok (.agg #[.int .i64 a, .int .i64 b, .int .i64 c, .int .i64 d]) w :=
  run_loadVar_row (P := Try.prog) w g 116 116 _ (0, 0) _ h Try.underlying116 rfl (by kernel_rfl)
theorem results_c116 {fn : Func} {p : Tmp} (h : fn.results = #[.cell p 116]) (tmps : Array Value) (w : World) (g : Nat) (a b c d : Int) (hp : tmps.getD p undef = .pointer (some ⟨g, 0, none⟩)) (hg : I4 w g 116 a b c d) :
    (results fn tmps).run Try.prog w = .ok (.agg #[.int .i64 a, .int .i64 b, .int .i64 c, .int .i64 d]) w := by
  rw [results_c1 h, hp]
  simp [asAddr, load116 hg, Result.andThen]
/-- where a count stands in the reference's table -/
def Cnt.ix (c : Cnt) : Nat := ((c.l * 13 + c.h) * 13 + c.b) * 2 + c.z
set_option maxRecDepth 100000 in
set_option maxHeartbeats 1000000 in
theorem rCases_98 (c : Cnt) (hc : c.small) (w : World) : Calls Try.prog 98 #[rcV c] w (TellI w (c.cases : Nat)) := by
  obtain ⟨h1, h2, h3, h4, h5⟩ := hc
  obtain ⟨V, hV, hB, hi⟩ := box116 w c
  have hE : ((c.cases : Nat) : Int) = ((c.l : Int) + c.h) + 2 * c.b + c.z := by unfold Cnt.cases; omega
  rw [hE]
  unfold rcV
  obtain ⟨x0, x1, x2, x3, x4⟩ := c
  simp only at *
  have c0 := hi.c0; have c1 := hi.c1; have c2 := hi.c2; have c3 := hi.c3
  have e1 : IntKind.i64.wrap ((x1 : Int) + (x2 : Int)) = (x1 : Int) + (x2 : Int) := wrap_i64_of (by omega) (by omega)
  have e2 : IntKind.i64.wrap (2 * (x3 : Int)) = 2 * (x3 : Int) := wrap_i64_of (by omega) (by omega)
  have e3 : IntKind.i64.wrap ((x1 : Int) + (x2 : Int) + 2 * (x3 : Int)) = (x1 : Int) + (x2 : Int) + 2 * (x3 : Int) := wrap_i64_of (by omega) (by omega)
  have e4 : IntKind.i64.wrap ((x1 : Int) + (x2 : Int) + 2 * (x3 : Int) + (x4 : Int)) = (x1 : Int) + (x2 : Int) + 2 * (x3 : Int) + (x4 : Int) := wrap_i64_of (by omega) (by omega)
  have HV := hid hV; have HB := hid hB
  clear hV hB hi h1 h2 h3 h4 h5 hE
  go_enter Try.func98, Try.ntmps98
  go_upto_region 1 with (fail)
  rw [← HV.out]
  go_wp2
  go_ret
  exact ⟨rfl, HB.out⟩
set_option maxRecDepth 100000 in
set_option maxHeartbeats 1000000 in
theorem rIndex_99 (c : Cnt) (hc : c.small) (w : World) : Calls Try.prog 99 #[rcV c] w (TellI w (c.ix : Nat)) := by
  obtain ⟨h1, h2, h3, h4, h5⟩ := hc
  obtain ⟨V, hV, hB, hi⟩ := box116 w c
  have hE : ((c.ix : Nat) : Int) = (((c.l : Int) * 13 + c.h) * 13 + c.b) * 2 + c.z := by unfold Cnt.ix; omega
  rw [hE]
  unfold rcV
  obtain ⟨x0, x1, x2, x3, x4⟩ := c
  simp only at *
  have c0 := hi.c0; have c1 := hi.c1; have c2 := hi.c2; have c3 := hi.c3
  have e1 : IntKind.i64.wrap ((x1 : Int) * 13) = (x1 : Int) * 13 := wrap_i64_of (by omega) (by omega)
  have e2 : IntKind.i64.wrap ((x1 : Int) * 13 + (x2 : Int)) = (x1 : Int) * 13 + (x2 : Int) := wrap_i64_of (by omega) (by omega)
  have e3 : IntKind.i64.wrap (((x1 : Int) * 13 + (x2 : Int)) * 13) = ((x1 : Int) * 13 + (x2 : Int)) * 13 := wrap_i64_of (by omega) (by omega)
  have e4 : IntKind.i64.wrap (((x1 : Int) * 13 + (x2 : Int)) * 13 + (x3 : Int)) = ((x1 : Int) * 13 + (x2 : Int)) * 13 + (x3 : Int) := wrap_i64_of (by omega) (by omega)
  have e5 : IntKind.i64.wrap ((((x1 : Int) * 13 + (x2 : Int)) * 13 + (x3 : Int)) * 2) = (((x1 : Int) * 13 + (x2 : Int)) * 13 + (x3 : Int)) * 2 := wrap_i64_of (by omega) (by omega)
  have e6 : IntKind.i64.wrap ((((x1 : Int) * 13 + (x2 : Int)) * 13 + (x3 : Int)) * 2 + (x4 : Int)) = (((x1 : Int) * 13 + (x2 : Int)) * 13 + (x3 : Int)) * 2 + (x4 : Int) := wrap_i64_of (by omega) (by omega)
  have HV := hid hV; have HB := hid hB
  clear hV hB hi h1 h2 h3 h4 h5 hE
  go_enter Try.func99, Try.ntmps99
  go_upto_region 1 with (fail)
  rw [← HV.out]
  go_wp2
  go_ret
  exact ⟨rfl, HB.out⟩
/-- a call that hands back a count of the reference -/
def RcC (w : World) (c : Cnt) (e : Ending) (w' : World) : Prop := e = .returned (rcV c) ∧ Below w.heap.size w w'
section
variable (ka : Option Addr) (kc : Nat) (K : Kn) (w : World)
set_option maxRecDepth 100000 in
set_option maxHeartbeats 2000000 in
theorem countOf_91 (hk : KnAt w ka K) (hn : K.cop.length ≤ 12) (hc : ∀ k, k < K.cop.length → 0 ≤ nth K.cop k ∧ nth K.cop k ≤ 3) : Calls Try.prog 91 #[.agg #[.slice ka K.cop.length kc, .bool K.none]] w (RcC w (cntOf K)) := by
  obtain ⟨V, hV, hB0, k0, k1⟩ := box1 w (.slice ka K.cop.length kc) (.bool K.none) 24
  have hkV := hk.mono hB0
  have HB0 := hid hB0; have HV := hid hV; have HV0 := hid (Below.refl V.heap.size V)
  have K0 := hid k0; have K1 := hid k1
  obtain ⟨X, hX, hBX, hr⟩ := box116 V ⟨0, 0, 0, 0, 0⟩
  obtain ⟨Y, hY, hBY, hq⟩ := box116 X ⟨0, 0, 0, 0, 0⟩
  have hXs : X.heap.size = V.heap.size + 1 := by rw [hX]; simp
  have hVs : V.heap.size = w.heap.size + 1 := by rw [hV]; simp
  simp only [Int.natCast_zero] at hX hY hr hq
  have hr := hr.mono hBY
  have hkY := hkV.mono (bstep hBX hBY)
  have k0 := cstep k0 (bstep hBX hBY); have k1 := cstep k1 (bstep hBX hBY)
  have K0 := hid k0; have K1 := hid k1
  have HkY := hid hkY
  have HX := hid hX; have HY := hid hY; have HB := hid (bstep hB0 (bstep hBX hBY)); have Hr := hid hr; have Hq := hid hq; have Hz := hid (And.intro hXs hVs)
  have Hn := hid hn; have Hc := hid hc; have Hk := hid hk
  unfold RcC rcV cntOf
  simp only
  obtain ⟨z, hz⟩ : ∃ z : Nat, z = if K.none = true then 1 else 0 := ⟨_, rfl⟩
  rw [← hz]
  obtain ⟨nn, hnn⟩ : ∃ b, b = K.none := ⟨_, rfl⟩
  rw [← hnn] at hz k1 K1 HV ⊢
  have Hz1 := hid hz
  clear hk hV hB0 hkV hX hBX hr hY hBY hq hXs hVs hkY hn hc hnn hz
  go_enter Try.func91, Try.ntmps91
  go_upto_region 2 with (fail)
  rw [← HV.out, ← HX.out, ← HY.out]
  obtain ⟨q, hqq⟩ : ∃ q, q = w.heap.size + 1 + 1 := ⟨_, rfl⟩
  have e1 : X.heap.size = q := by have := Hz.out; omega
  rw [e1] at Hq
  obtain ⟨r, hrr⟩ : ∃ r, r = w.heap.size + 1 := ⟨_, rfl⟩
  have e2 : V.heap.size = r := by have := Hz.out; omega
  rw [e2] at Hr
  rw [← hqq, ← hrr]
  have Hz := hid (show r = w.heap.size + 1 ∧ q = w.heap.size + 2 by omega)
  clear e1 e2 hqq hrr k0 k1
  go_wp2
  go_loopw [4, 17, 23, 29] (fun i _ _ _ wr => ∃ k : Nat, k ≤ K.cop.length ∧ i = .int .i64 k ∧ I4 wr q 116 ((K.cop.take k).count 1 : Nat) ((K.cop.take k).count 2 : Nat) ((K.cop.take k).count 3 : Nat) 0 ∧ Only (fun b => b = q) Y wr) (fun i _ _ _ _ => K.cop.length - (intOf i).toNat)
  case atStart => exact ⟨0, Nat.zero_le _, rfl, Hq.out, Only.refl _ _⟩
  case round =>
    obtain ⟨k, hk, rfl, hq, hO⟩ := hrel
    obtain ⟨wo, rfl⟩ : ∃ wo : World, wo = wr := ⟨_, rfl⟩
    have Hq2 := hid hq; have HO := hid hO
    have k0 : wo.cell? ⟨w.heap.size, 0, none⟩ = some (.slice ka K.cop.length kc) := hO.cell K0.out (show ¬ w.heap.size = q by have := Hz.out; omega)
    have k1 : wo.cell? ⟨w.heap.size, 1, none⟩ = some (.bool nn) := hO.cell K1.out (show ¬ w.heap.size = q by have := Hz.out; omega)
    have HBo := hid (HB.out.trans (hO.below HB.out.size (fun j hj e => by have e : j = q := e; have := Hz.out; omega)))
    have hko := hid (Hk.out.mono HBo.out)
    clear hq hO
    by_cases hlt : k < K.cop.length
    · have hI : (k : Int) < (K.cop.length : Int) := by omega
      obtain ⟨b, off, rfl, hcx⟩ := IntsAt.at hko.out hlt
      have hrg := Hc.out k hlt
      have e1 : IntKind.i64.wrap ((k : Int) + 1) = (k : Int) + 1 := wrap_i64_of (by omega) (by have := Hn.out; omega)
      have s1 := count_take hlt 1; have s2 := count_take hlt 2; have s3 := count_take hlt 3
      have l1 := List.count_le_length (a := (1 : Int)) (l := K.cop.take k)
      have l2 := List.count_le_length (a := (2 : Int)) (l := K.cop.take k); have l3 := List.count_le_length (a := (3 : Int)) (l := K.cop.take k)
      rw [List.length_take] at l1 l2 l3
      obtain ⟨a1, ha1⟩ : ∃ a, a = (K.cop.take k).count 1 := ⟨_, rfl⟩
      obtain ⟨a2, ha2⟩ : ∃ a, a = (K.cop.take k).count 2 := ⟨_, rfl⟩
      obtain ⟨a3, ha3⟩ : ∃ a, a = (K.cop.take k).count 3 := ⟨_, rfl⟩
      rw [← ha1] at s1 l1 Hq2
      rw [← ha2] at s2 l2 Hq2
      rw [← ha3] at s3 l3 Hq2
      obtain ⟨x, hx⟩ : ∃ x, x = nth K.cop k := ⟨_, rfl⟩
      rw [← hx] at hcx hrg s1 s2 s3
      have hn12 := Hn.out
      have g0 := Hq2.out.c0; have g1 := Hq2.out.c1; have g2 := Hq2.out.c2
      have f0 := Hq2.out.f 0; have f1 := Hq2.out.f 1; have f2 := Hq2.out.f 2
      clear ha1 ha2 ha3 hx
      rcases (show x = 0 ∨ x = 1 ∨ x = 2 ∨ x = 3 by omega) with rfl | rfl | rfl | rfl
      · simp only [Int.reduceEq, if_false, Nat.add_zero] at s1 s2 s3
        have Hfin := hid (show I4 wo q 116 ((K.cop.take (k + 1)).count 1 : Nat) ((K.cop.take (k + 1)).count 2 : Nat) ((K.cop.take (k + 1)).count 3 : Nat) 0 by
          rw [s1, s2, s3]
          exact Hq2.out)
        clear s1 s2 s3 hrg hn12 l1 l2 l3
        go_wp2
        go_roundw
        case rel => exact ⟨k + 1, hlt, by go_num, Hfin.out, HO.out⟩
        case measure => simp [intOf]; omega
      · have e2 : IntKind.i64.wrap ((a1 : Int) + 1) = (a1 : Int) + 1 := wrap_i64_of (by omega) (by omega)
        simp only [if_true, Int.reduceEq, if_false, Nat.add_zero] at s1 s2 s3
        have Hfin := hid (show I4 (wo.setCell ⟨q, 0, none⟩ (.int .i64 ((a1 : Int) + 1))) q 116 ((K.cop.take (k + 1)).count 1 : Nat) ((K.cop.take (k + 1)).count 2 : Nat) ((K.cop.take (k + 1)).count 3 : Nat) 0 by
          rw [s1, s2, s3]
          have := Hq2.out.set0 ((a1 : Int) + 1)
          simpa using this)
        clear s1 s2 s3 hrg hn12 l1 l2 l3
        go_wp2
        go_roundw
        case rel => exact ⟨k + 1, hlt, by go_num, Hfin.out, HO.out.setCell (p := ⟨q, 0, none⟩) rfl _⟩
        case measure => simp [intOf]; omega
      · have e2 : IntKind.i64.wrap ((a2 : Int) + 1) = (a2 : Int) + 1 := wrap_i64_of (by omega) (by omega)
        simp only [if_true, Int.reduceEq, if_false, Nat.add_zero] at s1 s2 s3
        have Hfin := hid (show I4 (wo.setCell ⟨q, 1, none⟩ (.int .i64 ((a2 : Int) + 1))) q 116 ((K.cop.take (k + 1)).count 1 : Nat) ((K.cop.take (k + 1)).count 2 : Nat) ((K.cop.take (k + 1)).count 3 : Nat) 0 by
          rw [s1, s2, s3]
          have := Hq2.out.set1 ((a2 : Int) + 1)
          simpa using this)
        clear s1 s2 s3 hrg hn12 l1 l2 l3
        go_wp2
        go_roundw
        case rel => exact ⟨k + 1, hlt, by go_num, Hfin.out, HO.out.setCell (p := ⟨q, 1, none⟩) rfl _⟩
        case measure => simp [intOf]; omega
      · have e2 : IntKind.i64.wrap ((a3 : Int) + 1) = (a3 : Int) + 1 := wrap_i64_of (by omega) (by omega)
        simp only [if_true, Int.reduceEq, if_false, Nat.add_zero] at s1 s2 s3
        have Hfin := hid (show I4 (wo.setCell ⟨q, 2, none⟩ (.int .i64 ((a3 : Int) + 1))) q 116 ((K.cop.take (k + 1)).count 1 : Nat) ((K.cop.take (k + 1)).count 2 : Nat) ((K.cop.take (k + 1)).count 3 : Nat) 0 by
          rw [s1, s2, s3]
          have := Hq2.out.set2 ((a3 : Int) + 1)
          simpa using this)
        clear s1 s2 s3 hrg hn12 l1 l2 l3
        go_wp2
        go_roundw
        case rel => exact ⟨k + 1, hlt, by go_num, Hfin.out, HO.out.setCell (p := ⟨q, 2, none⟩) rfl _⟩
        case measure => simp [intOf]; omega
    · have hI : ¬ (k : Int) < (K.cop.length : Int) := by omega
      obtain rfl : k = K.cop.length := by omega
      rw [List.take_length] at Hq2
      have hr2 : I4 wo r 116 0 0 0 0 := Hr.out.same (HO.out.block _ Hr.out.lt (by have := Hz.out; omega))
      have Hr2 := hid hr2
      have hqr : ¬ r = q := by have := Hz.out; omega
      have hrq : ¬ q = r := by have := Hz.out; omega
      have hwr : w.heap.size ≤ r := by have := Hz.out; omega
      have hwq : w.heap.size ≤ q := by have := Hz.out; omega
      obtain ⟨a1, ha1⟩ : ∃ a, a = K.cop.count 1 := ⟨_, rfl⟩
      obtain ⟨a2, ha2⟩ : ∃ a, a = K.cop.count 2 := ⟨_, rfl⟩
      obtain ⟨a3, ha3⟩ : ∃ a, a = K.cop.count 3 := ⟨_, rfl⟩
      rw [← ha1, ← ha2, ← ha3] at Hq2
      have Ha1 := hid ha1; have Ha2 := hid ha2; have Ha3 := hid ha3
      clear hr2 ha1 ha2 ha3
      cases nn with
      | true =>
        have Hz2 := hid (show z = 1 from Hz1.out)
        have f3q := Hq2.out.f 3; have g3q := Hq2.out.c3
        have Hq3 := hid (Hq2.out.set3 1)
        have Hr3 := hid (Hr2.out.other hqr 3 (.int .i64 1))
        have f0 := Hr3.out.f 0; have f1 := Hr3.out.f 1; have f2 := Hr3.out.f 2; have f3 := Hr3.out.f 3
        have r0 := Hr3.out.c0; have r1 := Hr3.out.c1; have r2 := Hr3.out.c2; have r3 := Hr3.out.c3
        have g0 := Hq3.out.c0; have g1 := Hq3.out.c1; have g2 := Hq3.out.c2; have g3 := Hq3.out.c3
        have HB3 := hid (HBo.out.setCell (p := ⟨q, 3, none⟩) hwq (.int .i64 1))
        go_wp2
        refine bodyPost_ret (results_c116 rfl _ _ r a1 a2 a3 1 rfl ((((Hr3.out.set0 _).set1 _).set2 _).set3 _)) rfl ?_
        refine ⟨by rw [← Ha1.out, ← Ha2.out, ← Ha3.out, Hz2.out]; rfl, ?_⟩
        exact (((HB3.out.setCell (p := ⟨r, 0, none⟩) hwr _).setCell (p := ⟨r, 1, none⟩) hwr _).setCell (p := ⟨r, 2, none⟩) hwr _).setCell (p := ⟨r, 3, none⟩) hwr _
      | false =>
        have Hz2 := hid (show z = 0 from Hz1.out)
        have f0 := Hr2.out.f 0; have f1 := Hr2.out.f 1; have f2 := Hr2.out.f 2; have f3 := Hr2.out.f 3
        have r0 := Hr2.out.c0; have r1 := Hr2.out.c1; have r2 := Hr2.out.c2; have r3 := Hr2.out.c3
        have g0 := Hq2.out.c0; have g1 := Hq2.out.c1; have g2 := Hq2.out.c2; have g3 := Hq2.out.c3
        go_wp2
        refine bodyPost_ret (results_c116 rfl _ _ r a1 a2 a3 0 rfl ((((Hr2.out.set0 _).set1 _).set2 _).set3 _)) rfl ?_
        refine ⟨by rw [← Ha1.out, ← Ha2.out, ← Ha3.out, Hz2.out]; rfl, ?_⟩
        exact (((HBo.out.setCell (p := ⟨r, 0, none⟩) hwr _).setCell (p := ⟨r, 1, none⟩) hwr _).setCell (p := ⟨r, 2, none⟩) hwr _).setCell (p := ⟨r, 3, none⟩) hwr _
end

end Go.Proofs.Ytelgbjfgmpkepaa

namespace Go.Proofs.Ytelgbjfgmpkepaa
open Go.RowKit Go.Shelf

/-- a number that is at most what each of the pans told of needs, and is reached -/
structure MinS (c : Cnt) (S : Pn → Prop) (v : Nat) : Prop where
  le : v ≤ 99
  all : ∀ p, Fits c p → S p → v ≤ aft 99 c p + 1
  is : v = 99 ∨ ∃ p, Fits c p ∧ v = aft 99 c p + 1
theorem MinS.start (c : Cnt) {S : Pn → Prop} (h : ∀ p, Fits c p → ¬ S p) : MinS c S 99 := ⟨Nat.le_refl _, fun p hf hs => absurd hs (h p hf), .inl rfl⟩
theorem MinS.to {c : Cnt} {S T : Pn → Prop} {v : Nat} (h : MinS c S v) (hT : ∀ p, Fits c p → T p → S p) : MinS c T v := ⟨h.le, fun p hf ht => h.all p hf (hT p hf ht), h.is⟩
theorem MinS.both {c : Cnt} {S T U : Pn → Prop} {v u : Nat} (h : MinS c S v) (k : MinS c T u) (hU : ∀ p, Fits c p → U p → S p ∨ T p) : MinS c U (min v u) := by
  refine ⟨by have := h.le; omega, fun p hf hu => ?_, ?_⟩
  · rcases hU p hf hu with hs | ht
    · have := h.all p hf hs; omega
    · have := k.all p hf ht; omega
  · rcases Nat.le_total v u with hl | hl
    · rw [Nat.min_eq_left hl]; exact h.is
    · rw [Nat.min_eq_right hl]; exact k.is
theorem MinS.end {c : Cnt} {v : Nat} (h : MinS c (fun _ => True) v) (h1 : 1 < c.cases) : v = nd 99 c := by
  rw [nd_eqS 99 (by omega), if_neg (by omega)]
  refine (minL_eq h.le (fun x hx => ?_) ?_).symm
  · obtain ⟨p, hp, rfl⟩ := List.mem_map.1 hx
    exact h.all p (mem_splitsS.1 hp) trivial
  · rcases h.is with h | ⟨p, hp, h⟩
    · exact .inl h
    · exact .inr (List.mem_map.2 ⟨p, mem_splitsS.2 hp, h.symm⟩)
/-- the three results of pans -/
def res3 (c : Cnt) (p : Pn) : Nat → Cnt
  | 0 => resL c p
  | 1 => resR c p
  | _ => resE c p
/-- the most that the first k results need, as the reference reckons it -/
def rmN (c : Cnt) (p : Pn) : Nat → Nat
  | 0 => 0
  | k + 1 => if (res3 c p k).cases = c.cases then 99 else if (res3 c p k).cases = 0 then rmN c p k else max (rmN c p k) (nd 99 (res3 c p k) + 1)
theorem rmN_spec {c : Cnt} {p : Pn} (hf : Fits c p) (h0 : 0 < c.cases) : rmN c p 1 ≤ aft 99 c p + 1 ∧ rmN c p 2 ≤ aft 99 c p + 1 ∧ rmN c p 3 ≤ aft 99 c p + 1 ∧ min 99 (rmN c p 3) = min 99 (aft 99 c p + 1) := by
  have hs := res_cases hf
  have e : aft 99 c p = max (max (val 99 (nd 99) c (resL c p)) (val 99 (nd 99) c (resR c p))) (val 99 (nd 99) c (resE c p)) := rfl
  have n1 := nd_le 99 (resL c p); have n2 := nd_le 99 (resR c p); have n3 := nd_le 99 (resE c p)
  rw [e]
  unfold rmN rmN rmN rmN res3 val
  generalize nd 99 (resL c p) = a at *
  generalize nd 99 (resR c p) = b at *
  generalize nd 99 (resE c p) = d at *
  generalize (resL c p).cases = x at *
  generalize (resR c p).cases = y at *
  generalize (resE c p).cases = z at *
  generalize c.cases = t at *
  refine ⟨?_, ?_, ?_, ?_⟩ <;> (repeat' split) <;> omega
/-- the least goes on with one more -/
theorem MinS.more {c : Cnt} {S T : Pn → Prop} {v k : Nat} {p : Pn} (h : MinS c S v) (hf : Fits c p) (h0 : 0 < c.cases) (hk : k ≤ 3) (hst : k = 3 ∨ v ≤ rmN c p k) (hT : ∀ q, Fits c q → T q → S q ∨ q = p) : MinS c T (min v (rmN c p k)) := by
  obtain ⟨r1, r2, r3, r4⟩ := rmN_spec hf h0
  have hle := h.le
  by_cases hv : v ≤ rmN c p k
  · rw [Nat.min_eq_left hv]
    refine ⟨hle, fun q hq ht => ?_, h.is⟩
    rcases hT q hq ht with hs | rfl
    · exact h.all q hq hs
    · rcases (show k = 0 ∨ k = 1 ∨ k = 2 ∨ k = 3 by omega) with rfl | rfl | rfl | rfl
      · have : rmN c q 0 = 0 := rfl
        omega
      · omega
      · omega
      · omega
  · have hk3 : k = 3 := hst.resolve_right hv
    subst hk3
    have e : min v (rmN c p 3) = min v (aft 99 c p + 1) := by omega
    rw [e]
    refine ⟨by omega, fun q hq ht => ?_, ?_⟩
    · rcases hT q hq ht with hs | rfl
      · have := h.all q hq hs; omega
      · omega
    · exact .inr ⟨p, hf, by omega⟩

end Go.Proofs.Ytelgbjfgmpkepaa

namespace Go.Proofs.Ytelgbjfgmpkepaa
open Go.RowKit Go.Shelf

/-- the reference's table holds what is needed, of so many coppers -/
def TabAt (w : World) (tb n : Nat) : Prop := ∃ xs t, w.heap[tb]? = some (.cells xs t (0, 0)) ∧ ∀ q : Cnt, q.fine → q.g + q.l + q.h + q.b = n → ∃ v : Nat, xs[q.ix]? = some (.int .i64 (v : Int)) ∧ (v = 0 ∨ v = nd 99 q + 1)
theorem TabAt.lt {w : World} {tb n : Nat} (h : TabAt w tb n) : tb < w.heap.size := by obtain ⟨xs, t, h, _⟩ := h; exact (Array.getElem?_eq_some_iff.1 h).1
theorem TabAt.same {w w' : World} {tb n : Nat} (h : TabAt w tb n) (e : w'.heap[tb]? = w.heap[tb]?) : TabAt w' tb n := by
  obtain ⟨xs, t, h, k⟩ := h
  exact ⟨xs, t, e.trans h, k⟩
theorem TabAt.mono {w w' : World} {tb n : Nat} (h : TabAt w tb n) (hB : Below w.heap.size w w') : TabAt w' tb n := h.same (hB.block _ h.lt)
theorem TabAt.get {w : World} {tb n : Nat} (h : TabAt w tb n) {q : Cnt} (hq : q.fine) (hn : q.g + q.l + q.h + q.b = n) :
    ∃ v : Nat, w.cell? ⟨tb, q.ix, none⟩ = some (.int .i64 (v : Int)) ∧ w.frozen? ⟨tb, q.ix, none⟩ = false ∧ (v = 0 ∨ v = nd 99 q + 1) := by
  obtain ⟨xs, t, h, k⟩ := h
  obtain ⟨v, h1, h2⟩ := k q hq hn
  exact ⟨v, by rw [cell_of_row _ _ _ _ _ _ h]; exact h1, frozen_of_row _ _ _ _ _ h, h2⟩
theorem ix_inj {q r : Cnt} (hq : q.fine) (hr : r.fine) (hn : q.g + q.l + q.h + q.b = r.g + r.l + r.h + r.b) (h : q.ix = r.ix) : q = r := by
  obtain ⟨a, b, c, d, e⟩ := q
  obtain ⟨a', b', c', d', e'⟩ := r
  unfold Cnt.ix at h
  unfold Cnt.fine at hq hr
  simp only at *
  have h5 : e = e' := by omega
  have h4 : (b * 13 + c) * 13 + d = (b' * 13 + c') * 13 + d' := by omega
  have h3 : d = d' := by omega
  have h2 : b * 13 + c = b' * 13 + c' := by omega
  have h1 : c = c' := by omega
  have h0 : b = b' := by omega
  simp only [Cnt.mk.injEq]
  omega
theorem TabAt.put {w : World} {tb n : Nat} (h : TabAt w tb n) {q : Cnt} (hq : q.fine) (hn : q.g + q.l + q.h + q.b = n) (x : Int) (hx : x = ((nd 99 q + 1 : Nat) : Int)) : TabAt (w.setCell ⟨tb, q.ix, none⟩ (.int .i64 x)) tb n := by
  obtain ⟨xs, t, h, k⟩ := h
  refine ⟨_, t, heap_setCell_same w tb q.ix xs t _ h, fun r hr hrn => ?_⟩
  by_cases e : r.ix = q.ix
  · obtain rfl := ix_inj hr hq (hrn.trans hn.symm) e
    obtain ⟨v, h1, _⟩ := k r hr hrn
    refine ⟨nd 99 r + 1, ?_, .inr rfl⟩
    rw [hx]
    have := (Array.getElem?_eq_some_iff.1 h1).1
    simp [this]
  · obtain ⟨v, h1, h2⟩ := k r hr hrn
    refine ⟨v, ?_, h2⟩
    rw [Array.getElem?_setIfInBounds_ne (fun e2 => e e2.symm)]
    exact h1
/-- a call of the reference that may fill the table -/
def NumT (tb n : Nat) (w : World) (v : Nat) (e : Ending) (w' : World) : Prop := e = .returned (.int .i64 (v : Int)) ∧ TabAt w' tb n ∧ Only (fun q => q = tb) w w'
def NeedR (N : Nat) : Prop := ∀ (c : Cnt) (n tb : Nat) (w : World), c.fine → c.g + c.l + c.h + c.b = n → 0 < c.cases → c.cases < N → TabAt w tb n → Calls Try.prog 90 #[.slice (some ⟨tb, 0, none⟩) 4394 4394, .int .i64 (n : Int), rcV c] w (NumT tb n w (nd 99 c))
theorem kept_sum {c : Cnt} {n l h b z : Nat} (hn : c.g + c.l + c.h + c.b = n) (hs : l + h + b ≤ n) : (c.kept l h b z).g + (c.kept l h b z).l + (c.kept l h b z).h + (c.kept l h b z).b = n := by
  unfold Cnt.kept
  simp only
  omega
/-- pans of which the first two kinds are told -/
def Pan4 (a1 b1 a2 b2 : Nat) (p : Pn) : Prop := p.a1 = a1 ∧ p.b1 = b1 ∧ p.a2 = a2 ∧ p.b2 = b2
def BothC (c : Cnt) (tb n a1 b1 a2 b2 : Nat) (w : World) (e : Ending) (w' : World) : Prop := ∃ v : Nat, e = .returned (.int .i64 (v : Int)) ∧ MinS c (Pan4 a1 b1 a2 b2) v ∧ TabAt w' tb n ∧ Only (fun q => q = tb) w w'
section
variable (c : Cnt) (tb n a1 b1 a2 b2 : Nat) (w : World)
set_option maxRecDepth 100000 in
set_option maxHeartbeats 4000000 in
theorem both_100 (hc : c.fine) (hn : c.g + c.l + c.h + c.b = n) (h1 : 1 < c.cases) (hl : a1 + b1 ≤ c.l) (hh : a2 + b2 ≤ c.h) (IH : NeedR c.cases) (hT : TabAt w tb n) :
    Calls Try.prog 100 #[.slice (some ⟨tb, 0, none⟩) 4394 4394, .int .i64 (n : Int), rcV c, .agg #[.int .i64 (a1 : Int), .int .i64 (a2 : Int), .int .i64 0, .int .i64 0], .agg #[.int .i64 (b1 : Int), .int .i64 (b2 : Int), .int .i64 0, .int .i64 0]] w (BothC c tb n a1 b1 a2 b2 w) := by
  obtain ⟨X, hX, hBX, hx⟩ := box116 w c
  obtain ⟨Y, hY, hBY, hy⟩ : ∃ Y, Y = X.alloc (.cells #[.int .i64 (a1 : Int), .int .i64 (a2 : Int), .int .i64 0, .int .i64 0] 116) ∧ Below X.heap.size X Y ∧ I4 Y X.heap.size 116 a1 a2 0 0 := ⟨_, rfl, bnew _ _, i4_new _ _ _ _ _ _⟩
  obtain ⟨V, hV, hBV, hv⟩ : ∃ V, V = Y.alloc (.cells #[.int .i64 (b1 : Int), .int .i64 (b2 : Int), .int .i64 0, .int .i64 0] 116) ∧ Below Y.heap.size Y V ∧ I4 V Y.heap.size 116 b1 b2 0 0 := ⟨_, rfl, bnew _ _, i4_new _ _ _ _ _ _⟩
  have zX : X.heap.size = w.heap.size + 1 := by rw [hX]; simp
  have zY : Y.heap.size = w.heap.size + 1 + 1 := by rw [hY]; simp [zX]
  have hxV := hx.mono (bstep hBY hBV)
  have hyV := hy.mono hBV
  rw [zX] at hyV
  rw [zY] at hv
  have HX := hid hX; have HY := hid hY; have HV := hid hV; have HB := hid (bstep hBX (bstep hBY hBV))
  have HTV := hid (hT.mono HB.out)
  have Hg := hid hc; have Hn := hid hn; have Hl := hid hl; have Hh := hid hh; have Hc1 := hid h1; have HIH := hid IH
  have hcf := hc; unfold Cnt.fine at hcf
  have Hcf := hid hcf
  have Htb := hid hT.lt
  obtain ⟨qa, hqa⟩ : ∃ q, q = w.heap.size + 1 + 1 := ⟨_, rfl⟩
  rw [← hqa] at hv
  obtain ⟨qb, hqb⟩ : ∃ q, q = w.heap.size + 1 := ⟨_, rfl⟩
  rw [← hqb] at hyV
  have Hq := hid (show qb = w.heap.size + 1 ∧ qa = w.heap.size + 2 by omega)
  have Hc := hid hxV; have Hy := hid hyV; have Hz := hid hv
  have c0 := hxV.c0; have c1 := hxV.c1; have c2 := hxV.c2; have c3 := hxV.c3
  have Hcas := hid fun (x : Cnt) (hx : x.small) (w' : World) => rCases_98 x hx w'
  unfold TellI at Hcas
  unfold rcV at Hcas ⊢
  obtain ⟨m1, hm1⟩ : ∃ m : Nat, m = n - c.l := ⟨_, rfl⟩
  obtain ⟨m2, hm2⟩ : ∃ m : Nat, m = m1 - c.h := ⟨_, rfl⟩
  have e1 : IntKind.i64.wrap ((n : Int) - (c.l : Int)) = (m1 : Int) := by rw [wrap_i64_of (by omega) (by omega)]; omega
  have e2 : IntKind.i64.wrap ((m1 : Int) - (c.h : Int)) = (m2 : Int) := by rw [wrap_i64_of (by omega) (by omega)]; omega
  have e3 : IntKind.i64.wrap ((m2 : Int) - (c.b : Int)) = (c.g : Int) := by rw [wrap_i64_of (by omega) (by omega)]; omega
  clear hX hBX hY hBY hV hBV zX zY hx hy hxV hyV hv hT hc hn h1 hl hh IH hcf hm1 hm2
  unfold BothC
  go_enter Try.func100, Try.ntmps100
  go_upto_region 1 with (fail)
  rw [← HX.out, ← HY.out, ← HV.out, ← hqa, ← hqb]
  clear hqa hqb
  go_wp2
  go_loopw [12, 13, 14, 15, 16, 17, 18, 19] (fun best a _ _ _ _ _ _ wr => ∃ k v : Nat, k ≤ c.b + 1 ∧ a = .int .i64 (k : Int) ∧ best = .int .i64 (v : Int) ∧ MinS c (fun p => Pan4 a1 b1 a2 b2 p ∧ p.a3 < k) v ∧ TabAt wr tb n ∧ Only (fun q => q = tb) V wr) (fun _ a _ _ _ _ _ _ _ => c.b + 1 - (intOf a).toNat)
  case atStart => exact ⟨0, 99, Nat.zero_le _, rfl, rfl, MinS.start c (fun p _ h => by omega), HTV.out, Only.refl _ _⟩
  case round =>
    obtain ⟨k, v, hk, rfl, rfl, hM, hTr, hO⟩ := hrel
    obtain ⟨wo, rfl⟩ : ∃ wo : World, wo = wr := ⟨_, rfl⟩
    have hcO : I4 wo w.heap.size 116 c.l c.h c.b c.z := Hc.out.same (hO.block _ Hc.out.lt (by have := Htb.out; omega))
    have c2 := hcO.c2
    have HM := hid hM; have HTr := hid hTr; have HO := hid hO
    clear hM hTr hO hcO
    by_cases hkc : k = c.b + 1
    · have hI : ¬ (k : Int) ≤ (c.b : Int) := by omega
      have hfin := hid (HM.out.to (T := Pan4 a1 b1 a2 b2) fun p hf hp => ⟨hp, by have := hf.k3; omega⟩)
      have hOw := hid ((Only.of_below HB.out).trans HO.out)
      clear hkc hk
      go_wp2
      go_ret
      exact ⟨v, rfl, hfin.out, HTr.out, hOw.out⟩
    · have hI : (k : Int) ≤ (c.b : Int) := by omega
      have ek : IntKind.i64.wrap ((k : Int) + 1) = (k : Int) + 1 := wrap_i64_of (by omega) (by have := Hcf.out; omega)
      have Hk := hid (show k ≤ c.b by omega)
      clear hk hkc
      go_wp2
      go_loopw [12, 14, 15, 16, 17, 18, 19] (fun best b _ _ _ _ _ wr => ∃ j u : Nat, k + j ≤ c.b + 1 ∧ b = .int .i64 (j : Int) ∧ best = .int .i64 (u : Int) ∧ MinS c (fun p => Pan4 a1 b1 a2 b2 p ∧ (p.a3 < k ∨ p.a3 = k ∧ p.b3 < j)) u ∧ TabAt wr tb n ∧ Only (fun q => q = tb) V wr) (fun _ b _ _ _ _ _ _ => c.b + 1 - k - (intOf b).toNat)
      case atStart => exact ⟨0, v, by have := Hk.out; omega, rfl, rfl, HM.out.to (fun p _ h => ⟨h.1, by have := h.2; omega⟩), HTr.out, HO.out⟩
      case round =>
        obtain ⟨j, u, hj, rfl, rfl, hM, hTr, hO⟩ := hrel
        obtain ⟨w3, rfl⟩ : ∃ wo : World, wo = wr := ⟨_, rfl⟩
        have hcO : I4 w3 w.heap.size 116 c.l c.h c.b c.z := Hc.out.same (hO.block _ Hc.out.lt (by have := Htb.out; omega))
        have hyO : I4 w3 qb 116 a1 a2 0 0 := Hy.out.same (hO.block _ Hy.out.lt (by have := Htb.out; have := Hq.out; omega))
        have hzO : I4 w3 qa 116 b1 b2 0 0 := Hz.out.same (hO.block _ Hz.out.lt (by have := Htb.out; have := Hq.out; omega))
        have c2 := hcO.c2
        have HM := hid hM; have HTr := hid hTr; have HO := hid hO; have HcO := hid hcO; have HyO := hid hyO; have HzO := hid hzO
        clear hM hTr hO hcO hyO hzO
        have hcf := Hcf.out
        have hkk := Hk.out
        have es : IntKind.i64.wrap ((k : Int) + (j : Int)) = (k : Int) + (j : Int) := wrap_i64_of (by omega) (by omega)
        by_cases hjc : k + j = c.b + 1
        · have hI2 : ¬ (k : Int) + (j : Int) ≤ (c.b : Int) := by omega
          have hfin := hid (HM.out.to (T := fun p => Pan4 a1 b1 a2 b2 p ∧ p.a3 < k + 1) fun p hf hp => ⟨hp.1, by have := hf.k3; have := hp.2; omega⟩)
          clear hjc hj hcf hkk
          go_wp2
          go_roundw
          case rel => exact ⟨k + 1, u, by have := Hk.out; omega, by go_num, rfl, hfin.out, HTr.out, HO.out⟩
          case measure => simp [intOf]; have := Hk.out; omega
        · have hI2 : (k : Int) + (j : Int) ≤ (c.b : Int) := by omega
          have ej : IntKind.i64.wrap ((j : Int) + 1) = (j : Int) + 1 := wrap_i64_of (by omega) (by omega)
          have hl := Hl.out; have hh := Hh.out
          obtain ⟨s1, hs1⟩ : ∃ s : Nat, s = a1 + a2 := ⟨_, rfl⟩
          obtain ⟨s2, hs2⟩ : ∃ s : Nat, s = b1 + b2 := ⟨_, rfl⟩
          obtain ⟨L, hL⟩ : ∃ s : Nat, s = s1 + k := ⟨_, rfl⟩
          obtain ⟨R, hR⟩ : ∃ s : Nat, s = s2 + j := ⟨_, rfl⟩
          have t1 : IntKind.i64.wrap ((a1 : Int) + (a2 : Int)) = (s1 : Int) := by rw [wrap_i64_of (by omega) (by omega)]; omega
          have t2 : IntKind.i64.wrap ((b1 : Int) + (b2 : Int)) = (s2 : Int) := by rw [wrap_i64_of (by omega) (by omega)]; omega
          have t3 : IntKind.i64.wrap ((s1 : Int) + (k : Int)) = (L : Int) := by rw [wrap_i64_of (by omega) (by omega)]; omega
          have t4 : IntKind.i64.wrap ((s2 : Int) + (j : Int)) = (R : Int) := by rw [wrap_i64_of (by omega) (by omega)]; omega
          have t5 : IntKind.i64.wrap ((L : Int) - (R : Int)) = (L : Int) - (R : Int) := wrap_i64_of (by omega) (by omega)
          have Hj := hid (show k + j ≤ c.b by omega)
          have j2 := fun s : Later w3 => cstep c2 s.h
          have y0 := fun s : Later w3 => cstep HyO.out.c0 s.h; have y1 := fun s : Later w3 => cstep HyO.out.c1 s.h
          have z0 := fun s : Later w3 => cstep HzO.out.c0 s.h; have z1 := fun s : Later w3 => cstep HzO.out.c1 s.h
          have Hskip := hid fun (h : L < R ∨ R + c.g < L) => HM.out.to (T := fun p => Pan4 a1 b1 a2 b2 p ∧ (p.a3 < k ∨ p.a3 = k ∧ p.b3 < j + 1)) fun p hf hp => ⟨hp.1, by
            obtain ⟨⟨q1, q2, q3, q4⟩, hp⟩ := hp
            have g1 := hf.ge; have g2 := hf.go
            unfold Pn.left Pn.right at g1 g2
            omega⟩
          have HLR := hid (show L = a1 + a2 + k ∧ R = b1 + b2 + j by omega)
          clear hj hjc hcf hkk hl hh hs1 hs2 hL hR
          go_upto_region 9 with (fail)
          refine wp_region_later (by kernel_rfl) (by kernel_rfl) ?_
          repeat (go_big_quiet_step (fail))
          refine wpQuiet_nil ?_
          rintro w4 ⟨s4, rfl⟩
          have HT4 := hid (HTr.out.mono s4.h); have HO4 := hid (HO.out.trans (Only.of_below s4.h))
          have Hc4 := hid (HcO.out.mono s4.h); have Hy4 := hid (HyO.out.mono s4.h); have Hz4 := hid (HzO.out.mono s4.h)
          clear y0 y1 z0 z1 j2 c2
          obtain ⟨w4, _⟩ := s4
          simp only at HT4 HO4 Hc4 Hy4 Hz4 ⊢
          by_cases hLR : L < R
          · have b4 : (L : Int) < (R : Int) := by omega
            have hfin := hid (Hskip.out (.inl hLR))
            clear hLR
            go_wp2
            go_roundw
            case rel => exact ⟨j + 1, u, by have := Hj.out; omega, by go_num, rfl, hfin.out, HT4.out, HO4.out⟩
            case measure => simp [intOf]; have := Hj.out; omega
          · have b4 : ¬ (L : Int) < (R : Int) := by omega
            by_cases hLg : R + c.g < L
            · have b5 : (c.g : Int) < (L : Int) - (R : Int) := by omega
              have hfin := hid (Hskip.out (.inr hLg))
              clear hLR hLg
              go_wp2
              go_roundw
              case rel => exact ⟨j + 1, u, by have := Hj.out; omega, by go_num, rfl, hfin.out, HT4.out, HO4.out⟩
              case measure => simp [intOf]; have := Hj.out; omega
            · have b5 : ¬ (c.g : Int) < (L : Int) - (R : Int) := by omega
              have hF : Fits c ⟨a1, b1, a2, b2, k, j⟩ := ⟨Hl.out, Hh.out, Hj.out, by unfold Pn.left Pn.right; simp only; have := HLR.out; omega, by unfold Pn.left Pn.right; simp only; have := HLR.out; omega⟩
              have HF := hid hF
              have Hle := hid HM.out.le
              obtain ⟨rf1, rf2, rf3⟩ := res_fine Hg.out hF
              have rc := res_cases hF
              have rs : ∀ i, (res3 c ⟨a1, b1, a2, b2, k, j⟩ i).fine ∧ (res3 c ⟨a1, b1, a2, b2, k, j⟩ i).g + (res3 c ⟨a1, b1, a2, b2, k, j⟩ i).l + (res3 c ⟨a1, b1, a2, b2, k, j⟩ i).h + (res3 c ⟨a1, b1, a2, b2, k, j⟩ i).b = n ∧ (res3 c ⟨a1, b1, a2, b2, k, j⟩ i).cases ≤ c.cases := by
                have hl := Hl.out; have hh := Hh.out; have hjj := Hj.out; have hcf := Hcf.out; have hnn := Hn.out
                intro i
                match i with
                | 0 => exact ⟨rf1, kept_sum hnn (by simp only; omega), (show (resL c ⟨a1, b1, a2, b2, k, j⟩).cases ≤ c.cases by omega)⟩
                | 1 => exact ⟨rf2, kept_sum hnn (by simp only; omega), (show (resR c ⟨a1, b1, a2, b2, k, j⟩).cases ≤ c.cases by omega)⟩
                | i + 2 => exact ⟨rf3, kept_sum hnn (by simp only; omega), (show (resE c ⟨a1, b1, a2, b2, k, j⟩).cases ≤ c.cases by omega)⟩
              have Hrs := hid rs
              have Hrm := hid fun (i : Nat) (hi : i ≤ 3) (hs : i = 3 ∨ u ≤ rmN c ⟨a1, b1, a2, b2, k, j⟩ i) => MinS.more (T := fun p => Pan4 a1 b1 a2 b2 p ∧ (p.a3 < k ∨ p.a3 = k ∧ p.b3 < j + 1)) HM.out hF (by have := Hc1.out; omega) hi hs (fun q hq hT => by
                obtain ⟨⟨q1, q2, q3, q4⟩, hp⟩ := hT
                by_cases he : q.a3 = k ∧ q.b3 = j
                · right
                  obtain ⟨x1, x2, x3, x4, x5, x6⟩ := q
                  simp only at *
                  obtain ⟨rfl, rfl⟩ := he
                  subst q1 q2 q3 q4
                  rfl
                · exact .inl ⟨⟨q1, q2, q3, q4⟩, by omega⟩)
              obtain ⟨rb, hrb⟩ : ∃ r, r = w4.heap.size := ⟨_, rfl⟩
              have hl := Hl.out; have hh := Hh.out; have hjj := Hj.out; have hcf := Hcf.out
              obtain ⟨l1, hl1⟩ : ∃ n, n = b1 + j := ⟨_, rfl⟩
              obtain ⟨h1, hh1⟩ : ∃ n, n = a2 + k := ⟨_, rfl⟩
              obtain ⟨l2, hl2⟩ : ∃ n, n = a1 + k := ⟨_, rfl⟩
              obtain ⟨h2, hh2⟩ : ∃ n, n = b2 + j := ⟨_, rfl⟩
              obtain ⟨m3, hm3⟩ : ∃ n, n = c.l - a1 := ⟨_, rfl⟩
              obtain ⟨m4, hm4⟩ : ∃ n, n = c.h - a2 := ⟨_, rfl⟩
              obtain ⟨m5, hm5⟩ : ∃ n, n = c.b - k := ⟨_, rfl⟩
              obtain ⟨l3, hl3⟩ : ∃ n, n = m3 - b1 := ⟨_, rfl⟩
              obtain ⟨h3, hh3⟩ : ∃ n, n = m4 - b2 := ⟨_, rfl⟩
              obtain ⟨b3, hb3⟩ : ∃ n, n = m5 - j := ⟨_, rfl⟩
              have t1 : IntKind.i64.wrap ((b1 : Int) + (j : Int)) = (l1 : Int) := by rw [wrap_i64_of (by omega) (by omega)]; omega
              have t2 : IntKind.i64.wrap ((a2 : Int) + (k : Int)) = (h1 : Int) := by rw [wrap_i64_of (by omega) (by omega)]; omega
              have t3 : IntKind.i64.wrap ((a1 : Int) + (k : Int)) = (l2 : Int) := by rw [wrap_i64_of (by omega) (by omega)]; omega
              have t4 : IntKind.i64.wrap ((b2 : Int) + (j : Int)) = (h2 : Int) := by rw [wrap_i64_of (by omega) (by omega)]; omega
              have t6 : IntKind.i64.wrap ((c.l : Int) - (a1 : Int)) = (m3 : Int) := by rw [wrap_i64_of (by omega) (by omega)]; omega
              have t7 : IntKind.i64.wrap ((m3 : Int) - (b1 : Int)) = (l3 : Int) := by rw [wrap_i64_of (by omega) (by omega)]; omega
              have t8 : IntKind.i64.wrap ((c.h : Int) - (a2 : Int)) = (m4 : Int) := by rw [wrap_i64_of (by omega) (by omega)]; omega
              have t9 : IntKind.i64.wrap ((m4 : Int) - (b2 : Int)) = (h3 : Int) := by rw [wrap_i64_of (by omega) (by omega)]; omega
              have ta : IntKind.i64.wrap ((c.b : Int) - (k : Int)) = (m5 : Int) := by rw [wrap_i64_of (by omega) (by omega)]; omega
              have tb' : IntKind.i64.wrap ((m5 : Int) - (j : Int)) = (b3 : Int) := by rw [wrap_i64_of (by omega) (by omega)]; omega
              obtain ⟨w5, hw5⟩ : ∃ w5, w5 = w4.alloc (.cells #[.int .i64 (l1 : Int), .int .i64 (h1 : Int), .int .i64 0, .int .i64 0, .int .i64 (l2 : Int), .int .i64 (h2 : Int), .int .i64 0, .int .i64 0, .int .i64 (l3 : Int), .int .i64 (h3 : Int), .int .i64 (b3 : Int), .int .i64 (c.z : Int)] 116) := ⟨_, rfl⟩
              have hB5 : Below w4.heap.size w4 w5 := by rw [hw5]; exact bnew _ _
              have hrow : w5.heap[rb]? = some (.cells #[.int .i64 (l1 : Int), .int .i64 (h1 : Int), .int .i64 0, .int .i64 0, .int .i64 (l2 : Int), .int .i64 (h2 : Int), .int .i64 0, .int .i64 0, .int .i64 (l3 : Int), .int .i64 (h3 : Int), .int .i64 (b3 : Int), .int .i64 (c.z : Int)] 116 (0, 0)) := by rw [hw5, hrb]; exact heap_alloc_new _ _
              have hcells : ∀ i, i < 3 → w5.cell? ⟨rb, i * 4, none⟩ = some (.int .i64 ((res3 c ⟨a1, b1, a2, b2, k, j⟩ i).l : Int)) ∧ w5.cell? ⟨rb, i * 4 + 1, none⟩ = some (.int .i64 ((res3 c ⟨a1, b1, a2, b2, k, j⟩ i).h : Int)) ∧ w5.cell? ⟨rb, i * 4 + 2, none⟩ = some (.int .i64 ((res3 c ⟨a1, b1, a2, b2, k, j⟩ i).b : Int)) ∧ w5.cell? ⟨rb, i * 4 + 3, none⟩ = some (.int .i64 ((res3 c ⟨a1, b1, a2, b2, k, j⟩ i).z : Int)) := by
                intro i hi
                rw [cell_of_row _ _ _ _ _ _ hrow, cell_of_row _ _ _ _ _ _ hrow, cell_of_row _ _ _ _ _ _ hrow, cell_of_row _ _ _ _ _ _ hrow]
                subst hl1 hh1 hl2 hh2 hl3 hh3 hb3 hm3 hm4 hm5
                rcases (show i = 0 ∨ i = 1 ∨ i = 2 by omega) with rfl | rfl | rfl <;> exact ⟨rfl, rfl, rfl, rfl⟩
              have Hw5 := hid hw5; have Hcells := hid hcells; have Hrb := hid hrb
              have HT5 := hid (HT4.out.mono hB5); have HO5 := hid (HO4.out.trans (Only.of_below hB5)); have Hc5 := hid (Hc4.out.mono hB5); have Hrlt := hid (Array.getElem?_eq_some_iff.1 hrow).1
              have Htbr := hid (show tb < rb by have := HT4.out.lt; omega)
              have c0 := Hc4.out.c0; have c1 := Hc4.out.c1; have c2 := Hc4.out.c2; have c3 := Hc4.out.c3
              have y0 := Hy4.out.c0; have y1 := Hy4.out.c1; have z0 := Hz4.out.c0; have z1 := Hz4.out.c1
              clear hLR hLg hF rf1 rf2 rf3 rc rs hw5 hB5 hrow hcells hl hh hjj hcf hl1 hh1 hl2 hh2 hl3 hh3 hb3 hm3 hm4 hm5
              go_upto_region 12 with (fail)
              rw [← Hw5.out, ← hrb]
              clear hrb c0 c1 c2 c3 y0 y1 z0 z1 t1 t2 t3 t4 t6 t7 t8 t9 ta tb'
              obtain ⟨p, hp⟩ : ∃ p : Pn, p = ⟨a1, b1, a2, b2, k, j⟩ := ⟨_, rfl⟩
              rw [← hp] at Hrm Hrs Hcells
              clear hp
              go_wp2
              go_loopw [18, 19] (fun mo ki wr => ∃ i : Nat, i ≤ 3 ∧ ki = .int .i64 (i : Int) ∧ mo = .int .i64 ((rmN c p i : Nat) : Int) ∧ TabAt wr tb n ∧ Only (fun q => q = tb) w5 wr) (fun _ ki _ => 3 - (intOf ki).toNat)
              case atStart => exact ⟨0, by omega, rfl, rfl, HT5.out, Only.refl _ _⟩
              case round =>
                obtain ⟨i, hi, rfl, rfl, hTr, hO⟩ := hrel
                obtain ⟨w6, rfl⟩ : ∃ wo : World, wo = wr := ⟨_, rfl⟩
                have HT6 := hid hTr; have HO6 := hid hO; have HO65 := hid (HO5.out.trans hO)
                obtain ⟨rm, hrm⟩ : ∃ r, r = rmN c p i := ⟨_, rfl⟩
                rw [← hrm]
                by_cases hex : i = 3 ∨ u ≤ rm
                · have hfin := Hrm.out i hi (by rw [← hrm]; exact hex)
                  rw [← hrm] at hfin
                  have Hfin := hid hfin
                  have Hmn := hid (show (if rm < u then (rm : Int) else (u : Int)) = ((min u rm : Nat) : Int) by split <;> omega)
                  have Hjj := hid (show k + (j + 1) ≤ c.b + 1 ∧ c.b + 1 - k - (j + 1) < c.b + 1 - k - j by have := Hj.out; omega)
                  clear hfin hrm hTr hO
                  by_cases hi3 : i = 3
                  · have b6 : ¬ (i : Int) < 3 := by omega
                    clear hex hi3 hi
                    go_wp2
                    exact ⟨⟨j + 1, min u rm, Hjj.out.1, by go_num, by rw [Hmn.out], Hfin.out, HT6.out, HO65.out⟩, by simp [intOf]; have := Hjj.out.2; omega⟩
                  · have b6 : (i : Int) < 3 := by omega
                    have b7 : ¬ (rm : Int) < (u : Int) := by omega
                    have b8 : ¬ rm < u := by omega
                    have Hmu := hid (show min u rm = u by omega)
                    clear hex hi3 hi
                    go_wp2
                    exact ⟨⟨j + 1, min u rm, Hjj.out.1, by go_num, by rw [Hmu.out], Hfin.out, HT6.out, HO65.out⟩, by simp [intOf]; have := Hjj.out.2; omega⟩
                · have hi3 : i < 3 := by omega
                  have b6 : (i : Int) < 3 := by omega
                  have b7 : (rm : Int) < (u : Int) := by omega
                  have b8 : rm < u := by omega
                  have hrc := Htbr.out
                  have hcl := Hcells.out i hi3
                  obtain ⟨hXf, hXn, hXc⟩ := Hrs.out i
                  have hstep : rmN c p (i + 1) = if (res3 c p i).cases = c.cases then 99 else if (res3 c p i).cases = 0 then rmN c p i else max (rmN c p i) (nd 99 (res3 c p i) + 1) := rfl
                  obtain ⟨x, hx⟩ : ∃ x, x = res3 c p i := ⟨_, rfl⟩
                  rw [← hx] at hcl hXf hXn hXc hstep
                  rw [← hrm] at hstep
                  have x0 := hO.cell hcl.1 (show ¬ rb = tb by omega); have x1 := hO.cell hcl.2.1 (show ¬ rb = tb by omega)
                  have x2 := hO.cell hcl.2.2.1 (show ¬ rb = tb by omega); have x3 := hO.cell hcl.2.2.2 (show ¬ rb = tb by omega)
                  have hc6 : I4 w6 w.heap.size 116 c.l c.h c.b c.z := Hc5.out.same (hO.block _ Hc5.out.lt (by have := Htb.out; omega))
                  have HX := hid fun (w' : World) => Hcas.out x hXf.small w'
                  have HC := hid fun (w' : World) => Hcas.out c Hg.out.small w'
                  have HI := hid fun (h0 : 0 < x.cases) (h1 : x.cases < c.cases) (w' : World) (hT : TabAt w' tb n) => HIH.out x n tb w' hXf hXn h0 h1 hT
                  unfold NumT rcV at HI
                  obtain ⟨nx, hnx⟩ : ∃ y, y = nd 99 x := ⟨_, rfl⟩
                  have hnxl : nx ≤ 99 := by rw [hnx]; exact nd_le _ _
                  rw [← hnx] at HI hstep
                  obtain ⟨xc, hxc⟩ : ∃ y, y = x.cases := ⟨_, rfl⟩
                  obtain ⟨cc, hcc⟩ : ∃ y, y = c.cases := ⟨_, rfl⟩
                  rw [← hxc] at HX HI hXc hstep
                  rw [← hcc] at HC HI hXc hstep
                  obtain ⟨y, hy⟩ : ∃ y : Nat, y = nx + 1 := ⟨_, rfl⟩
                  rw [← hy] at hstep
                  have ey : IntKind.i64.wrap ((nx : Int) + 1) = (y : Int) := by rw [wrap_i64_of (by omega) (by omega)]; omega
                  have ei : IntKind.i64.wrap ((i : Int) + 1) = (i : Int) + 1 := wrap_i64_of (by omega) (by omega)
                  have Hi3 := hid hi3; have Hst := hid hstep
                  have X0 := hid x0; have X1 := hid x1; have X2 := hid x2; have X3 := hid x3
                  have j0 := fun s : Later w6 => cstep x0 s.h; have j1 := fun s : Later w6 => cstep x1 s.h; have j2 := fun s : Later w6 => cstep x2 s.h; have j3 := fun s : Later w6 => cstep x3 s.h
                  have d0 := fun s : Later w6 => cstep hc6.c0 s.h; have d1 := fun s : Later w6 => cstep hc6.c1 s.h; have d2 := fun s : Later w6 => cstep hc6.c2 s.h; have d3 := fun s : Later w6 => cstep hc6.c3 s.h
                  clear hstep hx hcl hXf hXn hnx hxc hcc hy hrm hex hi hi3 hTr hO hc6 hrc x0 x1 x2 x3
                  go_upto_region 16 with (fail)
                  refine wp_region_later (by kernel_rfl) (by kernel_rfl) ?_
                  repeat (go_big_quiet_step ((first | (go_at_call 98; with_reducible exact callsLater (HX.out _)) | (go_at_call 98; with_reducible exact callsLater (HC.out _)))))
                  refine wpQuiet_nil ?_
                  rintro w7 ⟨s7, rfl⟩
                  have HT7 := hid (HT6.out.mono s7.h); have HO7 := hid (HO6.out.trans (Only.of_below s7.h))
                  have x0 := cstep X0.out s7.h; have x1 := cstep X1.out s7.h; have x2 := cstep X2.out s7.h; have x3 := cstep X3.out s7.h
                  clear j0 j1 j2 j3 d0 d1 d2 d3 b7 b8
                  obtain ⟨w7, _⟩ := s7
                  simp only at HT7 HO7 x0 x1 x2 x3 ⊢
                  by_cases he : xc = cc
                  · have b9 : ((xc : Int) == (cc : Int)) = true := by rw [beq_iff_eq]; omega
                    have hst := Hst.out
                    rw [if_pos he] at hst
                    have Hst := hid hst
                    clear hst he x0 x1 x2 x3
                    go_wp2
                    go_roundw
                    case rel => exact ⟨i + 1, Hi3.out, by go_num, by rw [Hst.out]; rfl, HT7.out, HO7.out⟩
                    case measure => simp [intOf]; have := Hi3.out; omega
                  · have b9 : ((xc : Int) == (cc : Int)) = false := by rw [beq_eq_false_iff_ne]; omega
                    go_upto_region 18 with (fail)
                    go_wp2_with fail
                    refine (HX.out w7).mono ?_
                    rintro e w8 ⟨rfl, hB⟩
                    have HT8 := hid (HT7.out.mono hB); have HO8 := hid (HO7.out.trans (Only.of_below hB))
                    have x0 := cstep x0 hB; have x1 := cstep x1 hB; have x2 := cstep x2 hB; have x3 := cstep x3 hB
                    have hst := Hst.out
                    rw [if_neg he] at hst
                    clear hB
                    by_cases h0 : xc = 0
                    · have b10 : ¬ (0 : Int) < (xc : Int) := by omega
                      have b11 : ¬ 0 < xc := by omega
                      rw [if_pos h0] at hst
                      have Hst := hid hst
                      clear hst he h0 x0 x1 x2 x3
                      go_wp2
                      go_roundw
                      case rel => exact ⟨i + 1, Hi3.out, by go_num, by rw [Hst.out], HT8.out, HO8.out⟩
                      case measure => simp [intOf]; have := Hi3.out; omega
                    · have b10 : (0 : Int) < (xc : Int) := by omega
                      have b11 : 0 < xc := by omega
                      rw [if_neg h0] at hst
                      have Hmx := hid (show (if rm < y then (y : Int) else (rm : Int)) = ((rmN c p (i + 1) : Nat) : Int) by rw [hst]; split <;> omega)
                      have Hcall := hid (HI.out (by omega) (by omega) w8 HT8.out)
                      clear hst he h0
                      go_wp2_with fail
                      refine Hcall.out.mono ?_
                      rintro e w9 ⟨rfl, hT9, hO9⟩
                      have HT9 := hid hT9; have HO9 := hid (HO8.out.trans hO9)
                      clear hT9 hO9 x0 x1 x2 x3
                      go_wp2
                      exact ⟨⟨i + 1, Hi3.out, by go_num, by rw [Hmx.out], HT9.out, HO9.out⟩, by simp [intOf]; have := Hi3.out; omega⟩
end

end Go.Proofs.Ytelgbjfgmpkepaa
