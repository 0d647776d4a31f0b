/- Walks: the iterator of splits. -/
import Derived.Test.YtelgbjfgmpkepaaKI
import Derived.Test.YtelgbjfgmpkepaaKB
import Derived.Deep.CutBlock
namespace Go.Proofs.Ytelgbjfgmpkepaa
open Go.RowKit Go.Shelf

/-- a block of pans: the left one's good coppers are none, the right one's are x -/
def P8 (w : World) (g : Nat) (p : Pn) (x : Int) : Prop := w.heap[g]? = some (.cells #[.int .i64 0, .int .i64 (p.a1 : Int), .int .i64 (p.a2 : Int), .int .i64 (p.a3 : Int), .int .i64 x, .int .i64 (p.b1 : Int), .int .i64 (p.b2 : Int), .int .i64 (p.b3 : Int)] 103 (0, 0))
def pnV (p : Pn) (x : Int) : Value := .agg #[.int .i64 0, .int .i64 (p.a1 : Int), .int .i64 (p.a2 : Int), .int .i64 (p.a3 : Int), .int .i64 x, .int .i64 (p.b1 : Int), .int .i64 (p.b2 : Int), .int .i64 (p.b3 : Int)]
section
variable {w w' : World} {g : Nat} {p : Pn} {x : Int}
theorem P8.c0 (h : P8 w g p x) : w.cell? ⟨g, 0, none⟩ = some (.int .i64 0) := by rw [cell_of_row _ _ _ _ _ _ h]; rfl
theorem P8.c1 (h : P8 w g p x) : w.cell? ⟨g, 1, none⟩ = some (.int .i64 (p.a1 : Int)) := by rw [cell_of_row _ _ _ _ _ _ h]; rfl
theorem P8.c2 (h : P8 w g p x) : w.cell? ⟨g, 2, none⟩ = some (.int .i64 (p.a2 : Int)) := by rw [cell_of_row _ _ _ _ _ _ h]; rfl
theorem P8.c3 (h : P8 w g p x) : w.cell? ⟨g, 3, none⟩ = some (.int .i64 (p.a3 : Int)) := by rw [cell_of_row _ _ _ _ _ _ h]; rfl
theorem P8.c4 (h : P8 w g p x) : w.cell? ⟨g, 4, none⟩ = some (.int .i64 x) := by rw [cell_of_row _ _ _ _ _ _ h]; rfl
theorem P8.c5 (h : P8 w g p x) : w.cell? ⟨g, 5, none⟩ = some (.int .i64 (p.b1 : Int)) := by rw [cell_of_row _ _ _ _ _ _ h]; rfl
theorem P8.c6 (h : P8 w g p x) : w.cell? ⟨g, 6, none⟩ = some (.int .i64 (p.b2 : Int)) := by rw [cell_of_row _ _ _ _ _ _ h]; rfl
theorem P8.c7 (h : P8 w g p x) : w.cell? ⟨g, 7, none⟩ = some (.int .i64 (p.b3 : Int)) := by rw [cell_of_row _ _ _ _ _ _ h]; rfl
theorem P8.f (h : P8 w g p x) (k : Nat) : w.frozen? ⟨g, k, none⟩ = false := frozen_of_row w _ k _ _ h
theorem P8.lt (h : P8 w g p x) : g < w.heap.size := (Array.getElem?_eq_some_iff.1 h).1
theorem P8.mono (h : P8 w g p x) (hB : Below w.heap.size w w') : P8 w' g p x := (hB.block _ h.lt).trans h
theorem P8.same (h : P8 w g p x) (hs : w'.heap[g]? = w.heap[g]?) : P8 w' g p x := hs.trans h
theorem P8.sa1 (h : P8 w g p x) (v : Int) (n : Nat) (e : v = (n : Int)) : P8 (w.setCell ⟨g, 1, none⟩ (.int .i64 v)) g ⟨n, p.b1, p.a2, p.b2, p.a3, p.b3⟩ x := by subst e; exact heap_setCell_same w g 1 _ 103 _ h
theorem P8.sa2 (h : P8 w g p x) (v : Int) (n : Nat) (e : v = (n : Int)) : P8 (w.setCell ⟨g, 2, none⟩ (.int .i64 v)) g ⟨p.a1, p.b1, n, p.b2, p.a3, p.b3⟩ x := by subst e; exact heap_setCell_same w g 2 _ 103 _ h
theorem P8.sa3 (h : P8 w g p x) (v : Int) (n : Nat) (e : v = (n : Int)) : P8 (w.setCell ⟨g, 3, none⟩ (.int .i64 v)) g ⟨p.a1, p.b1, p.a2, p.b2, n, p.b3⟩ x := by subst e; exact heap_setCell_same w g 3 _ 103 _ h
theorem P8.sb1 (h : P8 w g p x) (v : Int) (n : Nat) (e : v = (n : Int)) : P8 (w.setCell ⟨g, 5, none⟩ (.int .i64 v)) g ⟨p.a1, n, p.a2, p.b2, p.a3, p.b3⟩ x := by subst e; exact heap_setCell_same w g 5 _ 103 _ h
theorem P8.sb2 (h : P8 w g p x) (v : Int) (n : Nat) (e : v = (n : Int)) : P8 (w.setCell ⟨g, 6, none⟩ (.int .i64 v)) g ⟨p.a1, p.b1, p.a2, n, p.a3, p.b3⟩ x := by subst e; exact heap_setCell_same w g 6 _ 103 _ h
theorem P8.sb3 (h : P8 w g p x) (v : Int) (n : Nat) (e : v = (n : Int)) : P8 (w.setCell ⟨g, 7, none⟩ (.int .i64 v)) g ⟨p.a1, p.b1, p.a2, p.b2, p.a3, n⟩ x := by subst e; exact heap_setCell_same w g 7 _ 103 _ h
theorem P8.sx (h : P8 w g p x) (v : Int) : P8 (w.setCell ⟨g, 4, none⟩ (.int .i64 v)) g p v := heap_setCell_same w g 4 _ 103 _ h
end
theorem only_drewN (S : Nat → Prop) (w : World) (n : Nat) : Only S w (w.drewN n) := ⟨rfl, rfl, rfl, Nat.le_refl _, fun _ _ _ => rfl⟩
theorem P8.dr {w : World} {g : Nat} {p : Pn} {x : Int} (h : P8 w g p x) (n : Nat) : P8 (w.drewN n) g p x := h
theorem p8_new (w : World) (p : Pn) (x : Int) : P8 (w.alloc (.cells #[.int .i64 0, .int .i64 (p.a1 : Int), .int .i64 (p.a2 : Int), .int .i64 (p.a3 : Int), .int .i64 x, .int .i64 (p.b1 : Int), .int .i64 (p.b2 : Int), .int .i64 (p.b3 : Int)] 103)) w.heap.size p x := heap_alloc_new _ _
/-- how many of the right one's coppers are good -/
def Pn.dif (p : Pn) : Int := (p.left : Int) - (p.right : Int)
/-- what the iterator of splits hands out -/
def spX (c : Cnt) (k : Nat) (v : Array Value) (_ : World) : Prop := ∃ p, (splitsS c)[k]? = some p ∧ v = #[pnV p p.dif]
def cellN (w : World) (g k : Nat) : Nat := match w.cell? ⟨g, k, none⟩ with
  | some (.int _ x) => x.toNat
  | _ => 0
/-- how many steps an iterator has left -/
def spMu (c : Cnt) (w : World) (g : Nat) : Nat := (dMu c.b (cellN w g 3) (cellN w g 7) * (dMu c.h 0 0 + 1) + dMu c.h (cellN w g 2) (cellN w g 6)) * (dMu c.l 0 0 + 1) + dMu c.l (cellN w g 1) (cellN w g 5)
theorem spMu_eq {w : World} {g : Nat} {p : Pn} {x : Int} (c : Cnt) (h : P8 w g p x) : spMu c w g = (dMu c.b p.a3 p.b3 * (dMu c.h 0 0 + 1) + dMu c.h p.a2 p.b2) * (dMu c.l 0 0 + 1) + dMu c.l p.a1 p.b1 := by
  unfold spMu cellN
  rw [h.c1, h.c2, h.c3, h.c5, h.c6, h.c7]
  simp
def muP (c : Cnt) (p : Pn) : Nat := (dMu c.b p.a3 p.b3 * (dMu c.h 0 0 + 1) + dMu c.h p.a2 p.b2) * (dMu c.l 0 0 + 1) + dMu c.l p.a1 p.b1
theorem spMu_lt1 {A B m n : Nat} {f : Nat} (h : n < m) : (A * f + B) * f + n < (A * f + B) * f + m := by omega
theorem dMu_le (n : Nat) {a b : Nat} : dMu n a b ≤ dMu n 0 0 := by
  unfold dMu
  have : (n - a) * (n + 2) ≤ (n - 0) * (n + 2) := Nat.mul_le_mul_right _ (by omega)
  omega
theorem mu_lex2 {A x y : Nat} {L m : Nat} (h : x + 1 ≤ y) (hm : m ≤ L) (n : Nat) : (A + x) * (L + 1) + m < (A + y) * (L + 1) + n := by
  have h1 : (A + x + 1) * (L + 1) ≤ (A + y) * (L + 1) := Nat.mul_le_mul_right _ (by omega)
  rw [Nat.succ_mul] at h1
  omega
theorem mu_lex3 {x y H z L m : Nat} (h : x + 1 ≤ y) (hz : z ≤ H) (hm : m ≤ L) (v n : Nat) : (x * (H + 1) + z) * (L + 1) + m < (y * (H + 1) + v) * (L + 1) + n := by
  have h1 : (x + 1) * (H + 1) ≤ y * (H + 1) := Nat.mul_le_mul_right _ h
  rw [Nat.succ_mul] at h1
  have h2 : (x * (H + 1) + z + 1) * (L + 1) ≤ (y * (H + 1) + v) * (L + 1) := Nat.mul_le_mul_right _ (by omega)
  rw [Nat.succ_mul] at h2
  omega
set_option maxRecDepth 100000 in
set_option maxHeartbeats 4000000 in
theorem splits1_c (cb : Nat) (c : Cnt) (hc : c.small) (w0 : World) (S Sx : Nat → Prop) (hS : ∀ k, S k → k < w0.heap.size ∨ w0.heap.size + 3 ≤ k) (hcb : I5 w0 cb 95 c.g c.l c.h c.b c.z) (hcS : ¬ S cb) :
    GenT Try.prog 97 #[.pointer (some ⟨cb, 0, none⟩)] S Sx (fun q => q = w0.heap.size + 2) (spX c) (splitsS c).length (splitsS c).length (fun k => k = (splitsS c).length) w0 := by
  intro l J Jx W hW hlW hWs hJ hJx hJT hJxT hN hY h0
  refine callsIn_of_wp Try.func97 rfl trivial ?_ rfl
  simp only [Try.ntmps97, List.size_toArray, List.length_cons, List.length_nil, Nat.reduceAdd, Nat.reduceSub, Array.replicate_succ, Array.replicate_zero, List.push_toArray, List.append_toArray, List.nil_append, List.cons_append]
  refine wpIn_wide.2 ?_
  have HY := hid hY; have HJ := hid hJ; have HN := hid hN; have HS := hid hS; have HJT := hid hJT
  have Hcb := hid (hcb.mono hW)
  have Hcl := hid (show cb < w0.heap.size from hcb.lt)
  have HcS := hid hcS
  have HlW := hid hlW; have HWs := hid hWs
  obtain ⟨h1, h2, h3, h4, h5⟩ := hc
  have Hc1 := hid h1; have Hc2 := hid h2; have Hc3 := hid h3; have Hc4 := hid h4
  obtain ⟨A, hA⟩ : ∃ A, A = W.alloc (.cells #[.int .i64 0, .int .i64 0, .int .i64 0, .int .i64 0, .int .i64 0, .int .i64 0, .int .i64 0, .int .i64 0] 103) := ⟨_, rfl⟩
  have hBA : Below W.heap.size W A := by rw [hA]; exact bnew _ _
  have hp0 : P8 A W.heap.size ⟨0, 0, 0, 0, 0, 0⟩ 0 := by rw [hA]; exact p8_new W ⟨0, 0, 0, 0, 0, 0⟩ 0
  have HA := hid hA; have HBA := hid hBA; have Hp0 := hid hp0; have H0 := hid (hJ 0 _ _ h0 hBA)
  obtain ⟨pb, hpb⟩ : ∃ q, q = W.heap.size := ⟨_, rfl⟩
  rw [← hpb] at Hp0
  have Hpb := hid hpb
  clear hW hlW hWs hJ hJx hJT hJxT hN hY h0 hS hcb hcS h1 h2 h3 h4 h5 hA hBA hp0 hpb
  go_wp2
  rw [← HA.out, ← Hpb.out]
  go_loopw [4, 5, 6, 7] (fun _ _ _ _ wr => ∃ (p : Pn) (Y : List Pn), SpInv c p Y ∧ P8 wr pb p 0 ∧ J Y.length wr ∧ I5 wr cb 95 c.g c.l c.h c.b c.z ∧ A.heap.size ≤ wr.heap.size) (fun _ _ _ _ wr => spMu c wr pb)
  case atStart => exact ⟨⟨0, 0, 0, 0, 0, 0⟩, [], spInv_start c, Hp0.out, H0.out, Hcb.out.mono HBA.out, Nat.le_refl _⟩
  case round =>
    obtain ⟨p, Y, hI, hp, hJ0, hcb, hsz⟩ := hrel
    obtain ⟨wo, rfl⟩ : ∃ wo : World, wo = wr := ⟨_, rfl⟩
    have HI := hid hI; have Hp := hid hp; have HJ0 := hid hJ0; have Hcb2 := hid hcb; have Hsz := hid hsz
    have c1 := hp.c1; have c2 := hp.c2; have c3 := hp.c3; have c5 := hp.c5; have c6 := hp.c6; have c7 := hp.c7
    have g0 := hcb.c0
    have i1 := hI.k1; have i2 := hI.k2; have i3 := hI.k3
    have hb1 := Hc1.out; have hb2 := Hc2.out; have hb3 := Hc3.out; have hb4 := Hc4.out
    have e1 : IntKind.i64.wrap ((p.a1 : Int) + (p.a2 : Int)) = (p.a1 : Int) + (p.a2 : Int) := wrap_i64_of (by omega) (by omega)
    have e2 : IntKind.i64.wrap ((p.a1 : Int) + (p.a2 : Int) + (p.a3 : Int)) = (p.left : Int) := by
      rw [wrap_i64_of (by omega) (by omega)]; unfold Pn.left; omega
    have e3 : IntKind.i64.wrap ((p.b1 : Int) + (p.b2 : Int)) = (p.b1 : Int) + (p.b2 : Int) := wrap_i64_of (by omega) (by omega)
    have e4 : IntKind.i64.wrap ((p.b1 : Int) + (p.b2 : Int) + (p.b3 : Int)) = (p.right : Int) := by
      rw [wrap_i64_of (by omega) (by omega)]; unfold Pn.right; omega
    have hlr : p.left < 400 ∧ p.right < 400 := by unfold Pn.left Pn.right; omega
    have e5 : IntKind.i64.wrap ((p.left : Int) - (p.right : Int)) = (p.left : Int) - (p.right : Int) := wrap_i64_of (by omega) (by omega)
    have hfb : fitsB c p = (decide (p.right ≤ p.left) && decide (p.left ≤ p.right + c.g)) := rfl
    have Hfb := hid hfb
    obtain ⟨lf, hlf⟩ : ∃ n, n = p.left := ⟨_, rfl⟩
    obtain ⟨rt, hrt⟩ : ∃ n, n = p.right := ⟨_, rfl⟩
    rw [← hlf] at e2 e5 Hfb hlr
    rw [← hrt] at e4 e5 Hfb hlr
    have Hlf := hid hlf; have Hrt := hid hrt
    have Hd := hid (show p.dif = (lf : Int) - (rt : Int) by rw [hlf, hrt]; rfl)
    clear hI hp hJ0 hcb hsz hfb hlf hrt i1 i2 i3 hb1 hb2 hb3 hb4
    go_upto_region 1 with (fail)
    go_quiet (fail)
    rename_i nq
    obtain ⟨wa, hwa⟩ : ∃ x, x = wo.drewN nq := ⟨_, rfl⟩
    have hBa : Below wo.heap.size wo wa := by rw [hwa]; exact below_drawN _ _ _
    rw [← hwa]
    have Hpa := hid (Hp.out.mono hBa); have HJa := hid (HJ.out _ _ _ HJ0.out hBa); have Hca := hid (Hcb2.out.mono hBa); have Hsza := hid (Nat.le_trans Hsz.out hBa.size)
    have g0 := cstep g0 hBa
    clear hwa hBa c1 c2 c3 c5 c6 c7 e1 e2 e3 e4
    obtain ⟨fb, hfb⟩ : ∃ b, b = fitsB c p := ⟨_, rfl⟩
    rw [← hfb] at Hfb
    have HF := hid hfb
    clear hfb
    go_upto_region 2 with (fail)
    go_cut [41] from 30 to 41 (fun a wd => a = .bool fb ∧ wa = wd)
    case first =>
      by_cases hge : rt ≤ lf
      · have q1 : (rt : Int) ≤ (lf : Int) := by omega
        have q2 : decide ((rt : Int) ≤ (lf : Int)) = true := by simpa using q1
        by_cases hle : lf ≤ rt + c.g
        · have q3 : (lf : Int) - (rt : Int) ≤ (c.g : Int) := by omega
          have hz : fb = true := by rw [Hfb.out, decide_eq_true hge, decide_eq_true hle]; rfl
          subst hz
          go_wp2
          go_meet
          exact ⟨rfl, rfl⟩
        · have q3 : ¬ (lf : Int) - (rt : Int) ≤ (c.g : Int) := by omega
          have hz : fb = false := by rw [Hfb.out, decide_eq_true hge, decide_eq_false hle]; rfl
          subst hz
          go_wp2
          go_meet
          exact ⟨rfl, rfl⟩
      · have q1 : ¬ (rt : Int) ≤ (lf : Int) := by omega
        have q2 : decide ((rt : Int) ≤ (lf : Int)) = false := by simpa using q1
        have hz : fb = false := by rw [Hfb.out, decide_eq_false hge]; rfl
        subst hz
        go_wp2
        go_meet
        exact ⟨rfl, rfl⟩
    obtain ⟨rfl, rfl⟩ := hcut
    go_upto_if 41 with (fail)
    go_cut [41] from 42 to 51 (fun _ wd => J (yielded' c p Y).length wd ∧ P8 wd pb p 0 ∧ I5 wd cb 95 c.g c.l c.h c.b c.z ∧ A.heap.size ≤ wd.heap.size)
    case first =>
      cases fb with
      | false =>
        have Hl := hid (show (yielded' c p Y).length = Y.length by rw [yielded'_len, ← HF.out]; rfl)
        go_wp2
        go_meet
        exact ⟨by rw [Hl.out]; exact HJa.out, Hpa.out, Hca.out, Hsza.out⟩
      | true =>
        have Hl := hid (show (yielded' c p Y).length = Y.length + 1 by rw [yielded'_len, ← HF.out]; rfl)
        obtain ⟨hk, hat⟩ := HI.out.here HF.out.symm
        have Hk := hid hk; have Hat := hid hat
        clear hk hat
        have c0 := Hpa.out.c0; have c1 := Hpa.out.c1; have c2 := Hpa.out.c2; have c3 := Hpa.out.c3; have c4 := Hpa.out.c4; have c5 := Hpa.out.c5; have c6 := Hpa.out.c6; have c7 := Hpa.out.c7
        obtain ⟨wb, hwb⟩ : ∃ x, x = wa.alloc (.cells #[.int .i64 0, .int .i64 (p.a1 : Int), .int .i64 (p.a2 : Int), .int .i64 (p.a3 : Int), .int .i64 0, .int .i64 (p.b1 : Int), .int .i64 (p.b2 : Int), .int .i64 (p.b3 : Int)] 103) := ⟨_, rfl⟩
        have hpx : P8 wb wa.heap.size p 0 := by rw [hwb]; exact p8_new wa p 0
        have hBb : Below wa.heap.size wa wb := by rw [hwb]; exact bnew _ _
        have Hwb := hid hwb
        have x4 := hpx.c4; have f4 := hpx.f 4
        have Hpy := hid (hpx.sx ((lf : Int) - (rt : Int)))
        have hBc : Below wa.heap.size wa (wb.setCell ⟨wa.heap.size, 4, none⟩ (.int .i64 ((lf : Int) - (rt : Int)))) := hBb.setCell (p := ⟨wa.heap.size, 4, none⟩) (Nat.le_refl _) _
        have HBc := hid hBc
        clear hwb hpx hBb hBc
        go_upto_region 4 with (fail)
        rw [← Hwb.out]
        clear c0 c1 c2 c3 c4 c5 c6 c7
        go_upto_region 5 with (fail)
        clear x4 f4
        obtain ⟨wc, hwc⟩ : ∃ x, x = wb.setCell ⟨wa.heap.size, 4, none⟩ (.int .i64 ((lf : Int) - (rt : Int))) := ⟨_, rfl⟩
        rw [← hwc] at Hpy HBc ⊢
        clear hwc
        have c0 := Hpy.out.c0; have c1 := Hpy.out.c1; have c2 := Hpy.out.c2; have c3 := Hpy.out.c3; have c4 := Hpy.out.c4; have c5 := Hpy.out.c5; have c6 := Hpy.out.c6; have c7 := Hpy.out.c7
        have hX : spX c Y.length #[pnV p p.dif] wc := ⟨p, Hat.out, rfl⟩
        obtain ⟨fn, tmps, assign, body, hy, hR⟩ := HY.out Y.length #[pnV p p.dif] wc (HJ.out _ _ _ HJa.out HBc.out) hX Hk.out
        have HR := hid hR
        rw [Hd.out] at hy
        unfold pnV at hy
        clear hR hX
        refine (wpIn_wide (n := 0)).1 ?_
        gi_wp2
        refine ⟨rfl, HR.out.mono ?_⟩
        rintro e W3 (⟨rfl, hJ3, hO3⟩ | ⟨rfl, hJ3, _⟩)
        · have HJ3 := hid hJ3
          have hz := HBc.out.size
          have hpn : ¬ (S pb ∨ pb = l) := by
            rintro (h | h)
            · have := HS.out _ h; have := Hpb.out; have := HWs.out; omega
            · have := Hpb.out; have := HWs.out; have := HlW.out; omega
          have hcn : ¬ (S cb ∨ cb = l) := by
            rintro (h | h)
            · exact HcS.out h
            · have := Hcl.out; have := HlW.out; omega
          have Hp3 := hid (show P8 W3 pb p 0 from (hO3.block _ (Hpa.out.mono HBc.out).lt hpn).trans (Hpa.out.mono HBc.out))
          have Hc3' := hid (show I5 W3 cb 95 c.g c.l c.h c.b c.z from (hO3.block _ (Hca.out.mono HBc.out).lt hcn).trans (Hca.out.mono HBc.out))
          have Hz3 := hid (Nat.le_trans Hsza.out (Nat.le_trans hz hO3.size))
          clear hJ3 hO3 hy hpn hcn hz c0 c1 c2 c3 c4 c5 c6 c7
          gi_wp2
          go_wp2
          go_meet
          exact ⟨by rw [Hl.out]; exact HJ3.out, Hp3.out, Hc3'.out, Hz3.out⟩
        · have HJ3 := hid hJ3
          clear hJ3 hy c0 c1 c2 c3 c4 c5 c6 c7
          gi_wp2
          go_wp2
          refine bodyPost_ret (results_none rfl _ _ _) rfl ?_
          exact ⟨⟨_, rfl⟩, .inr ⟨_, HJ3.out⟩⟩
    obtain ⟨hJ5, hp5, hc5, hz5⟩ := hcut
    rename World => w5
    have HJ5 := hid hJ5; have Hp5 := hid hp5; have Hc5 := hid hc5; have Hz5 := hid hz5
    clear hJ5 hp5 hc5 hz5 HJa Hpa Hca Hsza g0
    go_upto_block 2 with (fail)
    go_cut [7] from 52 to 101 (fun a wd => Only (fun q => q = pb) w5 wd ∧ ((∃ (j : Int) (p' : Pn), a = .int .i64 j ∧ j ≠ 4 ∧ SpInv c p' (yielded' c p Y) ∧ P8 wd pb p' 0 ∧ muP c p' < muP c p) ∨ (a = .int .i64 4 ∧ splitsS c = yielded' c p Y)))
    case first =>
      go_wp2
      go_loopw [7] (fun i wr => Only (fun q => q = pb) w5 wr ∧ ((i = .int .i64 1 ∧ P8 wr pb p 0) ∨ (i = .int .i64 2 ∧ P8 wr pb ⟨0, 0, p.a2, p.b2, p.a3, p.b3⟩ 0 ∧ (¬ p.a1 + p.b1 < c.l ∧ ¬ p.a1 < c.l)) ∨ (i = .int .i64 3 ∧ P8 wr pb ⟨0, 0, 0, 0, p.a3, p.b3⟩ 0 ∧ (¬ p.a1 + p.b1 < c.l ∧ ¬ p.a1 < c.l) ∧ (¬ p.a2 + p.b2 < c.h ∧ ¬ p.a2 < c.h)) ∨ (i = .int .i64 4 ∧ P8 wr pb ⟨0, 0, 0, 0, 0, 0⟩ 0 ∧ (¬ p.a1 + p.b1 < c.l ∧ ¬ p.a1 < c.l) ∧ (¬ p.a2 + p.b2 < c.h ∧ ¬ p.a2 < c.h) ∧ (¬ p.a3 + p.b3 < c.b ∧ ¬ p.a3 < c.b)))) (fun i _ => 5 - (intOf i).toNat)
      case atStart => exact ⟨Only.refl _ _, .inl ⟨rfl, Hp5.out⟩⟩
      case round =>
        obtain ⟨hO, hrel⟩ := hrel
        obtain ⟨wi, rfl⟩ : ∃ x : World, x = wr := ⟨_, rfl⟩
        have HO := hid hO
        have hci : I5 wi cb 95 c.g c.l c.h c.b c.z := (hO.block _ Hc5.out.lt (fun e => by have e : cb = pb := e; have := Hcl.out; have := Hpb.out; have := HWs.out; omega)).trans Hc5.out
        have g1 := hci.c1; have g2 := hci.c2; have g3 := hci.c3
        have hb2 := Hc2.out; have hb3 := Hc3.out; have hb4 := Hc4.out
        have i1 := HI.out.k1; have i2 := HI.out.k2; have i3 := HI.out.k3
        clear hO hci
        rcases hrel with ⟨rfl, hp⟩ | ⟨rfl, hp, he1⟩ | ⟨rfl, hp, he1, he2⟩ | ⟨rfl, hp, he1, he2, he3⟩
        · have hpa := hp.c1; have hpb := hp.c5
          have f1 := hp.f 1; have f2 := hp.f 5
          have Hpp := hid hp
          have e1 : IntKind.i64.wrap ((p.a1 : Int) + (p.b1 : Int)) = (p.a1 : Int) + (p.b1 : Int) := wrap_i64_of (by omega) (by omega)
          have e2 : IntKind.i64.wrap ((p.a1 : Int) + 1) = (p.a1 : Int) + 1 := wrap_i64_of (by omega) (by omega)
          have e3 : IntKind.i64.wrap ((p.b1 : Int) + 1) = (p.b1 : Int) + 1 := wrap_i64_of (by omega) (by omega)
          clear hp  i1 i2 i3 hb2 hb3 hb4
          by_cases h1 : p.a1 + p.b1 < c.l
          · have q1 : (p.a1 : Int) + (p.b1 : Int) < (c.l : Int) := by omega
            have H1 := hid h1
            clear h1
            go_wp2
            go_quiet (fail)
            go_wp2
            go_meet
            exact ⟨(HO.out.trans (only_drewN _ _ _)).setCell rfl _, .inl ⟨1, _, rfl, by decide, HI.out.up1  H1.out, (Hpp.out.dr _).sb1 _ _ (by omega), by unfold muP; have := dMu_up H1.out; simp only; omega⟩⟩
          · have q1 : ¬ (p.a1 : Int) + (p.b1 : Int) < (c.l : Int) := by omega
            have H1 := hid h1
            clear h1
            by_cases h2 : p.a1 < c.l
            · have q2 : (p.a1 : Int) < (c.l : Int) := by omega
              have H2 := hid h2
              clear h2
              go_wp2
              go_quiet (fail)
              go_wp2
              go_quiet (fail)
              go_wp2
              go_meet
              exact ⟨((HO.out.trans (only_drewN _ _ _)).setCell rfl _).setCell rfl _, .inl ⟨1, _, rfl, by decide, HI.out.next1  H1.out H2.out, ((Hpp.out.dr _).sa1 _ _ (by omega)).sb1 _ _ rfl, by unfold muP; have := dMu_next (b := p.b1) H2.out; simp only; omega⟩⟩
            · have q2 : ¬ (p.a1 : Int) < (c.l : Int) := by omega
              have H2 := hid h2
              clear h2
              go_wp2
              go_quiet (fail)
              go_wp2
              go_quiet (fail)
              go_wp2
              go_roundw
              case rel => exact ⟨((HO.out.trans (only_drewN _ _ _)).setCell rfl _).setCell rfl _, .inr (.inl ⟨rfl, ((Hpp.out.dr _).sa1 _ _ rfl).sb1 _ _ rfl, ⟨H1.out, H2.out⟩⟩)⟩
              case measure => simp [intOf]
        · have hpa := hp.c2; have hpb := hp.c6
          have f1 := hp.f 2; have f2 := hp.f 6
          have Hpp := hid hp
          have HE1 := hid he1
          have e1 : IntKind.i64.wrap ((p.a2 : Int) + (p.b2 : Int)) = (p.a2 : Int) + (p.b2 : Int) := wrap_i64_of (by omega) (by omega)
          have e2 : IntKind.i64.wrap ((p.a2 : Int) + 1) = (p.a2 : Int) + 1 := wrap_i64_of (by omega) (by omega)
          have e3 : IntKind.i64.wrap ((p.b2 : Int) + 1) = (p.b2 : Int) + 1 := wrap_i64_of (by omega) (by omega)
          clear hp he1 i1 i2 i3 hb2 hb3 hb4
          by_cases h1 : p.a2 + p.b2 < c.h
          · have q1 : (p.a2 : Int) + (p.b2 : Int) < (c.h : Int) := by omega
            have H1 := hid h1
            clear h1
            go_wp2
            go_quiet (fail)
            go_wp2
            go_meet
            exact ⟨(HO.out.trans (only_drewN _ _ _)).setCell rfl _, .inl ⟨2, _, rfl, by decide, HI.out.up2 HE1.out.1 HE1.out.2 H1.out, (Hpp.out.dr _).sb2 _ _ (by omega), by unfold muP; have := dMu_up H1.out; exact mu_lex2 (by simp only; omega) (dMu_le _) _⟩⟩
          · have q1 : ¬ (p.a2 : Int) + (p.b2 : Int) < (c.h : Int) := by omega
            have H1 := hid h1
            clear h1
            by_cases h2 : p.a2 < c.h
            · have q2 : (p.a2 : Int) < (c.h : Int) := by omega
              have H2 := hid h2
              clear h2
              go_wp2
              go_quiet (fail)
              go_wp2
              go_quiet (fail)
              go_wp2
              go_meet
              exact ⟨((HO.out.trans (only_drewN _ _ _)).setCell rfl _).setCell rfl _, .inl ⟨2, _, rfl, by decide, HI.out.next2 HE1.out.1 HE1.out.2 H1.out H2.out, ((Hpp.out.dr _).sa2 _ _ (by omega)).sb2 _ _ rfl, by unfold muP; have := dMu_next (b := p.b2) H2.out; exact mu_lex2 (by simp only; omega) (dMu_le _) _⟩⟩
            · have q2 : ¬ (p.a2 : Int) < (c.h : Int) := by omega
              have H2 := hid h2
              clear h2
              go_wp2
              go_quiet (fail)
              go_wp2
              go_quiet (fail)
              go_wp2
              go_roundw
              case rel => exact ⟨((HO.out.trans (only_drewN _ _ _)).setCell rfl _).setCell rfl _, .inr (.inr (.inl ⟨rfl, ((Hpp.out.dr _).sa2 _ _ rfl).sb2 _ _ rfl, HE1.out, ⟨H1.out, H2.out⟩⟩))⟩
              case measure => simp [intOf]
        · have hpa := hp.c3; have hpb := hp.c7
          have f1 := hp.f 3; have f2 := hp.f 7
          have Hpp := hid hp
          have HE1 := hid he1; have HE2 := hid he2
          have e1 : IntKind.i64.wrap ((p.a3 : Int) + (p.b3 : Int)) = (p.a3 : Int) + (p.b3 : Int) := wrap_i64_of (by omega) (by omega)
          have e2 : IntKind.i64.wrap ((p.a3 : Int) + 1) = (p.a3 : Int) + 1 := wrap_i64_of (by omega) (by omega)
          have e3 : IntKind.i64.wrap ((p.b3 : Int) + 1) = (p.b3 : Int) + 1 := wrap_i64_of (by omega) (by omega)
          clear hp he1 he2 i1 i2 i3 hb2 hb3 hb4
          by_cases h1 : p.a3 + p.b3 < c.b
          · have q1 : (p.a3 : Int) + (p.b3 : Int) < (c.b : Int) := by omega
            have H1 := hid h1
            clear h1
            go_wp2
            go_quiet (fail)
            go_wp2
            go_meet
            exact ⟨(HO.out.trans (only_drewN _ _ _)).setCell rfl _, .inl ⟨3, _, rfl, by decide, HI.out.up3 HE1.out.1 HE1.out.2 HE2.out.1 HE2.out.2 H1.out, (Hpp.out.dr _).sb3 _ _ (by omega), by unfold muP; have := dMu_up H1.out; exact mu_lex3 (by simp only; omega) (dMu_le _) (dMu_le _) _ _⟩⟩
          · have q1 : ¬ (p.a3 : Int) + (p.b3 : Int) < (c.b : Int) := by omega
            have H1 := hid h1
            clear h1
            by_cases h2 : p.a3 < c.b
            · have q2 : (p.a3 : Int) < (c.b : Int) := by omega
              have H2 := hid h2
              clear h2
              go_wp2
              go_quiet (fail)
              go_wp2
              go_quiet (fail)
              go_wp2
              go_meet
              exact ⟨((HO.out.trans (only_drewN _ _ _)).setCell rfl _).setCell rfl _, .inl ⟨3, _, rfl, by decide, HI.out.next3 HE1.out.1 HE1.out.2 HE2.out.1 HE2.out.2 H1.out H2.out, ((Hpp.out.dr _).sa3 _ _ (by omega)).sb3 _ _ rfl, by unfold muP; have := dMu_next (b := p.b3) H2.out; exact mu_lex3 (by simp only; omega) (dMu_le _) (dMu_le _) _ _⟩⟩
            · have q2 : ¬ (p.a3 : Int) < (c.b : Int) := by omega
              have H2 := hid h2
              clear h2
              go_wp2
              go_quiet (fail)
              go_wp2
              go_quiet (fail)
              go_wp2
              go_roundw
              case rel => exact ⟨((HO.out.trans (only_drewN _ _ _)).setCell rfl _).setCell rfl _, .inr (.inr (.inr ⟨rfl, ((Hpp.out.dr _).sa3 _ _ rfl).sb3 _ _ rfl, HE1.out, HE2.out, ⟨H1.out, H2.out⟩⟩))⟩
              case measure => simp [intOf]
        · have HE1 := hid he1; have HE2 := hid he2; have HE3 := hid he3
          clear hp he1 he2 he3 i1 i2 i3
          go_wp2
          go_meet
          exact ⟨HO.out, .inr ⟨rfl, HI.out.end HE1.out.1 HE1.out.2 HE2.out.1 HE2.out.2 HE3.out.1 HE3.out.2⟩⟩
    obtain ⟨hO, hcut⟩ := hcut
    rename World => w6
    have Hc6 := hid (show I5 w6 cb 95 c.g c.l c.h c.b c.z from (hO.block _ Hc5.out.lt (fun e => by have e : cb = pb := e; have := Hcl.out; have := Hpb.out; have := HWs.out; omega)).trans Hc5.out)
    have HJ6 := hid (HJT.out _ _ _ HJ5.out (hO.mono fun q e => by have e : q = pb := e; have := Hpb.out; have := HWs.out; omega))
    have Hz6 := hid (Nat.le_trans Hz5.out hO.size)
    clear hO
    rcases hcut with ⟨j, p', rfl, hj4, hI', hp', hmu⟩ | ⟨rfl, hend⟩
    · have b1 : ((j : Int) == 4) = false := by rw [beq_eq_false_iff_ne]; exact hj4
      have HI' := hid hI'; have Hp' := hid hp'
      have Hmu := hid (show spMu c w6 pb < spMu c wo pb by rw [spMu_eq c hp', spMu_eq c Hp.out]; exact hmu)
      clear hI' hp' hmu hj4
      go_wp2
      go_roundw
      case rel => exact ⟨p', _, HI'.out, Hp'.out, HJ6.out, Hc6.out, Hz6.out⟩
      case measure => exact Hmu.out
    · have Hend := hid (show (yielded' c p Y).length = (splitsS c).length by rw [hend])
      clear hend
      go_wp2
      refine bodyPost_ret (results_none rfl _ _ _) rfl ?_
      exact ⟨⟨_, rfl⟩, .inl ⟨_, Hend.out, HJ6.out⟩⟩

end Go.Proofs.Ytelgbjfgmpkepaa
