/- Walks of the reference: RoundOf, Round. -/
import Derived.Test.YtjnijhnphhpilaaRoA
import Derived.Test.YtjnijhnphhpilaaQp
import Derived.Test.YtjnijhnphhpilaaLc
import Derived.Test.YtjnijhnphhpilaaWq
import Derived.Laws.Bits64b
namespace Go.Proofs.Ytjnijhnphhpilaa
open Go.RowKit Go.Shelf

theorem bits_and_i64_one (a : Nat) (ha : a < 9223372036854775808) : bits .and .i64 (a : Int) 1 = ((a % 2 : Nat) : Int) := by
  have h1 : (BitVec.ofInt 64 (a : Int)).toNat = a := by
    rw [BitVec.ofInt_natCast, BitVec.toNat_ofNat]; exact Nat.mod_eq_of_lt (by omega)
  have h2 : (BitVec.ofInt 64 (1 : Int)).toNat = 1 := by decide
  show IntKind.i64.wrap ((BitVec.ofInt 64 (a : Int) &&& BitVec.ofInt 64 (1 : Int)).toNat : Int) = _
  rw [BitVec.toNat_and, h1, h2, Nat.and_one_is_mod]
  have : a % 2 < 2 := by omega
  obtain ⟨v, hv⟩ : ∃ v, v = a % 2 := ⟨_, rfl⟩
  rw [← hv] at this ⊢
  match v, this with
  | 0, _ => decide
  | 1, _ => decide

theorem bit_i64 {st : Nat} (h : st < 4096) (k : Nat) : bits .and .i64 ((st : Int) / 2 ^ k) 1 = ((st / 2 ^ k % 2 : Nat) : Int) := by
  have e : ((st : Int) / 2 ^ k) = ((st / 2 ^ k : Nat) : Int) := by simp
  have h2 : st / 2 ^ k < 9223372036854775808 := Nat.lt_of_le_of_lt (Nat.div_le_self _ _) (by omega)
  rw [e]
  exact bits_and_i64_one _ h2

def TurnsP (w : World) (f g : List Int) (e : Ending) (w' : World) : Prop :=
  ∃ i r : Nat, e = .returned (.tuple #[.int .i64 i, .int .i64 r]) ∧ TurnIs f g i r ∧ Below w.heap.size w w'

set_option maxRecDepth 100000 in
set_option maxHeartbeats 2000000 in
theorem roundOf_c (a1 a2 : Option Addr) (c1 c2 : Nat) (f g : List Int) (w : World) (hx : IntsAt w a1 f) (hy : IntsAt w a2 g) (hl : f.length = g.length) (h12 : g.length ≤ 12) (hf : isBits f = true) (hg : isBits g = true) :
    Calls Try.prog 73 #[.agg #[.slice a1 f.length c1, .slice a2 g.length c2]] w (TurnsP w f g) := by
  have Hl := hid hl; have Hf := hid hf; have Hg := hid hg; have Hx := hid hx; have Hy := hid hy
  obtain ⟨n, hn⟩ : ∃ n, n = g.length := ⟨_, rfl⟩
  have hfn : f.length = n := by omega
  rw [hfn, ← hn]
  rw [← hn] at h12
  obtain ⟨M, hM⟩ : ∃ M, M = 2 ^ n := ⟨_, rfl⟩
  have hM1 : M ≤ 4096 := by rw [hM]; exact Nat.pow_le_pow_right (by omega) h12
  have hM0 : 0 < M := by rw [hM]; exact Nat.two_pow_pos _
  have hMI : (0 : Int) < (M : Int) := by omega
  have hMI1 : (M : Int) ≤ 4096 := by omega
  have hsh : wrap64 ((2 : Int) ^ n) = (M : Int) := by rw [wrap64_pow (by omega), hM]; simp
  have HM := hid hM; have Hn := hid hn; have Hfn := hid hfn
  clear hl hf hg hM hx hy hn hfn
  have hmk : ∀ w : World, (Instr.makeSlice 22 (.int .i64 (M : Int)) (.int .i64 (M : Int))).run Try.prog w = .ok (.slice (some ⟨w.heap.size, 0, none⟩) M M) (w.alloc (.cells (intv (zrow M)).toArray 3)) := fun w => run_make_z w M (by omega)
  go_enter Try.func73, Try.ntmps73
  go_wp2
  obtain ⟨W1, hW1⟩ : ∃ W1, W1 = (w.alloc (.cells #[.slice a1 n c1, .slice a2 n c2] 24)).alloc (.cells (intv (zrow M)).toArray 3) := ⟨_, rfl⟩
  rw [← hW1]
  have hB1 : Below w.heap.size w W1 := by rw [hW1]; exact ((Below.refl _ _).alloc (Nat.le_refl _) _).alloc (by simp) _
  have hd : W1.heap[w.heap.size]? = some (.cells #[.slice a1 n c1, .slice a2 n c2] 24 (0, 0)) := by
    rw [hW1, heap_push, Array.getElem?_push, if_neg (by simp), heap_alloc_new]
  have hs : W1.heap[w.heap.size + 1]? = some (.cells (intv (sl f g n 0)).toArray 3 (0, 0)) := by
    have := heap_alloc_new (w.alloc (.cells #[.slice a1 n c1, .slice a2 n c2] 24)) (.cells (intv (zrow M)).toArray 3)
    rw [hW1, sl, ← HM.out]
    rw [show List.replicate M 0 = zrow M from rfl]
    simpa using this
  have hs1 : w.heap.size + 2 = W1.heap.size := by rw [hW1]; simp
  have HB1 := hid hB1; have Hd := hid hd; have Hs := hid hs
  clear hB1 hd hs hW1
  have hd1 : W1.cell? ⟨w.heap.size, 1, none⟩ = some (.slice a2 n c2) := by rw [cell_of_row _ _ _ _ _ _ Hd.out]; rfl
  go_loop [6, 7] (fun s i => ∃ k : Nat, k ≤ n ∧ i = .int .i64 k ∧ s = .int .i64 (wn f g 0 k)) (fun _ i => n - (intOf i).toNat)
  case atStart => exact ⟨0, Nat.zero_le _, rfl, rfl⟩
  case round =>
    obtain ⟨k, hk, rfl, rfl⟩ := hrel
    by_cases hlt : k < n
    · obtain ⟨b2, off2, rfl, hc2⟩ := (Hy.out.mono HB1.out).at (k := k) (by rw [← Hn.out]; exact hlt)
      have hkn : k < g.length := by rw [← Hn.out]; exact hlt
      have hv : nth g k = (sb f g (0 + k) : Int) := by rw [sb_int Hg.out, Nat.zero_add, seqF_first f g hkn]
      rw [hv] at hc2
      have hsb := sb_le (f := f) Hg.out (0 + k)
      have hwn : wn f g 0 (k + 1) = 2 * wn f g 0 k + sb f g (0 + k) := rfl
      obtain ⟨s, hs⟩ : ∃ s, s = sb f g (0 + k) := ⟨_, rfl⟩
      rw [← hs] at hsb hwn hc2
      have hwl : wn f g 0 k < 4096 := Nat.lt_of_lt_of_le (wn_lt Hg.out 0 k) (show 2 ^ k ≤ 2 ^ 12 from Nat.pow_le_pow_right (by omega) (by omega))
      obtain ⟨v, hv⟩ : ∃ v, v = wn f g 0 k := ⟨_, rfl⟩
      rw [← hv] at hwn hwl ⊢
      have Hwn := hid hwn
      clear hwn hv hs hkn
      go_wp2
      go_round
      case rel => exact ⟨k + 1, by omega, by go_num, by rw [Hwn.out]; go_num⟩
      case measure => simp [intOf]; omega
    · obtain rfl : k = n := by omega
      clear hlt hk hd1
      go_wp2
      go_loopw [6, 8] (fun s i wr => ∃ p : Nat, i = .int .i64 p ∧ s = .int .i64 (wn f g p k) ∧ Apart f g p ∧ wr.heap[w.heap.size + 1]? = some (.cells (intv (sl f g k p)).toArray 3 (0, 0)) ∧ Only (fun b => b = w.heap.size + 1) W1 wr) (fun _ i _ => 4097 - (intOf i).toNat)
      case atStart => exact ⟨0, rfl, rfl, fun i j h1 h2 => absurd h2 (by omega), Hs.out, Only.refl _ _⟩
      case round =>
        obtain ⟨p, rfl, rfl, hap, hsl, hO⟩ := hrel
        obtain ⟨wo, rfl⟩ : ∃ wo : World, wo = wr := ⟨_, rfl⟩
        have hBo : Below w.heap.size w wo := HB1.out.trans (hO.below HB1.out.size (by intro j hj; omega))
        have hpM : p ≤ M := by rw [HM.out, Hn.out]; exact apart_pow (by rw [Hfn.out, Hn.out]) (by rw [← Hn.out]; exact h12) Hg.out hap
        have hdo : wo.heap[w.heap.size]? = some (.cells #[.slice a1 k c1, .slice a2 k c2] 24 (0, 0)) := (hO.block _ (by omega) (by simp)).trans Hd.out
        have hwl : wn f g p k < M := by rw [HM.out]; exact wn_lt Hg.out p k
        have hc : wo.cell? ⟨w.heap.size + 1, wn f g p k, none⟩ = some (.int .i64 (nth (sl f g k p) (wn f g p k))) := by
          rw [cell_of_row _ _ _ _ _ _ hsl, List.getElem?_toArray, intv_get, if_pos (by rw [sl_length, ← HM.out]; exact hwl)]
        obtain ⟨v, hv⟩ : ∃ v, v = nth (sl f g k p) (wn f g p k) := ⟨_, rfl⟩
        rw [← hv] at hc
        obtain ⟨st, hst⟩ : ∃ st, st = wn f g p k := ⟨_, rfl⟩
        rw [← hst] at hc hwl ⊢
        by_cases hv0 : 0 < v
        · obtain ⟨i, hip, hvi, ht⟩ := round_found (f := f) (g := g) (p := p) (by rw [← Hn.out]; exact h12) (by rw [Hfn.out, Hn.out]) Hg.out hap (by rw [← Hn.out, ← hv]; exact hv0)
          rw [← Hn.out, ← hv] at hvi
          have Ht := hid ht; have HBo := hid hBo
          clear hap hsl hO ht hBo hdo hst hv
          subst hvi
          go_wp2
          go_quiet (fail)
          go_wp2
          go_ret2
          exact ⟨i, p - i, by go_num, Ht.out, below_drewN HBo.out _⟩
        · have hap' := round_goes (f := f) (g := g) (p := p) (by rw [← Hn.out]; exact h12) (by rw [Hfn.out, Hn.out]) Hg.out hap (by rw [← Hn.out, ← hv]; exact hv0)
          have hpM2 : p + 1 ≤ M := by rw [HM.out, Hn.out]; exact apart_pow (by rw [Hfn.out, Hn.out]) (by rw [← Hn.out]; exact h12) Hg.out hap'
          have hfr : wo.frozen? ⟨w.heap.size + 1, st, none⟩ = false := frozen_of_row _ _ _ _ _ hsl
          have Hap := hid hap'; have HBo := hid hBo; have Hdo := hid hdo; have HO := hid hO; have Hsl := hid hsl; have Hst := hid hst
          clear hap hap' hsl hO hBo hdo hst hv
          have hM13 : M < 8192 := by omega
          go_wp2
          generalize hwn : wo.setCell ⟨w.heap.size + 1, st, none⟩ (.int .i64 ((p : Int) + 1)) = wn1
          have hsl1 : wn1.heap[w.heap.size + 1]? = some (.cells (intv (sl f g k (p + 1))).toArray 3 (0, 0)) := by
            rw [← hwn]
            exact (heap_setCell_same wo _ _ _ 3 _ Hsl.out).trans (cellsSet (by rw [sl, ← Hst.out]; unfold intv; rw [List.map_set]))
          have hO1 : Only (fun b => b = w.heap.size + 1) W1 wn1 := by rw [← hwn]; exact HO.out.set1 _ _
          have hB1 : Below w.heap.size w wn1 := HB1.out.trans (hO1.below HB1.out.size (by intro j hj; omega))
          have hd1 : wn1.heap[w.heap.size]? = some (.cells #[.slice a1 k c1, .slice a2 k c2] 24 (0, 0)) := (hO1.block _ (by omega) (by simp)).trans Hd.out
          have Hsl1 := hid hsl1; have HO1 := hid hO1; have HBn := hid hB1; have Hdn := hid hd1
          clear hwn hsl1 hO1 hB1 hd1 hc hfr
          go_loopw [9, 10] (fun s i w2 => ∃ j : Nat, j ≤ k ∧ i = .int .i64 j ∧ s = .int .i64 (nx f g p k j) ∧ Below wn1.heap.size wn1 w2) (fun _ i _ => k - (intOf i).toNat)
          case atStart => exact ⟨0, Nat.zero_le _, rfl, rfl, Below.refl _ _⟩
          case round =>
            obtain ⟨j, hj, rfl, rfl, hB2⟩ := hrel
            have HB2 := hid hB2
            by_cases hjk : j < k
            · have hd0 : wr.cell? ⟨w.heap.size, 0, none⟩ = some (.slice a1 k c1) := by
                rw [cell_of_row _ _ _ _ _ _ ((hB2.block w.heap.size (Array.getElem?_eq_some_iff.1 Hdn.out).1).trans Hdn.out)]; rfl
              obtain ⟨b1, off1, rfl, hcf⟩ := ((Hx.out.mono HBn.out).mono hB2).at (k := j) (by rw [Hfn.out]; exact hjk)
              have hbit := bit_i64 (st := st) (by omega) j
              obtain ⟨bv, hbv⟩ : ∃ bv, bv = st / 2 ^ j % 2 := ⟨_, rfl⟩
              have hnx : nx f g p k (j + 1) = nx f g p k j + nth f j * (bv : Int) := by rw [hbv, Hst.out]; rfl
              have hbv2 : bv = 0 ∨ bv = 1 := by omega
              rw [← hbv] at hbit
              have hnl := nx_le (g := g) Hf.out p k j
              obtain ⟨sv, hsv⟩ : ∃ sv, sv = nx f g p k j := ⟨_, rfl⟩
              rw [← hsv] at hnx hnl ⊢
              have hm := mul_bit (isBits_nth Hf.out j) (show (bv : Int) = 0 ∨ (bv : Int) = 1 by omega)
              obtain ⟨fv, hfv⟩ : ∃ fv, fv = nth f j := ⟨_, rfl⟩
              rw [← hfv] at hcf hnx hm
              have hm0 : 0 ≤ fv * (bv : Int) := by omega
              have hm1 : fv * (bv : Int) ≤ 1 := by omega
              have Hnx := hid hnx
              have hj64 : (j : Int) % 64 = (j : Int) := by omega
              clear hm hnx hsv hfv hbv hbv2 hB2
              go_wp2
              go_quiet (fail)
              go_wp2
              go_roundw
              case rel => exact ⟨j + 1, by omega, by go_num, by rw [Hnx.out], below_drewN HB2.out _⟩
              case measure => simp [intOf]; omega
            · obtain rfl : j = k := by omega
              have hnl := nx_le (g := g) Hf.out p j j
              have hstep : (2 * (st : Int) + nx f g p j j % 2) % (M : Int) = (wn f g (p + 1) j : Int) := by
                rw [HM.out, Hst.out, Hn.out]; exact wn_step Hg.out (by rw [Hfn.out, Hn.out]) p
              obtain ⟨sv, hsv⟩ : ∃ sv, sv = nx f g p j j := ⟨_, rfl⟩
              rw [← hsv] at hnl hstep ⊢
              have hs0 : 0 ≤ sv % 2 := by omega
              have hs1 : sv % 2 ≤ 1 := by omega
              clear hsv hB2
              go_wp2
              go_roundw
              case rel =>
                exact ⟨p + 1, by go_num, by rw [hstep], Hap.out, (HB2.out.block _ (Array.getElem?_eq_some_iff.1 Hsl1.out).1).trans Hsl1.out, HO1.out.trans (Only.of_below HB2.out)⟩
              case measure => simp [intOf]; omega

end Go.Proofs.Ytjnijhnphhpilaa
