/- Walks of the reference: from (recursive), Back. Walk of the reference: Back. Walk of the reference: Numbered. Walk of the reference: Path. Walks: best (of paths). Walks: the order of paths by their falls. Walks: less of fractions, the reference's. Walk: all paths, by the program. -/
import Derived.Test.YtnnojhpioenhbaaKE
import Derived.Test.YtnnojhpioenhbaaKD
import Derived.ArgAppend
namespace Go.Proofs.Ytnnojhpioenhbaa
open Go.RowKit Go.Shelf

set_option maxRecDepth 100000 in
set_option maxHeartbeats 2000000 in
theorem from_c (pa : Option Addr) (pc : Nat) (ya : Option Addr) (yc : Nat) (B : Bd) (lv : Int) (s : Nat) (hB : Bok B) (hlv : -5 ≤ lv ∧ lv ≤ 5) (hs : s ≤ B.pins.length) : ∀ (d : Nat), d ≤ B.pins.length → ∀ (k : Nat), k ≤ B.pins.length - d → ∀ (w : World), BdAt w pa ya B →
    Calls Try.prog 74 #[.agg #[.slice pa B.pins.length pc, .slice ya B.pays.length yc], .int .i64 lv, .int .i64 (B.pins.length - d : Nat), .int .i64 k, .int .i64 s] w fun e w' => e = .returned (.int .i64 (Fb (Rt B lv) B.pins.length s d k)) ∧ Below w.heap.size w w' := by
  intro d
  have hn8 := hB.n8
  induction d with
  | zero =>
    intro _ k hk w hb
    have HB0 := hid (bnew w (.cells #[.slice pa B.pins.length pc, .slice ya B.pays.length yc] 25))
    obtain ⟨W, hW⟩ : ∃ W, W = w.alloc (.cells #[.slice pa B.pins.length pc, .slice ya B.pays.length yc] 25) := ⟨_, rfl⟩
    have hbW := hb.mono HB0.out
    rw [← hW] at hbW HB0
    have k0 : W.cell? ⟨w.heap.size, 0, none⟩ = some (.slice pa B.pins.length pc) := by rw [hW]; simp [go_sem]
    have k1 : W.cell? ⟨w.heap.size, 1, none⟩ = some (.slice ya B.pays.length yc) := by rw [hW]; simp [go_sem]
    have HW := hid hW
    rw [Nat.sub_zero]
    clear hW hbW hb hB hlv
    by_cases hks : k = s
    · have hI : (k : Int) = (s : Int) := by omega
      have HE := hid (show Fb (Rt B lv) B.pins.length s 0 k = 1 by simp only [Fb]; rw [if_pos hks])
      clear hks
      go_enter Try.func74, Try.ntmps74
      go_upto_region 1 with (fail)
      rw [← HW.out]
      go_wp2
      go_ret
      exact ⟨by rw [HE.out]; rfl, HB0.out⟩
    · have hI : ¬ (k : Int) = (s : Int) := by omega
      have hd : decide ((k : Int) = (s : Int)) = false := decide_eq_false hI
      have HE := hid (show Fb (Rt B lv) B.pins.length s 0 k = 0 by simp only [Fb]; rw [if_neg hks])
      clear hks
      go_enter Try.func74, Try.ntmps74
      go_upto_region 1 with (fail)
      rw [← HW.out]
      go_wp2
      go_ret
      exact ⟨by rw [HE.out]; rfl, HB0.out⟩
  | succ d ih =>
    intro hd k hk w hb
    have HB0 := hid (bnew w (.cells #[.slice pa B.pins.length pc, .slice ya B.pays.length yc] 25))
    obtain ⟨W, hW⟩ : ∃ W, W = w.alloc (.cells #[.slice pa B.pins.length pc, .slice ya B.pays.length yc] 25) := ⟨_, rfl⟩
    have hbW := hb.mono HB0.out
    rw [← hW] at hbW HB0
    have k0 : W.cell? ⟨w.heap.size, 0, none⟩ = some (.slice pa B.pins.length pc) := by rw [hW]; simp [go_sem]
    have k1 : W.cell? ⟨w.heap.size, 1, none⟩ = some (.slice ya B.pays.length yc) := by rw [hW]; simp [go_sem]
    have HW := hid hW
    obtain ⟨r, hr⟩ : ∃ r, r = B.pins.length - (d + 1) := ⟨_, rfl⟩
    have hrd : ((B.pins.length - d : Nat) : Int) = (r : Int) + 1 := by omega
    have HR := hid fun (w' : World) (h : Below W.heap.size W w') => rRight_c pa pc ya yc B lv r k w' (hbW.mono h) hB hlv (by omega) (by omega)
    have H0 := hid fun (w' : World) (h : Below W.heap.size W w') => ih (by omega) k (by omega) w' (hbW.mono h)
    have H1 := hid fun (w' : World) (h : Below W.heap.size W w') => ih (by omega) (k + 1) (by omega) w' (hbW.mono h)
    rw [hrd] at H0 H1
    rw [show ((k + 1 : Nat) : Int) = (k : Int) + 1 from rfl] at H1
    have hF : Fb (Rt B lv) B.pins.length s (d + 1) k = (10 - Rt B lv r k) * Fb (Rt B lv) B.pins.length s d k + Rt B lv r k * Fb (Rt B lv) B.pins.length s d (k + 1) := by simp only [Fb]; rw [← hr]
    have x0 := Fb_nonneg (Rt_ok B lv B.pins.length) (s := s) d (by omega) k (by omega)
    have x1 := Fb_le (Rt_ok B lv B.pins.length) hs (d := d) (k := k) (by omega) (by omega)
    have y0 := Fb_nonneg (Rt_ok B lv B.pins.length) (s := s) d (by omega) (k + 1) (by omega)
    have y1 := Fb_le (Rt_ok B lv B.pins.length) hs (d := d) (k := k + 1) (by omega) (by omega)
    have hq := Rt_ok B lv (r + 1) r k (by omega) (by omega)
    have ht := ten_le (r := d) (by omega)
    obtain ⟨q, hqq⟩ : ∃ q, q = Rt B lv r k := ⟨_, rfl⟩
    obtain ⟨x, hx⟩ : ∃ q, q = Fb (Rt B lv) B.pins.length s d k := ⟨_, rfl⟩
    obtain ⟨y, hy⟩ : ∃ q, q = Fb (Rt B lv) B.pins.length s d (k + 1) := ⟨_, rfl⟩
    rw [← hqq] at HR hF hq; rw [← hx] at H0 hF x0 x1; rw [← hy] at H1 hF y0 y1
    rw [← hr]
    have p1 := Int.mul_nonneg (show (0 : Int) ≤ 10 - q by omega) x0
    have p2 := Int.mul_nonneg hq.1 y0
    have p3 := Int.mul_le_mul_of_nonneg_left (show x ≤ 100000000 by omega) (show (0 : Int) ≤ 10 - q by omega)
    have p4 := Int.mul_le_mul_of_nonneg_left (show y ≤ 100000000 by omega) hq.1
    have e2 : IntKind.i64.wrap (10 - q) = 10 - q := wrap_i64_of (by omega) (by omega)
    have e3 : IntKind.i64.wrap ((10 - q) * x) = (10 - q) * x := wrap_i64_of (by omega) (by omega)
    have e4 : IntKind.i64.wrap (q * y) = q * y := wrap_i64_of (by omega) (by omega)
    have e5 : IntKind.i64.wrap ((10 - q) * x + q * y) = (10 - q) * x + q * y := wrap_i64_of (by omega) (by omega)
    have e6 : IntKind.i64.wrap ((k : Int) + 1) = (k : Int) + 1 := wrap_i64_of (by omega) (by omega)
    have e7 : IntKind.i64.wrap ((r : Int) + 1) = (r : Int) + 1 := wrap_i64_of (by omega) (by omega)
    have hne : ¬ (r : Int) = (B.pins.length : Int) := by omega
    have hdn : decide ((r : Int) = (B.pins.length : Int)) = false := decide_eq_false hne
    have HF := hid hF
    clear hW hbW hb hB hlv ih hr hrd hF hqq hx hy x0 x1 y0 y1 hq ht p1 p2 p3 p4
    go_enter Try.func74, Try.ntmps74
    go_upto_region 1 with (fail)
    rw [← HW.out]
    go_wp2_with fail
    refine (HR.out _ (Below.refl _ _)).mono ?_
    rintro e w1 ⟨rfl, hB⟩
    have HB1 := hid (bstep HB0.out hB)
    have hBW : Below W.heap.size W w1 := hB
    have k0 := cstep k0 hB; have k1 := cstep k1 hB
    clear hB
    go_upto_region 6 with (fail)
    go_region_with (first
      | (go_at_call 74; (with_reducible refine (H0.out _ (by with_reducible ((repeat (first | exact Below.refl _ _ | apply Below.drew | (refine bstep ?_ (by assumption)) | assumption)); all_goals fail))).mono ?_); rintro e w3 ⟨rfl, hB3⟩; first | (have k0 := cstep k0 hB3; have k1 := cstep k1 hB3) | (have k0 := cstep (w := World.drew _) k0 hB3; have k1 := cstep (w := World.drew _) k1 hB3))
      | (go_at_call 74; (with_reducible refine (H1.out _ (by with_reducible ((repeat (first | exact Below.refl _ _ | apply Below.drew | (refine bstep ?_ (by assumption)) | assumption)); all_goals fail))).mono ?_); rintro e w4 ⟨rfl, hB4⟩; first | (have k0 := cstep k0 hB4; have k1 := cstep k1 hB4) | (have k0 := cstep (w := World.drew _) k0 hB4; have k1 := cstep (w := World.drew _) k1 hB4)))
    all_goals (
      go_wp2
      go_ret
      exact ⟨by rw [HF.out]; rfl, bstep HB0.out (by with_reducible ((repeat (first | exact Below.refl _ _ | apply Below.drew | (refine bstep ?_ (by assumption)) | assumption)); all_goals fail))⟩)


end Go.Proofs.Ytnnojhpioenhbaa

namespace Go.Proofs.Ytnnojhpioenhbaa
open Go.RowKit Go.Shelf

def fbK (G : Nat → Nat → Int) (n s d k : Nat) : List Int := (List.range k).map (Fb G n s d)
theorem fbK_succ (G : Nat → Nat → Int) (n s d k : Nat) : fbK G n s d (k + 1) = fbK G n s d k ++ [Fb G n s d k] := by
  unfold fbK; rw [List.range_succ, List.map_append]; rfl
def bkK (G : Nat → Nat → Int) (n s r : Nat) : List (List Int) := (List.range r).map fun r => bkRow G n s (n - r)
theorem bkK_succ (G : Nat → Nat → Int) (n s r : Nat) : bkK G n s (r + 1) = bkK G n s r ++ [bkRow G n s (n - r)] := by
  unfold bkK; rw [List.range_succ, List.map_append]; rfl
theorem bkK_len (G : Nat → Nat → Int) (n s r : Nat) : (bkK G n s r).length = r := by simp [bkK]

set_option maxRecDepth 100000 in
set_option maxHeartbeats 4000000 in
theorem rBack_c (pa : Option Addr) (pc : Nat) (ya : Option Addr) (yc : Nat) (B : Bd) (lv : Int) (w : World) (hb : BdAt w pa ya B) (hl : B.pins.length ≤ 1000000) (slot : Int) :
    Calls Try.prog 23 #[.agg #[.slice pa B.pins.length pc, .slice ya B.pays.length yc], .int .i64 lv, .int .i64 slot] w (RowsE w (backErr B lv slot) (backX B lv slot)) := by
  have HB0 := hid (bnew w (.cells #[.slice pa B.pins.length pc, .slice ya B.pays.length yc] 25))
  obtain ⟨W, hW⟩ : ∃ W, W = w.alloc (.cells #[.slice pa B.pins.length pc, .slice ya B.pays.length yc] 25) := ⟨_, rfl⟩
  have hbW := hb.mono HB0.out
  rw [← hW] at hbW HB0
  have k0 : W.cell? ⟨w.heap.size, 0, none⟩ = some (.slice pa B.pins.length pc) := by rw [hW]; simp [go_sem]
  have k1 : W.cell? ⟨w.heap.size, 1, none⟩ = some (.slice ya B.pays.length yc) := by rw [hW]; simp [go_sem]
  have HW := hid hW
  have HA := hid (fun (w' : World) (h : Below W.heap.size W w') => at_c pa pc ya yc B lv w' (hbW.mono h) hl)
  unfold RowsE
  unfold TellI at HA
  by_cases h0 : atErr B lv = 0
  · obtain ⟨hBk, hlv⟩ := atErr_zero.1 h0
    have hn8 := hBk.n8
    rw [h0] at HA
    by_cases hs : 0 ≤ slot ∧ slot ≤ B.pins.length
    · have hE : backErr B lv slot = 0 := by unfold backErr; rw [if_pos h0, within_one.2 hs]; rfl
      have hx : backX B lv slot = backL (Rt B lv) B.pins.length slot.toNat := by unfold backX; rw [if_pos hE]
      obtain ⟨s, rfl⟩ := Int.eq_ofNat_of_zero_le hs.1
      have hsn : s ≤ B.pins.length := by omega
      have HF := hid (show ∀ (w' : World), Below W.heap.size W w' → ∀ r k : Nat, r < B.pins.length → k ≤ r → Calls Try.prog 74 #[.agg #[.slice pa B.pins.length pc, .slice ya B.pays.length yc], .int .i64 lv, .int .i64 r, .int .i64 k, .int .i64 s] w' fun e w2 => e = .returned (.int .i64 (Fb (Rt B lv) B.pins.length s (B.pins.length - r) k)) ∧ Below w'.heap.size w' w2 from fun w' h r k hr hk => by
        have := from_c pa pc ya yc B lv s hBk hlv hsn (B.pins.length - r) (by omega) k (by omega) w' (hbW.mono h)
        rwa [show B.pins.length - (B.pins.length - r) = r by omega] at this)
      rw [hE, hx, Int.toNat_natCast]
      rw [show backL (Rt B lv) B.pins.length s = bkK (Rt B lv) B.pins.length s B.pins.length from rfl]
      obtain ⟨G, hG⟩ : ∃ G, G = Rt B lv := ⟨_, rfl⟩
      rw [← hG] at HF ⊢
      have hWs : W.heap.size = w.heap.size + 1 := by rw [hW]; simp [World.size_alloc]
      have HWs := hid hWs
      have hnI : ¬ (s : Int) < 0 := by omega
      have hnI2 : ¬ (B.pins.length : Int) < (s : Int) := by omega
      have hnI3 : ¬ B.pins.length < s := by omega
      have hd1 : decide ((s : Int) < 0) = false := decide_eq_false hnI
      have hd2 : decide ((B.pins.length : Int) < (s : Int)) = false := decide_eq_false hnI2
      have hd3 : decide (B.pins.length < s) = false := decide_eq_false hnI3
      clear hW hbW hb hl hE hx hBk hlv hG hWs h0 hs
      go_enter Try.func23, Try.ntmps23
      go_upto_region 1 with (fail)
      rw [← HW.out]
      go_wp2_with fail
      refine (HA.out _ (Below.refl _ _)).mono ?_
      rintro e w1 ⟨rfl, hB⟩
      have HBW := hid hB
      have k0 := cstep k0 hB; have k1 := cstep k1 hB
      clear hB
      go_wp2
      clear hnI hnI2 hnI3 hsn hd1 hd2 hd3
      go_loopw [8, 9, 10, 11] (fun o i _ _ wr => ∃ (r : Nat) (ao : Option Addr) (cap : Nat) (vs : List Value), r ≤ B.pins.length ∧ i = .int .i64 r ∧ o = .slice ao r cap ∧ OwnR 23 2 (w.heap.size + 1) wr ao r cap (bkK G B.pins.length s r) vs ∧ Below W.heap.size W wr ∧
        wr.cell? ⟨w.heap.size, 0, none⟩ = some (.slice pa B.pins.length pc) ∧ wr.cell? ⟨w.heap.size, 1, none⟩ = some (.slice ya B.pays.length yc)) (fun _ i _ _ _ => B.pins.length - (intOf i).toNat)
      case atStart => exact ⟨0, none, 0, [], Nat.zero_le _, rfl, rfl, OwnR.nil _ _ _ _, HBW.out, k0, k1⟩
      case round =>
        obtain ⟨r, ao, cap, vs, hr, rfl, rfl, ho, hBr, k0, k1⟩ := hrel
        obtain ⟨wo, rfl⟩ : ∃ wo : World, wo = wr := ⟨_, rfl⟩
        have Ho := hid ho; have HBo := hid hBr
        clear ho hBr
        by_cases hlt : r < B.pins.length
        · have hrI : (r : Int) < (B.pins.length : Int) := by omega
          have HwL := hid (show w.heap.size < wo.heap.size from block_lt_of_cell k0)
          have K0 := hid k0; have K1 := hid k1
          obtain ⟨d, hd⟩ : ∃ d, d = B.pins.length - r := ⟨_, rfl⟩
          have HFd := hid fun (w' : World) (h : Below W.heap.size W w') (k : Nat) (hk : k ≤ r) => HF.out w' h r k hlt hk
          rw [← hd] at HFd
          have Hdn := hid (show B.pins.length - d = r by omega)
          have Hd := hid hd
          clear hd
          go_wp2
          go_loopw [10, 11] (fun o i wr => ∃ (k : Nat) (ai : Option Addr) (ci : Nat), k ≤ r + 1 ∧ i = .int .i64 k ∧ o = .slice ai k ci ∧ OwnI 2 wo.heap.size wr ai k ci (fbK G B.pins.length s d k) ∧ Below wo.heap.size wo wr) (fun _ i _ => r + 1 - (intOf i).toNat)
          case atStart => exact ⟨0, none, 0, Nat.zero_le _, rfl, rfl, OwnI.nil _ _ _, Below.refl _ _⟩
          case round =>
            obtain ⟨k, ai, ci, hk, rfl, rfl, hoi, hBi⟩ := hrel
            obtain ⟨wi, rfl⟩ : ∃ wi : World, wi = wr := ⟨_, rfl⟩
            have HBi := hid (bstep HBo.out hBi)
            have k0 := cstep K0.out hBi; have k1 := cstep K1.out hBi
            have HBoi := hid hBi; have Hoi := hid hoi
            clear hBi hoi
            by_cases hkr : k < r + 1
            · have hkI : (k : Int) ≤ (r : Int) := by omega
              have HFk := hid (HFd.out wi HBi.out k (by omega))
              have hst := fbK_succ G B.pins.length s d k
              obtain ⟨v, hv⟩ : ∃ v, v = Fb G B.pins.length s d k := ⟨_, rfl⟩
              rw [← hv] at HFk hst
              have e6 : IntKind.i64.wrap ((k : Int) + 1) = (k : Int) + 1 := wrap_i64_of (by omega) (by omega)
              have Hst := hid hst
              clear hst hv
              go_wp2_with fail
              refine HFk.out.mono ?_
              rintro e w2 ⟨rfl, hB2⟩
              obtain ⟨L, hL⟩ : ∃ L, L = w2.alloc (.cells #[.int .i64 v] 2) := ⟨_, rfl⟩
              have hBL : Below w2.heap.size w2 L := by rw [hL]; exact bnew _ _
              have hoL := (Hoi.out.kept hB2).kept hBL
              have hcL : L.cell? ⟨w2.heap.size, 0, none⟩ = some (.int .i64 v) := by rw [hL]; simp [go_sem]
              have hBoL := bstep (bstep HBoi.out hB2) hBL
              have hsz : wo.heap.size ≤ L.heap.size := hBoL.size
              have HoL := hid hoL; have HL := hid hL; have HBoL := hid hBoL
              clear hB2 hBL hoL hL hBoL k0 k1
              go_wp2_with (at_builtin; rw [← HL.out]; refine wpList_appV et23 _ rfl _ _ rfl wo.heap.size ai k ci (intv (fbK G B.pins.length s d k)) rfl HoL.out.2 (some ⟨w2.heap.size, 0, none⟩) 1 1 (intv [v]) rfl (cellsAt_one rfl hcL) rfl (intv_one _) (fun h => by cases h) ?c3 hsz ?_; rotate_right; (intro ao' cap' w' hB' hown' hgr' hn'; refine Hid.out ?_))
              case c3 => omega
              refine hid ?_
              have Hnew := hid (OwnI.app HoL.out.1 rfl hown')
              have HBn := hid (HBoL.out.trans hB')
              clear hB' hown' hgr' hn'
              go_wp2
              go_roundw
              case rel => exact ⟨k + 1, ao', cap', by omega, by go_num, rfl, by rw [Hst.out]; exact Hnew.out, HBn.out⟩
              case measure => simp [intOf]; omega
            · obtain rfl : k = r + 1 := by omega
              have hkI : ¬ (((r + 1 : Nat) : Int) ≤ (r : Int)) := by omega
              have hrow : fbK G B.pins.length s d (r + 1) = bkRow G B.pins.length s d := by unfold fbK bkRow; rw [Hdn.out]
              have hnx := Hoi.out.base (show w.heap.size + 1 ≤ wo.heap.size from HwL.out)
              rw [hrow] at hnx
              obtain ⟨L, hL⟩ : ∃ L, L = wi.alloc (.cells #[.slice ai (r + 1) ci] 23) := ⟨_, rfl⟩
              have hBL : Below wi.heap.size wi L := by rw [hL]; exact bnew _ _
              have hoi2 : OwnR 23 2 (w.heap.size + 1) wi ao r cap (bkK G B.pins.length s r) vs := Ho.out.old (w' := wi) fun j hj => HBoi.out.block j hj
              have hoL := hoi2.kept hBL
              have hnL := hnx.kept hBL
              have hcL : L.cell? ⟨wi.heap.size, 0, none⟩ = some (.slice ai (r + 1) ci) := by rw [hL]; simp [go_sem]
              have hsz : w.heap.size + 1 ≤ L.heap.size := by have := hBL.size; have := HwL.out; have := HBoi.out.size; omega
              have HoL := hid hoL; have HnL := hid hnL; have HL := hid hL; have HBL := hid (bstep HBi.out hBL)
              have Hk0 := hid (cstep k0 hBL); have Hk1 := hid (cstep k1 hBL)
              have hsu := bkK_succ G B.pins.length s r
              rw [← Hd.out] at hsu
              have Hsu := hid hsu
              clear hrow hnx hBL hoL hnL hL hoi2 hsu k0 k1
              go_wp2_with (at_builtin; rw [← HL.out]; refine wpList_appV et35 _ rfl _ _ rfl (w.heap.size + 1) ao r cap vs rfl HoL.out.own (some ⟨wi.heap.size, 0, none⟩) 1 1 [.slice ai (r + 1) ci] rfl (cellsAt_one rfl hcL) rfl (fun u hu => by rw [List.mem_singleton.1 hu]; rfl) (fun h => by cases h) ?c13 hsz ?_; rotate_right; (intro ao' cap' w' hB' hown' hgr' hn'; refine Hid.out ?_))
              case c13 => omega
              refine hid ?_
              have Hnew := hid (OwnR.app HoL.out (by decide) hgr' HnL.out hown')
              have hB'' : Below W.heap.size L w' := by rw [HWs.out]; exact hB'
              have HBn := hid (HBL.out.trans hB'')
              have k0 : w'.cell? ⟨w.heap.size, 0, none⟩ = some (.slice pa B.pins.length pc) := (hB'.cell (p := ⟨w.heap.size, 0, none⟩) (Nat.lt_succ_self _)).trans Hk0.out
              have k1 : w'.cell? ⟨w.heap.size, 1, none⟩ = some (.slice ya B.pays.length yc) := (hB'.cell (p := ⟨w.heap.size, 1, none⟩) (Nat.lt_succ_self _)).trans Hk1.out
              have e7 : IntKind.i64.wrap ((r : Int) + 1) = (r : Int) + 1 := wrap_i64_of (by omega) (by omega)
              clear hB' hB'' hown' hgr' hn'
              go_wp2
              go_roundw
              case rel => exact ⟨r + 1, ao', cap', _, by omega, by go_num, rfl, by rw [Hsu.out]; exact Hnew.out, HBn.out, k0, k1⟩
              case measure => simp [intOf]; omega
        · obtain rfl : r = B.pins.length := by omega
          have Hl := hid (bkK_len G B.pins.length s B.pins.length)
          have hat := Ho.out.at
          have hnn : ao = none → cap = 0 := fun h => (Ho.out.own.none h).2
          have HB2 := hid (bstep HB0.out HBo.out)
          have Hat := hid hat
          clear hat
          go_wp2
          go_ret2
          exact ⟨_, _, by rw [Hl.out]; rfl, Hat.out, hnn, HB2.out⟩
    · have hE : backErr B lv slot = 3 := by unfold backErr; rw [if_pos h0, if_neg (fun h => hs (within_one.1 h))]
      have hx : backX B lv slot = [] := by unfold backX; rw [if_neg (by omega)]
      rw [hE, hx]
      clear hW hbW hb hl hE hx hBk hlv h0
      go_enter Try.func23, Try.ntmps23
      go_upto_region 1 with (fail)
      rw [← HW.out]
      go_wp2_with fail
      refine (HA.out _ (Below.refl _ _)).mono ?_
      rintro e w1 ⟨rfl, hB⟩
      have HB1 := hid (bstep HB0.out hB)
      have k0 := cstep k0 hB; have k1 := cstep k1 hB
      clear hB
      by_cases h1 : slot < 0
      · go_wp2
        go_ret2
        exact ⟨none, 0, rfl, .inl rfl, fun _ => rfl, HB1.out⟩
      · have h2 : (B.pins.length : Int) < slot := by omega
        go_wp2
        go_ret2
        exact ⟨none, 0, rfl, .inl rfl, fun _ => rfl, HB1.out⟩
  · have hE : backErr B lv slot = atErr B lv := by unfold backErr; rw [if_neg h0]
    have hx : backX B lv slot = [] := by unfold backX; rw [if_neg (by rw [hE]; exact h0)]
    rw [hE, hx]
    obtain ⟨v, hv⟩ : ∃ v, v = atErr B lv := ⟨_, rfl⟩
    rw [← hv] at HA h0 ⊢
    clear hW hbW hb hl hx hv hE
    go_enter Try.func23, Try.ntmps23
    go_upto_region 1 with (fail)
    rw [← HW.out]
    go_wp2_with fail
    refine (HA.out _ (Below.refl _ _)).mono ?_
    rintro e w1 ⟨rfl, hB⟩
    have HB1 := hid (bstep HB0.out hB); have HBW := hid hB
    have k0 := cstep k0 hB; have k1 := cstep k1 hB
    clear hB
    go_wp2_with fail
    refine (HA.out _ HBW.out).mono ?_
    rintro e w2 ⟨rfl, hB⟩
    have HB2 := hid (bstep HB1.out hB)
    clear hB
    go_wp2
    go_ret2
    exact ⟨none, 0, rfl, .inl rfl, fun _ => rfl, HB2.out⟩


end Go.Proofs.Ytnnojhpioenhbaa

namespace Go.Proofs.Ytnnojhpioenhbaa
open Go.RowKit Go.Shelf

def nmK (n m i : Nat) : List Int := (List.range n).map fun j => if n - 1 - j < i then ((m / 2 ^ (n - 1 - j) % 2 : Nat) : Int) else 0
theorem nmK_len (n m i : Nat) : (nmK n m i).length = n := by simp [nmK]
theorem nmK_zero (n m : Nat) : nmK n m 0 = List.replicate n 0 := by
  unfold nmK; rw [List.eq_replicate_iff]
  refine ⟨by simp, fun x hx => ?_⟩
  obtain ⟨j, _, rfl⟩ := List.mem_map.1 hx; simp
theorem nmK_end (n m : Nat) : nmK n m n = numb n m := by
  apply List.ext_getElem (by rw [nmK_len, numb_len])
  intro j h1 h2
  rw [nmK_len] at h1
  have := numb_get n m j h1
  rw [List.getD, List.getElem?_eq_getElem h2, Option.getD_some] at this
  rw [this]; simp only [nmK, List.getElem_map, List.getElem_range]; rw [if_pos (by omega)]
theorem nmK_step (n m i : Nat) (hi : i < n) : nmK n m (i + 1) = (nmK n m i).set (n - 1 - i) ((m / 2 ^ i % 2 : Nat) : Int) := by
  apply List.ext_getElem (by simp [nmK])
  intro j h1 h2
  rw [nmK_len] at h1
  rw [List.getElem_set]
  simp only [nmK, List.getElem_map, List.getElem_range]
  by_cases e : n - 1 - i = j
  · rw [if_pos e, if_pos (by omega), show n - 1 - j = i by omega]
  · rw [if_neg e]
    by_cases h : n - 1 - j < i
    · rw [if_pos h, if_pos (by omega)]
    · rw [if_neg h, if_neg (by omega)]

theorem bitsAnd1 : ∀ a : Fin 256, bits .and .i64 ((a.val : Nat) : Int) 1 = ((a.val % 2 : Nat) : Int) := by decide +kernel

set_option maxRecDepth 100000 in
set_option maxHeartbeats 1000000 in
theorem numbered_c (n m : Nat) (w : World) (hn : n ≤ 8) (hm : m < 256) :
    Calls Try.prog 59 #[.int .i64 n, .int .i64 m] w fun e w' => e = .returned (.slice (some ⟨w.heap.size, 0, none⟩) n n) ∧ w'.heap[w.heap.size]? = some (.cells (intv (numb n m)).toArray 3 (0, 0)) ∧ Below w.heap.size w w' := by
  obtain ⟨N3, hN3⟩ : ∃ N1, N1 = (intv (List.replicate n 0)).toArray := ⟨_, rfl⟩
  have hm3 : ∀ w' : World, (Instr.makeSlice 42 (.int .i64 n) (.int .i64 n)).run Try.prog w' = .ok (.slice (some ⟨w'.heap.size, 0, none⟩) n n) (w'.alloc (.cells N3 3)) := fun w' => by
    have := run_make_ints et42 w' n n (Nat.le_refl _) (by omega)
    rw [← hN3] at this; exact this
  have hz3 := heap_alloc_new w (.cells N3 3)
  have Hz3 := hid (show (w.alloc (.cells N3 3)).heap[w.heap.size]? = some (.cells (intv (nmK n m 0)).toArray 3 (0, 0)) by rw [hz3, hN3, nmK_zero])
  have HB0 := hid (bnew w (.cells N3 3))
  clear hN3 hz3
  go_enter Try.func59, Try.ntmps59
  go_wp2
  go_loopw [6] (fun i wr => ∃ k : Nat, k ≤ n ∧ i = .int .i64 k ∧ wr.heap[w.heap.size]? = some (.cells (intv (nmK n m k)).toArray 3 (0, 0)) ∧ Below w.heap.size w wr) (fun i _ => n - (intOf i).toNat)
  case atStart => exact ⟨0, Nat.zero_le _, rfl, Hz3.out, HB0.out⟩
  case round =>
    obtain ⟨k, hk, rfl, hh, hB⟩ := hrel
    obtain ⟨wi, rfl⟩ : ∃ wi : World, wi = wr := ⟨_, rfl⟩
    by_cases hlt : k < n
    · have hI : (k : Int) < (n : Int) := by omega
      obtain ⟨p, hp⟩ : ∃ p, p = n - 1 - k := ⟨_, rfl⟩
      have e1 : IntKind.i64.wrap ((n : Int) - 1) = (n : Int) - 1 := wrap_i64_of (by omega) (by omega)
      have e2 : IntKind.i64.wrap ((n : Int) - 1 - (k : Int)) = (p : Int) := by rw [wrap_i64_of (by omega) (by omega)]; omega
      have e6 : IntKind.i64.wrap ((k : Int) + 1) = (k : Int) + 1 := wrap_i64_of (by omega) (by omega)
      have hpI : (p : Int) < (n : Int) := by omega
      have hc : wi.cell? ⟨w.heap.size, p, none⟩ = some (.int .i64 0) := by
        rw [cell_of_row _ _ _ _ _ _ hh, List.getElem?_toArray, intv_get, if_pos (by rw [nmK_len]; omega)]
        rw [nth_eq (by rw [nmK_len]; omega)]; simp only [nmK, List.getElem_map, List.getElem_range]; rw [if_neg (by omega)]
      have hf : wi.frozen? ⟨w.heap.size, p, none⟩ = false := frozen_of_row _ _ _ _ _ hh
      have Hh := hid hh; have HB := hid hB
      have Hst := hid (nmK_step n m k hlt)
      have hbt : bits .and .i64 ((m : Int) / 2 ^ k) 1 = ((m / 2 ^ k % 2 : Nat) : Int) := by
        have := bitsAnd1 ⟨m / 2 ^ k, Nat.lt_of_le_of_lt (Nat.div_le_self _ _) hm⟩
        simpa using this
      have Hbt := hid hbt
      have Hp := hid hp
      clear hh hB hp hbt
      go_wp2
      rw [Hbt.out]
      refine ⟨⟨k + 1, by omega, by go_num, (heap_setCell_same wi _ p _ 3 _ Hh.out).trans ?_, HB.out.setCell (p := ⟨w.heap.size, p, none⟩) (Nat.le_refl _) _⟩, by simp [intOf]; omega⟩
      rw [intv_set, Hst.out, Hp.out]
    · obtain rfl : k = n := by omega
      have hI : ¬ ((k : Int) < (k : Int)) := by omega
      rw [nmK_end] at hh
      have Hh := hid hh; have HB := hid hB
      clear hh hB
      go_wp2
      go_ret
      exact ⟨rfl, Hh.out, HB.out⟩

end Go.Proofs.Ytnnojhpioenhbaa

namespace Go.Proofs.Ytnnojhpioenhbaa
open Go.RowKit Go.Shelf

def falN (B : Bd) (lv : Int) (i : Nat) : Int := fallsOf (Rt B lv) (numb B.pins.length i)
def pathX (B : Bd) (lv : Int) : List Int := if atErr B lv = 0 then numb B.pins.length (bestN (falN B lv) (2 ^ B.pins.length)) else []
/-- the most falls among the first k -/
def mostK (f : Nat → Int) (k : Nat) : Int := if k = 0 then -1 else f (bestN f k)
theorem bestN_most (f : Nat → Int) (k : Nat) : bestN f (k + 1) = if mostK f k < f k then k else bestN f k := by
  cases k with
  | zero => simp [bestN]
  | succ k =>
    have e : mostK f (k + 1) = f (bestN f (k + 1)) := by unfold mostK; rw [if_neg (by omega)]
    have e2 : bestN f (k + 1 + 1) = if f (bestN f (k + 1)) < f (k + 1) then k + 1 else bestN f (k + 1) := rfl
    rw [e2]
    by_cases hh : f (bestN f (k + 1)) < f (k + 1)
    · rw [if_pos hh, if_pos (by omega)]
    · rw [if_neg hh, if_neg (by omega)]

theorem ints_of_row {w : World} {b : Nat} {e : TypeId} {xs : List Int} (hh : w.heap[b]? = some (.cells (intv xs).toArray e (0, 0))) : IntsAt w (some ⟨b, 0, none⟩) xs := by
  refine .inr ⟨b, 0, rfl, fun k hk => ?_⟩
  rw [Nat.zero_add, cell_of_row _ _ _ _ _ _ hh, List.getElem?_toArray, intv_get, if_pos hk]
theorem mostK_succ (f : Nat → Int) (h : ∀ i, 0 ≤ f i) (k : Nat) : mostK f (k + 1) = if mostK f k < f k then f k else mostK f k := by
  have h1 : mostK f (k + 1) = f (bestN f (k + 1)) := by unfold mostK; rw [if_neg (by omega)]
  rw [h1, bestN_most f]
  split
  · rfl
  · rename_i hn
    cases k with
    | zero => have := h 0; simp [mostK] at hn; omega
    | succ k => unfold mostK; rw [if_neg (by omega)]

set_option maxRecDepth 100000 in
set_option maxHeartbeats 4000000 in
theorem rPath_c (pa : Option Addr) (pc : Nat) (ya : Option Addr) (yc : Nat) (B : Bd) (lv : Int) (w : World) (hb : BdAt w pa ya B) (hl : B.pins.length ≤ 1000000) :
    Calls Try.prog 31 #[.agg #[.slice pa B.pins.length pc, .slice ya B.pays.length yc], .int .i64 lv] w (SliceE w (atErr B lv) (pathX B lv)) := by
  have HB0 := hid (bnew w (.cells #[.slice pa B.pins.length pc, .slice ya B.pays.length yc] 25))
  obtain ⟨W, hW⟩ : ∃ W, W = w.alloc (.cells #[.slice pa B.pins.length pc, .slice ya B.pays.length yc] 25) := ⟨_, rfl⟩
  have hbW := hb.mono HB0.out
  rw [← hW] at hbW HB0
  have k0 : W.cell? ⟨w.heap.size, 0, none⟩ = some (.slice pa B.pins.length pc) := by rw [hW]; simp [go_sem]
  have k1 : W.cell? ⟨w.heap.size, 1, none⟩ = some (.slice ya B.pays.length yc) := by rw [hW]; simp [go_sem]
  have HW := hid hW
  have HA := hid (fun (w' : World) (h : Below W.heap.size W w') => at_c pa pc ya yc B lv w' (hbW.mono h) hl)
  unfold SliceE
  unfold TellI at HA
  by_cases h0 : atErr B lv = 0
  · obtain ⟨hBk, hlv⟩ := atErr_zero.1 h0
    have hn8 := hBk.n8
    rw [h0] at HA
    have hx : pathX B lv = numb B.pins.length (bestN (falN B lv) (2 ^ B.pins.length)) := by unfold pathX; rw [if_pos h0]
    have HF := hid (show ∀ (w' : World), Below W.heap.size W w' → ∀ (a : Option Addr) (cap i : Nat), IntsAt w' a (numb B.pins.length i) →
        Calls Try.prog 79 #[.agg #[.slice pa B.pins.length pc, .slice ya B.pays.length yc], .int .i64 lv, .slice a B.pins.length cap] w' fun e w2 => e = .returned (.tuple #[.int .i64 (falN B lv i), .int .i64 (slotOf (Rt B lv) (numb B.pins.length i) : Nat)]) ∧ Below w'.heap.size w' w2 from fun w' h a cap i ha => by
      have := fallsOf_c pa pc ya yc B lv a cap (numb B.pins.length i) w' (hbW.mono h) hBk hlv ha (numb_len _ _) (fun k hk => numb_mem _ i _ (by rw [nth_eq hk]; exact List.getElem_mem hk))
      rw [numb_len] at this
      exact this)
    have hf0 : ∀ i, 0 ≤ falN B lv i := fun i => (fallsOf_nonneg (Rt_ok B lv B.pins.length) i).1
    have HN := hid fun (i : Nat) (w' : World) (hi : i < 256) => numbered_c B.pins.length i w' hn8 hi
    rw [h0, hx]
    have Hb := hid (bestN_most (falN B lv))
    have Hm := hid (mostK_succ (falN B lv) hf0)
    have hpow : (2 : Nat) ^ B.pins.length ≤ 2 ^ 8 := Nat.pow_le_pow_right (by omega) hn8
    obtain ⟨M, hM⟩ : ∃ M, M = 2 ^ B.pins.length := ⟨_, rfl⟩
    have hM8 : M ≤ 256 := by omega
    have eM : IntKind.i64.wrap ((2 : Int) ^ B.pins.length) = (M : Int) := by
      rw [show (2 : Int) ^ B.pins.length = (M : Int) by rw [hM]; simp]
      exact wrap_i64_of (by omega) (by omega)
    have Hnl := hid (numb_len B.pins.length)
    rw [← hM]
    obtain ⟨f, hf⟩ : ∃ f, f = falN B lv := ⟨_, rfl⟩
    simp only [← hf] at Hb Hm HF ⊢
    clear hW hbW hb hl h0 hx hBk hlv hf hf0 hM hpow
    go_enter Try.func31, Try.ntmps31
    go_upto_region 1 with (fail)
    rw [← HW.out]
    go_wp2_with fail
    refine (HA.out _ (Below.refl _ _)).mono ?_
    rintro e w1 ⟨rfl, hB⟩
    have HBW := hid hB
    have k0 := cstep k0 hB; have k1 := cstep k1 hB
    clear hB
    go_wp2_with fail
    refine (HN.out 0 w1 (by omega)).mono ?_
    rintro e w2 ⟨rfl, hh, hB⟩
    have HBW2 := hid (bstep HBW.out hB)
    have k0 := cstep k0 hB; have k1 := cstep k1 hB
    have Hh := hid hh
    clear hB hh
    have hi := ints_of_row Hh.out
    have Hi := hid hi
    clear hi Hh
    go_wp2
    go_loopw [6, 7, 8, 9, 10, 11] (fun o mo i _ _ _ wr => ∃ (k : Nat) (a : Option Addr) (c : Nat), k ≤ M ∧ i = .int .i64 k ∧ o = .slice a B.pins.length c ∧ mo = .int .i64 (mostK f k) ∧ IntsAt wr a (numb B.pins.length (bestN f k)) ∧ (a = none → c = 0) ∧ Below W.heap.size W wr ∧
      wr.cell? ⟨w.heap.size, 0, none⟩ = some (.slice pa B.pins.length pc) ∧ wr.cell? ⟨w.heap.size, 1, none⟩ = some (.slice ya B.pays.length yc)) (fun _ _ i _ _ _ _ => M - (intOf i).toNat)
    case atStart => exact ⟨0, _, _, Nat.zero_le _, rfl, rfl, rfl, Hi.out, (fun h => by cases h), HBW2.out, k0, k1⟩
    case round =>
      obtain ⟨k, a, c, hk, rfl, rfl, rfl, hi, hn, hBr, k0, k1⟩ := hrel
      obtain ⟨wo, rfl⟩ : ∃ wo : World, wo = wr := ⟨_, rfl⟩
      have HBo := hid hBr; have HI := hid hi; have Hna := hid hn
      clear hBr hi hn
      by_cases hlt : k < M
      · have hI : (k : Int) < (M : Int) := by omega
        have HNk := hid (HN.out k wo (by omega))
        have hbk := Hb.out k
        have hmk := Hm.out k
        have e6 : IntKind.i64.wrap ((k : Int) + 1) = (k : Int) + 1 := wrap_i64_of (by omega) (by omega)
        go_wp2_with fail
        refine HNk.out.mono ?_
        rintro e w3 ⟨rfl, hh, hB3⟩
        have HBo3 := hid (bstep HBo.out hB3)
        have k0 := cstep k0 hB3; have k1 := cstep k1 hB3
        have hIa := HI.out.mono hB3
        have hin := ints_of_row hh
        have HF3 := hid (HF.out w3 HBo3.out _ B.pins.length k hin)
        have HIa := hid hIa; have Hin := hid hin
        clear hB3 hh hIa hin
        go_wp2_with fail
        refine HF3.out.mono ?_
        rintro e w4 ⟨rfl, hB4⟩
        have HB4 := hid (bstep HBo3.out hB4)
        have k0 := cstep k0 hB4; have k1 := cstep k1 hB4
        have hIa := HIa.out.mono hB4
        have hin := Hin.out.mono hB4
        have HIa4 := hid hIa; have Hin4 := hid hin
        clear hB4 hIa hin
        by_cases hlm : mostK f k < f k
        · rw [if_pos hlm] at hbk hmk
          have Hbk := hid hbk; have Hmk := hid hmk
          clear hbk hmk
          go_wp2
          go_roundw
          case rel => exact ⟨k + 1, _, _, by omega, by go_num, rfl, by rw [Hmk.out], by rw [Hbk.out]; exact Hin4.out, (fun h => by cases h), HB4.out, k0, k1⟩
          case measure => simp [intOf]; omega
        · rw [if_neg hlm] at hbk hmk
          have Hbk := hid hbk; have Hmk := hid hmk
          clear hbk hmk
          go_wp2
          go_roundw
          case rel => exact ⟨k + 1, a, c, by omega, by go_num, rfl, by rw [Hmk.out], by rw [Hbk.out]; exact HIa4.out, Hna.out, HB4.out, k0, k1⟩
          case measure => simp [intOf]; omega
      · obtain rfl : k = M := by omega
        have hI : ¬ (k : Int) < (k : Int) := by omega
        have HB2 := hid (bstep HB0.out HBo.out)
        go_wp2
        go_ret2
        exact ⟨a, c, by rw [Hnl.out]; rfl, HI.out, Hna.out, HB2.out⟩
  · have hx : pathX B lv = [] := by unfold pathX; rw [if_neg h0]
    rw [hx]
    obtain ⟨v, hv⟩ : ∃ v, v = atErr B lv := ⟨_, rfl⟩
    rw [← hv] at HA h0 ⊢
    clear hW hbW hb hl hx hv
    go_enter Try.func31, Try.ntmps31
    go_upto_region 1 with (fail)
    rw [← HW.out]
    go_wp2_with fail
    refine (HA.out _ (Below.refl _ _)).mono ?_
    rintro e w1 ⟨rfl, hB⟩
    have HB1 := hid (bstep HB0.out hB); have HBW := hid hB
    have k0 := cstep k0 hB; have k1 := cstep k1 hB
    clear hB
    go_wp2_with fail
    refine (HA.out _ HBW.out).mono ?_
    rintro e w2 ⟨rfl, hB⟩
    have HB2 := hid (bstep HB1.out hB)
    clear hB
    go_wp2
    go_ret2
    exact ⟨none, 0, rfl, .inl rfl, fun _ => rfl, HB2.out⟩


end Go.Proofs.Ytnnojhpioenhbaa

namespace Go.Proofs.Ytnnojhpioenhbaa
open Go.RowKit Go.Shelf

set_option maxRecDepth 100000 in
theorem sizeOf42 (w : World) : (sizeOf 42).run Try.prog w = .ok 1 w := by simp [go_sem]
set_option maxRecDepth 100000 in
theorem elem22 : Try.prog.elem 22 = 42 := by kernel_rfl
set_option maxRecDepth 100000 in
/-- a list of lists without its first -/
theorem tail22 (b off n c : Nat) (hn : 1 ≤ n) (w' : World) : (Instr.slice 22 (.slice (some ⟨b, off, none⟩) n c) (some (.int .i64 1)) none none).run Try.prog w' = .ok (.slice (if c = 1 then some ⟨b, off, none⟩ else some ⟨b, off + 1, none⟩) (n - 1) (c - 1)) w' := by
  have hsz : ((sizeOf (Try.prog.elem 22)).run Try.prog w') = .ok 1 w' := by rw [elem22]; exact sizeOf42 w'
  have h := run_slice_l w' 22 (some ⟨b, off, none⟩) n c Try.underlying22 .i64 1 (by omega) (by omega)
  rw [hsz] at h
  rw [h]
  simp [Result.andThen, sliced, Addr.add_lit]

def vN (v : List Int → Int) (ls : List (List Int)) (i : Nat) : Int := v (nthL ls i)

set_option maxRecDepth 100000 in
set_option maxHeartbeats 1000000 in
theorem best_c (a : Option Addr) (cap g : Nat) (caps : Array Value) (v : List Int → Int) (ls : List (List Int)) (w : World) (hx : RowsAt w a ls) (h0 : 0 < ls.length) (hb : ls.length ≤ 1000000) (hcap : ls.length ≤ cap)
    (hg : ∀ w', Below w.heap.size w w' → ∀ (x y : List Int) (ra rb : Option Addr) (rc rd : Nat), x ∈ ls → y ∈ ls → IntsAt w' ra x → IntsAt w' rb y → Calls Try.prog g (#[.slice ra x.length rc, .slice rb y.length rd] ++ caps) w' fun e w2 => e = .returned (.bool (decide (v y < v x))) ∧ Below w'.heap.size w' w2)
    (eg : ∀ args w, (callFunc g args).run Try.prog w = .ok (.enter g args) w) :
    Calls Try.prog 80 #[.slice a ls.length cap, .func (.func g) #[] caps] w (ListR w (nthL ls (bestN (vN v ls) ls.length))) := by
  unfold ListR
  obtain ⟨b, off, ra, rc, rfl, hc0, hi0, hn0⟩ := hx.at h0
  rw [Nat.add_zero] at hc0
  have htl := tail22 b off ls.length cap (by omega)
  obtain ⟨ta, hta⟩ : ∃ ta, ta = (if cap = 1 then some (⟨b, off, none⟩ : Addr) else some ⟨b, off + 1, none⟩) := ⟨_, rfl⟩
  rw [← hta] at htl
  have Hta := hid (fun (h : 1 < ls.length) => show ta = some ⟨b, off + 1, none⟩ by rw [hta, if_neg (by omega)])
  clear hta
  have hI0 : (0 : Int) < (ls.length : Int) := by omega
  obtain ⟨n1, hn1⟩ : ∃ n1, n1 = ls.length - 1 := ⟨_, rfl⟩
  rw [← hn1] at htl
  have Hx := hid hx; have Hg := hid hg; have Hi0 := hid hi0; have Hn0 := hid hn0
  clear hx hg hi0 hn0
  go_enter Try.func80, Try.ntmps80
  go_wp2
  go_loopw [5, 7, 14] (fun s _ i wr => ∃ (k : Nat) (qa : Option Addr) (qc : Nat), k ≤ n1 ∧ i = .int .i64 k ∧ s = .slice qa (nthL ls (bestN (vN v ls) (k + 1))).length qc ∧ IntsAt wr qa (nthL ls (bestN (vN v ls) (k + 1))) ∧ (qa = none → qc = 0) ∧ Below w.heap.size w wr) (fun _ _ i _ => n1 - (intOf i).toNat)
  case atStart => exact ⟨0, ra, rc, Nat.zero_le _, rfl, by simp [bestN], by simpa [bestN] using Hi0.out, Hn0.out, Below.refl _ _⟩
  case round =>
    obtain ⟨k, qa, qc, hk, rfl, rfl, hq, hqn, hB⟩ := hrel
    have HB := hid hB; have Hq := hid hq; have Hqn := hid hqn
    clear hB hq hqn
    by_cases hlt : k < n1
    · have hI : (k : Int) < (n1 : Int) := by omega
      have hk1 : k + 1 < ls.length := by omega
      obtain rfl := Hta.out (by omega)
      obtain ⟨wo, rfl⟩ : ∃ wo : World, wo = wr := ⟨_, rfl⟩
      obtain ⟨b2, off2, ra2, rc2, he, hc2, hi2, hn2⟩ := (Hx.out.mono HB.out).at hk1
      cases he
      have hc3 : wo.cell? ⟨b, off + 1 + k, none⟩ = some (.slice ra2 (nthL ls (k + 1)).length rc2) := by rw [show off + 1 + k = off + (k + 1) by omega]; exact hc2
      have hbl := bestN_lt (vN v ls) (k + 1) (by omega)
      have HC := hid (Hg.out wo HB.out (nthL ls (k + 1)) (nthL ls (bestN (vN v ls) (k + 1))) ra2 qa rc2 qc (nthL_mem hk1) (nthL_mem (by omega)) hi2 Hq.out)
      have hst : bestN (vN v ls) (k + 1 + 1) = if v (nthL ls (bestN (vN v ls) (k + 1))) < v (nthL ls (k + 1)) then k + 1 else bestN (vN v ls) (k + 1) := rfl
      have e6 : IntKind.i64.wrap ((k : Int) + 1) = (k : Int) + 1 := wrap_i64_of (by omega) (by omega)
      have Hi2 := hid hi2; have Hn2 := hid hn2
      clear hc2 hi2 hn2
      by_cases hlm : v (nthL ls (bestN (vN v ls) (k + 1))) < v (nthL ls (k + 1))
      · rw [if_pos hlm] at hst
        rw [decide_eq_true hlm] at HC
        have Hst := hid hst
        clear hst hlm
        go_wp2_with fail
        refine HC.out.mono ?_
        rintro e w2 ⟨rfl, hB2⟩
        have HB2 := hid (bstep HB.out hB2); have Hi3 := hid (Hi2.out.mono hB2)
        clear hB2
        go_wp2
        go_roundw
        case rel => exact ⟨k + 1, ra2, rc2, by omega, by go_num, by rw [Hst.out], by rw [Hst.out]; exact Hi3.out, Hn2.out, HB2.out⟩
        case measure => simp [intOf]; omega
      · rw [if_neg hlm] at hst
        rw [decide_eq_false hlm] at HC
        have Hst := hid hst
        clear hst hlm
        go_wp2_with fail
        refine HC.out.mono ?_
        rintro e w2 ⟨rfl, hB2⟩
        have HB2 := hid (bstep HB.out hB2); have Hi3 := hid (Hq.out.mono hB2)
        clear hB2
        go_wp2
        go_roundw
        case rel => exact ⟨k + 1, qa, qc, by omega, by go_num, by rw [Hst.out], by rw [Hst.out]; exact Hi3.out, Hqn.out, HB2.out⟩
        case measure => simp [intOf]; omega
    · obtain rfl : k = n1 := by omega
      have hI : ¬ (k : Int) < (k : Int) := by omega
      rw [show k + 1 = ls.length by omega] at Hq ⊢
      go_wp2
      go_ret
      exact ⟨qa, qc, rfl, Hq.out, Hqn.out, HB.out⟩

end Go.Proofs.Ytnnojhpioenhbaa

namespace Go.Proofs.Ytnnojhpioenhbaa
open Go.RowKit Go.Shelf

set_option maxRecDepth 100000 in
set_option maxHeartbeats 2000000 in
theorem path1_c (p g : Nat) (x y : List Int) (ra rb : Option Addr) (rc rd : Nat) (vx vy : Int) (w : World) (hc : w.cell? ⟨p, 0, none⟩ = some (.func (.func 78) #[.pointer (some ⟨g, 0, none⟩)] #[]))
    (hx : ∀ w', Below w.heap.size w w' → Calls Try.prog 78 #[.pointer (some ⟨g, 0, none⟩), .slice ra x.length rc] w' fun e w2 => e = .returned (.int .i64 vx) ∧ Below w'.heap.size w' w2)
    (hy : ∀ w', Below w.heap.size w w' → Calls Try.prog 78 #[.pointer (some ⟨g, 0, none⟩), .slice rb y.length rd] w' fun e w2 => e = .returned (.int .i64 vy) ∧ Below w'.heap.size w' w2) :
    Calls Try.prog 82 #[.slice ra x.length rc, .slice rb y.length rd, .pointer (some ⟨p, 0, none⟩)] w fun e w' => e = .returned (.bool (decide (vy < vx))) ∧ Below w.heap.size w w' := by
  have H0 := hid hx; have H1 := hid hy
  clear hx hy
  have k0 := hc
  clear hc
  go_enter Try.func82, Try.ntmps82
  go_upto_region 1 with (fail)
  go_region_with (first
      | (go_at_call 78; (with_reducible refine (H0.out _ (by with_reducible ((repeat (first | exact Below.refl _ _ | apply Below.drew | (refine bstep ?_ (by assumption)) | assumption)); all_goals fail))).mono ?_); rintro e w3 ⟨rfl, hB3⟩; first | (have k0 := cstep k0 hB3) | (have k0 := cstep (w := World.drew _) k0 hB3))
      | (go_at_call 78; (with_reducible refine (H1.out _ (by with_reducible ((repeat (first | exact Below.refl _ _ | apply Below.drew | (refine bstep ?_ (by assumption)) | assumption)); all_goals fail))).mono ?_); rintro e w4 ⟨rfl, hB4⟩; first | (have k0 := cstep k0 hB4) | (have k0 := cstep (w := World.drew _) k0 hB4)))
  all_goals (
    go_wp2
    go_ret
    exact ⟨ret_bool (by rfl), (by with_reducible ((repeat (first | exact Below.refl _ _ | apply Below.drew | (refine bstep ?_ (by assumption)) | assumption)); all_goals fail))⟩)

end Go.Proofs.Ytnnojhpioenhbaa

namespace Go.Proofs.Ytnnojhpioenhbaa
open Go.RowKit Go.Shelf

set_option maxRecDepth 100000 in
set_option maxHeartbeats 1000000 in
theorem rLess_c (a b c d : Int) (w : World) (h1 : IntKind.i64.wrap (a * d) = a * d) (h2 : IntKind.i64.wrap (c * b) = c * b) :
    Calls Try.prog 96 #[.agg #[.int .i64 a, .int .i64 b], .agg #[.int .i64 c, .int .i64 d]] w fun e w' => e = .returned (.bool (decide (a * d < c * b))) ∧ Below w.heap.size w w' := by
  have HB0 := hid (bstep (bnew w (.cells #[.int .i64 a, .int .i64 b] 32)) (bnew _ (.cells #[.int .i64 c, .int .i64 d] 32)))
  obtain ⟨V0, hW⟩ : ∃ V0, V0 = (w.alloc (.cells #[.int .i64 a, .int .i64 b] 32)).alloc (.cells #[.int .i64 c, .int .i64 d] 32) := ⟨_, rfl⟩
  rw [← hW] at HB0
  have k0 : V0.cell? ⟨w.heap.size, 0, none⟩ = some (.int .i64 a) := by rw [hW]; simp [go_sem]
  have k1 : V0.cell? ⟨w.heap.size, 1, none⟩ = some (.int .i64 b) := by rw [hW]; simp [go_sem]
  have k2 : V0.cell? ⟨w.heap.size + 1, 0, none⟩ = some (.int .i64 c) := by rw [hW]; simp [go_sem]
  have k3 : V0.cell? ⟨w.heap.size + 1, 1, none⟩ = some (.int .i64 d) := by rw [hW]; simp [go_sem]
  have HW := hid hW
  clear hW
  go_enter Try.func96, Try.ntmps96
  go_upto_region 1 with (fail)
  rw [← HW.out]
  go_wp2
  go_ret
  exact ⟨ret_bool (by rfl), HB0.out⟩

end Go.Proofs.Ytnnojhpioenhbaa

namespace Go.Proofs.Ytnnojhpioenhbaa
open Go.RowKit Go.Shelf

/-- one int more behind a full slice: a new list of the call's own -/
theorem run_app_full (ty : TypeId) (w : World) (ao : Option Addr) (cap : Nat) (xs : List Int) (hat : IntsAt w ao xs) (hnil : ao = none → xs.length = 0 ∧ cap = 0) (ad : Addr) (u : Int) (hu : w.cell? ad = some (.int .i64 u)) (hfull : cap < xs.length + 1) (hb : xs.length ≤ 100000) :
    ∃ ao' cap' w', (Builtin.append_ #[42, 42] ty #[.slice ao xs.length cap, .slice (some ad) 1 1]).run Try.prog w = .ok (.slice ao' (xs.length + 1) cap') w' ∧ Below w.heap.size w w' ∧ OwnI 3 w.heap.size w' ao' (xs.length + 1) cap' (xs ++ [u]) := by
  obtain ⟨i, hi, hz, hs, hby⟩ := info_parts et42.hi
  have fin : ∀ v' w', w'.ownsRow w.heap.size 3 1 v' (xs.length + 1) (intv xs ++ [.int .i64 u]) → w.grownBy w' none → ∃ ao' cap', v' = .slice ao' (xs.length + 1) cap' ∧ Below w.heap.size w w' ∧ OwnI 3 w.heap.size w' ao' (xs.length + 1) cap' (xs ++ [u]) := by
    intro v' w' r1 r2
    have hbl : Below w.heap.size w w' := (Below.refl w.heap.size w).grown r2 (Nat.le_refl _) (fun k e => by cases e)
    rcases r1 with ⟨hl', (⟨rfl, h0⟩ | ⟨g, c, cur, rfl, hge, hh, hr⟩)⟩
    · omega
    · exact ⟨_, c, rfl, hbl, by simp, by rw [intv_append]; exact ⟨hl', .inr ⟨g, c, cur, rfl, hge, hh, hr⟩⟩⟩
  cases ao with
  | none =>
    obtain ⟨h0, rfl⟩ := hnil rfl
    obtain rfl : xs = [] := List.eq_nil_of_length_eq_zero h0
    obtain ⟨v', w', hrun, r1, r2, _⟩ := run_append_own (P := Try.prog) w w.heap.size 42 ty 3 i (.int .i64 0) 1 8 et42.hu hi hz hs hby et42.hz et42.hp (.slice none 0 0) 0 [] (World.ownsRow_nil w _ 3 1) ad 1 1 [.int .i64 u] rfl
      (fun j v hj => by cases j with | zero => cases hj; exact hu | succ j => cases hj) (by intro v hv; rw [List.mem_singleton.1 hv]; rfl) (by unfold maxLen; omega) (by omega) (Nat.le_refl _)
    obtain ⟨ao', cap', rfl, h1, h2⟩ := fin v' w' r1 r2
    exact ⟨ao', cap', w', hrun, h1, h2⟩
  | some b =>
    obtain ⟨v', w', hrun, r1, r2⟩ := run_append_arg_grows (P := Try.prog) w 42 ty 3 i (.int .i64 0) 1 8 et42.hu hi hz hs hby et42.hz et42.hp b xs.length cap (intv xs) (by rw [intv_length, Nat.mul_one])
      (fun j v hj => by
        rcases hat with rfl | ⟨b2, off, e, hc⟩
        · cases hj
        · cases e
          rw [intv_get] at hj
          split at hj
          · rename_i hlt; cases hj; rw [Addr.add_lit]; exact hc j hlt
          · cases hj)
      ad 1 1 [.int .i64 u] rfl (fun j v hj => by cases j with | zero => cases hj; exact hu | succ j => cases hj) hfull (by unfold maxLen; omega) (by omega)
    obtain ⟨ao', cap', rfl, h1, h2⟩ := fin v' w' r1 r2
    exact ⟨ao', cap', w', hrun, h1, h2⟩

theorem step_app_full {ops : Array Oper} {o : Oper} {a : Act} {K : Act → World → Prop} {Q : Exit → Act → World → Prop} {E : Prop} (w : World) (hgd : o.guard = none) (s x : Operand)
    (hop : o.op = Op.call { callee := Callee.builtin Builtin.append, args := #[s, x], argTypes := #[42, 42] })
    (ao : Option Addr) (cap : Nat) (xs : List Int) (hs : a.eval s = .slice ao xs.length cap) (hat : IntsAt w ao xs) (hnil : ao = none → xs.length = 0 ∧ cap = 0)
    (ad : Addr) (u : Int) (hx : a.eval x = .slice (some ad) 1 1) (hu : w.cell? ad = some (.int .i64 u)) (hfull : cap < xs.length + 1) (hb : xs.length ≤ 100000)
    (hK : ∀ ao' cap' w', Below w.heap.size w w' → OwnI 3 w.heap.size w' ao' (xs.length + 1) cap' (xs ++ [u]) → K (a.put o.dst (.slice ao' (xs.length + 1) cap')) w') :
    if Region.wanted o (yielded ops a.tmps) = true then Oper.wp Try.prog o a w K Q else E := by
  have hw : Region.wanted o (yielded ops a.tmps) = true := by simp [Region.wanted, hgd]
  rw [if_pos hw]
  obtain ⟨ao', cap', w', hrun, h1, h2⟩ := run_app_full o.type w ao cap xs hat hnil ad u hu hfull hb
  unfold Oper.wp
  simp [execOp, hop, resolve, invoke, builtin, hs, hx, hrun, Result.andThen, Oper.upon]
  exact hK ao' cap' w' h1 h2

set_option maxRecDepth 100000 in
theorem sizeOf3 (w : World) : (sizeOf 3).run Try.prog w = .ok 1 w := by simp [go_sem]
set_option maxRecDepth 100000 in
theorem elem42 : Try.prog.elem 42 = 3 := by kernel_rfl
set_option maxRecDepth 100000 in
/-- a list, full -/
theorem full42 (a : Option Addr) (n c : Nat) (hc : n ≤ c) (w' : World) : (Instr.slice 42 (.slice a n c) none (some (.int .i64 n)) (some (.int .i64 n))).run Try.prog w' = .ok (.slice a n n) w' := by
  have hsz : ((sizeOf (Try.prog.elem 42)).run Try.prog w') = .ok 1 w' := by rw [elem42]; exact sizeOf3 w'
  have h := run_slice_hm w' 42 a n c Try.underlying42 .i64 .i64 n n (by omega) (by omega) (by omega)
  rw [h]
  simp [Result.andThen, sliced, hsz]
  intro _
  cases a <;> simp [Addr.add]

end Go.Proofs.Ytnnojhpioenhbaa
