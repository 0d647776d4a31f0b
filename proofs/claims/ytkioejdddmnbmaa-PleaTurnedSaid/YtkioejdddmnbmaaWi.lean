/- Walks: With, stays. -/
import Derived.Test.YtkioejdddmnbmaaPl
namespace Go.Proofs.Ytkioejdddmnbmaa
open Go.RowKit Go.Shelf

/-- listed, in a list of the call's own -/
def OwnLP (w : World) (xs : List Int) (e : Ending) (w' : World) : Prop := ∃ ao cap, e = .returned (.slice ao xs.length cap) ∧ OwnI w.heap.size w' ao xs.length cap xs ∧ Below w.heap.size w w'
theorem OwnI.ge {B : Nat} {w : World} {b off n cap : Nat} {xs : List Int} (h : OwnI B w (some ⟨b, off, Option.none⟩) n cap xs) : B ≤ b := by
  rcases h.2.2 with ⟨e, _⟩ | ⟨g, c, cur, e, hge, _⟩
  · cases e
  · cases e; exact hge

set_option maxRecDepth 100000 in
set_option maxHeartbeats 2000000 in
theorem listedO_c (b n : Nat) (w : World) (hn : n ≤ 40) (hb : b < 2 ^ 62) : Calls Try.prog 45 #[.int .i64 b, .int .i64 n] w (OwnLP w (listedB b n)) := by
  have Hb := hid hb
  clear hb
  go_enter Try.func45, Try.ntmps45
  go_wp2
  go_loopw [5, 6] (fun o i wr => ∃ (k : Nat) (ao : Option Addr) (cap : Nat), k ≤ n ∧ i = .int .i64 k ∧ o = .slice ao (selTo (fun k => b.testBit k) k).length cap ∧ OwnI w.heap.size wr ao (selTo (fun k => b.testBit k) k).length cap (selTo (fun k => b.testBit k) k) ∧ Below w.heap.size w wr) (fun _ i _ => n - (intOf i).toNat)
  case atStart => exact ⟨0, none, 0, Nat.zero_le _, rfl, rfl, OwnI.nil _ _, Below.refl _ _⟩
  case round =>
    obtain ⟨k, ao, cap, hk, rfl, rfl, hown, hB⟩ := hrel
    obtain ⟨wo, rfl⟩ : ∃ wo : World, wo = wr := ⟨_, rfl⟩
    have hlen := selTo_length (fun k => b.testBit k) k
    by_cases hlt : k < n
    · have ht : selTo (fun k => b.testBit k) (k + 1) = if b.testBit k = true then selTo (fun k => b.testBit k) k ++ [(k : Int)] else selTo (fun k => b.testBit k) k := rfl
      have hbit := bits_one_i64 (a := b) Hb.out k
      have hk64 : (k : Int) < 64 := by omega
      obtain ⟨l, hl⟩ : ∃ l, l = selTo (fun k => b.testBit k) k := ⟨_, rfl⟩
      rw [← hl] at ht hown hlen ⊢
      have Hown := hid hown; have HB := hid hB
      clear hown hB hl
      cases htb : b.testBit k with
      | true =>
        rw [htb, if_pos rfl] at ht
        rw [htb] at hbit
        simp only [if_true] at hbit
        have Ht := hid ht
        clear ht htb
        go_wp2_with (at_builtin; refine wpList_app_own _ rfl _ _ rfl w.heap.size ao l.length cap l rfl ?c1 _ (k : Int) rfl ?c2 ?c3 ?c4 ?c5; rotate_right; (intro b' cap' w' hB' hb' hown' hgr'; refine Hid.out ?_))
        case c1 => exact Hown.out.alloc _
        case c2 => simp
        case c3 => omega
        case c4 => have := HB.out.size; simp; omega
        case c5 =>
          refine hid ?_
          have Hown' := hid hown'
          have HB' := hid (HB.out.trans (((bnew wo (.cells #[.int .i64 k] 3)).mono HB.out.size).trans hB'))
          clear hown' hB' hgr' hbit
          go_wp2
          go_roundw
          case rel => exact ⟨k + 1, some ⟨b', 0, none⟩, cap', by omega, by go_num, by rw [Ht.out, List.length_append]; rfl, by rw [Ht.out, List.length_append]; exact Hown'.out, HB'.out⟩
          case measure => simp [intOf]; omega
      | false =>
        rw [htb, if_neg (by simp)] at ht
        rw [htb] at hbit
        simp only [Bool.false_eq_true, if_false] at hbit
        have Ht := hid ht
        clear ht htb
        go_wp2
        go_roundw
        case rel => exact ⟨k + 1, ao, cap, by omega, by go_num, by rw [Ht.out], by rw [Ht.out]; exact Hown.out, HB.out⟩
        case measure => simp [intOf]; omega
    · obtain rfl : k = n := by omega
      go_wp2
      go_ret
      exact ⟨ao, cap, rfl, hown, hB⟩

def WithP (w : World) (facts : Int) (ra : Option Addr) (rc n : Nat) (L : List Int) (e : Ending) (w' : World) : Prop :=
  ∃ ao cap, e = .returned (.agg #[.int .i64 facts, .slice ao L.length cap, .slice ra n rc]) ∧ IntsAt w' ao L ∧ (ao = none → cap = 0) ∧ Below w.heap.size w w'

set_option maxRecDepth 100000 in
set_option maxHeartbeats 4000000 in
theorem with_c (f i : Nat) (sa ra : Option Addr) (sc rc n : Nat) (seen : List Int) (w : World) (hs : IntsAt w sa seen) (hsl : seen.length ≤ 1000000) (hsf : factsOk seen) (hf : f ≤ 12) (hi : i < 12) :
    Calls Try.prog 48 #[.agg #[.int .i64 f, .slice sa seen.length sc, .slice ra n rc], .int .i64 i] w (WithP w f ra rc n (withL f seen i)) := by
  obtain ⟨W0, hW0⟩ : ∃ W0, W0 = (w.alloc (.cells #[.int .i64 f, .slice sa seen.length sc, .slice ra n rc] 25)).alloc (.cells #[.int .i64 0, .slice none 0 0, .slice none 0 0] 25) := ⟨_, rfl⟩
  have HB0 := hid (show Below w.heap.size w W0 by rw [hW0]; exact bstep (bnew w _) (bnew _ _))
  obtain ⟨c0, c1, c2⟩ := caseBox w f sa ra seen.length sc n rc
  have k0 := cstep c0 (bnew _ (.cells #[.int .i64 0, .slice none 0 0, .slice none 0 0] 25))
  have k1 := cstep c1 (bnew _ (.cells #[.int .i64 0, .slice none 0 0, .slice none 0 0] 25))
  have k2 := cstep c2 (bnew _ (.cells #[.int .i64 0, .slice none 0 0, .slice none 0 0] 25))
  have kr := heap_alloc_new (w.alloc (.cells #[.int .i64 f, .slice sa seen.length sc, .slice ra n rc] 25)) (.cells #[.int .i64 0, .slice none 0 0, .slice none 0 0] 25)
  rw [← hW0] at k0 k1 k2 kr
  have hz : (w.alloc (.cells #[.int .i64 f, .slice sa seen.length sc, .slice ra n rc] 25)).heap.size = w.heap.size + 1 := by simp
  rw [hz] at kr
  have HS := hid hW0
  have hb12 := bitsL_lt hsf
  have hor := bits_or_i64 (a := bitsL seen) (b := 2 ^ i) (by omega) (by have : 2 ^ i < 2 ^ 12 := Nat.pow_lt_pow_right (by omega) hi; omega)
  have hsh := shl_one (f := i) (by omega)
  have hpw : ((2 ^ i : Nat) : Int) = (2 : Int) ^ i := by simp
  rw [hpw] at hor
  have hiI : (i : Int) < 64 := by omega
  have hi0 : decide ((i : Int) < 0) = false := decide_eq_false (by omega)
  have H49 := hid fun m => (bits_c sa sc seen (W0.drewN m) ((hs.mono HB0.out).mono (Go.Joins.below_draws _ _ _)) hsl hsf).mono fun e w'' h => (⟨h.1, m, h.2⟩ : e = .returned (.int .i64 (bitsL seen)) ∧ ∃ m, w'' = W0.drewN m)
  have H45 := hid fun (w' : World) => listedO_c (bitsL seen ||| 2 ^ i) f w' (by omega) (by have : bitsL seen ||| 2 ^ i < 2 ^ 12 := Nat.or_lt_two_pow hb12 (Nat.pow_lt_pow_right (by omega) hi); omega)
  unfold withL
  unfold OwnLP at H45
  unfold WithP
  obtain ⟨L, hL⟩ : ∃ L, L = listedB (bitsL seen ||| 2 ^ i) f := ⟨_, rfl⟩
  rw [← hL] at H45 ⊢
  obtain ⟨v, hv⟩ : ∃ v, v = bitsL seen ||| 2 ^ i := ⟨_, rfl⟩
  rw [← hv] at H45 hor
  obtain ⟨b, hb⟩ : ∃ v, v = bitsL seen := ⟨_, rfl⟩
  rw [← hb] at H49 hor
  clear hL hv hb hb12 hs hsf hsl hW0 c0 c1 c2 hz hi hf
  go_enter Try.func48, Try.ntmps48
  go_wp2_with fail
  rw [← HS.out]
  go_quiet ((go_at_call 49; exact H49.out _))
  have k0 : (W0.drewN nq).cell? ⟨w.heap.size, 0, none⟩ = some (.int .i64 f) := k0
  have k2 : (W0.drewN nq).cell? ⟨w.heap.size, 2, none⟩ = some (.slice ra n rc) := k2
  have kr : (W0.drewN nq).heap[w.heap.size + 1]? = some (.cells #[.int .i64 0, .slice none 0 0, .slice none 0 0] 25 (0, 0)) := kr
  have HB1 := hid (bstep (c := W0.drewN nq) HB0.out (Go.Joins.below_draws _ _ _))
  obtain ⟨W1, hW1⟩ : ∃ W1, W1 = W0.drewN nq := ⟨_, rfl⟩
  rw [← hW1] at k0 k2 kr HB1
  rw [← hW1]
  have Hlt := hid (Array.getElem?_eq_some_iff.1 kr).1
  have Kr := hid kr
  have r0 : W1.cell? ⟨w.heap.size + 1, 0, none⟩ = some (.int .i64 0) := by rw [cell_of_row _ _ _ _ _ _ kr]; rfl
  have r1 : W1.cell? ⟨w.heap.size + 1, 1, none⟩ = some (.slice none 0 0) := by rw [cell_of_row _ _ _ _ _ _ kr]; rfl
  have r2 : W1.cell? ⟨w.heap.size + 1, 2, none⟩ = some (.slice none 0 0) := by rw [cell_of_row _ _ _ _ _ _ kr]; rfl
  have f0 : W1.frozen? ⟨w.heap.size + 1, 0, none⟩ = false := frozen_of_row _ _ _ _ _ kr
  have f1 : W1.frozen? ⟨w.heap.size + 1, 1, none⟩ = false := frozen_of_row _ _ _ _ _ kr
  have f2 : W1.frozen? ⟨w.heap.size + 1, 2, none⟩ = false := frozen_of_row _ _ _ _ _ kr
  clear hW1 hsh kr HS HB0
  go_wp2_with fail
  go_region_with ((go_at_call 45; (with_reducible refine (H45.out _).mono ?_); rintro e wq ⟨ao, cap, rfl, hown, hBq⟩; have hBl : Below W1.heap.size W1 wq := (by first | exact hBq | exact ((Below.refl _ _).drew).trans hBq); have k0 := cstep k0 hBl; have k2 := cstep k2 hBl; have r0 := cstep r0 hBl; have r1 := cstep r1 hBl; have r2 := cstep r2 hBl; have krq := (hBl.block _ Hlt.out).trans Kr.out; have f0 := frozen_of_row _ _ 0 _ _ krq; have f1 := frozen_of_row _ _ 1 _ _ krq; have f2 := frozen_of_row _ _ 2 _ _ krq))
  all_goals (
    go_wp2
    obtain ⟨W2, hW2⟩ : ∃ W2, W2 = ((wq.setCell ⟨w.heap.size + 1, 0, none⟩ (.int .i64 f)).setCell ⟨w.heap.size + 1, 1, none⟩ (.slice ao L.length cap)).setCell ⟨w.heap.size + 1, 2, none⟩ (.slice ra n rc) := ⟨_, rfl⟩
    have hO : Only (fun b => b = w.heap.size + 1) wq W2 := by rw [hW2]; exact ((setCell_only _ _ _).trans (setCell_only _ _ _)).trans (setCell_only _ _ _)
    have hr2 : W2.heap[w.heap.size + 1]? = some (.cells #[.int .i64 f, .slice ao L.length cap, .slice ra n rc] 25 (0, 0)) := by
      rw [hW2]
      exact heap_setCell_same _ _ 2 #[.int .i64 f, .slice ao L.length cap, .slice none 0 0] 25 _ (heap_setCell_same _ _ 1 #[.int .i64 f, .slice none 0 0, .slice none 0 0] 25 _ (heap_setCell_same wq _ 0 _ 25 _ krq))
    first | rw [← hW2] | skip
    have hlt := Hlt.out
    refine bodyPost_ret (results_cell_row rfl _ _ (w.heap.size + 1) 25 _ (0, 0) _ rfl hr2 Try.underlying25 rfl (by kernel_rfl)) rfl ⟨ao, cap, rfl, hown.at.only hO (fun b off e _ q => ?_), fun h => (hown.none h).2, (bstep HB1.out hBl).trans (hO.below (by have := HB1.out.size; have := hBl.size; omega) (fun j hj e => by omega))⟩
    have hge : W1.heap.size ≤ b := by subst e; exact hown.ge
    omega)

set_option maxRecDepth 100000 in
set_option maxHeartbeats 4000000 in
/-- the answer of stays, by what the two verdicts are -/
theorem stays_walk (facts i n1 e1 n2 e2 : Int) (sa xa ra ya : Option Addr) (sc xc rc yc sn xn rn yn : Nat) (w : World)
    (H1 : ∀ w', Below w.heap.size w w' → Calls Try.prog 27 #[.agg #[.int .i64 facts, .slice sa sn sc, .slice ra rn rc], .int .i64 i] w' (NumE w' n1 e1))
    (H2 : ∀ w', Below w.heap.size w w' → Calls Try.prog 27 #[.agg #[.int .i64 facts, .slice xa xn xc, .slice ya yn yc], .int .i64 i] w' (NumE w' n2 e2))
    (h : e2 = 24 ∨ (e2 = 0 ∧ e1 = 0 ∧ (n1 = 1 ∨ n1 = n2))) :
    Calls Try.prog 51 #[.agg #[.int .i64 facts, .slice sa sn sc, .slice ra rn rc], .agg #[.int .i64 facts, .slice xa xn xc, .slice ya yn yc], .int .i64 i] w (TellB w true) := by
  obtain ⟨W0, hW0⟩ : ∃ W0, W0 = (w.alloc (.cells #[.int .i64 facts, .slice sa sn sc, .slice ra rn rc] 25)).alloc (.cells #[.int .i64 facts, .slice xa xn xc, .slice ya yn yc] 25) := ⟨_, rfl⟩
  have HB0 := hid (show Below w.heap.size w W0 by rw [hW0]; exact bstep (bnew w _) (bnew _ _))
  obtain ⟨d0, d1, d2⟩ := caseBox w facts sa ra sn sc rn rc
  obtain ⟨k0, k1, k2⟩ := caseBox (w.alloc (.cells #[.int .i64 facts, .slice sa sn sc, .slice ra rn rc] 25)) facts xa ya xn xc yn yc
  have d0 := cstep d0 (bnew _ (.cells #[.int .i64 facts, .slice xa xn xc, .slice ya yn yc] 25))
  have d1 := cstep d1 (bnew _ (.cells #[.int .i64 facts, .slice xa xn xc, .slice ya yn yc] 25))
  have d2 := cstep d2 (bnew _ (.cells #[.int .i64 facts, .slice xa xn xc, .slice ya yn yc] 25))
  rw [← hW0] at d0 d1 d2 k0 k1 k2
  have hz : (w.alloc (.cells #[.int .i64 facts, .slice sa sn sc, .slice ra rn rc] 25)).heap.size = w.heap.size + 1 := by simp
  rw [hz] at k0 k1 k2
  have HS := hid hW0
  have G1 := hid H1; have G2 := hid H2
  clear hz hW0 H1 H2
  unfold NumE at G1 G2
  rcases h with rfl | ⟨rfl, rfl, hn⟩
  case inl =>
    go_enter Try.func51, Try.ntmps51
    go_wp2_with fail
    rw [← HS.out]
    refine (G1.out _ HB0.out).mono ?_
    rintro e w1 ⟨rfl, hB⟩
    have k0 := cstep k0 hB; have k1 := cstep k1 hB; have k2 := cstep k2 hB
    have HB1 := hid (bstep HB0.out hB)
    clear hB d0 d1 d2
    go_wp2_with fail
    refine (G2.out _ HB1.out).mono ?_
    rintro e w2 ⟨rfl, hB⟩
    have HB2 := hid (bstep HB1.out hB)
    clear hB k0 k1 k2
    go_wp2
    go_ret
    exact ⟨rfl, HB2.out⟩
  case inr =>
    by_cases h1 : n1 = 1
    case pos =>
      subst h1
      clear hn
      go_enter Try.func51, Try.ntmps51
      go_wp2_with fail
      rw [← HS.out]
      refine (G1.out _ HB0.out).mono ?_
      rintro e w1 ⟨rfl, hB⟩
      have k0 := cstep k0 hB; have k1 := cstep k1 hB; have k2 := cstep k2 hB
      have HB1 := hid (bstep HB0.out hB)
      clear hB d0 d1 d2
      go_wp2_with fail
      refine (G2.out _ HB1.out).mono ?_
      rintro e w2 ⟨rfl, hB⟩
      have HB2 := hid (bstep HB1.out hB)
      clear hB k0 k1 k2
      go_wp2
      go_ret
      exact ⟨rfl, HB2.out⟩
    case neg =>
      obtain rfl : n1 = n2 := by rcases hn with hn | hn; exact absurd hn h1; exact hn
      have hd : (n1 == 1) = false := by simpa using h1
      clear hn h1
      go_enter Try.func51, Try.ntmps51
      go_wp2_with fail
      rw [← HS.out]
      refine (G1.out _ HB0.out).mono ?_
      rintro e w1 ⟨rfl, hB⟩
      have k0 := cstep k0 hB; have k1 := cstep k1 hB; have k2 := cstep k2 hB
      have HB1 := hid (bstep HB0.out hB)
      clear hB d0 d1 d2
      go_wp2_with fail
      refine (G2.out _ HB1.out).mono ?_
      rintro e w2 ⟨rfl, hB⟩
      have HB2 := hid (bstep HB1.out hB)
      clear hB k0 k1 k2
      go_wp2
      go_ret
      exact ⟨rfl, HB2.out⟩

end Go.Proofs.Ytkioejdddmnbmaa
