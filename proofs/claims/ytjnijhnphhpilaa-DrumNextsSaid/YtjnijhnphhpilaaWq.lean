/- Walks: Together. -/
import Derived.Test.YtjnijhnphhpilaaWp
namespace Go.Proofs.Ytjnijhnphhpilaa
open Go.RowKit Go.Shelf
attribute [local go_sem ↓] wp_get wp_get0 wp_getS wp73 wp71 wps73 wps71 wpa73 wpa71 wpb75 wpx75

theorem heap3_3 (w : World) (o1 o2 o3 : Obj) : (((w.alloc o1).alloc o2).alloc o3).heap[w.heap.size + 2]? = some o3 := by
  rw [heap_push, heap_push, heap_push, Array.getElem?_push, if_pos (by simp only [Array.size_push])]

theorem z24 {X W : World} {g : Nat} (hx : X.heap[g]? = some (.cells #[.slice none 0 0, .slice none 0 0] 24 (0, 0))) (hB : Below X.heap.size X W) :
    W.cell? ⟨g, 0, none⟩ = some (.slice none 0 0) ∧ W.cell? ⟨g, 1, none⟩ = some (.slice none 0 0) ∧ W.frozen? ⟨g, 0, none⟩ = false ∧ W.frozen? ⟨g, 1, none⟩ = false ∧ W.heap[g]? = some (.cells #[.slice none 0 0, .slice none 0 0] 24 (0, 0)) := by
  have h := (hB.block g (Array.getElem?_eq_some_iff.1 hx).1).trans hx
  refine ⟨?_, ?_, frozen_of_row _ _ _ _ _ h, frozen_of_row _ _ _ _ _ h, h⟩
  · rw [cell_of_row _ _ _ _ _ _ h]; rfl
  · rw [cell_of_row _ _ _ _ _ _ h]; rfl

/-- what region 10 of Together leaves: the drum at block g3, its slices at the blocks t and p -/
structure TogAt (w2 : World) (N : Nat) (tl pl : List Int) (g3 t p ct cp : Nat) (wc : World) : Prop where
  d : wc.heap[g3]? = some (.cells #[.slice (some ⟨t, 0, none⟩) N ct, .slice (some ⟨p, 0, none⟩) N cp] 24 (0, 0))
  ft : OwnI w2.heap.size wc (some ⟨t, 0, none⟩) N ct tl
  fp : OwnI w2.heap.size wc (some ⟨p, 0, none⟩) N cp pl
  tp : t ≠ p
  gt : g3 ≠ t
  gp : g3 ≠ p
  gw : w2.heap.size ≤ g3
  below : Below w2.heap.size w2 wc

theorem OwnI.only1 {B : Nat} {w w' : World} {g n cap k : Nat} {xs : List Int} (h : OwnI B w (some ⟨g, 0, Option.none⟩) n cap xs) (hO : Only (fun b => b = k) w w') (hk : g ≠ k) : OwnI B w' (some ⟨g, 0, Option.none⟩) n cap xs := by
  refine ⟨h.1, h.2.1, ?_⟩
  rcases h.2.2 with ⟨e, _⟩ | ⟨g', c, cur, e, hge, hh, hr⟩
  · cases e
  · cases e
    exact .inr ⟨_, _, cur, rfl, hge, (hO.block _ (Array.getElem?_eq_some_iff.1 hh).1 hk).trans hh, hr⟩

theorem TogAt.of {w2 wt wp W : World} {N g3 t p ct cp : Nat} {tl pl : List Int} (hot : OwnI w2.heap.size wt (some ⟨t, 0, none⟩) N ct tl) (hK : Below wt.heap.size wt wp) (hop : OwnI w2.heap.size wp (some ⟨p, 0, none⟩) N cp pl)
    (_hB : Below w2.heap.size w2 wp) (h1 : t ≠ p) (h2 : g3 ≠ t) (h3 : g3 ≠ p) (h4 : w2.heap.size ≤ g3) (hW : Only (fun b => b = g3) wp W) (hWB : Below w2.heap.size w2 W)
    (d : W.heap[g3]? = some (.cells #[.slice (some ⟨t, 0, none⟩) N ct, .slice (some ⟨p, 0, none⟩) N cp] 24 (0, 0))) : TogAt w2 N tl pl g3 t p ct cp W :=
  ⟨d, (hot.kept hK).only1 hW (fun h => h2 h.symm), hop.only1 hW (fun h => h3 h.symm), h1, h2, h3, h4, hWB⟩

theorem OwnI.setAt {B : Nat} {w : World} {g n cap k : Nat} {xs : List Int} (h : OwnI B w (some ⟨g, 0, Option.none⟩) n cap xs) (v : Int) : OwnI B (w.setCell ⟨g, k, Option.none⟩ (.int .i64 v)) (some ⟨g, 0, Option.none⟩) n cap (xs.set k v) := by
  refine ⟨by rw [List.length_set]; exact h.1, by rw [intv_length, List.length_set]; exact (intv_length xs).symm.trans h.2.1, ?_⟩
  rcases h.2.2 with ⟨e, _⟩ | ⟨g', c, cur, e, hge, hh, hle, hm, hs, ht⟩
  · cases e
  · cases e
    refine .inr ⟨_, _, _, rfl, hge, heap_setCell_same w g k cur 3 (.int .i64 v) hh, hle, hm, by rw [Array.size_setIfInBounds]; exact hs, ?_⟩
    rw [Array.toList_setIfInBounds, List.take_set, ht]
    unfold intv
    rw [List.map_set]

/-- a new slice of n ints that a call has returned, and what it has left as it was, said for the walk -/
def NewP (w2 X : World) (n : Nat) (xs : List Int) (e : Ending) (W : World) : Prop :=
  ∃ g c, e = .returned (.slice (some ⟨g, 0, none⟩) n c) ∧ OwnI w2.heap.size W (some ⟨g, 0, none⟩) n c xs ∧ X.heap.size ≤ g ∧ g < W.heap.size ∧ Below w2.heap.size w2 W ∧ Below X.heap.size X W ∧ (∀ k, k < X.heap.size → k < W.heap.size) ∧
    (∀ b o, b < X.heap.size → W.cell? ⟨b, o, none⟩ = X.cell? ⟨b, o, none⟩) ∧ (∀ b o, b < X.heap.size → W.frozen? ⟨b, o, none⟩ = X.frozen? ⟨b, o, none⟩)

theorem NewP.of {w2 X : World} {n : Nat} {xs : List Int} (hB : Below w2.heap.size w2 X) (hn : xs.length = n) {e : Ending} {W : World} (h : RunP X xs e W) : NewP w2 X n xs e W := by
  obtain ⟨v, rfl, ⟨g, c, rfl, ho⟩, hB2⟩ := h
  subst hn
  have ho2 : OwnI X.heap.size W (some ⟨g, 0, none⟩) xs.length c xs := ⟨rfl, ho⟩
  have hgl : g < W.heap.size := by
    rcases ho.2 with ⟨e, _⟩ | ⟨g', cp, cur, e, _, hh, _⟩
    · cases e
    · cases e; exact (Array.getElem?_eq_some_iff.1 hh).1
  exact ⟨g, c, rfl, ho2.base hB.size, ho2.ge g 0 rfl, hgl, bstep hB hB2, hB2, fun k hk => Nat.lt_of_lt_of_le hk hB2.size, (bcell hB2).1, (bcell hB2).2⟩

def xorTo (p q : List Int) : Nat → List Int
  | 0 => p
  | k + 1 => (xorTo p q k).set k ((nth p k + nth q k) % 2)

theorem xorTo_nth (p q : List Int) : ∀ n k, n ≤ k → nth (xorTo p q n) k = nth p k
  | 0, _, _ => rfl
  | n + 1, k, h => by
    rw [xorTo, nth_set, if_neg (by omega)]
    exact xorTo_nth p q n k (by omega)

def togErr (f g f2 g2 : List Int) : Int := if checkDrum f g ≠ 0 then checkDrum f g else if checkDrum f2 g2 ≠ 0 then checkDrum f2 g2 else if 40 < f.length + f2.length then 6 else 0
def togFeed (f g f2 g2 : List Int) : List Int := if togErr f g f2 g2 = 0 then timesF f f2 else []
def togFirst (f g f2 g2 : List Int) : List Int := if togErr f g f2 g2 = 0 then xorTo (playsF f g (f.length + f2.length)) (playsF f2 g2 (f.length + f2.length)) (f.length + f2.length) else []

def TogP (w : World) (f g f2 g2 : List Int) (e : Ending) (w' : World) : Prop :=
  ∃ v, e = .returned (.tuple #[v, .int .i64 (togErr f g f2 g2)]) ∧ Below w.heap.size w w' ∧ DrumV w' v (togFeed f g f2 g2) (togFirst f g f2 g2)

set_option maxRecDepth 100000 in
set_option maxHeartbeats 2000000 in
theorem together_c (a1 a2 a3 a4 : Option Addr) (c1 c2 c3 c4 : Nat) (f g f2 g2 : List Int) (w : World) (h1 : IntsAt w a1 f) (h2 : IntsAt w a2 g) (h3 : IntsAt w a3 f2) (h4 : IntsAt w a4 g2)
    (b1 : f.length ≤ 1000000) (b2 : g.length ≤ 1000000) (b3 : f2.length ≤ 1000000) (b4 : g2.length ≤ 1000000) :
    Calls Try.prog 43 #[.agg #[.slice a1 f.length c1, .slice a2 g.length c2], .agg #[.slice a3 f2.length c3, .slice a4 g2.length c4]] w (TogP w f g f2 g2) := by
  have H1 := hid (fun w' (hB : Below w.heap.size w w') => checkDrum_c a1 a2 c1 c2 f g w' (h1.mono hB) (h2.mono hB) b1 b2)
  have H2 := hid (fun w' (hB : Below w.heap.size w w') => checkDrum_c a3 a4 c3 c4 f2 g2 w' (h3.mono hB) (h4.mono hB) b3 b4)
  have HT := hid (fun (hn : f.length + f2.length ≤ 40) (hf : isBits f = true) (hf2 : isBits f2 = true) w' (hB : Below w.heap.size w w') => times_c a1 a3 c1 c3 f f2 w' (h1.mono hB) (h3.mono hB) hn hf hf2)
  have HR1 := hid (fun n (hn : n ≤ 1000) (hl : f.length = g.length) (hl2 : g.length ≤ 40) (hf : isBits f = true) (hg : isBits g = true) w' (hB : Below w.heap.size w w') => run_c a1 a2 c1 c2 n f g w' (h1.mono hB) (h2.mono hB) hl hl2 hn hf hg)
  have HR2 := hid (fun n (hn : n ≤ 1000) (hl : f2.length = g2.length) (hl2 : g2.length ≤ 40) (hf : isBits f2 = true) (hg : isBits g2 = true) w' (hB : Below w.heap.size w w') => run_c a3 a4 c3 c4 n f2 g2 w' (h3.mono hB) (h4.mono hB) hl hl2 hn hf hg)
  clear h1 h2 h3 h4
  have hB0 : Below w.heap.size w (((w.alloc (.cells #[.slice a1 f.length c1, .slice a2 g.length c2] 24)).alloc (.cells #[.slice a3 f2.length c3, .slice a4 g2.length c4] 24)).alloc (.cells #[.slice none 0 0, .slice none 0 0] 24)) :=
    (((Below.refl _ _).alloc (Nat.le_refl _) _).alloc (by simp) _).alloc (by simp; omega) _
  have HB0 := hid hB0; clear hB0
  unfold TogP
  by_cases hc1 : checkDrum f g = 0
  · by_cases hc2 : checkDrum f2 g2 = 0
    · obtain ⟨hl1, hlen1, hf1, hg1⟩ := checkDrum_zero hc1
      obtain ⟨hl2, hlen2, hf2, hg2⟩ := checkDrum_zero hc2
      by_cases hn : 40 < f.length + f2.length
      · have he : togErr f g f2 g2 = 6 := by unfold togErr; rw [if_neg (by simp [hc1]), if_neg (by simp [hc2]), if_pos hn]
        have hfe : togFeed f g f2 g2 = [] := by unfold togFeed; rw [if_neg (by rw [he]; decide)]
        have hfi : togFirst f g f2 g2 = [] := by unfold togFirst; rw [if_neg (by rw [he]; decide)]
        rw [he, hfe, hfi]
        rw [hc1] at H1
        rw [hc2] at H2
        have hn2 : (40 : Int) < (f.length : Int) + (f2.length : Int) := by omega
        clear he hfe hfi hf1 hg1 hf2 hg2 hc1 hc2 hl1 hl2
        go_enter Try.func43, Try.ntmps43
        go_wp2_with fail
        refine (H1.out _ HB0.out).mono ?_
        rintro e w1 ⟨rfl, hB1⟩
        have p1 := cstep (p := ⟨w.heap.size, 0, none⟩) (v := .slice a1 f.length c1) (by simp [go_sem]) hB1
        have p2 := cstep (p := ⟨w.heap.size, 1, none⟩) (v := .slice a2 g.length c2) (by simp [go_sem]) hB1
        have p3 := cstep (p := ⟨w.heap.size + 1, 0, none⟩) (v := .slice a3 f2.length c3) (by simp [go_sem]) hB1
        have p4 := cstep (p := ⟨w.heap.size + 1, 1, none⟩) (v := .slice a4 g2.length c4) (by simp [go_sem]) hB1
        have p5 := (hB1.block (w.heap.size + 2) (by simp)).trans (heap3_3 w _ _ (.cells #[.slice none 0 0, .slice none 0 0] 24 (0, 0)))
        have P5 := hid p5; have HB1 := hid (bstep HB0.out hB1)
        have hs1 : w.heap.size + 3 ≤ w1.heap.size := by have := hB1.size; simp at this; omega
        clear p5 hB1
        go_wp2_with fail
        refine (H2.out _ HB1.out).mono ?_
        rintro e w2 ⟨rfl, hB2⟩
        have p1' := cstep p1 hB2
        have p2' := cstep p2 hB2
        have p3' := cstep p3 hB2
        have p4' := cstep p4 hB2
        have P6 := hid ((hB2.block (w.heap.size + 2) (by omega)).trans P5.out)
        have HB2 := hid (bstep HB1.out hB2)
        have hs2 : w.heap.size + 3 ≤ w2.heap.size := by have := hB2.size; omega
        clear p1 p2 p3 p4 hB2 hs1
        have d5 := cell_of_row w2 (w.heap.size + 2) 0 _ _ _ P6.out
        have d6 := cell_of_row w2 (w.heap.size + 2) 1 _ _ _ P6.out
        simp at d5 d6
        have hfr : ∀ k, w2.frozen? ⟨w.heap.size + 2, k, none⟩ = false := fun k => frozen_of_row _ _ _ _ _ P6.out
        go_wp2
        refine bodyPost_ret (ret24 rfl _ _ (w.heap.size + 2) _ _ rfl (set24 P6.out _ _)) rfl ?_
        have hO := (setCell_only (w.heap.size + 2) 0 (.slice none 0 0) (w := w2)).trans (setCell_only (w.heap.size + 2) 1 (.slice none 0 0))
        exact ⟨_, rfl, HB2.out.trans (hO.below HB2.out.size (by intro j hj; omega)), _, _, rfl, Sl.nil _, Sl.nil _⟩
      · have he : togErr f g f2 g2 = 0 := by unfold togErr; rw [if_neg (by simp [hc1]), if_neg (by simp [hc2]), if_neg hn]
        have hfe : togFeed f g f2 g2 = timesF f f2 := by unfold togFeed; rw [if_pos he]
        have hfi : togFirst f g f2 g2 = xorTo (playsF f g (f.length + f2.length)) (playsF f2 g2 (f.length + f2.length)) (f.length + f2.length) := by unfold togFirst; rw [if_pos he]
        rw [he, hfe, hfi]
        have HT2 := hid (HT.out (by omega) hf1 hf2)
        have HRa := hid (HR1.out (f.length + f2.length) (by omega) hl1 hlen1 hf1 hg1)
        have HRb := hid (HR2.out (f.length + f2.length) (by omega) hl2 hlen2 hf2 hg2)
        rw [Int.natCast_add] at HRa HRb
        rw [hc1] at H1
        rw [hc2] at H2
        have Hf1 := hid hf1; have Hg1 := hid hg1; have Hf2 := hid hf2; have Hg2 := hid hg2; have Hl1 := hid hl1; have Hl2 := hid hl2
        clear he hfe hfi hf1 hg1 hf2 hg2 hl1 hl2 hc1 hc2
        go_enter Try.func43, Try.ntmps43
        go_wp2_with fail
        refine (H1.out _ HB0.out).mono ?_
        rintro e w1 ⟨rfl, hB1⟩
        have p1 := cstep (p := ⟨w.heap.size, 0, none⟩) (v := .slice a1 f.length c1) (by simp [go_sem]) hB1
        have p2 := cstep (p := ⟨w.heap.size, 1, none⟩) (v := .slice a2 g.length c2) (by simp [go_sem]) hB1
        have p3 := cstep (p := ⟨w.heap.size + 1, 0, none⟩) (v := .slice a3 f2.length c3) (by simp [go_sem]) hB1
        have p4 := cstep (p := ⟨w.heap.size + 1, 1, none⟩) (v := .slice a4 g2.length c4) (by simp [go_sem]) hB1
        have p5 := (hB1.block (w.heap.size + 2) (by simp)).trans (heap3_3 w _ _ (.cells #[.slice none 0 0, .slice none 0 0] 24 (0, 0)))
        have P5 := hid p5; have HB1 := hid (bstep HB0.out hB1)
        have hs1 : w.heap.size + 3 ≤ w1.heap.size := by have := hB1.size; simp at this; omega
        clear p5 hB1
        go_wp2_with fail
        refine (H2.out _ HB1.out).mono ?_
        rintro e w2 ⟨rfl, hB2⟩
        have p1' := cstep p1 hB2
        have p2' := cstep p2 hB2
        have p3' := cstep p3 hB2
        have p4' := cstep p4 hB2
        have P6 := hid ((hB2.block (w.heap.size + 2) (by omega)).trans P5.out)
        have HB2 := hid (bstep HB1.out hB2)
        have hs2 : w.heap.size + 3 ≤ w2.heap.size := by have := hB2.size; omega
        clear p1 p2 p3 p4 hB2 hs1
        have hN : f.length + f2.length ≤ 40 := by omega
        go_upto_region 10 with (fail)
        have Q1 := hid (fun w' (hB : Below w2.heap.size w2 w') => (HT2.out w' (bstep HB2.out hB)).mono (fun _ _ h => NewP.of hB (timesF_length f f2) h))
        have Q2 := hid (fun w' (hB : Below w2.heap.size w2 w') => (HRa.out w' (bstep HB2.out hB)).mono (fun _ _ h => NewP.of hB (playsF_length f g (f.length + f2.length)) h))
        go_cut [9] (fun s wc => ∃ g3 t p ct cp, s = .pointer (some ⟨g3, 0, none⟩) ∧ TogAt w2 (f.length + f2.length) (timesF f f2) (playsF f g (f.length + f2.length)) g3 t p ct cp wc)
        case first =>
          go_region_held3 (fun w' => w'.cell? ⟨w.heap.size, 0, none⟩ = some (.slice a1 f.length c1) ∧ w'.cell? ⟨w.heap.size, 1, none⟩ = some (.slice a2 g.length c2) ∧ w'.cell? ⟨w.heap.size + 1, 0, none⟩ = some (.slice a3 f2.length c3))
            (first | go_keep | exact ⟨cstep p1' (by first | assumption | exact hBp2.alloc hBp2.size _ | exact (hBp2.alloc hBp2.size _).drew | exact (hBp2.setCell hBt2.size _).setCell hBt2.size _ | exact ((hBp2.setCell hBt2.size _).setCell hBt2.size _).drew | exact (hBp2.setCell (Nat.le_refl _) _).setCell (Nat.le_refl _) _ | exact ((hBp2.setCell (Nat.le_refl _) _).setCell (Nat.le_refl _) _).drew), cstep p2' (by first | assumption | exact hBp2.alloc hBp2.size _ | exact (hBp2.alloc hBp2.size _).drew | exact (hBp2.setCell hBt2.size _).setCell hBt2.size _ | exact ((hBp2.setCell hBt2.size _).setCell hBt2.size _).drew | exact (hBp2.setCell (Nat.le_refl _) _).setCell (Nat.le_refl _) _ | exact ((hBp2.setCell (Nat.le_refl _) _).setCell (Nat.le_refl _) _).drew), cstep p3' (by first | assumption | exact hBp2.alloc hBp2.size _ | exact (hBp2.alloc hBp2.size _).drew | exact (hBp2.setCell hBt2.size _).setCell hBt2.size _ | exact ((hBp2.setCell hBt2.size _).setCell hBt2.size _).drew | exact (hBp2.setCell (Nat.le_refl _) _).setCell (Nat.le_refl _) _ | exact ((hBp2.setCell (Nat.le_refl _) _).setCell (Nat.le_refl _) _).drew)⟩)
            (first
              | (go_at_call 74; refine (Q1.out _ (by first | exact hBt2 | exact hBt2.drew | exact hBt2.alloc hBt2.size _ | exact (hBt2.alloc hBt2.size _).drew | exact Below.refl _ _ | exact (Below.refl _ _).drew | exact (Below.refl _ _).alloc (Nat.le_refl _) _ | exact ((Below.refl _ _).alloc (Nat.le_refl _) _).drew)).mono ?_; rintro e wt ⟨gt, ct, rfl, hot, hgt1, hgt2, hBt2, hBt3, hst, hct, hft⟩)
              | (go_at_call 58; refine (Q2.out _ (by first | exact hBt2 | exact hBt2.drew | exact hBt2.alloc hBt2.size _ | exact (hBt2.alloc hBt2.size _).drew | exact Below.refl _ _ | exact (Below.refl _ _).drew | exact (Below.refl _ _).alloc (Nat.le_refl _) _ | exact ((Below.refl _ _).alloc (Nat.le_refl _) _).drew)).mono ?_; rintro e wp ⟨gp, cp, rfl, hop, hgp1, hgp2, hBp2, hBp3, hsp, hcp, hfp⟩))
          all_goals (go_wp2; go_meet)
          · refine ⟨_, gt, gp, ct, cp, rfl, TogAt.of hot hBp3 hop hBp2 (by omega) (by omega) (by omega) hBp2.size ((Only.refl _ _).alloc _) (hBp2.alloc hBp2.size _) (heap_alloc_new wp _)⟩
          · have hX : Below wt.heap.size wt (wt.alloc (.cells #[.slice none 0 0, .slice none 0 0] 24)) := (Below.refl _ _).alloc (Nat.le_refl _) _
            have hz := (z24 (heap_alloc_new wt _) hBp3).2.2.2.2
            simp at hgp1
            have hO : Only (fun b => b = wt.heap.size) wp ((wp.setCell ⟨wt.heap.size, 0, none⟩ (.slice (some ⟨gt, 0, none⟩) (f.length + f2.length) ct)).setCell ⟨wt.heap.size, 1, none⟩ (.slice (some ⟨gp, 0, none⟩) (f.length + f2.length) cp)) := (setCell_only _ _ _).trans (setCell_only _ _ _)
            exact ⟨_, gt, gp, ct, cp, rfl, TogAt.of hot (bstep hX hBp3) hop hBp2 (by omega) (by omega) (by omega) hBt2.size hO ((hBp2.setCell hBt2.size _).setCell hBt2.size _) (set24 hz _ _)⟩
          · have hz1 := (z24 (X := (w2.alloc (.cells #[.slice none 0 0, .slice none 0 0] 24)).drew) (g := w2.heap.size) (heap_alloc_new w2 _) hBt3).2.2.2.2
            have hz := (z24 hz1 hBp3).2.2.2.2
            simp at hgt1
            have hO : Only (fun b => b = w2.heap.size) wp ((wp.setCell ⟨w2.heap.size, 0, none⟩ (.slice (some ⟨gt, 0, none⟩) (f.length + f2.length) ct)).setCell ⟨w2.heap.size, 1, none⟩ (.slice (some ⟨gp, 0, none⟩) (f.length + f2.length) cp)) := (setCell_only _ _ _).trans (setCell_only _ _ _)
            exact ⟨_, gt, gp, ct, cp, rfl, TogAt.of hot hBp3 hop hBp2 (by omega) (by omega) (by omega) (Nat.le_refl _) hO ((hBp2.setCell (Nat.le_refl _) _).setCell (Nat.le_refl _) _) (set24 hz _ _)⟩
        case rest =>
          obtain ⟨g3, t, p, ct, cp, rfl, hT⟩ := hcut
          have hBw := bstep HB2.out hT.below
          have r3 := cstep p3' hT.below
          have r4 := cstep p4' hT.below
          have hrb := HRb.out wc hBw
          have HT3 := hid hT; have Hrb := hid hrb
          clear hT hrb hBw p1' p2' p3' p4'
          go_wp2_with fail
          refine Hrb.out.mono ?_
          rintro e w5 ⟨vq, rfl, ⟨q, cq, rfl, hoq⟩, hB5⟩
          rw [playsF_length] at hoq ⊢
          obtain ⟨pl, hpl⟩ : ∃ pl, pl = playsF f g (f.length + f2.length) := ⟨_, rfl⟩
          obtain ⟨ql, hql⟩ : ∃ ql, ql = playsF f2 g2 (f.length + f2.length) := ⟨_, rfl⟩
          have hpl1 : pl.length = f.length + f2.length := by rw [hpl, playsF_length]
          have hql1 : ql.length = f.length + f2.length := by rw [hql, playsF_length]
          have hpb : isBits pl = true := by rw [hpl]; exact playsF_bits (f := f) Hg1.out _
          have hqb : isBits ql = true := by rw [hql]; exact playsF_bits (f := f2) Hg2.out _
          have HT4 := HT3.out
          rw [← hpl] at HT4
          rw [← hql] at hoq
          have hoq2 : OwnI wc.heap.size w5 (some ⟨q, 0, none⟩) (f.length + f2.length) cq ql := ⟨hql1, hoq⟩
          have hq1 := hoq2.ge q 0 rfl
          have hp1 : p < wc.heap.size := by
            rcases HT4.fp.2.2 with ⟨e, _⟩ | ⟨g', c, cur, e, _, hh, _⟩
            · cases e
            · cases e; exact (Array.getElem?_eq_some_iff.1 hh).1
          have hp2 := HT4.fp.ge p 0 rfl
          have hd5 := (hB5.block g3 (Array.getElem?_eq_some_iff.1 HT4.d).1).trans HT4.d
          have ht5 := HT4.ft.kept hB5
          have hp5 := HT4.fp.kept hB5
          have hP5 := (bstep HT4.below hB5).block (w.heap.size + 2) (by omega) |>.trans P6.out
          have hBF := bstep (bstep HB2.out HT4.below) hB5
          have hg1 := HT4.gp
          have ht1 := HT4.tp
          have hsz5 := hB5.size
          have hsz6 := HT4.below.size
          have Hd5 := hid hd5; have Ht5 := hid ht5; have Hp5 := hid hp5; have HP5 := hid hP5; have HBF := hid hBF; have Hoq2 := hid hoq2
          have Hpl := hid hpl; have Hql := hid hql; have Hpb := hid hpb; have Hqb := hid hqb; have Hql1 := hid hql1; have Hpl1 := hid hpl1
          clear hpl hql hpl1 hql1 hpb hqb HT4 hoq hoq2 hd5 ht5 hp5 hP5 hBF hB5 r3 r4
          go_wp2
          go_loopw [10, 11, 47] (fun _ _ i wr => ∃ k : Nat, k ≤ f.length + f2.length ∧ i = .int .i64 k ∧ OwnI w2.heap.size wr (some ⟨p, 0, none⟩) (f.length + f2.length) cp (xorTo pl ql k) ∧ Only (fun b => b = p) w5 wr) (fun _ _ i _ => f.length + f2.length - (intOf i).toNat)
          case atStart => exact ⟨0, Nat.zero_le _, rfl, Hp5.out, Only.refl _ _⟩
          case round =>
            obtain ⟨k, hk, rfl, how, ho⟩ := hrel
            obtain ⟨wq, rfl⟩ : ∃ wq : World, wq = wr := ⟨_, rfl⟩
            by_cases hlt : k < f.length + f2.length
            · have hlt2 : (k : Int) < (f.length : Int) + (f2.length : Int) := by omega
              have hcq := (Hoq2.out.at.only ho (fun b off e _ h => by cases e; omega)).cell (k := k) (by rw [Hql1.out]; exact hlt)
              rw [Nat.zero_add] at hcq
              have hcp := how.at.cell (k := k) (by rw [how.1]; exact hlt)
              rw [Nat.zero_add] at hcp
              have hcf : wq.frozen? ⟨p, k, none⟩ = false := by
                rcases how.2.2 with ⟨e, _⟩ | ⟨g', c, cur, e, _, hh, _⟩
                · cases e
                · cases e; exact frozen_of_row _ _ _ _ _ hh
              have hcg : wq.cell? ⟨g3, 1, none⟩ = some (.slice (some ⟨p, 0, none⟩) (f.length + f2.length) cp) := by
                rw [cell_of_row _ _ _ _ _ _ ((ho.block g3 (Array.getElem?_eq_some_iff.1 Hd5.out).1 hg1).trans Hd5.out)]; rfl
              have hxb : nth (xorTo pl ql k) k = nth pl k := xorTo_nth _ _ _ _ (Nat.le_refl _)
              rw [hxb] at hcp
              have hstep : bits .xor .i64 (nth pl k) (nth ql k) = (nth pl k + nth ql k) % 2 := xor_bit (isBits_nth Hpb.out _) (isBits_nth Hqb.out _)
              have Hstep := hid hstep; have How := hid how; have Ho := hid ho
              clear hstep how ho hxb
              go_wp2
              go_roundw
              case rel =>
                refine ⟨k + 1, by omega, by go_num, ?_, Ho.out.set1 _ _⟩
                rw [Hstep.out]
                exact How.out.setAt _
              case measure => simp [intOf]; omega
            · obtain rfl : k = f.length + f2.length := by omega
              have hd6 := (ho.block g3 (Array.getElem?_eq_some_iff.1 Hd5.out).1 hg1).trans Hd5.out
              have hP6 := (ho.block (w.heap.size + 2) (by omega) (by omega)).trans HP5.out
              have d3 := cell_of_row wq g3 0 _ _ _ hd6
              have d4 := cell_of_row wq g3 1 _ _ _ hd6
              have d5 := cell_of_row wq (w.heap.size + 2) 0 _ _ _ hP6
              have d6 := cell_of_row wq (w.heap.size + 2) 1 _ _ _ hP6
              simp at d3 d4 d5 d6
              have hfr : ∀ k, wq.frozen? ⟨w.heap.size + 2, k, none⟩ = false := fun k => frozen_of_row _ _ _ _ _ hP6
              have HP6 := hid hP6; have How := hid how; have Ho := hid ho
              have ht2 := Ht5.out.ge t 0 rfl
              clear hd6 hP6 how ho
              go_wp2
              refine bodyPost_ret (ret24 rfl _ _ (w.heap.size + 2) _ _ rfl (set24 HP6.out _ _)) rfl ?_
              have hO := (setCell_only (w.heap.size + 2) 0 (.slice (some ⟨t, 0, none⟩) (f.length + f2.length) ct) (w := wq)).trans (setCell_only (w.heap.size + 2) 1 (.slice (some ⟨p, 0, none⟩) (f.length + f2.length) cp))
              have hB9 : Below w.heap.size w wq := HBF.out.trans (Ho.out.below HBF.out.size (by intro j hj; omega))
              have e1 : (timesF f f2).length = f.length + f2.length := timesF_length f f2
              refine ⟨_, rfl, hB9.trans (hO.below hB9.size (by intro j hj; omega)), _, _, rfl, ⟨some ⟨t, 0, none⟩, ct, by rw [e1], ?_, fun h => by cases h⟩, ⟨some ⟨p, 0, none⟩, cp, by rw [← Hpl.out, ← Hql.out, How.out.1], ?_, fun h => by cases h⟩⟩
              · exact (Ht5.out.only1 Ho.out ht1).at.only hO (fun b off e _ h => by cases e; omega)
              · rw [← Hpl.out, ← Hql.out]
                exact How.out.at.only hO (fun b off e _ h => by cases e; omega)
    · have he : togErr f g f2 g2 = checkDrum f2 g2 := by unfold togErr; rw [if_neg (by simp [hc1]), if_pos hc2]
      have hfe : togFeed f g f2 g2 = [] := by unfold togFeed; rw [if_neg (by rw [he]; exact hc2)]
      have hfi : togFirst f g f2 g2 = [] := by unfold togFirst; rw [if_neg (by rw [he]; exact hc2)]
      rw [he, hfe, hfi]
      rw [hc1] at H1
      generalize checkDrum f2 g2 = c at *
      have hcb : (c != 0) = true := by simp [hc2]
      have Hc2 := hid hc2
      clear he hfe hfi hc1 hc2
      go_enter Try.func43, Try.ntmps43
      go_wp2_with fail
      refine (H1.out _ HB0.out).mono ?_
      rintro e w1 ⟨rfl, hB1⟩
      have p1 := cstep (p := ⟨w.heap.size, 0, none⟩) (v := .slice a1 f.length c1) (by simp [go_sem]) hB1
      have p2 := cstep (p := ⟨w.heap.size, 1, none⟩) (v := .slice a2 g.length c2) (by simp [go_sem]) hB1
      have p3 := cstep (p := ⟨w.heap.size + 1, 0, none⟩) (v := .slice a3 f2.length c3) (by simp [go_sem]) hB1
      have p4 := cstep (p := ⟨w.heap.size + 1, 1, none⟩) (v := .slice a4 g2.length c4) (by simp [go_sem]) hB1
      have p5 := (hB1.block (w.heap.size + 2) (by simp)).trans (heap3_3 w _ _ (.cells #[.slice none 0 0, .slice none 0 0] 24 (0, 0)))
      have P5 := hid p5; have HB1 := hid (bstep HB0.out hB1)
      have hs1 : w.heap.size + 3 ≤ w1.heap.size := by have := hB1.size; simp at this; omega
      clear p5 hB1
      go_wp2_with fail
      refine (H2.out _ HB1.out).mono ?_
      rintro e w2 ⟨rfl, hB2⟩
      have p1' := cstep p1 hB2
      have p2' := cstep p2 hB2
      have p3' := cstep p3 hB2
      have p4' := cstep p4 hB2
      have P6 := hid ((hB2.block (w.heap.size + 2) (by omega)).trans P5.out)
      have HB2 := hid (bstep HB1.out hB2)
      have hs2 : w.heap.size + 3 ≤ w2.heap.size := by have := hB2.size; omega
      clear p1 p2 p3 p4 hB2 hs1
      have d5 := cell_of_row w2 (w.heap.size + 2) 0 _ _ _ P6.out
      have d6 := cell_of_row w2 (w.heap.size + 2) 1 _ _ _ P6.out
      simp at d5 d6
      have hfr : ∀ k, w2.frozen? ⟨w.heap.size + 2, k, none⟩ = false := fun k => frozen_of_row _ _ _ _ _ P6.out
      go_wp2
      refine bodyPost_ret (ret24 rfl _ _ (w.heap.size + 2) _ _ rfl (set24 P6.out _ _)) rfl ?_
      have hO := (setCell_only (w.heap.size + 2) 0 (.slice none 0 0) (w := w2)).trans (setCell_only (w.heap.size + 2) 1 (.slice none 0 0))
      exact ⟨_, rfl, HB2.out.trans (hO.below HB2.out.size (by intro j hj; omega)), _, _, rfl, Sl.nil _, Sl.nil _⟩
  · have he : togErr f g f2 g2 = checkDrum f g := by unfold togErr; rw [if_pos hc1]
    have hfe : togFeed f g f2 g2 = [] := by unfold togFeed; rw [if_neg (by rw [he]; exact hc1)]
    have hfi : togFirst f g f2 g2 = [] := by unfold togFirst; rw [if_neg (by rw [he]; exact hc1)]
    rw [he, hfe, hfi]
    generalize checkDrum f g = c at *
    have hcb : (c != 0) = true := by simp [hc1]
    have Hc1 := hid hc1
    clear he hfe hfi hc1
    go_enter Try.func43, Try.ntmps43
    go_wp2_with fail
    refine (H1.out _ HB0.out).mono ?_
    rintro e w1 ⟨rfl, hB1⟩
    have p1 := cstep (p := ⟨w.heap.size, 0, none⟩) (v := .slice a1 f.length c1) (by simp [go_sem]) hB1
    have p2 := cstep (p := ⟨w.heap.size, 1, none⟩) (v := .slice a2 g.length c2) (by simp [go_sem]) hB1
    have p3 := cstep (p := ⟨w.heap.size + 1, 0, none⟩) (v := .slice a3 f2.length c3) (by simp [go_sem]) hB1
    have p4 := cstep (p := ⟨w.heap.size + 1, 1, none⟩) (v := .slice a4 g2.length c4) (by simp [go_sem]) hB1
    have p5 := (hB1.block (w.heap.size + 2) (by simp)).trans (heap3_3 w _ _ (.cells #[.slice none 0 0, .slice none 0 0] 24 (0, 0)))
    have P5 := hid p5; have HB1 := hid (bstep HB0.out hB1)
    have hs1 : w.heap.size + 3 ≤ w1.heap.size := by have := hB1.size; simp at this; omega
    clear p5 hB1
    have d5 := cell_of_row w1 (w.heap.size + 2) 0 _ _ _ P5.out
    have d6 := cell_of_row w1 (w.heap.size + 2) 1 _ _ _ P5.out
    simp at d5 d6
    have hfr : ∀ k, w1.frozen? ⟨w.heap.size + 2, k, none⟩ = false := fun k => frozen_of_row _ _ _ _ _ P5.out
    go_wp2
    refine bodyPost_ret (ret24 rfl _ _ (w.heap.size + 2) _ _ rfl (set24 P5.out _ _)) rfl ?_
    have hO := (setCell_only (w.heap.size + 2) 0 (.slice none 0 0) (w := w1)).trans (setCell_only (w.heap.size + 2) 1 (.slice none 0 0))
    exact ⟨_, rfl, HB1.out.trans (hO.below HB1.out.size (by intro j hj; omega)), _, _, rfl, Sl.nil _, Sl.nil _⟩

end Go.Proofs.Ytjnijhnphhpilaa
