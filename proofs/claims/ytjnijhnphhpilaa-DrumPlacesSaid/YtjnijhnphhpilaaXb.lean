/- Walk of the reference: solved. -/
import Derived.Test.YtjnijhnphhpilaaXa
import Derived.Test.YtjnijhnphhpilaaLd
namespace Go.Proofs.Ytjnijhnphhpilaa
open Go.RowKit Go.Shelf

/-- the solver's list behind k columns, n of them with a pivot -/
structure SolI (xs : List Int) (P : Nat) (w : World) (ao : Option Addr) (k n : Nat) (F : List Nat) (pv : Nat → Nat) (wr : World) : Prop where
  eqv : Eqv P (eqs xs P) F
  ech : Ech F k n pv
  top : ∀ i, i < F.length → ∀ c, P ≤ c → c ≠ 40 → eb F i c = false
  mem : QAt wr ao F
  own : ∀ b off, ao = some ⟨b, off, none⟩ → w.heap.size ≤ b
  below : Below w.heap.size w wr

def SolP (xs : List Int) (P : Nat) (w : World) (e : Ending) (w' : World) : Prop :=
  ∃ (ao : Option Addr) (cap : Nat) (F : List Nat) (n : Nat) (pv : Nat → Nat), e = .returned (.tuple #[.slice ao (xs.length - P) cap, .int .i64 n, .bool (goodB F n)]) ∧ Solved xs P F n pv ∧ QAt w' ao F ∧ Below w.heap.size w w'

theorem QAt.at {w : World} {ao : Option Addr} {F : List Nat} (h : QAt w ao F) {i : Nat} (hi : i < F.length) : ∃ b cs, ao = some ⟨b, 0, none⟩ ∧ w.heap[b]? = some (.cells cs 94 (0, 0)) ∧ EV F cs.toList := by
  rcases h with rfl | ⟨b, cs, h⟩
  · exact absurd hi (by simp)
  · exact ⟨b, cs, h⟩

theorem EV.cell {w : World} {b : Nat} {cs : Array Value} {F : List Nat} (hh : w.heap[b]? = some (.cells cs 94 (0, 0))) (h : EV F cs.toList) {i : Nat} (hi : i < F.length) :
    w.cell? ⟨b, i * 2, none⟩ = some (.int .u64 (en F i)) ∧ (∃ p : Int, w.cell? ⟨b, i * 2 + 1, none⟩ = some (.int .u64 p)) ∧ w.frozen? ⟨b, i * 2, none⟩ = false ∧ w.frozen? ⟨b, i * 2 + 1, none⟩ = false := by
  have h1 := h i hi
  simp only [Array.getElem?_toList] at h1
  refine ⟨?_, ?_, frozen_of_row _ _ _ _ _ hh, frozen_of_row _ _ _ _ _ hh⟩
  · rw [cell_of_row _ _ _ _ _ _ hh, Nat.mul_comm]; exact h1.1
  · obtain ⟨p, hp⟩ := h1.2
    exact ⟨p, by rw [cell_of_row _ _ _ _ _ _ hh, Nat.mul_comm]; exact hp⟩

theorem en_lt {F : List Nat} {P : Nat} (hP : P ≤ 40) (top : ∀ i, i < F.length → ∀ c, P ≤ c → c ≠ 40 → eb F i c = false) {i : Nat} (hi : i < F.length) : en F i < 2 ^ 41 :=
  Nat.lt_pow_two_of_testBit _ (fun c hc => top i hi c (by omega) (by omega))

theorem bit_eb {F : List Nat} {i : Nat} (h : en F i < 2 ^ 41) (k : Nat) : bits .and .u64 ((en F i : Int) / 2 ^ k) 1 = if eb F i k then 1 else 0 := by
  rw [bit_of (by unfold lt64; omega) k]
  unfold eb
  rw [Nat.testBit_eq_decide_div_mod_eq]
  have h2 : en F i / 2 ^ k % 2 < 2 := by omega
  by_cases e : en F i / 2 ^ k % 2 = 1
  · rw [e]; rfl
  · have e0 : en F i / 2 ^ k % 2 = 0 := by omega
    rw [e0]; rfl

/-- an equation is written -/
theorem EV.put {w : World} {b : Nat} {cs : Array Value} {F : List Nat} (hh : w.heap[b]? = some (.cells cs 94 (0, 0))) (h : EV F cs.toList) {i : Nat} (hi : i < F.length) (v : Nat) (p : Int) :
    ∃ cs' : Array Value, ((w.setCell ⟨b, i * 2, none⟩ (.int .u64 v)).setCell ⟨b, i * 2 + 1, none⟩ (.int .u64 p)).heap[b]? = some (.cells cs' 94 (0, 0)) ∧ EV (F.set i v) cs'.toList := by
  refine ⟨_, heap_setCell_same _ b (i * 2 + 1) _ 94 _ (heap_setCell_same w b (i * 2) cs 94 _ hh), fun j hj => ?_⟩
  rw [List.length_set] at hj
  have h1 := h j hj
  have hi1 := h i hi
  simp only [Array.getElem?_toList] at h1 hi1 ⊢
  have hs1 : 2 * i + 1 < cs.size := by
    obtain ⟨p, hp⟩ := hi1.2
    exact (Array.getElem?_eq_some_iff.1 hp).1
  by_cases e : i = j
  · subst e
    rw [en_set, if_pos ⟨rfl, hi⟩]
    refine ⟨?_, p, ?_⟩
    · rw [Array.getElem?_setIfInBounds_ne (by omega), show 2 * i = i * 2 from by omega, Array.getElem?_setIfInBounds_self_of_lt (by omega)]
    · rw [show 2 * i + 1 = i * 2 + 1 from by omega, Array.getElem?_setIfInBounds_self_of_lt (by rw [Array.size_setIfInBounds]; omega)]
  · rw [en_set, if_neg (fun k => e k.1)]
    rw [Array.getElem?_setIfInBounds_ne (by omega), Array.getElem?_setIfInBounds_ne (by omega), Array.getElem?_setIfInBounds_ne (by omega), Array.getElem?_setIfInBounds_ne (by omega)]
    exact h1

/-- behind so many rounds of the third loop -/
structure ElI (xs : List Int) (P : Nat) (w : World) (b k n j : Nat) (F1 G : List Nat) (wr : World) : Prop where
  eqv : Eqv P (eqs xs P) G
  len : G.length = F1.length
  top : ∀ i, i < G.length → ∀ c, P ≤ c → c ≠ 40 → eb G i c = false
  pt : ∀ i, i < F1.length → ∀ c, eb G i c = if i < j ∧ i ≠ n ∧ eb F1 i k = true then (eb F1 i c ^^ eb F1 n c) else eb F1 i c
  mem : ∃ cs, wr.heap[b]? = some (.cells cs 94 (0, 0)) ∧ EV G cs.toList
  below : Below w.heap.size w wr

theorem ElI.skip {xs : List Int} {P : Nat} {w wr : World} {b k n j : Nat} {F1 G : List Nat} (h : ElI xs P w b k n j F1 G wr) (hs : j = n ∨ eb F1 j k = false) : ElI xs P w b k n (j + 1) F1 G wr :=
  ⟨h.eqv, h.len, h.top, fun i hi c => by
    rw [h.pt i hi c]
    by_cases e : i = j
    · subst e
      rw [if_neg (by omega), if_neg (fun h => hs.elim (fun h3 => h.2.1 h3) (fun h3 => by rw [h3] at h; cases h.2.2))]
    · by_cases h1 : i < j
      · have e1 : (i < j ∧ i ≠ n ∧ eb F1 i k = true) ↔ (i < j + 1 ∧ i ≠ n ∧ eb F1 i k = true) := ⟨fun h => ⟨by omega, h.2⟩, fun h => ⟨h1, h.2⟩⟩
        simp only [e1]
      · rw [if_neg (fun h => h1 h.1), if_neg (fun h => absurd h.1 (by omega))], h.mem, h.below⟩

theorem ElI.here {xs : List Int} {P : Nat} {w wr : World} {b k n j : Nat} {F1 G : List Nat} (h : ElI xs P w b k n j F1 G wr) {i : Nat} (hi : i < F1.length) (hj : j ≤ i ∨ i = n) (c : Nat) : eb G i c = eb F1 i c := by
  rw [h.pt i hi c, if_neg (fun h => hj.elim (fun h3 => by omega) (fun h3 => h.2.1 h3))]

theorem ElI.add {xs : List Int} {P : Nat} {w wr wn : World} {b k n j : Nat} {F1 G : List Nat} (h : ElI xs P w b k n j F1 G wr) (hj : j < F1.length) (hn : n < F1.length) (hne : j ≠ n) (hb : eb F1 j k = true)
    (hm : ∃ cs, wn.heap[b]? = some (.cells cs 94 (0, 0)) ∧ EV (G.set j (en G j ^^^ en G n)) cs.toList) (hB : Below w.heap.size w wn) : ElI xs P w b k n (j + 1) F1 (G.set j (en G j ^^^ en G n)) wn := by
  have hjG : j < G.length := by rw [h.len]; exact hj
  have hnG : n < G.length := by rw [h.len]; exact hn
  refine ⟨h.eqv.trans (Eqv.add hjG hnG hne), by rw [List.length_set, h.len], fun i hi c h1 h2 => ?_, fun i hi c => ?_, hm, hB⟩
  · rw [List.length_set] at hi
    rw [eb_xor G hjG]
    split
    · rw [h.top j hjG c h1 h2, h.top n hnG c h1 h2]; rfl
    · exact h.top i hi c h1 h2
  · rw [eb_xor G hjG]
    by_cases e : i = j
    · subst e
      rw [if_pos rfl, if_pos ⟨by omega, hne, hb⟩, h.here hj (.inl (Nat.le_refl _)), h.here hn (.inr rfl)]
    · rw [if_neg e, h.pt i hi c]
      by_cases h1 : i < j
      · have e1 : (i < j ∧ i ≠ n ∧ eb F1 i k = true) ↔ (i < j + 1 ∧ i ≠ n ∧ eb F1 i k = true) := ⟨fun h => ⟨by omega, h.2⟩, fun h => ⟨h1, h.2⟩⟩
        simp only [e1]
      · rw [if_neg (fun h => h1 h.1), if_neg (fun h => absurd h.1 (by omega))]

set_option maxRecDepth 100000 in
set_option maxHeartbeats 10000000 in
theorem solved_c (a : Option Addr) (cap P : Nat) (xs : List Int) (w : World) (hx : IntsAt w a xs) (hl : xs.length ≤ 40) (hP : P ≤ xs.length) (hb : isBits xs = true) :
    Calls Try.prog 71 #[.slice a xs.length cap, .int .i64 P] w (SolP xs P w) := by
  have HE := hid (equations_c a cap P xs w hx hl hP hb)
  have hP40 : P ≤ 40 := by omega
  clear hx hb
  go_enter Try.func71, Try.ntmps71
  go_wp2_with fail
  refine HE.out.mono ?_
  rintro e w1 ⟨ao, cp, rfl, hown, hB⟩
  obtain ⟨m, hm⟩ : ∃ m, m = (eqs xs P).length := ⟨_, rfl⟩
  have hmx : m = xs.length - P := by rw [hm, eqs_length]
  rw [← hm]
  have HI := hid (show SolI xs P w ao 0 0 (eqs xs P) id w1 from ⟨Eqv.refl _ _, Ech.start _ _, fun i hi c h1 h2 => by
      rw [eqs_length] at hi
      rw [eqs_eb xs hP40 hi, if_neg (by omega)]; simp [h2], hown.at, fun b off e => by subst e; exact hown.ge, hB⟩)
  have Hm := hid hm; have Hmx := hid hmx
  have hm40 : m ≤ 40 := by omega
  clear hown hB hm hmx HE
  go_wp2
  go_loopw [8, 9] (fun n k wr => ∃ (kk nn : Nat) (F : List Nat) (pv : Nat → Nat), kk ≤ P ∧ k = .int .i64 kk ∧ n = .int .i64 nn ∧ SolI xs P w ao kk nn F pv wr) (fun _ k _ => P - (intOf k).toNat)
  case atStart => exact ⟨0, 0, _, id, Nat.zero_le _, rfl, rfl, HI.out⟩
  case round =>
    obtain ⟨k, n, F, pv, hk, rfl, rfl, hI⟩ := hrel
    obtain ⟨wo, rfl⟩ : ∃ wo : World, wo = wr := ⟨_, rfl⟩
    have HI2 := hid hI
    have hFm : F.length = m := by rw [hI.eqv.len, Hm.out]
    have hnm : n ≤ m := by have := hI.ech.nle; omega
    have HFm := hid hFm
    clear HI hI hFm
    by_cases hkP : k < P
    · go_wp2
      go_loop [10] (fun t => ∃ r : Nat, n ≤ r ∧ r ≤ m ∧ t = .int .i64 r ∧ ∀ i, n ≤ i → i < r → eb F i k = false) (fun t => m - (intOf t).toNat)
      case atStart => exact ⟨n, Nat.le_refl _, hnm, rfl, fun i h1 h2 => by omega⟩
      case round =>
        obtain ⟨r, hr0, hr, rfl, hz⟩ := hrel
        have Hz := hid hz
        clear hz
        by_cases hrm : r < m
        · obtain ⟨b, cs, rfl, hh, hev⟩ := HI2.out.mem.at (i := r) (by rw [HFm.out]; exact hrm)
          obtain ⟨q0, -, -, -⟩ := hev.cell hh (i := r) (by rw [HFm.out]; exact hrm)
          have hbit := bit_eb (en_lt hP40 HI2.out.top (i := r) (by rw [HFm.out]; exact hrm)) k
          have hk64 : (k : Int) % 64 = (k : Int) := by omega
          cases hbb : eb F r k with
          | false =>
            rw [hbb] at hbit
            simp only [Bool.false_eq_true, if_false] at hbit
            have Hbb := hid hbb
            clear hbb hh hev
            go_wp2
            go_round
            case rel => exact ⟨r + 1, by omega, by omega, by go_num, fun i h1 h2 => by
              by_cases e : i = r
              · subst e; exact Hbb.out
              · exact Hz.out i h1 (by omega)⟩
            case measure => simp [intOf]; omega
          | true =>
            rw [hbb] at hbit
            simp only [if_true] at hbit
            have Hbb := hid hbb
            clear hbb
            have hnm2 : n < m := by omega
            obtain ⟨q1, ⟨p1, q2⟩, f1, f2⟩ := hev.cell hh (i := r) (by rw [HFm.out]; exact hrm)
            obtain ⟨q3, ⟨p2, q4⟩, f3, f4⟩ := hev.cell hh (i := n) (by rw [HFm.out]; exact hnm2)
            have Hh := hid hh; have Hev := hid hev
            have hF1l : ((F.set n (en F r)).set r (en F n)).length = m := by rw [List.length_set, List.length_set]; exact HFm.out
            have hput : ∀ (z1 z2 : Int), ∃ cs' : Array Value, ((((wo.setCell ⟨b, n * 2, none⟩ (.int .u64 (en F r))).setCell ⟨b, n * 2 + 1, none⟩ (.int .u64 z1)).setCell ⟨b, r * 2, none⟩ (.int .u64 (en F n))).setCell ⟨b, r * 2 + 1, none⟩ (.int .u64 z2)).heap[b]? = some (.cells cs' 94 (0, 0)) ∧
                EV ((F.set n (en F r)).set r (en F n)) cs'.toList := fun z1 z2 => by
              obtain ⟨c1, g1, g2⟩ := hev.put hh (i := n) (by rw [HFm.out]; exact hnm2) (en F r) z1
              exact g2.put g1 (i := r) (by rw [List.length_set, HFm.out]; exact hrm) (en F n) z2
            have hge : w.heap.size ≤ b := HI2.out.own b 0 rfl
            have hBp : ∀ (z1 z2 : Int), Below w.heap.size w (((((wo.setCell ⟨b, n * 2, none⟩ (.int .u64 (en F r))).setCell ⟨b, n * 2 + 1, none⟩ (.int .u64 z1)).setCell ⟨b, r * 2, none⟩ (.int .u64 (en F n))).setCell ⟨b, r * 2 + 1, none⟩ (.int .u64 z2)).drew) := fun z1 z2 =>
              ((((HI2.out.below.setCell hge _).setCell hge _).setCell hge _).setCell hge _).drew
            have Hput := hid hput; have HBp := hid hBp; have HF1l := hid hF1l
            clear hh hev q0 hput hBp hF1l
            go_upto_region 10 with (fail)
            go_cut [] (fun wc => (∃ cs' : Array Value, wc.heap[b]? = some (.cells cs' 94 (0, 0)) ∧ EV ((F.set n (en F r)).set r (en F n)) cs'.toList) ∧ Below w.heap.size w wc)
            case first =>
              by_cases hrn : r = n
              · subst hrn
                go_region
                go_wp2
                go_meet
                exact ⟨Hput.out _ _, HBp.out _ _⟩
              · have hrn2 : ¬ n = r := fun e => hrn e.symm
                go_region
                go_wp2
                go_meet
                exact ⟨Hput.out _ _, HBp.out _ _⟩
            case rest =>
              obtain ⟨hmem, hBc⟩ := hcut
              obtain ⟨F1, hF1⟩ : ∃ F1, F1 = (F.set n (en F r)).set r (en F n) := ⟨_, rfl⟩
              have HF1 := hid hF1
              rw [← hF1] at hmem HF1l
              have hrF : r < F.length := by rw [HFm.out]; exact hrm
              have hnF : n < F.length := by rw [HFm.out]; exact hnm2
              have hF1eb : ∀ i, i < F.length → ∀ c, eb F1 i c = eb F (if i = n then r else if i = r then n else i) c := fun i hi c => by unfold eb; rw [hF1, Eqv.exch_en hi]
              have hEl := hid (show ElI xs P w b k n 0 F1 F1 wc from ⟨HI2.out.eqv.trans (by rw [hF1]; exact Eqv.exch hnF hrF), rfl, fun i hi c h1 h2 => by
                  rw [HF1l.out, ← HFm.out] at hi
                  rw [hF1eb i hi c]
                  exact HI2.out.top _ (by split; exact hrF; split <;> assumption) c h1 h2, fun i hi c => by rw [if_neg (fun h => absurd h.1 (by omega))], hmem, hBc⟩)
              have HF1eb := hid hF1eb
              clear hF1 hmem hBc hF1eb Hput HBp q1 q2 q3 q4 f1 f2 f3 f4
              go_wp2
              go_loopw [11] (fun i wr => ∃ (j : Nat) (G : List Nat), j ≤ m ∧ i = .int .i64 j ∧ ElI xs P w b k n j F1 G wr) (fun i _ => m - (intOf i).toNat)
              case atStart => exact ⟨0, F1, Nat.zero_le _, rfl, hEl.out⟩
              case round =>
                obtain ⟨j, G, hj, rfl, hel⟩ := hrel
                obtain ⟨wq, rfl⟩ : ∃ wq : World, wq = wr := ⟨_, rfl⟩
                have Hel := hid hel
                clear hel
                by_cases hjm : j < m
                · by_cases hjn : j = n
                  · subst hjn
                    go_wp2
                    go_roundw
                    case rel => exact ⟨j + 1, G, by omega, by go_num, Hel.out.skip (.inl rfl)⟩
                    case measure => simp [intOf]; omega
                  · obtain ⟨cs2, hh2, hev2⟩ := Hel.out.mem
                    have hjG : j < G.length := by rw [Hel.out.len, HF1l.out]; exact hjm
                    have hnG : n < G.length := by rw [Hel.out.len, HF1l.out]; exact hnm2
                    obtain ⟨q1, ⟨p1, q2⟩, f1, f2⟩ := hev2.cell hh2 hjG
                    obtain ⟨q3, ⟨p2, q4⟩, f3, f4⟩ := hev2.cell hh2 hnG
                    have hbit := bit_eb (en_lt hP40 Hel.out.top hjG) k
                    have hk64 : (k : Int) % 64 = (k : Int) := by omega
                    have hbG := Hel.out.here (i := j) (by rw [HF1l.out]; exact hjm) (.inl (Nat.le_refl _)) k
                    rw [hbG] at hbit
                    have Hput2 := hid (fun (z : Int) => hev2.put hh2 hjG (en G j ^^^ en G n) z)
                    have Hxor := hid (bits_xor_u64_nat (en G j) (en G n) (by have := en_lt hP40 Hel.out.top hjG; omega) (by have := en_lt hP40 Hel.out.top hnG; omega))
                    clear hh2 hev2 hbG
                    cases hbb : eb F1 j k with
                    | false =>
                      rw [hbb] at hbit
                      simp only [Bool.false_eq_true, if_false] at hbit
                      have Hbb := hid hbb
                      clear hbb
                      go_wp2
                      go_roundw
                      case rel => exact ⟨j + 1, G, by omega, by go_num, Hel.out.skip (.inr Hbb.out)⟩
                      case measure => simp [intOf]; omega
                    | true =>
                      rw [hbb] at hbit
                      simp only [if_true] at hbit
                      have Hbb := hid hbb
                      have hnj : ¬ n = j := fun e => hjn e.symm
                      clear hbb
                      go_wp2
                      go_region
                      go_wp2
                      go_roundw
                      case rel =>
                        refine ⟨j + 1, G.set j (en G j ^^^ en G n), by omega, by go_num, Hel.out.add (by rw [HF1l.out]; exact hjm) (by rw [HF1l.out]; exact hnm2) hjn Hbb.out ?_ (((Hel.out.below.setCell hge _).setCell hge _).drew)⟩
                        obtain ⟨cs4, g1, g2⟩ := Hput2.out (bits .xor .u64 p1 p2)
                        exact ⟨cs4, by rw [Hxor.out]; exact g1, g2⟩
                      case measure => simp [intOf]; omega
                · obtain rfl : j = m := by omega
                  go_wp2
                  go_roundw
                  case rel =>
                    have hel := Hel.out
                    refine ⟨k + 1, n + 1, G, fun i => if i = n then k else pv i, by omega, by go_num, by go_num, ⟨hel.eqv, ?_, hel.top, ?_, HI2.out.own, hel.below⟩⟩
                    · refine HI2.out.ech.next hr0 hrF Hbb.out (by rw [hel.len, HF1l.out, HFm.out]) (fun i hi c => ?_)
                      have hi1 : i < F1.length := by rw [HF1l.out, ← HFm.out]; exact hi
                      rw [hel.pt i hi1 c, HF1eb.out i hi k, HF1eb.out i hi c, HF1eb.out n hnF c]
                      simp only [if_true]
                      have hij : i < j := by rw [← HFm.out]; exact hi
                      simp only [hij, true_and]
                    · obtain ⟨cs3, h1, h2⟩ := hel.mem
                      exact .inr ⟨b, cs3, rfl, h1, h2⟩
                  case measure => simp [intOf]; omega
        · obtain rfl : r = m := by omega
          go_wp2
          go_roundw
          case rel =>
            refine ⟨k + 1, n, F, pv, by omega, by go_num, rfl, ⟨HI2.out.eqv, HI2.out.ech.skip (fun i h1 h2 => Hz.out i h1 (by rw [← HFm.out]; exact h2)), HI2.out.top, HI2.out.mem, HI2.out.own, HI2.out.below⟩⟩
          case measure => simp [intOf]; omega
    · obtain rfl : k = P := by omega
      go_wp2
      go_loop [12, 13] (fun g i => ∃ j : Nat, n ≤ j ∧ j ≤ m ∧ i = .int .i64 j ∧ g = .bool ((List.range j).all (fun i => decide (i < n) || en F i == 0))) (fun _ i => m - (intOf i).toNat)
      case atStart => exact ⟨n, Nat.le_refl _, hnm, rfl, by rw [List.all_eq_true.2 (fun i hi => by simp [List.mem_range.1 hi])]⟩
      case round =>
        obtain ⟨j, hnj, hj, rfl, rfl⟩ := hrel
        by_cases hjm : j < m
        · have hall : (List.range (j + 1)).all (fun i => decide (i < n) || en F i == 0) = ((List.range j).all (fun i => decide (i < n) || en F i == 0) && (en F j == 0)) := by
            rw [List.range_succ, List.all_append]
            simp [show ¬ j < n by omega]
          obtain ⟨v, hv⟩ : ∃ v, v = (List.range j).all (fun i => decide (i < n) || en F i == 0) := ⟨_, rfl⟩
          rw [← hv] at hall ⊢
          have Hall := hid hall
          clear hall hv
          cases v with
          | false =>
            go_wp2
            go_round
            case rel => exact ⟨j + 1, by omega, by omega, by go_num, by rw [Hall.out]; rfl⟩
            case measure => simp [intOf]; omega
          | true =>
            obtain ⟨b, cs, rfl, hh, hev⟩ := HI2.out.mem.at (i := j) (by rw [HFm.out]; exact hjm)
            obtain ⟨q0, -, -, -⟩ := hev.cell hh (i := j) (by rw [HFm.out]; exact hjm)
            clear hh hev
            obtain ⟨x, hx⟩ : ∃ x, x = en F j := ⟨_, rfl⟩
            rw [← hx] at q0 Hall
            clear hx
            by_cases hx0 : x = 0
            · subst hx0
              go_wp2
              go_round
              case rel => exact ⟨j + 1, by omega, by omega, by go_num, by rw [Hall.out]; rfl⟩
              case measure => simp [intOf]; omega
            · have hxb : ((x : Int) == 0) = false := by simp; omega
              have hxn : (x == 0) = false := by simpa using hx0
              have Hxn := hid hxn
              clear hxn
              go_wp2
              go_round
              case rel => exact ⟨j + 1, by omega, by omega, by go_num, by rw [Hall.out, Hxn.out]; rfl⟩
              case measure => simp [intOf]; omega
        · obtain rfl : j = m := by omega
          go_wp2
          go_ret3
          have hg : goodB F n = (List.range j).all (fun i => decide (i < n) || en F i == 0) := by unfold goodB; rw [HFm.out]
          exact ⟨ao, cp, F, n, pv, by rw [← Hmx.out, hg]; rfl, ⟨HI2.out.eqv, HI2.out.ech, HI2.out.top⟩, HI2.out.mem, HI2.out.below⟩

end Go.Proofs.Ytjnijhnphhpilaa
