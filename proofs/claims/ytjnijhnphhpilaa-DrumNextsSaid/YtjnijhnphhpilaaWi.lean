/- Walks: the reader reads one more play. -/
import Derived.Test.YtjnijhnphhpilaaWh
import Derived.Test.YtjnijhnphhpilaaRead
import Derived.Deep.DeepCutAuto
import Derived.BigRegion
import Derived.Deep.RegionWith
import Derived.StillTailTactics
namespace Go.Proofs.Ytjnijhnphhpilaa
open Go.RowKit Go.Shelf
attribute [local go_sem ↓] wp_get wp_get0 wp_getS wp73 wp71 wps73 wps71 wpa73

set_option maxRecDepth 100000 in
set_option maxHeartbeats 2000000 in
theorem read_c (b places far : Nat) (ra : Option Addr) (rc : Nat) (own row old : List Int) (pv : Value) (proof : List Int) (play : Int) (w : World) (hr : RdAt w b own places ra rc row old far pv) (hpr : Pr w b pv proof)
    (h0 : row.length = 0 → places = 0 ∧ own = zeros82 ∧ old = zeros82) (hok : RdOk (rdOwn own row) places row (rdOwn old row) (rdFar far row)) (hp : play = 0 ∨ play = 1)  :
    Calls Try.prog 64 #[.pointer (some ⟨b, 0, none⟩), .int .i64 play] w (ReadP w b (Rd.read ⟨own, places, row, old, far, proof⟩ play)) := by
  obtain ⟨R, hR⟩ : ∃ R, R = Rd.read ⟨own, places, row, old, far, proof⟩ play := ⟨_, rfl⟩
  rw [← hR]
  unfold Rd.read at hR
  simp only at hR
  have HR := hid hR; clear hR
  have Hpr := hid hpr; clear hpr
  have hrow1 := hr.cRow
  have hlt := hr.lt
  have hfr := hr.free
  have Hr := hid hr; have H0 := hid h0
  clear hr h0
  go_enter Try.func64, Try.ntmps64
  go_upto_if 14 with (fail)
  go_cut [] (fun wc => RdAt wc b (rdOwn own row) places ra rc row (rdOwn old row) (rdFar far row) pv ∧ Only (fun k => k = b) w wc)
  case first =>
    by_cases h : row.length = 0
    · have h0b : ((row.length : Int) == 0) = true := by simp [h]
      obtain ⟨rfl, rfl, rfl⟩ := H0.out h
      have Hh := hid h; clear h
      go_wp2_with (refine wpList_clear_ints _ rfl _ rfl b 0 82 82 rfl 75 (rdC zeros82 0 (.slice ra row.length rc) zeros82 far pv) Hr.out.heap ?c1 ?c2; rotate_right; (intro w1 hh1 ho1; refine Hid.out ?_))
      case c1 => rw [rdC_length zeros82_length zeros82_length]; decide
      case c2 =>
        rw [rdC_clear zeros82_length] at hh1
        refine hid ?_
        have hlt1 : b < w1.heap.size := (Array.getElem?_eq_some_iff.1 hh1).1
        have hfr1 : ∀ k, w1.frozen? ⟨b, k, none⟩ = false := fun k => frozen_of_row _ _ _ _ _ hh1
        have q0 := cell_of_row w1 b 0 _ _ _ hh1
        have q1 := cell_of_row w1 b 84 _ _ _ hh1
        have q2 := cell_of_row w1 b 166 _ _ _ hh1
        rw [List.getElem?_toArray, rdC_own zeros82_length zeros82_length (by decide)] at q0
        rw [List.getElem?_toArray, rdC_old (k := 0) zeros82_length zeros82_length (by decide)] at q1
        rw [List.getElem?_toArray, rdC_far zeros82_length zeros82_length] at q2
        have Hh1 := hid hh1; have Ho1 := hid ho1
        clear hh1 ho1
        go_wp2
        go_region
        go_wp2
        go_meet
        have e1 := (heap_setCell_same w1 b 0 _ 75 (.int .i64 1) Hh1.out).trans (cellsSet (rdC_set_own (k := 0) zeros82_length zeros82_length (by decide) 1))
        have e2 := (heap_setCell_same _ b 84 _ 75 (.int .i64 1) e1).trans (cellsSet (rdC_set_old (k := 0) one82_length zeros82_length (by decide) 1))
        have e3 := (heap_setCell_same _ b 166 _ 75 (.int .i64 1) e2).trans (cellsSet (rdC_set_far one82_length one82_length 1))
        have hO : Only (fun k => k = b) w (((w1.setCell ⟨b, 0, none⟩ (.int .i64 1)).setCell ⟨b, 84, none⟩ (.int .i64 1)).setCell ⟨b, 166, none⟩ (.int .i64 1)) :=
          ((Ho1.out.trans (setCell_only _ _ _)).trans (setCell_only _ _ _)).trans (setCell_only _ _ _)
        have ho : rdOwn zeros82 row = one82 := by unfold rdOwn; rw [if_pos Hh.out]
        have hf : rdFar far row = 1 := by unfold rdFar; rw [if_pos Hh.out]
        rw [ho, hf]
        refine ⟨⟨?_, one82_length, one82_length, .inl (List.eq_nil_of_length_eq_zero Hh.out), Hr.out.rnil, Hr.out.rcap⟩, ⟨hO.os, hO.tape, hO.output, hO.size, hO.block⟩⟩
        exact e3
    · have h0b : ((row.length : Int) == 0) = false := by simp [h]
      have Hh := hid h; clear h
      go_wp2
      go_meet
      have ho : ∀ l, rdOwn l row = l := fun l => by unfold rdOwn; rw [if_neg Hh.out]
      have hf : rdFar far row = far := by unfold rdFar; rw [if_neg Hh.out]
      rw [ho, ho, hf]
      exact ⟨Hr.out, Only.refl _ _⟩
  case rest =>
    obtain ⟨wo, rfl⟩ : ∃ wo : World, wo = wc := ⟨_, rfl⟩
    obtain ⟨hat, ho⟩ := hcut
    have Ho := hid ho
    clear ho Hr H0 hrow1 hlt hfr
    generalize rdOwn own row = own1 at *
    generalize rdOwn old row = old1 at *
    generalize rdFar far row = far1 at *
    have hrow1 := hat.cRow
    have hlt := hat.lt
    have hfr := hat.free
    have Hat := hid hat; have Hok := hid hok
    clear hat hok
    go_upto_region 4 with (fail)
    go_cut [5] (fun s wd => s = .bool (oddTo own1 row play places == 1) ∧ Below wo.heap.size wo wd)
    case first =>
      have hpo : partOk wo b 0 83 = true := partOk_of Hat.out.heap (by simp [rdC_length Hat.out.ownl Hat.out.oldl])
      have hcall : Calls Try.prog 84 #[.int .i64 play, .pointer (some ⟨wo.heap.size, 0, none⟩), .pointer (some ⟨wo.heap.size + 1, 0, none⟩)]
          ((wo.alloc (.cells (partAt wo b 0 83) 73)).alloc (.cells #[.slice ra row.length rc] 22)).drew fun e w' => e = .returned (.int .i64 (oddTo own1 row play places)) ∧ Below wo.heap.size wo w' := by
        have hB2 : Below wo.heap.size wo ((wo.alloc (.cells (partAt wo b 0 83) 73)).alloc (.cells #[.slice ra row.length rc] 22)).drew := (((Below.refl _ _).alloc (Nat.le_refl _) _).alloc (by simp) _).drew
        have hpa : partAt wo b 0 83 = (intv own1 ++ [Value.int .i64 places]).toArray := by
          rw [partAt_of Hat.out.heap]
          exact rdC_state Hat.out.ownl
        refine (odd1_c wo.heap.size (wo.heap.size + 1) rc places ra own1 row play _ ?_ ?_ ?_ (Hat.out.rat.mono hB2) Hok.out.places (by have := Hok.out.places; have := Hok.out.len; omega) (by have := Hok.out.len; omega) Hok.out.bown Hok.out.brow hp).mono ?_
        · rw [hpa]; simp [go_sem, intv, Hat.out.ownl]
        · intro k hk
          rw [hpa]
          simp only [World.cell?_drew]
          rw [World.cell?_alloc_past _ _ _ (by simp), World.cell?_alloc_at _ _ _ _ rfl, List.getElem?_toArray, List.getElem?_append_left (by rw [intv_length, Hat.out.ownl]; exact hk), intv_get, if_pos (by rw [Hat.out.ownl]; exact hk)]
        · simp [go_sem]
        · rintro e w' ⟨rfl, hB⟩
          exact ⟨rfl, bstep hB2 hB⟩
      have Hcall := hid hcall; clear hcall
      go_region_with (first | (go_at_call 79; refine (odd_c _ _ _ _ _).mono ?_; rintro e w' ⟨rfl, rfl⟩) | (go_at_call 84; refine Hcall.out.mono ?_; rintro e w' ⟨rfl, hB3⟩))
      all_goals (go_wp2; go_meet; exact ⟨rfl, by assumption⟩)
    case rest =>
      obtain ⟨rfl, hB⟩ := hcut
      have hat := Hat.out.mono hB
      have hrow2 := hat.cRow
      have hlt2 := hat.lt
      have hfr2 := hat.free
      have hlen := Hok.out.len
      have hcapl := Hat.out.rcap
      have HB := hid hB; have Hat2 := hid hat
      clear hB hat
      go_wp2_with (at_builtin; refine wpList_app_full _ rfl _ _ rfl ra row.length row.length row rfl rfl ?c1 ?c2 _ play rfl ?c3 ?c4 ?c5 ?c6; rotate_right; (intro nb ncap w3 hB3 hnb hat3 hcap3; refine Hid.out ?_))
      case c1 => exact Hat2.out.rat.mono ((Below.refl _ _).alloc (Nat.le_refl _) _)
      case c2 => intro h; exact ⟨(Hat2.out.rnil h).1, (Hat2.out.rnil h).1⟩
      case c3 => simp
      case c4 => omega
      case c5 => omega
      case c6 =>
        refine hid ?_
        have hat4 := (Hat2.out.mono ((Below.refl wc.heap.size wc).alloc (Nat.le_refl _) (.cells #[.int .i64 play] 3))).mono hB3
        have hlt4 := hat4.lt
        have hfr4 := hat4.free
        have hrow4 := hat4.cRow
        have HB3 := hid (bstep HB.out (bstep ((Below.refl wc.heap.size wc).alloc (Nat.le_refl _) (.cells #[.int .i64 play] 3)) hB3))
        have Hat4 := hid hat4; have Hat3 := hid hat3
        clear hB3 hat4 hat3
        go_upto_if 63 with (fail)
        obtain ⟨w4, hw4⟩ : ∃ w4, w4 = w3.setCell ⟨b, 83, none⟩ (.slice (some ⟨nb, 0, none⟩) (row.length + 1) ncap) := ⟨_, rfl⟩
        rw [← hw4]
        have hnbb : nb ≠ b := by simp at hnb; omega
        have hat5 : RdAt w4 b own1 places (some ⟨nb, 0, none⟩) ncap (row ++ [play]) old1 far1 pv := by
          refine ⟨?_, Hat.out.ownl, Hat.out.oldl, ?_, (fun h => by cases h), by simp; omega⟩
          · rw [hw4]
            refine (heap_setCell_same w3 b 83 _ 75 _ Hat4.out.heap).trans (cellsSet ?_)
            rw [rdC_set_row Hat.out.ownl Hat.out.oldl]
            simp
          · rw [hw4]
            exact Hat3.out.only (setCell_only b 83 _) (fun b' off' e _ h => by cases e; exact hnbb h)
        have ho5 : Only (fun k => k = b) wo w4 := by
          rw [hw4]; exact (Only.of_below HB3.out).trans (setCell_only b 83 _)
        have Hne : Hid (∀ b' off, (some ⟨nb, 0, none⟩ : Option Addr) = some ⟨b', off, none⟩ → b' ≠ b) := hid (fun b' off e => by cases e; exact hnbb)
        have hfar5 := hat5.cFar
        have hpl5 := hat5.cPlaces
        have hfr5 := hat5.free
        have hlt5 := hat5.lt
        have Hat5 := hid hat5; have Ho5 := hid ho5
        clear hw4 hat5 ho5 hfr4 hrow4 hlt4
        cases hwr : oddTo own1 row play places == 1 with
        | false =>
          have Hwr := hid hwr; clear hwr
          have hfb : far1 ≤ 100 := by have := Hok.out.far2; omega
          go_wp2
          go_end0
          have e : R = ⟨own1, places, row ++ [play], old1, far1 + 1, proof⟩ := HR.out.trans (if_pos Hwr.out)
          rw [e]
          refine ⟨rfl, ⟨some ⟨nb, 0, none⟩, ncap, pv, Hat5.out.setFar Hne.out (far1 + 1), ((Hpr.out.only Ho.out).only Ho5.out).only (setCell_only _ _ _)⟩, (Ho.out.trans Ho5.out).trans (setCell_only _ _ _)⟩
        | true =>
          have Hwr := hid hwr; clear hwr
          have hpo : partOk w4 b 0 83 = true := partOk_of Hat5.out.heap (by simp [rdC_length Hat.out.ownl Hat.out.oldl])
          have hpn : partOk (w4.alloc (.cells zero73 73)) w4.heap.size 0 83 = true := partOk_of (heap_alloc_new w4 _) (by rw [zero73_size]; decide)
          have hfn : freeB (w4.alloc (.cells zero73 73)) w4.heap.size = true := freeB_of (heap_alloc_new w4 _)
          have hpa : partAt w4 b 0 83 = (intv own1 ++ [Value.int .i64 places]).toArray := by rw [partAt_of Hat5.out.heap]; exact rdC_state Hat.out.ownl
          have hps : ((partAt w4 b 0 83).size == 83) = true := by rw [hpa]; simp [intv, Hat.out.ownl]
          have hp1 : (partAt w4 b 0 83).all (·.oneCell') = true := by
            rw [hpa]
            simp only [List.all_toArray, List.all_append, List.all_cons, List.all_nil, Bool.and_true]
            rw [List.all_eq_true.2 (intv_one own1)]; rfl
          have hset : World.setPart (w4.alloc (.cells zero73 73)) w4.heap.size 0 (partAt w4 b 0 83) = w4.alloc (.cells (partAt w4 b 0 83) 73) := by
            unfold World.setPart
            rw [heap_alloc_new]
            have hsz : (partAt w4 b 0 83).size = 83 := by simpa using hps
            simp only [List.take_zero, List.nil_append, Nat.zero_add, hsz]
            rw [setRow_alloc, List.drop_of_length_le (by rw [Array.length_toList, zero73_size]; exact Nat.le_refl _)]
            simp
          have Hpa := hid hpa; clear hpa
          go_upto_region 9 with (fail)
          obtain ⟨bs, hbs⟩ : ∃ bs, bs = w4.heap.size := ⟨_, rfl⟩
          obtain ⟨w5, hw5⟩ : ∃ w5, w5 = w4.alloc (.cells (partAt w4 b 0 83) 73) := ⟨_, rfl⟩
          rw [← hw5, ← hbs]
          have hB5 : Below w4.heap.size w4 w5 := by rw [hw5]; exact (Below.refl _ _).alloc (Nat.le_refl _) _
          have hat6 := Hat5.out.mono hB5
          have hsz5 : w5.heap.size = bs + 1 := by rw [hw5, hbs]; simp
          have hblk : w5.heap[bs]? = some (.cells (intv own1 ++ [Value.int .i64 places]).toArray 73 (0, 0)) := by rw [hw5, hbs, heap_alloc_new, Hpa.out]
          have hbsb : bs ≠ b := by omega
          have hfb1 : 1 ≤ far1 := Hok.out.far1
          have hfb : far1 ≤ 81 := by have := Hok.out.far2; omega
          have hfar6 := hat6.cFar
          have HB5 := hid hB5; have Hblk := hid hblk; have Hat6 := hid hat6
          clear hw5 hB5 hat6 hblk hps hp1 hset hpo hpn hfn hfar5 hpl5 hfr5
          have hbs4 : w4.heap.size ≤ bs := by omega
          have Hbs := hid hbs; clear hbs
          go_wp2
          go_loopw [7] (fun i wr => ∃ m : Nat, m ≤ 82 - far1 ∧ i = .int .i64 ((far1 + m : Nat) : Int) ∧ RdAt wr b (xorFrom own1 old1 far1 m) places (some ⟨nb, 0, none⟩) ncap (row ++ [play]) old1 far1 pv ∧ Only (fun k => k = b) w5 wr) (fun i _ => 82 - (intOf i).toNat)
          case atStart => exact ⟨0, Nat.zero_le _, rfl, Hat6.out, Only.refl _ _⟩
          case round =>
            obtain ⟨m, hm, rfl, hat7, ho7⟩ := hrel
            obtain ⟨wq, rfl⟩ : ∃ wq : World, wq = wr := ⟨_, rfl⟩
            have hfar7 := hat7.cFar
            have hfr7 := hat7.free
            have hlt7 := hat7.lt
            have hpl7 := hat7.cPlaces
            have hpr7 := hat7.cProof
            by_cases hmk : far1 + m < 82
            · have ho1 := hat7.cOwn hmk
              have ho2 := hat7.cOld (k := m) (by omega)
              have hstep : bits .xor .i64 (nth (xorFrom own1 old1 far1 m) (far1 + m)) (nth old1 m) = (nth (xorFrom own1 old1 far1 m) (far1 + m) + nth old1 m) % 2 :=
                xor_bit (isBits_nth (xorFrom_bits Hok.out.bown m) _) (isBits_nth Hok.out.bold m)
              have hcol : (((far1 + m : Nat) : Int) - (far1 : Int)) = (m : Int) := by omega
              have Hstep := hid hstep; have Hat7 := hid hat7; have Ho7 := hid ho7
              clear hstep hat7 ho7
              go_wp2
              go_region
              go_wp2
              go_roundw
              case rel =>
                refine ⟨m + 1, by omega, by go_num, ?_, (Ho7.out.set1 _ _).drew⟩
                have h := Hat7.out.setOwn Hne.out hmk ((nth (xorFrom own1 old1 far1 m) (far1 + m) + nth old1 m) % 2)
                rw [Hstep.out]
                exact h.drew
              case measure => simp [intOf]; omega
            · obtain rfl : m = 82 - far1 := by omega
              rw [show ((far1 + (82 - far1) : Nat) : Int) = 82 from by omega]
              have hplb : places ≤ 80 := by have := Hok.out.places; omega
              have hwas := (ho7.block bs (by omega) hbsb).trans Hblk.out
              have Hat7 := hid hat7; have Ho7 := hid ho7; have Hwas := hid hwas
              clear hat7 ho7 hwas
              have hR1 := HR.out.trans (if_neg (by rw [Hwr.out]; simp))
              have HR1 := hid hR1; clear hR1
              by_cases h2 : row.length < 2 * places
              · have hR2 := HR1.out.trans (if_pos h2)
                have HR2 := hid hR2; clear hR2
                go_wp2
                go_end0
                rw [HR2.out]
                refine ⟨rfl, ⟨some ⟨nb, 0, none⟩, ncap, pv, Hat7.out.setFar Hne.out (far1 + 1), ((((Hpr.out.only Ho.out).only Ho5.out).mono HB5.out).only Ho7.out).only (setCell_only _ _ _)⟩, (((Ho.out.trans Ho5.out).trans (Only.of_below HB5.out)).trans Ho7.out).trans (setCell_only _ _ _)⟩
              · have hR2 := HR1.out.trans (if_neg h2)
                have HR2 := hid hR2; clear hR2
                have hwp : wq.cell? ⟨bs, 82, none⟩ = some (.int .i64 places) := by
                  rw [cell_of_row _ _ _ _ _ _ Hwas.out]; simp [intv, Hat.out.ownl]
                go_wp2
                obtain ⟨own2, hown2⟩ : ∃ own2, own2 = xorFrom own1 old1 far1 (82 - far1) := ⟨_, rfl⟩
                rw [← hown2] at HR2 Hat7
                have hB0 : bs + 1 ≤ wq.heap.size := by have := Ho7.out.size; omega
                have hbB : b < bs + 1 := by omega
                have hnB : nb < bs + 1 := by
                  have := Hat5.out.rat.lt (by simp); omega
                have HnB : Hid (∀ b' off, (some ⟨nb, 0, none⟩ : Option Addr) = some ⟨b', off, none⟩ → b' < bs + 1) := hid (fun b' off e => by cases e; exact hnB)
                clear hown2 hfar7 hfr7 hlt7 hpl7 hpr7 hwp hfar6 hlt5
                go_loopw [8] (fun i wr => ∃ (m : Nat) (pa : Option Addr) (pc : Nat), m ≤ places + 1 ∧ i = .int .i64 ((places : Int) - (m : Int)) ∧
                  RdAt wr b own2 places (some ⟨nb, 0, none⟩) ncap (row ++ [play]) old1 far1 (.slice pa (proofTo own1 places row.length m).length pc) ∧
                  OwnI (bs + 1) wr pa (proofTo own1 places row.length m).length pc (proofTo own1 places row.length m) ∧ Only (fun k => k = b) w5 wr)
                  (fun i _ => (intOf i + 1).toNat)
                case atStart => exact ⟨0, none, 0, by omega, by simp, Hat7.out.setProof Hne.out _, OwnI.nil _ _, Ho7.out.set1 _ _⟩
                case round =>
                  obtain ⟨m, pa, pc, hm, rfl, hat8, hown8, ho8⟩ := hrel
                  obtain ⟨wp, rfl⟩ : ∃ wp : World, wp = wr := ⟨_, rfl⟩
                  have hlenp := proofTo_le own1 places row.length m
                  have hwas8 := (ho8.block bs (by omega) hbsb).trans Hblk.out
                  have hB8 : bs + 1 ≤ wp.heap.size := by have := ho8.size; omega
                  by_cases hmp : m ≤ places
                  · obtain ⟨j, hj⟩ : ∃ j, j = places - m := ⟨_, rfl⟩
                    have hjI : (places : Int) - (m : Int) = (j : Int) := by omega
                    rw [hjI]
                    have hjc : wp.cell? ⟨bs, j, none⟩ = some (.int .i64 (nth own1 j)) := by
                      rw [cell_of_row _ _ _ _ _ _ hwas8, List.getElem?_toArray, List.getElem?_append_left (by rw [intv_length, Hat.out.ownl]; omega), intv_get, if_pos (by rw [Hat.out.ownl]; omega)]
                    have hj82 : j < 82 := by omega
                    have hjr : j ≤ row.length := by have := Hok.out.places; omega
                    have hpr8 := hat8.cProof
                    have hfr8 := hat8.free
                    have Hat8 := hid hat8; have Hown8 := hid hown8; have Ho8 := hid ho8; have Hj := hid hj; have HjI := hid hjI
                    clear hat8 hown8 ho8 hwas8 hj hjI
                    by_cases h1 : nth own1 j = 1
                    · have h1b : (nth own1 j == 1) = true := by simp [h1]
                      have hpt : proofTo own1 places row.length (m + 1) = proofTo own1 places row.length m ++ [(row.length : Int) - (j : Int)] := by
                        rw [proofTo, ← Hj.out, if_pos h1]
                      have Hpt := hid hpt; have H1 := hid h1; clear hpt h1
                      go_wp2_with (at_builtin; refine wpList_app_own _ rfl _ _ rfl (bs + 1) pa _ pc (proofTo own1 places row.length m) rfl (Hown8.out.alloc _) _ ((row.length : Int) - (j : Int)) rfl ?c1 ?c2 ?c3 ?c4; rotate_right; (intro b9 cap9 w9 hB9 hb9 hown9 hg9; refine Hid.out ?_))
                      case c1 => simp [go_sem]
                      case c2 => omega
                      case c3 => simp; omega
                      case c4 =>
                        have hB9' := ((Below.refl (bs + 1) wp).alloc hB8 (.cells #[.int .i64 ((row.length : Int) - (j : Int))] 3)).trans hB9
                        have hat9 := Hat8.out.below hB9' hbB HnB.out
                        have hpr9 := hat9.cProof
                        have hfr9 := hat9.free
                        have Hat9 := hid hat9; have Hown9 := hid hown9; have HB9 := hid hB9'
                        clear hat9 hown9 hB9 hB9' hg9 hpr8 hfr8 hjc
                        refine hid ?_
                        go_wp2
                        refine ⟨?_, ?measure⟩
                        (repeat apply Exists.intro)
                        refine ⟨?rel2, rfl⟩
                        case rel2 =>
                          refine ⟨m + 1, some ⟨b9, 0, none⟩, cap9, by omega, by rw [show (j : Int) - 1 = (places : Int) - ((m + 1 : Nat) : Int) from by have := Hj.out; omega], ?_, ?_, (Ho8.out.belowR (by rw [hsz5]; exact HB9.out)).set1 _ _⟩
                          · rw [Hpt.out, List.length_append]
                            exact Hat9.out.setProof Hne.out _
                          · rw [Hpt.out, List.length_append]
                            exact Hown9.out.setOther hbB _
                        case measure => simp [intOf]; try omega
                    · have h1b : (nth own1 j == 1) = false := by simp [h1]
                      have hpt : proofTo own1 places row.length (m + 1) = proofTo own1 places row.length m := by
                        rw [proofTo, ← Hj.out, if_neg h1]
                      have Hpt := hid hpt; have H1 := hid h1; clear hpt h1
                      go_wp2
                      go_roundw
                      case rel =>
                        refine ⟨m + 1, pa, pc, by omega, by rw [show (j : Int) - 1 = (places : Int) - ((m + 1 : Nat) : Int) from by have := Hj.out; omega], ?_, ?_, Ho8.out⟩
                        · rw [Hpt.out]; exact Hat8.out
                        · rw [Hpt.out]; exact Hown8.out
                      case measure => simp [intOf]; try omega
                  · obtain rfl : m = places + 1 := by omega
                    have hpl8 := hat8.cPlaces
                    have hpr8 := hat8.cProof
                    have hfar8 := hat8.cFar
                    have hfr8 := hat8.free
                    have hj1 : (places : Int) - ((places + 1 : Nat) : Int) = -1 := by omega
                    rw [hj1]
                    have hbsb2 : b ≠ bs := fun h => hbsb h.symm
                    have hwp8 : wp.cell? ⟨bs, 82, none⟩ = some (.int .i64 places) := by
                      rw [cell_of_row _ _ _ _ _ _ hwas8]; simp [intv, Hat.out.ownl]
                    have hpo1 : partOk wp bs 0 82 = true := partOk_of hwas8 (by simp [intv, Hat.out.ownl])
                    have hpa1 : partAt wp bs 0 82 = (intv own1).toArray := by
                      rw [partAt_of hwas8]
                      apply Array.ext'
                      simp [intv, Hat.out.ownl]
                    have hpo2 : partOk wp b 84 82 = true := partOk_of hat8.heap (by simp [rdC_length hat8.ownl hat8.oldl])
                    have hfre2 : freeB wp b = true := freeB_of hat8.heap
                    have hps1 : ((partAt wp bs 0 82).size == 82) = true := by rw [hpa1]; simp [intv, Hat.out.ownl]
                    have hal1 : (partAt wp bs 0 82).all (·.oneCell') = true := by
                      rw [hpa1]; simp only [List.all_toArray]; exact List.all_eq_true.2 (intv_one own1)
                    have Hat8 := hid hat8; have Hown8 := hid hown8; have Ho8 := hid ho8; have Hpa1 := hid hpa1
                    clear hat8 hown8 ho8 hwas8 hpa1 hj1
                    go_wp2
                    go_region
                    go_end0
                    rw [HR2.out]
                    have h1 := Hat8.out.setPlaces Hne.out (row.length + 1 - places)
                    have h2 := h1.drew.setOld Hne.out own1 Hat.out.ownl
                    have h3 := h2.setFar Hne.out 1
                    rw [Hpa1.out, show (row.length : Int) + 1 - (places : Int) = ((row.length + 1 - places : Nat) : Int) from by omega]
                    have hpab : ∀ b' off, pa = some ⟨b', off, none⟩ → b' ≠ b := fun b' off e => by have := Hown8.out.ge b' off e; omega
                    refine ⟨rfl, ⟨some ⟨nb, 0, none⟩, ncap, _, h3, pa, pc, rfl, ?_, (fun h => (Hown8.out.none h).2), ?_⟩, ?_⟩
                    · exact ((Hown8.out.at.only (setCell_only b 82 _) (fun b' off e _ => hpab b' off e)).only ((Only.refl _ _).drew.trans (setPart_only _ _ _ _)) (fun b' off e _ => hpab b' off e)).only (setCell_only b 166 _) (fun b' off e _ => hpab b' off e)
                    · exact hpab
                    · exact ((((((Ho.out.trans Ho5.out).trans (Only.of_below HB5.out)).trans Ho8.out).set1 82 _).drew).trans (setPart_only _ _ _ _)).set1 166 _


end Go.Proofs.Ytjnijhnphhpilaa
