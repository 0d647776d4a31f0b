/- Walks: the law DrumRound, the walk. -/
import Derived.Test.YtjnijhnphhpilaaLawM
import Derived.IntWalk
namespace Go.Proofs.Ytjnijhnphhpilaa
open Go.RowKit Go.Shelf

/-- whether so many plays from b on are as those d later -/
def sameTo (f g : List Int) (b d : Nat) : Nat → Bool
  | 0 => true
  | j + 1 => sameTo f g b d j && (seqF f g (b + j) == seqF f g (b + j + d))

theorem sameTo_all {f g : List Int} {b d : Nat} : ∀ {j : Nat}, sameTo f g b d j = true → ∀ i, b ≤ i → i < b + j → seqF f g i = seqF f g (i + d)
  | 0, _, i, h1, h2 => by omega
  | j + 1, h, i, h1, h2 => by
    unfold sameTo at h
    rw [Bool.and_eq_true] at h
    by_cases e : i < b + j
    · exact sameTo_all h.1 i h1 e
    · obtain rfl : i = b + j := by omega
      simpa using h.2

theorem i64_fit (x : Int) (h : 0 ≤ x ∧ x ≤ 1000) : IntKind.i64.wrap x = x := IntWalk.i64_in x (by omega)

set_option maxRecDepth 100000 in
set_option maxHeartbeats 4000000 in
theorem round_law (a1 a2 : Option Addr) (c1 c2 : Nat) (f g : List Int) (w : World) (hf : IntsAt w a1 f) (hg : IntsAt w a2 g) :
    Calls Try.prog 13 #[.agg #[.slice a1 f.length c1, .slice a2 g.length c2]] w (TrueP w) := by
  have HB0 := hid (bnew w (.cells #[.slice a1 f.length c1, .slice a2 g.length c2] 24))
  have HG := hid (good_c a1 a2 c1 c2 f g (w.alloc (.cells #[.slice a1 f.length c1, .slice a2 g.length c2] 24)) (hf.mono HB0.out) (hg.mono HB0.out))
  have Hf := hid hf; have Hg := hid hg
  clear hf hg
  by_cases hd : checkDrum f g = 0
  · rw [show (checkDrum f g == 0) = true from by simp [hd]] at HG
    by_cases h6 : f.length ≤ 6
    · obtain ⟨hdl, hd40, hdf, hdg⟩ := checkDrum_zero hd
      have Hd := hid hd; have Hdl := hid hdl; have Hdf := hid hdf; have Hdg := hid hdg
      clear hd hdl hdf hdg hd40
      obtain ⟨n, hn⟩ : ∃ n, n = f.length := ⟨_, rfl⟩
      have Hn := hid hn
      have hn6 : n ≤ 6 := by omega
      clear hn
      go_enter Try.func13, Try.ntmps13
      go_wp2_with fail
      refine HG.out.mono ?_
      rintro e w1 ⟨rfl, hB⟩
      have p1 := cstep (p := ⟨w.heap.size, 0, none⟩) (v := .slice a1 f.length c1) (by simp) hB
      have p2 := cstep (p := ⟨w.heap.size, 1, none⟩) (v := .slice a2 g.length c2) (by simp) hB
      have HB1 := hid (bstep HB0.out hB)
      clear hB HG
      go_wp2_with fail
      refine (k_roundM Hd.out (by omega) (Hf.out.mono HB1.out) (Hg.out.mono HB1.out)).mono ?_
      rintro e w2 ⟨b, r, rfl, ht, hB⟩
      have p1 := cstep p1 hB
      have p2 := cstep p2 hB
      have HB2 := hid (bstep HB1.out hB)
      have hr1 := ht.1
      have hpow := apart_pow Hdl.out (by have := Hdl.out; omega) Hdg.out ht.2.2
      rw [← Hdl.out, ← Hn.out] at hpow
      have hp64 : 2 ^ n ≤ 2 ^ 6 := Nat.pow_le_pow_right (by omega) hn6
      have hbr : b + r ≤ 64 := Nat.le_trans hpow hp64
      have Ht := hid ht; have Hpow := hid hpow
      clear hB HB1 ht hpow hp64
      go_wp2_with fail
      refine (runOk_c a1 a2 c1 c2 100 f g w2 (Hf.out.mono HB2.out) (Hg.out.mono HB2.out) Hd.out (by omega)).mono ?_
      rintro e w3 ⟨bl, cl, rfl, hl, hcl, hB⟩
      have p1 := cstep p1 hB
      have HB3 := hid (bstep HB2.out hB)
      have Hl := hid hl
      clear hB HB2 hl p2
      have hwp : wrap64 ((2 : Int) ^ f.length) = ((2 ^ f.length : Nat) : Int) := by rw [wrap64_pow (by omega)]; simp
      have qp : decide (wrap64 ((2 : Int) ^ f.length) < (b : Int) + (r : Int)) = false := by
        rw [hwp, ← Hn.out]
        have := Hpow.out
        simp only [decide_eq_false_iff_not]
        omega
      have hr1' : (1 : Int) ≤ (r : Int) := by omega
      clear hwp
      go_wp2
      go_loopw [9, 10] (fun s i wr => ∃ k : Nat, k ≤ 100 ∧ i = .int .i64 k ∧ s = .int .i64 (wonF f g k) ∧ Below w3.heap.size w3 wr) (fun _ i _ => 100 - (intOf i).toNat)
      case atStart => exact ⟨0, Nat.zero_le _, rfl, rfl, Below.refl _ _⟩
      case round =>
        obtain ⟨k, hk, rfl, rfl, hB⟩ := hrel
        obtain ⟨wo, rfl⟩ : ∃ wo : World, wo = wr := ⟨_, rfl⟩
        have HB := hid hB
        clear hB
        have Hl2 := hid (Hl.out.mono HB.out)
        by_cases hlt : k < 100
        · have hck := Hl2.out.cell (k := k) (by rw [playsF_length]; exact hlt)
          rw [nth_seq f g hlt, Nat.zero_add] at hck
          have hub := seqF_bit (f := f) Hdg.out k
          have hwb := wonF_bd (f := f) Hdg.out k
          have hwk : wonF f g (k + 1) = wonF f g k + seqF f g k := rfl
          have hrs := fun h : b ≤ k => round_same Hdl.out (by have := Hdl.out; omega) Ht.out k h
          obtain ⟨u, hu⟩ : ∃ u, u = seqF f g k := ⟨_, rfl⟩
          obtain ⟨v, hv⟩ : ∃ v, v = wonF f g k := ⟨_, rfl⟩
          rw [← hu] at hck hub hwk hrs
          rw [← hv] at hwb hwk ⊢
          have Hwk := hid hwk; have Hrs := hid hrs
          have hu0 : 0 ≤ u := by omega
          have hu1 : u ≤ 1 := by omega
          obtain ⟨hv0, hv1⟩ := hwb
          clear hub hwk hrs hu hv
          by_cases hbk : b ≤ k
          · by_cases hkr : k + r < 100
            · have hcr := Hl2.out.cell (k := k + r) (by rw [playsF_length]; exact hkr)
              rw [nth_seq f g hkr, ← Hrs.out hbk, Nat.zero_add] at hcr
              have hkrI : (k : Int) + (r : Int) < 100 := by omega
              have q1 : decide (b ≤ k) = true := decide_eq_true hbk
              have q2 : decide (k + r < 100) = true := decide_eq_true hkr
              clear hbk
              go_wp2
              go_quiet (fail)
              go_wp2
              go_roundw
              case rel => exact ⟨k + 1, by omega, by go_num, by rw [Hwk.out], below_drewN HB.out _⟩
              case measure => simp [intOf]; omega
            · have q1 : decide (b ≤ k) = true := decide_eq_true hbk
              have q2 : decide ((k : Int) + (r : Int) < 100) = false := by simp; omega
              clear hbk hkr
              go_wp2
              go_quiet (fail)
              go_wp2
              go_roundw
              case rel => exact ⟨k + 1, by omega, by go_num, by rw [Hwk.out], below_drewN HB.out _⟩
              case measure => simp [intOf]; omega
          · have q1 : decide (b ≤ k) = false := decide_eq_false hbk
            clear hbk
            go_wp2
            go_quiet (fail)
            go_wp2
            go_roundw
            case rel => exact ⟨k + 1, by omega, by go_num, by rw [Hwk.out], below_drewN HB.out _⟩
            case measure => simp [intOf]; omega
        · obtain rfl : k = 100 := by omega
          have He := hid (fun h0 : 0 < b => round_early Hdl.out (by have := Hdl.out; omega) Ht.out h0)
          have hwb := wonF_bd (f := f) Hdg.out 100
          have Hno := hid (fun h : wonF f g 100 = 0 => round_nothing Hdl.out (by have := Hdl.out; omega) Hdg.out Ht.out h)
          have Hbeg := hid (fun (h1 : 0 < g.length) (h2 : nth f (g.length - 1) = 1) => round_begin Hdl.out (by have := Hdl.out; omega) Hdf.out Hdg.out Ht.out h1 h2)
          obtain ⟨wn, hwn⟩ : ∃ wn, wn = wonF f g 100 := ⟨_, rfl⟩
          rw [← hwn] at hwb Hno ⊢
          obtain ⟨hw0, hw1⟩ := hwb
          clear hwn hlt hk
          have hcase : b = 0 ∨ ∃ (b' : Nat) (u1 u2 : Int), b = b' + 1 ∧ wo.cell? ⟨bl, b', none⟩ = some (.int .i64 u1) ∧ wo.cell? ⟨bl, b' + r, none⟩ = some (.int .i64 u2) ∧ (u1 == u2) = false := by
            rcases Nat.eq_zero_or_pos b with h | h
            · exact .inl h
            · refine .inr ⟨b - 1, seqF f g (b - 1), seqF f g (b - 1 + r), by omega, ?_, ?_, by simpa using He.out h⟩
              · have := Hl2.out.cell (k := b - 1) (by rw [playsF_length]; omega)
                rwa [nth_seq f g (by omega), Nat.zero_add] at this
              · have := Hl2.out.cell (k := b - 1 + r) (by rw [playsF_length]; omega)
                rwa [nth_seq f g (by omega), Nat.zero_add] at this
          go_wp2
          rcases hcase with hb0 | ⟨b', u1, u2, hb', c1x, c2x, q3⟩
          all_goals
            first
              | (have s1 : IntKind.i64.wrap ((b : Int) - 1) = (b' : Int) := by rw [show (b : Int) - 1 = (b' : Int) from by omega]; exact i64_fit _ (by omega)
                 have s3 : (b : Int) - 1 = (b' : Int) := by omega
                 have s2 : IntKind.i64.wrap ((b' : Int) + (r : Int)) = (b' : Int) + (r : Int) := i64_fit _ (by omega)
                 have q1 : decide ((b' : Int) + (r : Int) < 100) = true := decide_eq_true (by omega)
                 have q1n : decide (b' + r < 100) = true := decide_eq_true (by omega)
                 have qb : decide ((0 : Int) < (b : Int)) = true := decide_eq_true (by omega)
                 have qbn : decide (0 < b) = true := decide_eq_true (by omega)
                 have nn : (0 : Int) ≤ (b' : Int) + (r : Int) := by omega
                 have tn : ((b' : Int) + (r : Int)).toNat = b' + r := by omega
                 have Hb' := hid hb'
                 clear hb')
              | (have qb : decide ((0 : Int) < (b : Int)) = false := decide_eq_false (by omega)
                 have qbn : decide (0 < b) = false := decide_eq_false (by omega)
                 have Hb0 := hid hb0
                 clear hb0)
            go_quiet (fail)
            go_wp2
            try clear s1 s2 s3 q1 q1n nn tn q3 c1x c2x
            go_loopw [11, 12, 13] (fun d _ _ wr => ∃ k : Nat, 1 ≤ k ∧ k ≤ r ∧ d = .int .i64 k ∧ Below w3.heap.size w3 wr) (fun d _ _ _ => r - (intOf d).toNat)
            case atStart => exact ⟨1, by omega, by omega, rfl, below_drewN HB.out _⟩
            case round =>
              obtain ⟨d, hd1, hdr, rfl, hB⟩ := hrel
              obtain ⟨wq, rfl⟩ : ∃ wq : World, wq = wr := ⟨_, rfl⟩
              have HBq := hid hB
              clear hB
              by_cases hdlt : d < r
              · go_wp2
                go_loopw [12, 13] (fun s i wr => ∃ j : Nat, j ≤ r ∧ i = .int .i64 ((b : Int) + (j : Int)) ∧ s = .bool (sameTo f g b d j) ∧ (0 < j → b + j + d ≤ 100) ∧ Below wq.heap.size wq wr) (fun _ i _ => b + r - (intOf i).toNat)
                case atStart => exact ⟨0, by omega, by simp, rfl, fun h => by omega, Below.refl _ _⟩
                case round =>
                  obtain ⟨j, hj, rfl, rfl, hjd, hB⟩ := hrel
                  obtain ⟨wz, rfl⟩ : ∃ wz : World, wz = wr := ⟨_, rfl⟩
                  have HBz := hid (HBq.out.trans (hB.mono HBq.out.size))
                  have HBi := hid hB
                  clear hB
                  obtain ⟨sm, hsm⟩ : ∃ sm, sm = sameTo f g b d j := ⟨_, rfl⟩
                  rw [← hsm]
                  have Hsm := hid hsm; have Hjd := hid hjd
                  clear hsm hjd
                  by_cases hgo : j < r ∧ b + j + d < 100
                  · obtain ⟨hjr, hjd2⟩ := hgo
                    have hLz := Hl.out.mono HBz.out
                    have cx := hLz.cell (k := b + j) (by rw [playsF_length]; omega)
                    have cy := hLz.cell (k := b + j + d) (by rw [playsF_length]; omega)
                    rw [nth_seq f g (by omega), Nat.zero_add] at cx cy
                    have hss : sameTo f g b d (j + 1) = (sm && (seqF f g (b + j) == seqF f g (b + j + d))) := by rw [Hsm.out]; rfl
                    obtain ⟨x, hx⟩ : ∃ x, x = seqF f g (b + j) := ⟨_, rfl⟩
                    obtain ⟨y, hy⟩ : ∃ y, y = seqF f g (b + j + d) := ⟨_, rfl⟩
                    rw [← hx] at cx hss
                    rw [← hy] at cy hss
                    have Hss := hid hss
                    have t1 : (b : Int) + (j : Int) < 100 := by omega
                    have t2 : (b : Int) + (j : Int) + (d : Int) < 100 := by omega
                    have t3 : (0 : Int) ≤ (b : Int) + (j : Int) := by omega
                    have t4 : (0 : Int) ≤ (b : Int) + (j : Int) + (d : Int) := by omega
                    have w1x : IntKind.i64.wrap ((b : Int) + (j : Int) + (d : Int)) = (b : Int) + (j : Int) + (d : Int) := i64_fit _ (by omega)
                    have t5 : ((b : Int) + (j : Int)).toNat = b + j := by omega
                    have t6 : ((b : Int) + (j : Int) + (d : Int)).toNat = b + j + d := by omega
                    clear hx hy hss hLz
                    cases sm
                    · go_wp2
                      go_quiet (fail)
                      go_wp2
                      go_roundw
                      case rel => exact ⟨j + 1, by omega, by rw [show (((j + 1 : Nat)) : Int) = (j : Int) + 1 from by omega, ← Int.add_assoc], by rw [Hss.out]; rfl, fun _ => by omega, below_drewN HBi.out _⟩
                      case measure => simp [intOf]; omega
                    · go_wp2
                      go_quiet (fail)
                      go_wp2
                      go_roundw
                      case rel => exact ⟨j + 1, by omega, by rw [show (((j + 1 : Nat)) : Int) = (j : Int) + 1 from by omega, ← Int.add_assoc], by rw [Hss.out]; rfl, fun _ => by omega, below_drewN HBi.out _⟩
                      case measure => simp [intOf]; omega
                  · have hno := fun h : sameTo f g b d r = true => round_less Hdl.out (by have := Hdl.out; omega) Ht.out hd1 hdlt (fun i h1 h2 => sameTo_all h i h1 h2)
                    by_cases hjr : j < r
                    · have hjd2 : 100 ≤ b + j + d := by omega
                      have t2 : decide ((b : Int) + (j : Int) + (d : Int) < 100) = false := decide_eq_false (by omega)
                      have t7 : decide ((b : Int) + (r : Int) + (d : Int) ≤ 100) = false := decide_eq_false (by omega)
                      clear hno hgo
                      cases sm
                      · go_wp2
                        go_roundw
                        case rel => exact ⟨d + 1, by omega, by omega, by go_num, HBz.out⟩
                        case measure => simp [intOf]; omega
                      · go_wp2
                        go_roundw
                        case rel => exact ⟨d + 1, by omega, by omega, by go_num, HBz.out⟩
                        case measure => simp [intOf]; omega
                    · obtain rfl : j = r := by omega
                      have hs : sm = false := by
                        cases sm with
                        | false => rfl
                        | true => exact (hno Hsm.out.symm).elim
                      subst hs
                      clear hno hgo
                      go_wp2
                      go_roundw
                      case rel => exact ⟨d + 1, by omega, by omega, by go_num, HBz.out⟩
                      case measure => simp [intOf]; omega
              · obtain rfl : r = d := by omega
                have p1q := cstep p1 HBq.out
                have HBw := hid (HB3.out.trans (HBq.out.mono HB3.out.size))
                by_cases hf0 : f.length = 0
                · have qf0 : ((f.length : Int) == 0) = true := beq_iff_eq.2 (by omega)
                  clear hf0
                  by_cases hwn : wn = 0
                  · subst hwn
                    have hbr1 : b = 0 ∧ r = 1 := Hno.out rfl
                    obtain ⟨hbz, hrz⟩ := hbr1
                    have qb0 : ((b : Int) == 0) = true := by simp; omega
                    have qr1 : ((r : Int) == 1) = true := by simp; omega
                    clear hbz hrz
                    go_wp2_with fail
                    refine (works_c wq).mono ?_
                    rintro e w9 ⟨rfl, hB⟩
                    have HB9 := hid (HBw.out.trans (hB.mono HBw.out.size))
                    clear hB
                    go_wp2
                    go_ret
                    exact ⟨rfl, HB9.out⟩
                  · have qw : decide (0 < wn) = true := decide_eq_true (by omega)
                    go_wp2_with fail
                    refine (works_c wq).mono ?_
                    rintro e w9 ⟨rfl, hB⟩
                    have HB9 := hid (HBw.out.trans (hB.mono HBw.out.size))
                    clear hB
                    go_wp2
                    go_ret
                    exact ⟨rfl, HB9.out⟩
                · have qf0 : ((f.length : Int) == 0) = false := beq_eq_false_iff_ne.2 (by omega)
                  have hf1 : 0 < f.length := by omega
                  obtain ⟨bf, off, ha1, hcf⟩ := (Hf.out.mono HBw.out).at (k := f.length - 1) (by omega)
                  subst ha1
                  have hvb := isBits_nth Hdf.out (f.length - 1)
                  have hbg := Hbeg.out (by have := Hdl.out; omega)
                  rw [← Hdl.out] at hbg
                  obtain ⟨v, hv⟩ : ∃ v, v = nth f (f.length - 1) := ⟨_, rfl⟩
                  rw [← hv] at hcf hvb hbg
                  have Hbg := hid hbg
                  have tf : ((f.length : Int) - 1).toNat = f.length - 1 := by omega
                  have tf0 : (1 : Int) ≤ (f.length : Int) := by omega
                  clear hv hbg hf0
                  rcases hvb with rfl | rfl
                  · by_cases hwn : wn = 0
                    · subst hwn
                      have hbr1 : b = 0 ∧ r = 1 := Hno.out rfl
                      obtain ⟨hbz, hrz⟩ := hbr1
                      have qb0 : ((b : Int) == 0) = true := by simp; omega
                      have qr1 : ((r : Int) == 1) = true := by simp; omega
                      clear hbz hrz
                      go_wp2_with fail
                      refine (works_c wq).mono ?_
                      rintro e w9 ⟨rfl, hB⟩
                      have HB9 := hid (HBw.out.trans (hB.mono HBw.out.size))
                      clear hB
                      go_wp2
                      go_ret
                      exact ⟨rfl, HB9.out⟩
                    · have qw : decide (0 < wn) = true := decide_eq_true (by omega)
                      go_wp2_with fail
                      refine (works_c wq).mono ?_
                      rintro e w9 ⟨rfl, hB⟩
                      have HB9 := hid (HBw.out.trans (hB.mono HBw.out.size))
                      clear hB
                      go_wp2
                      go_ret
                      exact ⟨rfl, HB9.out⟩
                  · have hb00 : b = 0 := Hbg.out rfl
                    have qb0 : ((b : Int) == 0) = true := by simp; omega
                    clear hb00
                    by_cases hwn : wn = 0
                    · subst hwn
                      have hbr1 : b = 0 ∧ r = 1 := Hno.out rfl
                      obtain ⟨hbz, hrz⟩ := hbr1
                      have qb0 : ((b : Int) == 0) = true := by simp; omega
                      have qr1 : ((r : Int) == 1) = true := by simp; omega
                      clear hbz hrz
                      go_wp2_with fail
                      refine (works_c wq).mono ?_
                      rintro e w9 ⟨rfl, hB⟩
                      have HB9 := hid (HBw.out.trans (hB.mono HBw.out.size))
                      clear hB
                      go_wp2
                      go_ret
                      exact ⟨rfl, HB9.out⟩
                    · have qw : decide (0 < wn) = true := decide_eq_true (by omega)
                      go_wp2_with fail
                      refine (works_c wq).mono ?_
                      rintro e w9 ⟨rfl, hB⟩
                      have HB9 := hid (HBw.out.trans (hB.mono HBw.out.size))
                      clear hB
                      go_wp2
                      go_ret
                      exact ⟨rfl, HB9.out⟩
    · have hq : (6 : Int) < (f.length : Int) := by omega
      clear hd h6
      go_enter Try.func13, Try.ntmps13
      go_wp2_with fail
      refine HG.out.mono ?_
      rintro e w1 ⟨rfl, hB⟩
      have p1 := cstep (p := ⟨w.heap.size, 0, none⟩) (v := .slice a1 f.length c1) (by simp) hB
      have HB1 := hid (bstep HB0.out hB)
      clear hB
      go_wp2_with fail
      refine (works_c w1).mono ?_
      rintro e w2 ⟨rfl, hB⟩
      have HB2 := hid (bstep HB1.out hB)
      clear hB
      go_wp2
      go_ret
      exact ⟨rfl, HB2.out⟩
  · rw [show (checkDrum f g == 0) = false from by simp [hd]] at HG
    clear hd
    go_enter Try.func13, Try.ntmps13
    go_wp2_with fail
    refine HG.out.mono ?_
    rintro e w1 ⟨rfl, hB⟩
    have HB1 := hid (bstep HB0.out hB)
    clear hB
    go_wp2_with fail
    refine (works_c w1).mono ?_
    rintro e w2 ⟨rfl, hB⟩
    have HB2 := hid (bstep HB1.out hB)
    clear hB
    go_wp2
    go_ret
    exact ⟨rfl, HB2.out⟩

end Go.Proofs.Ytjnijhnphhpilaa
