/- Walks: the reference's CheckProof. -/
import Derived.Test.YtjnijhnphhpilaaWn
import Derived.Deep.DeepCutAuto
import Derived.StillTailTactics
namespace Go.Proofs.Ytjnijhnphhpilaa
open Go.RowKit Go.Shelf

/-- as sumOf, not modulo 2 -/
def rawSum (row plays : List Int) (before : Nat) : Nat → Int
  | 0 => 0
  | k + 1 => rawSum row plays before k + nth row ((nth plays k).toNat - before)

theorem rawSum_mod (row plays : List Int) (before : Nat) : ∀ k, rawSum row plays before k % 2 = sumOf row plays before k
  | 0 => rfl
  | k + 1 => by
    have := rawSum_mod row plays before k
    rw [rawSum, sumOf, ← this]
    omega

theorem rawSum_bd {row : List Int} (h : isBits row = true) (plays : List Int) (before : Nat) : ∀ k : Nat, 0 ≤ rawSum row plays before k ∧ rawSum row plays before k ≤ k
  | 0 => ⟨Int.le_refl _, Int.le_refl _⟩
  | k + 1 => by
    have h1 := rawSum_bd h plays before k
    have h2 := isBits_nth h ((nth plays k).toNat - before)
    rw [rawSum]
    omega

/-- whether a play is one that the reference takes -/
def takes (places : Int) (len : Nat) (plays : List Int) (k : Nat) : Bool := decide (places ≤ nth plays k) && decide (nth plays k < len) && (k == 0 || decide (nth plays (k - 1) < nth plays k))

theorem takes_rng {places : Int} {len : Nat} {plays : List Int} {k : Nat} (h : rngTo places len plays k = true) : rngTo places len plays (k + 1) = takes places len plays k := by
  rw [rngTo, h, Bool.true_and]
  have e : within (nextOf places plays k) ((len : Int) - 1) [nth plays k] = decide (nextOf places plays k ≤ nth plays k ∧ nth plays k ≤ (len : Int) - 1) := by
    unfold within; simp [Bool.decide_and]
  rw [e]
  unfold takes
  rw [Bool.eq_iff_iff]
  cases k with
  | zero =>
    have e0 : nextOf places plays 0 = places := rfl
    rw [e0]
    constructor
    · intro hh
      have hh := of_decide_eq_true hh
      simp
      omega
    · intro hh
      simp at hh
      exact decide_eq_true (by omega)
  | succ j =>
    have := (rngTo_true (j + 1) h j (by omega)).1
    have e0 : nextOf places plays (j + 1) = nth plays j + 1 := rfl
    rw [e0, Nat.add_sub_cancel]
    constructor
    · intro hh
      have hh := of_decide_eq_true hh
      simp
      omega
    · intro hh
      simp at hh
      exact decide_eq_true (by omega)

set_option maxRecDepth 100000 in
set_option maxHeartbeats 1000000 in
theorem rCheckProof_c (a1 a2 : Option Addr) (c1 c2 : Nat) (places : Int) (row plays : List Int) (w : World) (hx : IntsAt w a1 row) (hy : IntsAt w a2 plays) (hb1 : row.length ≤ 1000000) (hb2 : plays.length ≤ 1000000) :
    Calls Try.prog 39 #[.slice a1 row.length c1, .int .i64 places, .slice a2 plays.length c2] w fun e w' => e = .returned (.int .i64 (proofCheck row places plays)) ∧ Below w.heap.size w w' := by
  have H := hid (rCheckRow_c a1 c1 row w hx hb1)
  have Hx := hid hx; have Hy := hid hy
  clear hx hy
  unfold proofCheck
  by_cases h : checkRow row = 0
  · rw [if_neg (by simp [h])]
    obtain ⟨hlen, hbits⟩ := checkRow_zero' h
    have Hbits := hid hbits
    rw [h] at H
    clear h hbits
    by_cases hp : places < 0
    · rw [if_pos hp]
      go_enter Try.func39, Try.ntmps39
      go_wp2_with fail
      refine H.out.mono ?_
      rintro e w1 ⟨rfl, rfl⟩
      go_wp2
      go_ret
      exact ⟨rfl, Below.refl _ _⟩
    · rw [if_neg hp]
      obtain ⟨n, rfl⟩ : ∃ n : Nat, places = n := ⟨places.toNat, by omega⟩
      obtain ⟨R, hR⟩ : ∃ R, R = if rngTo n row.length plays plays.length = false then (3 : Int)
        else if plays.length = 0 then 14 else if sumOf row plays 0 plays.length = 0 ∨ anyOdd row plays (n : Int).toNat = true then 14 else 0 := ⟨_, rfl⟩
      rw [← hR]
      have HR := hid hR; clear hR hp
      have hnn : (0 : Int) ≤ n := by omega
      go_enter Try.func39, Try.ntmps39
      go_wp2_with fail
      refine H.out.mono ?_
      rintro e w1 ⟨rfl, rfl⟩
      go_wp2
      go_loopw [7] (fun i wr => ∃ k : Nat, k ≤ plays.length ∧ i = .int .i64 k ∧ rngTo n row.length plays k = true ∧ Below w.heap.size w wr) (fun i _ => plays.length - (intOf i).toNat)
      case atStart => exact ⟨0, Nat.zero_le _, rfl, rfl, Below.refl _ _⟩
      case round =>
        obtain ⟨k, hk, rfl, hrng, hB⟩ := hrel
        obtain ⟨wq, rfl⟩ : ∃ wq : World, wq = wr := ⟨_, rfl⟩
        have Hrng := hid hrng; have HB := hid hB
        clear hrng hB
        by_cases hlt : k < plays.length
        · obtain ⟨b, off, e2, hc⟩ := (Hy.out.mono HB.out).at hlt
          have ht := takes_rng Hrng.out
          have Ht := hid ht; clear ht
          subst e2
          by_cases h1 : nth plays k < n
          · have hR2 : R = 3 := by rw [HR.out, if_pos (rngTo_false_mono (k := k + 1) (by rw [Ht.out]; simp [takes]; omega) (by omega))]
            have HR2 := hid hR2; clear hR2
            go_wp2
            go_quiet (fail)
            go_wp2
            go_ret
            rw [HR2.out]
            exact ⟨rfl, below_drewN HB.out _⟩
          · by_cases h2 : nth plays k < row.length
            · by_cases h3 : k = 0
              · subst h3
                rw [Nat.add_zero] at hc
                have htr : rngTo n row.length plays 1 = true := by rw [Ht.out]; simp [takes]; omega
                have Htr := hid htr; clear htr
                have hd1 : decide (nth plays 0 < (n : Int)) = false := by simpa using h1
                have hd2 : decide ((row.length : Int) ≤ nth plays 0) = false := by simpa using h2
                clear h1 h2
                go_wp2
                go_quiet (fail)
                go_wp2
                go_roundw
                case rel => exact ⟨1, by omega, by go_num, Htr.out, below_drewN HB.out _⟩
                case measure => simp [intOf]; omega
              · obtain ⟨j, rfl⟩ : ∃ j, k = j + 1 := ⟨k - 1, by omega⟩
                have hc0 := ((Hy.out.mono HB.out).cell (k := j) (by omega))
                have hd1 : decide (nth plays (j + 1) < (n : Int)) = false := by simpa using h1
                have hd2 : decide ((row.length : Int) ≤ nth plays (j + 1)) = false := by simpa using h2
                by_cases h4 : nth plays j < nth plays (j + 1)
                · have htr : rngTo n row.length plays (j + 1 + 1) = true := by rw [Ht.out]; simp [takes]; omega
                  have Htr := hid htr; clear htr
                  have hd3 : decide (nth plays (j + 1) ≤ nth plays j) = false := by simpa using h4
                  clear h1 h2 h4
                  go_wp2
                  go_quiet (fail)
                  go_wp2
                  go_roundw
                  case rel => exact ⟨j + 1 + 1, by omega, by go_num, Htr.out, below_drewN HB.out _⟩
                  case measure => simp [intOf]; omega
                · have hR2 : R = 3 := by rw [HR.out, if_pos (rngTo_false_mono (k := j + 1 + 1) (by rw [Ht.out]; simp [takes]; omega) (by omega))]
                  have HR2 := hid hR2; clear hR2
                  have hd3 : decide (nth plays (j + 1) ≤ nth plays j) = true := by simpa using h4
                  clear h1 h2 h4
                  go_wp2
                  go_quiet (fail)
                  go_wp2
                  go_ret
                  rw [HR2.out]
                  exact ⟨rfl, below_drewN HB.out _⟩
            · have hR2 : R = 3 := by rw [HR.out, if_pos (rngTo_false_mono (k := k + 1) (by rw [Ht.out]; simp [takes]; omega) (by omega))]
              have HR2 := hid hR2; clear hR2
              have hd1 : decide (nth plays k < (n : Int)) = false := by simpa using h1
              have hd2 : decide ((row.length : Int) ≤ nth plays k) = true := by simpa using h2
              clear h1 h2
              go_wp2
              go_quiet (fail)
              go_wp2
              go_ret
              rw [HR2.out]
              exact ⟨rfl, below_drewN HB.out _⟩
        · obtain rfl : k = plays.length := by omega
          have hR2 : R = if plays.length = 0 then 14 else if sumOf row plays 0 plays.length = 0 ∨ anyOdd row plays (n : Int).toNat = true then 14 else 0 := by
            rw [HR.out, if_neg (by rw [Hrng.out]; simp)]
          have HR2 := hid hR2; clear hR2
          have hin := rngTo_true plays.length Hrng.out
          have Hin := hid hin; clear hin
          have hx7 := Hx.out.mono HB.out
          have hy7 := Hy.out.mono HB.out
          have Hx7 := hid hx7; have Hy7 := hid hy7
          clear hx7 hy7
          have hlp : plays.length ≤ 1000000 := hb2
          go_wp2
          go_loop [8, 9] (fun o i => ∃ k : Nat, k ≤ plays.length ∧ i = .int .i64 k ∧ o = .int .i64 (rawSum row plays 0 k)) (fun _ i => plays.length - (intOf i).toNat)
          case atStart => exact ⟨0, Nat.zero_le _, rfl, rfl⟩
          case round =>
            obtain ⟨k, hk, rfl, rfl⟩ := hrel
            by_cases hlt2 : k < plays.length
            · obtain ⟨b, off, rfl, hc⟩ := Hy7.out.at hlt2
              obtain ⟨h1, h2⟩ := Hin.out k hlt2
              obtain ⟨p, hp0⟩ : ∃ p : Nat, nth plays k = p := ⟨(nth plays k).toNat, by omega⟩
              have hpl : p < row.length := by omega
              obtain ⟨b2, off2, rfl, hc2⟩ := Hx7.out.at hpl
              have hstep : rawSum row plays 0 (k + 1) = rawSum row plays 0 k + nth row p := by
                rw [rawSum, hp0, show (p : Int).toNat - 0 = p from by omega]
              have hbd := rawSum_bd Hbits.out plays 0 k
              have hbt := isBits_nth Hbits.out p
              have hbt1 : 0 ≤ nth row p := by omega
              have hbt2 : nth row p ≤ 1 := by omega
              have Hstep := hid hstep
              rw [hp0] at hc
              clear hstep h1 h2 hp0 hbt
              go_wp2
              go_round
              case rel => exact ⟨k + 1, by omega, by go_num, by rw [Hstep.out]⟩
              case measure => simp [intOf]; omega
            · obtain rfl : k = plays.length := by omega
              have hbd := rawSum_bd Hbits.out plays 0 plays.length
              have hmod := rawSum_mod row plays 0 plays.length
              obtain ⟨s, hs⟩ : ∃ s, s = rawSum row plays 0 plays.length := ⟨_, rfl⟩
              rw [← hs] at hmod hbd ⊢
              have Hmod := hid hmod
              clear hmod hs
              by_cases h0 : s % 2 = 0
              · have h0b : (s % 2 == 0) = true := by simp [h0]
                have hR3 : R = 14 := by
                  rw [HR2.out]
                  by_cases hl0 : plays.length = 0
                  · rw [if_pos hl0]
                  · rw [if_neg hl0, if_pos (.inl (by rw [← Hmod.out]; exact h0))]
                have HR3 := hid hR3
                clear h0 hR3
                go_wp2
                go_ret
                rw [HR3.out]
                exact ⟨rfl, HB.out⟩
              · have h0b : (s % 2 == 0) = false := by simp [h0]
                have hne : plays.length ≠ 0 := by
                  intro hl0
                  have := Hmod.out
                  rw [hl0] at this
                  exact h0 this
                have hn40 : n ≤ 40 := by have := Hin.out 0 (by omega); omega
                have hR3 : R = if anyOdd row plays n = true then 14 else 0 := by
                  rw [HR2.out, if_neg hne, Int.toNat_natCast]
                  have : ¬ sumOf row plays 0 plays.length = 0 := by rw [← Hmod.out]; exact h0
                  simp [this]
                have HR3 := hid hR3
                clear h0 hR3 hne
                go_wp2
                go_loop [10, 11, 12] (fun i _ _ => ∃ k : Nat, k ≤ n ∧ i = .int .i64 ((k + 1 : Nat) : Int) ∧ anyOdd row plays k = false) (fun i _ _ => n + 1 - (intOf i).toNat)
                case atStart => exact ⟨0, Nat.zero_le _, rfl, rfl⟩
                case round =>
                  obtain ⟨k, hk, rfl, hodd⟩ := hrel
                  have Hodd := hid hodd; clear hodd
                  by_cases hkn : k < n
                  · go_wp2
                    go_loop [11, 12] (fun o i => ∃ j : Nat, j ≤ plays.length ∧ i = .int .i64 j ∧ o = .int .i64 (rawSum row plays (k + 1) j)) (fun _ i => plays.length - (intOf i).toNat)
                    case atStart => exact ⟨0, Nat.zero_le _, rfl, rfl⟩
                    case round =>
                      obtain ⟨j, hj, rfl, rfl⟩ := hrel
                      by_cases hlt3 : j < plays.length
                      · obtain ⟨b, off, rfl, hc⟩ := Hy7.out.at hlt3
                        obtain ⟨h1, h2⟩ := Hin.out j hlt3
                        obtain ⟨p, hp0⟩ : ∃ p : Nat, nth plays j = (k : Int) + 1 + p := ⟨(nth plays j - (k + 1)).toNat, by omega⟩
                        have hpl : p < row.length := by omega
                        obtain ⟨b2, off2, rfl, hc2⟩ := Hx7.out.at hpl
                        have hstep : rawSum row plays (k + 1) (j + 1) = rawSum row plays (k + 1) j + nth row p := by
                          rw [rawSum, hp0, show ((k : Int) + 1 + (p : Int)).toNat - (k + 1) = p from by omega]
                        have hbd2 := rawSum_bd Hbits.out plays (k + 1) j
                        have hbt := isBits_nth Hbits.out p
                        have hbt1 : 0 ≤ nth row p := by omega
                        have hbt2 : nth row p ≤ 1 := by omega
                        have hsub : (k : Int) + 1 + (p : Int) - ((k : Int) + 1) = (p : Int) := by omega
                        have Hstep := hid hstep
                        rw [hp0] at hc
                        clear hstep h1 h2 hp0 hbt
                        go_wp2
                        go_round
                        case rel => exact ⟨j + 1, by omega, by go_num, by rw [Hstep.out]⟩
                        case measure => simp [intOf]; omega
                      · obtain rfl : j = plays.length := by omega
                        have hbd2 := rawSum_bd Hbits.out plays (k + 1) plays.length
                        have hmod2 := rawSum_mod row plays (k + 1) plays.length
                        obtain ⟨s2, hs2⟩ : ∃ s2, s2 = rawSum row plays (k + 1) plays.length := ⟨_, rfl⟩
                        rw [← hs2] at hmod2 hbd2 ⊢
                        have Hmod2 := hid hmod2
                        clear hmod2 hs2
                        by_cases h1 : s2 % 2 = 1
                        · have h1b : (s2 % 2 == 1) = true := by simp [h1]
                          have hany : anyOdd row plays n = true := by
                            rw [anyOdd_range]
                            exact any_range_of _ hkn (by rw [← Hmod2.out]; exact h1b)
                          have HR4 := hid (HR3.out.trans (if_pos hany))
                          clear h1 hany
                          go_wp2
                          go_ret
                          rw [HR4.out]
                          exact ⟨rfl, HB.out⟩
                        · have h1b : (s2 % 2 == 1) = false := by simp [h1]
                          have hodd2 : anyOdd row plays (k + 1) = false := by rw [anyOdd, Hodd.out, ← Hmod2.out, h1b]; rfl
                          have Hodd2 := hid hodd2
                          clear h1 hodd2
                          go_wp2
                          go_round
                          case rel => exact ⟨k + 1, by omega, by go_num, Hodd2.out⟩
                          case measure => simp [intOf]; omega
                  · obtain rfl : k = n := by omega
                    have HR4 := hid (HR3.out.trans (if_neg (by rw [Hodd.out]; simp)))
                    go_wp2
                    go_ret
                    rw [HR4.out]
                    exact ⟨rfl, HB.out⟩
  · rw [if_pos h]
    generalize checkRow row = c at *
    have hcb : (c != 0) = true := by simp [h]
    have Hh := hid h; clear h
    go_enter Try.func39, Try.ntmps39
    go_wp2_with fail
    refine H.out.mono ?_
    rintro e w1 ⟨rfl, rfl⟩
    go_wp2_with fail
    refine H.out.mono ?_
    rintro e w1 ⟨rfl, rfl⟩
    go_wp2
    go_ret
    exact ⟨rfl, Below.refl _ _⟩

end Go.Proofs.Ytjnijhnphhpilaa
