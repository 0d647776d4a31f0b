/- Walks: the law DrumGrown. -/
import Derived.Test.YtjnijhnphhpilaaLb
import Derived.Test.YtjnijhnphhpilaaGp
import Derived.Deep.QuietTactic
import Derived.BigQuiet
namespace Go.Proofs.Ytjnijhnphhpilaa
open Go.RowKit Go.Shelf

theorem stays_succ (xs : List Int) {k : Nat} (hk : k < 2) : stays xs (k + 1) = stays xs k + (if pl (xs ++ [(k : Int)]) = pl xs then 1 else 0) := by
  match k, hk with
  | 0, _ => simp [stays]
  | 1, _ => simp [stays]

theorem checkRow_of {xs : List Int} (hl : xs.length ≤ 40) (hb : isBits xs = true) : checkRow xs = 0 := by
  unfold checkRow; rw [if_neg (by omega), if_pos hb]

theorem valid_append {xs : List Int} (h : checkRow xs = 0) (hl : xs.length < 40) {p : Int} (hp : p = 0 ∨ p = 1) : checkRow (xs ++ [p]) = 0 :=
  checkRow_of (by rw [List.length_append]; simp; omega) (by rw [isBits_append, (checkRow_zero h).2, isBits_single hp]; rfl)

set_option maxRecDepth 100000 in
set_option maxHeartbeats 4000000 in
theorem grown_law (a : Option Addr) (cap : Nat) (xs : List Int) (w : World) (hx : IntsAt w a xs) (hn : a = none → cap = 0) : Calls Try.prog 9 #[.slice a xs.length cap] w (TrueP w) := by
  have hnil : a = none → xs.length = 0 ∧ cap = 0 := fun e => ⟨(by
    rcases hx with h | ⟨b, off, h, _⟩
    · rw [h]; rfl
    · exact absurd (h.symm.trans e) (by simp)), hn e⟩
  have Hx := hid hx; have Hn := hid hnil
  have Hf := hid (fine_c a cap xs w hx)
  clear hx hn hnil
  by_cases hv : checkRow xs = 0
  · rw [show (checkRow xs == 0) = true from by simp [hv]] at Hf
    by_cases hl : 40 ≤ xs.length
    · have Hv := hid hv
      clear hv
      go_enter Try.func9, Try.ntmps9
      go_wp2_with fail
      refine Hf.out.mono ?_
      rintro e wx ⟨rfl, rfl⟩
      go_wp2_with fail
      refine (works_c w).mono ?_
      rintro e w1 ⟨rfl, hB⟩
      have HB := hid hB
      clear hB
      go_wp2
      go_ret
      exact ⟨rfl, HB.out⟩
    · have hl40 : xs.length < 40 := by omega
      have Hv := hid hv
      have hple := pl_le hv
      have Hpl := hid (placesL_c a cap xs w Hx.out hv)
      clear hv hl
      rw [show (rdAll xs).places = pl xs from rfl] at Hpl
      obtain ⟨n, hn⟩ : ∃ n, n = pl xs := ⟨_, rfl⟩
      rw [← hn] at Hpl hple
      have Hn' := hid hn
      clear hn
      go_enter Try.func9, Try.ntmps9
      go_wp2_with fail
      refine Hf.out.mono ?_
      rintro e wx ⟨rfl, rfl⟩
      go_wp2_with fail
      refine Hpl.out.mono ?_
      rintro e w1 ⟨rfl, hB⟩
      have HB1 := hid hB
      clear hB
      go_wp2
      go_loopw [5, 6] (fun s p wr => ∃ k : Nat, k ≤ 2 ∧ p = .int .i64 k ∧ s = .int .i64 (stays xs k) ∧ Below w.heap.size w wr) (fun _ p _ => 2 - (intOf p).toNat)
      case atStart => exact ⟨0, by omega, rfl, by simp [stays], HB1.out⟩
      case round =>
        obtain ⟨k, hk, rfl, rfl, hB⟩ := hrel
        obtain ⟨wo, rfl⟩ : ∃ wo : World, wo = wr := ⟨_, rfl⟩
        have HB := hid hB
        clear hB
        by_cases hk2 : k < 2
        · have hkb : (k : Int) = 0 ∨ (k : Int) = 1 := by omega
          have Hvk := hid (valid_append Hv.out hl40 hkb)
          have hs := stays_succ xs hk2
          have hst := pl_step (xs := xs) (k : Int)
          rw [← Hn'.out] at hs hst
          have hsb : stays xs k ≤ 2 := by unfold stays; split <;> split <;> omega
          obtain ⟨sk, hsk⟩ : ∃ sk, sk = stays xs k := ⟨_, rfl⟩
          rw [← hsk] at hs hsb ⊢
          obtain ⟨m, hm⟩ : ∃ m, m = pl (xs ++ [(k : Int)]) := ⟨_, rfl⟩
          rw [← hm] at hs hst
          have Hs := hid hs; have Hm := hid hm; have Hst := hid hst
          clear hs hsk hkb hm hst
          go_wp2_with (at_builtin; refine wpList_app_many _ rfl _ _ rfl wo.heap.size (some ⟨wo.heap.size, 0, none⟩) 0 0 [] ?g3 (ownNew0 wo) a xs.length cap xs ?g5 ?c1 rfl ?c2 ?c3 ?c4 ?K; rotate_right; (intro ao' cap' w2 hB2 hown2 hgr2 hne2; refine Hid.out ?_))
          case g3 => rfl
          case g5 => rfl
          case c1 => exact (Hx.out.mono HB.out).mono (bnew _ _)
          case c2 => exact Hn.out
          case c3 => omega
          case c4 => simp
          refine hid ?_
          rw [List.nil_append] at hown2
          simp only [Nat.zero_add] at hown2 ⊢
          have Hown2 := hid hown2
          have HB2 := hid (HB.out.trans (((bnew wo (.cells #[] 3)).mono HB.out.size).trans (hB2.mono HB.out.size)))
          have hsz2 : wo.heap.size ≤ w2.heap.size := by have := hB2.size; simp at this; omega
          clear hown2 hB2 hgr2 hne2
          go_wp2_with (at_builtin; refine wpList_app_own _ rfl _ _ rfl wo.heap.size ao' xs.length cap' xs ?g6 ?d1 _ (k : Int) rfl ?d2 ?d3 ?d4 ?K2; rotate_right; (intro b3 cap3 w3 hB3 hb3 hown3 hgr3; refine Hid.out ?_))
          case g6 => rfl
          case d1 => exact Hown2.out.alloc _
          case d2 => simp
          case d3 => omega
          case d4 => simp; omega
          refine hid ?_
          have Hat := hid hown3.at
          have HB3 := hid (HB2.out.trans (((bnew w2 (.cells #[.int .i64 k] 3)).mono HB2.out.size).trans (hB3.mono HB.out.size)))
          clear hown3 hB3 hgr3 hb3
          have Hk := hid (placesM_c (some ⟨b3, 0, none⟩) cap3 (xs.length + 1) (xs ++ [(k : Int)]) w3 (by simp) Hat.out Hvk.out)
          rw [show (rdAll (xs ++ [(k : Int)])).places = m from Hm.out.symm] at Hk
          go_wp2_with fail
          refine Hk.out.mono ?_
          rintro e w4 ⟨rfl, hB4⟩
          have HB4 := hid (HB3.out.trans (hB4.mono HB3.out.size))
          clear hB4 Hk Hat Hown2 HB2 HB3 hsz2
          by_cases hmn : m = n
          · subst hmn
            have e2 : stays xs (k + 1) = sk + 1 := by rw [Hs.out, if_pos rfl]
            have He2 := hid e2
            clear e2 Hs
            go_wp2
            go_roundw
            case rel => exact ⟨k + 1, by omega, by go_num, by rw [He2.out]; go_num, HB4.out⟩
            case measure => simp [intOf]; omega
          · have e2 : stays xs (k + 1) = sk := by rw [Hs.out, if_neg hmn]; rfl
            have He2 := hid e2
            have hst2 : n < m ∧ m = xs.length + 1 - n := by rcases Hst.out with h | h; exact absurd h hmn; exact h
            have q1 : ((m : Int) != (n : Int)) = true := by simp; omega
            have q2 : decide (m ≤ n) = false := by simp; omega
            have q3 : ((m : Int) != (xs.length : Int) + 1 - (n : Int)) = false := by simp; omega
            have q4 : ((m : Int) == (n : Int)) = false := by simp; omega
            clear e2 Hs hmn hst2
            go_wp2
            go_roundw
            case rel => exact ⟨k + 1, by omega, by go_num, by rw [He2.out], HB4.out⟩
            case measure => simp [intOf]; omega
        · obtain rfl : k = 2 := by omega
          have hst := stays_two xs
          have Hp := hid (profile_c a cap xs wo (Hx.out.mono HB.out) (by omega))
          rw [Hv.out, show profR xs = profTo xs xs.length from by unfold profR; rw [if_pos Hv.out]] at Hp
          have h0 : nth (profTo xs xs.length) 0 = 0 := profTo_nth xs xs.length 0 (Nat.zero_le _)
          have hN : nth (profTo xs xs.length) xs.length = (n : Int) := by rw [profTo_nth xs xs.length xs.length (Nat.le_refl _), List.take_length, ← Hn'.out]
          have hstep : ∀ j, j < xs.length → nth (profTo xs xs.length) (j + 1) = nth (profTo xs xs.length) j ∨ (nth (profTo xs xs.length) j < nth (profTo xs xs.length) (j + 1) ∧ nth (profTo xs xs.length) (j + 1) = (j : Int) + 1 - nth (profTo xs xs.length) j) := by
            intro j hj
            rw [profTo_nth xs xs.length (j + 1) (by omega), profTo_nth xs xs.length j (by omega)]
            have h1 := prof_step hj
            have h2 := profTo_mono (xs := xs) (k := j) (m := j + 1) (by omega) (by omega)
            have h3 : pl (xs.take j) ≤ j := by
              have := pl_le (xs := xs.take j) (checkRow_of (by rw [List.length_take]; omega) (isBits_take (checkRow_zero Hv.out).2 j))
              rw [List.length_take] at this; omega
            omega
          have hbd : ∀ j, j ≤ xs.length → 0 ≤ nth (profTo xs xs.length) j ∧ nth (profTo xs xs.length) j ≤ 40 := by
            intro j hj
            rw [profTo_nth xs xs.length j hj]
            have := pl_le (xs := xs.take j) (checkRow_of (by rw [List.length_take]; omega) (isBits_take (checkRow_zero Hv.out).2 j))
            rw [List.length_take] at this; omega
          have hpl : (profTo xs xs.length).length = xs.length + 1 := profTo_length xs _
          rw [← Hn'.out] at hst
          obtain ⟨sk, hsk⟩ : ∃ sk, sk = stays xs 2 := ⟨_, rfl⟩
          rw [← hsk] at hst ⊢
          obtain ⟨pr, hpr⟩ : ∃ pr, pr = profTo xs xs.length := ⟨_, rfl⟩
          rw [← hpr] at Hp h0 hN hstep hbd hpl
          have Hst := hid hst; have H0 := hid h0; have HN := hid hN; have Hstep := hid hstep; have Hbd := hid hbd; have Hplen := hid hpl
          clear hst h0 hN hstep hbd hpl hsk hpr hk hk2
          go_wp2_with fail
          refine Hp.out.mono ?_
          rintro e w2 ⟨_, rfl, ⟨ap, cp, rfl, hat, _⟩, hB2⟩
          rw [Hplen.out]
          obtain ⟨b, off, rfl, hc0⟩ := hat.at (k := 0) (by rw [Hplen.out]; omega)
          have hcN := hat.cell (k := xs.length) (by rw [Hplen.out]; omega)
          rw [HN.out] at hcN
          rw [H0.out, Nat.add_zero] at hc0
          have Hat := hid hat
          have HB2 := hid (HB.out.trans (hB2.mono HB.out.size))
          clear hat hB2 Hp
          go_wp2
          go_loopw [11] (fun i wr => ∃ j : Nat, j ≤ xs.length ∧ i = .int .i64 ((j : Int) + 1) ∧ Below w2.heap.size w2 wr) (fun i _ => (xs.length + 1 - (intOf i).toNat))
          case atStart => exact ⟨0, Nat.zero_le _, rfl, Below.refl _ _⟩
          case round =>
            obtain ⟨j, hj, rfl, hB⟩ := hrel
            obtain ⟨wq, rfl⟩ : ∃ wq : World, wq = wr := ⟨_, rfl⟩
            have HBq := hid hB
            clear hB hc0 hcN
            by_cases hjl : j < xs.length
            · have hcx := (Hat.out.mono HBq.out).cell (k := j + 1) (by rw [Hplen.out]; omega)
              have hcy := (Hat.out.mono HBq.out).cell (k := j) (by rw [Hplen.out]; omega)
              have hs := Hstep.out j hjl
              have hb1 := Hbd.out j (by omega)
              have hb2 := Hbd.out (j + 1) (by omega)
              obtain ⟨x, hx⟩ : ∃ x, x = nth pr (j + 1) := ⟨_, rfl⟩
              obtain ⟨y, hy⟩ : ∃ y, y = nth pr j := ⟨_, rfl⟩
              rw [← hx] at hcx hs hb2
              rw [← hy] at hcy hs hb1
              clear hx hy
              obtain ⟨hb11, hb12⟩ := hb1
              obtain ⟨hb21, hb22⟩ := hb2
              by_cases hxy : x = y
              · subst hxy
                clear hs
                go_wp2
                go_quiet (fail)
                go_wp2
                go_roundw
                case rel => exact ⟨j + 1, by omega, by go_num, below_drewN HBq.out _⟩
                case measure => simp [intOf]; omega
              · have hs2 : y < x ∧ x = (j : Int) + 1 - y := by rcases hs with h | h; exact absurd h hxy; exact h
                have q1 : (x != y) = true := by simp [hxy]
                have q2 : decide (x ≤ y) = false := by simp; omega
                have q3 : (x != (j : Int) + 1 - y) = false := by simp; omega
                clear hs hs2 hxy
                go_wp2
                go_quiet (fail)
                go_wp2
                go_roundw
                case rel => exact ⟨j + 1, by omega, by go_num, below_drewN HBq.out _⟩
                case measure => simp [intOf]; omega
            · obtain rfl : j = xs.length := by omega
              have hst := Hst.out
              have HBz := hid (HB2.out.trans (HBq.out.mono HB2.out.size))
              have q1 : decide ((1 : Int) ≤ (sk : Int)) = true := by simp; omega
              have q2 : (((sk : Int) == 2) == decide ((xs.length : Int) < 2 * (n : Int))) = true := by
                by_cases h : xs.length < 2 * n
                · have := hst.2.2 h; subst this; simp; omega
                · have : sk ≠ 2 := fun e => h (hst.2.1 e)
                  have h1 : ((sk : Int) == 2) = false := by simp; omega
                  rw [h1]; simp; omega
              clear hst
              go_wp2_with fail
              refine (works_c wq).mono ?_
              rintro e w9 ⟨rfl, hB9⟩
              have HB9 := hid (HBz.out.trans (hB9.mono HBz.out.size))
              clear hB9
              go_wp2
              go_ret
              exact ⟨rfl, HB9.out⟩
  · rw [show (checkRow xs == 0) = false from by simp [hv]] at Hf
    clear hv
    go_enter Try.func9, Try.ntmps9
    go_wp2_with fail
    refine Hf.out.mono ?_
    rintro e wx ⟨rfl, rfl⟩
    go_wp2_with fail
    refine (works_c w).mono ?_
    rintro e w1 ⟨rfl, hB⟩
    have HB := hid hB
    clear hB
    go_wp2
    go_ret
    exact ⟨rfl, HB.out⟩

end Go.Proofs.Ytjnijhnphhpilaa
