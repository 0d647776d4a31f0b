/- Walks of the reference: PlacesOf, Places, CountOf, Count, Profile. Walk of the reference: Profile. -/
import Derived.Test.YtjnijhnphhpilaaXa
import Derived.Test.YtjnijhnphhpilaaWm
import Derived.Test.YtjnijhnphhpilaaGp
namespace Go.Proofs.Ytjnijhnphhpilaa
open Go.RowKit Go.Shelf

set_option maxRecDepth 100000 in
set_option maxHeartbeats 2000000 in
theorem placesOf_c (a : Option Addr) (cap : Nat) (xs : List Int) (w : World) (hx : IntsAt w a xs) (hv : checkRow xs = 0) :
    Calls Try.prog 40 #[.slice a xs.length cap] w fun e w' => e = .returned (.int .i64 ((pl xs : Nat) : Int)) ∧ Below w.heap.size w w' := by
  obtain ⟨hlen, hbits⟩ := checkRow_zero hv
  have hp := pl_le hv
  have HS := hid fun (w' : World) (P : Nat) (hP : P ≤ xs.length) (hb : Below w.heap.size w w') => solved_c a cap P xs w' (hx.mono hb) hlen hP hbits
  have Hv := hid hv
  obtain ⟨q, hq⟩ : ∃ q, q = pl xs := ⟨_, rfl⟩
  have Hq := hid hq
  rw [← hq] at hp ⊢
  clear hx hbits hv hq
  go_enter Try.func40, Try.ntmps40
  go_wp2
  go_loopw [3] (fun i wr => ∃ P : Nat, P ≤ q ∧ i = .int .i64 P ∧ Below w.heap.size w wr) (fun i _ => xs.length - (intOf i).toNat)
  case atStart => exact ⟨0, Nat.zero_le _, rfl, Below.refl _ _⟩
  case round =>
    obtain ⟨P, hP, rfl, hB⟩ := hrel
    have HB := hid hB
    clear hB
    by_cases hlt : P < xs.length
    · go_wp2_with fail
      refine (HS.out _ P (by omega) HB.out).mono ?_
      rintro e w1 ⟨ao, cp, F, n, pv, rfl, hs, hq', hB⟩
      have HB1 := hid (HB.out.trans (hB.mono HB.out.size))
      by_cases hPq : P = q
      · have hg : goodB F n = true := by
          have h2 : P = pl xs := by rw [hPq]; exact Hq.out
          subst h2
          exact hs.good_pl Hv.out
        rw [hg]
        subst hPq
        clear hB hs hq' hg
        go_wp2
        go_ret
        exact ⟨rfl, HB1.out⟩
      · have hg : goodB F n = false := by
          cases h : goodB F n with
          | false => rfl
          | true =>
            have h1 := hs.least Hv.out h (by omega)
            have h2 := Hq.out
            omega
        rw [hg]
        clear hB hs hq' hg
        go_wp2
        go_roundw
        case rel => exact ⟨P + 1, by omega, by go_num, HB1.out⟩
        case measure => simp [intOf]; omega
    · obtain rfl : P = q := by omega
      obtain rfl : P = xs.length := by omega
      go_wp2
      go_ret
      exact ⟨rfl, HB.out⟩

set_option maxRecDepth 100000 in
theorem rPlaces_c (a : Option Addr) (cap : Nat) (xs : List Int) (w : World) (hx : IntsAt w a xs) (hb : xs.length ≤ 1000000) :
    Calls Try.prog 28 #[.slice a xs.length cap] w fun e w' => e = .returned (.tuple #[.int .i64 (placesR xs), .int .i64 (checkRow xs)]) ∧ Below w.heap.size w w' := by
  have H := hid (rCheckRow_c a cap xs w hx hb)
  by_cases h : checkRow xs = 0
  · have H2 := hid (placesOf_c a cap xs w hx h)
    rw [h] at H ⊢
    have he : placesR xs = ((pl xs : Nat) : Int) := by unfold placesR; rw [if_pos h]; rfl
    rw [he]
    clear hx h he
    go_enter Try.func28, Try.ntmps28
    go_wp2_with fail
    refine H.out.mono ?_
    rintro e wx ⟨rfl, rfl⟩
    go_wp2_with fail
    refine H2.out.mono ?_
    rintro e w1 ⟨rfl, hB⟩
    have HB := hid hB
    clear hB
    go_wp2
    go_ret2
    exact ⟨rfl, HB.out⟩
  · have he : placesR xs = 0 := by unfold placesR; rw [if_neg h]
    rw [he]
    have hcb : (checkRow xs != 0) = true := by simpa using h
    clear hx h he
    generalize checkRow xs = c at *
    go_enter Try.func28, Try.ntmps28
    go_wp2_with fail
    refine H.out.mono ?_
    rintro e wx ⟨rfl, rfl⟩
    go_wp2_with fail
    refine H.out.mono ?_
    rintro e wx ⟨rfl, rfl⟩
    go_wp2
    go_ret2
    exact ⟨rfl, Below.refl _ _⟩

set_option maxRecDepth 100000 in
theorem countOf_c (a : Option Addr) (cap : Nat) (xs : List Int) (w : World) (hx : IntsAt w a xs) (hv : checkRow xs = 0) :
    Calls Try.prog 65 #[.slice a xs.length cap] w fun e w' => e = .returned (.int .i64 (countR xs)) ∧ Below w.heap.size w w' := by
  obtain ⟨hlen, hbits⟩ := checkRow_zero hv
  have hp := pl_le hv
  have H1 := hid (placesOf_c a cap xs w hx hv)
  have HS := hid fun (w' : World) (hb : Below w.heap.size w w') => solved_c a cap (pl xs) xs w' (hx.mono hb) hlen hp hbits
  have Hv := hid hv
  have hc : countR xs = ((2 ^ (2 * pl xs - xs.length) : Nat) : Int) := by unfold countR; rw [if_pos hv]; rfl
  have Hc := hid hc
  clear hx hbits hv hc
  go_enter Try.func65, Try.ntmps65
  go_wp2_with fail
  refine H1.out.mono ?_
  rintro e w1 ⟨rfl, hB⟩
  have HB := hid hB
  clear hB
  go_wp2_with fail
  refine (HS.out _ HB.out).mono ?_
  rintro e w2 ⟨ao, cp, F, n, pv, rfl, hs, hq', hB⟩
  have HB1 := hid (bstep HB.out hB)
  have hr := hs.rank Hv.out
  have hn := hs.ech.nk
  obtain ⟨q, hq⟩ : ∃ q, q = pl xs := ⟨_, rfl⟩
  have hcr : countR xs = ((2 ^ (q - n) : Nat) : Int) := by rw [Hc.out, ← hr, hq]
  rw [← hq] at hp hn ⊢
  have Hcr := hid hcr
  clear hB hs hq' hr hq hcr
  have hsub : (q : Int) - (n : Int) = ((q - n : Nat) : Int) := by omega
  have hsub0 : (n : Int) ≤ (q : Int) := by omega
  have hsh : wrap64 ((2 : Int) ^ (q - n)) = 2 ^ (q - n) := wrap64_pow (by omega)
  go_wp2
  go_ret
  exact ⟨ret_int (by rw [Hcr.out]; simpa using hsh), HB1.out⟩

set_option maxRecDepth 100000 in
theorem rCount_c (a : Option Addr) (cap : Nat) (xs : List Int) (w : World) (hx : IntsAt w a xs) (hb : xs.length ≤ 1000000) :
    Calls Try.prog 32 #[.slice a xs.length cap] w fun e w' => e = .returned (.tuple #[.int .i64 (countR xs), .int .i64 (checkRow xs)]) ∧ Below w.heap.size w w' := by
  have H := hid (rCheckRow_c a cap xs w hx hb)
  by_cases h : checkRow xs = 0
  · have H2 := hid (countOf_c a cap xs w hx h)
    rw [h] at H ⊢
    clear hx h
    go_enter Try.func32, Try.ntmps32
    go_wp2_with fail
    refine H.out.mono ?_
    rintro e wx ⟨rfl, rfl⟩
    go_wp2_with fail
    refine H2.out.mono ?_
    rintro e w1 ⟨rfl, hB⟩
    have HB := hid hB
    clear hB
    go_wp2
    go_ret2
    exact ⟨rfl, HB.out⟩
  · have he : countR xs = 0 := by unfold countR; rw [if_neg h]
    rw [he]
    have hcb : (checkRow xs != 0) = true := by simpa using h
    clear hx h he
    generalize checkRow xs = c at *
    go_enter Try.func32, Try.ntmps32
    go_wp2_with fail
    refine H.out.mono ?_
    rintro e wx ⟨rfl, rfl⟩
    go_wp2_with fail
    refine H.out.mono ?_
    rintro e wx ⟨rfl, rfl⟩
    go_wp2
    go_ret2
    exact ⟨rfl, Below.refl _ _⟩

end Go.Proofs.Ytjnijhnphhpilaa

namespace Go.Proofs.Ytjnijhnphhpilaa
open Go.RowKit Go.Shelf

set_option maxRecDepth 100000 in
set_option maxHeartbeats 2000000 in
theorem rProfile_c (a : Option Addr) (cap : Nat) (xs : List Int) (w : World) (hx : IntsAt w a xs) (hb : xs.length ≤ 1000000) (hcap : xs.length ≤ cap) :
    Calls Try.prog 30 #[.slice a xs.length cap] w (Ret2 w (profR xs) (checkRow xs)) := by
  have H := hid (rCheckRow_c a cap xs w hx hb)
  by_cases h : checkRow xs = 0
  · obtain ⟨hlen, hbits⟩ := checkRow_zero h
    have H2 := hid fun (w' : World) (n : Nat) (hn : n ≤ xs.length) (hB : Below w.heap.size w w') => placesOf_c a cap (xs.take n) w' ((hx.mono hB).take n) (row_valid (by rw [List.length_take]; omega) (isBits_take hbits _))
    rw [h] at H ⊢
    have he : profR xs = profTo xs xs.length := by unfold profR; rw [if_pos h]
    rw [he]
    have Hx := hid hx
    clear hx h he hbits
    go_enter Try.func30, Try.ntmps30
    go_wp2_with fail
    refine H.out.mono ?_
    rintro e wx ⟨rfl, rfl⟩
    go_wp2
    go_loopw [4, 5] (fun o i wr => ∃ (n : Nat) (ao : Option Addr) (cp : Nat), n ≤ xs.length + 1 ∧ i = .int .i64 n ∧ o = .slice ao n cp ∧ OwnI w.heap.size wr ao n cp ((profTo xs xs.length).take n) ∧ Below w.heap.size w wr) (fun _ i _ => xs.length + 1 - (intOf i).toNat)
    case atStart => exact ⟨0, none, 0, Nat.zero_le _, rfl, rfl, OwnI.nil _ _, Below.refl _ _⟩
    case round =>
      obtain ⟨n, ao, cp, hn, rfl, rfl, hown, hB⟩ := hrel
      obtain ⟨wo, rfl⟩ : ∃ wo : World, wo = wr := ⟨_, rfl⟩
      have Hown := hid hown; have HB := hid hB
      clear hown hB
      by_cases hlt : n ≤ xs.length
      · have hnc : n ≤ cap := by omega
        have hncI : (n : Int) ≤ (cap : Int) := by omega
        have hltI : (n : Int) ≤ (xs.length : Int) := by omega
        have hk := H2.out wo n hlt HB.out
        rw [show (xs.take n).length = n from by rw [List.length_take]; omega] at hk
        have hv : nth (profTo xs xs.length) n = pl (xs.take n) := profTo_nth xs xs.length n hlt
        have ht := take_succ_nth (xs := profTo xs xs.length) (k := n) (by rw [profTo_length]; omega)
        rw [hv] at ht
        obtain ⟨q, hq⟩ : ∃ q, q = pl (xs.take n) := ⟨_, rfl⟩
        rw [← hq] at hk ht
        have Hk := hid hk; have Ht := hid ht
        clear hk hv ht hq
        go_wp2_with fail
        refine Hk.out.mono ?_
        rintro e w1 ⟨rfl, hB⟩
        have HB1 := hid (HB.out.trans (hB.mono HB.out.size)); have Hown1 := hid (Hown.out.kept hB)
        clear hB Hk Hown HB
        go_wp2_with (at_builtin; refine wpList_app_own _ rfl _ _ rfl w.heap.size ao n cp ((profTo xs xs.length).take n) rfl ?c1 _ (q : Int) rfl ?c2 ?c3 ?c4 ?c5; rotate_right; (intro b' cap' w' hB' hb' hown' hgr'; refine Hid.out ?_))
        case c1 => exact Hown1.out.alloc _
        case c2 => simp
        case c3 => omega
        case c4 => have := HB1.out.size; simp; omega
        case c5 =>
          refine hid ?_
          have Hown' := hid hown'
          have HB' := hid (HB1.out.trans (((bnew w1 (.cells #[.int .i64 q] 3)).mono HB1.out.size).trans hB'))
          clear hown' hB' hgr'
          go_wp2
          go_roundw
          case rel => exact ⟨n + 1, _, cap', by omega, by go_num, rfl, by rw [Ht.out]; exact Hown'.out, HB'.out⟩
          case measure => simp [intOf]; omega
      · obtain rfl : n = xs.length + 1 := by omega
        go_wp2
        go_ret2
        have ho := Hown.out
        rw [List.take_of_length_le (by rw [profTo_length]; omega)] at ho
        exact ⟨_, rfl, ⟨ao, cp, by rw [profTo_length]; rfl, ho.at, fun h => (ho.none h).2⟩, HB.out⟩
  · have he : profR xs = [] := by unfold profR; rw [if_neg h]
    rw [he]
    have hcb : (checkRow xs != 0) = true := by simpa using h
    clear hx h he
    generalize checkRow xs = c at *
    go_enter Try.func30, Try.ntmps30
    go_wp2_with fail
    refine H.out.mono ?_
    rintro e wx ⟨rfl, rfl⟩
    go_wp2_with fail
    refine H.out.mono ?_
    rintro e wx ⟨rfl, rfl⟩
    go_wp2
    go_ret2
    exact ⟨_, rfl, Sl.nil _, Below.refl _ _⟩

end Go.Proofs.Ytjnijhnphhpilaa
