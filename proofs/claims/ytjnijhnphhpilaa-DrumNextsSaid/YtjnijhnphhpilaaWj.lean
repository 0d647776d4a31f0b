/- Walks: open, Places, Count. -/
import Derived.Test.YtjnijhnphhpilaaWi
import Derived.Test.YtjnijhnphhpilaaRopen
namespace Go.Proofs.Ytjnijhnphhpilaa
open Go.RowKit Go.Shelf
attribute [local go_sem ↓] wp_get wp_get0 wp_getS wp73 wp71 wps73 wps71 wpa73 wpb75 wpx75

/-- read_c, over readers as plain data -/
theorem readM (b : Nat) (r : Rd) (play : Int) (w : World) (hm : RdM w b r) (hok : r.Ok) (hp : play = 0 ∨ play = 1) :
    Calls Try.prog 64 #[.pointer (some ⟨b, 0, none⟩), .int .i64 play] w (ReadP w b (r.read play)) := by
  obtain ⟨ra, rc, pv, hat, hpr⟩ := hm
  exact read_c b r.places r.far ra rc r.own r.row r.old pv r.proof play w hat hpr hok.zero hok.ok hp

theorem RdM.mono {w w' : World} {b : Nat} {r : Rd} (h : RdM w b r) (hB : Below w.heap.size w w') : RdM w' b r := by
  obtain ⟨ra, rc, pv, hat, hpr⟩ := h
  exact ⟨ra, rc, pv, hat.mono hB, hpr.mono hB⟩

theorem rdM_new (w : World) : RdM (w.alloc (.cells zero75 75)) w.heap.size rd0 :=
  ⟨none, 0, .slice none 0 0, ⟨heap_alloc_new w _, zeros82_length, zeros82_length, .inl rfl, fun _ => ⟨rfl, rfl⟩, Nat.le_refl _⟩, none, 0, rfl, .inl rfl, fun _ => rfl, fun _ _ h => by cases h⟩

def OpenP (w : World) (xs : List Int) (e : Ending) (w' : World) : Prop :=
  if checkRow xs = 0 then ∃ b, e = .returned (.tuple #[.pointer (some ⟨b, 0, none⟩), .int .i64 0]) ∧ RdM w' b (rdAll xs) ∧ w.heap.size ≤ b ∧ Below w.heap.size w w'
  else e = .returned (.tuple #[.pointer none, .int .i64 (checkRow xs)]) ∧ Below w.heap.size w w'

set_option maxRecDepth 100000 in
set_option maxHeartbeats 1000000 in
theorem open_c (a : Option Addr) (cap : Nat) (xs : List Int) (w : World) (hx : IntsAt w a xs) (hb : xs.length ≤ 1000000) :
    Calls Try.prog 63 #[.slice a xs.length cap] w (OpenP w xs) := by
  have H := hid (checkRow_c a cap xs w hx hb)
  have Hx := hid hx; clear hx
  by_cases h : checkRow xs = 0
  · obtain ⟨hlen, hbits⟩ := checkRow_zero h
    have hP : OpenP w xs = fun e w' => ∃ b, e = .returned (.tuple #[.pointer (some ⟨b, 0, none⟩), .int .i64 0]) ∧ RdM w' b (rdAll xs) ∧ w.heap.size ≤ b ∧ Below w.heap.size w w' := by
      funext e w'; unfold OpenP; rw [if_pos h]
    rw [h] at H
    obtain ⟨P, hP'⟩ : ∃ P, P = OpenP w xs := ⟨_, rfl⟩
    rw [← hP']
    have HP := hid (hP'.trans hP)
    have Hb := hid hbits
    clear h hP hP' hbits
    go_enter Try.func63, Try.ntmps63
    go_wp2_with fail
    refine H.out.mono ?_
    rintro e w1 ⟨rfl, hB1⟩
    have HB1 := hid hB1; clear hB1
    go_wp2
    go_loopw [17] (fun i wr => ∃ k : Nat, k ≤ xs.length ∧ i = .int .i64 k ∧ RdM wr w1.heap.size (rdAll (xs.take k)) ∧ Below w.heap.size w wr) (fun i _ => xs.length - (intOf i).toNat)
    case atStart => exact ⟨0, Nat.zero_le _, rfl, rdM_new w1, HB1.out.alloc (HB1.out.size) _⟩
    case round =>
      obtain ⟨k, hk, rfl, hm, hB⟩ := hrel
      obtain ⟨wq, rfl⟩ : ∃ wq : World, wq = wr := ⟨_, rfl⟩
      by_cases hlt : k < xs.length
      · obtain ⟨ba, off, rfl, hc⟩ := (Hx.out.mono hB).at hlt
        have hr := readM w1.heap.size (rdAll (xs.take k)) (nth xs k) wq hm (rdAll_ok Hb.out (by omega) k hk) (isBits_nth Hb.out k)
        have Hr := hid hr; have HB := hid hB
        clear hr hB hm
        go_wp2_with fail
        refine Hr.out.mono ?_
        rintro e w2 ⟨rfl, hm2, ho2⟩
        rw [← rdAll_take_succ hlt] at hm2
        have hB2 := HB.out.trans (ho2.below HB.out.size (by intro j hj; have := HB1.out.size; omega))
        have Hm2 := hid hm2; have HB2 := hid hB2
        clear hm2 hB2 ho2
        go_wp2
        go_roundw
        case rel => exact ⟨k + 1, by omega, by go_num, Hm2.out, HB2.out⟩
        case measure => simp [intOf]; omega
      · obtain rfl : k = xs.length := by omega
        have Hm := hid hm; have HB := hid hB
        clear hm hB
        go_wp2
        rw [HP.out]
        refine ⟨w1.heap.size, rfl, ?_, HB1.out.size, HB.out⟩
        have := Hm.out
        rw [List.take_length] at this
        exact this
  · have hP : OpenP w xs = fun e w' => e = .returned (.tuple #[.pointer none, .int .i64 (checkRow xs)]) ∧ Below w.heap.size w w' := by
      funext e w'; unfold OpenP; rw [if_neg h]
    rw [hP]
    generalize checkRow xs = c at *
    have hcb : (c != 0) = true := by simp [h]
    have Hh := hid h
    clear h hP
    go_enter Try.func63, Try.ntmps63
    go_wp2_with fail
    refine H.out.mono ?_
    rintro e w1 ⟨rfl, hB1⟩
    go_wp2
    go_ret2
    exact ⟨rfl, hB1⟩

def placesR (xs : List Int) : Int := if checkRow xs = 0 then ((rdAll xs).places : Int) else 0

theorem RdM.places {w : World} {b : Nat} {r : Rd} (h : RdM w b r) : w.cell? ⟨b, 82, none⟩ = some (.int .i64 r.places) := by
  obtain ⟨ra, rc, pv, hat, _⟩ := h
  exact hat.cPlaces

set_option maxRecDepth 100000 in
set_option maxHeartbeats 1000000 in
theorem places_c (a : Option Addr) (cap : Nat) (xs : List Int) (w : World) (hx : IntsAt w a xs) (hb : xs.length ≤ 1000000) :
    Calls Try.prog 27 #[.slice a xs.length cap] w fun e w' => e = .returned (.tuple #[.int .i64 (placesR xs), .int .i64 (checkRow xs)]) ∧ Below w.heap.size w w' := by
  have H := hid (open_c a cap xs w hx hb)
  clear hx
  unfold OpenP at H
  unfold placesR
  by_cases h : checkRow xs = 0
  · simp only [if_pos h] at H ⊢
    rw [h]
    have Hh := hid h; clear h
    go_enter Try.func27, Try.ntmps27
    go_wp2_with fail
    refine H.out.mono ?_
    rintro e w1 ⟨b, rfl, hm, hbb, hB⟩
    have hpl := hm.places
    have HB := hid hB; have Hm := hid hm; clear hB hm
    go_wp2
    go_ret2
    exact ⟨rfl, HB.out⟩
  · simp only [if_neg h] at H ⊢
    generalize checkRow xs = c at *
    have hcb : (c != 0) = true := by simp [h]
    have Hh := hid h; clear h
    go_enter Try.func27, Try.ntmps27
    go_wp2_with fail
    refine H.out.mono ?_
    rintro e w1 ⟨rfl, hB⟩
    go_wp2
    go_ret2
    exact ⟨rfl, hB⟩

end Go.Proofs.Ytjnijhnphhpilaa
