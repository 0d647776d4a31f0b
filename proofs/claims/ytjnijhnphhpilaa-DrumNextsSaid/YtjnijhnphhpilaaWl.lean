/- Walks: Count, Proof, Next. -/
import Derived.Test.YtjnijhnphhpilaaWk
namespace Go.Proofs.Ytjnijhnphhpilaa
open Go.RowKit Go.Shelf
attribute [local go_sem ↓] wp_get wp_get0 wp_getS wp73 wp71 wps73 wps71 wpa73 wpb75 wpx75

theorem Rd.Ok.le {r : Rd} (h : r.Ok) : r.places ≤ r.row.length := h.ok.places
theorem rdAll_places {xs : List Int} (h : checkRow xs = 0) : (rdAll xs).places ≤ xs.length := by
  obtain ⟨h1, h2⟩ := checkRow_zero h
  have := (rdAll_ok h2 (by omega) xs.length (Nat.le_refl _)).le
  rw [List.take_length, rdAll_row] at this
  exact this

theorem wrap64_pow {e : Nat} (he : e ≤ 62) : wrap64 ((2 : Int) ^ e) = 2 ^ e := by
  have h1 : (2 : Nat) ^ e ≤ 2 ^ 62 := Nat.pow_le_pow_right (by decide) he
  have h2 : (2 : Int) ^ e = ((2 ^ e : Nat) : Int) := by simp
  have h3 : (0 : Nat) < 2 ^ e := Nat.pow_pos (by decide)
  rw [h2]
  generalize 2 ^ e = n at *
  unfold wrap64
  omega

def countR (xs : List Int) : Int := if checkRow xs = 0 then ((2 ^ (2 * (rdAll xs).places - xs.length) : Nat) : Int) else 0

set_option maxRecDepth 100000 in
set_option maxHeartbeats 1000000 in
theorem count_c (a : Option Addr) (cap : Nat) (xs : List Int) (w : World) (hx : IntsAt w a xs) (hb : xs.length ≤ 1000000) :
    Calls Try.prog 31 #[.slice a xs.length cap] w fun e w' => e = .returned (.tuple #[.int .i64 (countR xs), .int .i64 (checkRow xs)]) ∧ Below w.heap.size w w' := by
  have H := hid (open_c a cap xs w hx hb)
  clear hx
  unfold OpenP at H
  unfold countR
  by_cases h : checkRow xs = 0
  · simp only [if_pos h] at H ⊢
    have hle := rdAll_places h
    have hlen := (checkRow_zero h).1
    rw [h]
    have Hh := hid h; clear h
    generalize rdAll xs = r at *
    go_enter Try.func31, Try.ntmps31
    go_wp2_with fail
    refine H.out.mono ?_
    rintro e w1 ⟨b, rfl, hm, hbb, hB⟩
    have hpl := hm.places
    have HB := hid hB; have Hm := hid hm; clear hB hm
    go_wp2
    · go_ret2
      refine ⟨?_, HB.out⟩
      rw [show (2 * (r.places : Int)).toNat = 2 * r.places from by omega, wrap64_pow (by omega)]
      rfl
    · go_ret2
      refine ⟨?_, HB.out⟩
      rw [show 2 * r.places - xs.length = 0 from by omega, show wrap64 1 = 1 from by unfold wrap64; rfl]
      rfl
  · simp only [if_neg h] at H ⊢
    generalize checkRow xs = c at *
    have hcb : (c != 0) = true := by simp [h]
    have Hh := hid h; clear h
    go_enter Try.func31, Try.ntmps31
    go_wp2_with fail
    refine H.out.mono ?_
    rintro e w1 ⟨rfl, hB⟩
    go_wp2
    go_ret2
    exact ⟨rfl, hB⟩

def proofErr (xs : List Int) : Int := if checkRow xs = 0 then (if (rdAll xs).places = 0 then 5 else 0) else checkRow xs
def proofR (xs : List Int) : List Int := if checkRow xs = 0 then (if (rdAll xs).places = 0 then [] else (rdAll xs).proof) else []

theorem RdM.proof {w : World} {b : Nat} {r : Rd} (h : RdM w b r) : ∃ v, w.cell? ⟨b, 167, none⟩ = some v ∧ Sl w v r.proof := by
  obtain ⟨ra, rc, pv, hat, a, cap, rfl, hp, hn, _⟩ := h
  exact ⟨_, hat.cProof, a, cap, rfl, hp, hn⟩

set_option maxRecDepth 100000 in
set_option maxHeartbeats 1000000 in
theorem proof_c (a : Option Addr) (cap : Nat) (xs : List Int) (w : World) (hx : IntsAt w a xs) (hb : xs.length ≤ 1000000) :
    Calls Try.prog 36 #[.slice a xs.length cap] w (Ret2 w (proofR xs) (proofErr xs)) := by
  have H := hid (open_c a cap xs w hx hb)
  clear hx
  unfold OpenP at H
  unfold proofR proofErr
  by_cases h : checkRow xs = 0
  · simp only [if_pos h] at H ⊢
    have hle := rdAll_places h
    have hlen := (checkRow_zero h).1
    have Hh := hid h; clear h
    generalize rdAll xs = r at *
    by_cases hp : r.places = 0
    · simp only [if_pos hp]
      go_enter Try.func36, Try.ntmps36
      go_wp2_with fail
      refine H.out.mono ?_
      rintro e w1 ⟨b, rfl, hm, hbb, hB⟩
      have hpl := hm.places
      rw [hp] at hpl
      have HB := hid hB; have Hm := hid hm; clear hB hm
      go_wp2
      go_ret2
      exact ⟨_, rfl, Sl.nil _, HB.out⟩
    · simp only [if_neg hp]
      have hpb : ((r.places : Int) == 0) = false := by simp [hp]
      have Hp := hid hp; clear hp
      go_enter Try.func36, Try.ntmps36
      go_wp2_with fail
      refine H.out.mono ?_
      rintro e w1 ⟨b, rfl, hm, hbb, hB⟩
      have hpl := hm.places
      obtain ⟨v, hv, hs⟩ := hm.proof
      have HB := hid hB; have Hm := hid hm; have Hs := hid hs; clear hB hm hs
      go_wp2
      go_ret2
      exact ⟨_, rfl, Hs.out, HB.out⟩
  · simp only [if_neg h] at H ⊢
    generalize checkRow xs = c at *
    have hcb : (c != 0) = true := by simp [h]
    have Hh := hid h; clear h
    go_enter Try.func36, Try.ntmps36
    go_wp2_with fail
    refine H.out.mono ?_
    rintro e w1 ⟨rfl, hB⟩
    go_wp2
    go_ret2
    exact ⟨_, rfl, Sl.nil _, hB⟩

def nextErr (xs : List Int) (plays : Int) : Int := if checkRow xs ≠ 0 then checkRow xs else if ¬ (0 ≤ plays ∧ plays ≤ 100) then 2 else if xs.length < 2 * (rdAll xs).places then 25 else 0
def nextR (xs : List Int) (plays : Int) : List Int := if nextErr xs plays = 0 then (playsF (rdDrum (rdAll xs)).1 (rdDrum (rdAll xs)).2 (xs.length + plays.toNat)).drop xs.length else []

theorem Rd.read_own_length (r : Rd) (play : Int) (h : r.own.length = 82) : (r.read play).own.length = 82 := by
  have h2 : (rdOwn r.own r.row).length = 82 := by
    unfold rdOwn
    split
    · exact one82_length
    · exact h
  unfold Rd.read
  simp only
  split
  · exact h2
  · split <;> exact (xorFrom_length _ _ _ _).trans h2

theorem rdAll_own_length (xs : List Int) : (rdAll xs).own.length = 82 := by
  have : ∀ (ys : List Int) (r : Rd), r.own.length = 82 → (ys.foldl Rd.read r).own.length = 82 := by
    intro ys
    induction ys with
    | nil => intro r h; exact h
    | cons y ys ih => intro r h; rw [List.foldl_cons]; exact ih _ (Rd.read_own_length r y h)
  exact this xs rd0 zeros82_length

theorem rdDrum_len {xs : List Int} (h : checkRow xs = 0) : (rdDrum (rdAll xs)).1.length = (rdAll xs).places ∧ (rdDrum (rdAll xs)).2.length = (rdAll xs).places ∧ isBits (rdDrum (rdAll xs)).1 = true ∧ isBits (rdDrum (rdAll xs)).2 = true := by
  obtain ⟨h1, h2⟩ := checkRow_zero h
  have hle := rdAll_places h
  have hok := rdAll_ok h2 (by omega) xs.length (Nat.le_refl _)
  rw [List.take_length] at hok
  by_cases h0 : xs.length = 0
  · obtain rfl : xs = [] := List.eq_nil_of_length_eq_zero h0
    decide
  · have hb := hok.ok.bown
    have e : rdOwn (rdAll xs).own (rdAll xs).row = (rdAll xs).own := by unfold rdOwn; rw [rdAll_row, if_neg h0]
    rw [e] at hb
    have hl : (rdAll xs).own.length = 82 := by
      have := rdAll_own_length xs
      exact this
    unfold rdDrum
    rw [rdAll_row]
    refine ⟨by simp; rw [hl]; omega, by simp; omega, isBits_take (isBits_drop hb _) _, isBits_take h2 _⟩

set_option maxRecDepth 100000 in
set_option maxHeartbeats 1000000 in
theorem next_c (a : Option Addr) (cap : Nat) (xs : List Int) (plays : Int) (w : World) (hx : IntsAt w a xs) (hb : xs.length ≤ 1000000) :
    Calls Try.prog 34 #[.slice a xs.length cap, .int .i64 plays] w (Ret2 w (nextR xs plays) (nextErr xs plays)) := by
  have H := hid (open_c a cap xs w hx hb)
  have Hx := hid hx
  clear hx
  unfold OpenP at H
  by_cases h : checkRow xs = 0
  · simp only [if_pos h] at H
    have hle := rdAll_places h
    have hlen := (checkRow_zero h).1
    have hbits := (checkRow_zero h).2
    have hok := rdAll_ok hbits (by omega) xs.length (Nat.le_refl _)
    rw [List.take_length] at hok
    have hdl := rdDrum_len h
    have Hok := hid hok; have Hdl := hid hdl
    clear hbits hok hdl
    by_cases hp : 0 ≤ plays ∧ plays ≤ 100
    · obtain ⟨n, rfl⟩ := Int.eq_ofNat_of_zero_le hp.1
      have hwi : within 0 100 [(n : Int)] = true := by rw [within1]; simpa using hp
      have hn : n ≤ 100 := by omega
      by_cases h2 : xs.length < 2 * (rdAll xs).places
      · have he : nextErr xs n = 25 := by unfold nextErr; rw [if_neg (by simp [h]), if_neg (by simp; omega), if_pos h2]
        have hr : nextR xs n = [] := by unfold nextR; rw [he]; rfl
        rw [he, hr]
        have Hwi := hid hwi; have Hh := hid h
        clear h hp hwi he hr
        generalize rdAll xs = r at *
        go_enter Try.func34, Try.ntmps34
        go_wp2_with fail
        refine H.out.mono ?_
        rintro e w1 ⟨b, rfl, hm, hbb, hB⟩
        have hpl := hm.places
        have HB := hid hB; have Hm := hid hm; clear hB hm
        go_wp2_with fail
        refine (within_c _ 1 0 100 [(n : Int)] _ (intsAt_new w1 [(n : Int)] _ 3 rfl) (by simp)).mono ?_
        rintro e w2 ⟨rfl, hB2⟩
        rw [Hwi.out]
        have hB2' := bstep ((Below.refl w1.heap.size w1).alloc (Nat.le_refl _) (.cells #[.int .i64 n] 3)) hB2
        have hpl2 := cstep hpl hB2'
        have HB2 := hid (bstep HB.out hB2')
        clear hB2 hB2' hpl
        go_wp2
        go_ret2
        exact ⟨_, rfl, Sl.nil _, HB2.out⟩
      · have he : nextErr xs n = 0 := by unfold nextErr; rw [if_neg (by simp [h]), if_neg (by simp; omega), if_neg h2]
        have hr : nextR xs n = (playsF (rdDrum (rdAll xs)).1 (rdDrum (rdAll xs)).2 (xs.length + n)).drop xs.length := by unfold nextR; rw [he]; rfl
        obtain ⟨ys, hys⟩ : ∃ ys, ys = (playsF (rdDrum (rdAll xs)).1 (rdDrum (rdAll xs)).2 (xs.length + n)).drop xs.length := ⟨_, rfl⟩
        rw [he, hr, ← hys]
        have Hys := hid hys
        have Hwi := hid hwi; have Hh := hid h
        clear h hp hwi he hr hys
        have hmk : ∀ w, (Instr.makeSlice 22 (.int .i64 n) (.int .i64 n)).run Try.prog w = .ok (.slice (some ⟨w.heap.size, 0, none⟩) n n) (w.alloc (.cells (intv (List.replicate n 0)).toArray 3)) := fun w => run_make_ints w n n (by omega) (by omega)
        generalize rdAll xs = r at *
        go_enter Try.func34, Try.ntmps34
        go_wp2_with fail
        refine H.out.mono ?_
        rintro e w1 ⟨b, rfl, hm, hbb, hB⟩
        have hpl := hm.places
        have HB := hid hB; have Hm := hid hm; clear hB hm
        go_wp2_with fail
        refine (within_c _ 1 0 100 [(n : Int)] _ (intsAt_new w1 [(n : Int)] _ 3 rfl) (by simp)).mono ?_
        rintro e w2 ⟨rfl, hB2⟩
        rw [Hwi.out]
        have hB2' := bstep ((Below.refl w1.heap.size w1).alloc (Nat.le_refl _) (.cells #[.int .i64 n] 3)) hB2
        have hpl2 := cstep hpl hB2'
        have HB2 := hid (bstep HB.out hB2'); have HB2' := hid hB2'
        clear hB2 hB2' hpl
        have hz := heap_alloc_new w2 (.cells (intv (List.replicate n 0)).toArray 3)
        have hB3 := (Below.refl w2.heap.size w2).alloc (Nat.le_refl _) (.cells (intv (List.replicate n 0)).toArray 3)
        have hdc := drum_c b r (w2.alloc (.cells (intv (List.replicate n 0)).toArray 3)) ((Hm.out.mono HB2'.out).mono hB3) Hok.out
        have Hdc := hid hdc; have Hz := hid hz; have HB3 := hid (bstep HB2.out hB3)
        clear hdc hz hB3
        go_wp2_with fail
        refine Hdc.out.mono ?_
        rintro e w4 ⟨_, rfl, ⟨_, _, rfl, ⟨a1, c1, rfl, hs1, hn1⟩, ⟨a2, c2, rfl, hs2, hn2⟩⟩, hB4⟩
        obtain ⟨hl1, hl2, hb1, hb2⟩ := Hdl.out
        have hrun := run_c a1 a2 c1 c2 (xs.length + n) (rdDrum r).1 (rdDrum r).2 w4 hs1 hs2 (by omega) (by omega) (by omega) hb1 hb2
        rw [Int.natCast_add] at hrun
        have Hrun := hid hrun
        have hz4 := (hB4.block w2.heap.size (by simp)).trans Hz.out
        have Hz4 := hid hz4; have HB4 := hid (bstep HB3.out hB4)
        clear hrun hs1 hs2 hB4 hb1 hb2 hz4 hpl2 hl1 hl2
        go_wp2_with fail
        refine Hrun.out.mono ?_
        rintro e w5 ⟨_, rfl, ⟨b5, c5, rfl, hown⟩, hB5⟩
        have hat5 : IntsAt w5 (some ⟨b5, xs.length, none⟩) ys := by
          have h := IntsAt.of_owns hown
          have h2 := h.drop xs.length
          rw [Nat.zero_add, ← Hys.out] at h2
          exact h2
        rw [playsF_length] at hown ⊢
        have hc5 : xs.length + n ≤ c5 := by
          rcases hown.2 with ⟨e, _⟩ | ⟨g, cp, cur, e, _, _, hle5, _⟩
          · cases e
          · cases e; exact hle5
        have hyl : ys.length = n := by rw [Hys.out, List.length_drop, playsF_length]; omega
        have hz5 := (hB5.block w2.heap.size (Array.getElem?_eq_some_iff.1 Hz4.out).1).trans Hz4.out
        have hcp1 : (Builtin.copy_ #[22, 22] 3 #[.slice (some ⟨w2.heap.size, 0, none⟩) n n, .slice (some ⟨b5, xs.length, none⟩) n (c5 - xs.length)]).run Try.prog w5 = .ok (.int .i64 n) (w5.setRow w2.heap.size (intv (ys.take n)).toArray) :=
          run_copy_fill 3 w5 w2.heap.size n n n (c5 - xs.length) _ _ ys hz5 (by simp) hyl hat5 (Nat.le_refl _)
        have hcp2 : c5 = xs.length → (Builtin.copy_ #[22, 22] 3 #[.slice (some ⟨w2.heap.size, 0, none⟩) n n, .slice (some ⟨b5, 0, none⟩) 0 0]).run Try.prog w5 = .ok (.int .i64 n) (w5.setRow w2.heap.size (intv (ys.take n)).toArray) := by
          intro hc
          have hy0 : ys = [] := List.eq_nil_of_length_eq_zero (by omega)
          rw [hy0]
          exact run_copy_fill 3 w5 w2.heap.size n n 0 0 _ _ [] hz5 (by simp) rfl (.inl rfl) (by omega)
        have hRet : Ret2 w ys 0 (.returned (.tuple #[.slice (some ⟨w2.heap.size, 0, none⟩) n n, .int .i64 0])) (w5.setRow w2.heap.size (intv (ys.take n)).toArray) := by
          have hO : Only (fun k => k = w2.heap.size) w5 (w5.setRow w2.heap.size (intv (ys.take n)).toArray) := setRow_only _ _
          have hBB := bstep HB4.out hB5
          refine ⟨_, rfl, Sl.of_block (setRow_heap hz5) hyl (by rw [List.take_of_length_le (by omega)]), hBB.trans (hO.below hBB.size (by intro j hj; have := HB2.out.size; omega))⟩
        have HRet := hid hRet
        clear hyl hz5 hRet hat5 hown hB5
        by_cases hcc : c5 = xs.length
        · have hcp3 := hcp2 hcc
          clear hcp2 hcp1
          subst hcc
          go_wp2
          go_ret2
          exact HRet.out
        · clear hcp2
          have hcc2 : xs.length < c5 := by omega
          go_wp2
          go_ret2
          exact HRet.out
    · have he : nextErr xs plays = 2 := by unfold nextErr; rw [if_neg (by simp [h]), if_pos hp]
      have hr : nextR xs plays = [] := by unfold nextR; rw [he]; rfl
      rw [he, hr]
      have hwi : within 0 100 [plays] = false := by rw [within1]; simp; omega
      have Hwi := hid hwi; have Hh := hid h
      clear h hp hwi he hr
      generalize rdAll xs = r at *
      go_enter Try.func34, Try.ntmps34
      go_wp2_with fail
      refine H.out.mono ?_
      rintro e w1 ⟨b, rfl, hm, hbb, hB⟩
      have hpl := hm.places
      have HB := hid hB; have Hm := hid hm; clear hB hm
      go_wp2_with fail
      refine (within_c _ 1 0 100 [plays] _ (intsAt_new w1 [plays] _ 3 rfl) (by simp)).mono ?_
      rintro e w2 ⟨rfl, hB2⟩
      rw [Hwi.out]
      have HB2 := hid (bstep HB.out (bstep ((Below.refl w1.heap.size w1).alloc (Nat.le_refl _) (.cells #[.int .i64 plays] 3)) hB2))
      clear hB2 hpl
      go_wp2
      go_ret2
      exact ⟨_, rfl, Sl.nil _, HB2.out⟩
  · have he : nextErr xs plays = checkRow xs := by unfold nextErr; rw [if_pos h]
    have hr : nextR xs plays = [] := by unfold nextR; rw [he, if_neg h]
    rw [he, hr]
    simp only [if_neg h] at H
    generalize checkRow xs = c at *
    have hcb : (c != 0) = true := by simp [h]
    have Hh := hid h; clear h he hr
    go_enter Try.func34, Try.ntmps34
    go_wp2_with fail
    refine H.out.mono ?_
    rintro e w1 ⟨rfl, hB⟩
    go_wp2
    go_ret2
    exact ⟨_, rfl, Sl.nil _, hB⟩

end Go.Proofs.Ytjnijhnphhpilaa
