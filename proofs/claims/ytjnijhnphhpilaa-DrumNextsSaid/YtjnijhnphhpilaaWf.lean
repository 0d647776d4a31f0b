/- Walks: drum.Run, drum.Makes. -/
import Derived.Test.YtjnijhnphhpilaaWe
import Derived.Test.YtjnijhnphhpilaaWc
namespace Go.Proofs.Ytjnijhnphhpilaa
open Go.RowKit Go.Shelf

/-- v is a slice of ints that reads xs -/
def Sl (w : World) (v : Value) (xs : List Int) : Prop := ∃ a cap, v = .slice a xs.length cap ∧ IntsAt w a xs ∧ (a = none → cap = 0)

theorem Sl.nil (w : World) : Sl w (.slice none 0 0) [] := ⟨none, 0, rfl, .inl rfl, fun _ => rfl⟩
theorem Sl.of_new {B : Nat} {w : World} {xs : List Int} {v : Value} (h : NewInts B w xs v) : Sl w v xs := by
  obtain ⟨b, cap, rfl, ho⟩ := h
  exact ⟨_, cap, rfl, IntsAt.of_owns ho, fun h => by cases h⟩
theorem Sl.mono {w w' : World} {v : Value} {xs : List Int} (h : Sl w v xs) (hB : Below w.heap.size w w') : Sl w' v xs := by
  obtain ⟨a, cap, rfl, h, hn⟩ := h
  exact ⟨a, cap, rfl, h.mono hB, hn⟩

def Ret2 (w : World) (xs : List Int) (err : Int) (e : Ending) (w' : World) : Prop :=
  ∃ v, e = .returned (.tuple #[v, .int .i64 err]) ∧ Sl w' v xs ∧ Below w.heap.size w w'

theorem checkDrum_zero {f g : List Int} (h : checkDrum f g = 0) : f.length = g.length ∧ g.length ≤ 40 ∧ isBits f = true ∧ isBits g = true := by
  unfold checkDrum at h
  by_cases h1 : 40 < f.length ∨ 40 < g.length
  · rw [if_pos h1] at h; cases h
  · rw [if_neg h1] at h
    by_cases h2 : f.length = g.length
    · rw [if_neg (by simp [h2])] at h
      by_cases h3 : isBits f && isBits g
      · simp at h3; exact ⟨h2, by omega, h3.1, h3.2⟩
      · rw [if_neg h3] at h; cases h
    · rw [if_pos h2] at h; cases h

/-- the first plays of a drum, or the error -/
def runR (f g : List Int) (plays : Int) : List Int × Int :=
  if checkDrum f g ≠ 0 then ([], checkDrum f g) else if 0 ≤ plays ∧ plays ≤ 100 then (playsF f g plays.toNat, 0) else ([], 2)

theorem within1 (lo hi n : Int) : within lo hi [n] = decide (lo ≤ n ∧ n ≤ hi) := by
  unfold within; simp [Bool.decide_and]

set_option maxRecDepth 100000 in
set_option maxHeartbeats 1000000 in
theorem Run_c (a1 a2 : Option Addr) (c1 c2 : Nat) (plays : Int) (f g : List Int) (w : World) (hx : IntsAt w a1 f) (hy : IntsAt w a2 g) (hb : f.length ≤ 1000000) (hb2 : g.length ≤ 1000000) :
    Calls Try.prog 18 #[.agg #[.slice a1 f.length c1, .slice a2 g.length c2], .int .i64 plays] w (Ret2 w (runR f g plays).1 (runR f g plays).2) := by
  have B0 := (Below.refl w.heap.size w).alloc (Nat.le_refl _) (.cells #[.slice a1 f.length c1, .slice a2 g.length c2] 24)
  have H1 := hid (checkDrum_c a1 a2 c1 c2 f g _ (hx.mono B0) (hy.mono B0) hb hb2)
  have HB0 := hid B0; have Hx := hid hx; have Hy := hid hy
  clear B0 hx hy
  by_cases hc : checkDrum f g = 0
  · rw [hc] at H1
    obtain ⟨hl, hlen, hf, hg⟩ := checkDrum_zero hc
    have Hrun := fun (w' : World) (many : Nat) (hm : many ≤ 1000) (h : Below w.heap.size w w') => hid (run_c a1 a2 c1 c2 many f g w' (Hx.out.mono h) (Hy.out.mono h) hl hlen hm hf hg)
    have HHrun := hid Hrun
    have Hc := hid hc
    clear Hrun hl hf hg hc
    by_cases hp : 0 ≤ plays ∧ plays ≤ 100
    · have hr : runR f g plays = (playsF f g plays.toNat, 0) := by unfold runR; rw [if_neg (by simp [Hc.out]), if_pos hp]
      rw [hr]
      obtain ⟨n, rfl⟩ := Int.eq_ofNat_of_zero_le hp.1
      have hwi : within 0 100 [(n : Int)] = true := by rw [within1]; simpa using hp
      have Hwi := hid hwi
      clear hr hwi
      simp only [Int.toNat_natCast]
      go_enter Try.func18, Try.ntmps18
      go_wp2_with fail
      refine H1.out.mono ?_
      rintro e w1 ⟨rfl, hB1⟩
      have c0 := cstep (p := ⟨w.heap.size, 0, none⟩) (v := .slice a1 f.length c1) (by simp) hB1
      have c1' := cstep (p := ⟨w.heap.size, 1, none⟩) (v := .slice a2 g.length c2) (by simp) hB1
      have HB1 := hid (bstep HB0.out hB1); clear hB1
      go_wp2_with fail
      have B1 := (Below.refl w1.heap.size w1).alloc (Nat.le_refl _) (.cells #[.int .i64 n] 3)
      refine (within_c _ _ 0 100 [(n : Int)] _ (intsAt_new w1 [(n : Int)] _ 3 rfl) (by simp)).mono ?_
      rw [Hwi.out]
      rintro e w2 ⟨rfl, hB2⟩
      have c0' := cstep c0 (bstep B1 hB2)
      have c1'' := cstep c1' (bstep B1 hB2)
      have HB2 := hid (bstep HB1.out (bstep B1 hB2)); clear hB2 B1
      go_wp2_with fail
      refine (HHrun.out w2 n (by omega) HB2.out).out.mono ?_
      rintro e w3 ⟨v, rfl, hv, hB3⟩
      have Hv := hid (Sl.of_new hv); have HB3 := hid hB3
      clear hv hB3
      go_wp2
      go_ret2
      exact ⟨v, rfl, Hv.out, bstep HB2.out HB3.out⟩
    · have hr : runR f g plays = ([], 2) := by unfold runR; rw [if_neg (by simp [Hc.out]), if_neg hp]
      rw [hr]
      have hwi : within 0 100 [plays] = false := by rw [within1]; simpa using hp
      have Hwi := hid hwi
      clear hr hwi hp HHrun
      go_enter Try.func18, Try.ntmps18
      go_wp2_with fail
      refine H1.out.mono ?_
      rintro e w1 ⟨rfl, hB1⟩
      have HB1 := hid (bstep HB0.out hB1); clear hB1
      go_wp2_with fail
      have B1 := (Below.refl w1.heap.size w1).alloc (Nat.le_refl _) (.cells #[.int .i64 plays] 3)
      refine (within_c _ _ 0 100 [plays] _ (intsAt_new w1 [plays] _ 3 rfl) (by simp)).mono ?_
      rw [Hwi.out]
      rintro e w2 ⟨rfl, hB2⟩
      have HB2 := hid (bstep HB1.out (bstep B1 hB2)); clear hB2 B1
      go_wp2
      go_ret2
      exact ⟨_, rfl, Sl.nil _, HB2.out⟩
  · have hr : runR f g plays = ([], checkDrum f g) := by unfold runR; rw [if_pos hc]
    rw [hr]
    have hcb : (checkDrum f g != 0) = true := by simpa using hc
    clear hr hc
    generalize checkDrum f g = c at *
    go_enter Try.func18, Try.ntmps18
    go_wp2_with fail
    refine H1.out.mono ?_
    rintro e w1 ⟨rfl, hB1⟩
    have HB1 := hid (bstep HB0.out hB1); clear hB1
    go_wp2
    go_ret2
    exact ⟨_, rfl, Sl.nil _, HB1.out⟩

/-- whether a drum makes a row: the error -/
def makesR (f g row : List Int) : Int :=
  if checkDrum f g ≠ 0 then checkDrum f g else if checkRow row ≠ 0 then checkRow row else if playsF f g row.length = row then 0 else 25

theorem checkRow_zero {r : List Int} (h : checkRow r = 0) : r.length ≤ 40 ∧ isBits r = true := by
  unfold checkRow at h
  by_cases h1 : 40 < r.length
  · rw [if_pos h1] at h; cases h
  · rw [if_neg h1] at h
    cases hb : isBits r
    · rw [hb] at h; cases h
    · exact ⟨by omega, rfl⟩

set_option maxRecDepth 100000 in
set_option maxHeartbeats 1000000 in
theorem makes_c (a1 a2 a3 : Option Addr) (c1 c2 c3 : Nat) (f g row : List Int) (w : World) (hx : IntsAt w a1 f) (hy : IntsAt w a2 g) (hz : IntsAt w a3 row) (hb : f.length ≤ 1000000) (hb2 : g.length ≤ 1000000) (hb3 : row.length ≤ 1000000) :
    Calls Try.prog 25 #[.agg #[.slice a1 f.length c1, .slice a2 g.length c2], .slice a3 row.length c3] w fun e w' => e = .returned (.int .i64 (makesR f g row)) ∧ Below w.heap.size w w' := by
  have B0 := (Below.refl w.heap.size w).alloc (Nat.le_refl _) (.cells #[.slice a1 f.length c1, .slice a2 g.length c2] 24)
  have H1 := hid (checkDrum_c a1 a2 c1 c2 f g _ (hx.mono B0) (hy.mono B0) hb hb2)
  have HB0 := hid B0; have Hx := hid hx; have Hy := hid hy; have Hz := hid hz
  clear B0 hx hy hz
  by_cases hc : checkDrum f g = 0
  · rw [hc] at H1
    obtain ⟨hl, hlen, hf, hg⟩ := checkDrum_zero hc
    have HHrun := hid fun (w' : World) (many : Nat) (hm : many ≤ 1000) (h : Below w.heap.size w w') => run_c a1 a2 c1 c2 many f g w' (Hx.out.mono h) (Hy.out.mono h) hl hlen hm hf hg
    have Hc := hid hc
    clear hl hf hg hc
    have H2 := hid fun (w' : World) (h : Below w.heap.size w w') => checkRow_c a3 c3 row w' (Hz.out.mono h) hb3
    by_cases hr : checkRow row = 0
    · rw [hr] at H2
      have hrl := (checkRow_zero hr).1
      have Hr := hid hr; clear hr
      have h1 : ∃ d : Bool, d = decide (playsF f g row.length = row) := ⟨_, rfl⟩
      obtain ⟨d, hd⟩ := h1
      have hres : makesR f g row = if d then 0 else 25 := by unfold makesR; rw [if_neg (by simp [Hc.out]), if_neg (by simp [Hr.out]), hd]; simp
      have Hres := hid hres; have Hd := hid hd; clear hres hd
      go_enter Try.func25, Try.ntmps25
      go_wp2_with fail
      refine H1.out.mono ?_
      rintro e w1 ⟨rfl, hB1⟩
      have c0 := cstep (p := ⟨w.heap.size, 0, none⟩) (v := .slice a1 f.length c1) (by simp) hB1
      have c1' := cstep (p := ⟨w.heap.size, 1, none⟩) (v := .slice a2 g.length c2) (by simp) hB1
      have HB1 := hid (bstep HB0.out hB1); clear hB1
      go_wp2_with fail
      refine (H2.out w1 HB1.out).mono ?_
      rintro e w2 ⟨rfl, hB2⟩
      have c0' := cstep c0 hB2
      have c1'' := cstep c1' hB2
      have HB2 := hid (bstep HB1.out hB2); clear hB2
      go_wp2_with fail
      refine (HHrun.out w2 row.length (by omega) HB2.out).mono ?_
      rintro e w3 ⟨v, rfl, hv, hB3⟩
      have hv3 := Sl.of_new hv
      have HB3 := hid (bstep HB2.out hB3)
      clear hv hB3
      obtain ⟨av, cv, rfl, hat, _⟩ := hv3
      have H4 := hid (equal_c av a3 cv c3 (playsF f g row.length) row w3 hat (Hz.out.mono HB3.out) (by rw [playsF_length]; omega) hb3)
      clear hat
      rw [← Hd.out] at H4
      go_wp2_with fail
      refine H4.out.mono ?_
      rintro e w4 ⟨rfl, hB4⟩
      have HB4 := hid (bstep HB3.out hB4); clear hB4 H4
      cases d with
      | true =>
        go_wp2
        go_ret
        exact ⟨ret_int (by rw [Hres.out]; rfl), HB4.out⟩
      | false =>
        go_wp2
        go_ret
        exact ⟨ret_int (by rw [Hres.out]; rfl), HB4.out⟩
    · have hres : makesR f g row = checkRow row := by unfold makesR; rw [if_neg (by simp [Hc.out]), if_pos hr]
      rw [hres]
      have hcb : (checkRow row != 0) = true := by simpa using hr
      clear hr hres HHrun
      generalize checkRow row = c at *
      go_enter Try.func25, Try.ntmps25
      go_wp2_with fail
      refine H1.out.mono ?_
      rintro e w1 ⟨rfl, hB1⟩
      have HB1 := hid (bstep HB0.out hB1); clear hB1
      go_wp2_with fail
      refine (H2.out w1 HB1.out).mono ?_
      rintro e w2 ⟨rfl, hB2⟩
      have HB2 := hid (bstep HB1.out hB2); clear hB2
      go_wp2
      go_ret
      exact ⟨rfl, HB2.out⟩
  · have hr : makesR f g row = checkDrum f g := by unfold makesR; rw [if_pos hc]
    rw [hr]
    have hcb : (checkDrum f g != 0) = true := by simpa using hc
    clear hr hc
    generalize checkDrum f g = c at *
    go_enter Try.func25, Try.ntmps25
    go_wp2_with fail
    refine H1.out.mono ?_
    rintro e w1 ⟨rfl, hB1⟩
    have HB1 := hid (bstep HB0.out hB1); clear hB1
    go_wp2
    go_ret
    exact ⟨rfl, HB1.out⟩

end Go.Proofs.Ytjnijhnphhpilaa
