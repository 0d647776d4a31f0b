/- The values that the examples ask for, and their calls. -/
import Derived.Test.YtjnijhnphhpilaaRoA
import Derived.Test.YtjnijhnphhpilaaWs
import Derived.Test.YtjnijhnphhpilaaWo
import Derived.Test.YtjnijhnphhpilaaWm
namespace Go.Proofs.Ytjnijhnphhpilaa

section
open Go.RowKit Go.Shelf

def dF : List Int := [0, 1, 1]
def dG : List Int := [0, 0, 1]
def sShort : List Int := [0, 0, 1, 0]
def sProof : List Int := proofR sRow

theorem wv1 : runR dF dG 10 = ([0, 0, 1, 0, 1, 1, 1, 0, 0, 1], 0) := by decide +kernel
theorem wv2 : runR dF dG 101 = ([], 2) := by decide +kernel
theorem wv3 : makesR dF dG sRow = 0 := by decide +kernel
theorem wv4 : makesR [1] [1] sRow = 25 := by decide +kernel
theorem wv5 : checkRow sRow = 0 := by decide +kernel
theorem wv6 : placesR sRow = 3 := by decide +kernel
theorem wv7 : profR sRow = [0, 0, 0, 3, 3, 3, 3, 3] := by decide +kernel
theorem wv8 : rdDrum (rdAll sRow) = (dF, dG) := by decide +kernel
theorem wv9 : countR sRow = 1 := by decide +kernel
theorem wv10 : countR sShort = 4 := by decide +kernel
theorem wv10' : checkRow sShort = 0 := by decide +kernel
theorem wv11 : nextR sRow 3 = [0, 0, 1] := by decide +kernel
theorem wv12 : nextErr sRow 3 = 0 := by decide +kernel
theorem wv13 : nextErr sShort 1 = 25 := by decide +kernel
theorem wv13' : nextR sShort 1 = [] := by decide +kernel
theorem wv14 : proofCheck sRow 2 [2] = 0 := by decide +kernel
theorem wv15 : proofCheck sRow 2 [3] = 14 := by decide +kernel
theorem wv16 : proofErr sRow = 0 := by decide +kernel
theorem wv17 : proofErr [0, 0, 0] = 5 := by decide +kernel
theorem wv17' : proofR [0, 0, 0] = [] := by decide +kernel
theorem wv18 : proofCheck sRow 2 sProof = 0 := by decide +kernel
theorem wv19 : togErr [1] [1] dF dG = 0 := by decide +kernel
theorem wv20 : togFeed [1] [1] dF dG = [1, 1, 0, 1] := by decide +kernel
theorem wv21 : togFirst [1] [1] dF dG = [1, 1, 0, 1] := by decide +kernel
theorem sProof_len : sProof.length ≤ 1000000 := by decide +kernel

def apartB (f g : List Int) (n : Nat) : Bool := (List.range n).all fun j => (List.range j).all fun i => decide (standAt f g i ≠ standAt f g j)
theorem apartB_of {f g : List Int} {n : Nat} (h : apartB f g n = true) : Apart f g n := by
  intro i j hij hj
  unfold apartB at h
  rw [List.all_eq_true] at h
  have h1 := h j (List.mem_range.2 hj)
  rw [List.all_eq_true] at h1
  exact of_decide_eq_true (h1 i (List.mem_range.2 hij))

theorem turnD : TurnIs dF dG 0 7 := ⟨by omega, by decide +kernel, apartB_of (by decide +kernel)⟩
theorem turnE : TurnIs [1, 0] [0, 1] 1 1 := ⟨by omega, by decide +kernel, apartB_of (by decide +kernel)⟩
theorem turnA : TurnIs [1] [1] 0 1 := ⟨by omega, by decide +kernel, apartB_of (by decide +kernel)⟩
theorem roundD : RoundIs dF dG 0 7 0 := .inr (.inr ⟨by decide +kernel, by decide, rfl, 0, 7, rfl, rfl, turnD⟩)
theorem roundE : RoundIs [1, 0] [0, 1] 1 1 0 := .inr (.inr ⟨by decide +kernel, by decide, rfl, 1, 1, rfl, rfl, turnE⟩)
theorem roundA : RoundIs [1] [1] 0 1 0 := .inr (.inr ⟨by decide +kernel, by decide, rfl, 0, 1, rfl, rfl, turnA⟩)
end

section
open Go.RowKit Go.Shelf

def aF : List Int := [1]
def eF : List Int := [1, 0]
def eG : List Int := [0, 1]
def l10 : List Int := [0, 0, 1, 0, 1, 1, 1, 0, 0, 1]
def l0 : List Int := []
def l8 : List Int := [0, 0, 0, 3, 3, 3, 3, 3]
def l3 : List Int := [0, 0, 1]
def l4 : List Int := [1, 1, 0, 1]
def k2 : List Int := [2]
def k3 : List Int := [3]
def k000 : List Int := [0, 0, 0]

/-- a list and an error -/
def RetL (w : World) (xs : List Int) (err : Int) (e : Ending) (w' : World) : Prop :=
  ∃ a c, e = .returned (.tuple #[.slice a xs.length c, .int .i64 err]) ∧ IntsAt w' a xs ∧ Below w.heap.size w w'
/-- a drum -/
def RetD (w : World) (f g : List Int) (e : Ending) (w' : World) : Prop :=
  ∃ a1 a2 c1 c2, e = .returned (.agg #[.slice a1 f.length c1, .slice a2 g.length c2]) ∧ IntsAt w' a1 f ∧ IntsAt w' a2 g ∧ Below w.heap.size w w'
/-- a drum and an error -/
def RetE (w : World) (f g : List Int) (err : Int) (e : Ending) (w' : World) : Prop :=
  ∃ a1 a2 c1 c2, e = .returned (.tuple #[.agg #[.slice a1 f.length c1, .slice a2 g.length c2], .int .i64 err]) ∧ IntsAt w' a1 f ∧ IntsAt w' a2 g ∧ Below w.heap.size w w'

theorem RetL.of {w : World} {xs ys : List Int} {err err' : Int} (h1 : xs = ys) (h2 : err = err') {e : Ending} {w' : World} (h : Ret2 w xs err e w') : RetL w ys err' e w' := by
  subst h1; subst h2
  obtain ⟨v, rfl, ⟨a, c, rfl, hi, _⟩, hB⟩ := h
  exact ⟨a, c, rfl, hi, hB⟩
theorem RetD.of {w : World} {f g : List Int} {e : Ending} {w' : World} (h : DrumP w f g e w') : RetD w f g e w' := by
  obtain ⟨_, rfl, ⟨_, _, rfl, ⟨a1, c1, rfl, h1, n1⟩, ⟨a2, c2, rfl, h2, n2⟩⟩, hB⟩ := h
  exact ⟨a1, a2, c1, c2, rfl, h1, h2, hB⟩

section
variable (w : World)
theorem k_row : Calls Try.prog 51 #[] w fun e w' => ∃ a c, e = .returned (.slice a sRow.length c) ∧ IntsAt w' a sRow ∧ Below w.heap.size w w' :=
  (row_c w).mono fun _ _ ⟨_, h, ⟨a, c, hv, hi, _⟩, hB⟩ => ⟨a, c, by rw [h, hv], hi, hB⟩
theorem k_three : Calls Try.prog 54 #[] w (RetD w dF dG) := (three_c w).mono fun _ _ h => RetD.of h
theorem k_one : Calls Try.prog 52 #[] w (RetD w aF aF) := (one_c w).mono fun _ _ h => RetD.of h
theorem k_late : Calls Try.prog 55 #[] w (RetD w eF eG) := (late_c w).mono fun _ _ h => RetD.of h
variable {w} {a1 a2 a3 a4 : Option Addr} {c1 c2 c3 c4 : Nat}
theorem k_run10 (h1 : IntsAt w a1 dF) (h2 : IntsAt w a2 dG) : Calls Try.prog 18 #[.agg #[.slice a1 dF.length c1, .slice a2 dG.length c2], .int .i64 10] w (RetL w l10 0) :=
  (Run_c a1 a2 c1 c2 10 dF dG w h1 h2 (by decide) (by decide)).mono fun _ _ h => RetL.of (by rw [wv1]; rfl) (by rw [wv1]) h
theorem k_run101 (h1 : IntsAt w a1 dF) (h2 : IntsAt w a2 dG) : Calls Try.prog 18 #[.agg #[.slice a1 dF.length c1, .slice a2 dG.length c2], .int .i64 101] w (RetL w l0 2) :=
  (Run_c a1 a2 c1 c2 101 dF dG w h1 h2 (by decide) (by decide)).mono fun _ _ h => RetL.of (by rw [wv2]; rfl) (by rw [wv2]) h
theorem k_makes1 (h1 : IntsAt w a1 dF) (h2 : IntsAt w a2 dG) (h3 : IntsAt w a3 sRow) : Calls Try.prog 25 #[.agg #[.slice a1 dF.length c1, .slice a2 dG.length c2], .slice a3 sRow.length c3] w fun e w' => e = .returned (.int .i64 0) ∧ Below w.heap.size w w' :=
  (makes_c a1 a2 a3 c1 c2 c3 dF dG sRow w h1 h2 h3 (by decide) (by decide) (by decide)).mono fun _ _ h => ⟨by rw [h.1, wv3], h.2⟩
theorem k_makes2 (h1 : IntsAt w a1 aF) (h2 : IntsAt w a2 aF) (h3 : IntsAt w a3 sRow) : Calls Try.prog 25 #[.agg #[.slice a1 aF.length c1, .slice a2 aF.length c2], .slice a3 sRow.length c3] w fun e w' => e = .returned (.int .i64 25) ∧ Below w.heap.size w w' :=
  (makes_c a1 a2 a3 c1 c2 c3 aF aF sRow w h1 h2 h3 (by decide) (by decide) (by decide)).mono fun _ _ h => ⟨by rw [h.1, show makesR aF aF sRow = 25 from wv4], h.2⟩
theorem k_places (h : IntsAt w a1 sRow) : Calls Try.prog 27 #[.slice a1 sRow.length c1] w fun e w' => e = .returned (.tuple #[.int .i64 3, .int .i64 0]) ∧ Below w.heap.size w w' :=
  (places_c a1 c1 sRow w h (by decide)).mono fun _ _ h => ⟨by rw [h.1, wv5, wv6], h.2⟩
theorem k_profile (h : IntsAt w a1 sRow) : Calls Try.prog 29 #[.slice a1 sRow.length c1] w (RetL w l8 0) :=
  (profile_c a1 c1 sRow w h (by decide)).mono fun _ _ h => RetL.of (by rw [wv7]; rfl) wv5 h
theorem k_shortest (h : IntsAt w a1 sRow) : Calls Try.prog 33 #[.slice a1 sRow.length c1] w (RetE w dF dG 0) := by
  refine (shortest_c a1 c1 sRow w h (by decide)).mono fun e w' h => ?_
  obtain ⟨v, rfl, hB, ⟨_, _, rfl, hs1, hs2⟩⟩ := h
  rw [if_pos wv5, wv8] at hs1 hs2
  obtain ⟨b1, d1, rfl, i1, _⟩ := hs1
  obtain ⟨b2, d2, rfl, i2, _⟩ := hs2
  exact ⟨b1, b2, d1, d2, by rw [wv5], i1, i2, hB⟩
theorem k_count1 (h : IntsAt w a1 sRow) : Calls Try.prog 31 #[.slice a1 sRow.length c1] w fun e w' => e = .returned (.tuple #[.int .i64 1, .int .i64 0]) ∧ Below w.heap.size w w' :=
  (count_c a1 c1 sRow w h (by decide)).mono fun _ _ h => ⟨by rw [h.1, wv5, wv9], h.2⟩
theorem k_count2 (h : IntsAt w a1 sShort) : Calls Try.prog 31 #[.slice a1 4 c1] w fun e w' => e = .returned (.tuple #[.int .i64 4, .int .i64 0]) ∧ Below w.heap.size w w' :=
  (count_c a1 c1 sShort w h (by decide)).mono fun _ _ h => ⟨by rw [h.1, wv10', wv10], h.2⟩
theorem k_next1 (h : IntsAt w a1 sRow) : Calls Try.prog 34 #[.slice a1 sRow.length c1, .int .i64 3] w (RetL w l3 0) :=
  (next_c a1 c1 sRow 3 w h (by decide)).mono fun _ _ h => RetL.of (by rw [wv11]; rfl) wv12 h
theorem k_next2 (h : IntsAt w a1 sShort) : Calls Try.prog 34 #[.slice a1 4 c1, .int .i64 1] w (RetL w l0 25) :=
  (next_c a1 c1 sShort 1 w h (by decide)).mono fun _ _ h => RetL.of (by rw [wv13']; rfl) wv13 h
theorem k_check1 (h : IntsAt w a1 sRow) (h2 : IntsAt w a2 k2) : Calls Try.prog 38 #[.slice a1 sRow.length c1, .int .i64 2, .slice a2 1 c2] w fun e w' => e = .returned (.int .i64 0) ∧ Below w.heap.size w w' :=
  (checkProof_c a1 a2 c1 c2 2 sRow k2 w h h2 (by decide) (by decide)).mono fun _ _ h => ⟨by rw [h.1, show proofCheck sRow 2 k2 = 0 from wv14], h.2⟩
theorem k_check2 (h : IntsAt w a1 sRow) (h2 : IntsAt w a2 k3) : Calls Try.prog 38 #[.slice a1 sRow.length c1, .int .i64 2, .slice a2 1 c2] w fun e w' => e = .returned (.int .i64 14) ∧ Below w.heap.size w w' :=
  (checkProof_c a1 a2 c1 c2 2 sRow k3 w h h2 (by decide) (by decide)).mono fun _ _ h => ⟨by rw [h.1, show proofCheck sRow 2 k3 = 14 from wv15], h.2⟩
theorem k_proof1 (h : IntsAt w a1 sRow) : Calls Try.prog 36 #[.slice a1 sRow.length c1] w (RetL w sProof 0) :=
  (proof_c a1 c1 sRow w h (by decide)).mono fun _ _ h => RetL.of rfl wv16 h
theorem k_proof2 (h : IntsAt w a1 k000) : Calls Try.prog 36 #[.slice a1 3 c1] w (RetL w l0 5) :=
  (proof_c a1 c1 k000 w h (by decide)).mono fun _ _ h => RetL.of (by rw [show proofR k000 = l0 from wv17']) wv17 h
theorem k_round1 (h1 : IntsAt w a1 dF) (h2 : IntsAt w a2 dG) : Calls Try.prog 41 #[.agg #[.slice a1 dF.length c1, .slice a2 dG.length c2]] w fun e w' => e = .returned (.tuple #[.int .i64 0, .int .i64 7, .int .i64 0]) ∧ Below w.heap.size w w' :=
  (round_c a1 a2 c1 c2 dF dG w h1 h2 (by decide) (by decide)).mono fun _ _ ⟨i, r, err, he, hr, hB⟩ => by
    obtain ⟨rfl, rfl, rfl⟩ := hr.unique roundD
    exact ⟨he, hB⟩
theorem k_round2 (h1 : IntsAt w a1 eF) (h2 : IntsAt w a2 eG) : Calls Try.prog 41 #[.agg #[.slice a1 eF.length c1, .slice a2 eG.length c2]] w fun e w' => e = .returned (.tuple #[.int .i64 1, .int .i64 1, .int .i64 0]) ∧ Below w.heap.size w w' :=
  (round_c a1 a2 c1 c2 eF eG w h1 h2 (by decide) (by decide)).mono fun _ _ ⟨i, r, err, he, hr, hB⟩ => by
    obtain ⟨rfl, rfl, rfl⟩ := hr.unique roundE
    exact ⟨he, hB⟩
theorem k_round3 (h1 : IntsAt w a1 aF) (h2 : IntsAt w a2 aF) : Calls Try.prog 41 #[.agg #[.slice a1 aF.length c1, .slice a2 aF.length c2]] w fun e w' => e = .returned (.tuple #[.int .i64 0, .int .i64 1, .int .i64 0]) ∧ Below w.heap.size w w' :=
  (round_c a1 a2 c1 c2 aF aF w h1 h2 (by decide) (by decide)).mono fun _ _ ⟨i, r, err, he, hr, hB⟩ => by
    obtain ⟨rfl, rfl, rfl⟩ := hr.unique roundA
    exact ⟨he, hB⟩
theorem k_together (h1 : IntsAt w a1 aF) (h2 : IntsAt w a2 aF) (h3 : IntsAt w a3 dF) (h4 : IntsAt w a4 dG) :
    Calls Try.prog 43 #[.agg #[.slice a1 aF.length c1, .slice a2 aF.length c2], .agg #[.slice a3 dF.length c3, .slice a4 dG.length c4]] w (RetE w l4 l4 0) := by
  refine (together_c a1 a2 a3 a4 c1 c2 c3 c4 aF aF dF dG w h1 h2 h3 h4 (by decide) (by decide) (by decide) (by decide)).mono fun e w' h => ?_
  obtain ⟨v, rfl, hB, ⟨_, _, rfl, hs1, hs2⟩⟩ := h
  rw [show togFeed aF aF dF dG = l4 from wv20] at hs1
  rw [show togFirst aF aF dF dG = l4 from wv21] at hs2
  obtain ⟨b1, d1, rfl, i1, _⟩ := hs1
  obtain ⟨b2, d2, rfl, i2, _⟩ := hs2
  exact ⟨b1, b2, d1, d2, by rw [show togErr aF aF dF dG = 0 from wv19], i1, i2, hB⟩
theorem k_ints {xs : List Int} {n : Nat} (hn : n = xs.length) (hl : xs.length ≤ 1000000) (h1 : IntsAt w a1 xs) (h2 : IntsAt w a2 xs) : Calls Try.prog 24 #[.slice a1 xs.length c1, .slice a2 n c2] w fun e w' => e = .returned (.bool true) ∧ Below w.heap.size w w' := by
  subst hn
  exact (ints_c a1 a2 c1 c2 xs xs w h1 h2 hl hl).mono fun _ _ h => ⟨by rw [h.1]; simp, h.2⟩
theorem k_same {f g : List Int} (hl : f.length ≤ 1000000) (hl2 : g.length ≤ 1000000) (h1 : IntsAt w a1 f) (h2 : IntsAt w a2 g) (h3 : IntsAt w a3 f) (h4 : IntsAt w a4 g) :
    Calls Try.prog 45 #[.agg #[.slice a1 f.length c1, .slice a2 g.length c2], .agg #[.slice a3 f.length c3, .slice a4 g.length c4]] w fun e w' => e = .returned (.bool true) ∧ Below w.heap.size w w' :=
  (same_c a1 a2 a3 a4 c1 c2 c3 c4 f g f g w h1 h2 h3 h4 hl hl2 hl hl2).mono fun _ _ h => ⟨by rw [h.1]; simp, h.2⟩
theorem k_rCheck (h : IntsAt w a1 sRow) (h2 : IntsAt w a2 sProof) : Calls Try.prog 39 #[.slice a1 sRow.length c1, .int .i64 2, .slice a2 sProof.length c2] w fun e w' => e = .returned (.int .i64 0) ∧ Below w.heap.size w w' :=
  (rCheckProof_c a1 a2 c1 c2 2 sRow sProof w h h2 (by decide) sProof_len).mono fun _ _ h => ⟨by rw [h.1, wv18], h.2⟩
theorem k_shift (h1 : IntsAt w a1 l4) (h2 : IntsAt w a2 l4) (n1 : a1 ≠ none) (n2 : a2 ≠ none) : Calls Try.prog 56 #[.slice a1 4 c1, .slice a2 4 c2] w (RetD w l4 l4) :=
  (shift_c (.slice a1 l4.length c1) (.slice a2 l4.length c2) l4 l4 w ⟨a1, c1, rfl, h1, fun h => absurd h n1⟩ ⟨a2, c2, rfl, h2, fun h => absurd h n2⟩).mono fun _ _ h => RetD.of h
end
end

end Go.Proofs.Ytjnijhnphhpilaa
