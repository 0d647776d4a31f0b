/- The values that the examples ask for. -/
import Derived.Test.YtjnijhnphhpilaaRoA
import Derived.Test.YtjnijhnphhpilaaWs
import Derived.Test.YtjnijhnphhpilaaWo
import Derived.Test.YtjnijhnphhpilaaWm
namespace Go.Proofs.Ytjnijhnphhpilaa
open Go.RowKit Go.Shelf

def dF : List Int := [0, 1, 1]
def dG : List Int := [0, 0, 1]
def sShort : List Int := [0, 0, 1, 0]
def sProof : List Int := proofR sRow

theorem wv1 : runR dF dG 10 = ([0, 0, 1, 0, 1, 1, 1, 0, 0, 1], 0) := by decide +kernel
theorem wv2 : runR dF dG 101 = ([], 2) := by decide +kernel
theorem wv3 : makesR dF dG sRow = 0 := by decide +kernel
theorem wv4 : makesR [1] [1] sRow = 25 := by decide +kernel
theorem wv5 : checkRow sRow = 0 := by decide +kernel
theorem wv6 : placesR sRow = 3 := by decide +kernel
theorem wv7 : profR sRow = [0, 0, 0, 3, 3, 3, 3, 3] := by decide +kernel
theorem wv8 : rdDrum (rdAll sRow) = (dF, dG) := by decide +kernel
theorem wv9 : countR sRow = 1 := by decide +kernel
theorem wv10 : countR sShort = 4 := by decide +kernel
theorem wv10' : checkRow sShort = 0 := by decide +kernel
theorem wv11 : nextR sRow 3 = [0, 0, 1] := by decide +kernel
theorem wv12 : nextErr sRow 3 = 0 := by decide +kernel
theorem wv13 : nextErr sShort 1 = 25 := by decide +kernel
theorem wv13' : nextR sShort 1 = [] := by decide +kernel
theorem wv14 : proofCheck sRow 2 [2] = 0 := by decide +kernel
theorem wv15 : proofCheck sRow 2 [3] = 14 := by decide +kernel
theorem wv16 : proofErr sRow = 0 := by decide +kernel
theorem wv17 : proofErr [0, 0, 0] = 5 := by decide +kernel
theorem wv17' : proofR [0, 0, 0] = [] := by decide +kernel
theorem wv18 : proofCheck sRow 2 sProof = 0 := by decide +kernel
theorem wv19 : togErr [1] [1] dF dG = 0 := by decide +kernel
theorem wv20 : togFeed [1] [1] dF dG = [1, 1, 0, 1] := by decide +kernel
theorem wv21 : togFirst [1] [1] dF dG = [1, 1, 0, 1] := by decide +kernel
theorem sProof_len : sProof.length ≤ 1000000 := by decide +kernel

def apartB (f g : List Int) (n : Nat) : Bool := (List.range n).all fun j => (List.range j).all fun i => decide (standAt f g i ≠ standAt f g j)
theorem apartB_of {f g : List Int} {n : Nat} (h : apartB f g n = true) : Apart f g n := by
  intro i j hij hj
  unfold apartB at h
  rw [List.all_eq_true] at h
  have h1 := h j (List.mem_range.2 hj)
  rw [List.all_eq_true] at h1
  exact of_decide_eq_true (h1 i (List.mem_range.2 hij))

theorem turnD : TurnIs dF dG 0 7 := ⟨by omega, by decide +kernel, apartB_of (by decide +kernel)⟩
theorem turnE : TurnIs [1, 0] [0, 1] 1 1 := ⟨by omega, by decide +kernel, apartB_of (by decide +kernel)⟩
theorem turnA : TurnIs [1] [1] 0 1 := ⟨by omega, by decide +kernel, apartB_of (by decide +kernel)⟩
theorem roundD : RoundIs dF dG 0 7 0 := .inr (.inr ⟨by decide +kernel, by decide, rfl, 0, 7, rfl, rfl, turnD⟩)
theorem roundE : RoundIs [1, 0] [0, 1] 1 1 0 := .inr (.inr ⟨by decide +kernel, by decide, rfl, 1, 1, rfl, rfl, turnE⟩)
theorem roundA : RoundIs [1] [1] 0 1 0 := .inr (.inr ⟨by decide +kernel, by decide, rfl, 0, 1, rfl, rfl, turnA⟩)

end Go.Proofs.Ytjnijhnphhpilaa
