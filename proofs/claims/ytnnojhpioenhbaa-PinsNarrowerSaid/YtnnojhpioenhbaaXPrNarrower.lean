/- The law PinsNarrower: whatever the input, it returns true, and what it was handed reads as it did. No condition. -/
import Derived.Test.YtnnojhpioenhbaaXJd
import Derived.Test.YtnnojhpioenhbaaKN
import Derived.Test.YtnnojhpioenhbaaXLn
namespace Go.Proofs.Ytnnojhpioenhbaa
open Go.ChangeShapes Go.WideShapes Go.ChangeAt Go.RowKit

set_option maxRecDepth 100000 in
set_option maxHeartbeats 1000000 in
theorem pinsNarrower_lifted (os : Os) (started : os.Started) (H : Type) (enc : TypeId × Value → H) :
    ReturnsInHanded {} Try.checked os 10 .any (Rows.pinsNarrowerSpec.pre6 enc Try.prog Try.f10 Rows.pinsNarrowerRow.domain false) (Rows.pinsNarrowerSpec.post enc Try.prog Try.f10 false true false false) := by
  refine returnsInHanded_of_change (C := Try.checked) ownT started (by kernel_rfl) Try.func10
    (ChangeSpec.witness6 (enc := enc) (C := Try.checked) false ⟨#[], #[.agg #[.slice none 0 0, .slice none 0 0], .agg #[.slice none 0 0, .slice none 0 0], .bool false, .int .u8 0, .int .u8 0, .int .u16 0, .int .u16 0], []⟩ 8 (by kernel_rfl) (by kernel_rfl) (by kernel_rfl) (by kernel_rfl)) ?_
  intro W base args ds gs before hval0 hW _ _
  have hval : ∀ (j : Nat) t v, Try.f10.params[j]? = some t → args[j]? = some v → Value.okWide Try.prog W .any base t v := hval0
  have hW' := hW
  obtain ⟨p, q, hA0, hV, rfl, _, _⟩ := hW
  have hA : DataW.TrodAll enc Try.prog W 0 (fun _ => true) true Try.f10.params.toList args.toList ds p := hA0
  rw [Try.params10] at hA hval
  obtain ⟨v0, v1, v2, v3, v4, v5, v6, d0, d1, d2, d3, d4, d5, d6, p0, p1, p2, p3, p4, p5, p6, rfl, rfl, rfl, h0, h1, h2, h3, h4, h5, h6⟩ := trodAll_seven hA
  obtain ⟨rfl, rfl⟩ := trodVars_none hV
  clear hA0 hval0 hA
  simp only [List.append_nil] at hW'
  obtain ⟨pa, pc, ya, yc, B, rfl, ib, ⟨pn, pm⟩, yn, ym⟩ := arg25 (hval 0 25 v0 rfl rfl) h0
  obtain ⟨la, lc, sa, sc, R, rfl, ir, ⟨ln, lm⟩, sn, sm⟩ := arg51 (hval 1 51 v1 rfl rfl) h1
  obtain ⟨n2, rfl⟩ := argb (hval 2 4 v2 rfl rfl) h2
  obtain ⟨n3, rfl, w3⟩ := arg5 (hval 3 5 v3 rfl rfl) h3
  obtain ⟨n4, rfl, w4⟩ := arg5 (hval 4 5 v4 rfl rfl) h4
  obtain ⟨n5, rfl, w5⟩ := arg75 (hval 5 75 v5 rfl rfl) h5
  obtain ⟨n6, rfl, w6⟩ := arg75 (hval 6 75 v6 rfl rfl) h6
  refine (pinsNarrower_c pa pc ya yc la lc sa sc B R n2 n3 n4 n5 n6 W works_c ib ir ln lm sn sm w3 w4 w5 w6).mono fun e W' ⟨he, hB⟩ => ?_
  subst he
  have hlt : ∀ x ∈ (p0 ++ (p1 ++ (p2 ++ (p3 ++ (p4 ++ (p5 ++ p6)))))), x.block < W.heap.size := fun x hx => by simpa using hW'.lt x (by simpa using hx)
  refine ⟨_, rfl, _, _, _, [], (p0 ++ (p1 ++ (p2 ++ (p3 ++ (p4 ++ (p5 ++ p6)))))), [], hW', ?_, ?_, rfl, hB.frame _, fun h => by cases h⟩
  · exact trodAll_mk1 (shut_bool Try.underlying4 true)
  · exact trodAll_mk7 (Below.trod laidT (by kernel_rfl) (of_decide_eq_true (by kernel_rfl)) h0 hB (fun x hx => hlt x (by simp [hx]))) (Below.trod laidT (by kernel_rfl) (of_decide_eq_true (by kernel_rfl)) h1 hB (fun x hx => hlt x (by simp [hx]))) (Below.trod laidT (by kernel_rfl) (of_decide_eq_true (by kernel_rfl)) h2 hB (fun x hx => hlt x (by simp [hx]))) (Below.trod laidT (by kernel_rfl) (of_decide_eq_true (by kernel_rfl)) h3 hB (fun x hx => hlt x (by simp [hx]))) (Below.trod laidT (by kernel_rfl) (of_decide_eq_true (by kernel_rfl)) h4 hB (fun x hx => hlt x (by simp [hx]))) (Below.trod laidT (by kernel_rfl) (of_decide_eq_true (by kernel_rfl)) h5 hB (fun x hx => hlt x (by simp [hx]))) (Below.trod laidT (by kernel_rfl) (of_decide_eq_true (by kernel_rfl)) h6 hB (fun x hx => hlt x (by simp [hx])))

/-- PinsNarrower: for every input true; the input reads as it did. -/
theorem pinsNarrower_holds : Rows.PinsNarrowerSaid :=
  OpenClaim.holds_of_wide 10 Try.f10 rfl rfl rfl rfl rfl rfl rfl ⟨rfl, rfl, rfl, rfl, rfl⟩ rfl rfl rfl rfl rfl (by kernel_rfl) Try.func10 (by kernel_rfl)
    (of_decide_eq_true (by kernel_rfl)) (by unfold Func.isWrapper; first | (rw [if_pos (by decide +kernel)]; kernel_rfl) | (rw [if_neg (by decide +kernel)]; exact ⟨rfl, rfl⟩))
    (fun os started H enc _ => pinsNarrower_lifted os started H enc)

#print axioms pinsNarrower_holds

end Go.Proofs.Ytnnojhpioenhbaa
