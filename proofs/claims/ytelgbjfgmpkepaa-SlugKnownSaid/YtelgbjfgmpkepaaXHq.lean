/- What each call of SlugKnown hands back. -/
import Derived.Test.YtelgbjfgmpkepaaKR
namespace Go.Proofs.Ytelgbjfgmpkepaa
open Go.RowKit Go.Shelf

theorem x_k1 : knErr ⟨[0, 0], false⟩ = 5 := by decide +kernel
theorem x_k2 : knErr ⟨[0, 0], true⟩ = 0 := by decide +kernel
theorem x_cw : kwErr kthree [1, -1, 0] = 0 := by decide +kernel
theorem x_r : resVal kthree [1, -1, 0] (2, 1) = 0 ∧ resErr kthree [1, -1, 0] (2, 1) = 0 := by decide +kernel
theorem x_l : (lnVal kfour [1, -1, 0, 0] 0).cop = [0, 0, 3, 3] ∧ (lnVal kfour [1, -1, 0, 0] 0).none = true ∧ lnErr kfour [1, -1, 0, 0] 0 = 0 := by decide +kernel
theorem x_n : nd 1000 (cntOf kgood) = 2 := by
  have h : nd 99 (cntOf kgood) = 2 := by decide +kernel
  rw [nd1000 (by decide +kernel) (by decide +kernel), h]; rfl
theorem x_e : neVal kgood = 2 ∧ neErr kgood = 0 := by
  have h : knErr kgood = 0 := by decide +kernel
  unfold neVal neErr; rw [if_pos h, if_pos h, x_n]; exact ⟨rfl, rfl⟩
theorem x_af : afVal kgood [1, -1, 0] = 1 ∧ afErr kgood [1, -1, 0] = 0 := by
  have h := rafE_same kgood [1, -1, 0]
  rw [← h.1, ← h.2]
  decide +kernel
theorem x_al : (alO kthree [[1, -1, 0]]).getD ((0, 0), (0, 0)) = ((0, 0), (0, 0)) ∧ alErr kthree [[1, -1, 0]] = 5 := by decide +kernel
set_option maxRecDepth 100000 in
set_option maxHeartbeats 1000000 in
theorem makes_lit_0033 (dst : Option Tmp) (ty : TypeId) (pos : String) (after : Array Edge) (gd : Option (Nat × Bool)) (A : Act) (s : World) :
    makesOp Try.prog { dst := dst, op := .buildSlice 22 4 #[(0, .const (.int .i64 0)), (1, .const (.int .i64 0)), (2, .const (.int .i64 3)), (3, .const (.int .i64 3))], type := ty, pos := pos, after := after, guard := gd } A s fun v s' => Below s.heap.size s s' ∧ ListV [0, 0, 3, 3] v s' := by
  unfold makesOp
  simp [go_sem]
  exact ⟨bnew _ _, _, rfl, intsAt_new s [0, 0, 3, 3] _ 3 rfl⟩
section
variable {q b1 b2 b3 b4 : Nat} {w : World} (H : SEx w q b1 b2 b3 b4)
include H
theorem y_cw (a : Option Addr) (h : IntsAt w a [1, -1, 0]) (hn : a = none → 3 = 0) : Calls Try.prog 26 #[.agg #[.slice (some ⟨b2, 0, none⟩) 3 3, .bool false], .slice a 3 3] w (TellI w 0) := by
  have h := checkWeighing_c (some ⟨b2, 0, none⟩) 3 kthree a 3 [1, -1, 0] w H.li (by decide) h (by decide) hn
  rw [x_cw] at h
  exact h
theorem y_r (a : Option Addr) (h : IntsAt w a [1, -1, 0]) (hn : a = none → 3 = 0) : Calls Try.prog 22 #[.agg #[.slice (some ⟨b2, 0, none⟩) 3 3, .bool false], .slice a 3 3, .agg #[.int .i64 2, .int .i64 1]] w (TellIE w 0 0) := by
  have h := result_22 (some ⟨b2, 0, none⟩) 3 kthree a 3 [1, -1, 0] (2, 1) w H.li (by decide) h (by decide) hn
  rw [x_r.1, x_r.2] at h
  exact h
theorem y_l (a : Option Addr) (h : IntsAt w a [1, -1, 0, 0]) (hn : a = none → 4 = 0) : Calls Try.prog 24 #[.agg #[.slice (some ⟨b1, 0, none⟩) 4 4, .bool true], .slice a 4 4, .int .i64 0] w (LnC w ⟨[0, 0, 3, 3], true⟩ 0) := by
  have h := learned_24 (some ⟨b1, 0, none⟩) 4 kfour a 4 [1, -1, 0, 0] 0 w H.ki (by decide) h (by decide) hn
  have e : lnVal kfour [1, -1, 0, 0] 0 = ⟨[0, 0, 3, 3], true⟩ := by
    have := x_l
    generalize lnVal kfour [1, -1, 0, 0] 0 = C at this ⊢
    obtain ⟨x, y⟩ := C
    simp only at this
    rw [this.1, this.2.1]
  rw [e, x_l.2.2] at h
  exact h
theorem y_n : Calls Try.prog 38 #[.agg #[.slice (some ⟨b4, 0, none⟩) 3 3, .bool false]] w (TellIE w 2 0) := by
  have h := needed_38 (some ⟨b4, 0, none⟩) 3 kgood w H.ni (by decide)
  rw [x_e.1, x_e.2] at h
  exact h
theorem y_af (a : Option Addr) (h : IntsAt w a [1, -1, 0]) (hn : a = none → 3 = 0) : Calls Try.prog 40 #[.agg #[.slice (some ⟨b4, 0, none⟩) 3 3, .bool false], .slice a 3 3] w (TellIE w 1 0) := by
  have h := after_40 (some ⟨b4, 0, none⟩) 3 kgood a 3 [1, -1, 0] w H.ni (by decide) h (by decide) hn
  rw [x_af.1, x_af.2] at h
  exact h
theorem y_nx : Calls Try.prog 42 #[.agg #[.slice (some ⟨b3, 0, none⟩) 2 2, .bool false]] w (fun e w' => e = .returned (.tuple #[.slice none 0 0, .int .i64 21]) ∧ Below w.heap.size w w') := by
  refine (next_42 (some ⟨b3, 0, none⟩) 2 ktwo w H.mi (by decide)).mono ?_
  rintro e w' ⟨hb, _, hB⟩
  have h0 : nxErr ktwo = 21 := by unfold nxErr; rw [w_e3.1, w_e3.2]; rfl
  have := hb (by rw [h0]; decide)
  rw [h0] at this
  exact ⟨this, hB⟩
theorem y_al (a : Option Addr) (h : RowsAt w a [[1, -1, 0]]) : Calls Try.prog 30 #[.agg #[.slice (some ⟨b2, 0, none⟩) 3 3, .bool false], .slice a 1 1] w fun e w' => e = .returned (.tuple #[.agg #[.int .i64 0, .int .i64 0], .agg #[.int .i64 0, .int .i64 0], .int .i64 5]) ∧ Below w.heap.size w w' := by
  have h := alike_30 (some ⟨b2, 0, none⟩) 3 kthree a 1 [[1, -1, 0]] w H.li (by decide) h (by decide) (by decide)
  unfold AlC at h
  rw [x_al.1, x_al.2] at h
  exact h
end

end Go.Proofs.Ytelgbjfgmpkepaa
