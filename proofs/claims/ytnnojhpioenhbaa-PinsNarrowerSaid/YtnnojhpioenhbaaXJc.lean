/- Helper of the laws: one pay is another one, taken times, and with more. -/
import Derived.Test.YtnnojhpioenhbaaXJb
import Derived.Test.YtnnojhpioenhbaaXQe
import Derived.Test.YtnnojhpioenhbaaKE
namespace Go.Proofs.Ytnnojhpioenhbaa
open Go.RowKit Go.Shelf

section
variable (x y : Int × Int) (t m : Int) (w : World)
set_option maxRecDepth 100000 in
set_option maxHeartbeats 4000000 in
theorem equal_c (hx : payB x = true) (hy : payB y = true) (he : EqQ t m x y) (ht : 1 ≤ t ∧ t ≤ 5) (hm : 0 ≤ m ∧ m ≤ 255) :
    Calls Try.prog 58 #[.agg #[.int .i64 x.1, .int .i64 x.2], .agg #[.int .i64 y.1, .int .i64 y.2], .int .i64 t, .int .i64 m] w (TellB w true) := by
  obtain ⟨V, hV, hB0, k0, k1, k2, k3⟩ := box2 w (.int .i64 x.1) (.int .i64 x.2) (.int .i64 y.1) (.int .i64 y.2) 32 32
  have HB0 := hid hB0; have HV := hid hV
  obtain ⟨⟨⟨a1, a2⟩, a3⟩, a4⟩ := payB_iff.1 hx
  obtain ⟨⟨⟨b1, b2⟩, b3⟩, b4⟩ := payB_iff.1 hy
  obtain ⟨h1, h2, h3⟩ := he
  have H1 := hid fun s : Later V => isPay_c x s.w'
  have H2 := hid fun s : Later V => isPay_c y s.w'
  have H3 := hid fun s : Later V => least_c x.1 x.2 s.w' (by omega) (by omega) (by omega) (by omega)
  have H4 := hid fun s : Later V => least_c y.1 y.2 s.w' (by omega) (by omega) (by omega) (by omega)
  have m1 : 0 ≤ y.1 * t ∧ y.1 * t ≤ 250000000000 := ⟨Int.mul_nonneg b3 (by omega), by have := Int.mul_le_mul (show y.1 ≤ 50000000000 by omega) ht.2 (by omega) (by omega); omega⟩
  have m2 : 0 ≤ m * y.2 ∧ m * y.2 ≤ 25500000000 := ⟨Int.mul_nonneg hm.1 (by omega), by have := Int.mul_le_mul hm.2 b2 (by omega) (by omega); omega⟩
  obtain ⟨p, hp⟩ : ∃ p, p = y.1 * t := ⟨_, rfl⟩
  obtain ⟨q, hq⟩ : ∃ p, p = m * y.2 := ⟨_, rfl⟩
  have e1 : IntKind.i64.wrap (y.1 * t) = p := by rw [hp]; exact wrap_i64_of (by omega) (by omega)
  have e2 : IntKind.i64.wrap (m * y.2) = q := by rw [hq]; exact wrap_i64_of (by omega) (by omega)
  rw [← hp, ← hq] at h3
  rw [← hp] at m1
  rw [← hq] at m2
  have e3 : IntKind.i64.wrap (p + q) = p + q := wrap_i64_of (by omega) (by omega)
  have H5 := hid fun s : Later V => least_c (p + q) y.2 s.w' (by omega) (by omega) (by omega) (by omega)
  rw [hx] at H1
  rw [hy] at H2
  rw [h1] at H3
  rw [h2] at H4
  rw [h3] at H5
  unfold TellB at *
  have j0 := fun s : Later V => cstep k0 s.h
  have j1 := fun s : Later V => cstep k1 s.h
  have j2 := fun s : Later V => cstep k2 s.h
  have j3 := fun s : Later V => cstep k3 s.h
  obtain ⟨xn, xd⟩ := x
  obtain ⟨yn, yd⟩ := y
  simp only at *
  clear hV hB0 hx hy a1 a2 a3 a4 b1 b2 b3 b4 h1 h2 h3 m1 m2 hp hq ht hm k0 k1 k2 k3
  go_enter Try.func58, Try.ntmps58
  go_upto_region 1 with (fail)
  rw [← HV.out]
  refine wp_region_later (by kernel_rfl) (by kernel_rfl) ?_
  repeat (go_big_quiet_step ((first | (go_at_call 55; with_reducible exact callsLater (H1.out _)) | (go_at_call 55; with_reducible exact callsLater (H2.out _)) | (go_at_call 101; with_reducible exact callsLater (H3.out _)) | (go_at_call 101; with_reducible exact callsLater (H4.out _)) | (go_at_call 101; with_reducible exact callsLater (H5.out _)))))
  refine wpQuiet_nil ?_
  rintro w1 ⟨⟨_, hB⟩, rfl⟩
  have HB1 := hid hB
  clear hB j0 j1 j2 j3
  go_wp2
  go_ret
  exact ⟨rfl, bstep HB0.out HB1.out⟩
end

end Go.Proofs.Ytnnojhpioenhbaa
