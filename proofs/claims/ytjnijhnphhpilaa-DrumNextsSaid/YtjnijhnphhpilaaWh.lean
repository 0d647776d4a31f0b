/- Walks: odd. -/
import Derived.Test.YtjnijhnphhpilaaOdd
import Derived.Test.YtjnijhnphhpilaaApp
import Derived.Test.YtjnijhnphhpilaaAgg
namespace Go.Proofs.Ytjnijhnphhpilaa
open Go.RowKit Go.Shelf

set_option maxRecDepth 100000 in
set_option maxHeartbeats 1000000 in
theorem odd1_c (bs br cap places : Nat) (a : Option Addr) (own row : List Int) (play : Int) (w : World) (hpl : w.cell? ⟨bs, 82, none⟩ = some (.int .i64 places)) (hown : ∀ k, k < 82 → w.cell? ⟨bs, k, none⟩ = some (.int .i64 (nth own k)))
    (hrow : w.cell? ⟨br, 0, none⟩ = some (.slice a row.length cap)) (hat : IntsAt w a row) (hle : places ≤ row.length) (hle2 : places ≤ 81) (hb : row.length ≤ 1000) (ho : isBits own = true) (hr : isBits row = true) (hp : play = 0 ∨ play = 1) :
    Calls Try.prog 84 #[.int .i64 play, .pointer (some ⟨bs, 0, none⟩), .pointer (some ⟨br, 0, none⟩)] w fun e w' => e = .returned (.int .i64 (oddTo own row play places)) ∧ Below w.heap.size w w' := by
  have Ho := hid ho; have Hr := hid hr; have Hp := hid hp; have Hat := hid hat; have Hown := hid hown
  clear ho hr hp hat hown
  go_enter Try.func84, Try.ntmps84
  go_wp2
  go_loopw [5, 6] (fun n i wr => ∃ k : Nat, k ≤ places ∧ i = .int .i64 ((k + 1 : Nat) : Int) ∧ n = .int .i64 (oddTo own row play k) ∧ Below w.heap.size w wr) (fun _ i _ => places + 1 - (intOf i).toNat)
  case atStart => exact ⟨0, Nat.zero_le _, rfl, rfl, Below.refl _ _⟩
  case round =>
    obtain ⟨k, hk, rfl, rfl, hB⟩ := hrel
    have hpl' := cstep hpl hB
    have hrow' := cstep hrow hB
    have HB := hid hB
    by_cases hlt : k < places
    · obtain ⟨b2, off2, rfl, hc2⟩ := (Hat.out.mono hB).at (k := row.length - (k + 1)) (by omega)
      have ho' := cstep (Hown.out (k + 1) (by omega)) hB
      have hstep : bits .xor .i64 (oddTo own row play k) (bits .and .i64 (nth own (k + 1)) (nth row (row.length - (k + 1)))) = oddTo own row play (k + 1) := by
        rw [and_bit (isBits_nth Ho.out _) (isBits_nth Hr.out _), xor_bit (oddTo_bit Hp.out _) (mul_bit (isBits_nth Ho.out _) (isBits_nth Hr.out _)), oddTo]
      have Hstep := hid hstep
      clear hstep hB
      go_wp2
      go_quiet (fail)
      go_wp2
      go_roundw
      case rel => exact ⟨k + 1, by omega, by go_num, by rw [Hstep.out], below_drewN HB.out _⟩
      case measure => simp [intOf]; omega
    · obtain rfl : k = places := by omega
      clear hB
      go_wp2
      go_ret
      exact ⟨rfl, HB.out⟩

set_option maxHeartbeats 400000 in
theorem odd_c (cs : Array Value) (a : Option Addr) (n cap : Nat) (w : World) :
    Calls Try.prog 79 #[.agg cs, .slice a n cap] w fun e w' => e = .returned (.func (.func 84) #[] #[.pointer (some ⟨w.heap.size, 0, none⟩), .pointer (some ⟨w.heap.size + 1, 0, none⟩)]) ∧ (w.alloc (.cells cs 73)).alloc (.cells #[.slice a n cap] 22) = w' := by
  go_enter Try.func79, Try.ntmps79
  go_wp2
  go_ret
  exact ⟨rfl, rfl⟩

end Go.Proofs.Ytjnijhnphhpilaa
