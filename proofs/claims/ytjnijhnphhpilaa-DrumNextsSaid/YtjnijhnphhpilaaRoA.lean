/- Walks: Round. -/
import Derived.Test.YtjnijhnphhpilaaWv
namespace Go.Proofs.Ytjnijhnphhpilaa
open Go.RowKit Go.Shelf

theorem TurnIs.unique {f g : List Int} {i r j s : Nat} (h : TurnIs f g i r) (k : TurnIs f g j s) : i = j ∧ r = s := by
  obtain ⟨h1, h2, h3⟩ := h
  obtain ⟨k1, k2, k3⟩ := k
  have e : i + r = j + s := by
    rcases Nat.lt_trichotomy (i + r) (j + s) with h | h | h
    · exact absurd h2 (k3 i (i + r) (by omega) h)
    · exact h
    · exact absurd k2 (h3 j (j + s) (by omega) h)
  have e2 : i = j := by
    rcases Nat.lt_trichotomy i j with h | h | h
    · have : standAt f g i = standAt f g j := by rw [h2, k2, e]
      exact absurd this (h3 i j h (by omega))
    · exact h
    · have : standAt f g j = standAt f g i := by rw [h2, k2, e]
      exact absurd this (k3 j i h (by omega))
  exact ⟨e2, by omega⟩

/-- what Round answers -/
def RoundIs (f g : List Int) (i r err : Int) : Prop :=
  (checkDrum f g ≠ 0 ∧ i = 0 ∧ r = 0 ∧ err = checkDrum f g) ∨ (checkDrum f g = 0 ∧ 12 < f.length ∧ i = 0 ∧ r = 0 ∧ err = 6) ∨
    (checkDrum f g = 0 ∧ f.length ≤ 12 ∧ err = 0 ∧ ∃ a b : Nat, i = a ∧ r = b ∧ TurnIs f g a b)

theorem RoundIs.unique {f g : List Int} {i r err i' r' err' : Int} (h : RoundIs f g i r err) (k : RoundIs f g i' r' err') : i = i' ∧ r = r' ∧ err = err' := by
  rcases h with ⟨h1, rfl, rfl, rfl⟩ | ⟨h1, h2, rfl, rfl, rfl⟩ | ⟨h1, h2, rfl, a, b, rfl, rfl, ht⟩ <;>
    rcases k with ⟨k1, rfl, rfl, rfl⟩ | ⟨k1, k2, rfl, rfl, rfl⟩ | ⟨k1, k2, rfl, c, d, rfl, rfl, kt⟩ <;>
    first
    | exact ⟨rfl, rfl, rfl⟩
    | contradiction
    | omega
    | (obtain ⟨rfl, rfl⟩ := ht.unique kt; exact ⟨rfl, rfl, rfl⟩)

def RoundP (w : World) (f g : List Int) (e : Ending) (w' : World) : Prop :=
  ∃ i r err : Int, e = .returned (.tuple #[.int .i64 i, .int .i64 r, .int .i64 err]) ∧ RoundIs f g i r err ∧ Below w.heap.size w w'

set_option maxRecDepth 100000 in
set_option maxHeartbeats 1000000 in
theorem round_c (a1 a2 : Option Addr) (c1 c2 : Nat) (f g : List Int) (w : World) (hx : IntsAt w a1 f) (hy : IntsAt w a2 g) (hb : f.length ≤ 1000000) (hb2 : g.length ≤ 1000000) :
    Calls Try.prog 41 #[.agg #[.slice a1 f.length c1, .slice a2 g.length c2]] w (RoundP w f g) := by
  have B0 := (Below.refl w.heap.size w).alloc (Nat.le_refl _) (.cells #[.slice a1 f.length c1, .slice a2 g.length c2] 24)
  have H1 := hid (checkDrum_c a1 a2 c1 c2 f g _ (hx.mono B0) (hy.mono B0) hb hb2)
  have HB0 := hid B0; have Hx := hid hx; have Hy := hid hy
  clear B0 hx hy
  by_cases hc : checkDrum f g = 0
  · rw [hc] at H1
    obtain ⟨hl, hlen, hf, hg⟩ := checkDrum_zero hc
    have Hc := hid hc; have Hl := hid hl; have Hf := hid hf; have Hg := hid hg
    clear hl hf hg hc
    by_cases h12 : f.length ≤ 12
    · have HHrun := hid fun (w' : World) (h : Below w.heap.size w w') => turn_c a1 a2 c1 c2 f g w' (Hx.out.mono h) (Hy.out.mono h) Hf.out Hg.out Hl.out (by have := Hl.out; omega)
      go_enter Try.func41, Try.ntmps41
      go_wp2_with fail
      refine H1.out.mono ?_
      rintro e w1 ⟨rfl, hB1⟩
      have c0 := cstep (p := ⟨w.heap.size, 0, none⟩) (v := .slice a1 f.length c1) (by simp) hB1
      have c1' := cstep (p := ⟨w.heap.size, 1, none⟩) (v := .slice a2 g.length c2) (by simp) hB1
      have HB1 := hid (bstep HB0.out hB1); clear hB1
      go_wp2_with fail
      refine (HHrun.out w1 HB1.out).mono ?_
      rintro e w2 ⟨i, r, rfl, ht, hB2⟩
      have Ht := hid ht; have HB2 := hid (bstep HB1.out hB2)
      clear ht hB2
      go_wp2
      go_ret3
      exact ⟨i, r, 0, rfl, .inr (.inr ⟨Hc.out, h12, rfl, i, r, rfl, rfl, Ht.out⟩), HB2.out⟩
    · go_enter Try.func41, Try.ntmps41
      go_wp2_with fail
      refine H1.out.mono ?_
      rintro e w1 ⟨rfl, hB1⟩
      have c0 := cstep (p := ⟨w.heap.size, 0, none⟩) (v := .slice a1 f.length c1) (by simp) hB1
      have c1' := cstep (p := ⟨w.heap.size, 1, none⟩) (v := .slice a2 g.length c2) (by simp) hB1
      have HB1 := hid (bstep HB0.out hB1); clear hB1
      go_wp2
      go_ret3
      exact ⟨0, 0, 6, rfl, .inr (.inl ⟨Hc.out, by omega, rfl, rfl, rfl⟩), HB1.out⟩
  · have hcb : (checkDrum f g != 0) = true := by simpa using hc
    have Hc := hid hc
    clear hc
    obtain ⟨c, hcc⟩ : ∃ c, c = checkDrum f g := ⟨_, rfl⟩
    rw [← hcc] at H1 hcb
    have Hcc := hid hcc
    clear hcc
    go_enter Try.func41, Try.ntmps41
    go_wp2_with fail
    refine H1.out.mono ?_
    rintro e w1 ⟨rfl, hB1⟩
    have HB1 := hid (bstep HB0.out hB1); clear hB1
    go_wp2
    go_ret3
    exact ⟨0, 0, c, rfl, .inl ⟨Hc.out, rfl, rfl, Hcc.out⟩, HB1.out⟩

end Go.Proofs.Ytjnijhnphhpilaa
