/- Walks: the law DrumRound. -/
import Derived.Test.YtjnijhnphhpilaaLc
import Derived.Test.YtjnijhnphhpilaaRp
import Derived.Deep.QuietTactic
import Derived.BigQuiet
namespace Go.Proofs.Ytjnijhnphhpilaa
open Go.RowKit Go.Shelf

/-- the round of a valid drum of few places -/
theorem k_roundM {a1 a2 : Option Addr} {c1 c2 : Nat} {f g : List Int} {w : World} (hd : checkDrum f g = 0) (h12 : f.length ≤ 12) (hx : IntsAt w a1 f) (hy : IntsAt w a2 g) :
    Calls Try.prog 41 #[.agg #[.slice a1 f.length c1, .slice a2 g.length c2]] w fun e w' => ∃ b r : Nat, e = .returned (.tuple #[.int .i64 b, .int .i64 r, .int .i64 0]) ∧ TurnIs f g b r ∧ Below w.heap.size w w' := by
  refine (round_c a1 a2 c1 c2 f g w hx hy (by omega) (by have := (checkDrum_zero hd).1; omega)).mono fun e w' h => ?_
  obtain ⟨i, r, err, he, hr, hB⟩ := h
  rcases hr with ⟨h1, _⟩ | ⟨_, h2, _⟩ | ⟨_, _, rfl, a, b, rfl, rfl, ht⟩
  · exact absurd hd h1
  · omega
  · exact ⟨a, b, he, ht, hB⟩

/-- how many of the first plays are won -/
def wonF (f g : List Int) : Nat → Int
  | 0 => 0
  | k + 1 => wonF f g k + seqF f g k

theorem wonF_bd {f g : List Int} (hg : isBits g = true) : ∀ k : Nat, 0 ≤ wonF f g k ∧ wonF f g k ≤ k
  | 0 => ⟨Int.le_refl _, Int.le_refl _⟩
  | k + 1 => by
    have := wonF_bd (f := f) hg k
    have hb := seqF_bit (f := f) hg k
    unfold wonF
    omega

theorem wonF_zero {f g : List Int} (hg : isBits g = true) : ∀ {k : Nat}, wonF f g k = 0 → ∀ i, i < k → seqF f g i = 0
  | 0, _, i, hi => by omega
  | k + 1, h, i, hi => by
    have := wonF_bd (f := f) hg k
    have hb := seqF_bit (f := f) hg k
    unfold wonF at h
    by_cases e : i = k
    · subst e; omega
    · exact wonF_zero (k := k) hg (by omega) i (by omega)

section
variable {f g : List Int} (hl : f.length = g.length) (h6 : g.length ≤ 12) (hf : isBits f = true) (hg : isBits g = true)
include hl h6 hf hg

/-- where the last number of the feed counts, the beginning is 0 -/
theorem round_begin {b r : Nat} (ht : TurnIs f g b r) (hn : 0 < g.length) (hlast : nth f (g.length - 1) = 1) : b = 0 := by
  by_cases hb : b = 0
  · exact hb
  · exfalso
    refine round_early hl h6 ht (by omega) ?_
    have hs := round_same hl h6 ht
    -- what the plays behind say of the play itself
    have key : ∀ j, sq f g (j + g.length) = (xsum (g.length - 1) (fun i => bt f i && sq f g (j + g.length - 1 - i)) ^^ sq f g j) := by
      intro j
      have h1 := (gen_head (C := cf f) (L := f.length) (t := j + g.length) (s := sq f g) rfl).1 ((seq_gen hf hg hl (j + g.length + 1)).2 (j + g.length) (by omega) (by omega))
      rw [h1, hl]
      rw [show g.length = g.length - 1 + 1 from by omega, xsum]
      rw [show g.length - 1 + 1 - 1 = g.length - 1 from by omega]
      have e2 : cf f (g.length - 1 + 1) = true := by show bt f (g.length - 1) = true; unfold bt; exact decide_eq_true hlast
      rw [e2, Bool.true_and]
      congr 1
      congr 1
      omega
    have k1 := key (b - 1)
    have k2 := key (b - 1 + r)
    have hsq : ∀ i, b ≤ i → sq f g i = sq f g (i + r) := fun i hi => by unfold sq; rw [hs i hi]
    have e1 : sq f g (b - 1 + g.length) = sq f g (b - 1 + r + g.length) := by rw [hsq _ (by omega)]; congr 1; omega
    have e2 : xsum (g.length - 1) (fun i => bt f i && sq f g (b - 1 + g.length - 1 - i)) = xsum (g.length - 1) (fun i => bt f i && sq f g (b - 1 + r + g.length - 1 - i)) := by
      refine xsum_congr (fun i hi => ?_)
      rw [hsq (b - 1 + g.length - 1 - i) (by omega)]
      congr 2; omega
    rw [e1, k2, e2] at k1
    have e3 : sq f g (b - 1 + r) = sq f g (b - 1) := by
      cases h1 : sq f g (b - 1) <;> cases h2 : sq f g (b - 1 + r) <;> rw [h1, h2] at k1 <;> first | rfl | (generalize xsum (g.length - 1) (fun i => bt f i && sq f g (b - 1 + r + g.length - 1 - i)) = z at k1; cases z <;> cases k1)
    exact (bit_eq (seqF_bit hg _) (seqF_bit hg _) e3).symm

omit hf in
theorem round_nothing {b r : Nat} (ht : TurnIs f g b r) (hw : wonF f g 100 = 0) : b = 0 ∧ r = 1 := by
  have hz := wonF_zero hg hw
  have h01 : standAt f g 0 = standAt f g 1 := (stand_eq hl h6).2 (fun t ht => by rw [hz (0 + t) (by omega), hz (1 + t) (by omega)])
  have h2 : b + r ≤ 1 := by
    by_cases e : 1 < b + r
    · exact absurd h01 (ht.2.2 0 1 (by omega) e)
    · omega
  have := ht.1
  omega
end

end Go.Proofs.Ytjnijhnphhpilaa
