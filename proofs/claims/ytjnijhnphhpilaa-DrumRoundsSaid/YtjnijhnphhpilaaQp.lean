/- RoundOf, plain: the stand of a drum as a number; the list of what was seen. -/
import Derived.Test.YtjnijhnphhpilaaRp
namespace Go.Proofs.Ytjnijhnphhpilaa
open Go.RowKit

def sb (f g : List Int) (t : Nat) : Nat := (seqF f g t).toNat
/-- the plays from j on, k of them, as a number -/
def wn (f g : List Int) (j : Nat) : Nat → Nat
  | 0 => 0
  | k + 1 => 2 * wn f g j k + sb f g (j + k)

section
variable {f g : List Int}

theorem sb_le (hg : isBits g = true) (t : Nat) : sb f g t ≤ 1 := by unfold sb; rcases seqF_bit (f := f) hg t with h | h <;> rw [h] <;> decide
theorem sb_int (hg : isBits g = true) (t : Nat) : (sb f g t : Int) = seqF f g t := by unfold sb; rcases seqF_bit (f := f) hg t with h | h <;> rw [h] <;> rfl

theorem wn_lt (hg : isBits g = true) (j : Nat) : ∀ k, wn f g j k < 2 ^ k
  | 0 => by simp [wn]
  | k + 1 => by have := wn_lt hg j k; have := sb_le (f := f) hg (j + k); rw [wn, Nat.pow_succ]; omega

theorem wn_shift (j : Nat) : ∀ k, wn f g j (k + 1) = sb f g j * 2 ^ k + wn f g (j + 1) k
  | 0 => by simp [wn]
  | k + 1 => by
    have ih := wn_shift j k
    rw [wn, ih, wn, Nat.pow_succ, show j + 1 + k = j + (k + 1) from by omega]
    have : sb f g j * (2 ^ k * 2) = 2 * (sb f g j * 2 ^ k) := by rw [← Nat.mul_assoc, Nat.mul_comm]
    omega

theorem wn_next (hg : isBits g = true) (j n : Nat) : (2 * wn f g j n + sb f g (j + n)) % 2 ^ n = wn f g (j + 1) n := by
  have h := wn_shift (f := f) (g := g) j n
  rw [wn] at h
  rw [h, Nat.mul_comm, Nat.mul_add_mod, Nat.mod_eq_of_lt (wn_lt hg _ _)]

theorem wn_bit (hg : isBits g = true) (j : Nat) : ∀ n k, k < n → wn f g j n / 2 ^ k % 2 = sb f g (j + n - 1 - k)
  | n + 1, 0, _ => by
    have := sb_le (f := f) hg (j + n)
    rw [wn, show j + (n + 1) - 1 - 0 = j + n from by omega]; omega
  | n + 1, k + 1, h => by
    have := sb_le (f := f) hg (j + n)
    rw [Nat.pow_succ, Nat.mul_comm, ← Nat.div_div_eq_div_mul, wn, show (2 * wn f g j n + sb f g (j + n)) / 2 = wn f g j n from by omega, wn_bit hg j n k (by omega)]
    congr 1; omega

theorem wn_inj (hg : isBits g = true) {i j n : Nat} (h : wn f g i n = wn f g j n) : ∀ t, t < n → seqF f g (i + t) = seqF f g (j + t) := by
  intro t ht
  have h1 := wn_bit (f := f) hg i n (n - 1 - t) (by omega)
  have h2 := wn_bit (f := f) hg j n (n - 1 - t) (by omega)
  rw [h, h2] at h1
  rw [show i + n - 1 - (n - 1 - t) = i + t from by omega, show j + n - 1 - (n - 1 - t) = j + t from by omega] at h1
  rw [← sb_int hg, ← sb_int hg, h1]

theorem wn_congr {i j : Nat} : ∀ n, (∀ t, t < n → seqF f g (i + t) = seqF f g (j + t)) → wn f g i n = wn f g j n
  | 0, _ => rfl
  | n + 1, h => by rw [wn, wn, wn_congr n (fun t ht => h t (by omega))]; unfold sb; rw [h n (by omega)]

theorem stand_wn (h12 : g.length ≤ 12) (hl : f.length = g.length) (hg : isBits g = true) {i j : Nat} : standAt f g i = standAt f g j ↔ wn f g i g.length = wn f g j g.length := by
  rw [stand_eq hl h12]
  exact ⟨fun h => wn_congr _ h, fun h => wn_inj hg h⟩

/-- the sum that gives the next play, over the first places -/
def nx (f g : List Int) (j n : Nat) : Nat → Int
  | 0 => 0
  | k + 1 => nx f g j n k + nth f k * ((wn f g j n / 2 ^ k % 2 : Nat) : Int)

theorem nx_le (hf : isBits f = true) (j n : Nat) : ∀ k, 0 ≤ nx f g j n k ∧ nx f g j n k ≤ k
  | 0 => by simp [nx]
  | k + 1 => by
    have := nx_le hf j n k
    have h2 : wn f g j n / 2 ^ k % 2 < 2 := by omega
    obtain ⟨v, hv⟩ : ∃ v, v = wn f g j n / 2 ^ k % 2 := ⟨_, rfl⟩
    rw [nx, ← hv]
    rw [← hv] at h2
    rcases isBits_nth hf k with h | h <;> rw [h] <;> omega

theorem nx_mod (hg : isBits g = true) (j n : Nat) : ∀ k, k ≤ n → nx f g j n k % 2 = linTo f (playsF f g (j + n)) k
  | 0, _ => rfl
  | k + 1, h => by
    have ih := nx_mod hg j n k (by omega)
    rw [nx, linTo, ← ih, wn_bit hg j n k (by omega), playsF_length, nth_seq f g (by omega), sb_int hg]
    omega

theorem seq_next (hl : f.length = g.length) (j : Nat) : seqF f g (j + g.length) = linTo f (playsF f g (j + g.length)) g.length := by
  unfold seqF playNext
  rw [playsF_length, if_neg (by omega), hl]

theorem wn_step (hg : isBits g = true) (hl : f.length = g.length) (j : Nat) :
    (2 * (wn f g j g.length : Int) + nx f g j g.length g.length % 2) % ((2 ^ g.length : Nat) : Int) = (wn f g (j + 1) g.length : Int) := by
  rw [nx_mod hg j g.length g.length (Nat.le_refl _), ← seq_next hl, ← sb_int hg]
  rw [← wn_next (f := f) hg j g.length]; rfl

/-- what was seen -/
def sl (f g : List Int) (n : Nat) : Nat → List Int
  | 0 => List.replicate (2 ^ n) 0
  | p + 1 => (sl f g n p).set (wn f g p n) ((p : Int) + 1)

theorem sl_length (f g : List Int) (n : Nat) : ∀ p, (sl f g n p).length = 2 ^ n
  | 0 => by simp [sl]
  | p + 1 => by rw [sl, List.length_set, sl_length f g n p]

theorem sl_new (hg : isBits g = true) {n x : Nat} (hx : x < 2 ^ n) : ∀ {p : Nat}, (∀ i, i < p → wn f g i n ≠ x) → nth (sl f g n p) x = 0
  | 0, _ => by rw [sl, nth_rep]
  | p + 1, h => by rw [sl, nth_set, sl_length, if_neg (fun e => h p (by omega) e.1), sl_new hg hx (fun i hi => h i (by omega))]

theorem sl_old (hg : isBits g = true) {n i : Nat} : ∀ {p : Nat}, i < p → (∀ j k, j < k → k < p → wn f g j n ≠ wn f g k n) → nth (sl f g n p) (wn f g i n) = (i : Int) + 1
  | p + 1, h, ha => by
    rw [sl, nth_set, sl_length]
    by_cases e : i = p
    · subst e; rw [if_pos ⟨rfl, wn_lt hg _ _⟩]
    · rw [if_neg (fun k => ha i p (by omega) (by omega) k.1.symm), sl_old hg (by omega) (fun j k h1 h2 => ha j k h1 (by omega))]

theorem apart_wn (h12 : g.length ≤ 12) (hl : f.length = g.length) (hg : isBits g = true) {p : Nat} (h : Apart f g p) : ∀ j k, j < k → k < p → wn f g j g.length ≠ wn f g k g.length :=
  fun j k h1 h2 e => h j k h1 h2 ((stand_wn h12 hl hg).2 e)

/-- the play at which a stand comes again -/
theorem round_found (h12 : g.length ≤ 12) (hl : f.length = g.length) (hg : isBits g = true) {p : Nat} (h : Apart f g p) (hp : 0 < nth (sl f g g.length p) (wn f g p g.length)) :
    ∃ i, i < p ∧ nth (sl f g g.length p) (wn f g p g.length) = (i : Int) + 1 ∧ TurnIs f g i (p - i) := by
  have hex : ∃ i, i < p ∧ wn f g i g.length = wn f g p g.length := Classical.byContradiction fun hn => by
    rw [sl_new hg (wn_lt hg _ _) (fun i hi e => hn ⟨i, hi, e⟩)] at hp
    omega
  obtain ⟨i, hi, e⟩ := hex
  refine ⟨i, hi, ?_, by omega, ?_, ?_⟩
  · rw [← e, sl_old hg hi (apart_wn h12 hl hg h)]
  · rw [show i + (p - i) = p from by omega]; exact (stand_wn h12 hl hg).2 e
  · rw [show i + (p - i) = p from by omega]; exact h

theorem round_goes (h12 : g.length ≤ 12) (hl : f.length = g.length) (hg : isBits g = true) {p : Nat} (h : Apart f g p) (hp : ¬ 0 < nth (sl f g g.length p) (wn f g p g.length)) : Apart f g (p + 1) := by
  intro i j hij hj
  by_cases e : j = p
  · subst e
    intro he
    rw [← (stand_wn h12 hl hg).1 he, sl_old hg hij (apart_wn h12 hl hg h)] at hp
    omega
  · exact h i j hij (by omega)

end
end Go.Proofs.Ytjnijhnphhpilaa
