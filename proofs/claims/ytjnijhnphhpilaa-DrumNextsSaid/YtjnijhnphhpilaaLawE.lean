/- Walks: the law DrumProved. -/
import Derived.Test.YtjnijhnphhpilaaLb
import Derived.Test.YtjnijhnphhpilaaPp
namespace Go.Proofs.Ytjnijhnphhpilaa
open Go.RowKit Go.Shelf

theorem nilLen {w : World} {a : Option Addr} {cap : Nat} {xs : List Int} (hx : IntsAt w a xs) (hn : a = none → cap = 0) : a = none → xs.length = 0 ∧ cap = 0 := fun e => ⟨(by
    rcases hx with h | ⟨b, off, h, _⟩
    · rw [h]; rfl
    · exact absurd (h.symm.trans e) (by simp)), hn e⟩

/-- a shortest drum of a valid row -/
theorem k_short {a : Option Addr} {cap : Nat} {xs : List Int} {w : World} (hx : IntsAt w a xs) (hv : checkRow xs = 0) :
    Calls Try.prog 33 #[.slice a xs.length cap] w fun e w' => ∃ a1 a2 c1 c2, e = .returned (.tuple #[.agg #[.slice a1 (pl xs) c1, .slice a2 (pl xs) c2], .int .i64 0]) ∧
      IntsAt w' a1 (rdDrum (rdAll xs)).1 ∧ IntsAt w' a2 (rdDrum (rdAll xs)).2 ∧ Below w.heap.size w w' := by
  refine (shortest_c a cap xs w hx (by have := (checkRow_zero hv).1; omega)).mono fun e w' h => ?_
  obtain ⟨v, rfl, hB, ⟨_, _, rfl, hs1, hs2⟩⟩ := h
  rw [if_pos hv] at hs1 hs2
  obtain ⟨b1, d1, rfl, i1, _⟩ := hs1
  obtain ⟨b2, d2, rfl, i2, _⟩ := hs2
  obtain ⟨l1, l2, _, _⟩ := rdDrum_len hv
  exact ⟨b1, b2, d1, d2, by rw [hv, l1, l2]; rfl, i1, i2, hB⟩

theorem checkDrum_of {f g : List Int} (hl : f.length = g.length) (h40 : g.length ≤ 40) (hf : isBits f = true) (hg : isBits g = true) : checkDrum f g = 0 := by
  unfold checkDrum
  rw [if_neg (by omega), if_neg (by omega), hf, hg]; rfl

theorem rd_drum_ok {xs : List Int} (hv : checkRow xs = 0) : checkDrum (rdDrum (rdAll xs)).1 (rdDrum (rdAll xs)).2 = 0 := by
  obtain ⟨l1, l2, b1, b2⟩ := rdDrum_len hv
  have := rdAll_places hv
  have := (checkRow_zero hv).1
  exact checkDrum_of (by omega) (by omega) b1 b2

theorem rd_makesR {xs : List Int} (hv : checkRow xs = 0) : makesR (rdDrum (rdAll xs)).1 (rdDrum (rdAll xs)).2 xs = 0 := by
  unfold makesR
  rw [if_neg (by simp [rd_drum_ok hv]), if_neg (by simp [hv]), if_pos (rd_makes hv)]

theorem makesR_zero {f g row : List Int} (h : makesR f g row = 0) : checkDrum f g = 0 ∧ playsF f g row.length = row := by
  unfold makesR at h
  split at h
  · rename_i h1; exact absurd h h1
  · rename_i h1
    split at h
    · rename_i h2; exact absurd h h2
    · split at h
      · rename_i h3; exact ⟨by simpa using h1, h3⟩
      · cases h

theorem makes_least {f g xs : List Int} (hv : checkRow xs = 0) (h : makesR f g xs = 0) : pl xs ≤ f.length := by
  obtain ⟨h1, h2⟩ := makesR_zero h
  obtain ⟨hl, _, hf, hg⟩ := checkDrum_zero h1
  exact rd_least_drum hv hf hg hl h2

/-- a list of plays, one behind the other, from m on and before k -/
structure Up (l : List Int) (m k : Nat) : Prop where
  asc : ∀ i j, i < j → j < l.length → nth l i < nth l j
  rng : ∀ j, j < l.length → (m : Int) ≤ nth l j ∧ nth l j < k

theorem Up.nil (m k : Nat) : Up [] m k := ⟨fun _ _ _ h => by simp at h, fun _ h => by simp at h⟩
theorem Up.more {l : List Int} {m k : Nat} (h : Up l m k) : Up l m (k + 1) := ⟨h.asc, fun j hj => by have := h.rng j hj; omega⟩
theorem Up.snoc {l : List Int} {m k : Nat} (h : Up l m k) (hm : m ≤ k) : Up (l ++ [(k : Int)]) m (k + 1) := by
  have hl : nth (l ++ [(k : Int)]) l.length = k := by
    have := nth_append_right l [(k : Int)] 0
    rw [Nat.add_zero] at this; rw [this]; rfl
  refine ⟨fun i j hij hj => ?_, fun j hj => ?_⟩
  · rw [List.length_append, List.length_singleton] at hj
    by_cases e : j < l.length
    · rw [nth_append_left e, nth_append_left (by omega)]; exact h.asc i j hij e
    · obtain rfl : j = l.length := by omega
      rw [hl, nth_append_left hij]; exact (h.rng i hij).2
  · rw [List.length_append, List.length_singleton] at hj
    by_cases e : j < l.length
    · rw [nth_append_left e]; have := h.rng j e; omega
    · obtain rfl : j = l.length := by omega
      rw [hl]; omega
theorem Up.len {l : List Int} {m k : Nat} (h : Up l m k) : l.length ≤ k := by
  have hstep : ∀ j, j < l.length → (j : Int) ≤ nth l j := by
    intro j
    induction j with
    | zero => intro hj; have := h.rng 0 hj; omega
    | succ j ih => intro hj; have := ih (by omega); have := h.asc j (j + 1) (by omega) hj; omega
  by_cases h0 : l.length = 0
  · omega
  · have := hstep (l.length - 1) (by omega)
    have := h.rng (l.length - 1) (by omega)
    omega

theorem Up.check {l xs : List Int} {m k : Nat} (h : Up l m k) (hv : checkRow xs = 0) (hk : k ≤ xs.length ∨ l = []) : proofCheck xs m l = 0 ∨ proofCheck xs m l = 14 := by
  have hr : rngTo m xs.length l l.length = true := by
    rcases hk with hk | rfl
    · exact rng_of h.asc (fun j hj => by have := h.rng j hj; omega) _ (Nat.le_refl _)
    · rfl
  unfold proofCheck
  rw [if_neg (by simp [hv]), if_neg (by omega), if_neg (by rw [hr]; simp)]
  split
  · exact .inr rfl
  · split
    · exact .inr rfl
    · exact .inl rfl

end Go.Proofs.Ytjnijhnphhpilaa
