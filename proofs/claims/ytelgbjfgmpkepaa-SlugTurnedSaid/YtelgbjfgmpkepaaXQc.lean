/- The layer, plain: coppers that are all of one kind. -/
import Derived.Test.YtelgbjfgmpkepaaKQ
namespace Go.Proofs.Ytelgbjfgmpkepaa
open Go.RowKit Go.Shelf

/-- so many coppers may be lighter: as many weighings as the powers of three ask for -/
theorem can_light : ∀ {w n g : Nat}, 0 < n → n ≤ 3 ^ w → Can w ⟨g, n, 0, 0, 0⟩
  | 0, n, g, h0, h => by
    have h : n ≤ 1 := by simpa using h
    show Cnt.cases _ = 1
    simp only [Cnt.cases]; omega
  | w + 1, n, g, h0, h => by
    rw [Nat.pow_succ] at h
    by_cases h1 : n = 1
    · left; simp only [Cnt.cases]; omega
    · obtain ⟨q, hq1, hq2, hq3, hq4⟩ : ∃ q, 2 * q ≤ n ∧ n - 2 * q ≤ 3 ^ w ∧ q ≤ 3 ^ w ∧ 0 < q := by
        by_cases h2 : n = 2
        · have : 0 < 3 ^ w := Nat.pow_pos (by decide)
          exact ⟨1, by omega, by omega, by omega, by omega⟩
        · exact ⟨(n + 1) / 3, by omega, by omega, by omega, by omega⟩
      refine .inr ⟨by simp only [Cnt.cases]; omega, ⟨q, q, 0, 0, 0, 0⟩, ⟨by simp only; omega, by simp, by simp, by simp [Pn.left, Pn.right], by simp [Pn.left, Pn.right]⟩, fun x hx => ?_⟩
      have key : ∀ g' m, m ≤ 3 ^ w → m < n → (⟨g', m, 0, 0, 0⟩ : Cnt).cases = 0 ∨ ((⟨g', m, 0, 0, 0⟩ : Cnt).cases < (⟨g, n, 0, 0, 0⟩ : Cnt).cases ∧ Can w ⟨g', m, 0, 0, 0⟩) := fun g' m hm hl => by
        by_cases hm0 : m = 0
        · left; simp only [Cnt.cases]; omega
        · right; exact ⟨by simp only [Cnt.cases]; omega, can_light (by omega) hm⟩
      rcases hx with rfl | rfl | rfl
      · unfold resL Cnt.kept; simp only [Nat.add_zero]; exact key _ _ (by omega) (by omega)
      · unfold resR Cnt.kept; simp only [Nat.add_zero]; exact key _ _ (by omega) (by omega)
      · unfold resE Cnt.kept
        simp only [Nat.add_zero, Nat.sub_zero]
        have := key (g + n - (n - q - q)) (n - q - q) (by omega) (by omega)
        exact this
/-- light and heavy exchanged -/
def Cnt.flip (c : Cnt) : Cnt := ⟨c.g, c.h, c.l, c.b, c.z⟩
def Pn.flip (p : Pn) : Pn := ⟨p.a2, p.b2, p.a1, p.b1, p.a3, p.b3⟩
theorem flip_cases (c : Cnt) : c.flip.cases = c.cases := by unfold Cnt.flip Cnt.cases; simp only; omega
theorem fits_flip {c : Cnt} {p : Pn} (h : Fits c p) : Fits c.flip p.flip := by
  obtain ⟨h1, h2, h3, h4, h5⟩ := h
  unfold Pn.left Pn.right at h4 h5
  exact ⟨h2, h1, h3, by unfold Pn.left Pn.right Pn.flip; simp only; omega, by unfold Pn.left Pn.right Pn.flip Cnt.flip; simp only; omega⟩
theorem res_flip (c : Cnt) (p : Pn) : resL c.flip p.flip = (resR c p).flip ∧ resR c.flip p.flip = (resL c p).flip ∧ resE c.flip p.flip = (resE c p).flip := by
  refine ⟨?_, ?_, ?_⟩
  · unfold resL resR Cnt.kept Cnt.flip Pn.flip; simp only; refine cnt_eq5 ?_ rfl rfl rfl rfl; simp only; omega
  · unfold resL resR Cnt.kept Cnt.flip Pn.flip; simp only; refine cnt_eq5 ?_ rfl rfl rfl rfl; simp only; omega
  · unfold resE Cnt.kept Cnt.flip Pn.flip; simp only; refine cnt_eq5 ?_ rfl rfl rfl rfl; simp only; omega
theorem can_flip : ∀ {w : Nat} {c : Cnt}, Can w c → Can w c.flip
  | 0, c, h => by have h : c.cases = 1 := h; show c.flip.cases = 1; rw [flip_cases]; exact h
  | w + 1, c, h => by
    rcases h with h | ⟨h1, p, hf, hx⟩
    · left; rw [flip_cases]; exact h
    · refine .inr ⟨by rw [flip_cases]; exact h1, p.flip, fits_flip hf, fun x hx2 => ?_⟩
      obtain ⟨e1, e2, e3⟩ := res_flip c p
      have key : ∀ y, y = resL c p ∨ y = resR c p ∨ y = resE c p → y.flip.cases = 0 ∨ (y.flip.cases < c.flip.cases ∧ Can w y.flip) := fun y hy => by
        rw [flip_cases, flip_cases]
        exact (hx y hy).imp_right fun h => ⟨h.1, can_flip h.2⟩
      rcases hx2 with rfl | rfl | rfl
      · rw [e1]; exact key _ (.inr (.inl rfl))
      · rw [e2]; exact key _ (.inl rfl)
      · rw [e3]; exact key _ (.inr (.inr rfl))
theorem flip_flip (c : Cnt) : c.flip.flip = c := rfl
/-- as many are needed -/
theorem nd_flip {c : Cnt} (h0 : 0 < c.cases) (h : c.cases ≤ 1000) : nd 1000 c.flip = nd 1000 c := by
  have key : ∀ d : Cnt, 0 < d.cases → d.cases ≤ 1000 → nd 1000 d < 1000 → nd 1000 d.flip ≤ nd 1000 d := fun d hd _ hn => (can_nd 1000 (can_flip (nd_can _ (Nat.le_refl _) hd hn))).1
  have h1 := nd_le 1000 c; have h2 := nd_le 1000 c.flip
  have hf := flip_cases c
  by_cases hc : nd 1000 c < 1000
  · have := key c h0 h hc
    have := key c.flip (by omega) (by omega) (by omega)
    rw [flip_flip] at this
    omega
  · by_cases hd : nd 1000 c.flip < 1000
    · have := key c.flip (by omega) (by omega) hd
      rw [flip_flip] at this
      omega
    · omega
/-- one more good copper -/
theorem can_good : ∀ {w : Nat} {c : Cnt}, Can w c → Can w ⟨c.g + 1, c.l, c.h, c.b, c.z⟩
  | 0, _, h => h
  | w + 1, c, h => by
    rcases h with h | ⟨h1, p, hf, hx⟩
    · exact .inl h
    · obtain ⟨k1, k2, k3, k4, k5⟩ := hf
      refine .inr ⟨h1, p, ⟨k1, k2, k3, k4, by simp only; omega⟩, fun x hx2 => ?_⟩
      have key : ∀ y y' : Cnt, (y = resL c p ∨ y = resR c p ∨ y = resE c p) → y' = ⟨y.g + 1, y.l, y.h, y.b, y.z⟩ → y'.cases = 0 ∨ (y'.cases < c.cases ∧ Can w y') := fun y y' hy e => by
        subst e
        exact (hx y hy).imp_right fun h => ⟨h.1, can_good h.2⟩
      rcases hx2 with rfl | rfl | rfl
      · refine key (resL c p) _ (.inl rfl) (cnt_eq5 ?_ rfl rfl rfl rfl); unfold resL Cnt.kept; simp only; omega
      · refine key (resR c p) _ (.inr (.inl rfl)) (cnt_eq5 ?_ rfl rfl rfl rfl); unfold resR Cnt.kept; simp only; omega
      · refine key (resE c p) _ (.inr (.inr rfl)) (cnt_eq5 ?_ rfl rfl rfl rfl); unfold resE Cnt.kept; simp only; omega

end Go.Proofs.Ytelgbjfgmpkepaa
