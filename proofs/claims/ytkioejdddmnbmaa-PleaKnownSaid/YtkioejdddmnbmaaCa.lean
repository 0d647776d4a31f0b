/- Rules in memory. Walks: rising, CheckCase. -/
import Derived.Test.YtkioejdddmnbmaaApf
import Derived.Test.YtkioejdddmnbmaaPart
namespace Go.Proofs.Ytkioejdddmnbmaa
open Go.RowKit Go.Shelf

theorem bnew (w : World) (o : Obj) : Below w.heap.size w (w.alloc o) := (Below.refl _ w).alloc (Nat.le_refl _) o

/-- a rule: its If, and its Then -/
abbrev Rl := List Int × Int
def nthR (rs : List Rl) (i : Nat) : Rl := rs.getD i ([], 0)

/-- a rule's two cells -/
structure RuleAt (w : World) (b off : Nat) (r : Rl) (a : Option Addr) (cap : Nat) : Prop where
  cI : w.cell? ⟨b, off, none⟩ = some (.slice a r.1.length cap)
  at' : IntsAt w a r.1
  nil : a = none → cap = 0
  cT : w.cell? ⟨b, off + 1, none⟩ = some (.int .i64 r.2)

theorem RuleAt.mono {w w' : World} {b off : Nat} {r : Rl} {a : Option Addr} {cap : Nat} (h : RuleAt w b off r a cap) (hB : Below w.heap.size w w') : RuleAt w' b off r a cap :=
  ⟨cstep h.cI hB, h.at'.mono hB, h.nil, cstep h.cT hB⟩

def RulesAt (w : World) (ao : Option Addr) (rs : List Rl) : Prop :=
  rs = [] ∨ ∃ b off, ao = some ⟨b, off, none⟩ ∧ ∀ i, i < rs.length → ∃ a cap, RuleAt w b (off + i * 2) (nthR rs i) a cap

theorem RulesAt.mono {w w' : World} {ao : Option Addr} {rs : List Rl} (h : RulesAt w ao rs) (hB : Below w.heap.size w w') : RulesAt w' ao rs := by
  rcases h with rfl | ⟨b, off, rfl, h⟩
  · exact .inl rfl
  · exact .inr ⟨b, off, rfl, fun i hi => by obtain ⟨a, cap, h2⟩ := h i hi; exact ⟨a, cap, h2.mono hB⟩⟩

theorem RulesAt.at {w : World} {ao : Option Addr} {rs : List Rl} (h : RulesAt w ao rs) {i : Nat} (hi : i < rs.length) : ∃ b off a cap, ao = some ⟨b, off, none⟩ ∧ RuleAt w b (off + i * 2) (nthR rs i) a cap := by
  rcases h with rfl | ⟨b, off, rfl, h⟩
  · exact absurd hi (by simp)
  · obtain ⟨a, cap, h2⟩ := h i hi; exact ⟨b, off, a, cap, rfl, h2⟩

/-- where the next number of a rising list begins -/
def nextAt (l : List Int) (i : Nat) : Int := if i = 0 then 0 else nth l (i - 1) + 1
def risesAt (below : Int) (l : List Int) (i : Nat) : Bool := within (nextAt l i) (below - 1) [nth l i]
def rising (below : Int) (l : List Int) : Bool := (List.range l.length).all (risesAt below l)

theorem all_range_succ (p : Nat → Bool) (k : Nat) : (List.range (k + 1)).all p = ((List.range k).all p && p k) := by rw [List.range_succ, List.all_append]; simp

set_option maxRecDepth 100000 in
theorem rising_c (a : Option Addr) (cap : Nat) (l : List Int) (below : Int) (w : World) (hx : IntsAt w a l) (hl : l.length ≤ 1000000) (h0 : 1 ≤ below) (h1 : below ≤ 1000000) :
    Calls Try.prog 58 #[.slice a l.length cap, .int .i64 below] w fun e w' => e = .returned (.bool (rising below l)) ∧ Below w.heap.size w w' := by
  have Hx := hid hx
  have HW := hid fun (lo hi x : Int) (w' : World) => within_c (some ⟨w'.heap.size, 0, none⟩) 1 lo hi [x] (w'.alloc (.cells #[.int .i64 x] 3)) (at_lit1 w' x) (by simp)
  clear hx
  go_enter Try.func58, Try.ntmps58
  go_wp2
  go_loopw [5, 10] (fun n i wr => ∃ k : Nat, k ≤ l.length ∧ i = .int .i64 k ∧ n = .int .i64 (nextAt l k) ∧ (List.range k).all (risesAt below l) = true ∧ 0 ≤ nextAt l k ∧ Below w.heap.size w wr) (fun _ i _ => l.length - (intOf i).toNat)
  case atStart => exact ⟨0, Nat.zero_le _, rfl, rfl, rfl, Int.le_refl _, Below.refl _ _⟩
  case round =>
    obtain ⟨k, hk, rfl, rfl, hall, hnx0, hB⟩ := hrel
    obtain ⟨wo, rfl⟩ : ∃ wo : World, wo = wr := ⟨_, rfl⟩
    have Hall := hid hall; have HB := hid hB
    clear hall hB
    by_cases hlt : k < l.length
    · obtain ⟨b, off, rfl, hc⟩ := (Hx.out.mono HB.out).at hlt
      have hstep := all_range_succ (risesAt below l) k
      have hr : risesAt below l k = within (nextAt l k) (below - 1) [nth l k] := rfl
      have hnx : nextAt l (k + 1) = nth l k + 1 := by unfold nextAt; rw [if_neg (by omega)]; rfl
      obtain ⟨x, hxx⟩ : ∃ x, x = nth l k := ⟨_, rfl⟩
      obtain ⟨nx, hnn⟩ : ∃ n, n = nextAt l k := ⟨_, rfl⟩
      rw [← hxx] at hc hr hnx
      rw [← hnn] at hr hnx0 ⊢
      have hwi : within nx (below - 1) [x] = true → x ≤ below - 1 := by
        intro h; simp [within] at h; exact h.2
      have hwi0 : within nx (below - 1) [x] = true → nx ≤ x := by
        intro h; simp [within] at h; exact h.1
      have HWk := hid (HW.out nx (below - 1) x wo)
      have Hnx := hid hnx; have Hstep := hid hstep; have Hr := hid hr
      cases hwv : within nx (below - 1) [x] with
      | true =>
        have hxb := hwi hwv
        have hxn := hwi0 hwv
        rw [hwv] at HWk
        have Hwv := hid hwv
        clear hwi hwi0 hwv hxx hnx hstep hr hnn
        go_wp2_with fail
        refine HWk.out.mono ?_
        rintro e w1 ⟨rfl, hB⟩
        have HB1 := hid (bstep HB.out (bstep (bnew wo _) hB))
        clear hB
        go_wp2
        go_roundw
        case rel => exact ⟨k + 1, by omega, by go_num, by rw [Hnx.out], by rw [Hstep.out, Hall.out, Hr.out, Hwv.out]; rfl, by rw [Hnx.out]; omega, HB1.out⟩
        case measure => simp [intOf]; omega
      | false =>
        rw [hwv] at HWk
        have Hwv := hid hwv
        clear hwi hwi0 hwv hxx hnx hstep hr hnn
        go_wp2_with fail
        refine HWk.out.mono ?_
        rintro e w1 ⟨rfl, hB⟩
        have HB1 := hid (bstep HB.out (bstep (bnew wo _) hB))
        clear hB
        go_wp2
        go_ret
        refine ⟨ret_bool ?_, HB1.out⟩
        cases h : rising below l with
        | false => rfl
        | true =>
          have := List.all_eq_true.1 h k (List.mem_range.2 hlt)
          rw [Hr.out, Hwv.out] at this
          cases this
    · obtain rfl : k = l.length := by omega
      go_wp2
      go_ret
      exact ⟨ret_bool Hall.out.symm, HB.out⟩

end Go.Proofs.Ytkioejdddmnbmaa
