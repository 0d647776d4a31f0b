/- Walks: the laws' own helpers: fine, places; an append of a list. -/
import Derived.Test.YtjnijhnphhpilaaLawA
import Derived.Test.YtjnijhnphhpilaaBm
import Derived.Laws.OwnMore
namespace Go.Proofs.Ytjnijhnphhpilaa
open Go.RowKit Go.Shelf

/-- the run of an append of a list onto a slice of the call's own -/
theorem run_app_many (ty : TypeId) (w : World) (B : Nat) (ao : Option Addr) (n cap : Nat) (xs : List Int) (hown : OwnI B w ao n cap xs)
    (ax : Option Addr) (m cx : Nat) (ys : List Int) (hy : IntsAt w ax ys) (hm : ys.length = m) (hnil : ax = none → m = 0 ∧ cx = 0) (hb : n + m ≤ 1000000) (hB : B ≤ w.heap.size) :
    ∃ ao' cap' w', (Builtin.append_ #[22, 22] ty #[.slice ao n cap, .slice ax m cx]).run Try.prog w = .ok (.slice ao' (n + m) cap') w' ∧
      Below B w w' ∧ OwnI B w' ao' (n + m) cap' (xs ++ ys) ∧ w.grownBy w' (Value.ownBlock (.slice ao n cap)) ∧ (ao ≠ none → ao' ≠ none) := by
  obtain ⟨i, hi, hz, hs, hby⟩ := info_parts info3
  cases ax with
  | none =>
    obtain ⟨rfl, rfl⟩ := hnil rfl
    obtain rfl : ys = [] := List.eq_nil_of_length_eq_zero hm
    refine ⟨ao, cap, w, ?_, Below.refl _ _, by rw [List.append_nil]; exact hown, ⟨rfl, rfl, rfl, Nat.le_refl _, fun _ _ _ => rfl⟩, fun h => h⟩
    exact run_append_owned_none (P := Try.prog) w B 22 ty 3 i 1 Try.underlying22 hi (.slice ao n cap) n (intv xs) hown.2
  | some ad =>
    by_cases h0 : ys.length = 0
    · obtain rfl : ys = [] := List.eq_nil_of_length_eq_zero h0
      simp at hm
      subst hm
      obtain ⟨v', w', hrun, r1, r2, r3⟩ := run_append_own (P := Try.prog) w B 22 ty 3 i (.int .i64 0) 1 8 Try.underlying22 hi hz hs hby rfl (by decide) (.slice ao n cap) n (intv xs) hown.2 ad 0 cx [] rfl (by intro j u h; simp at h)
        (by intro u hu; cases hu) (by unfold maxLen; omega) (by omega) hB
      rcases r1 with ⟨hl, (⟨rfl, h0⟩ | ⟨g, c, cur, rfl, hge, hh, hr⟩)⟩
      · have hv : Value.slice ao n cap = .slice none 0 0 := (r3.1 rfl).1
        cases hv
        exact ⟨none, 0, w', hrun, (Below.refl B w).grown r2 hB (fun k e => (hown.2.lt k e).1), ⟨by simp [hown.1], by rw [intv_append]; exact ⟨hl, .inl ⟨rfl, h0⟩⟩⟩, r2, fun h => h⟩
      · refine ⟨some ⟨g, 0, none⟩, c, w', hrun, (Below.refl B w).grown r2 hB (fun k e => (hown.2.lt k e).1), ⟨by simp [hown.1], ?_⟩, r2, fun _ h => by cases h⟩
        rw [intv_append]
        exact ⟨hl, .inr ⟨g, c, cur, rfl, hge, hh, hr⟩⟩
    · obtain ⟨b, off, e, _⟩ := hy.at (k := 0) (by omega)
      cases e
      obtain ⟨v', w', hrun, r1, r2, _⟩ := run_append_own (P := Try.prog) w B 22 ty 3 i (.int .i64 0) 1 8 Try.underlying22 hi hz hs hby rfl (by decide) (.slice ao n cap) n (intv xs) hown.2 ⟨b, off, none⟩ m cx (intv ys) (by rw [intv_length, hm, Nat.mul_one])
        (fun j u hj => by
          rw [intv_get] at hj
          split at hj
          · rename_i hlt
            simp at hj; subst hj
            rw [Addr.add_lit]; exact hy.cell hlt
          · simp at hj)
        (intv_one _) (by unfold maxLen; omega) (by omega) hB
      rcases r1 with ⟨hl, (⟨rfl, h0⟩ | ⟨g, c, cur, rfl, hge, hh, hr⟩)⟩
      · omega
      · refine ⟨some ⟨g, 0, none⟩, c, w', hrun, (Below.refl B w).grown r2 hB (fun k e => (hown.2.lt k e).1), ⟨by rw [List.length_append, hown.1, hm], ?_⟩, r2, fun _ h => by cases h⟩
        rw [intv_append]
        exact ⟨hl, .inr ⟨g, c, cur, rfl, hge, hh, hr⟩⟩

theorem wpList_app_many {ops : Array Oper} {rest : List Oper} {o : Oper} {a : Act} {Q : Exit → Act → World → Prop} (w : World) (hg : o.guard = none) (s x : Operand)
    (hop : o.op = Op.call { callee := Callee.builtin Builtin.append, args := #[s, x], argTypes := #[22, 22] })
    (B : Nat) (ao : Option Addr) (n cap : Nat) (xs : List Int) (hs : a.eval s = .slice ao n cap) (hown : OwnI B w ao n cap xs)
    (ax : Option Addr) (m cx : Nat) (ys : List Int) (hx : a.eval x = .slice ax m cx) (hy : IntsAt w ax ys) (hm : ys.length = m) (hnil : ax = none → m = 0 ∧ cx = 0) (hb : n + m ≤ 1000000) (hB : B ≤ w.heap.size)
    (hK : ∀ ao' cap' w', Below B w w' → OwnI B w' ao' (n + m) cap' (xs ++ ys) → w.grownBy w' (Value.ownBlock (.slice ao n cap)) → (ao ≠ none → ao' ≠ none) →
      wpList Try.prog ops Q rest (a.put o.dst (.slice ao' (n + m) cap')) w') :
    wpList Try.prog ops Q (o :: rest) a w := by
  refine wpList_plain hg fun K hK' => ?_
  obtain ⟨ao', cap', w', hrun, h1, h2, h3, h4⟩ := run_app_many o.type w B ao n cap xs hown ax m cx ys hy hm hnil hb hB
  unfold Oper.wp
  simp [execOp, hop, resolve, invoke, builtin, hs, hx, hrun, Result.andThen]
  exact hK' _ _ (hK ao' cap' w' h1 h2 h3 h4)

/-- a new empty list -/
theorem ownNew0 (w : World) : OwnI w.heap.size (w.alloc (.cells #[] 3)) (some ⟨w.heap.size, 0, none⟩) 0 0 [] :=
  ⟨rfl, rfl, .inr ⟨w.heap.size, 0, #[], rfl, Nat.le_refl _, heap_alloc_new w _, Nat.le_refl _, by unfold maxLen; omega, rfl, rfl⟩⟩

/-- a row of more plays than there may be -/
theorem rCheckRow_long (a : Option Addr) (cap n : Nat) (w : World) (hn : 40 < n) :
    Calls Try.prog 23 #[.slice a n cap] w fun e w' => e = .returned (.int .i64 6) ∧ w = w' := by
  go_enter Try.func23, Try.ntmps23
  go_wp2
  go_ret
  exact ⟨rfl, rfl⟩

/-- whether a row is valid -/
theorem fine_c (a : Option Addr) (cap : Nat) (xs : List Int) (w : World) (hx : IntsAt w a xs) :
    Calls Try.prog 46 #[.slice a xs.length cap] w fun e w' => e = .returned (.bool (checkRow xs == 0)) ∧ w = w' := by
  have H : Hid (Calls Try.prog 23 #[.slice a xs.length cap] w fun e w' => e = .returned (.int .i64 (checkRow xs)) ∧ w = w') := by
    refine hid ?_
    by_cases h : 40 < xs.length
    · have e : checkRow xs = 6 := by unfold checkRow; rw [if_pos h]
      rw [e]; exact rCheckRow_long a cap xs.length w h
    · exact rCheckRow_c a cap xs w hx (by omega)
  clear hx
  obtain ⟨c, hc⟩ : ∃ c, c = checkRow xs := ⟨_, rfl⟩
  rw [← hc] at H ⊢
  clear hc
  go_enter Try.func46, Try.ntmps46
  go_wp2_with fail
  refine H.out.mono ?_
  rintro e wx ⟨rfl, rfl⟩
  go_wp2
  go_ret
  exact ⟨rfl, rfl⟩

/-- the places of a valid row -/
theorem placesL_c (a : Option Addr) (cap : Nat) (xs : List Int) (w : World) (hx : IntsAt w a xs) (hv : checkRow xs = 0) :
    Calls Try.prog 47 #[.slice a xs.length cap] w fun e w' => e = .returned (.tuple #[.int .i64 ((rdAll xs).places : Nat), .bool true]) ∧ Below w.heap.size w w' := by
  have hl := (checkRow_zero hv).1
  have H := hid (places_c a cap xs w hx (by omega))
  have e : placesR xs = ((rdAll xs).places : Int) := by unfold placesR; rw [if_pos hv]
  rw [e, hv] at H
  have hp := rdAll_places hv
  clear hx hv e
  obtain ⟨n, hn⟩ : ∃ n, n = (rdAll xs).places := ⟨_, rfl⟩
  rw [← hn] at H hp ⊢
  clear hn
  go_enter Try.func47, Try.ntmps47
  go_wp2_with fail
  refine H.out.mono ?_
  rintro e w1 ⟨rfl, hB⟩
  have HB := hid hB
  clear hB
  go_wp2
  go_ret2
  exact ⟨rfl, HB.out⟩

theorem placesM_c (a : Option Addr) (cap m : Nat) (xs : List Int) (w : World) (hm : xs.length = m) (hx : IntsAt w a xs) (hv : checkRow xs = 0) :
    Calls Try.prog 47 #[.slice a m cap] w fun e w' => e = .returned (.tuple #[.int .i64 ((rdAll xs).places : Nat), .bool true]) ∧ Below w.heap.size w w' := by
  subst hm; exact placesL_c a cap xs w hx hv

end Go.Proofs.Ytjnijhnphhpilaa
