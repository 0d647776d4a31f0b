/- Walks: the pans of a count collected into a list. Walks: the best of several pans. Walks: best pans of a count. The layer, plain: what the results of a weighing leave, by counts; the weighing that pans are laid into. Walks: the weighing of pans. The layer, plain: weighings of what is known, and how many are needed. Walks: Next. -/
import Derived.Test.YtelgbjfgmpkepaaKM
import Derived.Test.YtelgbjfgmpkepaaKO
namespace Go.Proofs.Ytelgbjfgmpkepaa
open Go.RowKit Go.Shelf

theorem len_flatMap_le {α β : Type} (f : α → List β) (N : Nat) : ∀ (l : List α), (∀ x ∈ l, (f x).length ≤ N) → (l.flatMap f).length ≤ l.length * N
  | [], _ => by simp
  | x :: l, h => by
    rw [List.flatMap_cons, List.length_append, List.length_cons, Nat.succ_mul]
    have h1 := h x (List.mem_cons_self ..)
    have h2 := len_flatMap_le f N l fun y hy => h y (List.mem_cons_of_mem _ hy)
    omega
theorem dAll_len : ∀ n, n ≤ 12 → (dAll n).length ≤ 91 := by
  have h : ∀ n, n < 13 → (dAll n).length ≤ 91 := by decide +kernel
  intro n hn
  exact h n (by omega)
theorem splitsS_len {c : Cnt} (h : c.fine) : (splitsS c).length ≤ 800000 := by
  unfold Cnt.fine at h
  have h1 := dAll_len c.l (by omega)
  have h2 := dAll_len c.h (by omega)
  have h3 := dAll_len c.b (by omega)
  unfold splitsS
  refine Nat.le_trans (List.length_filter_le ..) ?_
  unfold allS
  have r1 : ∀ d2 d3, (rowP c d2 d3).length ≤ 91 := fun d2 d3 => by unfold rowP; rw [List.length_map]; exact h1
  have r2 : ∀ d3, (planeP c d3).length ≤ 91 * 91 := fun d3 => by
    unfold planeP
    refine Nat.le_trans (len_flatMap_le _ 91 _ fun d2 _ => r1 d2 d3) ?_
    exact Nat.mul_le_mul_right _ h2
  refine Nat.le_trans (len_flatMap_le _ (91 * 91) _ fun d3 _ => r2 d3) ?_
  have := Nat.mul_le_mul_right (91 * 91) h3
  omega
/-- the cells of pans -/
def pn8 (p : Pn) : List Value := [.int .i64 0, .int .i64 (p.a1 : Int), .int .i64 (p.a2 : Int), .int .i64 (p.a3 : Int), .int .i64 p.dif, .int .i64 (p.b1 : Int), .int .i64 (p.b2 : Int), .int .i64 (p.b3 : Int)]
def pn8s (L : List Pn) : List Value := L.flatMap pn8
theorem pn8s_len (L : List Pn) : (pn8s L).length = 8 * L.length := by
  unfold pn8s
  induction L with
  | nil => rfl
  | cons p L ih => rw [List.flatMap_cons, List.length_append, ih, List.length_cons]; simp [pn8]; omega
theorem pn8s_app (L M : List Pn) : pn8s (L ++ M) = pn8s L ++ pn8s M := by unfold pn8s; rw [List.flatMap_append]
theorem pn8s_get : ∀ (L : List Pn) (k : Nat) (p : Pn), L[k]? = some p → ∀ j, j < 8 → (pn8s L)[8 * k + j]? = (pn8 p)[j]?
  | [], k, p, h, j, hj => by simp at h
  | q :: L, 0, p, h, j, hj => by
    simp at h; subst h
    unfold pn8s
    rw [List.flatMap_cons, Nat.mul_zero, Nat.zero_add, List.getElem?_append_left (by simpa [pn8] using hj)]
  | q :: L, k + 1, p, h, j, hj => by
    simp only [List.getElem?_cons_succ] at h
    have ih := pn8s_get L k p h j hj
    unfold pn8s at ih ⊢
    rw [List.flatMap_cons, List.getElem?_append_right (by simp [pn8]; omega)]
    rw [← ih]
    congr 1
    simp [pn8]; omega
theorem Only.of_grown {S : Nat → Prop} {w w' : World} {row : Option Nat} (h : w.grownBy w' row) (hr : ∀ k, row = some k → S k) : Only S w w' :=
  ⟨h.os, h.tape, h.output, h.size, fun k hk hs => h.block k hk fun e => hs (hr k e.symm)⟩
theorem OwnV.cap {e sz B : Nat} {w : World} {ao : Option Addr} {n cap : Nat} {vs : List Value} (h : OwnV e sz B w ao n cap vs) : n ≤ cap := by
  rcases h.2 with (⟨e, h0⟩ | ⟨g, c, cur, e, hge, hh, hr, _⟩)
  · cases e; exact Nat.le_refl _
  · cases e; exact hr
/-- how far the list is -/
structure ApI (w0 : World) (c : Cnt) (bx B : Nat) (k : Nat) (W : World) : Prop where
  le : k ≤ (splitsS c).length
  b : ∃ ao cap, VAt W bx 119 (.slice ao k cap) ∧ OwnV 103 8 B W ao k cap (pn8s ((splitsS c).take k))
  only : Only (fun q => q = bx ∨ B ≤ q) w0 W
theorem ApI.keep {w0 : World} {c : Cnt} {bx B k : Nat} {W W' : World} (h : ApI w0 c bx B k W) {T : Nat → Prop} (ho : Only T W W') (hb : ¬ T bx) (hB : ∀ q, B ≤ q → ¬ T q) (hT : ∀ q, q < w0.heap.size → ¬ T q) : ApI w0 c bx B k W' := by
  obtain ⟨ao, cap, h1, h2⟩ := h.b
  refine ⟨h.le, ⟨ao, cap, h1.only ho hb, h2.keptIf fun g cur hg hh => ho.block _ (Array.getElem?_eq_some_iff.1 hh).1 (hB g hg)⟩, ⟨ho.os.trans h.only.os, ho.tape.trans h.only.tape, ho.output.trans h.only.output, Nat.le_trans h.only.size ho.size, fun q hq hs => (ho.block q (Nat.lt_of_lt_of_le hq h.only.size) (hT q hq)).trans (h.only.block q hq hs)⟩⟩
theorem take_more {c : Cnt} {k : Nat} {p : Pn} (hp : (splitsS c)[k]? = some p) : (splitsS c).take (k + 1) = (splitsS c).take k ++ [p] := by
  obtain ⟨hk, e⟩ := List.getElem?_eq_some_iff.1 hp
  rw [List.take_succ_eq_append_getElem hk, e]
section
variable (c : Cnt) (cb : Nat) (w : World)
attribute [local go_sem] Oper.semAt_some in
set_option maxRecDepth 100000 in
set_option maxHeartbeats 4000000 in
theorem append_101 (hc : c.fine) (h : I5 w cb 95 c.g c.l c.h c.b c.z) : Calls Try.prog 101 #[.slice none 0 0, .func (.func 97) #[] #[.pointer (some ⟨cb, 0, none⟩)]] w (fun e w' => ∃ ao cap, e = .returned (.slice ao (splitsS c).length cap) ∧ CellsAt w' ao (pn8s (splitsS c)) ∧ (splitsS c).length ≤ cap ∧ Below w.heap.size w w') := by
  obtain ⟨V, hV⟩ : ∃ V, V = w.alloc (.cells #[.slice none 0 0] 119) := ⟨_, rfl⟩
  have hB : Below w.heap.size w V := by rw [hV]; exact bnew _ _
  have hbx : VAt V w.heap.size 119 (.slice none 0 0) := by rw [hV]; exact heap_alloc_new w _
  have hz : V.heap.size = w.heap.size + 1 := by rw [hV]; simp
  obtain ⟨bx, hbxe⟩ : ∃ n, n = w.heap.size := ⟨_, rfl⟩
  have hcb := h.mono hB
  have hcbl := h.lt
  have hlen := splitsS_len hc
  have hGen := splits1_c cb c hc.small V (fun q => q = bx ∨ V.heap.size + 3 ≤ q) (fun _ => False) (by rintro k (h | h) <;> omega) hcb (by rintro (h | h) <;> omega)
  rw [← hbxe] at hbx hz hcbl
  have HI0 := hid (show ApI V c bx (V.heap.size + 3) 0 V from ⟨Nat.zero_le _, ⟨none, 0, hbx, OwnV.nil _ _ _ _⟩, Only.refl _ _⟩)
  have HV := hid hV; have HB := hid hB; have Hz := hid hz; have Hgen := hid hGen; have Hlen := hid hlen; have Hbxe := hid hbxe
  clear hV hB hbx hcb hcbl hGen hlen hc h
  refine callsIn_wide.1 (callsIn_of_wp_marks (n := 0) Try.func101 rfl trivial ?_ rfl)
  simp only [Try.ntmps101, List.size_toArray, List.length_cons, List.length_nil, Nat.reduceAdd, Nat.reduceSub, Array.replicate_succ, Array.replicate_zero, List.push_toArray, List.append_toArray, List.nil_append, List.cons_append]
  refine wpIn_wide.2 ?_
  go_upto_region 1 with (fail)
  rw [← HV.out, ← Hbxe.out]
  clear hbxe hz
  go_wp2
  refine (wpIn_wide (n := 0)).1 ?_
  refine range_lawU' rfl enters97 Hgen.out ?hS ⟨id, id⟩ ?hT ?hps ?hX (ApI V c bx (V.heap.size + 3)) (fun _ _ _ => False) ?hI (fun _ _ _ _ h _ => h) ?hIT (fun _ _ _ _ h _ => h) ?hN HI0.out
    (fun t k v a₁ W => ∃ pb p, (splitsS c)[k]? = some p ∧ v = #[pnV p p.dif] ∧ P8 W pb p p.dif ∧ V.heap.size + 2 ≤ pb ∧ a₁ = { tmps := (t.setIfInBounds 7 (pnV p p.dif)).setIfInBounds 5 (.pointer (some ⟨pb, 0, none⟩)), defers := [] }) ?hA ?hassign ?hbody ?hdone (fun _ _ _ h => h.elim)
  case hS => have := Hz.out; exact ⟨by rintro (h | h) <;> omega, by rintro (h | h) <;> omega⟩
  case hT => exact ⟨by simp, by simp⟩
  case hps => rintro k v W ⟨p, hp, rfl⟩; rfl
  case hX => exact fun k v W W' h _ => h
  case hI => exact fun k W W' h ho => by have := Hz.out; exact h.keep ho (by omega) (fun q hq => by omega) (fun q hq => by omega)
  case hIT => exact fun k W W' h ho => by have := Hz.out; exact h.keep ho (by omega) (fun q hq => by omega) (fun q hq => by omega)
  case hN => exact fun k W h => h.le
  case hA =>
    rintro t k v a₁ W W' ⟨pb, p, h1, h2, h3, h4, h5⟩ ho
    exact ⟨pb, p, h1, h2, h3.same (ho.block _ h3.lt (by omega)), h4, h5⟩
  case hassign =>
    rintro l k v W K hlt hI ⟨p, hp, rfl⟩ hK
    unfold pnV at hK ⊢
    conv in (Act.mk _ _) => simp
    gi_wp2
    exact hK _ _ (bnew _ _) ⟨W.heap.size, p, hp, rfl, p8_new W p p.dif, by omega, by simp⟩
  case hbody =>
    rintro k v0 a₁ W hlt hI _ ⟨pb, p, hp, rfl, hP, hpb, rfl⟩ hk
    have hle := Hlen.out
    have hz := Hz.out
    have hpl := hP.lt
    obtain ⟨ao, cap, hb, hown⟩ := hI.b
    have hO := hI.only
    have htk := take_more hp
    have c0 := hb.c; have p0 := hP.c0; have p1 := hP.c1; have p2 := hP.c2; have p3 := hP.c3; have p4 := hP.c4; have p5 := hP.c5; have p6 := hP.c6; have p7 := hP.c7
    obtain ⟨x, hx⟩ : ∃ x, x = p.dif := ⟨_, rfl⟩
    have hpn : pn8 p = [.int .i64 0, .int .i64 (p.a1 : Int), .int .i64 (p.a2 : Int), .int .i64 (p.a3 : Int), .int .i64 x, .int .i64 (p.b1 : Int), .int .i64 (p.b2 : Int), .int .i64 (p.b3 : Int)] := by rw [hx]; rfl
    rw [← hx] at p4 ⊢
    obtain ⟨W1, hW1⟩ : ∃ W1, W1 = W.alloc (.cells #[.int .i64 0, .int .i64 (p.a1 : Int), .int .i64 (p.a2 : Int), .int .i64 (p.a3 : Int), .int .i64 x, .int .i64 (p.b1 : Int), .int .i64 (p.b2 : Int), .int .i64 (p.b3 : Int)] 103) := ⟨_, rfl⟩
    have hB1 : Below W.heap.size W W1 := by rw [hW1]; exact bnew _ _
    have hcs : CellsAt W1 (some ⟨W.heap.size, 0, none⟩) (pn8 p) := by
      rw [hpn, hW1]
      exact CellsAt.of_heap (heap_alloc_new _ _) fun j v hj => by simpa using hj
    have HW1 := hid hW1; have HI := hid hI; have Hb := hid hb; have Hown := hid hown; have Htk := hid htk; have Hpn := hid hpn; have HB1 := hid hB1; have Hcs := hid hcs; have HO := hid hO
    have Hk := hid hk; have Hpl := hid hpl; have Hpb := hid hpb
    clear hW1 hI hb hown htk hpn hx hcs hO hP hp hB1 hk hpl hpb hlt hz hle
    have Hk1 := hid (show k + 1 ≤ 1000000 by have := Hk.out; have := Hlen.out; omega)
    have Hsz1 := hid (show V.heap.size + 3 ≤ W1.heap.size by have := HB1.out.size; have := Hpl.out; have := Hpb.out; omega)
    have Hone := hid (show ∀ u ∈ pn8 p, u.oneCell' = true by rw [Hpn.out]; simp [Value.oneCell'])
    have Hown1 := hid (Hown.out.kept HB1.out)
    have Hb1 := hid (Hb.out.mono HB1.out)
    conv in (Act.mk _ _) => simp
    unfold pnV
    gi_wp2_with (gi_at_builtin; rw [← HW1.out]; refine wpListIn_appV et119 W1 rfl (.tmp 8) (.tmp 10) rfl (V.heap.size + 3) ao k cap _ rfl Hown1.out (some ⟨W.heap.size, 0, none⟩) 1 1 _ rfl Hcs.out rfl Hone.out (fun h => by cases h) Hk1.out Hsz1.out ?_)
    intro ao' cap' w' hB' hown' hgr' hn'
    have hbx3 : VAt w' bx 119 (.slice ao k cap) := (hB'.block _ (by have := Hz.out; omega)).trans Hb1.out
    have cb := hbx3.c
    have fb := hbx3.f
    have hO1 : Only (fun q => q = bx ∨ V.heap.size + 3 ≤ q) W (w'.setCell ⟨bx, 0, none⟩ (.slice ao' (k + 1) cap')) := by
      refine Only.setCell ((Only.of_below HB1.out).trans (Only.of_grown hgr' fun j e => .inr ?_)) (.inl rfl) _
      exact (OwnV.block Hown1.out e).1
    have Hend := hid (show roundEndsX (fun q => q = bx ∨ V.heap.size + 3 ≤ q) (fun _ => False) (ApI V c bx (V.heap.size + 3)) (fun _ _ _ => False) k W .normal { tmps := #[], defers := [] } (w'.setCell ⟨bx, 0, none⟩ (.slice ao' (k + 1) cap')) from
      ⟨hO1, by have := Hk.out; omega, ⟨ao', cap', hbx3.set _, by
        rw [Htk.out, pn8s_app]
        have : pn8s [p] = pn8 p := by simp [pn8s]
        rw [this]
        exact hown'.keptIf fun g _ hg _ => Below.heap_setCell _ _ _ _ (fun e => by have := Hz.out; have e' : g = bx := e; omega)⟩, HO.out.trans hO1⟩)
    clear hB' hown' hgr' hn' hbx3 hO1 c0 p0 p1 p2 p3 p4 p5 p6 p7
    gi_wp2
    exact Hend.out
  case hdone =>
    rintro k W hk hI hD hlt
    obtain rfl : k = (splitsS c).length := hk
    obtain ⟨ao, cap, hb, hown⟩ := hI.b
    rw [List.take_length] at hown
    have cb := hb.c
    have HD := hid hD; have Hown := hid hown
    have HO := hid ((hI.only.mono fun q h => .inl h).trans ((Only.put1 W V.heap.size (.deferred none)).mono (T := fun q => (q = bx ∨ V.heap.size + 3 ≤ q) ∨ q = V.heap.size) fun q h => .inr h) : Only (fun q => (q = bx ∨ V.heap.size + 3 ≤ q) ∨ q = V.heap.size) V _)
    clear hI hD hb hown hlt
    go_wp2
    refine ⟨by simp, .inl ⟨_, _, rfl, run_takeDeferred HD.out, ?_⟩⟩
    refine ⟨_, results_t1 rfl _ _ _, ao, cap, rfl, ?_, Hown.out.cap, ?_⟩
    · exact (Hown.out.keptIf fun g cur hg hh => (Only.put1 W V.heap.size (.deferred none)).block g (Array.getElem?_eq_some_iff.1 hh).1 (by omega)).at
    · exact HB.out.trans (HO.out.below HB.out.size (fun q hq e => by have := Hz.out; have := Hbxe.out; omega))
set_option maxRecDepth 100000 in
theorem collect_93 (hc : c.fine) (h : I5 w cb 95 c.g c.l c.h c.b c.z) : Calls Try.prog 93 #[.func (.func 97) #[] #[.pointer (some ⟨cb, 0, none⟩)]] w (fun e w' => ∃ ao cap, e = .returned (.slice ao (splitsS c).length cap) ∧ CellsAt w' ao (pn8s (splitsS c)) ∧ (splitsS c).length ≤ cap ∧ Below w.heap.size w w') := by
  have H1 := hid (append_101 c cb w hc h)
  clear hc h
  go_enter Try.func93, Try.ntmps93
  go_wp2_with fail
  refine H1.out.mono ?_
  rintro e w1 ⟨ao, cap, rfl, hA, hC, hB⟩
  have HA := hid hA; have HB := hid hB; have HC := hid hC
  clear hA hB hC
  go_wp2
  go_ret
  exact ⟨ao, cap, rfl, HA.out, HC.out, HB.out⟩
end

end Go.Proofs.Ytelgbjfgmpkepaa

namespace Go.Proofs.Ytelgbjfgmpkepaa
open Go.RowKit Go.Shelf

theorem pnCells {w : World} {a : Option Addr} {L : List Pn} (h : CellsAt w a (pn8s L)) {k : Nat} {p : Pn} (hp : L[k]? = some p) : ∃ b off, a = some ⟨b, off, none⟩ ∧
    w.cell? ⟨b, off + k * 8, none⟩ = some (.int .i64 0) ∧ w.cell? ⟨b, off + k * 8 + 1, none⟩ = some (.int .i64 (p.a1 : Int)) ∧ w.cell? ⟨b, off + k * 8 + 2, none⟩ = some (.int .i64 (p.a2 : Int)) ∧ w.cell? ⟨b, off + k * 8 + 3, none⟩ = some (.int .i64 (p.a3 : Int)) ∧
    w.cell? ⟨b, off + k * 8 + 4, none⟩ = some (.int .i64 p.dif) ∧ w.cell? ⟨b, off + k * 8 + 5, none⟩ = some (.int .i64 (p.b1 : Int)) ∧ w.cell? ⟨b, off + k * 8 + 6, none⟩ = some (.int .i64 (p.b2 : Int)) ∧ w.cell? ⟨b, off + k * 8 + 7, none⟩ = some (.int .i64 (p.b3 : Int)) := by
  rcases h with h | ⟨b, off, rfl, h⟩
  · have := pn8s_len L
    rw [h] at this
    obtain ⟨hk, _⟩ := List.getElem?_eq_some_iff.1 hp
    simp at this
    omega
  · have key : ∀ j v, j < 8 → (pn8 p)[j]? = some v → w.cell? ⟨b, off + k * 8 + j, none⟩ = some v := fun j v hj hv => by
      have := h (8 * k + j) v (by rw [pn8s_get L k p hp j hj]; exact hv)
      rw [show off + k * 8 + j = off + (8 * k + j) by omega]
      exact this
    exact ⟨b, off, rfl, key 0 _ (by omega) rfl, key 1 _ (by omega) rfl, key 2 _ (by omega) rfl, key 3 _ (by omega) rfl, key 4 _ (by omega) rfl, key 5 _ (by omega) rfl, key 6 _ (by omega) rfl, key 7 _ (by omega) rfl⟩
theorem slice_pns {w : World} {a : Option Addr} {x : Pn} {R : List Pn} (h : CellsAt w a (pn8s (x :: R))) {c : Nat} (hc : R.length + 1 ≤ c) : ∃ a2 : Option Addr, (∀ w' : World, (Instr.slice 119 (.slice a (R.length + 1) c) (some (.int .i64 1)) none none).run Try.prog w' = .ok (.slice a2 R.length (c - 1)) w') ∧ CellsAt w a2 (pn8s R) ∧ (R ≠ [] → ∀ q o, a2 = some ⟨q, o, none⟩ → ∃ o1, a = some ⟨q, o1, none⟩) := by
  refine ⟨if c = 1 then a else a.map (·.add 8), fun w' => ?_, ?_⟩
  · have h1 : (1 : Int) ≤ (R.length : Int) + 1 := by omega
    simp [go_sem, h1]
  · cases R with
    | nil => exact ⟨.inl rfl, fun h => absurd rfl h⟩
    | cons y R =>
      rw [if_neg (by simp at hc; omega)]
      rcases h with h | ⟨b, off, rfl, h⟩
      · have := pn8s_len (x :: y :: R)
        rw [h] at this
        simp at this
      · refine ⟨.inr ⟨b, off + 8, by rw [Option.map_some, Addr.add_lit], fun j v hj => ?_⟩, fun _ q o e => ?_⟩
        · have := h (8 + j) v (by
            unfold pn8s at hj ⊢
            rw [List.flatMap_cons, List.getElem?_append_right (by simp [pn8])]
            rw [← hj]; congr 1; simp [pn8])
          rw [show off + 8 + j = off + (8 + j) by omega]
          exact this
        · rw [Option.map_some, Addr.add_lit] at e
          cases e
          exact ⟨off, rfl⟩
theorem row_set8 {w : World} {g : Nat} {t : TypeId} {u0 u1 u2 u3 u4 u5 u6 u7 v0 v1 v2 v3 v4 v5 v6 v7 : Value} (h : w.heap[g]? = some (.cells #[u0, u1, u2, u3, u4, u5, u6, u7] t (0, 0))) : ((((((((w.setCell ⟨g, 0, none⟩ v0).setCell ⟨g, 1, none⟩ v1).setCell ⟨g, 2, none⟩ v2).setCell ⟨g, 3, none⟩ v3).setCell ⟨g, 4, none⟩ v4).setCell ⟨g, 5, none⟩ v5).setCell ⟨g, 6, none⟩ v6).setCell ⟨g, 7, none⟩ v7).heap[g]? = some (.cells #[v0, v1, v2, v3, v4, v5, v6, v7] t (0, 0)) := by
  have h0 : (w.setCell ⟨g, 0, none⟩ v0).heap[g]? = some (.cells #[v0, u1, u2, u3, u4, u5, u6, u7] t (0, 0)) := heap_setCell_same _ g 0 _ t _ h
  have h1 : ((w.setCell ⟨g, 0, none⟩ v0).setCell ⟨g, 1, none⟩ v1).heap[g]? = some (.cells #[v0, v1, u2, u3, u4, u5, u6, u7] t (0, 0)) := heap_setCell_same _ g 1 _ t _ h0
  have h2 : (((w.setCell ⟨g, 0, none⟩ v0).setCell ⟨g, 1, none⟩ v1).setCell ⟨g, 2, none⟩ v2).heap[g]? = some (.cells #[v0, v1, v2, u3, u4, u5, u6, u7] t (0, 0)) := heap_setCell_same _ g 2 _ t _ h1
  have h3 : ((((w.setCell ⟨g, 0, none⟩ v0).setCell ⟨g, 1, none⟩ v1).setCell ⟨g, 2, none⟩ v2).setCell ⟨g, 3, none⟩ v3).heap[g]? = some (.cells #[v0, v1, v2, v3, u4, u5, u6, u7] t (0, 0)) := heap_setCell_same _ g 3 _ t _ h2
  have h4 : (((((w.setCell ⟨g, 0, none⟩ v0).setCell ⟨g, 1, none⟩ v1).setCell ⟨g, 2, none⟩ v2).setCell ⟨g, 3, none⟩ v3).setCell ⟨g, 4, none⟩ v4).heap[g]? = some (.cells #[v0, v1, v2, v3, v4, u5, u6, u7] t (0, 0)) := heap_setCell_same _ g 4 _ t _ h3
  have h5 : ((((((w.setCell ⟨g, 0, none⟩ v0).setCell ⟨g, 1, none⟩ v1).setCell ⟨g, 2, none⟩ v2).setCell ⟨g, 3, none⟩ v3).setCell ⟨g, 4, none⟩ v4).setCell ⟨g, 5, none⟩ v5).heap[g]? = some (.cells #[v0, v1, v2, v3, v4, v5, u6, u7] t (0, 0)) := heap_setCell_same _ g 5 _ t _ h4
  have h6 : (((((((w.setCell ⟨g, 0, none⟩ v0).setCell ⟨g, 1, none⟩ v1).setCell ⟨g, 2, none⟩ v2).setCell ⟨g, 3, none⟩ v3).setCell ⟨g, 4, none⟩ v4).setCell ⟨g, 5, none⟩ v5).setCell ⟨g, 6, none⟩ v6).heap[g]? = some (.cells #[v0, v1, v2, v3, v4, v5, v6, u7] t (0, 0)) := heap_setCell_same _ g 6 _ t _ h5
  have h7 : ((((((((w.setCell ⟨g, 0, none⟩ v0).setCell ⟨g, 1, none⟩ v1).setCell ⟨g, 2, none⟩ v2).setCell ⟨g, 3, none⟩ v3).setCell ⟨g, 4, none⟩ v4).setCell ⟨g, 5, none⟩ v5).setCell ⟨g, 6, none⟩ v6).setCell ⟨g, 7, none⟩ v7).heap[g]? = some (.cells #[v0, v1, v2, v3, v4, v5, v6, v7] t (0, 0)) := heap_setCell_same _ g 7 _ t _ h6
  exact h7
theorem P8.set8 {w : World} {g : Nat} {p q : Pn} {x y : Int} (h : P8 w g p x) : P8 ((((((((w.setCell ⟨g, 0, none⟩ (.int .i64 0)).setCell ⟨g, 1, none⟩ (.int .i64 (q.a1 : Int))).setCell ⟨g, 2, none⟩ (.int .i64 (q.a2 : Int))).setCell ⟨g, 3, none⟩ (.int .i64 (q.a3 : Int))).setCell ⟨g, 4, none⟩ (.int .i64 y)).setCell ⟨g, 5, none⟩ (.int .i64 (q.b1 : Int))).setCell ⟨g, 6, none⟩ (.int .i64 (q.b2 : Int))).setCell ⟨g, 7, none⟩ (.int .i64 (q.b3 : Int))) g q y := row_set8 h
theorem only_set8 {S : Nat → Prop} {A w : World} (h : Only S A w) {g : Nat} (hg : S g) (v0 v1 v2 v3 v4 v5 v6 v7 : Value) : Only S A ((((((((w.setCell ⟨g, 0, none⟩ v0).setCell ⟨g, 1, none⟩ v1).setCell ⟨g, 2, none⟩ v2).setCell ⟨g, 3, none⟩ v3).setCell ⟨g, 4, none⟩ v4).setCell ⟨g, 5, none⟩ v5).setCell ⟨g, 6, none⟩ v6).setCell ⟨g, 7, none⟩ v7) :=
  Only.setCell (Only.setCell (Only.setCell (Only.setCell (Only.setCell (Only.setCell (Only.setCell (Only.setCell h hg _) hg _) hg _) hg _) hg _) hg _) hg _) hg _
/-- p is the first of the fewest, so far -/
structure BestP (c : Cnt) (L : List Pn) (k : Nat) (p : Pn) : Prop where
  mem : p ∈ L
  le : ∀ q ∈ L.take k, aft 1000 c p ≤ aft 1000 c q
theorem CellsAt.only {S : Nat → Prop} {w w' : World} {a : Option Addr} {vs : List Value} (h : CellsAt w a vs) (ho : Only S w w') (hS : ∀ b off, a = some ⟨b, off, none⟩ → ¬ S b) : CellsAt w' a vs := by
  rcases h with rfl | ⟨b, off, rfl, h⟩
  · exact .inl rfl
  · exact .inr ⟨b, off, rfl, fun j v hj => ho.cell (h j v hj) (hS b off rfl)⟩
/-- a call that hands back pans with the fewest weighings behind them -/
def BestC (c : Cnt) (L : List Pn) (m : Nat) (w : World) (e : Ending) (w' : World) : Prop := ∃ p, p ∈ L ∧ (∀ q ∈ L, aft 1000 c p ≤ aft 1000 c q) ∧ e = .returned (pnV p p.dif) ∧ MemoAt w' m ∧ Only (fun j => j = m) w w'
theorem load103 {w : World} {g : Nat} {p : Pn} {x : Int} (h : P8 w g p x) : (loadVar 103 ⟨g, 0, none⟩).run Try.prog w = .ok (pnV p x) w :=
  run_loadVar_row (P := Try.prog) w g 103 103 _ (0, 0) _ h Try.underlying103 rfl (by kernel_rfl)
theorem results_c103 {fn : Func} {q : Tmp} (h : fn.results = #[.cell q 103]) (tmps : Array Value) (w : World) (g : Nat) (p : Pn) (x : Int) (hp : tmps.getD q undef = .pointer (some ⟨g, 0, none⟩)) (hg : P8 w g p x) :
    (results fn tmps).run Try.prog w = .ok (pnV p x) w := by
  rw [results_c1 h, hp]
  simp [asAddr, load103 hg, Result.andThen]
section
variable (g m b2 b3 : Nat) (c : Cnt) (la : Option Addr) (lc : Nat) (x : Pn) (R : List Pn) (w : World)
set_option maxRecDepth 100000 in
set_option maxHeartbeats 4000000 in
theorem best_92 (hc : c.fine) (hc1 : 1 < c.cases) (hL : ∀ p ∈ x :: R, Fits c p) (hl : R.length + 1 ≤ 1000000) (hlc : R.length + 1 ≤ lc) (hA : CellsAt w la (pn8s (x :: R))) (h2 : w.cell? ⟨b2, 0, none⟩ = some (.pointer (some ⟨g, 0, none⟩))) (h3 : I5 w b3 95 c.g c.l c.h c.b c.z) (hg : w.cell? ⟨g, 2, none⟩ = some (.map (some m))) (hM : MemoAt w m) :
    Calls Try.prog 92 #[.slice la (R.length + 1) lc, .func (.func 94) #[] #[.pointer (some ⟨b2, 0, none⟩), .pointer (some ⟨b3, 0, none⟩)]] w (BestC c (x :: R) m w) := by
  obtain ⟨V, hV, hBV, hv⟩ : ∃ V, V = w.alloc (.cells #[.int .i64 0, .int .i64 0, .int .i64 0, .int .i64 0, .int .i64 0, .int .i64 0, .int .i64 0, .int .i64 0] 103) ∧ Below w.heap.size w V ∧ P8 V w.heap.size ⟨0, 0, 0, 0, 0, 0⟩ 0 := ⟨_, rfl, bnew _ _, p8_new w ⟨0, 0, 0, 0, 0, 0⟩ 0⟩
  obtain ⟨X, hX, hBX, hx⟩ : ∃ X, X = V.alloc (.cells #[.int .i64 0, .int .i64 (x.a1 : Int), .int .i64 (x.a2 : Int), .int .i64 (x.a3 : Int), .int .i64 x.dif, .int .i64 (x.b1 : Int), .int .i64 (x.b2 : Int), .int .i64 (x.b3 : Int)] 103) ∧ Below V.heap.size V X ∧ P8 X V.heap.size x x.dif := ⟨_, rfl, bnew _ _, p8_new _ _ _⟩
  have hzV : V.heap.size = w.heap.size + 1 := by rw [hV]; simp
  have hzX : X.heap.size = w.heap.size + 1 + 1 := by rw [hX]; simp [hzV]
  have hB := bstep hBV hBX
  have HL := hid hL; have Hl := hid hl; have Hlc := hid hlc; have HA := hid (hA.mono hB); have H2 := hid (cstep h2 hB); have H3 := hid (h3.mono hB); have Hg := hid (cstep hg hB); have HM := hid (hM.mono hB)
  have hml := hM.lt
  have Hn := hid (show m < w.heap.size ∧ b2 ≠ m ∧ b3 ≠ m ∧ g ≠ m ∧ b2 < w.heap.size ∧ b3 < w.heap.size ∧ g < w.heap.size from ⟨hml, hM.ne h2, hM.ne h3.c0, hM.ne hg, lt_of_cell h2, h3.lt, lt_of_cell hg⟩)
  obtain ⟨b, off, rfl, c0, c1, c2, c3, c4, c5, c6, c7⟩ := pnCells (hA.mono hBV) (k := 0) (p := x) rfl
  obtain ⟨_, _, e, d0, _⟩ := pnCells hA (k := 0) (p := x) rfl
  cases e
  have Hnb := hid (show b ≠ m ∧ b < w.heap.size from ⟨hM.ne d0, lt_of_cell d0⟩)
  obtain ⟨a2, hsl, hR⟩ := slice_pns HA.out Hlc.out
  have HR := hid hR.1; have Hsl := hid hsl
  have Hnb2 := hid (show R ≠ [] → ∀ q o, a2 = some ⟨q, o, none⟩ → q ≠ m ∧ q < w.heap.size from fun h q o e => by
    obtain ⟨o1, e1⟩ := hR.2 h q o e
    cases e1
    exact Hnb.out)
  obtain ⟨rb, hrb⟩ : ∃ q, q = w.heap.size := ⟨_, rfl⟩
  obtain ⟨ob, hob⟩ : ∃ q, q = V.heap.size := ⟨_, rfl⟩
  have hv2 := hv.mono hBX
  rw [← hrb] at hv2 Hn Hnb Hnb2 hzV hzX
  rw [← hob] at hx hzV
  have HX := hid hX; have HV := hid hV; have Hv := hid hv2; have Hx := hid hx; have HB := hid hB; have Hrb := hid hrb; have Hob := hid hob; have HzV := hid hzV; have HzX := hid hzX; have Hc := hid hc; have Hc1 := hid hc1
  have Hst := hid (show ∃ p, BestP c (x :: R) (0 + 1) p ∧ P8 X ob p p.dif from ⟨x, ⟨List.mem_cons_self .., fun q hq => by simp at hq; subst hq; exact Nat.le_refl _⟩, hx⟩)
  rw [show off + 0 * 8 = off by omega] at c0 c1 c2 c3 c4 c5 c6 c7
  clear hX hV hv hv2 hx hB hBV hBX hzV hzX hc hc1 hL hl hlc hA h2 h3 hg hM hR hsl d0 hml hob hrb
  go_enter Try.func92, Try.ntmps92
  go_upto_region 1 with (fail)
  rw [← HV.out, ← Hrb.out]
  go_upto_region 2 with (fail)
  rw [← HX.out, ← Hob.out]
  clear c0 c1 c2 c3 c4 c5 c6 c7
  have hsl := Hsl.out
  go_wp2
  clear hsl
  go_loopw [7, 14] (fun _ i wr => ∃ (k : Nat) (p : Pn), k ≤ R.length ∧ i = .int .i64 k ∧ BestP c (x :: R) (k + 1) p ∧ P8 wr ob p p.dif ∧ MemoAt wr m ∧ Only (fun q => q = m ∨ q = ob) X wr) (fun _ i _ => R.length - (intOf i).toNat)
  case atStart =>
    obtain ⟨p, h1, h2⟩ := Hst.out
    exact ⟨0, p, Nat.zero_le _, rfl, h1, h2, HM.out, Only.refl _ _⟩
  case round =>
    obtain ⟨k, p, hk, rfl, hbest, hp, hm, hO⟩ := hrel
    obtain ⟨wo, rfl⟩ : ∃ wo : World, wo = wr := ⟨_, rfl⟩
    have Hbest := hid hbest; have Hp := hid hp; have Hm := hid hm; have HO := hid hO
    have hn := Hn.out; have hzX := HzX.out; have hzV := HzV.out
    have Hv1 := hid (show P8 wo rb ⟨0, 0, 0, 0, 0, 0⟩ 0 from (hO.block _ Hv.out.lt (by omega)).trans Hv.out)
    by_cases hlt : k < R.length
    · obtain ⟨y, hy⟩ : ∃ y, R[k]? = some y := ⟨R[k], List.getElem?_eq_getElem hlt⟩
      have hne : R ≠ [] := by rintro rfl; simp at hlt
      have hRo : CellsAt wo a2 (pn8s R) := CellsAt.only HR.out hO fun q o e => by have := Hnb2.out hne q o e; omega
      obtain ⟨qb, qo, rfl, c0, c1, c2, c3, c4, c5, c6, c7⟩ := pnCells hRo hy
      have hI : (k : Int) < (R.length : Int) := by omega
      have hyf : Fits c y := HL.out y (List.mem_cons_of_mem _ (List.mem_of_getElem? hy))
      have hpf : Fits c p := HL.out p hbest.mem
      obtain ⟨Y, hY, hBY, hyb⟩ : ∃ Y, Y = wo.alloc (.cells #[.int .i64 0, .int .i64 (y.a1 : Int), .int .i64 (y.a2 : Int), .int .i64 (y.a3 : Int), .int .i64 y.dif, .int .i64 (y.b1 : Int), .int .i64 (y.b2 : Int), .int .i64 (y.b3 : Int)] 103) ∧ Below wo.heap.size wo Y ∧ P8 Y wo.heap.size y y.dif := ⟨_, rfl, bnew _ _, p8_new _ _ _⟩
      have h2 : Y.cell? ⟨b2, 0, none⟩ = some (.pointer (some ⟨g, 0, none⟩)) := cstep (hO.cell H2.out (by simp only; omega)) hBY
      have h3 : I5 Y b3 95 c.g c.l c.h c.b c.z := I5.mono ((hO.block _ H3.out.lt (by omega)).trans H3.out) hBY
      have hg : Y.cell? ⟨g, 2, none⟩ = some (.map (some m)) := cstep (hO.cell Hg.out (by simp only; omega)) hBY
      have hless := less_94 g m b2 b3 c y p y.dif p.dif Y Hc.out Hc1.out hyf hpf h2 h3 hg (hm.mono hBY)
      have e1 : IntKind.i64.wrap ((k : Int) + 1) = (k : Int) + 1 := wrap_i64_of (by omega) (by have := Hl.out; omega)
      have htk : (x :: R).take (k + 1 + 1) = (x :: R).take (k + 1) ++ [y] := by
        rw [List.take_succ_cons, List.take_succ_cons, List.cons_append]
        congr 1
        obtain ⟨h, e⟩ := List.getElem?_eq_some_iff.1 hy
        rw [List.take_succ_eq_append_getElem h, e]
      obtain ⟨xb, hxb⟩ : ∃ q, q = wo.heap.size := ⟨_, rfl⟩
      rw [← hxb] at hyb
      have Hy := hid hy; have HY := hid hY; have HBY := hid hBY; have Hyb := hid hyb; have Hp1 := hid (hp.mono hBY); have Hxb := hid hxb; have Htk := hid htk; have Hk := hid hlt
      have Hv2 := hid (Hv1.out.mono hBY); have Hxlt := hid (show X.heap.size ≤ xb by rw [hxb]; exact hO.size)
      have HO2 := hid (hO.trans (Only.of_below hBY))
      obtain ⟨A, hA⟩ : ∃ A, A = aft 1000 c y := ⟨_, rfl⟩
      obtain ⟨D, hD⟩ : ∃ D, D = aft 1000 c p := ⟨_, rfl⟩
      rw [← hA, ← hD] at hless
      have HA1 := hid hA; have HD1 := hid hD
      obtain ⟨yd, hyd⟩ : ∃ z, z = y.dif := ⟨_, rfl⟩
      obtain ⟨pd, hpd⟩ : ∃ z, z = p.dif := ⟨_, rfl⟩
      rw [← hyd, ← hpd] at hless
      rw [← hyd] at Hyb c4 HY
      rw [← hpd] at Hp1
      unfold pnV at hless
      have Hless := hid hless; have Hyd := hid hyd; have Hpd := hid hpd
      clear hbest hp hm hO hRo hyf hpf hY hBY hyb h2 h3 hg hless htk hxb hy hA hD hyd hpd hn hzX hzV hne
      go_upto_region 5 with (fail)
      rw [← HY.out, ← Hxb.out]
      clear c0 c1 c2 c3 c4 c5 c6 c7
      have c0 := Hyb.out.c0; have c1 := Hyb.out.c1; have c2 := Hyb.out.c2; have c3 := Hyb.out.c3; have c4 := Hyb.out.c4; have c5 := Hyb.out.c5; have c6 := Hyb.out.c6; have c7 := Hyb.out.c7
      have p0 := Hp1.out.c0; have p1 := Hp1.out.c1; have p2 := Hp1.out.c2; have p3 := Hp1.out.c3; have p4 := Hp1.out.c4; have p5 := Hp1.out.c5; have p6 := Hp1.out.c6; have p7 := Hp1.out.c7
      go_wp2_with fail
      refine Hless.out.mono ?_
      rintro e w2 ⟨rfl, hm2, hO2⟩
      have hn := Hn.out; have hzX := HzX.out; have hzV := HzV.out; have hxl := Hxlt.out
      have HO3 := hid (HO2.out.trans (hO2.mono (T := fun q => q = m ∨ q = ob) fun q h => .inl h))
      have Hm2 := hid hm2
      have Hy2 := hid (show P8 w2 xb y yd from (hO2.block _ Hyb.out.lt (by omega)).trans Hyb.out)
      have Hp2 := hid (show P8 w2 ob p pd from (hO2.block _ Hp1.out.lt (by omega)).trans Hp1.out)
      clear hm2 hO2 hn hzX hzV hxl c0 c1 c2 c3 c4 c5 c6 c7 p0 p1 p2 p3 p4 p5 p6 p7
      by_cases hAD : A < D
      · have b1 : decide (A < D) = true := decide_eq_true hAD
        have Hend := hid (show BestP c (x :: R) (k + 1 + 1) y from ⟨List.mem_cons_of_mem _ (List.mem_of_getElem? Hy.out), fun q hq => by
          rw [Htk.out, List.mem_append, List.mem_singleton] at hq
          have h1 := HA1.out; have h2 := HD1.out
          rcases hq with hq | rfl
          · have := Hbest.out.le q hq; omega
          · exact Nat.le_refl _⟩)
        have c0 := Hy2.out.c0; have c1 := Hy2.out.c1; have c2 := Hy2.out.c2; have c3 := Hy2.out.c3; have c4 := Hy2.out.c4; have c5 := Hy2.out.c5; have c6 := Hy2.out.c6; have c7 := Hy2.out.c7
        have f0 := Hp2.out.f 0; have f1 := Hp2.out.f 1; have f2 := Hp2.out.f 2; have f3 := Hp2.out.f 3; have f4 := Hp2.out.f 4; have f5 := Hp2.out.f 5; have f6 := Hp2.out.f 6; have f7 := Hp2.out.f 7
        have p0 := Hp2.out.c0; have p1 := Hp2.out.c1; have p2 := Hp2.out.c2; have p3 := Hp2.out.c3; have p4 := Hp2.out.c4; have p5 := Hp2.out.c5; have p6 := Hp2.out.c6; have p7 := Hp2.out.c7
        clear hAD
        go_wp2
        go_roundw
        case rel =>
          refine ⟨k + 1, y, by omega, by go_num, Hend.out, ?_, ?_, ?_⟩
          · rw [← Hyd.out]; exact Hp2.out.set8
          · exact Hm2.out.same ((only_set8 (S := fun q => q = ob) (Only.refl _ _) rfl _ _ _ _ _ _ _ _).block m Hm2.out.lt (by have := Hn.out; have := HzV.out; omega))
          · exact only_set8 HO3.out (.inr rfl) _ _ _ _ _ _ _ _
        case measure => simp [intOf]; omega
      · have b1 : decide (A < D) = false := decide_eq_false hAD
        have Hend := hid (show BestP c (x :: R) (k + 1 + 1) p from ⟨Hbest.out.mem, fun q hq => by
          rw [Htk.out, List.mem_append, List.mem_singleton] at hq
          have h1 := HA1.out; have h2 := HD1.out
          rcases hq with hq | rfl
          · exact Hbest.out.le q hq
          · omega⟩)
        clear hAD
        go_wp2
        go_roundw
        case rel => exact ⟨k + 1, p, by omega, by go_num, Hend.out, by rw [← Hpd.out]; exact Hp2.out, Hm2.out, HO3.out⟩
        case measure => simp [intOf]; omega
    · obtain rfl : k = R.length := by omega
      have hI : ¬ (R.length : Int) < (R.length : Int) := by omega
      have p0 := hp.c0; have p1 := hp.c1; have p2 := hp.c2; have p3 := hp.c3; have p4 := hp.c4; have p5 := hp.c5; have p6 := hp.c6; have p7 := hp.c7
      have hv1 := Hv1.out
      have f0 := hv1.f 0; have f1 := hv1.f 1; have f2 := hv1.f 2; have f3 := hv1.f 3; have f4 := hv1.f 4; have f5 := hv1.f 5; have f6 := hv1.f 6; have f7 := hv1.f 7
      have r0 := hv1.c0; have r1 := hv1.c1; have r2 := hv1.c2; have r3 := hv1.c3; have r4 := hv1.c4; have r5 := hv1.c5; have r6 := hv1.c6; have r7 := hv1.c7
      have Hlast := hid (show ∀ q ∈ x :: R, aft 1000 c p ≤ aft 1000 c q from fun q hq => hbest.le q (by rw [List.take_of_length_le (by simp)]; exact hq))
      have Hmem := hid hbest.mem
      have Hne := hid (show m ≠ rb by omega)
      clear hbest hp hm hO hn hzX hzV hk hlt
      go_wp2
      refine bodyPost_ret (results_c103 rfl _ _ rb p p.dif rfl hv1.set8) rfl ?_
      refine ⟨p, Hmem.out, Hlast.out, rfl, ?_, ?_⟩
      · exact Hm.out.same ((only_set8 (S := fun q => q = rb) (Only.refl _ _) rfl _ _ _ _ _ _ _ _).block m Hm.out.lt Hne.out)
      · have hn := Hn.out; have hzX := HzX.out; have hzV := HzV.out; have hr := Hrb.out
        have h1 := only_set8 (S := fun q => q = m ∨ q = ob ∨ q = rb) ((Only.of_below HB.out).trans (HO.out.mono fun q h => by rcases h with h | h <;> simp [h])) (.inr (.inr rfl)) (.int .i64 0) (.int .i64 (p.a1 : Int)) (.int .i64 (p.a2 : Int)) (.int .i64 (p.a3 : Int)) (.int .i64 p.dif) (.int .i64 (p.b1 : Int)) (.int .i64 (p.b2 : Int)) (.int .i64 (p.b3 : Int))
        exact ⟨h1.os, h1.tape, h1.output, h1.size, fun q hq hs => h1.block q hq (fun h => by rcases h with h | h | h <;> first | exact hs h | omega)⟩
end

end Go.Proofs.Ytelgbjfgmpkepaa

namespace Go.Proofs.Ytelgbjfgmpkepaa
open Go.RowKit Go.Shelf

theorem splitsS_ne (c : Cnt) : ∃ x R, splitsS c = x :: R := by
  have h : (⟨0, 0, 0, 0, 0, 0⟩ : Pn) ∈ splitsS c := mem_splitsS.2 ⟨by simp, by simp, by simp, by simp [Pn.left, Pn.right], by simp [Pn.left, Pn.right]⟩
  cases hs : splitsS c with
  | nil => rw [hs] at h; cases h
  | cons x R => exact ⟨x, R, rfl⟩
section
variable (g m : Nat) (c : Cnt) (w : World)
set_option maxRecDepth 100000 in
set_option maxHeartbeats 4000000 in
theorem best_81 (hc : c.fine) (hc1 : 1 < c.cases) (hg : w.cell? ⟨g, 2, none⟩ = some (.map (some m))) (hM : MemoAt w m) : Calls Try.prog 81 #[.pointer (some ⟨g, 0, none⟩), cntV c] w (BestC c (splitsS c) m w) := by
  obtain ⟨A, hA, hBA, ha⟩ : ∃ A, A = w.alloc (.cells #[.pointer (some ⟨g, 0, none⟩)] 72) ∧ Below w.heap.size w A ∧ VAt A w.heap.size 72 (.pointer (some ⟨g, 0, none⟩)) := ⟨_, rfl, bnew _ _, heap_alloc_new _ _⟩
  obtain ⟨D, hD, hBD, hd⟩ := box95 A c
  obtain ⟨V, hV, hBV, hv⟩ : ∃ V, V = D.alloc (.cells #[.int .i64 0, .int .i64 0, .int .i64 0, .int .i64 0, .int .i64 0, .int .i64 0, .int .i64 0, .int .i64 0] 103) ∧ Below D.heap.size D V ∧ P8 V D.heap.size ⟨0, 0, 0, 0, 0, 0⟩ 0 := ⟨_, rfl, bnew _ _, p8_new D ⟨0, 0, 0, 0, 0, 0⟩ 0⟩
  have hzA : A.heap.size = w.heap.size + 1 := by rw [hA]; simp
  have hzD : D.heap.size = w.heap.size + 1 + 1 := by rw [hD]; simp [hzA]
  have hB := bstep hBA (bstep hBD hBV)
  rw [hzA] at hd
  rw [hzD] at hv
  have hml := hM.lt
  have Hml := hid hml
  have Hg := hid (cstep hg hB); have HM := hid (hM.mono hB)
  have Ha := hid (ha.mono (bstep hBD hBV)); have Hd := hid (hd.mono hBV); have Hv := hid hv
  have HA := hid hA; have HD := hid hD; have HV := hid hV; have HB := hid hB
  obtain ⟨rb, hrb⟩ : ∃ q, q = w.heap.size + 1 + 1 := ⟨_, rfl⟩
  obtain ⟨cb, hcb⟩ : ∃ q, q = w.heap.size + 1 := ⟨_, rfl⟩
  have Hrb := hid hrb; have Hcb := hid hcb
  rw [← hrb] at Hv
  rw [← hcb] at Hd
  have Hf := hid hc; have Hc1 := hid hc1
  obtain ⟨x, R, hL⟩ := splitsS_ne c
  have HL := hid hL
  have HFit := hid (show ∀ p ∈ x :: R, Fits c p from fun p hp => by rw [← hL] at hp; exact mem_splitsS.1 hp)
  have Hlen := hid (show R.length + 1 ≤ 1000000 by have := splitsS_len hc; rw [hL] at this; simp at this; omega)
  have Hsp := hid fun (w' : World) => splits_c c w'
  have Hcol := hid fun (cb : Nat) (w' : World) (h : I5 w' cb 95 c.g c.l c.h c.b c.z) => collect_93 c cb w' hc h
  rw [hL] at Hcol ⊢
  rw [cntV_eq] at Hsp ⊢
  have i0 := Hd.out.c0; have i1 := Hd.out.c1; have i2 := Hd.out.c2; have i3 := Hd.out.c3; have i4 := Hd.out.c4
  clear hA hD hV hBA ha hBD hd hBV hv hB hzA hzD hrb hcb hc hc1 hg hM hL hml
  go_enter Try.func81, Try.ntmps81
  go_upto_region 1 with (fail)
  rw [← HA.out, ← HD.out, ← HV.out, ← Hrb.out, ← Hcb.out]
  go_wp2_with fail
  refine (Hsp.out V).mono ?_
  rintro e w2 ⟨rfl, hw2⟩
  have HB2 := hid (show Below V.heap.size V w2 by rw [hw2]; exact bnew _ _)
  have Hcb2 := hid (show I5 w2 V.heap.size 95 c.g c.l c.h c.b c.z by rw [hw2]; exact i5_new _ _ _ _ _ _ _)
  clear hw2 i0 i1 i2 i3 i4
  go_wp2_with fail
  refine (Hcol.out V.heap.size w2 Hcb2.out).mono ?_
  rintro e w3 ⟨la, lc, rfl, hA3, hl3, hB3⟩
  have HB3 := hid (bstep HB2.out hB3); have HA3 := hid hA3; have Hl3 := hid hl3
  clear hA3 hl3 hB3
  go_wp2_with fail
  refine (best_92 g m w.heap.size cb c la lc x R w3 Hf.out Hc1.out HFit.out Hlen.out Hl3.out HA3.out ((Ha.out.mono HB3.out).c) (Hd.out.mono HB3.out) (cstep Hg.out HB3.out) (HM.out.mono HB3.out)).mono ?_
  rintro e w4 ⟨p, hp, hle, rfl, hM4, hO4⟩
  have hv4 : P8 w4 rb ⟨0, 0, 0, 0, 0, 0⟩ 0 := (hO4.block _ (Hv.out.mono HB3.out).lt (by have := Hml.out; have := Hrb.out; omega)).trans (Hv.out.mono HB3.out)
  have HO4 := hid ((Only.of_below (bstep HB.out HB3.out)).trans hO4); have HM4 := hid hM4; have Hp := hid hp; have Hle := hid hle
  have f0 := hv4.f 0; have f1 := hv4.f 1; have f2 := hv4.f 2; have f3 := hv4.f 3; have f4 := hv4.f 4; have f5 := hv4.f 5; have f6 := hv4.f 6; have f7 := hv4.f 7
  have r0 := hv4.c0; have r1 := hv4.c1; have r2 := hv4.c2; have r3 := hv4.c3; have r4 := hv4.c4; have r5 := hv4.c5; have r6 := hv4.c6; have r7 := hv4.c7
  have Hne := hid (show m ≠ rb by have := Hml.out; have := Hrb.out; omega)
  clear hM4 hO4 hp hle
  unfold pnV
  go_wp2
  refine bodyPost_ret (results_c103 rfl _ _ rb p p.dif rfl hv4.set8) rfl ?_
  refine ⟨p, Hp.out, Hle.out, rfl, ?_, ?_⟩
  · exact HM4.out.same ((only_set8 (S := fun q => q = rb) (Only.refl _ _) rfl _ _ _ _ _ _ _ _).block m HM4.out.lt Hne.out)
  · have hr := Hrb.out
    have h1 := only_set8 (S := fun q => q = m ∨ q = rb) (HO4.out.mono fun q h => .inl h) (.inr rfl) (.int .i64 0) (.int .i64 (p.a1 : Int)) (.int .i64 (p.a2 : Int)) (.int .i64 (p.a3 : Int)) (.int .i64 p.dif) (.int .i64 (p.b1 : Int)) (.int .i64 (p.b2 : Int)) (.int .i64 (p.b3 : Int))
    exact ⟨h1.os, h1.tape, h1.output, h1.size, fun q hq hs => h1.block q hq (fun h => by rcases h with h | h <;> first | exact hs h | omega)⟩
end

end Go.Proofs.Ytelgbjfgmpkepaa

namespace Go.Proofs.Ytelgbjfgmpkepaa
open Go.RowKit Go.Shelf

/-- how many of the first k coppers have the number a, and the place r in a weighing -/
def hitN (K : Kn) (ws : List Int) (a r : Int) : Nat → Nat
  | 0 => 0
  | k + 1 => hitN K ws a r k + (if nth K.cop k = a ∧ nth ws k = r then 1 else 0)
theorem krK_len (K : Kn) (ws : List Int) (r : Int) : (krK K ws r).cop.length = K.cop.length := leftK_len _ _
theorem mem_withL {K : Kn} {ws : List Int} {r : Int} {c : Int × Int} : c ∈ withL K ws r ↔ c ∈ casesOf K ∧ resultOf ws c = r := by
  unfold withL; rw [List.mem_filter, decide_eq_true_iff]
theorem krK_nth {K : Kn} {ws : List Int} {r : Int} {i : Nat} (h : i < K.cop.length) : nth (krK K ws r).cop i = (if hasKind (nth K.cop i) 1 = true ∧ -nth ws i = r then 1 else 0) + (if hasKind (nth K.cop i) 2 = true ∧ nth ws i = r then 2 else 0) := by
  unfold krK
  rw [leftK_nth h]
  unfold bitAt
  have e1 : (((i : Int), (1 : Int)) ∈ withL K ws r) = (hasKind (nth K.cop i) 1 = true ∧ -nth ws i = r) := propext (by
    rw [mem_withL, mem_cases (.inl rfl)]
    unfold resultOf
    rw [if_neg (by simp), if_neg (by simp)]
    simp only [Int.toNat_natCast]
    constructor
    · rintro ⟨⟨_, h1⟩, h2⟩; exact ⟨h1, h2⟩
    · rintro ⟨h1, h2⟩; exact ⟨⟨h, h1⟩, h2⟩)
  have e2 : (((i : Int), (2 : Int)) ∈ withL K ws r) = (hasKind (nth K.cop i) 2 = true ∧ nth ws i = r) := propext (by
    rw [mem_withL, mem_cases (.inr rfl)]
    unfold resultOf
    rw [if_neg (by simp), if_pos (by rfl)]
    simp only [Int.toNat_natCast]
    constructor
    · rintro ⟨⟨_, h1⟩, h2⟩; exact ⟨h1, h2⟩
    · rintro ⟨h1, h2⟩; exact ⟨⟨h, h1⟩, h2⟩)
  simp only [e1, e2]
theorem krK_none {K : Kn} {ws : List Int} {r : Int} : (krK K ws r).none = true ↔ K.none = true ∧ r = 0 := by
  unfold krK leftK
  simp only [decide_eq_true_iff]
  rw [mem_withL, mem_casesNone]
  unfold resultOf
  rw [if_pos (by decide)]
  constructor
  · rintro ⟨h1, h2⟩; exact ⟨h1, h2.symm⟩
  · rintro ⟨h1, h2⟩; exact ⟨h1, h2.symm⟩
section
variable {K : Kn} {ws : List Int}
theorem four_of {x : Int} (h : 0 ≤ x ∧ x ≤ 3) : x = 0 ∨ x = 1 ∨ x = 2 ∨ x = 3 := by omega
theorem three_of {x : Int} (h : -1 ≤ x ∧ x ≤ 1) : x = -1 ∨ x = 0 ∨ x = 1 := by omega
theorem counts_total (hc : ∀ k, k < K.cop.length → 0 ≤ nth K.cop k ∧ nth K.cop k ≤ 3) : ∀ k, k ≤ K.cop.length → (K.cop.take k).count 0 + (K.cop.take k).count 1 + (K.cop.take k).count 2 + (K.cop.take k).count 3 = k := by
  intro k
  induction k with
  | zero => intro _; simp
  | succ k ih =>
    intro hk
    have ih := ih (by omega)
    have hk' : k < K.cop.length := by omega
    rw [count_take hk', count_take hk', count_take hk', count_take hk']
    rcases four_of (hc k hk') with h | h | h | h <;> rw [h] <;> simp <;> omega
theorem kr_side (hc : ∀ k, k < K.cop.length → 0 ≤ nth K.cop k ∧ nth K.cop k ≤ 3) (hw : WOk K.cop.length ws) {r : Int} (hr : r = 1 ∨ r = -1) : ∀ k, k ≤ K.cop.length →
    ((krK K ws r).cop.take k).count 1 = hitN K ws 1 (-r) k + hitN K ws 3 (-r) k ∧ ((krK K ws r).cop.take k).count 2 = hitN K ws 2 r k + hitN K ws 3 r k ∧ ((krK K ws r).cop.take k).count 3 = 0 := by
  intro k
  induction k with
  | zero => intro _; simp [hitN]
  | succ k ih =>
    intro hk
    obtain ⟨i1, i2, i3⟩ := ih (by omega)
    have hk' : k < K.cop.length := by omega
    have hkr : k < (krK K ws r).cop.length := by rw [krK_len]; exact hk'
    rw [count_take hkr, count_take hkr, count_take hkr, krK_nth hk', i1, i2, i3]
    simp only [hitN]
    unfold hasKind
    rcases hr with rfl | rfl <;> rcases four_of (hc k hk') with h | h | h | h <;> rcases three_of (hw.2 k hk') with g | g | g <;> rw [h, g] <;> simp <;> omega
theorem kr_even (hc : ∀ k, k < K.cop.length → 0 ≤ nth K.cop k ∧ nth K.cop k ≤ 3) (hw : WOk K.cop.length ws) : ∀ k, k ≤ K.cop.length →
    ((krK K ws 0).cop.take k).count 1 + hitN K ws 1 1 k + hitN K ws 1 (-1) k = (K.cop.take k).count 1 ∧ ((krK K ws 0).cop.take k).count 2 + hitN K ws 2 1 k + hitN K ws 2 (-1) k = (K.cop.take k).count 2 ∧ ((krK K ws 0).cop.take k).count 3 + hitN K ws 3 1 k + hitN K ws 3 (-1) k = (K.cop.take k).count 3 ∧ hitN K ws 0 1 k + hitN K ws 0 (-1) k ≤ (K.cop.take k).count 0 := by
  intro k
  induction k with
  | zero => intro _; simp [hitN]
  | succ k ih =>
    intro hk
    obtain ⟨i1, i2, i3, i4⟩ := ih (by omega)
    have hk' : k < K.cop.length := by omega
    have hkr : k < (krK K ws 0).cop.length := by rw [krK_len]; exact hk'
    rw [count_take hkr, count_take hkr, count_take hkr, krK_nth hk', count_take hk', count_take hk', count_take hk', count_take hk']
    simp only [hitN]
    unfold hasKind
    rcases four_of (hc k hk') with h | h | h | h <;> rcases three_of (hw.2 k hk') with g | g | g <;> rw [h, g] <;> simp <;> omega
theorem hit_sum (hc : ∀ k, k < K.cop.length → 0 ≤ nth K.cop k ∧ nth K.cop k ≤ 3) (hw : WOk K.cop.length ws) : ∀ k, k ≤ K.cop.length →
    (ws.take k).sum = ((hitN K ws 0 1 k + hitN K ws 1 1 k + hitN K ws 2 1 k + hitN K ws 3 1 k : Nat) : Int) - ((hitN K ws 0 (-1) k + hitN K ws 1 (-1) k + hitN K ws 2 (-1) k + hitN K ws 3 (-1) k : Nat) : Int) := by
  intro k
  induction k with
  | zero => intro _; simp [hitN]
  | succ k ih =>
    intro hk
    have ih := ih (by omega)
    have hk' : k < K.cop.length := by omega
    rw [take_succ_nth (by rw [hw.1]; exact hk'), List.sum_append, ih]
    simp only [hitN]
    rcases four_of (hc k hk') with h | h | h | h <;> rcases three_of (hw.2 k hk') with g | g | g <;> rw [h, g] <;> simp <;> omega
/-- the pans of a weighing -/
def pansOf (K : Kn) (ws : List Int) : Pn := ⟨hitN K ws 1 1 K.cop.length, hitN K ws 1 (-1) K.cop.length, hitN K ws 2 1 K.cop.length, hitN K ws 2 (-1) K.cop.length, hitN K ws 3 1 K.cop.length, hitN K ws 3 (-1) K.cop.length⟩
def Pn.swap (p : Pn) : Pn := ⟨p.b1, p.a1, p.b2, p.a2, p.b3, p.a3⟩
theorem cnt_eq5 {c d : Cnt} (h1 : c.g = d.g) (h2 : c.l = d.l) (h3 : c.h = d.h) (h4 : c.b = d.b) (h5 : c.z = d.z) : c = d := by
  cases c; cases d; simp only at h1 h2 h3 h4 h5; subst h1; subst h2; subst h3; subst h4; subst h5; rfl
theorem cop_total {C : Kn} (hc : ∀ k, k < C.cop.length → 0 ≤ nth C.cop k ∧ nth C.cop k ≤ 3) : (cntOf C).g + (cntOf C).l + (cntOf C).h + (cntOf C).b = C.cop.length := by
  have := counts_total hc _ (Nat.le_refl _)
  rw [List.take_length] at this
  exact this
theorem krK_cop (K : Kn) (ws : List Int) (r : Int) : ∀ k, k < (krK K ws r).cop.length → 0 ≤ nth (krK K ws r).cop k ∧ nth (krK K ws r).cop k ≤ 3 := by
  intro k hk
  rw [krK_len] at hk
  unfold krK
  rw [leftK_nth hk]
  exact bitAt_range _ _
theorem kr_cnt (hc : ∀ k, k < K.cop.length → 0 ≤ nth K.cop k ∧ nth K.cop k ≤ 3) (hw : WOk K.cop.length ws) :
    cntOf (krK K ws 1) = resL (cntOf K) (pansOf K ws) ∧ cntOf (krK K ws (-1)) = resR (cntOf K) (pansOf K ws) ∧ cntOf (krK K ws 0) = resE (cntOf K) (pansOf K ws) := by
  have t := cop_total hc
  have t1 := cop_total (krK_cop K ws 1)
  have t2 := cop_total (krK_cop K ws (-1))
  have t0 := cop_total (krK_cop K ws 0)
  obtain ⟨a1, a2, a3⟩ := kr_side hc hw (r := 1) (.inl rfl) _ (Nat.le_refl _)
  obtain ⟨b1, b2, b3⟩ := kr_side hc hw (r := -1) (.inr rfl) _ (Nat.le_refl _)
  obtain ⟨e1, e2, e3, _⟩ := kr_even hc hw _ (Nat.le_refl _)
  rw [List.take_of_length_le (by rw [krK_len]; exact Nat.le_refl _)] at a1 a2 a3 b1 b2 b3 e1 e2 e3
  rw [List.take_length] at e1 e2 e3
  rw [krK_len] at t1 t2 t0
  simp only [Int.neg_neg] at a1 a2 a3 b1 b2 b3
  have z1 : (krK K ws 1).none = false := by
    cases h : (krK K ws 1).none with
    | false => rfl
    | true => have := (krK_none.1 h).2; omega
  have z2 : (krK K ws (-1)).none = false := by
    cases h : (krK K ws (-1)).none with
    | false => rfl
    | true => have := (krK_none.1 h).2; omega
  have z0 : (krK K ws 0).none = K.none := by
    cases h : K.none with
    | true => exact krK_none.2 ⟨h, rfl⟩
    | false =>
      cases h2 : (krK K ws 0).none with
      | false => rfl
      | true => rw [(krK_none.1 h2).1] at h; cases h
  unfold cntOf at t t1 t2 t0
  unfold resL resR resE Cnt.kept pansOf cntOf
  rw [z1, z2, z0]
  simp only at t t1 t2 t0 ⊢
  refine ⟨cnt_eq5 ?_ ?_ ?_ ?_ rfl, cnt_eq5 ?_ ?_ ?_ ?_ rfl, cnt_eq5 ?_ ?_ ?_ ?_ rfl⟩ <;> simp only <;> omega
theorem swap_res (c : Cnt) (p : Pn) : resL c p.swap = resR c p ∧ resR c p.swap = resL c p ∧ resE c p.swap = resE c p := by
  refine ⟨rfl, rfl, ?_⟩
  unfold resE Pn.swap
  simp only
  rw [Nat.sub_right_comm c.l, Nat.sub_right_comm c.h, Nat.sub_right_comm c.b]
/-- a valid weighing has pans that fit, the other way round if need be -/
theorem pans_fit (hc : ∀ k, k < K.cop.length → 0 ≤ nth K.cop k ∧ nth K.cop k ≤ 3) (hw : WOk K.cop.length ws) (hs : ws.sum = 0) : Fits (cntOf K) (pansOf K ws) ∨ Fits (cntOf K) (pansOf K ws).swap := by
  obtain ⟨e1, e2, e3, e4⟩ := kr_even hc hw _ (Nat.le_refl _)
  have h := hit_sum hc hw _ (Nat.le_refl _)
  rw [List.take_of_length_le (by rw [hw.1]; exact Nat.le_refl _), hs] at h
  rw [List.take_length] at e1 e2 e3 e4
  by_cases hlr : (pansOf K ws).right ≤ (pansOf K ws).left
  · left
    unfold pansOf Pn.left Pn.right at hlr
    simp only at hlr
    refine ⟨?_, ?_, ?_, ?_, ?_⟩ <;> unfold pansOf <;> (try unfold Pn.left Pn.right) <;> simp only [cntOf] <;> omega
  · right
    unfold pansOf Pn.left Pn.right at hlr
    simp only at hlr
    refine ⟨?_, ?_, ?_, ?_, ?_⟩ <;> unfold pansOf Pn.swap <;> (try unfold Pn.left Pn.right) <;> simp only [cntOf] <;> omega
end
/-- what is left of pans behind k coppers: the left one's, and the right one's, of each number -/
def layS (cop : List Int) (p : (Int → Nat) × (Int → Nat)) : Nat → (Int → Nat) × (Int → Nat)
  | 0 => p
  | k + 1 =>
    if 0 < (layS cop p k).1 (nth cop k) then (fun a => if a = nth cop k then (layS cop p k).1 a - 1 else (layS cop p k).1 a, (layS cop p k).2)
    else if 0 < (layS cop p k).2 (nth cop k) then ((layS cop p k).1, fun a => if a = nth cop k then (layS cop p k).2 a - 1 else (layS cop p k).2 a)
    else layS cop p k
def layV (cop : List Int) (p : (Int → Nat) × (Int → Nat)) (k : Nat) : Int :=
  if 0 < (layS cop p k).1 (nth cop k) then 1 else if 0 < (layS cop p k).2 (nth cop k) then -1 else 0
/-- the weighing -/
def layL (cop : List Int) (p : (Int → Nat) × (Int → Nat)) : List Int := (List.range cop.length).map (layV cop p)
theorem layL_len (cop : List Int) (p : (Int → Nat) × (Int → Nat)) : (layL cop p).length = cop.length := by simp [layL]
theorem layL_nth {cop : List Int} {p : (Int → Nat) × (Int → Nat)} {k : Nat} (h : k < cop.length) : nth (layL cop p) k = layV cop p k := by
  rw [nth_eq (by rw [layL_len]; exact h)]; simp [layL]
theorem layL_ok (cop : List Int) (p : (Int → Nat) × (Int → Nat)) : WOk cop.length (layL cop p) := by
  refine ⟨layL_len _ _, fun k hk => ?_⟩
  rw [layL_nth hk]
  unfold layV
  split
  · omega
  · split <;> omega
theorem lay_step (K : Kn) (p : (Int → Nat) × (Int → Nat)) (a : Int) : ∀ k, k ≤ K.cop.length →
    hitN K (layL K.cop p) a 1 k + (layS K.cop p k).1 a = p.1 a ∧ hitN K (layL K.cop p) a (-1) k + (layS K.cop p k).2 a = p.2 a ∧
    (0 < (layS K.cop p k).1 a + (layS K.cop p k).2 a → hitN K (layL K.cop p) a 1 k + hitN K (layL K.cop p) a (-1) k = (K.cop.take k).count a) := by
  intro k
  induction k with
  | zero => intro _; simp [hitN, layS]
  | succ k ih =>
    intro hk
    obtain ⟨i1, i2, i3⟩ := ih (by omega)
    have hk' : k < K.cop.length := by omega
    have hv : nth (layL K.cop p) k = layV K.cop p k := layL_nth hk'
    rw [count_take hk']
    simp only [hitN, layS]
    rw [hv]
    unfold layV
    generalize hx : nth K.cop k = x at *
    by_cases hxa : x = a
    · subst hxa
      by_cases h1 : 0 < (layS K.cop p k).1 x
      · rw [if_pos h1, if_pos h1]
        simp
        omega
      · rw [if_neg h1, if_neg h1]
        by_cases h2 : 0 < (layS K.cop p k).2 x
        · rw [if_pos h2, if_pos h2]
          simp
          omega
        · rw [if_neg h2, if_neg h2]
          simp
          omega
    · have hax : ¬ a = x := fun e => hxa e.symm
      by_cases h1 : 0 < (layS K.cop p k).1 x
      · rw [if_pos h1, if_pos h1]
        simp [hxa, hax]
        omega
      · rw [if_neg h1, if_neg h1]
        by_cases h2 : 0 < (layS K.cop p k).2 x
        · rw [if_pos h2, if_pos h2]
          simp [hxa, hax]
          omega
        · rw [if_neg h2, if_neg h2]
          simp [hxa]
          omega
theorem lay_end (K : Kn) (p : (Int → Nat) × (Int → Nat)) (a : Int) (h : p.1 a + p.2 a ≤ K.cop.count a) : hitN K (layL K.cop p) a 1 K.cop.length = p.1 a ∧ hitN K (layL K.cop p) a (-1) K.cop.length = p.2 a := by
  obtain ⟨h1, h2, h3⟩ := lay_step K p a _ (Nat.le_refl _)
  rw [List.take_length] at h3
  omega
/-- pans, by the number of a copper -/
def pnF (p : Pn) : (Int → Nat) × (Int → Nat) := (fun a => if a = 1 then p.a1 else if a = 2 then p.a2 else if a = 3 then p.a3 else 0, fun a => if a = 0 then p.left - p.right else if a = 1 then p.b1 else if a = 2 then p.b2 else if a = 3 then p.b3 else 0)
theorem pansOf_lay {K : Kn} {p : Pn} (hf : Fits (cntOf K) p) : pansOf K (layL K.cop (pnF p)) = p ∧ hitN K (layL K.cop (pnF p)) 0 1 K.cop.length = 0 ∧ hitN K (layL K.cop (pnF p)) 0 (-1) K.cop.length = p.left - p.right := by
  obtain ⟨f1, f2, f3, f4, f5⟩ := hf
  unfold cntOf at f1 f2 f3 f5
  simp only at f1 f2 f3 f5
  have h0 := lay_end K (pnF p) 0 (by simp [pnF]; omega)
  have h1 := lay_end K (pnF p) 1 (by simp [pnF]; omega)
  have h2 := lay_end K (pnF p) 2 (by simp [pnF]; omega)
  have h3 := lay_end K (pnF p) 3 (by simp [pnF]; omega)
  refine ⟨?_, h0.1, h0.2⟩
  unfold pansOf
  rw [h1.1, h1.2, h2.1, h2.2, h3.1, h3.2]
  rfl
theorem lay_sum {K : Kn} (hc : ∀ k, k < K.cop.length → 0 ≤ nth K.cop k ∧ nth K.cop k ≤ 3) {p : Pn} (hf : Fits (cntOf K) p) : (layL K.cop (pnF p)).sum = 0 := by
  have h := hit_sum hc (layL_ok K.cop (pnF p)) _ (Nat.le_refl _)
  obtain ⟨h1, h2, h3⟩ := pansOf_lay hf
  rw [List.take_of_length_le (by rw [layL_len]; exact Nat.le_refl _), h2, h3] at h
  have hp : ∀ q : Pn, pansOf K (layL K.cop (pnF p)) = q → hitN K (layL K.cop (pnF p)) 1 1 K.cop.length = q.a1 ∧ hitN K (layL K.cop (pnF p)) 1 (-1) K.cop.length = q.b1 ∧ hitN K (layL K.cop (pnF p)) 2 1 K.cop.length = q.a2 ∧ hitN K (layL K.cop (pnF p)) 2 (-1) K.cop.length = q.b2 ∧ hitN K (layL K.cop (pnF p)) 3 1 K.cop.length = q.a3 ∧ hitN K (layL K.cop (pnF p)) 3 (-1) K.cop.length = q.b3 := by
    rintro q rfl; exact ⟨rfl, rfl, rfl, rfl, rfl, rfl⟩
  obtain ⟨q1, q2, q3, q4, q5, q6⟩ := hp p h1
  have f4 := hf.ge
  unfold Pn.left Pn.right at h f4
  omega
theorem kw_of {K : Kn} {ws : List Int} (hk : Kok K) (hw : WOk K.cop.length ws) (hs : ws.sum = 0) : kwErr K ws = 0 := by
  unfold kwErr wErr
  rw [if_pos (kok_iff.2 hk), if_pos hw.1, if_pos (within_iff.2 fun k hk => hw.2 k (by rw [← hw.1]; exact hk)), if_pos hs]
theorem lay_valid {K : Kn} (hk : Kok K) {p : Pn} (hf : Fits (cntOf K) p) : kwErr K (layL K.cop (pnF p)) = 0 := kw_of hk (layL_ok _ _) (lay_sum hk.cop hf)
/-- the cases of what is left are those that have the result, in their order -/
theorem copCases_kr {K : Kn} {ws : List Int} {r : Int} {i : Nat} (h : i < K.cop.length) : copCases (krK K ws r) i = (copCases K i).filter fun c => decide (resultOf ws c = r) := by
  have e1 : resultOf ws ((i : Int), 1) = -nth ws i := by unfold resultOf; rw [if_neg (by simp), if_neg (by simp)]; rfl
  have e2 : resultOf ws ((i : Int), 2) = nth ws i := by unfold resultOf; rw [if_neg (by simp), if_pos (by rfl)]; rfl
  obtain ⟨P, hP⟩ : ∃ P : Bool, (-nth ws i = r) = (P = true) := ⟨decide (-nth ws i = r), by simp⟩
  obtain ⟨Q, hQ⟩ : ∃ Q : Bool, (nth ws i = r) = (Q = true) := ⟨decide (nth ws i = r), by simp⟩
  have f1 : decide (resultOf ws ((i : Int), 1) = r) = P := by rw [e1]; simp only [hP, Bool.decide_eq_true]
  have f2 : decide (resultOf ws ((i : Int), 2) = r) = Q := by rw [e2]; simp only [hQ, Bool.decide_eq_true]
  unfold copCases
  rw [krK_nth h]
  simp only [hP, hQ]
  generalize hasKind (nth K.cop i) 1 = u
  generalize hasKind (nth K.cop i) 2 = v
  cases u <;> cases v <;> cases P <;> cases Q <;> simp [f1, f2, hasKind]
theorem casesTo_kr {K : Kn} {ws : List Int} {r : Int} : ∀ k, k ≤ K.cop.length → casesTo (krK K ws r) k = (casesTo K k).filter fun c => decide (resultOf ws c = r)
  | 0, _ => rfl
  | k + 1, h => by
    unfold casesTo
    rw [casesTo_kr k (by omega), copCases_kr (by omega), List.filter_append]
theorem cases_kr (K : Kn) (ws : List Int) (r : Int) : casesOf (krK K ws r) = withL K ws r := by
  unfold withL casesOf
  rw [List.filter_append, krK_len, casesTo_kr _ (Nat.le_refl _)]
  congr 1
  have e : resultOf ws (-1, 0) = 0 := rfl
  cases hn : K.none with
  | false =>
    have : (krK K ws r).none = false := by
      cases h : (krK K ws r).none with
      | false => rfl
      | true => rw [(krK_none.1 h).1] at hn; cases hn
    rw [this]; rfl
  | true =>
    by_cases hr : r = 0
    · subst hr
      rw [krK_none.2 ⟨hn, rfl⟩]
      simp [e]
    · have : (krK K ws r).none = false := by
        cases h : (krK K ws r).none with
        | false => rfl
        | true => exact absurd (krK_none.1 h).2 hr
      rw [this]
      have hr2 : ¬ (0 : Int) = r := fun h => hr h.symm
      simp [e, hr2]

end Go.Proofs.Ytelgbjfgmpkepaa

namespace Go.Proofs.Ytelgbjfgmpkepaa
open Go.RowKit Go.Shelf

theorem setRow_alloc (w : World) (cs ds : Array Value) (t : TypeId) : (w.alloc (.cells cs t)).setRow w.heap.size ds = w.alloc (.cells ds t) := by
  unfold World.setRow
  unfold World.alloc
  congr 1
  apply Array.ext
  · simp
  · intro i h1 h2
    simp [Array.getElem_modify, Array.getElem_push]
    by_cases h : i < w.heap.size
    · rw [if_neg (by omega)]; simp [h]
    · obtain rfl : i = w.heap.size := by simp at h2; omega
      simp
/-- copy of a whole slice of ints into a slice that was made just now -/
theorem run_copy_new (ty : TypeId) (w : World) (ao : Option Addr) (cap : Nat) (xs zs : List Int) (hat : IntsAt w ao xs) (hz : zs.length = xs.length) :
    (Builtin.copy_ #[22, 22] ty #[.slice (some ⟨w.heap.size, 0, none⟩) xs.length xs.length, .slice ao xs.length cap]).run Try.prog (w.alloc (.cells (intv zs).toArray 3)) =
      .ok (.int .i64 xs.length) (w.alloc (.cells (intv xs).toArray 3)) := by
  obtain ⟨i, hi, _, hs, _⟩ := info_parts et22.hi
  have hs1 : (Try.prog.info? 3).map (·.size) = some 1 := by rw [hi]; simp [hs]
  by_cases h0 : xs.length = 0
  · obtain rfl : xs = [] := List.eq_nil_of_length_eq_zero h0
    obtain rfl : zs = [] := List.eq_nil_of_length_eq_zero hz
    rw [run_copy_none (P := Try.prog) _ 22 22 ty 3 _ ao _ _ _ cap Try.underlying22 hs1 (by simp)]
    rfl
  · obtain ⟨b, off, rfl, _⟩ := hat.at (k := 0) (by omega)
    have hat' := hat.mono ((Below.refl _ w).alloc (Nat.le_refl _) (.cells (intv zs).toArray 3))
    rw [run_copy_row (P := Try.prog) (w.alloc (.cells (intv zs).toArray 3)) 22 22 ty 3 w.heap.size 0 xs.length xs.length ⟨b, off, none⟩ xs.length cap (intv zs).toArray 3 (intv xs) Try.underlying22 hs1 (heap_alloc_new w _)
      (by simp [intv_length]) (fun j v hj => by
        rw [intv_get] at hj
        split at hj
        · rename_i hlt
          simp at hj; subst hj
          rw [Addr.add_lit]; exact hat'.cell hlt
        · simp at hj) (by simp [intv_length, hz]) (intv_one xs)]
    rw [setRow_alloc]
    rw [List.drop_of_length_le (by simp [intv_length, hz])]
    simp [intv_length, goInt]
/-- a block of pans, as functions of the number of a copper -/
def Q8 (w : World) (g : Nat) (f : (Int → Nat) × (Int → Nat)) : Prop := w.heap[g]? = some (.cells #[.int .i64 (f.1 0 : Int), .int .i64 (f.1 1 : Int), .int .i64 (f.1 2 : Int), .int .i64 (f.1 3 : Int), .int .i64 (f.2 0 : Int), .int .i64 (f.2 1 : Int), .int .i64 (f.2 2 : Int), .int .i64 (f.2 3 : Int)] 103 (0, 0))
section
variable {w w' : World} {g a : Nat} {F : (Int → Nat) × (Int → Nat)}
theorem lt_four {a : Nat} (h : a < 4) : a = 0 ∨ a = 1 ∨ a = 2 ∨ a = 3 := by omega
theorem Q8.l (h : Q8 w g F) (ha : a < 4) : w.cell? ⟨g, a, none⟩ = some (.int .i64 (F.1 (a : Int) : Int)) := by
  rw [cell_of_row _ _ _ _ _ _ h]
  rcases lt_four ha with rfl | rfl | rfl | rfl <;> rfl
theorem Q8.r (h : Q8 w g F) (ha : a < 4) : w.cell? ⟨g, 4 + a, none⟩ = some (.int .i64 (F.2 (a : Int) : Int)) := by
  rw [cell_of_row _ _ _ _ _ _ h]
  rcases lt_four ha with rfl | rfl | rfl | rfl <;> rfl
theorem Q8.f (h : Q8 w g F) (k : Nat) : w.frozen? ⟨g, k, none⟩ = false := frozen_of_row w _ k _ _ h
theorem Q8.lt (h : Q8 w g F) : g < w.heap.size := (Array.getElem?_eq_some_iff.1 h).1
theorem Q8.mono (h : Q8 w g F) (hB : Below w.heap.size w w') : Q8 w' g F := (hB.block _ h.lt).trans h
theorem Q8.other (h : Q8 w g F) {r : Nat} (hr : g ≠ r) (k : Nat) (v : Value) : Q8 (w.setCell ⟨r, k, none⟩ v) g F := (Below.heap_setCell _ _ _ _ (fun e => hr e)).trans h
theorem Q8.setL (h : Q8 w g F) (ha : a < 4) (v : Int) (n : Nat) (e : v = (n : Int)) : Q8 (w.setCell ⟨g, a, none⟩ (.int .i64 v)) g (fun x => if x = (a : Int) then n else F.1 x, F.2) := by
  subst e
  rcases lt_four ha with rfl | rfl | rfl | rfl <;> exact heap_setCell_same w g _ _ 103 _ h
theorem Q8.setR (h : Q8 w g F) (ha : a < 4) (v : Int) (n : Nat) (e : v = (n : Int)) : Q8 (w.setCell ⟨g, 4 + a, none⟩ (.int .i64 v)) g (F.1, fun x => if x = (a : Int) then n else F.2 x) := by
  subst e
  rcases lt_four ha with rfl | rfl | rfl | rfl <;> exact heap_setCell_same w g _ _ 103 _ h
end
/-- the first k numbers of the weighing, and none behind them -/
def outL (cop : List Int) (p : (Int → Nat) × (Int → Nat)) (k : Nat) : List Int := (List.range cop.length).map fun i => if i < k then layV cop p i else 0
theorem outL_len (cop : List Int) (p : (Int → Nat) × (Int → Nat)) (k : Nat) : (outL cop p k).length = cop.length := by simp [outL]
theorem outL_nth {cop : List Int} {p : (Int → Nat) × (Int → Nat)} {k i : Nat} (h : i < cop.length) : nth (outL cop p k) i = if i < k then layV cop p i else 0 := by
  rw [nth_eq (by rw [outL_len]; exact h)]; simp [outL]
theorem outL_set {cop : List Int} {p : (Int → Nat) × (Int → Nat)} {k : Nat} (_h : k < cop.length) : (outL cop p k).set k (layV cop p k) = outL cop p (k + 1) := by
  refine ext_nth (by rw [List.length_set, outL_len, outL_len]) fun j hj => ?_
  rw [List.length_set, outL_len] at hj
  rw [nth_eq (by rw [List.length_set, outL_len]; exact hj), List.getElem_set, outL_nth hj]
  by_cases e : k = j
  · subst e; rw [if_pos rfl, if_pos (by omega)]
  · rw [if_neg e, ← nth_eq (by rw [outL_len]; exact hj), outL_nth hj]
    by_cases h1 : j < k
    · rw [if_pos h1, if_pos (by omega)]
    · rw [if_neg h1, if_neg (by omega)]
theorem outL_skip {cop : List Int} {p : (Int → Nat) × (Int → Nat)} {k : Nat} (h0 : layV cop p k = 0) : outL cop p k = outL cop p (k + 1) := by
  refine ext_nth (by rw [outL_len, outL_len]) fun j hj => ?_
  rw [outL_len] at hj
  rw [outL_nth hj, outL_nth hj]
  by_cases e : j = k
  · subst e; rw [if_neg (by omega), if_pos (by omega), h0]
  · by_cases h1 : j < k
    · rw [if_pos h1, if_pos (by omega)]
    · rw [if_neg h1, if_neg (by omega)]
theorem outL_zero (cop : List Int) (p : (Int → Nat) × (Int → Nat)) : outL cop p 0 = List.replicate cop.length 0 := by
  refine ext_nth (by rw [outL_len, List.length_replicate]) fun j hj => ?_
  rw [outL_len] at hj
  rw [outL_nth hj, nth_eq (by rw [List.length_replicate]; exact hj)]
  simp
theorem outL_end (cop : List Int) (p : (Int → Nat) × (Int → Nat)) : outL cop p cop.length = layL cop p := by
  refine ext_nth (by rw [outL_len, layL_len]) fun j hj => ?_
  rw [outL_len] at hj
  rw [outL_nth hj, layL_nth hj, if_pos hj]
theorem layS_le (cop : List Int) (p : (Int → Nat) × (Int → Nat)) (a : Int) : ∀ k, (layS cop p k).1 a ≤ p.1 a ∧ (layS cop p k).2 a ≤ p.2 a
  | 0 => ⟨Nat.le_refl _, Nat.le_refl _⟩
  | k + 1 => by
    have ih := layS_le cop p a k
    unfold layS
    split
    · refine ⟨?_, ih.2⟩
      simp only
      split <;> omega
    · split
      · refine ⟨ih.1, ?_⟩
        simp only
        split <;> omega
      · exact ih
section
variable (g : Nat) (ka : Option Addr) (kc : Nat) (K : Kn) (mv : Value) (p : Pn) (w : World)
set_option maxRecDepth 100000 in
set_option maxHeartbeats 4000000 in
theorem lay_80 (hb : BalAt w g ka kc K mv) (hok : Kok K) (hp : p.right ≤ p.left) (hle : p.left ≤ 100) : Calls Try.prog 80 #[.pointer (some ⟨g, 0, none⟩), pnV p p.dif] w (IntsC w (layL K.cop (pnF p))) := by
  obtain ⟨V, hV, hBV, hv⟩ : ∃ V, V = w.alloc (.cells #[.int .i64 0, .int .i64 (p.a1 : Int), .int .i64 (p.a2 : Int), .int .i64 (p.a3 : Int), .int .i64 p.dif, .int .i64 (p.b1 : Int), .int .i64 (p.b2 : Int), .int .i64 (p.b3 : Int)] 103) ∧ Below w.heap.size w V ∧ P8 V w.heap.size p p.dif := ⟨_, rfl, bnew _ _, p8_new _ _ _⟩
  have hq : Q8 V w.heap.size (pnF p) := by
    unfold P8 at hv
    unfold Q8
    rw [hv]
    have e : p.dif = ((p.left - p.right : Nat) : Int) := by unfold Pn.dif; omega
    rw [e]; rfl
  have hPL : ∀ a, (pnF p).1 a ≤ 100 ∧ (pnF p).2 a ≤ 100 := fun a => by
    unfold pnF
    unfold Pn.left Pn.right at *
    simp only
    constructor
    · repeat' split
      all_goals omega
    · repeat' split
      all_goals omega
  obtain ⟨x, hx⟩ : ∃ x, x = p.dif := ⟨_, rfl⟩
  rw [← hx] at hV ⊢
  obtain ⟨F, hF⟩ : ∃ F, F = pnF p := ⟨_, rfl⟩
  rw [← hF] at hq hPL ⊢
  obtain ⟨q, hqe⟩ : ∃ q, q = w.heap.size := ⟨_, rfl⟩
  rw [← hqe] at hq
  have hcop := hok.cop
  have hn12 := hok.n12
  obtain ⟨M, hM, hBM, hm⟩ : ∃ M, M = V.alloc (.cells (intv (List.replicate K.cop.length 0)).toArray 3) ∧ Below V.heap.size V M ∧ BI M V.heap.size (List.replicate K.cop.length 0) := ⟨_, rfl, bnew _ _, bi_new _ _⟩
  have hmk := run_make_ints et22 V K.cop.length K.cop.length (Nat.le_refl _) (by omega)
  have hVz : V.heap.size = q + 1 := by rw [hV, hqe]; simp
  obtain ⟨o, ho⟩ : ∃ o, o = V.heap.size := ⟨_, rfl⟩
  rw [← ho] at hm hVz
  rw [← ho, ← hM] at hmk
  rw [← outL_zero K.cop F] at hm
  have HK := hid hb.k; have HbV := hid (hb.mono hBV); have HbM := hid (hb.mono (bstep hBV hBM))
  have HV := hid hV; have HM := hid hM; have HB := hid (bstep hBV hBM); have Hq := hid (hq.mono hBM); have Hm := hid hm; have Hcop := hid hcop; have Hn := hid hn12; have HPL := hid hPL; have Ho := hid ho; have Hqe := hid hqe; have Hmk := hid hmk; have Hz := hid hVz
  unfold pnV
  clear hV hBV hv hq hPL hx hF hcop hn12 hM hBM hm hmk hVz ho hb hok hp hle hqe
  unfold IntsC
  rw [layL_len]
  have k0 := HbV.out.c0
  have hmk := Hmk.out
  go_enter Try.func80, Try.ntmps80
  go_upto_region 1 with (fail)
  rw [← HV.out, ← Hqe.out]
  go_upto_region 2 with (fail)
  clear k0 hmk
  have k0 := HbM.out.c0
  go_wp2
  clear k0
  go_loopw [6, 7, 22] (fun _ _ i wr => ∃ k : Nat, k ≤ K.cop.length ∧ i = .int .i64 k ∧ Q8 wr q (layS K.cop F k) ∧ BI wr o (outL K.cop F k) ∧ Below w.heap.size w wr) (fun _ _ i _ => K.cop.length - (intOf i).toNat)
  case atStart => exact ⟨0, Nat.zero_le _, rfl, Hq.out, Hm.out, HB.out⟩
  case round =>
    obtain ⟨k, hk, rfl, hq, hm, hB⟩ := hrel
    obtain ⟨wo, rfl⟩ : ∃ wo : World, wo = wr := ⟨_, rfl⟩
    have Hq2 := hid hq; have Hm2 := hid hm; have HB2 := hid hB
    have hqo : q ≠ o := by have := Hz.out; omega
    have hwq : w.heap.size ≤ q := by have := Hqe.out; omega
    have hwo : w.heap.size ≤ o := by have := Hz.out; omega
    have Hqo := hid hqo; have Hwq := hid hwq; have Hwo := hid hwo
    have hn := Hn.out
    by_cases hlt : k < K.cop.length
    · have hI : (k : Int) < (K.cop.length : Int) := by omega
      obtain ⟨b, off, rfl, hcx⟩ := IntsAt.at (HbM.out.k.mono (Below.refl _ M)) hlt
      have hcx : wo.cell? ⟨b, off + k, none⟩ = some (.int .i64 (nth K.cop k)) := by
        obtain ⟨b', off', e, h⟩ := IntsAt.at (show IntsAt wo (some ⟨b, off, none⟩) K.cop from HK.out.mono hB) hlt
        cases e; exact h
      have hrg := Hcop.out k hlt
      have e1 : IntKind.i64.wrap ((k : Int) + 1) = (k : Int) + 1 := wrap_i64_of (by omega) (by omega)
      obtain ⟨a, ha⟩ : ∃ a : Nat, nth K.cop k = (a : Int) := ⟨(nth K.cop k).toNat, by omega⟩
      have ha4 : a < 4 := by omega
      have ha4i : (a : Int) < 4 := by omega
      have hst : layS K.cop F (k + 1) = if 0 < (layS K.cop F k).1 (nth K.cop k) then (fun x => if x = nth K.cop k then (layS K.cop F k).1 x - 1 else (layS K.cop F k).1 x, (layS K.cop F k).2)
          else if 0 < (layS K.cop F k).2 (nth K.cop k) then ((layS K.cop F k).1, fun x => if x = nth K.cop k then (layS K.cop F k).2 x - 1 else (layS K.cop F k).2 x) else layS K.cop F k := rfl
      have hlv : layV K.cop F k = if 0 < (layS K.cop F k).1 (nth K.cop k) then 1 else if 0 < (layS K.cop F k).2 (nth K.cop k) then -1 else 0 := rfl
      have hle := layS_le K.cop F (nth K.cop k) k
      have hle2 := HPL.out (nth K.cop k)
      have hset := outL_set (cop := K.cop) (p := F) hlt
      rw [ha] at hst hlv hcx hle hle2
      obtain ⟨S, hS⟩ : ∃ S, S = layS K.cop F k := ⟨_, rfl⟩
      rw [← hS] at hst hlv hle hq
      have Hs := hid hq
      have cl := hq.l ha4; have cr := hq.r ha4
      have fl := hq.f a; have fr := hq.f (4 + a)
      have om := hm.cell (k := k) (by rw [outL_len]; exact hlt)
      have fo := hm.frozen k
      obtain ⟨y, hy⟩ : ∃ y, y = nth (outL K.cop F k) k := ⟨_, rfl⟩
      rw [← hy] at om
      obtain ⟨A, hA⟩ : ∃ A, A = S.1 (a : Int) := ⟨_, rfl⟩
      obtain ⟨D, hD⟩ : ∃ D, D = S.2 (a : Int) := ⟨_, rfl⟩
      rw [← hA] at hst hlv hle cl
      rw [← hD] at hst hlv hle cr
      by_cases h1 : 0 < A
      · rw [if_pos h1] at hst hlv
        rw [hlv] at hset
        have b1 : (0 : Int) < (A : Int) := by omega
        have e2 : IntKind.i64.wrap ((A : Int) - 1) = (A : Int) - 1 := wrap_i64_of (by omega) (by omega)
        have Hend := hid (show Q8 ((wo.setCell ⟨q, a, none⟩ (.int .i64 ((A : Int) - 1))).setCell ⟨o, k, none⟩ (.int .i64 1)) q (layS K.cop F (k + 1)) ∧ BI ((wo.setCell ⟨q, a, none⟩ (.int .i64 ((A : Int) - 1))).setCell ⟨o, k, none⟩ (.int .i64 1)) o (outL K.cop F (k + 1)) from by
          refine ⟨?_, by rw [← hset]; exact (hm.other (fun e => hqo e.symm) _ _).set k 1⟩
          have h := hq.setL ha4 ((A : Int) - 1) (A - 1) (by omega)
          refine Q8.other ?_ hqo _ _
          have e : layS K.cop F (k + 1) = (fun x => if x = (a : Int) then A - 1 else S.1 x, S.2) := by
            rw [hst]
            congr 1
            funext x
            by_cases hx : x = (a : Int)
            · rw [if_pos hx, if_pos hx, hx, hA]
            · rw [if_neg hx, if_neg hx]
          rw [e]; exact h)
        have om := (hm.other (fun e => hqo e.symm) a (.int .i64 ((A : Int) - 1))).cell (k := k) (by rw [outL_len]; exact hlt)
        have fo := (hm.other (fun e => hqo e.symm) a (.int .i64 ((A : Int) - 1))).frozen k
        rw [← hy] at om
        clear hst hlv hle hle2 hset hA hD hS hy hq hm hB hrg ha hqo hwq hwo hn cr fr h1
        go_wp2
        go_roundw
        case rel => exact ⟨k + 1, hlt, by go_num, Hend.out.1, Hend.out.2, (HB2.out.setCell (p := ⟨q, a, none⟩) Hwq.out _).setCell (p := ⟨o, k, none⟩) Hwo.out _⟩
        case measure => simp [intOf]; omega
      · rw [if_neg h1] at hst hlv
        have b1 : ¬ (0 : Int) < (A : Int) := by omega
        by_cases h2 : 0 < D
        · rw [if_pos h2] at hst hlv
          rw [hlv] at hset
          have b2 : (0 : Int) < (D : Int) := by omega
          have e2 : IntKind.i64.wrap ((D : Int) - 1) = (D : Int) - 1 := wrap_i64_of (by omega) (by omega)
          have Hend := hid (show Q8 ((wo.setCell ⟨q, 4 + a, none⟩ (.int .i64 ((D : Int) - 1))).setCell ⟨o, k, none⟩ (.int .i64 (-1))) q (layS K.cop F (k + 1)) ∧ BI ((wo.setCell ⟨q, 4 + a, none⟩ (.int .i64 ((D : Int) - 1))).setCell ⟨o, k, none⟩ (.int .i64 (-1))) o (outL K.cop F (k + 1)) from by
            refine ⟨?_, by rw [← hset]; exact (hm.other (fun e => hqo e.symm) _ _).set k (-1)⟩
            have h := hq.setR ha4 ((D : Int) - 1) (D - 1) (by omega)
            refine Q8.other ?_ hqo _ _
            have e : layS K.cop F (k + 1) = (S.1, fun x => if x = (a : Int) then D - 1 else S.2 x) := by
              rw [hst]
              congr 1
              funext x
              by_cases hx : x = (a : Int)
              · rw [if_pos hx, if_pos hx, hx, hD]
              · rw [if_neg hx, if_neg hx]
            rw [e]; exact h)
          have om := (hm.other (fun e => hqo e.symm) (4 + a) (.int .i64 ((D : Int) - 1))).cell (k := k) (by rw [outL_len]; exact hlt)
          have fo := (hm.other (fun e => hqo e.symm) (4 + a) (.int .i64 ((D : Int) - 1))).frozen k
          rw [← hy] at om
          clear hst hlv hle hle2 hset hA hD hS hy hq hm hB hrg ha hqo hwq hwo hn fl h1 h2
          go_wp2
          go_roundw
          case rel => exact ⟨k + 1, hlt, by go_num, Hend.out.1, Hend.out.2, (HB2.out.setCell (p := ⟨q, 4 + a, none⟩) Hwq.out _).setCell (p := ⟨o, k, none⟩) Hwo.out _⟩
          case measure => simp [intOf]; omega
        · rw [if_neg h2] at hst hlv
          have b2 : ¬ (0 : Int) < (D : Int) := by omega
          have Hend := hid (show Q8 wo q (layS K.cop F (k + 1)) ∧ BI wo o (outL K.cop F (k + 1)) from ⟨by rw [hst]; exact hq, by rw [← outL_skip hlv]; exact hm⟩)
          clear hst hlv hle hle2 hset hA hD hS hy hq hm hB hrg ha hqo hwq hwo hn fl fr om fo h1 h2
          go_wp2
          go_roundw
          case rel => exact ⟨k + 1, hlt, by go_num, Hend.out.1, Hend.out.2, HB2.out⟩
          case measure => simp [intOf]; omega
    · have hI : ¬ (k : Int) < (K.cop.length : Int) := by omega
      obtain rfl : k = K.cop.length := by omega
      rw [outL_end] at hm
      have hmk := run_make_ints et22 wo K.cop.length K.cop.length (Nat.le_refl _) (by omega)
      have hcp := fun ty => run_copy_new ty wo (some ⟨o, 0, none⟩) K.cop.length (layL K.cop F) (List.replicate K.cop.length 0) hm.ints (by rw [layL_len, List.length_replicate])
      rw [layL_len] at hcp
      have Hlast := hid (show IntsAt (wo.alloc (.cells (intv (layL K.cop F)).toArray 3)) (some ⟨wo.heap.size, 0, none⟩) (layL K.cop F) from (bi_new wo (layL K.cop F)).ints)
      have HBl := hid (hB.trans ((bnew wo (.cells (intv (layL K.cop F)).toArray 3)).mono hB.size))
      clear hq hm hB hqo hwq hwo hn hk hlt
      go_wp2
      go_ret
      exact ⟨_, _, rfl, Hlast.out, (fun h => by cases h), HBl.out⟩
end

end Go.Proofs.Ytelgbjfgmpkepaa

namespace Go.Proofs.Ytelgbjfgmpkepaa
open Go.RowKit Go.Shelf

section
variable {K : Kn} {ws : List Int}
theorem krK_cases (K : Kn) (ws : List Int) (r : Int) : (cntOf (krK K ws r)).cases = (withL K ws r).length := by rw [cntOf_cases, cases_kr]
theorem krK_err (hk : Kok K) (r : Int) : knErr (krK K ws r) = 0 ↔ (cntOf (krK K ws r)).cases ≠ 0 := by
  rw [krK_cases]
  exact knErr_left (M := withL K ws r) hk.n1 hk.n12 (fun c hc => casesOf_ok hk.cop c (mem_withL.1 hc).1)
/-- what a count needs, none if it has no case -/
def nd0 (x : Cnt) : Nat := if x.cases = 0 then 0 else nd 1000 x
theorem afN_of (hk : Kok K) : afN K ws 3 = max (max (nd0 (cntOf (krK K ws (-1)))) (nd0 (cntOf (krK K ws 0)))) (nd0 (cntOf (krK K ws 1))) := by
  have e : ∀ r, (if knErr (krK K ws r) = 0 then nd 1000 (cntOf (krK K ws r)) else 0) = nd0 (cntOf (krK K ws r)) := fun r => by
    unfold nd0
    by_cases h : (cntOf (krK K ws r)).cases = 0
    · rw [if_pos h, if_neg (fun h2 => (krK_err hk r).1 h2 h)]
    · rw [if_neg h, if_pos ((krK_err hk r).2 h)]
  have e0 := e (-1); have e1 := e 0; have e2 := e 1
  simp only [afN]
  simp only [show ((0 : Nat) : Int) - 1 = -1 from rfl, show ((1 : Nat) : Int) - 1 = 0 from rfl, show ((2 : Nat) : Int) - 1 = 1 from rfl]
  rw [e0, e1, e2, Nat.zero_max]
theorem nd0_le (hk : Kok K) {r : Int} (hr : r = -1 ∨ r = 0 ∨ r = 1) : nd0 (cntOf (krK K ws r)) ≤ afN K ws 3 := by
  rw [afN_of hk]
  rcases hr with rfl | rfl | rfl <;> omega
/-- the weighing of pans leaves what is needed behind them -/
theorem afN_lay (hk : Kok K) {p : Pn} (hf : Fits (cntOf K) p) (h : aft 1000 (cntOf K) p < 1000) : afN K (layL K.cop (pnF p)) 3 = aft 1000 (cntOf K) p := by
  obtain ⟨h1, h2, h3⟩ := kr_cnt hk.cop (layL_ok K.cop (pnF p))
  rw [(pansOf_lay hf).1] at h1 h2 h3
  rw [afN_of hk, h1, h2, h3]
  have key : ∀ x, x = resL (cntOf K) p ∨ x = resR (cntOf K) p ∨ x = resE (cntOf K) p → nd0 x = val 1000 (nd 1000) (cntOf K) x := fun x hx => by
    unfold nd0 val
    by_cases h0 : x.cases = 0
    · rw [if_pos h0, if_pos h0]
    · rw [if_neg h0, if_neg h0, if_neg (aft_lt h hx h0).1]
  rw [key _ (.inr (.inl rfl)), key _ (.inr (.inr rfl)), key _ (.inl rfl)]
  unfold aft aftF
  omega
/-- a result that all cases have leaves all that is known -/
theorem krK_all (hk : Kok K) {r : Int} (h : (withL K ws r).length = (casesOf K).length) : cntOf (krK K ws r) = cntOf K := by
  have hall : ∀ c ∈ casesOf K, resultOf ws c = r := by
    unfold withL at h
    have := (List.length_filter_eq_length_iff.1 h)
    intro c hc
    exact of_decide_eq_true (this c hc)
  have hcop : (krK K ws r).cop = K.cop := by
    refine ext_nth (krK_len _ _ _) fun i hi => ?_
    rw [krK_len] at hi
    rw [krK_nth hi]
    have c1 : hasKind (nth K.cop i) 1 = true → -nth ws i = r := fun h1 => by
      have := hall _ ((mem_cases (i := i) (.inl rfl)).2 ⟨hi, h1⟩)
      unfold resultOf at this
      rw [if_neg (by simp), if_neg (by simp)] at this
      simpa using this
    have c2 : hasKind (nth K.cop i) 2 = true → nth ws i = r := fun h1 => by
      have := hall _ ((mem_cases (i := i) (.inr rfl)).2 ⟨hi, h1⟩)
      unfold resultOf at this
      rw [if_neg (by simp), if_pos (by rfl)] at this
      simpa using this
    have e1 : (hasKind (nth K.cop i) 1 = true ∧ -nth ws i = r) = (hasKind (nth K.cop i) 1 = true) := propext ⟨fun h => h.1, fun h => ⟨h, c1 h⟩⟩
    have e2 : (hasKind (nth K.cop i) 2 = true ∧ nth ws i = r) = (hasKind (nth K.cop i) 2 = true) := propext ⟨fun h => h.1, fun h => ⟨h, c2 h⟩⟩
    simp only [e1, e2]
    unfold hasKind
    rcases four_of (hk.cop i hi) with h | h | h | h <;> rw [h] <;> rfl
  have hnone : (krK K ws r).none = K.none := by
    cases hn : K.none with
    | false =>
      cases h : (krK K ws r).none with
      | false => rfl
      | true => rw [(krK_none.1 h).1] at hn; cases hn
    | true =>
      have := hall _ (mem_casesNone.2 hn)
      unfold resultOf at this
      rw [if_pos (by decide)] at this
      exact krK_none.2 ⟨hn, this.symm⟩
  unfold cntOf
  rw [hcop, hnone]
theorem withL_le (K : Kn) (ws : List Int) (r : Int) : (withL K ws r).length ≤ (casesOf K).length := List.length_filter_le ..
/-- a weighing, and enough for each result, are enough -/
theorem canK_intro (hk : Kok K) (hw : WOk K.cop.length ws) (hs : ws.sum = 0) {N : Nat} (h : ∀ r, r = -1 ∨ r = 0 ∨ r = 1 → (cntOf (krK K ws r)).cases = 0 ∨ Can N (cntOf (krK K ws r))) : Can (N + 1) (cntOf K) := by
  have hpos : 0 < (cntOf K).cases := by rw [cntOf_cases]; exact cases_pos hk
  by_cases hall : ∃ r, (r = -1 ∨ r = 0 ∨ r = 1) ∧ (cntOf (krK K ws r)).cases = (cntOf K).cases
  · obtain ⟨r, hr, e⟩ := hall
    have e2 : cntOf (krK K ws r) = cntOf K := krK_all hk (by rw [krK_cases, cntOf_cases] at e; exact e)
    rcases h r hr with h0 | h0
    · omega
    · rw [e2] at h0; exact h0.succ
  · by_cases h1 : (cntOf K).cases = 1
    · exact .inl h1
    · have key : ∀ r, r = -1 ∨ r = 0 ∨ r = 1 → (cntOf (krK K ws r)).cases = 0 ∨ ((cntOf (krK K ws r)).cases < (cntOf K).cases ∧ Can N (cntOf (krK K ws r))) := fun r hr => by
        have hle : (cntOf (krK K ws r)).cases ≤ (cntOf K).cases := by rw [krK_cases, cntOf_cases]; exact withL_le _ _ _
        have hne : (cntOf (krK K ws r)).cases ≠ (cntOf K).cases := fun e => hall ⟨r, hr, e⟩
        exact (h r hr).imp_right fun h2 => ⟨by omega, h2⟩
      obtain ⟨e1, e2, e3⟩ := kr_cnt hk.cop hw
      have k1 := key 1 (.inr (.inr rfl)); have k2 := key (-1) (.inl rfl); have k3 := key 0 (.inr (.inl rfl))
      rw [e1] at k1
      rw [e2] at k2
      rw [e3] at k3
      rcases pans_fit hk.cop hw hs with hf | hf
      · refine .inr ⟨by omega, _, hf, fun x hx => ?_⟩
        rcases hx with rfl | rfl | rfl
        · exact k1
        · exact k2
        · exact k3
      · obtain ⟨s1, s2, s3⟩ := swap_res (cntOf K) (pansOf K ws)
        refine .inr ⟨by omega, _, hf, fun x hx => ?_⟩
        rcases hx with rfl | rfl | rfl
        · rw [s1]; exact k2
        · rw [s2]; exact k1
        · rw [s3]; exact k3
/-- where more than one case is left there is such a weighing -/
theorem canK_elim (hk : Kok K) (h1 : 1 < (cntOf K).cases) {N : Nat} (h : Can (N + 1) (cntOf K)) : ∃ ws, WOk K.cop.length ws ∧ ws.sum = 0 ∧ ∀ r, r = -1 ∨ r = 0 ∨ r = 1 → (cntOf (krK K ws r)).cases = 0 ∨ Can N (cntOf (krK K ws r)) := by
  rcases h with h | ⟨_, p, hf, hx⟩
  · omega
  · obtain ⟨e1, e2, e3⟩ := kr_cnt hk.cop (layL_ok K.cop (pnF p))
    rw [(pansOf_lay hf).1] at e1 e2 e3
    refine ⟨layL K.cop (pnF p), layL_ok _ _, lay_sum hk.cop hf, fun r hr => ?_⟩
    rcases hr with rfl | rfl | rfl
    · rw [e2]; exact (hx _ (.inr (.inl rfl))).imp_right fun h => h.2
    · rw [e3]; exact (hx _ (.inr (.inr rfl))).imp_right fun h => h.2
    · rw [e1]; exact (hx _ (.inl rfl)).imp_right fun h => h.2
theorem kr_ok (hk : Kok K) {r : Int} (h : (cntOf (krK K ws r)).cases ≠ 0) : Kok (krK K ws r) := kok_iff.1 ((krK_err hk r).2 h)
/-- behind a weighing at least one less is needed -/
theorem afN_ge (hk : Kok K) (hw : WOk K.cop.length ws) (hs : ws.sum = 0) (h : afN K ws 3 < 1000) : nd 1000 (cntOf K) ≤ afN K ws 3 + 1 ∧ nd 1000 (cntOf K) < 1000 := by
  have hc : Can (afN K ws 3 + 1) (cntOf K) := canK_intro hk hw hs fun r hr => by
    by_cases h0 : (cntOf (krK K ws r)).cases = 0
    · exact .inl h0
    · right
      have hle := nd0_le (ws := ws) hk hr
      unfold nd0 at hle
      rw [if_neg h0] at hle
      exact (nd_can _ (Nat.le_refl _) (by omega) (by omega)).mono hle
  have h1 := can_nd 1000 hc
  have h2 : (cntOf K).cases ≤ 25 := by
    have hf := cntOf_fine hk.n12
    unfold Cnt.fine at hf
    unfold Cnt.cases
    omega
  exact ⟨h1.1, by omega⟩
/-- what is known by more: the same coppers, and all cases -/
def SubK (C K : Kn) : Prop := C.cop.length = K.cop.length ∧ ∀ c ∈ casesOf C, c ∈ casesOf K
theorem SubK.kr {C K : Kn} (h : SubK C K) (ws : List Int) (r : Int) : SubK (krK C ws r) (krK K ws r) := by
  refine ⟨by rw [krK_len, krK_len]; exact h.1, fun c hc => ?_⟩
  rw [cases_kr, mem_withL] at hc ⊢
  exact ⟨h.2 c hc.1, hc.2⟩
theorem SubK.le {C K : Kn} (h : SubK C K) : (casesOf C).length ≤ (casesOf K).length := by
  have hn := casesOf_nodup C
  have hsub : casesOf C ⊆ casesOf K := h.2
  have e : ((casesOf K).filter fun c => decide (c ∈ casesOf C)).Perm (casesOf C) := by
    refine (List.perm_ext_iff_of_nodup ((casesOf_nodup K).filter _) hn).2 fun a => ?_
    rw [List.mem_filter, decide_eq_true_iff]
    exact ⟨fun h => h.2, fun h2 => ⟨hsub h2, h2⟩⟩
  rw [← e.length_eq]
  exact List.length_filter_le ..
/-- with fewer cases no more weighings are needed -/
theorem SubK.can : ∀ {N : Nat} {C K : Kn}, Kok C → Kok K → SubK C K → Can N (cntOf K) → Can N (cntOf C)
  | 0, C, K, hc, hk, h, hn => by
    have h1 : (cntOf K).cases = 1 := hn
    have h2 := cases_pos hc
    have h3 := h.le
    rw [cntOf_cases] at h1
    show (cntOf C).cases = 1
    rw [cntOf_cases]; omega
  | N + 1, C, K, hc, hk, h, hn => by
    by_cases h1 : (cntOf C).cases = 1
    · exact .inl h1
    · have h2 := cases_pos hc
      have h3 := h.le
      rw [← cntOf_cases] at h2 h3
      obtain ⟨ws, hw, hs, hr⟩ := canK_elim hk (by rw [cntOf_cases (K := K)]; omega) hn
      refine canK_intro hc (by rw [h.1]; exact hw) hs fun r hr2 => ?_
      by_cases h0 : (cntOf (krK C ws r)).cases = 0
      · exact .inl h0
      · right
        have h4 := (h.kr ws r).le
        rw [← cntOf_cases, ← cntOf_cases] at h4
        have h5 : (cntOf (krK K ws r)).cases ≠ 0 := by omega
        exact SubK.can (kr_ok hc h0) (kr_ok hk h5) (h.kr ws r) ((hr r hr2).resolve_left h5)
theorem can_of_nd (hk : Kok K) (h : nd 1000 (cntOf K) < 1000) : Can (nd 1000 (cntOf K)) (cntOf K) := nd_can _ (Nat.le_refl _) (by rw [cntOf_cases]; exact cases_pos hk) h
theorem SubK.nd {C K : Kn} (hc : Kok C) (hk : Kok K) (h : SubK C K) (hn : nd 1000 (cntOf K) < 1000) : nd 1000 (cntOf C) ≤ nd 1000 (cntOf K) := (can_nd 1000 (SubK.can hc hk h (can_of_nd hk hn))).1
/-- the least of the pans -/
theorem nd_best (hk : Kok K) (h1 : 1 < (cntOf K).cases) (hn : nd 1000 (cntOf K) < 1000) {p : Pn} (hp : p ∈ splitsS (cntOf K)) (hle : ∀ q ∈ splitsS (cntOf K), aft 1000 (cntOf K) p ≤ aft 1000 (cntOf K) q) :
    afN K (layL K.cop (pnF p)) 3 + 1 = nd 1000 (cntOf K) ∧ kwErr K (layL K.cop (pnF p)) = 0 := by
  have e := nd_eqS 1000 (c := cntOf K) (by omega)
  rw [if_neg (by omega)] at e
  have hf := mem_splitsS.1 hp
  have hup : nd 1000 (cntOf K) ≤ aft 1000 (cntOf K) p + 1 := by rw [e]; exact minL_mem (List.mem_map.2 ⟨p, hp, rfl⟩)
  have hlo : aft 1000 (cntOf K) p + 1 ≤ nd 1000 (cntOf K) := by
    rcases minL_is (K := 1000) (l := (splitsS (cntOf K)).map fun p => aft 1000 (cntOf K) p + 1) with h | h
    · omega
    · rw [← e, List.mem_map] at h
      obtain ⟨q, hq, h2⟩ := h
      have := hle q hq
      omega
  rw [afN_lay hk hf (by omega)]
  exact ⟨by omega, lay_valid hk hf⟩
end

end Go.Proofs.Ytelgbjfgmpkepaa

namespace Go.Proofs.Ytelgbjfgmpkepaa
open Go.RowKit Go.Shelf

/-- a call that hands back a best weighing, or the error -/
structure NextR (K : Kn) (w : World) (e : Ending) (w' : World) : Prop where
  bad : nxErr K ≠ 0 → e = .returned (.tuple #[.slice none 0 0, .int .i64 (nxErr K)])
  good : nxErr K = 0 → ∃ ws a cap, e = .returned (.tuple #[.slice a ws.length cap, .int .i64 0]) ∧ IntsAt w' a ws ∧ (a = none → cap = 0) ∧ kwErr K ws = 0 ∧ afN K ws 3 + 1 = nd 1000 (cntOf K)
  below : Below w.heap.size w w'
theorem nx_of {K : Kn} (hk : Kok K) : nxErr K = if nd 1000 (cntOf K) = 0 then 5 else if 1000 ≤ nd 1000 (cntOf K) then 21 else 0 := by
  unfold nxErr neErr neVal
  have h := kok_iff.2 hk
  rw [if_pos h, if_pos h]
  by_cases h1 : 1000 ≤ nd 1000 (cntOf K)
  · rw [if_pos h1, if_pos h1, if_neg (by omega), if_neg (by omega)]
  · rw [if_neg h1, if_neg h1]
    by_cases h2 : nd 1000 (cntOf K) = 0
    · rw [h2]; rfl
    · rw [if_neg (by omega), if_neg h2]
theorem nx_bad {K : Kn} (h : knErr K ≠ 0) : nxErr K = knErr K := by
  unfold nxErr neErr
  rw [if_neg h, if_neg (fun h2 => h h2.1)]
section
variable (ka : Option Addr) (kc : Nat) (K : Kn) (w : World)
set_option maxRecDepth 100000 in
set_option maxHeartbeats 2000000 in
theorem next_42 (hk : KnAt w ka K) (hlk : K.cop.length ≤ 1000000) : Calls Try.prog 42 #[.agg #[.slice ka K.cop.length kc, .bool K.none]] w (NextR K w) := by
  obtain ⟨V, hV, hB0, k0, k1⟩ := box1 w (.slice ka K.cop.length kc) (.bool K.none) 24
  have hkV := hk.mono hB0
  have HB0 := hid hB0; have HV := hid hV; have HV0 := hid (Below.refl V.heap.size V)
  have K0 := hid k0; have K1 := hid k1
  have H1 := hid fun (w' : World) (h : Below V.heap.size V w') => open0 ka kc K w' (hkV.mono h) hlk
  by_cases h0 : knErr K = 0
  · have hok := kok_iff.1 h0
    have hn12 := hok.n12
    have Hok := hid hok
    have hnx := nx_of hok
    have H3 := hid fun (g : Nat) (mv : Value) (w' : World) (hb : BalAt w' g ka kc K mv) => count_78 g ka kc K mv w' hb hn12 hok.cop
    have Hf := hid (cntOf_fine hn12)
    have hpos : 0 < (cntOf K).cases := by rw [cntOf_cases]; exact cases_pos hok
    have H4 := hid fun (g m : Nat) (w' : World) => needed_c (cntOf K) g m w' (cntOf_fine hn12) hpos
    have hle := nd_le 1000 (cntOf K)
    have Hbst := hid fun (h1 : 1 < (cntOf K).cases) (h2 : nd 1000 (cntOf K) < 1000) (p : Pn) => nd_best (p := p) hok h1 h2
    have Hone := hid fun (h1 : (cntOf K).cases = 1) => nd_one 1000 h1
    have Hpos := hid hpos
    obtain ⟨c, hc⟩ : ∃ c, c = cntOf K := ⟨_, rfl⟩
    rw [← hc] at H3 H4 Hf Hbst hle hnx Hone Hpos
    have Hc := hid hc
    unfold CntC at H3
    unfold NumM at H4
    rw [cntV_eq] at H3 H4
    obtain ⟨n, hn⟩ : ∃ n, n = nd 1000 c := ⟨_, rfl⟩
    rw [← hn] at H4 hle Hbst hnx Hone
    have Hn := hid hn
    rw [h0] at H1
    obtain ⟨nn, hnn⟩ : ∃ b, b = K.none := ⟨_, rfl⟩
    rw [← hnn] at k1 K1 HV H1 ⊢
    have Hkw := hid hk
    clear hnn hn hc hok hn12 h0 hpos hk hV hB0 hkV hlk
    go_enter Try.func42, Try.ntmps42
    go_upto_region 1 with (fail)
    rw [← HV.out]
    go_wp2_with fail
    refine (H1.out _ HV0.out).mono ?_
    rintro e w1 h
    obtain ⟨g, m, rfl, hgs, hms, hgm, hbal, hmap, hB⟩ := h.ok rfl
    have HB1 := hid hB; have HBal := hid hbal; have HM := hid (memo_made hmap); have Hg := hid hbal.c2
    have Hms := hid (show w.heap.size ≤ m from Nat.le_trans HB0.out.size hms)
    have Hgm := hid hgm
    clear h hB hbal hmap hgs hms hgm
    go_wp2_with fail
    refine (H3.out g _ w1 HBal.out).mono ?_
    rintro e w2 ⟨rfl, hB⟩
    have Hbal2 := hid (HBal.out.mono hB); have Hg2 := hid (cstep Hg.out hB); have HM2 := hid (HM.out.mono hB); have HB2 := hid (bstep HB0.out (bstep HB1.out hB))
    clear hB
    go_wp2_with fail
    refine (H4.out g m w2 Hg2.out HM2.out).mono ?_
    rintro e w3 ⟨rfl, hM3, hO3⟩
    have HB3 := hid (HB2.out.trans (hO3.below HB2.out.size (fun q hq e => by have e : q = m := e; have := Hms.out; omega)))
    have HM3 := hid hM3
    have Hbal3 := hid (show BalAt w3 g ka kc K (.map (some m)) from ⟨hO3.cell Hbal2.out.c0 (fun e => Hgm.out e), hO3.cell Hbal2.out.c1 (fun e => Hgm.out e), hO3.cell Hbal2.out.c2 (fun e => Hgm.out e), Hkw.out.mono HB3.out⟩)
    clear hO3 hM3
    by_cases hz : n = 0
    · rw [if_pos hz] at hnx
      have Hnx := hid hnx
      have b1 : ((n : Int) == 0) = true := by simp [hz]
      clear hnx hz hle
      go_wp2
      go_ret2
      exact ⟨fun _ => by rw [Hnx.out]; rfl, fun h => by rw [Hnx.out] at h; omega, HB3.out⟩
    · rw [if_neg hz] at hnx
      have b1 : ((n : Int) == 0) = false := by simp [hz]
      by_cases hbig : 1000 ≤ n
      · rw [if_pos hbig] at hnx
        have Hnx := hid hnx
        have b2 : (1000 : Int) ≤ (n : Int) := by omega
        clear hnx hz hle hbig
        go_wp2
        go_ret2
        exact ⟨fun _ => by rw [Hnx.out]; rfl, fun h => by rw [Hnx.out] at h; omega, HB3.out⟩
      · rw [if_neg hbig] at hnx
        have Hnx := hid hnx
        have b2 : ¬ (1000 : Int) ≤ (n : Int) := by omega
        have Hc1 := hid (show 1 < c.cases by
          have h1 := Hpos.out
          by_cases h : c.cases = 1
          · exact absurd (Hone.out h) hz
          · omega)
        have Hnlt := hid (show n < 1000 by omega)
        clear hnx hz hle hbig
        go_wp2_with fail
        refine (H3.out g _ w3 Hbal3.out).mono ?_
        rintro e w4 ⟨rfl, hB⟩
        have Hbal4 := hid (Hbal3.out.mono hB); have HM4 := hid (HM3.out.mono hB); have HB4 := hid (bstep HB3.out hB)
        clear hB
        have h81 := best_81 g m c w4 Hf.out Hc1.out Hbal4.out.c2 HM4.out
        rw [cntV_eq] at h81
        have H81 := hid h81
        clear h81
        go_wp2_with fail
        refine H81.out.mono ?_
        rintro e w5 ⟨p, hp, hmin, rfl, hM5, hO5⟩
        have HB5 := hid (HB4.out.trans (hO5.below HB4.out.size (fun q hq e => by have e : q = m := e; have := Hms.out; omega)))
        have Hbal5 := hid (show BalAt w5 g ka kc K (.map (some m)) from ⟨hO5.cell Hbal4.out.c0 (fun e => Hgm.out e), hO5.cell Hbal4.out.c1 (fun e => Hgm.out e), hO5.cell Hbal4.out.c2 (fun e => Hgm.out e), Hkw.out.mono HB5.out⟩)
        have Hbest := hid (Hbst.out Hc1.out Hnlt.out p hp hmin)
        have hf := mem_splitsS.1 hp
        have hp100 : p.left ≤ 100 := by
          have h1 := Hf.out
          have h2 := hf.k1; have h3 := hf.k2; have h4 := hf.k3
          unfold Cnt.fine at h1
          unfold Pn.left
          omega
        have h80 := lay_80 g ka kc K (.map (some m)) p w5 Hbal5.out Hok.out hf.ge hp100
        obtain ⟨L, hL⟩ : ∃ L, L = layL K.cop (pnF p) := ⟨_, rfl⟩
        rw [← hL] at h80 Hbest
        have H80 := hid h80
        clear hp hmin hM5 hO5 hf hp100 h80 hL
        go_wp2_with fail
        refine H80.out.mono ?_
        rintro e w6 ⟨la, lc, rfl, hI, hnil, hB⟩
        have HI := hid hI; have Hnil := hid hnil; have HB6 := hid (bstep HB5.out hB)
        clear hI hnil hB
        go_wp2
        go_ret2
        exact ⟨fun h => absurd Hnx.out h, fun _ => ⟨L, la, lc, rfl, HI.out, Hnil.out, Hbest.out.2, by rw [← Hc.out, ← Hn.out]; exact Hbest.out.1⟩, HB6.out⟩
  · have hnx := nx_bad h0
    obtain ⟨E, hE⟩ : ∃ E, E = knErr K := ⟨_, rfl⟩
    rw [← hE] at H1 hnx h0
    have Hnx := hid hnx; have H0 := hid h0
    have b1 : (E != 0) = true := by simpa using h0
    clear hnx hE h0 hk hV hB0 hkV hlk
    go_enter Try.func42, Try.ntmps42
    go_upto_region 1 with (fail)
    rw [← HV.out]
    go_wp2_with fail
    refine (H1.out _ HV0.out).mono ?_
    rintro e w1 h
    obtain ⟨rfl, hB⟩ := h.err H0.out
    have HB1 := hid hB
    clear h hB
    go_wp2
    go_ret2
    exact ⟨fun _ => by rw [Hnx.out]; rfl, fun h => by rw [Hnx.out] at h; exact absurd h H0.out, bstep HB0.out HB1.out⟩
end

end Go.Proofs.Ytelgbjfgmpkepaa
