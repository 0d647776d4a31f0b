/- Walk: all paths, by the program. Walk: Path, of the program. -/
import Derived.Test.YtnnojhpioenhbaaKF
import Derived.Test.YtnnojhpioenhbaaKH
import Derived.Laws.EntriesVeiled
namespace Go.Proofs.Ytnnojhpioenhbaa
open Go.RowKit Go.Shelf

/-- two lists more -/
theorem OwnR.app2 {er ee B : Nat} {w w' : World} {ao ao' : Option Addr} {n cap cap' : Nat} {ls : List (List Int)} {vs : List Value} (h : OwnR er ee B w ao n cap ls vs) (hne : ee ≠ er) (hg : w.grownBy w' (Value.ownBlock (.slice ao n cap)))
    {a : Option Addr} {m c : Nat} {xs : List Int} (hx : OwnI ee B w a m c xs) {a2 : Option Addr} {m2 c2 : Nat} {ys : List Int} (hy : OwnI ee B w a2 m2 c2 ys) (h' : OwnV er 1 B w' ao' (n + 2) cap' (vs ++ [.slice a m c, .slice a2 m2 c2])) :
    OwnR er ee B w' ao' (n + 2) cap' (ls ++ [xs, ys]) (vs ++ [.slice a m c, .slice a2 m2 c2]) := by
  have hl : vs.length = n := by have := h.own.1; omega
  obtain rfl := hx.1
  obtain rfl := hy.1
  refine ⟨h', by rw [List.length_append, h.len]; rfl, fun j hj => ?_⟩
  by_cases e : j < n
  · obtain ⟨ra, rc, h1, h2⟩ := h.row j e
    rw [nthL_append_left (by rw [h.len]; exact e)]
    exact ⟨ra, rc, by rw [List.getElem?_append_left (by omega)]; exact h1, OwnI.grownR h.own hne hg h2⟩
  · have hn : ls.length = n := h.len
    by_cases e2 : j = n
    · obtain rfl := e2
      have e3 : nthL (ls ++ [xs, ys]) j = xs := by subst hn; simp [nthL, List.getD]
      rw [e3]
      exact ⟨a, c, by subst hl; simp, OwnI.grownR h.own hne hg hx⟩
    · obtain rfl : j = n + 1 := by omega
      have e3 : nthL (ls ++ [xs, ys]) (n + 1) = ys := by subst hn; simp [nthL, List.getD]
      rw [e3]
      exact ⟨a2, c2, by subst hl; simp, OwnI.grownR h.own hne hg hy⟩

/-- both steps behind each of some paths -/
def pairsL (L : List (List Int)) : List (List Int) := L.flatMap fun p => [p ++ [0], p ++ [1]]
theorem pairsL_step {L : List (List Int)} {k : Nat} (hk : k < L.length) : pairsL (L.take (k + 1)) = pairsL (L.take k) ++ [nthL L k ++ [0], nthL L k ++ [1]] := by
  rw [List.take_succ_eq_append_getElem hk, nthL_eq hk]
  unfold pairsL
  rw [List.flatMap_append]
  rfl
theorem pairsL_len (L : List (List Int)) : (pairsL L).length = 2 * L.length := by
  induction L with
  | nil => rfl
  | cons x L ih => have : pairsL (x :: L) = [x ++ [0], x ++ [1]] ++ pairsL L := rfl
                   rw [this, List.length_append, ih]; simp; omega
theorem pathsL_len (n : Nat) : (pathsL n).length = 2 ^ n := by rw [pathsL_eq]; simp
theorem pathsL_nth {n k : Nat} (hk : k < 2 ^ n) : nthL (pathsL n) k = numb n k := by
  rw [nthL_eq (by rw [pathsL_len]; exact hk)]
  have := pathsL_eq n
  simp [this]
theorem OwnI.capOf {e B : Nat} {w : World} {ao : Option Addr} {n cap : Nat} {xs : List Int} (h : OwnI e B w ao n cap xs) : n ≤ cap := by
  rcases h.2.2 with ⟨e, h0⟩ | ⟨g, c, cur, e, hge, hh, hc, hr⟩
  · cases e; omega
  · cases e; exact hc

/-- what the operations that make memory make -/
def pathΦ (Bs : Nat) (xs : List Int) (i : Nat) (vs : List Value) (v : Value) (p q : World) : Prop :=
  if i = 7 then v = .slice (some ⟨p.heap.size, 0, none⟩) 1 1 ∧ q = p.alloc (.cells #[.int .i64 0] 3)
  else if i = 15 then v = .slice (some ⟨p.heap.size, 0, none⟩) 1 1 ∧ q = p.alloc (.cells #[.int .i64 1] 3)
  else if i = 8 then ∃ ao cap, v = .slice ao (xs.length + 1) cap ∧ OwnI 3 Bs q ao (xs.length + 1) cap (xs ++ [0])
  else if i = 16 then ∃ ao cap, v = .slice ao (xs.length + 1) cap ∧ OwnI 3 Bs q ao (xs.length + 1) cap (xs ++ [1])
  else v = .slice (some ⟨p.heap.size, 0, none⟩) 2 2 ∧ q = p.alloc (.cells vs.toArray 42)

theorem makes_app_full (dst : Option Tmp) (ty : TypeId) (pos : String) (after : Array Edge) (S X : Operand) (A : Act) (w : World) (Bs : Nat) (ao : Option Addr) (cap : Nat) (xs : List Int) (hs : A.eval S = .slice ao xs.length cap) (hat : IntsAt w ao xs) (hnil : ao = none → xs.length = 0 ∧ cap = 0)
    (ad : Addr) (u : Int) (hx : A.eval X = .slice (some ad) 1 1) (hu : w.cell? ad = some (.int .i64 u)) (hfull : cap < xs.length + 1) (hb : xs.length ≤ 100000) (hB : Bs ≤ w.heap.size) :
    makesOp Try.prog { dst := dst, op := .call { callee := .builtin .append, args := #[S, X], argTypes := #[42, 42] }, type := ty, pos := pos, after := after, guard := none } A w fun v s' => Below w.heap.size w s' ∧ ∃ ao' cap', v = .slice ao' (xs.length + 1) cap' ∧ OwnI 3 Bs s' ao' (xs.length + 1) cap' (xs ++ [u]) := by
  obtain ⟨ao', cap', w', hrun, h1, h2⟩ := run_app_full ty w ao cap xs hat hnil ad u hu hfull hb
  unfold makesOp
  simp [execOp, resolve, invoke, builtin, hs, hx, hrun, Result.andThen]
  exact ⟨h1, ao', cap', ⟨rfl, rfl⟩, h2.base hB⟩
set_option maxRecDepth 100000 in
theorem makes_lit (dst : Option Tmp) (ty : TypeId) (pos : String) (after : Array Edge) (c : Int) (A : Act) (w : World) :
    makesOp Try.prog { dst := dst, op := .buildSlice 42 1 #[(0, .const (.int .i64 c))], type := ty, pos := pos, after := after, guard := none } A w fun v s' => Below w.heap.size w s' ∧ (v = .slice (some ⟨w.heap.size, 0, none⟩) 1 1 ∧ s' = w.alloc (.cells #[.int .i64 c] 3)) := by
  unfold makesOp
  simp [go_sem]
  exact bnew _ _
set_option maxRecDepth 100000 in
theorem makes_two (dst : Option Tmp) (ty : TypeId) (pos : String) (after : Array Edge) (x y : Tmp) (u v : Value) (a b : Option Addr) (m c n d : Nat) (A : Act) (w : World) (hx : A.eval (.tmp x) = u) (hy : A.eval (.tmp y) = v) (hu : u = .slice a m c) (hv : v = .slice b n d) :
    makesOp Try.prog { dst := dst, op := .buildSlice 22 2 #[(0, .tmp x), (1, .tmp y)], type := ty, pos := pos, after := after, guard := none } A w fun z s' => Below w.heap.size w s' ∧ (z = .slice (some ⟨w.heap.size, 0, none⟩) 2 2 ∧ s' = w.alloc (.cells #[u, v] 42)) := by
  subst hu hv
  unfold makesOp
  simp only [execOp, List.map_toArray, List.map_cons, List.map_nil, hx, hy]
  simp [go_sem]
  exact bnew _ _

section
variable (g : Nat) (A : FA) (B : Bd) (R : Rd) (lv : Int) (w : World)
set_option maxRecDepth 100000 in
set_option maxHeartbeats 8000000 in
theorem paths_c (hf : FrAt w g A B R lv) (hn8 : B.pins.length ≤ 8) :
    Calls Try.prog 81 #[.pointer (some ⟨g, 0, none⟩)] w fun e w' => ∃ ao cap vs, e = .returned (.slice ao (2 ^ B.pins.length) cap) ∧ OwnR 42 3 w.heap.size w' ao (2 ^ B.pins.length) cap (pathsL B.pins.length) vs ∧ Below w.heap.size w w' := by
  have k0 := hf.k0
  have HK0 := hid fun (w' : World) (h : Below w.heap.size w w') => cstep k0 h
  obtain ⟨N, hN⟩ : ∃ N, N = B.pins.length := ⟨_, rfl⟩
  rw [← hN] at k0 HK0 hn8 ⊢
  obtain ⟨W0, hW0⟩ : ∃ W, W = w.alloc (.cells #[.slice none 0 0] 42) := ⟨_, rfl⟩
  have hBW : Below w.heap.size w W0 := by rw [hW0]; exact bnew w _
  have hr2 : W0.heap[w.heap.size]? = some (.cells #[.slice none 0 0] 42 (0, 0)) := by rw [hW0]; exact heap_alloc_new w _
  have hown : OwnR 42 3 w.heap.size W0 (some ⟨w.heap.size, 0, none⟩) 1 1 (pathsL 0) [.slice none 0 0] :=
    ⟨⟨rfl, .inr ⟨_, 1, _, rfl, by omega, hr2, Nat.le_refl _, by unfold maxLen; omega, rfl, rfl⟩⟩, rfl, fun j hj => by
      obtain rfl : j = 0 := by omega
      exact ⟨none, 0, rfl, OwnI.nil _ _ _⟩⟩
  have Hown := hid hown; have HBW := hid hBW; have HW0 := hid hW0
  clear hN hf hW0 hBW hr2 hown
  go_enter Try.func81, Try.ntmps81
  go_upto_region 2 with (fail)
  rw [← HW0.out]
  have k0 := HK0.out _ HBW.out
  go_wp2
  go_loopw [3, 4, 6, 14] (fun o _ _ i wr => ∃ (r P : Nat) (ao : Option Addr) (cap : Nat) (vs : List Value), r ≤ N ∧ P = 2 ^ r ∧ i = .int .i64 r ∧ o = .slice ao P cap ∧ OwnR 42 3 w.heap.size wr ao P cap (pathsL r) vs ∧ Below w.heap.size w wr) (fun _ _ _ i _ => N - (intOf i).toNat)
  case atStart => exact ⟨0, 1, _, _, _, Nat.zero_le _, rfl, rfl, rfl, Hown.out, HBW.out⟩
  case round =>
    obtain ⟨r, P, ao, cap, vs, hr, hP, rfl, rfl, ho, hBr⟩ := hrel
    obtain ⟨wo, rfl⟩ : ∃ wo : World, wo = wr := ⟨_, rfl⟩
    have Ho := hid ho; have HBo := hid hBr
    by_cases hlt : r < N
    · have hltI : (r : Int) < (N : Int) := by omega
      have hP256 : P ≤ 256 := by rw [hP]; exact Nat.le_trans (Nat.pow_le_pow_right (by omega) (show r ≤ 8 by omega)) (by decide)
      have HP := hid hP
      have hlenL : (pathsL r).length = P := by rw [pathsL_len, hP]
      have HlenL := hid hlenL
      have Hnum := hid fun (k : Nat) (hk : k < P) => show (nthL (pathsL r) k).length = r by rw [pathsL_nth (by omega), numb_len]
      obtain ⟨L, hL⟩ : ∃ L, L = pathsL r := ⟨_, rfl⟩
      have Hsucc := hid (show pathsL (r + 1) = pairsL L by rw [hL]; rfl)
      rw [← hL] at Ho HlenL Hnum
      clear ho hBr hP hlenL hL k0
      go_wp2
      go_loopw [4, 6, 18] (fun x _ i wr => ∃ (k : Nat) (bo : Option Addr) (bc : Nat) (us : List Value), k ≤ P ∧ i = .int .i64 k ∧ x = .slice bo (2 * k) bc ∧ OwnR 42 3 wo.heap.size wr bo (2 * k) bc (pairsL (L.take k)) us ∧ Below wo.heap.size wo wr) (fun _ _ i _ => P - (intOf i).toNat)
      case atStart => exact ⟨0, none, 0, [], Nat.zero_le _, rfl, rfl, OwnR.nil _ _ _ _, Below.refl _ _⟩
      case round =>
        obtain ⟨k, bo, bc, us, hk, rfl, rfl, hn, hBk⟩ := hrel
        obtain ⟨wi, rfl⟩ : ∃ wi : World, wi = wr := ⟨_, rfl⟩
        have Hn := hid hn; have HBk := hid hBk
        by_cases hkP : k < P
        · have hkI : (k : Int) < (P : Int) := by omega
          obtain ⟨ra, rc, hv, hrow⟩ := (Ho.out.kept hBk).row k hkP
          rw [Hnum.out k hkP] at hv hrow
          have hcap := hrow.capOf
          have hcell : ∃ b off, ao = some ⟨b, off, none⟩ ∧ wi.cell? ⟨b, off + k, none⟩ = some (.slice ra r rc) := by
            rcases (Ho.out.kept hBk).own.at with h | ⟨b, off, e, hc⟩
            · rw [h] at hv; cases hv
            · exact ⟨b, off, e, hc _ _ hv⟩
          obtain ⟨ob, oo, rfl, hc⟩ := hcell
          have hsl := full42 ra r rc hcap
          have Hrow := hid hrow
          have Hpl := hid (pairsL_step (L := L) (k := k) (by rw [HlenL.out]; exact hkP))
          obtain ⟨xs, hxs⟩ : ∃ xs, xs = nthL L k := ⟨_, rfl⟩
          have hxl : xs.length = r := by rw [hxs]; exact Hnum.out k hkP
          rw [← hxs] at Hrow Hpl
          have hr8 : r ≤ 8 := by omega
          obtain ⟨rr, hrr⟩ : ∃ rr, rr = r := ⟨_, rfl⟩
          rw [← hrr] at hxl hr8 Hrow hsl hc
          have e1 : IntKind.i64.wrap ((k : Int) + 1) = (k : Int) + 1 := wrap_i64_of (by omega) (by omega)
          clear hn hBk hrow hv hcap hxs hrr
          go_upto_region 8 with (fail)
          refine wp_region_mix (n := 18) (nz := [(7, 29), (8, 30), (15, 37), (16, 38), (17, 39)]) (dp := fun i => if i = 8 then [7] else if i = 16 then [15] else if i = 17 then [8, 16] else []) (bs := [false, false, false, false, false, false, false, true, true, false, false, false, false, false, false, true, true, true, true, true]) (Φ := pathΦ wo.heap.size xs) (by kernel_rfl) (by kernel_rfl) (by simp) ?_
          simp only [blindL, blindO, if_true, Bool.false_eq_true, if_false]
          repeat (gi_big_quiet_step (fail))
          refine wpQuietIn_nil ?_
          refine ⟨?_, ?_⟩
          · intro J hJ hne
            repeat (gi_big_quiet_step (fail))
            exact wpQuietIn_nil rfl
          · refine ⟨fun i hi o ho r s hs hd => ?_, fun r p q s hs hm ha => ?_⟩
            · have hi2 : i = 7 ∨ i = 8 ∨ i = 15 ∨ i = 16 ∨ i = 17 := by simp only [isNz, List.any_cons, List.any_nil, Bool.or_false, Bool.or_eq_true, beq_iff_eq] at hi; omega
              have hsz : wo.heap.size ≤ s.heap.size := Nat.le_trans HBk.out.size hs.size
              rcases hi2 with rfl | rfl | rfl | rfl | rfl
              · simp only [List.getElem?_cons_succ, List.getElem?_cons_zero, Option.some.injEq] at ho
                subst ho
                exact makes_lit _ _ _ _ 0 _ s
              · simp only [List.getElem?_cons_succ, List.getElem?_cons_zero, Option.some.injEq] at ho
                subst ho
                obtain ⟨p, q, ⟨hv, hq⟩, hqs⟩ := hd 7 (by simp)
                exact makes_app_full _ _ _ _ (.tmp 28) (.tmp 29) _ s wo.heap.size ra rr xs (by rw [hxl]; rfl) ((Hrow.out.kept hs).at) (fun h => ⟨by rw [hxl]; exact (Hrow.out.none h).1, by exact (Hrow.out.none h).1⟩) _ 0 ((show _ = r 7 from rfl).trans hv) (cstep (w := q) (by rw [hq]; simp [go_sem]) hqs) (by omega) (by omega) hsz
              · simp only [List.getElem?_cons_succ, List.getElem?_cons_zero, Option.some.injEq] at ho
                subst ho
                exact makes_lit _ _ _ _ 1 _ s
              · simp only [List.getElem?_cons_succ, List.getElem?_cons_zero, Option.some.injEq] at ho
                subst ho
                obtain ⟨p, q, ⟨hv, hq⟩, hqs⟩ := hd 15 (by simp)
                exact makes_app_full _ _ _ _ (.tmp 36) (.tmp 37) _ s wo.heap.size ra rr xs (by rw [hxl]; rfl) ((Hrow.out.kept hs).at) (fun h => ⟨by rw [hxl]; exact (Hrow.out.none h).1, by exact (Hrow.out.none h).1⟩) _ 1 ((show _ = r 15 from rfl).trans hv) (cstep (w := q) (by rw [hq]; simp [go_sem]) hqs) (by omega) (by omega) hsz
              · simp only [List.getElem?_cons_succ, List.getElem?_cons_zero, Option.some.injEq] at ho
                subst ho
                obtain ⟨p, q, ⟨a8, c8, h8, _⟩, _⟩ := hd 8 (by simp)
                obtain ⟨p2, q2, ⟨a16, c16, h16, _⟩, _⟩ := hd 16 (by simp)
                exact makes_two _ _ _ _ 30 38 (r 8) (r 16) a8 a16 (xs.length + 1) c8 (xs.length + 1) c16 _ s rfl rfl h8 h16
            · obtain ⟨⟨a8, c8, h8, ho8⟩, hq8, _⟩ := hm 8 (by simp [isNz])
              obtain ⟨⟨a16, c16, h16, ho16⟩, hq16, _⟩ := hm 16 (by simp [isNz])
              obtain ⟨⟨h17, hq17⟩, hq17s, _⟩ := hm 17 (by simp [isNz])
              have hsz : wo.heap.size ≤ s.heap.size := Nat.le_trans HBk.out.size hs.size
              simp only [List.drop_succ_cons, List.drop_zero, putN, List.foldl_cons, List.foldl_nil, Act.put, List.setIfInBounds_toArray, List.set_cons_succ, List.set_cons_zero]
              have hcs : CellsAt s (some ⟨(p 17).heap.size, 0, none⟩) [.slice a8 (xs.length + 1) c8, .slice a16 (xs.length + 1) c16] := by
                refine CellsAt.mono (w := q 17) ?_ hq17s
                rw [hq17]
                refine CellsAt.of_heap (heap_alloc_new _ _) fun j v hj => ?_
                have e : (dpv (fun i => if i = 8 then [7] else if i = 16 then [15] else if i = 17 then [8, 16] else []) r 17).toArray = #[r 8, r 16] := rfl
                rw [e, h8, h16, Nat.zero_add]
                simpa using hj
              have hn2 := Hn.out.kept hs
              have h22 : 2 * k + 2 ≤ 1000000 := by omega
              have HX8 := hid (OwnI.kept (show OwnI 3 wo.heap.size (q 8) a8 (xs.length + 1) c8 (xs ++ [0]) from ho8) hq8)
              have HX16 := hid (OwnI.kept (show OwnI 3 wo.heap.size (q 16) a16 (xs.length + 1) c16 (xs ++ [1]) from ho16) hq16)
              have Hn2 := hid hn2; have Hs := hid (bstep HBk.out hs)
              obtain ⟨r17, hr17⟩ : ∃ v, v = r 17 := ⟨_, rfl⟩
              rw [← hr17] at h17 ⊢
              have h17 : r17 = .slice (some ⟨(p 17).heap.size, 0, none⟩) 2 2 := h17
              obtain ⟨r8, hr8b⟩ : ∃ v, v = r 8 := ⟨_, rfl⟩
              obtain ⟨r16, hr16b⟩ : ∃ v, v = r 16 := ⟨_, rfl⟩
              rw [← hr8b, ← hr16b]
              obtain ⟨r7, hr7b⟩ : ∃ v, v = r 7 := ⟨_, rfl⟩
              obtain ⟨r15, hr15b⟩ : ∃ v, v = r 15 := ⟨_, rfl⟩
              rw [← hr7b, ← hr15b]
              refine wpListIn_appV et22 s rfl (.tmp 22) (.tmp 39) rfl wo.heap.size bo (2 * k) bc us rfl hn2.own (some ⟨(p 17).heap.size, 0, none⟩) 2 2 _ h17 hcs rfl (by intro u hu; simp at hu; rcases hu with rfl | rfl <;> rfl) (fun h => by cases h) h22 hsz ?_
              intro ao' cap' w' hB' hown' hgr' hn'
              have Hnew := hid (OwnR.app2 hn2 (by decide) hgr' HX8.out HX16.out hown')
              have HBn := hid (Hs.out.trans hB')
              clear hB' hown' hgr' hn' hcs hn2 h17 h8 h16 ho8 ho16 hq8 hq16 hq17 hq17s hm ha hs hr17 hr8b hr16b hr7b hr15b
              gi_wp2
              go_wp2
              go_roundw
              case rel => exact ⟨k + 1, ao', cap', _, by omega, by go_num, rfl, by rw [Hpl.out]; exact Hnew.out, HBn.out⟩
              case measure => simp [intOf]; omega
        · obtain rfl : k = P := by omega
          have hkI : ¬ (k : Int) < (k : Int) := by omega
          have e1 : IntKind.i64.wrap ((r : Int) + 1) = (r : Int) + 1 := wrap_i64_of (by omega) (by omega)
          have hL : pairsL (L.take k) = pathsL (r + 1) := by rw [Hsucc.out, ← HlenL.out, List.take_length]
          rw [hL] at Hn
          have HPn := hid (show 2 * k = 2 ^ (r + 1) by rw [HP.out, Nat.pow_succ, Nat.mul_comm])
          clear hn hBk hL
          go_wp2
          go_roundw
          case rel => exact ⟨r + 1, 2 * k, bo, bc, us, by omega, HPn.out, by go_num, rfl, Hn.out.base HBo.out.size, HBo.out.trans (HBk.out.mono HBo.out.size)⟩
          case measure => simp [intOf]; omega
    · obtain rfl : r = N := by omega
      have hltI : ¬ (r : Int) < (r : Int) := by omega
      rw [hP] at Ho ⊢
      clear ho hBr
      go_wp2
      go_ret
      exact ⟨ao, cap, rfl, ⟨vs, Ho.out⟩, HBo.out⟩
end

end Go.Proofs.Ytnnojhpioenhbaa

namespace Go.Proofs.Ytnnojhpioenhbaa
open Go.RowKit Go.Shelf

theorem bestN_congr {f g : Nat → Int} : ∀ {m : Nat}, (∀ i, i < m → f i = g i) → bestN f m = bestN g m
  | 0, _ => rfl
  | m + 1, h => by
    have ih := bestN_congr (f := f) (g := g) (m := m) fun i hi => h i (by omega)
    simp only [bestN]
    rw [ih, h m (by omega)]
    by_cases hm : 0 < m
    · rw [h (bestN g m) (by have := bestN_lt g m hm; omega)]
    · obtain rfl : m = 0 := by omega
      simp only [bestN]
      by_cases h1 : f 0 < g 0 <;> simp [h1]
theorem OwnV.capOf {e sz B : Nat} {w : World} {ao : Option Addr} {n cap : Nat} {vs : List Value} (h : OwnV e sz B w ao n cap vs) : n ≤ cap := by
  rcases h.2 with ⟨e, h0⟩ | ⟨g, c, cur, e, hge, hh, hc, hr⟩
  · cases e; omega
  · cases e; exact hc
theorem enters82 : ∀ args w, (callFunc 82 args).run Try.prog w = .ok (.enter 82 args) w := enters_of Try.func82 (by kernel_rfl) rfl
theorem path_nth {n : Nat} {x : List Int} (hx : x ∈ pathsL n) : x.length = n ∧ ∀ k, k < x.length → nth x k = 0 ∨ nth x k = 1 := by
  rw [pathsL_eq] at hx
  obtain ⟨i, _, rfl⟩ := List.mem_map.1 hx
  exact ⟨numb_len _ _, fun k hk => numb_mem _ i _ (nth_mem hk)⟩

section
variable (pa : Option Addr) (pc : Nat) (ya : Option Addr) (yc : Nat) (B : Bd) (lv : Int) (w : World)
set_option maxRecDepth 100000 in
set_option maxHeartbeats 2000000 in
theorem pPath_c (hb : BdAt w pa ya B) (hl : B.pins.length ≤ 1000000) (hy : B.pays.length ≤ 1000000) :
    Calls Try.prog 30 #[.agg #[.slice pa B.pins.length pc, .slice ya B.pays.length yc], .int .i64 lv] w (SliceE w (atErr B lv) (pathX B lv)) := by
  obtain ⟨V, hV, hB0, k0, k1⟩ := box1 w (.slice pa B.pins.length pc) (.slice ya B.pays.length yc) 25
  have hbV := hb.mono hB0
  have HB0 := hid hB0; have HV := hid hV; have HV0 := hid (Below.refl V.heap.size V)
  have K0 := hid k0; have K1 := hid k1
  unfold SliceE
  by_cases h0 : atErr B lv = 0
  · have hx : pathX B lv = numb B.pins.length (bestN (falN B lv) (2 ^ B.pins.length)) := by unfold pathX; rw [if_pos h0]
    obtain ⟨hBk, hlv⟩ := atErr_zero.1 h0
    have hn8 := hBk.n8
    have HC := hid (levelled_good pa pc ya yc B V lv hbV hl hy h0)
    have HPs := hid fun (g : Nat) (w' : World) (h : FrAt w' g (fa0 pa pc ya yc) B R0 lv) => paths_c g _ B R0 lv w' h hn8
    have HF := hid fun (g : Nat) (w' : World) (h : FrAt w' g (fa0 pa pc ya yc) B R0 lv) (x : List Int) (hx : x ∈ pathsL B.pins.length) (ra : Option Addr) (rc : Nat) (ha : IntsAt w' ra x) => falls_c g _ B R0 lv ra rc x w' h hBk hlv ha (path_nth hx).1 (path_nth hx).2
    have hpw : 2 ^ B.pins.length ≤ 256 := Nat.le_trans (Nat.pow_le_pow_right (by omega) hn8) (by decide)
    have hp0 : 0 < 2 ^ B.pins.length := Nat.pow_pos (by omega)
    have Hval := hid (show nthL (pathsL B.pins.length) (bestN (vN (fallsOf (Rt B lv)) (pathsL B.pins.length)) (2 ^ B.pins.length)) = numb B.pins.length (bestN (falN B lv) (2 ^ B.pins.length)) by
      rw [bestN_congr (g := falN B lv) (fun i hi => by unfold vN falN; rw [pathsL_nth hi])]
      exact pathsL_nth (bestN_lt _ _ hp0))
    have Hlen := hid (pathsL_len B.pins.length)
    rw [h0, hx, ← Hval.out]
    clear hV hbV hB0 hb hl hy h0 hx hBk hlv hn8
    go_enter Try.func30, Try.ntmps30
    go_upto_region 1 with (fail)
    rw [← HV.out]
    go_wp2_with fail
    refine HC.out.mono ?_
    rintro e w1 ⟨g, rfl, hfr, hB⟩
    have HB1 := hid hB; have Hfr := hid hfr
    clear hB hfr k0 k1 HC
    go_upto_region 5 with (fail)
    obtain ⟨w2, hw2⟩ : ∃ w2, w2 = w1.alloc (.cells #[.func (.func 78) #[.pointer (some ⟨g, 0, none⟩)] #[]] 104) := ⟨_, rfl⟩
    have hB2 : Below w1.heap.size w1 w2 := by rw [hw2]; exact bnew _ _
    have hc2 : w2.cell? ⟨w1.heap.size, 0, none⟩ = some (.func (.func 78) #[.pointer (some ⟨g, 0, none⟩)] #[]) := by rw [hw2]; simp [go_sem]
    have hz : w1.heap.size < w2.heap.size := by rw [hw2]; simp
    rw [← hw2]
    have Hfr2 := hid (Hfr.out.mono hB2); have Hc2 := hid hc2; have HB2 := hid (bstep HB1.out hB2)
    clear hw2 hB2 hc2 hz
    go_wp2_with fail
    refine (HPs.out g w2 Hfr2.out).mono ?_
    rintro e w3 ⟨ao, cap, vs, rfl, ho, hB⟩
    have HB3 := hid (bstep HB2.out hB); have Ho := hid ho
    have Hfr3 := hid (Hfr2.out.mono hB); have Hc3 := hid (cstep Hc2.out hB)
    have hbest := best_c ao cap 82 #[.pointer (some ⟨w1.heap.size, 0, none⟩)] (fallsOf (Rt B lv)) (pathsL B.pins.length) w3 Ho.out.at (by rw [Hlen.out]; exact hp0) (by rw [Hlen.out]; omega) (by rw [Hlen.out]; exact Ho.out.own.capOf)
      (fun w' h x y ra rb rc rd hx hy hax hay => path1_c w1.heap.size g x y ra rb rc rd _ _ w' (cstep Hc3.out h) (fun w2 h2 => HF.out g w2 ((Hfr3.out.mono h).mono h2) x hx ra rc (hax.mono h2)) (fun w2 h2 => HF.out g w2 ((Hfr3.out.mono h).mono h2) y hy rb rd (hay.mono h2))) enters82
    rw [Hlen.out] at hbest
    have HBest := hid hbest
    clear hB ho hbest
    go_wp2_with fail
    refine HBest.out.mono ?_
    rintro e w4 ⟨ra, rc, rfl, hx, hn, hB⟩
    have HB4 := hid (bstep HB3.out hB)
    clear hB
    go_wp2
    go_ret2
    exact ⟨ra, rc, rfl, hx, hn, bstep HB0.out HB4.out⟩
  · have hx : pathX B lv = [] := by unfold pathX; rw [if_neg h0]
    rw [hx]
    have HC := hid (levelled_bad pa pc ya yc B V lv hbV hl hy h0)
    obtain ⟨v, hv⟩ : ∃ v, v = atErr B lv := ⟨_, rfl⟩
    rw [← hv] at HC h0 ⊢
    unfold NoFr at HC
    clear hV hbV hB0 hb hl hy hx hv
    go_enter Try.func30, Try.ntmps30
    go_upto_region 1 with (fail)
    rw [← HV.out]
    go_wp2_with fail
    refine HC.out.mono ?_
    rintro e w1 ⟨rfl, hB⟩
    have HB1 := hid hB
    clear hB
    go_wp2
    go_ret2
    exact ⟨none, 0, rfl, .inl rfl, fun _ => rfl, bstep HB0.out HB1.out⟩
end

end Go.Proofs.Ytnnojhpioenhbaa
