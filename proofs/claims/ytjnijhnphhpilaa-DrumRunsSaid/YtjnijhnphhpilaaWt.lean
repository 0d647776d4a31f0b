/- turn: the map of stands. -/
import Derived.Test.YtjnijhnphhpilaaWr
import Derived.Maps.OwnSet
import Derived.Maps.RangeWalk
import Derived.DeepKeys4
import Derived.ChangeKeys
namespace Go.Proofs.Ytjnijhnphhpilaa
open Go.RowKit Go.Shelf

theorem laid : laidOutB Try.prog = true := by kernel_rfl
theorem row100 : (100 : TypeId) < Try.prog.types.size := of_decide_eq_true (by kernel_rfl)
theorem wide100 : (match Try.prog.underlying 100 with | some (.array _ _) | some (.struct _) => true | _ => false) = true := by rw [Try.underlying100]
theorem key100 : Try.prog.keyTypeAt 3 100 = true := by kernel_rfl
set_option maxRecDepth 100000 in
theorem law100 : Go.WideMaps.KeyLaw Try.prog 100 := deep_law_laid laid (m := 3) (by omega) row100 key100 wide100
theorem keyed100 : Go.Maps.Keyed Try.prog 100 := Go.Maps.Keyed.of_law law100

theorem keyTypeAll : Try.prog.keyType 100 = true := by kernel_rfl
theorem cells100 : Try.prog.cellsOf 100 = 12 := by kernel_rfl
theorem cells98 : Try.prog.cellsOf 98 = 12 := by kernel_rfl
theorem cells3 : Try.prog.cellsOf 3 = 1 := by kernel_rfl

theorem bit_wf {n : Int} (h : n = 0 ∨ n = 1) : (Lit.int .i64 n).wf = true := by rcases h with rfl | rfl <;> decide

theorem keyLits3 (d : Nat) {n : Int} (h : n = 0 ∨ n = 1) : Try.prog.keyLits (d + 1) 3 [.int .i64 n] = some [.int .i64 n] := by
  simp [Program.keyLits, Try.underlying3, bit_wf h]

def stLits (s : List Int) : List Lit := s.map (Lit.int .i64)

theorem mapM_some {α β : Type} (f : α → Option β) (g : α → β) : ∀ (l : List α), (∀ x ∈ l, f x = some (g x)) → l.mapM f = some (l.map g)
  | [], _ => rfl
  | x :: l, h => by
    rw [List.mapM_cons, h x (by simp), mapM_some f g l (fun y hy => h y (by simp [hy]))]
    rfl

theorem flat_nth (s : List Int) : ((List.range s.length).map fun i => [Lit.int .i64 (nth s i)]).flatten = stLits s := by
  unfold stLits
  rw [← List.flatMap_def]
  have hfm : ∀ l : List Nat, (l.flatMap fun i => [Lit.int .i64 (nth s i)]) = l.map fun i => Lit.int .i64 (nth s i) := by
    intro l
    induction l with
    | nil => rfl
    | cons x l ih => rw [List.flatMap_cons, ih]; rfl
  rw [hfm]
  apply List.ext_getElem (by simp)
  intro i h1 h2
  simp at h1
  simp [nth_eq h1]

theorem keyLits98 (d : Nat) {s : List Int} (hs : s.length = 12) (hb : isBits s = true) : Try.prog.keyLits (d + 2) 98 (intv s) = some (stLits s) := by
  have e : Try.prog.keyLits (d + 2) 98 (intv s) = (if (intv s).length = Try.prog.cellsOf 98 then ((List.range 12).mapM fun i => Try.prog.keyLits (d + 1) 3 (((intv s).drop (i * Try.prog.cellsOf 3)).take (Try.prog.cellsOf 3))).map List.flatten else none) := by
    conv => lhs; unfold Program.keyLits
    rw [Try.underlying98]
  rw [e, cells98, cells3, if_pos (by rw [intv_length, hs])]
  rw [mapM_some _ (fun i => [Lit.int .i64 (nth s i)]) _ (fun i hi => by
    have hi2 : i < s.length := by rw [hs]; exact List.mem_range.1 hi
    rw [Nat.mul_one]
    have e2 : ((intv s).drop i).take 1 = [.int .i64 (nth s i)] := by
      unfold intv
      rw [← List.map_drop, ← List.map_take, List.drop_eq_getElem_cons hi2, nth_eq hi2]
      rfl
    rw [e2]
    exact keyLits3 d (isBits_nth hb i))]
  have := flat_nth s
  rw [hs] at this
  rw [Option.map_some, this]

theorem keyLits100 (d : Nat) {s : List Int} (hs : s.length = 12) (hb : isBits s = true) : Try.prog.keyLits (d + 3) 100 (intv s) = some (stLits s) := by
  unfold Program.keyLits
  rw [Try.underlying100]
  have h := keyLits98 d hs hb
  simp [cells100, cells98, intv_length, hs, h]
  rw [List.take_of_length_le (by rw [intv_length, hs]; omega)]
  simp [h]

theorem keyOf_stand {s : List Int} (hs : s.length = 12) (hb : isBits s = true) : keyOf Try.prog 100 (.agg (intv s).toArray) = some (.string (keyBytes (stLits s))) := by
  unfold keyOf
  rw [Try.underlying100]
  have hf : (Value.agg (intv s).toArray).formed Try.prog 100 = true := by
    simp [Value.formed, Try.underlying100, cells100, intv_length, hs]
  have hn : ∃ n, Try.prog.types.size + 1 = n + 3 := ⟨Try.prog.types.size - 2, by
    have : 2 ≤ Try.prog.types.size := of_decide_eq_true (by kernel_rfl)
    omega⟩
  obtain ⟨n, hn⟩ := hn
  rw [keyTypeAll, hf, hn]
  have h := keyLits100 n hs hb
  simp [Value.cells, h]

theorem stLits_wf {s : List Int} (hb : isBits s = true) : ∀ l ∈ stLits s, l.keyWf := by
  intro l hl
  unfold stLits at hl
  obtain ⟨x, hx, rfl⟩ := List.mem_map.1 hl
  obtain ⟨k, hk, rfl⟩ := List.getElem_of_mem hx
  have := isBits_nth hb k
  rw [nth_eq hk] at this
  exact bit_wf this

theorem stand_key_inj {s t : List Int} (hs : s.length = 12) (ht : t.length = 12) (hb : isBits s = true) (hc : isBits t = true) (h : keyBytes (stLits s) = keyBytes (stLits t)) : s = t := by
  have := keyLits_inj (keyLits100 0 hs hb) (keyLits100 0 ht hc) h
  unfold stLits at this
  exact (List.map_inj_right (fun x y e => by cases e; rfl)).1 this

end Go.Proofs.Ytjnijhnphhpilaa
