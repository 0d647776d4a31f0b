/- The reader over whole rows, as plain functions; a new reader in memory. -/
import Derived.Test.YtjnijhnphhpilaaRead
namespace Go.Proofs.Ytjnijhnphhpilaa
open Go.RowKit

def zero75 : Array Value := (rdC zeros82 0 (.slice none 0 0) zeros82 0 (.slice none 0 0)).toArray

theorem run_build75 (w : World) : (Instr.build 75 #[]).run Try.prog w = .ok (.agg zero75) w := by kernel_rfl

theorem wpb75 {K : Act → World → Prop} {Q : Exit → Act → World → Prop} {a : Act} {w : World} (dst : Option Tmp) (t : TypeId) (pos : String) (after : Array Edge) (g : Option (Nat × Bool)) :
    Oper.wp Try.prog { dst := dst, op := .build 75 #[], type := t, pos := pos, after := after, guard := g } a w K Q = K (a.put dst (.agg zero75)) w := by
  unfold Oper.wp
  simp [execOp, run_build75, Result.andThen, Oper.upon]

theorem wpx75 {K : Act → World → Prop} {Q : Exit → Act → World → Prop} {a : Act} {w : World} (dst : Option Tmp) (x : Operand) (t : TypeId) (pos : String) (after : Array Edge) (g : Option (Nat × Bool)) :
    Oper.wp Try.prog { dst := dst, op := .box 75 x, type := t, pos := pos, after := after, guard := g } a w K Q =
      K (a.put dst (.pointer (some ⟨w.heap.size, 0, none⟩))) (w.alloc (.cells (a.eval x).cells 75)) := by
  unfold Oper.wp
  simp [execOp, Instr.box, newVar, newRow, Result.andThen, Oper.upon]

def rd0 : Rd := ⟨zeros82, 0, [], zeros82, 0, []⟩
def rdAll (row : List Int) : Rd := row.foldl Rd.read rd0

structure Rd.Ok (r : Rd) : Prop where
  zero : r.row.length = 0 → r.places = 0 ∧ r.own = zeros82 ∧ r.old = zeros82
  ok : RdOk (rdOwn r.own r.row) r.places r.row (rdOwn r.old r.row) (rdFar r.far r.row)

theorem rd0_ok : rd0.Ok := ⟨fun _ => ⟨rfl, rfl, rfl⟩, ⟨Nat.le_refl _, by decide, by decide, by decide, one82_bits, one82_bits, by decide⟩⟩

theorem Rd.read_row (r : Rd) (play : Int) : (r.read play).row = r.row ++ [play] := by
  unfold Rd.read
  simp only
  split
  · rfl
  · split <;> rfl

theorem Rd.Ok.read {r : Rd} (h : r.Ok) {play : Int} (hp : play = 0 ∨ play = 1) (hl : r.row.length < 80) : (r.read play).Ok := by
  obtain ⟨h0, ⟨hpl, hlen, hf1, hf2, hbo, hbl, hbr⟩⟩ := h
  have hrow : isBits (r.row ++ [play]) = true := by rw [isBits_append, hbr, isBits_single hp]; rfl
  refine ⟨fun h => by rw [Rd.read_row] at h; simp at h, ?_⟩
  have hne : (r.read play).row.length ≠ 0 := by rw [Rd.read_row]; simp
  have e1 : ∀ l, rdOwn l (r.read play).row = l := fun l => by unfold rdOwn; rw [if_neg hne]
  have e2 : ∀ l, rdFar l (r.read play).row = l := fun l => by unfold rdFar; rw [if_neg hne]
  rw [e1, e1, e2]
  unfold Rd.read
  simp only
  split
  · exact ⟨by (simp <;> omega), by (simp <;> omega), by simp, by (simp <;> omega), hbo, hbl, hrow⟩
  · split
    · exact ⟨by (simp <;> omega), by (simp <;> omega), by simp, by (simp <;> omega), xorFrom_bits hbo _, hbl, hrow⟩
    · exact ⟨by (simp <;> omega), by (simp <;> omega), by simp, by simp, xorFrom_bits hbo _, hbo, hrow⟩

theorem rdAll_append (xs : List Int) (x : Int) : rdAll (xs ++ [x]) = (rdAll xs).read x := by unfold rdAll; rw [List.foldl_append]; rfl
theorem rdAll_take_succ {xs : List Int} {k : Nat} (h : k < xs.length) : rdAll (xs.take (k + 1)) = (rdAll (xs.take k)).read (nth xs k) := by rw [take_succ_nth h, rdAll_append]

theorem rdAll_row (xs : List Int) : (rdAll xs).row = xs := by
  have : ∀ (ys : List Int) (r : Rd), (ys.foldl Rd.read r).row = r.row ++ ys := by
    intro ys
    induction ys with
    | nil => intro r; simp
    | cons y ys ih => intro r; rw [List.foldl_cons, ih, Rd.read_row]; simp
  exact this xs rd0

theorem rdAll_ok {xs : List Int} (h : isBits xs = true) (hl : xs.length ≤ 80) : ∀ k, k ≤ xs.length → (rdAll (xs.take k)).Ok
  | 0, _ => rd0_ok
  | k + 1, hk => by
    rw [rdAll_take_succ (by omega)]
    refine (rdAll_ok h hl k (by omega)).read (isBits_nth h k) ?_
    rw [rdAll_row, List.length_take]; omega

end Go.Proofs.Ytjnijhnphhpilaa
