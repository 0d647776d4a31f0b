/- What tells whether a play that is fed by a row is wrong; the reader of rows, as plain functions. -/
import Derived.Test.YtjnijhnphhpilaaPlays
import Derived.Test.YtjnijhnphhpilaaApp
namespace Go.Proofs.Ytjnijhnphhpilaa
open Go.RowKit

def oddTo (own row : List Int) (play : Int) : Nat → Int
  | 0 => play
  | k + 1 => (oddTo own row play k + nth own (k + 1) * nth row (row.length - (k + 1))) % 2

theorem oddTo_bit {own row : List Int} {play : Int} (hp : play = 0 ∨ play = 1) : ∀ k, oddTo own row play k = 0 ∨ oddTo own row play k = 1
  | 0 => hp
  | _ + 1 => mod_bit _

/-- the cells of a reader -/
def rdC (own : List Int) (places : Nat) (rv : Value) (old : List Int) (far : Nat) (pv : Value) : List Value :=
  intv own ++ (.int .i64 places :: rv :: (intv old ++ [.int .i64 far, pv]))

variable {own old : List Int} {places far : Nat} {rv pv : Value}
theorem rdC_length (ho : own.length = 82) (hl : old.length = 82) : (rdC own places rv old far pv).length = 168 := by simp [rdC, intv, ho, hl]
theorem rdC_own (ho : own.length = 82) (_hl : old.length = 82) {k : Nat} (hk : k < 82) : (rdC own places rv old far pv)[k]? = some (.int .i64 (nth own k)) := by
  unfold rdC; rw [List.getElem?_append_left (by simp [intv, ho, hk]), intv_get, if_pos (by omega)]
theorem rdC_places (ho : own.length = 82) (_hl : old.length = 82) : (rdC own places rv old far pv)[82]? = some (.int .i64 places) := by
  unfold rdC; rw [List.getElem?_append_right (by simp [intv, ho])]; simp [intv, ho]
theorem rdC_row (ho : own.length = 82) (_hl : old.length = 82) : (rdC own places rv old far pv)[83]? = some rv := by
  unfold rdC; rw [List.getElem?_append_right (by simp [intv, ho])]; simp [intv, ho]
theorem rdC_old (ho : own.length = 82) (hl : old.length = 82) {k : Nat} (hk : k < 82) : (rdC own places rv old far pv)[84 + k]? = some (.int .i64 (nth old k)) := by
  unfold rdC
  rw [List.getElem?_append_right (by simp [intv, ho]; omega), intv_length, ho, show 84 + k - 82 = k + 1 + 1 from by omega, List.getElem?_cons_succ, List.getElem?_cons_succ,
    List.getElem?_append_left (by simp [intv, hl, hk]), intv_get, if_pos (by omega)]
theorem rdC_far (ho : own.length = 82) (hl : old.length = 82) : (rdC own places rv old far pv)[166]? = some (.int .i64 far) := by
  unfold rdC
  rw [List.getElem?_append_right (by simp [intv, ho]), intv_length, ho, show 166 - 82 = 82 + 1 + 1 from rfl, List.getElem?_cons_succ, List.getElem?_cons_succ,
    List.getElem?_append_right (by simp [intv, hl])]
  simp [intv, hl]
theorem rdC_proof (ho : own.length = 82) (hl : old.length = 82) : (rdC own places rv old far pv)[167]? = some pv := by
  unfold rdC
  rw [List.getElem?_append_right (by simp [intv, ho]), intv_length, ho, show 167 - 82 = 83 + 1 + 1 from rfl, List.getElem?_cons_succ, List.getElem?_cons_succ,
    List.getElem?_append_right (by simp [intv, hl])]
  simp [intv, hl]

theorem rdC_set_own (ho : own.length = 82) (_hl : old.length = 82) {k : Nat} (hk : k < 82) (x : Int) : (rdC own places rv old far pv).set k (.int .i64 x) = rdC (own.set k x) places rv old far pv := by
  unfold rdC; rw [List.set_append_left _ _ (by simp [intv, ho, hk])]; simp [intv]
theorem rdC_set_places (ho : own.length = 82) (_hl : old.length = 82) (n : Nat) : (rdC own places rv old far pv).set 82 (.int .i64 n) = rdC own n rv old far pv := by
  unfold rdC; rw [List.set_append_right _ _ (by simp [intv, ho])]; simp [intv, ho]
theorem rdC_set_row (ho : own.length = 82) (_hl : old.length = 82) (v : Value) : (rdC own places rv old far pv).set 83 v = rdC own places v old far pv := by
  unfold rdC; rw [List.set_append_right _ _ (by simp [intv, ho])]; simp [intv, ho]
theorem rdC_set_old (ho : own.length = 82) (hl : old.length = 82) {k : Nat} (hk : k < 82) (x : Int) : (rdC own places rv old far pv).set (84 + k) (.int .i64 x) = rdC own places rv (old.set k x) far pv := by
  unfold rdC
  rw [List.set_append_right _ _ (by simp [intv, ho]; omega), intv_length, ho, show 84 + k - 82 = k + 1 + 1 from by omega, List.set_cons_succ, List.set_cons_succ, List.set_append_left _ _ (by simp [intv, hl, hk])]
  simp [intv]
theorem rdC_set_far (ho : own.length = 82) (hl : old.length = 82) (n : Nat) : (rdC own places rv old far pv).set 166 (.int .i64 n) = rdC own places rv old n pv := by
  unfold rdC
  rw [List.set_append_right _ _ (by simp [intv, ho]), intv_length, ho, show 166 - 82 = 82 + 1 + 1 from rfl, List.set_cons_succ, List.set_cons_succ, List.set_append_right _ _ (by simp [intv, hl])]
  simp [intv, hl]
theorem rdC_set_proof (ho : own.length = 82) (hl : old.length = 82) (v : Value) : (rdC own places rv old far pv).set 167 v = rdC own places rv old far v := by
  unfold rdC
  rw [List.set_append_right _ _ (by simp [intv, ho]), intv_length, ho, show 167 - 82 = 83 + 1 + 1 from rfl, List.set_cons_succ, List.set_cons_succ, List.set_append_right _ _ (by simp [intv, hl])]
  simp [intv, hl]

theorem rdC_state {own old : List Int} {places far : Nat} {rv pv : Value} (ho : own.length = 82) : (rdC own places rv old far pv).toArray.extract 0 (0 + 83) = (intv own ++ [Value.int .i64 places]).toArray := by
  apply Array.ext'
  have hl : (intv own).length = 82 := by simp [intv, ho]
  simp only [rdC, List.extract_toArray, List.extract_eq_take_drop, List.drop_zero, Nat.sub_zero, Nat.zero_add]
  rw [List.take_append, List.take_of_length_le (by omega), hl]
  simp

def zeros82 : List Int := List.replicate 82 0
def one82 : List Int := zeros82.set 0 1
theorem zeros82_length : zeros82.length = 82 := by simp [zeros82]
theorem one82_length : one82.length = 82 := by simp [one82, zeros82]
theorem one82_bits : isBits one82 = true := by decide
theorem rdC_clear {own old : List Int} {places far : Nat} {rv pv : Value} (ho : own.length = 82) :
    (rdC own places rv old far pv).take 0 ++ (intv (List.replicate 82 0) ++ (rdC own places rv old far pv).drop (0 + 82)) = rdC zeros82 places rv old far pv := by
  unfold rdC
  rw [List.take_zero, List.nil_append, Nat.zero_add, List.drop_append_of_le_length (by simp [intv, ho]), List.drop_of_length_le (by simp [intv, ho])]
  rfl

/-- the first feed, where the old one is taken from its place far on, over m numbers -/
def xorFrom (own old : List Int) (far : Nat) : Nat → List Int
  | 0 => own
  | m + 1 => (xorFrom own old far m).set (far + m) ((nth (xorFrom own old far m) (far + m) + nth old m) % 2)

theorem xorFrom_length (own old : List Int) (far : Nat) : ∀ m, (xorFrom own old far m).length = own.length
  | 0 => rfl
  | m + 1 => by rw [xorFrom, List.length_set, xorFrom_length own old far m]

theorem isBits_set {l : List Int} (h : isBits l = true) (k : Nat) {x : Int} (hx : x = 0 ∨ x = 1) : isBits (l.set k x) = true :=
  List.all_eq_true.2 fun y hy => by
    rcases List.mem_or_eq_of_mem_set hy with h' | rfl
    · exact List.all_eq_true.1 h y h'
    · rcases hx with rfl | rfl <;> rfl

theorem xorFrom_bits {own old : List Int} {far : Nat} (h : isBits own = true) : ∀ m, isBits (xorFrom own old far m) = true
  | 0 => h
  | m + 1 => isBits_set (xorFrom_bits h m) _ (mod_bit _)

/-- the plays that a feed counts for a play, those of its highest n places -/
def proofTo (own : List Int) (places : Nat) (at_ : Int) : Nat → List Int
  | 0 => []
  | m + 1 => if nth own (places - m) = 1 then proofTo own places at_ m ++ [at_ - (places - m : Nat)] else proofTo own places at_ m

theorem proofTo_le (own : List Int) (places : Nat) (at_ : Int) : ∀ m, (proofTo own places at_ m).length ≤ m
  | 0 => Nat.le_refl _
  | m + 1 => by
    have := proofTo_le own places at_ m
    unfold proofTo
    split <;> simp <;> omega

/-- a reader -/
structure Rd where
  own : List Int
  places : Nat
  row : List Int
  old : List Int
  far : Nat
  proof : List Int

def rdOwn (own row : List Int) : List Int := if row.length = 0 then one82 else own
def rdFar (far : Nat) (row : List Int) : Nat := if row.length = 0 then 1 else far

/-- a reader that has read one more play -/
def Rd.read (r : Rd) (play : Int) : Rd :=
  let own := rdOwn r.own r.row
  let old := rdOwn r.old r.row
  let far := rdFar r.far r.row
  let own' := xorFrom own old far (82 - far)
  if (oddTo own r.row play r.places == 1) = false then ⟨own, r.places, r.row ++ [play], old, far + 1, r.proof⟩
  else if r.row.length < 2 * r.places then ⟨own', r.places, r.row ++ [play], old, far + 1, r.proof⟩
  else ⟨own', r.row.length + 1 - r.places, r.row ++ [play], own, 1, proofTo own r.places r.row.length (r.places + 1)⟩

end Go.Proofs.Ytjnijhnphhpilaa
