/- A map from counts to numbers, as a function: looked up, written, deleted from, ranged over. Equality of counts. Walks: counts: their cases, less, count of a balance. Walks: the count of a balance. The layer, plain: the pans of a count in the order in which the program yields them. -/
import Derived.Test.YtelgbjfgmpkepaaKE
import Derived.Test.YtelgbjfgmpkepaaKB
import Derived.Laws.Rows
import Derived.Laws.ResultCell
import Derived.Laws.EntriesVeiled
import Derived.Maps.OwnSet
import Derived.Maps.RangeWalk
import Derived.DeepKeys4
import Derived.ChangeKeys
import Derived.WideKeyEntry
import Derived.Test.YtelgbjfgmpkepaaKH
namespace Go.Proofs.Ytelgbjfgmpkepaa
open Go.RowKit Go.Shelf
open Go.ChangeMaps (setBlock)

theorem laid : laidOutB Try.prog = true := by kernel_rfl
theorem row95 : (95 : TypeId) < Try.prog.types.size := of_decide_eq_true (by kernel_rfl)
theorem wide95 : (match Try.prog.underlying 95 with | some (.array _ _) | some (.struct _) => true | _ => false) = true := by rw [Try.underlying95]
theorem key95 : Try.prog.keyTypeAt 3 95 = true := by kernel_rfl
theorem row93 : (93 : TypeId) < Try.prog.types.size := of_decide_eq_true (by kernel_rfl)
theorem wide93 : (match Try.prog.underlying 93 with | some (.array _ _) | some (.struct _) => true | _ => false) = true := by rw [Try.underlying93]
theorem key93 : Try.prog.keyTypeAt 3 93 = true := by kernel_rfl
set_option maxRecDepth 100000 in
theorem law95 : Go.WideMaps.KeyLaw Try.prog 95 := deep_law_laid laid (m := 3) (by omega) row95 key95 wide95
theorem keyTypeAll : Try.prog.keyType 95 = true := by kernel_rfl
theorem keyType93 : Try.prog.keyType 93 = true := by kernel_rfl
theorem cells95 : Try.prog.cellsOf 95 = 5 := by kernel_rfl
theorem cells93 : Try.prog.cellsOf 93 = 4 := by kernel_rfl
theorem cells3 : Try.prog.cellsOf 3 = 1 := by kernel_rfl

theorem small_wf {n : Nat} (h : n < 100) : (Lit.int .i64 (n : Int)).wf = true := by
  have : ∀ k : Fin 100, (Lit.int .i64 ((k : Nat) : Int)).wf = true := by decide
  exact this ⟨n, h⟩
theorem keyLits3 (d : Nat) {n : Nat} (h : n < 100) : Try.prog.keyLits (d + 1) 3 [.int .i64 (n : Int)] = some [.int .i64 (n : Int)] := by
  unfold Program.keyLits
  rw [Try.underlying3]
  have := small_wf h
  simp [this]
theorem keyLits93 (d : Nat) {a b c e : Nat} (ha : a < 100) (hb : b < 100) (hc : c < 100) (he : e < 100) : Try.prog.keyLits (d + 2) 93 [.int .i64 (a : Int), .int .i64 (b : Int), .int .i64 (c : Int), .int .i64 (e : Int)] = some [.int .i64 (a : Int), .int .i64 (b : Int), .int .i64 (c : Int), .int .i64 (e : Int)] := by
  unfold Program.keyLits
  rw [Try.underlying93]
  have h1 := keyLits3 d ha; have h2 := keyLits3 d hb; have h3 := keyLits3 d hc; have h4 := keyLits3 d he
  simp [cells93, cells3, h1, h2, h3, h4, List.range, List.range.loop]
/-- all numbers of a count are small -/
def Cnt.small (c : Cnt) : Prop := c.g < 100 ∧ c.l < 100 ∧ c.h < 100 ∧ c.b < 100 ∧ c.z < 100
def cntCells (c : Cnt) : List Value := [.int .i64 (c.g : Int), .int .i64 (c.l : Int), .int .i64 (c.h : Int), .int .i64 (c.b : Int), .int .i64 (c.z : Int)]
def cntLits (c : Cnt) : List Lit := [.int .i64 (c.g : Int), .int .i64 (c.l : Int), .int .i64 (c.h : Int), .int .i64 (c.b : Int), .int .i64 (c.z : Int)]
theorem keyLits95 (d : Nat) {c : Cnt} (h : c.small) : Try.prog.keyLits (d + 3) 95 (cntCells c) = some (cntLits c) := by
  obtain ⟨h1, h2, h3, h4, h5⟩ := h
  unfold Program.keyLits
  rw [Try.underlying95]
  have k1 := keyLits93 d h1 h2 h3 h4
  have k2 := keyLits3 (d + 1) h5
  simp [cntCells, cntLits, cells95, cells93, cells3, k1, k2]
def cntV (c : Cnt) : Value := .agg #[.int .i64 (c.g : Int), .int .i64 (c.l : Int), .int .i64 (c.h : Int), .int .i64 (c.b : Int), .int .i64 (c.z : Int)]
def cntKey (c : Cnt) : Lit := .string (keyBytes (cntLits c))
theorem keyOf_cnt {c : Cnt} (h : c.small) : keyOf Try.prog 95 (cntV c) = some (cntKey c) := by
  unfold keyOf cntV
  rw [Try.underlying95]
  have hf : (Value.agg #[.int .i64 (c.g : Int), .int .i64 (c.l : Int), .int .i64 (c.h : Int), .int .i64 (c.b : Int), .int .i64 (c.z : Int)]).formed Try.prog 95 = true := by
    simp [Value.formed, Try.underlying95, cells95]
  obtain ⟨d, hd⟩ : ∃ d, Try.prog.types.size + 1 = d + 3 := ⟨Try.prog.types.size - 2, by
    have : 3 ≤ Try.prog.types.size := of_decide_eq_true (by kernel_rfl)
    omega⟩
  rw [keyTypeAll, hf, hd]
  have h2 := keyLits95 d h
  unfold cntCells at h2
  simp [Value.cells, h2, cntKey]
theorem cntV_inj {c d : Cnt} (h : cntV c = cntV d) : c = d := by
  obtain ⟨a1, a2, a3, a4, a5⟩ := c
  obtain ⟨b1, b2, b3, b4, b5⟩ := d
  unfold cntV at h
  simp at h
  simp only [Cnt.mk.injEq]
  omega
theorem cnt_ext {c d : Cnt} (h : c.g = d.g ∧ c.l = d.l ∧ c.h = d.h ∧ c.b = d.b ∧ c.z = d.z) : c = d := by
  obtain ⟨a1, a2, a3, a4, a5⟩ := c
  obtain ⟨b1, b2, b3, b4, b5⟩ := d
  simp only at h
  simp only [Cnt.mk.injEq]
  omega
instance : DecidableEq Cnt := fun c d => decidable_of_iff (c.g = d.g ∧ c.l = d.l ∧ c.h = d.h ∧ c.b = d.b ∧ c.z = d.z) ⟨cnt_ext, by rintro rfl; exact ⟨rfl, rfl, rfl, rfl, rfl⟩⟩

/-- an entry -/
structure Ent where
  c : Cnt
  v : Int
  b : Nat
def Ent.me (e : Ent) : MapEntry := { key := cntV e.c, val := .int .i64 e.v, born := e.b }
structure Good (L : List Ent) (c : Nat) : Prop where
  keys : (L.map fun e => e.c).Nodup
  borns : (L.map fun e => e.b).Nodup
  lt : ∀ e ∈ L, e.b < c
  small : ∀ e ∈ L, e.c.small
def Fun (L : List Ent) (f : Cnt → Option Int) : Prop := ∀ q v, f q = some v ↔ ∃ e, e ∈ L ∧ e.c = q ∧ e.v = v
/-- block b is a map that is the function f -/
def MapFn (w : World) (b : Nat) (f : Cnt → Option Int) : Prop := ∃ L c, w.heap[b]? = some (.map (L.map Ent.me).toArray c) ∧ Good L c ∧ Fun L f
def upd (f : Cnt → Option Int) (q : Cnt) (o : Option Int) : Cnt → Option Int := fun q' => if q' = q then o else f q'

theorem MapFn.same {w w' : World} {b : Nat} {f : Cnt → Option Int} (h : MapFn w b f) (e : w'.heap[b]? = w.heap[b]?) : MapFn w' b f := by
  obtain ⟨L, c, h1, h2⟩ := h
  exact ⟨L, c, e.trans h1, h2⟩
theorem MapFn.lt {w : World} {b : Nat} {f : Cnt → Option Int} (h : MapFn w b f) : b < w.heap.size := by
  obtain ⟨L, c, h1, h2⟩ := h
  exact (Array.getElem?_eq_some_iff.1 h1).1
theorem mapFn_made {w : World} {b : Nat} (h : w.heap[b]? = some (.map #[] 0)) : MapFn w b (fun _ => none) :=
  ⟨[], 0, h, ⟨List.nodup_nil, List.nodup_nil, (by intro e h; cases h), (by intro e h; cases h)⟩, fun r v => ⟨(by intro h; cases h), (by rintro ⟨e, h, _⟩; cases h)⟩⟩

theorem Good.uniq {L : List Ent} {c : Nat} (G : Good L c) {x y : Ent} (hx : x ∈ L) (hy : y ∈ L) (h : x.c = y.c) : x = y := by
  obtain ⟨i, hi, rfl⟩ := List.getElem_of_mem hx
  obtain ⟨k, hk, rfl⟩ := List.getElem_of_mem hy
  have := (List.getElem_inj (xs := L.map fun e => e.c) (h₀ := by simpa using hi) (h₁ := by simpa using hk) G.keys).1 (by simp [h])
  subst this; rfl

theorem find_cnt (w : World) {L : List Ent} {c : Nat} (G : Good L c) {f : Cnt → Option Int} (F : Fun L f) {q : Cnt} (hq : q.small) :
    ((Instr.findKey 95 (cntV q) (L.map Ent.me)).run Try.prog w = .ok none w ∧ (∀ e ∈ L, ¬ e.c = q) ∧ f q = none) ∨
    ∃ i e, (Instr.findKey 95 (cntV q) (L.map Ent.me)).run Try.prog w = .ok (some (i, .int .i64 e.v)) w ∧ L[i]? = some e ∧ e.c = q ∧ f q = some e.v := by
  rcases law95.find w (keyOf_cnt hq) (L.map Ent.me) (fun e he => by
    obtain ⟨x, hx, rfl⟩ := List.mem_map.1 he
    exact ⟨_, keyOf_cnt (G.small x hx)⟩) with ⟨h1, h2⟩ | ⟨i, e, h1, h2, h3⟩
  · have hno : ∀ e ∈ L, ¬ e.c = q := fun e he hc => h2 e.me (List.mem_map.2 ⟨e, he, rfl⟩) (by subst hc; rfl)
    refine .inl ⟨h1, hno, ?_⟩
    cases hf : f q with
    | none => rfl
    | some v => obtain ⟨e, he, a, _⟩ := (F q v).1 hf; exact absurd a (hno e he)
  · rw [List.getElem?_map] at h2
    cases hL : L[i]? with
    | none => rw [hL] at h2; cases h2
    | some x =>
      rw [hL] at h2
      simp at h2
      subst h2
      have a := cntV_inj h3
      exact .inr ⟨i, x, h1, hL, a, (F q x.v).2 ⟨x, List.mem_of_getElem? hL, a, rfl⟩⟩

/-- a look-up, and whether it was found -/
theorem map_look {w : World} {b : Nat} {f : Cnt → Option Int} (h : MapFn w b f) {q : Cnt} (hq : q.small) :
    (Instr.lookup 98 (.map (some b)) (cntV q) true).run Try.prog w = .ok (.tuple #[.int .i64 ((f q).getD 0), .bool (f q).isSome]) w := by
  obtain ⟨L, c, hb, G, F⟩ := h
  have hck : ∀ em, (Instr.checkKey em 10000 95 (cntV q)).run Try.prog w = .ok () w := fun em => law95.check w em (keyOf_cnt hq)
  rcases find_cnt w G F hq with ⟨h1, _, h2⟩ | ⟨i, e, h1, _, _, h2⟩
  · simp [Instr.lookup, run_underlying Try.underlying98, MapKept.run_getObj_map hb, hck, h1, h2, Result.andThen]
  · simp [Instr.lookup, run_underlying Try.underlying98, MapKept.run_getObj_map hb, hck, h1, h2, Result.andThen]

theorem modify_me {L : List Ent} {i : Nat} {e e' : Ent} (hi : L[i]? = some e) (g : MapEntry → MapEntry) (hg : g e.me = e'.me) : (L.map Ent.me).toArray.modify i g = ((L.set i e').map Ent.me).toArray := by
  apply Array.ext'
  apply List.ext_getElem?
  intro k
  simp only [Array.toList_modify, List.getElem?_modify, List.getElem?_map, List.getElem?_set]
  by_cases hk : i = k
  · subst hk
    obtain ⟨hlt, he⟩ := List.getElem?_eq_some_iff.1 hi
    simp [he, hg, hlt]
  · simp [hk]
theorem modify_meL {L : List Ent} {i : Nat} {e e' : Ent} (hi : L[i]? = some e) (g : MapEntry → MapEntry) (hg : g e.me = e'.me) : (L.map Ent.me).modify i g = (L.set i e').map Ent.me := by
  have := congrArg Array.toList (modify_me hi g hg)
  simpa using this
theorem Good.set {L : List Ent} {c i : Nat} {e : Ent} (G : Good L c) (hi : L[i]? = some e) (v : Int) : Good (L.set i { e with v := v }) c := by
  have hm := List.mem_of_getElem? hi
  have mem : ∀ x, x ∈ L.set i { e with v := v } → ∃ y ∈ L, y.b = x.b ∧ y.c = x.c := fun x hx => by
    rcases List.mem_or_eq_of_mem_set hx with h | rfl
    · exact ⟨x, h, rfl, rfl⟩
    · exact ⟨e, hm, rfl, rfl⟩
  have hk : ∀ {β : Type} (p : Ent → β), p { e with v := v } = p e → (L.set i { e with v := v }).map p = L.map p := fun p hp => by
    apply List.ext_getElem?
    intro k
    simp only [List.getElem?_map, List.getElem?_set]
    by_cases h : i = k
    · subst h
      obtain ⟨hlt, he⟩ := List.getElem?_eq_some_iff.1 hi
      simp [he, hp, hlt]
    · simp [h]
  refine ⟨?_, ?_, fun x hx => ?_, fun x hx => ?_⟩
  · rw [hk (fun e => e.c) rfl]; exact G.keys
  · rw [hk (fun e => e.b) rfl]; exact G.borns
  · obtain ⟨y, hy, h1, _⟩ := mem x hx; rw [← h1]; exact G.lt y hy
  · obtain ⟨y, hy, _, h2⟩ := mem x hx; rw [← h2]; exact G.small y hy
theorem Fun.set {L : List Ent} {c i : Nat} {e : Ent} {f : Cnt → Option Int} (G : Good L c) (F : Fun L f) (hi : L[i]? = some e) (v : Int) : Fun (L.set i { e with v := v }) (upd f e.c (some v)) := by
  intro q u
  have hlt := (List.getElem?_eq_some_iff.1 hi).1
  unfold upd
  by_cases hk : q = e.c
  · rw [if_pos hk]
    subst hk
    constructor
    · intro h
      cases h
      exact ⟨_, List.mem_set hlt _, rfl, rfl⟩
    · rintro ⟨x, hx, h1, rfl⟩
      have G2 := G.set hi v
      rw [G2.uniq hx (List.mem_set hlt _) h1]
  · rw [if_neg hk, F]
    constructor
    · rintro ⟨x, hx, rfl, rfl⟩
      obtain ⟨k, hkl, rfl⟩ := List.getElem_of_mem hx
      have hne : i ≠ k := fun h => by
        subst h
        rw [List.getElem?_eq_getElem hkl] at hi
        cases hi
        exact hk rfl
      refine ⟨L[k], List.mem_iff_getElem?.2 ⟨k, ?_⟩, rfl, rfl⟩
      rw [List.getElem?_set, if_neg hne, List.getElem?_eq_getElem hkl]
    · rintro ⟨x, hx, rfl, rfl⟩
      rcases List.mem_or_eq_of_mem_set hx with h | rfl
      · exact ⟨x, h, rfl, rfl⟩
      · exact absurd rfl hk
theorem Good.push {L : List Ent} {c : Nat} (G : Good L c) {q : Cnt} (hq : q.small) (hno : ∀ e ∈ L, ¬ e.c = q) (v : Int) : Good (L ++ [⟨q, v, c⟩]) (c + 1) := by
  refine ⟨?_, ?_, fun x hx => ?_, fun x hx => ?_⟩
  · rw [List.map_append]
    refine List.nodup_append.2 ⟨G.keys, by simp, ?_⟩
    intro a ha b hb hab
    subst hab
    obtain ⟨x, hx, rfl⟩ := List.mem_map.1 ha
    simp at hb
    exact hno x hx hb
  · rw [List.map_append]
    refine List.nodup_append.2 ⟨G.borns, by simp, ?_⟩
    intro a ha b hb hab
    subst hab
    obtain ⟨x, hx, rfl⟩ := List.mem_map.1 ha
    simp at hb
    have := G.lt x hx
    omega
  · rcases List.mem_append.1 hx with h | h
    · have := G.lt x h; omega
    · simp at h; subst h; show c < c + 1; omega
  · rcases List.mem_append.1 hx with h | h
    · exact G.small x h
    · simp at h; subst h; exact hq
theorem Fun.push {L : List Ent} {f : Cnt → Option Int} (F : Fun L f) {q : Cnt} {c : Nat} (hno : ∀ e ∈ L, ¬ e.c = q) (v : Int) : Fun (L ++ [⟨q, v, c⟩]) (upd f q (some v)) := by
  intro q' u
  unfold upd
  by_cases hk : q' = q
  · rw [if_pos hk]
    subst hk
    constructor
    · intro h; cases h; exact ⟨_, List.mem_append_right _ (List.mem_singleton_self _), rfl, rfl⟩
    · rintro ⟨x, hx, h1, rfl⟩
      rcases List.mem_append.1 hx with h | h
      · exact absurd h1 (hno x h)
      · simp at h; subst h; rfl
  · rw [if_neg hk, F]
    constructor
    · rintro ⟨x, hx, h⟩; exact ⟨x, List.mem_append_left _ hx, h⟩
    · rintro ⟨x, hx, rfl, rfl⟩
      rcases List.mem_append.1 hx with h | h
      · exact ⟨x, h, rfl, rfl⟩
      · simp at h; subst h; exact absurd rfl hk

theorem setBlock_at {w : World} {b : Nat} {o o' : Obj} (h : w.heap[b]? = some o) : (setBlock w b o').heap[b]? = some o' := by
  have := (Array.getElem?_eq_some_iff.1 h).1
  simp [setBlock, this]
theorem setBlock_only (w : World) (b : Nat) (o : Obj) : Only (fun k => k = b) w (setBlock w b o) :=
  ⟨rfl, rfl, rfl, by simp [setBlock], fun k _ hs => by simp [setBlock, Ne.symm hs]⟩

/-- m[q] = v -/
theorem map_update {w : World} {b : Nat} {f : Cnt → Option Int} (h : MapFn w b f) {q : Cnt} (hq : q.small) (v : Int) :
    ∃ w1 : World, (Instr.mapUpdate 98 (.map (some b)) (cntV q) (.int .i64 v)).run Try.prog w = .ok () w1 ∧ Only (fun k => k = b) w w1 ∧ w1.heap.size = w.heap.size ∧ MapFn w1 b (upd f q (some v)) := by
  obtain ⟨L, c, hb, G, F⟩ := h
  have hck : ∀ em, (Instr.checkKey em 10000 95 (cntV q)).run Try.prog w = .ok () w := fun em => law95.check w em (keyOf_cnt hq)
  have hst := law95.stays w (keyOf_cnt hq)
  rcases find_cnt w G F hq with ⟨h1, hno, h2⟩ | ⟨i, e, h1, hi, rfl, h2⟩
  · refine ⟨setBlock w b (.map ((L ++ [({ c := q, v := v, b := c } : Ent)]).map Ent.me).toArray (c + 1)), ?_, setBlock_only _ _ _, by simp [setBlock], ⟨_, _, setBlock_at hb, G.push hq hno v, F.push hno v⟩⟩
    simp [Instr.mapUpdate, run_underlying Try.underlying98, MapKept.run_getObj_map hb, hck, h1, MapKept.run_setObj_map _ hb, Result.andThen, setBlock, Ent.me]
  · refine ⟨setBlock w b (.map ((L.set i { e with v := v }).map Ent.me).toArray c), ?_, setBlock_only _ _ _, by simp [setBlock], ⟨_, _, setBlock_at hb, G.set hi v, Fun.set G F hi v⟩⟩
    have hmod := modify_meL hi (fun x => { x with key := cntV e.c, val := .int .i64 v }) (e' := { e with v := v }) rfl
    have hkey : (((L.map Ent.me).toArray[i]?).map (·.key)).getD (cntV e.c) = cntV e.c := by simp [hi, Ent.me]
    simp [Instr.mapUpdate, run_underlying Try.underlying98, MapKept.run_getObj_map hb, hck, h1, hst, hi, hmod, MapKept.run_setObj_map _ hb, Result.andThen, setBlock, Ent.me] at hkey ⊢

/-- delete of a key -/
theorem map_delete {w : World} {b : Nat} {f : Cnt → Option Int} (h : MapFn w b f) {q : Cnt} (hq : q.small) (ty : TypeId) :
    ∃ w1 : World, (Builtin.delete_ #[98, 95] ty #[.map (some b), cntV q]).run Try.prog w = .ok (.tuple #[]) w1 ∧ Only (fun k => k = b) w w1 ∧ w1.heap.size = w.heap.size ∧ MapFn w1 b (upd f q none) := by
  obtain ⟨L, c, hb, G, F⟩ := h
  have hck : ∀ em, (Instr.checkKey em 10000 95 (cntV q)).run Try.prog w = .ok () w := fun em => law95.check w em (keyOf_cnt hq)
  rcases find_cnt w G F hq with ⟨h1, hno, h2⟩ | ⟨i, e, h1, hi, rfl, h2⟩
  · refine ⟨setBlock w b (.map (L.map Ent.me).toArray c), ?_, setBlock_only _ _ _, by simp [setBlock], ⟨L, c, setBlock_at hb, G, fun q' u => ?_⟩⟩
    · simp [Builtin.delete_, run_underlying Try.underlying98, MapKept.run_getObj_map hb, hck, h1, MapKept.run_setObj_map _ hb, Result.andThen, setBlock]
    · unfold upd
      split
      · rename_i hk; subst hk
        refine ⟨(by intro h; cases h), ?_⟩
        rintro ⟨e, he, h⟩
        exact absurd h.1 (hno e he)
      · exact F _ _
  · obtain ⟨hlt, he⟩ := List.getElem?_eq_some_iff.1 hi
    refine ⟨setBlock w b (.map ((L.eraseIdx i).map Ent.me).toArray c), ?_, setBlock_only _ _ _, by simp [setBlock], ⟨L.eraseIdx i, c, setBlock_at hb, ?_, fun q' u => ?_⟩⟩
    · simp [Builtin.delete_, run_underlying Try.underlying98, MapKept.run_getObj_map hb, hck, h1, Go.ChangeMaps.map_eraseIdx, MapKept.run_setObj_map _ hb, Result.andThen, setBlock]
    · have hs := List.eraseIdx_sublist L i
      exact ⟨(hs.map _).nodup G.keys, (hs.map _).nodup G.borns, fun x hx => G.lt x (hs.subset hx), fun x hx => G.small x (hs.subset hx)⟩
    · have hmem : ∀ x, x ∈ L.eraseIdx i ↔ x ∈ L ∧ ¬ x.c = e.c := fun x => by
        rw [List.mem_eraseIdx_iff_getElem?]
        constructor
        · rintro ⟨k, hk, hx⟩
          refine ⟨List.mem_of_getElem? hx, fun hc => ?_⟩
          obtain ⟨hkl, rfl⟩ := List.getElem?_eq_some_iff.1 hx
          have := (List.getElem_inj (xs := L.map fun e => e.c) (h₀ := by simpa using hkl) (h₁ := by simpa using hlt) G.keys).1 (by simp [he, hc])
          exact hk this
        · rintro ⟨hx, hne⟩
          obtain ⟨k, hkl, rfl⟩ := List.getElem_of_mem hx
          exact ⟨k, fun h => by subst h; exact hne (by rw [he]), List.getElem?_eq_getElem hkl⟩
      unfold upd
      split
      · rename_i hk; subst hk
        refine ⟨(by intro h; cases h), ?_⟩
        rintro ⟨x, hx, h1, _⟩
        exact absurd h1 ((hmem x).1 hx).2
      · rename_i hk
        rw [F]
        constructor
        · rintro ⟨x, hx, rfl, rfl⟩; exact ⟨x, (hmem x).2 ⟨hx, hk⟩, rfl, rfl⟩
        · rintro ⟨x, hx, h⟩; exact ⟨x, ((hmem x).1 hx).1, h⟩

/-- a range over a map: block t is the iterator, n how many are left; what is left stands in the map or in what was there -/
def MapIt (w : World) (b t : Nat) (f : Cnt → Option Int) (n : Nat) : Prop :=
  ∃ (L : List Ent) (c since c0 : Nat) (seen : Array Nat), w.heap[b]? = some (.map (L.map Ent.me).toArray c) ∧ Good L c ∧ Fun L f ∧ w.heap[t]? = some (.mapIter (some b) since seen c0) ∧ (∀ e ∈ L, e.b < since) ∧ since ≤ c0 ∧ since ≤ c ∧
    n = (leftOf (L.map Ent.me).toArray seen).size
theorem MapIt.same {w w' : World} {b t : Nat} {f : Cnt → Option Int} {n : Nat} (h : MapIt w b t f n) (e : w'.heap[b]? = w.heap[b]?) (e2 : w'.heap[t]? = w.heap[t]?) : MapIt w' b t f n := by
  obtain ⟨L, c, since, c0, seen, h1, h2, h3, h4, h5⟩ := h
  exact ⟨L, c, since, c0, seen, e.trans h1, h2, h3, e2.trans h4, h5⟩
theorem MapIt.fn {w : World} {b t : Nat} {f : Cnt → Option Int} {n : Nat} (h : MapIt w b t f n) : MapFn w b f := by
  obtain ⟨L, c, since, c0, seen, h1, h2, h3, h4⟩ := h
  exact ⟨L, c, h1, h2, h3⟩
theorem MapIt.lt {w : World} {b t : Nat} {f : Cnt → Option Int} {n : Nat} (h : MapIt w b t f n) : b < w.heap.size ∧ t < w.heap.size ∧ b ≠ t := by
  obtain ⟨L, c, since, c0, seen, h1, h2, h3, h4, h5⟩ := h
  exact ⟨(Array.getElem?_eq_some_iff.1 h1).1, (Array.getElem?_eq_some_iff.1 h4).1, fun e => by subst e; rw [h1] at h4; cases h4⟩

theorem map_range {w : World} {b : Nat} {f : Cnt → Option Int} (h : MapFn w b f) :
    ∃ (w1 : World) (n : Nat), (Instr.range 98 (.map (some b))).run Try.prog w = .ok (.pointer (some ⟨w.heap.size, 0, none⟩)) w1 ∧ Below w.heap.size w w1 ∧ MapIt w1 b w.heap.size f n := by
  obtain ⟨L, c, hb, G, F⟩ := h
  have hB : Below w.heap.size w (w.alloc (.mapIter (some b) c #[] c)) := (Below.refl _ w).alloc (Nat.le_refl _) _
  refine ⟨w.alloc (.mapIter (some b) c #[] c), _, ?_, hB, ⟨L, c, c, c, #[], ?_, G, F, heap_alloc_new _ _, G.lt, Nat.le_refl _, Nat.le_refl _, rfl⟩⟩
  · simp [Instr.range, run_underlying Try.underlying98, MapKept.run_getObj_map hb, Result.andThen]
  · exact (hB.block b (Array.getElem?_eq_some_iff.1 hb).1).trans hb

theorem map_next {w : World} {b t : Nat} {f : Cnt → Option Int} {n : Nat} (h : MapIt w b t f n) (ty : TypeId) :
    ((Instr.next (.pointer (some ⟨t, 0, none⟩)) false ty).run Try.prog w = .ok (.tuple #[.bool false]) w) ∨
    ∃ (q : Cnt) (v : Int) (w1 : World) (m : Nat), f q = some v ∧ q.small ∧ (Instr.next (.pointer (some ⟨t, 0, none⟩)) false ty).run Try.prog w = .ok (.tuple #[.bool true, cntV q, .int .i64 v]) w1 ∧
      (∀ w2 : World, w2.heap[b]? = w1.heap[b]? → w2.heap[t]? = w1.heap[t]? → (Instr.entry (.pointer (some ⟨t, 0, none⟩))).run Try.prog w2 = .ok (.tuple #[cntV q, .int .i64 v]) w2) ∧ MapIt w1 b t f m ∧ m < n ∧ Only (fun k => k = t) w w1 ∧ w1.heap.size = w.heap.size := by
  obtain ⟨L, c, since, c0, seen, hb, G, F, hr, hold, hsc, hcl, hn⟩ := h
  have hbt : b ≠ t := fun e => by subst e; rw [hb] at hr; cases hr
  rcases run_next_at (P := Try.prog) w ty t b since c0 seen (L.map Ent.me).toArray c hr hb (fun x hx => by
    simp at hx; obtain ⟨e, he, rfl⟩ := hx; exact hold e he) hsc with ⟨h0, hrun⟩ | ⟨x, hx, w1, hw1, hrun⟩
  · exact .inl hrun
  · have hx2 : (∃ e, e ∈ L ∧ e.me = x) ∧ x.born ∉ seen := by simpa [leftOf] using hx
    obtain ⟨⟨e, he, rfl⟩, hs⟩ := hx2
    have hb1 : w1.heap[b]? = some (.map (L.map Ent.me).toArray c) := by rcases hw1 with rfl | rfl <;> exact hb
    have hr1 : w1.heap[t]? = some (.mapIter (some b) since seen c0) := by rcases hw1 with rfl | rfl <;> exact hr
    have hO1 : Only (fun k => k = t) w w1 := by
      rcases hw1 with rfl | rfl
      · exact Only.refl _ _
      · exact ⟨rfl, rfl, rfl, Nat.le_refl _, fun _ _ _ => rfl⟩
    have hz1 : w1.heap.size = w.heap.size := by rcases hw1 with rfl | rfl <;> rfl
    have hB2 : (setBlock w1 t (.mapIter (some b) since (seen.push e.b) c)).heap[b]? = some (.map (L.map Ent.me).toArray c) := ((setBlock_only w1 t _).block b (Array.getElem?_eq_some_iff.1 hb1).1 hbt).trans hb1
    refine .inr ⟨e.c, e.v, _, (leftOf (L.map Ent.me).toArray (seen.push e.b)).size, (F _ _).2 ⟨e, he, rfl, rfl⟩, G.small e he, hrun, fun w2 e1 e2 => ?_, ⟨L, c, since, c, seen.push e.b, hB2, G, F, setBlock_at hr1, hold, hcl, hcl, rfl⟩, ?_, hO1.trans (setBlock_only _ _ _), by simp [setBlock, hz1]⟩
    · refine run_entry_at (P := Try.prog) w2 t b since seen (L.map Ent.me).toArray c e.me (e2.trans (setBlock_at hr1)) (e1.trans hB2) ?_ ?_
      · simp; exact ⟨e, he, rfl⟩
      · simp only [List.map_map]; exact G.borns
    · rw [hn]; exact left_shrinks _ _ e.me hx
/-- an iterator stays one where the map loses an entry -/
theorem MapIt.deleted {w : World} {b t : Nat} {f : Cnt → Option Int} {n : Nat} (h : MapIt w b t f n) {q : Cnt} (hq : q.small) (ty : TypeId) :
    ∃ (w1 : World) (m : Nat), (Builtin.delete_ #[98, 95] ty #[.map (some b), cntV q]).run Try.prog w = .ok (.tuple #[]) w1 ∧ Only (fun k => k = b) w w1 ∧ w1.heap.size = w.heap.size ∧ MapIt w1 b t (upd f q none) m ∧ m ≤ n := by
  obtain ⟨L, c, since, c0, seen, hb, G, F, hr, hold, hsc, hcl, hn⟩ := h
  have hbt : t ≠ b := fun e => by subst e; rw [hb] at hr; cases hr
  have hck : ∀ em, (Instr.checkKey em 10000 95 (cntV q)).run Try.prog w = .ok () w := fun em => law95.check w em (keyOf_cnt hq)
  rcases find_cnt w G F hq with ⟨h1, hno, h2⟩ | ⟨i, e, h1, hi, rfl, h2⟩
  · refine ⟨setBlock w b (.map (L.map Ent.me).toArray c), n, ?_, setBlock_only _ _ _, by simp [setBlock], ⟨L, c, since, c0, seen, setBlock_at hb, G, fun q' u => ?_, ((setBlock_only w b _).block t (Array.getElem?_eq_some_iff.1 hr).1 hbt).trans hr, hold, hsc, hcl, hn⟩, Nat.le_refl _⟩
    · simp [Builtin.delete_, run_underlying Try.underlying98, MapKept.run_getObj_map hb, hck, h1, MapKept.run_setObj_map _ hb, Result.andThen, setBlock]
    · unfold upd
      split
      · rename_i hk; subst hk
        refine ⟨(by intro h; cases h), ?_⟩
        rintro ⟨e, he, h⟩
        exact absurd h.1 (hno e he)
      · exact F _ _
  · obtain ⟨hlt, he⟩ := List.getElem?_eq_some_iff.1 hi
    have hs := List.eraseIdx_sublist L i
    refine ⟨setBlock w b (.map ((L.eraseIdx i).map Ent.me).toArray c), _, ?_, setBlock_only _ _ _, by simp [setBlock], ⟨L.eraseIdx i, c, since, c0, seen, setBlock_at hb, ?_, fun q' u => ?_, ((setBlock_only w b _).block t (Array.getElem?_eq_some_iff.1 hr).1 hbt).trans hr, fun x hx => hold x (hs.subset hx), hsc, hcl, rfl⟩, ?_⟩
    · simp [Builtin.delete_, run_underlying Try.underlying98, MapKept.run_getObj_map hb, hck, h1, Go.ChangeMaps.map_eraseIdx, MapKept.run_setObj_map _ hb, Result.andThen, setBlock]
    · exact ⟨(hs.map _).nodup G.keys, (hs.map _).nodup G.borns, fun x hx => G.lt x (hs.subset hx), fun x hx => G.small x (hs.subset hx)⟩
    · have hmem : ∀ x, x ∈ L.eraseIdx i ↔ x ∈ L ∧ ¬ x.c = e.c := fun x => by
        rw [List.mem_eraseIdx_iff_getElem?]
        constructor
        · rintro ⟨k, hk, hx⟩
          refine ⟨List.mem_of_getElem? hx, fun hc => ?_⟩
          obtain ⟨hkl, rfl⟩ := List.getElem?_eq_some_iff.1 hx
          have := (List.getElem_inj (xs := L.map fun e => e.c) (h₀ := by simpa using hkl) (h₁ := by simpa using hlt) G.keys).1 (by simp [he, hc])
          exact hk this
        · rintro ⟨hx, hne⟩
          obtain ⟨k, hkl, rfl⟩ := List.getElem_of_mem hx
          exact ⟨k, fun h => by subst h; exact hne (by rw [he]), List.getElem?_eq_getElem hkl⟩
      unfold upd
      split
      · rename_i hk; subst hk
        refine ⟨(by intro h; cases h), ?_⟩
        rintro ⟨x, hx, h1, _⟩
        exact absurd h1 ((hmem x).1 hx).2
      · rename_i hk
        rw [F]
        constructor
        · rintro ⟨x, hx, rfl, rfl⟩; exact ⟨x, (hmem x).2 ⟨hx, hk⟩, rfl, rfl⟩
        · rintro ⟨x, hx, h⟩; exact ⟨x, ((hmem x).1 hx).1, h⟩
    · rw [hn]
      unfold leftOf
      have hsub : (((L.eraseIdx i).map Ent.me).filter fun x => !seen.contains x.born).length ≤ ((L.map Ent.me).filter fun x => !seen.contains x.born).length :=
        ((hs.map Ent.me).filter _).length_le
      simpa using hsub

end Go.Proofs.Ytelgbjfgmpkepaa

namespace Go.Proofs.Ytelgbjfgmpkepaa
open Go.RowKit Go.Shelf

/-- a block of five ints -/
def I5 (w : World) (g : Nat) (t : TypeId) (a b c d e : Int) : Prop := w.heap[g]? = some (.cells #[.int .i64 a, .int .i64 b, .int .i64 c, .int .i64 d, .int .i64 e] t (0, 0))
section
variable {w w' : World} {g : Nat} {t : TypeId} {a b c d e : Int}
theorem I5.c0 (h : I5 w g t a b c d e) : w.cell? ⟨g, 0, none⟩ = some (.int .i64 a) := by rw [cell_of_row _ _ _ _ _ _ h]; rfl
theorem I5.c1 (h : I5 w g t a b c d e) : w.cell? ⟨g, 1, none⟩ = some (.int .i64 b) := by rw [cell_of_row _ _ _ _ _ _ h]; rfl
theorem I5.c2 (h : I5 w g t a b c d e) : w.cell? ⟨g, 2, none⟩ = some (.int .i64 c) := by rw [cell_of_row _ _ _ _ _ _ h]; rfl
theorem I5.c3 (h : I5 w g t a b c d e) : w.cell? ⟨g, 3, none⟩ = some (.int .i64 d) := by rw [cell_of_row _ _ _ _ _ _ h]; rfl
theorem I5.c4 (h : I5 w g t a b c d e) : w.cell? ⟨g, 4, none⟩ = some (.int .i64 e) := by rw [cell_of_row _ _ _ _ _ _ h]; rfl
theorem I5.f (h : I5 w g t a b c d e) (k : Nat) : w.frozen? ⟨g, k, none⟩ = false := frozen_of_row w _ k _ _ h
theorem I5.lt (h : I5 w g t a b c d e) : g < w.heap.size := (Array.getElem?_eq_some_iff.1 h).1
theorem I5.mono (h : I5 w g t a b c d e) (hB : Below w.heap.size w w') : I5 w' g t a b c d e := (hB.block _ h.lt).trans h
theorem I5.same (h : I5 w g t a b c d e) (hs : w'.heap[g]? = w.heap[g]?) : I5 w' g t a b c d e := hs.trans h
theorem I5.other (h : I5 w g t a b c d e) {r : Nat} (hr : g ≠ r) (k : Nat) (v : Value) : I5 (w.setCell ⟨r, k, none⟩ v) g t a b c d e := (Below.heap_setCell _ _ _ _ (fun e => hr e)).trans h
theorem I5.set0 (h : I5 w g t a b c d e) (x : Int) : I5 (w.setCell ⟨g, 0, none⟩ (.int .i64 x)) g t x b c d e := heap_setCell_same w g 0 _ t _ h
theorem I5.set1 (h : I5 w g t a b c d e) (x : Int) : I5 (w.setCell ⟨g, 1, none⟩ (.int .i64 x)) g t a x c d e := heap_setCell_same w g 1 _ t _ h
theorem I5.set2 (h : I5 w g t a b c d e) (x : Int) : I5 (w.setCell ⟨g, 2, none⟩ (.int .i64 x)) g t a b x d e := heap_setCell_same w g 2 _ t _ h
theorem I5.set3 (h : I5 w g t a b c d e) (x : Int) : I5 (w.setCell ⟨g, 3, none⟩ (.int .i64 x)) g t a b c x e := heap_setCell_same w g 3 _ t _ h
theorem I5.set4 (h : I5 w g t a b c d e) (x : Int) : I5 (w.setCell ⟨g, 4, none⟩ (.int .i64 x)) g t a b c d x := heap_setCell_same w g 4 _ t _ h
end
theorem i5_new (w : World) (t : TypeId) (a b c d e : Int) : I5 (w.alloc (.cells #[.int .i64 a, .int .i64 b, .int .i64 c, .int .i64 d, .int .i64 e] t)) w.heap.size t a b c d e := heap_alloc_new _ _
/-- a box of a count -/
theorem box95 (w : World) (c : Cnt) : ∃ V, V = w.alloc (.cells #[.int .i64 (c.g : Int), .int .i64 (c.l : Int), .int .i64 (c.h : Int), .int .i64 (c.b : Int), .int .i64 (c.z : Int)] 95) ∧ Below w.heap.size w V ∧ I5 V w.heap.size 95 c.g c.l c.h c.b c.z :=
  ⟨_, rfl, bnew _ _, i5_new _ _ _ _ _ _ _⟩
theorem load95 {w : World} {g : Nat} {a b c d e : Int} (h : I5 w g 95 a b c d e) : (loadVar 95 ⟨g, 0, none⟩).run Try.prog w = .ok (.agg #[.int .i64 a, .int .i64 b, .int .i64 c, .int .i64 d, .int .i64 e]) w :=
  run_loadVar_row (P := Try.prog) w g 95 95 _ (0, 0) _ h Try.underlying95 rfl (by kernel_rfl)
theorem results_c95 {fn : Func} {p : Tmp} (h : fn.results = #[.cell p 95]) (tmps : Array Value) (w : World) (g : Nat) (a b c d e : Int) (hp : tmps.getD p undef = .pointer (some ⟨g, 0, none⟩)) (hg : I5 w g 95 a b c d e) :
    (results fn tmps).run Try.prog w = .ok (.agg #[.int .i64 a, .int .i64 b, .int .i64 c, .int .i64 d, .int .i64 e]) w := by
  rw [results_c1 h, hp]
  simp [asAddr, load95 hg, Result.andThen]
/-- a call that hands back a count -/
def CntC (w : World) (c : Cnt) (e : Ending) (w' : World) : Prop := e = .returned (cntV c) ∧ Below w.heap.size w w'
set_option maxRecDepth 100000 in
set_option maxHeartbeats 1000000 in
theorem cases_87 (c : Cnt) (hc : c.small) (w : World) : Calls Try.prog 87 #[cntV c] w (TellI w (c.cases : Nat)) := by
  obtain ⟨h1, h2, h3, h4, h5⟩ := hc
  obtain ⟨V, hV, hB, hi⟩ := box95 w c
  have hE : ((c.cases : Nat) : Int) = ((c.l : Int) + c.h) + 2 * c.b + c.z := by unfold Cnt.cases; omega
  rw [hE]
  unfold cntV
  obtain ⟨x0, x1, x2, x3, x4⟩ := c
  simp only at *
  have c1 := hi.c1; have c2 := hi.c2; have c3 := hi.c3; have c4 := hi.c4
  have e1 : IntKind.i64.wrap ((x1 : Int) + (x2 : Int)) = (x1 : Int) + (x2 : Int) := wrap_i64_of (by omega) (by omega)
  have e2 : IntKind.i64.wrap (2 * (x3 : Int)) = 2 * (x3 : Int) := wrap_i64_of (by omega) (by omega)
  have e3 : IntKind.i64.wrap ((x1 : Int) + (x2 : Int) + 2 * (x3 : Int)) = (x1 : Int) + (x2 : Int) + 2 * (x3 : Int) := wrap_i64_of (by omega) (by omega)
  have e4 : IntKind.i64.wrap ((x1 : Int) + (x2 : Int) + 2 * (x3 : Int) + (x4 : Int)) = (x1 : Int) + (x2 : Int) + 2 * (x3 : Int) + (x4 : Int) := wrap_i64_of (by omega) (by omega)
  have HV := hid hV; have HB := hid hB
  clear hV hB hi h1 h2 h3 h4 h5 hE
  go_enter Try.func87, Try.ntmps87
  go_upto_region 1 with (fail)
  rw [← HV.out]
  go_wp2
  go_ret
  exact ⟨rfl, HB.out⟩
theorem plain3 : Try.prog.plainKey 3 = true := by kernel_rfl
theorem run_index4 (xs : List Int) (h4 : xs.length = 4) {k : Nat} (hk : k < 4) (w' : World) : (Instr.index 93 (.agg (intv xs).toArray) (.int .i64 k)).run Try.prog w' = .ok (.int .i64 (nth xs k)) w' := by
  obtain ⟨i, hi, hz, hs, hby⟩ := info_parts et22.hi
  have hp := run_part_plain (P := Try.prog) w' (e := 3) plain3 (xs := (intv xs).toArray) (off := k) (v := .int .i64 (nth xs k)) (by rw [List.getElem?_toArray, intv_get, if_pos (by omega)])
  have h9' : ¬ 4 ≤ k := by omega
  simp [Instr.index, asIntOf, run_underlying Try.underlying93, sizeOf, typeInfo, hi, hs, h9', hp, Result.andThen]
/-- the good ones, while they are reckoned -/
def lessO (x0 x1 x2 x3 l h b : Int) : Nat → Int
  | 0 => 0
  | 1 => x0
  | 2 => x0 + x1 - l
  | 3 => x0 + x1 - l + x2 - h
  | _ => x0 + x1 - l + x2 - h + x3 - b
set_option maxRecDepth 100000 in
set_option maxHeartbeats 2000000 in
theorem less_96 (c : Cnt) (hc : c.small) (l h b z : Nat) (hl : l < 100) (hh : h < 100) (hb : b < 100) (_hz : z < 100) (hs : l + h + b ≤ c.g + c.l + c.h + c.b) (w : World) : Calls Try.prog 96 #[cntV c, .int .i64 (l : Int), .int .i64 (h : Int), .int .i64 (b : Int), .int .i64 (z : Int)] w (CntC w (c.kept l h b z)) := by
  obtain ⟨h1, h2, h3, h4, h5⟩ := hc
  obtain ⟨V, hV, hB, hi⟩ : ∃ V, V = (w.alloc (.cells #[.int .i64 (c.g : Int), .int .i64 (c.l : Int), .int .i64 (c.h : Int), .int .i64 (c.b : Int), .int .i64 (c.z : Int)] 95)).alloc (.cells #[.int .i64 0, .int .i64 0, .int .i64 0, .int .i64 0, .int .i64 0] 95) ∧ Below w.heap.size w V ∧ I5 V w.heap.size 95 c.g c.l c.h c.b c.z :=
    ⟨_, rfl, bstep (bnew _ _) (bnew _ _), (i5_new w 95 _ _ _ _ _).mono (bnew _ _)⟩
  have hr : I5 V (w.heap.size + 1) 95 0 0 0 0 0 := by
    rw [hV]
    have := i5_new (w.alloc (.cells #[.int .i64 (c.g : Int), .int .i64 (c.l : Int), .int .i64 (c.h : Int), .int .i64 (c.b : Int), .int .i64 (c.z : Int)] 95)) 95 0 0 0 0 0
    simpa using this
  have hE : cntV (c.kept l h b z) = .agg #[.int .i64 ((c.g : Int) + c.l - l + c.h - h + c.b - b), .int .i64 (l : Int), .int .i64 (h : Int), .int .i64 (b : Int), .int .i64 (z : Int)] := by
    unfold cntV Cnt.kept
    simp only
    rw [show (((c.g + c.l + c.h + c.b - l - h - b : Nat)) : Int) = (c.g : Int) + c.l - l + c.h - h + c.b - b by omega]
  unfold CntC
  rw [hE]
  unfold cntV
  obtain ⟨x0, x1, x2, x3, x4⟩ := c
  simp only at *
  have c0 := hi.c0; have c1 := hi.c1; have c2 := hi.c2; have c3 := hi.c3
  have HV := hid hV; have HB := hid hB; have Hr := hid hr
  have H1 := hid h1; have H2 := hid h2; have H3 := hid h3; have H4 := hid h4; have Hl := hid hl; have Hh := hid hh; have Hb := hid hb
  have Hsz := hid (show V.heap.size = w.heap.size + 2 by rw [hV]; simp)
  clear hV hB hi hr h1 h2 h3 h4 h5 hE hs hl hh hb
  go_enter Try.func96, Try.ntmps96
  go_upto_region 1 with (fail)
  rw [← HV.out]
  go_upto_region 2 with (fail)
  obtain ⟨X, hX⟩ : ∃ X, X = V.alloc (.cells #[.int .i64 0, .int .i64 (l : Int), .int .i64 (h : Int), .int .i64 (b : Int), .int .i64 (z : Int)] 95) := ⟨_, rfl⟩
  have hBX : Below V.heap.size V X := by rw [hX]; exact bnew _ _
  have hq : I5 X V.heap.size 95 0 l h b z := by rw [hX]; exact i5_new _ _ _ _ _ _ _
  rw [← hX]
  have c0 := cstep c0 hBX; have c1 := cstep c1 hBX; have c2 := cstep c2 hBX; have c3 := cstep c3 hBX
  have HBX := hid (bstep HB.out hBX); have HrX := hid (Hr.out.mono hBX); have Hq := hid hq
  clear hX hBX hq
  obtain ⟨q, hqq⟩ : ∃ q, q = V.heap.size := ⟨_, rfl⟩
  rw [← hqq] at Hq ⊢
  have Hqs := hid (show q = w.heap.size + 2 by rw [hqq]; exact Hsz.out)
  clear hqq
  go_wp2
  go_loopw [12, 13, 22] (fun _ _ i wr => ∃ (k : Nat) (j : Int), k ≤ 4 ∧ j = (k : Int) ∧ i = .int .i64 j ∧ I5 wr q 95 (lessO x0 x1 x2 x3 l h b k) l h b z ∧ I5 wr (w.heap.size + 1) 95 0 0 0 0 0 ∧ Below w.heap.size w wr) (fun _ _ i _ => 4 - (intOf i).toNat)
  case atStart => exact ⟨0, 0, by omega, rfl, rfl, Hq.out, HrX.out, HBX.out⟩
  case round =>
    obtain ⟨k, j, hk, hj, rfl, hq, hr, hB⟩ := hrel
    obtain ⟨wo, rfl⟩ : ∃ wo : World, wo = wr := ⟨_, rfl⟩
    have Hq2 := hid hq; have Hr2 := hid hr; have HB2 := hid hB
    have g0 := hq.c0; have g1 := hq.c1; have g2 := hq.c2; have g3 := hq.c3; have g4 := hq.c4; have gf := hq.f 0
    clear hq hr hB
    by_cases hk4 : k = 4
    · subst hk4
      obtain rfl : j = 4 := hj
      have f0 := Hr2.out.f 0; have f1 := Hr2.out.f 1; have f2 := Hr2.out.f 2; have f3 := Hr2.out.f 3; have f4 := Hr2.out.f 4
      have r0 := Hr2.out.c0; have r1 := Hr2.out.c1; have r2 := Hr2.out.c2; have r3 := Hr2.out.c3; have r4 := Hr2.out.c4
      have HBf := hid (below_set2 (below_set2 (HB2.out.setCell (p := ⟨w.heap.size + 1, 0, none⟩) (Nat.le_succ _) (.int .i64 (lessO x0 x1 x2 x3 l h b 4))) (Nat.le_succ w.heap.size) (.int .i64 0) (.int .i64 0)) (Nat.le_succ w.heap.size) (.int .i64 0) (.int .i64 0))
      clear HBf
      go_wp2
      refine bodyPost_ret (results_c95 rfl _ _ (w.heap.size + 1) (lessO x0 x1 x2 x3 l h b 4) l h b z rfl (((((Hr2.out.set0 _).set1 _).set2 _).set3 _).set4 _)) rfl ?_
      refine ⟨rfl, ?_⟩
      exact ((((HB2.out.setCell (p := ⟨w.heap.size + 1, 0, none⟩) (Nat.le_succ _) _).setCell (p := ⟨w.heap.size + 1, 1, none⟩) (Nat.le_succ _) _).setCell (p := ⟨w.heap.size + 1, 2, none⟩) (Nat.le_succ _) _).setCell (p := ⟨w.heap.size + 1, 3, none⟩) (Nat.le_succ _) _).setCell (p := ⟨w.heap.size + 1, 4, none⟩) (Nat.le_succ _) _
    · have hqn : ¬ w.heap.size + 1 = q := by have := Hqs.out; omega
      have hqw : w.heap.size ≤ q := by have := Hqs.out; omega
      have hb1 := H1.out; have hb2 := H2.out; have hb3 := H3.out; have hb4 := H4.out; have hb5 := Hl.out; have hb6 := Hh.out; have hb7 := Hb.out
      obtain ⟨o, ho⟩ : ∃ o, o = lessO x0 x1 x2 x3 l h b k := ⟨_, rfl⟩
      have hbo : -400 ≤ o ∧ o ≤ 400 := by
        rw [ho]
        rcases (show k = 0 ∨ k = 1 ∨ k = 2 ∨ k = 3 by omega) with rfl | rfl | rfl | rfl <;> simp only [lessO] <;> omega
      rw [← ho] at g0 Hq2
      rcases (show k = 0 ∨ k = 1 ∨ k = 2 ∨ k = 3 by omega) with rfl | rfl | rfl | rfl
      · obtain rfl : j = 0 := hj
        have i0 : ∀ w', (Instr.index 93 (.agg #[.int .i64 (x0 : Int), .int .i64 (x1 : Int), .int .i64 (x2 : Int), .int .i64 (x3 : Int)]) (.int .i64 0)).run Try.prog w' = .ok (.int .i64 (x0 : Int)) w' := fun w' => run_index4 [(x0 : Int), x1, x2, x3] rfl (k := 0) (by omega) w'
        have hn : lessO x0 x1 x2 x3 l h b 1 = o + x0 := by rw [ho]; simp [lessO]
        have e1 : IntKind.i64.wrap (o + (x0 : Int)) = o + x0 := wrap_i64_of (by omega) (by omega)
        have Hn := hid hn
        clear ho hn hbo hb1 hb2 hb3 hb4 hb5 hb6 hb7 hk hk4
        go_wp2
        go_roundw
        case rel => exact ⟨1, 1, by omega, rfl, rfl, by rw [Hn.out]; exact Hq2.out.set0 _, Hr2.out.other hqn _ _, HB2.out.setCell (p := ⟨q, 0, none⟩) hqw _⟩
        case measure => simp [intOf]
      · obtain rfl : j = 1 := hj
        have i0 : ∀ w', (Instr.index 93 (.agg #[.int .i64 (x0 : Int), .int .i64 (x1 : Int), .int .i64 (x2 : Int), .int .i64 (x3 : Int)]) (.int .i64 1)).run Try.prog w' = .ok (.int .i64 (x1 : Int)) w' := fun w' => run_index4 [(x0 : Int), x1, x2, x3] rfl (k := 1) (by omega) w'
        have hn : lessO x0 x1 x2 x3 l h b 2 = o + x1 - l := by rw [ho]; simp [lessO]
        have e1 : IntKind.i64.wrap (o + (x1 : Int)) = o + x1 := wrap_i64_of (by omega) (by omega)
        have e2 : IntKind.i64.wrap (o + (x1 : Int) - (l : Int)) = o + x1 - l := wrap_i64_of (by omega) (by omega)
        have Hn := hid hn
        have Hq3 := hid (Hq2.out.set0 (o + x1))
        have s0 := Hq3.out.c0; have s1 := Hq3.out.c1; have sf := Hq3.out.f 0
        have Hfin := hid (show I5 ((wo.setCell ⟨q, 0, none⟩ (.int .i64 (o + x1))).setCell ⟨q, 0, none⟩ (.int .i64 (o + x1 - l))) q 95 (lessO x0 x1 x2 x3 l h b 2) l h b z ∧ I5 ((wo.setCell ⟨q, 0, none⟩ (.int .i64 (o + x1))).setCell ⟨q, 0, none⟩ (.int .i64 (o + x1 - l))) (w.heap.size + 1) 95 0 0 0 0 0 ∧ Below w.heap.size w ((wo.setCell ⟨q, 0, none⟩ (.int .i64 (o + x1))).setCell ⟨q, 0, none⟩ (.int .i64 (o + x1 - l))) from
          ⟨by rw [Hn.out]; exact Hq3.out.set0 _, (Hr2.out.other hqn _ _).other hqn _ _, (HB2.out.setCell (p := ⟨q, 0, none⟩) hqw _).setCell (p := ⟨q, 0, none⟩) hqw _⟩)
        clear ho hn hbo hb1 hb2 hb3 hb4 hb5 hb6 hb7 hk hk4
        go_wp2
        go_region_law (fail)
        all_goals (
          go_wp2
          go_roundw)
        all_goals first
          | (simp [intOf]; done)
          | exact ⟨2, 2, by omega, rfl, rfl, Hfin.out.1, Hfin.out.2.1, Hfin.out.2.2⟩
          | exact ⟨2, 2, by omega, rfl, rfl, Hfin.out.1.same rfl, Hfin.out.2.1.same rfl, Hfin.out.2.2.trans ⟨rfl, rfl, rfl, Nat.le_refl _, fun _ _ => rfl⟩⟩
          | go_show
      · obtain rfl : j = 2 := hj
        have i0 : ∀ w', (Instr.index 93 (.agg #[.int .i64 (x0 : Int), .int .i64 (x1 : Int), .int .i64 (x2 : Int), .int .i64 (x3 : Int)]) (.int .i64 2)).run Try.prog w' = .ok (.int .i64 (x2 : Int)) w' := fun w' => run_index4 [(x0 : Int), x1, x2, x3] rfl (k := 2) (by omega) w'
        have hn : lessO x0 x1 x2 x3 l h b 3 = o + x2 - h := by rw [ho]; simp [lessO]
        have e1 : IntKind.i64.wrap (o + (x2 : Int)) = o + x2 := wrap_i64_of (by omega) (by omega)
        have e2 : IntKind.i64.wrap (o + (x2 : Int) - (h : Int)) = o + x2 - h := wrap_i64_of (by omega) (by omega)
        have Hn := hid hn
        have Hq3 := hid (Hq2.out.set0 (o + x2))
        have s0 := Hq3.out.c0; have s1 := Hq3.out.c2; have sf := Hq3.out.f 0
        have Hfin := hid (show I5 ((wo.setCell ⟨q, 0, none⟩ (.int .i64 (o + x2))).setCell ⟨q, 0, none⟩ (.int .i64 (o + x2 - h))) q 95 (lessO x0 x1 x2 x3 l h b 3) l h b z ∧ I5 ((wo.setCell ⟨q, 0, none⟩ (.int .i64 (o + x2))).setCell ⟨q, 0, none⟩ (.int .i64 (o + x2 - h))) (w.heap.size + 1) 95 0 0 0 0 0 ∧ Below w.heap.size w ((wo.setCell ⟨q, 0, none⟩ (.int .i64 (o + x2))).setCell ⟨q, 0, none⟩ (.int .i64 (o + x2 - h))) from
          ⟨by rw [Hn.out]; exact Hq3.out.set0 _, (Hr2.out.other hqn _ _).other hqn _ _, (HB2.out.setCell (p := ⟨q, 0, none⟩) hqw _).setCell (p := ⟨q, 0, none⟩) hqw _⟩)
        clear ho hn hbo hb1 hb2 hb3 hb4 hb5 hb6 hb7 hk hk4
        go_wp2
        go_region_law (fail)
        all_goals (
          go_wp2
          go_roundw)
        all_goals first
          | (simp [intOf]; done)
          | exact ⟨3, 3, by omega, rfl, rfl, Hfin.out.1, Hfin.out.2.1, Hfin.out.2.2⟩
          | exact ⟨3, 3, by omega, rfl, rfl, Hfin.out.1.same rfl, Hfin.out.2.1.same rfl, Hfin.out.2.2.trans ⟨rfl, rfl, rfl, Nat.le_refl _, fun _ _ => rfl⟩⟩
          | go_show
      · obtain rfl : j = 3 := hj
        have i0 : ∀ w', (Instr.index 93 (.agg #[.int .i64 (x0 : Int), .int .i64 (x1 : Int), .int .i64 (x2 : Int), .int .i64 (x3 : Int)]) (.int .i64 3)).run Try.prog w' = .ok (.int .i64 (x3 : Int)) w' := fun w' => run_index4 [(x0 : Int), x1, x2, x3] rfl (k := 3) (by omega) w'
        have hn : lessO x0 x1 x2 x3 l h b 4 = o + x3 - b := by rw [ho]; simp [lessO]
        have e1 : IntKind.i64.wrap (o + (x3 : Int)) = o + x3 := wrap_i64_of (by omega) (by omega)
        have e2 : IntKind.i64.wrap (o + (x3 : Int) - (b : Int)) = o + x3 - b := wrap_i64_of (by omega) (by omega)
        have Hn := hid hn
        have Hq3 := hid (Hq2.out.set0 (o + x3))
        have s0 := Hq3.out.c0; have s1 := Hq3.out.c3; have sf := Hq3.out.f 0
        have Hfin := hid (show I5 ((wo.setCell ⟨q, 0, none⟩ (.int .i64 (o + x3))).setCell ⟨q, 0, none⟩ (.int .i64 (o + x3 - b))) q 95 (lessO x0 x1 x2 x3 l h b 4) l h b z ∧ I5 ((wo.setCell ⟨q, 0, none⟩ (.int .i64 (o + x3))).setCell ⟨q, 0, none⟩ (.int .i64 (o + x3 - b))) (w.heap.size + 1) 95 0 0 0 0 0 ∧ Below w.heap.size w ((wo.setCell ⟨q, 0, none⟩ (.int .i64 (o + x3))).setCell ⟨q, 0, none⟩ (.int .i64 (o + x3 - b))) from
          ⟨by rw [Hn.out]; exact Hq3.out.set0 _, (Hr2.out.other hqn _ _).other hqn _ _, (HB2.out.setCell (p := ⟨q, 0, none⟩) hqw _).setCell (p := ⟨q, 0, none⟩) hqw _⟩)
        clear ho hn hbo hb1 hb2 hb3 hb4 hb5 hb6 hb7 hk hk4
        go_wp2
        go_region_law (fail)
        all_goals (
          go_wp2
          go_roundw)
        all_goals first
          | (simp [intOf]; done)
          | exact ⟨4, 4, by omega, rfl, rfl, Hfin.out.1, Hfin.out.2.1, Hfin.out.2.2⟩
          | exact ⟨4, 4, by omega, rfl, rfl, Hfin.out.1.same rfl, Hfin.out.2.1.same rfl, Hfin.out.2.2.trans ⟨rfl, rfl, rfl, Nat.le_refl _, fun _ _ => rfl⟩⟩
          | go_show

end Go.Proofs.Ytelgbjfgmpkepaa

namespace Go.Proofs.Ytelgbjfgmpkepaa
open Go.RowKit Go.Shelf

/-- the count of what is known -/
def cntOf (K : Kn) : Cnt := ⟨K.cop.count 0, K.cop.count 1, K.cop.count 2, K.cop.count 3, if K.none = true then 1 else 0⟩
theorem count_take {xs : List Int} {k : Nat} (hk : k < xs.length) (v : Int) : (xs.take (k + 1)).count v = (xs.take k).count v + (if nth xs k = v then 1 else 0) := by
  rw [take_succ_nth hk, List.count_append, List.count_singleton]
  simp
theorem cntOf_small {K : Kn} (h : K.cop.length ≤ 12) : (cntOf K).small := by
  have c0 := List.count_le_length (a := (0 : Int)) (l := K.cop); have c1 := List.count_le_length (a := (1 : Int)) (l := K.cop)
  have c2 := List.count_le_length (a := (2 : Int)) (l := K.cop); have c3 := List.count_le_length (a := (3 : Int)) (l := K.cop)
  unfold Cnt.small cntOf
  simp only
  refine ⟨by omega, by omega, by omega, by omega, ?_⟩
  split <;> omega
section
variable (g : Nat) (ka : Option Addr) (kc : Nat) (K : Kn) (mv : Value) (w : World)
set_option maxRecDepth 100000 in
set_option maxHeartbeats 2000000 in
theorem count_78 (hb : BalAt w g ka kc K mv) (hn : K.cop.length ≤ 12) (hc : ∀ k, k < K.cop.length → 0 ≤ nth K.cop k ∧ nth K.cop k ≤ 3) : Calls Try.prog 78 #[.pointer (some ⟨g, 0, none⟩)] w (CntC w (cntOf K)) := by
  obtain ⟨V, hV, hB, hr, hq⟩ : ∃ V, V = (w.alloc (.cells #[.int .i64 0, .int .i64 0, .int .i64 0, .int .i64 0, .int .i64 0] 95)).alloc (.cells #[.int .i64 0, .int .i64 0, .int .i64 0, .int .i64 0, .int .i64 0] 95) ∧ Below w.heap.size w V ∧ I5 V w.heap.size 95 0 0 0 0 0 ∧ I5 V (w.heap.size + 1) 95 0 0 0 0 0 :=
    ⟨_, rfl, bstep (bnew _ _) (bnew _ _), (i5_new w 95 _ _ _ _ _).mono (bnew _ _), by
      have := i5_new (w.alloc (.cells #[.int .i64 0, .int .i64 0, .int .i64 0, .int .i64 0, .int .i64 0] 95)) 95 0 0 0 0 0
      simpa using this⟩
  have Hbw := hid hb
  have hbV := hb.mono hB
  have k0 := hbV.c0; have k1 := hbV.c1
  have K0 := hid hb.c0; have K1 := hid hb.c1
  have HV := hid hV; have HB := hid hB; have Hr := hid hr; have Hq := hid hq
  have Hn := hid hn; have Hc := hid hc
  have hcn : ∀ v : Int, K.cop.count v ≤ K.cop.length := fun v => List.count_le_length
  unfold CntC cntV cntOf
  simp only
  obtain ⟨z, hz⟩ : ∃ z : Nat, z = if K.none = true then 1 else 0 := ⟨_, rfl⟩
  rw [← hz]
  obtain ⟨nn, hnn⟩ : ∃ b, b = K.none := ⟨_, rfl⟩
  rw [← hnn] at hz k1 K1
  have Hz := hid hz
  clear hV hB hr hq hb hbV hn hc hnn hz hcn
  go_enter Try.func78, Try.ntmps78
  go_upto_region 2 with (fail)
  rw [← HV.out]
  obtain ⟨q, hqq⟩ : ∃ q, q = w.heap.size + 1 := ⟨_, rfl⟩
  rw [← hqq] at Hq ⊢
  have Hqq := hid hqq
  clear hqq
  go_wp2
  go_loopw [5, 12] (fun _ i wr => ∃ k : Nat, k ≤ K.cop.length ∧ i = .int .i64 k ∧ I5 wr q 95 ((K.cop.take k).count 0 : Nat) ((K.cop.take k).count 1 : Nat) ((K.cop.take k).count 2 : Nat) ((K.cop.take k).count 3 : Nat) 0 ∧ I5 wr w.heap.size 95 0 0 0 0 0 ∧ Below w.heap.size w wr) (fun _ i _ => K.cop.length - (intOf i).toNat)
  case atStart => exact ⟨0, Nat.zero_le _, rfl, Hq.out, Hr.out, HB.out⟩
  case round =>
    obtain ⟨k, hk, rfl, hq, hr, hB⟩ := hrel
    obtain ⟨wo, rfl⟩ : ∃ wo : World, wo = wr := ⟨_, rfl⟩
    have Hq2 := hid hq; have Hr2 := hid hr; have HB2 := hid hB
    have hko := hid (Hbw.out.k.mono hB)
    have k1 := cstep K1.out hB
    have hqn : ¬ w.heap.size = q := by have := Hqq.out; omega
    have hqw : w.heap.size ≤ q := by have := Hqq.out; omega
    clear hq hr hB
    by_cases hlt : k < K.cop.length
    · have hI : (k : Int) < (K.cop.length : Int) := by omega
      obtain ⟨b, off, rfl, hcx⟩ := IntsAt.at hko.out hlt
      have hrg := Hc.out k hlt
      have e1 : IntKind.i64.wrap ((k : Int) + 1) = (k : Int) + 1 := wrap_i64_of (by omega) (by have := Hn.out; omega)
      have s0 := count_take hlt 0; have s1 := count_take hlt 1; have s2 := count_take hlt 2; have s3 := count_take hlt 3
      have l0 := List.count_le_length (a := (0 : Int)) (l := K.cop.take k); have l1 := List.count_le_length (a := (1 : Int)) (l := K.cop.take k)
      have l2 := List.count_le_length (a := (2 : Int)) (l := K.cop.take k); have l3 := List.count_le_length (a := (3 : Int)) (l := K.cop.take k)
      rw [List.length_take] at l0 l1 l2 l3
      obtain ⟨a0, ha0⟩ : ∃ a, a = (K.cop.take k).count 0 := ⟨_, rfl⟩
      obtain ⟨a1, ha1⟩ : ∃ a, a = (K.cop.take k).count 1 := ⟨_, rfl⟩
      obtain ⟨a2, ha2⟩ : ∃ a, a = (K.cop.take k).count 2 := ⟨_, rfl⟩
      obtain ⟨a3, ha3⟩ : ∃ a, a = (K.cop.take k).count 3 := ⟨_, rfl⟩
      rw [← ha0] at s0 l0 Hq2
      rw [← ha1] at s1 l1 Hq2
      rw [← ha2] at s2 l2 Hq2
      rw [← ha3] at s3 l3 Hq2
      obtain ⟨x, hx⟩ : ∃ x, x = nth K.cop k := ⟨_, rfl⟩
      rw [← hx] at hcx hrg s0 s1 s2 s3
      have hn12 := Hn.out
      have g0 := Hq2.out.c0; have g1 := Hq2.out.c1; have g2 := Hq2.out.c2; have g3 := Hq2.out.c3
      have f0 := Hq2.out.f 0; have f1 := Hq2.out.f 1; have f2 := Hq2.out.f 2; have f3 := Hq2.out.f 3
      clear ha0 ha1 ha2 ha3 hx
      rcases (show x = 0 ∨ x = 1 ∨ x = 2 ∨ x = 3 by omega) with rfl | rfl | rfl | rfl
      · have e2 : IntKind.i64.wrap ((a0 : Int) + 1) = (a0 : Int) + 1 := wrap_i64_of (by omega) (by omega)
        simp only [if_true, Int.reduceEq, if_false, Nat.add_zero] at s0 s1 s2 s3
        have Hfin := hid (show I5 (wo.setCell ⟨q, 0, none⟩ (.int .i64 ((a0 : Int) + 1))) q 95 ((K.cop.take (k + 1)).count 0 : Nat) ((K.cop.take (k + 1)).count 1 : Nat) ((K.cop.take (k + 1)).count 2 : Nat) ((K.cop.take (k + 1)).count 3 : Nat) 0 by
          rw [s0, s1, s2, s3]
          have := Hq2.out.set0 ((a0 : Int) + 1)
          simpa using this)
        clear s0 s1 s2 s3 hrg hn12 l0 l1 l2 l3
        go_wp2
        go_roundw
        case rel => exact ⟨k + 1, hlt, by go_num, Hfin.out, Hr2.out.other hqn _ _, HB2.out.setCell (p := ⟨q, 0, none⟩) hqw _⟩
        case measure => simp [intOf]; omega
      · have e2 : IntKind.i64.wrap ((a1 : Int) + 1) = (a1 : Int) + 1 := wrap_i64_of (by omega) (by omega)
        simp only [if_true, Int.reduceEq, if_false, Nat.add_zero] at s0 s1 s2 s3
        have Hfin := hid (show I5 (wo.setCell ⟨q, 1, none⟩ (.int .i64 ((a1 : Int) + 1))) q 95 ((K.cop.take (k + 1)).count 0 : Nat) ((K.cop.take (k + 1)).count 1 : Nat) ((K.cop.take (k + 1)).count 2 : Nat) ((K.cop.take (k + 1)).count 3 : Nat) 0 by
          rw [s0, s1, s2, s3]
          have := Hq2.out.set1 ((a1 : Int) + 1)
          simpa using this)
        clear s0 s1 s2 s3 hrg hn12 l0 l1 l2 l3
        go_wp2
        go_roundw
        case rel => exact ⟨k + 1, hlt, by go_num, Hfin.out, Hr2.out.other hqn _ _, HB2.out.setCell (p := ⟨q, 1, none⟩) hqw _⟩
        case measure => simp [intOf]; omega
      · have e2 : IntKind.i64.wrap ((a2 : Int) + 1) = (a2 : Int) + 1 := wrap_i64_of (by omega) (by omega)
        simp only [if_true, Int.reduceEq, if_false, Nat.add_zero] at s0 s1 s2 s3
        have Hfin := hid (show I5 (wo.setCell ⟨q, 2, none⟩ (.int .i64 ((a2 : Int) + 1))) q 95 ((K.cop.take (k + 1)).count 0 : Nat) ((K.cop.take (k + 1)).count 1 : Nat) ((K.cop.take (k + 1)).count 2 : Nat) ((K.cop.take (k + 1)).count 3 : Nat) 0 by
          rw [s0, s1, s2, s3]
          have := Hq2.out.set2 ((a2 : Int) + 1)
          simpa using this)
        clear s0 s1 s2 s3 hrg hn12 l0 l1 l2 l3
        go_wp2
        go_roundw
        case rel => exact ⟨k + 1, hlt, by go_num, Hfin.out, Hr2.out.other hqn _ _, HB2.out.setCell (p := ⟨q, 2, none⟩) hqw _⟩
        case measure => simp [intOf]; omega
      · have e2 : IntKind.i64.wrap ((a3 : Int) + 1) = (a3 : Int) + 1 := wrap_i64_of (by omega) (by omega)
        simp only [if_true, Int.reduceEq, if_false, Nat.add_zero] at s0 s1 s2 s3
        have Hfin := hid (show I5 (wo.setCell ⟨q, 3, none⟩ (.int .i64 ((a3 : Int) + 1))) q 95 ((K.cop.take (k + 1)).count 0 : Nat) ((K.cop.take (k + 1)).count 1 : Nat) ((K.cop.take (k + 1)).count 2 : Nat) ((K.cop.take (k + 1)).count 3 : Nat) 0 by
          rw [s0, s1, s2, s3]
          have := Hq2.out.set3 ((a3 : Int) + 1)
          simpa using this)
        clear s0 s1 s2 s3 hrg hn12 l0 l1 l2 l3
        go_wp2
        go_roundw
        case rel => exact ⟨k + 1, hlt, by go_num, Hfin.out, Hr2.out.other hqn _ _, HB2.out.setCell (p := ⟨q, 3, none⟩) hqw _⟩
        case measure => simp [intOf]; omega
    · have hI : ¬ (k : Int) < (K.cop.length : Int) := by omega
      rw [List.take_of_length_le (by omega)] at Hq2
      have f0 := Hr2.out.f 0; have f1 := Hr2.out.f 1; have f2 := Hr2.out.f 2; have f3 := Hr2.out.f 3; have f4 := Hr2.out.f 4
      have r0 := Hr2.out.c0; have r1 := Hr2.out.c1; have r2 := Hr2.out.c2; have r3 := Hr2.out.c3; have r4 := Hr2.out.c4
      have g0 := Hq2.out.c0; have g1 := Hq2.out.c1; have g2 := Hq2.out.c2; have g3 := Hq2.out.c3; have g4 := Hq2.out.c4; have gf := Hq2.out.f 4
      obtain ⟨a0, ha0⟩ : ∃ a, a = K.cop.count 0 := ⟨_, rfl⟩
      obtain ⟨a1, ha1⟩ : ∃ a, a = K.cop.count 1 := ⟨_, rfl⟩
      obtain ⟨a2, ha2⟩ : ∃ a, a = K.cop.count 2 := ⟨_, rfl⟩
      obtain ⟨a3, ha3⟩ : ∃ a, a = K.cop.count 3 := ⟨_, rfl⟩
      rw [← ha0] at g0 Hq2
      rw [← ha1] at g1 Hq2
      rw [← ha2] at g2 Hq2
      rw [← ha3] at g3 Hq2
      have Ha0 := hid ha0; have Ha1 := hid ha1; have Ha2 := hid ha2; have Ha3 := hid ha3
      have hqn2 : ¬ q = w.heap.size := fun e => hqn e.symm
      clear ha0 ha1 ha2 ha3
      cases nn with
      | true =>
        have Hz2 := hid (show z = 1 from Hz.out)
        have Hq3 := hid (Hq2.out.set4 1)
        have Hr3 := hid (Hr2.out.other hqn 4 (.int .i64 1))
        have f0 := Hr3.out.f 0; have f1 := Hr3.out.f 1; have f2 := Hr3.out.f 2; have f3 := Hr3.out.f 3; have f4 := Hr3.out.f 4
        have r0 := Hr3.out.c0; have r1 := Hr3.out.c1; have r2 := Hr3.out.c2; have r3 := Hr3.out.c3; have r4 := Hr3.out.c4
        have g0 := Hq3.out.c0; have g1 := Hq3.out.c1; have g2 := Hq3.out.c2; have g3 := Hq3.out.c3; have g4 := Hq3.out.c4
        have HB3 := hid (HB2.out.setCell (p := ⟨q, 4, none⟩) hqw (.int .i64 1))
        go_wp2
        refine bodyPost_ret (results_c95 rfl _ _ w.heap.size a0 a1 a2 a3 1 rfl (((((Hr3.out.set0 _).set1 _).set2 _).set3 _).set4 _)) rfl ?_
        refine ⟨by rw [← Ha0.out, ← Ha1.out, ← Ha2.out, ← Ha3.out, Hz2.out]; rfl, ?_⟩
        exact ((((HB3.out.setCell (p := ⟨w.heap.size, 0, none⟩) (Nat.le_refl _) _).setCell (p := ⟨w.heap.size, 1, none⟩) (Nat.le_refl _) _).setCell (p := ⟨w.heap.size, 2, none⟩) (Nat.le_refl _) _).setCell (p := ⟨w.heap.size, 3, none⟩) (Nat.le_refl _) _).setCell (p := ⟨w.heap.size, 4, none⟩) (Nat.le_refl _) _
      | false =>
        have Hz2 := hid (show z = 0 from Hz.out)
        go_wp2
        refine bodyPost_ret (results_c95 rfl _ _ w.heap.size a0 a1 a2 a3 0 rfl (((((Hr2.out.set0 _).set1 _).set2 _).set3 _).set4 _)) rfl ?_
        refine ⟨by rw [← Ha0.out, ← Ha1.out, ← Ha2.out, ← Ha3.out, Hz2.out]; rfl, ?_⟩
        exact ((((HB2.out.setCell (p := ⟨w.heap.size, 0, none⟩) (Nat.le_refl _) _).setCell (p := ⟨w.heap.size, 1, none⟩) (Nat.le_refl _) _).setCell (p := ⟨w.heap.size, 2, none⟩) (Nat.le_refl _) _).setCell (p := ⟨w.heap.size, 3, none⟩) (Nat.le_refl _) _).setCell (p := ⟨w.heap.size, 4, none⟩) (Nat.le_refl _) _
end

end Go.Proofs.Ytelgbjfgmpkepaa

namespace Go.Proofs.Ytelgbjfgmpkepaa
open Go.RowKit Go.Shelf

def dTail (n : Nat) : Nat → Nat → Nat → List (Nat × Nat)
  | 0, _, _ => []
  | f + 1, a, b => if a + b < n then (a, b + 1) :: dTail n f a (b + 1) else if a < n then (a + 1, 0) :: dTail n f (a + 1) 0 else []
/-- how many pairs may come behind one, at most -/
def dMu (n a b : Nat) : Nat := (n - a) * (n + 2) + (n - a - b)
def dAll (n : Nat) : List (Nat × Nat) := (0, 0) :: dTail n (dMu n 0 0) 0 0
theorem dMu_up {n a b : Nat} (h : a + b < n) : dMu n a (b + 1) + 1 = dMu n a b := by unfold dMu; omega
theorem dMu_next {n a b : Nat} (h : a < n) : dMu n (a + 1) 0 + 1 ≤ dMu n a b := by
  unfold dMu
  obtain ⟨m, hm⟩ : ∃ m, n - a = m + 1 := ⟨n - a - 1, by omega⟩
  rw [hm, show n - (a + 1) = m by omega, Nat.succ_mul]
  omega
theorem mem_dTail {n : Nat} : ∀ {f a b : Nat}, a + b ≤ n → dMu n a b ≤ f → ∀ d : Nat × Nat, d ∈ dTail n f a b ↔ (d.1 + d.2 ≤ n ∧ (a < d.1 ∨ (a = d.1 ∧ b < d.2)))
  | 0, a, b, h, hf, d => by
    have hna : n - a = 0 := by
      unfold dMu at hf
      cases hq : n - a with
      | zero => rfl
      | succ m => rw [hq, Nat.succ_mul] at hf; omega
    simp only [dTail, List.not_mem_nil, false_iff]
    omega
  | f + 1, a, b, h, hf, d => by
    obtain ⟨x, y⟩ := d
    unfold dTail
    by_cases h1 : a + b < n
    · have := dMu_up h1
      rw [if_pos h1, List.mem_cons, mem_dTail (by omega) (by omega), Prod.mk.injEq]
      simp only
      constructor
      · rintro (h2 | h2) <;> omega
      · intro h2; omega
    · rw [if_neg h1]
      by_cases h2 : a < n
      · have := dMu_next (b := b) h2
        rw [if_pos h2, List.mem_cons, mem_dTail (by omega) (by omega), Prod.mk.injEq]
        simp only
        constructor
        · rintro (h3 | h3) <;> omega
        · intro h3; omega
      · rw [if_neg h2]
        simp only [List.not_mem_nil, false_iff]
        omega
theorem mem_dAll {n : Nat} (d : Nat × Nat) : d ∈ dAll n ↔ d.1 + d.2 ≤ n := by
  obtain ⟨x, y⟩ := d
  unfold dAll
  rw [List.mem_cons, mem_dTail (by omega) (Nat.le_refl _), Prod.mk.injEq]
  simp only
  omega
def mkP (d1 d2 d3 : Nat × Nat) : Pn := ⟨d1.1, d1.2, d2.1, d2.2, d3.1, d3.2⟩
def rowP (c : Cnt) (d2 d3 : Nat × Nat) : List Pn := (dAll c.l).map fun d1 => mkP d1 d2 d3
def planeP (c : Cnt) (d3 : Nat × Nat) : List Pn := (dAll c.h).flatMap fun d2 => rowP c d2 d3
/-- all pans, in the order in which they are yielded, and those that fit -/
def allS (c : Cnt) : List Pn := (dAll c.b).flatMap fun d3 => planeP c d3
def splitsS (c : Cnt) : List Pn := (allS c).filter (fitsB c)
theorem mem_splitsS {c : Cnt} {p : Pn} : p ∈ splitsS c ↔ Fits c p := by
  unfold splitsS allS planeP rowP mkP fitsB
  simp only [List.mem_filter, List.mem_flatMap, List.mem_map, mem_dAll, Bool.and_eq_true, decide_eq_true_eq]
  constructor
  · rintro ⟨⟨d3, h3, d2, h2, d1, h1, rfl⟩, h4, h5⟩
    exact ⟨h1, h2, h3, h4, h5⟩
  · intro h
    exact ⟨⟨(p.a3, p.b3), h.k3, (p.a2, p.b2), h.k2, (p.a1, p.b1), h.k1, rfl⟩, h.ge, h.go⟩
/-- what comes behind pans -/
def restS (c : Cnt) (f1 f2 f3 : Nat) (p : Pn) : List Pn :=
  (dTail c.l f1 p.a1 p.b1).map (fun d1 => mkP d1 (p.a2, p.b2) (p.a3, p.b3)) ++ ((dTail c.h f2 p.a2 p.b2).flatMap (fun d2 => rowP c d2 (p.a3, p.b3)) ++ (dTail c.b f3 p.a3 p.b3).flatMap fun d3 => planeP c d3)
/-- how far the iterator is: Y was yielded ahead of p -/
structure SpInv (c : Cnt) (p : Pn) (Y : List Pn) : Prop where
  k1 : p.a1 + p.b1 ≤ c.l
  k2 : p.a2 + p.b2 ≤ c.h
  k3 : p.a3 + p.b3 ≤ c.b
  ex : ∃ f1 f2 f3, dMu c.l p.a1 p.b1 ≤ f1 ∧ dMu c.h p.a2 p.b2 ≤ f2 ∧ dMu c.b p.a3 p.b3 ≤ f3 ∧ splitsS c = Y ++ (p :: restS c f1 f2 f3 p).filter (fitsB c)
theorem spInv_start (c : Cnt) : SpInv c ⟨0, 0, 0, 0, 0, 0⟩ [] := by
  refine ⟨Nat.zero_le _, Nat.zero_le _, Nat.zero_le _, _, _, _, Nat.le_refl _, Nat.le_refl _, Nat.le_refl _, ?_⟩
  unfold splitsS
  congr 1
  unfold allS restS
  conv => lhs; rw [show dAll c.b = (0, 0) :: dTail c.b (dMu c.b 0 0) 0 0 from rfl]
  rw [List.flatMap_cons]
  conv => lhs; arg 1; unfold planeP; rw [show dAll c.h = (0, 0) :: dTail c.h (dMu c.h 0 0) 0 0 from rfl]
  rw [List.flatMap_cons]
  conv => lhs; arg 1; arg 1; unfold rowP; rw [show dAll c.l = (0, 0) :: dTail c.l (dMu c.l 0 0) 0 0 from rfl]
  rw [List.map_cons]
  simp only [List.cons_append, List.append_assoc]
  rfl
/-- the pans p are dealt with -/
def yielded' (c : Cnt) (p : Pn) (Y : List Pn) : List Pn := Y ++ (if fitsB c p = true then [p] else [])
theorem yielded'_eq {c : Cnt} {p : Pn} {Y R : List Pn} : Y ++ (p :: R).filter (fitsB c) = yielded' c p Y ++ R.filter (fitsB c) := by
  unfold yielded'
  rw [List.filter_cons, List.append_assoc]
  split <;> simp
theorem dTail_up {n f a b : Nat} (h : a + b < n) (hf : dMu n a b ≤ f) : ∃ f', dTail n f a b = (a, b + 1) :: dTail n f' a (b + 1) ∧ dMu n a (b + 1) ≤ f' := by
  have := dMu_up h
  obtain ⟨f', rfl⟩ : ∃ f', f = f' + 1 := ⟨f - 1, by omega⟩
  exact ⟨f', by rw [dTail, if_pos h], by omega⟩
theorem dTail_next {n f a b : Nat} (h : ¬ a + b < n) (h2 : a < n) (hf : dMu n a b ≤ f) : ∃ f', dTail n f a b = (a + 1, 0) :: dTail n f' (a + 1) 0 ∧ dMu n (a + 1) 0 ≤ f' := by
  have := dMu_next (b := b) h2
  obtain ⟨f', rfl⟩ : ∃ f', f = f' + 1 := ⟨f - 1, by omega⟩
  exact ⟨f', by rw [dTail, if_neg h, if_pos h2], by omega⟩
theorem dTail_end {n f a b : Nat} (h : ¬ a + b < n) (h2 : ¬ a < n) : dTail n f a b = [] := by
  cases f with
  | zero => rfl
  | succ f => rw [dTail, if_neg h, if_neg h2]
section
variable {c : Cnt} {p : Pn} {Y : List Pn}
theorem SpInv.up1 (I : SpInv c p Y) (h : p.a1 + p.b1 < c.l) : SpInv c ⟨p.a1, p.b1 + 1, p.a2, p.b2, p.a3, p.b3⟩ (yielded' c p Y) := by
  obtain ⟨k1, k2, k3, f1, f2, f3, h1, h2, h3, he⟩ := I
  obtain ⟨f', ht, hf⟩ := dTail_up h h1
  refine ⟨by simp only; omega, k2, k3, f', f2, f3, hf, h2, h3, ?_⟩
  rw [he, yielded'_eq]
  congr 2
  unfold restS
  rw [ht]; rfl
theorem SpInv.next1 (I : SpInv c p Y) (h : ¬ p.a1 + p.b1 < c.l) (hn : p.a1 < c.l) : SpInv c ⟨p.a1 + 1, 0, p.a2, p.b2, p.a3, p.b3⟩ (yielded' c p Y) := by
  obtain ⟨k1, k2, k3, f1, f2, f3, h1, h2, h3, he⟩ := I
  obtain ⟨f', ht, hf⟩ := dTail_next h hn h1
  refine ⟨by simp only; omega, k2, k3, f', f2, f3, hf, h2, h3, ?_⟩
  rw [he, yielded'_eq]
  congr 2
  unfold restS
  rw [ht]; rfl
theorem row_eq (c : Cnt) (d2 d3 : Nat × Nat) : rowP c d2 d3 = mkP (0, 0) d2 d3 :: (dTail c.l (dMu c.l 0 0) 0 0).map (fun d1 => mkP d1 d2 d3) := rfl
theorem SpInv.up2 (I : SpInv c p Y) (e1 : ¬ p.a1 + p.b1 < c.l) (e2 : ¬ p.a1 < c.l) (h : p.a2 + p.b2 < c.h) : SpInv c ⟨0, 0, p.a2, p.b2 + 1, p.a3, p.b3⟩ (yielded' c p Y) := by
  obtain ⟨k1, k2, k3, f1, f2, f3, h1, h2, h3, he⟩ := I
  obtain ⟨f', ht, hf⟩ := dTail_up h h2
  refine ⟨Nat.zero_le _, by simp only; omega, k3, _, f', f3, Nat.le_refl _, hf, h3, ?_⟩
  rw [he, yielded'_eq]
  congr 2
  unfold restS
  rw [dTail_end e1 e2, ht, List.flatMap_cons, row_eq]
  simp only [List.map_nil, List.nil_append, List.cons_append, List.append_assoc]
  rfl
theorem SpInv.next2 (I : SpInv c p Y) (e1 : ¬ p.a1 + p.b1 < c.l) (e2 : ¬ p.a1 < c.l) (h : ¬ p.a2 + p.b2 < c.h) (hn : p.a2 < c.h) : SpInv c ⟨0, 0, p.a2 + 1, 0, p.a3, p.b3⟩ (yielded' c p Y) := by
  obtain ⟨k1, k2, k3, f1, f2, f3, h1, h2, h3, he⟩ := I
  obtain ⟨f', ht, hf⟩ := dTail_next h hn h2
  refine ⟨Nat.zero_le _, by simp only; omega, k3, _, f', f3, Nat.le_refl _, hf, h3, ?_⟩
  rw [he, yielded'_eq]
  congr 2
  unfold restS
  rw [dTail_end e1 e2, ht, List.flatMap_cons, row_eq]
  simp only [List.map_nil, List.nil_append, List.cons_append, List.append_assoc]
  rfl
theorem plane_eq (c : Cnt) (d3 : Nat × Nat) : planeP c d3 = mkP (0, 0) (0, 0) d3 :: ((dTail c.l (dMu c.l 0 0) 0 0).map (fun d1 => mkP d1 (0, 0) d3) ++ (dTail c.h (dMu c.h 0 0) 0 0).flatMap fun d2 => rowP c d2 d3) := by
  unfold planeP
  rw [show dAll c.h = (0, 0) :: dTail c.h (dMu c.h 0 0) 0 0 from rfl, List.flatMap_cons, row_eq]
  rfl
theorem SpInv.up3 (I : SpInv c p Y) (e1 : ¬ p.a1 + p.b1 < c.l) (e2 : ¬ p.a1 < c.l) (e3 : ¬ p.a2 + p.b2 < c.h) (e4 : ¬ p.a2 < c.h) (h : p.a3 + p.b3 < c.b) : SpInv c ⟨0, 0, 0, 0, p.a3, p.b3 + 1⟩ (yielded' c p Y) := by
  obtain ⟨k1, k2, k3, f1, f2, f3, h1, h2, h3, he⟩ := I
  obtain ⟨f', ht, hf⟩ := dTail_up h h3
  refine ⟨Nat.zero_le _, Nat.zero_le _, by simp only; omega, _, _, f', Nat.le_refl _, Nat.le_refl _, hf, ?_⟩
  rw [he, yielded'_eq]
  congr 2
  unfold restS
  rw [dTail_end e1 e2, dTail_end e3 e4, ht, List.flatMap_cons, plane_eq]
  simp only [List.map_nil, List.flatMap_nil, List.nil_append, List.cons_append, List.append_assoc]
  rfl
theorem SpInv.next3 (I : SpInv c p Y) (e1 : ¬ p.a1 + p.b1 < c.l) (e2 : ¬ p.a1 < c.l) (e3 : ¬ p.a2 + p.b2 < c.h) (e4 : ¬ p.a2 < c.h) (h : ¬ p.a3 + p.b3 < c.b) (hn : p.a3 < c.b) : SpInv c ⟨0, 0, 0, 0, p.a3 + 1, 0⟩ (yielded' c p Y) := by
  obtain ⟨k1, k2, k3, f1, f2, f3, h1, h2, h3, he⟩ := I
  obtain ⟨f', ht, hf⟩ := dTail_next h hn h3
  refine ⟨Nat.zero_le _, Nat.zero_le _, by simp only; omega, _, _, f', Nat.le_refl _, Nat.le_refl _, hf, ?_⟩
  rw [he, yielded'_eq]
  congr 2
  unfold restS
  rw [dTail_end e1 e2, dTail_end e3 e4, ht, List.flatMap_cons, plane_eq]
  simp only [List.map_nil, List.flatMap_nil, List.nil_append, List.cons_append, List.append_assoc]
  rfl
theorem SpInv.end (I : SpInv c p Y) (e1 : ¬ p.a1 + p.b1 < c.l) (e2 : ¬ p.a1 < c.l) (e3 : ¬ p.a2 + p.b2 < c.h) (e4 : ¬ p.a2 < c.h) (e5 : ¬ p.a3 + p.b3 < c.b) (e6 : ¬ p.a3 < c.b) : splitsS c = yielded' c p Y := by
  obtain ⟨k1, k2, k3, f1, f2, f3, h1, h2, h3, he⟩ := I
  rw [he, yielded'_eq]
  unfold restS
  rw [dTail_end e1 e2, dTail_end e3 e4, dTail_end e5 e6]
  simp
/-- it stands in the list -/
theorem SpInv.here (I : SpInv c p Y) (h : fitsB c p = true) : Y.length < (splitsS c).length ∧ (splitsS c)[Y.length]? = some p := by
  obtain ⟨k1, k2, k3, f1, f2, f3, h1, h2, h3, he⟩ := I
  rw [he, List.filter_cons, if_pos h]
  constructor
  · rw [List.length_append, List.length_cons]; omega
  · rw [List.getElem?_append_right (Nat.le_refl _), Nat.sub_self]; rfl
end
theorem yielded'_len {c : Cnt} {p : Pn} {Y : List Pn} : (yielded' c p Y).length = Y.length + (if fitsB c p = true then 1 else 0) := by
  unfold yielded'
  rw [List.length_append]
  split <;> rfl
/-- the least over either order -/
theorem nd_eqS (K : Nat) {c : Cnt} (h0 : 0 < c.cases) : nd K c = if c.cases = 1 then 0 else minL K ((splitsS c).map fun p => aft K c p + 1) := by
  rw [nd_eq K h0]
  by_cases h1 : c.cases = 1
  · rw [if_pos h1, if_pos h1]
  · rw [if_neg h1, if_neg h1]
    refine (minL_eq minL_le (fun x hx => ?_) ?_).symm.symm
    · obtain ⟨p, hp, rfl⟩ := List.mem_map.1 hx
      exact minL_mem (List.mem_map.2 ⟨p, mem_splitsS.2 (mem_splits.1 hp), rfl⟩)
    · rcases minL_is (K := K) (l := (splitsS c).map fun p => aft K c p + 1) with h | h
      · exact .inl h
      · obtain ⟨p, hp, h2⟩ := List.mem_map.1 h
        exact .inr (List.mem_map.2 ⟨p, mem_splits.2 (mem_splitsS.1 hp), h2⟩)

end Go.Proofs.Ytelgbjfgmpkepaa
