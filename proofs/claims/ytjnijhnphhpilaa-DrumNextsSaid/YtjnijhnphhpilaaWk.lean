/- Walks: the drum of a reader; Shortest. -/
import Derived.Test.YtjnijhnphhpilaaWj
import Derived.Deep.RegionHeld3
namespace Go.Proofs.Ytjnijhnphhpilaa
open Go.RowKit Go.Shelf
attribute [local go_sem ↓] wp_get wp_get0 wp_getS wp73 wp71 wps73 wps71 wpa73 wpb75 wpx75

/-- copy into a whole block of ints, of as many numbers as it has -/
theorem run_copy_fill (ty : TypeId) (w : World) (g n cap m scap : Nat) (ao : Option Addr) (zs ys : List Int) (hg : w.heap[g]? = some (.cells (intv zs).toArray 3 (0, 0))) (hz : zs.length = n) (hy : ys.length = m)
    (hat : IntsAt w ao ys) (hnm : n ≤ m) :
    (Builtin.copy_ #[22, 22] ty #[.slice (some ⟨g, 0, none⟩) n cap, .slice ao m scap]).run Try.prog w = .ok (.int .i64 n) (w.setRow g (intv (ys.take n)).toArray) := by
  obtain ⟨i, hi, _, hs, _⟩ := info_parts info3
  have hs1 : (Try.prog.info? 3).map (·.size) = some 1 := by rw [hi]; simp [hs]
  have hmin : Nat.min m n = n := Nat.min_eq_right hnm
  by_cases h0 : n = 0
  · subst h0
    obtain rfl : zs = [] := List.eq_nil_of_length_eq_zero hz
    rw [run_copy_none (P := Try.prog) _ 22 22 ty 3 _ ao _ _ _ scap Try.underlying22 hs1 (by simp)]
    have : w.setRow g (intv (ys.take 0)).toArray = w := by
      unfold World.setRow
      have e : ∀ f : Obj → Obj, (∀ o, w.heap[g]? = some o → f o = o) → w.heap.modify g f = w.heap := by
        intro f hf
        apply Array.ext_getElem?
        intro k
        rw [Array.getElem?_modify]
        split
        · rename_i h; subst h
          cases hq : w.heap[g]? with
          | none => rfl
          | some o => simp [hf o hq]
        · rfl
      rw [e _ (fun o ho => by rw [hg] at ho; cases ho; rfl)]
    rw [this]; rfl
  · obtain ⟨b, off, rfl, _⟩ := hat.at (k := 0) (by omega)
    have hl : (intv (ys.take n)).length = n := by rw [intv_length, List.length_take]; omega
    rw [run_copy_row (P := Try.prog) w 22 22 ty 3 g 0 n cap ⟨b, off, none⟩ m scap (intv zs).toArray 3 (intv (ys.take n)) Try.underlying22 hs1 hg
      (by rw [hl, hmin]) (fun j v hj => by
        rw [intv_get] at hj
        split at hj
        · rename_i hlt
          rw [List.length_take] at hlt
          simp at hj; subst hj
          rw [Addr.add_lit, nth_take (by omega)]; exact hat.cell (by omega)
        · simp at hj) (by rw [hl]; simp [intv_length, hz]) (intv_one _)]
    rw [hl, List.drop_of_length_le (by simp [intv_length, hz])]
    simp [goInt]

theorem heap_push (w : World) (o : Obj) : (w.alloc o).heap = w.heap.push o := rfl
theorem heap_drew' (w : World) : w.drew.heap = w.heap := rfl

section
variable (w : World) (o1 o2 o3 o4 : Obj)
theorem heap4_1 : ((((w.alloc o1).alloc o2).alloc o3).alloc o4).drew.heap[w.heap.size]? = some o1 := by
  rw [heap_drew', heap_push, heap_push, heap_push, heap_push]
  rw [Array.getElem?_push, if_neg (by simp only [Array.size_push]; omega), Array.getElem?_push, if_neg (by simp only [Array.size_push]; omega), Array.getElem?_push, if_neg (by simp only [Array.size_push]; omega), Array.getElem?_push, if_pos rfl]
theorem heap4_2 : ((((w.alloc o1).alloc o2).alloc o3).alloc o4).drew.heap[w.heap.size + 1]? = some o2 := by
  rw [heap_drew', heap_push, heap_push, heap_push, heap_push]
  rw [Array.getElem?_push, if_neg (by simp only [Array.size_push]; omega), Array.getElem?_push, if_neg (by simp only [Array.size_push]; omega), Array.getElem?_push, if_pos (by simp only [Array.size_push])]
theorem heap4_3 : ((((w.alloc o1).alloc o2).alloc o3).alloc o4).drew.heap[w.heap.size + 1 + 1]? = some o3 := by
  rw [heap_drew', heap_push, heap_push, heap_push, heap_push]
  rw [Array.getElem?_push, if_neg (by simp only [Array.size_push]; omega), Array.getElem?_push, if_pos (by simp only [Array.size_push])]
theorem heap4_4 : ((((w.alloc o1).alloc o2).alloc o3).alloc o4).drew.heap[w.heap.size + 1 + 1 + 1]? = some o4 := by
  rw [heap_drew', heap_push, heap_push, heap_push, heap_push]
  rw [Array.getElem?_push, if_pos (by simp only [Array.size_push])]
end

theorem Sl.of_block {w : World} {g n cap : Nat} {xs : List Int} {cs : Array Value} {t : TypeId} {fr : Nat × Nat} (hg : w.heap[g]? = some (.cells cs t fr)) (hn : xs.length = n) (hc : cs = (intv xs).toArray) : Sl w (.slice (some ⟨g, 0, none⟩) n cap) xs := by
  subst hn; subst hc
  exact ⟨_, cap, rfl, IntsAt.of_heap hg (fun j hj => by rw [List.getElem?_toArray, Nat.zero_add, intv_get, if_pos hj]), fun h => by cases h⟩

def DrumV (w : World) (v : Value) (f g : List Int) : Prop := ∃ v1 v2, v = .agg #[v1, v2] ∧ Sl w v1 f ∧ Sl w v2 g

/-- the drum of a reader -/
def rdDrum (r : Rd) : List Int × List Int := ((r.own.drop 1).take r.places, r.row.take r.places)

def DrumP (w : World) (f g : List Int) (e : Ending) (w' : World) : Prop := ∃ v, e = .returned v ∧ DrumV w' v f g ∧ Below w.heap.size w w'

set_option maxRecDepth 100000 in
set_option maxHeartbeats 1000000 in
theorem drum_c (b : Nat) (r : Rd) (w : World) (hm : RdM w b r) (hok : r.Ok) :
    Calls Try.prog 66 #[.pointer (some ⟨b, 0, none⟩)] w (DrumP w (rdDrum r).1 (rdDrum r).2) := by
  obtain ⟨ra, rc, pv, hat, hpr⟩ := hm
  obtain ⟨own, places, row, old, far, proof⟩ := r
  simp only at hat hpr
  obtain ⟨hpl, hlen, -, -, -, -, -⟩ := hok.ok
  simp only at hpl hlen
  have hc1 := hat.cPlaces
  have hc2 := hat.cRow
  have hlt := hat.lt
  have hmk : ∀ w, (Instr.makeSlice 22 (.int .i64 places) (.int .i64 places)).run Try.prog w = .ok (.slice (some ⟨w.heap.size, 0, none⟩) places places) (w.alloc (.cells (intv (List.replicate places 0)).toArray 3)) := fun w => run_make_ints w places places (by omega) (by omega)
  have hA1 : ∀ o1, (w.alloc o1).cell? ⟨b, 82, none⟩ = some (.int .i64 places) := fun o1 => cstep hc1 ((Below.refl _ _).alloc (Nat.le_refl _) o1)
  have hA2 : ∀ o1 o2, ((w.alloc o1).alloc o2).cell? ⟨b, 82, none⟩ = some (.int .i64 places) := fun o1 o2 => cstep hc1 (((Below.refl _ _).alloc (Nat.le_refl _) o1).alloc (by simp) o2)
  have hA3 : ∀ o1 o2 o3, (((w.alloc o1).alloc o2).alloc o3).cell? ⟨b, 82, none⟩ = some (.int .i64 places) := fun o1 o2 o3 => cstep hc1 ((((Below.refl _ _).alloc (Nat.le_refl _) o1).alloc (by simp) o2).alloc (by simp; omega) o3)
  have hA4 : ∀ o1 o2 o3 o4, ((((w.alloc o1).alloc o2).alloc o3).alloc o4).cell? ⟨b, 82, none⟩ = some (.int .i64 places) := fun o1 o2 o3 o4 => cstep hc1 (((((Below.refl _ _).alloc (Nat.le_refl _) o1).alloc (by simp) o2).alloc (by simp; omega) o3).alloc (by simp; omega) o4)
  have Hat := hid hat
  clear hat hpr hok
  go_enter Try.func66, Try.ntmps66
  go_upto_region 1 with (fail)
  go_cut [2, 3] (fun s2 s3 wc => ∃ g1 g2 g3, s2 = .pointer (some ⟨w.heap.size, 0, none⟩) ∧ s3 = .pointer (some ⟨g3, 0, none⟩) ∧ g1 ≠ g2 ∧ g1 ≠ g3 ∧ g2 ≠ g3 ∧ w.heap.size < g1 ∧ w.heap.size < g2 ∧ w.heap.size < g3 ∧
    wc.heap[g1]? = some (.cells (intv (List.replicate places 0)).toArray 3 (0, 0)) ∧ wc.heap[g2]? = some (.cells (intv (List.replicate places 0)).toArray 3 (0, 0)) ∧
    wc.heap[g3]? = some (.cells #[.slice (some ⟨g1, 0, none⟩) places places, .slice (some ⟨g2, 0, none⟩) places places] 24 (0, 0)) ∧
    (∃ x y, wc.heap[w.heap.size]? = some (.cells #[x, y] 24 (0, 0))) ∧ Below w.heap.size w wc)
  case first =>
    go_region_held3 (fun w' => w'.cell? ⟨b, 82, none⟩ = some (.int .i64 places)) ((first | go_keep | (simp only [World.cell?_drew]; first | exact hA2 _ _ | exact hA3 _ _ _ | exact hA4 _ _ _ _) | (simp [go_sem, hA2, hA3, hA4]; done))) (fail)
    all_goals (go_wp2; go_meet)
    all_goals (have hBB : ∀ o1 o2 o3 o4, Below w.heap.size w ((((w.alloc o1).alloc o2).alloc o3).alloc o4).drew := fun o1 o2 o3 o4 => (((((Below.refl _ _).alloc (Nat.le_refl _) o1).alloc (by simp) o2).alloc (by simp; omega) o3).alloc (by simp; omega) o4).drew)
    all_goals first
      | (refine ⟨w.heap.size + 1, w.heap.size + 1 + 1, _, rfl, rfl, ?_, ?_, ?_, ?_, ?_, ?_, ?_, ?_, ?_, ⟨.slice none 0 0, .slice none 0 0, ?_⟩, hBB _ _ _ _⟩ <;> first | omega | exact heap4_1 .. | exact heap4_2 .. | exact heap4_3 .. | exact heap4_4 ..)
      | (refine ⟨w.heap.size + 1, w.heap.size + 1 + 1 + 1, _, rfl, rfl, ?_, ?_, ?_, ?_, ?_, ?_, ?_, ?_, ?_, ⟨.slice none 0 0, .slice none 0 0, ?_⟩, hBB _ _ _ _⟩ <;> first | omega | exact heap4_1 .. | exact heap4_2 .. | exact heap4_3 .. | exact heap4_4 ..)
      | (refine ⟨w.heap.size + 1 + 1, w.heap.size + 1, _, rfl, rfl, ?_, ?_, ?_, ?_, ?_, ?_, ?_, ?_, ?_, ⟨.slice none 0 0, .slice none 0 0, ?_⟩, hBB _ _ _ _⟩ <;> first | omega | exact heap4_1 .. | exact heap4_2 .. | exact heap4_3 .. | exact heap4_4 ..)
      | (refine ⟨w.heap.size + 1 + 1, w.heap.size + 1 + 1 + 1, _, rfl, rfl, ?_, ?_, ?_, ?_, ?_, ?_, ?_, ?_, ?_, ⟨.slice none 0 0, .slice none 0 0, ?_⟩, hBB _ _ _ _⟩ <;> first | omega | exact heap4_1 .. | exact heap4_2 .. | exact heap4_3 .. | exact heap4_4 ..)
      | (refine ⟨w.heap.size + 1 + 1 + 1, w.heap.size + 1, _, rfl, rfl, ?_, ?_, ?_, ?_, ?_, ?_, ?_, ?_, ?_, ⟨.slice none 0 0, .slice none 0 0, ?_⟩, hBB _ _ _ _⟩ <;> first | omega | exact heap4_1 .. | exact heap4_2 .. | exact heap4_3 .. | exact heap4_4 ..)
      | (refine ⟨w.heap.size + 1 + 1 + 1, w.heap.size + 1 + 1, _, rfl, rfl, ?_, ?_, ?_, ?_, ?_, ?_, ?_, ?_, ?_, ⟨.slice none 0 0, .slice none 0 0, ?_⟩, hBB _ _ _ _⟩ <;> first | omega | exact heap4_1 .. | exact heap4_2 .. | exact heap4_3 .. | exact heap4_4 ..)
  case rest =>
    obtain ⟨g1, g2, g3, rfl, rfl, h12, h13, h23, hw1, hw2, hw3, hh1, hh2, hh3, ⟨x, y, hh0⟩, hB⟩ := hcut
    have hat1 := Hat.out.mono hB
    have hc1 := hat1.cPlaces
    have hc2 := hat1.cRow
    have hc3 := cell_of_row wc g3 0 _ _ _ hh3
    have hc4 := cell_of_row wc g3 1 _ _ _ hh3
    simp at hc3 hc4
    have hown : IntsAt wc (some ⟨b, 1, none⟩) (own.drop 1) := by
      have h := IntsAt.of_heap (off := 0) (xs := own) hat1.heap (fun j hj => by rw [List.getElem?_toArray, Nat.zero_add]; exact rdC_own hat1.ownl hat1.oldl (by rw [hat1.ownl] at hj; exact hj))
      exact h.drop 1
    have hol : (own.drop 1).length = 81 := by rw [List.length_drop, hat1.ownl]
    have hcopy : (Builtin.copy_ #[22, 22] 3 #[.slice (some ⟨g1, 0, none⟩) places places, .slice (some ⟨b, 1, none⟩) 81 81]).run Try.prog wc.drew = .ok (.int .i64 places) (wc.drew.setRow g1 (intv ((own.drop 1).take places)).toArray) :=
      run_copy_fill 3 wc.drew g1 places places 81 81 _ _ (own.drop 1) hh1 (by simp) hol hown (by omega)
    go_wp2
    go_region
    obtain ⟨w6, hw6⟩ : ∃ w6, w6 = wc.drew.setRow g1 (intv (List.take places own.tail)).toArray := ⟨_, rfl⟩
    rw [← hw6]
    have ho6 : Only (fun k => k = g1) wc w6 := by rw [hw6]; exact (Only.refl _ wc).drew.trans (setRow_only _ _)
    have hg16 : w6.heap[g1]? = some (.cells (intv (List.take places own.tail)).toArray 3 (0, 0)) := by rw [hw6]; exact setRow_heap (w := wc.drew) hh1
    have hlt1 : g1 < wc.heap.size := (Array.getElem?_eq_some_iff.1 hh1).1
    have hlt2 : g2 < wc.heap.size := (Array.getElem?_eq_some_iff.1 hh2).1
    have hlt3 : g3 < wc.heap.size := (Array.getElem?_eq_some_iff.1 hh3).1
    have hlt0 : w.heap.size < wc.heap.size := by omega
    have hg26 := (ho6.block g2 hlt2 (fun h => h12 h.symm)).trans hh2
    have hg36 := (ho6.block g3 hlt3 (fun h => h13 h.symm)).trans hh3
    have hg06 := (ho6.block _ hlt0 (fun h => by omega)).trans hh0
    have hB6 : Below w.heap.size w w6 := hB.trans (ho6.below hB.size (by intro j hj; omega))
    have hat6 := Hat.out.mono hB6
    have d2 := hat6.cRow
    have d3 := cell_of_row w6 g3 0 _ _ _ hg36
    have d4 := cell_of_row w6 g3 1 _ _ _ hg36
    simp at d3 d4
    have hcopy2 : (Builtin.copy_ #[22, 22] 3 #[.slice (some ⟨g2, 0, none⟩) places places, .slice ra row.length rc]).run Try.prog w6.drew = .ok (.int .i64 places) (w6.drew.setRow g2 (intv (row.take places)).toArray) :=
      run_copy_fill 3 w6.drew g2 places places row.length rc _ _ row hg26 (by simp) rfl hat6.rat (by omega)
    have Hg16 := hid hg16; have Hg26 := hid hg26; have Hg36 := hid hg36; have Hg06 := hid hg06; have HB6 := hid hB6
    clear hw6 hcopy hc1 hc2 hc3 hc4 hh1 hh2 hh3 hh0 hat1 hat6 hown hg16 hg26 hg36 hg06 hB hB6 hA1 hA2 hA3 hA4
    go_wp2
    go_region
    obtain ⟨w7, hw7⟩ : ∃ w7, w7 = w6.drew.setRow g2 (intv (List.take places row)).toArray := ⟨_, rfl⟩
    rw [← hw7]
    have ho7 : Only (fun k => k = g2) w6 w7 := by rw [hw7]; exact (Only.refl _ w6).drew.trans (setRow_only _ _)
    have hlt6 := ho6.size
    have hg17 := (ho7.block g1 (by omega) h12).trans Hg16.out
    have hg27 : w7.heap[g2]? = some (.cells (intv (List.take places row)).toArray 3 (0, 0)) := by rw [hw7]; exact setRow_heap (w := w6.drew) Hg26.out
    have hg37 := (ho7.block g3 (by omega) (fun h => h23 h.symm)).trans Hg36.out
    have hg07 := (ho7.block _ (by omega) (fun h => by omega)).trans Hg06.out
    have hB7 : Below w.heap.size w w7 := HB6.out.trans (ho7.below HB6.out.size (by intro j hj; omega))
    have d3 := cell_of_row w7 g3 0 _ _ _ hg37
    have d4 := cell_of_row w7 g3 1 _ _ _ hg37
    have d5 := cell_of_row w7 w.heap.size 0 _ _ _ hg07
    have d6 := cell_of_row w7 w.heap.size 1 _ _ _ hg07
    simp at d3 d4 d5 d6
    have hfr : ∀ k, w7.frozen? ⟨w.heap.size, k, none⟩ = false := fun k => frozen_of_row _ _ _ _ _ hg07
    have Hg07 := hid hg07
    have Hg17 := hid hg17; have Hg27 := hid hg27; have HB7 := hid hB7
    have hlt7 : wc.heap.size ≤ w7.heap.size := Nat.le_trans hlt6 ho7.size
    clear hw7 hcopy2 hg17 hg27 hg37 hg07 hB7 d2 ho6 ho7
    go_wp2
    have hout := (heap_setCell_same _ w.heap.size 1 _ 24 (.slice (some ⟨g2, 0, none⟩) places places) (heap_setCell_same w7 w.heap.size 0 _ 24 (.slice (some ⟨g1, 0, none⟩) places places) Hg07.out))
    refine bodyPost_ret (results_cell_row rfl _ _ w.heap.size 24 _ (0, 0) _ rfl hout Try.underlying24 rfl (by kernel_rfl)) rfl ?_
    have hoF : Only (fun k => k = w.heap.size) w7 ((w7.setCell ⟨w.heap.size, 0, none⟩ (.slice (some ⟨g1, 0, none⟩) places places)).setCell ⟨w.heap.size, 1, none⟩ (.slice (some ⟨g2, 0, none⟩) places places)) :=
      (setCell_only _ _ _).trans (setCell_only _ _ _)
    refine ⟨_, rfl, ⟨_, _, rfl, ?_, ?_⟩, HB7.out.trans (hoF.below HB7.out.size (by intro j hj; omega))⟩
    · exact Sl.of_block ((hoF.block g1 (by omega) (by omega)).trans Hg17.out) (by simp [rdDrum]; rw [Hat.out.ownl]; omega) (by simp [rdDrum])
    · exact Sl.of_block ((hoF.block g2 (by omega) (by omega)).trans Hg27.out) (by simp [rdDrum]; omega) rfl

theorem ret24 {fn : Func} {p u : Tmp} (h : fn.results = #[.cell p 24, .tmp u]) (tmps : Array Value) (w : World) (g : Nat) (x y : Value) (hp : tmps.getD p undef = .pointer (some ⟨g, 0, none⟩))
    (hg : w.heap[g]? = some (.cells #[x, y] 24 (0, 0))) : (results fn tmps).run Try.prog w = .ok (.tuple #[.agg #[x, y], tmps.getD u undef]) w := by
  rw [results_cell_tmp h, hp]
  simp [asAddr, run_loadVar_row w g 24 24 #[x, y] (0, 0) _ hg Try.underlying24 rfl (by kernel_rfl), Result.andThen]

theorem set24 {w : World} {g : Nat} {x y : Value} (hg : w.heap[g]? = some (.cells #[x, y] 24 (0, 0))) (v1 v2 : Value) :
    ((w.setCell ⟨g, 0, none⟩ v1).setCell ⟨g, 1, none⟩ v2).heap[g]? = some (.cells #[v1, v2] 24 (0, 0)) :=
  heap_setCell_same _ g 1 _ 24 v2 (heap_setCell_same w g 0 _ 24 v1 hg)

theorem DrumV.mono {w w' : World} {v : Value} {f g : List Int} (h : DrumV w v f g) (hB : Below w.heap.size w w') : DrumV w' v f g := by
  obtain ⟨v1, v2, rfl, h1, h2⟩ := h
  exact ⟨v1, v2, rfl, h1.mono hB, h2.mono hB⟩

theorem Sl.only {w w' : World} {v : Value} {xs : List Int} (h : Sl w v xs) {k : Nat} (hO : Only (fun b => b = k) w w') (hk : ∀ c, xs.length ≠ 0 → w.cell? ⟨k, c, none⟩ ≠ some (.int .i64 (nth xs 0))) : Sl w' v xs := by
  obtain ⟨a, cap, rfl, h, hn⟩ := h
  refine ⟨a, cap, rfl, h.only hO (fun b off e hl hb => ?_), hn⟩
  subst e
  have hb' : b = k := hb
  subst hb'
  exact hk _ (by omega) (h.cell hl)

theorem cell24_ne {w : World} {g : Nat} {x y : Value} (hg : w.heap[g]? = some (.cells #[x, y] 24 (0, 0))) (hx : ∀ n, x ≠ .int .i64 n) (hy : ∀ n, y ≠ .int .i64 n) (c : Nat) (n : Int) : w.cell? ⟨g, c, none⟩ ≠ some (.int .i64 n) := by
  rw [cell_of_row _ _ _ _ _ _ hg]
  match c with
  | 0 => simpa using hx n
  | 1 => simpa using hy n
  | k + 2 => simp

def ShortP (w : World) (xs : List Int) (e : Ending) (w' : World) : Prop :=
  ∃ v, e = .returned (.tuple #[v, .int .i64 (checkRow xs)]) ∧ Below w.heap.size w w' ∧
    DrumV w' v (if checkRow xs = 0 then (rdDrum (rdAll xs)).1 else []) (if checkRow xs = 0 then (rdDrum (rdAll xs)).2 else [])

set_option maxRecDepth 100000 in
set_option maxHeartbeats 1000000 in
theorem shortest_c (a : Option Addr) (cap : Nat) (xs : List Int) (w : World) (hx : IntsAt w a xs) (hb : xs.length ≤ 1000000) :
    Calls Try.prog 33 #[.slice a xs.length cap] w (ShortP w xs) := by
  have H := hid (fun w' (hB : Below w.heap.size w w') => open_c a cap xs w' (hx.mono hB) hb)
  clear hx
  unfold OpenP at H
  unfold ShortP
  by_cases h : checkRow xs = 0
  · obtain ⟨hlen, hbits⟩ := checkRow_zero h
    simp only [if_pos h] at H ⊢
    rw [h]
    have Hok := hid (rdAll_ok hbits (by omega) xs.length (Nat.le_refl _))
    rw [List.take_length] at Hok
    have Hh := hid h; clear h hbits
    generalize rdAll xs = r at *
    go_enter Try.func33, Try.ntmps33
    go_wp2_with fail
    refine (H.out _ ((Below.refl _ _).alloc (Nat.le_refl _) _)).mono ?_
    rintro e w1 ⟨b, rfl, hm, hbb, hB⟩
    have hB1 := bstep ((Below.refl w.heap.size w).alloc (Nat.le_refl _) (.cells #[.slice none 0 0, .slice none 0 0] 24)) hB
    have hd := drum_c b r w1 hm Hok.out
    have hcell := (hB.block w.heap.size (by simp)).trans (heap_alloc_new w (.cells #[.slice none 0 0, .slice none 0 0] 24))
    have Hcell := hid hcell
    have Hd := hid hd; have HB1 := hid hB1; have Hm := hid hm; clear hB hm hd hB1 hcell
    go_wp2_with fail
    refine Hd.out.mono ?_
    rintro e w2 ⟨v, rfl, ⟨_, _, rfl, ⟨a1, c1, rfl, hs1, hn1⟩, ⟨a2, c2, rfl, hs2, hn2⟩⟩, hB2⟩
    have hlt : w.heap.size < w1.heap.size := (Array.getElem?_eq_some_iff.1 Hcell.out).1
    have hc2 := (hB2.block w.heap.size hlt).trans Hcell.out
    have d5 := cell_of_row w2 w.heap.size 0 _ _ _ hc2
    have d6 := cell_of_row w2 w.heap.size 1 _ _ _ hc2
    simp at d5 d6
    have hfr : ∀ k, w2.frozen? ⟨w.heap.size, k, none⟩ = false := fun k => frozen_of_row _ _ _ _ _ hc2
    have Hs1 := hid hs1; have Hs2 := hid hs2; have HB2 := hid (bstep HB1.out hB2); have Hc2 := hid hc2
    clear hs1 hs2 hB2 hc2
    go_wp2
    refine bodyPost_ret (ret24 rfl _ _ w.heap.size _ _ rfl (set24 Hc2.out _ _)) rfl ?_
    have hO := (setCell_only w.heap.size 0 (.slice a1 (rdDrum r).1.length c1) (w := w2)).trans (setCell_only w.heap.size 1 (.slice a2 (rdDrum r).2.length c2))
    have hne := cell24_ne Hc2.out (by simp) (by simp)
    exact ⟨_, rfl, HB2.out.trans (hO.below HB2.out.size (by intro j hj; omega)), _, _, rfl, Sl.only ⟨a1, c1, rfl, Hs1.out, hn1⟩ hO (fun c _ => hne c _), Sl.only ⟨a2, c2, rfl, Hs2.out, hn2⟩ hO (fun c _ => hne c _)⟩
  · simp only [if_neg h] at H ⊢
    generalize checkRow xs = c at *
    have hcb : (c != 0) = true := by simp [h]
    have Hh := hid h; clear h
    go_enter Try.func33, Try.ntmps33
    go_wp2_with fail
    refine (H.out _ ((Below.refl _ _).alloc (Nat.le_refl _) _)).mono ?_
    rintro e w1 ⟨rfl, hB⟩
    have hcell := (hB.block w.heap.size (by simp)).trans (heap_alloc_new w (.cells #[.slice none 0 0, .slice none 0 0] 24))
    have d5 := cell_of_row w1 w.heap.size 0 _ _ _ hcell
    have d6 := cell_of_row w1 w.heap.size 1 _ _ _ hcell
    simp at d5 d6
    have hfr : ∀ k, w1.frozen? ⟨w.heap.size, k, none⟩ = false := fun k => frozen_of_row _ _ _ _ _ hcell
    have hB1 := bstep ((Below.refl w.heap.size w).alloc (Nat.le_refl _) (.cells #[.slice none 0 0, .slice none 0 0] 24)) hB
    have HB1 := hid hB1; have Hcell := hid hcell; clear hB hB1 hcell
    go_wp2
    refine bodyPost_ret (ret24 rfl _ _ w.heap.size _ _ rfl (set24 Hcell.out _ _)) rfl ?_
    have hO := (setCell_only w.heap.size 0 (.slice none 0 0) (w := w1)).trans (setCell_only w.heap.size 1 (.slice none 0 0))
    exact ⟨_, rfl, HB1.out.trans (hO.below HB1.out.size (by intro j hj; omega)), _, _, rfl, Sl.nil _, Sl.nil _⟩

end Go.Proofs.Ytjnijhnphhpilaa
