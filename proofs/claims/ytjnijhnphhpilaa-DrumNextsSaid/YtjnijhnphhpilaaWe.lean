/- Walks: the first plays of a drum (drum.run). -/
import Derived.Test.YtjnijhnphhpilaaWd
namespace Go.Proofs.Ytjnijhnphhpilaa
open Go.RowKit Go.Shelf
attribute [local go_sem] Oper.semAt_some

theorem enters83 : ∀ args w, (callFunc 83 args).run Try.prog w = .ok (.enter 83 args) w := enters_of Try.func83 (by kernel_rfl) rfl

set_option maxHeartbeats 400000 in
theorem plays_c (v : Value) (w : World) (v1 v2 : Value) (hv : v = .agg #[v1, v2]) (_h1 : v1.oneCell' = true) (_h2 : v2.oneCell' = true) :
    Calls Try.prog 78 #[v] w fun e w' => e = .returned (.func (.func 83) #[] #[.pointer (some ⟨w.heap.size, 0, none⟩)]) ∧ w.alloc (.cells #[v1, v2] 24) = w' := by
  subst hv
  go_enter Try.func78, Try.ntmps78
  go_wp2
  go_ret
  exact ⟨rfl, rfl⟩

/-- a new slice of ints of the call's own -/
def NewInts (B : Nat) (w : World) (xs : List Int) (v : Value) : Prop := ∃ b cap, v = .slice (some ⟨b, 0, none⟩) xs.length cap ∧ w.ownsRow B 3 1 v xs.length (intv xs)

def RunP (w : World) (xs : List Int) (e : Ending) (w' : World) : Prop := ∃ v, e = .returned v ∧ NewInts w.heap.size w' xs v ∧ Below w.heap.size w w'

structure RunI (w : World) (many : Nat) (a1 a2 : Option Addr) (c1 c2 : Nat) (f g : List Int) (k : Nat) (W : World) : Prop where
  le : k ≤ many
  out : W.cell? ⟨w.heap.size + 3, 0, none⟩ = some (.slice (some ⟨w.heap.size + 2, 0, none⟩) k many)
  free : W.frozen? ⟨w.heap.size + 3, 0, none⟩ = false
  mn : W.cell? ⟨w.heap.size + 1, 0, none⟩ = some (.int .i64 many)
  own : W.ownsRow w.heap.size 3 1 (.slice (some ⟨w.heap.size + 2, 0, none⟩) k many) k (intv (playsF f g k))
  below : Below w.heap.size w W

theorem RunI.only {w : World} {many : Nat} {a1 a2 : Option Addr} {c1 c2 : Nat} {f g : List Int} {k : Nat} {W W' : World} (h : RunI w many a1 a2 c1 c2 f g k W) {l : Nat} (ho : Only (fun b => b = l) W W') (hl : w.heap.size + 3 < l) :
    RunI w many a1 a2 c1 c2 f g k W' := by
  refine ⟨h.le, ho.cell h.out (by simp; omega), ?_, ho.cell h.mn (by simp; omega), ?_, h.below.trans (ho.below h.below.size (by intro j hj; omega))⟩
  · exact (World.frozen?_of_block (ho.block _ (block_lt_of_cell h.out) (by simp; omega))).trans h.free
  · obtain ⟨hn, (⟨e, _⟩ | ⟨g', cap, cur, e, hge, hh, hr⟩)⟩ := h.own
    · cases e
    · cases e
      exact ⟨hn, .inr ⟨_, _, cur, rfl, hge, (ho.block _ (Array.getElem?_eq_some_iff.1 hh).1 (by omega)).trans hh, hr⟩⟩

set_option maxRecDepth 100000 in
set_option maxHeartbeats 2000000 in
theorem run_c (a1 a2 : Option Addr) (c1 c2 many : Nat) (f g : List Int) (w : World) (hx : IntsAt w a1 f) (hy : IntsAt w a2 g) (hl : f.length = g.length) (hlen : g.length ≤ 40) (hNb : many ≤ 1000) (hf : isBits f = true) (hg : isBits g = true) :
    Calls Try.prog 58 #[.agg #[.slice a1 f.length c1, .slice a2 g.length c2], .int .i64 many] w (RunP w (playsF f g many)) := by
  refine callsIn_wide.1 (callsIn_of_wp_marks (n := 0) Try.func58 rfl trivial ?_ rfl)
  simp only [Try.ntmps58, List.size_toArray, List.length_cons, List.length_nil, Nat.reduceAdd, Nat.reduceSub, Array.replicate_succ, Array.replicate_zero, List.push_toArray, List.append_toArray, List.nil_append, List.cons_append]
  have Hl := hid hl; clear hl
  have hmk : ∀ w, (Instr.makeSlice 22 (.int .i64 0) (.int .i64 many)).run Try.prog w = .ok (.slice (some ⟨w.heap.size, 0, none⟩) 0 many) (w.alloc (.cells (intv (List.replicate many 0)).toArray 3)) := fun w => run_make_ints w 0 many (by omega) (by omega)
  gi_wp2
  refine ⟨trivial, rfl, (callsIn_wide.2 (plays_c _ _ (.slice a1 f.length c1) (.slice a2 g.length c2) rfl rfl rfl)).mono ?_⟩
  rintro e w1 ⟨rfl, rfl⟩
  gi_wp2
  obtain ⟨W5, hW5⟩ : ∃ W5, W5 = ((((w.alloc (.cells #[.slice a1 f.length c1, .slice a2 g.length c2] 24)).alloc (.cells #[.int .i64 many] 3)).alloc (.cells (intv (List.replicate many 0)).toArray 3)).alloc (.cells #[.slice (some ⟨w.heap.size + 2, 0, none⟩) 0 many] 22)).alloc (.cells #[.slice a1 f.length c1, .slice a2 g.length c2] 24) := ⟨_, rfl⟩
  rw [← hW5]
  have hs5 : W5.heap.size = w.heap.size + 5 := by rw [hW5]; simp
  have hB5 : Below w.heap.size w W5 := by
    rw [hW5]; exact (((((Below.refl _ _).alloc (Nat.le_refl _) _).alloc (by simp) _).alloc (by simp; omega) _).alloc (by simp; omega) _).alloc (by simp; omega) _
  have hp5 : PlAt W5 (w.heap.size + 4) a1 a2 c1 c2 f g := by
    refine ⟨?_, ?_, hx.mono hB5, hy.mono hB5⟩ <;> rw [hW5] <;> simp [go_sem]
  have hI5 : RunI w many a1 a2 c1 c2 f g 0 W5 := by
    refine ⟨Nat.zero_le _, ?_, ?_, ?_, ?_, hB5⟩
    · rw [hW5]; simp [go_sem]
    · rw [hW5]; simp [go_sem]
    · rw [hW5]; simp [go_sem]
    · rw [hW5]
      have h := World.ownsRow_made (base := w.heap.size) (e := 3) (size := 1) ((w.alloc (.cells #[.slice a1 f.length c1, .slice a2 g.length c2] 24)).alloc (.cells #[.int .i64 many] 3)) (intv (List.replicate many 0)).toArray many (by simp; omega) (by unfold maxLen; omega) (by simp [intv])
      have h2 := (h.alloc (.cells #[.slice (some ⟨w.heap.size + 2, 0, none⟩) 0 many] 22)).alloc (.cells #[.slice a1 f.length c1, .slice a2 g.length c2] 24)
      simp only [World.size_alloc, Nat.add_assoc, Nat.reduceAdd] at h2
      exact h2
  have HW5 := hid hW5; clear hW5
  refine range_law (S := fun k => k = w.heap.size + 2 ∨ k = w.heap.size + 3) (L := many + 1) (N := many) (X := plX f g) (Done := fun _ => False) rfl enters83
    (plays1_c (w.heap.size + 4) a1 a2 c1 c2 f g W5 _ many (by intro k hk; omega) hp5 ?off Hl.out hlen (by omega) hf hg) ?hS ?hps ?hX (RunI w many a1 a2 c1 c2 f g)
    (fun c _ W => c = .exit 0 ∧ RunI w many a1 a2 c1 c2 f g many W) ?hI ?hIx (fun k W h => h.le) hI5 (fun v => { tmps := #[.agg #[.slice a1 f.length c1, .slice a2 g.length c2], .int .i64 many, .pointer (some ⟨w.heap.size, 0, none⟩), .pointer (some ⟨w.heap.size + 1, 0, none⟩), .slice none 0 0, .pointer (some ⟨w.heap.size + 3, 0, none⟩), v.getD 0 undef, .int .i64 many, .slice (some ⟨w.heap.size + 2, 0, none⟩) 0 many, .agg #[.slice a1 f.length c1, .slice a2 g.length c2], .func (.func 83) #[] #[.pointer (some ⟨w.heap.size + 4, 0, none⟩)], v.getD 0 undef, undef, undef, undef, undef, undef, undef, undef, undef, undef], defers := [] }) ?assign ?body ?done ?stop
  case off =>
    refine ⟨by simp, fun b off e hp => ?_, fun b off e hp => ?_⟩
    · subst e; have := hx.lt hp; omega
    · subst e; have := hy.lt hp; omega
  case hS => rw [hs5]; constructor <;> omega
  case hps => intro k v W hv; rw [hv]; rfl
  case hX => intro k v W W' hv _; exact hv
  case hI =>
    intro k W W' h ho
    exact h.only ho (by rw [hs5]; omega)
  case hIx =>
    rintro c k W W' ⟨rfl, h⟩ ho
    exact ⟨rfl, h.only ho (by rw [hs5]; omega)⟩
  case assign =>
    intro l k v W K hx hK
    have e : v = #[.int .i64 (playNext f g (playsF f g k))] := hx
    subst e
    gi_wp2
    exact hK
  case body =>
    intro k v W hW hI hX _
    rw [hX]
    have hout := hI.out; have hfree := hI.free; have hmn := hI.mn; have hle := hI.le
    have HI := hid hI; clear hI hX
    by_cases hk : k = many
    · have hkb : ((k : Int) == (many : Int)) = true := by simp [hk]
      have Hk := hid hk; clear hk
      gi_wp2
      refine ⟨Only.refl _ _, rfl, ?_⟩
      have h := HI.out
      rw [Hk.out] at h
      exact h
    · have hkb : ((k : Int) == (many : Int)) = false := by simp; omega
      have hown := HI.out.own.alloc (.cells #[.int .i64 (playNext f g (playsF f g k))] 3)
      have Hown := hid hown; clear hown
      have hlW : w.heap.size + 3 < W.heap.size := by omega
      obtain ⟨i0, hi, _, hsz, _⟩ := info_parts info3
      have Hi := hid hi; have Hsz := hid hsz; clear hi hsz
      gi_wp2_with (gi_at_builtin; refine wpListIn_append_fits _ rfl _ _ _ rfl w.heap.size 3 i0 1 Try.underlying22 Hi.out Hsz.out _ _ _ (intv (playsF f g k)) rfl Hown.out _ 1 1 [.int .i64 (playNext f g (playsF f g k))] rfl rfl ?c1 ?c2 ?c3 ?c4; rotate_right; (intro w2 hw2 hg2; refine Hid.out ?_))
      case c1 => exact cell_one_new _ _ _
      case c2 => intro u hu; simp at hu; subst hu; rfl
      case c3 => omega
      case c4 =>
        refine hid ?_
        have ho : Only (fun k => k = w.heap.size + 2) W w2 :=
          (Only.refl _ W |>.alloc (.cells #[.int .i64 (playNext f g (playsF f g k))] 3)).trans ⟨hg2.os, hg2.tape, hg2.output, hg2.size, fun j hj hs => hg2.block j hj (by intro e; simp at e; exact hs e)⟩
        have hout2 := ho.cell HI.out.out (by simp)
        have hfr2 : w2.frozen? ⟨w.heap.size + 3, 0, none⟩ = false := (World.frozen?_of_block (ho.block _ (by omega) (by simp))).trans HI.out.free
        have hmn2 := ho.cell HI.out.mn (by simp)
        have hsz2 := ho.size
        have Hw2 := hid hw2; have Ho := hid ho
        clear hw2 ho hg2 hout hfree hmn
        gi_wp2
        refine ⟨(Ho.out.mono (fun _ h => .inl h)).setCell (.inr rfl) _, ?_⟩
        refine ⟨by omega, ?_, ?_, ?_, ?_, ?_⟩
        · simp [go_sem, hout2]
        · simp [go_sem, hfr2]
        · simp [go_sem, hmn2]
        · have h := ownsRow_setCell_other (a := ⟨w.heap.size + 3, 0, none⟩) Hw2.out (by simp [Value.ownBlock]) (.slice (some ⟨w.heap.size + 2, 0, none⟩) (k + 1) many)
          rw [playsF, intv_append]
          exact h
        · exact (HI.out.below.trans (Ho.out.below HI.out.below.size (by intro j hj; omega))).setCell (by simp) _
  case done => intro k W h; exact h.elim
  case stop =>
    rintro c k W ⟨rfl, hI⟩ hD
    have hout := hI.out
    have HI := hid hI; clear hI
    gi_wp2
    refine ⟨by simp, .inl ⟨_, _, rfl, run_takeDeferred hD, ?_⟩⟩
    have h2 := HI.out.only (Only.put1 W W5.heap.size (.deferred none)) (by rw [hs5]; omega)
    refine ⟨_, results_tmp rfl _ _ _, ⟨_, rfl, ⟨w.heap.size + 2, many, by rw [playsF_length]; rfl, ?_⟩, h2.below⟩⟩
    rw [playsF_length]
    exact h2.own

end Go.Proofs.Ytjnijhnphhpilaa
