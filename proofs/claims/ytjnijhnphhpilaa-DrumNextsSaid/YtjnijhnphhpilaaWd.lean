/- Walks: the plays of a drum (an iterator), and the first of them. -/
import Derived.Test.YtjnijhnphhpilaaPlays
import Derived.Test.YtjnijhnphhpilaaApp
import Derived.RangeFuncNested
import Derived.RangeFuncBound
import Derived.RangeFuncCalls
import Derived.Shelf.RegionOpen
import Derived.OwnWalkIn
import Derived.TacticsInMore
import Derived.LoopNIn
import Derived.LoopIn
namespace Go.Proofs.Ytjnijhnphhpilaa
open Go.RowKit Go.Shelf
attribute [local go_sem] Oper.semAt_some

def plX (f g : List Int) (k : Nat) (v : Array Value) (_ : World) : Prop := v = #[.int .i64 (playNext f g (playsF f g k))]

/-- what the iterator leans on, in a world -/
structure PlAt (w : World) (bd : Nat) (a1 a2 : Option Addr) (c1 c2 : Nat) (f g : List Int) : Prop where
  d0 : w.cell? ⟨bd, 0, none⟩ = some (.slice a1 f.length c1)
  d1 : w.cell? ⟨bd, 1, none⟩ = some (.slice a2 g.length c2)
  x1 : IntsAt w a1 f
  x2 : IntsAt w a2 g

theorem PlAt.mono {w w' : World} {bd : Nat} {a1 a2 : Option Addr} {c1 c2 : Nat} {f g : List Int} (h : PlAt w bd a1 a2 c1 c2 f g) (hB : Below w.heap.size w w') : PlAt w' bd a1 a2 c1 c2 f g :=
  ⟨cstep h.d0 hB, cstep h.d1 hB, h.x1.mono hB, h.x2.mono hB⟩

/-- S does not hold the blocks of a drum's box and lists -/
def Off (S : Nat → Prop) (bd : Nat) (a1 a2 : Option Addr) (f g : List Int) : Prop := ¬ S bd ∧ (∀ b off, a1 = some ⟨b, off, none⟩ → 0 < f.length → ¬ S b) ∧ (∀ b off, a2 = some ⟨b, off, none⟩ → 0 < g.length → ¬ S b)

theorem PlAt.only {S : Nat → Prop} {w w' : World} {bd : Nat} {a1 a2 : Option Addr} {c1 c2 : Nat} {f g : List Int} (h : PlAt w bd a1 a2 c1 c2 f g) (hB : Only S w w') (hs : Off S bd a1 a2 f g) : PlAt w' bd a1 a2 c1 c2 f g :=
  ⟨hB.cell h.d0 hs.1, hB.cell h.d1 hs.1, h.x1.only hB hs.2.1, h.x2.only hB hs.2.2⟩

set_option maxRecDepth 100000 in
set_option maxHeartbeats 2000000 in
theorem plays1_c (bd : Nat) (a1 a2 : Option Addr) (c1 c2 : Nat) (f g : List Int) (w0 : World) (S : Nat → Prop) (N : Nat)
    (hS : ∀ k, S k → k < w0.heap.size) (hat : PlAt w0 bd a1 a2 c1 c2 f g) (hoff : Off S bd a1 a2 f g) (hl : f.length = g.length) (hlen : g.length ≤ 40) (hNb : N ≤ 1000000) (hf : isBits f = true) (hg : isBits g = true) :
    Gen Try.prog 83 #[.pointer (some ⟨bd, 0, none⟩)] S (plX f g) (N + 1) N (fun _ => False) w0 := by
  intro l J Jx W hW hlW hlt hJ hJx hN hY h0
  have hatW : PlAt W bd a1 a2 c1 c2 f g := ⟨cstep hat.d0 hW, cstep hat.d1 hW, hat.x1.mono hW, hat.x2.mono hW⟩
  refine callsIn_of_wp Try.func83 rfl trivial ?_ rfl
  simp only [Try.ntmps83, List.size_toArray, List.length_cons, List.length_nil, Nat.reduceAdd, Nat.reduceSub, Array.replicate_succ, Array.replicate_zero, List.push_toArray, List.append_toArray, List.nil_append, List.cons_append]
  have hd0 := hatW.d0
  have hd1 := hatW.d1
  have hbd : bd < W.heap.size := block_lt_of_cell hd0
  have Hl := hid hl; clear hl
  have hmk := fun w => run_make_ints w g.length g.length (Nat.le_refl _) (by omega)
  have hcp := fun ty => run_copy_new ty W a2 c2 g (List.replicate g.length 0) hatW.x2 (by simp)
  have HY := hid hY; have HJ := hid hJ; have HN := hid hN; have H0 := hid h0; have HatW := hid hatW; have Hhat := hid hat
  clear hY hJ hN h0 hatW hat hJx
  gi_wp2
  gi_loopw [3, 4] (fun s n wr => ∃ (k b off cap : Nat), n = .int .i64 k ∧ s = .slice (some ⟨b, off, none⟩) g.length cap ∧ IntsAt wr (some ⟨b, off, none⟩) (lastF f g k) ∧ g.length ≤ cap ∧ l < b ∧ b < wr.heap.size ∧ J k wr ∧ PlAt wr bd a1 a2 c1 c2 f g)
    (fun _ n _ => N + 1 - (intOf n).toNat)
  case atStart =>
    have B1 : Below W.heap.size W (W.alloc (.cells (intv g).toArray 3)) := (Below.refl _ _).alloc (Nat.le_refl _) _
    exact ⟨0, W.heap.size, 0, g.length, rfl, rfl, by rw [show lastF f g 0 = g from by simp [lastF]]; exact intsAt_new W g _ 3 rfl, Nat.le_refl _, hlt, by simp, HJ.out _ _ _ H0.out B1, HatW.out.mono B1⟩
  case round =>
    obtain ⟨k, b, off, cap, rfl, rfl, hlast, hcap, hlb, hbw, hJk, hatw⟩ := hrel
    have hkN := HN.out _ _ hJk
    have hd0 := hatw.d0
    have hd1 := hatw.d1
    have Hlast := hid hlast; have HJk := hid hJk; have Hatw := hid hatw
    clear hlast hJk hatw
    have hoff' : Off (fun b => S b ∨ b = l) bd a1 a2 f g := by
      refine ⟨?_, ?_, ?_⟩
      · rintro (h | h)
        · exact hoff.1 h
        · have := block_lt_of_cell Hhat.out.d0; simp at this; omega
      · rintro b off rfl hp (h | h)
        · exact hoff.2.1 _ _ rfl hp h
        · have := Hhat.out.x1.lt hp; omega
      · rintro b off rfl hp (h | h)
        · exact hoff.2.2 _ _ rfl hp h
        · have := Hhat.out.x2.lt hp; omega
    have Hoff' := hid hoff'; clear hoff'
    by_cases hk : k < g.length
    · obtain ⟨b2, off2, rfl, hc2⟩ := Hatw.out.x2.at hk
      obtain ⟨fn, tmps, assign, body, hy, hR⟩ := HY.out k #[.int .i64 (nth g k)] wr HJk.out (by show _ = _; rw [playNext_early f g hk]) (by omega)
      gi_wp2
      refine ⟨rfl, hR.mono ?_⟩
      rintro e W3 (⟨rfl, hJ3, hO3⟩ | ⟨rfl, hJ3⟩)
      · have hat3 := Hatw.out.only hO3 Hoff'.out
        have hd0 := hat3.d0
        have hd1 := hat3.d1
        have HO3 := hid hO3; have HJ3 := hid hJ3; have Hat3 := hid hat3
        clear hO3 hJ3 hat3
        gi_wp2
        go_roundw
        case rel =>
          refine ⟨k + 1, b, off, cap, by go_num, rfl, ?_, hcap, hlb, Nat.lt_of_lt_of_le hbw HO3.out.size, HJ3.out, Hat3.out⟩
          rw [lastF_early f g hk]
          refine Hlast.out.only HO3.out fun b' off' e _ h => ?_
          cases e
          rcases h with h | h
          · have := hS _ h; omega
          · omega
        case measure => simp [intOf]; omega
      · gi_wp2
        refine bodyPost_ret (results_none rfl _ _ _) rfl ?_
        exact ⟨⟨_, rfl⟩, .inr ⟨_, hJ3⟩⟩
    · have hk' : ¬ k < g.length := hk
      gi_wp2
      gi_loop [5, 6, 7, 31] (fun p _ _ i => ∃ j : Nat, j ≤ f.length ∧ i = .int .i64 j ∧ p = .int .i64 (linTo f (lastF f g k) j)) (fun _ _ _ i => f.length - (intOf i).toNat)
      case atStart => exact ⟨0, Nat.zero_le _, rfl, rfl⟩
      case round =>
        obtain ⟨j, hj, rfl, rfl⟩ := hrel
        by_cases hjl : j < f.length
        · obtain ⟨b2, off2, rfl, hc2⟩ := Hatw.out.x1.at hjl
          have hjg : j < g.length := by have := Hl.out; omega
          have hc := Hlast.out.cell (k := g.length - 1 - j) (by rw [lastF_length]; omega)
          have hb1 := isBits_nth hf j
          have hb2 := isBits_nth (lastF_bits (f := f) hg k) (g.length - 1 - j)
          have hstep : bits .xor .i64 (linTo f (lastF f g k) j) (bits .and .i64 (nth f j) (nth (lastF f g k) (g.length - 1 - j))) = linTo f (lastF f g k) (j + 1) := by
            rw [and_bit hb1 hb2, xor_bit (linTo_bit _ _ _) (mul_bit hb1 hb2), linTo, lastF_length]
          have Hstep := hid hstep; clear hstep hb1 hb2
          gi_wp2
          go_round
          case rel => exact ⟨j + 1, by omega, by go_num, by rw [Hstep.out]⟩
          case measure => simp [intOf]; omega
        · obtain rfl : j = f.length := by omega
          have hpl := playNext_late f g (n := k) Hl.out (by omega)
          rw [← hpl]
          clear hpl
          obtain ⟨p, hp⟩ : ∃ p, p = playNext f g (playsF f g k) := ⟨_, rfl⟩
          rw [← hp]
          have Hp := hid hp; clear hp
          have B0 : Below wr.heap.size wr (wr.alloc (.cells #[.int .i64 p] 3)) := (Below.refl _ _).alloc (Nat.le_refl _) _
          have HB0 := hid B0; clear B0
          gi_wp2_with (gi_at_builtin; refine wpListIn_app_full _ rfl _ _ rfl _ _ _ (lastF f g k) (lastF_length f g k) rfl ?c1 ?c2 _ p rfl ?c3 ?c4 ?c5 ?c6; rotate_right; (intro b' cap' w' hB' hb' hat' hcap'; refine Hid.out ?_))
          case c1 => exact Hlast.out.mono HB0.out
          case c5 => omega
          case c6 =>
          refine hid ?_
          have hbw2 : wr.heap.size + 1 ≤ w'.heap.size := by have := hB'.size; simpa using this
          have hb2 : wr.heap.size + 1 ≤ b' := by simpa using hb'
          have B2 := bstep HB0.out hB'
          have hat2 := Hatw.out.mono B2
          have hd0' := hat2.d0
          have hd1' := hat2.d1
          obtain ⟨fn, tmps, assign, body, hy, hR⟩ := HY.out k #[.int .i64 p] w' (HJ.out _ _ _ HJk.out B2) (by show _ = _; rw [← Hp.out]) (by omega)
          have Hat' := hid hat'; have HR := hid hR; have Hat2 := hid hat2
          clear hat' hB' hR hat2 B2
          gi_wp2
          refine ⟨rfl, HR.out.mono ?_⟩
          rintro e W3 (⟨rfl, hJ3, hO3⟩ | ⟨rfl, hJ3⟩)
          · have hat3 := Hat2.out.only hO3 Hoff'.out
            have hl3 := Hat'.out.only hO3 (fun b3 off3 e _ h => by
              cases e
              rcases h with h | h
              · have := hS _ h; omega
              · omega)
            have hsz3 := hO3.size
            have hd0'' := hat3.d0
            have hd1'' := hat3.d1
            have HJ3 := hid hJ3; have Hat3 := hid hat3; have Hl3 := hid hl3
            clear hO3 hJ3 hat3 hl3
            have hlt3 : b' < W3.heap.size := Hl3.out.lt (by simp)
            have hrel3 : ∀ o, (o = if cap' = 1 then (some ⟨b', 0, none⟩ : Option Addr) else some ⟨b', 1, none⟩) → ∃ off, o = some ⟨b', off, none⟩ ∧ IntsAt W3 (some ⟨b', off, none⟩) (lastF f g (k + 1)) := by
              rintro o rfl
              by_cases hc1 : cap' = 1
              · refine ⟨0, by rw [if_pos hc1], .inl (List.eq_nil_of_length_eq_zero ?_)⟩
                rw [lastF_length]; omega
              · refine ⟨1, by rw [if_neg hc1], ?_⟩
                rw [← lastF_late f g (by omega), ← Hp.out]
                exact Hl3.out.drop 1
            have Hrel3 := hid hrel3; clear hrel3
            gi_wp2
            go_roundw
            case rel =>
              obtain ⟨o3, ho3⟩ : ∃ o3, o3 = if cap' = 1 then (some ⟨b', 0, none⟩ : Option Addr) else some ⟨b', 1, none⟩ := ⟨_, rfl⟩
              rw [← ho3]
              obtain ⟨off3, he3, hat3⟩ := Hrel3.out _ ho3
              subst he3
              exact ⟨k + 1, b', off3, cap' - 1, by go_num, rfl, hat3, by omega, by omega, hlt3, HJ3.out, Hat3.out⟩
            case measure => simp [intOf]; omega
          · gi_wp2
            refine bodyPost_ret (results_none rfl _ _ _) rfl ?_
            exact ⟨⟨_, rfl⟩, .inr ⟨_, hJ3⟩⟩

end Go.Proofs.Ytjnijhnphhpilaa
