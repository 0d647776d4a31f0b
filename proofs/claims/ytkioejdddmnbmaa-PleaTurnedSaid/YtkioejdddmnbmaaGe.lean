/- Walks: Listed, list, All, Truths. Walks: Truths; Least, Count, factError, Verdict of the reference. Walks: Verdict, Known, StepsError, ClashError of the reference. Walks: the truths of a desk (an iterator), Count. Walks: Clone, Least of the program. Walk: Verdict of the program. Walks: Index, Contains; CheckSteps of the program. Walk: CheckSteps of the reference. -/
import Derived.Test.YtkioejdddmnbmaaGc
import Derived.Test.YtkioejdddmnbmaaGa
import Derived.ChangeKeysEq
import Derived.Test.YtkioejdddmnbmaaGd
import Derived.RangeFuncNested
import Derived.RangeFuncBound
import Derived.RangeFuncCalls
import Derived.Shelf.RegionOpen
import Derived.OwnWalkIn
import Derived.TacticsInMore
import Derived.LoopNIn
import Derived.LoopIn
import Derived.Laws.Cover3
namespace Go.Proofs.Ytkioejdddmnbmaa
open Go.RowKit Go.Shelf
attribute [local go_sem ↓] wp_get wp_get0 wp_getS wp78 wps78 wpa78

/-- the numbers below k that are chosen -/
def selTo (p : Nat → Bool) : Nat → List Int
  | 0 => []
  | k + 1 => if p k = true then selTo p k ++ [(k : Int)] else selTo p k
theorem selTo_length (p : Nat → Bool) : ∀ k, (selTo p k).length ≤ k
  | 0 => Nat.le_refl _
  | k + 1 => by
    have := selTo_length p k
    rw [selTo]
    split
    · rw [List.length_append]; show _ + 1 ≤ _; omega
    · omega
def listedB (b n : Nat) : List Int := selTo (fun k => b.testBit k) n
def listM (m : List Int) : List Int := selTo (fun k => decide (0 < nth m k)) 12
def truthsL (facts : Nat) (seen : List Int) (rs : List Rl) : List Int := selTo (truthB seen rs) (2 ^ facts)

set_option maxRecDepth 100000 in
set_option maxHeartbeats 2000000 in
theorem listed_c (b n : Nat) (w : World) (hn : n ≤ 40) (hb : b < 2 ^ 62) : Calls Try.prog 45 #[.int .i64 b, .int .i64 n] w (OwnP w (listedB b n)) := by
  have Hb := hid hb
  clear hb
  go_enter Try.func45, Try.ntmps45
  go_wp2
  go_loopw [5, 6] (fun o i wr => ∃ (k : Nat) (ao : Option Addr) (cap : Nat), k ≤ n ∧ i = .int .i64 k ∧ o = .slice ao (selTo (fun k => b.testBit k) k).length cap ∧ OwnI w.heap.size wr ao (selTo (fun k => b.testBit k) k).length cap (selTo (fun k => b.testBit k) k) ∧ Below w.heap.size w wr) (fun _ i _ => n - (intOf i).toNat)
  case atStart => exact ⟨0, none, 0, Nat.zero_le _, rfl, rfl, OwnI.nil _ _, Below.refl _ _⟩
  case round =>
    obtain ⟨k, ao, cap, hk, rfl, rfl, hown, hB⟩ := hrel
    obtain ⟨wo, rfl⟩ : ∃ wo : World, wo = wr := ⟨_, rfl⟩
    have hlen := selTo_length (fun k => b.testBit k) k
    by_cases hlt : k < n
    · have ht : selTo (fun k => b.testBit k) (k + 1) = if b.testBit k = true then selTo (fun k => b.testBit k) k ++ [(k : Int)] else selTo (fun k => b.testBit k) k := rfl
      have hbit := bits_one_i64 (a := b) Hb.out k
      have hk64 : (k : Int) < 64 := by omega
      obtain ⟨l, hl⟩ : ∃ l, l = selTo (fun k => b.testBit k) k := ⟨_, rfl⟩
      rw [← hl] at ht hown hlen ⊢
      have Hown := hid hown; have HB := hid hB
      clear hown hB hl
      cases htb : b.testBit k with
      | true =>
        rw [htb, if_pos rfl] at ht
        rw [htb] at hbit
        simp only [if_true] at hbit
        have Ht := hid ht
        clear ht htb
        go_wp2_with (at_builtin; refine wpList_app_own _ rfl _ _ rfl w.heap.size ao l.length cap l rfl ?c1 _ (k : Int) rfl ?c2 ?c3 ?c4 ?c5; rotate_right; (intro b' cap' w' hB' hb' hown' hgr'; refine Hid.out ?_))
        case c1 => exact Hown.out.alloc _
        case c2 => simp
        case c3 => omega
        case c4 => have := HB.out.size; simp; omega
        case c5 =>
          refine hid ?_
          have Hown' := hid hown'
          have HB' := hid (HB.out.trans (((bnew wo (.cells #[.int .i64 k] 3)).mono HB.out.size).trans hB'))
          clear hown' hB' hgr' hbit
          go_wp2
          go_roundw
          case rel => exact ⟨k + 1, some ⟨b', 0, none⟩, cap', by omega, by go_num, by rw [Ht.out, List.length_append]; rfl, by rw [Ht.out, List.length_append]; exact Hown'.out, HB'.out⟩
          case measure => simp [intOf]; omega
      | false =>
        rw [htb, if_neg (by simp)] at ht
        rw [htb] at hbit
        simp only [Bool.false_eq_true, if_false] at hbit
        have Ht := hid ht
        clear ht htb
        go_wp2
        go_roundw
        case rel => exact ⟨k + 1, ao, cap, by omega, by go_num, by rw [Ht.out], by rw [Ht.out]; exact Hown.out, HB.out⟩
        case measure => simp [intOf]; omega
    · obtain rfl : k = n := by omega
      go_wp2
      go_ret
      exact ⟨ao, cap, rfl, hown.at, fun h => (hown.none h).2, hB⟩

set_option maxRecDepth 100000 in
set_option maxHeartbeats 2000000 in
theorem all_c (a : Option Addr) (cap : Nat) (l : List Nat) (w : World) (hx : IntsAt w a (l.map (fun n : Nat => (n : Int)))) (hl : l.length ≤ 1000000) (hb : ∀ x ∈ l, x < 2 ^ 12) :
    Calls Try.prog 67 #[.slice a l.length cap] w fun e w' => e = .returned (.int .i64 (l.foldl (· &&& ·) 4095 : Nat)) ∧ w' = w := by
  have Hx := hid hx; have Hb := hid hb
  clear hx hb
  have hlt : ∀ k, (l.take k).foldl (· &&& ·) 4095 < 2 ^ 12 := by
    have key : ∀ (l : List Nat) (a : Nat), a < 2 ^ 12 → l.foldl (· &&& ·) a < 2 ^ 12 := by
      intro l
      induction l with
      | nil => intro a h; exact h
      | cons x l ih => intro a h; exact ih _ (Nat.lt_of_le_of_lt Nat.and_le_left h)
    exact fun k => key _ _ (by decide)
  have Hlt := hid hlt
  clear hlt
  go_enter Try.func67, Try.ntmps67
  go_wp2
  go_loop [3, 4] (fun o i => ∃ k : Nat, k ≤ l.length ∧ i = .int .i64 k ∧ o = .int .i64 ((l.take k).foldl (· &&& ·) 4095 : Nat)) (fun _ i => l.length - (intOf i).toNat)
  case atStart => exact ⟨0, Nat.zero_le _, rfl, rfl⟩
  case round =>
    obtain ⟨k, hk, rfl, rfl⟩ := hrel
    by_cases hlt : k < l.length
    · obtain ⟨b, off, rfl, hc⟩ := Hx.out.at (k := k) (by simpa using hlt)
      have e : nth (l.map (fun n : Nat => (n : Int))) k = (l[k] : Int) := by rw [nth_eq (by simpa using hlt)]; simp
      rw [e] at hc
      have ht : (l.take (k + 1)).foldl (· &&& ·) 4095 = (l.take k).foldl (· &&& ·) 4095 &&& l[k] := by
        rw [List.take_succ_eq_append_getElem hlt, List.foldl_append]; rfl
      have hand := bits_and_i64 (a := (l.take k).foldl (· &&& ·) 4095) (b := l[k]) (by have := Hlt.out k; omega) (by have := Hb.out _ (List.getElem_mem hlt); omega)
      obtain ⟨x, hx⟩ : ∃ x, x = l[k] := ⟨_, rfl⟩
      obtain ⟨y, hy⟩ : ∃ y, y = (l.take k).foldl (· &&& ·) 4095 := ⟨_, rfl⟩
      rw [← hx, ← hy] at ht hand
      rw [← hx] at hc
      rw [← hy]
      have Ht := hid ht
      clear e hx hy ht
      go_wp2
      go_round
      case rel => exact ⟨k + 1, by omega, by go_num, by rw [Ht.out]⟩
      case measure => simp [intOf]; omega
    · obtain rfl : k = l.length := by omega
      go_wp2
      go_ret
      exact ⟨rfl, rfl⟩

theorem run_index78 (V : Array Value) (k : Nat) (v : Int) (hk : k < 12) (h : V[k]? = some (.int .i64 v)) (w : World) : (Instr.index 78 (.agg V) (.int .i64 k)).run Try.prog w = .ok (.int .i64 v) w := by
  obtain ⟨i, hi, _, hs, _⟩ := info_parts info3
  have hc : Try.prog.cellsOf 3 = 1 := by kernel_rfl
  have h1 : (k : Int) < 12 := by omega
  simp [Instr.index, asIntOf, run_underlying Try.underlying78, run_underlying Try.underlying3, part, isAgg, run_sizeOf w hi, hc, hk, h]

set_option maxRecDepth 100000 in
set_option maxHeartbeats 2000000 in
theorem list_c (m : List Int) (w : World) (hm : m.length = 12) : Calls Try.prog 65 #[.agg (intv m).toArray] w (OwnP w (listM m)) := by
  obtain ⟨V, hV⟩ : ∃ V, V = (intv m).toArray := ⟨_, rfl⟩
  have hh := heap_alloc_new w (.cells V 78)
  have o1 : partOk (w.alloc (.cells V 78)) w.heap.size 0 12 = true := partOk_of hh (by rw [hV]; simp [intv_length, hm])
  have p1 : partAt (w.alloc (.cells V 78)) w.heap.size 0 12 = V := by
    rw [partAt_of hh, show 0 + 12 = V.size from by rw [hV]; simp [intv_length, hm]]
    exact Array.extract_size
  have hget : ∀ (k : Nat), k < 12 → ∀ w', (Instr.index 78 (.agg V) (.int .i64 k)).run Try.prog w' = .ok (.int .i64 (nth m k)) w' := fun k hk w' => run_index78 V k _ hk (by rw [hV, List.getElem?_toArray, intv_get, if_pos (by omega)]) w'
  have hsz : V.size = 12 := by rw [hV]; simp [intv_length, hm]
  rw [← hV]
  have Hget := hid hget; have Hm := hid hm; have Hsz := hid hsz
  have hlm : listM m = selTo (fun k => decide (0 < nth m k)) 12 := rfl
  have Hlm := hid hlm
  unfold OwnP
  rw [hlm]
  have HB0 := hid (bnew w (.cells V 78))
  clear hV hh hget hm hlm hsz
  go_enter Try.func65, Try.ntmps65
  go_wp2
  go_loopw [3, 7] (fun o i wr => ∃ (k : Nat) (ao : Option Addr) (cap : Nat), k ≤ 12 ∧ i = .int .i64 k ∧ o = .slice ao (selTo (fun k => decide (0 < nth m k)) k).length cap ∧ IntsAt wr ao (selTo (fun k => decide (0 < nth m k)) k) ∧ (selTo (fun k => decide (0 < nth m k)) k).length ≤ cap ∧ ((ao = none ∧ cap = 0 ∧ (selTo (fun k => decide (0 < nth m k)) k).length = 0) ∨ ∃ b, ao = some ⟨b, 0, none⟩) ∧ Below w.heap.size w wr) (fun _ i _ => 12 - (intOf i).toNat)
  case atStart => exact ⟨0, none, 0, Nat.zero_le _, rfl, rfl, IntsAt.nil _ _, Nat.le_refl _, .inl ⟨rfl, rfl, rfl⟩, HB0.out⟩
  case round =>
    obtain ⟨k, ao, cap, hk, rfl, rfl, hat, hcp, hnil, hB⟩ := hrel
    obtain ⟨wo, rfl⟩ : ∃ wo : World, wo = wr := ⟨_, rfl⟩
    have hlen := selTo_length (fun k => decide (0 < nth m k)) k
    by_cases hlt : k < 12
    · have ht : selTo (fun k => decide (0 < nth m k)) (k + 1) = if decide (0 < nth m k) = true then selTo (fun k => decide (0 < nth m k)) k ++ [(k : Int)] else selTo (fun k => decide (0 < nth m k)) k := rfl
      have hg := Hget.out k hlt
      obtain ⟨v, hv⟩ : ∃ v, v = nth m k := ⟨_, rfl⟩
      rw [← hv] at hg ht
      obtain ⟨l, hl⟩ : ∃ l, l = selTo (fun k => decide (0 < nth m k)) k := ⟨_, rfl⟩
      rw [← hl] at ht hat hlen hnil hcp ⊢
      have Hat := hid hat; have HB := hid hB; have Hnil := hid hnil
      clear hat hB hl hv hnil
      by_cases h0 : 0 < v
      · rw [decide_eq_true h0, if_pos rfl] at ht
        have Ht := hid ht
        clear ht
        have hHo := fun v => Hat.out.mono (bnew wo v)
        have HHo := hid hHo
        clear hHo
        rcases Hnil.out with ⟨rfl, hc0, hl0⟩ | ⟨b0, rfl⟩
        · obtain rfl : l = [] := List.eq_nil_of_length_eq_zero hl0
          subst hc0
          go_wp2_with (at_builtin; refine wpList_app_full _ rfl _ _ rfl none 0 0 [] rfl rfl ?c1 ?c2 _ (k : Int) rfl ?c3 ?c4 ?c5 ?c6; rotate_right; (intro b' cap' w' hB' hb' hat' hcap'; refine Hid.out ?_))
          case c1 => exact IntsAt.nil _ _
          case c6 =>
            refine hid ?_
            have Hat' := hid hat'
            have HB' := hid (bstep HB.out (bstep (bnew wo (.cells #[.int .i64 k] 3)) hB'))
            clear hat' hB'
            go_wp2
            go_roundw
            case rel => exact ⟨k + 1, some ⟨b', 0, none⟩, cap', by omega, by go_num, by rw [Ht.out]; rfl, by rw [Ht.out]; exact Hat'.out, by rw [Ht.out]; simpa using hcap', Or.inr ⟨_, rfl⟩, HB'.out⟩
            case measure => simp [intOf]; omega
        · go_wp2_with (at_builtin; refine wpList_app_full _ rfl _ _ rfl (some ⟨b0, 0, none⟩) l.length l.length l rfl rfl ?d1 ?d2 _ (k : Int) rfl ?d3 ?d4 ?d5 ?d6; rotate_right; (intro b' cap' w' hB' hb' hat' hcap'; refine Hid.out ?_))
          case d1 => exact HHo.out _
          case d2 => exact fun h => by cases h
          case d3 => simp
          case d4 => omega
          case d5 => omega
          case d6 =>
            refine hid ?_
            have Hat' := hid hat'
            have HB' := hid (bstep HB.out (bstep (bnew wo (.cells #[.int .i64 k] 3)) hB'))
            clear hat' hB'
            go_wp2
            go_roundw
            case rel => exact ⟨k + 1, some ⟨b', 0, none⟩, cap', by omega, by go_num, by rw [Ht.out, List.length_append]; rfl, by rw [Ht.out]; exact Hat'.out, by rw [Ht.out, List.length_append]; exact hcap', Or.inr ⟨_, rfl⟩, HB'.out⟩
            case measure => simp [intOf]; omega
      · rw [decide_eq_false h0, if_neg (by simp)] at ht
        have Ht := hid ht
        clear ht
        go_wp2
        go_roundw
        case rel => exact ⟨k + 1, ao, cap, by omega, by go_num, by rw [Ht.out], by rw [Ht.out]; exact Hat.out, by rw [Ht.out]; exact hcp, by rw [Ht.out]; exact Hnil.out, HB.out⟩
        case measure => simp [intOf]; omega
    · obtain rfl : k = 12 := by omega
      go_wp2
      go_ret
      exact ⟨ao, cap, rfl, hat, fun h => by { rcases hnil with ⟨_, h1, _⟩ | ⟨_, h2⟩; exact h1; rw [h2] at h; cases h }, hB⟩

end Go.Proofs.Ytkioejdddmnbmaa

namespace Go.Proofs.Ytkioejdddmnbmaa
open Go.RowKit Go.Shelf
attribute [local go_sem ↓] wp_get wp_get0 wp_getS wp78 wps78 wpa78

theorem selTo_eq (p : Nat → Bool) : ∀ k, selTo p k = ((List.range k).filter p).map (fun n : Nat => (n : Int))
  | 0 => rfl
  | k + 1 => by
    rw [selTo, List.range_succ, List.filter_append, List.map_append, ← selTo_eq p k]
    cases h : p k
    · rw [if_neg (by simp)]; simp [h]
    · rw [if_pos rfl]; simp [h]
def truthsN (facts : Nat) (seen : List Int) (rs : List Rl) : List Nat := (List.range (2 ^ facts)).filter (truthB seen rs)
theorem truthsL_eq (facts : Nat) (seen : List Int) (rs : List Rl) : truthsL facts seen rs = (truthsN facts seen rs).map (fun n : Nat => (n : Int)) := selTo_eq _ _
theorem truthsN_lt {facts : Nat} {seen : List Int} {rs : List Rl} {x : Nat} (h : x ∈ truthsN facts seen rs) : x < 2 ^ facts := List.mem_range.1 (List.mem_filter.1 h).1
theorem pow_le {f : Nat} (h : f ≤ 12) : 2 ^ f ≤ 4096 := Nat.pow_le_pow_right (by omega) h
theorem truthsL_length (facts : Nat) (seen : List Int) (rs : List Rl) : (truthsL facts seen rs).length = (truthsN facts seen rs).length := by rw [truthsL_eq, List.length_map]
theorem truthsN_length {facts : Nat} (h : facts ≤ 12) (seen : List Int) (rs : List Rl) : (truthsN facts seen rs).length ≤ 4096 := by
  rw [← truthsL_length]
  exact Nat.le_trans (selTo_length _ _) (pow_le h)

theorem shl_one {f : Nat} (h : f ≤ 12) : IntKind.i64.wrap (2 ^ f) = ((2 ^ f : Nat) : Int) := by
  have := wrap_i64_nat (a := 2 ^ f) (by have := pow_le h; omega)
  rw [← this]; simp

set_option maxRecDepth 100000 in
set_option maxHeartbeats 2000000 in
theorem truths_c (sa ra : Option Addr) (sc rc f : Nat) (seen : List Int) (rs : List Rl) (w : World) (hc : CaseAt w sa ra seen rs) (hf : f ≤ 12) (hsf : factsOk seen) (hro : rulesOk rs) :
    Calls Try.prog 66 #[.agg #[.int .i64 f, .slice sa seen.length sc, .slice ra rs.length rc]] w (OwnP w (truthsL f seen rs)) := by
  obtain ⟨W0, hW0⟩ : ∃ W0, W0 = w.alloc (.cells #[.int .i64 f, .slice sa seen.length sc, .slice ra rs.length rc] 25) := ⟨_, rfl⟩
  have HB0 := hid (show Below w.heap.size w W0 by rw [hW0]; exact bnew w _)
  obtain ⟨c0, c1, c2⟩ := caseBox w f sa ra seen.length sc rs.length rc
  rw [← hW0] at c0 c1 c2
  have C0 := hid c0; have C1 := hid c1; have C2 := hid c2
  have HT := hid fun (b : Nat) (w' : World) (h : Below w.heap.size w w') (hb : b < 2 ^ 12) => isTruthR_c sa ra sc rc f seen rs b w' (hc.s.mono h) (hc.r.mono h) hc.sl hc.rl hsf hro hb
  have HS := hid hW0
  have hpw := pow_le hf
  have hsh := shl_one hf
  have htl : truthsL f seen rs = selTo (truthB seen rs) (2 ^ f) := rfl
  unfold OwnP
  rw [htl]
  obtain ⟨P, hP⟩ : ∃ P : Nat, P = 2 ^ f := ⟨_, rfl⟩
  rw [← hP] at hpw hsh ⊢
  have hf64 : (f : Int) < 64 := by omega
  clear hc hsf hro hW0 c0 c1 c2 htl hP
  unfold TellB at HT
  go_enter Try.func66, Try.ntmps66
  go_wp2
  rw [← HS.out]
  go_loopw [3, 4] (fun o i wr => ∃ (k : Nat) (ao : Option Addr) (cap : Nat), k ≤ P ∧ i = .int .i64 k ∧ o = .slice ao (selTo (truthB seen rs) k).length cap ∧ OwnI W0.heap.size wr ao (selTo (truthB seen rs) k).length cap (selTo (truthB seen rs) k) ∧ Below W0.heap.size W0 wr) (fun _ i _ => P - (intOf i).toNat)
  case atStart => exact ⟨0, none, 0, Nat.zero_le _, rfl, rfl, OwnI.nil _ _, Below.refl _ _⟩
  case round =>
    obtain ⟨k, ao, cap, hk, rfl, rfl, hown, hB⟩ := hrel
    obtain ⟨wo, rfl⟩ : ∃ wo : World, wo = wr := ⟨_, rfl⟩
    have hlen := selTo_length (truthB seen rs) k
    have d0 := cstep C0.out hB; have d1 := cstep C1.out hB; have d2 := cstep C2.out hB
    have HBw := hid (bstep HB0.out hB)
    by_cases hlt : k < P
    · have ht : selTo (truthB seen rs) (k + 1) = if truthB seen rs k = true then selTo (truthB seen rs) k ++ [(k : Int)] else selTo (truthB seen rs) k := rfl
      have HTk := hid (HT.out k wo HBw.out (by omega))
      obtain ⟨l, hl⟩ : ∃ l, l = selTo (truthB seen rs) k := ⟨_, rfl⟩
      rw [← hl] at ht hown hlen ⊢
      have Hown := hid hown; have HB := hid hB
      clear hown hB hl
      cases htb : truthB seen rs k with
      | true =>
        rw [htb, if_pos rfl] at ht
        rw [htb] at HTk
        have Ht := hid ht
        clear ht htb
        go_wp2_with fail
        refine HTk.out.mono ?_
        rintro e w1 ⟨rfl, hB1⟩
        have HB1 := hid hB1
        have Hown1 := hid (Hown.out.kept hB1)
        clear hB1
        go_wp2_with (at_builtin; refine wpList_app_own _ rfl _ _ rfl W0.heap.size ao l.length cap l rfl ?c1 _ (k : Int) rfl ?c2 ?c3 ?c4 ?c5; rotate_right; (intro b' cap' w' hB' hb' hown' hgr'; refine Hid.out ?_))
        case c1 => exact Hown1.out.alloc _
        case c2 => simp
        case c3 => omega
        case c4 => have := (bstep HB.out HB1.out).size; simp; omega
        case c5 =>
          refine hid ?_
          have Hown' := hid hown'
          have HB' := hid (HB.out.trans ((HB1.out.mono HB.out.size).trans (((bnew w1 (.cells #[.int .i64 k] 3)).mono (bstep HB.out HB1.out).size).trans hB')))
          clear hown' hB' hgr'
          go_wp2
          go_roundw
          case rel => exact ⟨k + 1, some ⟨b', 0, none⟩, cap', by omega, by go_num, by rw [Ht.out, List.length_append]; rfl, by rw [Ht.out, List.length_append]; exact Hown'.out, HB'.out⟩
          case measure => simp [intOf]; omega
      | false =>
        rw [htb, if_neg (by simp)] at ht
        rw [htb] at HTk
        have Ht := hid ht
        clear ht htb
        go_wp2_with fail
        refine HTk.out.mono ?_
        rintro e w1 ⟨rfl, hB1⟩
        have HB1 := hid hB1
        have Hown1 := hid (Hown.out.kept hB1)
        clear hB1
        go_wp2
        go_roundw
        case rel => exact ⟨k + 1, ao, cap, by omega, by go_num, by rw [Ht.out], by rw [Ht.out]; exact Hown1.out, bstep HB.out HB1.out⟩
        case measure => simp [intOf]; omega
    · obtain rfl : k = P := by omega
      go_wp2
      go_ret
      exact ⟨ao, cap, rfl, hown.at, fun h => (hown.none h).2, HBw.out⟩

theorem rcc (sa ra : Option Addr) (sc rc : Nat) (facts : Int) (seen : List Int) (rs : List Rl) (w : World) (hc : CaseAt w sa ra seen rs) :
    Calls Try.prog 20 #[.agg #[.int .i64 facts, .slice sa seen.length sc, .slice ra rs.length rc]] w fun e w' => e = .returned (.int .i64 (caseErr facts seen rs)) ∧ Below w.heap.size w w' :=
  rCheckCase_c sa ra sc rc facts seen rs w hc.s hc.r hc.sl hc.rl hc.il

theorem case_nat {facts : Int} {seen : List Int} {rs : List Rl} (h : caseErr facts seen rs = 0) : ∃ f : Nat, facts = f ∧ 1 ≤ f ∧ f ≤ 12 := by
  obtain ⟨⟨f0, f1⟩, _⟩ := case_zero h
  exact ⟨facts.toNat, by omega, by omega, by omega⟩
theorem case_seen {facts : Int} {seen : List Int} {rs : List Rl} (h : caseErr facts seen rs = 0) : factsOk seen := by
  obtain ⟨⟨f0, f1⟩, _, h2, _⟩ := case_zero h
  exact rising_facts f1 h2

/-- a list and an error are handed back -/
def ListE (w : World) (xs : List Int) (er : Int) (e : Ending) (w' : World) : Prop :=
  ∃ ao cap, e = .returned (.tuple #[.slice ao xs.length cap, .int .i64 er]) ∧ IntsAt w' ao xs ∧ (ao = none → cap = 0) ∧ Below w.heap.size w w'

def rLeastE (facts : Int) (seen : List Int) (rs : List Rl) : Int := if caseErr facts seen rs = 0 then (if truthsN facts.toNat seen rs = [] then 24 else 0) else caseErr facts seen rs
def rLeastL (facts : Int) (seen : List Int) (rs : List Rl) : List Int :=
  if caseErr facts seen rs = 0 then (if truthsN facts.toNat seen rs = [] then [] else listedB ((truthsN facts.toNat seen rs).foldl (· &&& ·) 4095) facts.toNat) else []

theorem errB {x : Int} (h : x ≠ 0) : (x != 0) = true := by simpa using h

set_option maxRecDepth 100000 in
set_option maxHeartbeats 2000000 in
theorem rLeast_c (sa ra : Option Addr) (sc rc : Nat) (facts : Int) (seen : List Int) (rs : List Rl) (w : World) (hc : CaseAt w sa ra seen rs) :
    Calls Try.prog 24 #[.agg #[.int .i64 facts, .slice sa seen.length sc, .slice ra rs.length rc]] w (ListE w (rLeastL facts seen rs) (rLeastE facts seen rs)) := by
  obtain ⟨W0, hW0⟩ : ∃ W0, W0 = w.alloc (.cells #[.int .i64 facts, .slice sa seen.length sc, .slice ra rs.length rc] 25) := ⟨_, rfl⟩
  have HB0 := hid (show Below w.heap.size w W0 by rw [hW0]; exact bnew w _)
  obtain ⟨c0, c1, c2⟩ := caseBox w facts sa ra seen.length sc rs.length rc
  rw [← hW0] at c0 c1 c2
  have C0 := hid c0; have C1 := hid c1; have C2 := hid c2
  have HS := hid hW0
  have HC := hid fun (w' : World) (h : Below w.heap.size w w') => rcc sa ra sc rc facts seen rs w' (hc.mono h)
  unfold ListE rLeastL rLeastE
  by_cases hz : caseErr facts seen rs = 0
  · rw [if_pos hz, if_pos hz]
    obtain ⟨f, rfl, hf1, hf2⟩ := case_nat hz
    have HT := hid fun (w' : World) (h : Below w.heap.size w w') => truths_c sa ra sc rc f seen rs w' (hc.mono h) hf2 (case_seen hz) (case_rules hz hc.il)
    rw [hz] at HC
    rw [Int.toNat_natCast]
    unfold OwnP at HT
    rw [truthsL_eq] at HT
    have hlt := fun x (hx : x ∈ truthsN f seen rs) => truthsN_lt hx
    have hln := truthsN_length hf2 seen rs
    have hml : ((truthsN f seen rs).map (fun n : Nat => (n : Int))).length = (truthsN f seen rs).length := by simp
    rw [hml] at HT
    obtain ⟨l, hl⟩ : ∃ l, l = truthsN f seen rs := ⟨_, rfl⟩
    rw [← hl] at hlt hln HT ⊢
    have Hlt := hid hlt; have Hln := hid hln
    clear hc hz hW0 c0 c1 c2 hlt hln hml hl
    by_cases hnil : l = []
    · rw [if_pos hnil, if_pos hnil]
      subst hnil
      go_enter Try.func24, Try.ntmps24
      go_wp2_with fail
      rw [← HS.out]
      refine (HC.out _ HB0.out).mono ?_
      rintro e w1 ⟨rfl, hB⟩
      have HB1 := hid (bstep HB0.out hB)
      have d0 := cstep C0.out hB; have d1 := cstep C1.out hB; have d2 := cstep C2.out hB
      clear hB
      go_wp2_with fail
      refine (HT.out _ HB1.out).mono ?_
      rintro e w2 ⟨ao, cap, rfl, hat, hn, hB⟩
      have HB2 := hid (bstep HB1.out hB)
      clear hB
      go_wp2
      go_ret2
      exact ⟨none, 0, rfl, IntsAt.nil _ _, fun _ => rfl, HB2.out⟩
    · rw [if_neg hnil, if_neg hnil]
      have hpos : 0 < l.length := List.length_pos_iff.2 hnil
      have hne : ((l.length : Int) == 0) = false := by simp; omega
      have hne2 : ¬ ((l.length : Int) = 0) := by omega
      have HA := hid fun (a : Option Addr) (cap : Nat) (w' : World) (h : IntsAt w' a (l.map (fun n : Nat => (n : Int)))) => all_c a cap l w' h (by have := Hln.out; omega) (fun x hx => by have := Hlt.out x hx; have := pow_le hf2; omega)
      have hfo : l.foldl (· &&& ·) 4095 < 2 ^ 62 := by
        have key : ∀ (l : List Nat) (a : Nat), a < 2 ^ 12 → l.foldl (· &&& ·) a < 2 ^ 12 := by
          intro l
          induction l with
          | nil => intro a h; exact h
          | cons x l ih => intro a h; exact ih _ (Nat.lt_of_le_of_lt Nat.and_le_left h)
        have := key l 4095 (by decide)
        omega
      have HL := hid fun (w' : World) => listed_c (l.foldl (· &&& ·) 4095) f w' (by omega) hfo
      unfold OwnP at HL
      obtain ⟨q, hq⟩ : ∃ q, q = l.foldl (· &&& ·) 4095 := ⟨_, rfl⟩
      rw [← hq] at HL HA ⊢
      obtain ⟨n, hn⟩ : ∃ n, n = l.length := ⟨_, rfl⟩
      rw [← hn] at HT HA hne hne2 hpos
      clear hnil hfo hq hn
      go_enter Try.func24, Try.ntmps24
      go_wp2_with fail
      rw [← HS.out]
      refine (HC.out _ HB0.out).mono ?_
      rintro e w1 ⟨rfl, hB⟩
      have HB1 := hid (bstep HB0.out hB)
      have d0 := cstep C0.out hB; have d1 := cstep C1.out hB; have d2 := cstep C2.out hB
      have D0 := hid d0
      clear hB
      go_wp2_with fail
      refine (HT.out _ HB1.out).mono ?_
      rintro e w2 ⟨ao, cap, rfl, hat, hn, hB⟩
      have HB2 := hid (bstep HB1.out hB)
      have e0 := cstep D0.out hB
      have Hat := hid hat
      clear hB hat d0 d1 d2 hn
      go_wp2_with fail
      go_region_with (first | (go_at_call 67; (with_reducible refine (HA.out _ _ _ (by first | exact Hat.out | exact Hat.out.mono (Below.refl _ _).drew)).mono ?_); rintro e w3 ⟨rfl, hw3⟩; subst hw3) | (go_at_call 45; (with_reducible refine (HL.out _).mono ?_); rintro e w4 ⟨ao2, cap2, rfl, hat2, hn2, hB2⟩; have hBl : Below w.heap.size w w4 := by first | exact bstep HB2.out hB2 | exact bstep HB2.out.drew hB2))
      all_goals (
        go_wp2
        go_ret2
        exact ⟨_, _, rfl, hat2, hn2, hBl⟩)
  · rw [if_neg hz, if_neg hz]
    have hcb := errB hz
    clear hc hz hW0 c0 c1 c2
    generalize caseErr facts seen rs = c at *
    go_enter Try.func24, Try.ntmps24
    go_wp2_with fail
    rw [← HS.out]
    refine (HC.out _ HB0.out).mono ?_
    rintro e w1 ⟨rfl, hB⟩
    have HB1 := hid (bstep HB0.out hB)
    have d0 := cstep C0.out hB; have d1 := cstep C1.out hB; have d2 := cstep C2.out hB
    clear hB
    go_wp2_with fail
    refine (HC.out _ HB1.out).mono ?_
    rintro e w2 ⟨rfl, hB⟩
    go_wp2
    go_ret2
    exact ⟨none, 0, rfl, IntsAt.nil _ _, fun _ => rfl, bstep HB1.out hB⟩

/-- a number and an error are handed back -/
def NumE (w : World) (n er : Int) (e : Ending) (w' : World) : Prop := e = .returned (.tuple #[.int .i64 n, .int .i64 er]) ∧ Below w.heap.size w w'
def rCountN (facts : Int) (seen : List Int) (rs : List Rl) : Int := if caseErr facts seen rs = 0 then ((truthsN facts.toNat seen rs).length : Int) else 0

set_option maxRecDepth 100000 in
set_option maxHeartbeats 2000000 in
theorem rCount_c (sa ra : Option Addr) (sc rc : Nat) (facts : Int) (seen : List Int) (rs : List Rl) (w : World) (hc : CaseAt w sa ra seen rs) :
    Calls Try.prog 26 #[.agg #[.int .i64 facts, .slice sa seen.length sc, .slice ra rs.length rc]] w (NumE w (rCountN facts seen rs) (caseErr facts seen rs)) := by
  obtain ⟨W0, hW0⟩ : ∃ W0, W0 = w.alloc (.cells #[.int .i64 facts, .slice sa seen.length sc, .slice ra rs.length rc] 25) := ⟨_, rfl⟩
  have HB0 := hid (show Below w.heap.size w W0 by rw [hW0]; exact bnew w _)
  obtain ⟨c0, c1, c2⟩ := caseBox w facts sa ra seen.length sc rs.length rc
  rw [← hW0] at c0 c1 c2
  have C0 := hid c0; have C1 := hid c1; have C2 := hid c2
  have HS := hid hW0
  have HC := hid fun (w' : World) (h : Below w.heap.size w w') => rcc sa ra sc rc facts seen rs w' (hc.mono h)
  unfold NumE rCountN
  by_cases hz : caseErr facts seen rs = 0
  · rw [if_pos hz]
    obtain ⟨f, rfl, hf1, hf2⟩ := case_nat hz
    have HT := hid fun (w' : World) (h : Below w.heap.size w w') => truths_c sa ra sc rc f seen rs w' (hc.mono h) hf2 (case_seen hz) (case_rules hz hc.il)
    rw [hz] at HC ⊢
    rw [Int.toNat_natCast]
    unfold OwnP at HT
    rw [truthsL_length] at HT
    generalize (truthsN f seen rs).length = n at *
    generalize truthsL f seen rs = l at *
    clear hc hz hW0 c0 c1 c2
    go_enter Try.func26, Try.ntmps26
    go_wp2_with fail
    rw [← HS.out]
    refine (HC.out _ HB0.out).mono ?_
    rintro e w1 ⟨rfl, hB⟩
    have HB1 := hid (bstep HB0.out hB)
    have d0 := cstep C0.out hB; have d1 := cstep C1.out hB; have d2 := cstep C2.out hB
    clear hB
    go_wp2_with fail
    refine (HT.out _ HB1.out).mono ?_
    rintro e w2 ⟨ao, cap, rfl, hat, hn, hB⟩
    have HB2 := hid (bstep HB1.out hB)
    clear hB hat
    go_wp2
    go_ret2
    exact ⟨rfl, HB2.out⟩
  · rw [if_neg hz]
    have hcb := errB hz
    clear hc hz hW0 c0 c1 c2
    generalize caseErr facts seen rs = c at *
    go_enter Try.func26, Try.ntmps26
    go_wp2_with fail
    rw [← HS.out]
    refine (HC.out _ HB0.out).mono ?_
    rintro e w1 ⟨rfl, hB⟩
    have HB1 := hid (bstep HB0.out hB)
    have d0 := cstep C0.out hB; have d1 := cstep C1.out hB; have d2 := cstep C2.out hB
    clear hB
    go_wp2_with fail
    refine (HC.out _ HB1.out).mono ?_
    rintro e w2 ⟨rfl, hB⟩
    go_wp2
    go_ret2
    exact ⟨rfl, bstep HB1.out hB⟩

def factErr (facts : Int) (seen : List Int) (rs : List Rl) (x : Int) : Int := if caseErr facts seen rs = 0 then (if 0 ≤ x ∧ x < facts then 0 else 2) else caseErr facts seen rs

set_option maxRecDepth 100000 in
set_option maxHeartbeats 2000000 in
theorem factErr_c (sa ra : Option Addr) (sc rc : Nat) (facts : Int) (seen : List Int) (rs : List Rl) (x : Int) (w : World) (hc : CaseAt w sa ra seen rs) :
    Calls Try.prog 71 #[.agg #[.int .i64 facts, .slice sa seen.length sc, .slice ra rs.length rc], .int .i64 x] w fun e w' => e = .returned (.int .i64 (factErr facts seen rs x)) ∧ Below w.heap.size w w' := by
  obtain ⟨W0, hW0⟩ : ∃ W0, W0 = w.alloc (.cells #[.int .i64 facts, .slice sa seen.length sc, .slice ra rs.length rc] 25) := ⟨_, rfl⟩
  have HB0 := hid (show Below w.heap.size w W0 by rw [hW0]; exact bnew w _)
  obtain ⟨c0, c1, c2⟩ := caseBox w facts sa ra seen.length sc rs.length rc
  rw [← hW0] at c0 c1 c2
  have C0 := hid c0; have C1 := hid c1; have C2 := hid c2
  have HS := hid hW0
  have HC := hid fun (w' : World) (h : Below w.heap.size w w') => rcc sa ra sc rc facts seen rs w' (hc.mono h)
  unfold factErr
  by_cases hz : caseErr facts seen rs = 0
  · rw [if_pos hz]
    rw [hz] at HC
    clear hc hz hW0 c0 c1 c2
    by_cases h0 : x < 0
    · rw [if_neg (by omega)]
      go_enter Try.func71, Try.ntmps71
      go_wp2_with fail
      rw [← HS.out]
      refine (HC.out _ HB0.out).mono ?_
      rintro e w1 ⟨rfl, hB⟩
      have HB1 := hid (bstep HB0.out hB)
      have d0 := cstep C0.out hB; have d1 := cstep C1.out hB; have d2 := cstep C2.out hB
      clear hB
      go_wp2
      go_ret
      exact ⟨rfl, HB1.out⟩
    · by_cases h1 : x < facts
      · rw [if_pos (by omega)]
        have h2 : ¬ facts ≤ x := by omega
        go_enter Try.func71, Try.ntmps71
        go_wp2_with fail
        rw [← HS.out]
        refine (HC.out _ HB0.out).mono ?_
        rintro e w1 ⟨rfl, hB⟩
        have HB1 := hid (bstep HB0.out hB)
        have d0 := cstep C0.out hB; have d1 := cstep C1.out hB; have d2 := cstep C2.out hB
        clear hB
        go_wp2
        go_ret
        exact ⟨rfl, HB1.out⟩
      · rw [if_neg (by omega)]
        have h2 : facts ≤ x := by omega
        go_enter Try.func71, Try.ntmps71
        go_wp2_with fail
        rw [← HS.out]
        refine (HC.out _ HB0.out).mono ?_
        rintro e w1 ⟨rfl, hB⟩
        have HB1 := hid (bstep HB0.out hB)
        have d0 := cstep C0.out hB; have d1 := cstep C1.out hB; have d2 := cstep C2.out hB
        clear hB
        go_wp2
        go_ret
        exact ⟨rfl, HB1.out⟩
  · rw [if_neg hz]
    have hcb := errB hz
    clear hc hz hW0 c0 c1 c2
    generalize caseErr facts seen rs = c at *
    go_enter Try.func71, Try.ntmps71
    go_wp2_with fail
    rw [← HS.out]
    refine (HC.out _ HB0.out).mono ?_
    rintro e w1 ⟨rfl, hB⟩
    have HB1 := hid (bstep HB0.out hB)
    have d0 := cstep C0.out hB; have d1 := cstep C1.out hB; have d2 := cstep C2.out hB
    clear hB
    go_wp2_with fail
    refine (HC.out _ HB1.out).mono ?_
    rintro e w2 ⟨rfl, hB⟩
    go_wp2
    go_ret
    exact ⟨rfl, bstep HB1.out hB⟩

end Go.Proofs.Ytkioejdddmnbmaa

namespace Go.Proofs.Ytkioejdddmnbmaa
open Go.RowKit Go.Shelf
attribute [local go_sem ↓] wp_get wp_get0 wp_getS wp78 wps78 wpa78

/-- how many of some lists have a fact -/
def hasN (l : List Nat) (x : Nat) : Nat := (l.filter (fun b => b.testBit x)).length
theorem hasN_succ {l : List Nat} {k : Nat} (h : k < l.length) (x : Nat) : hasN (l.take (k + 1)) x = hasN (l.take k) x + if (l[k]).testBit x then 1 else 0 := by
  unfold hasN
  rw [List.take_succ_eq_append_getElem h, List.filter_append, List.length_append]
  congr 1
  cases hb : (l[k]).testBit x <;> simp [hb]
theorem hasN_le (l : List Nat) (x : Nat) : hasN l x ≤ l.length := List.length_filter_le _ _

def rVerdictN (facts : Int) (seen : List Int) (rs : List Rl) (x : Int) : Int :=
  if factErr facts seen rs x = 0 then (if truthsN facts.toNat seen rs = [] then 0 else if hasN (truthsN facts.toNat seen rs) x.toNat = (truthsN facts.toNat seen rs).length then 2 else if hasN (truthsN facts.toNat seen rs) x.toNat = 0 then 0 else 1) else 0
def rVerdictE (facts : Int) (seen : List Int) (rs : List Rl) (x : Int) : Int :=
  if factErr facts seen rs x = 0 then (if truthsN facts.toNat seen rs = [] then 24 else 0) else factErr facts seen rs x

theorem fact_zero {facts : Int} {seen : List Int} {rs : List Rl} {x : Int} (h : factErr facts seen rs x = 0) : caseErr facts seen rs = 0 ∧ 0 ≤ x ∧ x < facts := by
  unfold factErr at h
  split at h
  · rename_i h1
    split at h
    · rename_i h2; exact ⟨h1, h2⟩
    · cases h
  · rename_i h1; exact absurd h h1

set_option maxRecDepth 100000 in
set_option maxHeartbeats 2000000 in
theorem rVerdict_c (sa ra : Option Addr) (sc rc : Nat) (facts : Int) (seen : List Int) (rs : List Rl) (x : Int) (w : World) (hc : CaseAt w sa ra seen rs) :
    Calls Try.prog 28 #[.agg #[.int .i64 facts, .slice sa seen.length sc, .slice ra rs.length rc], .int .i64 x] w (NumE w (rVerdictN facts seen rs x) (rVerdictE facts seen rs x)) := by
  obtain ⟨W0, hW0⟩ : ∃ W0, W0 = w.alloc (.cells #[.int .i64 facts, .slice sa seen.length sc, .slice ra rs.length rc] 25) := ⟨_, rfl⟩
  have HB0 := hid (show Below w.heap.size w W0 by rw [hW0]; exact bnew w _)
  obtain ⟨c0, c1, c2⟩ := caseBox w facts sa ra seen.length sc rs.length rc
  rw [← hW0] at c0 c1 c2
  have C0 := hid c0; have C1 := hid c1; have C2 := hid c2
  have HS := hid hW0
  have HC := hid fun (w' : World) (h : Below w.heap.size w w') => factErr_c sa ra sc rc facts seen rs x w' (hc.mono h)
  unfold NumE rVerdictN rVerdictE
  by_cases hz : factErr facts seen rs x = 0
  · rw [if_pos hz, if_pos hz]
    obtain ⟨hz2, hx0, hx1⟩ := fact_zero hz
    obtain ⟨f, rfl, hf1, hf2⟩ := case_nat hz2
    obtain ⟨n, rfl⟩ := Int.eq_ofNat_of_zero_le hx0
    have HT := hid fun (w' : World) (h : Below w.heap.size w w') => truths_c sa ra sc rc f seen rs w' (hc.mono h) hf2 (case_seen hz2) (case_rules hz2 hc.il)
    rw [hz] at HC
    rw [Int.toNat_natCast, Int.toNat_natCast]
    unfold OwnP at HT
    rw [truthsL_eq] at HT
    have hlt := fun x (hx : x ∈ truthsN f seen rs) => truthsN_lt hx
    have hln := truthsN_length hf2 seen rs
    have hml : ((truthsN f seen rs).map (fun n : Nat => (n : Int))).length = (truthsN f seen rs).length := by simp
    rw [hml] at HT
    obtain ⟨l, hl⟩ : ∃ l, l = truthsN f seen rs := ⟨_, rfl⟩
    rw [← hl] at hlt hln HT ⊢
    have Hlt := hid hlt; have Hln := hid hln
    clear hc hz hz2 hW0 c0 c1 c2 hlt hln hml hl hx0
    by_cases hnil : l = []
    · rw [if_pos hnil, if_pos hnil]
      subst hnil
      go_enter Try.func28, Try.ntmps28
      go_wp2_with fail
      rw [← HS.out]
      refine (HC.out _ HB0.out).mono ?_
      rintro e w1 ⟨rfl, hB⟩
      have HB1 := hid (bstep HB0.out hB)
      have d0 := cstep C0.out hB; have d1 := cstep C1.out hB; have d2 := cstep C2.out hB
      clear hB
      go_wp2_with fail
      refine (HT.out _ HB1.out).mono ?_
      rintro e w2 ⟨ao, cap, rfl, hat, hn, hB⟩
      have HB2 := hid (bstep HB1.out hB)
      clear hB
      go_wp2
      go_ret2
      exact ⟨rfl, HB2.out⟩
    · rw [if_neg hnil, if_neg hnil]
      have hpos : 0 < l.length := List.length_pos_iff.2 hnil
      have hne : ((l.length : Int) == 0) = false := by simp; omega
      have hne2 : ¬ ((l.length : Int) = 0) := by omega
      obtain ⟨m, hm⟩ : ∃ m, m = l.length := ⟨_, rfl⟩
      have Hm := hid hm
      have hml2 : ∀ k, k < m → k < l.length := fun k h => by rw [hm] at h; exact h
      have Hml2 := hid hml2
      have hmb : m ≤ 5000 := by have := Hln.out; omega
      rw [← hm] at HT hne hne2 hpos ⊢
      clear hnil hm hml2
      have hn64 : (n : Int) < 64 := by omega
      obtain ⟨R, hR⟩ : ∃ R : Int, R = (if hasN l n = m then 2 else if hasN l n = 0 then 0 else 1) := ⟨_, rfl⟩
      rw [← hR]
      have HR := hid hR
      clear hR
      go_enter Try.func28, Try.ntmps28
      go_wp2_with fail
      rw [← HS.out]
      refine (HC.out _ HB0.out).mono ?_
      rintro e w1 ⟨rfl, hB⟩
      have HB1 := hid (bstep HB0.out hB)
      have d0 := cstep C0.out hB; have d1 := cstep C1.out hB; have d2 := cstep C2.out hB
      clear hB
      go_wp2_with fail
      refine (HT.out _ HB1.out).mono ?_
      rintro e w2 ⟨ao, cap, rfl, hat, hn, hB⟩
      have HB2 := hid (bstep HB1.out hB)
      have Hat := hid hat
      clear hB hat d0 d1 d2 hn
      go_wp2
      go_loop [7, 8] (fun o i => ∃ k : Nat, k ≤ m ∧ i = .int .i64 k ∧ o = .int .i64 (hasN (l.take k) n : Nat)) (fun _ i => m - (intOf i).toNat)
      case atStart => exact ⟨0, Nat.zero_le _, rfl, rfl⟩
      case round =>
        obtain ⟨k, hk, rfl, rfl⟩ := hrel
        by_cases hlt : k < m
        · have hkl := Hml2.out k hlt
          obtain ⟨b, off, rfl, hcc⟩ := Hat.out.at (k := k) (by simpa using hkl)
          have e : nth (l.map (fun n : Nat => (n : Int))) k = (l[k] : Int) := by rw [nth_eq (by simpa using hkl)]; simp
          rw [e] at hcc
          have ht := hasN_succ hkl n
          have hb := Hlt.out _ (List.getElem_mem hkl)
          have hle : hasN (l.take k) n ≤ k := Nat.le_trans (hasN_le _ _) (by rw [List.length_take]; omega)
          have hln2 := Hln.out
          have hone := bits_one_i64 (a := l[k]) (by have := pow_le hf2; omega) n
          have Hm2 := Hm.out
          obtain ⟨x, hx⟩ : ∃ x, x = l[k] := ⟨_, rfl⟩
          obtain ⟨y, hy⟩ : ∃ y, y = hasN (l.take k) n := ⟨_, rfl⟩
          rw [← hx, ← hy] at ht
          rw [← hx] at hcc hone
          rw [← hy] at hle ⊢
          have hy2 : y ≤ 5000 := by omega
          clear e hx hy hb hle hln2 Hm2
          cases htb : x.testBit n with
          | true =>
            rw [htb] at hone ht
            simp only [if_true] at hone ht
            have Ht := hid ht
            clear ht htb
            go_wp2
            go_round
            case rel => exact ⟨k + 1, by omega, by go_num, by rw [Ht.out]; go_num⟩
            case measure => simp [intOf]; omega
          | false =>
            rw [htb] at hone ht
            simp only [Bool.false_eq_true, if_false, Nat.add_zero] at hone ht
            have Ht := hid ht
            clear ht htb
            go_wp2
            go_round
            case rel => exact ⟨k + 1, by omega, by go_num, by rw [Ht.out]⟩
            case measure => simp [intOf]; omega
        · obtain rfl : k = m := by omega
          have hR := HR.out
          have htk : l.take k = l := List.take_of_length_le (by rw [← Hm.out]; exact Nat.le_refl _)
          rw [htk]
          have hq := hasN_le l n
          rw [← Hm.out] at hq
          obtain ⟨y, hy⟩ : ∃ y, y = hasN l n := ⟨_, rfl⟩
          rw [← hy] at hR hq ⊢
          clear htk hy
          by_cases h1 : y = k
          · rw [if_pos h1] at hR
            subst h1
            have HR2 := hid hR
            clear hR
            go_wp2
            go_ret2
            exact ⟨by first | (rw [HR2.out]; rfl) | rw [HR2.out], HB2.out⟩
          · rw [if_neg h1] at hR
            have h2 : ((y : Int) == (k : Int)) = false := by simp; omega
            by_cases h0 : y = 0
            · rw [if_pos h0] at hR
              subst h0
              have HR2 := hid hR
              clear hR
              go_wp2
              go_ret2
              exact ⟨by first | (rw [HR2.out]; rfl) | rw [HR2.out], HB2.out⟩
            · rw [if_neg h0] at hR
              have h3 : ((y : Int) == 0) = false := by simp; omega
              have HR2 := hid hR
              clear hR
              go_wp2
              go_ret2
              exact ⟨by first | (rw [HR2.out]; rfl) | rw [HR2.out], HB2.out⟩
  · rw [if_neg hz, if_neg hz]
    have hcb := errB hz
    clear hc hz hW0 c0 c1 c2
    generalize factErr facts seen rs x = c at *
    go_enter Try.func28, Try.ntmps28
    go_wp2_with fail
    rw [← HS.out]
    refine (HC.out _ HB0.out).mono ?_
    rintro e w1 ⟨rfl, hB⟩
    have HB1 := hid (bstep HB0.out hB)
    have d0 := cstep C0.out hB; have d1 := cstep C1.out hB; have d2 := cstep C2.out hB
    clear hB
    go_wp2_with fail
    refine (HC.out _ HB1.out).mono ?_
    rintro e w2 ⟨rfl, hB⟩
    go_wp2
    go_ret2
    exact ⟨rfl, bstep HB1.out hB⟩

theorem kn1_lt {rs : List Rl} (hro : rulesOk rs) {s : Nat × Bool} (h : s.1 < 2 ^ 12) {i : Nat} (hi : i < rs.length) : (kn1 rs s i).1 < 2 ^ 12 := by
  unfold kn1
  split
  · split
    · exact h
    · exact Nat.or_lt_two_pow h (Nat.pow_lt_pow_right (by omega) (by have := (hro i hi).2.2.2; omega))
  · exact h
theorem knTo_lt {rs : List Rl} (hro : rulesOk rs) {s : Nat × Bool} (h : s.1 < 2 ^ 12) : ∀ k, k ≤ rs.length → (knTo rs s k).1 < 2 ^ 12
  | 0, _ => h
  | k + 1, hk => kn1_lt hro (knTo_lt hro h k (by omega)) (by omega)
theorem knRounds_lt {rs : List Rl} (hro : rulesOk rs) {s : Nat × Bool} (h : s.1 < 2 ^ 12) : ∀ n, (knRounds rs s n).1 < 2 ^ 12
  | 0 => h
  | n + 1 => knTo_lt hro (knRounds_lt hro h n) _ (Nat.le_refl _)
theorem knownR_lt {rs : List Rl} (hro : rulesOk rs) {b : Nat} (h : b < 2 ^ 12) : (knownR rs b).1 < 2 ^ 12 := knRounds_lt hro h _

theorem shl_one' {t : Nat} (h : t ≤ 12) : IntKind.i64.wrap (2 ^ t) = ((2 ^ t : Nat) : Int) := shl_one h

set_option maxRecDepth 100000 in
set_option maxHeartbeats 2000000 in
theorem known_c (ra : Option Addr) (rc : Nat) (rs : List Rl) (b : Nat) (w : World) (hr : RulesAt w ra rs) (hro : rulesOk rs) (hrl : rs.length ≤ 1000000) (hb : b < 2 ^ 12) :
    Calls Try.prog 50 #[.slice ra rs.length rc, .int .i64 b] w fun e w' => e = .returned (.tuple #[.int .i64 (knownR rs b).1, .bool (knownR rs b).2]) ∧ w' = w := by
  have Hr := hid hr; have Hro := hid hro; have Hb := hid hb
  have hkr : knownR rs b = knRounds rs (b, false) (rs.length + 1) := rfl
  rw [hkr]
  clear hr hro hb hkr
  go_enter Try.func50, Try.ntmps50
  go_wp2
  go_loop [6, 7, 8] (fun q c i => ∃ n : Nat, n ≤ rs.length + 1 ∧ i = .int .i64 n ∧ q = .int .i64 (knRounds rs (b, false) n).1 ∧ c = .bool (knRounds rs (b, false) n).2) (fun _ _ i => rs.length + 1 - (intOf i).toNat)
  case atStart => exact ⟨0, Nat.zero_le _, rfl, rfl, rfl⟩
  case round =>
    obtain ⟨n, hn, rfl, rfl, rfl⟩ := hrel
    have hs := knRounds_lt Hro.out (s := (b, false)) Hb.out n
    have hs1 : knRounds rs (b, false) (n + 1) = knTo rs (knRounds rs (b, false) n) rs.length := rfl
    obtain ⟨s, hse⟩ : ∃ s, s = knRounds rs (b, false) n := ⟨_, rfl⟩
    rw [← hse] at hs hs1 ⊢
    have Hs := hid hs; have Hs1 := hid hs1; have Hse := hid hse
    clear hs hs1 hse
    by_cases hle : n ≤ rs.length
    · go_wp2
      go_loop [6, 7, 9] (fun q c i => ∃ j : Nat, j ≤ rs.length ∧ i = .int .i64 j ∧ q = .int .i64 (knTo rs s j).1 ∧ c = .bool (knTo rs s j).2) (fun _ _ i => rs.length - (intOf i).toNat)
      case atStart => exact ⟨0, Nat.zero_le _, rfl, rfl, rfl⟩
      case round =>
        obtain ⟨j, hj, rfl, rfl, rfl⟩ := hrel
        by_cases hlt : j < rs.length
        · have hk := knTo_lt Hro.out Hs.out j hj
          have hk1 : knTo rs s (j + 1) = kn1 rs (knTo rs s j) j := rfl
          unfold kn1 at hk1
          obtain ⟨p, hp⟩ : ∃ p, p = knTo rs s j := ⟨_, rfl⟩
          rw [← hp] at hk hk1 ⊢
          obtain ⟨q, c⟩ := p
          obtain ⟨hf1, hf2, hf3, hf4⟩ := Hro.out j hlt
          obtain ⟨bb, off, a, cp, rfl, hra⟩ := Hr.out.at hlt
          have HBi := hid (bits_c a cp (nthR rs j).1 w hra.at' hf2 hf1)
          have q0 := hra.cI
          have q1 := hra.cT
          have hbl := bitsL_lt hf1
          obtain ⟨th, hth⟩ : ∃ t, t = (nthR rs j).2 := ⟨_, rfl⟩
          obtain ⟨m, hm⟩ : ∃ n, n = (nthR rs j).1.length := ⟨_, rfl⟩
          obtain ⟨o, ho⟩ : ∃ o, o = bitsL (nthR rs j).1 := ⟨_, rfl⟩
          rw [← hth] at q1 hf3 hf4 hk1
          rw [← hm] at q0 HBi
          rw [← ho] at HBi hbl hk1
          have hk : q < 2 ^ 12 := hk
          have hk1 : knTo rs s (j + 1) = if q &&& o = o then if th < 0 then (q, true) else (q ||| 2 ^ th.toNat, c) else (q, c) := hk1
          have hand := bits_and_i64 (a := q) (b := o) (by omega) (by omega)
          clear hra hth hm ho hp hf1 hf2
          by_cases hh : q &&& o = o
          · rw [if_pos hh] at hk1
            rw [hh] at hand
            clear hh
            by_cases h0 : th < 0
            · rw [if_pos h0] at hk1
              have Hk1 := hid hk1
              clear hk1
              go_wp2_with fail
              refine HBi.out.mono ?_
              rintro e w1 ⟨rfl, hw1⟩
              cases hw1
              go_wp2
              go_round
              case rel => exact ⟨j + 1, by omega, by go_num, by rw [Hk1.out], by rw [Hk1.out]⟩
              case measure => simp [intOf]; omega
            · rw [if_neg h0] at hk1
              obtain ⟨t, rfl⟩ := Int.eq_ofNat_of_zero_le (show 0 ≤ th by omega)
              rw [Int.toNat_natCast] at hk1
              have ht12 : t ≤ 12 := by omega
              have ht64 : (t : Int) < 64 := by omega
              have hsh := shl_one ht12
              have hpt := pow_le ht12
              obtain ⟨P, hP⟩ : ∃ P : Nat, P = 2 ^ t := ⟨_, rfl⟩
              rw [← hP] at hsh hk1 hpt
              have hor := bits_or_i64 (a := q) (b := P) (by omega) (by omega)
              have Hk1 := hid hk1
              clear hk1 hP
              go_wp2_with fail
              refine HBi.out.mono ?_
              rintro e w1 ⟨rfl, hw1⟩
              cases hw1
              go_wp2
              go_round
              case rel => exact ⟨j + 1, by omega, by go_num, by rw [Hk1.out], by rw [Hk1.out]⟩
              case measure => simp [intOf]; omega
          · rw [if_neg hh] at hk1
            have hne : (((q &&& o : Nat) : Int) != (o : Int)) = true := by simp; omega
            have hne2 : ¬ ((q &&& o : Nat) : Int) = (o : Int) := by omega
            obtain ⟨u, hu⟩ : ∃ u, u = q &&& o := ⟨_, rfl⟩
            rw [← hu] at hand hne hne2
            have Hk1 := hid hk1
            clear hk1 hu hh
            go_wp2_with fail
            refine HBi.out.mono ?_
            rintro e w1 ⟨rfl, hw1⟩
            cases hw1
            go_wp2
            go_round
            case rel => exact ⟨j + 1, by omega, by go_num, by rw [Hk1.out], by rw [Hk1.out]⟩
            case measure => simp [intOf]; omega
        · obtain rfl : j = rs.length := by omega
          rw [← Hs1.out]
          go_wp2
          go_round
          case rel => exact ⟨n + 1, by omega, by go_num, rfl, rfl⟩
          case measure => simp [intOf]; omega
    · obtain rfl : n = rs.length + 1 := by omega
      rw [Hse.out]
      go_wp2
      go_ret2
      exact ⟨rfl, rfl⟩

end Go.Proofs.Ytkioejdddmnbmaa

namespace Go.Proofs.Ytkioejdddmnbmaa
open Go.RowKit Go.Shelf
attribute [local go_sem ↓] wp_get wp_get0 wp_getS wp78 wps78 wpa78
attribute [local go_sem] Oper.semAt_some

theorem wpi78 {F : Fence} {n : Nat} {K : Act → World → Prop} {Q : Exit → Act → World → Prop} {a : Act} {w : World} (dst : Option Tmp) (t : TypeId) (x : Operand) (pos : String) (after : Array Edge) (g : Option (Nat × Bool)) :
    Oper.wpIn F n Try.prog { dst := dst, op := .load 78 x, type := t, pos := pos, after := after, guard := g } a w K Q =
      Oper.uponIn F n Try.prog { dst := dst, op := .load 78 x, type := t, pos := pos, after := after, guard := g } a K Q (loadPart Try.prog 78 12 (a.eval x) w) := by
  unfold Oper.wpIn
  rw [Oper.semAt_eq _ _ _ (fun c h => by cases h), run_load_part (n := 12) Try.underlying78 rfl (by kernel_rfl)]
  simp [Oper.about]
theorem wpai78 {F : Fence} {n : Nat} {K : Act → World → Prop} {Q : Exit → Act → World → Prop} {a : Act} {w : World} (dst : Option Tmp) (t : TypeId) (pos : String) (after : Array Edge) (g : Option (Nat × Bool)) :
    Oper.wpIn F n Try.prog { dst := dst, op := .alloc 78, type := t, pos := pos, after := after, guard := g } a w K Q = K (a.put dst (.pointer (some ⟨w.heap.size, 0, none⟩))) (w.alloc (.cells zero78 78)) := by
  have h : (Oper.wp Try.prog { dst := dst, op := .alloc 78, type := t, pos := pos, after := after, guard := g } a w K Q) = K (a.put dst (.pointer (some ⟨w.heap.size, 0, none⟩))) (w.alloc (.cells zero78 78)) := wpa78 ..
  unfold Oper.wpIn
  rw [Oper.semAt_eq _ _ _ (fun c h => by cases h)]
  have hr : (execOp a.eval { dst := dst, op := .alloc 78, type := t, pos := pos, after := after, guard := g }).run Try.prog w = .ok (.value (.pointer (some ⟨w.heap.size, 0, none⟩))) (w.alloc (.cells zero78 78)) := by
    have hi : (Try.prog.info? 78).map (·.zero) = some (some (.agg zero78)) := by kernel_rfl
    cases hq : Try.prog.info? 78 with
    | none => simp [hq] at hi
    | some i =>
      have hz : i.zero = some (.agg zero78) := by simpa [hq] using hi
      simp [execOp, Instr.alloc, zeroValue, typeInfo, hq, hz, newVar, newRow, Value.cells, Result.andThen]
  rw [hr]
  simp [Oper.about, Oper.uponIn]
attribute [local go_sem ↓] wpi78 wpai78

/-- marks out of bits -/
def bitTo (b : Nat) : Nat → List Int
  | 0 => List.replicate 12 0
  | k + 1 => (bitTo b k).set k (if b.testBit k = true then 1 else 0)
theorem bitTo_length (b : Nat) : ∀ k, (bitTo b k).length = 12
  | 0 => by simp [bitTo]
  | k + 1 => by rw [bitTo, List.length_set, bitTo_length b k]
theorem bitTo_nth (b : Nat) {n : Nat} (hn : n < 12) : ∀ k, nth (bitTo b k) n = if n < k ∧ b.testBit n = true then 1 else 0
  | 0 => by
    rw [bitTo]; unfold nth
    rw [List.getD_eq_getElem?_getD, List.getElem?_replicate, if_pos hn]; simp
  | k + 1 => by
    rw [bitTo]
    have ih := bitTo_nth b hn k
    unfold nth at ih ⊢
    rw [List.getD_eq_getElem?_getD, List.getElem?_set]
    rw [List.getD_eq_getElem?_getD] at ih
    by_cases e : k = n
    · subst e
      rw [if_pos rfl, if_pos (by rw [bitTo_length]; omega)]
      cases hb : b.testBit k <;> simp
    · rw [if_neg e, ih]
      by_cases h1 : n < k
      · have : n < k + 1 := by omega
        simp [h1, this]
      · have : ¬ n < k + 1 := by omega
        simp [h1, this]
/-- is a truth, by bits, of the program -/
def trB (f : Nat) (seen : List Int) (rs : List Rl) (b : Nat) : Bool := isTruthM seen rs (bitTo b f)
/-- how many below -/
def cntTo (p : Nat → Bool) : Nat → Nat
  | 0 => 0
  | k + 1 => if p k = true then cntTo p k + 1 else cntTo p k
theorem cntTo_le (p : Nat → Bool) : ∀ k, cntTo p k ≤ k
  | 0 => Nat.le_refl _
  | k + 1 => by have := cntTo_le p k; rw [cntTo]; split <;> omega

/-- what the iterator leans on -/
structure TrAt (w : World) (g f : Nat) (sa : Option Addr) (sc : Nat) (seen : List Int) (ra : Option Addr) (rc : Nat) (rs : List Rl) : Prop where
  k0 : w.cell? ⟨g, 0, none⟩ = some (.int .i64 f)
  k1 : w.cell? ⟨g, 1, none⟩ = some (.slice sa seen.length sc)
  k2 : w.cell? ⟨g, 2, none⟩ = some (.slice ra rs.length rc)
  c : CaseAt w sa ra seen rs
theorem TrAt.mono {w w' : World} {g f : Nat} {sa : Option Addr} {sc : Nat} {seen : List Int} {ra : Option Addr} {rc : Nat} {rs : List Rl} (h : TrAt w g f sa sc seen ra rc rs) (hB : Below w.heap.size w w') : TrAt w' g f sa sc seen ra rc rs :=
  ⟨cstep h.k0 hB, cstep h.k1 hB, cstep h.k2 hB, h.c.mono hB⟩

set_option maxRecDepth 100000 in
set_option maxHeartbeats 4000000 in
theorem truths1_c (bw g f : Nat) (sa : Option Addr) (sc : Nat) (seen : List Int) (ra : Option Addr) (rc : Nat) (rs : List Rl) (w1 w0 : World) (S : Nat → Prop)
    (hS : ∀ k, S k → w1.heap.size ≤ k ∧ k < w0.heap.size) (hat : TrAt w1 g f sa sc seen ra rc rs) (hp0 : w0.cell? ⟨bw, 0, none⟩ = some (.pointer (some ⟨g, 0, none⟩))) (hpS : ¬ S bw) (hB0 : Below w1.heap.size w1 w0) (hf : f ≤ 12) (hsf : factsOk seen) (hro : rulesOk rs) :
    Gen Try.prog 92 #[.pointer (some ⟨bw, 0, none⟩)] S (fun _ v _ => v.size = 1) (2 ^ f) (2 ^ f) (fun k => k = cntTo (trB f seen rs) (2 ^ f)) w0 := by
  intro l J Jx W hW hlW hlt hJ hJx hN hY h0
  refine callsIn_of_wp Try.func92 rfl trivial ?_ rfl
  simp only [Try.ntmps92, List.size_toArray, List.length_cons, List.length_nil, Nat.reduceAdd, Nat.reduceSub, Array.replicate_succ, Array.replicate_zero, List.push_toArray, List.append_toArray, List.nil_append, List.cons_append]
  have HBW := hid (show Below w1.heap.size w1 W from hB0.trans (hW.mono hB0.size))
  have HA := hid fun (w' : World) (h : Below w1.heap.size w1 w') => hat.mono h
  have hatW := HA.out _ HBW.out
  have d0 := cstep hp0 hW; have d1 := hatW.k0
  have D0 := hid d0
  have hbl : bw ≠ l := by have := block_lt_of_cell hp0; simp at this; omega
  have HY := hid hY; have HJ := hid hJ; have HN := hid hN; have H0 := hid h0; have HS := hid hS; have Hsf := hid hsf; have Hro := hid hro
  have hpw := pow_le hf
  have hsh := shl_one hf
  have hf64 : (f : Int) < 64 := by omega
  have Hl := hid (show w1.heap.size ≤ l from Nat.le_trans hB0.size hlW)
  obtain ⟨P, hP⟩ : ∃ P : Nat, P = 2 ^ f := ⟨_, rfl⟩
  rw [← hP] at hpw hsh HY HN ⊢
  clear hp0 hat hatW hB0 hsf hro hY hJ hN h0 hS hJx hW hP hlW
  gi_wp2
  gi_loopw [12] (fun n wr => ∃ b : Nat, n = .int .i64 b ∧ b ≤ P ∧ J (cntTo (trB f seen rs) b) wr ∧ Below w1.heap.size w1 wr ∧ l < wr.heap.size ∧ wr.cell? ⟨bw, 0, none⟩ = some (.pointer (some ⟨g, 0, none⟩))) (fun n _ => P - (intOf n).toNat)
  case atStart => exact ⟨0, rfl, Nat.zero_le _, H0.out, HBW.out, hlt, D0.out⟩
  case round =>
    obtain ⟨b, rfl, hb, hJb, hB, hlr, e0⟩ := hrel
    obtain ⟨wo, rfl⟩ : ∃ wo : World, wo = wr := ⟨_, rfl⟩
    have HJb := hid hJb; have HB := hid hB
    have hatW := HA.out _ HB.out
    have e1 := hatW.k0
    have E0 := hid e0; have E1 := hid e1
    clear hJb hB d0 d1 hatW
    by_cases hbP : b < P
    · have hz := heap_alloc_new wo (.cells zero78 78)
      have b0 := cstep e0 (bnew wo (.cells zero78 78)); have b1 := cstep e1 (bnew wo (.cells zero78 78))
      have Hz := hid hz
      clear hz e0 e1
      gi_wp2
      gi_loopw [20] (fun i wi => ∃ k : Nat, i = .int .i64 k ∧ k ≤ f ∧ wi.heap[wo.heap.size]? = some (.cells (intv (bitTo b k)).toArray 78 (0, 0)) ∧ Only (fun x => x = wo.heap.size) (wo.alloc (.cells zero78 78)) wi) (fun i _ => f - (intOf i).toNat)
      case atStart => exact ⟨0, rfl, Nat.zero_le _, Hz.out, Only.refl _ _⟩
      case round =>
        obtain ⟨k, rfl, hk, hh, hO⟩ := hrel
        obtain ⟨wi, rfl⟩ : ∃ wi : World, wi = wr := ⟨_, rfl⟩
        by_cases hlt2 : k < f
        · have hk12 : k < 12 := by omega
          have hcc : wi.cell? ⟨wo.heap.size, k, none⟩ = some (.int .i64 (nth (bitTo b k) k)) := by
            rw [cell_of_row _ _ _ _ _ _ hh, List.getElem?_toArray, intv_get, if_pos (by rw [bitTo_length]; exact hk12)]
          have hfr : wi.frozen? ⟨wo.heap.size, k, none⟩ = false := frozen_of_row _ _ _ _ _ hh
          have hk64 : (k : Int) < 64 := by omega
          have hset : bitTo b (k + 1) = (bitTo b k).set k (if b.testBit k = true then 1 else 0) := rfl
          have hbit := bits_one_i64 (a := b) (by omega) k
          obtain ⟨v, hv⟩ : ∃ v : Int, v = if b.testBit k = true then 1 else 0 := ⟨_, rfl⟩
          rw [← hv] at hset hbit
          have Hh := hid hh; have HO := hid hO; have Hset := hid hset
          clear hh hO hset hv b0 b1
          gi_wp2
          go_roundw
          case rel => exact ⟨k + 1, by go_num, by omega, (heap_setCell_same wi _ _ _ 78 _ Hh.out).trans (by rw [Hset.out]; exact cellsSet (by unfold intv; rw [List.map_set])), HO.out.trans (setCell_only _ _ _)⟩
          case measure => simp [intOf]; omega
        · obtain rfl : k = f := by omega
          have hO2 : Below wo.heap.size wo wi := (bnew wo (.cells zero78 78)).trans (hO.below (by simp) (by intro j hj e; have e' : j = wo.heap.size := e; omega))
          have HO2 := hid hO2
          have HBi := hid (HB.out.trans (hO2.mono HB.out.size))
          have hat := HA.out _ HBi.out
          have f0 := cstep E0.out hO2; have f1 := hat.k0
          have F0 := hid f0
          have o1 : partOk wi wo.heap.size 0 12 = true := partOk_of hh (by simp [intv_length, bitTo_length])
          have p1 : partAt wi wo.heap.size 0 12 = (intv (bitTo b k)).toArray := by
            rw [partAt_of hh, show 0 + 12 = (intv (bitTo b k)).toArray.size from by simp [intv_length, bitTo_length]]
            exact Array.extract_size
          have HT := hid (isTruth_c g sa ra sc rc (bitTo b k) seen rs wi hat.c.s hat.c.r hat.c.sl hat.c.rl (bitTo_length b k) Hsf.out Hro.out hat.k1 hat.k2)
          unfold TellB at HT
          have htr : trB k seen rs b = isTruthM seen rs (bitTo b k) := rfl
          rw [← htr] at HT
          have hc1 : cntTo (trB k seen rs) (b + 1) = if trB k seen rs b = true then cntTo (trB k seen rs) b + 1 else cntTo (trB k seen rs) b := rfl
          have hcl := cntTo_le (trB k seen rs) b
          have Hhh := hid hh
          obtain ⟨V, hV⟩ : ∃ V, V = (intv (bitTo b k)).toArray := ⟨_, rfl⟩
          rw [← hV] at p1 HT
          obtain ⟨cb, hcb⟩ : ∃ cb, cb = cntTo (trB k seen rs) b := ⟨_, rfl⟩
          rw [← hcb] at hc1 hcl HJb
          have HV := hid hV
          clear hh hO hO2 htr hV b0 b1 hat hcb
          cases htb : trB k seen rs b with
          | true =>
            rw [htb] at HT hc1
            rw [if_pos rfl] at hc1
            have Hc1 := hid hc1
            clear hc1 htb
            gi_wp2
            refine ⟨trivial, rfl, (callsIn_wide.2 HT.out).mono ?_⟩
            rintro e w2 ⟨rfl, hB2⟩
            have hh2 := (hB2.block wo.heap.size (Array.getElem?_eq_some_iff.1 Hhh.out).1).trans Hhh.out
            have o2 : partOk w2 wo.heap.size 0 12 = true := partOk_of hh2 (by simp [intv_length, bitTo_length])
            have p2 : partAt w2 wo.heap.size 0 12 = V := by
              rw [partAt_of hh2, HV.out, show 0 + 12 = (intv (bitTo b k)).toArray.size from by simp [intv_length, bitTo_length]]
              exact Array.extract_size
            have HB3 := hid (bstep HBi.out hB2)
            have G0 := hid (cstep F0.out hB2)
            have hlw2 : l < w2.heap.size := Nat.lt_of_lt_of_le hlr (Nat.le_trans HO2.out.size hB2.size)
            obtain ⟨fn, tmps, assign, body, hy, hR⟩ := HY.out cb #[.agg V] w2 (HJ.out _ _ _ HJb.out (bstep HO2.out hB2)) rfl (by omega)
            have HR := hid hR; have Hy := hid hy
            clear hR hh2 hB2 o1 p1 f0 f1 hy
            have hy := Hy.out
            gi_wp2
            refine ⟨rfl, HR.out.mono ?_⟩
            rintro e W3 (⟨rfl, hJ3, hO3⟩ | ⟨rfl, hJ3⟩)
            · have hB3 : Below w1.heap.size w1 W3 := HB3.out.trans (hO3.below HB3.out.size (by
                rintro j hj (h | h)
                · have := (HS.out _ h).1; omega
                · have := Hl.out; omega))
              have hs3 := hO3.size
              have g3 := hO3.cell G0.out (by rintro (h | h); exact hpS h; exact hbl h)
              have G3 := hid g3
              have HJ3 := hid hJ3; have HB4 := hid hB3
              clear hJ3 hO3 hB3 o2 p2 hy g3
              gi_wp2
              go_roundw
              case rel => exact ⟨b + 1, by go_num, by omega, by rw [Hc1.out]; exact HJ3.out, HB4.out, by omega, G3.out⟩
              case measure => simp [intOf]; omega
            · have HJ3 := hid hJ3
              clear hJ3 o2 p2 hy
              gi_wp2
              refine bodyPost_ret (results_none rfl _ _ _) rfl ?_
              exact ⟨⟨_, rfl⟩, .inr ⟨_, HJ3.out⟩⟩
          | false =>
            rw [htb] at HT hc1
            rw [if_neg (by simp)] at hc1
            have Hc1 := hid hc1
            clear hc1 htb
            gi_wp2
            refine ⟨trivial, rfl, (callsIn_wide.2 HT.out).mono ?_⟩
            rintro e w2 ⟨rfl, hB2⟩
            have HB3 := hid (bstep HBi.out hB2)
            have G0 := hid (cstep F0.out hB2)
            have hlw2 : l < w2.heap.size := Nat.lt_of_lt_of_le hlr (Nat.le_trans HO2.out.size hB2.size)
            have HJ3 := hid (HJ.out _ _ _ HJb.out (bstep HO2.out hB2))
            clear hB2 o1 p1 f0 f1
            gi_wp2
            refine ⟨(fun _ h => by cases h), ?_⟩
            gi_wp2
            go_roundw
            case rel => exact ⟨b + 1, by go_num, by omega, by rw [Hc1.out]; exact HJ3.out, HB3.out, by omega, G0.out⟩
            case measure => simp [intOf]; omega
    · obtain rfl : b = P := by omega
      gi_wp2
      refine bodyPost_end (results_none rfl _ _ _) rfl ?_
      exact ⟨⟨_, rfl⟩, .inl ⟨_, rfl, HJb.out⟩⟩

theorem enters92 : ∀ args w, (callFunc 92 args).run Try.prog w = .ok (.enter 92 args) w := enters_of Try.func92 (by kernel_rfl) rfl

set_option maxRecDepth 100000 in
theorem truthsSeq_c (g : Nat) (w : World) :
    Calls Try.prog 68 #[.pointer (some ⟨g, 0, none⟩)] w fun e w' => e = .returned (.func (.func 92) #[] #[.pointer (some ⟨w.heap.size, 0, none⟩)]) ∧ w.alloc (.cells #[.pointer (some ⟨g, 0, none⟩)] 73) = w' := by
  go_enter Try.func68, Try.ntmps68
  go_wp2
  go_ret
  exact ⟨rfl, rfl⟩

def pCountN (facts : Int) (seen : List Int) (rs : List Rl) : Int := if caseErr facts seen rs = 0 then (cntTo (trB facts.toNat seen rs) (2 ^ facts.toNat) : Nat) else 0

structure CntI (w1 : World) (nb N k : Nat) (W : World) : Prop where
  le : k ≤ N
  n : W.cell? ⟨nb, 0, none⟩ = some (.int .i64 k)
  fr : W.frozen? ⟨nb, 0, none⟩ = false
  b : Below w1.heap.size w1 W
theorem CntI.only {w1 : World} {nb N k l : Nat} {W W' : World} (h : CntI w1 nb N k W) (ho : Only (fun b => b = l) W W') (hl : nb < l) (hl2 : w1.heap.size ≤ l) : CntI w1 nb N k W' :=
  ⟨h.le, ho.cell h.n (by simp; omega), (World.frozen?_of_block (ho.block _ (block_lt_of_cell h.n) (by simp; omega))).trans h.fr, h.b.trans (ho.below h.b.size (by intro j hj; omega))⟩

theorem open_none {facts : Int} {seen : List Int} {rs : List Rl} : openErr facts seen rs [] = caseErr facts seen rs := by unfold openErr; split <;> simp_all [within_nil]

set_option maxRecDepth 100000 in
set_option maxHeartbeats 4000000 in
theorem count_c (facts : Int) (sa : Option Addr) (sc : Nat) (seen : List Int) (ra : Option Addr) (rc : Nat) (rs : List Rl) (w : World) (hc : CaseAt w sa ra seen rs) :
    Calls Try.prog 25 #[.agg #[.int .i64 facts, .slice sa seen.length sc, .slice ra rs.length rc]] w (NumE w (pCountN facts seen rs) (caseErr facts seen rs)) := by
  obtain ⟨W0, hW0⟩ : ∃ W0, W0 = w.alloc (.cells #[.int .i64 facts, .slice sa seen.length sc, .slice ra rs.length rc] 25) := ⟨_, rfl⟩
  have HB0 := hid (show Below w.heap.size w W0 by rw [hW0]; exact bnew w _)
  obtain ⟨c0, c1, c2⟩ := caseBox w facts sa ra seen.length sc rs.length rc
  rw [← hW0] at c0 c1 c2
  have C0 := hid c0; have C1 := hid c1; have C2 := hid c2
  have HS := hid hW0
  have HO := hid (open_c facts sa sc seen ra rc rs none 0 [] W0 (hc.mono HB0.out) (IntsAt.nil _ _) (by simp))
  rw [open_none] at HO
  unfold NumE pCountN
  by_cases hz : caseErr facts seen rs = 0
  · rw [if_pos hz]
    obtain ⟨f, rfl, hf1, hf2⟩ := case_nat hz
    rw [hz] at HO ⊢
    rw [Int.toNat_natCast]
    obtain ⟨C, hC⟩ : ∃ C, C = cntTo (trB f seen rs) (2 ^ f) := ⟨_, rfl⟩
    rw [← hC]
    have HCn := hid hC
    clear hC
    have Hc := hid hc; have Hsf := hid (case_seen hz); have Hro := hid (case_rules hz hc.il)
    clear hc hz hW0 c0 c1 c2
    refine callsIn_wide.1 (callsIn_of_wp_marks (n := 0) Try.func25 rfl trivial ?_ rfl)
    simp only [Try.ntmps25, List.size_toArray, List.length_cons, List.length_nil, Nat.reduceAdd, Nat.reduceSub, Array.replicate_succ, Array.replicate_zero, List.push_toArray, List.append_toArray, List.nil_append, List.cons_append]
    gi_wp2
    rw [← HS.out]
    refine ⟨trivial, rfl, (callsIn_wide.2 HO.out).mono ?_⟩
    rintro e w1 ⟨p, rfl, hB, hp⟩
    obtain ⟨g, bm, oa, oc, rfl, hd⟩ := hp rfl
    have HB1 := hid (bstep HB0.out hB)
    have Hd := hid hd
    clear hB hp hd
    gi_wp2
    refine ⟨trivial, rfl, (callsIn_wide.2 (truthsSeq_c g _)).mono ?_⟩
    rintro e w2 ⟨rfl, rfl⟩
    gi_wp2
    obtain ⟨W3, hW3⟩ : ∃ W3, W3 = (w1.alloc (.cells #[.int .i64 0] 3)).alloc (.cells #[.pointer (some ⟨g, 0, none⟩)] 73) := ⟨_, rfl⟩
    have hs3 : W3.heap.size = w1.heap.size + 2 := by rw [hW3]; simp
    have hB3 : Below w1.heap.size w1 W3 := by rw [hW3]; exact bstep (bnew w1 _) (bnew _ _)
    have hp3 : W3.cell? ⟨w1.heap.size + 1, 0, none⟩ = some (.pointer (some ⟨g, 0, none⟩)) := by rw [hW3]; simp [go_sem]
    have hn3 : W3.cell? ⟨w1.heap.size, 0, none⟩ = some (.int .i64 0) := by rw [hW3]; simp [go_sem]
    have hf3 : W3.frozen? ⟨w1.heap.size, 0, none⟩ = false := by rw [hW3]; simp [go_sem]
    have htr : TrAt w1 g f sa sc seen ra rc rs := ⟨Hd.out.k0, Hd.out.k1, Hd.out.k2, Hc.out.mono HB1.out⟩
    rw [← hW3]
    have hI0 : CntI w1 w1.heap.size (2 ^ f) 0 W3 := ⟨Nat.zero_le _, hn3, hf3, hB3⟩
    have Hs3 := hid hs3; have HpW := hid (pow_le hf2)
    clear hW3 hn3 hf3
    have hTR := truths1_c (w1.heap.size + 1) g f sa sc seen ra rc rs w1 W3 (fun b => b = w1.heap.size) (fun k hk => by have hk' : k = w1.heap.size := hk; omega) htr hp3 (by show ¬ w1.heap.size + 1 = w1.heap.size; omega) hB3 hf2 Hsf.out Hro.out
    rw [← HCn.out] at hTR
    refine range_law (S := fun b => b = w1.heap.size) (L := 2 ^ f) (N := 2 ^ f) (X := fun _ v _ => v.size = 1) (Done := fun k => k = C) rfl enters92
      hTR ?hS ?hps ?hX (CntI w1 w1.heap.size (2 ^ f)) (fun _ _ _ => False) ?hI ?hIx (fun k W h => h.le) hI0
      (fun v => { tmps := #[.agg #[.int .i64 f, .slice sa seen.length sc, .slice ra rs.length rc], .pointer (some ⟨w.heap.size, 0, none⟩), .int .i64 0, .int .i64 0, .pointer (some ⟨g, 0, none⟩), .int .i64 0, .pointer (some ⟨w1.heap.size, 0, none⟩),
        .tuple #[.pointer (some ⟨g, 0, none⟩), .int .i64 0], .agg #[.int .i64 f, .slice sa seen.length sc, .slice ra rs.length rc], .tuple #[.pointer (some ⟨g, 0, none⟩), .int .i64 0], .pointer (some ⟨g, 0, none⟩), .int .i64 0, .int .i64 0, .bool false, undef, .pointer (some ⟨g, 0, none⟩),
        .func (.func 92) #[] #[.pointer (some ⟨w1.heap.size + 1, 0, none⟩)], v.getD 0 undef, undef, undef, undef], defers := [] }) ?assign ?body ?done ?stop
    case hS => rw [hs3]; constructor <;> omega
    case hps => intro k v W hv; exact hv
    case hX => intro k v W W' hv _; exact hv
    case hI => intro k W W' h ho; exact h.only ho (by rw [hs3]; omega) (by rw [hs3]; omega)
    case hIx => intro c k W W' h; exact h.elim
    case assign =>
      intro l k v W K hx hK
      obtain ⟨x, rfl⟩ : ∃ x, v = #[x] := by
        obtain ⟨vl⟩ := v
        match vl, hx with
        | [x], _ => exact ⟨x, rfl⟩
      gi_wp2
      simpa using hK
    case body =>
      intro k v W hW hI hX hkl
      have hn := hI.n; have hfr := hI.fr
      have hk2 : k ≤ 5000 := by have := HpW.out; omega
      have HI := hid hI
      clear hI hX
      gi_wp2
      have hO := setCell_only (w := W) w1.heap.size 0 (.int .i64 ((k : Int) + 1))
      refine ⟨hO, ⟨by omega, ?_, ?_, HI.out.b.trans (hO.below HI.out.b.size (by intro j hj e; have e' : j = w1.heap.size := e; omega))⟩⟩
      · simp [go_sem, hn]
      · simp [go_sem, hfr]
    case done =>
      rintro k W hk hI hD hlt
      have hk' : k = C := hk
      subst hk'
      have hn := hI.n
      have HI := hid hI
      clear hI
      gi_wp2
      rw [Hs3.out] at hD
      refine ⟨by simp, .inl ⟨_, _, rfl, run_takeDeferred hD, ?_⟩⟩
      have h2 := HI.out.only (Only.put1 W (w1.heap.size + 2) (.deferred none)) (by omega) (by omega)
      exact ⟨_, results_tmp2 rfl _ _ _, rfl, bstep HB1.out h2.b⟩
    case stop => intro c k W h; exact h.elim
  · rw [if_neg hz]
    have hcb := errB hz
    clear hc hz hW0 c0 c1 c2
    generalize caseErr facts seen rs = c at *
    refine callsIn_wide.1 (callsIn_of_wp_marks (n := 0) Try.func25 rfl trivial ?_ rfl)
    simp only [Try.ntmps25, List.size_toArray, List.length_cons, List.length_nil, Nat.reduceAdd, Nat.reduceSub, Array.replicate_succ, Array.replicate_zero, List.push_toArray, List.append_toArray, List.nil_append, List.cons_append]
    gi_wp2
    rw [← HS.out]
    refine ⟨trivial, rfl, (callsIn_wide.2 HO.out).mono ?_⟩
    rintro e w1 ⟨p, rfl, hB, hp⟩
    have HB1 := hid (bstep HB0.out hB)
    clear hB hp
    gi_wp2
    exact ⟨_, results_tmp2 rfl _ _ _, rfl, HB1.out⟩

end Go.Proofs.Ytkioejdddmnbmaa

namespace Go.Proofs.Ytkioejdddmnbmaa
open Go.RowKit Go.Shelf
attribute [local go_sem ↓] wp_get wp_get0 wp_getS wp78 wps78 wpa78

theorem eql_nil22 (a : Option Addr) (l c : Nat) (w : World) : (binOp .eql 22 (.slice a l c) (.slice none 0 0)).run Try.prog w = .ok (.bool a.isNone) w := by
  simp only [binOp]
  simp [run_equal_slice_nil w 22 3 a l c Try.underlying22]
theorem eql_nil23 (a : Option Addr) (l c : Nat) (w : World) : (binOp .eql 23 (.slice a l c) (.slice none 0 0)).run Try.prog w = .ok (.bool a.isNone) w := by
  simp only [binOp]
  simp [run_equal_slice_nil w 23 60 a l c Try.underlying23]
attribute [local go_sem] eql_nil22 eql_nil23

theorem own_lit0 (w : World) (B : Nat) (hB : B ≤ w.heap.size) : OwnI B (w.alloc (.cells #[] 3)) (some ⟨w.heap.size, 0, none⟩) 0 0 [] :=
  ⟨rfl, World.ownsRow_made (base := B) (e := 3) (size := 1) w #[] 0 hB (by unfold maxLen; omega) rfl⟩

/-- a list of the call's own is handed back -/
def OwnR (w : World) (xs : List Int) (e : Ending) (w' : World) : Prop := ∃ ao cap, e = .returned (.slice ao xs.length cap) ∧ OwnI w.heap.size w' ao xs.length cap xs ∧ Below w.heap.size w w'

set_option maxRecDepth 100000 in
set_option maxHeartbeats 2000000 in
theorem clone_c (a : Option Addr) (cap : Nat) (l : List Int) (w : World) (hx : IntsAt w a l) (hl : l.length ≤ 100000) (hnil : a = none → cap = 0) : Calls Try.prog 69 #[.slice a l.length cap] w (OwnR w l) := by
  have Hx := hid hx
  clear hx
  cases a with
  | none =>
    obtain rfl : l = [] := by
      rcases Hx.out with h | ⟨b, off, h, _⟩
      · exact h
      · cases h
    obtain rfl := hnil rfl
    go_enter Try.func69, Try.ntmps69
    go_wp2
    go_ret
    exact ⟨none, 0, rfl, OwnI.nil _ _, Below.refl _ _⟩
  | some a =>
    go_enter Try.func69, Try.ntmps69
    have H0 := hid (own_lit0 w w.heap.size (Nat.le_refl _))
    have HB := hid (bnew w (.cells #[] 3))
    go_wp2_with (at_builtin; refine wpList_app_many _ rfl _ _ rfl w.heap.size (some ⟨w.heap.size, 0, none⟩) 0 0 [] rfl H0.out (some a) l.length cap l rfl ?c1 rfl ?c2 ?c3 ?c4 ?c5; rotate_right; (intro ao' cap' w' hB' hown' hgr' hne'; refine Hid.out ?_))
    case c1 => exact Hx.out.mono HB.out
    case c2 => exact fun h => by cases h
    case c3 => omega
    case c4 => simp
    case c5 =>
      refine hid ?_
      have Hown' := hid hown'
      have HB' := hid (HB.out.trans hB')
      clear hown' hB' hgr' hne'
      go_wp2
      go_ret
      have h := Hown'.out
      rw [Nat.zero_add, List.nil_append] at h
      exact ⟨ao', cap', rfl, h, HB'.out⟩

def pLeastE (facts : Int) (seen : List Int) (rs : List Rl) : Int := if caseErr facts seen rs = 0 then (if 0 ≤ (deskOf seen rs).clash then 24 else 0) else caseErr facts seen rs
def pLeastL (facts : Int) (seen : List Int) (rs : List Rl) : List Int := if caseErr facts seen rs = 0 then (if 0 ≤ (deskOf seen rs).clash then [] else listM (deskOf seen rs).known) else []

set_option maxRecDepth 100000 in
set_option maxHeartbeats 4000000 in
theorem least_c (facts : Int) (sa : Option Addr) (sc : Nat) (seen : List Int) (ra : Option Addr) (rc : Nat) (rs : List Rl) (w : World) (hc : CaseAt w sa ra seen rs) :
    Calls Try.prog 23 #[.agg #[.int .i64 facts, .slice sa seen.length sc, .slice ra rs.length rc]] w (ListE w (pLeastL facts seen rs) (pLeastE facts seen rs)) := by
  obtain ⟨W0, hW0⟩ : ∃ W0, W0 = w.alloc (.cells #[.int .i64 facts, .slice sa seen.length sc, .slice ra rs.length rc] 25) := ⟨_, rfl⟩
  have HB0 := hid (show Below w.heap.size w W0 by rw [hW0]; exact bnew w _)
  obtain ⟨c0, c1, c2⟩ := caseBox w facts sa ra seen.length sc rs.length rc
  rw [← hW0] at c0 c1 c2
  have C0 := hid c0; have C1 := hid c1; have C2 := hid c2
  have HS := hid hW0
  have HO := hid (open_c facts sa sc seen ra rc rs none 0 [] W0 (hc.mono HB0.out) (IntsAt.nil _ _) (by simp))
  rw [open_none] at HO
  unfold ListE pLeastL pLeastE
  by_cases hz : caseErr facts seen rs = 0
  · rw [if_pos hz, if_pos hz]
    rw [hz] at HO
    obtain ⟨st, hst⟩ : ∃ st, st = deskOf seen rs := ⟨_, rfl⟩
    rw [← hst] at HO ⊢
    clear hc hz hW0 c0 c1 c2 hst
    by_cases hcl : 0 ≤ st.clash
    · rw [if_pos hcl, if_pos hcl]
      go_enter Try.func23, Try.ntmps23
      go_wp2_with fail
      rw [← HS.out]
      refine HO.out.mono ?_
      rintro e w1 ⟨p, rfl, hB, hp⟩
      obtain ⟨g, bm, oa, oc, rfl, hd⟩ := hp rfl
      have HB1 := hid (bstep HB0.out hB)
      have kc := hd.kC
      clear hB hp hd
      go_wp2
      go_ret2
      exact ⟨none, 0, rfl, IntsAt.nil _ _, fun _ => rfl, HB1.out⟩
    · rw [if_neg hcl, if_neg hcl]
      obtain ⟨l, hl⟩ : ∃ l, l = listM st.known := ⟨_, rfl⟩
      rw [← hl]
      have HL0 := hid hl
      clear hl
      go_enter Try.func23, Try.ntmps23
      go_wp2_with fail
      rw [← HS.out]
      refine HO.out.mono ?_
      rintro e w1 ⟨p, rfl, hB, hp⟩
      obtain ⟨g, bm, oa, oc, rfl, hd⟩ := hp rfl
      have HB1 := hid (bstep HB0.out hB)
      have kc := hd.kC
      have o1 := hd.ok; have p1 := hd.part
      have HL := hid (list_c st.known w1 hd.len)
      unfold OwnP at HL
      obtain ⟨V, hV⟩ : ∃ V, V = (intv st.known).toArray := ⟨_, rfl⟩
      rw [← hV] at HL p1
      have hlen : (listM st.known).length ≤ 12 := selTo_length _ _
      rw [← HL0.out] at HL hlen
      have HLn := hid hlen
      clear hB hp hd hV hlen
      go_wp2_with fail
      refine HL.out.mono ?_
      rintro e w2 ⟨ao, cap, rfl, hat, hn, hB⟩
      have HB2 := hid (bstep HB1.out hB)
      have hmk := fun w => run_make_ints w l.length l.length (Nat.le_refl _) (by have := HLn.out; omega)
      have hcp := fun ty => run_copy_new ty w2 ao cap l (List.replicate l.length 0) hat (by simp)
      clear hB hat hn
      go_wp2
      go_ret2
      exact ⟨_, _, rfl, intsAt_new w2 l _ 3 rfl, (fun h => by cases h), bstep HB2.out (bnew w2 _)⟩
  · rw [if_neg hz, if_neg hz]
    have hcb := errB hz
    clear hc hz hW0 c0 c1 c2
    generalize caseErr facts seen rs = c at *
    go_enter Try.func23, Try.ntmps23
    go_wp2_with fail
    rw [← HS.out]
    refine HO.out.mono ?_
    rintro e w1 ⟨p, rfl, hB, hp⟩
    have HB1 := hid (bstep HB0.out hB)
    clear hB hp
    go_wp2
    go_ret2
    exact ⟨none, 0, rfl, IntsAt.nil _ _, fun _ => rfl, HB1.out⟩

end Go.Proofs.Ytkioejdddmnbmaa

namespace Go.Proofs.Ytkioejdddmnbmaa
open Go.RowKit Go.Shelf
attribute [local go_sem ↓] wp_get wp_get0 wp_getS wp78 wps78 wpa78

def pVerdictE (facts : Int) (seen : List Int) (rs : List Rl) (x : Int) : Int := if openErr facts seen rs [x] = 0 then (if 0 ≤ (deskOf seen rs).clash then 24 else 0) else openErr facts seen rs [x]
def pVerdictN (facts : Int) (seen : List Int) (rs : List Rl) (x : Int) : Int :=
  if openErr facts seen rs [x] = 0 then (if 0 ≤ (deskOf seen rs).clash then 0 else if 0 < nth (deskOf seen rs).known x.toNat then 2 else if 0 ≤ (deskOf (seen ++ [x]) rs).clash then 0 else 1) else 0

theorem open_zero {facts : Int} {seen : List Int} {rs : List Rl} {l : List Int} (h : openErr facts seen rs l = 0) : caseErr facts seen rs = 0 ∧ within 0 (facts - 1) l = true := by
  unfold openErr at h
  split at h
  · rename_i h1
    split at h
    · rename_i h2; exact ⟨h1, h2⟩
    · cases h
  · rename_i h1; exact absurd h h1
theorem factsOk_append {a b : List Int} (ha : factsOk a) (hb : factsOk b) : factsOk (a ++ b) := by
  intro k hk
  by_cases h : k < a.length
  · rw [nth_append_left h]; exact ha k h
  · obtain ⟨j, rfl⟩ : ∃ j, k = a.length + j := ⟨k - a.length, by omega⟩
    rw [nth_append_right]
    rw [List.length_append] at hk
    exact hb j (by omega)

set_option maxRecDepth 100000 in
set_option maxHeartbeats 2000000 in
theorem verdict_c (facts : Int) (sa : Option Addr) (sc : Nat) (seen : List Int) (ra : Option Addr) (rc : Nat) (rs : List Rl) (x : Int) (w : World) (hc : CaseAt w sa ra seen rs) (hnil : sa = none → sc = 0) (hsl : seen.length ≤ 1000) :
    Calls Try.prog 27 #[.agg #[.int .i64 facts, .slice sa seen.length sc, .slice ra rs.length rc], .int .i64 x] w (NumE w (pVerdictN facts seen rs x) (pVerdictE facts seen rs x)) := by
  obtain ⟨W0, hW0⟩ : ∃ W0, W0 = w.alloc (.cells #[.int .i64 facts, .slice sa seen.length sc, .slice ra rs.length rc] 25) := ⟨_, rfl⟩
  have HB0 := hid (show Below w.heap.size w W0 by rw [hW0]; exact bnew w _)
  obtain ⟨c0, c1, c2⟩ := caseBox w facts sa ra seen.length sc rs.length rc
  rw [← hW0] at c0 c1 c2
  have C0 := hid c0; have C1 := hid c1; have C2 := hid c2
  have HS := hid hW0
  obtain ⟨W1, hW1⟩ : ∃ W1, W1 = W0.alloc (.cells #[.int .i64 x] 3) := ⟨_, rfl⟩
  have hb01 : Below W0.heap.size W0 W1 := by rw [hW1]; exact bnew _ _
  have HO := hid (open_c facts sa sc seen ra rc rs (some ⟨w.heap.size + 1, 0, none⟩) 1 [x] W1 (hc.mono (bstep HB0.out hb01)) (by have h := at_lit1 W0 x; rw [← hW1, show W0.heap.size = w.heap.size + 1 from by rw [hW0]; simp] at h; exact h) (by simp))
  have HS1 := hid hW1
  have HB01 := hid hb01
  have D0 := hid (cstep c0 hb01); have D1 := hid (cstep c1 hb01); have D2 := hid (cstep c2 hb01)
  unfold NumE pVerdictN pVerdictE
  have hlen1 : ([x] : List Int).length = 1 := rfl
  rw [hlen1] at HO
  by_cases hz : openErr facts seen rs [x] = 0
  · rw [if_pos hz, if_pos hz]
    rw [hz] at HO
    obtain ⟨hz2, hw⟩ := open_zero hz
    obtain ⟨hx0, hx1⟩ := within_one.1 hw
    obtain ⟨⟨f0, f1⟩, _⟩ := case_zero hz2
    obtain ⟨n, rfl⟩ := Int.eq_ofNat_of_zero_le hx0
    have hn12 : n < 12 := by omega
    have HN := hid fun (a : Option Addr) (c : Nat) (w' : World) (h : Below w.heap.size w w') (hat : IntsAt w' a (seen ++ [(n : Int)])) => newDesk_c facts a c (seen ++ [(n : Int)]) ra rc rs w' hat (by simp; omega)
      (factsOk_append (case_seen hz2) (factsOk_one hx0 (by omega))) (hc.r.mono h) (case_rules hz2 hc.il) hc.rl
    have HC := hid fun (w' : World) (h : Below w.heap.size w w') => clone_c sa sc seen w' (hc.s.mono h) (by omega) hnil
    have hle : (seen ++ [(n : Int)]).length = seen.length + 1 := by simp
    rw [hle] at HN
    rw [Int.toNat_natCast]
    obtain ⟨st, hst⟩ : ∃ st, st = deskOf seen rs := ⟨_, rfl⟩
    obtain ⟨st2, hst2⟩ : ∃ st, st = deskOf (seen ++ [(n : Int)]) rs := ⟨_, rfl⟩
    rw [← hst] at HO ⊢
    rw [← hst2] at HN ⊢
    unfold OwnR at HC
    unfold DeskP at HN
    clear hc hz hz2 hW0 c0 c1 c2 hst hst2 hw hx0 hx1 f0 f1 hle hnil hW1 hb01
    have hx12 : (n : Int) < 12 := by omega
    by_cases hcl : 0 ≤ st.clash
    · rw [if_pos hcl, if_pos hcl]
      go_enter Try.func27, Try.ntmps27
      go_wp2_with fail
      rw [← HS.out, ← HS1.out]
      refine HO.out.mono ?_
      rintro e w1 ⟨p, rfl, hB, hp⟩
      obtain ⟨g, bm, oa, oc, rfl, hd⟩ := hp rfl
      have HB1 := hid (bstep HB0.out (bstep HB01.out hB))
      have kc := hd.kC
      clear hB hp hd
      go_wp2
      go_ret2
      exact ⟨rfl, HB1.out⟩
    · rw [if_neg hcl, if_neg hcl]
      by_cases hk : 0 < nth st.known n
      · rw [if_pos hk]
        go_enter Try.func27, Try.ntmps27
        go_wp2_with fail
        rw [← HS.out, ← HS1.out]
        refine HO.out.mono ?_
        rintro e w1 ⟨p, rfl, hB, hp⟩
        obtain ⟨g, bm, oa, oc, rfl, hd⟩ := hp rfl
        have HB1 := hid (bstep HB0.out (bstep HB01.out hB))
        have kc := hd.kC
        have kk := hd.kK hn12
        generalize nth st.known n = v at *
        clear hB hp hd
        go_wp2
        go_ret2
        exact ⟨rfl, HB1.out⟩
      · rw [if_neg hk]
        go_enter Try.func27, Try.ntmps27
        go_wp2_with fail
        rw [← HS.out, ← HS1.out]
        refine HO.out.mono ?_
        rintro e w1 ⟨p, rfl, hB, hp⟩
        obtain ⟨g, bm, oa, oc, rfl, hd⟩ := hp rfl
        have HB1 := hid (bstep HB0.out (bstep HB01.out hB))
        have kc := hd.kC
        have kk := hd.kK hn12
        generalize nth st.known n = v at *
        have e0 := cstep D0.out hB; have e1 := cstep D1.out hB; have e2 := cstep D2.out hB
        have E1 := hid e1
        clear hB hp hd
        obtain ⟨W2, hW2⟩ : ∃ W2, W2 = w1.alloc (.cells #[.int .i64 facts, .slice sa seen.length sc, .slice ra rs.length rc] 25) := ⟨_, rfl⟩
        have hal : Below w1.heap.size w1 W2 := by rw [hW2]; exact bnew _ _
        obtain ⟨b0, b1, b2⟩ := caseBox w1 facts sa ra seen.length sc rs.length rc
        rw [← hW2] at b0 b1 b2
        have hbf : W2.frozen? ⟨w1.heap.size, 1, none⟩ = false := by rw [hW2]; simp [go_sem]
        have hbs : w1.heap.size < W2.heap.size := by rw [hW2]; simp
        have Hal := hid hal; have Hbf := hid hbf
        have B0 := hid b0; have B1 := hid b1; have B2 := hid b2
        have HW2 := hid hW2
        clear hal b0 b1 b2 hbf hW2
        have g1 := cstep e1 (bnew w1 (.cells #[.int .i64 facts, .slice sa seen.length sc, .slice ra rs.length rc] 25))
        go_wp2_with fail
        rw [← HW2.out]
        refine (HC.out _ (bstep HB1.out Hal.out)).mono ?_
        rintro e w2 ⟨ao, cap, rfl, hown, hB⟩
        have Hown := hid hown; have HB2 := hid hB
        clear hown hB e0 e1 e2 kc kk g1
        go_wp2_with (at_builtin; refine wpList_app_own _ rfl _ _ rfl W2.heap.size ao seen.length cap seen rfl ?d1 _ (n : Int) rfl ?d2 ?d3 ?d4 ?d5; rotate_right; (intro b' cap' w' hB' hb' hown' hgr'; refine Hid.out ?_))
        case d1 => exact Hown.out.alloc _
        case d2 => simp
        case d3 => omega
        case d4 => have := HB2.out.size; simp; omega
        case d5 =>
          refine hid ?_
          have HB3 := hid (HB2.out.trans (((bnew w2 (.cells #[.int .i64 n] 3)).mono HB2.out.size).trans hB'))
          have q0 := cstep B0.out HB3.out; have q1 := cstep B1.out HB3.out; have q2 := cstep B2.out HB3.out
          have qf : w'.frozen? ⟨w1.heap.size, 1, none⟩ = false := (HB3.out.frozen (p := ⟨w1.heap.size, 1, none⟩) hbs).trans Hbf.out
          have Hown' := hid hown'
          have hbne : b' ≠ w1.heap.size := by omega
          have Hbne := hid hbne
          clear hown' hB' hgr' hbne
          go_wp2_with fail
          have hat2 := Hown'.out.at.only (setCell_only w1.heap.size 1 (.slice (some ⟨b', 0, none⟩) (seen.length + 1) cap')) (fun b off e _ => by cases e; exact Hbne.out)
          have hB4 : Below w.heap.size w (w'.setCell ⟨w1.heap.size, 1, none⟩ (.slice (some ⟨b', 0, none⟩) (seen.length + 1) cap')) := (bstep HB1.out (bstep Hal.out HB3.out)).setCell HB1.out.size _
          have HB4 := hid hB4
          refine (HN.out _ _ _ hB4 hat2).mono ?_
          rintro e w3 ⟨g2, bm2, oa2, oc2, rfl, hd2, hB5⟩
          have kc2 := hd2.kC
          have HB5 := hid (bstep HB4.out hB5)
          clear hd2 hB5 hB4 hat2 q0 q1 q2 qf
          by_cases hcl2 : 0 ≤ st2.clash
          · go_wp2
            go_ret2
            exact ⟨rfl, HB5.out⟩
          · go_wp2
            go_ret2
            exact ⟨rfl, HB5.out⟩
  · rw [if_neg hz, if_neg hz]
    have hcb := errB hz
    clear hc hz hW0 c0 c1 c2 hW1 hb01
    generalize openErr facts seen rs [x] = c at *
    go_enter Try.func27, Try.ntmps27
    go_wp2_with fail
    rw [← HS.out, ← HS1.out]
    refine HO.out.mono ?_
    rintro e w1 ⟨p, rfl, hB, hp⟩
    have HB1 := hid (bstep HB0.out (bstep HB01.out hB))
    clear hB hp
    go_wp2
    go_ret2
    exact ⟨rfl, HB1.out⟩

end Go.Proofs.Ytkioejdddmnbmaa

namespace Go.Proofs.Ytkioejdddmnbmaa
open Go.RowKit Go.Shelf
attribute [local go_sem ↓] wp_get wp_get0 wp_getS wp78 wps78 wpa78

set_option maxRecDepth 100000 in
theorem index_c (a : Option Addr) (cap : Nat) (l : List Int) (n : Int) (w : World) (hx : IntsAt w a l) (hl : l.length ≤ 1000000) :
    Calls Try.prog 94 #[.slice a l.length cap, .int .i64 n] w fun e w' => (∃ i : Int, e = .returned (.int .i64 i) ∧ decide (0 ≤ i) = l.any (fun x => n == x)) ∧ w' = w := by
  have Hx := hid hx
  clear hx
  obtain ⟨R, hR⟩ : ∃ R, R = l.any (fun x => n == x) := ⟨_, rfl⟩
  rw [← hR]
  have HR := hid hR
  clear hR
  go_enter Try.func94, Try.ntmps94
  go_wp2
  go_loop [8] (fun i => ∃ k : Nat, k ≤ l.length ∧ i = .int .i64 k ∧ (l.take k).any (fun x => n == x) = false) (fun i => l.length - (intOf i).toNat)
  case atStart => exact ⟨0, Nat.zero_le _, rfl, rfl⟩
  case round =>
    obtain ⟨k, hk, rfl, hp⟩ := hrel
    have Hp := hid hp
    clear hp
    by_cases hlt : k < l.length
    · obtain ⟨b, off, rfl, hc⟩ := Hx.out.at hlt
      have Ht := hid (any_take_succ (fun x => n == x) hlt)
      by_cases he : n = nth l k
      · have hany : l.any (fun x => n == x) = true := List.any_eq_true.2 ⟨_, nth_mem hlt, by simp [← he]⟩
        have Hany := hid hany
        rw [← he] at hc
        clear he hany
        go_wp2
        go_ret
        exact ⟨⟨_, rfl, by rw [HR.out, Hany.out]; exact decide_eq_true (by omega)⟩, rfl⟩
      · have heb : (n == nth l k) = false := by simpa using he
        have Heb := hid heb
        go_wp2
        go_round
        case rel => exact ⟨k + 1, by omega, by go_num, by rw [Ht.out, Hp.out, Heb.out]; rfl⟩
        case measure => simp [intOf]; omega
    · obtain rfl : k = l.length := by omega
      go_wp2
      go_ret
      have hp := Hp.out
      rw [List.take_of_length_le (by omega)] at hp
      exact ⟨⟨_, rfl, by rw [HR.out, hp]; decide⟩, rfl⟩

set_option maxRecDepth 100000 in
theorem contains_c (a : Option Addr) (cap : Nat) (l : List Int) (n : Int) (w : World) (hx : IntsAt w a l) (hl : l.length ≤ 1000000) :
    Calls Try.prog 72 #[.slice a l.length cap, .int .i64 n] w fun e w' => e = .returned (.bool (l.any (fun x => n == x))) ∧ w' = w := by
  have H := hid (index_c a cap l n w hx hl)
  clear hx hl
  generalize l.any (fun x => n == x) = R at *
  go_enter Try.func72, Try.ntmps72
  go_wp2_with fail
  refine H.out.mono ?_
  rintro e w1 ⟨⟨i, rfl, hi⟩, rfl⟩
  have Hi := hid hi
  clear hi
  go_wp2
  go_ret
  exact ⟨ret_bool Hi.out, rfl⟩

def dupB (l : List Int) : Bool := (List.range l.length).any fun k => (l.take k).any (fun x => nth l k == x)

/-- what is known behind steps; no steps: none -/
def pGo (rs : List Rl) : List Int → List Int → Option (List Int × Bool)
  | m, [] => some (m, false)
  | m, n :: t => if hasM m (nthR rs n.toNat).1 = true then (if (nthR rs n.toNat).2 < 0 then (if t = [] then some (m, true) else none) else pGo rs (m.set (nthR rs n.toNat).2.toNat 1) t) else none
def pFin : Option (List Int × Bool) → List Int × Bool × Int
  | none => ([], false, 16)
  | some (m, c) => (listM m, c, 0)
def pcs (facts : Int) (seen : List Int) (rs : List Rl) (steps : List Int) : List Int × Bool × Int :=
  if caseErr facts seen rs = 0 then (if within 0 ((rs.length : Int) - 1) steps = true then (if dupB steps = true then ([], false, 11) else pFin (pGo rs (markL seen) steps)) else ([], false, 3)) else ([], false, caseErr facts seen rs)

def StepsP (w : World) (r : List Int × Bool × Int) (e : Ending) (w' : World) : Prop :=
  ∃ ao cap, e = .returned (.tuple #[.slice ao r.1.length cap, .bool r.2.1, .int .i64 r.2.2]) ∧ IntsAt w' ao r.1 ∧ (ao = none → cap = 0) ∧ Below w.heap.size w w'

theorem within_nth {lo hi : Int} {l : List Int} (h : within lo hi l = true) {k : Nat} (hk : k < l.length) : lo ≤ nth l k ∧ nth l k ≤ hi := by
  have := List.all_eq_true.1 h _ (nth_mem hk)
  simpa using this
theorem drop_nth {l : List Int} {k : Nat} (h : k < l.length) : l.drop k = nth l k :: l.drop (k + 1) := by
  rw [List.drop_eq_getElem_cons h, nth_eq h]
theorem dup_take {l : List Int} {k : Nat} (h : (List.range k).any (fun k => (l.take k).any (fun x => nth l k == x)) = false) (h2 : (l.take k).any (fun x => nth l k == x) = false) : (List.range (k + 1)).any (fun k => (l.take k).any (fun x => nth l k == x)) = false := by
  rw [List.range_succ, List.any_append, h]; simpa using h2

set_option maxRecDepth 100000 in
set_option maxHeartbeats 4000000 in
theorem checkSteps_c (facts : Int) (sa : Option Addr) (sc : Nat) (seen : List Int) (ra : Option Addr) (rc : Nat) (rs : List Rl) (la : Option Addr) (lc : Nat) (l : List Int) (w : World) (hc : CaseAt w sa ra seen rs) (hl : IntsAt w la l) (hll : l.length ≤ 1000000) (hcap : l.length ≤ lc) :
    Calls Try.prog 30 #[.agg #[.int .i64 facts, .slice sa seen.length sc, .slice ra rs.length rc], .slice la l.length lc] w (StepsP w (pcs facts seen rs l)) := by
  obtain ⟨W0, hW0⟩ : ∃ W0, W0 = w.alloc (.cells #[.int .i64 facts, .slice sa seen.length sc, .slice ra rs.length rc] 25) := ⟨_, rfl⟩
  have HB0 := hid (show Below w.heap.size w W0 by rw [hW0]; exact bnew w _)
  obtain ⟨c0, c1, c2⟩ := caseBox w facts sa ra seen.length sc rs.length rc
  rw [← hW0] at c0 c1 c2
  have C0 := hid c0; have C1 := hid c1; have C2 := hid c2
  have HS := hid hW0
  have HCC := hid fun (w' : World) (h : Below w.heap.size w w') => checkCase_c sa ra sc rc facts seen rs w' (hc.s.mono h) (hc.r.mono h) hc.sl hc.rl hc.il
  have HL := hid hl; have Hc := hid hc
  unfold StepsP pcs
  by_cases hz : caseErr facts seen rs = 0
  · rw [if_pos hz]
    rw [hz] at HCC
    have HWi := hid fun (w' : World) (h : Below w.heap.size w w') => within_c la lc 0 ((rs.length : Int) - 1) l w' (hl.mono h) hll
    have Hsf := hid (case_seen hz); have Hro := hid (case_rules hz hc.il)
    clear hc hz hW0 c0 c1 c2 hl
    have hrl : (rs.length : Int) ≤ 1000000 := by have := Hc.out.rl; omega
    cases hw : within 0 ((rs.length : Int) - 1) l with
    | false =>
      rw [hw] at HWi
      rw [if_neg (by simp)]
      clear hw
      go_enter Try.func30, Try.ntmps30
      go_wp2_with fail
      rw [← HS.out]
      refine (HCC.out _ HB0.out).mono ?_
      rintro e w1 ⟨rfl, hB⟩
      have HB1 := hid (bstep HB0.out hB)
      have d0 := cstep C0.out hB; have d1 := cstep C1.out hB; have d2 := cstep C2.out hB
      clear hB
      go_wp2_with fail
      refine (HWi.out _ HB1.out).mono ?_
      rintro e w2 ⟨rfl, hB⟩
      have HB2 := hid (bstep HB1.out hB)
      clear hB d0 d1 d2
      go_wp2
      go_ret3
      exact ⟨none, 0, rfl, IntsAt.nil _ _, fun _ => rfl, HB2.out⟩
    | true =>
      rw [hw] at HWi
      rw [if_pos rfl]
      have Hw := hid hw
      clear hw
      obtain ⟨⟨L, C, E⟩, hT⟩ : ∃ T, T = if dupB l = true then (([] : List Int), false, (11 : Int)) else pFin (pGo rs (markL seen) l) := ⟨_, rfl⟩
      rw [← hT]
      have HT := hid hT
      clear hT
      go_enter Try.func30, Try.ntmps30
      go_wp2_with fail
      rw [← HS.out]
      refine (HCC.out _ HB0.out).mono ?_
      rintro e w1 ⟨rfl, hB⟩
      have HB1 := hid (bstep HB0.out hB)
      have d0 := cstep C0.out hB; have d1 := cstep C1.out hB; have d2 := cstep C2.out hB
      have D0 := hid d0; have D1 := hid d1; have D2 := hid d2
      clear hB
      go_wp2_with fail
      refine (HWi.out _ HB1.out).mono ?_
      rintro e w2 ⟨rfl, hB⟩
      have HB2 := hid (bstep HB1.out hB)
      have E0 := hid (cstep D0.out hB); have E1 := hid (cstep D1.out hB); have E2 := hid (cstep D2.out hB)
      clear hB d0 d1 d2 D0 D1 D2
      have HL2 := hid (HL.out.mono HB2.out)
      go_wp2
      go_loop [31] (fun i => ∃ k : Nat, k ≤ l.length ∧ i = .int .i64 k ∧ (List.range k).any (fun k => (l.take k).any (fun x => nth l k == x)) = false) (fun i => l.length - (intOf i).toNat)
      case atStart => exact ⟨0, Nat.zero_le _, rfl, rfl⟩
      case round =>
        obtain ⟨k, hk, rfl, hp⟩ := hrel
        have Hp := hid hp
        clear hp
        by_cases hlt : k < l.length
        · obtain ⟨b, off, rfl, hcc⟩ := HL2.out.at hlt
          have HCn := hid (contains_c (some ⟨b, off, none⟩) lc (l.take k) (nth l k) w2 (HL2.out.take k) (by rw [List.length_take]; omega))
          rw [show (l.take k).length = k from by rw [List.length_take]; omega] at HCn
          have hd2 := fun h => dup_take (l := l) (k := k) Hp.out h
          obtain ⟨v, hv⟩ : ∃ v, v = (l.take k).any (fun x => nth l k == x) := ⟨_, rfl⟩
          have hdup : v = true → dupB l = true := fun h => List.any_eq_true.2 ⟨k, List.mem_range.2 hlt, by rw [← hv, h]⟩
          rw [← hv] at hd2 HCn
          have Hd2 := hid hd2; have Hdup := hid hdup
          clear hd2 hdup hv
          obtain ⟨x, hx⟩ : ∃ x, x = nth l k := ⟨_, rfl⟩
          rw [← hx] at hcc HCn
          clear hx
          cases v with
          | true =>
            have hT := HT.out
            rw [if_pos (Hdup.out rfl)] at hT
            cases hT
            go_wp2_with fail
            refine HCn.out.mono ?_
            rintro e w3 ⟨rfl, rfl⟩
            go_wp2
            go_ret3
            exact ⟨none, 0, rfl, IntsAt.nil _ _, fun _ => rfl, HB2.out⟩
          | false =>
            go_wp2_with fail
            refine HCn.out.mono ?_
            rintro e w3 ⟨rfl, rfl⟩
            go_wp2
            go_round
            case rel => exact ⟨k + 1, by omega, by go_num, Hd2.out (by first | rfl | trivial)⟩
            case measure => simp [intOf]; omega
        · obtain rfl : k = l.length := by omega
          have hT := HT.out
          have hdup : dupB l = false := Hp.out
          rw [if_neg (by rw [hdup]; simp)] at hT
          have HT2 := hid hT
          clear hT hdup
          have HM := hid (marked_c sa sc seen w2 (Hc.out.s.mono HB2.out) Hc.out.sl Hsf.out)
          obtain ⟨V, hV⟩ : ∃ V, V = (intv (markL seen)).toArray := ⟨_, rfl⟩
          rw [← hV] at HM
          have e1 := E1.out
          have HV := hid hV
          have hV2 : (V.size == 12) = true := by rw [hV]; simp [intv_length, markL_length]
          have hV3 : V.all (·.oneCell') = true := by rw [hV]; simp only [List.all_toArray]; exact List.all_eq_true.2 (intv_one _)
          clear hV
          go_wp2_with fail
          refine HM.out.mono ?_
          rintro e w3 ⟨rfl, hB⟩
          have HB3 := hid (bstep HB2.out hB)
          have HB23 := hid hB
          have F0 := hid (cstep E0.out hB); have F1 := hid (cstep E1.out hB); have F2 := hid (cstep E2.out hB)
          clear hB e1
          have hpo : partOk (w3.alloc (.cells zero78 78)) w3.heap.size 0 12 = true := partOk_of (heap_alloc_new w3 _) (by simp [zero78, intv_length])
          have hfb : freeB (w3.alloc (.cells zero78 78)) w3.heap.size = true := freeB_of (heap_alloc_new w3 _)
          have hVs : V.size = 12 := by simpa using hV2
          have hset : World.setPart (w3.alloc (.cells zero78 78)) w3.heap.size 0 V = w3.alloc (.cells V 78) := by
            unfold World.setPart
            rw [heap_alloc_new]
            simp only [List.take_zero, List.nil_append, Nat.zero_add, hVs]
            rw [setRow_alloc, List.drop_of_length_le (by simp [zero78, intv_length])]
            simp
          have HVs := hid hVs; have Hset := hid hset
          clear hVs hset
          go_wp2
          rw [Hset.out]
          clear hpo hfb hV2 hV3
          go_loopw [47] (fun i wr => ∃ (k : Nat) (m : List Int), k ≤ l.length ∧ i = .int .i64 k ∧ MarksAt wr w3.heap.size m ∧ pGo rs m (l.drop k) = pGo rs (markL seen) l ∧ Below w3.heap.size w3 wr) (fun i _ => l.length - (intOf i).toNat)
          case atStart => exact ⟨0, markL seen, Nat.zero_le _, rfl, ⟨markL_length _, by rw [heap_alloc_new, HV.out]⟩, rfl, bnew w3 _⟩
          case round =>
            obtain ⟨k, m, hk, rfl, hm, hgo, hB⟩ := hrel
            obtain ⟨wo, rfl⟩ : ∃ wo : World, wo = wr := ⟨_, rfl⟩
            have Hm := hid hm; have HB := hid hB
            clear hm hB
            by_cases hlt : k < l.length
            · obtain ⟨b, off, rfl, hcc⟩ := (HL2.out.mono (bstep HB23.out HB.out)).at hlt
              obtain ⟨h0, h1⟩ := within_nth Hw.out hlt
              have hgo1 : pGo rs m (l.drop k) = if hasM m (nthR rs (nth l k).toNat).1 = true then (if (nthR rs (nth l k).toNat).2 < 0 then (if l.drop (k + 1) = [] then some (m, true) else none) else pGo rs (m.set (nthR rs (nth l k).toNat).2.toNat 1) (l.drop (k + 1))) else none := by rw [drop_nth hlt]; rfl
              obtain ⟨n, hn⟩ := Int.eq_ofNat_of_zero_le h0
              rw [hn] at hcc hgo1
              have hnl : n < rs.length := by omega
              rw [Int.toNat_natCast] at hgo1
              obtain ⟨hf1, hf2, hf3, hf4⟩ := Hro.out n hnl
              obtain ⟨b2, off2, a, cp, rfl, hra⟩ := (Hc.out.r.mono (bstep HB3.out HB.out)).at hnl
              have Hhas := hid fun (w' : World) (hb : Below wo.heap.size wo w') => has_c a cp m (nthR rs n).1 w' (hra.at'.mono hb) hf2 Hm.out.1 hf1
              have q0 := hra.cI
              have q1 := hra.cT
              have d2 := cstep F2.out HB.out
              obtain ⟨th, hth⟩ : ∃ t, t = (nthR rs n).2 := ⟨_, rfl⟩
              obtain ⟨ln, hln⟩ : ∃ n', n' = (nthR rs n).1.length := ⟨_, rfl⟩
              obtain ⟨hv, hhv⟩ : ∃ v, v = hasM m (nthR rs n).1 := ⟨_, rfl⟩
              rw [← hth] at hgo1 q1 hf3 hf4
              rw [← hln] at q0 Hhas
              rw [← hhv] at hgo1 Hhas
              obtain ⟨V2, hV2⟩ : ∃ V, V = (intv m).toArray := ⟨_, rfl⟩
              rw [← hV2] at Hhas
              have HV2 := hid hV2
              have hgo2 := hgo.symm.trans hgo1
              rw [hgo2] at HT2
              obtain ⟨W1, hW1⟩ : ∃ W1, W1 = wo.alloc (.cells #[.slice a ln cp, .int .i64 th] 60) := ⟨_, rfl⟩
              have hBo : Below wo.heap.size wo W1 := by rw [hW1]; exact bnew wo _
              have t0 : W1.cell? ⟨wo.heap.size, 0, none⟩ = some (.slice a ln cp) := by rw [hW1]; simp [go_sem]
              have t1 : W1.cell? ⟨wo.heap.size, 1, none⟩ = some (.int .i64 th) := by rw [hW1]; simp [go_sem]
              have hm1 := Hm.out.mono hBo
              have o1 := hm1.ok; have p1 := hm1.part
              rw [← HV2.out] at p1
              have HW1 := hid hW1; have HBo := hid hBo; have HM1 := hid hm1; have HGo := hid hgo2
              have T1 := hid t1
              have hlb : ∀ x : Bool, x = ((k : Int) == (l.length : Int) - 1) → (x = true ↔ l.drop (k + 1) = []) := by
                rintro x rfl
                rw [List.drop_eq_nil_iff, beq_iff_eq]; omega
              have Hlb := hid hlb
              clear hra hth hln hhv hV2 hf1 hf2 hgo hgo1 hgo2 hBo hW1 h0 h1 hm1 hlb hn
              go_upto_region 18 with (fail)
              rw [← HW1.out]
              obtain ⟨x, hx⟩ : ∃ x, x = ((k : Int) == (l.length : Int) - 1) := ⟨_, rfl⟩
              have hlast := Hlb.out x hx
              rw [← hx]
              clear hx
              cases hv with
              | false =>
                have hT := HT2.out
                rw [if_neg (by simp)] at hT
                cases hT
                go_wp2_with fail
                refine (Hhas.out _ HBo.out).mono ?_
                rintro e w4 ⟨rfl, hB⟩
                have HB4 := hid (bstep HBo.out hB)
                have u1 := cstep T1.out hB
                have hm4 := HM1.out.mono hB
                have HM4 := hid hm4
                clear hB o1 p1 t0 t1 hm4
                go_wp2
                go_ret3
                exact ⟨none, 0, rfl, IntsAt.nil _ _, fun _ => rfl, bstep HB3.out (bstep HB.out HB4.out)⟩
              | true =>
                rw [if_pos rfl] at HT2 HGo
                by_cases hth0 : th < 0
                · rw [if_pos hth0] at HT2 HGo
                  cases x with
                  | false =>
                    have hT := HT2.out
                    rw [if_neg (fun h => by have := hlast.2 h; cases this)] at hT
                    cases hT
                    clear hlast HT2
                    go_wp2_with fail
                    refine (Hhas.out _ HBo.out).mono ?_
                    rintro e w4 ⟨rfl, hB⟩
                    have HB4 := hid (bstep HBo.out hB)
                    have u1 := cstep T1.out hB
                    have hm4 := HM1.out.mono hB
                    have HM4 := hid hm4
                    clear hB o1 p1 t0 t1 hm4
                    go_wp2
                    go_ret3
                    exact ⟨none, 0, rfl, IntsAt.nil _ _, fun _ => rfl, bstep HB3.out (bstep HB.out HB4.out)⟩
                  | true =>
                    have hT := HT2.out
                    rw [if_pos (hlast.1 rfl)] at hT
                    cases hT
                    clear hlast HT2
                    go_wp2_with fail
                    refine (Hhas.out _ HBo.out).mono ?_
                    rintro e w4 ⟨rfl, hB⟩
                    have HB4 := hid (bstep HBo.out hB)
                    have u1 := cstep T1.out hB
                    have hm4 := HM1.out.mono hB
                    have HM4 := hid hm4
                    clear hB o1 p1 t0 t1 hm4
                    have o4 := HM4.out.ok; have p4 := HM4.out.part
                    rw [← HV2.out] at p4
                    have HLi := hid (list_c m w4 HM4.out.1)
                    unfold OwnP at HLi
                    rw [← HV2.out] at HLi
                    go_wp2_with fail
                    refine HLi.out.mono ?_
                    rintro e w5 ⟨ao, cp5, rfl, hat, hn, hB⟩
                    have HB5 := hid (bstep HB3.out (bstep HB.out (bstep HB4.out hB)))
                    clear hB
                    go_wp2
                    go_ret3
                    exact ⟨ao, cp5, rfl, hat, hn, HB5.out⟩
                · rw [if_neg hth0] at HGo
                  obtain ⟨t, rfl⟩ := Int.eq_ofNat_of_zero_le (show 0 ≤ th by omega)
                  rw [Int.toNat_natCast] at HGo
                  have ht12 : t < 12 := by omega
                  clear HT2
                  go_wp2_with fail
                  refine (Hhas.out _ HBo.out).mono ?_
                  rintro e w4 ⟨rfl, hB⟩
                  have HB4 := hid (bstep HBo.out hB)
                  have u1 := cstep T1.out hB
                  have hm4 := HM1.out.mono hB
                  have HM4 := hid hm4
                  clear hB o1 p1 t0 t1 hm4
                  have hcc4 : w4.cell? ⟨w3.heap.size, t, none⟩ = some (.int .i64 (nth m t)) := by
                    rw [cell_of_row _ _ _ _ _ _ HM4.out.2, List.getElem?_toArray, intv_get, if_pos (by rw [HM4.out.1]; exact ht12)]
                  have hfr4 : w4.frozen? ⟨w3.heap.size, t, none⟩ = false := frozen_of_row _ _ _ _ _ HM4.out.2
                  go_wp2
                  go_roundw
                  case rel => exact ⟨k + 1, m.set t 1, by omega, by go_num, ⟨by rw [List.length_set]; exact HM4.out.1, (heap_setCell_same w4 _ _ _ 78 _ HM4.out.2).trans (cellsSet (by unfold intv; rw [List.map_set]))⟩, HGo.out.symm, (HB.out.trans (HB4.out.mono HB.out.size)).setCell (Nat.le_refl _) _⟩
                  case measure => simp [intOf]; omega
            · obtain rfl : k = l.length := by omega
              have hT := HT2.out
              rw [← hgo, List.drop_length] at hT
              cases hT
              have o1 := Hm.out.ok; have p1 := Hm.out.part
              have HLi := hid (list_c m wo Hm.out.1)
              unfold OwnP at HLi
              obtain ⟨V2, hV2⟩ : ∃ V, V = (intv m).toArray := ⟨_, rfl⟩
              rw [← hV2] at p1 HLi
              clear hV2
              go_wp2_with fail
              refine HLi.out.mono ?_
              rintro e w4 ⟨ao, cp, rfl, hat, hn, hB⟩
              have HB5 := hid (bstep HB3.out (bstep HB.out hB))
              clear hB
              go_wp2
              go_ret3
              exact ⟨ao, cp, rfl, hat, hn, HB5.out⟩
  · rw [if_neg hz]
    have hcb := errB hz
    clear hc hz hW0 c0 c1 c2
    generalize caseErr facts seen rs = c at *
    go_enter Try.func30, Try.ntmps30
    go_wp2_with fail
    rw [← HS.out]
    refine (HCC.out _ HB0.out).mono ?_
    rintro e w1 ⟨rfl, hB⟩
    have HB1 := hid (bstep HB0.out hB)
    clear hB
    go_wp2
    go_ret3
    exact ⟨none, 0, rfl, IntsAt.nil _ _, fun _ => rfl, HB1.out⟩

end Go.Proofs.Ytkioejdddmnbmaa

namespace Go.Proofs.Ytkioejdddmnbmaa
open Go.RowKit Go.Shelf
attribute [local go_sem ↓] wp_get wp_get0 wp_getS wp78 wps78 wpa78

def rGo (rs : List Rl) : Nat × Bool → List Int → Option (Nat × Bool)
  | s, [] => some s
  | s, n :: t => if s.2 = true then none else if s.1 &&& bitsL (nthR rs n.toNat).1 = bitsL (nthR rs n.toNat).1 then (if (nthR rs n.toNat).2 < 0 then rGo rs (s.1, true) t else rGo rs (s.1 ||| 2 ^ (nthR rs n.toNat).2.toNat, s.2) t) else none
def rFin (facts : Nat) : Option (Nat × Bool) → List Int × Bool × Int
  | none => ([], false, 16)
  | some (b, c) => (listedB b facts, c, 0)
def rcs (facts : Int) (seen : List Int) (rs : List Rl) (steps : List Int) : List Int × Bool × Int :=
  if caseErr facts seen rs = 0 then (if within 0 ((rs.length : Int) - 1) steps = true then (if dupB steps = true then ([], false, 11) else rFin facts.toNat (rGo rs (bitsL seen, false) steps)) else ([], false, 3)) else ([], false, caseErr facts seen rs)

theorem within_take {lo hi : Int} {l : List Int} {k : Nat} (hk : k < l.length) (h : within lo hi (l.take k) = true) (h2 : lo ≤ nth l k ∧ nth l k ≤ hi) : within lo hi (l.take (k + 1)) = true := by
  unfold within at h ⊢
  rw [all_take_succ _ hk, h]; simpa using h2
theorem within_bad {lo hi : Int} {l : List Int} {k : Nat} (hk : k < l.length) (h2 : ¬ (lo ≤ nth l k ∧ nth l k ≤ hi)) : within lo hi l = false := by
  rw [← Bool.not_eq_true]
  intro h
  exact h2 (within_nth h hk)

set_option maxRecDepth 100000 in
set_option maxHeartbeats 4000000 in
theorem rCheckSteps_c (facts : Int) (sa : Option Addr) (sc : Nat) (seen : List Int) (ra : Option Addr) (rc : Nat) (rs : List Rl) (la : Option Addr) (lc : Nat) (l : List Int) (w : World) (hc : CaseAt w sa ra seen rs) (hl : IntsAt w la l) (hll : l.length ≤ 1000000) (hcap : l.length ≤ lc) :
    Calls Try.prog 31 #[.agg #[.int .i64 facts, .slice sa seen.length sc, .slice ra rs.length rc], .slice la l.length lc] w (StepsP w (rcs facts seen rs l)) := by
  obtain ⟨W0, hW0⟩ : ∃ W0, W0 = w.alloc (.cells #[.int .i64 facts, .slice sa seen.length sc, .slice ra rs.length rc] 25) := ⟨_, rfl⟩
  have HB0 := hid (show Below w.heap.size w W0 by rw [hW0]; exact bnew w _)
  obtain ⟨c0, c1, c2⟩ := caseBox w facts sa ra seen.length sc rs.length rc
  rw [← hW0] at c0 c1 c2
  have C0 := hid c0; have C1 := hid c1; have C2 := hid c2
  have HS := hid hW0
  have HCC := hid fun (w' : World) (h : Below w.heap.size w w') => rcc sa ra sc rc facts seen rs w' (hc.mono h)
  have HL := hid hl; have Hc := hid hc
  unfold StepsP rcs
  by_cases hz : caseErr facts seen rs = 0
  · rw [if_pos hz]
    rw [hz] at HCC
    obtain ⟨f, rfl, hf1, hf2⟩ := case_nat hz
    rw [Int.toNat_natCast]
    have Hsf := hid (case_seen hz); have Hro := hid (case_rules hz hc.il)
    clear hc hz hW0 c0 c1 c2 hl
    have hrl : (rs.length : Int) ≤ 1000000 := by have := Hc.out.rl; omega
    obtain ⟨⟨L, C, E⟩, hT⟩ : ∃ T, T = if within 0 ((rs.length : Int) - 1) l = true then (if dupB l = true then (([] : List Int), false, (11 : Int)) else rFin f (rGo rs (bitsL seen, false) l)) else ([], false, 3) := ⟨_, rfl⟩
    rw [← hT]
    have HT := hid hT
    clear hT
    go_enter Try.func31, Try.ntmps31
    go_wp2_with fail
    rw [← HS.out]
    refine (HCC.out _ HB0.out).mono ?_
    rintro e w2 ⟨rfl, hB⟩
    have HB2 := hid (bstep HB0.out hB)
    have E0 := hid (cstep C0.out hB); have E1 := hid (cstep C1.out hB); have E2 := hid (cstep C2.out hB)
    have e2 := E2.out
    clear hB
    have HL2 := hid (HL.out.mono HB2.out)
    go_wp2
    go_loopw [7] (fun i wr => ∃ k : Nat, k ≤ l.length ∧ i = .int .i64 k ∧ within 0 ((rs.length : Int) - 1) (l.take k) = true ∧ Below w2.heap.size w2 wr) (fun i _ => l.length - (intOf i).toNat)
    case atStart => exact ⟨0, Nat.zero_le _, rfl, rfl, Below.refl _ _⟩
    case round =>
      obtain ⟨k, hk, rfl, hp, hB⟩ := hrel
      obtain ⟨wo, rfl⟩ : ∃ wo : World, wo = wr := ⟨_, rfl⟩
      have Hp := hid hp; have HB := hid hB
      have f2 := cstep E2.out hB
      clear hp hB e2
      by_cases hlt : k < l.length
      · obtain ⟨b, off, rfl, hcc⟩ := (HL2.out.mono HB.out).at hlt
        by_cases hin : 0 ≤ nth l k ∧ nth l k ≤ (rs.length : Int) - 1
        · have Ht := hid (within_take hlt Hp.out hin)
          obtain ⟨x, hx⟩ : ∃ x, x = nth l k := ⟨_, rfl⟩
          rw [← hx] at hcc hin
          have h1 : decide (x < 0) = false := decide_eq_false (by omega)
          have h2 : decide ((rs.length : Int) ≤ x) = false := decide_eq_false (by omega)
          clear hx hin
          go_wp2
          go_quiet (fail)
          go_wp2
          go_roundw
          case rel => exact ⟨k + 1, by omega, by go_num, Ht.out, below_drewN HB.out _⟩
          case measure => simp [intOf]; omega
        · have hT := HT.out
          rw [within_bad hlt hin, if_neg (by simp)] at hT
          cases hT
          obtain ⟨x, hx⟩ : ∃ x, x = nth l k := ⟨_, rfl⟩
          rw [← hx] at hcc hin
          clear hx
          by_cases hx0 : x < 0
          · have h1 : decide (x < 0) = true := decide_eq_true hx0
            clear hin hx0
            go_wp2
            go_quiet (fail)
            go_wp2
            go_ret3
            exact ⟨none, 0, rfl, IntsAt.nil _ _, fun _ => rfl, bstep HB2.out (below_drewN HB.out _)⟩
          · have h1 : decide (x < 0) = false := decide_eq_false hx0
            have h2 : decide ((rs.length : Int) ≤ x) = true := decide_eq_true (by omega)
            clear hin hx0
            go_wp2
            go_quiet (fail)
            go_wp2
            go_ret3
            exact ⟨none, 0, rfl, IntsAt.nil _ _, fun _ => rfl, bstep HB2.out (below_drewN HB.out _)⟩
      · obtain rfl : k = l.length := by omega
        have hw := Hp.out
        rw [List.take_length] at hw
        have hT := HT.out
        rw [if_pos hw] at hT
        have Hw := hid hw
        have HT2 := hid hT
        have F0 := hid (cstep E0.out HB.out); have F1 := hid (cstep E1.out HB.out); have F2 := hid (cstep E2.out HB.out)
        have HB3 := hid (bstep HB2.out HB.out)
        have HL3 := hid (HL2.out.mono HB.out)
        clear hw hT f2
        go_wp2
        go_loopw [8] (fun i wr => ∃ k : Nat, k ≤ l.length ∧ i = .int .i64 k ∧ (List.range k).any (fun k => (l.take k).any (fun x => nth l k == x)) = false ∧ Below wo.heap.size wo wr) (fun i _ => l.length - (intOf i).toNat)
        case atStart => exact ⟨0, Nat.zero_le _, rfl, rfl, Below.refl _ _⟩
        case round =>
          obtain ⟨k, hk, rfl, hp, hB⟩ := hrel
          obtain ⟨w3, rfl⟩ : ∃ w3 : World, w3 = wr := ⟨_, rfl⟩
          have Hp := hid hp; have HB := hid hB
          clear hp hB
          by_cases hlt : k < l.length
          · obtain ⟨b, off, rfl, hcc⟩ := (HL3.out.mono HB.out).at hlt
            have HCn := hid fun (w' : World) (h : Below w3.heap.size w3 w') => hasL_c (some ⟨b, off, none⟩) lc (l.take k) (nth l k) w' (((HL3.out.mono HB.out).mono h).take k) (by rw [List.length_take]; omega)
            rw [show (l.take k).length = k from by rw [List.length_take]; omega] at HCn
            have hd2 := fun h => dup_take (l := l) (k := k) Hp.out h
            have hcm : (l.take k).any (fun x => x == nth l k) = (l.take k).any (fun x => nth l k == x) := by congr 1; funext x; exact Bool.beq_comm
            rw [hcm] at HCn
            obtain ⟨v, hv⟩ : ∃ v, v = (l.take k).any (fun x => nth l k == x) := ⟨_, rfl⟩
            have hdup : v = true → dupB l = true := fun h => List.any_eq_true.2 ⟨k, List.mem_range.2 hlt, by rw [← hv, h]⟩
            rw [← hv] at hd2 HCn
            have Hd2 := hid hd2; have Hdup := hid hdup
            clear hd2 hdup hv hcm
            obtain ⟨x, hx⟩ : ∃ x, x = nth l k := ⟨_, rfl⟩
            rw [← hx] at hcc HCn
            clear hx
            cases v with
            | true =>
              have hT := HT2.out
              rw [if_pos (Hdup.out rfl)] at hT
              cases hT
              go_wp2
              go_region_with (go_at_call 36; (with_reducible refine (HCn.out _ (by first | exact Below.refl _ _ | exact (Below.refl _ _).drew)).mono ?_); rintro e w4 ⟨rfl, hw4⟩; subst hw4)
              all_goals (
                go_wp2
                go_ret3
                exact ⟨none, 0, rfl, IntsAt.nil _ _, fun _ => rfl, by first | exact bstep HB3.out HB.out | exact (bstep HB3.out HB.out).drew⟩)
            | false =>
              go_wp2
              go_region_with (go_at_call 36; (with_reducible refine (HCn.out _ (by first | exact Below.refl _ _ | exact (Below.refl _ _).drew)).mono ?_); rintro e w4 ⟨rfl, hw4⟩; subst hw4)
              all_goals (
                go_wp2
                go_roundw
                case rel => exact ⟨k + 1, by omega, by go_num, Hd2.out (by first | rfl | trivial), by first | exact HB.out | exact HB.out.drew⟩
                case measure => simp [intOf]; omega)
          · obtain rfl : k = l.length := by omega
            have hT := HT2.out
            have hdup : dupB l = false := Hp.out
            rw [if_neg (by rw [hdup]; simp)] at hT
            have HT3 := hid hT
            clear hT hdup
            have G0 := hid (cstep F0.out HB.out); have G1 := hid (cstep F1.out HB.out); have G2 := hid (cstep F2.out HB.out)
            have HB4 := hid (bstep HB3.out HB.out)
            have HBi := hid (bits_c sa sc seen w3 (Hc.out.s.mono HB4.out) Hc.out.sl Hsf.out)
            have g1 := G1.out
            have HL4 := hid (HL3.out.mono HB.out)
            go_wp2_with fail
            refine HBi.out.mono ?_
            rintro e w4 ⟨rfl, hw4⟩
            subst hw4
            clear g1
            go_wp2
            go_loopw [9, 10, 11] (fun q c i wr => ∃ (k : Nat) (s : Nat × Bool), k ≤ l.length ∧ i = .int .i64 k ∧ q = .int .i64 s.1 ∧ c = .bool s.2 ∧ s.1 < 2 ^ 12 ∧ rGo rs s (l.drop k) = rGo rs (bitsL seen, false) l ∧ Below w4.heap.size w4 wr) (fun _ _ i _ => l.length - (intOf i).toNat)
            case atStart => exact ⟨0, (bitsL seen, false), Nat.zero_le _, rfl, rfl, rfl, bitsL_lt Hsf.out, rfl, Below.refl _ _⟩
            case round =>
              obtain ⟨k, ⟨q, c⟩, hk, rfl, rfl, rfl, hq, hgo, hB⟩ := hrel
              obtain ⟨wo, rfl⟩ : ∃ wo : World, wo = wr := ⟨_, rfl⟩
              have HB := hid hB
              clear hB
              have hq : q < 2 ^ 12 := hq
              by_cases hlt : k < l.length
              · obtain ⟨b, off, rfl, hcc⟩ := (HL4.out.mono HB.out).at hlt
                obtain ⟨h0, h1⟩ := within_nth Hw.out hlt
                have hgo1 : rGo rs (q, c) (l.drop k) = if c = true then none else if q &&& bitsL (nthR rs (nth l k).toNat).1 = bitsL (nthR rs (nth l k).toNat).1 then (if (nthR rs (nth l k).toNat).2 < 0 then rGo rs (q, true) (l.drop (k + 1)) else rGo rs (q ||| 2 ^ (nthR rs (nth l k).toNat).2.toNat, c) (l.drop (k + 1))) else none := by rw [drop_nth hlt]; rfl
                obtain ⟨n, hn⟩ := Int.eq_ofNat_of_zero_le h0
                rw [hn] at hcc hgo1
                have hnl : n < rs.length := by omega
                rw [Int.toNat_natCast] at hgo1
                obtain ⟨hf1, hf2, hf3, hf4⟩ := Hro.out n hnl
                obtain ⟨b2, off2, a, cp, rfl, hra⟩ := (Hc.out.r.mono (bstep HB4.out HB.out)).at hnl
                have HBi := hid fun (w' : World) (hb : Below wo.heap.size wo w') => bits_c a cp (nthR rs n).1 w' (hra.at'.mono hb) hf2 hf1
                have q0 := hra.cI
                have q1 := hra.cT
                have d2 := cstep G2.out HB.out
                have hbl := bitsL_lt hf1
                obtain ⟨th, hth⟩ : ∃ t, t = (nthR rs n).2 := ⟨_, rfl⟩
                obtain ⟨ln, hln⟩ : ∃ n', n' = (nthR rs n).1.length := ⟨_, rfl⟩
                obtain ⟨o, ho⟩ : ∃ o, o = bitsL (nthR rs n).1 := ⟨_, rfl⟩
                rw [← hth] at hgo1 q1 hf3 hf4
                rw [← hln] at q0 HBi
                rw [← ho] at hgo1 HBi hbl
                have hand := bits_and_i64 (a := q) (b := o) (by omega) (by omega)
                have hgo2 := hgo.symm.trans hgo1
                rw [hgo2] at HT3
                have HGo := hid hgo2
                clear hra hth hln hf1 hf2 hgo hgo1 hgo2 h0 h1 hn ho
                go_upto_region 17 with (fail)
                go_cut [12] (fun s wc => s = .pointer (some ⟨wo.heap.size, 0, none⟩) ∧ wc.cell? ⟨wo.heap.size, 0, none⟩ = some (.slice a ln cp) ∧ wc.cell? ⟨wo.heap.size, 1, none⟩ = some (.int .i64 th) ∧ Below wo.heap.size wo wc)
                case first =>
                  clear hand
                  have z1 : b < wo.heap.size := block_lt_of_cell hcc
                  have z2 : b2 < wo.heap.size := block_lt_of_cell q0
                  have z3 : w.heap.size < wo.heap.size := block_lt_of_cell d2
                  have y1 : ¬ b = wo.heap.size := by omega
                  have y2 : ¬ b2 = wo.heap.size := by omega
                  have y3 : ¬ w.heap.size = wo.heap.size := by omega
                  go_region
                  all_goals (
                    go_wp2
                    go_meet
                    exact ⟨rfl, by simp [go_sem], by simp [go_sem], by first | exact bnew _ _ | exact (bnew _ _).drew | exact (Below.refl _ _).drew.trans (bnew _ _)⟩)
                case rest =>
                  obtain ⟨rfl, t0, t1, hB⟩ := hcut
                  obtain ⟨w5, rfl⟩ : ∃ w5 : World, w5 = wc := ⟨_, rfl⟩
                  have HBw := hid hB
                  have HB5 := hid (bstep HB.out hB)
                  have HBi5 := hid (HBi.out _ hB)
                  clear hB q0 q1 d2 hcc HBi
                  cases c with
                  | true =>
                    have hT := HT3.out
                    rw [if_pos rfl] at hT
                    cases hT
                    clear HT3
                    go_wp2_with fail
                    refine HBi5.out.mono ?_
                    rintro e w6 ⟨rfl, hw6⟩
                    subst hw6
                    go_wp2
                    go_ret3
                    exact ⟨none, 0, rfl, IntsAt.nil _ _, fun _ => rfl, bstep HB4.out HB5.out⟩
                  | false =>
                    rw [if_neg (by simp)] at HT3 HGo
                    by_cases hh : q &&& o = o
                    · rw [if_pos hh] at HT3 HGo
                      rw [hh] at hand
                      clear hh
                      by_cases h0 : th < 0
                      · rw [if_pos h0] at HT3 HGo
                        clear HT3
                        go_wp2_with fail
                        refine HBi5.out.mono ?_
                        rintro e w6 ⟨rfl, hw6⟩
                        subst hw6
                        go_wp2
                        go_roundw
                        case rel => exact ⟨k + 1, (q, true), by omega, by go_num, rfl, rfl, hq, HGo.out.symm, HB5.out⟩
                        case measure => simp [intOf]; omega
                      · rw [if_neg h0] at HT3 HGo
                        clear HT3
                        obtain ⟨t, rfl⟩ := Int.eq_ofNat_of_zero_le (show 0 ≤ th by omega)
                        rw [Int.toNat_natCast] at HGo
                        have ht12 : t ≤ 12 := by omega
                        have ht64 : (t : Int) < 64 := by omega
                        have hsh := shl_one ht12
                        have hpt := pow_le ht12
                        have hq2 : q ||| 2 ^ t < 2 ^ 12 := Nat.or_lt_two_pow hq (Nat.pow_lt_pow_right (by omega) (by omega))
                        obtain ⟨P, hP⟩ : ∃ P : Nat, P = 2 ^ t := ⟨_, rfl⟩
                        rw [← hP] at hsh HGo hpt hq2
                        have hor := bits_or_i64 (a := q) (b := P) (by omega) (by omega)
                        have Hq2 := hid hq2
                        clear hP hq2
                        go_wp2_with fail
                        refine HBi5.out.mono ?_
                        rintro e w6 ⟨rfl, hw6⟩
                        subst hw6
                        go_wp2
                        go_roundw
                        case rel => exact ⟨k + 1, (q ||| P, false), by omega, by go_num, rfl, rfl, Hq2.out, HGo.out.symm, HB5.out⟩
                        case measure => simp [intOf]; omega
                    · have hT := HT3.out
                      rw [if_neg hh] at hT
                      cases hT
                      clear HT3
                      have hne : (((q &&& o : Nat) : Int) != (o : Int)) = true := by simp; omega
                      have hne2 : ¬ ((q &&& o : Nat) : Int) = (o : Int) := by omega
                      obtain ⟨u, hu⟩ : ∃ u, u = q &&& o := ⟨_, rfl⟩
                      rw [← hu] at hand hne hne2
                      clear hu hh
                      go_wp2_with fail
                      refine HBi5.out.mono ?_
                      rintro e w6 ⟨rfl, hw6⟩
                      subst hw6
                      go_wp2
                      go_ret3
                      exact ⟨none, 0, rfl, IntsAt.nil _ _, fun _ => rfl, bstep HB4.out HB5.out⟩
              · obtain rfl : k = l.length := by omega
                have hT := HT3.out
                rw [← hgo, List.drop_length] at hT
                cases hT
                have HLi := hid fun (w' : World) => listed_c q f w' (by omega) (by omega)
                unfold OwnP at HLi
                have g0 := cstep G0.out HB.out
                have HB6 := hid (bstep HB4.out HB.out)
                go_wp2_with fail
                refine (HLi.out _).mono ?_
                rintro e w5 ⟨ao, cp, rfl, hat, hn, hB⟩
                have HB7 := hid (bstep HB6.out hB)
                clear hB
                go_wp2
                go_ret3
                exact ⟨ao, cp, rfl, hat, hn, HB7.out⟩
  · rw [if_neg hz]
    have hcb := errB hz
    clear hc hz hW0 c0 c1 c2
    generalize caseErr facts seen rs = c at *
    go_enter Try.func31, Try.ntmps31
    go_wp2_with fail
    rw [← HS.out]
    refine (HCC.out _ HB0.out).mono ?_
    rintro e w1 ⟨rfl, hB⟩
    have HB1 := hid (bstep HB0.out hB)
    have d0 := cstep C0.out hB; have d1 := cstep C1.out hB; have d2 := cstep C2.out hB
    clear hB
    go_wp2_with fail
    refine (HCC.out _ HB1.out).mono ?_
    rintro e w2 ⟨rfl, hB⟩
    have HB2 := hid (bstep HB1.out hB)
    go_wp2
    go_ret3
    exact ⟨none, 0, rfl, IntsAt.nil _ _, fun _ => rfl, HB2.out⟩

end Go.Proofs.Ytkioejdddmnbmaa
