/- Walks: Listed, list, All, Truths. -/
import Derived.Test.YtkioejdddmnbmaaRb
import Derived.Test.YtkioejdddmnbmaaAp2
import Derived.ChangeKeysEq
namespace Go.Proofs.Ytkioejdddmnbmaa
open Go.RowKit Go.Shelf
attribute [local go_sem ↓] wp_get wp_get0 wp_getS wp78 wps78 wpa78

/-- the numbers below k that are chosen -/
def selTo (p : Nat → Bool) : Nat → List Int
  | 0 => []
  | k + 1 => if p k = true then selTo p k ++ [(k : Int)] else selTo p k
theorem selTo_length (p : Nat → Bool) : ∀ k, (selTo p k).length ≤ k
  | 0 => Nat.le_refl _
  | k + 1 => by
    have := selTo_length p k
    rw [selTo]
    split
    · rw [List.length_append]; show _ + 1 ≤ _; omega
    · omega
def listedB (b n : Nat) : List Int := selTo (fun k => b.testBit k) n
def listM (m : List Int) : List Int := selTo (fun k => decide (0 < nth m k)) 12
def truthsL (facts : Nat) (seen : List Int) (rs : List Rl) : List Int := selTo (truthB seen rs) (2 ^ facts)

set_option maxRecDepth 100000 in
set_option maxHeartbeats 2000000 in
theorem listed_c (b n : Nat) (w : World) (hn : n ≤ 40) (hb : b < 2 ^ 62) : Calls Try.prog 45 #[.int .i64 b, .int .i64 n] w (OwnP w (listedB b n)) := by
  have Hb := hid hb
  clear hb
  go_enter Try.func45, Try.ntmps45
  go_wp2
  go_loopw [5, 6] (fun o i wr => ∃ (k : Nat) (ao : Option Addr) (cap : Nat), k ≤ n ∧ i = .int .i64 k ∧ o = .slice ao (selTo (fun k => b.testBit k) k).length cap ∧ OwnI w.heap.size wr ao (selTo (fun k => b.testBit k) k).length cap (selTo (fun k => b.testBit k) k) ∧ Below w.heap.size w wr) (fun _ i _ => n - (intOf i).toNat)
  case atStart => exact ⟨0, none, 0, Nat.zero_le _, rfl, rfl, OwnI.nil _ _, Below.refl _ _⟩
  case round =>
    obtain ⟨k, ao, cap, hk, rfl, rfl, hown, hB⟩ := hrel
    obtain ⟨wo, rfl⟩ : ∃ wo : World, wo = wr := ⟨_, rfl⟩
    have hlen := selTo_length (fun k => b.testBit k) k
    by_cases hlt : k < n
    · have ht : selTo (fun k => b.testBit k) (k + 1) = if b.testBit k = true then selTo (fun k => b.testBit k) k ++ [(k : Int)] else selTo (fun k => b.testBit k) k := rfl
      have hbit := bits_one_i64 (a := b) Hb.out k
      have hk64 : (k : Int) < 64 := by omega
      obtain ⟨l, hl⟩ : ∃ l, l = selTo (fun k => b.testBit k) k := ⟨_, rfl⟩
      rw [← hl] at ht hown hlen ⊢
      have Hown := hid hown; have HB := hid hB
      clear hown hB hl
      cases htb : b.testBit k with
      | true =>
        rw [htb, if_pos rfl] at ht
        rw [htb] at hbit
        simp only [if_true] at hbit
        have Ht := hid ht
        clear ht htb
        go_wp2_with (at_builtin; refine wpList_app_own _ rfl _ _ rfl w.heap.size ao l.length cap l rfl ?c1 _ (k : Int) rfl ?c2 ?c3 ?c4 ?c5; rotate_right; (intro b' cap' w' hB' hb' hown' hgr'; refine Hid.out ?_))
        case c1 => exact Hown.out.alloc _
        case c2 => simp
        case c3 => omega
        case c4 => have := HB.out.size; simp; omega
        case c5 =>
          refine hid ?_
          have Hown' := hid hown'
          have HB' := hid (HB.out.trans (((bnew wo (.cells #[.int .i64 k] 3)).mono HB.out.size).trans hB'))
          clear hown' hB' hgr' hbit
          go_wp2
          go_roundw
          case rel => exact ⟨k + 1, some ⟨b', 0, none⟩, cap', by omega, by go_num, by rw [Ht.out, List.length_append]; rfl, by rw [Ht.out, List.length_append]; exact Hown'.out, HB'.out⟩
          case measure => simp [intOf]; omega
      | false =>
        rw [htb, if_neg (by simp)] at ht
        rw [htb] at hbit
        simp only [Bool.false_eq_true, if_false] at hbit
        have Ht := hid ht
        clear ht htb
        go_wp2
        go_roundw
        case rel => exact ⟨k + 1, ao, cap, by omega, by go_num, by rw [Ht.out], by rw [Ht.out]; exact Hown.out, HB.out⟩
        case measure => simp [intOf]; omega
    · obtain rfl : k = n := by omega
      go_wp2
      go_ret
      exact ⟨ao, cap, rfl, hown.at, fun h => (hown.none h).2, hB⟩

set_option maxRecDepth 100000 in
set_option maxHeartbeats 2000000 in
theorem all_c (a : Option Addr) (cap : Nat) (l : List Nat) (w : World) (hx : IntsAt w a (l.map (fun n : Nat => (n : Int)))) (hl : l.length ≤ 1000000) (hb : ∀ x ∈ l, x < 2 ^ 12) :
    Calls Try.prog 67 #[.slice a l.length cap] w fun e w' => e = .returned (.int .i64 (l.foldl (· &&& ·) 4095 : Nat)) ∧ w' = w := by
  have Hx := hid hx; have Hb := hid hb
  clear hx hb
  have hlt : ∀ k, (l.take k).foldl (· &&& ·) 4095 < 2 ^ 12 := by
    have key : ∀ (l : List Nat) (a : Nat), a < 2 ^ 12 → l.foldl (· &&& ·) a < 2 ^ 12 := by
      intro l
      induction l with
      | nil => intro a h; exact h
      | cons x l ih => intro a h; exact ih _ (Nat.lt_of_le_of_lt Nat.and_le_left h)
    exact fun k => key _ _ (by decide)
  have Hlt := hid hlt
  clear hlt
  go_enter Try.func67, Try.ntmps67
  go_wp2
  go_loop [3, 4] (fun o i => ∃ k : Nat, k ≤ l.length ∧ i = .int .i64 k ∧ o = .int .i64 ((l.take k).foldl (· &&& ·) 4095 : Nat)) (fun _ i => l.length - (intOf i).toNat)
  case atStart => exact ⟨0, Nat.zero_le _, rfl, rfl⟩
  case round =>
    obtain ⟨k, hk, rfl, rfl⟩ := hrel
    by_cases hlt : k < l.length
    · obtain ⟨b, off, rfl, hc⟩ := Hx.out.at (k := k) (by simpa using hlt)
      have e : nth (l.map (fun n : Nat => (n : Int))) k = (l[k] : Int) := by rw [nth_eq (by simpa using hlt)]; simp
      rw [e] at hc
      have ht : (l.take (k + 1)).foldl (· &&& ·) 4095 = (l.take k).foldl (· &&& ·) 4095 &&& l[k] := by
        rw [List.take_succ_eq_append_getElem hlt, List.foldl_append]; rfl
      have hand := bits_and_i64 (a := (l.take k).foldl (· &&& ·) 4095) (b := l[k]) (by have := Hlt.out k; omega) (by have := Hb.out _ (List.getElem_mem hlt); omega)
      obtain ⟨x, hx⟩ : ∃ x, x = l[k] := ⟨_, rfl⟩
      obtain ⟨y, hy⟩ : ∃ y, y = (l.take k).foldl (· &&& ·) 4095 := ⟨_, rfl⟩
      rw [← hx, ← hy] at ht hand
      rw [← hx] at hc
      rw [← hy]
      have Ht := hid ht
      clear e hx hy ht
      go_wp2
      go_round
      case rel => exact ⟨k + 1, by omega, by go_num, by rw [Ht.out]⟩
      case measure => simp [intOf]; omega
    · obtain rfl : k = l.length := by omega
      go_wp2
      go_ret
      exact ⟨rfl, rfl⟩

theorem run_index78 (V : Array Value) (k : Nat) (v : Int) (hk : k < 12) (h : V[k]? = some (.int .i64 v)) (w : World) : (Instr.index 78 (.agg V) (.int .i64 k)).run Try.prog w = .ok (.int .i64 v) w := by
  obtain ⟨i, hi, _, hs, _⟩ := info_parts info3
  have hc : Try.prog.cellsOf 3 = 1 := by kernel_rfl
  have h1 : (k : Int) < 12 := by omega
  simp [Instr.index, asIntOf, run_underlying Try.underlying78, run_underlying Try.underlying3, part, isAgg, run_sizeOf w hi, hc, hk, h]

set_option maxRecDepth 100000 in
set_option maxHeartbeats 2000000 in
theorem list_c (m : List Int) (w : World) (hm : m.length = 12) : Calls Try.prog 65 #[.agg (intv m).toArray] w (OwnP w (listM m)) := by
  obtain ⟨V, hV⟩ : ∃ V, V = (intv m).toArray := ⟨_, rfl⟩
  have hh := heap_alloc_new w (.cells V 78)
  have o1 : partOk (w.alloc (.cells V 78)) w.heap.size 0 12 = true := partOk_of hh (by rw [hV]; simp [intv_length, hm])
  have p1 : partAt (w.alloc (.cells V 78)) w.heap.size 0 12 = V := by
    rw [partAt_of hh, show 0 + 12 = V.size from by rw [hV]; simp [intv_length, hm]]
    exact Array.extract_size
  have hget : ∀ (k : Nat), k < 12 → ∀ w', (Instr.index 78 (.agg V) (.int .i64 k)).run Try.prog w' = .ok (.int .i64 (nth m k)) w' := fun k hk w' => run_index78 V k _ hk (by rw [hV, List.getElem?_toArray, intv_get, if_pos (by omega)]) w'
  have hsz : V.size = 12 := by rw [hV]; simp [intv_length, hm]
  rw [← hV]
  have Hget := hid hget; have Hm := hid hm; have Hsz := hid hsz
  have hlm : listM m = selTo (fun k => decide (0 < nth m k)) 12 := rfl
  have Hlm := hid hlm
  unfold OwnP
  rw [hlm]
  have HB0 := hid (bnew w (.cells V 78))
  clear hV hh hget hm hlm hsz
  go_enter Try.func65, Try.ntmps65
  go_wp2
  go_loopw [3, 7] (fun o i wr => ∃ (k : Nat) (ao : Option Addr) (cap : Nat), k ≤ 12 ∧ i = .int .i64 k ∧ o = .slice ao (selTo (fun k => decide (0 < nth m k)) k).length cap ∧ IntsAt wr ao (selTo (fun k => decide (0 < nth m k)) k) ∧ (selTo (fun k => decide (0 < nth m k)) k).length ≤ cap ∧ ((ao = none ∧ cap = 0 ∧ (selTo (fun k => decide (0 < nth m k)) k).length = 0) ∨ ∃ b, ao = some ⟨b, 0, none⟩) ∧ Below w.heap.size w wr) (fun _ i _ => 12 - (intOf i).toNat)
  case atStart => exact ⟨0, none, 0, Nat.zero_le _, rfl, rfl, IntsAt.nil _ _, Nat.le_refl _, .inl ⟨rfl, rfl, rfl⟩, HB0.out⟩
  case round =>
    obtain ⟨k, ao, cap, hk, rfl, rfl, hat, hcp, hnil, hB⟩ := hrel
    obtain ⟨wo, rfl⟩ : ∃ wo : World, wo = wr := ⟨_, rfl⟩
    have hlen := selTo_length (fun k => decide (0 < nth m k)) k
    by_cases hlt : k < 12
    · have ht : selTo (fun k => decide (0 < nth m k)) (k + 1) = if decide (0 < nth m k) = true then selTo (fun k => decide (0 < nth m k)) k ++ [(k : Int)] else selTo (fun k => decide (0 < nth m k)) k := rfl
      have hg := Hget.out k hlt
      obtain ⟨v, hv⟩ : ∃ v, v = nth m k := ⟨_, rfl⟩
      rw [← hv] at hg ht
      obtain ⟨l, hl⟩ : ∃ l, l = selTo (fun k => decide (0 < nth m k)) k := ⟨_, rfl⟩
      rw [← hl] at ht hat hlen hnil hcp ⊢
      have Hat := hid hat; have HB := hid hB; have Hnil := hid hnil
      clear hat hB hl hv hnil
      by_cases h0 : 0 < v
      · rw [decide_eq_true h0, if_pos rfl] at ht
        have Ht := hid ht
        clear ht
        have hHo := fun v => Hat.out.mono (bnew wo v)
        have HHo := hid hHo
        clear hHo
        rcases Hnil.out with ⟨rfl, hc0, hl0⟩ | ⟨b0, rfl⟩
        · obtain rfl : l = [] := List.eq_nil_of_length_eq_zero hl0
          subst hc0
          go_wp2_with (at_builtin; refine wpList_app_full _ rfl _ _ rfl none 0 0 [] rfl rfl ?c1 ?c2 _ (k : Int) rfl ?c3 ?c4 ?c5 ?c6; rotate_right; (intro b' cap' w' hB' hb' hat' hcap'; refine Hid.out ?_))
          case c1 => exact IntsAt.nil _ _
          case c6 =>
            refine hid ?_
            have Hat' := hid hat'
            have HB' := hid (bstep HB.out (bstep (bnew wo (.cells #[.int .i64 k] 3)) hB'))
            clear hat' hB'
            go_wp2
            go_roundw
            case rel => exact ⟨k + 1, some ⟨b', 0, none⟩, cap', by omega, by go_num, by rw [Ht.out]; rfl, by rw [Ht.out]; exact Hat'.out, by rw [Ht.out]; simpa using hcap', Or.inr ⟨_, rfl⟩, HB'.out⟩
            case measure => simp [intOf]; omega
        · go_wp2_with (at_builtin; refine wpList_app_full _ rfl _ _ rfl (some ⟨b0, 0, none⟩) l.length l.length l rfl rfl ?d1 ?d2 _ (k : Int) rfl ?d3 ?d4 ?d5 ?d6; rotate_right; (intro b' cap' w' hB' hb' hat' hcap'; refine Hid.out ?_))
          case d1 => exact HHo.out _
          case d2 => exact fun h => by cases h
          case d3 => simp
          case d4 => omega
          case d5 => omega
          case d6 =>
            refine hid ?_
            have Hat' := hid hat'
            have HB' := hid (bstep HB.out (bstep (bnew wo (.cells #[.int .i64 k] 3)) hB'))
            clear hat' hB'
            go_wp2
            go_roundw
            case rel => exact ⟨k + 1, some ⟨b', 0, none⟩, cap', by omega, by go_num, by rw [Ht.out, List.length_append]; rfl, by rw [Ht.out]; exact Hat'.out, by rw [Ht.out, List.length_append]; exact hcap', Or.inr ⟨_, rfl⟩, HB'.out⟩
            case measure => simp [intOf]; omega
      · rw [decide_eq_false h0, if_neg (by simp)] at ht
        have Ht := hid ht
        clear ht
        go_wp2
        go_roundw
        case rel => exact ⟨k + 1, ao, cap, by omega, by go_num, by rw [Ht.out], by rw [Ht.out]; exact Hat.out, by rw [Ht.out]; exact hcp, by rw [Ht.out]; exact Hnil.out, HB.out⟩
        case measure => simp [intOf]; omega
    · obtain rfl : k = 12 := by omega
      go_wp2
      go_ret
      exact ⟨ao, cap, rfl, hat, fun h => by { rcases hnil with ⟨_, h1, _⟩ | ⟨_, h2⟩; exact h1; rw [h2] at h; cases h }, hB⟩

end Go.Proofs.Ytkioejdddmnbmaa
