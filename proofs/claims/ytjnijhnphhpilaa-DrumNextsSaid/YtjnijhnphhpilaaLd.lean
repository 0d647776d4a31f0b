/- Walks: Xor and Bits; appends at a step of a region that draws its order. -/
import Derived.Test.YtjnijhnphhpilaaLc
import Derived.Test.YtjnijhnphhpilaaSp
import Derived.Deep.RegionHeld3
namespace Go.Proofs.Ytjnijhnphhpilaa
open Go.RowKit Go.Shelf

/-- an append onto a list of the call's own, at a step of a region that draws its order -/
theorem step_app_own {ops : Array Oper} {o : Oper} {a : Act} {K : Act → World → Prop} {Q : Exit → Act → World → Prop} {E : Prop} (w : World) (hgd : o.guard = none) (s x : Operand)
    (hop : o.op = Op.call { callee := Callee.builtin Builtin.append, args := #[s, x], argTypes := #[22, 22] })
    (B : Nat) (ao : Option Addr) (n cap : Nat) (xs : List Int) (hs : a.eval s = .slice ao n cap) (hown : OwnI B w ao n cap xs)
    (ad : Addr) (u : Int) (hx : a.eval x = .slice (some ad) 1 1) (hu : w.cell? ad = some (.int .i64 u)) (hb : n ≤ 1000000) (hB : B ≤ w.heap.size)
    (hK : ∀ b' cap' w', Below B w w' → B ≤ b' → OwnI B w' (some ⟨b', 0, none⟩) (n + 1) cap' (xs ++ [u]) → w.grownBy w' (Value.ownBlock (.slice ao n cap)) →
      K (a.put o.dst (.slice (some ⟨b', 0, none⟩) (n + 1) cap')) w') :
    if Region.wanted o (yielded ops a.tmps) = true then Oper.wp Try.prog o a w K Q else E := by
  have hw : Region.wanted o (yielded ops a.tmps) = true := by simp [Region.wanted, hgd]
  rw [if_pos hw]
  obtain ⟨b', cap', w', hrun, h1, h2, h3, h4⟩ := run_app_own o.type w B ao n cap xs hown ad u hu hb hB
  unfold Oper.wp
  simp [execOp, hop, resolve, invoke, builtin, hs, hx, hrun, Result.andThen, Oper.upon]
  exact hK b' cap' w' h1 h2 h3 h4

theorem step_app_many {ops : Array Oper} {o : Oper} {a : Act} {K : Act → World → Prop} {Q : Exit → Act → World → Prop} {E : Prop} (w : World) (hgd : o.guard = none) (s x : Operand)
    (hop : o.op = Op.call { callee := Callee.builtin Builtin.append, args := #[s, x], argTypes := #[22, 22] })
    (B : Nat) (ao : Option Addr) (n cap : Nat) (xs : List Int) (hs : a.eval s = .slice ao n cap) (hown : OwnI B w ao n cap xs)
    (ax : Option Addr) (m cx : Nat) (ys : List Int) (hx : a.eval x = .slice ax m cx) (hy : IntsAt w ax ys) (hm : ys.length = m) (hnil : ax = none → m = 0 ∧ cx = 0) (hb : n + m ≤ 1000000) (hB : B ≤ w.heap.size)
    (hK : ∀ ao' cap' w', Below B w w' → OwnI B w' ao' (n + m) cap' (xs ++ ys) → w.grownBy w' (Value.ownBlock (.slice ao n cap)) → (ao ≠ none → ao' ≠ none) →
      K (a.put o.dst (.slice ao' (n + m) cap')) w') :
    if Region.wanted o (yielded ops a.tmps) = true then Oper.wp Try.prog o a w K Q else E := by
  have hw : Region.wanted o (yielded ops a.tmps) = true := by simp [Region.wanted, hgd]
  rw [if_pos hw]
  obtain ⟨ao', cap', w', hrun, h1, h2, h3, h4⟩ := run_app_many o.type w B ao n cap xs hown ax m cx ys hy hm hnil hb hB
  unfold Oper.wp
  simp [execOp, hop, resolve, invoke, builtin, hs, hx, hrun, Result.andThen, Oper.upon]
  exact hK ao' cap' w' h1 h2 h3 h4

/-- an append of a list onto an empty one, at a step of a region that draws its order -/
theorem step_app_new {ops : Array Oper} {o : Oper} {a : Act} {K : Act → World → Prop} {Q : Exit → Act → World → Prop} {E : Prop} (w : World) (hgd : o.guard = none) (s x : Operand)
    (hop : o.op = Op.call { callee := Callee.builtin Builtin.append, args := #[s, x], argTypes := #[22, 22] })
    (B : Nat) (ao : Option Addr) (cap : Nat) (hs : a.eval s = .slice ao 0 cap) (hown : OwnI B w ao 0 cap [])
    (ax : Option Addr) (m cx : Nat) (ys : List Int) (hx : a.eval x = .slice ax m cx) (hy : IntsAt w ax ys) (hm : ys.length = m) (hnil : ax = none → m = 0 ∧ cx = 0) (hb : m ≤ 1000000) (hB : B ≤ w.heap.size)
    (hK : ∀ ao' cap' w', Below B w w' → OwnI B w' ao' m cap' ys → B ≤ w'.heap.size → w.grownBy w' (Value.ownBlock (.slice ao 0 cap)) → K (a.put o.dst (.slice ao' m cap')) w') :
    if Region.wanted o (yielded ops a.tmps) = true then Oper.wp Try.prog o a w K Q else E :=
  step_app_many w hgd s x hop B ao 0 cap [] hs hown ax m cx ys hx hy hm hnil (by omega) hB (fun ao' cap' w' h1 h2 h4 _ => by
    rw [Nat.zero_add] at h2 ⊢
    exact hK ao' cap' w' h1 h2 (Nat.le_trans hB h1.size) h4)

theorem grown_cell {w w' : World} {row : Option Nat} (h : w.grownBy w' row) {b : Nat} {v : Value} {t : TypeId} (hb : w.heap[b]? = some (.cells #[v] t (0, 0))) (hne : row ≠ some b) : w'.cell? ⟨b, 0, none⟩ = some v := by
  have h1 := (h.block b (Array.getElem?_eq_some_iff.1 hb).1 (fun e => hne e.symm)).trans hb
  rw [cell_of_row _ _ _ _ _ _ h1]; rfl

/-- a list of the call's own, nil where it is empty, perhaps -/
def OwnP (w : World) (xs : List Int) (e : Ending) (w' : World) : Prop := ∃ ao cap, e = .returned (.slice ao xs.length cap) ∧ IntsAt w' ao xs ∧ (ao = none → cap = 0) ∧ Below w.heap.size w w'

set_option maxRecDepth 100000 in
set_option maxHeartbeats 2000000 in
theorem xor_c (a1 a2 : Option Addr) (c1 c2 : Nat) (xs ys : List Int) (w : World) (hx : IntsAt w a1 xs) (hy : IntsAt w a2 ys) (hl : xs.length ≤ 1000) (hyl : xs.length ≤ ys.length) (hxb : isBits xs = true) (hyb : isBits ys = true) :
    Calls Try.prog 50 #[.slice a1 xs.length c1, .slice a2 ys.length c2] w (OwnP w (xorL xs ys)) := by
  have Hx := hid hx; have Hy := hid hy; have Hxb := hid hxb; have Hyb := hid hyb
  clear hx hy hxb hyb
  go_enter Try.func50, Try.ntmps50
  go_wp2
  go_loopw [5, 6] (fun o i wr => ∃ (k : Nat) (ao : Option Addr) (cap : Nat), k ≤ xs.length ∧ i = .int .i64 k ∧ o = .slice ao k cap ∧ OwnI w.heap.size wr ao k cap ((xorL xs ys).take k) ∧ Below w.heap.size w wr) (fun _ i _ => xs.length - (intOf i).toNat)
  case atStart => exact ⟨0, none, 0, Nat.zero_le _, rfl, rfl, OwnI.nil _ _, Below.refl _ _⟩
  case round =>
    obtain ⟨k, ao, cap, hk, rfl, rfl, hown, hB⟩ := hrel
    obtain ⟨wo, rfl⟩ : ∃ wo : World, wo = wr := ⟨_, rfl⟩
    have Hown := hid hown; have HB := hid hB
    clear hown hB
    by_cases hlt : k < xs.length
    · obtain ⟨b1, off1, rfl, r1⟩ := Hx.out.at hlt
      obtain ⟨b2, off2, rfl, r2⟩ := Hy.out.at (k := k) (by omega)
      have hnx := xorL_nth xs ys hlt
      obtain ⟨x, hxx⟩ : ∃ x, x = nth xs k := ⟨_, rfl⟩
      obtain ⟨y, hyy⟩ : ∃ y, y = nth ys k := ⟨_, rfl⟩
      have hx1 := isBits_nth Hxb.out k
      have hy1 := isBits_nth Hyb.out k
      rw [← hxx] at r1 hnx hx1
      rw [← hyy] at r2 hnx hy1
      have q1 := cstep r1 HB.out
      have q2 := cstep r2 HB.out
      have hsum : (IntKind.i64.wrap (x + y)).tmod 2 = (x + y) % 2 := by rcases hx1 with rfl | rfl <;> rcases hy1 with rfl | rfl <;> rfl
      have R1 := hid r1; have R2 := hid r2
      have ht := take_succ_nth (xs := xorL xs ys) (k := k) (by rw [xorL_length]; exact hlt)
      rw [hnx] at ht
      have Ht := hid ht
      have hx0 : 0 ≤ x := by omega
      have hx2 : x ≤ 1 := by omega
      have hy0 : 0 ≤ y := by omega
      have hy2 : y ≤ 1 := by omega
      have hyk : k < ys.length := by omega
      clear hxx hyy hnx ht hx1 hy1 r1 r2
      go_wp2_with fail
      go_region_held3 (fun w' => w'.cell? ⟨b1, off1 + k, none⟩ = some (.int .i64 x) ∧ w'.cell? ⟨b2, off2 + k, none⟩ = some (.int .i64 y)) (first | go_keep | exact ⟨cstep R1.out (HB.out.trans (Below.trans (by first | exact (bnew wo _).mono HB.out.size | exact ((bnew wo _).drew).mono HB.out.size) hB')), cstep R2.out (HB.out.trans (Below.trans (by first | exact (bnew wo _).mono HB.out.size | exact ((bnew wo _).drew).mono HB.out.size) hB'))⟩)
        ((refine step_app_own _ (by rfl) _ _ (by rfl) w.heap.size ao k cap ((xorL xs ys).take k) (by rfl) (by exact Hown.out.alloc _) _ ((x + y) % 2) (by rfl) (by simp [go_sem]) (by omega) (by have := HB.out.size; simp; omega) ?_; intro b' cap' w' hB' hb' hown' hgr'))
      have HB3 := hid (HB.out.trans (Below.trans (by first | exact (bnew wo (.cells #[.int .i64 ((x + y) % 2)] 3)).mono HB.out.size | exact ((bnew wo (.cells #[.int .i64 ((x + y) % 2)] 3)).drew).mono HB.out.size) hB'))
      have Hown3 := hid hown'
      clear hB' hown' hgr' hsum
      go_wp2
      go_roundw
      case rel => exact ⟨k + 1, _, cap', by omega, by go_num, rfl, by rw [Ht.out]; exact Hown3.out, HB3.out⟩
      case measure => simp [intOf]; omega
    · obtain rfl : k = xs.length := by omega
      go_wp2
      go_ret
      have e : (xorL xs ys).take xs.length = xorL xs ys := List.take_of_length_le (by rw [xorL_length]; omega)
      have ho := Hown.out
      rw [e] at ho
      exact ⟨ao, cap, by rw [xorL_length]; rfl, ho.at, fun h => (ho.none h).2, HB.out⟩

/-- the first numbers of bits -/
def bitsL (n bs : Nat) : List Int := (List.range n).map fun k => ((bs / 2 ^ k % 2 : Nat) : Int)
theorem bitsL_length (n bs : Nat) : (bitsL n bs).length = n := by simp [bitsL]
theorem bitsL_nth (n bs : Nat) {k : Nat} (h : k < n) : nth (bitsL n bs) k = ((bs / 2 ^ k % 2 : Nat) : Int) := by
  have h2 : k < (bitsL n bs).length := by rw [bitsL_length]; exact h
  rw [nth_eq h2]; simp [bitsL]
theorem bitsL_bits (n bs : Nat) : isBits (bitsL n bs) = true := isBits_of (fun k hk => by
  rw [bitsL_length] at hk; rw [bitsL_nth n bs hk]; omega)

def lt64 (bs : Nat) : Prop := bs < 18446744073709551616

theorem bit_of {bs : Nat} (h : lt64 bs) (k : Nat) : bits .and .u64 ((bs : Int) / 2 ^ k) 1 = ((bs / 2 ^ k % 2 : Nat) : Int) := by
  have e : ((bs : Int) / 2 ^ k) = ((bs / 2 ^ k : Nat) : Int) := by simp
  have h2 : bs / 2 ^ k < 18446744073709551616 := Nat.lt_of_le_of_lt (Nat.div_le_self _ _) h
  have := bits_and_u64_nat (bs / 2 ^ k) 1 h2 (by omega)
  rw [e]
  rw [Nat.and_one_is_mod] at this
  exact this

set_option maxRecDepth 100000 in
set_option maxHeartbeats 2000000 in
theorem bits_c (n bs : Nat) (w : World) (hn : n ≤ 64) (hb : lt64 bs) : Calls Try.prog 48 #[.int .i64 n, .int .u64 bs] w (OwnP w (bitsL n bs)) := by
  have Hb := hid hb
  clear hb
  go_enter Try.func48, Try.ntmps48
  go_wp2
  go_loopw [5, 6] (fun o i wr => ∃ (k : Nat) (ao : Option Addr) (cap : Nat), k ≤ n ∧ i = .int .i64 k ∧ o = .slice ao k cap ∧ OwnI w.heap.size wr ao k cap ((bitsL n bs).take k) ∧ Below w.heap.size w wr) (fun _ i _ => n - (intOf i).toNat)
  case atStart => exact ⟨0, none, 0, Nat.zero_le _, rfl, rfl, OwnI.nil _ _, Below.refl _ _⟩
  case round =>
    obtain ⟨k, ao, cap, hk, rfl, rfl, hown, hB⟩ := hrel
    obtain ⟨wo, rfl⟩ : ∃ wo : World, wo = wr := ⟨_, rfl⟩
    have Hown := hid hown; have HB := hid hB
    clear hown hB
    by_cases hlt : k < n
    · have ht := take_succ_nth (xs := bitsL n bs) (k := k) (by rw [bitsL_length]; exact hlt)
      rw [bitsL_nth n bs hlt] at ht
      have hbit := bit_of Hb.out k
      have hk64 : (k : Int) % 64 = (k : Int) := by omega
      obtain ⟨v, hv⟩ : ∃ v : Nat, v = bs / 2 ^ k % 2 := ⟨_, rfl⟩
      rw [← hv] at ht hbit
      have hv2 : v < 2 := by omega
      have hv3 : (v : Int) ≤ 1 := by omega
      have Ht := hid ht
      clear ht hv
      go_wp2_with (at_builtin; refine wpList_app_own _ rfl _ _ rfl w.heap.size ao k cap ((bitsL n bs).take k) rfl ?c1 _ (v : Int) rfl ?c2 ?c3 ?c4 ?c5; rotate_right; (intro b' cap' w' hB' hb' hown' hgr'; refine Hid.out ?_))
      case c1 => exact Hown.out.alloc _
      case c2 => simp
      case c3 => omega
      case c4 => have := HB.out.size; simp; omega
      case c5 =>
        refine hid ?_
        have Hown' := hid hown'
        have HB' := hid (HB.out.trans (((bnew wo (.cells #[.int .i64 v] 3)).mono HB.out.size).trans hB'))
        clear hown' hB' hgr' hbit hk64
        go_wp2
        go_roundw
        case rel => exact ⟨k + 1, _, cap', by omega, by go_num, rfl, by rw [Ht.out]; exact Hown'.out, HB'.out⟩
        case measure => simp [intOf]; omega
    · obtain rfl : k = n := by omega
      go_wp2
      go_ret
      have e : (bitsL k bs).take k = bitsL k bs := List.take_of_length_le (by rw [bitsL_length]; omega)
      have ho := Hown.out
      rw [e] at ho
      exact ⟨ao, cap, by rw [bitsL_length]; rfl, ho.at, fun h => (ho.none h).2, HB.out⟩

end Go.Proofs.Ytjnijhnphhpilaa
