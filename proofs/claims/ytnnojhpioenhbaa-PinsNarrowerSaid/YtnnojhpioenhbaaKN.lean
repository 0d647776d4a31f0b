/- The program on the examples' board and readings. What the operations of a drawn region make: literals, lists handed through, comparisons of lists. Walk: Works. -/
import Derived.Test.YtnnojhpioenhbaaKM
import Derived.Test.YtnnojhpioenhbaaKJ
import Derived.Test.YtnnojhpioenhbaaKL
import Derived.Test.YtnnojhpioenhbaaKH
import Derived.Deep.RegionHeld3
namespace Go.Proofs.Ytnnojhpioenhbaa
open Go.RowKit Go.Shelf

/-- the examples' board and readings in memory, the boxes of them at q -/
structure Ex (W : World) (q b1 b2 r1 r2 s1 s2 : Nat) : Prop where
  k0 : W.cell? ⟨q, 0, none⟩ = some (.slice (some ⟨b1, 0, none⟩) 2 2)
  k1 : W.cell? ⟨q, 1, none⟩ = some (.slice (some ⟨b2, 0, none⟩) 3 3)
  k2 : W.cell? ⟨q + 1, 0, none⟩ = some (.slice (some ⟨r1, 0, none⟩) 1 1)
  k3 : W.cell? ⟨q + 1, 1, none⟩ = some (.slice (some ⟨r2, 0, none⟩) 1 1)
  k4 : W.cell? ⟨q + 1 + 1, 0, none⟩ = some (.slice (some ⟨s1, 0, none⟩) 1 1)
  k5 : W.cell? ⟨q + 1 + 1, 1, none⟩ = some (.slice (some ⟨s2, 0, none⟩) 1 1)
  b : BdAt W (some ⟨b1, 0, none⟩) (some ⟨b2, 0, none⟩) exB
  r : RdAt W (some ⟨r1, 0, none⟩) (some ⟨r2, 0, none⟩) exR
  s : RdAt W (some ⟨s1, 0, none⟩) (some ⟨s2, 0, none⟩) exS
theorem Ex.mono {W W' : World} {q b1 b2 r1 r2 s1 s2 : Nat} (h : Ex W q b1 b2 r1 r2 s1 s2) (hB : Below W.heap.size W W') : Ex W' q b1 b2 r1 r2 s1 s2 :=
  ⟨cstep h.k0 hB, cstep h.k1 hB, cstep h.k2 hB, cstep h.k3 hB, cstep h.k4 hB, cstep h.k5 hB, h.b.mono hB, h.r.mono hB, h.s.mono hB⟩

theorem lB : exB.pins.length ≤ 1000000 := by show 2 ≤ 1000000; omega
theorem lY : exB.pays.length ≤ 1000000 := by show 3 ≤ 1000000; omega
theorem lR : exR.plumbs.length ≤ 1000000 := by show 1 ≤ 1000000; omega
theorem lRs : exR.slots.length ≤ 1000000 := by show 1 ≤ 1000000; omega
theorem lS : exS.plumbs.length ≤ 1000000 := by show 1 ≤ 1000000; omega
theorem lSs : exS.slots.length ≤ 1000000 := by show 1 ≤ 1000000; omega
section
variable {W : World} {q b1 b2 r1 r2 s1 s2 : Nat} (E : Ex W q b1 b2 r1 r2 s1 s2)
include E
set_option maxRecDepth 100000 in
theorem kWays (lv err : Int) (xs : List Int) (h1 : atErr exB lv = err) (h2 : waysX exB lv = xs) : Calls Try.prog 18 #[.agg #[.slice (some ⟨b1, 0, none⟩) 2 2, .slice (some ⟨b2, 0, none⟩) 3 3], .int .i64 lv] W (SliceE W err xs) := by
  subst h1 h2; exact pWays_c _ 2 _ 3 exB lv W E.b lB lY
set_option maxRecDepth 100000 in
theorem kPay (lv err : Int) (x : Int × Int) (h1 : atErr exB lv = err) (h2 : payX exB lv = x) : Calls Try.prog 20 #[.agg #[.slice (some ⟨b1, 0, none⟩) 2 2, .slice (some ⟨b2, 0, none⟩) 3 3], .int .i64 lv] W (QE W err x) := by
  subst h1 h2; exact pPay_c _ 2 _ 3 exB lv W E.b lB lY
set_option maxRecDepth 100000 in
theorem kBack (lv slot err : Int) (ls : List (List Int)) (h1 : backErr exB lv slot = err) (h2 : backX exB lv slot = ls) : Calls Try.prog 22 #[.agg #[.slice (some ⟨b1, 0, none⟩) 2 2, .slice (some ⟨b2, 0, none⟩) 3 3], .int .i64 lv, .int .i64 slot] W (RowsE W err ls) := by
  subst h1 h2; exact pBack_c slot _ 2 _ 3 exB lv W E.b lB lY
set_option maxRecDepth 100000 in
theorem kFalls (lv err v : Int) (p : List Int) (a : Option Addr) (hp : IntsAt W a p) (hl : p.length ≤ 1000000) (h1 : fallsErr exB lv p = err) (h2 : fallsX exB lv p = v) : Calls Try.prog 28 #[.agg #[.slice (some ⟨b1, 0, none⟩) 2 2, .slice (some ⟨b2, 0, none⟩) 3 3], .int .i64 lv, .slice a p.length p.length] W (IntE W err v) := by
  subst h1 h2; exact pFalls_c a _ p _ 2 _ 3 exB lv W E.b lB lY hp hl
set_option maxRecDepth 100000 in
theorem kPath (lv err : Int) (xs : List Int) (h1 : atErr exB lv = err) (h2 : pathX exB lv = xs) : Calls Try.prog 30 #[.agg #[.slice (some ⟨b1, 0, none⟩) 2 2, .slice (some ⟨b2, 0, none⟩) 3 3], .int .i64 lv] W (SliceE W err xs) := by
  subst h1 h2; exact pPath_c _ 2 _ 3 exB lv W E.b lB lY
set_option maxRecDepth 100000 in
theorem kLevR (err : Int) (xs : List Int) (h1 : levErr exB exR = err) (h2 : levX exB exR = xs) : Calls Try.prog 34 #[.agg #[.slice (some ⟨b1, 0, none⟩) 2 2, .slice (some ⟨b2, 0, none⟩) 3 3], .agg #[.slice (some ⟨r1, 0, none⟩) 1 1, .slice (some ⟨r2, 0, none⟩) 1 1]] W (SliceE W err xs) := by
  subst h1 h2; exact pLevels_c _ 2 _ 3 _ 1 _ 1 exB exR W E.b E.r lB lY lR lRs
set_option maxRecDepth 100000 in
theorem kLevS (err : Int) (xs : List Int) (h1 : levErr exB exS = err) (h2 : levX exB exS = xs) : Calls Try.prog 34 #[.agg #[.slice (some ⟨b1, 0, none⟩) 2 2, .slice (some ⟨b2, 0, none⟩) 3 3], .agg #[.slice (some ⟨s1, 0, none⟩) 1 1, .slice (some ⟨s2, 0, none⟩) 1 1]] W (SliceE W err xs) := by
  subst h1 h2; exact pLevels_c _ 2 _ 3 _ 1 _ 1 exB exS W E.b E.s lB lY lS lSs
set_option maxRecDepth 100000 in
theorem kRefS (err : Int) (xs : List Int) (h1 : refErr exB exS = err) (h2 : refX exB exS = xs) : Calls Try.prog 36 #[.agg #[.slice (some ⟨b1, 0, none⟩) 2 2, .slice (some ⟨b2, 0, none⟩) 3 3], .agg #[.slice (some ⟨s1, 0, none⟩) 1 1, .slice (some ⟨s2, 0, none⟩) 1 1]] W (SliceE W err xs) := by
  subst h1 h2; exact pRefuted_c _ 2 _ 3 _ 1 _ 1 exB exS W E.b E.s lB lY lS lSs
set_option maxRecDepth 100000 in
theorem kRefR (err : Int) (xs : List Int) (h1 : refErr exB exR = err) (h2 : refX exB exR = xs) : Calls Try.prog 36 #[.agg #[.slice (some ⟨b1, 0, none⟩) 2 2, .slice (some ⟨b2, 0, none⟩) 3 3], .agg #[.slice (some ⟨r1, 0, none⟩) 1 1, .slice (some ⟨r2, 0, none⟩) 1 1]] W (SliceE W err xs) := by
  subst h1 h2; exact pRefuted_c _ 2 _ 3 _ 1 _ 1 exB exR W E.b E.r lB lY lR lRs
set_option maxRecDepth 100000 in
theorem kCr (err : Int) (p : List Int) (a : Option Addr) (hp : IntsAt W a p) (hl : p.length ≤ 1000000) (h1 : crErr exB exS p = err) : Calls Try.prog 40 #[.agg #[.slice (some ⟨b1, 0, none⟩) 2 2, .slice (some ⟨b2, 0, none⟩) 3 3], .agg #[.slice (some ⟨s1, 0, none⟩) 1 1, .slice (some ⟨s2, 0, none⟩) 1 1], .slice a p.length p.length] W (TellI W err) := by
  subst h1; exact pCheckRefuted_c _ 2 _ 3 _ 1 _ 1 a _ exB exS p W E.b E.s hp lB lY lS lSs hl
set_option maxRecDepth 100000 in
theorem kSpan (err : Int) (x y : Int × Int) (h1 : levErr exB exR = err) (h2 : spanLo exB exR = x) (h3 : spanHi exB exR = y) : Calls Try.prog 42 #[.agg #[.slice (some ⟨b1, 0, none⟩) 2 2, .slice (some ⟨b2, 0, none⟩) 3 3], .agg #[.slice (some ⟨r1, 0, none⟩) 1 1, .slice (some ⟨r2, 0, none⟩) 1 1]] W (SpanE W err x y) := by
  subst h1 h2 h3; exact pSpan_c _ 2 _ 3 _ 1 _ 1 exB exR W E.b E.r lB lY lR lRs
set_option maxRecDepth 100000 in
theorem kBro (c : Int × Int) (err v : Int) (h1 : broErr exB exR c = err) (h2 : broX exB exR c = v) : Calls Try.prog 44 #[.agg #[.slice (some ⟨b1, 0, none⟩) 2 2, .slice (some ⟨b2, 0, none⟩) 3 3], .agg #[.slice (some ⟨r1, 0, none⟩) 1 1, .slice (some ⟨r2, 0, none⟩) 1 1], .agg #[.int .i64 c.1, .int .i64 c.2]] W (IntE W err v) := by
  subst h1 h2; exact pBroken_c _ 2 _ 3 _ 1 _ 1 exB exR c W E.b E.r lB lY lR lRs
set_option maxRecDepth 100000 in
theorem kCb (c : Int × Int) (lv err : Int) (h1 : cbErr exB exR c lv = err) : Calls Try.prog 46 #[.agg #[.slice (some ⟨b1, 0, none⟩) 2 2, .slice (some ⟨b2, 0, none⟩) 3 3], .agg #[.slice (some ⟨r1, 0, none⟩) 1 1, .slice (some ⟨r2, 0, none⟩) 1 1], .agg #[.int .i64 c.1, .int .i64 c.2], .int .i64 lv] W (TellI W err) := by
  subst h1; exact pCheckBroken_c _ 2 _ 3 _ 1 _ 1 exB exR c lv W E.b E.r lB lY lR lRs
end

theorem v1 : atErr exB 2 = 0 := by decide +kernel
theorem v1b : waysX exB 2 = [15, 15, 70] := by decide +kernel
theorem v2 : atErr exB 6 = 2 := by decide +kernel
theorem v2b : waysX exB 6 = [] := by decide +kernel
theorem v3 : atErr exB 0 = 0 := by decide +kernel
theorem v3b : payX exB 0 = (31, 10) := by decide +kernel
theorem v4 : backErr exB 0 1 = 0 := by decide +kernel
theorem v4b : backX exB 0 1 = [[25], [3, 2]] := by decide +kernel
theorem v5 : backErr exB 0 3 = 3 := by decide +kernel
theorem v5b : backX exB 0 3 = [] := by decide +kernel
theorem v6 : fallsErr exB 0 [0, 1] = 0 := by decide +kernel
theorem v6b : fallsX exB 0 [0, 1] = 15 := by decide +kernel
theorem v7 : fallsErr exB 0 [0, 1, 1] = 15 := by decide +kernel
theorem v7b : fallsX exB 0 [0, 1, 1] = 0 := by decide +kernel
theorem v8 : pathX exB 0 = [1, 1] := by decide +kernel
theorem v9 : levErr exB exR = 0 := by decide +kernel
theorem v9b : levX exB exR = [-1, 0, 1, 2, 3, 4] := by decide +kernel
theorem v10 : levErr exB exS = 18 := by decide +kernel
theorem v10b : levX exB exS = [] := by decide +kernel
theorem v11 : refErr exB exS = 0 := by decide +kernel
theorem v11b : refX exB exS = [1, 0, 0, 0, 0, 0, 0, 0, 0, 0, 0] := by decide +kernel
theorem v12 : refErr exB exR = 5 := by decide +kernel
theorem v12b : refX exB exR = [] := by decide +kernel
theorem v13 : crErr exB exS [0, 0, 0, 0, 0, 0, 0, 0, 0, 0, 0] = 14 := by decide +kernel
theorem v14 : spanLo exB exR = (66, 25) := by decide +kernel
theorem v14b : spanHi exB exR = (273, 50) := by decide +kernel
theorem v15 : broErr exB exR (3, 1) = 0 := by decide +kernel
theorem v15b : broX exB exR (3, 1) = -1 := by decide +kernel
theorem v16 : broErr exB exR (5, 2) = 5 := by decide +kernel
theorem v16b : broX exB exR (5, 2) = 0 := by decide +kernel
theorem v17 : cbErr exB exR (3, 1) (-1) = 0 := by decide +kernel
theorem v18 : cbErr exB exR (3, 1) 0 = 16 := by decide +kernel

end Go.Proofs.Ytnnojhpioenhbaa

namespace Go.Proofs.Ytnnojhpioenhbaa
open Go.RowKit Go.Shelf

theorem putN_ev_nz {nz : List (Nat × Tmp)} {r : Nat → Value} {G : Act} {i : Nat} {d : Tmp} (h : ∀ y ∈ nz, y.2 = d → y.1 = i) (he : ∃ y ∈ nz, y.2 = d) (hd : d < G.tmps.size) : (putN nz r G).eval (.tmp d) = r i := by
  have e := putN_at (r := r) h he G hd
  simp [Act.eval, e]
theorem putN_ev {nz : List (Nat × Tmp)} {r : Nat → Value} {G : Act} {d : Tmp} {v : Value} (h : ∀ x ∈ nz, x.2 ≠ d) (hv : G.eval (.tmp d) = v) : (putN nz r G).eval (.tmp d) = v := by
  have e := putN_other (r := r) h G
  rw [← hv]
  simp [Act.eval, e]

section
variable (dst : Option Tmp) (ty : TypeId) (pos : String) (after : Array Edge) (gd : Option (Nat × Bool)) (A : Act) (s : World)
/-- a list of a literal's content -/
def ListV (xs : List Int) (v : Value) (w : World) : Prop := ∃ b, v = .slice (some b) xs.length xs.length ∧ IntsAt w (some b) xs
set_option maxRecDepth 100000 in
set_option maxHeartbeats 1000000 in
theorem makes_lit_a :
    makesOp Try.prog { dst := dst, op := .buildSlice 23 3 #[(0, .const (.int .i64 15)), (1, .const (.int .i64 15)), (2, .const (.int .i64 70))], type := ty, pos := pos, after := after, guard := gd } A s fun v s' => Below s.heap.size s s' ∧ ListV [15, 15, 70] v s' := by
  unfold makesOp
  simp [go_sem]
  exact ⟨bnew _ _, _, rfl, intsAt_new s [15, 15, 70] _ 2 rfl⟩
set_option maxRecDepth 100000 in
set_option maxHeartbeats 1000000 in
theorem makes_lit_b :
    makesOp Try.prog { dst := dst, op := .buildSlice 23 1 #[(0, .const (.int .i64 25))], type := ty, pos := pos, after := after, guard := gd } A s fun v s' => Below s.heap.size s s' ∧ ListV [25] v s' := by
  unfold makesOp
  simp [go_sem]
  exact ⟨bnew _ _, _, rfl, intsAt_new s [25] _ 2 rfl⟩
set_option maxRecDepth 100000 in
set_option maxHeartbeats 1000000 in
theorem makes_lit_c :
    makesOp Try.prog { dst := dst, op := .buildSlice 23 2 #[(0, .const (.int .i64 3)), (1, .const (.int .i64 2))], type := ty, pos := pos, after := after, guard := gd } A s fun v s' => Below s.heap.size s s' ∧ ListV [3, 2] v s' := by
  unfold makesOp
  simp [go_sem]
  exact ⟨bnew _ _, _, rfl, intsAt_new s [3, 2] _ 2 rfl⟩
set_option maxRecDepth 100000 in
set_option maxHeartbeats 1000000 in
theorem makes_lit_d :
    makesOp Try.prog { dst := dst, op := .buildSlice 42 2 #[(0, .const (.int .i64 1)), (1, .const (.int .i64 1))], type := ty, pos := pos, after := after, guard := gd } A s fun v s' => Below s.heap.size s s' ∧ ListV [1, 1] v s' := by
  unfold makesOp
  simp [go_sem]
  exact ⟨bnew _ _, _, rfl, intsAt_new s [1, 1] _ 3 rfl⟩
set_option maxRecDepth 100000 in
set_option maxHeartbeats 1000000 in
theorem makes_lit_e :
    makesOp Try.prog { dst := dst, op := .buildSlice 42 6 #[(0, .const (.int .i64 (-1))), (1, .const (.int .i64 0)), (2, .const (.int .i64 1)), (3, .const (.int .i64 2)), (4, .const (.int .i64 3)), (5, .const (.int .i64 4))], type := ty, pos := pos, after := after, guard := gd } A s fun v s' => Below s.heap.size s s' ∧ ListV [-1, 0, 1, 2, 3, 4] v s' := by
  unfold makesOp
  simp [go_sem]
  exact ⟨bnew _ _, _, rfl, intsAt_new s [-1, 0, 1, 2, 3, 4] _ 3 rfl⟩
set_option maxRecDepth 100000 in
set_option maxHeartbeats 1000000 in
theorem makes_lit_f :
    makesOp Try.prog { dst := dst, op := .buildSlice 42 11 #[(0, .const (.int .i64 1)), (1, .const (.int .i64 0)), (2, .const (.int .i64 0)), (3, .const (.int .i64 0)), (4, .const (.int .i64 0)), (5, .const (.int .i64 0)), (6, .const (.int .i64 0)), (7, .const (.int .i64 0)), (8, .const (.int .i64 0)), (9, .const (.int .i64 0)), (10, .const (.int .i64 0))], type := ty, pos := pos, after := after, guard := gd } A s fun v s' => Below s.heap.size s s' ∧ ListV [1, 0, 0, 0, 0, 0, 0, 0, 0, 0, 0] v s' := by
  unfold makesOp
  simp [go_sem]
  exact ⟨bnew _ _, _, rfl, intsAt_new s [1, 0, 0, 0, 0, 0, 0, 0, 0, 0, 0] _ 3 rfl⟩
set_option maxRecDepth 100000 in
set_option maxHeartbeats 1000000 in
theorem makes_of65 (x : Tmp) (v : Value) (hx : A.eval (.tmp x) = v) :
    makesOp Try.prog { dst := dst, op := .call { callee := .value (.func 65), args := #[.tmp x], argTypes := #[23] }, type := ty, pos := pos, after := after, guard := gd } A s fun u s' => Below s.heap.size s s' ∧ u = v ∧ s' = s := by
  have hx' : A.tmps[x]?.getD undef = v := by simpa [Act.eval] using hx
  unfold makesOp
  simp [go_sem, hx']
  refine (longsOf_c s v).mono ?_
  rintro e w' ⟨h1, rfl⟩
  exact ⟨v, h1, Below.refl _ _, rfl, rfl⟩
set_option maxRecDepth 100000 in
set_option maxHeartbeats 1000000 in
theorem makes_of64 (x : Tmp) (v : Value) (hx : A.eval (.tmp x) = v) :
    makesOp Try.prog { dst := dst, op := .call { callee := .value (.func 64), args := #[.tmp x], argTypes := #[42] }, type := ty, pos := pos, after := after, guard := gd } A s fun u s' => Below s.heap.size s s' ∧ u = v ∧ s' = s := by
  have hx' : A.tmps[x]?.getD undef = v := by simpa [Act.eval] using hx
  unfold makesOp
  simp [go_sem, hx']
  refine (of_c s v).mono ?_
  rintro e w' ⟨h1, rfl⟩
  exact ⟨v, h1, Below.refl _ _, rfl, rfl⟩
set_option maxRecDepth 100000 in
set_option maxHeartbeats 1000000 in
theorem makes_longs (x y : Tmp) (xs : List Int) (a b : Option Addr) (n m c d : Nat) (hn : n = xs.length) (hm : m = xs.length) (hx : A.eval (.tmp x) = .slice a n c) (hy : A.eval (.tmp y) = .slice b m d) (ha : IntsAt s a xs) (hb : IntsAt s b xs) (hl : xs.length ≤ 1000000) :
    makesOp Try.prog { dst := dst, op := .call { callee := .value (.func 26), args := #[.tmp x, .tmp y], argTypes := #[23, 23] }, type := ty, pos := pos, after := after, guard := gd } A s fun u s' => Below s.heap.size s s' ∧ u = .bool true := by
  subst hn hm
  have hx' : A.tmps[x]?.getD undef = .slice a xs.length c := by simpa [Act.eval] using hx
  have hy' : A.tmps[y]?.getD undef = .slice b xs.length d := by simpa [Act.eval] using hy
  unfold makesOp
  simp [go_sem, hx', hy']
  refine (longs_c a b c d xs xs s ha hb hl).mono ?_
  rintro e w' ⟨h1, h2⟩
  exact ⟨by rw [h1]; simp, h2⟩
set_option maxRecDepth 100000 in
set_option maxHeartbeats 1000000 in
theorem makes_ints (x y : Tmp) (xs : List Int) (a b : Option Addr) (n m c d : Nat) (hn : n = xs.length) (hm : m = xs.length) (hx : A.eval (.tmp x) = .slice a n c) (hy : A.eval (.tmp y) = .slice b m d) (ha : IntsAt s a xs) (hb : IntsAt s b xs) (hl : xs.length ≤ 1000000) :
    makesOp Try.prog { dst := dst, op := .call { callee := .value (.func 32), args := #[.tmp x, .tmp y], argTypes := #[42, 42] }, type := ty, pos := pos, after := after, guard := gd } A s fun u s' => Below s.heap.size s s' ∧ u = .bool true := by
  subst hn hm
  have hx' : A.tmps[x]?.getD undef = .slice a xs.length c := by simpa [Act.eval] using hx
  have hy' : A.tmps[y]?.getD undef = .slice b xs.length d := by simpa [Act.eval] using hy
  unfold makesOp
  simp [go_sem, hx', hy']
  refine (ints_c a b c d xs xs s ha hb hl).mono ?_
  rintro e w' ⟨h1, h2⟩
  exact ⟨by rw [h1]; simp, h2⟩
set_option maxRecDepth 100000 in
set_option maxHeartbeats 1000000 in
theorem makes_tables (x y : Tmp) (xs : List (List Int)) (a b : Option Addr) (n m c d : Nat) (hn : n = xs.length) (hm : m = xs.length) (hx : A.eval (.tmp x) = .slice a n c) (hy : A.eval (.tmp y) = .slice b m d) (ha : RowsAt s a xs) (hb : RowsAt s b xs) (hl : xs.length ≤ 1000000) (hl1 : ∀ l ∈ xs, l.length ≤ 1000000) :
    makesOp Try.prog { dst := dst, op := .call { callee := .value (.func 27), args := #[.tmp x, .tmp y], argTypes := #[35, 35] }, type := ty, pos := pos, after := after, guard := gd } A s fun u s' => Below s.heap.size s s' ∧ u = .bool true := by
  subst hn hm
  have hx' : A.tmps[x]?.getD undef = .slice a xs.length c := by simpa [Act.eval] using hx
  have hy' : A.tmps[y]?.getD undef = .slice b xs.length d := by simpa [Act.eval] using hy
  unfold makesOp
  simp [go_sem, hx', hy']
  refine (tables_c a b c d xs xs s ha hb hl hl1).mono ?_
  rintro e w' ⟨h1, h2⟩
  exact ⟨by rw [h1]; simp, h2⟩
set_option maxRecDepth 100000 in
set_option maxHeartbeats 1000000 in
theorem makes_rows (x y : Tmp) (u v : Value) (hu : ListV [25] u s) (hv : ListV [3, 2] v s) (hx : A.eval (.tmp x) = u) (hy : A.eval (.tmp y) = v) :
    makesOp Try.prog { dst := dst, op := .buildSlice 35 2 #[(0, .tmp x), (1, .tmp y)], type := ty, pos := pos, after := after, guard := gd } A s fun z s' => Below s.heap.size s s' ∧ ∃ a, z = .slice a 2 2 ∧ RowsAt s' a [[25], [3, 2]] := by
  obtain ⟨a, rfl, ha⟩ := hu
  obtain ⟨b, rfl, hb⟩ := hv
  have hr := heap_alloc_new s (.cells #[.slice (some a) 1 1, .slice (some b) 2 2] 23)
  have hB := bnew s (.cells #[.slice (some a) 1 1, .slice (some b) 2 2] 23)
  unfold makesOp
  simp only [execOp, List.map_toArray, List.map_cons, List.map_nil, hx, hy]
  simp [go_sem]
  refine ⟨hB, .inr ⟨_, 0, rfl, fun j hj => ?_⟩⟩
  match j, hj with
  | 0, _ => exact ⟨some a, 1, by rw [cell_of_row _ _ _ _ _ _ hr]; rfl, ha.mono hB, fun h => by cases h⟩
  | 1, _ => exact ⟨some b, 2, by rw [cell_of_row _ _ _ _ _ _ hr]; rfl, hb.mono hB, fun h => by cases h⟩
end

end Go.Proofs.Ytnnojhpioenhbaa

namespace Go.Proofs.Ytnnojhpioenhbaa
open Go.RowKit Go.Shelf

theorem IntsAt.undrew {w : World} {a : Option Addr} {xs : List Int} (h : IntsAt w a xs) : IntsAt w.drew a xs := h
theorem lit01 (w : World) (b : Nat) (hb : b = w.heap.size) : IntsAt (w.alloc (.cells #[.int .i64 0, .int .i64 1] 3)) (some ⟨b, 0, none⟩) [0, 1] := intsAt_new w [0, 1] b 3 hb
theorem lit011 (w : World) (b : Nat) (hb : b = w.heap.size) : IntsAt (w.alloc (.cells #[.int .i64 0, .int .i64 1, .int .i64 1] 3)) (some ⟨b, 0, none⟩) [0, 1, 1] := intsAt_new w [0, 1, 1] b 3 hb
theorem lit00000000000 (w : World) (b : Nat) (hb : b = w.heap.size) : IntsAt (w.alloc (.cells #[.int .i64 0, .int .i64 0, .int .i64 0, .int .i64 0, .int .i64 0, .int .i64 0, .int .i64 0, .int .i64 0, .int .i64 0, .int .i64 0, .int .i64 0] 3)) (some ⟨b, 0, none⟩) [0, 0, 0, 0, 0, 0, 0, 0, 0, 0, 0] := intsAt_new w [0, 0, 0, 0, 0, 0, 0, 0, 0, 0, 0] b 3 hb
theorem lit151570 (w : World) (b : Nat) (hb : b = w.heap.size) : IntsAt (w.alloc (.cells #[.int .i64 15, .int .i64 15, .int .i64 70] 2)) (some ⟨b, 0, none⟩) [15, 15, 70] := intsAt_new w [15, 15, 70] b 2 hb
theorem lit25 (w : World) (b : Nat) (hb : b = w.heap.size) : IntsAt (w.alloc (.cells #[.int .i64 25] 2)) (some ⟨b, 0, none⟩) [25] := intsAt_new w [25] b 2 hb
theorem lit32 (w : World) (b : Nat) (hb : b = w.heap.size) : IntsAt (w.alloc (.cells #[.int .i64 3, .int .i64 2] 2)) (some ⟨b, 0, none⟩) [3, 2] := intsAt_new w [3, 2] b 2 hb
theorem lit11 (w : World) (b : Nat) (hb : b = w.heap.size) : IntsAt (w.alloc (.cells #[.int .i64 1, .int .i64 1] 3)) (some ⟨b, 0, none⟩) [1, 1] := intsAt_new w [1, 1] b 3 hb
theorem lit101234 (w : World) (b : Nat) (hb : b = w.heap.size) : IntsAt (w.alloc (.cells #[.int .i64 (-1), .int .i64 0, .int .i64 1, .int .i64 2, .int .i64 3, .int .i64 4] 3)) (some ⟨b, 0, none⟩) [-1, 0, 1, 2, 3, 4] := intsAt_new w [-1, 0, 1, 2, 3, 4] b 3 hb
theorem lit10000000000 (w : World) (b : Nat) (hb : b = w.heap.size) : IntsAt (w.alloc (.cells #[.int .i64 1, .int .i64 0, .int .i64 0, .int .i64 0, .int .i64 0, .int .i64 0, .int .i64 0, .int .i64 0, .int .i64 0, .int .i64 0, .int .i64 0] 3)) (some ⟨b, 0, none⟩) [1, 0, 0, 0, 0, 0, 0, 0, 0, 0, 0] := intsAt_new w [1, 0, 0, 0, 0, 0, 0, 0, 0, 0, 0] b 3 hb
theorem ListV.mono {xs : List Int} {v : Value} {w w' : World} (h : ListV xs v w) (hB : Below w.heap.size w w') : ListV xs v w' := by
  obtain ⟨b, h1, h2⟩ := h
  exact ⟨b, h1, h2.mono hB⟩
theorem makesOp_mono {P : Program} {o : Oper} {A : Act} {s : World} {R S : Value → World → Prop} (h : makesOp P o A s R) (hi : ∀ v w, R v w → S v w) : makesOp P o A s S := by
  unfold makesOp at h ⊢
  generalize (execOp A.eval o).run P s = res at h ⊢
  cases res with
  | ok y w' =>
    cases y <;> simp only at h ⊢
    case value u => exact hi _ _ h
    case enter f args => exact h.mono fun e w2 ⟨v, h1, h2⟩ => ⟨v, h1, hi _ _ h2⟩
  | halt y w' => exact h.elim
theorem wanted_at {l : List Oper} {o : Oper} {g : Nat} {t : Tmp} {nz : List (Nat × Tmp)} {r : Nat → Value} {G : Act} (hg : o.guard = some (g, true)) (hd : (l.toArray[g]?).bind (·.dst) = some t) (hn : ∀ x ∈ nz, x.2 ≠ t) (hG : G.tmps[t]? = some (.bool true)) :
    Region.wanted o (yielded l.toArray (putN nz r G).tmps) = true := by
  have e := putN_other (r := r) hn G
  unfold Region.wanted
  rw [hg]
  simp only
  unfold yielded
  rw [hd]
  simp [e, hG]
def nz21 : List (Nat × Tmp) := [(1, 214), (2, 215), (11, 224), (12, 225), (13, 226), (14, 227), (15, 228), (24, 237), (25, 238), (30, 243), (31, 244), (36, 249), (37, 250)]
def dp21 (i : Nat) : List Nat := if i = 2 then [1] else if i = 3 then [2] else if i = 12 then [11] else if i = 14 then [13] else if i = 15 then [12, 14] else if i = 16 then [15] else if i = 25 then [24] else if i = 26 then [25] else if i = 31 then [30] else if i = 32 then [31] else if i = 37 then [36] else if i = 38 then [37] else []
def ls21 (i : Nat) : List Int := if i = 1 then [15, 15, 70] else if i = 2 then [15, 15, 70] else if i = 11 then [25] else if i = 12 then [25] else if i = 13 then [3, 2] else if i = 14 then [3, 2] else if i = 24 then [1, 1] else if i = 25 then [1, 1] else if i = 30 then [-1, 0, 1, 2, 3, 4] else if i = 31 then [-1, 0, 1, 2, 3, 4] else if i = 36 then [1, 0, 0, 0, 0, 0, 0, 0, 0, 0, 0] else if i = 37 then [1, 0, 0, 0, 0, 0, 0, 0, 0, 0, 0] else []
def Φ21 (i : Nat) (_ : List Value) (v : Value) (_ q : World) : Prop :=
  if i = 15 then ∃ a, v = .slice a 2 2 ∧ RowsAt q a [[25], [3, 2]] else ListV (ls21 i) v q
set_option maxRecDepth 100000 in
set_option maxHeartbeats 60000000 in
theorem works_c (w : World) : Calls Try.prog 17 #[] w (TellB w true) := by
  unfold TellB
  go_enter Try.func17, Try.ntmps17
  go_wp2_with fail
  refine (board_c _).mono ?_
  rintro e w1 ⟨b1, b2, rfl, hb, hB1⟩
  go_wp2_with fail
  refine (one_c _).mono ?_
  rintro e w2 ⟨r1, r2, rfl, hr, hB2⟩
  go_wp2_with fail
  refine (two_c _).mono ?_
  rintro e w3 ⟨s1, s2, rfl, hs, hB3⟩
  obtain ⟨V, hV, hB0, k0, k1, k2, k3, k4, k5⟩ := box3 w3 (.slice (some ⟨b1, 0, none⟩) 2 2) (.slice (some ⟨b2, 0, none⟩) 3 3) (.slice (some ⟨r1, 0, none⟩) 1 1) (.slice (some ⟨r2, 0, none⟩) 1 1) (.slice (some ⟨s1, 0, none⟩) 1 1) (.slice (some ⟨s2, 0, none⟩) 1 1) 25 51 51
  have HE := hid (show Ex V w3.heap.size b1 b2 r1 r2 s1 s2 from ⟨k0, k1, k2, k3, k4, k5, ((hb.mono hB2).mono hB3).mono hB0, (hr.mono hB3).mono hB0, hs.mono hB0⟩)
  have HB := hid (bstep (bstep (bstep hB1 hB2) hB3) hB0)
  have HV := hid hV
  clear hV hB0 k0 k1 k2 k3 k4 k5 hb hr hs hB1 hB2 hB3
  go_wp2_with fail
  rw [← HV.out]
  obtain ⟨q, hq⟩ : ∃ q, q = w3.heap.size := ⟨_, rfl⟩
  rw [← hq] at HE ⊢
  clear HV hq
  refine (kWays HE.out 2 0 _ v1 v1b).mono ?_
  rintro e x1 ⟨aw, caw, rfl, hx, _, hB⟩
  have HE' := hid (HE.out.mono hB); have HB' := hid (bstep HB.out hB)
  clear HE HB 
  have HE := HE'; have HB := HB'
  clear HE' HB' 
  have LW := hid hx
  clear hB hx
  have k0 := HE.out.k0; have k1 := HE.out.k1; have k2 := HE.out.k2; have k3 := HE.out.k3; have k4 := HE.out.k4; have k5 := HE.out.k5
  go_wp2_with fail
  refine (kWays HE.out 6 2 _ v2 v2b).mono ?_
  rintro e x2 ⟨_, _, rfl, _, _, hB⟩
  have HE' := hid (HE.out.mono hB); have HB' := hid (bstep HB.out hB)
  have LW' := hid (LW.out.mono hB)
  clear HE HB LW
  have HE := HE'; have HB := HB'
  have LW := LW'
  clear HE' HB' LW'
  clear hB k0 k1 k2 k3 k4 k5
  have k0 := HE.out.k0; have k1 := HE.out.k1; have k2 := HE.out.k2; have k3 := HE.out.k3; have k4 := HE.out.k4; have k5 := HE.out.k5
  go_wp2_with fail
  refine (kPay HE.out 0 0 _ v3 v3b).mono ?_
  rintro e x3 ⟨rfl, hB⟩
  have HE' := hid (HE.out.mono hB); have HB' := hid (bstep HB.out hB)
  have LW' := hid (LW.out.mono hB)
  clear HE HB LW
  have HE := HE'; have HB := HB'
  have LW := LW'
  clear HE' HB' LW'
  clear hB k0 k1 k2 k3 k4 k5
  have k0 := HE.out.k0; have k1 := HE.out.k1; have k2 := HE.out.k2; have k3 := HE.out.k3; have k4 := HE.out.k4; have k5 := HE.out.k5
  go_upto_region 5 with (fail)
  obtain ⟨x4, hY⟩ : ∃ y, y = (x3.alloc (.cells #[.int .i64 31, .int .i64 10] 32)) := ⟨_, rfl⟩
  have hB : Below x3.heap.size x3 x4 := by rw [hY]; exact bnew _ _
  have LP := hid (show x4.cell? ⟨x3.heap.size, 0, none⟩ = some (.int .i64 31) ∧ x4.cell? ⟨x3.heap.size, 1, none⟩ = some (.int .i64 10) by rw [hY]; constructor <;> simp [go_sem])
  rw [← hY]
  obtain ⟨qp, hqp⟩ : ∃ q, q = x3.heap.size := ⟨_, rfl⟩
  rw [← hqp] at LP ⊢
  clear hY hqp k0 k1 k2 k3 k4 k5
  have HE' := hid (HE.out.mono hB); have HB' := hid (bstep HB.out hB)
  have LW' := hid (LW.out.mono hB)
  clear HE HB LW
  have HE := HE'; have HB := HB'
  have LW := LW'
  clear HE' HB' LW'
  clear hB
  have k0 := HE.out.k0; have k1 := HE.out.k1; have k2 := HE.out.k2; have k3 := HE.out.k3; have k4 := HE.out.k4; have k5 := HE.out.k5
  go_wp2_with fail
  refine (kBack HE.out 0 1 0 _ v4 v4b).mono ?_
  rintro e x5 ⟨ab, cab, rfl, hx, _, hB⟩
  have HE' := hid (HE.out.mono hB); have HB' := hid (bstep HB.out hB)
  have LW' := hid (LW.out.mono hB)
  clear HE HB LW
  have HE := HE'; have HB := HB'
  have LW := LW'
  clear HE' HB' LW'
  have LP' := hid (show x5.cell? ⟨qp, 0, none⟩ = some (.int .i64 31) ∧ x5.cell? ⟨qp, 1, none⟩ = some (.int .i64 10) from ⟨cstep LP.out.1 hB, cstep LP.out.2 hB⟩)
  clear LP
  have LP := LP'
  clear LP'
  have LK := hid hx
  clear hB hx k0 k1 k2 k3 k4 k5
  have k0 := HE.out.k0; have k1 := HE.out.k1; have k2 := HE.out.k2; have k3 := HE.out.k3; have k4 := HE.out.k4; have k5 := HE.out.k5
  go_wp2_with fail
  refine (kBack HE.out 0 3 3 _ v5 v5b).mono ?_
  rintro e x6 ⟨_, _, rfl, _, _, hB⟩
  have HE' := hid (HE.out.mono hB); have HB' := hid (bstep HB.out hB)
  have LW' := hid (LW.out.mono hB)
  have LK' := hid (LK.out.mono hB)
  clear HE HB LW LK
  have HE := HE'; have HB := HB'
  have LW := LW'
  have LK := LK'
  clear HE' HB' LW' LK'
  have LP' := hid (show x6.cell? ⟨qp, 0, none⟩ = some (.int .i64 31) ∧ x6.cell? ⟨qp, 1, none⟩ = some (.int .i64 10) from ⟨cstep LP.out.1 hB, cstep LP.out.2 hB⟩)
  clear LP
  have LP := LP'
  clear LP'
  clear hB k0 k1 k2 k3 k4 k5
  have k0 := HE.out.k0; have k1 := HE.out.k1; have k2 := HE.out.k2; have k3 := HE.out.k3; have k4 := HE.out.k4; have k5 := HE.out.k5
  have Q0 := hid fun (b : Nat) (w' : World) (h : Below x6.heap.size x6 w') (ht : IntsAt w' (some ⟨b, 0, none⟩) [0, 1]) => (show Calls Try.prog 28 #[.agg #[.slice (some ⟨b1, 0, none⟩) 2 2, .slice (some ⟨b2, 0, none⟩) 3 3], .int .i64 0, .slice (some ⟨b, 0, none⟩) 2 2] w' _ from kFalls (HE.out.mono h) 0 0 15 [0, 1] (some ⟨b, 0, none⟩) ht (by decide) v6 v6b)
  go_upto_region 7 with (fail)
  go_cut [14, 15] from 66 to 72 (fun a b x7 => a = .int .i64 15 ∧ b = .int .i64 0 ∧ Below x6.heap.size x6 x7)
  case first =>
    go_region_held3 (fun w' => w'.cell? ⟨q, 0, none⟩ = some (.slice (some ⟨b1, 0, none⟩) 2 2) ∧ w'.cell? ⟨q, 1, none⟩ = some (.slice (some ⟨b2, 0, none⟩) 3 3)) (first | exact ⟨cstep k0 (by with_reducible repeat (first | exact Below.refl _ _ | refine Below.drew ?_ | refine bstep ?_ (bnew _ _) | (refine bstep ?_ (by assumption)))), cstep k1 (by with_reducible repeat (first | exact Below.refl _ _ | refine Below.drew ?_ | refine bstep ?_ (bnew _ _) | (refine bstep ?_ (by assumption))))⟩ | go_keep)
      (first
        | (go_at_call 64; refine (of_c _ _).mono ?_; rintro e wx ⟨rfl, rfl⟩)
        | (go_at_call 28; (with_reducible refine (Q0.out _ _ (by with_reducible repeat (first | exact Below.refl _ _ | refine Below.drew ?_ | refine bstep ?_ (bnew _ _) | (refine bstep ?_ (by assumption)))) (by with_reducible repeat (first | assumption | refine IntsAt.undrew ?_ | exact lit01 _ _ rfl | exact lit01 _ _ (by simp) | refine IntsAt.mono ?_ (bnew _ _) | (refine IntsAt.mono ?_ (by assumption))))).mono ?_); rintro e wc0 ⟨rfl, hB0⟩))
    all_goals (
      go_wp2
      go_meet
      exact ⟨rfl, rfl, (by with_reducible repeat (first | exact Below.refl _ _ | refine Below.drew ?_ | refine bstep ?_ (bnew _ _) | (refine bstep ?_ (by assumption))))⟩)
  obtain ⟨rfl, rfl, hB⟩ := hcut
  rename World => x7
  clear Q0 k0 k1 k2 k3 k4 k5
  have HE' := hid (HE.out.mono hB); have HB' := hid (bstep HB.out hB)
  have LW' := hid (LW.out.mono hB)
  have LK' := hid (LK.out.mono hB)
  clear HE HB LW LK
  have HE := HE'; have HB := HB'
  have LW := LW'
  have LK := LK'
  clear HE' HB' LW' LK'
  have LP' := hid (show x7.cell? ⟨qp, 0, none⟩ = some (.int .i64 31) ∧ x7.cell? ⟨qp, 1, none⟩ = some (.int .i64 10) from ⟨cstep LP.out.1 hB, cstep LP.out.2 hB⟩)
  clear LP
  have LP := LP'
  clear LP'
  clear hB
  have k0 := HE.out.k0; have k1 := HE.out.k1; have k2 := HE.out.k2; have k3 := HE.out.k3; have k4 := HE.out.k4; have k5 := HE.out.k5
  have Q0 := hid fun (b : Nat) (w' : World) (h : Below x7.heap.size x7 w') (ht : IntsAt w' (some ⟨b, 0, none⟩) [0, 1, 1]) => (show Calls Try.prog 28 #[.agg #[.slice (some ⟨b1, 0, none⟩) 2 2, .slice (some ⟨b2, 0, none⟩) 3 3], .int .i64 0, .slice (some ⟨b, 0, none⟩) 3 3] w' _ from kFalls (HE.out.mono h) 0 15 0 [0, 1, 1] (some ⟨b, 0, none⟩) ht (by decide) v7 v7b)
  go_upto_region 8 with (fail)
  go_cut [16, 17] from 73 to 79 (fun a b x8 => a = .int .i64 0 ∧ b = .int .i64 15 ∧ Below x7.heap.size x7 x8)
  case first =>
    go_region_held3 (fun w' => w'.cell? ⟨q, 0, none⟩ = some (.slice (some ⟨b1, 0, none⟩) 2 2) ∧ w'.cell? ⟨q, 1, none⟩ = some (.slice (some ⟨b2, 0, none⟩) 3 3)) (first | exact ⟨cstep k0 (by with_reducible repeat (first | exact Below.refl _ _ | refine Below.drew ?_ | refine bstep ?_ (bnew _ _) | (refine bstep ?_ (by assumption)))), cstep k1 (by with_reducible repeat (first | exact Below.refl _ _ | refine Below.drew ?_ | refine bstep ?_ (bnew _ _) | (refine bstep ?_ (by assumption))))⟩ | go_keep)
      (first
        | (go_at_call 64; refine (of_c _ _).mono ?_; rintro e wx ⟨rfl, rfl⟩)
        | (go_at_call 28; (with_reducible refine (Q0.out _ _ (by with_reducible repeat (first | exact Below.refl _ _ | refine Below.drew ?_ | refine bstep ?_ (bnew _ _) | (refine bstep ?_ (by assumption)))) (by with_reducible repeat (first | assumption | refine IntsAt.undrew ?_ | exact lit011 _ _ rfl | exact lit011 _ _ (by simp) | refine IntsAt.mono ?_ (bnew _ _) | (refine IntsAt.mono ?_ (by assumption))))).mono ?_); rintro e wc0 ⟨rfl, hB0⟩))
    all_goals (
      go_wp2
      go_meet
      exact ⟨rfl, rfl, (by with_reducible repeat (first | exact Below.refl _ _ | refine Below.drew ?_ | refine bstep ?_ (bnew _ _) | (refine bstep ?_ (by assumption))))⟩)
  obtain ⟨rfl, rfl, hB⟩ := hcut
  rename World => x8
  clear Q0 k0 k1 k2 k3 k4 k5
  have HE' := hid (HE.out.mono hB); have HB' := hid (bstep HB.out hB)
  have LW' := hid (LW.out.mono hB)
  have LK' := hid (LK.out.mono hB)
  clear HE HB LW LK
  have HE := HE'; have HB := HB'
  have LW := LW'
  have LK := LK'
  clear HE' HB' LW' LK'
  have LP' := hid (show x8.cell? ⟨qp, 0, none⟩ = some (.int .i64 31) ∧ x8.cell? ⟨qp, 1, none⟩ = some (.int .i64 10) from ⟨cstep LP.out.1 hB, cstep LP.out.2 hB⟩)
  clear LP
  have LP := LP'
  clear LP'
  clear hB
  have k0 := HE.out.k0; have k1 := HE.out.k1; have k2 := HE.out.k2; have k3 := HE.out.k3; have k4 := HE.out.k4; have k5 := HE.out.k5
  go_wp2_with fail
  refine (kPath HE.out 0 0 _ v3 v8).mono ?_
  rintro e x9 ⟨ah, cah, rfl, hx, _, hB⟩
  have HE' := hid (HE.out.mono hB); have HB' := hid (bstep HB.out hB)
  have LW' := hid (LW.out.mono hB)
  have LK' := hid (LK.out.mono hB)
  clear HE HB LW LK
  have HE := HE'; have HB := HB'
  have LW := LW'
  have LK := LK'
  clear HE' HB' LW' LK'
  have LP' := hid (show x9.cell? ⟨qp, 0, none⟩ = some (.int .i64 31) ∧ x9.cell? ⟨qp, 1, none⟩ = some (.int .i64 10) from ⟨cstep LP.out.1 hB, cstep LP.out.2 hB⟩)
  clear LP
  have LP := LP'
  clear LP'
  have LH := hid hx
  clear hB hx k0 k1 k2 k3 k4 k5
  have k0 := HE.out.k0; have k1 := HE.out.k1; have k2 := HE.out.k2; have k3 := HE.out.k3; have k4 := HE.out.k4; have k5 := HE.out.k5
  go_wp2_with fail
  refine (kLevR HE.out 0 _ v9 v9b).mono ?_
  rintro e x10 ⟨al, cal, rfl, hx, _, hB⟩
  have HE' := hid (HE.out.mono hB); have HB' := hid (bstep HB.out hB)
  have LW' := hid (LW.out.mono hB)
  have LK' := hid (LK.out.mono hB)
  have LH' := hid (LH.out.mono hB)
  clear HE HB LW LK LH
  have HE := HE'; have HB := HB'
  have LW := LW'
  have LK := LK'
  have LH := LH'
  clear HE' HB' LW' LK' LH'
  have LP' := hid (show x10.cell? ⟨qp, 0, none⟩ = some (.int .i64 31) ∧ x10.cell? ⟨qp, 1, none⟩ = some (.int .i64 10) from ⟨cstep LP.out.1 hB, cstep LP.out.2 hB⟩)
  clear LP
  have LP := LP'
  clear LP'
  have LL := hid hx
  clear hB hx k0 k1 k2 k3 k4 k5
  have k0 := HE.out.k0; have k1 := HE.out.k1; have k2 := HE.out.k2; have k3 := HE.out.k3; have k4 := HE.out.k4; have k5 := HE.out.k5
  go_wp2_with fail
  refine (kLevS HE.out 18 _ v10 v10b).mono ?_
  rintro e x11 ⟨_, _, rfl, _, _, hB⟩
  have HE' := hid (HE.out.mono hB); have HB' := hid (bstep HB.out hB)
  have LW' := hid (LW.out.mono hB)
  have LK' := hid (LK.out.mono hB)
  have LH' := hid (LH.out.mono hB)
  have LL' := hid (LL.out.mono hB)
  clear HE HB LW LK LH LL
  have HE := HE'; have HB := HB'
  have LW := LW'
  have LK := LK'
  have LH := LH'
  have LL := LL'
  clear HE' HB' LW' LK' LH' LL'
  have LP' := hid (show x11.cell? ⟨qp, 0, none⟩ = some (.int .i64 31) ∧ x11.cell? ⟨qp, 1, none⟩ = some (.int .i64 10) from ⟨cstep LP.out.1 hB, cstep LP.out.2 hB⟩)
  clear LP
  have LP := LP'
  clear LP'
  clear hB k0 k1 k2 k3 k4 k5
  have k0 := HE.out.k0; have k1 := HE.out.k1; have k2 := HE.out.k2; have k3 := HE.out.k3; have k4 := HE.out.k4; have k5 := HE.out.k5
  go_wp2_with fail
  refine (kRefS HE.out 0 _ v11 v11b).mono ?_
  rintro e x12 ⟨af, caf, rfl, hx, _, hB⟩
  have HE' := hid (HE.out.mono hB); have HB' := hid (bstep HB.out hB)
  have LW' := hid (LW.out.mono hB)
  have LK' := hid (LK.out.mono hB)
  have LH' := hid (LH.out.mono hB)
  have LL' := hid (LL.out.mono hB)
  clear HE HB LW LK LH LL
  have HE := HE'; have HB := HB'
  have LW := LW'
  have LK := LK'
  have LH := LH'
  have LL := LL'
  clear HE' HB' LW' LK' LH' LL'
  have LP' := hid (show x12.cell? ⟨qp, 0, none⟩ = some (.int .i64 31) ∧ x12.cell? ⟨qp, 1, none⟩ = some (.int .i64 10) from ⟨cstep LP.out.1 hB, cstep LP.out.2 hB⟩)
  clear LP
  have LP := LP'
  clear LP'
  have LF := hid hx
  clear hB hx k0 k1 k2 k3 k4 k5
  have k0 := HE.out.k0; have k1 := HE.out.k1; have k2 := HE.out.k2; have k3 := HE.out.k3; have k4 := HE.out.k4; have k5 := HE.out.k5
  go_wp2_with fail
  refine (kRefR HE.out 5 _ v12 v12b).mono ?_
  rintro e x13 ⟨_, _, rfl, _, _, hB⟩
  have HE' := hid (HE.out.mono hB); have HB' := hid (bstep HB.out hB)
  have LW' := hid (LW.out.mono hB)
  have LK' := hid (LK.out.mono hB)
  have LH' := hid (LH.out.mono hB)
  have LL' := hid (LL.out.mono hB)
  have LF' := hid (LF.out.mono hB)
  clear HE HB LW LK LH LL LF
  have HE := HE'; have HB := HB'
  have LW := LW'
  have LK := LK'
  have LH := LH'
  have LL := LL'
  have LF := LF'
  clear HE' HB' LW' LK' LH' LL' LF'
  have LP' := hid (show x13.cell? ⟨qp, 0, none⟩ = some (.int .i64 31) ∧ x13.cell? ⟨qp, 1, none⟩ = some (.int .i64 10) from ⟨cstep LP.out.1 hB, cstep LP.out.2 hB⟩)
  clear LP
  have LP := LP'
  clear LP'
  clear hB k0 k1 k2 k3 k4 k5
  have k0 := HE.out.k0; have k1 := HE.out.k1; have k2 := HE.out.k2; have k3 := HE.out.k3; have k4 := HE.out.k4; have k5 := HE.out.k5
  have Q0 := hid fun (b : Nat) (w' : World) (h : Below x13.heap.size x13 w') (ht : IntsAt w' (some ⟨b, 0, none⟩) [0, 0, 0, 0, 0, 0, 0, 0, 0, 0, 0]) => (show Calls Try.prog 40 #[.agg #[.slice (some ⟨b1, 0, none⟩) 2 2, .slice (some ⟨b2, 0, none⟩) 3 3], .agg #[.slice (some ⟨s1, 0, none⟩) 1 1, .slice (some ⟨s2, 0, none⟩) 1 1], .slice (some ⟨b, 0, none⟩) 11 11] w' _ from kCr (HE.out.mono h) 14 [0, 0, 0, 0, 0, 0, 0, 0, 0, 0, 0] (some ⟨b, 0, none⟩) ht (by decide) v13)
  go_upto_region 14 with (fail)
  go_cut [28] from 109 to 113 (fun a x14 => a = .int .i64 14 ∧ Below x13.heap.size x13 x14)
  case first =>
    go_region_held3 (fun w' => w'.cell? ⟨q, 0, none⟩ = some (.slice (some ⟨b1, 0, none⟩) 2 2) ∧ w'.cell? ⟨q, 1, none⟩ = some (.slice (some ⟨b2, 0, none⟩) 3 3) ∧ w'.cell? ⟨q + 1 + 1, 0, none⟩ = some (.slice (some ⟨s1, 0, none⟩) 1 1) ∧ w'.cell? ⟨q + 1 + 1, 1, none⟩ = some (.slice (some ⟨s2, 0, none⟩) 1 1)) (first | exact ⟨cstep k0 (by with_reducible repeat (first | exact Below.refl _ _ | refine Below.drew ?_ | refine bstep ?_ (bnew _ _) | (refine bstep ?_ (by assumption)))), cstep k1 (by with_reducible repeat (first | exact Below.refl _ _ | refine Below.drew ?_ | refine bstep ?_ (bnew _ _) | (refine bstep ?_ (by assumption)))), cstep k4 (by with_reducible repeat (first | exact Below.refl _ _ | refine Below.drew ?_ | refine bstep ?_ (bnew _ _) | (refine bstep ?_ (by assumption)))), cstep k5 (by with_reducible repeat (first | exact Below.refl _ _ | refine Below.drew ?_ | refine bstep ?_ (bnew _ _) | (refine bstep ?_ (by assumption))))⟩ | go_keep)
      (first
        | (go_at_call 64; refine (of_c _ _).mono ?_; rintro e wx ⟨rfl, rfl⟩)
        | (go_at_call 40; (with_reducible refine (Q0.out _ _ (by with_reducible repeat (first | exact Below.refl _ _ | refine Below.drew ?_ | refine bstep ?_ (bnew _ _) | (refine bstep ?_ (by assumption)))) (by with_reducible repeat (first | assumption | refine IntsAt.undrew ?_ | exact lit00000000000 _ _ rfl | exact lit00000000000 _ _ (by simp) | refine IntsAt.mono ?_ (bnew _ _) | (refine IntsAt.mono ?_ (by assumption))))).mono ?_); rintro e wc0 ⟨rfl, hB0⟩))
    all_goals (
      go_wp2
      go_meet
      exact ⟨rfl, (by with_reducible repeat (first | exact Below.refl _ _ | refine Below.drew ?_ | refine bstep ?_ (bnew _ _) | (refine bstep ?_ (by assumption))))⟩)
  obtain ⟨rfl, hB⟩ := hcut
  rename World => x14
  clear Q0 k0 k1 k2 k3 k4 k5
  have HE' := hid (HE.out.mono hB); have HB' := hid (bstep HB.out hB)
  have LW' := hid (LW.out.mono hB)
  have LK' := hid (LK.out.mono hB)
  have LH' := hid (LH.out.mono hB)
  have LL' := hid (LL.out.mono hB)
  have LF' := hid (LF.out.mono hB)
  clear HE HB LW LK LH LL LF
  have HE := HE'; have HB := HB'
  have LW := LW'
  have LK := LK'
  have LH := LH'
  have LL := LL'
  have LF := LF'
  clear HE' HB' LW' LK' LH' LL' LF'
  have LP' := hid (show x14.cell? ⟨qp, 0, none⟩ = some (.int .i64 31) ∧ x14.cell? ⟨qp, 1, none⟩ = some (.int .i64 10) from ⟨cstep LP.out.1 hB, cstep LP.out.2 hB⟩)
  clear LP
  have LP := LP'
  clear LP'
  clear hB
  have k0 := HE.out.k0; have k1 := HE.out.k1; have k2 := HE.out.k2; have k3 := HE.out.k3; have k4 := HE.out.k4; have k5 := HE.out.k5
  go_wp2_with fail
  refine (kSpan HE.out 0 _ _ v9 v14 v14b).mono ?_
  rintro e x15 ⟨rfl, hB⟩
  have HE' := hid (HE.out.mono hB); have HB' := hid (bstep HB.out hB)
  have LW' := hid (LW.out.mono hB)
  have LK' := hid (LK.out.mono hB)
  have LH' := hid (LH.out.mono hB)
  have LL' := hid (LL.out.mono hB)
  have LF' := hid (LF.out.mono hB)
  clear HE HB LW LK LH LL LF
  have HE := HE'; have HB := HB'
  have LW := LW'
  have LK := LK'
  have LH := LH'
  have LL := LL'
  have LF := LF'
  clear HE' HB' LW' LK' LH' LL' LF'
  have LP' := hid (show x15.cell? ⟨qp, 0, none⟩ = some (.int .i64 31) ∧ x15.cell? ⟨qp, 1, none⟩ = some (.int .i64 10) from ⟨cstep LP.out.1 hB, cstep LP.out.2 hB⟩)
  clear LP
  have LP := LP'
  clear LP'
  clear hB k0 k1 k2 k3 k4 k5
  have k0 := HE.out.k0; have k1 := HE.out.k1; have k2 := HE.out.k2; have k3 := HE.out.k3; have k4 := HE.out.k4; have k5 := HE.out.k5
  go_upto_region 16 with (fail)
  obtain ⟨x16, hY⟩ : ∃ y, y = ((x15.alloc (.cells #[.int .i64 66, .int .i64 25] 32)).alloc (.cells #[.int .i64 273, .int .i64 50] 32)) := ⟨_, rfl⟩
  have hB : Below x15.heap.size x15 x16 := by rw [hY]; exact bstep (bnew _ _) (bnew _ _)
  have LX := hid (show x16.cell? ⟨x15.heap.size, 0, none⟩ = some (.int .i64 66) ∧ x16.cell? ⟨x15.heap.size, 1, none⟩ = some (.int .i64 25) by rw [hY]; constructor <;> simp [go_sem])
  have LZ := hid (show x16.cell? ⟨x15.heap.size + 1, 0, none⟩ = some (.int .i64 273) ∧ x16.cell? ⟨x15.heap.size + 1, 1, none⟩ = some (.int .i64 50) by rw [hY]; constructor <;> simp [go_sem])
  rw [← hY]
  obtain ⟨qx, hqx⟩ : ∃ q, q = x15.heap.size := ⟨_, rfl⟩
  obtain ⟨qz, hqz⟩ : ∃ q, q = x15.heap.size + 1 := ⟨_, rfl⟩
  rw [← hqz] at LZ ⊢
  rw [← hqx] at LX ⊢
  clear hY hqx hqz k0 k1 k2 k3 k4 k5
  have HE' := hid (HE.out.mono hB); have HB' := hid (bstep HB.out hB)
  have LW' := hid (LW.out.mono hB)
  have LK' := hid (LK.out.mono hB)
  have LH' := hid (LH.out.mono hB)
  have LL' := hid (LL.out.mono hB)
  have LF' := hid (LF.out.mono hB)
  clear HE HB LW LK LH LL LF
  have HE := HE'; have HB := HB'
  have LW := LW'
  have LK := LK'
  have LH := LH'
  have LL := LL'
  have LF := LF'
  clear HE' HB' LW' LK' LH' LL' LF'
  have LP' := hid (show x16.cell? ⟨qp, 0, none⟩ = some (.int .i64 31) ∧ x16.cell? ⟨qp, 1, none⟩ = some (.int .i64 10) from ⟨cstep LP.out.1 hB, cstep LP.out.2 hB⟩)
  clear LP
  have LP := LP'
  clear LP'
  clear hB
  have k0 := fun s : Later x16 => (HE.out.mono s.h).k0
  have k1 := fun s : Later x16 => (HE.out.mono s.h).k1
  have k2 := fun s : Later x16 => (HE.out.mono s.h).k2
  have k3 := fun s : Later x16 => (HE.out.mono s.h).k3
  have k4 := fun s : Later x16 => (HE.out.mono s.h).k4
  have k5 := fun s : Later x16 => (HE.out.mono s.h).k5
  have HY := hid fun s : Later x16 => (show Calls Try.prog 57 #[.int .i64 3, .int .i64 1] s.w' (fun e w' => e = .returned (.agg #[.int .i64 3, .int .i64 1]) ∧ Below s.w'.heap.size s.w' w') from by_c s.w' 3 1)
  have HR := hid fun s : Later x16 => (show Calls Try.prog 44 #[.agg #[.slice (some ⟨b1, 0, none⟩) 2 2, .slice (some ⟨b2, 0, none⟩) 3 3], .agg #[.slice (some ⟨r1, 0, none⟩) 1 1, .slice (some ⟨r2, 0, none⟩) 1 1], .agg #[.int .i64 3, .int .i64 1]] s.w' (fun e w' => e = .returned (.tuple #[.int .i64 (-1), .int .i64 0]) ∧ Below s.w'.heap.size s.w' w') from kBro (HE.out.mono s.h) (3, 1) 0 (-1) v15 v15b)
  refine wp_region_later (by kernel_rfl) (by kernel_rfl) ?_
  repeat (go_big_quiet_step ((first | (go_at_call 57; with_reducible exact callsLater (HY.out _)) | (go_at_call 44; with_reducible exact callsLater (HR.out _)))))
  refine wpQuiet_nil ?_
  rintro x17 ⟨⟨_, hB⟩, rfl⟩
  clear k0 k1 k2 k3 k4 k5 HY HR
  have HE' := hid (HE.out.mono hB); have HB' := hid (bstep HB.out hB)
  have LW' := hid (LW.out.mono hB)
  have LK' := hid (LK.out.mono hB)
  have LH' := hid (LH.out.mono hB)
  have LL' := hid (LL.out.mono hB)
  have LF' := hid (LF.out.mono hB)
  clear HE HB LW LK LH LL LF
  have HE := HE'; have HB := HB'
  have LW := LW'
  have LK := LK'
  have LH := LH'
  have LL := LL'
  have LF := LF'
  clear HE' HB' LW' LK' LH' LL' LF'
  have LP' := hid (show x17.cell? ⟨qp, 0, none⟩ = some (.int .i64 31) ∧ x17.cell? ⟨qp, 1, none⟩ = some (.int .i64 10) from ⟨cstep LP.out.1 hB, cstep LP.out.2 hB⟩)
  clear LP
  have LP := LP'
  clear LP'
  have LX' := hid (show x17.cell? ⟨qx, 0, none⟩ = some (.int .i64 66) ∧ x17.cell? ⟨qx, 1, none⟩ = some (.int .i64 25) from ⟨cstep LX.out.1 hB, cstep LX.out.2 hB⟩)
  clear LX
  have LX := LX'
  clear LX'
  have LZ' := hid (show x17.cell? ⟨qz, 0, none⟩ = some (.int .i64 273) ∧ x17.cell? ⟨qz, 1, none⟩ = some (.int .i64 50) from ⟨cstep LZ.out.1 hB, cstep LZ.out.2 hB⟩)
  clear LZ
  have LZ := LZ'
  clear LZ'
  clear hB
  have k0 := fun s : Later x17 => (HE.out.mono s.h).k0
  have k1 := fun s : Later x17 => (HE.out.mono s.h).k1
  have k2 := fun s : Later x17 => (HE.out.mono s.h).k2
  have k3 := fun s : Later x17 => (HE.out.mono s.h).k3
  have k4 := fun s : Later x17 => (HE.out.mono s.h).k4
  have k5 := fun s : Later x17 => (HE.out.mono s.h).k5
  have HY := hid fun s : Later x17 => (show Calls Try.prog 57 #[.int .i64 5, .int .i64 2] s.w' (fun e w' => e = .returned (.agg #[.int .i64 5, .int .i64 2]) ∧ Below s.w'.heap.size s.w' w') from by_c s.w' 5 2)
  have HR := hid fun s : Later x17 => (show Calls Try.prog 44 #[.agg #[.slice (some ⟨b1, 0, none⟩) 2 2, .slice (some ⟨b2, 0, none⟩) 3 3], .agg #[.slice (some ⟨r1, 0, none⟩) 1 1, .slice (some ⟨r2, 0, none⟩) 1 1], .agg #[.int .i64 5, .int .i64 2]] s.w' (fun e w' => e = .returned (.tuple #[.int .i64 0, .int .i64 5]) ∧ Below s.w'.heap.size s.w' w') from kBro (HE.out.mono s.h) (5, 2) 5 0 v16 v16b)
  go_upto_region 17 with (fail)
  refine wp_region_later (by kernel_rfl) (by kernel_rfl) ?_
  repeat (go_big_quiet_step ((first | (go_at_call 57; with_reducible exact callsLater (HY.out _)) | (go_at_call 44; with_reducible exact callsLater (HR.out _)))))
  refine wpQuiet_nil ?_
  rintro x18 ⟨⟨_, hB⟩, rfl⟩
  clear k0 k1 k2 k3 k4 k5 HY HR
  have HE' := hid (HE.out.mono hB); have HB' := hid (bstep HB.out hB)
  have LW' := hid (LW.out.mono hB)
  have LK' := hid (LK.out.mono hB)
  have LH' := hid (LH.out.mono hB)
  have LL' := hid (LL.out.mono hB)
  have LF' := hid (LF.out.mono hB)
  clear HE HB LW LK LH LL LF
  have HE := HE'; have HB := HB'
  have LW := LW'
  have LK := LK'
  have LH := LH'
  have LL := LL'
  have LF := LF'
  clear HE' HB' LW' LK' LH' LL' LF'
  have LP' := hid (show x18.cell? ⟨qp, 0, none⟩ = some (.int .i64 31) ∧ x18.cell? ⟨qp, 1, none⟩ = some (.int .i64 10) from ⟨cstep LP.out.1 hB, cstep LP.out.2 hB⟩)
  clear LP
  have LP := LP'
  clear LP'
  have LX' := hid (show x18.cell? ⟨qx, 0, none⟩ = some (.int .i64 66) ∧ x18.cell? ⟨qx, 1, none⟩ = some (.int .i64 25) from ⟨cstep LX.out.1 hB, cstep LX.out.2 hB⟩)
  clear LX
  have LX := LX'
  clear LX'
  have LZ' := hid (show x18.cell? ⟨qz, 0, none⟩ = some (.int .i64 273) ∧ x18.cell? ⟨qz, 1, none⟩ = some (.int .i64 50) from ⟨cstep LZ.out.1 hB, cstep LZ.out.2 hB⟩)
  clear LZ
  have LZ := LZ'
  clear LZ'
  clear hB
  have k0 := fun s : Later x18 => (HE.out.mono s.h).k0
  have k1 := fun s : Later x18 => (HE.out.mono s.h).k1
  have k2 := fun s : Later x18 => (HE.out.mono s.h).k2
  have k3 := fun s : Later x18 => (HE.out.mono s.h).k3
  have k4 := fun s : Later x18 => (HE.out.mono s.h).k4
  have k5 := fun s : Later x18 => (HE.out.mono s.h).k5
  have HY := hid fun s : Later x18 => (show Calls Try.prog 57 #[.int .i64 3, .int .i64 1] s.w' (fun e w' => e = .returned (.agg #[.int .i64 3, .int .i64 1]) ∧ Below s.w'.heap.size s.w' w') from by_c s.w' 3 1)
  have HR := hid fun s : Later x18 => (show Calls Try.prog 46 #[.agg #[.slice (some ⟨b1, 0, none⟩) 2 2, .slice (some ⟨b2, 0, none⟩) 3 3], .agg #[.slice (some ⟨r1, 0, none⟩) 1 1, .slice (some ⟨r2, 0, none⟩) 1 1], .agg #[.int .i64 3, .int .i64 1], .int .i64 (-1)] s.w' (fun e w' => e = .returned (.int .i64 0) ∧ Below s.w'.heap.size s.w' w') from kCb (HE.out.mono s.h) (3, 1) (-1) 0 v17)
  have HS := hid fun s : Later x18 => (show Calls Try.prog 46 #[.agg #[.slice (some ⟨b1, 0, none⟩) 2 2, .slice (some ⟨b2, 0, none⟩) 3 3], .agg #[.slice (some ⟨r1, 0, none⟩) 1 1, .slice (some ⟨r2, 0, none⟩) 1 1], .agg #[.int .i64 3, .int .i64 1], .int .i64 0] s.w' (fun e w' => e = .returned (.int .i64 16) ∧ Below s.w'.heap.size s.w' w') from kCb (HE.out.mono s.h) (3, 1) 0 16 v18)
  go_upto_region 18 with (fail)
  refine wp_region_later (by kernel_rfl) (by kernel_rfl) ?_
  repeat (go_big_quiet_step ((first | (go_at_call 57; with_reducible exact callsLater (HY.out _)) | (go_at_call 46; with_reducible exact callsLater (HR.out _)) | (go_at_call 46; with_reducible exact callsLater (HS.out _)))))
  refine wpQuiet_nil ?_
  rintro x19 ⟨⟨_, hB⟩, rfl⟩
  clear k0 k1 k2 k3 k4 k5 HY HR HS
  have HE' := hid (HE.out.mono hB); have HB' := hid (bstep HB.out hB)
  have LW' := hid (LW.out.mono hB)
  have LK' := hid (LK.out.mono hB)
  have LH' := hid (LH.out.mono hB)
  have LL' := hid (LL.out.mono hB)
  have LF' := hid (LF.out.mono hB)
  clear HE HB LW LK LH LL LF
  have HE := HE'; have HB := HB'
  have LW := LW'
  have LK := LK'
  have LH := LH'
  have LL := LL'
  have LF := LF'
  clear HE' HB' LW' LK' LH' LL' LF'
  have LP' := hid (show x19.cell? ⟨qp, 0, none⟩ = some (.int .i64 31) ∧ x19.cell? ⟨qp, 1, none⟩ = some (.int .i64 10) from ⟨cstep LP.out.1 hB, cstep LP.out.2 hB⟩)
  clear LP
  have LP := LP'
  clear LP'
  have LX' := hid (show x19.cell? ⟨qx, 0, none⟩ = some (.int .i64 66) ∧ x19.cell? ⟨qx, 1, none⟩ = some (.int .i64 25) from ⟨cstep LX.out.1 hB, cstep LX.out.2 hB⟩)
  clear LX
  have LX := LX'
  clear LX'
  have LZ' := hid (show x19.cell? ⟨qz, 0, none⟩ = some (.int .i64 273) ∧ x19.cell? ⟨qz, 1, none⟩ = some (.int .i64 50) from ⟨cstep LZ.out.1 hB, cstep LZ.out.2 hB⟩)
  clear LZ
  have LZ := LZ'
  clear LZ'
  clear hB
  have jLPa := fun (J : World → Prop) (s : LaterJ x19 J) => cstep LP.out.1 s.h
  have jLPb := fun (J : World → Prop) (s : LaterJ x19 J) => cstep LP.out.2 s.h
  have jLXa := fun (J : World → Prop) (s : LaterJ x19 J) => cstep LX.out.1 s.h
  have jLXb := fun (J : World → Prop) (s : LaterJ x19 J) => cstep LX.out.2 s.h
  have jLZa := fun (J : World → Prop) (s : LaterJ x19 J) => cstep LZ.out.1 s.h
  have jLZb := fun (J : World → Prop) (s : LaterJ x19 J) => cstep LZ.out.2 s.h
  have HY := hid fun (a b : Int) (J : World → Prop) (s : LaterJ x19 J) => by_c s.w' a b
  go_upto_region 21 with (fail)
  refine wp_region_mix2 (n := 54) (nz := nz21) (kn := [3, 16, 26, 32, 38]) (dp := dp21) (bs := [.keep, .off, .off, .say (.bool true), .keep, .keep, .keep, .keep, .keep, .keep, .keep, .off, .off, .off, .off, .off, .say (.bool true), .keep, .keep, .keep, .keep, .keep, .keep, .keep, .off, .off, .say (.bool true), .keep, .keep, .keep, .off, .off, .say (.bool true), .keep, .keep, .keep, .off, .off, .say (.bool true), .keep, .keep, .keep, .keep, .keep, .keep, .keep, .keep, .keep, .keep, .keep, .keep, .keep, .keep, .keep, .off]) (Φ := Φ21) (by kernel_rfl) (by kernel_rfl) (by simp [nz21]) ?_
  simp only [blind2, Bk.on, blindO, knO]
  repeat (gi_big_quiet_step ((refine ⟨rfl, ?_⟩; gi_at_call 57; exact callsJ abidesT (HY.out _ _ _ _))))
  refine wpQuietIn_nil ?_
  refine ⟨?_, ?_, ?_, ?_⟩
  · intro J hJ hne
    repeat (gi_big_quiet_step ((refine ⟨rfl, ?_⟩; gi_at_call 57; exact callsJ hJ (HY.out _ _ _ _))))
    exact wpQuietIn_nil rfl
  all_goals (generalize hG : (Act.mk _ _ : Act) = G)
  all_goals (have hGz : G.tmps.size = 267 := by rw [← hG]; rfl)
  · intro i hi o ho r s hs hd
    have hi2 : 1 = i ∨ 2 = i ∨ 11 = i ∨ 12 = i ∨ 13 = i ∨ 14 = i ∨ 15 = i ∨ 24 = i ∨ 25 = i ∨ 30 = i ∨ 31 = i ∨ 36 = i ∨ 37 = i := by simpa [isNz, nz21] using hi
    rcases hi2 with rfl | rfl | rfl | rfl | rfl | rfl | rfl | rfl | rfl | rfl | rfl | rfl | rfl
    · simp only [List.getElem?_cons_succ, List.getElem?_cons_zero, Option.some.injEq] at ho
      subst ho
      refine ⟨by simp [Region.wanted], ?_⟩
      exact makes_lit_a _ _ _ _ _ _ s
    · simp only [List.getElem?_cons_succ, List.getElem?_cons_zero, Option.some.injEq] at ho
      subst ho
      refine ⟨by simp [Region.wanted], ?_⟩
      obtain ⟨p0, q0, h1, h2⟩ := hd 1 (by simp [dp21])
      have h1 : ListV [15, 15, 70] (r 1) q0 := h1
      refine makesOp_mono (makes_of65 _ _ _ _ _ _ s 214 _ (putN_ev_nz (i := 1) (by simp [nz21]) ⟨(1, 214), by simp [nz21], rfl⟩ (by rw [hGz]; decide))) ?_
      rintro v s' ⟨h3, rfl, rfl⟩
      exact ⟨h3, h1.mono h2⟩
    · simp only [List.getElem?_cons_succ, List.getElem?_cons_zero, Option.some.injEq] at ho
      subst ho
      refine ⟨wanted_at (g := 9) (t := 222) rfl rfl (by simp [nz21]) (by rw [← hG]; rfl), ?_⟩
      exact makes_lit_b _ _ _ _ _ _ s
    · simp only [List.getElem?_cons_succ, List.getElem?_cons_zero, Option.some.injEq] at ho
      subst ho
      refine ⟨wanted_at (g := 9) (t := 222) rfl rfl (by simp [nz21]) (by rw [← hG]; rfl), ?_⟩
      obtain ⟨p0, q0, h1, h2⟩ := hd 11 (by simp [dp21])
      have h1 : ListV [25] (r 11) q0 := h1
      refine makesOp_mono (makes_of65 _ _ _ _ _ _ s 224 _ (putN_ev_nz (i := 11) (by simp [nz21]) ⟨(11, 224), by simp [nz21], rfl⟩ (by rw [hGz]; decide))) ?_
      rintro v s' ⟨h3, rfl, rfl⟩
      exact ⟨h3, h1.mono h2⟩
    · simp only [List.getElem?_cons_succ, List.getElem?_cons_zero, Option.some.injEq] at ho
      subst ho
      refine ⟨wanted_at (g := 9) (t := 222) rfl rfl (by simp [nz21]) (by rw [← hG]; rfl), ?_⟩
      exact makes_lit_c _ _ _ _ _ _ s
    · simp only [List.getElem?_cons_succ, List.getElem?_cons_zero, Option.some.injEq] at ho
      subst ho
      refine ⟨wanted_at (g := 9) (t := 222) rfl rfl (by simp [nz21]) (by rw [← hG]; rfl), ?_⟩
      obtain ⟨p0, q0, h1, h2⟩ := hd 13 (by simp [dp21])
      have h1 : ListV [3, 2] (r 13) q0 := h1
      refine makesOp_mono (makes_of65 _ _ _ _ _ _ s 226 _ (putN_ev_nz (i := 13) (by simp [nz21]) ⟨(13, 226), by simp [nz21], rfl⟩ (by rw [hGz]; decide))) ?_
      rintro v s' ⟨h3, rfl, rfl⟩
      exact ⟨h3, h1.mono h2⟩
    · simp only [List.getElem?_cons_succ, List.getElem?_cons_zero, Option.some.injEq] at ho
      subst ho
      refine ⟨wanted_at (g := 9) (t := 222) rfl rfl (by simp [nz21]) (by rw [← hG]; rfl), ?_⟩
      obtain ⟨p0, q0, h1, h2⟩ := hd 12 (by simp [dp21])
      obtain ⟨p1, q1, h3, h4⟩ := hd 14 (by simp [dp21])
      have h1 : ListV [25] (r 12) q0 := h1
      have h3 : ListV [3, 2] (r 14) q1 := h3
      exact makes_rows _ _ _ _ _ _ s 225 227 _ _ (h1.mono h2) (h3.mono h4) (putN_ev_nz (i := 12) (by simp [nz21]) ⟨(12, 225), by simp [nz21], rfl⟩ (by rw [hGz]; decide)) (putN_ev_nz (i := 14) (by simp [nz21]) ⟨(14, 227), by simp [nz21], rfl⟩ (by rw [hGz]; decide))
    · simp only [List.getElem?_cons_succ, List.getElem?_cons_zero, Option.some.injEq] at ho
      subst ho
      refine ⟨wanted_at (g := 22) (t := 235) rfl rfl (by simp [nz21]) (by rw [← hG]; rfl), ?_⟩
      exact makes_lit_d _ _ _ _ _ _ s
    · simp only [List.getElem?_cons_succ, List.getElem?_cons_zero, Option.some.injEq] at ho
      subst ho
      refine ⟨wanted_at (g := 22) (t := 235) rfl rfl (by simp [nz21]) (by rw [← hG]; rfl), ?_⟩
      obtain ⟨p0, q0, h1, h2⟩ := hd 24 (by simp [dp21])
      have h1 : ListV [1, 1] (r 24) q0 := h1
      refine makesOp_mono (makes_of64 _ _ _ _ _ _ s 237 _ (putN_ev_nz (i := 24) (by simp [nz21]) ⟨(24, 237), by simp [nz21], rfl⟩ (by rw [hGz]; decide))) ?_
      rintro v s' ⟨h3, rfl, rfl⟩
      exact ⟨h3, h1.mono h2⟩
    · simp only [List.getElem?_cons_succ, List.getElem?_cons_zero, Option.some.injEq] at ho
      subst ho
      refine ⟨wanted_at (g := 28) (t := 241) rfl rfl (by simp [nz21]) (by rw [← hG]; rfl), ?_⟩
      exact makes_lit_e _ _ _ _ _ _ s
    · simp only [List.getElem?_cons_succ, List.getElem?_cons_zero, Option.some.injEq] at ho
      subst ho
      refine ⟨wanted_at (g := 28) (t := 241) rfl rfl (by simp [nz21]) (by rw [← hG]; rfl), ?_⟩
      obtain ⟨p0, q0, h1, h2⟩ := hd 30 (by simp [dp21])
      have h1 : ListV [-1, 0, 1, 2, 3, 4] (r 30) q0 := h1
      refine makesOp_mono (makes_of64 _ _ _ _ _ _ s 243 _ (putN_ev_nz (i := 30) (by simp [nz21]) ⟨(30, 243), by simp [nz21], rfl⟩ (by rw [hGz]; decide))) ?_
      rintro v s' ⟨h3, rfl, rfl⟩
      exact ⟨h3, h1.mono h2⟩
    · simp only [List.getElem?_cons_succ, List.getElem?_cons_zero, Option.some.injEq] at ho
      subst ho
      refine ⟨wanted_at (g := 34) (t := 247) rfl rfl (by simp [nz21]) (by rw [← hG]; rfl), ?_⟩
      exact makes_lit_f _ _ _ _ _ _ s
    · simp only [List.getElem?_cons_succ, List.getElem?_cons_zero, Option.some.injEq] at ho
      subst ho
      refine ⟨wanted_at (g := 34) (t := 247) rfl rfl (by simp [nz21]) (by rw [← hG]; rfl), ?_⟩
      obtain ⟨p0, q0, h1, h2⟩ := hd 36 (by simp [dp21])
      have h1 : ListV [1, 0, 0, 0, 0, 0, 0, 0, 0, 0, 0] (r 36) q0 := h1
      refine makesOp_mono (makes_of64 _ _ _ _ _ _ s 249 _ (putN_ev_nz (i := 36) (by simp [nz21]) ⟨(36, 249), by simp [nz21], rfl⟩ (by rw [hGz]; decide))) ?_
      rintro v s' ⟨h3, rfl, rfl⟩
      exact ⟨h3, h1.mono h2⟩
  · intro i hi o ho r s hs hd
    have hi2 : i = 3 ∨ i = 16 ∨ i = 26 ∨ i = 32 ∨ i = 38 := by simpa [isKn] using hi
    rcases hi2 with rfl | rfl | rfl | rfl | rfl
    · simp only [List.getElem?_cons_succ, List.getElem?_cons_zero, Option.some.injEq] at ho
      subst ho
      obtain ⟨p0, q0, h1, h2⟩ := hd 2 (by simp [dp21])
      have h1 : ListV [15, 15, 70] (r 2) q0 := h1
      obtain ⟨a0, h3, h4⟩ := h1
      exact makes_longs _ _ _ _ _ _ s 213 215 [15, 15, 70] _ _ _ _ _ _ rfl rfl (putN_ev (by simp [nz21]) (by rw [← hG]; rfl)) ((putN_ev_nz (i := 2) (by simp [nz21]) ⟨(2, 215), by simp [nz21], rfl⟩ (by rw [hGz]; decide)).trans h3) (LW.out.mono hs) (h4.mono h2) (by decide)
    · simp only [List.getElem?_cons_succ, List.getElem?_cons_zero, Option.some.injEq] at ho
      subst ho
      obtain ⟨p0, q0, h1, h2⟩ := hd 15 (by simp [dp21])
      have h1 : ∃ a, r 15 = .slice a 2 2 ∧ RowsAt q0 a [[25], [3, 2]] := h1
      obtain ⟨a0, h3, h4⟩ := h1
      exact makes_tables _ _ _ _ _ _ s 223 228 [[25], [3, 2]] _ _ _ _ _ _ rfl rfl (putN_ev (by simp [nz21]) (by rw [← hG]; rfl)) ((putN_ev_nz (i := 15) (by simp [nz21]) ⟨(15, 228), by simp [nz21], rfl⟩ (by rw [hGz]; decide)).trans h3) (LK.out.mono hs) (h4.mono h2) (by decide) (by decide)
    · simp only [List.getElem?_cons_succ, List.getElem?_cons_zero, Option.some.injEq] at ho
      subst ho
      obtain ⟨p0, q0, h1, h2⟩ := hd 25 (by simp [dp21])
      have h1 : ListV [1, 1] (r 25) q0 := h1
      obtain ⟨a0, h3, h4⟩ := h1
      exact makes_ints _ _ _ _ _ _ s 236 238 [1, 1] _ _ _ _ _ _ rfl rfl (putN_ev (by simp [nz21]) (by rw [← hG]; rfl)) ((putN_ev_nz (i := 25) (by simp [nz21]) ⟨(25, 238), by simp [nz21], rfl⟩ (by rw [hGz]; decide)).trans h3) (LH.out.mono hs) (h4.mono h2) (by decide)
    · simp only [List.getElem?_cons_succ, List.getElem?_cons_zero, Option.some.injEq] at ho
      subst ho
      obtain ⟨p0, q0, h1, h2⟩ := hd 31 (by simp [dp21])
      have h1 : ListV [-1, 0, 1, 2, 3, 4] (r 31) q0 := h1
      obtain ⟨a0, h3, h4⟩ := h1
      exact makes_ints _ _ _ _ _ _ s 242 244 [-1, 0, 1, 2, 3, 4] _ _ _ _ _ _ rfl rfl (putN_ev (by simp [nz21]) (by rw [← hG]; rfl)) ((putN_ev_nz (i := 31) (by simp [nz21]) ⟨(31, 244), by simp [nz21], rfl⟩ (by rw [hGz]; decide)).trans h3) (LL.out.mono hs) (h4.mono h2) (by decide)
    · simp only [List.getElem?_cons_succ, List.getElem?_cons_zero, Option.some.injEq] at ho
      subst ho
      obtain ⟨p0, q0, h1, h2⟩ := hd 37 (by simp [dp21])
      have h1 : ListV [1, 0, 0, 0, 0, 0, 0, 0, 0, 0, 0] (r 37) q0 := h1
      obtain ⟨a0, h3, h4⟩ := h1
      exact makes_ints _ _ _ _ _ _ s 248 250 [1, 0, 0, 0, 0, 0, 0, 0, 0, 0, 0] _ _ _ _ _ _ rfl rfl (putN_ev (by simp [nz21]) (by rw [← hG]; rfl)) ((putN_ev_nz (i := 37) (by simp [nz21]) ⟨(37, 250), by simp [nz21], rfl⟩ (by rw [hGz]; decide)).trans h3) (LF.out.mono hs) (h4.mono h2) (by decide)
  · intro r p0 q0 s hs _ _
    have hlast : (putN nz21 r G).eval (.tmp 266) = .bool true := putN_ev (by simp [nz21]) (by rw [← hG]; rfl)
    have HL := hid hlast; have HBs := hid (bstep HB.out hs)
    clear hs
    simp only [List.drop_succ_cons, List.drop_zero]
    have hev : (putN nz21 r G).defers = [] := by rw [(putN_size nz21 r G).2, ← hG]
    have hz : (putN nz21 r G).tmps.size = 267 := by rw [(putN_size nz21 r G).1, hGz]
    have e266 : (putN nz21 r G).tmps[266]?.getD undef = .bool true := by simpa [Act.eval] using HL.out
    obtain ⟨A, hA⟩ : ∃ A, A = putN nz21 r G := ⟨_, rfl⟩
    rw [← hA] at hev hz e266 ⊢
    clear hA HL hG hGz
    obtain ⟨T, D⟩ := A
    simp only at hev hz e266 ⊢
    subst hev
    gi_wp2
    have hb : 266 < T.size := by omega
    have h0 : 0 < T.size := by omega
    simp [hb] at e266
    go_wp2
    go_ret
    refine ⟨?_, HBs.out⟩
    simp [e266, h0]

end Go.Proofs.Ytnnojhpioenhbaa
