/- Walks: Laid. -/
import Derived.Test.YtelgbjfgmpkepaaKT
import Derived.Test.YtelgbjfgmpkepaaXQd
namespace Go.Proofs.Ytelgbjfgmpkepaa
open Go.RowKit Go.Shelf

def bytev (bs : List Nat) : List Value := bs.map fun (b : Nat) => Value.int .u8 (b : Int)
theorem bytev_get {bs : List Nat} {k : Nat} (h : k < bs.length) : (bytev bs)[k]? = some (.int .u8 ((bs.getD k 0 : Nat) : Int)) := by
  unfold bytev
  simp [List.getD, h]
/-- a list of bytes in memory -/
def BytesAt (w : World) (a : Option Addr) (bs : List Nat) : Prop := CellsAt w a (bytev bs) ∧ ∀ b ∈ bs, b < 256
theorem BytesAt.mono {w w' : World} {a : Option Addr} {bs : List Nat} (h : BytesAt w a bs) (hB : Below w.heap.size w w') : BytesAt w' a bs := ⟨h.1.mono hB, h.2⟩
theorem BytesAt.at {w : World} {a : Option Addr} {bs : List Nat} (h : BytesAt w a bs) {j : Nat} (hj : j < bs.length) : ∃ b off, a = some ⟨b, off, none⟩ ∧ w.cell? ⟨b, off + j, none⟩ = some (.int .u8 ((bs.getD j 0 : Nat) : Int)) ∧ bs.getD j 0 < 256 := by
  rcases h.1 with h0 | ⟨b, off, rfl, hc⟩
  · have : bs.length = 0 := by have := congrArg List.length h0; simpa [bytev] using this
    omega
  · refine ⟨b, off, rfl, hc j _ (bytev_get hj), h.2 _ ?_⟩
    rw [List.getD_eq_getElem?_getD, List.getElem?_eq_getElem hj]
    exact List.getElem_mem hj
section
variable (n : Nat) (ba : Option Addr) (bc : Nat) (bs : List Nat) (w : World)
set_option maxRecDepth 100000 in
set_option maxHeartbeats 4000000 in
theorem laid_49 (hn : n ≤ 1000) (hb : BytesAt w ba bs) (hl : bs.length ≤ 1000000) : Calls Try.prog 49 #[.int .i64 (n : Int), .slice ba bs.length bc] w (IntsC w (laidL n bs)) := by
  obtain ⟨M, hM, hBM, hm⟩ : ∃ M, M = w.alloc (.cells (intv (List.replicate n 0)).toArray 3) ∧ Below w.heap.size w M ∧ BI M w.heap.size (List.replicate n 0) := ⟨_, rfl, bnew _ _, bi_new _ _⟩
  have hmk := run_make_ints et22 w n n (Nat.le_refl _) (by omega)
  obtain ⟨o, ho⟩ : ∃ o, o = w.heap.size := ⟨_, rfl⟩
  rw [← ho] at hm
  rw [← ho, ← hM] at hmk
  have Hend := hid (laidO_end n bs)
  have Hnil := hid (show bs = [] → laidL n bs = List.replicate n 0 from fun h => by unfold laidL; rw [if_pos h])
  rw [← laidO_zero n bs] at hm
  have HM := hid hM; have HBM := hid hBM; have Hm := hid hm; have Ho := hid ho; have Hb := hid hb; have Hn := hid hn; have Hl := hid hl
  unfold IntsC
  rw [laidL_len]
  clear hM hBM hm ho hb hn hl
  go_enter Try.func49, Try.ntmps49
  go_upto_region 3 with (fail)
  clear hmk
  go_wp2
  go_loopw [6, 7, 8] (fun s i _ wr => ∃ k : Nat, k ≤ n ∧ (bs = [] → k = 0) ∧ i = .int .i64 k ∧ s = .int .i64 (laidS n bs k) ∧ BI wr o (laidO n bs k) ∧ Below w.heap.size w wr) (fun _ i _ _ => n - (intOf i).toNat)
  case atStart => exact ⟨0, Nat.zero_le _, fun _ => rfl, rfl, rfl, Hm.out, HBM.out⟩
  case round =>
    obtain ⟨k, hk, hz, rfl, rfl, hm, hB⟩ := hrel
    obtain ⟨wo, rfl⟩ : ∃ wo : World, wo = wr := ⟨_, rfl⟩
    have Hmo := hid hm; have HBo := hid hB
    have hn := Hn.out
    by_cases h0 : bs = []
    · obtain rfl := hz h0
      have hb0 : ¬ (0 : Int) < (bs.length : Int) := by rw [h0]; simp
      have Hfin := hid (show IntsAt wo (some ⟨o, 0, none⟩) (laidL n bs) by rw [Hnil.out h0, ← laidO_zero n bs]; exact hm.ints)
      clear hm hB hz h0
      by_cases hlt : 0 < n
      · have hI : (0 : Int) < (n : Int) := by omega
        clear hlt hk
        go_wp2
        go_ret
        exact ⟨_, _, rfl, Hfin.out, (fun h => by cases h), HBo.out⟩
      · have hI : ¬ (0 : Int) < (n : Int) := by omega
        clear hlt hk
        go_wp2
        go_ret
        exact ⟨_, _, rfl, Hfin.out, (fun h => by cases h), HBo.out⟩
    · by_cases hlt : k < n
      · have hI : (k : Int) < (n : Int) := by omega
        have hp : 0 < bs.length := List.length_pos_iff.2 h0
        have hb0 : (0 : Int) < (bs.length : Int) := by omega
        have hb1 : ¬ (bs.length : Int) = 0 := by omega
        have hb2 : ((bs.length : Int) == 0) = false := by simpa using h0
        obtain ⟨j, hj⟩ : ∃ j, j = k % bs.length := ⟨_, rfl⟩
        have hjl : j < bs.length := by rw [hj]; exact Nat.mod_lt _ hp
        have hjI : (j : Int) < (bs.length : Int) := by omega
        obtain ⟨b, off, rfl, hcx, hbx⟩ := BytesAt.at (BytesAt.mono Hb.out hB) hjl
        have hd : drawn bs k = ((bs.getD j 0 % 3 : Nat) : Int) - 1 := by rw [hj]; rfl
        have hdr := drawn_range bs k
        obtain ⟨x, hx⟩ : ∃ x, x = bs.getD j 0 := ⟨_, rfl⟩
        rw [← hx] at hcx hbx hd
        obtain ⟨d, hdd⟩ : ∃ d, d = drawn bs k := ⟨_, rfl⟩
        have hst : laidS n bs (k + 1) = if max (laidS n bs k + drawn bs k) (-(laidS n bs k) - drawn bs k) < (n : Int) - (k : Int) then laidS n bs k + drawn bs k else if 0 < laidS n bs k then laidS n bs k - 1 else if laidS n bs k < 0 then laidS n bs k + 1 else laidS n bs k := rfl
        have hlv : laidV n bs k = if max (laidS n bs k + drawn bs k) (-(laidS n bs k) - drawn bs k) < (n : Int) - (k : Int) then drawn bs k else if 0 < laidS n bs k then -1 else if laidS n bs k < 0 then 1 else 0 := rfl
        have hse := laidO_set (n := n) (bs := bs) (k := k)
        have hsk := laidO_skip (n := n) (bs := bs) (k := k)
        have hsl := laidS_le n bs k hk
        rw [← hdd] at hd hst hlv hdr
        obtain ⟨S, hS⟩ : ∃ S, S = laidS n bs k := ⟨_, rfl⟩
        rw [← hS] at hst hlv hsl ⊢
        have om := hm.cell (k := k) (by rw [laidO_len]; exact hlt)
        have fo := hm.frozen k
        obtain ⟨y, hy⟩ : ∃ y, y = nth (laidO n bs k) k := ⟨_, rfl⟩
        rw [← hy] at om
        have e1 : IntKind.i64.wrap ((k : Int) + 1) = (k : Int) + 1 := wrap_i64_of (by omega) (by omega)
        have e2 : (k : Int).tmod (bs.length : Int) = (j : Int) := by rw [hj]; exact tmod_nat _ _
        have e2b : (k : Int) % (bs.length : Int) = (j : Int) := by rw [hj]; omega
        have e3 : IntKind.i64.wrap (x : Int) = (x : Int) := wrap_i64_of (by omega) (by omega)
        have e4 : (x : Int).tmod 3 = ((x % 3 : Nat) : Int) := tmod_nat _ _
        have e5 : IntKind.i64.wrap (((x % 3 : Nat) : Int) - 1) = d := by rw [wrap_i64_of (by omega) (by omega)]; omega
        have e5b : (x : Int) % 3 - 1 = d := by omega
        have e6 : IntKind.i64.wrap (S + d) = S + d := wrap_i64_of (by omega) (by omega)
        have e7 : IntKind.i64.wrap (-S) = -S := wrap_i64_of (by omega) (by omega)
        have e8 : IntKind.i64.wrap (-S - d) = -S - d := wrap_i64_of (by omega) (by omega)
        have e9 : IntKind.i64.wrap ((n : Int) - (k : Int)) = (n : Int) - (k : Int) := wrap_i64_of (by omega) (by omega)
        have e10 : IntKind.i64.wrap (S - 1) = S - 1 := wrap_i64_of (by omega) (by omega)
        have e11 : IntKind.i64.wrap (S + 1) = S + 1 := wrap_i64_of (by omega) (by omega)
        obtain ⟨mx, hmx⟩ : ∃ m, m = max (S + d) (-S - d) := ⟨_, rfl⟩
        rw [← hmx] at hst hlv
        have e12 : (if S + d < -S - d then -S - d else S + d) = mx := by rw [hmx]; split <;> omega
        have e13 : (if -S - d < S + d then S + d else -S - d) = mx := by rw [hmx]; split <;> omega
        by_cases c1 : mx < (n : Int) - (k : Int)
        · rw [if_pos c1] at hst hlv
          rw [hlv] at hse
          have Hend := hid (show BI (wo.setCell ⟨o, k, none⟩ (.int .i64 d)) o (laidO n bs (k + 1)) by rw [← hse]; exact hm.set k d)
          have Hst := hid hst
          have Hh0 := hid h0; have Hlt := hid hlt
          clear hst hlv hse hsk hsl hd hdr hj hjl hx hdd hS hy hm hB hz hbx hp hk hmx h0 hlt
          go_wp2
          go_roundw
          case rel => exact ⟨k + 1, Hlt.out, fun h => absurd h Hh0.out, by go_num, by rw [Hst.out], Hend.out, HBo.out.setCell (p := ⟨o, k, none⟩) (by have := Ho.out; simp only; omega) _⟩
          case measure => simp [intOf]; have := Hlt.out; omega
        · rw [if_neg c1] at hst hlv
          by_cases c2 : 0 < S
          · rw [if_pos c2] at hst hlv
            rw [hlv] at hse
            have Hend := hid (show BI (wo.setCell ⟨o, k, none⟩ (.int .i64 (-1))) o (laidO n bs (k + 1)) by rw [← hse]; exact hm.set k (-1))
            have Hst := hid hst
            have Hh0 := hid h0; have Hlt := hid hlt
            clear hst hlv hse hsk hsl hd hdr hj hjl hx hdd hS hy hm hB hz hbx hp hk hmx h0 hlt
            go_wp2
            go_roundw
            case rel => exact ⟨k + 1, Hlt.out, fun h => absurd h Hh0.out, by go_num, by rw [Hst.out], Hend.out, HBo.out.setCell (p := ⟨o, k, none⟩) (by have := Ho.out; simp only; omega) _⟩
            case measure => simp [intOf]; have := Hlt.out; omega
          · rw [if_neg c2] at hst hlv
            by_cases c3 : S < 0
            · rw [if_pos c3] at hst hlv
              rw [hlv] at hse
              have Hend := hid (show BI (wo.setCell ⟨o, k, none⟩ (.int .i64 1)) o (laidO n bs (k + 1)) by rw [← hse]; exact hm.set k 1)
              have Hst := hid hst
              have Hh0 := hid h0; have Hlt := hid hlt
              clear hst hlv hse hsk hsl hd hdr hj hjl hx hdd hS hy hm hB hz hbx hp hk hmx h0 hlt
              go_wp2
              go_roundw
              case rel => exact ⟨k + 1, Hlt.out, fun h => absurd h Hh0.out, by go_num, by rw [Hst.out], Hend.out, HBo.out.setCell (p := ⟨o, k, none⟩) (by have := Ho.out; simp only; omega) _⟩
              case measure => simp [intOf]; have := Hlt.out; omega
            · rw [if_neg c3] at hst hlv
              have Hend := hid (show BI wo o (laidO n bs (k + 1)) by rw [← hsk hlv]; exact hm)
              have Hst := hid hst
              have Hh0 := hid h0; have Hlt := hid hlt
              clear hst hlv hse hsk hsl hd hdr hj hjl hx hdd hS hy hm hB hz hbx hp hk hmx h0 hlt
              go_wp2
              go_roundw
              case rel => exact ⟨k + 1, Hlt.out, fun h => absurd h Hh0.out, by go_num, by rw [Hst.out], Hend.out, HBo.out⟩
              case measure => simp [intOf]; have := Hlt.out; omega
      · have hI : ¬ (k : Int) < (n : Int) := by omega
        obtain rfl : k = n := by omega
        have Hfin := hid (show IntsAt wo (some ⟨o, 0, none⟩) (laidL k bs) by rw [← Hend.out h0]; exact hm.ints)
        clear hm hB hz h0 hk hlt
        go_wp2
        go_ret
        exact ⟨_, _, rfl, Hfin.out, (fun h => by cases h), HBo.out⟩
end

end Go.Proofs.Ytelgbjfgmpkepaa
