/- Walks: Planned. -/
import Derived.Test.YtelgbjfgmpkepaaXIc
namespace Go.Proofs.Ytelgbjfgmpkepaa
open Go.RowKit Go.Shelf

/-- a call that hands back a new block of ints -/
def LaidC (w : World) (xs : List Int) (e : Ending) (w' : World) : Prop := ∃ b, w.heap.size ≤ b ∧ e = .returned (.slice (some ⟨b, 0, none⟩) xs.length xs.length) ∧ BI w' b xs ∧ Below w.heap.size w w'
section
variable (n : Nat) (ba : Option Addr) (bc : Nat) (bs : List Nat) (w : World)
set_option maxRecDepth 100000 in
set_option maxHeartbeats 4000000 in
theorem laid_own (hn : n ≤ 1000) (hb : BytesAt w ba bs) (hl : bs.length ≤ 1000000) : Calls Try.prog 49 #[.int .i64 (n : Int), .slice ba bs.length bc] w (LaidC w (laidL n bs)) := by
  obtain ⟨M, hM, hBM, hm⟩ : ∃ M, M = w.alloc (.cells (intv (List.replicate n 0)).toArray 3) ∧ Below w.heap.size w M ∧ BI M w.heap.size (List.replicate n 0) := ⟨_, rfl, bnew _ _, bi_new _ _⟩
  have hmk := run_make_ints et22 w n n (Nat.le_refl _) (by omega)
  obtain ⟨o, ho⟩ : ∃ o, o = w.heap.size := ⟨_, rfl⟩
  rw [← ho] at hm
  rw [← ho, ← hM] at hmk
  have Hend := hid (laidO_end n bs)
  have Hnil := hid (show bs = [] → laidL n bs = List.replicate n 0 from fun h => by unfold laidL; rw [if_pos h])
  rw [← laidO_zero n bs] at hm
  have HM := hid hM; have HBM := hid hBM; have Hm := hid hm; have Ho := hid ho; have Hb := hid hb; have Hn := hid hn; have Hl := hid hl
  unfold LaidC
  rw [laidL_len]
  clear hM hBM hm ho hb hn hl
  go_enter Try.func49, Try.ntmps49
  go_upto_region 3 with (fail)
  clear hmk
  go_wp2
  go_loopw [6, 7, 8] (fun s i _ wr => ∃ k : Nat, k ≤ n ∧ (bs = [] → k = 0) ∧ i = .int .i64 k ∧ s = .int .i64 (laidS n bs k) ∧ BI wr o (laidO n bs k) ∧ Below w.heap.size w wr) (fun _ i _ _ => n - (intOf i).toNat)
  case atStart => exact ⟨0, Nat.zero_le _, fun _ => rfl, rfl, rfl, Hm.out, HBM.out⟩
  case round =>
    obtain ⟨k, hk, hz, rfl, rfl, hm, hB⟩ := hrel
    obtain ⟨wo, rfl⟩ : ∃ wo : World, wo = wr := ⟨_, rfl⟩
    have Hmo := hid hm; have HBo := hid hB
    have hn := Hn.out
    by_cases h0 : bs = []
    · obtain rfl := hz h0
      have hb0 : ¬ (0 : Int) < (bs.length : Int) := by rw [h0]; simp
      have Hfin := hid (show BI wo o (laidL n bs) by rw [Hnil.out h0, ← laidO_zero n bs]; exact hm)
      clear hm hB hz h0
      by_cases hlt : 0 < n
      · have hI : (0 : Int) < (n : Int) := by omega
        clear hlt hk
        go_wp2
        go_ret
        exact ⟨o, by rw [Ho.out]; exact Nat.le_refl _, rfl, Hfin.out, HBo.out⟩
      · have hI : ¬ (0 : Int) < (n : Int) := by omega
        clear hlt hk
        go_wp2
        go_ret
        exact ⟨o, by rw [Ho.out]; exact Nat.le_refl _, rfl, Hfin.out, HBo.out⟩
    · by_cases hlt : k < n
      · have hI : (k : Int) < (n : Int) := by omega
        have hp : 0 < bs.length := List.length_pos_iff.2 h0
        have hb0 : (0 : Int) < (bs.length : Int) := by omega
        have hb1 : ¬ (bs.length : Int) = 0 := by omega
        have hb2 : ((bs.length : Int) == 0) = false := by simpa using h0
        obtain ⟨j, hj⟩ : ∃ j, j = k % bs.length := ⟨_, rfl⟩
        have hjl : j < bs.length := by rw [hj]; exact Nat.mod_lt _ hp
        have hjI : (j : Int) < (bs.length : Int) := by omega
        obtain ⟨b, off, rfl, hcx, hbx⟩ := BytesAt.at (BytesAt.mono Hb.out hB) hjl
        have hd : drawn bs k = ((bs.getD j 0 % 3 : Nat) : Int) - 1 := by rw [hj]; rfl
        have hdr := drawn_range bs k
        obtain ⟨x, hx⟩ : ∃ x, x = bs.getD j 0 := ⟨_, rfl⟩
        rw [← hx] at hcx hbx hd
        obtain ⟨d, hdd⟩ : ∃ d, d = drawn bs k := ⟨_, rfl⟩
        have hst : laidS n bs (k + 1) = if max (laidS n bs k + drawn bs k) (-(laidS n bs k) - drawn bs k) < (n : Int) - (k : Int) then laidS n bs k + drawn bs k else if 0 < laidS n bs k then laidS n bs k - 1 else if laidS n bs k < 0 then laidS n bs k + 1 else laidS n bs k := rfl
        have hlv : laidV n bs k = if max (laidS n bs k + drawn bs k) (-(laidS n bs k) - drawn bs k) < (n : Int) - (k : Int) then drawn bs k else if 0 < laidS n bs k then -1 else if laidS n bs k < 0 then 1 else 0 := rfl
        have hse := laidO_set (n := n) (bs := bs) (k := k)
        have hsk := laidO_skip (n := n) (bs := bs) (k := k)
        have hsl := laidS_le n bs k hk
        rw [← hdd] at hd hst hlv hdr
        obtain ⟨S, hS⟩ : ∃ S, S = laidS n bs k := ⟨_, rfl⟩
        rw [← hS] at hst hlv hsl ⊢
        have om := hm.cell (k := k) (by rw [laidO_len]; exact hlt)
        have fo := hm.frozen k
        obtain ⟨y, hy⟩ : ∃ y, y = nth (laidO n bs k) k := ⟨_, rfl⟩
        rw [← hy] at om
        have e1 : IntKind.i64.wrap ((k : Int) + 1) = (k : Int) + 1 := wrap_i64_of (by omega) (by omega)
        have e2 : (k : Int).tmod (bs.length : Int) = (j : Int) := by rw [hj]; exact tmod_nat _ _
        have e2b : (k : Int) % (bs.length : Int) = (j : Int) := by rw [hj]; omega
        have e3 : IntKind.i64.wrap (x : Int) = (x : Int) := wrap_i64_of (by omega) (by omega)
        have e4 : (x : Int).tmod 3 = ((x % 3 : Nat) : Int) := tmod_nat _ _
        have e5 : IntKind.i64.wrap (((x % 3 : Nat) : Int) - 1) = d := by rw [wrap_i64_of (by omega) (by omega)]; omega
        have e5b : (x : Int) % 3 - 1 = d := by omega
        have e6 : IntKind.i64.wrap (S + d) = S + d := wrap_i64_of (by omega) (by omega)
        have e7 : IntKind.i64.wrap (-S) = -S := wrap_i64_of (by omega) (by omega)
        have e8 : IntKind.i64.wrap (-S - d) = -S - d := wrap_i64_of (by omega) (by omega)
        have e9 : IntKind.i64.wrap ((n : Int) - (k : Int)) = (n : Int) - (k : Int) := wrap_i64_of (by omega) (by omega)
        have e10 : IntKind.i64.wrap (S - 1) = S - 1 := wrap_i64_of (by omega) (by omega)
        have e11 : IntKind.i64.wrap (S + 1) = S + 1 := wrap_i64_of (by omega) (by omega)
        obtain ⟨mx, hmx⟩ : ∃ m, m = max (S + d) (-S - d) := ⟨_, rfl⟩
        rw [← hmx] at hst hlv
        have e12 : (if S + d < -S - d then -S - d else S + d) = mx := by rw [hmx]; split <;> omega
        have e13 : (if -S - d < S + d then S + d else -S - d) = mx := by rw [hmx]; split <;> omega
        by_cases c1 : mx < (n : Int) - (k : Int)
        · rw [if_pos c1] at hst hlv
          rw [hlv] at hse
          have Hend := hid (show BI (wo.setCell ⟨o, k, none⟩ (.int .i64 d)) o (laidO n bs (k + 1)) by rw [← hse]; exact hm.set k d)
          have Hst := hid hst
          have Hh0 := hid h0; have Hlt := hid hlt
          clear hst hlv hse hsk hsl hd hdr hj hjl hx hdd hS hy hm hB hz hbx hp hk hmx h0 hlt
          go_wp2
          go_roundw
          case rel => exact ⟨k + 1, Hlt.out, fun h => absurd h Hh0.out, by go_num, by rw [Hst.out], Hend.out, HBo.out.setCell (p := ⟨o, k, none⟩) (by have := Ho.out; simp only; omega) _⟩
          case measure => simp [intOf]; have := Hlt.out; omega
        · rw [if_neg c1] at hst hlv
          by_cases c2 : 0 < S
          · rw [if_pos c2] at hst hlv
            rw [hlv] at hse
            have Hend := hid (show BI (wo.setCell ⟨o, k, none⟩ (.int .i64 (-1))) o (laidO n bs (k + 1)) by rw [← hse]; exact hm.set k (-1))
            have Hst := hid hst
            have Hh0 := hid h0; have Hlt := hid hlt
            clear hst hlv hse hsk hsl hd hdr hj hjl hx hdd hS hy hm hB hz hbx hp hk hmx h0 hlt
            go_wp2
            go_roundw
            case rel => exact ⟨k + 1, Hlt.out, fun h => absurd h Hh0.out, by go_num, by rw [Hst.out], Hend.out, HBo.out.setCell (p := ⟨o, k, none⟩) (by have := Ho.out; simp only; omega) _⟩
            case measure => simp [intOf]; have := Hlt.out; omega
          · rw [if_neg c2] at hst hlv
            by_cases c3 : S < 0
            · rw [if_pos c3] at hst hlv
              rw [hlv] at hse
              have Hend := hid (show BI (wo.setCell ⟨o, k, none⟩ (.int .i64 1)) o (laidO n bs (k + 1)) by rw [← hse]; exact hm.set k 1)
              have Hst := hid hst
              have Hh0 := hid h0; have Hlt := hid hlt
              clear hst hlv hse hsk hsl hd hdr hj hjl hx hdd hS hy hm hB hz hbx hp hk hmx h0 hlt
              go_wp2
              go_roundw
              case rel => exact ⟨k + 1, Hlt.out, fun h => absurd h Hh0.out, by go_num, by rw [Hst.out], Hend.out, HBo.out.setCell (p := ⟨o, k, none⟩) (by have := Ho.out; simp only; omega) _⟩
              case measure => simp [intOf]; have := Hlt.out; omega
            · rw [if_neg c3] at hst hlv
              have Hend := hid (show BI wo o (laidO n bs (k + 1)) by rw [← hsk hlv]; exact hm)
              have Hst := hid hst
              have Hh0 := hid h0; have Hlt := hid hlt
              clear hst hlv hse hsk hsl hd hdr hj hjl hx hdd hS hy hm hB hz hbx hp hk hmx h0 hlt
              go_wp2
              go_roundw
              case rel => exact ⟨k + 1, Hlt.out, fun h => absurd h Hh0.out, by go_num, by rw [Hst.out], Hend.out, HBo.out⟩
              case measure => simp [intOf]; have := Hlt.out; omega
      · have hI : ¬ (k : Int) < (n : Int) := by omega
        obtain rfl : k = n := by omega
        have Hfin := hid (show BI wo o (laidL k bs) by rw [← Hend.out h0]; exact hm)
        clear hm hB hz h0 hk hlt
        go_wp2
        go_ret
        exact ⟨o, by rw [Ho.out]; exact Nat.le_refl _, rfl, Hfin.out, HBo.out⟩
end
theorem bi_own {w : World} {b B : Nat} {xs : List Int} (h : BI w b xs) (hB : B ≤ b) (hl : xs.length ≤ 1000000) : OwnI 3 B w (some ⟨b, 0, none⟩) xs.length xs.length xs :=
  ⟨rfl, by simp [intv_length], .inr ⟨b, xs.length, _, rfl, hB, h, Nat.le_refl _, by unfold maxLen; omega, by simp [intv_length], by rw [Nat.mul_one, ← intv_length xs]; exact List.take_length⟩⟩
/-- the numbers of one weighing -/
def byTo (n i : Nat) (bs : List Nat) (k : Nat) : List Nat := (List.range k).map fun k => bs.getD ((i * n + k) % bs.length) 0
def byL (n i : Nat) (bs : List Nat) : List Nat := if bs = [] then [] else byTo n i bs n
def planTo (n : Nat) (bs : List Nat) (m : Nat) : List (List Int) := (List.range m).map fun i => laidL n (byL n i bs)
theorem planTo_len (n : Nat) (bs : List Nat) (m : Nat) : (planTo n bs m).length = m := by simp [planTo]
theorem planTo_succ (n : Nat) (bs : List Nat) (m : Nat) : planTo n bs (m + 1) = planTo n bs m ++ [laidL n (byL n m bs)] := by
  unfold planTo; rw [List.range_succ, List.map_append]; rfl
theorem byTo_succ (n i : Nat) (bs : List Nat) (k : Nat) : byTo n i bs (k + 1) = byTo n i bs k ++ [bs.getD ((i * n + k) % bs.length) 0] := by
  unfold byTo; rw [List.range_succ, List.map_append]; rfl
theorem byTo_len (n i : Nat) (bs : List Nat) (k : Nat) : (byTo n i bs k).length = k := by simp [byTo]
theorem bytev_append (xs ys : List Nat) : bytev (xs ++ ys) = bytev xs ++ bytev ys := by simp [bytev]
theorem bytev_len (xs : List Nat) : (bytev xs).length = xs.length := by simp [bytev]
theorem bytev_one (xs : List Nat) : ∀ u ∈ bytev xs, u.oneCell' = true := by
  intro u hu; simp [bytev] at hu; obtain ⟨x, _, rfl⟩ := hu; rfl
theorem byTo_lt {bs : List Nat} (h : ∀ b ∈ bs, b < 256) (hp : 0 < bs.length) (n i k : Nat) : ∀ b ∈ byTo n i bs k, b < 256 := by
  intro b hb
  unfold byTo at hb
  obtain ⟨j, _, rfl⟩ := List.mem_map.1 hb
  have hl : (i * n + j) % bs.length < bs.length := Nat.mod_lt _ hp
  rw [List.getD_eq_getElem?_getD, List.getElem?_eq_getElem hl]
  exact h _ (List.getElem_mem hl)
/-- a call that hands back lists of ints -/
def RowsC (w : World) (ls : List (List Int)) (e : Ending) (w' : World) : Prop := ∃ a c, e = .returned (.slice a ls.length c) ∧ RowsAt w' a ls ∧ Below w.heap.size w w'
section
variable (n m : Nat) (ba : Option Addr) (bc : Nat) (bs : List Nat) (w : World)
set_option maxRecDepth 100000 in
set_option maxHeartbeats 8000000 in
theorem planned_45 (hn : n ≤ 1000) (hm : m ≤ 1000) (hb : BytesAt w ba bs) (hl : bs.length ≤ 1000000) : Calls Try.prog 45 #[.int .i64 (n : Int), .int .i64 (m : Int), .slice ba bs.length bc] w (RowsC w (planTo n bs m)) := by
  have Hb := hid hb; have Hn := hid hn; have Hm := hid hm; have Hl := hid hl
  clear hb hn hm hl
  go_enter Try.func45, Try.ntmps45
  go_wp2
  go_loopw [7, 8, 9, 10] (fun o t _ _ wr => ∃ (i : Nat) (ao : Option Addr) (cap : Nat) (vs : List Value), i ≤ m ∧ t = .int .i64 (i : Int) ∧ o = .slice ao i cap ∧ OwnR 22 3 w.heap.size wr ao i cap (planTo n bs i) vs ∧ Below w.heap.size w wr) (fun _ t _ _ _ => m - (intOf t).toNat)
  case atStart => exact ⟨0, none, 0, [], Nat.zero_le _, rfl, rfl, OwnR.nil _ _ _ _, Below.refl _ _⟩
  case round =>
    obtain ⟨i, ao, cap, vs, hi, rfl, rfl, ho, hB⟩ := hrel
    obtain ⟨wo, rfl⟩ : ∃ wo : World, wo = wr := ⟨_, rfl⟩
    have Ho := hid ho; have HB := hid hB
    have hm := Hm.out
    by_cases hlt : i < m
    · have hI : (i : Int) < (m : Int) := by omega
      have Hlt := hid hlt
      clear ho hB hi hlt hm
      go_wp2
      go_loopw [9, 10] (fun l t wr => ∃ (k : Nat) (al : Option Addr) (cl : Nat), k ≤ n ∧ (bs = [] → k = 0) ∧ t = .int .i64 (k : Int) ∧ l = .slice al k cl ∧ OwnV 5 1 wo.heap.size wr al k cl (bytev (byTo n i bs k)) ∧ Below wo.heap.size wo wr) (fun _ t _ => n - (intOf t).toNat)
      case atStart => exact ⟨0, none, 0, Nat.zero_le _, fun _ => rfl, rfl, rfl, OwnV.nil _ _ _ _, Below.refl _ _⟩
      case round =>
        obtain ⟨k, al, cl, hk, hz, rfl, rfl, hol, hBl⟩ := hrel
        obtain ⟨wi, rfl⟩ : ∃ wi : World, wi = wr := ⟨_, rfl⟩
        have hn := Hn.out
        have Hol := hid hol; have HBl := hid hBl; have Hz := hid hz; have Hk := hid hk
        clear hol hBl
        by_cases hgo : k < n ∧ bs ≠ []
        · obtain ⟨hkn, hne⟩ := hgo
          have hK : (k : Int) < (n : Int) := by omega
          have hp : 0 < bs.length := List.length_pos_iff.2 hne
          have hb0 : (0 : Int) < (bs.length : Int) := by omega
          have hb1 : ¬ (bs.length : Int) = 0 := by omega
          have hb2 : ((bs.length : Int) == 0) = false := by simpa using hne
          obtain ⟨q, hq⟩ : ∃ q, q = i * n + k := ⟨_, rfl⟩
          obtain ⟨j, hj⟩ : ∃ j, j = q % bs.length := ⟨_, rfl⟩
          have hjl : j < bs.length := by rw [hj]; exact Nat.mod_lt _ hp
          have hjI : (j : Int) < (bs.length : Int) := by omega
          obtain ⟨b, off, rfl, hcx, hbx⟩ := BytesAt.at (BytesAt.mono (BytesAt.mono Hb.out HB.out) HBl.out) hjl
          have him : i * n ≤ 1000 * 1000 := Nat.mul_le_mul (by have := Hlt.out; have := Hm.out; omega) hn
          have hbig : i * n ≤ 1000000 := by omega
          obtain ⟨p, hp0⟩ : ∃ p, p = i * n := ⟨_, rfl⟩
          have e1 : IntKind.i64.wrap ((i : Int) * (n : Int)) = (p : Int) := by rw [hp0, ← Int.natCast_mul]; exact wrap_i64_of (by omega) (by omega)
          have e2 : IntKind.i64.wrap ((p : Int) + (k : Int)) = (q : Int) := by rw [wrap_i64_of (by omega) (by omega)]; omega
          have e3 : (q : Int).tmod (bs.length : Int) = (j : Int) := by rw [hj]; exact tmod_nat _ _
          have e3b : (q : Int) % (bs.length : Int) = (j : Int) := by rw [hj]; omega
          have e4 : IntKind.i64.wrap ((k : Int) + 1) = (k : Int) + 1 := wrap_i64_of (by omega) (by omega)
          have hsucc := byTo_succ n i bs k
          rw [← hq, ← hj] at hsucc
          obtain ⟨x, hx⟩ : ∃ x, x = bs.getD j 0 := ⟨_, rfl⟩
          rw [← hx] at hcx hsucc
          obtain ⟨W1, hW1⟩ : ∃ W1, W1 = wi.alloc (.cells #[.int .u8 (x : Int)] 5) := ⟨_, rfl⟩
          have hB1 : Below wi.heap.size wi W1 := by rw [hW1]; exact bnew _ _
          have Hcs := hid (show CellsAt W1 (some ⟨wi.heap.size, 0, none⟩) (bytev [x]) by rw [hW1]; exact CellsAt.of_heap (heap_alloc_new _ _) fun j v hj => by simpa [bytev] using hj)
          have Hone := hid (bytev_one [x])
          have Ho1 := hid (Hol.out.kept hB1)
          have HB1 := hid (bstep HBl.out hB1)
          have Hk1 := hid (show k + 1 ≤ 1000000 by omega)
          have Hsz := hid (show wo.heap.size ≤ W1.heap.size from HB1.out.size)
          have HW1 := hid hW1; have Hsucc := hid hsucc; have Hkn := hid hkn; have Hne := hid hne
          clear hB1 hW1 hk hz hsucc hx hj hq hp0 hjl hp hkn hne him hbig hbx
          go_wp2_with (at_builtin; rw [← HW1.out]; refine wpList_appV et54 W1 rfl (.tmp 26) (.tmp 38) rfl wo.heap.size al k cl _ rfl Ho1.out (some ⟨wi.heap.size, 0, none⟩) 1 1 _ rfl Hcs.out rfl Hone.out (fun h => by cases h) Hk1.out Hsz.out ?_)
          intro al' cl' w' hB' hown' _ _
          have Hend := hid (show OwnV 5 1 wo.heap.size w' al' (k + 1) cl' (bytev (byTo n i bs (k + 1))) ∧ Below wo.heap.size wo w' from ⟨by rw [Hsucc.out, bytev_append]; exact hown', HB1.out.trans hB'⟩)
          clear hB' hown'
          go_wp2
          go_roundw
          case rel => exact ⟨k + 1, al', cl', Hkn.out, fun h => absurd h Hne.out, by go_num, rfl, Hend.out.1, Hend.out.2⟩
          case measure => simp [intOf]; have := Hkn.out; omega
        · have hlist : byL n i bs = byTo n i bs k := by
            unfold byL
            by_cases h0 : bs = []
            · rw [if_pos h0, hz h0]; rfl
            · rw [if_neg h0]
              have : k = n := by
                by_cases h1 : k < n
                · exact absurd ⟨h1, h0⟩ hgo
                · omega
              rw [this]
          have hby : BytesAt wi al (byTo n i bs k) := ⟨Hol.out.at, by
            by_cases h0 : bs = []
            · rw [hz h0]; intro b hb; cases hb
            · exact byTo_lt Hb.out.2 (List.length_pos_iff.2 h0) n i k⟩
          have hld := laid_own n al cl (byTo n i bs k) wi hn hby (by rw [byTo_len]; omega)
          rw [← hlist] at hld
          have hln : (byL n i bs).length = k := by rw [hlist, byTo_len]
          rw [hln] at hld
          obtain ⟨R, hR⟩ : ∃ R, R = laidL n (byL n i bs) := ⟨_, rfl⟩
          rw [← hR] at hld
          have hRl : R.length = n := by rw [hR]; exact laidL_len _ _
          have hps : planTo n bs (i + 1) = planTo n bs i ++ [R] := by rw [hR]; exact planTo_succ _ _ _
          have Hld := hid hld; have HRl := hid hRl; have Hps := hid hps
          clear hlist hby hld hln hR hRl hps hz
          have ei : IntKind.i64.wrap ((i : Int) + 1) = (i : Int) + 1 := wrap_i64_of (by omega) (by have := Hlt.out; have := Hm.out; omega)
          by_cases hkn : k < n
          · have hK : (k : Int) < (n : Int) := by omega
            have hb0 : ¬ (0 : Int) < (bs.length : Int) := by
              have : bs = [] := by
                by_cases h0 : bs = []
                · exact h0
                · exact absurd ⟨hkn, h0⟩ hgo
              rw [this]; simp
            clear hgo hkn hk
            go_wp2_with fail
            refine Hld.out.mono ?_
            rintro e wl ⟨b, hbw, rfl, hbi, hBw⟩
            have hx := bi_own (B := w.heap.size) hbi (Nat.le_trans (Nat.le_trans HB.out.size HBl.out.size) hbw) (by rw [HRl.out]; exact Nat.le_trans Hn.out (by omega))
            obtain ⟨W1, hW1⟩ : ∃ W1, W1 = wl.alloc (.cells #[.slice (some ⟨b, 0, none⟩) R.length R.length] 22) := ⟨_, rfl⟩
            have hB1 : Below wl.heap.size wl W1 := by rw [hW1]; exact bnew _ _
            have hBt := bstep HBl.out (bstep hBw hB1)
            have Hcs := hid (show CellsAt W1 (some ⟨wl.heap.size, 0, none⟩) [.slice (some ⟨b, 0, none⟩) R.length R.length] by rw [hW1]; exact CellsAt.of_heap (heap_alloc_new _ _) fun j v hj => by simpa using hj)
            have Ho1 := hid (Ho.out.kept hBt)
            have Hx1 := hid (hx.kept hB1)
            have HBt := hid (bstep HB.out hBt)
            have Hk1 := hid (show i + 1 ≤ 1000000 by have := Hlt.out; have := Hm.out; omega)
            have Hsz := hid (show w.heap.size ≤ W1.heap.size from HBt.out.size)
            have HW1 := hid hW1
            clear hbi hBw hx hB1 hW1 hBt hbw
            go_wp2_with (at_builtin; rw [← HW1.out]; refine wpList_appV et42 W1 rfl (.tmp 40) (.tmp 44) rfl w.heap.size ao i cap vs rfl Ho1.out.own (some ⟨wl.heap.size, 0, none⟩) 1 1 _ rfl Hcs.out rfl (by intro u hu; simp at hu; subst hu; rfl) (fun h => by cases h) Hk1.out Hsz.out ?_)
            intro ao' cap' w' hB' hown' hgr' _
            have Hend := hid (show OwnR 22 3 w.heap.size w' ao' (i + 1) cap' (planTo n bs (i + 1)) _ ∧ Below w.heap.size w w' from ⟨by rw [Hps.out]; exact Ho1.out.app (by decide) hgr' Hx1.out hown', HBt.out.trans hB'⟩)
            clear hB' hown' hgr'
            go_wp2
            go_roundw
            case rel => exact ⟨i + 1, ao', cap', _, Hlt.out, by go_num, rfl, Hend.out.1, Hend.out.2⟩
            case measure => simp [intOf]; have := Hlt.out; omega
          · have hK : ¬ (k : Int) < (n : Int) := by omega
            clear hgo hkn hk
            go_wp2_with fail
            refine Hld.out.mono ?_
            rintro e wl ⟨b, hbw, rfl, hbi, hBw⟩
            have hx := bi_own (B := w.heap.size) hbi (Nat.le_trans (Nat.le_trans HB.out.size HBl.out.size) hbw) (by rw [HRl.out]; exact Nat.le_trans Hn.out (by omega))
            obtain ⟨W1, hW1⟩ : ∃ W1, W1 = wl.alloc (.cells #[.slice (some ⟨b, 0, none⟩) R.length R.length] 22) := ⟨_, rfl⟩
            have hB1 : Below wl.heap.size wl W1 := by rw [hW1]; exact bnew _ _
            have hBt := bstep HBl.out (bstep hBw hB1)
            have Hcs := hid (show CellsAt W1 (some ⟨wl.heap.size, 0, none⟩) [.slice (some ⟨b, 0, none⟩) R.length R.length] by rw [hW1]; exact CellsAt.of_heap (heap_alloc_new _ _) fun j v hj => by simpa using hj)
            have Ho1 := hid (Ho.out.kept hBt)
            have Hx1 := hid (hx.kept hB1)
            have HBt := hid (bstep HB.out hBt)
            have Hk1 := hid (show i + 1 ≤ 1000000 by have := Hlt.out; have := Hm.out; omega)
            have Hsz := hid (show w.heap.size ≤ W1.heap.size from HBt.out.size)
            have HW1 := hid hW1
            clear hbi hBw hx hB1 hW1 hBt hbw
            go_wp2_with (at_builtin; rw [← HW1.out]; refine wpList_appV et42 W1 rfl (.tmp 40) (.tmp 44) rfl w.heap.size ao i cap vs rfl Ho1.out.own (some ⟨wl.heap.size, 0, none⟩) 1 1 _ rfl Hcs.out rfl (by intro u hu; simp at hu; subst hu; rfl) (fun h => by cases h) Hk1.out Hsz.out ?_)
            intro ao' cap' w' hB' hown' hgr' _
            have Hend := hid (show OwnR 22 3 w.heap.size w' ao' (i + 1) cap' (planTo n bs (i + 1)) _ ∧ Below w.heap.size w w' from ⟨by rw [Hps.out]; exact Ho1.out.app (by decide) hgr' Hx1.out hown', HBt.out.trans hB'⟩)
            clear hB' hown' hgr'
            go_wp2
            go_roundw
            case rel => exact ⟨i + 1, ao', cap', _, Hlt.out, by go_num, rfl, Hend.out.1, Hend.out.2⟩
            case measure => simp [intOf]; have := Hlt.out; omega
    · have hI : ¬ (i : Int) < (m : Int) := by omega
      obtain rfl : i = m := by omega
      have Hfin := hid ho.at
      clear ho hB hi hlt hm
      go_wp2
      go_ret
      exact ⟨ao, cap, by rw [planTo_len]; rfl, Hfin.out, HB.out⟩
end

end Go.Proofs.Ytelgbjfgmpkepaa
