/- Walks: Clone, Least of the program. -/
import Derived.Test.YtkioejdddmnbmaaSe
import Derived.Laws.Cover3
namespace Go.Proofs.Ytkioejdddmnbmaa
open Go.RowKit Go.Shelf
attribute [local go_sem ↓] wp_get wp_get0 wp_getS wp78 wps78 wpa78

theorem eql_nil22 (a : Option Addr) (l c : Nat) (w : World) : (binOp .eql 22 (.slice a l c) (.slice none 0 0)).run Try.prog w = .ok (.bool a.isNone) w := by
  simp only [binOp]
  simp [run_equal_slice_nil w 22 3 a l c Try.underlying22]
theorem eql_nil23 (a : Option Addr) (l c : Nat) (w : World) : (binOp .eql 23 (.slice a l c) (.slice none 0 0)).run Try.prog w = .ok (.bool a.isNone) w := by
  simp only [binOp]
  simp [run_equal_slice_nil w 23 60 a l c Try.underlying23]
attribute [local go_sem] eql_nil22 eql_nil23

theorem own_lit0 (w : World) (B : Nat) (hB : B ≤ w.heap.size) : OwnI B (w.alloc (.cells #[] 3)) (some ⟨w.heap.size, 0, none⟩) 0 0 [] :=
  ⟨rfl, World.ownsRow_made (base := B) (e := 3) (size := 1) w #[] 0 hB (by unfold maxLen; omega) rfl⟩

/-- a list of the call's own is handed back -/
def OwnR (w : World) (xs : List Int) (e : Ending) (w' : World) : Prop := ∃ ao cap, e = .returned (.slice ao xs.length cap) ∧ OwnI w.heap.size w' ao xs.length cap xs ∧ Below w.heap.size w w'

set_option maxRecDepth 100000 in
set_option maxHeartbeats 2000000 in
theorem clone_c (a : Option Addr) (cap : Nat) (l : List Int) (w : World) (hx : IntsAt w a l) (hl : l.length ≤ 100000) (hnil : a = none → cap = 0) : Calls Try.prog 69 #[.slice a l.length cap] w (OwnR w l) := by
  have Hx := hid hx
  clear hx
  cases a with
  | none =>
    obtain rfl : l = [] := by
      rcases Hx.out with h | ⟨b, off, h, _⟩
      · exact h
      · cases h
    obtain rfl := hnil rfl
    go_enter Try.func69, Try.ntmps69
    go_wp2
    go_ret
    exact ⟨none, 0, rfl, OwnI.nil _ _, Below.refl _ _⟩
  | some a =>
    go_enter Try.func69, Try.ntmps69
    have H0 := hid (own_lit0 w w.heap.size (Nat.le_refl _))
    have HB := hid (bnew w (.cells #[] 3))
    go_wp2_with (at_builtin; refine wpList_app_many _ rfl _ _ rfl w.heap.size (some ⟨w.heap.size, 0, none⟩) 0 0 [] rfl H0.out (some a) l.length cap l rfl ?c1 rfl ?c2 ?c3 ?c4 ?c5; rotate_right; (intro ao' cap' w' hB' hown' hgr' hne'; refine Hid.out ?_))
    case c1 => exact Hx.out.mono HB.out
    case c2 => exact fun h => by cases h
    case c3 => omega
    case c4 => simp
    case c5 =>
      refine hid ?_
      have Hown' := hid hown'
      have HB' := hid (HB.out.trans hB')
      clear hown' hB' hgr' hne'
      go_wp2
      go_ret
      have h := Hown'.out
      rw [Nat.zero_add, List.nil_append] at h
      exact ⟨ao', cap', rfl, h, HB'.out⟩

def pLeastE (facts : Int) (seen : List Int) (rs : List Rl) : Int := if caseErr facts seen rs = 0 then (if 0 ≤ (deskOf seen rs).clash then 24 else 0) else caseErr facts seen rs
def pLeastL (facts : Int) (seen : List Int) (rs : List Rl) : List Int := if caseErr facts seen rs = 0 then (if 0 ≤ (deskOf seen rs).clash then [] else listM (deskOf seen rs).known) else []

set_option maxRecDepth 100000 in
set_option maxHeartbeats 4000000 in
theorem least_c (facts : Int) (sa : Option Addr) (sc : Nat) (seen : List Int) (ra : Option Addr) (rc : Nat) (rs : List Rl) (w : World) (hc : CaseAt w sa ra seen rs) :
    Calls Try.prog 23 #[.agg #[.int .i64 facts, .slice sa seen.length sc, .slice ra rs.length rc]] w (ListE w (pLeastL facts seen rs) (pLeastE facts seen rs)) := by
  obtain ⟨W0, hW0⟩ : ∃ W0, W0 = w.alloc (.cells #[.int .i64 facts, .slice sa seen.length sc, .slice ra rs.length rc] 25) := ⟨_, rfl⟩
  have HB0 := hid (show Below w.heap.size w W0 by rw [hW0]; exact bnew w _)
  obtain ⟨c0, c1, c2⟩ := caseBox w facts sa ra seen.length sc rs.length rc
  rw [← hW0] at c0 c1 c2
  have C0 := hid c0; have C1 := hid c1; have C2 := hid c2
  have HS := hid hW0
  have HO := hid (open_c facts sa sc seen ra rc rs none 0 [] W0 (hc.mono HB0.out) (IntsAt.nil _ _) (by simp))
  rw [open_none] at HO
  unfold ListE pLeastL pLeastE
  by_cases hz : caseErr facts seen rs = 0
  · rw [if_pos hz, if_pos hz]
    rw [hz] at HO
    obtain ⟨st, hst⟩ : ∃ st, st = deskOf seen rs := ⟨_, rfl⟩
    rw [← hst] at HO ⊢
    clear hc hz hW0 c0 c1 c2 hst
    by_cases hcl : 0 ≤ st.clash
    · rw [if_pos hcl, if_pos hcl]
      go_enter Try.func23, Try.ntmps23
      go_wp2_with fail
      rw [← HS.out]
      refine HO.out.mono ?_
      rintro e w1 ⟨p, rfl, hB, hp⟩
      obtain ⟨g, bm, oa, oc, rfl, hd⟩ := hp rfl
      have HB1 := hid (bstep HB0.out hB)
      have kc := hd.kC
      clear hB hp hd
      go_wp2
      go_ret2
      exact ⟨none, 0, rfl, IntsAt.nil _ _, fun _ => rfl, HB1.out⟩
    · rw [if_neg hcl, if_neg hcl]
      obtain ⟨l, hl⟩ : ∃ l, l = listM st.known := ⟨_, rfl⟩
      rw [← hl]
      have HL0 := hid hl
      clear hl
      go_enter Try.func23, Try.ntmps23
      go_wp2_with fail
      rw [← HS.out]
      refine HO.out.mono ?_
      rintro e w1 ⟨p, rfl, hB, hp⟩
      obtain ⟨g, bm, oa, oc, rfl, hd⟩ := hp rfl
      have HB1 := hid (bstep HB0.out hB)
      have kc := hd.kC
      have o1 := hd.ok; have p1 := hd.part
      have HL := hid (list_c st.known w1 hd.len)
      unfold OwnP at HL
      obtain ⟨V, hV⟩ : ∃ V, V = (intv st.known).toArray := ⟨_, rfl⟩
      rw [← hV] at HL p1
      have hlen : (listM st.known).length ≤ 12 := selTo_length _ _
      rw [← HL0.out] at HL hlen
      have HLn := hid hlen
      clear hB hp hd hV hlen
      go_wp2_with fail
      refine HL.out.mono ?_
      rintro e w2 ⟨ao, cap, rfl, hat, hn, hB⟩
      have HB2 := hid (bstep HB1.out hB)
      have hmk := fun w => run_make_ints w l.length l.length (Nat.le_refl _) (by have := HLn.out; omega)
      have hcp := fun ty => run_copy_new ty w2 ao cap l (List.replicate l.length 0) hat (by simp)
      clear hB hat hn
      go_wp2
      go_ret2
      exact ⟨_, _, rfl, intsAt_new w2 l _ 3 rfl, (fun h => by cases h), bstep HB2.out (bnew w2 _)⟩
  · rw [if_neg hz, if_neg hz]
    have hcb := errB hz
    clear hc hz hW0 c0 c1 c2
    generalize caseErr facts seen rs = c at *
    go_enter Try.func23, Try.ntmps23
    go_wp2_with fail
    rw [← HS.out]
    refine HO.out.mono ?_
    rintro e w1 ⟨p, rfl, hB, hp⟩
    have HB1 := hid (bstep HB0.out hB)
    clear hB hp
    go_wp2
    go_ret2
    exact ⟨none, 0, rfl, IntsAt.nil _ _, fun _ => rfl, HB1.out⟩

end Go.Proofs.Ytkioejdddmnbmaa
