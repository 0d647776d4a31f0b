/- Walks: seeing, some, fewest. Walks: IndexFunc (the index), DeleteFunc; the functions that Needed and Wrong hand on. Walks: Needed, Wrong of the program. -/
import Derived.Test.YtkioejdddmnbmaaGf
import Derived.Deep.RegionHeld3
namespace Go.Proofs.Ytkioejdddmnbmaa
open Go.RowKit Go.Shelf
attribute [local go_sem ↓] wp_get wp_get0 wp_getS wp78 wps78 wpa78

set_option maxRecDepth 100000 in
set_option maxHeartbeats 4000000 in
theorem seeing_c (g : Nat) (facts : Int) (ra : Option Addr) (rc : Nat) (rs : List Rl) (la : Option Addr) (lc : Nat) (l : List Int) (w : World) (k0 : w.cell? ⟨g, 0, none⟩ = some (.int .i64 facts)) (k2 : w.cell? ⟨g, 2, none⟩ = some (.slice ra rs.length rc))
    (hr : RulesAt w ra rs) (hro : rulesOk rs) (hrl : rs.length ≤ 1000000) (hl : IntsAt w la l) (hlf : factsOk l) (hll : l.length ≤ 1000000) :
    Calls Try.prog 77 #[.pointer (some ⟨g, 0, none⟩), .slice la l.length lc] w (DeskP w (.int .i64 facts) (.slice la l.length lc) (.slice ra rs.length rc) (deskOf l rs)) := by
  have HN := hid fun (w' : World) (h : Below w.heap.size w w') => newDesk_c facts la lc l ra rc rs w' (hl.mono h) hll hlf (hr.mono h) hro hrl
  unfold DeskP at HN ⊢
  clear hr hro hl hlf
  go_enter Try.func77, Try.ntmps77
  go_upto_region 1 with (fail)
  go_region_with (go_at_call 70; (with_reducible refine (HN.out _ (by first | exact Below.refl _ _ | exact (Below.refl _ _).drew)).mono ?_); rintro e w1 ⟨g2, bm2, oa2, oc2, rfl, hd, hB⟩; have hBl : Below w.heap.size w w1 := by first | exact hB | exact ((Below.refl _ _).drew).trans hB)
  all_goals (
    go_wp2
    go_ret
    exact ⟨g2, bm2, oa2, oc2, rfl, hd, hBl⟩)

/-- the first list of so many more numbers out of a list that is good -/
def sm (good : List Int → Bool) : List Int → Nat → List Int → Option (List Int)
  | [], 0, b => if good b = true then some b else none
  | _ :: _, 0, b => if good b = true then some b else none
  | [], _ + 1, _ => none
  | x :: t, r + 1, b => match sm good t r (b ++ [x]) with
    | some l => some l
    | none => sm good t (r + 1) b
theorem sm_zero (good : List Int → Bool) (t b : List Int) : sm good t 0 b = if good b = true then some b else none := by cases t <;> rfl

def SomeP (w : World) (R : Option (List Int)) (e : Ending) (w' : World) : Prop :=
  ∃ ao n cap, e = .returned (.tuple #[.slice ao n cap, .bool R.isSome]) ∧ Below w.heap.size w w' ∧ ∀ L, R = some L → n = L.length ∧ IntsAt w' ao L ∧ (ao = none → cap = 0) ∧ n ≤ cap

/-- what a function that judges lists answers -/
def GoodC (w0 : World) (gf : Nat) (caps : Array Value) (good : List Int → Bool) : Prop :=
  ∀ (a : Option Addr) (c : Nat) (l : List Int) (w' : World), Below w0.heap.size w0 w' → IntsAt w' a l → (a = none → c = 0) → l.length ≤ c → factsOk l → l.length ≤ 100 → Calls Try.prog gf (#[.slice a l.length c] ++ caps) w' (TellB w' (good l))

set_option maxRecDepth 100000 in
set_option maxHeartbeats 4000000 in
theorem some_c (g : Nat) (sa : Option Addr) (sc : Nat) (seen : List Int) (gf : Nat) (caps : Array Value) (good : List Int → Bool) (w0 : World) (hg : GoodC w0 gf caps good) (eg : ∀ args w, (callFunc gf args).run Try.prog w = .ok (.enter gf args) w)
    (hs : IntsAt w0 sa seen) (hsf : factsOk seen) (hsl : seen.length ≤ 50) (k1 : w0.cell? ⟨g, 1, none⟩ = some (.slice sa seen.length sc)) :
    ∀ (d fr : Nat), fr + d = seen.length → ∀ (a : Option Addr) (c : Nat) (b : List Int) (many : Nat) (w : World), Below w0.heap.size w0 w → IntsAt w a b → (a = none → c = 0) → b.length ≤ c → factsOk b → b.length ≤ fr → b.length ≤ many → many ≤ 100 →
      Calls Try.prog 97 #[.pointer (some ⟨g, 0, none⟩), .slice a b.length c, .int .i64 fr, .int .i64 many, .func (.func gf) #[] caps] w (SomeP w (sm good (seen.drop fr) (many - b.length) b)) := by
  intro d
  induction d using Nat.strongRecOn with
  | _ d ih =>
  intro fr hfd a c b many w hB0 hb hbn hbc hbf hbfr hbm hm
  have HB0 := hid hB0; have Hb := hid hb; have Hbn := hid hbn; have Hbf := hid hbf; have Hih := hid ih; have Hs := hid hs; have Hsf := hid hsf
  clear hB0 hb hbn hbf ih hs hsf
  by_cases he : b.length = many
  · have HG := hid (hg a c b w HB0.out Hb.out Hbn.out hbc Hbf.out (by omega))
    rw [show many - b.length = 0 from by omega, sm_zero]
    unfold TellB at HG
    have heb : ((b.length : Int) == (many : Int)) = true := by simp [he]
    obtain ⟨v, hv⟩ : ∃ v, v = good b := ⟨_, rfl⟩
    rw [← hv] at HG ⊢
    have Hbl := hid hbc
    obtain ⟨n, hn⟩ : ∃ n, n = b.length := ⟨_, rfl⟩
    rw [← hn] at HG heb hbc ⊢
    have Hn := hid hn
    clear he hn hv hbfr hbm k1 hg
    cases v with
    | true =>
      rw [if_pos rfl]
      go_enter Try.func97, Try.ntmps97
      go_wp2_with fail
      refine HG.out.mono ?_
      rintro e w1 ⟨rfl, hB⟩
      have HB1 := hid hB
      clear hB
      go_wp2
      go_ret2
      exact ⟨a, n, c, rfl, HB1.out, fun L h => by cases h; exact ⟨Hn.out, Hb.out.mono HB1.out, Hbn.out, hbc⟩⟩
    | false =>
      rw [if_neg (by simp)]
      go_enter Try.func97, Try.ntmps97
      go_wp2_with fail
      refine HG.out.mono ?_
      rintro e w1 ⟨rfl, hB⟩
      have HB1 := hid hB
      clear hB
      go_wp2
      go_ret2
      exact ⟨a, n, c, rfl, HB1.out, fun L h => by cases h⟩
  · have heb : ((b.length : Int) == (many : Int)) = false := by simp; omega
    obtain ⟨r, hr⟩ : ∃ r, many - b.length = r + 1 := ⟨many - b.length - 1, by omega⟩
    obtain ⟨R, hR⟩ : ∃ R, R = sm good (seen.drop fr) (many - b.length) b := ⟨_, rfl⟩
    rw [← hR]
    rw [hr] at hR
    have HR := hid hR; have Hr := hid hr; have Hk1 := hid k1
    have hbfr' : b.length ≤ 50 := by omega
    have hfr50 : fr ≤ 50 := by omega
    clear hR hr he k1
    go_enter Try.func97, Try.ntmps97
    go_wp2
    go_loopw [12] (fun i wr => ∃ k : Nat, fr ≤ k ∧ k ≤ seen.length ∧ i = .int .i64 k ∧ sm good (seen.drop k) (r + 1) b = R ∧ Below w.heap.size w wr) (fun i _ => seen.length - (intOf i).toNat)
    case atStart => exact ⟨fr, Nat.le_refl _, by omega, rfl, HR.out.symm, Below.refl _ _⟩
    case round =>
      obtain ⟨k, hfk, hk, rfl, hgo, hB⟩ := hrel
      obtain ⟨wo, rfl⟩ : ∃ wo : World, wo = wr := ⟨_, rfl⟩
      have HB := hid hB; have HBt := hid (bstep HB0.out hB)
      have d1 := cstep Hk1.out HBt.out
      clear hB
      by_cases hlt : k < seen.length
      · obtain ⟨bs, off, rfl, hcc⟩ := (Hs.out.mono HBt.out).at hlt
        obtain ⟨f0, f1⟩ := Hsf.out k hlt
        have hgo1 : sm good (seen.drop k) (r + 1) b = match sm good (seen.drop (k + 1)) r (b ++ [nth seen k]) with | some l => some l | none => sm good (seen.drop (k + 1)) (r + 1) b := by rw [drop_nth hlt]; rfl
        obtain ⟨x, hx⟩ : ∃ x, x = nth seen k := ⟨_, rfl⟩
        rw [← hx] at hcc hgo1 f0 f1
        have hlb : (b ++ [x]).length = b.length + 1 := by simp
        have HC := hid fun (a' : Option Addr) (c' : Nat) (w' : World) (h : Below w0.heap.size w0 w') (hat : IntsAt w' a' (b ++ [x])) (hn : a' = none → c' = 0) (hcp : b.length + 1 ≤ c') => Hih.out (seen.length - (k + 1)) (by omega) (k + 1) (by omega) a' c' (b ++ [x]) many w' h hat hn (by rw [hlb]; exact hcp) (factsOk_append Hbf.out (factsOk_one f0 f1)) (by rw [hlb]; omega) (by rw [hlb]; have := Hr.out; omega) hm
        rw [hlb, show many - (b.length + 1) = r from by have := Hr.out; omega, show (((k + 1 : Nat)) : Int) = (k : Int) + 1 from by omega] at HC
        obtain ⟨q, hq⟩ : ∃ q, q = sm good (seen.drop (k + 1)) r (b ++ [x]) := ⟨_, rfl⟩
        rw [← hq] at hgo1 HC
        have hgo2 := hgo.symm.trans hgo1
        have Hgo := hid hgo2; have Hhlb := hid hlb
        clear hx hgo hgo1 hgo2 hq hlb
        unfold SomeP at HC
        go_upto_region 6 with (fail)
        go_cut [13, 14] (fun s t wc => ∃ ao n cap, s = .slice ao n cap ∧ t = .bool q.isSome ∧ Below wo.heap.size wo wc ∧ ∀ L, q = some L → n = L.length ∧ IntsAt wc ao L ∧ (ao = none → cap = 0) ∧ n ≤ cap)
        case first =>
          have HBo := hid (Hb.out.mono HB.out)
          have hwr : IntKind.i64.wrap ((k : Int) + 1) = (k : Int) + 1 := by have h := wrap_i64_nat (a := k + 1) (by omega); simpa using h
          go_region_held3 (fun w' => w'.cell? ⟨g, 1, none⟩ = some (.slice (some ⟨bs, off, none⟩) seen.length sc) ∧ w'.cell? ⟨bs, off + k, none⟩ = some (.int .i64 x)) (first | go_keep | exact ⟨cstep d1 hBl, cstep hcc hBl⟩ | exact ⟨cstep d1 (bstep hBl hB5), cstep hcc (bstep hBl hB5)⟩)
            (first
              | (refine step_app_full1 _ (by rfl) _ _ (by rfl) a b.length b.length b (by rfl) (by rfl) (by first | exact HBo.out.mono (bnew _ _) | exact HBo.out.mono (bnew _ _).drew | exact (HBo.out.mono (Below.refl _ _).drew).mono (bnew _ _)) (fun h => by have h0 := Hbn.out h; omega) _ x (by rfl) (by simp [go_sem]) (by omega) (by omega) ?_; intro b' cap' w' hB' hb' hat' hcap'; have hBl : Below wo.heap.size wo w' := by first | exact bstep (bnew _ _) hB' | exact bstep (bnew _ _).drew hB' | exact bstep ((Below.refl _ _).drew) (bstep (bnew _ _) hB'))
              | (go_at_call 97; (with_reducible refine (HC.out (some ⟨b', 0, none⟩) cap' _ (bstep HBt.out hBl) hat' (fun h => by cases h) hcap').mono ?_); rintro e w5 ⟨ao, n, cap, rfl, hB5, hL5⟩))
          all_goals (
            go_wp2
            go_meet
            exact ⟨ao, n, cap, rfl, rfl, bstep hBl hB5, hL5⟩)
        case rest =>
          obtain ⟨ao, n, cap, rfl, rfl, hB5, hL5⟩ := hcut
          have HB5 := hid (bstep HB.out hB5); have HL5 := hid hL5
          clear hB5 hL5 d1 hcc
          cases q with
          | some L0 =>
            have hR : R = some L0 := Hgo.out
            subst hR
            go_wp2
            go_ret2
            exact ⟨ao, n, cap, rfl, HB5.out, HL5.out⟩
          | none =>
            have hR : R = sm good (seen.drop (k + 1)) (r + 1) b := Hgo.out
            have HR2 := hid hR.symm
            clear hR Hgo HL5
            go_wp2
            go_roundw
            case rel => exact ⟨k + 1, by omega, by omega, by go_num, HR2.out, HB5.out⟩
            case measure => simp [intOf]; omega
      · obtain rfl : k = seen.length := by omega
        rw [List.drop_length] at hgo
        have hRn : R = none := hgo.symm
        subst hRn
        clear hgo
        go_wp2
        go_ret2
        exact ⟨none, 0, 0, rfl, HB.out, fun L h => by cases h⟩

/-- the first of the shortest lists out of a list that is good, from so many numbers on -/
def fwFrom (good : List Int → Bool) (seen : List Int) : Nat → Nat → Option (List Int)
  | _, 0 => none
  | m, d + 1 => match sm good seen m [] with
    | some l => some l
    | none => fwFrom good seen (m + 1) d
def fewM (good : List Int → Bool) (seen : List Int) : Option (List Int) := fwFrom good seen 0 (seen.length + 1)

set_option maxRecDepth 100000 in
set_option maxHeartbeats 4000000 in
theorem fewest_c (g : Nat) (sa : Option Addr) (sc : Nat) (seen : List Int) (gf : Nat) (caps : Array Value) (good : List Int → Bool) (w0 : World) (hg : GoodC w0 gf caps good) (eg : ∀ args w, (callFunc gf args).run Try.prog w = .ok (.enter gf args) w)
    (hs : IntsAt w0 sa seen) (hsf : factsOk seen) (hsl : seen.length ≤ 50) (k1 : w0.cell? ⟨g, 1, none⟩ = some (.slice sa seen.length sc)) :
    Calls Try.prog 75 #[.pointer (some ⟨g, 0, none⟩), .func (.func gf) #[] caps] w0 (SomeP w0 (fewM good seen)) := by
  have HC := hid fun (m : Nat) (hm : m ≤ 100) (w' : World) (h : Below w0.heap.size w0 w') => some_c g sa sc seen gf caps good w0 hg eg hs hsf hsl k1 seen.length 0 (by omega) none 0 [] m w' h (IntsAt.nil _ _) (fun _ => rfl) (Nat.le_refl _) (fun k hk => by cases hk) (Nat.le_refl _) (Nat.zero_le _) hm
  obtain ⟨R, hR⟩ : ∃ R, R = fewM good seen := ⟨_, rfl⟩
  rw [← hR]
  have HR := hid hR
  have Hk1 := hid k1
  clear hg hs hsf hR
  go_enter Try.func75, Try.ntmps75
  go_wp2
  clear k1
  go_loopw [16] (fun i wr => ∃ k : Nat, k ≤ seen.length + 1 ∧ i = .int .i64 k ∧ fwFrom good seen k (seen.length + 1 - k) = R ∧ Below w0.heap.size w0 wr) (fun i _ => seen.length + 1 - (intOf i).toNat)
  case atStart => exact ⟨0, Nat.zero_le _, rfl, HR.out.symm, Below.refl _ _⟩
  case round =>
    obtain ⟨k, hk, rfl, hgo, hB⟩ := hrel
    obtain ⟨wo, rfl⟩ : ∃ wo : World, wo = wr := ⟨_, rfl⟩
    have HB := hid hB
    clear hB
    by_cases hlt : k < seen.length + 1
    · have hgo1 : fwFrom good seen k (seen.length + 1 - k) = match sm good seen k [] with | some l => some l | none => fwFrom good seen (k + 1) (seen.length - k) := by
        rw [show seen.length + 1 - k = (seen.length - k) + 1 from by omega]; rfl
      have HCk := hid (HC.out k (by omega) wo HB.out)
      unfold SomeP at HCk
      rw [show k - ([] : List Int).length = k from rfl, List.drop_zero, show ([] : List Int).length = 0 from rfl, show ((0 : Nat) : Int) = 0 from rfl] at HCk
      obtain ⟨q, hq⟩ : ∃ q, q = sm good seen k [] := ⟨_, rfl⟩
      rw [← hq] at hgo1 HCk
      have hgo2 := hgo.symm.trans hgo1
      have Hgo := hid hgo2
      clear hgo hgo1 hgo2 hq
      cases q with
      | some L0 =>
        have hR : R = some L0 := Hgo.out
        subst hR
        go_wp2_with fail
        refine HCk.out.mono ?_
        rintro e w1 ⟨ao, n, cap, rfl, hB5, hL5⟩
        have HB5 := hid (bstep HB.out hB5); have HL5 := hid hL5
        clear hB5 hL5
        go_wp2
        go_ret2
        exact ⟨ao, n, cap, rfl, HB5.out, HL5.out⟩
      | none =>
        have hR : R = fwFrom good seen (k + 1) (seen.length - k) := Hgo.out
        have HR2 := hid hR.symm
        clear hR Hgo
        go_wp2_with fail
        refine HCk.out.mono ?_
        rintro e w1 ⟨ao, n, cap, rfl, hB5, hL5⟩
        have HB5 := hid (bstep HB.out hB5)
        clear hB5 hL5
        go_wp2
        go_roundw
        case rel => exact ⟨k + 1, by omega, by go_num, by rw [show seen.length + 1 - (k + 1) = seen.length - k from by omega]; exact HR2.out, HB5.out⟩
        case measure => simp [intOf]; omega
    · obtain rfl : k = seen.length + 1 := by omega
      rw [Nat.sub_self] at hgo
      have hRn : R = none := hgo.symm
      subst hRn
      clear hgo
      go_wp2
      go_ret2
      exact ⟨none, 0, 0, rfl, HB.out, fun L h => by cases h⟩

end Go.Proofs.Ytkioejdddmnbmaa

namespace Go.Proofs.Ytkioejdddmnbmaa
open Go.RowKit Go.Shelf
attribute [local go_sem ↓] wp_get wp_get0 wp_getS wp78 wps78 wpa78

def IdxP (p : Int → Bool) (xs : List Int) (w : World) (e : Ending) (w' : World) : Prop :=
  ∃ i : Int, e = .returned (.int .i64 i) ∧ ((i = -1 ∧ xs.any p = false) ∨ ∃ k : Nat, i = k ∧ k < xs.length ∧ p (nth xs k) = true ∧ (xs.take k).any p = false) ∧ w = w'

set_option maxHeartbeats 400000 in
theorem indexFuncI_c (a : Option Addr) (cap g : Nat) (caps : Array Value) (p : Int → Bool) (xs : List Int) (w : World) (hx : IntsAt w a xs) (hb : xs.length ≤ 1000000)
    (hg : ∀ k, k < xs.length → Calls Try.prog g (#[.int .i64 (nth xs k)] ++ caps) w fun e w' => e = .returned (.bool (p (nth xs k))) ∧ w = w')
    (eg : ∀ args w, (callFunc g args).run Try.prog w = .ok (.enter g args) w) :
    Calls Try.prog 98 #[.slice a xs.length cap, .func (.func g) #[] caps] w (IdxP p xs w) := by
  go_enter Try.func98, Try.ntmps98
  go_wp2
  go_loop [5, 8] (fun _ i => ∃ k : Nat, k ≤ xs.length ∧ i = .int .i64 k ∧ (xs.take k).any p = false) (fun _ i => xs.length - (intOf i).toNat)
  case atStart => exact ⟨0, Nat.zero_le _, rfl, rfl⟩
  case round =>
    obtain ⟨k, hk, rfl, hp⟩ := hrel
    have Hp := hid hp; clear hp
    by_cases hlt : k < xs.length
    · obtain ⟨b, off, rfl, hc⟩ := hx.at hlt
      have Ht := hid (any_take_succ p hlt)
      have Hx := hid hx; clear hx
      have Hg := hid hg; clear hg
      cases hpk : p (nth xs k) with
      | false =>
        have Hpk := hid hpk; clear hpk
        go_wp2_with fail
        refine (Hg.out k hlt).mono ?_
        rintro e w' ⟨rfl, rfl⟩
        rw [Hpk.out]
        go_wp2
        go_round
        case rel => exact ⟨k + 1, by omega, by go_num, by rw [Ht.out, Hp.out, Hpk.out]; rfl⟩
        case measure => simp [intOf]; omega
      | true =>
        have Hpk := hid hpk; clear hpk
        go_wp2_with fail
        refine (Hg.out k hlt).mono ?_
        rintro e w' ⟨rfl, rfl⟩
        rw [Hpk.out]
        go_wp2
        go_ret
        exact ⟨k, rfl, .inr ⟨k, rfl, hlt, Hpk.out, Hp.out⟩, rfl⟩
    · go_wp2
      go_ret
      refine ⟨-1, rfl, .inl ⟨rfl, ?_⟩, rfl⟩
      have hp := Hp.out
      rw [List.take_of_length_le (by omega)] at hp
      exact hp

/-- a row of ints, with room -/
def RowL (w : World) (g cap : Nat) (L : List Int) : Prop := ∃ cur : List Value, w.heap[g]? = some (.cells cur.toArray 3 (0, 0)) ∧ cur.length = cap ∧ cur.take L.length = intv L ∧ L.length ≤ cap
theorem RowL.cell {w : World} {g cap : Nat} {L : List Int} (h : RowL w g cap L) {j : Nat} (hj : j < L.length) : w.cell? ⟨g, j, none⟩ = some (.int .i64 (nth L j)) := by
  obtain ⟨cur, h1, h2, h3, h4⟩ := h
  rw [cell_of_row _ _ _ _ _ _ h1, List.getElem?_toArray]
  have := congrArg (fun l => l[j]?) h3
  simp only [List.getElem?_take, hj, if_true] at this
  rw [this, intv_get, if_pos hj]
theorem RowL.fr {w : World} {g cap : Nat} {L : List Int} (h : RowL w g cap L) (j : Nat) : w.frozen? ⟨g, j, none⟩ = false := by
  obtain ⟨cur, h1, _⟩ := h; exact frozen_of_row _ _ _ _ _ h1
theorem RowL.set {w : World} {g cap : Nat} {L : List Int} (h : RowL w g cap L) {i : Nat} (_hi : i < L.length) (v : Int) : RowL (w.setCell ⟨g, i, none⟩ (.int .i64 v)) g cap (L.set i v) := by
  obtain ⟨cur, h1, h2, h3, h4⟩ := h
  refine ⟨cur.set i (.int .i64 v), ?_, by rw [List.length_set]; exact h2, ?_, by rw [List.length_set]; exact h4⟩
  · rw [heap_setCell_same w g i _ 3 _ h1]; exact cellsSet rfl
  · rw [List.length_set, List.take_set, h3]; unfold intv; rw [List.map_set]
theorem RowL.at {w : World} {g cap : Nat} {L : List Int} (h : RowL w g cap L) : IntsAt w (some ⟨g, 0, none⟩) L := .inr ⟨g, 0, rfl, fun j hj => by rw [Nat.zero_add]; exact h.cell hj⟩
theorem RowL.of_own {B : Nat} {w : World} {a : Addr} {n cap : Nat} {xs : List Int} (h : OwnI B w (some a) n cap xs) : ∃ g, a = ⟨g, 0, none⟩ ∧ B ≤ g ∧ RowL w g cap xs := by
  obtain ⟨hn, (⟨e2, _⟩ | ⟨g', c, cur, e2, hge, hh, hc, hm, hs, ht⟩)⟩ := h.2
  · cases e2
  · cases e2
    refine ⟨g', rfl, hge, cur.toList, by simpa using hh, by simpa using hs, ?_, by rw [h.1]; exact hc⟩
    rw [h.1]; simpa using ht

def DelP (B : Nat) (w : World) (L : List Int) (e : Ending) (w' : World) : Prop :=
  ∃ ao cap, e = .returned (.slice ao L.length cap) ∧ IntsAt w' ao L ∧ (ao = none → cap = 0) ∧ Below B w w'

theorem filter_take_succ (p : Int → Bool) {xs : List Int} {k : Nat} (h : k < xs.length) : (xs.take (k + 1)).filter p = (xs.take k).filter p ++ if p (nth xs k) = true then [nth xs k] else [] := by
  rw [take_succ_nth h, List.filter_append]
  congr 1
  cases hp : p (nth xs k) <;> simp [hp]

set_option maxRecDepth 100000 in
set_option maxHeartbeats 4000000 in
theorem deleteFunc_c (B : Nat) (ao : Option Addr) (cap gf : Nat) (caps : Array Value) (p : Int → Bool) (xs : List Int) (w : World) (hown : OwnI B w ao xs.length cap xs) (hb : xs.length ≤ 1000) (hB : B ≤ w.heap.size)
    (hg : ∀ k, k < xs.length → ∀ w', Below B w w' → Calls Try.prog gf (#[.int .i64 (nth xs k)] ++ caps) w' fun e w'' => e = .returned (.bool (p (nth xs k))) ∧ w' = w'')
    (eg : ∀ args w, (callFunc gf args).run Try.prog w = .ok (.enter gf args) w) :
    Calls Try.prog 80 #[.slice ao xs.length cap, .func (.func gf) #[] caps] w (DelP B w (xs.filter fun x => !p x)) := by
  have HI := hid (indexFuncI_c ao cap gf caps p xs w hown.at (by omega) (fun k hk => hg k hk w (Below.refl _ _)) eg)
  have Hg := hid hg; have Hown := hid hown
  obtain ⟨F, hF⟩ : ∃ F, F = xs.filter fun x => !p x := ⟨_, rfl⟩
  rw [← hF]
  have HF := hid hF
  clear hg hown hF
  go_enter Try.func80, Try.ntmps80
  go_wp2_with fail
  refine HI.out.mono ?_
  rintro e w1 ⟨i, rfl, hi, rfl⟩
  rcases hi with ⟨rfl, hany⟩ | ⟨k0, rfl, hk0, hpk, hany⟩
  · have hFe : F = xs := by
      rw [HF.out]
      refine List.filter_eq_self.2 (fun x hx => ?_)
      have := List.any_eq_false.1 hany x hx
      simpa using this
    subst hFe
    go_wp2
    go_ret
    exact ⟨ao, cap, rfl, Hown.out.at, fun h => (Hown.out.none h).2, Below.refl _ _⟩
  · cases ao with
    | none => have := (Hown.out.none rfl).1; omega
    | some a0 =>
      obtain ⟨g, rfl, hge, hrow⟩ := RowL.of_own Hown.out
      have Hrow := hid hrow
      have hF0 : (xs.take (k0 + 1)).filter (fun x => !p x) = xs.take k0 := by
        rw [filter_take_succ _ hk0, hpk]
        simp only [Bool.not_true, Bool.false_eq_true, if_false, List.append_nil]
        refine List.filter_eq_self.2 (fun x hx => ?_)
        have := List.any_eq_false.1 hany x hx
        simpa using this
      have HF0 := hid hF0
      have hcapx := ownI_cap Hown.out
      have hk0n : ((k0 : Int) == -1) = false := by rw [beq_eq_false_iff_ne]; omega
      clear hrow hF0 hpk hany
      go_wp2
      go_loopw [5, 6] (fun i j wr => ∃ (q m : Nat) (L : List Int), i = .int .i64 m ∧ j = .int .i64 q ∧ q ≤ xs.length ∧ m < q ∧ L.length = xs.length ∧ RowL wr g cap L ∧ L.take m = (xs.take q).filter (fun x => !p x) ∧ L.drop q = xs.drop q ∧ Only (fun b => b = g) w wr) (fun _ j _ => xs.length - (intOf j).toNat)
      case atStart => exact ⟨k0 + 1, k0, xs, rfl, by go_num, hk0, Nat.lt_succ_self _, rfl, Hrow.out, HF0.out.symm, rfl, Only.refl _ _⟩
      case round =>
        obtain ⟨q, m, L, rfl, rfl, hq, hmq, hLl, hrw, htk, hdr, hO⟩ := hrel
        obtain ⟨wo, rfl⟩ : ∃ wo : World, wo = wr := ⟨_, rfl⟩
        have Hrw := hid hrw; have Htk := hid htk; have Hdr := hid hdr; have HO := hid hO; have HLl := hid hLl
        clear hrw htk hdr hO hLl
        by_cases hlt : q < xs.length
        · have hLq : nth L q = nth xs q := by
            have h1 := congrArg (fun l => nth l 0) Hdr.out
            simpa [nth_drop] using h1
          have hcq := Hrw.out.cell (j := q) (by rw [HLl.out]; exact hlt)
          rw [hLq] at hcq
          have hcm := Hrw.out.cell (j := m) (by rw [HLl.out]; omega)
          have hfm := Hrw.out.fr m
          have HG := hid (Hg.out q hlt wo (HO.out.below hB (by intro j hj e; have e' : j = g := e; omega)))
          have ht := filter_take_succ (fun x => !p x) hlt
          have hdr2 : L.drop (q + 1) = xs.drop (q + 1) := by rw [Nat.add_comm, ← List.drop_drop, ← List.drop_drop, List.drop_drop, List.drop_drop]; have := congrArg (fun l => l.drop 1) Hdr.out; simpa [List.drop_drop, Nat.add_comm] using this
          have Hdr2 := hid hdr2; have HLq := hid hLq
          obtain ⟨x, hx⟩ : ∃ x, x = nth xs q := ⟨_, rfl⟩
          rw [← hx] at hcq HG ht
          have Hx := hid hx
          clear hdr2 hLq hx
          cases hp : p x with
          | true =>
            rw [hp] at HG
            simp only [hp, Bool.not_true, Bool.false_eq_true, if_false, List.append_nil] at ht
            have Ht := hid ht
            clear ht hp
            go_wp2_with fail
            refine HG.out.mono ?_
            rintro e w2 ⟨rfl, rfl⟩
            go_wp2
            go_roundw
            case rel => exact ⟨q + 1, m, L, rfl, by go_num, hlt, by omega, HLl.out, Hrw.out, by rw [Ht.out]; exact Htk.out, Hdr2.out, HO.out⟩
            case measure => simp [intOf]; omega
          | false =>
            rw [hp] at HG
            simp only [hp, Bool.not_false, if_true] at ht
            have Ht := hid ht
            clear ht hp
            go_wp2_with fail
            refine HG.out.mono ?_
            rintro e w2 ⟨rfl, rfl⟩
            go_wp2
            have hset := Hrw.out.set (i := m) (by rw [HLl.out]; omega) x
            have hO2 := HO.out.trans (setCell_only (w := wo) g m (.int .i64 x))
            have htk2 : (L.set m x).take (m + 1) = (xs.take (q + 1)).filter (fun x => !p x) := by
              rw [Ht.out, ← Htk.out, take_succ_nth (by rw [List.length_set, HLl.out]; omega)]
              congr 1
              · exact List.take_set_of_le (Nat.le_refl m)
              · rw [nth_set, if_pos ⟨rfl, by rw [HLl.out]; omega⟩]
            have hdr3 : (L.set m x).drop (q + 1) = xs.drop (q + 1) := by
              rw [List.drop_set_of_lt (by omega)]; exact Hdr2.out
            go_roundw
            case rel => exact ⟨q + 1, m + 1, L.set m x, by go_num, by go_num, hlt, by omega, by rw [List.length_set]; exact HLl.out, hset, htk2, hdr3, hO2⟩
            case measure => simp [intOf]; omega
        · obtain rfl : q = xs.length := by omega
          have htk := Htk.out
          rw [List.take_length, ← HF.out] at htk
          obtain ⟨cur, h1, h2, h3, h4⟩ := Hrw.out
          have Htk2 := hid htk
          have hml : m ≤ cap := by omega
          have hmlI : (m : Int) ≤ (xs.length : Int) := by omega
          clear htk
          go_wp2_with (refine wpList_clear_ints _ rfl _ rfl g m (xs.length - m) (cap - m) rfl 3 cur h1 ?e1 ?e2; rotate_right; (intro w3 hh3 hO3; refine Hid.out ?_))
          case e1 => omega
          case e2 =>
            refine hid ?_
            have hat3 : IntsAt w3 (some ⟨g, 0, none⟩) F := by
              refine .inr ⟨g, 0, rfl, fun j hj => ?_⟩
              have hjm : j < m := by rw [← Htk2.out, List.length_take] at hj; omega
              have hjL : j < L.length := by rw [HLl.out]; omega
              rw [Nat.zero_add, cell_of_row _ _ _ _ _ _ hh3, List.getElem?_toArray, List.getElem?_append_left (by rw [List.length_take]; omega), List.getElem?_take, if_pos hjm]
              have hL := congrArg (fun l => l[j]?) h3
              simp only [List.getElem?_take, hjL, if_true] at hL
              rw [hL, intv_get, if_pos hjL, ← Htk2.out, nth_take hjm]
            have hFl : F.length = m := by rw [← Htk2.out, List.length_take, HLl.out]; omega
            have hOf := HO.out.trans hO3
            have Hat3 := hid hat3; have HFl := hid hFl; have HOf := hid hOf
            clear hh3 hO3 hat3 hFl hOf h1 h3
            go_wp2
            go_ret
            exact ⟨some ⟨g, 0, none⟩, cap, by rw [HFl.out]; rfl, Hat3.out, (fun h => by cases h), HOf.out.below hB (by intro j hj e; have e' : j = g := e; omega)⟩

set_option maxRecDepth 100000 in
theorem wrong11_c (bx : Nat) (a : Option Addr) (c : Nat) (l : List Int) (n : Int) (w : World) (hc : w.cell? ⟨bx, 0, none⟩ = some (.slice a l.length c)) (hl : IntsAt w a l) (hll : l.length ≤ 1000000) :
    Calls Try.prog 81 #[.int .i64 n, .pointer (some ⟨bx, 0, none⟩)] w fun e w' => e = .returned (.bool (l.any (fun x => n == x))) ∧ w = w' := by
  have H := hid (contains_c a c l n w hl hll)
  clear hl
  generalize l.any (fun x => n == x) = v at *
  go_enter Try.func81, Try.ntmps81
  go_wp2_with fail
  refine H.out.mono ?_
  rintro e w1 ⟨rfl, rfl⟩
  go_wp2
  go_ret
  exact ⟨rfl, rfl⟩
theorem enters81 : ∀ args w, (callFunc 81 args).run Try.prog w = .ok (.enter 81 args) w := enters_of Try.func81 (by kernel_rfl) rfl
theorem enters79 : ∀ args w, (callFunc 79 args).run Try.prog w = .ok (.enter 79 args) w := enters_of Try.func79 (by kernel_rfl) rfl
theorem enters76 : ∀ args w, (callFunc 76 args).run Try.prog w = .ok (.enter 76 args) w := enters_of Try.func76 (by kernel_rfl) rfl

/-- facts that are left without some -/
def leftL (seen l : List Int) : List Int := seen.filter fun x => !l.any (fun y => x == y)
def goodW (seen : List Int) (rs : List Rl) (l : List Int) : Bool := decide ((deskOf (leftL seen l) rs).clash < 0)
def goodN (rs : List Rl) (n : Nat) (l : List Int) : Bool := decide (0 < nth (deskOf l rs).known n)

theorem factsOk_sub {a b : List Int} (h : ∀ x ∈ a, x ∈ b) (hb : factsOk b) : factsOk a := by
  intro k hk
  have := factsOk_mem hb (h _ (nth_mem hk))
  exact this

set_option maxRecDepth 100000 in
set_option maxHeartbeats 4000000 in
theorem wrong1_c (bc bd g : Nat) (facts : Int) (sa : Option Addr) (sc : Nat) (seen : List Int) (ra : Option Addr) (rc : Nat) (rs : List Rl) (w0 : World)
    (c1 : w0.cell? ⟨bc, 1, none⟩ = some (.slice sa seen.length sc)) (d0 : w0.cell? ⟨bd, 0, none⟩ = some (.pointer (some ⟨g, 0, none⟩)))
    (k0 : w0.cell? ⟨g, 0, none⟩ = some (.int .i64 facts)) (k2 : w0.cell? ⟨g, 2, none⟩ = some (.slice ra rs.length rc)) (hs : IntsAt w0 sa seen) (hsn : sa = none → sc = 0) (hsf : factsOk seen) (hsl : seen.length ≤ 50) (hr : RulesAt w0 ra rs) (hro : rulesOk rs) (hrl : rs.length ≤ 1000000) :
    GoodC w0 79 #[.pointer (some ⟨bc, 0, none⟩), .pointer (some ⟨bd, 0, none⟩)] (goodW seen rs) := by
  intro a c l w hB hl hln hlc hlf hll
  obtain ⟨W1, hW1⟩ : ∃ W1, W1 = w.alloc (.cells #[.slice a l.length c] 22) := ⟨_, rfl⟩
  have hb1 : Below w.heap.size w W1 := by rw [hW1]; exact bnew w _
  have hx1 : W1.cell? ⟨w.heap.size, 0, none⟩ = some (.slice a l.length c) := by rw [hW1]; simp [go_sem]
  have HBB := hid (bstep hB hb1); have Hb1 := hid hb1; have Hx1 := hid hx1
  have HC := hid (clone_c sa sc seen W1 (hs.mono HBB.out) (by omega) hsn)
  have HS := hid fun (a' : Option Addr) (c' : Nat) (w' : World) (h : Below w0.heap.size w0 w') (hat : IntsAt w' a' (leftL seen l)) => seeing_c g facts ra rc rs a' c' (leftL seen l) w' (cstep k0 h) (cstep k2 h) (hr.mono h) hro hrl hat (factsOk_sub (fun x hx => (List.mem_filter.1 hx).1) hsf) (by have := List.length_filter_le (fun x => !l.any (fun y => x == y)) seen; unfold leftL; omega)
  have HD := hid fun (a' : Option Addr) (c' : Nat) (w' : World) (hBx : Below W1.heap.size W1 w') (hown : OwnI W1.heap.size w' a' seen.length c' seen) => deleteFunc_c W1.heap.size a' c' 81 #[.pointer (some ⟨w.heap.size, 0, none⟩)] (fun n => l.any (fun x => n == x)) seen w' hown (by omega) hBx.size
    (fun k hk w'' h => by have h2 : Below W1.heap.size W1 w'' := hBx.trans h; exact wrong11_c w.heap.size a c l (nth seen k) w'' (cstep Hx1.out h2) ((hl.mono hb1).mono h2) (by omega)) enters81
  have C1 := hid (cstep c1 HBB.out); have D0 := hid (cstep d0 HBB.out)
  have HW1 := hid hW1
  unfold TellB goodW
  obtain ⟨F, hF⟩ : ∃ F, F = leftL seen l := ⟨_, rfl⟩
  have hFe : (seen.filter fun x => !l.any (fun y => x == y)) = F := by rw [hF]; rfl
  unfold OwnR at HC
  unfold DelP at HD
  unfold DeskP at HS
  rw [hFe] at HD
  rw [← hF] at HS ⊢
  obtain ⟨st, hst⟩ : ∃ st, st = deskOf F rs := ⟨_, rfl⟩
  rw [← hst] at HS ⊢
  clear c1 d0 k0 k2 hs hsn hsf hr hro hrl hl hln hlc hlf hll hb1 hx1 hB hW1 hF hFe hst
  have e1 := C1.out
  rw [HW1.out] at e1
  by_cases hcl : st.clash < 0
  all_goals (
    go_enter Try.func79, Try.ntmps79
    go_wp2_with fail
    rw [← HW1.out]
    refine HC.out.mono ?_
    rintro e w2 ⟨ao, cap, rfl, hown, hB⟩
    have HD2 := hid (HD.out ao cap w2 hB hown)
    have HB2 := hid hB
    clear hB hown e1
    go_wp2_with fail
    refine HD2.out.mono ?_
    rintro e w3 ⟨ao2, cap2, rfl, hat, hn, hB3⟩
    have HB3 := hid (HB2.out.trans hB3)
    have HS2 := hid (HS.out ao2 cap2 w3 (bstep HBB.out HB3.out) hat)
    have d0 := cstep D0.out HB3.out
    clear hB3 hat hn
    go_wp2_with fail
    refine HS2.out.mono ?_
    rintro e w4 ⟨g2, bm2, oa2, oc2, rfl, hd2, hB4⟩
    have kc := hd2.kC
    have HB4 := hid (bstep Hb1.out (bstep HB3.out hB4))
    clear hd2 hB4 d0
    go_wp2
    go_ret
    exact ⟨ret_bool (by first | rfl | exact (decide_eq_true (by omega)).symm | exact (decide_eq_false (by omega)).symm), HB4.out⟩)

set_option maxRecDepth 100000 in
set_option maxHeartbeats 4000000 in
theorem needed1_c (bd bf g n : Nat) (facts : Int) (ra : Option Addr) (rc : Nat) (rs : List Rl) (w0 : World)
    (d0 : w0.cell? ⟨bd, 0, none⟩ = some (.pointer (some ⟨g, 0, none⟩))) (f0 : w0.cell? ⟨bf, 0, none⟩ = some (.int .i64 n)) (hn12 : n < 12)
    (k0 : w0.cell? ⟨g, 0, none⟩ = some (.int .i64 facts)) (k2 : w0.cell? ⟨g, 2, none⟩ = some (.slice ra rs.length rc)) (hr : RulesAt w0 ra rs) (hro : rulesOk rs) (hrl : rs.length ≤ 1000000) :
    GoodC w0 76 #[.pointer (some ⟨bd, 0, none⟩), .pointer (some ⟨bf, 0, none⟩)] (goodN rs n) := by
  intro a c l w hB hl hln hlc hlf hll
  have HS := hid fun (w' : World) (h : Below w.heap.size w w') => seeing_c g facts ra rc rs a c l w' (cstep k0 (bstep hB h)) (cstep k2 (bstep hB h)) (hr.mono (bstep hB h)) hro hrl (hl.mono h) hlf (by omega)
  have D0 := hid (cstep d0 hB); have F0 := hid (cstep f0 hB)
  have e0 := D0.out; have g0 := F0.out
  unfold TellB goodN
  unfold DeskP at HS
  obtain ⟨st, hst⟩ : ∃ st, st = deskOf l rs := ⟨_, rfl⟩
  rw [← hst] at HS ⊢
  clear d0 f0 k0 k2 hr hro hrl hl hln hlc hlf hll hB hst
  have hnI : (n : Int) < 12 := by omega
  obtain ⟨v, hv⟩ : ∃ v, v = nth st.known n := ⟨_, rfl⟩
  rw [← hv]
  have Hv := hid hv
  clear hv
  by_cases hcl : 0 < v
  all_goals (
    go_enter Try.func76, Try.ntmps76
    go_upto_region 1 with (fail)
    refine wp_region_held_drew (S := fun w' => w'.cell? ⟨bd, 0, none⟩ = some (.pointer (some ⟨g, 0, none⟩)) ∧ w'.cell? ⟨bf, 0, none⟩ = some (.int .i64 n)) (by kernel_rfl) ⟨e0, g0⟩ (fun hHeld => ?_)
    refine wpAnyH_take (i := 0) (oi := _) (v := ?_) rfl (by kernel_rfl) (by kernel_rfl) (by kernel_rfl) (fun _ _ _ h => h) (Or.inl ⟨by rfl, ?_⟩) (by assumption) ?_
    rotate_left
    · intro w hSw
      try dsimp only at hSw
      obtain ⟨hS1, hS2⟩ := hSw
      go_simp
      try with_reducible rfl
    try simp only [Act.put, List.setIfInBounds_toArray]
    refine wpAnyH_take (i := 1) (oi := _) (v := ?_) rfl (by kernel_rfl) (by kernel_rfl) (by kernel_rfl) (fun _ _ _ h => h) (Or.inl ⟨by rfl, ?_⟩) (by assumption) ?_
    rotate_left
    · intro w hSw
      try dsimp only at hSw
      obtain ⟨hS1, hS2⟩ := hSw
      go_simp
      try with_reducible rfl
    try simp only [Act.put]
    refine wpAnyH_take (i := 3) (oi := _) (v := ?_) rfl (by kernel_rfl) (by kernel_rfl) (by kernel_rfl) (fun _ _ _ h => h) (Or.inl ⟨by rfl, ?_⟩) (by assumption) ?_
    rotate_left
    · intro w hSw
      try dsimp only at hSw
      obtain ⟨hS1, hS2⟩ := hSw
      go_simp
      try with_reducible rfl
    try simp only [Act.put]
    refine wpAnyH_ready (rs := [2]) (by kernel_rfl) (by simp) ?_
    refine AllReadyH.cons (o := _) rfl (fun K hK => ?_) AllReadyH.nil
    go_simp
    refine (HS.out _ (by first | exact Below.refl _ _ | exact (Below.refl _ _).drew)).mono ?_
    rintro e w3 ⟨g2, bm2, oa2, oc2, rfl, hd2, hB4⟩
    have kk := hd2.kK hn12
    rw [← Hv.out] at kk
    have hBl : Below w.heap.size w w3 := by first | exact hB4 | exact ((Below.refl _ _).drew).trans hB4
    go_wp2_with fail
    refine hK.out _ _ ⟨cstep e0 hBl, cstep g0 hBl⟩ (fun hHeld => ?_)
    clear hK K
    try simp only [Act.put, List.setIfInBounds_toArray, List.set_cons_zero, List.set_cons_succ]
    refine wpAnyH_take (i := 4) (oi := _) (v := ?_) rfl (by kernel_rfl) (by kernel_rfl) (by kernel_rfl) (fun _ _ _ h => h) (Or.inl ⟨by rfl, ?_⟩) (by assumption) ?_
    rotate_left
    · intro w hSw
      try dsimp only at hSw
      obtain ⟨hS1, hS2⟩ := hSw
      go_simp
      try with_reducible rfl
    try simp only [Act.put, List.setIfInBounds_toArray]
    refine wpAnyH_take (i := 5) (oi := _) (v := ?_) rfl (by kernel_rfl) (by kernel_rfl) (by kernel_rfl) (fun _ _ _ h => h) (Or.inl ⟨by rfl, ?_⟩) (by assumption) ?_
    rotate_left
    · intro w hSw
      try dsimp only at hSw
      obtain ⟨hS1, hS2⟩ := hSw
      go_simp
      try with_reducible rfl
    try simp only [Act.put]
    refine wpAnyH_take (i := 6) (oi := _) (v := ?_) rfl (by kernel_rfl) (by kernel_rfl) (by kernel_rfl) (fun _ _ _ h => h) (Or.inl ⟨by rfl, ?_⟩) (by assumption) ?_
    rotate_left
    · intro w hSw
      try dsimp only at hSw
      obtain ⟨hS1, hS2⟩ := hSw
      go_simp
      try with_reducible rfl
    try simp only [Act.put]
    refine wpAnyH_ready (rs := [7]) (by kernel_rfl) (by simp) ?_
    refine AllReadyH.cons (o := _) rfl (fun K hK => ?_) AllReadyH.nil
    go_simp
    refine hK.out _ _ ⟨cstep e0 hBl, cstep g0 hBl⟩ (fun hHeld => ?_)
    clear hK K
    try simp only [Act.put, List.setIfInBounds_toArray, List.set_cons_zero, List.set_cons_succ]
    refine wpAnyH_ready (rs := [8]) (by kernel_rfl) (by simp) ?_
    refine AllReadyH.cons (o := _) rfl (fun K hK => ?_) AllReadyH.nil
    go_simp
    refine hK.out _ _ ⟨cstep e0 hBl, cstep g0 hBl⟩ (fun hHeld => ?_)
    clear hK K
    try simp only [Act.put, List.setIfInBounds_toArray, List.set_cons_zero, List.set_cons_succ]
    refine wpAnyH_ready (rs := [9]) (by kernel_rfl) (by simp) ?_
    refine AllReadyH.cons (o := _) rfl (fun K hK => ?_) AllReadyH.nil
    go_simp
    refine hK.out _ _ ⟨cstep e0 hBl, cstep g0 hBl⟩ (fun hHeld => ?_)
    clear hK K
    try simp only [Act.put, List.setIfInBounds_toArray, List.set_cons_zero, List.set_cons_succ]
    refine wpAnyH_done (by kernel_rfl) ?_ _
    all_goals (
      go_wp2
      go_ret
      exact ⟨ret_bool (by first | rfl | exact (decide_eq_true (by omega)).symm | exact (decide_eq_false (by omega)).symm), hBl⟩))

end Go.Proofs.Ytkioejdddmnbmaa

namespace Go.Proofs.Ytkioejdddmnbmaa
open Go.RowKit Go.Shelf
attribute [local go_sem ↓] wp_get wp_get0 wp_getS wp78 wps78 wpa78

theorem sm_short (good : List Int → Bool) : ∀ (t : List Int) (r : Nat) (b : List Int), t.length < r → sm good t r b = none
  | [], 0, _, h => by cases h
  | [], _ + 1, _, _ => rfl
  | x :: t, 0, _, h => by cases h
  | x :: t, r + 1, b, h => by
    have h' : t.length < r := by simpa using h
    rw [sm, sm_short good t r _ h']
    exact sm_short good t (r + 1) b (by omega)
theorem sm_all (good : List Int → Bool) : ∀ (t b : List Int), good (b ++ t) = true → sm good t t.length b = some (b ++ t)
  | [], b, h => by rw [List.append_nil] at h ⊢; show sm good [] 0 b = _; rw [sm_zero, if_pos h]
  | x :: t, b, h => by
    have e : b ++ x :: t = (b ++ [x]) ++ t := by simp
    rw [e] at h ⊢
    show sm good (x :: t) (t.length + 1) b = _
    rw [sm, sm_all good t (b ++ [x]) h]
theorem fw_some (good : List Int → Bool) (seen : List Int) (h : good seen = true) : ∀ (d m : Nat), m ≤ seen.length → seen.length < m + d → ∃ l, fwFrom good seen m d = some l
  | 0, m, h1, h2 => by omega
  | d + 1, m, h1, h2 => by
    rw [fwFrom]
    cases hq : sm good seen m [] with
    | some l => exact ⟨l, rfl⟩
    | none =>
      by_cases e : m = seen.length
      · subst e
        have := sm_all good seen [] (by simpa using h)
        rw [hq] at this; cases this
      · exact fw_some good seen h d (m + 1) (by omega) (by omega)
theorem few_some {good : List Int → Bool} {seen : List Int} (h : good seen = true) : ∃ l, fewM good seen = some l := fw_some good seen h _ 0 (Nat.zero_le _) (by omega)

def pNeededE (facts : Int) (seen : List Int) (rs : List Rl) (x : Int) : Int := if openErr facts seen rs [x] = 0 then (if nth (deskOf seen rs).known x.toNat = 0 then 5 else 0) else openErr facts seen rs [x]
def pNeededL (facts : Int) (seen : List Int) (rs : List Rl) (x : Int) : List Int := if openErr facts seen rs [x] = 0 then (if nth (deskOf seen rs).known x.toNat = 0 then [] else (fewM (goodN rs x.toNat) seen).getD []) else []

set_option maxRecDepth 100000 in
set_option maxHeartbeats 4000000 in
theorem pNeeded_c (facts : Int) (sa : Option Addr) (sc : Nat) (seen : List Int) (ra : Option Addr) (rc : Nat) (rs : List Rl) (x : Int) (w : World) (hc : CaseAt w sa ra seen rs) (hsl : seen.length ≤ 50) :
    Calls Try.prog 38 #[.agg #[.int .i64 facts, .slice sa seen.length sc, .slice ra rs.length rc], .int .i64 x] w (ListC w (pNeededL facts seen rs x) (pNeededE facts seen rs x)) := by
  obtain ⟨W0, hW0⟩ : ∃ W0, W0 = w.alloc (.cells #[.int .i64 facts, .slice sa seen.length sc, .slice ra rs.length rc] 25) := ⟨_, rfl⟩
  have HB0 := hid (show Below w.heap.size w W0 by rw [hW0]; exact bnew w _)
  have hs0 : W0.heap.size = w.heap.size + 1 := by rw [hW0]; simp
  have HS := hid hW0
  obtain ⟨Wf, hWf⟩ : ∃ Wf, Wf = W0.alloc (.cells #[.int .i64 x] 3) := ⟨_, rfl⟩
  have hsf : Wf.heap.size = w.heap.size + 1 + 1 := by rw [hWf]; simp [hs0]
  have hb0f : Below W0.heap.size W0 Wf := by rw [hWf]; exact bnew _ _
  have hf0 : Wf.cell? ⟨w.heap.size + 1, 0, none⟩ = some (.int .i64 x) := by rw [hWf, ← hs0]; simp [go_sem]
  obtain ⟨W1, hW1⟩ : ∃ W1, W1 = Wf.alloc (.cells #[.int .i64 x] 3) := ⟨_, rfl⟩
  have hbf1 : Below Wf.heap.size Wf W1 := by rw [hW1]; exact bnew _ _
  have HB1 := hid (bstep HB0.out (bstep hb0f hbf1))
  have HO := hid (open_c facts sa sc seen ra rc rs (some ⟨w.heap.size + 1 + 1, 0, none⟩) 1 [x] W1 (hc.mono HB1.out) (by have h := at_lit1 Wf x; rw [← hW1, hsf] at h; exact h) (by simp))
  have HSf := hid hWf; have HS1 := hid hW1
  have F0 := hid (cstep hf0 hbf1)
  have HBf := hid (bstep HB0.out hb0f); have HBf1 := hid hbf1
  have hlen1 : ([x] : List Int).length = 1 := rfl
  rw [hlen1] at HO
  unfold ListC pNeededL pNeededE
  by_cases hz : openErr facts seen rs [x] = 0
  · rw [if_pos hz, if_pos hz]
    rw [hz] at HO
    obtain ⟨hz2, hw⟩ := open_zero hz
    obtain ⟨hx0, hx1⟩ := within_one.1 hw
    obtain ⟨⟨f0, f1⟩, _⟩ := case_zero hz2
    obtain ⟨n, rfl⟩ := Int.eq_ofNat_of_zero_le hx0
    have hn12 : n < 12 := by omega
    have hnI : (n : Int) < 12 := by omega
    have Hro := hid (case_rules hz2 hc.il)
    have Hsf := hid (case_seen hz2)
    have Hc := hid hc
    rw [Int.toNat_natCast]
    have hok := deskOf_end Hsf.out Hro.out
    have hgood : nth (deskOf seen rs).known n ≠ 0 → goodN rs n seen = true := fun h => by
      unfold goodN
      have := hok.ok n
      exact decide_eq_true (by omega)
    have Hgood := hid hgood
    obtain ⟨st, hst⟩ : ∃ st, st = deskOf seen rs := ⟨_, rfl⟩
    rw [← hst] at HO Hgood ⊢
    clear hc hz hz2 hW0 hst hw hx0 hx1 f0 f1 hWf hW1 hs0 hsf hb0f hf0 hbf1 hok hgood
    by_cases hk : nth st.known n = 0
    · rw [if_pos hk, if_pos hk]
      go_enter Try.func38, Try.ntmps38
      go_wp2_with fail
      rw [← HS.out, ← HSf.out, ← HS1.out]
      refine HO.out.mono ?_
      rintro e w1 ⟨p, rfl, hB, hp⟩
      obtain ⟨g, bm, oa, oc, rfl, hd⟩ := hp rfl
      have HB2 := hid (bstep HB1.out hB)
      have g0 := cstep F0.out hB
      have hb2 := bnew w1 (.cells #[.pointer (some ⟨g, 0, none⟩)] 73)
      have kk := (hd.kept hb2).kK hn12
      rw [hk] at kk
      have gg := cstep g0 hb2
      have HB3 := hid (bstep HB2.out hb2)
      clear hB hp hd hk g0 hb2
      go_wp2
      go_quiet (fail)
      go_wp2
      go_ret2
      exact ⟨none, 0, rfl, IntsAt.nil _ _, fun _ => rfl, Nat.le_refl _, below_drewN HB3.out _⟩
    · rw [if_neg hk, if_neg hk]
      have hkb : (nth st.known n == 0) = false := by simpa using hk
      obtain ⟨L, hL⟩ := few_some (Hgood.out hk)
      rw [hL, Option.getD_some]
      have HL := hid hL
      have HF := hid fun (bd g : Nat) (w' : World) (h : Below w.heap.size w w') (d0 : w'.cell? ⟨bd, 0, none⟩ = some (.pointer (some ⟨g, 0, none⟩))) (f0 : w'.cell? ⟨w.heap.size + 1, 0, none⟩ = some (.int .i64 n)) (k0 : w'.cell? ⟨g, 0, none⟩ = some (.int .i64 facts)) (k1 : w'.cell? ⟨g, 1, none⟩ = some (.slice sa seen.length sc)) (k2 : w'.cell? ⟨g, 2, none⟩ = some (.slice ra rs.length rc)) =>
        fewest_c g sa sc seen 76 #[.pointer (some ⟨bd, 0, none⟩), .pointer (some ⟨w.heap.size + 1, 0, none⟩)] (goodN rs n) w' (needed1_c bd (w.heap.size + 1) g n facts ra rc rs w' d0 f0 hn12 k0 k2 (Hc.out.r.mono h) Hro.out Hc.out.rl) enters76 (Hc.out.s.mono h) Hsf.out hsl k1
      rw [hL] at HF
      unfold SomeP at HF
      obtain ⟨v, hv⟩ : ∃ v, v = nth st.known n := ⟨_, rfl⟩
      rw [← hv] at hkb
      have Hv := hid hv
      clear hL hk hv
      go_enter Try.func38, Try.ntmps38
      go_wp2_with fail
      rw [← HS.out, ← HSf.out, ← HS1.out]
      refine HO.out.mono ?_
      rintro e w1 ⟨p, rfl, hB, hp⟩
      obtain ⟨g, bm, oa, oc, rfl, hd⟩ := hp rfl
      have HB2 := hid (bstep HB1.out hB)
      have g0 := cstep F0.out hB
      have hb2 := bnew w1 (.cells #[.pointer (some ⟨g, 0, none⟩)] 73)
      have Hd := hid (hd.kept hb2)
      have kk := Hd.out.kK hn12
      rw [← Hv.out] at kk
      have gg := cstep g0 hb2
      have Hgg := hid gg
      have hbd : (w1.alloc (.cells #[.pointer (some ⟨g, 0, none⟩)] 73)).cell? ⟨w1.heap.size, 0, none⟩ = some (.pointer (some ⟨g, 0, none⟩)) := by simp [go_sem]
      have Hbd := hid hbd
      have HB3 := hid (bstep HB2.out hb2)
      clear hB hp hd g0 hb2 hbd
      go_wp2
      go_quiet (fail)
      go_wp2_with fail
      refine (HF.out w1.heap.size g _ (below_drewN HB3.out nq) Hbd.out Hgg.out Hd.out.k0 Hd.out.k1 Hd.out.k2).mono ?_
      rintro e w4 ⟨ao, m, cap, rfl, hB4, hL4⟩
      obtain ⟨h1, h2, h3, h4⟩ := hL4 L rfl
      have HB4 := hid (bstep (below_drewN HB3.out nq) hB4)
      subst h1
      clear hB4 hL4 kk gg
      go_wp2
      go_ret2
      exact ⟨ao, cap, rfl, h2, h3, h4, HB4.out⟩
  · rw [if_neg hz, if_neg hz]
    have hcb := errB hz
    clear hc hz hW0 hWf hW1 hs0 hsf hb0f hf0 hbf1
    generalize openErr facts seen rs [x] = c at *
    go_enter Try.func38, Try.ntmps38
    go_wp2_with fail
    rw [← HS.out, ← HSf.out, ← HS1.out]
    refine HO.out.mono ?_
    rintro e w1 ⟨p, rfl, hB, hp⟩
    have HB2 := hid (bstep HB1.out hB)
    clear hB hp
    go_wp2
    go_ret2
    exact ⟨none, 0, rfl, IntsAt.nil _ _, fun _ => rfl, Nat.le_refl _, bstep HB2.out (bnew _ _)⟩

def pWrongE (facts : Int) (seen : List Int) (rs : List Rl) : Int := if caseErr facts seen rs = 0 then (if fewM (goodW seen rs) seen = none then 5 else 0) else caseErr facts seen rs
def pWrongL (facts : Int) (seen : List Int) (rs : List Rl) : List Int := if caseErr facts seen rs = 0 then (fewM (goodW seen rs) seen).getD [] else []

set_option maxRecDepth 100000 in
set_option maxHeartbeats 4000000 in
theorem pWrong_c (facts : Int) (sa : Option Addr) (sc : Nat) (seen : List Int) (ra : Option Addr) (rc : Nat) (rs : List Rl) (w : World) (hc : CaseAt w sa ra seen rs) (hsl : seen.length ≤ 50) (hsn : sa = none → sc = 0) :
    Calls Try.prog 40 #[.agg #[.int .i64 facts, .slice sa seen.length sc, .slice ra rs.length rc]] w (ListC w (pWrongL facts seen rs) (pWrongE facts seen rs)) := by
  obtain ⟨W0, hW0⟩ : ∃ W0, W0 = w.alloc (.cells #[.int .i64 facts, .slice sa seen.length sc, .slice ra rs.length rc] 25) := ⟨_, rfl⟩
  have HB0 := hid (show Below w.heap.size w W0 by rw [hW0]; exact bnew w _)
  obtain ⟨c0, c1, c2⟩ := caseBox w facts sa ra seen.length sc rs.length rc
  rw [← hW0] at c0 c1 c2
  have C1 := hid c1
  have HS := hid hW0
  have HO := hid (open_c facts sa sc seen ra rc rs none 0 [] W0 (hc.mono HB0.out) (IntsAt.nil _ _) (by simp))
  rw [open_none] at HO
  unfold ListC pWrongL pWrongE
  by_cases hz : caseErr facts seen rs = 0
  · rw [if_pos hz, if_pos hz]
    rw [hz] at HO
    have Hro := hid (case_rules hz hc.il)
    have Hsf := hid (case_seen hz)
    have Hc := hid hc; have Hsn := hid hsn
    obtain ⟨st, hst⟩ : ∃ st, st = deskOf seen rs := ⟨_, rfl⟩
    rw [← hst] at HO
    have HF := hid fun (bd g : Nat) (w' : World) (h : Below w.heap.size w w') (c1 : w'.cell? ⟨w.heap.size, 1, none⟩ = some (.slice sa seen.length sc)) (d0 : w'.cell? ⟨bd, 0, none⟩ = some (.pointer (some ⟨g, 0, none⟩))) (k0 : w'.cell? ⟨g, 0, none⟩ = some (.int .i64 facts)) (k1 : w'.cell? ⟨g, 1, none⟩ = some (.slice sa seen.length sc)) (k2 : w'.cell? ⟨g, 2, none⟩ = some (.slice ra rs.length rc)) =>
      fewest_c g sa sc seen 79 #[.pointer (some ⟨w.heap.size, 0, none⟩), .pointer (some ⟨bd, 0, none⟩)] (goodW seen rs) w' (wrong1_c w.heap.size bd g facts sa sc seen ra rc rs w' c1 d0 k0 k2 (Hc.out.s.mono h) Hsn.out Hsf.out hsl (Hc.out.r.mono h) Hro.out Hc.out.rl) enters79 (Hc.out.s.mono h) Hsf.out hsl k1
    unfold SomeP at HF
    obtain ⟨q, hq⟩ : ∃ q, q = fewM (goodW seen rs) seen := ⟨_, rfl⟩
    rw [← hq] at HF ⊢
    clear hc hz hW0 c0 c1 c2 hst hq hsn
    cases q with
    | none =>
      rw [if_pos rfl]
      go_enter Try.func40, Try.ntmps40
      go_wp2_with fail
      rw [← HS.out]
      refine HO.out.mono ?_
      rintro e w1 ⟨p, rfl, hB, hp⟩
      obtain ⟨g, bm, oa, oc, rfl, hd⟩ := hp rfl
      have HB2 := hid (bstep HB0.out hB)
      have hb2 := bnew w1 (.cells #[.pointer (some ⟨g, 0, none⟩)] 73)
      have Hd := hid (hd.kept hb2)
      have Hc1 := hid (cstep (cstep C1.out hB) hb2)
      have hbd : (w1.alloc (.cells #[.pointer (some ⟨g, 0, none⟩)] 73)).cell? ⟨w1.heap.size, 0, none⟩ = some (.pointer (some ⟨g, 0, none⟩)) := by simp [go_sem]
      have Hbd := hid hbd
      have HB3 := hid (bstep HB2.out hb2)
      clear hB hp hd hb2 hbd
      go_wp2_with fail
      refine (HF.out w1.heap.size g _ HB3.out Hc1.out Hbd.out Hd.out.k0 Hd.out.k1 Hd.out.k2).mono ?_
      rintro e w4 ⟨ao, m, cap, rfl, hB4, hL4⟩
      have HB4 := hid (bstep HB3.out hB4)
      clear hB4 hL4
      go_wp2
      go_ret2
      exact ⟨none, 0, rfl, IntsAt.nil _ _, fun _ => rfl, Nat.le_refl _, HB4.out⟩
    | some L =>
      rw [if_neg (by simp), Option.getD_some]
      go_enter Try.func40, Try.ntmps40
      go_wp2_with fail
      rw [← HS.out]
      refine HO.out.mono ?_
      rintro e w1 ⟨p, rfl, hB, hp⟩
      obtain ⟨g, bm, oa, oc, rfl, hd⟩ := hp rfl
      have HB2 := hid (bstep HB0.out hB)
      have hb2 := bnew w1 (.cells #[.pointer (some ⟨g, 0, none⟩)] 73)
      have Hd := hid (hd.kept hb2)
      have Hc1 := hid (cstep (cstep C1.out hB) hb2)
      have hbd : (w1.alloc (.cells #[.pointer (some ⟨g, 0, none⟩)] 73)).cell? ⟨w1.heap.size, 0, none⟩ = some (.pointer (some ⟨g, 0, none⟩)) := by simp [go_sem]
      have Hbd := hid hbd
      have HB3 := hid (bstep HB2.out hb2)
      clear hB hp hd hb2 hbd
      go_wp2_with fail
      refine (HF.out w1.heap.size g _ HB3.out Hc1.out Hbd.out Hd.out.k0 Hd.out.k1 Hd.out.k2).mono ?_
      rintro e w4 ⟨ao, m, cap, rfl, hB4, hL4⟩
      obtain ⟨h1, h2, h3, h4⟩ := hL4 L rfl
      have HB4 := hid (bstep HB3.out hB4)
      subst h1
      clear hB4 hL4
      go_wp2
      go_ret2
      exact ⟨ao, cap, rfl, h2, h3, h4, HB4.out⟩
  · rw [if_neg hz, if_neg hz]
    have hcb := errB hz
    clear hc hz hW0 c0 c1 c2
    generalize caseErr facts seen rs = c at *
    go_enter Try.func40, Try.ntmps40
    go_wp2_with fail
    rw [← HS.out]
    refine HO.out.mono ?_
    rintro e w1 ⟨p, rfl, hB, hp⟩
    have HB2 := hid (bstep HB0.out hB)
    clear hB hp
    go_wp2
    go_ret2
    exact ⟨none, 0, rfl, IntsAt.nil _ _, fun _ => rfl, Nat.le_refl _, bstep HB2.out (bnew _ _)⟩

end Go.Proofs.Ytkioejdddmnbmaa
