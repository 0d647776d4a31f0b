/- Walks: seeing, some, fewest. -/
import Derived.Test.YtkioejdddmnbmaaSm
import Derived.Deep.RegionHeld3
namespace Go.Proofs.Ytkioejdddmnbmaa
open Go.RowKit Go.Shelf
attribute [local go_sem ↓] wp_get wp_get0 wp_getS wp78 wps78 wpa78

set_option maxRecDepth 100000 in
set_option maxHeartbeats 4000000 in
theorem seeing_c (g : Nat) (facts : Int) (ra : Option Addr) (rc : Nat) (rs : List Rl) (la : Option Addr) (lc : Nat) (l : List Int) (w : World) (k0 : w.cell? ⟨g, 0, none⟩ = some (.int .i64 facts)) (k2 : w.cell? ⟨g, 2, none⟩ = some (.slice ra rs.length rc))
    (hr : RulesAt w ra rs) (hro : rulesOk rs) (hrl : rs.length ≤ 1000000) (hl : IntsAt w la l) (hlf : factsOk l) (hll : l.length ≤ 1000000) :
    Calls Try.prog 77 #[.pointer (some ⟨g, 0, none⟩), .slice la l.length lc] w (DeskP w (.int .i64 facts) (.slice la l.length lc) (.slice ra rs.length rc) (deskOf l rs)) := by
  have HN := hid fun (w' : World) (h : Below w.heap.size w w') => newDesk_c facts la lc l ra rc rs w' (hl.mono h) hll hlf (hr.mono h) hro hrl
  unfold DeskP at HN ⊢
  clear hr hro hl hlf
  go_enter Try.func77, Try.ntmps77
  go_upto_region 1 with (fail)
  go_region_with (go_at_call 70; (with_reducible refine (HN.out _ (by first | exact Below.refl _ _ | exact (Below.refl _ _).drew)).mono ?_); rintro e w1 ⟨g2, bm2, oa2, oc2, rfl, hd, hB⟩; have hBl : Below w.heap.size w w1 := by first | exact hB | exact ((Below.refl _ _).drew).trans hB)
  all_goals (
    go_wp2
    go_ret
    exact ⟨g2, bm2, oa2, oc2, rfl, hd, hBl⟩)

/-- the first list of so many more numbers out of a list that is good -/
def sm (good : List Int → Bool) : List Int → Nat → List Int → Option (List Int)
  | [], 0, b => if good b = true then some b else none
  | _ :: _, 0, b => if good b = true then some b else none
  | [], _ + 1, _ => none
  | x :: t, r + 1, b => match sm good t r (b ++ [x]) with
    | some l => some l
    | none => sm good t (r + 1) b
theorem sm_zero (good : List Int → Bool) (t b : List Int) : sm good t 0 b = if good b = true then some b else none := by cases t <;> rfl

def SomeP (w : World) (R : Option (List Int)) (e : Ending) (w' : World) : Prop :=
  ∃ ao n cap, e = .returned (.tuple #[.slice ao n cap, .bool R.isSome]) ∧ Below w.heap.size w w' ∧ ∀ L, R = some L → n = L.length ∧ IntsAt w' ao L ∧ (ao = none → cap = 0) ∧ n ≤ cap

/-- what a function that judges lists answers -/
def GoodC (w0 : World) (gf : Nat) (caps : Array Value) (good : List Int → Bool) : Prop :=
  ∀ (a : Option Addr) (c : Nat) (l : List Int) (w' : World), Below w0.heap.size w0 w' → IntsAt w' a l → (a = none → c = 0) → l.length ≤ c → factsOk l → l.length ≤ 100 → Calls Try.prog gf (#[.slice a l.length c] ++ caps) w' (TellB w' (good l))

set_option maxRecDepth 100000 in
set_option maxHeartbeats 4000000 in
theorem some_c (g : Nat) (sa : Option Addr) (sc : Nat) (seen : List Int) (gf : Nat) (caps : Array Value) (good : List Int → Bool) (w0 : World) (hg : GoodC w0 gf caps good) (eg : ∀ args w, (callFunc gf args).run Try.prog w = .ok (.enter gf args) w)
    (hs : IntsAt w0 sa seen) (hsf : factsOk seen) (hsl : seen.length ≤ 50) (k1 : w0.cell? ⟨g, 1, none⟩ = some (.slice sa seen.length sc)) :
    ∀ (d fr : Nat), fr + d = seen.length → ∀ (a : Option Addr) (c : Nat) (b : List Int) (many : Nat) (w : World), Below w0.heap.size w0 w → IntsAt w a b → (a = none → c = 0) → b.length ≤ c → factsOk b → b.length ≤ fr → b.length ≤ many → many ≤ 100 →
      Calls Try.prog 97 #[.pointer (some ⟨g, 0, none⟩), .slice a b.length c, .int .i64 fr, .int .i64 many, .func (.func gf) #[] caps] w (SomeP w (sm good (seen.drop fr) (many - b.length) b)) := by
  intro d
  induction d using Nat.strongRecOn with
  | _ d ih =>
  intro fr hfd a c b many w hB0 hb hbn hbc hbf hbfr hbm hm
  have HB0 := hid hB0; have Hb := hid hb; have Hbn := hid hbn; have Hbf := hid hbf; have Hih := hid ih; have Hs := hid hs; have Hsf := hid hsf
  clear hB0 hb hbn hbf ih hs hsf
  by_cases he : b.length = many
  · have HG := hid (hg a c b w HB0.out Hb.out Hbn.out hbc Hbf.out (by omega))
    rw [show many - b.length = 0 from by omega, sm_zero]
    unfold TellB at HG
    have heb : ((b.length : Int) == (many : Int)) = true := by simp [he]
    obtain ⟨v, hv⟩ : ∃ v, v = good b := ⟨_, rfl⟩
    rw [← hv] at HG ⊢
    have Hbl := hid hbc
    obtain ⟨n, hn⟩ : ∃ n, n = b.length := ⟨_, rfl⟩
    rw [← hn] at HG heb hbc ⊢
    have Hn := hid hn
    clear he hn hv hbfr hbm k1 hg
    cases v with
    | true =>
      rw [if_pos rfl]
      go_enter Try.func97, Try.ntmps97
      go_wp2_with fail
      refine HG.out.mono ?_
      rintro e w1 ⟨rfl, hB⟩
      have HB1 := hid hB
      clear hB
      go_wp2
      go_ret2
      exact ⟨a, n, c, rfl, HB1.out, fun L h => by cases h; exact ⟨Hn.out, Hb.out.mono HB1.out, Hbn.out, hbc⟩⟩
    | false =>
      rw [if_neg (by simp)]
      go_enter Try.func97, Try.ntmps97
      go_wp2_with fail
      refine HG.out.mono ?_
      rintro e w1 ⟨rfl, hB⟩
      have HB1 := hid hB
      clear hB
      go_wp2
      go_ret2
      exact ⟨a, n, c, rfl, HB1.out, fun L h => by cases h⟩
  · have heb : ((b.length : Int) == (many : Int)) = false := by simp; omega
    obtain ⟨r, hr⟩ : ∃ r, many - b.length = r + 1 := ⟨many - b.length - 1, by omega⟩
    obtain ⟨R, hR⟩ : ∃ R, R = sm good (seen.drop fr) (many - b.length) b := ⟨_, rfl⟩
    rw [← hR]
    rw [hr] at hR
    have HR := hid hR; have Hr := hid hr; have Hk1 := hid k1
    have hbfr' : b.length ≤ 50 := by omega
    have hfr50 : fr ≤ 50 := by omega
    clear hR hr he k1
    go_enter Try.func97, Try.ntmps97
    go_wp2
    go_loopw [12] (fun i wr => ∃ k : Nat, fr ≤ k ∧ k ≤ seen.length ∧ i = .int .i64 k ∧ sm good (seen.drop k) (r + 1) b = R ∧ Below w.heap.size w wr) (fun i _ => seen.length - (intOf i).toNat)
    case atStart => exact ⟨fr, Nat.le_refl _, by omega, rfl, HR.out.symm, Below.refl _ _⟩
    case round =>
      obtain ⟨k, hfk, hk, rfl, hgo, hB⟩ := hrel
      obtain ⟨wo, rfl⟩ : ∃ wo : World, wo = wr := ⟨_, rfl⟩
      have HB := hid hB; have HBt := hid (bstep HB0.out hB)
      have d1 := cstep Hk1.out HBt.out
      clear hB
      by_cases hlt : k < seen.length
      · obtain ⟨bs, off, rfl, hcc⟩ := (Hs.out.mono HBt.out).at hlt
        obtain ⟨f0, f1⟩ := Hsf.out k hlt
        have hgo1 : sm good (seen.drop k) (r + 1) b = match sm good (seen.drop (k + 1)) r (b ++ [nth seen k]) with | some l => some l | none => sm good (seen.drop (k + 1)) (r + 1) b := by rw [drop_nth hlt]; rfl
        obtain ⟨x, hx⟩ : ∃ x, x = nth seen k := ⟨_, rfl⟩
        rw [← hx] at hcc hgo1 f0 f1
        have hlb : (b ++ [x]).length = b.length + 1 := by simp
        have HC := hid fun (a' : Option Addr) (c' : Nat) (w' : World) (h : Below w0.heap.size w0 w') (hat : IntsAt w' a' (b ++ [x])) (hn : a' = none → c' = 0) (hcp : b.length + 1 ≤ c') => Hih.out (seen.length - (k + 1)) (by omega) (k + 1) (by omega) a' c' (b ++ [x]) many w' h hat hn (by rw [hlb]; exact hcp) (factsOk_append Hbf.out (factsOk_one f0 f1)) (by rw [hlb]; omega) (by rw [hlb]; have := Hr.out; omega) hm
        rw [hlb, show many - (b.length + 1) = r from by have := Hr.out; omega, show (((k + 1 : Nat)) : Int) = (k : Int) + 1 from by omega] at HC
        obtain ⟨q, hq⟩ : ∃ q, q = sm good (seen.drop (k + 1)) r (b ++ [x]) := ⟨_, rfl⟩
        rw [← hq] at hgo1 HC
        have hgo2 := hgo.symm.trans hgo1
        have Hgo := hid hgo2; have Hhlb := hid hlb
        clear hx hgo hgo1 hgo2 hq hlb
        unfold SomeP at HC
        go_upto_region 6 with (fail)
        go_cut [13, 14] (fun s t wc => ∃ ao n cap, s = .slice ao n cap ∧ t = .bool q.isSome ∧ Below wo.heap.size wo wc ∧ ∀ L, q = some L → n = L.length ∧ IntsAt wc ao L ∧ (ao = none → cap = 0) ∧ n ≤ cap)
        case first =>
          have HBo := hid (Hb.out.mono HB.out)
          have hwr : IntKind.i64.wrap ((k : Int) + 1) = (k : Int) + 1 := by have h := wrap_i64_nat (a := k + 1) (by omega); simpa using h
          go_region_held3 (fun w' => w'.cell? ⟨g, 1, none⟩ = some (.slice (some ⟨bs, off, none⟩) seen.length sc) ∧ w'.cell? ⟨bs, off + k, none⟩ = some (.int .i64 x)) (first | go_keep | exact ⟨cstep d1 hBl, cstep hcc hBl⟩ | exact ⟨cstep d1 (bstep hBl hB5), cstep hcc (bstep hBl hB5)⟩)
            (first
              | (refine step_app_full1 _ (by rfl) _ _ (by rfl) a b.length b.length b (by rfl) (by rfl) (by first | exact HBo.out.mono (bnew _ _) | exact HBo.out.mono (bnew _ _).drew | exact (HBo.out.mono (Below.refl _ _).drew).mono (bnew _ _)) (fun h => by have h0 := Hbn.out h; omega) _ x (by rfl) (by simp [go_sem]) (by omega) (by omega) ?_; intro b' cap' w' hB' hb' hat' hcap'; have hBl : Below wo.heap.size wo w' := by first | exact bstep (bnew _ _) hB' | exact bstep (bnew _ _).drew hB' | exact bstep ((Below.refl _ _).drew) (bstep (bnew _ _) hB'))
              | (go_at_call 97; (with_reducible refine (HC.out (some ⟨b', 0, none⟩) cap' _ (bstep HBt.out hBl) hat' (fun h => by cases h) hcap').mono ?_); rintro e w5 ⟨ao, n, cap, rfl, hB5, hL5⟩))
          all_goals (
            go_wp2
            go_meet
            exact ⟨ao, n, cap, rfl, rfl, bstep hBl hB5, hL5⟩)
        case rest =>
          obtain ⟨ao, n, cap, rfl, rfl, hB5, hL5⟩ := hcut
          have HB5 := hid (bstep HB.out hB5); have HL5 := hid hL5
          clear hB5 hL5 d1 hcc
          cases q with
          | some L0 =>
            have hR : R = some L0 := Hgo.out
            subst hR
            go_wp2
            go_ret2
            exact ⟨ao, n, cap, rfl, HB5.out, HL5.out⟩
          | none =>
            have hR : R = sm good (seen.drop (k + 1)) (r + 1) b := Hgo.out
            have HR2 := hid hR.symm
            clear hR Hgo HL5
            go_wp2
            go_roundw
            case rel => exact ⟨k + 1, by omega, by omega, by go_num, HR2.out, HB5.out⟩
            case measure => simp [intOf]; omega
      · obtain rfl : k = seen.length := by omega
        rw [List.drop_length] at hgo
        have hRn : R = none := hgo.symm
        subst hRn
        clear hgo
        go_wp2
        go_ret2
        exact ⟨none, 0, 0, rfl, HB.out, fun L h => by cases h⟩

/-- the first of the shortest lists out of a list that is good, from so many numbers on -/
def fwFrom (good : List Int → Bool) (seen : List Int) : Nat → Nat → Option (List Int)
  | _, 0 => none
  | m, d + 1 => match sm good seen m [] with
    | some l => some l
    | none => fwFrom good seen (m + 1) d
def fewM (good : List Int → Bool) (seen : List Int) : Option (List Int) := fwFrom good seen 0 (seen.length + 1)

set_option maxRecDepth 100000 in
set_option maxHeartbeats 4000000 in
theorem fewest_c (g : Nat) (sa : Option Addr) (sc : Nat) (seen : List Int) (gf : Nat) (caps : Array Value) (good : List Int → Bool) (w0 : World) (hg : GoodC w0 gf caps good) (eg : ∀ args w, (callFunc gf args).run Try.prog w = .ok (.enter gf args) w)
    (hs : IntsAt w0 sa seen) (hsf : factsOk seen) (hsl : seen.length ≤ 50) (k1 : w0.cell? ⟨g, 1, none⟩ = some (.slice sa seen.length sc)) :
    Calls Try.prog 75 #[.pointer (some ⟨g, 0, none⟩), .func (.func gf) #[] caps] w0 (SomeP w0 (fewM good seen)) := by
  have HC := hid fun (m : Nat) (hm : m ≤ 100) (w' : World) (h : Below w0.heap.size w0 w') => some_c g sa sc seen gf caps good w0 hg eg hs hsf hsl k1 seen.length 0 (by omega) none 0 [] m w' h (IntsAt.nil _ _) (fun _ => rfl) (Nat.le_refl _) (fun k hk => by cases hk) (Nat.le_refl _) (Nat.zero_le _) hm
  obtain ⟨R, hR⟩ : ∃ R, R = fewM good seen := ⟨_, rfl⟩
  rw [← hR]
  have HR := hid hR
  have Hk1 := hid k1
  clear hg hs hsf hR
  go_enter Try.func75, Try.ntmps75
  go_wp2
  clear k1
  go_loopw [16] (fun i wr => ∃ k : Nat, k ≤ seen.length + 1 ∧ i = .int .i64 k ∧ fwFrom good seen k (seen.length + 1 - k) = R ∧ Below w0.heap.size w0 wr) (fun i _ => seen.length + 1 - (intOf i).toNat)
  case atStart => exact ⟨0, Nat.zero_le _, rfl, HR.out.symm, Below.refl _ _⟩
  case round =>
    obtain ⟨k, hk, rfl, hgo, hB⟩ := hrel
    obtain ⟨wo, rfl⟩ : ∃ wo : World, wo = wr := ⟨_, rfl⟩
    have HB := hid hB
    clear hB
    by_cases hlt : k < seen.length + 1
    · have hgo1 : fwFrom good seen k (seen.length + 1 - k) = match sm good seen k [] with | some l => some l | none => fwFrom good seen (k + 1) (seen.length - k) := by
        rw [show seen.length + 1 - k = (seen.length - k) + 1 from by omega]; rfl
      have HCk := hid (HC.out k (by omega) wo HB.out)
      unfold SomeP at HCk
      rw [show k - ([] : List Int).length = k from rfl, List.drop_zero, show ([] : List Int).length = 0 from rfl, show ((0 : Nat) : Int) = 0 from rfl] at HCk
      obtain ⟨q, hq⟩ : ∃ q, q = sm good seen k [] := ⟨_, rfl⟩
      rw [← hq] at hgo1 HCk
      have hgo2 := hgo.symm.trans hgo1
      have Hgo := hid hgo2
      clear hgo hgo1 hgo2 hq
      cases q with
      | some L0 =>
        have hR : R = some L0 := Hgo.out
        subst hR
        go_wp2_with fail
        refine HCk.out.mono ?_
        rintro e w1 ⟨ao, n, cap, rfl, hB5, hL5⟩
        have HB5 := hid (bstep HB.out hB5); have HL5 := hid hL5
        clear hB5 hL5
        go_wp2
        go_ret2
        exact ⟨ao, n, cap, rfl, HB5.out, HL5.out⟩
      | none =>
        have hR : R = fwFrom good seen (k + 1) (seen.length - k) := Hgo.out
        have HR2 := hid hR.symm
        clear hR Hgo
        go_wp2_with fail
        refine HCk.out.mono ?_
        rintro e w1 ⟨ao, n, cap, rfl, hB5, hL5⟩
        have HB5 := hid (bstep HB.out hB5)
        clear hB5 hL5
        go_wp2
        go_roundw
        case rel => exact ⟨k + 1, by omega, by go_num, by rw [show seen.length + 1 - (k + 1) = seen.length - k from by omega]; exact HR2.out, HB5.out⟩
        case measure => simp [intOf]; omega
    · obtain rfl : k = seen.length + 1 := by omega
      rw [Nat.sub_self] at hgo
      have hRn : R = none := hgo.symm
      subst hRn
      clear hgo
      go_wp2
      go_ret2
      exact ⟨none, 0, 0, rfl, HB.out, fun L h => by cases h⟩

end Go.Proofs.Ytkioejdddmnbmaa
