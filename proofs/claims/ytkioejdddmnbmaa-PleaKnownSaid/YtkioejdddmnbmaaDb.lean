/- Walk: learn. -/
import Derived.Test.YtkioejdddmnbmaaDa
import Derived.Test.YtkioejdddmnbmaaAp2
import Derived.Deep.RegionLaw
namespace Go.Proofs.Ytkioejdddmnbmaa
open Go.RowKit Go.Shelf
attribute [local go_sem ↓] wp_get wp_get0 wp_getS wp78 wps78 wpa78

theorem zeros_set {l : List Int} {n : Nat} (hn : n < l.length) (h : nth l n = 0) : (l.set n 1).count 0 + 1 = l.count 0 := by
  have hp : 0 < l.count 0 := List.count_pos_iff.2 (by rw [← h]; exact nth_mem hn)
  rw [nth_eq hn] at h
  rw [List.count_set hn, h]
  simp
  omega

def LSt.fits (s : LSt) : Prop := s.ord.length + s.known.count 0 ≤ 12 ∧ s.known.length = 12

theorem learn1_fits {rs : List Rl} {s : LSt} (i : Nat) (h : s.fits) (hr : (nthR rs i).2 < 12) : (learn1 rs s i).fits := by
  unfold learn1
  split
  · split
    · split
      · exact h
      · exact h
    · split
      · rename_i h0 h1
        obtain ⟨a, b⟩ := h
        have := zeros_set (l := s.known) (n := (nthR rs i).2.toNat) (by omega) h1
        exact ⟨by simp; omega, by simp [b]⟩
      · exact h
  · exact h

theorem learnTo_fits {rs : List Rl} {s : LSt} (h : s.fits) (hr : rulesOk rs) : ∀ k, k ≤ rs.length → (learnTo rs s k).fits
  | 0, _ => h
  | k + 1, hk => learn1_fits k (learnTo_fits h hr k (by omega)) (hr k (by omega)).2.2.2

def LearnP (w0 w : World) (g bm : Nat) (c0 c1 c2 : Value) (s : LSt) (e : Ending) (w' : World) : Prop :=
  ∃ oa oc, e = .returned (.tuple #[]) ∧ DeskAt w0.heap.size w' g bm oa oc c0 c1 c2 s.known s.ord s.ord s.clash ∧ Below w0.heap.size w0 w' ∧ KeepsT g w w'

set_option maxRecDepth 100000 in
set_option maxHeartbeats 4000000 in
theorem learn_c (w0 w : World) (g bm : Nat) (oa : Option Addr) (oc : Nat) (c0 c1 : Value) (ra : Option Addr) (rc : Nat) (rs : List Rl) (s : LSt) (hr : RulesAt w0 ra rs) (hro : rulesOk rs) (hrl : rs.length ≤ 1000000) (hfit : s.fits)
    (hB : Below w0.heap.size w0 w) (hd : DeskAt w0.heap.size w g bm oa oc c0 c1 (.slice ra rs.length rc) s.known s.ord s.ord s.clash) :
    Calls Try.prog 93 #[.pointer (some ⟨g, 0, none⟩)] w (LearnP w0 w g bm c0 c1 (.slice ra rs.length rc) (learnTo rs s rs.length)) := by
  have Hr := hid hr; have Hro := hid hro; have Hfit := hid hfit; have Hd := hid hd; have HB := hid hB
  clear hr hro hfit hB
  go_enter Try.func93, Try.ntmps93
  have q2 := hd.k2
  clear hd
  go_wp2
  go_step3
  go_wp2
  go_step3
  go_wp2
  clear q2
  go_loopw [10] (fun i wr => ∃ (k : Nat) (oa' : Option Addr) (oc' : Nat), k ≤ rs.length ∧ i = .int .i64 k ∧ DeskAt w0.heap.size wr g bm oa' oc' c0 c1 (.slice ra rs.length rc) (learnTo rs s k).known (learnTo rs s k).ord (learnTo rs s k).ord (learnTo rs s k).clash ∧ Below w0.heap.size w0 wr ∧ KeepsT g w wr) (fun i _ => rs.length - (intOf i).toNat)
  case atStart => exact ⟨0, oa, oc, Nat.zero_le _, rfl, Hd.out, HB.out, KeepsT.refl _ _⟩
  case round =>
    obtain ⟨k, oa', oc', hk, rfl, hdk, hBk, hKk⟩ := hrel
    obtain ⟨wo, rfl⟩ : ∃ wo : World, wo = wr := ⟨_, rfl⟩
    have Hdk := hid hdk; have HBk := hid hBk; have HKk := hid hKk
    clear hdk hBk hKk
    by_cases hlt : k < rs.length
    · have hfk := learnTo_fits Hfit.out Hro.out k hk
      have hstep0 : learnTo rs s (k + 1) = learn1 rs (learnTo rs s k) k := rfl
      unfold learn1 at hstep0
      obtain ⟨known, hkn⟩ : ∃ x, x = (learnTo rs s k).known := ⟨_, rfl⟩
      obtain ⟨ord, hor⟩ : ∃ x, x = (learnTo rs s k).ord := ⟨_, rfl⟩
      obtain ⟨cl, hcl⟩ : ∃ x, x = (learnTo rs s k).clash := ⟨_, rfl⟩
      have hs : learnTo rs s k = ⟨known, ord, cl⟩ := by rw [hkn, hor, hcl]
      rw [← hkn, ← hor, ← hcl] at Hdk
      rw [hs] at hstep0 hfk
      have hstep : learnTo rs s (k + 1) = if hasM known (nthR rs k).1 = true then (if (nthR rs k).2 < 0 then (if cl < 0 then ⟨known, ord, k⟩ else ⟨known, ord, cl⟩) else if nth known (nthR rs k).2.toNat = 0 then ⟨known.set (nthR rs k).2.toNat 1, ord ++ [((nthR rs k).2.toNat, k)], cl⟩ else ⟨known, ord, cl⟩) else ⟨known, ord, cl⟩ := hstep0
      clear hkn hor hcl hstep0
      obtain ⟨ho12, hk12⟩ := hfk
      have ho12 : ord.length + known.count 0 ≤ 12 := ho12
      have hk12 : known.length = 12 := hk12
      obtain ⟨hf1, hf2, hf3, hf4⟩ := Hro.out k hlt
      obtain ⟨b, off, a, c, rfl, hra⟩ := (Hr.out.mono HBk.out).at hlt
      have Hhas := hid fun (w' : World) (hb : Below wo.heap.size wo w') => has_c a c known (nthR rs k).1 w' (hra.at'.mono hb) hf2 hk12 hf1
      have q0 := hra.cI
      have q1 := hra.cT
      obtain ⟨th, hth⟩ : ∃ t, t = (nthR rs k).2 := ⟨_, rfl⟩
      obtain ⟨n, hn⟩ : ∃ n, n = (nthR rs k).1.length := ⟨_, rfl⟩
      obtain ⟨hv, hhv⟩ : ∃ v, v = hasM known (nthR rs k).1 := ⟨_, rfl⟩
      rw [← hth] at hstep q1 hf3 hf4
      rw [← hn] at q0 Hhas
      rw [← hhv] at hstep Hhas
      obtain ⟨V, hV⟩ : ∃ V, V = (intv known).toArray := ⟨_, rfl⟩
      rw [← hV] at Hhas
      have HV := hid hV
      have Hstep := hid hstep
      have Hs := hid hs
      obtain ⟨W1, hW1⟩ : ∃ W1, W1 = wo.alloc (.cells #[.slice a n c, .int .i64 th] 60) := ⟨_, rfl⟩
      have hBo : Below wo.heap.size wo W1 := by rw [hW1]; exact bnew wo _
      have HB1 := hid (bstep HBk.out hBo)
      have HK1 := hid (HKk.out.trans (KeepsT.below hBo))
      have Hd1 := hid (Hdk.out.kept hBo)
      have o1 := Hd1.out.ok; have p1 := Hd1.out.part
      have t0 : W1.cell? ⟨wo.heap.size, 0, none⟩ = some (.slice a n c) := by rw [hW1]; simp [go_sem]
      have t1 : W1.cell? ⟨wo.heap.size, 1, none⟩ = some (.int .i64 th) := by rw [hW1]; simp [go_sem]
      have HH := hid fun (w' : World) (hb : Below W1.heap.size W1 w') => Hhas.out w' (bstep hBo hb)
      rw [← HV.out] at p1
      have HW1 := hid hW1
      have hgn : g ≠ wo.heap.size := by have := Hdk.out.size; omega
      have Hgn := hid hgn
      have hg0 : w0.heap.size ≤ wo.heap.size := HBk.out.size
      clear hstep hra hth hn hhv hV hs hf1 hf2 Hhas hBo hW1 hgn
      go_upto_region 3 with (fail)
      rw [← HW1.out]
      go_cut [22] (fun s wc => s = .bool (!hv) ∧ Below W1.heap.size W1 wc)
      case first =>
        go_region_with ((go_at_call 73; (with_reducible refine (HH.out _ (by first | exact Below.refl _ _ | exact (Below.refl _ _).drew)).mono ?_); rintro e w3 ⟨rfl, hB⟩; have hBl : Below W1.heap.size W1 w3 := by first | exact hB | exact ((Below.refl _ _).drew).trans hB))
        all_goals (go_wp2; go_meet; exact ⟨rfl, by assumption⟩)
      case rest =>
        obtain ⟨rfl, hB⟩ := hcut
        have HB2 := hid (bstep HB1.out hB)
        have HK2 := hid (HK1.out.trans (KeepsT.below hB))
        have Hd2 := hid (Hd1.out.kept hB)
        have u1 := cstep t1 hB
        have hsz : W1.heap.size ≤ wc.heap.size := hB.size
        clear hB o1 p1 t0 t1 HH
        cases hv with
        | false =>
          go_wp2
          go_roundw
          case rel => exact ⟨k + 1, oa', oc', by omega, by go_num, by rw [Hstep.out]; exact Hd2.out, HB2.out, HK2.out⟩
          case measure => simp [intOf]; omega
        | true =>
          by_cases hth0 : th < 0
          · have kc := Hd2.out.kC
            have fr := Hd2.out.fr 17
            by_cases hcl0 : cl < 0
            · have Hstep2 := hid (Hstep.out.trans (by rw [if_pos rfl, if_pos hth0, if_pos hcl0]))
              clear Hstep
              go_wp2
              have hd3 := Hd2.out.clashed (k : Int)
              go_roundw
              case rel => exact ⟨k + 1, oa', oc', by omega, by go_num, by rw [Hstep2.out]; exact hd3, HB2.out.setCell Hd2.out.gB _, HK2.out.trans (KeepsT.setCell _ _ _ _)⟩
              case measure => simp [intOf]; omega
            · have Hstep2 := hid (Hstep.out.trans (by rw [if_pos rfl, if_pos hth0, if_neg hcl0]))
              clear Hstep
              have hdb : decide (0 ≤ th) = false := decide_eq_false (by omega)
              go_wp2
              go_quiet (fail)
              go_wp2
              go_roundw
              case rel => exact ⟨k + 1, oa', oc', by omega, by go_num, by rw [Hstep2.out]; exact Hd2.out.kept (below_drewN (Below.refl _ _) _), below_drewN HB2.out _, HK2.out⟩
              case measure => simp [intOf]; omega
          · obtain ⟨t, rfl⟩ := Int.eq_ofNat_of_zero_le (show 0 ≤ th by omega)
            have ht12 : t < 12 := by omega
            have kt := Hd2.out.kK ht12
            have hdb : decide ((0:Int) ≤ (t : Int)) = true := decide_eq_true (by omega)
            by_cases hz : nth known t = 0
            · have Hstep2 := hid (Hstep.out.trans (by rw [if_pos rfl, if_neg hth0, Int.toNat_natCast, if_pos hz]))
              rw [hz] at kt
              have Hz := hid hz
              clear Hstep hz
              go_wp2
              go_quiet (fail)
              go_wp2
              have frt := Hd2.out.fr (3 + t)
              clear kt
              have Hkk := hid (Hstep2)
              go_upto_region 7 with (fail)
              go_cut [] (fun wd => DeskAt w0.heap.size wd g bm oa' oc' c0 c1 (.slice (some ⟨b, off, none⟩) rs.length rc) (known.set t 1) ord ord cl ∧ wd.cell? ⟨wo.heap.size, 1, none⟩ = some (.int .i64 t) ∧ Below w0.heap.size w0 wd ∧ KeepsT g w wd)
              case first =>
                have kt := Hd2.out.kK ht12
                go_region
                go_wp2
                go_meet
                refine ⟨(Hd2.out.kept (below_drewN (Below.refl _ _) _)).mark ht12, ?_, (below_drewN HB2.out _).setCell (by have := Hd2.out.gB; exact this) _, HK2.out.trans (KeepsT.setCell g (wc.drewN _) _ _)⟩
                exact (setCell_only (w := wc.drewN _) g (3 + t) (.int .i64 1)).cell u1 (by show ¬ wo.heap.size = g; have := Hgn.out; omega)
              case rest =>
                obtain ⟨hd3, u3', hB3, hK3⟩ := hcut
                have Hd3 := hid hd3; have HB3 := hid hB3; have HK3 := hid hK3
                clear hd3 hB3 frt u1
                have km := Hd3.out.kM
                obtain ⟨wd, rfl⟩ : ∃ wd : World, wd = wc := ⟨_, rfl⟩
                go_upto_region 8 with (fail)
                go_cut [] (fun we => DeskAt w0.heap.size we g bm oa' oc' c0 c1 (.slice (some ⟨b, off, none⟩) rs.length rc) (known.set t 1) (ord ++ [(t, k)]) ord cl ∧ we.cell? ⟨wo.heap.size, 1, none⟩ = some (.int .i64 t) ∧ Below w0.heap.size w0 we ∧ KeepsT g w we)
                case first =>
                  go_still_tail 8, (by kernel_rfl)
                  change wpList _ _ _ _ _ wd.drew
                  have hd4 := Hd3.out.kept (w' := wd.drew) (Below.refl _ _).drew
                  have hlen : ord.length < 1000 := by omega
                  refine Go.wpList_mapUpdate_own wd.drew rfl _ _ _ 80 rfl 107 3 keyed107 Try.underlying80 (plainElem Try.prog 3) bm ord.length (MD ord) rfl hd4.map ?hn _ _ (factKey t) rfl rfl (keyOf_fact ht12) (.lit (.int .i64 k)) [] ?hv ?K2
                  case hn => unfold maxLen; omega
                  case hv => exact plainElem_int Try.underlying3 (by have h := Go.RowKit.wrap64_wf (k : Int); rwa [show Go.RowKit.wrap64 (k : Int) = k from by unfold Go.RowKit.wrap64; omega] at h)
                  case K2 =>
                    intro w1 hown1 hgr1
                    have ho1 : Only (fun b => b = bm) wd.drew w1 := ⟨hgr1.os, hgr1.tape, hgr1.output, hgr1.size, fun j hj hs => hgr1.block j hj (fun e => hs (by cases e; rfl))⟩
                    have hd5 := hd4.mapped hown1 ho1
                    have hb1 : Below w0.heap.size w0 w1 := HB3.out.drew.trans (ho1.below HB3.out.size (by intro j hj e; have e' : j = bm := e; have := hd4.bB; omega))
                    refine wpList_nil ?_
                    go_wp2
                    go_meet
                    exact ⟨hd5, ho1.cell (show wd.drew.cell? ⟨wo.heap.size, 1, none⟩ = _ from u3') (by show ¬ wo.heap.size = bm; have := Hdk.out.map.lt; omega), hb1, HK3.out.trans (show KeepsT g wd w1 from DeskAt.keepsM (w := wd.drew) hd4 ho1)⟩
                case rest =>
                  obtain ⟨hd4, u4, hB4, hK4⟩ := hcut
                  have Hd4 := hid hd4; have HB4 := hid hB4; have HK4 := hid hK4
                  obtain ⟨we, rfl⟩ : ∃ we : World, we = wc := ⟨_, rfl⟩
                  have ko := hd4.kO
                  have fro := hd4.fr 16
                  have hgs := hd4.size
                  have Ko := hid ko; have Fro := hid fro
                  clear hd4 hB4 km
                  have hlen : ord.length ≤ 1000000 := by omega
                  have hnewb := fun (v : Obj) => bnew we v
                  have hd5 := fun (v : Obj) => Hd4.out.kept (bnew we v)
                  clear hd5 hnewb
                  go_wp2_with fail
                  go_region_law ((refine step_app_own _ (by rfl) _ _ (by rfl) w0.heap.size oa' ord.length oc' (ordI ord) (by rfl) (by exact Hd4.out.ord.alloc _) _ (t : Int) (by rfl) (by simp [go_sem]) (by omega) (by have := HB4.out.size; simp; omega) ?_; intro b' cap' w' hB' hb' hown' hgr'; have hA := Hd4.out.arm HB4.out (by first | with_reducible exact bnew we _ | with_reducible exact (bnew we _).drew | with_reducible exact Below.refl _ _ | with_reducible exact (Below.refl _ _).drew) hgr' hB' hown' k; obtain ⟨hA1, hA2, hA3, hA4, hA5⟩ := hA))
                  all_goals (
                    go_wp2
                    go_roundw
                    case rel => exact ⟨k + 1, _, _, by omega, by go_num, by rw [Hstep2.out]; exact hA3, hA4, HK4.out.trans hA5⟩
                    case measure => simp [intOf]; omega)
            · have Hstep2 := hid (Hstep.out.trans (by rw [if_pos rfl, if_neg hth0, Int.toNat_natCast, if_neg hz]))
              have hzb : (nth known t == 0) = false := by simpa using hz
              have Hz := hid hz
              clear Hstep hz
              go_wp2
              go_quiet (fail)
              go_wp2
              go_roundw
              case rel => exact ⟨k + 1, oa', oc', by omega, by go_num, by rw [Hstep2.out]; exact Hd2.out.kept (below_drewN (Below.refl _ _) _), below_drewN HB2.out _, HK2.out⟩
              case measure => simp [intOf]; omega
    · obtain rfl : k = rs.length := by omega
      go_wp2
      rw [Exit.noGoto_normal]
      refine bodyPost_end (results_none rfl _ _ _) rfl ?_
      exact ⟨oa', oc', rfl, Hdk.out, HBk.out, HKk.out⟩

end Go.Proofs.Ytkioejdddmnbmaa
