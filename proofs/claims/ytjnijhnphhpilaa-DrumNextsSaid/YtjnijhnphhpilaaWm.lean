/- Walks: Profile. -/
import Derived.Test.YtjnijhnphhpilaaWl
namespace Go.Proofs.Ytjnijhnphhpilaa
open Go.RowKit Go.Shelf
attribute [local go_sem ↓] wp_get wp_get0 wp_getS wp73 wp71 wps73 wps71 wpa73 wpb75 wpx75

/-- an append onto a full slice, at a step of a region that draws its order -/
theorem step_app_full {ops : Array Oper} {o : Oper} {a : Act} {K : Act → World → Prop} {Q : Exit → Act → World → Prop} {E : Prop} (w : World) (hgd : o.guard = none) (s x : Operand)
    (hop : o.op = Op.call { callee := Callee.builtin Builtin.append, args := #[s, x], argTypes := #[22, 22] })
    (ao : Option Addr) (m cap : Nat) (xs : List Int) (hm : xs.length = m) (hs : a.eval s = .slice ao m cap) (hat : IntsAt w ao xs) (hnil : ao = none → m = 0 ∧ cap = 0)
    (ad : Addr) (u : Int) (hx : a.eval x = .slice (some ad) 1 1) (hu : w.cell? ad = some (.int .i64 u)) (hfull : cap < m + 1) (hb : m ≤ 1000000)
    (hK : ∀ b' cap' w', Below w.heap.size w w' → w.heap.size ≤ b' → IntsAt w' (some ⟨b', 0, none⟩) (xs ++ [u]) → m + 1 ≤ cap' →
      K (a.put o.dst (.slice (some ⟨b', 0, none⟩) (m + 1) cap')) w') :
    if Region.wanted o (yielded ops a.tmps) = true then Oper.wp Try.prog o a w K Q else E := by
  have hw : Region.wanted o (yielded ops a.tmps) = true := by simp [Region.wanted, hgd]
  rw [if_pos hw]
  subst hm
  obtain ⟨b', cap', w', hrun, h1, h2, h3, h4⟩ := run_app_full o.type w ao cap xs hat hnil ad u hu hfull hb
  unfold Oper.wp
  simp [execOp, hop, resolve, invoke, builtin, hs, hx, hrun, Result.andThen, Oper.upon]
  exact hK b' cap' w' h1 h2 h3 h4

def profTo (xs : List Int) : Nat → List Int
  | 0 => [0]
  | k + 1 => profTo xs k ++ [((rdAll (xs.take (k + 1))).places : Int)]

theorem profTo_length (xs : List Int) : ∀ k, (profTo xs k).length = k + 1
  | 0 => rfl
  | k + 1 => by simp [profTo, profTo_length xs k]

def profR (xs : List Int) : List Int := if checkRow xs = 0 then profTo xs xs.length else []

set_option maxRecDepth 100000 in
set_option maxHeartbeats 1000000 in
theorem profile_c (a : Option Addr) (cap : Nat) (xs : List Int) (w : World) (hx : IntsAt w a xs) (hb : xs.length ≤ 1000000) :
    Calls Try.prog 29 #[.slice a xs.length cap] w (Ret2 w (profR xs) (checkRow xs)) := by
  have H := hid (checkRow_c a cap xs w hx hb)
  have Hx := hid hx; clear hx
  by_cases h : checkRow xs = 0
  · obtain ⟨hlen, hbits⟩ := checkRow_zero h
    have hP : profR xs = profTo xs xs.length := by unfold profR; rw [if_pos h]
    obtain ⟨P, hP'⟩ : ∃ P, P = profR xs := ⟨_, rfl⟩
    rw [h] at H ⊢
    rw [← hP']
    have HP := hid (hP'.trans hP)
    have Hb := hid hbits
    clear h hP hP' hbits
    go_enter Try.func29, Try.ntmps29
    go_wp2_with fail
    refine H.out.mono ?_
    rintro e w1 ⟨rfl, hB1⟩
    have HB1 := hid hB1; clear hB1
    go_wp2
    have hB2 : Below w1.heap.size w1 ((w1.alloc (.cells zero75 75)).alloc (.cells #[.int .i64 0] 3)) := ((Below.refl _ _).alloc (Nat.le_refl _) _).alloc (by simp) _
    go_loopw [7, 22] (fun s i wr => ∃ (k b' oc : Nat), k ≤ xs.length ∧ i = .int .i64 k ∧ s = .slice (some ⟨b', 0, none⟩) (k + 1) oc ∧ k + 1 ≤ oc ∧ w1.heap.size < b' ∧ IntsAt wr (some ⟨b', 0, none⟩) (profTo xs k) ∧
      RdM wr w1.heap.size (rdAll (xs.take k)) ∧ Below w.heap.size w wr) (fun _ i _ => xs.length - (intOf i).toNat)
    case atStart => exact ⟨0, w1.heap.size + 1, 1, Nat.zero_le _, rfl, rfl, Nat.le_refl _, by omega, intsAt_new (w1.alloc (.cells zero75 75)) [0] _ 3 (by simp), (rdM_new w1).mono ((Below.refl _ _).alloc (Nat.le_refl _) _), bstep HB1.out hB2⟩
    case round =>
      obtain ⟨k, b', oc, hk, rfl, rfl, hoc, hb', hout, hm, hB⟩ := hrel
      obtain ⟨wq, rfl⟩ : ∃ wq : World, wq = wr := ⟨_, rfl⟩
      by_cases hlt : k < xs.length
      · obtain ⟨ba, off, rfl, hc⟩ := (Hx.out.mono hB).at hlt
        have hr := readM w1.heap.size (rdAll (xs.take k)) (nth xs k) wq hm (rdAll_ok Hb.out (by omega) k hk) (isBits_nth Hb.out k)
        have Hr := hid hr; have HB := hid hB; have Hout := hid hout
        clear hr hB hm hout hB2
        go_wp2_with fail
        refine Hr.out.mono ?_
        rintro e w2 ⟨rfl, hm2, ho2⟩
        rw [← rdAll_take_succ hlt] at hm2
        have hpl2 := hm2.places
        have hout2 := Hout.out.only ho2 (fun b off e _ h => by cases e; omega)
        have hB3 := HB.out.trans (ho2.below HB.out.size (by intro j hj; have := HB1.out.size; omega))
        have hA1 : ∀ o, IntsAt (w2.alloc o).drew (some ⟨b', 0, none⟩) (profTo xs k) := fun o => hout2.mono (((Below.refl _ _).alloc (Nat.le_refl _) o).drew)
        have hbs : w1.heap.size < w2.heap.size := by obtain ⟨_, _, _, h, _⟩ := hm2; exact h.lt
        have Hm2 := hid hm2; have HB3 := hid hB3; have HA1 := hid hA1
        clear hm2 hB3 hout2 ho2 hA1 hc
        have hs1 : (0 : Int) ≤ (k : Int) + 1 := by omega
        have hs2 : (k : Int) + 1 ≤ (oc : Int) := by omega
        go_wp2
        go_region_held3 (fun w' => w'.cell? ⟨w1.heap.size, 82, none⟩ = some (.int .i64 (rdAll (xs.take (k + 1))).places)) ((first | go_keep | (refine cstep (w := (w2.alloc (.cells #[.int .i64 (rdAll (xs.take (k + 1))).places] 3)).drew) ?_ (by assumption); exact cstep hpl2 (((Below.refl _ _).alloc (Nat.le_refl _) _).drew))))
          ((refine step_app_full _ (by rfl) _ _ (by rfl) (some ⟨b', 0, none⟩) (k + 1) (k + 1) (profTo xs k) (profTo_length xs k) (by rfl) (HA1.out _) (by intro h; cases h) _ (rdAll (xs.take (k + 1))).places (by rfl) (by simp [go_sem]) (by omega) (by omega) ?_; intro b5 c5 w5 hB5 hb5 hat5 hc5))
        all_goals (
          have hB6 : Below w2.heap.size w2 w5 := bstep (((Below.refl w2.heap.size w2).alloc (Nat.le_refl _) (.cells #[.int .i64 (rdAll (xs.take (k + 1))).places] 3)).drew) hB5
          have hb6 : w1.heap.size < b5 := by simp at hb5; omega
          have HB6 := hid hB6; have Hat5 := hid hat5
          clear hB6 hat5 hB5 hpl2
          go_wp2
          go_roundw
          case rel => exact ⟨k + 1, b5, c5, by omega, by go_num, rfl, by omega, hb6, Hat5.out, Hm2.out.mono HB6.out, bstep HB3.out HB6.out⟩
          case measure => simp [intOf]; omega)
      · obtain rfl : k = xs.length := by omega
        have Hm := hid hm; have HB := hid hB; have Hout := hid hout
        clear hm hB hout hB2
        go_wp2
        go_ret2
        rw [HP.out]
        refine ⟨_, rfl, ⟨_, oc, by rw [profTo_length]; rfl, Hout.out, fun h => by cases h⟩, HB.out⟩
  · have hr : profR xs = [] := by unfold profR; rw [if_neg h]
    rw [hr]
    generalize checkRow xs = c at *
    have hcb : (c != 0) = true := by simp [h]
    have Hh := hid h
    clear h hr
    go_enter Try.func29, Try.ntmps29
    go_wp2_with fail
    refine H.out.mono ?_
    rintro e w1 ⟨rfl, hB1⟩
    go_wp2
    go_ret2
    exact ⟨_, rfl, Sl.nil _, hB1⟩

end Go.Proofs.Ytjnijhnphhpilaa
