/- Walk of the reference: Together. -/
import Derived.Test.YtjnijhnphhpilaaWx
namespace Go.Proofs.Ytjnijhnphhpilaa
open Go.RowKit Go.Shelf

theorem TgAt.start (w : World) (a1 a2 a3 a4 : Option Addr) (c1 c2 c3 c4 : Nat) (f g f2 g2 : List Int) :
    TgAt w (((w.alloc (.cells #[.slice a1 f.length c1, .slice a2 g.length c2] 24)).alloc (.cells #[.slice a3 f2.length c3, .slice a4 g2.length c4] 24)).alloc (.cells #[.slice none 0 0, .slice none 0 0] 24)) a1 a2 a3 a4 c1 c2 c3 c4 f g f2 g2 := by
  refine ⟨?_, ?_, heap3_3 w _ _ _, (((Below.refl _ _).alloc (Nat.le_refl _) _).alloc (by simp) _).alloc (by simp; omega) _⟩
  · exact za' (za' (heap_alloc_new _ _) _) _
  · have := za' (heap_alloc_new (w.alloc (.cells #[.slice a1 f.length c1, .slice a2 g.length c2] 24)) (.cells #[.slice a3 f2.length c3, .slice a4 g2.length c4] 24)) (.cells #[.slice none 0 0, .slice none 0 0] 24)
    simpa using this

/-- the end with an error: the drum that is returned is the empty one -/
theorem TgAt.err {w W : World} {a1 a2 a3 a4 : Option Addr} {c1 c2 c3 c4 : Nat} {f g f2 g2 : List Int} (T : TgAt w W a1 a2 a3 a4 c1 c2 c3 c4 f g f2 g2) (v1 v2 : Value) :
    Below w.heap.size w ((W.setCell ⟨w.heap.size + 2, 0, none⟩ v1).setCell ⟨w.heap.size + 2, 1, none⟩ v2) :=
  (T.below.setCell (by show w.heap.size ≤ w.heap.size + 2; omega) _).setCell (by show w.heap.size ≤ w.heap.size + 2; omega) _

set_option maxRecDepth 100000 in
set_option maxHeartbeats 4000000 in
theorem rTogether_c (a1 a2 a3 a4 : Option Addr) (c1 c2 c3 c4 : Nat) (f g f2 g2 : List Int) (w : World) (h1 : IntsAt w a1 f) (h2 : IntsAt w a2 g) (h3 : IntsAt w a3 f2) (h4 : IntsAt w a4 g2)
    (n1 : a1 = none → c1 = 0) (n3 : a3 = none → c3 = 0) (b1 : f.length ≤ 1000000) (b2 : g.length ≤ 1000000) (b3 : f2.length ≤ 1000000) (b4 : g2.length ≤ 1000000) :
    Calls Try.prog 44 #[.agg #[.slice a1 f.length c1, .slice a2 g.length c2], .agg #[.slice a3 f2.length c3, .slice a4 g2.length c4]] w (TogP w f g f2 g2) := by
  have H1 := hid (fun w' (hB : Below w.heap.size w w') => rCheckDrum_c a1 a2 c1 c2 f g w' (h1.mono hB) (h2.mono hB) b1 b2)
  have H2 := hid (fun w' (hB : Below w.heap.size w w') => rCheckDrum_c a3 a4 c3 c4 f2 g2 w' (h3.mono hB) (h4.mono hB) b3 b4)
  have HT := hid (fun (x1 : checkDrum f g = 0) (x2 : checkDrum f2 g2 = 0) (x3 : f.length + f2.length ≤ 40) w' (hB : Below w.heap.size w w') => togetherOf_c a1 a2 a3 a4 c1 c2 c3 c4 f g f2 g2 w' (h1.mono hB) (h2.mono hB) (h3.mono hB) (h4.mono hB) n1 n3 x1 x2 x3)
  have T0 := hid (TgAt.start w a1 a2 a3 a4 c1 c2 c3 c4 f g f2 g2)
  clear h1 h2 h3 h4 n1 n3
  unfold TogP
  by_cases hc1 : checkDrum f g = 0
  · by_cases hc2 : checkDrum f2 g2 = 0
    · have Hc1 := hid hc1; have Hc2 := hid hc2
      rw [hc1] at H1
      rw [hc2] at H2
      by_cases hn : 40 < f.length + f2.length
      · have he : togErr f g f2 g2 = 6 := by unfold togErr; rw [if_neg (by simp [hc1]), if_neg (by simp [hc2]), if_pos hn]
        have hfe : togFeed f g f2 g2 = [] := by unfold togFeed; rw [if_neg (by rw [he]; decide)]
        have hfi : togFirst f g f2 g2 = [] := by unfold togFirst; rw [if_neg (by rw [he]; decide)]
        rw [he, hfe, hfi]
        have hn2 : (40 : Int) < (f.length : Int) + (f2.length : Int) := by omega
        clear he hfe hfi hc1 hc2
        go_enter Try.func44, Try.ntmps44
        go_wp2_with fail
        obtain ⟨s1, s2, s3, s4, s5, s6, s7, s8⟩ := T0.out.said
        refine (H1.out _ T0.out.below).mono ?_
        rintro e w1 ⟨rfl, hB⟩
        have T1 := hid (T0.out.mono hB)
        clear hB T0 s1 s2 s3 s4 s5 s6 s7 s8
        obtain ⟨s1, s2, s3, s4, s5, s6, s7, s8⟩ := T1.out.said
        go_wp2_with fail
        refine (H2.out _ T1.out.below).mono ?_
        rintro e w2 ⟨rfl, hB⟩
        have T2 := hid (T1.out.mono hB)
        clear hB T1 s1 s2 s3 s4 s5 s6 s7 s8
        obtain ⟨s1, s2, s3, s4, s5, s6, s7, s8⟩ := T2.out.said
        go_wp2
        refine bodyPost_ret (ret24 rfl _ _ (w.heap.size + 2) _ _ rfl (set24 T2.out.d3 _ _)) rfl ?_
        exact ⟨_, rfl, T2.out.err _ _, _, _, rfl, Sl.nil _, Sl.nil _⟩
      · have he : togErr f g f2 g2 = 0 := by unfold togErr; rw [if_neg (by simp [hc1]), if_neg (by simp [hc2]), if_neg hn]
        have hfe : togFeed f g f2 g2 = timesF f f2 := by unfold togFeed; rw [if_pos he]
        have hfi : togFirst f g f2 g2 = xorL (playsF f g (f.length + f2.length)) (playsF f2 g2 (f.length + f2.length)) := by unfold togFirst; rw [if_pos he]; exact xorTo_xorL _ _ (playsF_length _ _ _)
        rw [he, hfe, hfi]
        have hn2 : ¬ (40 : Int) < (f.length : Int) + (f2.length : Int) := by omega
        have HT2 := hid (HT.out Hc1.out Hc2.out (by omega))
        clear he hfe hfi hc1 hc2
        go_enter Try.func44, Try.ntmps44
        go_wp2_with fail
        obtain ⟨s1, s2, s3, s4, s5, s6, s7, s8⟩ := T0.out.said
        refine (H1.out _ T0.out.below).mono ?_
        rintro e w1 ⟨rfl, hB⟩
        have T1 := hid (T0.out.mono hB)
        clear hB T0 s1 s2 s3 s4 s5 s6 s7 s8
        obtain ⟨s1, s2, s3, s4, s5, s6, s7, s8⟩ := T1.out.said
        go_wp2_with fail
        refine (H2.out _ T1.out.below).mono ?_
        rintro e w2 ⟨rfl, hB⟩
        have T2 := hid (T1.out.mono hB)
        clear hB T1 s1 s2 s3 s4 s5 s6 s7 s8
        obtain ⟨s1, s2, s3, s4, s5, s6, s7, s8⟩ := T2.out.said
        go_wp2_with fail
        refine (HT2.out _ T2.out.below).mono ?_
        rintro e w3 ⟨x, y, cx, cy, rfl, hx, hy, nx, ny, hB⟩
        have T3 := hid (T2.out.mono hB)
        have Hx := hid hx; have Hy := hid hy; have Nx := hid nx; have Ny := hid ny
        clear hB T2 s1 s2 s3 s4 s5 s6 s7 s8 hx hy nx ny
        obtain ⟨s1, s2, s3, s4, s5, s6, s7, s8⟩ := T3.out.said
        go_wp2
        refine bodyPost_ret (ret24 rfl _ _ (w.heap.size + 2) _ _ rfl (set24 T3.out.d3 _ _)) rfl ?_
        exact ⟨_, rfl, T3.out.err _ _, _, _, rfl, ⟨x, cx, by rw [timesF_length], Hx.out.set24 T3.out.d3 _ _, Nx.out⟩, ⟨y, cy, by rw [xorL_length, playsF_length], Hy.out.set24 T3.out.d3 _ _, Ny.out⟩⟩
    · have he : togErr f g f2 g2 = checkDrum f2 g2 := by unfold togErr; rw [if_neg (by simp [hc1]), if_pos hc2]
      have hfe : togFeed f g f2 g2 = [] := by unfold togFeed; rw [if_neg (by rw [he]; exact hc2)]
      have hfi : togFirst f g f2 g2 = [] := by unfold togFirst; rw [if_neg (by rw [he]; exact hc2)]
      rw [he, hfe, hfi]
      rw [hc1] at H1
      clear HT he hfe hfi
      generalize checkDrum f2 g2 = c at *
      have hcb : (c != 0) = true := by simp [hc2]
      clear hc1 hc2
      go_enter Try.func44, Try.ntmps44
      go_wp2_with fail
      obtain ⟨s1, s2, s3, s4, s5, s6, s7, s8⟩ := T0.out.said
      refine (H1.out _ T0.out.below).mono ?_
      rintro e w1 ⟨rfl, hB⟩
      have T1 := hid (T0.out.mono hB)
      clear hB T0 s1 s2 s3 s4 s5 s6 s7 s8
      obtain ⟨s1, s2, s3, s4, s5, s6, s7, s8⟩ := T1.out.said
      go_wp2_with fail
      refine (H2.out _ T1.out.below).mono ?_
      rintro e w2 ⟨rfl, hB⟩
      have T2 := hid (T1.out.mono hB)
      clear hB T1 s1 s2 s3 s4 s5 s6 s7 s8
      obtain ⟨s1, s2, s3, s4, s5, s6, s7, s8⟩ := T2.out.said
      go_wp2_with fail
      refine (H2.out _ T2.out.below).mono ?_
      rintro e w3 ⟨rfl, hB⟩
      have T3 := hid (T2.out.mono hB)
      clear hB T2 s1 s2 s3 s4 s5 s6 s7 s8
      obtain ⟨s1, s2, s3, s4, s5, s6, s7, s8⟩ := T3.out.said
      go_wp2
      refine bodyPost_ret (ret24 rfl _ _ (w.heap.size + 2) _ _ rfl (set24 T3.out.d3 _ _)) rfl ?_
      exact ⟨_, rfl, T3.out.err _ _, _, _, rfl, Sl.nil _, Sl.nil _⟩
  · have he : togErr f g f2 g2 = checkDrum f g := by unfold togErr; rw [if_pos hc1]
    have hfe : togFeed f g f2 g2 = [] := by unfold togFeed; rw [if_neg (by rw [he]; exact hc1)]
    have hfi : togFirst f g f2 g2 = [] := by unfold togFirst; rw [if_neg (by rw [he]; exact hc1)]
    rw [he, hfe, hfi]
    clear HT he hfe hfi
    generalize checkDrum f g = c at *
    have hcb : (c != 0) = true := by simp [hc1]
    clear hc1
    go_enter Try.func44, Try.ntmps44
    go_wp2_with fail
    obtain ⟨s1, s2, s3, s4, s5, s6, s7, s8⟩ := T0.out.said
    refine (H1.out _ T0.out.below).mono ?_
    rintro e w1 ⟨rfl, hB⟩
    have T1 := hid (T0.out.mono hB)
    clear hB T0 s1 s2 s3 s4 s5 s6 s7 s8
    obtain ⟨s1, s2, s3, s4, s5, s6, s7, s8⟩ := T1.out.said
    go_wp2_with fail
    refine (H1.out _ T1.out.below).mono ?_
    rintro e w2 ⟨rfl, hB⟩
    have T2 := hid (T1.out.mono hB)
    clear hB T1 s1 s2 s3 s4 s5 s6 s7 s8
    obtain ⟨s1, s2, s3, s4, s5, s6, s7, s8⟩ := T2.out.said
    go_wp2
    refine bodyPost_ret (ret24 rfl _ _ (w.heap.size + 2) _ _ rfl (set24 T2.out.d3 _ _)) rfl ?_
    exact ⟨_, rfl, T2.out.err _ _, _, _, rfl, Sl.nil _, Sl.nil _⟩

end Go.Proofs.Ytjnijhnphhpilaa
