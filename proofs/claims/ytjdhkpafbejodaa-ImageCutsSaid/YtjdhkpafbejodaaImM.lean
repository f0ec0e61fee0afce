/- slices.Equal of three kinds; the program's Same and Size. -/
import Derived.Test.YtjdhkpafbejodaaImE
namespace Go.Proofs.Ytjdhkpafbejodaa
open Go.RowKit
namespace Im
open Sm Bi
theorem RI.drawn {w w' : World} {k : Nat} {a : Option Addr} {rows : List (List Int)} (h : RI w k a rows) (hd : Drawn w w') : RI w' k a rows := h.keep (hd.below _)
theorem take_eq {X Y : List (List Int)} {k : Nat} {r : List Int} (h : X.take k = Y.take k) (hx : X[k]? = some r) (hy : Y[k]? = some r) : X.take (k + 1) = Y.take (k + 1) := by
  have h1 := (List.getElem?_eq_some_iff.1 hx)
  have h2 := (List.getElem?_eq_some_iff.1 hy)
  obtain ⟨l1, e1⟩ := h1
  obtain ⟨l2, e2⟩ := h2
  rw [List.take_succ_eq_append_getElem l1, List.take_succ_eq_append_getElem l2, h, e1, e2]
def TkEq (X Y : List (List Int)) (k : Nat) : Prop := X.take k = Y.take k
theorem tk_0 (X Y : List (List Int)) : TkEq X Y 0 := by unfold TkEq; simp
theorem TkEq.next {X Y : List (List Int)} {k : Nat} {r : List Int} (h : TkEq X Y k) (hx : X[k]? = some r) (hy : Y[k]? = some r) : TkEq X Y (k + 1) := take_eq h hx hy
theorem TkEq.all {X Y : List (List Int)} (h : TkEq X Y X.length) (hl : X.length = Y.length) : X = Y := by
  unfold TkEq at h
  rw [List.take_of_length_le (Nat.le_refl _), List.take_of_length_le (by omega)] at h
  exact h
set_option maxRecDepth 100000 in
set_option maxHeartbeats 4000000 in
theorem equal1 (a b : Option Addr) (c1 c2 : Nat) (X Y : List (List Int)) (w : World) (hX : RI w 3 a X) (hY : RI w 3 b Y) (hm : X.length ≤ 1000000) :
    Calls Try.prog 33 #[.slice a X.length c1, .slice b Y.length c2] w fun e w' => e = .returned (.bool (decide (X = Y))) ∧ Drawn w w' := by
  have H1 := Lib.hid hX
  have H2 := Lib.hid hY
  clear hX hY
  obtain ⟨n, hn⟩ : ∃ n, X.length = n := ⟨_, rfl⟩
  obtain ⟨m, hmm⟩ : ∃ m, Y.length = m := ⟨_, rfl⟩
  rw [hn] at hm ⊢
  rw [hmm]
  have HN := Lib.hid (And.intro hn hmm)
  clear hn hmm
  by_cases hl : n = m
  · subst hl
    go_enter Try.func33, Try.ntmps33
    go_wp2
    go_loopw [13] (fun i wr => ∃ k : Nat, k ≤ n ∧ i = .int .i64 k ∧ Drawn w wr ∧ TkEq X Y k) (fun i _ => n - (intOf i).toNat)
    case atStart => exact ⟨0, by omega, rfl, Drawn.refl _, tk_0 X Y⟩
    case round =>
      obtain ⟨k, hk, rfl, hd, htk⟩ := hrel
      have HT := Lib.hid htk
      have HD := Lib.hid hd
      by_cases hlt : k < n
      · obtain ⟨b1, o1, x, y, z, rfl, hb1, hx, p0, p1, p2⟩ := ri3 (H1.out.drawn hd) (k := k) (by rw [HN.out.1]; exact hlt)
        obtain ⟨b2, o2, a', b', c', rfl, hb2, hy, q0, q1, q2⟩ := ri3 (H2.out.drawn hd) (k := k) (by rw [HN.out.2]; exact hlt)
        have hki0 : (0 : Int) ≤ (k : Int) := by omega
        have hki1 : (k : Int) < (n : Int) := by omega
        have HX := Lib.hid (And.intro hx hy)
        clear hx hy hd htk
        by_cases e0 : x = a'
        case neg =>
          have hne : (x == a') = false := by simpa using e0
          have HNE := Lib.hid (show X ≠ Y from fun h9 => by rw [h9] at HX; have h8 := Option.some.inj (HX.out.1.symm.trans HX.out.2); simp at h8; exact e0 h8.1)
          clear e0
          go_wp2
          go_quiet (fail)
          go_wp2
          go_ret
          exact ⟨by rw [decide_eq_false HNE.out]; rfl, HD.out.trans ⟨_, rfl⟩⟩
        subst e0
        by_cases e1 : y = b'
        case neg =>
          have hne : (y == b') = false := by simpa using e1
          have HNE := Lib.hid (show X ≠ Y from fun h9 => by rw [h9] at HX; have h8 := Option.some.inj (HX.out.1.symm.trans HX.out.2); simp at h8; exact e1 h8.1)
          clear e1
          go_wp2
          go_quiet (fail)
          go_wp2
          go_ret
          exact ⟨by rw [decide_eq_false HNE.out]; rfl, HD.out.trans ⟨_, rfl⟩⟩
        subst e1
        by_cases e2 : z = c'
        case neg =>
          have hne : (z == c') = false := by simpa using e2
          have HNE := Lib.hid (show X ≠ Y from fun h9 => by rw [h9] at HX; have h8 := Option.some.inj (HX.out.1.symm.trans HX.out.2); simp at h8; exact e2 h8)
          clear e2
          go_wp2
          go_quiet (fail)
          go_wp2
          go_ret
          exact ⟨by rw [decide_eq_false HNE.out]; rfl, HD.out.trans ⟨_, rfl⟩⟩
        subst e2
        have HNX := Lib.hid (HT.out.next HX.out.1 HX.out.2)
        go_wp2
        go_quiet (fail)
        go_wp2
        go_roundw
        case rel => exact ⟨k + 1, by omega, by go_num, HD.out.trans ⟨_, rfl⟩, HNX.out⟩
        case measure => simp [intOf]; omega
      · obtain rfl : n = k := by omega
        have hall : X = Y := TkEq.all (by rw [HN.out.1]; exact htk) (by rw [HN.out.1, HN.out.2])
        have HA := Lib.hid hall
        clear hall htk hd
        go_wp2
        go_ret
        exact ⟨by rw [decide_eq_true HA.out]; rfl, HD.out⟩
  · have hne : (X = Y) = False := eq_false (fun h9 => hl (by rw [← HN.out.1, ← HN.out.2, h9]))
    have hdf : decide (X = Y) = false := by simp [hne]
    have HNE := Lib.hid hdf
    have hb : ((n : Int) != (m : Int)) = true := by simpa using (by omega : ¬ (n : Int) = (m : Int))
    have hb2 : ((n : Int) == (m : Int)) = false := by simpa using (by omega : ¬ (n : Int) = (m : Int))
    clear hne hdf
    go_enter Try.func33, Try.ntmps33
    go_wp2
    go_ret
    exact ⟨by rw [HNE.out]; rfl, Drawn.refl _⟩
set_option maxRecDepth 100000 in
set_option maxHeartbeats 4000000 in
theorem equal2 (a b : Option Addr) (c1 c2 : Nat) (X Y : List (List Int)) (w : World) (hX : RI w 3 a X) (hY : RI w 3 b Y) (hm : X.length ≤ 1000000) :
    Calls Try.prog 34 #[.slice a X.length c1, .slice b Y.length c2] w fun e w' => e = .returned (.bool (decide (X = Y))) ∧ Drawn w w' := by
  have H1 := Lib.hid hX
  have H2 := Lib.hid hY
  clear hX hY
  obtain ⟨n, hn⟩ : ∃ n, X.length = n := ⟨_, rfl⟩
  obtain ⟨m, hmm⟩ : ∃ m, Y.length = m := ⟨_, rfl⟩
  rw [hn] at hm ⊢
  rw [hmm]
  have HN := Lib.hid (And.intro hn hmm)
  clear hn hmm
  by_cases hl : n = m
  · subst hl
    go_enter Try.func34, Try.ntmps34
    go_wp2
    go_loopw [13] (fun i wr => ∃ k : Nat, k ≤ n ∧ i = .int .i64 k ∧ Drawn w wr ∧ TkEq X Y k) (fun i _ => n - (intOf i).toNat)
    case atStart => exact ⟨0, by omega, rfl, Drawn.refl _, tk_0 X Y⟩
    case round =>
      obtain ⟨k, hk, rfl, hd, htk⟩ := hrel
      have HT := Lib.hid htk
      have HD := Lib.hid hd
      by_cases hlt : k < n
      · obtain ⟨b1, o1, x, y, z, rfl, hb1, hx, p0, p1, p2⟩ := ri3 (H1.out.drawn hd) (k := k) (by rw [HN.out.1]; exact hlt)
        obtain ⟨b2, o2, a', b', c', rfl, hb2, hy, q0, q1, q2⟩ := ri3 (H2.out.drawn hd) (k := k) (by rw [HN.out.2]; exact hlt)
        have hki0 : (0 : Int) ≤ (k : Int) := by omega
        have hki1 : (k : Int) < (n : Int) := by omega
        have HX := Lib.hid (And.intro hx hy)
        clear hx hy hd htk
        by_cases e0 : x = a'
        case neg =>
          have hne : (x == a') = false := by simpa using e0
          have HNE := Lib.hid (show X ≠ Y from fun h9 => by rw [h9] at HX; have h8 := Option.some.inj (HX.out.1.symm.trans HX.out.2); simp at h8; exact e0 h8.1)
          clear e0
          go_wp2
          go_quiet (fail)
          go_wp2
          go_ret
          exact ⟨by rw [decide_eq_false HNE.out]; rfl, HD.out.trans ⟨_, rfl⟩⟩
        subst e0
        by_cases e1 : y = b'
        case neg =>
          have hne : (y == b') = false := by simpa using e1
          have HNE := Lib.hid (show X ≠ Y from fun h9 => by rw [h9] at HX; have h8 := Option.some.inj (HX.out.1.symm.trans HX.out.2); simp at h8; exact e1 h8.1)
          clear e1
          go_wp2
          go_quiet (fail)
          go_wp2
          go_ret
          exact ⟨by rw [decide_eq_false HNE.out]; rfl, HD.out.trans ⟨_, rfl⟩⟩
        subst e1
        by_cases e2 : z = c'
        case neg =>
          have hne : (z == c') = false := by simpa using e2
          have HNE := Lib.hid (show X ≠ Y from fun h9 => by rw [h9] at HX; have h8 := Option.some.inj (HX.out.1.symm.trans HX.out.2); simp at h8; exact e2 h8)
          clear e2
          go_wp2
          go_quiet (fail)
          go_wp2
          go_ret
          exact ⟨by rw [decide_eq_false HNE.out]; rfl, HD.out.trans ⟨_, rfl⟩⟩
        subst e2
        have HNX := Lib.hid (HT.out.next HX.out.1 HX.out.2)
        go_wp2
        go_quiet (fail)
        go_wp2
        go_roundw
        case rel => exact ⟨k + 1, by omega, by go_num, HD.out.trans ⟨_, rfl⟩, HNX.out⟩
        case measure => simp [intOf]; omega
      · obtain rfl : n = k := by omega
        have hall : X = Y := TkEq.all (by rw [HN.out.1]; exact htk) (by rw [HN.out.1, HN.out.2])
        have HA := Lib.hid hall
        clear hall htk hd
        go_wp2
        go_ret
        exact ⟨by rw [decide_eq_true HA.out]; rfl, HD.out⟩
  · have hne : (X = Y) = False := eq_false (fun h9 => hl (by rw [← HN.out.1, ← HN.out.2, h9]))
    have hdf : decide (X = Y) = false := by simp [hne]
    have HNE := Lib.hid hdf
    have hb : ((n : Int) != (m : Int)) = true := by simpa using (by omega : ¬ (n : Int) = (m : Int))
    have hb2 : ((n : Int) == (m : Int)) = false := by simpa using (by omega : ¬ (n : Int) = (m : Int))
    clear hne hdf
    go_enter Try.func34, Try.ntmps34
    go_wp2
    go_ret
    exact ⟨by rw [HNE.out]; rfl, Drawn.refl _⟩
set_option maxRecDepth 100000 in
set_option maxHeartbeats 4000000 in
theorem equal3 (a b : Option Addr) (c1 c2 : Nat) (X Y : List (List Int)) (w : World) (hX : RI w 10 a X) (hY : RI w 10 b Y) (hm : X.length ≤ 1000000) :
    Calls Try.prog 35 #[.slice a X.length c1, .slice b Y.length c2] w fun e w' => e = .returned (.bool (decide (X = Y))) ∧ Drawn w w' := by
  have H1 := Lib.hid hX
  have H2 := Lib.hid hY
  clear hX hY
  obtain ⟨n, hn⟩ : ∃ n, X.length = n := ⟨_, rfl⟩
  obtain ⟨m, hmm⟩ : ∃ m, Y.length = m := ⟨_, rfl⟩
  rw [hn] at hm ⊢
  rw [hmm]
  have HN := Lib.hid (And.intro hn hmm)
  clear hn hmm
  by_cases hl : n = m
  · subst hl
    go_enter Try.func35, Try.ntmps35
    go_wp2
    go_loopw [13] (fun i wr => ∃ k : Nat, k ≤ n ∧ i = .int .i64 k ∧ Drawn w wr ∧ TkEq X Y k) (fun i _ => n - (intOf i).toNat)
    case atStart => exact ⟨0, by omega, rfl, Drawn.refl _, tk_0 X Y⟩
    case round =>
      obtain ⟨k, hk, rfl, hd, htk⟩ := hrel
      have HT := Lib.hid htk
      have HD := Lib.hid hd
      by_cases hlt : k < n
      · obtain ⟨b1, o1, x0, x1, x2, x3, x4, x5, x6, x7, x8, x9, rfl, hb1, hx, p0, p1, p2, p3, p4, p5, p6, p7, p8, p9⟩ := ri10 (H1.out.drawn hd) (k := k) (by rw [HN.out.1]; exact hlt)
        obtain ⟨b2, o2, y0, y1, y2, y3, y4, y5, y6, y7, y8, y9, rfl, hb2, hy, q0, q1, q2, q3, q4, q5, q6, q7, q8, q9⟩ := ri10 (H2.out.drawn hd) (k := k) (by rw [HN.out.2]; exact hlt)
        have hki0 : (0 : Int) ≤ (k : Int) := by omega
        have hki1 : (k : Int) < (n : Int) := by omega
        have HX := Lib.hid (And.intro hx hy)
        clear hx hy hd htk
        by_cases e0 : x0 = y0
        case neg =>
          have hne : (x0 == y0) = false := by simpa using e0
          have HNE := Lib.hid (show X ≠ Y from fun h9 => by rw [h9] at HX; have h8 := Option.some.inj (HX.out.1.symm.trans HX.out.2); simp at h8; exact e0 h8.1)
          clear e0
          go_wp2
          go_quiet (fail)
          go_wp2
          go_ret
          exact ⟨by rw [decide_eq_false HNE.out]; rfl, HD.out.trans ⟨_, rfl⟩⟩
        subst e0
        by_cases e1 : x1 = y1
        case neg =>
          have hne : (x1 == y1) = false := by simpa using e1
          have HNE := Lib.hid (show X ≠ Y from fun h9 => by rw [h9] at HX; have h8 := Option.some.inj (HX.out.1.symm.trans HX.out.2); simp at h8; exact e1 h8.1)
          clear e1
          go_wp2
          go_quiet (fail)
          go_wp2
          go_ret
          exact ⟨by rw [decide_eq_false HNE.out]; rfl, HD.out.trans ⟨_, rfl⟩⟩
        subst e1
        by_cases e2 : x2 = y2
        case neg =>
          have hne : (x2 == y2) = false := by simpa using e2
          have HNE := Lib.hid (show X ≠ Y from fun h9 => by rw [h9] at HX; have h8 := Option.some.inj (HX.out.1.symm.trans HX.out.2); simp at h8; exact e2 h8.1)
          clear e2
          go_wp2
          go_quiet (fail)
          go_wp2
          go_ret
          exact ⟨by rw [decide_eq_false HNE.out]; rfl, HD.out.trans ⟨_, rfl⟩⟩
        subst e2
        by_cases e3 : x3 = y3
        case neg =>
          have hne : (x3 == y3) = false := by simpa using e3
          have HNE := Lib.hid (show X ≠ Y from fun h9 => by rw [h9] at HX; have h8 := Option.some.inj (HX.out.1.symm.trans HX.out.2); simp at h8; exact e3 h8.1)
          clear e3
          go_wp2
          go_quiet (fail)
          go_wp2
          go_ret
          exact ⟨by rw [decide_eq_false HNE.out]; rfl, HD.out.trans ⟨_, rfl⟩⟩
        subst e3
        by_cases e4 : x4 = y4
        case neg =>
          have hne : (x4 == y4) = false := by simpa using e4
          have HNE := Lib.hid (show X ≠ Y from fun h9 => by rw [h9] at HX; have h8 := Option.some.inj (HX.out.1.symm.trans HX.out.2); simp at h8; exact e4 h8.1)
          clear e4
          go_wp2
          go_quiet (fail)
          go_wp2
          go_ret
          exact ⟨by rw [decide_eq_false HNE.out]; rfl, HD.out.trans ⟨_, rfl⟩⟩
        subst e4
        by_cases e5 : x5 = y5
        case neg =>
          have hne : (x5 == y5) = false := by simpa using e5
          have HNE := Lib.hid (show X ≠ Y from fun h9 => by rw [h9] at HX; have h8 := Option.some.inj (HX.out.1.symm.trans HX.out.2); simp at h8; exact e5 h8.1)
          clear e5
          go_wp2
          go_quiet (fail)
          go_wp2
          go_ret
          exact ⟨by rw [decide_eq_false HNE.out]; rfl, HD.out.trans ⟨_, rfl⟩⟩
        subst e5
        by_cases e6 : x6 = y6
        case neg =>
          have hne : (x6 == y6) = false := by simpa using e6
          have HNE := Lib.hid (show X ≠ Y from fun h9 => by rw [h9] at HX; have h8 := Option.some.inj (HX.out.1.symm.trans HX.out.2); simp at h8; exact e6 h8.1)
          clear e6
          go_wp2
          go_quiet (fail)
          go_wp2
          go_ret
          exact ⟨by rw [decide_eq_false HNE.out]; rfl, HD.out.trans ⟨_, rfl⟩⟩
        subst e6
        by_cases e7 : x7 = y7
        case neg =>
          have hne : (x7 == y7) = false := by simpa using e7
          have HNE := Lib.hid (show X ≠ Y from fun h9 => by rw [h9] at HX; have h8 := Option.some.inj (HX.out.1.symm.trans HX.out.2); simp at h8; exact e7 h8.1)
          clear e7
          go_wp2
          go_quiet (fail)
          go_wp2
          go_ret
          exact ⟨by rw [decide_eq_false HNE.out]; rfl, HD.out.trans ⟨_, rfl⟩⟩
        subst e7
        by_cases e8 : x8 = y8
        case neg =>
          have hne : (x8 == y8) = false := by simpa using e8
          have HNE := Lib.hid (show X ≠ Y from fun h9 => by rw [h9] at HX; have h8 := Option.some.inj (HX.out.1.symm.trans HX.out.2); simp at h8; exact e8 h8.1)
          clear e8
          go_wp2
          go_quiet (fail)
          go_wp2
          go_ret
          exact ⟨by rw [decide_eq_false HNE.out]; rfl, HD.out.trans ⟨_, rfl⟩⟩
        subst e8
        by_cases e9 : x9 = y9
        case neg =>
          have hne : (x9 == y9) = false := by simpa using e9
          have HNE := Lib.hid (show X ≠ Y from fun h9 => by rw [h9] at HX; have h8 := Option.some.inj (HX.out.1.symm.trans HX.out.2); simp at h8; exact e9 h8)
          clear e9
          go_wp2
          go_quiet (fail)
          go_wp2
          go_ret
          exact ⟨by rw [decide_eq_false HNE.out]; rfl, HD.out.trans ⟨_, rfl⟩⟩
        subst e9
        have HNX := Lib.hid (HT.out.next HX.out.1 HX.out.2)
        go_wp2
        go_quiet (fail)
        go_wp2
        go_roundw
        case rel => exact ⟨k + 1, by omega, by go_num, HD.out.trans ⟨_, rfl⟩, HNX.out⟩
        case measure => simp [intOf]; omega
      · obtain rfl : n = k := by omega
        have hall : X = Y := TkEq.all (by rw [HN.out.1]; exact htk) (by rw [HN.out.1, HN.out.2])
        have HA := Lib.hid hall
        clear hall htk hd
        go_wp2
        go_ret
        exact ⟨by rw [decide_eq_true HA.out]; rfl, HD.out⟩
  · have hne : (X = Y) = False := eq_false (fun h9 => hl (by rw [← HN.out.1, ← HN.out.2, h9]))
    have hdf : decide (X = Y) = false := by simp [hne]
    have HNE := Lib.hid hdf
    have hb : ((n : Int) != (m : Int)) = true := by simpa using (by omega : ¬ (n : Int) = (m : Int))
    have hb2 : ((n : Int) == (m : Int)) = false := by simpa using (by omega : ¬ (n : Int) = (m : Int))
    clear hne hdf
    go_enter Try.func35, Try.ntmps35
    go_wp2
    go_ret
    exact ⟨by rw [HNE.out]; rfl, Drawn.refl _⟩
end Im
end Go.Proofs.Ytjdhkpafbejodaa
