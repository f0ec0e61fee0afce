/- The law ToneLines: its walk. -/
import Derived.Test.YtdmgglcadjhnhaaToneF
namespace Go.Proofs.Ytdmgglcadjhnhaa
open Go.RowKit
namespace To
open Sm Ph
attribute [local irreducible] sz arg syms
theorem big_law (s : ByteArray) (w : World) (hs : 200 < s.size) (hm : s.size ≤ 9223372036854775807) :
    Calls Try.prog 3 #[.string s] w fun e w' => e = .returned (.bool true) ∧ Keeps [] w w' := by
  go_enter Try.func3, Try.ntmps3
  go_wp2_with fail
  refine (live_any _).mono ?_
  rintro e w1 ⟨rfl, k1⟩
  go_wp2_with fail
  go_ret
  exact ⟨rfl, k1⟩
set_option maxRecDepth 100000 in
set_option maxHeartbeats 1000000 in
theorem small_law (s : ByteArray) (w : World) (hs : s.size ≤ 200) :
    Calls Try.prog 3 #[.string s] w fun e w' => e = .returned (.bool true) ∧ Keeps [] w w' := by
  go_enter Try.func3, Try.ntmps3
  go_wp2_with fail
  refine (line_any s _ hs).mono ?_
  rintro e w1 ⟨a1, c1, rfl, o1, k1⟩
  have O1 := Lib.hid o1
  have K1 := Lib.hid k1
  clear o1 k1
  go_wp2_with fail
  refine (rline_any s _ hs).mono ?_
  rintro e w2 ⟨a2, c2, rfl, o2, k2⟩
  have O1' := Lib.hid (ownsRow_keeps O1.out k2 (by simp))
  have O2 := Lib.hid o2
  have HK := Lib.hid (K1.out.trans k2)
  clear O1 o2 k2 K1
  generalize w1.heap.size = B2 at *
  generalize hn : 4 * s.size = n at *
  have HN : Hid (n = 4 * s.size) := Lib.hid hn.symm
  have hn8 : n ≤ 800 := by omega
  clear hn
  go_wp2_with fail
  go_loopw [5] (fun i wr => ∃ k : Nat, k ≤ n ∧ i = .int .i64 k ∧ Drawn w2 wr) (fun i _ => n - (intOf i).toNat)
  case atStart => exact ⟨0, by omega, rfl, Drawn.refl _⟩
  case round =>
    obtain ⟨k, hk, rfl, hd⟩ := hrel
    by_cases hlt : k < n
    · obtain ⟨g1, cap1, hv1, _, hg1⟩ := O1'.out.form (by omega)
      obtain ⟨g2, cap2, hv2, _, hg2⟩ := O2.out.form (by omega)
      injection hv1 with e1 e2 e3
      subst e1
      clear e2 e3
      injection hv2 with e1 e2 e3
      subst e1
      clear e2 e3
      have hx := syms_arg s k (by have := HN.out; omega)
      have q1 : wr.cell? ⟨g1, k, none⟩ = some (.complex .f64 (sz (arg s k)).1 (sz (arg s k)).2) := by
        rw [hd.cell, ← add_off]; exact O1'.out.cells (g := g1) rfl k _ hx
      have q2 : wr.cell? ⟨g2, k, none⟩ = some (.complex .f64 (sz (arg s k)).1 (sz (arg s k)).2) := by
        rw [hd.cell, ← add_off]; exact O2.out.cells (g := g2) rfl k _ hx
      have HC := Lib.hid (fun w => same_any (arg s k) w)
      have HD := Lib.hid hd
      have hk0 : (0 : Int) ≤ (k : Int) := by omega
      have hk1 : (k : Int) < (n : Int) := by omega
      clear hx hd
      go_wp2_with fail
      go_quiet ((go_at_call 7; with_reducible exact quiet_eq (HC.out _)))
      go_wp2
      go_roundw
      case rel => exact ⟨k + 1, by omega, by go_num, HD.out.draws _⟩
      case measure => simp [intOf]; omega
    · obtain rfl : k = n := by omega
      have HR := Lib.hid (read_any s w.heap.size a1 k c1 wr hs HN.out (ownsRow_keeps O1'.out ((Keeps.refl [] w2).drawn hd) (by simp)))
      have HK2 := Lib.hid (HK.out.drawn hd)
      clear hd
      go_wp2_with fail
      refine HR.out.mono ?_
      rintro e w3 ⟨rfl, k3⟩
      go_wp2_with fail
      refine (live_any _).mono ?_
      rintro e w4 ⟨rfl, k4⟩
      have HK4 := Lib.hid ((HK2.out.trans k3).trans k4)
      clear k3 k4 HK2 HR
      go_wp2_with fail
      go_ret
      exact ⟨rfl, HK4.out⟩
theorem law (s : ByteArray) (w : World) (hm : s.size ≤ maxLen) :
    Calls Try.prog 3 #[.string s] w fun e w' => e = .returned (.bool true) ∧ Below w.heap.size w w' := by
  by_cases h : s.size ≤ 200
  · exact (small_law s w h).mono fun _ _ ⟨he, hk⟩ => ⟨he, hk.all⟩
  · unfold maxLen at hm
    exact (big_law s w (by omega) hm).mono fun _ _ ⟨he, hk⟩ => ⟨he, hk.all⟩
end To
end Go.Proofs.Ytdmgglcadjhnhaa
