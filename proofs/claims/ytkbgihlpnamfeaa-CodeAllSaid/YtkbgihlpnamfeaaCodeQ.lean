/- The law CodeAll: its walk. -/
import Derived.Test.YtkbgihlpnamfeaaCodeK
namespace Go.Proofs.Ytkbgihlpnamfeaa
open Go.RowKit
attribute [local go_sem] Bw.and255 Bw.and65535
namespace Co
open Sm
theorem own_empty (w : World) (base : Nat) (hb : base ≤ w.heap.size) (e : TypeId) (size : Nat) : (w.alloc (.cells #[] e)).ownsRow base e size (.slice (some ⟨w.heap.size, 0, none⟩) 0 0) 0 [] := by
  refine ⟨by simp, .inr ⟨w.heap.size, 0, #[], rfl, hb, heap_alloc_new w _, Nat.le_refl _, by decide, by simp, by simp⟩⟩
theorem below_drewN {B : Nat} {a b : World} (h : Below B a b) (q : Nat) : Below B a (b.drewN q) := ⟨h.os, h.tape, h.output, h.size, h.block⟩
theorem own_at {w : World} {base k : Nat} {s : ByteArray} {a : Option Addr} {c : Nat} (h : w.ownsRow base 24 3 (.slice a k c) k (rowTo s k)) (j : Nat) (hj : j < k) :
    ∃ g, a = some ⟨g, 0, none⟩ ∧ k ≤ c ∧ w.cell? ⟨g, j * 3, none⟩ = some (.int .u8 (fC s j)) ∧ w.cell? ⟨g, j * 3 + 1, none⟩ = some (.int .i64 (fX s j)) ∧ w.cell? ⟨g, j * 3 + 2, none⟩ = some (.int .i64 (fN s j)) := by
  have h' := h
  rcases h.2 with ⟨_, rfl⟩ | ⟨g, cap, cur, hv, _, _, hc, _⟩
  · omega
  · injection hv with e1 e2 e3
    subst e1
    subst e3
    refine ⟨g, rfl, hc, ?_, ?_, ?_⟩
    · exact (h'.cellAt (j * 3) (by omega)).trans (rowTo_at s k j 0 _ hj rfl)
    · exact (h'.cellAt (j * 3 + 1) (by omega)).trans (rowTo_at s k j 1 _ hj rfl)
    · exact (h'.cellAt (j * 3 + 2) (by omega)).trans (rowTo_at s k j 2 _ hj rfl)
attribute [local irreducible] tl fC fX fN okAt errAt rowTo mayB
theorem all_big (s : ByteArray) (w : World) (hs : ¬ s.size ≤ 400) (_ : s.size ≤ maxLen) : Calls Try.prog 6 #[.string s] w fun e w' => e = .returned (.bool true) ∧ Below w.heap.size w w' := by
  go_enter Try.func6, Try.ntmps6
  go_wp2_with (refine (live_any _).mono ?_; rintro e w9 ⟨rfl, hkl⟩)
  go_ret
  exact ⟨rfl, hkl⟩
set_option maxRecDepth 100000 in
set_option maxHeartbeats 2000000 in
theorem law_stop (s : ByteArray) (w : World) (hs : s.size ≤ 400) (k0 : Nat) (h : Stops s k0) : Calls Try.prog 6 #[.string s] w fun e w' => e = .returned (.bool true) ∧ Below w.heap.size w w' := by
  have HA := Lib.hid (all_stop s w hs k0 h)
  obtain ⟨hlt, hok, hno⟩ := h
  have HOK := Lib.hid hok
  have HNO := Lib.hid hno
  have HE := Lib.hid (err_ne s k0)
  clear hok hno
  obtain ⟨i0, hi0, hz0, hz1, hz2⟩ := info_parts instr_info
  go_enter Try.func6, Try.ntmps6
  go_wp2_with fail
  refine HA.out.mono ?_
  rintro e w0 ⟨rfl, hb0⟩
  go_wp2
  have hw := own_empty w0 w.heap.size hb0.size 24 3
  have hb1 : Below w.heap.size w (w0.alloc (.cells #[] 24)) := hb0.alloc hb0.size _
  go_loopw [6, 7] (fun v i wr => ∃ (k : Nat) (a : Option Addr) (c : Nat), k ≤ k0 ∧ i = .int .i64 (4 * k : Nat) ∧ v = .slice a k c ∧ wr.ownsRow w.heap.size 24 3 (.slice a k c) k (rowTo s k) ∧ Below w.heap.size w wr) (fun _ i _ => s.size - (intOf i).toNat)
  case atStart => exact ⟨0, _, 0, by omega, rfl, rfl, by rw [rowTo_0]; exact hw, hb1⟩
  case round =>
    clear hw hb1
    obtain ⟨k, a, c, hk, rfl, rfl, hown, hb⟩ := hrel
    have hsl : s.extract (4 * k) s.size = tl s k := by unfold tl; rfl
    by_cases hk0 : k < k0
    · have HG := Lib.hid (rget_tl s k hs (HOK.out k hk0))
      have hsz := hb.size
      go_wp2_with fail
      refine (HG.out _).mono ?_
      clear HG
      rintro e w1 ⟨rfl, hb1⟩
      have hown1 := ownsRow_keeps hown (Keeps.of_below hb1 []) (by simp)
      have hb2 := hb.trans (hb1.mono hsz)
      have hsz1 := hb2.size
      clear hown hb hb1 hsz
      go_wp2_with (at_builtin; refine wpList_append_any _ rfl (.tmp 53) (.tmp 55) _ rfl w.heap.size 24 i0 _ 3 24 Try.underlying40 hi0 hz0 hz1 hz2 rfl (by omega) (.slice a k c) k (rowTo s k) rfl ((hown1.alloc _).alloc _) (w1.heap.size + 2) (some ⟨w1.heap.size + 1, 0, none⟩) 1 1 (three s k) rfl (by simpa using reads_three (w1.alloc (.cells #[.int .u8 (fC s k), .int .i64 (fX s k), .int .i64 (fN s k)] 24)) s k) (three_one s k) (by simp only [maxLen]; omega) (by omega) (by simp; omega) ?_; intro v1 w2 hown2 hg2 hat2; obtain ⟨a1, cv1, hv1⟩ := own_form hown2; rw [hv1] at hown2; rw [hv1])
      have hg3 : Below w.heap.size w w2 := ((hb2.alloc hsz1 _).alloc (by simp; omega) _).grown hg2 (by simp; omega) (fun g hg => (hown1.lt g hg).1)
      rw [← rowTo_s] at hown2
      go_roundw
      case rel => exact ⟨k + 1, a1, cv1, by omega, by go_num, rfl, hown2, hg3⟩
      case measure => have := ok_size (HOK.out k hk0); simp [intOf]; omega
    · obtain rfl : k = k0 := by omega
      have HG := Lib.hid (rget_tl_no s k hs HNO.out)
      have hsz := hb.size
      go_wp2_with fail
      refine (HG.out _).mono ?_
      clear HG
      rintro e w1 ⟨rfl, hb1⟩
      have hb2 := hb.trans (hb1.mono hsz)
      have he : (errAt s k != 0) = true := HE.out
      have hb3 := hb2.alloc hb2.size (.cells #[.int .u8 0, .int .i64 0, .int .i64 0] 24)
      clear hb1 hb hown
      go_wp2_with fail
      refine (live_any _).mono ?_
      rintro e w3 ⟨rfl, hb4⟩
      have hb5 := hb3.trans (hb4.mono hb3.size)
      go_wp2
      go_ret
      exact ⟨rfl, hb5⟩
set_option maxRecDepth 100000 in
set_option maxHeartbeats 4000000 in
theorem law_whole (s : ByteArray) (w : World) (hs : s.size ≤ 400) (k0 : Nat) (h : Whole s k0) : Calls Try.prog 6 #[.string s] w fun e w' => e = .returned (.bool true) ∧ Below w.heap.size w w' := by
  have HA := Lib.hid (all_whole s w hs k0 h)
  obtain ⟨hlt, hok⟩ := h
  have HOK := Lib.hid hok
  clear hok
  obtain ⟨i0, hi0, hz0, hz1, hz2⟩ := info_parts instr_info
  go_enter Try.func6, Try.ntmps6
  go_wp2_with fail
  refine HA.out.mono ?_
  rintro e w0 ⟨ga, gc, rfl, hgot, hb0⟩
  have HGot := Lib.hid hgot
  have HB0 := Lib.hid hb0
  clear hgot hb0
  go_wp2
  have hw := own_empty w0 w0.heap.size (Nat.le_refl _) 24 3
  have hb1 : Below w0.heap.size w0 (w0.alloc (.cells #[] 24)) := (Below.refl _ _).alloc (Nat.le_refl _) _
  go_loopw [6, 7] (fun v i wr => ∃ (k : Nat) (a : Option Addr) (c : Nat), k ≤ k0 ∧ i = .int .i64 (4 * k : Nat) ∧ v = .slice a k c ∧ wr.ownsRow w0.heap.size 24 3 (.slice a k c) k (rowTo s k) ∧ Below w0.heap.size w0 wr) (fun _ i _ => s.size - (intOf i).toNat)
  case atStart => exact ⟨0, _, 0, by omega, rfl, rfl, by rw [rowTo_0]; exact hw, hb1⟩
  case round =>
    clear hw hb1
    obtain ⟨k, a, c, hk, rfl, rfl, hown, hb⟩ := hrel
    have hsl : s.extract (4 * k) s.size = tl s k := by unfold tl; rfl
    by_cases hk0 : k < k0
    · have HG := Lib.hid (rget_tl s k hs (HOK.out k hk0))
      have hsz := hb.size
      go_wp2_with fail
      refine (HG.out _).mono ?_
      clear HG
      rintro e w1 ⟨rfl, hb1⟩
      have hown1 := ownsRow_keeps hown (Keeps.of_below hb1 []) (by simp)
      have hb2 := hb.trans (hb1.mono hsz)
      have hsz1 := hb2.size
      clear hown hb hb1 hsz
      go_wp2_with (at_builtin; refine wpList_append_any _ rfl (.tmp 53) (.tmp 55) _ rfl w0.heap.size 24 i0 _ 3 24 Try.underlying40 hi0 hz0 hz1 hz2 rfl (by omega) (.slice a k c) k (rowTo s k) rfl ((hown1.alloc _).alloc _) (w1.heap.size + 2) (some ⟨w1.heap.size + 1, 0, none⟩) 1 1 (three s k) rfl (by simpa using reads_three (w1.alloc (.cells #[.int .u8 (fC s k), .int .i64 (fX s k), .int .i64 (fN s k)] 24)) s k) (three_one s k) (by simp only [maxLen]; omega) (by omega) (by simp; omega) ?_; intro v1 w2 hown2 hg2 hat2; obtain ⟨a1, cv1, hv1⟩ := own_form hown2; rw [hv1] at hown2; rw [hv1])
      have hg3 : Below w0.heap.size w0 w2 := ((hb2.alloc hsz1 _).alloc (by simp; omega) _).grown hg2 (by simp; omega) (fun g hg => (hown1.lt g hg).1)
      rw [← rowTo_s] at hown2
      go_roundw
      case rel => exact ⟨k + 1, a1, cv1, by omega, by go_num, rfl, hown2, hg3⟩
      case measure => have := ok_size (HOK.out k hk0); simp [intOf]; omega
    · obtain rfl : k = k0 := by omega
      have hq : s.size ≤ 4 * k := by omega
      have hgot := ownsRow_keeps HGot.out (Keeps.of_below hb []) (by simp)
      have HB := Lib.hid (HB0.out.trans (hb.mono HB0.out.size))
      have HOwn := Lib.hid hown
      have HGot := Lib.hid hgot
      clear hown HB0 hb hgot
      go_wp2_with fail
      go_loopw [10] (fun i w9 => ∃ j : Nat, j ≤ k ∧ i = .int .i64 j ∧ Drawn wr w9) (fun i _ => k - (intOf i).toNat)
      case atStart => exact ⟨0, by omega, rfl, 0, rfl⟩
      case round =>
        obtain ⟨j, hj, rfl, q, rfl⟩ := hrel
        by_cases hjk : j < k
        · obtain ⟨g1, rfl, c1, p0, p1, p2⟩ := own_at HGot.out j hjk
          obtain ⟨g2, rfl, c2, r0, r1, r2⟩ := own_at HOwn.out j hjk
          go_wp2_with fail
          go_region
          all_goals
            go_wp2_with fail
            go_roundw
            case rel => exact ⟨j + 1, by omega, by go_num, by first | exact ⟨q, rfl⟩ | exact (Drawn.draws ⟨q, rfl⟩ _) | exact (Drawn.draw ⟨q, rfl⟩)⟩
            case measure => simp [intOf]; omega
        · obtain rfl : j = k := by omega
          go_wp2_with fail
          refine (live_any _).mono ?_
          rintro e w3 ⟨rfl, hb4⟩
          go_wp2
          go_ret
          exact ⟨rfl, (below_drewN HB.out q).trans (hb4.mono HB.out.size)⟩
theorem all_law (s : ByteArray) (w : World) (hs : s.size ≤ maxLen) : Calls Try.prog 6 #[.string s] w fun e w' => e = .returned (.bool true) ∧ Below w.heap.size w w' := by
  by_cases h4 : s.size ≤ 400
  · rcases stops_or s with ⟨k, h⟩ | ⟨k, h⟩
    · exact law_stop s w h4 k h
    · exact law_whole s w h4 k h
  · exact all_big s w h4 hs
end Co
end Go.Proofs.Ytkbgihlpnamfeaa
