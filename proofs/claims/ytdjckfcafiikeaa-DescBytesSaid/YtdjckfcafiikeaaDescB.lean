/- The program's check of a descriptor. -/
import Derived.Test.YtdjckfcafiikeaaDescA
namespace Go.Proofs.Ytdjckfcafiikeaa
open Go.RowKit
attribute [local go_sem] Bw.and255 Bw.and65535
namespace De
open Sm
set_option maxHeartbeats 4000000 in
theorem check_any (w st a l g : Int) (b0 size b2 b3 b4 b5 b6 b7 b8 sec : Int) (W : World) (w0 : 0 ≤ w) (w1 : w ≤ 255) (s0 : -9223372036854775808 ≤ size) (s1 : size ≤ 9223372036854775807) (t0 : -9223372036854775808 ≤ sec) (t1 : sec ≤ 9223372036854775807) :
    Calls Try.prog 7 #[.agg #[.int .u8 w, .int .u8 st, .int .i64 a, .int .i64 l, .int .i64 g], .agg #[.int .i64 b0, .int .i64 size, .int .i64 b2, .int .i64 b3, .int .i64 b4, .int .i64 b5, .int .i64 b6, .int .i64 b7, .int .i64 b8, .int .i64 sec]] W fun e W' => e = .returned (.int .i64 (chk w a l g size sec)) ∧ Below W.heap.size W W' := by
  by_cases hw : w < 1 ∨ 6 < w
  · have e : chk w a l g size sec = 3 := by unfold chk; rw [if_pos hw]
    rw [e]
    clear e
    rcases hw with hw | hw
    all_goals
      go_enter Try.func7, Try.ntmps7
      go_wp2
      go_ret
      exact ⟨rfl, ((Below.refl _ _).alloc (Nat.le_refl _) _).alloc (by simp) _⟩
  have hw' : w = 1 ∨ w = 2 ∨ w = 3 ∨ w = 4 ∨ w = 5 ∨ w = 6 := by omega
  clear hw
  rcases hw' with rfl | rfl | rfl | rfl | rfl | rfl
  · skip
    by_cases hn : l < 0
    · skip
      have e : chk 1 a l g size sec = 4 := by unfold chk; repeat (first | rw [if_pos (by omega)] | rw [if_neg (by omega)])
      rw [e]
      clear e 
      go_enter Try.func7, Try.ntmps7
      go_wp2
      go_ret
      exact ⟨rfl, ((Below.refl _ _).alloc (Nat.le_refl _) _).alloc (by simp) _⟩
    by_cases hx : 32 < l
    · skip
      have e : chk 1 a l g size sec = 4 := by unfold chk; repeat (first | rw [if_pos (by omega)] | rw [if_neg (by omega)])
      rw [e]
      clear e 
      go_enter Try.func7, Try.ntmps7
      go_wp2
      go_ret
      exact ⟨rfl, ((Below.refl _ _).alloc (Nat.le_refl _) _).alloc (by simp) _⟩
    have HT1 := Lib.hid (fun W => there_any a l size W (by omega) (by omega) s1 s0)
    have HT2 := Lib.hid (fun W => there_any g (l / 16) sec W (by omega) (by omega) t1 t0)
    by_cases ht : 0 ≤ a ∧ l ≤ size ∧ a ≤ size - l
    rotate_left
    · rw [show thereB a l size = false from decide_eq_false ht] at HT1
      have e : chk 1 a l g size sec = 6 := by unfold chk; repeat (first | rw [if_pos (by omega)] | rw [if_neg (by omega)])
      rw [e]
      clear e ht
      go_enter Try.func7, Try.ntmps7
      go_wp2_with fail
      refine (HT1.out _).mono ?_
      rintro e w' ⟨rfl, rfl⟩
      go_wp2
      go_ret
      exact ⟨rfl, ((Below.refl _ _).alloc (Nat.le_refl _) _).alloc (by simp) _⟩
    rw [show thereB a l size = true from decide_eq_true ht] at HT1
    have e : chk 1 a l g size sec = 0 := by unfold chk; repeat (first | rw [if_pos (by omega)] | rw [if_neg (by omega)])
    rw [e]
    clear e ht
    go_enter Try.func7, Try.ntmps7
    go_wp2_with fail
    refine (HT1.out _).mono ?_
    rintro e w' ⟨rfl, rfl⟩
    go_wp2
    go_ret
    exact ⟨rfl, ((Below.refl _ _).alloc (Nat.le_refl _) _).alloc (by simp) _⟩
  · skip
    by_cases hn : l < 0
    · skip
      have e : chk 2 a l g size sec = 4 := by unfold chk; repeat (first | rw [if_pos (by omega)] | rw [if_neg (by omega)])
      rw [e]
      clear e 
      go_enter Try.func7, Try.ntmps7
      go_wp2
      go_ret
      exact ⟨rfl, ((Below.refl _ _).alloc (Nat.le_refl _) _).alloc (by simp) _⟩
    by_cases hx : 32 < l
    · skip
      have e : chk 2 a l g size sec = 4 := by unfold chk; repeat (first | rw [if_pos (by omega)] | rw [if_neg (by omega)])
      rw [e]
      clear e 
      go_enter Try.func7, Try.ntmps7
      go_wp2
      go_ret
      exact ⟨rfl, ((Below.refl _ _).alloc (Nat.le_refl _) _).alloc (by simp) _⟩
    have HT1 := Lib.hid (fun W => there_any a l size W (by omega) (by omega) s1 s0)
    have HT2 := Lib.hid (fun W => there_any g (l / 16) sec W (by omega) (by omega) t1 t0)
    by_cases ht : 0 ≤ a ∧ l ≤ size ∧ a ≤ size - l
    rotate_left
    · rw [show thereB a l size = false from decide_eq_false ht] at HT1
      have e : chk 2 a l g size sec = 6 := by unfold chk; repeat (first | rw [if_pos (by omega)] | rw [if_neg (by omega)])
      rw [e]
      clear e ht
      go_enter Try.func7, Try.ntmps7
      go_wp2_with fail
      refine (HT1.out _).mono ?_
      rintro e w' ⟨rfl, rfl⟩
      go_wp2
      go_ret
      exact ⟨rfl, ((Below.refl _ _).alloc (Nat.le_refl _) _).alloc (by simp) _⟩
    rw [show thereB a l size = true from decide_eq_true ht] at HT1
    have e : chk 2 a l g size sec = 0 := by unfold chk; repeat (first | rw [if_pos (by omega)] | rw [if_neg (by omega)])
    rw [e]
    clear e ht
    go_enter Try.func7, Try.ntmps7
    go_wp2_with fail
    refine (HT1.out _).mono ?_
    rintro e w' ⟨rfl, rfl⟩
    go_wp2
    go_ret
    exact ⟨rfl, ((Below.refl _ _).alloc (Nat.le_refl _) _).alloc (by simp) _⟩
  · skip
    by_cases hn : l < 0
    · skip
      have e : chk 3 a l g size sec = 4 := by unfold chk; repeat (first | rw [if_pos (by omega)] | rw [if_neg (by omega)])
      rw [e]
      clear e 
      go_enter Try.func7, Try.ntmps7
      go_wp2
      go_ret
      exact ⟨rfl, ((Below.refl _ _).alloc (Nat.le_refl _) _).alloc (by simp) _⟩
    by_cases hx : 32 < l
    · skip
      have e : chk 3 a l g size sec = 4 := by unfold chk; repeat (first | rw [if_pos (by omega)] | rw [if_neg (by omega)])
      rw [e]
      clear e 
      go_enter Try.func7, Try.ntmps7
      go_wp2
      go_ret
      exact ⟨rfl, ((Below.refl _ _).alloc (Nat.le_refl _) _).alloc (by simp) _⟩
    have HT1 := Lib.hid (fun W => there_any a l size W (by omega) (by omega) s1 s0)
    have HT2 := Lib.hid (fun W => there_any g (l / 16) sec W (by omega) (by omega) t1 t0)
    by_cases ht : 0 ≤ a ∧ l ≤ size ∧ a ≤ size - l
    rotate_left
    · rw [show thereB a l size = false from decide_eq_false ht] at HT1
      have e : chk 3 a l g size sec = 6 := by unfold chk; repeat (first | rw [if_pos (by omega)] | rw [if_neg (by omega)])
      rw [e]
      clear e ht
      go_enter Try.func7, Try.ntmps7
      go_wp2_with fail
      refine (HT1.out _).mono ?_
      rintro e w' ⟨rfl, rfl⟩
      go_wp2
      go_ret
      exact ⟨rfl, ((Below.refl _ _).alloc (Nat.le_refl _) _).alloc (by simp) _⟩
    rw [show thereB a l size = true from decide_eq_true ht] at HT1
    by_cases hg : g < 0
    · skip
      have e : chk 3 a l g size sec = 2 := by unfold chk; repeat (first | rw [if_pos (by omega)] | rw [if_neg (by omega)])
      rw [e]
      clear e ht
      go_enter Try.func7, Try.ntmps7
      go_wp2_with fail
      refine (HT1.out _).mono ?_
      rintro e w' ⟨rfl, rfl⟩
      go_wp2
      go_ret
      exact ⟨rfl, ((Below.refl _ _).alloc (Nat.le_refl _) _).alloc (by simp) _⟩
    by_cases hg2 : 255 < g
    · skip
      have e : chk 3 a l g size sec = 2 := by unfold chk; repeat (first | rw [if_pos (by omega)] | rw [if_neg (by omega)])
      rw [e]
      clear e ht
      go_enter Try.func7, Try.ntmps7
      go_wp2_with fail
      refine (HT1.out _).mono ?_
      rintro e w' ⟨rfl, rfl⟩
      go_wp2
      go_ret
      exact ⟨rfl, ((Below.refl _ _).alloc (Nat.le_refl _) _).alloc (by simp) _⟩
    have e : chk 3 a l g size sec = 0 := by unfold chk; repeat (first | rw [if_pos (by omega)] | rw [if_neg (by omega)])
    rw [e]
    clear e ht
    go_enter Try.func7, Try.ntmps7
    go_wp2_with fail
    refine (HT1.out _).mono ?_
    rintro e w' ⟨rfl, rfl⟩
    go_wp2
    go_ret
    exact ⟨rfl, ((Below.refl _ _).alloc (Nat.le_refl _) _).alloc (by simp) _⟩
  · skip
    by_cases hn : l < 0
    · skip
      have e : chk 4 a l g size sec = 4 := by unfold chk; repeat (first | rw [if_pos (by omega)] | rw [if_neg (by omega)])
      rw [e]
      clear e 
      go_enter Try.func7, Try.ntmps7
      go_wp2
      go_ret
      exact ⟨rfl, ((Below.refl _ _).alloc (Nat.le_refl _) _).alloc (by simp) _⟩
    by_cases hx : 32 < l
    · skip
      have e : chk 4 a l g size sec = 4 := by unfold chk; repeat (first | rw [if_pos (by omega)] | rw [if_neg (by omega)])
      rw [e]
      clear e 
      go_enter Try.func7, Try.ntmps7
      go_wp2
      go_ret
      exact ⟨rfl, ((Below.refl _ _).alloc (Nat.le_refl _) _).alloc (by simp) _⟩
    have HT1 := Lib.hid (fun W => there_any a l size W (by omega) (by omega) s1 s0)
    have HT2 := Lib.hid (fun W => there_any g (l / 16) sec W (by omega) (by omega) t1 t0)
    by_cases ht : 0 ≤ a ∧ l ≤ size ∧ a ≤ size - l
    rotate_left
    · rw [show thereB a l size = false from decide_eq_false ht] at HT1
      have e : chk 4 a l g size sec = 6 := by unfold chk; repeat (first | rw [if_pos (by omega)] | rw [if_neg (by omega)])
      rw [e]
      clear e ht
      go_enter Try.func7, Try.ntmps7
      go_wp2_with fail
      refine (HT1.out _).mono ?_
      rintro e w' ⟨rfl, rfl⟩
      go_wp2
      go_ret
      exact ⟨rfl, ((Below.refl _ _).alloc (Nat.le_refl _) _).alloc (by simp) _⟩
    rw [show thereB a l size = true from decide_eq_true ht] at HT1
    have e : chk 4 a l g size sec = 0 := by unfold chk; repeat (first | rw [if_pos (by omega)] | rw [if_neg (by omega)])
    rw [e]
    clear e ht
    go_enter Try.func7, Try.ntmps7
    go_wp2_with fail
    refine (HT1.out _).mono ?_
    rintro e w' ⟨rfl, rfl⟩
    go_wp2
    go_ret
    exact ⟨rfl, ((Below.refl _ _).alloc (Nat.le_refl _) _).alloc (by simp) _⟩
  · skip
    by_cases h0 : l = 0
    · have hl0 : (l == 0) = true := by simpa using h0
      have hb : (l.tmod 16 != 0) = false := by rw [h0]; rfl
      have e : chk 5 a l g size sec = 3 := by unfold chk; repeat (first | rw [if_pos (by omega)] | rw [if_neg (by omega)])
      rw [e]
      clear e h0
      go_enter Try.func7, Try.ntmps7
      go_wp2
      go_ret
      exact ⟨rfl, ((Below.refl _ _).alloc (Nat.le_refl _) _).alloc (by simp) _⟩
    have hl0 : (l == 0) = false := by simpa using h0
    by_cases hm : l.tmod 16 = 0
    rotate_left
    · have hb : (l.tmod 16 != 0) = true := by rw [bne_iff_ne]; exact hm
      by_cases hp : 0 ≤ l
      · have hb2 : (l % 16 != 0) = true := by rw [← Int.tmod_eq_emod_of_nonneg hp]; exact hb
        have e : chk 5 a l g size sec = 3 := by unfold chk; repeat (first | rw [if_pos (by omega)] | rw [if_neg (by omega)])
        rw [e]
        clear e hm h0
        go_enter Try.func7, Try.ntmps7
        go_wp2
        go_ret
        exact ⟨rfl, ((Below.refl _ _).alloc (Nat.le_refl _) _).alloc (by simp) _⟩
      · skip
        have e : chk 5 a l g size sec = 3 := by unfold chk; repeat (first | rw [if_pos (by omega)] | rw [if_neg (by omega)])
        rw [e]
        clear e hm h0
        go_enter Try.func7, Try.ntmps7
        go_wp2
        go_ret
        exact ⟨rfl, ((Below.refl _ _).alloc (Nat.le_refl _) _).alloc (by simp) _⟩
    have hb : (l.tmod 16 != 0) = false := by simp [hm]
    by_cases hn : l < 0
    · skip
      have e : chk 5 a l g size sec = 4 := by unfold chk; repeat (first | rw [if_pos (by omega)] | rw [if_neg (by omega)])
      rw [e]
      clear e hm h0
      go_enter Try.func7, Try.ntmps7
      go_wp2
      go_ret
      exact ⟨rfl, ((Below.refl _ _).alloc (Nat.le_refl _) _).alloc (by simp) _⟩
    have hb2 : (l % 16 != 0) = false := by rw [← Int.tmod_eq_emod_of_nonneg (by omega)]; exact hb
    by_cases hx : 32 < l
    · skip
      have e : chk 5 a l g size sec = 4 := by unfold chk; repeat (first | rw [if_pos (by omega)] | rw [if_neg (by omega)])
      rw [e]
      clear e hm h0
      go_enter Try.func7, Try.ntmps7
      go_wp2
      go_ret
      exact ⟨rfl, ((Below.refl _ _).alloc (Nat.le_refl _) _).alloc (by simp) _⟩
    have HT1 := Lib.hid (fun W => there_any a l size W (by omega) (by omega) s1 s0)
    have HT2 := Lib.hid (fun W => there_any g (l / 16) sec W (by omega) (by omega) t1 t0)
    by_cases ht : 0 ≤ a ∧ l ≤ size ∧ a ≤ size - l
    rotate_left
    · rw [show thereB a l size = false from decide_eq_false ht] at HT1
      have e : chk 5 a l g size sec = 6 := by unfold chk; repeat (first | rw [if_pos (by omega)] | rw [if_neg (by omega)])
      rw [e]
      clear e hm h0 ht
      go_enter Try.func7, Try.ntmps7
      go_wp2_with fail
      refine (HT1.out _).mono ?_
      rintro e w' ⟨rfl, rfl⟩
      go_wp2
      go_ret
      exact ⟨rfl, ((Below.refl _ _).alloc (Nat.le_refl _) _).alloc (by simp) _⟩
    rw [show thereB a l size = true from decide_eq_true ht] at HT1
    by_cases hs : 0 ≤ g ∧ l / 16 ≤ sec ∧ g ≤ sec - l / 16
    rotate_left
    · rw [show thereB g (l / 16) sec = false from decide_eq_false hs] at HT2
      have e : chk 5 a l g size sec = 6 := by unfold chk; repeat (first | rw [if_pos (by omega)] | rw [if_neg (by omega)])
      rw [e]
      clear e hm h0 ht hs
      go_enter Try.func7, Try.ntmps7
      go_wp2_with fail
      refine (HT1.out _).mono ?_
      rintro e w' ⟨rfl, rfl⟩
      go_wp2_with fail
      refine (HT2.out _).mono ?_
      rintro e w' ⟨rfl, rfl⟩
      go_wp2
      go_ret
      exact ⟨rfl, ((Below.refl _ _).alloc (Nat.le_refl _) _).alloc (by simp) _⟩
    rw [show thereB g (l / 16) sec = true from decide_eq_true hs] at HT2
    have e : chk 5 a l g size sec = 0 := by unfold chk; repeat (first | rw [if_pos (by omega)] | rw [if_neg (by omega)])
    rw [e]
    clear e hm h0 ht hs
    go_enter Try.func7, Try.ntmps7
    go_wp2_with fail
    refine (HT1.out _).mono ?_
    rintro e w' ⟨rfl, rfl⟩
    go_wp2_with fail
    refine (HT2.out _).mono ?_
    rintro e w' ⟨rfl, rfl⟩
    go_wp2
    go_ret
    exact ⟨rfl, ((Below.refl _ _).alloc (Nat.le_refl _) _).alloc (by simp) _⟩
  · skip
    by_cases h0 : l = 0
    · have hl0 : (l == 0) = true := by simpa using h0
      have hb : (l.tmod 16 != 0) = false := by rw [h0]; rfl
      have e : chk 6 a l g size sec = 3 := by unfold chk; repeat (first | rw [if_pos (by omega)] | rw [if_neg (by omega)])
      rw [e]
      clear e h0
      go_enter Try.func7, Try.ntmps7
      go_wp2
      go_ret
      exact ⟨rfl, ((Below.refl _ _).alloc (Nat.le_refl _) _).alloc (by simp) _⟩
    have hl0 : (l == 0) = false := by simpa using h0
    by_cases hm : l.tmod 16 = 0
    rotate_left
    · have hb : (l.tmod 16 != 0) = true := by rw [bne_iff_ne]; exact hm
      by_cases hp : 0 ≤ l
      · have hb2 : (l % 16 != 0) = true := by rw [← Int.tmod_eq_emod_of_nonneg hp]; exact hb
        have e : chk 6 a l g size sec = 3 := by unfold chk; repeat (first | rw [if_pos (by omega)] | rw [if_neg (by omega)])
        rw [e]
        clear e hm h0
        go_enter Try.func7, Try.ntmps7
        go_wp2
        go_ret
        exact ⟨rfl, ((Below.refl _ _).alloc (Nat.le_refl _) _).alloc (by simp) _⟩
      · skip
        have e : chk 6 a l g size sec = 3 := by unfold chk; repeat (first | rw [if_pos (by omega)] | rw [if_neg (by omega)])
        rw [e]
        clear e hm h0
        go_enter Try.func7, Try.ntmps7
        go_wp2
        go_ret
        exact ⟨rfl, ((Below.refl _ _).alloc (Nat.le_refl _) _).alloc (by simp) _⟩
    have hb : (l.tmod 16 != 0) = false := by simp [hm]
    by_cases hn : l < 0
    · skip
      have e : chk 6 a l g size sec = 4 := by unfold chk; repeat (first | rw [if_pos (by omega)] | rw [if_neg (by omega)])
      rw [e]
      clear e hm h0
      go_enter Try.func7, Try.ntmps7
      go_wp2
      go_ret
      exact ⟨rfl, ((Below.refl _ _).alloc (Nat.le_refl _) _).alloc (by simp) _⟩
    have hb2 : (l % 16 != 0) = false := by rw [← Int.tmod_eq_emod_of_nonneg (by omega)]; exact hb
    by_cases hx : 32 < l
    · skip
      have e : chk 6 a l g size sec = 4 := by unfold chk; repeat (first | rw [if_pos (by omega)] | rw [if_neg (by omega)])
      rw [e]
      clear e hm h0
      go_enter Try.func7, Try.ntmps7
      go_wp2
      go_ret
      exact ⟨rfl, ((Below.refl _ _).alloc (Nat.le_refl _) _).alloc (by simp) _⟩
    have HT1 := Lib.hid (fun W => there_any a l size W (by omega) (by omega) s1 s0)
    have HT2 := Lib.hid (fun W => there_any g (l / 16) sec W (by omega) (by omega) t1 t0)
    by_cases ht : 0 ≤ a ∧ l ≤ size ∧ a ≤ size - l
    rotate_left
    · rw [show thereB a l size = false from decide_eq_false ht] at HT1
      have e : chk 6 a l g size sec = 6 := by unfold chk; repeat (first | rw [if_pos (by omega)] | rw [if_neg (by omega)])
      rw [e]
      clear e hm h0 ht
      go_enter Try.func7, Try.ntmps7
      go_wp2_with fail
      refine (HT1.out _).mono ?_
      rintro e w' ⟨rfl, rfl⟩
      go_wp2
      go_ret
      exact ⟨rfl, ((Below.refl _ _).alloc (Nat.le_refl _) _).alloc (by simp) _⟩
    rw [show thereB a l size = true from decide_eq_true ht] at HT1
    by_cases hs : 0 ≤ g ∧ l / 16 ≤ sec ∧ g ≤ sec - l / 16
    rotate_left
    · rw [show thereB g (l / 16) sec = false from decide_eq_false hs] at HT2
      have e : chk 6 a l g size sec = 6 := by unfold chk; repeat (first | rw [if_pos (by omega)] | rw [if_neg (by omega)])
      rw [e]
      clear e hm h0 ht hs
      go_enter Try.func7, Try.ntmps7
      go_wp2_with fail
      refine (HT1.out _).mono ?_
      rintro e w' ⟨rfl, rfl⟩
      go_wp2_with fail
      refine (HT2.out _).mono ?_
      rintro e w' ⟨rfl, rfl⟩
      go_wp2
      go_ret
      exact ⟨rfl, ((Below.refl _ _).alloc (Nat.le_refl _) _).alloc (by simp) _⟩
    rw [show thereB g (l / 16) sec = true from decide_eq_true hs] at HT2
    have e : chk 6 a l g size sec = 0 := by unfold chk; repeat (first | rw [if_pos (by omega)] | rw [if_neg (by omega)])
    rw [e]
    clear e hm h0 ht hs
    go_enter Try.func7, Try.ntmps7
    go_wp2_with fail
    refine (HT1.out _).mono ?_
    rintro e w' ⟨rfl, rfl⟩
    go_wp2_with fail
    refine (HT2.out _).mono ?_
    rintro e w' ⟨rfl, rfl⟩
    go_wp2
    go_ret
    exact ⟨rfl, ((Below.refl _ _).alloc (Nat.le_refl _) _).alloc (by simp) _⟩
end De
end Go.Proofs.Ytdjckfcafiikeaa
