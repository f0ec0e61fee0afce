/- Which instructions may be. -/
import Derived.Test.YtkbgihlpnamfeaaCodeA
namespace Go.Proofs.Ytkbgihlpnamfeaa
open Go.RowKit
attribute [local go_sem] Bw.and255 Bw.and65535
namespace Co
open Sm
def MayP (c x n : Int) : Prop := c ≤ 15 ∧ 0 ≤ x ∧ x ≤ 7 ∧ 0 ≤ n ∧ n ≤ 65535 ∧ (2 ≤ c → c ≤ 10 → n ≤ 7) ∧ (c = 0 → x = 0 ∧ n = 0) ∧ (c = 15 → x = 0 ∧ n = 0) ∧ (c = 11 → x = 0)
def mayB (c x n : Int) : Bool := decide (c ≤ 15 ∧ 0 ≤ x ∧ x ≤ 7 ∧ 0 ≤ n ∧ n ≤ 65535 ∧ (2 ≤ c → c ≤ 10 → n ≤ 7) ∧ (c = 0 → x = 0 ∧ n = 0) ∧ (c = 15 → x = 0 ∧ n = 0) ∧ (c = 11 → x = 0))
theorem may_yes {c x n : Int} (h : MayP c x n) : mayB c x n = true := decide_eq_true h
theorem may_no {c x n : Int} (h : ¬ MayP c x n) : mayB c x n = false := decide_eq_false h
theorem name_empty (k : Nat) (h : 16 ≤ k) : (nm k).toList.isEmpty = true := by rw [nm_out k h]; exact sempty rfl
theorem name_full (k : Nat) (h : k < 16) : (nm k).toList.isEmpty = false := snonempty (nm_full k h)
attribute [local irreducible] nm regB
theorem name_is (c : Int) (w : World) (h0 : 0 ≤ c) (h1 : c ≤ 255) : Calls Try.prog 7 #[.int .u8 c] w fun e w' => (∃ t : ByteArray, e = .returned (.string t) ∧ t.toList.isEmpty = decide (16 ≤ c)) ∧ Below w.heap.size w w' := by
  refine (name_any c w h0 h1).mono ?_
  rintro e w1 ⟨rfl, hb⟩
  refine ⟨⟨_, rfl, ?_⟩, hb⟩
  by_cases h : 16 ≤ c
  · rw [name_empty _ (by omega)]; exact (decide_eq_true h).symm
  · rw [name_full _ (by omega)]; exact (decide_eq_false h).symm
theorem ret_may {b : Bool} {c x n : Int} (h : if b = true then MayP c x n else ¬ MayP c x n) : Ending.returned (.bool b) = .returned (.bool (mayB c x n)) := by
  cases b
  · rw [may_no h]
  · rw [may_yes h]
set_option maxHeartbeats 2000000 in
theorem may_any (c x n : Int) (w : World) (h0 : 0 ≤ c) (h1 : c ≤ 255) : Calls Try.prog 15 #[.agg #[.int .u8 c, .int .i64 x, .int .i64 n]] w fun e w' => e = .returned (.bool (mayB c x n)) ∧ Below w.heap.size w w' := by
  by_cases hr : 2 ≤ c ∧ c ≤ 10
  · have e : regB c = true := by unfold regB; exact decide_eq_true hr
    obtain ⟨r0, r1⟩ := hr
    have HE := Lib.hid e
    clear e
    have hd : decide (16 ≤ c) = false := by simp; omega
    have HD := Lib.hid hd
    clear hd
    go_enter Try.func15, Try.ntmps15
    go_wp2_with fail
    refine (reg_any _ _ h0 h1).mono ?_
    rintro e w1 ⟨rfl, rfl⟩
    rw [HE.out]
    go_wp2_with fail
    refine (name_is _ _ h0 h1).mono ?_
    rintro e w2 ⟨⟨t, rfl, ht⟩, hb⟩
    rw [HD.out] at ht
    have hbk := Blk.below (Blk.new w 24 #[.int .u8 c, .int .i64 x, .int .i64 n]) hb (by simp)
    have q0 : w2.cell? ⟨w.heap.size, 0, none⟩ = some (.int .u8 c) := hbk.cell 0
    have q1 : w2.cell? ⟨w.heap.size, 1, none⟩ = some (.int .i64 x) := hbk.cell 1
    have q2 : w2.cell? ⟨w.heap.size, 2, none⟩ = some (.int .i64 n) := hbk.cell 2
    have HB : Hid (Below w.heap.size w w2) := ((Below.refl _ _).alloc (Nat.le_refl _) (.cells #[.int .u8 c, .int .i64 x, .int .i64 n] 24)).trans (hb.mono (by simp))
    clear hb hbk
    go_wp2
    all_goals
      go_ret
      refine ⟨ret_may ?_, HB.out⟩
      clear HB q0 q1 q2 HE HD ht
      simp only [MayP]
      first | omega | (simp at *; omega) | (split <;> simp at * <;> omega)
  · have e : regB c = false := by unfold regB; exact decide_eq_false hr
    by_cases h16 : 16 ≤ c
    · skip
      have HE := Lib.hid e
      clear e
      have hd : decide (16 ≤ c) = true := by simp; omega
      have HD := Lib.hid hd
      clear hd
      go_enter Try.func15, Try.ntmps15
      go_wp2_with fail
      refine (reg_any _ _ h0 h1).mono ?_
      rintro e w1 ⟨rfl, rfl⟩
      rw [HE.out]
      go_wp2_with fail
      refine (name_is _ _ h0 h1).mono ?_
      rintro e w2 ⟨⟨t, rfl, ht⟩, hb⟩
      rw [HD.out] at ht
      have hbk := Blk.below (Blk.new w 24 #[.int .u8 c, .int .i64 x, .int .i64 n]) hb (by simp)
      have q0 : w2.cell? ⟨w.heap.size, 0, none⟩ = some (.int .u8 c) := hbk.cell 0
      have q1 : w2.cell? ⟨w.heap.size, 1, none⟩ = some (.int .i64 x) := hbk.cell 1
      have q2 : w2.cell? ⟨w.heap.size, 2, none⟩ = some (.int .i64 n) := hbk.cell 2
      have HB : Hid (Below w.heap.size w w2) := ((Below.refl _ _).alloc (Nat.le_refl _) (.cells #[.int .u8 c, .int .i64 x, .int .i64 n] 24)).trans (hb.mono (by simp))
      clear hb hbk
      go_wp2
      all_goals
        go_ret
        refine ⟨ret_may ?_, HB.out⟩
        clear HB q0 q1 q2 HE HD ht
        simp only [MayP]
        first | omega | (simp at *; omega) | (split <;> simp at * <;> omega)
    · skip
      have HE := Lib.hid e
      clear e
      have hd : decide (16 ≤ c) = false := by simp; omega
      have hr' : c < 2 ∨ 10 < c := by omega
      have HD := Lib.hid hd
      clear hd
      go_enter Try.func15, Try.ntmps15
      go_wp2_with fail
      refine (reg_any _ _ h0 h1).mono ?_
      rintro e w1 ⟨rfl, rfl⟩
      rw [HE.out]
      go_wp2_with fail
      refine (name_is _ _ h0 h1).mono ?_
      rintro e w2 ⟨⟨t, rfl, ht⟩, hb⟩
      rw [HD.out] at ht
      have hbk := Blk.below (Blk.new w 24 #[.int .u8 c, .int .i64 x, .int .i64 n]) hb (by simp)
      have q0 : w2.cell? ⟨w.heap.size, 0, none⟩ = some (.int .u8 c) := hbk.cell 0
      have q1 : w2.cell? ⟨w.heap.size, 1, none⟩ = some (.int .i64 x) := hbk.cell 1
      have q2 : w2.cell? ⟨w.heap.size, 2, none⟩ = some (.int .i64 n) := hbk.cell 2
      have HB : Hid (Below w.heap.size w w2) := ((Below.refl _ _).alloc (Nat.le_refl _) (.cells #[.int .u8 c, .int .i64 x, .int .i64 n] 24)).trans (hb.mono (by simp))
      clear hb hbk
      go_wp2
      all_goals
        go_ret
        refine ⟨ret_may ?_, HB.out⟩
        clear HB q0 q1 q2 HE HD ht
        simp only [MayP]
        first | omega | (simp at *; omega) | (split <;> simp at * <;> omega)
end Co
end Go.Proofs.Ytkbgihlpnamfeaa
