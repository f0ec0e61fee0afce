/- What is asked whatever is asked of descriptors (live); what they write, and read. -/
import Derived.Test.YtdjckfcafiikeaaDescP
import Derived.Test.YtdjckfcafiikeaaDescC
namespace Go.Proofs.Ytdjckfcafiikeaa
open Go.RowKit
attribute [local go_sem] Bw.and255 Bw.and65535
namespace De
open Sm
open PlainAid (bt get_bt bt_nonneg bt_le)
def fillsB (w : Int) : Bool := decide (w = 2 ∨ w = 4 ∨ w = 5)
def readsB (w : Int) : Bool := decide (w = 1 ∨ w = 3 ∨ w = 6)
theorem fills_any (w : Int) (W : World) : Calls Try.prog 10 #[.int .u8 w] W fun e W' => e = .returned (.bool (fillsB w)) ∧ W = W' := by
  by_cases h : w = 2 ∨ w = 4 ∨ w = 5
  · rw [show fillsB w = true from decide_eq_true h]
    rcases h with rfl | rfl | rfl
    all_goals
      go_enter Try.func10, Try.ntmps10
      go_wp2
      go_ret
      exact ⟨rfl, rfl⟩
  · rw [show fillsB w = false from decide_eq_false h]
    have a1 : (w == 2) = false := by simp; omega
    have a2 : (w == 4) = false := by simp; omega
    have a3 : (w == 5) = false := by simp; omega
    clear h
    go_enter Try.func10, Try.ntmps10
    go_wp2
    go_ret
    exact ⟨rfl, rfl⟩
theorem reads_any (w : Int) (W : World) : Calls Try.prog 11 #[.int .u8 w] W fun e W' => e = .returned (.bool (readsB w)) ∧ W = W' := by
  by_cases h : w = 1 ∨ w = 3 ∨ w = 6
  · rw [show readsB w = true from decide_eq_true h]
    rcases h with rfl | rfl | rfl
    all_goals
      go_enter Try.func11, Try.ntmps11
      go_wp2
      go_ret
      exact ⟨rfl, rfl⟩
  · rw [show readsB w = false from decide_eq_false h]
    have a1 : (w == 1) = false := by simp; omega
    have a2 : (w == 3) = false := by simp; omega
    have a3 : (w == 6) = false := by simp; omega
    clear h
    go_enter Try.func11, Try.ntmps11
    go_wp2
    go_ret
    exact ⟨rfl, rfl⟩
theorem live_vals : bt ⟨#[1, 0, 60, 0, 4, 0, 0, 0]⟩ 0 = 1 ∧ bt ⟨#[1, 0, 60, 0, 4, 0, 0, 0]⟩ 1 = 0 ∧ twoAt ⟨#[1, 0, 60, 0, 4, 0, 0, 0]⟩ 2 = 60 ∧ twoAt ⟨#[1, 0, 60, 0, 4, 0, 0, 0]⟩ 4 = 4 ∧ twoAt ⟨#[1, 0, 60, 0, 4, 0, 0, 0]⟩ 6 = 0 := by decide +kernel
theorem live_parse (W : World) : Calls Try.prog 17 #[.string ⟨#[1, 0, 60, 0, 4, 0, 0, 0]⟩] W (IsParse 1 0 60 4 0 0 W) := by
  have := parse_good ⟨#[1, 0, 60, 0, 4, 0, 0, 0]⟩ W (by decide) (by decide)
  rw [live_vals.1, live_vals.2.1, live_vals.2.2.1, live_vals.2.2.2.1, live_vals.2.2.2.2] at this
  exact this
theorem live_chk (size r : Int) (W : World) (s0 : 0 ≤ size) (s1 : size ≤ 100) (hr : chk 1 60 4 0 size 0 = r) : Calls Try.prog 7 #[.agg #[.int .u8 1, .int .u8 0, .int .i64 60, .int .i64 4, .int .i64 0], .agg #[.int .i64 0, .int .i64 size, .int .i64 0, .int .i64 0, .int .i64 0, .int .i64 0, .int .i64 0, .int .i64 0, .int .i64 0, .int .i64 0]] W fun e W' => e = .returned (.int .i64 r) ∧ Below W.heap.size W W' := by
  have := check_any 1 0 60 4 0 0 size 0 0 0 0 0 0 0 0 W (by decide) (by decide) (by omega) (by omega) (by decide) (by decide)
  rw [hr] at this
  exact this
theorem live_any (W : World) : Calls Try.prog 8 #[] W fun e W' => e = .returned (.bool true) ∧ Below W.heap.size W W' := by
  go_enter Try.func8, Try.ntmps8
  go_wp2_with fail
  refine (live_parse _).mono ?_
  rintro e w1 ⟨rfl, hb1⟩
  go_wp2_with fail
  refine (live_chk 62 6 _ (by decide) (by decide) (by decide +kernel)).mono ?_
  rintro e w2 ⟨rfl, hb2⟩
  have hi2 := (Blk.new w1 24 #[.int .u8 1, .int .u8 0, .int .i64 60, .int .i64 4, .int .i64 0]).below hb2 (by simp)
  have HB : Hid (Below W.heap.size W w2) := Below.next hb1 (((Below.refl _ _).alloc (Nat.le_refl _) (.cells #[.int .u8 1, .int .u8 0, .int .i64 60, .int .i64 4, .int .i64 0] 24)).trans (hb2.mono (by simp)))
  have p0 := hi2.cell 0
  have p1 := hi2.cell 1
  have p2 := hi2.cell 2
  have p3 := hi2.cell 3
  have p4 := hi2.cell 4
  clear hi2 hb2 hb1
  go_wp2_with fail
  refine (live_chk 64 0 _ (by decide) (by decide) (by decide +kernel)).mono ?_
  rintro e w3 ⟨rfl, hb3⟩
  go_wp2
  go_ret
  exact ⟨rfl, HB.out.trans (hb3.mono HB.out.size)⟩
end De
end Go.Proofs.Ytdjckfcafiikeaa
