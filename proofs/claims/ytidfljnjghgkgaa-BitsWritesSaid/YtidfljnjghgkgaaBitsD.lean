/- The law BitsParts: its walk; and what is asked whatever is asked (live). -/
import Derived.Test.YtidfljnjghgkgaaBitsC
namespace Go.Proofs.Ytidfljnjghgkgaa
open Go.RowKit
attribute [local go_sem] Bw.and255 Bw.and65535
namespace Bi
open Sm Pc
open PlainAid (bt get_bt bt_nonneg bt_le)

theorem put513 : putL 513 = [1, 2] := by decide +kernel
theorem l1 : rdAt ⟨#[1, 2, 3]⟩ 0 0 2 = 2 ∧ rdErr ⟨#[1, 2, 3]⟩ 0 0 2 = 0 ∧ rdTwo ⟨#[1, 2, 3]⟩ 0 0 = 513 := by decide +kernel
theorem l2 : rdAt ⟨#[1, 2, 3]⟩ 2 0 1 = 3 ∧ rdErr ⟨#[1, 2, 3]⟩ 2 0 1 = 0 ∧ rdByte ⟨#[1, 2, 3]⟩ 2 0 = 3 := by decide +kernel
theorem l3 : rdAt ⟨#[1, 2, 3]⟩ 3 0 1 = 3 ∧ rdErr ⟨#[1, 2, 3]⟩ 3 0 1 = 5 ∧ rdByte ⟨#[1, 2, 3]⟩ 3 0 = 0 := by decide +kernel
theorem live_r1 (b : Nat) (w : World) (h : Rd w b ⟨#[1, 2, 3]⟩ 0 0) : Calls Try.prog 20 #[.pointer (some ⟨b, 0, none⟩)] w (IsRd b ⟨#[1, 2, 3]⟩ 2 0 (.int .i64 513) w) := by
  have := rtwo_any b _ 0 0 w h (by decide) (by decide) (by decide)
  rw [l1.1, l1.2.1, l1.2.2] at this
  exact this
theorem live_r2 (b : Nat) (w : World) (h : Rd w b ⟨#[1, 2, 3]⟩ 2 0) : Calls Try.prog 19 #[.pointer (some ⟨b, 0, none⟩)] w (IsRd b ⟨#[1, 2, 3]⟩ 3 0 (.int .i64 3) w) := by
  have := byte_any b _ 2 0 w h (by decide) (by decide) (by decide)
  rw [l2.1, l2.2.1, l2.2.2] at this
  exact this
theorem live_r3 (b : Nat) (w : World) (h : Rd w b ⟨#[1, 2, 3]⟩ 3 0) : Calls Try.prog 19 #[.pointer (some ⟨b, 0, none⟩)] w (IsRd b ⟨#[1, 2, 3]⟩ 3 5 (.int .i64 0) w) := by
  have := byte_any b _ 3 0 w h (by decide) (by decide) (by decide)
  rw [l3.1, l3.2.1, l3.2.2] at this
  exact this
theorem live_two (w : World) : Calls Try.prog 12 #[.int .i64 1, .int .i64 2] w fun e w' => e = .returned (.int .i64 513) ∧ w = w' := two_any 1 2 w
theorem live_any (w : World) : Calls Try.prog 7 #[] w fun e w' => e = .returned (.bool true) ∧ Keeps [] w w' := by
  go_enter Try.func7, Try.ntmps7
  go_wp2_with fail
  refine (new_any _ _).mono ?_
  rintro e w1 ⟨rfl, hr, hk⟩
  go_wp2_with fail
  refine (put_any _ _).mono ?_
  rintro e w2 ⟨x, rfl, hx, hb⟩
  have hq := seq_lit (hx.trans put513)
  have hr2 := hr.below hb hr.lt
  have hk2 := hk.next (Keeps.of_below hb []) (by simp)
  clear hx hr hk hb
  go_wp2_with fail
  refine (live_two _).mono ?_
  rintro e w3 ⟨rfl, rfl⟩
  go_wp2_with fail
  refine (live_r1 _ _ hr2).mono ?_
  rintro e w4 ⟨rfl, hr4, hk4⟩
  have hk4' := hk2.next hk4 (by simp)
  clear hr2 hk2 hk4
  go_wp2_with fail
  refine (live_r2 _ _ hr4).mono ?_
  rintro e w5 ⟨rfl, hr5, hk5⟩
  have hk5' := hk4'.next hk5 (by simp)
  clear hr4 hk4' hk5
  go_wp2_with fail
  refine (live_r3 _ _ hr5).mono ?_
  rintro e w6 ⟨rfl, hr6, hk6⟩
  have hk6' := hk5'.next hk6 (by simp)
  clear hr5 hk5' hk6
  go_wp2_with fail
  refine (err_any _ _ _ _ _ hr6).mono ?_
  rintro e w7 ⟨rfl, hd⟩
  go_wp2
  go_ret
  exact ⟨rfl, hk6'.drawn hd⟩

/-- The law: BitsParts. -/
theorem parts_law (n m : Int) (w : World) (_ : (Lit.int .i64 n).wf = true) (_ : (Lit.int .i64 m).wf = true) : Calls Try.prog 3 #[.int .i64 n, .int .i64 m] w fun e w' => e = .returned (.bool true) ∧ Below w.heap.size w w' := by
  have HE : Hid ((n % 256 + 256 * (n / 256 % 256)) % 256 = n % 256) := by show _ = _; omega
  go_enter Try.func3, Try.ntmps3
  go_wp2_with fail
  refine (live_any _).mono ?_
  rintro e w1 ⟨rfl, hk⟩
  go_wp2_with fail
  refine (low_any _ _).mono ?_
  rintro e w2 ⟨rfl, rfl⟩
  go_wp2_with fail
  refine (rlow_any _ _).mono ?_
  rintro e w2 ⟨rfl, rfl⟩
  go_wp2_with fail
  refine (high_any _ _).mono ?_
  rintro e w2 ⟨rfl, rfl⟩
  go_wp2_with fail
  refine (rhigh_any _ _).mono ?_
  rintro e w2 ⟨rfl, rfl⟩
  go_wp2_with fail
  refine (two_any _ _ _).mono ?_
  rintro e w2 ⟨rfl, rfl⟩
  go_wp2_with fail
  refine (rtwob_any _ _ _).mono ?_
  rintro e w2 ⟨rfl, rfl⟩
  go_wp2_with fail
  refine (put_any _ _).mono ?_
  rintro e w2 ⟨x, rfl, hx, hb2⟩
  go_wp2_with fail
  refine (rput_any _ _).mono ?_
  rintro e w3 ⟨y, rfl, hy, hb3⟩
  have hq := seq_true (hx.trans hy.symm)
  clear hx hy
  go_wp2_with fail
  refine (count_any _ _).mono ?_
  rintro e w4 ⟨rfl, rfl⟩
  go_wp2_with fail
  refine (rcount_any _ _).mono ?_
  rintro e w4 ⟨rfl, rfl⟩
  go_wp2_with fail
  refine (low_any _ _).mono ?_
  rintro e w4 ⟨rfl, rfl⟩
  go_wp2_with fail
  refine (high_any _ _).mono ?_
  rintro e w4 ⟨rfl, rfl⟩
  go_wp2_with fail
  refine (two_any _ _ _).mono ?_
  rintro e w4 ⟨rfl, rfl⟩
  go_wp2_with fail
  refine (low_any _ _).mono ?_
  rintro e w4 ⟨rfl, rfl⟩
  rw [HE.out]
  go_wp2_with fail
  refine (low_any _ _).mono ?_
  rintro e w4 ⟨rfl, rfl⟩
  go_wp2
  go_ret
  exact ⟨rfl, Below.next (Below.next hk.all hb2) hb3⟩
end Bi
end Go.Proofs.Ytidfljnjghgkgaa
