/- The reference of bits, function by function. -/
import Derived.Test.YtidfljnjghgkgaaBitsB
namespace Go.Proofs.Ytidfljnjghgkgaa
open Go.RowKit
attribute [local go_sem] Bw.and255 Bw.and65535
namespace Bi
open Sm Pc
open PlainAid (bt get_bt bt_nonneg bt_le)

theorem tmod_facts (n b : Int) (h0 : 1 ≤ b) : -b < n.tmod b ∧ n.tmod b < b ∧ (n.tmod b < 0 → n.tmod b + b = n % b) ∧ (0 ≤ n.tmod b → n.tmod b = n % b) := by
  have hb : -b < n.tmod b ∧ n.tmod b < b := by
    rcases Int.le_total 0 n with h | h
    · rw [Int.tmod_eq_emod_of_nonneg h]
      have := Int.emod_nonneg n (show b ≠ 0 by omega)
      have := Int.emod_lt_of_pos n (show 0 < b by omega)
      omega
    · have e : n.tmod b = -((-n) % b) := by
        rw [← Int.tmod_eq_emod_of_nonneg (show 0 ≤ -n by omega), Int.neg_tmod]; omega
      have := Int.emod_nonneg (-n) (show b ≠ 0 by omega)
      have := Int.emod_lt_of_pos (-n) (show 0 < b by omega)
      omega
  have hm : n % b = n.tmod b % b := by
    have h := Int.mul_tdiv_add_tmod n b
    conv => lhs; rw [← h]
    rw [Int.add_comm, Int.add_mul_emod_self_left]
  refine ⟨hb.1, hb.2, fun h => ?_, fun h => ?_⟩
  · rw [hm, ← Int.add_emod_right, Int.emod_eq_of_lt (by omega) (by omega)]
  · rw [hm, Int.emod_eq_of_lt (by omega) (by omega)]
theorem rest_any (n b : Int) (w : World) (h0 : 1 ≤ b) (h1 : b ≤ 65536) : Calls Try.prog 32 #[.int .i64 n, .int .i64 b] w fun e w' => e = .returned (.int .i64 (n % b)) ∧ w = w' := by
  obtain ⟨t0, t1, t2, t3⟩ := tmod_facts n b h0
  by_cases hn : n.tmod b < 0
  · have HE := Lib.hid (t2 hn)
    clear t2 t3
    go_enter Try.func32, Try.ntmps32
    go_wp2
    go_ret
    exact ⟨ret_int HE.out, rfl⟩
  · have HE := Lib.hid (t3 (by omega))
    clear t2 t3
    go_enter Try.func32, Try.ntmps32
    go_wp2
    go_ret
    exact ⟨ret_int HE.out, rfl⟩
theorem rlow_any (n : Int) (w : World) : Calls Try.prog 9 #[.int .i64 n] w fun e w' => e = .returned (.int .i64 (n % 256)) ∧ w = w' := by
  go_enter Try.func9, Try.ntmps9
  go_wp2_with (go_at_call 32; refine (rest_any _ _ _ (by decide) (by decide)).mono ?_; rintro e w' ⟨rfl, rfl⟩)
  go_ret
  exact ⟨rfl, rfl⟩
theorem rhigh_any (n : Int) (w : World) : Calls Try.prog 11 #[.int .i64 n] w fun e w' => e = .returned (.int .i64 (n / 256 % 256)) ∧ w = w' := by
  have HE : Hid (n % 65536 / 256 = n / 256 % 256) := by show _ = _; omega
  go_enter Try.func11, Try.ntmps11
  go_wp2_with (go_at_call 32; refine (rest_any _ _ _ (by decide) (by decide)).mono ?_; rintro e w' ⟨rfl, rfl⟩)
  go_ret
  exact ⟨ret_int HE.out, rfl⟩
theorem rtwob_any (n m : Int) (w : World) : Calls Try.prog 13 #[.int .i64 n, .int .i64 m] w fun e w' => e = .returned (.int .i64 (n % 256 + 256 * (m % 256))) ∧ w = w' := by
  go_enter Try.func13, Try.ntmps13
  go_wp2_with (go_at_call 32; refine (rest_any _ _ _ (by decide) (by decide)).mono ?_; rintro e w' ⟨rfl, rfl⟩)
  go_ret
  exact ⟨rfl, rfl⟩
theorem rput_any (n : Int) (w : World) : Calls Try.prog 15 #[.int .i64 n] w (IsText (putL n) w) := by
  have hcv := two_bytes w
  go_enter Try.func15, Try.ntmps15
  go_wp2_with (first | (go_at_call 9; refine (rlow_any _ _).mono ?_; rintro e w' ⟨rfl, rfl⟩) | (go_at_call 11; refine (rhigh_any _ _).mono ?_; rintro e w' ⟨rfl, rfl⟩))
  go_ret
  exact ⟨_, rfl, putL_of n, (Below.refl _ _).alloc (Nat.le_refl _) _⟩
theorem rcount_any (n : Int) (w : World) : Calls Try.prog 17 #[.int .i64 n] w fun e w' => e = .returned (.int .i64 (pc 16 (n % 65536).toNat : Nat)) ∧ w = w' := by
  obtain ⟨m, hm⟩ : ∃ m : Nat, n % 65536 = m := ⟨(n % 65536).toNat, by omega⟩
  have hm2 : m < 65536 := by omega
  have HE : Hid ((n % 65536).toNat = m) := by show (n % 65536).toNat = m; omega
  go_enter Try.func17, Try.ntmps17
  go_wp2_with fail
  refine (rest_any _ _ _ (by decide) (by decide)).mono ?_
  rintro e w' ⟨rfl, rfl⟩
  rw [hm]
  clear hm
  go_wp2
  go_loop [3, 4] (fun i x => ∃ k c j : Nat, k < 65536 ∧ j ≤ 16 ∧ k < 2 ^ j ∧ c + j ≤ 16 ∧ c + pc j k = pc 16 m ∧ x = .int .i64 k ∧ i = .int .i64 c) (fun _ x => (intOf x).toNat)
  case atStart => exact ⟨m, 0, 16, hm2, by omega, by omega, by omega, by omega, rfl, rfl⟩
  case round =>
    obtain ⟨k, c, j, hk6, hj, hk, hc, hp, rfl, rfl⟩ := hrel
    clear hm2
    by_cases h0 : k = 0
    · subst h0
      have HR : Hid (c = pc 16 (n % 65536).toNat) := by rw [HE.out]; rw [pc_zero] at hp; exact hp
      clear hp hk
      go_wp2
      go_ret
      exact ⟨ret_int (by rw [← HR.out]), rfl⟩
    · cases j with
      | zero => exact absurd hk (by simp; omega)
      | succ j =>
        have hp' : c + k % 2 + pc j (k / 2) = pc 16 m := by simp only [pc] at hp ⊢; omega
        have hk' : k / 2 < 2 ^ j := by rw [Nat.pow_succ] at hk; omega
        have HP := Lib.hid hp'
        have HK := Lib.hid hk'
        clear hp hp' hk hk'
        have h4 : 0 < k := by omega
        go_wp2
        go_round
        case rel => exact ⟨k / 2, c + k % 2, j, by omega, by omega, HK.out, by omega, HP.out, by go_num, by go_num⟩
        case measure => simp [intOf]; omega
end Bi
end Go.Proofs.Ytidfljnjghgkgaa
