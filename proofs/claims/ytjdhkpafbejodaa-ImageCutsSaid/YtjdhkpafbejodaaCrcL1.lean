/- The law CrcSums, and what all laws of the check lean on: what is asked whatever is asked (live). -/
import Derived.Test.YtjdhkpafbejodaaCrcR
namespace Go.Proofs.Ytjdhkpafbejodaa
open Go.RowKit
attribute [local go_sem] Bw.and255 Bw.and65535
namespace Cw
open Cm
open PlainAid (bt get_bt bt_nonneg bt_le)

theorem live1 : (crc 65535#16 (ByteArray.mk #[49, 50, 51, 52, 53, 54, 55, 56, 57]).data.toList).toNat = 10673 := by decide +kernel
theorem live2 : (crc 65535#16 (ByteArray.mk #[]).data.toList).toNat = 65535 := by decide +kernel
theorem tmod_facts (n b : Int) (h0 : 1 ≤ b) : -b < n.tmod b ∧ n.tmod b < b ∧ (n.tmod b < 0 → n.tmod b + b = n % b) ∧ (0 ≤ n.tmod b → n.tmod b = n % b) := by
  have hb : -b < n.tmod b ∧ n.tmod b < b := by
    rcases Int.le_total 0 n with h | h
    · rw [Int.tmod_eq_emod_of_nonneg h]
      have := Int.emod_nonneg n (show b ≠ 0 by omega)
      have := Int.emod_lt_of_pos n (show 0 < b by omega)
      omega
    · have e : n.tmod b = -((-n) % b) := by
        rw [← Int.tmod_eq_emod_of_nonneg (show 0 ≤ -n by omega), Int.neg_tmod]; omega
      have := Int.emod_nonneg (-n) (show b ≠ 0 by omega)
      have := Int.emod_lt_of_pos (-n) (show 0 < b by omega)
      omega
  have hm : n % b = n.tmod b % b := by
    have h := Int.mul_tdiv_add_tmod n b
    conv => lhs; rw [← h]
    rw [Int.add_comm, Int.add_mul_emod_self_left]
  refine ⟨hb.1, hb.2, fun h => ?_, fun h => ?_⟩
  · rw [hm, ← Int.add_emod_right, Int.emod_eq_of_lt (by omega) (by omega)]
  · rw [hm, Int.emod_eq_of_lt (by omega) (by omega)]
theorem rest_any (n b : Int) (w : World) (h0 : 1 ≤ b) (h1 : b ≤ 65536) : Calls Try.prog 52 #[.int .i64 n, .int .i64 b] w fun e w' => e = .returned (.int .i64 (n % b)) ∧ w = w' := by
  obtain ⟨t0, t1, t2, t3⟩ := tmod_facts n b h0
  by_cases hn : n.tmod b < 0
  · have HE := Lib.hid (t2 hn)
    clear t2 t3
    go_enter Try.func52, Try.ntmps52
    go_wp2
    go_ret
    exact ⟨ret_int HE.out, rfl⟩
  · have HE := Lib.hid (t3 (by omega))
    clear t2 t3
    go_enter Try.func52, Try.ntmps52
    go_wp2
    go_ret
    exact ⟨ret_int HE.out, rfl⟩
theorem rlow_any (n : Int) (w : World) : Calls Try.prog 45 #[.int .i64 n] w fun e w' => e = .returned (.int .i64 (n % 256)) ∧ w = w' := by
  go_enter Try.func45, Try.ntmps45
  go_wp2_with (go_at_call 52; refine (rest_any _ _ _ (by decide) (by decide)).mono ?_; rintro e w' ⟨rfl, rfl⟩)
  go_ret
  exact ⟨rfl, rfl⟩
theorem rhigh_any (n : Int) (w : World) : Calls Try.prog 46 #[.int .i64 n] w fun e w' => e = .returned (.int .i64 (n % 65536 / 256)) ∧ w = w' := by
  go_enter Try.func46, Try.ntmps46
  go_wp2_with (go_at_call 52; refine (rest_any _ _ _ (by decide) (by decide)).mono ?_; rintro e w' ⟨rfl, rfl⟩)
  go_ret
  exact ⟨rfl, rfl⟩

theorem rsum_any (s : ByteArray) (w : World) (hs : s.size ≤ 9000) : Calls Try.prog 16 #[.string s] w fun e w' => e = .returned (.int .i64 ((crc 65535#16 s.data.toList).toNat : Int)) ∧ w = w' := by
  go_enter Try.func16, Try.ntmps16
  go_wp2_with fail
  refine (from_any _ _ _ hs (by decide) (by decide)).mono ?_
  rintro e w1 ⟨rfl, rfl⟩
  go_wp2
  go_ret
  exact ⟨rfl, rfl⟩

end Cw
end Go.Proofs.Ytjdhkpafbejodaa
