/- The law CrcSums, and what all laws of the check lean on: what is asked whatever is asked (live). -/
import Derived.Test.YtjgmohlhabaoaaaCrcR
namespace Go.Proofs.Ytjgmohlhabaoaaa
open Go.RowKit
attribute [local go_sem] Bw.and255 Bw.and65535
namespace Cw
open Cm
open PlainAid (bt get_bt bt_nonneg bt_le)

theorem live1 : (crc 65535#16 (ByteArray.mk #[49, 50, 51, 52, 53, 54, 55, 56, 57]).data.toList).toNat = 10673 := by decide +kernel
theorem live2 : (crc 65535#16 (ByteArray.mk #[]).data.toList).toNat = 65535 := by decide +kernel
theorem live_any (w : World) : Calls Try.prog 7 #[] w fun e w' => e = .returned (.bool true) ∧ w = w' := by
  have h1 := live1
  have h2 := live2
  go_enter Try.func7, Try.ntmps7
  go_wp2_with fail
  refine (sum_any _ _ (by decide)).mono ?_
  rintro e w1 ⟨rfl, rfl⟩
  rw [h1]
  go_wp2_with fail
  refine (sum_any _ _ (by decide)).mono ?_
  rintro e w1 ⟨rfl, rfl⟩
  rw [h2]
  go_wp2
  go_ret
  exact ⟨rfl, rfl⟩

theorem tmod_facts (n b : Int) (h0 : 1 ≤ b) : -b < n.tmod b ∧ n.tmod b < b ∧ (n.tmod b < 0 → n.tmod b + b = n % b) ∧ (0 ≤ n.tmod b → n.tmod b = n % b) := by
  have hb : -b < n.tmod b ∧ n.tmod b < b := by
    rcases Int.le_total 0 n with h | h
    · rw [Int.tmod_eq_emod_of_nonneg h]
      have := Int.emod_nonneg n (show b ≠ 0 by omega)
      have := Int.emod_lt_of_pos n (show 0 < b by omega)
      omega
    · have e : n.tmod b = -((-n) % b) := by
        rw [← Int.tmod_eq_emod_of_nonneg (show 0 ≤ -n by omega), Int.neg_tmod]; omega
      have := Int.emod_nonneg (-n) (show b ≠ 0 by omega)
      have := Int.emod_lt_of_pos (-n) (show 0 < b by omega)
      omega
  have hm : n % b = n.tmod b % b := by
    have h := Int.mul_tdiv_add_tmod n b
    conv => lhs; rw [← h]
    rw [Int.add_comm, Int.add_mul_emod_self_left]
  refine ⟨hb.1, hb.2, fun h => ?_, fun h => ?_⟩
  · rw [hm, ← Int.add_emod_right, Int.emod_eq_of_lt (by omega) (by omega)]
  · rw [hm, Int.emod_eq_of_lt (by omega) (by omega)]
theorem rest_any (n b : Int) (w : World) (h0 : 1 ≤ b) (h1 : b ≤ 65536) : Calls Try.prog 20 #[.int .i64 n, .int .i64 b] w fun e w' => e = .returned (.int .i64 (n % b)) ∧ w = w' := by
  obtain ⟨t0, t1, t2, t3⟩ := tmod_facts n b h0
  by_cases hn : n.tmod b < 0
  · have HE := Lib.hid (t2 hn)
    clear t2 t3
    go_enter Try.func20, Try.ntmps20
    go_wp2
    go_ret
    exact ⟨ret_int HE.out, rfl⟩
  · have HE := Lib.hid (t3 (by omega))
    clear t2 t3
    go_enter Try.func20, Try.ntmps20
    go_wp2
    go_ret
    exact ⟨ret_int HE.out, rfl⟩
theorem rlow_any (n : Int) (w : World) : Calls Try.prog 9 #[.int .i64 n] w fun e w' => e = .returned (.int .i64 (n % 256)) ∧ w = w' := by
  go_enter Try.func9, Try.ntmps9
  go_wp2_with (go_at_call 20; refine (rest_any _ _ _ (by decide) (by decide)).mono ?_; rintro e w' ⟨rfl, rfl⟩)
  go_ret
  exact ⟨rfl, rfl⟩
theorem rhigh_any (n : Int) (w : World) : Calls Try.prog 10 #[.int .i64 n] w fun e w' => e = .returned (.int .i64 (n % 65536 / 256)) ∧ w = w' := by
  go_enter Try.func10, Try.ntmps10
  go_wp2_with (go_at_call 20; refine (rest_any _ _ _ (by decide) (by decide)).mono ?_; rintro e w' ⟨rfl, rfl⟩)
  go_ret
  exact ⟨rfl, rfl⟩

theorem rsum_any (s : ByteArray) (w : World) (hs : s.size ≤ 400) : Calls Try.prog 12 #[.string s] w fun e w' => e = .returned (.int .i64 ((crc 65535#16 s.data.toList).toNat : Int)) ∧ w = w' := by
  go_enter Try.func12, Try.ntmps12
  go_wp2_with fail
  refine (from_any _ _ _ hs (by decide) (by decide)).mono ?_
  rintro e w1 ⟨rfl, rfl⟩
  go_wp2
  go_ret
  exact ⟨rfl, rfl⟩

/-- The law: CrcSums. -/
theorem sums_walk (s : ByteArray) (n : Int) (w : World) (_hs : s.size ≤ maxLen) : Calls Try.prog 3 #[.string s, .int .i64 n] w fun e w' => e = .returned (.bool true) ∧ w = w' := by
  by_cases hl : 300 < s.size
  · go_enter Try.func3, Try.ntmps3
    go_wp2_with (go_at_call 7; refine (live_any _).mono ?_; rintro e w' ⟨rfl, rfl⟩)
    go_ret
    exact ⟨rfl, rfl⟩
  · have hs4 : s.size ≤ 400 := by omega
    have hb := get_bt s
    have HT : Hid (w16 (n % 256 + 256 * (n % 65536 / 256)) = w16 n) := by unfold w16; congr 2; omega
    have HK : Hid (0 < s.size → w16 n = w16 n) := fun _ => rfl
    go_enter Try.func3, Try.ntmps3
    go_wp2
    go_loop [5, 6] (fun x i => ∃ k : Nat, k ≤ s.size ∧ i = .int .i64 k ∧ ∃ z : Int, x = .int .i64 z ∧ (0 < k → z = ((crc (w16 n) (s.data.toList.take k)).toNat : Int)) ∧ w16 z = crc (w16 n) (s.data.toList.take k)) (fun _ i => s.size - (intOf i).toNat)
    case atStart => exact ⟨0, by omega, rfl, n, rfl, by omega, rfl⟩
    case round =>
      obtain ⟨k, hk, rfl, z, rfl, hz1, hz2⟩ := hrel
      have HZ1 := Lib.hid hz1
      have HZ2 := Lib.hid hz2
      clear hz1 hz2
      by_cases hlt : k < s.size
      · have b0 := bt_nonneg s k
        have b1 := bt_le s k
        have HC : Hid (crc (w16 n) (s.data.toList.take (k + 1)) = byteStep (w16 z) (bt s k % 256).toNat) := by
          rw [take_snoc s k hlt, crc_snoc, ← HZ2.out, bt_get s k hlt, byte_mod]; rfl
        clear HZ1 HZ2
        go_wp2_with (go_at_call 8; refine (step_any _ _ _).mono ?_; rintro e w' ⟨rfl, rfl⟩)
        go_round
        case rel => exact ⟨k + 1, by omega, by go_num, _, rfl, fun _ => by rw [HC.out], by rw [w16_nat, HC.out]⟩
        case measure => simp [intOf]; omega
      · obtain rfl : k = s.size := by omega
        have HZ : Hid (0 < s.size → z = ((crc (w16 n) s.data.toList).toNat : Int)) := by
          have := HZ1.out
          rw [List.take_of_length_le (by simp)] at this
          exact this
        clear HZ1 HZ2
        have hr0 : 0 ≤ n % 256 + 256 * (n % 65536 / 256) := by omega
        have hr1 : n % 256 + 256 * (n % 65536 / 256) < 65536 := by omega
        by_cases h0 : s.size = 0
        · have h00 : ((s.size : Int) == 0) = true := by simp [h0]
          clear h0
          go_wp2_with (first | (go_at_call 7; refine (live_any _).mono ?_; rintro e w' ⟨rfl, rfl⟩) | (go_at_call 9; refine (rlow_any _ _).mono ?_; rintro e w' ⟨rfl, rfl⟩) | (go_at_call 10; refine (rhigh_any _ _).mono ?_; rintro e w' ⟨rfl, rfl⟩) | (go_at_call 11; refine (sum_any _ _ hs4).mono ?_; rintro e w' ⟨rfl, rfl⟩) | (go_at_call 12; refine (rsum_any _ _ hs4).mono ?_; rintro e w' ⟨rfl, rfl⟩))
          go_ret
          exact ⟨rfl, rfl⟩
        · have h00 : ((s.size : Int) == 0) = false := by simp [h0]
          obtain rfl := HZ.out (by omega)
          clear h0 HZ
          go_wp2_with (first | (go_at_call 7; refine (live_any _).mono ?_; rintro e w' ⟨rfl, rfl⟩) | (go_at_call 9; refine (rlow_any _ _).mono ?_; rintro e w' ⟨rfl, rfl⟩) | (go_at_call 10; refine (rhigh_any _ _).mono ?_; rintro e w' ⟨rfl, rfl⟩) | (go_at_call 11; refine (sum_any _ _ hs4).mono ?_; rintro e w' ⟨rfl, rfl⟩) | (go_at_call 12; refine (rsum_any _ _ hs4).mono ?_; rintro e w' ⟨rfl, rfl⟩) | (go_at_call 13; refine (from_any _ _ _ hs4 hr0 hr1).mono ?_; rintro e w' ⟨rfl, rfl⟩; rw [HT.out]))
          go_ret
          exact ⟨rfl, rfl⟩
theorem sums_law (s : ByteArray) (n : Int) (w : World) (hs : s.size ≤ maxLen) (_ : (Lit.int .i64 n).wf = true) : Calls Try.prog 3 #[.string s, .int .i64 n] w fun e w' => e = .returned (.bool true) ∧ Below w.heap.size w w' :=
  (sums_walk s n w hs).mono fun _ _ ⟨he, hw⟩ => ⟨he, by subst hw; exact Below.refl _ _⟩
end Cw
end Go.Proofs.Ytjgmohlhabaoaaa
