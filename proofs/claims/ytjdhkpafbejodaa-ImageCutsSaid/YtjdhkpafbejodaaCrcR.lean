/- What the reference of the check computes, function by function. -/
import Derived.Test.YtjdhkpafbejodaaCrcW
namespace Go.Proofs.Ytjdhkpafbejodaa
open Go.RowKit
attribute [local go_sem] Bw.and255 Bw.and65535
namespace Cw
open Cm
open PlainAid (bt get_bt bt_nonneg bt_le)

theorem push_eq_no (s b : Int) (_h0 : 0 ≤ s) (_h1 : s < 65536) (h2 : 0 ≤ b) (h3 : b < 2) (hc : s / 32768 = b) : s * 2 % 65536 = ((push (w16 s) (b == 1)).toNat : Int) := by
  unfold push
  have e : ((w16 s).msb ^^ (b == 1)) = false := by
    rw [BitVec.msb_eq_decide]
    unfold w16
    rw [BitVec.toNat_ofNat]
    have : b = 0 ∨ b = 1 := by omega
    rcases this with rfl | rfl
    · simp; omega
    · simp; omega
  rw [e, show poly false = 0#16 from rfl, BitVec.xor_zero, BitVec.toNat_shiftLeft, Nat.shiftLeft_eq]
  unfold w16
  rw [BitVec.toNat_ofNat]
  omega
theorem push_eq_yes (s b : Int) (h0 : 0 ≤ s) (h1 : s < 65536) (h2 : 0 ≤ b) (h3 : b < 2) (hc : ¬ s / 32768 = b) : bits .xor .i64 (s * 2 % 65536) 4129 = ((push (w16 s) (b == 1)).toNat : Int) := by
  unfold push
  have e : ((w16 s).msb ^^ (b == 1)) = true := by
    rw [BitVec.msb_eq_decide]
    unfold w16
    rw [BitVec.toNat_ofNat]
    have : b = 0 ∨ b = 1 := by omega
    rcases this with rfl | rfl
    · simp; omega
    · simp; omega
  rw [e, show poly true = 4129#16 from rfl, BitVec.toNat_xor, BitVec.toNat_shiftLeft, Nat.shiftLeft_eq]
  have e2 : s * 2 % 65536 = (((s * 2 % 65536).toNat : Nat) : Int) := by omega
  have := Bw.xor_nat (s * 2 % 65536).toNat 4129 (by omega) (by decide)
  rw [← e2, show ((4129 : Nat) : Int) = 4129 from rfl] at this
  rw [this]
  unfold w16
  rw [BitVec.toNat_ofNat]
  have e3 : (s * 2 % 65536).toNat = (s % 65536).toNat % 2 ^ 16 * 2 ^ 1 % 2 ^ 16 := by omega
  rw [e3]; rfl
theorem u16_lt (u : W16) : (u.toNat : Int) < 65536 := by have := u.isLt; omega
theorem push_any (s b : Int) (w : World) (h0 : 0 ≤ s) (h1 : s < 65536) (h2 : 0 ≤ b) (h3 : b < 2) : Calls Try.prog 47 #[.int .i64 s, .int .i64 b] w fun e w' => e = .returned (.int .i64 ((push (w16 s) (b == 1)).toNat : Int)) ∧ w = w' := by
  by_cases hc : s / 32768 = b
  · have H := Lib.hid (push_eq_no s b h0 h1 h2 h3 hc)
    have hb : (s / 32768 != b) = false := by simpa using hc
    clear hc
    go_enter Try.func47, Try.ntmps47
    go_wp2
    go_ret
    exact ⟨ret_int H.out, rfl⟩
  · have H := Lib.hid (push_eq_yes s b h0 h1 h2 h3 hc)
    have hb : (s / 32768 != b) = true := by simpa using hc
    clear hc
    go_enter Try.func47, Try.ntmps47
    go_wp2
    go_ret
    exact ⟨ret_int H.out, rfl⟩

/-- A bit of a byte, from the highest on. -/
def bitI (b i : Int) : Int := b / 2 ^ (7 - i).toNat % 2
theorem bitI_bd (b i : Int) : 0 ≤ bitI b i ∧ bitI b i < 2 := by unfold bitI; omega
theorem bitI_bit (b : Nat) (i : Nat) : (bitI b i == 1) = b.testBit (7 - i) := by
  unfold bitI
  have e : (7 - (i : Int)).toNat = 7 - i := by omega
  rw [e, Nat.testBit_eq_decide_div_mod_eq]
  have e2 : (b : Int) / 2 ^ (7 - i) % 2 = ((b / 2 ^ (7 - i) % 2 : Nat) : Int) := by simp
  rw [e2, Bool.eq_iff_iff]
  simp
  omega
theorem halved (b : Int) (m : Nat) : b / 2 ^ m / 2 = b / 2 ^ (m + 1) := by
  rw [Int.pow_succ, Int.ediv_ediv_of_nonneg (by exact Int.le_of_lt (Int.pow_pos (by decide)))]
theorem div_pow_bd (b : Int) (m : Nat) (h0 : 0 ≤ b) (h1 : b ≤ 255) : 0 ≤ b / 2 ^ m ∧ b / 2 ^ m ≤ 255 := by
  have hp : (0 : Int) < 2 ^ m := Int.pow_pos (by decide)
  exact ⟨Int.ediv_nonneg h0 (by omega), by have := Int.ediv_le_self (2 ^ m) h0; omega⟩
theorem bit_any (b i : Int) (w : World) (h0 : 0 ≤ b) (h1 : b ≤ 255) (h2 : 0 ≤ i) (h3 : i ≤ 7) : Calls Try.prog 48 #[.int .u8 b, .int .i64 i] w fun e w' => e = .returned (.int .i64 (bitI b i)) ∧ w = w' := by
  go_enter Try.func48, Try.ntmps48
  go_wp2
  go_loop [5, 6] (fun n k => ∃ m : Nat, i ≤ 7 - m ∧ k = .int .i64 (7 - m) ∧ n = .int .i64 (b / 2 ^ m)) (fun _ k => (intOf k).toNat)
  case atStart => exact ⟨0, by omega, rfl, by simp⟩
  case round =>
    obtain ⟨m, hm, rfl, rfl⟩ := hrel
    have HV := Lib.hid (halved b m)
    obtain ⟨d0, d1⟩ := div_pow_bd b m h0 h1
    have HE : i = 7 - m → Hid (bitI b i = b / 2 ^ m % 2) := by rintro rfl; unfold bitI; rw [show (7 - (7 - (m : Int))).toNat = m from by omega]; rfl
    generalize b / 2 ^ m = x at *
    by_cases hlt : i < 7 - m
    · clear HE
      go_wp2
      go_round
      case rel => exact ⟨m + 1, by omega, by congr 1; omega, by rw [← HV.out]⟩
      case measure => simp [intOf]; omega
    · have HE := HE (by omega)
      go_wp2
      go_ret
      exact ⟨ret_int HE.out.symm, rfl⟩

theorem feed8 (b : Nat) (k : Nat) (hk : k < 8) (v : W16) : feed v ((bitsB b).take (k + 1)) = push (feed v ((bitsB b).take k)) (b.testBit (7 - k)) := by
  have : (bitsB b).take (k + 1) = (bitsB b).take k ++ [b.testBit (7 - k)] := by
    match k, hk with
    | 0, _ | 1, _ | 2, _ | 3, _ | 4, _ | 5, _ | 6, _ | 7, _ => rfl
  rw [this, feed_append, feed_cons, feed_nil]
theorem from_any (n : Int) (s : ByteArray) (w : World) (hs : s.size ≤ 9000) (h0 : 0 ≤ n) (h1 : n < 65536) : Calls Try.prog 36 #[.int .i64 n, .string s] w fun e w' => e = .returned (.int .i64 ((crc (w16 n) s.data.toList).toNat : Int)) ∧ w = w' := by
  have hb := get_bt s
  have HW : Hid (n = ((w16 n).toNat : Int)) := by unfold w16; rw [BitVec.toNat_ofNat]; show n = _; omega
  generalize w16 n = v0 at *
  go_enter Try.func36, Try.ntmps36
  go_wp2
  go_loop [0, 5, 6] (fun x i _ => ∃ k : Nat, k ≤ s.size ∧ i = .int .i64 k ∧ x = .int .i64 ((crc v0 (s.data.toList.take k)).toNat : Int)) (fun _ i _ => s.size - (intOf i).toNat)
  case atStart => exact ⟨0, by omega, rfl, by rw [HW.out]; rfl⟩
  case round =>
    obtain ⟨k, hk, rfl, rfl⟩ := hrel
    by_cases hlt : k < s.size
    · have b0 := bt_nonneg s k
      have b1 := bt_le s k
      have HT : Hid (crc v0 (s.data.toList.take (k + 1)) = feed (crc v0 (s.data.toList.take k)) ((bitsB (bt s k).toNat).take 8)) := by
        rw [take_snoc s k hlt, crc_snoc, bt_get s k hlt, step_feed]; rfl
      generalize crc v0 (s.data.toList.take k) = v at *
      go_wp2
      go_loop [0, 6] (fun x j => ∃ m : Nat, m ≤ 8 ∧ j = .int .i64 m ∧ x = .int .i64 ((feed v ((bitsB (bt s k).toNat).take m)).toNat : Int)) (fun _ j => 8 - (intOf j).toNat)
      case atStart => exact ⟨0, by omega, rfl, rfl⟩
      case round =>
        obtain ⟨m, hm, rfl, rfl⟩ := hrel
        by_cases hm8 : m < 8
        · have HF := Lib.hid (feed8 (bt s k).toNat m hm8 v)
          have HB : Hid ((bitI (bt s k) m == 1) = (bt s k).toNat.testBit (7 - m)) := by
            have := bitI_bit (bt s k).toNat m
            rw [Int.toNat_of_nonneg b0] at this
            exact this
          generalize feed v ((bitsB (bt s k).toNat).take m) = u at *
          have hu0 : 0 ≤ (u.toNat : Int) := by omega
          go_wp2_with fail
          refine (bit_any _ _ _ b0 b1 (by omega) (by omega)).mono ?_
          rintro e w1 ⟨rfl, rfl⟩
          obtain ⟨c0, c1⟩ := bitI_bd (bt s k) m
          generalize bitI (bt s k) m = c at *
          go_wp2_with fail
          refine (push_any _ _ _ hu0 (u16_lt u) c0 c1).mono ?_
          rintro e w1 ⟨rfl, rfl⟩
          rw [w16_nat, HB.out]
          go_wp2
          go_round
          case rel => exact ⟨m + 1, by omega, by go_num, by rw [HF.out]⟩
          case measure => simp [intOf]; omega
        · obtain rfl : m = 8 := by omega
          go_wp2
          go_round
          case rel => exact ⟨k + 1, by omega, by go_num, by rw [HT.out]⟩
          case measure => simp [intOf]; omega
    · go_wp2
      go_ret
      exact ⟨ret_int (by rw [List.take_of_length_le (by simp; omega)]), rfl⟩
end Cw
end Go.Proofs.Ytjdhkpafbejodaa
