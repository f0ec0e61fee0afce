/- The reference of latch: bit by bit. Its plain functions, and what each computes. -/
import Derived.Test.YtckindhnhbcgoaaLatchB
import Derived.Test.YtckindhnhbcgoaaBw
namespace Go.Proofs.Ytckindhnhbcgoaa
open Go.RowKit
namespace La
open Sm
/-- The number of the first k bits. -/
def valK (p : Nat → Bool) : Nat → Nat
  | 0 => 0
  | k + 1 => valK p k + if p k = true then 2 ^ k else 0
theorem valK_s (p : Nat → Bool) (k : Nat) : valK p (k + 1) = valK p k + if p k = true then 2 ^ k else 0 := rfl
theorem valK_lt (p : Nat → Bool) (k : Nat) : valK p k < 2 ^ k := by
  induction k with
  | zero => simp [valK]
  | succ k ih => rw [valK_s, Nat.pow_succ]; split <;> omega
theorem valK_bit (p : Nat → Bool) (k j : Nat) : (valK p k).testBit j = (decide (j < k) && p j) := by
  induction k with
  | zero => simp [valK]
  | succ k ih =>
    have hlt := valK_lt p k
    rw [valK_s]
    by_cases hp : p k = true
    · rw [if_pos hp, Nat.add_comm, ← Nat.mul_one (2 ^ k), Nat.two_pow_add_eq_or_of_lt hlt, Nat.testBit_or, Nat.mul_one, Nat.testBit_two_pow, ih]
      by_cases hjk : j = k
      · subst hjk; simp [hp]
      · have : decide (j < k) = decide (j < k + 1) := by
          rw [Bool.eq_iff_iff]; simp; omega
        rw [this]
        simp [show ¬ k = j from fun h => hjk h.symm]
    · rw [if_neg hp, Nat.add_zero, ih]
      by_cases hjk : j = k
      · subst hjk; simp [hp]
      · have : decide (j < k) = decide (j < k + 1) := by
          rw [Bool.eq_iff_iff]; simp; omega
        rw [this]
theorem valK_or (p q : Nat → Bool) : valK p 8 ||| valK q 8 = valK (fun k => p k || q k) 8 := by
  refine Nat.eq_of_testBit_eq fun j => ?_
  rw [Nat.testBit_or, valK_bit, valK_bit, valK_bit]
  cases decide (j < 8) <;> simp
theorem valK_of (n : Nat) (h : n < 256) : valK n.testBit 8 = n := by
  refine Nat.eq_of_testBit_eq fun j => ?_
  rw [valK_bit]
  by_cases hj : j < 8
  · simp [hj]
  · have : n < 2 ^ j := Nat.lt_of_lt_of_le (show n < 2 ^ 8 from h) (Nat.pow_le_pow_right (by decide) (by omega))
    rw [Nat.testBit_lt_two_pow this]; simp [hj]
theorem valK_congr (p q : Nat → Bool) (k : Nat) (h : ∀ j, j < k → p j = q j) : valK p k = valK q k := by
  induction k with
  | zero => rfl
  | succ k ih => rw [valK_s, valK_s, ih (fun j hj => h j (by omega)), h k (by omega)]
/-- A number of eight bits, as an int. -/
def num8 (p : Nat → Bool) : Int := (valK p 8 : Nat)
theorem num8_bd (p : Nat → Bool) : 0 ≤ num8 p ∧ num8 p ≤ 255 := by
  have := valK_lt p 8
  unfold num8
  omega
theorem num8_or (p q : Nat → Bool) : bits .or .i64 (num8 p) (num8 q) = num8 fun k => p k || q k := by
  have h1 := valK_lt p 8
  have h2 := valK_lt q 8
  unfold num8
  rw [Bw.or_nat _ _ (by omega) (by omega), valK_or]
/-- Is the k'th bit of a number set? -/
def bitB (x : Int) (k : Nat) : Bool := x.toNat.testBit k
theorem num8_of (x : Int) (h : 0 ≤ x ∧ x ≤ 255) : num8 (bitB x) = x := by
  unfold num8 bitB
  rw [valK_of _ (by omega)]
  omega
theorem num8_zero : num8 (fun _ => false) = 0 := by decide
theorem bitB_div (x : Nat) (k : Nat) : (((x : Int) / 2 ^ k % 2) == 1) = bitB x k := by
  unfold bitB
  rw [Int.toNat_natCast, Nat.testBit_eq_decide_div_mod_eq, Bool.eq_iff_iff]
  have : ((x : Int) / 2 ^ k % 2) = ((x / 2 ^ k % 2 : Nat) : Int) := by simp
  rw [this]
  simp
  omega
theorem halved (b : Int) (m : Nat) : b / 2 ^ m / 2 = b / 2 ^ (m + 1) := by
  rw [Int.ediv_ediv_of_nonneg (Int.le_of_lt (Int.pow_pos (by decide))), Int.pow_succ]
theorem div_bd (b : Int) (m : Nat) (h0 : 0 ≤ b) (h1 : b ≤ 255) : 0 ≤ b / 2 ^ m ∧ b / 2 ^ m ≤ 255 := by
  have hp : (0 : Int) < 2 ^ m := Int.pow_pos (by decide)
  refine ⟨Int.ediv_nonneg h0 (Int.le_of_lt hp), ?_⟩
  have : b / 2 ^ m ≤ b := Int.ediv_le_self _ h0
  omega
theorem bit_any (x : Int) (k : Nat) (w : World) (h0 : 0 ≤ x) (h1 : x ≤ 255) (hk : k ≤ 8) : Calls Try.prog 22 #[.int .i64 x, .int .i64 (k : Int)] w fun e w' => e = .returned (.bool (bitB x k)) ∧ w = w' := by
  have HB : Hid (((x / 2 ^ k % 2) == 1) = bitB x k) := by
    obtain ⟨n, rfl⟩ := Int.eq_ofNat_of_zero_le h0
    exact bitB_div n k
  have HD := Lib.hid (fun m => div_bd x m h0 h1)
  have HX : Hid (x = x / 2 ^ 0) := by show x = x / 2 ^ 0; simp
  go_enter Try.func22, Try.ntmps22
  go_wp2
  go_loop [0, 5] (fun n i => ∃ m : Nat, m ≤ k ∧ i = .int .i64 m ∧ n = .int .i64 (x / 2 ^ m)) (fun _ i => k - (intOf i).toNat)
  case atStart => exact ⟨0, by omega, rfl, by rw [← HX.out]⟩
  case round =>
    obtain ⟨m, hm, rfl, rfl⟩ := hrel
    obtain ⟨d0, d1⟩ := HD.out m
    have HH := Lib.hid (halved x m)
    by_cases hmk : m < k
    · generalize x / 2 ^ m = y at *
      go_wp2
      go_round
      case rel => exact ⟨m + 1, by omega, by go_num, by rw [← HH.out]⟩
      case measure => simp [intOf]; omega
    · obtain rfl : m = k := by omega
      generalize x / 2 ^ m = y at *
      clear HX
      go_wp2
      go_ret
      exact ⟨ret_bool HB.out, rfl⟩
theorem power_any (k : Nat) (w : World) (hk : k ≤ 8) : Calls Try.prog 23 #[.int .i64 (k : Int)] w fun e w' => e = .returned (.int .i64 ((2 ^ k : Nat) : Int)) ∧ w = w' := by
  have HP : Hid (∀ m, m ≤ 8 → 1 ≤ ((2 ^ m : Nat) : Int) ∧ ((2 ^ m : Nat) : Int) ≤ 256) := Lib.hid fun m hm => by
    have h1 := Nat.two_pow_pos m
    have h2 : 2 ^ m ≤ 2 ^ 8 := Nat.pow_le_pow_right (by decide) hm
    omega
  go_enter Try.func23, Try.ntmps23
  go_wp2
  go_loop [3, 4] (fun n i => ∃ m : Nat, m ≤ k ∧ i = .int .i64 m ∧ n = .int .i64 ((2 ^ m : Nat) : Int)) (fun _ i => k - (intOf i).toNat)
  case atStart => exact ⟨0, by omega, rfl, rfl⟩
  case round =>
    obtain ⟨m, hm, rfl, rfl⟩ := hrel
    obtain ⟨d0, d1⟩ := HP.out m (by omega)
    have HS : Hid (2 * ((2 ^ m : Nat) : Int) = ((2 ^ (m + 1) : Nat) : Int)) := Lib.hid (by rw [Nat.pow_succ]; omega)
    by_cases hmk : m < k
    · generalize ((2 ^ m : Nat) : Int) = y at *
      go_wp2
      go_round
      case rel => exact ⟨m + 1, by omega, by go_num, by rw [← HS.out]⟩
      case measure => simp [intOf]; omega
    · obtain rfl : m = k := by omega
      generalize hy : ((2 ^ m : Nat) : Int) = y at *
      have HY := Lib.hid hy
      clear hy
      go_wp2
      go_ret
      exact ⟨ret_int HY.out.symm, rfl⟩
end La
end Go.Proofs.Ytckindhnhbcgoaa
