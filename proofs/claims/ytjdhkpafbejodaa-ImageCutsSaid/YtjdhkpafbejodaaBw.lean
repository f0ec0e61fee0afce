/- Plain facts on the bit operations of int: a mask, and the operations on numbers that are not negative. -/
import Derived.WalkKit
namespace Go.Proofs.Ytjdhkpafbejodaa
namespace Bw

theorem wrap_nat (n : Nat) (h : n < 2 ^ 63) : IntKind.i64.wrap (n : Int) = n := by
  rw [IntKind.wrap_i64]; omega

theorem mask (x : Int) (i : Nat) (hi : i ≤ 62) : bits .and .i64 x (2 ^ i - 1) = x % 2 ^ i := by
  have hc : ((2 : Int) ^ i - 1) = ((2 ^ i - 1 : Nat) : Int) := by
    have := Nat.two_pow_pos i
    rw [Int.natCast_sub this]; simp
  have hlt : 2 ^ i ≤ 2 ^ 62 := Nat.pow_le_pow_right (by decide) hi
  have e1 : (BitVec.ofInt 64 ((2 ^ i - 1 : Nat) : Int)).toNat = 2 ^ i - 1 := by
    rw [BitVec.ofInt_natCast, BitVec.toNat_ofNat]; exact Nat.mod_eq_of_lt (by omega)
  rw [hc]
  show IntKind.i64.wrap ((BitVec.ofInt 64 x &&& BitVec.ofInt 64 ((2 ^ i - 1 : Nat) : Int)).toNat : Int) = _
  rw [BitVec.toNat_and, e1, Nat.and_two_pow_sub_one_eq_mod]
  have hb : (BitVec.ofInt 64 x).toNat % 2 ^ i < 2 ^ 63 := by
    have := Nat.mod_lt (BitVec.ofInt 64 x).toNat (Nat.two_pow_pos i)
    omega
  rw [wrap_nat _ hb, BitVec.toNat_ofInt, Int.natCast_emod]
  have : (((x % (2 ^ 64 : Nat)).toNat : Nat) : Int) = x % (2 ^ 64 : Nat) := Int.toNat_of_nonneg (Int.emod_nonneg _ (by decide))
  rw [this]
  have hd : ((2 ^ i : Nat) : Int) ∣ ((2 ^ 64 : Nat) : Int) := by
    exact Int.natCast_dvd_natCast.2 (Nat.pow_dvd_pow 2 (by omega))
  have := Int.emod_emod_of_dvd x hd
  rw [this]; simp

theorem and1 (x : Int) : bits .and .i64 x 1 = x % 2 := mask x 1 (by decide)
theorem and3 (x : Int) : bits .and .i64 x 3 = x % 4 := mask x 2 (by decide)
theorem and7 (x : Int) : bits .and .i64 x 7 = x % 8 := mask x 3 (by decide)
theorem and15 (x : Int) : bits .and .i64 x 15 = x % 16 := mask x 4 (by decide)
theorem and255 (x : Int) : bits .and .i64 x 255 = x % 256 := mask x 8 (by decide)
theorem and65535 (x : Int) : bits .and .i64 x 65535 = x % 65536 := mask x 16 (by decide)

theorem ofInt_nat (a : Nat) (ha : a < 2 ^ 63) : (BitVec.ofInt 64 (a : Int)).toNat = a := by
  rw [BitVec.ofInt_natCast, BitVec.toNat_ofNat]; exact Nat.mod_eq_of_lt (by omega)
theorem xor_nat (a b : Nat) (ha : a < 2 ^ 63) (hb : b < 2 ^ 63) : bits .xor .i64 (a : Int) (b : Int) = ((a ^^^ b : Nat) : Int) := by
  have hx : a ^^^ b < 2 ^ 63 := Nat.xor_lt_two_pow ha hb
  show IntKind.i64.wrap ((BitVec.ofInt 64 (a : Int) ^^^ BitVec.ofInt 64 (b : Int)).toNat : Int) = _
  rw [BitVec.toNat_xor, ofInt_nat a ha, ofInt_nat b hb, wrap_nat _ hx]
theorem or_nat (a b : Nat) (ha : a < 2 ^ 63) (hb : b < 2 ^ 63) : bits .or .i64 (a : Int) (b : Int) = ((a ||| b : Nat) : Int) := by
  have hx : a ||| b < 2 ^ 63 := Nat.or_lt_two_pow ha hb
  show IntKind.i64.wrap ((BitVec.ofInt 64 (a : Int) ||| BitVec.ofInt 64 (b : Int)).toNat : Int) = _
  rw [BitVec.toNat_or, ofInt_nat a ha, ofInt_nat b hb, wrap_nat _ hx]
theorem and_nat (a b : Nat) (ha : a < 2 ^ 63) (hb : b < 2 ^ 63) : bits .and .i64 (a : Int) (b : Int) = ((a &&& b : Nat) : Int) := by
  have hx : a &&& b < 2 ^ 63 := Nat.and_lt_two_pow _ hb
  show IntKind.i64.wrap ((BitVec.ofInt 64 (a : Int) &&& BitVec.ofInt 64 (b : Int)).toNat : Int) = _
  rw [BitVec.toNat_and, ofInt_nat a ha, ofInt_nat b hb, wrap_nat _ hx]

/-- The bits of two numbers of 63 bits, as a function of numbers. -/
def xorI (x y : Int) : Int := ((x.toNat ^^^ y.toNat : Nat) : Int)
theorem xor_in (x y : Int) (h : 0 ≤ x ∧ x ≤ 9223372036854775807 ∧ 0 ≤ y ∧ y ≤ 9223372036854775807) : bits .xor .i64 x y = xorI x y := by
  obtain ⟨a, rfl⟩ := Int.eq_ofNat_of_zero_le h.1
  obtain ⟨b, rfl⟩ := Int.eq_ofNat_of_zero_le h.2.2.1
  rw [xor_nat a b (by omega) (by omega)]; rfl
end Bw
end Go.Proofs.Ytjdhkpafbejodaa
