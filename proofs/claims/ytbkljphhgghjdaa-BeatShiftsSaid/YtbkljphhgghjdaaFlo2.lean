/- Whole numbers as floats: the negative one; back to an integer. -/
import Derived.Test.YtbkljphhgghjdaaFloat
import Derived.Test.YtbkljphhgghjdaaTurn
import Derived.Laws.FloatArith
namespace Go.Proofs.Ytbkljphhgghjdaa
namespace Fl
open Ieee
theorem cut_datum (s : Bool) (m q n K : Nat) (g1 : m * 2 ^ q = n * 2 ^ K) : Toward.zero.cut s (m <<< ((q : Int) - K).toNat) (-((q : Int) - K)).toNat = n := by
  rw [Nat.shiftLeft_eq]
  by_cases hc : K ≤ q
  · have e2 : ((q : Int) - K).toNat = q - K := by omega
    have e3 : (-((q : Int) - K)).toNat = 0 := by omega
    rw [e2, e3]
    have e4 : m * 2 ^ (q - K) = n := by
      refine Nat.eq_of_mul_eq_mul_right (Nat.two_pow_pos K) ?_
      rw [Nat.mul_assoc, ← Nat.pow_add, show q - K + K = q from by omega, g1]
    rw [e4]
    have := zero_whole s n 0 (by omega)
    rwa [Nat.pow_zero, Nat.mul_one] at this
  · have e2 : ((q : Int) - K).toNat = 0 := by omega
    have e3 : (-((q : Int) - K)).toNat = K - q := by omega
    rw [e2, e3, Nat.pow_zero, Nat.mul_one]
    have e4 : m = n * 2 ^ (K - q) := by
      refine Nat.eq_of_mul_eq_mul_right (Nat.two_pow_pos q) ?_
      rw [Nat.mul_assoc, ← Nat.pow_add, show K - q + q = K from by omega, g1]
    rw [e4]
    by_cases hn : n = 0
    · subst hn
      rw [Nat.zero_mul]
      unfold Toward.cut
      simp only [Nat.zero_div]
      rfl
    · refine zero_whole s n _ ?_
      have h1 : 2 ^ (K - q) ≤ n * 2 ^ (K - q) := Nat.le_mul_of_pos_left _ (by omega)
      have h2 := Nat.lt_log2_self (n := n * 2 ^ (K - q))
      have := two_lt (Nat.lt_of_le_of_lt h1 h2)
      omega
theorem int_wd (s : Bool) (n : Nat) (hb : n < 2 ^ 53) : (double.read (wd s n)).toInt .zero = some (sg s n) := by
  obtain ⟨K, hK⟩ : ∃ K : Nat, K = 1074 := ⟨_, rfl⟩
  obtain ⟨m, q, e1, g1⟩ := val_wd K (by omega) s n hb
  rw [e1]
  show some (signed s (Toward.zero.cut s (m <<< ((q : Int) - K).toNat) (-((q : Int) - K)).toNat) 0) = _
  rw [cut_datum s m q n K g1, signed_sg, Nat.pow_zero, Nat.mul_one]
theorem wh_int {x : Nat} {v : Int} (h : Wh x v) (hb : v.natAbs < 2 ^ 53) : (double.read x).toInt .zero = some v := by
  obtain ⟨s, rfl, e⟩ := h
  rw [int_wd s _ hb, e]
theorem word_xor (s : Bool) (r : Nat) (hr : r < 2 ^ 63) : double.word s r ^^^ 2 ^ 63 = double.word (!s) r := by
  have hw : double.signWeight = 2 ^ 63 := rfl
  unfold Format.word
  rw [hw]
  have e : 2 ^ 63 ^^^ r = 2 ^ 63 + r := by
    have h1 := Nat.two_pow_add_eq_or_of_lt hr 1
    rw [Nat.mul_one] at h1
    rw [h1]
    have hand : 2 ^ 63 &&& r = 0 := by
      apply Nat.eq_of_testBit_eq
      intro i
      rw [Nat.testBit_and, Nat.testBit_two_pow]
      by_cases h : 63 = i
      · subst h; simp [Nat.testBit_lt_two_pow hr]
      · simp [h]
    apply Nat.eq_of_testBit_eq
    intro i
    have := congrArg (fun z => z.testBit i) hand
    simp only [Nat.testBit_and, Nat.zero_testBit] at this
    rw [Nat.testBit_xor, Nat.testBit_or]
    cases h1 : (2 ^ 63).testBit i <;> cases h2 : r.testBit i <;> simp_all
  cases s
  · rw [if_neg (by decide), if_pos (by rfl), Nat.xor_comm, e]
  · rw [if_pos rfl, if_neg (by decide), ← e, Nat.xor_comm, ← Nat.xor_assoc, Nat.xor_self, Nat.zero_xor]
theorem neg_wd (s : Bool) (n : Nat) (hb : n < 2 ^ 53) : Ph.ng (wd s n) = wd (!s) n := by
  show wd s n ^^^ 2 ^ 63 = _
  by_cases hn : n = 0
  · subst hn
    have e : ∀ s, wd s 0 = double.word s 0 := by
      intro s
      unfold wd Format.nearest
      rw [if_pos rfl]
    rw [e, e]
    exact word_xor s 0 (by decide)
  · have hl := log_lt (n := n) (by omega) hb
    have k2 := kept_hi (n := n) (by omega) hb
    rw [wd_rg s n (by omega) hb, wd_rg (!s) n (by omega) hb]
    unfold rg
    refine word_xor s _ ?_
    have : (n.log2 + 1022) * 2 ^ 52 ≤ 1074 * 2 ^ 52 := Nat.mul_le_mul_right _ (by omega)
    omega
theorem wh_neg {x : Nat} {v : Int} (h : Wh x v) (hb : v.natAbs < 2 ^ 53) : Wh (Ph.ng x) (-v) := by
  obtain ⟨s, rfl, e⟩ := h
  rw [neg_wd s _ hb]
  refine ⟨!s, by rw [Int.natAbs_neg], ?_⟩
  rw [Int.natAbs_neg, sg_not, e]
end Fl
end Go.Proofs.Ytbkljphhgghjdaa
