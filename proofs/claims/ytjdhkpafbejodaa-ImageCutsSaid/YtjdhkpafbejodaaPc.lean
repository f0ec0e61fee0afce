/- How many bits of a number are 1: one by one, and by striking the lowest. -/
import Derived.WalkKit
namespace Go.Proofs.Ytjdhkpafbejodaa
namespace Pc
/-- Of the lowest k bits. -/
def pc : Nat → Nat → Nat
  | 0, _ => 0
  | k + 1, n => n % 2 + pc k (n / 2)
theorem pc_zero (k : Nat) : pc k 0 = 0 := by
  induction k with
  | zero => rfl
  | succ k ih => simp [pc, ih]
theorem and_odd (m : Nat) : (2 * m + 1) &&& (2 * m) = 2 * m := by
  have h1 : ((2 * m + 1) &&& (2 * m)) / 2 = m := by
    rw [Nat.and_div_two, show (2 * m + 1) / 2 = m from by omega, show 2 * m / 2 = m from by omega, Nat.and_self]
  have h2 : ((2 * m + 1) &&& (2 * m)) % 2 = 0 := by
    have := Nat.and_mod_two_pow (a := 2 * m + 1) (b := 2 * m) (n := 1)
    rw [show 2 ^ 1 = 2 from rfl] at this
    rw [this, show 2 * m % 2 = 0 from by omega, Nat.and_zero]
  omega
theorem and_even (m : Nat) (h : 0 < m) : (2 * m) &&& (2 * m - 1) = 2 * (m &&& (m - 1)) := by
  have h1 : ((2 * m) &&& (2 * m - 1)) / 2 = m &&& (m - 1) := by
    rw [Nat.and_div_two, show (2 * m) / 2 = m from by omega, show (2 * m - 1) / 2 = m - 1 from by omega]
  have h2 : ((2 * m) &&& (2 * m - 1)) % 2 = 0 := by
    have := Nat.and_mod_two_pow (a := 2 * m) (b := 2 * m - 1) (n := 1)
    rw [show 2 ^ 1 = 2 from rfl] at this
    rw [this, show 2 * m % 2 = 0 from by omega, Nat.zero_and]
  omega
theorem pc_strike (k : Nat) : ∀ n, 0 < n → n < 2 ^ k → pc k (n &&& (n - 1)) + 1 = pc k n := by
  induction k with
  | zero => intro n h0 h1; omega
  | succ k ih =>
    intro n h0 h1
    have hp : 2 ^ (k + 1) = 2 * 2 ^ k := by rw [Nat.pow_succ]; omega
    by_cases hodd : n % 2 = 1
    · obtain ⟨m, rfl⟩ : ∃ m, n = 2 * m + 1 := ⟨n / 2, by omega⟩
      rw [show 2 * m + 1 - 1 = 2 * m from by omega, and_odd]
      simp only [pc]
      rw [show 2 * m % 2 = 0 from by omega, show 2 * m / 2 = m from by omega, show (2 * m + 1) % 2 = 1 from by omega, show (2 * m + 1) / 2 = m from by omega]
      omega
    · obtain ⟨m, rfl⟩ : ∃ m, n = 2 * m := ⟨n / 2, by omega⟩
      rw [and_even m (by omega)]
      simp only [pc]
      rw [show 2 * (m &&& (m - 1)) % 2 = 0 from by omega, show 2 * (m &&& (m - 1)) / 2 = m &&& (m - 1) from by omega, show 2 * m % 2 = 0 from by omega, show 2 * m / 2 = m from by omega]
      have := ih m (by omega) (by omega)
      omega
theorem pc_le (k n : Nat) : pc k n ≤ k := by
  induction k generalizing n with
  | zero => simp [pc]
  | succ k ih => have := ih (n / 2); simp only [pc]; omega
end Pc
end Go.Proofs.Ytjdhkpafbejodaa
