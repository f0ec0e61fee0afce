/- A number turned by quarters: whatever the number and the quarters. -/
import Derived.Test.YtbkljphhgghjdaaBw
import Derived.Test.YtbkljphhgghjdaaMem
import Derived.Scope
import Derived.WalkMore
import Derived.ScopeJumps
import Derived.Laws.ComplexArith
import Derived.Outline
namespace Go.Proofs.Ytbkljphhgghjdaa
open Go.RowKit
namespace Ph
open Sm
def ng (x : Nat) : Nat := Op.negFloat .f64 x
/-- A number (its two words), turned by n quarters. -/
def tn : Nat → Nat × Nat → Nat × Nat
  | 0, z => z
  | n + 1, z => tn n (ng z.2, z.1)
theorem tn_s (n : Nat) (x y : Nat) : tn (n + 1) (x, y) = tn n (ng y, x) := rfl
theorem run_ng (P : Program) (x : Nat) (w : World) : (Op.unary .neg (.float .f64 x)).run P w = .ok (.float .f64 (ng x)) w := rfl
def turned (z : Nat × Nat) : Value := .complex .f64 z.1 z.2
attribute [local irreducible] ng tn
theorem turn_nat (x y m : Nat) (k : Int) (hm3 : m ≤ 3) (hm : bits .and .i64 k 3 = (m : Int)) (w : World) :
    Calls Try.prog 21 #[.complex .f64 x y, .int .i64 k] w fun e w' => e = .returned (turned (tn m (x, y))) ∧ w = w' := by
  have hn := run_ng Try.prog
  have t0 : tn 0 (x, y) = (x, y) := by unfold tn; rfl
  have HS := Lib.hid (fun (n x y : Nat) => tn_s n x y)
  have H0 := Lib.hid (fun (x y : Nat) => show tn 0 (x, y) = (x, y) by unfold tn; rfl)
  clear t0
  go_enter Try.func21, Try.ntmps21
  go_wp2
  refine wp_scope_jumps 0 (fun a' w' => w' = w ∧ ∃ (j p q : Nat) (u5 u6 u7 u8 u9 u10 u11 u12 u13 u14 u15 u16 u17 : Value), j ≤ 3 ∧ tn j (p, q) = tn m (x, y) ∧ a' = { tmps := #[.complex .f64 p q, .int .i64 j, undef, undef, .complex .f64 0 0, u5, u6, u7, u8, u9, u10, u11, u12, u13, u14, u15, u16, u17], defers := [] }) (fun a _ => (intOf (a.tmps.getD 1 undef)).toNat) rfl ?_ ?_
  · rcases Nat.eq_zero_or_pos m with h | h
    · subst h
      go_wp2
      go_step3
      go_wp2
      simp only [Exit.jump]
      go_ret
      refine ⟨?_, rfl⟩
      rw [H0.out]
      rfl
    · have hz : ((m : Int) == 0) = false := by simp; omega
      go_wp2
      go_step3
      go_wp2
      go_step3
      obtain ⟨n, rfl⟩ : ∃ n, m = n + 1 := ⟨m - 1, by omega⟩
      exact ⟨rfl, rfl, n, _, _, _, _, _, _, _, _, _, _, _, _, _, _, _, by omega, (HS.out n x y).symm, by simp; exact ⟨rfl, rfl, rfl, rfl, rfl, rfl, rfl, rfl, rfl, rfl, rfl, rfl, rfl⟩⟩
  · rintro a' w' ⟨rfl, j, p, q, u5, u6, u7, u8, u9, u10, u11, u12, u13, u14, u15, u16, u17, hj, he, rfl⟩
    rcases Nat.eq_zero_or_pos j with h | h
    · subst h
      rw [H0.out] at he
      have HE := Lib.hid he
      clear he
      go_wp2
      simp only [Exit.jump]
      go_ret
      refine ⟨?_, rfl⟩
      rw [← HE.out]
      rfl
    · have hz : ((j : Int) == 0) = false := by simp; omega
      obtain ⟨n, rfl⟩ : ∃ n, j = n + 1 := ⟨j - 1, by omega⟩
      rw [HS.out] at he
      have HE := Lib.hid he
      clear he
      go_wp2
      go_step3
      exact ⟨rfl, ⟨rfl, n, _, _, _, _, _, _, _, _, _, _, _, _, _, _, _, by omega, HE.out, by simp; exact ⟨rfl, rfl, rfl, rfl, rfl, rfl, rfl, rfl, rfl, rfl, rfl, rfl, rfl⟩⟩, by simp [intOf]⟩
theorem turn_any (x y : Nat) (k : Int) (w : World) :
    Calls Try.prog 21 #[.complex .f64 x y, .int .i64 k] w fun e w' => e = .returned (turned (tn (k % 4).toNat (x, y))) ∧ w = w' :=
  turn_nat x y _ k (by omega) (by rw [Bw.and3]; omega) w
end Ph
end Go.Proofs.Ytbkljphhgghjdaa
