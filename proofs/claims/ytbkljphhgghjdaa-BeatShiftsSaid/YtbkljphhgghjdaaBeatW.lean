/- whole, Whole: numbers up to 262144. -/
import Derived.Test.YtbkljphhgghjdaaPhaseB
import Derived.Lib.Hide
namespace Go.Proofs.Ytbkljphhgghjdaa
open Go.RowKit
namespace Ph
open Fl
theorem run_conv (n : Int) (w : World) : (convert 3 44 (.int .i64 n)).run Try.prog w = .ok (.float .f64 (FloatKind.f64.nearest n)) w :=
  run_convert_int_float (P := Try.prog) w 3 44 .i64 .f64 n (by kernel_rfl) (by kernel_rfl)
theorem neg_most : Op.negFloat .f64 (FloatKind.f64.nearest 262144) = FloatKind.f64.nearest (-262144) := by decide +kernel
theorem run_neg (P : Program) (w : World) : (Op.unary .neg (.float .f64 (FloatKind.f64.nearest 262144))).run P w = .ok (.float .f64 (FloatKind.f64.nearest (-262144))) w := by
  rw [← neg_most]
  rfl
theorem wh_near (n : Int) : Wh (FloatKind.f64.nearest n) n := wh_of n
attribute [local irreducible] FloatKind.nearest
theorem whole_of (x : Nat) (v : Int) (h : Wh x v) (hb : v.natAbs ≤ 262144) (w : World) : Calls Try.prog 25 #[.float .f64 x, .int .i64 262144] w fun e w' => e = .returned (.bool true) ∧ w' = w := by
  have ht := Lib.hid (fun w => trunc_of x v h (by omega) w)
  have hc := run_conv 262144
  have o1 : FloatKind.f64.format.order x x = some .eq := by
    have := wh_order h h (by omega) (by omega)
    rw [show compare v v = .eq from Int.compare_eq_eq.2 rfl] at this
    exact this
  have o2 : (FloatKind.f64.format.order x (FloatKind.f64.nearest (-262144)) == some .gt || FloatKind.f64.format.order x (FloatKind.f64.nearest (-262144)) == some .eq) = true := by
    have : FloatKind.f64.format.order x (FloatKind.f64.nearest (-262144)) = some (compare v (-262144)) := wh_order h (wh_near _) (by omega) (by decide)
    rw [this]
    show (some (compareOfLessAndEq v (-262144)) == some .gt || some (compareOfLessAndEq v (-262144)) == some .eq) = true
    unfold compareOfLessAndEq
    rw [if_neg (by omega)]
    split <;> rfl
  have o3 : (FloatKind.f64.format.order x (FloatKind.f64.nearest 262144) == some .lt || FloatKind.f64.format.order x (FloatKind.f64.nearest 262144) == some .eq) = true := by
    have : FloatKind.f64.format.order x (FloatKind.f64.nearest 262144) = some (compare v 262144) := wh_order h (wh_near _) (by omega) (by decide)
    rw [this]
    show (some (compareOfLessAndEq v 262144) == some .lt || some (compareOfLessAndEq v 262144) == some .eq) = true
    unfold compareOfLessAndEq
    by_cases hv : v < 262144
    · rw [if_pos hv]; rfl
    · rw [if_neg hv, if_pos (by omega)]; rfl
  have o4 := run_neg Try.prog
  clear h hb
  go_enter Try.func25, Try.ntmps25
  go_wp2_with fail
  refine (ht.out _).mono ?_
  rintro e w1 ⟨rfl, rfl⟩
  go_wp2_with fail
  all_goals (go_ret; exact ⟨rfl, rfl⟩)
theorem both_of (x y : Nat) (u v : Int) (h : Wh x u) (h2 : Wh y v) (hb : u.natAbs ≤ 262144) (hb2 : v.natAbs ≤ 262144) (w : World) : Calls Try.prog 23 #[.complex .f64 x y, .int .i64 262144] w fun e w' => e = .returned (.bool true) ∧ w' = w := by
  have ha := Lib.hid (fun w => whole_of x u h hb w)
  have hc := Lib.hid (fun w => whole_of y v h2 hb2 w)
  clear h h2 hb hb2
  go_enter Try.func23, Try.ntmps23
  go_wp2_with fail
  refine (ha.out _).mono ?_
  rintro e w1 ⟨rfl, rfl⟩
  go_wp2_with fail
  refine (hc.out _).mono ?_
  rintro e w1 ⟨rfl, rfl⟩
  go_wp2_with fail
  go_ret
  exact ⟨rfl, rfl⟩
end Ph
end Go.Proofs.Ytbkljphhgghjdaa
