/- Whole numbers are whole: Trunc, whole, Whole. -/
import Derived.Test.YtbkljphhgghjdaaPhaseA
import Derived.Laws.Externs
namespace Go.Proofs.Ytbkljphhgghjdaa
open Go.RowKit
namespace Ph
open Fl
theorem dec_eq (x : Nat) : FloatKind.f64.decode x = Ieee.double.read x := rfl
theorem enc_eq (d : Ieee.Datum) : FloatKind.f64.encode d = Ieee.double.write d := rfl
attribute [local irreducible] FloatKind.decode FloatKind.encode Ieee.Datum.integral
theorem run_integral (P : Program) (x : Nat) (v : Int) (h : Wh x v) (hb : v.natAbs < 2 ^ 53) (w : World) : (Extern.MathFloor.toIntegral "math.archTrunc" .zero #[.float .f64 x]).run P w = .ok (.float .f64 x) w := by
  obtain ⟨h1, h2⟩ := wh_trunc h hb
  have e1 : ∀ x, FloatKind.f64.decode x = Ieee.double.read x := dec_eq
  have e2 : ∀ d, FloatKind.f64.encode d = Ieee.double.write d := enc_eq
  obtain ⟨s, rfl, hs⟩ := h
  obtain ⟨m, q, hd, _⟩ := val_wd 1074 (Nat.le_refl _) s v.natAbs hb
  rw [hd] at h1
  rw [← e1] at hd
  rw [← e2] at h1
  generalize wd s v.natAbs = y at *
  conv => lhs; arg 2; whnf
  rw [hd]
  exact congrArg (fun r => Result.ok (Value.float .f64 r) w) h1
theorem call_trunc (x : Nat) (v : Int) (h : Wh x v) (hb : v.natAbs < 2 ^ 53) (w : World) : (callFunc 28 #[.float .f64 x]).run Try.prog w = .ok (.value (.float .f64 x)) w := by
  rw [run_callFunc_extern (P := Try.prog) (f := 28) (fn := Try.f28) (e := Extern.MathFloor.toIntegral "math.archTrunc" .zero) (by kernel_rfl) (by kernel_rfl) (by kernel_rfl) (by kernel_rfl) (by kernel_rfl), run_integral _ x v h hb w]
  rfl
theorem trunc_of (x : Nat) (v : Int) (h : Wh x v) (hb : v.natAbs < 2 ^ 53) (w : World) : Calls Try.prog 27 #[.float .f64 x] w fun e w' => e = .returned (.float .f64 x) ∧ w' = w := by
  have hc := call_trunc x v h hb
  clear h hb
  go_enter Try.func27, Try.ntmps27
  go_wp2
  all_goals (go_ret; exact ⟨rfl, rfl⟩)
end Ph
end Go.Proofs.Ytbkljphhgghjdaa
