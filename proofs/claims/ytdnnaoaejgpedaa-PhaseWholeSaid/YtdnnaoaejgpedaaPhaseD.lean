/- What must be whatever is asked (live). -/
import Derived.Test.YtdnnaoaejgpedaaPhaseC
import Derived.Scope
import Derived.WalkMore
import Derived.ScopeJumps
namespace Go.Proofs.Ytdnnaoaejgpedaa
open Go.RowKit
namespace Ph
theorem turn_one (w : World) : Calls Try.prog 8 #[.complex .f64 4613937818241073152 4616189618054758400, .int .i64 1] w fun e w' => e = .returned (.complex .f64 13839561654909534208 4613937818241073152) ∧ w' = w := by
  have hn : ∀ w, (Op.unary .neg (.float .f64 4616189618054758400)).run Try.prog w = .ok (.float .f64 13839561654909534208) w := by
    have : Op.negFloat .f64 4616189618054758400 = 13839561654909534208 := by decide +kernel
    intro w
    rw [← this]
    rfl
  go_enter Try.func8, Try.ntmps8
  go_wp2
  refine wp_scope_jumps 0 (fun a' w' => w' = w ∧ ∃ (u5 u6 u7 u8 u9 u10 u11 u12 u13 u14 u15 u16 u17 : Value), a' = { tmps := #[.complex .f64 13839561654909534208 4613937818241073152, .int .i64 0, undef, undef, .complex .f64 0 0, u5, u6, u7, u8, u9, u10, u11, u12, u13, u14, u15, u16, u17], defers := [] }) (fun _ _ => 0) rfl ?_ ?_
  · go_wp2
    go_step3
    go_wp2
    go_step3
    rw [show Go.RowKit.wrap64 (bits BinOp.and IntKind.i64 1 3 - 1) = 0 from by decide +kernel]
    exact ⟨rfl, rfl, _, _, _, _, _, _, _, _, _, _, _, _, _, rfl⟩
  · rintro a' w' ⟨rfl, u5, u6, u7, u8, u9, u10, u11, u12, u13, u14, u15, u16, u17, rfl⟩
    go_wp2
    simp only [Exit.jump]
    go_ret
    exact ⟨rfl, rfl⟩
theorem norm_live (w : World) : Calls Try.prog 6 #[.complex .f64 4613937818241073152 4616189618054758400] w fun e w' => e = .returned (.float .f64 4627730092099895296) ∧ w' = w :=
  norm_of 4613937818241073152 4616189618054758400 4621256167635550208 4625196817309499392 4627730092099895296 w (by decide +kernel) (by decide +kernel) (by decide +kernel)
end Ph
end Go.Proofs.Ytdnnaoaejgpedaa
