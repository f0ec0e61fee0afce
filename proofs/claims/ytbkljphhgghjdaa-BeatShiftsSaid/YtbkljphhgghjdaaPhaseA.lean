/- The package phase, function by function, on any floats whose operations are valid. -/
import Derived.Test.YtbkljphhgghjdaaChecked
import Derived.WalkKit
import Derived.Tactics2
import Derived.StillTactics
import Derived.WalkLawsBesides
import Derived.Laws.ComplexArith
import Derived.Test.YtbkljphhgghjdaaFloat
namespace Go.Proofs.Ytbkljphhgghjdaa
open Go.RowKit
namespace Ph
theorem times_of (a b c d ac bd ad bc x y : Nat) (w : World) (h1 : floatBits .mul .f64 a c = some ac) (h2 : floatBits .mul .f64 b d = some bd) (h3 : floatBits .mul .f64 a d = some ad) (h4 : floatBits .mul .f64 b c = some bc) (h5 : floatBits .sub .f64 ac bd = some x) (h6 : floatBits .add .f64 ad bc = some y) :
    Calls Try.prog 26 #[.complex .f64 a b, .complex .f64 c d] w fun e w' => e = .returned (.complex .f64 x y) ∧ w' = w := by
  have r1 := fun (t : TypeId) (w : World) => run_float_arith (P := Try.prog) w .mul t .f64 _ _ _ h1
  have r2 := fun (t : TypeId) (w : World) => run_float_arith (P := Try.prog) w .mul t .f64 _ _ _ h2
  have r3 := fun (t : TypeId) (w : World) => run_float_arith (P := Try.prog) w .mul t .f64 _ _ _ h3
  have r4 := fun (t : TypeId) (w : World) => run_float_arith (P := Try.prog) w .mul t .f64 _ _ _ h4
  have r5 := fun (t : TypeId) (w : World) => run_float_arith (P := Try.prog) w .sub t .f64 _ _ _ h5
  have r6 := fun (t : TypeId) (w : World) => run_float_arith (P := Try.prog) w .add t .f64 _ _ _ h6
  clear h1 h2 h3 h4 h5 h6
  go_enter Try.func26, Try.ntmps26
  go_wp2
  all_goals (go_ret; exact ⟨rfl, rfl⟩)
end Ph
end Go.Proofs.Ytbkljphhgghjdaa
