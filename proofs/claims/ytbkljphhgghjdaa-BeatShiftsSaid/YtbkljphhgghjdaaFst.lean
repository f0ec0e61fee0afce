/- Stores of floats and complex numbers, as the walk wants them. -/
import Derived.Test.YtbkljphhgghjdaaMem
namespace Go.Proofs.Ytbkljphhgghjdaa
open Go.RowKit
namespace Ph
theorem run_store_float (P : Program) (w : World) (a : Addr) (m : Mode) (k : FloatKind) (n : Nat) : (store a (.float k n) m).run P w = stored P w a (.float k n) m := run_store P w a _ m rfl
theorem run_store_complex (P : Program) (w : World) (a : Addr) (m : Mode) (k : FloatKind) (n n' : Nat) : (store a (.complex k n n') m).run P w = stored P w a (.complex k n n') m := run_store P w a _ m rfl
end Ph
end Go.Proofs.Ytbkljphhgghjdaa
