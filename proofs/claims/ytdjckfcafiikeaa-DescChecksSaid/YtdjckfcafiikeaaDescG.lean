/- The law DescChecks: all that may be asked for, together. -/
import Derived.Test.YtdjckfcafiikeaaDescF0
import Derived.Test.YtdjckfcafiikeaaDescF1
import Derived.Test.YtdjckfcafiikeaaDescF2
import Derived.Test.YtdjckfcafiikeaaDescF3
import Derived.Test.YtdjckfcafiikeaaDescF4
import Derived.Test.YtdjckfcafiikeaaDescF5
import Derived.Test.YtdjckfcafiikeaaDescF6
namespace Go.Proofs.Ytdjckfcafiikeaa
open Go.RowKit
namespace De
open Sm Bi
theorem checks_law (w st a l g b0 size b2 b3 b4 b5 b6 b7 b8 sec x n : Int) (W : World) (v1 : (Lit.int .u8 w).wf = true) (v2 : (Lit.int .u8 st).wf = true) (v3 : (Lit.int .i64 a).wf = true) (v4 : (Lit.int .i64 l).wf = true) (v5 : (Lit.int .i64 g).wf = true)
    (v6 : (Lit.int .i64 b0).wf = true) (v7 : (Lit.int .i64 size).wf = true) (v8 : (Lit.int .i64 b2).wf = true) (v9 : (Lit.int .i64 b3).wf = true) (v10 : (Lit.int .i64 b4).wf = true) (v11 : (Lit.int .i64 b5).wf = true) (v12 : (Lit.int .i64 b6).wf = true) (v13 : (Lit.int .i64 b7).wf = true) (v14 : (Lit.int .i64 b8).wf = true) (v15 : (Lit.int .i64 sec).wf = true) (v16 : (Lit.int .i64 x).wf = true) (v17 : (Lit.int .i64 n).wf = true) :
    Calls Try.prog 4 #[.agg #[.int .u8 w, .int .u8 st, .int .i64 a, .int .i64 l, .int .i64 g], .agg #[.int .i64 b0, .int .i64 size, .int .i64 b2, .int .i64 b3, .int .i64 b4, .int .i64 b5, .int .i64 b6, .int .i64 b7, .int .i64 b8, .int .i64 sec], .int .i64 x, .int .i64 n] W fun e W' => e = .returned (.bool true) ∧ Below W.heap.size W W' := by
  rcases what_cases w with rfl | rfl | rfl | rfl | rfl | rfl | ⟨e1, e2, e3, e4, e5, e6, h1, h2⟩
  · exact checks_1 st a l g b0 size b2 b3 b4 b5 b6 b7 b8 sec x n W v2 v3 v4 v5 v6 v7 v8 v9 v10 v11 v12 v13 v14 v15 v16 v17
  · exact checks_2 st a l g b0 size b2 b3 b4 b5 b6 b7 b8 sec x n W v2 v3 v4 v5 v6 v7 v8 v9 v10 v11 v12 v13 v14 v15 v16 v17
  · exact checks_3 st a l g b0 size b2 b3 b4 b5 b6 b7 b8 sec x n W v2 v3 v4 v5 v6 v7 v8 v9 v10 v11 v12 v13 v14 v15 v16 v17
  · exact checks_4 st a l g b0 size b2 b3 b4 b5 b6 b7 b8 sec x n W v2 v3 v4 v5 v6 v7 v8 v9 v10 v11 v12 v13 v14 v15 v16 v17
  · exact checks_5 st a l g b0 size b2 b3 b4 b5 b6 b7 b8 sec x n W v2 v3 v4 v5 v6 v7 v8 v9 v10 v11 v12 v13 v14 v15 v16 v17
  · exact checks_6 st a l g b0 size b2 b3 b4 b5 b6 b7 b8 sec x n W v2 v3 v4 v5 v6 v7 v8 v9 v10 v11 v12 v13 v14 v15 v16 v17
  · exact checks_0 w st a l g b0 size b2 b3 b4 b5 b6 b7 b8 sec x n W v1 v2 v3 v4 v5 v6 v7 v8 v9 v10 v11 v12 v13 v14 v15 v16 v17 e1 e2 e3 e4 e5 e6 h1 h2
end De
end Go.Proofs.Ytdjckfcafiikeaa
