/- The law BeatShifts, its arguments in the row's order. -/
import Derived.Test.YtbkljphhgghjdaaBeatQ
namespace Go.Proofs.Ytbkljphhgghjdaa
open Go.RowKit
namespace Be
theorem shifts2 (a : Option Addr) (la ca : Nat) (zs : List Int) (b : Option Addr) (lb cb : Nat) (ys : List Int) (d : Int) (w : World) (h1 : IsRow .i64 w a la ca zs) (h2 : IsRow .i64 w b lb cb ys) (h3 : (Lit.int .i64 d).wf = true) :
    Calls Try.prog 4 #[.slice a la ca, .slice b lb cb, .int .i64 d] w fun e w' => e = .returned (.bool true) ∧ Below w.heap.size w w' :=
  shifts a b la ca lb cb zs ys d w h1 h2 h3
end Be
end Go.Proofs.Ytbkljphhgghjdaa
