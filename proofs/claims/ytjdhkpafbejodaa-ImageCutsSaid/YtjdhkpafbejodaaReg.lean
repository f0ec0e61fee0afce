/- For regions that draw their order, walked by hand: an operation that is left out; a condition that asks nothing. -/
import Derived.Test.YtjdhkpafbejodaaGo
import Derived.Deep.RegionHeld3
namespace Go.Proofs.Ytjdhkpafbejodaa
open Go.RowKit
namespace Sm
def AnyW (_ : World) : Prop := True
section
variable {P : Program} {ops : Array Oper} {Q : Exit → Act → World → Prop} {md : Region.Mode} {S : World → Prop}
/-- An operation that a decided '&&' or '||' leaves out. -/
theorem wpAnyH_off {i : Nat} {d : Option Tmp} {fuel : Nat} {listed : Array Bool} {a : Act} {w : World} (hi : (ops[i]?).map (·.dst) = some d)
    (hs : Region.noSelect ops = true) (hf : Region.free md ops listed i = true) (hr : (Region.ready md ops listed).contains i = true)
    (hQ : ∀ c a w, Q (.panic c) (a.put d undef) w → Q (.panic c) a w) (hw : (ops[i]?).map (fun o => Region.wanted o (yielded ops a.tmps)) = some false) (hS : S w)
    (h : wpAnyH P md ops Q S fuel (listed.setIfInBounds i true) (a.put d undef) w) : wpAnyH P md ops Q S (fuel + 1) listed a w := by
  cases ho : ops[i]? with
  | none => rw [ho] at hi; cases hi
  | some o =>
    rw [ho] at hi hw
    injection hi with hi
    injection hw with hw
    subst hi
    exact wpAnyH_take ho hs hf hr hQ (Or.inr ⟨hw, rfl⟩) hS h
end
end Sm
end Go.Proofs.Ytjdhkpafbejodaa
