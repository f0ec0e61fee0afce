/- For regions that draw their order, walked by hand: a stronger condition from some operation on. -/
import Derived.Test.YtdbkgpnbmafpmaaReg
namespace Go.Proofs.Ytdbkgpnbmafpmaa
open Go.RowKit
namespace Sm
section
variable {P : Program} {ops : Array Oper} {Q : Exit → Act → World → Prop} {md : Region.Mode} {S S' : World → Prop}
theorem wpAnyH_mono (hS : ∀ w, S' w → S w) : ∀ (fuel : Nat) (listed : Array Bool) (a : Act) (w : World), wpAnyH P md ops Q S' fuel listed a w → wpAnyH P md ops Q S fuel listed a w
  | 0, _, _, _, h => h
  | fuel + 1, _, _, _, h => ⟨h.1, fun i hi => wpOp_mono (fun _ w' h' => ⟨hS w' h'.1, wpAnyH_mono hS fuel _ _ w' h'.2⟩) (h.2 i hi)⟩
end
end Sm
end Go.Proofs.Ytdbkgpnbmafpmaa
