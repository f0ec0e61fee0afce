/- Results that lie in a cell of their own. -/
import Derived.Test.YtdbkgpnbmafpmaaGo
import Derived.Deep.MidRow
namespace Go.Proofs.Ytdbkgpnbmafpmaa
open Go.RowKit
namespace Sm
theorem results_cell {fn : Func} {a : Tmp} {t : TypeId} (h : fn.results = #[.cell a t]) (tmps : Array Value) (P : Program) (w : World) {p : Addr} {v : Value} (ht : tmps.getD a undef = .pointer (some p)) (hl : (loadVar t p).run P w = .ok v w) :
    (results fn tmps).run P w = .ok v w := by
  have ht' : tmps[a]?.getD undef = .pointer (some p) := by rw [← ht]; simp
  simp [results, h, ht', asAddr, hl]
theorem results_cell2 {fn : Func} {a u : Tmp} {t : TypeId} (h : fn.results = #[.cell a t, .tmp u]) (tmps : Array Value) (P : Program) (w : World) {p : Addr} {v : Value} (ht : tmps.getD a undef = .pointer (some p)) (hl : (loadVar t p).run P w = .ok v w) :
    (results fn tmps).run P w = .ok (.tuple #[v, tmps.getD u undef]) w := by
  have ht' : tmps[a]?.getD undef = .pointer (some p) := by rw [← ht]; simp
  simp [results, h, ht', asAddr, hl]
end Sm
end Go.Proofs.Ytdbkgpnbmafpmaa
