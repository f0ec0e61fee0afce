/- The law BeatPulses, told of a slice that came in. -/
import Derived.Test.YtbkljphhgghjdaaBeatH
import Derived.Test.YtbkljphhgghjdaaInts
namespace Go.Proofs.Ytbkljphhgghjdaa
open Go.RowKit
namespace Be
open Sm
theorem ticks_of {w : World} {a : Option Addr} {len cap : Nat} {zs : List Int} (h : IsRow .i64 w a len cap zs) (m : Nat) (hm : m ≤ len) (h5 : m ≤ 500) : Ticks w a m (zs.take m) := by
  obtain ⟨h1, _, h3⟩ := h.len
  refine ⟨by simp; omega, h5, fun k hk => ?_⟩
  obtain ⟨b, off, e, hb, hc, _⟩ := h.at_ (i := k) (by omega)
  refine ⟨b, off, e, hb, ?_⟩
  rw [hc, List.getD_eq_getElem?_getD, List.getD_eq_getElem?_getD, List.getElem?_take, if_pos hk]
theorem pulses (a : Option Addr) (len cap : Nat) (zs : List Int) (k : Int) (w : World) (h : IsRow .i64 w a len cap zs) (_ : (Lit.int .i64 k).wf = true) :
    Calls Try.prog 3 #[.slice a len cap, .int .i64 k] w fun e w' => e = .returned (.bool true) ∧ Below w.heap.size w w' := by
  obtain ⟨h1, h2, _⟩ := h.len
  exact (pulses_law a len cap zs k w h1 h2 (ticks_of h _ (by omega) (by omega))).mono fun _ _ ⟨he, hk⟩ => ⟨he, hk.all⟩
end Be
end Go.Proofs.Ytbkljphhgghjdaa
