/- What is wrong with a descriptor: the program's list and the reference's. -/
import Derived.Test.YtdjckfcafiikeaaBitsC
namespace Go.Proofs.Ytdjckfcafiikeaa
open Go.RowKit
attribute [local go_sem] Bw.and255 Bw.and65535
namespace De
open Sm
def thereB (a n all : Int) : Bool := decide (0 ≤ a ∧ n ≤ all ∧ a ≤ all - n)
theorem there_any (a n all : Int) (w : World) (h0 : 0 ≤ n) (h1 : n ≤ 1000) (h2 : all ≤ 9223372036854775807) (h3 : -9223372036854775808 ≤ all) : Calls Try.prog 19 #[.int .i64 a, .int .i64 n, .int .i64 all] w fun e w' => e = .returned (.bool (thereB a n all)) ∧ w = w' := by
  by_cases ha : 0 ≤ a
  · by_cases hn : n ≤ all
    · by_cases hl : a ≤ all - n
      · have e : thereB a n all = true := decide_eq_true ⟨ha, hn, hl⟩
        rw [e]
        clear e
        have HD : decide (a ≤ all - n) = true := decide_eq_true hl
        go_enter Try.func19, Try.ntmps19
        go_wp2
        go_ret
        exact ⟨rfl, rfl⟩
      · have e : thereB a n all = false := decide_eq_false fun h => hl h.2.2
        rw [e]
        clear e
        have HD : decide (a ≤ all - n) = false := decide_eq_false hl
        go_enter Try.func19, Try.ntmps19
        go_wp2
        go_ret
        exact ⟨rfl, rfl⟩
    · have e : thereB a n all = false := decide_eq_false fun h => hn h.2.1
      rw [e]
      clear e
      go_enter Try.func19, Try.ntmps19
      go_wp2
      go_ret
      exact ⟨rfl, rfl⟩
  · have e : thereB a n all = false := decide_eq_false fun h => ha h.1
    rw [e]
    clear e
    go_enter Try.func19, Try.ntmps19
    go_wp2
    go_ret
    exact ⟨rfl, rfl⟩
/-- What is wrong with a descriptor. -/
def chk (w a l g size sec : Int) : Int :=
  if w < 1 ∨ 6 < w then 3
  else if 5 ≤ w ∧ (l.tmod 16 ≠ 0 ∨ l = 0) then 3
  else if l < 0 ∨ 32 < l then 4
  else if ¬ (0 ≤ a ∧ l ≤ size ∧ a ≤ size - l) then 6
  else if 5 ≤ w ∧ ¬ (0 ≤ g ∧ l / 16 ≤ sec ∧ g ≤ sec - l / 16) then 6
  else if w = 3 ∧ (g < 0 ∨ 255 < g) then 2
  else 0
end De
end Go.Proofs.Ytdjckfcafiikeaa
