/- Spectra of later ticks, and of two rows together: plain numbers. -/
import Derived.Test.YtbkljphhgghjdaaBeatM
namespace Go.Proofs.Ytbkljphhgghjdaa
open Go.RowKit
namespace Be
open Sm Ph Fl
theorem tz_cs (m n : Nat) (hm : m < 4) (hn : n < 4) : tz n (cs m, sn m) = (cs ((m + n) % 4), sn ((m + n) % 4)) := by
  have h4 : m = 0 ∨ m = 1 ∨ m = 2 ∨ m = 3 := by omega
  have h5 : n = 0 ∨ n = 1 ∨ n = 2 ∨ n = 3 := by omega
  rcases h4 with rfl | rfl | rfl | rfl <;> rcases h5 with rfl | rfl | rfl | rfl <;> decide
theorem tz_add (n : Nat) (a b c d : Int) : tz n (a + c, b + d) = ((tz n (a, b)).1 + (tz n (c, d)).1, (tz n (a, b)).2 + (tz n (c, d)).2) := by
  unfold tz
  split
  · rfl
  · split
    · simp only [Prod.mk.injEq]; exact ⟨by omega, trivial⟩
    · split
      · simp only [Prod.mk.injEq]; exact ⟨by omega, by omega⟩
      · simp only [Prod.mk.injEq]; exact ⟨trivial, by omega⟩
theorem tz_0 (n : Nat) : tz n (0, 0) = (0, 0) := by
  unfold tz
  split
  · rfl
  · split
    · rfl
    · split <;> rfl
theorem ph_add (k t b : Int) : ph k (t + b) = (ph k t + ph k b) % 4 := by
  unfold ph
  have h1 : k % 4 * ((t + b) % 4) % 4 = (k % 4 * (t % 4) % 4 + k % 4 * (b % 4) % 4) % 4 := by
    have hk : k % 4 = 0 ∨ k % 4 = 1 ∨ k % 4 = 2 ∨ k % 4 = 3 := by omega
    rcases hk with h | h | h | h <;> rw [h] <;> omega
  omega
theorem later_one (k t b : Int) : (cs (ph k (t + b)), sn (ph k (t + b))) = tz (ph k b) (cs (ph k t), sn (ph k t)) := by
  rw [tz_cs _ _ (ph_lt _ _) (ph_lt _ _), ph_add]
theorem later_all (k b : Int) (l : List Int) : (rP k (l.map (· + b)), iP k (l.map (· + b))) = tz (ph k b) (rP k l, iP k l) := by
  induction l with
  | nil => exact (tz_0 _).symm
  | cons t r ih =>
    have e1 : rP k (t :: r) = cs (ph k t) + rP k r := rfl
    have e2 : iP k (t :: r) = sn (ph k t) + iP k r := rfl
    have e3 : rP k ((t :: r).map (· + b)) = cs (ph k (t + b)) + rP k (r.map (· + b)) := rfl
    have e4 : iP k ((t :: r).map (· + b)) = sn (ph k (t + b)) + iP k (r.map (· + b)) := rfl
    rw [e1, e2, e3, e4, tz_add, ← ih, ← later_one]
theorem sumI_app (f : Int → Int) (l r : List Int) : sumI f (l ++ r) = sumI f l + sumI f r := by
  induction l with
  | nil => simp [sumI]
  | cons a t ih => simp only [List.cons_append, sumI, ih]; omega
theorem both_all (k : Int) (l r : List Int) : rP k (l ++ r) = rP k l + rP k r ∧ iP k (l ++ r) = iP k l + iP k r := ⟨sumI_app _ _ _, sumI_app _ _ _⟩
theorem nn_app (l r : List Int) : nn (l ++ r) = nn l ++ nn r := by simp [nn]
theorem nn_id (l : List Int) (h : ∀ t ∈ l, 0 ≤ t) : nn l = l := by
  unfold nn
  rw [List.filter_eq_self]
  intro t ht
  simpa using h t ht
theorem nn_later (l : List Int) (b : Int) (hb : 0 ≤ b) (h : ∀ t ∈ l, 0 ≤ t) : nn (l.map (· + b)) = l.map (· + b) := by
  apply nn_id
  intro t ht
  simp at ht
  obtain ⟨x, hx, rfl⟩ := ht
  have := h x hx
  omega
end Be
end Go.Proofs.Ytbkljphhgghjdaa
