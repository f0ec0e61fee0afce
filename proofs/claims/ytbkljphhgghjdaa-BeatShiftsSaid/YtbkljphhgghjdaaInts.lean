/- An argument that is a slice of integers: what a walk is told of it. -/
import Derived.Test.YtbkljphhgghjdaaRecs
namespace Go.Proofs.Ytbkljphhgghjdaa
open Go.RowKit
/-- A slice of integers: nil; or a row, whose cells (the spare ones too) hold numbers of their kind. -/
def IsRow (k : IntKind) (w : World) (a : Option Addr) (len cap : Nat) (zs : List Int) : Prop :=
  (a = none ∧ len = 0 ∧ cap = 0 ∧ zs = []) ∨
  ∃ x : Addr, a = some x ∧ len ≤ cap ∧ cap ≤ maxLen ∧ zs.length = cap ∧ (∀ i, i < zs.length → w.cell? (x.add i) = some (.int k (zs.getD i 0))) ∧ ∀ n ∈ zs, (Lit.int k n).wf = true
theorem IsRow.len {k : IntKind} {w : World} {a : Option Addr} {len cap : Nat} {zs : List Int} (h : IsRow k w a len cap zs) : len ≤ cap ∧ cap ≤ 9223372036854775807 ∧ zs.length = cap := by
  rcases h with ⟨_, rfl, rfl, rfl⟩ | ⟨_, _, h1, h2, h3, _⟩
  · simp
  · unfold maxLen at h2; omega
theorem IsRow.at_ {k : IntKind} {w : World} {a : Option Addr} {len cap : Nat} {zs : List Int} (h : IsRow k w a len cap zs) {i : Nat} (hi : i < cap) :
    ∃ b off, a = some ⟨b, off, none⟩ ∧ b < w.heap.size ∧ w.cell? ⟨b, off + i, none⟩ = some (.int k (zs.getD i 0)) ∧ (Lit.int k (zs.getD i 0)).wf = true := by
  rcases h with ⟨_, _, rfl, _⟩ | ⟨x, rfl, _, _, hz, hc, hw⟩
  · omega
  · obtain ⟨b, off, spot⟩ := x
    have hc0 := hc i (by omega)
    have hspot : spot = none := by
      by_cases h0 : i = 0
      · subst h0; simpa [Addr.add] using World.cell?_spot hc0
      · have := hc 0 (by omega); simpa [Addr.add] using World.cell?_spot this
    subst hspot
    have hadd : ∀ n, (⟨b, off, none⟩ : Addr).add n = ⟨b, off + n, none⟩ := fun n => by unfold Addr.add; split <;> simp_all
    rw [hadd] at hc0
    refine ⟨b, off, rfl, Sm.cell_lt hc0, hc0, hw _ ?_⟩
    rw [List.getD_eq_getElem?_getD, List.getElem?_eq_getElem (by omega)]
    exact List.getElem_mem _
end Go.Proofs.Ytbkljphhgghjdaa
