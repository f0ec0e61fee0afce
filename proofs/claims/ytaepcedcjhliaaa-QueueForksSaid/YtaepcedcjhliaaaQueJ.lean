/- The document's queue: rows of requests that are only read. -/
import Derived.Test.YtaepcedcjhliaaaQueF
namespace Go.Proofs.Ytaepcedcjhliaaa
open Go.RowKit
namespace Qp
open Sm FiT
attribute [local irreducible] cs
/-- A request that waits, as the document has it. -/
def pend (x : It) : Cl := ⟨x, 0, 0⟩
/-- A row of cells, nine a thing, that lies apart from some blocks. -/
def Rd (w : World) (F : List Nat) (a : Option Addr) (n : Nat) (xs : List Value) : Prop :=
  xs.length = n * 9 ∧ (0 < n → ∃ b, a = some ⟨b, 0, none⟩ ∧ b < w.heap.size ∧ b ∉ F ∧ w.rangeAt b 0 xs)
section
variable {w w' : World} {F G S : List Nat} {a : Option Addr} {n : Nat} {xs : List Value}
theorem Rd.keeps (h : Rd w F a n xs) (hk : Keeps S w w') (hS : ∀ b ∈ S, b ∈ F ∨ w.heap.size ≤ b) : Rd w' F a n xs := by
  refine ⟨h.1, fun h0 => ?_⟩
  obtain ⟨b, rfl, hl, hf, hr⟩ := h.2 h0
  have hb : b ∉ S := fun m => by
    rcases hS b m with h1 | h1
    · exact hf h1
    · omega
  exact ⟨b, rfl, Nat.lt_of_lt_of_le hl hk.size, hf, fun j u hu => (hk.cell (p := ⟨b, 0 + j, none⟩) hl hb).trans (hr j u hu)⟩
theorem Rd.more (h : Rd w F a n xs) (hG : ∀ b ∈ G, b ∈ F ∨ w.heap.size ≤ b) : Rd w G a n xs := by
  refine ⟨h.1, fun h0 => ?_⟩
  obtain ⟨b, rfl, hl, hf, hr⟩ := h.2 h0
  refine ⟨b, rfl, hl, fun m => ?_, hr⟩
  rcases hG b m with h1 | h1
  · exact hf h1
  · omega
theorem Rd.reads (h : Rd w F a n xs) : Reads w w.heap.size 9 a n xs := by
  refine ⟨h.1, fun h0 => ?_⟩
  obtain ⟨b, rfl, hl, _, hr⟩ := h.2 h0
  refine ⟨_, rfl, hl, fun j u hu => ?_⟩
  have e : (⟨b, 0, none⟩ : Addr).add j = ⟨b, j, none⟩ := by unfold Addr.add; by_cases h0 : j = 0 <;> simp [h0]
  rw [e, ← hr j u hu, Nat.zero_add]
theorem Rd.none_ : Rd w F a 0 [] := ⟨rfl, fun h => absurd h (by omega)⟩
theorem Rd.own {e : TypeId} {B c : Nat} (h : w.ownsRow B e 9 (.slice a n c) n xs) (hF : ∀ b ∈ F, b < B) : Rd w F a n xs := by
  refine ⟨h.1, fun h0 => ?_⟩
  obtain ⟨g, cap, hv, hb, hl⟩ := h.form h0
  injection hv with e1
  subst e1
  refine ⟨g, rfl, hl, fun m => by have := hF g m; omega, fun j u hu => ?_⟩
  have := h.cells (g := g) rfl j u hu
  have e : (⟨g, 0, none⟩ : Addr).add j = ⟨g, j, none⟩ := by unfold Addr.add; by_cases h0 : j = 0 <;> simp [h0]
  rw [Nat.zero_add, ← this, e]
/-- One thing of such a row. -/
theorem Rd.at_ {l : List Cl} (h : Rd w F a n (flat l)) (i : Nat) (x : Cl) (hx : l[i]? = some x) : ∃ b, a = some ⟨b, 0, none⟩ ∧ b < w.heap.size ∧ b ∉ F ∧ w.rangeAt b (i * 9) (clc x) := by
  have hi := (List.getElem?_eq_some_iff.1 hx).1
  have h1 := h.1
  rw [flat_len] at h1
  obtain ⟨b, rfl, hl, hf, hr⟩ := h.2 (by omega)
  exact ⟨b, rfl, hl, hf, fun j v hv => by rw [← hr (i * 9 + j) v (flat_get l i x hx j v hv), Nat.zero_add]⟩
end
/-- The document's queue as a value. -/
def Rf (w : World) (F : List Nat) (v : Value) (l : List It) (dl : List Cl) (lim : Int) : Prop :=
  ∃ a c b d, v = .agg #[.slice a l.length c, .slice b dl.length d, .int .i64 lim] ∧ Rd w F a l.length (flat (l.map pend)) ∧ Rd w F b dl.length (flat dl) ∧ l.length ≤ c
section
variable {w w' : World} {F G S : List Nat} {v : Value} {l : List It} {dl : List Cl} {lim : Int}
theorem Rf.keeps (h : Rf w F v l dl lim) (hk : Keeps S w w') (hS : ∀ b ∈ S, b ∈ F ∨ w.heap.size ≤ b) : Rf w' F v l dl lim := by
  obtain ⟨a, c, b, d, h1, h2, h3, h4⟩ := h
  exact ⟨a, c, b, d, h1, h2.keeps hk hS, h3.keeps hk hS, h4⟩
theorem Rf.kp (h : Rf w F v l dl lim) (hk : Keeps [] w w') : Rf w' F v l dl lim := h.keeps hk (by simp)
theorem Rf.more (h : Rf w F v l dl lim) (hG : ∀ b ∈ G, b ∈ F ∨ w.heap.size ≤ b) : Rf w G v l dl lim := by
  obtain ⟨a, c, b, d, h1, h2, h3, h4⟩ := h
  exact ⟨a, c, b, d, h1, h2.more hG, h3.more hG, h4⟩
end
end Qp
end Go.Proofs.Ytaepcedcjhliaaa
