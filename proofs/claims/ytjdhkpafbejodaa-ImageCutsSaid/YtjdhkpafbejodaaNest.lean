/- An argument that is a slice of structs with structs as fields: its cells, flattened. -/
import Derived.Test.YtjdhkpafbejodaaRecs
namespace Go.Proofs.Ytjdhkpafbejodaa
open Go.RowKit Go.ChangeShapes Go.WideShapes Go.Deep
namespace Sm
section
variable {H : Type} {enc : TypeId × Value → H} {P : Program} {w : World} {base : Nat} {spare : Nat → Bool} {held : Bool}
/-- These cells are a value of a type. -/
def TrodE (enc : TypeId × Value → H) (P : Program) (w : World) (base : Nat) (spare : Nat → Bool) (held : Bool) (t : TypeId) (cs : List Value) : Prop := ∃ fuel x, DataW.trod enc P w base spare held fuel t cs = some x
/-- A field of a struct. -/
theorem TrodE.field {t : TypeId} {fs : Array Field} {cs : List Value} (h : TrodE enc P w base spare held t cs) (ht : P.underlying t = some (.struct fs)) (j o m : Nat) (f : Field) (hf : fs[j]? = some f) (ho : f.offset = o) (hm : P.cellsOf f.type = m) :
    TrodE enc P w base spare held f.type ((cs.drop o).take m) := by
  obtain ⟨fuel, x, h⟩ := h
  obtain ⟨xs, n, _, _, _, hl, hx⟩ := DataW.trod_struct ht h
  have h1 := hx j f hf
  rw [ho, hm] at h1
  have hj : j < xs.length := by
    have := (Array.getElem?_eq_some_iff.1 hf).1
    omega
  rw [List.getElem?_eq_getElem hj] at h1
  exact ⟨n, _, h1⟩
/-- A leaf. -/
theorem TrodE.leaf {t : TypeId} {k : TypeDesc} {cs : List Value} (h : TrodE enc P w base spare held t cs) (ht : P.underlying t = some k) (hk : (∃ i, k = .int i) ∨ k = .string ∨ k = .bool) : ∃ v, cs = [v] ∧ cellOk k v := by
  obtain ⟨fuel, x, h⟩ := h
  rcases hk with ⟨i, rfl⟩ | rfl | rfl
  · obtain ⟨n, e, _, hw⟩ := DataW.trod_int ht h
    exact ⟨_, e, n, rfl, hw⟩
  · obtain ⟨s, e, _, hw⟩ := DataW.trod_string ht h
    exact ⟨_, e, s, rfl, hw⟩
  · obtain ⟨b, e, _⟩ := DataW.trod_bool ht h
    exact ⟨_, e, b, rfl⟩
/-- A field that is a leaf: the cell at its place. -/
theorem TrodE.cell {t : TypeId} {fs : Array Field} {cs : List Value} (h : TrodE enc P w base spare held t cs) (ht : P.underlying t = some (.struct fs)) (j o : Nat) (f : Field) (k : TypeDesc) (hf : fs[j]? = some f) (ho : f.offset = o) (hm : P.cellsOf f.type = 1) (hk : P.underlying f.type = some k) (hl : (∃ i, k = .int i) ∨ k = .string ∨ k = .bool) :
    ∃ v, cs[o]? = some v ∧ cellOk k v := by
  obtain ⟨v, e, hv⟩ := (h.field ht j o 1 f hf ho hm).leaf hk hl
  refine ⟨v, ?_, hv⟩
  have := congrArg (fun l => l[0]?) e
  simp only [List.getElem?_cons_zero] at this
  rw [List.getElem?_take, if_pos (by omega), List.getElem?_drop] at this
  simpa using this
theorem recs_flat {t e : TypeId} {a : Option Addr} {len cap : Nat} {d : DataW H} {p : List MemPlace} (ks : List TypeDesc) (ht : P.underlying t = some (.slice e)) (hC : P.cellsOf e = ks.length)
    (hleaf : ∀ cs, TrodE enc P w base spare held e cs → ∀ (j : Nat) (k : TypeDesc), ks[j]? = some k → ∃ v, cs[j]? = some v ∧ cellOk k v)
    (h : DataW.Trod enc P w base spare held t (.slice a len cap) d p) : ∃ R, Recs w a len cap ks R := by
  obtain ⟨fuel, hf⟩ := h
  rcases open_slice ht hf with ⟨hcs, _⟩ | ⟨x, l, c, m, n, D, Pl, hcs, _, hl, hm, hmm, _, hi⟩
  · simp [Value.cells] at hcs
    obtain ⟨rfl, rfl, rfl⟩ := hcs
    exact ⟨fun _ _ => undef, .inl ⟨rfl, rfl, rfl⟩⟩
  · simp [Value.cells] at hcs
    obtain ⟨rfl, rfl, rfl⟩ := hcs
    refine ⟨fun i j => (w.cell? (x.add (i * ks.length + j))).getD undef, .inr ⟨x, rfl, hl, hm, fun i hil j k hj => ?_⟩⟩
    have him : i < m := by rw [hmm]; split <;> omega
    obtain ⟨cs', hc, ht'⟩ := hi i him
    rw [hC] at hc
    obtain ⟨_, hcl, hat⟩ := World.cells?_some hc
    have hjl : j < ks.length := (List.getElem?_eq_some_iff.1 hj).1
    obtain ⟨v, hv, hok⟩ := hleaf cs' ⟨n, _, ht'⟩ j k hj
    have hcell := hat j hjl
    rw [add_add, hv] at hcell
    simp only [hcell]
    exact ⟨rfl, hok⟩
end
end Sm
end Go.Proofs.Ytjdhkpafbejodaa
