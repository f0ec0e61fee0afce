/- A struct that comes in by value, whatever the number of its fields (each of one cell): its fields' values. -/
import Derived.Test.YtflkeibfoagifaaRecs
import Derived.Lib.SmallJoins
namespace Go.Proofs.Ytflkeibfoagifaa
open Go.RowKit Go.ChangeShapes Go.WideShapes Go.Deep Go.Joins
namespace Sm
section
variable {H : Type} {enc : TypeId × Value → H} {P : Program} {w : World} {base : Nat} {spare : Nat → Bool} {held : Bool}
theorem agg_of {r : Reach} {b0 : Nat} {t : TypeId} {fs : Array Field} {v : Value} {d : DataW H} {p : List MemPlace} (ks : List TypeDesc) (hs : P.underlying t = some (.struct fs))
    (hone : oneCellFields P fs = true) (hC : P.cellsOf t = fs.size) (hn : ks.length = fs.size) (hd : ∀ (j : Nat) (f : Field) (k : TypeDesc), fs[j]? = some f → ks[j]? = some k → P.underlying f.type = some k)
    (hv : Value.okWide P w r b0 t v) (h : DataW.Trod enc P w base spare held t v d p) :
    ∃ cs : List Value, v = .agg cs.toArray ∧ cs.length = ks.length ∧ ∀ (j : Nat) (k : TypeDesc), ks[j]? = some k → ∃ x, cs[j]? = some x ∧ cellOk k x := by
  obtain ⟨cs, rfl, hsz⟩ := okWide_struct hs hv
  obtain ⟨l⟩ := cs
  obtain ⟨fuel, hf⟩ := h
  obtain ⟨xs, n, _, hx, _, hlen, hg⟩ := DataW.trod_struct hs hf
  have hl : l.length = ks.length := by rw [hn, ← hC]; simpa using hsz
  refine ⟨l, rfl, hl, fun j k hj => ?_⟩
  have hjl : j < fs.size := by
    have := (List.getElem?_eq_some_iff.1 hj).1
    omega
  have hjl' : j < l.length := by omega
  obtain ⟨ho, hk⟩ := hone_of hone j _ (Array.getElem?_eq_getElem hjl)
  have h1 := hg j _ (Array.getElem?_eq_getElem hjl)
  rw [ho, hk] at h1
  have hone' : (l.drop j).take 1 = [l[j]] := by
    rw [List.drop_eq_getElem_cons hjl']
    rfl
  simp only [Value.cells] at h1
  rw [hone'] at h1
  have hxl : j < xs.length := by omega
  rw [List.getElem?_eq_getElem hxl] at h1
  exact ⟨l[j], List.getElem?_eq_getElem hjl', cell1_of (hd j _ k (Array.getElem?_eq_getElem hjl) hj) h1⟩
end
theorem list3 {α : Type} {l : List α} (h : l.length = 3) : ∃ a b c, l = [a, b, c] := match l, h with | [a, b, c], _ => ⟨a, b, c, rfl⟩
theorem list5 {α : Type} {l : List α} (h : l.length = 5) : ∃ a b c d e, l = [a, b, c, d, e] := match l, h with | [a, b, c, d, e], _ => ⟨a, b, c, d, e, rfl⟩
theorem list10 {α : Type} {l : List α} (h : l.length = 10) : ∃ a b c d e f g i j k, l = [a, b, c, d, e, f, g, i, j, k] := match l, h with | [a, b, c, d, e, f, g, i, j, k], _ => ⟨a, b, c, d, e, f, g, i, j, k, rfl⟩
end Sm
end Go.Proofs.Ytflkeibfoagifaa
