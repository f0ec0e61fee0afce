/- An argument that is a slice of structs, whatever the number of their fields (each of one cell): what a walk is told of it. -/
import Derived.Test.YtjdhkpafbejodaaMem
import Derived.Deep.Slices
import Derived.Deep.Fields
import Derived.ChangeSame
namespace Go.Proofs.Ytjdhkpafbejodaa
open Go.RowKit Go.ChangeShapes Go.WideShapes Go.Deep
namespace Sm
section
variable {H : Type} {enc : TypeId × Value → H} {P : Program} {w : World} {base : Nat} {spare : Nat → Bool} {held : Bool}
theorem open_slice_fields {t e : TypeId} {fs : Array Field} {fuel : Nat} {cs : List Value} {x : DataW H × List MemPlace} (ht : P.underlying t = some (.slice e)) (he : P.underlying e = some (.struct fs))
    (hone : oneCellFields P fs = true) (hC : P.cellsOf e = fs.size) (h : DataW.trod enc P w base spare held fuel t cs = some x) :
    (cs = [.slice none 0 0] ∧ x = (.nil, [])) ∨
    ∃ (a : Addr) (len cap m : Nat) (D : Nat → DataW H) (Pl : Nat → List MemPlace), cs = [.slice (some a) len cap] ∧ base ≤ a.block ∧ len ≤ cap ∧ cap ≤ maxLen ∧ m = (if spare a.block then cap else len) ∧
      x = (.slice ((List.range len).map D) ((List.range (m - len)).map fun j => D (len + j)), MemPlace.row a (m * fs.size) ++ (List.range m).flatMap Pl) ∧
      ∀ i, i < m → ∃ (ys : List (DataW H × List MemPlace)) (n : Nat), D i = .agg (ys.map (·.1)) ∧ Pl i = ys.flatMap (·.2) ∧ ys.length = fs.size ∧
        ∀ (j : Nat) (f : Field), fs[j]? = some f → ∃ (v : Value) (y : DataW H × List MemPlace), w.cell? (a.add (i * fs.size + j)) = some v ∧ ys[j]? = some y ∧ DataW.trod enc P w base spare held n f.type [v] = some y := by
  rcases open_slice ht h with h0 | ⟨a, len, cap, m, n, D, Pl, hcs, hb, hl, hm, hmm, hx, hi⟩
  · exact .inl h0
  · refine .inr ⟨a, len, cap, m, D, Pl, hcs, hb, hl, hm, hmm, by rw [hC] at hx; exact hx, fun i him => ?_⟩
    obtain ⟨cs', hc, ht'⟩ := hi i him
    rw [hC] at hc
    obtain ⟨ys, n', hn', hy, hlen, hyl, hf⟩ := DataW.trod_struct he ht'
    obtain ⟨_, hcl, hat⟩ := World.cells?_some hc
    simp only [Prod.mk.injEq] at hy
    refine ⟨ys, n', hy.1, hy.2, hyl, fun j f hj => ?_⟩
    obtain ⟨ho, hk⟩ := hone_of hone j f hj
    have hjl : j < fs.size := (Array.getElem?_eq_some_iff.1 hj).1
    have hcell := hat j hjl
    have hv : cs'[j]? = some (cs'[j]'(by omega)) := List.getElem?_eq_getElem (by omega)
    have h1 := hf j f hj
    rw [ho, hk] at h1
    have hone' : (cs'.drop j).take 1 = [cs'[j]'(by omega)] := by
      rw [List.drop_eq_getElem_cons (by omega)]
      rfl
    rw [hone'] at h1
    have hys : ys[j]? = some (ys[j]'(by omega)) := List.getElem?_eq_getElem (by omega)
    refine ⟨_, _, ?_, hys, h1.trans hys⟩
    rw [← Go.Deep.add_add, hcell, hv]
end

/-- What a cell of a kind may hold. -/
def cellOk : TypeDesc → Value → Prop
  | .int k, v => ∃ n, v = .int k n ∧ (Lit.int k n).wf = true
  | .string, v => ∃ s : ByteArray, v = .string s ∧ s.size ≤ maxLen
  | .bool, v => ∃ b, v = .bool b
  | _, _ => True
theorem cell_lt {w : World} {a : Addr} {v : Value} (h : w.cell? a = some v) : a.block < w.heap.size := by
  rcases Nat.lt_or_ge a.block w.heap.size with h1 | h1
  · exact h1
  · unfold World.cell? at h
    rw [Array.getElem?_eq_none h1] at h
    cases h
/-- A slice of structs of these kinds of fields: nil; or a row, whose elements' cells hold what their kinds may. -/
def Recs (w : World) (a : Option Addr) (len cap : Nat) (ks : List TypeDesc) (R : Nat → Nat → Value) : Prop :=
  (a = none ∧ len = 0 ∧ cap = 0) ∨
  ∃ x, a = some x ∧ len ≤ cap ∧ cap ≤ maxLen ∧ ∀ i, i < len → ∀ (j : Nat) (k : TypeDesc), ks[j]? = some k → w.cell? (x.add (i * ks.length + j)) = some (R i j) ∧ cellOk k (R i j)
theorem Recs.len {w : World} {a : Option Addr} {len cap : Nat} {ks : List TypeDesc} {R : Nat → Nat → Value} (h : Recs w a len cap ks R) : len ≤ cap ∧ cap ≤ 9223372036854775807 := by
  rcases h with ⟨_, rfl, rfl⟩ | ⟨_, _, h1, h2, _⟩
  · omega
  · unfold maxLen at h2; omega
/-- Where there is an element there is a block, and it is an old one. -/
theorem Recs.at_ {w : World} {a : Option Addr} {len cap : Nat} {ks : List TypeDesc} {R : Nat → Nat → Value} (h : Recs w a len cap ks R) (h0 : 0 < len) (hk : 0 < ks.length) :
    ∃ b off, a = some ⟨b, off, none⟩ ∧ b < w.heap.size ∧ ∀ i, i < len → ∀ (j : Nat) (k : TypeDesc), ks[j]? = some k → w.cell? ⟨b, off + (i * ks.length + j), none⟩ = some (R i j) ∧ cellOk k (R i j) := by
  rcases h with ⟨_, rfl, _⟩ | ⟨x, rfl, _, _, hc⟩
  · omega
  · obtain ⟨b, off, spot⟩ := x
    have hc0 := (hc 0 h0 0 (ks[0]'hk) (List.getElem?_eq_getElem hk)).1
    have hspot : spot = none := by simpa [Addr.add] using World.cell?_spot hc0
    subst hspot
    have hadd : ∀ n, (⟨b, off, none⟩ : Addr).add n = ⟨b, off + n, none⟩ := fun n => by unfold Addr.add; split <;> simp_all
    rw [hadd] at hc0
    refine ⟨b, off, rfl, cell_lt hc0, fun i hi j k hj => ?_⟩
    have := hc i hi j k hj
    rw [hadd] at this
    exact this
/-- A field as a number, as a text, as a truth value. -/
def numAt (R : Nat → Nat → Value) (i j : Nat) : Int := match R i j with | .int _ n => n | _ => 0
def strAt (R : Nat → Nat → Value) (i j : Nat) : ByteArray := match R i j with | .string s => s | _ => ⟨#[]⟩
theorem numAt_of {R : Nat → Nat → Value} {i j : Nat} {k : IntKind} (h : cellOk (.int k) (R i j)) : R i j = .int k (numAt R i j) ∧ (Lit.int k (numAt R i j)).wf = true := by
  obtain ⟨n, e, hw⟩ := h
  unfold numAt
  rw [e]
  exact ⟨rfl, hw⟩
theorem strAt_of {R : Nat → Nat → Value} {i j : Nat} (h : cellOk .string (R i j)) : R i j = .string (strAt R i j) ∧ (strAt R i j).size ≤ maxLen := by
  obtain ⟨n, e, hw⟩ := h
  unfold strAt
  rw [e]
  exact ⟨rfl, hw⟩
theorem i64_bd {n : Int} (h : (Lit.int .i64 n).wf = true) : -9223372036854775808 ≤ n ∧ n ≤ 9223372036854775807 := by
  simp [Lit.wf, IntKind.min, IntKind.max, IntKind.signed, IntKind.bits] at h
  omega
theorem Recs.below {w w' : World} {a : Option Addr} {len cap : Nat} {ks : List TypeDesc} {R : Nat → Nat → Value} (h : Recs w a len cap ks R) (hk : Below w.heap.size w w') : Recs w' a len cap ks R := by
  rcases h with h | ⟨x, rfl, h1, h2, hc⟩
  · exact .inl h
  · refine .inr ⟨x, rfl, h1, h2, fun i hi j k hj => ?_⟩
    obtain ⟨c, ok⟩ := hc i hi j k hj
    exact ⟨(hk.cell (cell_lt c)).trans c, ok⟩
theorem Recs.below' {w w' : World} {B : Nat} {a : Option Addr} {len cap : Nat} {ks : List TypeDesc} {R : Nat → Nat → Value} (h : Recs w a len cap ks R) (hk : Below B w w') (hB : w.heap.size ≤ B := by exact Nat.le_refl _) : Recs w' a len cap ks R := h.below (hk.mono hB)
theorem Recs.cut {w : World} {a : Option Addr} {len cap : Nat} {ks : List TypeDesc} {R : Nat → Nat → Value} (h : Recs w a len cap ks R) (m : Nat) (hm : m ≤ len) : Recs w a m cap ks R := by
  rcases h with ⟨rfl, rfl, rfl⟩ | ⟨x, rfl, h1, h2, hc⟩
  · exact .inl ⟨rfl, by omega, rfl⟩
  · exact .inr ⟨x, rfl, by omega, h2, fun i hi j k hj => hc i (by omega) j k hj⟩
section
variable {H : Type} {enc : TypeId × Value → H} {P : Program} {w : World} {base : Nat} {spare : Nat → Bool} {held : Bool}
theorem cell1_of {k : TypeDesc} {t : TypeId} {v : Value} {n : Nat} {y : DataW H × List MemPlace} (ht : P.underlying t = some k) (h : DataW.trod enc P w base spare held n t [v] = some y) : cellOk k v := by
  cases k with
  | int k =>
    obtain ⟨m, e, _, hw⟩ := DataW.trod_int ht h
    simp at e
    exact ⟨m, e, hw⟩
  | string =>
    obtain ⟨s, e, _, hw⟩ := DataW.trod_string ht h
    simp at e
    exact ⟨s, e, hw⟩
  | bool =>
    obtain ⟨b, e, _⟩ := DataW.trod_bool ht h
    simp at e
    exact ⟨b, e⟩
  | _ => trivial
theorem recs_of {t e : TypeId} {fs : Array Field} {a : Option Addr} {len cap : Nat} {d : DataW H} {p : List MemPlace} (ks : List TypeDesc) (ht : P.underlying t = some (.slice e)) (he : P.underlying e = some (.struct fs))
    (hone : oneCellFields P fs = true) (hC : P.cellsOf e = fs.size) (hn : ks.length = fs.size) (hd : ∀ (j : Nat) (f : Field) (k : TypeDesc), fs[j]? = some f → ks[j]? = some k → P.underlying f.type = some k)
    (h : DataW.Trod enc P w base spare held t (.slice a len cap) d p) : ∃ R, Recs w a len cap ks R := by
  obtain ⟨fuel, hf⟩ := h
  rcases open_slice_fields ht he hone hC hf with ⟨hcs, _⟩ | ⟨x, l, c, m, D, Pl, hcs, _, hl, hm, hmm, _, hi⟩
  · simp [Value.cells] at hcs
    obtain ⟨rfl, rfl, rfl⟩ := hcs
    exact ⟨fun _ _ => undef, .inl ⟨rfl, rfl, rfl⟩⟩
  · simp [Value.cells] at hcs
    obtain ⟨rfl, rfl, rfl⟩ := hcs
    refine ⟨fun i j => (w.cell? (x.add (i * ks.length + j))).getD undef, .inr ⟨x, rfl, hl, hm, fun i hil j k hj => ?_⟩⟩
    have him : i < m := by rw [hmm]; split <;> omega
    obtain ⟨ys, n, _, _, _, hfl⟩ := hi i him
    have hjl : j < fs.size := by
      have := (List.getElem?_eq_some_iff.1 hj).1
      omega
    obtain ⟨v, y, hc, _, hy⟩ := hfl j _ (Array.getElem?_eq_getElem hjl)
    rw [← hn] at hc
    have hok := cell1_of (hd j _ k (Array.getElem?_eq_getElem hjl) hj) hy
    simp only [hc]
    exact ⟨rfl, hok⟩
end
end Sm
end Go.Proofs.Ytjdhkpafbejodaa
