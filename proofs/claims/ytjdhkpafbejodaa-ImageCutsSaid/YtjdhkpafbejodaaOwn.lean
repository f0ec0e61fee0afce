/- A block of the call's own that holds bytes: what is known of it, what a store makes of it, how a text becomes such a block and such a block a text. -/
import Derived.Test.YtjdhkpafbejodaaGo
import Derived.Laws.IdiomStrings
namespace Go.Proofs.Ytjdhkpafbejodaa
open Go.RowKit
namespace Sm

/-- Block b holds these bytes at its head, and they may be written. -/
def Bytes (w : World) (b : Nat) (l : List UInt8) : Prop := ∀ j, j < l.length → w.cell? ⟨b, j, none⟩ = some (.int .u8 ((l.getD j 0).toNat : Int)) ∧ w.frozen? ⟨b, j, none⟩ = false
theorem Bytes.cell {w : World} {b : Nat} {l : List UInt8} (h : Bytes w b l) (j : Nat) (hj : j < l.length) : w.cell? ⟨b, j, none⟩ = some (.int .u8 ((l.getD j 0).toNat : Int)) := (h j hj).1
theorem Bytes.free {w : World} {b : Nat} {l : List UInt8} (h : Bytes w b l) (j : Nat) (hj : j < l.length) : w.frozen? ⟨b, j, none⟩ = false := (h j hj).2
theorem Bytes.drew {w : World} {b : Nat} {l : List UInt8} (h : Bytes w b l) : Bytes w.drew b l := fun j hj => by
  have := h j hj
  simpa using this
theorem Bytes.below {w w' : World} {b : Nat} {l : List UInt8} (h : Bytes w b l) (hb : Below w.heap.size w w') (hlt : b < w.heap.size) : Bytes w' b l := fun j hj => by
  rw [hb.cell (p := ⟨b, j, none⟩) hlt, hb.frozen (p := ⟨b, j, none⟩) hlt]
  exact h j hj
theorem Bytes.set {w : World} {b : Nat} {l : List UInt8} (h : Bytes w b l) (i : Nat) (hi : i < l.length) (x : Int) (c : UInt8) (hx : x = c.toNat) : Bytes (w.setCell ⟨b, i, none⟩ (.int .u8 x)) b (l.set i c) := fun j hj => by
  simp only [List.length_set] at hj
  refine ⟨?_, by rw [World.frozen?_setCell]; exact h.free j hj⟩
  by_cases e : j = i
  · subst e
    rw [World.cell?_setCell_same w _ _ (h.cell j hj), List.getD_eq_getElem?_getD, List.getElem?_set_self hj, hx]; rfl
  · rw [World.cell?_setCell_other w _ _ _ (by intro hh; injection hh; omega), h.cell j hj]
    simp only [List.getD_eq_getElem?_getD]
    rw [List.getElem?_set_ne (by omega)]
/-- A text as a new block. -/
theorem bytes_made {P : Program} (w : World) (src dst e : TypeId) (s : ByteArray) (hs : P.underlying src = some .string) (hd : P.underlying dst = some (.slice e)) (he : P.underlying e = some (.int .u8)) :
    ∃ cap o, (convert src dst (.string s)).run P w = .ok (.slice (some ⟨w.heap.size, 0, none⟩) s.size cap) (w.drew.alloc o) ∧ Bytes (w.drew.alloc o) w.heap.size s.data.toList := by
  refine ⟨_, _, run_bytes_of_string w src dst e s hs hd he, fun j hj => ?_⟩
  have hj' : j < s.data.size := by simpa using hj
  have hz : w.drew.heap.size = w.heap.size := rfl
  have hsz : s.data.size ≤ (bytesRow s (grownCap w s.size 0 e)).size := by unfold bytesRow; simp
  constructor
  · have := World.cell?_alloc_mark w.drew (bytesRow s (grownCap w s.size 0 e)) e ((bytesRow s (grownCap w s.size 0 e)).size, (bytesRow s (grownCap w s.size 0 e)).size + 1) j
    rw [hz] at this
    rw [this, bytesRow_at s _ j hj']
    simp [List.getD_eq_getElem?_getD, Array.getElem?_eq_getElem hj']
  · have := World.frozen?_alloc_mark w.drew (bytesRow s (grownCap w s.size 0 e)) e (bytesRow s (grownCap w s.size 0 e)).size ((bytesRow s (grownCap w s.size 0 e)).size + 1) j
    rw [hz] at this
    rw [this]
    simp
    omega
/-- Such a block as a text. -/
theorem bytes_back {P : Program} (w : World) (src dst e : TypeId) (b n cap : Nat) (l : List UInt8) (hs : P.underlying src = some (.slice e)) (he : P.underlying e = some (.int .u8)) (hd : P.underlying dst = some .string)
    (h : Bytes w b l) (hn : l.length = n) : (convert src dst (.slice (some ⟨b, 0, none⟩) n cap)).run P w = .ok (.string ⟨l.toArray⟩) w := by
  subst hn
  refine run_convert_bytes_back w src dst e ⟨b, 0, none⟩ cap l hs he hd fun j hj => ?_
  have : (⟨b, 0, none⟩ : Addr).add j = ⟨b, j, none⟩ := by unfold Addr.add; split <;> simp_all
  rw [this, h.cell j hj]
  simp [List.getD_eq_getElem?_getD, hj]
end Sm
end Go.Proofs.Ytjdhkpafbejodaa
