/- The law QueueOrders: its walk. -/
import Derived.Test.YtaepcedcjhliaaaQueG
namespace Go.Proofs.Ytaepcedcjhliaaa
open Go.RowKit
namespace Qp
open Sm FiT
/-- What stands at the head of a round. -/
structure OrdS (w wr : World) (q : Nat) (lim : Int) (k : Nat) (P : List Bool) (pa : Option Addr) (pc g r y : Nat) (a : Option Addr) (c : Nat) (l : List It) (dl : List Cl) (posted fin : Nat) : Prop where
  qe : Qe wr q g r y a c l dl lim
  kp : Keeps [] w wr
  bs : w.heap.size ≤ q ∧ w.heap.size ≤ g ∧ w.heap.size ≤ r ∧ w.heap.size ≤ y
  row : wr.ownsRow w.heap.size 4 1 (.slice pa P.length pc) P.length (bls P)
  sep : ∀ b, (Value.slice pa P.length pc).ownBlock = some b → b ≠ q ∧ b ≠ g ∧ b ≠ r ∧ b ≠ y
  acc : Acc P l dl posted fin
  pk : P.length ≤ k
  fk : fin ≤ k
def Ord (w : World) (q : Nat) (lim : Int) (k : Nat) (wr : World) (v : Value) (posted fin : Nat) : Prop :=
  ∃ P pa pc g r y a c l dl, v = .slice pa P.length pc ∧ OrdS w wr q lim k P pa pc g r y a c l dl posted fin
theorem Ord.open_ {w wr : World} {q k posted fin : Nat} {lim : Int} {v : Value} (h : Ord w q lim k wr v posted fin) : ∃ P pa pc g r y a c l dl, v = .slice pa P.length pc ∧ OrdS w wr q lim k P pa pc g r y a c l dl posted fin := h
theorem ord_mk {w wr : World} {q k posted fin : Nat} {lim : Int} {P : List Bool} {pa : Option Addr} {pc g r y c : Nat} {a : Option Addr} {l : List It} {dl : List Cl} (h : OrdS w wr q lim k P pa pc g r y a c l dl posted fin) : Ord w q lim k wr (.slice pa P.length pc) posted fin := ⟨P, pa, pc, g, r, y, a, c, l, dl, rfl, h⟩
section
variable {w wr w' : World} {q k posted fin : Nat} {lim : Int} {P : List Bool} {pa : Option Addr} {pc g r y c : Nat} {a : Option Addr} {l : List It} {dl : List Cl}
theorem OrdS.kp_ (h : OrdS w wr q lim k P pa pc g r y a c l dl posted fin) (hk : Keeps [] wr w') : OrdS w w' q lim k P pa pc g r y a c l dl posted fin :=
  ⟨h.qe.kp hk, h.kp.trans hk, h.bs, ownsRow_keeps h.row hk (by simp), h.sep, h.acc, h.pk, h.fk⟩
/-- A deed of the queue. -/
theorem OrdS.to {l' : List It} {dl' : List Cl} {fin' : Nat} (h : OrdS w wr q lim k P pa pc g r y a c l dl posted fin) (ht : To q g r y l' dl' lim wr w') (ha : Acc P l' dl' posted fin') (hf : fin' ≤ k + 1) : Ord w q lim (k + 1) w' (.slice pa P.length pc) posted fin' := by
  obtain ⟨r', y', a', c', h1, h2, h3, h4⟩ := ht
  obtain ⟨b1, b2, b3, b4⟩ := h.bs
  have hz := h.kp.size
  refine ord_mk ⟨h1, h.kp.next h2 (by simp; omega), by omega, ownsRow_keeps h.row h2 ?_, ?_, ha, by have := h.pk; omega, hf⟩
  · intro b hb
    have := h.sep b hb
    simp; omega
  · intro b hb
    have h5 := h.sep b hb
    have h6 := (h.row.lt b hb).2
    omega
theorem OrdS.more (h : OrdS w wr q lim k P pa pc g r y a c l dl posted fin) (hk : Keeps [] wr w') : Ord w q lim (k + 1) w' (.slice pa P.length pc) posted fin :=
  ord_mk ⟨(h.kp_ hk).qe, (h.kp_ hk).kp, h.bs, (h.kp_ hk).row, h.sep, h.acc, by have := h.pk; omega, by have := h.fk; omega⟩
end
attribute [local irreducible] Ord cs
end Qp
end Go.Proofs.Ytaepcedcjhliaaa
