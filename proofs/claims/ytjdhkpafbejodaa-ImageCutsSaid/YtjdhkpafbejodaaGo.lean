/- Small lemmas for walks: texts held against each other, worlds that only drew, worlds below which nothing turned. -/
import Derived.Test.YtjdhkpafbejodaaProg
import Derived.WalkKit
import Derived.WalkLawsBesides
import Derived.WalkSpells
import Derived.PlainAid
import Derived.Outline
import Derived.Lib.Hide
import Derived.Handy
import Derived.Deep.QuietTactic
import Derived.BigQuiet
import Derived.Laws.BytesArg
namespace Go.Proofs.Ytjdhkpafbejodaa
open Go.RowKit
namespace Sm

theorem seq_true {r s : ByteArray} (h : r.data.toList = s.data.toList) : (r.toList == s.toList) = true := by
  rw [ByteArray.toList_eq, ByteArray.toList_eq, h]; simp
theorem seq_false {r s : ByteArray} (h : ¬ r.data.toList = s.data.toList) : (r.toList == s.toList) = false := by
  rw [ByteArray.toList_eq, ByteArray.toList_eq]; simpa using h
theorem seq_lit {r : ByteArray} {l : List UInt8} (h : r.data.toList = l) : (r.toList == l) = true := by rw [ByteArray.toList_eq, h]; simp
theorem sempty {r : ByteArray} (h : r.data.toList = []) : r.toList.isEmpty = true := by rw [ByteArray.toList_eq, h]; rfl
theorem snonempty {r : ByteArray} (h : ¬ r.data.toList = []) : r.toList.isEmpty = false := by
  rw [ByteArray.toList_eq]; simpa using h
theorem ret_int {k : IntKind} {a b : Int} (h : a = b) : Ending.returned (.int k a) = .returned (.int k b) := by rw [h]
theorem ret_bool {a b : Bool} (h : a = b) : Ending.returned (.bool a) = .returned (.bool b) := by rw [h]
theorem ret_str {a b : ByteArray} (h : a = b) : Ending.returned (.string a) = .returned (.string b) := by rw [h]
theorem size_of (x : ByteArray) (l : List UInt8) (hx : x.data.toList = l) : x.size = l.length := by rw [← hx]; simp
theorem take_snoc (s : ByteArray) (k : Nat) (h : k < s.size) : s.data.toList.take (k + 1) = s.data.toList.take k ++ [s[k]] := by
  rw [List.take_succ_eq_append_getElem (by simpa using h)]; rfl
theorem bt_get (s : ByteArray) (k : Nat) (h : k < s.size) : PlainAid.bt s k = (s[k].toNat : Int) := (PlainAid.get_bt s k h).symm

/-- A world that has only drawn since. -/
def Drawn (w w' : World) : Prop := ∃ q, w' = w.drewN q
theorem Drawn.refl (w : World) : Drawn w w := ⟨0, rfl⟩
theorem Drawn.draws {w w' : World} (h : Drawn w w') (n : Nat) : Drawn w (w'.drewN n) := by
  obtain ⟨q, rfl⟩ := h
  exact ⟨q + n, by rw [World.drewN_drewN]⟩
theorem Drawn.draw {w w' : World} (h : Drawn w w') : Drawn w w'.drew := h.draws 1
theorem Drawn.trans {a b c : World} (h : Drawn a b) (k : Drawn b c) : Drawn a c := by
  obtain ⟨q, rfl⟩ := k
  exact h.draws q
theorem Drawn.below {w w' : World} (h : Drawn w w') (B : Nat) : Below B w w' := by
  obtain ⟨q, rfl⟩ := h
  exact below_drewN (Below.refl _ _) q
theorem Drawn.cell {w w' : World} (h : Drawn w w') (p : Addr) : w'.cell? p = w.cell? p := by
  obtain ⟨q, rfl⟩ := h
  simp
theorem quiet_eq {P : Program} {f : FuncId} {args : Array Value} {w : World} {n : Nat} {v : Value}
    (h : Calls P f args (w.drewN n) fun e w' => e = .returned v ∧ w.drewN n = w') : Calls P f args (w.drewN n) fun e w'' => e = .returned v ∧ ∃ m, w'' = w.drewN m :=
  h.mono fun _ _ ⟨he, hm⟩ => ⟨he, n, hm.symm⟩
/-- Returns a value, and the world has only drawn. -/
def Quiet (v : Value) (w : World) (e : Ending) (w' : World) : Prop := e = .returned v ∧ Drawn w w'
theorem quiet_q {P : Program} {f : FuncId} {args : Array Value} {w : World} {n : Nat} {v : Value}
    (h : Calls P f args (w.drewN n) (Quiet v (w.drewN n))) : Calls P f args (w.drewN n) fun e w'' => e = .returned v ∧ ∃ m, w'' = w.drewN m :=
  h.mono fun _ _ ⟨he, m, hm⟩ => ⟨he, n + m, by rw [hm, World.drewN_drewN]⟩
/-- Two stretches of making, one behind the other. -/
theorem Below.next {a b c : World} (h : Below a.heap.size a b) (k : Below b.heap.size b c) : Below a.heap.size a c := h.trans (k.mono h.size)
end Sm
end Go.Proofs.Ytjdhkpafbejodaa
