/- The package latch, function by function: a board's bits. -/
import Derived.Test.YtckindhnhbcgoaaMem
namespace Go.Proofs.Ytckindhnhbcgoaa
open Go.RowKit
namespace La
open Sm
/-- A board's cells: what is latched, what is delivered, of each of eight; how many owners there are. -/
def bcells (L D : Nat → Int) (n : Int) : Array Value := #[.int .i64 (L 0), .int .i64 (D 0), .int .i64 (L 1), .int .i64 (D 1), .int .i64 (L 2), .int .i64 (D 2), .int .i64 (L 3), .int .i64 (D 3), .int .i64 (L 4), .int .i64 (D 4), .int .i64 (L 5), .int .i64 (D 5), .int .i64 (L 6), .int .i64 (D 6), .int .i64 (L 7), .int .i64 (D 7), .int .i64 n]
def Bd (w : World) (g : Nat) (L D : Nat → Int) (n : Int) : Prop := Blk w g 42 (bcells L D n)
section
variable {w w' : World} {g : Nat} {L D : Nat → Int} {n : Int} {S : List Nat}
theorem eight {k : Nat} (h : k < 8) : k = 0 ∨ k = 1 ∨ k = 2 ∨ k = 3 ∨ k = 4 ∨ k = 5 ∨ k = 6 ∨ k = 7 := by omega
theorem Bd.lat (h : Bd w g L D n) (k : Nat) (hk : k < 8) : w.cell? ⟨g, k * 2, none⟩ = some (.int .i64 (L k)) := by
  rcases eight hk with rfl | rfl | rfl | rfl | rfl | rfl | rfl | rfl <;> exact Blk.cell h _
theorem Bd.del (h : Bd w g L D n) (k : Nat) (hk : k < 8) : w.cell? ⟨g, k * 2 + 1, none⟩ = some (.int .i64 (D k)) := by
  rcases eight hk with rfl | rfl | rfl | rfl | rfl | rfl | rfl | rfl <;> exact Blk.cell h _
theorem Bd.num (h : Bd w g L D n) : w.cell? ⟨g, 16, none⟩ = some (.int .i64 n) := Blk.cell h 16
theorem Bd.free (h : Bd w g L D n) (i : Nat) : w.frozen? ⟨g, i, none⟩ = false := Blk.frozen h i
def upd (L : Nat → Int) (k : Nat) (v : Int) : Nat → Int := fun i => if i = k then v else L i
theorem Bd.setL (h : Bd w g L D n) (k : Nat) (hk : k < 8) (v : Int) : Bd (w.setCell ⟨g, k * 2, none⟩ (.int .i64 v)) g (upd L k v) D n := by
  have := Blk.set_ h (k * 2) (.int .i64 v)
  unfold Bd
  rcases eight hk with rfl | rfl | rfl | rfl | rfl | rfl | rfl | rfl <;> exact this
theorem Bd.setD (h : Bd w g L D n) (k : Nat) (hk : k < 8) (v : Int) : Bd (w.setCell ⟨g, k * 2 + 1, none⟩ (.int .i64 v)) g L (upd D k v) n := by
  have := Blk.set_ h (k * 2 + 1) (.int .i64 v)
  unfold Bd
  rcases eight hk with rfl | rfl | rfl | rfl | rfl | rfl | rfl | rfl <;> exact this
theorem Bd.lt (h : Bd w g L D n) : g < w.heap.size := Blk.lt h
theorem Bd.keeps (h : Bd w g L D n) (hk : Keeps S w w') (hg : g ∉ S) : Bd w' g L D n := Blk.keeps h hk hg
theorem Bd.alloc (h : Bd w g L D n) (o : Obj) : Bd (w.alloc o) g L D n := Blk.alloc h o
end
/-- Is it an owner of a board of n? -/
def isO (n o : Int) : Bool := decide (1 ≤ o ∧ o ≤ n)
def at_ (o : Int) : Nat := (o - 1).toNat
theorem find_some (g k : Nat) (n : Int) (L D : Nat → Int) (w : World) (h : Bd w g L D n) (hk : (k : Int) < n) (hn : n ≤ 8) :
    Calls Try.prog 21 #[.pointer (some ⟨g, 0, none⟩), .int .i64 ((k : Int) + 1)] w fun e w' => e = .returned (.pointer (some ⟨g, k * 2, none⟩)) ∧ w = w' := by
  have h0 := h.num
  have hk8 : (k : Int) < 8 := by omega
  go_enter Try.func21, Try.ntmps21
  go_wp2
  go_ret
  exact ⟨rfl, rfl⟩
theorem find_none (g : Nat) (n o : Int) (L D : Nat → Int) (w : World) (h : Bd w g L D n) (ho : isO n o = false) :
    Calls Try.prog 21 #[.pointer (some ⟨g, 0, none⟩), .int .i64 o] w fun e w' => e = .returned (.pointer none) ∧ w = w' := by
  have h0 := h.num
  unfold isO at ho
  have ho' : o < 1 ∨ n < o := by have := of_decide_eq_false ho; omega
  clear ho
  by_cases h1 : o < 1
  · clear ho'
    go_enter Try.func21, Try.ntmps21
    go_wp2
    go_ret
    exact ⟨rfl, rfl⟩
  · have h2 : n < o := by omega
    clear ho'
    go_enter Try.func21, Try.ntmps21
    go_wp2
    go_ret
    exact ⟨rfl, rfl⟩
theorem find_nil (o : Int) (w : World) :
    Calls Try.prog 21 #[.pointer none, .int .i64 o] w fun e w' => e = .returned (.pointer none) ∧ w = w' := by
  go_enter Try.func21, Try.ntmps21
  go_wp2
  go_ret
  exact ⟨rfl, rfl⟩
def lim (o : Int) : Int := if o < 0 then 0 else if 8 < o then 8 else o
theorem new_any (o : Int) (w : World) :
    Calls Try.prog 6 #[.int .i64 o] w fun e w' => e = .returned (.pointer (some ⟨w.heap.size, 0, none⟩)) ∧ Bd w' w.heap.size (fun _ => 0) (fun _ => 0) (lim o) ∧ Keeps [] w w' := by
  unfold lim
  by_cases h0 : o < 0
  · rw [if_pos h0]
    go_enter Try.func6, Try.ntmps6
    go_wp2
    go_ret
    exact ⟨rfl, Blk.new _ _ _, (Keeps.refl _ _).alloc _⟩
  · rw [if_neg h0]
    by_cases h1 : 8 < o
    · rw [if_pos h1]
      go_enter Try.func6, Try.ntmps6
      go_wp2
      go_ret
      exact ⟨rfl, Blk.new _ _ _, (Keeps.refl _ _).alloc _⟩
    · rw [if_neg h1]
      go_enter Try.func6, Try.ntmps6
      go_wp2
      go_ret
      exact ⟨rfl, Blk.new _ _ _, (Keeps.refl _ _).alloc _⟩
end La
end Go.Proofs.Ytckindhnhbcgoaa
