/- A board forked, and a board that is nil. -/
import Derived.Test.YtckindhnhbcgoaaLatchB
namespace Go.Proofs.Ytckindhnhbcgoaa
open Go.RowKit
namespace La
open Sm
theorem fork_any (g : Nat) (n : Int) (L D : Nat → Int) (w : World) (h : Bd w g L D n) :
    Calls Try.prog 15 #[.pointer (some ⟨g, 0, none⟩)] w fun e w' => e = .returned (.pointer (some ⟨w.heap.size, 0, none⟩)) ∧ Bd w' w.heap.size L D n ∧ Keeps [] w w' := by
  have hb : Blk w g 42 (bcells L D n) := h
  have c0 : w.cell? ⟨g, 0, none⟩ = some (.int .i64 (L 0)) := hb.cell 0
  have c1 : w.cell? ⟨g, 1, none⟩ = some (.int .i64 (D 0)) := hb.cell 1
  have c2 : w.cell? ⟨g, 2, none⟩ = some (.int .i64 (L 1)) := hb.cell 2
  have c3 : w.cell? ⟨g, 3, none⟩ = some (.int .i64 (D 1)) := hb.cell 3
  have c4 : w.cell? ⟨g, 4, none⟩ = some (.int .i64 (L 2)) := hb.cell 4
  have c5 : w.cell? ⟨g, 5, none⟩ = some (.int .i64 (D 2)) := hb.cell 5
  have c6 : w.cell? ⟨g, 6, none⟩ = some (.int .i64 (L 3)) := hb.cell 6
  have c7 : w.cell? ⟨g, 7, none⟩ = some (.int .i64 (D 3)) := hb.cell 7
  have c8 : w.cell? ⟨g, 8, none⟩ = some (.int .i64 (L 4)) := hb.cell 8
  have c9 : w.cell? ⟨g, 9, none⟩ = some (.int .i64 (D 4)) := hb.cell 9
  have c10 : w.cell? ⟨g, 10, none⟩ = some (.int .i64 (L 5)) := hb.cell 10
  have c11 : w.cell? ⟨g, 11, none⟩ = some (.int .i64 (D 5)) := hb.cell 11
  have c12 : w.cell? ⟨g, 12, none⟩ = some (.int .i64 (L 6)) := hb.cell 12
  have c13 : w.cell? ⟨g, 13, none⟩ = some (.int .i64 (D 6)) := hb.cell 13
  have c14 : w.cell? ⟨g, 14, none⟩ = some (.int .i64 (L 7)) := hb.cell 14
  have c15 : w.cell? ⟨g, 15, none⟩ = some (.int .i64 (D 7)) := hb.cell 15
  have c16 : w.cell? ⟨g, 16, none⟩ = some (.int .i64 n) := hb.cell 16
  clear hb h
  go_enter Try.func15, Try.ntmps15
  go_wp2
  go_ret
  exact ⟨rfl, Blk.new _ _ _, (Keeps.refl _ _).alloc _⟩
theorem raise_nil (o x : Int) (w : World) : Calls Try.prog 10 #[.pointer none, .int .i64 o, .int .i64 x] w (IsV 1 w) := by
  go_enter Try.func10, Try.ntmps10
  go_wp2_with (go_at_call 21; refine (find_nil _ _).mono ?_; rintro e w' ⟨rfl, rfl⟩)
  go_ret
  exact ⟨rfl, rfl⟩
theorem open_nil (o : Int) (w : World) : Calls Try.prog 11 #[.pointer none, .int .i64 o] w (IsV 0 w) := by
  go_enter Try.func11, Try.ntmps11
  go_wp2_with (go_at_call 21; refine (find_nil _ _).mono ?_; rintro e w' ⟨rfl, rfl⟩)
  go_ret
  exact ⟨rfl, rfl⟩
theorem take_nil (o : Int) (w : World) : Calls Try.prog 12 #[.pointer none, .int .i64 o] w (IsV 0 w) := by
  go_enter Try.func12, Try.ntmps12
  go_wp2_with (go_at_call 21; refine (find_nil _ _).mono ?_; rintro e w' ⟨rfl, rfl⟩)
  go_ret
  exact ⟨rfl, rfl⟩
theorem latched_nil (o : Int) (w : World) : Calls Try.prog 13 #[.pointer none, .int .i64 o] w (IsV 0 w) := by
  go_enter Try.func13, Try.ntmps13
  go_wp2_with (go_at_call 21; refine (find_nil _ _).mono ?_; rintro e w' ⟨rfl, rfl⟩)
  go_ret
  exact ⟨rfl, rfl⟩
theorem delivered_nil (o : Int) (w : World) : Calls Try.prog 14 #[.pointer none, .int .i64 o] w (IsV 0 w) := by
  go_enter Try.func14, Try.ntmps14
  go_wp2_with (go_at_call 21; refine (find_nil _ _).mono ?_; rintro e w' ⟨rfl, rfl⟩)
  go_ret
  exact ⟨rfl, rfl⟩
theorem fork_nil (w : World) : Calls Try.prog 15 #[.pointer none] w fun e w' => e = .returned (.pointer none) ∧ w = w' := by
  go_enter Try.func15, Try.ntmps15
  go_wp2
  go_ret
  exact ⟨rfl, rfl⟩
end La
end Go.Proofs.Ytckindhnhbcgoaa
