/- The instruction of bytes: the reference's Get. -/
import Derived.Test.YtkbgihlpnamfeaaCodeG
import Derived.StillTailTactics
namespace Go.Proofs.Ytkbgihlpnamfeaa
open Go.RowKit
attribute [local go_sem] Bw.and255 Bw.and65535
namespace Co
open Sm
open PlainAid (bt get_bt bt_nonneg bt_le)
attribute [local irreducible] nm regB mayB
theorem rget_few (s : ByteArray) (w : World) (hs : s.size < 4) : Calls Try.prog 18 #[.string s] w (IsGet 0 0 0 5 w) := by
  go_enter Try.func18, Try.ntmps18
  go_wp2
  refine bodyPost_ret (v := .tuple #[.agg #[.int .u8 0, .int .i64 0, .int .i64 0], .int .i64 5]) (by simp [results, Try.results18, go_sem]) rfl ⟨rfl, ?_⟩
  exact (Below.refl _ _).alloc (Nat.le_refl _) _
set_option maxHeartbeats 2000000 in
theorem rget_bad (s : ByteArray) (w : World) (hs : 4 ≤ s.size) (hm : s.size ≤ 9223372036854775807) (hM : mayB (bt s 0) (bt s 1) (bt s 2 + 256 * bt s 3) = false) : Calls Try.prog 18 #[.string s] w (IsGet 0 0 0 12 w) := by
  have HM := Lib.hid hM
  clear hM
  have c0 := bt_nonneg s 0
  have c1 := bt_le s 0
  have x0 := bt_nonneg s 1
  have x1 := bt_le s 1
  have n0 := bt_nonneg s 2
  have n1 := bt_le s 2
  have m0 := bt_nonneg s 3
  have m1 := bt_le s 3
  have hg := get_bt s
  have h0 : 0 < s.size := by omega
  have h1 : 1 < s.size := by omega
  have h2 : 2 < s.size := by omega
  have h3 : 3 < s.size := by omega
  have hw1 : IntKind.i64.wrap (bt s 1) = bt s 1 := IntWalk.i64_in _ (by omega)
  have hw2 : IntKind.i64.wrap (bt s 2) = bt s 2 := IntWalk.i64_in _ (by omega)
  have hw3 : IntKind.i64.wrap (bt s 3) = bt s 3 := IntWalk.i64_in _ (by omega)
  have hw4 : IntKind.i64.wrap (256 * bt s 3) = 256 * bt s 3 := IntWalk.i64_in _ (by omega)
  have hw5 : IntKind.i64.wrap (bt s 2 + 256 * bt s 3) = bt s 2 + 256 * bt s 3 := IntWalk.i64_in _ (by omega)
  go_enter Try.func18, Try.ntmps18
  go_wp2
  go_region
  clear hw1 hw2 hw3 hw4 hw5 hg
  generalize bt s 0 = c at *
  generalize bt s 1 = x at *
  generalize bt s 2 + 256 * bt s 3 = n at *
  go_wp2_with fail
  refine (rmay_any _ _ _ _ c0 c1).mono ?_
  rintro e w6 ⟨rfl, hb6⟩
  rw [HM.out]
  have hz6 := (((Blk.new w 24 #[.int .u8 0, .int .i64 0, .int .i64 0]).alloc (.cells #[.int .u8 c, .int .i64 x, .int .i64 n] 24)).drew).below hb6 (by simp; omega)
  have hi6 : Blk w6 (w.heap.size + 1) 24 #[.int .u8 c, .int .i64 x, .int .i64 n] := by
    have := ((Blk.new (w.alloc (.cells #[.int .u8 0, .int .i64 0, .int .i64 0] 24)) 24 #[.int .u8 c, .int .i64 x, .int .i64 n]).drew).below hb6 (by simp)
    simpa using this
  have HB : Hid (Below w.heap.size w w6) := ((((Below.refl _ w).alloc (Nat.le_refl _) (.cells #[.int .u8 0, .int .i64 0, .int .i64 0] 24)).alloc (by simp) (.cells #[.int .u8 c, .int .i64 x, .int .i64 n] 24)).drew).trans (hb6.mono (by simp; omega))
  have q0 := hz6.cell 0
  have q1 := hz6.cell 1
  have q2 := hz6.cell 2
  have qf := hz6.frozen
  have ql := hz6.lt
  have p0 : w6.cell? ⟨w.heap.size + 1, 0, none⟩ = some (.int .u8 c) := hi6.cell 0
  have p1 : w6.cell? ⟨w.heap.size + 1, 1, none⟩ = some (.int .i64 x) := hi6.cell 1
  have p2 : w6.cell? ⟨w.heap.size + 1, 2, none⟩ = some (.int .i64 n) := hi6.cell 2
  clear hi6 hb6
  go_wp2
  refine bodyPost_ret (v := .tuple #[.agg #[.int .u8 0, .int .i64 0, .int .i64 0], .int .i64 12]) (by simp [results, Try.results18, go_sem, q0, q1, q2]) rfl ⟨rfl, ?_⟩
  exact ((HB.out.setCell (Nat.le_refl _) _).setCell (Nat.le_refl _) _).setCell (Nat.le_refl _) _
set_option maxHeartbeats 2000000 in
theorem rget_good (s : ByteArray) (w : World) (hs : 4 ≤ s.size) (hm : s.size ≤ 9223372036854775807) (hM : mayB (bt s 0) (bt s 1) (bt s 2 + 256 * bt s 3) = true) : Calls Try.prog 18 #[.string s] w (IsGet (bt s 0) (bt s 1) (bt s 2 + 256 * bt s 3) 0 w) := by
  have HM := Lib.hid hM
  clear hM
  have c0 := bt_nonneg s 0
  have c1 := bt_le s 0
  have x0 := bt_nonneg s 1
  have x1 := bt_le s 1
  have n0 := bt_nonneg s 2
  have n1 := bt_le s 2
  have m0 := bt_nonneg s 3
  have m1 := bt_le s 3
  have hg := get_bt s
  have h0 : 0 < s.size := by omega
  have h1 : 1 < s.size := by omega
  have h2 : 2 < s.size := by omega
  have h3 : 3 < s.size := by omega
  have hw1 : IntKind.i64.wrap (bt s 1) = bt s 1 := IntWalk.i64_in _ (by omega)
  have hw2 : IntKind.i64.wrap (bt s 2) = bt s 2 := IntWalk.i64_in _ (by omega)
  have hw3 : IntKind.i64.wrap (bt s 3) = bt s 3 := IntWalk.i64_in _ (by omega)
  have hw4 : IntKind.i64.wrap (256 * bt s 3) = 256 * bt s 3 := IntWalk.i64_in _ (by omega)
  have hw5 : IntKind.i64.wrap (bt s 2 + 256 * bt s 3) = bt s 2 + 256 * bt s 3 := IntWalk.i64_in _ (by omega)
  go_enter Try.func18, Try.ntmps18
  go_wp2
  go_region
  clear hw1 hw2 hw3 hw4 hw5 hg
  generalize bt s 0 = c at *
  generalize bt s 1 = x at *
  generalize bt s 2 + 256 * bt s 3 = n at *
  go_wp2_with fail
  refine (rmay_any _ _ _ _ c0 c1).mono ?_
  rintro e w6 ⟨rfl, hb6⟩
  rw [HM.out]
  have hz6 := (((Blk.new w 24 #[.int .u8 0, .int .i64 0, .int .i64 0]).alloc (.cells #[.int .u8 c, .int .i64 x, .int .i64 n] 24)).drew).below hb6 (by simp; omega)
  have hi6 : Blk w6 (w.heap.size + 1) 24 #[.int .u8 c, .int .i64 x, .int .i64 n] := by
    have := ((Blk.new (w.alloc (.cells #[.int .u8 0, .int .i64 0, .int .i64 0] 24)) 24 #[.int .u8 c, .int .i64 x, .int .i64 n]).drew).below hb6 (by simp)
    simpa using this
  have HB : Hid (Below w.heap.size w w6) := ((((Below.refl _ w).alloc (Nat.le_refl _) (.cells #[.int .u8 0, .int .i64 0, .int .i64 0] 24)).alloc (by simp) (.cells #[.int .u8 c, .int .i64 x, .int .i64 n] 24)).drew).trans (hb6.mono (by simp; omega))
  have q0 := hz6.cell 0
  have q1 := hz6.cell 1
  have q2 := hz6.cell 2
  have qf := hz6.frozen
  have ql := hz6.lt
  have p0 : w6.cell? ⟨w.heap.size + 1, 0, none⟩ = some (.int .u8 c) := hi6.cell 0
  have p1 : w6.cell? ⟨w.heap.size + 1, 1, none⟩ = some (.int .i64 x) := hi6.cell 1
  have p2 : w6.cell? ⟨w.heap.size + 1, 2, none⟩ = some (.int .i64 n) := hi6.cell 2
  clear hi6 hb6
  go_wp2
  refine bodyPost_ret (v := .tuple #[.agg #[.int .u8 c, .int .i64 x, .int .i64 n], .int .i64 0]) (by simp [results, Try.results18, go_sem, q0, q1, q2]) rfl ⟨rfl, ?_⟩
  exact ((HB.out.setCell (Nat.le_refl _) _).setCell (Nat.le_refl _) _).setCell (Nat.le_refl _) _
end Co
end Go.Proofs.Ytkbgihlpnamfeaa
