/- The program's Print: a client's row; the tables. -/
import Derived.Test.YtjdhkpafbejodaaImC
import Derived.Test.YtjdhkpafbejodaaRecs
namespace Go.Proofs.Ytjdhkpafbejodaa
open Go.RowKit
namespace Im
open Sm Bi
attribute [local irreducible] wst WtS
theorem run_row (st : Int × List UInt8) (o f t : Int) : run st (rowN wsh [o, f, t]) = wst (wst (wst st (o, 1)) (f, 2)) (t, 2) := rfl
set_option maxRecDepth 100000 in
set_option maxHeartbeats 2000000 in
theorem client_any (base bw : Nat) (st : Int × List UInt8) (x0 x1 x2 x3 x4 x5 x6 x7 x8 x9 : Int) (w : World) (h : WtS w base bw st) (hbase : base ≤ bw) (hw : base ≤ w.heap.size) (hl : st.2.length ≤ 900000) :
    Calls Try.prog 28 #[.pointer (some ⟨bw, 0, none⟩), .agg #[.int .i64 x0, .int .i64 x1, .int .i64 x2, .int .i64 x3, .int .i64 x4, .int .i64 x5, .int .i64 x6, .int .i64 x7, .int .i64 x8, .int .i64 x9]] w (IsWs base bw (run st (rowN csh [x0, x1, x2, x3, x4, x5, x6, x7, x8, x9])) w) := by
  show Calls _ _ _ _ (IsWs base bw (wst (wst (wst (wst (wst (wst (wst (wst (wst (wst st (x0, 2)) (x1, 2)) (x2, 1)) (x3, 2)) (x4, 1)) (x5, 1)) (x6, 1)) (x7, 1)) (x8, 2)) (x9, 1)) w)
  have hb0 := Blk.new w 54 #[.int .i64 x0, .int .i64 x1, .int .i64 x2, .int .i64 x3, .int .i64 x4, .int .i64 x5, .int .i64 x6, .int .i64 x7, .int .i64 x8, .int .i64 x9]
  have ho0 : Others w (w.alloc (.cells #[.int .i64 x0, .int .i64 x1, .int .i64 x2, .int .i64 x3, .int .i64 x4, .int .i64 x5, .int .i64 x6, .int .i64 x7, .int .i64 x8, .int .i64 x9] 54)) := (Others.refl _).alloc _
  have h0 : WtS (w.alloc (.cells #[.int .i64 x0, .int .i64 x1, .int .i64 x2, .int .i64 x3, .int .i64 x4, .int .i64 x5, .int .i64 x6, .int .i64 x7, .int .i64 x8, .int .i64 x9] 54)) base bw st := by unfold WtS at h ⊢; exact h.keeps ((Below.refl _ _).alloc (Nat.le_refl _) _)
  have B0 : Below base w (w.alloc (.cells #[.int .i64 x0, .int .i64 x1, .int .i64 x2, .int .i64 x3, .int .i64 x4, .int .i64 x5, .int .i64 x6, .int .i64 x7, .int .i64 x8, .int .i64 x9] 54)) := (Below.refl _ _).alloc hw _
  have s0 : base ≤ (w.alloc (.cells #[.int .i64 x0, .int .i64 x1, .int .i64 x2, .int .i64 x3, .int .i64 x4, .int .i64 x5, .int .i64 x6, .int .i64 x7, .int .i64 x8, .int .i64 x9] 54)).heap.size := by simp; omega
  have s9 : w.heap.size ≤ (w.alloc (.cells #[.int .i64 x0, .int .i64 x1, .int .i64 x2, .int .i64 x3, .int .i64 x4, .int .i64 x5, .int .i64 x6, .int .i64 x7, .int .i64 x8, .int .i64 x9] 54)).heap.size := by simp
  have e0 : st.2.length ≤ 900000 := hl
  obtain ⟨bx, hbx⟩ : ∃ bx, w.heap.size = bx := ⟨_, rfl⟩
  rw [hbx] at hb0 s9
  have HBX := Lib.hid hbx
  have HC := Lib.hid (wtwoN x0 h0 hbase s0 (by omega))
  clear h hw hl hbx h0
  go_enter Try.func28, Try.ntmps28
  go_wp2_with fail
  refine HC.out.mono ?_
  clear HC 
  rintro e v1 ⟨rfl, h1, b1, z1, t1⟩
  rw [HBX.out]
  have hb1 := t1 bx 54 #[.int .i64 x0, .int .i64 x1, .int .i64 x2, .int .i64 x3, .int .i64 x4, .int .i64 x5, .int .i64 x6, .int .i64 x7, .int .i64 x8, .int .i64 x9] (by decide) (by decide) hb0
  have ho1 := ho0.trans t1
  have B1 := B0.trans b1
  have s1 : base ≤ v1.heap.size := by omega
  have e1 := wst_len (st) (x0, 2)
  have q1 : v1.cell? ⟨bx, 1, none⟩ = some (.int .i64 x1) := hb1.cell 1
  have HC := Lib.hid (wtwoN x1 h1 hbase s1 (by omega))
  clear h1 hb0 t1 b1 ho0 B0
  go_wp2_with fail
  refine HC.out.mono ?_
  clear HC q1
  rintro e v2 ⟨rfl, h2, b2, z2, t2⟩
  have hb2 := t2 bx 54 #[.int .i64 x0, .int .i64 x1, .int .i64 x2, .int .i64 x3, .int .i64 x4, .int .i64 x5, .int .i64 x6, .int .i64 x7, .int .i64 x8, .int .i64 x9] (by decide) (by decide) hb1
  have ho2 := ho1.trans t2
  have B2 := B1.trans b2
  have s2 : base ≤ v2.heap.size := by omega
  have e2 := wst_len (wst st (x0, 2)) (x1, 2)
  have q2 : v2.cell? ⟨bx, 2, none⟩ = some (.int .i64 x2) := hb2.cell 2
  have HC := Lib.hid (wbyteN x2 h2 hbase s2 (by omega))
  clear h2 hb1 t2 b2 ho1 B1
  go_wp2_with fail
  refine HC.out.mono ?_
  clear HC q2
  rintro e v3 ⟨rfl, h3, b3, z3, t3⟩
  have hb3 := t3 bx 54 #[.int .i64 x0, .int .i64 x1, .int .i64 x2, .int .i64 x3, .int .i64 x4, .int .i64 x5, .int .i64 x6, .int .i64 x7, .int .i64 x8, .int .i64 x9] (by decide) (by decide) hb2
  have ho3 := ho2.trans t3
  have B3 := B2.trans b3
  have s3 : base ≤ v3.heap.size := by omega
  have e3 := wst_len (wst (wst st (x0, 2)) (x1, 2)) (x2, 1)
  have q3 : v3.cell? ⟨bx, 3, none⟩ = some (.int .i64 x3) := hb3.cell 3
  have HC := Lib.hid (wtwoN x3 h3 hbase s3 (by omega))
  clear h3 hb2 t3 b3 ho2 B2
  go_wp2_with fail
  refine HC.out.mono ?_
  clear HC q3
  rintro e v4 ⟨rfl, h4, b4, z4, t4⟩
  have hb4 := t4 bx 54 #[.int .i64 x0, .int .i64 x1, .int .i64 x2, .int .i64 x3, .int .i64 x4, .int .i64 x5, .int .i64 x6, .int .i64 x7, .int .i64 x8, .int .i64 x9] (by decide) (by decide) hb3
  have ho4 := ho3.trans t4
  have B4 := B3.trans b4
  have s4 : base ≤ v4.heap.size := by omega
  have e4 := wst_len (wst (wst (wst st (x0, 2)) (x1, 2)) (x2, 1)) (x3, 2)
  have q4 : v4.cell? ⟨bx, 4, none⟩ = some (.int .i64 x4) := hb4.cell 4
  have HC := Lib.hid (wbyteN x4 h4 hbase s4 (by omega))
  clear h4 hb3 t4 b4 ho3 B3
  go_wp2_with fail
  refine HC.out.mono ?_
  clear HC q4
  rintro e v5 ⟨rfl, h5, b5, z5, t5⟩
  have hb5 := t5 bx 54 #[.int .i64 x0, .int .i64 x1, .int .i64 x2, .int .i64 x3, .int .i64 x4, .int .i64 x5, .int .i64 x6, .int .i64 x7, .int .i64 x8, .int .i64 x9] (by decide) (by decide) hb4
  have ho5 := ho4.trans t5
  have B5 := B4.trans b5
  have s5 : base ≤ v5.heap.size := by omega
  have e5 := wst_len (wst (wst (wst (wst st (x0, 2)) (x1, 2)) (x2, 1)) (x3, 2)) (x4, 1)
  have q5 : v5.cell? ⟨bx, 5, none⟩ = some (.int .i64 x5) := hb5.cell 5
  have HC := Lib.hid (wbyteN x5 h5 hbase s5 (by omega))
  clear h5 hb4 t5 b5 ho4 B4
  go_wp2_with fail
  refine HC.out.mono ?_
  clear HC q5
  rintro e v6 ⟨rfl, h6, b6, z6, t6⟩
  have hb6 := t6 bx 54 #[.int .i64 x0, .int .i64 x1, .int .i64 x2, .int .i64 x3, .int .i64 x4, .int .i64 x5, .int .i64 x6, .int .i64 x7, .int .i64 x8, .int .i64 x9] (by decide) (by decide) hb5
  have ho6 := ho5.trans t6
  have B6 := B5.trans b6
  have s6 : base ≤ v6.heap.size := by omega
  have e6 := wst_len (wst (wst (wst (wst (wst st (x0, 2)) (x1, 2)) (x2, 1)) (x3, 2)) (x4, 1)) (x5, 1)
  have q6 : v6.cell? ⟨bx, 6, none⟩ = some (.int .i64 x6) := hb6.cell 6
  have HC := Lib.hid (wbyteN x6 h6 hbase s6 (by omega))
  clear h6 hb5 t6 b6 ho5 B5
  go_wp2_with fail
  refine HC.out.mono ?_
  clear HC q6
  rintro e v7 ⟨rfl, h7, b7, z7, t7⟩
  have hb7 := t7 bx 54 #[.int .i64 x0, .int .i64 x1, .int .i64 x2, .int .i64 x3, .int .i64 x4, .int .i64 x5, .int .i64 x6, .int .i64 x7, .int .i64 x8, .int .i64 x9] (by decide) (by decide) hb6
  have ho7 := ho6.trans t7
  have B7 := B6.trans b7
  have s7 : base ≤ v7.heap.size := by omega
  have e7 := wst_len (wst (wst (wst (wst (wst (wst st (x0, 2)) (x1, 2)) (x2, 1)) (x3, 2)) (x4, 1)) (x5, 1)) (x6, 1)
  have q7 : v7.cell? ⟨bx, 7, none⟩ = some (.int .i64 x7) := hb7.cell 7
  have HC := Lib.hid (wbyteN x7 h7 hbase s7 (by omega))
  clear h7 hb6 t7 b7 ho6 B6
  go_wp2_with fail
  refine HC.out.mono ?_
  clear HC q7
  rintro e v8 ⟨rfl, h8, b8, z8, t8⟩
  have hb8 := t8 bx 54 #[.int .i64 x0, .int .i64 x1, .int .i64 x2, .int .i64 x3, .int .i64 x4, .int .i64 x5, .int .i64 x6, .int .i64 x7, .int .i64 x8, .int .i64 x9] (by decide) (by decide) hb7
  have ho8 := ho7.trans t8
  have B8 := B7.trans b8
  have s8 : base ≤ v8.heap.size := by omega
  have e8 := wst_len (wst (wst (wst (wst (wst (wst (wst st (x0, 2)) (x1, 2)) (x2, 1)) (x3, 2)) (x4, 1)) (x5, 1)) (x6, 1)) (x7, 1)
  have q8 : v8.cell? ⟨bx, 8, none⟩ = some (.int .i64 x8) := hb8.cell 8
  have HC := Lib.hid (wtwoN x8 h8 hbase s8 (by omega))
  clear h8 hb7 t8 b8 ho7 B7
  go_wp2_with fail
  refine HC.out.mono ?_
  clear HC q8
  rintro e v9 ⟨rfl, h9, b9, z9, t9⟩
  have hb9 := t9 bx 54 #[.int .i64 x0, .int .i64 x1, .int .i64 x2, .int .i64 x3, .int .i64 x4, .int .i64 x5, .int .i64 x6, .int .i64 x7, .int .i64 x8, .int .i64 x9] (by decide) (by decide) hb8
  have ho9 := ho8.trans t9
  have B9 := B8.trans b9
  have s9 : base ≤ v9.heap.size := by omega
  have e9 := wst_len (wst (wst (wst (wst (wst (wst (wst (wst st (x0, 2)) (x1, 2)) (x2, 1)) (x3, 2)) (x4, 1)) (x5, 1)) (x6, 1)) (x7, 1)) (x8, 2)
  have q9 : v9.cell? ⟨bx, 9, none⟩ = some (.int .i64 x9) := hb9.cell 9
  have HC := Lib.hid (wbyteN x9 h9 hbase s9 (by omega))
  clear h9 hb8 t9 b9 ho8 B8
  go_wp2_with fail
  refine HC.out.mono ?_
  clear HC q9
  rintro e v10 ⟨rfl, h10, b10, z10, t10⟩
  have hb10 := t10 bx 54 #[.int .i64 x0, .int .i64 x1, .int .i64 x2, .int .i64 x3, .int .i64 x4, .int .i64 x5, .int .i64 x6, .int .i64 x7, .int .i64 x8, .int .i64 x9] (by decide) (by decide) hb9
  have ho10 := ho9.trans t10
  have B10 := B9.trans b10
  have s10 : base ≤ v10.heap.size := by omega
  have e10 := wst_len (wst (wst (wst (wst (wst (wst (wst (wst (wst st (x0, 2)) (x1, 2)) (x2, 1)) (x3, 2)) (x4, 1)) (x5, 1)) (x6, 1)) (x7, 1)) (x8, 2)) (x9, 1)
  have HF := Lib.hid (And.intro h10 (And.intro B10 (And.intro (by omega : bx ≤ v10.heap.size) ho10)))
  clear h10 B10 ho10 hb10 t10 b10
  go_wp2
  go_end0
  refine ⟨rfl, HF.out.1, HF.out.2.1, ?_, HF.out.2.2.2⟩
  rw [HBX.out]
  exact HF.out.2.2.1
end Im
end Go.Proofs.Ytjdhkpafbejodaa
