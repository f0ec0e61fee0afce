/- The instruction of bytes: the program's Get and the reference's. -/
import Derived.Test.YtkbgihlpnamfeaaCodeC
import Derived.Laws.ResultCell
namespace Go.Proofs.Ytkbgihlpnamfeaa
open Go.RowKit
attribute [local go_sem] Bw.and255 Bw.and65535
namespace Co
open Sm
open Bi (Rd rdAt rdErr rdByte rdTwo putL putL_of)
open PlainAid (bt get_bt bt_nonneg bt_le)
theorem rdByte_bd (s : ByteArray) (a e : Int) : 0 ≤ rdByte s a e ∧ rdByte s a e ≤ 255 := by
  unfold rdByte
  split
  · exact ⟨bt_nonneg _ _, bt_le _ _⟩
  · omega
theorem rdTwo_bd (s : ByteArray) (a e : Int) : 0 ≤ rdTwo s a e ∧ rdTwo s a e ≤ 65535 := by
  unfold rdTwo
  split
  · have := bt_nonneg s a.toNat; have := bt_le s a.toNat; have := bt_nonneg s (a.toNat + 1); have := bt_le s (a.toNat + 1); omega
  · omega
theorem rdAt_bd (s : ByteArray) (a e n : Int) (h0 : 0 ≤ a) (h1 : a ≤ s.size) : 0 ≤ rdAt s a e n ∧ rdAt s a e n ≤ s.size := by
  unfold rdAt; split <;> omega
/-- Four bytes that are there. -/
theorem four (s : ByteArray) (h : 4 ≤ s.size) : rdByte s 0 0 = bt s 0 ∧ rdAt s 0 0 1 = 1 ∧ rdErr s 0 0 1 = 0 ∧ rdByte s 1 0 = bt s 1 ∧ rdAt s 1 0 1 = 2 ∧ rdErr s 1 0 1 = 0 ∧ rdTwo s 2 0 = bt s 2 + 256 * bt s 3 ∧ rdAt s 2 0 2 = 4 ∧ rdErr s 2 0 2 = 0 := by
  refine ⟨?_, ?_, ?_, ?_, ?_, ?_, ?_, ?_, ?_⟩
  · unfold rdByte; rw [if_pos (by omega)]; rfl
  · unfold rdAt; rw [if_pos (by omega)]; rfl
  · unfold rdErr; rw [if_neg (by omega), if_neg (by omega), if_neg (by omega)]
  · unfold rdByte; rw [if_pos (by omega)]; rfl
  · unfold rdAt; rw [if_pos (by omega)]; rfl
  · unfold rdErr; rw [if_neg (by omega), if_neg (by omega), if_neg (by omega)]
  · unfold rdTwo; rw [if_pos (by omega)]; rfl
  · unfold rdAt; rw [if_pos (by omega)]; rfl
  · unfold rdErr; rw [if_neg (by omega), if_neg (by omega), if_neg (by omega)]
theorem err_kept (s : ByteArray) (a e n : Int) (h : e ≠ 0) : rdErr s a e n = e := by unfold rdErr; rw [if_pos h]
/-- Fewer than four: an error, whatever is read. -/
theorem fewer (s : ByteArray) (h : s.size < 4) : rdErr s (rdAt s (rdAt s 0 0 1) (rdErr s 0 0 1) 1) (rdErr s (rdAt s 0 0 1) (rdErr s 0 0 1) 1) 2 = 5 := by
  by_cases h1 : s.size < 1
  · have e : rdErr s 0 0 1 = 5 := by unfold rdErr; rw [if_neg (by omega), if_neg (by omega), if_pos (by omega)]
    rw [e, err_kept s _ 5 1 (by decide), err_kept s _ 5 2 (by decide)]
  · have e : rdErr s 0 0 1 = 0 := by unfold rdErr; rw [if_neg (by omega), if_neg (by omega), if_neg (by omega)]
    have a : rdAt s 0 0 1 = 1 := by unfold rdAt; rw [if_pos (by omega)]; rfl
    rw [e, a]
    by_cases h2 : s.size < 2
    · have e : rdErr s 1 0 1 = 5 := by unfold rdErr; rw [if_neg (by omega), if_neg (by omega), if_pos (by omega)]
      rw [e, err_kept s _ 5 2 (by decide)]
    · have e : rdErr s 1 0 1 = 0 := by unfold rdErr; rw [if_neg (by omega), if_neg (by omega), if_neg (by omega)]
      have a : rdAt s 1 0 1 = 2 := by unfold rdAt; rw [if_pos (by omega)]; rfl
      rw [e, a]
      unfold rdErr; rw [if_neg (by omega), if_neg (by omega), if_pos (by omega)]
def IsGet (c x n e : Int) (w : World) (en : Ending) (w' : World) : Prop := en = .returned (.tuple #[.agg #[.int .u8 c, .int .i64 x, .int .i64 n], .int .i64 e]) ∧ Below w.heap.size w w'
attribute [local irreducible] nm regB mayB rdAt rdErr rdByte rdTwo Rd putL
set_option maxHeartbeats 2000000 in
theorem get_few (s : ByteArray) (w : World) (hs : s.size < 4) : Calls Try.prog 16 #[.string s] w (IsGet 0 0 0 5 w) := by
  have HF := Lib.hid (fewer s hs)
  have hm : s.size ≤ 9223372036854775807 := by omega
  go_enter Try.func16, Try.ntmps16
  go_wp2_with fail
  refine (Bi.new_any _ _).mono ?_
  rintro e w1 ⟨rfl, hr1, hk1⟩
  have hb1 : Below w.heap.size w w1 := ((Below.refl _ _).alloc (Nat.le_refl _) _).trans (hk1.all.mono (by simp))
  have hz := (Blk.new w 24 #[.int .u8 0, .int .i64 0, .int .i64 0]).keeps hk1 (by simp)
  have hs0 : w.heap.size < (w.alloc (.cells #[.int .u8 0, .int .i64 0, .int .i64 0] 24)).heap.size := by simp
  clear hk1
  generalize (w.alloc (.cells #[.int .u8 0, .int .i64 0, .int .i64 0] 24)).heap.size = br at *
  have HC1 := Lib.hid (Bi.byte_any br s 0 0 w1 hr1 (by decide) (by omega) hm)
  go_wp2_with fail
  refine HC1.out.mono ?_
  clear HC1
  rintro e w2 ⟨rfl, hr2, hk2⟩
  have hb2 := hb1.trans (hk2.below (Nat.le_trans (Nat.le_refl _) hb1.size) (by simp; omega))
  have hz2 := hz.keeps hk2 (by simp; omega)
  clear hr1 hk2 hb1 hz
  have HC2 := Lib.hid (Bi.byte_any br s _ _ w2 hr2 (rdAt_bd s 0 0 1 (by decide) (by omega)).1 (rdAt_bd s 0 0 1 (by decide) (by omega)).2 hm)
  go_wp2_with fail
  refine HC2.out.mono ?_
  clear HC2
  rintro e w3 ⟨rfl, hr3, hk3⟩
  have hb3 := hb2.trans (hk3.below (Nat.le_trans (Nat.le_refl _) hb2.size) (by simp; omega))
  have hz3 := hz2.keeps hk3 (by simp; omega)
  clear hr2 hk3 hb2 hz2
  have HC3 := Lib.hid (Bi.rtwo_any br s _ _ w3 hr3 (rdAt_bd s _ _ 1 (rdAt_bd s 0 0 1 (by decide) (by omega)).1 (rdAt_bd s 0 0 1 (by decide) (by omega)).2).1 (rdAt_bd s _ _ 1 (rdAt_bd s 0 0 1 (by decide) (by omega)).1 (rdAt_bd s 0 0 1 (by decide) (by omega)).2).2 hm)
  go_wp2_with fail
  refine HC3.out.mono ?_
  clear HC3
  rintro e w4 ⟨rfl, hr4, hk4⟩
  have hb4 := hb3.trans (hk4.below (Nat.le_trans (Nat.le_refl _) hb3.size) (by simp; omega))
  have hz4 := hz3.keeps hk4 (by simp; omega)
  have hlt4 := hz4.lt
  clear hr3 hk4 hb3 hz3
  rw [HF.out] at hr4
  obtain ⟨c0, c1⟩ := rdByte_bd s 0 0
  generalize rdByte s 0 0 = c at *
  generalize rdByte s (rdAt s 0 0 1) (rdErr s 0 0 1) = x at *
  generalize rdTwo s (rdAt s (rdAt s 0 0 1) (rdErr s 0 0 1) 1) (rdErr s (rdAt s 0 0 1) (rdErr s 0 0 1) 1) = n at *
  have HE := Lib.hid (fun o => Bi.err_any br s _ _ (w4.alloc o) (Bi.Rd.alloc hr4 o))
  have HR := Lib.hid hr4
  clear hr4
  go_wp2_with fail
  refine (HE.out _).mono ?_
  rintro e w5 ⟨rfl, hd5⟩
  have hr5 := (Bi.Rd.alloc HR.out _).drawn hd5
  have hz5 := (hz4.alloc _).drawn hd5
  have hb5 := (hb4.alloc hb4.size _).trans (hd5.below _)
  have HE5 := Lib.hid (Bi.err_any br s _ _ w5 hr5)
  clear hr5 HE HR hz4 hb4
  go_wp2_with fail
  refine HE5.out.mono ?_
  rintro e w6 ⟨rfl, hd6⟩
  have hz6 := hz5.drawn hd6
  have hb6 := hb5.trans (hd6.below _)
  have q0 := hz6.cell 0
  have q1 := hz6.cell 1
  have q2 := hz6.cell 2
  have qf := hz6.frozen
  have ql := hz6.lt
  clear hz5 hb5 HE5
  go_wp2
  refine bodyPost_ret (v := .tuple #[.agg #[.int .u8 0, .int .i64 0, .int .i64 0], .int .i64 5]) (by simp [results, Try.results16, go_sem, q0, q1, q2]) rfl ⟨rfl, ?_⟩
  exact ((hb6.setCell (Nat.le_refl _) _).setCell (Nat.le_refl _) _).setCell (Nat.le_refl _) _
set_option maxHeartbeats 2000000 in
theorem get_bad (s : ByteArray) (w : World) (hs : 4 ≤ s.size) (hm : s.size ≤ 9223372036854775807) (hM : mayB (bt s 0) (bt s 1) (bt s 2 + 256 * bt s 3) = false) : Calls Try.prog 16 #[.string s] w (IsGet 0 0 0 12 w) := by
  have F := Lib.hid (four s hs)
  have HM := Lib.hid hM
  clear hM
  have c0 := bt_nonneg s 0
  have c1 := bt_le s 0
  go_enter Try.func16, Try.ntmps16
  go_wp2_with fail
  refine (Bi.new_any _ _).mono ?_
  rintro e w1 ⟨rfl, hr1, hk1⟩
  have hb1 : Below w.heap.size w w1 := ((Below.refl _ _).alloc (Nat.le_refl _) _).trans (hk1.all.mono (by simp))
  have hz := (Blk.new w 24 #[.int .u8 0, .int .i64 0, .int .i64 0]).keeps hk1 (by simp)
  have hs0 : w.heap.size < (w.alloc (.cells #[.int .u8 0, .int .i64 0, .int .i64 0] 24)).heap.size := by simp
  clear hk1
  generalize (w.alloc (.cells #[.int .u8 0, .int .i64 0, .int .i64 0] 24)).heap.size = br at *
  have HC1 := Lib.hid (Bi.byte_any br s 0 0 w1 hr1 (by decide) (by omega) hm)
  rw [F.out.1, F.out.2.1, F.out.2.2.1] at HC1
  go_wp2_with fail
  refine HC1.out.mono ?_
  clear HC1
  rintro e w2 ⟨rfl, hr2, hk2⟩
  have hb2 := hb1.trans (hk2.below (Nat.le_trans (Nat.le_refl _) hb1.size) (by simp; omega))
  have hz2 := hz.keeps hk2 (by simp; omega)
  clear hr1 hk2 hb1 hz
  have HC2 := Lib.hid (Bi.byte_any br s _ _ w2 hr2 (by decide) (by omega) hm)
  rw [F.out.2.2.2.1, F.out.2.2.2.2.1, F.out.2.2.2.2.2.1] at HC2
  go_wp2_with fail
  refine HC2.out.mono ?_
  clear HC2
  rintro e w3 ⟨rfl, hr3, hk3⟩
  have hb3 := hb2.trans (hk3.below (Nat.le_trans (Nat.le_refl _) hb2.size) (by simp; omega))
  have hz3 := hz2.keeps hk3 (by simp; omega)
  clear hr2 hk3 hb2 hz2
  have HC3 := Lib.hid (Bi.rtwo_any br s _ _ w3 hr3 (by decide) (by omega) hm)
  rw [F.out.2.2.2.2.2.2.1, F.out.2.2.2.2.2.2.2.1, F.out.2.2.2.2.2.2.2.2] at HC3
  go_wp2_with fail
  refine HC3.out.mono ?_
  clear HC3
  rintro e w4 ⟨rfl, hr4, hk4⟩
  have hb4 := hb3.trans (hk4.below (Nat.le_trans (Nat.le_refl _) hb3.size) (by simp; omega))
  have hz4 := hz3.keeps hk4 (by simp; omega)
  have hlt4 := hz4.lt
  clear hr3 hk4 hb3 hz3
  generalize bt s 0 = c at *
  generalize bt s 1 = x at *
  generalize bt s 2 + 256 * bt s 3 = n at *
  have HE := Lib.hid (fun o => Bi.err_any br s _ _ (w4.alloc o) (Bi.Rd.alloc hr4 o))
  clear hr4 F
  go_wp2_with fail
  refine (HE.out _).mono ?_
  rintro e w5 ⟨rfl, hd5⟩
  have hz5 := (hz4.alloc _).drawn hd5
  have hi5 := (Blk.new w4 24 #[.int .u8 c, .int .i64 x, .int .i64 n]).drawn hd5
  have hb5 := (hb4.alloc hb4.size _).trans (hd5.below _)
  have p0 : w5.cell? ⟨w4.heap.size, 0, none⟩ = some (.int .u8 c) := hi5.cell 0
  have p1 : w5.cell? ⟨w4.heap.size, 1, none⟩ = some (.int .i64 x) := hi5.cell 1
  have p2 : w5.cell? ⟨w4.heap.size, 2, none⟩ = some (.int .i64 n) := hi5.cell 2
  clear HE hz4 hb4
  go_wp2_with fail
  refine (may_any _ _ _ _ c0 c1).mono ?_
  rintro e w6 ⟨rfl, hb56⟩
  rw [HM.out]
  have hz6 := hz5.below hb56 hz5.lt
  have hi6 := hi5.below hb56 hi5.lt
  have hb6 := hb5.trans (hb56.mono hb5.size)
  have q0 := hz6.cell 0
  have q1 := hz6.cell 1
  have q2 := hz6.cell 2
  have qf := hz6.frozen
  have ql := hz6.lt
  have p0 : w6.cell? ⟨w4.heap.size, 0, none⟩ = some (.int .u8 c) := hi6.cell 0
  have p1 : w6.cell? ⟨w4.heap.size, 1, none⟩ = some (.int .i64 x) := hi6.cell 1
  have p2 : w6.cell? ⟨w4.heap.size, 2, none⟩ = some (.int .i64 n) := hi6.cell 2
  clear hz5 hb5 hi5 hi6 hb56
  go_wp2
  refine bodyPost_ret (v := .tuple #[.agg #[.int .u8 0, .int .i64 0, .int .i64 0], .int .i64 12]) (by simp [results, Try.results16, go_sem, q0, q1, q2]) rfl ⟨rfl, ?_⟩
  exact ((hb6.setCell (Nat.le_refl _) _).setCell (Nat.le_refl _) _).setCell (Nat.le_refl _) _
set_option maxHeartbeats 2000000 in
theorem get_good (s : ByteArray) (w : World) (hs : 4 ≤ s.size) (hm : s.size ≤ 9223372036854775807) (hM : mayB (bt s 0) (bt s 1) (bt s 2 + 256 * bt s 3) = true) : Calls Try.prog 16 #[.string s] w (IsGet (bt s 0) (bt s 1) (bt s 2 + 256 * bt s 3) 0 w) := by
  have F := Lib.hid (four s hs)
  have HM := Lib.hid hM
  clear hM
  have c0 := bt_nonneg s 0
  have c1 := bt_le s 0
  go_enter Try.func16, Try.ntmps16
  go_wp2_with fail
  refine (Bi.new_any _ _).mono ?_
  rintro e w1 ⟨rfl, hr1, hk1⟩
  have hb1 : Below w.heap.size w w1 := ((Below.refl _ _).alloc (Nat.le_refl _) _).trans (hk1.all.mono (by simp))
  have hz := (Blk.new w 24 #[.int .u8 0, .int .i64 0, .int .i64 0]).keeps hk1 (by simp)
  have hs0 : w.heap.size < (w.alloc (.cells #[.int .u8 0, .int .i64 0, .int .i64 0] 24)).heap.size := by simp
  clear hk1
  generalize (w.alloc (.cells #[.int .u8 0, .int .i64 0, .int .i64 0] 24)).heap.size = br at *
  have HC1 := Lib.hid (Bi.byte_any br s 0 0 w1 hr1 (by decide) (by omega) hm)
  rw [F.out.1, F.out.2.1, F.out.2.2.1] at HC1
  go_wp2_with fail
  refine HC1.out.mono ?_
  clear HC1
  rintro e w2 ⟨rfl, hr2, hk2⟩
  have hb2 := hb1.trans (hk2.below (Nat.le_trans (Nat.le_refl _) hb1.size) (by simp; omega))
  have hz2 := hz.keeps hk2 (by simp; omega)
  clear hr1 hk2 hb1 hz
  have HC2 := Lib.hid (Bi.byte_any br s _ _ w2 hr2 (by decide) (by omega) hm)
  rw [F.out.2.2.2.1, F.out.2.2.2.2.1, F.out.2.2.2.2.2.1] at HC2
  go_wp2_with fail
  refine HC2.out.mono ?_
  clear HC2
  rintro e w3 ⟨rfl, hr3, hk3⟩
  have hb3 := hb2.trans (hk3.below (Nat.le_trans (Nat.le_refl _) hb2.size) (by simp; omega))
  have hz3 := hz2.keeps hk3 (by simp; omega)
  clear hr2 hk3 hb2 hz2
  have HC3 := Lib.hid (Bi.rtwo_any br s _ _ w3 hr3 (by decide) (by omega) hm)
  rw [F.out.2.2.2.2.2.2.1, F.out.2.2.2.2.2.2.2.1, F.out.2.2.2.2.2.2.2.2] at HC3
  go_wp2_with fail
  refine HC3.out.mono ?_
  clear HC3
  rintro e w4 ⟨rfl, hr4, hk4⟩
  have hb4 := hb3.trans (hk4.below (Nat.le_trans (Nat.le_refl _) hb3.size) (by simp; omega))
  have hz4 := hz3.keeps hk4 (by simp; omega)
  have hlt4 := hz4.lt
  clear hr3 hk4 hb3 hz3
  generalize bt s 0 = c at *
  generalize bt s 1 = x at *
  generalize bt s 2 + 256 * bt s 3 = n at *
  have HE := Lib.hid (fun o => Bi.err_any br s _ _ (w4.alloc o) (Bi.Rd.alloc hr4 o))
  clear hr4 F
  go_wp2_with fail
  refine (HE.out _).mono ?_
  rintro e w5 ⟨rfl, hd5⟩
  have hz5 := (hz4.alloc _).drawn hd5
  have hi5 := (Blk.new w4 24 #[.int .u8 c, .int .i64 x, .int .i64 n]).drawn hd5
  have hb5 := (hb4.alloc hb4.size _).trans (hd5.below _)
  have p0 : w5.cell? ⟨w4.heap.size, 0, none⟩ = some (.int .u8 c) := hi5.cell 0
  have p1 : w5.cell? ⟨w4.heap.size, 1, none⟩ = some (.int .i64 x) := hi5.cell 1
  have p2 : w5.cell? ⟨w4.heap.size, 2, none⟩ = some (.int .i64 n) := hi5.cell 2
  clear HE hz4 hb4
  go_wp2_with fail
  refine (may_any _ _ _ _ c0 c1).mono ?_
  rintro e w6 ⟨rfl, hb56⟩
  rw [HM.out]
  have hz6 := hz5.below hb56 hz5.lt
  have hi6 := hi5.below hb56 hi5.lt
  have hb6 := hb5.trans (hb56.mono hb5.size)
  have q0 := hz6.cell 0
  have q1 := hz6.cell 1
  have q2 := hz6.cell 2
  have qf := hz6.frozen
  have ql := hz6.lt
  have p0 : w6.cell? ⟨w4.heap.size, 0, none⟩ = some (.int .u8 c) := hi6.cell 0
  have p1 : w6.cell? ⟨w4.heap.size, 1, none⟩ = some (.int .i64 x) := hi6.cell 1
  have p2 : w6.cell? ⟨w4.heap.size, 2, none⟩ = some (.int .i64 n) := hi6.cell 2
  clear hz5 hb5 hi5 hi6 hb56
  go_wp2
  refine bodyPost_ret (v := .tuple #[.agg #[.int .u8 c, .int .i64 x, .int .i64 n], .int .i64 0]) (by simp [results, Try.results16, go_sem, q0, q1, q2]) rfl ⟨rfl, ?_⟩
  exact ((hb6.setCell (Nat.le_refl _) _).setCell (Nat.le_refl _) _).setCell (Nat.le_refl _) _
end Co
end Go.Proofs.Ytkbgihlpnamfeaa
