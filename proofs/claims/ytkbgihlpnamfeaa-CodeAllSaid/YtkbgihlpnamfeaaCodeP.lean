/- Instructions as bytes: the program's functions and the reference's. -/
import Derived.Test.YtkbgihlpnamfeaaCodeC
import Derived.Deep.RegionWith
namespace Go.Proofs.Ytkbgihlpnamfeaa
open Go.RowKit
attribute [local go_sem] Bw.and255 Bw.and65535
namespace Co
open Sm
open Bi (Rd rdAt rdErr rdByte rdTwo putL putL_of)
open PlainAid (bt get_bt bt_nonneg bt_le)
attribute [local irreducible] nm regB mayB rdAt rdErr rdByte rdTwo Rd putL
set_option maxHeartbeats 8000000 in
theorem put_yes (c x n : Int) (w : World) (h0 : 0 ≤ c) (h1 : c ≤ 255) (hx0 : 0 ≤ x) (hx1 : x ≤ 255) (hm : mayB c x n = true) : Calls Try.prog 13 #[.agg #[.int .u8 c, .int .i64 x, .int .i64 n]] w (IsText2 (encI c x n) 0 w) := by
  have HM := Lib.hid hm
  clear hm
  have hcv := two_at
  have HX : Hid (IntKind.u8.wrap x = x) := IntWalk.u8_in x ⟨hx0, hx1⟩
  have hsz : ∀ x y : Int, (strOfNums [x, y]).size = 2 := fun x y => strOfNums_size [x, y]
  have hpl : (putL n).length = 2 := by unfold putL; rfl
  have HPL := Lib.hid hpl
  clear hpl
  go_enter Try.func13, Try.ntmps13
  go_wp2_with fail
  refine (may_any _ _ _ _ h0 h1).mono ?_
  rintro e w1 ⟨rfl, hb⟩
  rw [HM.out]
  have HB : Hid (Below w.heap.size w w1) := ((Below.refl _ _).alloc (Nat.le_refl _) (.cells #[.int .u8 c, .int .i64 x, .int .i64 n] 24)).trans (hb.mono (by simp))
  have hbk := Blk.below (Blk.new w 24 #[.int .u8 c, .int .i64 x, .int .i64 n]) hb (by simp)
  have q0 : w1.cell? ⟨w.heap.size, 0, none⟩ = some (.int .u8 c) := hbk.cell 0
  have q1 : w1.cell? ⟨w.heap.size, 1, none⟩ = some (.int .i64 x) := hbk.cell 1
  have q2 : w1.cell? ⟨w.heap.size, 2, none⟩ = some (.int .i64 n) := hbk.cell 2
  have hlt : w.heap.size < w1.heap.size := hbk.lt
  clear hb hbk
  go_wp2
  go_region_with (go_at_call 22; refine (Bi.put_any _ _).mono ?_; rintro e w3 ⟨t, rfl, ht, hb⟩; have hB : Below w1.heap.size w1 w3 := (by first | exact ((Below.refl _ _).drew).trans hb | exact (((Below.refl _ _).drew).alloc (Nat.le_refl _) _).trans (hb.mono (by simp))); have r0 := (hB.cell (p := ⟨w.heap.size, 0, none⟩) hlt).trans q0; have r1 := (hB.cell (p := ⟨w.heap.size, 1, none⟩) hlt).trans q1; have r2 := (hB.cell (p := ⟨w.heap.size, 2, none⟩) hlt).trans q2; obtain ⟨hcl, _⟩ := bcell hb; have hts : t.size = 2 := (size_of t _ ht).trans HPL.out; have HT := Lib.hid (enc_of c x n t ht); clear ht hb)
  all_goals
    go_wp2
    go_ret2
    refine ⟨_, rfl, by rw [HX.out]; exact HT.out, ?_⟩
    first | exact HB.out.trans (hB.mono (Nat.le_of_lt hlt)) | exact (HB.out.trans (hB.mono (Nat.le_of_lt hlt))).alloc (Nat.le_trans (Nat.le_of_lt hlt) hB.size) _
set_option maxHeartbeats 8000000 in
theorem rput_any (c x n : Int) (w : World) (_h0 : 0 ≤ c) (_h1 : c ≤ 255) (hx0 : 0 ≤ x) (hx1 : x ≤ 255) : Calls Try.prog 17 #[.agg #[.int .u8 c, .int .i64 x, .int .i64 n]] w (Bi.IsText (encI c x n) w) := by
  have hcv := two_at
  have HX : Hid (IntKind.u8.wrap x = x) := IntWalk.u8_in x ⟨hx0, hx1⟩
  have hsz : ∀ x y : Int, (strOfNums [x, y]).size = 2 := fun x y => strOfNums_size [x, y]
  have hpl : (putL n).length = 2 := by unfold putL; rfl
  have HPL := Lib.hid hpl
  clear hpl
  go_enter Try.func17, Try.ntmps17
  have HB : Hid (Below w.heap.size w (w.alloc (.cells #[.int .u8 c, .int .i64 x, .int .i64 n] 24))) := (Below.refl _ _).alloc (Nat.le_refl _) _
  have hbk := Blk.new w 24 #[.int .u8 c, .int .i64 x, .int .i64 n]
  have q0 := hbk.cell 0
  have q1 := hbk.cell 1
  have q2 := hbk.cell 2
  have hlt : w.heap.size < (w.alloc (.cells #[.int .u8 c, .int .i64 x, .int .i64 n] 24)).heap.size := hbk.lt
  clear hbk
  go_wp2_with fail
  generalize w.alloc (.cells #[.int .u8 c, .int .i64 x, .int .i64 n] 24) = w1 at *
  go_region_with (go_at_call 27; refine (Bi.rput_any _ _).mono ?_; rintro e w3 ⟨t, rfl, ht, hb⟩; have hB : Below w1.heap.size w1 w3 := (by first | exact ((Below.refl _ _).drew).trans hb | exact (((Below.refl _ _).drew).alloc (Nat.le_refl _) _).trans (hb.mono (by simp))); have r0 := (hB.cell (p := ⟨w.heap.size, 0, none⟩) hlt).trans q0; have r1 := (hB.cell (p := ⟨w.heap.size, 1, none⟩) hlt).trans q1; have r2 := (hB.cell (p := ⟨w.heap.size, 2, none⟩) hlt).trans q2; obtain ⟨hcl, _⟩ := bcell hb; have hts : t.size = 2 := (size_of t _ ht).trans HPL.out; have HT := Lib.hid (enc_of c x n t ht); clear ht hb)
  all_goals
    go_wp2
    go_ret
    refine ⟨_, rfl, by rw [HX.out]; exact HT.out, ?_⟩
    first | exact HB.out.trans (hB.mono (Nat.le_of_lt hlt)) | exact (HB.out.trans (hB.mono (Nat.le_of_lt hlt))).alloc (Nat.le_trans (Nat.le_of_lt hlt) hB.size) _
end Co
end Go.Proofs.Ytkbgihlpnamfeaa
