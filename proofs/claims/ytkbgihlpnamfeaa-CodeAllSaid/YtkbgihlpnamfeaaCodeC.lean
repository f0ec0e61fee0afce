/- Instructions as bytes, and back: the program's functions and the reference's. -/
import Derived.Test.YtkbgihlpnamfeaaCodeB
namespace Go.Proofs.Ytkbgihlpnamfeaa
open Go.RowKit
attribute [local go_sem] Bw.and255 Bw.and65535
namespace Co
open Sm
open Bi (Rd rdAt rdErr rdByte rdTwo putL putL_of)
open PlainAid (bt get_bt bt_nonneg bt_le)
attribute [local irreducible] nm regB mayB rdAt rdErr rdByte rdTwo Rd putL
set_option maxHeartbeats 2000000 in
theorem rmay_any (c x n : Int) (w : World) (h0 : 0 ≤ c) (h1 : c ≤ 255) : Calls Try.prog 14 #[.agg #[.int .u8 c, .int .i64 x, .int .i64 n]] w fun e w' => e = .returned (.bool (mayB c x n)) ∧ Below w.heap.size w w' := by
  go_enter Try.func14, Try.ntmps14
  go_wp2
  all_goals
    go_ret
    refine ⟨ret_may ?_, (Below.refl _ _).alloc (Nat.le_refl _) _⟩
    simp only [MayP]
    first | omega | (simp at *; omega) | (split <;> simp at * <;> omega)
/-- An instruction's bytes. -/
def encI (c x n : Int) : List UInt8 := [UInt8.ofNat c.toNat, UInt8.ofNat x.toNat] ++ putL n
def IsText2 (l : List UInt8) (n : Int) (w : World) (e : Ending) (w' : World) : Prop := ∃ r : ByteArray, e = .returned (.tuple #[.string r, .int .i64 n]) ∧ r.data.toList = l ∧ Below w.heap.size w w'
theorem enc_of (c x n : Int) (t : ByteArray) (ht : t.data.toList = putL n) : (strOfNums [c, x] ++ t).data.toList = encI c x n := by
  unfold encI
  simp [strOfNums, ht]
theorem two_at (W : World) (b : Nat) (x y : Int) (h0 : W.cell? ⟨b, 0, none⟩ = some (.int .u8 x)) (h1 : W.cell? ⟨b, 1, none⟩ = some (.int .u8 y)) : (convert 47 9 (.slice (some ⟨b, 0, none⟩) 2 2)).run Try.prog W = .ok (.string (strOfNums [x, y])) W := by
  refine run_convert_bytes_arg (P := Try.prog) _ 47 5 Try.underlying47 Try.underlying5 _ 0 2 2 [x, y] rfl ?_ 9 Try.underlying9
  intro i hi
  have : i = 0 ∨ i = 1 := by omega
  rcases this with rfl | rfl
  · simpa using h0
  · simpa using h1
theorem put_no (c x n : Int) (w : World) (h0 : 0 ≤ c) (h1 : c ≤ 255) (hm : mayB c x n = false) : Calls Try.prog 13 #[.agg #[.int .u8 c, .int .i64 x, .int .i64 n]] w (IsText2 [] 12 w) := by
  have HM := Lib.hid hm
  clear hm
  go_enter Try.func13, Try.ntmps13
  go_wp2_with fail
  refine (may_any _ _ _ _ h0 h1).mono ?_
  rintro e w1 ⟨rfl, hb⟩
  rw [HM.out]
  have HB : Hid (Below w.heap.size w w1) := ((Below.refl _ _).alloc (Nat.le_refl _) (.cells #[.int .u8 c, .int .i64 x, .int .i64 n] 24)).trans (hb.mono (by simp))
  go_wp2
  go_ret2
  exact ⟨_, rfl, rfl, HB.out⟩
end Co
end Go.Proofs.Ytkbgihlpnamfeaa
