/- Symbols that are the same; what must be whatever is asked (live). -/
import Derived.Test.YtdmgglcadjhnhaaToneE
import Derived.Laws.Externs
namespace Go.Proofs.Ytdmgglcadjhnhaa
open Go.RowKit
namespace To
open Sm Ph
theorem none_p (w : World) : Calls Try.prog 16 #[.float .f64 P1] w fun e w' => e = .returned (.bool false) ∧ w = w' := by
  have f : (FloatKind.f64.format.order P1 P1 != some .eq) = false := by decide +kernel
  go_enter Try.func16, Try.ntmps16
  go_wp2
  go_ret
  exact ⟨rfl, rfl⟩
theorem none_m (w : World) : Calls Try.prog 16 #[.float .f64 M1] w fun e w' => e = .returned (.bool false) ∧ w = w' := by
  have f : (FloatKind.f64.format.order M1 M1 != some .eq) = false := by decide +kernel
  go_enter Try.func16, Try.ntmps16
  go_wp2
  go_ret
  exact ⟨rfl, rfl⟩
theorem call_bits (x : Nat) (w : World) : (callFunc 17 #[.float .f64 x]).run Try.prog w = .ok (.value (.int .u64 (x : Int))) w := by
  rw [run_callFunc_extern (P := Try.prog) (f := 17) (fn := Try.f17) (e := Extern.MathFloatBits.float64bits) (by kernel_rfl) (by kernel_rfl) (by kernel_rfl) (by kernel_rfl) (by kernel_rfl)]
  rfl
theorem same_f (x : Nat) (w : World) (h : ∀ w, Calls Try.prog 16 #[.float .f64 x] w fun e w' => e = .returned (.bool false) ∧ w = w') :
    Calls Try.prog 12 #[.float .f64 x, .float .f64 x] w fun e w' => e = .returned (.bool true) ∧ w = w' := by
  have H := Lib.hid h
  have hc := call_bits x
  clear h
  go_enter Try.func12, Try.ntmps12
  go_wp2_with fail
  refine (H.out _).mono ?_
  rintro e w1 ⟨rfl, rfl⟩
  go_wp2_with fail
  refine (H.out _).mono ?_
  rintro e w1 ⟨rfl, rfl⟩
  go_wp2_with fail
  go_ret
  exact ⟨rfl, rfl⟩
theorem same_c (x y : Nat) (w : World) (h : ∀ w, Calls Try.prog 16 #[.float .f64 x] w fun e w' => e = .returned (.bool false) ∧ w = w') (h2 : ∀ w, Calls Try.prog 16 #[.float .f64 y] w fun e w' => e = .returned (.bool false) ∧ w = w') :
    Calls Try.prog 7 #[.complex .f64 x y, .complex .f64 x y] w fun e w' => e = .returned (.bool true) ∧ w = w' := by
  have H := Lib.hid (fun w => same_f x w h)
  have H2 := Lib.hid (fun w => same_f y w h2)
  clear h h2
  go_enter Try.func7, Try.ntmps7
  go_wp2_with fail
  refine (H.out _).mono ?_
  rintro e w1 ⟨rfl, rfl⟩
  go_wp2_with fail
  refine (H2.out _).mono ?_
  rintro e w1 ⟨rfl, rfl⟩
  go_wp2_with fail
  go_ret
  exact ⟨rfl, rfl⟩
theorem same_any (n : Int) (w : World) : Calls Try.prog 7 #[.complex .f64 (sz n).1 (sz n).2, .complex .f64 (sz n).1 (sz n).2] w fun e w' => e = .returned (.bool true) ∧ w = w' := by
  unfold sz
  rcases cases4 n with h | h | h | h <;> rw [h]
  · exact same_c P1 P1 w none_p none_p
  · exact same_c M1 P1 w none_m none_p
  · exact same_c P1 M1 w none_p none_m
  · exact same_c M1 M1 w none_m none_m
theorem says_0 (w : World) : Calls Try.prog 13 #[.complex .f64 P1 P1] w fun e w' => e = .returned (.int .i64 0) ∧ w = w' := says_any 0 w
theorem says_1 (w : World) : Calls Try.prog 13 #[.complex .f64 M1 P1] w fun e w' => e = .returned (.int .i64 1) ∧ w = w' := says_any 1 w
theorem says_2 (w : World) : Calls Try.prog 13 #[.complex .f64 P1 M1] w fun e w' => e = .returned (.int .i64 2) ∧ w = w' := says_any 2 w
theorem says_3 (w : World) : Calls Try.prog 13 #[.complex .f64 M1 M1] w fun e w' => e = .returned (.int .i64 3) ∧ w = w' := says_any 3 w
theorem tones_27 (w : World) : Calls Try.prog 9 #[.int .i64 27] w fun e w' => e = .returned (.agg #[.complex .f64 P1 P1, .complex .f64 M1 P1, .complex .f64 P1 M1, .complex .f64 M1 M1]) ∧ Keeps [] w w' := by
  have h := tones_any 27 w (by decide) (by decide)
  rw [sx0 (n := 27 / 64) (by decide), sx1 (n := 27 / 16) (by decide), sx2 (n := 27 / 4) (by decide), sx3 (n := 27) (by decide)] at h
  exact h
def bK (k : Nat) : Int := if k = 0 then 0 else if k = 1 then 0 else if k = 2 then 1 else if k = 3 then 6 else 27
set_option maxRecDepth 100000 in
theorem byte_27 (w : World) : Calls Try.prog 10 #[.agg #[.complex .f64 P1 P1, .complex .f64 M1 P1, .complex .f64 P1 M1, .complex .f64 M1 M1]] w fun e w' => e = .returned (.tuple #[.int .i64 27, .int .i64 0]) ∧ Keeps [] w w' := by
  have i0 : ∀ w, (Instr.index 31 (.agg #[.complex .f64 P1 P1, .complex .f64 M1 P1, .complex .f64 P1 M1, .complex .f64 M1 M1]) (.int .i64 0)).run Try.prog w = .ok (.complex .f64 P1 P1) w := fun _ => by kernel_rfl
  have i1 : ∀ w, (Instr.index 31 (.agg #[.complex .f64 P1 P1, .complex .f64 M1 P1, .complex .f64 P1 M1, .complex .f64 M1 M1]) (.int .i64 1)).run Try.prog w = .ok (.complex .f64 M1 P1) w := fun _ => by kernel_rfl
  have i2 : ∀ w, (Instr.index 31 (.agg #[.complex .f64 P1 P1, .complex .f64 M1 P1, .complex .f64 P1 M1, .complex .f64 M1 M1]) (.int .i64 2)).run Try.prog w = .ok (.complex .f64 P1 M1) w := fun _ => by kernel_rfl
  have i3 : ∀ w, (Instr.index 31 (.agg #[.complex .f64 P1 P1, .complex .f64 M1 P1, .complex .f64 P1 M1, .complex .f64 M1 M1]) (.int .i64 3)).run Try.prog w = .ok (.complex .f64 M1 M1) w := fun _ => by kernel_rfl
  have o0 : bits .or .i64 0 0 = 0 := by decide +kernel
  have o1 : bits .or .i64 0 1 = 1 := by decide +kernel
  have o2 : bits .or .i64 4 2 = 6 := by decide +kernel
  have o3 : bits .or .i64 24 3 = 27 := by decide +kernel
  go_enter Try.func10, Try.ntmps10
  go_wp2
  have hK : Keeps [] w (w.alloc (.cells #[.complex .f64 P1 P1, .complex .f64 M1 P1, .complex .f64 P1 M1, .complex .f64 M1 M1] 31)) := (Keeps.refl _ _).alloc _
  generalize (w.alloc (.cells #[.complex .f64 P1 P1, .complex .f64 M1 P1, .complex .f64 P1 M1, .complex .f64 M1 M1] 31)) = V at *
  go_loop [4, 9] (fun b i => ∃ k : Nat, k ≤ 4 ∧ i = .int .i64 k ∧ b = .int .i64 (bK k)) (fun _ i => 4 - (intOf i).toNat)
  case atStart => exact ⟨0, by omega, rfl, rfl⟩
  case round =>
    obtain ⟨k, hk, rfl, rfl⟩ := hrel
    have h5 : k = 0 ∨ k = 1 ∨ k = 2 ∨ k = 3 ∨ k = 4 := by omega
    rcases h5 with rfl | rfl | rfl | rfl | rfl
    · simp only [bK, if_true]
      go_wp2_with fail
      refine (says_0 _).mono ?_
      rintro e w1 ⟨rfl, rfl⟩
      go_wp2_with fail
      go_round
      case rel => exact ⟨1, by omega, rfl, rfl⟩
      case measure => simp [intOf]
    · simp only [bK]
      go_wp2_with fail
      refine (says_1 _).mono ?_
      rintro e w1 ⟨rfl, rfl⟩
      go_wp2_with fail
      go_round
      case rel => exact ⟨2, by omega, rfl, rfl⟩
      case measure => simp [intOf]
    · simp only [bK]
      go_wp2_with fail
      refine (says_2 _).mono ?_
      rintro e w1 ⟨rfl, rfl⟩
      go_wp2_with fail
      go_round
      case rel => exact ⟨3, by omega, rfl, rfl⟩
      case measure => simp [intOf]
    · simp only [bK]
      go_wp2_with fail
      refine (says_3 _).mono ?_
      rintro e w1 ⟨rfl, rfl⟩
      go_wp2_with fail
      go_round
      case rel => exact ⟨4, by omega, rfl, rfl⟩
      case measure => simp [intOf]
    · simp only [bK]
      go_wp2_with fail
      go_ret2
      exact ⟨rfl, hK⟩
attribute [local go_sem] run_store_float run_store_complex
set_option maxRecDepth 100000 in
theorem live_any (w : World) : Calls Try.prog 4 #[] w fun e w' => e = .returned (.bool true) ∧ Keeps [] w w' := by
  go_enter Try.func4, Try.ntmps4
  go_wp2_with fail
  refine (tones_27 _).mono ?_
  rintro e w1 ⟨rfl, k1⟩
  have hB := Blk.new w1 31 #[.complex .f64 P1 P1, .complex .f64 M1 P1, .complex .f64 P1 M1, .complex .f64 M1 M1]
  go_wp2_with fail
  refine (byte_27 _).mono ?_
  rintro e w2 ⟨rfl, k2⟩
  have hB2 := hB.keeps k2 (by simp)
  have c0 := hB2.cell 0
  have c1 := hB2.cell 1
  have c2 := hB2.cell 2
  have c3 := hB2.cell 3
  simp at c0 c1 c2 c3
  have HK : Hid (Keeps [] w w2) := Lib.hid ((k1.alloc _).trans k2)
  clear k1 k2 hB hB2
  go_wp2_with fail
  go_ret
  exact ⟨rfl, HK.out⟩
end To
end Go.Proofs.Ytdmgglcadjhnhaa
