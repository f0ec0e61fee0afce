/- What must be whatever is asked (live): the nearest one of three. -/
import Derived.Test.YtdnnaoaejgpedaaPhaseD
import Derived.Test.YtdnnaoaejgpedaaMem
import Derived.Outline
namespace Go.Proofs.Ytdnnaoaejgpedaa
open Go.RowKit
namespace Ph
theorem isnan_of (x : Nat) (w : World) (h : (FloatKind.f64.format.order x x != some .eq) = false) : Calls Try.prog 11 #[.float .f64 x] w fun e w' => e = .returned (.bool false) ∧ w = w' := by
  go_enter Try.func11, Try.ntmps11
  go_wp2
  go_ret
  exact ⟨rfl, rfl⟩
theorem isnan_2 (w : World) : Calls Try.prog 11 #[.float .f64 4611686018427387904] w fun e w' => e = .returned (.bool false) ∧ w = w' := isnan_of _ w (by decide +kernel)
theorem isnan_1 (w : World) : Calls Try.prog 11 #[.float .f64 4607182418800017408] w fun e w' => e = .returned (.bool false) ∧ w = w' := isnan_of _ w (by decide +kernel)
theorem norm_2 (w : World) : Calls Try.prog 6 #[.complex .f64 13830554455654793216 4607182418800017408] w fun e w' => e = .returned (.float .f64 4611686018427387904) ∧ w' = w :=
  norm_of 13830554455654793216 4607182418800017408 4607182418800017408 4607182418800017408 4611686018427387904 w (by decide +kernel) (by decide +kernel) (by decide +kernel)
theorem norm_10 (w : World) : Calls Try.prog 6 #[.complex .f64 4607182418800017408 0] w fun e w' => e = .returned (.float .f64 4607182418800017408) ∧ w' = w :=
  norm_of 4607182418800017408 0 4607182418800017408 0 4607182418800017408 w (by decide +kernel) (by decide +kernel) (by decide +kernel)
theorem norm_01 (w : World) : Calls Try.prog 6 #[.complex .f64 0 4607182418800017408] w fun e w' => e = .returned (.float .f64 4607182418800017408) ∧ w' = w :=
  norm_of 0 4607182418800017408 0 4607182418800017408 4607182418800017408 w (by decide +kernel) (by decide +kernel) (by decide +kernel)
def bestK (k : Nat) : Value := if k = 0 then .int .i64 (-1) else if k = 1 then .int .i64 0 else .int .i64 1
def leastK (k : Nat) : Value := if k = 0 then .float .f64 0 else if k = 1 then .float .f64 4611686018427387904 else .float .f64 4607182418800017408
set_option maxRecDepth 100000 in
theorem near_live (b : Nat) (w : World) (h : Sm.Blk w b 23 #[.complex .f64 4611686018427387904 0, .complex .f64 0 4607182418800017408, .complex .f64 4607182418800017408 0]) :
    Calls Try.prog 9 #[.complex .f64 4607182418800017408 4607182418800017408, .slice (some ⟨b, 0, none⟩) 3 3] w fun e w' => e = .returned (.int .i64 1) ∧ w = w' := by
  have c0 := h.cell 0
  have c1 := h.cell 1
  have c2 := h.cell 2
  simp at c0 c1 c2
  clear h
  have s12 := fun (t : TypeId) (w : World) => run_float_arith (P := Try.prog) w .sub t .f64 4607182418800017408 4611686018427387904 13830554455654793216 (by decide +kernel)
  have s10 := fun (t : TypeId) (w : World) => run_float_arith (P := Try.prog) w .sub t .f64 4607182418800017408 0 4607182418800017408 (by decide +kernel)
  have s11 := fun (t : TypeId) (w : World) => run_float_arith (P := Try.prog) w .sub t .f64 4607182418800017408 4607182418800017408 0 (by decide +kernel)
  have o12 : (FloatKind.f64.format.order 4607182418800017408 4611686018427387904 == some .lt) = true := by decide +kernel
  have o11 : (FloatKind.f64.format.order 4607182418800017408 4607182418800017408 == some .lt) = false := by decide +kernel
  go_enter Try.func9, Try.ntmps9
  go_wp2
  go_loop [5, 6, 12] (fun x y i => ∃ k : Nat, k ≤ 3 ∧ i = .int .i64 k ∧ x = bestK k ∧ y = leastK k) (fun _ _ i => 3 - (intOf i).toNat)
  case atStart => exact ⟨0, by omega, rfl, rfl, rfl⟩
  case round =>
    obtain ⟨k, hk, rfl, rfl, rfl⟩ := hrel
    have hk4 : k = 0 ∨ k = 1 ∨ k = 2 ∨ k = 3 := by omega
    rcases hk4 with rfl | rfl | rfl | rfl
    · simp only [bestK, leastK, if_true]
      go_wp2_with fail
      refine (norm_2 _).mono ?_
      rintro e w1 ⟨rfl, rfl⟩
      go_wp2_with fail
      refine (isnan_2 _).mono ?_
      rintro e w1 ⟨rfl, rfl⟩
      go_wp2_with fail
      go_round
      case rel => exact ⟨1, by omega, rfl, rfl, rfl⟩
      case measure => simp [intOf]
    · simp only [bestK, leastK]
      go_wp2_with fail
      refine (norm_10 _).mono ?_
      rintro e w1 ⟨rfl, rfl⟩
      go_wp2_with fail
      refine (isnan_1 _).mono ?_
      rintro e w1 ⟨rfl, rfl⟩
      go_wp2_with fail
      go_round
      case rel => exact ⟨2, by omega, rfl, rfl, rfl⟩
      case measure => simp [intOf]
    · simp only [bestK, leastK]
      go_wp2_with fail
      refine (norm_01 _).mono ?_
      rintro e w1 ⟨rfl, rfl⟩
      go_wp2_with fail
      refine (isnan_1 _).mono ?_
      rintro e w1 ⟨rfl, rfl⟩
      go_wp2_with fail
      go_round
      case rel => exact ⟨3, by omega, rfl, rfl, rfl⟩
      case measure => simp [intOf]
    · simp only [bestK, leastK]
      go_wp2_with fail
      go_ret
      exact ⟨rfl, rfl⟩
end Ph
end Go.Proofs.Ytdnnaoaejgpedaa
