/- The law BitsParts: its walk; and what is asked whatever is asked (live). -/
import Derived.Test.YtjdhkpafbejodaaBitsC
namespace Go.Proofs.Ytjdhkpafbejodaa
open Go.RowKit
attribute [local go_sem] Bw.and255 Bw.and65535
namespace Bi
open Sm Pc
open PlainAid (bt get_bt bt_nonneg bt_le)

theorem put513 : putL 513 = [1, 2] := by decide +kernel
theorem l1 : rdAt ⟨#[1, 2, 3]⟩ 0 0 2 = 2 ∧ rdErr ⟨#[1, 2, 3]⟩ 0 0 2 = 0 ∧ rdTwo ⟨#[1, 2, 3]⟩ 0 0 = 513 := by decide +kernel
theorem l2 : rdAt ⟨#[1, 2, 3]⟩ 2 0 1 = 3 ∧ rdErr ⟨#[1, 2, 3]⟩ 2 0 1 = 0 ∧ rdByte ⟨#[1, 2, 3]⟩ 2 0 = 3 := by decide +kernel
theorem l3 : rdAt ⟨#[1, 2, 3]⟩ 3 0 1 = 3 ∧ rdErr ⟨#[1, 2, 3]⟩ 3 0 1 = 5 ∧ rdByte ⟨#[1, 2, 3]⟩ 3 0 = 0 := by decide +kernel
theorem live_r1 (b : Nat) (w : World) (h : Rd w b ⟨#[1, 2, 3]⟩ 0 0) : Calls Try.prog 38 #[.pointer (some ⟨b, 0, none⟩)] w (IsRd b ⟨#[1, 2, 3]⟩ 2 0 (.int .i64 513) w) := by
  have := rtwo_any b _ 0 0 w h (by decide) (by decide) (by decide)
  rw [l1.1, l1.2.1, l1.2.2] at this
  exact this
theorem live_r2 (b : Nat) (w : World) (h : Rd w b ⟨#[1, 2, 3]⟩ 2 0) : Calls Try.prog 39 #[.pointer (some ⟨b, 0, none⟩)] w (IsRd b ⟨#[1, 2, 3]⟩ 3 0 (.int .i64 3) w) := by
  have := byte_any b _ 2 0 w h (by decide) (by decide) (by decide)
  rw [l2.1, l2.2.1, l2.2.2] at this
  exact this
theorem live_r3 (b : Nat) (w : World) (h : Rd w b ⟨#[1, 2, 3]⟩ 3 0) : Calls Try.prog 39 #[.pointer (some ⟨b, 0, none⟩)] w (IsRd b ⟨#[1, 2, 3]⟩ 3 5 (.int .i64 0) w) := by
  have := byte_any b _ 3 0 w h (by decide) (by decide) (by decide)
  rw [l3.1, l3.2.1, l3.2.2] at this
  exact this
theorem live_two (w : World) : Calls Try.prog 50 #[.int .i64 1, .int .i64 2] w fun e w' => e = .returned (.int .i64 513) ∧ w = w' := two_any 1 2 w
end Bi
end Go.Proofs.Ytjdhkpafbejodaa
