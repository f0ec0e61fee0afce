/- The ticks that are heard, one behind the other; their parts; a pulse. -/
import Derived.Test.YtbkljphhgghjdaaBeatC
namespace Go.Proofs.Ytbkljphhgghjdaa
open Go.RowKit
namespace Be
open Sm Ph Fl
theorem take_nth (zs : List Int) (k : Nat) (h : k < zs.length) : zs.take (k + 1) = zs.take k ++ [zs.getD k 0] := by
  rw [List.take_succ_eq_append_getElem h, List.getD_eq_getElem?_getD, List.getElem?_eq_getElem h]; rfl

set_option maxRecDepth 100000 in
theorem each_put (a : Option Addr) (len cap : Nat) (zs : List Int) (o : Nat) (J : List Int → World → Prop) (w : World) (hz : zs.length = len) (hlen : len ≤ 500)
    (hcell : ∀ k pre wr, k < len → J pre wr → ∃ b off, a = some ⟨b, off, none⟩ ∧ wr.cell? ⟨b, off + k, none⟩ = some (.int .i64 (zs.getD k 0)))
    (hstep : ∀ pre t wr, J pre wr → pre.length < 500 → Calls Try.prog 19 #[.int .i64 t, .pointer (some ⟨o, 0, none⟩)] wr fun e w' => e = .returned (.tuple #[]) ∧ J (pre ++ [t]) w')
    (h0 : J [] w) : Calls Try.prog 18 #[.slice a len cap, .func (.func 19) #[] #[.pointer (some ⟨o, 0, none⟩)]] w fun e w' => e = .returned (.tuple #[]) ∧ J (nn zs) w' := by
  have HZ := Lib.hid hz
  have HC := Lib.hid hcell
  have HS := Lib.hid hstep
  clear hz hcell hstep
  go_enter Try.func18, Try.ntmps18
  go_wp2
  go_loopw [4, 9] (fun n i wr => ∃ k m : Nat, k ≤ len ∧ m ≤ k ∧ i = .int .i64 k ∧ n = .int .i64 m ∧ m = (nn (zs.take k)).length ∧ J (nn (zs.take k)) wr) (fun _ i _ => len - (intOf i).toNat)
  case atStart => exact ⟨0, 0, by omega, by omega, rfl, rfl, rfl, h0⟩
  case round =>
    clear h0
    obtain ⟨k, m, hk, hm, rfl, rfl, hml, hJ⟩ := hrel
    have HM := Lib.hid hml
    clear hml
    by_cases hlt : k < len
    · obtain ⟨b, off, rfl, hc⟩ := HC.out k _ wr hlt hJ
      have hsn := take_nth zs k (by rw [HZ.out]; exact hlt)
      generalize zs.getD k 0 = t at *
      by_cases ht : 0 ≤ t
      · have hnn := nn_hit (zs.take k) t ht
        rw [← hsn] at hnn
        have HNN := Lib.hid hnn
        have HST := Lib.hid (HS.out _ t wr hJ (by have := HM.out; omega))
        clear hsn hnn hJ
        go_wp2_with fail
        refine HST.out.mono ?_
        rintro e w1 ⟨rfl, hJ⟩
        have HJ := Lib.hid hJ
        clear hJ HST
        go_wp2_with fail
        go_roundw
        case rel => exact ⟨k + 1, m + 1, by omega, by omega, by go_num, by go_num, by rw [HNN.out, HM.out]; simp, by rw [HNN.out]; exact HJ.out⟩
        case measure => simp [intOf]; omega
      · have hnn := nn_miss (zs.take k) t ht
        rw [← hsn] at hnn
        have HNN := Lib.hid hnn
        have HJ := Lib.hid hJ
        clear hsn hnn hJ
        go_wp2_with fail
        go_roundw
        case rel => exact ⟨k + 1, m, by omega, by omega, by go_num, rfl, by rw [HNN.out]; exact HM.out, by rw [HNN.out]; exact HJ.out⟩
        case measure => simp [intOf]; omega
    · obtain rfl : k = len := by omega
      have HJ := Lib.hid hJ
      clear hJ
      go_wp2_with fail
      go_end0
      have := HJ.out
      rw [List.take_of_length_le (by rw [HZ.out]; exact Nat.le_refl _)] at this
      exact ⟨rfl, this⟩
set_option maxRecDepth 100000 in
theorem each_cap (a : Option Addr) (len cap : Nat) (zs : List Int) (o q : Nat) (J : List Int → World → Prop) (w : World) (hz : zs.length = len) (hlen : len ≤ 500)
    (hcell : ∀ k pre wr, k < len → J pre wr → ∃ b off, a = some ⟨b, off, none⟩ ∧ wr.cell? ⟨b, off + k, none⟩ = some (.int .i64 (zs.getD k 0)))
    (hstep : ∀ pre t wr, J pre wr → pre.length < 500 → Calls Try.prog 20 #[.int .i64 t, .pointer (some ⟨o, 0, none⟩), .pointer (some ⟨q, 0, none⟩)] wr fun e w' => e = .returned (.tuple #[]) ∧ J (pre ++ [t]) w')
    (h0 : J [] w) : Calls Try.prog 18 #[.slice a len cap, .func (.func 20) #[] #[.pointer (some ⟨o, 0, none⟩), .pointer (some ⟨q, 0, none⟩)]] w fun e w' => e = .returned (.tuple #[]) ∧ J (nn zs) w' := by
  have HZ := Lib.hid hz
  have HC := Lib.hid hcell
  have HS := Lib.hid hstep
  clear hz hcell hstep
  go_enter Try.func18, Try.ntmps18
  go_wp2
  go_loopw [4, 9] (fun n i wr => ∃ k m : Nat, k ≤ len ∧ m ≤ k ∧ i = .int .i64 k ∧ n = .int .i64 m ∧ m = (nn (zs.take k)).length ∧ J (nn (zs.take k)) wr) (fun _ i _ => len - (intOf i).toNat)
  case atStart => exact ⟨0, 0, by omega, by omega, rfl, rfl, rfl, h0⟩
  case round =>
    clear h0
    obtain ⟨k, m, hk, hm, rfl, rfl, hml, hJ⟩ := hrel
    have HM := Lib.hid hml
    clear hml
    by_cases hlt : k < len
    · obtain ⟨b, off, rfl, hc⟩ := HC.out k _ wr hlt hJ
      have hsn := take_nth zs k (by rw [HZ.out]; exact hlt)
      generalize zs.getD k 0 = t at *
      by_cases ht : 0 ≤ t
      · have hnn := nn_hit (zs.take k) t ht
        rw [← hsn] at hnn
        have HNN := Lib.hid hnn
        have HST := Lib.hid (HS.out _ t wr hJ (by have := HM.out; omega))
        clear hsn hnn hJ
        go_wp2_with fail
        refine HST.out.mono ?_
        rintro e w1 ⟨rfl, hJ⟩
        have HJ := Lib.hid hJ
        clear hJ HST
        go_wp2_with fail
        go_roundw
        case rel => exact ⟨k + 1, m + 1, by omega, by omega, by go_num, by go_num, by rw [HNN.out, HM.out]; simp, by rw [HNN.out]; exact HJ.out⟩
        case measure => simp [intOf]; omega
      · have hnn := nn_miss (zs.take k) t ht
        rw [← hsn] at hnn
        have HNN := Lib.hid hnn
        have HJ := Lib.hid hJ
        clear hsn hnn hJ
        go_wp2_with fail
        go_roundw
        case rel => exact ⟨k + 1, m, by omega, by omega, by go_num, rfl, by rw [HNN.out]; exact HM.out, by rw [HNN.out]; exact HJ.out⟩
        case measure => simp [intOf]; omega
    · obtain rfl : k = len := by omega
      have HJ := Lib.hid hJ
      clear hJ
      go_wp2_with fail
      go_end0
      have := HJ.out
      rw [List.take_of_length_le (by rw [HZ.out]; exact Nat.le_refl _)] at this
      exact ⟨rfl, this⟩
end Be
end Go.Proofs.Ytbkljphhgghjdaa
