/- Symbols: the symbol of two bits, and the two bits that a symbol says. -/
import Derived.Test.YtdmgglcadjhnhaaTurn
namespace Go.Proofs.Ytdmgglcadjhnhaa
open Go.RowKit
namespace To
open Sm Ph
abbrev P1 : Nat := 4607182418800017408
abbrev M1 : Nat := 13830554455654793216
/-- The symbol of two bits, as a pair of words. -/
def sz (n : Int) : Nat × Nat := if n % 4 = 0 then (P1, P1) else if n % 4 = 1 then (M1, P1) else if n % 4 = 2 then (P1, M1) else (M1, M1)
abbrev sx (n : Int) : Value := .complex .f64 (sz n).1 (sz n).2
theorem cases4 (n : Int) : n % 4 = 0 ∨ n % 4 = 1 ∨ n % 4 = 2 ∨ n % 4 = 3 := by omega
theorem sx0 {n : Int} (h : n % 4 = 0) : sx n = .complex .f64 P1 P1 := by show Value.complex .f64 (sz n).1 (sz n).2 = _; unfold sz; rw [if_pos h]
theorem sx1 {n : Int} (h : n % 4 = 1) : sx n = .complex .f64 M1 P1 := by show Value.complex .f64 (sz n).1 (sz n).2 = _; unfold sz; rw [if_neg (by omega), if_pos h]
theorem sx2 {n : Int} (h : n % 4 = 2) : sx n = .complex .f64 P1 M1 := by show Value.complex .f64 (sz n).1 (sz n).2 = _; unfold sz; rw [if_neg (by omega), if_neg (by omega), if_pos h]
theorem sx3 {n : Int} (h : n % 4 = 3) : sx n = .complex .f64 M1 M1 := by show Value.complex .f64 (sz n).1 (sz n).2 = _; unfold sz; rw [if_neg (by omega), if_neg (by omega), if_neg (by omega)]
def gr (n : Int) : Int := if n % 4 = 2 then 3 else if n % 4 = 3 then 2 else n % 4
theorem gray_any (n : Int) (w : World) : Calls Try.prog 19 #[.int .i64 n] w fun e w' => e = .returned (.int .i64 (gr n)) ∧ w = w' := by
  unfold gr
  have hb := Bw.and3 n
  rcases cases4 n with h | h | h | h <;> rw [h] at hb ⊢ <;>
    (go_enter Try.func19, Try.ntmps19; go_wp2; go_ret; exact ⟨rfl, rfl⟩)
theorem turn_one (n : Int) : turned (tn (gr n % 4).toNat (P1, P1)) = sx n := by
  unfold gr
  rcases cases4 n with h | h | h | h
  · rw [sx0 h, h]; exact congrArg turned (show tn _ _ = (P1, P1) by decide +kernel)
  · rw [sx1 h, h]; exact congrArg turned (show tn _ _ = (M1, P1) by decide +kernel)
  · rw [sx2 h, h]; exact congrArg turned (show tn _ _ = (P1, M1) by decide +kernel)
  · rw [sx3 h, h]; exact congrArg turned (show tn _ _ = (M1, M1) by decide +kernel)
attribute [local irreducible] gr sz
theorem symbol_any (n : Int) (w : World) : Calls Try.prog 14 #[.int .i64 n] w fun e w' => e = .returned (sx n) ∧ w = w' := by
  have H := Lib.hid (turn_one n)
  go_enter Try.func14, Try.ntmps14
  go_wp2_with fail
  refine (gray_any _ _).mono ?_
  rintro e w1 ⟨rfl, rfl⟩
  go_wp2_with fail
  refine (turn_any _ _ _ _).mono ?_
  rintro e w1 ⟨rfl, rfl⟩
  rw [H.out]
  go_wp2_with fail
  go_ret
  exact ⟨rfl, rfl⟩
theorem left_any (n : Int) (w : World) (h0 : 0 ≤ n) (h1 : n ≤ 1000) : Calls Try.prog 15 #[.int .i64 n] w fun e w' => e = .returned (.int .i64 (n % 4)) ∧ w = w' := by
  go_enter Try.func15, Try.ntmps15
  go_wp2
  go_ret
  exact ⟨rfl, rfl⟩
theorem rsymbol_any (n : Int) (w : World) (h0 : 0 ≤ n) (h1 : n ≤ 1000) : Calls Try.prog 11 #[.int .i64 n] w fun e w' => e = .returned (sx n) ∧ w = w' := by
  have HL := Lib.hid (left_any n w h0 h1)
  clear h0 h1
  rcases cases4 n with h | h | h | h
  · rw [sx0 h]
    rw [h] at HL
    go_enter Try.func11, Try.ntmps11
    go_wp2_with fail
    refine HL.out.mono ?_
    rintro e w1 ⟨rfl, rfl⟩
    go_wp2_with fail
    go_ret
    exact ⟨rfl, rfl⟩
  · rw [sx1 h]
    rw [h] at HL
    go_enter Try.func11, Try.ntmps11
    go_wp2_with fail
    refine HL.out.mono ?_
    rintro e w1 ⟨rfl, rfl⟩
    go_wp2_with fail
    go_ret
    exact ⟨rfl, rfl⟩
  · rw [sx2 h]
    rw [h] at HL
    go_enter Try.func11, Try.ntmps11
    go_wp2_with fail
    refine HL.out.mono ?_
    rintro e w1 ⟨rfl, rfl⟩
    go_wp2_with fail
    go_ret
    exact ⟨rfl, rfl⟩
  · rw [sx3 h]
    rw [h] at HL
    go_enter Try.func11, Try.ntmps11
    go_wp2_with fail
    refine HL.out.mono ?_
    rintro e w1 ⟨rfl, rfl⟩
    go_wp2_with fail
    go_ret
    exact ⟨rfl, rfl⟩
theorem symbol_c (n : Int) (w : World) : Calls Try.prog 14 #[.int .i64 n] w fun e w' => e = .returned (.complex .f64 (sz n).1 (sz n).2) ∧ w = w' := symbol_any n w
theorem rsymbol_c (n : Int) (w : World) (h0 : 0 ≤ n) (h1 : n ≤ 1000) : Calls Try.prog 11 #[.int .i64 n] w fun e w' => e = .returned (.complex .f64 (sz n).1 (sz n).2) ∧ w = w' := rsymbol_any n w h0 h1
end To
end Go.Proofs.Ytdmgglcadjhnhaa
