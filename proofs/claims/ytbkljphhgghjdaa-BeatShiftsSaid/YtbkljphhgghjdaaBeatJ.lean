/- Whole numbers turned, and multiplied. -/
import Derived.Test.YtbkljphhgghjdaaBeatH
import Derived.Test.YtbkljphhgghjdaaFlo2
import Derived.Test.YtbkljphhgghjdaaPhaseA
namespace Go.Proofs.Ytbkljphhgghjdaa
open Go.RowKit
namespace Be
open Sm Ph Fl
def tz (n : Nat) (p : Int × Int) : Int × Int := if n = 0 then p else if n = 1 then (-p.2, p.1) else if n = 2 then (-p.1, -p.2) else (p.2, -p.1)
theorem tn_0 (z : Nat × Nat) : tn 0 z = z := rfl
theorem tn_1 (z : Nat × Nat) : tn 1 z = (ng z.2, z.1) := rfl
theorem tn_2 (z : Nat × Nat) : tn 2 z = (ng z.1, ng z.2) := rfl
theorem tn_3 (z : Nat × Nat) : tn 3 z = (ng (ng z.2), ng z.1) := rfl
theorem wh_tn (n : Nat) (hn : n < 4) (x y : Nat) (u v : Int) (h : wIs x y u v) (hu : u.natAbs ≤ 65536) (hv : v.natAbs ≤ 65536) :
    isW (tn n (x, y), tz n (u, v)) := by
  have h4 : n = 0 ∨ n = 1 ∨ n = 2 ∨ n = 3 := by omega
  rcases h4 with rfl | rfl | rfl | rfl
  · exact ⟨h.1, h.2, hu, hv⟩
  · rw [tn_1]
    exact ⟨wh_neg h.2 (by omega), h.1, by show (-v).natAbs ≤ _; omega, hu⟩
  · rw [tn_2]
    exact ⟨wh_neg h.1 (by omega), wh_neg h.2 (by omega), by show (-u).natAbs ≤ _; omega, by show (-v).natAbs ≤ _; omega⟩
  · rw [tn_3]
    have := wh_neg (wh_neg h.2 (by omega)) (by omega)
    rw [Int.neg_neg] at this
    exact ⟨this, wh_neg h.1 (by omega), hv, by show (-u).natAbs ≤ _; omega⟩
theorem fmul {x y z : Nat} (h : Ieee.double.mul x y = some z) : floatBits .mul .f64 x y = some z := h
theorem fsub {x y z : Nat} (h : Ieee.double.sub x y = some z) : floatBits .sub .f64 x y = some z := h
theorem mul_bd (p r : Int) (B C : Nat) (hp : p.natAbs ≤ B) (hr : r.natAbs ≤ C) : (p * r).natAbs ≤ B * C := by
  rw [Int.natAbs_mul]; exact Nat.mul_le_mul hp hr
theorem sum_bd (a b : Int) (B C : Nat) (ha : a.natAbs ≤ B) (hb : b.natAbs ≤ C) : (a + b).natAbs ≤ B + C ∧ (a - b).natAbs ≤ B + C := by omega
theorem lt53 {n B : Nat} (h : n ≤ B) (hB : B < 2 ^ 53) : n < 2 ^ 53 := Nat.lt_of_le_of_lt h hB
/-- The product of two numbers with whole parts. -/
theorem times_whole (p q r s : Nat) (a b c d : Int) (h1 : wIs p q a b) (h2 : wIs r s c d) (ha : a.natAbs ≤ 65536) (hb : b.natAbs ≤ 65536) (hc : c.natAbs ≤ 65536) (hd : d.natAbs ≤ 65536) :
    ∃ x y, (∀ w, Calls Try.prog 26 #[.complex .f64 p q, .complex .f64 r s] w fun e w' => e = .returned (.complex .f64 x y) ∧ w' = w) ∧
      wIs x y (a * c - b * d) (a * d + b * c) := by
  have m1 := mul_bd a c _ _ ha hc
  have m2 := mul_bd b d _ _ hb hd
  have m3 := mul_bd a d _ _ ha hd
  have m4 := mul_bd b c _ _ hb hc
  have k1 := (sum_bd _ _ _ _ m1 m2).2
  have k2 := (sum_bd _ _ _ _ m3 m4).1
  obtain ⟨ac, e1, g1⟩ := wh_mul h1.1 h2.1 (lt53 ha (by decide)) (lt53 hc (by decide)) (lt53 m1 (by decide))
  obtain ⟨bd, e2, g2⟩ := wh_mul h1.2 h2.2 (lt53 hb (by decide)) (lt53 hd (by decide)) (lt53 m2 (by decide))
  obtain ⟨ad, e3, g3⟩ := wh_mul h1.1 h2.2 (lt53 ha (by decide)) (lt53 hd (by decide)) (lt53 m3 (by decide))
  obtain ⟨bc, e4, g4⟩ := wh_mul h1.2 h2.1 (lt53 hb (by decide)) (lt53 hc (by decide)) (lt53 m4 (by decide))
  obtain ⟨x, e5, g5⟩ := wh_sub g1 g2 (lt53 m1 (by decide)) (lt53 m2 (by decide)) (lt53 k1 (by decide))
  obtain ⟨y, e6, g6⟩ := wh_add g3 g4 (lt53 m3 (by decide)) (lt53 m4 (by decide)) (lt53 k2 (by decide))
  exact ⟨x, y, fun w => times_of _ _ _ _ _ _ _ _ x y w (fmul e1) (fmul e2) (fmul e3) (fmul e4) (fsub e5) (fadd e6), g5, g6⟩
theorem idx4_0 (f : Nat → Nat × Nat) (w : World) : (Instr.index 30 (.agg #[.complex .f64 (f 0).1 (f 0).2, .complex .f64 (f 1).1 (f 1).2, .complex .f64 (f 2).1 (f 2).2, .complex .f64 (f 3).1 (f 3).2]) (.int .i64 0)).run Try.prog w = .ok (.complex .f64 (f 0).1 (f 0).2) w := by kernel_rfl
theorem idx4_1 (f : Nat → Nat × Nat) (w : World) : (Instr.index 30 (.agg #[.complex .f64 (f 0).1 (f 0).2, .complex .f64 (f 1).1 (f 1).2, .complex .f64 (f 2).1 (f 2).2, .complex .f64 (f 3).1 (f 3).2]) (.int .i64 1)).run Try.prog w = .ok (.complex .f64 (f 1).1 (f 1).2) w := by kernel_rfl
theorem idx4_2 (f : Nat → Nat × Nat) (w : World) : (Instr.index 30 (.agg #[.complex .f64 (f 0).1 (f 0).2, .complex .f64 (f 1).1 (f 1).2, .complex .f64 (f 2).1 (f 2).2, .complex .f64 (f 3).1 (f 3).2]) (.int .i64 2)).run Try.prog w = .ok (.complex .f64 (f 2).1 (f 2).2) w := by kernel_rfl
theorem idx4_3 (f : Nat → Nat × Nat) (w : World) : (Instr.index 30 (.agg #[.complex .f64 (f 0).1 (f 0).2, .complex .f64 (f 1).1 (f 1).2, .complex .f64 (f 2).1 (f 2).2, .complex .f64 (f 3).1 (f 3).2]) (.int .i64 3)).run Try.prog w = .ok (.complex .f64 (f 3).1 (f 3).2) w := by kernel_rfl
theorem idx4 (f : Nat → Nat × Nat) (k : Nat) (hk : k < 4) (w : World) : (Instr.index 30 (.agg #[.complex .f64 (f 0).1 (f 0).2, .complex .f64 (f 1).1 (f 1).2, .complex .f64 (f 2).1 (f 2).2, .complex .f64 (f 3).1 (f 3).2]) (.int .i64 (k : Int))).run Try.prog w = .ok (.complex .f64 (f k).1 (f k).2) w := by
  have h4 : k = 0 ∨ k = 1 ∨ k = 2 ∨ k = 3 := by omega
  rcases h4 with rfl | rfl | rfl | rfl
  · exact idx4_0 f w
  · exact idx4_1 f w
  · exact idx4_2 f w
  · exact idx4_3 f w
theorem idx4i_0 (f : Nat → Int) (w : World) : (Instr.index 23 (.agg #[.int .i64 (f 0), .int .i64 (f 1), .int .i64 (f 2), .int .i64 (f 3)]) (.int .i64 0)).run Try.prog w = .ok (.int .i64 (f 0)) w := by kernel_rfl
theorem idx4i_1 (f : Nat → Int) (w : World) : (Instr.index 23 (.agg #[.int .i64 (f 0), .int .i64 (f 1), .int .i64 (f 2), .int .i64 (f 3)]) (.int .i64 1)).run Try.prog w = .ok (.int .i64 (f 1)) w := by kernel_rfl
theorem idx4i_2 (f : Nat → Int) (w : World) : (Instr.index 23 (.agg #[.int .i64 (f 0), .int .i64 (f 1), .int .i64 (f 2), .int .i64 (f 3)]) (.int .i64 2)).run Try.prog w = .ok (.int .i64 (f 2)) w := by kernel_rfl
theorem idx4i_3 (f : Nat → Int) (w : World) : (Instr.index 23 (.agg #[.int .i64 (f 0), .int .i64 (f 1), .int .i64 (f 2), .int .i64 (f 3)]) (.int .i64 3)).run Try.prog w = .ok (.int .i64 (f 3)) w := by kernel_rfl
theorem idx4i (f : Nat → Int) (k : Nat) (hk : k < 4) (w : World) : (Instr.index 23 (.agg #[.int .i64 (f 0), .int .i64 (f 1), .int .i64 (f 2), .int .i64 (f 3)]) (.int .i64 (k : Int))).run Try.prog w = .ok (.int .i64 (f k)) w := by
  have h4 : k = 0 ∨ k = 1 ∨ k = 2 ∨ k = 3 := by omega
  rcases h4 with rfl | rfl | rfl | rfl
  · exact idx4i_0 f w
  · exact idx4i_1 f w
  · exact idx4i_2 f w
  · exact idx4i_3 f w
end Be
end Go.Proofs.Ytbkljphhgghjdaa
