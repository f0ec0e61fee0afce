/- What must be whatever is asked (live); the law PhaseWhole: its walk. -/
import Derived.Test.YtdnnaoaejgpedaaPhaseE
namespace Go.Proofs.Ytdnnaoaejgpedaa
open Go.RowKit
namespace Ph
open Sm Fl
theorem live_any (w : World) : Calls Try.prog 4 #[] w fun e w' => e = .returned (.bool true) ∧ Keeps [] w w' := by
  go_enter Try.func4, Try.ntmps4
  go_wp2_with fail
  refine (turn_one _).mono ?_
  rintro e w1 ⟨rfl, rfl⟩
  go_wp2_with fail
  refine (near_live _ _ (Blk.new _ _ _)).mono ?_
  rintro e w2 ⟨rfl, rfl⟩
  go_wp2_with fail
  refine (norm_live _).mono ?_
  rintro e w1 ⟨rfl, rfl⟩
  go_wp2_with fail
  go_ret
  exact ⟨rfl, (Keeps.refl _ _).alloc _⟩
theorem mul_bd (p r : Int) (B C : Nat) (hp : p.natAbs ≤ B) (hr : r.natAbs ≤ C) : (p * r).natAbs ≤ B * C := by
  rw [Int.natAbs_mul]; exact Nat.mul_le_mul hp hr
set_option maxRecDepth 100000 in
theorem out_law (p q r s : Int) (w : World) (h : p < -1024 ∨ (¬ p < -1024 ∧ 1024 < p) ∨ (¬ p < -1024 ∧ ¬ 1024 < p ∧ q < -1024) ∨ (¬ p < -1024 ∧ ¬ 1024 < p ∧ ¬ q < -1024 ∧ 1024 < q) ∨ (¬ p < -1024 ∧ ¬ 1024 < p ∧ ¬ q < -1024 ∧ ¬ 1024 < q ∧ r < -1024) ∨ (¬ p < -1024 ∧ ¬ 1024 < p ∧ ¬ q < -1024 ∧ ¬ 1024 < q ∧ ¬ r < -1024 ∧ 1024 < r) ∨ (¬ p < -1024 ∧ ¬ 1024 < p ∧ ¬ q < -1024 ∧ ¬ 1024 < q ∧ ¬ r < -1024 ∧ ¬ 1024 < r ∧ s < -1024) ∨ (¬ p < -1024 ∧ ¬ 1024 < p ∧ ¬ q < -1024 ∧ ¬ 1024 < q ∧ ¬ r < -1024 ∧ ¬ 1024 < r ∧ ¬ s < -1024 ∧ 1024 < s)) :
    Calls Try.prog 3 #[.int .i64 p, .int .i64 q, .int .i64 r, .int .i64 s] w fun e w' => e = .returned (.bool true) ∧ Keeps [] w w' := by
  rcases h with h | ⟨h1, h2⟩ | ⟨h1, h2, h3⟩ | ⟨h1, h2, h3, h4⟩ | ⟨h1, h2, h3, h4, h5⟩ | ⟨h1, h2, h3, h4, h5, h6⟩ | ⟨h1, h2, h3, h4, h5, h6, h7⟩ | ⟨h1, h2, h3, h4, h5, h6, h7, h8⟩
  all_goals
    go_enter Try.func3, Try.ntmps3
    go_wp2_with fail
    refine (live_any _).mono ?_
    rintro e w1 ⟨rfl, k1⟩
    go_wp2_with fail
    go_ret
    exact ⟨rfl, k1⟩
theorem eq_of {x y : Nat} {v : Int} (h1 : Wh x v) (h2 : Wh y v) (hv : v.natAbs < 2 ^ 53) : (FloatKind.f64.format.order x y == some .eq) = true := by
  have : FloatKind.f64.format.order x y = some (compare v v) := wh_order h1 h2 hv hv
  rw [this, show compare v v = .eq from Int.compare_eq_eq.2 rfl]
  rfl
theorem run_convn (n : Int) (w : World) : (convert 3 24 (.int .i64 n)).run Try.prog w = .ok (.float .f64 (FloatKind.f64.nearest n)) w :=
  run_convert_int_float (P := Try.prog) w 3 24 .i64 .f64 n (by kernel_rfl) (by kernel_rfl)
attribute [local irreducible] FloatKind.nearest
theorem fmul {x y z : Nat} (h : Ieee.double.mul x y = some z) : floatBits .mul .f64 x y = some z := h
theorem fadd {x y z : Nat} (h : Ieee.double.add x y = some z) : floatBits .add .f64 x y = some z := h
theorem fsub {x y z : Nat} (h : Ieee.double.sub x y = some z) : floatBits .sub .f64 x y = some z := h
theorem norm_id (p q r s : Int) : (p * r - q * s) * (p * r - q * s) + (p * s + q * r) * (p * s + q * r) = (p * p + q * q) * (r * r + s * s) := by grind
theorem sum_bd (a b : Int) (B C : Nat) (ha : a.natAbs ≤ B) (hb : b.natAbs ≤ C) : (a + b).natAbs ≤ B + C ∧ (a - b).natAbs ≤ B + C := by omega
theorem int_bd {a : Int} {B : Nat} (h : a.natAbs ≤ B) : -(B : Int) ≤ a ∧ a ≤ (B : Int) := by omega
theorem lt53 {n B : Nat} (h : n ≤ B) (hB : B < 2 ^ 53) : n < 2 ^ 53 := Nat.lt_of_le_of_lt h hB
/-- The product of two numbers with whole parts. -/
theorem times_whole (a b c d : Int) (ha : a.natAbs ≤ 1024) (hb : b.natAbs ≤ 1024) (hc : c.natAbs ≤ 1024) (hd : d.natAbs ≤ 1024) :
    ∃ x y, (∀ w, Calls Try.prog 5 #[.complex .f64 (FloatKind.f64.nearest a) (FloatKind.f64.nearest b), .complex .f64 (FloatKind.f64.nearest c) (FloatKind.f64.nearest d)] w fun e w' => e = .returned (.complex .f64 x y) ∧ w' = w) ∧
      Wh x (a * c - b * d) ∧ Wh y (a * d + b * c) := by
  have m1 := mul_bd a c 1024 1024 ha hc
  have m2 := mul_bd b d 1024 1024 hb hd
  have m3 := mul_bd a d 1024 1024 ha hd
  have m4 := mul_bd b c 1024 1024 hb hc
  have k1 := (sum_bd _ _ _ _ m1 m2).2
  have k2 := (sum_bd _ _ _ _ m3 m4).1
  obtain ⟨ac, e1, g1⟩ := wh_mul (wh_near a) (wh_near c) (lt53 ha (by decide)) (lt53 hc (by decide)) (lt53 m1 (by decide))
  obtain ⟨bd, e2, g2⟩ := wh_mul (wh_near b) (wh_near d) (lt53 hb (by decide)) (lt53 hd (by decide)) (lt53 m2 (by decide))
  obtain ⟨ad, e3, g3⟩ := wh_mul (wh_near a) (wh_near d) (lt53 ha (by decide)) (lt53 hd (by decide)) (lt53 m3 (by decide))
  obtain ⟨bc, e4, g4⟩ := wh_mul (wh_near b) (wh_near c) (lt53 hb (by decide)) (lt53 hc (by decide)) (lt53 m4 (by decide))
  obtain ⟨x, e5, g5⟩ := wh_sub g1 g2 (lt53 m1 (by decide)) (lt53 m2 (by decide)) (lt53 k1 (by decide))
  obtain ⟨y, e6, g6⟩ := wh_add g3 g4 (lt53 m3 (by decide)) (lt53 m4 (by decide)) (lt53 k2 (by decide))
  exact ⟨x, y, fun w => times_of _ _ _ _ _ _ _ _ x y w (fmul e1) (fmul e2) (fmul e3) (fmul e4) (fsub e5) (fadd e6), g5, g6⟩
theorem norm_whole (x y : Nat) (a b : Int) (h1 : Wh x a) (h2 : Wh y b) (ha : a.natAbs ≤ 2097152) (hb : b.natAbs ≤ 2097152) :
    ∃ z, (∀ w, Calls Try.prog 6 #[.complex .f64 x y] w fun e w' => e = .returned (.float .f64 z) ∧ w' = w) ∧ Wh z (a * a + b * b) := by
  have m1 := mul_bd a a 2097152 2097152 ha ha
  have m2 := mul_bd b b 2097152 2097152 hb hb
  have k2 := (sum_bd _ _ _ _ m1 m2).1
  obtain ⟨aa, e1, g1⟩ := wh_mul h1 h1 (lt53 ha (by decide)) (lt53 ha (by decide)) (lt53 m1 (by decide))
  obtain ⟨bb, e2, g2⟩ := wh_mul h2 h2 (lt53 hb (by decide)) (lt53 hb (by decide)) (lt53 m2 (by decide))
  obtain ⟨z, e3, g3⟩ := wh_add g1 g2 (lt53 m1 (by decide)) (lt53 m2 (by decide)) (lt53 k2 (by decide))
  exact ⟨z, fun w => norm_of _ _ _ _ z w (fmul e1) (fmul e2) (fadd e3), g3⟩
set_option maxRecDepth 100000 in
theorem in_law (p q r s : Int) (w : World) (p1 : -1024 ≤ p) (p2 : p ≤ 1024) (q1 : -1024 ≤ q) (q2 : q ≤ 1024) (r1 : -1024 ≤ r) (r2 : r ≤ 1024) (s1 : -1024 ≤ s) (s2 : s ≤ 1024) :
    Calls Try.prog 3 #[.int .i64 p, .int .i64 q, .int .i64 r, .int .i64 s] w fun e w' => e = .returned (.bool true) ∧ Keeps [] w w' := by
  have hp : p.natAbs ≤ 1024 := by omega
  have hq : q.natAbs ≤ 1024 := by omega
  have hr : r.natAbs ≤ 1024 := by omega
  have hs : s.natAbs ≤ 1024 := by omega
  have bx := (sum_bd _ _ _ _ (mul_bd p r 1024 1024 hp hr) (mul_bd q s 1024 1024 hq hs)).2
  have by_ := (sum_bd _ _ _ _ (mul_bd p s 1024 1024 hp hs) (mul_bd q r 1024 1024 hq hr)).1
  have bn1 := (sum_bd _ _ _ _ (mul_bd p p 1024 1024 hp hp) (mul_bd q q 1024 1024 hq hq)).1
  have bn2 := (sum_bd _ _ _ _ (mul_bd r r 1024 1024 hr hr) (mul_bd s s 1024 1024 hs hs)).1
  have bn := mul_bd _ _ _ _ bn1 bn2
  obtain ⟨j0a, j0b⟩ := int_bd (mul_bd p r 1024 1024 hp hr)
  obtain ⟨j1a, j1b⟩ := int_bd (mul_bd q s 1024 1024 hq hs)
  obtain ⟨j2a, j2b⟩ := int_bd (mul_bd p s 1024 1024 hp hs)
  obtain ⟨j3a, j3b⟩ := int_bd (mul_bd q r 1024 1024 hq hr)
  obtain ⟨j4a, j4b⟩ := int_bd (mul_bd p p 1024 1024 hp hp)
  obtain ⟨j5a, j5b⟩ := int_bd (mul_bd q q 1024 1024 hq hq)
  obtain ⟨j6a, j6b⟩ := int_bd (mul_bd r r 1024 1024 hr hr)
  obtain ⟨j7a, j7b⟩ := int_bd (mul_bd s s 1024 1024 hs hs)
  obtain ⟨j9a, j9b⟩ := int_bd bn
  obtain ⟨x, y, HT1, g5, g6⟩ := times_whole p q r s hp hq hr hs
  obtain ⟨x', y', HT2, f5, f6⟩ := times_whole r s p q hr hs hp hq
  rw [Int.mul_comm r p, Int.mul_comm s q] at f5
  rw [Int.add_comm, Int.mul_comm r q, Int.mul_comm s p] at f6
  obtain ⟨z, HN, d3⟩ := norm_whole x y _ _ g5 g6 bx by_
  rw [norm_id] at d3
  have HW := Lib.hid (fun w => both_of x y _ _ g5 g6 bx by_ w)
  have HA := Lib.hid HT1
  have HB := Lib.hid HT2
  have HC := Lib.hid HN
  have o1 := eq_of g5 (wh_near (p * r - q * s)) (lt53 bx (by decide))
  have o2 := eq_of g6 (wh_near (p * s + q * r)) (lt53 by_ (by decide))
  have o3 := eq_of d3 (wh_near ((p * p + q * q) * (r * r + s * s))) (lt53 bn (by decide))
  have o4 := eq_of f5 g5 (lt53 bx (by decide))
  have o5 := eq_of f6 g6 (lt53 by_ (by decide))
  clear HT1 HT2 HN g5 g6 f5 f6 d3 bx by_ bn bn1 bn2 hp hq hr hs
  have hcv := run_convn
  go_enter Try.func3, Try.ntmps3
  go_wp2_with fail
  refine (HA.out _).mono ?_
  rintro e w1 ⟨rfl, rfl⟩
  go_wp2_with fail
  refine (live_any _).mono ?_
  rintro e w1 ⟨rfl, k1⟩
  go_wp2_with fail
  refine (HC.out _).mono ?_
  rintro e w2 ⟨rfl, rfl⟩
  go_wp2_with fail
  refine (HB.out _).mono ?_
  rintro e w2 ⟨rfl, rfl⟩
  go_wp2_with fail
  refine (HW.out _).mono ?_
  rintro e w2 ⟨rfl, rfl⟩
  go_wp2_with fail
  go_ret
  exact ⟨rfl, k1⟩
theorem law (p q r s : Int) (w : World) (_ : (Lit.int .i64 p).wf = true) (_ : (Lit.int .i64 q).wf = true) (_ : (Lit.int .i64 r).wf = true) (_ : (Lit.int .i64 s).wf = true) :
    Calls Try.prog 3 #[.int .i64 p, .int .i64 q, .int .i64 r, .int .i64 s] w fun e w' => e = .returned (.bool true) ∧ Below w.heap.size w w' := by
  by_cases h : -1024 ≤ p ∧ p ≤ 1024 ∧ -1024 ≤ q ∧ q ≤ 1024 ∧ -1024 ≤ r ∧ r ≤ 1024 ∧ -1024 ≤ s ∧ s ≤ 1024
  · obtain ⟨h1, h2, h3, h4, h5, h6, h7, h8⟩ := h
    exact (in_law p q r s w h1 h2 h3 h4 h5 h6 h7 h8).mono fun _ _ ⟨he, hk⟩ => ⟨he, hk.all⟩
  · exact (out_law p q r s w (by omega)).mono fun _ _ ⟨he, hk⟩ => ⟨he, hk.all⟩
end Ph
end Go.Proofs.Ytdnnaoaejgpedaa
