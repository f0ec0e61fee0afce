/- Sums of complex numbers with whole parts. -/
import Derived.Test.YtbkljphhgghjdaaBeatA
import Derived.Test.YtbkljphhgghjdaaApp
import Derived.Laws.ComplexArith
namespace Go.Proofs.Ytbkljphhgghjdaa
open Go.RowKit
namespace Be
open Sm Ph Fl
/-- A complex number (its words) and its whole parts. -/
abbrev Cw := (Nat × Nat) × (Int × Int)
def isW (p : Cw) : Prop := Wh p.1.1 p.2.1 ∧ Wh p.1.2 p.2.2 ∧ p.2.1.natAbs ≤ 65536 ∧ p.2.2.natAbs ≤ 65536
def sRe : List Cw → Int
  | [] => 0
  | p :: r => p.2.1 + sRe r
def sIm : List Cw → Int
  | [] => 0
  | p :: r => p.2.2 + sIm r
theorem sRe_snoc (l : List Cw) (p : Cw) : sRe (l ++ [p]) = sRe l + p.2.1 := by
  induction l with
  | nil => simp [sRe]
  | cons a r ih => simp only [List.cons_append, sRe, ih]; omega
theorem sIm_snoc (l : List Cw) (p : Cw) : sIm (l ++ [p]) = sIm l + p.2.2 := by
  induction l with
  | nil => simp [sIm]
  | cons a r ih => simp only [List.cons_append, sIm, ih]; omega
theorem s_bd (l : List Cw) (h : ∀ p ∈ l, isW p) : (sRe l).natAbs ≤ l.length * 65536 ∧ (sIm l).natAbs ≤ l.length * 65536 := by
  induction l with
  | nil => simp [sRe, sIm]
  | cons a r ih =>
    obtain ⟨h1, h2⟩ := ih fun p hp => h p (List.mem_cons_of_mem _ hp)
    obtain ⟨_, _, h3, h4⟩ := h a List.mem_cons_self
    simp only [sRe, sIm, List.length_cons]
    omega
theorem fadd {x y z : Nat} (h : Ieee.double.add x y = some z) : floatBits .add .f64 x y = some z := h
def wIs (x y : Nat) (u v : Int) : Prop := Wh x u ∧ Wh y v
/-- The sum is a number with whole parts. -/
def IsSum (u v : Int) (w : World) (e : Ending) (w' : World) : Prop := ∃ x y, e = .returned (.complex .f64 x y) ∧ wIs x y u v ∧ w = w'
theorem take_get (l : List Cw) (k : Nat) (p : Cw) (h : l[k]? = some p) : l.take (k + 1) = l.take k ++ [p] := by
  rw [List.take_add_one, h]; rfl
set_option maxRecDepth 100000 in
theorem sum_any (a : Option Addr) (n c : Nat) (L : List Cw) (w : World) (hL : ∀ p ∈ L, isW p) (hn : L.length = n) (h5 : n ≤ 600)
    (hc : ∀ k p, L[k]? = some p → ∃ g, a = some ⟨g, 0, none⟩ ∧ w.cell? ⟨g, k, none⟩ = some (.complex .f64 p.1.1 p.1.2)) :
    Calls Try.prog 22 #[.slice a n c] w (IsSum (sRe L) (sIm L) w) := by
  have HN := Lib.hid hn
  have HL := Lib.hid hL
  have HC := Lib.hid hc
  clear hn hL hc
  have h0 : wIs 0 0 (sRe (L.take 0)) (sIm (L.take 0)) := ⟨wh_p0, wh_p0⟩
  go_enter Try.func22, Try.ntmps22
  go_wp2
  go_loop [3, 4, 9] (fun re im i => ∃ k x y : Nat, k ≤ n ∧ i = .int .i64 k ∧ re = .float .f64 x ∧ im = .float .f64 y ∧ wIs x y (sRe (L.take k)) (sIm (L.take k))) (fun _ _ i => n - (intOf i).toNat)
  case atStart => exact ⟨0, 0, 0, by omega, rfl, rfl, rfl, h0⟩
  case round =>
    clear h0
    obtain ⟨k, x, y, hk, rfl, rfl, rfl, hw⟩ := hrel
    by_cases hlt : k < n
    · obtain ⟨p, hp⟩ : ∃ p, L[k]? = some p := ⟨_, List.getElem?_eq_getElem (by rw [HN.out]; exact hlt)⟩
      obtain ⟨g, rfl, hcell⟩ := HC.out k p hp
      have hpw := HL.out p (List.mem_of_getElem? hp)
      have hs1 := sRe_snoc (L.take k) p
      have hs2 := sIm_snoc (L.take k) p
      rw [← take_get L k p hp] at hs1 hs2
      have hb := s_bd (L.take k) fun q hq => HL.out q (List.mem_of_mem_take hq)
      have hlen : (L.take k).length ≤ 600 := by have := HN.out; simp; omega
      have hb1 : (sRe (L.take k)).natAbs ≤ 600 * 65536 := Nat.le_trans hb.1 (Nat.mul_le_mul_right _ hlen)
      have hb2 : (sIm (L.take k)).natAbs ≤ 600 * 65536 := Nat.le_trans hb.2 (Nat.mul_le_mul_right _ hlen)
      obtain ⟨q1, q2, q3, q4⟩ := hpw
      obtain ⟨x', e1, g1⟩ := wh_add hw.1 q1 (by omega) (by omega) (by omega)
      obtain ⟨y', e2, g2⟩ := wh_add hw.2 q2 (by omega) (by omega) (by omega)
      rw [← hs1] at g1
      rw [← hs2] at g2
      have HW : Hid (wIs x' y' (sRe (L.take (k + 1))) (sIm (L.take (k + 1)))) := Lib.hid ⟨g1, g2⟩
      have r1 := fun (t : TypeId) (w : World) => run_float_arith (P := Try.prog) w .add t .f64 _ _ _ (fadd e1)
      have r2 := fun (t : TypeId) (w : World) => run_float_arith (P := Try.prog) w .add t .f64 _ _ _ (fadd e2)
      clear hw q1 q2 q3 q4 e1 e2 g1 g2 hs1 hs2 hb hb1 hb2 hlen hp
      go_wp2
      go_round
      case rel => exact ⟨k + 1, x', y', by omega, by go_num, rfl, rfl, HW.out⟩
      case measure => simp [intOf]; omega
    · obtain rfl : k = n := by omega
      have HW := Lib.hid hw
      clear hw
      go_wp2
      go_ret
      refine ⟨x, y, rfl, ?_, rfl⟩
      have := HW.out
      rwa [List.take_of_length_le (by have := HN.out; omega)] at this
end Be
end Go.Proofs.Ytbkljphhgghjdaa
