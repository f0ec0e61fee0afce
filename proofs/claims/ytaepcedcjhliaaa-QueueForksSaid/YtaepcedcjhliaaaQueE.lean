/- The law's live. -/
import Derived.Test.YtaepcedcjhliaaaQueD
namespace Go.Proofs.Ytaepcedcjhliaaa
open Go.RowKit
namespace Qp
open Sm FiT
def i7 : It := ⟨7, 0, 0, 0, 0, 0, true⟩
def i8 : It := ⟨8, 0, 0, 0, 0, 0, false⟩
/-- Cells of a row that Post gave. -/
theorem Lst.cells {w : World} {q y c : Nat} {a : Option Addr} {dl : List Cl} (h : Lst w q y a c dl) (h0 : 0 < dl.length) : a = some ⟨y, 0, none⟩ ∧ y < w.heap.size ∧ ∀ i x, dl[i]? = some x → ∀ j v, (clc x)[j]? = some v → w.cell? ⟨y, i * 9 + j, none⟩ = some v := by
  rcases h with ⟨_, _, rfl, _⟩ | ⟨rfl, h⟩
  · simp at h0
  · refine ⟨rfl, (h.lt y rfl).2, fun i x hx j v hv => ?_⟩
    have hj := flat_get dl i x hx j v hv
    have hlt : i * 9 + j < dl.length * 9 := by
      have := (List.getElem?_eq_some_iff.1 hj).1
      rwa [flat_len] at this
    rw [h.cellAt (i * 9 + j) (by omega), hj]
set_option maxRecDepth 100000 in
set_option maxHeartbeats 2000000 in
theorem live_any (w : World) : Calls Try.prog 12 #[] w fun e w' => e = .returned (.bool true) ∧ Keeps [] w w' := by
  go_enter Try.func12, Try.ntmps12
  go_wp2_with fail
  refine (new_q 4 _).mono ?_
  rintro e w1 ⟨q, g, rfl, hq, hk1, hq0, hg0⟩
  have hqe : qlim 4 = 4 := by decide
  rw [hqe] at hq
  go_wp2_with fail
  refine (put_ok i7 w1 hq (by simp)).mono ?_
  rintro e w2 ⟨rfl, r2, y2, a2, c2, hq2, hk2, hr2, hy2⟩
  have hz1 := hk1.size
  have ha : Keeps [] w w2 := hk1.next hk2 (by simp; omega)
  go_wp2_with fail
  refine (put_ok i8 w2 hq2 (by simp)).mono ?_
  rintro e w3 ⟨rfl, r3, y3, a3, c3, hq3, hk3, hr3, hy3⟩
  have hz2 := hk2.size
  have hb : Keeps [] w w3 := ha.next hk3 (by simp; omega)
  have HH : Calls Try.prog 9 #[.pointer (some ⟨q, 0, none⟩)] w3 (fun e w' => e = .returned (.tuple #[.agg #[.int .i64 8, .int .u8 0, .int .u8 0, .int .i64 0, .int .i64 0, .int .i64 0, .bool false], .bool true]) ∧ To q g r3 y3 [i8] [wrong i7] 4 w3 w') := head_q w3 hq3
  go_wp2_with fail
  refine HH.mono ?_
  rintro e w4 ⟨rfl, r4, y4, a4, c4, hq4, hk4, hr4, hy4⟩
  clear HH
  have hz3 := hk3.size
  have hc : Keeps [] w w4 := hb.next hk4 (by simp; omega)
  have hz4 := hk4.size
  have hl1 := hq.lt
  have hl4 := hq4.lt
  have hk5 : Keeps [] w4 (w4.alloc (.cells #[.int .i64 8, .int .u8 0, .int .u8 0, .int .i64 0, .int .i64 0, .int .i64 0, .bool false] 30)) := (Keeps.refl _ _).alloc _
  have HF := Lib.hid (finish_q 1 3 _ (hq4.kp hk5))
  have hb8 := Blk.new w4 30 #[.int .i64 8, .int .u8 0, .int .u8 0, .int .i64 0, .int .i64 0, .int .i64 0, .bool false]
  go_wp2_with fail
  refine HF.out.mono ?_
  clear HF
  rintro e w5 hfin
  rcases hfin with ⟨h9, _⟩ | ⟨x, t, h9, rfl, r5, y5, a5, c5, hq5, hk5', hr5, hy5⟩
  · cases h9
  have hx : x = i8 ∧ t = [] := by
    have h99 : [i8] = x :: t := h9
    injection h99 with e1 e2
    exact ⟨e1.symm, e2.symm⟩
  obtain ⟨rfl, rfl⟩ := hx
  have hb5 := hb8.keeps hk5' (by simp; omega)
  have hz5 := hk5'.size
  simp at hz5 hr5 hy5
  have hd : Keeps [] w w5 := (hc.trans hk5).next hk5' (by simp; omega)
  clear h9
  go_wp2_with fail
  have HPO : Calls Try.prog 11 #[.pointer (some ⟨q, 0, none⟩)] w5 (fun e w' => ∃ (a : Option Addr) (c yy : Nat), e = .returned (.slice a 2 c) ∧ Lst w' q yy a c [wrong i7, ⟨i8, 1, 3⟩] ∧ Keeps [q, g, r5, y5] w5 w') := (post_q w5 hq5).mono (fun e w' ⟨a, c, yy, h1, h2, _, _, r', _, h4, _⟩ => ⟨a, c, yy, h1, h2, h4⟩)
  refine HPO.mono ?_
  clear HPO
  rintro e w6 ⟨a6, c6, yy, rfl, hl6, hk6⟩
  have HK : Hid (Keeps [] w w6) := Lib.hid (hd.next hk6 (by simp; omega))
  have hb6 := hb5.keeps hk6 (by simp; omega)
  clear ha hb hc hd
  obtain ⟨rfl, hlt6, hcs⟩ := hl6.cells (by decide)
  have p0 : w6.cell? ⟨w4.heap.size, 0, none⟩ = some (.int .i64 8) := hb6.cell 0
  have d7 : w6.cell? ⟨yy, 7, none⟩ = some (.int .i64 2) := hcs 0 _ rfl 7 _ rfl
  have e0 : w6.cell? ⟨yy, 9, none⟩ = some (.int .i64 8) := hcs 1 _ rfl 0 _ rfl
  have e1 : w6.cell? ⟨yy, 10, none⟩ = some (.int .u8 0) := hcs 1 _ rfl 1 _ rfl
  have e2 : w6.cell? ⟨yy, 11, none⟩ = some (.int .u8 0) := hcs 1 _ rfl 2 _ rfl
  have e3 : w6.cell? ⟨yy, 12, none⟩ = some (.int .i64 0) := hcs 1 _ rfl 3 _ rfl
  have e4 : w6.cell? ⟨yy, 13, none⟩ = some (.int .i64 0) := hcs 1 _ rfl 4 _ rfl
  have e5 : w6.cell? ⟨yy, 14, none⟩ = some (.int .i64 0) := hcs 1 _ rfl 5 _ rfl
  have e6 : w6.cell? ⟨yy, 15, none⟩ = some (.bool false) := hcs 1 _ rfl 6 _ rfl
  have e7 : w6.cell? ⟨yy, 16, none⟩ = some (.int .i64 1) := hcs 1 _ rfl 7 _ rfl
  have e8 : w6.cell? ⟨yy, 17, none⟩ = some (.int .i64 3) := hcs 1 _ rfl 8 _ rfl
  clear hk1 hk2 hk3 hk4 hk5 hk5' hk6 hq hq2 hq3 hq4 hq5 hb5 hb6 hb8 hcs hl6
  go_wp2
  go_ret
  exact ⟨rfl, HK.out⟩
end Qp
end Go.Proofs.Ytaepcedcjhliaaa
