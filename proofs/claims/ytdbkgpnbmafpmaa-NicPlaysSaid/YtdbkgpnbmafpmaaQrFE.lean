/- Queues of campanile/frame.Frame: one thing more. -/
import Derived.Test.YtdbkgpnbmafpmaaQrFD
namespace Go.Proofs.Ytdbkgpnbmafpmaa
open Go.RowKit
namespace FiF
open Sm
theorem Qm.qu {w : World} {g r : Nat} {l : List It} {lim dr : Int} (h : Qm w g r l lim dr) : Qu w g r l lim dr := by
  obtain ⟨A, len, c, f, R, h1, h2, h3, h4, h5, h6, h7, _⟩ := h
  exact ⟨A, len, c, f, R, h1, h2, h3, h4, h5, h6, h7⟩
theorem grow_any (g r : Nat) (l : List It) (lim dr : Int) (w : World) (h : Qu w g r l lim dr) (hlt : (l.length : Int) < lim) :
    Calls Try.prog 45 #[.pointer (some ⟨g, 0, none⟩)] w (IsGrow g r l lim dr w) := by
  obtain ⟨A, len, c, f, R, h1, h2, h3, h4, h5, h6, h7⟩ := h
  by_cases hn : l.length < len
  · refine (grow_not g r A len c f _ lim dr R w h1 hn).mono ?_
    rintro e w' ⟨rfl, hd⟩
    exact ⟨rfl, r, ⟨A, len, c, f, R, h1.keeps ((Keeps.refl [] w).drawn hd) (by simp) (by simp), h2, h3, h4, h5, h6, h7, hn⟩, (Keeps.refl _ _).drawn hd, .inl rfl⟩
  · have hn' : l.length = len := by have := h1.hn; omega
    have hlen := h1.hlen
    obtain ⟨m, hm⟩ : ∃ m : Nat, (if lim < (if 2 * (l.length : Int) < 4 then 4 else 2 * (l.length : Int)) then lim else (if 2 * (l.length : Int) < 4 then 4 else 2 * (l.length : Int))) = (m : Int) := ⟨((if lim < (if 2 * (l.length : Int) < 4 then 4 else 2 * (l.length : Int)) then lim else (if 2 * (l.length : Int) < 4 then 4 else 2 * (l.length : Int)))).toNat, by split <;> split <;> omega⟩
    have hm1 : l.length < m ∧ m ≤ 65536 := by
      constructor
      · have : (l.length : Int) < (m : Int) := by rw [← hm]; split <;> split <;> omega
        omega
      · have : (m : Int) ≤ 65536 := by rw [← hm]; split <;> split <;> omega
        omega
    refine (grow_yes g r A len c f _ m lim dr R w h1 hn' h4 hm1.1 hm1.2 hm).mono ?_
    rintro e w' ⟨rfl, hq, hk⟩
    refine ⟨rfl, w.heap.size, ⟨_, m, m, 0, _, hq, fun i hi => ?_, h3, h4, h5, h6, h7, hm1.1⟩, hk.more (by simp), .inr (Nat.le_refl _)⟩
    rw [Nat.zero_add, Nat.mod_eq_of_lt (by omega), fill_at _ _ _ _ _ hi]
    exact h2 i hi
theorem place_inj (f i n len : Nat) (hi : i < n) (hn : n < len) : (f + i) % len ≠ (f + n) % len := by
  intro e
  have h1 := Nat.mod_add_div (f + i) len
  have h2 := Nat.mod_add_div (f + n) len
  rw [e] at h1
  have h3 : len * ((f + n) / len) - len * ((f + i) / len) = n - i := by omega
  rw [← Nat.mul_sub] at h3
  rcases Nat.eq_zero_or_pos ((f + n) / len - (f + i) / len) with h4 | h4
  · rw [h4] at h3; omega
  · have := Nat.le_mul_of_pos_right len h4; omega
attribute [local irreducible] cs
def IsPush (g r : Nat) (l : List It) (lim dr : Int) (w : World) (e : Ending) (w' : World) : Prop :=
  e = .returned (.bool true) ∧ ∃ r', Qu w' g r' l lim dr ∧ Keeps [g, r] w w' ∧ (r' = r ∨ w.heap.size ≤ r')
theorem push_nil (x : It) (w : World) : Calls Try.prog 28 #[.pointer none, val x] w (IsV (.bool false) w) := by
  go_enter Try.func28, Try.ntmps28
  go_wp2
  go_ret
  exact ⟨rfl, (Keeps.refl _ _).alloc _⟩
theorem push_full (g r : Nat) (l : List It) (lim dr : Int) (x : It) (w : World) (h : Qu w g r l lim dr) (hf : lim ≤ (l.length : Int)) (hd : dr < 100000) :
    Calls Try.prog 28 #[.pointer (some ⟨g, 0, none⟩), val x] w fun e w' => e = .returned (.bool false) ∧ Qu w' g r l lim (dr + 1) ∧ Keeps [g, r] w w' := by
  have hk0 : Keeps [] w (w.alloc (.cells (cs x).toArray 39)) := (Keeps.refl _ _).alloc _
  obtain ⟨A, len, c, f, R, h1, h2, h3, h4, h5, h6, h7⟩ := h.kp hk0
  obtain ⟨d0, d1, d2, d3, d4, df⟩ := h1.cells
  have hgl := h.lt.1
  obtain ⟨A', len', c', f', R', h1', _⟩ := h
  obtain ⟨_, _, c2, c3, c4, cf⟩ := h1'.cells
  have HQ := Lib.hid h1
  have H2 := Lib.hid h2
  have HK0 := Lib.hid hk0
  clear h1 h2 h1' hk0
  go_enter Try.func28, Try.ntmps28
  go_wp2_with fail
  go_quiet (fail)
  go_wp2
  go_ret
  have hk : Keeps [g] (w.alloc (.cells (cs x).toArray 39)) (((w.alloc (.cells (cs x).toArray 39)).drewN nq).setCell ⟨g, 4, none⟩ (.int .i64 (dr + 1))) := ((Keeps.refl _ _).drewN nq).setCell (by simp) _
  refine ⟨rfl, ⟨A, len, c, f, R, ⟨(HQ.out.q.drewN nq).set_ 4 (.int .i64 (dr + 1)), ?_, HQ.out.hf, HQ.out.hn, HQ.out.hlen⟩, H2.out, h3, h4, h5, by omega, by omega⟩, ((HK0.out.more (by simp)).next hk (by simp) : Keeps [g, r] w _)⟩
  exact HQ.out.room.imp id fun ⟨r1, r2, r3, r4⟩ => ⟨r1, r2, r3, r4.keeps hk (by simpa using r3)⟩
set_option maxRecDepth 100000 in
set_option maxHeartbeats 2000000 in
theorem push_ok (g r : Nat) (l : List It) (lim dr : Int) (x : It) (w : World) (h : Qu w g r l lim dr) (hf : (l.length : Int) < lim) :
    Calls Try.prog 28 #[.pointer (some ⟨g, 0, none⟩), val x] w (IsPush g r (l ++ [x]) lim dr w) := by
  have hk0 : ∀ q, Keeps [] w ((w.alloc (.cells (cs x).toArray 39)).drewN q) := fun q => ((Keeps.refl _ _).alloc _).drewN q
  have HG := Lib.hid (fun q => grow_any g r l lim dr ((w.alloc (.cells (cs x).toArray 39)).drewN q) (h.kp (hk0 q)) hf)
  have hB := fun q => (Blk.new w 39 (cs x).toArray).drewN q
  obtain ⟨hgl, hrl⟩ := h.lt
  obtain ⟨A, len, c, f, R, h1, h2, h3, h4, h5, h6, h7⟩ := h
  obtain ⟨_, _, c2, c3, _, _⟩ := h1.cells
  have hn := h1.hn
  have hlen := h1.hlen
  have hdec : decide (lim ≤ (l.length : Int)) = false := by simp; omega
  have HB := Lib.hid hB
  have HK0 := Lib.hid hk0
  clear h1 h2 hB hk0
  generalize hl : l.length = n at *
  have HL := Lib.hid hl
  clear hl
  go_enter Try.func28, Try.ntmps28
  go_wp2_with fail
  go_quiet (fail)
  go_wp2_with fail
  refine (HG.out _).mono ?_
  clear HG c2 c3
  rintro e v1 ⟨rfl, r', ⟨A', len', c', f', R', h1, h2, _, _, _, _, _, hr0⟩, hk1, hrr⟩
  rw [HL.out] at h1 h2 hr0
  have hz1 := hk1.size
  simp at hz1
  have hrr' : r' = r ∨ w.heap.size < r' := by
    rcases hrr with h | h
    · exact .inl h
    · right; simp at h; omega
  have hb1 := (HB.out nq).keeps hk1 (by simp; omega)
  have HK1 : Hid (Keeps [g, r] w v1) := Lib.hid (((HK0.out nq).more (by simp)).trans hk1)
  clear hk1 hrr hn hlen HB HK0
  have hlen := h1.hlen
  rcases h1.room with ⟨h0, _, _⟩ | ⟨h0, hA, hne, hrm⟩
  · omega
  subst hA
  have hAT := at_any g r' (some ⟨r', 0, none⟩) len' c' f' n lim dr R' n v1.drew h1.drew h0 (by omega)
  have HAT := Lib.hid hAT
  have hp := place_bd f' n len' h0
  obtain ⟨c0, c1, c2, c3, c4, cf⟩ := h1.cells
  have hff := h1.hf
  have HQ := Lib.hid h1.q
  have HRM := Lib.hid hrm
  have H2 := Lib.hid h2
  have hbx : v1.drew.rangeAt w.heap.size 0 (cs x) := blk_range (cs x) hb1.drew
  have hgv := h1.q.lt
  clear h1 h2 hrm hAT hb1
  generalize hpp : (f' + n) % len' = p at *
  have HPP := Lib.hid hpp
  clear hpp
  have hp0 : (0 : Int) ≤ (p : Int) := by omega
  have hp1 : (p : Int) < (len' : Int) := by omega
  have hwr : w.heap.size ≠ r' := by omega
  go_wp2
  refine wp_region_held_drew (S := (fun V => V.cell? ⟨g, 0, none⟩ = some (.slice (some ⟨r', 0, none⟩) len' c') ∧ V.rangeAt w.heap.size 0 (cs x) ∧ V.cell? ⟨g, 2, none⟩ = some (.int .i64 (n : Int)))) (by kernel_rfl) ⟨c0, hbx, c2⟩ (fun hHeld => ?_)
  refine' wpAnyH_take (i := 0) (oi := _) (v := _) ?hU0 (by kernel_rfl) (by kernel_rfl) (by kernel_rfl) ?hQU0 (Or.inl ⟨?hwU0, ?hyU0⟩) hHeld ?restU0
  case hU0 => (simp only [List.getElem?_toArray, List.getElem?_cons_zero]; rfl)
  case hQU0 => exact fun _ _ _ h => h
  case hwU0 => rfl
  case hyU0 => (intro w hSw; (try dsimp only at hSw); go_simp; try with_reducible rfl)
  try simp only [Act.put, List.setIfInBounds_toArray, List.set_cons_zero, List.set_cons_succ]
  refine' wpAnyH_take (i := 1) (oi := _) (v := _) ?hU1 (by kernel_rfl) (by kernel_rfl) (by kernel_rfl) ?hQU1 (Or.inl ⟨?hwU1, ?hyU1⟩) hHeld ?restU1
  case hU1 => (simp only [List.getElem?_toArray, List.getElem?_cons_succ, List.getElem?_cons_zero]; rfl)
  case hQU1 => exact fun _ _ _ h => h
  case hwU1 => rfl
  case hyU1 => (intro w hSw; (try dsimp only at hSw); go_simp; try with_reducible rfl)
  try simp only [Act.put, List.setIfInBounds_toArray, List.set_cons_zero, List.set_cons_succ]
  refine' wpAnyH_take (i := 2) (oi := _) (v := _) ?hU2 (by kernel_rfl) (by kernel_rfl) (by kernel_rfl) ?hQU2 (Or.inl ⟨?hwU2, ?hyU2⟩) hHeld ?restU2
  case hU2 => (simp only [List.getElem?_toArray, List.getElem?_cons_succ, List.getElem?_cons_zero]; rfl)
  case hQU2 => exact fun _ _ _ h => h
  case hwU2 => rfl
  case hyU2 => (intro w hSw; (try dsimp only at hSw); go_simp; try with_reducible rfl)
  try simp only [Act.put, List.setIfInBounds_toArray, List.set_cons_zero, List.set_cons_succ]
  refine' wpAnyH_take (i := 3) (oi := _) (v := _) ?hU3 (by kernel_rfl) (by kernel_rfl) (by kernel_rfl) ?hQU3 (Or.inl ⟨?hwU3, ?hyU3⟩) hHeld ?restU3
  case hU3 => (simp only [List.getElem?_toArray, List.getElem?_cons_succ, List.getElem?_cons_zero]; rfl)
  case hQU3 => exact fun _ _ _ h => h
  case hwU3 => rfl
  case hyU3 => (intro w hSw; (try dsimp only at hSw); go_simp; try with_reducible rfl)
  try simp only [Act.put, List.setIfInBounds_toArray, List.set_cons_zero, List.set_cons_succ]
  refine' wpAnyH_take (i := 4) (oi := _) (v := _) ?hU4 (by kernel_rfl) (by kernel_rfl) (by kernel_rfl) ?hQU4 (Or.inl ⟨?hwU4, ?hyU4⟩) hHeld ?restU4
  case hU4 => (simp only [List.getElem?_toArray, List.getElem?_cons_succ, List.getElem?_cons_zero]; rfl)
  case hQU4 => exact fun _ _ _ h => h
  case hwU4 => rfl
  case hyU4 => (intro w hSw; (try dsimp only at hSw); go_simp; try with_reducible rfl)
  try simp only [Act.put, List.setIfInBounds_toArray, List.set_cons_zero, List.set_cons_succ]
  refine' wpAnyH_take (i := 5) (oi := _) (v := _) ?hU5 (by kernel_rfl) (by kernel_rfl) (by kernel_rfl) ?hQU5 (Or.inl ⟨?hwU5, ?hyU5⟩) hHeld ?restU5
  case hU5 => (simp only [List.getElem?_toArray, List.getElem?_cons_succ, List.getElem?_cons_zero]; rfl)
  case hQU5 => exact fun _ _ _ h => h
  case hwU5 => rfl
  case hyU5 => (intro w hSw; (try dsimp only at hSw); go_simp; try with_reducible rfl)
  try simp only [Act.put, List.setIfInBounds_toArray, List.set_cons_zero, List.set_cons_succ]
  refine' wpAnyH_take (i := 6) (oi := _) (v := _) ?hU6 (by kernel_rfl) (by kernel_rfl) (by kernel_rfl) ?hQU6 (Or.inl ⟨?hwU6, ?hyU6⟩) hHeld ?restU6
  case hU6 => (simp only [List.getElem?_toArray, List.getElem?_cons_succ, List.getElem?_cons_zero]; rfl)
  case hQU6 => exact fun _ _ _ h => h
  case hwU6 => rfl
  case hyU6 => (intro w hSw; (try dsimp only at hSw); go_simp; try with_reducible rfl)
  try simp only [Act.put, List.setIfInBounds_toArray, List.set_cons_zero, List.set_cons_succ]
  refine' wpAnyH_take (i := 7) (oi := _) (v := _) ?hU7 (by kernel_rfl) (by kernel_rfl) (by kernel_rfl) ?hQU7 (Or.inl ⟨?hwU7, ?hyU7⟩) hHeld ?restU7
  case hU7 => (simp only [List.getElem?_toArray, List.getElem?_cons_succ, List.getElem?_cons_zero]; rfl)
  case hQU7 => exact fun _ _ _ h => h
  case hwU7 => rfl
  case hyU7 => (intro w hSw; (try dsimp only at hSw); go_simp; try with_reducible rfl)
  try simp only [Act.put, List.setIfInBounds_toArray, List.set_cons_zero, List.set_cons_succ]
  refine' wpAnyH_take (i := 8) (oi := _) (v := _) ?hU8 (by kernel_rfl) (by kernel_rfl) (by kernel_rfl) ?hQU8 (Or.inl ⟨?hwU8, ?hyU8⟩) hHeld ?restU8
  case hU8 => (simp only [List.getElem?_toArray, List.getElem?_cons_succ, List.getElem?_cons_zero]; rfl)
  case hQU8 => exact fun _ _ _ h => h
  case hwU8 => rfl
  case hyU8 => (intro w hSw; (try dsimp only at hSw); go_simp; try with_reducible rfl)
  try simp only [Act.put, List.setIfInBounds_toArray, List.set_cons_zero, List.set_cons_succ]
  refine' wpAnyH_take (i := 10) (oi := _) (v := .agg (cs x).toArray) ?hU10 (by kernel_rfl) (by kernel_rfl) (by kernel_rfl) ?hQU10 ?hyU10 hHeld ?restU10
  case hU10 => (simp only [List.getElem?_toArray, List.getElem?_cons_succ, List.getElem?_cons_zero]; rfl)
  case hQU10 => exact fun _ _ _ h => h
  case hyU10 => (apply yieldsIf_load_mid (b := w.heap.size) (o := 0) (cs := cs x); (case hw => rfl); (case ho => rfl); (case hx => rfl); (case hS => exact fun _ h => h.2.1); (case hu => exact Try.underlying39); (case hd => rfl); (case hi => exact info_cs _))
  try simp only [Act.put, List.setIfInBounds_toArray, List.set_cons_zero, List.set_cons_succ]
  refine wpAnyH_ready (rs := [9]) (by kernel_rfl) (by simp) ?_
  refine AllReadyH.cons rfl (fun K hK => ?_) AllReadyH.nil
  go_simp
  refine (HAT.out).mono ?_
  rintro e v9 ⟨rfl, hd9⟩
  try go_wp2_with fail
  refine hK.out _ _ (⟨(hd9.cell _).trans hHeld.1, fun j u hu => (hd9.cell _).trans (hHeld.2.1 j u hu), (hd9.cell _).trans hHeld.2.2⟩) (fun hHeld' => ?_)
  clear hK K hHeld
  have hHeld := hHeld'
  clear hHeld'
  try simp only [Act.put, List.setIfInBounds_toArray, List.set_cons_zero, List.set_cons_succ]
  refine' wpAnyH_take (i := 11) (oi := _) (v := _) ?hU11 (by kernel_rfl) (by kernel_rfl) (by kernel_rfl) ?hQU11 (Or.inl ⟨?hwU11, ?hyU11⟩) hHeld ?restU11
  case hU11 => (simp only [List.getElem?_toArray, List.getElem?_cons_succ, List.getElem?_cons_zero]; rfl)
  case hQU11 => exact fun _ _ _ h => h
  case hwU11 => rfl
  case hyU11 => (intro w hSw; (try dsimp only at hSw); go_simp; try with_reducible rfl)
  try simp only [Act.put, List.setIfInBounds_toArray, List.set_cons_zero, List.set_cons_succ]
  refine wpAnyH_ready (rs := [12]) (by kernel_rfl) (by simp) ?_
  refine' AllReadyH.cons (o := _) ?hoU12 (fun K hK => ?stU12) AllReadyH.nil
  case hoU12 => (simp only [List.getElem?_toArray, List.getElem?_cons_succ, List.getElem?_cons_zero]; rfl)
  rw [if_pos (by rfl)]
  refine wp_store_room _ _ rfl r' len' R' p x rfl rfl (HRM.out.keeps (((Keeps.refl [] v1).drew).drawn hd9) (by simp)) (by omega) ?_
  intro v3 hr3 hk3
  refine hK.out _ _ (⟨(hk3.cell (p := ⟨g, 0, none⟩) (by have := ((Keeps.refl [] v1).drew.drawn hd9).size; show g < _; omega) (by simp; omega)).trans hHeld.1, fun j u hu => (hk3.cell (p := ⟨w.heap.size, 0 + j, none⟩) (by have := ((Keeps.refl [] v1).drew.drawn hd9).size; show w.heap.size < _; omega) (by simp; omega)).trans (hHeld.2.1 j u hu), (hk3.cell (p := ⟨g, 2, none⟩) (by have := ((Keeps.refl [] v1).drew.drawn hd9).size; show g < _; omega) (by simp; omega)).trans hHeld.2.2⟩) (fun hHeld' => ?_)
  clear hK K hHeld
  have hHeld := hHeld'
  clear hHeld'
  try simp only [Act.put]
  refine wpAnyH_done (by kernel_rfl) ?_ _
  clear HAT hbx
  have hq3 := HQ.out.keeps ((((Keeps.refl [r'] v1).drew).drawn hd9).next hk3 (by simp)) (by simp; omega)
  have hk3' : Keeps [g, r] w v3 := (((HK1.out.drew).drawn hd9).next hk3 (by simp; omega))
  have q2 := hq3.cell 2
  have qf := hq3.frozen
  clear hHeld c0 c1 c2 c3 c4 cf hk3
  have q2' : v3.cell? ⟨g, 2, none⟩ = some (.int .i64 (n : Int)) := q2
  clear q2
  go_wp2
  go_ret
  have hq2 := hq3.set_ 2 (.int .i64 ((n : Int) + 1))
  have hr2 := hr3.keeps ((Keeps.refl [g] v3).setCell (p := ⟨g, 2, none⟩) (by simp) (.int .i64 ((n : Int) + 1))) (by simpa using hne)
  refine ⟨rfl, r', ⟨some ⟨r', 0, none⟩, len', c', f', updR R' p x, ⟨?_, .inr ⟨h0, rfl, hne, hr2⟩, hff, by rw [List.length_append, HL.out]; simp; omega, hlen⟩, ?_, h3, h4, by rw [List.length_append, Int.natCast_add, HL.out]; simp; omega, h6, h7⟩, ?_, by omega⟩
  · rw [List.length_append, HL.out]
    exact hq2
  · intro i hi
    rw [List.length_append, HL.out] at hi
    simp only [List.length_cons, List.length_nil] at hi
    by_cases hin : i < n
    · rw [List.getElem?_append_left (by rw [HL.out]; exact hin), H2.out i hin, updR_ne _ _ _ _ (by rw [← HPP.out]; exact place_inj f' i n len' hin hr0)]
    · obtain rfl : i = n := by omega
      rw [HPP.out, updR_at, List.getElem?_append_right (by rw [HL.out]; exact Nat.le_refl _), HL.out]
      simp
  · exact hk3'.setCell (p := ⟨g, 2, none⟩) (by simp) (.int .i64 ((n : Int) + 1))
end FiF
end Go.Proofs.Ytdbkgpnbmafpmaa
