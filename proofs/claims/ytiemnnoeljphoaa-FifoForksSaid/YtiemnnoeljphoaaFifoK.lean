/- The law's step: a deed on the queue and on the document's queue. -/
import Derived.Test.YtiemnnoeljphoaaFifoG
import Derived.Test.YtiemnnoeljphoaaReg
namespace Go.Proofs.Ytiemnnoeljphoaa
open Go.RowKit
namespace FiR
open Sm FiS
/-- Queue and document's queue hold the same. -/
structure Sy (w : World) (g r x y : Nat) (l : List ByteArray) (lim dr : Int) (a : Option Addr) (c : Nat) : Prop where
  q : Qu w g r l lim dr
  p : Rq w x y l lim dr a c
  xg : x ≠ g
  xr : x ≠ r
  yg : y ≠ g
  yr : y ≠ r
section
variable {w w' : World} {g r x y c : Nat} {l : List ByteArray} {lim dr : Int} {a : Option Addr} {S : List Nat}
theorem Sy.keeps (h : Sy w g r x y l lim dr a c) (hk : Keeps S w w') (hS : ∀ b ∈ S, b ≠ g ∧ b ≠ r ∧ b ≠ x ∧ b ≠ y) : Sy w' g r x y l lim dr a c :=
  ⟨h.q.keeps hk (fun m => (hS _ m).1 rfl) (fun m => (hS _ m).2.1 rfl), h.p.keeps hk (fun m => (hS _ m).2.2.1 rfl) (fun m => (hS _ m).2.2.2 rfl), h.xg, h.xr, h.yg, h.yr⟩
theorem Sy.lt (h : Sy w g r x y l lim dr a c) : g < w.heap.size ∧ r < w.heap.size ∧ x < w.heap.size ∧ y < w.heap.size :=
  ⟨h.q.lt.1, h.q.lt.2, h.p.q.lt, h.p.row.lt h.p.q.lt⟩
end
def IsStep (g r x y : Nat) (lim dr : Int) (w : World) (e : Ending) (w' : World) : Prop :=
  e = .returned (.bool true) ∧ ∃ r' y' l' dr' a' c', Sy w' g r' x y' l' lim dr' a' c' ∧ Keeps [g, r, x] w w' ∧ (r' = r ∨ w.heap.size ≤ r') ∧ (y' = y ∨ w.heap.size ≤ y') ∧ dr' ≤ dr + 1
theorem IsStep.from {g r x y : Nat} {lim dr : Int} {w W : World} {e : Ending} {w' : World} (h : IsStep g r x y lim dr W e w') (hk : Keeps [] w W) : IsStep g r x y lim dr w e w' := by
  obtain ⟨h1, r', y', l', dr', a', c', h2, h3, h4, h5, h6⟩ := h
  have := hk.size
  exact ⟨h1, r', y', l', dr', a', c', h2, (hk.more (by simp)).trans h3, by omega, by omega, h6⟩
theorem IsStep.keep {g r x y : Nat} {lim dr : Int} {w : World} {e : Ending} {w' : World} (h : IsStep g r x y lim dr w e w') : Keeps [g, r, x] w w' := by
  obtain ⟨_, _, _, _, _, _, _, _, h, _⟩ := h
  exact h
/-- The world in which a deed's regions run. -/
abbrev boxed (w : World) (v : Int) (n : Int) (t : ByteArray) : World := w.alloc (.cells #[.int .i64 v, .int .i64 n, .string t] 26)
theorem boxed_keep (w : World) (v n : Int) (t : ByteArray) (q : Nat) : Keeps [] w ((boxed w v n t).drewN q) := ((Keeps.refl _ _).alloc _).drewN q
theorem boxed_cell (w : World) (v n : Int) (t : ByteArray) (q i : Nat) : ((boxed w v n t).drewN q).cell? ⟨w.heap.size, i, none⟩ = (#[Value.int .i64 v, .int .i64 n, .string t])[i]? := ((Blk.new w 26 _).drewN q).cell i
theorem keep_box {W V : World} {S : List Nat} {b i : Nat} {v : Value} (h : W.cell? ⟨b, i, none⟩ = some v) (hk : Keeps S W V) (hb : b < W.heap.size) (hS : b ∉ S) : V.cell? ⟨b, i, none⟩ = some v := (hk.cell (p := ⟨b, i, none⟩) hb hS).trans h
set_option maxRecDepth 100000 in
set_option maxHeartbeats 1000000 in
theorem step_in (g r x y : Nat) (l : List ByteArray) (lim dr : Int) (a : Option Addr) (c : Nat) (n : Int) (t : ByteArray)  (w : World) (hS : Sy w g r x y l lim dr a c) (hf : (l.length : Int) < lim) :
    Calls Try.prog 13 #[.pointer (some ⟨g, 0, none⟩), .pointer (some ⟨x, 0, none⟩), .agg #[.int .i64 0, .int .i64 n, .string t]] w (IsStep g r x y lim dr w) := by
  obtain ⟨hgl, hrl, hxl, hyl⟩ := hS.lt
  have hxg := hS.xg
  have hxr := hS.xr
  have hyg := hS.yg
  have hyr := hS.yr
  have hbk := boxed_keep w 0 n t
  have hbc := boxed_cell w 0 n t
  have HS : Hid (∀ q, Sy ((boxed w 0 n t).drewN q) g r x y l lim dr a c) := Lib.hid (fun q => hS.keeps (hbk q) (by simp))
  have hsz : ∀ q, ((boxed w 0 n t).drewN q).heap.size = w.heap.size + 1 := fun q => by simp
  clear hS
  go_enter Try.func13, Try.ntmps13
  go_wp2_with fail
  refine wp_region_held_drew (S := (fun V => V.cell? ⟨w.heap.size, 2, none⟩ = some (.string t))) (by kernel_rfl) (hbc 1 2) (fun hHeld => ?_)
  refine' wpAnyH_take (i := 0) (oi := _) (v := _) ?hP0 (by kernel_rfl) (by kernel_rfl) (by kernel_rfl) ?hQP0 (Or.inl ⟨?hwP0, ?hyP0⟩) hHeld ?restP0
  case hP0 => (simp only [List.getElem?_toArray, List.getElem?_cons_zero]; rfl)
  case hQP0 => exact fun _ _ _ h => h
  case hwP0 => rfl
  case hyP0 => (intro w hSw; (try dsimp only at hSw); go_simp; try with_reducible rfl)
  try simp only [Act.put, List.setIfInBounds_toArray, List.set_cons_zero, List.set_cons_succ]
  refine' wpAnyH_take (i := 1) (oi := _) (v := _) ?hP1 (by kernel_rfl) (by kernel_rfl) (by kernel_rfl) ?hQP1 (Or.inl ⟨?hwP1, ?hyP1⟩) hHeld ?restP1
  case hP1 => (simp only [List.getElem?_toArray, List.getElem?_cons_succ, List.getElem?_cons_zero]; rfl)
  case hQP1 => exact fun _ _ _ h => h
  case hwP1 => rfl
  case hyP1 => (intro w hSw; (try dsimp only at hSw); go_simp; try with_reducible rfl)
  try simp only [Act.put, List.setIfInBounds_toArray, List.set_cons_zero, List.set_cons_succ]
  refine' wpAnyH_take (i := 2) (oi := _) (v := _) ?hP2 (by kernel_rfl) (by kernel_rfl) (by kernel_rfl) ?hQP2 (Or.inl ⟨?hwP2, ?hyP2⟩) hHeld ?restP2
  case hP2 => (simp only [List.getElem?_toArray, List.getElem?_cons_succ, List.getElem?_cons_zero]; rfl)
  case hQP2 => exact fun _ _ _ h => h
  case hwP2 => rfl
  case hyP2 => (intro w hSw; (try dsimp only at hSw); go_simp; try with_reducible rfl)
  try simp only [Act.put, List.setIfInBounds_toArray, List.set_cons_zero, List.set_cons_succ]
  refine' wpAnyH_take (i := 4) (oi := _) (v := _) ?hP4 (by kernel_rfl) (by kernel_rfl) (by kernel_rfl) ?hQP4 (Or.inl ⟨?hwP4, ?hyP4⟩) hHeld ?restP4
  case hP4 => (simp only [List.getElem?_toArray, List.getElem?_cons_succ, List.getElem?_cons_zero]; rfl)
  case hQP4 => exact fun _ _ _ h => h
  case hwP4 => rfl
  case hyP4 => (intro w hSw; (try dsimp only at hSw); go_simp; try with_reducible rfl)
  try simp only [Act.put, List.setIfInBounds_toArray, List.set_cons_zero, List.set_cons_succ]
  refine' wpAnyH_take (i := 5) (oi := _) (v := _) ?hP5 (by kernel_rfl) (by kernel_rfl) (by kernel_rfl) ?hQP5 (Or.inl ⟨?hwP5, ?hyP5⟩) hHeld ?restP5
  case hP5 => (simp only [List.getElem?_toArray, List.getElem?_cons_succ, List.getElem?_cons_zero]; rfl)
  case hQP5 => exact fun _ _ _ h => h
  case hwP5 => rfl
  case hyP5 => (intro w hSw; (try dsimp only at hSw); go_simp; try with_reducible rfl)
  try simp only [Act.put, List.setIfInBounds_toArray, List.set_cons_zero, List.set_cons_succ]
  refine' wpAnyH_take (i := 6) (oi := _) (v := _) ?hP6 (by kernel_rfl) (by kernel_rfl) (by kernel_rfl) ?hQP6 (Or.inl ⟨?hwP6, ?hyP6⟩) hHeld ?restP6
  case hP6 => (simp only [List.getElem?_toArray, List.getElem?_cons_succ, List.getElem?_cons_zero]; rfl)
  case hQP6 => exact fun _ _ _ h => h
  case hwP6 => rfl
  case hyP6 => (intro w hSw; (try dsimp only at hSw); go_simp; try with_reducible rfl)
  try simp only [Act.put, List.setIfInBounds_toArray, List.set_cons_zero, List.set_cons_succ]
  refine wpAnyH_ready (rs := [3]) (by kernel_rfl) (by simp) ?_
  refine AllReadyH.cons rfl (fun K hK => ?_) AllReadyH.nil
  go_simp
  refine (push_ok g r l lim dr t _ (HS.out 1).q hf).mono ?_
  rintro e v1 ⟨rfl, r1, hq1, hk1, hr1⟩
  try go_wp2_with fail
  refine hK.out _ _ (keep_box hHeld hk1 (by simp) (by simp; omega)) (fun hHeld' => ?_)
  clear hK K hHeld
  have hHeld := hHeld'
  clear hHeld'
  try simp only [Act.put, List.setIfInBounds_toArray, List.set_cons_zero, List.set_cons_succ]
  refine wpAnyH_ready (rs := [7]) (by kernel_rfl) (by simp) ?_
  refine AllReadyH.cons rfl (fun K hK => ?_) AllReadyH.nil
  go_simp
  refine (rpush_ok x y l lim dr a c t _ ((HS.out 1).p.keeps hk1 (by simp; omega) (by simp; omega)) hf).mono ?_
  rintro e v2 ⟨rfl, y1, a1, c1, hp2, hk2, hy1⟩
  try go_wp2_with fail
  refine hK.out _ _ (keep_box hHeld hk2 (by have := hk1.size; rw [hsz 1] at this; omega) (by simp; omega)) (fun hHeld' => ?_)
  clear hK K hHeld
  have hHeld := hHeld'
  clear hHeld'
  try simp only [Act.put, List.setIfInBounds_toArray, List.set_cons_zero, List.set_cons_succ]
  refine' wpAnyH_take (i := 8) (oi := _) (v := _) ?hP8 (by kernel_rfl) (by kernel_rfl) (by kernel_rfl) ?hQP8 (Or.inl ⟨?hwP8, ?hyP8⟩) hHeld ?restP8
  case hP8 => (simp only [List.getElem?_toArray, List.getElem?_cons_succ, List.getElem?_cons_zero]; rfl)
  case hQP8 => exact fun _ _ _ h => h
  case hwP8 => rfl
  case hyP8 => (intro w hSw; (try dsimp only at hSw); go_simp; try with_reducible rfl)
  try simp only [Act.put, List.setIfInBounds_toArray, List.set_cons_zero, List.set_cons_succ]
  refine' wpAnyH_take (i := 9) (oi := _) (v := _) ?hP9 (by kernel_rfl) (by kernel_rfl) (by kernel_rfl) ?hQP9 (Or.inl ⟨?hwP9, ?hyP9⟩) hHeld ?restP9
  case hP9 => (simp only [List.getElem?_toArray, List.getElem?_cons_succ, List.getElem?_cons_zero]; rfl)
  case hQP9 => exact fun _ _ _ h => h
  case hwP9 => rfl
  case hyP9 => (intro w hSw; (try dsimp only at hSw); go_simp; try with_reducible rfl)
  try simp only [Act.put, List.setIfInBounds_toArray, List.set_cons_zero, List.set_cons_succ]
  refine wpAnyH_done (by kernel_rfl) ?_ _
  go_wp2
  go_ret
  have hz1 := hk1.size
  have hz2 := hk2.size
  rw [hsz 1] at hz1 hr1
  have hl1 := hq1.lt
  refine ⟨rfl, r1, y1, _, dr, a1, c1, ⟨hq1.keeps hk2 (by simp; omega) (by simp; omega), hp2, by omega, by omega, by omega, by omega⟩, (((hbk 1).more (by simp)).next hk1 (by simp)).next hk2 (by simp), by omega, by omega, by omega⟩
set_option maxRecDepth 100000 in
set_option maxHeartbeats 1000000 in
theorem step_full (g r x y : Nat) (l : List ByteArray) (lim dr : Int) (a : Option Addr) (c : Nat) (n : Int) (t : ByteArray)  (w : World) (hS : Sy w g r x y l lim dr a c) (hf : lim ≤ (l.length : Int)) (hd : dr < 100000) :
    Calls Try.prog 13 #[.pointer (some ⟨g, 0, none⟩), .pointer (some ⟨x, 0, none⟩), .agg #[.int .i64 0, .int .i64 n, .string t]] w (IsStep g r x y lim dr w) := by
  obtain ⟨hgl, hrl, hxl, hyl⟩ := hS.lt
  have hxg := hS.xg
  have hxr := hS.xr
  have hyg := hS.yg
  have hyr := hS.yr
  have hbk := boxed_keep w 0 n t
  have hbc := boxed_cell w 0 n t
  have HS : Hid (∀ q, Sy ((boxed w 0 n t).drewN q) g r x y l lim dr a c) := Lib.hid (fun q => hS.keeps (hbk q) (by simp))
  have hsz : ∀ q, ((boxed w 0 n t).drewN q).heap.size = w.heap.size + 1 := fun q => by simp
  clear hS
  go_enter Try.func13, Try.ntmps13
  go_wp2_with fail
  refine wp_region_held_drew (S := (fun V => V.cell? ⟨w.heap.size, 2, none⟩ = some (.string t))) (by kernel_rfl) (hbc 1 2) (fun hHeld => ?_)
  refine' wpAnyH_take (i := 0) (oi := _) (v := _) ?hP0 (by kernel_rfl) (by kernel_rfl) (by kernel_rfl) ?hQP0 (Or.inl ⟨?hwP0, ?hyP0⟩) hHeld ?restP0
  case hP0 => (simp only [List.getElem?_toArray, List.getElem?_cons_zero]; rfl)
  case hQP0 => exact fun _ _ _ h => h
  case hwP0 => rfl
  case hyP0 => (intro w hSw; (try dsimp only at hSw); go_simp; try with_reducible rfl)
  try simp only [Act.put, List.setIfInBounds_toArray, List.set_cons_zero, List.set_cons_succ]
  refine' wpAnyH_take (i := 1) (oi := _) (v := _) ?hP1 (by kernel_rfl) (by kernel_rfl) (by kernel_rfl) ?hQP1 (Or.inl ⟨?hwP1, ?hyP1⟩) hHeld ?restP1
  case hP1 => (simp only [List.getElem?_toArray, List.getElem?_cons_succ, List.getElem?_cons_zero]; rfl)
  case hQP1 => exact fun _ _ _ h => h
  case hwP1 => rfl
  case hyP1 => (intro w hSw; (try dsimp only at hSw); go_simp; try with_reducible rfl)
  try simp only [Act.put, List.setIfInBounds_toArray, List.set_cons_zero, List.set_cons_succ]
  refine' wpAnyH_take (i := 2) (oi := _) (v := _) ?hP2 (by kernel_rfl) (by kernel_rfl) (by kernel_rfl) ?hQP2 (Or.inl ⟨?hwP2, ?hyP2⟩) hHeld ?restP2
  case hP2 => (simp only [List.getElem?_toArray, List.getElem?_cons_succ, List.getElem?_cons_zero]; rfl)
  case hQP2 => exact fun _ _ _ h => h
  case hwP2 => rfl
  case hyP2 => (intro w hSw; (try dsimp only at hSw); go_simp; try with_reducible rfl)
  try simp only [Act.put, List.setIfInBounds_toArray, List.set_cons_zero, List.set_cons_succ]
  refine' wpAnyH_take (i := 4) (oi := _) (v := _) ?hP4 (by kernel_rfl) (by kernel_rfl) (by kernel_rfl) ?hQP4 (Or.inl ⟨?hwP4, ?hyP4⟩) hHeld ?restP4
  case hP4 => (simp only [List.getElem?_toArray, List.getElem?_cons_succ, List.getElem?_cons_zero]; rfl)
  case hQP4 => exact fun _ _ _ h => h
  case hwP4 => rfl
  case hyP4 => (intro w hSw; (try dsimp only at hSw); go_simp; try with_reducible rfl)
  try simp only [Act.put, List.setIfInBounds_toArray, List.set_cons_zero, List.set_cons_succ]
  refine' wpAnyH_take (i := 5) (oi := _) (v := _) ?hP5 (by kernel_rfl) (by kernel_rfl) (by kernel_rfl) ?hQP5 (Or.inl ⟨?hwP5, ?hyP5⟩) hHeld ?restP5
  case hP5 => (simp only [List.getElem?_toArray, List.getElem?_cons_succ, List.getElem?_cons_zero]; rfl)
  case hQP5 => exact fun _ _ _ h => h
  case hwP5 => rfl
  case hyP5 => (intro w hSw; (try dsimp only at hSw); go_simp; try with_reducible rfl)
  try simp only [Act.put, List.setIfInBounds_toArray, List.set_cons_zero, List.set_cons_succ]
  refine' wpAnyH_take (i := 6) (oi := _) (v := _) ?hP6 (by kernel_rfl) (by kernel_rfl) (by kernel_rfl) ?hQP6 (Or.inl ⟨?hwP6, ?hyP6⟩) hHeld ?restP6
  case hP6 => (simp only [List.getElem?_toArray, List.getElem?_cons_succ, List.getElem?_cons_zero]; rfl)
  case hQP6 => exact fun _ _ _ h => h
  case hwP6 => rfl
  case hyP6 => (intro w hSw; (try dsimp only at hSw); go_simp; try with_reducible rfl)
  try simp only [Act.put, List.setIfInBounds_toArray, List.set_cons_zero, List.set_cons_succ]
  refine wpAnyH_ready (rs := [3]) (by kernel_rfl) (by simp) ?_
  refine AllReadyH.cons rfl (fun K hK => ?_) AllReadyH.nil
  go_simp
  refine (push_full g r l lim dr t _ (HS.out 1).q hf hd).mono ?_
  rintro e v1 ⟨rfl, hq1, hk1⟩
  try go_wp2_with fail
  refine hK.out _ _ (keep_box hHeld hk1 (by simp) (by simp; omega)) (fun hHeld' => ?_)
  clear hK K hHeld
  have hHeld := hHeld'
  clear hHeld'
  try simp only [Act.put, List.setIfInBounds_toArray, List.set_cons_zero, List.set_cons_succ]
  refine wpAnyH_ready (rs := [7]) (by kernel_rfl) (by simp) ?_
  refine AllReadyH.cons rfl (fun K hK => ?_) AllReadyH.nil
  go_simp
  refine (rpush_full x y l lim dr a c t _ ((HS.out 1).p.keeps hk1 (by simp; omega) (by simp; omega)) hf hd (by omega)).mono ?_
  rintro e v2 ⟨rfl, hp2, hk2⟩
  try go_wp2_with fail
  refine hK.out _ _ (keep_box hHeld hk2 (by have := hk1.size; rw [hsz 1] at this; omega) (by simp; omega)) (fun hHeld' => ?_)
  clear hK K hHeld
  have hHeld := hHeld'
  clear hHeld'
  try simp only [Act.put, List.setIfInBounds_toArray, List.set_cons_zero, List.set_cons_succ]
  refine' wpAnyH_take (i := 8) (oi := _) (v := _) ?hP8 (by kernel_rfl) (by kernel_rfl) (by kernel_rfl) ?hQP8 (Or.inl ⟨?hwP8, ?hyP8⟩) hHeld ?restP8
  case hP8 => (simp only [List.getElem?_toArray, List.getElem?_cons_succ, List.getElem?_cons_zero]; rfl)
  case hQP8 => exact fun _ _ _ h => h
  case hwP8 => rfl
  case hyP8 => (intro w hSw; (try dsimp only at hSw); go_simp; try with_reducible rfl)
  try simp only [Act.put, List.setIfInBounds_toArray, List.set_cons_zero, List.set_cons_succ]
  refine' wpAnyH_take (i := 9) (oi := _) (v := _) ?hP9 (by kernel_rfl) (by kernel_rfl) (by kernel_rfl) ?hQP9 (Or.inl ⟨?hwP9, ?hyP9⟩) hHeld ?restP9
  case hP9 => (simp only [List.getElem?_toArray, List.getElem?_cons_succ, List.getElem?_cons_zero]; rfl)
  case hQP9 => exact fun _ _ _ h => h
  case hwP9 => rfl
  case hyP9 => (intro w hSw; (try dsimp only at hSw); go_simp; try with_reducible rfl)
  try simp only [Act.put, List.setIfInBounds_toArray, List.set_cons_zero, List.set_cons_succ]
  refine wpAnyH_done (by kernel_rfl) ?_ _
  go_wp2
  go_ret
  refine ⟨rfl, r, y, l, dr + 1, a, c, ⟨hq1.keeps hk2 (by simp; omega) (by simp; omega), hp2, hxg, hxr, hyg, hyr⟩, (((hbk 1).more (by simp)).next hk1 (by simp)).next hk2 (by simp), .inl rfl, .inl rfl, by omega⟩
theorem sy_box (w : World) (g r x y : Nat) (l : List ByteArray) (lim dr : Int) (a : Option Addr) (c : Nat) (v n : Int) (t : ByteArray) (h : ∀ q, Sy ((boxed w v n t).drewN q) g r x y l lim dr a c) : Sy (boxed w v n t) g r x y l lim dr a c := h 0
theorem clamp_cons (h : ByteArray) (tl : List ByteArray) : clamp 1 (h :: tl).length = 1 := by unfold clamp; rw [if_neg (by simp; omega), if_neg (by decide)]; rfl
theorem clamp_nil (n : Int) : clamp n ([] : List ByteArray).length = 0 := by unfold clamp; simp; intros; omega
theorem own_at {w : World} {B : Nat} {p : Option Addr} {c n : Nat} {l : List ByteArray} (h : w.ownsRow B 9 1 (.slice p n c) n (strs l)) (hn : 0 < n) : ∃ b, p = some ⟨b, 0, none⟩ ∧ B ≤ b ∧ b < w.heap.size ∧ ∀ k s, l[k]? = some s → w.cell? ⟨b, k, none⟩ = some (.string s) := by
  obtain ⟨b, cap, hv, hb, hl⟩ := h.form hn
  injection hv with e1 e2 e3
  subst e1
  refine ⟨b, rfl, hb, hl, fun k s hk => ?_⟩
  have hkn : k < n := by
    have h1 := h.1
    rw [strs_len] at h1
    have h2 := (List.getElem?_eq_some_iff.1 hk).1
    omega
  obtain ⟨ad, u, ha, _, hu, hc⟩ := (Reads.of_own h).at_ hkn
  injection ha with ha
  subst ha
  have hu' : u = .string s := by
    simp only [strs, List.getElem?_map, hk, Option.map_some, Option.some.injEq] at hu
    exact hu.symm
  rw [← hu', ← hc]
  unfold Addr.add
  by_cases h0 : k = 0
  · subst h0; simp
  · simp [h0]
set_option maxRecDepth 100000 in
set_option maxHeartbeats 1000000 in
theorem step_pop_none (g r x y : Nat) (lim dr : Int) (a : Option Addr) (c : Nat) (n : Int) (t : ByteArray)  (w : World) (hS : Sy w g r x y [] lim dr a c)  :
    Calls Try.prog 13 #[.pointer (some ⟨g, 0, none⟩), .pointer (some ⟨x, 0, none⟩), .agg #[.int .i64 1, .int .i64 n, .string t]] w (IsStep g r x y lim dr w) := by
  obtain ⟨hgl, hrl, hxl, hyl⟩ := hS.lt
  have hxg := hS.xg
  have hxr := hS.xr
  have hyg := hS.yg
  have hyr := hS.yr
  have hbk := boxed_keep w 1 n t
  have hbc := boxed_cell w 1 n t
  have HS : Hid (∀ q, Sy ((boxed w 1 n t).drewN q) g r x y [] lim dr a c) := Lib.hid (fun q => hS.keeps (hbk q) (by simp))
  have hsz : ∀ q, ((boxed w 1 n t).drewN q).heap.size = w.heap.size + 1 := fun q => by simp
  clear hS
  have H0 := sy_box _ _ _ _ _ _ _ _ _ _ _ _ _ HS.out
  go_enter Try.func13, Try.ntmps13
  go_wp2_with fail
  refine (pop_none g r lim dr _ H0.q).mono ?_
  rintro e v1 ⟨rfl, rfl⟩
  go_wp2_with fail
  refine (rtake_any x y [] lim dr 1 a c _ H0.p).mono ?_
  rw [clamp_nil]
  rintro e v2 ⟨p1, c1, y1, a1, c2, rfl, hown, hp2, hk2, hy1⟩
  clear hown
  go_wp2
  go_ret
  have hz := hbk 0
  rw [World.drewN_zero] at hz
  have hz1 := hz.size
  refine ⟨rfl, r, y1, _, dr, a1, c2, ⟨H0.q.keeps hk2 (by simp; omega) (by simp; omega), hp2, hxg, hxr, by omega, by omega⟩, (hz.more (by simp)).next hk2 (by simp), .inl rfl, by omega, by omega⟩
set_option maxRecDepth 100000 in
set_option maxHeartbeats 1000000 in
theorem step_pop_some (g r x y : Nat) (h : ByteArray) (tl : List ByteArray) (lim dr : Int) (a : Option Addr) (c : Nat) (n : Int) (t : ByteArray)  (w : World) (hS : Sy w g r x y (h :: tl) lim dr a c)  :
    Calls Try.prog 13 #[.pointer (some ⟨g, 0, none⟩), .pointer (some ⟨x, 0, none⟩), .agg #[.int .i64 1, .int .i64 n, .string t]] w (IsStep g r x y lim dr w) := by
  obtain ⟨hgl, hrl, hxl, hyl⟩ := hS.lt
  have hxg := hS.xg
  have hxr := hS.xr
  have hyg := hS.yg
  have hyr := hS.yr
  have hbk := boxed_keep w 1 n t
  have hbc := boxed_cell w 1 n t
  have HS : Hid (∀ q, Sy ((boxed w 1 n t).drewN q) g r x y (h :: tl) lim dr a c) := Lib.hid (fun q => hS.keeps (hbk q) (by simp))
  have hsz : ∀ q, ((boxed w 1 n t).drewN q).heap.size = w.heap.size + 1 := fun q => by simp
  clear hS
  have H0 := sy_box _ _ _ _ _ _ _ _ _ _ _ _ _ HS.out
  go_enter Try.func13, Try.ntmps13
  go_wp2_with fail
  refine (pop_some g r h tl lim dr _ H0.q).mono ?_
  rintro e v1 ⟨rfl, hq1, hk1⟩
  go_wp2_with fail
  refine (rtake_any x y (h :: tl) lim dr 1 a c _ (H0.p.keeps hk1 (by simp; omega) (by simp; omega))).mono ?_
  rw [clamp_cons]
  rintro e v2 ⟨p1, c1, y1, a1, c2, rfl, hown, hp2, hk2, hy1⟩
  obtain ⟨b, rfl, hb, hbl, hcs⟩ := own_at hown (by decide)
  have hc0 := hcs 0 h rfl
  clear hown hcs
  have hz := hbk 0
  rw [World.drewN_zero] at hz
  have HF := Lib.hid (And.intro hq1 (And.intro hk1 (And.intro hp2 (And.intro hk2 hz))))
  clear hq1 hk1 hp2 hk2 hz hbk hbc HS H0
  go_wp2
  go_ret
  obtain ⟨hq1, hk1, hp2, hk2, hz⟩ := HF.out
  have hz1 := hz.size
  have hz2 := hk1.size
  refine ⟨rfl, r, y1, _, dr, a1, c2, ⟨hq1.keeps hk2 (by simp; omega) (by simp; omega), hp2, hxg, hxr, by omega, by omega⟩, ((hz.more (by simp)).next hk1 (by simp)).next hk2 (by simp), .inl rfl, by omega, by omega⟩
theorem rtake_j (x y : Nat) (l : List ByteArray) (lim dr n : Int) (a : Option Addr) (c j : Nat) (w : World) (h : Rq w x y l lim dr a c) (hj : j ≤ l.length) (h1 : (j : Int) ≤ max n 0) (h2 : (j : Int) = n ∨ n < 0 ∧ j = 0 ∨ j = l.length) :
    Calls Try.prog 27 #[.pointer (some ⟨x, 0, none⟩), .int .i64 n] w (IsTaken x l lim dr j w) := by
  have hc : clamp n l.length = j := by
    unfold clamp
    by_cases a1 : (l.length : Int) < n
    · rw [if_pos a1]; omega
    · rw [if_neg a1]
      by_cases a2 : n < 0
      · rw [if_pos a2]; omega
      · rw [if_neg a2]; omega
  have := rtake_any x y l lim dr n a c w h
  rw [hc] at this
  exact this
theorem own_spot {w : World} {B n c : Nat} {e : TypeId} {p : Option Addr} {xs : List Value} (h : w.ownsRow B e 1 (.slice p n c) n xs) : ∀ ad, p = some ad → ad.spot = none := by
  rintro ad rfl
  rcases h.2 with ⟨hv, _⟩ | ⟨g, cap, cur, hv, _⟩
  · cases hv
  · injection hv with e1; injection e1 with e1; rw [e1]
theorem own2 {w v : World} {B n : Nat} {e : TypeId} {s : Value} {xs : List Value} {x : Nat} (h : w.ownsRow B e 1 s n xs) (hk : Keeps [x] w v) (hx : x < B) : v.ownsRow B e 1 s n xs :=
  ownsRow_keeps h hk (fun k hk => by have := (h.lt k hk).1; simp; omega)
set_option maxRecDepth 100000 in
set_option maxHeartbeats 1000000 in
theorem step_take (g r x y : Nat) (l : List ByteArray) (lim dr : Int) (a : Option Addr) (c : Nat) (n : Int) (t : ByteArray)  (w : World) (hS : Sy w g r x y l lim dr a c)  :
    Calls Try.prog 13 #[.pointer (some ⟨g, 0, none⟩), .pointer (some ⟨x, 0, none⟩), .agg #[.int .i64 2, .int .i64 n, .string t]] w (IsStep g r x y lim dr w) := by
  obtain ⟨hgl, hrl, hxl, hyl⟩ := hS.lt
  have hxg := hS.xg
  have hxr := hS.xr
  have hyg := hS.yg
  have hyr := hS.yr
  have hbk := boxed_keep w 2 n t
  have hbc := boxed_cell w 2 n t
  have HS : Hid (∀ q, Sy ((boxed w 2 n t).drewN q) g r x y l lim dr a c) := Lib.hid (fun q => hS.keeps (hbk q) (by simp))
  have hsz : ∀ q, ((boxed w 2 n t).drewN q).heap.size = w.heap.size + 1 := fun q => by simp
  clear hS
  have hll := (HS.out 0).p.len
  have hxs : x < ((boxed w 2 n t).drewN 1).heap.size := by rw [hsz 1]; omega
  go_enter Try.func13, Try.ntmps13
  go_wp2_with fail
  refine wp_region_held_drew (S := (fun V => V.cell? ⟨w.heap.size, 1, none⟩ = some (.int .i64 n))) (by kernel_rfl) (hbc 1 1) (fun hHeld => ?_)
  refine' wpAnyH_take (i := 0) (oi := _) (v := _) ?hT0 (by kernel_rfl) (by kernel_rfl) (by kernel_rfl) ?hQT0 (Or.inl ⟨?hwT0, ?hyT0⟩) hHeld ?restT0
  case hT0 => (simp only [List.getElem?_toArray, List.getElem?_cons_zero]; rfl)
  case hQT0 => exact fun _ _ _ h => h
  case hwT0 => rfl
  case hyT0 => (intro w hSw; (try dsimp only at hSw); go_simp; try with_reducible rfl)
  try simp only [Act.put, List.setIfInBounds_toArray, List.set_cons_zero, List.set_cons_succ]
  refine' wpAnyH_take (i := 1) (oi := _) (v := _) ?hT1 (by kernel_rfl) (by kernel_rfl) (by kernel_rfl) ?hQT1 (Or.inl ⟨?hwT1, ?hyT1⟩) hHeld ?restT1
  case hT1 => (simp only [List.getElem?_toArray, List.getElem?_cons_succ, List.getElem?_cons_zero]; rfl)
  case hQT1 => exact fun _ _ _ h => h
  case hwT1 => rfl
  case hyT1 => (intro w hSw; (try dsimp only at hSw); go_simp; try with_reducible rfl)
  try simp only [Act.put, List.setIfInBounds_toArray, List.set_cons_zero, List.set_cons_succ]
  refine' wpAnyH_take (i := 2) (oi := _) (v := _) ?hT2 (by kernel_rfl) (by kernel_rfl) (by kernel_rfl) ?hQT2 (Or.inl ⟨?hwT2, ?hyT2⟩) hHeld ?restT2
  case hT2 => (simp only [List.getElem?_toArray, List.getElem?_cons_succ, List.getElem?_cons_zero]; rfl)
  case hQT2 => exact fun _ _ _ h => h
  case hwT2 => rfl
  case hyT2 => (intro w hSw; (try dsimp only at hSw); go_simp; try with_reducible rfl)
  try simp only [Act.put, List.setIfInBounds_toArray, List.set_cons_zero, List.set_cons_succ]
  refine' wpAnyH_take (i := 4) (oi := _) (v := _) ?hT4 (by kernel_rfl) (by kernel_rfl) (by kernel_rfl) ?hQT4 (Or.inl ⟨?hwT4, ?hyT4⟩) hHeld ?restT4
  case hT4 => (simp only [List.getElem?_toArray, List.getElem?_cons_succ, List.getElem?_cons_zero]; rfl)
  case hQT4 => exact fun _ _ _ h => h
  case hwT4 => rfl
  case hyT4 => (intro w hSw; (try dsimp only at hSw); go_simp; try with_reducible rfl)
  try simp only [Act.put, List.setIfInBounds_toArray, List.set_cons_zero, List.set_cons_succ]
  refine' wpAnyH_take (i := 5) (oi := _) (v := _) ?hT5 (by kernel_rfl) (by kernel_rfl) (by kernel_rfl) ?hQT5 (Or.inl ⟨?hwT5, ?hyT5⟩) hHeld ?restT5
  case hT5 => (simp only [List.getElem?_toArray, List.getElem?_cons_succ, List.getElem?_cons_zero]; rfl)
  case hQT5 => exact fun _ _ _ h => h
  case hwT5 => rfl
  case hyT5 => (intro w hSw; (try dsimp only at hSw); go_simp; try with_reducible rfl)
  try simp only [Act.put, List.setIfInBounds_toArray, List.set_cons_zero, List.set_cons_succ]
  refine' wpAnyH_take (i := 6) (oi := _) (v := _) ?hT6 (by kernel_rfl) (by kernel_rfl) (by kernel_rfl) ?hQT6 (Or.inl ⟨?hwT6, ?hyT6⟩) hHeld ?restT6
  case hT6 => (simp only [List.getElem?_toArray, List.getElem?_cons_succ, List.getElem?_cons_zero]; rfl)
  case hQT6 => exact fun _ _ _ h => h
  case hwT6 => rfl
  case hyT6 => (intro w hSw; (try dsimp only at hSw); go_simp; try with_reducible rfl)
  try simp only [Act.put, List.setIfInBounds_toArray, List.set_cons_zero, List.set_cons_succ]
  refine wpAnyH_ready (rs := [3]) (by kernel_rfl) (by simp) ?_
  refine AllReadyH.cons rfl (fun K hK => ?_) AllReadyH.nil
  go_simp
  refine (take_any g r l lim dr n _ (HS.out 1).q hll).mono ?_
  rintro e v1 ⟨a1, j, c1, rfl, hw, hj1, hj2⟩
  try go_wp2_with fail
  refine hK.out _ _ (keep_box hHeld hw.k (by simp) (by simp; omega)) (fun hHeld' => ?_)
  clear hK K hHeld
  have hHeld := hHeld'
  clear hHeld'
  try simp only [Act.put, List.setIfInBounds_toArray, List.set_cons_zero, List.set_cons_succ]
  refine wpAnyH_ready (rs := [7]) (by kernel_rfl) (by simp) ?_
  refine AllReadyH.cons rfl (fun K hK => ?_) AllReadyH.nil
  go_simp
  refine (rtake_j x y l lim dr n a c j _ ((HS.out 1).p.keeps hw.k (by simp; omega) (by simp; omega)) hw.jl hj1 hj2).mono ?_
  rintro e v2 ⟨p2, c2, y1, a2, c3, rfl, hown, hp2, hk2, hy1⟩
  try go_wp2_with fail
  refine hK.out _ _ (keep_box hHeld hk2 (by have := hw.k.size; rw [hsz 1] at this; omega) (by simp; omega)) (fun hHeld' => ?_)
  clear hK K hHeld
  have hHeld := hHeld'
  clear hHeld'
  try simp only [Act.put, List.setIfInBounds_toArray, List.set_cons_zero, List.set_cons_succ]
  refine wpAnyH_ready (rs := [8]) (by kernel_rfl) (by simp) ?_
  refine AllReadyH.cons rfl (fun K hK => ?_) AllReadyH.nil
  go_simp
  refine (same_any _ _ j _ _ _ _ (l.take j) _ (by have := hw.jl; omega) (Reads.of_own (own2 hw.own hk2 hxs)) (Reads.of_own hown) (own_spot hw.own) (own_spot hown)).mono ?_
  rintro e v3 ⟨rfl, hd3⟩
  try go_wp2_with fail
  refine hK.out _ _ ((hd3.cell _).trans hHeld) (fun hHeld' => ?_)
  clear hK K hHeld
  have hHeld := hHeld'
  clear hHeld'
  try simp only [Act.put, List.setIfInBounds_toArray, List.set_cons_zero, List.set_cons_succ]
  refine' wpAnyH_take (i := 9) (oi := _) (v := _) ?hT9 (by kernel_rfl) (by kernel_rfl) (by kernel_rfl) ?hQT9 (Or.inl ⟨?hwT9, ?hyT9⟩) hHeld ?restT9
  case hT9 => (simp only [List.getElem?_toArray, List.getElem?_cons_succ, List.getElem?_cons_zero]; rfl)
  case hQT9 => exact fun _ _ _ h => h
  case hwT9 => rfl
  case hyT9 => (intro w hSw; (try dsimp only at hSw); go_simp; try with_reducible rfl)
  try simp only [Act.put, List.setIfInBounds_toArray, List.set_cons_zero, List.set_cons_succ]
  refine wpAnyH_done (by kernel_rfl) ?_ _
  go_wp2
  go_ret
  have hz1 := hw.k.size
  rw [hsz 1] at hz1
  have hy2 := hp2.row.lt hp2.q.lt
  have hK3 : Keeps [] v2 v3 := (Keeps.refl [] v2).drawn hd3
  exact ⟨rfl, r, y1, _, dr, a2, c3, ⟨(hw.q.keeps hk2 (by simp; omega) (by simp; omega)).keeps hK3 (by simp) (by simp), hp2.keeps hK3 (by simp) (by simp), hxg, hxr, by omega, by omega⟩, (((hbk 1).more (by simp)).next hw.k (by simp)).next hk2 (by simp) |>.next hK3 (by simp), .inl rfl, by omega, by omega⟩
set_option maxRecDepth 100000 in
set_option maxHeartbeats 1000000 in
theorem step_look_neg (g r x y : Nat) (l : List ByteArray) (lim dr : Int) (a : Option Addr) (c : Nat) (n : Int) (t : ByteArray) (d : Int) (hd0 : (d == 0) = false) (hd1 : (d == 1) = false) (hd2 : (d == 2) = false) (w : World) (hS : Sy w g r x y l lim dr a c) (hn : n < 0) :
    Calls Try.prog 13 #[.pointer (some ⟨g, 0, none⟩), .pointer (some ⟨x, 0, none⟩), .agg #[.int .i64 d, .int .i64 n, .string t]] w (IsStep g r x y lim dr w) := by
  obtain ⟨hgl, hrl, hxl, hyl⟩ := hS.lt
  have hxg := hS.xg
  have hxr := hS.xr
  have hyg := hS.yg
  have hyr := hS.yr
  have hbk := boxed_keep w d n t
  have hbc := boxed_cell w d n t
  have HS : Hid (∀ q, Sy ((boxed w d n t).drewN q) g r x y l lim dr a c) := Lib.hid (fun q => hS.keeps (hbk q) (by simp))
  have hsz : ∀ q, ((boxed w d n t).drewN q).heap.size = w.heap.size + 1 := fun q => by simp
  clear hS
  have H0 := Lib.hid (sy_box _ _ _ _ _ _ _ _ _ _ _ _ _ HS.out)
  have hb1 : ∀ q, ((boxed w d n t).drewN q).cell? ⟨w.heap.size, 1, none⟩ = some (.int .i64 n) := fun q => hbc q 1
  have hx1 : ∀ q, ((boxed w d n t).drewN q).cell? ⟨x, 0, none⟩ = some (.slice a l.length c) := fun q => (HS.out q).p.q.cell 0
  have hdec : decide (n < 0) = true := decide_eq_true hn
  go_enter Try.func13, Try.ntmps13
  go_wp2_with fail
  refine (peek_out g r l lim dr n _ H0.out.q (by exact .inl hn)).mono ?_
  rintro e v1 ⟨rfl, rfl⟩
  have b1 : (boxed w d n t).cell? ⟨w.heap.size, 1, none⟩ = some (.int .i64 n) := hb1 0
  have x1 : (boxed w d n t).cell? ⟨x, 0, none⟩ = some (.slice a l.length c) := hx1 0
  have hbb : (boxed w d n t).heap.size = w.heap.size + 1 := hsz 0
  go_wp2_with fail
  go_quiet (fail)
  go_wp2
  go_ret
  have hz := hbk 0
  rw [World.drewN_zero] at hz
  have hK : ∀ q, Keeps [] (boxed w d n t) ((boxed w d n t).drewN q) := fun q => (Keeps.refl [] _).drewN q
  exact ⟨rfl, r, y, l, dr, a, c, H0.out.keeps (hK _) (by simp), (hz.next (hK _) (by simp)).more (by simp), .inl rfl, .inl rfl, by omega⟩
set_option maxRecDepth 100000 in
set_option maxHeartbeats 1000000 in
theorem step_look_big (g r x y : Nat) (l : List ByteArray) (lim dr : Int) (a : Option Addr) (c : Nat) (n : Int) (t : ByteArray) (d : Int) (hd0 : (d == 0) = false) (hd1 : (d == 1) = false) (hd2 : (d == 2) = false) (w : World) (hS : Sy w g r x y l lim dr a c) (hn0 : 0 ≤ n) (hn : (l.length : Int) ≤ n) :
    Calls Try.prog 13 #[.pointer (some ⟨g, 0, none⟩), .pointer (some ⟨x, 0, none⟩), .agg #[.int .i64 d, .int .i64 n, .string t]] w (IsStep g r x y lim dr w) := by
  obtain ⟨hgl, hrl, hxl, hyl⟩ := hS.lt
  have hxg := hS.xg
  have hxr := hS.xr
  have hyg := hS.yg
  have hyr := hS.yr
  have hbk := boxed_keep w d n t
  have hbc := boxed_cell w d n t
  have HS : Hid (∀ q, Sy ((boxed w d n t).drewN q) g r x y l lim dr a c) := Lib.hid (fun q => hS.keeps (hbk q) (by simp))
  have hsz : ∀ q, ((boxed w d n t).drewN q).heap.size = w.heap.size + 1 := fun q => by simp
  clear hS
  have H0 := Lib.hid (sy_box _ _ _ _ _ _ _ _ _ _ _ _ _ HS.out)
  have hb1 : ∀ q, ((boxed w d n t).drewN q).cell? ⟨w.heap.size, 1, none⟩ = some (.int .i64 n) := fun q => hbc q 1
  have hx1 : ∀ q, ((boxed w d n t).drewN q).cell? ⟨x, 0, none⟩ = some (.slice a l.length c) := fun q => (HS.out q).p.q.cell 0
  have hdec : decide (n < 0) = false := by simp; omega
  have hdec2 : decide ((l.length : Int) ≤ n) = true := decide_eq_true hn
  go_enter Try.func13, Try.ntmps13
  go_wp2_with fail
  refine (peek_out g r l lim dr n _ H0.out.q (by exact .inr hn)).mono ?_
  rintro e v1 ⟨rfl, rfl⟩
  have b1 : (boxed w d n t).cell? ⟨w.heap.size, 1, none⟩ = some (.int .i64 n) := hb1 0
  have x1 : (boxed w d n t).cell? ⟨x, 0, none⟩ = some (.slice a l.length c) := hx1 0
  have hbb : (boxed w d n t).heap.size = w.heap.size + 1 := hsz 0
  go_wp2_with fail
  go_quiet (fail)
  go_wp2
  go_ret
  have hz := hbk 0
  rw [World.drewN_zero] at hz
  have hK : ∀ q, Keeps [] (boxed w d n t) ((boxed w d n t).drewN q) := fun q => (Keeps.refl [] _).drewN q
  exact ⟨rfl, r, y, l, dr, a, c, H0.out.keeps (hK _) (by simp), (hz.next (hK _) (by simp)).more (by simp), .inl rfl, .inl rfl, by omega⟩
set_option maxRecDepth 100000 in
set_option maxHeartbeats 1000000 in
theorem step_look_in (g r x y : Nat) (l : List ByteArray) (lim dr : Int) (a : Option Addr) (c : Nat) (t : ByteArray) (d : Int) (hd0 : (d == 0) = false) (hd1 : (d == 1) = false) (hd2 : (d == 2) = false) (w : World) (hS : Sy w g r x y l lim dr a c) (k : Nat) (s : ByteArray) (hs : l[k]? = some s) :
    Calls Try.prog 13 #[.pointer (some ⟨g, 0, none⟩), .pointer (some ⟨x, 0, none⟩), .agg #[.int .i64 d, .int .i64 (k : Int), .string t]] w (IsStep g r x y lim dr w) := by
  obtain ⟨hgl, hrl, hxl, hyl⟩ := hS.lt
  have hxg := hS.xg
  have hxr := hS.xr
  have hyg := hS.yg
  have hyr := hS.yr
  have hbk := boxed_keep w d (k : Int) t
  have hbc := boxed_cell w d (k : Int) t
  have HS : Hid (∀ q, Sy ((boxed w d (k : Int) t).drewN q) g r x y l lim dr a c) := Lib.hid (fun q => hS.keeps (hbk q) (by simp))
  have hsz : ∀ q, ((boxed w d (k : Int) t).drewN q).heap.size = w.heap.size + 1 := fun q => by simp
  clear hS
  have H0 := Lib.hid (sy_box _ _ _ _ _ _ _ _ _ _ _ _ _ HS.out)
  have hb1 : ∀ q, ((boxed w d (k : Int) t).drewN q).cell? ⟨w.heap.size, 1, none⟩ = some (.int .i64 (k : Int)) := fun q => hbc q 1
  have hkl : k < l.length := (List.getElem?_eq_some_iff.1 hs).1
  have hll := (HS.out 0).p.len
  obtain ⟨b, rfl, hrow⟩ : ∃ b, a = some ⟨b, 0, none⟩ ∧ ∀ q, ((boxed w d (k : Int) t).drewN q).cell? ⟨b, k, none⟩ = some (.string s) := by
    rcases (HS.out 0).p.row with ⟨_, _, h3, _⟩ | ⟨h1, h2⟩
    · subst h3; simp at hkl
    · subst h1
      obtain ⟨b, hb, _, _, hcs⟩ := own_at h2 (by omega)
      injection hb with hb
      injection hb with hb
      subst hb
      exact ⟨_, rfl, fun q => hcs k s hs⟩
  have hx1 : ∀ q, ((boxed w d (k : Int) t).drewN q).cell? ⟨x, 0, none⟩ = some (.slice (some ⟨b, 0, none⟩) l.length c) := fun q => (HS.out q).p.q.cell 0
  have hdec : decide ((k : Int) < 0) = false := by simp
  have hdec2 : decide ((l.length : Int) ≤ (k : Int)) = false := by simp; omega
  have hk0 : (0 : Int) ≤ (k : Int) := by omega
  have hk1 : (k : Int) < (l.length : Int) := by omega
  go_enter Try.func13, Try.ntmps13
  go_wp2_with fail
  refine (peek_in g r l lim dr k s _ H0.out.q hs).mono ?_
  rintro e v1 ⟨rfl, q1, rfl⟩
  have b1 := hb1 q1
  have x1 := hx1 q1
  have r1 := hrow q1
  go_wp2_with fail
  go_quiet (fail)
  go_wp2_with fail
  go_quiet (fail)
  go_wp2
  go_ret
  have hz := hbk 0
  rw [World.drewN_zero] at hz
  have hK : ∀ q p s, Keeps [] (boxed w d (k : Int) t) ((((boxed w d (k : Int) t).drewN q).drewN p).drewN s) := fun q p s => (((Keeps.refl [] _).drewN q).drewN p).drewN s
  exact ⟨rfl, r, y, l, dr, _, c, H0.out.keeps (hK _ _ _) (by simp), (hz.next (hK _ _ _) (by simp)).more (by simp), .inl rfl, .inl rfl, by omega⟩
theorem step_any (g r x y : Nat) (l : List ByteArray) (lim dr : Int) (a : Option Addr) (c : Nat) (d n : Int) (t : ByteArray) (w : World) (hS : Sy w g r x y l lim dr a c) (hd : dr < 100000) :
    Calls Try.prog 13 #[.pointer (some ⟨g, 0, none⟩), .pointer (some ⟨x, 0, none⟩), .agg #[.int .i64 d, .int .i64 n, .string t]] w (IsStep g r x y lim dr w) := by
  by_cases h0 : d = 0
  · subst h0
    by_cases hf : (l.length : Int) < lim
    · exact step_in g r x y l lim dr a c n t w hS hf
    · exact step_full g r x y l lim dr a c n t w hS (by omega) hd
  by_cases h1 : d = 1
  · subst h1
    rcases l with _ | ⟨h, tl⟩
    · exact step_pop_none g r x y lim dr a c n t w hS
    · exact step_pop_some g r x y h tl lim dr a c n t w hS
  by_cases h2 : d = 2
  · subst h2
    exact step_take g r x y l lim dr a c n t w hS
  have e0 : (d == 0) = false := by simpa using h0
  have e1 : (d == 1) = false := by simpa using h1
  have e2 : (d == 2) = false := by simpa using h2
  by_cases hn : n < 0
  · exact step_look_neg g r x y l lim dr a c n t d e0 e1 e2 w hS hn
  by_cases hb : (l.length : Int) ≤ n
  · exact step_look_big g r x y l lim dr a c n t d e0 e1 e2 w hS (by omega) hb
  obtain ⟨k, rfl⟩ : ∃ k : Nat, n = (k : Int) := ⟨n.toNat, by omega⟩
  exact step_look_in g r x y l lim dr a c t d e0 e1 e2 w hS k _ (List.getElem?_eq_getElem (by omega : k < l.length))
end FiR
end Go.Proofs.Ytiemnnoeljphoaa
