/- Any deed on both queues; what both tell; the law QueuePlays. -/
import Derived.Test.YtaepcedcjhliaaaQueR
namespace Go.Proofs.Ytaepcedcjhliaaa
open Go.RowKit
namespace Qp
open Sm FiT
theorem step_any {q g r y c : Nat} {a : Option Addr} {l : List It} {dl : List Cl} {lim : Int} (d : Int) (x : It) (st n : Int) (v : Value) (w : World) (hq : Qe w q g r y a c l dl lim) (hx : Rf w [q, g, r, y] v l dl lim) :
    Calls Try.prog 15 #[.pointer (some ⟨q, 0, none⟩), v, .agg (dcl d x st n).toArray] w (IsStep q g r y lim w) := by
  by_cases h0 : d = 0
  · subst h0
    by_cases hf : (l.length : Int) + (dl.length : Int) < lim
    · exact step_in x st n v w hq hx hf
    · exact step_full x st n v w hq hx (by omega)
  · by_cases h1 : d = 1
    · subst h1; exact step_settle x st n v w hq hx
    · by_cases h2 : d = 2
      · subst h2
        rcases hl : setL l with _ | ⟨x1, t1⟩
        · exact step_head_nil x st n v w hq hx hl
        · exact step_head_some x st n v w hq hx x1 t1 hl
      · by_cases h3 : d = 3
        · subst h3
          rcases hl : setL l with _ | ⟨x1, t1⟩
          · exact step_fin_nil x st n v w hq hx hl
          · exact step_fin_some x st n v w hq hx x1 t1 hl
        · exact step_post d (by simpa using h0) (by simpa using h1) (by simpa using h2) (by simpa using h3) x st n v w hq hx
theorem keep9 {w V V1 : World} {b : Nat} {u0 u1 u2 : Value} (h : (V.cell? ⟨b, 0, none⟩ = some u0 ∧ V.cell? ⟨b, 1, none⟩ = some u1 ∧ V.cell? ⟨b, 2, none⟩ = some u2) ∧ Keeps [] w V) (hk : Keeps [] V V1) : (V1.cell? ⟨b, 0, none⟩ = some u0 ∧ V1.cell? ⟨b, 1, none⟩ = some u1 ∧ V1.cell? ⟨b, 2, none⟩ = some u2) ∧ Keeps [] w V1 := by
  obtain ⟨⟨h0, h1, h2⟩, h3⟩ := h
  have hb : b < V.heap.size := World.block_lt_of_cell? V ⟨b, 0, none⟩ h0
  exact ⟨⟨(hk.cell (p := ⟨b, 0, none⟩) hb (by simp)).trans h0, (hk.cell (p := ⟨b, 1, none⟩) hb (by simp)).trans h1, (hk.cell (p := ⟨b, 2, none⟩) hb (by simp)).trans h2⟩, h3.trans hk⟩
attribute [local irreducible] bk
set_option maxRecDepth 100000 in
set_option maxHeartbeats 2000000 in
theorem told_any {q g r y c : Nat} {a : Option Addr} {l : List It} {dl : List Cl} {lim : Int} {F : List Nat} (v : Value) (w : World) (hq : Qe w q g r y a c l dl lim) (hx : Rf w F v l dl lim) :
    Calls Try.prog 16 #[.pointer (some ⟨q, 0, none⟩), v] w fun e w' => e = .returned (.bool true) ∧ Keeps [] w w' := by
  have hhl := hq.hl
  have hhm := hq.hm
  have HX := Lib.hid hx
  have HQ := Lib.hid hq
  obtain ⟨a1, c1, b1, e1, rfl, _, _, _⟩ := hx
  have hB := Blk.new w 47 #[.slice a1 l.length c1, .slice b1 dl.length e1, .int .i64 lim]
  have hk0 : Keeps [] w (w.alloc (.cells #[.slice a1 l.length c1, .slice b1 dl.length e1, .int .i64 lim] 47)).drew := ((Keeps.refl _ w).alloc _).drew
  have hwr : IntKind.i64.wrap ((l.length : Int) + (dl.length : Int)) = (l.length : Int) + (dl.length : Int) := by rw [IntKind.wrap_i64]; omega
  clear hq
  go_enter Try.func16, Try.ntmps16
  go_wp2
  refine wp_region_held_drew (S := (fun V => (V.cell? ⟨w.heap.size, 0, none⟩ = some (.slice a1 l.length c1) ∧ V.cell? ⟨w.heap.size, 1, none⟩ = some (.slice b1 dl.length e1) ∧ V.cell? ⟨w.heap.size, 2, none⟩ = some (.int .i64 lim)) ∧ Keeps [] w V)) (by kernel_rfl) ⟨blkq hB, hk0⟩ (fun hHeld => ?_)
  refine' wpAnyH_take (i := 0) (oi := _) (v := _) ?hT0 (by kernel_rfl) (by kernel_rfl) (by kernel_rfl) ?hQT0 (Or.inl ⟨?hwT0, ?hyT0⟩) hHeld ?restT0
  case hT0 => (simp only [List.getElem?_toArray, List.getElem?_cons_zero]; rfl)
  case hQT0 => exact fun _ _ _ h => h
  case hwT0 => rfl
  case hyT0 => (intro w hSw; (try dsimp only at hSw); go_simp; try with_reducible rfl)
  try simp only [Act.put, List.setIfInBounds_toArray, List.set_cons_zero, List.set_cons_succ]
  refine' wpAnyH_take (i := 2) (oi := _) (v := _) ?hT2 (by kernel_rfl) (by kernel_rfl) (by kernel_rfl) ?hQT2 (Or.inl ⟨?hwT2, ?hyT2⟩) hHeld ?restT2
  case hT2 => (simp only [List.getElem?_toArray, List.getElem?_cons_succ, List.getElem?_cons_zero]; rfl)
  case hQT2 => exact fun _ _ _ h => h
  case hwT2 => rfl
  case hyT2 => (intro w hSw; (try dsimp only at hSw); go_simp; try with_reducible rfl)
  try simp only [Act.put, List.setIfInBounds_toArray, List.set_cons_zero, List.set_cons_succ]
  refine' wpAnyH_take (i := 3) (oi := _) (v := _) ?hT3 (by kernel_rfl) (by kernel_rfl) (by kernel_rfl) ?hQT3 (Or.inl ⟨?hwT3, ?hyT3⟩) hHeld ?restT3
  case hT3 => (simp only [List.getElem?_toArray, List.getElem?_cons_succ, List.getElem?_cons_zero]; rfl)
  case hQT3 => exact fun _ _ _ h => h
  case hwT3 => rfl
  case hyT3 => (intro w hSw; (try dsimp only at hSw); go_simp; try with_reducible rfl)
  try simp only [Act.put, List.setIfInBounds_toArray, List.set_cons_zero, List.set_cons_succ]
  refine' wpAnyH_take (i := 4) (oi := _) (v := _) ?hT4 (by kernel_rfl) (by kernel_rfl) (by kernel_rfl) ?hQT4 (Or.inl ⟨?hwT4, ?hyT4⟩) hHeld ?restT4
  case hT4 => (simp only [List.getElem?_toArray, List.getElem?_cons_succ, List.getElem?_cons_zero]; rfl)
  case hQT4 => exact fun _ _ _ h => h
  case hwT4 => rfl
  case hyT4 => (intro w hSw; (try dsimp only at hSw); go_simp; try with_reducible rfl)
  try simp only [Act.put, List.setIfInBounds_toArray, List.set_cons_zero, List.set_cons_succ]
  refine wpAnyH_ready (rs := [1]) (by kernel_rfl) (by simp) ?_
  refine AllReadyH.cons rfl (fun K hK => ?_) AllReadyH.nil
  go_simp
  refine (waits_any _ (HQ.out.kp hHeld.2)).mono ?_
  rintro e V1 ⟨rfl, rfl⟩
  try go_wp2_with fail
  refine hK.out _ _ (hHeld) (fun hHeld' => ?_)
  clear hK K hHeld
  have hHeld := hHeld'
  clear hHeld'
  try simp only [Act.put, List.setIfInBounds_toArray, List.set_cons_zero, List.set_cons_succ]
  refine' wpAnyH_take (i := 5) (oi := _) (v := _) ?hT5 (by kernel_rfl) (by kernel_rfl) (by kernel_rfl) ?hQT5 (Or.inl ⟨?hwT5, ?hyT5⟩) hHeld ?restT5
  case hT5 => (simp only [List.getElem?_toArray, List.getElem?_cons_succ, List.getElem?_cons_zero]; rfl)
  case hQT5 => exact fun _ _ _ h => h
  case hwT5 => rfl
  case hyT5 => (intro w hSw; (try dsimp only at hSw); go_simp; try with_reducible rfl)
  try simp only [Act.put, List.setIfInBounds_toArray, List.set_cons_zero, List.set_cons_succ]
  refine' wpAnyH_take (i := 6) (oi := _) (v := _) ?hT6 (by kernel_rfl) (by kernel_rfl) (by kernel_rfl) ?hQT6 (Or.inl ⟨?hwT6, ?hyT6⟩) hHeld ?restT6
  case hT6 => (simp only [List.getElem?_toArray, List.getElem?_cons_succ, List.getElem?_cons_zero]; rfl)
  case hQT6 => exact fun _ _ _ h => h
  case hwT6 => rfl
  case hyT6 => (intro w hSw; (try dsimp only at hSw); go_simp; try with_reducible rfl)
  try simp only [Act.put, List.setIfInBounds_toArray, List.set_cons_zero, List.set_cons_succ]
  refine' wpAnyH_take (i := 7) (oi := _) (v := _) ?hT7 (by kernel_rfl) (by kernel_rfl) (by kernel_rfl) ?hQT7 (Or.inl ⟨?hwT7, ?hyT7⟩) hHeld ?restT7
  case hT7 => (simp only [List.getElem?_toArray, List.getElem?_cons_succ, List.getElem?_cons_zero]; rfl)
  case hQT7 => exact fun _ _ _ h => h
  case hwT7 => rfl
  case hyT7 => (intro w hSw; (try dsimp only at hSw); go_simp; try with_reducible rfl)
  try simp only [Act.put, List.setIfInBounds_toArray, List.set_cons_zero, List.set_cons_succ]
  refine' wpAnyH_take (i := 9) (oi := _) (v := _) ?hT9 (by kernel_rfl) (by kernel_rfl) (by kernel_rfl) ?hQT9 (Or.inl ⟨?hwT9, ?hyT9⟩) hHeld ?restT9
  case hT9 => (simp only [List.getElem?_toArray, List.getElem?_cons_succ, List.getElem?_cons_zero]; rfl)
  case hQT9 => exact fun _ _ _ h => h
  case hwT9 => rfl
  case hyT9 => (intro w hSw; (try dsimp only at hSw); go_simp; try with_reducible rfl)
  try simp only [Act.put, List.setIfInBounds_toArray, List.set_cons_zero, List.set_cons_succ]
  refine' wpAnyH_take (i := 10) (oi := _) (v := _) ?hT10 (by kernel_rfl) (by kernel_rfl) (by kernel_rfl) ?hQT10 (Or.inl ⟨?hwT10, ?hyT10⟩) hHeld ?restT10
  case hT10 => (simp only [List.getElem?_toArray, List.getElem?_cons_succ, List.getElem?_cons_zero]; rfl)
  case hQT10 => exact fun _ _ _ h => h
  case hwT10 => rfl
  case hyT10 => (intro w hSw; (try dsimp only at hSw); go_simp; try with_reducible rfl)
  try simp only [Act.put, List.setIfInBounds_toArray, List.set_cons_zero, List.set_cons_succ]
  refine' wpAnyH_take (i := 11) (oi := _) (v := _) ?hT11 (by kernel_rfl) (by kernel_rfl) (by kernel_rfl) ?hQT11 (Or.inl ⟨?hwT11, ?hyT11⟩) hHeld ?restT11
  case hT11 => (simp only [List.getElem?_toArray, List.getElem?_cons_succ, List.getElem?_cons_zero]; rfl)
  case hQT11 => exact fun _ _ _ h => h
  case hwT11 => rfl
  case hyT11 => (intro w hSw; (try dsimp only at hSw); go_simp; try with_reducible rfl)
  try simp only [Act.put, List.setIfInBounds_toArray, List.set_cons_zero, List.set_cons_succ]
  refine' wpAnyH_take (i := 12) (oi := _) (v := _) ?hT12 (by kernel_rfl) (by kernel_rfl) (by kernel_rfl) ?hQT12 (Or.inl ⟨?hwT12, ?hyT12⟩) hHeld ?restT12
  case hT12 => (simp only [List.getElem?_toArray, List.getElem?_cons_succ, List.getElem?_cons_zero]; rfl)
  case hQT12 => exact fun _ _ _ h => h
  case hwT12 => rfl
  case hyT12 => (intro w hSw; (try dsimp only at hSw); go_simp; try with_reducible rfl)
  try simp only [Act.put, List.setIfInBounds_toArray, List.set_cons_zero, List.set_cons_succ]
  refine' wpAnyH_take (i := 13) (oi := _) (v := _) ?hT13 (by kernel_rfl) (by kernel_rfl) (by kernel_rfl) ?hQT13 (Or.inl ⟨?hwT13, ?hyT13⟩) hHeld ?restT13
  case hT13 => (simp only [List.getElem?_toArray, List.getElem?_cons_succ, List.getElem?_cons_zero]; rfl)
  case hQT13 => exact fun _ _ _ h => h
  case hwT13 => rfl
  case hyT13 => (intro w hSw; (try dsimp only at hSw); go_simp; try with_reducible rfl)
  try simp only [Act.put, List.setIfInBounds_toArray, List.set_cons_zero, List.set_cons_succ]
  refine' wpAnyH_take (i := 14) (oi := _) (v := _) ?hT14 (by kernel_rfl) (by kernel_rfl) (by kernel_rfl) ?hQT14 (Or.inl ⟨?hwT14, ?hyT14⟩) hHeld ?restT14
  case hT14 => (simp only [List.getElem?_toArray, List.getElem?_cons_succ, List.getElem?_cons_zero]; rfl)
  case hQT14 => exact fun _ _ _ h => h
  case hwT14 => rfl
  case hyT14 => (intro w hSw; (try dsimp only at hSw); go_simp; try with_reducible rfl)
  try simp only [Act.put, List.setIfInBounds_toArray, List.set_cons_zero, List.set_cons_succ]
  refine' wpAnyH_take (i := 15) (oi := _) (v := _) ?hT15 (by kernel_rfl) (by kernel_rfl) (by kernel_rfl) ?hQT15 (Or.inl ⟨?hwT15, ?hyT15⟩) hHeld ?restT15
  case hT15 => (simp only [List.getElem?_toArray, List.getElem?_cons_succ, List.getElem?_cons_zero]; rfl)
  case hQT15 => exact fun _ _ _ h => h
  case hwT15 => rfl
  case hyT15 => (intro w hSw; (try dsimp only at hSw); go_simp; try with_reducible rfl)
  try simp only [Act.put, List.setIfInBounds_toArray, List.set_cons_zero, List.set_cons_succ]
  refine wpAnyH_ready (rs := [8]) (by kernel_rfl) (by simp) ?_
  refine AllReadyH.cons rfl (fun K hK => ?_) AllReadyH.nil
  go_simp
  refine (len_q _ (HQ.out.kp hHeld.2)).mono ?_
  rintro e V1 ⟨rfl, hd1⟩
  try go_wp2_with fail
  refine hK.out _ _ (keep9 hHeld ((Keeps.refl [] _).drawn hd1)) (fun hHeld' => ?_)
  clear hK K hHeld
  have hHeld := hHeld'
  clear hHeld'
  try simp only [Act.put, List.setIfInBounds_toArray, List.set_cons_zero, List.set_cons_succ]
  refine' wpAnyH_take (i := 16) (oi := _) (v := _) ?hT16 (by kernel_rfl) (by kernel_rfl) (by kernel_rfl) ?hQT16 (Or.inl ⟨?hwT16, ?hyT16⟩) hHeld ?restT16
  case hT16 => (simp only [List.getElem?_toArray, List.getElem?_cons_succ, List.getElem?_cons_zero]; rfl)
  case hQT16 => exact fun _ _ _ h => h
  case hwT16 => rfl
  case hyT16 => (intro w hSw; (try dsimp only at hSw); go_simp; try with_reducible rfl)
  try simp only [Act.put, List.setIfInBounds_toArray, List.set_cons_zero, List.set_cons_succ]
  refine' wpAnyH_take (i := 17) (oi := _) (v := _) ?hT17 (by kernel_rfl) (by kernel_rfl) (by kernel_rfl) ?hQT17 (Or.inl ⟨?hwT17, ?hyT17⟩) hHeld ?restT17
  case hT17 => (simp only [List.getElem?_toArray, List.getElem?_cons_succ, List.getElem?_cons_zero]; rfl)
  case hQT17 => exact fun _ _ _ h => h
  case hwT17 => rfl
  case hyT17 => (intro w hSw; (try dsimp only at hSw); go_simp; try with_reducible rfl)
  try simp only [Act.put, List.setIfInBounds_toArray, List.set_cons_zero, List.set_cons_succ]
  refine' wpAnyH_take (i := 18) (oi := _) (v := _) ?hT18 (by kernel_rfl) (by kernel_rfl) (by kernel_rfl) ?hQT18 (Or.inl ⟨?hwT18, ?hyT18⟩) hHeld ?restT18
  case hT18 => (simp only [List.getElem?_toArray, List.getElem?_cons_succ, List.getElem?_cons_zero]; rfl)
  case hQT18 => exact fun _ _ _ h => h
  case hwT18 => rfl
  case hyT18 => (intro w hSw; (try dsimp only at hSw); go_simp; try with_reducible rfl)
  try simp only [Act.put, List.setIfInBounds_toArray, List.set_cons_zero, List.set_cons_succ]
  refine' wpAnyH_take (i := 19) (oi := _) (v := _) ?hT19 (by kernel_rfl) (by kernel_rfl) (by kernel_rfl) ?hQT19 (Or.inl ⟨?hwT19, ?hyT19⟩) hHeld ?restT19
  case hT19 => (simp only [List.getElem?_toArray, List.getElem?_cons_succ, List.getElem?_cons_zero]; rfl)
  case hQT19 => exact fun _ _ _ h => h
  case hwT19 => rfl
  case hyT19 => (intro w hSw; (try dsimp only at hSw); go_simp; try with_reducible rfl)
  try simp only [Act.put, List.setIfInBounds_toArray, List.set_cons_zero, List.set_cons_succ]
  refine' wpAnyH_take (i := 21) (oi := _) (v := _) ?hT21 (by kernel_rfl) (by kernel_rfl) (by kernel_rfl) ?hQT21 (Or.inl ⟨?hwT21, ?hyT21⟩) hHeld ?restT21
  case hT21 => (simp only [List.getElem?_toArray, List.getElem?_cons_succ, List.getElem?_cons_zero]; rfl)
  case hQT21 => exact fun _ _ _ h => h
  case hwT21 => rfl
  case hyT21 => (intro w hSw; (try dsimp only at hSw); go_simp; try with_reducible rfl)
  try simp only [Act.put, List.setIfInBounds_toArray, List.set_cons_zero, List.set_cons_succ]
  refine wpAnyH_ready (rs := [20]) (by kernel_rfl) (by simp) ?_
  refine AllReadyH.cons rfl (fun K hK => ?_) AllReadyH.nil
  go_simp
  refine (backlog_any _ (HQ.out.kp hHeld.2)).mono ?_
  rintro e V1 ⟨rfl, hk1⟩
  try go_wp2_with fail
  refine hK.out _ _ (keep9 hHeld hk1) (fun hHeld' => ?_)
  clear hK K hHeld
  have hHeld := hHeld'
  clear hHeld'
  try simp only [Act.put, List.setIfInBounds_toArray, List.set_cons_zero, List.set_cons_succ]
  refine wpAnyH_ready (rs := [22]) (by kernel_rfl) (by simp) ?_
  refine AllReadyH.cons rfl (fun K hK => ?_) AllReadyH.nil
  go_simp
  refine (rbacklog_any _ _ (HX.out.kp hHeld.2) (by omega)).mono ?_
  rintro e V1 ⟨rfl, hk1⟩
  try go_wp2_with fail
  refine hK.out _ _ (keep9 hHeld hk1) (fun hHeld' => ?_)
  clear hK K hHeld
  have hHeld := hHeld'
  clear hHeld'
  try simp only [Act.put, List.setIfInBounds_toArray, List.set_cons_zero, List.set_cons_succ]
  refine' wpAnyH_take (i := 23) (oi := _) (v := _) ?hT23 (by kernel_rfl) (by kernel_rfl) (by kernel_rfl) ?hQT23 (Or.inl ⟨?hwT23, ?hyT23⟩) hHeld ?restT23
  case hT23 => (simp only [List.getElem?_toArray, List.getElem?_cons_succ, List.getElem?_cons_zero]; rfl)
  case hQT23 => exact fun _ _ _ h => h
  case hwT23 => rfl
  case hyT23 => (intro w hSw; (try dsimp only at hSw); go_simp; try with_reducible rfl)
  try simp only [Act.put, List.setIfInBounds_toArray, List.set_cons_zero, List.set_cons_succ]
  refine' wpAnyH_take (i := 24) (oi := _) (v := _) ?hT24 (by kernel_rfl) (by kernel_rfl) (by kernel_rfl) ?hQT24 (Or.inl ⟨?hwT24, ?hyT24⟩) hHeld ?restT24
  case hT24 => (simp only [List.getElem?_toArray, List.getElem?_cons_succ, List.getElem?_cons_zero]; rfl)
  case hQT24 => exact fun _ _ _ h => h
  case hwT24 => rfl
  case hyT24 => (intro w hSw; (try dsimp only at hSw); go_simp; try with_reducible rfl)
  try simp only [Act.put, List.setIfInBounds_toArray, List.set_cons_zero, List.set_cons_succ]
  refine' wpAnyH_take (i := 25) (oi := _) (v := _) ?hT25 (by kernel_rfl) (by kernel_rfl) (by kernel_rfl) ?hQT25 (Or.inl ⟨?hwT25, ?hyT25⟩) hHeld ?restT25
  case hT25 => (simp only [List.getElem?_toArray, List.getElem?_cons_succ, List.getElem?_cons_zero]; rfl)
  case hQT25 => exact fun _ _ _ h => h
  case hwT25 => rfl
  case hyT25 => (intro w hSw; (try dsimp only at hSw); go_simp; try with_reducible rfl)
  try simp only [Act.put, List.setIfInBounds_toArray, List.set_cons_zero, List.set_cons_succ]
  refine wpAnyH_done (by kernel_rfl) ?_ _
  have HK := Lib.hid hHeld.2
  clear hHeld
  go_wp2
  go_ret
  exact ⟨rfl, HK.out⟩

/-- The state of the law's loop. -/
structure PlS (w wr : World) (q p6 : Nat) (lim : Int) (g r y : Nat) (a : Option Addr) (c : Nat) (l : List It) (dl : List Cl) (u0 u1 u2 : Value) : Prop where
  qe : Qe wr q g r y a c l dl lim
  rf : Rf wr [p6, q, g, r, y] (.agg #[u0, u1, u2]) l dl lim
  b6 : Blk wr p6 47 #[u0, u1, u2]
  kp : Keeps [] w wr
  bs : w.heap.size ≤ q ∧ w.heap.size ≤ g ∧ w.heap.size ≤ r ∧ w.heap.size ≤ y ∧ w.heap.size ≤ p6
  pn : p6 ≠ q ∧ p6 ≠ g ∧ p6 ≠ r ∧ p6 ≠ y
def Pl (w : World) (q p6 : Nat) (lim : Int) (wr : World) : Prop := ∃ g r y a c l dl u0 u1 u2, PlS w wr q p6 lim g r y a c l dl u0 u1 u2
theorem Pl.open_ {w wr : World} {q p6 : Nat} {lim : Int} (h : Pl w q p6 lim wr) : ∃ g r y a c l dl u0 u1 u2, PlS w wr q p6 lim g r y a c l dl u0 u1 u2 := h
theorem PlS.kk {w wr w' : World} {q p6 g r y c : Nat} {lim : Int} {a : Option Addr} {l : List It} {dl : List Cl} {u0 u1 u2 : Value} (h : PlS w wr q p6 lim g r y a c l dl u0 u1 u2) (hk : Keeps [] wr w') : PlS w w' q p6 lim g r y a c l dl u0 u1 u2 :=
  ⟨h.qe.kp hk, h.rf.kp hk, h.b6.keeps hk (by simp), h.kp.trans hk, h.bs, h.pn⟩
/-- A row lies in no block whose first cell is a slice. -/
theorem rf_apart {w : World} {F : List Nat} {v : Value} {l : List It} {dl : List Cl} {lim : Int} {p6 : Nat} {t : TypeId} {s : Option Addr} {m k : Nat} {u1 u2 : Value} (h : Rf w F v l dl lim) (hb : Blk w p6 t #[.slice s m k, u1, u2]) : Rf w (p6 :: F) v l dl lim := by
  obtain ⟨a, c, b, d, hv, ha, hd, hc⟩ := h
  have key : ∀ {p : Option Addr} {n : Nat} {L : List Cl}, Rd w F p n (flat L) → Rd w (p6 :: F) p n (flat L) := fun {p n L} h => by
    refine ⟨h.1, fun h0 => ?_⟩
    have hl := h.1
    rw [flat_len] at hl
    obtain ⟨X, hX⟩ : ∃ X, L[0]? = some X := ⟨_, List.getElem?_eq_getElem (by omega)⟩
    obtain ⟨b, e, h1, h2, h3⟩ := h.2 h0
    refine ⟨b, e, h1, ?_, h3⟩
    have h4 := h3 (0 * 9 + 0) _ (flat_get L 0 X hX 0 (.int .i64 X.it.k) rfl)
    simp only [List.mem_cons, not_or]
    refine ⟨?_, h2⟩
    rintro rfl
    have h5 := hb.cell 0
    rw [h4] at h5
    cases h5
  exact ⟨a, c, b, d, hv, key ha, key hd, hc⟩
theorem PlS.step {w wr w' : World} {q p6 g r y c : Nat} {lim : Int} {a : Option Addr} {l : List It} {dl : List Cl} {s0 : Option Addr} {m0 k0 : Nat} {u1 u2 : Value} {e : Ending} (h : PlS w wr q p6 lim g r y a c l dl (.slice s0 m0 k0) u1 u2) (hs : IsStep q g r y lim wr e w') :
    ∃ x0 x1 x2 y0 y1 y2 z, e = .returned (.tuple #[.agg #[.slice x0 x1 x2, .slice y0 y1 y2, .int .i64 z], .bool true]) ∧ Blk w' p6 47 #[.slice s0 m0 k0, u1, u2] ∧ Keeps [] w w' ∧
      Pl w q p6 lim (((w'.setCell ⟨p6, 0, none⟩ (.slice x0 x1 x2)).setCell ⟨p6, 1, none⟩ (.slice y0 y1 y2)).setCell ⟨p6, 2, none⟩ (.int .i64 z)) := by
  obtain ⟨v, l', dl', r', y', a', c', rfl, h1, h2, h3, h4, h5⟩ := hs
  have hz := h.kp.size
  obtain ⟨b1, b2, b3, b4, b5⟩ := h.bs
  obtain ⟨n1, n2, n3, n4⟩ := h.pn
  have hl6 := h.b6.lt
  have hlq := h.qe.lt
  have hb6 := h.b6.keeps h3 (by simp; omega)
  have hk := h.kp.next h3 (by simp; omega)
  have hrf := rf_apart h2 hb6
  obtain ⟨a1, c1, b1', d1, rfl, ha, hb, hc⟩ := h2
  refine ⟨a1, l'.length, c1, b1', dl'.length, d1, lim, rfl, hb6, hk, ?_⟩
  refine ⟨g, r', y', a', c', l', dl', _, _, _, ⟨h1.keeps (keep3 p6 _ _ _) (by simp; omega), hrf.keeps (keep3 p6 _ _ _) (by simp), ((hb6.set_ 0 _).set_ 1 _).set_ 2 _, hk.next (keep3 p6 _ _ _) (by simp; omega), ⟨b1, b2, by omega, by omega, b5⟩, ⟨n1, n2, by omega, by omega⟩⟩⟩
end Qp
end Go.Proofs.Ytaepcedcjhliaaa
