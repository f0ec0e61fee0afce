/- The law's step: an owner's raise. -/
import Derived.Test.YtckindhnhbcgoaaLatchI
namespace Go.Proofs.Ytckindhnhbcgoaa
open Go.RowKit
namespace La
open Sm
theorem sync_x {n k : Nat} {m : Int} {L D : Nat → Int} {X : Nat → Nat → Int} {Y : Nat → Nat → Bool} (h : Sync n m L D X Y) (hk : k < n) (hm : m ≤ 1000) : ∀ j, j < 8 → 0 ≤ X k j ∧ X k j ≤ 1000 := fun j hj => by
  have := (h k hk).2.2 j hj
  omega
attribute [local irreducible] Bd oL oD oV rL rE raiseX up num8 isO
set_option maxRecDepth 100000 in
set_option maxHeartbeats 8000000 in
theorem step_raise (gb gr n c k : Nat) (m : Int) (x : Int) (L D : Nat → Int) (X : Nat → Nat → Int) (Y : Nat → Nat → Bool) (w : World) (hA : Bd w gb L D n) (hR : Rows w gr n X Y) (hS : Sync n m L D X Y) (hn : n ≤ 8) (hg : gb ≠ gr) (hk : k < n) (_hm0 : 0 ≤ m) (hm : m ≤ 1000) (hx : 0 ≤ x ∧ x ≤ 255) :
    Calls Try.prog 7 #[.pointer (some ⟨gb, 0, none⟩), .slice (some ⟨gr, 0, none⟩) n c, .agg #[.int .i64 0, .int .i64 ((k : Int) + 1), .int .i64 x]] w (IsStep gb gr n (m + 1) w) := by
  have HXB := Lib.hid (sync_x hS hk hm)
  have HSY := Lib.hid (hS.raise hk x hx)
  have hdec : decide ((k : Int) + 1 ≤ (n : Int)) = true := by simp; omega
  have hD : Blk (w.alloc (.cells #[.int .i64 0, .int .i64 ((k : Int) + 1), .int .i64 x] 28)) w.heap.size 28 #[.int .i64 0, .int .i64 ((k : Int) + 1), .int .i64 x] := Blk.new _ _ _
  have hA' := hA.alloc (.cells #[.int .i64 0, .int .i64 ((k : Int) + 1), .int .i64 x] 28)
  have hR' := hR.alloc (.cells #[.int .i64 0, .int .i64 ((k : Int) + 1), .int .i64 x] 28)
  have hK : Keeps [gb, gr] w (w.alloc (.cells #[.int .i64 0, .int .i64 ((k : Int) + 1), .int .i64 x] 28)) := (Keeps.refl _ _).alloc _
  have hgb := hA.lt
  have hgr := hR.lt
  have HREF := Lib.hid (fun V => rraise_any x (X k) (Y k) V hx.1 hx.2 HXB.out)
  clear hA hR hS
  go_enter Try.func7, Try.ntmps7
  go_wp2_with fail
  generalize w.alloc (.cells #[.int .i64 0, .int .i64 ((k : Int) + 1), .int .i64 x] 28) = V at *
  generalize w.heap.size = gd at *
  have q0 := hD.cell 0
  have q1 := hD.cell 1
  have q2 := hD.cell 2
  have HC := Lib.hid (raise_any gb n ((k : Int) + 1) x L D V hA' (by omega))
  have HE0 : Hid (rE n ((k : Int) + 1) x = 0) := Lib.hid (by unfold rE; rw [if_pos (isO_yes hk), if_pos hx])
  have HE1 : Hid (rL n ((k : Int) + 1) x L = upd L k (bits .or .i64 (L k) x)) := Lib.hid (by unfold rL; rw [if_pos ⟨isO_yes hk, hx⟩, at_k])
  rw [HE0.out, HE1.out] at HC
  clear HE0 HE1
  obtain ⟨hx0, hx1⟩ := hx
  go_wp2_with fail
  refine HC.out.mono ?_
  clear HC
  rintro e v1 ⟨rfl, hA1, j1⟩
  have hR1 := hR'.keeps j1 (by simpa using hg.symm)
  have hD1 := hD.keeps j1 (by simp; omega)
  have hK1 := hK.next j1 (by simp)
  clear q0 q1 q2 hA' hR' hD hK j1
  have q0 := hD1.cell 0
  have q1 : v1.cell? ⟨gd, 1, none⟩ = some (.int .i64 ((k : Int) + 1)) := hD1.cell 1
  have q2 : v1.cell? ⟨gd, 2, none⟩ = some (.int .i64 x) := hD1.cell 2
  have hgd := hD1.lt
  clear hD1
  have hsub : IntKind.i64.wrap (k : Int) = (k : Int) := IntWalk.i64_in _ (by omega)
  have hk0 : (0 : Int) ≤ (k : Int) := by omega
  have hk1 : (k : Int) < (n : Int) := by omega
  go_wp2
  refine wp_region_held_drew (S := (fun V => V.cell? ⟨gd, 1, none⟩ = some (.int .i64 ((k : Int) + 1)) ∧ V.cell? ⟨gd, 2, none⟩ = some (.int .i64 x))) (by kernel_rfl) ⟨q1, q2⟩ (fun hHeld => ?_)
  refine' wpAnyH_take (i := 0) (oi := _) (v := _) ?hJ10 (by kernel_rfl) (by kernel_rfl) (by kernel_rfl) ?hQJ10 (Or.inl ⟨?hwJ10, ?hyJ10⟩) hHeld ?restJ10
  case hJ10 => (simp only [List.getElem?_toArray, List.getElem?_cons_zero]; rfl)
  case hQJ10 => exact fun _ _ _ h => h
  case hwJ10 => rfl
  case hyJ10 => (intro w hSw; (try dsimp only at hSw); go_simp; try with_reducible rfl)
  try simp only [Act.put, List.setIfInBounds_toArray, List.set_cons_zero, List.set_cons_succ]
  refine' wpAnyH_take (i := 1) (oi := _) (v := _) ?hJ11 (by kernel_rfl) (by kernel_rfl) (by kernel_rfl) ?hQJ11 (Or.inl ⟨?hwJ11, ?hyJ11⟩) hHeld ?restJ11
  case hJ11 => (simp only [List.getElem?_toArray, List.getElem?_cons_succ, List.getElem?_cons_zero]; rfl)
  case hQJ11 => exact fun _ _ _ h => h
  case hwJ11 => rfl
  case hyJ11 => (intro w hSw; (try dsimp only at hSw); go_simp; try with_reducible rfl)
  try simp only [Act.put, List.setIfInBounds_toArray, List.set_cons_zero, List.set_cons_succ]
  refine' wpAnyH_take (i := 2) (oi := _) (v := _) ?hJ12 (by kernel_rfl) (by kernel_rfl) (by kernel_rfl) ?hQJ12 (Or.inl ⟨?hwJ12, ?hyJ12⟩) hHeld ?restJ12
  case hJ12 => (simp only [List.getElem?_toArray, List.getElem?_cons_succ, List.getElem?_cons_zero]; rfl)
  case hQJ12 => exact fun _ _ _ h => h
  case hwJ12 => rfl
  case hyJ12 => (intro w hSw; (try dsimp only at hSw); go_simp; try with_reducible rfl)
  try simp only [Act.put, List.setIfInBounds_toArray, List.set_cons_zero, List.set_cons_succ]
  refine' wpAnyH_take (i := 3) (oi := _) (v := _) ?hJ13 (by kernel_rfl) (by kernel_rfl) (by kernel_rfl) ?hQJ13 (Or.inl ⟨?hwJ13, ?hyJ13⟩) hHeld ?restJ13
  case hJ13 => (simp only [List.getElem?_toArray, List.getElem?_cons_succ, List.getElem?_cons_zero]; rfl)
  case hQJ13 => exact fun _ _ _ h => h
  case hwJ13 => rfl
  case hyJ13 => (intro w hSw; (try dsimp only at hSw); go_simp; try with_reducible rfl)
  try simp only [Act.put, List.setIfInBounds_toArray, List.set_cons_zero, List.set_cons_succ]
  refine' wpAnyH_take (i := 4) (oi := _) (v := _) ?hJ14 (by kernel_rfl) (by kernel_rfl) (by kernel_rfl) ?hQJ14 (Or.inl ⟨?hwJ14, ?hyJ14⟩) hHeld ?restJ14
  case hJ14 => (simp only [List.getElem?_toArray, List.getElem?_cons_succ, List.getElem?_cons_zero]; rfl)
  case hQJ14 => exact fun _ _ _ h => h
  case hwJ14 => rfl
  case hyJ14 => (intro w hSw; (try dsimp only at hSw); go_simp; try with_reducible rfl)
  try simp only [Act.put, List.setIfInBounds_toArray, List.set_cons_zero, List.set_cons_succ]
  refine' wpAnyH_take (i := 5) (oi := _) (v := _) ?hJ15 (by kernel_rfl) (by kernel_rfl) (by kernel_rfl) ?hQJ15 (Or.inl ⟨?hwJ15, ?hyJ15⟩) hHeld ?restJ15
  case hJ15 => (simp only [List.getElem?_toArray, List.getElem?_cons_succ, List.getElem?_cons_zero]; rfl)
  case hQJ15 => exact fun _ _ _ h => h
  case hwJ15 => rfl
  case hyJ15 => (intro w hSw; (try dsimp only at hSw); go_simp; try with_reducible rfl)
  try simp only [Act.put, List.setIfInBounds_toArray, List.set_cons_zero, List.set_cons_succ]
  refine' wpAnyH_take (i := 6) (oi := _) (v := _) ?hJ16 (by kernel_rfl) (by kernel_rfl) (by kernel_rfl) ?hQJ16 (Or.inl ⟨?hwJ16, ?hyJ16⟩) hHeld ?restJ16
  case hJ16 => (simp only [List.getElem?_toArray, List.getElem?_cons_succ, List.getElem?_cons_zero]; rfl)
  case hQJ16 => exact fun _ _ _ h => h
  case hwJ16 => rfl
  case hyJ16 => (intro w hSw; (try dsimp only at hSw); go_simp; try with_reducible rfl)
  try simp only [Act.put, List.setIfInBounds_toArray, List.set_cons_zero, List.set_cons_succ]
  refine' wpAnyH_take (i := 7) (oi := _) (v := _) ?hJ17 (by kernel_rfl) (by kernel_rfl) (by kernel_rfl) ?hQJ17 (Or.inl ⟨?hwJ17, ?hyJ17⟩) hHeld ?restJ17
  case hJ17 => (simp only [List.getElem?_toArray, List.getElem?_cons_succ, List.getElem?_cons_zero]; rfl)
  case hQJ17 => exact fun _ _ _ h => h
  case hwJ17 => rfl
  case hyJ17 => (intro w hSw; (try dsimp only at hSw); go_simp; try with_reducible rfl)
  try simp only [Act.put, List.setIfInBounds_toArray, List.set_cons_zero, List.set_cons_succ]
  refine' wpAnyH_take (i := 8) (oi := _) (v := _) ?hJ18 (by kernel_rfl) (by kernel_rfl) (by kernel_rfl) ?hQJ18 (Or.inl ⟨?hwJ18, ?hyJ18⟩) hHeld ?restJ18
  case hJ18 => (simp only [List.getElem?_toArray, List.getElem?_cons_succ, List.getElem?_cons_zero]; rfl)
  case hQJ18 => exact fun _ _ _ h => h
  case hwJ18 => rfl
  case hyJ18 => (intro w hSw; (try dsimp only at hSw); go_simp; try with_reducible rfl)
  try simp only [Act.put, List.setIfInBounds_toArray, List.set_cons_zero, List.set_cons_succ]
  refine' wpAnyH_take (i := 10) (oi := _) (v := _) ?hJ110 (by kernel_rfl) (by kernel_rfl) (by kernel_rfl) ?hQJ110 (Or.inl ⟨?hwJ110, ?hyJ110⟩) hHeld ?restJ110
  case hJ110 => (simp only [List.getElem?_toArray, List.getElem?_cons_succ, List.getElem?_cons_zero]; rfl)
  case hQJ110 => exact fun _ _ _ h => h
  case hwJ110 => rfl
  case hyJ110 => (intro w hSw; (try dsimp only at hSw); go_simp; try with_reducible rfl)
  try simp only [Act.put, List.setIfInBounds_toArray, List.set_cons_zero, List.set_cons_succ]
  refine' wpAnyH_take (i := 11) (oi := _) (v := _) ?hJ111 (by kernel_rfl) (by kernel_rfl) (by kernel_rfl) ?hQJ111 (Or.inl ⟨?hwJ111, ?hyJ111⟩) hHeld ?restJ111
  case hJ111 => (simp only [List.getElem?_toArray, List.getElem?_cons_succ, List.getElem?_cons_zero]; rfl)
  case hQJ111 => exact fun _ _ _ h => h
  case hwJ111 => rfl
  case hyJ111 => (intro w hSw; (try dsimp only at hSw); go_simp; try with_reducible rfl)
  try simp only [Act.put, List.setIfInBounds_toArray, List.set_cons_zero, List.set_cons_succ]
  refine wpAnyH_ready (rs := [9]) (by kernel_rfl) (by simp) ?_
  refine' AllReadyH.cons (o := _) ?hoJ19 (fun K hK => ?stJ19) AllReadyH.nil
  case hoJ19 => (simp only [List.getElem?_toArray, List.getElem?_cons_succ, List.getElem?_cons_zero]; rfl)
  rw [if_pos (by rfl)]
  refine wp_load_mid _ _ rfl gr (k * 16) rfl (rcells (X k) (Y k)).toList _ (hR1.drew.at_ k hk) Try.underlying46 rfl row_info ?_
  refine hK.out _ _ (hHeld) (fun hHeld' => ?_)
  clear hK K hHeld
  have hHeld := hHeld'
  clear hHeld'
  try simp only [Act.put, List.setIfInBounds_toArray, List.set_cons_zero, List.set_cons_succ]
  refine wpAnyH_ready (rs := [12]) (by kernel_rfl) (by simp) ?_
  refine AllReadyH.cons rfl (fun K hK => ?_) AllReadyH.nil
  go_simp
  refine (HREF.out _).mono ?_
  rintro e v2 ⟨rfl, hb⟩
  try go_wp2_with fail
  refine hK.out _ _ (⟨(hb.cell (p := ⟨gd, 1, none⟩) hgd).trans hHeld.1, (hb.cell (p := ⟨gd, 2, none⟩) hgd).trans hHeld.2⟩) (fun hHeld' => ?_)
  have hR2 := rows_of_below hR1.drew hb
  have hA2 := bd_of_below (bd_drew hA1) hb
  have hK2 := hK1.drew.next (Keeps.of_below hb []) (by simp)
  clear hR1 hA1 hK1
  clear hK K hHeld
  have hHeld := hHeld'
  clear hHeld'
  try simp only [Act.put, List.setIfInBounds_toArray, List.set_cons_zero, List.set_cons_succ]
  refine' wpAnyH_take (i := 13) (oi := _) (v := _) ?hJ113 (by kernel_rfl) (by kernel_rfl) (by kernel_rfl) ?hQJ113 (Or.inl ⟨?hwJ113, ?hyJ113⟩) hHeld ?restJ113
  case hJ113 => (simp only [List.getElem?_toArray, List.getElem?_cons_succ, List.getElem?_cons_zero]; rfl)
  case hQJ113 => exact fun _ _ _ h => h
  case hwJ113 => rfl
  case hyJ113 => (intro w hSw; (try dsimp only at hSw); go_simp; try with_reducible rfl)
  try simp only [Act.put, List.setIfInBounds_toArray, List.set_cons_zero, List.set_cons_succ]
  refine wpAnyH_ready (rs := [14]) (by kernel_rfl) (by simp) ?_
  refine' AllReadyH.cons (o := _) ?hoJ114 (fun K hK => ?stJ114) AllReadyH.nil
  case hoJ114 => (simp only [List.getElem?_toArray, List.getElem?_cons_succ, List.getElem?_cons_zero]; rfl)
  rw [if_pos (by rfl)]
  refine wp_store_mid _ _ _ rfl gr (k * 16) (rcells (raiseX x (X k)) (Y k)) rfl rfl (hR2.there_ k hk) row_info (rc_one _ _) ?_
  refine hK.out _ _ (⟨(cell_cells _ _ (by show gd ≠ gr; omega)).trans hHeld.1, (cell_cells _ _ (by show gd ≠ gr; omega)).trans hHeld.2⟩) (fun hHeld' => ?_)
  clear hK K hHeld
  have hHeld := hHeld'
  clear hHeld'
  try simp only [Act.put]
  refine wpAnyH_done (by kernel_rfl) ?_ _
  go_wp2
  go_ret
  refine ⟨rfl, _, _, _, _, bd_store hg _ hA2, hR2.store k hk (raiseX x (X k)) (Y k), HSY.out, keeps_cells (by simp) _ _ _ hK2⟩
end La
end Go.Proofs.Ytckindhnhbcgoaa
