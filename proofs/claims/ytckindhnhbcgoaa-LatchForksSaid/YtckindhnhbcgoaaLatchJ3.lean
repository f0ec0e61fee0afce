/- The law's step: an owner's take. -/
import Derived.Test.YtckindhnhbcgoaaLatchI
namespace Go.Proofs.Ytckindhnhbcgoaa
open Go.RowKit
namespace La
open Sm
attribute [local irreducible] Bd oL oD oV rL rE raiseX up num8 isO
set_option maxRecDepth 100000 in
set_option maxHeartbeats 8000000 in
theorem step_take (gb gr n c k : Nat) (m : Int) (d x : Int) (L D : Nat → Int) (X : Nat → Nat → Int) (Y : Nat → Nat → Bool) (w : World) (hA : Bd w gb L D n) (hR : Rows w gr n X Y) (hS : Sync n m L D X Y) (hn : n ≤ 8) (hg : gb ≠ gr) (hk : k < n) (_hm0 : 0 ≤ m) (_hm : m ≤ 1000) (hd0 : (d == 0) = false) (hd1 : (d == 1) = false) :
    Calls Try.prog 7 #[.pointer (some ⟨gb, 0, none⟩), .slice (some ⟨gr, 0, none⟩) n c, .agg #[.int .i64 d, .int .i64 ((k : Int) + 1), .int .i64 x]] w (IsStep gb gr n (m + 1) w) := by
  have HSY := Lib.hid (hS.take_ hk)
  have hdec : decide ((k : Int) + 1 ≤ (n : Int)) = true := by simp; omega
  have hD : Blk (w.alloc (.cells #[.int .i64 d, .int .i64 ((k : Int) + 1), .int .i64 x] 28)) w.heap.size 28 #[.int .i64 d, .int .i64 ((k : Int) + 1), .int .i64 x] := Blk.new _ _ _
  have hA' := hA.alloc (.cells #[.int .i64 d, .int .i64 ((k : Int) + 1), .int .i64 x] 28)
  have hR' := hR.alloc (.cells #[.int .i64 d, .int .i64 ((k : Int) + 1), .int .i64 x] 28)
  have hK : Keeps [gb, gr] w (w.alloc (.cells #[.int .i64 d, .int .i64 ((k : Int) + 1), .int .i64 x] 28)) := (Keeps.refl _ _).alloc _
  have hgb := hA.lt
  have hgr := hR.lt
  have HVAL := Lib.hid (show D k = num8 (Y k) from (hS k hk).2.1)
  have HREF := Lib.hid (fun V => rtake_any (X k) (Y k) V)
  clear hA hR hS
  go_enter Try.func7, Try.ntmps7
  go_wp2_with fail
  generalize w.alloc (.cells #[.int .i64 d, .int .i64 ((k : Int) + 1), .int .i64 x] 28) = V at *
  generalize w.heap.size = gd at *
  have q0 := hD.cell 0
  have q1 := hD.cell 1
  have q2 := hD.cell 2
  have HC := Lib.hid (take_any gb n ((k : Int) + 1) L D V hA' (by omega))
  have HE0 : Hid (oV n ((k : Int) + 1) D = D k) := Lib.hid (by unfold oV; rw [if_pos (isO_yes hk), at_k])
  have HE1 : Hid (oL n ((k : Int) + 1) D = upd D k 0) := Lib.hid (by unfold oL; rw [if_pos (isO_yes hk), at_k])
  rw [HE0.out, HE1.out] at HC
  clear HE0 HE1
  skip
  go_wp2_with fail
  refine HC.out.mono ?_
  clear HC
  rintro e v1 ⟨rfl, hA1, j1⟩
  have hR1 := hR'.keeps j1 (by simpa using hg.symm)
  have hD1 := hD.keeps j1 (by simp; omega)
  have hK1 := hK.next j1 (by simp)
  clear q0 q1 q2 hA' hR' hD hK j1
  have q0 := hD1.cell 0
  have q1 : v1.cell? ⟨gd, 1, none⟩ = some (.int .i64 ((k : Int) + 1)) := hD1.cell 1
  have q2 : v1.cell? ⟨gd, 2, none⟩ = some (.int .i64 x) := hD1.cell 2
  have hgd := hD1.lt
  clear hD1
  rw [HVAL.out]
  clear HVAL
  generalize num8 (Y k) = nn at *
  have hsub : IntKind.i64.wrap (k : Int) = (k : Int) := IntWalk.i64_in _ (by omega)
  have hk0 : (0 : Int) ≤ (k : Int) := by omega
  have hk1 : (k : Int) < (n : Int) := by omega
  go_wp2
  refine wp_region_held_drew (S := (fun V => V.cell? ⟨gd, 1, none⟩ = some (.int .i64 ((k : Int) + 1)) ∧ V.cell? ⟨gd, 2, none⟩ = some (.int .i64 x))) (by kernel_rfl) ⟨q1, q2⟩ (fun hHeld => ?_)
  refine' wpAnyH_take (i := 0) (oi := _) (v := _) ?hJ30 (by kernel_rfl) (by kernel_rfl) (by kernel_rfl) ?hQJ30 (Or.inl ⟨?hwJ30, ?hyJ30⟩) hHeld ?restJ30
  case hJ30 => (simp only [List.getElem?_toArray, List.getElem?_cons_zero]; rfl)
  case hQJ30 => exact fun _ _ _ h => h
  case hwJ30 => rfl
  case hyJ30 => (intro w hSw; (try dsimp only at hSw); go_simp; try with_reducible rfl)
  try simp only [Act.put, List.setIfInBounds_toArray, List.set_cons_zero, List.set_cons_succ]
  refine' wpAnyH_take (i := 1) (oi := _) (v := _) ?hJ31 (by kernel_rfl) (by kernel_rfl) (by kernel_rfl) ?hQJ31 (Or.inl ⟨?hwJ31, ?hyJ31⟩) hHeld ?restJ31
  case hJ31 => (simp only [List.getElem?_toArray, List.getElem?_cons_succ, List.getElem?_cons_zero]; rfl)
  case hQJ31 => exact fun _ _ _ h => h
  case hwJ31 => rfl
  case hyJ31 => (intro w hSw; (try dsimp only at hSw); go_simp; try with_reducible rfl)
  try simp only [Act.put, List.setIfInBounds_toArray, List.set_cons_zero, List.set_cons_succ]
  refine' wpAnyH_take (i := 2) (oi := _) (v := _) ?hJ32 (by kernel_rfl) (by kernel_rfl) (by kernel_rfl) ?hQJ32 (Or.inl ⟨?hwJ32, ?hyJ32⟩) hHeld ?restJ32
  case hJ32 => (simp only [List.getElem?_toArray, List.getElem?_cons_succ, List.getElem?_cons_zero]; rfl)
  case hQJ32 => exact fun _ _ _ h => h
  case hwJ32 => rfl
  case hyJ32 => (intro w hSw; (try dsimp only at hSw); go_simp; try with_reducible rfl)
  try simp only [Act.put, List.setIfInBounds_toArray, List.set_cons_zero, List.set_cons_succ]
  refine' wpAnyH_take (i := 3) (oi := _) (v := _) ?hJ33 (by kernel_rfl) (by kernel_rfl) (by kernel_rfl) ?hQJ33 (Or.inl ⟨?hwJ33, ?hyJ33⟩) hHeld ?restJ33
  case hJ33 => (simp only [List.getElem?_toArray, List.getElem?_cons_succ, List.getElem?_cons_zero]; rfl)
  case hQJ33 => exact fun _ _ _ h => h
  case hwJ33 => rfl
  case hyJ33 => (intro w hSw; (try dsimp only at hSw); go_simp; try with_reducible rfl)
  try simp only [Act.put, List.setIfInBounds_toArray, List.set_cons_zero, List.set_cons_succ]
  refine' wpAnyH_take (i := 4) (oi := _) (v := _) ?hJ34 (by kernel_rfl) (by kernel_rfl) (by kernel_rfl) ?hQJ34 (Or.inl ⟨?hwJ34, ?hyJ34⟩) hHeld ?restJ34
  case hJ34 => (simp only [List.getElem?_toArray, List.getElem?_cons_succ, List.getElem?_cons_zero]; rfl)
  case hQJ34 => exact fun _ _ _ h => h
  case hwJ34 => rfl
  case hyJ34 => (intro w hSw; (try dsimp only at hSw); go_simp; try with_reducible rfl)
  try simp only [Act.put, List.setIfInBounds_toArray, List.set_cons_zero, List.set_cons_succ]
  refine' wpAnyH_take (i := 5) (oi := _) (v := _) ?hJ35 (by kernel_rfl) (by kernel_rfl) (by kernel_rfl) ?hQJ35 (Or.inl ⟨?hwJ35, ?hyJ35⟩) hHeld ?restJ35
  case hJ35 => (simp only [List.getElem?_toArray, List.getElem?_cons_succ, List.getElem?_cons_zero]; rfl)
  case hQJ35 => exact fun _ _ _ h => h
  case hwJ35 => rfl
  case hyJ35 => (intro w hSw; (try dsimp only at hSw); go_simp; try with_reducible rfl)
  try simp only [Act.put, List.setIfInBounds_toArray, List.set_cons_zero, List.set_cons_succ]
  refine' wpAnyH_take (i := 6) (oi := _) (v := _) ?hJ36 (by kernel_rfl) (by kernel_rfl) (by kernel_rfl) ?hQJ36 (Or.inl ⟨?hwJ36, ?hyJ36⟩) hHeld ?restJ36
  case hJ36 => (simp only [List.getElem?_toArray, List.getElem?_cons_succ, List.getElem?_cons_zero]; rfl)
  case hQJ36 => exact fun _ _ _ h => h
  case hwJ36 => rfl
  case hyJ36 => (intro w hSw; (try dsimp only at hSw); go_simp; try with_reducible rfl)
  try simp only [Act.put, List.setIfInBounds_toArray, List.set_cons_zero, List.set_cons_succ]
  refine' wpAnyH_take (i := 7) (oi := _) (v := _) ?hJ37 (by kernel_rfl) (by kernel_rfl) (by kernel_rfl) ?hQJ37 (Or.inl ⟨?hwJ37, ?hyJ37⟩) hHeld ?restJ37
  case hJ37 => (simp only [List.getElem?_toArray, List.getElem?_cons_succ, List.getElem?_cons_zero]; rfl)
  case hQJ37 => exact fun _ _ _ h => h
  case hwJ37 => rfl
  case hyJ37 => (intro w hSw; (try dsimp only at hSw); go_simp; try with_reducible rfl)
  try simp only [Act.put, List.setIfInBounds_toArray, List.set_cons_zero, List.set_cons_succ]
  refine' wpAnyH_take (i := 8) (oi := _) (v := _) ?hJ38 (by kernel_rfl) (by kernel_rfl) (by kernel_rfl) ?hQJ38 (Or.inl ⟨?hwJ38, ?hyJ38⟩) hHeld ?restJ38
  case hJ38 => (simp only [List.getElem?_toArray, List.getElem?_cons_succ, List.getElem?_cons_zero]; rfl)
  case hQJ38 => exact fun _ _ _ h => h
  case hwJ38 => rfl
  case hyJ38 => (intro w hSw; (try dsimp only at hSw); go_simp; try with_reducible rfl)
  try simp only [Act.put, List.setIfInBounds_toArray, List.set_cons_zero, List.set_cons_succ]
  refine wpAnyH_ready (rs := [9]) (by kernel_rfl) (by simp) ?_
  refine' AllReadyH.cons (o := _) ?hoJ39 (fun K hK => ?stJ39) AllReadyH.nil
  case hoJ39 => (simp only [List.getElem?_toArray, List.getElem?_cons_succ, List.getElem?_cons_zero]; rfl)
  rw [if_pos (by rfl)]
  refine wp_load_mid _ _ rfl gr (k * 16) rfl (rcells (X k) (Y k)).toList _ (hR1.drew.at_ k hk) Try.underlying46 rfl row_info ?_
  refine hK.out _ _ (hHeld) (fun hHeld' => ?_)
  clear hK K hHeld
  have hHeld := hHeld'
  clear hHeld'
  try simp only [Act.put, List.setIfInBounds_toArray, List.set_cons_zero, List.set_cons_succ]
  refine wpAnyH_ready (rs := [10]) (by kernel_rfl) (by simp) ?_
  refine AllReadyH.cons rfl (fun K hK => ?_) AllReadyH.nil
  go_simp
  refine (HREF.out _).mono ?_
  rintro e v2 ⟨rfl, hb⟩
  try go_wp2_with fail
  refine hK.out _ _ (⟨(hb.cell (p := ⟨gd, 1, none⟩) hgd).trans hHeld.1, (hb.cell (p := ⟨gd, 2, none⟩) hgd).trans hHeld.2⟩) (fun hHeld' => ?_)
  have hR2 := rows_of_below hR1.drew hb
  have hA2 := bd_of_below (bd_drew hA1) hb
  have hK2 := hK1.drew.next (Keeps.of_below hb []) (by simp)
  clear hR1 hA1 hK1
  clear hK K hHeld
  have hHeld := hHeld'
  clear hHeld'
  try simp only [Act.put, List.setIfInBounds_toArray, List.set_cons_zero, List.set_cons_succ]
  refine' wpAnyH_take (i := 11) (oi := _) (v := _) ?hJ311 (by kernel_rfl) (by kernel_rfl) (by kernel_rfl) ?hQJ311 (Or.inl ⟨?hwJ311, ?hyJ311⟩) hHeld ?restJ311
  case hJ311 => (simp only [List.getElem?_toArray, List.getElem?_cons_succ, List.getElem?_cons_zero]; rfl)
  case hQJ311 => exact fun _ _ _ h => h
  case hwJ311 => rfl
  case hyJ311 => (intro w hSw; (try dsimp only at hSw); go_simp; try with_reducible rfl)
  try simp only [Act.put, List.setIfInBounds_toArray, List.set_cons_zero, List.set_cons_succ]
  refine' wpAnyH_take (i := 12) (oi := _) (v := _) ?hJ312 (by kernel_rfl) (by kernel_rfl) (by kernel_rfl) ?hQJ312 (Or.inl ⟨?hwJ312, ?hyJ312⟩) hHeld ?restJ312
  case hJ312 => (simp only [List.getElem?_toArray, List.getElem?_cons_succ, List.getElem?_cons_zero]; rfl)
  case hQJ312 => exact fun _ _ _ h => h
  case hwJ312 => rfl
  case hyJ312 => (intro w hSw; (try dsimp only at hSw); go_simp; try with_reducible rfl)
  try simp only [Act.put, List.setIfInBounds_toArray, List.set_cons_zero, List.set_cons_succ]
  refine' wpAnyH_take (i := 13) (oi := _) (v := _) ?hJ313 (by kernel_rfl) (by kernel_rfl) (by kernel_rfl) ?hQJ313 (Or.inl ⟨?hwJ313, ?hyJ313⟩) hHeld ?restJ313
  case hJ313 => (simp only [List.getElem?_toArray, List.getElem?_cons_succ, List.getElem?_cons_zero]; rfl)
  case hQJ313 => exact fun _ _ _ h => h
  case hwJ313 => rfl
  case hyJ313 => (intro w hSw; (try dsimp only at hSw); go_simp; try with_reducible rfl)
  try simp only [Act.put, List.setIfInBounds_toArray, List.set_cons_zero, List.set_cons_succ]
  refine' wpAnyH_take (i := 14) (oi := _) (v := _) ?hJ314 (by kernel_rfl) (by kernel_rfl) (by kernel_rfl) ?hQJ314 (Or.inl ⟨?hwJ314, ?hyJ314⟩) hHeld ?restJ314
  case hJ314 => (simp only [List.getElem?_toArray, List.getElem?_cons_succ, List.getElem?_cons_zero]; rfl)
  case hQJ314 => exact fun _ _ _ h => h
  case hwJ314 => rfl
  case hyJ314 => (intro w hSw; (try dsimp only at hSw); go_simp; try with_reducible rfl)
  try simp only [Act.put, List.setIfInBounds_toArray, List.set_cons_zero, List.set_cons_succ]
  refine wpAnyH_ready (rs := [15]) (by kernel_rfl) (by simp) ?_
  refine' AllReadyH.cons (o := _) ?hoJ315 (fun K hK => ?stJ315) AllReadyH.nil
  case hoJ315 => (simp only [List.getElem?_toArray, List.getElem?_cons_succ, List.getElem?_cons_zero]; rfl)
  rw [if_pos (by rfl)]
  refine wp_store_mid _ _ _ rfl gr (k * 16) (rcells (X k) (fun _ => false)) rfl rfl (hR2.there_ k hk) row_info (rc_one _ _) ?_
  refine hK.out _ _ (⟨(cell_cells _ _ (by show gd ≠ gr; omega)).trans hHeld.1, (cell_cells _ _ (by show gd ≠ gr; omega)).trans hHeld.2⟩) (fun hHeld' => ?_)
  clear hK K hHeld
  have hHeld := hHeld'
  clear hHeld'
  try simp only [Act.put]
  refine' wpAnyH_take (i := 16) (oi := _) (v := _) ?hJ316 (by kernel_rfl) (by kernel_rfl) (by kernel_rfl) ?hQJ316 (Or.inl ⟨?hwJ316, ?hyJ316⟩) hHeld ?restJ316
  case hJ316 => (simp only [List.getElem?_toArray, List.getElem?_cons_succ, List.getElem?_cons_zero]; rfl)
  case hQJ316 => exact fun _ _ _ h => h
  case hwJ316 => rfl
  case hyJ316 => (intro w hSw; (try dsimp only at hSw); go_simp; try with_reducible rfl)
  try simp only [Act.put, List.setIfInBounds_toArray, List.set_cons_zero, List.set_cons_succ]
  refine wpAnyH_done (by kernel_rfl) ?_ _
  go_wp2
  go_ret
  refine ⟨rfl, _, _, _, _, bd_store hg _ hA2, hR2.store k hk (X k) (fun _ => false), HSY.out, keeps_cells (by simp) _ _ _ hK2⟩
end La
end Go.Proofs.Ytckindhnhbcgoaa
