/- The law's step: an owner's open. -/
import Derived.Test.YtckindhnhbcgoaaLatchI
namespace Go.Proofs.Ytckindhnhbcgoaa
open Go.RowKit
namespace La
open Sm
attribute [local irreducible] Bd oL oD oV rL rE raiseX up num8 isO
set_option maxRecDepth 100000 in
set_option maxHeartbeats 8000000 in
theorem step_open (gb gr n c k : Nat) (m : Int) (x : Int) (L D : Nat → Int) (X : Nat → Nat → Int) (Y : Nat → Nat → Bool) (w : World) (hA : Bd w gb L D n) (hR : Rows w gr n X Y) (hS : Sync n m L D X Y) (hn : n ≤ 8) (hg : gb ≠ gr) (hk : k < n) (hm0 : 0 ≤ m) (_hm : m ≤ 1000) :
    Calls Try.prog 7 #[.pointer (some ⟨gb, 0, none⟩), .slice (some ⟨gr, 0, none⟩) n c, .agg #[.int .i64 1, .int .i64 ((k : Int) + 1), .int .i64 x]] w (IsStep gb gr n (m + 1) w) := by
  have HSY := Lib.hid (hS.open_ hm0 hk)
  have hdec : decide ((k : Int) + 1 ≤ (n : Int)) = true := by simp; omega
  have hD : Blk (w.alloc (.cells #[.int .i64 1, .int .i64 ((k : Int) + 1), .int .i64 x] 28)) w.heap.size 28 #[.int .i64 1, .int .i64 ((k : Int) + 1), .int .i64 x] := Blk.new _ _ _
  have hA' := hA.alloc (.cells #[.int .i64 1, .int .i64 ((k : Int) + 1), .int .i64 x] 28)
  have hR' := hR.alloc (.cells #[.int .i64 1, .int .i64 ((k : Int) + 1), .int .i64 x] 28)
  have hK : Keeps [gb, gr] w (w.alloc (.cells #[.int .i64 1, .int .i64 ((k : Int) + 1), .int .i64 x] 28)) := (Keeps.refl _ _).alloc _
  have hgb := hA.lt
  have hgr := hR.lt
  have HVAL := Lib.hid (show L k = num8 (up (X k)) from (hS k hk).1)
  have HREF := Lib.hid (fun V => ropen_any (X k) (Y k) V)
  clear hA hR hS
  go_enter Try.func7, Try.ntmps7
  go_wp2_with fail
  generalize w.alloc (.cells #[.int .i64 1, .int .i64 ((k : Int) + 1), .int .i64 x] 28) = V at *
  generalize w.heap.size = gd at *
  have q0 := hD.cell 0
  have q1 := hD.cell 1
  have q2 := hD.cell 2
  have HC := Lib.hid (open_any gb n ((k : Int) + 1) L D V hA' (by omega))
  have HE0 : Hid (oV n ((k : Int) + 1) L = L k) := Lib.hid (by unfold oV; rw [if_pos (isO_yes hk), at_k])
  have HE1 : Hid (oL n ((k : Int) + 1) L = upd L k 0) := Lib.hid (by unfold oL; rw [if_pos (isO_yes hk), at_k])
  have HE2 : Hid (oD n ((k : Int) + 1) L D = upd D k (bits .or .i64 (D k) (L k))) := Lib.hid (by unfold oD; rw [if_pos (isO_yes hk), at_k])
  rw [HE0.out, HE1.out, HE2.out] at HC
  clear HE0 HE1 HE2
  skip
  go_wp2_with fail
  refine HC.out.mono ?_
  clear HC
  rintro e v1 ⟨rfl, hA1, j1⟩
  have hR1 := hR'.keeps j1 (by simpa using hg.symm)
  have hD1 := hD.keeps j1 (by simp; omega)
  have hK1 := hK.next j1 (by simp)
  clear q0 q1 q2 hA' hR' hD hK j1
  have q0 := hD1.cell 0
  have q1 : v1.cell? ⟨gd, 1, none⟩ = some (.int .i64 ((k : Int) + 1)) := hD1.cell 1
  have q2 : v1.cell? ⟨gd, 2, none⟩ = some (.int .i64 x) := hD1.cell 2
  have hgd := hD1.lt
  clear hD1
  rw [HVAL.out]
  clear HVAL
  generalize num8 (up (X k)) = nn at *
  have hsub : IntKind.i64.wrap (k : Int) = (k : Int) := IntWalk.i64_in _ (by omega)
  have hk0 : (0 : Int) ≤ (k : Int) := by omega
  have hk1 : (k : Int) < (n : Int) := by omega
  go_wp2
  refine wp_region_held_drew (S := (fun V => V.cell? ⟨gd, 1, none⟩ = some (.int .i64 ((k : Int) + 1)) ∧ V.cell? ⟨gd, 2, none⟩ = some (.int .i64 x))) (by kernel_rfl) ⟨q1, q2⟩ (fun hHeld => ?_)
  refine' wpAnyH_take (i := 0) (oi := _) (v := _) ?hJ20 (by kernel_rfl) (by kernel_rfl) (by kernel_rfl) ?hQJ20 (Or.inl ⟨?hwJ20, ?hyJ20⟩) hHeld ?restJ20
  case hJ20 => (simp only [List.getElem?_toArray, List.getElem?_cons_zero]; rfl)
  case hQJ20 => exact fun _ _ _ h => h
  case hwJ20 => rfl
  case hyJ20 => (intro w hSw; (try dsimp only at hSw); go_simp; try with_reducible rfl)
  try simp only [Act.put, List.setIfInBounds_toArray, List.set_cons_zero, List.set_cons_succ]
  refine' wpAnyH_take (i := 1) (oi := _) (v := _) ?hJ21 (by kernel_rfl) (by kernel_rfl) (by kernel_rfl) ?hQJ21 (Or.inl ⟨?hwJ21, ?hyJ21⟩) hHeld ?restJ21
  case hJ21 => (simp only [List.getElem?_toArray, List.getElem?_cons_succ, List.getElem?_cons_zero]; rfl)
  case hQJ21 => exact fun _ _ _ h => h
  case hwJ21 => rfl
  case hyJ21 => (intro w hSw; (try dsimp only at hSw); go_simp; try with_reducible rfl)
  try simp only [Act.put, List.setIfInBounds_toArray, List.set_cons_zero, List.set_cons_succ]
  refine' wpAnyH_take (i := 2) (oi := _) (v := _) ?hJ22 (by kernel_rfl) (by kernel_rfl) (by kernel_rfl) ?hQJ22 (Or.inl ⟨?hwJ22, ?hyJ22⟩) hHeld ?restJ22
  case hJ22 => (simp only [List.getElem?_toArray, List.getElem?_cons_succ, List.getElem?_cons_zero]; rfl)
  case hQJ22 => exact fun _ _ _ h => h
  case hwJ22 => rfl
  case hyJ22 => (intro w hSw; (try dsimp only at hSw); go_simp; try with_reducible rfl)
  try simp only [Act.put, List.setIfInBounds_toArray, List.set_cons_zero, List.set_cons_succ]
  refine' wpAnyH_take (i := 3) (oi := _) (v := _) ?hJ23 (by kernel_rfl) (by kernel_rfl) (by kernel_rfl) ?hQJ23 (Or.inl ⟨?hwJ23, ?hyJ23⟩) hHeld ?restJ23
  case hJ23 => (simp only [List.getElem?_toArray, List.getElem?_cons_succ, List.getElem?_cons_zero]; rfl)
  case hQJ23 => exact fun _ _ _ h => h
  case hwJ23 => rfl
  case hyJ23 => (intro w hSw; (try dsimp only at hSw); go_simp; try with_reducible rfl)
  try simp only [Act.put, List.setIfInBounds_toArray, List.set_cons_zero, List.set_cons_succ]
  refine' wpAnyH_take (i := 4) (oi := _) (v := _) ?hJ24 (by kernel_rfl) (by kernel_rfl) (by kernel_rfl) ?hQJ24 (Or.inl ⟨?hwJ24, ?hyJ24⟩) hHeld ?restJ24
  case hJ24 => (simp only [List.getElem?_toArray, List.getElem?_cons_succ, List.getElem?_cons_zero]; rfl)
  case hQJ24 => exact fun _ _ _ h => h
  case hwJ24 => rfl
  case hyJ24 => (intro w hSw; (try dsimp only at hSw); go_simp; try with_reducible rfl)
  try simp only [Act.put, List.setIfInBounds_toArray, List.set_cons_zero, List.set_cons_succ]
  refine' wpAnyH_take (i := 5) (oi := _) (v := _) ?hJ25 (by kernel_rfl) (by kernel_rfl) (by kernel_rfl) ?hQJ25 (Or.inl ⟨?hwJ25, ?hyJ25⟩) hHeld ?restJ25
  case hJ25 => (simp only [List.getElem?_toArray, List.getElem?_cons_succ, List.getElem?_cons_zero]; rfl)
  case hQJ25 => exact fun _ _ _ h => h
  case hwJ25 => rfl
  case hyJ25 => (intro w hSw; (try dsimp only at hSw); go_simp; try with_reducible rfl)
  try simp only [Act.put, List.setIfInBounds_toArray, List.set_cons_zero, List.set_cons_succ]
  refine' wpAnyH_take (i := 6) (oi := _) (v := _) ?hJ26 (by kernel_rfl) (by kernel_rfl) (by kernel_rfl) ?hQJ26 (Or.inl ⟨?hwJ26, ?hyJ26⟩) hHeld ?restJ26
  case hJ26 => (simp only [List.getElem?_toArray, List.getElem?_cons_succ, List.getElem?_cons_zero]; rfl)
  case hQJ26 => exact fun _ _ _ h => h
  case hwJ26 => rfl
  case hyJ26 => (intro w hSw; (try dsimp only at hSw); go_simp; try with_reducible rfl)
  try simp only [Act.put, List.setIfInBounds_toArray, List.set_cons_zero, List.set_cons_succ]
  refine' wpAnyH_take (i := 7) (oi := _) (v := _) ?hJ27 (by kernel_rfl) (by kernel_rfl) (by kernel_rfl) ?hQJ27 (Or.inl ⟨?hwJ27, ?hyJ27⟩) hHeld ?restJ27
  case hJ27 => (simp only [List.getElem?_toArray, List.getElem?_cons_succ, List.getElem?_cons_zero]; rfl)
  case hQJ27 => exact fun _ _ _ h => h
  case hwJ27 => rfl
  case hyJ27 => (intro w hSw; (try dsimp only at hSw); go_simp; try with_reducible rfl)
  try simp only [Act.put, List.setIfInBounds_toArray, List.set_cons_zero, List.set_cons_succ]
  refine' wpAnyH_take (i := 8) (oi := _) (v := _) ?hJ28 (by kernel_rfl) (by kernel_rfl) (by kernel_rfl) ?hQJ28 (Or.inl ⟨?hwJ28, ?hyJ28⟩) hHeld ?restJ28
  case hJ28 => (simp only [List.getElem?_toArray, List.getElem?_cons_succ, List.getElem?_cons_zero]; rfl)
  case hQJ28 => exact fun _ _ _ h => h
  case hwJ28 => rfl
  case hyJ28 => (intro w hSw; (try dsimp only at hSw); go_simp; try with_reducible rfl)
  try simp only [Act.put, List.setIfInBounds_toArray, List.set_cons_zero, List.set_cons_succ]
  refine wpAnyH_ready (rs := [9]) (by kernel_rfl) (by simp) ?_
  refine' AllReadyH.cons (o := _) ?hoJ29 (fun K hK => ?stJ29) AllReadyH.nil
  case hoJ29 => (simp only [List.getElem?_toArray, List.getElem?_cons_succ, List.getElem?_cons_zero]; rfl)
  rw [if_pos (by rfl)]
  refine wp_load_mid _ _ rfl gr (k * 16) rfl (rcells (X k) (Y k)).toList _ (hR1.drew.at_ k hk) Try.underlying46 rfl row_info ?_
  refine hK.out _ _ (hHeld) (fun hHeld' => ?_)
  clear hK K hHeld
  have hHeld := hHeld'
  clear hHeld'
  try simp only [Act.put, List.setIfInBounds_toArray, List.set_cons_zero, List.set_cons_succ]
  refine wpAnyH_ready (rs := [10]) (by kernel_rfl) (by simp) ?_
  refine AllReadyH.cons rfl (fun K hK => ?_) AllReadyH.nil
  go_simp
  refine (HREF.out _).mono ?_
  rintro e v2 ⟨rfl, hb⟩
  try go_wp2_with fail
  refine hK.out _ _ (⟨(hb.cell (p := ⟨gd, 1, none⟩) hgd).trans hHeld.1, (hb.cell (p := ⟨gd, 2, none⟩) hgd).trans hHeld.2⟩) (fun hHeld' => ?_)
  have hR2 := rows_of_below hR1.drew hb
  have hA2 := bd_of_below (bd_drew hA1) hb
  have hK2 := hK1.drew.next (Keeps.of_below hb []) (by simp)
  clear hR1 hA1 hK1
  clear hK K hHeld
  have hHeld := hHeld'
  clear hHeld'
  try simp only [Act.put, List.setIfInBounds_toArray, List.set_cons_zero, List.set_cons_succ]
  refine' wpAnyH_take (i := 11) (oi := _) (v := _) ?hJ211 (by kernel_rfl) (by kernel_rfl) (by kernel_rfl) ?hQJ211 (Or.inl ⟨?hwJ211, ?hyJ211⟩) hHeld ?restJ211
  case hJ211 => (simp only [List.getElem?_toArray, List.getElem?_cons_succ, List.getElem?_cons_zero]; rfl)
  case hQJ211 => exact fun _ _ _ h => h
  case hwJ211 => rfl
  case hyJ211 => (intro w hSw; (try dsimp only at hSw); go_simp; try with_reducible rfl)
  try simp only [Act.put, List.setIfInBounds_toArray, List.set_cons_zero, List.set_cons_succ]
  refine' wpAnyH_take (i := 12) (oi := _) (v := _) ?hJ212 (by kernel_rfl) (by kernel_rfl) (by kernel_rfl) ?hQJ212 (Or.inl ⟨?hwJ212, ?hyJ212⟩) hHeld ?restJ212
  case hJ212 => (simp only [List.getElem?_toArray, List.getElem?_cons_succ, List.getElem?_cons_zero]; rfl)
  case hQJ212 => exact fun _ _ _ h => h
  case hwJ212 => rfl
  case hyJ212 => (intro w hSw; (try dsimp only at hSw); go_simp; try with_reducible rfl)
  try simp only [Act.put, List.setIfInBounds_toArray, List.set_cons_zero, List.set_cons_succ]
  refine' wpAnyH_take (i := 13) (oi := _) (v := _) ?hJ213 (by kernel_rfl) (by kernel_rfl) (by kernel_rfl) ?hQJ213 (Or.inl ⟨?hwJ213, ?hyJ213⟩) hHeld ?restJ213
  case hJ213 => (simp only [List.getElem?_toArray, List.getElem?_cons_succ, List.getElem?_cons_zero]; rfl)
  case hQJ213 => exact fun _ _ _ h => h
  case hwJ213 => rfl
  case hyJ213 => (intro w hSw; (try dsimp only at hSw); go_simp; try with_reducible rfl)
  try simp only [Act.put, List.setIfInBounds_toArray, List.set_cons_zero, List.set_cons_succ]
  refine' wpAnyH_take (i := 14) (oi := _) (v := _) ?hJ214 (by kernel_rfl) (by kernel_rfl) (by kernel_rfl) ?hQJ214 (Or.inl ⟨?hwJ214, ?hyJ214⟩) hHeld ?restJ214
  case hJ214 => (simp only [List.getElem?_toArray, List.getElem?_cons_succ, List.getElem?_cons_zero]; rfl)
  case hQJ214 => exact fun _ _ _ h => h
  case hwJ214 => rfl
  case hyJ214 => (intro w hSw; (try dsimp only at hSw); go_simp; try with_reducible rfl)
  try simp only [Act.put, List.setIfInBounds_toArray, List.set_cons_zero, List.set_cons_succ]
  refine wpAnyH_ready (rs := [15]) (by kernel_rfl) (by simp) ?_
  refine' AllReadyH.cons (o := _) ?hoJ215 (fun K hK => ?stJ215) AllReadyH.nil
  case hoJ215 => (simp only [List.getElem?_toArray, List.getElem?_cons_succ, List.getElem?_cons_zero]; rfl)
  rw [if_pos (by rfl)]
  refine wp_store_mid _ _ _ rfl gr (k * 16) (rcells (fun _ => 0) (fun j => Y k j || up (X k) j)) rfl rfl (hR2.there_ k hk) row_info (rc_one _ _) ?_
  refine hK.out _ _ (⟨(cell_cells _ _ (by show gd ≠ gr; omega)).trans hHeld.1, (cell_cells _ _ (by show gd ≠ gr; omega)).trans hHeld.2⟩) (fun hHeld' => ?_)
  clear hK K hHeld
  have hHeld := hHeld'
  clear hHeld'
  try simp only [Act.put]
  refine' wpAnyH_take (i := 16) (oi := _) (v := _) ?hJ216 (by kernel_rfl) (by kernel_rfl) (by kernel_rfl) ?hQJ216 (Or.inl ⟨?hwJ216, ?hyJ216⟩) hHeld ?restJ216
  case hJ216 => (simp only [List.getElem?_toArray, List.getElem?_cons_succ, List.getElem?_cons_zero]; rfl)
  case hQJ216 => exact fun _ _ _ h => h
  case hwJ216 => rfl
  case hyJ216 => (intro w hSw; (try dsimp only at hSw); go_simp; try with_reducible rfl)
  try simp only [Act.put, List.setIfInBounds_toArray, List.set_cons_zero, List.set_cons_succ]
  refine wpAnyH_done (by kernel_rfl) ?_ _
  go_wp2
  go_ret
  refine ⟨rfl, _, _, _, _, bd_store hg _ hA2, hR2.store k hk (fun _ => 0) (fun j => Y k j || up (X k) j), HSY.out, keeps_cells (by simp) _ _ _ hK2⟩
end La
end Go.Proofs.Ytckindhnhbcgoaa
