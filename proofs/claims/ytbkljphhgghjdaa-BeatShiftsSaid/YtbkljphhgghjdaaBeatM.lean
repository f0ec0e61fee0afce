/- The law BeatBack: its walk. -/
import Derived.Test.YtbkljphhgghjdaaBeatL
import Derived.Test.YtbkljphhgghjdaaBeatI
namespace Go.Proofs.Ytbkljphhgghjdaa
open Go.RowKit
namespace Be
open Sm Ph Fl
attribute [local irreducible] cnt Pn rR rI
set_option maxRecDepth 100000 in
set_option maxHeartbeats 2000000 in
theorem back_law (a : Option Addr) (len cap : Nat) (zs : List Int) (w : World) (hlen : len ≤ cap) (_hcap : cap ≤ 9223372036854775807)
    (hT : Ticks w a (min len 500) (zs.take (min len 500))) :
    Calls Try.prog 5 #[.slice a len cap] w fun e w' => e = .returned (.bool true) ∧ Keeps [] w w' := by
  have HT := Lib.hid hT
  have hfew := nn_few hT
  clear hT
  obtain ⟨m, hm⟩ : ∃ m, min len 500 = m := ⟨_, rfl⟩
  generalize zs.take (min len 500) = ts at *
  rw [hm] at HT
  have hmin : (if (500 : Int) < (len : Int) then (500 : Int) else (len : Int)) = (m : Int) := by split <;> omega
  have hml : m ≤ cap := by omega
  have hml2 : m ≤ 500 := by omega
  clear hm
  have HP := Lib.hid (Pn_bd (nn ts) hfew)
  have hq4 := eq4
  go_enter Try.func5, Try.ntmps5
  go_wp2_with fail
  refine (spectrum_any _ _ _ _ _ HT.out).mono ?_
  rintro e w1 ⟨f, rfl, hf, k1⟩
  have HF : Hid (∀ j : Nat, j < 4 → wIs (f j).1 (f j).2 (rR (j : Int) (Pn (nn ts)) 4) (rI (j : Int) (Pn (nn ts)) 4)) := Lib.hid (fun j hj => by have := hf j hj; simp only [rP_rR, iP_rI] at this; exact this)
  have HK1 := Lib.hid k1
  clear hf k1
  go_wp2_with fail
  refine (back_any f (Pn (nn ts)) HP.out HF.out _).mono ?_
  rintro e w2 ⟨rfl, k2⟩
  have hB := Blk.new w2 23 #[.int .i64 (Pn (nn ts) 0), .int .i64 (Pn (nn ts) 1), .int .i64 (Pn (nn ts) 2), .int .i64 (Pn (nn ts) 3)]
  have hK := (HK1.out.trans k2).alloc (.cells #[.int .i64 (Pn (nn ts) 0), .int .i64 (Pn (nn ts) 1), .int .i64 (Pn (nn ts) 2), .int .i64 (Pn (nn ts) 3)] 23)
  have HT2 := Lib.hid (HT.out.keeps hK)
  have HK2 := Lib.hid hK
  have HB := Lib.hid hB
  have hbl := hB.lt
  clear hB hK k2 HK1 HT HF
  go_wp2_with fail
  generalize hVV : (w2.alloc (.cells #[.int .i64 (Pn (nn ts) 0), .int .i64 (Pn (nn ts) 1), .int .i64 (Pn (nn ts) 2), .int .i64 (Pn (nn ts) 3)] 23)) = V0 at *
  clear hVV
  generalize w2.heap.size = b at *
  have hB := HB.out
  have c0 : V0.drew.cell? ⟨b, 0, none⟩ = some (.int .i64 (Pn (nn ts) 0)) := hB.cell 0
  have c1 : V0.drew.cell? ⟨b, 1, none⟩ = some (.int .i64 (Pn (nn ts) 1)) := hB.cell 1
  have c2 : V0.drew.cell? ⟨b, 2, none⟩ = some (.int .i64 (Pn (nn ts) 2)) := hB.cell 2
  have c3 : V0.drew.cell? ⟨b, 3, none⟩ = some (.int .i64 (Pn (nn ts) 3)) := hB.cell 3
  clear hB
  have HLV := Lib.hid (fun V => live_any V)
  have HPA := Lib.hid (fun V (h : Keeps [] V0 V) => rparts_Pn a m cap ts V (HT2.out.keeps h))
  have hk0 : Keeps [] V0 V0.drew := (Keeps.refl _ _).drew
  generalize Pn (nn ts) 0 = p0 at *
  generalize Pn (nn ts) 1 = p1 at *
  generalize Pn (nn ts) 2 = p2 at *
  generalize Pn (nn ts) 3 = p3 at *
  go_wp2_with fail
  refine wp_region_held_drew (S := (fun V => V.cell? ⟨b, 0, none⟩ = some (.int .i64 p0) ∧ V.cell? ⟨b, 1, none⟩ = some (.int .i64 p1) ∧ V.cell? ⟨b, 2, none⟩ = some (.int .i64 p2) ∧ V.cell? ⟨b, 3, none⟩ = some (.int .i64 p3) ∧ Keeps [] V0 V)) (by kernel_rfl) ⟨c0, c1, c2, c3, hk0⟩ (fun hHeld => ?_)
  refine wpAnyH_ready (rs := [0]) (by kernel_rfl) (by simp) ?_
  refine AllReadyH.cons rfl (fun K hK => ?_) AllReadyH.nil
  go_simp
  refine (HLV.out _).mono ?_
  rintro e v1 ⟨rfl, kk⟩
  try go_wp2_with fail
  refine hK.out _ _ (keep5 hHeld kk hbl) (fun hHeld' => ?_)
  clear hK K hHeld
  have hHeld := hHeld'
  clear hHeld'
  try simp only [Act.put, List.setIfInBounds_toArray, List.set_cons_zero, List.set_cons_succ]
  refine' wpAnyH_take (i := 1) (oi := _) (v := _) ?hL1 (by kernel_rfl) (by kernel_rfl) (by kernel_rfl) ?hQL1 (Or.inl ⟨?hwL1, ?hyL1⟩) hHeld ?restL1
  case hL1 => (simp only [List.getElem?_toArray, List.getElem?_cons_succ, List.getElem?_cons_zero]; rfl)
  case hQL1 => exact fun _ _ _ h => h
  case hwL1 => rfl
  case hyL1 => (intro w hSw; (try dsimp only at hSw); go_simp; try with_reducible rfl)
  try simp only [Act.put, List.setIfInBounds_toArray, List.set_cons_zero, List.set_cons_succ]
  refine' wpAnyH_take (i := 2) (oi := _) (v := _) ?hL2 (by kernel_rfl) (by kernel_rfl) (by kernel_rfl) ?hQL2 (Or.inl ⟨?hwL2, ?hyL2⟩) hHeld ?restL2
  case hL2 => (simp only [List.getElem?_toArray, List.getElem?_cons_succ, List.getElem?_cons_zero]; rfl)
  case hQL2 => exact fun _ _ _ h => h
  case hwL2 => rfl
  case hyL2 => (intro w hSw; (try dsimp only at hSw); go_simp; try with_reducible rfl)
  try simp only [Act.put, List.setIfInBounds_toArray, List.set_cons_zero, List.set_cons_succ]
  refine' wpAnyH_take (i := 3) (oi := _) (v := _) ?hL3 (by kernel_rfl) (by kernel_rfl) (by kernel_rfl) ?hQL3 (Or.inl ⟨?hwL3, ?hyL3⟩) hHeld ?restL3
  case hL3 => (simp only [List.getElem?_toArray, List.getElem?_cons_succ, List.getElem?_cons_zero]; rfl)
  case hQL3 => exact fun _ _ _ h => h
  case hwL3 => rfl
  case hyL3 => (intro w hSw; (try dsimp only at hSw); go_simp; try with_reducible rfl)
  try simp only [Act.put, List.setIfInBounds_toArray, List.set_cons_zero, List.set_cons_succ]
  refine' wpAnyH_take (i := 4) (oi := _) (v := _) ?hL4 (by kernel_rfl) (by kernel_rfl) (by kernel_rfl) ?hQL4 (Or.inl ⟨?hwL4, ?hyL4⟩) hHeld ?restL4
  case hL4 => (simp only [List.getElem?_toArray, List.getElem?_cons_succ, List.getElem?_cons_zero]; rfl)
  case hQL4 => exact fun _ _ _ h => h
  case hwL4 => rfl
  case hyL4 => (intro w hSw; (try dsimp only at hSw); go_simp; try with_reducible rfl)
  try simp only [Act.put, List.setIfInBounds_toArray, List.set_cons_zero, List.set_cons_succ]
  refine' wpAnyH_take (i := 5) (oi := _) (v := _) ?hL5 (by kernel_rfl) (by kernel_rfl) (by kernel_rfl) ?hQL5 (Or.inl ⟨?hwL5, ?hyL5⟩) hHeld ?restL5
  case hL5 => (simp only [List.getElem?_toArray, List.getElem?_cons_succ, List.getElem?_cons_zero]; rfl)
  case hQL5 => exact fun _ _ _ h => h
  case hwL5 => rfl
  case hyL5 => (intro w hSw; (try dsimp only at hSw); go_simp; try with_reducible rfl)
  try simp only [Act.put, List.setIfInBounds_toArray, List.set_cons_zero, List.set_cons_succ]
  refine' wpAnyH_take (i := 6) (oi := _) (v := _) ?hL6 (by kernel_rfl) (by kernel_rfl) (by kernel_rfl) ?hQL6 (Or.inl ⟨?hwL6, ?hyL6⟩) hHeld ?restL6
  case hL6 => (simp only [List.getElem?_toArray, List.getElem?_cons_succ, List.getElem?_cons_zero]; rfl)
  case hQL6 => exact fun _ _ _ h => h
  case hwL6 => rfl
  case hyL6 => (intro w hSw; (try dsimp only at hSw); go_simp; try with_reducible rfl)
  try simp only [Act.put, List.setIfInBounds_toArray, List.set_cons_zero, List.set_cons_succ]
  refine wpAnyH_ready (rs := [7]) (by kernel_rfl) (by simp) ?_
  refine AllReadyH.cons rfl (fun K hK => ?_) AllReadyH.nil
  go_simp
  refine (HPA.out _ hHeld.2.2.2.2).mono ?_
  rintro e v1 ⟨rfl, kk⟩
  try go_wp2_with fail
  refine hK.out _ _ (keep5 hHeld kk hbl) (fun hHeld' => ?_)
  clear hK K hHeld
  have hHeld := hHeld'
  clear hHeld'
  try simp only [Act.put, List.setIfInBounds_toArray, List.set_cons_zero, List.set_cons_succ]
  refine' wpAnyH_take (i := 8) (oi := _) (v := _) ?hL8 (by kernel_rfl) (by kernel_rfl) (by kernel_rfl) ?hQL8 (Or.inl ⟨?hwL8, ?hyL8⟩) hHeld ?restL8
  case hL8 => (simp only [List.getElem?_toArray, List.getElem?_cons_succ, List.getElem?_cons_zero]; rfl)
  case hQL8 => exact fun _ _ _ h => h
  case hwL8 => rfl
  case hyL8 => (intro w hSw; (try dsimp only at hSw); go_simp; try with_reducible rfl)
  try simp only [Act.put, List.setIfInBounds_toArray, List.set_cons_zero, List.set_cons_succ]
  refine' wpAnyH_take (i := 9) (oi := _) (v := _) ?hL9 (by kernel_rfl) (by kernel_rfl) (by kernel_rfl) ?hQL9 (Or.inl ⟨?hwL9, ?hyL9⟩) hHeld ?restL9
  case hL9 => (simp only [List.getElem?_toArray, List.getElem?_cons_succ, List.getElem?_cons_zero]; rfl)
  case hQL9 => exact fun _ _ _ h => h
  case hwL9 => rfl
  case hyL9 => (intro w hSw; (try dsimp only at hSw); go_simp; try with_reducible rfl)
  try simp only [Act.put, List.setIfInBounds_toArray, List.set_cons_zero, List.set_cons_succ]
  refine' wpAnyH_take (i := 10) (oi := _) (v := _) ?hL10 (by kernel_rfl) (by kernel_rfl) (by kernel_rfl) ?hQL10 (Or.inl ⟨?hwL10, ?hyL10⟩) hHeld ?restL10
  case hL10 => (simp only [List.getElem?_toArray, List.getElem?_cons_succ, List.getElem?_cons_zero]; rfl)
  case hQL10 => exact fun _ _ _ h => h
  case hwL10 => rfl
  case hyL10 => (intro w hSw; (try dsimp only at hSw); go_simp; try with_reducible rfl)
  try simp only [Act.put, List.setIfInBounds_toArray, List.set_cons_zero, List.set_cons_succ]
  refine wpAnyH_done (by kernel_rfl) ?_ _
  go_wp2_with fail
  go_ret
  exact ⟨rfl, HK2.out.trans hHeld.2.2.2.2⟩
theorem back (a : Option Addr) (len cap : Nat) (zs : List Int) (w : World) (h : IsRow .i64 w a len cap zs) :
    Calls Try.prog 5 #[.slice a len cap] w fun e w' => e = .returned (.bool true) ∧ Below w.heap.size w w' := by
  obtain ⟨h1, h2, _⟩ := h.len
  exact (back_law a len cap zs w h1 h2 (ticks_of h _ (by omega) (by omega))).mono fun _ _ ⟨he, hk⟩ => ⟨he, hk.all⟩
end Be
end Go.Proofs.Ytbkljphhgghjdaa
