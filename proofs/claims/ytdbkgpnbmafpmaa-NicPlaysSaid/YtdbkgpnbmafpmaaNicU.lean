/- The law's step: a frame is sent. -/
import Derived.Test.YtdbkgpnbmafpmaaNicT
namespace Go.Proofs.Ytdbkgpnbmafpmaa
open Go.RowKit Go.Maps Go.Deep
namespace Nc
open Sm Fr
open PlainAid (bt)
section
variable {w w1 w' : World} {d m y c n j : Nat} {od od' : Int} {a la : Option Addr} {lg : List Sn} {L : List Pt} {lb G F : List Nat} {Ps : List RP} {xs : List Pr}
attribute [local irreducible] Nx IsSn Fr.prErr Fr.prOut
set_option maxRecDepth 100000 in
set_option maxHeartbeats 2000000 in
theorem step_2a (lc : Nat) (o k to_ ti : Int) (te : ByteArray) (h : Stp w d m y od a c lg L la n lb Ps G xs j) (hj : j ≤ 900) (hn0 : o ≠ 0) (hn1 : o ≠ 1) (hk : (Lit.int .i64 k).wf = true) (hd : te.size ≤ 300) (hp : pt? L k = none) :
    Calls Try.prog 19 #[.pointer (some ⟨d, 0, none⟩), .slice la n lc, .agg (deed o k to_ ti te)] w fun e w' => e = .returned (.bool true) ∧ Nx w d m (foot d m y L) la n lb G xs (j + 1) od w' := by
  have hk0 : Keeps [] w (w.alloc (.cells #[.int .i64 o, .int .i64 k, .int .i64 to_, .int .i64 ti, .string te] 54)) := (Keeps.refl _ _).alloc _
  have hB0 := Blk.new w 54 #[.int .i64 o, .int .i64 k, .int .i64 to_, .int .i64 ti, .string te]
  have h0 := h.kp hk0
  have HO := Lib.hid (rowner_any la n lc Ps k _ h0.rw.rr h0.n8)
  have hoi := h.oi_none hp
  rw [hoi] at HO
  have hl9 : lg.length ≤ 1000 := by have := h.lg; omega
  have HG := Lib.hid (log_dev _ h0.dv hl9)
  have H0 := Lib.hid h0
  have HB := Lib.hid hB0
  have HK := Lib.hid hk0
  have ho0 : (o == 0) = false := by simpa using hn0
  have ho1 : (o == 1) = false := by simpa using hn1
  have hHl := h.lg
  have HLT := Lib.hid h.dv.lt
  clear h h0 hk0 hoi hB0 hn0 hn1
  unfold deed
  go_enter Try.func19, Try.ntmps19
  go_wp2_with fail
  refine HO.out.mono ?_
  rintro e v ⟨rfl, rfl⟩
  go_wp2_with fail
  refine HG.out.mono ?_
  clear HO HG
  rintro e w1 ⟨a1, c1, rfl, hk1, _⟩
  have HS := Lib.hid (send_dev ti k to_ te w1 (H0.out.dv.kp hk1) hk hd hl9)
  unfold IsSend at HS
  rw [hp] at HS
  dsimp only at HS
  have HK1 := Lib.hid hk1
  obtain ⟨q, hq⟩ : ∃ q, lg.length = q := ⟨_, rfl⟩
  rw [hq]
  have HQ := Lib.hid hq
  rw [hq] at hl9 hHl
  have hb1 := HB.out.keeps hk1 (by simp)
  have b1 : w1.cell? ⟨w.heap.size, 1, none⟩ = some (.int .i64 k) := hb1.cell 1
  have b2 : w1.cell? ⟨w.heap.size, 2, none⟩ = some (.int .i64 to_) := hb1.cell 2
  have b3 : w1.cell? ⟨w.heap.size, 3, none⟩ = some (.int .i64 ti) := hb1.cell 3
  have b4 : w1.cell? ⟨w.heap.size, 4, none⟩ = some (.string te) := hb1.cell 4
  have HB1 := Lib.hid hb1
  clear hk1 hq hb1
  go_wp2_with fail
  refine HS.out.mono ?_
  clear HS b1 b2 b3 b4
  rintro e w2 ⟨rfl, hto⟩
  obtain ⟨y', a', c', hf⟩ := (H0.out.kp HK1.out).half hto
  have HL := Lib.hid (log_dev w2 hf.dv (by rw [HQ.out]; exact hl9))
  have HH := Lib.hid hf
  clear hto hf
  go_wp2_with fail
  refine HL.out.mono ?_
  clear HL
  rintro e w3 ⟨a3, c3, rfl, hk3, _⟩
  rw [HQ.out]
  have HK3 := Lib.hid hk3
  clear hk3
  go_wp2
  go_ret
  exact ⟨rfl, ((HH.out.same HK3.out (by have := H0.out.sd.more (j' := ((j + 1 : Nat) : Int)) (by omega); exact this) (by rw [HQ.out]; omega)).from HK1.out).from HK.out⟩
set_option maxRecDepth 100000 in
set_option maxHeartbeats 2000000 in
theorem step_2b (lc : Nat) (o k to_ ti : Int) (te : ByteArray) (h : Stp w d m y od a c lg L la n lb Ps G xs j) (hj : j ≤ 900) (hn0 : o ≠ 0) (hn1 : o ≠ 1) (hk : (Lit.int .i64 k).wf = true) (hd : te.size ≤ 300) (x : Pt) (hp : pt? L k = some x) (hpe : Fr.prErr to_ x.ma te ≠ 0) :
    Calls Try.prog 19 #[.pointer (some ⟨d, 0, none⟩), .slice la n lc, .agg (deed o k to_ ti te)] w fun e w' => e = .returned (.bool true) ∧ Nx w d m (foot d m y L) la n lb G xs (j + 1) od w' := by
  have hk0 : Keeps [] w (w.alloc (.cells #[.int .i64 o, .int .i64 k, .int .i64 to_, .int .i64 ti, .string te] 54)) := (Keeps.refl _ _).alloc _
  have hB0 := Blk.new w 54 #[.int .i64 o, .int .i64 k, .int .i64 to_, .int .i64 ti, .string te]
  have h0 := h.kp hk0
  have HO := Lib.hid (rowner_any la n lc Ps k _ h0.rw.rr h0.n8)
  obtain ⟨i, p, hoi, hil, hxi, hpi, e1, e2, e3, e4, e5, e6⟩ := h.oi_some hp
  have hi0 : (0 : Int) ≤ (i : Int) := by omega
  rw [hoi] at HO
  have hl9 : lg.length ≤ 1000 := by have := h.lg; omega
  have HG := Lib.hid (log_dev _ h0.dv hl9)
  have H0 := Lib.hid h0
  have HB := Lib.hid hB0
  have HK := Lib.hid hk0
  have ho0 : (o == 0) = false := by simpa using hn0
  have ho1 : (o == 1) = false := by simpa using hn1
  have hHl := h.lg
  have HLT := Lib.hid h.dv.lt
  clear h h0 hk0 hoi hB0 hn0 hn1
  unfold deed
  go_enter Try.func19, Try.ntmps19
  go_wp2_with fail
  refine HO.out.mono ?_
  rintro e v ⟨rfl, rfl⟩
  go_wp2_with fail
  refine HG.out.mono ?_
  clear HO HG
  rintro e w1 ⟨a1, c1, rfl, hk1, _⟩
  have HS := Lib.hid (send_dev ti k to_ te w1 (H0.out.dv.kp hk1) hk hd hl9)
  unfold IsSend at HS
  rw [hp] at HS
  dsimp only at HS
  have HK1 := Lib.hid hk1
  obtain ⟨q, hq⟩ : ∃ q, lg.length = q := ⟨_, rfl⟩
  rw [hq]
  have HQ := Lib.hid hq
  rw [hq] at hl9 hHl
  have hb1 := HB.out.keeps hk1 (by simp)
  have b1 : w1.cell? ⟨w.heap.size, 1, none⟩ = some (.int .i64 k) := hb1.cell 1
  have b2 : w1.cell? ⟨w.heap.size, 2, none⟩ = some (.int .i64 to_) := hb1.cell 2
  have b3 : w1.cell? ⟨w.heap.size, 3, none⟩ = some (.int .i64 ti) := hb1.cell 3
  have b4 : w1.cell? ⟨w.heap.size, 4, none⟩ = some (.string te) := hb1.cell 4
  have HB1 := Lib.hid hb1
  clear hk1 hq hb1
  go_wp2_with fail
  refine HS.out.mono ?_
  clear HS b1 b2 b3 b4
  intro e w2 hi
  obtain ⟨r, hr, rfl, hto⟩ := hi.open_
  rw [if_neg hpe] at hto
  obtain ⟨y', a', c', hf⟩ := (H0.out.kp HK1.out).half hto
  have HL := Lib.hid (log_dev w2 hf.dv (by rw [HQ.out]; exact hl9))
  have HH := Lib.hid hf
  have hb2 := HB1.out.keeps hf.kp (fun hm => absurd (HLT.out _ hm) (Nat.lt_irrefl _))
  have HB2 := Lib.hid hb2
  clear hto hf hi hb2 hr
  go_wp2_with fail
  refine HL.out.mono ?_
  clear HL
  rintro e w3 ⟨a3, c3, rfl, hk3, _⟩
  rw [HQ.out]
  have hb3 := HB2.out.keeps hk3 (by simp)
  have s2 : w3.cell? ⟨w.heap.size, 2, none⟩ = some (.int .i64 to_) := hb3.cell 2
  have s4 : w3.cell? ⟨w.heap.size, 4, none⟩ = some (.string te) := hb3.cell 4
  obtain ⟨g, rfl, _, hg, _, _, s5, _⟩ := (HH.out.rw.keeps hk3 (by simp)).cells hpi
  rw [e2] at s5
  obtain ⟨V, hV⟩ : ∃ V, w3.drew = V := ⟨_, rfl⟩
  obtain ⟨ma, hma⟩ : ∃ ma, x.ma = ma := ⟨_, rfl⟩
  rw [hma] at s5 hpe
  have hS : (fun V => V.cell? ⟨w.heap.size, 2, none⟩ = some (.int .i64 to_) ∧ V.cell? ⟨w.heap.size, 4, none⟩ = some (.string te) ∧ V.cell? ⟨g, i * 5 + 1, none⟩ = some (.int .i64 ma)) V := by rw [← hV]; exact ⟨s2, s4, s5⟩
  have hVK : Hid (Keeps [] w2 V) := Lib.hid (by rw [← hV]; exact hk3.drew)
  have hVl : w.heap.size < V.heap.size := by rw [← hV]; exact hb3.lt
  have hVg : g < V.heap.size := by rw [← hV]; exact hg
  have hlq : (lg.length : Int) = (q : Int) := by rw [HQ.out]
  clear s2 s4 s5 hg hb3 e1 e2 e3 e4 e5 e6 hxi hpi hp hlq
  rw [hma]
  have HRP := Lib.hid (fun V => rprint_any to_ ma te V hd)
  generalize hpq : Fr.prErr to_ ma te = pe at *
  clear hpq hma
  have hpb : (pe != 0) = true := by simpa using hpe
  go_wp2
  refine wp_region_held_drew (S := (fun V => V.cell? ⟨w.heap.size, 2, none⟩ = some (.int .i64 to_) ∧ V.cell? ⟨w.heap.size, 4, none⟩ = some (.string te) ∧ V.cell? ⟨g, i * 5 + 1, none⟩ = some (.int .i64 ma))) (by kernel_rfl) (by rw [hV]; exact hS) (fun hHeld => ?_)
  rw [hV] at hHeld ⊢
  refine' wpAnyH_take (i := 0) (oi := _) (v := _) ?hZ0 (by kernel_rfl) (by kernel_rfl) (by kernel_rfl) ?hQZ0 (Or.inl ⟨?hwZ0, ?hyZ0⟩) hHeld ?restZ0
  case hZ0 => (simp only [List.getElem?_toArray, List.getElem?_cons_zero]; rfl)
  case hQZ0 => exact fun _ _ _ h => h
  case hwZ0 => rfl
  case hyZ0 => (intro w hSw; (try dsimp only at hSw); go_simp; try with_reducible rfl)
  try simp only [Act.put, List.setIfInBounds_toArray, List.set_cons_zero, List.set_cons_succ]
  refine' wpAnyH_take (i := 1) (oi := _) (v := _) ?hZ1 (by kernel_rfl) (by kernel_rfl) (by kernel_rfl) ?hQZ1 (Or.inl ⟨?hwZ1, ?hyZ1⟩) hHeld ?restZ1
  case hZ1 => (simp only [List.getElem?_toArray, List.getElem?_cons_succ, List.getElem?_cons_zero]; rfl)
  case hQZ1 => exact fun _ _ _ h => h
  case hwZ1 => rfl
  case hyZ1 => (intro w hSw; (try dsimp only at hSw); go_simp; try with_reducible rfl)
  try simp only [Act.put, List.setIfInBounds_toArray, List.set_cons_zero, List.set_cons_succ]
  refine' wpAnyH_take (i := 2) (oi := _) (v := _) ?hZ2 (by kernel_rfl) (by kernel_rfl) (by kernel_rfl) ?hQZ2 (Or.inl ⟨?hwZ2, ?hyZ2⟩) hHeld ?restZ2
  case hZ2 => (simp only [List.getElem?_toArray, List.getElem?_cons_succ, List.getElem?_cons_zero]; rfl)
  case hQZ2 => exact fun _ _ _ h => h
  case hwZ2 => rfl
  case hyZ2 => (intro w hSw; (try dsimp only at hSw); go_simp; try with_reducible rfl)
  try simp only [Act.put, List.setIfInBounds_toArray, List.set_cons_zero, List.set_cons_succ]
  refine' wpAnyH_take (i := 3) (oi := _) (v := _) ?hZ3 (by kernel_rfl) (by kernel_rfl) (by kernel_rfl) ?hQZ3 (Or.inl ⟨?hwZ3, ?hyZ3⟩) hHeld ?restZ3
  case hZ3 => (simp only [List.getElem?_toArray, List.getElem?_cons_succ, List.getElem?_cons_zero]; rfl)
  case hQZ3 => exact fun _ _ _ h => h
  case hwZ3 => rfl
  case hyZ3 => (intro w hSw; (try dsimp only at hSw); go_simp; try with_reducible rfl)
  try simp only [Act.put, List.setIfInBounds_toArray, List.set_cons_zero, List.set_cons_succ]
  refine' wpAnyH_take (i := 4) (oi := _) (v := _) ?hZ4 (by kernel_rfl) (by kernel_rfl) (by kernel_rfl) ?hQZ4 (Or.inl ⟨?hwZ4, ?hyZ4⟩) hHeld ?restZ4
  case hZ4 => (simp only [List.getElem?_toArray, List.getElem?_cons_succ, List.getElem?_cons_zero]; rfl)
  case hQZ4 => exact fun _ _ _ h => h
  case hwZ4 => rfl
  case hyZ4 => (intro w hSw; (try dsimp only at hSw); go_simp; try with_reducible rfl)
  try simp only [Act.put, List.setIfInBounds_toArray, List.set_cons_zero, List.set_cons_succ]
  refine' wpAnyH_take (i := 5) (oi := _) (v := _) ?hZ5 (by kernel_rfl) (by kernel_rfl) (by kernel_rfl) ?hQZ5 (Or.inl ⟨?hwZ5, ?hyZ5⟩) hHeld ?restZ5
  case hZ5 => (simp only [List.getElem?_toArray, List.getElem?_cons_succ, List.getElem?_cons_zero]; rfl)
  case hQZ5 => exact fun _ _ _ h => h
  case hwZ5 => rfl
  case hyZ5 => (intro w hSw; (try dsimp only at hSw); go_simp; try with_reducible rfl)
  try simp only [Act.put, List.setIfInBounds_toArray, List.set_cons_zero, List.set_cons_succ]
  refine' wpAnyH_take (i := 6) (oi := _) (v := _) ?hZ6 (by kernel_rfl) (by kernel_rfl) (by kernel_rfl) ?hQZ6 (Or.inl ⟨?hwZ6, ?hyZ6⟩) hHeld ?restZ6
  case hZ6 => (simp only [List.getElem?_toArray, List.getElem?_cons_succ, List.getElem?_cons_zero]; rfl)
  case hQZ6 => exact fun _ _ _ h => h
  case hwZ6 => rfl
  case hyZ6 => (intro w hSw; (try dsimp only at hSw); go_simp; try with_reducible rfl)
  try simp only [Act.put, List.setIfInBounds_toArray, List.set_cons_zero, List.set_cons_succ]
  refine' wpAnyH_take (i := 7) (oi := _) (v := _) ?hZ7 (by kernel_rfl) (by kernel_rfl) (by kernel_rfl) ?hQZ7 (Or.inl ⟨?hwZ7, ?hyZ7⟩) hHeld ?restZ7
  case hZ7 => (simp only [List.getElem?_toArray, List.getElem?_cons_succ, List.getElem?_cons_zero]; rfl)
  case hQZ7 => exact fun _ _ _ h => h
  case hwZ7 => rfl
  case hyZ7 => (intro w hSw; (try dsimp only at hSw); go_simp; try with_reducible rfl)
  try simp only [Act.put, List.setIfInBounds_toArray, List.set_cons_zero, List.set_cons_succ]
  refine' wpAnyH_take (i := 8) (oi := _) (v := _) ?hZ8 (by kernel_rfl) (by kernel_rfl) (by kernel_rfl) ?hQZ8 (Or.inl ⟨?hwZ8, ?hyZ8⟩) hHeld ?restZ8
  case hZ8 => (simp only [List.getElem?_toArray, List.getElem?_cons_succ, List.getElem?_cons_zero]; rfl)
  case hQZ8 => exact fun _ _ _ h => h
  case hwZ8 => rfl
  case hyZ8 => (intro w hSw; (try dsimp only at hSw); go_simp; try with_reducible rfl)
  try simp only [Act.put, List.setIfInBounds_toArray, List.set_cons_zero, List.set_cons_succ]
  refine' wpAnyH_take (i := 9) (oi := _) (v := _) ?hZ9 (by kernel_rfl) (by kernel_rfl) (by kernel_rfl) ?hQZ9 (Or.inl ⟨?hwZ9, ?hyZ9⟩) hHeld ?restZ9
  case hZ9 => (simp only [List.getElem?_toArray, List.getElem?_cons_succ, List.getElem?_cons_zero]; rfl)
  case hQZ9 => exact fun _ _ _ h => h
  case hwZ9 => rfl
  case hyZ9 => (intro w hSw; (try dsimp only at hSw); go_simp; try with_reducible rfl)
  try simp only [Act.put, List.setIfInBounds_toArray, List.set_cons_zero, List.set_cons_succ]
  refine wpAnyH_ready (rs := [10]) (by kernel_rfl) (by simp) ?_
  refine AllReadyH.cons rfl (fun K hK => ?_) AllReadyH.nil
  go_simp
  refine (HRP.out _).mono ?_
  rintro e W9 ⟨r9, rfl, hr9, hb9⟩
  try go_wp2_with fail
  refine hK.out _ _ (⟨((Keeps.of_below hb9 []).cell (p := ⟨w.heap.size, 2, none⟩) hVl (by simp)).trans hHeld.1, ((Keeps.of_below hb9 []).cell (p := ⟨w.heap.size, 4, none⟩) hVl (by simp)).trans hHeld.2.1, ((Keeps.of_below hb9 []).cell (p := ⟨g, i * 5 + 1, none⟩) hVg (by simp)).trans hHeld.2.2⟩) (fun hHeld' => ?_)
  have HZ := Lib.hid ((hVK.out).trans (Keeps.of_below hb9 []))
  have HR9 := Lib.hid hr9
  clear hK K hHeld hr9
  have hHeld := hHeld'
  clear hHeld'
  try simp only [Act.put, List.setIfInBounds_toArray, List.set_cons_zero, List.set_cons_succ]
  refine' wpAnyH_take (i := 11) (oi := _) (v := _) ?hZ11 (by kernel_rfl) (by kernel_rfl) (by kernel_rfl) ?hQZ11 (Or.inl ⟨?hwZ11, ?hyZ11⟩) hHeld ?restZ11
  case hZ11 => (simp only [List.getElem?_toArray, List.getElem?_cons_succ, List.getElem?_cons_zero]; rfl)
  case hQZ11 => exact fun _ _ _ h => h
  case hwZ11 => rfl
  case hyZ11 => (intro w hSw; (try dsimp only at hSw); go_simp; try with_reducible rfl)
  try simp only [Act.put, List.setIfInBounds_toArray, List.set_cons_zero, List.set_cons_succ]
  refine' wpAnyH_take (i := 12) (oi := _) (v := _) ?hZ12 (by kernel_rfl) (by kernel_rfl) (by kernel_rfl) ?hQZ12 (Or.inl ⟨?hwZ12, ?hyZ12⟩) hHeld ?restZ12
  case hZ12 => (simp only [List.getElem?_toArray, List.getElem?_cons_succ, List.getElem?_cons_zero]; rfl)
  case hQZ12 => exact fun _ _ _ h => h
  case hwZ12 => rfl
  case hyZ12 => (intro w hSw; (try dsimp only at hSw); go_simp; try with_reducible rfl)
  try simp only [Act.put, List.setIfInBounds_toArray, List.set_cons_zero, List.set_cons_succ]
  refine' wpAnyH_take (i := 13) (oi := _) (v := _) ?hZ13 (by kernel_rfl) (by kernel_rfl) (by kernel_rfl) ?hQZ13 (Or.inl ⟨?hwZ13, ?hyZ13⟩) hHeld ?restZ13
  case hZ13 => (simp only [List.getElem?_toArray, List.getElem?_cons_succ, List.getElem?_cons_zero]; rfl)
  case hQZ13 => exact fun _ _ _ h => h
  case hwZ13 => rfl
  case hyZ13 => (intro w hSw; (try dsimp only at hSw); go_simp; try with_reducible rfl)
  try simp only [Act.put, List.setIfInBounds_toArray, List.set_cons_zero, List.set_cons_succ]
  refine' wpAnyH_take (i := 14) (oi := _) (v := _) ?hZ14 (by kernel_rfl) (by kernel_rfl) (by kernel_rfl) ?hQZ14 (Or.inl ⟨?hwZ14, ?hyZ14⟩) hHeld ?restZ14
  case hZ14 => (simp only [List.getElem?_toArray, List.getElem?_cons_succ, List.getElem?_cons_zero]; rfl)
  case hQZ14 => exact fun _ _ _ h => h
  case hwZ14 => rfl
  case hyZ14 => (intro w hSw; (try dsimp only at hSw); go_simp; try with_reducible rfl)
  try simp only [Act.put, List.setIfInBounds_toArray, List.set_cons_zero, List.set_cons_succ]
  refine' wpAnyH_take (i := 15) (oi := _) (v := _) ?hZ15 (by kernel_rfl) (by kernel_rfl) (by kernel_rfl) ?hQZ15 (Or.inl ⟨?hwZ15, ?hyZ15⟩) hHeld ?restZ15
  case hZ15 => (simp only [List.getElem?_toArray, List.getElem?_cons_succ, List.getElem?_cons_zero]; rfl)
  case hQZ15 => exact fun _ _ _ h => h
  case hwZ15 => rfl
  case hyZ15 => (intro w hSw; (try dsimp only at hSw); go_simp; try with_reducible rfl)
  try simp only [Act.put, List.setIfInBounds_toArray, List.set_cons_zero, List.set_cons_succ]
  refine wpAnyH_done (by kernel_rfl) ?_ _
  clear hHeld
  go_wp2
  go_ret
  exact ⟨rfl, ((HH.out.same HZ.out (by have := H0.out.sd.more (j' := ((j + 1 : Nat) : Int)) (by omega); exact this) (by rw [HQ.out]; omega)).from HK1.out).from HK.out⟩
set_option maxRecDepth 100000 in
set_option maxHeartbeats 2000000 in
theorem step_2c (lc : Nat) (o k to_ ti : Int) (te : ByteArray) (h : Stp w d m y od a c lg L la n lb Ps G xs j) (hj : j ≤ 900) (hn0 : o ≠ 0) (hn1 : o ≠ 1) (hk : (Lit.int .i64 k).wf = true) (hd : te.size ≤ 300) (x : Pt) (hp : pt? L k = some x) (hpe : Fr.prErr to_ x.ma te = 0) :
    Calls Try.prog 19 #[.pointer (some ⟨d, 0, none⟩), .slice la n lc, .agg (deed o k to_ ti te)] w fun e w' => e = .returned (.bool true) ∧ Nx w d m (foot d m y L) la n lb G xs (j + 1) od w' := by
  have hk0 : Keeps [] w (w.alloc (.cells #[.int .i64 o, .int .i64 k, .int .i64 to_, .int .i64 ti, .string te] 54)) := (Keeps.refl _ _).alloc _
  have hB0 := Blk.new w 54 #[.int .i64 o, .int .i64 k, .int .i64 to_, .int .i64 ti, .string te]
  have h0 := h.kp hk0
  have HO := Lib.hid (rowner_any la n lc Ps k _ h0.rw.rr h0.n8)
  obtain ⟨i, p, hoi, hil, hxi, hpi, e1, e2, e3, e4, e5, e6⟩ := h.oi_some hp
  have hi0 : (0 : Int) ≤ (i : Int) := by omega
  rw [hoi] at HO
  have hl9 : lg.length ≤ 1000 := by have := h.lg; omega
  have HG := Lib.hid (log_dev _ h0.dv hl9)
  have H0 := Lib.hid h0
  have HB := Lib.hid hB0
  have HK := Lib.hid hk0
  have ho0 : (o == 0) = false := by simpa using hn0
  have ho1 : (o == 1) = false := by simpa using hn1
  have hHl := h.lg
  have HLT := Lib.hid h.dv.lt
  clear h h0 hk0 hoi hB0 hn0 hn1
  unfold deed
  go_enter Try.func19, Try.ntmps19
  go_wp2_with fail
  refine HO.out.mono ?_
  rintro e v ⟨rfl, rfl⟩
  go_wp2_with fail
  refine HG.out.mono ?_
  clear HO HG
  rintro e w1 ⟨a1, c1, rfl, hk1, _⟩
  have HS := Lib.hid (send_dev ti k to_ te w1 (H0.out.dv.kp hk1) hk hd hl9)
  unfold IsSend at HS
  rw [hp] at HS
  dsimp only at HS
  have HK1 := Lib.hid hk1
  obtain ⟨q, hq⟩ : ∃ q, lg.length = q := ⟨_, rfl⟩
  rw [hq]
  have HQ := Lib.hid hq
  rw [hq] at hl9 hHl
  have hb1 := HB.out.keeps hk1 (by simp)
  have b1 : w1.cell? ⟨w.heap.size, 1, none⟩ = some (.int .i64 k) := hb1.cell 1
  have b2 : w1.cell? ⟨w.heap.size, 2, none⟩ = some (.int .i64 to_) := hb1.cell 2
  have b3 : w1.cell? ⟨w.heap.size, 3, none⟩ = some (.int .i64 ti) := hb1.cell 3
  have b4 : w1.cell? ⟨w.heap.size, 4, none⟩ = some (.string te) := hb1.cell 4
  have HB1 := Lib.hid hb1
  clear hk1 hq hb1
  go_wp2_with fail
  refine HS.out.mono ?_
  clear HS b1 b2 b3 b4
  intro e w2 hi
  obtain ⟨r, hr, rfl, hto⟩ := hi.open_
  rw [if_pos hpe] at hto
  obtain ⟨y', a', c', hf⟩ := (H0.out.kp HK1.out).half hto
  have HL := Lib.hid (log_dev w2 hf.dv (by rw [List.length_append, HQ.out]; simp; omega))
  have HH := Lib.hid hf
  have hb2 := HB1.out.keeps hf.kp (fun hm => absurd (HLT.out _ hm) (Nat.lt_irrefl _))
  have HB2 := Lib.hid hb2
  have HRD := Lib.hid hr
  clear hto hf hi hb2 hr
  rw [hpe]
  go_wp2_with fail
  refine HL.out.mono ?_
  clear HL
  rintro e w3 ⟨a3, c3, rfl, hk3, hlg⟩
  have hl8 : (lg ++ [(⟨ti, k, r⟩ : Sn)]).length = q + 1 := by rw [List.length_append, HQ.out]; rfl
  rw [hl8]
  obtain ⟨y9, rfl, hy9, hcl⟩ := hlg (by rw [hl8]; omega)
  have hci := hcl q ⟨ti, k, r⟩ (by rw [← HQ.out]; simp)
  have u0 : w3.cell? ⟨y9, q * 3, none⟩ = some (.int .i64 ti) := hci 0 (by omega)
  have u1 : w3.cell? ⟨y9, q * 3 + 1, none⟩ = some (.int .i64 k) := hci 1 (by omega)
  have u2 : w3.cell? ⟨y9, q * 3 + 2, none⟩ = some (.string r) := hci 2 (by omega)
  have HU := Lib.hid (And.intro u0 (And.intro u1 (And.intro u2 hy9)))
  clear hlg hcl hci u0 u1 u2 hl8
  have hb3 := HB2.out.keeps hk3 (by simp)
  have s2 : w3.cell? ⟨w.heap.size, 2, none⟩ = some (.int .i64 to_) := hb3.cell 2
  have s4 : w3.cell? ⟨w.heap.size, 4, none⟩ = some (.string te) := hb3.cell 4
  obtain ⟨g, rfl, _, hg, _, _, s5, _⟩ := (HH.out.rw.keeps hk3 (by simp)).cells hpi
  rw [e2] at s5
  obtain ⟨V, hV⟩ : ∃ V, w3.drew = V := ⟨_, rfl⟩
  obtain ⟨ma, hma⟩ : ∃ ma, x.ma = ma := ⟨_, rfl⟩
  rw [hma] at s5 hpe
  have hS : (fun V => V.cell? ⟨w.heap.size, 2, none⟩ = some (.int .i64 to_) ∧ V.cell? ⟨w.heap.size, 4, none⟩ = some (.string te) ∧ V.cell? ⟨g, i * 5 + 1, none⟩ = some (.int .i64 ma)) V := by rw [← hV]; exact ⟨s2, s4, s5⟩
  have hVK : Hid (Keeps [] w2 V) := Lib.hid (by rw [← hV]; exact hk3.drew)
  have hVl : w.heap.size < V.heap.size := by rw [← hV]; exact hb3.lt
  have hVg : g < V.heap.size := by rw [← hV]; exact hg
  have hlq : (lg.length : Int) = (q : Int) := by rw [HQ.out]
  have HB9 := Lib.hid hb3
  have hVK3 : Hid (Keeps [] w3 V) := Lib.hid (by rw [← hV]; exact (Keeps.refl [] w3).drew)
  clear s2 s4 s5 hg hb3 e1 e2 e3 e4 e5 e6 hxi hpi hp hlq
  have HMA := Lib.hid hma
  have HRP := Lib.hid (fun V => rprint_any to_ ma te V hd)
  rw [hpe] at HRP
  clear hma hpe
  go_wp2
  refine wp_region_held_drew (S := (fun V => V.cell? ⟨w.heap.size, 2, none⟩ = some (.int .i64 to_) ∧ V.cell? ⟨w.heap.size, 4, none⟩ = some (.string te) ∧ V.cell? ⟨g, i * 5 + 1, none⟩ = some (.int .i64 ma))) (by kernel_rfl) (by rw [hV]; exact hS) (fun hHeld => ?_)
  rw [hV] at hHeld ⊢
  refine' wpAnyH_take (i := 0) (oi := _) (v := _) ?hZ0 (by kernel_rfl) (by kernel_rfl) (by kernel_rfl) ?hQZ0 (Or.inl ⟨?hwZ0, ?hyZ0⟩) hHeld ?restZ0
  case hZ0 => (simp only [List.getElem?_toArray, List.getElem?_cons_zero]; rfl)
  case hQZ0 => exact fun _ _ _ h => h
  case hwZ0 => rfl
  case hyZ0 => (intro w hSw; (try dsimp only at hSw); go_simp; try with_reducible rfl)
  try simp only [Act.put, List.setIfInBounds_toArray, List.set_cons_zero, List.set_cons_succ]
  refine' wpAnyH_take (i := 1) (oi := _) (v := _) ?hZ1 (by kernel_rfl) (by kernel_rfl) (by kernel_rfl) ?hQZ1 (Or.inl ⟨?hwZ1, ?hyZ1⟩) hHeld ?restZ1
  case hZ1 => (simp only [List.getElem?_toArray, List.getElem?_cons_succ, List.getElem?_cons_zero]; rfl)
  case hQZ1 => exact fun _ _ _ h => h
  case hwZ1 => rfl
  case hyZ1 => (intro w hSw; (try dsimp only at hSw); go_simp; try with_reducible rfl)
  try simp only [Act.put, List.setIfInBounds_toArray, List.set_cons_zero, List.set_cons_succ]
  refine' wpAnyH_take (i := 2) (oi := _) (v := _) ?hZ2 (by kernel_rfl) (by kernel_rfl) (by kernel_rfl) ?hQZ2 (Or.inl ⟨?hwZ2, ?hyZ2⟩) hHeld ?restZ2
  case hZ2 => (simp only [List.getElem?_toArray, List.getElem?_cons_succ, List.getElem?_cons_zero]; rfl)
  case hQZ2 => exact fun _ _ _ h => h
  case hwZ2 => rfl
  case hyZ2 => (intro w hSw; (try dsimp only at hSw); go_simp; try with_reducible rfl)
  try simp only [Act.put, List.setIfInBounds_toArray, List.set_cons_zero, List.set_cons_succ]
  refine' wpAnyH_take (i := 3) (oi := _) (v := _) ?hZ3 (by kernel_rfl) (by kernel_rfl) (by kernel_rfl) ?hQZ3 (Or.inl ⟨?hwZ3, ?hyZ3⟩) hHeld ?restZ3
  case hZ3 => (simp only [List.getElem?_toArray, List.getElem?_cons_succ, List.getElem?_cons_zero]; rfl)
  case hQZ3 => exact fun _ _ _ h => h
  case hwZ3 => rfl
  case hyZ3 => (intro w hSw; (try dsimp only at hSw); go_simp; try with_reducible rfl)
  try simp only [Act.put, List.setIfInBounds_toArray, List.set_cons_zero, List.set_cons_succ]
  refine' wpAnyH_take (i := 4) (oi := _) (v := _) ?hZ4 (by kernel_rfl) (by kernel_rfl) (by kernel_rfl) ?hQZ4 (Or.inl ⟨?hwZ4, ?hyZ4⟩) hHeld ?restZ4
  case hZ4 => (simp only [List.getElem?_toArray, List.getElem?_cons_succ, List.getElem?_cons_zero]; rfl)
  case hQZ4 => exact fun _ _ _ h => h
  case hwZ4 => rfl
  case hyZ4 => (intro w hSw; (try dsimp only at hSw); go_simp; try with_reducible rfl)
  try simp only [Act.put, List.setIfInBounds_toArray, List.set_cons_zero, List.set_cons_succ]
  refine' wpAnyH_take (i := 5) (oi := _) (v := _) ?hZ5 (by kernel_rfl) (by kernel_rfl) (by kernel_rfl) ?hQZ5 (Or.inl ⟨?hwZ5, ?hyZ5⟩) hHeld ?restZ5
  case hZ5 => (simp only [List.getElem?_toArray, List.getElem?_cons_succ, List.getElem?_cons_zero]; rfl)
  case hQZ5 => exact fun _ _ _ h => h
  case hwZ5 => rfl
  case hyZ5 => (intro w hSw; (try dsimp only at hSw); go_simp; try with_reducible rfl)
  try simp only [Act.put, List.setIfInBounds_toArray, List.set_cons_zero, List.set_cons_succ]
  refine' wpAnyH_take (i := 6) (oi := _) (v := _) ?hZ6 (by kernel_rfl) (by kernel_rfl) (by kernel_rfl) ?hQZ6 (Or.inl ⟨?hwZ6, ?hyZ6⟩) hHeld ?restZ6
  case hZ6 => (simp only [List.getElem?_toArray, List.getElem?_cons_succ, List.getElem?_cons_zero]; rfl)
  case hQZ6 => exact fun _ _ _ h => h
  case hwZ6 => rfl
  case hyZ6 => (intro w hSw; (try dsimp only at hSw); go_simp; try with_reducible rfl)
  try simp only [Act.put, List.setIfInBounds_toArray, List.set_cons_zero, List.set_cons_succ]
  refine' wpAnyH_take (i := 7) (oi := _) (v := _) ?hZ7 (by kernel_rfl) (by kernel_rfl) (by kernel_rfl) ?hQZ7 (Or.inl ⟨?hwZ7, ?hyZ7⟩) hHeld ?restZ7
  case hZ7 => (simp only [List.getElem?_toArray, List.getElem?_cons_succ, List.getElem?_cons_zero]; rfl)
  case hQZ7 => exact fun _ _ _ h => h
  case hwZ7 => rfl
  case hyZ7 => (intro w hSw; (try dsimp only at hSw); go_simp; try with_reducible rfl)
  try simp only [Act.put, List.setIfInBounds_toArray, List.set_cons_zero, List.set_cons_succ]
  refine' wpAnyH_take (i := 8) (oi := _) (v := _) ?hZ8 (by kernel_rfl) (by kernel_rfl) (by kernel_rfl) ?hQZ8 (Or.inl ⟨?hwZ8, ?hyZ8⟩) hHeld ?restZ8
  case hZ8 => (simp only [List.getElem?_toArray, List.getElem?_cons_succ, List.getElem?_cons_zero]; rfl)
  case hQZ8 => exact fun _ _ _ h => h
  case hwZ8 => rfl
  case hyZ8 => (intro w hSw; (try dsimp only at hSw); go_simp; try with_reducible rfl)
  try simp only [Act.put, List.setIfInBounds_toArray, List.set_cons_zero, List.set_cons_succ]
  refine' wpAnyH_take (i := 9) (oi := _) (v := _) ?hZ9 (by kernel_rfl) (by kernel_rfl) (by kernel_rfl) ?hQZ9 (Or.inl ⟨?hwZ9, ?hyZ9⟩) hHeld ?restZ9
  case hZ9 => (simp only [List.getElem?_toArray, List.getElem?_cons_succ, List.getElem?_cons_zero]; rfl)
  case hQZ9 => exact fun _ _ _ h => h
  case hwZ9 => rfl
  case hyZ9 => (intro w hSw; (try dsimp only at hSw); go_simp; try with_reducible rfl)
  try simp only [Act.put, List.setIfInBounds_toArray, List.set_cons_zero, List.set_cons_succ]
  refine wpAnyH_ready (rs := [10]) (by kernel_rfl) (by simp) ?_
  refine AllReadyH.cons rfl (fun K hK => ?_) AllReadyH.nil
  go_simp
  refine (HRP.out _).mono ?_
  rintro e W9 ⟨r9, rfl, hr9, hb9⟩
  try go_wp2_with fail
  refine hK.out _ _ (⟨((Keeps.of_below hb9 []).cell (p := ⟨w.heap.size, 2, none⟩) hVl (by simp)).trans hHeld.1, ((Keeps.of_below hb9 []).cell (p := ⟨w.heap.size, 4, none⟩) hVl (by simp)).trans hHeld.2.1, ((Keeps.of_below hb9 []).cell (p := ⟨g, i * 5 + 1, none⟩) hVg (by simp)).trans hHeld.2.2⟩) (fun hHeld' => ?_)
  have HZ := Lib.hid ((hVK.out).trans (Keeps.of_below hb9 []))
  have HR9 := Lib.hid hr9
  have HZ3 := Lib.hid ((hVK3.out).trans (Keeps.of_below hb9 []))
  clear hK K hHeld hr9
  have hHeld := hHeld'
  clear hHeld'
  try simp only [Act.put, List.setIfInBounds_toArray, List.set_cons_zero, List.set_cons_succ]
  refine' wpAnyH_take (i := 11) (oi := _) (v := _) ?hZ11 (by kernel_rfl) (by kernel_rfl) (by kernel_rfl) ?hQZ11 (Or.inl ⟨?hwZ11, ?hyZ11⟩) hHeld ?restZ11
  case hZ11 => (simp only [List.getElem?_toArray, List.getElem?_cons_succ, List.getElem?_cons_zero]; rfl)
  case hQZ11 => exact fun _ _ _ h => h
  case hwZ11 => rfl
  case hyZ11 => (intro w hSw; (try dsimp only at hSw); go_simp; try with_reducible rfl)
  try simp only [Act.put, List.setIfInBounds_toArray, List.set_cons_zero, List.set_cons_succ]
  refine' wpAnyH_take (i := 12) (oi := _) (v := _) ?hZ12 (by kernel_rfl) (by kernel_rfl) (by kernel_rfl) ?hQZ12 (Or.inl ⟨?hwZ12, ?hyZ12⟩) hHeld ?restZ12
  case hZ12 => (simp only [List.getElem?_toArray, List.getElem?_cons_succ, List.getElem?_cons_zero]; rfl)
  case hQZ12 => exact fun _ _ _ h => h
  case hwZ12 => rfl
  case hyZ12 => (intro w hSw; (try dsimp only at hSw); go_simp; try with_reducible rfl)
  try simp only [Act.put, List.setIfInBounds_toArray, List.set_cons_zero, List.set_cons_succ]
  refine' wpAnyH_take (i := 13) (oi := _) (v := _) ?hZ13 (by kernel_rfl) (by kernel_rfl) (by kernel_rfl) ?hQZ13 (Or.inl ⟨?hwZ13, ?hyZ13⟩) hHeld ?restZ13
  case hZ13 => (simp only [List.getElem?_toArray, List.getElem?_cons_succ, List.getElem?_cons_zero]; rfl)
  case hQZ13 => exact fun _ _ _ h => h
  case hwZ13 => rfl
  case hyZ13 => (intro w hSw; (try dsimp only at hSw); go_simp; try with_reducible rfl)
  try simp only [Act.put, List.setIfInBounds_toArray, List.set_cons_zero, List.set_cons_succ]
  refine' wpAnyH_take (i := 14) (oi := _) (v := _) ?hZ14 (by kernel_rfl) (by kernel_rfl) (by kernel_rfl) ?hQZ14 (Or.inl ⟨?hwZ14, ?hyZ14⟩) hHeld ?restZ14
  case hZ14 => (simp only [List.getElem?_toArray, List.getElem?_cons_succ, List.getElem?_cons_zero]; rfl)
  case hQZ14 => exact fun _ _ _ h => h
  case hwZ14 => rfl
  case hyZ14 => (intro w hSw; (try dsimp only at hSw); go_simp; try with_reducible rfl)
  try simp only [Act.put, List.setIfInBounds_toArray, List.set_cons_zero, List.set_cons_succ]
  refine' wpAnyH_take (i := 15) (oi := _) (v := _) ?hZ15 (by kernel_rfl) (by kernel_rfl) (by kernel_rfl) ?hQZ15 (Or.inl ⟨?hwZ15, ?hyZ15⟩) hHeld ?restZ15
  case hZ15 => (simp only [List.getElem?_toArray, List.getElem?_cons_succ, List.getElem?_cons_zero]; rfl)
  case hQZ15 => exact fun _ _ _ h => h
  case hwZ15 => rfl
  case hyZ15 => (intro w hSw; (try dsimp only at hSw); go_simp; try with_reducible rfl)
  try simp only [Act.put, List.setIfInBounds_toArray, List.set_cons_zero, List.set_cons_succ]
  refine wpAnyH_done (by kernel_rfl) ?_ _
  clear hHeld
  have hkz := HZ3.out
  obtain ⟨u0, u1, u2, hy9'⟩ := HU.out
  have v0 := (hkz.cell (p := ⟨y9, q * 3, none⟩) hy9 (by simp)).trans u0
  have v1 := (hkz.cell (p := ⟨y9, q * 3 + 1, none⟩) hy9 (by simp)).trans u1
  have v2 := (hkz.cell (p := ⟨y9, q * 3 + 2, none⟩) hy9 (by simp)).trans u2
  have hb9 := HB9.out.keeps hkz (by simp)
  have s1 : W9.cell? ⟨w.heap.size, 1, none⟩ = some (.int .i64 k) := hb9.cell 1
  have s3 : W9.cell? ⟨w.heap.size, 3, none⟩ = some (.int .i64 ti) := hb9.cell 3
  have hrr : r9 = r := by rw [ba_of HR9.out, ba_of HRD.out, HMA.out]
  subst hrr
  have hsum : IntKind.i64.wrap ((q : Int) + 1) = (q : Int) + 1 := IntWalk.i64_in _ (by omega)
  have hq0 : (0 : Int) ≤ (q : Int) := by omega
  have hq1 : (q : Int) < (q : Int) + 1 := by omega
  have hq2 : (q : Int) < ((q + 1 : Nat) : Int) := by omega
  clear hkz hb9 u0 u1 u2 hy9' hy9
  go_wp2_with fail
  go_quiet (fail)
  go_wp2
  go_ret
  exact ⟨rfl, ((HH.out.same (HZ.out.drawn ⟨_, rfl⟩) (by have := H0.out.sd.more (j' := ((j + 1 : Nat) : Int)) (by omega); exact this) (by rw [List.length_append, HQ.out]; simp; omega)).from HK1.out).from HK.out⟩
end
end Nc
end Go.Proofs.Ytdbkgpnbmafpmaa
