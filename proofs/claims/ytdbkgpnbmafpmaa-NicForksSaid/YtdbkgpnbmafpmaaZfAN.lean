/- The law's step: a frame is sent. The law NicPlays: its walk. -/
import Derived.Test.YtdbkgpnbmafpmaaZfAM
namespace Go.Proofs.Ytdbkgpnbmafpmaa
open Go.RowKit Go.Maps Go.Deep
namespace Nc
open Sm Fr
open PlainAid (bt)
section
variable {w w1 w' : World} {d m y c n j : Nat} {od od' : Int} {a la : Option Addr} {lg : List Sn} {L : List Pt} {lb G F : List Nat} {Ps : List RP} {xs : List Pr}
attribute [local irreducible] Nx IsSn Fr.prErr Fr.prOut
set_option maxRecDepth 100000 in
set_option maxHeartbeats 2000000 in
theorem step_2a (lc : Nat) (o k to_ ti : Int) (te : ByteArray) (h : Stp w d m y od a c lg L la n lb Ps G xs j) (hj : j ≤ 900) (hn0 : o ≠ 0) (hn1 : o ≠ 1) (hk : (Lit.int .i64 k).wf = true) (hd : te.size ≤ 300) (hp : pt? L k = none) :
    Calls Try.prog 19 #[.pointer (some ⟨d, 0, none⟩), .slice la n lc, .agg (deed o k to_ ti te)] w fun e w' => e = .returned (.bool true) ∧ Nx w d m (foot d m y L) la n lb G xs (j + 1) od w' := by
  have hk0 : Keeps [] w (w.alloc (.cells #[.int .i64 o, .int .i64 k, .int .i64 to_, .int .i64 ti, .string te] 54)) := (Keeps.refl _ _).alloc _
  have hB0 := Blk.new w 54 #[.int .i64 o, .int .i64 k, .int .i64 to_, .int .i64 ti, .string te]
  have h0 := h.kp hk0
  have HO := Lib.hid (rowner_any la n lc Ps k _ h0.rw.rr h0.n8)
  have hoi := h.oi_none hp
  rw [hoi] at HO
  have hl9 : lg.length ≤ 1000 := by have := h.lg; omega
  have HG := Lib.hid (log_dev _ h0.dv hl9)
  have H0 := Lib.hid h0
  have HB := Lib.hid hB0
  have HK := Lib.hid hk0
  have ho0 : (o == 0) = false := by simpa using hn0
  have ho1 : (o == 1) = false := by simpa using hn1
  have hHl := h.lg
  have HLT := Lib.hid h.dv.lt
  clear h h0 hk0 hoi hB0 hn0 hn1
  unfold deed
  go_enter Try.func19, Try.ntmps19
  go_wp2_with fail
  refine HO.out.mono ?_
  rintro e v ⟨rfl, rfl⟩
  go_wp2_with fail
  refine HG.out.mono ?_
  clear HO HG
  rintro e w1 ⟨a1, c1, rfl, hk1, _⟩
  have HS := Lib.hid (send_dev ti k to_ te w1 (H0.out.dv.kp hk1) hk hd hl9)
  unfold IsSend at HS
  rw [hp] at HS
  dsimp only at HS
  have HK1 := Lib.hid hk1
  obtain ⟨q, hq⟩ : ∃ q, lg.length = q := ⟨_, rfl⟩
  rw [hq]
  have HQ := Lib.hid hq
  rw [hq] at hl9 hHl
  have hb1 := HB.out.keeps hk1 (by simp)
  have b1 : w1.cell? ⟨w.heap.size, 1, none⟩ = some (.int .i64 k) := hb1.cell 1
  have b2 : w1.cell? ⟨w.heap.size, 2, none⟩ = some (.int .i64 to_) := hb1.cell 2
  have b3 : w1.cell? ⟨w.heap.size, 3, none⟩ = some (.int .i64 ti) := hb1.cell 3
  have b4 : w1.cell? ⟨w.heap.size, 4, none⟩ = some (.string te) := hb1.cell 4
  have HB1 := Lib.hid hb1
  clear hk1 hq hb1
  go_wp2_with fail
  refine HS.out.mono ?_
  clear HS b1 b2 b3 b4
  rintro e w2 ⟨rfl, hto⟩
  obtain ⟨y', a', c', hf⟩ := (H0.out.kp HK1.out).half hto
  have HL := Lib.hid (log_dev w2 hf.dv (by rw [HQ.out]; exact hl9))
  have HH := Lib.hid hf
  clear hto hf
  go_wp2_with fail
  refine HL.out.mono ?_
  clear HL
  rintro e w3 ⟨a3, c3, rfl, hk3, _⟩
  rw [HQ.out]
  have HK3 := Lib.hid hk3
  clear hk3
  go_wp2
  go_ret
  exact ⟨rfl, ((HH.out.same HK3.out (by have := H0.out.sd.more (j' := ((j + 1 : Nat) : Int)) (by omega); exact this) (by rw [HQ.out]; omega)).from HK1.out).from HK.out⟩
set_option maxRecDepth 100000 in
set_option maxHeartbeats 2000000 in
theorem step_2b (lc : Nat) (o k to_ ti : Int) (te : ByteArray) (h : Stp w d m y od a c lg L la n lb Ps G xs j) (hj : j ≤ 900) (hn0 : o ≠ 0) (hn1 : o ≠ 1) (hk : (Lit.int .i64 k).wf = true) (hd : te.size ≤ 300) (x : Pt) (hp : pt? L k = some x) (hpe : Fr.prErr to_ x.ma te ≠ 0) :
    Calls Try.prog 19 #[.pointer (some ⟨d, 0, none⟩), .slice la n lc, .agg (deed o k to_ ti te)] w fun e w' => e = .returned (.bool true) ∧ Nx w d m (foot d m y L) la n lb G xs (j + 1) od w' := by
  have hk0 : Keeps [] w (w.alloc (.cells #[.int .i64 o, .int .i64 k, .int .i64 to_, .int .i64 ti, .string te] 54)) := (Keeps.refl _ _).alloc _
  have hB0 := Blk.new w 54 #[.int .i64 o, .int .i64 k, .int .i64 to_, .int .i64 ti, .string te]
  have h0 := h.kp hk0
  have HO := Lib.hid (rowner_any la n lc Ps k _ h0.rw.rr h0.n8)
  obtain ⟨i, p, hoi, hil, hxi, hpi, e1, e2, e3, e4, e5, e6⟩ := h.oi_some hp
  have hi0 : (0 : Int) ≤ (i : Int) := by omega
  rw [hoi] at HO
  have hl9 : lg.length ≤ 1000 := by have := h.lg; omega
  have HG := Lib.hid (log_dev _ h0.dv hl9)
  have H0 := Lib.hid h0
  have HB := Lib.hid hB0
  have HK := Lib.hid hk0
  have ho0 : (o == 0) = false := by simpa using hn0
  have ho1 : (o == 1) = false := by simpa using hn1
  have hHl := h.lg
  have HLT := Lib.hid h.dv.lt
  clear h h0 hk0 hoi hB0 hn0 hn1
  unfold deed
  go_enter Try.func19, Try.ntmps19
  go_wp2_with fail
  refine HO.out.mono ?_
  rintro e v ⟨rfl, rfl⟩
  go_wp2_with fail
  refine HG.out.mono ?_
  clear HO HG
  rintro e w1 ⟨a1, c1, rfl, hk1, _⟩
  have HS := Lib.hid (send_dev ti k to_ te w1 (H0.out.dv.kp hk1) hk hd hl9)
  unfold IsSend at HS
  rw [hp] at HS
  dsimp only at HS
  have HK1 := Lib.hid hk1
  obtain ⟨q, hq⟩ : ∃ q, lg.length = q := ⟨_, rfl⟩
  rw [hq]
  have HQ := Lib.hid hq
  rw [hq] at hl9 hHl
  have hb1 := HB.out.keeps hk1 (by simp)
  have b1 : w1.cell? ⟨w.heap.size, 1, none⟩ = some (.int .i64 k) := hb1.cell 1
  have b2 : w1.cell? ⟨w.heap.size, 2, none⟩ = some (.int .i64 to_) := hb1.cell 2
  have b3 : w1.cell? ⟨w.heap.size, 3, none⟩ = some (.int .i64 ti) := hb1.cell 3
  have b4 : w1.cell? ⟨w.heap.size, 4, none⟩ = some (.string te) := hb1.cell 4
  have HB1 := Lib.hid hb1
  clear hk1 hq hb1
  go_wp2_with fail
  refine HS.out.mono ?_
  clear HS b1 b2 b3 b4
  intro e w2 hi
  obtain ⟨r, hr, rfl, hto⟩ := hi.open_
  rw [if_neg hpe] at hto
  obtain ⟨y', a', c', hf⟩ := (H0.out.kp HK1.out).half hto
  have HL := Lib.hid (log_dev w2 hf.dv (by rw [HQ.out]; exact hl9))
  have HH := Lib.hid hf
  have hb2 := HB1.out.keeps hf.kp (fun hm => absurd (HLT.out _ hm) (Nat.lt_irrefl _))
  have HB2 := Lib.hid hb2
  clear hto hf hi hb2 hr
  go_wp2_with fail
  refine HL.out.mono ?_
  clear HL
  rintro e w3 ⟨a3, c3, rfl, hk3, _⟩
  rw [HQ.out]
  have hb3 := HB2.out.keeps hk3 (by simp)
  have s2 : w3.cell? ⟨w.heap.size, 2, none⟩ = some (.int .i64 to_) := hb3.cell 2
  have s4 : w3.cell? ⟨w.heap.size, 4, none⟩ = some (.string te) := hb3.cell 4
  obtain ⟨g, rfl, _, hg, _, _, s5, _⟩ := (HH.out.rw.keeps hk3 (by simp)).cells hpi
  rw [e2] at s5
  obtain ⟨V, hV⟩ : ∃ V, w3.drew = V := ⟨_, rfl⟩
  obtain ⟨ma, hma⟩ : ∃ ma, x.ma = ma := ⟨_, rfl⟩
  rw [hma] at s5 hpe
  have hS : (fun V => V.cell? ⟨w.heap.size, 2, none⟩ = some (.int .i64 to_) ∧ V.cell? ⟨w.heap.size, 4, none⟩ = some (.string te) ∧ V.cell? ⟨g, i * 5 + 1, none⟩ = some (.int .i64 ma)) V := by rw [← hV]; exact ⟨s2, s4, s5⟩
  have hVK : Hid (Keeps [] w2 V) := Lib.hid (by rw [← hV]; exact hk3.drew)
  have hVl : w.heap.size < V.heap.size := by rw [← hV]; exact hb3.lt
  have hVg : g < V.heap.size := by rw [← hV]; exact hg
  have hlq : (lg.length : Int) = (q : Int) := by rw [HQ.out]
  clear s2 s4 s5 hg hb3 e1 e2 e3 e4 e5 e6 hxi hpi hp hlq
  rw [hma]
  have HRP := Lib.hid (fun V => rprint_any to_ ma te V hd)
  generalize hpq : Fr.prErr to_ ma te = pe at *
  clear hpq hma
  have hpb : (pe != 0) = true := by simpa using hpe
  go_wp2
  refine wp_region_held_drew (S := (fun V => V.cell? ⟨w.heap.size, 2, none⟩ = some (.int .i64 to_) ∧ V.cell? ⟨w.heap.size, 4, none⟩ = some (.string te) ∧ V.cell? ⟨g, i * 5 + 1, none⟩ = some (.int .i64 ma))) (by kernel_rfl) (by rw [hV]; exact hS) (fun hHeld => ?_)
  rw [hV] at hHeld ⊢
  refine' wpAnyH_take (i := 0) (oi := _) (v := _) ?hZ0 (by kernel_rfl) (by kernel_rfl) (by kernel_rfl) ?hQZ0 (Or.inl ⟨?hwZ0, ?hyZ0⟩) hHeld ?restZ0
  case hZ0 => (simp only [List.getElem?_toArray, List.getElem?_cons_zero]; rfl)
  case hQZ0 => exact fun _ _ _ h => h
  case hwZ0 => rfl
  case hyZ0 => (intro w hSw; (try dsimp only at hSw); go_simp; try with_reducible rfl)
  try simp only [Act.put, List.setIfInBounds_toArray, List.set_cons_zero, List.set_cons_succ]
  refine' wpAnyH_take (i := 1) (oi := _) (v := _) ?hZ1 (by kernel_rfl) (by kernel_rfl) (by kernel_rfl) ?hQZ1 (Or.inl ⟨?hwZ1, ?hyZ1⟩) hHeld ?restZ1
  case hZ1 => (simp only [List.getElem?_toArray, List.getElem?_cons_succ, List.getElem?_cons_zero]; rfl)
  case hQZ1 => exact fun _ _ _ h => h
  case hwZ1 => rfl
  case hyZ1 => (intro w hSw; (try dsimp only at hSw); go_simp; try with_reducible rfl)
  try simp only [Act.put, List.setIfInBounds_toArray, List.set_cons_zero, List.set_cons_succ]
  refine' wpAnyH_take (i := 2) (oi := _) (v := _) ?hZ2 (by kernel_rfl) (by kernel_rfl) (by kernel_rfl) ?hQZ2 (Or.inl ⟨?hwZ2, ?hyZ2⟩) hHeld ?restZ2
  case hZ2 => (simp only [List.getElem?_toArray, List.getElem?_cons_succ, List.getElem?_cons_zero]; rfl)
  case hQZ2 => exact fun _ _ _ h => h
  case hwZ2 => rfl
  case hyZ2 => (intro w hSw; (try dsimp only at hSw); go_simp; try with_reducible rfl)
  try simp only [Act.put, List.setIfInBounds_toArray, List.set_cons_zero, List.set_cons_succ]
  refine' wpAnyH_take (i := 3) (oi := _) (v := _) ?hZ3 (by kernel_rfl) (by kernel_rfl) (by kernel_rfl) ?hQZ3 (Or.inl ⟨?hwZ3, ?hyZ3⟩) hHeld ?restZ3
  case hZ3 => (simp only [List.getElem?_toArray, List.getElem?_cons_succ, List.getElem?_cons_zero]; rfl)
  case hQZ3 => exact fun _ _ _ h => h
  case hwZ3 => rfl
  case hyZ3 => (intro w hSw; (try dsimp only at hSw); go_simp; try with_reducible rfl)
  try simp only [Act.put, List.setIfInBounds_toArray, List.set_cons_zero, List.set_cons_succ]
  refine' wpAnyH_take (i := 4) (oi := _) (v := _) ?hZ4 (by kernel_rfl) (by kernel_rfl) (by kernel_rfl) ?hQZ4 (Or.inl ⟨?hwZ4, ?hyZ4⟩) hHeld ?restZ4
  case hZ4 => (simp only [List.getElem?_toArray, List.getElem?_cons_succ, List.getElem?_cons_zero]; rfl)
  case hQZ4 => exact fun _ _ _ h => h
  case hwZ4 => rfl
  case hyZ4 => (intro w hSw; (try dsimp only at hSw); go_simp; try with_reducible rfl)
  try simp only [Act.put, List.setIfInBounds_toArray, List.set_cons_zero, List.set_cons_succ]
  refine' wpAnyH_take (i := 5) (oi := _) (v := _) ?hZ5 (by kernel_rfl) (by kernel_rfl) (by kernel_rfl) ?hQZ5 (Or.inl ⟨?hwZ5, ?hyZ5⟩) hHeld ?restZ5
  case hZ5 => (simp only [List.getElem?_toArray, List.getElem?_cons_succ, List.getElem?_cons_zero]; rfl)
  case hQZ5 => exact fun _ _ _ h => h
  case hwZ5 => rfl
  case hyZ5 => (intro w hSw; (try dsimp only at hSw); go_simp; try with_reducible rfl)
  try simp only [Act.put, List.setIfInBounds_toArray, List.set_cons_zero, List.set_cons_succ]
  refine' wpAnyH_take (i := 6) (oi := _) (v := _) ?hZ6 (by kernel_rfl) (by kernel_rfl) (by kernel_rfl) ?hQZ6 (Or.inl ⟨?hwZ6, ?hyZ6⟩) hHeld ?restZ6
  case hZ6 => (simp only [List.getElem?_toArray, List.getElem?_cons_succ, List.getElem?_cons_zero]; rfl)
  case hQZ6 => exact fun _ _ _ h => h
  case hwZ6 => rfl
  case hyZ6 => (intro w hSw; (try dsimp only at hSw); go_simp; try with_reducible rfl)
  try simp only [Act.put, List.setIfInBounds_toArray, List.set_cons_zero, List.set_cons_succ]
  refine' wpAnyH_take (i := 7) (oi := _) (v := _) ?hZ7 (by kernel_rfl) (by kernel_rfl) (by kernel_rfl) ?hQZ7 (Or.inl ⟨?hwZ7, ?hyZ7⟩) hHeld ?restZ7
  case hZ7 => (simp only [List.getElem?_toArray, List.getElem?_cons_succ, List.getElem?_cons_zero]; rfl)
  case hQZ7 => exact fun _ _ _ h => h
  case hwZ7 => rfl
  case hyZ7 => (intro w hSw; (try dsimp only at hSw); go_simp; try with_reducible rfl)
  try simp only [Act.put, List.setIfInBounds_toArray, List.set_cons_zero, List.set_cons_succ]
  refine' wpAnyH_take (i := 8) (oi := _) (v := _) ?hZ8 (by kernel_rfl) (by kernel_rfl) (by kernel_rfl) ?hQZ8 (Or.inl ⟨?hwZ8, ?hyZ8⟩) hHeld ?restZ8
  case hZ8 => (simp only [List.getElem?_toArray, List.getElem?_cons_succ, List.getElem?_cons_zero]; rfl)
  case hQZ8 => exact fun _ _ _ h => h
  case hwZ8 => rfl
  case hyZ8 => (intro w hSw; (try dsimp only at hSw); go_simp; try with_reducible rfl)
  try simp only [Act.put, List.setIfInBounds_toArray, List.set_cons_zero, List.set_cons_succ]
  refine' wpAnyH_take (i := 9) (oi := _) (v := _) ?hZ9 (by kernel_rfl) (by kernel_rfl) (by kernel_rfl) ?hQZ9 (Or.inl ⟨?hwZ9, ?hyZ9⟩) hHeld ?restZ9
  case hZ9 => (simp only [List.getElem?_toArray, List.getElem?_cons_succ, List.getElem?_cons_zero]; rfl)
  case hQZ9 => exact fun _ _ _ h => h
  case hwZ9 => rfl
  case hyZ9 => (intro w hSw; (try dsimp only at hSw); go_simp; try with_reducible rfl)
  try simp only [Act.put, List.setIfInBounds_toArray, List.set_cons_zero, List.set_cons_succ]
  refine wpAnyH_ready (rs := [10]) (by kernel_rfl) (by simp) ?_
  refine AllReadyH.cons rfl (fun K hK => ?_) AllReadyH.nil
  go_simp
  refine (HRP.out _).mono ?_
  rintro e W9 ⟨r9, rfl, hr9, hb9⟩
  try go_wp2_with fail
  refine hK.out _ _ (⟨((Keeps.of_below hb9 []).cell (p := ⟨w.heap.size, 2, none⟩) hVl (by simp)).trans hHeld.1, ((Keeps.of_below hb9 []).cell (p := ⟨w.heap.size, 4, none⟩) hVl (by simp)).trans hHeld.2.1, ((Keeps.of_below hb9 []).cell (p := ⟨g, i * 5 + 1, none⟩) hVg (by simp)).trans hHeld.2.2⟩) (fun hHeld' => ?_)
  have HZ := Lib.hid ((hVK.out).trans (Keeps.of_below hb9 []))
  have HR9 := Lib.hid hr9
  clear hK K hHeld hr9
  have hHeld := hHeld'
  clear hHeld'
  try simp only [Act.put, List.setIfInBounds_toArray, List.set_cons_zero, List.set_cons_succ]
  refine' wpAnyH_take (i := 11) (oi := _) (v := _) ?hZ11 (by kernel_rfl) (by kernel_rfl) (by kernel_rfl) ?hQZ11 (Or.inl ⟨?hwZ11, ?hyZ11⟩) hHeld ?restZ11
  case hZ11 => (simp only [List.getElem?_toArray, List.getElem?_cons_succ, List.getElem?_cons_zero]; rfl)
  case hQZ11 => exact fun _ _ _ h => h
  case hwZ11 => rfl
  case hyZ11 => (intro w hSw; (try dsimp only at hSw); go_simp; try with_reducible rfl)
  try simp only [Act.put, List.setIfInBounds_toArray, List.set_cons_zero, List.set_cons_succ]
  refine' wpAnyH_take (i := 12) (oi := _) (v := _) ?hZ12 (by kernel_rfl) (by kernel_rfl) (by kernel_rfl) ?hQZ12 (Or.inl ⟨?hwZ12, ?hyZ12⟩) hHeld ?restZ12
  case hZ12 => (simp only [List.getElem?_toArray, List.getElem?_cons_succ, List.getElem?_cons_zero]; rfl)
  case hQZ12 => exact fun _ _ _ h => h
  case hwZ12 => rfl
  case hyZ12 => (intro w hSw; (try dsimp only at hSw); go_simp; try with_reducible rfl)
  try simp only [Act.put, List.setIfInBounds_toArray, List.set_cons_zero, List.set_cons_succ]
  refine' wpAnyH_take (i := 13) (oi := _) (v := _) ?hZ13 (by kernel_rfl) (by kernel_rfl) (by kernel_rfl) ?hQZ13 (Or.inl ⟨?hwZ13, ?hyZ13⟩) hHeld ?restZ13
  case hZ13 => (simp only [List.getElem?_toArray, List.getElem?_cons_succ, List.getElem?_cons_zero]; rfl)
  case hQZ13 => exact fun _ _ _ h => h
  case hwZ13 => rfl
  case hyZ13 => (intro w hSw; (try dsimp only at hSw); go_simp; try with_reducible rfl)
  try simp only [Act.put, List.setIfInBounds_toArray, List.set_cons_zero, List.set_cons_succ]
  refine' wpAnyH_take (i := 14) (oi := _) (v := _) ?hZ14 (by kernel_rfl) (by kernel_rfl) (by kernel_rfl) ?hQZ14 (Or.inl ⟨?hwZ14, ?hyZ14⟩) hHeld ?restZ14
  case hZ14 => (simp only [List.getElem?_toArray, List.getElem?_cons_succ, List.getElem?_cons_zero]; rfl)
  case hQZ14 => exact fun _ _ _ h => h
  case hwZ14 => rfl
  case hyZ14 => (intro w hSw; (try dsimp only at hSw); go_simp; try with_reducible rfl)
  try simp only [Act.put, List.setIfInBounds_toArray, List.set_cons_zero, List.set_cons_succ]
  refine' wpAnyH_take (i := 15) (oi := _) (v := _) ?hZ15 (by kernel_rfl) (by kernel_rfl) (by kernel_rfl) ?hQZ15 (Or.inl ⟨?hwZ15, ?hyZ15⟩) hHeld ?restZ15
  case hZ15 => (simp only [List.getElem?_toArray, List.getElem?_cons_succ, List.getElem?_cons_zero]; rfl)
  case hQZ15 => exact fun _ _ _ h => h
  case hwZ15 => rfl
  case hyZ15 => (intro w hSw; (try dsimp only at hSw); go_simp; try with_reducible rfl)
  try simp only [Act.put, List.setIfInBounds_toArray, List.set_cons_zero, List.set_cons_succ]
  refine wpAnyH_done (by kernel_rfl) ?_ _
  clear hHeld
  go_wp2
  go_ret
  exact ⟨rfl, ((HH.out.same HZ.out (by have := H0.out.sd.more (j' := ((j + 1 : Nat) : Int)) (by omega); exact this) (by rw [HQ.out]; omega)).from HK1.out).from HK.out⟩
set_option maxRecDepth 100000 in
set_option maxHeartbeats 2000000 in
theorem step_2c (lc : Nat) (o k to_ ti : Int) (te : ByteArray) (h : Stp w d m y od a c lg L la n lb Ps G xs j) (hj : j ≤ 900) (hn0 : o ≠ 0) (hn1 : o ≠ 1) (hk : (Lit.int .i64 k).wf = true) (hd : te.size ≤ 300) (x : Pt) (hp : pt? L k = some x) (hpe : Fr.prErr to_ x.ma te = 0) :
    Calls Try.prog 19 #[.pointer (some ⟨d, 0, none⟩), .slice la n lc, .agg (deed o k to_ ti te)] w fun e w' => e = .returned (.bool true) ∧ Nx w d m (foot d m y L) la n lb G xs (j + 1) od w' := by
  have hk0 : Keeps [] w (w.alloc (.cells #[.int .i64 o, .int .i64 k, .int .i64 to_, .int .i64 ti, .string te] 54)) := (Keeps.refl _ _).alloc _
  have hB0 := Blk.new w 54 #[.int .i64 o, .int .i64 k, .int .i64 to_, .int .i64 ti, .string te]
  have h0 := h.kp hk0
  have HO := Lib.hid (rowner_any la n lc Ps k _ h0.rw.rr h0.n8)
  obtain ⟨i, p, hoi, hil, hxi, hpi, e1, e2, e3, e4, e5, e6⟩ := h.oi_some hp
  have hi0 : (0 : Int) ≤ (i : Int) := by omega
  rw [hoi] at HO
  have hl9 : lg.length ≤ 1000 := by have := h.lg; omega
  have HG := Lib.hid (log_dev _ h0.dv hl9)
  have H0 := Lib.hid h0
  have HB := Lib.hid hB0
  have HK := Lib.hid hk0
  have ho0 : (o == 0) = false := by simpa using hn0
  have ho1 : (o == 1) = false := by simpa using hn1
  have hHl := h.lg
  have HLT := Lib.hid h.dv.lt
  clear h h0 hk0 hoi hB0 hn0 hn1
  unfold deed
  go_enter Try.func19, Try.ntmps19
  go_wp2_with fail
  refine HO.out.mono ?_
  rintro e v ⟨rfl, rfl⟩
  go_wp2_with fail
  refine HG.out.mono ?_
  clear HO HG
  rintro e w1 ⟨a1, c1, rfl, hk1, _⟩
  have HS := Lib.hid (send_dev ti k to_ te w1 (H0.out.dv.kp hk1) hk hd hl9)
  unfold IsSend at HS
  rw [hp] at HS
  dsimp only at HS
  have HK1 := Lib.hid hk1
  obtain ⟨q, hq⟩ : ∃ q, lg.length = q := ⟨_, rfl⟩
  rw [hq]
  have HQ := Lib.hid hq
  rw [hq] at hl9 hHl
  have hb1 := HB.out.keeps hk1 (by simp)
  have b1 : w1.cell? ⟨w.heap.size, 1, none⟩ = some (.int .i64 k) := hb1.cell 1
  have b2 : w1.cell? ⟨w.heap.size, 2, none⟩ = some (.int .i64 to_) := hb1.cell 2
  have b3 : w1.cell? ⟨w.heap.size, 3, none⟩ = some (.int .i64 ti) := hb1.cell 3
  have b4 : w1.cell? ⟨w.heap.size, 4, none⟩ = some (.string te) := hb1.cell 4
  have HB1 := Lib.hid hb1
  clear hk1 hq hb1
  go_wp2_with fail
  refine HS.out.mono ?_
  clear HS b1 b2 b3 b4
  intro e w2 hi
  obtain ⟨r, hr, rfl, hto⟩ := hi.open_
  rw [if_pos hpe] at hto
  obtain ⟨y', a', c', hf⟩ := (H0.out.kp HK1.out).half hto
  have HL := Lib.hid (log_dev w2 hf.dv (by rw [List.length_append, HQ.out]; simp; omega))
  have HH := Lib.hid hf
  have hb2 := HB1.out.keeps hf.kp (fun hm => absurd (HLT.out _ hm) (Nat.lt_irrefl _))
  have HB2 := Lib.hid hb2
  have HRD := Lib.hid hr
  clear hto hf hi hb2 hr
  rw [hpe]
  go_wp2_with fail
  refine HL.out.mono ?_
  clear HL
  rintro e w3 ⟨a3, c3, rfl, hk3, hlg⟩
  have hl8 : (lg ++ [(⟨ti, k, r⟩ : Sn)]).length = q + 1 := by rw [List.length_append, HQ.out]; rfl
  rw [hl8]
  obtain ⟨y9, rfl, hy9, hcl⟩ := hlg (by rw [hl8]; omega)
  have hci := hcl q ⟨ti, k, r⟩ (by rw [← HQ.out]; simp)
  have u0 : w3.cell? ⟨y9, q * 3, none⟩ = some (.int .i64 ti) := hci 0 (by omega)
  have u1 : w3.cell? ⟨y9, q * 3 + 1, none⟩ = some (.int .i64 k) := hci 1 (by omega)
  have u2 : w3.cell? ⟨y9, q * 3 + 2, none⟩ = some (.string r) := hci 2 (by omega)
  have HU := Lib.hid (And.intro u0 (And.intro u1 (And.intro u2 hy9)))
  clear hlg hcl hci u0 u1 u2 hl8
  have hb3 := HB2.out.keeps hk3 (by simp)
  have s2 : w3.cell? ⟨w.heap.size, 2, none⟩ = some (.int .i64 to_) := hb3.cell 2
  have s4 : w3.cell? ⟨w.heap.size, 4, none⟩ = some (.string te) := hb3.cell 4
  obtain ⟨g, rfl, _, hg, _, _, s5, _⟩ := (HH.out.rw.keeps hk3 (by simp)).cells hpi
  rw [e2] at s5
  obtain ⟨V, hV⟩ : ∃ V, w3.drew = V := ⟨_, rfl⟩
  obtain ⟨ma, hma⟩ : ∃ ma, x.ma = ma := ⟨_, rfl⟩
  rw [hma] at s5 hpe
  have hS : (fun V => V.cell? ⟨w.heap.size, 2, none⟩ = some (.int .i64 to_) ∧ V.cell? ⟨w.heap.size, 4, none⟩ = some (.string te) ∧ V.cell? ⟨g, i * 5 + 1, none⟩ = some (.int .i64 ma)) V := by rw [← hV]; exact ⟨s2, s4, s5⟩
  have hVK : Hid (Keeps [] w2 V) := Lib.hid (by rw [← hV]; exact hk3.drew)
  have hVl : w.heap.size < V.heap.size := by rw [← hV]; exact hb3.lt
  have hVg : g < V.heap.size := by rw [← hV]; exact hg
  have hlq : (lg.length : Int) = (q : Int) := by rw [HQ.out]
  have HB9 := Lib.hid hb3
  have hVK3 : Hid (Keeps [] w3 V) := Lib.hid (by rw [← hV]; exact (Keeps.refl [] w3).drew)
  clear s2 s4 s5 hg hb3 e1 e2 e3 e4 e5 e6 hxi hpi hp hlq
  have HMA := Lib.hid hma
  have HRP := Lib.hid (fun V => rprint_any to_ ma te V hd)
  rw [hpe] at HRP
  clear hma hpe
  go_wp2
  refine wp_region_held_drew (S := (fun V => V.cell? ⟨w.heap.size, 2, none⟩ = some (.int .i64 to_) ∧ V.cell? ⟨w.heap.size, 4, none⟩ = some (.string te) ∧ V.cell? ⟨g, i * 5 + 1, none⟩ = some (.int .i64 ma))) (by kernel_rfl) (by rw [hV]; exact hS) (fun hHeld => ?_)
  rw [hV] at hHeld ⊢
  refine' wpAnyH_take (i := 0) (oi := _) (v := _) ?hZ0 (by kernel_rfl) (by kernel_rfl) (by kernel_rfl) ?hQZ0 (Or.inl ⟨?hwZ0, ?hyZ0⟩) hHeld ?restZ0
  case hZ0 => (simp only [List.getElem?_toArray, List.getElem?_cons_zero]; rfl)
  case hQZ0 => exact fun _ _ _ h => h
  case hwZ0 => rfl
  case hyZ0 => (intro w hSw; (try dsimp only at hSw); go_simp; try with_reducible rfl)
  try simp only [Act.put, List.setIfInBounds_toArray, List.set_cons_zero, List.set_cons_succ]
  refine' wpAnyH_take (i := 1) (oi := _) (v := _) ?hZ1 (by kernel_rfl) (by kernel_rfl) (by kernel_rfl) ?hQZ1 (Or.inl ⟨?hwZ1, ?hyZ1⟩) hHeld ?restZ1
  case hZ1 => (simp only [List.getElem?_toArray, List.getElem?_cons_succ, List.getElem?_cons_zero]; rfl)
  case hQZ1 => exact fun _ _ _ h => h
  case hwZ1 => rfl
  case hyZ1 => (intro w hSw; (try dsimp only at hSw); go_simp; try with_reducible rfl)
  try simp only [Act.put, List.setIfInBounds_toArray, List.set_cons_zero, List.set_cons_succ]
  refine' wpAnyH_take (i := 2) (oi := _) (v := _) ?hZ2 (by kernel_rfl) (by kernel_rfl) (by kernel_rfl) ?hQZ2 (Or.inl ⟨?hwZ2, ?hyZ2⟩) hHeld ?restZ2
  case hZ2 => (simp only [List.getElem?_toArray, List.getElem?_cons_succ, List.getElem?_cons_zero]; rfl)
  case hQZ2 => exact fun _ _ _ h => h
  case hwZ2 => rfl
  case hyZ2 => (intro w hSw; (try dsimp only at hSw); go_simp; try with_reducible rfl)
  try simp only [Act.put, List.setIfInBounds_toArray, List.set_cons_zero, List.set_cons_succ]
  refine' wpAnyH_take (i := 3) (oi := _) (v := _) ?hZ3 (by kernel_rfl) (by kernel_rfl) (by kernel_rfl) ?hQZ3 (Or.inl ⟨?hwZ3, ?hyZ3⟩) hHeld ?restZ3
  case hZ3 => (simp only [List.getElem?_toArray, List.getElem?_cons_succ, List.getElem?_cons_zero]; rfl)
  case hQZ3 => exact fun _ _ _ h => h
  case hwZ3 => rfl
  case hyZ3 => (intro w hSw; (try dsimp only at hSw); go_simp; try with_reducible rfl)
  try simp only [Act.put, List.setIfInBounds_toArray, List.set_cons_zero, List.set_cons_succ]
  refine' wpAnyH_take (i := 4) (oi := _) (v := _) ?hZ4 (by kernel_rfl) (by kernel_rfl) (by kernel_rfl) ?hQZ4 (Or.inl ⟨?hwZ4, ?hyZ4⟩) hHeld ?restZ4
  case hZ4 => (simp only [List.getElem?_toArray, List.getElem?_cons_succ, List.getElem?_cons_zero]; rfl)
  case hQZ4 => exact fun _ _ _ h => h
  case hwZ4 => rfl
  case hyZ4 => (intro w hSw; (try dsimp only at hSw); go_simp; try with_reducible rfl)
  try simp only [Act.put, List.setIfInBounds_toArray, List.set_cons_zero, List.set_cons_succ]
  refine' wpAnyH_take (i := 5) (oi := _) (v := _) ?hZ5 (by kernel_rfl) (by kernel_rfl) (by kernel_rfl) ?hQZ5 (Or.inl ⟨?hwZ5, ?hyZ5⟩) hHeld ?restZ5
  case hZ5 => (simp only [List.getElem?_toArray, List.getElem?_cons_succ, List.getElem?_cons_zero]; rfl)
  case hQZ5 => exact fun _ _ _ h => h
  case hwZ5 => rfl
  case hyZ5 => (intro w hSw; (try dsimp only at hSw); go_simp; try with_reducible rfl)
  try simp only [Act.put, List.setIfInBounds_toArray, List.set_cons_zero, List.set_cons_succ]
  refine' wpAnyH_take (i := 6) (oi := _) (v := _) ?hZ6 (by kernel_rfl) (by kernel_rfl) (by kernel_rfl) ?hQZ6 (Or.inl ⟨?hwZ6, ?hyZ6⟩) hHeld ?restZ6
  case hZ6 => (simp only [List.getElem?_toArray, List.getElem?_cons_succ, List.getElem?_cons_zero]; rfl)
  case hQZ6 => exact fun _ _ _ h => h
  case hwZ6 => rfl
  case hyZ6 => (intro w hSw; (try dsimp only at hSw); go_simp; try with_reducible rfl)
  try simp only [Act.put, List.setIfInBounds_toArray, List.set_cons_zero, List.set_cons_succ]
  refine' wpAnyH_take (i := 7) (oi := _) (v := _) ?hZ7 (by kernel_rfl) (by kernel_rfl) (by kernel_rfl) ?hQZ7 (Or.inl ⟨?hwZ7, ?hyZ7⟩) hHeld ?restZ7
  case hZ7 => (simp only [List.getElem?_toArray, List.getElem?_cons_succ, List.getElem?_cons_zero]; rfl)
  case hQZ7 => exact fun _ _ _ h => h
  case hwZ7 => rfl
  case hyZ7 => (intro w hSw; (try dsimp only at hSw); go_simp; try with_reducible rfl)
  try simp only [Act.put, List.setIfInBounds_toArray, List.set_cons_zero, List.set_cons_succ]
  refine' wpAnyH_take (i := 8) (oi := _) (v := _) ?hZ8 (by kernel_rfl) (by kernel_rfl) (by kernel_rfl) ?hQZ8 (Or.inl ⟨?hwZ8, ?hyZ8⟩) hHeld ?restZ8
  case hZ8 => (simp only [List.getElem?_toArray, List.getElem?_cons_succ, List.getElem?_cons_zero]; rfl)
  case hQZ8 => exact fun _ _ _ h => h
  case hwZ8 => rfl
  case hyZ8 => (intro w hSw; (try dsimp only at hSw); go_simp; try with_reducible rfl)
  try simp only [Act.put, List.setIfInBounds_toArray, List.set_cons_zero, List.set_cons_succ]
  refine' wpAnyH_take (i := 9) (oi := _) (v := _) ?hZ9 (by kernel_rfl) (by kernel_rfl) (by kernel_rfl) ?hQZ9 (Or.inl ⟨?hwZ9, ?hyZ9⟩) hHeld ?restZ9
  case hZ9 => (simp only [List.getElem?_toArray, List.getElem?_cons_succ, List.getElem?_cons_zero]; rfl)
  case hQZ9 => exact fun _ _ _ h => h
  case hwZ9 => rfl
  case hyZ9 => (intro w hSw; (try dsimp only at hSw); go_simp; try with_reducible rfl)
  try simp only [Act.put, List.setIfInBounds_toArray, List.set_cons_zero, List.set_cons_succ]
  refine wpAnyH_ready (rs := [10]) (by kernel_rfl) (by simp) ?_
  refine AllReadyH.cons rfl (fun K hK => ?_) AllReadyH.nil
  go_simp
  refine (HRP.out _).mono ?_
  rintro e W9 ⟨r9, rfl, hr9, hb9⟩
  try go_wp2_with fail
  refine hK.out _ _ (⟨((Keeps.of_below hb9 []).cell (p := ⟨w.heap.size, 2, none⟩) hVl (by simp)).trans hHeld.1, ((Keeps.of_below hb9 []).cell (p := ⟨w.heap.size, 4, none⟩) hVl (by simp)).trans hHeld.2.1, ((Keeps.of_below hb9 []).cell (p := ⟨g, i * 5 + 1, none⟩) hVg (by simp)).trans hHeld.2.2⟩) (fun hHeld' => ?_)
  have HZ := Lib.hid ((hVK.out).trans (Keeps.of_below hb9 []))
  have HR9 := Lib.hid hr9
  have HZ3 := Lib.hid ((hVK3.out).trans (Keeps.of_below hb9 []))
  clear hK K hHeld hr9
  have hHeld := hHeld'
  clear hHeld'
  try simp only [Act.put, List.setIfInBounds_toArray, List.set_cons_zero, List.set_cons_succ]
  refine' wpAnyH_take (i := 11) (oi := _) (v := _) ?hZ11 (by kernel_rfl) (by kernel_rfl) (by kernel_rfl) ?hQZ11 (Or.inl ⟨?hwZ11, ?hyZ11⟩) hHeld ?restZ11
  case hZ11 => (simp only [List.getElem?_toArray, List.getElem?_cons_succ, List.getElem?_cons_zero]; rfl)
  case hQZ11 => exact fun _ _ _ h => h
  case hwZ11 => rfl
  case hyZ11 => (intro w hSw; (try dsimp only at hSw); go_simp; try with_reducible rfl)
  try simp only [Act.put, List.setIfInBounds_toArray, List.set_cons_zero, List.set_cons_succ]
  refine' wpAnyH_take (i := 12) (oi := _) (v := _) ?hZ12 (by kernel_rfl) (by kernel_rfl) (by kernel_rfl) ?hQZ12 (Or.inl ⟨?hwZ12, ?hyZ12⟩) hHeld ?restZ12
  case hZ12 => (simp only [List.getElem?_toArray, List.getElem?_cons_succ, List.getElem?_cons_zero]; rfl)
  case hQZ12 => exact fun _ _ _ h => h
  case hwZ12 => rfl
  case hyZ12 => (intro w hSw; (try dsimp only at hSw); go_simp; try with_reducible rfl)
  try simp only [Act.put, List.setIfInBounds_toArray, List.set_cons_zero, List.set_cons_succ]
  refine' wpAnyH_take (i := 13) (oi := _) (v := _) ?hZ13 (by kernel_rfl) (by kernel_rfl) (by kernel_rfl) ?hQZ13 (Or.inl ⟨?hwZ13, ?hyZ13⟩) hHeld ?restZ13
  case hZ13 => (simp only [List.getElem?_toArray, List.getElem?_cons_succ, List.getElem?_cons_zero]; rfl)
  case hQZ13 => exact fun _ _ _ h => h
  case hwZ13 => rfl
  case hyZ13 => (intro w hSw; (try dsimp only at hSw); go_simp; try with_reducible rfl)
  try simp only [Act.put, List.setIfInBounds_toArray, List.set_cons_zero, List.set_cons_succ]
  refine' wpAnyH_take (i := 14) (oi := _) (v := _) ?hZ14 (by kernel_rfl) (by kernel_rfl) (by kernel_rfl) ?hQZ14 (Or.inl ⟨?hwZ14, ?hyZ14⟩) hHeld ?restZ14
  case hZ14 => (simp only [List.getElem?_toArray, List.getElem?_cons_succ, List.getElem?_cons_zero]; rfl)
  case hQZ14 => exact fun _ _ _ h => h
  case hwZ14 => rfl
  case hyZ14 => (intro w hSw; (try dsimp only at hSw); go_simp; try with_reducible rfl)
  try simp only [Act.put, List.setIfInBounds_toArray, List.set_cons_zero, List.set_cons_succ]
  refine' wpAnyH_take (i := 15) (oi := _) (v := _) ?hZ15 (by kernel_rfl) (by kernel_rfl) (by kernel_rfl) ?hQZ15 (Or.inl ⟨?hwZ15, ?hyZ15⟩) hHeld ?restZ15
  case hZ15 => (simp only [List.getElem?_toArray, List.getElem?_cons_succ, List.getElem?_cons_zero]; rfl)
  case hQZ15 => exact fun _ _ _ h => h
  case hwZ15 => rfl
  case hyZ15 => (intro w hSw; (try dsimp only at hSw); go_simp; try with_reducible rfl)
  try simp only [Act.put, List.setIfInBounds_toArray, List.set_cons_zero, List.set_cons_succ]
  refine wpAnyH_done (by kernel_rfl) ?_ _
  clear hHeld
  have hkz := HZ3.out
  obtain ⟨u0, u1, u2, hy9'⟩ := HU.out
  have v0 := (hkz.cell (p := ⟨y9, q * 3, none⟩) hy9 (by simp)).trans u0
  have v1 := (hkz.cell (p := ⟨y9, q * 3 + 1, none⟩) hy9 (by simp)).trans u1
  have v2 := (hkz.cell (p := ⟨y9, q * 3 + 2, none⟩) hy9 (by simp)).trans u2
  have hb9 := HB9.out.keeps hkz (by simp)
  have s1 : W9.cell? ⟨w.heap.size, 1, none⟩ = some (.int .i64 k) := hb9.cell 1
  have s3 : W9.cell? ⟨w.heap.size, 3, none⟩ = some (.int .i64 ti) := hb9.cell 3
  have hrr : r9 = r := by rw [ba_of HR9.out, ba_of HRD.out, HMA.out]
  subst hrr
  have hsum : IntKind.i64.wrap ((q : Int) + 1) = (q : Int) + 1 := IntWalk.i64_in _ (by omega)
  have hq0 : (0 : Int) ≤ (q : Int) := by omega
  have hq1 : (q : Int) < (q : Int) + 1 := by omega
  have hq2 : (q : Int) < ((q + 1 : Nat) : Int) := by omega
  clear hkz hb9 u0 u1 u2 hy9' hy9
  go_wp2_with fail
  go_quiet (fail)
  go_wp2
  go_ret
  exact ⟨rfl, ((HH.out.same (HZ.out.drawn ⟨_, rfl⟩) (by have := H0.out.sd.more (j' := ((j + 1 : Nat) : Int)) (by omega); exact this) (by rw [List.length_append, HQ.out]; simp; omega)).from HK1.out).from HK.out⟩
end
end Nc
end Go.Proofs.Ytdbkgpnbmafpmaa
namespace Go.Proofs.Ytdbkgpnbmafpmaa
open Go.RowKit Go.Maps Go.Deep
namespace Nc
open Sm Fr
open PlainAid (bt)
def deedK : List TypeDesc := [.int .i64, .int .i64, .int .i64, .int .i64, .string]
/-- The cells of a deed. -/
structure DeedAt (w : World) (b o5 : Nat) (o k to_ ti : Int) (te : ByteArray) : Prop where
  c0 : w.cell? ⟨b, o5, none⟩ = some (.int .i64 o)
  c1 : w.cell? ⟨b, o5 + 1, none⟩ = some (.int .i64 k)
  c2 : w.cell? ⟨b, o5 + 2, none⟩ = some (.int .i64 to_)
  c3 : w.cell? ⟨b, o5 + 3, none⟩ = some (.int .i64 ti)
  c4 : w.cell? ⟨b, o5 + 4, none⟩ = some (.string te)
theorem DeedAt.keeps {w w' : World} {S : List Nat} {b o5 : Nat} {o k to_ ti : Int} {te : ByteArray} (h : DeedAt w b o5 o k to_ ti te) (hk : Keeps S w w') (hS : ∀ z ∈ S, w.heap.size ≤ z) (hb : b < w.heap.size) : DeedAt w' b o5 o k to_ ti te := by
  have hn : b ∉ S := fun m => by have := hS b m; omega
  exact ⟨(hk.cell (p := ⟨b, o5, none⟩) hb hn).trans h.c0, (hk.cell (p := ⟨b, o5 + 1, none⟩) hb hn).trans h.c1, (hk.cell (p := ⟨b, o5 + 2, none⟩) hb hn).trans h.c2, (hk.cell (p := ⟨b, o5 + 3, none⟩) hb hn).trans h.c3, (hk.cell (p := ⟨b, o5 + 4, none⟩) hb hn).trans h.c4⟩
theorem deed_at {w : World} {a : Option Addr} {len cap : Nat} {R : Nat → Nat → Value} (hR : Recs w a len cap deedK R) (i : Nat) (hi : i < len) :
    ∃ b off o k to_ ti te, a = some ⟨b, off, none⟩ ∧ b < w.heap.size ∧ DeedAt w b (off + i * 5) o k to_ ti te ∧ (Lit.int .i64 k).wf = true ∧ te.size ≤ 9223372036854775807 := by
  obtain ⟨b, off, e, hb, hc⟩ := hR.at_ (by omega) (by decide)
  obtain ⟨h0, o, e0, _⟩ := hc i hi 0 _ rfl
  obtain ⟨h1, k, e1, w1⟩ := hc i hi 1 _ rfl
  obtain ⟨h2, to_, e2, _⟩ := hc i hi 2 _ rfl
  obtain ⟨h3, ti, e3, _⟩ := hc i hi 3 _ rfl
  obtain ⟨h4, te, e4, w4⟩ := hc i hi 4 _ rfl
  unfold maxLen at w4
  exact ⟨b, off, o, k, to_, ti, te, e, hb, ⟨by rw [← e0, ← h0]; rfl, by rw [← e1, ← h1]; rfl, by rw [← e2, ← h2]; rfl, by rw [← e3, ← h3]; rfl, by rw [← e4, ← h4]; rfl⟩, w1, w4⟩
section
variable {w w1 w2 w3 w' : World} {d m y c n j : Nat} {od od' : Int} {a la : Option Addr} {lg : List Sn} {L : List Pt} {lb G F : List Nat} {Ps : List RP} {xs : List Pr}
theorem step_any (lc : Nat) (o k to_ ti : Int) (te : ByteArray) (h : Stp w d m y od a c lg L la n lb Ps G xs j) (hj : j ≤ 900) (hk : (Lit.int .i64 k).wf = true) (hd : te.size ≤ 300) (ho : od' = od + if o = 0 then odd1 Ps te else 0) :
    Calls Try.prog 19 #[.pointer (some ⟨d, 0, none⟩), .slice la n lc, .agg (deed o k to_ ti te)] w fun e w' => e = .returned (.bool true) ∧ Nx w d m (foot d m y L) la n lb G xs (j + 1) od' w' := by
  subst ho
  by_cases h0 : o = 0
  · subst h0
    rw [if_pos rfl]
    exact step_0 lc k to_ ti te h (by omega) (by omega)
  · rw [if_neg h0, Int.add_zero]
    rcases hp : pt? L k with _ | x
    · by_cases h1 : o = 1
      · subst h1
        exact step_1a lc k to_ ti te h hk hp
      · exact step_2a lc o k to_ ti te h hj h0 h1 hk hd hp
    · by_cases h1 : o = 1
      · subst h1
        rcases hw : x.ws with _ | ⟨f, t⟩
        · exact step_1b lc k to_ ti te x h hk hp hw
        · exact step_1c lc k to_ ti te x f t h hk hp hw
      · by_cases hpe : Fr.prErr to_ x.ma te = 0
        · exact step_2c lc o k to_ ti te h hj h0 h1 hk hd x hp hpe
        · exact step_2b lc o k to_ ti te h hj h0 h1 hk hd x hp hpe
/-- The start: the ports of both. -/
theorem stp_0 (hr : RowP w1 la n lb (rps xs)) (hk : Keeps [] w1 w2) (h : New_ w2 w3 d m L xs) (hn : n ≤ 8) : Stp w3 d m d 0 none 0 [] L la n lb (rps xs) [] xs 0 := by
  have hk3 := hk.trans h.kp
  have hlt := hr.lt
  have hz := hk.size
  refine ⟨h.dv, hr.keeps hk3 (by simp), fun b hb hf => ?_, ⟨?_, fun i x p hx hp => ?_⟩, hn, by simp, ⟨h.ky, by omega, by omega, fun x hx => by rw [(h.em x hx).2]; omega⟩, by simp⟩
  · have := hlt b hb
    have := h.ft b hf
    omega
  · rw [rps_len, ← h.ky, List.length_map]
  · obtain ⟨e1, e2⟩ := h.em x (List.mem_of_getElem? hx)
    have hq := key_of h.ky hx
    rw [hp] at hq
    obtain rfl := Option.some.inj hq
    rw [e1, e2]
    exact ⟨rfl, rfl, rfl, rfl, rfl, Nat.le_refl _, Rd.none_⟩
/-- What the rounds of deeds keep. -/
def PRel (w0 : World) (d m : Nat) (la : Option Addr) (n : Nat) (lb : List Nat) (xs : List Pr) (len : Nat) (ov i : Value) (wr : World) : Prop :=
  ∃ (j : Nat) (od : Int) (y : Nat) (a : Option Addr) (c : Nat) (lg : List Sn) (L : List Pt) (Ps : List RP), j ≤ 40 ∧ j ≤ len ∧ i = .int .i64 j ∧ ov = .int .i64 od ∧ Stp wr d m y od a c lg L la n lb Ps [] xs j ∧ Keeps [] w0 wr ∧ ∀ b ∈ lb ++ foot d m y L, w0.heap.size ≤ b
theorem prel_mk {w0 wr : World} {len : Nat} {ov i : Value} (h : ∃ (j : Nat) (od : Int) (y : Nat) (a : Option Addr) (c : Nat) (lg : List Sn) (L : List Pt) (Ps : List RP), j ≤ 40 ∧ j ≤ len ∧ i = .int .i64 j ∧ ov = .int .i64 od ∧ Stp wr d m y od a c lg L la n lb Ps [] xs j ∧ Keeps [] w0 wr ∧ ∀ b ∈ lb ++ foot d m y L, w0.heap.size ≤ b) : PRel w0 d m la n lb xs len ov i wr := h
theorem prel_open {w0 wr : World} {len : Nat} {ov i : Value} (h : PRel w0 d m la n lb xs len ov i wr) : ∃ (j : Nat) (od : Int) (y : Nat) (a : Option Addr) (c : Nat) (lg : List Sn) (L : List Pt) (Ps : List RP), j ≤ 40 ∧ j ≤ len ∧ i = .int .i64 j ∧ ov = .int .i64 od ∧ Stp wr d m y od a c lg L la n lb Ps [] xs j ∧ Keeps [] w0 wr ∧ ∀ b ∈ lb ++ foot d m y L, w0.heap.size ≤ b := h
theorem Nx.open_ (h : Nx w d m F la n lb G xs j od' w') : ∃ y' a' c' lg' L' Ps', Stp w' d m y' od' a' c' lg' L' la n lb Ps' G xs j ∧ Keeps (lb ++ F) w w' ∧ ∀ b ∈ foot d m y' L', b ∈ F ∨ w.heap.size ≤ b := h
theorem nx_next {w0 wr w5 w6 : World} {y0 : Nat} {L0 : List Pt} (hk : Keeps [] w0 wr) (hB : ∀ b ∈ lb ++ foot d m y0 L0, w0.heap.size ≤ b) (hk5 : Keeps [] wr w5) (hn : Nx w5 d m (foot d m y0 L0) la n lb [] xs j od' w6) :
    ∃ y a c lg L Ps, Stp w6 d m y od' a c lg L la n lb Ps [] xs j ∧ Keeps [] w0 w6 ∧ ∀ b ∈ lb ++ foot d m y L, w0.heap.size ≤ b := by
  obtain ⟨y, a, c, lg, L, Ps, h1, h2, h3⟩ := hn
  refine ⟨y, a, c, lg, L, Ps, h1, (hk.next hk5 (by simp)).next h2 (fun x hx => .inr (hB x hx)), fun b hb => ?_⟩
  rcases List.mem_append.1 hb with hb | hb
  · exact hB b (List.mem_append.2 (.inl hb))
  · rcases h3 b hb with h4 | h4
    · exact hB b (List.mem_append.2 (.inr h4))
    · have := hk.size
      have := hk5.size
      omega
end
attribute [local irreducible] PRel Nx rps
set_option maxRecDepth 100000 in
set_option maxHeartbeats 4000000 in
theorem plays_law (a : Option Addr) (len cap : Nat) (R : Nat → Nat → Value) (ta : Option Addr) (tl tc : Nat) (T : Nat → Nat → Value) (w : World) (hR : Recs w a len cap portK R) (hT : Recs w ta tl tc deedK T) :
    Calls Try.prog 5 #[.slice a len cap, .slice ta tl tc] w fun e w' => e = .returned (.bool true) ∧ Below w.heap.size w w' := by
  obtain ⟨n, hn8, hnl, hmn⟩ : ∃ n, n ≤ 8 ∧ n ≤ len ∧ (n = len ∨ (n = 8 ∧ 8 < len)) := by
    by_cases h : len ≤ 8
    · exact ⟨len, h, Nat.le_refl _, .inl rfl⟩
    · exact ⟨8, by omega, by omega, .inr ⟨rfl, by omega⟩⟩
  have hrows := rows_of hR hnl
  have hxl := prs_len R n
  generalize prs R n = xs at *
  have hlc := hR.len
  have htl := hT.len
  have HP := Lib.hid (ports_any a len n cap xs w hrows hn8 hlc.1 hlc.2 hmn (by
    intro e; rcases hR with ⟨_, _, h⟩ | ⟨x, h, _⟩
    · exact h
    · rw [e] at h; cases h))
  have HR := Lib.hid hrows
  have HT := Lib.hid hT
  clear hR hrows hmn hlc hT
  go_enter Try.func5, Try.ntmps5
  go_wp2_with fail
  refine HP.out.mono ?_
  clear HP
  rintro e w1 ⟨a', c', rfl, hk1, hown⟩
  obtain ⟨lb, hrow, hlb⟩ := row_new hown (by rw [rps_len, hxl])
  have HROW := Lib.hid (And.intro hrow (And.intro hlb hk1))
  have HN := Lib.hid (new_dev a n cap xs w1 (HR.out.kp hk1) hn8)
  clear hown hrow hlb hk1
  go_wp2_with fail
  refine HN.out.mono ?_
  clear HN
  rintro e w2 (⟨hc0, d, m, L0, rfl, hN1⟩ | ⟨hc0, rfl, hk2⟩)
  · have hrr := (HROW.out.1.keeps hN1.kp (by simp)).rr
    have HC := Lib.hid (rcheck_any a' n c' _ w2 hrr hn8)
    rw [rps_key, hc0] at HC
    have h0 := stp_0 HROW.out.1 (Keeps.refl [] w1) hN1 hn8
    have HK2 := Lib.hid (And.intro (HROW.out.2.2.trans hN1.kp) (And.intro hN1.ft HROW.out.2.2.size))
    have H0 := Lib.hid h0
    clear hrr h0 hN1 hc0
    go_wp2_with fail
    refine HC.out.mono ?_
    clear HC
    rintro e w3 ⟨rfl, hk3⟩
    have HS := Lib.hid (H0.out.kp hk3)
    have HK3 := Lib.hid (HK2.out.1.trans hk3)
    have hb0 : ∀ b ∈ lb ++ foot d m d L0, w.heap.size ≤ b := by
      intro b hb
      rcases List.mem_append.1 hb with hb | hb
      · exact HROW.out.2.1 b hb
      · have := HK2.out.2.1 b hb
        have := HK2.out.2.2
        omega
    have HB0 := Lib.hid hb0
    clear hb0 hk3
    go_wp2
    go_loopw [9, 10] (fun u i wr => PRel w d m a' n lb xs tl u i wr) (fun _ i _ => 40 - (intOf i).toNat)
    case atStart => exact prel_mk ⟨0, 0, d, none, 0, [], L0, rps xs, by omega, by omega, rfl, rfl, HS.out, HK3.out, HB0.out⟩
    case round =>
      obtain ⟨j, od, y, ya, yc, lg, L, Ps, hj, hjl, rfl, rfl, hS, hKp, hB⟩ := prel_open hrel
      clear hrel
      have HH := Lib.hid (And.intro hS (And.intro hKp hB))
      have ho0 := hS.sd.o0
      have ho1 := hS.sd.o1
      clear hS hKp hB HS HB0 H0 HK2 HROW
      by_cases hlt : j < tl ∧ j < 40
      · obtain ⟨hj1, hj2⟩ := hlt
        obtain ⟨b, off, o, k, to_, ti, te, rfl, hb, hda, wk, wt⟩ := deed_at HT.out j hj1
        have hdw := hda.keeps HH.out.2.1 (by simp) hb
        obtain ⟨c0, c1, c2, c3, c4⟩ := hdw
        have HD := Lib.hid (And.intro hda hb)
        have hj0 : (0 : Int) ≤ (j : Int) := by omega
        have hj3 : (j : Int) < (tl : Int) := by omega
        have hj4 : (j : Int) < 40 := by omega
        have hbw : b < w.heap.size := hb
        clear hda hb
        by_cases h200 : te.size ≤ 200
        · have h200' : ((te.size : Nat) : Int) ≤ 200 := by omega
          by_cases ho : o = 0
          · subst ho
            have HF := Lib.hid (rfor_any a' n c' Ps te wr HH.out.1.rw.rr hn8 wt)
            go_wp2_with fail
            refine HF.out.mono ?_
            clear HF
            rintro e w5 ⟨rfl, hk5⟩
            have HST := Lib.hid (step_any c' 0 k to_ ti te (od' := od + odd1 Ps te) (HH.out.1.kp hk5) (by omega) wk (by omega) (by rw [if_pos rfl]))
            obtain ⟨c0, c1, c2, c3, c4⟩ := HD.out.1.keeps (HH.out.2.1.trans hk5) (by simp) HD.out.2
            have HK5 := Lib.hid hk5
            clear hk5
            by_cases hf : fi Ps te < 0
            · have hod : od + odd1 Ps te = od + 1 := by unfold odd1; rw [if_pos hf]
              rw [hod] at HST
              clear hod
              generalize fi Ps te = fv9 at *
              go_wp2_with fail
              refine HST.out.mono ?_
              clear HST c0 c1 c2 c3 c4
              rintro e w6 ⟨rfl, hnx⟩
              obtain ⟨y2, ya2, yc2, lg2, L2, Ps2, hS2, hK2, hB2⟩ := nx_next HH.out.2.1 HH.out.2.2 HK5.out hnx
              have H2 := Lib.hid (And.intro hS2 (And.intro hK2 hB2))
              clear hnx hS2 hK2 hB2
              go_wp2_with fail
              refine (told_any c' H2.out.1.dv H2.out.1.rw H2.out.1.dc hn8).mono ?_
              rintro e w7 ⟨rfl, hdr⟩
              have hk7 := (Keeps.refl [] w6).drawn hdr
              have H3 := Lib.hid (And.intro (H2.out.1.kp hk7) (And.intro (H2.out.2.1.trans hk7) H2.out.2.2))
              clear hdr hk7
              go_wp2_with fail
              refine (odd_any w7 H3.out.1.dv).mono ?_
              rintro e v ⟨rfl, rfl⟩
              go_wp2
              go_roundw
              case rel => exact prel_mk ⟨j + 1, _, y2, ya2, yc2, lg2, L2, Ps2, by omega, by omega, by go_num, rfl, H3.out⟩
              case measure => simp [intOf]; omega
            · have hod : od + odd1 Ps te = od := by unfold odd1; rw [if_neg hf]; omega
              rw [hod] at HST
              clear hod
              generalize fi Ps te = fv9 at *
              go_wp2_with fail
              refine HST.out.mono ?_
              clear HST c0 c1 c2 c3 c4
              rintro e w6 ⟨rfl, hnx⟩
              obtain ⟨y2, ya2, yc2, lg2, L2, Ps2, hS2, hK2, hB2⟩ := nx_next HH.out.2.1 HH.out.2.2 HK5.out hnx
              have H2 := Lib.hid (And.intro hS2 (And.intro hK2 hB2))
              clear hnx hS2 hK2 hB2
              go_wp2_with fail
              refine (told_any c' H2.out.1.dv H2.out.1.rw H2.out.1.dc hn8).mono ?_
              rintro e w7 ⟨rfl, hdr⟩
              have hk7 := (Keeps.refl [] w6).drawn hdr
              have H3 := Lib.hid (And.intro (H2.out.1.kp hk7) (And.intro (H2.out.2.1.trans hk7) H2.out.2.2))
              clear hdr hk7
              go_wp2_with fail
              refine (odd_any w7 H3.out.1.dv).mono ?_
              rintro e v ⟨rfl, rfl⟩
              go_wp2
              go_roundw
              case rel => exact prel_mk ⟨j + 1, _, y2, ya2, yc2, lg2, L2, Ps2, by omega, by omega, by go_num, rfl, H3.out⟩
              case measure => simp [intOf]; omega
          · have hob : (o == 0) = false := by simpa using ho
            have HST := Lib.hid (step_any c' o k to_ ti te (od' := od) HH.out.1 (by omega) wk (by omega) (by rw [if_neg ho]; omega))
            have hk5 := Keeps.refl [] wr
            have HK5 := Lib.hid hk5
            clear hk5 ho
            go_wp2_with fail
            refine HST.out.mono ?_
            clear HST c0 c1 c2 c3 c4
            rintro e w6 ⟨rfl, hnx⟩
            obtain ⟨y2, ya2, yc2, lg2, L2, Ps2, hS2, hK2, hB2⟩ := nx_next HH.out.2.1 HH.out.2.2 HK5.out hnx
            have H2 := Lib.hid (And.intro hS2 (And.intro hK2 hB2))
            clear hnx hS2 hK2 hB2
            go_wp2_with fail
            refine (told_any c' H2.out.1.dv H2.out.1.rw H2.out.1.dc hn8).mono ?_
            rintro e w7 ⟨rfl, hdr⟩
            have hk7 := (Keeps.refl [] w6).drawn hdr
            have H3 := Lib.hid (And.intro (H2.out.1.kp hk7) (And.intro (H2.out.2.1.trans hk7) H2.out.2.2))
            clear hdr hk7
            go_wp2_with fail
            refine (odd_any w7 H3.out.1.dv).mono ?_
            rintro e v ⟨rfl, rfl⟩
            go_wp2
            go_roundw
            case rel => exact prel_mk ⟨j + 1, _, y2, ya2, yc2, lg2, L2, Ps2, by omega, by omega, by go_num, rfl, H3.out⟩
            case measure => simp [intOf]; omega
        · have h200' : ¬ ((te.size : Nat) : Int) ≤ 200 := by omega
          clear c0 c1 c2 c3
          go_wp2_with fail
          refine (live_any _).mono ?_
          rintro e w5 ⟨rfl, hk5⟩
          have HZ := Lib.hid (HH.out.2.1.trans hk5)
          clear hk5
          go_wp2
          go_ret
          exact ⟨rfl, HZ.out.all⟩
      · have hcond : ¬ ((j : Int) < (tl : Int)) ∨ ((j : Int) < (tl : Int) ∧ ¬ ((j : Int) < 40)) := by omega
        rcases hcond with hq | hq <;> (
          go_wp2_with fail
          refine (live_any _).mono ?_
          rintro e w5 ⟨rfl, hk5⟩
          have HZ := Lib.hid (HH.out.2.1.trans hk5)
          clear hk5
          go_wp2
          go_ret
          exact ⟨rfl, HZ.out.all⟩)
  · have hcb : (chk xs != 0) = true := by simpa using hc0
    have hrr := (HROW.out.1.keeps hk2 (by simp)).rr
    have HC := Lib.hid (rcheck_any a' n c' _ w2 hrr hn8)
    rw [rps_key] at HC
    have HK2 := Lib.hid (HROW.out.2.2.trans hk2)
    clear hrr hk2 hc0
    generalize chk xs = ce at *
    go_wp2_with fail
    refine HC.out.mono ?_
    clear HC
    rintro e w3 ⟨rfl, hk3⟩
    have HK3 := Lib.hid (HK2.out.trans hk3)
    clear hk3
    go_wp2_with fail
    refine (live_any _).mono ?_
    rintro e w4 ⟨rfl, hk4⟩
    have HZ := Lib.hid (HK3.out.trans hk4)
    clear hk4
    go_wp2
    go_ret
    exact ⟨rfl, HZ.out.all⟩
end Nc
end Go.Proofs.Ytdbkgpnbmafpmaa
