/- The law DescChecks: its walk, by what is asked for (3; 0: none of 1 to 6). -/
import Derived.Test.YtdjckfcafiikeaaDescE
import Derived.Deep.RegionHeld3
namespace Go.Proofs.Ytdjckfcafiikeaa
open Go.RowKit
attribute [local go_sem] Bw.and255 Bw.and65535
namespace De
open Sm Bi
attribute [local irreducible] fillsB readsB
set_option maxRecDepth 100000 in
set_option maxHeartbeats 4000000 in
theorem checks_3 (st a l g b0 size b2 b3 b4 b5 b6 b7 b8 sec x n : Int) (W : World) (_ : (Lit.int .u8 st).wf = true) (_ : (Lit.int .i64 a).wf = true) (_ : (Lit.int .i64 l).wf = true) (_ : (Lit.int .i64 g).wf = true)
    (_ : (Lit.int .i64 b0).wf = true) (ws : (Lit.int .i64 size).wf = true) (_ : (Lit.int .i64 b2).wf = true) (_ : (Lit.int .i64 b3).wf = true) (_ : (Lit.int .i64 b4).wf = true) (_ : (Lit.int .i64 b5).wf = true) (_ : (Lit.int .i64 b6).wf = true) (_ : (Lit.int .i64 b7).wf = true) (_ : (Lit.int .i64 b8).wf = true) (wc : (Lit.int .i64 sec).wf = true) (_ : (Lit.int .i64 x).wf = true) (_ : (Lit.int .i64 n).wf = true) :
    Calls Try.prog 4 #[.agg #[.int .u8 3, .int .u8 st, .int .i64 a, .int .i64 l, .int .i64 g], .agg #[.int .i64 b0, .int .i64 size, .int .i64 b2, .int .i64 b3, .int .i64 b4, .int .i64 b5, .int .i64 b6, .int .i64 b7, .int .i64 b8, .int .i64 sec], .int .i64 x, .int .i64 n] W fun e W' => e = .returned (.bool true) ∧ Below W.heap.size W W' := by
  obtain ⟨s0, s1⟩ := i64_bd ws
  obtain ⟨t0, t1⟩ := i64_bd wc
  clear ws wc
  have HK := Lib.hid (fun V => check_any 3 st a l g b0 size b2 b3 b4 b5 b6 b7 b8 sec V (by decide) (by decide) s0 s1 t0 t1)
  have HR := Lib.hid (fun V => rcheck_any 3 st a l g b0 size b2 b3 b4 b5 b6 b7 b8 sec V (by decide) (by decide) s0 s1 t0 t1)
  generalize chk 3 a l g size sec = ck at *
  clear s0 s1 t0 t1
  obtain ⟨s, hs⟩ : ∃ s, x % 256 = s := ⟨_, rfl⟩
  obtain ⟨p, hp⟩ : ∃ p, n % 256 = p := ⟨_, rfl⟩
  obtain ⟨q, hq⟩ : ∃ q, n / 256 % 256 = q := ⟨_, rfl⟩
  have HC := Lib.hid (fun V => closed_any 3 st a l g x n s p q hs hp hq V)
  have H1 := Lib.hid (fun V => rlow_is x s hs V)
  have H2 := Lib.hid (fun V => rlow_is n p hp V)
  have H3 := Lib.hid (fun V => rhigh_is n q hq V)
  have u0 : 0 ≤ s := by omega
  have u1 : s ≤ 255 := by omega
  have u2 : 0 ≤ p := by omega
  have u3 : p ≤ 255 := by omega
  have u4 : 0 ≤ q := by omega
  have u5 : q ≤ 255 := by omega
  clear hs hp hq
  go_enter Try.func4, Try.ntmps4
  go_wp2_with fail
  refine (HC.out _).mono ?_
  rintro e v1 ⟨rfl, hb1⟩
  have hd1 : Blk v1 W.heap.size 24 #[.int .u8 3, .int .u8 st, .int .i64 a, .int .i64 l, .int .i64 g] := ((Blk.new W 24 #[.int .u8 3, .int .u8 st, .int .i64 a, .int .i64 l, .int .i64 g]).alloc (.cells #[.int .i64 b0, .int .i64 size, .int .i64 b2, .int .i64 b3, .int .i64 b4, .int .i64 b5, .int .i64 b6, .int .i64 b7, .int .i64 b8, .int .i64 sec] 26)).below hb1 (by simp; omega)
  have hc1 : Blk v1 (W.heap.size + 1) 26 #[.int .i64 b0, .int .i64 size, .int .i64 b2, .int .i64 b3, .int .i64 b4, .int .i64 b5, .int .i64 b6, .int .i64 b7, .int .i64 b8, .int .i64 sec] := by
    have := (Blk.new (W.alloc (.cells #[.int .u8 3, .int .u8 st, .int .i64 a, .int .i64 l, .int .i64 g] 24)) 26 #[.int .i64 b0, .int .i64 size, .int .i64 b2, .int .i64 b3, .int .i64 b4, .int .i64 b5, .int .i64 b6, .int .i64 b7, .int .i64 b8, .int .i64 sec]).below hb1 (by simp)
    simpa using this
  have HB1 : Hid (Below W.heap.size W v1) := (((Below.refl _ W).alloc (Nat.le_refl _) (.cells #[.int .u8 3, .int .u8 st, .int .i64 a, .int .i64 l, .int .i64 g] 24)).alloc (by simp) (.cells #[.int .i64 b0, .int .i64 size, .int .i64 b2, .int .i64 b3, .int .i64 b4, .int .i64 b5, .int .i64 b6, .int .i64 b7, .int .i64 b8, .int .i64 sec] 26)).trans (hb1.mono (by simp; omega))
  have hlt := hc1.lt
  have hlt0 := hd1.lt
  have p0 : v1.cell? ⟨W.heap.size, 0, none⟩ = some (.int .u8 3) := hd1.cell 0
  have p1 : v1.cell? ⟨W.heap.size, 1, none⟩ = some (.int .u8 st) := hd1.cell 1
  have p2 : v1.cell? ⟨W.heap.size, 2, none⟩ = some (.int .i64 a) := hd1.cell 2
  have p3 : v1.cell? ⟨W.heap.size, 3, none⟩ = some (.int .i64 l) := hd1.cell 3
  have p4 : v1.cell? ⟨W.heap.size, 4, none⟩ = some (.int .i64 g) := hd1.cell 4
  have HD1 := Lib.hid hd1
  have HC1 := Lib.hid hc1
  clear hd1 hc1 hb1
  generalize hbd : W.heap.size = bd at *
  go_wp2_with fail
  refine (H1.out _).mono ?_
  rintro e v2 ⟨rfl, rfl⟩
  go_wp2_with fail
  refine (H2.out _).mono ?_
  rintro e v2 ⟨rfl, rfl⟩
  go_wp2_with fail
  refine (H3.out _).mono ?_
  rintro e v2 ⟨rfl, rfl⟩
  clear HC H1 H2 H3
  go_wp2_with fail
  have hx1 : Blk (v1.alloc (.cells #[.int .u8 3, .int .u8 s, .int .i64 a, .int .i64 (p + 256 * q), .int .i64 g] 24)) v1.heap.size 24 #[.int .u8 3, .int .u8 s, .int .i64 a, .int .i64 (p + 256 * q), .int .i64 g] := Blk.new _ _ _
  have hF : Four W ((v1.alloc (.cells #[.int .u8 3, .int .u8 s, .int .i64 a, .int .i64 (p + 256 * q), .int .i64 g] 24)).alloc (.cells #[.int .u8 3, .int .u8 s, .int .i64 a, .int .i64 (p + 256 * q), .int .i64 g] 24)) bd v1.heap.size #[.int .u8 3, .int .u8 st, .int .i64 a, .int .i64 l, .int .i64 g] #[.int .i64 b0, .int .i64 size, .int .i64 b2, .int .i64 b3, .int .i64 b4, .int .i64 b5, .int .i64 b6, .int .i64 b7, .int .i64 b8, .int .i64 sec] #[.int .u8 3, .int .u8 s, .int .i64 a, .int .i64 (p + 256 * q), .int .i64 g] :=
    ⟨(HD1.out.alloc _).alloc _, (HC1.out.alloc _).alloc _, hx1.alloc _, by simpa using Blk.new (v1.alloc (.cells #[.int .u8 3, .int .u8 s, .int .i64 a, .int .i64 (p + 256 * q), .int .i64 g] 24)) 24 #[.int .u8 3, .int .u8 s, .int .i64 a, .int .i64 (p + 256 * q), .int .i64 g], (HB1.out.alloc (by omega) _).alloc (by simp; omega) _⟩
  have HFo := Lib.hid hF
  have HF := Lib.hid (fun V => fills_below 3 V)
  have HRd := Lib.hid (fun V => reads_below 3 V)
  clear hx1 hF HD1 HC1 HB1 p0 p1 p2 p3 p4 hlt hlt0
  generalize (v1.alloc (.cells #[.int .u8 3, .int .u8 s, .int .i64 a, .int .i64 (p + 256 * q), .int .i64 g] 24)).alloc (.cells #[.int .u8 3, .int .u8 s, .int .i64 a, .int .i64 (p + 256 * q), .int .i64 g] 24) = V at *
  generalize v1.heap.size = b1 at *
  have hS := HFo.out.all
  clear HFo
  have h1 : fillsB 3 = false := by unfold fillsB; decide
  have h2 : readsB 3 = true := by unfold readsB; decide
  rw [h1] at HF
  rw [h2] at HRd
  clear h1 h2
  refine wp_region_held_drew (S := (fun V => Hid (Four W V bd b1 #[.int .u8 3, .int .u8 st, .int .i64 a, .int .i64 l, .int .i64 g] #[.int .i64 b0, .int .i64 size, .int .i64 b2, .int .i64 b3, .int .i64 b4, .int .i64 b5, .int .i64 b6, .int .i64 b7, .int .i64 b8, .int .i64 sec] #[.int .u8 3, .int .u8 s, .int .i64 a, .int .i64 (p + 256 * q), .int .i64 g]) ∧ V.cell? ⟨bd, 0, none⟩ = some (.int .u8 3) ∧ V.cell? ⟨bd, 1, none⟩ = some (.int .u8 st) ∧ V.cell? ⟨bd, 2, none⟩ = some (.int .i64 a) ∧ V.cell? ⟨bd, 3, none⟩ = some (.int .i64 l) ∧ V.cell? ⟨bd, 4, none⟩ = some (.int .i64 g) ∧ V.cell? ⟨bd + 1, 0, none⟩ = some (.int .i64 b0) ∧ V.cell? ⟨bd + 1, 1, none⟩ = some (.int .i64 size) ∧ V.cell? ⟨bd + 1, 2, none⟩ = some (.int .i64 b2) ∧ V.cell? ⟨bd + 1, 3, none⟩ = some (.int .i64 b3) ∧ V.cell? ⟨bd + 1, 4, none⟩ = some (.int .i64 b4) ∧ V.cell? ⟨bd + 1, 5, none⟩ = some (.int .i64 b5) ∧ V.cell? ⟨bd + 1, 6, none⟩ = some (.int .i64 b6) ∧ V.cell? ⟨bd + 1, 7, none⟩ = some (.int .i64 b7) ∧ V.cell? ⟨bd + 1, 8, none⟩ = some (.int .i64 b8) ∧ V.cell? ⟨bd + 1, 9, none⟩ = some (.int .i64 sec) ∧ V.cell? ⟨b1, 0, none⟩ = some (.int .u8 3) ∧ V.cell? ⟨b1, 1, none⟩ = some (.int .u8 s) ∧ V.cell? ⟨b1, 2, none⟩ = some (.int .i64 a) ∧ V.cell? ⟨b1, 3, none⟩ = some (.int .i64 (p + 256 * q)) ∧ V.cell? ⟨b1, 4, none⟩ = some (.int .i64 g) ∧ V.cell? ⟨b1 + 1, 0, none⟩ = some (.int .u8 3) ∧ V.cell? ⟨b1 + 1, 1, none⟩ = some (.int .u8 s) ∧ V.cell? ⟨b1 + 1, 2, none⟩ = some (.int .i64 a) ∧ V.cell? ⟨b1 + 1, 3, none⟩ = some (.int .i64 (p + 256 * q)) ∧ V.cell? ⟨b1 + 1, 4, none⟩ = some (.int .i64 g))) (by kernel_rfl) (hS.1.out.keep ((Drawn.draw (Drawn.refl _)).below _)).all (fun hHeld => ?_)
  refine wpAnyH_ready (rs := [0]) (by kernel_rfl) (by simp) ?_
  refine AllReadyH.cons rfl (fun K hK => ?_) AllReadyH.nil
  go_simp
  refine (live_any _).mono ?_
  rintro e v9 ⟨rfl, hb9⟩
  try go_wp2_with fail
  refine hK.out _ _ (hHeld.1.out.keep hb9).all (fun hHeld' => ?_)
  clear hK K hHeld hb9
  have hHeld := hHeld'
  clear hHeld'
  try simp only [Act.put, List.setIfInBounds_toArray, List.set_cons_zero, List.set_cons_succ]
  refine' wpAnyH_take (i := 1) (oi := _) (v := _) ?h1 (by kernel_rfl) (by kernel_rfl) (by kernel_rfl) ?hQ1 (Or.inl ⟨?hw1, ?hy1⟩) hHeld ?rest1
  case h1 => (simp only [List.getElem?_toArray, List.getElem?_cons_succ, List.getElem?_cons_zero]; rfl)
  case hQ1 => exact fun _ _ _ h => h
  case hw1 => rfl
  case hy1 => (intro w hSw; (try dsimp only at hSw); go_simp; try with_reducible rfl)
  try simp only [Act.put, List.setIfInBounds_toArray, List.set_cons_zero, List.set_cons_succ]
  refine' wpAnyH_take (i := 2) (oi := _) (v := _) ?h2 (by kernel_rfl) (by kernel_rfl) (by kernel_rfl) ?hQ2 (Or.inl ⟨?hw2, ?hy2⟩) hHeld ?rest2
  case h2 => (simp only [List.getElem?_toArray, List.getElem?_cons_succ, List.getElem?_cons_zero]; rfl)
  case hQ2 => exact fun _ _ _ h => h
  case hw2 => rfl
  case hy2 => (intro w hSw; (try dsimp only at hSw); go_simp; try with_reducible rfl)
  try simp only [Act.put, List.setIfInBounds_toArray, List.set_cons_zero, List.set_cons_succ]
  refine' wpAnyH_take (i := 3) (oi := _) (v := _) ?h3 (by kernel_rfl) (by kernel_rfl) (by kernel_rfl) ?hQ3 (Or.inl ⟨?hw3, ?hy3⟩) hHeld ?rest3
  case h3 => (simp only [List.getElem?_toArray, List.getElem?_cons_succ, List.getElem?_cons_zero]; rfl)
  case hQ3 => exact fun _ _ _ h => h
  case hw3 => rfl
  case hy3 => (intro w hSw; (try dsimp only at hSw); go_simp; try with_reducible rfl)
  try simp only [Act.put, List.setIfInBounds_toArray, List.set_cons_zero, List.set_cons_succ]
  refine' wpAnyH_take (i := 5) (oi := _) (v := _) ?h5 (by kernel_rfl) (by kernel_rfl) (by kernel_rfl) ?hQ5 (Or.inl ⟨?hw5, ?hy5⟩) hHeld ?rest5
  case h5 => (simp only [List.getElem?_toArray, List.getElem?_cons_succ, List.getElem?_cons_zero]; rfl)
  case hQ5 => exact fun _ _ _ h => h
  case hw5 => rfl
  case hy5 => (intro w hSw; (try dsimp only at hSw); go_simp; try with_reducible rfl)
  try simp only [Act.put, List.setIfInBounds_toArray, List.set_cons_zero, List.set_cons_succ]
  refine' wpAnyH_take (i := 6) (oi := _) (v := _) ?h6 (by kernel_rfl) (by kernel_rfl) (by kernel_rfl) ?hQ6 (Or.inl ⟨?hw6, ?hy6⟩) hHeld ?rest6
  case h6 => (simp only [List.getElem?_toArray, List.getElem?_cons_succ, List.getElem?_cons_zero]; rfl)
  case hQ6 => exact fun _ _ _ h => h
  case hw6 => rfl
  case hy6 => (intro w hSw; (try dsimp only at hSw); go_simp; try with_reducible rfl)
  try simp only [Act.put, List.setIfInBounds_toArray, List.set_cons_zero, List.set_cons_succ]
  refine wpAnyH_ready (rs := [4]) (by kernel_rfl) (by simp) ?_
  refine AllReadyH.cons rfl (fun K hK => ?_) AllReadyH.nil
  go_simp
  refine (HK.out _).mono ?_
  rintro e v9 ⟨rfl, hb9⟩
  try go_wp2_with fail
  refine hK.out _ _ (hHeld.1.out.keep hb9).all (fun hHeld' => ?_)
  clear hK K hHeld hb9
  have hHeld := hHeld'
  clear hHeld'
  try simp only [Act.put, List.setIfInBounds_toArray, List.set_cons_zero, List.set_cons_succ]
  refine wpAnyH_ready (rs := [7]) (by kernel_rfl) (by simp) ?_
  refine AllReadyH.cons rfl (fun K hK => ?_) AllReadyH.nil
  go_simp
  refine (HR.out _).mono ?_
  rintro e v9 ⟨rfl, hb9⟩
  try go_wp2_with fail
  refine hK.out _ _ (hHeld.1.out.keep hb9).all (fun hHeld' => ?_)
  clear hK K hHeld hb9
  have hHeld := hHeld'
  clear hHeld'
  try simp only [Act.put, List.setIfInBounds_toArray, List.set_cons_zero, List.set_cons_succ]
  refine' wpAnyH_take (i := 8) (oi := _) (v := _) ?h8 (by kernel_rfl) (by kernel_rfl) (by kernel_rfl) ?hQ8 (Or.inl ⟨?hw8, ?hy8⟩) hHeld ?rest8
  case h8 => (simp only [List.getElem?_toArray, List.getElem?_cons_succ, List.getElem?_cons_zero]; rfl)
  case hQ8 => exact fun _ _ _ h => h
  case hw8 => rfl
  case hy8 => (intro w hSw; (try dsimp only at hSw); go_simp; try with_reducible rfl)
  try simp only [Act.put, List.setIfInBounds_toArray, List.set_cons_zero, List.set_cons_succ]
  refine' wpAnyH_take (i := 9) (oi := _) (v := _) ?h9 (by kernel_rfl) (by kernel_rfl) (by kernel_rfl) ?hQ9 (Or.inl ⟨?hw9, ?hy9⟩) hHeld ?rest9
  case h9 => (simp only [List.getElem?_toArray, List.getElem?_cons_succ, List.getElem?_cons_zero]; rfl)
  case hQ9 => exact fun _ _ _ h => h
  case hw9 => rfl
  case hy9 => (intro w hSw; (try dsimp only at hSw); go_simp; try with_reducible rfl)
  try simp only [Act.put, List.setIfInBounds_toArray, List.set_cons_zero, List.set_cons_succ]
  refine' wpAnyH_take (i := 10) (oi := _) (v := _) ?h10 (by kernel_rfl) (by kernel_rfl) (by kernel_rfl) ?hQ10 (Or.inl ⟨?hw10, ?hy10⟩) hHeld ?rest10
  case h10 => (simp only [List.getElem?_toArray, List.getElem?_cons_succ, List.getElem?_cons_zero]; rfl)
  case hQ10 => exact fun _ _ _ h => h
  case hw10 => rfl
  case hy10 => (intro w hSw; (try dsimp only at hSw); go_simp; try with_reducible rfl)
  try simp only [Act.put, List.setIfInBounds_toArray, List.set_cons_zero, List.set_cons_succ]
  refine' wpAnyH_take (i := 11) (oi := _) (v := _) ?h11 (by kernel_rfl) (by kernel_rfl) (by kernel_rfl) ?hQ11 (Or.inl ⟨?hw11, ?hy11⟩) hHeld ?rest11
  case h11 => (simp only [List.getElem?_toArray, List.getElem?_cons_succ, List.getElem?_cons_zero]; rfl)
  case hQ11 => exact fun _ _ _ h => h
  case hw11 => rfl
  case hy11 => (intro w hSw; (try dsimp only at hSw); go_simp; try with_reducible rfl)
  try simp only [Act.put, List.setIfInBounds_toArray, List.set_cons_zero, List.set_cons_succ]
  refine' wpAnyH_take (i := 12) (oi := _) (v := _) ?h12 (by kernel_rfl) (by kernel_rfl) (by kernel_rfl) ?hQ12 (Or.inl ⟨?hw12, ?hy12⟩) hHeld ?rest12
  case h12 => (simp only [List.getElem?_toArray, List.getElem?_cons_succ, List.getElem?_cons_zero]; rfl)
  case hQ12 => exact fun _ _ _ h => h
  case hw12 => rfl
  case hy12 => (intro w hSw; (try dsimp only at hSw); go_simp; try with_reducible rfl)
  try simp only [Act.put, List.setIfInBounds_toArray, List.set_cons_zero, List.set_cons_succ]
  refine' wpAnyH_take (i := 13) (oi := _) (v := _) ?h13 (by kernel_rfl) (by kernel_rfl) (by kernel_rfl) ?hQ13 (Or.inl ⟨?hw13, ?hy13⟩) hHeld ?rest13
  case h13 => (simp only [List.getElem?_toArray, List.getElem?_cons_succ, List.getElem?_cons_zero]; rfl)
  case hQ13 => exact fun _ _ _ h => h
  case hw13 => rfl
  case hy13 => (intro w hSw; (try dsimp only at hSw); go_simp; try with_reducible rfl)
  try simp only [Act.put, List.setIfInBounds_toArray, List.set_cons_zero, List.set_cons_succ]
  refine' wpAnyH_take (i := 14) (oi := _) (v := _) ?h14 (by kernel_rfl) (by kernel_rfl) (by kernel_rfl) ?hQ14 (Or.inl ⟨?hw14, ?hy14⟩) hHeld ?rest14
  case h14 => (simp only [List.getElem?_toArray, List.getElem?_cons_succ, List.getElem?_cons_zero]; rfl)
  case hQ14 => exact fun _ _ _ h => h
  case hw14 => rfl
  case hy14 => (intro w hSw; (try dsimp only at hSw); go_simp; try with_reducible rfl)
  try simp only [Act.put, List.setIfInBounds_toArray, List.set_cons_zero, List.set_cons_succ]
  refine' wpAnyH_take (i := 15) (oi := _) (v := _) ?h15 (by kernel_rfl) (by kernel_rfl) (by kernel_rfl) ?hQ15 (Or.inl ⟨?hw15, ?hy15⟩) hHeld ?rest15
  case h15 => (simp only [List.getElem?_toArray, List.getElem?_cons_succ, List.getElem?_cons_zero]; rfl)
  case hQ15 => exact fun _ _ _ h => h
  case hw15 => rfl
  case hy15 => (intro w hSw; (try dsimp only at hSw); go_simp; try with_reducible rfl)
  try simp only [Act.put, List.setIfInBounds_toArray, List.set_cons_zero, List.set_cons_succ]
  refine' wpAnyH_take (i := 16) (oi := _) (v := _) ?h16 (by kernel_rfl) (by kernel_rfl) (by kernel_rfl) ?hQ16 (Or.inl ⟨?hw16, ?hy16⟩) hHeld ?rest16
  case h16 => (simp only [List.getElem?_toArray, List.getElem?_cons_succ, List.getElem?_cons_zero]; rfl)
  case hQ16 => exact fun _ _ _ h => h
  case hw16 => rfl
  case hy16 => (intro w hSw; (try dsimp only at hSw); go_simp; try with_reducible rfl)
  try simp only [Act.put, List.setIfInBounds_toArray, List.set_cons_zero, List.set_cons_succ]
  refine' wpAnyH_take (i := 17) (oi := _) (v := _) ?h17 (by kernel_rfl) (by kernel_rfl) (by kernel_rfl) ?hQ17 (Or.inl ⟨?hw17, ?hy17⟩) hHeld ?rest17
  case h17 => (simp only [List.getElem?_toArray, List.getElem?_cons_succ, List.getElem?_cons_zero]; rfl)
  case hQ17 => exact fun _ _ _ h => h
  case hw17 => rfl
  case hy17 => (intro w hSw; (try dsimp only at hSw); go_simp; try with_reducible rfl)
  try simp only [Act.put, List.setIfInBounds_toArray, List.set_cons_zero, List.set_cons_succ]
  refine' wpAnyH_take (i := 19) (oi := _) (v := _) ?h19 (by kernel_rfl) (by kernel_rfl) (by kernel_rfl) ?hQ19 (Or.inl ⟨?hw19, ?hy19⟩) hHeld ?rest19
  case h19 => (simp only [List.getElem?_toArray, List.getElem?_cons_succ, List.getElem?_cons_zero]; rfl)
  case hQ19 => exact fun _ _ _ h => h
  case hw19 => rfl
  case hy19 => (intro w hSw; (try dsimp only at hSw); go_simp; try with_reducible rfl)
  try simp only [Act.put, List.setIfInBounds_toArray, List.set_cons_zero, List.set_cons_succ]
  refine' wpAnyH_take (i := 20) (oi := _) (v := _) ?h20 (by kernel_rfl) (by kernel_rfl) (by kernel_rfl) ?hQ20 (Or.inl ⟨?hw20, ?hy20⟩) hHeld ?rest20
  case h20 => (simp only [List.getElem?_toArray, List.getElem?_cons_succ, List.getElem?_cons_zero]; rfl)
  case hQ20 => exact fun _ _ _ h => h
  case hw20 => rfl
  case hy20 => (intro w hSw; (try dsimp only at hSw); go_simp; try with_reducible rfl)
  try simp only [Act.put, List.setIfInBounds_toArray, List.set_cons_zero, List.set_cons_succ]
  refine wpAnyH_ready (rs := [18]) (by kernel_rfl) (by simp) ?_
  refine AllReadyH.cons rfl (fun K hK => ?_) AllReadyH.nil
  go_simp
  refine (HF.out _).mono ?_
  rintro e v9 ⟨rfl, hb9⟩
  try go_wp2_with fail
  refine hK.out _ _ (hHeld.1.out.keep hb9).all (fun hHeld' => ?_)
  clear hK K hHeld hb9
  have hHeld := hHeld'
  clear hHeld'
  try simp only [Act.put, List.setIfInBounds_toArray, List.set_cons_zero, List.set_cons_succ]
  refine' wpAnyH_take (i := 21) (oi := _) (v := _) ?h21 (by kernel_rfl) (by kernel_rfl) (by kernel_rfl) ?hQ21 (Or.inl ⟨?hw21, ?hy21⟩) hHeld ?rest21
  case h21 => (simp only [List.getElem?_toArray, List.getElem?_cons_succ, List.getElem?_cons_zero]; rfl)
  case hQ21 => exact fun _ _ _ h => h
  case hw21 => rfl
  case hy21 => (intro w hSw; (try dsimp only at hSw); go_simp; try with_reducible rfl)
  try simp only [Act.put, List.setIfInBounds_toArray, List.set_cons_zero, List.set_cons_succ]
  refine' wpAnyH_take (i := 22) (oi := _) (v := _) ?h22 (by kernel_rfl) (by kernel_rfl) (by kernel_rfl) ?hQ22 (Or.inl ⟨?hw22, ?hy22⟩) hHeld ?rest22
  case h22 => (simp only [List.getElem?_toArray, List.getElem?_cons_succ, List.getElem?_cons_zero]; rfl)
  case hQ22 => exact fun _ _ _ h => h
  case hw22 => rfl
  case hy22 => (intro w hSw; (try dsimp only at hSw); go_simp; try with_reducible rfl)
  try simp only [Act.put, List.setIfInBounds_toArray, List.set_cons_zero, List.set_cons_succ]
  refine' wpAnyH_take (i := 23) (oi := _) (v := _) ?h23 (by kernel_rfl) (by kernel_rfl) (by kernel_rfl) ?hQ23 (Or.inl ⟨?hw23, ?hy23⟩) hHeld ?rest23
  case h23 => (simp only [List.getElem?_toArray, List.getElem?_cons_succ, List.getElem?_cons_zero]; rfl)
  case hQ23 => exact fun _ _ _ h => h
  case hw23 => rfl
  case hy23 => (intro w hSw; (try dsimp only at hSw); go_simp; try with_reducible rfl)
  try simp only [Act.put, List.setIfInBounds_toArray, List.set_cons_zero, List.set_cons_succ]
  refine' wpAnyH_take (i := 24) (oi := _) (v := _) ?h24 (by kernel_rfl) (by kernel_rfl) (by kernel_rfl) ?hQ24 (Or.inl ⟨?hw24, ?hy24⟩) hHeld ?rest24
  case h24 => (simp only [List.getElem?_toArray, List.getElem?_cons_succ, List.getElem?_cons_zero]; rfl)
  case hQ24 => exact fun _ _ _ h => h
  case hw24 => rfl
  case hy24 => (intro w hSw; (try dsimp only at hSw); go_simp; try with_reducible rfl)
  try simp only [Act.put, List.setIfInBounds_toArray, List.set_cons_zero, List.set_cons_succ]
  refine' wpAnyH_take (i := 25) (oi := _) (v := _) ?h25 (by kernel_rfl) (by kernel_rfl) (by kernel_rfl) ?hQ25 (Or.inl ⟨?hw25, ?hy25⟩) hHeld ?rest25
  case h25 => (simp only [List.getElem?_toArray, List.getElem?_cons_succ, List.getElem?_cons_zero]; rfl)
  case hQ25 => exact fun _ _ _ h => h
  case hw25 => rfl
  case hy25 => (intro w hSw; (try dsimp only at hSw); go_simp; try with_reducible rfl)
  try simp only [Act.put, List.setIfInBounds_toArray, List.set_cons_zero, List.set_cons_succ]
  refine' wpAnyH_take (i := 26) (oi := _) (v := _) ?h26 (by kernel_rfl) (by kernel_rfl) (by kernel_rfl) ?hQ26 (Or.inl ⟨?hw26, ?hy26⟩) hHeld ?rest26
  case h26 => (simp only [List.getElem?_toArray, List.getElem?_cons_succ, List.getElem?_cons_zero]; rfl)
  case hQ26 => exact fun _ _ _ h => h
  case hw26 => rfl
  case hy26 => (intro w hSw; (try dsimp only at hSw); go_simp; try with_reducible rfl)
  try simp only [Act.put, List.setIfInBounds_toArray, List.set_cons_zero, List.set_cons_succ]
  refine' wpAnyH_take (i := 27) (oi := _) (v := _) ?h27 (by kernel_rfl) (by kernel_rfl) (by kernel_rfl) ?hQ27 (Or.inl ⟨?hw27, ?hy27⟩) hHeld ?rest27
  case h27 => (simp only [List.getElem?_toArray, List.getElem?_cons_succ, List.getElem?_cons_zero]; rfl)
  case hQ27 => exact fun _ _ _ h => h
  case hw27 => rfl
  case hy27 => (intro w hSw; (try dsimp only at hSw); go_simp; try with_reducible rfl)
  try simp only [Act.put, List.setIfInBounds_toArray, List.set_cons_zero, List.set_cons_succ]
  refine' wpAnyH_take (i := 28) (oi := _) (v := _) ?h28 (by kernel_rfl) (by kernel_rfl) (by kernel_rfl) ?hQ28 (Or.inl ⟨?hw28, ?hy28⟩) hHeld ?rest28
  case h28 => (simp only [List.getElem?_toArray, List.getElem?_cons_succ, List.getElem?_cons_zero]; rfl)
  case hQ28 => exact fun _ _ _ h => h
  case hw28 => rfl
  case hy28 => (intro w hSw; (try dsimp only at hSw); go_simp; try with_reducible rfl)
  try simp only [Act.put, List.setIfInBounds_toArray, List.set_cons_zero, List.set_cons_succ]
  refine' wpAnyH_take (i := 29) (oi := _) (v := _) ?h29 (by kernel_rfl) (by kernel_rfl) (by kernel_rfl) ?hQ29 (Or.inl ⟨?hw29, ?hy29⟩) hHeld ?rest29
  case h29 => (simp only [List.getElem?_toArray, List.getElem?_cons_succ, List.getElem?_cons_zero]; rfl)
  case hQ29 => exact fun _ _ _ h => h
  case hw29 => rfl
  case hy29 => (intro w hSw; (try dsimp only at hSw); go_simp; try with_reducible rfl)
  try simp only [Act.put, List.setIfInBounds_toArray, List.set_cons_zero, List.set_cons_succ]
  refine' wpAnyH_take (i := 30) (oi := _) (v := _) ?h30 (by kernel_rfl) (by kernel_rfl) (by kernel_rfl) ?hQ30 (Or.inl ⟨?hw30, ?hy30⟩) hHeld ?rest30
  case h30 => (simp only [List.getElem?_toArray, List.getElem?_cons_succ, List.getElem?_cons_zero]; rfl)
  case hQ30 => exact fun _ _ _ h => h
  case hw30 => rfl
  case hy30 => (intro w hSw; (try dsimp only at hSw); go_simp; try with_reducible rfl)
  try simp only [Act.put, List.setIfInBounds_toArray, List.set_cons_zero, List.set_cons_succ]
  refine' wpAnyH_take (i := 31) (oi := _) (v := _) ?h31 (by kernel_rfl) (by kernel_rfl) (by kernel_rfl) ?hQ31 (Or.inl ⟨?hw31, ?hy31⟩) hHeld ?rest31
  case h31 => (simp only [List.getElem?_toArray, List.getElem?_cons_succ, List.getElem?_cons_zero]; rfl)
  case hQ31 => exact fun _ _ _ h => h
  case hw31 => rfl
  case hy31 => (intro w hSw; (try dsimp only at hSw); go_simp; try with_reducible rfl)
  try simp only [Act.put, List.setIfInBounds_toArray, List.set_cons_zero, List.set_cons_succ]
  refine' wpAnyH_take (i := 32) (oi := _) (v := _) ?h32 (by kernel_rfl) (by kernel_rfl) (by kernel_rfl) ?hQ32 (Or.inl ⟨?hw32, ?hy32⟩) hHeld ?rest32
  case h32 => (simp only [List.getElem?_toArray, List.getElem?_cons_succ, List.getElem?_cons_zero]; rfl)
  case hQ32 => exact fun _ _ _ h => h
  case hw32 => rfl
  case hy32 => (intro w hSw; (try dsimp only at hSw); go_simp; try with_reducible rfl)
  try simp only [Act.put, List.setIfInBounds_toArray, List.set_cons_zero, List.set_cons_succ]
  refine' wpAnyH_take (i := 33) (oi := _) (v := _) ?h33 (by kernel_rfl) (by kernel_rfl) (by kernel_rfl) ?hQ33 (Or.inl ⟨?hw33, ?hy33⟩) hHeld ?rest33
  case h33 => (simp only [List.getElem?_toArray, List.getElem?_cons_succ, List.getElem?_cons_zero]; rfl)
  case hQ33 => exact fun _ _ _ h => h
  case hw33 => rfl
  case hy33 => (intro w hSw; (try dsimp only at hSw); go_simp; try with_reducible rfl)
  try simp only [Act.put, List.setIfInBounds_toArray, List.set_cons_zero, List.set_cons_succ]
  refine' wpAnyH_take (i := 35) (oi := _) (v := _) ?h35 (by kernel_rfl) (by kernel_rfl) (by kernel_rfl) ?hQ35 (Or.inl ⟨?hw35, ?hy35⟩) hHeld ?rest35
  case h35 => (simp only [List.getElem?_toArray, List.getElem?_cons_succ, List.getElem?_cons_zero]; rfl)
  case hQ35 => exact fun _ _ _ h => h
  case hw35 => rfl
  case hy35 => (intro w hSw; (try dsimp only at hSw); go_simp; try with_reducible rfl)
  try simp only [Act.put, List.setIfInBounds_toArray, List.set_cons_zero, List.set_cons_succ]
  refine' wpAnyH_take (i := 36) (oi := _) (v := _) ?h36 (by kernel_rfl) (by kernel_rfl) (by kernel_rfl) ?hQ36 (Or.inl ⟨?hw36, ?hy36⟩) hHeld ?rest36
  case h36 => (simp only [List.getElem?_toArray, List.getElem?_cons_succ, List.getElem?_cons_zero]; rfl)
  case hQ36 => exact fun _ _ _ h => h
  case hw36 => rfl
  case hy36 => (intro w hSw; (try dsimp only at hSw); go_simp; try with_reducible rfl)
  try simp only [Act.put, List.setIfInBounds_toArray, List.set_cons_zero, List.set_cons_succ]
  refine wpAnyH_ready (rs := [34]) (by kernel_rfl) (by simp) ?_
  refine AllReadyH.cons rfl (fun K hK => ?_) AllReadyH.nil
  go_simp
  refine (HRd.out _).mono ?_
  rintro e v9 ⟨rfl, hb9⟩
  try go_wp2_with fail
  refine hK.out _ _ (hHeld.1.out.keep hb9).all (fun hHeld' => ?_)
  clear hK K hHeld hb9
  have hHeld := hHeld'
  clear hHeld'
  try simp only [Act.put, List.setIfInBounds_toArray, List.set_cons_zero, List.set_cons_succ]
  refine' wpAnyH_take (i := 37) (oi := _) (v := _) ?h37 (by kernel_rfl) (by kernel_rfl) (by kernel_rfl) ?hQ37 (Or.inl ⟨?hw37, ?hy37⟩) hHeld ?rest37
  case h37 => (simp only [List.getElem?_toArray, List.getElem?_cons_succ, List.getElem?_cons_zero]; rfl)
  case hQ37 => exact fun _ _ _ h => h
  case hw37 => rfl
  case hy37 => (intro w hSw; (try dsimp only at hSw); go_simp; try with_reducible rfl)
  try simp only [Act.put, List.setIfInBounds_toArray, List.set_cons_zero, List.set_cons_succ]
  refine' wpAnyH_take (i := 38) (oi := _) (v := _) ?h38 (by kernel_rfl) (by kernel_rfl) (by kernel_rfl) ?hQ38 (Or.inl ⟨?hw38, ?hy38⟩) hHeld ?rest38
  case h38 => (simp only [List.getElem?_toArray, List.getElem?_cons_succ, List.getElem?_cons_zero]; rfl)
  case hQ38 => exact fun _ _ _ h => h
  case hw38 => rfl
  case hy38 => (intro w hSw; (try dsimp only at hSw); go_simp; try with_reducible rfl)
  try simp only [Act.put, List.setIfInBounds_toArray, List.set_cons_zero, List.set_cons_succ]
  refine' wpAnyH_take (i := 39) (oi := _) (v := _) ?h39 (by kernel_rfl) (by kernel_rfl) (by kernel_rfl) ?hQ39 (Or.inl ⟨?hw39, ?hy39⟩) hHeld ?rest39
  case h39 => (simp only [List.getElem?_toArray, List.getElem?_cons_succ, List.getElem?_cons_zero]; rfl)
  case hQ39 => exact fun _ _ _ h => h
  case hw39 => rfl
  case hy39 => (intro w hSw; (try dsimp only at hSw); go_simp; try with_reducible rfl)
  try simp only [Act.put, List.setIfInBounds_toArray, List.set_cons_zero, List.set_cons_succ]
  refine' wpAnyH_take (i := 40) (oi := _) (v := _) ?h40 (by kernel_rfl) (by kernel_rfl) (by kernel_rfl) ?hQ40 (Or.inl ⟨?hw40, ?hy40⟩) hHeld ?rest40
  case h40 => (simp only [List.getElem?_toArray, List.getElem?_cons_succ, List.getElem?_cons_zero]; rfl)
  case hQ40 => exact fun _ _ _ h => h
  case hw40 => rfl
  case hy40 => (intro w hSw; (try dsimp only at hSw); go_simp; try with_reducible rfl)
  try simp only [Act.put, List.setIfInBounds_toArray, List.set_cons_zero, List.set_cons_succ]
  refine' wpAnyH_take (i := 41) (oi := _) (v := _) ?h41 (by kernel_rfl) (by kernel_rfl) (by kernel_rfl) ?hQ41 (Or.inl ⟨?hw41, ?hy41⟩) hHeld ?rest41
  case h41 => (simp only [List.getElem?_toArray, List.getElem?_cons_succ, List.getElem?_cons_zero]; rfl)
  case hQ41 => exact fun _ _ _ h => h
  case hw41 => rfl
  case hy41 => (intro w hSw; (try dsimp only at hSw); go_simp; try with_reducible rfl)
  try simp only [Act.put, List.setIfInBounds_toArray, List.set_cons_zero, List.set_cons_succ]
  refine wpAnyH_off (i := 42) (d := some 73) rfl (by kernel_rfl) (by kernel_rfl) (by kernel_rfl) (fun _ _ _ h => h) (by rfl) hHeld ?_
  try simp only [Act.put, List.setIfInBounds_toArray, List.set_cons_zero, List.set_cons_succ]
  refine wpAnyH_off (i := 43) (d := some 74) rfl (by kernel_rfl) (by kernel_rfl) (by kernel_rfl) (fun _ _ _ h => h) (by rfl) hHeld ?_
  try simp only [Act.put, List.setIfInBounds_toArray, List.set_cons_zero, List.set_cons_succ]
  refine' wpAnyH_take (i := 44) (oi := _) (v := _) ?h44 (by kernel_rfl) (by kernel_rfl) (by kernel_rfl) ?hQ44 (Or.inl ⟨?hw44, ?hy44⟩) hHeld ?rest44
  case h44 => (simp only [List.getElem?_toArray, List.getElem?_cons_succ, List.getElem?_cons_zero]; rfl)
  case hQ44 => exact fun _ _ _ h => h
  case hw44 => rfl
  case hy44 => (intro w hSw; (try dsimp only at hSw); go_simp; try with_reducible rfl)
  try simp only [Act.put, List.setIfInBounds_toArray, List.set_cons_zero, List.set_cons_succ]
  refine' wpAnyH_take (i := 45) (oi := _) (v := _) ?h45 (by kernel_rfl) (by kernel_rfl) (by kernel_rfl) ?hQ45 (Or.inl ⟨?hw45, ?hy45⟩) hHeld ?rest45
  case h45 => (simp only [List.getElem?_toArray, List.getElem?_cons_succ, List.getElem?_cons_zero]; rfl)
  case hQ45 => exact fun _ _ _ h => h
  case hw45 => rfl
  case hy45 => (intro w hSw; (try dsimp only at hSw); go_simp; try with_reducible rfl)
  try simp only [Act.put, List.setIfInBounds_toArray, List.set_cons_zero, List.set_cons_succ]
  refine' wpAnyH_take (i := 46) (oi := _) (v := _) ?h46 (by kernel_rfl) (by kernel_rfl) (by kernel_rfl) ?hQ46 (Or.inl ⟨?hw46, ?hy46⟩) hHeld ?rest46
  case h46 => (simp only [List.getElem?_toArray, List.getElem?_cons_succ, List.getElem?_cons_zero]; rfl)
  case hQ46 => exact fun _ _ _ h => h
  case hw46 => rfl
  case hy46 => (intro w hSw; (try dsimp only at hSw); go_simp; try with_reducible rfl)
  try simp only [Act.put, List.setIfInBounds_toArray, List.set_cons_zero, List.set_cons_succ]
  refine' wpAnyH_take (i := 47) (oi := _) (v := _) ?h47 (by kernel_rfl) (by kernel_rfl) (by kernel_rfl) ?hQ47 (Or.inl ⟨?hw47, ?hy47⟩) hHeld ?rest47
  case h47 => (simp only [List.getElem?_toArray, List.getElem?_cons_succ, List.getElem?_cons_zero]; rfl)
  case hQ47 => exact fun _ _ _ h => h
  case hw47 => rfl
  case hy47 => (intro w hSw; (try dsimp only at hSw); go_simp; try with_reducible rfl)
  try simp only [Act.put, List.setIfInBounds_toArray, List.set_cons_zero, List.set_cons_succ]
  refine wpAnyH_done (by kernel_rfl) ?_ _
  clear HK HR HF HRd
  go_wp2
  go_ret
  refine ⟨rfl, ?_⟩
  rw [hbd]
  exact hHeld.1.out.b
end De
end Go.Proofs.Ytdjckfcafiikeaa
