/- Queues of int: the i'th thing; the first thing, that goes. -/
import Derived.Test.YtiemnnoeljphoaaFifoIA
import Derived.Test.YtiemnnoeljphoaaReg
namespace Go.Proofs.Ytiemnnoeljphoaa
open Go.RowKit
namespace FiI
open Sm
theorem Qu.drawn {w w' : World} {g r : Nat} {l : List Int} {lim dr : Int} (h : Qu w g r l lim dr) (hd : Drawn w w') : Qu w' g r l lim dr := h.keeps ((Keeps.refl [] w).drawn hd) (by simp) (by simp)
theorem peek_out (g r : Nat) (l : List Int) (lim dr i : Int) (w : World) (h : Qu w g r l lim dr) (hi : i < 0 ∨ (l.length : Int) ≤ i) :
    Calls Try.prog 33 #[.pointer (some ⟨g, 0, none⟩), .int .i64 i] w fun e w' => e = .returned (.tuple #[val 0, .bool false]) ∧ w = w' := by
  obtain ⟨A, len, c, f, R, h1, _⟩ := h
  obtain ⟨_, _, c2, _, _, _⟩ := h1.cells
  clear h1
  rcases hi with hi | hi
  · go_enter Try.func33, Try.ntmps33
    go_wp2
    go_ret2
    exact ⟨rfl, rfl⟩
  · by_cases h0 : i < 0
    · go_enter Try.func33, Try.ntmps33
      go_wp2
      go_ret2
      exact ⟨rfl, rfl⟩
    · go_enter Try.func33, Try.ntmps33
      go_wp2
      go_ret2
      exact ⟨rfl, rfl⟩
theorem peek_nil (i : Int) (w : World) : Calls Try.prog 33 #[.pointer none, .int .i64 i] w fun e w' => e = .returned (.tuple #[val 0, .bool false]) ∧ w = w' := by
  go_enter Try.func33, Try.ntmps33
  go_wp2
  go_ret2
  exact ⟨rfl, rfl⟩
theorem peek_in (g r : Nat) (l : List Int) (lim dr : Int) (i : Nat) (x : Int) (w : World) (h : Qu w g r l lim dr) (hx : l[i]? = some x) :
    Calls Try.prog 33 #[.pointer (some ⟨g, 0, none⟩), .int .i64 (i : Int)] w (Quiet (.tuple #[val x, .bool true]) w) := by
  have hi : i < l.length := (List.getElem?_eq_some_iff.1 hx).1
  obtain ⟨A, len, c, f, R, h1, h2, _⟩ := h
  have hxx := h2 i hi
  rw [hx] at hxx
  injection hxx with hxx
  have hn := h1.hn
  have hlen := h1.hlen
  rcases h1.room with ⟨h0, _, _⟩ | ⟨h0, hA, hne, hr⟩
  · omega
  · subst hA
    have HA := Lib.hid (fun m => at_any g r _ len c f _ lim dr R i (w.drewN m) (h1.drewN m) h0 (by omega))
    have hp := place_bd f i len h0
    have hc := hr.at_ _ hp
    rw [← hxx] at hc
    obtain ⟨c0, _, c2, _, _, _⟩ := h1.cells
    clear h2 hx hxx h1 hr
    generalize (f + i) % len = p at *
    have hp0 : (0 : Int) ≤ (p : Int) := by omega
    have hp1 : (p : Int) < (len : Int) := by omega
    have hi0 : (i : Int) < (l.length : Int) := by omega
    generalize l.length = n at *
    go_enter Try.func33, Try.ntmps33
    go_wp2
    go_quiet ((go_at_call 32; with_reducible exact quiet_q (HA.out _)))
    go_wp2
    go_ret2
    exact ⟨rfl, nq, rfl⟩
/-- The queue whose first thing has gone. -/
theorem place_next (f i len : Nat) (_h : 0 < len) : ((f + 1) % len + i) % len = (f + (i + 1)) % len := by
  rw [Nat.mod_add_mod]; congr 1; omega
theorem place_ne (f i len : Nat) (hf : f < len) (hi : i + 1 < len) : (f + (i + 1)) % len ≠ f := by
  intro e
  by_cases h : f + (i + 1) < len
  · rw [Nat.mod_eq_of_lt h] at e; omega
  · rw [Nat.mod_eq_sub_mod (by omega), Nat.mod_eq_of_lt (by omega)] at e; omega
def IsPop (g r : Nat) (x : Int) (l : List Int) (lim dr : Int) (w : World) (e : Ending) (w' : World) : Prop :=
  e = .returned (.tuple #[val x, .bool true]) ∧ Qu w' g r l lim dr ∧ Keeps [g, r] w w'
theorem pop_none (g r : Nat) (lim dr : Int) (w : World) (h : Qu w g r [] lim dr) :
    Calls Try.prog 23 #[.pointer (some ⟨g, 0, none⟩)] w fun e w' => e = .returned (.tuple #[val 0, .bool false]) ∧ w = w' := by
  have HP := Lib.hid (peek_out g r [] lim dr 0 w h (by simp))
  clear h
  go_enter Try.func23, Try.ntmps23
  go_wp2_with fail
  refine HP.out.mono ?_
  rintro e w1 ⟨rfl, rfl⟩
  go_wp2
  go_ret2
  exact ⟨rfl, rfl⟩
theorem pop_nil (w : World) : Calls Try.prog 23 #[.pointer none] w fun e w' => e = .returned (.tuple #[val 0, .bool false]) ∧ w = w' := by
  go_enter Try.func23, Try.ntmps23
  go_wp2_with fail
  refine (peek_nil _ _).mono ?_
  rintro e w1 ⟨rfl, rfl⟩
  go_wp2
  go_ret2
  exact ⟨rfl, rfl⟩
set_option maxRecDepth 100000 in
set_option maxHeartbeats 1000000 in
theorem pop_some (g r : Nat) (x : Int) (t : List Int) (lim dr : Int) (w : World) (h : Qu w g r (x :: t) lim dr) :
    Calls Try.prog 23 #[.pointer (some ⟨g, 0, none⟩)] w (IsPop g r x t lim dr w) := by
  have HP := Lib.hid (peek_in g r (x :: t) lim dr 0 x w h rfl)
  have HQ := Lib.hid h
  clear h
  go_enter Try.func23, Try.ntmps23
  go_wp2_with fail
  refine HP.out.mono ?_
  rintro e v1 ⟨rfl, hd1⟩
  obtain ⟨A, len, c, f, R, h1, h2, h3, h4, h5, h6⟩ := Qu.drawn HQ.out hd1
  have HK1 : Hid (Keeps [g, r] w v1) := Lib.hid ((Keeps.refl _ _).drawn hd1)
  clear HP HQ hd1
  have hn := h1.hn
  have hlen := h1.hlen
  have hf' := h1.hf
  simp only [List.length_cons] at hn h5
  rcases h1.room with ⟨h0, _, _⟩ | ⟨h0, hA, hne, hr⟩
  · omega
  subst hA
  have hf : f < len := by omega
  have hf0 : (0 : Int) ≤ (f : Int) := by omega
  have hf1 : (f : Int) < (len : Int) := by omega
  obtain ⟨c0, c1, c2, c3, c4, cf⟩ := h1.cells
  have hrc := hr.at_ f hf
  have hrf := hr.free_ f hf
  have HR := Lib.hid hr
  have HQ := Lib.hid h1.q
  have H2 := Lib.hid h2
  have H36 := Lib.hid (And.intro h3 (And.intro h4 (And.intro h5 h6)))
  clear hr h1 h2 h3 h4 h5 h6 hf'
  go_wp2
  refine wp_region_held_drew (S := (fun V => V.cell? ⟨g, 0, none⟩ = some (.slice (some ⟨r, 0, none⟩) len c) ∧ V.cell? ⟨g, 1, none⟩ = some (.int .i64 (f : Int)))) (by kernel_rfl) ⟨c0, c1⟩ (fun hHeld => ?_)
  refine' wpAnyH_take (i := 0) (oi := _) (v := _) ?hP0 (by kernel_rfl) (by kernel_rfl) (by kernel_rfl) ?hQP0 (Or.inl ⟨?hwP0, ?hyP0⟩) hHeld ?restP0
  case hP0 => (simp only [List.getElem?_toArray, List.getElem?_cons_zero]; rfl)
  case hQP0 => exact fun _ _ _ h => h
  case hwP0 => rfl
  case hyP0 => (intro w hSw; (try dsimp only at hSw); go_simp; try with_reducible rfl)
  try simp only [Act.put, List.setIfInBounds_toArray, List.set_cons_zero, List.set_cons_succ]
  refine' wpAnyH_take (i := 1) (oi := _) (v := _) ?hP1 (by kernel_rfl) (by kernel_rfl) (by kernel_rfl) ?hQP1 (Or.inl ⟨?hwP1, ?hyP1⟩) hHeld ?restP1
  case hP1 => (simp only [List.getElem?_toArray, List.getElem?_cons_succ, List.getElem?_cons_zero]; rfl)
  case hQP1 => exact fun _ _ _ h => h
  case hwP1 => rfl
  case hyP1 => (intro w hSw; (try dsimp only at hSw); go_simp; try with_reducible rfl)
  try simp only [Act.put, List.setIfInBounds_toArray, List.set_cons_zero, List.set_cons_succ]
  refine' wpAnyH_take (i := 2) (oi := _) (v := _) ?hP2 (by kernel_rfl) (by kernel_rfl) (by kernel_rfl) ?hQP2 (Or.inl ⟨?hwP2, ?hyP2⟩) hHeld ?restP2
  case hP2 => (simp only [List.getElem?_toArray, List.getElem?_cons_succ, List.getElem?_cons_zero]; rfl)
  case hQP2 => exact fun _ _ _ h => h
  case hwP2 => rfl
  case hyP2 => (intro w hSw; (try dsimp only at hSw); go_simp; try with_reducible rfl)
  try simp only [Act.put, List.setIfInBounds_toArray, List.set_cons_zero, List.set_cons_succ]
  refine' wpAnyH_take (i := 3) (oi := _) (v := _) ?hP3 (by kernel_rfl) (by kernel_rfl) (by kernel_rfl) ?hQP3 (Or.inl ⟨?hwP3, ?hyP3⟩) hHeld ?restP3
  case hP3 => (simp only [List.getElem?_toArray, List.getElem?_cons_succ, List.getElem?_cons_zero]; rfl)
  case hQP3 => exact fun _ _ _ h => h
  case hwP3 => rfl
  case hyP3 => (intro w hSw; (try dsimp only at hSw); go_simp; try with_reducible rfl)
  try simp only [Act.put, List.setIfInBounds_toArray, List.set_cons_zero, List.set_cons_succ]
  refine' wpAnyH_take (i := 4) (oi := _) (v := _) ?hP4 (by kernel_rfl) (by kernel_rfl) (by kernel_rfl) ?hQP4 (Or.inl ⟨?hwP4, ?hyP4⟩) hHeld ?restP4
  case hP4 => (simp only [List.getElem?_toArray, List.getElem?_cons_succ, List.getElem?_cons_zero]; rfl)
  case hQP4 => exact fun _ _ _ h => h
  case hwP4 => rfl
  case hyP4 => (intro w hSw; (try dsimp only at hSw); go_simp; try with_reducible rfl)
  try simp only [Act.put, List.setIfInBounds_toArray, List.set_cons_zero, List.set_cons_succ]
  refine' wpAnyH_take (i := 5) (oi := _) (v := _) ?hP5 (by kernel_rfl) (by kernel_rfl) (by kernel_rfl) ?hQP5 (Or.inl ⟨?hwP5, ?hyP5⟩) hHeld ?restP5
  case hP5 => (simp only [List.getElem?_toArray, List.getElem?_cons_succ, List.getElem?_cons_zero]; rfl)
  case hQP5 => exact fun _ _ _ h => h
  case hwP5 => rfl
  case hyP5 => (intro w hSw; (try dsimp only at hSw); go_simp; try with_reducible rfl)
  try simp only [Act.put, List.setIfInBounds_toArray, List.set_cons_zero, List.set_cons_succ]
  refine' wpAnyH_take (i := 6) (oi := _) (v := _) ?hP6 (by kernel_rfl) (by kernel_rfl) (by kernel_rfl) ?hQP6 (Or.inl ⟨?hwP6, ?hyP6⟩) hHeld ?restP6
  case hP6 => (simp only [List.getElem?_toArray, List.getElem?_cons_succ, List.getElem?_cons_zero]; rfl)
  case hQP6 => exact fun _ _ _ h => h
  case hwP6 => rfl
  case hyP6 => (intro w hSw; (try dsimp only at hSw); go_simp; try with_reducible rfl)
  try simp only [Act.put, List.setIfInBounds_toArray, List.set_cons_zero, List.set_cons_succ]
  refine' wpAnyH_take (i := 7) (oi := _) (v := _) ?hP7 (by kernel_rfl) (by kernel_rfl) (by kernel_rfl) ?hQP7 (Or.inl ⟨?hwP7, ?hyP7⟩) hHeld ?restP7
  case hP7 => (simp only [List.getElem?_toArray, List.getElem?_cons_succ, List.getElem?_cons_zero]; rfl)
  case hQP7 => exact fun _ _ _ h => h
  case hwP7 => rfl
  case hyP7 => (intro w hSw; (try dsimp only at hSw); go_simp; try with_reducible rfl)
  try simp only [Act.put, List.setIfInBounds_toArray, List.set_cons_zero, List.set_cons_succ]
  refine' wpAnyH_take (i := 8) (oi := _) (v := _) ?hP8 (by kernel_rfl) (by kernel_rfl) (by kernel_rfl) ?hQP8 (Or.inl ⟨?hwP8, ?hyP8⟩) hHeld ?restP8
  case hP8 => (simp only [List.getElem?_toArray, List.getElem?_cons_succ, List.getElem?_cons_zero]; rfl)
  case hQP8 => exact fun _ _ _ h => h
  case hwP8 => rfl
  case hyP8 => (intro w hSw; (try dsimp only at hSw); go_simp; try with_reducible rfl)
  try simp only [Act.put, List.setIfInBounds_toArray, List.set_cons_zero, List.set_cons_succ]
  refine' wpAnyH_take (i := 9) (oi := _) (v := _) ?hP9 (by kernel_rfl) (by kernel_rfl) (by kernel_rfl) ?hQP9 (Or.inl ⟨?hwP9, ?hyP9⟩) hHeld ?restP9
  case hP9 => (simp only [List.getElem?_toArray, List.getElem?_cons_succ, List.getElem?_cons_zero]; rfl)
  case hQP9 => exact fun _ _ _ h => h
  case hwP9 => rfl
  case hyP9 => (intro w hSw; (try dsimp only at hSw); go_simp; try with_reducible rfl)
  try simp only [Act.put, List.setIfInBounds_toArray, List.set_cons_zero, List.set_cons_succ]
  skip
  refine wpAnyH_ready (rs := [10]) (by kernel_rfl) (by simp) ?_
  refine AllReadyH.cons rfl (fun K hK => ?_) AllReadyH.nil
  go_simp
  refine hK.out _ _ (⟨(World.cell?_setCell_other _ _ _ _ (by intro e; injection e; omega)).trans hHeld.1, (World.cell?_setCell_other _ _ _ _ (by intro e; injection e; omega)).trans hHeld.2⟩) (fun hHeld' => ?_)
  clear hK K hHeld
  have hHeld := hHeld'
  clear hHeld'
  try simp only [Act.put, List.setIfInBounds_toArray, List.set_cons_zero, List.set_cons_succ]
  refine wpAnyH_done (by kernel_rfl) ?_ _
  have hq2 : Blk ((v1.setCell ⟨r, f, none⟩ (.int .i64 0)).drew) g 62 #[.slice (some ⟨r, 0, none⟩) len c, .int .i64 (f : Int), .int .i64 ((x :: t).length : Int), .int .i64 lim, .int .i64 dr] := (HQ.out.far (by simpa using hne.symm) _).drew
  have hr2 : Room ((v1.setCell ⟨r, f, none⟩ (.int .i64 0)).drew) r len (updR R f 0) := (HR.out.store f hf 0).keeps (Keeps.refl [] _).drew (by simp)
  have hk2 : Keeps [g, r] w ((v1.setCell ⟨r, f, none⟩ (.int .i64 0)).drew) := (HK1.out.setCell (by simp) _).drew
  have hs2 : Qs ((v1.setCell ⟨r, f, none⟩ (.int .i64 0)).drew) g r (some ⟨r, 0, none⟩) len c f (x :: t).length lim dr (updR R f 0) := ⟨hq2, .inr ⟨h0, rfl, hne, hr2⟩, .inl hf, by simpa using hn, hlen⟩
  have HAT := Lib.hid (at_any g r _ len c f _ lim dr _ 1 _ hs2 h0 (by omega))
  clear hHeld c0 c1 c2 c3 c4 cf hrc hrf HK1 HQ HR hs2
  generalize (v1.setCell ⟨r, f, none⟩ (.int .i64 0)).drew = v2 at *
  go_wp2_with fail
  refine HAT.out.mono ?_
  clear HAT
  rintro e v3 ⟨rfl, hd3⟩
  have hq3 := hq2.drawn hd3
  have hr3 := hr2.keeps ((Keeps.refl [] v2).drawn hd3) (by simp)
  have hk3 := hk2.drawn hd3
  clear hq2 hr2 hk2 hd3
  obtain ⟨p, hp⟩ : ∃ p, (f + 1) % len = p := ⟨_, rfl⟩
  have hpl := place_bd f 1 len h0
  rw [hp] at hpl ⊢
  have HP := Lib.hid hp
  clear hp
  obtain ⟨m, hm⟩ : ∃ m, m = t.length := ⟨_, rfl⟩
  have hlm : (x :: t).length = m + 1 := by rw [hm]; rfl
  rw [hlm] at hq3
  have HM := Lib.hid hm
  clear hm hlm
  have c1 := hq3.cell 1
  have c2 : v3.cell? ⟨g, 2, none⟩ = some (.int .i64 (((m + 1 : Nat)) : Int)) := hq3.cell 2
  have cf := hq3.frozen
  have hsub : (((m + 1 : Nat)) : Int) = (m : Int) + 1 := by omega
  rw [hsub] at c2
  have hmb : (m : Int) ≤ 65536 := by rw [HM.out]; omega
  clear hsub
  go_wp2
  go_ret2
  refine ⟨rfl, ⟨some ⟨r, 0, none⟩, len, c, p, updR R f 0, ⟨?_, .inr ⟨h0, rfl, hne, ?_⟩, .inl hpl, by omega, hlen⟩, ?_, H36.out.1, H36.out.2.1, by have := H36.out.2.2.1; omega, H36.out.2.2.2⟩, ?_⟩
  · have := (hq3.set_ 1 (.int .i64 (p : Int))).set_ 2 (.int .i64 (m : Int))
    rw [← HM.out]
    exact this
  · exact (hr3.keeps (((Keeps.refl [g] v3).setCell (p := ⟨g, 1, none⟩) (by simp) _).setCell (p := ⟨g, 2, none⟩) (by simp) _) (by simpa using hne))
  · intro i hi
    rw [← HP.out, place_next f i len h0, updR_ne _ _ _ _ (place_ne f i len hf (by omega))]
    have := H2.out (i + 1) (by simp; omega)
    simpa using this
  · exact (hk3.setCell (by simp) _).setCell (by simp) _
end FiI
end Go.Proofs.Ytiemnnoeljphoaa
