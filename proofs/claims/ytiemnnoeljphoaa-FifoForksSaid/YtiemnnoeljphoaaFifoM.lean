/- The law FifoPlays: its walk. -/
import Derived.Test.YtiemnnoeljphoaaFifoK
import Derived.Test.YtiemnnoeljphoaaFifoJ
import Derived.Test.YtiemnnoeljphoaaFifoL
import Derived.Test.YtiemnnoeljphoaaReg2
import Derived.Test.YtiemnnoeljphoaaRecs
namespace Go.Proofs.Ytiemnnoeljphoaa
open Go.RowKit
namespace FiR
open Sm FiS
abbrev deedK : List TypeDesc := [.int .i64, .int .i64, .string]
/-- What stands at the head of a round. -/
def Plays (w : World) (g x : Nat) (lim : Int) (k : Nat) (wr : World) : Prop :=
  ∃ r y l dr a c, Sy wr g r x y l lim dr a c ∧ Keeps [] w wr ∧ w.heap.size ≤ g ∧ w.heap.size ≤ r ∧ w.heap.size ≤ x ∧ dr ≤ (k : Int)
theorem Plays.open_ {w wr : World} {g x k : Nat} {lim : Int} (h : Plays w g x lim k wr) :
    ∃ r y l dr a c, Sy wr g r x y l lim dr a c ∧ Keeps [] w wr ∧ w.heap.size ≤ g ∧ w.heap.size ≤ r ∧ w.heap.size ≤ x ∧ dr ≤ (k : Int) := h
theorem plays_mk {w wr : World} {g x k : Nat} {lim : Int} (h : ∃ r y l dr a c, Sy wr g r x y l lim dr a c ∧ Keeps [] w wr ∧ w.heap.size ≤ g ∧ w.heap.size ≤ r ∧ w.heap.size ≤ x ∧ dr ≤ (k : Int)) : Plays w g x lim k wr := h
theorem Plays.drew {w wr : World} {g x k : Nat} {lim : Int} (h : Plays w g x lim k wr) : Plays w g x lim k wr.drew := by
  obtain ⟨r, y, l, dr, a, c, h1, h2, h3⟩ := h
  exact ⟨r, y, l, dr, a, c, h1.keeps ((Keeps.refl [] wr).drew) (by simp), h2.drew, h3⟩
theorem Plays.step {w wr w' : World} {g r x y k : Nat} {l : List ByteArray} {lim dr : Int} {a : Option Addr} {c : Nat} {e : Ending} (_h : Sy wr g r x y l lim dr a c) (hk : Keeps [] w wr) (hg : w.heap.size ≤ g) (hr : w.heap.size ≤ r) (hx : w.heap.size ≤ x) (hd : dr ≤ (k : Int))
    (hs : IsStep g r x y lim dr wr e w') : e = .returned (.bool true) ∧ Plays w g x lim (k + 1) w' := by
  obtain ⟨h1, r', y', l', dr', a', c', h2, h3, h4, h5, h6⟩ := hs
  have := hk.size
  exact ⟨h1, r', y', l', dr', a', c', h2, hk.next h3 (by simp; omega), hg, by omega, hx, by omega⟩
theorem plays_0 {w w1 w2 : World} {g x : Nat} {lim : Int} (h1 : Qu w1 g g [] lim 0) (h2 : Keeps [] w w1) (h3 : Rq w2 x x [] lim 0 none 0) (h4 : Keeps [] w1 w2) (hg : g = w.heap.size) (hx : x = w1.heap.size) : Plays w g x lim 0 w2 := by
  have := h1.lt.1
  have := h2.size
  exact ⟨g, x, [], 0, none, 0, ⟨h1.keeps h4 (by simp) (by simp), h3, by omega, by omega, by omega, by omega⟩, h2.trans h4, by omega, by omega, by omega, by simp⟩
theorem lst_spot {w : World} {x y c : Nat} {a : Option Addr} {l : List ByteArray} (h : Lst w x y a c l) : ∀ ad, a = some ad → ad.spot = none := by
  rintro ad rfl
  rcases h with ⟨h1, _⟩ | ⟨h1, _⟩
  · cases h1
  · injection h1 with h1; rw [h1]
attribute [local irreducible] Plays
set_option maxRecDepth 100000 in
set_option maxHeartbeats 2000000 in
theorem plays_law (o : Int) (a : Option Addr) (len cap : Nat) (R : Nat → Nat → Value) (w : World) (_wo : (Lit.int .i64 o).wf = true) (hR : Recs w a len cap deedK R) :
    Calls Try.prog 4 #[.int .i64 o, .slice a len cap] w fun e w' => e = .returned (.bool true) ∧ Below w.heap.size w w' := by
  obtain ⟨hlen, hcap⟩ := hR.len
  have HR := Lib.hid hR
  clear hR
  go_enter Try.func4, Try.ntmps4
  go_wp2_with fail
  refine (new_any o _).mono ?_
  rintro e w1 ⟨rfl, hq, hk⟩
  go_wp2_with fail
  refine (rnew_any o _).mono ?_
  rintro e w2 ⟨rfl, hp, hk2⟩
  have h0 := plays_0 hq hk hp hk2 rfl rfl
  clear hq hk hp hk2
  generalize w.heap.size = g at *
  generalize w1.heap.size = x at *
  go_wp2
  go_loopw [7] (fun i wr => ∃ k : Nat, k ≤ len ∧ k ≤ 80 ∧ i = .int .i64 k ∧ Plays w g x (lim16 o) k wr) (fun i _ => 80 - (intOf i).toNat)
  case atStart => exact ⟨0, by omega, by omega, rfl, h0⟩
  case round =>
    clear h0
    obtain ⟨k, hkl, hk80, rfl, hh⟩ := hrel
    by_cases hlt : k < len ∧ k < 80
    · obtain ⟨hkl', hk80'⟩ := hlt
      obtain ⟨b, off, rfl, hbl, hcells⟩ := HR.out.at_ (by omega) (by decide)
      clear HR
      obtain ⟨hc0, d, hd, wd⟩ := hcells k hkl' 0 _ rfl
      obtain ⟨hc1, n, hn, wn⟩ := hcells k hkl' 1 _ rfl
      obtain ⟨hc2, t, ht, wt⟩ := hcells k hkl' 2 _ rfl
      rw [hd] at hc0
      rw [hn] at hc1
      rw [ht] at hc2
      clear hd hn ht hcells wd wn wt
      obtain ⟨r, y, l, dr, a1, c1, hS, hK, hg, hr, hx, hdr⟩ := hh.drew.open_
      clear hh
      have hK0 : Keeps [] w wr.drew := hK
      have g0 : wr.drew.cell? ⟨b, off + k * 3, none⟩ = some (.int .i64 d) := (hK.cell (p := ⟨b, off + (k * 3 + 0), none⟩) hbl (by simp)).trans hc0
      have g1 : wr.drew.cell? ⟨b, off + k * 3 + 1, none⟩ = some (.int .i64 n) := (hK.cell (p := ⟨b, off + (k * 3 + 1), none⟩) hbl (by simp)).trans hc1
      have g2 : wr.drew.cell? ⟨b, off + k * 3 + 2, none⟩ = some (.string t) := (hK.cell (p := ⟨b, off + (k * 3 + 2), none⟩) hbl (by simp)).trans hc2
      clear hc0 hc1 hc2
      have hbw : b < wr.drew.heap.size := Nat.lt_of_lt_of_le hbl hK.size
      have HS := Lib.hid hS
      have HST := Lib.hid (fun e w' h => Plays.step (k := k) (e := e) (w' := w') hS hK hg hr hx hdr h)
      have hdd : dr < 100000 := by omega
      have hk0 : (0 : Int) ≤ (k : Int) := by omega
      have hk1 : (k : Int) < (len : Int) := by omega
      clear hS hK
      go_wp2
      refine wp_region_held_drew (S := (fun V => V.cell? ⟨b, off + k * 3, none⟩ = some (.int .i64 d) ∧ V.cell? ⟨b, off + k * 3 + 1, none⟩ = some (.int .i64 n) ∧ V.cell? ⟨b, off + k * 3 + 2, none⟩ = some (.string t))) (by kernel_rfl) ⟨g0, g1, g2⟩ (fun hHeld => ?_)
      refine' wpAnyH_take (i := 0) (oi := _) (v := _) ?hY0 (by kernel_rfl) (by kernel_rfl) (by kernel_rfl) ?hQY0 (Or.inl ⟨?hwY0, ?hyY0⟩) hHeld ?restY0
      case hY0 => (simp only [List.getElem?_toArray, List.getElem?_cons_zero]; rfl)
      case hQY0 => exact fun _ _ _ h => h
      case hwY0 => rfl
      case hyY0 => (intro w hSw; (try dsimp only at hSw); go_simp; try with_reducible rfl)
      try simp only [Act.put, List.setIfInBounds_toArray, List.set_cons_zero, List.set_cons_succ]
      refine' wpAnyH_take (i := 1) (oi := _) (v := _) ?hY1 (by kernel_rfl) (by kernel_rfl) (by kernel_rfl) ?hQY1 (Or.inl ⟨?hwY1, ?hyY1⟩) hHeld ?restY1
      case hY1 => (simp only [List.getElem?_toArray, List.getElem?_cons_succ, List.getElem?_cons_zero]; rfl)
      case hQY1 => exact fun _ _ _ h => h
      case hwY1 => rfl
      case hyY1 => (intro w hSw; (try dsimp only at hSw); go_simp; try with_reducible rfl)
      try simp only [Act.put, List.setIfInBounds_toArray, List.set_cons_zero, List.set_cons_succ]
      refine' wpAnyH_take (i := 2) (oi := _) (v := _) ?hY2 (by kernel_rfl) (by kernel_rfl) (by kernel_rfl) ?hQY2 (Or.inl ⟨?hwY2, ?hyY2⟩) hHeld ?restY2
      case hY2 => (simp only [List.getElem?_toArray, List.getElem?_cons_succ, List.getElem?_cons_zero]; rfl)
      case hQY2 => exact fun _ _ _ h => h
      case hwY2 => rfl
      case hyY2 => (intro w hSw; (try dsimp only at hSw); go_simp; try with_reducible rfl)
      try simp only [Act.put, List.setIfInBounds_toArray, List.set_cons_zero, List.set_cons_succ]
      refine' wpAnyH_take (i := 3) (oi := _) (v := _) ?hY3 (by kernel_rfl) (by kernel_rfl) (by kernel_rfl) ?hQY3 (Or.inl ⟨?hwY3, ?hyY3⟩) hHeld ?restY3
      case hY3 => (simp only [List.getElem?_toArray, List.getElem?_cons_succ, List.getElem?_cons_zero]; rfl)
      case hQY3 => exact fun _ _ _ h => h
      case hwY3 => rfl
      case hyY3 => (intro w hSw; (try dsimp only at hSw); go_simp; try with_reducible rfl)
      try simp only [Act.put, List.setIfInBounds_toArray, List.set_cons_zero, List.set_cons_succ]
      refine' wpAnyH_take (i := 4) (oi := _) (v := _) ?hY4 (by kernel_rfl) (by kernel_rfl) (by kernel_rfl) ?hQY4 (Or.inl ⟨?hwY4, ?hyY4⟩) hHeld ?restY4
      case hY4 => (simp only [List.getElem?_toArray, List.getElem?_cons_succ, List.getElem?_cons_zero]; rfl)
      case hQY4 => exact fun _ _ _ h => h
      case hwY4 => rfl
      case hyY4 => (intro w hSw; (try dsimp only at hSw); go_simp; try with_reducible rfl)
      try simp only [Act.put, List.setIfInBounds_toArray, List.set_cons_zero, List.set_cons_succ]
      refine' wpAnyH_take (i := 5) (oi := _) (v := _) ?hY5 (by kernel_rfl) (by kernel_rfl) (by kernel_rfl) ?hQY5 (Or.inl ⟨?hwY5, ?hyY5⟩) hHeld ?restY5
      case hY5 => (simp only [List.getElem?_toArray, List.getElem?_cons_succ, List.getElem?_cons_zero]; rfl)
      case hQY5 => exact fun _ _ _ h => h
      case hwY5 => rfl
      case hyY5 => (intro w hSw; (try dsimp only at hSw); go_simp; try with_reducible rfl)
      try simp only [Act.put, List.setIfInBounds_toArray, List.set_cons_zero, List.set_cons_succ]
      refine wpAnyH_ready (rs := [6]) (by kernel_rfl) (by simp) ?_
      refine AllReadyH.cons rfl (fun K hK => ?_) AllReadyH.nil
      go_simp
      refine (step_any g r x y l (lim16 o) dr a1 c1 d n t _ HS.out hdd).mono ?_
      rintro e v1 hst
      have hpl := (HST.out e v1 hst)
      obtain ⟨rfl, hpl⟩ := hpl
      obtain ⟨r2, y2, l2, dr2, a2, c2, hS2, hK2, _⟩ := hpl.open_
      have HLN := Lib.hid (And.intro (len_any g r2 l2 (lim16 o) dr2 v1 hS2.q) (And.intro (drops_any g r2 l2 (lim16 o) dr2 v1 hS2.q) (limit_any g r2 l2 (lim16 o) dr2 v1 hS2.q)))
      have x0 : v1.cell? ⟨x, 0, none⟩ = some (.slice a2 l2.length c2) := hS2.p.q.cell 0
      have x1 : v1.cell? ⟨x, 1, none⟩ = some (.int .i64 (lim16 o)) := hS2.p.q.cell 1
      have x2 : v1.cell? ⟨x, 2, none⟩ = some (.int .i64 dr2) := hS2.p.q.cell 2
      have hln2 : l2.length ≤ 65536 := hS2.p.len
      clear hS2 hK2 HST
      try go_wp2_with fail
      refine hK.out _ _ (⟨keep_box hHeld.1 hst.keep hbw (by simp; omega), keep_box hHeld.2.1 hst.keep hbw (by simp; omega), keep_box hHeld.2.2 hst.keep hbw (by simp; omega)⟩) (fun hHeld' => ?_)
      clear hK K hHeld
      have hHeld := hHeld'
      clear hHeld'
      try simp only [Act.put, List.setIfInBounds_toArray, List.set_cons_zero, List.set_cons_succ]
      refine wpAnyH_mono (S' := fun V => V.cell? ⟨b, off + k * 3, none⟩ = some (.int .i64 d) ∧ V.cell? ⟨b, off + k * 3 + 1, none⟩ = some (.int .i64 n) ∧ V.cell? ⟨b, off + k * 3 + 2, none⟩ = some (.string t) ∧ V.cell? ⟨x, 0, none⟩ = some (.slice a2 l2.length c2) ∧ V.cell? ⟨x, 1, none⟩ = some (.int .i64 (lim16 o)) ∧ V.cell? ⟨x, 2, none⟩ = some (.int .i64 dr2)) (fun V h => ⟨h.1, h.2.1, h.2.2.1⟩) _ _ _ _ ?_
      have hHeld' := And.intro hHeld.1 (And.intro hHeld.2.1 (And.intro hHeld.2.2 (And.intro x0 (And.intro x1 x2))))
      clear hHeld
      have hHeld := hHeld'
      clear hHeld' hst
      refine' wpAnyH_take (i := 7) (oi := _) (v := _) ?hY7 (by kernel_rfl) (by kernel_rfl) (by kernel_rfl) ?hQY7 (Or.inl ⟨?hwY7, ?hyY7⟩) hHeld ?restY7
      case hY7 => (simp only [List.getElem?_toArray, List.getElem?_cons_succ, List.getElem?_cons_zero]; rfl)
      case hQY7 => exact fun _ _ _ h => h
      case hwY7 => rfl
      case hyY7 => (intro w hSw; (try dsimp only at hSw); go_simp; try with_reducible rfl)
      try simp only [Act.put, List.setIfInBounds_toArray, List.set_cons_zero, List.set_cons_succ]
      refine' wpAnyH_take (i := 8) (oi := _) (v := _) ?hY8 (by kernel_rfl) (by kernel_rfl) (by kernel_rfl) ?hQY8 (Or.inl ⟨?hwY8, ?hyY8⟩) hHeld ?restY8
      case hY8 => (simp only [List.getElem?_toArray, List.getElem?_cons_succ, List.getElem?_cons_zero]; rfl)
      case hQY8 => exact fun _ _ _ h => h
      case hwY8 => rfl
      case hyY8 => (intro w hSw; (try dsimp only at hSw); go_simp; try with_reducible rfl)
      try simp only [Act.put, List.setIfInBounds_toArray, List.set_cons_zero, List.set_cons_succ]
      refine' wpAnyH_take (i := 9) (oi := _) (v := _) ?hY9 (by kernel_rfl) (by kernel_rfl) (by kernel_rfl) ?hQY9 (Or.inl ⟨?hwY9, ?hyY9⟩) hHeld ?restY9
      case hY9 => (simp only [List.getElem?_toArray, List.getElem?_cons_succ, List.getElem?_cons_zero]; rfl)
      case hQY9 => exact fun _ _ _ h => h
      case hwY9 => rfl
      case hyY9 => (intro w hSw; (try dsimp only at hSw); go_simp; try with_reducible rfl)
      try simp only [Act.put, List.setIfInBounds_toArray, List.set_cons_zero, List.set_cons_succ]
      refine' wpAnyH_take (i := 11) (oi := _) (v := _) ?hY11 (by kernel_rfl) (by kernel_rfl) (by kernel_rfl) ?hQY11 (Or.inl ⟨?hwY11, ?hyY11⟩) hHeld ?restY11
      case hY11 => (simp only [List.getElem?_toArray, List.getElem?_cons_succ, List.getElem?_cons_zero]; rfl)
      case hQY11 => exact fun _ _ _ h => h
      case hwY11 => rfl
      case hyY11 => (intro w hSw; (try dsimp only at hSw); go_simp; try with_reducible rfl)
      try simp only [Act.put, List.setIfInBounds_toArray, List.set_cons_zero, List.set_cons_succ]
      refine' wpAnyH_take (i := 12) (oi := _) (v := _) ?hY12 (by kernel_rfl) (by kernel_rfl) (by kernel_rfl) ?hQY12 (Or.inl ⟨?hwY12, ?hyY12⟩) hHeld ?restY12
      case hY12 => (simp only [List.getElem?_toArray, List.getElem?_cons_succ, List.getElem?_cons_zero]; rfl)
      case hQY12 => exact fun _ _ _ h => h
      case hwY12 => rfl
      case hyY12 => (intro w hSw; (try dsimp only at hSw); go_simp; try with_reducible rfl)
      try simp only [Act.put, List.setIfInBounds_toArray, List.set_cons_zero, List.set_cons_succ]
      refine' wpAnyH_take (i := 13) (oi := _) (v := _) ?hY13 (by kernel_rfl) (by kernel_rfl) (by kernel_rfl) ?hQY13 (Or.inl ⟨?hwY13, ?hyY13⟩) hHeld ?restY13
      case hY13 => (simp only [List.getElem?_toArray, List.getElem?_cons_succ, List.getElem?_cons_zero]; rfl)
      case hQY13 => exact fun _ _ _ h => h
      case hwY13 => rfl
      case hyY13 => (intro w hSw; (try dsimp only at hSw); go_simp; try with_reducible rfl)
      try simp only [Act.put, List.setIfInBounds_toArray, List.set_cons_zero, List.set_cons_succ]
      refine' wpAnyH_take (i := 14) (oi := _) (v := _) ?hY14 (by kernel_rfl) (by kernel_rfl) (by kernel_rfl) ?hQY14 (Or.inl ⟨?hwY14, ?hyY14⟩) hHeld ?restY14
      case hY14 => (simp only [List.getElem?_toArray, List.getElem?_cons_succ, List.getElem?_cons_zero]; rfl)
      case hQY14 => exact fun _ _ _ h => h
      case hwY14 => rfl
      case hyY14 => (intro w hSw; (try dsimp only at hSw); go_simp; try with_reducible rfl)
      try simp only [Act.put, List.setIfInBounds_toArray, List.set_cons_zero, List.set_cons_succ]
      refine' wpAnyH_take (i := 15) (oi := _) (v := _) ?hY15 (by kernel_rfl) (by kernel_rfl) (by kernel_rfl) ?hQY15 (Or.inl ⟨?hwY15, ?hyY15⟩) hHeld ?restY15
      case hY15 => (simp only [List.getElem?_toArray, List.getElem?_cons_succ, List.getElem?_cons_zero]; rfl)
      case hQY15 => exact fun _ _ _ h => h
      case hwY15 => rfl
      case hyY15 => (intro w hSw; (try dsimp only at hSw); go_simp; try with_reducible rfl)
      try simp only [Act.put, List.setIfInBounds_toArray, List.set_cons_zero, List.set_cons_succ]
      refine wpAnyH_ready (rs := [10]) (by kernel_rfl) (by simp) ?_
      refine AllReadyH.cons rfl (fun K hK => ?_) AllReadyH.nil
      go_simp
      refine (HLN.out.1).mono ?_
      rintro e v2 ⟨rfl, rfl⟩
      try go_wp2_with fail
      refine hK.out _ _ (hHeld) (fun hHeld' => ?_)
      clear hK K hHeld
      have hHeld := hHeld'
      clear hHeld'
      try simp only [Act.put, List.setIfInBounds_toArray, List.set_cons_zero, List.set_cons_succ]
      refine' wpAnyH_take (i := 16) (oi := _) (v := _) ?hY16 (by kernel_rfl) (by kernel_rfl) (by kernel_rfl) ?hQY16 (Or.inl ⟨?hwY16, ?hyY16⟩) hHeld ?restY16
      case hY16 => (simp only [List.getElem?_toArray, List.getElem?_cons_succ, List.getElem?_cons_zero]; rfl)
      case hQY16 => exact fun _ _ _ h => h
      case hwY16 => rfl
      case hyY16 => (intro w hSw; (try dsimp only at hSw); go_simp; try with_reducible rfl)
      try simp only [Act.put, List.setIfInBounds_toArray, List.set_cons_zero, List.set_cons_succ]
      refine' wpAnyH_take (i := 17) (oi := _) (v := _) ?hY17 (by kernel_rfl) (by kernel_rfl) (by kernel_rfl) ?hQY17 (Or.inl ⟨?hwY17, ?hyY17⟩) hHeld ?restY17
      case hY17 => (simp only [List.getElem?_toArray, List.getElem?_cons_succ, List.getElem?_cons_zero]; rfl)
      case hQY17 => exact fun _ _ _ h => h
      case hwY17 => rfl
      case hyY17 => (intro w hSw; (try dsimp only at hSw); go_simp; try with_reducible rfl)
      try simp only [Act.put, List.setIfInBounds_toArray, List.set_cons_zero, List.set_cons_succ]
      refine' wpAnyH_take (i := 18) (oi := _) (v := _) ?hY18 (by kernel_rfl) (by kernel_rfl) (by kernel_rfl) ?hQY18 (Or.inl ⟨?hwY18, ?hyY18⟩) hHeld ?restY18
      case hY18 => (simp only [List.getElem?_toArray, List.getElem?_cons_succ, List.getElem?_cons_zero]; rfl)
      case hQY18 => exact fun _ _ _ h => h
      case hwY18 => rfl
      case hyY18 => (intro w hSw; (try dsimp only at hSw); go_simp; try with_reducible rfl)
      try simp only [Act.put, List.setIfInBounds_toArray, List.set_cons_zero, List.set_cons_succ]
      refine' wpAnyH_take (i := 19) (oi := _) (v := _) ?hY19 (by kernel_rfl) (by kernel_rfl) (by kernel_rfl) ?hQY19 (Or.inl ⟨?hwY19, ?hyY19⟩) hHeld ?restY19
      case hY19 => (simp only [List.getElem?_toArray, List.getElem?_cons_succ, List.getElem?_cons_zero]; rfl)
      case hQY19 => exact fun _ _ _ h => h
      case hwY19 => rfl
      case hyY19 => (intro w hSw; (try dsimp only at hSw); go_simp; try with_reducible rfl)
      try simp only [Act.put, List.setIfInBounds_toArray, List.set_cons_zero, List.set_cons_succ]
      refine' wpAnyH_take (i := 21) (oi := _) (v := _) ?hY21 (by kernel_rfl) (by kernel_rfl) (by kernel_rfl) ?hQY21 (Or.inl ⟨?hwY21, ?hyY21⟩) hHeld ?restY21
      case hY21 => (simp only [List.getElem?_toArray, List.getElem?_cons_succ, List.getElem?_cons_zero]; rfl)
      case hQY21 => exact fun _ _ _ h => h
      case hwY21 => rfl
      case hyY21 => (intro w hSw; (try dsimp only at hSw); go_simp; try with_reducible rfl)
      try simp only [Act.put, List.setIfInBounds_toArray, List.set_cons_zero, List.set_cons_succ]
      refine' wpAnyH_take (i := 22) (oi := _) (v := _) ?hY22 (by kernel_rfl) (by kernel_rfl) (by kernel_rfl) ?hQY22 (Or.inl ⟨?hwY22, ?hyY22⟩) hHeld ?restY22
      case hY22 => (simp only [List.getElem?_toArray, List.getElem?_cons_succ, List.getElem?_cons_zero]; rfl)
      case hQY22 => exact fun _ _ _ h => h
      case hwY22 => rfl
      case hyY22 => (intro w hSw; (try dsimp only at hSw); go_simp; try with_reducible rfl)
      try simp only [Act.put, List.setIfInBounds_toArray, List.set_cons_zero, List.set_cons_succ]
      refine' wpAnyH_take (i := 23) (oi := _) (v := _) ?hY23 (by kernel_rfl) (by kernel_rfl) (by kernel_rfl) ?hQY23 (Or.inl ⟨?hwY23, ?hyY23⟩) hHeld ?restY23
      case hY23 => (simp only [List.getElem?_toArray, List.getElem?_cons_succ, List.getElem?_cons_zero]; rfl)
      case hQY23 => exact fun _ _ _ h => h
      case hwY23 => rfl
      case hyY23 => (intro w hSw; (try dsimp only at hSw); go_simp; try with_reducible rfl)
      try simp only [Act.put, List.setIfInBounds_toArray, List.set_cons_zero, List.set_cons_succ]
      refine' wpAnyH_take (i := 24) (oi := _) (v := _) ?hY24 (by kernel_rfl) (by kernel_rfl) (by kernel_rfl) ?hQY24 (Or.inl ⟨?hwY24, ?hyY24⟩) hHeld ?restY24
      case hY24 => (simp only [List.getElem?_toArray, List.getElem?_cons_succ, List.getElem?_cons_zero]; rfl)
      case hQY24 => exact fun _ _ _ h => h
      case hwY24 => rfl
      case hyY24 => (intro w hSw; (try dsimp only at hSw); go_simp; try with_reducible rfl)
      try simp only [Act.put, List.setIfInBounds_toArray, List.set_cons_zero, List.set_cons_succ]
      refine wpAnyH_ready (rs := [20]) (by kernel_rfl) (by simp) ?_
      refine AllReadyH.cons rfl (fun K hK => ?_) AllReadyH.nil
      go_simp
      refine (HLN.out.2.1).mono ?_
      rintro e v2 ⟨rfl, rfl⟩
      try go_wp2_with fail
      refine hK.out _ _ (hHeld) (fun hHeld' => ?_)
      clear hK K hHeld
      have hHeld := hHeld'
      clear hHeld'
      try simp only [Act.put, List.setIfInBounds_toArray, List.set_cons_zero, List.set_cons_succ]
      refine' wpAnyH_take (i := 25) (oi := _) (v := _) ?hY25 (by kernel_rfl) (by kernel_rfl) (by kernel_rfl) ?hQY25 (Or.inl ⟨?hwY25, ?hyY25⟩) hHeld ?restY25
      case hY25 => (simp only [List.getElem?_toArray, List.getElem?_cons_succ, List.getElem?_cons_zero]; rfl)
      case hQY25 => exact fun _ _ _ h => h
      case hwY25 => rfl
      case hyY25 => (intro w hSw; (try dsimp only at hSw); go_simp; try with_reducible rfl)
      try simp only [Act.put, List.setIfInBounds_toArray, List.set_cons_zero, List.set_cons_succ]
      refine' wpAnyH_take (i := 26) (oi := _) (v := _) ?hY26 (by kernel_rfl) (by kernel_rfl) (by kernel_rfl) ?hQY26 (Or.inl ⟨?hwY26, ?hyY26⟩) hHeld ?restY26
      case hY26 => (simp only [List.getElem?_toArray, List.getElem?_cons_succ, List.getElem?_cons_zero]; rfl)
      case hQY26 => exact fun _ _ _ h => h
      case hwY26 => rfl
      case hyY26 => (intro w hSw; (try dsimp only at hSw); go_simp; try with_reducible rfl)
      try simp only [Act.put, List.setIfInBounds_toArray, List.set_cons_zero, List.set_cons_succ]
      refine' wpAnyH_take (i := 27) (oi := _) (v := _) ?hY27 (by kernel_rfl) (by kernel_rfl) (by kernel_rfl) ?hQY27 (Or.inl ⟨?hwY27, ?hyY27⟩) hHeld ?restY27
      case hY27 => (simp only [List.getElem?_toArray, List.getElem?_cons_succ, List.getElem?_cons_zero]; rfl)
      case hQY27 => exact fun _ _ _ h => h
      case hwY27 => rfl
      case hyY27 => (intro w hSw; (try dsimp only at hSw); go_simp; try with_reducible rfl)
      try simp only [Act.put, List.setIfInBounds_toArray, List.set_cons_zero, List.set_cons_succ]
      refine' wpAnyH_take (i := 28) (oi := _) (v := _) ?hY28 (by kernel_rfl) (by kernel_rfl) (by kernel_rfl) ?hQY28 (Or.inl ⟨?hwY28, ?hyY28⟩) hHeld ?restY28
      case hY28 => (simp only [List.getElem?_toArray, List.getElem?_cons_succ, List.getElem?_cons_zero]; rfl)
      case hQY28 => exact fun _ _ _ h => h
      case hwY28 => rfl
      case hyY28 => (intro w hSw; (try dsimp only at hSw); go_simp; try with_reducible rfl)
      try simp only [Act.put, List.setIfInBounds_toArray, List.set_cons_zero, List.set_cons_succ]
      refine' wpAnyH_take (i := 30) (oi := _) (v := _) ?hY30 (by kernel_rfl) (by kernel_rfl) (by kernel_rfl) ?hQY30 (Or.inl ⟨?hwY30, ?hyY30⟩) hHeld ?restY30
      case hY30 => (simp only [List.getElem?_toArray, List.getElem?_cons_succ, List.getElem?_cons_zero]; rfl)
      case hQY30 => exact fun _ _ _ h => h
      case hwY30 => rfl
      case hyY30 => (intro w hSw; (try dsimp only at hSw); go_simp; try with_reducible rfl)
      try simp only [Act.put, List.setIfInBounds_toArray, List.set_cons_zero, List.set_cons_succ]
      refine' wpAnyH_take (i := 31) (oi := _) (v := _) ?hY31 (by kernel_rfl) (by kernel_rfl) (by kernel_rfl) ?hQY31 (Or.inl ⟨?hwY31, ?hyY31⟩) hHeld ?restY31
      case hY31 => (simp only [List.getElem?_toArray, List.getElem?_cons_succ, List.getElem?_cons_zero]; rfl)
      case hQY31 => exact fun _ _ _ h => h
      case hwY31 => rfl
      case hyY31 => (intro w hSw; (try dsimp only at hSw); go_simp; try with_reducible rfl)
      try simp only [Act.put, List.setIfInBounds_toArray, List.set_cons_zero, List.set_cons_succ]
      refine' wpAnyH_take (i := 32) (oi := _) (v := _) ?hY32 (by kernel_rfl) (by kernel_rfl) (by kernel_rfl) ?hQY32 (Or.inl ⟨?hwY32, ?hyY32⟩) hHeld ?restY32
      case hY32 => (simp only [List.getElem?_toArray, List.getElem?_cons_succ, List.getElem?_cons_zero]; rfl)
      case hQY32 => exact fun _ _ _ h => h
      case hwY32 => rfl
      case hyY32 => (intro w hSw; (try dsimp only at hSw); go_simp; try with_reducible rfl)
      try simp only [Act.put, List.setIfInBounds_toArray, List.set_cons_zero, List.set_cons_succ]
      refine' wpAnyH_take (i := 33) (oi := _) (v := _) ?hY33 (by kernel_rfl) (by kernel_rfl) (by kernel_rfl) ?hQY33 (Or.inl ⟨?hwY33, ?hyY33⟩) hHeld ?restY33
      case hY33 => (simp only [List.getElem?_toArray, List.getElem?_cons_succ, List.getElem?_cons_zero]; rfl)
      case hQY33 => exact fun _ _ _ h => h
      case hwY33 => rfl
      case hyY33 => (intro w hSw; (try dsimp only at hSw); go_simp; try with_reducible rfl)
      try simp only [Act.put, List.setIfInBounds_toArray, List.set_cons_zero, List.set_cons_succ]
      refine wpAnyH_ready (rs := [29]) (by kernel_rfl) (by simp) ?_
      refine AllReadyH.cons rfl (fun K hK => ?_) AllReadyH.nil
      go_simp
      refine (HLN.out.2.2).mono ?_
      rintro e v2 ⟨rfl, rfl⟩
      try go_wp2_with fail
      refine hK.out _ _ (hHeld) (fun hHeld' => ?_)
      clear hK K hHeld
      have hHeld := hHeld'
      clear hHeld'
      try simp only [Act.put, List.setIfInBounds_toArray, List.set_cons_zero, List.set_cons_succ]
      refine' wpAnyH_take (i := 34) (oi := _) (v := _) ?hY34 (by kernel_rfl) (by kernel_rfl) (by kernel_rfl) ?hQY34 (Or.inl ⟨?hwY34, ?hyY34⟩) hHeld ?restY34
      case hY34 => (simp only [List.getElem?_toArray, List.getElem?_cons_succ, List.getElem?_cons_zero]; rfl)
      case hQY34 => exact fun _ _ _ h => h
      case hwY34 => rfl
      case hyY34 => (intro w hSw; (try dsimp only at hSw); go_simp; try with_reducible rfl)
      try simp only [Act.put, List.setIfInBounds_toArray, List.set_cons_zero, List.set_cons_succ]
      refine' wpAnyH_take (i := 35) (oi := _) (v := _) ?hY35 (by kernel_rfl) (by kernel_rfl) (by kernel_rfl) ?hQY35 (Or.inl ⟨?hwY35, ?hyY35⟩) hHeld ?restY35
      case hY35 => (simp only [List.getElem?_toArray, List.getElem?_cons_succ, List.getElem?_cons_zero]; rfl)
      case hQY35 => exact fun _ _ _ h => h
      case hwY35 => rfl
      case hyY35 => (intro w hSw; (try dsimp only at hSw); go_simp; try with_reducible rfl)
      try simp only [Act.put, List.setIfInBounds_toArray, List.set_cons_zero, List.set_cons_succ]
      refine wpAnyH_done (by kernel_rfl) ?_ _
      clear hHeld g0 g1 g2 HLN x0 x1 x2
      go_wp2
      go_roundw
      case rel => exact ⟨k + 1, by omega, by omega, by go_num, hpl⟩
      case measure => simp [intOf]; omega
    · have hlt' : len ≤ k ∨ 80 ≤ k := by omega
      clear hlt HR
      obtain ⟨r, y, l, dr, a1, c1, hS, hK, hg, hr, hx, hdr⟩ := hh.open_
      clear hh
      have hll := hS.p.len
      have hlts := hS.lt
      have HS := Lib.hid hS
      have HK := Lib.hid hK
      clear hS hK
      by_cases hc1 : k < len
      all_goals
        go_wp2_with fail
        refine (all_any g r l (lim16 o) dr hll _ HS.out.q).mono ?_
        rintro e v1 ⟨a3, c3, rfl, hown, hk1⟩
        go_wp2_with fail
        refine (Fi.live_any _).mono ?_
        rintro e v2 ⟨rfl, hk2⟩
        have hS2 := (HS.out.keeps hk1 (by simp)).keeps hk2 (by simp)
        have x0 : v2.cell? ⟨x, 0, none⟩ = some (.slice a1 l.length c1) := hS2.p.q.cell 0
        have HSM := Lib.hid (same_any _ _ l.length a3 a1 c3 c1 l v2 hll (Reads.of_own (ownsRow_keeps hown hk2 (by simp))) hS2.p.row.reads (own_spot hown) (lst_spot hS2.p.row))
        have HKK := Lib.hid ((HK.out.trans hk1).trans hk2)
        clear hS2 hown hk1 hk2 HS HK
        go_wp2_with fail
        refine HSM.out.mono ?_
        rintro e v3 ⟨rfl, hd3⟩
        go_wp2
        go_ret
        exact ⟨rfl, (HKK.out.drawn hd3).all⟩
end FiR
end Go.Proofs.Ytiemnnoeljphoaa
