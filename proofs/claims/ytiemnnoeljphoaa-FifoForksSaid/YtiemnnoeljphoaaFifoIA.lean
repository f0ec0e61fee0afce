/- Queues of int: what a queue is in memory; where a thing stands; what a queue tells. -/
import Derived.Test.YtiemnnoeljphoaaMem
import Derived.Deep.MidRow
namespace Go.Proofs.Ytiemnnoeljphoaa
open Go.RowKit
namespace FiI
open Sm

abbrev val (x : Int) : Value := .int .i64 x
/-- A row of len places in block b. -/
structure Room (w : World) (b len : Nat) (R : Nat → Int) : Prop where
  at_ : ∀ i, i < len → w.cell? ⟨b, i, none⟩ = some (val (R i))
  free_ : ∀ i, i < len → w.frozen? ⟨b, i, none⟩ = false
  lt : b < w.heap.size
section
variable {w w' : World} {b len : Nat} {R : Nat → Int} {S : List Nat}
theorem Room.keeps (h : Room w b len R) (hk : Keeps S w w') (hb : b ∉ S) : Room w' b len R :=
  ⟨fun i hi => (hk.cell (p := ⟨b, i, none⟩) h.lt hb).trans (h.at_ i hi), fun i hi => (hk.frozen (p := ⟨b, i, none⟩) h.lt hb).trans (h.free_ i hi), Nat.lt_of_lt_of_le h.lt hk.size⟩
def updR (R : Nat → Int) (k : Nat) (x : Int) : Nat → Int := fun i => if i = k then x else R i
theorem updR_at (R : Nat → Int) (k : Nat) (x : Int) : updR R k x k = x := by unfold updR; rw [if_pos rfl]
theorem updR_ne (R : Nat → Int) (k i : Nat) (x : Int) (h : i ≠ k) : updR R k x i = R i := by unfold updR; rw [if_neg h]
theorem Room.store (h : Room w b len R) (k : Nat) (hk : k < len) (x : Int) : Room (w.setCell ⟨b, k, none⟩ (val x)) b len (updR R k x) := by
  refine ⟨fun i hi => ?_, fun i hi => by rw [World.frozen?_setCell]; exact h.free_ i hi, by simpa [World.setCell] using h.lt⟩
  by_cases hik : i = k
  · subst hik; rw [updR_at]; exact World.cell?_setCell_same w _ _ (h.at_ i hi)
  · rw [updR_ne _ _ _ _ hik, World.cell?_setCell_other w _ _ _ (by intro e; injection e; omega)]; exact h.at_ i hi
end
/-- A queue's block and room: n things from place f on, in a row of len places. -/
structure Qs (w : World) (g r : Nat) (A : Option Addr) (len c f n : Nat) (lim dr : Int) (R : Nat → Int) : Prop where
  q : Blk w g 62 #[.slice A len c, .int .i64 (f : Int), .int .i64 (n : Int), .int .i64 lim, .int .i64 dr]
  room : (len = 0 ∧ A = none ∧ r = g) ∨ (0 < len ∧ A = some ⟨r, 0, none⟩ ∧ r ≠ g ∧ Room w r len R)
  hf : f < len ∨ (len = 0 ∧ f = 0)
  hn : n ≤ len
  hlen : len ≤ 65536
section
variable {w w' : World} {g r : Nat} {A : Option Addr} {len c f n : Nat} {lim dr : Int} {R : Nat → Int} {S : List Nat}
theorem Qs.keeps (h : Qs w g r A len c f n lim dr R) (hk : Keeps S w w') (hg : g ∉ S) (hr : r ∉ S) : Qs w' g r A len c f n lim dr R :=
  ⟨h.q.keeps hk hg, h.room.imp id fun ⟨h1, h2, h3, h4⟩ => ⟨h1, h2, h3, h4.keeps hk hr⟩, h.hf, h.hn, h.hlen⟩
theorem Qs.cells (h : Qs w g r A len c f n lim dr R) : w.cell? ⟨g, 0, none⟩ = some (.slice A len c) ∧ w.cell? ⟨g, 1, none⟩ = some (.int .i64 (f : Int)) ∧ w.cell? ⟨g, 2, none⟩ = some (.int .i64 (n : Int)) ∧ w.cell? ⟨g, 3, none⟩ = some (.int .i64 lim) ∧ w.cell? ⟨g, 4, none⟩ = some (.int .i64 dr) ∧ ∀ i, w.frozen? ⟨g, i, none⟩ = false :=
  ⟨h.q.cell 0, h.q.cell 1, h.q.cell 2, h.q.cell 3, h.q.cell 4, h.q.frozen⟩
theorem Qs.drew (h : Qs w g r A len c f n lim dr R) : Qs w.drew g r A len c f n lim dr R := h.keeps (Keeps.refl [] w).drew (by simp) (by simp)
theorem Qs.drewN (h : Qs w g r A len c f n lim dr R) (m : Nat) : Qs (w.drewN m) g r A len c f n lim dr R := h.keeps ((Keeps.refl [] w).drewN m) (by simp) (by simp)
end
theorem Qs.rlt {w : World} {g r : Nat} {A : Option Addr} {len c f n : Nat} {lim dr : Int} {R : Nat → Int} (h : Qs w g r A len c f n lim dr R) : r < w.heap.size := by
  rcases h.room with ⟨_, _, rfl⟩ | ⟨_, _, _, h4⟩
  · exact h.q.lt
  · exact h4.lt
/-- A queue that holds the things l. -/
def Qu (w : World) (g r : Nat) (l : List Int) (lim dr : Int) : Prop :=
  ∃ A len c f R, Qs w g r A len c f l.length lim dr R ∧ (∀ i, i < l.length → l[i]? = some (R ((f + i) % len))) ∧ 0 ≤ lim ∧ lim ≤ 65536 ∧ (l.length : Int) ≤ lim ∧ 0 ≤ dr ∧ dr ≤ 100000
theorem Qu.keeps {w w' : World} {g r : Nat} {l : List Int} {lim dr : Int} {S : List Nat} (h : Qu w g r l lim dr) (hk : Keeps S w w') (hg : g ∉ S) (hr : r ∉ S) : Qu w' g r l lim dr := by
  obtain ⟨A, len, c, f, R, h1, h2⟩ := h
  exact ⟨A, len, c, f, R, h1.keeps hk hg hr, h2⟩
theorem Qu.lt {w : World} {g r : Nat} {l : List Int} {lim dr : Int} (h : Qu w g r l lim dr) : g < w.heap.size ∧ r < w.heap.size := by
  obtain ⟨A, len, c, f, R, h1, h2⟩ := h
  refine ⟨h1.q.lt, ?_⟩
  rcases h1.room with ⟨_, _, rfl⟩ | ⟨_, _, _, h4⟩
  · exact h1.q.lt
  · exact h4.lt
theorem Qu.dr0 {w : World} {g r : Nat} {l : List Int} {lim dr : Int} (h : Qu w g r l lim dr) : 0 ≤ dr ∧ dr ≤ 100000 ∧ (l.length : Int) ≤ lim := by
  obtain ⟨A, len, c, f, R, h1, h2, h3, h4, h5, h6, h7⟩ := h
  exact ⟨h6, h7, h5⟩
theorem place_bd (f i len : Nat) (h : 0 < len) : (f + i) % len < len := Nat.mod_lt _ h
theorem tmod_place (f i len : Nat) : ((f : Int) + (i : Int)).tmod (len : Int) = (((f + i) % len : Nat) : Int) := by
  rw [← Int.natCast_add, Int.ofNat_tmod]
theorem at_any (g r : Nat) (A : Option Addr) (len c f n : Nat) (lim dr : Int) (R : Nat → Int) (i : Nat) (w : World) (h : Qs w g r A len c f n lim dr R) (hl : 0 < len) (hi : i ≤ 65536) :
    Calls Try.prog 32 #[.pointer (some ⟨g, 0, none⟩), .int .i64 (i : Int)] w (Quiet (.int .i64 (((f + i) % len : Nat) : Int)) w) := by
  obtain ⟨c0, c1, _, _, _, _⟩ := h.cells
  have hf : f ≤ 65536 := by have := h.hf; have := h.hlen; omega
  have hlen := h.hlen
  have hs : IntKind.i64.wrap ((f : Int) + (i : Int)) = (f : Int) + (i : Int) := IntWalk.i64_in _ (by omega)
  have hp := place_bd f i len hl
  have HT := tmod_place f i len
  have hw : IntKind.i64.wrap (((f + i) % len : Nat) : Int) = (((f + i) % len : Nat) : Int) := IntWalk.i64_in _ (by omega)
  have h0 : ((len : Int) == 0) = false := by simp; omega
  have h00 : ¬ ((len : Int) = 0) := by omega
  clear h hf hp
  generalize (f + i) % len = p at *
  go_enter Try.func32, Try.ntmps32
  go_wp2_with fail
  go_quiet (fail)
  go_wp2
  go_ret
  exact ⟨rfl, nq, rfl⟩
theorem len_any (g r : Nat) (l : List Int) (lim dr : Int) (w : World) (h : Qu w g r l lim dr) : Calls Try.prog 25 #[.pointer (some ⟨g, 0, none⟩)] w fun e w' => e = .returned (.int .i64 (l.length : Int)) ∧ w = w' := by
  obtain ⟨A, len, c, f, R, h1, _⟩ := h
  obtain ⟨_, _, c2, c3, c4, _⟩ := h1.cells
  clear h1
  go_enter Try.func25, Try.ntmps25
  go_wp2
  go_ret
  exact ⟨rfl, rfl⟩
theorem len_nil (w : World) : Calls Try.prog 25 #[.pointer none] w fun e w' => e = .returned (.int .i64 0) ∧ w = w' := by
  go_enter Try.func25, Try.ntmps25
  go_wp2
  go_ret
  exact ⟨rfl, rfl⟩
theorem drops_any (g r : Nat) (l : List Int) (lim dr : Int) (w : World) (h : Qu w g r l lim dr) : Calls Try.prog 24 #[.pointer (some ⟨g, 0, none⟩)] w fun e w' => e = .returned (.int .i64 dr) ∧ w = w' := by
  obtain ⟨A, len, c, f, R, h1, _⟩ := h
  obtain ⟨_, _, c2, c3, c4, _⟩ := h1.cells
  clear h1
  go_enter Try.func24, Try.ntmps24
  go_wp2
  go_ret
  exact ⟨rfl, rfl⟩
theorem drops_nil (w : World) : Calls Try.prog 24 #[.pointer none] w fun e w' => e = .returned (.int .i64 0) ∧ w = w' := by
  go_enter Try.func24, Try.ntmps24
  go_wp2
  go_ret
  exact ⟨rfl, rfl⟩
def lim16 (o : Int) : Int := if o < 0 then 0 else if 65536 < o then 65536 else o
theorem qu_new (w : World) (lim : Int) (h0 : 0 ≤ lim) (h1 : lim ≤ 65536) : Qu (w.alloc (.cells #[.slice none 0 0, .int .i64 0, .int .i64 0, .int .i64 lim, .int .i64 0] 62)) w.heap.size w.heap.size [] lim 0 :=
  ⟨none, 0, 0, 0, fun _ => 0, ⟨Blk.new _ _ _, .inl ⟨rfl, rfl, rfl⟩, .inr ⟨rfl, rfl⟩, Nat.le_refl _, by omega⟩, fun i hi => by simp at hi, h0, h1, by simpa using h0, by omega, by omega⟩
theorem new_any (o : Int) (w : World) :
    Calls Try.prog 21 #[.int .i64 o] w fun e w' => e = .returned (.pointer (some ⟨w.heap.size, 0, none⟩)) ∧ Qu w' w.heap.size w.heap.size [] (lim16 o) 0 ∧ Keeps [] w w' := by
  unfold lim16
  by_cases h0 : o < 0
  · rw [if_pos h0]
    go_enter Try.func21, Try.ntmps21
    go_wp2
    go_ret
    exact ⟨rfl, qu_new w 0 (by decide) (by decide), (Keeps.refl _ _).alloc _⟩
  · rw [if_neg h0]
    by_cases h1 : 65536 < o
    · rw [if_pos h1]
      go_enter Try.func21, Try.ntmps21
      go_wp2
      go_ret
      exact ⟨rfl, qu_new w 65536 (by decide) (by decide), (Keeps.refl _ _).alloc _⟩
    · rw [if_neg h1]
      go_enter Try.func21, Try.ntmps21
      go_wp2
      go_ret
      exact ⟨rfl, qu_new w o (by omega) (by omega), (Keeps.refl _ _).alloc _⟩
end FiI
end Go.Proofs.Ytiemnnoeljphoaa
