/- Queues of campanile/frame.Frame: what a queue is in memory; where a thing stands; what a queue tells. -/
import Derived.Test.YtdbkgpnbmafpmaaMem
import Derived.Deep.MidRow
namespace Go.Proofs.Ytdbkgpnbmafpmaa
open Go.RowKit
namespace FiF
open Sm

structure It where
  (to fr : Int)
  (data : ByteArray)
def cs (x : It) : List Value := [.int .i64 x.to, .int .i64 x.fr, .string x.data]
def z : It := ⟨0, 0, ⟨#[]⟩⟩
theorem cs_len (x : It) : (cs x).length = 3 := rfl
theorem cs_one (x : It) : (cs x).toArray.all (·.oneCell') = true := by simp [cs, Value.oneCell']
theorem cs_all (x : It) : ∀ u ∈ cs x, u.oneCell' = true := by simp [cs, Value.oneCell']
abbrev val (x : It) : Value := .agg (cs x).toArray
theorem info_all : (Try.prog.info? 39).map (fun i => (i.zero, i.size)) = some (some (val z), 3) := by kernel_rfl
theorem info_sz : (Try.prog.info? 39).map (·.size) = some 3 := by kernel_rfl
theorem info_cs (x : It) : (Try.prog.info? 39).map (·.size) = some (cs x).length := info_sz
theorem info_arr (x : It) : (Try.prog.info? 39).map (·.size) = some (cs x).toArray.size := info_sz
theorem keeps_cells {S : List Nat} {a : World} {g : Nat} (hg : g ∈ S ∨ a.heap.size ≤ g) : ∀ (vs : List Value) (o : Nat) (w : World), Keeps S a w → Keeps S a (w.setCells g o vs)
  | [], _, _, h => h
  | v :: vs, o, _, h => keeps_cells hg vs (o + 1) _ (h.setCell hg v)
theorem cell_cells {w : World} {g o : Nat} (vs : List Value) (p : Addr) (hp : p.block ≠ g) : (w.setCells g o vs).cell? p = w.cell? p := World.cell?_setCells_out g vs o w p (fun h _ => absurd h hp)
theorem blk_far {w : World} {b g o : Nat} {t : TypeId} {c : Array Value} (h : Blk w b t c) (hne : b ≠ g) (vs : List Value) : Blk (w.setCells g o vs) b t c :=
  h.keeps (keeps_cells (S := [g]) (.inl (by simp)) vs o w (Keeps.refl _ _)) (by simp; exact hne)
theorem blk_range {w : World} {b : Nat} {t : TypeId} (l : List Value) (h : Blk w b t l.toArray) : w.rangeAt b 0 l := fun j v hv => by
  rw [Nat.zero_add, h.cell]; simpa using hv
theorem blk_there {w : World} {b : Nat} {t : TypeId} {c : Array Value} (h : Blk w b t c) : w.there b 0 c.size := fun j hj => by
  rw [Nat.zero_add, h.cell, Array.getElem?_eq_getElem hj]; exact ⟨rfl, h.frozen j⟩
/-- A row of len places in block b. -/
structure Room (w : World) (b len : Nat) (R : Nat → It) : Prop where
  at_ : ∀ i, i < len → w.rangeAt b (i * 3) (cs (R i))
  free_ : ∀ i, i < len → ∀ j, j < 3 → w.frozen? ⟨b, i * 3 + j, none⟩ = false
  lt : b < w.heap.size
def updR (R : Nat → It) (k : Nat) (x : It) : Nat → It := fun i => if i = k then x else R i
theorem updR_at (R : Nat → It) (k : Nat) (x : It) : updR R k x k = x := by unfold updR; rw [if_pos rfl]
theorem updR_ne (R : Nat → It) (k i : Nat) (x : It) (h : i ≠ k) : updR R k x i = R i := by unfold updR; rw [if_neg h]
section
variable {w w' : World} {b len : Nat} {R : Nat → It} {S : List Nat}
theorem Room.there_ (h : Room w b len R) (i : Nat) (hi : i < len) : w.there b (i * 3) 3 := fun j hj =>
  ⟨World.rangeAt.isSome (h.at_ i hi) j hj, h.free_ i hi j hj⟩
theorem Room.keeps (h : Room w b len R) (hk : Keeps S w w') (hb : b ∉ S) : Room w' b len R :=
  ⟨fun i hi j v hv => (hk.cell (p := ⟨b, i * 3 + j, none⟩) h.lt hb).trans (h.at_ i hi j v hv), fun i hi j hj => (hk.frozen (p := ⟨b, i * 3 + j, none⟩) h.lt hb).trans (h.free_ i hi j hj), Nat.lt_of_lt_of_le h.lt hk.size⟩
theorem Room.store (h : Room w b len R) (k : Nat) (hk : k < len) (x : It) : Room (w.setCells b (k * 3) (cs x)) b len (updR R k x) := by
  refine ⟨fun i hi => ?_, fun i hi j hj => by rw [World.frozen?_setCells]; exact h.free_ i hi j hj, ?_⟩
  · by_cases hik : i = k
    · subst hik
      rw [updR_at]
      exact World.rangeAt_setCells_same w b (i * 3) _ (h.there_ i hi)
    · rw [updR_ne _ _ _ _ hik]
      refine World.rangeAt_setCells_apart (h.at_ i hi) b (k * 3) _ (.inr ?_)
      rw [cs_len, cs_len]
      omega
  · have := World.isSome_setCells b (cs x) (k * 3) w ⟨b, k * 3 + 0, none⟩ (h.there_ k hk 0 (by omega)).1
    obtain ⟨u, hu⟩ := Option.isSome_iff_exists.1 this
    exact World.block_lt_of_cell? _ _ hu
end
/-- A queue's block and room: n things from place f on, in a row of len places. -/
structure Qs (w : World) (g r : Nat) (A : Option Addr) (len c f n : Nat) (lim dr : Int) (R : Nat → It) : Prop where
  q : Blk w g 93 #[.slice A len c, .int .i64 (f : Int), .int .i64 (n : Int), .int .i64 lim, .int .i64 dr]
  room : (len = 0 ∧ A = none ∧ r = g) ∨ (0 < len ∧ A = some ⟨r, 0, none⟩ ∧ r ≠ g ∧ Room w r len R)
  hf : f < len ∨ (len = 0 ∧ f = 0)
  hn : n ≤ len
  hlen : len ≤ 65536
section
variable {w w' : World} {g r : Nat} {A : Option Addr} {len c f n : Nat} {lim dr : Int} {R : Nat → It} {S : List Nat}
theorem Qs.keeps (h : Qs w g r A len c f n lim dr R) (hk : Keeps S w w') (hg : g ∉ S) (hr : r ∉ S) : Qs w' g r A len c f n lim dr R :=
  ⟨h.q.keeps hk hg, h.room.imp id fun ⟨h1, h2, h3, h4⟩ => ⟨h1, h2, h3, h4.keeps hk hr⟩, h.hf, h.hn, h.hlen⟩
theorem Qs.cells (h : Qs w g r A len c f n lim dr R) : w.cell? ⟨g, 0, none⟩ = some (.slice A len c) ∧ w.cell? ⟨g, 1, none⟩ = some (.int .i64 (f : Int)) ∧ w.cell? ⟨g, 2, none⟩ = some (.int .i64 (n : Int)) ∧ w.cell? ⟨g, 3, none⟩ = some (.int .i64 lim) ∧ w.cell? ⟨g, 4, none⟩ = some (.int .i64 dr) ∧ ∀ i, w.frozen? ⟨g, i, none⟩ = false :=
  ⟨h.q.cell 0, h.q.cell 1, h.q.cell 2, h.q.cell 3, h.q.cell 4, h.q.frozen⟩
theorem Qs.drew (h : Qs w g r A len c f n lim dr R) : Qs w.drew g r A len c f n lim dr R := h.keeps (Keeps.refl [] w).drew (by simp) (by simp)
theorem Qs.drewN (h : Qs w g r A len c f n lim dr R) (m : Nat) : Qs (w.drewN m) g r A len c f n lim dr R := h.keeps ((Keeps.refl [] w).drewN m) (by simp) (by simp)
end
theorem Qs.rlt {w : World} {g r : Nat} {A : Option Addr} {len c f n : Nat} {lim dr : Int} {R : Nat → It} (h : Qs w g r A len c f n lim dr R) : r < w.heap.size := by
  rcases h.room with ⟨_, _, rfl⟩ | ⟨_, _, _, h4⟩
  · exact h.q.lt
  · exact h4.lt
/-- A queue that holds the things l. -/
def Qu (w : World) (g r : Nat) (l : List It) (lim dr : Int) : Prop :=
  ∃ A len c f R, Qs w g r A len c f l.length lim dr R ∧ (∀ i, i < l.length → l[i]? = some (R ((f + i) % len))) ∧ 0 ≤ lim ∧ lim ≤ 65536 ∧ (l.length : Int) ≤ lim ∧ 0 ≤ dr ∧ dr ≤ 100000
theorem Qu.keeps {w w' : World} {g r : Nat} {l : List It} {lim dr : Int} {S : List Nat} (h : Qu w g r l lim dr) (hk : Keeps S w w') (hg : g ∉ S) (hr : r ∉ S) : Qu w' g r l lim dr := by
  obtain ⟨A, len, c, f, R, h1, h2⟩ := h
  exact ⟨A, len, c, f, R, h1.keeps hk hg hr, h2⟩
theorem Qu.lt {w : World} {g r : Nat} {l : List It} {lim dr : Int} (h : Qu w g r l lim dr) : g < w.heap.size ∧ r < w.heap.size := by
  obtain ⟨A, len, c, f, R, h1, h2⟩ := h
  refine ⟨h1.q.lt, ?_⟩
  rcases h1.room with ⟨_, _, rfl⟩ | ⟨_, _, _, h4⟩
  · exact h1.q.lt
  · exact h4.lt
theorem Qu.dr0 {w : World} {g r : Nat} {l : List It} {lim dr : Int} (h : Qu w g r l lim dr) : 0 ≤ dr ∧ dr ≤ 100000 ∧ (l.length : Int) ≤ lim := by
  obtain ⟨A, len, c, f, R, h1, h2, h3, h4, h5, h6, h7⟩ := h
  exact ⟨h6, h7, h5⟩
theorem place_bd (f i len : Nat) (h : 0 < len) : (f + i) % len < len := Nat.mod_lt _ h
theorem tmod_place (f i len : Nat) : ((f : Int) + (i : Int)).tmod (len : Int) = (((f + i) % len : Nat) : Int) := by
  rw [← Int.natCast_add, Int.ofNat_tmod]
theorem at_any (g r : Nat) (A : Option Addr) (len c f n : Nat) (lim dr : Int) (R : Nat → It) (i : Nat) (w : World) (h : Qs w g r A len c f n lim dr R) (hl : 0 < len) (hi : i ≤ 65536) :
    Calls Try.prog 46 #[.pointer (some ⟨g, 0, none⟩), .int .i64 (i : Int)] w (Quiet (.int .i64 (((f + i) % len : Nat) : Int)) w) := by
  obtain ⟨c0, c1, _, _, _, _⟩ := h.cells
  have hf : f ≤ 65536 := by have := h.hf; have := h.hlen; omega
  have hlen := h.hlen
  have hs : IntKind.i64.wrap ((f : Int) + (i : Int)) = (f : Int) + (i : Int) := IntWalk.i64_in _ (by omega)
  have hp := place_bd f i len hl
  have HT := tmod_place f i len
  have hw : IntKind.i64.wrap (((f + i) % len : Nat) : Int) = (((f + i) % len : Nat) : Int) := IntWalk.i64_in _ (by omega)
  have h0 : ((len : Int) == 0) = false := by simp; omega
  have h00 : ¬ ((len : Int) = 0) := by omega
  clear h hf hp
  generalize (f + i) % len = p at *
  go_enter Try.func46, Try.ntmps46
  go_wp2_with fail
  go_quiet (fail)
  go_wp2
  go_ret
  exact ⟨rfl, nq, rfl⟩
theorem len_any (g r : Nat) (l : List It) (lim dr : Int) (w : World) (h : Qu w g r l lim dr) : Calls Try.prog 31 #[.pointer (some ⟨g, 0, none⟩)] w fun e w' => e = .returned (.int .i64 (l.length : Int)) ∧ w = w' := by
  obtain ⟨A, len, c, f, R, h1, _⟩ := h
  obtain ⟨_, _, c2, c3, c4, _⟩ := h1.cells
  clear h1
  go_enter Try.func31, Try.ntmps31
  go_wp2
  go_ret
  exact ⟨rfl, rfl⟩
theorem len_nil (w : World) : Calls Try.prog 31 #[.pointer none] w fun e w' => e = .returned (.int .i64 0) ∧ w = w' := by
  go_enter Try.func31, Try.ntmps31
  go_wp2
  go_ret
  exact ⟨rfl, rfl⟩
theorem drops_any (g r : Nat) (l : List It) (lim dr : Int) (w : World) (h : Qu w g r l lim dr) : Calls Try.prog 32 #[.pointer (some ⟨g, 0, none⟩)] w fun e w' => e = .returned (.int .i64 dr) ∧ w = w' := by
  obtain ⟨A, len, c, f, R, h1, _⟩ := h
  obtain ⟨_, _, c2, c3, c4, _⟩ := h1.cells
  clear h1
  go_enter Try.func32, Try.ntmps32
  go_wp2
  go_ret
  exact ⟨rfl, rfl⟩
theorem drops_nil (w : World) : Calls Try.prog 32 #[.pointer none] w fun e w' => e = .returned (.int .i64 0) ∧ w = w' := by
  go_enter Try.func32, Try.ntmps32
  go_wp2
  go_ret
  exact ⟨rfl, rfl⟩
def lim16 (o : Int) : Int := if o < 0 then 0 else if 65536 < o then 65536 else o
theorem qu_new (w : World) (lim : Int) (h0 : 0 ≤ lim) (h1 : lim ≤ 65536) : Qu (w.alloc (.cells #[.slice none 0 0, .int .i64 0, .int .i64 0, .int .i64 lim, .int .i64 0] 93)) w.heap.size w.heap.size [] lim 0 :=
  ⟨none, 0, 0, 0, fun _ => z, ⟨Blk.new _ _ _, .inl ⟨rfl, rfl, rfl⟩, .inr ⟨rfl, rfl⟩, Nat.le_refl _, by omega⟩, fun i hi => by simp at hi, h0, h1, by simpa using h0, by omega, by omega⟩
theorem new_any (o : Int) (w : World) :
    Calls Try.prog 26 #[.int .i64 o] w fun e w' => e = .returned (.pointer (some ⟨w.heap.size, 0, none⟩)) ∧ Qu w' w.heap.size w.heap.size [] (lim16 o) 0 ∧ Keeps [] w w' := by
  unfold lim16
  by_cases h0 : o < 0
  · rw [if_pos h0]
    go_enter Try.func26, Try.ntmps26
    go_wp2
    go_ret
    exact ⟨rfl, qu_new w 0 (by decide) (by decide), (Keeps.refl _ _).alloc _⟩
  · rw [if_neg h0]
    by_cases h1 : 65536 < o
    · rw [if_pos h1]
      go_enter Try.func26, Try.ntmps26
      go_wp2
      go_ret
      exact ⟨rfl, qu_new w 65536 (by decide) (by decide), (Keeps.refl _ _).alloc _⟩
    · rw [if_neg h1]
      go_enter Try.func26, Try.ntmps26
      go_wp2
      go_ret
      exact ⟨rfl, qu_new w o (by omega) (by omega), (Keeps.refl _ _).alloc _⟩
end FiF
end Go.Proofs.Ytdbkgpnbmafpmaa
