/- The reference's rows as a slice. -/
import Derived.Test.YtckindhnhbcgoaaLatchG
import Derived.Deep.MidRow
namespace Go.Proofs.Ytckindhnhbcgoaa
open Go.RowKit
namespace La
open Sm
/-- A slice of n rows, in block g: what each holds; they may be written. -/
structure Rows (w : World) (g n : Nat) (X : Nat → Nat → Int) (Y : Nat → Nat → Bool) : Prop where
  at_ : ∀ i, i < n → w.rangeAt g (i * 16) (rcells (X i) (Y i)).toList
  free_ : ∀ i, i < n → ∀ j, j < 16 → w.frozen? ⟨g, i * 16 + j, none⟩ = false
  lt : g < w.heap.size
section
variable {w w' : World} {g n : Nat} {X : Nat → Nat → Int} {Y : Nat → Nat → Bool} {S : List Nat}
theorem Rows.there_ (h : Rows w g n X Y) (i : Nat) (hi : i < n) : w.there g (i * 16) 16 := fun j hj =>
  ⟨World.rangeAt.isSome (h.at_ i hi) j hj, h.free_ i hi j hj⟩
theorem Rows.keeps (h : Rows w g n X Y) (hk : Keeps S w w') (hg : g ∉ S) : Rows w' g n X Y :=
  ⟨fun i hi j v hv => (hk.cell (p := ⟨g, i * 16 + j, none⟩) h.lt hg).trans (h.at_ i hi j v hv), fun i hi j hj => (hk.frozen (p := ⟨g, i * 16 + j, none⟩) h.lt hg).trans (h.free_ i hi j hj), Nat.lt_of_lt_of_le h.lt hk.size⟩
theorem Rows.alloc (h : Rows w g n X Y) (o : Obj) : Rows (w.alloc o) g n X Y := h.keeps ((Keeps.refl [] w).alloc o) (by simp)
theorem Rows.drew (h : Rows w g n X Y) : Rows w.drew g n X Y := h.keeps (Keeps.refl [] w).drew (by simp)
theorem Rows.store (h : Rows w g n X Y) (k : Nat) (hk : k < n) (x : Nat → Int) (y : Nat → Bool) :
    Rows (w.setCells g (k * 16) (rcells x y).toList) g n (fun i => if i = k then x else X i) (fun i => if i = k then y else Y i) := by
  refine ⟨fun i hi => ?_, fun i hi j hj => by rw [World.frozen?_setCells]; exact h.free_ i hi j hj, ?_⟩
  · by_cases hik : i = k
    · subst hik
      simp only [if_true]
      exact World.rangeAt_setCells_same w g (i * 16) _ (h.there_ i hi)
    · simp only [if_neg hik]
      refine World.rangeAt_setCells_apart (h.at_ i hi) g (k * 16) _ (.inr ?_)
      show i * 16 + 16 ≤ k * 16 ∨ k * 16 + 16 ≤ i * 16
      omega
  · have := World.isSome_setCells g (rcells x y).toList (k * 16) w ⟨g, k * 16 + 0, none⟩ (h.there_ k hk 0 (by omega)).1
    obtain ⟨u, hu⟩ := Option.isSome_iff_exists.1 this
    exact World.block_lt_of_cell? _ _ hu
end
theorem row_info : (Try.prog.info? 46).map (·.size) = some 16 := by kernel_rfl
theorem rc_one (x : Nat → Int) (y : Nat → Bool) : (rcells x y).all (·.oneCell') = true := by simp [rcells, Value.oneCell']
theorem keeps_cells {S : List Nat} {a : World} {g : Nat} (hg : g ∈ S) : ∀ (vs : List Value) (o : Nat) (w : World), Keeps S a w → Keeps S a (w.setCells g o vs)
  | [], _, _, h => h
  | v :: vs, o, _, h => keeps_cells hg vs (o + 1) _ (h.setCell (.inl hg) v)
theorem blk_cells {w : World} {b g o : Nat} {t : TypeId} {cs : Array Value} (h : Blk w b t cs) (hne : b ≠ g) (vs : List Value) : Blk (w.setCells g o vs) b t cs :=
  h.keeps (keeps_cells (S := [g]) (by simp) vs o w (Keeps.refl _ _)) (by simp; exact hne)
theorem cell_cells {w : World} {g o : Nat} (vs : List Value) (p : Addr) (hp : p.block ≠ g) : (w.setCells g o vs).cell? p = w.cell? p := World.cell?_setCells_out g vs o w p (fun h _ => absurd h hp)
end La
end Go.Proofs.Ytckindhnhbcgoaa
