/- The reference of latch: a row's raise, open and take. -/
import Derived.Test.YtckindhnhbcgoaaLatchD
namespace Go.Proofs.Ytckindhnhbcgoaa
open Go.RowKit
namespace La
open Sm
/-- A row's cells: how often each bit was raised; whether it is delivered. -/
abbrev rcells (X : Nat → Int) (Y : Nat → Bool) : Array Value := #[.int .i64 (X 0), .int .i64 (X 1), .int .i64 (X 2), .int .i64 (X 3), .int .i64 (X 4), .int .i64 (X 5), .int .i64 (X 6), .int .i64 (X 7), .bool (Y 0), .bool (Y 1), .bool (Y 2), .bool (Y 3), .bool (Y 4), .bool (Y 5), .bool (Y 6), .bool (Y 7)]
def Rw (w : World) (g : Nat) (X : Nat → Int) (Y : Nat → Bool) : Prop := Blk w g 46 (rcells X Y)
section
variable {w w' : World} {g : Nat} {X : Nat → Int} {Y : Nat → Bool} {S : List Nat}
theorem Rw.x (h : Rw w g X Y) (k : Nat) (hk : k < 8) : w.cell? ⟨g, k, none⟩ = some (.int .i64 (X k)) := by
  rcases eight hk with rfl | rfl | rfl | rfl | rfl | rfl | rfl | rfl <;> exact Blk.cell h _
theorem Rw.y (h : Rw w g X Y) (k : Nat) (hk : k < 8) : w.cell? ⟨g, 8 + k, none⟩ = some (.bool (Y k)) := by
  rcases eight hk with rfl | rfl | rfl | rfl | rfl | rfl | rfl | rfl <;> exact Blk.cell h _
theorem Rw.free (h : Rw w g X Y) (i : Nat) : w.frozen? ⟨g, i, none⟩ = false := Blk.frozen h i
theorem upd_at (L : Nat → Int) (k : Nat) (v : Int) : upd L k v k = v := by unfold upd; rw [if_pos rfl]
theorem upd_ne (L : Nat → Int) (k j : Nat) (v : Int) (h : j ≠ k) : upd L k v j = L j := by unfold upd; rw [if_neg h]
def updB (Y : Nat → Bool) (k : Nat) (v : Bool) : Nat → Bool := fun i => if i = k then v else Y i
theorem Rw.setX (h : Rw w g X Y) (k : Nat) (hk : k < 8) (v : Int) : Rw (w.setCell ⟨g, k, none⟩ (.int .i64 v)) g (upd X k v) Y := by
  have := Blk.set_ h k (.int .i64 v)
  unfold Rw
  rcases eight hk with rfl | rfl | rfl | rfl | rfl | rfl | rfl | rfl <;> exact this
theorem Rw.setY (h : Rw w g X Y) (k : Nat) (hk : k < 8) (v : Bool) : Rw (w.setCell ⟨g, 8 + k, none⟩ (.bool v)) g X (updB Y k v) := by
  have := Blk.set_ h (8 + k) (.bool v)
  unfold Rw
  rcases eight hk with rfl | rfl | rfl | rfl | rfl | rfl | rfl | rfl <;> exact this
theorem Rw.lt (h : Rw w g X Y) : g < w.heap.size := Blk.lt h
theorem Rw.alloc (h : Rw w g X Y) (o : Obj) : Rw (w.alloc o) g X Y := Blk.alloc h o
end
/-- What raising makes of a row. -/
def raiseX (x : Int) (X : Nat → Int) : Nat → Int := fun k => if bitB x k = true then X k + 1 else X k
def raiseK (x : Int) (X : Nat → Int) (n : Nat) : Nat → Int := fun k => if k < n then raiseX x X k else X k
theorem raiseK_0 (x : Int) (X : Nat → Int) : raiseK x X 0 = X := by funext k; unfold raiseK; rw [if_neg (by omega)]
theorem raiseK_ap (x : Int) (X : Nat → Int) (n k : Nat) : raiseK x X n k = if k < n then (if bitB x k = true then X k + 1 else X k) else X k := rfl
theorem raiseK_s (x : Int) (X : Nat → Int) (n : Nat) : raiseK x X (n + 1) = if bitB x n = true then upd (raiseK x X n) n (X n + 1) else raiseK x X n := by
  funext k
  by_cases hb : bitB x n = true
  · rw [if_pos hb]
    by_cases hk : k = n
    · subst hk; rw [upd_at, raiseK_ap, if_pos (by omega), if_pos hb]
    · rw [upd_ne _ _ _ _ hk, raiseK_ap, raiseK_ap]
      by_cases h1 : k < n
      · rw [if_pos (by omega), if_pos h1]
      · rw [if_neg (by omega), if_neg h1]
  · rw [if_neg hb, raiseK_ap, raiseK_ap]
    by_cases hk : k = n
    · subst hk; rw [if_pos (by omega), if_neg hb, if_neg (by omega)]
    · by_cases h1 : k < n
      · rw [if_pos (by omega), if_pos h1]
      · rw [if_neg (by omega), if_neg h1]
theorem rc_raise (x : Int) (X : Nat → Int) (Y : Nat → Bool) : rcells (raiseK x X 8) Y = rcells (raiseX x X) Y := rfl
theorem raiseK_at (x : Int) (X : Nat → Int) (n : Nat) : raiseK x X n n = X n := by unfold raiseK; rw [if_neg (by omega)]
theorem Rw.congr {w : World} {g : Nat} {X X' : Nat → Int} {Y Y' : Nat → Bool} (h : Rw w g X Y) (hX : ∀ k, k < 8 → X k = X' k) (hY : ∀ k, k < 8 → Y k = Y' k) : Rw w g X' Y' := by
  unfold Rw rcells at h ⊢
  rw [← hX 0 (by omega), ← hX 1 (by omega), ← hX 2 (by omega), ← hX 3 (by omega), ← hX 4 (by omega), ← hX 5 (by omega), ← hX 6 (by omega), ← hX 7 (by omega),
    ← hY 0 (by omega), ← hY 1 (by omega), ← hY 2 (by omega), ← hY 3 (by omega), ← hY 4 (by omega), ← hY 5 (by omega), ← hY 6 (by omega), ← hY 7 (by omega)]
  exact h
def IsRow_ (X : Nat → Int) (Y : Nat → Bool) (w : World) (e : Ending) (w' : World) : Prop := e = .returned (.agg (rcells X Y)) ∧ Below w.heap.size w w'
/-- A row's block, and the result's. -/
structure Two (w wr : World) (g : Nat) (X : Nat → Int) (Y : Nat → Bool) : Prop where
  r : Rw wr g X Y
  z : Blk wr (g + 1) 46 #[.int .i64 0, .int .i64 0, .int .i64 0, .int .i64 0, .int .i64 0, .int .i64 0, .int .i64 0, .int .i64 0, .bool false, .bool false, .bool false, .bool false, .bool false, .bool false, .bool false, .bool false]
  b : Below g w wr
theorem Two.start (w : World) (X : Nat → Int) (Y : Nat → Bool) : Two w ((w.alloc (.cells (rcells X Y) 46)).alloc (.cells #[.int .i64 0, .int .i64 0, .int .i64 0, .int .i64 0, .int .i64 0, .int .i64 0, .int .i64 0, .int .i64 0, .bool false, .bool false, .bool false, .bool false, .bool false, .bool false, .bool false, .bool false] 46)) w.heap.size X Y :=
  ⟨(Blk.new _ _ _).alloc _, by simpa using Blk.new (w.alloc (.cells (rcells X Y) 46)) 46 #[.int .i64 0, .int .i64 0, .int .i64 0, .int .i64 0, .int .i64 0, .int .i64 0, .int .i64 0, .int .i64 0, .bool false, .bool false, .bool false, .bool false, .bool false, .bool false, .bool false, .bool false], ((Below.refl _ w).alloc (Nat.le_refl _) _).alloc (by simp) _⟩
theorem Two.x {w wr : World} {g : Nat} {X : Nat → Int} {Y : Nat → Bool} (h : Two w wr g X Y) (k : Nat) (hk : k < 8) (v : Int) : Two w (wr.setCell ⟨g, k, none⟩ (.int .i64 v)) g (upd X k v) Y :=
  ⟨h.r.setX k hk v, h.z.far (by simp) _, h.b.setCell (by simp) _⟩
theorem Two.y {w wr : World} {g : Nat} {X : Nat → Int} {Y : Nat → Bool} (h : Two w wr g X Y) (k : Nat) (hk : k < 8) (v : Bool) : Two w (wr.setCell ⟨g, 8 + k, none⟩ (.bool v)) g X (updB Y k v) :=
  ⟨h.r.setY k hk v, h.z.far (by simp) _, h.b.setCell (by simp) _⟩
theorem Two.all {w wr : World} {g : Nat} {X : Nat → Int} {Y : Nat → Bool} (h : Two w wr g X Y) : ∀ j, wr.cell? ⟨g, j, none⟩ = (rcells X Y)[j]? := fun j => Blk.cell h.r j
theorem Two.rb {w wr : World} {g : Nat} {X : Nat → Int} {Y : Nat → Bool} (h : Two w wr g X Y) : Blk wr g 46 (rcells X Y) := h.r
attribute [local irreducible] Rw bitB raiseK raiseX upd updB
set_option maxRecDepth 100000 in
set_option maxHeartbeats 1000000 in
theorem rraise_any (x : Int) (X : Nat → Int) (Y : Nat → Bool) (w : World) (h0 : 0 ≤ x) (h1 : x ≤ 255) (hX : ∀ k, k < 8 → 0 ≤ X k ∧ X k ≤ 1000) :
    Calls Try.prog 16 #[.agg (rcells X Y), .int .i64 x] w (IsRow_ (raiseX x X) Y w) := by
  have HX := Lib.hid hX
  clear hX
  have h2 := Two.start w X Y
  rw [← raiseK_0 x X] at h2
  go_enter Try.func16, Try.ntmps16
  go_wp2
  rw [← raiseK_0 x X]
  generalize (w.alloc (.cells (rcells (raiseK x X 0) Y) 46)).alloc (.cells #[.int .i64 0, .int .i64 0, .int .i64 0, .int .i64 0, .int .i64 0, .int .i64 0, .int .i64 0, .int .i64 0, .bool false, .bool false, .bool false, .bool false, .bool false, .bool false, .bool false, .bool false] 46) = V at *
  generalize hg : w.heap.size = g at *
  have HG := Lib.hid hg
  clear hg
  go_loopw [5] (fun i wr => ∃ n : Nat, n ≤ 8 ∧ i = .int .i64 n ∧ Two w wr g (raiseK x X n) Y) (fun i _ => 8 - (intOf i).toNat)
  case atStart => exact ⟨0, by omega, rfl, h2⟩
  case round =>
    clear h2
    obtain ⟨n, hn, rfl, h2⟩ := hrel
    by_cases hlt : n < 8
    · have HC := Lib.hid (fun V => bit_any x n V h0 h1 (by omega))
      obtain ⟨x0, x1⟩ := HX.out n hlt
      have HS := Lib.hid (raiseK_s x X n)
      have hc := h2.r.x n hlt
      have hf := h2.r.free n
      rw [raiseK_at] at hc
      have HT := Lib.hid h2
      clear h2
      cases hb : bitB x n
      · rw [hb] at HS HC
        have HS' := Lib.hid (HS.out.trans (if_neg (by decide)))
        clear HS hb
        go_wp2_with fail
        refine (HC.out _).mono ?_
        rintro e v1 ⟨rfl, rfl⟩
        clear HC
        go_wp2
        go_roundw
        case rel => exact ⟨n + 1, by omega, by go_num, by rw [HS'.out]; exact HT.out⟩
        case measure => simp [intOf]; omega
      · rw [hb] at HS HC
        have HS' := Lib.hid (HS.out.trans (if_pos rfl))
        clear HS hb
        go_wp2_with fail
        refine (HC.out _).mono ?_
        rintro e v1 ⟨rfl, rfl⟩
        clear HC
        have HT' := Lib.hid (HT.out.x n hlt (X n + 1))
        go_wp2
        go_roundw
        case rel => exact ⟨n + 1, by omega, by go_num, by rw [HS'.out]; exact HT'.out⟩
        case measure => simp [intOf]; omega
    · obtain rfl : n = 8 := by omega
      have hR := h2.rb
      obtain ⟨_, hZ, hB⟩ := h2
      have HBB := Lib.hid hB
      clear hB
      have c0 := hR.cell 0
      have c1 := hR.cell 1
      have c2 := hR.cell 2
      have c3 := hR.cell 3
      have c4 := hR.cell 4
      have c5 := hR.cell 5
      have c6 := hR.cell 6
      have c7 := hR.cell 7
      have c8 := hR.cell 8
      have c9 := hR.cell 9
      have c10 := hR.cell 10
      have c11 := hR.cell 11
      have c12 := hR.cell 12
      have c13 := hR.cell 13
      have c14 := hR.cell 14
      have c15 := hR.cell 15
      have d0 := hZ.cell 0
      have d1 := hZ.cell 1
      have d2 := hZ.cell 2
      have d3 := hZ.cell 3
      have d4 := hZ.cell 4
      have d5 := hZ.cell 5
      have d6 := hZ.cell 6
      have d7 := hZ.cell 7
      have d8 := hZ.cell 8
      have d9 := hZ.cell 9
      have d10 := hZ.cell 10
      have d11 := hZ.cell 11
      have d12 := hZ.cell 12
      have d13 := hZ.cell 13
      have d14 := hZ.cell 14
      have d15 := hZ.cell 15
      have hf := hZ.frozen
      have z0 := hZ.lt
      have HZ := Lib.hid hZ
      clear hR hZ
      go_wp2
      refine bodyPost_ret (v := .agg (rcells (raiseK x X 8) Y)) (by simp [results, Try.results16, go_sem, d0, d1, d2, d3, d4, d5, d6, d7, d8, d9, d10, d11, d12, d13, d14, d15]) rfl ⟨by rw [rc_raise], ?_⟩
      rw [HG.out]
      repeat (refine Below.setCell ?_ (by simp) _)
      exact HBB.out
end La
end Go.Proofs.Ytckindhnhbcgoaa
