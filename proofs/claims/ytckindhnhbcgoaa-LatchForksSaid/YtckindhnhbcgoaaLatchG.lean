/- The reference of latch: open and take of a row. -/
import Derived.Test.YtckindhnhbcgoaaLatchF
import Derived.Deep.Cut
namespace Go.Proofs.Ytckindhnhbcgoaa
open Go.RowKit
namespace La
open Sm
def openX (X : Nat → Int) (n : Nat) : Nat → Int := fun k => if k < n then 0 else X k
def openY (X : Nat → Int) (Y : Nat → Bool) (n : Nat) : Nat → Bool := fun k => if k < n then (Y k || up X k) else Y k
theorem openX_ap (X : Nat → Int) (n k : Nat) : openX X n k = if k < n then 0 else X k := rfl
theorem openY_ap (X : Nat → Int) (Y : Nat → Bool) (n k : Nat) : openY X Y n k = if k < n then (Y k || up X k) else Y k := rfl
theorem updB_at (L : Nat → Bool) (k : Nat) (v : Bool) : updB L k v k = v := by unfold updB; rw [if_pos rfl]
theorem updB_ne (L : Nat → Bool) (k j : Nat) (v : Bool) (h : j ≠ k) : updB L k v j = L j := by unfold updB; rw [if_neg h]
theorem openX_0 (X : Nat → Int) : openX X 0 = X := by funext k; rw [openX_ap, if_neg (by omega)]
theorem openY_0 (X : Nat → Int) (Y : Nat → Bool) : openY X Y 0 = Y := by funext k; rw [openY_ap, if_neg (by omega)]
theorem openX_s (X : Nat → Int) (n : Nat) : openX X (n + 1) = upd (openX X n) n 0 := by
  funext k
  by_cases hk : k = n
  · subst hk; rw [upd_at, openX_ap, if_pos (by omega)]
  · rw [upd_ne _ _ _ _ hk, openX_ap, openX_ap]
    by_cases h1 : k < n
    · rw [if_pos (by omega), if_pos h1]
    · rw [if_neg (by omega), if_neg h1]
theorem openY_s (X : Nat → Int) (Y : Nat → Bool) (n : Nat) : openY X Y (n + 1) = updB (openY X Y n) n (Y n || up X n) := by
  funext k
  by_cases hk : k = n
  · subst hk; rw [updB_at, openY_ap, if_pos (by omega)]
  · rw [updB_ne _ _ _ _ hk, openY_ap, openY_ap]
    by_cases h1 : k < n
    · rw [if_pos (by omega), if_pos h1]
    · rw [if_neg (by omega), if_neg h1]
theorem open_at (X : Nat → Int) (Y : Nat → Bool) (n : Nat) : openX X n n = X n ∧ openY X Y n n = Y n := by
  rw [openX_ap, openY_ap, if_neg (by omega), if_neg (by omega)]; exact ⟨rfl, rfl⟩
theorem rc_open (X : Nat → Int) (Y : Nat → Bool) : rcells (openX X 8) (openY X Y 8) = rcells (fun _ => 0) (fun k => Y k || up X k) := rfl
def IsRowN (X : Nat → Int) (Y : Nat → Bool) (n : Int) (w : World) (e : Ending) (w' : World) : Prop := e = .returned (.tuple #[.agg (rcells X Y), .int .i64 n]) ∧ Below w.heap.size w w'
theorem Two.keep {w wr w1 : World} {g : Nat} {X : Nat → Int} {Y : Nat → Bool} (h : Two w wr g X Y) (hb : Below wr.heap.size wr w1) : Two w w1 g X Y :=
  ⟨Blk.below h.r hb (Blk.lt h.r), h.z.below hb h.z.lt, h.b.trans (hb.mono (Nat.le_of_lt (Blk.lt h.r)))⟩
theorem Two.eight {w wr : World} {g : Nat} {X : Nat → Int} {Y : Nat → Bool} (h : Two w wr g X Y) :
    Two w ((((((((wr.setCell ⟨g, 8, none⟩ (.bool false)).setCell ⟨g, 9, none⟩ (.bool false)).setCell ⟨g, 10, none⟩ (.bool false)).setCell ⟨g, 11, none⟩ (.bool false)).setCell ⟨g, 12, none⟩ (.bool false)).setCell ⟨g, 13, none⟩ (.bool false)).setCell ⟨g, 14, none⟩ (.bool false)).setCell ⟨g, 15, none⟩ (.bool false)) g X (fun _ => false) := by
  have h0 := h.y 0 (by omega) false
  have h1 := h0.y 1 (by omega) false
  have h2 := h1.y 2 (by omega) false
  have h3 := h2.y 3 (by omega) false
  have h4 := h3.y 4 (by omega) false
  have h5 := h4.y 5 (by omega) false
  have h6 := h5.y 6 (by omega) false
  have h7 := h6.y 7 (by omega) false
  exact ⟨Rw.congr h7.r (fun _ _ => rfl) (fun k hk => by rcases La.eight hk with rfl | rfl | rfl | rfl | rfl | rfl | rfl | rfl <;> rfl), h7.z, h7.b⟩
attribute [local irreducible] Rw valK openX openY upd updB up num8
set_option maxRecDepth 100000 in
set_option maxHeartbeats 2000000 in
theorem ropen_any (X : Nat → Int) (Y : Nat → Bool) (w : World) : Calls Try.prog 17 #[.agg (rcells X Y)] w (IsRowN (fun _ => 0) (fun k => Y k || up X k) (num8 (up X)) w) := by
  have h2 := Two.start w X Y
  go_enter Try.func17, Try.ntmps17
  go_wp2_with fail
  generalize (w.alloc (.cells (rcells X Y) 46)).alloc (.cells #[.int .i64 0, .int .i64 0, .int .i64 0, .int .i64 0, .int .i64 0, .int .i64 0, .int .i64 0, .int .i64 0, .bool false, .bool false, .bool false, .bool false, .bool false, .bool false, .bool false, .bool false] 46) = V at *
  generalize hg : w.heap.size = g at *
  have HG := Lib.hid hg
  clear hg
  have HC := Lib.hid (fun V => rlatched_any X Y V)
  refine (HC.out _).mono ?_
  clear HC
  rintro e v1 ⟨rfl, hb⟩
  have h3 := h2.keep hb
  clear h2 hb
  generalize hnn : num8 (up X) = nn at *
  have HNN := Lib.hid hnn
  clear hnn
  have H0 := Lib.hid (And.intro (openX_0 X) (openY_0 X Y))
  go_wp2
  go_loopw [5] (fun i wr => ∃ n : Nat, n ≤ 8 ∧ i = .int .i64 n ∧ Two w wr g (openX X n) (openY X Y n)) (fun i _ => 8 - (intOf i).toNat)
  case atStart => exact ⟨0, by omega, rfl, by rw [H0.out.1, H0.out.2]; exact h3⟩
  case round =>
    clear h3
    obtain ⟨n, hn, rfl, h2⟩ := hrel
    by_cases hlt : n < 8
    · obtain ⟨a1, a2⟩ := open_at X Y n
      have hcx := h2.r.x n hlt
      have hcy := h2.r.y n hlt
      rw [a1] at hcx
      rw [a2] at hcy
      have hf := h2.r.free n
      have hf2 := h2.r.free (8 + n)
      have HT : Hid (∀ b : Bool, b = (Y n || up X n) → Two w ((wr.setCell ⟨g, 8 + n, none⟩ (.bool b)).setCell ⟨g, n, none⟩ (.int .i64 0)) g (openX X (n + 1)) (openY X Y (n + 1))) := Lib.hid fun b hb => by
        subst hb
        rw [openX_s, openY_s]
        exact (h2.y n hlt _).x n hlt 0
      have HU : Hid (up X n = decide (0 < X n)) := Lib.hid (by unfold up; rfl)
      clear h2 a1 a2
      generalize X n = x at *
      cases hb : Y n
      · rw [hb] at hcy HT
        clear hb
        by_cases hx : 0 < x
        · have hd : up X n = true := by rw [HU.out]; exact decide_eq_true hx
          have HT2 := Lib.hid (HT.out true (by rw [hd]; rfl))
          clear HT hd HU
          go_wp2
          go_roundw
          case rel => exact ⟨n + 1, by omega, by go_num, HT2.out⟩
          case measure => simp [intOf]; omega
        · have hd : up X n = false := by rw [HU.out]; exact decide_eq_false hx
          have HT2 := Lib.hid (HT.out false (by rw [hd]; rfl))
          have hxx : decide (0 < x) = false := decide_eq_false hx
          clear HT hd HU hx
          go_wp2
          go_roundw
          case rel => exact ⟨n + 1, by omega, by go_num, HT2.out⟩
          case measure => simp [intOf]; omega
      · rw [hb] at hcy HT
        clear hb
        have HT2 := Lib.hid (HT.out true (by simp))
        clear HT HU
        go_wp2
        go_roundw
        case rel => exact ⟨n + 1, by omega, by go_num, HT2.out⟩
        case measure => simp [intOf]; omega
    · obtain rfl : n = 8 := by omega
      have hR := h2.rb
      obtain ⟨_, hZ, hB⟩ := h2
      have HBB := Lib.hid hB
      clear hB
      have c0 := hR.cell 0
      have d0 := hZ.cell 0
      have c1 := hR.cell 1
      have d1 := hZ.cell 1
      have c2 := hR.cell 2
      have d2 := hZ.cell 2
      have c3 := hR.cell 3
      have d3 := hZ.cell 3
      have c4 := hR.cell 4
      have d4 := hZ.cell 4
      have c5 := hR.cell 5
      have d5 := hZ.cell 5
      have c6 := hR.cell 6
      have d6 := hZ.cell 6
      have c7 := hR.cell 7
      have d7 := hZ.cell 7
      have c8 := hR.cell 8
      have d8 := hZ.cell 8
      have c9 := hR.cell 9
      have d9 := hZ.cell 9
      have c10 := hR.cell 10
      have d10 := hZ.cell 10
      have c11 := hR.cell 11
      have d11 := hZ.cell 11
      have c12 := hR.cell 12
      have d12 := hZ.cell 12
      have c13 := hR.cell 13
      have d13 := hZ.cell 13
      have c14 := hR.cell 14
      have d14 := hZ.cell 14
      have c15 := hR.cell 15
      have d15 := hZ.cell 15
      have hf := hZ.frozen
      have z0 := hZ.lt
      clear hR hZ
      go_wp2
      refine bodyPost_ret (v := .tuple #[.agg (rcells (openX X 8) (openY X Y 8)), .int .i64 nn]) (by simp [results, Try.results17, go_sem, d0, d1, d2, d3, d4, d5, d6, d7, d8, d9, d10, d11, d12, d13, d14, d15]) rfl ⟨by rw [rc_open, HNN.out], ?_⟩
      rw [HG.out]
      repeat (refine Below.setCell ?_ (by simp) _)
      exact HBB.out
set_option maxRecDepth 100000 in
set_option maxHeartbeats 2000000 in
theorem rtake_any (X : Nat → Int) (Y : Nat → Bool) (w : World) : Calls Try.prog 18 #[.agg (rcells X Y)] w (IsRowN X (fun _ => false) (num8 Y) w) := by
  have h2 := Two.start w X Y
  go_enter Try.func18, Try.ntmps18
  go_wp2_with fail
  generalize (w.alloc (.cells (rcells X Y) 46)).alloc (.cells #[.int .i64 0, .int .i64 0, .int .i64 0, .int .i64 0, .int .i64 0, .int .i64 0, .int .i64 0, .int .i64 0, .bool false, .bool false, .bool false, .bool false, .bool false, .bool false, .bool false, .bool false] 46) = V at *
  generalize hg : w.heap.size = g at *
  have HG := Lib.hid hg
  clear hg
  have HC := Lib.hid (fun V => rdelivered_any X Y V)
  refine (HC.out _).mono ?_
  clear HC
  rintro e v1 ⟨rfl, hb⟩
  have h3 := h2.keep hb
  clear h2 hb
  generalize hnn : num8 Y = nn at *
  have HNN := Lib.hid hnn
  clear hnn
  have h4 := h3.eight
  have hR := h3.rb
  have hf := hR.frozen
  have c8 := hR.cell 8
  have c9 := hR.cell 9
  have c10 := hR.cell 10
  have c11 := hR.cell 11
  have c12 := hR.cell 12
  have c13 := hR.cell 13
  have c14 := hR.cell 14
  have c15 := hR.cell 15
  clear hR
  go_upto_region 3 with (fail)
  generalize ((((((((v1.setCell ⟨g, 8, none⟩ (.bool false)).setCell ⟨g, 9, none⟩ (.bool false)).setCell ⟨g, 10, none⟩ (.bool false)).setCell ⟨g, 11, none⟩ (.bool false)).setCell ⟨g, 12, none⟩ (.bool false)).setCell ⟨g, 13, none⟩ (.bool false)).setCell ⟨g, 14, none⟩ (.bool false)).setCell ⟨g, 15, none⟩ (.bool false)) = V2 at *
  clear h3 hf c8 c9 c10 c11 c12 c13 c14 c15
  have h2 := h4
  clear h4
  have hR := h2.rb
  obtain ⟨_, hZ, hB⟩ := h2
  have HBB := Lib.hid hB
  clear hB
  have c0 := hR.cell 0
  have d0 := hZ.cell 0
  have c1 := hR.cell 1
  have d1 := hZ.cell 1
  have c2 := hR.cell 2
  have d2 := hZ.cell 2
  have c3 := hR.cell 3
  have d3 := hZ.cell 3
  have c4 := hR.cell 4
  have d4 := hZ.cell 4
  have c5 := hR.cell 5
  have d5 := hZ.cell 5
  have c6 := hR.cell 6
  have d6 := hZ.cell 6
  have c7 := hR.cell 7
  have d7 := hZ.cell 7
  have c8 := hR.cell 8
  have d8 := hZ.cell 8
  have c9 := hR.cell 9
  have d9 := hZ.cell 9
  have c10 := hR.cell 10
  have d10 := hZ.cell 10
  have c11 := hR.cell 11
  have d11 := hZ.cell 11
  have c12 := hR.cell 12
  have d12 := hZ.cell 12
  have c13 := hR.cell 13
  have d13 := hZ.cell 13
  have c14 := hR.cell 14
  have d14 := hZ.cell 14
  have c15 := hR.cell 15
  have d15 := hZ.cell 15
  have hf := hZ.frozen
  have z0 := hZ.lt
  clear hR hZ
  go_wp2
  refine bodyPost_ret (v := .tuple #[.agg (rcells X (fun _ => false)), .int .i64 nn]) (by simp [results, Try.results18, go_sem, d0, d1, d2, d3, d4, d5, d6, d7, d8, d9, d10, d11, d12, d13, d14, d15]) rfl ⟨by rw [HNN.out], ?_⟩
  rw [HG.out]
  repeat (refine Below.setCell ?_ (by simp) _)
  exact HBB.out
end La
end Go.Proofs.Ytckindhnhbcgoaa
