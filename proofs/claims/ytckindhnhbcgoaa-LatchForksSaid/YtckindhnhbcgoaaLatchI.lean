/- The law's step: a deed on the board and on the reference's rows; they answer alike and stay alike. -/
import Derived.Test.YtckindhnhbcgoaaLatchH
import Derived.Test.YtckindhnhbcgoaaReg
namespace Go.Proofs.Ytckindhnhbcgoaa
open Go.RowKit
namespace La
open Sm
/-- Board and rows hold the same. -/
def Sync (n : Nat) (m : Int) (L D : Nat → Int) (X : Nat → Nat → Int) (Y : Nat → Nat → Bool) : Prop :=
  ∀ i, i < n → L i = num8 (up (X i)) ∧ D i = num8 (Y i) ∧ ∀ j, j < 8 → 0 ≤ X i j ∧ X i j ≤ m
theorem num8_congr (p q : Nat → Bool) (h : ∀ j, j < 8 → p j = q j) : num8 p = num8 q := by unfold num8; rw [valK_congr p q 8 h]
theorem up_raise (x : Int) (X : Nat → Int) (hx : 0 ≤ x ∧ x ≤ 255) (hX : ∀ j, j < 8 → 0 ≤ X j) : bits .or .i64 (num8 (up X)) x = num8 (up (raiseX x X)) := by
  have := num8_or (up X) (bitB x)
  rw [num8_of x hx] at this
  rw [this]
  refine num8_congr _ _ fun j hj => ?_
  have h0 := hX j hj
  unfold up raiseX
  by_cases hb : bitB x j = true
  · rw [if_pos hb, hb, decide_eq_true (show 0 < X j + 1 by omega)]; simp
  · rw [if_neg hb]; simp [hb]
theorem up_zero : num8 (up fun _ => 0) = 0 := by decide
theorem Sync.more {n : Nat} {m : Int} {L D : Nat → Int} {X : Nat → Nat → Int} {Y : Nat → Nat → Bool} (h : Sync n m L D X Y) : Sync n (m + 1) L D X Y := fun i hi => by
  obtain ⟨h1, h2, h3⟩ := h i hi
  exact ⟨h1, h2, fun j hj => by have := h3 j hj; omega⟩
section
variable {n k : Nat} {m : Int} {L D : Nat → Int} {X : Nat → Nat → Int} {Y : Nat → Nat → Bool}
theorem Sync.raise (h : Sync n m L D X Y) (hk : k < n) (x : Int) (hx : 0 ≤ x ∧ x ≤ 255) :
    Sync n (m + 1) (upd L k (bits .or .i64 (L k) x)) D (fun i => if i = k then raiseX x (X k) else X i) (fun i => if i = k then Y k else Y i) := fun i hi => by
  obtain ⟨h1, h2, h3⟩ := h i hi
  by_cases hik : i = k
  · subst hik
    simp only [if_true]
    rw [upd_at, h1]
    refine ⟨up_raise x (X i) hx fun j hj => (h3 j hj).1, h2, fun j hj => ?_⟩
    have := h3 j hj
    unfold raiseX
    split <;> omega
  · simp only [if_neg hik]
    rw [upd_ne _ _ _ _ hik]
    exact ⟨h1, h2, fun j hj => by have := h3 j hj; omega⟩
theorem Sync.open_ (h : Sync n m L D X Y) (hm : 0 ≤ m) (hk : k < n) :
    Sync n (m + 1) (upd L k 0) (upd D k (bits .or .i64 (D k) (L k))) (fun i => if i = k then (fun _ => 0) else X i) (fun i => if i = k then (fun j => Y k j || up (X k) j) else Y i) := fun i hi => by
  obtain ⟨h1, h2, h3⟩ := h i hi
  by_cases hik : i = k
  · subst hik
    simp only [if_true]
    rw [upd_at, upd_at, h1, h2, num8_or]
    exact ⟨up_zero.symm, rfl, fun j hj => by omega⟩
  · simp only [if_neg hik]
    rw [upd_ne _ _ _ _ hik, upd_ne _ _ _ _ hik]
    exact ⟨h1, h2, fun j hj => by have := h3 j hj; omega⟩
theorem Sync.take_ (h : Sync n m L D X Y) (hk : k < n) :
    Sync n (m + 1) L (upd D k 0) (fun i => if i = k then X k else X i) (fun i => if i = k then (fun _ => false) else Y i) := fun i hi => by
  obtain ⟨h1, h2, h3⟩ := h i hi
  by_cases hik : i = k
  · subst hik
    simp only [if_true]
    rw [upd_at]
    exact ⟨h1, num8_zero.symm, fun j hj => by have := h3 j hj; omega⟩
  · simp only [if_neg hik]
    rw [upd_ne _ _ _ _ hik]
    exact ⟨h1, h2, fun j hj => by have := h3 j hj; omega⟩
end
def IsStep (gb gr n : Nat) (m : Int) (w : World) (e : Ending) (w' : World) : Prop :=
  e = .returned (.bool true) ∧ ∃ L D X Y, Bd w' gb L D n ∧ Rows w' gr n X Y ∧ Sync n m L D X Y ∧ Keeps [gb, gr] w w'
theorem bd_of_below {w w' : World} {g : Nat} {L D : Nat → Int} {n : Int} (h : Bd w g L D n) (hb : Below w.heap.size w w') : Bd w' g L D n := Blk.below h hb (Blk.lt h)
theorem rows_of_below {w w' : World} {g n : Nat} {X : Nat → Nat → Int} {Y : Nat → Nat → Bool} (h : Rows w g n X Y) (hb : Below w.heap.size w w') : Rows w' g n X Y := h.keeps (Keeps.of_below hb []) (by simp)
theorem bd_drew {w : World} {g : Nat} {L D : Nat → Int} {n : Int} (h : Bd w g L D n) : Bd w.drew g L D n := h
theorem bd_store {w : World} {g gr o : Nat} {L D : Nat → Int} {n : Int} (hg : g ≠ gr) (vs : List Value) (h : Bd w g L D n) : Bd (w.setCells gr o vs) g L D n := blk_cells h hg vs
theorem keep_cell {w : World} {p q : Addr} {v u : Value} (h : p.block ≠ q.block) (hq : w.cell? q = some u) : (w.setCell p v).cell? q = some u := (World.cell?_setCell_other w p q v (fun e => h (by rw [e]))).trans hq
theorem isO_yes {n k : Nat} (hk : k < n) : isO n ((k : Int) + 1) = true := decide_eq_true (by omega)
theorem at_k (k : Nat) : at_ ((k : Int) + 1) = k := by unfold at_; omega
attribute [local irreducible] Bd Sync oL oD oV rL rE raiseX up num8 upd isO
set_option maxRecDepth 100000 in
set_option maxHeartbeats 2000000 in
theorem no_raise0 (gb gr n c : Nat) (m : Int) (ow x : Int) (L D : Nat → Int) (X : Nat → Nat → Int) (Y : Nat → Nat → Bool) (w : World) (hA : Bd w gb L D n) (hR : Rows w gr n X Y) (hS : Sync n m L D X Y) (hn : n ≤ 8) (hg : gb ≠ gr) (ho : ow < 1) :
    Calls Try.prog 7 #[.pointer (some ⟨gb, 0, none⟩), .slice (some ⟨gr, 0, none⟩) n c, .agg #[.int .i64 0, .int .i64 ow, .int .i64 x]] w (IsStep gb gr n (m + 1) w) := by
  have HO : Hid (isO n ow = false) := Lib.hid (by unfold isO; simp; omega)
  have hD : Blk (w.alloc (.cells #[.int .i64 0, .int .i64 ow, .int .i64 x] 28)) w.heap.size 28 #[.int .i64 0, .int .i64 ow, .int .i64 x] := Blk.new _ _ _
  have hA' := hA.alloc (.cells #[.int .i64 0, .int .i64 ow, .int .i64 x] 28)
  have hR' := hR.alloc (.cells #[.int .i64 0, .int .i64 ow, .int .i64 x] 28)
  have hK : Keeps [gb, gr] w (w.alloc (.cells #[.int .i64 0, .int .i64 ow, .int .i64 x] 28)) := (Keeps.refl _ _).alloc _
  have hgb := hA.lt
  have hgr := hR.lt
  clear hA hR
  go_enter Try.func7, Try.ntmps7
  go_wp2_with fail
  generalize w.alloc (.cells #[.int .i64 0, .int .i64 ow, .int .i64 x] 28) = V at *
  generalize w.heap.size = gd at *
  have q0 := hD.cell 0
  have q1 := hD.cell 1
  have q2 := hD.cell 2
  have HC := Lib.hid (raise_any gb n ow x L D V hA' (by omega))
  have HE1 : Hid (rE n ow x = 7) := Lib.hid (by unfold rE; rw [if_neg (by rw [HO.out]; decide)])
  have HE2 : Hid (rL n ow x L = L) := Lib.hid (by unfold rL; rw [if_neg (fun h => by rw [HO.out] at h; cases h.1)])
  rw [HE1.out, HE2.out] at HC
  clear HE1 HE2 HO
  go_wp2_with fail
  refine HC.out.mono ?_
  clear HC
  rintro e v1 ⟨rfl, hA1, j1⟩
  have hR1 := hR'.keeps j1 (by simpa using hg.symm)
  have hD1 := hD.keeps j1 (by simp; omega)
  have hK1 := hK.next j1 (by simp)
  clear q0 q1 q2 hA' hR' hD hK j1
  have q0 := hD1.cell 0
  have q1 := hD1.cell 1
  have q2 := hD1.cell 2
  clear hD1
  go_wp2
  go_ret
  exact ⟨rfl, _, _, _, _, hA1, hR1, hS.more, hK1⟩
set_option maxRecDepth 100000 in
set_option maxHeartbeats 2000000 in
theorem no_raise1 (gb gr n c : Nat) (m : Int) (ow x : Int) (L D : Nat → Int) (X : Nat → Nat → Int) (Y : Nat → Nat → Bool) (w : World) (hA : Bd w gb L D n) (hR : Rows w gr n X Y) (hS : Sync n m L D X Y) (hn : n ≤ 8) (hg : gb ≠ gr) (ho : (n : Int) < ow) :
    Calls Try.prog 7 #[.pointer (some ⟨gb, 0, none⟩), .slice (some ⟨gr, 0, none⟩) n c, .agg #[.int .i64 0, .int .i64 ow, .int .i64 x]] w (IsStep gb gr n (m + 1) w) := by
  have HO : Hid (isO n ow = false) := Lib.hid (by unfold isO; simp; omega)
  by_cases ho' : 1 ≤ ow
  · have hdec : decide (ow ≤ (n : Int)) = false := by simpa using ho
    have hD : Blk (w.alloc (.cells #[.int .i64 0, .int .i64 ow, .int .i64 x] 28)) w.heap.size 28 #[.int .i64 0, .int .i64 ow, .int .i64 x] := Blk.new _ _ _
    have hA' := hA.alloc (.cells #[.int .i64 0, .int .i64 ow, .int .i64 x] 28)
    have hR' := hR.alloc (.cells #[.int .i64 0, .int .i64 ow, .int .i64 x] 28)
    have hK : Keeps [gb, gr] w (w.alloc (.cells #[.int .i64 0, .int .i64 ow, .int .i64 x] 28)) := (Keeps.refl _ _).alloc _
    have hgb := hA.lt
    have hgr := hR.lt
    clear hA hR
    go_enter Try.func7, Try.ntmps7
    go_wp2_with fail
    generalize w.alloc (.cells #[.int .i64 0, .int .i64 ow, .int .i64 x] 28) = V at *
    generalize w.heap.size = gd at *
    have q0 := hD.cell 0
    have q1 := hD.cell 1
    have q2 := hD.cell 2
    have HC := Lib.hid (raise_any gb n ow x L D V hA' (by omega))
    have HE1 : Hid (rE n ow x = 7) := Lib.hid (by unfold rE; rw [if_neg (by rw [HO.out]; decide)])
    have HE2 : Hid (rL n ow x L = L) := Lib.hid (by unfold rL; rw [if_neg (fun h => by rw [HO.out] at h; cases h.1)])
    rw [HE1.out, HE2.out] at HC
    clear HE1 HE2 HO
    go_wp2_with fail
    refine HC.out.mono ?_
    clear HC
    rintro e v1 ⟨rfl, hA1, j1⟩
    have hR1 := hR'.keeps j1 (by simpa using hg.symm)
    have hD1 := hD.keeps j1 (by simp; omega)
    have hK1 := hK.next j1 (by simp)
    clear q0 q1 q2 hA' hR' hD hK j1
    have q0 := hD1.cell 0
    have q1 := hD1.cell 1
    have q2 := hD1.cell 2
    clear hD1
    go_wp2
    go_ret
    exact ⟨rfl, _, _, _, _, hA1, hR1, hS.more, hK1⟩
  · exact no_raise0 gb gr n c m ow x L D X Y w hA hR hS hn hg (by omega)
set_option maxRecDepth 100000 in
set_option maxHeartbeats 2000000 in
theorem no_open0 (gb gr n c : Nat) (m : Int) (ow x : Int) (L D : Nat → Int) (X : Nat → Nat → Int) (Y : Nat → Nat → Bool) (w : World) (hA : Bd w gb L D n) (hR : Rows w gr n X Y) (hS : Sync n m L D X Y) (hn : n ≤ 8) (hg : gb ≠ gr) (ho : ow < 1) :
    Calls Try.prog 7 #[.pointer (some ⟨gb, 0, none⟩), .slice (some ⟨gr, 0, none⟩) n c, .agg #[.int .i64 1, .int .i64 ow, .int .i64 x]] w (IsStep gb gr n (m + 1) w) := by
  have HO : Hid (isO n ow = false) := Lib.hid (by unfold isO; simp; omega)
  have hD : Blk (w.alloc (.cells #[.int .i64 1, .int .i64 ow, .int .i64 x] 28)) w.heap.size 28 #[.int .i64 1, .int .i64 ow, .int .i64 x] := Blk.new _ _ _
  have hA' := hA.alloc (.cells #[.int .i64 1, .int .i64 ow, .int .i64 x] 28)
  have hR' := hR.alloc (.cells #[.int .i64 1, .int .i64 ow, .int .i64 x] 28)
  have hK : Keeps [gb, gr] w (w.alloc (.cells #[.int .i64 1, .int .i64 ow, .int .i64 x] 28)) := (Keeps.refl _ _).alloc _
  have hgb := hA.lt
  have hgr := hR.lt
  clear hA hR
  go_enter Try.func7, Try.ntmps7
  go_wp2_with fail
  generalize w.alloc (.cells #[.int .i64 1, .int .i64 ow, .int .i64 x] 28) = V at *
  generalize w.heap.size = gd at *
  have q0 := hD.cell 0
  have q1 := hD.cell 1
  have q2 := hD.cell 2
  have HC := Lib.hid (open_any gb n ow L D V hA' (by omega))
  have HE1 : Hid (oV n ow L = 0) := Lib.hid (by unfold oV; rw [if_neg (by rw [HO.out]; decide)])
  have HE2 : Hid (oL n ow L = L) := Lib.hid (by unfold oL; rw [if_neg (by rw [HO.out]; decide)])
  have HE3 : Hid (oD n ow L D = D) := Lib.hid (by unfold oD; rw [if_neg (by rw [HO.out]; decide)])
  rw [HE1.out, HE2.out, HE3.out] at HC
  clear HE1 HE2 HE3 HO
  go_wp2_with fail
  refine HC.out.mono ?_
  clear HC
  rintro e v1 ⟨rfl, hA1, j1⟩
  have hR1 := hR'.keeps j1 (by simpa using hg.symm)
  have hD1 := hD.keeps j1 (by simp; omega)
  have hK1 := hK.next j1 (by simp)
  clear q0 q1 q2 hA' hR' hD hK j1
  have q0 := hD1.cell 0
  have q1 := hD1.cell 1
  have q2 := hD1.cell 2
  clear hD1
  go_wp2
  go_ret
  exact ⟨rfl, _, _, _, _, hA1, hR1, hS.more, hK1⟩
set_option maxRecDepth 100000 in
set_option maxHeartbeats 2000000 in
theorem no_open1 (gb gr n c : Nat) (m : Int) (ow x : Int) (L D : Nat → Int) (X : Nat → Nat → Int) (Y : Nat → Nat → Bool) (w : World) (hA : Bd w gb L D n) (hR : Rows w gr n X Y) (hS : Sync n m L D X Y) (hn : n ≤ 8) (hg : gb ≠ gr) (ho : (n : Int) < ow) :
    Calls Try.prog 7 #[.pointer (some ⟨gb, 0, none⟩), .slice (some ⟨gr, 0, none⟩) n c, .agg #[.int .i64 1, .int .i64 ow, .int .i64 x]] w (IsStep gb gr n (m + 1) w) := by
  have HO : Hid (isO n ow = false) := Lib.hid (by unfold isO; simp; omega)
  by_cases ho' : 1 ≤ ow
  · have hdec : decide (ow ≤ (n : Int)) = false := by simpa using ho
    have hD : Blk (w.alloc (.cells #[.int .i64 1, .int .i64 ow, .int .i64 x] 28)) w.heap.size 28 #[.int .i64 1, .int .i64 ow, .int .i64 x] := Blk.new _ _ _
    have hA' := hA.alloc (.cells #[.int .i64 1, .int .i64 ow, .int .i64 x] 28)
    have hR' := hR.alloc (.cells #[.int .i64 1, .int .i64 ow, .int .i64 x] 28)
    have hK : Keeps [gb, gr] w (w.alloc (.cells #[.int .i64 1, .int .i64 ow, .int .i64 x] 28)) := (Keeps.refl _ _).alloc _
    have hgb := hA.lt
    have hgr := hR.lt
    clear hA hR
    go_enter Try.func7, Try.ntmps7
    go_wp2_with fail
    generalize w.alloc (.cells #[.int .i64 1, .int .i64 ow, .int .i64 x] 28) = V at *
    generalize w.heap.size = gd at *
    have q0 := hD.cell 0
    have q1 := hD.cell 1
    have q2 := hD.cell 2
    have HC := Lib.hid (open_any gb n ow L D V hA' (by omega))
    have HE1 : Hid (oV n ow L = 0) := Lib.hid (by unfold oV; rw [if_neg (by rw [HO.out]; decide)])
    have HE2 : Hid (oL n ow L = L) := Lib.hid (by unfold oL; rw [if_neg (by rw [HO.out]; decide)])
    have HE3 : Hid (oD n ow L D = D) := Lib.hid (by unfold oD; rw [if_neg (by rw [HO.out]; decide)])
    rw [HE1.out, HE2.out, HE3.out] at HC
    clear HE1 HE2 HE3 HO
    go_wp2_with fail
    refine HC.out.mono ?_
    clear HC
    rintro e v1 ⟨rfl, hA1, j1⟩
    have hR1 := hR'.keeps j1 (by simpa using hg.symm)
    have hD1 := hD.keeps j1 (by simp; omega)
    have hK1 := hK.next j1 (by simp)
    clear q0 q1 q2 hA' hR' hD hK j1
    have q0 := hD1.cell 0
    have q1 := hD1.cell 1
    have q2 := hD1.cell 2
    clear hD1
    go_wp2
    go_ret
    exact ⟨rfl, _, _, _, _, hA1, hR1, hS.more, hK1⟩
  · exact no_open0 gb gr n c m ow x L D X Y w hA hR hS hn hg (by omega)
set_option maxRecDepth 100000 in
set_option maxHeartbeats 2000000 in
theorem no_take0 (gb gr n c : Nat) (m : Int) (d ow x : Int) (L D : Nat → Int) (X : Nat → Nat → Int) (Y : Nat → Nat → Bool) (w : World) (hA : Bd w gb L D n) (hR : Rows w gr n X Y) (hS : Sync n m L D X Y) (hn : n ≤ 8) (hg : gb ≠ gr) (ho : ow < 1) (hd0 : (d == 0) = false) (hd1 : (d == 1) = false) :
    Calls Try.prog 7 #[.pointer (some ⟨gb, 0, none⟩), .slice (some ⟨gr, 0, none⟩) n c, .agg #[.int .i64 d, .int .i64 ow, .int .i64 x]] w (IsStep gb gr n (m + 1) w) := by
  have HO : Hid (isO n ow = false) := Lib.hid (by unfold isO; simp; omega)
  have hD : Blk (w.alloc (.cells #[.int .i64 d, .int .i64 ow, .int .i64 x] 28)) w.heap.size 28 #[.int .i64 d, .int .i64 ow, .int .i64 x] := Blk.new _ _ _
  have hA' := hA.alloc (.cells #[.int .i64 d, .int .i64 ow, .int .i64 x] 28)
  have hR' := hR.alloc (.cells #[.int .i64 d, .int .i64 ow, .int .i64 x] 28)
  have hK : Keeps [gb, gr] w (w.alloc (.cells #[.int .i64 d, .int .i64 ow, .int .i64 x] 28)) := (Keeps.refl _ _).alloc _
  have hgb := hA.lt
  have hgr := hR.lt
  clear hA hR
  go_enter Try.func7, Try.ntmps7
  go_wp2_with fail
  generalize w.alloc (.cells #[.int .i64 d, .int .i64 ow, .int .i64 x] 28) = V at *
  generalize w.heap.size = gd at *
  have q0 := hD.cell 0
  have q1 := hD.cell 1
  have q2 := hD.cell 2
  have HC := Lib.hid (take_any gb n ow L D V hA' (by omega))
  have HE1 : Hid (oV n ow D = 0) := Lib.hid (by unfold oV; rw [if_neg (by rw [HO.out]; decide)])
  have HE2 : Hid (oL n ow D = D) := Lib.hid (by unfold oL; rw [if_neg (by rw [HO.out]; decide)])
  rw [HE1.out, HE2.out] at HC
  clear HE1 HE2 HO
  go_wp2_with fail
  refine HC.out.mono ?_
  clear HC
  rintro e v1 ⟨rfl, hA1, j1⟩
  have hR1 := hR'.keeps j1 (by simpa using hg.symm)
  have hD1 := hD.keeps j1 (by simp; omega)
  have hK1 := hK.next j1 (by simp)
  clear q0 q1 q2 hA' hR' hD hK j1
  have q0 := hD1.cell 0
  have q1 := hD1.cell 1
  have q2 := hD1.cell 2
  clear hD1
  go_wp2
  go_ret
  exact ⟨rfl, _, _, _, _, hA1, hR1, hS.more, hK1⟩
set_option maxRecDepth 100000 in
set_option maxHeartbeats 2000000 in
theorem no_take1 (gb gr n c : Nat) (m : Int) (d ow x : Int) (L D : Nat → Int) (X : Nat → Nat → Int) (Y : Nat → Nat → Bool) (w : World) (hA : Bd w gb L D n) (hR : Rows w gr n X Y) (hS : Sync n m L D X Y) (hn : n ≤ 8) (hg : gb ≠ gr) (ho : (n : Int) < ow) (hd0 : (d == 0) = false) (hd1 : (d == 1) = false) :
    Calls Try.prog 7 #[.pointer (some ⟨gb, 0, none⟩), .slice (some ⟨gr, 0, none⟩) n c, .agg #[.int .i64 d, .int .i64 ow, .int .i64 x]] w (IsStep gb gr n (m + 1) w) := by
  have HO : Hid (isO n ow = false) := Lib.hid (by unfold isO; simp; omega)
  by_cases ho' : 1 ≤ ow
  · have hdec : decide (ow ≤ (n : Int)) = false := by simpa using ho
    have hD : Blk (w.alloc (.cells #[.int .i64 d, .int .i64 ow, .int .i64 x] 28)) w.heap.size 28 #[.int .i64 d, .int .i64 ow, .int .i64 x] := Blk.new _ _ _
    have hA' := hA.alloc (.cells #[.int .i64 d, .int .i64 ow, .int .i64 x] 28)
    have hR' := hR.alloc (.cells #[.int .i64 d, .int .i64 ow, .int .i64 x] 28)
    have hK : Keeps [gb, gr] w (w.alloc (.cells #[.int .i64 d, .int .i64 ow, .int .i64 x] 28)) := (Keeps.refl _ _).alloc _
    have hgb := hA.lt
    have hgr := hR.lt
    clear hA hR
    go_enter Try.func7, Try.ntmps7
    go_wp2_with fail
    generalize w.alloc (.cells #[.int .i64 d, .int .i64 ow, .int .i64 x] 28) = V at *
    generalize w.heap.size = gd at *
    have q0 := hD.cell 0
    have q1 := hD.cell 1
    have q2 := hD.cell 2
    have HC := Lib.hid (take_any gb n ow L D V hA' (by omega))
    have HE1 : Hid (oV n ow D = 0) := Lib.hid (by unfold oV; rw [if_neg (by rw [HO.out]; decide)])
    have HE2 : Hid (oL n ow D = D) := Lib.hid (by unfold oL; rw [if_neg (by rw [HO.out]; decide)])
    rw [HE1.out, HE2.out] at HC
    clear HE1 HE2 HO
    go_wp2_with fail
    refine HC.out.mono ?_
    clear HC
    rintro e v1 ⟨rfl, hA1, j1⟩
    have hR1 := hR'.keeps j1 (by simpa using hg.symm)
    have hD1 := hD.keeps j1 (by simp; omega)
    have hK1 := hK.next j1 (by simp)
    clear q0 q1 q2 hA' hR' hD hK j1
    have q0 := hD1.cell 0
    have q1 := hD1.cell 1
    have q2 := hD1.cell 2
    clear hD1
    go_wp2
    go_ret
    exact ⟨rfl, _, _, _, _, hA1, hR1, hS.more, hK1⟩
  · exact no_take0 gb gr n c m d ow x L D X Y w hA hR hS hn hg (by omega) hd0 hd1
set_option maxRecDepth 100000 in
set_option maxHeartbeats 2000000 in
theorem bits_0 (gb gr n c : Nat) (m : Int) (x : Int) (L D : Nat → Int) (X : Nat → Nat → Int) (Y : Nat → Nat → Bool) (w : World) (hA : Bd w gb L D n) (hR : Rows w gr n X Y) (hS : Sync n m L D X Y) (hn : n ≤ 8) (hg : gb ≠ gr) (k : Nat) (hk : k < n) (hx : x < 0) :
    Calls Try.prog 7 #[.pointer (some ⟨gb, 0, none⟩), .slice (some ⟨gr, 0, none⟩) n c, .agg #[.int .i64 0, .int .i64 ((k : Int) + 1), .int .i64 x]] w (IsStep gb gr n (m + 1) w) := by
  have hdec : decide ((k : Int) + 1 ≤ (n : Int)) = true := by simp; omega
  have hD : Blk (w.alloc (.cells #[.int .i64 0, .int .i64 ((k : Int) + 1), .int .i64 x] 28)) w.heap.size 28 #[.int .i64 0, .int .i64 ((k : Int) + 1), .int .i64 x] := Blk.new _ _ _
  have hA' := hA.alloc (.cells #[.int .i64 0, .int .i64 ((k : Int) + 1), .int .i64 x] 28)
  have hR' := hR.alloc (.cells #[.int .i64 0, .int .i64 ((k : Int) + 1), .int .i64 x] 28)
  have hK : Keeps [gb, gr] w (w.alloc (.cells #[.int .i64 0, .int .i64 ((k : Int) + 1), .int .i64 x] 28)) := (Keeps.refl _ _).alloc _
  have hgb := hA.lt
  have hgr := hR.lt
  clear hA hR
  go_enter Try.func7, Try.ntmps7
  go_wp2_with fail
  generalize w.alloc (.cells #[.int .i64 0, .int .i64 ((k : Int) + 1), .int .i64 x] 28) = V at *
  generalize w.heap.size = gd at *
  have q0 := hD.cell 0
  have q1 := hD.cell 1
  have q2 := hD.cell 2
  have HC := Lib.hid (raise_any gb n ((k : Int) + 1) x L D V hA' (by omega))
  have HE1 : Hid (rE n ((k : Int) + 1) x = 2) := Lib.hid (by unfold rE; rw [if_pos (isO_yes hk), if_neg (by omega)])
  have HE2 : Hid (rL n ((k : Int) + 1) x L = L) := Lib.hid (by unfold rL; rw [if_neg (by omega)])
  rw [HE1.out, HE2.out] at HC
  clear HE1 HE2
  go_wp2_with fail
  refine HC.out.mono ?_
  clear HC
  rintro e v1 ⟨rfl, hA1, j1⟩
  have hR1 := hR'.keeps j1 (by simpa using hg.symm)
  have hD1 := hD.keeps j1 (by simp; omega)
  have hK1 := hK.next j1 (by simp)
  clear q0 q1 q2 hA' hR' hD hK j1
  have q0 := hD1.cell 0
  have q1 := hD1.cell 1
  have q2 := hD1.cell 2
  clear hD1
  go_wp2
  go_ret
  exact ⟨rfl, _, _, _, _, hA1, hR1, hS.more, hK1⟩
set_option maxRecDepth 100000 in
set_option maxHeartbeats 2000000 in
theorem bits_1 (gb gr n c : Nat) (m : Int) (x : Int) (L D : Nat → Int) (X : Nat → Nat → Int) (Y : Nat → Nat → Bool) (w : World) (hA : Bd w gb L D n) (hR : Rows w gr n X Y) (hS : Sync n m L D X Y) (hn : n ≤ 8) (hg : gb ≠ gr) (k : Nat) (hk : k < n) (hx : 255 < x) :
    Calls Try.prog 7 #[.pointer (some ⟨gb, 0, none⟩), .slice (some ⟨gr, 0, none⟩) n c, .agg #[.int .i64 0, .int .i64 ((k : Int) + 1), .int .i64 x]] w (IsStep gb gr n (m + 1) w) := by
  have hdec : decide ((k : Int) + 1 ≤ (n : Int)) = true := by simp; omega
  have hD : Blk (w.alloc (.cells #[.int .i64 0, .int .i64 ((k : Int) + 1), .int .i64 x] 28)) w.heap.size 28 #[.int .i64 0, .int .i64 ((k : Int) + 1), .int .i64 x] := Blk.new _ _ _
  have hA' := hA.alloc (.cells #[.int .i64 0, .int .i64 ((k : Int) + 1), .int .i64 x] 28)
  have hR' := hR.alloc (.cells #[.int .i64 0, .int .i64 ((k : Int) + 1), .int .i64 x] 28)
  have hK : Keeps [gb, gr] w (w.alloc (.cells #[.int .i64 0, .int .i64 ((k : Int) + 1), .int .i64 x] 28)) := (Keeps.refl _ _).alloc _
  have hgb := hA.lt
  have hgr := hR.lt
  clear hA hR
  go_enter Try.func7, Try.ntmps7
  go_wp2_with fail
  generalize w.alloc (.cells #[.int .i64 0, .int .i64 ((k : Int) + 1), .int .i64 x] 28) = V at *
  generalize w.heap.size = gd at *
  have q0 := hD.cell 0
  have q1 := hD.cell 1
  have q2 := hD.cell 2
  have HC := Lib.hid (raise_any gb n ((k : Int) + 1) x L D V hA' (by omega))
  have HE1 : Hid (rE n ((k : Int) + 1) x = 2) := Lib.hid (by unfold rE; rw [if_pos (isO_yes hk), if_neg (by omega)])
  have HE2 : Hid (rL n ((k : Int) + 1) x L = L) := Lib.hid (by unfold rL; rw [if_neg (by omega)])
  rw [HE1.out, HE2.out] at HC
  clear HE1 HE2
  go_wp2_with fail
  refine HC.out.mono ?_
  clear HC
  rintro e v1 ⟨rfl, hA1, j1⟩
  have hR1 := hR'.keeps j1 (by simpa using hg.symm)
  have hD1 := hD.keeps j1 (by simp; omega)
  have hK1 := hK.next j1 (by simp)
  clear q0 q1 q2 hA' hR' hD hK j1
  have q0 := hD1.cell 0
  have q1 := hD1.cell 1
  have q2 := hD1.cell 2
  clear hD1
  go_wp2
  go_ret
  exact ⟨rfl, _, _, _, _, hA1, hR1, hS.more, hK1⟩
end La
end Go.Proofs.Ytckindhnhbcgoaa
