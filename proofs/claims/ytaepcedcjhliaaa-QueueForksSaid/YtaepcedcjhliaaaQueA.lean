/- A client's queue in memory: its block, the queue of what waits, the row of what is done; New, Len, Put. -/
import Derived.Test.YtaepcedcjhliaaaQrTC
import Derived.Test.YtaepcedcjhliaaaQrTE
import Derived.Test.YtaepcedcjhliaaaApp
namespace Go.Proofs.Ytaepcedcjhliaaa
open Go.RowKit
namespace Qp
open Sm FiT
structure Cl where
  it : It
  st : Int
  n : Int
def clc (x : Cl) : List Value := cs x.it ++ [.int .i64 x.st, .int .i64 x.n]
theorem clc_len (x : Cl) : (clc x).length = 9 := by simp [clc, cs_len]
theorem clc_all (x : Cl) : ∀ u ∈ clc x, u.oneCell' = true := by
  intro u hu
  simp only [clc, List.mem_append, List.mem_cons, List.not_mem_nil, or_false] at hu
  rcases hu with hu | rfl | rfl
  · exact cs_all _ u hu
  · rfl
  · rfl
def flat (dl : List Cl) : List Value := dl.flatMap clc
theorem flat_len (dl : List Cl) : (flat dl).length = dl.length * 9 := by
  induction dl with
  | nil => rfl
  | cons x t ih => simp only [flat, List.flatMap_cons, List.length_append, clc_len, List.length_cons] at ih ⊢; omega
theorem flat_all (dl : List Cl) : ∀ u ∈ flat dl, u.oneCell' = true := by
  intro u hu
  simp only [flat, List.mem_flatMap] at hu
  obtain ⟨x, _, hx⟩ := hu
  exact clc_all x u hx
theorem flat_app (a b : List Cl) : flat (a ++ b) = flat a ++ flat b := by simp [flat]
theorem flat_one (x : Cl) : flat [x] = clc x := by simp [flat]
theorem flat_get (dl : List Cl) : ∀ (i : Nat) (x : Cl), dl[i]? = some x → ∀ j v, (clc x)[j]? = some v → (flat dl)[i * 9 + j]? = some v := by
  induction dl with
  | nil => intro i x h; simp at h
  | cons y t ih =>
    intro i x h j v hv
    have hj : j < 9 := by have := (List.getElem?_eq_some_iff.1 hv).1; rwa [clc_len] at this
    have e : flat (y :: t) = clc y ++ flat t := by simp [flat]
    rw [e]
    rcases i with _ | i
    · simp at h
      subst h
      rw [Nat.zero_mul, Nat.zero_add, List.getElem?_append_left (by rw [clc_len]; exact hj)]
      exact hv
    · simp at h
      rw [List.getElem?_append_right (by rw [clc_len]; omega), clc_len]
      rw [show (i + 1) * 9 + j - 9 = i * 9 + j from by omega]
      exact ih i x h j v hv
/-- What is done, in memory: nil, or a row in block y. -/
def Lst (w : World) (q y : Nat) (a : Option Addr) (c : Nat) (dl : List Cl) : Prop :=
  (a = none ∧ c = 0 ∧ dl = [] ∧ y = q) ∨ (a = some ⟨y, 0, none⟩ ∧ w.ownsRow 0 42 9 (.slice a dl.length c) dl.length (flat dl))
theorem Lst.keeps {w w' : World} {q y c : Nat} {a : Option Addr} {dl : List Cl} {S : List Nat} (h : Lst w q y a c dl) (hk : Keeps S w w') (hy : y ∉ S) : Lst w' q y a c dl := by
  rcases h with h | ⟨rfl, h⟩
  · exact .inl h
  · exact .inr ⟨rfl, ownsRow_keeps h hk (fun k e => by simp [Value.ownBlock] at e; subst e; exact hy)⟩
theorem Lst.lt {w : World} {q y c : Nat} {a : Option Addr} {dl : List Cl} (h : Lst w q y a c dl) (hq : q < w.heap.size) : y < w.heap.size := by
  rcases h with ⟨_, _, _, rfl⟩ | ⟨rfl, h⟩
  · exact hq
  · exact (h.lt y rfl).2
theorem Lst.own {w : World} {q y c : Nat} {a : Option Addr} {dl : List Cl} (h : Lst w q y a c dl) : w.ownsRow 0 42 9 (.slice a dl.length c) dl.length (flat dl) := by
  rcases h with ⟨rfl, rfl, rfl, _⟩ | ⟨rfl, h⟩
  · exact ⟨rfl, .inl ⟨rfl, rfl⟩⟩
  · exact h
theorem Lst.blk {w : World} {q y c : Nat} {a : Option Addr} {dl : List Cl} (h : Lst w q y a c dl) : ∀ k, (Value.slice a dl.length c).ownBlock = some k → k = y := by
  intro k hk
  rcases h with ⟨rfl, rfl, rfl, _⟩ | ⟨rfl, h⟩
  · cases hk
  · simp [Value.ownBlock] at hk; exact hk.symm
/-- A client's queue: its block q, its fifo's g and r, its done row's y. -/
structure Qe (w : World) (q g r y : Nat) (a : Option Addr) (c : Nat) (l : List It) (dl : List Cl) (lim : Int) : Prop where
  b : Blk w q 57 #[.pointer (some ⟨g, 0, none⟩), .slice a dl.length c]
  f : Qu w g r l lim 0
  d : Lst w q y a c dl
  qg : q ≠ g
  qr : q ≠ r
  yg : y ≠ g
  yr : y ≠ r
  hl : ((l.length : Int) + (dl.length : Int)) ≤ lim
  hm : lim ≤ 16
section
variable {w w' : World} {q g r y c : Nat} {a : Option Addr} {l : List It} {dl : List Cl} {lim : Int} {S : List Nat}
theorem Qe.keeps (h : Qe w q g r y a c l dl lim) (hk : Keeps S w w') (hS : ∀ b ∈ S, b ≠ q ∧ b ≠ g ∧ b ≠ r ∧ b ≠ y) : Qe w' q g r y a c l dl lim :=
  ⟨h.b.keeps hk (fun m => (hS _ m).1 rfl), h.f.keeps hk (fun m => (hS _ m).2.1 rfl) (fun m => (hS _ m).2.2.1 rfl), h.d.keeps hk (fun m => (hS _ m).2.2.2 rfl), h.qg, h.qr, h.yg, h.yr, h.hl, h.hm⟩
theorem Qe.kp (h : Qe w q g r y a c l dl lim) (hk : Keeps [] w w') : Qe w' q g r y a c l dl lim := h.keeps hk (by simp)
theorem Qe.lt (h : Qe w q g r y a c l dl lim) : q < w.heap.size ∧ g < w.heap.size ∧ r < w.heap.size ∧ y < w.heap.size := ⟨h.b.lt, h.f.lt.1, h.f.lt.2, h.d.lt h.b.lt⟩
end
/-- What a deed makes of a queue. -/
def To (q g r y : Nat) (l : List It) (dl : List Cl) (lim : Int) (w w' : World) : Prop :=
  ∃ r' y' a' c', Qe w' q g r' y' a' c' l dl lim ∧ Keeps [q, g, r, y] w w' ∧ (r' = r ∨ w.heap.size ≤ r') ∧ (y' = y ∨ y' = q ∨ w.heap.size ≤ y')
theorem To.refl {w w' : World} {q g r y c : Nat} {a : Option Addr} {l : List It} {dl : List Cl} {lim : Int} (h : Qe w q g r y a c l dl lim) (hk : Keeps [] w w') : To q g r y l dl lim w w' :=
  ⟨r, y, a, c, h.kp hk, hk.more (by simp), .inl rfl, .inl rfl⟩
theorem To.from {w w1 w' : World} {q g r y : Nat} {l : List It} {dl : List Cl} {lim : Int} (h : To q g r y l dl lim w1 w') (hk : Keeps [] w w1) : To q g r y l dl lim w w' := by
  obtain ⟨r', y', a', c', h1, h2, h3, h4⟩ := h
  have := hk.size
  exact ⟨r', y', a', c', h1, (hk.more (by simp)).trans h2, by omega, by omega⟩
theorem To.then {w w1 w' : World} {q g r y r1 y1 : Nat} {l : List It} {dl : List Cl} {lim : Int} (h : To q g r1 y1 l dl lim w1 w') (hk : Keeps [q, g, r, y] w w1) (hr : r1 = r ∨ w.heap.size ≤ r1) (hy : y1 = y ∨ y1 = q ∨ w.heap.size ≤ y1) : To q g r y l dl lim w w' := by
  obtain ⟨r', y', a', c', h1, h2, h3, h4⟩ := h
  have := hk.size
  refine ⟨r', y', a', c', h1, hk.next h2 ?_, by omega, by omega⟩
  intro x hx
  simp only [List.mem_cons, List.not_mem_nil, or_false] at hx ⊢
  omega
theorem To.upto {w w1 w' : World} {q g r y : Nat} {l : List It} {dl : List Cl} {lim : Int} (h : To q g r y l dl lim w w1) (hk : Keeps [] w1 w') : To q g r y l dl lim w w' := by
  obtain ⟨r', y', a', c', h1, h2, h3, h4⟩ := h
  exact ⟨r', y', a', c', h1.kp hk, h2.next hk (by simp), h3, h4⟩
def qlim (o : Int) : Int := if o < 0 then 0 else if 16 < o then 16 else o
theorem qlim_min (o : Int) : lim16 (if o ≤ 16 then o else 16) = qlim o := by
  unfold lim16 qlim
  split <;> split <;> (try split) <;> (try split) <;> omega
theorem qlim_bd (o : Int) : 0 ≤ qlim o ∧ qlim o ≤ 16 := by
  unfold qlim
  split
  · omega
  · split <;> omega
theorem new_q (o : Int) (w : World) :
    Calls Try.prog 6 #[.int .i64 o] w fun e w' => ∃ q g, e = .returned (.pointer (some ⟨q, 0, none⟩)) ∧ Qe w' q g g q none 0 [] [] (qlim o) ∧ Keeps [] w w' ∧ w.heap.size ≤ q ∧ w.heap.size ≤ g := by
  have hb := qlim_bd o
  by_cases h : o ≤ 16
  all_goals
    have HN := Lib.hid (fun w => new_any (if o ≤ 16 then o else 16) w)
    rw [qlim_min] at HN
    generalize qlim o = L at *
    first | rw [if_pos h] at HN | rw [if_neg h] at HN
    go_enter Try.func6, Try.ntmps6
    go_wp2_with fail
    refine (HN.out _).mono ?_
    rintro e w1 ⟨rfl, hq, hk⟩
    have hl := hq.lt.1
    have hz := hk.size
    go_wp2
    go_ret
    have hka : Keeps [] w1 (w1.alloc (.cells #[.pointer (some ⟨w.heap.size, 0, none⟩), .slice none 0 0] 57)) := (Keeps.refl _ _).alloc _
    exact ⟨w1.heap.size, w.heap.size, rfl, ⟨Blk.new _ _ _, hq.kp hka, .inl ⟨rfl, rfl, rfl, rfl⟩, by omega, by omega, by omega, by omega, by simpa using hb.1, hb.2⟩, hk.next hka (by simp), hz, Nat.le_refl _⟩
theorem len_q {q g r y c : Nat} {a : Option Addr} {l : List It} {dl : List Cl} {lim : Int} (w : World) (h : Qe w q g r y a c l dl lim) :
    Calls Try.prog 13 #[.pointer (some ⟨q, 0, none⟩)] w (Quiet (.int .i64 ((l.length : Int) + (dl.length : Int))) w) := by
  have HL := Lib.hid (fun m => len_any g r l lim 0 (w.drewN m) ((h.kp (((Keeps.refl [] w).drewN m))).f))
  have c0 : w.cell? ⟨q, 0, none⟩ = some (.pointer (some ⟨g, 0, none⟩)) := h.b.cell 0
  have c1 : w.cell? ⟨q, 1, none⟩ = some (.slice a dl.length c) := h.b.cell 1
  have hl := h.hl
  have hm := h.hm
  clear h
  generalize hn : l.length = n at *
  generalize hd : dl.length = d at *
  have hs : IntKind.i64.wrap ((n : Int) + (d : Int)) = (n : Int) + (d : Int) := IntWalk.i64_in _ (by omega)
  clear hn hd
  go_enter Try.func13, Try.ntmps13
  go_wp2
  go_quiet ((go_at_call 25; with_reducible exact quiet_eq (HL.out _)))
  go_wp2
  go_ret
  exact ⟨rfl, nq, rfl⟩
theorem len_qnil (w : World) : Calls Try.prog 13 #[.pointer none] w fun e w' => e = .returned (.int .i64 0) ∧ w = w' := by
  go_enter Try.func13, Try.ntmps13
  go_wp2
  go_ret
  exact ⟨rfl, rfl⟩
attribute [local irreducible] cs
def boxq (w : World) (x : It) : World := (w.alloc (.cells (cs x).toArray 30)).drew
theorem boxq_keep (w : World) (x : It) : Keeps [] w (boxq w x) := ((Keeps.refl [] w).alloc _).drew
theorem boxq_range (w : World) (x : It) : (boxq w x).rangeAt w.heap.size 0 (cs x) := blk_range (cs x) (Blk.new w 30 (cs x).toArray).drew
set_option maxRecDepth 100000 in
set_option maxHeartbeats 1000000 in
theorem put_full {q g r y c : Nat} {a : Option Addr} {l : List It} {dl : List Cl} {lim : Int} (x : It) (w : World) (h : Qe w q g r y a c l dl lim) (hf : lim ≤ ((l.length : Int) + (dl.length : Int))) :
    Calls Try.prog 7 #[.pointer (some ⟨q, 0, none⟩), val x] w (fun e w' => e = .returned (.bool false) ∧ To q g r y l dl lim w w') := by
  obtain ⟨l1, l2, l3, l4⟩ := h.lt
  have HB := Lib.hid (h.kp (boxq_keep w x))
  have hqg := h.qg
  have hqr := h.qr
  have hyg := h.yg
  have hyr := h.yr
  have c0 : (boxq w x).cell? ⟨q, 0, none⟩ = some (.pointer (some ⟨g, 0, none⟩)) := (h.kp (boxq_keep w x)).b.cell 0
  have hb := boxq_range w x
  have hz : (boxq w x).heap.size = w.heap.size + 1 := by simp [boxq]
  have hhl := h.hl
  have hhm := h.hm
  have hdec : decide (((l.length : Int) + (dl.length : Int)) < lim) = false := by simp; omega
  have H := Lib.hid h
  clear h
  unfold boxq at c0 hb hz HB
  go_enter Try.func7, Try.ntmps7
  go_wp2_with fail
  refine wp_region_held_drew (S := (fun V => V.cell? ⟨q, 0, none⟩ = some (.pointer (some ⟨g, 0, none⟩)) ∧ V.rangeAt w.heap.size 0 (cs x) ∧ True)) (by kernel_rfl) ⟨c0, hb, trivial⟩ (fun hHeld => ?_)
  refine' wpAnyH_take (i := 0) (oi := _) (v := _) ?hF0 (by kernel_rfl) (by kernel_rfl) (by kernel_rfl) ?hQF0 (Or.inl ⟨?hwF0, ?hyF0⟩) hHeld ?restF0
  case hF0 => (simp only [List.getElem?_toArray, List.getElem?_cons_zero]; rfl)
  case hQF0 => exact fun _ _ _ h => h
  case hwF0 => rfl
  case hyF0 => (intro w hSw; (try dsimp only at hSw); go_simp; try with_reducible rfl)
  try simp only [Act.put, List.setIfInBounds_toArray, List.set_cons_zero, List.set_cons_succ]
  refine' wpAnyH_take (i := 1) (oi := _) (v := _) ?hF1 (by kernel_rfl) (by kernel_rfl) (by kernel_rfl) ?hQF1 (Or.inl ⟨?hwF1, ?hyF1⟩) hHeld ?restF1
  case hF1 => (simp only [List.getElem?_toArray, List.getElem?_cons_succ, List.getElem?_cons_zero]; rfl)
  case hQF1 => exact fun _ _ _ h => h
  case hwF1 => rfl
  case hyF1 => (intro w hSw; (try dsimp only at hSw); go_simp; try with_reducible rfl)
  try simp only [Act.put, List.setIfInBounds_toArray, List.set_cons_zero, List.set_cons_succ]
  refine' wpAnyH_take (i := 2) (oi := _) (v := _) ?hF2 (by kernel_rfl) (by kernel_rfl) (by kernel_rfl) ?hQF2 (Or.inl ⟨?hwF2, ?hyF2⟩) hHeld ?restF2
  case hF2 => (simp only [List.getElem?_toArray, List.getElem?_cons_succ, List.getElem?_cons_zero]; rfl)
  case hQF2 => exact fun _ _ _ h => h
  case hwF2 => rfl
  case hyF2 => (intro w hSw; (try dsimp only at hSw); go_simp; try with_reducible rfl)
  try simp only [Act.put, List.setIfInBounds_toArray, List.set_cons_zero, List.set_cons_succ]
  refine' wpAnyH_take (i := 3) (oi := _) (v := _) ?hF3 (by kernel_rfl) (by kernel_rfl) (by kernel_rfl) ?hQF3 (Or.inl ⟨?hwF3, ?hyF3⟩) hHeld ?restF3
  case hF3 => (simp only [List.getElem?_toArray, List.getElem?_cons_succ, List.getElem?_cons_zero]; rfl)
  case hQF3 => exact fun _ _ _ h => h
  case hwF3 => rfl
  case hyF3 => (intro w hSw; (try dsimp only at hSw); go_simp; try with_reducible rfl)
  try simp only [Act.put, List.setIfInBounds_toArray, List.set_cons_zero, List.set_cons_succ]
  refine' wpAnyH_take (i := 5) (oi := _) (v := _) ?hF5 (by kernel_rfl) (by kernel_rfl) (by kernel_rfl) ?hQF5 (Or.inl ⟨?hwF5, ?hyF5⟩) hHeld ?restF5
  case hF5 => (simp only [List.getElem?_toArray, List.getElem?_cons_succ, List.getElem?_cons_zero]; rfl)
  case hQF5 => exact fun _ _ _ h => h
  case hwF5 => rfl
  case hyF5 => (intro w hSw; (try dsimp only at hSw); go_simp; try with_reducible rfl)
  try simp only [Act.put, List.setIfInBounds_toArray, List.set_cons_zero, List.set_cons_succ]
  refine' wpAnyH_take (i := 6) (oi := _) (v := _) ?hF6 (by kernel_rfl) (by kernel_rfl) (by kernel_rfl) ?hQF6 (Or.inl ⟨?hwF6, ?hyF6⟩) hHeld ?restF6
  case hF6 => (simp only [List.getElem?_toArray, List.getElem?_cons_succ, List.getElem?_cons_zero]; rfl)
  case hQF6 => exact fun _ _ _ h => h
  case hwF6 => rfl
  case hyF6 => (intro w hSw; (try dsimp only at hSw); go_simp; try with_reducible rfl)
  try simp only [Act.put, List.setIfInBounds_toArray, List.set_cons_zero, List.set_cons_succ]
  refine' wpAnyH_take (i := 7) (oi := _) (v := _) ?hF7 (by kernel_rfl) (by kernel_rfl) (by kernel_rfl) ?hQF7 (Or.inl ⟨?hwF7, ?hyF7⟩) hHeld ?restF7
  case hF7 => (simp only [List.getElem?_toArray, List.getElem?_cons_succ, List.getElem?_cons_zero]; rfl)
  case hQF7 => exact fun _ _ _ h => h
  case hwF7 => rfl
  case hyF7 => (intro w hSw; (try dsimp only at hSw); go_simp; try with_reducible rfl)
  try simp only [Act.put, List.setIfInBounds_toArray, List.set_cons_zero, List.set_cons_succ]
  refine' wpAnyH_take (i := 8) (oi := _) (v := _) ?hF8 (by kernel_rfl) (by kernel_rfl) (by kernel_rfl) ?hQF8 (Or.inl ⟨?hwF8, ?hyF8⟩) hHeld ?restF8
  case hF8 => (simp only [List.getElem?_toArray, List.getElem?_cons_succ, List.getElem?_cons_zero]; rfl)
  case hQF8 => exact fun _ _ _ h => h
  case hwF8 => rfl
  case hyF8 => (intro w hSw; (try dsimp only at hSw); go_simp; try with_reducible rfl)
  try simp only [Act.put, List.setIfInBounds_toArray, List.set_cons_zero, List.set_cons_succ]
  refine wpAnyH_ready (rs := [4]) (by kernel_rfl) (by simp) ?_
  refine AllReadyH.cons rfl (fun K hK => ?_) AllReadyH.nil
  go_simp
  refine (len_q _ HB.out).mono ?_
  rintro e v1 ⟨rfl, hd1⟩
  try go_wp2_with fail
  refine hK.out _ _ (⟨(hd1.cell _).trans hHeld.1, fun j u hu => (hd1.cell _).trans (hHeld.2.1 j u hu), trivial⟩) (fun hHeld' => ?_)
  clear hK K hHeld
  have hHeld := hHeld'
  clear hHeld'
  try simp only [Act.put, List.setIfInBounds_toArray, List.set_cons_zero, List.set_cons_succ]
  refine wpAnyH_ready (rs := [9]) (by kernel_rfl) (by simp) ?_
  refine AllReadyH.cons rfl (fun K hK => ?_) AllReadyH.nil
  go_simp
  refine (limit_any g r l lim 0 _ (HB.out.kp ((Keeps.refl [] _).drawn hd1)).f).mono ?_
  rintro e v2 ⟨rfl, rfl⟩
  try go_wp2_with fail
  refine hK.out _ _ (hHeld) (fun hHeld' => ?_)
  clear hK K hHeld
  have hHeld := hHeld'
  clear hHeld'
  try simp only [Act.put, List.setIfInBounds_toArray, List.set_cons_zero, List.set_cons_succ]
  refine' wpAnyH_take (i := 10) (oi := _) (v := _) ?hF10 (by kernel_rfl) (by kernel_rfl) (by kernel_rfl) ?hQF10 (Or.inl ⟨?hwF10, ?hyF10⟩) hHeld ?restF10
  case hF10 => (simp only [List.getElem?_toArray, List.getElem?_cons_succ, List.getElem?_cons_zero]; rfl)
  case hQF10 => exact fun _ _ _ h => h
  case hwF10 => rfl
  case hyF10 => (intro w hSw; (try dsimp only at hSw); go_simp; try with_reducible rfl)
  try simp only [Act.put, List.setIfInBounds_toArray, List.set_cons_zero, List.set_cons_succ]
  refine' wpAnyH_take (i := 11) (oi := _) (v := _) ?hF11 (by kernel_rfl) (by kernel_rfl) (by kernel_rfl) ?hQF11 (Or.inl ⟨?hwF11, ?hyF11⟩) hHeld ?restF11
  case hF11 => (simp only [List.getElem?_toArray, List.getElem?_cons_succ, List.getElem?_cons_zero]; rfl)
  case hQF11 => exact fun _ _ _ h => h
  case hwF11 => rfl
  case hyF11 => (intro w hSw; (try dsimp only at hSw); go_simp; try with_reducible rfl)
  try simp only [Act.put, List.setIfInBounds_toArray, List.set_cons_zero, List.set_cons_succ]
  refine' wpAnyH_take (i := 12) (oi := _) (v := _) ?hF12 (by kernel_rfl) (by kernel_rfl) (by kernel_rfl) ?hQF12 (Or.inl ⟨?hwF12, ?hyF12⟩) hHeld ?restF12
  case hF12 => (simp only [List.getElem?_toArray, List.getElem?_cons_succ, List.getElem?_cons_zero]; rfl)
  case hQF12 => exact fun _ _ _ h => h
  case hwF12 => rfl
  case hyF12 => (intro w hSw; (try dsimp only at hSw); go_simp; try with_reducible rfl)
  try simp only [Act.put, List.setIfInBounds_toArray, List.set_cons_zero, List.set_cons_succ]
  refine wpAnyH_off (i := 13) (d := some 18) rfl (by kernel_rfl) (by kernel_rfl) (by kernel_rfl) (fun _ _ _ h => h) (by rfl) hHeld ?_
  try simp only [Act.put, List.setIfInBounds_toArray, List.set_cons_zero, List.set_cons_succ]
  refine wpAnyH_off (i := 14) (d := some 19) rfl (by kernel_rfl) (by kernel_rfl) (by kernel_rfl) (fun _ _ _ h => h) (by rfl) hHeld ?_
  try simp only [Act.put, List.setIfInBounds_toArray, List.set_cons_zero, List.set_cons_succ]
  refine wpAnyH_off (i := 15) (d := some 20) rfl (by kernel_rfl) (by kernel_rfl) (by kernel_rfl) (fun _ _ _ h => h) (by rfl) hHeld ?_
  try simp only [Act.put, List.setIfInBounds_toArray, List.set_cons_zero, List.set_cons_succ]
  refine wpAnyH_off (i := 16) (d := some 21) rfl (by kernel_rfl) (by kernel_rfl) (by kernel_rfl) (fun _ _ _ h => h) (by rfl) hHeld ?_
  try simp only [Act.put, List.setIfInBounds_toArray, List.set_cons_zero, List.set_cons_succ]
  refine wpAnyH_off (i := 17) (d := some 22) rfl (by kernel_rfl) (by kernel_rfl) (by kernel_rfl) (fun _ _ _ h => h) (by rfl) hHeld ?_
  try simp only [Act.put, List.setIfInBounds_toArray, List.set_cons_zero, List.set_cons_succ]
  refine wpAnyH_off (i := 18) (d := some 23) rfl (by kernel_rfl) (by kernel_rfl) (by kernel_rfl) (fun _ _ _ h => h) (by rfl) hHeld ?_
  try simp only [Act.put, List.setIfInBounds_toArray, List.set_cons_zero, List.set_cons_succ]
  refine' wpAnyH_take (i := 19) (oi := _) (v := _) ?hF19 (by kernel_rfl) (by kernel_rfl) (by kernel_rfl) ?hQF19 (Or.inl ⟨?hwF19, ?hyF19⟩) hHeld ?restF19
  case hF19 => (simp only [List.getElem?_toArray, List.getElem?_cons_succ, List.getElem?_cons_zero]; rfl)
  case hQF19 => exact fun _ _ _ h => h
  case hwF19 => rfl
  case hyF19 => (intro w hSw; (try dsimp only at hSw); go_simp; try with_reducible rfl)
  try simp only [Act.put, List.setIfInBounds_toArray, List.set_cons_zero, List.set_cons_succ]
  refine' wpAnyH_take (i := 20) (oi := _) (v := _) ?hF20 (by kernel_rfl) (by kernel_rfl) (by kernel_rfl) ?hQF20 (Or.inl ⟨?hwF20, ?hyF20⟩) hHeld ?restF20
  case hF20 => (simp only [List.getElem?_toArray, List.getElem?_cons_succ, List.getElem?_cons_zero]; rfl)
  case hQF20 => exact fun _ _ _ h => h
  case hwF20 => rfl
  case hyF20 => (intro w hSw; (try dsimp only at hSw); go_simp; try with_reducible rfl)
  try simp only [Act.put, List.setIfInBounds_toArray, List.set_cons_zero, List.set_cons_succ]
  refine wpAnyH_done (by kernel_rfl) ?_ _
  clear hHeld hb c0
  go_wp2
  go_ret
  exact ⟨rfl, To.refl H.out ((((Keeps.refl [] w).alloc _).drew).drawn hd1)⟩
set_option maxRecDepth 100000 in
set_option maxHeartbeats 1000000 in
theorem put_ok {q g r y c : Nat} {a : Option Addr} {l : List It} {dl : List Cl} {lim : Int} (x : It) (w : World) (h : Qe w q g r y a c l dl lim) (hf : ((l.length : Int) + (dl.length : Int)) < lim) :
    Calls Try.prog 7 #[.pointer (some ⟨q, 0, none⟩), val x] w (fun e w' => e = .returned (.bool true) ∧ To q g r y (l ++ [x]) dl lim w w') := by
  obtain ⟨l1, l2, l3, l4⟩ := h.lt
  have HB := Lib.hid (h.kp (boxq_keep w x))
  have hqg := h.qg
  have hqr := h.qr
  have hyg := h.yg
  have hyr := h.yr
  have c0 : (boxq w x).cell? ⟨q, 0, none⟩ = some (.pointer (some ⟨g, 0, none⟩)) := (h.kp (boxq_keep w x)).b.cell 0
  have hb := boxq_range w x
  have hz : (boxq w x).heap.size = w.heap.size + 1 := by simp [boxq]
  have hhl := h.hl
  have hhm := h.hm
  have hdec : decide (((l.length : Int) + (dl.length : Int)) < lim) = true := decide_eq_true hf
  have hfl : (l.length : Int) < lim := by omega
  have H := Lib.hid h
  clear h
  unfold boxq at c0 hb hz HB
  go_enter Try.func7, Try.ntmps7
  go_wp2_with fail
  refine wp_region_held_drew (S := (fun V => V.cell? ⟨q, 0, none⟩ = some (.pointer (some ⟨g, 0, none⟩)) ∧ V.rangeAt w.heap.size 0 (cs x) ∧ True)) (by kernel_rfl) ⟨c0, hb, trivial⟩ (fun hHeld => ?_)
  refine' wpAnyH_take (i := 0) (oi := _) (v := _) ?hN0 (by kernel_rfl) (by kernel_rfl) (by kernel_rfl) ?hQN0 (Or.inl ⟨?hwN0, ?hyN0⟩) hHeld ?restN0
  case hN0 => (simp only [List.getElem?_toArray, List.getElem?_cons_zero]; rfl)
  case hQN0 => exact fun _ _ _ h => h
  case hwN0 => rfl
  case hyN0 => (intro w hSw; (try dsimp only at hSw); go_simp; try with_reducible rfl)
  try simp only [Act.put, List.setIfInBounds_toArray, List.set_cons_zero, List.set_cons_succ]
  refine' wpAnyH_take (i := 1) (oi := _) (v := _) ?hN1 (by kernel_rfl) (by kernel_rfl) (by kernel_rfl) ?hQN1 (Or.inl ⟨?hwN1, ?hyN1⟩) hHeld ?restN1
  case hN1 => (simp only [List.getElem?_toArray, List.getElem?_cons_succ, List.getElem?_cons_zero]; rfl)
  case hQN1 => exact fun _ _ _ h => h
  case hwN1 => rfl
  case hyN1 => (intro w hSw; (try dsimp only at hSw); go_simp; try with_reducible rfl)
  try simp only [Act.put, List.setIfInBounds_toArray, List.set_cons_zero, List.set_cons_succ]
  refine' wpAnyH_take (i := 2) (oi := _) (v := _) ?hN2 (by kernel_rfl) (by kernel_rfl) (by kernel_rfl) ?hQN2 (Or.inl ⟨?hwN2, ?hyN2⟩) hHeld ?restN2
  case hN2 => (simp only [List.getElem?_toArray, List.getElem?_cons_succ, List.getElem?_cons_zero]; rfl)
  case hQN2 => exact fun _ _ _ h => h
  case hwN2 => rfl
  case hyN2 => (intro w hSw; (try dsimp only at hSw); go_simp; try with_reducible rfl)
  try simp only [Act.put, List.setIfInBounds_toArray, List.set_cons_zero, List.set_cons_succ]
  refine' wpAnyH_take (i := 3) (oi := _) (v := _) ?hN3 (by kernel_rfl) (by kernel_rfl) (by kernel_rfl) ?hQN3 (Or.inl ⟨?hwN3, ?hyN3⟩) hHeld ?restN3
  case hN3 => (simp only [List.getElem?_toArray, List.getElem?_cons_succ, List.getElem?_cons_zero]; rfl)
  case hQN3 => exact fun _ _ _ h => h
  case hwN3 => rfl
  case hyN3 => (intro w hSw; (try dsimp only at hSw); go_simp; try with_reducible rfl)
  try simp only [Act.put, List.setIfInBounds_toArray, List.set_cons_zero, List.set_cons_succ]
  refine' wpAnyH_take (i := 5) (oi := _) (v := _) ?hN5 (by kernel_rfl) (by kernel_rfl) (by kernel_rfl) ?hQN5 (Or.inl ⟨?hwN5, ?hyN5⟩) hHeld ?restN5
  case hN5 => (simp only [List.getElem?_toArray, List.getElem?_cons_succ, List.getElem?_cons_zero]; rfl)
  case hQN5 => exact fun _ _ _ h => h
  case hwN5 => rfl
  case hyN5 => (intro w hSw; (try dsimp only at hSw); go_simp; try with_reducible rfl)
  try simp only [Act.put, List.setIfInBounds_toArray, List.set_cons_zero, List.set_cons_succ]
  refine' wpAnyH_take (i := 6) (oi := _) (v := _) ?hN6 (by kernel_rfl) (by kernel_rfl) (by kernel_rfl) ?hQN6 (Or.inl ⟨?hwN6, ?hyN6⟩) hHeld ?restN6
  case hN6 => (simp only [List.getElem?_toArray, List.getElem?_cons_succ, List.getElem?_cons_zero]; rfl)
  case hQN6 => exact fun _ _ _ h => h
  case hwN6 => rfl
  case hyN6 => (intro w hSw; (try dsimp only at hSw); go_simp; try with_reducible rfl)
  try simp only [Act.put, List.setIfInBounds_toArray, List.set_cons_zero, List.set_cons_succ]
  refine' wpAnyH_take (i := 7) (oi := _) (v := _) ?hN7 (by kernel_rfl) (by kernel_rfl) (by kernel_rfl) ?hQN7 (Or.inl ⟨?hwN7, ?hyN7⟩) hHeld ?restN7
  case hN7 => (simp only [List.getElem?_toArray, List.getElem?_cons_succ, List.getElem?_cons_zero]; rfl)
  case hQN7 => exact fun _ _ _ h => h
  case hwN7 => rfl
  case hyN7 => (intro w hSw; (try dsimp only at hSw); go_simp; try with_reducible rfl)
  try simp only [Act.put, List.setIfInBounds_toArray, List.set_cons_zero, List.set_cons_succ]
  refine' wpAnyH_take (i := 8) (oi := _) (v := _) ?hN8 (by kernel_rfl) (by kernel_rfl) (by kernel_rfl) ?hQN8 (Or.inl ⟨?hwN8, ?hyN8⟩) hHeld ?restN8
  case hN8 => (simp only [List.getElem?_toArray, List.getElem?_cons_succ, List.getElem?_cons_zero]; rfl)
  case hQN8 => exact fun _ _ _ h => h
  case hwN8 => rfl
  case hyN8 => (intro w hSw; (try dsimp only at hSw); go_simp; try with_reducible rfl)
  try simp only [Act.put, List.setIfInBounds_toArray, List.set_cons_zero, List.set_cons_succ]
  refine wpAnyH_ready (rs := [4]) (by kernel_rfl) (by simp) ?_
  refine AllReadyH.cons rfl (fun K hK => ?_) AllReadyH.nil
  go_simp
  refine (len_q _ HB.out).mono ?_
  rintro e v1 ⟨rfl, hd1⟩
  try go_wp2_with fail
  refine hK.out _ _ (⟨(hd1.cell _).trans hHeld.1, fun j u hu => (hd1.cell _).trans (hHeld.2.1 j u hu), trivial⟩) (fun hHeld' => ?_)
  clear hK K hHeld
  have hHeld := hHeld'
  clear hHeld'
  try simp only [Act.put, List.setIfInBounds_toArray, List.set_cons_zero, List.set_cons_succ]
  refine wpAnyH_ready (rs := [9]) (by kernel_rfl) (by simp) ?_
  refine AllReadyH.cons rfl (fun K hK => ?_) AllReadyH.nil
  go_simp
  refine (limit_any g r l lim 0 _ (HB.out.kp ((Keeps.refl [] _).drawn hd1)).f).mono ?_
  rintro e v2 ⟨rfl, rfl⟩
  try go_wp2_with fail
  refine hK.out _ _ (hHeld) (fun hHeld' => ?_)
  clear hK K hHeld
  have hHeld := hHeld'
  clear hHeld'
  try simp only [Act.put, List.setIfInBounds_toArray, List.set_cons_zero, List.set_cons_succ]
  refine' wpAnyH_take (i := 10) (oi := _) (v := _) ?hN10 (by kernel_rfl) (by kernel_rfl) (by kernel_rfl) ?hQN10 (Or.inl ⟨?hwN10, ?hyN10⟩) hHeld ?restN10
  case hN10 => (simp only [List.getElem?_toArray, List.getElem?_cons_succ, List.getElem?_cons_zero]; rfl)
  case hQN10 => exact fun _ _ _ h => h
  case hwN10 => rfl
  case hyN10 => (intro w hSw; (try dsimp only at hSw); go_simp; try with_reducible rfl)
  try simp only [Act.put, List.setIfInBounds_toArray, List.set_cons_zero, List.set_cons_succ]
  refine' wpAnyH_take (i := 11) (oi := _) (v := _) ?hN11 (by kernel_rfl) (by kernel_rfl) (by kernel_rfl) ?hQN11 (Or.inl ⟨?hwN11, ?hyN11⟩) hHeld ?restN11
  case hN11 => (simp only [List.getElem?_toArray, List.getElem?_cons_succ, List.getElem?_cons_zero]; rfl)
  case hQN11 => exact fun _ _ _ h => h
  case hwN11 => rfl
  case hyN11 => (intro w hSw; (try dsimp only at hSw); go_simp; try with_reducible rfl)
  try simp only [Act.put, List.setIfInBounds_toArray, List.set_cons_zero, List.set_cons_succ]
  refine' wpAnyH_take (i := 12) (oi := _) (v := _) ?hN12 (by kernel_rfl) (by kernel_rfl) (by kernel_rfl) ?hQN12 (Or.inl ⟨?hwN12, ?hyN12⟩) hHeld ?restN12
  case hN12 => (simp only [List.getElem?_toArray, List.getElem?_cons_succ, List.getElem?_cons_zero]; rfl)
  case hQN12 => exact fun _ _ _ h => h
  case hwN12 => rfl
  case hyN12 => (intro w hSw; (try dsimp only at hSw); go_simp; try with_reducible rfl)
  try simp only [Act.put, List.setIfInBounds_toArray, List.set_cons_zero, List.set_cons_succ]
  refine' wpAnyH_take (i := 13) (oi := _) (v := _) ?hN13 (by kernel_rfl) (by kernel_rfl) (by kernel_rfl) ?hQN13 (Or.inl ⟨?hwN13, ?hyN13⟩) hHeld ?restN13
  case hN13 => (simp only [List.getElem?_toArray, List.getElem?_cons_succ, List.getElem?_cons_zero]; rfl)
  case hQN13 => exact fun _ _ _ h => h
  case hwN13 => rfl
  case hyN13 => (intro w hSw; (try dsimp only at hSw); go_simp; try with_reducible rfl)
  try simp only [Act.put, List.setIfInBounds_toArray, List.set_cons_zero, List.set_cons_succ]
  refine' wpAnyH_take (i := 14) (oi := _) (v := _) ?hN14 (by kernel_rfl) (by kernel_rfl) (by kernel_rfl) ?hQN14 (Or.inl ⟨?hwN14, ?hyN14⟩) hHeld ?restN14
  case hN14 => (simp only [List.getElem?_toArray, List.getElem?_cons_succ, List.getElem?_cons_zero]; rfl)
  case hQN14 => exact fun _ _ _ h => h
  case hwN14 => rfl
  case hyN14 => (intro w hSw; (try dsimp only at hSw); go_simp; try with_reducible rfl)
  try simp only [Act.put, List.setIfInBounds_toArray, List.set_cons_zero, List.set_cons_succ]
  refine' wpAnyH_take (i := 15) (oi := _) (v := _) ?hN15 (by kernel_rfl) (by kernel_rfl) (by kernel_rfl) ?hQN15 (Or.inl ⟨?hwN15, ?hyN15⟩) hHeld ?restN15
  case hN15 => (simp only [List.getElem?_toArray, List.getElem?_cons_succ, List.getElem?_cons_zero]; rfl)
  case hQN15 => exact fun _ _ _ h => h
  case hwN15 => rfl
  case hyN15 => (intro w hSw; (try dsimp only at hSw); go_simp; try with_reducible rfl)
  try simp only [Act.put, List.setIfInBounds_toArray, List.set_cons_zero, List.set_cons_succ]
  refine' wpAnyH_take (i := 16) (oi := _) (v := _) ?hN16 (by kernel_rfl) (by kernel_rfl) (by kernel_rfl) ?hQN16 (Or.inl ⟨?hwN16, ?hyN16⟩) hHeld ?restN16
  case hN16 => (simp only [List.getElem?_toArray, List.getElem?_cons_succ, List.getElem?_cons_zero]; rfl)
  case hQN16 => exact fun _ _ _ h => h
  case hwN16 => rfl
  case hyN16 => (intro w hSw; (try dsimp only at hSw); go_simp; try with_reducible rfl)
  try simp only [Act.put, List.setIfInBounds_toArray, List.set_cons_zero, List.set_cons_succ]
  refine' wpAnyH_take (i := 17) (oi := _) (v := .agg (cs x).toArray) ?hN17 (by kernel_rfl) (by kernel_rfl) (by kernel_rfl) ?hQN17 ?hyN17 hHeld ?restN17
  case hN17 => (simp only [List.getElem?_toArray, List.getElem?_cons_succ, List.getElem?_cons_zero]; rfl)
  case hQN17 => exact fun _ _ _ h => h
  case hyN17 => (apply yieldsIf_load_mid (b := w.heap.size) (o := 0) (cs := cs x); (case hw => rfl); (case ho => rfl); (case hx => rfl); (case hS => exact fun _ h => h.2.1); (case hu => exact Try.underlying30); (case hd => rfl); (case hi => exact info_cs _))
  try simp only [Act.put, List.setIfInBounds_toArray, List.set_cons_zero, List.set_cons_succ]
  refine wpAnyH_ready (rs := [18]) (by kernel_rfl) (by simp) ?_
  refine AllReadyH.cons rfl (fun K hK => ?_) AllReadyH.nil
  go_simp
  refine (push_ok g r l lim 0 x _ (HB.out.kp ((Keeps.refl [] _).drawn hd1)).f hfl).mono ?_
  rintro e v3 ⟨rfl, r3, hq3, hk3, hr3⟩
  try go_wp2_with fail
  refine hK.out _ _ (⟨(hk3.cell (p := ⟨q, 0, none⟩) (by have := ((Keeps.refl [] _).drawn hd1).size; show q < _; omega) (by simp; omega)).trans hHeld.1, fun j u hu => (hk3.cell (p := ⟨w.heap.size, 0 + j, none⟩) (by have := ((Keeps.refl [] _).drawn hd1).size; show w.heap.size < _; omega) (by simp; omega)).trans (hHeld.2.1 j u hu), trivial⟩) (fun hHeld' => ?_)
  clear hK K hHeld
  have hHeld := hHeld'
  clear hHeld'
  try simp only [Act.put, List.setIfInBounds_toArray, List.set_cons_zero, List.set_cons_succ]
  refine' wpAnyH_take (i := 19) (oi := _) (v := _) ?hN19 (by kernel_rfl) (by kernel_rfl) (by kernel_rfl) ?hQN19 (Or.inl ⟨?hwN19, ?hyN19⟩) hHeld ?restN19
  case hN19 => (simp only [List.getElem?_toArray, List.getElem?_cons_succ, List.getElem?_cons_zero]; rfl)
  case hQN19 => exact fun _ _ _ h => h
  case hwN19 => rfl
  case hyN19 => (intro w hSw; (try dsimp only at hSw); go_simp; try with_reducible rfl)
  try simp only [Act.put, List.setIfInBounds_toArray, List.set_cons_zero, List.set_cons_succ]
  refine' wpAnyH_take (i := 20) (oi := _) (v := _) ?hN20 (by kernel_rfl) (by kernel_rfl) (by kernel_rfl) ?hQN20 (Or.inl ⟨?hwN20, ?hyN20⟩) hHeld ?restN20
  case hN20 => (simp only [List.getElem?_toArray, List.getElem?_cons_succ, List.getElem?_cons_zero]; rfl)
  case hQN20 => exact fun _ _ _ h => h
  case hwN20 => rfl
  case hyN20 => (intro w hSw; (try dsimp only at hSw); go_simp; try with_reducible rfl)
  try simp only [Act.put, List.setIfInBounds_toArray, List.set_cons_zero, List.set_cons_succ]
  refine wpAnyH_done (by kernel_rfl) ?_ _
  clear hHeld hb c0
  go_wp2
  go_ret
  have hk1 : Keeps [] w v1 := (((Keeps.refl [] w).alloc _).drew).drawn hd1
  have hz1 := hk1.size
  have hQ := H.out.kp hk1
  refine ⟨rfl, r3, y, a, c, ⟨hQ.b.keeps hk3 (by simp; omega), hq3, hQ.d.keeps hk3 (by simp; omega), hqg, by omega, hyg, by omega, by rw [List.length_append]; simp; omega, hhm⟩, (hk1.more (by simp)).next hk3 (by simp), by omega, .inl rfl⟩
end Qp
end Go.Proofs.Ytaepcedcjhliaaa
