/- Queues of campanile/frame.Frame: room for one more. Queues of campanile/frame.Frame: one thing more. A map from owners to ports, in memory: what is looked up, what a store makes of it. A slice that reads as a list, nil let in; an append onto a row of the call's own, whatever the source (after the guide's pages of lemmas to copy); and what such rows keep. -/
import Derived.Test.YtdbkgpnbmafpmaaZfAA
import Derived.Laws.MakeOwn
import Derived.OwnWalk
import Derived.Maps.Own
import Derived.Maps.OwnOps
import Derived.Maps.Views
import Derived.Below
import Derived.Laws.OwnMore
import Derived.Deep.AppendLies
import Derived.Deep.Draws
import Derived.Maps.AppendAt
import Derived.RegionTactic
namespace Go.Proofs.Ytdbkgpnbmafpmaa
open Go.RowKit
namespace FiF
open Sm
/-- A queue with room for one more. -/
def Qm (w : World) (g r : Nat) (l : List It) (lim dr : Int) : Prop :=
  ∃ A len c f R, Qs w g r A len c f l.length lim dr R ∧ (∀ i, i < l.length → l[i]? = some (R ((f + i) % len))) ∧ 0 ≤ lim ∧ lim ≤ 65536 ∧ (l.length : Int) ≤ lim ∧ 0 ≤ dr ∧ dr ≤ 100000 ∧ l.length < len
theorem elem_all : (Try.prog.info? 39).map (fun i => (i.zero, i.size, i.bytes)) = some (some (.agg #[.int .i64 0, .int .i64 0, .string ⟨#[]⟩]), 3, 32) := by kernel_rfl
theorem mk_any (y : Int) (n : Nat) (h : y = (n : Int)) (hn : n ≤ 65536) (w : World) : (Instr.makeSlice 91 (.int .i64 y) (.int .i64 y)).run Try.prog w = .ok (.slice (some ⟨w.heap.size, 0, none⟩) n n) (w.alloc (.cells (madeCells #[.int .i64 0, .int .i64 0, .string ⟨#[]⟩] (n * 3)) 39)) := by
  obtain ⟨i, hi, hz, hs, hb⟩ := info_parts elem_all
  subst h
  have := run_make (P := Try.prog) w 91 39 i (.agg #[.int .i64 0, .int .i64 0, .string ⟨#[]⟩]) Try.underlying91 hi hz .i64 .i64 n n (by omega) (Int.le_refl _) (by rw [hb]; omega) (by omega)
  rw [hs] at this
  exact this
theorem made_get (n i j : Nat) (hi : i < n) (hj : j < 3) : (madeCells #[.int .i64 0, .int .i64 0, .string ⟨#[]⟩] (n * 3))[i * 3 + j]? = (#[.int .i64 0, .int .i64 0, .string ⟨#[]⟩] : Array Value)[j]? := by
  have hlt : i * 3 + j < n * 3 := by omega
  have hsz : (#[.int .i64 0, .int .i64 0, .string ⟨#[]⟩] : Array Value).size = 3 := rfl
  unfold madeCells
  rw [Array.getElem?_map, Array.getElem?_range, if_pos hlt]
  simp only [Option.map_some, hsz]
  rw [show (i * 3 + j) % 3 = j from by omega]
  rw [getElem!_pos (#[.int .i64 0, .int .i64 0, .string ⟨#[]⟩] : Array Value) j (by rw [hsz]; exact hj), Array.getElem?_eq_getElem (show j < (#[.int .i64 0, .int .i64 0, .string ⟨#[]⟩] : Array Value).size from by rw [hsz]; exact hj)]
theorem room_made (w : World) (n : Nat) : Room (w.alloc (.cells (madeCells #[.int .i64 0, .int .i64 0, .string ⟨#[]⟩] (n * 3)) 39)) w.heap.size n (fun _ => z) := by
  have hB := Blk.new w 39 (madeCells #[.int .i64 0, .int .i64 0, .string ⟨#[]⟩] (n * 3))
  refine ⟨fun i hi j v hv => ?_, fun i _ j _ => hB.frozen _, by simp⟩
  have hj : j < 3 := (List.getElem?_eq_some_iff.1 hv).1
  rw [hB.cell, made_get n i j hi hj, ← hv]
  show (#[.int .i64 0, .int .i64 0, .string ⟨#[]⟩] : Array Value)[j]? = (#[.int .i64 0, .int .i64 0, .string ⟨#[]⟩] : Array Value).toList[j]?
  rw [Array.getElem?_toList]
attribute [local irreducible] cs
def IsGrow (g r : Nat) (l : List It) (lim dr : Int) (w : World) (e : Ending) (w' : World) : Prop :=
  e = .returned (.tuple #[]) ∧ ∃ r', Qm w' g r' l lim dr ∧ Keeps [g, r] w w' ∧ (r' = r ∨ w.heap.size ≤ r')
theorem grow_not (g r : Nat) (A : Option Addr) (len c f n : Nat) (lim dr : Int) (R : Nat → It) (w : World) (h : Qs w g r A len c f n lim dr R) (hn : n < len) :
    Calls Try.prog 45 #[.pointer (some ⟨g, 0, none⟩)] w fun e w' => e = .returned (.tuple #[]) ∧ Drawn w w' := by
  obtain ⟨c0, _, c2, _, _, _⟩ := h.cells
  have hlen := h.hlen
  have h0 : (n : Int) < (len : Int) := by omega
  clear h
  go_enter Try.func45, Try.ntmps45
  go_wp2_with fail
  go_quiet (fail)
  go_wp2
  refine bodyPost_ret (v := .tuple #[]) (by simp [results, Try.results45, go_sem]) rfl ?_
  exact ⟨rfl, nq, rfl⟩
def fillR (R : Nat → It) (f len i : Nat) : Nat → It := fun j => if j < i then R ((f + j) % len) else z
theorem fill_0 (R : Nat → It) (f len : Nat) : fillR R f len 0 = fun _ => z := by funext j; unfold fillR; rw [if_neg (by omega)]
theorem fill_s (R : Nat → It) (f len i : Nat) : fillR R f len (i + 1) = updR (fillR R f len i) i (R ((f + i) % len)) := by
  funext j
  by_cases h : j = i
  · subst h; rw [updR_at]; unfold fillR; rw [if_pos (by omega)]
  · rw [updR_ne _ _ _ _ h]
    show (if j < i + 1 then R ((f + j) % len) else z) = (if j < i then R ((f + j) % len) else z)
    by_cases h1 : j < i
    · rw [if_pos (by omega), if_pos h1]
    · rw [if_neg (by omega), if_neg h1]
theorem fill_at (R : Nat → It) (f len i j : Nat) (h : j < i) : fillR R f len i j = R ((f + j) % len) := by unfold fillR; rw [if_pos h]
/-- What stands at the head of a round. -/
structure Fill (w wr : World) (g r b : Nat) (A : Option Addr) (len c f n : Nat) (lim dr : Int) (R : Nat → It) (m i : Nat) : Prop where
  q : Qs wr g r A len c f n lim dr R
  rm : Room wr b m (fillR R f len i)
  k : Keeps [] w wr
  new : w.heap.size ≤ b
  im : i ≤ m
theorem Fill.next {w wr w' : World} {g r b : Nat} {A : Option Addr} {len c f n : Nat} {lim dr : Int} {R : Nat → It} {m i : Nat} (h : Fill w wr g r b A len c f n lim dr R m i) (hi : i < m) (hgb : g < b) (hrb : r < b)
    (hk : Keeps [b] wr w') (hr : Room w' b m (updR (fillR R f len i) i (R ((f + i) % len)))) : Fill w w' g r b A len c f n lim dr R m (i + 1) := by
  refine ⟨h.q.keeps hk (by simp; omega) (by simp; omega), ?_, h.k.next hk (by simp; exact h.new), h.new, hi⟩
  rw [fill_s]
  exact hr
set_option maxRecDepth 100000 in
set_option maxHeartbeats 4000000 in
theorem grow_yes (g r : Nat) (A : Option Addr) (len c f n m : Nat) (lim dr : Int) (R : Nat → It) (w : World) (h : Qs w g r A len c f n lim dr R) (hn : n = len) (_h1 : lim ≤ 65536) (hnm : n < m) (hm6 : m ≤ 65536) (g3 : (if lim < (if 2 * (n : Int) < 4 then 4 else 2 * (n : Int)) then lim else (if 2 * (n : Int) < 4 then 4 else 2 * (n : Int))) = (m : Int)) :
    Calls Try.prog 45 #[.pointer (some ⟨g, 0, none⟩)] w fun e w' => e = .returned (.tuple #[]) ∧ Qs w' g w.heap.size (some ⟨w.heap.size, 0, none⟩) m m 0 n lim dr (fillR R f len n) ∧ Keeps [g] w w' := by
  obtain ⟨c0, c1, c2, c3, c4, cf⟩ := h.cells
  have hlen := h.hlen
  have hnl : ¬ ((n : Int) < (len : Int)) := by omega
  have hdl : decide ((n : Int) < (len : Int)) = false := decide_eq_false hnl
  have hw2 : IntKind.i64.wrap (2 * (n : Int)) = 2 * (n : Int) := IntWalk.i64_in _ (by omega)
  have HQ := Lib.hid h
  have HN := Lib.hid hn
  have hgl := h.q.lt
  have hrl : r < w.heap.size := (Qs.rlt h)
  have hle : (len : Int) ≤ (n : Int) := by omega
  clear h hnl hn
  have hmk := fun V => mk_any (if lim < (if 2 * (n : Int) < 4 then 4 else 2 * (n : Int)) then lim else (if 2 * (n : Int) < 4 then 4 else 2 * (n : Int))) m g3 hm6 V
  have HG3 := Lib.hid g3
  clear g3
  go_enter Try.func45, Try.ntmps45
  go_wp2_with fail
  go_quiet (fail)
  go_wp2
  refine wp_region_held_drew (S := (fun V => V.cell? ⟨g, 2, none⟩ = some (.int .i64 (n : Int)) ∧ V.cell? ⟨g, 3, none⟩ = some (.int .i64 lim))) (by kernel_rfl) ⟨c2, c3⟩ (fun hHeld => ?_)
  refine' wpAnyH_take (i := 0) (oi := _) (v := _) ?hG0 (by kernel_rfl) (by kernel_rfl) (by kernel_rfl) ?hQG0 (Or.inl ⟨?hwG0, ?hyG0⟩) hHeld ?restG0
  case hG0 => (simp only [List.getElem?_toArray, List.getElem?_cons_zero]; rfl)
  case hQG0 => exact fun _ _ _ h => h
  case hwG0 => rfl
  case hyG0 => (intro w hSw; (try dsimp only at hSw); go_simp; try with_reducible rfl)
  try simp only [Act.put, List.setIfInBounds_toArray, List.set_cons_zero, List.set_cons_succ]
  refine' wpAnyH_take (i := 1) (oi := _) (v := _) ?hG1 (by kernel_rfl) (by kernel_rfl) (by kernel_rfl) ?hQG1 (Or.inl ⟨?hwG1, ?hyG1⟩) hHeld ?restG1
  case hG1 => (simp only [List.getElem?_toArray, List.getElem?_cons_succ, List.getElem?_cons_zero]; rfl)
  case hQG1 => exact fun _ _ _ h => h
  case hwG1 => rfl
  case hyG1 => (intro w hSw; (try dsimp only at hSw); go_simp; try with_reducible rfl)
  try simp only [Act.put, List.setIfInBounds_toArray, List.set_cons_zero, List.set_cons_succ]
  refine' wpAnyH_take (i := 2) (oi := _) (v := _) ?hG2 (by kernel_rfl) (by kernel_rfl) (by kernel_rfl) ?hQG2 (Or.inl ⟨?hwG2, ?hyG2⟩) hHeld ?restG2
  case hG2 => (simp only [List.getElem?_toArray, List.getElem?_cons_succ, List.getElem?_cons_zero]; rfl)
  case hQG2 => exact fun _ _ _ h => h
  case hwG2 => rfl
  case hyG2 => (intro w hSw; (try dsimp only at hSw); go_simp; try with_reducible rfl)
  try simp only [Act.put, List.setIfInBounds_toArray, List.set_cons_zero, List.set_cons_succ]
  refine' wpAnyH_take (i := 3) (oi := _) (v := _) ?hG3 (by kernel_rfl) (by kernel_rfl) (by kernel_rfl) ?hQG3 (Or.inl ⟨?hwG3, ?hyG3⟩) hHeld ?restG3
  case hG3 => (simp only [List.getElem?_toArray, List.getElem?_cons_succ, List.getElem?_cons_zero]; rfl)
  case hQG3 => exact fun _ _ _ h => h
  case hwG3 => rfl
  case hyG3 => (intro w hSw; (try dsimp only at hSw); go_simp; try with_reducible rfl)
  try simp only [Act.put, List.setIfInBounds_toArray, List.set_cons_zero, List.set_cons_succ]
  refine' wpAnyH_take (i := 4) (oi := _) (v := _) ?hG4 (by kernel_rfl) (by kernel_rfl) (by kernel_rfl) ?hQG4 (Or.inl ⟨?hwG4, ?hyG4⟩) hHeld ?restG4
  case hG4 => (simp only [List.getElem?_toArray, List.getElem?_cons_succ, List.getElem?_cons_zero]; rfl)
  case hQG4 => exact fun _ _ _ h => h
  case hwG4 => rfl
  case hyG4 => (intro w hSw; (try dsimp only at hSw); go_simp; try with_reducible rfl)
  try simp only [Act.put, List.setIfInBounds_toArray, List.set_cons_zero, List.set_cons_succ]
  refine' wpAnyH_take (i := 5) (oi := _) (v := _) ?hG5 (by kernel_rfl) (by kernel_rfl) (by kernel_rfl) ?hQG5 (Or.inl ⟨?hwG5, ?hyG5⟩) hHeld ?restG5
  case hG5 => (simp only [List.getElem?_toArray, List.getElem?_cons_succ, List.getElem?_cons_zero]; rfl)
  case hQG5 => exact fun _ _ _ h => h
  case hwG5 => rfl
  case hyG5 => (intro w hSw; (try dsimp only at hSw); go_simp; try with_reducible rfl)
  try simp only [Act.put, List.setIfInBounds_toArray, List.set_cons_zero, List.set_cons_succ]
  refine' wpAnyH_take (i := 6) (oi := _) (v := _) ?hG6 (by kernel_rfl) (by kernel_rfl) (by kernel_rfl) ?hQG6 (Or.inl ⟨?hwG6, ?hyG6⟩) hHeld ?restG6
  case hG6 => (simp only [List.getElem?_toArray, List.getElem?_cons_succ, List.getElem?_cons_zero]; rfl)
  case hQG6 => exact fun _ _ _ h => h
  case hwG6 => rfl
  case hyG6 => (intro w hSw; (try dsimp only at hSw); go_simp; try with_reducible rfl)
  try simp only [Act.put, List.setIfInBounds_toArray, List.set_cons_zero, List.set_cons_succ]
  refine' wpAnyH_take (i := 7) (oi := _) (v := _) ?hG7 (by kernel_rfl) (by kernel_rfl) (by kernel_rfl) ?hQG7 (Or.inl ⟨?hwG7, ?hyG7⟩) hHeld ?restG7
  case hG7 => (simp only [List.getElem?_toArray, List.getElem?_cons_succ, List.getElem?_cons_zero]; rfl)
  case hQG7 => exact fun _ _ _ h => h
  case hwG7 => rfl
  case hyG7 => (intro w hSw; (try dsimp only at hSw); go_simp; try with_reducible rfl)
  try simp only [Act.put, List.setIfInBounds_toArray, List.set_cons_zero, List.set_cons_succ]
  refine' wpAnyH_take (i := 8) (oi := _) (v := _) ?hG8 (by kernel_rfl) (by kernel_rfl) (by kernel_rfl) ?hQG8 (Or.inl ⟨?hwG8, ?hyG8⟩) hHeld ?restG8
  case hG8 => (simp only [List.getElem?_toArray, List.getElem?_cons_succ, List.getElem?_cons_zero]; rfl)
  case hQG8 => exact fun _ _ _ h => h
  case hwG8 => rfl
  case hyG8 => (intro w hSw; (try dsimp only at hSw); go_simp; try with_reducible rfl)
  try simp only [Act.put, List.setIfInBounds_toArray, List.set_cons_zero, List.set_cons_succ]
  refine' wpAnyH_take (i := 9) (oi := _) (v := _) ?hG9 (by kernel_rfl) (by kernel_rfl) (by kernel_rfl) ?hQG9 (Or.inl ⟨?hwG9, ?hyG9⟩) hHeld ?restG9
  case hG9 => (simp only [List.getElem?_toArray, List.getElem?_cons_succ, List.getElem?_cons_zero]; rfl)
  case hQG9 => exact fun _ _ _ h => h
  case hwG9 => rfl
  case hyG9 => (intro w hSw; (try dsimp only at hSw); go_simp; try with_reducible rfl)
  try simp only [Act.put, List.setIfInBounds_toArray, List.set_cons_zero, List.set_cons_succ]
  refine' wpAnyH_take (i := 10) (oi := _) (v := _) ?hG10 (by kernel_rfl) (by kernel_rfl) (by kernel_rfl) ?hQG10 (Or.inl ⟨?hwG10, ?hyG10⟩) hHeld ?restG10
  case hG10 => (simp only [List.getElem?_toArray, List.getElem?_cons_succ, List.getElem?_cons_zero]; rfl)
  case hQG10 => exact fun _ _ _ h => h
  case hwG10 => rfl
  case hyG10 => (intro w hSw; (try dsimp only at hSw); go_simp; try with_reducible rfl)
  try simp only [Act.put, List.setIfInBounds_toArray, List.set_cons_zero, List.set_cons_succ]
  refine wpAnyH_ready (rs := [11]) (by kernel_rfl) (by simp) ?_
  refine AllReadyH.cons rfl (fun K hK => ?_) AllReadyH.nil
  go_simp
  refine hK.out _ _ (⟨(World.cell?_alloc_lt _ _ _ (by exact hgl)).trans hHeld.1, (World.cell?_alloc_lt _ _ _ (by exact hgl)).trans hHeld.2⟩) (fun hHeld' => ?_)
  clear hK K hHeld
  have hHeld := hHeld'
  clear hHeld'
  try simp only [Act.put, List.setIfInBounds_toArray, List.set_cons_zero, List.set_cons_succ]
  refine' wpAnyH_take (i := 12) (oi := _) (v := _) ?hG12 (by kernel_rfl) (by kernel_rfl) (by kernel_rfl) ?hQG12 (Or.inl ⟨?hwG12, ?hyG12⟩) hHeld ?restG12
  case hG12 => (simp only [List.getElem?_toArray, List.getElem?_cons_succ, List.getElem?_cons_zero]; rfl)
  case hQG12 => exact fun _ _ _ h => h
  case hwG12 => rfl
  case hyG12 => (intro w hSw; (try dsimp only at hSw); go_simp; try with_reducible rfl)
  try simp only [Act.put, List.setIfInBounds_toArray, List.set_cons_zero, List.set_cons_succ]
  refine wpAnyH_done (by kernel_rfl) ?_ _
  clear hHeld hmk HG3
  generalize (if 2 * (n : Int) < 4 then (4 : Int) else 2 * (n : Int)) = x1 at *
  generalize (if lim < x1 then lim else x1) = x2 at *
  have hF : Fill w ((w.drewN (nq + 1)).alloc (.cells (madeCells #[.int .i64 0, .int .i64 0, .string ⟨#[]⟩] (m * 3)) 39)) g r w.heap.size A len c f n lim dr R m 0 := ⟨Qs.keeps HQ.out (((Keeps.refl [] w).drewN _).alloc _) (by simp) (by simp), by rw [fill_0]; exact room_made (w.drewN (nq + 1)) m, ((Keeps.refl [] w).drewN _).alloc _, Nat.le_refl _, by omega⟩
  have q2 := hF.q.cells.2.2.1
  clear c0 c1 c2 c3 c4 cf hle hdl hw2
  generalize hb : w.heap.size = b at *
  have HB := Lib.hid hb
  clear hb
  generalize (w.drewN (nq + 1)).alloc (.cells (madeCells #[.int .i64 0, .int .i64 0, .string ⟨#[]⟩] (m * 3)) 39) = V at *
  go_wp2
  clear q2
  go_loopw [30] (fun s wr => ∃ i : Nat, i ≤ n ∧ s = .int .i64 i ∧ Fill w wr g r b A len c f n lim dr R m i) (fun s _ => n - (intOf s).toNat)
  case atStart => exact ⟨0, by omega, rfl, hF⟩
  case round =>
    clear hF
    obtain ⟨i, hin, rfl, hF⟩ := hrel
    by_cases hlt : i < n
    · have hnn := HN.out
      have HNN := Lib.hid hnn
      have hl0 : 0 < len := by omega
      rcases hF.q.room with ⟨h0, _, _⟩ | ⟨_, hA, hne, hr⟩
      · omega
      have HAT := Lib.hid (at_any g r A len c f n lim dr R i wr.drew (hF.q.drew) hl0 (by omega))
      subst hA
      have hp := place_bd f i len hl0
      have hc := hr.at_ _ hp
      have HNX := Lib.hid (fun w' hk hr => hF.next (w' := w') (by omega) (by omega) (by omega) hk hr)
      obtain ⟨c0, _, _, _, _, _⟩ := hF.q.cells
      have HRM := Lib.hid hF.rm
      have hgw := hF.q.q.lt
      have hrw := hr.lt
      clear hF hr hnn
      generalize hx : R ((f + i) % len) = x at *
      clear hx
      generalize (f + i) % len = p at *
      have hp0 : (0 : Int) ≤ (p : Int) := by omega
      have hp1 : (p : Int) < (len : Int) := by omega
      have hi0 : (0 : Int) ≤ (i : Int) := by omega
      have hi1 : (i : Int) < (m : Int) := by omega
      have hcd : wr.drew.rangeAt r (p * 3) (cs x) := hc
      go_wp2
      refine wp_region_held_drew (S := (fun V => V.cell? ⟨g, 0, none⟩ = some (.slice (some ⟨r, 0, none⟩) len c) ∧ V.rangeAt r (p * 3) (cs x) ∧ True)) (by kernel_rfl) ⟨c0, hcd, trivial⟩ (fun hHeld => ?_)
      refine' wpAnyH_take (i := 0) (oi := _) (v := _) ?hL0 (by kernel_rfl) (by kernel_rfl) (by kernel_rfl) ?hQL0 (Or.inl ⟨?hwL0, ?hyL0⟩) hHeld ?restL0
      case hL0 => (simp only [List.getElem?_toArray, List.getElem?_cons_zero]; rfl)
      case hQL0 => exact fun _ _ _ h => h
      case hwL0 => rfl
      case hyL0 => (intro w hSw; (try dsimp only at hSw); go_simp; try with_reducible rfl)
      try simp only [Act.put, List.setIfInBounds_toArray, List.set_cons_zero, List.set_cons_succ]
      refine' wpAnyH_take (i := 1) (oi := _) (v := _) ?hL1 (by kernel_rfl) (by kernel_rfl) (by kernel_rfl) ?hQL1 (Or.inl ⟨?hwL1, ?hyL1⟩) hHeld ?restL1
      case hL1 => (simp only [List.getElem?_toArray, List.getElem?_cons_succ, List.getElem?_cons_zero]; rfl)
      case hQL1 => exact fun _ _ _ h => h
      case hwL1 => rfl
      case hyL1 => (intro w hSw; (try dsimp only at hSw); go_simp; try with_reducible rfl)
      try simp only [Act.put, List.setIfInBounds_toArray, List.set_cons_zero, List.set_cons_succ]
      refine' wpAnyH_take (i := 2) (oi := _) (v := _) ?hL2 (by kernel_rfl) (by kernel_rfl) (by kernel_rfl) ?hQL2 (Or.inl ⟨?hwL2, ?hyL2⟩) hHeld ?restL2
      case hL2 => (simp only [List.getElem?_toArray, List.getElem?_cons_succ, List.getElem?_cons_zero]; rfl)
      case hQL2 => exact fun _ _ _ h => h
      case hwL2 => rfl
      case hyL2 => (intro w hSw; (try dsimp only at hSw); go_simp; try with_reducible rfl)
      try simp only [Act.put, List.setIfInBounds_toArray, List.set_cons_zero, List.set_cons_succ]
      refine' wpAnyH_take (i := 3) (oi := _) (v := _) ?hL3 (by kernel_rfl) (by kernel_rfl) (by kernel_rfl) ?hQL3 (Or.inl ⟨?hwL3, ?hyL3⟩) hHeld ?restL3
      case hL3 => (simp only [List.getElem?_toArray, List.getElem?_cons_succ, List.getElem?_cons_zero]; rfl)
      case hQL3 => exact fun _ _ _ h => h
      case hwL3 => rfl
      case hyL3 => (intro w hSw; (try dsimp only at hSw); go_simp; try with_reducible rfl)
      try simp only [Act.put, List.setIfInBounds_toArray, List.set_cons_zero, List.set_cons_succ]
      refine' wpAnyH_take (i := 4) (oi := _) (v := _) ?hL4 (by kernel_rfl) (by kernel_rfl) (by kernel_rfl) ?hQL4 (Or.inl ⟨?hwL4, ?hyL4⟩) hHeld ?restL4
      case hL4 => (simp only [List.getElem?_toArray, List.getElem?_cons_succ, List.getElem?_cons_zero]; rfl)
      case hQL4 => exact fun _ _ _ h => h
      case hwL4 => rfl
      case hyL4 => (intro w hSw; (try dsimp only at hSw); go_simp; try with_reducible rfl)
      try simp only [Act.put, List.setIfInBounds_toArray, List.set_cons_zero, List.set_cons_succ]
      refine' wpAnyH_take (i := 5) (oi := _) (v := _) ?hL5 (by kernel_rfl) (by kernel_rfl) (by kernel_rfl) ?hQL5 (Or.inl ⟨?hwL5, ?hyL5⟩) hHeld ?restL5
      case hL5 => (simp only [List.getElem?_toArray, List.getElem?_cons_succ, List.getElem?_cons_zero]; rfl)
      case hQL5 => exact fun _ _ _ h => h
      case hwL5 => rfl
      case hyL5 => (intro w hSw; (try dsimp only at hSw); go_simp; try with_reducible rfl)
      try simp only [Act.put, List.setIfInBounds_toArray, List.set_cons_zero, List.set_cons_succ]
      refine' wpAnyH_take (i := 6) (oi := _) (v := _) ?hL6 (by kernel_rfl) (by kernel_rfl) (by kernel_rfl) ?hQL6 (Or.inl ⟨?hwL6, ?hyL6⟩) hHeld ?restL6
      case hL6 => (simp only [List.getElem?_toArray, List.getElem?_cons_succ, List.getElem?_cons_zero]; rfl)
      case hQL6 => exact fun _ _ _ h => h
      case hwL6 => rfl
      case hyL6 => (intro w hSw; (try dsimp only at hSw); go_simp; try with_reducible rfl)
      try simp only [Act.put, List.setIfInBounds_toArray, List.set_cons_zero, List.set_cons_succ]
      refine' wpAnyH_take (i := 7) (oi := _) (v := _) ?hL7 (by kernel_rfl) (by kernel_rfl) (by kernel_rfl) ?hQL7 (Or.inl ⟨?hwL7, ?hyL7⟩) hHeld ?restL7
      case hL7 => (simp only [List.getElem?_toArray, List.getElem?_cons_succ, List.getElem?_cons_zero]; rfl)
      case hQL7 => exact fun _ _ _ h => h
      case hwL7 => rfl
      case hyL7 => (intro w hSw; (try dsimp only at hSw); go_simp; try with_reducible rfl)
      try simp only [Act.put, List.setIfInBounds_toArray, List.set_cons_zero, List.set_cons_succ]
      refine wpAnyH_ready (rs := [8]) (by kernel_rfl) (by simp) ?_
      refine AllReadyH.cons rfl (fun K hK => ?_) AllReadyH.nil
      go_simp
      refine (HAT.out).mono ?_
      rintro e v9 ⟨rfl, hd9⟩
      try go_wp2_with fail
      refine hK.out _ _ (⟨(hd9.cell _).trans hHeld.1, fun j u hu => (hd9.cell _).trans (hHeld.2.1 j u hu), trivial⟩) (fun hHeld' => ?_)
      clear hK K hHeld
      have hHeld := hHeld'
      clear hHeld'
      try simp only [Act.put, List.setIfInBounds_toArray, List.set_cons_zero, List.set_cons_succ]
      refine' wpAnyH_take (i := 9) (oi := _) (v := _) ?hL9 (by kernel_rfl) (by kernel_rfl) (by kernel_rfl) ?hQL9 (Or.inl ⟨?hwL9, ?hyL9⟩) hHeld ?restL9
      case hL9 => (simp only [List.getElem?_toArray, List.getElem?_cons_succ, List.getElem?_cons_zero]; rfl)
      case hQL9 => exact fun _ _ _ h => h
      case hwL9 => rfl
      case hyL9 => (intro w hSw; (try dsimp only at hSw); go_simp; try with_reducible rfl)
      try simp only [Act.put, List.setIfInBounds_toArray, List.set_cons_zero, List.set_cons_succ]
      refine' wpAnyH_take (i := 10) (oi := _) (v := .agg (cs x).toArray) ?hL10 (by kernel_rfl) (by kernel_rfl) (by kernel_rfl) ?hQL10 ?hyL10 hHeld ?restL10
      case hL10 => (simp only [List.getElem?_toArray, List.getElem?_cons_succ, List.getElem?_cons_zero]; rfl)
      case hQL10 => exact fun _ _ _ h => h
      case hyL10 => (apply yieldsIf_load_mid (b := r) (o := p * 3) (cs := cs x); (case hw => rfl); (case ho => rfl); (case hx => rfl); (case hS => exact fun _ h => h.2.1); (case hu => exact Try.underlying39); (case hd => rfl); (case hi => exact info_cs _))
      try simp only [Act.put, List.setIfInBounds_toArray, List.set_cons_zero, List.set_cons_succ]
      refine' wpAnyH_take (i := 11) (oi := _) (v := _) ?hL11 (by kernel_rfl) (by kernel_rfl) (by kernel_rfl) ?hQL11 (Or.inl ⟨?hwL11, ?hyL11⟩) hHeld ?restL11
      case hL11 => (simp only [List.getElem?_toArray, List.getElem?_cons_succ, List.getElem?_cons_zero]; rfl)
      case hQL11 => exact fun _ _ _ h => h
      case hwL11 => rfl
      case hyL11 => (intro w hSw; (try dsimp only at hSw); go_simp; try with_reducible rfl)
      try simp only [Act.put, List.setIfInBounds_toArray, List.set_cons_zero, List.set_cons_succ]
      refine wpAnyH_ready (rs := [12]) (by kernel_rfl) (by simp) ?_
      refine' AllReadyH.cons (o := _) ?hoL12 (fun K hK => ?stL12) AllReadyH.nil
      case hoL12 => (simp only [List.getElem?_toArray, List.getElem?_cons_succ, List.getElem?_cons_zero]; rfl)
      rw [if_pos (by rfl)]
      refine wp_store_room _ _ rfl b m (fillR R f len i) i x rfl rfl (HRM.out.keeps (((Keeps.refl [] wr).drew).drawn hd9) (by simp)) (by omega) ?_
      intro w3 hr3 hk3
      refine hK.out _ _ (⟨(hk3.cell (p := ⟨g, 0, none⟩) (by have := ((Keeps.refl [] wr).drew.drawn hd9).size; show g < _; omega) (by simp; omega)).trans hHeld.1, fun j u hu => (hk3.cell (p := ⟨r, p * 3 + j, none⟩) (by have := ((Keeps.refl [] wr).drew.drawn hd9).size; show r < _; omega) (by simp; omega)).trans (hHeld.2.1 j u hu), trivial⟩) (fun hHeld' => ?_)
      clear hK K hHeld
      have hHeld := hHeld'
      clear hHeld'
      try simp only [Act.put]
      refine wpAnyH_done (by kernel_rfl) ?_ _
      have hk3' : Keeps [b] wr w3 := (((Keeps.refl [b] wr).drew).drawn hd9).next hk3 (by simp)
      clear hHeld HAT hc hcd
      go_wp2
      go_roundw
      case rel => exact ⟨i + 1, by omega, by go_num, HNX.out _ hk3' hr3⟩
      case measure => simp [intOf]; omega
    · obtain rfl : i = n := by omega
      obtain ⟨c0, c1, c2, c3, c4, cf⟩ := hF.q.cells
      have HFF := Lib.hid hF
      clear hF
      go_wp2
      go_end0
      rw [HB.out]
      refine ⟨rfl, ⟨?_, .inr ⟨by omega, rfl, by omega, ?_⟩, .inl (by omega), by omega, hm6⟩, ?_⟩
      · exact (HFF.out.q.q.set_ 0 (.slice (some ⟨b, 0, none⟩) m m)).set_ 1 (.int .i64 0)
      · exact HFF.out.rm.keeps (((Keeps.refl [g] wr).setCell (p := ⟨g, 0, none⟩) (by simp) _).setCell (p := ⟨g, 1, none⟩) (by simp) _) (by simp; omega)
      · exact ((HFF.out.k.more (by simp)).setCell (by simp) _).setCell (by simp) _
end FiF
end Go.Proofs.Ytdbkgpnbmafpmaa
namespace Go.Proofs.Ytdbkgpnbmafpmaa
open Go.RowKit
namespace FiF
open Sm
theorem Qm.qu {w : World} {g r : Nat} {l : List It} {lim dr : Int} (h : Qm w g r l lim dr) : Qu w g r l lim dr := by
  obtain ⟨A, len, c, f, R, h1, h2, h3, h4, h5, h6, h7, _⟩ := h
  exact ⟨A, len, c, f, R, h1, h2, h3, h4, h5, h6, h7⟩
theorem grow_any (g r : Nat) (l : List It) (lim dr : Int) (w : World) (h : Qu w g r l lim dr) (hlt : (l.length : Int) < lim) :
    Calls Try.prog 45 #[.pointer (some ⟨g, 0, none⟩)] w (IsGrow g r l lim dr w) := by
  obtain ⟨A, len, c, f, R, h1, h2, h3, h4, h5, h6, h7⟩ := h
  by_cases hn : l.length < len
  · refine (grow_not g r A len c f _ lim dr R w h1 hn).mono ?_
    rintro e w' ⟨rfl, hd⟩
    exact ⟨rfl, r, ⟨A, len, c, f, R, h1.keeps ((Keeps.refl [] w).drawn hd) (by simp) (by simp), h2, h3, h4, h5, h6, h7, hn⟩, (Keeps.refl _ _).drawn hd, .inl rfl⟩
  · have hn' : l.length = len := by have := h1.hn; omega
    have hlen := h1.hlen
    obtain ⟨m, hm⟩ : ∃ m : Nat, (if lim < (if 2 * (l.length : Int) < 4 then 4 else 2 * (l.length : Int)) then lim else (if 2 * (l.length : Int) < 4 then 4 else 2 * (l.length : Int))) = (m : Int) := ⟨((if lim < (if 2 * (l.length : Int) < 4 then 4 else 2 * (l.length : Int)) then lim else (if 2 * (l.length : Int) < 4 then 4 else 2 * (l.length : Int)))).toNat, by split <;> split <;> omega⟩
    have hm1 : l.length < m ∧ m ≤ 65536 := by
      constructor
      · have : (l.length : Int) < (m : Int) := by rw [← hm]; split <;> split <;> omega
        omega
      · have : (m : Int) ≤ 65536 := by rw [← hm]; split <;> split <;> omega
        omega
    refine (grow_yes g r A len c f _ m lim dr R w h1 hn' h4 hm1.1 hm1.2 hm).mono ?_
    rintro e w' ⟨rfl, hq, hk⟩
    refine ⟨rfl, w.heap.size, ⟨_, m, m, 0, _, hq, fun i hi => ?_, h3, h4, h5, h6, h7, hm1.1⟩, hk.more (by simp), .inr (Nat.le_refl _)⟩
    rw [Nat.zero_add, Nat.mod_eq_of_lt (by omega), fill_at _ _ _ _ _ hi]
    exact h2 i hi
theorem place_inj (f i n len : Nat) (hi : i < n) (hn : n < len) : (f + i) % len ≠ (f + n) % len := by
  intro e
  have h1 := Nat.mod_add_div (f + i) len
  have h2 := Nat.mod_add_div (f + n) len
  rw [e] at h1
  have h3 : len * ((f + n) / len) - len * ((f + i) / len) = n - i := by omega
  rw [← Nat.mul_sub] at h3
  rcases Nat.eq_zero_or_pos ((f + n) / len - (f + i) / len) with h4 | h4
  · rw [h4] at h3; omega
  · have := Nat.le_mul_of_pos_right len h4; omega
attribute [local irreducible] cs
def IsPush (g r : Nat) (l : List It) (lim dr : Int) (w : World) (e : Ending) (w' : World) : Prop :=
  e = .returned (.bool true) ∧ ∃ r', Qu w' g r' l lim dr ∧ Keeps [g, r] w w' ∧ (r' = r ∨ w.heap.size ≤ r')
theorem push_nil (x : It) (w : World) : Calls Try.prog 28 #[.pointer none, val x] w (IsV (.bool false) w) := by
  go_enter Try.func28, Try.ntmps28
  go_wp2
  go_ret
  exact ⟨rfl, (Keeps.refl _ _).alloc _⟩
theorem push_full (g r : Nat) (l : List It) (lim dr : Int) (x : It) (w : World) (h : Qu w g r l lim dr) (hf : lim ≤ (l.length : Int)) (hd : dr < 100000) :
    Calls Try.prog 28 #[.pointer (some ⟨g, 0, none⟩), val x] w fun e w' => e = .returned (.bool false) ∧ Qu w' g r l lim (dr + 1) ∧ Keeps [g, r] w w' := by
  have hk0 : Keeps [] w (w.alloc (.cells (cs x).toArray 39)) := (Keeps.refl _ _).alloc _
  obtain ⟨A, len, c, f, R, h1, h2, h3, h4, h5, h6, h7⟩ := h.kp hk0
  obtain ⟨d0, d1, d2, d3, d4, df⟩ := h1.cells
  have hgl := h.lt.1
  obtain ⟨A', len', c', f', R', h1', _⟩ := h
  obtain ⟨_, _, c2, c3, c4, cf⟩ := h1'.cells
  have HQ := Lib.hid h1
  have H2 := Lib.hid h2
  have HK0 := Lib.hid hk0
  clear h1 h2 h1' hk0
  go_enter Try.func28, Try.ntmps28
  go_wp2_with fail
  go_quiet (fail)
  go_wp2
  go_ret
  have hk : Keeps [g] (w.alloc (.cells (cs x).toArray 39)) (((w.alloc (.cells (cs x).toArray 39)).drewN nq).setCell ⟨g, 4, none⟩ (.int .i64 (dr + 1))) := ((Keeps.refl _ _).drewN nq).setCell (by simp) _
  refine ⟨rfl, ⟨A, len, c, f, R, ⟨(HQ.out.q.drewN nq).set_ 4 (.int .i64 (dr + 1)), ?_, HQ.out.hf, HQ.out.hn, HQ.out.hlen⟩, H2.out, h3, h4, h5, by omega, by omega⟩, ((HK0.out.more (by simp)).next hk (by simp) : Keeps [g, r] w _)⟩
  exact HQ.out.room.imp id fun ⟨r1, r2, r3, r4⟩ => ⟨r1, r2, r3, r4.keeps hk (by simpa using r3)⟩
set_option maxRecDepth 100000 in
set_option maxHeartbeats 2000000 in
theorem push_ok (g r : Nat) (l : List It) (lim dr : Int) (x : It) (w : World) (h : Qu w g r l lim dr) (hf : (l.length : Int) < lim) :
    Calls Try.prog 28 #[.pointer (some ⟨g, 0, none⟩), val x] w (IsPush g r (l ++ [x]) lim dr w) := by
  have hk0 : ∀ q, Keeps [] w ((w.alloc (.cells (cs x).toArray 39)).drewN q) := fun q => ((Keeps.refl _ _).alloc _).drewN q
  have HG := Lib.hid (fun q => grow_any g r l lim dr ((w.alloc (.cells (cs x).toArray 39)).drewN q) (h.kp (hk0 q)) hf)
  have hB := fun q => (Blk.new w 39 (cs x).toArray).drewN q
  obtain ⟨hgl, hrl⟩ := h.lt
  obtain ⟨A, len, c, f, R, h1, h2, h3, h4, h5, h6, h7⟩ := h
  obtain ⟨_, _, c2, c3, _, _⟩ := h1.cells
  have hn := h1.hn
  have hlen := h1.hlen
  have hdec : decide (lim ≤ (l.length : Int)) = false := by simp; omega
  have HB := Lib.hid hB
  have HK0 := Lib.hid hk0
  clear h1 h2 hB hk0
  generalize hl : l.length = n at *
  have HL := Lib.hid hl
  clear hl
  go_enter Try.func28, Try.ntmps28
  go_wp2_with fail
  go_quiet (fail)
  go_wp2_with fail
  refine (HG.out _).mono ?_
  clear HG c2 c3
  rintro e v1 ⟨rfl, r', ⟨A', len', c', f', R', h1, h2, _, _, _, _, _, hr0⟩, hk1, hrr⟩
  rw [HL.out] at h1 h2 hr0
  have hz1 := hk1.size
  simp at hz1
  have hrr' : r' = r ∨ w.heap.size < r' := by
    rcases hrr with h | h
    · exact .inl h
    · right; simp at h; omega
  have hb1 := (HB.out nq).keeps hk1 (by simp; omega)
  have HK1 : Hid (Keeps [g, r] w v1) := Lib.hid (((HK0.out nq).more (by simp)).trans hk1)
  clear hk1 hrr hn hlen HB HK0
  have hlen := h1.hlen
  rcases h1.room with ⟨h0, _, _⟩ | ⟨h0, hA, hne, hrm⟩
  · omega
  subst hA
  have hAT := at_any g r' (some ⟨r', 0, none⟩) len' c' f' n lim dr R' n v1.drew h1.drew h0 (by omega)
  have HAT := Lib.hid hAT
  have hp := place_bd f' n len' h0
  obtain ⟨c0, c1, c2, c3, c4, cf⟩ := h1.cells
  have hff := h1.hf
  have HQ := Lib.hid h1.q
  have HRM := Lib.hid hrm
  have H2 := Lib.hid h2
  have hbx : v1.drew.rangeAt w.heap.size 0 (cs x) := blk_range (cs x) hb1.drew
  have hgv := h1.q.lt
  clear h1 h2 hrm hAT hb1
  generalize hpp : (f' + n) % len' = p at *
  have HPP := Lib.hid hpp
  clear hpp
  have hp0 : (0 : Int) ≤ (p : Int) := by omega
  have hp1 : (p : Int) < (len' : Int) := by omega
  have hwr : w.heap.size ≠ r' := by omega
  go_wp2
  refine wp_region_held_drew (S := (fun V => V.cell? ⟨g, 0, none⟩ = some (.slice (some ⟨r', 0, none⟩) len' c') ∧ V.rangeAt w.heap.size 0 (cs x) ∧ V.cell? ⟨g, 2, none⟩ = some (.int .i64 (n : Int)))) (by kernel_rfl) ⟨c0, hbx, c2⟩ (fun hHeld => ?_)
  refine' wpAnyH_take (i := 0) (oi := _) (v := _) ?hU0 (by kernel_rfl) (by kernel_rfl) (by kernel_rfl) ?hQU0 (Or.inl ⟨?hwU0, ?hyU0⟩) hHeld ?restU0
  case hU0 => (simp only [List.getElem?_toArray, List.getElem?_cons_zero]; rfl)
  case hQU0 => exact fun _ _ _ h => h
  case hwU0 => rfl
  case hyU0 => (intro w hSw; (try dsimp only at hSw); go_simp; try with_reducible rfl)
  try simp only [Act.put, List.setIfInBounds_toArray, List.set_cons_zero, List.set_cons_succ]
  refine' wpAnyH_take (i := 1) (oi := _) (v := _) ?hU1 (by kernel_rfl) (by kernel_rfl) (by kernel_rfl) ?hQU1 (Or.inl ⟨?hwU1, ?hyU1⟩) hHeld ?restU1
  case hU1 => (simp only [List.getElem?_toArray, List.getElem?_cons_succ, List.getElem?_cons_zero]; rfl)
  case hQU1 => exact fun _ _ _ h => h
  case hwU1 => rfl
  case hyU1 => (intro w hSw; (try dsimp only at hSw); go_simp; try with_reducible rfl)
  try simp only [Act.put, List.setIfInBounds_toArray, List.set_cons_zero, List.set_cons_succ]
  refine' wpAnyH_take (i := 2) (oi := _) (v := _) ?hU2 (by kernel_rfl) (by kernel_rfl) (by kernel_rfl) ?hQU2 (Or.inl ⟨?hwU2, ?hyU2⟩) hHeld ?restU2
  case hU2 => (simp only [List.getElem?_toArray, List.getElem?_cons_succ, List.getElem?_cons_zero]; rfl)
  case hQU2 => exact fun _ _ _ h => h
  case hwU2 => rfl
  case hyU2 => (intro w hSw; (try dsimp only at hSw); go_simp; try with_reducible rfl)
  try simp only [Act.put, List.setIfInBounds_toArray, List.set_cons_zero, List.set_cons_succ]
  refine' wpAnyH_take (i := 3) (oi := _) (v := _) ?hU3 (by kernel_rfl) (by kernel_rfl) (by kernel_rfl) ?hQU3 (Or.inl ⟨?hwU3, ?hyU3⟩) hHeld ?restU3
  case hU3 => (simp only [List.getElem?_toArray, List.getElem?_cons_succ, List.getElem?_cons_zero]; rfl)
  case hQU3 => exact fun _ _ _ h => h
  case hwU3 => rfl
  case hyU3 => (intro w hSw; (try dsimp only at hSw); go_simp; try with_reducible rfl)
  try simp only [Act.put, List.setIfInBounds_toArray, List.set_cons_zero, List.set_cons_succ]
  refine' wpAnyH_take (i := 4) (oi := _) (v := _) ?hU4 (by kernel_rfl) (by kernel_rfl) (by kernel_rfl) ?hQU4 (Or.inl ⟨?hwU4, ?hyU4⟩) hHeld ?restU4
  case hU4 => (simp only [List.getElem?_toArray, List.getElem?_cons_succ, List.getElem?_cons_zero]; rfl)
  case hQU4 => exact fun _ _ _ h => h
  case hwU4 => rfl
  case hyU4 => (intro w hSw; (try dsimp only at hSw); go_simp; try with_reducible rfl)
  try simp only [Act.put, List.setIfInBounds_toArray, List.set_cons_zero, List.set_cons_succ]
  refine' wpAnyH_take (i := 5) (oi := _) (v := _) ?hU5 (by kernel_rfl) (by kernel_rfl) (by kernel_rfl) ?hQU5 (Or.inl ⟨?hwU5, ?hyU5⟩) hHeld ?restU5
  case hU5 => (simp only [List.getElem?_toArray, List.getElem?_cons_succ, List.getElem?_cons_zero]; rfl)
  case hQU5 => exact fun _ _ _ h => h
  case hwU5 => rfl
  case hyU5 => (intro w hSw; (try dsimp only at hSw); go_simp; try with_reducible rfl)
  try simp only [Act.put, List.setIfInBounds_toArray, List.set_cons_zero, List.set_cons_succ]
  refine' wpAnyH_take (i := 6) (oi := _) (v := _) ?hU6 (by kernel_rfl) (by kernel_rfl) (by kernel_rfl) ?hQU6 (Or.inl ⟨?hwU6, ?hyU6⟩) hHeld ?restU6
  case hU6 => (simp only [List.getElem?_toArray, List.getElem?_cons_succ, List.getElem?_cons_zero]; rfl)
  case hQU6 => exact fun _ _ _ h => h
  case hwU6 => rfl
  case hyU6 => (intro w hSw; (try dsimp only at hSw); go_simp; try with_reducible rfl)
  try simp only [Act.put, List.setIfInBounds_toArray, List.set_cons_zero, List.set_cons_succ]
  refine' wpAnyH_take (i := 7) (oi := _) (v := _) ?hU7 (by kernel_rfl) (by kernel_rfl) (by kernel_rfl) ?hQU7 (Or.inl ⟨?hwU7, ?hyU7⟩) hHeld ?restU7
  case hU7 => (simp only [List.getElem?_toArray, List.getElem?_cons_succ, List.getElem?_cons_zero]; rfl)
  case hQU7 => exact fun _ _ _ h => h
  case hwU7 => rfl
  case hyU7 => (intro w hSw; (try dsimp only at hSw); go_simp; try with_reducible rfl)
  try simp only [Act.put, List.setIfInBounds_toArray, List.set_cons_zero, List.set_cons_succ]
  refine' wpAnyH_take (i := 8) (oi := _) (v := _) ?hU8 (by kernel_rfl) (by kernel_rfl) (by kernel_rfl) ?hQU8 (Or.inl ⟨?hwU8, ?hyU8⟩) hHeld ?restU8
  case hU8 => (simp only [List.getElem?_toArray, List.getElem?_cons_succ, List.getElem?_cons_zero]; rfl)
  case hQU8 => exact fun _ _ _ h => h
  case hwU8 => rfl
  case hyU8 => (intro w hSw; (try dsimp only at hSw); go_simp; try with_reducible rfl)
  try simp only [Act.put, List.setIfInBounds_toArray, List.set_cons_zero, List.set_cons_succ]
  refine' wpAnyH_take (i := 10) (oi := _) (v := .agg (cs x).toArray) ?hU10 (by kernel_rfl) (by kernel_rfl) (by kernel_rfl) ?hQU10 ?hyU10 hHeld ?restU10
  case hU10 => (simp only [List.getElem?_toArray, List.getElem?_cons_succ, List.getElem?_cons_zero]; rfl)
  case hQU10 => exact fun _ _ _ h => h
  case hyU10 => (apply yieldsIf_load_mid (b := w.heap.size) (o := 0) (cs := cs x); (case hw => rfl); (case ho => rfl); (case hx => rfl); (case hS => exact fun _ h => h.2.1); (case hu => exact Try.underlying39); (case hd => rfl); (case hi => exact info_cs _))
  try simp only [Act.put, List.setIfInBounds_toArray, List.set_cons_zero, List.set_cons_succ]
  refine wpAnyH_ready (rs := [9]) (by kernel_rfl) (by simp) ?_
  refine AllReadyH.cons rfl (fun K hK => ?_) AllReadyH.nil
  go_simp
  refine (HAT.out).mono ?_
  rintro e v9 ⟨rfl, hd9⟩
  try go_wp2_with fail
  refine hK.out _ _ (⟨(hd9.cell _).trans hHeld.1, fun j u hu => (hd9.cell _).trans (hHeld.2.1 j u hu), (hd9.cell _).trans hHeld.2.2⟩) (fun hHeld' => ?_)
  clear hK K hHeld
  have hHeld := hHeld'
  clear hHeld'
  try simp only [Act.put, List.setIfInBounds_toArray, List.set_cons_zero, List.set_cons_succ]
  refine' wpAnyH_take (i := 11) (oi := _) (v := _) ?hU11 (by kernel_rfl) (by kernel_rfl) (by kernel_rfl) ?hQU11 (Or.inl ⟨?hwU11, ?hyU11⟩) hHeld ?restU11
  case hU11 => (simp only [List.getElem?_toArray, List.getElem?_cons_succ, List.getElem?_cons_zero]; rfl)
  case hQU11 => exact fun _ _ _ h => h
  case hwU11 => rfl
  case hyU11 => (intro w hSw; (try dsimp only at hSw); go_simp; try with_reducible rfl)
  try simp only [Act.put, List.setIfInBounds_toArray, List.set_cons_zero, List.set_cons_succ]
  refine wpAnyH_ready (rs := [12]) (by kernel_rfl) (by simp) ?_
  refine' AllReadyH.cons (o := _) ?hoU12 (fun K hK => ?stU12) AllReadyH.nil
  case hoU12 => (simp only [List.getElem?_toArray, List.getElem?_cons_succ, List.getElem?_cons_zero]; rfl)
  rw [if_pos (by rfl)]
  refine wp_store_room _ _ rfl r' len' R' p x rfl rfl (HRM.out.keeps (((Keeps.refl [] v1).drew).drawn hd9) (by simp)) (by omega) ?_
  intro v3 hr3 hk3
  refine hK.out _ _ (⟨(hk3.cell (p := ⟨g, 0, none⟩) (by have := ((Keeps.refl [] v1).drew.drawn hd9).size; show g < _; omega) (by simp; omega)).trans hHeld.1, fun j u hu => (hk3.cell (p := ⟨w.heap.size, 0 + j, none⟩) (by have := ((Keeps.refl [] v1).drew.drawn hd9).size; show w.heap.size < _; omega) (by simp; omega)).trans (hHeld.2.1 j u hu), (hk3.cell (p := ⟨g, 2, none⟩) (by have := ((Keeps.refl [] v1).drew.drawn hd9).size; show g < _; omega) (by simp; omega)).trans hHeld.2.2⟩) (fun hHeld' => ?_)
  clear hK K hHeld
  have hHeld := hHeld'
  clear hHeld'
  try simp only [Act.put]
  refine wpAnyH_done (by kernel_rfl) ?_ _
  clear HAT hbx
  have hq3 := HQ.out.keeps ((((Keeps.refl [r'] v1).drew).drawn hd9).next hk3 (by simp)) (by simp; omega)
  have hk3' : Keeps [g, r] w v3 := (((HK1.out.drew).drawn hd9).next hk3 (by simp; omega))
  have q2 := hq3.cell 2
  have qf := hq3.frozen
  clear hHeld c0 c1 c2 c3 c4 cf hk3
  have q2' : v3.cell? ⟨g, 2, none⟩ = some (.int .i64 (n : Int)) := q2
  clear q2
  go_wp2
  go_ret
  have hq2 := hq3.set_ 2 (.int .i64 ((n : Int) + 1))
  have hr2 := hr3.keeps ((Keeps.refl [g] v3).setCell (p := ⟨g, 2, none⟩) (by simp) (.int .i64 ((n : Int) + 1))) (by simpa using hne)
  refine ⟨rfl, r', ⟨some ⟨r', 0, none⟩, len', c', f', updR R' p x, ⟨?_, .inr ⟨h0, rfl, hne, hr2⟩, hff, by rw [List.length_append, HL.out]; simp; omega, hlen⟩, ?_, h3, h4, by rw [List.length_append, Int.natCast_add, HL.out]; simp; omega, h6, h7⟩, ?_, by omega⟩
  · rw [List.length_append, HL.out]
    exact hq2
  · intro i hi
    rw [List.length_append, HL.out] at hi
    simp only [List.length_cons, List.length_nil] at hi
    by_cases hin : i < n
    · rw [List.getElem?_append_left (by rw [HL.out]; exact hin), H2.out i hin, updR_ne _ _ _ _ (by rw [← HPP.out]; exact place_inj f' i n len' hin hr0)]
    · obtain rfl : i = n := by omega
      rw [HPP.out, updR_at, List.getElem?_append_right (by rw [HL.out]; exact Nat.le_refl _), HL.out]
      simp
  · exact hk3'.setCell (p := ⟨g, 2, none⟩) (by simp) (.int .i64 ((n : Int) + 1))
end FiF
end Go.Proofs.Ytdbkgpnbmafpmaa
namespace Go.Proofs.Ytdbkgpnbmafpmaa
open Go.RowKit Go.Maps
namespace Nc
open Sm
abbrev D0 := DataW Unit
/-- How a pointer reads. -/
def ptrR : Value → Option (D0 × List MemPlace)
  | .pointer none => some (.lit (.int .i64 (-1)), [])
  | .pointer (some ⟨b, 0, none⟩) => some (.lit (.int .i64 (b : Int)), [])
  | _ => none
def pv : Option Nat → Value
  | none => .pointer none
  | some b => .pointer (some ⟨b, 0, none⟩)
def pd : Option Nat → D0
  | none => .lit (.int .i64 (-1))
  | some b => .lit (.int .i64 (b : Int))
theorem ptr_pv (o : Option Nat) : ptrR (pv o) = some (pd o, []) := by cases o <;> rfl
theorem ptr_inv {v : Value} {o : Option Nat} {ps : List MemPlace} (h : ptrR v = some (pd o, ps)) : v = pv o := by
  unfold ptrR at h
  split at h
  · cases o with
    | none => rfl
    | some b => simp [pd] at h
  · cases o with
    | none => simp [pd] at h
    | some b => simp [pd] at h; simp [pv, h]
  · cases h
theorem mlaw : Keyed Try.prog 3 := int_keyed Try.underlying3
theorem zeroP (w : World) : (zeroValue 70).run Try.prog w = .ok (.pointer none) w := by kernel_rfl
/-- Block m is a map of at most n entries that holds F. -/
def MapP (w : World) (m n : Nat) (F : Int → Option Nat) : Prop :=
  ∃ D : D0, w.ownsMap Try.prog 3 ptrR m n D ∧ IsMap D ∧ ∀ k : Int, (Lit.int .i64 k).wf = true → D.atKey (.int .i64 k) (.lit (.int .i64 (-1))) = pd (F k)
section
variable {w w' : World} {m n : Nat} {F : Int → Option Nat} {S : List Nat}
theorem MapP.keeps (h : MapP w m n F) (hk : Keeps S w w') (hm : m ∉ S) : MapP w' m n F := by
  obtain ⟨D, ⟨es, clock, hb, h1, h2, h3⟩, h4, h5⟩ := h
  exact ⟨D, ⟨es, clock, (hk.block m (Array.getElem?_eq_some_iff.1 hb).1 hm).trans hb, h1, h2, h3⟩, h4, h5⟩
theorem MapP.lt (h : MapP w m n F) : m < w.heap.size := by
  obtain ⟨D, h1, _⟩ := h
  exact h1.lt
theorem MapP.mono {n' : Nat} (h : MapP w m n F) (hn : n ≤ n') : MapP w m n' F := by
  obtain ⟨D, h1, h2⟩ := h
  exact ⟨D, h1.mono hn, h2⟩
theorem MapP.made (w : World) : MapP (w.alloc (.map #[] 0)) w.heap.size 0 (fun _ => none) :=
  ⟨.map [], World.ownsMap_made w _ _ _, isMap_empty, fun _ _ => rfl⟩
theorem MapP.look (h : MapP w m n F) (k : Int) (hk : (Lit.int .i64 k).wf = true) : (Instr.lookup 66 (.map (some m)) (.int .i64 k) false).run Try.prog w = .ok (pv (F k)) w := by
  obtain ⟨D, h1, h2, h3⟩ := h
  obtain ⟨v, ps, hrun, hv⟩ := h1.lookup mlaw Try.underlying66 (zeroP w) (zd := .lit (.int .i64 (-1))) (zp := []) rfl (keyOf_int_mk Try.underlying3 hk)
  rw [h3 k hk] at hv
  rw [hrun, ptr_inv hv]
theorem MapP.store (h : MapP w m n F) (k : Int) (hk : (Lit.int .i64 k).wf = true) (p : Nat) (hn : n < maxLen) :
    ∃ w', (Instr.mapUpdate 66 (.map (some m)) (.int .i64 k) (.pointer (some ⟨p, 0, none⟩))).run Try.prog w = .ok () w' ∧ MapP w' m (n + 1) (fun j => if j = k then some p else F j) ∧ w.grownBy w' (some m) := by
  obtain ⟨D, h1, h2, h3⟩ := h
  obtain ⟨w', hrun, ho, hg⟩ := h1.update mlaw Try.underlying66 hn (keyOf_int_mk Try.underlying3 hk) (ptr_pv (some p))
  refine ⟨w', hrun, ⟨_, ho, h2.put _ _, fun j hj => ?_⟩, hg⟩
  by_cases e : j = k
  · subst e
    rw [atKey_put_same h2 (by trivial)]
    show pd (some p) = pd (if j = j then some p else F j)
    rw [if_pos rfl]
  · rw [atKey_put_other (by intro h9; injection h9 with _ h9; exact e h9), h3 j hj]
    show pd (F j) = pd (if j = k then some p else F j)
    rw [if_neg e]
end
end Nc
end Go.Proofs.Ytdbkgpnbmafpmaa
namespace Go.Proofs.Ytdbkgpnbmafpmaa
open Go.RowKit
namespace Sm
theorem block_of_add (a : Addr) (n : Nat) : (a.add n).block = a.block := by unfold Addr.add; split <;> rfl
theorem add_of_add (a : Addr) (i j : Nat) : (a.add i).add j = a.add (i + j) := by
  unfold Addr.add
  by_cases hi : i = 0 <;> by_cases hj : j = 0 <;> simp [hi, hj, Nat.add_assoc]

def Reads (w : World) (B size : Nat) (A : Option Addr) (n : Nat) (xs : List Value) : Prop :=
  xs.length = n * size ∧ (0 < n → ∃ ad, A = some ad ∧ ad.block < B ∧ ∀ j u, xs[j]? = some u → w.cell? (ad.add j) = some u)

section
variable {w w' : World} {B B' size n : Nat} {A : Option Addr} {xs : List Value}
theorem Reads.none_ : Reads w B size A 0 [] := ⟨by simp, fun h => absurd h (by omega)⟩
theorem Reads.at_ {k : Nat} (h : Reads w B 1 A n xs) (hk : k < n) : ∃ ad u, A = some ad ∧ ad.block < B ∧ xs[k]? = some u ∧ w.cell? (ad.add k) = some u := by
  obtain ⟨ad, e, hb, hc⟩ := h.2 (by omega)
  have hl : k < xs.length := by have := h.1; omega
  exact ⟨ad, xs[k], e, hb, List.getElem?_eq_getElem hl, hc k _ (List.getElem?_eq_getElem hl)⟩
theorem Reads.keep (h : Reads w B size A n xs) (hk : ∀ p : Addr, p.block < B → w'.cell? p = w.cell? p) : Reads w' B size A n xs :=
  ⟨h.1, fun hn => by
    obtain ⟨ad, e, hb, hc⟩ := h.2 hn
    exact ⟨ad, e, hb, fun j u hu => (hk _ (by rw [block_of_add]; exact hb)).trans (hc j u hu)⟩⟩
theorem Reads.more (h : Reads w B size A n xs) (hB : B ≤ B') : Reads w B' size A n xs :=
  ⟨h.1, fun hn => by
    obtain ⟨ad, e, hb, hc⟩ := h.2 hn
    exact ⟨ad, e, by omega, hc⟩⟩
theorem Reads.below (h : Reads w B size A n xs) (hb : Below B w w') : Reads w' B size A n xs := h.keep fun _ hp => hb.cell hp
theorem Reads.drew (h : Reads w B size A n xs) : Reads w.drew B size A n xs := h
theorem Reads.drewN (h : Reads w B size A n xs) (k : Nat) : Reads (w.drewN k) B size A n xs := h
theorem Reads.alloc (h : Reads w B size A n xs) (hB : B ≤ w.heap.size) (o : Obj) : Reads (w.alloc o) B size A n xs := h.keep fun p hp => World.cell?_alloc_lt w o p (by omega)
theorem Reads.setCell (h : Reads w B size A n xs) {p : Addr} (hB : B ≤ p.block) (u : Value) : Reads (w.setCell p u) B size A n xs :=
  h.keep fun q hq => World.cell?_setCell_other w p q u (fun e => by subst e; omega)
theorem Reads.grown (h : Reads w B size A n xs) {row : Option Nat} (hg : w.grownBy w' row) (hB : B ≤ w.heap.size) (hr : ∀ g, row = some g → B ≤ g) : Reads w' B size A n xs :=
  h.keep fun p hp => World.cell?_of_block (hg.block p.block (by omega) (fun e => by have := hr _ e.symm; omega))
theorem Reads.cut (h : Reads w B size A n xs) {k cap : Nat} (hk : k ≤ n) (hc : n ≤ cap) :
    Reads w B size (if cap = k then A else A.map (·.add (k * size))) (n - k) (xs.drop (k * size)) := by
  refine ⟨by rw [List.length_drop, h.1, Nat.sub_mul], fun hn => ?_⟩
  obtain ⟨ad, rfl, hb, hcell⟩ := h.2 (by omega)
  rw [if_neg (by omega)]
  refine ⟨ad.add (k * size), rfl, by rw [block_of_add]; exact hb, fun j u hu => ?_⟩
  rw [add_of_add]
  exact hcell _ u (by rw [← hu, List.getElem?_drop])
theorem Reads.of_own {base : Nat} {e : TypeId} {c : Nat} (h : w.ownsRow base e size (.slice A n c) n xs) : Reads w w.heap.size size A n xs := by
  refine ⟨h.1, fun hn => ?_⟩
  obtain ⟨g, cap, hv, _, hlt⟩ := h.form hn
  have hA : A = some ⟨g, 0, none⟩ := by injection hv
  subst hA
  exact ⟨_, rfl, hlt, h.cells (g := g) rfl⟩
end
section
variable {P : Program} (w : World)

theorem run_append_of_nil (base : Nat) (t ty e : TypeId) (i : TypeInfo) (size : Nat) (ht : P.underlying t = some (.slice e)) (hi : P.info? e = some i)
    (v : Value) (n : Nat) (xs : List Value) (hown : w.ownsRow base e size v n xs) (c : Nat) : (Builtin.append_ #[t, t] ty #[v, .slice none 0 c]).run P w = .ok v w := by
  rcases hown.2 with ⟨rfl, rfl⟩ | ⟨g, cap, cur, rfl, _, _, hnc, _⟩
  · simp [Builtin.append_, run_underlying ht, sizeOf, typeInfo, hi, Builtin.lenOf, Builtin.firstCells]
  · simp [Builtin.append_, run_underlying ht, sizeOf, typeInfo, hi, Builtin.lenOf, Builtin.firstCells, hnc, storeCells]

theorem run_append_any (base : Nat) (t ty e : TypeId) (i : TypeInfo) (z : Value) (size bytes : Nat) (ht : P.underlying t = some (.slice e)) (hi : P.info? e = some i) (hz : i.zero = some z)
    (hsize : i.size = size) (hby : i.bytes = bytes) (hzs : z.cells.size = size) (hsz : 0 < size)
    (v : Value) (n : Nat) (xs : List Value) (hown : w.ownsRow base e size v n xs)
    (B : Nat) (A : Option Addr) (m c : Nat) (news : List Value) (hr : Reads w B size A m news) (h1 : ∀ u ∈ news, u.oneCell' = true)
    (h63 : n + m ≤ maxLen) (hbytes : (n + m) * bytes ≤ 140737488355328) (hbase : base ≤ w.heap.size) :
    ∃ v' w', (Builtin.append_ #[t, t] ty #[v, .slice A m c]).run P w = .ok v' w' ∧ w'.ownsRow base e size v' (n + m) (xs ++ news) ∧ w.grownBy w' v.ownBlock ∧
      (v'.ownBlock = v.ownBlock ∨ v'.ownBlock = some w.heap.size) := by
  rcases A with _ | ad
  · have hm : m = 0 := by
      rcases Nat.eq_zero_or_pos m with h0 | h0
      · exact h0
      · obtain ⟨ad, h, _⟩ := hr.2 h0
        cases h
    subst hm
    have hn : news = [] := List.eq_nil_of_length_eq_zero (by simpa using hr.1)
    subst hn
    exact ⟨v, w, run_append_of_nil w base t ty e i size ht hi v n xs hown c, by simpa using hown, World.grownBy.refl w _, .inl rfl⟩
  · have hcells : ∀ j u, news[j]? = some u → w.cell? (ad.add j) = some u := by
      intro j u hu
      rcases Nat.eq_zero_or_pos m with h0 | h0
      · subst h0
        have hn : news = [] := List.eq_nil_of_length_eq_zero (by simpa using hr.1)
        subst hn
        simp at hu
      · obtain ⟨ad', h, _, hc⟩ := hr.2 h0
        injection h with h
        subst h
        exact hc j u hu
    obtain ⟨v', w', hrun, h2, h3, _, h5⟩ := run_append_own_at (P := P) w base t ty e i z size bytes ht hi hz hsize hby hzs hsz v n xs hown ad m c news hr.1 hcells h1 h63 hbytes hbase
    exact ⟨v', w', hrun, h2, h3, h5⟩

theorem wp_append_any {o : Oper} {a : Act} {K : Act → World → Prop} {Q : Exit → Act → World → Prop} (s x : Operand) (t : TypeId)
    (ho : o.op = .call { callee := .builtin .append, args := #[s, x], argTypes := #[t, t] })
    (base : Nat) (e : TypeId) (i : TypeInfo) (z : Value) (size bytes : Nat) (ht : P.underlying t = some (.slice e)) (hi : P.info? e = some i) (hz : i.zero = some z)
    (hsize : i.size = size) (hby : i.bytes = bytes) (hzs : z.cells.size = size) (hsz : 0 < size)
    (v : Value) (n : Nat) (xs : List Value) (hs : a.eval s = v) (hown : w.ownsRow base e size v n xs)
    (B : Nat) (A : Option Addr) (m c : Nat) (news : List Value) (hx : a.eval x = .slice A m c) (hr : Reads w B size A m news) (h1 : ∀ u ∈ news, u.oneCell' = true)
    (h63 : n + m ≤ maxLen) (hbytes : (n + m) * bytes ≤ 140737488355328) (hbase : base ≤ w.heap.size)
    (h : ∀ v' w', w'.ownsRow base e size v' (n + m) (xs ++ news) → w.grownBy w' v.ownBlock → (v'.ownBlock = v.ownBlock ∨ v'.ownBlock = some w.heap.size) → K (a.put o.dst v') w') : o.wp P a w K Q := by
  obtain ⟨v', w', hrun, h2, h3, h4⟩ := run_append_any (P := P) w base t o.type e i z size bytes ht hi hz hsize hby hzs hsz v n xs hown B A m c news hr h1 h63 hbytes hbase
  unfold Oper.wp execOp
  simp only [ho, resolve, invoke, builtin, Sem.run_bind, Sem.run_pure, Result.andThen_ok, List.map_toArray, List.map_cons, List.map_nil, hs, hx, hrun]
  exact h v' w' h2 h3 h4

theorem wpList_append_any {ops : Array Oper} {rest : List Oper} {o : Oper} {a : Act} {Q : Exit → Act → World → Prop} (hgd : o.guard = none) (s x : Operand) (t : TypeId)
    (ho : o.op = .call { callee := .builtin .append, args := #[s, x], argTypes := #[t, t] })
    (base : Nat) (e : TypeId) (i : TypeInfo) (z : Value) (size bytes : Nat) (ht : P.underlying t = some (.slice e)) (hi : P.info? e = some i) (hz : i.zero = some z)
    (hsize : i.size = size) (hby : i.bytes = bytes) (hzs : z.cells.size = size) (hsz : 0 < size)
    (v : Value) (n : Nat) (xs : List Value) (hs : a.eval s = v) (hown : w.ownsRow base e size v n xs)
    (B : Nat) (A : Option Addr) (m c : Nat) (news : List Value) (hx : a.eval x = .slice A m c) (hr : Reads w B size A m news) (h1 : ∀ u ∈ news, u.oneCell' = true)
    (h63 : n + m ≤ maxLen) (hbytes : (n + m) * bytes ≤ 140737488355328) (hbase : base ≤ w.heap.size)
    (h : ∀ v' w', w'.ownsRow base e size v' (n + m) (xs ++ news) → w.grownBy w' v.ownBlock → (v'.ownBlock = v.ownBlock ∨ v'.ownBlock = some w.heap.size) → wpList P ops Q rest (a.put o.dst v') w') : wpList P ops Q (o :: rest) a w :=
  wpList_plain hgd fun _ hK => wp_append_any w s x t ho base e i z size bytes ht hi hz hsize hby hzs hsz v n xs hs hown B A m c news hx hr h1 h63 hbytes hbase fun v' w' h2 h3 h4 => hK _ _ (h v' w' h2 h3 h4)

theorem step_append_any {ops : Array Oper} {o : Oper} {a : Act} {K : Act → World → Prop} {Q : Exit → Act → World → Prop} {E : Prop} (hgd : o.guard = none) (s x : Operand) (t : TypeId)
    (ho : o.op = .call { callee := .builtin .append, args := #[s, x], argTypes := #[t, t] })
    (base : Nat) (e : TypeId) (i : TypeInfo) (z : Value) (size bytes : Nat) (ht : P.underlying t = some (.slice e)) (hi : P.info? e = some i) (hz : i.zero = some z)
    (hsize : i.size = size) (hby : i.bytes = bytes) (hzs : z.cells.size = size) (hsz : 0 < size)
    (v : Value) (n : Nat) (xs : List Value) (hs : a.eval s = v) (hown : w.ownsRow base e size v n xs)
    (B : Nat) (A : Option Addr) (m c : Nat) (news : List Value) (hx : a.eval x = .slice A m c) (hr : Reads w B size A m news) (h1 : ∀ u ∈ news, u.oneCell' = true)
    (h63 : n + m ≤ maxLen) (hbytes : (n + m) * bytes ≤ 140737488355328) (hbase : base ≤ w.heap.size)
    (h : ∀ v' w', w'.ownsRow base e size v' (n + m) (xs ++ news) → w.grownBy w' v.ownBlock → (v'.ownBlock = v.ownBlock ∨ v'.ownBlock = some w.heap.size) → K (a.put o.dst v') w') :
    if Region.wanted o (yielded ops a.tmps) = true then Oper.wp P o a w K Q else E := by
  have hw : Region.wanted o (yielded ops a.tmps) = true := by simp [Region.wanted, hgd]
  rw [if_pos hw]
  exact wp_append_any w s x t ho base e i z size bytes ht hi hz hsize hby hzs hsz v n xs hs hown B A m c news hx hr h1 h63 hbytes hbase h
end
theorem Keeps.grown {S : List Nat} {a b c : World} {row : Option Nat} (h : Keeps S a b) (hg : b.grownBy c row) (hr : ∀ k, row = some k → k ∈ S ∨ a.heap.size ≤ k) : Keeps S a c :=
  ⟨hg.os.trans h.os, hg.tape.trans h.tape, hg.output.trans h.output, Nat.le_trans h.size hg.size, fun i hi hn => (hg.block i (Nat.lt_of_lt_of_le hi h.size) (fun e => by
    rcases hr i e.symm with h1 | h1
    · exact hn h1
    · omega)).trans (h.block i hi hn)⟩
theorem ownsRow_keeps {w w' : World} {S : List Nat} {base size n : Nat} {e : TypeId} {v : Value} {xs : List Value} (h : w.ownsRow base e size v n xs) (hk : Keeps S w w') (hS : ∀ k, v.ownBlock = some k → k ∉ S) : w'.ownsRow base e size v n xs := by
  refine ⟨h.1, ?_⟩
  rcases h.2 with h1 | ⟨g, cap, cur, rfl, hb, hh, hr⟩
  · exact .inl h1
  · refine .inr ⟨g, cap, cur, rfl, hb, ?_, hr⟩
    have hlt : g < w.heap.size := by
      rcases Nat.lt_or_ge g w.heap.size with h1 | h1
      · exact h1
      · rw [Array.getElem?_eq_none h1] at hh; cases hh
    rw [hk.block g hlt (hS g rfl)]; exact hh
theorem ownsRow_setCell {w : World} {base size n : Nat} {e : TypeId} {v : Value} {xs : List Value} (h : w.ownsRow base e size v n xs) (p : Addr) (u : Value) (hp : v.ownBlock ≠ some p.block) : (w.setCell p u).ownsRow base e size v n xs := by
  refine ⟨h.1, ?_⟩
  rcases h.2 with h1 | ⟨g, cap, cur, rfl, hb, hh, hr⟩
  · exact .inl h1
  · refine .inr ⟨g, cap, cur, rfl, hb, ?_, hr⟩
    have hne : g ≠ p.block := fun e => hp (by simp [Value.ownBlock, e])
    rw [Below.heap_setCell w p u g hne]; exact hh
theorem Blk.grown {w w' : World} {g : Nat} {t : TypeId} {cs : Array Value} {row : Option Nat} (h : Blk w g t cs) (hb : w.grownBy w' row) (hg : some g ≠ row) : Blk w' g t cs := (hb.block g h.lt hg).trans h
theorem own_blk_ne {w : World} {g : Nat} {t : TypeId} {cs : Array Value} {base : Nat} {e : TypeId} {size n : Nat} {v : Value} {xs : List Value} (h : w.ownsRow base e size v n xs) (hg : Blk w g t cs) (hne : e ≠ t) : v.ownBlock ≠ some g := by
  rcases h.2 with ⟨rfl, _⟩ | ⟨g', cap, cur, rfl, _, hh, _⟩
  · simp [Value.ownBlock]
  · intro he
    have : g' = g := by simpa [Value.ownBlock] using he
    subst this
    exact Blk.ne_ (t := e) hh hg hne rfl
end Sm
end Go.Proofs.Ytdbkgpnbmafpmaa
