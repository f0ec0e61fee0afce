/- Queues of campanile/frame.Frame: room for one more. -/
import Derived.Test.YtdbkgpnbmafpmaaQrFB
import Derived.Laws.MakeOwn
import Derived.OwnWalk
namespace Go.Proofs.Ytdbkgpnbmafpmaa
open Go.RowKit
namespace FiF
open Sm
/-- A queue with room for one more. -/
def Qm (w : World) (g r : Nat) (l : List It) (lim dr : Int) : Prop :=
  ∃ A len c f R, Qs w g r A len c f l.length lim dr R ∧ (∀ i, i < l.length → l[i]? = some (R ((f + i) % len))) ∧ 0 ≤ lim ∧ lim ≤ 65536 ∧ (l.length : Int) ≤ lim ∧ 0 ≤ dr ∧ dr ≤ 100000 ∧ l.length < len
theorem elem_all : (Try.prog.info? 39).map (fun i => (i.zero, i.size, i.bytes)) = some (some (.agg #[.int .i64 0, .int .i64 0, .string ⟨#[]⟩]), 3, 32) := by kernel_rfl
theorem mk_any (y : Int) (n : Nat) (h : y = (n : Int)) (hn : n ≤ 65536) (w : World) : (Instr.makeSlice 91 (.int .i64 y) (.int .i64 y)).run Try.prog w = .ok (.slice (some ⟨w.heap.size, 0, none⟩) n n) (w.alloc (.cells (madeCells #[.int .i64 0, .int .i64 0, .string ⟨#[]⟩] (n * 3)) 39)) := by
  obtain ⟨i, hi, hz, hs, hb⟩ := info_parts elem_all
  subst h
  have := run_make (P := Try.prog) w 91 39 i (.agg #[.int .i64 0, .int .i64 0, .string ⟨#[]⟩]) Try.underlying91 hi hz .i64 .i64 n n (by omega) (Int.le_refl _) (by rw [hb]; omega) (by omega)
  rw [hs] at this
  exact this
theorem made_get (n i j : Nat) (hi : i < n) (hj : j < 3) : (madeCells #[.int .i64 0, .int .i64 0, .string ⟨#[]⟩] (n * 3))[i * 3 + j]? = (#[.int .i64 0, .int .i64 0, .string ⟨#[]⟩] : Array Value)[j]? := by
  have hlt : i * 3 + j < n * 3 := by omega
  have hsz : (#[.int .i64 0, .int .i64 0, .string ⟨#[]⟩] : Array Value).size = 3 := rfl
  unfold madeCells
  rw [Array.getElem?_map, Array.getElem?_range, if_pos hlt]
  simp only [Option.map_some, hsz]
  rw [show (i * 3 + j) % 3 = j from by omega]
  rw [getElem!_pos (#[.int .i64 0, .int .i64 0, .string ⟨#[]⟩] : Array Value) j (by rw [hsz]; exact hj), Array.getElem?_eq_getElem (show j < (#[.int .i64 0, .int .i64 0, .string ⟨#[]⟩] : Array Value).size from by rw [hsz]; exact hj)]
theorem room_made (w : World) (n : Nat) : Room (w.alloc (.cells (madeCells #[.int .i64 0, .int .i64 0, .string ⟨#[]⟩] (n * 3)) 39)) w.heap.size n (fun _ => z) := by
  have hB := Blk.new w 39 (madeCells #[.int .i64 0, .int .i64 0, .string ⟨#[]⟩] (n * 3))
  refine ⟨fun i hi j v hv => ?_, fun i _ j _ => hB.frozen _, by simp⟩
  have hj : j < 3 := (List.getElem?_eq_some_iff.1 hv).1
  rw [hB.cell, made_get n i j hi hj, ← hv]
  show (#[.int .i64 0, .int .i64 0, .string ⟨#[]⟩] : Array Value)[j]? = (#[.int .i64 0, .int .i64 0, .string ⟨#[]⟩] : Array Value).toList[j]?
  rw [Array.getElem?_toList]
attribute [local irreducible] cs
def IsGrow (g r : Nat) (l : List It) (lim dr : Int) (w : World) (e : Ending) (w' : World) : Prop :=
  e = .returned (.tuple #[]) ∧ ∃ r', Qm w' g r' l lim dr ∧ Keeps [g, r] w w' ∧ (r' = r ∨ w.heap.size ≤ r')
theorem grow_not (g r : Nat) (A : Option Addr) (len c f n : Nat) (lim dr : Int) (R : Nat → It) (w : World) (h : Qs w g r A len c f n lim dr R) (hn : n < len) :
    Calls Try.prog 45 #[.pointer (some ⟨g, 0, none⟩)] w fun e w' => e = .returned (.tuple #[]) ∧ Drawn w w' := by
  obtain ⟨c0, _, c2, _, _, _⟩ := h.cells
  have hlen := h.hlen
  have h0 : (n : Int) < (len : Int) := by omega
  clear h
  go_enter Try.func45, Try.ntmps45
  go_wp2_with fail
  go_quiet (fail)
  go_wp2
  refine bodyPost_ret (v := .tuple #[]) (by simp [results, Try.results45, go_sem]) rfl ?_
  exact ⟨rfl, nq, rfl⟩
def fillR (R : Nat → It) (f len i : Nat) : Nat → It := fun j => if j < i then R ((f + j) % len) else z
theorem fill_0 (R : Nat → It) (f len : Nat) : fillR R f len 0 = fun _ => z := by funext j; unfold fillR; rw [if_neg (by omega)]
theorem fill_s (R : Nat → It) (f len i : Nat) : fillR R f len (i + 1) = updR (fillR R f len i) i (R ((f + i) % len)) := by
  funext j
  by_cases h : j = i
  · subst h; rw [updR_at]; unfold fillR; rw [if_pos (by omega)]
  · rw [updR_ne _ _ _ _ h]
    show (if j < i + 1 then R ((f + j) % len) else z) = (if j < i then R ((f + j) % len) else z)
    by_cases h1 : j < i
    · rw [if_pos (by omega), if_pos h1]
    · rw [if_neg (by omega), if_neg h1]
theorem fill_at (R : Nat → It) (f len i j : Nat) (h : j < i) : fillR R f len i j = R ((f + j) % len) := by unfold fillR; rw [if_pos h]
/-- What stands at the head of a round. -/
structure Fill (w wr : World) (g r b : Nat) (A : Option Addr) (len c f n : Nat) (lim dr : Int) (R : Nat → It) (m i : Nat) : Prop where
  q : Qs wr g r A len c f n lim dr R
  rm : Room wr b m (fillR R f len i)
  k : Keeps [] w wr
  new : w.heap.size ≤ b
  im : i ≤ m
theorem Fill.next {w wr w' : World} {g r b : Nat} {A : Option Addr} {len c f n : Nat} {lim dr : Int} {R : Nat → It} {m i : Nat} (h : Fill w wr g r b A len c f n lim dr R m i) (hi : i < m) (hgb : g < b) (hrb : r < b)
    (hk : Keeps [b] wr w') (hr : Room w' b m (updR (fillR R f len i) i (R ((f + i) % len)))) : Fill w w' g r b A len c f n lim dr R m (i + 1) := by
  refine ⟨h.q.keeps hk (by simp; omega) (by simp; omega), ?_, h.k.next hk (by simp; exact h.new), h.new, hi⟩
  rw [fill_s]
  exact hr
set_option maxRecDepth 100000 in
set_option maxHeartbeats 4000000 in
theorem grow_yes (g r : Nat) (A : Option Addr) (len c f n m : Nat) (lim dr : Int) (R : Nat → It) (w : World) (h : Qs w g r A len c f n lim dr R) (hn : n = len) (_h1 : lim ≤ 65536) (hnm : n < m) (hm6 : m ≤ 65536) (g3 : (if lim < (if 2 * (n : Int) < 4 then 4 else 2 * (n : Int)) then lim else (if 2 * (n : Int) < 4 then 4 else 2 * (n : Int))) = (m : Int)) :
    Calls Try.prog 45 #[.pointer (some ⟨g, 0, none⟩)] w fun e w' => e = .returned (.tuple #[]) ∧ Qs w' g w.heap.size (some ⟨w.heap.size, 0, none⟩) m m 0 n lim dr (fillR R f len n) ∧ Keeps [g] w w' := by
  obtain ⟨c0, c1, c2, c3, c4, cf⟩ := h.cells
  have hlen := h.hlen
  have hnl : ¬ ((n : Int) < (len : Int)) := by omega
  have hdl : decide ((n : Int) < (len : Int)) = false := decide_eq_false hnl
  have hw2 : IntKind.i64.wrap (2 * (n : Int)) = 2 * (n : Int) := IntWalk.i64_in _ (by omega)
  have HQ := Lib.hid h
  have HN := Lib.hid hn
  have hgl := h.q.lt
  have hrl : r < w.heap.size := (Qs.rlt h)
  have hle : (len : Int) ≤ (n : Int) := by omega
  clear h hnl hn
  have hmk := fun V => mk_any (if lim < (if 2 * (n : Int) < 4 then 4 else 2 * (n : Int)) then lim else (if 2 * (n : Int) < 4 then 4 else 2 * (n : Int))) m g3 hm6 V
  have HG3 := Lib.hid g3
  clear g3
  go_enter Try.func45, Try.ntmps45
  go_wp2_with fail
  go_quiet (fail)
  go_wp2
  refine wp_region_held_drew (S := (fun V => V.cell? ⟨g, 2, none⟩ = some (.int .i64 (n : Int)) ∧ V.cell? ⟨g, 3, none⟩ = some (.int .i64 lim))) (by kernel_rfl) ⟨c2, c3⟩ (fun hHeld => ?_)
  refine' wpAnyH_take (i := 0) (oi := _) (v := _) ?hG0 (by kernel_rfl) (by kernel_rfl) (by kernel_rfl) ?hQG0 (Or.inl ⟨?hwG0, ?hyG0⟩) hHeld ?restG0
  case hG0 => (simp only [List.getElem?_toArray, List.getElem?_cons_zero]; rfl)
  case hQG0 => exact fun _ _ _ h => h
  case hwG0 => rfl
  case hyG0 => (intro w hSw; (try dsimp only at hSw); go_simp; try with_reducible rfl)
  try simp only [Act.put, List.setIfInBounds_toArray, List.set_cons_zero, List.set_cons_succ]
  refine' wpAnyH_take (i := 1) (oi := _) (v := _) ?hG1 (by kernel_rfl) (by kernel_rfl) (by kernel_rfl) ?hQG1 (Or.inl ⟨?hwG1, ?hyG1⟩) hHeld ?restG1
  case hG1 => (simp only [List.getElem?_toArray, List.getElem?_cons_succ, List.getElem?_cons_zero]; rfl)
  case hQG1 => exact fun _ _ _ h => h
  case hwG1 => rfl
  case hyG1 => (intro w hSw; (try dsimp only at hSw); go_simp; try with_reducible rfl)
  try simp only [Act.put, List.setIfInBounds_toArray, List.set_cons_zero, List.set_cons_succ]
  refine' wpAnyH_take (i := 2) (oi := _) (v := _) ?hG2 (by kernel_rfl) (by kernel_rfl) (by kernel_rfl) ?hQG2 (Or.inl ⟨?hwG2, ?hyG2⟩) hHeld ?restG2
  case hG2 => (simp only [List.getElem?_toArray, List.getElem?_cons_succ, List.getElem?_cons_zero]; rfl)
  case hQG2 => exact fun _ _ _ h => h
  case hwG2 => rfl
  case hyG2 => (intro w hSw; (try dsimp only at hSw); go_simp; try with_reducible rfl)
  try simp only [Act.put, List.setIfInBounds_toArray, List.set_cons_zero, List.set_cons_succ]
  refine' wpAnyH_take (i := 3) (oi := _) (v := _) ?hG3 (by kernel_rfl) (by kernel_rfl) (by kernel_rfl) ?hQG3 (Or.inl ⟨?hwG3, ?hyG3⟩) hHeld ?restG3
  case hG3 => (simp only [List.getElem?_toArray, List.getElem?_cons_succ, List.getElem?_cons_zero]; rfl)
  case hQG3 => exact fun _ _ _ h => h
  case hwG3 => rfl
  case hyG3 => (intro w hSw; (try dsimp only at hSw); go_simp; try with_reducible rfl)
  try simp only [Act.put, List.setIfInBounds_toArray, List.set_cons_zero, List.set_cons_succ]
  refine' wpAnyH_take (i := 4) (oi := _) (v := _) ?hG4 (by kernel_rfl) (by kernel_rfl) (by kernel_rfl) ?hQG4 (Or.inl ⟨?hwG4, ?hyG4⟩) hHeld ?restG4
  case hG4 => (simp only [List.getElem?_toArray, List.getElem?_cons_succ, List.getElem?_cons_zero]; rfl)
  case hQG4 => exact fun _ _ _ h => h
  case hwG4 => rfl
  case hyG4 => (intro w hSw; (try dsimp only at hSw); go_simp; try with_reducible rfl)
  try simp only [Act.put, List.setIfInBounds_toArray, List.set_cons_zero, List.set_cons_succ]
  refine' wpAnyH_take (i := 5) (oi := _) (v := _) ?hG5 (by kernel_rfl) (by kernel_rfl) (by kernel_rfl) ?hQG5 (Or.inl ⟨?hwG5, ?hyG5⟩) hHeld ?restG5
  case hG5 => (simp only [List.getElem?_toArray, List.getElem?_cons_succ, List.getElem?_cons_zero]; rfl)
  case hQG5 => exact fun _ _ _ h => h
  case hwG5 => rfl
  case hyG5 => (intro w hSw; (try dsimp only at hSw); go_simp; try with_reducible rfl)
  try simp only [Act.put, List.setIfInBounds_toArray, List.set_cons_zero, List.set_cons_succ]
  refine' wpAnyH_take (i := 6) (oi := _) (v := _) ?hG6 (by kernel_rfl) (by kernel_rfl) (by kernel_rfl) ?hQG6 (Or.inl ⟨?hwG6, ?hyG6⟩) hHeld ?restG6
  case hG6 => (simp only [List.getElem?_toArray, List.getElem?_cons_succ, List.getElem?_cons_zero]; rfl)
  case hQG6 => exact fun _ _ _ h => h
  case hwG6 => rfl
  case hyG6 => (intro w hSw; (try dsimp only at hSw); go_simp; try with_reducible rfl)
  try simp only [Act.put, List.setIfInBounds_toArray, List.set_cons_zero, List.set_cons_succ]
  refine' wpAnyH_take (i := 7) (oi := _) (v := _) ?hG7 (by kernel_rfl) (by kernel_rfl) (by kernel_rfl) ?hQG7 (Or.inl ⟨?hwG7, ?hyG7⟩) hHeld ?restG7
  case hG7 => (simp only [List.getElem?_toArray, List.getElem?_cons_succ, List.getElem?_cons_zero]; rfl)
  case hQG7 => exact fun _ _ _ h => h
  case hwG7 => rfl
  case hyG7 => (intro w hSw; (try dsimp only at hSw); go_simp; try with_reducible rfl)
  try simp only [Act.put, List.setIfInBounds_toArray, List.set_cons_zero, List.set_cons_succ]
  refine' wpAnyH_take (i := 8) (oi := _) (v := _) ?hG8 (by kernel_rfl) (by kernel_rfl) (by kernel_rfl) ?hQG8 (Or.inl ⟨?hwG8, ?hyG8⟩) hHeld ?restG8
  case hG8 => (simp only [List.getElem?_toArray, List.getElem?_cons_succ, List.getElem?_cons_zero]; rfl)
  case hQG8 => exact fun _ _ _ h => h
  case hwG8 => rfl
  case hyG8 => (intro w hSw; (try dsimp only at hSw); go_simp; try with_reducible rfl)
  try simp only [Act.put, List.setIfInBounds_toArray, List.set_cons_zero, List.set_cons_succ]
  refine' wpAnyH_take (i := 9) (oi := _) (v := _) ?hG9 (by kernel_rfl) (by kernel_rfl) (by kernel_rfl) ?hQG9 (Or.inl ⟨?hwG9, ?hyG9⟩) hHeld ?restG9
  case hG9 => (simp only [List.getElem?_toArray, List.getElem?_cons_succ, List.getElem?_cons_zero]; rfl)
  case hQG9 => exact fun _ _ _ h => h
  case hwG9 => rfl
  case hyG9 => (intro w hSw; (try dsimp only at hSw); go_simp; try with_reducible rfl)
  try simp only [Act.put, List.setIfInBounds_toArray, List.set_cons_zero, List.set_cons_succ]
  refine' wpAnyH_take (i := 10) (oi := _) (v := _) ?hG10 (by kernel_rfl) (by kernel_rfl) (by kernel_rfl) ?hQG10 (Or.inl ⟨?hwG10, ?hyG10⟩) hHeld ?restG10
  case hG10 => (simp only [List.getElem?_toArray, List.getElem?_cons_succ, List.getElem?_cons_zero]; rfl)
  case hQG10 => exact fun _ _ _ h => h
  case hwG10 => rfl
  case hyG10 => (intro w hSw; (try dsimp only at hSw); go_simp; try with_reducible rfl)
  try simp only [Act.put, List.setIfInBounds_toArray, List.set_cons_zero, List.set_cons_succ]
  refine wpAnyH_ready (rs := [11]) (by kernel_rfl) (by simp) ?_
  refine AllReadyH.cons rfl (fun K hK => ?_) AllReadyH.nil
  go_simp
  refine hK.out _ _ (⟨(World.cell?_alloc_lt _ _ _ (by exact hgl)).trans hHeld.1, (World.cell?_alloc_lt _ _ _ (by exact hgl)).trans hHeld.2⟩) (fun hHeld' => ?_)
  clear hK K hHeld
  have hHeld := hHeld'
  clear hHeld'
  try simp only [Act.put, List.setIfInBounds_toArray, List.set_cons_zero, List.set_cons_succ]
  refine' wpAnyH_take (i := 12) (oi := _) (v := _) ?hG12 (by kernel_rfl) (by kernel_rfl) (by kernel_rfl) ?hQG12 (Or.inl ⟨?hwG12, ?hyG12⟩) hHeld ?restG12
  case hG12 => (simp only [List.getElem?_toArray, List.getElem?_cons_succ, List.getElem?_cons_zero]; rfl)
  case hQG12 => exact fun _ _ _ h => h
  case hwG12 => rfl
  case hyG12 => (intro w hSw; (try dsimp only at hSw); go_simp; try with_reducible rfl)
  try simp only [Act.put, List.setIfInBounds_toArray, List.set_cons_zero, List.set_cons_succ]
  refine wpAnyH_done (by kernel_rfl) ?_ _
  clear hHeld hmk HG3
  generalize (if 2 * (n : Int) < 4 then (4 : Int) else 2 * (n : Int)) = x1 at *
  generalize (if lim < x1 then lim else x1) = x2 at *
  have hF : Fill w ((w.drewN (nq + 1)).alloc (.cells (madeCells #[.int .i64 0, .int .i64 0, .string ⟨#[]⟩] (m * 3)) 39)) g r w.heap.size A len c f n lim dr R m 0 := ⟨Qs.keeps HQ.out (((Keeps.refl [] w).drewN _).alloc _) (by simp) (by simp), by rw [fill_0]; exact room_made (w.drewN (nq + 1)) m, ((Keeps.refl [] w).drewN _).alloc _, Nat.le_refl _, by omega⟩
  have q2 := hF.q.cells.2.2.1
  clear c0 c1 c2 c3 c4 cf hle hdl hw2
  generalize hb : w.heap.size = b at *
  have HB := Lib.hid hb
  clear hb
  generalize (w.drewN (nq + 1)).alloc (.cells (madeCells #[.int .i64 0, .int .i64 0, .string ⟨#[]⟩] (m * 3)) 39) = V at *
  go_wp2
  clear q2
  go_loopw [30] (fun s wr => ∃ i : Nat, i ≤ n ∧ s = .int .i64 i ∧ Fill w wr g r b A len c f n lim dr R m i) (fun s _ => n - (intOf s).toNat)
  case atStart => exact ⟨0, by omega, rfl, hF⟩
  case round =>
    clear hF
    obtain ⟨i, hin, rfl, hF⟩ := hrel
    by_cases hlt : i < n
    · have hnn := HN.out
      have HNN := Lib.hid hnn
      have hl0 : 0 < len := by omega
      rcases hF.q.room with ⟨h0, _, _⟩ | ⟨_, hA, hne, hr⟩
      · omega
      have HAT := Lib.hid (at_any g r A len c f n lim dr R i wr.drew (hF.q.drew) hl0 (by omega))
      subst hA
      have hp := place_bd f i len hl0
      have hc := hr.at_ _ hp
      have HNX := Lib.hid (fun w' hk hr => hF.next (w' := w') (by omega) (by omega) (by omega) hk hr)
      obtain ⟨c0, _, _, _, _, _⟩ := hF.q.cells
      have HRM := Lib.hid hF.rm
      have hgw := hF.q.q.lt
      have hrw := hr.lt
      clear hF hr hnn
      generalize hx : R ((f + i) % len) = x at *
      clear hx
      generalize (f + i) % len = p at *
      have hp0 : (0 : Int) ≤ (p : Int) := by omega
      have hp1 : (p : Int) < (len : Int) := by omega
      have hi0 : (0 : Int) ≤ (i : Int) := by omega
      have hi1 : (i : Int) < (m : Int) := by omega
      have hcd : wr.drew.rangeAt r (p * 3) (cs x) := hc
      go_wp2
      refine wp_region_held_drew (S := (fun V => V.cell? ⟨g, 0, none⟩ = some (.slice (some ⟨r, 0, none⟩) len c) ∧ V.rangeAt r (p * 3) (cs x) ∧ True)) (by kernel_rfl) ⟨c0, hcd, trivial⟩ (fun hHeld => ?_)
      refine' wpAnyH_take (i := 0) (oi := _) (v := _) ?hL0 (by kernel_rfl) (by kernel_rfl) (by kernel_rfl) ?hQL0 (Or.inl ⟨?hwL0, ?hyL0⟩) hHeld ?restL0
      case hL0 => (simp only [List.getElem?_toArray, List.getElem?_cons_zero]; rfl)
      case hQL0 => exact fun _ _ _ h => h
      case hwL0 => rfl
      case hyL0 => (intro w hSw; (try dsimp only at hSw); go_simp; try with_reducible rfl)
      try simp only [Act.put, List.setIfInBounds_toArray, List.set_cons_zero, List.set_cons_succ]
      refine' wpAnyH_take (i := 1) (oi := _) (v := _) ?hL1 (by kernel_rfl) (by kernel_rfl) (by kernel_rfl) ?hQL1 (Or.inl ⟨?hwL1, ?hyL1⟩) hHeld ?restL1
      case hL1 => (simp only [List.getElem?_toArray, List.getElem?_cons_succ, List.getElem?_cons_zero]; rfl)
      case hQL1 => exact fun _ _ _ h => h
      case hwL1 => rfl
      case hyL1 => (intro w hSw; (try dsimp only at hSw); go_simp; try with_reducible rfl)
      try simp only [Act.put, List.setIfInBounds_toArray, List.set_cons_zero, List.set_cons_succ]
      refine' wpAnyH_take (i := 2) (oi := _) (v := _) ?hL2 (by kernel_rfl) (by kernel_rfl) (by kernel_rfl) ?hQL2 (Or.inl ⟨?hwL2, ?hyL2⟩) hHeld ?restL2
      case hL2 => (simp only [List.getElem?_toArray, List.getElem?_cons_succ, List.getElem?_cons_zero]; rfl)
      case hQL2 => exact fun _ _ _ h => h
      case hwL2 => rfl
      case hyL2 => (intro w hSw; (try dsimp only at hSw); go_simp; try with_reducible rfl)
      try simp only [Act.put, List.setIfInBounds_toArray, List.set_cons_zero, List.set_cons_succ]
      refine' wpAnyH_take (i := 3) (oi := _) (v := _) ?hL3 (by kernel_rfl) (by kernel_rfl) (by kernel_rfl) ?hQL3 (Or.inl ⟨?hwL3, ?hyL3⟩) hHeld ?restL3
      case hL3 => (simp only [List.getElem?_toArray, List.getElem?_cons_succ, List.getElem?_cons_zero]; rfl)
      case hQL3 => exact fun _ _ _ h => h
      case hwL3 => rfl
      case hyL3 => (intro w hSw; (try dsimp only at hSw); go_simp; try with_reducible rfl)
      try simp only [Act.put, List.setIfInBounds_toArray, List.set_cons_zero, List.set_cons_succ]
      refine' wpAnyH_take (i := 4) (oi := _) (v := _) ?hL4 (by kernel_rfl) (by kernel_rfl) (by kernel_rfl) ?hQL4 (Or.inl ⟨?hwL4, ?hyL4⟩) hHeld ?restL4
      case hL4 => (simp only [List.getElem?_toArray, List.getElem?_cons_succ, List.getElem?_cons_zero]; rfl)
      case hQL4 => exact fun _ _ _ h => h
      case hwL4 => rfl
      case hyL4 => (intro w hSw; (try dsimp only at hSw); go_simp; try with_reducible rfl)
      try simp only [Act.put, List.setIfInBounds_toArray, List.set_cons_zero, List.set_cons_succ]
      refine' wpAnyH_take (i := 5) (oi := _) (v := _) ?hL5 (by kernel_rfl) (by kernel_rfl) (by kernel_rfl) ?hQL5 (Or.inl ⟨?hwL5, ?hyL5⟩) hHeld ?restL5
      case hL5 => (simp only [List.getElem?_toArray, List.getElem?_cons_succ, List.getElem?_cons_zero]; rfl)
      case hQL5 => exact fun _ _ _ h => h
      case hwL5 => rfl
      case hyL5 => (intro w hSw; (try dsimp only at hSw); go_simp; try with_reducible rfl)
      try simp only [Act.put, List.setIfInBounds_toArray, List.set_cons_zero, List.set_cons_succ]
      refine' wpAnyH_take (i := 6) (oi := _) (v := _) ?hL6 (by kernel_rfl) (by kernel_rfl) (by kernel_rfl) ?hQL6 (Or.inl ⟨?hwL6, ?hyL6⟩) hHeld ?restL6
      case hL6 => (simp only [List.getElem?_toArray, List.getElem?_cons_succ, List.getElem?_cons_zero]; rfl)
      case hQL6 => exact fun _ _ _ h => h
      case hwL6 => rfl
      case hyL6 => (intro w hSw; (try dsimp only at hSw); go_simp; try with_reducible rfl)
      try simp only [Act.put, List.setIfInBounds_toArray, List.set_cons_zero, List.set_cons_succ]
      refine' wpAnyH_take (i := 7) (oi := _) (v := _) ?hL7 (by kernel_rfl) (by kernel_rfl) (by kernel_rfl) ?hQL7 (Or.inl ⟨?hwL7, ?hyL7⟩) hHeld ?restL7
      case hL7 => (simp only [List.getElem?_toArray, List.getElem?_cons_succ, List.getElem?_cons_zero]; rfl)
      case hQL7 => exact fun _ _ _ h => h
      case hwL7 => rfl
      case hyL7 => (intro w hSw; (try dsimp only at hSw); go_simp; try with_reducible rfl)
      try simp only [Act.put, List.setIfInBounds_toArray, List.set_cons_zero, List.set_cons_succ]
      refine wpAnyH_ready (rs := [8]) (by kernel_rfl) (by simp) ?_
      refine AllReadyH.cons rfl (fun K hK => ?_) AllReadyH.nil
      go_simp
      refine (HAT.out).mono ?_
      rintro e v9 ⟨rfl, hd9⟩
      try go_wp2_with fail
      refine hK.out _ _ (⟨(hd9.cell _).trans hHeld.1, fun j u hu => (hd9.cell _).trans (hHeld.2.1 j u hu), trivial⟩) (fun hHeld' => ?_)
      clear hK K hHeld
      have hHeld := hHeld'
      clear hHeld'
      try simp only [Act.put, List.setIfInBounds_toArray, List.set_cons_zero, List.set_cons_succ]
      refine' wpAnyH_take (i := 9) (oi := _) (v := _) ?hL9 (by kernel_rfl) (by kernel_rfl) (by kernel_rfl) ?hQL9 (Or.inl ⟨?hwL9, ?hyL9⟩) hHeld ?restL9
      case hL9 => (simp only [List.getElem?_toArray, List.getElem?_cons_succ, List.getElem?_cons_zero]; rfl)
      case hQL9 => exact fun _ _ _ h => h
      case hwL9 => rfl
      case hyL9 => (intro w hSw; (try dsimp only at hSw); go_simp; try with_reducible rfl)
      try simp only [Act.put, List.setIfInBounds_toArray, List.set_cons_zero, List.set_cons_succ]
      refine' wpAnyH_take (i := 10) (oi := _) (v := .agg (cs x).toArray) ?hL10 (by kernel_rfl) (by kernel_rfl) (by kernel_rfl) ?hQL10 ?hyL10 hHeld ?restL10
      case hL10 => (simp only [List.getElem?_toArray, List.getElem?_cons_succ, List.getElem?_cons_zero]; rfl)
      case hQL10 => exact fun _ _ _ h => h
      case hyL10 => (apply yieldsIf_load_mid (b := r) (o := p * 3) (cs := cs x); (case hw => rfl); (case ho => rfl); (case hx => rfl); (case hS => exact fun _ h => h.2.1); (case hu => exact Try.underlying39); (case hd => rfl); (case hi => exact info_cs _))
      try simp only [Act.put, List.setIfInBounds_toArray, List.set_cons_zero, List.set_cons_succ]
      refine' wpAnyH_take (i := 11) (oi := _) (v := _) ?hL11 (by kernel_rfl) (by kernel_rfl) (by kernel_rfl) ?hQL11 (Or.inl ⟨?hwL11, ?hyL11⟩) hHeld ?restL11
      case hL11 => (simp only [List.getElem?_toArray, List.getElem?_cons_succ, List.getElem?_cons_zero]; rfl)
      case hQL11 => exact fun _ _ _ h => h
      case hwL11 => rfl
      case hyL11 => (intro w hSw; (try dsimp only at hSw); go_simp; try with_reducible rfl)
      try simp only [Act.put, List.setIfInBounds_toArray, List.set_cons_zero, List.set_cons_succ]
      refine wpAnyH_ready (rs := [12]) (by kernel_rfl) (by simp) ?_
      refine' AllReadyH.cons (o := _) ?hoL12 (fun K hK => ?stL12) AllReadyH.nil
      case hoL12 => (simp only [List.getElem?_toArray, List.getElem?_cons_succ, List.getElem?_cons_zero]; rfl)
      rw [if_pos (by rfl)]
      refine wp_store_room _ _ rfl b m (fillR R f len i) i x rfl rfl (HRM.out.keeps (((Keeps.refl [] wr).drew).drawn hd9) (by simp)) (by omega) ?_
      intro w3 hr3 hk3
      refine hK.out _ _ (⟨(hk3.cell (p := ⟨g, 0, none⟩) (by have := ((Keeps.refl [] wr).drew.drawn hd9).size; show g < _; omega) (by simp; omega)).trans hHeld.1, fun j u hu => (hk3.cell (p := ⟨r, p * 3 + j, none⟩) (by have := ((Keeps.refl [] wr).drew.drawn hd9).size; show r < _; omega) (by simp; omega)).trans (hHeld.2.1 j u hu), trivial⟩) (fun hHeld' => ?_)
      clear hK K hHeld
      have hHeld := hHeld'
      clear hHeld'
      try simp only [Act.put]
      refine wpAnyH_done (by kernel_rfl) ?_ _
      have hk3' : Keeps [b] wr w3 := (((Keeps.refl [b] wr).drew).drawn hd9).next hk3 (by simp)
      clear hHeld HAT hc hcd
      go_wp2
      go_roundw
      case rel => exact ⟨i + 1, by omega, by go_num, HNX.out _ hk3' hr3⟩
      case measure => simp [intOf]; omega
    · obtain rfl : i = n := by omega
      obtain ⟨c0, c1, c2, c3, c4, cf⟩ := hF.q.cells
      have HFF := Lib.hid hF
      clear hF
      go_wp2
      go_end0
      rw [HB.out]
      refine ⟨rfl, ⟨?_, .inr ⟨by omega, rfl, by omega, ?_⟩, .inl (by omega), by omega, hm6⟩, ?_⟩
      · exact (HFF.out.q.q.set_ 0 (.slice (some ⟨b, 0, none⟩) m m)).set_ 1 (.int .i64 0)
      · exact HFF.out.rm.keeps (((Keeps.refl [g] wr).setCell (p := ⟨g, 0, none⟩) (by simp) _).setCell (p := ⟨g, 1, none⟩) (by simp) _) (by simp; omega)
      · exact ((HFF.out.k.more (by simp)).setCell (by simp) _).setCell (by simp) _
end FiF
end Go.Proofs.Ytdbkgpnbmafpmaa
