/- Queues of string: room for one more. -/
import Derived.Test.YtiemnnoeljphoaaFifoSB
import Derived.Laws.MakeOwn
import Derived.OwnWalk
namespace Go.Proofs.Ytiemnnoeljphoaa
open Go.RowKit
namespace FiS
open Sm
/-- A queue with room for one more. -/
def Qr (w : World) (g r : Nat) (l : List ByteArray) (lim dr : Int) : Prop :=
  ∃ A len c f R, Qs w g r A len c f l.length lim dr R ∧ (∀ i, i < l.length → l[i]? = some (R ((f + i) % len))) ∧ 0 ≤ lim ∧ lim ≤ 65536 ∧ (l.length : Int) ≤ lim ∧ 0 ≤ dr ∧ dr ≤ 100000 ∧ l.length < len
theorem elem_all : (Try.prog.info? 9).map (fun i => (i.zero, i.size, i.bytes)) = some (some (.string ⟨#[]⟩), 1, 16) := by kernel_rfl
theorem mk_any (z : Int) (n : Nat) (h : z = (n : Int)) (hn : n ≤ 65536) (w : World) : (Instr.makeSlice 28 (.int .i64 z) (.int .i64 z)).run Try.prog w = .ok (.slice (some ⟨w.heap.size, 0, none⟩) n n) (w.alloc (.cells (madeCells #[(.string ⟨#[]⟩)] n) 9)) := by
  obtain ⟨i, hi, hz, hs, hb⟩ := info_parts elem_all
  subst h
  have := run_make (P := Try.prog) w 28 9 i (.string ⟨#[]⟩) Try.underlying28 hi hz .i64 .i64 n n (by omega) (Int.le_refl _) (by rw [hb]; omega) (by omega)
  rw [hs] at this
  simpa [Value.cells] using this
theorem room_made (w : World) (n : Nat) : Room (w.alloc (.cells (madeCells #[(.string ⟨#[]⟩)] n) 9)) w.heap.size n (fun _ => ⟨#[]⟩) := by
  have hB := Blk.new w 9 (madeCells #[(.string ⟨#[]⟩)] n)
  refine ⟨fun i hi => ?_, fun i _ => hB.frozen _, by simp⟩
  rw [hB.cell]
  simp [madeCells, hi, Nat.mod_one]
def IsGrow (g r : Nat) (l : List ByteArray) (lim dr : Int) (w : World) (e : Ending) (w' : World) : Prop :=
  e = .returned (.tuple #[]) ∧ ∃ r', Qr w' g r' l lim dr ∧ Keeps [g, r] w w' ∧ (r' = r ∨ w.heap.size ≤ r')
theorem grow_not (g r : Nat) (A : Option Addr) (len c f n : Nat) (lim dr : Int) (R : Nat → ByteArray) (w : World) (h : Qs w g r A len c f n lim dr R) (hn : n < len) :
    Calls Try.prog 19 #[.pointer (some ⟨g, 0, none⟩)] w fun e w' => e = .returned (.tuple #[]) ∧ Drawn w w' := by
  obtain ⟨c0, _, c2, _, _, _⟩ := h.cells
  have hlen := h.hlen
  have h0 : (n : Int) < (len : Int) := by omega
  clear h
  go_enter Try.func19, Try.ntmps19
  go_wp2_with fail
  go_quiet (fail)
  go_wp2
  refine bodyPost_ret (v := .tuple #[]) (by simp [results, Try.results19, go_sem]) rfl ?_
  exact ⟨rfl, nq, rfl⟩
def fillR (R : Nat → ByteArray) (f len i : Nat) : Nat → ByteArray := fun j => if j < i then R ((f + j) % len) else ⟨#[]⟩
theorem fill_0 (R : Nat → ByteArray) (f len : Nat) : fillR R f len 0 = fun _ => ⟨#[]⟩ := by funext j; unfold fillR; rw [if_neg (by omega)]
theorem fill_s (R : Nat → ByteArray) (f len i : Nat) : fillR R f len (i + 1) = updR (fillR R f len i) i (R ((f + i) % len)) := by
  funext j
  by_cases h : j = i
  · subst h; rw [updR_at]; unfold fillR; rw [if_pos (by omega)]
  · rw [updR_ne _ _ _ _ h]
    show (if j < i + 1 then R ((f + j) % len) else ⟨#[]⟩) = (if j < i then R ((f + j) % len) else ⟨#[]⟩)
    by_cases h1 : j < i
    · rw [if_pos (by omega), if_pos h1]
    · rw [if_neg (by omega), if_neg h1]
theorem fill_at (R : Nat → ByteArray) (f len i j : Nat) (h : j < i) : fillR R f len i j = R ((f + j) % len) := by unfold fillR; rw [if_pos h]
/-- What stands at the head of a round. -/
structure Fill (w wr : World) (g r b : Nat) (A : Option Addr) (len c f n : Nat) (lim dr : Int) (R : Nat → ByteArray) (m i : Nat) : Prop where
  q : Qs wr g r A len c f n lim dr R
  rm : Room wr b m (fillR R f len i)
  k : Keeps [] w wr
  new : w.heap.size ≤ b
  im : i ≤ m
theorem Fill.next {w wr : World} {g r b : Nat} {A : Option Addr} {len c f n : Nat} {lim dr : Int} {R : Nat → ByteArray} {m i : Nat} (h : Fill w wr g r b A len c f n lim dr R m i) (hi : i < m) (hgb : g < b) (hrb : r < b) (q : Nat) :
    Fill w ((wr.drewN q).setCell ⟨b, i, none⟩ (val (R ((f + i) % len)))) g r b A len c f n lim dr R m (i + 1) := by
  have hk : Keeps [b] wr ((wr.drewN q).setCell ⟨b, i, none⟩ (val (R ((f + i) % len)))) := ((Keeps.refl [b] wr).drewN q).setCell (by simp) _
  refine ⟨h.q.keeps hk (by simp; omega) (by simp; omega), ?_, h.k.next hk (by simp; exact h.new), h.new, hi⟩
  rw [fill_s]
  exact (h.rm.keeps ((Keeps.refl [] wr).drewN q) (by simp)).store i hi _
set_option maxRecDepth 100000 in
set_option maxHeartbeats 4000000 in
theorem grow_yes (g r : Nat) (A : Option Addr) (len c f n m : Nat) (lim dr : Int) (R : Nat → ByteArray) (w : World) (h : Qs w g r A len c f n lim dr R) (hn : n = len) (_h1 : lim ≤ 65536) (hnm : n < m) (hm6 : m ≤ 65536) (g3 : (if lim < (if 2 * (n : Int) < 4 then 4 else 2 * (n : Int)) then lim else (if 2 * (n : Int) < 4 then 4 else 2 * (n : Int))) = (m : Int)) :
    Calls Try.prog 19 #[.pointer (some ⟨g, 0, none⟩)] w fun e w' => e = .returned (.tuple #[]) ∧ Qs w' g w.heap.size (some ⟨w.heap.size, 0, none⟩) m m 0 n lim dr (fillR R f len n) ∧ Keeps [g] w w' := by
  obtain ⟨c0, c1, c2, c3, c4, cf⟩ := h.cells
  have hlen := h.hlen
  have hnl : ¬ ((n : Int) < (len : Int)) := by omega
  have hdl : decide ((n : Int) < (len : Int)) = false := decide_eq_false hnl
  have hw2 : IntKind.i64.wrap (2 * (n : Int)) = 2 * (n : Int) := IntWalk.i64_in _ (by omega)
  have HQ := Lib.hid h
  have HN := Lib.hid hn
  have hgl := h.q.lt
  have hrl : r < w.heap.size := (Qs.rlt h)
  have hle : (len : Int) ≤ (n : Int) := by omega
  clear h hnl hn
  have hmk := fun V => mk_any (if lim < (if 2 * (n : Int) < 4 then 4 else 2 * (n : Int)) then lim else (if 2 * (n : Int) < 4 then 4 else 2 * (n : Int))) m g3 hm6 V
  have HG3 := Lib.hid g3
  clear g3
  go_enter Try.func19, Try.ntmps19
  go_wp2_with fail
  go_quiet (fail)
  go_wp2
  refine wp_region_held_drew (S := (fun V => V.cell? ⟨g, 2, none⟩ = some (.int .i64 (n : Int)) ∧ V.cell? ⟨g, 3, none⟩ = some (.int .i64 lim))) (by kernel_rfl) ⟨c2, c3⟩ (fun hHeld => ?_)
  refine' wpAnyH_take (i := 0) (oi := _) (v := _) ?hGyes0 (by kernel_rfl) (by kernel_rfl) (by kernel_rfl) ?hQGyes0 (Or.inl ⟨?hwGyes0, ?hyGyes0⟩) hHeld ?restGyes0
  case hGyes0 => (simp only [List.getElem?_toArray, List.getElem?_cons_zero]; rfl)
  case hQGyes0 => exact fun _ _ _ h => h
  case hwGyes0 => rfl
  case hyGyes0 => (intro w hSw; (try dsimp only at hSw); go_simp; try with_reducible rfl)
  try simp only [Act.put, List.setIfInBounds_toArray, List.set_cons_zero, List.set_cons_succ]
  refine' wpAnyH_take (i := 1) (oi := _) (v := _) ?hGyes1 (by kernel_rfl) (by kernel_rfl) (by kernel_rfl) ?hQGyes1 (Or.inl ⟨?hwGyes1, ?hyGyes1⟩) hHeld ?restGyes1
  case hGyes1 => (simp only [List.getElem?_toArray, List.getElem?_cons_succ, List.getElem?_cons_zero]; rfl)
  case hQGyes1 => exact fun _ _ _ h => h
  case hwGyes1 => rfl
  case hyGyes1 => (intro w hSw; (try dsimp only at hSw); go_simp; try with_reducible rfl)
  try simp only [Act.put, List.setIfInBounds_toArray, List.set_cons_zero, List.set_cons_succ]
  refine' wpAnyH_take (i := 2) (oi := _) (v := _) ?hGyes2 (by kernel_rfl) (by kernel_rfl) (by kernel_rfl) ?hQGyes2 (Or.inl ⟨?hwGyes2, ?hyGyes2⟩) hHeld ?restGyes2
  case hGyes2 => (simp only [List.getElem?_toArray, List.getElem?_cons_succ, List.getElem?_cons_zero]; rfl)
  case hQGyes2 => exact fun _ _ _ h => h
  case hwGyes2 => rfl
  case hyGyes2 => (intro w hSw; (try dsimp only at hSw); go_simp; try with_reducible rfl)
  try simp only [Act.put, List.setIfInBounds_toArray, List.set_cons_zero, List.set_cons_succ]
  refine' wpAnyH_take (i := 3) (oi := _) (v := _) ?hGyes3 (by kernel_rfl) (by kernel_rfl) (by kernel_rfl) ?hQGyes3 (Or.inl ⟨?hwGyes3, ?hyGyes3⟩) hHeld ?restGyes3
  case hGyes3 => (simp only [List.getElem?_toArray, List.getElem?_cons_succ, List.getElem?_cons_zero]; rfl)
  case hQGyes3 => exact fun _ _ _ h => h
  case hwGyes3 => rfl
  case hyGyes3 => (intro w hSw; (try dsimp only at hSw); go_simp; try with_reducible rfl)
  try simp only [Act.put, List.setIfInBounds_toArray, List.set_cons_zero, List.set_cons_succ]
  refine' wpAnyH_take (i := 4) (oi := _) (v := _) ?hGyes4 (by kernel_rfl) (by kernel_rfl) (by kernel_rfl) ?hQGyes4 (Or.inl ⟨?hwGyes4, ?hyGyes4⟩) hHeld ?restGyes4
  case hGyes4 => (simp only [List.getElem?_toArray, List.getElem?_cons_succ, List.getElem?_cons_zero]; rfl)
  case hQGyes4 => exact fun _ _ _ h => h
  case hwGyes4 => rfl
  case hyGyes4 => (intro w hSw; (try dsimp only at hSw); go_simp; try with_reducible rfl)
  try simp only [Act.put, List.setIfInBounds_toArray, List.set_cons_zero, List.set_cons_succ]
  refine' wpAnyH_take (i := 5) (oi := _) (v := _) ?hGyes5 (by kernel_rfl) (by kernel_rfl) (by kernel_rfl) ?hQGyes5 (Or.inl ⟨?hwGyes5, ?hyGyes5⟩) hHeld ?restGyes5
  case hGyes5 => (simp only [List.getElem?_toArray, List.getElem?_cons_succ, List.getElem?_cons_zero]; rfl)
  case hQGyes5 => exact fun _ _ _ h => h
  case hwGyes5 => rfl
  case hyGyes5 => (intro w hSw; (try dsimp only at hSw); go_simp; try with_reducible rfl)
  try simp only [Act.put, List.setIfInBounds_toArray, List.set_cons_zero, List.set_cons_succ]
  refine' wpAnyH_take (i := 6) (oi := _) (v := _) ?hGyes6 (by kernel_rfl) (by kernel_rfl) (by kernel_rfl) ?hQGyes6 (Or.inl ⟨?hwGyes6, ?hyGyes6⟩) hHeld ?restGyes6
  case hGyes6 => (simp only [List.getElem?_toArray, List.getElem?_cons_succ, List.getElem?_cons_zero]; rfl)
  case hQGyes6 => exact fun _ _ _ h => h
  case hwGyes6 => rfl
  case hyGyes6 => (intro w hSw; (try dsimp only at hSw); go_simp; try with_reducible rfl)
  try simp only [Act.put, List.setIfInBounds_toArray, List.set_cons_zero, List.set_cons_succ]
  refine' wpAnyH_take (i := 7) (oi := _) (v := _) ?hGyes7 (by kernel_rfl) (by kernel_rfl) (by kernel_rfl) ?hQGyes7 (Or.inl ⟨?hwGyes7, ?hyGyes7⟩) hHeld ?restGyes7
  case hGyes7 => (simp only [List.getElem?_toArray, List.getElem?_cons_succ, List.getElem?_cons_zero]; rfl)
  case hQGyes7 => exact fun _ _ _ h => h
  case hwGyes7 => rfl
  case hyGyes7 => (intro w hSw; (try dsimp only at hSw); go_simp; try with_reducible rfl)
  try simp only [Act.put, List.setIfInBounds_toArray, List.set_cons_zero, List.set_cons_succ]
  refine' wpAnyH_take (i := 8) (oi := _) (v := _) ?hGyes8 (by kernel_rfl) (by kernel_rfl) (by kernel_rfl) ?hQGyes8 (Or.inl ⟨?hwGyes8, ?hyGyes8⟩) hHeld ?restGyes8
  case hGyes8 => (simp only [List.getElem?_toArray, List.getElem?_cons_succ, List.getElem?_cons_zero]; rfl)
  case hQGyes8 => exact fun _ _ _ h => h
  case hwGyes8 => rfl
  case hyGyes8 => (intro w hSw; (try dsimp only at hSw); go_simp; try with_reducible rfl)
  try simp only [Act.put, List.setIfInBounds_toArray, List.set_cons_zero, List.set_cons_succ]
  refine' wpAnyH_take (i := 9) (oi := _) (v := _) ?hGyes9 (by kernel_rfl) (by kernel_rfl) (by kernel_rfl) ?hQGyes9 (Or.inl ⟨?hwGyes9, ?hyGyes9⟩) hHeld ?restGyes9
  case hGyes9 => (simp only [List.getElem?_toArray, List.getElem?_cons_succ, List.getElem?_cons_zero]; rfl)
  case hQGyes9 => exact fun _ _ _ h => h
  case hwGyes9 => rfl
  case hyGyes9 => (intro w hSw; (try dsimp only at hSw); go_simp; try with_reducible rfl)
  try simp only [Act.put, List.setIfInBounds_toArray, List.set_cons_zero, List.set_cons_succ]
  refine' wpAnyH_take (i := 10) (oi := _) (v := _) ?hGyes10 (by kernel_rfl) (by kernel_rfl) (by kernel_rfl) ?hQGyes10 (Or.inl ⟨?hwGyes10, ?hyGyes10⟩) hHeld ?restGyes10
  case hGyes10 => (simp only [List.getElem?_toArray, List.getElem?_cons_succ, List.getElem?_cons_zero]; rfl)
  case hQGyes10 => exact fun _ _ _ h => h
  case hwGyes10 => rfl
  case hyGyes10 => (intro w hSw; (try dsimp only at hSw); go_simp; try with_reducible rfl)
  try simp only [Act.put, List.setIfInBounds_toArray, List.set_cons_zero, List.set_cons_succ]
  refine wpAnyH_ready (rs := [11]) (by kernel_rfl) (by simp) ?_
  refine AllReadyH.cons rfl (fun K hK => ?_) AllReadyH.nil
  go_simp
  refine hK.out _ _ (⟨(World.cell?_alloc_lt _ _ _ (by exact hgl)).trans hHeld.1, (World.cell?_alloc_lt _ _ _ (by exact hgl)).trans hHeld.2⟩) (fun hHeld' => ?_)
  clear hK K hHeld
  have hHeld := hHeld'
  clear hHeld'
  try simp only [Act.put, List.setIfInBounds_toArray, List.set_cons_zero, List.set_cons_succ]
  refine' wpAnyH_take (i := 12) (oi := _) (v := _) ?hGyes12 (by kernel_rfl) (by kernel_rfl) (by kernel_rfl) ?hQGyes12 (Or.inl ⟨?hwGyes12, ?hyGyes12⟩) hHeld ?restGyes12
  case hGyes12 => (simp only [List.getElem?_toArray, List.getElem?_cons_succ, List.getElem?_cons_zero]; rfl)
  case hQGyes12 => exact fun _ _ _ h => h
  case hwGyes12 => rfl
  case hyGyes12 => (intro w hSw; (try dsimp only at hSw); go_simp; try with_reducible rfl)
  try simp only [Act.put, List.setIfInBounds_toArray, List.set_cons_zero, List.set_cons_succ]
  refine wpAnyH_done (by kernel_rfl) ?_ _
  clear hHeld hmk HG3
  generalize (if 2 * (n : Int) < 4 then (4 : Int) else 2 * (n : Int)) = x1 at *
  generalize (if lim < x1 then lim else x1) = x2 at *
  have hF : Fill w ((w.drewN (nq + 1)).alloc (.cells (madeCells #[(.string ⟨#[]⟩)] m) 9)) g r w.heap.size A len c f n lim dr R m 0 := ⟨Qs.keeps HQ.out (((Keeps.refl [] w).drewN _).alloc _) (by simp) (by simp), by rw [fill_0]; exact room_made (w.drewN (nq + 1)) m, ((Keeps.refl [] w).drewN _).alloc _, Nat.le_refl _, by omega⟩
  have q2 := hF.q.cells.2.2.1
  clear c0 c1 c2 c3 c4 cf hle hdl hw2
  generalize hb : w.heap.size = b at *
  have HB := Lib.hid hb
  clear hb
  generalize (w.drewN (nq + 1)).alloc (.cells (madeCells #[(.string ⟨#[]⟩)] m) 9) = V at *
  go_wp2
  clear q2
  go_loopw [30] (fun s wr => ∃ i : Nat, i ≤ n ∧ s = .int .i64 i ∧ Fill w wr g r b A len c f n lim dr R m i) (fun s _ => n - (intOf s).toNat)
  case atStart => exact ⟨0, by omega, rfl, hF⟩
  case round =>
    clear hF
    obtain ⟨i, hin, rfl, hF⟩ := hrel
    by_cases hlt : i < n
    · have hnn := HN.out
      have HNN := Lib.hid hnn
      have hl0 : 0 < len := by omega
      rcases hF.q.room with ⟨h0, _, _⟩ | ⟨_, hA, hne, hr⟩
      · omega
      have HAT := Lib.hid (at_any g r A len c f n lim dr R i wr.drew (hF.q.drew) hl0 (by omega))
      subst hA
      have hp := place_bd f i len hl0
      have hc := hr.at_ _ hp
      have HNX := Lib.hid (fun q => hF.next (by omega) (by omega) (by omega) q)
      obtain ⟨c0, _, _, _, _, _⟩ := hF.q.cells
      have d0 := hF.rm.at_ i (by omega)
      have df := hF.rm.free_ i (by omega)
      clear hF hr hnn
      generalize hx : R ((f + i) % len) = x at *
      have HX := Lib.hid hx
      clear hx
      generalize (f + i) % len = p at *
      have hp0 : (0 : Int) ≤ (p : Int) := by omega
      have hp1 : (p : Int) < (len : Int) := by omega
      have hi0 : (0 : Int) ≤ (i : Int) := by omega
      have hi1 : (i : Int) < (m : Int) := by omega
      go_wp2
      refine wp_region_held_drew (S := (fun V => V.cell? ⟨g, 0, none⟩ = some (.slice (some ⟨r, 0, none⟩) len c))) (by kernel_rfl) c0 (fun hHeld => ?_)
      refine' wpAnyH_take (i := 0) (oi := _) (v := _) ?hLyes0 (by kernel_rfl) (by kernel_rfl) (by kernel_rfl) ?hQLyes0 (Or.inl ⟨?hwLyes0, ?hyLyes0⟩) hHeld ?restLyes0
      case hLyes0 => (simp only [List.getElem?_toArray, List.getElem?_cons_zero]; rfl)
      case hQLyes0 => exact fun _ _ _ h => h
      case hwLyes0 => rfl
      case hyLyes0 => (intro w hSw; (try dsimp only at hSw); go_simp; try with_reducible rfl)
      try simp only [Act.put, List.setIfInBounds_toArray, List.set_cons_zero, List.set_cons_succ]
      refine' wpAnyH_take (i := 1) (oi := _) (v := _) ?hLyes1 (by kernel_rfl) (by kernel_rfl) (by kernel_rfl) ?hQLyes1 (Or.inl ⟨?hwLyes1, ?hyLyes1⟩) hHeld ?restLyes1
      case hLyes1 => (simp only [List.getElem?_toArray, List.getElem?_cons_succ, List.getElem?_cons_zero]; rfl)
      case hQLyes1 => exact fun _ _ _ h => h
      case hwLyes1 => rfl
      case hyLyes1 => (intro w hSw; (try dsimp only at hSw); go_simp; try with_reducible rfl)
      try simp only [Act.put, List.setIfInBounds_toArray, List.set_cons_zero, List.set_cons_succ]
      refine' wpAnyH_take (i := 2) (oi := _) (v := _) ?hLyes2 (by kernel_rfl) (by kernel_rfl) (by kernel_rfl) ?hQLyes2 (Or.inl ⟨?hwLyes2, ?hyLyes2⟩) hHeld ?restLyes2
      case hLyes2 => (simp only [List.getElem?_toArray, List.getElem?_cons_succ, List.getElem?_cons_zero]; rfl)
      case hQLyes2 => exact fun _ _ _ h => h
      case hwLyes2 => rfl
      case hyLyes2 => (intro w hSw; (try dsimp only at hSw); go_simp; try with_reducible rfl)
      try simp only [Act.put, List.setIfInBounds_toArray, List.set_cons_zero, List.set_cons_succ]
      refine' wpAnyH_take (i := 3) (oi := _) (v := _) ?hLyes3 (by kernel_rfl) (by kernel_rfl) (by kernel_rfl) ?hQLyes3 (Or.inl ⟨?hwLyes3, ?hyLyes3⟩) hHeld ?restLyes3
      case hLyes3 => (simp only [List.getElem?_toArray, List.getElem?_cons_succ, List.getElem?_cons_zero]; rfl)
      case hQLyes3 => exact fun _ _ _ h => h
      case hwLyes3 => rfl
      case hyLyes3 => (intro w hSw; (try dsimp only at hSw); go_simp; try with_reducible rfl)
      try simp only [Act.put, List.setIfInBounds_toArray, List.set_cons_zero, List.set_cons_succ]
      refine' wpAnyH_take (i := 4) (oi := _) (v := _) ?hLyes4 (by kernel_rfl) (by kernel_rfl) (by kernel_rfl) ?hQLyes4 (Or.inl ⟨?hwLyes4, ?hyLyes4⟩) hHeld ?restLyes4
      case hLyes4 => (simp only [List.getElem?_toArray, List.getElem?_cons_succ, List.getElem?_cons_zero]; rfl)
      case hQLyes4 => exact fun _ _ _ h => h
      case hwLyes4 => rfl
      case hyLyes4 => (intro w hSw; (try dsimp only at hSw); go_simp; try with_reducible rfl)
      try simp only [Act.put, List.setIfInBounds_toArray, List.set_cons_zero, List.set_cons_succ]
      refine' wpAnyH_take (i := 5) (oi := _) (v := _) ?hLyes5 (by kernel_rfl) (by kernel_rfl) (by kernel_rfl) ?hQLyes5 (Or.inl ⟨?hwLyes5, ?hyLyes5⟩) hHeld ?restLyes5
      case hLyes5 => (simp only [List.getElem?_toArray, List.getElem?_cons_succ, List.getElem?_cons_zero]; rfl)
      case hQLyes5 => exact fun _ _ _ h => h
      case hwLyes5 => rfl
      case hyLyes5 => (intro w hSw; (try dsimp only at hSw); go_simp; try with_reducible rfl)
      try simp only [Act.put, List.setIfInBounds_toArray, List.set_cons_zero, List.set_cons_succ]
      refine' wpAnyH_take (i := 6) (oi := _) (v := _) ?hLyes6 (by kernel_rfl) (by kernel_rfl) (by kernel_rfl) ?hQLyes6 (Or.inl ⟨?hwLyes6, ?hyLyes6⟩) hHeld ?restLyes6
      case hLyes6 => (simp only [List.getElem?_toArray, List.getElem?_cons_succ, List.getElem?_cons_zero]; rfl)
      case hQLyes6 => exact fun _ _ _ h => h
      case hwLyes6 => rfl
      case hyLyes6 => (intro w hSw; (try dsimp only at hSw); go_simp; try with_reducible rfl)
      try simp only [Act.put, List.setIfInBounds_toArray, List.set_cons_zero, List.set_cons_succ]
      refine' wpAnyH_take (i := 7) (oi := _) (v := _) ?hLyes7 (by kernel_rfl) (by kernel_rfl) (by kernel_rfl) ?hQLyes7 (Or.inl ⟨?hwLyes7, ?hyLyes7⟩) hHeld ?restLyes7
      case hLyes7 => (simp only [List.getElem?_toArray, List.getElem?_cons_succ, List.getElem?_cons_zero]; rfl)
      case hQLyes7 => exact fun _ _ _ h => h
      case hwLyes7 => rfl
      case hyLyes7 => (intro w hSw; (try dsimp only at hSw); go_simp; try with_reducible rfl)
      try simp only [Act.put, List.setIfInBounds_toArray, List.set_cons_zero, List.set_cons_succ]
      refine wpAnyH_ready (rs := [8]) (by kernel_rfl) (by simp) ?_
      refine AllReadyH.cons rfl (fun K hK => ?_) AllReadyH.nil
      go_simp
      refine (HAT.out).mono ?_
      rintro e v9 ⟨rfl, n9, rfl⟩
      try go_wp2_with fail
      refine hK.out _ _ (by simpa using hHeld) (fun hHeld' => ?_)
      clear hK K hHeld
      have hHeld := hHeld'
      clear hHeld'
      try simp only [Act.put, List.setIfInBounds_toArray, List.set_cons_zero, List.set_cons_succ]
      refine' wpAnyH_take (i := 9) (oi := _) (v := _) ?hLyes9 (by kernel_rfl) (by kernel_rfl) (by kernel_rfl) ?hQLyes9 (Or.inl ⟨?hwLyes9, ?hyLyes9⟩) hHeld ?restLyes9
      case hLyes9 => (simp only [List.getElem?_toArray, List.getElem?_cons_succ, List.getElem?_cons_zero]; rfl)
      case hQLyes9 => exact fun _ _ _ h => h
      case hwLyes9 => rfl
      case hyLyes9 => (intro w hSw; (try dsimp only at hSw); go_simp; try with_reducible rfl)
      try simp only [Act.put, List.setIfInBounds_toArray, List.set_cons_zero, List.set_cons_succ]
      refine wpAnyH_ready (rs := [10]) (by kernel_rfl) (by simp) ?_
      refine AllReadyH.cons rfl (fun K hK => ?_) AllReadyH.nil
      go_simp
      refine hK.out _ _ (hHeld) (fun hHeld' => ?_)
      clear hK K hHeld
      have hHeld := hHeld'
      clear hHeld'
      try simp only [Act.put, List.setIfInBounds_toArray, List.set_cons_zero, List.set_cons_succ]
      refine' wpAnyH_take (i := 11) (oi := _) (v := _) ?hLyes11 (by kernel_rfl) (by kernel_rfl) (by kernel_rfl) ?hQLyes11 (Or.inl ⟨?hwLyes11, ?hyLyes11⟩) hHeld ?restLyes11
      case hLyes11 => (simp only [List.getElem?_toArray, List.getElem?_cons_succ, List.getElem?_cons_zero]; rfl)
      case hQLyes11 => exact fun _ _ _ h => h
      case hwLyes11 => rfl
      case hyLyes11 => (intro w hSw; (try dsimp only at hSw); go_simp; try with_reducible rfl)
      try simp only [Act.put, List.setIfInBounds_toArray, List.set_cons_zero, List.set_cons_succ]
      refine wpAnyH_ready (rs := [12]) (by kernel_rfl) (by simp) ?_
      refine AllReadyH.cons rfl (fun K hK => ?_) AllReadyH.nil
      go_simp
      refine hK.out _ _ ((World.cell?_setCell_other _ _ _ _ (by intro e; injection e; omega)).trans hHeld) (fun hHeld' => ?_)
      clear hK K hHeld
      have hHeld := hHeld'
      clear hHeld'
      try simp only [Act.put, List.setIfInBounds_toArray, List.set_cons_zero, List.set_cons_succ]
      refine wpAnyH_done (by kernel_rfl) ?_ _
      clear hHeld HAT
      go_wp2
      go_roundw
      case rel => exact ⟨i + 1, by omega, by go_num, HNX.out _⟩
      case measure => simp [intOf]; omega
    · obtain rfl : i = n := by omega
      obtain ⟨c0, c1, c2, c3, c4, cf⟩ := hF.q.cells
      have HFF := Lib.hid hF
      clear hF
      go_wp2
      go_end0
      rw [HB.out]
      refine ⟨rfl, ⟨?_, .inr ⟨by omega, rfl, by omega, ?_⟩, .inl (by omega), by omega, hm6⟩, ?_⟩
      · exact (HFF.out.q.q.set_ 0 (.slice (some ⟨b, 0, none⟩) m m)).set_ 1 (.int .i64 0)
      · exact HFF.out.rm.keeps (((Keeps.refl [g] wr).setCell (p := ⟨g, 0, none⟩) (by simp) _).setCell (p := ⟨g, 1, none⟩) (by simp) _) (by simp; omega)
      · exact ((HFF.out.k.more (by simp)).setCell (by simp) _).setCell (by simp) _
end FiS
end Go.Proofs.Ytiemnnoeljphoaa
