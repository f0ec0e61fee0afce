/- The document's queue: New, Put, first. -/
import Derived.Test.YtaepcedcjhliaaaQueJ
import Derived.Test.YtaepcedcjhliaaaReg2
import Derived.Test.YtaepcedcjhliaaaRes
import Derived.Great.BuildSlice
import Derived.Deep.CutRange
namespace Go.Proofs.Ytaepcedcjhliaaa
open Go.RowKit
namespace Qp
open Sm FiT
theorem ri_all : (Try.prog.info? 62).map (fun i => (i.zero, i.size, i.bytes)) = some (some (.agg #[.int .i64 0, .int .u8 0, .int .u8 0, .int .i64 0, .int .i64 0, .int .i64 0, .bool false, .int .i64 0, .int .i64 0]), 9, 64) := by kernel_rfl
theorem own_empty (w : World) (base : Nat) (hb : base ≤ w.heap.size) (e : TypeId) (size : Nat) : (w.alloc (.cells #[] e)).ownsRow base e size (.slice (some ⟨w.heap.size, 0, none⟩) 0 0) 0 [] := by
  refine ⟨by simp, .inr ⟨w.heap.size, 0, #[], rfl, hb, heap_alloc_new w _, Nat.le_refl _, by decide, by simp, by simp⟩⟩
theorem own_cap {w : World} {B size n c : Nat} {e : TypeId} {p : Option Addr} {xs : List Value} (h : w.ownsRow B e size (.slice p n c) n xs) : n ≤ c := by
  rcases h.2 with ⟨hv, _⟩ | ⟨g, cap, cur, hv, _, _, hc, _⟩
  · injection hv with _ e1 e2; omega
  · injection hv with _ _ e2; omega
/-- Behind the stores into the result's block. -/
theorem rf_end {w wc W' : World} {F : List Nat} {k : Nat} {p : Option Addr} {c d : Nat} {b : Option Addr} {l : List It} {dl : List Cl} {lim : Int} (hk : Keeps [] w wc) (hka : Keeps [k] wc W') (hk0 : w.heap.size ≤ k) (h1 : Rd wc (k :: F) p l.length (flat (l.map pend))) (h2 : Rd wc (k :: F) b dl.length (flat dl)) (hc : l.length ≤ c) :
    Rf W' F (.agg #[.slice p l.length c, .slice b dl.length d, .int .i64 lim]) l dl lim ∧ Keeps [] w W' := by
  refine ⟨⟨p, c, b, d, rfl, (h1.keeps hka (by simp)).more (by intro x hx; simp [hx]), (h2.keeps hka (by simp)).more (by intro x hx; simp [hx]), hc⟩, hk.next hka (by simp; omega)⟩
theorem keep3 {w : World} (k : Nat) (u v x : Value) : Keeps [k] w (((w.setCell ⟨k, 0, none⟩ u).setCell ⟨k, 1, none⟩ v).setCell ⟨k, 2, none⟩ x) :=
  (((Keeps.refl _ w).setCell (p := ⟨k, 0, none⟩) (by simp) _).setCell (p := ⟨k, 1, none⟩) (by simp) _).setCell (p := ⟨k, 2, none⟩) (by simp) _
theorem run_new0 (w : World) : (Instr.buildSlice 45 0 #[]).run Try.prog w = .ok (.slice (some ⟨w.heap.size, 0, none⟩) 0 0) (w.alloc (.cells #[] 62)) := by kernel_rfl
theorem wp_new0 {o : Oper} {a : Act} {w : World} {K : Act → World → Prop} {Q : Exit → Act → World → Prop} (ho : o.op = .buildSlice 45 0 #[]) {B : Nat} (hB : B ≤ w.heap.size)
    (h : ∀ w', w'.ownsRow B 62 9 (.slice (some ⟨w.heap.size, 0, none⟩) 0 0) 0 [] → Keeps [] w w' → K (a.put o.dst (.slice (some ⟨w.heap.size, 0, none⟩) 0 0)) w') : o.wp Try.prog a w K Q := by
  unfold Oper.wp execOp
  simp only [ho, Sem.run_bind, List.map_toArray, List.map_nil, run_new0, Result.andThen_ok]
  exact h _ (own_empty w B hB 62 9) ((Keeps.refl _ _).alloc _)
theorem fill1 (X : Cl) : Instr.fill (fun i => some (i * 9, 9)) ((Array.range (1 * 9)).map ((Value.agg #[.int .i64 0, .int .u8 0, .int .u8 0, .int .i64 0, .int .i64 0, .int .i64 0, .bool false, .int .i64 0, .int .i64 0]).cells[· % (Value.agg #[.int .i64 0, .int .u8 0, .int .u8 0, .int .i64 0, .int .i64 0, .int .i64 0, .bool false, .int .i64 0, .int .i64 0]).cells.size]!)) [(0, .agg (clc X).toArray)] = some (clc X).toArray := by
  obtain ⟨⟨k, wh, st, ad, ln, ar, bad⟩, s, n⟩ := X
  kernel_rfl
theorem wp_new1 {o : Oper} {a : Act} {w : World} {K : Act → World → Prop} {Q : Exit → Act → World → Prop} (X : Cl) {t : Operand} (ho : o.op = .buildSlice 45 1 #[(0, t)]) (ht : a.eval t = .agg (clc X).toArray)
    (h : ∀ w', Blk w' w.heap.size 62 (clc X).toArray → Keeps [] w w' → K (a.put o.dst (.slice (some ⟨w.heap.size, 0, none⟩) 1 1)) w') : o.wp Try.prog a w K Q := by
  obtain ⟨i0, hi0, hz0, hz1, hz2⟩ := info_parts ri_all
  refine wp_buildSlice 45 62 1 _ ho (clc X).toArray i0 _ Try.underlying45 hi0 hz0 (by rw [hz1]; decide) (by rw [hz1]; decide) ?_ (h _ (Blk.new _ _ _) ((Keeps.refl _ _).alloc _))
  rw [hz1]
  simp only [List.map_toArray, List.map_cons, List.map_nil, ht]
  exact fill1 X
theorem reads_blk {w : World} {b : Nat} {X : Cl} (h : Blk w b 62 (clc X).toArray) : Reads w w.heap.size 9 (some ⟨b, 0, none⟩) 1 (clc X) := by
  refine ⟨by rw [clc_len], fun _ => ⟨_, rfl, h.lt, fun j u hu => ?_⟩⟩
  have e : (⟨b, 0, none⟩ : Addr).add j = ⟨b, j, none⟩ := by unfold Addr.add; by_cases h0 : j = 0 <;> simp [h0]
  rw [e, h.cell]
  simpa using hu
theorem ri_cs (X : Cl) : (Try.prog.info? 62).map (·.size) = some (clc X).length := by rw [clc_len]; kernel_rfl
theorem ri_arr (X : Cl) : (Try.prog.info? 62).map (·.size) = some (clc X).toArray.size := by rw [List.size_toArray]; exact ri_cs X
theorem clc_one (X : Cl) : (clc X).toArray.all (·.oneCell') = true := by
  rw [List.all_toArray]
  exact List.all_eq_true.2 (fun u hu => clc_all X u hu)
theorem wpList_store_cl {ops : Array Oper} {rest : List Oper} {op : Oper} {a : Act} {w : World} {Q : Exit → Act → World → Prop} (hgd : op.guard = none) (xo yo : Operand) (ho : op.op = .store 62 xo yo) (b : Nat) (c0 : Array Value) (X : Cl)
    (hx : a.eval xo = .pointer (some ⟨b, 0, none⟩)) (hy : a.eval yo = .agg (clc X).toArray) (hB : Blk w b 62 c0) (hc : c0.size = 9) (h : ∀ w', Blk w' b 62 (clc X).toArray → Keeps [b] w w' → wpList Try.prog ops Q rest (a.put op.dst undef) w') : wpList Try.prog ops Q (op :: rest) a w := by
  refine wpList_store_mid hgd 62 xo yo ho b 0 (clc X).toArray hx hy ?_ (ri_arr X) (clc_one X) (h _ (blk_all hB (clc X) (by rw [clc_len, hc])) (keeps_cells (.inl (by simp)) _ _ _ (Keeps.refl _ _)))
  have := blk_there hB
  rw [hc] at this
  simpa [clc_len] using this
theorem blk7 {w : World} {b : Nat} {X : Cl} (h : Blk w b 62 (clc X).toArray) : w.cell? ⟨b, 7, none⟩ = some (.int .i64 X.st) := h.cell 7
theorem blk8 {w : World} {b : Nat} {X : Cl} (h : Blk w b 62 (clc X).toArray) : w.cell? ⟨b, 8, none⟩ = some (.int .i64 X.n) := h.cell 8
theorem set7 {w : World} {b : Nat} {x : It} {s n : Int} (st : Int) (h : Blk w b 62 (clc ⟨x, s, n⟩).toArray) : Blk (w.setCell ⟨b, 7, none⟩ (.int .i64 st)) b 62 (clc ⟨x, st, n⟩).toArray := h.set_ 7 (.int .i64 st)
theorem set8 {w : World} {b : Nat} {x : It} {s n : Int} (m : Int) (h : Blk w b 62 (clc ⟨x, s, n⟩).toArray) : Blk (w.setCell ⟨b, 8, none⟩ (.int .i64 m)) b 62 (clc ⟨x, s, m⟩).toArray := h.set_ 8 (.int .i64 m)
theorem keep78 {w : World} (b : Nat) (u v : Value) : Keeps [b] w ((w.setCell ⟨b, 7, none⟩ u).setCell ⟨b, 8, none⟩ v) := ((Keeps.refl _ w).setCell (p := ⟨b, 7, none⟩) (by simp) _).setCell (p := ⟨b, 8, none⟩) (by simp) _
theorem rd_tail {w : World} {F : List Nat} {ab m : Nat} {x : It} {l : List It} (h : Rd w F (some ⟨ab, 0, none⟩) m (flat ((x :: l).map pend))) (hm : m = l.length + 1) : Reads w w.heap.size 9 (some ⟨ab, 9, none⟩) l.length (flat (l.map pend)) := by
  subst hm
  refine ⟨by rw [flat_len, List.length_map], fun h0 => ⟨_, rfl, ?_, fun j u hu => ?_⟩⟩
  · obtain ⟨b, e, hl, _⟩ := h.2 (by omega)
    injection e with e; injection e with e; show ab < _; omega
  · obtain ⟨b, e, hl, _, hr⟩ := h.2 (by omega)
    injection e with e; injection e with e
    subst e
    have h1 : (flat ((x :: l).map pend))[9 + j]? = some u := by
      rw [List.map_cons, show flat (pend x :: l.map pend) = clc (pend x) ++ flat (l.map pend) from by simp [flat], List.getElem?_append_right (by rw [clc_len]; omega), clc_len, Nat.add_sub_cancel_left]
      exact hu
    have e2 : (⟨ab, 9, none⟩ : Addr).add j = ⟨ab, 9 + j, none⟩ := by unfold Addr.add; by_cases h0 : j = 0 <;> simp [h0]
    rw [e2, ← hr (9 + j) u h1, Nat.zero_add]
theorem Rd.grown9 {w w' : World} {F : List Nat} {p : Option Addr} {n : Nat} {xs : List Value} {row : Option Nat} {N : Nat} (h : Rd w F p n xs) (hg : w.grownBy w' row) (hN : ∀ b, p = some ⟨b, 0, none⟩ → b ≠ N) (hr : row = some N) : Rd w' F p n xs := by
  refine ⟨h.1, fun h0 => ?_⟩
  obtain ⟨b, rfl, hl, hf, hx⟩ := h.2 h0
  have hne := hN b rfl
  exact ⟨b, rfl, Nat.lt_of_lt_of_le hl hg.size, hf, fun j u hu => (show w'.cell? ⟨b, 0 + j, none⟩ = w.cell? ⟨b, 0 + j, none⟩ from World.cell?_of_block (w := w) (hg.block b hl (fun e => by rw [hr] at e; injection e with e; exact hne e))).trans (hx j u hu)⟩
theorem rnew_q (o : Int) (w : World) : Calls Try.prog 14 #[.int .i64 o] w fun e w' => e = .returned (.agg #[.slice none 0 0, .slice none 0 0, .int .i64 (qlim o)]) ∧ Keeps [] w w' := by
  have hr : ∀ L : Int, Keeps [] w ((((w.alloc (.cells #[.slice none 0 0, .slice none 0 0, .int .i64 L] 47)))) ) := fun L => (Keeps.refl _ _).alloc _
  unfold qlim
  by_cases h0 : o < 0
  · rw [if_pos h0]
    go_enter Try.func14, Try.ntmps14
    go_wp2
    refine bodyPost_ret (v := .agg #[.slice none 0 0, .slice none 0 0, .int .i64 0]) (by simp [results, Try.results14, go_sem]) rfl ?_
    exact ⟨rfl, (Keeps.refl _ _).alloc _⟩
  · rw [if_neg h0]
    by_cases h1 : 16 < o
    · rw [if_pos h1]
      go_enter Try.func14, Try.ntmps14
      go_wp2
      refine bodyPost_ret (v := .agg #[.slice none 0 0, .slice none 0 0, .int .i64 16]) (by simp [results, Try.results14, go_sem]) rfl ?_
      exact ⟨rfl, (Keeps.refl _ _).alloc _⟩
    · rw [if_neg h1]
      go_enter Try.func14, Try.ntmps14
      go_wp2
      refine bodyPost_ret (v := .agg #[.slice none 0 0, .slice none 0 0, .int .i64 o]) (by simp [results, Try.results14, go_sem]) rfl ?_
      exact ⟨rfl, (Keeps.refl _ _).alloc _⟩
/-- Returns a queue of the document's that reads as told. -/
def IsRf (F : List Nat) (l : List It) (dl : List Cl) (lim : Int) (b : Option Bool) (w : World) (e : Ending) (w' : World) : Prop :=
  ∃ v, e = .returned (match b with | none => v | some b => .tuple #[v, .bool b]) ∧ Rf w' F v l dl lim ∧ Keeps [] w w'
attribute [local irreducible] cs clc
set_option maxRecDepth 100000 in
theorem rput_full {F : List Nat} {l : List It} {dl : List Cl} {lim : Int} (x : It) (v : Value) (w : World) (h : Rf w F v l dl lim) (hf : lim ≤ (l.length : Int) + (dl.length : Int)) (hm : (l.length : Int) + (dl.length : Int) ≤ 100) :
    Calls Try.prog 26 #[v, .agg (clc (pend x)).toArray] w (IsRf F l dl lim (some false) w) := by
  obtain ⟨a, c, b, d, rfl, ha, hb, hcap⟩ := h
  have H := Lib.hid (And.intro ha hb)
  clear ha hb
  have hdec : decide (lim ≤ (l.length : Int) + (dl.length : Int)) = true := decide_eq_true hf
  go_enter Try.func26, Try.ntmps26
  go_wp2
  refine bodyPost_ret (v := .tuple #[.agg #[.slice a l.length c, .slice b dl.length d, .int .i64 lim], .bool false]) (by simp [results, Try.results26, go_sem]) rfl ?_
  exact ⟨_, rfl, ⟨a, c, b, d, rfl, H.out.1.keeps ((((Keeps.refl [] w).alloc _).alloc _).alloc _) (by simp), H.out.2.keeps ((((Keeps.refl [] w).alloc _).alloc _).alloc _) (by simp), hcap⟩, (((Keeps.refl [] w).alloc _).alloc _).alloc _⟩
set_option maxRecDepth 100000 in
set_option maxHeartbeats 2000000 in
theorem rput_ok {F : List Nat} {l : List It} {dl : List Cl} {lim : Int} (x : It) (v : Value) (w : World) (h : Rf w F v l dl lim) (hF : ∀ b ∈ F, b < w.heap.size) (hf : (l.length : Int) + (dl.length : Int) < lim) (hm : lim ≤ 100) :
    Calls Try.prog 26 #[v, .agg (clc (pend x)).toArray] w (IsRf F (l ++ [x]) dl lim (some true) w) := by
  obtain ⟨a, c, b, d, rfl, ha, hb, hcap⟩ := h
  obtain ⟨i0, hi0, hz0, hz1, hz2⟩ := info_parts ri_all
  have HI := Lib.hid (And.intro hi0 (And.intro hz0 (And.intro hz1 hz2)))
  clear hi0 hz0 hz1 hz2
  have HR := Lib.hid ha
  have HD := Lib.hid hb
  clear ha hb
  have hlm : (l.map pend).length = l.length := by simp
  have hdec : decide (lim ≤ (l.length : Int) + (dl.length : Int)) = false := by simp; omega
  obtain ⟨X, hX0⟩ : ∃ X, pend x = X := ⟨_, rfl⟩
  rw [hX0]
  have HX := Lib.hid hX0
  clear hX0
  go_enter Try.func26, Try.ntmps26
  go_upto_region 3 with fail
  go_cut [23] from 6 to 25 (fun s wx => ∃ p c', s = .slice p (l.length + 1) c' ∧ w.heap.size + 3 ≤ wx.heap.size ∧ wx.ownsRow (w.heap.size + 3) 62 9 (.slice p (l.length + 1) c') (l.length + 1) (flat (l.map pend) ++ clc X) ∧ Blk wx w.heap.size 47 #[.slice p (l.length + 1) c', .slice b dl.length d, .int .i64 lim] ∧ Blk wx (w.heap.size + 1 + 1) 47 #[.slice none 0 0, .slice none 0 0, .int .i64 0] ∧ Keeps [] w wx)
  case first =>
    obtain ⟨V0, hV0⟩ : ∃ V, ((w.alloc (.cells #[.slice a l.length c, .slice b dl.length d, .int .i64 lim] 47)).alloc (.cells (clc X).toArray 62)).alloc (.cells #[.slice none 0 0, .slice none 0 0, .int .i64 0] 47) = V := ⟨_, rfl⟩
    rw [hV0]
    have hq : Blk V0.drew w.heap.size 47 #[.slice a l.length c, .slice b dl.length d, .int .i64 lim] := by rw [← hV0]; exact (((Blk.new w _ _).alloc _).alloc _).drew
    have hX : Blk V0.drew (w.heap.size + 1) 62 (clc X).toArray := by rw [← hV0]; have := ((Blk.new (w.alloc (.cells #[.slice a l.length c, .slice b dl.length d, .int .i64 lim] 47)) 62 (clc X).toArray).alloc (.cells #[.slice none 0 0, .slice none 0 0, .int .i64 0] 47)).drew; simpa using this
    have hr : Blk V0.drew (w.heap.size + 1 + 1) 47 #[.slice none 0 0, .slice none 0 0, .int .i64 0] := by rw [← hV0]; have := (Blk.new ((w.alloc (.cells #[.slice a l.length c, .slice b dl.length d, .int .i64 lim] 47)).alloc (.cells (clc X).toArray 62)) 47 #[.slice none 0 0, .slice none 0 0, .int .i64 0]).drew; simpa using this
    have hK : Keeps [] w V0.drew := by rw [← hV0]; exact ((((Keeps.refl [] w).alloc _).alloc _).alloc _).drew
    have hB : w.heap.size + 3 ≤ V0.drew.heap.size := by rw [← hV0]; simp
    clear hV0
    refine wp_region_held_drew (S := (fun V => Blk V (w.heap.size + 1) 62 (clc X).toArray)) (by kernel_rfl) hX (fun hHeld => ?_)
    generalize V0.drew = U0 at *
    have hcell : _ = some (Value.slice a l.length c) := hq.cell 0
    have hfro := hq.frozen
    have hz := hK.size
    refine' wpAnyH_take (i := 1) (oi := _) (v := _) ?hA1 (by kernel_rfl) (by kernel_rfl) (by kernel_rfl) ?hQA1 (Or.inl ⟨?hwA1, ?hyA1⟩) hHeld ?restA1
    case hA1 => (simp only [List.getElem?_toArray, List.getElem?_cons_succ, List.getElem?_cons_zero]; rfl)
    case hQA1 => exact fun _ _ _ h => h
    case hwA1 => rfl
    case hyA1 => (intro w hSw; (try dsimp only at hSw); go_simp; try with_reducible rfl)
    try simp only [Act.put, List.setIfInBounds_toArray, List.set_cons_zero, List.set_cons_succ]
    refine' wpAnyH_take (i := 4) (oi := _) (v := .agg (clc X).toArray) ?hA4 (by kernel_rfl) (by kernel_rfl) (by kernel_rfl) ?hQA4 ?hyA4 hHeld ?restA4
    case hA4 => (simp only [List.getElem?_toArray, List.getElem?_cons_succ, List.getElem?_cons_zero]; rfl)
    case hQA4 => exact fun _ _ _ h => h
    case hyA4 => exact yieldsIf_load_mid rfl _ _ rfl _ _ rfl (clc X) _ (fun _ h => blk_range _ h) Try.underlying62 rfl (ri_cs X)
    try simp only [Act.put, List.setIfInBounds_toArray, List.set_cons_zero, List.set_cons_succ]
    refine wpAnyH_ready (rs := [0, 2, 5]) (by kernel_rfl) (by simp) ?_
    refine' (AllReadyH.cons (o := _) ?hoN10 (fun K hK' => ?stN10) (AllReadyH.cons (o := _) ?hoN12 (fun K hK' => ?stN12) (AllReadyH.cons (o := _) ?hoN15 (fun K hK' => ?stN15) AllReadyH.nil)))
    case hoN10 => (simp only [List.getElem?_toArray, List.getElem?_cons_zero]; rfl)
    case hoN12 => (simp only [List.getElem?_toArray, List.getElem?_cons_succ, List.getElem?_cons_zero]; rfl)
    case hoN15 => (simp only [List.getElem?_toArray, List.getElem?_cons_succ, List.getElem?_cons_zero]; rfl)
    case stN10 =>
      rw [if_pos (by rfl)]
      refine wp_new0 rfl (B := w.heap.size + 3) (by omega) ?_
      intro V1 own0 k1
      skip
      have hK := hK.trans k1
      have hq := hq.keeps k1 (by simp)
      have hr := hr.keeps k1 (by simp)
      have hB := Nat.le_trans hB k1.size
      have hX := hX.keeps k1 (by simp)
      have hcell : _ = some (Value.slice a l.length c) := hq.cell 0
      have hfro := hq.frozen
      have hz := hK.size
      refine hK'.out _ _ (hX) (fun hHeld' => ?_)
      clear hK' K hHeld
      have hHeld := hHeld'
      clear hHeld'
      try simp only [Act.put]
      try simp only [Act.put, List.setIfInBounds_toArray, List.set_cons_zero, List.set_cons_succ]
      refine wpAnyH_ready (rs := [2, 5]) (by kernel_rfl) (by simp) ?_
      refine' (AllReadyH.cons (o := _) ?hoN22 (fun K hK' => ?stN22) (AllReadyH.cons (o := _) ?hoN25 (fun K hK' => ?stN25) AllReadyH.nil))
      case hoN22 => (simp only [List.getElem?_toArray, List.getElem?_cons_succ, List.getElem?_cons_zero]; rfl)
      case hoN25 => (simp only [List.getElem?_toArray, List.getElem?_cons_succ, List.getElem?_cons_zero]; rfl)
      case stN22 =>
        go_simp
        refine hK'.out _ _ hHeld (fun hHeld' => ?_)
        clear hK' K hHeld
        have hHeld := hHeld'
        clear hHeld'
        try simp only [Act.put]
        try simp only [Act.put, List.setIfInBounds_toArray, List.set_cons_zero, List.set_cons_succ]
        refine wpAnyH_ready (rs := [3, 5]) (by kernel_rfl) (by simp) ?_
        refine' (AllReadyH.cons (o := _) ?hoN33 (fun K hK' => ?stN33) (AllReadyH.cons (o := _) ?hoN35 (fun K hK' => ?stN35) AllReadyH.nil))
        case hoN33 => (simp only [List.getElem?_toArray, List.getElem?_cons_succ, List.getElem?_cons_zero]; rfl)
        case hoN35 => (simp only [List.getElem?_toArray, List.getElem?_cons_succ, List.getElem?_cons_zero]; rfl)
        case stN33 =>
          rw [if_pos (by rfl)]
          refine wp_append_any _ (.tmp 17) (.tmp 19) 45 rfl (w.heap.size + 3) 62 i0 _ 9 64 Try.underlying45 HI.out.1 HI.out.2.1 HI.out.2.2.1 HI.out.2.2.2 rfl (by decide) _ 0 _ rfl own0 _ _ _ _ _ rfl (HR.out.keeps hK (by simp)).reads (flat_all _) (by simp only [maxLen]; omega) (by omega) (by have := hK.size; omega) ?_
          intro v1 V1 own3 g1 at1
          rw [Nat.zero_add, List.nil_append] at own3
          obtain ⟨p3, c3, rfl⟩ := own_form own3
          have hK := hK.grown g1 (fun b hb => .inr (by have := (own0.lt b hb).1; omega))
          have hq := hq.grown g1 (fun e => by have := (own0.lt _ e.symm).1; omega)
          have hr := hr.grown g1 (fun e => by have := (own0.lt _ e.symm).1; omega)
          have hB := Nat.le_trans hB g1.size
          have hX := hX.grown g1 (fun e => by have := (own0.lt _ e.symm).1; omega)
          clear own0
          have hcell : _ = some (Value.slice a l.length c) := hq.cell 0
          have hfro := hq.frozen
          have hz := hK.size
          refine hK'.out _ _ (hX) (fun hHeld' => ?_)
          clear hK' K hHeld
          have hHeld := hHeld'
          clear hHeld'
          try simp only [Act.put]
          try simp only [Act.put, List.setIfInBounds_toArray, List.set_cons_zero, List.set_cons_succ]
          refine wpAnyH_ready (rs := [5]) (by kernel_rfl) (by simp) ?_
          refine' (AllReadyH.cons (o := _) ?hoN45 (fun K hK' => ?stN45) AllReadyH.nil)
          case hoN45 => (simp only [List.getElem?_toArray, List.getElem?_cons_succ, List.getElem?_cons_zero]; rfl)
          case stN45 =>
            rw [if_pos (by rfl)]
            refine wp_new1 X rfl rfl ?_
            intro V1 bx k1
            skip
            have own3 := ownsRow_keeps own3 k1 (by simp)
            have hK := hK.trans k1
            have hq := hq.keeps k1 (by simp)
            have hr := hr.keeps k1 (by simp)
            have hB := Nat.le_trans hB k1.size
            have hX := hX.keeps k1 (by simp)
            have hcell : _ = some (Value.slice a l.length c) := hq.cell 0
            have hfro := hq.frozen
            have hz := hK.size
            refine hK'.out _ _ (hX) (fun hHeld' => ?_)
            clear hK' K hHeld
            have hHeld := hHeld'
            clear hHeld'
            try simp only [Act.put]
            try simp only [Act.put, List.setIfInBounds_toArray, List.set_cons_zero, List.set_cons_succ]
            refine wpAnyH_ready (rs := [6]) (by kernel_rfl) (by simp) ?_
            refine' (AllReadyH.cons (o := _) ?hoN56 (fun K hK' => ?stN56) AllReadyH.nil)
            case hoN56 => (simp only [List.getElem?_toArray, List.getElem?_cons_succ, List.getElem?_cons_zero]; rfl)
            case stN56 =>
              rw [if_pos (by rfl)]
              refine wp_append_any _ (.tmp 20) (.tmp 22) 45 rfl (w.heap.size + 3) 62 i0 _ 9 64 Try.underlying45 HI.out.1 HI.out.2.1 HI.out.2.2.1 HI.out.2.2.2 rfl (by decide) _ _ _ rfl own3 _ _ 1 1 (clc X) rfl (reads_blk bx) (clc_all _) (by simp only [maxLen]; omega) (by omega) (by have := hK.size; omega) ?_
              intro v1 V1 own6 g1 at1
              obtain ⟨p6, c6, rfl⟩ := own_form own6
              have hK := hK.grown g1 (fun b hb => .inr (by have := (own3.lt b hb).1; omega))
              have hq := hq.grown g1 (fun e => by have := (own3.lt _ e.symm).1; omega)
              have hr := hr.grown g1 (fun e => by have := (own3.lt _ e.symm).1; omega)
              have hB := Nat.le_trans hB g1.size
              have hX := hX.grown g1 (fun e => by have := (own3.lt _ e.symm).1; omega)
              clear own3 bx
              have hcell : _ = some (Value.slice a l.length c) := hq.cell 0
              have hfro := hq.frozen
              have hz := hK.size
              refine hK'.out _ _ (hX) (fun hHeld' => ?_)
              clear hK' K hHeld
              have hHeld := hHeld'
              clear hHeld'
              try simp only [Act.put]
              try simp only [Act.put, List.setIfInBounds_toArray, List.set_cons_zero, List.set_cons_succ]
              refine' wpAnyH_take (i := 7) (oi := _) (v := _) ?hM57 (by kernel_rfl) (by kernel_rfl) (by kernel_rfl) ?hQM57 (Or.inl ⟨?hwM57, ?hyM57⟩) hHeld ?restM57
              case hM57 => (simp only [List.getElem?_toArray, List.getElem?_cons_succ, List.getElem?_cons_zero]; rfl)
              case hQM57 => exact fun _ _ _ h => h
              case hwM57 => rfl
              case hyM57 => (intro w hSw; (try dsimp only at hSw); go_simp; try with_reducible rfl)
              try simp only [Act.put, List.setIfInBounds_toArray, List.set_cons_zero, List.set_cons_succ]
              refine wpAnyH_ready (rs := [8]) (by kernel_rfl) (by simp) ?_
              refine' (AllReadyH.cons (o := _) ?hoN68 (fun K hK' => ?stN68) AllReadyH.nil)
              case hoN68 => (simp only [List.getElem?_toArray, List.getElem?_cons_succ, List.getElem?_cons_zero]; rfl)
              case stN68 =>
                go_simp
                refine hK'.out _ _ (hX.far (p := ⟨_, 0, none⟩) (by show w.heap.size + 1 ≠ w.heap.size; omega) _) (fun hHeld' => ?_)
                clear hK' K hHeld
                have hHeld := hHeld'
                clear hHeld'
                try simp only [Act.put]
                try simp only [Act.put, List.setIfInBounds_toArray, List.set_cons_zero, List.set_cons_succ]
                refine wpAnyH_done (by kernel_rfl) ?_ _
                clear hHeld
                go_wp2_with fail
                go_meet
                case rel => exact ⟨p6, c6, rfl, by simpa [World.setCell] using hB, ownsRow_setCell own6 _ _ (own_blk_ne own6 hq (by decide)), hq.set_ 0 _, hr.far (by show w.heap.size + 1 + 1 ≠ w.heap.size; omega) _, hK.setCell (p := ⟨w.heap.size, 0, none⟩) (.inr (Nat.le_refl _)) _⟩
        case stN35 =>
          rw [if_pos (by rfl)]
          refine wp_new1 X rfl rfl ?_
          intro V1 bx k1
          have hne : _ := Nat.ne_of_lt (own0.lt _ rfl).2
          have own0 := ownsRow_keeps own0 k1 (by simp)
          have hK := hK.trans k1
          have hq := hq.keeps k1 (by simp)
          have hr := hr.keeps k1 (by simp)
          have hB := Nat.le_trans hB k1.size
          have hX := hX.keeps k1 (by simp)
          have hcell : _ = some (Value.slice a l.length c) := hq.cell 0
          have hfro := hq.frozen
          have hz := hK.size
          refine hK'.out _ _ (hX) (fun hHeld' => ?_)
          clear hK' K hHeld
          have hHeld := hHeld'
          clear hHeld'
          try simp only [Act.put]
          try simp only [Act.put, List.setIfInBounds_toArray, List.set_cons_zero, List.set_cons_succ]
          refine wpAnyH_ready (rs := [3]) (by kernel_rfl) (by simp) ?_
          refine' (AllReadyH.cons (o := _) ?hoN73 (fun K hK' => ?stN73) AllReadyH.nil)
          case hoN73 => (simp only [List.getElem?_toArray, List.getElem?_cons_succ, List.getElem?_cons_zero]; rfl)
          case stN73 =>
            rw [if_pos (by rfl)]
            refine wp_append_any _ (.tmp 17) (.tmp 19) 45 rfl (w.heap.size + 3) 62 i0 _ 9 64 Try.underlying45 HI.out.1 HI.out.2.1 HI.out.2.2.1 HI.out.2.2.2 rfl (by decide) _ 0 _ rfl own0 _ _ _ _ _ rfl (HR.out.keeps hK (by simp)).reads (flat_all _) (by simp only [maxLen]; omega) (by omega) (by have := hK.size; omega) ?_
            intro v1 V1 own3 g1 at1
            rw [Nat.zero_add, List.nil_append] at own3
            obtain ⟨p3, c3, rfl⟩ := own_form own3
            have bx := bx.grown g1 (fun e => by injection e with e; (try dsimp only at hne); (try dsimp only at e); omega)
            have hK := hK.grown g1 (fun b hb => .inr (by have := (own0.lt b hb).1; omega))
            have hq := hq.grown g1 (fun e => by have := (own0.lt _ e.symm).1; omega)
            have hr := hr.grown g1 (fun e => by have := (own0.lt _ e.symm).1; omega)
            have hB := Nat.le_trans hB g1.size
            have hX := hX.grown g1 (fun e => by have := (own0.lt _ e.symm).1; omega)
            clear own0
            have hcell : _ = some (Value.slice a l.length c) := hq.cell 0
            have hfro := hq.frozen
            have hz := hK.size
            refine hK'.out _ _ (hX) (fun hHeld' => ?_)
            clear hK' K hHeld
            have hHeld := hHeld'
            clear hHeld'
            try simp only [Act.put]
            try simp only [Act.put, List.setIfInBounds_toArray, List.set_cons_zero, List.set_cons_succ]
            refine wpAnyH_ready (rs := [6]) (by kernel_rfl) (by simp) ?_
            refine' (AllReadyH.cons (o := _) ?hoN86 (fun K hK' => ?stN86) AllReadyH.nil)
            case hoN86 => (simp only [List.getElem?_toArray, List.getElem?_cons_succ, List.getElem?_cons_zero]; rfl)
            case stN86 =>
              rw [if_pos (by rfl)]
              refine wp_append_any _ (.tmp 20) (.tmp 22) 45 rfl (w.heap.size + 3) 62 i0 _ 9 64 Try.underlying45 HI.out.1 HI.out.2.1 HI.out.2.2.1 HI.out.2.2.2 rfl (by decide) _ _ _ rfl own3 _ _ 1 1 (clc X) rfl (reads_blk bx) (clc_all _) (by simp only [maxLen]; omega) (by omega) (by have := hK.size; omega) ?_
              intro v1 V1 own6 g1 at1
              obtain ⟨p6, c6, rfl⟩ := own_form own6
              have hK := hK.grown g1 (fun b hb => .inr (by have := (own3.lt b hb).1; omega))
              have hq := hq.grown g1 (fun e => by have := (own3.lt _ e.symm).1; omega)
              have hr := hr.grown g1 (fun e => by have := (own3.lt _ e.symm).1; omega)
              have hB := Nat.le_trans hB g1.size
              have hX := hX.grown g1 (fun e => by have := (own3.lt _ e.symm).1; omega)
              clear own3 bx
              have hcell : _ = some (Value.slice a l.length c) := hq.cell 0
              have hfro := hq.frozen
              have hz := hK.size
              refine hK'.out _ _ (hX) (fun hHeld' => ?_)
              clear hK' K hHeld
              have hHeld := hHeld'
              clear hHeld'
              try simp only [Act.put]
              try simp only [Act.put, List.setIfInBounds_toArray, List.set_cons_zero, List.set_cons_succ]
              refine' wpAnyH_take (i := 7) (oi := _) (v := _) ?hM87 (by kernel_rfl) (by kernel_rfl) (by kernel_rfl) ?hQM87 (Or.inl ⟨?hwM87, ?hyM87⟩) hHeld ?restM87
              case hM87 => (simp only [List.getElem?_toArray, List.getElem?_cons_succ, List.getElem?_cons_zero]; rfl)
              case hQM87 => exact fun _ _ _ h => h
              case hwM87 => rfl
              case hyM87 => (intro w hSw; (try dsimp only at hSw); go_simp; try with_reducible rfl)
              try simp only [Act.put, List.setIfInBounds_toArray, List.set_cons_zero, List.set_cons_succ]
              refine wpAnyH_ready (rs := [8]) (by kernel_rfl) (by simp) ?_
              refine' (AllReadyH.cons (o := _) ?hoN98 (fun K hK' => ?stN98) AllReadyH.nil)
              case hoN98 => (simp only [List.getElem?_toArray, List.getElem?_cons_succ, List.getElem?_cons_zero]; rfl)
              case stN98 =>
                go_simp
                refine hK'.out _ _ (hX.far (p := ⟨_, 0, none⟩) (by show w.heap.size + 1 ≠ w.heap.size; omega) _) (fun hHeld' => ?_)
                clear hK' K hHeld
                have hHeld := hHeld'
                clear hHeld'
                try simp only [Act.put]
                try simp only [Act.put, List.setIfInBounds_toArray, List.set_cons_zero, List.set_cons_succ]
                refine wpAnyH_done (by kernel_rfl) ?_ _
                clear hHeld
                go_wp2_with fail
                go_meet
                case rel => exact ⟨p6, c6, rfl, by simpa [World.setCell] using hB, ownsRow_setCell own6 _ _ (own_blk_ne own6 hq (by decide)), hq.set_ 0 _, hr.far (by show w.heap.size + 1 + 1 ≠ w.heap.size; omega) _, hK.setCell (p := ⟨w.heap.size, 0, none⟩) (.inr (Nat.le_refl _)) _⟩
      case stN25 =>
        rw [if_pos (by rfl)]
        refine wp_new1 X rfl rfl ?_
        intro V1 bx k1
        have hne : _ := Nat.ne_of_lt (own0.lt _ rfl).2
        have own0 := ownsRow_keeps own0 k1 (by simp)
        have hK := hK.trans k1
        have hq := hq.keeps k1 (by simp)
        have hr := hr.keeps k1 (by simp)
        have hB := Nat.le_trans hB k1.size
        have hX := hX.keeps k1 (by simp)
        have hcell : _ = some (Value.slice a l.length c) := hq.cell 0
        have hfro := hq.frozen
        have hz := hK.size
        refine hK'.out _ _ (hX) (fun hHeld' => ?_)
        clear hK' K hHeld
        have hHeld := hHeld'
        clear hHeld'
        try simp only [Act.put]
        try simp only [Act.put, List.setIfInBounds_toArray, List.set_cons_zero, List.set_cons_succ]
        refine wpAnyH_ready (rs := [2]) (by kernel_rfl) (by simp) ?_
        refine' (AllReadyH.cons (o := _) ?hoN102 (fun K hK' => ?stN102) AllReadyH.nil)
        case hoN102 => (simp only [List.getElem?_toArray, List.getElem?_cons_succ, List.getElem?_cons_zero]; rfl)
        case stN102 =>
          go_simp
          refine hK'.out _ _ hHeld (fun hHeld' => ?_)
          clear hK' K hHeld
          have hHeld := hHeld'
          clear hHeld'
          try simp only [Act.put]
          try simp only [Act.put, List.setIfInBounds_toArray, List.set_cons_zero, List.set_cons_succ]
          refine wpAnyH_ready (rs := [3]) (by kernel_rfl) (by simp) ?_
          refine' (AllReadyH.cons (o := _) ?hoN113 (fun K hK' => ?stN113) AllReadyH.nil)
          case hoN113 => (simp only [List.getElem?_toArray, List.getElem?_cons_succ, List.getElem?_cons_zero]; rfl)
          case stN113 =>
            rw [if_pos (by rfl)]
            refine wp_append_any _ (.tmp 17) (.tmp 19) 45 rfl (w.heap.size + 3) 62 i0 _ 9 64 Try.underlying45 HI.out.1 HI.out.2.1 HI.out.2.2.1 HI.out.2.2.2 rfl (by decide) _ 0 _ rfl own0 _ _ _ _ _ rfl (HR.out.keeps hK (by simp)).reads (flat_all _) (by simp only [maxLen]; omega) (by omega) (by have := hK.size; omega) ?_
            intro v1 V1 own3 g1 at1
            rw [Nat.zero_add, List.nil_append] at own3
            obtain ⟨p3, c3, rfl⟩ := own_form own3
            have bx := bx.grown g1 (fun e => by injection e with e; (try dsimp only at hne); (try dsimp only at e); omega)
            have hK := hK.grown g1 (fun b hb => .inr (by have := (own0.lt b hb).1; omega))
            have hq := hq.grown g1 (fun e => by have := (own0.lt _ e.symm).1; omega)
            have hr := hr.grown g1 (fun e => by have := (own0.lt _ e.symm).1; omega)
            have hB := Nat.le_trans hB g1.size
            have hX := hX.grown g1 (fun e => by have := (own0.lt _ e.symm).1; omega)
            clear own0
            have hcell : _ = some (Value.slice a l.length c) := hq.cell 0
            have hfro := hq.frozen
            have hz := hK.size
            refine hK'.out _ _ (hX) (fun hHeld' => ?_)
            clear hK' K hHeld
            have hHeld := hHeld'
            clear hHeld'
            try simp only [Act.put]
            try simp only [Act.put, List.setIfInBounds_toArray, List.set_cons_zero, List.set_cons_succ]
            refine wpAnyH_ready (rs := [6]) (by kernel_rfl) (by simp) ?_
            refine' (AllReadyH.cons (o := _) ?hoN126 (fun K hK' => ?stN126) AllReadyH.nil)
            case hoN126 => (simp only [List.getElem?_toArray, List.getElem?_cons_succ, List.getElem?_cons_zero]; rfl)
            case stN126 =>
              rw [if_pos (by rfl)]
              refine wp_append_any _ (.tmp 20) (.tmp 22) 45 rfl (w.heap.size + 3) 62 i0 _ 9 64 Try.underlying45 HI.out.1 HI.out.2.1 HI.out.2.2.1 HI.out.2.2.2 rfl (by decide) _ _ _ rfl own3 _ _ 1 1 (clc X) rfl (reads_blk bx) (clc_all _) (by simp only [maxLen]; omega) (by omega) (by have := hK.size; omega) ?_
              intro v1 V1 own6 g1 at1
              obtain ⟨p6, c6, rfl⟩ := own_form own6
              have hK := hK.grown g1 (fun b hb => .inr (by have := (own3.lt b hb).1; omega))
              have hq := hq.grown g1 (fun e => by have := (own3.lt _ e.symm).1; omega)
              have hr := hr.grown g1 (fun e => by have := (own3.lt _ e.symm).1; omega)
              have hB := Nat.le_trans hB g1.size
              have hX := hX.grown g1 (fun e => by have := (own3.lt _ e.symm).1; omega)
              clear own3 bx
              have hcell : _ = some (Value.slice a l.length c) := hq.cell 0
              have hfro := hq.frozen
              have hz := hK.size
              refine hK'.out _ _ (hX) (fun hHeld' => ?_)
              clear hK' K hHeld
              have hHeld := hHeld'
              clear hHeld'
              try simp only [Act.put]
              try simp only [Act.put, List.setIfInBounds_toArray, List.set_cons_zero, List.set_cons_succ]
              refine' wpAnyH_take (i := 7) (oi := _) (v := _) ?hM127 (by kernel_rfl) (by kernel_rfl) (by kernel_rfl) ?hQM127 (Or.inl ⟨?hwM127, ?hyM127⟩) hHeld ?restM127
              case hM127 => (simp only [List.getElem?_toArray, List.getElem?_cons_succ, List.getElem?_cons_zero]; rfl)
              case hQM127 => exact fun _ _ _ h => h
              case hwM127 => rfl
              case hyM127 => (intro w hSw; (try dsimp only at hSw); go_simp; try with_reducible rfl)
              try simp only [Act.put, List.setIfInBounds_toArray, List.set_cons_zero, List.set_cons_succ]
              refine wpAnyH_ready (rs := [8]) (by kernel_rfl) (by simp) ?_
              refine' (AllReadyH.cons (o := _) ?hoN138 (fun K hK' => ?stN138) AllReadyH.nil)
              case hoN138 => (simp only [List.getElem?_toArray, List.getElem?_cons_succ, List.getElem?_cons_zero]; rfl)
              case stN138 =>
                go_simp
                refine hK'.out _ _ (hX.far (p := ⟨_, 0, none⟩) (by show w.heap.size + 1 ≠ w.heap.size; omega) _) (fun hHeld' => ?_)
                clear hK' K hHeld
                have hHeld := hHeld'
                clear hHeld'
                try simp only [Act.put]
                try simp only [Act.put, List.setIfInBounds_toArray, List.set_cons_zero, List.set_cons_succ]
                refine wpAnyH_done (by kernel_rfl) ?_ _
                clear hHeld
                go_wp2_with fail
                go_meet
                case rel => exact ⟨p6, c6, rfl, by simpa [World.setCell] using hB, ownsRow_setCell own6 _ _ (own_blk_ne own6 hq (by decide)), hq.set_ 0 _, hr.far (by show w.heap.size + 1 + 1 ≠ w.heap.size; omega) _, hK.setCell (p := ⟨w.heap.size, 0, none⟩) (.inr (Nat.le_refl _)) _⟩
    case stN12 =>
      go_simp
      refine hK'.out _ _ hHeld (fun hHeld' => ?_)
      clear hK' K hHeld
      have hHeld := hHeld'
      clear hHeld'
      try simp only [Act.put]
      try simp only [Act.put, List.setIfInBounds_toArray, List.set_cons_zero, List.set_cons_succ]
      refine wpAnyH_ready (rs := [0, 5]) (by kernel_rfl) (by simp) ?_
      refine' (AllReadyH.cons (o := _) ?hoN140 (fun K hK' => ?stN140) (AllReadyH.cons (o := _) ?hoN145 (fun K hK' => ?stN145) AllReadyH.nil))
      case hoN140 => (simp only [List.getElem?_toArray, List.getElem?_cons_zero]; rfl)
      case hoN145 => (simp only [List.getElem?_toArray, List.getElem?_cons_succ, List.getElem?_cons_zero]; rfl)
      case stN140 =>
        rw [if_pos (by rfl)]
        refine wp_new0 rfl (B := w.heap.size + 3) (by omega) ?_
        intro V1 own0 k1
        skip
        have hK := hK.trans k1
        have hq := hq.keeps k1 (by simp)
        have hr := hr.keeps k1 (by simp)
        have hB := Nat.le_trans hB k1.size
        have hX := hX.keeps k1 (by simp)
        have hcell : _ = some (Value.slice a l.length c) := hq.cell 0
        have hfro := hq.frozen
        have hz := hK.size
        refine hK'.out _ _ (hX) (fun hHeld' => ?_)
        clear hK' K hHeld
        have hHeld := hHeld'
        clear hHeld'
        try simp only [Act.put]
        try simp only [Act.put, List.setIfInBounds_toArray, List.set_cons_zero, List.set_cons_succ]
        refine wpAnyH_ready (rs := [3, 5]) (by kernel_rfl) (by simp) ?_
        refine' (AllReadyH.cons (o := _) ?hoN153 (fun K hK' => ?stN153) (AllReadyH.cons (o := _) ?hoN155 (fun K hK' => ?stN155) AllReadyH.nil))
        case hoN153 => (simp only [List.getElem?_toArray, List.getElem?_cons_succ, List.getElem?_cons_zero]; rfl)
        case hoN155 => (simp only [List.getElem?_toArray, List.getElem?_cons_succ, List.getElem?_cons_zero]; rfl)
        case stN153 =>
          rw [if_pos (by rfl)]
          refine wp_append_any _ (.tmp 17) (.tmp 19) 45 rfl (w.heap.size + 3) 62 i0 _ 9 64 Try.underlying45 HI.out.1 HI.out.2.1 HI.out.2.2.1 HI.out.2.2.2 rfl (by decide) _ 0 _ rfl own0 _ _ _ _ _ rfl (HR.out.keeps hK (by simp)).reads (flat_all _) (by simp only [maxLen]; omega) (by omega) (by have := hK.size; omega) ?_
          intro v1 V1 own3 g1 at1
          rw [Nat.zero_add, List.nil_append] at own3
          obtain ⟨p3, c3, rfl⟩ := own_form own3
          have hK := hK.grown g1 (fun b hb => .inr (by have := (own0.lt b hb).1; omega))
          have hq := hq.grown g1 (fun e => by have := (own0.lt _ e.symm).1; omega)
          have hr := hr.grown g1 (fun e => by have := (own0.lt _ e.symm).1; omega)
          have hB := Nat.le_trans hB g1.size
          have hX := hX.grown g1 (fun e => by have := (own0.lt _ e.symm).1; omega)
          clear own0
          have hcell : _ = some (Value.slice a l.length c) := hq.cell 0
          have hfro := hq.frozen
          have hz := hK.size
          refine hK'.out _ _ (hX) (fun hHeld' => ?_)
          clear hK' K hHeld
          have hHeld := hHeld'
          clear hHeld'
          try simp only [Act.put]
          try simp only [Act.put, List.setIfInBounds_toArray, List.set_cons_zero, List.set_cons_succ]
          refine wpAnyH_ready (rs := [5]) (by kernel_rfl) (by simp) ?_
          refine' (AllReadyH.cons (o := _) ?hoN165 (fun K hK' => ?stN165) AllReadyH.nil)
          case hoN165 => (simp only [List.getElem?_toArray, List.getElem?_cons_succ, List.getElem?_cons_zero]; rfl)
          case stN165 =>
            rw [if_pos (by rfl)]
            refine wp_new1 X rfl rfl ?_
            intro V1 bx k1
            skip
            have own3 := ownsRow_keeps own3 k1 (by simp)
            have hK := hK.trans k1
            have hq := hq.keeps k1 (by simp)
            have hr := hr.keeps k1 (by simp)
            have hB := Nat.le_trans hB k1.size
            have hX := hX.keeps k1 (by simp)
            have hcell : _ = some (Value.slice a l.length c) := hq.cell 0
            have hfro := hq.frozen
            have hz := hK.size
            refine hK'.out _ _ (hX) (fun hHeld' => ?_)
            clear hK' K hHeld
            have hHeld := hHeld'
            clear hHeld'
            try simp only [Act.put]
            try simp only [Act.put, List.setIfInBounds_toArray, List.set_cons_zero, List.set_cons_succ]
            refine wpAnyH_ready (rs := [6]) (by kernel_rfl) (by simp) ?_
            refine' (AllReadyH.cons (o := _) ?hoN176 (fun K hK' => ?stN176) AllReadyH.nil)
            case hoN176 => (simp only [List.getElem?_toArray, List.getElem?_cons_succ, List.getElem?_cons_zero]; rfl)
            case stN176 =>
              rw [if_pos (by rfl)]
              refine wp_append_any _ (.tmp 20) (.tmp 22) 45 rfl (w.heap.size + 3) 62 i0 _ 9 64 Try.underlying45 HI.out.1 HI.out.2.1 HI.out.2.2.1 HI.out.2.2.2 rfl (by decide) _ _ _ rfl own3 _ _ 1 1 (clc X) rfl (reads_blk bx) (clc_all _) (by simp only [maxLen]; omega) (by omega) (by have := hK.size; omega) ?_
              intro v1 V1 own6 g1 at1
              obtain ⟨p6, c6, rfl⟩ := own_form own6
              have hK := hK.grown g1 (fun b hb => .inr (by have := (own3.lt b hb).1; omega))
              have hq := hq.grown g1 (fun e => by have := (own3.lt _ e.symm).1; omega)
              have hr := hr.grown g1 (fun e => by have := (own3.lt _ e.symm).1; omega)
              have hB := Nat.le_trans hB g1.size
              have hX := hX.grown g1 (fun e => by have := (own3.lt _ e.symm).1; omega)
              clear own3 bx
              have hcell : _ = some (Value.slice a l.length c) := hq.cell 0
              have hfro := hq.frozen
              have hz := hK.size
              refine hK'.out _ _ (hX) (fun hHeld' => ?_)
              clear hK' K hHeld
              have hHeld := hHeld'
              clear hHeld'
              try simp only [Act.put]
              try simp only [Act.put, List.setIfInBounds_toArray, List.set_cons_zero, List.set_cons_succ]
              refine' wpAnyH_take (i := 7) (oi := _) (v := _) ?hM177 (by kernel_rfl) (by kernel_rfl) (by kernel_rfl) ?hQM177 (Or.inl ⟨?hwM177, ?hyM177⟩) hHeld ?restM177
              case hM177 => (simp only [List.getElem?_toArray, List.getElem?_cons_succ, List.getElem?_cons_zero]; rfl)
              case hQM177 => exact fun _ _ _ h => h
              case hwM177 => rfl
              case hyM177 => (intro w hSw; (try dsimp only at hSw); go_simp; try with_reducible rfl)
              try simp only [Act.put, List.setIfInBounds_toArray, List.set_cons_zero, List.set_cons_succ]
              refine wpAnyH_ready (rs := [8]) (by kernel_rfl) (by simp) ?_
              refine' (AllReadyH.cons (o := _) ?hoN188 (fun K hK' => ?stN188) AllReadyH.nil)
              case hoN188 => (simp only [List.getElem?_toArray, List.getElem?_cons_succ, List.getElem?_cons_zero]; rfl)
              case stN188 =>
                go_simp
                refine hK'.out _ _ (hX.far (p := ⟨_, 0, none⟩) (by show w.heap.size + 1 ≠ w.heap.size; omega) _) (fun hHeld' => ?_)
                clear hK' K hHeld
                have hHeld := hHeld'
                clear hHeld'
                try simp only [Act.put]
                try simp only [Act.put, List.setIfInBounds_toArray, List.set_cons_zero, List.set_cons_succ]
                refine wpAnyH_done (by kernel_rfl) ?_ _
                clear hHeld
                go_wp2_with fail
                go_meet
                case rel => exact ⟨p6, c6, rfl, by simpa [World.setCell] using hB, ownsRow_setCell own6 _ _ (own_blk_ne own6 hq (by decide)), hq.set_ 0 _, hr.far (by show w.heap.size + 1 + 1 ≠ w.heap.size; omega) _, hK.setCell (p := ⟨w.heap.size, 0, none⟩) (.inr (Nat.le_refl _)) _⟩
        case stN155 =>
          rw [if_pos (by rfl)]
          refine wp_new1 X rfl rfl ?_
          intro V1 bx k1
          have hne : _ := Nat.ne_of_lt (own0.lt _ rfl).2
          have own0 := ownsRow_keeps own0 k1 (by simp)
          have hK := hK.trans k1
          have hq := hq.keeps k1 (by simp)
          have hr := hr.keeps k1 (by simp)
          have hB := Nat.le_trans hB k1.size
          have hX := hX.keeps k1 (by simp)
          have hcell : _ = some (Value.slice a l.length c) := hq.cell 0
          have hfro := hq.frozen
          have hz := hK.size
          refine hK'.out _ _ (hX) (fun hHeld' => ?_)
          clear hK' K hHeld
          have hHeld := hHeld'
          clear hHeld'
          try simp only [Act.put]
          try simp only [Act.put, List.setIfInBounds_toArray, List.set_cons_zero, List.set_cons_succ]
          refine wpAnyH_ready (rs := [3]) (by kernel_rfl) (by simp) ?_
          refine' (AllReadyH.cons (o := _) ?hoN193 (fun K hK' => ?stN193) AllReadyH.nil)
          case hoN193 => (simp only [List.getElem?_toArray, List.getElem?_cons_succ, List.getElem?_cons_zero]; rfl)
          case stN193 =>
            rw [if_pos (by rfl)]
            refine wp_append_any _ (.tmp 17) (.tmp 19) 45 rfl (w.heap.size + 3) 62 i0 _ 9 64 Try.underlying45 HI.out.1 HI.out.2.1 HI.out.2.2.1 HI.out.2.2.2 rfl (by decide) _ 0 _ rfl own0 _ _ _ _ _ rfl (HR.out.keeps hK (by simp)).reads (flat_all _) (by simp only [maxLen]; omega) (by omega) (by have := hK.size; omega) ?_
            intro v1 V1 own3 g1 at1
            rw [Nat.zero_add, List.nil_append] at own3
            obtain ⟨p3, c3, rfl⟩ := own_form own3
            have bx := bx.grown g1 (fun e => by injection e with e; (try dsimp only at hne); (try dsimp only at e); omega)
            have hK := hK.grown g1 (fun b hb => .inr (by have := (own0.lt b hb).1; omega))
            have hq := hq.grown g1 (fun e => by have := (own0.lt _ e.symm).1; omega)
            have hr := hr.grown g1 (fun e => by have := (own0.lt _ e.symm).1; omega)
            have hB := Nat.le_trans hB g1.size
            have hX := hX.grown g1 (fun e => by have := (own0.lt _ e.symm).1; omega)
            clear own0
            have hcell : _ = some (Value.slice a l.length c) := hq.cell 0
            have hfro := hq.frozen
            have hz := hK.size
            refine hK'.out _ _ (hX) (fun hHeld' => ?_)
            clear hK' K hHeld
            have hHeld := hHeld'
            clear hHeld'
            try simp only [Act.put]
            try simp only [Act.put, List.setIfInBounds_toArray, List.set_cons_zero, List.set_cons_succ]
            refine wpAnyH_ready (rs := [6]) (by kernel_rfl) (by simp) ?_
            refine' (AllReadyH.cons (o := _) ?hoN206 (fun K hK' => ?stN206) AllReadyH.nil)
            case hoN206 => (simp only [List.getElem?_toArray, List.getElem?_cons_succ, List.getElem?_cons_zero]; rfl)
            case stN206 =>
              rw [if_pos (by rfl)]
              refine wp_append_any _ (.tmp 20) (.tmp 22) 45 rfl (w.heap.size + 3) 62 i0 _ 9 64 Try.underlying45 HI.out.1 HI.out.2.1 HI.out.2.2.1 HI.out.2.2.2 rfl (by decide) _ _ _ rfl own3 _ _ 1 1 (clc X) rfl (reads_blk bx) (clc_all _) (by simp only [maxLen]; omega) (by omega) (by have := hK.size; omega) ?_
              intro v1 V1 own6 g1 at1
              obtain ⟨p6, c6, rfl⟩ := own_form own6
              have hK := hK.grown g1 (fun b hb => .inr (by have := (own3.lt b hb).1; omega))
              have hq := hq.grown g1 (fun e => by have := (own3.lt _ e.symm).1; omega)
              have hr := hr.grown g1 (fun e => by have := (own3.lt _ e.symm).1; omega)
              have hB := Nat.le_trans hB g1.size
              have hX := hX.grown g1 (fun e => by have := (own3.lt _ e.symm).1; omega)
              clear own3 bx
              have hcell : _ = some (Value.slice a l.length c) := hq.cell 0
              have hfro := hq.frozen
              have hz := hK.size
              refine hK'.out _ _ (hX) (fun hHeld' => ?_)
              clear hK' K hHeld
              have hHeld := hHeld'
              clear hHeld'
              try simp only [Act.put]
              try simp only [Act.put, List.setIfInBounds_toArray, List.set_cons_zero, List.set_cons_succ]
              refine' wpAnyH_take (i := 7) (oi := _) (v := _) ?hM207 (by kernel_rfl) (by kernel_rfl) (by kernel_rfl) ?hQM207 (Or.inl ⟨?hwM207, ?hyM207⟩) hHeld ?restM207
              case hM207 => (simp only [List.getElem?_toArray, List.getElem?_cons_succ, List.getElem?_cons_zero]; rfl)
              case hQM207 => exact fun _ _ _ h => h
              case hwM207 => rfl
              case hyM207 => (intro w hSw; (try dsimp only at hSw); go_simp; try with_reducible rfl)
              try simp only [Act.put, List.setIfInBounds_toArray, List.set_cons_zero, List.set_cons_succ]
              refine wpAnyH_ready (rs := [8]) (by kernel_rfl) (by simp) ?_
              refine' (AllReadyH.cons (o := _) ?hoN218 (fun K hK' => ?stN218) AllReadyH.nil)
              case hoN218 => (simp only [List.getElem?_toArray, List.getElem?_cons_succ, List.getElem?_cons_zero]; rfl)
              case stN218 =>
                go_simp
                refine hK'.out _ _ (hX.far (p := ⟨_, 0, none⟩) (by show w.heap.size + 1 ≠ w.heap.size; omega) _) (fun hHeld' => ?_)
                clear hK' K hHeld
                have hHeld := hHeld'
                clear hHeld'
                try simp only [Act.put]
                try simp only [Act.put, List.setIfInBounds_toArray, List.set_cons_zero, List.set_cons_succ]
                refine wpAnyH_done (by kernel_rfl) ?_ _
                clear hHeld
                go_wp2_with fail
                go_meet
                case rel => exact ⟨p6, c6, rfl, by simpa [World.setCell] using hB, ownsRow_setCell own6 _ _ (own_blk_ne own6 hq (by decide)), hq.set_ 0 _, hr.far (by show w.heap.size + 1 + 1 ≠ w.heap.size; omega) _, hK.setCell (p := ⟨w.heap.size, 0, none⟩) (.inr (Nat.le_refl _)) _⟩
      case stN145 =>
        rw [if_pos (by rfl)]
        refine wp_new1 X rfl rfl ?_
        intro V1 bx k1
        skip
        have hK := hK.trans k1
        have hq := hq.keeps k1 (by simp)
        have hr := hr.keeps k1 (by simp)
        have hB := Nat.le_trans hB k1.size
        have hX := hX.keeps k1 (by simp)
        have hcell : _ = some (Value.slice a l.length c) := hq.cell 0
        have hfro := hq.frozen
        have hz := hK.size
        refine hK'.out _ _ (hX) (fun hHeld' => ?_)
        clear hK' K hHeld
        have hHeld := hHeld'
        clear hHeld'
        try simp only [Act.put]
        try simp only [Act.put, List.setIfInBounds_toArray, List.set_cons_zero, List.set_cons_succ]
        refine wpAnyH_ready (rs := [0]) (by kernel_rfl) (by simp) ?_
        refine' (AllReadyH.cons (o := _) ?hoN220 (fun K hK' => ?stN220) AllReadyH.nil)
        case hoN220 => (simp only [List.getElem?_toArray, List.getElem?_cons_zero]; rfl)
        case stN220 =>
          rw [if_pos (by rfl)]
          refine wp_new0 rfl (B := w.heap.size + 3) (by omega) ?_
          intro V1 own0 k1
          have hne : _ := Nat.ne_of_gt bx.lt
          have bx := bx.keeps k1 (by simp)
          have hK := hK.trans k1
          have hq := hq.keeps k1 (by simp)
          have hr := hr.keeps k1 (by simp)
          have hB := Nat.le_trans hB k1.size
          have hX := hX.keeps k1 (by simp)
          have hcell : _ = some (Value.slice a l.length c) := hq.cell 0
          have hfro := hq.frozen
          have hz := hK.size
          refine hK'.out _ _ (hX) (fun hHeld' => ?_)
          clear hK' K hHeld
          have hHeld := hHeld'
          clear hHeld'
          try simp only [Act.put]
          try simp only [Act.put, List.setIfInBounds_toArray, List.set_cons_zero, List.set_cons_succ]
          refine wpAnyH_ready (rs := [3]) (by kernel_rfl) (by simp) ?_
          refine' (AllReadyH.cons (o := _) ?hoN233 (fun K hK' => ?stN233) AllReadyH.nil)
          case hoN233 => (simp only [List.getElem?_toArray, List.getElem?_cons_succ, List.getElem?_cons_zero]; rfl)
          case stN233 =>
            rw [if_pos (by rfl)]
            refine wp_append_any _ (.tmp 17) (.tmp 19) 45 rfl (w.heap.size + 3) 62 i0 _ 9 64 Try.underlying45 HI.out.1 HI.out.2.1 HI.out.2.2.1 HI.out.2.2.2 rfl (by decide) _ 0 _ rfl own0 _ _ _ _ _ rfl (HR.out.keeps hK (by simp)).reads (flat_all _) (by simp only [maxLen]; omega) (by omega) (by have := hK.size; omega) ?_
            intro v1 V1 own3 g1 at1
            rw [Nat.zero_add, List.nil_append] at own3
            obtain ⟨p3, c3, rfl⟩ := own_form own3
            have bx := bx.grown g1 (fun e => by injection e with e; (try dsimp only at hne); (try dsimp only at e); omega)
            have hK := hK.grown g1 (fun b hb => .inr (by have := (own0.lt b hb).1; omega))
            have hq := hq.grown g1 (fun e => by have := (own0.lt _ e.symm).1; omega)
            have hr := hr.grown g1 (fun e => by have := (own0.lt _ e.symm).1; omega)
            have hB := Nat.le_trans hB g1.size
            have hX := hX.grown g1 (fun e => by have := (own0.lt _ e.symm).1; omega)
            clear own0
            have hcell : _ = some (Value.slice a l.length c) := hq.cell 0
            have hfro := hq.frozen
            have hz := hK.size
            refine hK'.out _ _ (hX) (fun hHeld' => ?_)
            clear hK' K hHeld
            have hHeld := hHeld'
            clear hHeld'
            try simp only [Act.put]
            try simp only [Act.put, List.setIfInBounds_toArray, List.set_cons_zero, List.set_cons_succ]
            refine wpAnyH_ready (rs := [6]) (by kernel_rfl) (by simp) ?_
            refine' (AllReadyH.cons (o := _) ?hoN246 (fun K hK' => ?stN246) AllReadyH.nil)
            case hoN246 => (simp only [List.getElem?_toArray, List.getElem?_cons_succ, List.getElem?_cons_zero]; rfl)
            case stN246 =>
              rw [if_pos (by rfl)]
              refine wp_append_any _ (.tmp 20) (.tmp 22) 45 rfl (w.heap.size + 3) 62 i0 _ 9 64 Try.underlying45 HI.out.1 HI.out.2.1 HI.out.2.2.1 HI.out.2.2.2 rfl (by decide) _ _ _ rfl own3 _ _ 1 1 (clc X) rfl (reads_blk bx) (clc_all _) (by simp only [maxLen]; omega) (by omega) (by have := hK.size; omega) ?_
              intro v1 V1 own6 g1 at1
              obtain ⟨p6, c6, rfl⟩ := own_form own6
              have hK := hK.grown g1 (fun b hb => .inr (by have := (own3.lt b hb).1; omega))
              have hq := hq.grown g1 (fun e => by have := (own3.lt _ e.symm).1; omega)
              have hr := hr.grown g1 (fun e => by have := (own3.lt _ e.symm).1; omega)
              have hB := Nat.le_trans hB g1.size
              have hX := hX.grown g1 (fun e => by have := (own3.lt _ e.symm).1; omega)
              clear own3 bx
              have hcell : _ = some (Value.slice a l.length c) := hq.cell 0
              have hfro := hq.frozen
              have hz := hK.size
              refine hK'.out _ _ (hX) (fun hHeld' => ?_)
              clear hK' K hHeld
              have hHeld := hHeld'
              clear hHeld'
              try simp only [Act.put]
              try simp only [Act.put, List.setIfInBounds_toArray, List.set_cons_zero, List.set_cons_succ]
              refine' wpAnyH_take (i := 7) (oi := _) (v := _) ?hM247 (by kernel_rfl) (by kernel_rfl) (by kernel_rfl) ?hQM247 (Or.inl ⟨?hwM247, ?hyM247⟩) hHeld ?restM247
              case hM247 => (simp only [List.getElem?_toArray, List.getElem?_cons_succ, List.getElem?_cons_zero]; rfl)
              case hQM247 => exact fun _ _ _ h => h
              case hwM247 => rfl
              case hyM247 => (intro w hSw; (try dsimp only at hSw); go_simp; try with_reducible rfl)
              try simp only [Act.put, List.setIfInBounds_toArray, List.set_cons_zero, List.set_cons_succ]
              refine wpAnyH_ready (rs := [8]) (by kernel_rfl) (by simp) ?_
              refine' (AllReadyH.cons (o := _) ?hoN258 (fun K hK' => ?stN258) AllReadyH.nil)
              case hoN258 => (simp only [List.getElem?_toArray, List.getElem?_cons_succ, List.getElem?_cons_zero]; rfl)
              case stN258 =>
                go_simp
                refine hK'.out _ _ (hX.far (p := ⟨_, 0, none⟩) (by show w.heap.size + 1 ≠ w.heap.size; omega) _) (fun hHeld' => ?_)
                clear hK' K hHeld
                have hHeld := hHeld'
                clear hHeld'
                try simp only [Act.put]
                try simp only [Act.put, List.setIfInBounds_toArray, List.set_cons_zero, List.set_cons_succ]
                refine wpAnyH_done (by kernel_rfl) ?_ _
                clear hHeld
                go_wp2_with fail
                go_meet
                case rel => exact ⟨p6, c6, rfl, by simpa [World.setCell] using hB, ownsRow_setCell own6 _ _ (own_blk_ne own6 hq (by decide)), hq.set_ 0 _, hr.far (by show w.heap.size + 1 + 1 ≠ w.heap.size; omega) _, hK.setCell (p := ⟨w.heap.size, 0, none⟩) (.inr (Nat.le_refl _)) _⟩
    case stN15 =>
      rw [if_pos (by rfl)]
      refine wp_new1 X rfl rfl ?_
      intro V1 bx k1
      skip
      have hK := hK.trans k1
      have hq := hq.keeps k1 (by simp)
      have hr := hr.keeps k1 (by simp)
      have hB := Nat.le_trans hB k1.size
      have hX := hX.keeps k1 (by simp)
      have hcell : _ = some (Value.slice a l.length c) := hq.cell 0
      have hfro := hq.frozen
      have hz := hK.size
      refine hK'.out _ _ (hX) (fun hHeld' => ?_)
      clear hK' K hHeld
      have hHeld := hHeld'
      clear hHeld'
      try simp only [Act.put]
      try simp only [Act.put, List.setIfInBounds_toArray, List.set_cons_zero, List.set_cons_succ]
      refine wpAnyH_ready (rs := [0, 2]) (by kernel_rfl) (by simp) ?_
      refine' (AllReadyH.cons (o := _) ?hoN260 (fun K hK' => ?stN260) (AllReadyH.cons (o := _) ?hoN262 (fun K hK' => ?stN262) AllReadyH.nil))
      case hoN260 => (simp only [List.getElem?_toArray, List.getElem?_cons_zero]; rfl)
      case hoN262 => (simp only [List.getElem?_toArray, List.getElem?_cons_succ, List.getElem?_cons_zero]; rfl)
      case stN260 =>
        rw [if_pos (by rfl)]
        refine wp_new0 rfl (B := w.heap.size + 3) (by omega) ?_
        intro V1 own0 k1
        have hne : _ := Nat.ne_of_gt bx.lt
        have bx := bx.keeps k1 (by simp)
        have hK := hK.trans k1
        have hq := hq.keeps k1 (by simp)
        have hr := hr.keeps k1 (by simp)
        have hB := Nat.le_trans hB k1.size
        have hX := hX.keeps k1 (by simp)
        have hcell : _ = some (Value.slice a l.length c) := hq.cell 0
        have hfro := hq.frozen
        have hz := hK.size
        refine hK'.out _ _ (hX) (fun hHeld' => ?_)
        clear hK' K hHeld
        have hHeld := hHeld'
        clear hHeld'
        try simp only [Act.put]
        try simp only [Act.put, List.setIfInBounds_toArray, List.set_cons_zero, List.set_cons_succ]
        refine wpAnyH_ready (rs := [2]) (by kernel_rfl) (by simp) ?_
        refine' (AllReadyH.cons (o := _) ?hoN272 (fun K hK' => ?stN272) AllReadyH.nil)
        case hoN272 => (simp only [List.getElem?_toArray, List.getElem?_cons_succ, List.getElem?_cons_zero]; rfl)
        case stN272 =>
          go_simp
          refine hK'.out _ _ hHeld (fun hHeld' => ?_)
          clear hK' K hHeld
          have hHeld := hHeld'
          clear hHeld'
          try simp only [Act.put]
          try simp only [Act.put, List.setIfInBounds_toArray, List.set_cons_zero, List.set_cons_succ]
          refine wpAnyH_ready (rs := [3]) (by kernel_rfl) (by simp) ?_
          refine' (AllReadyH.cons (o := _) ?hoN283 (fun K hK' => ?stN283) AllReadyH.nil)
          case hoN283 => (simp only [List.getElem?_toArray, List.getElem?_cons_succ, List.getElem?_cons_zero]; rfl)
          case stN283 =>
            rw [if_pos (by rfl)]
            refine wp_append_any _ (.tmp 17) (.tmp 19) 45 rfl (w.heap.size + 3) 62 i0 _ 9 64 Try.underlying45 HI.out.1 HI.out.2.1 HI.out.2.2.1 HI.out.2.2.2 rfl (by decide) _ 0 _ rfl own0 _ _ _ _ _ rfl (HR.out.keeps hK (by simp)).reads (flat_all _) (by simp only [maxLen]; omega) (by omega) (by have := hK.size; omega) ?_
            intro v1 V1 own3 g1 at1
            rw [Nat.zero_add, List.nil_append] at own3
            obtain ⟨p3, c3, rfl⟩ := own_form own3
            have bx := bx.grown g1 (fun e => by injection e with e; (try dsimp only at hne); (try dsimp only at e); omega)
            have hK := hK.grown g1 (fun b hb => .inr (by have := (own0.lt b hb).1; omega))
            have hq := hq.grown g1 (fun e => by have := (own0.lt _ e.symm).1; omega)
            have hr := hr.grown g1 (fun e => by have := (own0.lt _ e.symm).1; omega)
            have hB := Nat.le_trans hB g1.size
            have hX := hX.grown g1 (fun e => by have := (own0.lt _ e.symm).1; omega)
            clear own0
            have hcell : _ = some (Value.slice a l.length c) := hq.cell 0
            have hfro := hq.frozen
            have hz := hK.size
            refine hK'.out _ _ (hX) (fun hHeld' => ?_)
            clear hK' K hHeld
            have hHeld := hHeld'
            clear hHeld'
            try simp only [Act.put]
            try simp only [Act.put, List.setIfInBounds_toArray, List.set_cons_zero, List.set_cons_succ]
            refine wpAnyH_ready (rs := [6]) (by kernel_rfl) (by simp) ?_
            refine' (AllReadyH.cons (o := _) ?hoN296 (fun K hK' => ?stN296) AllReadyH.nil)
            case hoN296 => (simp only [List.getElem?_toArray, List.getElem?_cons_succ, List.getElem?_cons_zero]; rfl)
            case stN296 =>
              rw [if_pos (by rfl)]
              refine wp_append_any _ (.tmp 20) (.tmp 22) 45 rfl (w.heap.size + 3) 62 i0 _ 9 64 Try.underlying45 HI.out.1 HI.out.2.1 HI.out.2.2.1 HI.out.2.2.2 rfl (by decide) _ _ _ rfl own3 _ _ 1 1 (clc X) rfl (reads_blk bx) (clc_all _) (by simp only [maxLen]; omega) (by omega) (by have := hK.size; omega) ?_
              intro v1 V1 own6 g1 at1
              obtain ⟨p6, c6, rfl⟩ := own_form own6
              have hK := hK.grown g1 (fun b hb => .inr (by have := (own3.lt b hb).1; omega))
              have hq := hq.grown g1 (fun e => by have := (own3.lt _ e.symm).1; omega)
              have hr := hr.grown g1 (fun e => by have := (own3.lt _ e.symm).1; omega)
              have hB := Nat.le_trans hB g1.size
              have hX := hX.grown g1 (fun e => by have := (own3.lt _ e.symm).1; omega)
              clear own3 bx
              have hcell : _ = some (Value.slice a l.length c) := hq.cell 0
              have hfro := hq.frozen
              have hz := hK.size
              refine hK'.out _ _ (hX) (fun hHeld' => ?_)
              clear hK' K hHeld
              have hHeld := hHeld'
              clear hHeld'
              try simp only [Act.put]
              try simp only [Act.put, List.setIfInBounds_toArray, List.set_cons_zero, List.set_cons_succ]
              refine' wpAnyH_take (i := 7) (oi := _) (v := _) ?hM297 (by kernel_rfl) (by kernel_rfl) (by kernel_rfl) ?hQM297 (Or.inl ⟨?hwM297, ?hyM297⟩) hHeld ?restM297
              case hM297 => (simp only [List.getElem?_toArray, List.getElem?_cons_succ, List.getElem?_cons_zero]; rfl)
              case hQM297 => exact fun _ _ _ h => h
              case hwM297 => rfl
              case hyM297 => (intro w hSw; (try dsimp only at hSw); go_simp; try with_reducible rfl)
              try simp only [Act.put, List.setIfInBounds_toArray, List.set_cons_zero, List.set_cons_succ]
              refine wpAnyH_ready (rs := [8]) (by kernel_rfl) (by simp) ?_
              refine' (AllReadyH.cons (o := _) ?hoN308 (fun K hK' => ?stN308) AllReadyH.nil)
              case hoN308 => (simp only [List.getElem?_toArray, List.getElem?_cons_succ, List.getElem?_cons_zero]; rfl)
              case stN308 =>
                go_simp
                refine hK'.out _ _ (hX.far (p := ⟨_, 0, none⟩) (by show w.heap.size + 1 ≠ w.heap.size; omega) _) (fun hHeld' => ?_)
                clear hK' K hHeld
                have hHeld := hHeld'
                clear hHeld'
                try simp only [Act.put]
                try simp only [Act.put, List.setIfInBounds_toArray, List.set_cons_zero, List.set_cons_succ]
                refine wpAnyH_done (by kernel_rfl) ?_ _
                clear hHeld
                go_wp2_with fail
                go_meet
                case rel => exact ⟨p6, c6, rfl, by simpa [World.setCell] using hB, ownsRow_setCell own6 _ _ (own_blk_ne own6 hq (by decide)), hq.set_ 0 _, hr.far (by show w.heap.size + 1 + 1 ≠ w.heap.size; omega) _, hK.setCell (p := ⟨w.heap.size, 0, none⟩) (.inr (Nat.le_refl _)) _⟩
      case stN262 =>
        go_simp
        refine hK'.out _ _ hHeld (fun hHeld' => ?_)
        clear hK' K hHeld
        have hHeld := hHeld'
        clear hHeld'
        try simp only [Act.put]
        try simp only [Act.put, List.setIfInBounds_toArray, List.set_cons_zero, List.set_cons_succ]
        refine wpAnyH_ready (rs := [0]) (by kernel_rfl) (by simp) ?_
        refine' (AllReadyH.cons (o := _) ?hoN310 (fun K hK' => ?stN310) AllReadyH.nil)
        case hoN310 => (simp only [List.getElem?_toArray, List.getElem?_cons_zero]; rfl)
        case stN310 =>
          rw [if_pos (by rfl)]
          refine wp_new0 rfl (B := w.heap.size + 3) (by omega) ?_
          intro V1 own0 k1
          have hne : _ := Nat.ne_of_gt bx.lt
          have bx := bx.keeps k1 (by simp)
          have hK := hK.trans k1
          have hq := hq.keeps k1 (by simp)
          have hr := hr.keeps k1 (by simp)
          have hB := Nat.le_trans hB k1.size
          have hX := hX.keeps k1 (by simp)
          have hcell : _ = some (Value.slice a l.length c) := hq.cell 0
          have hfro := hq.frozen
          have hz := hK.size
          refine hK'.out _ _ (hX) (fun hHeld' => ?_)
          clear hK' K hHeld
          have hHeld := hHeld'
          clear hHeld'
          try simp only [Act.put]
          try simp only [Act.put, List.setIfInBounds_toArray, List.set_cons_zero, List.set_cons_succ]
          refine wpAnyH_ready (rs := [3]) (by kernel_rfl) (by simp) ?_
          refine' (AllReadyH.cons (o := _) ?hoN323 (fun K hK' => ?stN323) AllReadyH.nil)
          case hoN323 => (simp only [List.getElem?_toArray, List.getElem?_cons_succ, List.getElem?_cons_zero]; rfl)
          case stN323 =>
            rw [if_pos (by rfl)]
            refine wp_append_any _ (.tmp 17) (.tmp 19) 45 rfl (w.heap.size + 3) 62 i0 _ 9 64 Try.underlying45 HI.out.1 HI.out.2.1 HI.out.2.2.1 HI.out.2.2.2 rfl (by decide) _ 0 _ rfl own0 _ _ _ _ _ rfl (HR.out.keeps hK (by simp)).reads (flat_all _) (by simp only [maxLen]; omega) (by omega) (by have := hK.size; omega) ?_
            intro v1 V1 own3 g1 at1
            rw [Nat.zero_add, List.nil_append] at own3
            obtain ⟨p3, c3, rfl⟩ := own_form own3
            have bx := bx.grown g1 (fun e => by injection e with e; (try dsimp only at hne); (try dsimp only at e); omega)
            have hK := hK.grown g1 (fun b hb => .inr (by have := (own0.lt b hb).1; omega))
            have hq := hq.grown g1 (fun e => by have := (own0.lt _ e.symm).1; omega)
            have hr := hr.grown g1 (fun e => by have := (own0.lt _ e.symm).1; omega)
            have hB := Nat.le_trans hB g1.size
            have hX := hX.grown g1 (fun e => by have := (own0.lt _ e.symm).1; omega)
            clear own0
            have hcell : _ = some (Value.slice a l.length c) := hq.cell 0
            have hfro := hq.frozen
            have hz := hK.size
            refine hK'.out _ _ (hX) (fun hHeld' => ?_)
            clear hK' K hHeld
            have hHeld := hHeld'
            clear hHeld'
            try simp only [Act.put]
            try simp only [Act.put, List.setIfInBounds_toArray, List.set_cons_zero, List.set_cons_succ]
            refine wpAnyH_ready (rs := [6]) (by kernel_rfl) (by simp) ?_
            refine' (AllReadyH.cons (o := _) ?hoN336 (fun K hK' => ?stN336) AllReadyH.nil)
            case hoN336 => (simp only [List.getElem?_toArray, List.getElem?_cons_succ, List.getElem?_cons_zero]; rfl)
            case stN336 =>
              rw [if_pos (by rfl)]
              refine wp_append_any _ (.tmp 20) (.tmp 22) 45 rfl (w.heap.size + 3) 62 i0 _ 9 64 Try.underlying45 HI.out.1 HI.out.2.1 HI.out.2.2.1 HI.out.2.2.2 rfl (by decide) _ _ _ rfl own3 _ _ 1 1 (clc X) rfl (reads_blk bx) (clc_all _) (by simp only [maxLen]; omega) (by omega) (by have := hK.size; omega) ?_
              intro v1 V1 own6 g1 at1
              obtain ⟨p6, c6, rfl⟩ := own_form own6
              have hK := hK.grown g1 (fun b hb => .inr (by have := (own3.lt b hb).1; omega))
              have hq := hq.grown g1 (fun e => by have := (own3.lt _ e.symm).1; omega)
              have hr := hr.grown g1 (fun e => by have := (own3.lt _ e.symm).1; omega)
              have hB := Nat.le_trans hB g1.size
              have hX := hX.grown g1 (fun e => by have := (own3.lt _ e.symm).1; omega)
              clear own3 bx
              have hcell : _ = some (Value.slice a l.length c) := hq.cell 0
              have hfro := hq.frozen
              have hz := hK.size
              refine hK'.out _ _ (hX) (fun hHeld' => ?_)
              clear hK' K hHeld
              have hHeld := hHeld'
              clear hHeld'
              try simp only [Act.put]
              try simp only [Act.put, List.setIfInBounds_toArray, List.set_cons_zero, List.set_cons_succ]
              refine' wpAnyH_take (i := 7) (oi := _) (v := _) ?hM337 (by kernel_rfl) (by kernel_rfl) (by kernel_rfl) ?hQM337 (Or.inl ⟨?hwM337, ?hyM337⟩) hHeld ?restM337
              case hM337 => (simp only [List.getElem?_toArray, List.getElem?_cons_succ, List.getElem?_cons_zero]; rfl)
              case hQM337 => exact fun _ _ _ h => h
              case hwM337 => rfl
              case hyM337 => (intro w hSw; (try dsimp only at hSw); go_simp; try with_reducible rfl)
              try simp only [Act.put, List.setIfInBounds_toArray, List.set_cons_zero, List.set_cons_succ]
              refine wpAnyH_ready (rs := [8]) (by kernel_rfl) (by simp) ?_
              refine' (AllReadyH.cons (o := _) ?hoN348 (fun K hK' => ?stN348) AllReadyH.nil)
              case hoN348 => (simp only [List.getElem?_toArray, List.getElem?_cons_succ, List.getElem?_cons_zero]; rfl)
              case stN348 =>
                go_simp
                refine hK'.out _ _ (hX.far (p := ⟨_, 0, none⟩) (by show w.heap.size + 1 ≠ w.heap.size; omega) _) (fun hHeld' => ?_)
                clear hK' K hHeld
                have hHeld := hHeld'
                clear hHeld'
                try simp only [Act.put]
                try simp only [Act.put, List.setIfInBounds_toArray, List.set_cons_zero, List.set_cons_succ]
                refine wpAnyH_done (by kernel_rfl) ?_ _
                clear hHeld
                go_wp2_with fail
                go_meet
                case rel => exact ⟨p6, c6, rfl, by simpa [World.setCell] using hB, ownsRow_setCell own6 _ _ (own_blk_ne own6 hq (by decide)), hq.set_ 0 _, hr.far (by show w.heap.size + 1 + 1 ≠ w.heap.size; omega) _, hK.setCell (p := ⟨w.heap.size, 0, none⟩) (.inr (Nat.le_refl _)) _⟩
  case rest =>
    obtain ⟨p, c', rfl, hB, hown, hq, hr, hk⟩ := hcut
    have hF' : ∀ b ∈ F, b < w.heap.size + 3 := fun b m => by have := hF b m; omega
    have q0 : wc.cell? ⟨w.heap.size, 0, none⟩ = some (.slice p (l.length + 1) c') := hq.cell 0
    have q1 : wc.cell? ⟨w.heap.size, 1, none⟩ = some (.slice b dl.length d) := hq.cell 1
    have q2 : wc.cell? ⟨w.heap.size, 2, none⟩ = some (.int .i64 lim) := hq.cell 2
    have r0 : wc.cell? ⟨w.heap.size + 1 + 1, 0, none⟩ = some (.slice none 0 0) := hr.cell 0
    have r1 : wc.cell? ⟨w.heap.size + 1 + 1, 1, none⟩ = some (.slice none 0 0) := hr.cell 1
    have r2 : wc.cell? ⟨w.heap.size + 1 + 1, 2, none⟩ = some (.int .i64 0) := hr.cell 2
    have hrf := hr.frozen
    have H := Lib.hid (And.intro hown hk)
    clear hown hk hq hr
    go_wp2
    refine bodyPost_ret (v := .tuple #[.agg #[.slice p (l.length + 1) c', .slice b dl.length d, .int .i64 lim], .bool true]) (by simp [results, Try.results26, go_sem, r0, r1, r2]) rfl ?_
    obtain ⟨hown, hk⟩ := H.out
    have hc' := own_cap hown
    have hl9 : (l ++ [x]).length = l.length + 1 := by simp
    rw [← hl9] at hown hc' ⊢
    have hfl : flat (l.map pend) ++ clc X = flat ((l ++ [x]).map pend) := by rw [← HX.out, List.map_append, flat_app]; exact congrArg _ (flat_one _).symm
    rw [hfl] at hown
    have := rf_end (F := F) (d := d) (lim := lim) hk (keep3 (w.heap.size + 1 + 1) (.slice p (l ++ [x]).length c') (.slice b dl.length d) (.int .i64 lim)) (by omega) (Rd.own hown (by intro z hz; simp only [List.mem_cons] at hz; rcases hz with rfl | hz; omega; have := hF z hz; omega)) ((HD.out.more (G := (w.heap.size + 1 + 1) :: F) (by intro z hz; simp only [List.mem_cons] at hz; rcases hz with rfl | hz; exact .inr (by omega); exact .inl hz)).keeps hk (by simp)) hc'
    exact ⟨_, rfl, this.1, this.2⟩
set_option maxRecDepth 100000 in
set_option maxHeartbeats 2000000 in
theorem rfirst_ok {F : List Nat} {x : It} {l : List It} {dl : List Cl} {lim : Int} (st n : Int) (v : Value) (w : World) (h : Rf w F v (x :: l) dl lim) (hF : ∀ b ∈ F, b < w.heap.size) (hm : ((x :: l).length : Int) + (dl.length : Int) ≤ 100) :
    Calls Try.prog 37 #[v, .int .i64 st, .int .i64 n] w (IsRf F l (dl ++ [⟨x, st, n⟩]) lim none w) := by
  obtain ⟨a, c, b, d, rfl, ha, hb, hcap⟩ := h
  obtain ⟨i0, hi0, hz0, hz1, hz2⟩ := info_parts ri_all
  have HI := Lib.hid (And.intro hi0 (And.intro hz0 (And.intro hz1 hz2)))
  clear hi0 hz0 hz1 hz2
  obtain ⟨ab, rfl, hab, haF, har⟩ := ha.at_ 0 (pend x) rfl
  rw [Nat.zero_mul] at har
  have HS := Lib.hid ha
  have HR := Lib.hid hb
  clear ha hb
  obtain ⟨X, hX0⟩ : ∃ X : Cl, (⟨x, st, n⟩ : Cl) = X := ⟨_, rfl⟩
  rw [hX0]
  rw [show (x :: l).length = l.length + 1 from rfl] at hm hcap HS ⊢
  have HX := Lib.hid hX0
  clear hX0
  go_enter Try.func37, Try.ntmps37
  go_upto_region 4 with (first | (refine wpList_load_mid rfl _ _ rfl ab 0 rfl (clc (pend x)) _ (range_keep har (((Keeps.refl [] w).alloc _).alloc _) hab (by simp)) Try.underlying62 rfl (ri_cs _) ?_) | (refine wpList_store_cl rfl _ _ rfl (w.heap.size + 1 + 1) #[.int .i64 0, .int .u8 0, .int .u8 0, .int .i64 0, .int .i64 0, .int .i64 0, .bool false, .int .i64 0, .int .i64 0] (pend x) rfl rfl (by have := Blk.new ((w.alloc (.cells #[.slice (some ⟨ab, 0, none⟩) (l.length + 1) c, .slice b dl.length d, .int .i64 lim] 47)).alloc (.cells #[.slice none 0 0, .slice none 0 0, .int .i64 0] 47)) 62 #[.int .i64 0, .int .u8 0, .int .u8 0, .int .i64 0, .int .i64 0, .int .i64 0, .bool false, .int .i64 0, .int .i64 0]; simpa using this) rfl ?_; intro V1 hX1 k1; have c7 := blk7 hX1; have c8 := blk8 hX1; have f1 := hX1.frozen))
  go_cut [22] from 7 to 30 (fun s wx => ∃ p c', s = .slice p (dl.length + 1) c' ∧ w.heap.size + 3 ≤ wx.heap.size ∧ wx.ownsRow (w.heap.size + 3) 62 9 (.slice p (dl.length + 1) c') (dl.length + 1) (flat dl ++ clc X) ∧ Blk wx w.heap.size 47 #[.slice (some ⟨ab, 0, none⟩) (l.length + 1) c, .slice p (dl.length + 1) c', .int .i64 lim] ∧ Blk wx (w.heap.size + 1) 47 #[.slice none 0 0, .slice none 0 0, .int .i64 0] ∧ Keeps [] w wx)
  case first =>
    obtain ⟨V0, hV0⟩ : ∃ V, (V1.setCell ⟨w.heap.size + 1 + 1, 7, none⟩ (.int .i64 st)).setCell ⟨w.heap.size + 1 + 1, 8, none⟩ (.int .i64 n) = V := ⟨_, rfl⟩
    rw [hV0]
    have hX : Blk V0.drew (w.heap.size + 1 + 1) 62 (clc X).toArray := by rw [← hV0, ← HX.out]; exact (set8 n (set7 st hX1)).drew
    have hq : Blk V0.drew w.heap.size 47 #[.slice (some ⟨ab, 0, none⟩) (l.length + 1) c, .slice b dl.length d, .int .i64 lim] := by rw [← hV0]; exact ((((((Blk.new w _ _).alloc _).alloc _).keeps k1 (by simp; try omega))).keeps (keep78 (w.heap.size + 1 + 1) _ _) (by simp; try omega)).drew
    have hr : Blk V0.drew (w.heap.size + 1) 47 #[.slice none 0 0, .slice none 0 0, .int .i64 0] := by rw [← hV0]; have := (Blk.new (w.alloc (.cells #[.slice (some ⟨ab, 0, none⟩) (l.length + 1) c, .slice b dl.length d, .int .i64 lim] 47)) 47 #[.slice none 0 0, .slice none 0 0, .int .i64 0]).alloc (.cells #[.int .i64 0, .int .u8 0, .int .u8 0, .int .i64 0, .int .i64 0, .int .i64 0, .bool false, .int .i64 0, .int .i64 0] 62); exact ((by simpa using this.keeps k1 (by simp; try omega) : Blk V1 (w.heap.size + 1) 47 _).keeps (keep78 (w.heap.size + 1 + 1) _ _) (by simp; try omega)).drew
    have hK : Keeps [] w V0.drew := by rw [← hV0]; exact (((((((Keeps.refl [] w).alloc _).alloc _).alloc _).next k1 (by simp; try omega)).next (keep78 (w.heap.size + 1 + 1) _ _) (by simp; try omega))).drew
    have hB : w.heap.size + 3 ≤ V0.drew.heap.size := by rw [← hV0]; have := k1.size; simp at this ⊢; omega
    clear hV0 c7 c8 f1 hX1 k1
    refine wp_region_held_drew (S := (fun V => Blk V (w.heap.size + 1 + 1) 62 (clc X).toArray)) (by kernel_rfl) hX (fun hHeld => ?_)
    generalize V0.drew = U0 at *
    have hcell : _ = some (Value.slice b dl.length d) := hq.cell 1
    have hfro := hq.frozen
    have hz := hK.size
    refine' wpAnyH_take (i := 1) (oi := _) (v := _) ?hB1 (by kernel_rfl) (by kernel_rfl) (by kernel_rfl) ?hQB1 (Or.inl ⟨?hwB1, ?hyB1⟩) hHeld ?restB1
    case hB1 => (simp only [List.getElem?_toArray, List.getElem?_cons_succ, List.getElem?_cons_zero]; rfl)
    case hQB1 => exact fun _ _ _ h => h
    case hwB1 => rfl
    case hyB1 => (intro w hSw; (try dsimp only at hSw); go_simp; try with_reducible rfl)
    try simp only [Act.put, List.setIfInBounds_toArray, List.set_cons_zero, List.set_cons_succ]
    refine' wpAnyH_take (i := 4) (oi := _) (v := .agg (clc X).toArray) ?hB4 (by kernel_rfl) (by kernel_rfl) (by kernel_rfl) ?hQB4 ?hyB4 hHeld ?restB4
    case hB4 => (simp only [List.getElem?_toArray, List.getElem?_cons_succ, List.getElem?_cons_zero]; rfl)
    case hQB4 => exact fun _ _ _ h => h
    case hyB4 => exact yieldsIf_load_mid rfl _ _ rfl _ _ rfl (clc X) _ (fun _ h => blk_range _ h) Try.underlying62 rfl (ri_cs X)
    try simp only [Act.put, List.setIfInBounds_toArray, List.set_cons_zero, List.set_cons_succ]
    refine wpAnyH_ready (rs := [0, 2, 5]) (by kernel_rfl) (by simp) ?_
    refine' (AllReadyH.cons (o := _) ?hoN10 (fun K hK' => ?stN10) (AllReadyH.cons (o := _) ?hoN12 (fun K hK' => ?stN12) (AllReadyH.cons (o := _) ?hoN15 (fun K hK' => ?stN15) AllReadyH.nil)))
    case hoN10 => (simp only [List.getElem?_toArray, List.getElem?_cons_zero]; rfl)
    case hoN12 => (simp only [List.getElem?_toArray, List.getElem?_cons_succ, List.getElem?_cons_zero]; rfl)
    case hoN15 => (simp only [List.getElem?_toArray, List.getElem?_cons_succ, List.getElem?_cons_zero]; rfl)
    case stN10 =>
      rw [if_pos (by rfl)]
      refine wp_new0 rfl (B := w.heap.size + 3) (by omega) ?_
      intro V1 own0 k1
      skip
      have hK := hK.trans k1
      have hq := hq.keeps k1 (by simp)
      have hr := hr.keeps k1 (by simp)
      have hB := Nat.le_trans hB k1.size
      have hX := hX.keeps k1 (by simp)
      have hcell : _ = some (Value.slice b dl.length d) := hq.cell 1
      have hfro := hq.frozen
      have hz := hK.size
      refine hK'.out _ _ (hX) (fun hHeld' => ?_)
      clear hK' K hHeld
      have hHeld := hHeld'
      clear hHeld'
      try simp only [Act.put]
      try simp only [Act.put, List.setIfInBounds_toArray, List.set_cons_zero, List.set_cons_succ]
      refine wpAnyH_ready (rs := [2, 5]) (by kernel_rfl) (by simp) ?_
      refine' (AllReadyH.cons (o := _) ?hoN22 (fun K hK' => ?stN22) (AllReadyH.cons (o := _) ?hoN25 (fun K hK' => ?stN25) AllReadyH.nil))
      case hoN22 => (simp only [List.getElem?_toArray, List.getElem?_cons_succ, List.getElem?_cons_zero]; rfl)
      case hoN25 => (simp only [List.getElem?_toArray, List.getElem?_cons_succ, List.getElem?_cons_zero]; rfl)
      case stN22 =>
        go_simp
        refine hK'.out _ _ hHeld (fun hHeld' => ?_)
        clear hK' K hHeld
        have hHeld := hHeld'
        clear hHeld'
        try simp only [Act.put]
        try simp only [Act.put, List.setIfInBounds_toArray, List.set_cons_zero, List.set_cons_succ]
        refine wpAnyH_ready (rs := [3, 5]) (by kernel_rfl) (by simp) ?_
        refine' (AllReadyH.cons (o := _) ?hoN33 (fun K hK' => ?stN33) (AllReadyH.cons (o := _) ?hoN35 (fun K hK' => ?stN35) AllReadyH.nil))
        case hoN33 => (simp only [List.getElem?_toArray, List.getElem?_cons_succ, List.getElem?_cons_zero]; rfl)
        case hoN35 => (simp only [List.getElem?_toArray, List.getElem?_cons_succ, List.getElem?_cons_zero]; rfl)
        case stN33 =>
          rw [if_pos (by rfl)]
          refine wp_append_any _ (.tmp 16) (.tmp 18) 45 rfl (w.heap.size + 3) 62 i0 _ 9 64 Try.underlying45 HI.out.1 HI.out.2.1 HI.out.2.2.1 HI.out.2.2.2 rfl (by decide) _ 0 _ rfl own0 _ _ _ _ _ rfl (HR.out.keeps hK (by simp)).reads (flat_all _) (by simp only [maxLen]; omega) (by omega) (by have := hK.size; omega) ?_
          intro v1 V1 own3 g1 at1
          rw [Nat.zero_add, List.nil_append] at own3
          obtain ⟨p3, c3, rfl⟩ := own_form own3
          have hK := hK.grown g1 (fun b hb => .inr (by have := (own0.lt b hb).1; omega))
          have hq := hq.grown g1 (fun e => by have := (own0.lt _ e.symm).1; omega)
          have hr := hr.grown g1 (fun e => by have := (own0.lt _ e.symm).1; omega)
          have hB := Nat.le_trans hB g1.size
          have hX := hX.grown g1 (fun e => by have := (own0.lt _ e.symm).1; omega)
          clear own0
          have hcell : _ = some (Value.slice b dl.length d) := hq.cell 1
          have hfro := hq.frozen
          have hz := hK.size
          refine hK'.out _ _ (hX) (fun hHeld' => ?_)
          clear hK' K hHeld
          have hHeld := hHeld'
          clear hHeld'
          try simp only [Act.put]
          try simp only [Act.put, List.setIfInBounds_toArray, List.set_cons_zero, List.set_cons_succ]
          refine wpAnyH_ready (rs := [5]) (by kernel_rfl) (by simp) ?_
          refine' (AllReadyH.cons (o := _) ?hoN45 (fun K hK' => ?stN45) AllReadyH.nil)
          case hoN45 => (simp only [List.getElem?_toArray, List.getElem?_cons_succ, List.getElem?_cons_zero]; rfl)
          case stN45 =>
            rw [if_pos (by rfl)]
            refine wp_new1 X rfl rfl ?_
            intro V1 bx k1
            skip
            have own3 := ownsRow_keeps own3 k1 (by simp)
            have hK := hK.trans k1
            have hq := hq.keeps k1 (by simp)
            have hr := hr.keeps k1 (by simp)
            have hB := Nat.le_trans hB k1.size
            have hX := hX.keeps k1 (by simp)
            have hcell : _ = some (Value.slice b dl.length d) := hq.cell 1
            have hfro := hq.frozen
            have hz := hK.size
            refine hK'.out _ _ (hX) (fun hHeld' => ?_)
            clear hK' K hHeld
            have hHeld := hHeld'
            clear hHeld'
            try simp only [Act.put]
            try simp only [Act.put, List.setIfInBounds_toArray, List.set_cons_zero, List.set_cons_succ]
            refine wpAnyH_ready (rs := [6]) (by kernel_rfl) (by simp) ?_
            refine' (AllReadyH.cons (o := _) ?hoN56 (fun K hK' => ?stN56) AllReadyH.nil)
            case hoN56 => (simp only [List.getElem?_toArray, List.getElem?_cons_succ, List.getElem?_cons_zero]; rfl)
            case stN56 =>
              rw [if_pos (by rfl)]
              refine wp_append_any _ (.tmp 19) (.tmp 21) 45 rfl (w.heap.size + 3) 62 i0 _ 9 64 Try.underlying45 HI.out.1 HI.out.2.1 HI.out.2.2.1 HI.out.2.2.2 rfl (by decide) _ _ _ rfl own3 _ _ 1 1 (clc X) rfl (reads_blk bx) (clc_all _) (by simp only [maxLen]; omega) (by omega) (by have := hK.size; omega) ?_
              intro v1 V1 own6 g1 at1
              obtain ⟨p6, c6, rfl⟩ := own_form own6
              have hK := hK.grown g1 (fun b hb => .inr (by have := (own3.lt b hb).1; omega))
              have hq := hq.grown g1 (fun e => by have := (own3.lt _ e.symm).1; omega)
              have hr := hr.grown g1 (fun e => by have := (own3.lt _ e.symm).1; omega)
              have hB := Nat.le_trans hB g1.size
              have hX := hX.grown g1 (fun e => by have := (own3.lt _ e.symm).1; omega)
              clear own3 bx
              have hcell : _ = some (Value.slice b dl.length d) := hq.cell 1
              have hfro := hq.frozen
              have hz := hK.size
              refine hK'.out _ _ (hX) (fun hHeld' => ?_)
              clear hK' K hHeld
              have hHeld := hHeld'
              clear hHeld'
              try simp only [Act.put]
              try simp only [Act.put, List.setIfInBounds_toArray, List.set_cons_zero, List.set_cons_succ]
              refine' wpAnyH_take (i := 7) (oi := _) (v := _) ?hM57 (by kernel_rfl) (by kernel_rfl) (by kernel_rfl) ?hQM57 (Or.inl ⟨?hwM57, ?hyM57⟩) hHeld ?restM57
              case hM57 => (simp only [List.getElem?_toArray, List.getElem?_cons_succ, List.getElem?_cons_zero]; rfl)
              case hQM57 => exact fun _ _ _ h => h
              case hwM57 => rfl
              case hyM57 => (intro w hSw; (try dsimp only at hSw); go_simp; try with_reducible rfl)
              try simp only [Act.put, List.setIfInBounds_toArray, List.set_cons_zero, List.set_cons_succ]
              refine wpAnyH_ready (rs := [8]) (by kernel_rfl) (by simp) ?_
              refine' (AllReadyH.cons (o := _) ?hoN68 (fun K hK' => ?stN68) AllReadyH.nil)
              case hoN68 => (simp only [List.getElem?_toArray, List.getElem?_cons_succ, List.getElem?_cons_zero]; rfl)
              case stN68 =>
                go_simp
                refine hK'.out _ _ (hX.far (p := ⟨_, 1, none⟩) (by show w.heap.size + 1 + 1 ≠ w.heap.size; omega) _) (fun hHeld' => ?_)
                clear hK' K hHeld
                have hHeld := hHeld'
                clear hHeld'
                try simp only [Act.put]
                try simp only [Act.put, List.setIfInBounds_toArray, List.set_cons_zero, List.set_cons_succ]
                refine wpAnyH_done (by kernel_rfl) ?_ _
                clear hHeld
                go_wp2_with fail
                go_meet
                case rel => exact ⟨p6, c6, rfl, by simpa [World.setCell] using hB, ownsRow_setCell own6 _ _ (own_blk_ne own6 hq (by decide)), hq.set_ 1 _, hr.far (by show w.heap.size + 1 ≠ w.heap.size; omega) _, hK.setCell (p := ⟨w.heap.size, 1, none⟩) (.inr (Nat.le_refl _)) _⟩
        case stN35 =>
          rw [if_pos (by rfl)]
          refine wp_new1 X rfl rfl ?_
          intro V1 bx k1
          have hne : _ := Nat.ne_of_lt (own0.lt _ rfl).2
          have own0 := ownsRow_keeps own0 k1 (by simp)
          have hK := hK.trans k1
          have hq := hq.keeps k1 (by simp)
          have hr := hr.keeps k1 (by simp)
          have hB := Nat.le_trans hB k1.size
          have hX := hX.keeps k1 (by simp)
          have hcell : _ = some (Value.slice b dl.length d) := hq.cell 1
          have hfro := hq.frozen
          have hz := hK.size
          refine hK'.out _ _ (hX) (fun hHeld' => ?_)
          clear hK' K hHeld
          have hHeld := hHeld'
          clear hHeld'
          try simp only [Act.put]
          try simp only [Act.put, List.setIfInBounds_toArray, List.set_cons_zero, List.set_cons_succ]
          refine wpAnyH_ready (rs := [3]) (by kernel_rfl) (by simp) ?_
          refine' (AllReadyH.cons (o := _) ?hoN73 (fun K hK' => ?stN73) AllReadyH.nil)
          case hoN73 => (simp only [List.getElem?_toArray, List.getElem?_cons_succ, List.getElem?_cons_zero]; rfl)
          case stN73 =>
            rw [if_pos (by rfl)]
            refine wp_append_any _ (.tmp 16) (.tmp 18) 45 rfl (w.heap.size + 3) 62 i0 _ 9 64 Try.underlying45 HI.out.1 HI.out.2.1 HI.out.2.2.1 HI.out.2.2.2 rfl (by decide) _ 0 _ rfl own0 _ _ _ _ _ rfl (HR.out.keeps hK (by simp)).reads (flat_all _) (by simp only [maxLen]; omega) (by omega) (by have := hK.size; omega) ?_
            intro v1 V1 own3 g1 at1
            rw [Nat.zero_add, List.nil_append] at own3
            obtain ⟨p3, c3, rfl⟩ := own_form own3
            have bx := bx.grown g1 (fun e => by injection e with e; (try dsimp only at hne); (try dsimp only at e); omega)
            have hK := hK.grown g1 (fun b hb => .inr (by have := (own0.lt b hb).1; omega))
            have hq := hq.grown g1 (fun e => by have := (own0.lt _ e.symm).1; omega)
            have hr := hr.grown g1 (fun e => by have := (own0.lt _ e.symm).1; omega)
            have hB := Nat.le_trans hB g1.size
            have hX := hX.grown g1 (fun e => by have := (own0.lt _ e.symm).1; omega)
            clear own0
            have hcell : _ = some (Value.slice b dl.length d) := hq.cell 1
            have hfro := hq.frozen
            have hz := hK.size
            refine hK'.out _ _ (hX) (fun hHeld' => ?_)
            clear hK' K hHeld
            have hHeld := hHeld'
            clear hHeld'
            try simp only [Act.put]
            try simp only [Act.put, List.setIfInBounds_toArray, List.set_cons_zero, List.set_cons_succ]
            refine wpAnyH_ready (rs := [6]) (by kernel_rfl) (by simp) ?_
            refine' (AllReadyH.cons (o := _) ?hoN86 (fun K hK' => ?stN86) AllReadyH.nil)
            case hoN86 => (simp only [List.getElem?_toArray, List.getElem?_cons_succ, List.getElem?_cons_zero]; rfl)
            case stN86 =>
              rw [if_pos (by rfl)]
              refine wp_append_any _ (.tmp 19) (.tmp 21) 45 rfl (w.heap.size + 3) 62 i0 _ 9 64 Try.underlying45 HI.out.1 HI.out.2.1 HI.out.2.2.1 HI.out.2.2.2 rfl (by decide) _ _ _ rfl own3 _ _ 1 1 (clc X) rfl (reads_blk bx) (clc_all _) (by simp only [maxLen]; omega) (by omega) (by have := hK.size; omega) ?_
              intro v1 V1 own6 g1 at1
              obtain ⟨p6, c6, rfl⟩ := own_form own6
              have hK := hK.grown g1 (fun b hb => .inr (by have := (own3.lt b hb).1; omega))
              have hq := hq.grown g1 (fun e => by have := (own3.lt _ e.symm).1; omega)
              have hr := hr.grown g1 (fun e => by have := (own3.lt _ e.symm).1; omega)
              have hB := Nat.le_trans hB g1.size
              have hX := hX.grown g1 (fun e => by have := (own3.lt _ e.symm).1; omega)
              clear own3 bx
              have hcell : _ = some (Value.slice b dl.length d) := hq.cell 1
              have hfro := hq.frozen
              have hz := hK.size
              refine hK'.out _ _ (hX) (fun hHeld' => ?_)
              clear hK' K hHeld
              have hHeld := hHeld'
              clear hHeld'
              try simp only [Act.put]
              try simp only [Act.put, List.setIfInBounds_toArray, List.set_cons_zero, List.set_cons_succ]
              refine' wpAnyH_take (i := 7) (oi := _) (v := _) ?hM87 (by kernel_rfl) (by kernel_rfl) (by kernel_rfl) ?hQM87 (Or.inl ⟨?hwM87, ?hyM87⟩) hHeld ?restM87
              case hM87 => (simp only [List.getElem?_toArray, List.getElem?_cons_succ, List.getElem?_cons_zero]; rfl)
              case hQM87 => exact fun _ _ _ h => h
              case hwM87 => rfl
              case hyM87 => (intro w hSw; (try dsimp only at hSw); go_simp; try with_reducible rfl)
              try simp only [Act.put, List.setIfInBounds_toArray, List.set_cons_zero, List.set_cons_succ]
              refine wpAnyH_ready (rs := [8]) (by kernel_rfl) (by simp) ?_
              refine' (AllReadyH.cons (o := _) ?hoN98 (fun K hK' => ?stN98) AllReadyH.nil)
              case hoN98 => (simp only [List.getElem?_toArray, List.getElem?_cons_succ, List.getElem?_cons_zero]; rfl)
              case stN98 =>
                go_simp
                refine hK'.out _ _ (hX.far (p := ⟨_, 1, none⟩) (by show w.heap.size + 1 + 1 ≠ w.heap.size; omega) _) (fun hHeld' => ?_)
                clear hK' K hHeld
                have hHeld := hHeld'
                clear hHeld'
                try simp only [Act.put]
                try simp only [Act.put, List.setIfInBounds_toArray, List.set_cons_zero, List.set_cons_succ]
                refine wpAnyH_done (by kernel_rfl) ?_ _
                clear hHeld
                go_wp2_with fail
                go_meet
                case rel => exact ⟨p6, c6, rfl, by simpa [World.setCell] using hB, ownsRow_setCell own6 _ _ (own_blk_ne own6 hq (by decide)), hq.set_ 1 _, hr.far (by show w.heap.size + 1 ≠ w.heap.size; omega) _, hK.setCell (p := ⟨w.heap.size, 1, none⟩) (.inr (Nat.le_refl _)) _⟩
      case stN25 =>
        rw [if_pos (by rfl)]
        refine wp_new1 X rfl rfl ?_
        intro V1 bx k1
        have hne : _ := Nat.ne_of_lt (own0.lt _ rfl).2
        have own0 := ownsRow_keeps own0 k1 (by simp)
        have hK := hK.trans k1
        have hq := hq.keeps k1 (by simp)
        have hr := hr.keeps k1 (by simp)
        have hB := Nat.le_trans hB k1.size
        have hX := hX.keeps k1 (by simp)
        have hcell : _ = some (Value.slice b dl.length d) := hq.cell 1
        have hfro := hq.frozen
        have hz := hK.size
        refine hK'.out _ _ (hX) (fun hHeld' => ?_)
        clear hK' K hHeld
        have hHeld := hHeld'
        clear hHeld'
        try simp only [Act.put]
        try simp only [Act.put, List.setIfInBounds_toArray, List.set_cons_zero, List.set_cons_succ]
        refine wpAnyH_ready (rs := [2]) (by kernel_rfl) (by simp) ?_
        refine' (AllReadyH.cons (o := _) ?hoN102 (fun K hK' => ?stN102) AllReadyH.nil)
        case hoN102 => (simp only [List.getElem?_toArray, List.getElem?_cons_succ, List.getElem?_cons_zero]; rfl)
        case stN102 =>
          go_simp
          refine hK'.out _ _ hHeld (fun hHeld' => ?_)
          clear hK' K hHeld
          have hHeld := hHeld'
          clear hHeld'
          try simp only [Act.put]
          try simp only [Act.put, List.setIfInBounds_toArray, List.set_cons_zero, List.set_cons_succ]
          refine wpAnyH_ready (rs := [3]) (by kernel_rfl) (by simp) ?_
          refine' (AllReadyH.cons (o := _) ?hoN113 (fun K hK' => ?stN113) AllReadyH.nil)
          case hoN113 => (simp only [List.getElem?_toArray, List.getElem?_cons_succ, List.getElem?_cons_zero]; rfl)
          case stN113 =>
            rw [if_pos (by rfl)]
            refine wp_append_any _ (.tmp 16) (.tmp 18) 45 rfl (w.heap.size + 3) 62 i0 _ 9 64 Try.underlying45 HI.out.1 HI.out.2.1 HI.out.2.2.1 HI.out.2.2.2 rfl (by decide) _ 0 _ rfl own0 _ _ _ _ _ rfl (HR.out.keeps hK (by simp)).reads (flat_all _) (by simp only [maxLen]; omega) (by omega) (by have := hK.size; omega) ?_
            intro v1 V1 own3 g1 at1
            rw [Nat.zero_add, List.nil_append] at own3
            obtain ⟨p3, c3, rfl⟩ := own_form own3
            have bx := bx.grown g1 (fun e => by injection e with e; (try dsimp only at hne); (try dsimp only at e); omega)
            have hK := hK.grown g1 (fun b hb => .inr (by have := (own0.lt b hb).1; omega))
            have hq := hq.grown g1 (fun e => by have := (own0.lt _ e.symm).1; omega)
            have hr := hr.grown g1 (fun e => by have := (own0.lt _ e.symm).1; omega)
            have hB := Nat.le_trans hB g1.size
            have hX := hX.grown g1 (fun e => by have := (own0.lt _ e.symm).1; omega)
            clear own0
            have hcell : _ = some (Value.slice b dl.length d) := hq.cell 1
            have hfro := hq.frozen
            have hz := hK.size
            refine hK'.out _ _ (hX) (fun hHeld' => ?_)
            clear hK' K hHeld
            have hHeld := hHeld'
            clear hHeld'
            try simp only [Act.put]
            try simp only [Act.put, List.setIfInBounds_toArray, List.set_cons_zero, List.set_cons_succ]
            refine wpAnyH_ready (rs := [6]) (by kernel_rfl) (by simp) ?_
            refine' (AllReadyH.cons (o := _) ?hoN126 (fun K hK' => ?stN126) AllReadyH.nil)
            case hoN126 => (simp only [List.getElem?_toArray, List.getElem?_cons_succ, List.getElem?_cons_zero]; rfl)
            case stN126 =>
              rw [if_pos (by rfl)]
              refine wp_append_any _ (.tmp 19) (.tmp 21) 45 rfl (w.heap.size + 3) 62 i0 _ 9 64 Try.underlying45 HI.out.1 HI.out.2.1 HI.out.2.2.1 HI.out.2.2.2 rfl (by decide) _ _ _ rfl own3 _ _ 1 1 (clc X) rfl (reads_blk bx) (clc_all _) (by simp only [maxLen]; omega) (by omega) (by have := hK.size; omega) ?_
              intro v1 V1 own6 g1 at1
              obtain ⟨p6, c6, rfl⟩ := own_form own6
              have hK := hK.grown g1 (fun b hb => .inr (by have := (own3.lt b hb).1; omega))
              have hq := hq.grown g1 (fun e => by have := (own3.lt _ e.symm).1; omega)
              have hr := hr.grown g1 (fun e => by have := (own3.lt _ e.symm).1; omega)
              have hB := Nat.le_trans hB g1.size
              have hX := hX.grown g1 (fun e => by have := (own3.lt _ e.symm).1; omega)
              clear own3 bx
              have hcell : _ = some (Value.slice b dl.length d) := hq.cell 1
              have hfro := hq.frozen
              have hz := hK.size
              refine hK'.out _ _ (hX) (fun hHeld' => ?_)
              clear hK' K hHeld
              have hHeld := hHeld'
              clear hHeld'
              try simp only [Act.put]
              try simp only [Act.put, List.setIfInBounds_toArray, List.set_cons_zero, List.set_cons_succ]
              refine' wpAnyH_take (i := 7) (oi := _) (v := _) ?hM127 (by kernel_rfl) (by kernel_rfl) (by kernel_rfl) ?hQM127 (Or.inl ⟨?hwM127, ?hyM127⟩) hHeld ?restM127
              case hM127 => (simp only [List.getElem?_toArray, List.getElem?_cons_succ, List.getElem?_cons_zero]; rfl)
              case hQM127 => exact fun _ _ _ h => h
              case hwM127 => rfl
              case hyM127 => (intro w hSw; (try dsimp only at hSw); go_simp; try with_reducible rfl)
              try simp only [Act.put, List.setIfInBounds_toArray, List.set_cons_zero, List.set_cons_succ]
              refine wpAnyH_ready (rs := [8]) (by kernel_rfl) (by simp) ?_
              refine' (AllReadyH.cons (o := _) ?hoN138 (fun K hK' => ?stN138) AllReadyH.nil)
              case hoN138 => (simp only [List.getElem?_toArray, List.getElem?_cons_succ, List.getElem?_cons_zero]; rfl)
              case stN138 =>
                go_simp
                refine hK'.out _ _ (hX.far (p := ⟨_, 1, none⟩) (by show w.heap.size + 1 + 1 ≠ w.heap.size; omega) _) (fun hHeld' => ?_)
                clear hK' K hHeld
                have hHeld := hHeld'
                clear hHeld'
                try simp only [Act.put]
                try simp only [Act.put, List.setIfInBounds_toArray, List.set_cons_zero, List.set_cons_succ]
                refine wpAnyH_done (by kernel_rfl) ?_ _
                clear hHeld
                go_wp2_with fail
                go_meet
                case rel => exact ⟨p6, c6, rfl, by simpa [World.setCell] using hB, ownsRow_setCell own6 _ _ (own_blk_ne own6 hq (by decide)), hq.set_ 1 _, hr.far (by show w.heap.size + 1 ≠ w.heap.size; omega) _, hK.setCell (p := ⟨w.heap.size, 1, none⟩) (.inr (Nat.le_refl _)) _⟩
    case stN12 =>
      go_simp
      refine hK'.out _ _ hHeld (fun hHeld' => ?_)
      clear hK' K hHeld
      have hHeld := hHeld'
      clear hHeld'
      try simp only [Act.put]
      try simp only [Act.put, List.setIfInBounds_toArray, List.set_cons_zero, List.set_cons_succ]
      refine wpAnyH_ready (rs := [0, 5]) (by kernel_rfl) (by simp) ?_
      refine' (AllReadyH.cons (o := _) ?hoN140 (fun K hK' => ?stN140) (AllReadyH.cons (o := _) ?hoN145 (fun K hK' => ?stN145) AllReadyH.nil))
      case hoN140 => (simp only [List.getElem?_toArray, List.getElem?_cons_zero]; rfl)
      case hoN145 => (simp only [List.getElem?_toArray, List.getElem?_cons_succ, List.getElem?_cons_zero]; rfl)
      case stN140 =>
        rw [if_pos (by rfl)]
        refine wp_new0 rfl (B := w.heap.size + 3) (by omega) ?_
        intro V1 own0 k1
        skip
        have hK := hK.trans k1
        have hq := hq.keeps k1 (by simp)
        have hr := hr.keeps k1 (by simp)
        have hB := Nat.le_trans hB k1.size
        have hX := hX.keeps k1 (by simp)
        have hcell : _ = some (Value.slice b dl.length d) := hq.cell 1
        have hfro := hq.frozen
        have hz := hK.size
        refine hK'.out _ _ (hX) (fun hHeld' => ?_)
        clear hK' K hHeld
        have hHeld := hHeld'
        clear hHeld'
        try simp only [Act.put]
        try simp only [Act.put, List.setIfInBounds_toArray, List.set_cons_zero, List.set_cons_succ]
        refine wpAnyH_ready (rs := [3, 5]) (by kernel_rfl) (by simp) ?_
        refine' (AllReadyH.cons (o := _) ?hoN153 (fun K hK' => ?stN153) (AllReadyH.cons (o := _) ?hoN155 (fun K hK' => ?stN155) AllReadyH.nil))
        case hoN153 => (simp only [List.getElem?_toArray, List.getElem?_cons_succ, List.getElem?_cons_zero]; rfl)
        case hoN155 => (simp only [List.getElem?_toArray, List.getElem?_cons_succ, List.getElem?_cons_zero]; rfl)
        case stN153 =>
          rw [if_pos (by rfl)]
          refine wp_append_any _ (.tmp 16) (.tmp 18) 45 rfl (w.heap.size + 3) 62 i0 _ 9 64 Try.underlying45 HI.out.1 HI.out.2.1 HI.out.2.2.1 HI.out.2.2.2 rfl (by decide) _ 0 _ rfl own0 _ _ _ _ _ rfl (HR.out.keeps hK (by simp)).reads (flat_all _) (by simp only [maxLen]; omega) (by omega) (by have := hK.size; omega) ?_
          intro v1 V1 own3 g1 at1
          rw [Nat.zero_add, List.nil_append] at own3
          obtain ⟨p3, c3, rfl⟩ := own_form own3
          have hK := hK.grown g1 (fun b hb => .inr (by have := (own0.lt b hb).1; omega))
          have hq := hq.grown g1 (fun e => by have := (own0.lt _ e.symm).1; omega)
          have hr := hr.grown g1 (fun e => by have := (own0.lt _ e.symm).1; omega)
          have hB := Nat.le_trans hB g1.size
          have hX := hX.grown g1 (fun e => by have := (own0.lt _ e.symm).1; omega)
          clear own0
          have hcell : _ = some (Value.slice b dl.length d) := hq.cell 1
          have hfro := hq.frozen
          have hz := hK.size
          refine hK'.out _ _ (hX) (fun hHeld' => ?_)
          clear hK' K hHeld
          have hHeld := hHeld'
          clear hHeld'
          try simp only [Act.put]
          try simp only [Act.put, List.setIfInBounds_toArray, List.set_cons_zero, List.set_cons_succ]
          refine wpAnyH_ready (rs := [5]) (by kernel_rfl) (by simp) ?_
          refine' (AllReadyH.cons (o := _) ?hoN165 (fun K hK' => ?stN165) AllReadyH.nil)
          case hoN165 => (simp only [List.getElem?_toArray, List.getElem?_cons_succ, List.getElem?_cons_zero]; rfl)
          case stN165 =>
            rw [if_pos (by rfl)]
            refine wp_new1 X rfl rfl ?_
            intro V1 bx k1
            skip
            have own3 := ownsRow_keeps own3 k1 (by simp)
            have hK := hK.trans k1
            have hq := hq.keeps k1 (by simp)
            have hr := hr.keeps k1 (by simp)
            have hB := Nat.le_trans hB k1.size
            have hX := hX.keeps k1 (by simp)
            have hcell : _ = some (Value.slice b dl.length d) := hq.cell 1
            have hfro := hq.frozen
            have hz := hK.size
            refine hK'.out _ _ (hX) (fun hHeld' => ?_)
            clear hK' K hHeld
            have hHeld := hHeld'
            clear hHeld'
            try simp only [Act.put]
            try simp only [Act.put, List.setIfInBounds_toArray, List.set_cons_zero, List.set_cons_succ]
            refine wpAnyH_ready (rs := [6]) (by kernel_rfl) (by simp) ?_
            refine' (AllReadyH.cons (o := _) ?hoN176 (fun K hK' => ?stN176) AllReadyH.nil)
            case hoN176 => (simp only [List.getElem?_toArray, List.getElem?_cons_succ, List.getElem?_cons_zero]; rfl)
            case stN176 =>
              rw [if_pos (by rfl)]
              refine wp_append_any _ (.tmp 19) (.tmp 21) 45 rfl (w.heap.size + 3) 62 i0 _ 9 64 Try.underlying45 HI.out.1 HI.out.2.1 HI.out.2.2.1 HI.out.2.2.2 rfl (by decide) _ _ _ rfl own3 _ _ 1 1 (clc X) rfl (reads_blk bx) (clc_all _) (by simp only [maxLen]; omega) (by omega) (by have := hK.size; omega) ?_
              intro v1 V1 own6 g1 at1
              obtain ⟨p6, c6, rfl⟩ := own_form own6
              have hK := hK.grown g1 (fun b hb => .inr (by have := (own3.lt b hb).1; omega))
              have hq := hq.grown g1 (fun e => by have := (own3.lt _ e.symm).1; omega)
              have hr := hr.grown g1 (fun e => by have := (own3.lt _ e.symm).1; omega)
              have hB := Nat.le_trans hB g1.size
              have hX := hX.grown g1 (fun e => by have := (own3.lt _ e.symm).1; omega)
              clear own3 bx
              have hcell : _ = some (Value.slice b dl.length d) := hq.cell 1
              have hfro := hq.frozen
              have hz := hK.size
              refine hK'.out _ _ (hX) (fun hHeld' => ?_)
              clear hK' K hHeld
              have hHeld := hHeld'
              clear hHeld'
              try simp only [Act.put]
              try simp only [Act.put, List.setIfInBounds_toArray, List.set_cons_zero, List.set_cons_succ]
              refine' wpAnyH_take (i := 7) (oi := _) (v := _) ?hM177 (by kernel_rfl) (by kernel_rfl) (by kernel_rfl) ?hQM177 (Or.inl ⟨?hwM177, ?hyM177⟩) hHeld ?restM177
              case hM177 => (simp only [List.getElem?_toArray, List.getElem?_cons_succ, List.getElem?_cons_zero]; rfl)
              case hQM177 => exact fun _ _ _ h => h
              case hwM177 => rfl
              case hyM177 => (intro w hSw; (try dsimp only at hSw); go_simp; try with_reducible rfl)
              try simp only [Act.put, List.setIfInBounds_toArray, List.set_cons_zero, List.set_cons_succ]
              refine wpAnyH_ready (rs := [8]) (by kernel_rfl) (by simp) ?_
              refine' (AllReadyH.cons (o := _) ?hoN188 (fun K hK' => ?stN188) AllReadyH.nil)
              case hoN188 => (simp only [List.getElem?_toArray, List.getElem?_cons_succ, List.getElem?_cons_zero]; rfl)
              case stN188 =>
                go_simp
                refine hK'.out _ _ (hX.far (p := ⟨_, 1, none⟩) (by show w.heap.size + 1 + 1 ≠ w.heap.size; omega) _) (fun hHeld' => ?_)
                clear hK' K hHeld
                have hHeld := hHeld'
                clear hHeld'
                try simp only [Act.put]
                try simp only [Act.put, List.setIfInBounds_toArray, List.set_cons_zero, List.set_cons_succ]
                refine wpAnyH_done (by kernel_rfl) ?_ _
                clear hHeld
                go_wp2_with fail
                go_meet
                case rel => exact ⟨p6, c6, rfl, by simpa [World.setCell] using hB, ownsRow_setCell own6 _ _ (own_blk_ne own6 hq (by decide)), hq.set_ 1 _, hr.far (by show w.heap.size + 1 ≠ w.heap.size; omega) _, hK.setCell (p := ⟨w.heap.size, 1, none⟩) (.inr (Nat.le_refl _)) _⟩
        case stN155 =>
          rw [if_pos (by rfl)]
          refine wp_new1 X rfl rfl ?_
          intro V1 bx k1
          have hne : _ := Nat.ne_of_lt (own0.lt _ rfl).2
          have own0 := ownsRow_keeps own0 k1 (by simp)
          have hK := hK.trans k1
          have hq := hq.keeps k1 (by simp)
          have hr := hr.keeps k1 (by simp)
          have hB := Nat.le_trans hB k1.size
          have hX := hX.keeps k1 (by simp)
          have hcell : _ = some (Value.slice b dl.length d) := hq.cell 1
          have hfro := hq.frozen
          have hz := hK.size
          refine hK'.out _ _ (hX) (fun hHeld' => ?_)
          clear hK' K hHeld
          have hHeld := hHeld'
          clear hHeld'
          try simp only [Act.put]
          try simp only [Act.put, List.setIfInBounds_toArray, List.set_cons_zero, List.set_cons_succ]
          refine wpAnyH_ready (rs := [3]) (by kernel_rfl) (by simp) ?_
          refine' (AllReadyH.cons (o := _) ?hoN193 (fun K hK' => ?stN193) AllReadyH.nil)
          case hoN193 => (simp only [List.getElem?_toArray, List.getElem?_cons_succ, List.getElem?_cons_zero]; rfl)
          case stN193 =>
            rw [if_pos (by rfl)]
            refine wp_append_any _ (.tmp 16) (.tmp 18) 45 rfl (w.heap.size + 3) 62 i0 _ 9 64 Try.underlying45 HI.out.1 HI.out.2.1 HI.out.2.2.1 HI.out.2.2.2 rfl (by decide) _ 0 _ rfl own0 _ _ _ _ _ rfl (HR.out.keeps hK (by simp)).reads (flat_all _) (by simp only [maxLen]; omega) (by omega) (by have := hK.size; omega) ?_
            intro v1 V1 own3 g1 at1
            rw [Nat.zero_add, List.nil_append] at own3
            obtain ⟨p3, c3, rfl⟩ := own_form own3
            have bx := bx.grown g1 (fun e => by injection e with e; (try dsimp only at hne); (try dsimp only at e); omega)
            have hK := hK.grown g1 (fun b hb => .inr (by have := (own0.lt b hb).1; omega))
            have hq := hq.grown g1 (fun e => by have := (own0.lt _ e.symm).1; omega)
            have hr := hr.grown g1 (fun e => by have := (own0.lt _ e.symm).1; omega)
            have hB := Nat.le_trans hB g1.size
            have hX := hX.grown g1 (fun e => by have := (own0.lt _ e.symm).1; omega)
            clear own0
            have hcell : _ = some (Value.slice b dl.length d) := hq.cell 1
            have hfro := hq.frozen
            have hz := hK.size
            refine hK'.out _ _ (hX) (fun hHeld' => ?_)
            clear hK' K hHeld
            have hHeld := hHeld'
            clear hHeld'
            try simp only [Act.put]
            try simp only [Act.put, List.setIfInBounds_toArray, List.set_cons_zero, List.set_cons_succ]
            refine wpAnyH_ready (rs := [6]) (by kernel_rfl) (by simp) ?_
            refine' (AllReadyH.cons (o := _) ?hoN206 (fun K hK' => ?stN206) AllReadyH.nil)
            case hoN206 => (simp only [List.getElem?_toArray, List.getElem?_cons_succ, List.getElem?_cons_zero]; rfl)
            case stN206 =>
              rw [if_pos (by rfl)]
              refine wp_append_any _ (.tmp 19) (.tmp 21) 45 rfl (w.heap.size + 3) 62 i0 _ 9 64 Try.underlying45 HI.out.1 HI.out.2.1 HI.out.2.2.1 HI.out.2.2.2 rfl (by decide) _ _ _ rfl own3 _ _ 1 1 (clc X) rfl (reads_blk bx) (clc_all _) (by simp only [maxLen]; omega) (by omega) (by have := hK.size; omega) ?_
              intro v1 V1 own6 g1 at1
              obtain ⟨p6, c6, rfl⟩ := own_form own6
              have hK := hK.grown g1 (fun b hb => .inr (by have := (own3.lt b hb).1; omega))
              have hq := hq.grown g1 (fun e => by have := (own3.lt _ e.symm).1; omega)
              have hr := hr.grown g1 (fun e => by have := (own3.lt _ e.symm).1; omega)
              have hB := Nat.le_trans hB g1.size
              have hX := hX.grown g1 (fun e => by have := (own3.lt _ e.symm).1; omega)
              clear own3 bx
              have hcell : _ = some (Value.slice b dl.length d) := hq.cell 1
              have hfro := hq.frozen
              have hz := hK.size
              refine hK'.out _ _ (hX) (fun hHeld' => ?_)
              clear hK' K hHeld
              have hHeld := hHeld'
              clear hHeld'
              try simp only [Act.put]
              try simp only [Act.put, List.setIfInBounds_toArray, List.set_cons_zero, List.set_cons_succ]
              refine' wpAnyH_take (i := 7) (oi := _) (v := _) ?hM207 (by kernel_rfl) (by kernel_rfl) (by kernel_rfl) ?hQM207 (Or.inl ⟨?hwM207, ?hyM207⟩) hHeld ?restM207
              case hM207 => (simp only [List.getElem?_toArray, List.getElem?_cons_succ, List.getElem?_cons_zero]; rfl)
              case hQM207 => exact fun _ _ _ h => h
              case hwM207 => rfl
              case hyM207 => (intro w hSw; (try dsimp only at hSw); go_simp; try with_reducible rfl)
              try simp only [Act.put, List.setIfInBounds_toArray, List.set_cons_zero, List.set_cons_succ]
              refine wpAnyH_ready (rs := [8]) (by kernel_rfl) (by simp) ?_
              refine' (AllReadyH.cons (o := _) ?hoN218 (fun K hK' => ?stN218) AllReadyH.nil)
              case hoN218 => (simp only [List.getElem?_toArray, List.getElem?_cons_succ, List.getElem?_cons_zero]; rfl)
              case stN218 =>
                go_simp
                refine hK'.out _ _ (hX.far (p := ⟨_, 1, none⟩) (by show w.heap.size + 1 + 1 ≠ w.heap.size; omega) _) (fun hHeld' => ?_)
                clear hK' K hHeld
                have hHeld := hHeld'
                clear hHeld'
                try simp only [Act.put]
                try simp only [Act.put, List.setIfInBounds_toArray, List.set_cons_zero, List.set_cons_succ]
                refine wpAnyH_done (by kernel_rfl) ?_ _
                clear hHeld
                go_wp2_with fail
                go_meet
                case rel => exact ⟨p6, c6, rfl, by simpa [World.setCell] using hB, ownsRow_setCell own6 _ _ (own_blk_ne own6 hq (by decide)), hq.set_ 1 _, hr.far (by show w.heap.size + 1 ≠ w.heap.size; omega) _, hK.setCell (p := ⟨w.heap.size, 1, none⟩) (.inr (Nat.le_refl _)) _⟩
      case stN145 =>
        rw [if_pos (by rfl)]
        refine wp_new1 X rfl rfl ?_
        intro V1 bx k1
        skip
        have hK := hK.trans k1
        have hq := hq.keeps k1 (by simp)
        have hr := hr.keeps k1 (by simp)
        have hB := Nat.le_trans hB k1.size
        have hX := hX.keeps k1 (by simp)
        have hcell : _ = some (Value.slice b dl.length d) := hq.cell 1
        have hfro := hq.frozen
        have hz := hK.size
        refine hK'.out _ _ (hX) (fun hHeld' => ?_)
        clear hK' K hHeld
        have hHeld := hHeld'
        clear hHeld'
        try simp only [Act.put]
        try simp only [Act.put, List.setIfInBounds_toArray, List.set_cons_zero, List.set_cons_succ]
        refine wpAnyH_ready (rs := [0]) (by kernel_rfl) (by simp) ?_
        refine' (AllReadyH.cons (o := _) ?hoN220 (fun K hK' => ?stN220) AllReadyH.nil)
        case hoN220 => (simp only [List.getElem?_toArray, List.getElem?_cons_zero]; rfl)
        case stN220 =>
          rw [if_pos (by rfl)]
          refine wp_new0 rfl (B := w.heap.size + 3) (by omega) ?_
          intro V1 own0 k1
          have hne : _ := Nat.ne_of_gt bx.lt
          have bx := bx.keeps k1 (by simp)
          have hK := hK.trans k1
          have hq := hq.keeps k1 (by simp)
          have hr := hr.keeps k1 (by simp)
          have hB := Nat.le_trans hB k1.size
          have hX := hX.keeps k1 (by simp)
          have hcell : _ = some (Value.slice b dl.length d) := hq.cell 1
          have hfro := hq.frozen
          have hz := hK.size
          refine hK'.out _ _ (hX) (fun hHeld' => ?_)
          clear hK' K hHeld
          have hHeld := hHeld'
          clear hHeld'
          try simp only [Act.put]
          try simp only [Act.put, List.setIfInBounds_toArray, List.set_cons_zero, List.set_cons_succ]
          refine wpAnyH_ready (rs := [3]) (by kernel_rfl) (by simp) ?_
          refine' (AllReadyH.cons (o := _) ?hoN233 (fun K hK' => ?stN233) AllReadyH.nil)
          case hoN233 => (simp only [List.getElem?_toArray, List.getElem?_cons_succ, List.getElem?_cons_zero]; rfl)
          case stN233 =>
            rw [if_pos (by rfl)]
            refine wp_append_any _ (.tmp 16) (.tmp 18) 45 rfl (w.heap.size + 3) 62 i0 _ 9 64 Try.underlying45 HI.out.1 HI.out.2.1 HI.out.2.2.1 HI.out.2.2.2 rfl (by decide) _ 0 _ rfl own0 _ _ _ _ _ rfl (HR.out.keeps hK (by simp)).reads (flat_all _) (by simp only [maxLen]; omega) (by omega) (by have := hK.size; omega) ?_
            intro v1 V1 own3 g1 at1
            rw [Nat.zero_add, List.nil_append] at own3
            obtain ⟨p3, c3, rfl⟩ := own_form own3
            have bx := bx.grown g1 (fun e => by injection e with e; (try dsimp only at hne); (try dsimp only at e); omega)
            have hK := hK.grown g1 (fun b hb => .inr (by have := (own0.lt b hb).1; omega))
            have hq := hq.grown g1 (fun e => by have := (own0.lt _ e.symm).1; omega)
            have hr := hr.grown g1 (fun e => by have := (own0.lt _ e.symm).1; omega)
            have hB := Nat.le_trans hB g1.size
            have hX := hX.grown g1 (fun e => by have := (own0.lt _ e.symm).1; omega)
            clear own0
            have hcell : _ = some (Value.slice b dl.length d) := hq.cell 1
            have hfro := hq.frozen
            have hz := hK.size
            refine hK'.out _ _ (hX) (fun hHeld' => ?_)
            clear hK' K hHeld
            have hHeld := hHeld'
            clear hHeld'
            try simp only [Act.put]
            try simp only [Act.put, List.setIfInBounds_toArray, List.set_cons_zero, List.set_cons_succ]
            refine wpAnyH_ready (rs := [6]) (by kernel_rfl) (by simp) ?_
            refine' (AllReadyH.cons (o := _) ?hoN246 (fun K hK' => ?stN246) AllReadyH.nil)
            case hoN246 => (simp only [List.getElem?_toArray, List.getElem?_cons_succ, List.getElem?_cons_zero]; rfl)
            case stN246 =>
              rw [if_pos (by rfl)]
              refine wp_append_any _ (.tmp 19) (.tmp 21) 45 rfl (w.heap.size + 3) 62 i0 _ 9 64 Try.underlying45 HI.out.1 HI.out.2.1 HI.out.2.2.1 HI.out.2.2.2 rfl (by decide) _ _ _ rfl own3 _ _ 1 1 (clc X) rfl (reads_blk bx) (clc_all _) (by simp only [maxLen]; omega) (by omega) (by have := hK.size; omega) ?_
              intro v1 V1 own6 g1 at1
              obtain ⟨p6, c6, rfl⟩ := own_form own6
              have hK := hK.grown g1 (fun b hb => .inr (by have := (own3.lt b hb).1; omega))
              have hq := hq.grown g1 (fun e => by have := (own3.lt _ e.symm).1; omega)
              have hr := hr.grown g1 (fun e => by have := (own3.lt _ e.symm).1; omega)
              have hB := Nat.le_trans hB g1.size
              have hX := hX.grown g1 (fun e => by have := (own3.lt _ e.symm).1; omega)
              clear own3 bx
              have hcell : _ = some (Value.slice b dl.length d) := hq.cell 1
              have hfro := hq.frozen
              have hz := hK.size
              refine hK'.out _ _ (hX) (fun hHeld' => ?_)
              clear hK' K hHeld
              have hHeld := hHeld'
              clear hHeld'
              try simp only [Act.put]
              try simp only [Act.put, List.setIfInBounds_toArray, List.set_cons_zero, List.set_cons_succ]
              refine' wpAnyH_take (i := 7) (oi := _) (v := _) ?hM247 (by kernel_rfl) (by kernel_rfl) (by kernel_rfl) ?hQM247 (Or.inl ⟨?hwM247, ?hyM247⟩) hHeld ?restM247
              case hM247 => (simp only [List.getElem?_toArray, List.getElem?_cons_succ, List.getElem?_cons_zero]; rfl)
              case hQM247 => exact fun _ _ _ h => h
              case hwM247 => rfl
              case hyM247 => (intro w hSw; (try dsimp only at hSw); go_simp; try with_reducible rfl)
              try simp only [Act.put, List.setIfInBounds_toArray, List.set_cons_zero, List.set_cons_succ]
              refine wpAnyH_ready (rs := [8]) (by kernel_rfl) (by simp) ?_
              refine' (AllReadyH.cons (o := _) ?hoN258 (fun K hK' => ?stN258) AllReadyH.nil)
              case hoN258 => (simp only [List.getElem?_toArray, List.getElem?_cons_succ, List.getElem?_cons_zero]; rfl)
              case stN258 =>
                go_simp
                refine hK'.out _ _ (hX.far (p := ⟨_, 1, none⟩) (by show w.heap.size + 1 + 1 ≠ w.heap.size; omega) _) (fun hHeld' => ?_)
                clear hK' K hHeld
                have hHeld := hHeld'
                clear hHeld'
                try simp only [Act.put]
                try simp only [Act.put, List.setIfInBounds_toArray, List.set_cons_zero, List.set_cons_succ]
                refine wpAnyH_done (by kernel_rfl) ?_ _
                clear hHeld
                go_wp2_with fail
                go_meet
                case rel => exact ⟨p6, c6, rfl, by simpa [World.setCell] using hB, ownsRow_setCell own6 _ _ (own_blk_ne own6 hq (by decide)), hq.set_ 1 _, hr.far (by show w.heap.size + 1 ≠ w.heap.size; omega) _, hK.setCell (p := ⟨w.heap.size, 1, none⟩) (.inr (Nat.le_refl _)) _⟩
    case stN15 =>
      rw [if_pos (by rfl)]
      refine wp_new1 X rfl rfl ?_
      intro V1 bx k1
      skip
      have hK := hK.trans k1
      have hq := hq.keeps k1 (by simp)
      have hr := hr.keeps k1 (by simp)
      have hB := Nat.le_trans hB k1.size
      have hX := hX.keeps k1 (by simp)
      have hcell : _ = some (Value.slice b dl.length d) := hq.cell 1
      have hfro := hq.frozen
      have hz := hK.size
      refine hK'.out _ _ (hX) (fun hHeld' => ?_)
      clear hK' K hHeld
      have hHeld := hHeld'
      clear hHeld'
      try simp only [Act.put]
      try simp only [Act.put, List.setIfInBounds_toArray, List.set_cons_zero, List.set_cons_succ]
      refine wpAnyH_ready (rs := [0, 2]) (by kernel_rfl) (by simp) ?_
      refine' (AllReadyH.cons (o := _) ?hoN260 (fun K hK' => ?stN260) (AllReadyH.cons (o := _) ?hoN262 (fun K hK' => ?stN262) AllReadyH.nil))
      case hoN260 => (simp only [List.getElem?_toArray, List.getElem?_cons_zero]; rfl)
      case hoN262 => (simp only [List.getElem?_toArray, List.getElem?_cons_succ, List.getElem?_cons_zero]; rfl)
      case stN260 =>
        rw [if_pos (by rfl)]
        refine wp_new0 rfl (B := w.heap.size + 3) (by omega) ?_
        intro V1 own0 k1
        have hne : _ := Nat.ne_of_gt bx.lt
        have bx := bx.keeps k1 (by simp)
        have hK := hK.trans k1
        have hq := hq.keeps k1 (by simp)
        have hr := hr.keeps k1 (by simp)
        have hB := Nat.le_trans hB k1.size
        have hX := hX.keeps k1 (by simp)
        have hcell : _ = some (Value.slice b dl.length d) := hq.cell 1
        have hfro := hq.frozen
        have hz := hK.size
        refine hK'.out _ _ (hX) (fun hHeld' => ?_)
        clear hK' K hHeld
        have hHeld := hHeld'
        clear hHeld'
        try simp only [Act.put]
        try simp only [Act.put, List.setIfInBounds_toArray, List.set_cons_zero, List.set_cons_succ]
        refine wpAnyH_ready (rs := [2]) (by kernel_rfl) (by simp) ?_
        refine' (AllReadyH.cons (o := _) ?hoN272 (fun K hK' => ?stN272) AllReadyH.nil)
        case hoN272 => (simp only [List.getElem?_toArray, List.getElem?_cons_succ, List.getElem?_cons_zero]; rfl)
        case stN272 =>
          go_simp
          refine hK'.out _ _ hHeld (fun hHeld' => ?_)
          clear hK' K hHeld
          have hHeld := hHeld'
          clear hHeld'
          try simp only [Act.put]
          try simp only [Act.put, List.setIfInBounds_toArray, List.set_cons_zero, List.set_cons_succ]
          refine wpAnyH_ready (rs := [3]) (by kernel_rfl) (by simp) ?_
          refine' (AllReadyH.cons (o := _) ?hoN283 (fun K hK' => ?stN283) AllReadyH.nil)
          case hoN283 => (simp only [List.getElem?_toArray, List.getElem?_cons_succ, List.getElem?_cons_zero]; rfl)
          case stN283 =>
            rw [if_pos (by rfl)]
            refine wp_append_any _ (.tmp 16) (.tmp 18) 45 rfl (w.heap.size + 3) 62 i0 _ 9 64 Try.underlying45 HI.out.1 HI.out.2.1 HI.out.2.2.1 HI.out.2.2.2 rfl (by decide) _ 0 _ rfl own0 _ _ _ _ _ rfl (HR.out.keeps hK (by simp)).reads (flat_all _) (by simp only [maxLen]; omega) (by omega) (by have := hK.size; omega) ?_
            intro v1 V1 own3 g1 at1
            rw [Nat.zero_add, List.nil_append] at own3
            obtain ⟨p3, c3, rfl⟩ := own_form own3
            have bx := bx.grown g1 (fun e => by injection e with e; (try dsimp only at hne); (try dsimp only at e); omega)
            have hK := hK.grown g1 (fun b hb => .inr (by have := (own0.lt b hb).1; omega))
            have hq := hq.grown g1 (fun e => by have := (own0.lt _ e.symm).1; omega)
            have hr := hr.grown g1 (fun e => by have := (own0.lt _ e.symm).1; omega)
            have hB := Nat.le_trans hB g1.size
            have hX := hX.grown g1 (fun e => by have := (own0.lt _ e.symm).1; omega)
            clear own0
            have hcell : _ = some (Value.slice b dl.length d) := hq.cell 1
            have hfro := hq.frozen
            have hz := hK.size
            refine hK'.out _ _ (hX) (fun hHeld' => ?_)
            clear hK' K hHeld
            have hHeld := hHeld'
            clear hHeld'
            try simp only [Act.put]
            try simp only [Act.put, List.setIfInBounds_toArray, List.set_cons_zero, List.set_cons_succ]
            refine wpAnyH_ready (rs := [6]) (by kernel_rfl) (by simp) ?_
            refine' (AllReadyH.cons (o := _) ?hoN296 (fun K hK' => ?stN296) AllReadyH.nil)
            case hoN296 => (simp only [List.getElem?_toArray, List.getElem?_cons_succ, List.getElem?_cons_zero]; rfl)
            case stN296 =>
              rw [if_pos (by rfl)]
              refine wp_append_any _ (.tmp 19) (.tmp 21) 45 rfl (w.heap.size + 3) 62 i0 _ 9 64 Try.underlying45 HI.out.1 HI.out.2.1 HI.out.2.2.1 HI.out.2.2.2 rfl (by decide) _ _ _ rfl own3 _ _ 1 1 (clc X) rfl (reads_blk bx) (clc_all _) (by simp only [maxLen]; omega) (by omega) (by have := hK.size; omega) ?_
              intro v1 V1 own6 g1 at1
              obtain ⟨p6, c6, rfl⟩ := own_form own6
              have hK := hK.grown g1 (fun b hb => .inr (by have := (own3.lt b hb).1; omega))
              have hq := hq.grown g1 (fun e => by have := (own3.lt _ e.symm).1; omega)
              have hr := hr.grown g1 (fun e => by have := (own3.lt _ e.symm).1; omega)
              have hB := Nat.le_trans hB g1.size
              have hX := hX.grown g1 (fun e => by have := (own3.lt _ e.symm).1; omega)
              clear own3 bx
              have hcell : _ = some (Value.slice b dl.length d) := hq.cell 1
              have hfro := hq.frozen
              have hz := hK.size
              refine hK'.out _ _ (hX) (fun hHeld' => ?_)
              clear hK' K hHeld
              have hHeld := hHeld'
              clear hHeld'
              try simp only [Act.put]
              try simp only [Act.put, List.setIfInBounds_toArray, List.set_cons_zero, List.set_cons_succ]
              refine' wpAnyH_take (i := 7) (oi := _) (v := _) ?hM297 (by kernel_rfl) (by kernel_rfl) (by kernel_rfl) ?hQM297 (Or.inl ⟨?hwM297, ?hyM297⟩) hHeld ?restM297
              case hM297 => (simp only [List.getElem?_toArray, List.getElem?_cons_succ, List.getElem?_cons_zero]; rfl)
              case hQM297 => exact fun _ _ _ h => h
              case hwM297 => rfl
              case hyM297 => (intro w hSw; (try dsimp only at hSw); go_simp; try with_reducible rfl)
              try simp only [Act.put, List.setIfInBounds_toArray, List.set_cons_zero, List.set_cons_succ]
              refine wpAnyH_ready (rs := [8]) (by kernel_rfl) (by simp) ?_
              refine' (AllReadyH.cons (o := _) ?hoN308 (fun K hK' => ?stN308) AllReadyH.nil)
              case hoN308 => (simp only [List.getElem?_toArray, List.getElem?_cons_succ, List.getElem?_cons_zero]; rfl)
              case stN308 =>
                go_simp
                refine hK'.out _ _ (hX.far (p := ⟨_, 1, none⟩) (by show w.heap.size + 1 + 1 ≠ w.heap.size; omega) _) (fun hHeld' => ?_)
                clear hK' K hHeld
                have hHeld := hHeld'
                clear hHeld'
                try simp only [Act.put]
                try simp only [Act.put, List.setIfInBounds_toArray, List.set_cons_zero, List.set_cons_succ]
                refine wpAnyH_done (by kernel_rfl) ?_ _
                clear hHeld
                go_wp2_with fail
                go_meet
                case rel => exact ⟨p6, c6, rfl, by simpa [World.setCell] using hB, ownsRow_setCell own6 _ _ (own_blk_ne own6 hq (by decide)), hq.set_ 1 _, hr.far (by show w.heap.size + 1 ≠ w.heap.size; omega) _, hK.setCell (p := ⟨w.heap.size, 1, none⟩) (.inr (Nat.le_refl _)) _⟩
      case stN262 =>
        go_simp
        refine hK'.out _ _ hHeld (fun hHeld' => ?_)
        clear hK' K hHeld
        have hHeld := hHeld'
        clear hHeld'
        try simp only [Act.put]
        try simp only [Act.put, List.setIfInBounds_toArray, List.set_cons_zero, List.set_cons_succ]
        refine wpAnyH_ready (rs := [0]) (by kernel_rfl) (by simp) ?_
        refine' (AllReadyH.cons (o := _) ?hoN310 (fun K hK' => ?stN310) AllReadyH.nil)
        case hoN310 => (simp only [List.getElem?_toArray, List.getElem?_cons_zero]; rfl)
        case stN310 =>
          rw [if_pos (by rfl)]
          refine wp_new0 rfl (B := w.heap.size + 3) (by omega) ?_
          intro V1 own0 k1
          have hne : _ := Nat.ne_of_gt bx.lt
          have bx := bx.keeps k1 (by simp)
          have hK := hK.trans k1
          have hq := hq.keeps k1 (by simp)
          have hr := hr.keeps k1 (by simp)
          have hB := Nat.le_trans hB k1.size
          have hX := hX.keeps k1 (by simp)
          have hcell : _ = some (Value.slice b dl.length d) := hq.cell 1
          have hfro := hq.frozen
          have hz := hK.size
          refine hK'.out _ _ (hX) (fun hHeld' => ?_)
          clear hK' K hHeld
          have hHeld := hHeld'
          clear hHeld'
          try simp only [Act.put]
          try simp only [Act.put, List.setIfInBounds_toArray, List.set_cons_zero, List.set_cons_succ]
          refine wpAnyH_ready (rs := [3]) (by kernel_rfl) (by simp) ?_
          refine' (AllReadyH.cons (o := _) ?hoN323 (fun K hK' => ?stN323) AllReadyH.nil)
          case hoN323 => (simp only [List.getElem?_toArray, List.getElem?_cons_succ, List.getElem?_cons_zero]; rfl)
          case stN323 =>
            rw [if_pos (by rfl)]
            refine wp_append_any _ (.tmp 16) (.tmp 18) 45 rfl (w.heap.size + 3) 62 i0 _ 9 64 Try.underlying45 HI.out.1 HI.out.2.1 HI.out.2.2.1 HI.out.2.2.2 rfl (by decide) _ 0 _ rfl own0 _ _ _ _ _ rfl (HR.out.keeps hK (by simp)).reads (flat_all _) (by simp only [maxLen]; omega) (by omega) (by have := hK.size; omega) ?_
            intro v1 V1 own3 g1 at1
            rw [Nat.zero_add, List.nil_append] at own3
            obtain ⟨p3, c3, rfl⟩ := own_form own3
            have bx := bx.grown g1 (fun e => by injection e with e; (try dsimp only at hne); (try dsimp only at e); omega)
            have hK := hK.grown g1 (fun b hb => .inr (by have := (own0.lt b hb).1; omega))
            have hq := hq.grown g1 (fun e => by have := (own0.lt _ e.symm).1; omega)
            have hr := hr.grown g1 (fun e => by have := (own0.lt _ e.symm).1; omega)
            have hB := Nat.le_trans hB g1.size
            have hX := hX.grown g1 (fun e => by have := (own0.lt _ e.symm).1; omega)
            clear own0
            have hcell : _ = some (Value.slice b dl.length d) := hq.cell 1
            have hfro := hq.frozen
            have hz := hK.size
            refine hK'.out _ _ (hX) (fun hHeld' => ?_)
            clear hK' K hHeld
            have hHeld := hHeld'
            clear hHeld'
            try simp only [Act.put]
            try simp only [Act.put, List.setIfInBounds_toArray, List.set_cons_zero, List.set_cons_succ]
            refine wpAnyH_ready (rs := [6]) (by kernel_rfl) (by simp) ?_
            refine' (AllReadyH.cons (o := _) ?hoN336 (fun K hK' => ?stN336) AllReadyH.nil)
            case hoN336 => (simp only [List.getElem?_toArray, List.getElem?_cons_succ, List.getElem?_cons_zero]; rfl)
            case stN336 =>
              rw [if_pos (by rfl)]
              refine wp_append_any _ (.tmp 19) (.tmp 21) 45 rfl (w.heap.size + 3) 62 i0 _ 9 64 Try.underlying45 HI.out.1 HI.out.2.1 HI.out.2.2.1 HI.out.2.2.2 rfl (by decide) _ _ _ rfl own3 _ _ 1 1 (clc X) rfl (reads_blk bx) (clc_all _) (by simp only [maxLen]; omega) (by omega) (by have := hK.size; omega) ?_
              intro v1 V1 own6 g1 at1
              obtain ⟨p6, c6, rfl⟩ := own_form own6
              have hK := hK.grown g1 (fun b hb => .inr (by have := (own3.lt b hb).1; omega))
              have hq := hq.grown g1 (fun e => by have := (own3.lt _ e.symm).1; omega)
              have hr := hr.grown g1 (fun e => by have := (own3.lt _ e.symm).1; omega)
              have hB := Nat.le_trans hB g1.size
              have hX := hX.grown g1 (fun e => by have := (own3.lt _ e.symm).1; omega)
              clear own3 bx
              have hcell : _ = some (Value.slice b dl.length d) := hq.cell 1
              have hfro := hq.frozen
              have hz := hK.size
              refine hK'.out _ _ (hX) (fun hHeld' => ?_)
              clear hK' K hHeld
              have hHeld := hHeld'
              clear hHeld'
              try simp only [Act.put]
              try simp only [Act.put, List.setIfInBounds_toArray, List.set_cons_zero, List.set_cons_succ]
              refine' wpAnyH_take (i := 7) (oi := _) (v := _) ?hM337 (by kernel_rfl) (by kernel_rfl) (by kernel_rfl) ?hQM337 (Or.inl ⟨?hwM337, ?hyM337⟩) hHeld ?restM337
              case hM337 => (simp only [List.getElem?_toArray, List.getElem?_cons_succ, List.getElem?_cons_zero]; rfl)
              case hQM337 => exact fun _ _ _ h => h
              case hwM337 => rfl
              case hyM337 => (intro w hSw; (try dsimp only at hSw); go_simp; try with_reducible rfl)
              try simp only [Act.put, List.setIfInBounds_toArray, List.set_cons_zero, List.set_cons_succ]
              refine wpAnyH_ready (rs := [8]) (by kernel_rfl) (by simp) ?_
              refine' (AllReadyH.cons (o := _) ?hoN348 (fun K hK' => ?stN348) AllReadyH.nil)
              case hoN348 => (simp only [List.getElem?_toArray, List.getElem?_cons_succ, List.getElem?_cons_zero]; rfl)
              case stN348 =>
                go_simp
                refine hK'.out _ _ (hX.far (p := ⟨_, 1, none⟩) (by show w.heap.size + 1 + 1 ≠ w.heap.size; omega) _) (fun hHeld' => ?_)
                clear hK' K hHeld
                have hHeld := hHeld'
                clear hHeld'
                try simp only [Act.put]
                try simp only [Act.put, List.setIfInBounds_toArray, List.set_cons_zero, List.set_cons_succ]
                refine wpAnyH_done (by kernel_rfl) ?_ _
                clear hHeld
                go_wp2_with fail
                go_meet
                case rel => exact ⟨p6, c6, rfl, by simpa [World.setCell] using hB, ownsRow_setCell own6 _ _ (own_blk_ne own6 hq (by decide)), hq.set_ 1 _, hr.far (by show w.heap.size + 1 ≠ w.heap.size; omega) _, hK.setCell (p := ⟨w.heap.size, 1, none⟩) (.inr (Nat.le_refl _)) _⟩
  case rest =>
    obtain ⟨p, c', rfl, hB, hown, hq, hr, hk⟩ := hcut
    have q0 : wc.cell? ⟨w.heap.size, 0, none⟩ = some (.slice (some ⟨ab, 0, none⟩) (l.length + 1) c) := hq.cell 0
    have q1 : wc.cell? ⟨w.heap.size, 1, none⟩ = some (.slice p (dl.length + 1) c') := hq.cell 1
    have q2 : wc.cell? ⟨w.heap.size, 2, none⟩ = some (.int .i64 lim) := hq.cell 2
    have r0 : wc.cell? ⟨w.heap.size + 1, 0, none⟩ = some (.slice none 0 0) := hr.cell 0
    have r1 : wc.cell? ⟨w.heap.size + 1, 1, none⟩ = some (.slice none 0 0) := hr.cell 1
    have r2 : wc.cell? ⟨w.heap.size + 1, 2, none⟩ = some (.int .i64 0) := hr.cell 2
    have hrf := hr.frozen
    have hq2 := hq.alloc (.cells #[] 62)
    have e0 : (wc.alloc (.cells #[] 62)).cell? ⟨w.heap.size, 0, none⟩ = some (.slice (some ⟨ab, 0, none⟩) (l.length + 1) c) := hq2.cell 0
    clear hX1 k1 c7 c8 f1 har
    have hown0 := own_empty wc (w.heap.size + 3) hB 62 9
    have hk2 : Keeps [] w (wc.alloc (.cells #[] 62)) := hk.alloc _
    have hr2 := hr.alloc (.cells #[] 62)
    have hfl : flat dl ++ clc X = flat (dl ++ [X]) := by rw [flat_app, flat_one]
    rw [hfl] at hown
    have hR2 : Rd (wc.alloc (.cells #[] 62)) ((w.heap.size + 1) :: (w.heap.size) :: F) p (dl.length + 1) (flat (dl ++ [X])) := (Rd.own (F := (w.heap.size + 1) :: (w.heap.size) :: F) hown (by intro z hz; simp only [List.mem_cons] at hz; rcases hz with rfl | rfl | hz; omega; omega; have := hF z hz; omega)).keeps ((Keeps.refl [] wc).alloc _) (by simp)
    have hne : ∀ b, p = some ⟨b, 0, none⟩ → b ≠ wc.heap.size := fun b e => by
      subst e
      have := (hown.lt b rfl).2
      omega
    clear hown hq hr hk
    by_cases hc1 : c = 1
    · obtain rfl := hc1.symm
      obtain rfl : l = [] := List.eq_nil_of_length_eq_zero (by omega)
      have hrd : Reads (wc.alloc (.cells #[] 62)) 0 9 (some ⟨ab, 0, none⟩) 0 (flat (([] : List It).map pend)) := ⟨rfl, fun h => absurd h (by omega)⟩
      go_wp2_with (at_builtin; refine wpList_append_any _ rfl (.tmp 24) (.tmp 27) 45 rfl (w.heap.size + 3) 62 i0 _ 9 64 Try.underlying45 HI.out.1 HI.out.2.1 HI.out.2.2.1 HI.out.2.2.2 rfl (by decide) (.slice (some ⟨wc.heap.size, 0, none⟩) 0 0) 0 _ rfl hown0 _ (some ⟨ab, 0, none⟩) 0 0 (flat (([] : List It).map pend)) rfl hrd (flat_all _) (by simp only [maxLen]; omega) (by omega) (by simp; omega) ?_; intro v3 w3 hown3 hg3 hat3; rw [Nat.zero_add, List.nil_append] at hown3; obtain ⟨p3, c3, rfl⟩ := own_form hown3; have hq3 := hq2.grown hg3 (fun e => by have := (hown0.lt _ e.symm).1; omega); have hr3 := hr2.grown hg3 (fun e => by have := (hown0.lt _ e.symm).1; omega); have hk3 := hk2.grown hg3 (fun b hb => .inr (by have := (hown0.lt b hb).1; omega)); have hR3 := hR2.grown9 hg3 hne rfl; have q0 : w3.cell? ⟨w.heap.size, 0, none⟩ = some (.slice (some ⟨ab, 0, none⟩) 1 1) := hq3.cell 0; have q1 : w3.cell? ⟨w.heap.size, 1, none⟩ = some (.slice p (dl.length + 1) c') := hq3.cell 1; have q2 : w3.cell? ⟨w.heap.size, 2, none⟩ = some (.int .i64 lim) := hq3.cell 2; have r0 : w3.cell? ⟨w.heap.size + 1, 0, none⟩ = some (.slice none 0 0) := hr3.cell 0; have r1 : w3.cell? ⟨w.heap.size + 1, 1, none⟩ = some (.slice none 0 0) := hr3.cell 1; have r2 : w3.cell? ⟨w.heap.size + 1, 2, none⟩ = some (.int .i64 0) := hr3.cell 2; have hrf := hr3.frozen; have hqf := hq3.frozen; have H3 := Lib.hid (And.intro hown3 (And.intro hq3 (And.intro hr3 (And.intro hk3 hR3)))); clear hown3 hq3 hr3 hk3 hR3 hg3 hat3 hq2 hr2 hk2 hR2 hown0 hrd)
      refine bodyPost_ret (v := .agg #[.slice p3 ([] : List It).length c3, .slice p (dl.length + 1) c', .int .i64 lim]) (by simp [results, Try.results37, go_sem, r0, r1, r2]) rfl ?_
      obtain ⟨hown3, hq3, hr3, hk3, hR3⟩ := H3.out
      have hc3 := own_cap hown3
      have hl9 : dl.length + 1 = (dl ++ [X]).length := by simp
      rw [hl9] at hR3 ⊢
      have ha := Rd.own (F := (w.heap.size + 1) :: (w.heap.size) :: F) hown3 (by intro z hz; simp only [List.mem_cons] at hz; rcases hz with rfl | rfl | hz; omega; omega; have := hF z hz; omega)
      have hs : Keeps [w.heap.size] w3 (w3.setCell ⟨w.heap.size, 0, none⟩ (.slice p3 ([] : List It).length c3)) := (Keeps.refl _ w3).setCell (p := ⟨w.heap.size, 0, none⟩) (by simp) _
      have := rf_end (F := F) (d := c') (lim := lim) (hk3.next hs (by simp)) (keep3 (w.heap.size + 1) (.slice p3 ([] : List It).length c3) (.slice p (dl ++ [X]).length c') (.int .i64 lim)) (by omega) ((ha.keeps hs (by simp)).more (by intro z hz; simp only [List.mem_cons] at hz ⊢; rcases hz with rfl | hz; exact .inl (.inl rfl); exact .inl (.inr (.inr hz)))) ((hR3.keeps hs (by simp)).more (by intro z hz; simp only [List.mem_cons] at hz ⊢; rcases hz with rfl | hz; exact .inl (.inl rfl); exact .inl (.inr (.inr hz)))) hc3
      exact ⟨_, rfl, this.1, this.2⟩
    · have hc2 : (1 : Int) ≤ (l.length : Int) + 1 := by omega
      have hrd := rd_tail (HS.out.keeps hk2 (by simp)) rfl
      go_wp2_with (at_builtin; refine wpList_append_any _ rfl (.tmp 24) (.tmp 27) 45 rfl (w.heap.size + 3) 62 i0 _ 9 64 Try.underlying45 HI.out.1 HI.out.2.1 HI.out.2.2.1 HI.out.2.2.2 rfl (by decide) (.slice (some ⟨wc.heap.size, 0, none⟩) 0 0) 0 _ rfl hown0 _ (some ⟨ab, 9, none⟩) l.length (c - 1) (flat (l.map pend)) rfl hrd (flat_all _) (by simp only [maxLen]; omega) (by omega) (by simp; omega) ?_; intro v3 w3 hown3 hg3 hat3; rw [Nat.zero_add, List.nil_append] at hown3; obtain ⟨p3, c3, rfl⟩ := own_form hown3; have hq3 := hq2.grown hg3 (fun e => by have := (hown0.lt _ e.symm).1; omega); have hr3 := hr2.grown hg3 (fun e => by have := (hown0.lt _ e.symm).1; omega); have hk3 := hk2.grown hg3 (fun b hb => .inr (by have := (hown0.lt b hb).1; omega)); have hR3 := hR2.grown9 hg3 hne rfl; have q0 : w3.cell? ⟨w.heap.size, 0, none⟩ = some (.slice (some ⟨ab, 0, none⟩) (l.length + 1) c) := hq3.cell 0; have q1 : w3.cell? ⟨w.heap.size, 1, none⟩ = some (.slice p (dl.length + 1) c') := hq3.cell 1; have q2 : w3.cell? ⟨w.heap.size, 2, none⟩ = some (.int .i64 lim) := hq3.cell 2; have r0 : w3.cell? ⟨w.heap.size + 1, 0, none⟩ = some (.slice none 0 0) := hr3.cell 0; have r1 : w3.cell? ⟨w.heap.size + 1, 1, none⟩ = some (.slice none 0 0) := hr3.cell 1; have r2 : w3.cell? ⟨w.heap.size + 1, 2, none⟩ = some (.int .i64 0) := hr3.cell 2; have hrf := hr3.frozen; have hqf := hq3.frozen; have H3 := Lib.hid (And.intro hown3 (And.intro hq3 (And.intro hr3 (And.intro hk3 hR3)))); clear hown3 hq3 hr3 hk3 hR3 hg3 hat3 hq2 hr2 hk2 hR2 hown0 hrd)
      refine bodyPost_ret (v := .agg #[.slice p3 l.length c3, .slice p (dl.length + 1) c', .int .i64 lim]) (by simp [results, Try.results37, go_sem, r0, r1, r2]) rfl ?_
      obtain ⟨hown3, hq3, hr3, hk3, hR3⟩ := H3.out
      have hc3 := own_cap hown3
      have hl9 : dl.length + 1 = (dl ++ [X]).length := by simp
      rw [hl9] at hR3 ⊢
      have ha := Rd.own (F := (w.heap.size + 1) :: (w.heap.size) :: F) hown3 (by intro z hz; simp only [List.mem_cons] at hz; rcases hz with rfl | rfl | hz; omega; omega; have := hF z hz; omega)
      have hs : Keeps [w.heap.size] w3 (w3.setCell ⟨w.heap.size, 0, none⟩ (.slice p3 l.length c3)) := (Keeps.refl _ w3).setCell (p := ⟨w.heap.size, 0, none⟩) (by simp) _
      have := rf_end (F := F) (d := c') (lim := lim) (hk3.next hs (by simp)) (keep3 (w.heap.size + 1) (.slice p3 l.length c3) (.slice p (dl ++ [X]).length c') (.int .i64 lim)) (by omega) ((ha.keeps hs (by simp)).more (by intro z hz; simp only [List.mem_cons] at hz ⊢; rcases hz with rfl | hz; exact .inl (.inl rfl); exact .inl (.inr (.inr hz)))) ((hR3.keeps hs (by simp)).more (by intro z hz; simp only [List.mem_cons] at hz ⊢; rcases hz with rfl | hz; exact .inl (.inl rfl); exact .inl (.inr (.inr hz)))) hc3
      exact ⟨_, rfl, this.1, this.2⟩
end Qp
end Go.Proofs.Ytaepcedcjhliaaa
