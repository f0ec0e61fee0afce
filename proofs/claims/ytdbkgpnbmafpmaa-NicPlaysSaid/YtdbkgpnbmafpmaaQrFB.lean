/- Queues of campanile/frame.Frame: the i'th thing; the first thing, that goes. -/
import Derived.Test.YtdbkgpnbmafpmaaQrFA
import Derived.Test.YtdbkgpnbmafpmaaReg2
import Derived.Test.YtdbkgpnbmafpmaaRes
namespace Go.Proofs.Ytdbkgpnbmafpmaa
open Go.RowKit
namespace FiF
open Sm
theorem blk_all {w : World} {g : Nat} {t : TypeId} {c : Array Value} (h : Blk w g t c) (vs : List Value) (hl : vs.length = c.size) : Blk (w.setCells g 0 vs) g t vs.toArray := by
  have key : ∀ (vs : List Value) (o : Nat) (w : World) (c : Array Value), Blk w g t c → o + vs.length ≤ c.size → ∃ c', Blk (w.setCells g o vs) g t c' ∧ c'.size = c.size ∧ (∀ i, i < o → c'[i]? = c[i]?) ∧ (∀ i, i < vs.length → c'[o + i]? = vs[i]?) ∧ (∀ i, o + vs.length ≤ i → c'[i]? = c[i]?) := by
    intro vs
    induction vs with
    | nil => intro o w c h _; exact ⟨c, h, rfl, fun _ _ => rfl, fun i hi => by simp at hi, fun _ _ => rfl⟩
    | cons v vs ih =>
      intro o w c h ho
      simp only [List.length_cons] at ho
      obtain ⟨c', h1, h2, h3, h4, h5⟩ := ih (o + 1) _ _ (h.set_ o v) (by simp; omega)
      refine ⟨c', h1, by rw [h2]; simp, fun i hi => ?_, fun i hi => ?_, fun i hi => ?_⟩
      · rw [h3 i (by omega), Array.getElem?_setIfInBounds_ne (by omega)]
      · simp only [List.length_cons] at hi
        rcases Nat.eq_zero_or_pos i with h0 | h0
        · subst h0
          rw [Nat.add_zero, h3 o (by omega), Array.getElem?_setIfInBounds_self_of_lt (by omega)]
          rfl
        · have := h4 (i - 1) (by omega)
          rw [show o + 1 + (i - 1) = o + i from by omega] at this
          rw [this]
          obtain ⟨j, rfl⟩ : ∃ j, i = j + 1 := ⟨i - 1, by omega⟩
          simp
      · simp only [List.length_cons] at hi
        rw [h5 i (by omega), Array.getElem?_setIfInBounds_ne (by omega)]
  obtain ⟨c', h1, h2, _, h4, _⟩ := key vs 0 w c h (by omega)
  have : c' = vs.toArray := by
    apply Array.ext
    · simp; omega
    · intro i hi1 hi2
      have hi : i < vs.length := by simpa using hi2
      have := h4 i hi
      rw [Nat.zero_add, Array.getElem?_eq_getElem hi1, List.getElem?_eq_getElem hi] at this
      injection this
  rw [← this]
  exact h1
theorem wpList_store_blk {ops : Array Oper} {rest : List Oper} {op : Oper} {a : Act} {w : World} {Q : Exit → Act → World → Prop} (hgd : op.guard = none) (xo yo : Operand) (ho : op.op = .store 39 xo yo) (b : Nat) (c0 : Array Value) (it : It)
    (hx : a.eval xo = .pointer (some ⟨b, 0, none⟩)) (hy : a.eval yo = .agg (cs it).toArray) (hB : Blk w b 39 c0) (hc : c0.size = 3) (h : ∀ w', Blk w' b 39 (cs it).toArray → Keeps [b] w w' → wpList Try.prog ops Q rest (a.put op.dst undef) w') : wpList Try.prog ops Q (op :: rest) a w := by
  refine wpList_store_mid hgd 39 xo yo ho b 0 (cs it).toArray hx hy ?_ (info_arr it) (cs_one it) (h _ (blk_all hB (cs it) (by rw [cs_len, hc])) (keeps_cells (.inl (by simp)) _ _ _ (Keeps.refl _ _)))
  have := blk_there hB
  rw [hc] at this
  exact this
theorem wp_store_blk {op : Oper} {a : Act} {w : World} {K : Act → World → Prop} {Q : Exit → Act → World → Prop} (xo yo : Operand) (ho : op.op = .store 39 xo yo) (b : Nat) (c0 : Array Value) (it : It)
    (hx : a.eval xo = .pointer (some ⟨b, 0, none⟩)) (hy : a.eval yo = .agg (cs it).toArray) (hB : Blk w b 39 c0) (hc : c0.size = 3) (h : ∀ w', Blk w' b 39 (cs it).toArray → Keeps [b] w w' → K (a.put op.dst undef) w') : op.wp Try.prog a w K Q := by
  refine wp_store_mid 39 xo yo ho b 0 (cs it).toArray hx hy ?_ (info_arr it) (cs_one it) (h _ (blk_all hB (cs it) (by rw [cs_len, hc])) (keeps_cells (.inl (by simp)) _ _ _ (Keeps.refl _ _)))
  have := blk_there hB
  rw [hc] at this
  exact this
theorem wp_store_room {op : Oper} {a : Act} {w : World} {K : Act → World → Prop} {Q : Exit → Act → World → Prop} (xo yo : Operand) (ho : op.op = .store 39 xo yo) (b len : Nat) (R : Nat → It) (k : Nat) (it : It)
    (hx : a.eval xo = .pointer (some ⟨b, k * 3, none⟩)) (hy : a.eval yo = .agg (cs it).toArray) (hR : Room w b len R) (hk : k < len) (h : ∀ w', Room w' b len (updR R k it) → Keeps [b] w w' → K (a.put op.dst undef) w') : op.wp Try.prog a w K Q :=
  wp_store_mid 39 xo yo ho b (k * 3) (cs it).toArray hx hy (hR.there_ k hk) (info_arr it) (cs_one it) (h _ (hR.store k hk it) (keeps_cells (.inl (by simp)) _ _ _ (Keeps.refl _ _)))
theorem wpList_load_blk {ops : Array Oper} {rest : List Oper} {op : Oper} {a : Act} {w : World} {Q : Exit → Act → World → Prop} (hgd : op.guard = none) (xo : Operand) (ho : op.op = .load 39 xo) (b : Nat) (it : It)
    (hx : a.eval xo = .pointer (some ⟨b, 0, none⟩)) (hB : Blk w b 39 (cs it).toArray) (h : wpList Try.prog ops Q rest (a.put op.dst (.agg (cs it).toArray)) w) : wpList Try.prog ops Q (op :: rest) a w :=
  wpList_load_mid hgd 39 xo ho b 0 hx (cs it) _ (blk_range (cs it) hB) Try.underlying39 rfl (info_cs it) h
theorem load_blk {w : World} {b : Nat} (it : It) (hB : Blk w b 39 (cs it).toArray) : (loadVar 39 ⟨b, 0, none⟩).run Try.prog w = .ok (.agg (cs it).toArray) w :=
  run_loadVar_mid w b 0 39 (cs it) _ (blk_range (cs it) hB) Try.underlying39 rfl (info_cs it)
theorem Qu.kp {w w' : World} {g r : Nat} {l : List It} {lim dr : Int} (h : Qu w g r l lim dr) (hd : Keeps [] w w') : Qu w' g r l lim dr := h.keeps hd (by simp) (by simp)
def IsV (v : Value) (w : World) (e : Ending) (w' : World) : Prop := e = .returned v ∧ Keeps [] w w'
theorem peek_out (g r : Nat) (l : List It) (lim dr i : Int) (w : World) (h : Qu w g r l lim dr) (hi : i < 0 ∨ (l.length : Int) ≤ i) :
    Calls Try.prog 47 #[.pointer (some ⟨g, 0, none⟩), .int .i64 i] w (IsV (.tuple #[val z, .bool false]) w) := by
  obtain ⟨A, len, c, f, R, h1, _⟩ := h
  obtain ⟨_, _, c2, _, _, _⟩ := h1.cells
  have hgl := h1.q.lt
  clear h1
  by_cases h0 : i < 0
  · clear hi
    go_enter Try.func47, Try.ntmps47
    go_wp2
    refine bodyPost_ret (v := .tuple #[val z, .bool false]) (by simp [results, Try.results47, go_sem, cs, z]) rfl ?_
    exact ⟨rfl, ((Keeps.refl _ _).alloc _).alloc _⟩
  · have hi2 : (l.length : Int) ≤ i := by omega
    clear hi
    go_enter Try.func47, Try.ntmps47
    go_wp2
    refine bodyPost_ret (v := .tuple #[val z, .bool false]) (by simp [results, Try.results47, go_sem, cs, z]) rfl ?_
    exact ⟨rfl, ((Keeps.refl _ _).alloc _).alloc _⟩
theorem peek_nil (i : Int) (w : World) : Calls Try.prog 47 #[.pointer none, .int .i64 i] w (IsV (.tuple #[val z, .bool false]) w) := by
  go_enter Try.func47, Try.ntmps47
  go_wp2
  refine bodyPost_ret (v := .tuple #[val z, .bool false]) (by simp [results, Try.results47, go_sem, cs, z]) rfl ?_
  exact ⟨rfl, ((Keeps.refl _ _).alloc _).alloc _⟩
theorem z_arr : (cs z).toArray = #[.int .i64 0, .int .i64 0, .string ⟨#[]⟩] := rfl
attribute [local irreducible] cs
set_option maxRecDepth 100000 in
set_option maxHeartbeats 1000000 in
theorem peek_in (g r : Nat) (l : List It) (lim dr : Int) (i : Nat) (x : It) (w : World) (h : Qu w g r l lim dr) (hx : l[i]? = some x) :
    Calls Try.prog 47 #[.pointer (some ⟨g, 0, none⟩), .int .i64 (i : Int)] w (IsV (.tuple #[val x, .bool true]) w) := by
  have hi : i < l.length := (List.getElem?_eq_some_iff.1 hx).1
  obtain ⟨A, len, c, f, R, h1, h2, _⟩ := h
  have hxx := h2 i hi
  rw [hx] at hxx
  injection hxx with hxx
  have hn := h1.hn
  have hlen := h1.hlen
  rcases h1.room with ⟨h0, _, _⟩ | ⟨h0, hA, hne, hr⟩
  · omega
  · subst hA
    have hk0 : Keeps [] w (w.alloc (.cells #[.int .i64 0, .int .i64 0, .string ⟨#[]⟩] 39)).drew := ((Keeps.refl [] w).alloc _).drew
    have h1' := h1.keeps hk0 (by simp) (by simp)
    have HA := Lib.hid (at_any g r _ len c f _ lim dr R i _ h1' h0 (by omega))
    have hp := place_bd f i len h0
    have hc := (hr.keeps hk0 (by simp)).at_ _ hp
    have hgl := h1.q.lt
    have hrl := hr.lt
    rw [← hxx] at hc
    obtain ⟨_, _, d2, _, _, _⟩ := h1.cells
    obtain ⟨c0, _, c2, _, _, _⟩ := h1'.cells
    have hB : Blk (w.alloc (.cells #[.int .i64 0, .int .i64 0, .string ⟨#[]⟩] 39)).drew w.heap.size 39 (cs z).toArray := by rw [z_arr]; exact (Blk.new w 39 #[.int .i64 0, .int .i64 0, .string ⟨#[]⟩]).drew
    clear h2 hx hxx h1 h1' hr
    generalize (f + i) % len = p at *
    have hp0 : (0 : Int) ≤ (p : Int) := by omega
    have hp1 : (p : Int) < (len : Int) := by omega
    have hi0 : (i : Int) < (l.length : Int) := by omega
    generalize l.length = n at *
    go_enter Try.func47, Try.ntmps47
    go_wp2
    refine wp_region_held_drew (S := (fun V => V.cell? ⟨g, 0, none⟩ = some (.slice (some ⟨r, 0, none⟩) len c) ∧ V.rangeAt r (p * 3) (cs x) ∧ Keeps [] w V)) (by kernel_rfl) ⟨c0, hc, hk0⟩ (fun hHeld => ?_)
    refine' wpAnyH_take (i := 0) (oi := _) (v := _) ?hK0 (by kernel_rfl) (by kernel_rfl) (by kernel_rfl) ?hQK0 (Or.inl ⟨?hwK0, ?hyK0⟩) hHeld ?restK0
    case hK0 => (simp only [List.getElem?_toArray, List.getElem?_cons_zero]; rfl)
    case hQK0 => exact fun _ _ _ h => h
    case hwK0 => rfl
    case hyK0 => (intro w hSw; (try dsimp only at hSw); go_simp; try with_reducible rfl)
    try simp only [Act.put, List.setIfInBounds_toArray, List.set_cons_zero, List.set_cons_succ]
    refine' wpAnyH_take (i := 1) (oi := _) (v := _) ?hK1 (by kernel_rfl) (by kernel_rfl) (by kernel_rfl) ?hQK1 (Or.inl ⟨?hwK1, ?hyK1⟩) hHeld ?restK1
    case hK1 => (simp only [List.getElem?_toArray, List.getElem?_cons_succ, List.getElem?_cons_zero]; rfl)
    case hQK1 => exact fun _ _ _ h => h
    case hwK1 => rfl
    case hyK1 => (intro w hSw; (try dsimp only at hSw); go_simp; try with_reducible rfl)
    try simp only [Act.put, List.setIfInBounds_toArray, List.set_cons_zero, List.set_cons_succ]
    refine' wpAnyH_take (i := 2) (oi := _) (v := _) ?hK2 (by kernel_rfl) (by kernel_rfl) (by kernel_rfl) ?hQK2 (Or.inl ⟨?hwK2, ?hyK2⟩) hHeld ?restK2
    case hK2 => (simp only [List.getElem?_toArray, List.getElem?_cons_succ, List.getElem?_cons_zero]; rfl)
    case hQK2 => exact fun _ _ _ h => h
    case hwK2 => rfl
    case hyK2 => (intro w hSw; (try dsimp only at hSw); go_simp; try with_reducible rfl)
    try simp only [Act.put, List.setIfInBounds_toArray, List.set_cons_zero, List.set_cons_succ]
    refine' wpAnyH_take (i := 3) (oi := _) (v := _) ?hK3 (by kernel_rfl) (by kernel_rfl) (by kernel_rfl) ?hQK3 (Or.inl ⟨?hwK3, ?hyK3⟩) hHeld ?restK3
    case hK3 => (simp only [List.getElem?_toArray, List.getElem?_cons_succ, List.getElem?_cons_zero]; rfl)
    case hQK3 => exact fun _ _ _ h => h
    case hwK3 => rfl
    case hyK3 => (intro w hSw; (try dsimp only at hSw); go_simp; try with_reducible rfl)
    try simp only [Act.put, List.setIfInBounds_toArray, List.set_cons_zero, List.set_cons_succ]
    refine' wpAnyH_take (i := 4) (oi := _) (v := _) ?hK4 (by kernel_rfl) (by kernel_rfl) (by kernel_rfl) ?hQK4 (Or.inl ⟨?hwK4, ?hyK4⟩) hHeld ?restK4
    case hK4 => (simp only [List.getElem?_toArray, List.getElem?_cons_succ, List.getElem?_cons_zero]; rfl)
    case hQK4 => exact fun _ _ _ h => h
    case hwK4 => rfl
    case hyK4 => (intro w hSw; (try dsimp only at hSw); go_simp; try with_reducible rfl)
    try simp only [Act.put, List.setIfInBounds_toArray, List.set_cons_zero, List.set_cons_succ]
    refine' wpAnyH_take (i := 5) (oi := _) (v := _) ?hK5 (by kernel_rfl) (by kernel_rfl) (by kernel_rfl) ?hQK5 (Or.inl ⟨?hwK5, ?hyK5⟩) hHeld ?restK5
    case hK5 => (simp only [List.getElem?_toArray, List.getElem?_cons_succ, List.getElem?_cons_zero]; rfl)
    case hQK5 => exact fun _ _ _ h => h
    case hwK5 => rfl
    case hyK5 => (intro w hSw; (try dsimp only at hSw); go_simp; try with_reducible rfl)
    try simp only [Act.put, List.setIfInBounds_toArray, List.set_cons_zero, List.set_cons_succ]
    refine wpAnyH_ready (rs := [6]) (by kernel_rfl) (by simp) ?_
    refine AllReadyH.cons rfl (fun K hK => ?_) AllReadyH.nil
    go_simp
    refine (HA.out).mono ?_
    rintro e v9 ⟨rfl, hd9⟩
    try go_wp2_with fail
    refine hK.out _ _ (⟨(hd9.cell _).trans hHeld.1, fun j u hu => (hd9.cell _).trans (hHeld.2.1 j u hu), hHeld.2.2.drawn hd9⟩) (fun hHeld' => ?_)
    clear hK K hHeld
    have hHeld := hHeld'
    clear hHeld'
    try simp only [Act.put, List.setIfInBounds_toArray, List.set_cons_zero, List.set_cons_succ]
    refine' wpAnyH_take (i := 7) (oi := _) (v := _) ?hK7 (by kernel_rfl) (by kernel_rfl) (by kernel_rfl) ?hQK7 (Or.inl ⟨?hwK7, ?hyK7⟩) hHeld ?restK7
    case hK7 => (simp only [List.getElem?_toArray, List.getElem?_cons_succ, List.getElem?_cons_zero]; rfl)
    case hQK7 => exact fun _ _ _ h => h
    case hwK7 => rfl
    case hyK7 => (intro w hSw; (try dsimp only at hSw); go_simp; try with_reducible rfl)
    try simp only [Act.put, List.setIfInBounds_toArray, List.set_cons_zero, List.set_cons_succ]
    refine' wpAnyH_take (i := 8) (oi := _) (v := .agg (cs x).toArray) ?hK8 (by kernel_rfl) (by kernel_rfl) (by kernel_rfl) ?hQK8 ?hyK8 hHeld ?restK8
    case hK8 => (simp only [List.getElem?_toArray, List.getElem?_cons_succ, List.getElem?_cons_zero]; rfl)
    case hQK8 => exact fun _ _ _ h => h
    case hyK8 => (apply yieldsIf_load_mid (b := r) (o := p * 3) (cs := cs x); (case hw => rfl); (case ho => rfl); (case hx => rfl); (case hS => exact fun _ h => h.2.1); (case hu => exact Try.underlying39); (case hd => rfl); (case hi => exact info_cs _))
    try simp only [Act.put, List.setIfInBounds_toArray, List.set_cons_zero, List.set_cons_succ]
    refine wpAnyH_ready (rs := [9]) (by kernel_rfl) (by simp) ?_
    refine' AllReadyH.cons (o := _) ?hoK9 (fun K hK => ?stK9) AllReadyH.nil
    case hoK9 => (simp only [List.getElem?_toArray, List.getElem?_cons_succ, List.getElem?_cons_zero]; rfl)
    rw [if_pos (by rfl)]
    refine wp_store_mid _ _ _ rfl w.heap.size 0 (cs x).toArray rfl rfl (by have := blk_there (hB.drawn hd9); simpa [cs_len] using this) (info_arr x) (cs_one x) ?_
    refine hK.out _ _ (⟨(cell_cells _ _ (by show g ≠ w.heap.size; omega)).trans hHeld.1, World.rangeAt_setCells_apart hHeld.2.1 _ _ _ (.inl (by omega)), keeps_cells (.inr (Nat.le_refl _)) _ _ _ hHeld.2.2⟩) (fun hHeld' => ?_)
    clear hK K hHeld
    have hHeld := hHeld'
    clear hHeld'
    try simp only [Act.put]
    refine' wpAnyH_take (i := 10) (oi := _) (v := _) ?hK10 (by kernel_rfl) (by kernel_rfl) (by kernel_rfl) ?hQK10 (Or.inl ⟨?hwK10, ?hyK10⟩) hHeld ?restK10
    case hK10 => (simp only [List.getElem?_toArray, List.getElem?_cons_succ, List.getElem?_cons_zero]; rfl)
    case hQK10 => exact fun _ _ _ h => h
    case hwK10 => rfl
    case hyK10 => (intro w hSw; (try dsimp only at hSw); go_simp; try with_reducible rfl)
    try simp only [Act.put, List.setIfInBounds_toArray, List.set_cons_zero, List.set_cons_succ]
    refine wpAnyH_done (by kernel_rfl) ?_ _
    have hK := hHeld.2.2
    clear hHeld
    go_wp2
    have hl := run_loadVar_mid (P := Try.prog) _ w.heap.size 0 39 (cs x) _ (World.rangeAt_setCells_same v9 _ _ _ (by have := blk_there (hB.drawn hd9); simpa [cs_len] using this)) Try.underlying39 rfl (info_cs x)
    refine bodyPost_ret (results_cell2 rfl _ _ _ rfl hl) rfl ?_
    exact ⟨rfl, hK⟩
end FiF
end Go.Proofs.Ytdbkgpnbmafpmaa
