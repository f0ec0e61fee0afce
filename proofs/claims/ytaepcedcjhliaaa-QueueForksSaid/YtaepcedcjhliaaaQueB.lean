/- The first request is done. -/
import Derived.Test.YtaepcedcjhliaaaQueA
namespace Go.Proofs.Ytaepcedcjhliaaa
open Go.RowKit
namespace Qp
open Sm FiT
theorem cl_all : (Try.prog.info? 42).map (fun i => (i.zero, i.size, i.bytes)) = some (some (.agg #[.int .i64 0, .int .u8 0, .int .u8 0, .int .i64 0, .int .i64 0, .int .i64 0, .bool false, .int .i64 0, .int .i64 0]), 9, 64) := by kernel_rfl
theorem reads_cl (w : World) (x : Cl) : Reads (w.alloc (.cells (clc x).toArray 42)) (w.heap.size + 1) 9 (some ⟨w.heap.size, 0, none⟩) 1 (clc x) := by
  refine ⟨by rw [clc_len], fun _ => ⟨_, rfl, by simp, fun j u hu => ?_⟩⟩
  have e : (⟨w.heap.size, 0, none⟩ : Addr).add j = ⟨w.heap.size, j, none⟩ := by unfold Addr.add; by_cases h0 : j = 0 <;> simp [h0]
  rw [e, (Blk.new w 42 (clc x).toArray).cell]
  simpa using hu
theorem own_form {w : World} {base size n : Nat} {e : TypeId} {v : Value} {xs : List Value} (h : w.ownsRow base e size v n xs) : ∃ a c, v = .slice a n c := by
  rcases h.2 with ⟨rfl, rfl⟩ | ⟨g, cap, cur, rfl, _⟩
  · exact ⟨_, _, rfl⟩
  · exact ⟨_, _, rfl⟩
theorem range_keep {V V' : World} {S : List Nat} {b o : Nat} {l : List Value} (h : V.rangeAt b o l) (hk : Keeps S V V') (hb : b < V.heap.size) (hS : b ∉ S) : V'.rangeAt b o l := fun j u hu => (hk.cell (p := ⟨b, o + j, none⟩) hb hS).trans (h j u hu)
/-- Behind a region that appended: the row that was, or a new one. -/
theorem lst_next {w' : World} {q y c c' N : Nat} {w : World} {a p : Option Addr} {dl : List Cl} {X : Cl} (hd : Lst w q y a c dl) (h : w'.ownsRow 0 42 9 (.slice p (dl.length + 1) c') (dl.length + 1) (flat dl ++ clc X))
    (hb : (Value.slice p (dl.length + 1) c').ownBlock = (Value.slice a dl.length c).ownBlock ∨ (Value.slice p (dl.length + 1) c').ownBlock = some N) : ∃ y', Lst w' q y' p c' (dl ++ [X]) ∧ (y' = y ∨ y' = N) ∧ p = some ⟨y', 0, none⟩ := by
  obtain ⟨y', cap, hv, _, hlt⟩ := h.form (by omega)
  injection hv with e1
  subst e1
  refine ⟨y', .inr ⟨rfl, ?_⟩, ?_, rfl⟩
  · rw [List.length_append, flat_app, flat_one]
    exact h
  · rcases hb with hb | hb
    · exact .inl (hd.blk y' (by rw [← hb]; rfl))
    · right; simpa [Value.ownBlock] using hb
theorem close_fin {w v2 w2 : World} {q g r y c c2 N : Nat} {a p2 : Option Addr} {x : It} {t : List It} {dl : List Cl} {X : Cl} {lim : Int} (hq2 : Qu v2 g r t lim 0) (hd2 : Lst v2 q y a c dl) (hK : Keeps [q, g, r, y] w v2) (hbw : Blk w2 q 57 #[.pointer (some ⟨g, 0, none⟩), .slice a dl.length c])
    (hown : w2.ownsRow 0 42 9 (.slice p2 (dl.length + 1) c2) (dl.length + 1) (flat dl ++ clc X)) (hkw : Keeps [y] v2 w2) (hat : (Value.slice p2 (dl.length + 1) c2).ownBlock = (Value.slice a dl.length c).ownBlock ∨ (Value.slice p2 (dl.length + 1) c2).ownBlock = some N) (hN : w.heap.size ≤ N)
    (hqg : q ≠ g) (hqr : q ≠ r) (hyg : y ≠ g) (hyr : y ≠ r) (hhl : ((x :: t).length : Int) + (dl.length : Int) ≤ lim) (hhm : lim ≤ 16) (l2 : g < w.heap.size) (l3 : r < w.heap.size) :
    To q g r y t (dl ++ [X]) lim w (w2.setCell ⟨q, 1, none⟩ (.slice p2 (dl.length + 1) c2)) := by
  have hne := own_blk_ne hown hbw (by decide)
  obtain ⟨y', hl, hy, hp⟩ := lst_next (q := q) hd2 (X := X) (ownsRow_setCell hown ⟨q, 1, none⟩ (.slice p2 (dl.length + 1) c2) hne) hat
  have hk9 : Keeps [q, y] v2 (w2.setCell ⟨q, 1, none⟩ (.slice p2 (dl.length + 1) c2)) := (hkw.more (by simp)).setCell (p := ⟨q, 1, none⟩) (by simp) _
  refine ⟨r, y', p2, c2, ⟨?_, hq2.keeps hk9 (by simp; omega) (by simp; omega), hl, hqg, hqr, by omega, by omega, ?_, hhm⟩, hK.next hk9 (by simp), .inl rfl, by omega⟩
  · rw [List.length_append]
    exact hbw.set_ 1 (.slice p2 (dl.length + 1) c2)
  · rw [List.length_append]
    simp at hhl ⊢
    omega
def IsClose (q g r y : Nat) (x : Cl) (l : List It) (dl : List Cl) (lim : Int) (w : World) (e : Ending) (w' : World) : Prop :=
  e = .returned (.tuple #[]) ∧ To q g r y l (dl ++ [x]) lim w w'
set_option maxRecDepth 100000 in
set_option maxHeartbeats 2000000 in
theorem close_q {q g r y c : Nat} {a : Option Addr} {x : It} {t : List It} {dl : List Cl} {lim : Int} (st n : Int) (w : World) (h : Qe w q g r y a c (x :: t) dl lim) :
    Calls Try.prog 24 #[.pointer (some ⟨q, 0, none⟩), .int .i64 st, .int .i64 n] w (IsClose q g r y ⟨x, st, n⟩ t dl lim w) := by
  obtain ⟨i0, hi0, hz0, hz1, hz2⟩ := info_parts cl_all
  have HI := Lib.hid (And.intro hi0 (And.intro hz0 (And.intro hz1 hz2)))
  clear hi0 hz0 hz1 hz2
  obtain ⟨l1, l2, l3, l4⟩ := h.lt
  have hqg := h.qg
  have hqr := h.qr
  have hyg := h.yg
  have hyr := h.yr
  have hhl := h.hl
  have hhm := h.hm
  have HP := Lib.hid (pop_some g r x t lim 0 w h.f)
  have c0 : w.cell? ⟨q, 0, none⟩ = some (.pointer (some ⟨g, 0, none⟩)) := h.b.cell 0
  have H := Lib.hid h
  clear h
  go_enter Try.func24, Try.ntmps24
  go_wp2_with fail
  refine HP.out.mono ?_
  rintro e v1 ⟨rfl, hq1, hk1⟩
  clear HP
  have hb1 := H.out.b.keeps hk1 (by simp; omega)
  have hd1 := H.out.d.keeps hk1 (by simp; omega)
  have hz1 := hk1.size
  clear c0
  go_wp2_with (refine wpList_store_blk rfl _ _ rfl v1.heap.size #[.int .i64 0, .int .u8 0, .int .u8 0, .int .i64 0, .int .i64 0, .int .i64 0, .bool false] x rfl rfl (Blk.new v1 30 #[.int .i64 0, .int .u8 0, .int .u8 0, .int .i64 0, .int .i64 0, .int .i64 0, .bool false]) rfl ?_; intro v2 h6 hk6)
  have hz2 := hk6.size
  simp at hz2
  have hkk : Keeps [] v1 v2 := ((Keeps.refl [] v1).alloc _).next hk6 (by simp)
  have hq2 := hq1.kp hkk
  have hb2 := hb1.keeps hkk (by simp)
  have hd2 := hd1.keeps hkk (by simp)
  have hK2 : Keeps [q, g, r, y] w v2 := (hk1.more (by intro b hb; simp at hb ⊢; omega)).next hkk (by simp)
  have e1 : v2.cell? ⟨q, 1, none⟩ = some (.slice a dl.length c) := hb2.cell 1
  have hqv : q < v2.heap.size := hb2.lt
  have hr6 : v2.rangeAt v1.heap.size 0 [.int .i64 x.k, .int .u8 x.wh, .int .u8 x.st, .int .i64 x.ad, .int .i64 x.ln, .int .i64 x.ar, .bool x.bad] := blk_range [.int .i64 x.k, .int .u8 x.wh, .int .u8 x.st, .int .i64 x.ad, .int .i64 x.ln, .int .i64 x.ar, .bool x.bad] h6
  have hr6d : v2.drew.rangeAt v1.heap.size 0 [.int .i64 x.k, .int .u8 x.wh, .int .u8 x.st, .int .i64 x.ad, .int .i64 x.ln, .int .i64 x.ar, .bool x.bad] := hr6
  have hz3 : v1.heap.size < v2.heap.size := by omega
  have H2 := Lib.hid (And.intro hq2 (And.intro hb2 (And.intro hd2 hK2)))
  clear hq1 hk1 hb1 hd1 hk6 hkk hq2 hb2 hd2 hK2 h6
  go_wp2
  refine wp_region_held_drew (S := (fun V => True ∧ V.rangeAt v1.heap.size 0 [.int .i64 x.k, .int .u8 x.wh, .int .u8 x.st, .int .i64 x.ad, .int .i64 x.ln, .int .i64 x.ar, .bool x.bad] ∧ True)) (by kernel_rfl) ⟨trivial, hr6d, trivial⟩ (fun hHeld => ?_)
  refine' wpAnyH_take (i := 0) (oi := _) (v := _) ?hX0 (by kernel_rfl) (by kernel_rfl) (by kernel_rfl) ?hQX0 (Or.inl ⟨?hwX0, ?hyX0⟩) hHeld ?restX0
  case hX0 => (simp only [List.getElem?_toArray, List.getElem?_cons_zero]; rfl)
  case hQX0 => exact fun _ _ _ h => h
  case hwX0 => rfl
  case hyX0 => (intro w hSw; (try dsimp only at hSw); go_simp; try with_reducible rfl)
  try simp only [Act.put, List.setIfInBounds_toArray, List.set_cons_zero, List.set_cons_succ]
  refine' wpAnyH_take (i := 1) (oi := _) (v := _) ?hX1 (by kernel_rfl) (by kernel_rfl) (by kernel_rfl) ?hQX1 (Or.inl ⟨?hwX1, ?hyX1⟩) hHeld ?restX1
  case hX1 => (simp only [List.getElem?_toArray, List.getElem?_cons_succ, List.getElem?_cons_zero]; rfl)
  case hQX1 => exact fun _ _ _ h => h
  case hwX1 => rfl
  case hyX1 => (intro w hSw; (try dsimp only at hSw); go_simp; try with_reducible rfl)
  try simp only [Act.put, List.setIfInBounds_toArray, List.set_cons_zero, List.set_cons_succ]
  refine' wpAnyH_take (i := 2) (oi := _) (v := _) ?hX2 (by kernel_rfl) (by kernel_rfl) (by kernel_rfl) ?hQX2 (Or.inl ⟨?hwX2, ?hyX2⟩) hHeld ?restX2
  case hX2 => (simp only [List.getElem?_toArray, List.getElem?_cons_succ, List.getElem?_cons_zero]; rfl)
  case hQX2 => exact fun _ _ _ h => h
  case hwX2 => rfl
  case hyX2 => (intro w hSw; (try dsimp only at hSw); go_simp; try with_reducible rfl)
  try simp only [Act.put, List.setIfInBounds_toArray, List.set_cons_zero, List.set_cons_succ]
  refine' wpAnyH_take (i := 3) (oi := _) (v := _) ?hX3 (by kernel_rfl) (by kernel_rfl) (by kernel_rfl) ?hQX3 (Or.inl ⟨?hwX3, ?hyX3⟩) hHeld ?restX3
  case hX3 => (simp only [List.getElem?_toArray, List.getElem?_cons_succ, List.getElem?_cons_zero]; rfl)
  case hQX3 => exact fun _ _ _ h => h
  case hwX3 => rfl
  case hyX3 => (intro w hSw; (try dsimp only at hSw); go_simp; try with_reducible rfl)
  try simp only [Act.put, List.setIfInBounds_toArray, List.set_cons_zero, List.set_cons_succ]
  refine' wpAnyH_take (i := 5) (oi := _) (v := .agg #[.int .i64 x.k, .int .u8 x.wh, .int .u8 x.st, .int .i64 x.ad, .int .i64 x.ln, .int .i64 x.ar, .bool x.bad]) ?hX5 (by kernel_rfl) (by kernel_rfl) (by kernel_rfl) ?hQX5 ?hyX5 hHeld ?restX5
  case hX5 => (simp only [List.getElem?_toArray, List.getElem?_cons_succ, List.getElem?_cons_zero]; rfl)
  case hQX5 => exact fun _ _ _ h => h
  case hyX5 => (apply yieldsIf_load_mid (b := v1.heap.size) (o := 0) (cs := [.int .i64 x.k, .int .u8 x.wh, .int .u8 x.st, .int .i64 x.ad, .int .i64 x.ln, .int .i64 x.ar, .bool x.bad]); (case hw => rfl); (case ho => rfl); (case hx => rfl); (case hS => exact fun _ h => h.2.1); (case hu => exact Try.underlying30); (case hd => rfl); (case hi => exact info_sz))
  try simp only [Act.put, List.setIfInBounds_toArray, List.set_cons_zero, List.set_cons_succ]
  refine' wpAnyH_take (i := 6) (oi := _) (v := _) ?hX6 (by kernel_rfl) (by kernel_rfl) (by kernel_rfl) ?hQX6 (Or.inl ⟨?hwX6, ?hyX6⟩) hHeld ?restX6
  case hX6 => (simp only [List.getElem?_toArray, List.getElem?_cons_succ, List.getElem?_cons_zero]; rfl)
  case hQX6 => exact fun _ _ _ h => h
  case hwX6 => rfl
  case hyX6 => (intro w hSw; (try dsimp only at hSw); go_simp; try with_reducible rfl)
  try simp only [Act.put, List.setIfInBounds_toArray, List.set_cons_zero, List.set_cons_succ]
  refine' wpAnyH_take (i := 7) (oi := _) (v := _) ?hX7 (by kernel_rfl) (by kernel_rfl) (by kernel_rfl) ?hQX7 (Or.inl ⟨?hwX7, ?hyX7⟩) hHeld ?restX7
  case hX7 => (simp only [List.getElem?_toArray, List.getElem?_cons_succ, List.getElem?_cons_zero]; rfl)
  case hQX7 => exact fun _ _ _ h => h
  case hwX7 => rfl
  case hyX7 => (intro w hSw; (try dsimp only at hSw); go_simp; try with_reducible rfl)
  try simp only [Act.put, List.setIfInBounds_toArray, List.set_cons_zero, List.set_cons_succ]
  refine' wpAnyH_take (i := 8) (oi := _) (v := _) ?hX8 (by kernel_rfl) (by kernel_rfl) (by kernel_rfl) ?hQX8 (Or.inl ⟨?hwX8, ?hyX8⟩) hHeld ?restX8
  case hX8 => (simp only [List.getElem?_toArray, List.getElem?_cons_succ, List.getElem?_cons_zero]; rfl)
  case hQX8 => exact fun _ _ _ h => h
  case hwX8 => rfl
  case hyX8 => (intro w hSw; (try dsimp only at hSw); go_simp; try with_reducible rfl)
  try simp only [Act.put, List.setIfInBounds_toArray, List.set_cons_zero, List.set_cons_succ]
  refine wpAnyH_ready (rs := [4, 9]) (by kernel_rfl) (by simp) ?_
  refine AllReadyH.cons rfl (fun K hK => ?_) (AllReadyH.cons rfl (fun K hK => ?_) AllReadyH.nil)
  · go_simp
    refine hK.out _ _ (hHeld) (fun hHeld' => ?_)
    clear hK K hHeld
    have hHeld := hHeld'
    clear hHeld'
    try simp only [Act.put, List.setIfInBounds_toArray, List.set_cons_zero, List.set_cons_succ]
    refine wpAnyH_ready (rs := [9]) (by kernel_rfl) (by simp) ?_
    refine AllReadyH.cons rfl (fun K hK => ?_) AllReadyH.nil
    go_simp
    refine hK.out _ _ (⟨trivial, range_keep hr6 (((Keeps.refl [] v2).alloc _).drew) hz3 (by simp), trivial⟩) (fun hHeld' => ?_)
    clear hK K hHeld
    have hHeld := hHeld'
    clear hHeld'
    try simp only [Act.put, List.setIfInBounds_toArray, List.set_cons_zero, List.set_cons_succ]
    refine wpAnyH_ready (rs := [10]) (by kernel_rfl) (by simp) ?_
    refine' AllReadyH.cons (o := _) ?hoU10 (fun K hK => ?stU10) AllReadyH.nil
    case hoU10 => (simp only [List.getElem?_toArray, List.getElem?_cons_succ, List.getElem?_cons_zero]; rfl)
    rw [if_pos (by rfl)]
    refine wp_append_any _ (.tmp 20) (.tmp 25) 39 rfl 0 42 i0 _ 9 64 Try.underlying39 HI.out.1 HI.out.2.1 HI.out.2.2.1 HI.out.2.2.2 rfl (by decide) (.slice a dl.length c) dl.length _ rfl (ownsRow_keeps H2.out.2.2.1.own (((Keeps.refl [] v2).alloc (.cells #[.int .i64 x.k, .int .u8 x.wh, .int .u8 x.st, .int .i64 x.ad, .int .i64 x.ln, .int .i64 x.ar, .bool x.bad, .int .i64 st, .int .i64 n] 42)).drew) (by simp)) _ _ 1 1 (clc ⟨x, st, n⟩) rfl (reads_cl v2 ⟨x, st, n⟩).drew (clc_all _) (by simp only [maxLen]; omega) (by omega) (by simp) ?_
    intro vv w2 hown hg2 hat2
    obtain ⟨p2, c2, rfl⟩ := own_form hown
    have hkw : Keeps [y] v2 w2 := (((Keeps.refl [y] v2).alloc (.cells #[.int .i64 x.k, .int .u8 x.wh, .int .u8 x.st, .int .i64 x.ad, .int .i64 x.ln, .int .i64 x.ar, .bool x.bad, .int .i64 st, .int .i64 n] 42)).drew).grown hg2 (fun k e => .inl (by have := H2.out.2.2.1.blk k e; simp [this]))
    have hbw := ((H2.out.2.1.alloc (.cells #[.int .i64 x.k, .int .u8 x.wh, .int .u8 x.st, .int .i64 x.ad, .int .i64 x.ln, .int .i64 x.ar, .bool x.bad, .int .i64 st, .int .i64 n] 42)).drew).grown hg2 (fun e => own_blk_ne (ownsRow_keeps H2.out.2.2.1.own (((Keeps.refl [] v2).alloc (.cells #[.int .i64 x.k, .int .u8 x.wh, .int .u8 x.st, .int .i64 x.ad, .int .i64 x.ln, .int .i64 x.ar, .bool x.bad, .int .i64 st, .int .i64 n] 42)).drew) (by simp)) ((H2.out.2.1.alloc (.cells #[.int .i64 x.k, .int .u8 x.wh, .int .u8 x.st, .int .i64 x.ad, .int .i64 x.ln, .int .i64 x.ar, .bool x.bad, .int .i64 st, .int .i64 n] 42)).drew) (by decide) e.symm)
    have hqf := hbw.frozen
    have hqc := hbw.cell 1
    refine hK.out _ _ (⟨trivial, range_keep hr6 hkw hz3 (by simp; omega), trivial⟩) (fun hHeld' => ?_)
    clear hK K hHeld
    have hHeld := hHeld'
    clear hHeld'
    try simp only [Act.put, List.setIfInBounds_toArray, List.set_cons_zero, List.set_cons_succ]
    refine' wpAnyH_take (i := 11) (oi := _) (v := _) ?hU11 (by kernel_rfl) (by kernel_rfl) (by kernel_rfl) ?hQU11 (Or.inl ⟨?hwU11, ?hyU11⟩) hHeld ?restU11
    case hU11 => (simp only [List.getElem?_toArray, List.getElem?_cons_succ, List.getElem?_cons_zero]; rfl)
    case hQU11 => exact fun _ _ _ h => h
    case hwU11 => rfl
    case hyU11 => (intro w hSw; (try dsimp only at hSw); go_simp; try with_reducible rfl)
    try simp only [Act.put, List.setIfInBounds_toArray, List.set_cons_zero, List.set_cons_succ]
    refine' wpAnyH_take (i := 12) (oi := _) (v := _) ?hU12 (by kernel_rfl) (by kernel_rfl) (by kernel_rfl) ?hQU12 (Or.inl ⟨?hwU12, ?hyU12⟩) hHeld ?restU12
    case hU12 => (simp only [List.getElem?_toArray, List.getElem?_cons_succ, List.getElem?_cons_zero]; rfl)
    case hQU12 => exact fun _ _ _ h => h
    case hwU12 => rfl
    case hyU12 => (intro w hSw; (try dsimp only at hSw); go_simp; try with_reducible rfl)
    try simp only [Act.put, List.setIfInBounds_toArray, List.set_cons_zero, List.set_cons_succ]
    refine wpAnyH_ready (rs := [13]) (by kernel_rfl) (by simp) ?_
    refine AllReadyH.cons rfl (fun K hK => ?_) AllReadyH.nil
    go_simp
    refine hK.out _ _ (⟨trivial, range_keep hr6 ((hkw.more (T := [y, q]) (by simp)).setCell (p := ⟨q, 1, none⟩) (by simp) _) hz3 (by simp; omega), trivial⟩) (fun hHeld' => ?_)
    clear hK K hHeld
    have hHeld := hHeld'
    clear hHeld'
    try simp only [Act.put, List.setIfInBounds_toArray, List.set_cons_zero, List.set_cons_succ]
    refine wpAnyH_done (by kernel_rfl) ?_ _
    clear hHeld
    go_wp2
    go_end0
    refine ⟨rfl, ?_⟩
    exact close_fin H2.out.1 H2.out.2.2.1 H2.out.2.2.2 hbw hown hkw hat2 (by simp; omega) hqg hqr hyg hyr hhl hhm l2 l3
  · go_simp
    refine hK.out _ _ (⟨trivial, range_keep hr6 (((Keeps.refl [] v2).alloc _).drew) hz3 (by simp), trivial⟩) (fun hHeld' => ?_)
    clear hK K hHeld
    have hHeld := hHeld'
    clear hHeld'
    try simp only [Act.put, List.setIfInBounds_toArray, List.set_cons_zero, List.set_cons_succ]
    have e9 : ((v2.alloc (.cells #[.int .i64 x.k, .int .u8 x.wh, .int .u8 x.st, .int .i64 x.ad, .int .i64 x.ln, .int .i64 x.ar, .bool x.bad, .int .i64 st, .int .i64 n] 42)).drew).cell? ⟨q, 1, none⟩ = some (.slice a dl.length c) := ((((Keeps.refl [] v2).alloc _).drew).cell (p := ⟨q, 1, none⟩) hqv (by simp)).trans e1
    refine wpAnyH_ready (rs := [4]) (by kernel_rfl) (by simp) ?_
    refine AllReadyH.cons rfl (fun K hK => ?_) AllReadyH.nil
    go_simp
    refine hK.out _ _ (hHeld) (fun hHeld' => ?_)
    clear hK K hHeld
    have hHeld := hHeld'
    clear hHeld'
    try simp only [Act.put, List.setIfInBounds_toArray, List.set_cons_zero, List.set_cons_succ]
    refine wpAnyH_ready (rs := [10]) (by kernel_rfl) (by simp) ?_
    refine' AllReadyH.cons (o := _) ?hoV10 (fun K hK => ?stV10) AllReadyH.nil
    case hoV10 => (simp only [List.getElem?_toArray, List.getElem?_cons_succ, List.getElem?_cons_zero]; rfl)
    rw [if_pos (by rfl)]
    refine wp_append_any _ (.tmp 20) (.tmp 25) 39 rfl 0 42 i0 _ 9 64 Try.underlying39 HI.out.1 HI.out.2.1 HI.out.2.2.1 HI.out.2.2.2 rfl (by decide) (.slice a dl.length c) dl.length _ rfl (ownsRow_keeps H2.out.2.2.1.own (((Keeps.refl [] v2).alloc (.cells #[.int .i64 x.k, .int .u8 x.wh, .int .u8 x.st, .int .i64 x.ad, .int .i64 x.ln, .int .i64 x.ar, .bool x.bad, .int .i64 st, .int .i64 n] 42)).drew) (by simp)) _ _ 1 1 (clc ⟨x, st, n⟩) rfl (reads_cl v2 ⟨x, st, n⟩).drew (clc_all _) (by simp only [maxLen]; omega) (by omega) (by simp) ?_
    intro vv w2 hown hg2 hat2
    obtain ⟨p2, c2, rfl⟩ := own_form hown
    have hkw : Keeps [y] v2 w2 := (((Keeps.refl [y] v2).alloc (.cells #[.int .i64 x.k, .int .u8 x.wh, .int .u8 x.st, .int .i64 x.ad, .int .i64 x.ln, .int .i64 x.ar, .bool x.bad, .int .i64 st, .int .i64 n] 42)).drew).grown hg2 (fun k e => .inl (by have := H2.out.2.2.1.blk k e; simp [this]))
    have hbw := ((H2.out.2.1.alloc (.cells #[.int .i64 x.k, .int .u8 x.wh, .int .u8 x.st, .int .i64 x.ad, .int .i64 x.ln, .int .i64 x.ar, .bool x.bad, .int .i64 st, .int .i64 n] 42)).drew).grown hg2 (fun e => own_blk_ne (ownsRow_keeps H2.out.2.2.1.own (((Keeps.refl [] v2).alloc (.cells #[.int .i64 x.k, .int .u8 x.wh, .int .u8 x.st, .int .i64 x.ad, .int .i64 x.ln, .int .i64 x.ar, .bool x.bad, .int .i64 st, .int .i64 n] 42)).drew) (by simp)) ((H2.out.2.1.alloc (.cells #[.int .i64 x.k, .int .u8 x.wh, .int .u8 x.st, .int .i64 x.ad, .int .i64 x.ln, .int .i64 x.ar, .bool x.bad, .int .i64 st, .int .i64 n] 42)).drew) (by decide) e.symm)
    have hqf := hbw.frozen
    have hqc := hbw.cell 1
    refine hK.out _ _ (⟨trivial, range_keep hr6 hkw hz3 (by simp; omega), trivial⟩) (fun hHeld' => ?_)
    clear hK K hHeld
    have hHeld := hHeld'
    clear hHeld'
    try simp only [Act.put, List.setIfInBounds_toArray, List.set_cons_zero, List.set_cons_succ]
    refine' wpAnyH_take (i := 11) (oi := _) (v := _) ?hV11 (by kernel_rfl) (by kernel_rfl) (by kernel_rfl) ?hQV11 (Or.inl ⟨?hwV11, ?hyV11⟩) hHeld ?restV11
    case hV11 => (simp only [List.getElem?_toArray, List.getElem?_cons_succ, List.getElem?_cons_zero]; rfl)
    case hQV11 => exact fun _ _ _ h => h
    case hwV11 => rfl
    case hyV11 => (intro w hSw; (try dsimp only at hSw); go_simp; try with_reducible rfl)
    try simp only [Act.put, List.setIfInBounds_toArray, List.set_cons_zero, List.set_cons_succ]
    refine' wpAnyH_take (i := 12) (oi := _) (v := _) ?hV12 (by kernel_rfl) (by kernel_rfl) (by kernel_rfl) ?hQV12 (Or.inl ⟨?hwV12, ?hyV12⟩) hHeld ?restV12
    case hV12 => (simp only [List.getElem?_toArray, List.getElem?_cons_succ, List.getElem?_cons_zero]; rfl)
    case hQV12 => exact fun _ _ _ h => h
    case hwV12 => rfl
    case hyV12 => (intro w hSw; (try dsimp only at hSw); go_simp; try with_reducible rfl)
    try simp only [Act.put, List.setIfInBounds_toArray, List.set_cons_zero, List.set_cons_succ]
    refine wpAnyH_ready (rs := [13]) (by kernel_rfl) (by simp) ?_
    refine AllReadyH.cons rfl (fun K hK => ?_) AllReadyH.nil
    go_simp
    refine hK.out _ _ (⟨trivial, range_keep hr6 ((hkw.more (T := [y, q]) (by simp)).setCell (p := ⟨q, 1, none⟩) (by simp) _) hz3 (by simp; omega), trivial⟩) (fun hHeld' => ?_)
    clear hK K hHeld
    have hHeld := hHeld'
    clear hHeld'
    try simp only [Act.put, List.setIfInBounds_toArray, List.set_cons_zero, List.set_cons_succ]
    refine wpAnyH_done (by kernel_rfl) ?_ _
    clear hHeld
    go_wp2
    go_end0
    refine ⟨rfl, ?_⟩
    exact close_fin H2.out.1 H2.out.2.2.1 H2.out.2.2.2 hbw hown hkw hat2 (by simp; omega) hqg hqr hyg hyr hhl hhm l2 l3
end Qp
end Go.Proofs.Ytaepcedcjhliaaa
