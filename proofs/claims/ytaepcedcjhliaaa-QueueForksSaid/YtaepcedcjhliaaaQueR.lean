/- A deed on both queues: all that is done is posted. -/
import Derived.Test.YtaepcedcjhliaaaQueP
namespace Go.Proofs.Ytaepcedcjhliaaa
open Go.RowKit
namespace Qp
open Sm FiT
theorem rf_clear {w : World} {F : List Nat} {l : List It} {dl : List Cl} {lim : Int} {a p : Option Addr} {c d : Nat} {u : Value} (h : Rf w F (.agg #[.slice a l.length c, u, .int .i64 lim]) l dl lim) : Rf w F (.agg #[.slice a l.length c, .slice p 0 d, .int .i64 lim]) l [] lim := by
  obtain ⟨a', c', b', d', hv, ha, _, hc⟩ := h
  injection hv with hv
  injection hv with hv
  injection hv with e1 hv
  injection e1 with e1 _ e2
  subst e1 e2
  exact ⟨a, c, p, d, rfl, ha, ⟨rfl, fun h => absurd h (by simp)⟩, hc⟩
theorem rf_done {w : World} {F : List Nat} {l : List It} {dl : List Cl} {lim : Int} {b : Option Addr} {n d : Nat} {u v : Value} (h : Rf w F (.agg #[u, .slice b n d, v]) l dl lim) : Rd w F b dl.length (flat dl) := by
  obtain ⟨a', c', b', d', hv, _, hb, _⟩ := h
  injection hv with hv
  injection hv with hv
  injection hv with _ hv
  injection hv with e1 hv
  injection e1 with e1
  subst e1
  exact hb
theorem cl_parts {w : World} {b o : Nat} {x : Cl} (h : w.rangeAt b o (clc x)) : w.rangeAt b o (cs x.it) ∧ w.cell? ⟨b, o + 7, none⟩ = some (.int .i64 x.st) ∧ w.cell? ⟨b, o + 8, none⟩ = some (.int .i64 x.n) := by
  refine ⟨fun j v hv => h j v ?_, h 7 _ rfl, h 8 _ rfl⟩
  have hj : j < (cs x.it).length := (List.getElem?_eq_some_iff.1 hv).1
  rw [clc, List.getElem?_append_left hj]
  exact hv
theorem lst_at {w : World} {q y c : Nat} {a : Option Addr} {D : List Cl} (h : Lst w q y a c D) (j : Nat) (x : Cl) (hx : D[j]? = some x) : a = some ⟨y, 0, none⟩ ∧ y < w.heap.size ∧ w.rangeAt y (j * 9) (clc x) := by
  have h0 : 0 < D.length := by have := (List.getElem?_eq_some_iff.1 hx).1; omega
  obtain ⟨e, hl, hc⟩ := h.cells h0
  exact ⟨e, hl, fun i v hv => hc j x hx i v hv⟩
theorem one_cl (x : Cl) : (⟨x.it, x.st, x.n⟩ : Cl) = x := rfl
attribute [local irreducible] cs clc dcl setL setD

set_option maxRecDepth 100000 in
set_option maxHeartbeats 2000000 in
theorem step_post {q g r y c : Nat} {a : Option Addr} {l : List It} {dl : List Cl} {lim : Int} (d : Int) (hd0 : (d == 0) = false) (hd1 : (d == 1) = false) (hd2 : (d == 2) = false) (hd3 : (d == 3) = false) (x : It) (st n : Int) (v : Value) (w : World) (hq : Qe w q g r y a c l dl lim) (hx : Rf w [q, g, r, y] v l dl lim)  :
    Calls Try.prog 15 #[.pointer (some ⟨q, 0, none⟩), v, .agg (dcl d x st n).toArray] w (IsStep q g r y lim w) := by
  have hl := hq.lt
  have hhl := hq.hl
  have hhm := hq.hm
  have HX := Lib.hid hx
  obtain ⟨a1, c1, b1, e1, rfl, _, _, _⟩ := hx
  have hb0 : Hb w _ q g r y (.slice a1 l.length c1) (.slice b1 dl.length e1) (.int .i64 lim) d x st n := head_of hl
  have hkV : Keeps [] w (((w.alloc (.cells #[.slice a1 l.length c1, .slice b1 dl.length e1, .int .i64 lim] 47)).alloc (.cells (dcl d x st n).toArray 32)).alloc (.cells #[.slice none 0 0, .slice none 0 0, .int .i64 0] 47)) := (((Keeps.refl _ w).alloc _).alloc _).alloc _
  have hxV := (HX.out.more (G := [w.heap.size + 1 + 1, q, g, r, y]) (by intro z hz; simp only [List.mem_cons] at hz ⊢; rcases hz with rfl | hz; exact .inr (by omega); exact .inl (by simpa using hz))).kp hkV
  have hqV := hq.kp hkV
  clear hq HX
  go_enter Try.func15, Try.ntmps15
  go_upto_region 1 with fail
  generalize ((w.alloc (.cells #[.slice a1 l.length c1, .slice b1 dl.length e1, .int .i64 lim] 47)).alloc (.cells (dcl d x st n).toArray 32)).alloc (.cells #[.slice none 0 0, .slice none 0 0, .int .i64 0] 47) = V at *
  have hz6 : w.heap.size + 3 ≤ V.heap.size := by have := hb0.b6.lt; omega
  have d0 := hb0.d0
  obtain ⟨q0, q1, q2⟩ := hb0.cq
  have hFb : ∀ z ∈ [w.heap.size + 1 + 1, q, g, r, y], z < V.heap.size := by intro z hz; simp at hz; omega
  go_wp2_with fail
  refine (rsettle_any lim l _ dl _ _ hxV hFb (by omega)).mono ?_
  rintro e V1 ⟨v2, rfl, hx2, k1⟩
  skip
  have hxk := hx2
  obtain ⟨a2, c2, b2, e2, rfl, _, _, _⟩ := hx2
  try rw [show (x1 :: t1).length = t1.length + 1 from rfl] at hxk ⊢
  dsimp only
  have k2 : Keeps [] V (V1.alloc (.cells #[.slice a2 (setL l).length c2, .slice b2 (setD l dl).length e2, .int .i64 lim] 47)) := k1.alloc _
  have hB8 : Blk (V1.alloc (.cells #[.slice a2 (setL l).length c2, .slice b2 (setD l dl).length e2, .int .i64 lim] 47)) V1.heap.size 47 #[.slice a2 (setL l).length c2, .slice b2 (setD l dl).length e2, .int .i64 lim] := Blk.new _ _ _
  have hx3 := hxk.kp ((Keeps.refl [] V1).alloc (.cells #[.slice a2 (setL l).length c2, .slice b2 (setD l dl).length e2, .int .i64 lim] 47))
  have hx9 := (hxk.more (G := [V1.heap.size, w.heap.size + 1 + 1, q, g, r, y]) (by intro z hz; simp at hz ⊢; omega)).kp ((Keeps.refl [] V1).alloc (.cells #[.slice a2 (setL l).length c2, .slice b2 (setD l dl).length e2, .int .i64 lim] 47))
  have hqV := hqV.kp k2
  have hkV := hkV.trans k2
  have hb1 := hb0.kk k2
  have hz9 := Nat.le_trans hz6 k1.size
  clear hxk hxV k1 k2 hb0 d0 q0 q1 q2
  go_wp2_with fail
  generalize V1.alloc (.cells #[.slice a2 (setL l).length c2, .slice b2 (setD l dl).length e2, .int .i64 lim] 47) = V2 at *
  generalize V1.heap.size = p8 at *
  clear hz6
  refine (post_q _ hqV).mono ?_
  rintro e V3 ⟨am, cm, yy, rfl, hlst, _, _, r', hq3, hkt, hr3, _, _⟩
  have hto : To q g r y (setL l) [] lim V2 V3 := ⟨r', q, none, 0, hq3, hkt, hr3, .inr (.inl rfl)⟩
  have hb2 := hb1.keeps hkt
  have hp8 : p8 < V2.heap.size := hB8.lt
  have hB2 := hB8.keeps hkt (by simp; omega)
  have hdone := (rf_done hx3).keeps hkt (by simp)
  have hDl : (setD l dl).length ≤ 16 := by have := set_tot l dl; omega
  obtain ⟨s0, s1, s2⟩ := blkq hB2
  have HTO := Lib.hid hto
  have HB := Lib.hid (And.intro hb2 hB2)
  have HX9 := Lib.hid hx9
  have HLS := Lib.hid hlst
  have HDN := Lib.hid hdone
  have hp9 : w.heap.size + 1 + 1 < V3.heap.size := hb2.b6.lt
  have hp10 : p8 < V3.heap.size := hB2.lt
  clear hb1 hq3 hlst hdone hto hx3 hx9 hqV hb2 hB2
  generalize hDD : setD l dl = D at *
  clear hDD
  have hkV3 : w.heap.size ≤ V3.heap.size := by omega
  go_wp2_with fail
  go_loopw [19, 20] (fun s i wx => ∃ j : Nat, j ≤ D.length ∧ i = .int .i64 j ∧ s = .bool true ∧ Keeps [] V3 wx) (fun _ i _ => D.length - (intOf i).toNat)
  case atStart => exact ⟨0, by omega, rfl, rfl, Keeps.refl _ _⟩
  case round =>
    obtain ⟨j, hjD, rfl, rfl, hkr⟩ := hrel
    clear s0 s1 s2
    have hB2 := HB.out.2.keeps hkr (by simp)
    obtain ⟨s0, s1, s2⟩ := blkq hB2
    by_cases hj : j < D.length
    · obtain ⟨xj, hxj⟩ : ∃ xj, D[j]? = some xj := ⟨_, List.getElem?_eq_getElem hj⟩
      obtain ⟨rfl, hyl, hry⟩ := lst_at HLS.out j xj hxj
      obtain ⟨db, rfl, hdl, _, hrd⟩ := HDN.out.at_ j xj hxj
      have hryr := hry.keepz hkr hyl (by simp)
      have hrdr := hrd.keepz hkr hdl (by simp)
      have hylr := Nat.lt_of_lt_of_le hyl hkr.size
      have hdlr := Nat.lt_of_lt_of_le hdl hkr.size
      obtain ⟨hcs, _, _⟩ := cl_parts hryr
      have hj0 : (0 : Int) ≤ (j : Int) := by omega
      have hj1 : (j : Int) < (D.length : Int) := by omega
      have HKR := Lib.hid hkr
      clear hry hrd hkr
      go_wp2_with (refine wpList_load_mid rfl _ _ rfl yy (j * 9) rfl (cs xj.it) _ hcs Try.underlying30 rfl (FiT.info_cs _) ?_)
      refine (item_any xj.it _).mono ?_
      rintro e V4 ⟨rfl, k4⟩
      go_wp2_with (refine wpList_store_cl rfl _ _ rfl V4.heap.size #[.int .i64 0, .int .u8 0, .int .u8 0, .int .i64 0, .int .i64 0, .int .i64 0, .bool false, .int .i64 0, .int .i64 0] (pend xj.it) rfl rfl (Blk.new V4 62 #[.int .i64 0, .int .u8 0, .int .u8 0, .int .i64 0, .int .i64 0, .int .i64 0, .bool false, .int .i64 0, .int .i64 0]) rfl ?_; intro V5 hX5 k5)
      have hk5 : Keeps [] wr V5 := k4.next (((Keeps.refl [] V4).alloc _).next k5 (by simp)) (by simp)
      have hK5 := HKR.out.trans hk5
      have hry5 := hryr.keepz hk5 hylr (by simp)
      have hrd5 := hrdr.keepz hk5 hdlr (by simp)
      have hB5 := hB2.keeps hk5 (by simp)
      have hy5 := Nat.lt_of_lt_of_le hylr hk5.size
      have hd5 := Nat.lt_of_lt_of_le hdlr hk5.size
      have hn1 : V4.heap.size ≠ yy := by have := k4.size; omega
      have hn2 : V4.heap.size ≠ db := by have := k4.size; omega
      have hn3 : V4.heap.size ≠ p8 := by have := k4.size; have := hB2.lt; omega
      have hn4 : V3.heap.size ≤ V4.heap.size := Nat.le_trans HKR.out.size k4.size
      clear k4 k5 hk5 hry5 hryr hrdr hB2 hcs s0 s1 s2
      obtain ⟨_, c7, c8⟩ := cl_parts (HLS.out |> fun h => ((lst_at h j xj hxj).2.2).keepz hK5 hyl (by simp))
      generalize V4.heap.size = p21 at *
      go_wp2_with fail
      have k0 : Keeps [] V5 V5.drew := (Keeps.refl _ _).drew
      have hK5 := hK5.trans k0
      have hB5 := hB5.keeps k0 (by simp)
      have hrd5 := hrd5.keepz k0 hd5 (by simp)
      have hX6 := hX5.keeps k0 (by simp)
      have hy5 := Nat.lt_of_lt_of_le hy5 k0.size
      have hd5 := Nat.lt_of_lt_of_le hd5 k0.size
      have d7 := (k0.cell (p := ⟨yy, j * 9 + 7, none⟩) (by assumption) (by simp)).trans c7
      have d8 := (k0.cell (p := ⟨yy, j * 9 + 8, none⟩) (by assumption) (by simp)).trans c8
      clear k0 hX5 c7 c8
      have c7 := d7
      have c8 := d8
      clear d7 d8
      refine wp_region_held_drew (S := (fun V => V.cell? ⟨yy, j * 9 + 7, none⟩ = some (.int .i64 xj.st) ∧ V.cell? ⟨yy, j * 9 + 8, none⟩ = some (.int .i64 xj.n))) (by kernel_rfl) ⟨c7, c8⟩ (fun hHeld => ?_)
      generalize V5.drew = U1 at *
      refine' wpAnyH_take (i := 0) (oi := _) (v := _) ?hA0 (by kernel_rfl) (by kernel_rfl) (by kernel_rfl) ?hQA0 (Or.inl ⟨?hwA0, ?hyA0⟩) hHeld ?restA0
      case hA0 => (simp only [List.getElem?_toArray, List.getElem?_cons_zero]; rfl)
      case hQA0 => exact fun _ _ _ h => h
      case hwA0 => rfl
      case hyA0 => (intro w hSw; (try dsimp only at hSw); go_simp; try with_reducible rfl)
      try simp only [Act.put, List.setIfInBounds_toArray, List.set_cons_zero, List.set_cons_succ]
      refine' wpAnyH_take (i := 1) (oi := _) (v := _) ?hA1 (by kernel_rfl) (by kernel_rfl) (by kernel_rfl) ?hQA1 (Or.inl ⟨?hwA1, ?hyA1⟩) hHeld ?restA1
      case hA1 => (simp only [List.getElem?_toArray, List.getElem?_cons_succ, List.getElem?_cons_zero]; rfl)
      case hQA1 => exact fun _ _ _ h => h
      case hwA1 => rfl
      case hyA1 => (intro w hSw; (try dsimp only at hSw); go_simp; try with_reducible rfl)
      try simp only [Act.put, List.setIfInBounds_toArray, List.set_cons_zero, List.set_cons_succ]
      refine' wpAnyH_take (i := 2) (oi := _) (v := _) ?hA2 (by kernel_rfl) (by kernel_rfl) (by kernel_rfl) ?hQA2 (Or.inl ⟨?hwA2, ?hyA2⟩) hHeld ?restA2
      case hA2 => (simp only [List.getElem?_toArray, List.getElem?_cons_succ, List.getElem?_cons_zero]; rfl)
      case hQA2 => exact fun _ _ _ h => h
      case hwA2 => rfl
      case hyA2 => (intro w hSw; (try dsimp only at hSw); go_simp; try with_reducible rfl)
      try simp only [Act.put, List.setIfInBounds_toArray, List.set_cons_zero, List.set_cons_succ]
      refine' wpAnyH_take (i := 3) (oi := _) (v := _) ?hA3 (by kernel_rfl) (by kernel_rfl) (by kernel_rfl) ?hQA3 (Or.inl ⟨?hwA3, ?hyA3⟩) hHeld ?restA3
      case hA3 => (simp only [List.getElem?_toArray, List.getElem?_cons_succ, List.getElem?_cons_zero]; rfl)
      case hQA3 => exact fun _ _ _ h => h
      case hwA3 => rfl
      case hyA3 => (intro w hSw; (try dsimp only at hSw); go_simp; try with_reducible rfl)
      try simp only [Act.put, List.setIfInBounds_toArray, List.set_cons_zero, List.set_cons_succ]
      refine' wpAnyH_take (i := 4) (oi := _) (v := _) ?hA4 (by kernel_rfl) (by kernel_rfl) (by kernel_rfl) ?hQA4 (Or.inl ⟨?hwA4, ?hyA4⟩) hHeld ?restA4
      case hA4 => (simp only [List.getElem?_toArray, List.getElem?_cons_succ, List.getElem?_cons_zero]; rfl)
      case hQA4 => exact fun _ _ _ h => h
      case hwA4 => rfl
      case hyA4 => (intro w hSw; (try dsimp only at hSw); go_simp; try with_reducible rfl)
      try simp only [Act.put, List.setIfInBounds_toArray, List.set_cons_zero, List.set_cons_succ]
      refine' wpAnyH_take (i := 5) (oi := _) (v := _) ?hA5 (by kernel_rfl) (by kernel_rfl) (by kernel_rfl) ?hQA5 (Or.inl ⟨?hwA5, ?hyA5⟩) hHeld ?restA5
      case hA5 => (simp only [List.getElem?_toArray, List.getElem?_cons_succ, List.getElem?_cons_zero]; rfl)
      case hQA5 => exact fun _ _ _ h => h
      case hwA5 => rfl
      case hyA5 => (intro w hSw; (try dsimp only at hSw); go_simp; try with_reducible rfl)
      try simp only [Act.put, List.setIfInBounds_toArray, List.set_cons_zero, List.set_cons_succ]
      refine' wpAnyH_take (i := 6) (oi := _) (v := _) ?hA6 (by kernel_rfl) (by kernel_rfl) (by kernel_rfl) ?hQA6 (Or.inl ⟨?hwA6, ?hyA6⟩) hHeld ?restA6
      case hA6 => (simp only [List.getElem?_toArray, List.getElem?_cons_succ, List.getElem?_cons_zero]; rfl)
      case hQA6 => exact fun _ _ _ h => h
      case hwA6 => rfl
      case hyA6 => (intro w hSw; (try dsimp only at hSw); go_simp; try with_reducible rfl)
      try simp only [Act.put, List.setIfInBounds_toArray, List.set_cons_zero, List.set_cons_succ]
      refine' wpAnyH_take (i := 7) (oi := _) (v := _) ?hA7 (by kernel_rfl) (by kernel_rfl) (by kernel_rfl) ?hQA7 (Or.inl ⟨?hwA7, ?hyA7⟩) hHeld ?restA7
      case hA7 => (simp only [List.getElem?_toArray, List.getElem?_cons_succ, List.getElem?_cons_zero]; rfl)
      case hQA7 => exact fun _ _ _ h => h
      case hwA7 => rfl
      case hyA7 => (intro w hSw; (try dsimp only at hSw); go_simp; try with_reducible rfl)
      try simp only [Act.put, List.setIfInBounds_toArray, List.set_cons_zero, List.set_cons_succ]
      refine' wpAnyH_take (i := 8) (oi := _) (v := _) ?hA8 (by kernel_rfl) (by kernel_rfl) (by kernel_rfl) ?hQA8 (Or.inl ⟨?hwA8, ?hyA8⟩) hHeld ?restA8
      case hA8 => (simp only [List.getElem?_toArray, List.getElem?_cons_succ, List.getElem?_cons_zero]; rfl)
      case hQA8 => exact fun _ _ _ h => h
      case hwA8 => rfl
      case hyA8 => (intro w hSw; (try dsimp only at hSw); go_simp; try with_reducible rfl)
      try simp only [Act.put, List.setIfInBounds_toArray, List.set_cons_zero, List.set_cons_succ]
      refine' wpAnyH_take (i := 9) (oi := _) (v := _) ?hA9 (by kernel_rfl) (by kernel_rfl) (by kernel_rfl) ?hQA9 (Or.inl ⟨?hwA9, ?hyA9⟩) hHeld ?restA9
      case hA9 => (simp only [List.getElem?_toArray, List.getElem?_cons_succ, List.getElem?_cons_zero]; rfl)
      case hQA9 => exact fun _ _ _ h => h
      case hwA9 => rfl
      case hyA9 => (intro w hSw; (try dsimp only at hSw); go_simp; try with_reducible rfl)
      try simp only [Act.put, List.setIfInBounds_toArray, List.set_cons_zero, List.set_cons_succ]
      refine' wpAnyH_take (i := 10) (oi := _) (v := _) ?hA10 (by kernel_rfl) (by kernel_rfl) (by kernel_rfl) ?hQA10 (Or.inl ⟨?hwA10, ?hyA10⟩) hHeld ?restA10
      case hA10 => (simp only [List.getElem?_toArray, List.getElem?_cons_succ, List.getElem?_cons_zero]; rfl)
      case hQA10 => exact fun _ _ _ h => h
      case hwA10 => rfl
      case hyA10 => (intro w hSw; (try dsimp only at hSw); go_simp; try with_reducible rfl)
      try simp only [Act.put, List.setIfInBounds_toArray, List.set_cons_zero, List.set_cons_succ]
      have e7 := blk7 hX6
      have e8 := blk8 hX6
      have f21 := hX6.frozen
      refine wpAnyH_ready (rs := [11]) (by kernel_rfl) (by simp) ?_
      refine AllReadyH.cons rfl (fun K hK' => ?_) AllReadyH.nil
      go_simp
      refine hK'.out _ _ (⟨(((Keeps.refl [p21] _).setCell (p := ⟨p21, 7, none⟩) (by simp) _).cell (p := ⟨yy, j * 9 + 7, none⟩) hy5 (by simp; omega)).trans hHeld.1, (((Keeps.refl [p21] _).setCell (p := ⟨p21, 7, none⟩) (by simp) _).cell (p := ⟨yy, j * 9 + 8, none⟩) hy5 (by simp; omega)).trans hHeld.2⟩) (fun hHeld' => ?_)
      clear hK' K hHeld
      have hHeld := hHeld'
      clear hHeld'
      try simp only [Act.put]
      try simp only [Act.put, List.setIfInBounds_toArray, List.set_cons_zero, List.set_cons_succ]
      refine' wpAnyH_take (i := 12) (oi := _) (v := _) ?hA12 (by kernel_rfl) (by kernel_rfl) (by kernel_rfl) ?hQA12 (Or.inl ⟨?hwA12, ?hyA12⟩) hHeld ?restA12
      case hA12 => (simp only [List.getElem?_toArray, List.getElem?_cons_succ, List.getElem?_cons_zero]; rfl)
      case hQA12 => exact fun _ _ _ h => h
      case hwA12 => rfl
      case hyA12 => (intro w hSw; (try dsimp only at hSw); go_simp; try with_reducible rfl)
      try simp only [Act.put, List.setIfInBounds_toArray, List.set_cons_zero, List.set_cons_succ]
      refine wpAnyH_ready (rs := [13]) (by kernel_rfl) (by simp) ?_
      refine AllReadyH.cons rfl (fun K hK' => ?_) AllReadyH.nil
      go_simp
      refine hK'.out _ _ (⟨(((Keeps.refl [p21] _).setCell (p := ⟨p21, 8, none⟩) (by simp) _).cell (p := ⟨yy, j * 9 + 7, none⟩) (by simpa [World.setCell] using hy5) (by simp; omega)).trans hHeld.1, (((Keeps.refl [p21] _).setCell (p := ⟨p21, 8, none⟩) (by simp) _).cell (p := ⟨yy, j * 9 + 8, none⟩) (by simpa [World.setCell] using hy5) (by simp; omega)).trans hHeld.2⟩) (fun hHeld' => ?_)
      clear hK' K hHeld
      have hHeld := hHeld'
      clear hHeld'
      try simp only [Act.put]
      try simp only [Act.put, List.setIfInBounds_toArray, List.set_cons_zero, List.set_cons_succ]
      refine wpAnyH_done (by kernel_rfl) ?_ _
      clear e7 e8 f21
      have hX6 := set8 xj.n (set7 xj.st hX6)
      have hX6 : Blk _ p21 62 (clc xj).toArray := hX6
      have hk6 := keep78 (w := U1) p21 (.int .i64 xj.st) (.int .i64 xj.n)
      have hK6 := hK5.next hk6 (by simp; omega)
      have hB6 := hB5.keeps hk6 (by simp; omega)
      have hrd6 := hrd5.keepz hk6 hd5 (by simp; omega)
      have hd6 : db < ((U1.setCell ⟨p21, 7, none⟩ (.int .i64 xj.st)).setCell ⟨p21, 8, none⟩ (.int .i64 xj.n)).heap.size := by simpa [World.setCell] using hd5
      clear hHeld hB5 hrd5 hK5 hk6 c7 c8
      go_wp2
      generalize ((U1.setCell ⟨p21, 7, none⟩ (.int .i64 xj.st)).setCell ⟨p21, 8, none⟩ (.int .i64 xj.n)) = U2 at *
      have hu2 : Keeps [] U2 U2.drew := (Keeps.refl _ _).drew
      have he9 := eq9 xj
      refine wp_region_held_drew (S := (fun V => V.rangeAt p21 0 (clc xj) ∧ V.cell? ⟨p8, 1, none⟩ = some (.slice (some ⟨db, 0, none⟩) D.length e2) ∧ V.rangeAt db (j * 9) (clc xj))) (by kernel_rfl) ⟨blk_range _ (hX6.keeps hu2 (by simp)), (hB6.keeps hu2 (by simp)).cell 1, hrd6.keepz hu2 hd6 (by simp)⟩ (fun hHeld => ?_)
      refine' wpAnyH_take (i := 0) (oi := _) (v := .agg (clc xj).toArray) ?hB0 (by kernel_rfl) (by kernel_rfl) (by kernel_rfl) ?hQB0 ?hyB0 hHeld ?restB0
      case hB0 => (simp only [List.getElem?_toArray, List.getElem?_cons_zero]; rfl)
      case hQB0 => exact fun _ _ _ h => h
      case hyB0 => exact yieldsIf_load_mid rfl _ _ rfl _ _ rfl (clc xj) _ (fun _ h => h.1) Try.underlying62 rfl (ri_cs xj)
      try simp only [Act.put, List.setIfInBounds_toArray, List.set_cons_zero, List.set_cons_succ]
      refine' wpAnyH_take (i := 1) (oi := _) (v := _) ?hB1 (by kernel_rfl) (by kernel_rfl) (by kernel_rfl) ?hQB1 (Or.inl ⟨?hwB1, ?hyB1⟩) hHeld ?restB1
      case hB1 => (simp only [List.getElem?_toArray, List.getElem?_cons_succ, List.getElem?_cons_zero]; rfl)
      case hQB1 => exact fun _ _ _ h => h
      case hwB1 => rfl
      case hyB1 => (intro w hSw; (try dsimp only at hSw); go_simp; try with_reducible rfl)
      try simp only [Act.put, List.setIfInBounds_toArray, List.set_cons_zero, List.set_cons_succ]
      refine' wpAnyH_take (i := 2) (oi := _) (v := _) ?hB2 (by kernel_rfl) (by kernel_rfl) (by kernel_rfl) ?hQB2 (Or.inl ⟨?hwB2, ?hyB2⟩) hHeld ?restB2
      case hB2 => (simp only [List.getElem?_toArray, List.getElem?_cons_succ, List.getElem?_cons_zero]; rfl)
      case hQB2 => exact fun _ _ _ h => h
      case hwB2 => rfl
      case hyB2 => (intro w hSw; (try dsimp only at hSw); go_simp; try with_reducible rfl)
      try simp only [Act.put, List.setIfInBounds_toArray, List.set_cons_zero, List.set_cons_succ]
      refine' wpAnyH_take (i := 3) (oi := _) (v := _) ?hB3 (by kernel_rfl) (by kernel_rfl) (by kernel_rfl) ?hQB3 (Or.inl ⟨?hwB3, ?hyB3⟩) hHeld ?restB3
      case hB3 => (simp only [List.getElem?_toArray, List.getElem?_cons_succ, List.getElem?_cons_zero]; rfl)
      case hQB3 => exact fun _ _ _ h => h
      case hwB3 => rfl
      case hyB3 => (intro w hSw; (try dsimp only at hSw); go_simp; try with_reducible rfl)
      try simp only [Act.put, List.setIfInBounds_toArray, List.set_cons_zero, List.set_cons_succ]
      refine' wpAnyH_take (i := 4) (oi := _) (v := _) ?hB4 (by kernel_rfl) (by kernel_rfl) (by kernel_rfl) ?hQB4 (Or.inl ⟨?hwB4, ?hyB4⟩) hHeld ?restB4
      case hB4 => (simp only [List.getElem?_toArray, List.getElem?_cons_succ, List.getElem?_cons_zero]; rfl)
      case hQB4 => exact fun _ _ _ h => h
      case hwB4 => rfl
      case hyB4 => (intro w hSw; (try dsimp only at hSw); go_simp; try with_reducible rfl)
      try simp only [Act.put, List.setIfInBounds_toArray, List.set_cons_zero, List.set_cons_succ]
      refine' wpAnyH_take (i := 5) (oi := _) (v := .agg (clc xj).toArray) ?hB5 (by kernel_rfl) (by kernel_rfl) (by kernel_rfl) ?hQB5 ?hyB5 hHeld ?restB5
      case hB5 => (simp only [List.getElem?_toArray, List.getElem?_cons_succ, List.getElem?_cons_zero]; rfl)
      case hQB5 => exact fun _ _ _ h => h
      case hyB5 => exact yieldsIf_load_mid rfl _ _ rfl _ _ rfl (clc xj) _ (fun _ h => h.2.2) Try.underlying62 rfl (ri_cs xj)
      try simp only [Act.put, List.setIfInBounds_toArray, List.set_cons_zero, List.set_cons_succ]
      refine' wpAnyH_take (i := 6) (oi := _) (v := _) ?hB6 (by kernel_rfl) (by kernel_rfl) (by kernel_rfl) ?hQB6 (Or.inl ⟨?hwB6, ?hyB6⟩) hHeld ?restB6
      case hB6 => (simp only [List.getElem?_toArray, List.getElem?_cons_succ, List.getElem?_cons_zero]; rfl)
      case hQB6 => exact fun _ _ _ h => h
      case hwB6 => rfl
      case hyB6 => (intro w hSw; (try dsimp only at hSw); go_simp; try with_reducible rfl)
      try simp only [Act.put, List.setIfInBounds_toArray, List.set_cons_zero, List.set_cons_succ]
      refine' wpAnyH_take (i := 7) (oi := _) (v := _) ?hB7 (by kernel_rfl) (by kernel_rfl) (by kernel_rfl) ?hQB7 (Or.inl ⟨?hwB7, ?hyB7⟩) hHeld ?restB7
      case hB7 => (simp only [List.getElem?_toArray, List.getElem?_cons_succ, List.getElem?_cons_zero]; rfl)
      case hQB7 => exact fun _ _ _ h => h
      case hwB7 => rfl
      case hyB7 => (intro w hSw; (try dsimp only at hSw); go_simp; try with_reducible rfl)
      try simp only [Act.put, List.setIfInBounds_toArray, List.set_cons_zero, List.set_cons_succ]
      refine wpAnyH_done (by kernel_rfl) ?_ _
      clear he9
      have hK7 := hK6.trans hu2
      clear hHeld
      go_wp2
      go_roundw
      case rel => exact ⟨j + 1, by omega, by go_num, rfl, hK7⟩
      case measure => simp [intOf]; omega
    · obtain rfl : j = D.length := by omega
      have hb2 := HB.out.1.kk hkr
      have hf8 := hB2.frozen
      obtain ⟨z0, z1, z2⟩ := hb2.z
      have hfz := hb2.fz
      have hl8 := hB2.lt
      have hl9 := hb2.b6.lt
      have HKR := Lib.hid hkr
      clear hB2 hb2 hkr
      go_wp2
      refine bodyPost_ret (v := .tuple #[.agg #[.slice a2 (setL l).length c2, .slice (some ⟨wr.heap.size, 0, none⟩) 0 0, .int .i64 lim], .bool true]) (by simp [results, Try.results15, go_sem, z0, z1, z2, hl9]) rfl ?_
      have hka : Keeps [p8, w.heap.size + 1 + 1] V3 _ := ((HKR.out.more (T := [p8, w.heap.size + 1 + 1]) (by simp)).trans (((Keeps.refl _ wr).setCell (p := ⟨p8, 1, none⟩) (by simp) (.slice (some ⟨wr.heap.size, 0, none⟩) 0 0)).trans ((keep3 (w.heap.size + 1 + 1) (.slice a2 (setL l).length c2) (.slice (some ⟨wr.heap.size, 0, none⟩) 0 0) (.int .i64 lim)).more (by simp)))).alloc (.cells #[] 62)
      have hxc := rf_clear (p := some ⟨wr.heap.size, 0, none⟩) (d := 0) HX9.out
      exact step_endS hl hkV (hxc.more (by intro z hz; simp at hz ⊢; omega)) HTO.out hka (by intro b hb; simp at hb; omega) (hxc.more (by intro z hz; simp at hz ⊢; omega))

end Qp
end Go.Proofs.Ytaepcedcjhliaaa
