/- A deed on both queues: the first one is asked for; it is finished. -/
import Derived.Test.YtaepcedcjhliaaaQueO
namespace Go.Proofs.Ytaepcedcjhliaaa
open Go.RowKit
namespace Qp
open Sm FiT
theorem eq9 (X : Cl) (w : World) : (binOp .eql 62 (.agg (clc X).toArray) (.agg (clc X).toArray)).run Try.prog w = .ok (.bool true) w := by
  obtain ⟨⟨k, wh, st, ad, ln, ar, bad⟩, s, n⟩ := X
  show (binOp .eql 62 (.agg #[.int .i64 k, .int .u8 wh, .int .u8 st, .int .i64 ad, .int .i64 ln, .int .i64 ar, .bool bad, .int .i64 s, .int .i64 n]) (.agg #[.int .i64 k, .int .u8 wh, .int .u8 st, .int .i64 ad, .int .i64 ln, .int .i64 ar, .bool bad, .int .i64 s, .int .i64 n])).run Try.prog w = _
  simp [go_sem]
theorem eqz (w : World) : (binOp .eql 30 (.agg (cs z).toArray) (.agg #[.int .i64 0, .int .u8 0, .int .u8 0, .int .i64 0, .int .i64 0, .int .i64 0, .bool false])).run Try.prog w = .ok (.bool true) w := by kernel_rfl
theorem rf_head {w : World} {F : List Nat} {x : It} {l : List It} {dl : List Cl} {lim : Int} {a : Option Addr} {n c : Nat} {u : Value} (h : Rf w F (.agg #[.slice a n c, u, .int .i64 lim]) (x :: l) dl lim) : ∃ ab, a = some ⟨ab, 0, none⟩ ∧ ab < w.heap.size ∧ ab ∉ F ∧ w.rangeAt ab 0 (clc (pend x)) := by
  obtain ⟨a', c', b', d', hv, ha, _, _⟩ := h
  injection hv with hv
  injection hv with hv
  injection hv with e1 hv
  injection e1 with e1
  subst e1
  obtain ⟨ab, e, h1, h2, h3⟩ := ha.at_ 0 (pend x) rfl
  exact ⟨ab, e, h1, h2, by rwa [Nat.zero_mul] at h3⟩
attribute [local irreducible] cs clc dcl setL setD

set_option maxRecDepth 100000 in
set_option maxHeartbeats 2000000 in
theorem step_head_nil {q g r y c : Nat} {a : Option Addr} {l : List It} {dl : List Cl} {lim : Int} (x : It) (st n : Int) (v : Value) (w : World) (hq : Qe w q g r y a c l dl lim) (hx : Rf w [q, g, r, y] v l dl lim) (hl1 : setL l = []) :
    Calls Try.prog 15 #[.pointer (some ⟨q, 0, none⟩), v, .agg (dcl 2 x st n).toArray] w (IsStep q g r y lim w) := by
  have hl := hq.lt
  have hhl := hq.hl
  have hhm := hq.hm
  have HX := Lib.hid hx
  obtain ⟨a1, c1, b1, e1, rfl, _, _, _⟩ := hx
  have hb0 : Hb w _ q g r y (.slice a1 l.length c1) (.slice b1 dl.length e1) (.int .i64 lim) 2 x st n := head_of hl
  have hkV : Keeps [] w (((w.alloc (.cells #[.slice a1 l.length c1, .slice b1 dl.length e1, .int .i64 lim] 47)).alloc (.cells (dcl 2 x st n).toArray 32)).alloc (.cells #[.slice none 0 0, .slice none 0 0, .int .i64 0] 47)) := (((Keeps.refl _ w).alloc _).alloc _).alloc _
  have hxV := (HX.out.more (G := [w.heap.size + 1 + 1, q, g, r, y]) (by intro z hz; simp only [List.mem_cons] at hz ⊢; rcases hz with rfl | hz; exact .inr (by omega); exact .inl (by simpa using hz))).kp hkV
  have hqV := hq.kp hkV
  clear hq HX
  go_enter Try.func15, Try.ntmps15
  go_upto_region 1 with fail
  generalize ((w.alloc (.cells #[.slice a1 l.length c1, .slice b1 dl.length e1, .int .i64 lim] 47)).alloc (.cells (dcl 2 x st n).toArray 32)).alloc (.cells #[.slice none 0 0, .slice none 0 0, .int .i64 0] 47) = V at *
  have hz6 : w.heap.size + 3 ≤ V.heap.size := by have := hb0.b6.lt; omega
  have d0 := hb0.d0
  obtain ⟨q0, q1, q2⟩ := hb0.cq
  have hFb : ∀ z ∈ [w.heap.size + 1 + 1, q, g, r, y], z < V.heap.size := by intro z hz; simp at hz; omega
  go_wp2_with fail
  refine (rsettle_any lim l _ dl _ _ hxV hFb (by omega)).mono ?_
  rintro e V1 ⟨v2, rfl, hx2, k1⟩
  rw [hl1] at hx2
  have hxk := hx2
  obtain ⟨a2, c2, b2, e2, rfl, _, _, _⟩ := hx2
  try rw [show (x1 :: t1).length = t1.length + 1 from rfl] at hxk ⊢
  dsimp only
  have k2 : Keeps [] V (V1.alloc (.cells #[.slice a2 0 c2, .slice b2 (setD l dl).length e2, .int .i64 lim] 47)) := k1.alloc _
  have hB8 : Blk (V1.alloc (.cells #[.slice a2 0 c2, .slice b2 (setD l dl).length e2, .int .i64 lim] 47)) V1.heap.size 47 #[.slice a2 0 c2, .slice b2 (setD l dl).length e2, .int .i64 lim] := Blk.new _ _ _
  have hx3 := hxk.kp ((Keeps.refl [] V1).alloc (.cells #[.slice a2 0 c2, .slice b2 (setD l dl).length e2, .int .i64 lim] 47))
  have hx9 := (hxk.more (G := [V1.heap.size, w.heap.size + 1 + 1, q, g, r, y]) (by intro z hz; simp at hz ⊢; omega)).kp ((Keeps.refl [] V1).alloc (.cells #[.slice a2 0 c2, .slice b2 (setD l dl).length e2, .int .i64 lim] 47))
  have hqV := hqV.kp k2
  have hkV := hkV.trans k2
  have hb1 := hb0.kk k2
  have hz9 := Nat.le_trans hz6 k1.size
  clear hxk hxV k1 k2 hb0 d0 q0 q1 q2
  go_wp2_with fail
  generalize V1.alloc (.cells #[.slice a2 0 c2, .slice b2 (setD l dl).length e2, .int .i64 lim] 47) = V2 at *
  generalize V1.heap.size = p8 at *
  clear hz6
  refine (head_q _ hqV).mono ?_
  rintro e V3 ⟨rfl, hto⟩
  rw [hl1] at hto
  have hval : ∀ A B : Value, (Value.tuple #[val (hdI (setL l)), .bool (!(setL l).isEmpty)]) = .tuple #[val z, .bool false] := fun _ _ => by rw [hl1]; rfl
  rw [hval .nilFunc .nilFunc]
  clear hval
  have hkt : Keeps [q, g, r, y] V2 V3 := by obtain ⟨_, _, _, _, _, h9, _⟩ := hto; exact h9
  have hb2 := hb1.keeps hkt
  have hp8 : p8 < V2.heap.size := hB8.lt
  have hB2 := hB8.keeps hkt (by simp; omega)
  have hp12 : p8 < V3.heap.size := hB2.lt
  have hzz := hb2.b6.lt
  clear hb1
  go_wp2_with (refine wpList_store_blk rfl _ _ rfl V3.heap.size #[.int .i64 0, .int .u8 0, .int .u8 0, .int .i64 0, .int .i64 0, .int .i64 0, .bool false] z rfl rfl (Blk.new V3 30 #[.int .i64 0, .int .u8 0, .int .u8 0, .int .i64 0, .int .i64 0, .int .i64 0, .bool false]) rfl ?_; intro V5 hB12 k5; have hkz : Keeps [] V3 V5 := ((Keeps.refl [] V3).alloc _).next k5 (by simp); have hb3 := hb2.kk hkz; have hB3 := hB2.keeps hkz (by simp); obtain ⟨s0, s1, s2⟩ := blkq hB3)
  generalize V3.heap.size = p12 at *
  have k0 : Keeps [] V5 V5.drew := (Keeps.refl _ _).drew
  have hku := hkz.trans k0
  have hbu := hb3.kk k0
  have hBu := hB3.keeps k0 (by simp)
  have hB12 := hB12.keeps k0 (by simp)
  clear hb2 hB2 hB3 hkz k0 hb3 s0 s1 s2 k5
  have hez := eqz
  refine wp_region_held_drew (S := (fun V => (V.cell? ⟨p8, 0, none⟩ = some (.slice a2 0 c2) ∧ V.cell? ⟨p8, 1, none⟩ = some (.slice b2 (setD l dl).length e2) ∧ V.cell? ⟨p8, 2, none⟩ = some (.int .i64 lim)) ∧ V.rangeAt p12 0 (cs z))) (by kernel_rfl) ⟨blkq hBu, blk_range _ hB12⟩ (fun hHeld => ?_)
  generalize V5.drew = U1 at *
  refine' wpAnyH_take (i := 0) (oi := _) (v := _) ?hR0 (by kernel_rfl) (by kernel_rfl) (by kernel_rfl) ?hQR0 (Or.inl ⟨?hwR0, ?hyR0⟩) hHeld ?restR0
  case hR0 => (simp only [List.getElem?_toArray, List.getElem?_cons_zero]; rfl)
  case hQR0 => exact fun _ _ _ h => h
  case hwR0 => rfl
  case hyR0 => (intro w hSw; (try dsimp only at hSw); go_simp; try with_reducible rfl)
  try simp only [Act.put, List.setIfInBounds_toArray, List.set_cons_zero, List.set_cons_succ]
  refine' wpAnyH_take (i := 1) (oi := _) (v := _) ?hR1 (by kernel_rfl) (by kernel_rfl) (by kernel_rfl) ?hQR1 (Or.inl ⟨?hwR1, ?hyR1⟩) hHeld ?restR1
  case hR1 => (simp only [List.getElem?_toArray, List.getElem?_cons_succ, List.getElem?_cons_zero]; rfl)
  case hQR1 => exact fun _ _ _ h => h
  case hwR1 => rfl
  case hyR1 => (intro w hSw; (try dsimp only at hSw); go_simp; try with_reducible rfl)
  try simp only [Act.put, List.setIfInBounds_toArray, List.set_cons_zero, List.set_cons_succ]
  refine' wpAnyH_take (i := 2) (oi := _) (v := _) ?hR2 (by kernel_rfl) (by kernel_rfl) (by kernel_rfl) ?hQR2 (Or.inl ⟨?hwR2, ?hyR2⟩) hHeld ?restR2
  case hR2 => (simp only [List.getElem?_toArray, List.getElem?_cons_succ, List.getElem?_cons_zero]; rfl)
  case hQR2 => exact fun _ _ _ h => h
  case hwR2 => rfl
  case hyR2 => (intro w hSw; (try dsimp only at hSw); go_simp; try with_reducible rfl)
  try simp only [Act.put, List.setIfInBounds_toArray, List.set_cons_zero, List.set_cons_succ]
  refine' wpAnyH_take (i := 3) (oi := _) (v := _) ?hR3 (by kernel_rfl) (by kernel_rfl) (by kernel_rfl) ?hQR3 (Or.inl ⟨?hwR3, ?hyR3⟩) hHeld ?restR3
  case hR3 => (simp only [List.getElem?_toArray, List.getElem?_cons_succ, List.getElem?_cons_zero]; rfl)
  case hQR3 => exact fun _ _ _ h => h
  case hwR3 => rfl
  case hyR3 => (intro w hSw; (try dsimp only at hSw); go_simp; try with_reducible rfl)
  try simp only [Act.put, List.setIfInBounds_toArray, List.set_cons_zero, List.set_cons_succ]
  refine' wpAnyH_take (i := 4) (oi := _) (v := .agg (cs z).toArray) ?hR4 (by kernel_rfl) (by kernel_rfl) (by kernel_rfl) ?hQR4 ?hyR4 hHeld ?restR4
  case hR4 => (simp only [List.getElem?_toArray, List.getElem?_cons_succ, List.getElem?_cons_zero]; rfl)
  case hQR4 => exact fun _ _ _ h => h
  case hyR4 => exact yieldsIf_load_mid rfl _ _ rfl _ _ rfl (cs z) _ (fun _ h => h.2) Try.underlying30 rfl (FiT.info_cs z)
  try simp only [Act.put, List.setIfInBounds_toArray, List.set_cons_zero, List.set_cons_succ]
  refine' wpAnyH_take (i := 5) (oi := _) (v := _) ?hR5 (by kernel_rfl) (by kernel_rfl) (by kernel_rfl) ?hQR5 (Or.inl ⟨?hwR5, ?hyR5⟩) hHeld ?restR5
  case hR5 => (simp only [List.getElem?_toArray, List.getElem?_cons_succ, List.getElem?_cons_zero]; rfl)
  case hQR5 => exact fun _ _ _ h => h
  case hwR5 => rfl
  case hyR5 => (intro w hSw; (try dsimp only at hSw); go_simp; try with_reducible rfl)
  try simp only [Act.put, List.setIfInBounds_toArray, List.set_cons_zero, List.set_cons_succ]
  refine' wpAnyH_take (i := 6) (oi := _) (v := _) ?hR6 (by kernel_rfl) (by kernel_rfl) (by kernel_rfl) ?hQR6 (Or.inl ⟨?hwR6, ?hyR6⟩) hHeld ?restR6
  case hR6 => (simp only [List.getElem?_toArray, List.getElem?_cons_succ, List.getElem?_cons_zero]; rfl)
  case hQR6 => exact fun _ _ _ h => h
  case hwR6 => rfl
  case hyR6 => (intro w hSw; (try dsimp only at hSw); go_simp; try with_reducible rfl)
  try simp only [Act.put, List.setIfInBounds_toArray, List.set_cons_zero, List.set_cons_succ]
  refine' wpAnyH_take (i := 7) (oi := _) (v := _) ?hR7 (by kernel_rfl) (by kernel_rfl) (by kernel_rfl) ?hQR7 (Or.inl ⟨?hwR7, ?hyR7⟩) hHeld ?restR7
  case hR7 => (simp only [List.getElem?_toArray, List.getElem?_cons_succ, List.getElem?_cons_zero]; rfl)
  case hQR7 => exact fun _ _ _ h => h
  case hwR7 => rfl
  case hyR7 => (intro w hSw; (try dsimp only at hSw); go_simp; try with_reducible rfl)
  try simp only [Act.put, List.setIfInBounds_toArray, List.set_cons_zero, List.set_cons_succ]
  refine wpAnyH_ready (rs := [8]) (by kernel_rfl) (by simp) ?_
  refine' (AllReadyH.cons (o := _) ?hoQ18 (fun K hK' => ?stQ18) AllReadyH.nil)
  case hoQ18 => (simp only [List.getElem?_toArray, List.getElem?_cons_succ, List.getElem?_cons_zero]; rfl)
  case stQ18 =>
    obtain ⟨z0, z1, z2⟩ := hbu.z
    have hfz := hbu.fz
    go_simp
    refine hK'.out _ _ (⟨blkq (hBu.keeps (keep3 (w.heap.size + 1 + 1) _ _ _) (by simp; omega)), (hHeld.2).keepz (keep3 (w.heap.size + 1 + 1) _ _ _) hB12.lt (by simp; omega)⟩) (fun hHeld' => ?_)
    clear hK' K hHeld
    have hHeld := hHeld'
    clear hHeld'
    try simp only [Act.put]
    try simp only [Act.put, List.setIfInBounds_toArray, List.set_cons_zero, List.set_cons_succ]
    refine' wpAnyH_take (i := 9) (oi := _) (v := _) ?hUQ19 (by kernel_rfl) (by kernel_rfl) (by kernel_rfl) ?hQUQ19 (Or.inl ⟨?hwUQ19, ?hyUQ19⟩) hHeld ?restUQ19
    case hUQ19 => (simp only [List.getElem?_toArray, List.getElem?_cons_succ, List.getElem?_cons_zero]; rfl)
    case hQUQ19 => exact fun _ _ _ h => h
    case hwUQ19 => rfl
    case hyUQ19 => (intro w hSw; (try dsimp only at hSw); go_simp; try with_reducible rfl)
    try simp only [Act.put, List.setIfInBounds_toArray, List.set_cons_zero, List.set_cons_succ]
    refine wpAnyH_done (by kernel_rfl) ?_ _
    go_wp2
    refine bodyPost_ret (v := .tuple #[.agg #[.slice a2 0 c2, .slice b2 (setD l dl).length e2, .int .i64 lim], .bool true]) (by simp [results, Try.results15, go_sem, z0, z1, z2]) rfl ?_
    have hn6 : ∀ z ∈ [q, g, r, y], z ∈ [w.heap.size + 1 + 1, q, g, r, y] ∨ V2.heap.size ≤ z := by intro z hz; simp at hz ⊢; omega
    have hka : Keeps [w.heap.size + 1 + 1] V3 _ := (hku.more (T := [w.heap.size + 1 + 1]) (by simp)).trans (keep3 (w.heap.size + 1 + 1) (.slice a2 0 c2) (.slice b2 (setD l dl).length e2) (.int .i64 lim))
    exact step_end hl hkV (hx3.more hn6) hto hka (by omega) (by omega) (hx3.more (by intro z hz; simp at hz ⊢; omega))
set_option maxRecDepth 100000 in
set_option maxHeartbeats 2000000 in
theorem step_head_some {q g r y c : Nat} {a : Option Addr} {l : List It} {dl : List Cl} {lim : Int} (x : It) (st n : Int) (v : Value) (w : World) (hq : Qe w q g r y a c l dl lim) (hx : Rf w [q, g, r, y] v l dl lim) (x1 : It) (t1 : List It) (hl1 : setL l = x1 :: t1) :
    Calls Try.prog 15 #[.pointer (some ⟨q, 0, none⟩), v, .agg (dcl 2 x st n).toArray] w (IsStep q g r y lim w) := by
  have hl := hq.lt
  have hhl := hq.hl
  have hhm := hq.hm
  have HX := Lib.hid hx
  obtain ⟨a1, c1, b1, e1, rfl, _, _, _⟩ := hx
  have hb0 : Hb w _ q g r y (.slice a1 l.length c1) (.slice b1 dl.length e1) (.int .i64 lim) 2 x st n := head_of hl
  have hkV : Keeps [] w (((w.alloc (.cells #[.slice a1 l.length c1, .slice b1 dl.length e1, .int .i64 lim] 47)).alloc (.cells (dcl 2 x st n).toArray 32)).alloc (.cells #[.slice none 0 0, .slice none 0 0, .int .i64 0] 47)) := (((Keeps.refl _ w).alloc _).alloc _).alloc _
  have hxV := (HX.out.more (G := [w.heap.size + 1 + 1, q, g, r, y]) (by intro z hz; simp only [List.mem_cons] at hz ⊢; rcases hz with rfl | hz; exact .inr (by omega); exact .inl (by simpa using hz))).kp hkV
  have hqV := hq.kp hkV
  clear hq HX
  go_enter Try.func15, Try.ntmps15
  go_upto_region 1 with fail
  generalize ((w.alloc (.cells #[.slice a1 l.length c1, .slice b1 dl.length e1, .int .i64 lim] 47)).alloc (.cells (dcl 2 x st n).toArray 32)).alloc (.cells #[.slice none 0 0, .slice none 0 0, .int .i64 0] 47) = V at *
  have hz6 : w.heap.size + 3 ≤ V.heap.size := by have := hb0.b6.lt; omega
  have d0 := hb0.d0
  obtain ⟨q0, q1, q2⟩ := hb0.cq
  have hFb : ∀ z ∈ [w.heap.size + 1 + 1, q, g, r, y], z < V.heap.size := by intro z hz; simp at hz; omega
  go_wp2_with fail
  refine (rsettle_any lim l _ dl _ _ hxV hFb (by omega)).mono ?_
  rintro e V1 ⟨v2, rfl, hx2, k1⟩
  rw [hl1] at hx2
  have hxk := hx2
  obtain ⟨a2, c2, b2, e2, rfl, _, _, _⟩ := hx2
  try rw [show (x1 :: t1).length = t1.length + 1 from rfl] at hxk ⊢
  dsimp only
  have k2 : Keeps [] V (V1.alloc (.cells #[.slice a2 (t1.length + 1) c2, .slice b2 (setD l dl).length e2, .int .i64 lim] 47)) := k1.alloc _
  have hB8 : Blk (V1.alloc (.cells #[.slice a2 (t1.length + 1) c2, .slice b2 (setD l dl).length e2, .int .i64 lim] 47)) V1.heap.size 47 #[.slice a2 (t1.length + 1) c2, .slice b2 (setD l dl).length e2, .int .i64 lim] := Blk.new _ _ _
  have hx3 := hxk.kp ((Keeps.refl [] V1).alloc (.cells #[.slice a2 (t1.length + 1) c2, .slice b2 (setD l dl).length e2, .int .i64 lim] 47))
  have hx9 := (hxk.more (G := [V1.heap.size, w.heap.size + 1 + 1, q, g, r, y]) (by intro z hz; simp at hz ⊢; omega)).kp ((Keeps.refl [] V1).alloc (.cells #[.slice a2 (t1.length + 1) c2, .slice b2 (setD l dl).length e2, .int .i64 lim] 47))
  have hqV := hqV.kp k2
  have hkV := hkV.trans k2
  have hb1 := hb0.kk k2
  have hz9 := Nat.le_trans hz6 k1.size
  clear hxk hxV k1 k2 hb0 d0 q0 q1 q2
  go_wp2_with fail
  generalize V1.alloc (.cells #[.slice a2 (t1.length + 1) c2, .slice b2 (setD l dl).length e2, .int .i64 lim] 47) = V2 at *
  generalize V1.heap.size = p8 at *
  clear hz6
  obtain ⟨ab, rfl, hab, habF, har⟩ := rf_head hx3
  have habF : ab ≠ w.heap.size + 1 + 1 ∧ ab ≠ q ∧ ab ≠ g ∧ ab ≠ r ∧ ab ≠ y := by simpa using habF
  refine (head_q _ hqV).mono ?_
  rintro e V3 ⟨rfl, hto⟩
  rw [hl1] at hto
  have hval : ∀ A B : Value, (Value.tuple #[val (hdI (setL l)), .bool (!(setL l).isEmpty)]) = .tuple #[val x1, .bool true] := fun _ _ => by rw [hl1]; rfl
  rw [hval .nilFunc .nilFunc]
  clear hval
  have hkt : Keeps [q, g, r, y] V2 V3 := by obtain ⟨_, _, _, _, _, h9, _⟩ := hto; exact h9
  have hb2 := hb1.keeps hkt
  have hp8 : p8 < V2.heap.size := hB8.lt
  have hB2 := hB8.keeps hkt (by simp; omega)
  have hp12 : p8 < V3.heap.size := hB2.lt
  have hzz := hb2.b6.lt
  have har := har.keepz hkt hab (by simp; omega)
  have hab3 := Nat.lt_of_lt_of_le hab hkt.size
  clear hb1
  go_wp2_with (refine wpList_store_blk rfl _ _ rfl V3.heap.size #[.int .i64 0, .int .u8 0, .int .u8 0, .int .i64 0, .int .i64 0, .int .i64 0, .bool false] x1 rfl rfl (Blk.new V3 30 #[.int .i64 0, .int .u8 0, .int .u8 0, .int .i64 0, .int .i64 0, .int .i64 0, .bool false]) rfl ?_; intro V5 hB12 k5; have hkz : Keeps [] V3 V5 := ((Keeps.refl [] V3).alloc _).next k5 (by simp); have hb3 := hb2.kk hkz; have hB3 := hB2.keeps hkz (by simp); obtain ⟨s0, s1, s2⟩ := blkq hB3; have har5 := har.keepz hkz hab3 (by simp); have hab5 := Nat.lt_of_lt_of_le hab3 hkz.size)
  generalize V3.heap.size = p12 at *
  have k0 : Keeps [] V5 V5.drew := (Keeps.refl _ _).drew
  have hku := hkz.trans k0
  have hbu := hb3.kk k0
  have hBu := hB3.keeps k0 (by simp)
  have hB12 := hB12.keeps k0 (by simp)
  have hru := har5.keepz k0 hab5 (by simp)
  have hau := Nat.lt_of_lt_of_le hab5 k0.size
  clear hb2 hB2 hB3 hkz k0 hb3 s0 s1 s2 k5
  have he9 := eq9 (pend x1)
  refine wp_region_held_drew (S := (fun V => (V.cell? ⟨p8, 0, none⟩ = some (.slice (some ⟨ab, 0, none⟩) (t1.length + 1) c2) ∧ V.cell? ⟨p8, 1, none⟩ = some (.slice b2 (setD l dl).length e2) ∧ V.cell? ⟨p8, 2, none⟩ = some (.int .i64 lim)) ∧ V.rangeAt p12 0 (cs x1) ∧ V.rangeAt ab 0 (clc (pend x1)))) (by kernel_rfl) ⟨blkq hBu, blk_range _ hB12, hru⟩ (fun hHeld => ?_)
  generalize V5.drew = U1 at *
  refine' wpAnyH_take (i := 0) (oi := _) (v := _) ?hR0 (by kernel_rfl) (by kernel_rfl) (by kernel_rfl) ?hQR0 (Or.inl ⟨?hwR0, ?hyR0⟩) hHeld ?restR0
  case hR0 => (simp only [List.getElem?_toArray, List.getElem?_cons_zero]; rfl)
  case hQR0 => exact fun _ _ _ h => h
  case hwR0 => rfl
  case hyR0 => (intro w hSw; (try dsimp only at hSw); go_simp; try with_reducible rfl)
  try simp only [Act.put, List.setIfInBounds_toArray, List.set_cons_zero, List.set_cons_succ]
  refine' wpAnyH_take (i := 1) (oi := _) (v := _) ?hR1 (by kernel_rfl) (by kernel_rfl) (by kernel_rfl) ?hQR1 (Or.inl ⟨?hwR1, ?hyR1⟩) hHeld ?restR1
  case hR1 => (simp only [List.getElem?_toArray, List.getElem?_cons_succ, List.getElem?_cons_zero]; rfl)
  case hQR1 => exact fun _ _ _ h => h
  case hwR1 => rfl
  case hyR1 => (intro w hSw; (try dsimp only at hSw); go_simp; try with_reducible rfl)
  try simp only [Act.put, List.setIfInBounds_toArray, List.set_cons_zero, List.set_cons_succ]
  refine' wpAnyH_take (i := 2) (oi := _) (v := _) ?hR2 (by kernel_rfl) (by kernel_rfl) (by kernel_rfl) ?hQR2 (Or.inl ⟨?hwR2, ?hyR2⟩) hHeld ?restR2
  case hR2 => (simp only [List.getElem?_toArray, List.getElem?_cons_succ, List.getElem?_cons_zero]; rfl)
  case hQR2 => exact fun _ _ _ h => h
  case hwR2 => rfl
  case hyR2 => (intro w hSw; (try dsimp only at hSw); go_simp; try with_reducible rfl)
  try simp only [Act.put, List.setIfInBounds_toArray, List.set_cons_zero, List.set_cons_succ]
  refine' wpAnyH_take (i := 3) (oi := _) (v := .agg (cs x1).toArray) ?hR3 (by kernel_rfl) (by kernel_rfl) (by kernel_rfl) ?hQR3 ?hyR3 hHeld ?restR3
  case hR3 => (simp only [List.getElem?_toArray, List.getElem?_cons_succ, List.getElem?_cons_zero]; rfl)
  case hQR3 => exact fun _ _ _ h => h
  case hyR3 => exact yieldsIf_load_mid rfl _ _ rfl _ _ rfl (cs x1) _ (fun _ h => h.2.1) Try.underlying30 rfl (FiT.info_cs x1)
  try simp only [Act.put, List.setIfInBounds_toArray, List.set_cons_zero, List.set_cons_succ]
  refine' wpAnyH_take (i := 5) (oi := _) (v := _) ?hR5 (by kernel_rfl) (by kernel_rfl) (by kernel_rfl) ?hQR5 (Or.inl ⟨?hwR5, ?hyR5⟩) hHeld ?restR5
  case hR5 => (simp only [List.getElem?_toArray, List.getElem?_cons_succ, List.getElem?_cons_zero]; rfl)
  case hQR5 => exact fun _ _ _ h => h
  case hwR5 => rfl
  case hyR5 => (intro w hSw; (try dsimp only at hSw); go_simp; try with_reducible rfl)
  try simp only [Act.put, List.setIfInBounds_toArray, List.set_cons_zero, List.set_cons_succ]
  refine' wpAnyH_take (i := 6) (oi := _) (v := _) ?hR6 (by kernel_rfl) (by kernel_rfl) (by kernel_rfl) ?hQR6 (Or.inl ⟨?hwR6, ?hyR6⟩) hHeld ?restR6
  case hR6 => (simp only [List.getElem?_toArray, List.getElem?_cons_succ, List.getElem?_cons_zero]; rfl)
  case hQR6 => exact fun _ _ _ h => h
  case hwR6 => rfl
  case hyR6 => (intro w hSw; (try dsimp only at hSw); go_simp; try with_reducible rfl)
  try simp only [Act.put, List.setIfInBounds_toArray, List.set_cons_zero, List.set_cons_succ]
  refine' wpAnyH_take (i := 7) (oi := _) (v := _) ?hR7 (by kernel_rfl) (by kernel_rfl) (by kernel_rfl) ?hQR7 (Or.inl ⟨?hwR7, ?hyR7⟩) hHeld ?restR7
  case hR7 => (simp only [List.getElem?_toArray, List.getElem?_cons_succ, List.getElem?_cons_zero]; rfl)
  case hQR7 => exact fun _ _ _ h => h
  case hwR7 => rfl
  case hyR7 => (intro w hSw; (try dsimp only at hSw); go_simp; try with_reducible rfl)
  try simp only [Act.put, List.setIfInBounds_toArray, List.set_cons_zero, List.set_cons_succ]
  refine' wpAnyH_take (i := 8) (oi := _) (v := .agg (clc (pend x1)).toArray) ?hR8 (by kernel_rfl) (by kernel_rfl) (by kernel_rfl) ?hQR8 ?hyR8 hHeld ?restR8
  case hR8 => (simp only [List.getElem?_toArray, List.getElem?_cons_succ, List.getElem?_cons_zero]; rfl)
  case hQR8 => exact fun _ _ _ h => h
  case hyR8 => exact yieldsIf_load_mid rfl _ _ rfl _ _ rfl (clc (pend x1)) _ (fun _ h => h.2.2) Try.underlying62 rfl (ri_cs (pend x1))
  try simp only [Act.put, List.setIfInBounds_toArray, List.set_cons_zero, List.set_cons_succ]
  refine wpAnyH_ready (rs := [4]) (by kernel_rfl) (by simp) ?_
  refine' (AllReadyH.cons (o := _) ?hoQ14 (fun K hK' => ?stQ14) AllReadyH.nil)
  case hoQ14 => (simp only [List.getElem?_toArray, List.getElem?_cons_succ, List.getElem?_cons_zero]; rfl)
  case stQ14 =>
    go_simp
    refine (item_any x1 _).mono ?_
    rintro e V1 ⟨rfl, k1⟩
    try go_wp2_with fail
    have hku := hku.trans k1
    have hbu := hbu.kk k1
    have hBu := hBu.keeps k1 (by simp)
    have hB12 := hB12.keeps k1 (by simp)
    have hru := hru.keepz k1 hau (by simp)
    have hau := Nat.lt_of_lt_of_le hau k1.size
    refine hK'.out _ _ (⟨blkq hBu, blk_range _ hB12, hru⟩) (fun hHeld' => ?_)
    clear hK' K hHeld
    have hHeld := hHeld'
    clear hHeld'
    try simp only [Act.put]
    try simp only [Act.put, List.setIfInBounds_toArray, List.set_cons_zero, List.set_cons_succ]
    refine' wpAnyH_take (i := 9) (oi := _) (v := _) ?hSQ19 (by kernel_rfl) (by kernel_rfl) (by kernel_rfl) ?hQSQ19 (Or.inl ⟨?hwSQ19, ?hySQ19⟩) hHeld ?restSQ19
    case hSQ19 => (simp only [List.getElem?_toArray, List.getElem?_cons_succ, List.getElem?_cons_zero]; rfl)
    case hQSQ19 => exact fun _ _ _ h => h
    case hwSQ19 => rfl
    case hySQ19 => (intro w hSw; (try dsimp only at hSw); go_simp; try with_reducible rfl)
    try simp only [Act.put, List.setIfInBounds_toArray, List.set_cons_zero, List.set_cons_succ]
    refine' wpAnyH_take (i := 10) (oi := _) (v := _) ?hSQ110 (by kernel_rfl) (by kernel_rfl) (by kernel_rfl) ?hQSQ110 (Or.inl ⟨?hwSQ110, ?hySQ110⟩) hHeld ?restSQ110
    case hSQ110 => (simp only [List.getElem?_toArray, List.getElem?_cons_succ, List.getElem?_cons_zero]; rfl)
    case hQSQ110 => exact fun _ _ _ h => h
    case hwSQ110 => rfl
    case hySQ110 => (intro w hSw; (try dsimp only at hSw); go_simp; try with_reducible rfl)
    try simp only [Act.put, List.setIfInBounds_toArray, List.set_cons_zero, List.set_cons_succ]
    refine wpAnyH_ready (rs := [11]) (by kernel_rfl) (by simp) ?_
    refine' (AllReadyH.cons (o := _) ?hoQ211 (fun K hK' => ?stQ211) AllReadyH.nil)
    case hoQ211 => (simp only [List.getElem?_toArray, List.getElem?_cons_succ, List.getElem?_cons_zero]; rfl)
    case stQ211 =>
      obtain ⟨z0, z1, z2⟩ := hbu.z
      have hfz := hbu.fz
      go_simp
      refine hK'.out _ _ (⟨blkq (hBu.keeps (keep3 (w.heap.size + 1 + 1) _ _ _) (by simp; omega)), (hHeld.2.1).keepz (keep3 (w.heap.size + 1 + 1) _ _ _) hB12.lt (by simp; omega), hHeld.2.2.keepz (keep3 (w.heap.size + 1 + 1) _ _ _) hau (by simp; omega)⟩) (fun hHeld' => ?_)
      clear hK' K hHeld
      have hHeld := hHeld'
      clear hHeld'
      try simp only [Act.put]
      try simp only [Act.put, List.setIfInBounds_toArray, List.set_cons_zero, List.set_cons_succ]
      refine' wpAnyH_take (i := 12) (oi := _) (v := _) ?hUQ212 (by kernel_rfl) (by kernel_rfl) (by kernel_rfl) ?hQUQ212 (Or.inl ⟨?hwUQ212, ?hyUQ212⟩) hHeld ?restUQ212
      case hUQ212 => (simp only [List.getElem?_toArray, List.getElem?_cons_succ, List.getElem?_cons_zero]; rfl)
      case hQUQ212 => exact fun _ _ _ h => h
      case hwUQ212 => rfl
      case hyUQ212 => (intro w hSw; (try dsimp only at hSw); go_simp; try with_reducible rfl)
      try simp only [Act.put, List.setIfInBounds_toArray, List.set_cons_zero, List.set_cons_succ]
      refine wpAnyH_done (by kernel_rfl) ?_ _
      go_wp2
      refine bodyPost_ret (v := .tuple #[.agg #[.slice (some ⟨ab, 0, none⟩) (t1.length + 1) c2, .slice b2 (setD l dl).length e2, .int .i64 lim], .bool true]) (by simp [results, Try.results15, go_sem, z0, z1, z2]) rfl ?_
      have hn6 : ∀ z ∈ [q, g, r, y], z ∈ [w.heap.size + 1 + 1, q, g, r, y] ∨ V2.heap.size ≤ z := by intro z hz; simp at hz ⊢; omega
      have hka : Keeps [w.heap.size + 1 + 1] V3 _ := (hku.more (T := [w.heap.size + 1 + 1]) (by simp)).trans (keep3 (w.heap.size + 1 + 1) (.slice (some ⟨ab, 0, none⟩) (t1.length + 1) c2) (.slice b2 (setD l dl).length e2) (.int .i64 lim))
      exact step_end hl hkV (hx3.more hn6) hto hka (by omega) (by omega) (hx3.more (by intro z hz; simp at hz ⊢; omega))
set_option maxRecDepth 100000 in
set_option maxHeartbeats 2000000 in
theorem step_fin_nil {q g r y c : Nat} {a : Option Addr} {l : List It} {dl : List Cl} {lim : Int} (x : It) (st n : Int) (v : Value) (w : World) (hq : Qe w q g r y a c l dl lim) (hx : Rf w [q, g, r, y] v l dl lim) (hl1 : setL l = []) :
    Calls Try.prog 15 #[.pointer (some ⟨q, 0, none⟩), v, .agg (dcl 3 x st n).toArray] w (IsStep q g r y lim w) := by
  have hl := hq.lt
  have hhl := hq.hl
  have hhm := hq.hm
  have HX := Lib.hid hx
  obtain ⟨a1, c1, b1, e1, rfl, _, _, _⟩ := hx
  have hb0 : Hb w _ q g r y (.slice a1 l.length c1) (.slice b1 dl.length e1) (.int .i64 lim) 3 x st n := head_of hl
  have hkV : Keeps [] w (((w.alloc (.cells #[.slice a1 l.length c1, .slice b1 dl.length e1, .int .i64 lim] 47)).alloc (.cells (dcl 3 x st n).toArray 32)).alloc (.cells #[.slice none 0 0, .slice none 0 0, .int .i64 0] 47)) := (((Keeps.refl _ w).alloc _).alloc _).alloc _
  have hxV := (HX.out.more (G := [w.heap.size + 1 + 1, q, g, r, y]) (by intro z hz; simp only [List.mem_cons] at hz ⊢; rcases hz with rfl | hz; exact .inr (by omega); exact .inl (by simpa using hz))).kp hkV
  have hqV := hq.kp hkV
  clear hq HX
  go_enter Try.func15, Try.ntmps15
  go_upto_region 1 with fail
  generalize ((w.alloc (.cells #[.slice a1 l.length c1, .slice b1 dl.length e1, .int .i64 lim] 47)).alloc (.cells (dcl 3 x st n).toArray 32)).alloc (.cells #[.slice none 0 0, .slice none 0 0, .int .i64 0] 47) = V at *
  have hz6 : w.heap.size + 3 ≤ V.heap.size := by have := hb0.b6.lt; omega
  have d0 := hb0.d0
  obtain ⟨q0, q1, q2⟩ := hb0.cq
  have hFb : ∀ z ∈ [w.heap.size + 1 + 1, q, g, r, y], z < V.heap.size := by intro z hz; simp at hz; omega
  have HC := rfinish_any st n _ _ hxV hFb (by omega)
  rw [fin_nil l dl st n hl1] at HC
  have HC := Lib.hid HC
  have d8 := hb0.d8
  have d9 := hb0.d9
  go_wp2_with fail
  refine (HC.out).mono ?_
  rintro e V1 ⟨v2, rfl, hx2, k1⟩
  clear HC d8 d9
  have hxk := hx2
  obtain ⟨a2, c2, b2, e2, rfl, _, _, _⟩ := hx2
  rw [show ([] : List It).length = 0 from rfl] at hxk ⊢
  dsimp only
  have k2 : Keeps [] V (V1.alloc (.cells #[.slice a2 0 c2, .slice b2 (setD l dl).length e2, .int .i64 lim] 47)) := k1.alloc _
  have hB8 : Blk (V1.alloc (.cells #[.slice a2 0 c2, .slice b2 (setD l dl).length e2, .int .i64 lim] 47)) V1.heap.size 47 #[.slice a2 0 c2, .slice b2 (setD l dl).length e2, .int .i64 lim] := Blk.new _ _ _
  have hx3 := hxk.kp ((Keeps.refl [] V1).alloc (.cells #[.slice a2 0 c2, .slice b2 (setD l dl).length e2, .int .i64 lim] 47))
  have hx9 := (hxk.more (G := [V1.heap.size, w.heap.size + 1 + 1, q, g, r, y]) (by intro z hz; simp at hz ⊢; omega)).kp ((Keeps.refl [] V1).alloc (.cells #[.slice a2 0 c2, .slice b2 (setD l dl).length e2, .int .i64 lim] 47))
  have hqV := hqV.kp k2
  have hkV := hkV.trans k2
  have hb1 := hb0.kk k2
  have hz9 := Nat.le_trans hz6 k1.size
  have d8 := hb1.d8
  have d9 := hb1.d9
  clear hxk hxV k1 k2 hb0 d0 q0 q1 q2
  go_wp2_with fail
  generalize V1.alloc (.cells #[.slice a2 0 c2, .slice b2 (setD l dl).length e2, .int .i64 lim] 47) = V2 at *
  generalize V1.heap.size = p8 at *
  clear hz6
  refine (finish_q st n _ hqV).mono ?_
  rintro e V3 hfin
  clear d8 d9
  rcases hfin with ⟨_, rfl, hto⟩ | ⟨x2, t2, h9, _⟩
  case inr => rw [hl1] at h9; cases h9
  have hkt : Keeps [q, g, r, y] V2 V3 := by obtain ⟨_, _, _, _, _, h9, _⟩ := hto; exact h9
  have hb2 := hb1.keeps hkt
  have hp8 : p8 < V2.heap.size := hB8.lt
  have hB2 := hB8.keeps hkt (by simp; omega)
  obtain ⟨s0, s1, s2⟩ := blkq hB2
  obtain ⟨z0, z1, z2⟩ := hb2.z
  have hfz := hb2.fz
  clear hb1 hB2 hB8
  go_wp2
  refine bodyPost_ret (v := .tuple #[.agg #[.slice a2 0 c2, .slice b2 (setD l dl).length e2, .int .i64 lim], .bool true]) (by simp [results, Try.results15, go_sem, z0, z1, z2]) rfl ?_
  have hn6 : ∀ z ∈ [q, g, r, y], z ∈ [w.heap.size + 1 + 1, q, g, r, y] ∨ V2.heap.size ≤ z := by intro z hz; simp at hz ⊢; omega
  exact step_end hl hkV (hx3.more hn6) hto (keep3 (w.heap.size + 1 + 1) _ _ _) (by omega) (by omega) (hx3.more (by intro z hz; simp at hz ⊢; omega))
set_option maxRecDepth 100000 in
set_option maxHeartbeats 2000000 in
theorem step_fin_some {q g r y c : Nat} {a : Option Addr} {l : List It} {dl : List Cl} {lim : Int} (x : It) (st n : Int) (v : Value) (w : World) (hq : Qe w q g r y a c l dl lim) (hx : Rf w [q, g, r, y] v l dl lim) (x1 : It) (t1 : List It) (hl1 : setL l = x1 :: t1) :
    Calls Try.prog 15 #[.pointer (some ⟨q, 0, none⟩), v, .agg (dcl 3 x st n).toArray] w (IsStep q g r y lim w) := by
  have hl := hq.lt
  have hhl := hq.hl
  have hhm := hq.hm
  have HX := Lib.hid hx
  obtain ⟨a1, c1, b1, e1, rfl, _, _, _⟩ := hx
  have hb0 : Hb w _ q g r y (.slice a1 l.length c1) (.slice b1 dl.length e1) (.int .i64 lim) 3 x st n := head_of hl
  have hkV : Keeps [] w (((w.alloc (.cells #[.slice a1 l.length c1, .slice b1 dl.length e1, .int .i64 lim] 47)).alloc (.cells (dcl 3 x st n).toArray 32)).alloc (.cells #[.slice none 0 0, .slice none 0 0, .int .i64 0] 47)) := (((Keeps.refl _ w).alloc _).alloc _).alloc _
  have hxV := (HX.out.more (G := [w.heap.size + 1 + 1, q, g, r, y]) (by intro z hz; simp only [List.mem_cons] at hz ⊢; rcases hz with rfl | hz; exact .inr (by omega); exact .inl (by simpa using hz))).kp hkV
  have hqV := hq.kp hkV
  clear hq HX
  go_enter Try.func15, Try.ntmps15
  go_upto_region 1 with fail
  generalize ((w.alloc (.cells #[.slice a1 l.length c1, .slice b1 dl.length e1, .int .i64 lim] 47)).alloc (.cells (dcl 3 x st n).toArray 32)).alloc (.cells #[.slice none 0 0, .slice none 0 0, .int .i64 0] 47) = V at *
  have hz6 : w.heap.size + 3 ≤ V.heap.size := by have := hb0.b6.lt; omega
  have d0 := hb0.d0
  obtain ⟨q0, q1, q2⟩ := hb0.cq
  have hFb : ∀ z ∈ [w.heap.size + 1 + 1, q, g, r, y], z < V.heap.size := by intro z hz; simp at hz; omega
  have HC := rfinish_any st n _ _ hxV hFb (by omega)
  rw [fin_cons l t1 x1 dl st n hl1] at HC
  have HC := Lib.hid HC
  have d8 := hb0.d8
  have d9 := hb0.d9
  go_wp2_with fail
  refine (HC.out).mono ?_
  rintro e V1 ⟨v2, rfl, hx2, k1⟩
  clear HC d8 d9
  have hxk := hx2
  obtain ⟨a2, c2, b2, e2, rfl, _, _, _⟩ := hx2
  rw [show (setD l dl ++ [(⟨x1, st, n⟩ : Cl)]).length = (setD l dl).length + 1 from by simp] at hxk ⊢
  dsimp only
  have k2 : Keeps [] V (V1.alloc (.cells #[.slice a2 t1.length c2, .slice b2 ((setD l dl).length + 1) e2, .int .i64 lim] 47)) := k1.alloc _
  have hB8 : Blk (V1.alloc (.cells #[.slice a2 t1.length c2, .slice b2 ((setD l dl).length + 1) e2, .int .i64 lim] 47)) V1.heap.size 47 #[.slice a2 t1.length c2, .slice b2 ((setD l dl).length + 1) e2, .int .i64 lim] := Blk.new _ _ _
  have hx3 := hxk.kp ((Keeps.refl [] V1).alloc (.cells #[.slice a2 t1.length c2, .slice b2 ((setD l dl).length + 1) e2, .int .i64 lim] 47))
  have hx9 := (hxk.more (G := [V1.heap.size, w.heap.size + 1 + 1, q, g, r, y]) (by intro z hz; simp at hz ⊢; omega)).kp ((Keeps.refl [] V1).alloc (.cells #[.slice a2 t1.length c2, .slice b2 ((setD l dl).length + 1) e2, .int .i64 lim] 47))
  have hqV := hqV.kp k2
  have hkV := hkV.trans k2
  have hb1 := hb0.kk k2
  have hz9 := Nat.le_trans hz6 k1.size
  have d8 := hb1.d8
  have d9 := hb1.d9
  clear hxk hxV k1 k2 hb0 d0 q0 q1 q2
  go_wp2_with fail
  generalize V1.alloc (.cells #[.slice a2 t1.length c2, .slice b2 ((setD l dl).length + 1) e2, .int .i64 lim] 47) = V2 at *
  generalize V1.heap.size = p8 at *
  clear hz6
  refine (finish_q st n _ hqV).mono ?_
  rintro e V3 hfin
  clear d8 d9
  rcases hfin with ⟨h9, _⟩ | ⟨x2, t2, h9, rfl, hto⟩
  · rw [hl1] at h9; cases h9
  rw [hl1] at h9
  injection h9 with h8 h9
  subst h8 h9
  have hkt : Keeps [q, g, r, y] V2 V3 := by obtain ⟨_, _, _, _, _, h9, _⟩ := hto; exact h9
  have hb2 := hb1.keeps hkt
  have hp8 : p8 < V2.heap.size := hB8.lt
  have hB2 := hB8.keeps hkt (by simp; omega)
  obtain ⟨s0, s1, s2⟩ := blkq hB2
  obtain ⟨z0, z1, z2⟩ := hb2.z
  have hfz := hb2.fz
  clear hb1 hB2 hB8
  go_wp2
  refine bodyPost_ret (v := .tuple #[.agg #[.slice a2 t1.length c2, .slice b2 ((setD l dl).length + 1) e2, .int .i64 lim], .bool true]) (by simp [results, Try.results15, go_sem, z0, z1, z2]) rfl ?_
  have hn6 : ∀ z ∈ [q, g, r, y], z ∈ [w.heap.size + 1 + 1, q, g, r, y] ∨ V2.heap.size ≤ z := by intro z hz; simp at hz ⊢; omega
  exact step_end hl hkV (hx3.more hn6) hto (keep3 (w.heap.size + 1 + 1) _ _ _) (by omega) (by omega) (hx3.more (by intro z hz; simp at hz ⊢; omega))
end Qp
end Go.Proofs.Ytaepcedcjhliaaa
