/- A fork of a client's queue; what a nil one answers. -/
import Derived.Test.YtaepcedcjhliaaaQueV
import Derived.Test.YtaepcedcjhliaaaQrTF
namespace Go.Proofs.Ytaepcedcjhliaaa
open Go.RowKit
namespace Qp
open Sm FiT
theorem own_lower {w : World} {B B' size n : Nat} {e : TypeId} {v : Value} {xs : List Value} (h : w.ownsRow B' e size v n xs) (hb : B ≤ B') : w.ownsRow B e size v n xs :=
  ⟨h.1, h.2.imp id fun ⟨g, cap, cur, h1, h2, h3⟩ => ⟨g, cap, cur, h1, Nat.le_trans hb h2, h3⟩⟩
theorem cnil_eq (n c : Nat) (w : World) : (binOp .eql 39 (.slice none n c) (.slice none 0 0)).run Try.prog w = .ok (.bool true) w := by kernel_rfl
theorem cnil_ne (a : Addr) (n c : Nat) (w : World) : (binOp .eql 39 (.slice (some a) n c) (.slice none 0 0)).run Try.prog w = .ok (.bool false) w := by kernel_rfl
def IsCl (dl : List Cl) (w : World) (e : Ending) (w' : World) : Prop :=
  ∃ a' c', e = .returned (.slice a' dl.length c') ∧ Keeps [] w w' ∧ ((a' = none ∧ c' = 0 ∧ dl = []) ∨ (∃ y', a' = some ⟨y', 0, none⟩ ∧ w'.ownsRow 0 42 9 (.slice a' dl.length c') dl.length (flat dl) ∧ w.heap.size ≤ y' ∧ y' < w'.heap.size))
attribute [local irreducible] cs clc
set_option maxRecDepth 100000 in
set_option maxHeartbeats 1000000 in
theorem clone_done {w : World} {q y c : Nat} {a : Option Addr} {dl : List Cl} (h : Lst w q y a c dl) (hm : dl.length ≤ 100) : Calls Try.prog 32 #[.slice a dl.length c] w (IsCl dl w) := by
  rcases h with ⟨rfl, rfl, rfl, _⟩ | ⟨rfl, h⟩
  · have hne := cnil_eq
    go_enter Try.func32, Try.ntmps32
    go_wp2
    go_ret
    exact ⟨none, 0, rfl, Keeps.refl _ _, .inl ⟨rfl, rfl, rfl⟩⟩
  · obtain ⟨i0, hi0, hz0, hz1, hz2⟩ := info_parts cl_all
    have HI := Lib.hid (And.intro hi0 (And.intro hz0 (And.intro hz1 hz2)))
    clear hi0 hz0 hz1 hz2
    have HR := Lib.hid (Reads.of_own h)
    clear h
    have hown0 := own_empty w w.heap.size (Nat.le_refl _) 42 9
    have hrd0 := HR.out.alloc (Nat.le_refl _) (.cells #[] 42)
    have hk0 : Keeps [] w (w.alloc (.cells #[] 42)) := (Keeps.refl _ _).alloc _
    have hne := cnil_ne
    go_enter Try.func32, Try.ntmps32
    go_wp2_with (at_builtin; refine wpList_append_any _ rfl (.tmp 5) (.tmp 6) _ rfl w.heap.size 42 i0 _ 9 64 Try.underlying39 HI.out.1 HI.out.2.1 HI.out.2.2.1 HI.out.2.2.2 rfl (by decide) (.slice (some ⟨w.heap.size, 0, none⟩) 0 0) 0 _ rfl hown0 _ _ dl.length c _ rfl hrd0 (flat_all _) (by simp only [maxLen]; omega) (by omega) (by simp) ?_; intro v2 w2 hown2 hg2 hat2; obtain ⟨p2, c2, hv2⟩ := own_form hown2; subst hv2; rw [Nat.zero_add, List.nil_append] at hown2; have hk2 := hk0.grown hg2 (fun b hb => .inr (by have := (hown0.lt b hb).1; exact this)))
    go_ret
    have hp : ∃ g', p2 = some ⟨g', 0, none⟩ := by
      rcases hown2.2 with ⟨hv, _⟩ | ⟨g', cap, cur, hv, _⟩
      · injection hv with e1
        subst e1
        rcases hat2 with e | e <;> simp [Value.ownBlock] at e
      · injection hv with e1
        exact ⟨g', e1⟩
    obtain ⟨g', rfl⟩ := hp
    have hlt := hown2.lt g' rfl
    refine ⟨some ⟨g', 0, none⟩, c2, ?_, hk2, .inr ⟨g', rfl, own_lower hown2 (Nat.zero_le _), hlt.1, hlt.2⟩⟩
    first | rfl | simp
def IsForkQ (l : List It) (dl : List Cl) (lim : Int) (w : World) (e : Ending) (w' : World) : Prop :=
  ∃ f g r y a c, e = .returned (.pointer (some ⟨f, 0, none⟩)) ∧ Qe w' f g r y a c l dl lim ∧ Keeps [] w w' ∧ w.heap.size ≤ f ∧ w.heap.size ≤ g ∧ w.heap.size ≤ r ∧ w.heap.size ≤ y
set_option maxRecDepth 100000 in
set_option maxHeartbeats 2000000 in
theorem fork_q {q g r y c : Nat} {a : Option Addr} {l : List It} {dl : List Cl} {lim : Int} (w : World) (h : Qe w q g r y a c l dl lim) :
    Calls Try.prog 17 #[.pointer (some ⟨q, 0, none⟩)] w (IsForkQ l dl lim w) := by
  have c0 : w.drew.cell? ⟨q, 0, none⟩ = some (.pointer (some ⟨g, 0, none⟩)) := h.b.cell 0
  have c1 : w.drew.cell? ⟨q, 1, none⟩ = some (.slice a dl.length c) := h.b.cell 1
  have hql := h.b.lt
  have hhl := h.hl
  have hhm := h.hm
  have k0 : Keeps [] w w.drew := (Keeps.refl _ _).drew
  have H := Lib.hid (h.kp k0)
  clear h
  have hz0 : w.heap.size ≤ w.drew.heap.size := k0.size
  have hqd := Nat.lt_of_lt_of_le hql k0.size
  go_enter Try.func17, Try.ntmps17
  go_wp2
  refine wp_region_held_drew (S := (fun V => V.cell? ⟨q, 0, none⟩ = some (.pointer (some ⟨g, 0, none⟩)) ∧ V.cell? ⟨q, 1, none⟩ = some (.slice a dl.length c))) (by kernel_rfl) ⟨c0, c1⟩ (fun hHeld => ?_)
  refine' wpAnyH_take (i := 0) (oi := _) (v := _) ?hF0 (by kernel_rfl) (by kernel_rfl) (by kernel_rfl) ?hQF0 (Or.inl ⟨?hwF0, ?hyF0⟩) hHeld ?restF0
  case hF0 => (simp only [List.getElem?_toArray, List.getElem?_cons_zero]; rfl)
  case hQF0 => exact fun _ _ _ h => h
  case hwF0 => rfl
  case hyF0 => (intro w hSw; (try dsimp only at hSw); go_simp; try with_reducible rfl)
  try simp only [Act.put, List.setIfInBounds_toArray, List.set_cons_zero, List.set_cons_succ]
  refine' wpAnyH_take (i := 1) (oi := _) (v := _) ?hF1 (by kernel_rfl) (by kernel_rfl) (by kernel_rfl) ?hQF1 (Or.inl ⟨?hwF1, ?hyF1⟩) hHeld ?restF1
  case hF1 => (simp only [List.getElem?_toArray, List.getElem?_cons_succ, List.getElem?_cons_zero]; rfl)
  case hQF1 => exact fun _ _ _ h => h
  case hwF1 => rfl
  case hyF1 => (intro w hSw; (try dsimp only at hSw); go_simp; try with_reducible rfl)
  try simp only [Act.put, List.setIfInBounds_toArray, List.set_cons_zero, List.set_cons_succ]
  refine' wpAnyH_take (i := 2) (oi := _) (v := _) ?hF2 (by kernel_rfl) (by kernel_rfl) (by kernel_rfl) ?hQF2 (Or.inl ⟨?hwF2, ?hyF2⟩) hHeld ?restF2
  case hF2 => (simp only [List.getElem?_toArray, List.getElem?_cons_succ, List.getElem?_cons_zero]; rfl)
  case hQF2 => exact fun _ _ _ h => h
  case hwF2 => rfl
  case hyF2 => (intro w hSw; (try dsimp only at hSw); go_simp; try with_reducible rfl)
  try simp only [Act.put, List.setIfInBounds_toArray, List.set_cons_zero, List.set_cons_succ]
  refine' wpAnyH_take (i := 3) (oi := _) (v := _) ?hF3 (by kernel_rfl) (by kernel_rfl) (by kernel_rfl) ?hQF3 (Or.inl ⟨?hwF3, ?hyF3⟩) hHeld ?restF3
  case hF3 => (simp only [List.getElem?_toArray, List.getElem?_cons_succ, List.getElem?_cons_zero]; rfl)
  case hQF3 => exact fun _ _ _ h => h
  case hwF3 => rfl
  case hyF3 => (intro w hSw; (try dsimp only at hSw); go_simp; try with_reducible rfl)
  try simp only [Act.put, List.setIfInBounds_toArray, List.set_cons_zero, List.set_cons_succ]
  refine' wpAnyH_take (i := 5) (oi := _) (v := _) ?hF5 (by kernel_rfl) (by kernel_rfl) (by kernel_rfl) ?hQF5 (Or.inl ⟨?hwF5, ?hyF5⟩) hHeld ?restF5
  case hF5 => (simp only [List.getElem?_toArray, List.getElem?_cons_succ, List.getElem?_cons_zero]; rfl)
  case hQF5 => exact fun _ _ _ h => h
  case hwF5 => rfl
  case hyF5 => (intro w hSw; (try dsimp only at hSw); go_simp; try with_reducible rfl)
  try simp only [Act.put, List.setIfInBounds_toArray, List.set_cons_zero, List.set_cons_succ]
  refine' wpAnyH_take (i := 6) (oi := _) (v := _) ?hF6 (by kernel_rfl) (by kernel_rfl) (by kernel_rfl) ?hQF6 (Or.inl ⟨?hwF6, ?hyF6⟩) hHeld ?restF6
  case hF6 => (simp only [List.getElem?_toArray, List.getElem?_cons_succ, List.getElem?_cons_zero]; rfl)
  case hQF6 => exact fun _ _ _ h => h
  case hwF6 => rfl
  case hyF6 => (intro w hSw; (try dsimp only at hSw); go_simp; try with_reducible rfl)
  try simp only [Act.put, List.setIfInBounds_toArray, List.set_cons_zero, List.set_cons_succ]
  refine' wpAnyH_take (i := 7) (oi := _) (v := _) ?hF7 (by kernel_rfl) (by kernel_rfl) (by kernel_rfl) ?hQF7 (Or.inl ⟨?hwF7, ?hyF7⟩) hHeld ?restF7
  case hF7 => (simp only [List.getElem?_toArray, List.getElem?_cons_succ, List.getElem?_cons_zero]; rfl)
  case hQF7 => exact fun _ _ _ h => h
  case hwF7 => rfl
  case hyF7 => (intro w hSw; (try dsimp only at hSw); go_simp; try with_reducible rfl)
  try simp only [Act.put, List.setIfInBounds_toArray, List.set_cons_zero, List.set_cons_succ]
  refine' wpAnyH_take (i := 8) (oi := _) (v := _) ?hF8 (by kernel_rfl) (by kernel_rfl) (by kernel_rfl) ?hQF8 (Or.inl ⟨?hwF8, ?hyF8⟩) hHeld ?restF8
  case hF8 => (simp only [List.getElem?_toArray, List.getElem?_cons_succ, List.getElem?_cons_zero]; rfl)
  case hQF8 => exact fun _ _ _ h => h
  case hwF8 => rfl
  case hyF8 => (intro w hSw; (try dsimp only at hSw); go_simp; try with_reducible rfl)
  try simp only [Act.put, List.setIfInBounds_toArray, List.set_cons_zero, List.set_cons_succ]
  refine wpAnyH_ready (rs := [4]) (by kernel_rfl) (by simp) ?_
  refine AllReadyH.cons rfl (fun K hK => ?_) AllReadyH.nil
  go_simp
  refine (fork_any g r l lim 0 _ H.out.f).mono ?_
  rintro e V1 ⟨rfl, r1, hq1, hk1, hr1⟩
  try go_wp2_with fail
  refine hK.out _ _ (⟨(hk1.cell (p := ⟨q, 0, none⟩) hqd (by simp)).trans hHeld.1, (hk1.cell (p := ⟨q, 1, none⟩) hqd (by simp)).trans hHeld.2⟩) (fun hHeld' => ?_)
  clear hK K hHeld
  have hHeld := hHeld'
  clear hHeld'
  try simp only [Act.put, List.setIfInBounds_toArray, List.set_cons_zero, List.set_cons_succ]
  refine wpAnyH_ready (rs := [9]) (by kernel_rfl) (by simp) ?_
  refine AllReadyH.cons rfl (fun K hK => ?_) AllReadyH.nil
  go_simp
  refine (clone_done (H.out.d.keeps hk1 (by simp)) (by omega)).mono ?_
  rintro e V2 ⟨a2, c2, rfl, hk2, hd2⟩
  try go_wp2_with fail
  refine hK.out _ _ (⟨(hk2.cell (p := ⟨q, 0, none⟩) (Nat.lt_of_lt_of_le hqd hk1.size) (by simp)).trans hHeld.1, (hk2.cell (p := ⟨q, 1, none⟩) (Nat.lt_of_lt_of_le hqd hk1.size) (by simp)).trans hHeld.2⟩) (fun hHeld' => ?_)
  clear hK K hHeld
  have hHeld := hHeld'
  clear hHeld'
  try simp only [Act.put, List.setIfInBounds_toArray, List.set_cons_zero, List.set_cons_succ]
  refine' wpAnyH_take (i := 10) (oi := _) (v := _) ?hF10 (by kernel_rfl) (by kernel_rfl) (by kernel_rfl) ?hQF10 (Or.inl ⟨?hwF10, ?hyF10⟩) hHeld ?restF10
  case hF10 => (simp only [List.getElem?_toArray, List.getElem?_cons_succ, List.getElem?_cons_zero]; rfl)
  case hQF10 => exact fun _ _ _ h => h
  case hwF10 => rfl
  case hyF10 => (intro w hSw; (try dsimp only at hSw); go_simp; try with_reducible rfl)
  try simp only [Act.put, List.setIfInBounds_toArray, List.set_cons_zero, List.set_cons_succ]
  refine wpAnyH_ready (rs := [11]) (by kernel_rfl) (by simp) ?_
  refine AllReadyH.cons rfl (fun K hK => ?_) AllReadyH.nil
  go_simp
  refine hK.out _ _ (⟨(((Keeps.refl [] V2).alloc _).cell (p := ⟨q, 0, none⟩) (Nat.lt_of_lt_of_le hqd (Nat.le_trans hk1.size hk2.size)) (by simp)).trans hHeld.1, (((Keeps.refl [] V2).alloc _).cell (p := ⟨q, 1, none⟩) (Nat.lt_of_lt_of_le hqd (Nat.le_trans hk1.size hk2.size)) (by simp)).trans hHeld.2⟩) (fun hHeld' => ?_)
  clear hK K hHeld
  have hHeld := hHeld'
  clear hHeld'
  try simp only [Act.put, List.setIfInBounds_toArray, List.set_cons_zero, List.set_cons_succ]
  refine' wpAnyH_take (i := 12) (oi := _) (v := _) ?hF12 (by kernel_rfl) (by kernel_rfl) (by kernel_rfl) ?hQF12 (Or.inl ⟨?hwF12, ?hyF12⟩) hHeld ?restF12
  case hF12 => (simp only [List.getElem?_toArray, List.getElem?_cons_succ, List.getElem?_cons_zero]; rfl)
  case hQF12 => exact fun _ _ _ h => h
  case hwF12 => rfl
  case hyF12 => (intro w hSw; (try dsimp only at hSw); go_simp; try with_reducible rfl)
  try simp only [Act.put, List.setIfInBounds_toArray, List.set_cons_zero, List.set_cons_succ]
  refine wpAnyH_done (by kernel_rfl) ?_ _
  clear hHeld c0 c1
  go_wp2
  go_ret
  have hk3 : Keeps [] V2 (V2.alloc (.cells #[.pointer (some ⟨w.drew.heap.size, 0, none⟩), .slice a2 dl.length c2] 57)) := (Keeps.refl _ _).alloc _
  have hl1 := hq1.lt
  have hq3 := (hq1.kp hk2).kp hk3
  have hz2 := hk2.size
  have hkk := ((k0.trans hk1).trans hk2).trans hk3
  rcases hd2 with ⟨rfl, rfl, rfl⟩ | ⟨y2, rfl, hown, hy1, hy2⟩
  · exact ⟨V2.heap.size, w.drew.heap.size, r1, V2.heap.size, none, 0, rfl, ⟨Blk.new _ _ _, hq3, .inl ⟨rfl, rfl, rfl, rfl⟩, by omega, by omega, by omega, by omega, hhl, hhm⟩, hkk, by omega, by omega, by omega, by omega⟩
  · exact ⟨V2.heap.size, w.drew.heap.size, r1, y2, _, c2, rfl, ⟨Blk.new _ _ _, hq3, .inr ⟨rfl, ownsRow_keeps hown hk3 (by simp)⟩, by omega, by omega, by omega, by omega, hhl, hhm⟩, hkk, by omega, by omega, by omega, by omega⟩
theorem fork_qnil (w : World) : Calls Try.prog 17 #[.pointer none] w fun e w' => e = .returned (.pointer none) ∧ w = w' := by
  go_enter Try.func17, Try.ntmps17
  go_wp2
  go_ret
  exact ⟨rfl, rfl⟩
set_option maxRecDepth 100000 in
theorem put_nil (x : It) (w : World) : Calls Try.prog 7 #[.pointer none, val x] w fun e w' => e = .returned (.bool false) ∧ Keeps [] w w' := by
  go_enter Try.func7, Try.ntmps7
  go_wp2
  refine wp_region_held_drew (S := AnyW) (by kernel_rfl) trivial (fun hHeld => ?_)
  refine' wpAnyH_take (i := 0) (oi := _) (v := _) ?hP0 (by kernel_rfl) (by kernel_rfl) (by kernel_rfl) ?hQP0 (Or.inl ⟨?hwP0, ?hyP0⟩) hHeld ?restP0
  case hP0 => (simp only [List.getElem?_toArray, List.getElem?_cons_zero]; rfl)
  case hQP0 => exact fun _ _ _ h => h
  case hwP0 => rfl
  case hyP0 => (intro w hSw; (try dsimp only at hSw); go_simp; try with_reducible rfl)
  try simp only [Act.put, List.setIfInBounds_toArray, List.set_cons_zero, List.set_cons_succ]
  refine' wpAnyH_take (i := 1) (oi := _) (v := _) ?hP1 (by kernel_rfl) (by kernel_rfl) (by kernel_rfl) ?hQP1 (Or.inl ⟨?hwP1, ?hyP1⟩) hHeld ?restP1
  case hP1 => (simp only [List.getElem?_toArray, List.getElem?_cons_succ, List.getElem?_cons_zero]; rfl)
  case hQP1 => exact fun _ _ _ h => h
  case hwP1 => rfl
  case hyP1 => (intro w hSw; (try dsimp only at hSw); go_simp; try with_reducible rfl)
  try simp only [Act.put, List.setIfInBounds_toArray, List.set_cons_zero, List.set_cons_succ]
  refine' wpAnyH_take (i := 2) (oi := _) (v := _) ?hP2 (by kernel_rfl) (by kernel_rfl) (by kernel_rfl) ?hQP2 (Or.inl ⟨?hwP2, ?hyP2⟩) hHeld ?restP2
  case hP2 => (simp only [List.getElem?_toArray, List.getElem?_cons_succ, List.getElem?_cons_zero]; rfl)
  case hQP2 => exact fun _ _ _ h => h
  case hwP2 => rfl
  case hyP2 => (intro w hSw; (try dsimp only at hSw); go_simp; try with_reducible rfl)
  try simp only [Act.put, List.setIfInBounds_toArray, List.set_cons_zero, List.set_cons_succ]
  refine wpAnyH_off (i := 3) (d := some 8) rfl (by kernel_rfl) (by kernel_rfl) (by kernel_rfl) (fun _ _ _ h => h) (by rfl) hHeld ?_
  try simp only [Act.put, List.setIfInBounds_toArray, List.set_cons_zero, List.set_cons_succ]
  refine wpAnyH_off (i := 4) (d := some 9) rfl (by kernel_rfl) (by kernel_rfl) (by kernel_rfl) (fun _ _ _ h => h) (by rfl) hHeld ?_
  try simp only [Act.put, List.setIfInBounds_toArray, List.set_cons_zero, List.set_cons_succ]
  refine wpAnyH_off (i := 5) (d := some 10) rfl (by kernel_rfl) (by kernel_rfl) (by kernel_rfl) (fun _ _ _ h => h) (by rfl) hHeld ?_
  try simp only [Act.put, List.setIfInBounds_toArray, List.set_cons_zero, List.set_cons_succ]
  refine wpAnyH_off (i := 6) (d := some 11) rfl (by kernel_rfl) (by kernel_rfl) (by kernel_rfl) (fun _ _ _ h => h) (by rfl) hHeld ?_
  try simp only [Act.put, List.setIfInBounds_toArray, List.set_cons_zero, List.set_cons_succ]
  refine wpAnyH_off (i := 7) (d := some 12) rfl (by kernel_rfl) (by kernel_rfl) (by kernel_rfl) (fun _ _ _ h => h) (by rfl) hHeld ?_
  try simp only [Act.put, List.setIfInBounds_toArray, List.set_cons_zero, List.set_cons_succ]
  refine wpAnyH_off (i := 8) (d := some 13) rfl (by kernel_rfl) (by kernel_rfl) (by kernel_rfl) (fun _ _ _ h => h) (by rfl) hHeld ?_
  try simp only [Act.put, List.setIfInBounds_toArray, List.set_cons_zero, List.set_cons_succ]
  refine wpAnyH_off (i := 9) (d := some 14) rfl (by kernel_rfl) (by kernel_rfl) (by kernel_rfl) (fun _ _ _ h => h) (by rfl) hHeld ?_
  try simp only [Act.put, List.setIfInBounds_toArray, List.set_cons_zero, List.set_cons_succ]
  refine wpAnyH_off (i := 10) (d := some 15) rfl (by kernel_rfl) (by kernel_rfl) (by kernel_rfl) (fun _ _ _ h => h) (by rfl) hHeld ?_
  try simp only [Act.put, List.setIfInBounds_toArray, List.set_cons_zero, List.set_cons_succ]
  refine' wpAnyH_take (i := 11) (oi := _) (v := _) ?hP11 (by kernel_rfl) (by kernel_rfl) (by kernel_rfl) ?hQP11 (Or.inl ⟨?hwP11, ?hyP11⟩) hHeld ?restP11
  case hP11 => (simp only [List.getElem?_toArray, List.getElem?_cons_succ, List.getElem?_cons_zero]; rfl)
  case hQP11 => exact fun _ _ _ h => h
  case hwP11 => rfl
  case hyP11 => (intro w hSw; (try dsimp only at hSw); go_simp; try with_reducible rfl)
  try simp only [Act.put, List.setIfInBounds_toArray, List.set_cons_zero, List.set_cons_succ]
  refine' wpAnyH_take (i := 12) (oi := _) (v := _) ?hP12 (by kernel_rfl) (by kernel_rfl) (by kernel_rfl) ?hQP12 (Or.inl ⟨?hwP12, ?hyP12⟩) hHeld ?restP12
  case hP12 => (simp only [List.getElem?_toArray, List.getElem?_cons_succ, List.getElem?_cons_zero]; rfl)
  case hQP12 => exact fun _ _ _ h => h
  case hwP12 => rfl
  case hyP12 => (intro w hSw; (try dsimp only at hSw); go_simp; try with_reducible rfl)
  try simp only [Act.put, List.setIfInBounds_toArray, List.set_cons_zero, List.set_cons_succ]
  refine wpAnyH_off (i := 13) (d := some 18) rfl (by kernel_rfl) (by kernel_rfl) (by kernel_rfl) (fun _ _ _ h => h) (by rfl) hHeld ?_
  try simp only [Act.put, List.setIfInBounds_toArray, List.set_cons_zero, List.set_cons_succ]
  refine wpAnyH_off (i := 14) (d := some 19) rfl (by kernel_rfl) (by kernel_rfl) (by kernel_rfl) (fun _ _ _ h => h) (by rfl) hHeld ?_
  try simp only [Act.put, List.setIfInBounds_toArray, List.set_cons_zero, List.set_cons_succ]
  refine wpAnyH_off (i := 15) (d := some 20) rfl (by kernel_rfl) (by kernel_rfl) (by kernel_rfl) (fun _ _ _ h => h) (by rfl) hHeld ?_
  try simp only [Act.put, List.setIfInBounds_toArray, List.set_cons_zero, List.set_cons_succ]
  refine wpAnyH_off (i := 16) (d := some 21) rfl (by kernel_rfl) (by kernel_rfl) (by kernel_rfl) (fun _ _ _ h => h) (by rfl) hHeld ?_
  try simp only [Act.put, List.setIfInBounds_toArray, List.set_cons_zero, List.set_cons_succ]
  refine wpAnyH_off (i := 17) (d := some 22) rfl (by kernel_rfl) (by kernel_rfl) (by kernel_rfl) (fun _ _ _ h => h) (by rfl) hHeld ?_
  try simp only [Act.put, List.setIfInBounds_toArray, List.set_cons_zero, List.set_cons_succ]
  refine wpAnyH_off (i := 18) (d := some 23) rfl (by kernel_rfl) (by kernel_rfl) (by kernel_rfl) (fun _ _ _ h => h) (by rfl) hHeld ?_
  try simp only [Act.put, List.setIfInBounds_toArray, List.set_cons_zero, List.set_cons_succ]
  refine' wpAnyH_take (i := 19) (oi := _) (v := _) ?hP19 (by kernel_rfl) (by kernel_rfl) (by kernel_rfl) ?hQP19 (Or.inl ⟨?hwP19, ?hyP19⟩) hHeld ?restP19
  case hP19 => (simp only [List.getElem?_toArray, List.getElem?_cons_succ, List.getElem?_cons_zero]; rfl)
  case hQP19 => exact fun _ _ _ h => h
  case hwP19 => rfl
  case hyP19 => (intro w hSw; (try dsimp only at hSw); go_simp; try with_reducible rfl)
  try simp only [Act.put, List.setIfInBounds_toArray, List.set_cons_zero, List.set_cons_succ]
  refine' wpAnyH_take (i := 20) (oi := _) (v := _) ?hP20 (by kernel_rfl) (by kernel_rfl) (by kernel_rfl) ?hQP20 (Or.inl ⟨?hwP20, ?hyP20⟩) hHeld ?restP20
  case hP20 => (simp only [List.getElem?_toArray, List.getElem?_cons_succ, List.getElem?_cons_zero]; rfl)
  case hQP20 => exact fun _ _ _ h => h
  case hwP20 => rfl
  case hyP20 => (intro w hSw; (try dsimp only at hSw); go_simp; try with_reducible rfl)
  try simp only [Act.put, List.setIfInBounds_toArray, List.set_cons_zero, List.set_cons_succ]
  refine wpAnyH_done (by kernel_rfl) ?_ _
  clear hHeld
  go_wp2
  go_ret
  exact ⟨rfl, ((Keeps.refl _ w).alloc _).drew⟩
end Qp
end Go.Proofs.Ytaepcedcjhliaaa
