/- What must be whatever is asked (live); the law BeatPulses: its walk. -/
import Derived.Test.YtbkljphhgghjdaaBeatG
import Derived.ChangeKeysEq
namespace Go.Proofs.Ytbkljphhgghjdaa
open Go.RowKit Go.ChangeMaps
namespace Be
open Sm Ph Fl
/-- Four counts are the same as themselves. -/
theorem eq4d (d : Nat) (n0 n1 n2 n3 : Int) (w : World) : (Op.equalIn (d + 2) 23 (.agg #[.int .i64 n0, .int .i64 n1, .int .i64 n2, .int .i64 n3]) (.agg #[.int .i64 n0, .int .i64 n1, .int .i64 n2, .int .i64 n3])).run Try.prog w = .ok true w := by
  have hu : Try.prog.underlying 23 = some (.array 4 3) := by kernel_rfl
  have e0 := fun (n : Int) (w : World) => run_equalIn_int (P := Try.prog) w d 3 .i64 .i64 n n (by kernel_rfl)
  have hs : ∀ w, (sizeOf 3).run Try.prog w = .ok 1 w := fun _ => by kernel_rfl
  have hp : ∀ (j : Nat) (v : Value) (xs : Array Value) w, xs[j]? = some v → (part 3 xs j).run Try.prog w = .ok v w := by
    intro j v xs w h
    exact run_part_plain (P := Try.prog) (w := w) (by kernel_rfl) h
  have h0 := fun w => hp 0 (.int .i64 n0) #[.int .i64 n0, .int .i64 n1, .int .i64 n2, .int .i64 n3] w rfl
  have h1 := fun w => hp 1 (.int .i64 n1) #[.int .i64 n0, .int .i64 n1, .int .i64 n2, .int .i64 n3] w rfl
  have h2 := fun w => hp 2 (.int .i64 n2) #[.int .i64 n0, .int .i64 n1, .int .i64 n2, .int .i64 n3] w rfl
  have h3 := fun w => hp 3 (.int .i64 n3) #[.int .i64 n0, .int .i64 n1, .int .i64 n2, .int .i64 n3] w rfl
  unfold Op.equalIn
  simp only [Sem.run_bind, run_underlying hu, Result.andThen_ok, hs]
  simp only [Std.Legacy.Range.forIn_eq_forIn_range']
  rw [show (List.range' 0 ([:4] : Std.Legacy.Range).size) = [0, 1, 2, 3] from rfl]
  simp only [List.forIn_cons, List.forIn_nil, Sem.run_bind, Nat.mul_one, h0, h1, h2, h3, Result.andThen_ok, e0, beq_self_eq_true, Bool.not_true, Bool.false_eq_true, if_false, Sem.run_pure]
theorem eq4 (n0 n1 n2 n3 : Int) (w : World) : (Op.equalIn 10000 23 (.agg #[.int .i64 n0, .int .i64 n1, .int .i64 n2, .int .i64 n3]) (.agg #[.int .i64 n0, .int .i64 n1, .int .i64 n2, .int .i64 n3])).run Try.prog w = .ok true w := eq4d 9998 n0 n1 n2 n3 w
theorem wh_2 : Wh 4611686018427387904 2 := ⟨false, by decide +kernel, by decide⟩
theorem wh_3 : Wh 4613937818241073152 3 := ⟨false, by decide +kernel, by decide⟩
theorem ticks_live (w : World) (b : Nat) (h : Blk w b 3 #[.int .i64 0, .int .i64 1, .int .i64 5]) : Ticks w (some ⟨b, 0, none⟩) 3 [0, 1, 5] := by
  refine ⟨rfl, by decide, fun k hk => ⟨b, 0, rfl, h.lt, ?_⟩⟩
  have h3 : k = 0 ∨ k = 1 ∨ k = 2 := by omega
  rcases h3 with rfl | rfl | rfl
  · exact h.cell 0
  · exact h.cell 1
  · exact h.cell 2
theorem live_any (w : World) : Calls Try.prog 8 #[] w fun e w' => e = .returned (.bool true) ∧ Keeps [] w w' := by
  have h0 := Blk.new w 3 #[.int .i64 0, .int .i64 1, .int .i64 5]
  have HT := Lib.hid (ticks_live _ _ h0)
  clear h0
  have e1 : rP 1 (nn [0, 1, 5]) = 1 := by decide
  have e2 : iP 1 (nn [0, 1, 5]) = 2 := by decide
  have e3 : rP 0 (nn [0, 1, 5]) = 3 := by decide
  have e4 : iP 0 (nn [0, 1, 5]) = 0 := by decide
  have e5 : cnt 0 (nn [0, 1, 5]) = 1 ∧ cnt 1 (nn [0, 1, 5]) = 2 ∧ cnt 2 (nn [0, 1, 5]) = 0 ∧ cnt 3 (nn [0, 1, 5]) = 0 := by decide
  have HC1 := Lib.hid (fun V h => pulse_any (some ⟨w.heap.size, 0, none⟩) 3 3 [0, 1, 5] 1 V h)
  have HC2 := Lib.hid (fun V h => parts_any (some ⟨w.heap.size, 0, none⟩) 3 3 [0, 1, 5] V h)
  have HC3 := Lib.hid (fun V h => pulse_any (some ⟨w.heap.size, 0, none⟩) 3 3 [0, 1, 5] 0 V h)
  rw [e1, e2] at HC1
  rw [e3, e4] at HC3
  unfold IsParts at HC2
  rw [e5.1, e5.2.1, e5.2.2.1, e5.2.2.2] at HC2
  clear e1 e2 e3 e4 e5
  have hq4 := eq4
  go_enter Try.func8, Try.ntmps8
  go_wp2_with fail
  refine (HC1.out _ HT.out).mono ?_
  rintro e w1 ⟨x, y, rfl, hw, k1⟩
  have o1 := eq_of hw.1 wh_p1 (by decide)
  have o2 := eq_of hw.2 wh_2 (by decide)
  have HT1 := Lib.hid (HT.out.keeps k1)
  go_wp2_with fail
  refine (HC2.out _ HT1.out).mono ?_
  rintro e w2 ⟨rfl, k2⟩
  have HT2 := Lib.hid (HT1.out.keeps k2)
  go_wp2_with fail
  refine (HC3.out _ HT2.out).mono ?_
  rintro e w3 ⟨x3, y3, rfl, hw3, k3⟩
  have o3 := eq_of hw3.1 wh_3 (by decide)
  have o4 := eq_of hw3.2 wh_p0 (by decide)
  have HK := Lib.hid (((((Keeps.refl [] w).alloc _).trans k1).trans k2).trans k3)
  clear k1 k2 k3 hw hw3
  go_wp2_with fail
  go_ret
  exact ⟨rfl, HK.out⟩
/-- How many leave r. -/
def Pn (l : List Int) (r : Nat) : Int := cnt (r : Int) l
theorem rP_rR (k : Int) (l : List Int) : rP k l = rR k (Pn l) 4 := by
  rw [rP_parts]
  simp only [rR, Int.zero_add]
  rfl
theorem iP_rI (k : Int) (l : List Int) : iP k l = rI k (Pn l) 4 := by
  rw [iP_parts]
  simp only [rI, Int.zero_add]
  rfl
theorem Pn_bd (l : List Int) (h : l.length ≤ 500) (j : Nat) : 0 ≤ Pn l j ∧ Pn l j ≤ 600 := by
  have := cnt_bd (j : Int) l
  unfold Pn
  omega
attribute [local irreducible] cnt Pn rR rI
theorem keep5 {V V' W0 : World} {b : Nat} {u0 u1 u2 u3 : Value} (h : V.cell? ⟨b, 0, none⟩ = some u0 ∧ V.cell? ⟨b, 1, none⟩ = some u1 ∧ V.cell? ⟨b, 2, none⟩ = some u2 ∧ V.cell? ⟨b, 3, none⟩ = some u3 ∧ Keeps [] W0 V) (k : Keeps [] V V') (hb : b < W0.heap.size) :
    V'.cell? ⟨b, 0, none⟩ = some u0 ∧ V'.cell? ⟨b, 1, none⟩ = some u1 ∧ V'.cell? ⟨b, 2, none⟩ = some u2 ∧ V'.cell? ⟨b, 3, none⟩ = some u3 ∧ Keeps [] W0 V' := by
  obtain ⟨h0, h1, h2, h3, hK⟩ := h
  have hlt : b < V.heap.size := Nat.lt_of_lt_of_le hb hK.size
  exact ⟨(k.cell (p := ⟨b, 0, none⟩) hlt (by simp)).trans h0, (k.cell (p := ⟨b, 1, none⟩) hlt (by simp)).trans h1, (k.cell (p := ⟨b, 2, none⟩) hlt (by simp)).trans h2, (k.cell (p := ⟨b, 3, none⟩) hlt (by simp)).trans h3, hK.trans k⟩
def IsTrue (w : World) (e : Ending) (w' : World) : Prop := e = .returned (.bool true) ∧ Keeps [] w w'
theorem spec_true (l : List Int) (hl : l.length ≤ 500) (f : Nat → Nat × Nat) (hf : ∀ j : Nat, j < 4 → wIs (f j).1 (f j).2 (rP (j : Int) l) (iP (j : Int) l)) (w : World) :
    Calls Try.prog 10 #[.agg #[cx (f 0), cx (f 1), cx (f 2), cx (f 3)], .agg #[.int .i64 (Pn l 0), .int .i64 (Pn l 1), .int .i64 (Pn l 2), .int .i64 (Pn l 3)]] w (IsTrue w) :=
  rspectrum_any f (Pn l) (Pn_bd l hl) (fun j hj => by have := hf j hj; rwa [rP_rR, iP_rI] at this) w
theorem is_true (l : List Int) (hl : l.length ≤ 500) (k : Int) (x y : Nat) (h : wIs x y (rP k l) (iP k l)) (w : World) :
    Calls Try.prog 12 #[.complex .f64 x y, .int .i64 (rR k (Pn l) 4), .int .i64 (rI k (Pn l) 4)] w (IsTrue w) := by
  have q1 := rR_bd k (Pn l) (Pn_bd l hl) 4
  have q2 := rI_bd k (Pn l) (Pn_bd l hl) 4
  rw [rP_rR, iP_rI] at h
  refine (is_any x y _ _ w h (by omega) (by omega)).mono ?_
  rintro e w' ⟨rfl, rfl⟩
  exact ⟨rfl, Keeps.refl _ _⟩
theorem parts_Pn (a : Option Addr) (len cap : Nat) (zs : List Int) (w : World) (h : Ticks w a len zs) :
    Calls Try.prog 9 #[.slice a len cap] w fun e w' => e = .returned (.agg #[.int .i64 (Pn (nn zs) 0), .int .i64 (Pn (nn zs) 1), .int .i64 (Pn (nn zs) 2), .int .i64 (Pn (nn zs) 3)]) ∧ Keeps [] w w' := by
  unfold Pn
  exact parts_any a len cap zs w h
theorem rparts_Pn (a : Option Addr) (len cap : Nat) (zs : List Int) (w : World) (h : Ticks w a len zs) :
    Calls Try.prog 6 #[.slice a len cap] w fun e w' => e = .returned (.agg #[.int .i64 (Pn (nn zs) 0), .int .i64 (Pn (nn zs) 1), .int .i64 (Pn (nn zs) 2), .int .i64 (Pn (nn zs) 3)]) ∧ Keeps [] w w' := by
  unfold Pn
  exact rparts_any a len cap zs w h
set_option maxRecDepth 100000 in
set_option maxHeartbeats 2000000 in
theorem pulses_law (a : Option Addr) (len cap : Nat) (zs : List Int) (k : Int) (w : World) (hlen : len ≤ cap) (hcap : cap ≤ 9223372036854775807)
    (hT : Ticks w a (min len 500) (zs.take (min len 500))) :
    Calls Try.prog 3 #[.slice a len cap, .int .i64 k] w fun e w' => e = .returned (.bool true) ∧ Keeps [] w w' := by
  have HT := Lib.hid hT
  have hfew := nn_few hT
  clear hT
  obtain ⟨m, hm⟩ : ∃ m, min len 500 = m := ⟨_, rfl⟩
  generalize zs.take (min len 500) = ts at *
  rw [hm] at HT
  have hmin : (if (500 : Int) < (len : Int) then (500 : Int) else (len : Int)) = (m : Int) := by split <;> omega
  have hml : m ≤ cap := by omega
  have hml2 : m ≤ 500 := by omega
  clear hm
  have HP := Lib.hid (Pn_bd (nn ts) hfew)
  have hq4 := eq4
  have hlt : w.heap.size ≤ w.heap.size := Nat.le_refl _
  go_enter Try.func3, Try.ntmps3
  go_wp2_with fail
  refine (rparts_Pn _ _ _ _ _ HT.out).mono ?_
  rintro e w1 ⟨rfl, k1⟩
  have hB := Blk.new w1 23 #[.int .i64 (Pn (nn ts) 0), .int .i64 (Pn (nn ts) 1), .int .i64 (Pn (nn ts) 2), .int .i64 (Pn (nn ts) 3)]
  have hK := k1.alloc (.cells #[.int .i64 (Pn (nn ts) 0), .int .i64 (Pn (nn ts) 1), .int .i64 (Pn (nn ts) 2), .int .i64 (Pn (nn ts) 3)] 23)
  have HB := Lib.hid hB
  have HK := Lib.hid hK
  clear hB hK k1
  go_wp2_with fail
  refine (rpulse_any (Pn (nn ts)) HP.out k _).mono ?_
  rintro e w2 ⟨rfl, k2⟩
  have hB := HB.out.keeps k2 (by simp)
  have HT2 := Lib.hid (HT.out.keeps (HK.out.trans k2))
  have HK2 := Lib.hid (HK.out.trans k2)
  have hbl := hB.lt
  clear HB HK k2 HT
  generalize w1.heap.size = b at *
  have c0 : w2.drew.cell? ⟨b, 0, none⟩ = some (.int .i64 (Pn (nn ts) 0)) := hB.cell 0
  have c1 : w2.drew.cell? ⟨b, 1, none⟩ = some (.int .i64 (Pn (nn ts) 1)) := hB.cell 1
  have c2 : w2.drew.cell? ⟨b, 2, none⟩ = some (.int .i64 (Pn (nn ts) 2)) := hB.cell 2
  have c3 : w2.drew.cell? ⟨b, 3, none⟩ = some (.int .i64 (Pn (nn ts) 3)) := hB.cell 3
  have HBB := Lib.hid hB
  clear hB
  have HLV := Lib.hid (fun V => live_any V)
  have HPA := Lib.hid (fun V (h : Keeps [] w2 V) => parts_Pn a m cap ts V (HT2.out.keeps h))
  have HSP := Lib.hid (fun V (h : Keeps [] w2 V) => spectrum_any a m cap ts V (HT2.out.keeps h))
  have HPU := Lib.hid (fun V (h : Keeps [] w2 V) => pulse_any a m cap ts k V (HT2.out.keeps h))
  have HST := Lib.hid (fun f hf V => spec_true (nn ts) hfew f hf V)
  have HIT := Lib.hid (fun x y h V => is_true (nn ts) hfew k x y h V)
  have hk0 : Keeps [] w2 w2.drew := (Keeps.refl _ _).drew
  generalize rR k (Pn (nn ts)) 4 = re at *
  generalize rI k (Pn (nn ts)) 4 = im at *
  generalize Pn (nn ts) 0 = p0 at *
  generalize Pn (nn ts) 1 = p1 at *
  generalize Pn (nn ts) 2 = p2 at *
  generalize Pn (nn ts) 3 = p3 at *
  go_wp2_with fail
  refine wp_region_held_drew (S := (fun V => V.cell? ⟨b, 0, none⟩ = some (.int .i64 p0) ∧ V.cell? ⟨b, 1, none⟩ = some (.int .i64 p1) ∧ V.cell? ⟨b, 2, none⟩ = some (.int .i64 p2) ∧ V.cell? ⟨b, 3, none⟩ = some (.int .i64 p3) ∧ Keeps [] w2 V)) (by kernel_rfl) ⟨c0, c1, c2, c3, hk0⟩ (fun hHeld => ?_)
  refine wpAnyH_ready (rs := [0]) (by kernel_rfl) (by simp) ?_
  refine AllReadyH.cons rfl (fun K hK => ?_) AllReadyH.nil
  go_simp
  refine (HLV.out _).mono ?_
  rintro e v1 ⟨rfl, kk⟩
  try go_wp2_with fail
  refine hK.out _ _ (keep5 hHeld kk hbl) (fun hHeld' => ?_)
  clear hK K hHeld
  have hHeld := hHeld'
  clear hHeld'
  try simp only [Act.put, List.setIfInBounds_toArray, List.set_cons_zero, List.set_cons_succ]
  refine' wpAnyH_take (i := 1) (oi := _) (v := _) ?hL1 (by kernel_rfl) (by kernel_rfl) (by kernel_rfl) ?hQL1 (Or.inl ⟨?hwL1, ?hyL1⟩) hHeld ?restL1
  case hL1 => (simp only [List.getElem?_toArray, List.getElem?_cons_succ, List.getElem?_cons_zero]; rfl)
  case hQL1 => exact fun _ _ _ h => h
  case hwL1 => rfl
  case hyL1 => (intro w hSw; (try dsimp only at hSw); go_simp; try with_reducible rfl)
  try simp only [Act.put, List.setIfInBounds_toArray, List.set_cons_zero, List.set_cons_succ]
  refine' wpAnyH_take (i := 2) (oi := _) (v := _) ?hL2 (by kernel_rfl) (by kernel_rfl) (by kernel_rfl) ?hQL2 (Or.inl ⟨?hwL2, ?hyL2⟩) hHeld ?restL2
  case hL2 => (simp only [List.getElem?_toArray, List.getElem?_cons_succ, List.getElem?_cons_zero]; rfl)
  case hQL2 => exact fun _ _ _ h => h
  case hwL2 => rfl
  case hyL2 => (intro w hSw; (try dsimp only at hSw); go_simp; try with_reducible rfl)
  try simp only [Act.put, List.setIfInBounds_toArray, List.set_cons_zero, List.set_cons_succ]
  refine' wpAnyH_take (i := 4) (oi := _) (v := _) ?hL4 (by kernel_rfl) (by kernel_rfl) (by kernel_rfl) ?hQL4 (Or.inl ⟨?hwL4, ?hyL4⟩) hHeld ?restL4
  case hL4 => (simp only [List.getElem?_toArray, List.getElem?_cons_succ, List.getElem?_cons_zero]; rfl)
  case hQL4 => exact fun _ _ _ h => h
  case hwL4 => rfl
  case hyL4 => (intro w hSw; (try dsimp only at hSw); go_simp; try with_reducible rfl)
  try simp only [Act.put, List.setIfInBounds_toArray, List.set_cons_zero, List.set_cons_succ]
  refine wpAnyH_ready (rs := [3]) (by kernel_rfl) (by simp) ?_
  refine AllReadyH.cons rfl (fun K hK => ?_) AllReadyH.nil
  go_simp
  refine (HPA.out _ hHeld.2.2.2.2).mono ?_
  rintro e v1 ⟨rfl, kk⟩
  try go_wp2_with fail
  refine hK.out _ _ (keep5 hHeld kk hbl) (fun hHeld' => ?_)
  clear hK K hHeld
  have hHeld := hHeld'
  clear hHeld'
  try simp only [Act.put, List.setIfInBounds_toArray, List.set_cons_zero, List.set_cons_succ]
  refine' wpAnyH_take (i := 5) (oi := _) (v := _) ?hL5 (by kernel_rfl) (by kernel_rfl) (by kernel_rfl) ?hQL5 (Or.inl ⟨?hwL5, ?hyL5⟩) hHeld ?restL5
  case hL5 => (simp only [List.getElem?_toArray, List.getElem?_cons_succ, List.getElem?_cons_zero]; rfl)
  case hQL5 => exact fun _ _ _ h => h
  case hwL5 => rfl
  case hyL5 => (intro w hSw; (try dsimp only at hSw); go_simp; try with_reducible rfl)
  try simp only [Act.put, List.setIfInBounds_toArray, List.set_cons_zero, List.set_cons_succ]
  refine' wpAnyH_take (i := 6) (oi := _) (v := _) ?hL6 (by kernel_rfl) (by kernel_rfl) (by kernel_rfl) ?hQL6 (Or.inl ⟨?hwL6, ?hyL6⟩) hHeld ?restL6
  case hL6 => (simp only [List.getElem?_toArray, List.getElem?_cons_succ, List.getElem?_cons_zero]; rfl)
  case hQL6 => exact fun _ _ _ h => h
  case hwL6 => rfl
  case hyL6 => (intro w hSw; (try dsimp only at hSw); go_simp; try with_reducible rfl)
  try simp only [Act.put, List.setIfInBounds_toArray, List.set_cons_zero, List.set_cons_succ]
  refine' wpAnyH_take (i := 7) (oi := _) (v := _) ?hL7 (by kernel_rfl) (by kernel_rfl) (by kernel_rfl) ?hQL7 (Or.inl ⟨?hwL7, ?hyL7⟩) hHeld ?restL7
  case hL7 => (simp only [List.getElem?_toArray, List.getElem?_cons_succ, List.getElem?_cons_zero]; rfl)
  case hQL7 => exact fun _ _ _ h => h
  case hwL7 => rfl
  case hyL7 => (intro w hSw; (try dsimp only at hSw); go_simp; try with_reducible rfl)
  try simp only [Act.put, List.setIfInBounds_toArray, List.set_cons_zero, List.set_cons_succ]
  refine' wpAnyH_take (i := 8) (oi := _) (v := _) ?hL8 (by kernel_rfl) (by kernel_rfl) (by kernel_rfl) ?hQL8 (Or.inl ⟨?hwL8, ?hyL8⟩) hHeld ?restL8
  case hL8 => (simp only [List.getElem?_toArray, List.getElem?_cons_succ, List.getElem?_cons_zero]; rfl)
  case hQL8 => exact fun _ _ _ h => h
  case hwL8 => rfl
  case hyL8 => (intro w hSw; (try dsimp only at hSw); go_simp; try with_reducible rfl)
  try simp only [Act.put, List.setIfInBounds_toArray, List.set_cons_zero, List.set_cons_succ]
  refine' wpAnyH_take (i := 10) (oi := _) (v := _) ?hL10 (by kernel_rfl) (by kernel_rfl) (by kernel_rfl) ?hQL10 (Or.inl ⟨?hwL10, ?hyL10⟩) hHeld ?restL10
  case hL10 => (simp only [List.getElem?_toArray, List.getElem?_cons_succ, List.getElem?_cons_zero]; rfl)
  case hQL10 => exact fun _ _ _ h => h
  case hwL10 => rfl
  case hyL10 => (intro w hSw; (try dsimp only at hSw); go_simp; try with_reducible rfl)
  try simp only [Act.put, List.setIfInBounds_toArray, List.set_cons_zero, List.set_cons_succ]
  refine wpAnyH_ready (rs := [9]) (by kernel_rfl) (by simp) ?_
  refine AllReadyH.cons rfl (fun K hK => ?_) AllReadyH.nil
  go_simp
  refine (HSP.out _ hHeld.2.2.2.2).mono ?_
  rintro e v1 ⟨f, rfl, hf, kk⟩
  try go_wp2_with fail
  refine hK.out _ _ (keep5 hHeld kk hbl) (fun hHeld' => ?_)
  clear hK K hHeld
  have hHeld := hHeld'
  clear hHeld'
  try simp only [Act.put, List.setIfInBounds_toArray, List.set_cons_zero, List.set_cons_succ]
  refine wpAnyH_ready (rs := [11]) (by kernel_rfl) (by simp) ?_
  refine AllReadyH.cons rfl (fun K hK => ?_) AllReadyH.nil
  go_simp
  refine (HST.out f hf _).mono ?_
  rintro e v1 ⟨rfl, kk⟩
  try go_wp2_with fail
  refine hK.out _ _ (keep5 hHeld kk hbl) (fun hHeld' => ?_)
  clear hK K hHeld
  have hHeld := hHeld'
  clear hHeld'
  try simp only [Act.put, List.setIfInBounds_toArray, List.set_cons_zero, List.set_cons_succ]
  refine' wpAnyH_take (i := 12) (oi := _) (v := _) ?hL12 (by kernel_rfl) (by kernel_rfl) (by kernel_rfl) ?hQL12 (Or.inl ⟨?hwL12, ?hyL12⟩) hHeld ?restL12
  case hL12 => (simp only [List.getElem?_toArray, List.getElem?_cons_succ, List.getElem?_cons_zero]; rfl)
  case hQL12 => exact fun _ _ _ h => h
  case hwL12 => rfl
  case hyL12 => (intro w hSw; (try dsimp only at hSw); go_simp; try with_reducible rfl)
  try simp only [Act.put, List.setIfInBounds_toArray, List.set_cons_zero, List.set_cons_succ]
  refine' wpAnyH_take (i := 13) (oi := _) (v := _) ?hL13 (by kernel_rfl) (by kernel_rfl) (by kernel_rfl) ?hQL13 (Or.inl ⟨?hwL13, ?hyL13⟩) hHeld ?restL13
  case hL13 => (simp only [List.getElem?_toArray, List.getElem?_cons_succ, List.getElem?_cons_zero]; rfl)
  case hQL13 => exact fun _ _ _ h => h
  case hwL13 => rfl
  case hyL13 => (intro w hSw; (try dsimp only at hSw); go_simp; try with_reducible rfl)
  try simp only [Act.put, List.setIfInBounds_toArray, List.set_cons_zero, List.set_cons_succ]
  refine' wpAnyH_take (i := 14) (oi := _) (v := _) ?hL14 (by kernel_rfl) (by kernel_rfl) (by kernel_rfl) ?hQL14 (Or.inl ⟨?hwL14, ?hyL14⟩) hHeld ?restL14
  case hL14 => (simp only [List.getElem?_toArray, List.getElem?_cons_succ, List.getElem?_cons_zero]; rfl)
  case hQL14 => exact fun _ _ _ h => h
  case hwL14 => rfl
  case hyL14 => (intro w hSw; (try dsimp only at hSw); go_simp; try with_reducible rfl)
  try simp only [Act.put, List.setIfInBounds_toArray, List.set_cons_zero, List.set_cons_succ]
  refine' wpAnyH_take (i := 15) (oi := _) (v := _) ?hL15 (by kernel_rfl) (by kernel_rfl) (by kernel_rfl) ?hQL15 (Or.inl ⟨?hwL15, ?hyL15⟩) hHeld ?restL15
  case hL15 => (simp only [List.getElem?_toArray, List.getElem?_cons_succ, List.getElem?_cons_zero]; rfl)
  case hQL15 => exact fun _ _ _ h => h
  case hwL15 => rfl
  case hyL15 => (intro w hSw; (try dsimp only at hSw); go_simp; try with_reducible rfl)
  try simp only [Act.put, List.setIfInBounds_toArray, List.set_cons_zero, List.set_cons_succ]
  refine' wpAnyH_take (i := 17) (oi := _) (v := _) ?hL17 (by kernel_rfl) (by kernel_rfl) (by kernel_rfl) ?hQL17 (Or.inl ⟨?hwL17, ?hyL17⟩) hHeld ?restL17
  case hL17 => (simp only [List.getElem?_toArray, List.getElem?_cons_succ, List.getElem?_cons_zero]; rfl)
  case hQL17 => exact fun _ _ _ h => h
  case hwL17 => rfl
  case hyL17 => (intro w hSw; (try dsimp only at hSw); go_simp; try with_reducible rfl)
  try simp only [Act.put, List.setIfInBounds_toArray, List.set_cons_zero, List.set_cons_succ]
  refine' wpAnyH_take (i := 18) (oi := _) (v := _) ?hL18 (by kernel_rfl) (by kernel_rfl) (by kernel_rfl) ?hQL18 (Or.inl ⟨?hwL18, ?hyL18⟩) hHeld ?restL18
  case hL18 => (simp only [List.getElem?_toArray, List.getElem?_cons_succ, List.getElem?_cons_zero]; rfl)
  case hQL18 => exact fun _ _ _ h => h
  case hwL18 => rfl
  case hyL18 => (intro w hSw; (try dsimp only at hSw); go_simp; try with_reducible rfl)
  try simp only [Act.put, List.setIfInBounds_toArray, List.set_cons_zero, List.set_cons_succ]
  refine wpAnyH_ready (rs := [16]) (by kernel_rfl) (by simp) ?_
  refine AllReadyH.cons rfl (fun K hK => ?_) AllReadyH.nil
  go_simp
  refine (HPU.out _ hHeld.2.2.2.2).mono ?_
  rintro e v1 ⟨x, y, rfl, hxy, kk⟩
  try go_wp2_with fail
  refine hK.out _ _ (keep5 hHeld kk hbl) (fun hHeld' => ?_)
  clear hK K hHeld
  have hHeld := hHeld'
  clear hHeld'
  try simp only [Act.put, List.setIfInBounds_toArray, List.set_cons_zero, List.set_cons_succ]
  refine wpAnyH_ready (rs := [19]) (by kernel_rfl) (by simp) ?_
  refine AllReadyH.cons rfl (fun K hK => ?_) AllReadyH.nil
  go_simp
  refine (HIT.out x y hxy _).mono ?_
  rintro e v1 ⟨rfl, kk⟩
  try go_wp2_with fail
  refine hK.out _ _ (keep5 hHeld kk hbl) (fun hHeld' => ?_)
  clear hK K hHeld
  have hHeld := hHeld'
  clear hHeld'
  try simp only [Act.put, List.setIfInBounds_toArray, List.set_cons_zero, List.set_cons_succ]
  refine' wpAnyH_take (i := 20) (oi := _) (v := _) ?hL20 (by kernel_rfl) (by kernel_rfl) (by kernel_rfl) ?hQL20 (Or.inl ⟨?hwL20, ?hyL20⟩) hHeld ?restL20
  case hL20 => (simp only [List.getElem?_toArray, List.getElem?_cons_succ, List.getElem?_cons_zero]; rfl)
  case hQL20 => exact fun _ _ _ h => h
  case hwL20 => rfl
  case hyL20 => (intro w hSw; (try dsimp only at hSw); go_simp; try with_reducible rfl)
  try simp only [Act.put, List.setIfInBounds_toArray, List.set_cons_zero, List.set_cons_succ]
  refine' wpAnyH_take (i := 21) (oi := _) (v := _) ?hL21 (by kernel_rfl) (by kernel_rfl) (by kernel_rfl) ?hQL21 (Or.inl ⟨?hwL21, ?hyL21⟩) hHeld ?restL21
  case hL21 => (simp only [List.getElem?_toArray, List.getElem?_cons_succ, List.getElem?_cons_zero]; rfl)
  case hQL21 => exact fun _ _ _ h => h
  case hwL21 => rfl
  case hyL21 => (intro w hSw; (try dsimp only at hSw); go_simp; try with_reducible rfl)
  try simp only [Act.put, List.setIfInBounds_toArray, List.set_cons_zero, List.set_cons_succ]
  refine wpAnyH_done (by kernel_rfl) ?_ _
  go_wp2_with fail
  go_ret
  exact ⟨rfl, HK2.out.trans hHeld.2.2.2.2⟩
end Be
end Go.Proofs.Ytbkljphhgghjdaa
