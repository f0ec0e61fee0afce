/- Queues of campanile/frame.Frame: the first thing, that goes. -/
import Derived.Test.YtdbkgpnbmafpmaaQrFB
namespace Go.Proofs.Ytdbkgpnbmafpmaa
open Go.RowKit
namespace FiF
open Sm
def IsPop (g r : Nat) (x : It) (l : List It) (lim dr : Int) (w : World) (e : Ending) (w' : World) : Prop :=
  e = .returned (.tuple #[val x, .bool true]) ∧ Qu w' g r l lim dr ∧ Keeps [g, r] w w'
attribute [local irreducible] cs
theorem pop_none (g r : Nat) (lim dr : Int) (w : World) (h : Qu w g r [] lim dr) :
    Calls Try.prog 33 #[.pointer (some ⟨g, 0, none⟩)] w (IsV (.tuple #[val z, .bool false]) w) := by
  have hk0 : Keeps [] w (w.alloc (.cells #[.int .i64 0, .int .i64 0, .string ⟨#[]⟩] 39)) := (Keeps.refl [] w).alloc _
  have HP := Lib.hid (peek_out g r [] lim dr 0 _ (h.kp hk0) (by simp))
  clear h
  go_enter Try.func33, Try.ntmps33
  go_wp2_with fail
  refine HP.out.mono ?_
  rintro e w1 ⟨rfl, hk1⟩
  have hB := (Blk.new w 39 #[.int .i64 0, .int .i64 0, .string ⟨#[]⟩]).keeps hk1 (by simp)
  have hwl : w.heap.size < w1.heap.size := by have := hk1.size; simp at this; omega
  have hk1' := hk0.trans hk1
  go_wp2_with (first | (refine wpList_store_blk rfl _ _ rfl w1.heap.size #[.int .i64 0, .int .i64 0, .string ⟨#[]⟩] z rfl rfl (Blk.new w1 39 #[.int .i64 0, .int .i64 0, .string ⟨#[]⟩]) rfl ?_; intro w2 h4 hk4) | (refine wpList_load_blk rfl _ rfl w1.heap.size z rfl h4 ?_) | (refine wpList_store_blk rfl _ _ rfl w.heap.size #[.int .i64 0, .int .i64 0, .string ⟨#[]⟩] z rfl rfl ((hB.alloc _).keeps hk4 (by simp; omega)) rfl ?_; intro w3 h5 hk5))
  refine bodyPost_ret (results_cell2 rfl _ _ _ rfl (load_blk z h5)) rfl ?_
  exact ⟨rfl, (((hk1'.alloc _).next hk4 (by simp; omega)).next hk5 (by simp))⟩
theorem pop_nil (w : World) : Calls Try.prog 33 #[.pointer none] w (IsV (.tuple #[val z, .bool false]) w) := by
  have hk0 : Keeps [] w (w.alloc (.cells #[.int .i64 0, .int .i64 0, .string ⟨#[]⟩] 39)) := (Keeps.refl [] w).alloc _
  have HP := Lib.hid (peek_nil 0 (w.alloc (.cells #[.int .i64 0, .int .i64 0, .string ⟨#[]⟩] 39)))
  go_enter Try.func33, Try.ntmps33
  go_wp2_with fail
  refine HP.out.mono ?_
  rintro e w1 ⟨rfl, hk1⟩
  have hB := (Blk.new w 39 #[.int .i64 0, .int .i64 0, .string ⟨#[]⟩]).keeps hk1 (by simp)
  have hwl : w.heap.size < w1.heap.size := by have := hk1.size; simp at this; omega
  have hk1' := hk0.trans hk1
  go_wp2_with (first | (refine wpList_store_blk rfl _ _ rfl w1.heap.size #[.int .i64 0, .int .i64 0, .string ⟨#[]⟩] z rfl rfl (Blk.new w1 39 #[.int .i64 0, .int .i64 0, .string ⟨#[]⟩]) rfl ?_; intro w2 h4 hk4) | (refine wpList_load_blk rfl _ rfl w1.heap.size z rfl h4 ?_) | (refine wpList_store_blk rfl _ _ rfl w.heap.size #[.int .i64 0, .int .i64 0, .string ⟨#[]⟩] z rfl rfl ((hB.alloc _).keeps hk4 (by simp; omega)) rfl ?_; intro w3 h5 hk5))
  refine bodyPost_ret (results_cell2 rfl _ _ _ rfl (load_blk z h5)) rfl ?_
  exact ⟨rfl, (((hk1'.alloc _).next hk4 (by simp; omega)).next hk5 (by simp))⟩
theorem place_next (f i len : Nat) (_h : 0 < len) : ((f + 1) % len + i) % len = (f + (i + 1)) % len := by
  rw [Nat.mod_add_mod]; congr 1; omega
theorem place_ne (f i len : Nat) (hf : f < len) (hi : i + 1 < len) : (f + (i + 1)) % len ≠ f := by
  intro e
  by_cases h : f + (i + 1) < len
  · rw [Nat.mod_eq_of_lt h] at e; omega
  · rw [Nat.mod_eq_sub_mod (by omega), Nat.mod_eq_of_lt (by omega)] at e; omega
set_option maxRecDepth 100000 in
set_option maxHeartbeats 1000000 in
theorem pop_some (g r : Nat) (x : It) (t : List It) (lim dr : Int) (w : World) (h : Qu w g r (x :: t) lim dr) :
    Calls Try.prog 33 #[.pointer (some ⟨g, 0, none⟩)] w (IsPop g r x t lim dr w) := by
  have hk0 : Keeps [] w (w.alloc (.cells #[.int .i64 0, .int .i64 0, .string ⟨#[]⟩] 39)) := (Keeps.refl [] w).alloc _
  have HP := Lib.hid (peek_in g r (x :: t) lim dr 0 x _ (h.kp hk0) rfl)
  obtain ⟨hgl, hrl⟩ := h.lt
  have HQ := Lib.hid h
  clear h
  go_enter Try.func33, Try.ntmps33
  go_wp2_with fail
  refine HP.out.mono ?_
  rintro e v1 ⟨rfl, hk1⟩
  have hB := (Blk.new w 39 #[.int .i64 0, .int .i64 0, .string ⟨#[]⟩]).keeps hk1 (by simp)
  have hwl : w.heap.size < v1.heap.size := by have := hk1.size; simp at this; omega
  have hk1' := hk0.trans hk1
  clear hk0 hk1 HP
  go_wp2_with (first | (refine wpList_store_blk rfl _ _ rfl v1.heap.size #[.int .i64 0, .int .i64 0, .string ⟨#[]⟩] x rfl rfl (Blk.new v1 39 #[.int .i64 0, .int .i64 0, .string ⟨#[]⟩]) rfl ?_; intro v2 h4 hk4))
  have hz2 : v1.heap.size < v2.heap.size := by have := hk4.size; simp at this; omega
  have hB2 := (hB.alloc (.cells #[.int .i64 0, .int .i64 0, .string ⟨#[]⟩] 39)).keeps hk4 (by simp; omega)
  have hkV := ((((hk1'.alloc (.cells #[.int .i64 0, .int .i64 0, .string ⟨#[]⟩] 39)).next hk4 (by simp; omega)).alloc (.cells #[.int .i64 0, .int .i64 0, .string ⟨#[]⟩] 39)).drew)
  have hb4 := (h4.alloc (.cells #[.int .i64 0, .int .i64 0, .string ⟨#[]⟩] 39)).drew
  have hb5 := (hB2.alloc (.cells #[.int .i64 0, .int .i64 0, .string ⟨#[]⟩] 39)).drew
  have hb6 : (v2.alloc (.cells #[.int .i64 0, .int .i64 0, .string ⟨#[]⟩] 39)).drew.rangeAt v2.heap.size 0 (cs z) := blk_range (cs z) (by rw [z_arr]; exact (Blk.new v2 39 #[.int .i64 0, .int .i64 0, .string ⟨#[]⟩]).drew)
  obtain ⟨A, len, c, f, R, h1, h2, h3, h4', h5, h6⟩ := (HQ.out.kp hkV)
  have HKV := Lib.hid hkV
  have HB45 := Lib.hid (And.intro hb4 hb5)
  clear hB hB2 hk1' hk4 h4 hkV hb4 hb5
  have hn := h1.hn
  have hlen := h1.hlen
  have hf' := h1.hf
  simp only [List.length_cons] at hn h5
  rcases h1.room with ⟨h0, _, _⟩ | ⟨h0, hA, hne, hr⟩
  · omega
  subst hA
  have hf : f < len := by omega
  have hf0 : (0 : Int) ≤ (f : Int) := by omega
  have hf1 : (f : Int) < (len : Int) := by omega
  obtain ⟨c0, c1, _, _, _, _⟩ := h1.cells
  have hgV := h1.q.lt
  have HR := Lib.hid hr
  have HQ1 := Lib.hid h1.q
  have H2 := Lib.hid h2
  have H36 := Lib.hid (And.intro h3 (And.intro h4' (And.intro h5 h6)))
  clear hr h1 h2 h3 h4' h5 h6 hf'
  go_wp2
  refine wp_region_held_drew (S := (fun V => V.cell? ⟨g, 0, none⟩ = some (.slice (some ⟨r, 0, none⟩) len c) ∧ V.rangeAt v2.heap.size 0 (cs z) ∧ V.cell? ⟨g, 1, none⟩ = some (.int .i64 (f : Int)))) (by kernel_rfl) ⟨c0, hb6, c1⟩ (fun hHeld => ?_)
  refine' wpAnyH_take (i := 0) (oi := _) (v := _) ?hP0 (by kernel_rfl) (by kernel_rfl) (by kernel_rfl) ?hQP0 (Or.inl ⟨?hwP0, ?hyP0⟩) hHeld ?restP0
  case hP0 => (simp only [List.getElem?_toArray, List.getElem?_cons_zero]; rfl)
  case hQP0 => exact fun _ _ _ h => h
  case hwP0 => rfl
  case hyP0 => (intro w hSw; (try dsimp only at hSw); go_simp; try with_reducible rfl)
  try simp only [Act.put, List.setIfInBounds_toArray, List.set_cons_zero, List.set_cons_succ]
  refine' wpAnyH_take (i := 1) (oi := _) (v := _) ?hP1 (by kernel_rfl) (by kernel_rfl) (by kernel_rfl) ?hQP1 (Or.inl ⟨?hwP1, ?hyP1⟩) hHeld ?restP1
  case hP1 => (simp only [List.getElem?_toArray, List.getElem?_cons_succ, List.getElem?_cons_zero]; rfl)
  case hQP1 => exact fun _ _ _ h => h
  case hwP1 => rfl
  case hyP1 => (intro w hSw; (try dsimp only at hSw); go_simp; try with_reducible rfl)
  try simp only [Act.put, List.setIfInBounds_toArray, List.set_cons_zero, List.set_cons_succ]
  refine' wpAnyH_take (i := 2) (oi := _) (v := _) ?hP2 (by kernel_rfl) (by kernel_rfl) (by kernel_rfl) ?hQP2 (Or.inl ⟨?hwP2, ?hyP2⟩) hHeld ?restP2
  case hP2 => (simp only [List.getElem?_toArray, List.getElem?_cons_succ, List.getElem?_cons_zero]; rfl)
  case hQP2 => exact fun _ _ _ h => h
  case hwP2 => rfl
  case hyP2 => (intro w hSw; (try dsimp only at hSw); go_simp; try with_reducible rfl)
  try simp only [Act.put, List.setIfInBounds_toArray, List.set_cons_zero, List.set_cons_succ]
  refine' wpAnyH_take (i := 3) (oi := _) (v := _) ?hP3 (by kernel_rfl) (by kernel_rfl) (by kernel_rfl) ?hQP3 (Or.inl ⟨?hwP3, ?hyP3⟩) hHeld ?restP3
  case hP3 => (simp only [List.getElem?_toArray, List.getElem?_cons_succ, List.getElem?_cons_zero]; rfl)
  case hQP3 => exact fun _ _ _ h => h
  case hwP3 => rfl
  case hyP3 => (intro w hSw; (try dsimp only at hSw); go_simp; try with_reducible rfl)
  try simp only [Act.put, List.setIfInBounds_toArray, List.set_cons_zero, List.set_cons_succ]
  refine' wpAnyH_take (i := 4) (oi := _) (v := _) ?hP4 (by kernel_rfl) (by kernel_rfl) (by kernel_rfl) ?hQP4 (Or.inl ⟨?hwP4, ?hyP4⟩) hHeld ?restP4
  case hP4 => (simp only [List.getElem?_toArray, List.getElem?_cons_succ, List.getElem?_cons_zero]; rfl)
  case hQP4 => exact fun _ _ _ h => h
  case hwP4 => rfl
  case hyP4 => (intro w hSw; (try dsimp only at hSw); go_simp; try with_reducible rfl)
  try simp only [Act.put, List.setIfInBounds_toArray, List.set_cons_zero, List.set_cons_succ]
  refine' wpAnyH_take (i := 5) (oi := _) (v := _) ?hP5 (by kernel_rfl) (by kernel_rfl) (by kernel_rfl) ?hQP5 (Or.inl ⟨?hwP5, ?hyP5⟩) hHeld ?restP5
  case hP5 => (simp only [List.getElem?_toArray, List.getElem?_cons_succ, List.getElem?_cons_zero]; rfl)
  case hQP5 => exact fun _ _ _ h => h
  case hwP5 => rfl
  case hyP5 => (intro w hSw; (try dsimp only at hSw); go_simp; try with_reducible rfl)
  try simp only [Act.put, List.setIfInBounds_toArray, List.set_cons_zero, List.set_cons_succ]
  refine' wpAnyH_take (i := 6) (oi := _) (v := _) ?hP6 (by kernel_rfl) (by kernel_rfl) (by kernel_rfl) ?hQP6 (Or.inl ⟨?hwP6, ?hyP6⟩) hHeld ?restP6
  case hP6 => (simp only [List.getElem?_toArray, List.getElem?_cons_succ, List.getElem?_cons_zero]; rfl)
  case hQP6 => exact fun _ _ _ h => h
  case hwP6 => rfl
  case hyP6 => (intro w hSw; (try dsimp only at hSw); go_simp; try with_reducible rfl)
  try simp only [Act.put, List.setIfInBounds_toArray, List.set_cons_zero, List.set_cons_succ]
  refine' wpAnyH_take (i := 7) (oi := _) (v := _) ?hP7 (by kernel_rfl) (by kernel_rfl) (by kernel_rfl) ?hQP7 (Or.inl ⟨?hwP7, ?hyP7⟩) hHeld ?restP7
  case hP7 => (simp only [List.getElem?_toArray, List.getElem?_cons_succ, List.getElem?_cons_zero]; rfl)
  case hQP7 => exact fun _ _ _ h => h
  case hwP7 => rfl
  case hyP7 => (intro w hSw; (try dsimp only at hSw); go_simp; try with_reducible rfl)
  try simp only [Act.put, List.setIfInBounds_toArray, List.set_cons_zero, List.set_cons_succ]
  refine' wpAnyH_take (i := 8) (oi := _) (v := .agg (cs z).toArray) ?hP8 (by kernel_rfl) (by kernel_rfl) (by kernel_rfl) ?hQP8 ?hyP8 hHeld ?restP8
  case hP8 => (simp only [List.getElem?_toArray, List.getElem?_cons_succ, List.getElem?_cons_zero]; rfl)
  case hQP8 => exact fun _ _ _ h => h
  case hyP8 => (apply yieldsIf_load_mid (b := v2.heap.size) (o := 0) (cs := cs z); (case hw => rfl); (case ho => rfl); (case hx => rfl); (case hS => exact fun _ h => h.2.1); (case hu => exact Try.underlying39); (case hd => rfl); (case hi => exact info_cs _))
  try simp only [Act.put, List.setIfInBounds_toArray, List.set_cons_zero, List.set_cons_succ]
  refine' wpAnyH_take (i := 9) (oi := _) (v := _) ?hP9 (by kernel_rfl) (by kernel_rfl) (by kernel_rfl) ?hQP9 (Or.inl ⟨?hwP9, ?hyP9⟩) hHeld ?restP9
  case hP9 => (simp only [List.getElem?_toArray, List.getElem?_cons_succ, List.getElem?_cons_zero]; rfl)
  case hQP9 => exact fun _ _ _ h => h
  case hwP9 => rfl
  case hyP9 => (intro w hSw; (try dsimp only at hSw); go_simp; try with_reducible rfl)
  try simp only [Act.put, List.setIfInBounds_toArray, List.set_cons_zero, List.set_cons_succ]
  refine wpAnyH_ready (rs := [10]) (by kernel_rfl) (by simp) ?_
  refine' AllReadyH.cons (o := _) ?hoP10 (fun K hK => ?stP10) AllReadyH.nil
  case hoP10 => (simp only [List.getElem?_toArray, List.getElem?_cons_succ, List.getElem?_cons_zero]; rfl)
  rw [if_pos (by rfl)]
  refine wp_store_room _ _ rfl r len R f z rfl rfl HR.out hf ?_
  intro v3 hr3 hk3
  refine hK.out _ _ (⟨(hk3.cell (p := ⟨g, 0, none⟩) hgV (by simp; omega)).trans hHeld.1, fun j u hu => (hk3.cell (p := ⟨v2.heap.size, 0 + j, none⟩) (by show v2.heap.size < (v2.alloc _).heap.size; simp) (by simp; omega)).trans (hHeld.2.1 j u hu), (hk3.cell (p := ⟨g, 1, none⟩) hgV (by simp; omega)).trans hHeld.2.2⟩) (fun hHeld' => ?_)
  clear hK K hHeld
  have hHeld := hHeld'
  clear hHeld'
  try simp only [Act.put]
  refine wpAnyH_done (by kernel_rfl) ?_ _
  clear hHeld c0 c1 hb6
  have hz3 := hk3.size
  simp at hz3
  have hq3 := HQ1.out.keeps hk3 (by simp; omega)
  have hb43 := HB45.out.1.keeps hk3 (by simp; omega)
  have hb53 := HB45.out.2.keeps hk3 (by simp; omega)
  have hk3' : Keeps [g, r] w v3 := (HKV.out.more (by simp)).next hk3 (by simp)
  have hs3 : Qs v3 g r (some ⟨r, 0, none⟩) len c f (x :: t).length lim dr (updR R f z) := ⟨hq3, .inr ⟨h0, rfl, hne, hr3⟩, .inl hf, by simpa using hn, hlen⟩
  have HAT := Lib.hid (at_any g r _ len c f _ lim dr _ 1 _ hs3 h0 (by omega))
  clear hk3 hs3 HKV HB45 HR HQ1 HQ
  go_wp2_with fail
  refine HAT.out.mono ?_
  clear HAT
  rintro e v4 ⟨rfl, hd4⟩
  have hq4 := hq3.drawn hd4
  have hr4 := hr3.keeps ((Keeps.refl [] v3).drawn hd4) (by simp)
  have hk4 := hk3'.drawn hd4
  have hb4 := hb43.drawn hd4
  have hb5 := hb53.drawn hd4
  clear hq3 hr3 hk3' hd4 hb43 hb53
  obtain ⟨p, hp⟩ : ∃ p, (f + 1) % len = p := ⟨_, rfl⟩
  have hpl := place_bd f 1 len h0
  rw [hp] at hpl ⊢
  have HP := Lib.hid hp
  clear hp
  obtain ⟨m, hm⟩ : ∃ m, m = t.length := ⟨_, rfl⟩
  have hlm : (x :: t).length = m + 1 := by rw [hm]; rfl
  rw [hlm] at hq4
  have HM := Lib.hid hm
  clear hm hlm
  have c1 := hq4.cell 1
  have c2 : v4.cell? ⟨g, 2, none⟩ = some (.int .i64 (((m + 1 : Nat)) : Int)) := hq4.cell 2
  have cf := hq4.frozen
  have hsub : (((m + 1 : Nat)) : Int) = (m : Int) + 1 := by omega
  rw [hsub] at c2
  have hmb : (m : Int) ≤ 65536 := by rw [HM.out]; omega
  clear hsub
  have HB4 := Lib.hid (((hb4.far (p := ⟨g, 1, none⟩) (by show v1.heap.size ≠ g; omega) (.int .i64 (p : Int))).far (p := ⟨g, 2, none⟩) (by show v1.heap.size ≠ g; omega) (.int .i64 (m : Int))))
  have HB5 := Lib.hid (((hb5.far (p := ⟨g, 1, none⟩) (by show w.heap.size ≠ g; omega) (.int .i64 (p : Int))).far (p := ⟨g, 2, none⟩) (by show w.heap.size ≠ g; omega) (.int .i64 (m : Int))))
  have HQ4 := Lib.hid ((hq4.set_ 1 (.int .i64 (p : Int))).set_ 2 (.int .i64 (m : Int)))
  have HR4 := Lib.hid (hr4.keeps (((Keeps.refl [g] v4).setCell (p := ⟨g, 1, none⟩) (by simp) (.int .i64 (p : Int))).setCell (p := ⟨g, 2, none⟩) (by simp) (.int .i64 (m : Int))) (by simpa using hne))
  have HK4 := Lib.hid ((hk4.setCell (p := ⟨g, 1, none⟩) (by simp) (.int .i64 (p : Int))).setCell (p := ⟨g, 2, none⟩) (by simp) (.int .i64 (m : Int)))
  clear hq4 hr4 hb4 hb5 hk4
  go_wp2_with (first | (refine wpList_load_blk rfl _ rfl v1.heap.size x rfl HB4.out ?_) | (refine wpList_store_blk rfl _ _ rfl w.heap.size #[.int .i64 0, .int .i64 0, .string ⟨#[]⟩] x rfl rfl HB5.out rfl ?_; intro v5 h5 hk5))
  refine bodyPost_ret (results_cell2 rfl _ _ _ rfl (load_blk x h5)) rfl ?_
  have hq5 := HQ4.out.keeps hk5 (by simp; omega)
  have hr5 := HR4.out.keeps hk5 (by simp; omega)
  refine ⟨rfl, ⟨some ⟨r, 0, none⟩, len, c, p, updR R f z, ⟨?_, .inr ⟨h0, rfl, hne, hr5⟩, .inl hpl, by omega, hlen⟩, ?_, H36.out.1, H36.out.2.1, by have := H36.out.2.2.1; omega, H36.out.2.2.2⟩, HK4.out.next hk5 (by simp)⟩
  · rw [← HM.out]
    exact hq5
  · intro i hi
    rw [← HP.out, place_next f i len h0, updR_ne _ _ _ _ (place_ne f i len hf (by omega))]
    have := H2.out (i + 1) (by simp; omega)
    simpa using this
end FiF
end Go.Proofs.Ytdbkgpnbmafpmaa
