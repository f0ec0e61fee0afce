/- A deed, whichever, on board and rows; and that both tell the same. -/
import Derived.Test.YtckindhnhbcgoaaLatchJ1
import Derived.Test.YtckindhnhbcgoaaLatchJ2
import Derived.Test.YtckindhnhbcgoaaLatchJ3
namespace Go.Proofs.Ytckindhnhbcgoaa
open Go.RowKit
namespace La
open Sm
theorem step_any (gb gr n c : Nat) (m d o x : Int) (L D : Nat → Int) (X : Nat → Nat → Int) (Y : Nat → Nat → Bool) (w : World) (hA : Bd w gb L D n) (hR : Rows w gr n X Y) (hS : Sync n m L D X Y) (hn : n ≤ 8) (hg : gb ≠ gr) (hm0 : 0 ≤ m) (hm : m ≤ 1000) :
    Calls Try.prog 7 #[.pointer (some ⟨gb, 0, none⟩), .slice (some ⟨gr, 0, none⟩) n c, .agg #[.int .i64 d, .int .i64 o, .int .i64 x]] w (IsStep gb gr n (m + 1) w) := by
  by_cases ho : 1 ≤ o ∧ o ≤ n
  · obtain ⟨k, rfl⟩ : ∃ k : Nat, o = (k : Int) + 1 := ⟨(o - 1).toNat, by omega⟩
    have hk : k < n := by omega
    by_cases h0 : d = 0
    · subst h0
      by_cases hx : 0 ≤ x ∧ x ≤ 255
      · exact step_raise gb gr n c k m x L D X Y w hA hR hS hn hg hk hm0 hm hx
      · by_cases hx0 : x < 0
        · exact bits_0 gb gr n c m x L D X Y w hA hR hS hn hg k hk hx0
        · exact bits_1 gb gr n c m x L D X Y w hA hR hS hn hg k hk (by omega)
    · by_cases h1 : d = 1
      · subst h1; exact step_open gb gr n c k m x L D X Y w hA hR hS hn hg hk hm0 hm
      · exact step_take gb gr n c k m d x L D X Y w hA hR hS hn hg hk hm0 hm (by simpa using h0) (by simpa using h1)
  · have ho' : o < 1 ∨ (n : Int) < o := by omega
    by_cases h0 : d = 0
    · subst h0
      rcases ho' with h | h
      · exact no_raise0 gb gr n c m o x L D X Y w hA hR hS hn hg h
      · exact no_raise1 gb gr n c m o x L D X Y w hA hR hS hn hg h
    · by_cases h1 : d = 1
      · subst h1
        rcases ho' with h | h
        · exact no_open0 gb gr n c m o x L D X Y w hA hR hS hn hg h
        · exact no_open1 gb gr n c m o x L D X Y w hA hR hS hn hg h
      · rcases ho' with h | h
        · exact no_take0 gb gr n c m d o x L D X Y w hA hR hS hn hg h (by simpa using h0) (by simpa using h1)
        · exact no_take1 gb gr n c m d o x L D X Y w hA hR hS hn hg h (by simpa using h0) (by simpa using h1)
theorem told_one {n k : Nat} {m : Int} {gb : Nat} {L D : Nat → Int} {X : Nat → Nat → Int} {Y : Nat → Nat → Bool} (hS : Sync n m L D X Y) (hn : n ≤ 8) (hk : k < n) (V : World) (h : Bd V gb L D n) :
    Calls Try.prog 13 #[.pointer (some ⟨gb, 0, none⟩), .int .i64 ((k : Int) + 1)] V (IsV (num8 (up (X k))) V) ∧
    Calls Try.prog 14 #[.pointer (some ⟨gb, 0, none⟩), .int .i64 ((k : Int) + 1)] V (IsV (num8 (Y k)) V) := by
  have h1 := latched_any gb n ((k : Int) + 1) L D V h (by omega)
  have h2 := delivered_any gb n ((k : Int) + 1) L D V h (by omega)
  rw [show oV n ((k : Int) + 1) L = num8 (up (X k)) from by unfold oV; rw [if_pos (isO_yes hk), at_k]; exact (hS k hk).1] at h1
  rw [show oV n ((k : Int) + 1) D = num8 (Y k) from by unfold oV; rw [if_pos (isO_yes hk), at_k]; exact (hS k hk).2.1] at h2
  exact ⟨h1, h2⟩
theorem told_none {n : Nat} {gb : Nat} {L D : Nat → Int} (hn : n ≤ 8) (V : World) (h : Bd V gb L D n) :
    Calls Try.prog 13 #[.pointer (some ⟨gb, 0, none⟩), .int .i64 0] V (IsV 0 V) ∧
    Calls Try.prog 14 #[.pointer (some ⟨gb, 0, none⟩), .int .i64 ((n : Int) + 1)] V (IsV 0 V) := by
  have h1 := latched_any gb n 0 L D V h (by omega)
  have h2 := delivered_any gb n ((n : Int) + 1) L D V h (by omega)
  have e1 : isO n 0 = false := by unfold isO; simp
  have e2 : isO n ((n : Int) + 1) = false := by unfold isO; simp; omega
  rw [show oV n 0 L = 0 from by unfold oV; rw [e1]; rfl] at h1
  rw [show oV n ((n : Int) + 1) D = 0 from by unfold oV; rw [e2]; rfl] at h2
  exact ⟨h1, h2⟩
theorem range_keep {w w' : World} {g o : Nat} {cs : List Value} (h : w.rangeAt g o cs) (hb : Below w.heap.size w w') (hg : g < w.heap.size) : w'.rangeAt g o cs := fun j v hv => (hb.cell (p := ⟨g, o + j, none⟩) hg).trans (h j v hv)
/-- What stands at the head of a round. -/
structure Told (w wr : World) (gb gr n : Nat) (L D : Nat → Int) (X : Nat → Nat → Int) (Y : Nat → Nat → Bool) : Prop where
  a : Bd wr gb L D n
  r : Rows wr gr n X Y
  b : Below w.heap.size w wr
attribute [local irreducible] Bd oL oD oV rL rE raiseX up num8 isO Sync
set_option maxRecDepth 100000 in
set_option maxHeartbeats 2000000 in
theorem told_any (gb gr n c : Nat) (m : Int) (L D : Nat → Int) (X : Nat → Nat → Int) (Y : Nat → Nat → Bool) (w : World) (hA : Bd w gb L D n) (hR : Rows w gr n X Y) (hS : Sync n m L D X Y) (hn : n ≤ 8) :
    Calls Try.prog 8 #[.pointer (some ⟨gb, 0, none⟩), .slice (some ⟨gr, 0, none⟩) n c] w fun e w' => e = .returned (.bool true) ∧ Below w.heap.size w w' := by
  have HS := Lib.hid (fun k hk V h => told_one (k := k) (gb := gb) hS hn hk V h)
  have HN := Lib.hid (fun V h => told_none (n := n) (gb := gb) (L := L) (D := D) hn V h)
  have hT : Told w w gb gr n L D X Y := ⟨hA, hR, Below.refl _ _⟩
  clear hA hR hS
  go_enter Try.func8, Try.ntmps8
  go_wp2
  go_loopw [5] (fun i wr => ∃ k : Nat, k ≤ n ∧ i = .int .i64 k ∧ Told w wr gb gr n L D X Y) (fun i _ => n - (intOf i).toNat)
  case atStart => exact ⟨0, by omega, rfl, hT⟩
  case round =>
    clear hT
    obtain ⟨k, hkn, rfl, hA, hR, hB⟩ := hrel
    have HB := Lib.hid hB
    clear hB
    by_cases hk : k < n
    · have HO := Lib.hid (HS.out k hk)
      have HL := Lib.hid (fun V => rlatched_any (X k) (Y k) V)
      have HD := Lib.hid (fun V => rdelivered_any (X k) (Y k) V)
      generalize hp : num8 (up (X k)) = p at *
      generalize hq : num8 (Y k) = q at *
      clear hp hq
      have hk0 : (0 : Int) ≤ (k : Int) := by omega
      have hk1 : (k : Int) < (n : Int) := by omega
      have hsum : IntKind.i64.wrap ((k : Int) + 1) = (k : Int) + 1 := IntWalk.i64_in _ (by omega)
      have hst := hR.drew.at_ k hk
      have hA1 := bd_drew hA
      have hR1 := hR.drew
      have HB1 : Hid (Below w.heap.size w wr.drew) := Lib.hid HB.out.drew
      clear HB hA hR
      go_wp2
      refine wp_region_held_drew (S := (fun V => V.rangeAt gr (k * 16) (rcells (X k) (Y k)).toList)) (by kernel_rfl) hst (fun hHeld => ?_)
      refine' wpAnyH_take (i := 0) (oi := _) (v := _) ?hT0 (by kernel_rfl) (by kernel_rfl) (by kernel_rfl) ?hQT0 (Or.inl ⟨?hwT0, ?hyT0⟩) hHeld ?restT0
      case hT0 => (simp only [List.getElem?_toArray, List.getElem?_cons_zero]; rfl)
      case hQT0 => exact fun _ _ _ h => h
      case hwT0 => rfl
      case hyT0 => (intro w hSw; (try dsimp only at hSw); go_simp; try with_reducible rfl)
      try simp only [Act.put, List.setIfInBounds_toArray, List.set_cons_zero, List.set_cons_succ]
      refine' wpAnyH_take (i := 1) (oi := _) (v := _) ?hT1 (by kernel_rfl) (by kernel_rfl) (by kernel_rfl) ?hQT1 (Or.inl ⟨?hwT1, ?hyT1⟩) hHeld ?restT1
      case hT1 => (simp only [List.getElem?_toArray, List.getElem?_cons_succ, List.getElem?_cons_zero]; rfl)
      case hQT1 => exact fun _ _ _ h => h
      case hwT1 => rfl
      case hyT1 => (intro w hSw; (try dsimp only at hSw); go_simp; try with_reducible rfl)
      try simp only [Act.put, List.setIfInBounds_toArray, List.set_cons_zero, List.set_cons_succ]
      refine' wpAnyH_take (i := 2) (oi := _) (v := _) ?hT2 (by kernel_rfl) (by kernel_rfl) (by kernel_rfl) ?hQT2 (Or.inl ⟨?hwT2, ?hyT2⟩) hHeld ?restT2
      case hT2 => (simp only [List.getElem?_toArray, List.getElem?_cons_succ, List.getElem?_cons_zero]; rfl)
      case hQT2 => exact fun _ _ _ h => h
      case hwT2 => rfl
      case hyT2 => (intro w hSw; (try dsimp only at hSw); go_simp; try with_reducible rfl)
      try simp only [Act.put, List.setIfInBounds_toArray, List.set_cons_zero, List.set_cons_succ]
      refine' wpAnyH_take (i := 4) (oi := _) (v := _) ?hT4 (by kernel_rfl) (by kernel_rfl) (by kernel_rfl) ?hQT4 (Or.inl ⟨?hwT4, ?hyT4⟩) hHeld ?restT4
      case hT4 => (simp only [List.getElem?_toArray, List.getElem?_cons_succ, List.getElem?_cons_zero]; rfl)
      case hQT4 => exact fun _ _ _ h => h
      case hwT4 => rfl
      case hyT4 => (intro w hSw; (try dsimp only at hSw); go_simp; try with_reducible rfl)
      try simp only [Act.put, List.setIfInBounds_toArray, List.set_cons_zero, List.set_cons_succ]
      refine' wpAnyH_take (i := 5) (oi := _) (v := _) ?hT5 (by kernel_rfl) (by kernel_rfl) (by kernel_rfl) ?hQT5 (Or.inl ⟨?hwT5, ?hyT5⟩) hHeld ?restT5
      case hT5 => (simp only [List.getElem?_toArray, List.getElem?_cons_succ, List.getElem?_cons_zero]; rfl)
      case hQT5 => exact fun _ _ _ h => h
      case hwT5 => rfl
      case hyT5 => (intro w hSw; (try dsimp only at hSw); go_simp; try with_reducible rfl)
      try simp only [Act.put, List.setIfInBounds_toArray, List.set_cons_zero, List.set_cons_succ]
      refine' wpAnyH_take (i := 6) (oi := _) (v := _) ?hT6 (by kernel_rfl) (by kernel_rfl) (by kernel_rfl) ?hQT6 (Or.inl ⟨?hwT6, ?hyT6⟩) hHeld ?restT6
      case hT6 => (simp only [List.getElem?_toArray, List.getElem?_cons_succ, List.getElem?_cons_zero]; rfl)
      case hQT6 => exact fun _ _ _ h => h
      case hwT6 => rfl
      case hyT6 => (intro w hSw; (try dsimp only at hSw); go_simp; try with_reducible rfl)
      try simp only [Act.put, List.setIfInBounds_toArray, List.set_cons_zero, List.set_cons_succ]
      refine' wpAnyH_take (i := 7) (oi := _) (v := .agg (rcells (X k) (Y k))) ?hT7 (by kernel_rfl) (by kernel_rfl) (by kernel_rfl) ?hQT7 ?hyT7 hHeld ?restT7
      case hT7 => (simp only [List.getElem?_toArray, List.getElem?_cons_succ, List.getElem?_cons_zero]; rfl)
      case hQT7 => exact fun _ _ _ h => h
      case hyT7 => (apply yieldsIf_load_mid (b := gr) (o := k * 16) (cs := (rcells (X k) (Y k)).toList); (case hw => rfl); (case ho => rfl); (case hx => rfl); (case hS => exact fun _ h => h); (case hu => exact Try.underlying46); (case hd => rfl); (case hi => exact row_info))
      try simp only [Act.put, List.setIfInBounds_toArray, List.set_cons_zero, List.set_cons_succ]
      refine wpAnyH_ready (rs := [3]) (by kernel_rfl) (by simp) ?_
      refine AllReadyH.cons rfl (fun K hK => ?_) AllReadyH.nil
      go_simp
      refine ((HO.out _ hA1).1).mono ?_
      rintro e v2 ⟨rfl, rfl⟩
      try go_wp2_with fail
      refine hK.out _ _ (hHeld) (fun hHeld' => ?_)
      clear hK K hHeld
      have hHeld := hHeld'
      clear hHeld'
      try simp only [Act.put, List.setIfInBounds_toArray, List.set_cons_zero, List.set_cons_succ]
      refine wpAnyH_ready (rs := [8]) (by kernel_rfl) (by simp) ?_
      refine AllReadyH.cons rfl (fun K hK => ?_) AllReadyH.nil
      go_simp
      refine (HL.out _).mono ?_
      rintro e v2 ⟨rfl, hb⟩
      try go_wp2_with fail
      refine hK.out _ _ (range_keep hHeld hb hR1.lt) (fun hHeld' => ?_)
      have hA2 := bd_of_below hA1 hb
      have hR2 := rows_of_below hR1 hb
      have HB2 : Hid (Below w.heap.size w v2) := Lib.hid (HB1.out.trans (hb.mono HB1.out.size))
      clear hA1 hR1 HB1 hb
      clear hK K hHeld
      have hHeld := hHeld'
      clear hHeld'
      try simp only [Act.put, List.setIfInBounds_toArray, List.set_cons_zero, List.set_cons_succ]
      refine' wpAnyH_take (i := 9) (oi := _) (v := _) ?hT9 (by kernel_rfl) (by kernel_rfl) (by kernel_rfl) ?hQT9 (Or.inl ⟨?hwT9, ?hyT9⟩) hHeld ?restT9
      case hT9 => (simp only [List.getElem?_toArray, List.getElem?_cons_succ, List.getElem?_cons_zero]; rfl)
      case hQT9 => exact fun _ _ _ h => h
      case hwT9 => rfl
      case hyT9 => (intro w hSw; (try dsimp only at hSw); go_simp; try with_reducible rfl)
      try simp only [Act.put, List.setIfInBounds_toArray, List.set_cons_zero, List.set_cons_succ]
      refine' wpAnyH_take (i := 10) (oi := _) (v := _) ?hT10 (by kernel_rfl) (by kernel_rfl) (by kernel_rfl) ?hQT10 (Or.inl ⟨?hwT10, ?hyT10⟩) hHeld ?restT10
      case hT10 => (simp only [List.getElem?_toArray, List.getElem?_cons_succ, List.getElem?_cons_zero]; rfl)
      case hQT10 => exact fun _ _ _ h => h
      case hwT10 => rfl
      case hyT10 => (intro w hSw; (try dsimp only at hSw); go_simp; try with_reducible rfl)
      try simp only [Act.put, List.setIfInBounds_toArray, List.set_cons_zero, List.set_cons_succ]
      refine' wpAnyH_take (i := 11) (oi := _) (v := _) ?hT11 (by kernel_rfl) (by kernel_rfl) (by kernel_rfl) ?hQT11 (Or.inl ⟨?hwT11, ?hyT11⟩) hHeld ?restT11
      case hT11 => (simp only [List.getElem?_toArray, List.getElem?_cons_succ, List.getElem?_cons_zero]; rfl)
      case hQT11 => exact fun _ _ _ h => h
      case hwT11 => rfl
      case hyT11 => (intro w hSw; (try dsimp only at hSw); go_simp; try with_reducible rfl)
      try simp only [Act.put, List.setIfInBounds_toArray, List.set_cons_zero, List.set_cons_succ]
      refine' wpAnyH_take (i := 12) (oi := _) (v := _) ?hT12 (by kernel_rfl) (by kernel_rfl) (by kernel_rfl) ?hQT12 (Or.inl ⟨?hwT12, ?hyT12⟩) hHeld ?restT12
      case hT12 => (simp only [List.getElem?_toArray, List.getElem?_cons_succ, List.getElem?_cons_zero]; rfl)
      case hQT12 => exact fun _ _ _ h => h
      case hwT12 => rfl
      case hyT12 => (intro w hSw; (try dsimp only at hSw); go_simp; try with_reducible rfl)
      try simp only [Act.put, List.setIfInBounds_toArray, List.set_cons_zero, List.set_cons_succ]
      refine' wpAnyH_take (i := 13) (oi := _) (v := _) ?hT13 (by kernel_rfl) (by kernel_rfl) (by kernel_rfl) ?hQT13 (Or.inl ⟨?hwT13, ?hyT13⟩) hHeld ?restT13
      case hT13 => (simp only [List.getElem?_toArray, List.getElem?_cons_succ, List.getElem?_cons_zero]; rfl)
      case hQT13 => exact fun _ _ _ h => h
      case hwT13 => rfl
      case hyT13 => (intro w hSw; (try dsimp only at hSw); go_simp; try with_reducible rfl)
      try simp only [Act.put, List.setIfInBounds_toArray, List.set_cons_zero, List.set_cons_succ]
      refine' wpAnyH_take (i := 15) (oi := _) (v := _) ?hT15 (by kernel_rfl) (by kernel_rfl) (by kernel_rfl) ?hQT15 (Or.inl ⟨?hwT15, ?hyT15⟩) hHeld ?restT15
      case hT15 => (simp only [List.getElem?_toArray, List.getElem?_cons_succ, List.getElem?_cons_zero]; rfl)
      case hQT15 => exact fun _ _ _ h => h
      case hwT15 => rfl
      case hyT15 => (intro w hSw; (try dsimp only at hSw); go_simp; try with_reducible rfl)
      try simp only [Act.put, List.setIfInBounds_toArray, List.set_cons_zero, List.set_cons_succ]
      refine' wpAnyH_take (i := 16) (oi := _) (v := _) ?hT16 (by kernel_rfl) (by kernel_rfl) (by kernel_rfl) ?hQT16 (Or.inl ⟨?hwT16, ?hyT16⟩) hHeld ?restT16
      case hT16 => (simp only [List.getElem?_toArray, List.getElem?_cons_succ, List.getElem?_cons_zero]; rfl)
      case hQT16 => exact fun _ _ _ h => h
      case hwT16 => rfl
      case hyT16 => (intro w hSw; (try dsimp only at hSw); go_simp; try with_reducible rfl)
      try simp only [Act.put, List.setIfInBounds_toArray, List.set_cons_zero, List.set_cons_succ]
      refine' wpAnyH_take (i := 17) (oi := _) (v := _) ?hT17 (by kernel_rfl) (by kernel_rfl) (by kernel_rfl) ?hQT17 (Or.inl ⟨?hwT17, ?hyT17⟩) hHeld ?restT17
      case hT17 => (simp only [List.getElem?_toArray, List.getElem?_cons_succ, List.getElem?_cons_zero]; rfl)
      case hQT17 => exact fun _ _ _ h => h
      case hwT17 => rfl
      case hyT17 => (intro w hSw; (try dsimp only at hSw); go_simp; try with_reducible rfl)
      try simp only [Act.put, List.setIfInBounds_toArray, List.set_cons_zero, List.set_cons_succ]
      refine' wpAnyH_take (i := 18) (oi := _) (v := .agg (rcells (X k) (Y k))) ?hT18 (by kernel_rfl) (by kernel_rfl) (by kernel_rfl) ?hQT18 ?hyT18 hHeld ?restT18
      case hT18 => (simp only [List.getElem?_toArray, List.getElem?_cons_succ, List.getElem?_cons_zero]; rfl)
      case hQT18 => exact fun _ _ _ h => h
      case hyT18 => (apply yieldsIf_load_mid (b := gr) (o := k * 16) (cs := (rcells (X k) (Y k)).toList); (case hw => rfl); (case ho => rfl); (case hx => rfl); (case hS => exact fun _ h => h); (case hu => exact Try.underlying46); (case hd => rfl); (case hi => exact row_info))
      try simp only [Act.put, List.setIfInBounds_toArray, List.set_cons_zero, List.set_cons_succ]
      refine wpAnyH_ready (rs := [14]) (by kernel_rfl) (by simp) ?_
      refine AllReadyH.cons rfl (fun K hK => ?_) AllReadyH.nil
      go_simp
      refine ((HO.out _ hA2).2).mono ?_
      rintro e v3 ⟨rfl, rfl⟩
      try go_wp2_with fail
      refine hK.out _ _ (hHeld) (fun hHeld' => ?_)
      clear hK K hHeld
      have hHeld := hHeld'
      clear hHeld'
      try simp only [Act.put, List.setIfInBounds_toArray, List.set_cons_zero, List.set_cons_succ]
      refine wpAnyH_ready (rs := [19]) (by kernel_rfl) (by simp) ?_
      refine AllReadyH.cons rfl (fun K hK => ?_) AllReadyH.nil
      go_simp
      refine (HD.out _).mono ?_
      rintro e v3 ⟨rfl, hb⟩
      try go_wp2_with fail
      refine hK.out _ _ (range_keep hHeld hb hR2.lt) (fun hHeld' => ?_)
      have hA3 := bd_of_below hA2 hb
      have hR3 := rows_of_below hR2 hb
      have HB3 : Hid (Below w.heap.size w v3) := Lib.hid (HB2.out.trans (hb.mono HB2.out.size))
      clear hA2 hR2 HB2 hb
      clear hK K hHeld
      have hHeld := hHeld'
      clear hHeld'
      try simp only [Act.put, List.setIfInBounds_toArray, List.set_cons_zero, List.set_cons_succ]
      refine' wpAnyH_take (i := 20) (oi := _) (v := _) ?hT20 (by kernel_rfl) (by kernel_rfl) (by kernel_rfl) ?hQT20 (Or.inl ⟨?hwT20, ?hyT20⟩) hHeld ?restT20
      case hT20 => (simp only [List.getElem?_toArray, List.getElem?_cons_succ, List.getElem?_cons_zero]; rfl)
      case hQT20 => exact fun _ _ _ h => h
      case hwT20 => rfl
      case hyT20 => (intro w hSw; (try dsimp only at hSw); go_simp; try with_reducible rfl)
      try simp only [Act.put, List.setIfInBounds_toArray, List.set_cons_zero, List.set_cons_succ]
      refine' wpAnyH_take (i := 21) (oi := _) (v := _) ?hT21 (by kernel_rfl) (by kernel_rfl) (by kernel_rfl) ?hQT21 (Or.inl ⟨?hwT21, ?hyT21⟩) hHeld ?restT21
      case hT21 => (simp only [List.getElem?_toArray, List.getElem?_cons_succ, List.getElem?_cons_zero]; rfl)
      case hQT21 => exact fun _ _ _ h => h
      case hwT21 => rfl
      case hyT21 => (intro w hSw; (try dsimp only at hSw); go_simp; try with_reducible rfl)
      try simp only [Act.put, List.setIfInBounds_toArray, List.set_cons_zero, List.set_cons_succ]
      refine wpAnyH_done (by kernel_rfl) ?_ _
      clear hHeld hst
      go_wp2
      go_roundw
      case rel => exact ⟨k + 1, by omega, by go_num, hA3, hR3, HB3.out⟩
      case measure => simp [intOf]; omega
    · obtain rfl : k = n := by omega
      have HO := Lib.hid (HN.out _ hA)
      clear HN HS hA hR
      go_wp2_with fail
      refine HO.out.1.mono ?_
      rintro e v1 ⟨rfl, rfl⟩
      go_wp2_with fail
      refine HO.out.2.mono ?_
      rintro e v1 ⟨rfl, rfl⟩
      go_wp2
      go_ret
      exact ⟨rfl, HB.out⟩
end La
end Go.Proofs.Ytckindhnhbcgoaa
