/- The law CodeNames: its walk. -/
import Derived.Test.YtkbgihlpnamfeaaCodeN
namespace Go.Proofs.Ytkbgihlpnamfeaa
open Go.RowKit
attribute [local go_sem] Bw.and255 Bw.and65535
namespace Co
open Sm
theorem nameE (k : Nat) : (nm k).toList.isEmpty = decide (16 ≤ k) := by
  by_cases h : 16 ≤ k
  · rw [name_empty k h]; exact (decide_eq_true h).symm
  · rw [name_full k (by omega)]; exact (decide_eq_false h).symm
theorem idx_name (c : Nat) (i : Int) (hc : c < 16) (h : IsIdx (nm c) i) : i = c := by
  rcases h with ⟨_, hno⟩ | ⟨k, rfl, hk, hq⟩
  · exact absurd rfl (hno c hc)
  · rw [nm_inj k c hk hc hq]
theorem idx_same (t : ByteArray) (i j : Int) (h : IsIdx t i) (h' : IsIdx t j) : i = j := by
  rcases h with ⟨rfl, hno⟩ | ⟨k, rfl, hk, hq⟩
  · rcases h' with ⟨rfl, _⟩ | ⟨m, _, hm, hq'⟩
    · rfl
    · exact absurd hq' (hno m hm)
  · rcases h' with ⟨_, hno'⟩ | ⟨m, rfl, hm, hq'⟩
    · exact absurd hq (hno' k hk)
    · rw [nm_inj k m hk hm (hq.trans hq'.symm)]
/-- What the law's loop found before k: the code v, or none. -/
def Found (t : ByteArray) (k : Nat) (v : Int) (b : Bool) : Prop := (b = false ∧ v = 0 ∧ ∀ j, j < k → ¬ (nm j).data.toList = t.data.toList) ∨ (b = true ∧ ∃ m : Nat, v = m ∧ m < k ∧ m < 16 ∧ (nm m).data.toList = t.data.toList)
theorem found0 (t : ByteArray) : Found t 0 0 false := .inl ⟨rfl, rfl, fun j hj => absurd hj (by omega)⟩
theorem found_hit (t : ByteArray) (k : Nat) (hk : k < 16) (h : (nm k).data.toList = t.data.toList) : Found t (k + 1) k true := .inr ⟨rfl, k, rfl, by omega, hk, h⟩
theorem found_miss (t : ByteArray) (k : Nat) (v : Int) (b : Bool) (h : Found t k v b) (hn : ¬ (nm k).data.toList = t.data.toList) : Found t (k + 1) v b := by
  rcases h with ⟨hb, hv, hno⟩ | ⟨hb, m, hv, hm, h16, hq⟩
  · refine .inl ⟨hb, hv, fun j hj => ?_⟩
    rcases Nat.lt_or_eq_of_le (Nat.lt_succ_iff.1 hj) with h1 | rfl
    · exact hno j h1
    · exact hn
  · exact .inr ⟨hb, m, hv, by omega, h16, hq⟩
theorem found_bd (t : ByteArray) (k : Nat) (v : Int) (b : Bool) (h : Found t k v b) : 0 ≤ v ∧ v ≤ 15 := by
  rcases h with ⟨_, hv, _⟩ | ⟨_, m, hv, _, h16, _⟩ <;> omega
theorem found_named (t : ByteArray) (v : Int) (b : Bool) (h : Found t 16 v b) (w : World) : Calls Try.prog 9 #[.string t] w fun e w' => e = .returned (.tuple #[.int .u8 v, .bool b]) ∧ Below w.heap.size w w' := by
  refine (named_any t w).mono ?_
  rintro e w' ⟨i, hi, rfl, hb⟩
  refine ⟨?_, hb⟩
  rcases h with ⟨rfl, rfl, hno⟩ | ⟨rfl, m, rfl, _, h16, hq⟩
  · rw [idx_same t i (-1) hi (.inl ⟨rfl, hno⟩)]; rfl
  · rw [idx_same t i m hi (.inr ⟨m, rfl, h16, hq⟩)]
    have : ¬ (m : Int) = -1 := by omega
    rw [if_neg this, show ((m : Int) == -1) = false from beq_eq_false_iff_ne.2 this]
    rfl
theorem named_self (c : Nat) (h : c < 16) (w : World) : Calls Try.prog 9 #[.string (nm c)] w fun e w' => e = .returned (.tuple #[.int .u8 c, .bool true]) ∧ Below w.heap.size w w' := found_named _ _ _ (.inr ⟨rfl, c, rfl, h, h, rfl⟩) w
theorem reg_cases (c : Nat) : (regB c = false ∧ c < 2) ∨ (regB c = true ∧ 2 ≤ c ∧ c ≤ 10) ∨ (regB c = false ∧ 2 ≤ c ∧ decide ((c : Int) ≤ 10) = false) := by
  unfold regB
  by_cases h : c < 2
  · exact .inl ⟨decide_eq_false (by omega), h⟩
  · by_cases h2 : c ≤ 10
    · exact .inr (.inl ⟨decide_eq_true (by omega), by omega, h2⟩)
    · exact .inr (.inr ⟨decide_eq_false (by omega), by omega, decide_eq_false (by omega)⟩)
theorem goes_cases (c : Int) : (goesB c = true ∧ c = 0) ∨ (goesB c = true ∧ c = 11) ∨ (goesB c = true ∧ c = 12) ∨ (goesB c = true ∧ c = 13) ∨ (goesB c = false ∧ (c == 0) = false ∧ (c == 11) = false ∧ (c == 12) = false ∧ (c == 13) = false) := by
  unfold goesB
  by_cases h : c = 0 ∨ c = 11 ∨ c = 12 ∨ c = 13
  · rcases h with h | h | h | h <;> simp [h]
  · simp [h]; omega
attribute [local irreducible] nm regB goesB IsIdx Found
set_option maxRecDepth 100000 in
set_option maxHeartbeats 4000000 in
theorem names_law (c : Int) (word : ByteArray) (k x n : Int) (w : World) (wc : (Lit.int .u8 c).wf = true) (_ : word.size ≤ maxLen) (wk : (Lit.int .u8 k).wf = true) (_ : (Lit.int .i64 x).wf = true) (_ : (Lit.int .i64 n).wf = true) :
    Calls Try.prog 3 #[.int .u8 c, .string word, .agg #[.int .u8 k, .int .i64 x, .int .i64 n]] w fun e w' => e = .returned (.bool true) ∧ Below w.heap.size w w' := by
  obtain ⟨c0, c1⟩ := u8_bd wc
  obtain ⟨k0, k1⟩ := u8_bd wk
  clear wc wk
  have HE := Lib.hid (nameE c.toNat)
  have hnn : (!(nm c.toNat).toList == (nm c.toNat).toList) = false := by simp
  obtain ⟨cn, rfl⟩ := Int.eq_ofNat_of_zero_le c0
  go_enter Try.func3, Try.ntmps3
  go_wp2_with fail
  refine (name_any _ _ c0 c1).mono ?_
  rintro e v1 ⟨rfl, hb1⟩
  have hd1 := (Blk.new w 24 #[.int .u8 k, .int .i64 x, .int .i64 n]).below hb1 (by simp)
  have HB1 : Hid (Below w.heap.size w v1) := ((Below.refl _ w).alloc (Nat.le_refl _) (.cells #[.int .u8 k, .int .i64 x, .int .i64 n] 24)).trans (hb1.mono (by simp))
  clear hb1
  go_wp2_with fail
  refine (rname_any _ _ c1 c0).mono ?_
  rintro e v2 ⟨rfl, hb2⟩
  have hd2 := hd1.below hb2 hd1.lt
  have HB2 : Hid (Below w.heap.size w v2) := HB1.out.trans (hb2.mono HB1.out.size)
  clear hb2 hd1 HB1
  rw [Int.toNat_natCast] at *
  by_cases hk : cn < 16
  · have HN := Lib.hid (fun V => named_self cn hk V)
    have HE' : (nm cn).toList.isEmpty = false := HE.out.trans (decide_eq_false (by omega))
    clear HE
    go_wp2_with fail
    refine (HN.out _).mono ?_
    rintro e v3 ⟨rfl, hb3⟩
    have hd3 := hd2.below hb3 hd2.lt
    have HB3 : Hid (Below w.heap.size w v3) := HB2.out.trans (hb3.mono HB2.out.size)
    clear hb3 hd2 HB2 HN
    go_wp2
    have HD := Lib.hid hd3
    have HB := HB3
    clear hd3 HB3
    go_loopw [10, 11, 12] (fun u d i wr => ∃ (j : Nat) (v : Int) (b : Bool), j ≤ 16 ∧ u = .int .i64 v ∧ d = .bool b ∧ i = .int .i64 j ∧ Hid (Found word j v b) ∧ Hid (Blk wr w.heap.size 24 #[.int .u8 k, .int .i64 x, .int .i64 n]) ∧ Hid (Below w.heap.size w wr)) (fun _ _ i _ => 16 - (intOf i).toNat)
    case atStart => exact ⟨0, 0, false, by omega, rfl, rfl, rfl, found0 word, HD.out, HB.out⟩
    case round =>
      obtain ⟨j, v, b, hj, rfl, rfl, rfl, hf, hd, hb⟩ := hrel
      by_cases hlt : j < 16
      · go_wp2_with fail
        refine (rname_any _ _ (by omega) (by omega)).mono ?_
        rintro e u1 ⟨rfl, hu⟩
        have hd' := hd.out.below hu hd.out.lt
        have hb' := hb.out.trans (hu.mono hb.out.size)
        have HD' := Lib.hid hd'
        have HB' := Lib.hid hb'
        clear hd hb hu hd' hb'
        rw [Int.toNat_natCast] at *
        by_cases hq : (nm j).data.toList = word.data.toList
        · have hq' := seq_true hq
          have HF := Lib.hid (found_hit word j hlt hq)
          clear hq hf
          go_wp2
          go_round
          case rel => exact ⟨j + 1, j, true, by omega, rfl, rfl, by go_num, HF, HD', HB'⟩
          case measure => simp [intOf]; omega
        · have hq' : ((nm j).toList == word.toList) = false := seq_false hq
          have HF := Lib.hid (found_miss word j v b hf.out hq)
          clear hq hf
          go_wp2
          go_round
          case rel => exact ⟨j + 1, v, b, by omega, rfl, rfl, by go_num, HF, HD', HB'⟩
          case measure => simp [intOf]; omega
      · obtain rfl : j = 16 := by omega
        obtain ⟨v0, v1⟩ := found_bd _ _ _ _ hf.out
        have HN := Lib.hid (found_named word v b hf.out)
        clear hf
        go_wp2_with fail
        refine (HN.out _).mono ?_
        rintro e u1 ⟨rfl, hu⟩
        have hd1 := hd.out.below hu hd.out.lt
        have HB1 := Lib.hid (hb.out.trans (hu.mono hb.out.size))
        have p0 : u1.cell? ⟨w.heap.size, 0, none⟩ = some (.int .u8 k) := hd1.cell 0
        have p1 : u1.cell? ⟨w.heap.size, 1, none⟩ = some (.int .i64 x) := hd1.cell 1
        have p2 : u1.cell? ⟨w.heap.size, 2, none⟩ = some (.int .i64 n) := hd1.cell 2
        clear hd hb hu HN
        go_wp2_with fail
        refine (live_any _).mono ?_
        rintro e u2 ⟨rfl, hu⟩
        have hd2 := hd1.below hu hd1.lt
        have HB2 := Lib.hid (HB1.out.trans (hu.mono HB1.out.size))
        have q0 : u2.cell? ⟨w.heap.size, 0, none⟩ = some (.int .u8 k) := hd2.cell 0
        have q1 : u2.cell? ⟨w.heap.size, 1, none⟩ = some (.int .i64 x) := hd2.cell 1
        have q2 : u2.cell? ⟨w.heap.size, 2, none⟩ = some (.int .i64 n) := hd2.cell 2
        clear hd1 HB1 hu p0 p1 p2 hd2
        go_wp2_with fail
        refine (reg_any _ _ (by omega) (by omega)).mono ?_
        rintro e u3 ⟨rfl, rfl⟩
        rcases reg_cases cn with ⟨hr, ha⟩ | ⟨hr, ha, hc⟩ | ⟨hr, ha, hc⟩
        all_goals
          rw [hr]
          clear hr
          go_wp2_with fail
          refine (goes_any _ _ _ _ k0 k1).mono ?_
          rintro e u4 ⟨rfl, hu4⟩
          have HB4 := Lib.hid (HB2.out.trans (hu4.mono HB2.out.size))
          clear hu4 HB2 q0 q1 q2
          rcases goes_cases k with ⟨hr, rfl⟩ | ⟨hr, rfl⟩ | ⟨hr, rfl⟩ | ⟨hr, rfl⟩ | ⟨hr, g0, g1, g2, g3⟩
          all_goals
            rw [hr]
            clear hr
            go_wp2
            go_ret
            exact ⟨rfl, HB4.out⟩
  · have HE' : (nm cn).toList.isEmpty = true := HE.out.trans (decide_eq_true (by omega))
    clear HE
    go_wp2
    have HD := Lib.hid hd2
    have HB := HB2
    clear hd2 HB2
    go_loopw [10, 11, 12] (fun u d i wr => ∃ (j : Nat) (v : Int) (b : Bool), j ≤ 16 ∧ u = .int .i64 v ∧ d = .bool b ∧ i = .int .i64 j ∧ Hid (Found word j v b) ∧ Hid (Blk wr w.heap.size 24 #[.int .u8 k, .int .i64 x, .int .i64 n]) ∧ Hid (Below w.heap.size w wr)) (fun _ _ i _ => 16 - (intOf i).toNat)
    case atStart => exact ⟨0, 0, false, by omega, rfl, rfl, rfl, found0 word, HD.out, HB.out⟩
    case round =>
      obtain ⟨j, v, b, hj, rfl, rfl, rfl, hf, hd, hb⟩ := hrel
      by_cases hlt : j < 16
      · go_wp2_with fail
        refine (rname_any _ _ (by omega) (by omega)).mono ?_
        rintro e u1 ⟨rfl, hu⟩
        have hd' := hd.out.below hu hd.out.lt
        have hb' := hb.out.trans (hu.mono hb.out.size)
        have HD' := Lib.hid hd'
        have HB' := Lib.hid hb'
        clear hd hb hu hd' hb'
        rw [Int.toNat_natCast] at *
        by_cases hq : (nm j).data.toList = word.data.toList
        · have hq' := seq_true hq
          have HF := Lib.hid (found_hit word j hlt hq)
          clear hq hf
          go_wp2
          go_round
          case rel => exact ⟨j + 1, j, true, by omega, rfl, rfl, by go_num, HF, HD', HB'⟩
          case measure => simp [intOf]; omega
        · have hq' : ((nm j).toList == word.toList) = false := seq_false hq
          have HF := Lib.hid (found_miss word j v b hf.out hq)
          clear hq hf
          go_wp2
          go_round
          case rel => exact ⟨j + 1, v, b, by omega, rfl, rfl, by go_num, HF, HD', HB'⟩
          case measure => simp [intOf]; omega
      · obtain rfl : j = 16 := by omega
        obtain ⟨v0, v1⟩ := found_bd _ _ _ _ hf.out
        have HN := Lib.hid (found_named word v b hf.out)
        clear hf
        go_wp2_with fail
        refine (HN.out _).mono ?_
        rintro e u1 ⟨rfl, hu⟩
        have hd1 := hd.out.below hu hd.out.lt
        have HB1 := Lib.hid (hb.out.trans (hu.mono hb.out.size))
        have p0 : u1.cell? ⟨w.heap.size, 0, none⟩ = some (.int .u8 k) := hd1.cell 0
        have p1 : u1.cell? ⟨w.heap.size, 1, none⟩ = some (.int .i64 x) := hd1.cell 1
        have p2 : u1.cell? ⟨w.heap.size, 2, none⟩ = some (.int .i64 n) := hd1.cell 2
        clear hd hb hu HN
        go_wp2_with fail
        refine (live_any _).mono ?_
        rintro e u2 ⟨rfl, hu⟩
        have hd2 := hd1.below hu hd1.lt
        have HB2 := Lib.hid (HB1.out.trans (hu.mono HB1.out.size))
        have q0 : u2.cell? ⟨w.heap.size, 0, none⟩ = some (.int .u8 k) := hd2.cell 0
        have q1 : u2.cell? ⟨w.heap.size, 1, none⟩ = some (.int .i64 x) := hd2.cell 1
        have q2 : u2.cell? ⟨w.heap.size, 2, none⟩ = some (.int .i64 n) := hd2.cell 2
        clear hd1 HB1 hu p0 p1 p2 hd2
        go_wp2_with fail
        refine (reg_any _ _ (by omega) (by omega)).mono ?_
        rintro e u3 ⟨rfl, rfl⟩
        rcases reg_cases cn with ⟨hr, ha⟩ | ⟨hr, ha, hc⟩ | ⟨hr, ha, hc⟩
        · exact absurd ha (by omega)
        · exact absurd hc (by omega)
        all_goals
          rw [hr]
          clear hr
          go_wp2_with fail
          refine (goes_any _ _ _ _ k0 k1).mono ?_
          rintro e u4 ⟨rfl, hu4⟩
          have HB4 := Lib.hid (HB2.out.trans (hu4.mono HB2.out.size))
          clear hu4 HB2 q0 q1 q2
          rcases goes_cases k with ⟨hr, rfl⟩ | ⟨hr, rfl⟩ | ⟨hr, rfl⟩ | ⟨hr, rfl⟩ | ⟨hr, g0, g1, g2, g3⟩
          all_goals
            rw [hr]
            clear hr
            go_wp2
            go_ret
            exact ⟨rfl, HB4.out⟩
end Co
end Go.Proofs.Ytkbgihlpnamfeaa
