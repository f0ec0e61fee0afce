/- The descriptor of bytes: the program's Parse; and what is asked whatever is asked (live). -/
import Derived.Test.YtdjckfcafiikeaaDescB
import Derived.Laws.ResultCell
namespace Go.Proofs.Ytdjckfcafiikeaa
open Go.RowKit
attribute [local go_sem] Bw.and255 Bw.and65535
namespace De
open Sm
open Bi (Rd rdAt rdErr rdByte rdTwo)
open PlainAid (bt get_bt bt_nonneg bt_le)
theorem rdByte_bd (s : ByteArray) (a e : Int) : 0 ≤ rdByte s a e ∧ rdByte s a e ≤ 255 := by
  unfold rdByte
  split
  · exact ⟨bt_nonneg _ _, bt_le _ _⟩
  · omega
theorem rdAt_bd (s : ByteArray) (a e n : Int) (h : 0 ≤ a ∧ a ≤ s.size) : 0 ≤ rdAt s a e n ∧ rdAt s a e n ≤ s.size := by
  unfold rdAt; split <;> omega
theorem yes_byte (s : ByteArray) (k : Nat) (h : k + 1 ≤ s.size) : rdByte s k 0 = bt s k ∧ rdAt s k 0 1 = (k : Int) + 1 ∧ rdErr s k 0 1 = 0 := by
  refine ⟨?_, ?_, ?_⟩
  · unfold rdByte; rw [if_pos (by omega)]; rfl
  · unfold rdAt; rw [if_pos (by omega)]
  · unfold rdErr; rw [if_neg (by omega), if_neg (by omega), if_neg (by omega)]
theorem yes_two (s : ByteArray) (k : Nat) (h : k + 2 ≤ s.size) : rdTwo s k 0 = bt s k + 256 * bt s (k + 1) ∧ rdAt s k 0 2 = (k : Int) + 2 ∧ rdErr s k 0 2 = 0 := by
  refine ⟨?_, ?_, ?_⟩
  · unfold rdTwo; rw [if_pos (by omega)]; rfl
  · unfold rdAt; rw [if_pos (by omega)]
  · unfold rdErr; rw [if_neg (by omega), if_neg (by omega), if_neg (by omega)]
def twoAt (s : ByteArray) (k : Nat) : Int := bt s k + 256 * bt s (k + 1)
theorem twoAt_bd (s : ByteArray) (k : Nat) : 0 ≤ twoAt s k ∧ twoAt s k ≤ 65535 := by
  have := bt_nonneg s k; have := bt_le s k; have := bt_nonneg s (k + 1); have := bt_le s (k + 1)
  unfold twoAt; omega
theorem eight (s : ByteArray) (h : 8 ≤ s.size) :
    (rdByte s 0 0 = bt s 0 ∧ rdAt s 0 0 1 = 1 ∧ rdErr s 0 0 1 = 0) ∧ (rdByte s 1 0 = bt s 1 ∧ rdAt s 1 0 1 = 2 ∧ rdErr s 1 0 1 = 0) ∧ (rdTwo s 2 0 = twoAt s 2 ∧ rdAt s 2 0 2 = 4 ∧ rdErr s 2 0 2 = 0) ∧ (rdTwo s 4 0 = twoAt s 4 ∧ rdAt s 4 0 2 = 6 ∧ rdErr s 4 0 2 = 0) ∧ (rdTwo s 6 0 = twoAt s 6 ∧ rdAt s 6 0 2 = 8 ∧ rdErr s 6 0 2 = 0) :=
  ⟨yes_byte s 0 (by omega), yes_byte s 1 (by omega), yes_two s 2 (by omega), yes_two s 4 (by omega), yes_two s 6 (by omega)⟩
def IsParse (w st a l g e : Int) (W : World) (en : Ending) (W' : World) : Prop := en = .returned (.tuple #[.agg #[.int .u8 w, .int .u8 st, .int .i64 a, .int .i64 l, .int .i64 g], .int .i64 e]) ∧ Below W.heap.size W W'
attribute [local irreducible] rdAt rdErr rdByte rdTwo Rd twoAt

set_option maxHeartbeats 4000000 in
theorem parse_few (s : ByteArray) (w : World) (hs : s.size < 8) (hm : s.size ≤ 9223372036854775807) : Calls Try.prog 17 #[.string s] w (IsParse 0 0 0 0 0 5 w) := by
  go_enter Try.func17, Try.ntmps17
  go_wp2_with fail
  refine (Bi.new_any _ _).mono ?_
  rintro e w1 ⟨rfl, hr1, hk1⟩
  have hb1 : Below w.heap.size w w1 := ((Below.refl _ _).alloc (Nat.le_refl _) _).trans (hk1.all.mono (by simp))
  have hz1 := (Blk.new w 24 #[.int .u8 0, .int .u8 0, .int .i64 0, .int .i64 0, .int .i64 0]).keeps hk1 (by simp)
  have hs0 : w.heap.size < (w.alloc (.cells #[.int .u8 0, .int .u8 0, .int .i64 0, .int .i64 0, .int .i64 0] 24)).heap.size := by simp
  clear hk1
  generalize (w.alloc (.cells #[.int .u8 0, .int .u8 0, .int .i64 0, .int .i64 0, .int .i64 0] 24)).heap.size = br at *
  have hp0 : (0 : Int) ≤ 0 ∧ (0 : Int) ≤ s.size := by omega
  have HC := Lib.hid (Bi.byte_any br s _ _ w1 hr1 hp0.1 hp0.2 hm)
  go_wp2_with fail
  refine HC.out.mono ?_
  clear HC
  rintro e w2 ⟨rfl, hr2, hk2⟩
  have hb2 := hb1.trans (hk2.below (Nat.le_trans (Nat.le_refl _) hb1.size) (by simp; omega))
  have hz2 := hz1.keeps hk2 (by simp; omega)
  clear hk2 hb1 hz1 hr1
  have hp1 := rdAt_bd s 0 0 1 hp0
  clear hp0
  have hv0 := rdByte_bd s 0 0
  generalize hv : (rdByte s 0 0) = v0 at *
  clear hv
  generalize hv : (rdAt s 0 0 1) = a1 at *
  clear hv
  generalize hv : (rdErr s 0 0 1) = e1 at *
  clear hv
  have HC := Lib.hid (Bi.byte_any br s _ _ w2 hr2 hp1.1 hp1.2 hm)
  go_wp2_with fail
  refine HC.out.mono ?_
  clear HC
  rintro e w3 ⟨rfl, hr3, hk3⟩
  have hb3 := hb2.trans (hk3.below (Nat.le_trans (Nat.le_refl _) hb2.size) (by simp; omega))
  have hz3 := hz2.keeps hk3 (by simp; omega)
  clear hk3 hb2 hz2 hr2
  have hp2 := rdAt_bd s a1 e1 1 hp1
  clear hp1
  have hv1 := rdByte_bd s a1 e1
  generalize hv : (rdByte s a1 e1) = v1 at *
  clear hv
  generalize hv : (rdAt s a1 e1 1) = a2 at *
  clear hv
  generalize hv : (rdErr s a1 e1 1) = e2 at *
  clear hv
  have HC := Lib.hid (Bi.rtwo_any br s _ _ w3 hr3 hp2.1 hp2.2 hm)
  go_wp2_with fail
  refine HC.out.mono ?_
  clear HC
  rintro e w4 ⟨rfl, hr4, hk4⟩
  have hb4 := hb3.trans (hk4.below (Nat.le_trans (Nat.le_refl _) hb3.size) (by simp; omega))
  have hz4 := hz3.keeps hk4 (by simp; omega)
  clear hk4 hb3 hz3 hr3
  have hp3 := rdAt_bd s a2 e2 2 hp2
  clear hp2
  generalize hv : (rdTwo s a2 e2) = v2 at *
  clear hv
  generalize hv : (rdAt s a2 e2 2) = a3 at *
  clear hv
  generalize hv : (rdErr s a2 e2 2) = e3 at *
  clear hv
  have HC := Lib.hid (Bi.rtwo_any br s _ _ w4 hr4 hp3.1 hp3.2 hm)
  go_wp2_with fail
  refine HC.out.mono ?_
  clear HC
  rintro e w5 ⟨rfl, hr5, hk5⟩
  have hb5 := hb4.trans (hk5.below (Nat.le_trans (Nat.le_refl _) hb4.size) (by simp; omega))
  have hz5 := hz4.keeps hk5 (by simp; omega)
  clear hk5 hb4 hz4 hr4
  have hp4 := rdAt_bd s a3 e3 2 hp3
  clear hp3
  generalize hv : (rdTwo s a3 e3) = v3 at *
  clear hv
  generalize hv : (rdAt s a3 e3 2) = a4 at *
  clear hv
  generalize hv : (rdErr s a3 e3 2) = e4 at *
  clear hv
  have HC := Lib.hid (Bi.rtwo_any br s _ _ w5 hr5 hp4.1 hp4.2 hm)
  go_wp2_with fail
  refine HC.out.mono ?_
  clear HC
  rintro e w6 ⟨rfl, hr6, hk6⟩
  have hb6 := hb5.trans (hk6.below (Nat.le_trans (Nat.le_refl _) hb5.size) (by simp; omega))
  have hz6 := hz5.keeps hk6 (by simp; omega)
  clear hk6 hb5 hz5 hr5
  have hp5 := rdAt_bd s a4 e4 2 hp4
  clear hp4
  generalize hv : (rdTwo s a4 e4) = v4 at *
  clear hv
  generalize hv : (rdAt s a4 e4 2) = a5 at *
  clear hv
  generalize hv : (rdErr s a4 e4 2) = e5 at *
  clear hv
  obtain ⟨c0, c1⟩ := hv0
  obtain ⟨x0, x1⟩ := hv1
  have hne : (a5 != 8) = true := by rw [bne_iff_ne]; omega
  clear hp5
  have HA := Lib.hid (fun o => Bi.at_any br s _ _ (w6.alloc o) (Bi.Rd.alloc hr6 o))
  clear hr6
  go_wp2_with fail
  refine (HA.out _).mono ?_
  rintro e w7 ⟨rfl, hd7⟩
  have hz7 := (hz6.alloc _).drawn hd7
  have hb7 := (hb6.alloc hb6.size _).trans (hd7.below _)
  have q0 := hz7.cell 0
  have q1 := hz7.cell 1
  have q2 := hz7.cell 2
  have q3 := hz7.cell 3
  have q4 := hz7.cell 4
  have qf := hz7.frozen
  have ql := hz7.lt
  clear HA hz6 hb6
  go_wp2
  refine bodyPost_ret (v := .tuple #[.agg #[.int .u8 0, .int .u8 0, .int .i64 0, .int .i64 0, .int .i64 0], .int .i64 5]) (by simp [results, Try.results17, go_sem, q0, q1, q2, q3, q4]) rfl ⟨rfl, ?_⟩
  exact ((((hb7.setCell (Nat.le_refl _) _).setCell (Nat.le_refl _) _).setCell (Nat.le_refl _) _).setCell (Nat.le_refl _) _).setCell (Nat.le_refl _) _

set_option maxHeartbeats 4000000 in
theorem parse_good (s : ByteArray) (w : World) (hs : 8 ≤ s.size) (hm : s.size ≤ 9223372036854775807) : Calls Try.prog 17 #[.string s] w (IsParse (bt s 0) (bt s 1) (twoAt s 2) (twoAt s 4) (twoAt s 6) 0 w) := by
  have F := Lib.hid (eight s hs)
  have c0 := bt_nonneg s 0
  have c1 := bt_le s 0
  have x0 := bt_nonneg s 1
  have x1 := bt_le s 1
  go_enter Try.func17, Try.ntmps17
  go_wp2_with fail
  refine (Bi.new_any _ _).mono ?_
  rintro e w1 ⟨rfl, hr1, hk1⟩
  have hb1 : Below w.heap.size w w1 := ((Below.refl _ _).alloc (Nat.le_refl _) _).trans (hk1.all.mono (by simp))
  have hz1 := (Blk.new w 24 #[.int .u8 0, .int .u8 0, .int .i64 0, .int .i64 0, .int .i64 0]).keeps hk1 (by simp)
  have hs0 : w.heap.size < (w.alloc (.cells #[.int .u8 0, .int .u8 0, .int .i64 0, .int .i64 0, .int .i64 0] 24)).heap.size := by simp
  clear hk1
  generalize (w.alloc (.cells #[.int .u8 0, .int .u8 0, .int .i64 0, .int .i64 0, .int .i64 0] 24)).heap.size = br at *
  have HC := Lib.hid (Bi.byte_any br s 0 0 w1 hr1 (by decide) (by omega) hm)
  rw [F.out.1.1, F.out.1.2.1, F.out.1.2.2] at HC
  go_wp2_with fail
  refine HC.out.mono ?_
  clear HC
  rintro e w2 ⟨rfl, hr2, hk2⟩
  have hb2 := hb1.trans (hk2.below (Nat.le_trans (Nat.le_refl _) hb1.size) (by simp; omega))
  have hz2 := hz1.keeps hk2 (by simp; omega)
  clear hk2 hb1 hz1 hr1
  have HC := Lib.hid (Bi.byte_any br s 1 0 w2 hr2 (by decide) (by omega) hm)
  rw [F.out.2.1.1, F.out.2.1.2.1, F.out.2.1.2.2] at HC
  go_wp2_with fail
  refine HC.out.mono ?_
  clear HC
  rintro e w3 ⟨rfl, hr3, hk3⟩
  have hb3 := hb2.trans (hk3.below (Nat.le_trans (Nat.le_refl _) hb2.size) (by simp; omega))
  have hz3 := hz2.keeps hk3 (by simp; omega)
  clear hk3 hb2 hz2 hr2
  have HC := Lib.hid (Bi.rtwo_any br s 2 0 w3 hr3 (by decide) (by omega) hm)
  rw [F.out.2.2.1.1, F.out.2.2.1.2.1, F.out.2.2.1.2.2] at HC
  go_wp2_with fail
  refine HC.out.mono ?_
  clear HC
  rintro e w4 ⟨rfl, hr4, hk4⟩
  have hb4 := hb3.trans (hk4.below (Nat.le_trans (Nat.le_refl _) hb3.size) (by simp; omega))
  have hz4 := hz3.keeps hk4 (by simp; omega)
  clear hk4 hb3 hz3 hr3
  have HC := Lib.hid (Bi.rtwo_any br s 4 0 w4 hr4 (by decide) (by omega) hm)
  rw [F.out.2.2.2.1.1, F.out.2.2.2.1.2.1, F.out.2.2.2.1.2.2] at HC
  go_wp2_with fail
  refine HC.out.mono ?_
  clear HC
  rintro e w5 ⟨rfl, hr5, hk5⟩
  have hb5 := hb4.trans (hk5.below (Nat.le_trans (Nat.le_refl _) hb4.size) (by simp; omega))
  have hz5 := hz4.keeps hk5 (by simp; omega)
  clear hk5 hb4 hz4 hr4
  have HC := Lib.hid (Bi.rtwo_any br s 6 0 w5 hr5 (by decide) (by omega) hm)
  rw [F.out.2.2.2.2.1, F.out.2.2.2.2.2.1, F.out.2.2.2.2.2.2] at HC
  go_wp2_with fail
  refine HC.out.mono ?_
  clear HC
  rintro e w6 ⟨rfl, hr6, hk6⟩
  have hb6 := hb5.trans (hk6.below (Nat.le_trans (Nat.le_refl _) hb5.size) (by simp; omega))
  have hz6 := hz5.keeps hk6 (by simp; omega)
  clear hk6 hb5 hz5 hr5
  generalize bt s 0 = v0 at *
  generalize bt s 1 = v1 at *
  generalize twoAt s 2 = v2 at *
  generalize twoAt s 4 = v3 at *
  generalize twoAt s 6 = v4 at *
  have HA := Lib.hid (fun o => Bi.at_any br s _ _ (w6.alloc o) (Bi.Rd.alloc hr6 o))
  clear hr6 F
  go_wp2_with fail
  refine (HA.out _).mono ?_
  rintro e w7 ⟨rfl, hd7⟩
  have hz7 := (hz6.alloc _).drawn hd7
  have hb7 := (hb6.alloc hb6.size _).trans (hd7.below _)
  have hi7 := (Blk.new w6 24 #[.int .u8 v0, .int .u8 v1, .int .i64 v2, .int .i64 v3, .int .i64 v4]).drawn hd7
  have p0 : w7.cell? ⟨w6.heap.size, 0, none⟩ = some (.int .u8 v0) := hi7.cell 0
  have p1 : w7.cell? ⟨w6.heap.size, 1, none⟩ = some (.int .u8 v1) := hi7.cell 1
  have p2 : w7.cell? ⟨w6.heap.size, 2, none⟩ = some (.int .i64 v2) := hi7.cell 2
  have p3 : w7.cell? ⟨w6.heap.size, 3, none⟩ = some (.int .i64 v3) := hi7.cell 3
  have p4 : w7.cell? ⟨w6.heap.size, 4, none⟩ = some (.int .i64 v4) := hi7.cell 4
  clear hi7
  have q0 := hz7.cell 0
  have q1 := hz7.cell 1
  have q2 := hz7.cell 2
  have q3 := hz7.cell 3
  have q4 := hz7.cell 4
  have qf := hz7.frozen
  have ql := hz7.lt
  clear HA hz6 hb6
  go_wp2
  refine bodyPost_ret (v := .tuple #[.agg #[.int .u8 v0, .int .u8 v1, .int .i64 v2, .int .i64 v3, .int .i64 v4], .int .i64 0]) (by simp [results, Try.results17, go_sem, q0, q1, q2, q3, q4]) rfl ⟨rfl, ?_⟩
  exact ((((hb7.setCell (Nat.le_refl _) _).setCell (Nat.le_refl _) _).setCell (Nat.le_refl _) _).setCell (Nat.le_refl _) _).setCell (Nat.le_refl _) _

end De
end Go.Proofs.Ytdjckfcafiikeaa
