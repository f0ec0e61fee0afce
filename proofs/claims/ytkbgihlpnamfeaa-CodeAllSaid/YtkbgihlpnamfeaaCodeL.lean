/- The laws CodeGets and CodePuts: their walks. -/
import Derived.Test.YtkbgihlpnamfeaaCodeP
import Derived.Test.YtkbgihlpnamfeaaCodeH
namespace Go.Proofs.Ytkbgihlpnamfeaa
open Go.RowKit
attribute [local go_sem] Bw.and255 Bw.and65535
namespace Co
open Sm
open PlainAid (bt get_bt bt_nonneg bt_le)
theorem live_put : (if mayB 1 3 513 = true then True else False) ∧ encI 1 3 513 = [1, 3, 1, 2] := by decide +kernel
theorem live_any (w : World) : Calls Try.prog 10 #[] w fun e w' => e = .returned (.bool true) ∧ Below w.heap.size w w' := by
  have h1 : mayB 1 3 513 = true := by decide +kernel
  have h2 : encI 1 3 513 = [1, 3, 1, 2] := by decide +kernel
  have H1 := Lib.hid h1
  have H2 := Lib.hid h2
  clear h1 h2
  go_enter Try.func10, Try.ntmps10
  go_wp2_with fail
  refine (put_yes 1 3 513 _ (by decide) (by decide) (by decide) (by decide) H1.out).mono ?_
  rintro e w1 ⟨r, rfl, hr, hb⟩
  have hq := seq_lit (hr.trans H2.out)
  clear hr
  go_wp2_with fail
  refine (named_any _ _).mono ?_
  rintro e w2 ⟨i, hi, rfl, hb2⟩
  obtain rfl : i = 15 := by
    rcases hi with ⟨_, hno⟩ | ⟨k, rfl, hk, hq⟩
    · exact absurd rfl (hno 15 (by decide))
    · have := nm_inj k 15 hk (by decide) (hq.trans rfl)
      omega
  clear hi
  go_wp2
  go_ret
  exact ⟨rfl, Below.next hb hb2⟩
theorem enc_bytes (s : ByteArray) (h : 4 ≤ s.size) : encI (bt s 0) (bt s 1) (bt s 2 + 256 * bt s 3) = s.data.toList.take 4 := by
  have a0 := bt_get s 0 (by omega)
  have a1 := bt_get s 1 (by omega)
  have a2 := bt_get s 2 (by omega)
  have a3 := bt_get s 3 (by omega)
  have b2 := bt_le s 2
  have b3 := bt_le s 3
  have c2 := bt_nonneg s 2
  have c3 := bt_nonneg s 3
  have e : s.data.toList.take 4 = [s[0], s[1], s[2], s[3]] := by
    rw [take_snoc s 3 (by omega), take_snoc s 2 (by omega), take_snoc s 1 (by omega), take_snoc s 0 (by omega)]
    rfl
  rw [e]
  unfold encI Bi.putL
  rw [show (bt s 2 + 256 * bt s 3) % 256 = bt s 2 from by omega, show (bt s 2 + 256 * bt s 3) / 256 % 256 = bt s 3 from by omega, a0, a1, a2, a3]
  simp
attribute [local irreducible] nm regB mayB encI
set_option maxHeartbeats 2000000 in
theorem gets_law (s : ByteArray) (w : World) (hs : s.size ≤ maxLen) : Calls Try.prog 5 #[.string s] w fun e w' => e = .returned (.bool true) ∧ Below w.heap.size w w' := by
  unfold maxLen at hs
  have hm : s.size ≤ 9223372036854775807 := by omega
  clear hs
  by_cases h4 : s.size < 4
  · skip
    go_enter Try.func5, Try.ntmps5
    go_wp2_with fail
    refine (get_few s _ h4).mono ?_
    rintro e w1 ⟨rfl, hb1⟩
    go_wp2_with fail
    refine (rget_few s _ h4).mono ?_
    rintro e w2 ⟨rfl, hb2⟩
    have hi2 := (Blk.new w1 24 #[.int .u8 0, .int .i64 0, .int .i64 0]).below hb2 (by simp)
    have HB : Hid (Below w.heap.size w w2) := Below.next hb1 (((Below.refl _ _).alloc (Nat.le_refl _) (.cells #[.int .u8 0, .int .i64 0, .int .i64 0] 24)).trans (hb2.mono (by simp)))
    have hlt := hi2.lt
    have p0 := hi2.cell 0
    have p1 := hi2.cell 1
    have p2 := hi2.cell 2
    clear hi2 hb2 hb1
    go_wp2_with fail
    refine (live_any _).mono ?_
    rintro e w3 ⟨rfl, hb3⟩
    go_wp2
    go_ret
    exact ⟨rfl, (HB.out.alloc HB.out.size _).trans (hb3.mono (by simp; have := HB.out.size; omega))⟩
  have h4' : 4 ≤ s.size := by omega
  clear h4
  have h4 := h4'
  cases hM : mayB (bt s 0) (bt s 1) (bt s 2 + 256 * bt s 3)
  · have H := Lib.hid hM
    clear hM
    go_enter Try.func5, Try.ntmps5
    go_wp2_with fail
    refine (get_bad s _ h4 hm H.out).mono ?_
    rintro e w1 ⟨rfl, hb1⟩
    go_wp2_with fail
    refine (rget_bad s _ h4 hm H.out).mono ?_
    rintro e w2 ⟨rfl, hb2⟩
    have hi2 := (Blk.new w1 24 #[.int .u8 0, .int .i64 0, .int .i64 0]).below hb2 (by simp)
    have HB : Hid (Below w.heap.size w w2) := Below.next hb1 (((Below.refl _ _).alloc (Nat.le_refl _) (.cells #[.int .u8 0, .int .i64 0, .int .i64 0] 24)).trans (hb2.mono (by simp)))
    have hlt := hi2.lt
    have p0 := hi2.cell 0
    have p1 := hi2.cell 1
    have p2 := hi2.cell 2
    clear hi2 hb2 hb1
    go_wp2_with fail
    refine (live_any _).mono ?_
    rintro e w3 ⟨rfl, hb3⟩
    go_wp2
    go_ret
    exact ⟨rfl, (HB.out.alloc HB.out.size _).trans (hb3.mono (by simp; have := HB.out.size; omega))⟩
  · have H := Lib.hid hM
    clear hM
    have c0 := bt_nonneg s 0
    have c1 := bt_le s 0
    have x0 := bt_nonneg s 1
    have x1 := bt_le s 1
    have HQ := Lib.hid (enc_bytes s h4)
    go_enter Try.func5, Try.ntmps5
    go_wp2_with fail
    refine (get_good s _ h4 hm H.out).mono ?_
    rintro e w1 ⟨rfl, hb1⟩
    go_wp2_with fail
    refine (rget_good s _ h4 hm H.out).mono ?_
    rintro e w2 ⟨rfl, hb2⟩
    have hi2 := (Blk.new w1 24 #[.int .u8 (bt s 0), .int .i64 (bt s 1), .int .i64 (bt s 2 + 256 * bt s 3)]).below hb2 (by simp)
    have HB : Hid (Below w.heap.size w w2) := Below.next hb1 (((Below.refl _ _).alloc (Nat.le_refl _) (.cells #[.int .u8 (bt s 0), .int .i64 (bt s 1), .int .i64 (bt s 2 + 256 * bt s 3)] 24)).trans (hb2.mono (by simp)))
    have hlt := hi2.lt
    have p0 := hi2.cell 0
    have p1 := hi2.cell 1
    have p2 := hi2.cell 2
    clear hi2 hb2 hb1
    have HP := Lib.hid (fun W => put_yes (bt s 0) (bt s 1) (bt s 2 + 256 * bt s 3) W c0 c1 x0 x1 H.out)
    rw [HQ.out] at HP
    generalize bt s 0 = c at *
    generalize bt s 1 = x at *
    generalize bt s 2 + 256 * bt s 3 = n at *
    go_wp2_with fail
    refine (HP.out _).mono ?_
    rintro e w3 ⟨r, rfl, hr, hb3⟩
    have hq := seq_true (r := r) (s := s.extract 0 4) (by rw [hr]; simp)
    have HB3 : Hid (Below w.heap.size w w3) := (HB.out.alloc HB.out.size _).trans (hb3.mono (by simp; have := HB.out.size; omega))
    clear hr
    go_wp2_with fail
    refine (live_any _).mono ?_
    rintro e w4 ⟨rfl, hb4⟩
    go_wp2
    go_ret
    exact ⟨rfl, HB3.out.trans (hb4.mono HB3.out.size)⟩
end Co
end Go.Proofs.Ytkbgihlpnamfeaa
