/- The law CrcSeals: its walk. -/
import Derived.Test.YtjgmohlhabaoaaaCrcL1
namespace Go.Proofs.Ytjgmohlhabaoaaa
open Go.RowKit
attribute [local go_sem] Bw.and255 Bw.and65535
namespace Cw
open Cm

theorem rseal_any (s : ByteArray) (w : World) (hs : s.size ≤ 400) : Calls Try.prog 16 #[.string s] w (IsText (sealL s.data.toList) w) := by
  have hcv := two_bytes w
  have hsz : ∀ x y : Int, (strOfNums [x, y]).size = 2 := fun x y => strOfNums_size [x, y]
  have H : ∀ n : Nat, n < 65536 → (s ++ strOfNums [(n : Int) / 256, (n : Int) % 256]).data.toList = s.data.toList ++ [UInt8.ofNat (n / 256), UInt8.ofNat (n % 256)] := by
    intro n hn
    have h1 : ((n : Int) / 256).toNat = n / 256 := by omega
    have h2 : ((n : Int) % 256).toNat = n % 256 := by omega
    simp [strOfNums, h1, h2]
  have h1 := H _ (crc 65535#16 s.data.toList).isLt
  have H1 := Lib.hid h1
  have HF : Hid (sealL s.data.toList = s.data.toList ++ [UInt8.ofNat ((crc 65535#16 s.data.toList).toNat / 256), UInt8.ofNat ((crc 65535#16 s.data.toList).toNat % 256)]) := rfl
  generalize sealL s.data.toList = l at *
  clear h1 H
  generalize hv : crc 65535#16 s.data.toList = v at *
  have HV := Lib.hid hv
  clear hv
  go_enter Try.func16, Try.ntmps16
  go_wp2_with (go_at_call 12; refine (rsum_any _ _ hs).mono ?_; rintro e w' ⟨rfl, rfl⟩; rw [HV.out])
  go_ret
  exact ⟨_, rfl, by rw [H1.out, HF.out], (Below.refl _ _).alloc (Nat.le_refl _) _⟩

theorem openV_seal (l : List UInt8) : openV (sealL l) = (l, 0) ∧ crc 65535#16 (sealL l) = 0#16 := by
  have h : crc 65535#16 (sealL l) = 0#16 := by
    rw [← seal_iff _ (by rw [sealL_length]; omega)]
    rw [sealL_length]
    have : (sealL l).take (l.length + 2 - 2) = l := by simp [sealL]
    rw [this]
  refine ⟨?_, h⟩
  unfold openV
  rw [if_neg (by rw [sealL_length]; omega), if_pos h, sealL_length]
  simp [sealL]
theorem open_seal (x : ByteArray) (l : List UInt8) (w : World) (hx : x.data.toList = sealL l) (hs : x.size ≤ 400) : Calls Try.prog 15 #[.string x] w (IsPair l 0 w) := by
  have := open_any x w hs
  rw [hx, (openV_seal l).1] at this
  exact this
theorem sum_seal (x : ByteArray) (l : List UInt8) (w : World) (hx : x.data.toList = sealL l) (hs : x.size ≤ 400) : Calls Try.prog 11 #[.string x] w fun e w' => e = .returned (.int .i64 0) ∧ w = w' := by
  have := sum_any x w hs
  rw [hx, (openV_seal l).2] at this
  exact this
theorem size_of (x : ByteArray) (l : List UInt8) (hx : x.data.toList = l) : x.size = l.length := by rw [← hx]; simp
theorem open_is (x : ByteArray) (l : List UInt8) (n : Int) (w : World) (hs : x.size ≤ 400) (hx : openV x.data.toList = (l, n)) : Calls Try.prog 15 #[.string x] w (IsPair l n w) := by
  have := open_any x w hs
  rw [hx] at this
  exact this
theorem openV_short (l : List UInt8) (h : l.length < 2) : openV l = ([], 5) := by unfold openV; rw [if_pos h]
theorem openV_good (l : List UInt8) (h : ¬ l.length < 2) (hz : crc 65535#16 l = 0#16) : openV l = (l.take (l.length - 2), 0) := by unfold openV; rw [if_neg h, if_pos hz]
theorem openV_bad (l : List UInt8) (h : ¬ l.length < 2) (hz : ¬ crc 65535#16 l = 0#16) : openV l = ([], 10) := by unfold openV; rw [if_neg h, if_neg hz]
theorem sempty {r : ByteArray} (h : r.data.toList = []) : r.toList.isEmpty = true := by rw [ByteArray.toList_eq, h]; rfl

/-- The law: CrcSeals. -/
theorem seals_law (s t : ByteArray) (w : World) (_ : s.size ≤ maxLen) (_ : t.size ≤ maxLen) : Calls Try.prog 4 #[.string s, .string t] w fun e w' => e = .returned (.bool true) ∧ Below w.heap.size w w' := by
  by_cases hl : 300 < s.size
  · go_enter Try.func4, Try.ntmps4
    go_wp2_with (go_at_call 7; refine (live_any _).mono ?_; rintro e w' ⟨rfl, rfl⟩)
    go_ret
    exact ⟨rfl, Below.refl _ _⟩
  by_cases ht : 300 < t.size
  · go_enter Try.func4, Try.ntmps4
    go_wp2_with (go_at_call 7; refine (live_any _).mono ?_; rintro e w' ⟨rfl, rfl⟩)
    go_ret
    exact ⟨rfl, Below.refl _ _⟩
  have hs4 : s.size ≤ 400 := by omega
  have ht4 : t.size ≤ 400 := by omega
  go_enter Try.func4, Try.ntmps4
  go_wp2_with fail
  refine (seal_any _ _ hs4).mono ?_
  rintro e w1 ⟨x, rfl, hx, hb1⟩
  have hxs : x.size ≤ 400 := by rw [size_of x _ hx, sealL_length]; simp; omega
  have HX := Lib.hid hx
  clear hx
  go_wp2_with fail
  refine (open_seal x _ _ HX.out hxs).mono ?_
  rintro e w2 ⟨back, rfl, hk, hb2⟩
  have hq1 := seq_true hk
  clear hk
  go_wp2_with fail
  refine (rseal_any _ _ hs4).mono ?_
  rintro e w3 ⟨y, rfl, hy, hb3⟩
  have hq2 := seq_true (HX.out.trans hy.symm)
  clear hy
  go_wp2_with fail
  refine (sum_seal x _ _ HX.out hxs).mono ?_
  rintro e w4 ⟨rfl, rfl⟩
  go_wp2_with fail
  clear hq1 hq2
  by_cases h2 : t.size < 2
  · refine (open_is _ _ _ _ ht4 (openV_short _ (by simpa using h2))).mono ?_
    rintro e w5 ⟨bk, rfl, hk, hb5⟩
    have hq := sempty hk
    clear hk
    go_wp2_with (go_at_call 7; refine (live_any _).mono ?_; rintro e w' ⟨rfl, rfl⟩)
    go_ret
    exact ⟨rfl, ((hb1.trans (hb2.mono hb1.size)).trans (hb3.mono (Nat.le_trans hb1.size hb2.size))).trans (hb5.mono (Nat.le_trans hb1.size (Nat.le_trans hb2.size hb3.size)))⟩
  have hx2 : (t.extract 0 (t.size - 2)).data.toList = t.data.toList.take (t.data.toList.length - 2) := by simp
  have hxs2 : (t.extract 0 (t.size - 2)).size ≤ 400 := by simp; omega
  have h2l : 2 ≤ t.data.toList.length := by simp; omega
  have HQ := Lib.hid (seal_iff _ h2l)
  have HX2 := Lib.hid hx2
  clear hx2 h2l
  by_cases hz : crc 65535#16 t.data.toList = 0#16
  · have hT := HQ.out.2 hz
    have HT := Lib.hid hT
    refine (open_is _ _ _ _ ht4 (openV_good _ (by simp; omega) hz)).mono ?_
    clear hT hz
    rintro e w5 ⟨bk, rfl, hk, hb5⟩
    have hq := seq_true (hk.trans HX2.out.symm)
    clear hk
    go_wp2_with fail
    refine (rseal_any _ _ hxs2).mono ?_
    rintro e w6 ⟨y2, rfl, hy, hb6⟩
    have hq2 := seq_true (by rw [hy, HX2.out, HT.out] : y2.data.toList = t.data.toList)
    clear hy
    go_wp2_with (go_at_call 7; refine (live_any _).mono ?_; rintro e w' ⟨rfl, rfl⟩)
    go_ret
    exact ⟨rfl, (((hb1.trans (hb2.mono hb1.size)).trans (hb3.mono (Nat.le_trans hb1.size hb2.size))).trans (hb5.mono (Nat.le_trans hb1.size (Nat.le_trans hb2.size hb3.size)))).trans (hb6.mono (Nat.le_trans hb1.size (Nat.le_trans hb2.size (Nat.le_trans hb3.size hb5.size))))⟩
  · have HT : Hid (¬ sealL (t.data.toList.take (t.data.toList.length - 2)) = t.data.toList) := fun h => hz (HQ.out.1 h)
    refine (open_is _ _ _ _ ht4 (openV_bad _ (by simp; omega) hz)).mono ?_
    clear hz
    rintro e w5 ⟨bk, rfl, hk, hb5⟩
    have hq := sempty hk
    clear hk
    go_wp2_with fail
    refine (rseal_any _ _ hxs2).mono ?_
    rintro e w6 ⟨y2, rfl, hy, hb6⟩
    have hq2 := seq_false (by rw [hy, HX2.out]; exact HT.out : ¬ y2.data.toList = t.data.toList)
    clear hy
    go_wp2_with (go_at_call 7; refine (live_any _).mono ?_; rintro e w' ⟨rfl, rfl⟩)
    go_ret
    exact ⟨rfl, (((hb1.trans (hb2.mono hb1.size)).trans (hb3.mono (Nat.le_trans hb1.size hb2.size))).trans (hb5.mono (Nat.le_trans hb1.size (Nat.le_trans hb2.size hb3.size)))).trans (hb6.mono (Nat.le_trans hb1.size (Nat.le_trans hb2.size (Nat.le_trans hb3.size hb5.size))))⟩
end Cw
end Go.Proofs.Ytjgmohlhabaoaaa
