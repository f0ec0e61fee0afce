/- The law CrcSeals: its walk. -/
import Derived.Test.YtjdhkpafbejodaaCrcL1
namespace Go.Proofs.Ytjdhkpafbejodaa
open Go.RowKit
attribute [local go_sem] Bw.and255 Bw.and65535
namespace Cw
open Cm

theorem rseal_any (s : ByteArray) (w : World) (hs : s.size ≤ 9000) : Calls Try.prog 7 #[.string s] w (IsText (sealL s.data.toList) w) := by
  have hcv := two_bytes w
  have hsz : ∀ x y : Int, (strOfNums [x, y]).size = 2 := fun x y => strOfNums_size [x, y]
  have H : ∀ n : Nat, n < 65536 → (s ++ strOfNums [(n : Int) / 256, (n : Int) % 256]).data.toList = s.data.toList ++ [UInt8.ofNat (n / 256), UInt8.ofNat (n % 256)] := by
    intro n hn
    have h1 : ((n : Int) / 256).toNat = n / 256 := by omega
    have h2 : ((n : Int) % 256).toNat = n % 256 := by omega
    simp [strOfNums, h1, h2]
  have h1 := H _ (crc 65535#16 s.data.toList).isLt
  have H1 := Lib.hid h1
  have HF : Hid (sealL s.data.toList = s.data.toList ++ [UInt8.ofNat ((crc 65535#16 s.data.toList).toNat / 256), UInt8.ofNat ((crc 65535#16 s.data.toList).toNat % 256)]) := rfl
  generalize sealL s.data.toList = l at *
  clear h1 H
  generalize hv : crc 65535#16 s.data.toList = v at *
  have HV := Lib.hid hv
  clear hv
  go_enter Try.func7, Try.ntmps7
  go_wp2_with (go_at_call 16; refine (rsum_any _ _ hs).mono ?_; rintro e w' ⟨rfl, rfl⟩; rw [HV.out])
  go_ret
  exact ⟨_, rfl, by rw [H1.out, HF.out], (Below.refl _ _).alloc (Nat.le_refl _) _⟩

theorem openV_seal (l : List UInt8) : openV (sealL l) = (l, 0) ∧ crc 65535#16 (sealL l) = 0#16 := by
  have h : crc 65535#16 (sealL l) = 0#16 := by
    rw [← seal_iff _ (by rw [sealL_length]; omega)]
    rw [sealL_length]
    have : (sealL l).take (l.length + 2 - 2) = l := by simp [sealL]
    rw [this]
  refine ⟨?_, h⟩
  unfold openV
  rw [if_neg (by rw [sealL_length]; omega), if_pos h, sealL_length]
  simp [sealL]
theorem open_seal (x : ByteArray) (l : List UInt8) (w : World) (hx : x.data.toList = sealL l) (hs : x.size ≤ 9000) : Calls Try.prog 17 #[.string x] w (IsPair l 0 w) := by
  have := open_any x w hs
  rw [hx, (openV_seal l).1] at this
  exact this
theorem sum_seal (x : ByteArray) (l : List UInt8) (w : World) (hx : x.data.toList = sealL l) (hs : x.size ≤ 9000) : Calls Try.prog 42 #[.string x] w fun e w' => e = .returned (.int .i64 0) ∧ w = w' := by
  have := sum_any x w hs
  rw [hx, (openV_seal l).2] at this
  exact this
theorem size_of (x : ByteArray) (l : List UInt8) (hx : x.data.toList = l) : x.size = l.length := by rw [← hx]; simp
theorem open_is (x : ByteArray) (l : List UInt8) (n : Int) (w : World) (hs : x.size ≤ 9000) (hx : openV x.data.toList = (l, n)) : Calls Try.prog 17 #[.string x] w (IsPair l n w) := by
  have := open_any x w hs
  rw [hx] at this
  exact this
theorem openV_short (l : List UInt8) (h : l.length < 2) : openV l = ([], 5) := by unfold openV; rw [if_pos h]
theorem openV_good (l : List UInt8) (h : ¬ l.length < 2) (hz : crc 65535#16 l = 0#16) : openV l = (l.take (l.length - 2), 0) := by unfold openV; rw [if_neg h, if_pos hz]
theorem openV_bad (l : List UInt8) (h : ¬ l.length < 2) (hz : ¬ crc 65535#16 l = 0#16) : openV l = ([], 10) := by unfold openV; rw [if_neg h, if_neg hz]
theorem sempty {r : ByteArray} (h : r.data.toList = []) : r.toList.isEmpty = true := by rw [ByteArray.toList_eq, h]; rfl

end Cw
end Go.Proofs.Ytjdhkpafbejodaa
