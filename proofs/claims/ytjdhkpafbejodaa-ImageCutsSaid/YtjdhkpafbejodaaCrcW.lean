/- What each function of the check's package, of its reference, and of bits computes: one contract a function. -/
import Derived.Test.YtjdhkpafbejodaaProg
import Derived.Test.YtjdhkpafbejodaaBw
import Derived.Test.YtjdhkpafbejodaaCrcM
import Derived.WalkKit
import Derived.WalkLawsBesides
import Derived.WalkSpells
import Derived.PlainAid
import Derived.Outline
import Derived.Lib.Hide
import Derived.Handy
namespace Go.Proofs.Ytjdhkpafbejodaa
open Go.RowKit
attribute [local go_sem] Bw.and255 Bw.and65535
namespace Cw
open Cm

theorem seq_true {r s : ByteArray} (h : r.data.toList = s.data.toList) : (r.toList == s.toList) = true := by
  rw [ByteArray.toList_eq, ByteArray.toList_eq, h]; simp
theorem seq_false {r s : ByteArray} (h : ¬ r.data.toList = s.data.toList) : (r.toList == s.toList) = false := by
  rw [ByteArray.toList_eq, ByteArray.toList_eq]; simpa using h
theorem ret_int {k : IntKind} {a b : Int} (h : a = b) : Ending.returned (.int k a) = .returned (.int k b) := by rw [h]
theorem wrap64_in' (x : Int) (h : -9223372036854775808 ≤ x ∧ x ≤ 9223372036854775807) : wrap64 x = x := IntWalk.wrap64_in x h

/-! bits -/
theorem low_any (n : Int) (w : World) : Calls Try.prog 44 #[.int .i64 n] w fun e w' => e = .returned (.int .i64 (n % 256)) ∧ w = w' := by
  go_enter Try.func44, Try.ntmps44
  go_wp2
  go_ret
  exact ⟨rfl, rfl⟩
theorem high_any (n : Int) (w : World) : Calls Try.prog 43 #[.int .i64 n] w fun e w' => e = .returned (.int .i64 (n / 256 % 256)) ∧ w = w' := by
  go_enter Try.func43, Try.ntmps43
  go_wp2
  go_ret
  exact ⟨rfl, rfl⟩

/-! the check -/
/-- One bit, in the walk's spelling. -/
theorem bit_of (v : W16) : bits .and .i64 (v.toNat : Int) 32768 = if v.msb then 32768 else 0 := by
  have hv := v.isLt
  have := Bw.and_nat v.toNat 32768 (by omega) (by decide)
  rw [show ((32768 : Nat) : Int) = 32768 from rfl] at this
  rw [this]
  rw [show (32768 : Nat) = 2 ^ 15 from rfl, nat_bit]
  rw [BitVec.msb_eq_decide]
  by_cases h : 2 ^ (16 - 1) ≤ v.toNat
  · rw [if_pos (by simpa using h)]; have : v.toNat / 2 ^ 15 % 2 = 1 := by omega
    rw [this]; rfl
  · rw [if_neg (by simpa using h)]; have : v.toNat / 2 ^ 15 % 2 = 0 := by omega
    rw [this]; rfl
theorem sh_yes (v : W16) (h : v.msb = true) : bits .xor .i64 ((v.toNat : Int) * 2 % 65536) 4129 = ((sh v).toNat : Int) := by
  have e : ((v.toNat : Int) * 2 % 65536) = ((v.toNat * 2 % 65536 : Nat) : Int) := by omega
  have := Bw.xor_nat (v.toNat * 2 % 65536) 4129 (by omega) (by decide)
  rw [e]
  rw [show ((4129 : Nat) : Int) = 4129 from rfl] at this
  rw [this]
  unfold sh
  rw [h, BitVec.toNat_xor, BitVec.toNat_shiftLeft, Nat.shiftLeft_eq]
  rfl
theorem sh_no (v : W16) (h : v.msb = false) : (v.toNat : Int) * 2 % 65536 = ((sh v).toNat : Int) := by
  have e : ((v.toNat : Int) * 2 % 65536) = ((v.toNat * 2 % 65536 : Nat) : Int) := by omega
  rw [e]
  unfold sh
  rw [h, show poly false = 0#16 from rfl, BitVec.xor_zero, BitVec.toNat_shiftLeft, Nat.shiftLeft_eq]
/-- A number's lower 16 bits. -/
def w16 (s : Int) : W16 := BitVec.ofNat 16 (s % 65536).toNat
theorem w16_nat (v : W16) : w16 (v.toNat : Int) = v := by
  have hv := v.isLt
  unfold w16
  apply BitVec.eq_of_toNat_eq
  rw [BitVec.toNat_ofNat]; omega
theorem start_of (s b : Int) : bits .xor .i64 (s % 65536) (b % 256 * 256) = ((w16 s ^^^ BitVec.ofNat 16 ((b % 256).toNat * 256)).toNat : Int) := by
  have h1 : s % 65536 = (((s % 65536).toNat : Nat) : Int) := by omega
  have h2 : b % 256 * 256 = (((b % 256).toNat * 256 : Nat) : Int) := by omega
  have := Bw.xor_nat (s % 65536).toNat ((b % 256).toNat * 256) (by omega) (by omega)
  rw [← h1, ← h2] at this
  rw [this, BitVec.toNat_xor]
  unfold w16
  rw [BitVec.toNat_ofNat, BitVec.toNat_ofNat, Nat.mod_eq_of_lt (by omega), Nat.mod_eq_of_lt (by omega)]
theorem step_any (s b : Int) (w : World) : Calls Try.prog 51 #[.int .i64 s, .int .i64 b] w fun e w' => e = .returned (.int .i64 ((byteStep (w16 s) (b % 256).toNat).toNat : Int)) ∧ w = w' := by
  have H0 := Lib.hid (start_of s b)
  have hb : 0 ≤ b % 256 ∧ b % 256 ≤ 255 := by omega
  obtain ⟨hb0, hb1⟩ := hb
  unfold byteStep
  generalize (w16 s ^^^ BitVec.ofNat 16 ((b % 256).toNat * 256)) = v0 at *
  go_enter Try.func51, Try.ntmps51
  go_wp2
  go_loop [0, 5, 12] (fun x _ i => ∃ k : Nat, k ≤ 8 ∧ i = .int .i64 k ∧ x = .int .i64 ((shs k v0).toNat : Int)) (fun _ _ i => 8 - (intOf i).toNat)
  case atStart => exact ⟨0, by omega, rfl, by rw [H0.out]; rfl⟩
  case round =>
    obtain ⟨k, hk, rfl, rfl⟩ := hrel
    have hS : shs (k + 1) v0 = sh (shs k v0) := rfl
    have HS := Lib.hid hS
    clear hS
    generalize hE : shs k v0 = v at *
    have HE := Lib.hid hE
    clear hE
    have hv := v.isLt
    have hb := bit_of v
    by_cases hlt : k < 8
    · cases hm : v.msb
      · have H1 := Lib.hid (sh_no v hm)
        rw [hm] at hb
        simp at hb
        clear hm
        go_wp2
        go_round
        case rel => exact ⟨k + 1, by omega, by go_num, by rw [HS.out, ← H1.out]⟩
        case measure => simp [intOf]; omega
      · have H1 := Lib.hid (sh_yes v hm)
        rw [hm] at hb
        simp at hb
        clear hm
        go_wp2
        go_round
        case rel => exact ⟨k + 1, by omega, by go_num, by rw [HS.out, ← H1.out]⟩
        case measure => simp [intOf]; omega
    · go_wp2
      go_ret
      obtain rfl : k = 8 := by omega
      exact ⟨by rw [HE.out]; rfl, rfl⟩

/-! a text's bytes, one by one -/
open PlainAid (bt get_bt bt_nonneg bt_le)
theorem bt_get (s : ByteArray) (k : Nat) (h : k < s.size) : bt s k = (s[k].toNat : Int) := (get_bt s k h).symm
theorem take_snoc (s : ByteArray) (k : Nat) (h : k < s.size) : s.data.toList.take (k + 1) = s.data.toList.take k ++ [s[k]] := by
  rw [List.take_succ_eq_append_getElem (by simpa using h)]; rfl
theorem byte_mod (c : UInt8) : (((c.toNat : Int)) % 256).toNat = c.toNat := by have := c.toNat_lt; omega

theorem sum_any (s : ByteArray) (w : World) (hs : s.size ≤ 9000) : Calls Try.prog 42 #[.string s] w fun e w' => e = .returned (.int .i64 ((crc 65535#16 s.data.toList).toNat : Int)) ∧ w = w' := by
  have hb := get_bt s
  go_enter Try.func42, Try.ntmps42
  go_wp2
  go_loop [3, 4, 7] (fun x _ i => ∃ k : Nat, k ≤ s.size ∧ i = .int .i64 k ∧ x = .int .i64 ((crc 65535#16 (s.data.toList.take k)).toNat : Int)) (fun _ _ i => s.size - (intOf i).toNat)
  case atStart => exact ⟨0, by omega, rfl, rfl⟩
  case round =>
    obtain ⟨k, hk, rfl, rfl⟩ := hrel
    by_cases hlt : k < s.size
    · have b0 := bt_nonneg s k
      have b1 := bt_le s k
      have HT : Hid (crc 65535#16 (s.data.toList.take (k + 1)) = byteStep (crc 65535#16 (s.data.toList.take k)) (bt s k % 256).toNat) := by
        rw [take_snoc s k hlt, crc_snoc, bt_get s k hlt, byte_mod]; rfl
      generalize crc 65535#16 (s.data.toList.take k) = v at *
      go_wp2_with (go_at_call 51; refine (step_any _ _ _).mono ?_; rintro e w' ⟨rfl, rfl⟩)
      go_round
      case rel => exact ⟨k + 1, by omega, by go_num, by rw [HT.out, w16_nat]⟩
      case measure => simp [intOf]; omega
    · go_wp2
      go_ret
      exact ⟨ret_int (by rw [List.take_of_length_le (by simp; omega)]), rfl⟩

/-- A text with its check. -/
def sealL (l : List UInt8) : List UInt8 := l ++ [UInt8.ofNat ((crc 65535#16 l).toNat / 256), UInt8.ofNat ((crc 65535#16 l).toNat % 256)]
theorem sealL_length (l : List UInt8) : (sealL l).length = l.length + 2 := by simp [sealL]
def IsText (l : List UInt8) (w : World) (e : Ending) (w' : World) : Prop := ∃ r : ByteArray, e = .returned (.string r) ∧ r.data.toList = l ∧ Below w.heap.size w w'

theorem two_bytes (w : World) (x y : Int) : (convert 41 9 (.slice (some ⟨w.heap.size, 0, none⟩) 2 2)).run Try.prog (w.alloc (.cells #[.int .u8 x, .int .u8 y] 5)) = .ok (.string (strOfNums [x, y])) (w.alloc (.cells #[.int .u8 x, .int .u8 y] 5)) := by
  refine run_convert_bytes_arg (P := Try.prog) _ 41 5 Try.underlying41 Try.underlying5 _ 0 2 2 [x, y] rfl ?_ 9 Try.underlying9
  intro i hi
  have : i = 0 ∨ i = 1 := by omega
  rcases this with rfl | rfl <;> simp

theorem seal_any (s : ByteArray) (w : World) (hs : s.size ≤ 9000) : Calls Try.prog 30 #[.string s] w (IsText (sealL s.data.toList) w) := by
  have hcv := two_bytes w
  have hsz : ∀ x y : Int, (strOfNums [x, y]).size = 2 := fun x y => strOfNums_size [x, y]
  have H : ∀ n : Nat, n < 65536 → (s ++ strOfNums [(n : Int) / 256 % 256, (n : Int) % 256]).data.toList = s.data.toList ++ [UInt8.ofNat (n / 256), UInt8.ofNat (n % 256)] := by
    intro n hn
    have h1 : ((n : Int) / 256 % 256).toNat = n / 256 := by omega
    have h2 : ((n : Int) % 256).toNat = n % 256 := by omega
    simp [strOfNums, h1, h2]
  have h1 := H _ (crc 65535#16 s.data.toList).isLt
  have H1 := Lib.hid h1
  have HF : Hid (sealL s.data.toList = s.data.toList ++ [UInt8.ofNat ((crc 65535#16 s.data.toList).toNat / 256), UInt8.ofNat ((crc 65535#16 s.data.toList).toNat % 256)]) := rfl
  generalize sealL s.data.toList = l at *
  clear h1 H
  generalize hv : crc 65535#16 s.data.toList = v at *
  have HV := Lib.hid hv
  clear hv
  go_enter Try.func30, Try.ntmps30
  go_wp2_with (first | (go_at_call 42; refine (sum_any _ _ hs).mono ?_; rintro e w' ⟨rfl, rfl⟩; rw [HV.out]) | (go_at_call 43; refine (high_any _ _).mono ?_; rintro e w' ⟨rfl, rfl⟩) | (go_at_call 44; refine (low_any _ _).mono ?_; rintro e w' ⟨rfl, rfl⟩))
  go_ret
  exact ⟨_, rfl, by rw [H1.out, HF.out], (Below.refl _ _).alloc (Nat.le_refl _) _⟩


theorem seal_iff (l : List UInt8) (h : 2 ≤ l.length) : sealL (l.take (l.length - 2)) = l ↔ crc 65535#16 l = 0#16 := by
  obtain ⟨p, b, c, rfl⟩ : ∃ p b c, l = p ++ [b, c] := by
    refine ⟨l.take (l.length - 2), l[l.length - 2], l[l.length - 1], ?_⟩
    apply List.ext_getElem
    · simp; omega
    · intro i h1 h2
      rw [List.getElem_append]
      split
      · simp
      · rename_i h3
        simp at h3 h2
        have : i = l.length - 2 ∨ i = l.length - 1 := by omega
        rcases this with rfl | rfl
        · simp [show min (l.length - 2) l.length = l.length - 2 from by omega]
        · simp [show min (l.length - 2) l.length = l.length - 2 from by omega, show l.length - 1 - (l.length - 2) = 1 from by omega]
  have e : (p ++ [b, c]).take ((p ++ [b, c]).length - 2) = p := by simp
  rw [e, crc_append, crc_two]
  have hv := (crc 65535#16 p).isLt
  unfold sealL
  rw [List.append_cancel_left_eq]
  constructor
  · intro h
    simp at h
    obtain ⟨rfl, rfl⟩ := h
    simp
    omega
  · rintro ⟨h1, h2⟩
    rw [← h1, ← h2]
    simp

/-- What opening answers: the bytes, and the error. -/
def openV (l : List UInt8) : List UInt8 × Int := if l.length < 2 then ([], 5) else if crc 65535#16 l = 0#16 then (l.take (l.length - 2), 0) else ([], 10)
def IsPair (l : List UInt8) (n : Int) (w : World) (e : Ending) (w' : World) : Prop := ∃ r : ByteArray, e = .returned (.tuple #[.string r, .int .i64 n]) ∧ r.data.toList = l ∧ Below w.heap.size w w'
theorem open_any (s : ByteArray) (w : World) (hs : s.size ≤ 9000) : Calls Try.prog 17 #[.string s] w (IsPair (openV s.data.toList).1 (openV s.data.toList).2 w) := by
  by_cases h2 : s.size < 2
  · have hl : s.data.toList.length < 2 := by simpa using h2
    have HE : Hid (openV s.data.toList = ([], 5)) := by unfold openV; rw [if_pos hl]; rfl
    clear hl
    rw [HE.out]
    go_enter Try.func17, Try.ntmps17
    go_wp2
    go_ret2
    exact ⟨_, rfl, rfl, Below.refl _ _⟩
  · have h2' : 2 ≤ s.data.toList.length := by simp; omega
    have hq := seal_iff _ h2'
    have hx : (s.extract 0 (s.size - 2)).data.toList = s.data.toList.take (s.data.toList.length - 2) := by simp
    have hxs : (s.extract 0 (s.size - 2)).size ≤ 9000 := by simp; omega
    have HX := Lib.hid hx
    clear hx
    by_cases hz : crc 65535#16 s.data.toList = 0#16
    · have HE : Hid (openV s.data.toList = (s.data.toList.take (s.data.toList.length - 2), 0)) := by unfold openV; rw [if_neg (by omega), if_pos hz]; rfl
      have HS := Lib.hid (hq.2 hz)
      clear hq hz h2'
      rw [HE.out]
      go_enter Try.func17, Try.ntmps17
      go_wp2_with fail
      refine (seal_any _ _ hxs).mono ?_
      rintro e w1 ⟨r, rfl, hr, hb⟩
      have hr' := seq_true (by rw [hr, HX.out, HS.out] : r.data.toList = s.data.toList)
      clear hr
      go_wp2
      go_ret2
      exact ⟨_, rfl, HX.out, hb⟩
    · have HE : Hid (openV s.data.toList = ([], 10)) := by unfold openV; rw [if_neg (by omega), if_neg hz]; rfl
      have HS : Hid (¬ sealL (s.data.toList.take (s.data.toList.length - 2)) = s.data.toList) := fun h => hz (hq.1 h)
      clear hq hz h2'
      rw [HE.out]
      go_enter Try.func17, Try.ntmps17
      go_wp2_with fail
      refine (seal_any _ _ hxs).mono ?_
      rintro e w1 ⟨r, rfl, hr, hb⟩
      have hr' := seq_false (by rw [hr, HX.out]; exact HS.out : ¬ r.data.toList = s.data.toList)
      clear hr
      go_wp2
      go_ret2
      exact ⟨_, rfl, rfl, hb⟩
end Cw
end Go.Proofs.Ytjdhkpafbejodaa
