/- The law CrcFinds: its walk. -/
import Derived.Test.YtjgmohlhabaoaaaCrcL2
import Derived.Test.YtjgmohlhabaoaaaCrcF
import Derived.Test.YtjgmohlhabaoaaaOwn
namespace Go.Proofs.Ytjgmohlhabaoaaa
open Go.RowKit
attribute [local go_sem] Bw.and255 Bw.and65535
namespace Cw
open Cm
open Sm (Bytes bytes_made bytes_back)

theorem halvedI (x : Int) (m : Nat) : x / 2 ^ m / 2 = x / 2 ^ (m + 1) := halved x m
theorem pow_bd (m : Nat) (h : m ≤ 7) : (1 : Int) ≤ 2 ^ m ∧ (2 : Int) ^ m ≤ 128 := by
  have : m = 0 ∨ m = 1 ∨ m = 2 ∨ m = 3 ∨ m = 4 ∨ m = 5 ∨ m = 6 ∨ m = 7 := by omega
  rcases this with rfl | rfl | rfl | rfl | rfl | rfl | rfl | rfl <;> decide
/-- What the store stores. -/
theorem xor_mask (c : UInt8) (i : Nat) : bits .xor .u8 (c.toNat : Int) (2 ^ (7 - i % 8)) = ((UInt8.ofNat (c.toNat ^^^ 2 ^ (7 - i % 8))).toNat : Int) := by
  have hp := pow_bd (7 - i % 8) (by omega)
  rw [u8_xor _ _ (by omega) (by have := c.toNat_lt; omega) (by omega) (by omega)]
  have e : ((2 : Int) ^ (7 - i % 8)).toNat = 2 ^ (7 - i % 8) := by
    have : ((2 : Int) ^ (7 - i % 8)) = ((2 ^ (7 - i % 8) : Nat) : Int) := by simp
    rw [this, Int.toNat_natCast]
  rw [e, Int.toNat_natCast, UInt8.toNat_ofNat', Nat.mod_eq_of_lt (flip_lt c _ (by omega))]
theorem turnK_yes (x : List UInt8) (a b k : Nat) (h : b / 2 ^ (15 - k) % 2 = 1 ∧ (a + k) / 8 < x.length) :
    turnK x a b (k + 1) = (turnK x a b k).set ((a + k) / 8) (UInt8.ofNat (((turnK x a b k).getD ((a + k) / 8) 0).toNat ^^^ 2 ^ (7 - (a + k) % 8))) := by
  show (if _ then _ else _) = _
  rw [if_pos h]; rfl
theorem turnK_no (x : List UInt8) (a b k : Nat) (h : ¬ (b / 2 ^ (15 - k) % 2 = 1 ∧ (a + k) / 8 < x.length)) :
    turnK x a b (k + 1) = turnK x a b k := by
  show (if _ then _ else _) = _
  rw [if_neg h]
theorem turnK_zero (x : List UInt8) (a b : Nat) : turnK x a b 0 = x := rfl
attribute [local irreducible] turnK Bytes
set_option maxHeartbeats 1000000 in
theorem turned_any (s : ByteArray) (at_ by_ : Nat) (w : World) (_hs : s.size ≤ 400) (ha : at_ ≤ 4000) (hb : by_ < 65536) : Calls Try.prog 17 #[.string s, .int .i64 at_, .int .i64 by_] w (IsText (turnK s.data.toList at_ by_ 16) w) := by
  obtain ⟨cap, o, hcv, hrow⟩ := bytes_made (P := Try.prog) w 9 39 5 s Try.underlying9 Try.underlying39 Try.underlying5
  have hB : Below w.heap.size w (w.drew.alloc o) := ((Below.refl _ w).drew).alloc (Nat.le_refl _) _
  have HR := Lib.hid hrow
  have HB := Lib.hid hB
  have hln : s.data.toList.length = s.size := by simp
  have HL := Lib.hid hln
  clear hln hrow hB
  have hb' : (by_ : Int) ≤ 65535 := by omega
  go_enter Try.func17, Try.ntmps17
  go_wp2
  go_loopw [8, 9, 10, 11, 12, 13] (fun kk _ _ _ _ _ wr => ∃ k : Nat, k ≤ 16 ∧ kk = .int .i64 k ∧ Bytes wr w.heap.size (turnK s.data.toList at_ by_ k) ∧ Below w.heap.size w wr) (fun kk _ _ _ _ _ _ => 16 - (intOf kk).toNat)
  case atStart => exact ⟨0, by omega, rfl, by rw [turnK_zero]; exact HR.out, HB.out⟩
  case round =>
    clear HR HB hcv
    obtain ⟨k, hk, rfl, hbytes, hbel⟩ := hrel
    by_cases hlt : k < 16
    · go_wp2
      go_loop [10, 11] (fun x j => ∃ m : Nat, m ≤ 15 - k ∧ x = .int .i64 ((by_ : Int) / 2 ^ m) ∧ j = .int .i64 (15 - m)) (fun _ j => (intOf j).toNat)
      case atStart => exact ⟨0, by omega, by simp, rfl⟩
      case round =>
        obtain ⟨m, hm, rfl, rfl⟩ := hrel
        by_cases hm2 : m < 15 - k
        · have HV := Lib.hid (halvedI by_ m)
          have d0 : 0 ≤ (by_ : Int) / 2 ^ m := Int.ediv_nonneg (by omega) (by exact Int.le_of_lt (Int.pow_pos (by decide)))
          have d1 : (by_ : Int) / 2 ^ m ≤ by_ := Int.ediv_le_self _ (by omega)
          generalize (by_ : Int) / 2 ^ m = x at *
          go_wp2
          go_round
          case rel => exact ⟨m + 1, by omega, by rw [← HV.out], by congr 1; omega⟩
          case measure => simp [intOf]; omega
        · obtain rfl : m = 15 - k := by omega
          have hx : (by_ : Int) / 2 ^ (15 - k) = ((by_ / 2 ^ (15 - k) : Nat) : Int) := by simp
          rw [hx]
          clear hx
          have dle : by_ / 2 ^ (15 - k) ≤ by_ := Nat.div_le_self _ _
          have HY := turnK_yes s.data.toList at_ by_ k
          have HN := turnK_no s.data.toList at_ by_ k
          rw [HL.out] at HY HN
          have hlen := turnK_length s.data.toList at_ by_ k
          rw [HL.out] at hlen
          have HLen := Lib.hid hlen
          clear hlen
          generalize by_ / 2 ^ (15 - k) = x at *
          generalize turnK s.data.toList at_ by_ k = l at *
          by_cases hx1 : x % 2 = 1
          · have hq : ((x : Int) % 2 == 1) = true := by simp; omega
            by_cases hi : (at_ + k) / 8 < s.size
            · have HF := Lib.hid (HY ⟨hx1, hi⟩)
              clear HY HN
              have hi' : (at_ + k) / 8 < l.length := by rw [HLen.out]; exact hi
              have hc := hbytes.cell _ hi'
              have hf := hbytes.free _ hi'
              have HS := Lib.hid (hbytes.set _ hi' _ _ (xor_mask (l.getD ((at_ + k) / 8) 0) (at_ + k)))
              generalize l.getD ((at_ + k) / 8) 0 = c at *
              clear hx1 hi'
              go_wp2
              go_loop [12, 13] (fun z j => ∃ m : Nat, m ≤ 7 - (at_ + k) % 8 ∧ z = .int .i64 (2 ^ m) ∧ j = .int .i64 (7 - m)) (fun _ j => (intOf j).toNat)
              case atStart => exact ⟨0, by omega, rfl, rfl⟩
              case round =>
                obtain ⟨m, hm, rfl, rfl⟩ := hrel
                by_cases hm2 : m < 7 - (at_ + k) % 8
                · have HV : Hid ((2 : Int) ^ m * 2 = 2 ^ (m + 1)) := by rw [Int.pow_succ]; rfl
                  obtain ⟨p0, p1⟩ := pow_bd m (by omega)
                  generalize (2 : Int) ^ m = z at *
                  go_wp2
                  go_round
                  case rel => exact ⟨m + 1, by omega, by rw [← HV.out], by congr 1; omega⟩
                  case measure => simp [intOf]; omega
                · obtain rfl : m = 7 - (at_ + k) % 8 := by omega
                  obtain ⟨p0, p1⟩ := pow_bd (7 - (at_ + k) % 8) (by omega)
                  generalize (2 : Int) ^ (7 - (at_ + k) % 8) = z at *
                  go_wp2
                  go_roundw
                  case rel => exact ⟨k + 1, by omega, by go_num, by rw [HF.out]; exact HS.out, hbel.setCell (Nat.le_refl _) _⟩
                  case measure => simp [intOf]; omega
            · have HF := Lib.hid (HN fun h => hi h.2)
              clear HY HN hx1
              go_wp2
              go_roundw
              case rel => exact ⟨k + 1, by omega, by go_num, by rw [HF.out]; exact hbytes, hbel⟩
              case measure => simp [intOf]; omega
          · have hq : ((x : Int) % 2 == 1) = false := by simp; omega
            have HF := Lib.hid (HN fun h => hx1 h.1)
            clear HY HN hx1
            go_wp2
            go_roundw
            case rel => exact ⟨k + 1, by omega, by go_num, by rw [HF.out]; exact hbytes, hbel⟩
            case measure => simp [intOf]; omega
    · obtain rfl : k = 16 := by omega
      have hlen := turnK_length s.data.toList at_ by_ 16
      have hcv := bytes_back (P := Try.prog) wr 39 9 5 w.heap.size s.size cap _ Try.underlying39 Try.underlying5 Try.underlying9 hbytes (by rw [hlen, HL.out])
      clear hlen
      generalize turnK s.data.toList at_ by_ 16 = l at *
      go_wp2
      go_ret
      exact ⟨_, rfl, rfl, hbel⟩
theorem turned_is (x : ByteArray) (a b : Int) (l : List UInt8) (w : World) (hs : x.size ≤ 400) (h0 : 0 ≤ a) (h1 : a < 8 * (x.size : Int)) (h2 : 0 ≤ b) (h3 : b ≤ 65535) (hl : turnK x.data.toList a.toNat b.toNat 16 = l) :
    Calls Try.prog 17 #[.string x, .int .i64 a, .int .i64 b] w (IsText l w) := by
  have := turned_any x a.toNat b.toNat w hs (by omega) (by omega)
  rw [Int.toNat_of_nonneg h0, Int.toNat_of_nonneg h2, hl] at this
  exact this
theorem u16_bd {n : Int} (h : (Lit.int .u16 n).wf = true) : 0 ≤ n ∧ n ≤ 65535 := by
  simp [Lit.wf, IntKind.min, IntKind.max, IntKind.signed, IntKind.bits] at h
  omega
/-- The law: CrcFinds. -/
theorem finds_law (s : ByteArray) (a b : Int) (w : World) (_ : s.size ≤ maxLen) (wa : (Lit.int .u16 a).wf = true) (wb : (Lit.int .u16 b).wf = true) : Calls Try.prog 5 #[.string s, .int .u16 a, .int .u16 b] w fun e w' => e = .returned (.bool true) ∧ Below w.heap.size w w' := by
  obtain ⟨a0, a1⟩ := u16_bd wa
  obtain ⟨b0, b1⟩ := u16_bd wb
  clear wa wb
  by_cases hl : 300 < s.size
  · go_enter Try.func5, Try.ntmps5
    go_wp2_with (go_at_call 7; refine (live_any _).mono ?_; rintro e w' ⟨rfl, rfl⟩)
    go_ret
    exact ⟨rfl, Below.refl _ _⟩
  have hs4 : s.size ≤ 400 := by omega
  go_enter Try.func5, Try.ntmps5
  go_wp2_with fail
  refine (rseal_any _ _ hs4).mono ?_
  rintro e w1 ⟨x, rfl, hx, hb1⟩
  have hxz : x.size = s.size + 2 := by rw [Sm.size_of x _ hx, sealL_length]; simp
  have hxs : x.size ≤ 400 := by omega
  have hx0 : 2 ≤ x.size := by omega
  clear hxz
  have m0 : 0 ≤ a % (8 * (x.size : Int)) := Int.emod_nonneg _ (by omega)
  have m1 : a % (8 * (x.size : Int)) < 8 * (x.size : Int) := Int.emod_lt_of_pos _ (by omega)
  have hfind := turned_found 65535#16 x.data.toList (a % (8 * (x.size : Int))).toNat b.toNat (by simp; omega) (by rw [hx]; exact (openV_seal _).2)
  have hlen := turnK_length x.data.toList (a % (8 * (x.size : Int))).toNat b.toNat 16
  obtain ⟨l, hl⟩ : ∃ l, turnK x.data.toList (a % (8 * (x.size : Int))).toNat b.toNat 16 = l := ⟨_, rfl⟩
  rw [hl] at hfind hlen
  have HC := Lib.hid (fun w => turned_is x _ b l w hxs m0 m1 b0 b1 hl)
  have HX := Lib.hid hx
  have HFind := Lib.hid hfind
  have HLen : Hid (l.length = x.size) := by show l.length = x.size; rw [hlen]; simp
  clear hfind hl hx hlen m0 m1
  have hxp : 1 ≤ 8 * (x.size : Int) := by omega
  go_wp2_with fail
  refine (HC.out _).mono ?_
  clear HC
  rintro e w2 ⟨y, rfl, hy, hb2⟩
  have hys : y.size ≤ 400 := by rw [Sm.size_of y _ hy, HLen.out]; exact hxs
  have HY := Lib.hid hy
  clear hy
  go_wp2_with fail
  by_cases hq : l = x.data.toList
  · have hlx : y.data.toList = sealL s.data.toList := by rw [HY.out, hq, HX.out]
    refine (open_seal y _ _ hlx hys).mono ?_
    rintro e w3 ⟨back, rfl, hk, hb3⟩
    have hq1 := seq_true hk
    have hq2 := seq_true (by rw [HY.out, hq] : x.data.toList = y.data.toList)
    clear hk hlx hq
    go_wp2_with (go_at_call 7; refine (live_any _).mono ?_; rintro e w' ⟨rfl, rfl⟩)
    go_ret
    exact ⟨rfl, Sm.Below.next (Sm.Below.next hb1 hb2) hb3⟩
  · have hz : ¬ crc 65535#16 y.data.toList = 0#16 := fun h => hq (HFind.out.1 (by rw [← HY.out]; exact h))
    have h2y : ¬ y.data.toList.length < 2 := by
      rw [HY.out, HLen.out]; omega
    refine (open_is _ _ _ _ hys (openV_bad _ h2y hz)).mono ?_
    rintro e w3 ⟨back, rfl, hk, hb3⟩
    have hq1 := sempty hk
    have hq2 := seq_false (by rw [HY.out]; exact fun h => hq h.symm : ¬ x.data.toList = y.data.toList)
    clear hk hz h2y hq
    go_wp2_with (go_at_call 7; refine (live_any _).mono ?_; rintro e w' ⟨rfl, rfl⟩)
    go_ret
    exact ⟨rfl, Sm.Below.next (Sm.Below.next hb1 hb2) hb3⟩
end Cw
end Go.Proofs.Ytjgmohlhabaoaaa
