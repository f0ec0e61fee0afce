/- The law CrcBits: its walk. -/
import Derived.Test.YtjgmohlhabaoaaaCrcL1
import Derived.Test.YtjgmohlhabaoaaaPc
import Derived.Test.YtjgmohlhabaoaaaGo
namespace Go.Proofs.Ytjgmohlhabaoaaa
open Go.RowKit
attribute [local go_sem] Bw.and255 Bw.and65535
namespace Cw
open Cm Pc
open Sm (Drawn quiet_eq Quiet)
open PlainAid (bt get_bt bt_nonneg bt_le)

theorem count_any (n : Int) (w : World) : Calls Try.prog 25 #[.int .i64 n] w fun e w' => e = .returned (.int .i64 (pc 16 (n % 65536).toNat : Nat)) ∧ w = w' := by
  obtain ⟨m, hm⟩ : ∃ m : Nat, n % 65536 = m := ⟨(n % 65536).toNat, by omega⟩
  have hm2 : m < 65536 := by omega
  have HM := Lib.hid hm
  have HE : Hid ((n % 65536).toNat = m) := by show (n % 65536).toNat = m; omega
  go_enter Try.func25, Try.ntmps25
  go_wp2
  go_loop [0, 3] (fun x i => ∃ k c : Nat, k < 65536 ∧ c ≤ 16 ∧ c + pc 16 k = pc 16 m ∧ x = .int .i64 k ∧ i = .int .i64 c) (fun x _ => (intOf x).toNat)
  case atStart => exact ⟨m, 0, hm2, by omega, by omega, rfl, rfl⟩
  case round =>
    obtain ⟨k, c, hk, hc, hp, rfl, rfl⟩ := hrel
    clear hm2 hm
    by_cases h0 : k = 0
    · subst h0
      have HR : Hid (c = pc 16 (n % 65536).toNat) := by rw [HE.out]; rw [pc_zero] at hp; exact hp
      clear hp
      go_wp2
      go_ret
      exact ⟨ret_int (by rw [← HR.out]), rfl⟩
    · have h1 := pc_strike 16 k (by omega) (by omega)
      have h2 := pc_le 16 m
      have h3 : k &&& (k - 1) ≤ k - 1 := Nat.and_le_right
      have ha := Bw.and_nat k (k - 1) (by omega) (by omega)
      rw [show ((k - 1 : Nat) : Int) = (k : Int) - 1 from by omega] at ha
      have h4 : ((k : Int) != 0) = true := by rw [bne_iff_ne]; omega
      have hc' : c + 1 ≤ 16 := by omega
      have hp' : c + 1 + pc 16 (k &&& (k - 1)) = pc 16 m := by omega
      have HP := Lib.hid hp'
      have hz : k &&& (k - 1) < 65536 := by omega
      have hlt : k &&& (k - 1) < k := by omega
      have HA := Lib.hid ha
      clear h1 h2 h3 hp hp' ha hc
      generalize k &&& (k - 1) = z at *
      go_wp2
      go_round
      case rel => exact ⟨z, c + 1, hz, hc', HP.out, by rw [HA.out], by go_num⟩
      case measure => simp [intOf, HA.out]; omega
/-- In how many bits the first k bytes of two texts are unlike. -/
def unK (a b : ByteArray) : Nat → Nat
  | 0 => 0
  | k + 1 => unK a b k + pc 16 ((bt a k).toNat ^^^ (bt b k).toNat)
theorem unK_le (a b : ByteArray) (k : Nat) : unK a b k ≤ 16 * k := by
  induction k with
  | zero => simp [unK]
  | succ k ih => have := pc_le 16 ((bt a k).toNat ^^^ (bt b k).toNat); simp only [unK]; omega
theorem unK_same (a : ByteArray) (k : Nat) : unK a a k = 0 := by
  induction k with
  | zero => rfl
  | succ k ih => simp only [unK]; rw [ih, Nat.xor_self, pc_zero]
theorem xor_lt (a b : ByteArray) (k : Nat) : (bt a k).toNat ^^^ (bt b k).toNat < 256 := by
  have := bt_le a k
  have := bt_le b k
  exact Nat.xor_lt_two_pow (n := 8) (by omega) (by omega)
theorem count_is (x y : Int) (z : Nat) (w : World) (hz : x = z) (hy : y = pc 16 z) (hlt : z < 256) : Calls Try.prog 25 #[.int .i64 x] w fun e w' => e = .returned (.int .i64 y) ∧ w = w' := by
  have := count_any x w
  rw [hz, show (z : Int) % 65536 = z from by omega, Int.toNat_natCast, ← hy, ← hz] at this
  exact this
theorem bits_any (a b : ByteArray) (w : World) (ha : a.size ≤ 400) (hs : a.size = b.size) : Calls Try.prog 18 #[.string a, .string b] w (Quiet (.int .i64 (unK a b a.size : Nat)) w) := by
  have hne : ((a.size : Int) != (b.size : Int)) = false := by simp [hs]
  have HS := Lib.hid hs
  clear hs
  have h1 := get_bt a
  have h2 := get_bt b
  go_enter Try.func18, Try.ntmps18
  go_wp2
  go_loopw [5, 6, 14] (fun x _ i wr => ∃ k : Nat, k ≤ a.size ∧ i = .int .i64 k ∧ x = .int .i64 (unK a b k : Nat) ∧ Drawn w wr) (fun _ _ i _ => a.size - (intOf i).toNat)
  case atStart => exact ⟨0, by omega, rfl, rfl, Drawn.refl _⟩
  case round =>
    obtain ⟨k, hk, rfl, rfl, hwr⟩ := hrel
    by_cases hlt : k < a.size
    · have hlt2 : k < b.size := by have := HS.out; omega
      have b0 := bt_nonneg a k
      have b1 := bt_le a k
      have c0 := bt_nonneg b k
      have c1 := bt_le b k
      have d := unK_le a b k
      have d2 : (unK a b k : Int) ≤ 6400 := by omega
      have hx := u8_xor (bt a k) (bt b k) b0 (by omega) c0 (by omega)
      have HU : Hid (unK a b (k + 1) = unK a b k + pc 16 ((bt a k).toNat ^^^ (bt b k).toNat)) := rfl
      have p0 := pc_le 16 ((bt a k).toNat ^^^ (bt b k).toNat)
      have x0 := xor_lt a b k
      generalize (bt a k).toNat ^^^ (bt b k).toNat = z at *
      generalize unK a b k = u at *
      generalize hy : pc 16 z = y at *
      have HC : ∀ w, Calls Try.prog 25 #[.int .i64 z] w fun e w' => e = .returned (.int .i64 y) ∧ w = w' := fun w => count_is z y z w rfl (by rw [hy]) x0
      clear d hy
      go_wp2
      have hw1 : IntKind.i64.wrap (z : Int) = z := IntWalk.i64_in _ (by omega)
      have hw2 : IntKind.i64.wrap ((u : Int) + y) = (u : Int) + y := IntWalk.i64_in _ (by omega)
      go_quiet ((go_at_call 25; exact quiet_eq (HC _)))
      clear hw1 hw2
      go_wp2
      go_roundw
      case rel => exact ⟨k + 1, by omega, by go_num, by rw [HU.out]; go_num, hwr.draws _⟩
      case measure => simp [intOf]; omega
    · obtain rfl : k = a.size := by omega
      go_wp2
      go_ret
      exact ⟨rfl, hwr⟩
/-- The bits of a byte that are 1, among the first m from the highest on. -/
def cnt (x : Nat) : Nat → Nat
  | 0 => 0
  | m + 1 => cnt x m + (if x.testBit (7 - m) then 1 else 0)
theorem cnt_le (x m : Nat) : cnt x m ≤ m := by
  induction m with
  | zero => simp [cnt]
  | succ m ih => simp only [cnt]; split <;> omega
theorem cnt_pc (x : Nat) (h : x < 256) : cnt x 8 = pc 16 x := by
  have : ∀ y : Fin 256, cnt y.val 8 = pc 16 y.val := by decide +kernel
  exact this ⟨x, h⟩
theorem bit_ne (a b : Nat) (m : Nat) : (bitI a m != bitI b m) = (a ^^^ b).testBit (7 - m) := by
  have h1 := bitI_bit a m
  have h2 := bitI_bit b m
  have b1 := bitI_bd a m
  have b2 := bitI_bd b m
  rw [Nat.testBit_xor, ← h1, ← h2]
  generalize bitI a m = x at *
  generalize bitI b m = y at *
  have hx : x = 0 ∨ x = 1 := by omega
  have hy : y = 0 ∨ y = 1 := by omega
  rcases hx with rfl | rfl <;> rcases hy with rfl | rfl <;> rfl
theorem cnt_zero (x : Nat) : cnt x 0 = 0 := rfl
theorem cnt_succ (x m : Nat) : cnt x (m + 1) = cnt x m + (if x.testBit (7 - m) then 1 else 0) := rfl
theorem unK_zero (a b : ByteArray) : unK a b 0 = 0 := rfl
theorem unK_byte (a b : ByteArray) (k : Nat) : unK a b (k + 1) = unK a b k + cnt ((bt a k).toNat ^^^ (bt b k).toNat) 8 := by
  rw [cnt_pc _ (xor_lt a b k)]; rfl
attribute [local irreducible] cnt unK bitI
theorem unlike_any (a b : ByteArray) (w : World) (ha : a.size ≤ 400) (hs : a.size = b.size) : Calls Try.prog 19 #[.string a, .string b] w (Quiet (.int .i64 (unK a b a.size : Nat)) w) := by
  have HS := Lib.hid hs
  clear hs
  have h1 := get_bt a
  have h2 := get_bt b
  go_enter Try.func19, Try.ntmps19
  go_wp2
  go_loopw [5, 6, 7] (fun x i _ wr => ∃ k : Nat, k ≤ a.size ∧ i = .int .i64 k ∧ x = .int .i64 (unK a b k : Nat) ∧ Drawn w wr) (fun _ i _ _ => a.size - (intOf i).toNat)
  case atStart => exact ⟨0, by omega, rfl, by rw [unK_zero]; rfl, Drawn.refl _⟩
  case round =>
    obtain ⟨k, hk, rfl, rfl, hwr⟩ := hrel
    by_cases hlt : k < a.size
    · have hlt2 : k < b.size := by have := HS.out; omega
      have b0 := bt_nonneg a k
      have b1 := bt_le a k
      have c0 := bt_nonneg b k
      have c1 := bt_le b k
      have d2 : (unK a b k : Int) ≤ 6400 := by have := unK_le a b k; omega
      have HU : Hid (unK a b (k + 1) = unK a b k + cnt ((bt a k).toNat ^^^ (bt b k).toNat) 8) := unK_byte a b k
      have HN : ∀ m : Nat, (bitI (bt a k) m != bitI (bt b k) m) = ((bt a k).toNat ^^^ (bt b k).toNat).testBit (7 - m) := by
        intro m
        have := bit_ne (bt a k).toNat (bt b k).toNat m
        rw [Int.toNat_of_nonneg b0, Int.toNat_of_nonneg c0] at this
        exact this
      have HN2 := Lib.hid HN
      clear HN
      generalize (bt a k).toNat ^^^ (bt b k).toNat = z at *
      generalize unK a b k = u at *
      go_wp2
      go_loopw [5, 7] (fun x j wr => ∃ m : Nat, m ≤ 8 ∧ j = .int .i64 m ∧ x = .int .i64 ((u + cnt z m : Nat) : Int) ∧ Drawn w wr) (fun _ j _ => 8 - (intOf j).toNat)
      case atStart => exact ⟨0, by omega, rfl, by rw [cnt_zero, Nat.add_zero], hwr⟩
      case round =>
        obtain ⟨m, hm, rfl, rfl, hwr⟩ := hrel
        by_cases hm8 : m < 8
        · have hb := HN2.out m
          have HC1 : ∀ w, Calls Try.prog 22 #[.int .u8 (bt a k), .int .i64 m] w fun e w' => e = .returned (.int .i64 (bitI (bt a k) m)) ∧ w = w' := fun w => bit_any _ _ w b0 b1 (by omega) (by omega)
          have HC2 : ∀ w, Calls Try.prog 22 #[.int .u8 (bt b k), .int .i64 m] w fun e w' => e = .returned (.int .i64 (bitI (bt b k) m)) ∧ w = w' := fun w => bit_any _ _ w c0 c1 (by omega) (by omega)
          have HD1 := Lib.hid HC1
          have HD2 := Lib.hid HC2
          clear HC1 HC2
          have HS1 : Hid (cnt z (m + 1) = cnt z m + (if z.testBit (7 - m) then 1 else 0)) := cnt_succ z m
          have hcm := cnt_le z m
          generalize bitI (bt a k) m = x1 at *
          generalize bitI (bt b k) m = x2 at *
          generalize z.testBit (7 - m) = tb at *
          generalize cnt z m = c at *
          go_wp2
          go_quiet ((first | (go_at_call 22; with_reducible exact quiet_eq (HD1.out _)) | (go_at_call 22; with_reducible exact quiet_eq (HD2.out _))))
          clear HD1 HD2
          cases tb
          · go_wp2
            go_roundw
            case rel => exact ⟨m + 1, by omega, by go_num, by rw [HS1.out]; go_num, hwr.draws _⟩
            case measure => simp [intOf]; omega
          · go_wp2
            go_roundw
            case rel => exact ⟨m + 1, by omega, by go_num, by rw [HS1.out]; go_num, hwr.draws _⟩
            case measure => simp [intOf]; omega
        · obtain rfl : m = 8 := by omega
          go_wp2
          go_roundw
          case rel => exact ⟨k + 1, by omega, by go_num, by rw [HU.out], hwr⟩
          case measure => simp [intOf]; omega
    · obtain rfl : k = a.size := by omega
      go_wp2
      go_ret
      exact ⟨rfl, hwr⟩
theorem bits_unlike (a b : ByteArray) (w : World) (hs : ¬ a.size = b.size) : Calls Try.prog 18 #[.string a, .string b] w (Quiet (.int .i64 (-1)) w) := by
  have hne : ((a.size : Int) != (b.size : Int)) = true := by rw [bne_iff_ne]; omega
  clear hs
  go_enter Try.func18, Try.ntmps18
  go_wp2
  go_ret
  exact ⟨rfl, Drawn.refl _⟩
/-- The law: CrcBits. -/
theorem bits_law (a b : ByteArray) (w : World) (_ : a.size ≤ maxLen) (_ : b.size ≤ maxLen) : Calls Try.prog 6 #[.string a, .string b] w fun e w' => e = .returned (.bool true) ∧ Below w.heap.size w w' := by
  by_cases hl : 300 < a.size
  · go_enter Try.func6, Try.ntmps6
    go_wp2_with (go_at_call 7; refine (live_any _).mono ?_; rintro e w' ⟨rfl, rfl⟩)
    go_ret
    exact ⟨rfl, Below.refl _ _⟩
  by_cases ht : 300 < b.size
  · go_enter Try.func6, Try.ntmps6
    go_wp2_with (go_at_call 7; refine (live_any _).mono ?_; rintro e w' ⟨rfl, rfl⟩)
    go_ret
    exact ⟨rfl, Below.refl _ _⟩
  have ha4 : a.size ≤ 400 := by omega
  by_cases hs : a.size = b.size
  · have hne : ((a.size : Int) != (b.size : Int)) = false := by simp [hs]
    have HB := Lib.hid (fun w => bits_any a b w ha4 hs)
    have HU := Lib.hid (fun w => unlike_any a b w ha4 hs)
    have HA := Lib.hid (fun w => bits_any a a w ha4 rfl)
    have HZ := Lib.hid (unK_same a a.size)
    clear hs
    go_enter Try.func6, Try.ntmps6
    go_wp2_with (go_at_call 7; refine (live_any _).mono ?_; rintro e w' ⟨rfl, rfl⟩)
    refine (HB.out _).mono ?_
    rintro e w1 ⟨rfl, d1⟩
    go_wp2_with fail
    refine (HU.out _).mono ?_
    rintro e w2 ⟨rfl, d2⟩
    go_wp2_with fail
    refine (HA.out _).mono ?_
    rintro e w3 ⟨rfl, d3⟩
    rw [HZ.out]
    go_wp2
    go_ret
    exact ⟨rfl, ((d1.trans d2).trans d3).below _⟩
  · have hne : ((a.size : Int) != (b.size : Int)) = true := by rw [bne_iff_ne]; omega
    have HB := Lib.hid (fun w => bits_unlike a b w hs)
    clear hs
    go_enter Try.func6, Try.ntmps6
    go_wp2_with (go_at_call 7; refine (live_any _).mono ?_; rintro e w' ⟨rfl, rfl⟩)
    refine (HB.out _).mono ?_
    rintro e w1 ⟨rfl, d1⟩
    go_wp2
    go_ret
    exact ⟨rfl, d1.below _⟩
end Cw
end Go.Proofs.Ytjgmohlhabaoaaa
