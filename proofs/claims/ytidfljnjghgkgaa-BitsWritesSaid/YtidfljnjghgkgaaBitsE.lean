/- The reference's reader: a step on it. -/
import Derived.Test.YtidfljnjghgkgaaBitsD
namespace Go.Proofs.Ytidfljnjghgkgaa
open Go.RowKit
attribute [local go_sem] Bw.and255 Bw.and65535
namespace Bi
open Sm Pc
open PlainAid (bt get_bt bt_nonneg bt_le)
def Rr (w : World) (b : Nat) (s : ByteArray) (a err : Int) : Prop := Blk w b 33 #[.string s, .int .i64 a, .int .i64 err]
theorem Rr.cells {w : World} {b : Nat} {s : ByteArray} {a err : Int} (h : Rr w b s a err) :
    w.cell? ⟨b, 0, none⟩ = some (.string s) ∧ w.cell? ⟨b, 1, none⟩ = some (.int .i64 a) ∧ w.cell? ⟨b, 2, none⟩ = some (.int .i64 err) ∧ (∀ j, w.frozen? ⟨b, j, none⟩ = false) ∧ b < w.heap.size :=
  ⟨h.cell 0, h.cell 1, h.cell 2, h.frozen, h.lt⟩
theorem Rr.setErr {w : World} {b : Nat} {s : ByteArray} {a err : Int} (h : Rr w b s a err) (x : Int) : Rr (w.setCell ⟨b, 2, none⟩ (.int .i64 x)) b s a x := by
  have := Blk.set_ h 2 (.int .i64 x)
  simpa [Rr] using this
theorem Rr.setAt {w : World} {b : Nat} {s : ByteArray} {a err : Int} (h : Rr w b s a err) (x : Int) : Rr (w.setCell ⟨b, 1, none⟩ (.int .i64 x)) b s x err := by
  have := Blk.set_ h 1 (.int .i64 x)
  simpa [Rr] using this
def IsRr (b : Nat) (s : ByteArray) (a err : Int) (n : Int) (t : ByteArray) (w : World) (e : Ending) (w' : World) : Prop := e = .returned (.tuple #[.int .i64 n, .string t]) ∧ Rr w' b s a err ∧ Keeps [b] w w'
theorem rdByte_no (s : ByteArray) (a err : Int) (h : ¬ (err = 0 ∧ 1 ≤ s.size - a)) : rdByte s a err = 0 := by unfold rdByte; rw [if_neg h]
theorem rdTwo_no (s : ByteArray) (a err : Int) (h : ¬ (err = 0 ∧ 2 ≤ s.size - a)) : rdTwo s a err = 0 := by unfold rdTwo; rw [if_neg h]
theorem rdByte_yes (s : ByteArray) (k : Nat) (h : (1 : Int) ≤ s.size - (k : Int)) : rdByte s k 0 = bt s k := by unfold rdByte; rw [if_pos ⟨rfl, h⟩]; rfl
theorem rdTwo_yes (s : ByteArray) (k : Nat) (h : (2 : Int) ≤ s.size - (k : Int)) : rdTwo s k 0 = bt s k + 256 * bt s (k + 1) := by unfold rdTwo; rw [if_pos ⟨rfl, h⟩]; rfl
theorem at_no (s : ByteArray) (a err n : Int) (h : ¬ (err = 0 ∧ 0 ≤ n ∧ n ≤ s.size - a)) : rdAt s a err n = a := by unfold rdAt; rw [if_neg h]
theorem at_yes (s : ByteArray) (a n : Int) (h : 0 ≤ n ∧ n ≤ s.size - a) : rdAt s a 0 n = a + n := by unfold rdAt; rw [if_pos ⟨rfl, h⟩]
theorem err_old (s : ByteArray) (a err n : Int) (h : err ≠ 0) : rdErr s a err n = err := by unfold rdErr; rw [if_pos h]
theorem err_neg (s : ByteArray) (a n : Int) (h : n < 0) : rdErr s a 0 n = 2 := by unfold rdErr; rw [if_neg (by omega), if_pos h]
theorem err_end (s : ByteArray) (a n : Int) (h : 0 ≤ n) (h1 : s.size - a < n) : rdErr s a 0 n = 5 := by unfold rdErr; rw [if_neg (by omega), if_neg (by omega), if_pos h1]
theorem err_ok (s : ByteArray) (a n : Int) (h : 0 ≤ n) (h1 : ¬ s.size - a < n) : rdErr s a 0 n = 0 := by unfold rdErr; rw [if_neg (by omega), if_neg (by omega), if_neg h1]

theorem read_byte (b : Nat) (s : ByteArray) (a err n : Int) (t : ByteArray) (w : World) (h : Rr w b s a err) (ha : 0 ≤ a) (hs : a ≤ s.size) (hm : s.size ≤ 1000000) (_hn : n ≤ 9223372036854775807) :
    Calls Try.prog 22 #[.pointer (some ⟨b, 0, none⟩), .agg #[.int .i64 0, .int .i64 n, .string t]] w (IsRr b s (rdAt s a err 1) (rdErr s a err 1) (rdByte s a err) ⟨#[]⟩ w) := by
  obtain ⟨c0, c1, c2, cf, hlt⟩ := h.cells
  have H := Lib.hid (h.alloc (.cells #[.int .i64 0, .int .i64 n, .string t] 35))
  by_cases he : err = 0
  · subst he
    obtain ⟨k, rfl⟩ := Int.eq_ofNat_of_zero_le ha
    clear ha
    by_cases h1 : (s.size : Int) - k < 1
    · rw [at_no _ _ _ _ (by omega), err_end _ _ _ (by omega) h1, rdByte_no _ _ _ (by omega)]
      go_enter Try.func22, Try.ntmps22
      go_wp2
      have hw : IntKind.i64.wrap ((s.size : Int) - k) = (s.size : Int) - k := IntWalk.i64_in _ (by omega)
      go_quiet (fail)
      clear hw
      go_wp2
      go_ret2
      exact ⟨rfl, Rr.setErr (Blk.drewN H.out _) 5, (((Keeps.refl _ _).alloc _).drewN _).setCell (.inl (by simp)) _⟩
    · rw [at_yes _ _ _ (by omega), err_ok _ _ _ (by omega) h1, rdByte_yes _ _ (by omega)]
      have hkm : k + 1 ≤ s.size := by omega
      have hx := bt_extract s k 1 0 hkm (by decide)
      rw [Nat.add_zero] at hx
      have b0 := bt_nonneg s k
      have b1 := bt_le s k
      have hg := get_bt (s.extract k (k + 1))
      have hz : (s.extract k (k + 1)).size = 1 := ex_size s k 1 hkm
      have hkt : ((k : Int) + 1).toNat = k + 1 := by omega
      have HK := Lib.hid hkt
      clear hkt
      go_enter Try.func22, Try.ntmps22
      go_wp2
      have hw : IntKind.i64.wrap ((s.size : Int) - k) = (s.size : Int) - k := IntWalk.i64_in _ (by omega)
      go_quiet (fail)
      clear hw
      go_wp2
      have hw : IntKind.i64.wrap ((k : Int) + 1) = (k : Int) + 1 := IntWalk.i64_in _ (by omega)
      have hw2 : (0 : Int) ≤ (k : Int) + 1 := by omega
      have hw3 := HK.out
      go_quiet (fail)
      clear hw hw2 hw3
      generalize s.extract k (k + 1) = x at *
      have hz0 : 0 < x.size := by omega
      clear hz
      go_wp2
      go_ret2
      exact ⟨rfl, Rr.setAt (Blk.drewN H.out _) _, (((Keeps.refl _ _).alloc _).drewN _).setCell (.inl (by simp)) _⟩
  · rw [at_no _ _ _ _ (by omega), err_old _ _ _ _ he, rdByte_no _ _ _ (by omega)]
    have hb : (err != 0) = true := by rw [bne_iff_ne]; exact he
    clear he
    go_enter Try.func22, Try.ntmps22
    go_wp2
    go_ret2
    exact ⟨rfl, H.out, ((Keeps.refl _ _).alloc _)⟩

theorem read_two (b : Nat) (s : ByteArray) (a err n : Int) (t : ByteArray) (w : World) (h : Rr w b s a err) (ha : 0 ≤ a) (hs : a ≤ s.size) (hm : s.size ≤ 1000000) (_hn : n ≤ 9223372036854775807) :
    Calls Try.prog 22 #[.pointer (some ⟨b, 0, none⟩), .agg #[.int .i64 1, .int .i64 n, .string t]] w (IsRr b s (rdAt s a err 2) (rdErr s a err 2) (rdTwo s a err) ⟨#[]⟩ w) := by
  obtain ⟨c0, c1, c2, cf, hlt⟩ := h.cells
  have H := Lib.hid (h.alloc (.cells #[.int .i64 1, .int .i64 n, .string t] 35))
  by_cases he : err = 0
  · subst he
    obtain ⟨k, rfl⟩ := Int.eq_ofNat_of_zero_le ha
    clear ha
    by_cases h1 : (s.size : Int) - k < 2
    · rw [at_no _ _ _ _ (by omega), err_end _ _ _ (by omega) h1, rdTwo_no _ _ _ (by omega)]
      go_enter Try.func22, Try.ntmps22
      go_wp2
      have hw : IntKind.i64.wrap ((s.size : Int) - k) = (s.size : Int) - k := IntWalk.i64_in _ (by omega)
      go_quiet (fail)
      clear hw
      go_wp2
      go_ret2
      exact ⟨rfl, Rr.setErr (Blk.drewN H.out _) 5, (((Keeps.refl _ _).alloc _).drewN _).setCell (.inl (by simp)) _⟩
    · rw [at_yes _ _ _ (by omega), err_ok _ _ _ (by omega) h1, rdTwo_yes _ _ (by omega)]
      have hkm : k + 2 ≤ s.size := by omega
      have hx := bt_extract s k 2 0 hkm (by decide)
      rw [Nat.add_zero] at hx
      have b0 := bt_nonneg s k
      have b1 := bt_le s k
      have hg := get_bt (s.extract k (k + 2))
      have hz : (s.extract k (k + 2)).size = 2 := ex_size s k 2 hkm
      have hx1 := bt_extract s k 2 1 hkm (by decide)
      have b2 := bt_nonneg s (k + 1)
      have b3 := bt_le s (k + 1)
      have hkt : ((k : Int) + 2).toNat = k + 2 := by omega
      have HK := Lib.hid hkt
      clear hkt
      go_enter Try.func22, Try.ntmps22
      go_wp2
      have hw : IntKind.i64.wrap ((s.size : Int) - k) = (s.size : Int) - k := IntWalk.i64_in _ (by omega)
      go_quiet (fail)
      clear hw
      go_wp2
      have hw : IntKind.i64.wrap ((k : Int) + 2) = (k : Int) + 2 := IntWalk.i64_in _ (by omega)
      have hw2 : (0 : Int) ≤ (k : Int) + 2 := by omega
      have hw3 := HK.out
      go_quiet (fail)
      clear hw hw2 hw3
      generalize s.extract k (k + 2) = x at *
      have hz0 : 1 < x.size := by omega
      have hw1 : IntKind.i64.wrap (bt s k) = bt s k := IntWalk.i64_in _ (by omega)
      have hw2 : IntKind.i64.wrap (bt s (k + 1)) = bt s (k + 1) := IntWalk.i64_in _ (by omega)
      have hw3 : IntKind.i64.wrap (256 * bt s (k + 1)) = 256 * bt s (k + 1) := IntWalk.i64_in _ (by omega)
      have hw4 : IntKind.i64.wrap (bt s k + 256 * bt s (k + 1)) = bt s k + 256 * bt s (k + 1) := IntWalk.i64_in _ (by omega)
      clear hz
      go_wp2
      go_quiet (fail)
      clear hw1 hw2 hw3 hw4
      go_wp2
      go_ret2
      exact ⟨rfl, Blk.drewN (Rr.setAt (Blk.drewN H.out _) _) _, ((((Keeps.refl _ _).alloc _).drewN _).setCell (.inl (by simp)) _).drewN _⟩
  · rw [at_no _ _ _ _ (by omega), err_old _ _ _ _ he, rdTwo_no _ _ _ (by omega)]
    have hb : (err != 0) = true := by rw [bne_iff_ne]; exact he
    clear he
    go_enter Try.func22, Try.ntmps22
    go_wp2
    go_ret2
    exact ⟨rfl, H.out, ((Keeps.refl _ _).alloc _)⟩

theorem read_text (b : Nat) (s : ByteArray) (a err d n : Int) (t : ByteArray) (w : World) (h : Rr w b s a err) (ha : 0 ≤ a) (hs : a ≤ s.size) (hm : s.size ≤ 1000000) (hn : n ≤ 9223372036854775807) (h0d : ¬ d = 0) (h1d : ¬ d = 1) :
    Calls Try.prog 22 #[.pointer (some ⟨b, 0, none⟩), .agg #[.int .i64 d, .int .i64 n, .string t]] w (IsRr b s (rdAt s a err n) (rdErr s a err n) 0 (rdText s a err n) w) := by
  obtain ⟨c0, c1, c2, cf, hlt⟩ := h.cells
  have H := Lib.hid (h.alloc (.cells #[.int .i64 d, .int .i64 n, .string t] 35))
  have hd0 : (d == 0) = false := by simpa using h0d
  have hd1 : (d == 1) = false := by simpa using h1d
  clear h0d h1d
  by_cases he : err = 0
  · subst he
    by_cases h0 : n < 0
    · rw [at_no _ _ _ _ (by omega), err_neg _ _ _ h0, text_no _ _ _ _ (by omega)]
      go_enter Try.func22, Try.ntmps22
      go_wp2
      go_ret2
      exact ⟨rfl, Blk.alloc (Rr.setErr h 2) _, ((Keeps.refl _ _).setCell (p := ⟨b, 2, none⟩) (.inl (by simp)) _).alloc _⟩
    obtain ⟨m, rfl⟩ := Int.eq_ofNat_of_zero_le (show 0 ≤ n by omega)
    clear h0
    obtain ⟨k, rfl⟩ := Int.eq_ofNat_of_zero_le ha
    clear ha
    by_cases h1 : (s.size : Int) - k < m
    · rw [at_no _ _ _ _ (by omega), err_end _ _ _ (by omega) h1, text_no _ _ _ _ (by omega)]
      go_enter Try.func22, Try.ntmps22
      go_wp2
      have hw : IntKind.i64.wrap ((s.size : Int) - k) = (s.size : Int) - k := IntWalk.i64_in _ (by omega)
      go_quiet (fail)
      clear hw
      go_wp2
      go_ret2
      exact ⟨rfl, Rr.setErr (Blk.drewN H.out _) 5, (((Keeps.refl _ _).alloc _).drewN _).setCell (.inl (by simp)) _⟩
    · rw [at_yes _ _ _ (by omega), err_ok _ _ _ (by omega) h1, text_yes _ _ _ (by omega)]
      have hkm : k + m ≤ s.size := by omega
      have hkt : ((k : Int) + m).toNat = k + m := by omega
      have HK := Lib.hid hkt
      clear hkt
      go_enter Try.func22, Try.ntmps22
      go_wp2
      have hw : IntKind.i64.wrap ((s.size : Int) - k) = (s.size : Int) - k := IntWalk.i64_in _ (by omega)
      go_quiet (fail)
      clear hw
      go_wp2
      have hw : IntKind.i64.wrap ((k : Int) + m) = (k : Int) + m := IntWalk.i64_in _ (by omega)
      have hw2 : (0 : Int) ≤ (k : Int) + m := by omega
      have hw3 := HK.out
      go_quiet (fail)
      clear hw hw2 hw3
      go_wp2
      go_ret2
      exact ⟨rfl, Rr.setAt (Blk.drewN H.out _) _, (((Keeps.refl _ _).alloc _).drewN _).setCell (.inl (by simp)) _⟩
  · rw [at_no _ _ _ _ (by omega), err_old _ _ _ _ he, text_no _ _ _ _ (by omega)]
    have hb : (err != 0) = true := by rw [bne_iff_ne]; exact he
    clear he
    go_enter Try.func22, Try.ntmps22
    go_wp2
    go_ret2
    exact ⟨rfl, H.out, ((Keeps.refl _ _).alloc _)⟩

end Bi
end Go.Proofs.Ytidfljnjghgkgaa
