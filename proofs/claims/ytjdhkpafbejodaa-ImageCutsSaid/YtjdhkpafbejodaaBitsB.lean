/- The reader's other methods, and the reference of bits. -/
import Derived.Test.YtjdhkpafbejodaaBitsA
namespace Go.Proofs.Ytjdhkpafbejodaa
open Go.RowKit
attribute [local go_sem] Bw.and255 Bw.and65535
namespace Bi
open Sm Pc
open PlainAid (bt get_bt bt_nonneg bt_le)

theorem Rd.alloc {w : World} {b : Nat} {s : ByteArray} {a err : Int} (h : Rd w b s a err) (o : Obj) : Rd (w.alloc o) b s a err := Blk.alloc h o
theorem Rd.keeps {S : List Nat} {w w' : World} {b : Nat} {s : ByteArray} {a err : Int} (h : Rd w b s a err) (hk : Keeps S w w') (hb : b ∉ S) : Rd w' b s a err := Blk.keeps h hk hb
theorem Rd.drawn {w w' : World} {b : Nat} {s : ByteArray} {a err : Int} (h : Rd w b s a err) (hd : Drawn w w') : Rd w' b s a err := Blk.drawn h hd
theorem Rd.drewN {w : World} {b : Nat} {s : ByteArray} {a err : Int} (h : Rd w b s a err) (n : Nat) : Rd (w.drewN n) b s a err := Blk.drewN h n
theorem Rd.lt {w : World} {b : Nat} {s : ByteArray} {a err : Int} (h : Rd w b s a err) : b < w.heap.size := Blk.lt h
theorem Rd.drew {w : World} {b : Nat} {s : ByteArray} {a err : Int} (h : Rd w b s a err) : Rd w.drew b s a err := Blk.drew h
def rdByte (s : ByteArray) (a err : Int) : Int := if err = 0 ∧ 1 ≤ s.size - a then bt s a.toNat else 0
def rdTwo (s : ByteArray) (a err : Int) : Int := if err = 0 ∧ 2 ≤ s.size - a then bt s a.toNat + 256 * bt s (a.toNat + 1) else 0
theorem text_no (s : ByteArray) (a err n : Int) (h : ¬ (err = 0 ∧ 0 ≤ n ∧ n ≤ s.size - a)) : rdText s a err n = ⟨#[]⟩ := by unfold rdText; rw [if_neg h]
theorem text_yes (s : ByteArray) (k m : Nat) (h : (m : Int) ≤ s.size - (k : Int)) : rdText s k 0 m = s.extract k (k + m) := by unfold rdText; rw [if_pos (by omega)]; rfl
theorem bt_extract (s : ByteArray) (k m j : Nat) (h : k + m ≤ s.size) (hj : j < m) : bt (s.extract k (k + m)) j = bt s (k + j) := by
  have h1 : j < (s.extract k (k + m)).size := by simp; omega
  rw [bt_get _ _ h1, bt_get _ _ (by omega)]
  congr 2
  exact ByteArray.getElem_extract h1
theorem ex_size (s : ByteArray) (k m : Nat) (h : k + m ≤ s.size) : (s.extract k (k + m)).size = m := by simp; omega

theorem byte_any (b : Nat) (s : ByteArray) (a err : Int) (w : World) (h : Rd w b s a err) (ha : 0 ≤ a) (hs : a ≤ s.size) (hm : s.size ≤ 9223372036854775807) :
    Calls Try.prog 39 #[.pointer (some ⟨b, 0, none⟩)] w (IsRd b s (rdAt s a err 1) (rdErr s a err 1) (.int .i64 (rdByte s a err)) w) := by
  by_cases hok : err = 0 ∧ (1 : Int) ≤ s.size - a
  · obtain ⟨rfl, h1⟩ := hok
    obtain ⟨k, rfl⟩ := Int.eq_ofNat_of_zero_le ha
    have e1 : rdByte s k 0 = bt s k := by unfold rdByte; rw [if_pos ⟨rfl, h1⟩]; rfl
    have ht : rdText s k 0 1 = s.extract k (k + 1) := text_yes s k 1 h1
    have hx := bt_extract s k 1 0 (by omega) (by decide)
    have hz := ex_size s k 1 (by omega)
    have b0 := bt_nonneg s k
    have b1 := bt_le s k
    have HT := Lib.hid (take_any b s k 0 1 w h ha hs hm (by decide))
    have hg := get_bt (s.extract k (k + 1))
    have hne : (s.extract k (k + 1)).toList.isEmpty = false := snonempty fun he => by
      have := congrArg List.length he
      simp only [Array.length_toList] at this
      change (s.extract k (k + 1)).size = 0 at this
      omega
    rw [e1]
    clear e1
    go_enter Try.func39, Try.ntmps39
    go_wp2_with fail
    refine HT.out.mono ?_
    rw [ht]
    clear ht HT
    generalize s.extract k (k + 1) = x at *
    rintro e w1 ⟨rfl, h1', hk⟩
    have hz0 : 0 < x.size := by omega
    rw [Nat.add_zero] at hx
    clear hz
    go_wp2
    go_ret
    exact ⟨rfl, h1', hk⟩
  · have e1 : rdByte s a err = 0 := by unfold rdByte; rw [if_neg hok]
    have ht : rdText s a err 1 = ⟨#[]⟩ := text_no _ _ _ _ (by omega)
    have HT := take_any b s a err 1 w h ha hs hm (by decide)
    rw [ht] at HT
    have HT2 := Lib.hid HT
    rw [e1]
    clear e1 ht HT hok
    go_enter Try.func39, Try.ntmps39
    go_wp2_with fail
    refine HT2.out.mono ?_
    rintro e w1 ⟨rfl, h1', hk⟩
    go_wp2
    go_ret
    exact ⟨rfl, h1', hk⟩

theorem rtwo_any (b : Nat) (s : ByteArray) (a err : Int) (w : World) (h : Rd w b s a err) (ha : 0 ≤ a) (hs : a ≤ s.size) (hm : s.size ≤ 9223372036854775807) :
    Calls Try.prog 38 #[.pointer (some ⟨b, 0, none⟩)] w (IsRd b s (rdAt s a err 2) (rdErr s a err 2) (.int .i64 (rdTwo s a err)) w) := by
  by_cases hok : err = 0 ∧ (2 : Int) ≤ s.size - a
  · obtain ⟨rfl, h1⟩ := hok
    obtain ⟨k, rfl⟩ := Int.eq_ofNat_of_zero_le ha
    have e1 : rdTwo s k 0 = bt s k + 256 * bt s (k + 1) := by unfold rdTwo; rw [if_pos ⟨rfl, h1⟩]; rfl
    have ht : rdText s k 0 2 = s.extract k (k + 2) := text_yes s k 2 h1
    have hx := bt_extract s k 2 0 (by omega) (by decide)
    have hx1 := bt_extract s k 2 1 (by omega) (by decide)
    have hz := ex_size s k 2 (by omega)
    have b0 := bt_nonneg s k
    have b1 := bt_le s k
    have b2 := bt_nonneg s (k + 1)
    have b3 := bt_le s (k + 1)
    have HT := Lib.hid (take_any b s k 0 2 w h ha hs hm (by decide))
    have hg := get_bt (s.extract k (k + 2))
    have hne : (s.extract k (k + 2)).toList.isEmpty = false := snonempty fun he => by
      have := congrArg List.length he
      simp only [Array.length_toList] at this
      change (s.extract k (k + 2)).size = 0 at this
      omega
    rw [e1]
    clear e1
    have HM : Hid (bt s k % 256 + 256 * (bt s (k + 1) % 256) = bt s k + 256 * bt s (k + 1)) := by show _ = _; omega
    have h2w : ∀ w, Calls Try.prog 50 #[.int .i64 (bt s k), .int .i64 (bt s (k + 1))] w fun e w' => e = .returned (.int .i64 (bt s k % 256 + 256 * (bt s (k + 1) % 256))) ∧ w = w' := fun w => two_any _ _ w
    rw [HM.out] at h2w
    have H2 := Lib.hid h2w
    clear h2w HM
    go_enter Try.func38, Try.ntmps38
    go_wp2_with fail
    refine HT.out.mono ?_
    rw [ht]
    clear ht HT
    generalize s.extract k (k + 2) = x at *
    rintro e w1 ⟨rfl, h1', hk⟩
    have hz0 : 1 < x.size := by omega
    rw [Nat.add_zero] at hx
    have hw1 : IntKind.i64.wrap (bt s k) = bt s k := IntWalk.i64_in _ (by omega)
    have hw2 : IntKind.i64.wrap (bt s (k + 1)) = bt s (k + 1) := IntWalk.i64_in _ (by omega)
    clear hz
    go_wp2_with fail
    go_quiet ((go_at_call 50; with_reducible exact quiet_eq (H2.out _)))
    clear hw1 hw2
    go_wp2
    go_ret
    exact ⟨rfl, Blk.drewN h1' _, hk.drewN _⟩
  · have e1 : rdTwo s a err = 0 := by unfold rdTwo; rw [if_neg hok]
    have ht : rdText s a err 2 = ⟨#[]⟩ := text_no _ _ _ _ (by omega)
    have HT := take_any b s a err 2 w h ha hs hm (by decide)
    rw [ht] at HT
    have HT2 := Lib.hid HT
    rw [e1]
    clear e1 ht HT hok
    go_enter Try.func38, Try.ntmps38
    go_wp2_with fail
    refine HT2.out.mono ?_
    rintro e w1 ⟨rfl, h1', hk⟩
    go_wp2
    go_ret
    exact ⟨rfl, h1', hk⟩
theorem text_any (b : Nat) (s : ByteArray) (a err n : Int) (w : World) (h : Rd w b s a err) (ha : 0 ≤ a) (hs : a ≤ s.size) (hm : s.size ≤ 9223372036854775807) (hn : n ≤ 9223372036854775807) :
    Calls Try.prog 19 #[.pointer (some ⟨b, 0, none⟩), .int .i64 n] w (IsRd b s (rdAt s a err n) (rdErr s a err n) (.string (rdText s a err n)) w) := by
  have HT := Lib.hid (take_any b s a err n w h ha hs hm hn)
  go_enter Try.func19, Try.ntmps19
  go_wp2_with fail
  refine HT.out.mono ?_
  rintro e w1 ⟨rfl, h1', hk⟩
  go_wp2
  go_ret
  exact ⟨rfl, h1', hk⟩
def rdLeft (s : ByteArray) (a err : Int) : Int := if err = 0 then s.size - a else 0
theorem left_any (b : Nat) (s : ByteArray) (a err : Int) (w : World) (h : Rd w b s a err) (ha : 0 ≤ a) (hs : a ≤ s.size) (hm : s.size ≤ 9223372036854775807) :
    Calls Try.prog 22 #[.pointer (some ⟨b, 0, none⟩)] w (Quiet (.int .i64 (rdLeft s a err)) w) := by
  obtain ⟨c0, c1, c2, cf⟩ := h.cells
  by_cases he : err = 0
  · subst he
    have e1 : rdLeft s a 0 = s.size - a := by unfold rdLeft; rw [if_pos rfl]
    rw [e1]
    go_enter Try.func22, Try.ntmps22
    go_wp2
    have hw : IntKind.i64.wrap ((s.size : Int) - a) = (s.size : Int) - a := IntWalk.i64_in _ (by omega)
    go_quiet (fail)
    clear hw
    go_wp2
    go_ret
    exact ⟨rfl, _, rfl⟩
  · have e1 : rdLeft s a err = 0 := by unfold rdLeft; rw [if_neg he]
    have hb : (err != 0) = true := by rw [bne_iff_ne]; exact he
    rw [e1]
    clear e1 he
    go_enter Try.func22, Try.ntmps22
    go_wp2
    go_ret
    exact ⟨rfl, Drawn.refl _⟩
theorem err_any (b : Nat) (s : ByteArray) (a err : Int) (w : World) (h : Rd w b s a err) :
    Calls Try.prog 20 #[.pointer (some ⟨b, 0, none⟩)] w (Quiet (.int .i64 err) w) := by
  obtain ⟨c0, c1, c2, cf⟩ := h.cells
  go_enter Try.func20, Try.ntmps20
  go_wp2
  go_ret
  exact ⟨rfl, Drawn.refl _⟩
end Bi
end Go.Proofs.Ytjdhkpafbejodaa
