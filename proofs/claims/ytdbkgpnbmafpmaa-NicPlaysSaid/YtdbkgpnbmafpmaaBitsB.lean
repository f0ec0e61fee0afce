/- The reader's other methods, and the reference of bits. -/
import Derived.Test.YtdbkgpnbmafpmaaBitsA
namespace Go.Proofs.Ytdbkgpnbmafpmaa
open Go.RowKit
attribute [local go_sem] Bw.and255 Bw.and65535
namespace Bi
open Sm Pc
open PlainAid (bt get_bt bt_nonneg bt_le)

theorem Rd.alloc {w : World} {b : Nat} {s : ByteArray} {a err : Int} (h : Rd w b s a err) (o : Obj) : Rd (w.alloc o) b s a err := Blk.alloc h o
theorem Rd.keeps {S : List Nat} {w w' : World} {b : Nat} {s : ByteArray} {a err : Int} (h : Rd w b s a err) (hk : Keeps S w w') (hb : b ∉ S) : Rd w' b s a err := Blk.keeps h hk hb
theorem Rd.drawn {w w' : World} {b : Nat} {s : ByteArray} {a err : Int} (h : Rd w b s a err) (hd : Drawn w w') : Rd w' b s a err := Blk.drawn h hd
theorem Rd.drewN {w : World} {b : Nat} {s : ByteArray} {a err : Int} (h : Rd w b s a err) (n : Nat) : Rd (w.drewN n) b s a err := Blk.drewN h n
theorem Rd.lt {w : World} {b : Nat} {s : ByteArray} {a err : Int} (h : Rd w b s a err) : b < w.heap.size := Blk.lt h
theorem Rd.drew {w : World} {b : Nat} {s : ByteArray} {a err : Int} (h : Rd w b s a err) : Rd w.drew b s a err := Blk.drew h
def rdByte (s : ByteArray) (a err : Int) : Int := if err = 0 ∧ 1 ≤ s.size - a then bt s a.toNat else 0
def rdTwo (s : ByteArray) (a err : Int) : Int := if err = 0 ∧ 2 ≤ s.size - a then bt s a.toNat + 256 * bt s (a.toNat + 1) else 0
theorem text_no (s : ByteArray) (a err n : Int) (h : ¬ (err = 0 ∧ 0 ≤ n ∧ n ≤ s.size - a)) : rdText s a err n = ⟨#[]⟩ := by unfold rdText; rw [if_neg h]
theorem text_yes (s : ByteArray) (k m : Nat) (h : (m : Int) ≤ s.size - (k : Int)) : rdText s k 0 m = s.extract k (k + m) := by unfold rdText; rw [if_pos (by omega)]; rfl
theorem bt_extract (s : ByteArray) (k m j : Nat) (h : k + m ≤ s.size) (hj : j < m) : bt (s.extract k (k + m)) j = bt s (k + j) := by
  have h1 : j < (s.extract k (k + m)).size := by simp; omega
  rw [bt_get _ _ h1, bt_get _ _ (by omega)]
  congr 2
  exact ByteArray.getElem_extract h1
theorem ex_size (s : ByteArray) (k m : Nat) (h : k + m ≤ s.size) : (s.extract k (k + m)).size = m := by simp; omega

theorem byte_any (b : Nat) (s : ByteArray) (a err : Int) (w : World) (h : Rd w b s a err) (ha : 0 ≤ a) (hs : a ≤ s.size) (hm : s.size ≤ 9223372036854775807) :
    Calls Try.prog 41 #[.pointer (some ⟨b, 0, none⟩)] w (IsRd b s (rdAt s a err 1) (rdErr s a err 1) (.int .i64 (rdByte s a err)) w) := by
  by_cases hok : err = 0 ∧ (1 : Int) ≤ s.size - a
  · obtain ⟨rfl, h1⟩ := hok
    obtain ⟨k, rfl⟩ := Int.eq_ofNat_of_zero_le ha
    have e1 : rdByte s k 0 = bt s k := by unfold rdByte; rw [if_pos ⟨rfl, h1⟩]; rfl
    have ht : rdText s k 0 1 = s.extract k (k + 1) := text_yes s k 1 h1
    have hx := bt_extract s k 1 0 (by omega) (by decide)
    have hz := ex_size s k 1 (by omega)
    have b0 := bt_nonneg s k
    have b1 := bt_le s k
    have HT := Lib.hid (take_any b s k 0 1 w h ha hs hm (by decide))
    have hg := get_bt (s.extract k (k + 1))
    have hne : (s.extract k (k + 1)).toList.isEmpty = false := snonempty fun he => by
      have := congrArg List.length he
      simp only [Array.length_toList] at this
      change (s.extract k (k + 1)).size = 0 at this
      omega
    rw [e1]
    clear e1
    go_enter Try.func41, Try.ntmps41
    go_wp2_with fail
    refine HT.out.mono ?_
    rw [ht]
    clear ht HT
    generalize s.extract k (k + 1) = x at *
    rintro e w1 ⟨rfl, h1', hk⟩
    have hz0 : 0 < x.size := by omega
    rw [Nat.add_zero] at hx
    clear hz
    go_wp2
    go_ret
    exact ⟨rfl, h1', hk⟩
  · have e1 : rdByte s a err = 0 := by unfold rdByte; rw [if_neg hok]
    have ht : rdText s a err 1 = ⟨#[]⟩ := text_no _ _ _ _ (by omega)
    have HT := take_any b s a err 1 w h ha hs hm (by decide)
    rw [ht] at HT
    have HT2 := Lib.hid HT
    rw [e1]
    clear e1 ht HT hok
    go_enter Try.func41, Try.ntmps41
    go_wp2_with fail
    refine HT2.out.mono ?_
    rintro e w1 ⟨rfl, h1', hk⟩
    go_wp2
    go_ret
    exact ⟨rfl, h1', hk⟩

def rdLeft (s : ByteArray) (a err : Int) : Int := if err = 0 then s.size - a else 0
theorem err_any (b : Nat) (s : ByteArray) (a err : Int) (w : World) (h : Rd w b s a err) :
    Calls Try.prog 43 #[.pointer (some ⟨b, 0, none⟩)] w (Quiet (.int .i64 err) w) := by
  obtain ⟨c0, c1, c2, cf⟩ := h.cells
  go_enter Try.func43, Try.ntmps43
  go_wp2
  go_ret
  exact ⟨rfl, Drawn.refl _⟩
end Bi
end Go.Proofs.Ytdbkgpnbmafpmaa
