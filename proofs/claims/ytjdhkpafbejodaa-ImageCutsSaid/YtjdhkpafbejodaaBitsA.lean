/- The package bits, function by function: numbers as bytes, and the reader. -/
import Derived.Test.YtjdhkpafbejodaaBw
import Derived.Test.YtjdhkpafbejodaaPc
import Derived.Test.YtjdhkpafbejodaaMem
namespace Go.Proofs.Ytjdhkpafbejodaa
open Go.RowKit
attribute [local go_sem] Bw.and255 Bw.and65535
namespace Bi
open Sm Pc
open PlainAid (bt get_bt bt_nonneg bt_le)

theorem low_any (n : Int) (w : World) : Calls Try.prog 44 #[.int .i64 n] w fun e w' => e = .returned (.int .i64 (n % 256)) ∧ w = w' := by
  go_enter Try.func44, Try.ntmps44
  go_wp2
  go_ret
  exact ⟨rfl, rfl⟩
theorem high_any (n : Int) (w : World) : Calls Try.prog 43 #[.int .i64 n] w fun e w' => e = .returned (.int .i64 (n / 256 % 256)) ∧ w = w' := by
  go_enter Try.func43, Try.ntmps43
  go_wp2
  go_ret
  exact ⟨rfl, rfl⟩
theorem join (x y : Int) (hx0 : 0 ≤ x) (hx1 : x ≤ 255) (hy0 : 0 ≤ y) (hy1 : y ≤ 255) : bits .or .i64 x (y * 256) = x + 256 * y := by
  obtain ⟨a, rfl⟩ := Int.eq_ofNat_of_zero_le hx0
  obtain ⟨b, rfl⟩ := Int.eq_ofNat_of_zero_le hy0
  have := Bw.or_nat a (b * 256) (by omega) (by omega)
  rw [show (((b * 256 : Nat)) : Int) = (b : Int) * 256 from by omega] at this
  rw [this, Nat.or_comm, nat_join 8 (b * 256) a (by omega) (by omega)]
  omega
theorem two_any (n m : Int) (w : World) : Calls Try.prog 50 #[.int .i64 n, .int .i64 m] w fun e w' => e = .returned (.int .i64 (n % 256 + 256 * (m % 256))) ∧ w = w' := by
  have HJ := Lib.hid (join (n % 256) (m % 256) (by omega) (by omega) (by omega) (by omega))
  go_enter Try.func50, Try.ntmps50
  go_wp2
  go_ret
  exact ⟨ret_int HJ.out, rfl⟩
def IsText (l : List UInt8) (w : World) (e : Ending) (w' : World) : Prop := ∃ r : ByteArray, e = .returned (.string r) ∧ r.data.toList = l ∧ Below w.heap.size w w'
theorem two_bytes (w : World) (x y : Int) : (convert 41 9 (.slice (some ⟨w.heap.size, 0, none⟩) 2 2)).run Try.prog (w.alloc (.cells #[.int .u8 x, .int .u8 y] 5)) = .ok (.string (strOfNums [x, y])) (w.alloc (.cells #[.int .u8 x, .int .u8 y] 5)) := by
  refine run_convert_bytes_arg (P := Try.prog) _ 41 5 Try.underlying41 Try.underlying5 _ 0 2 2 [x, y] rfl ?_ 9 Try.underlying9
  intro i hi
  have : i = 0 ∨ i = 1 := by omega
  rcases this with rfl | rfl <;> simp
/-- A number's two bytes. -/
def putL (n : Int) : List UInt8 := [UInt8.ofNat (n % 256).toNat, UInt8.ofNat (n / 256 % 256).toNat]
theorem putL_of (n : Int) : (strOfNums [n % 256, n / 256 % 256]).data.toList = putL n := rfl
/-- Where a reader stands behind so many bytes more, and its error. -/
def rdAt (s : ByteArray) (a err n : Int) : Int := if err = 0 ∧ 0 ≤ n ∧ n ≤ s.size - a then a + n else a
def rdErr (s : ByteArray) (a err n : Int) : Int := if err ≠ 0 then err else if n < 0 then 2 else if s.size - a < n then 5 else 0
def rdText (s : ByteArray) (a err n : Int) : ByteArray := if err = 0 ∧ 0 ≤ n ∧ n ≤ s.size - a then s.extract a.toNat (a + n).toNat else ⟨#[]⟩
def Rd (w : World) (b : Nat) (s : ByteArray) (a err : Int) : Prop := Blk w b 73 #[.int .i64 err, .string s, .int .i64 a]
theorem Rd.cells {w : World} {b : Nat} {s : ByteArray} {a err : Int} (h : Rd w b s a err) :
    w.cell? ⟨b, 0, none⟩ = some (.int .i64 err) ∧ w.cell? ⟨b, 1, none⟩ = some (.string s) ∧ w.cell? ⟨b, 2, none⟩ = some (.int .i64 a) ∧ ∀ j, w.frozen? ⟨b, j, none⟩ = false :=
  ⟨h.cell 0, h.cell 1, h.cell 2, h.frozen⟩
theorem Rd.setErr {w : World} {b : Nat} {s : ByteArray} {a err : Int} (h : Rd w b s a err) (x : Int) : Rd (w.setCell ⟨b, 0, none⟩ (.int .i64 x)) b s a x := by
  have := Blk.set_ h 0 (.int .i64 x)
  simpa [Rd] using this
theorem Rd.setAt {w : World} {b : Nat} {s : ByteArray} {a err : Int} (h : Rd w b s a err) (x : Int) : Rd (w.setCell ⟨b, 2, none⟩ (.int .i64 x)) b s x err := by
  have := Blk.set_ h 2 (.int .i64 x)
  simpa [Rd] using this
def IsRd (b : Nat) (s : ByteArray) (a err : Int) (v : Value) (w : World) (e : Ending) (w' : World) : Prop := e = .returned v ∧ Rd w' b s a err ∧ Keeps [b] w w'
theorem new_any (s : ByteArray) (w : World) : Calls Try.prog 18 #[.string s] w fun e w' => e = .returned (.pointer (some ⟨w.heap.size, 0, none⟩)) ∧ Rd w' w.heap.size s 0 0 ∧ Keeps [] w w' := by
  go_enter Try.func18, Try.ntmps18
  go_wp2
  go_ret
  exact ⟨rfl, Blk.new _ _ _, (Keeps.refl _ _).alloc _⟩
theorem take_any (b : Nat) (s : ByteArray) (a err n : Int) (w : World) (h : Rd w b s a err) (ha : 0 ≤ a) (hs : a ≤ s.size) (hm : s.size ≤ 9223372036854775807) (hn : n ≤ 9223372036854775807) :
    Calls Try.prog 37 #[.pointer (some ⟨b, 0, none⟩), .int .i64 n] w (IsRd b s (rdAt s a err n) (rdErr s a err n) (.string (rdText s a err n)) w) := by
  obtain ⟨c0, c1, c2, cf⟩ := h.cells
  by_cases he : err = 0
  · subst he
    by_cases h0 : n < 0
    · have e1 : rdAt s a 0 n = a := by unfold rdAt; rw [if_neg (by omega)]
      have e2 : rdErr s a 0 n = 2 := by unfold rdErr; rw [if_neg (by omega), if_pos h0]
      have e3 : rdText s a 0 n = ⟨#[]⟩ := by unfold rdText; rw [if_neg (by omega)]
      rw [e1, e2, e3]
      clear e1 e2 e3
      go_enter Try.func37, Try.ntmps37
      go_wp2
      go_ret
      exact ⟨rfl, h.setErr 2, (Keeps.refl _ _).setCell (.inl (by simp)) _⟩
    · obtain ⟨k, rfl⟩ := Int.eq_ofNat_of_zero_le ha
      obtain ⟨m, rfl⟩ := Int.eq_ofNat_of_zero_le (show 0 ≤ n by omega)
      clear h0 ha
      by_cases h1 : (s.size : Int) - k < m
      · have e1 : rdAt s k 0 m = k := by unfold rdAt; rw [if_neg (by omega)]
        have e2 : rdErr s k 0 m = 5 := by unfold rdErr; rw [if_neg (by omega), if_neg (by omega), if_pos h1]
        have e3 : rdText s k 0 m = ⟨#[]⟩ := by unfold rdText; rw [if_neg (by omega)]
        rw [e1, e2, e3]
        clear e1 e2 e3
        go_enter Try.func37, Try.ntmps37
        go_wp2
        have hw : IntKind.i64.wrap ((s.size : Int) - k) = (s.size : Int) - k := IntWalk.i64_in _ (by omega)
        go_quiet (fail)
        clear hw
        go_wp2
        go_ret
        exact ⟨rfl, Rd.setErr (Blk.drewN h _) 5, ((Keeps.refl _ _).drewN _).setCell (.inl (by simp)) _⟩
      · have e1 : rdAt s k 0 m = k + m := by unfold rdAt; rw [if_pos (by omega)]
        have e2 : rdErr s k 0 m = 0 := by unfold rdErr; rw [if_neg (by omega), if_neg (by omega), if_neg h1]
        have e3 : rdText s k 0 m = s.extract k (k + m) := by unfold rdText; rw [if_pos (by omega)]; rfl
        rw [e1, e2, e3]
        clear e1 e2 e3
        have hkm : k + m ≤ s.size := by omega
        go_enter Try.func37, Try.ntmps37
        go_wp2
        have hw : IntKind.i64.wrap ((s.size : Int) - k) = (s.size : Int) - k := IntWalk.i64_in _ (by omega)
        go_quiet (fail)
        clear hw
        go_wp2
        have hw : IntKind.i64.wrap ((k : Int) + m) = (k : Int) + m := IntWalk.i64_in _ (by omega)
        have hw2 : (0 : Int) ≤ (k : Int) + m := by omega
        have hw3 : ((k : Int) + m).toNat = k + m := by omega
        go_quiet (fail)
        clear hw hw2 hw3
        go_wp2
        go_ret
        exact ⟨rfl, Rd.setAt (Blk.drewN h _) _, ((Keeps.refl _ _).drewN _).setCell (.inl (by simp)) _⟩
  · have e1 : rdAt s a err n = a := by unfold rdAt; rw [if_neg (by omega)]
    have e2 : rdErr s a err n = err := by unfold rdErr; rw [if_pos he]
    have e3 : rdText s a err n = ⟨#[]⟩ := by unfold rdText; rw [if_neg (by omega)]
    rw [e1, e2, e3]
    have hb : (err != 0) = true := by rw [bne_iff_ne]; exact he
    clear e1 e2 e3 he
    go_enter Try.func37, Try.ntmps37
    go_wp2
    go_ret
    exact ⟨rfl, h, Keeps.refl _ _⟩
end Bi
end Go.Proofs.Ytjdhkpafbejodaa
