/- The law CodePuts: its walk. -/
import Derived.Test.YtkbgihlpnamfeaaCodeL
namespace Go.Proofs.Ytkbgihlpnamfeaa
open Go.RowKit
attribute [local go_sem] Bw.and255 Bw.and65535
namespace Co
open Sm
open PlainAid (bt get_bt bt_nonneg bt_le)
theorem u8_bd {n : Int} (h : (Lit.int .u8 n).wf = true) : 0 ≤ n ∧ n ≤ 255 := by
  simp [Lit.wf, IntKind.min, IntKind.max, IntKind.signed, IntKind.bits] at h
  omega
theorem may_bd (c x n : Int) (h : mayB c x n = true) : 0 ≤ x ∧ x ≤ 7 ∧ 0 ≤ n ∧ n ≤ 65535 := by
  have := of_decide_eq_true h
  omega
/-- What was put is got. -/
theorem got (c x n : Int) (s : ByteArray) (h0 : 0 ≤ c) (h1 : c ≤ 255) (hx : 0 ≤ x ∧ x ≤ 7 ∧ 0 ≤ n ∧ n ≤ 65535) (hs : s.data.toList = encI c x n) :
    s.size = 4 ∧ bt s 0 = c ∧ bt s 1 = x ∧ bt s 2 + 256 * bt s 3 = n := by
  have e : encI c x n = [UInt8.ofNat c.toNat, UInt8.ofNat x.toNat, UInt8.ofNat (n % 256).toNat, UInt8.ofNat (n / 256 % 256).toNat] := rfl
  rw [e] at hs
  have hz : s.size = 4 := size_of s _ hs
  have hb : ∀ (i : Nat) (hi : i < 4), s[i]'(by omega) = s.data.toList[i]'(by rw [hs]; simpa using hi) := fun i hi => by rw [Array.getElem_toList]; rfl
  have hl : ∀ (i : Nat) (hi : i < 4), s.data.toList[i]'(by rw [hs]; simpa using hi) = [UInt8.ofNat c.toNat, UInt8.ofNat x.toNat, UInt8.ofNat (n % 256).toNat, UInt8.ofNat (n / 256 % 256).toNat][i]'(by simpa using hi) := fun i hi => by congr 1
  refine ⟨hz, ?_, ?_, ?_⟩
  · rw [bt_get s 0 (by omega), hb 0 (by omega), hl 0 (by omega)]; simp; omega
  · rw [bt_get s 1 (by omega), hb 1 (by omega), hl 1 (by omega)]; simp; omega
  · rw [bt_get s 2 (by omega), hb 2 (by omega), hl 2 (by omega), bt_get s 3 (by omega), hb 3 (by omega), hl 3 (by omega)]; simp; omega
theorem get_enc (c x n : Int) (s : ByteArray) (w : World) (h0 : 0 ≤ c) (h1 : c ≤ 255) (hm : mayB c x n = true) (hs : s.data.toList = encI c x n) : Calls Try.prog 16 #[.string s] w (IsGet c x n 0 w) := by
  obtain ⟨hz, e0, e1, e2⟩ := got c x n s h0 h1 (may_bd c x n hm) hs
  have := get_good s w (by omega) (by omega) (by rw [e0, e1, e2]; exact hm)
  rw [e0, e1, e2] at this
  exact this
attribute [local irreducible] nm regB mayB encI
set_option maxHeartbeats 4000000 in
theorem puts_law (c x n : Int) (w : World) (wc : (Lit.int .u8 c).wf = true) (_ : (Lit.int .i64 x).wf = true) (_ : (Lit.int .i64 n).wf = true) : Calls Try.prog 4 #[.agg #[.int .u8 c, .int .i64 x, .int .i64 n]] w fun e w' => e = .returned (.bool true) ∧ Below w.heap.size w w' := by
  obtain ⟨c0, c1⟩ := u8_bd wc
  clear wc
  have HM := Lib.hid (fun V => may_any c x n V c0 c1)
  have HR := Lib.hid (fun V => rmay_any c x n V c0 c1)
  cases hm : mayB c x n
  · rw [hm] at HM HR
    have HP := Lib.hid (fun V => put_no c x n V c0 c1 hm)
    clear hm
    go_enter Try.func4, Try.ntmps4
    go_wp2_with fail
    refine (HP.out _).mono ?_
    rintro e v1 ⟨r, rfl, hr, hb1⟩
    have hq := sempty hr
    have hd1 := (Blk.new w 24 #[.int .u8 c, .int .i64 x, .int .i64 n]).below hb1 (by simp)
    have HB1 : Hid (Below w.heap.size w v1) := ((Below.refl _ w).alloc (Nat.le_refl _) (.cells #[.int .u8 c, .int .i64 x, .int .i64 n] 24)).trans (hb1.mono (by simp))
    have p0 : v1.cell? ⟨w.heap.size, 0, none⟩ = some (.int .u8 c) := hd1.cell 0
    have p1 : v1.cell? ⟨w.heap.size, 1, none⟩ = some (.int .i64 x) := hd1.cell 1
    have p2 : v1.cell? ⟨w.heap.size, 2, none⟩ = some (.int .i64 n) := hd1.cell 2
    clear hr hb1 HP
    go_wp2_with fail
    refine (HR.out _).mono ?_
    rintro e v2 ⟨rfl, hb2⟩
    have hd2 := hd1.below hb2 hd1.lt
    have HB2 : Hid (Below w.heap.size w v2) := HB1.out.trans (hb2.mono HB1.out.size)
    have p0' : v2.cell? ⟨w.heap.size, 0, none⟩ = some (.int .u8 c) := hd2.cell 0
    have p1' : v2.cell? ⟨w.heap.size, 1, none⟩ = some (.int .i64 x) := hd2.cell 1
    have p2' : v2.cell? ⟨w.heap.size, 2, none⟩ = some (.int .i64 n) := hd2.cell 2
    clear hb2 hd1 HB1 HR
    go_wp2_with fail
    refine (HM.out _).mono ?_
    rintro e v3 ⟨rfl, hb3⟩
    have HB3 : Hid (Below w.heap.size w v3) := HB2.out.trans (hb3.mono HB2.out.size)
    clear hb3
    go_wp2_with fail
    refine (live_any _).mono ?_
    rintro e v4 ⟨rfl, hb4⟩
    go_wp2
    go_ret
    exact ⟨rfl, HB3.out.trans (hb4.mono HB3.out.size)⟩
  · rw [hm] at HM HR
    obtain ⟨x0, x1, n0, n1⟩ := may_bd c x n hm
    have HP := Lib.hid (fun V => put_yes c x n V c0 c1 x0 (by omega) hm)
    have HRP := Lib.hid (fun V => rput_any c x n V c0 c1 x0 (by omega))
    have HG := Lib.hid (fun s V => get_enc c x n s V c0 c1 hm)
    clear hm
    go_enter Try.func4, Try.ntmps4
    go_wp2_with fail
    refine (HP.out _).mono ?_
    rintro e v1 ⟨r, rfl, hr, hb1⟩
    have hd1 := (Blk.new w 24 #[.int .u8 c, .int .i64 x, .int .i64 n]).below hb1 (by simp)
    have HB1 : Hid (Below w.heap.size w v1) := ((Below.refl _ w).alloc (Nat.le_refl _) (.cells #[.int .u8 c, .int .i64 x, .int .i64 n] 24)).trans (hb1.mono (by simp))
    have p0 : v1.cell? ⟨w.heap.size, 0, none⟩ = some (.int .u8 c) := hd1.cell 0
    have p1 : v1.cell? ⟨w.heap.size, 1, none⟩ = some (.int .i64 x) := hd1.cell 1
    have p2 : v1.cell? ⟨w.heap.size, 2, none⟩ = some (.int .i64 n) := hd1.cell 2
    have HRr := Lib.hid hr
    clear hr hb1 HP
    go_wp2_with fail
    refine (HR.out _).mono ?_
    rintro e v2 ⟨rfl, hb2⟩
    have hd2 := hd1.below hb2 hd1.lt
    have HB2 : Hid (Below w.heap.size w v2) := HB1.out.trans (hb2.mono HB1.out.size)
    have p0' : v2.cell? ⟨w.heap.size, 0, none⟩ = some (.int .u8 c) := hd2.cell 0
    have p1' : v2.cell? ⟨w.heap.size, 1, none⟩ = some (.int .i64 x) := hd2.cell 1
    have p2' : v2.cell? ⟨w.heap.size, 2, none⟩ = some (.int .i64 n) := hd2.cell 2
    clear hb2 hd1 HB1 HR p0 p1 p2
    go_wp2_with fail
    refine (HM.out _).mono ?_
    rintro e v3 ⟨rfl, hb3⟩
    have hd3 := hd2.below hb3 hd2.lt
    have HB3 : Hid (Below w.heap.size w v3) := HB2.out.trans (hb3.mono HB2.out.size)
    clear hb3 hd2 HB2 HM p0' p1' p2'
    go_wp2_with fail
    refine (HG.out _ _ HRr.out).mono ?_
    rintro e v4 ⟨rfl, hb4⟩
    have hd4 := hd3.below hb4 hd3.lt
    have HB4 : Hid (Below w.heap.size w v4) := HB3.out.trans (hb4.mono HB3.out.size)
    have HD4 := Lib.hid hd4
    clear hb4 hd3 HB3 HG hd4
    go_wp2_with fail
    refine (live_any _).mono ?_
    rintro e v5 ⟨rfl, hb5⟩
    have hi5 := (Blk.new v4 24 #[.int .u8 c, .int .i64 x, .int .i64 n]).below hb5 (by simp)
    have hd5 := (HD4.out.alloc (.cells #[.int .u8 c, .int .i64 x, .int .i64 n] 24)).below hb5 (by have := HD4.out.lt; simp; omega)
    have HB5 : Hid (Below w.heap.size w v5) := (HB4.out.alloc HB4.out.size _).trans (hb5.mono (by have := HB4.out.size; simp; omega))
    have p0 : v5.cell? ⟨w.heap.size, 0, none⟩ = some (.int .u8 c) := hd5.cell 0
    have p1 : v5.cell? ⟨w.heap.size, 1, none⟩ = some (.int .i64 x) := hd5.cell 1
    have p2 : v5.cell? ⟨w.heap.size, 2, none⟩ = some (.int .i64 n) := hd5.cell 2
    clear hb5 HB4 HD4
    go_wp2_with fail
    refine (HRP.out _).mono ?_
    rintro e v6 ⟨r2, rfl, hr2, hb6⟩
    have hq := seq_true (HRr.out.trans hr2.symm)
    have hd6 := hd5.below hb6 hd5.lt
    have hi6 := hi5.below hb6 hi5.lt
    have HB6 : Hid (Below w.heap.size w v6) := HB5.out.trans (hb6.mono HB5.out.size)
    have p0' : v6.cell? ⟨w.heap.size, 0, none⟩ = some (.int .u8 c) := hd6.cell 0
    have p1' : v6.cell? ⟨w.heap.size, 1, none⟩ = some (.int .i64 x) := hd6.cell 1
    have p2' : v6.cell? ⟨w.heap.size, 2, none⟩ = some (.int .i64 n) := hd6.cell 2
    have o0 : v6.cell? ⟨v4.heap.size, 0, none⟩ = some (.int .u8 c) := hi6.cell 0
    have o1 : v6.cell? ⟨v4.heap.size, 1, none⟩ = some (.int .i64 x) := hi6.cell 1
    have o2 : v6.cell? ⟨v4.heap.size, 2, none⟩ = some (.int .i64 n) := hi6.cell 2
    clear hr2 hb6 hd5 hi5 hd6 hi6 HB5 HRr HRP p0 p1 p2
    go_wp2
    go_ret
    exact ⟨rfl, HB6.out⟩
end Co
end Go.Proofs.Ytkbgihlpnamfeaa
