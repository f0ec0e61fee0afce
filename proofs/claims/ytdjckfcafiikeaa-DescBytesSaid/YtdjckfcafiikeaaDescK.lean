/- The laws DescParses and DescBytes: their walks. -/
import Derived.Test.YtdjckfcafiikeaaDescI
import Derived.Test.YtdjckfcafiikeaaDescJ
import Derived.Test.YtdjckfcafiikeaaDescS
namespace Go.Proofs.Ytdjckfcafiikeaa
open Go.RowKit
attribute [local go_sem] Bw.and255 Bw.and65535
namespace De
open Sm Bi
open PlainAid (bt get_bt bt_nonneg bt_le)
theorem bt_def (s : ByteArray) (k : Nat) (h : k < s.size) : bt s k = ((s.data.toList.getD k 0).toNat : Int) := by
  rw [bt_get s k h]
  simp [List.getD_eq_getElem?_getD, h]
  rfl
theorem putL_two (x y : UInt8) : putL ((x.toNat : Int) + 256 * (y.toNat : Int)) = [x, y] := by
  have hx := x.toNat_lt
  have hy := y.toNat_lt
  unfold putL
  rw [show ((x.toNat : Int) + 256 * (y.toNat : Int)) % 256 = (x.toNat : Int) from by omega, show ((x.toNat : Int) + 256 * (y.toNat : Int)) / 256 % 256 = (y.toNat : Int) from by omega]
  simp
theorem take8 (l : List UInt8) (h : 8 ≤ l.length) : l.take 8 = [l.getD 0 0, l.getD 1 0, l.getD 2 0, l.getD 3 0, l.getD 4 0, l.getD 5 0, l.getD 6 0, l.getD 7 0] := by
  match l, h with
  | a :: b :: c :: d :: e :: f :: g :: i :: r, _ => rfl
theorem back_of (s : ByteArray) (hs : 8 ≤ s.size) : prOut (bt s 0) (bt s 1) (twoAt s 2) (twoAt s 4) (twoAt s 6) = s.data.toList.take 8 ∧ prErr (twoAt s 2) (twoAt s 4) (twoAt s 6) = 0 := by
  have h2 := twoAt_bd s 2
  have h4 := twoAt_bd s 4
  have h6 := twoAt_bd s 6
  have hok : prOk (twoAt s 2) (twoAt s 4) (twoAt s 6) = true := by
    unfold prOk in16
    rw [decide_eq_true h2, decide_eq_true h4, decide_eq_true h6]; rfl
  obtain ⟨e1, e2⟩ := out_ok (bt s 0) (bt s 1) (twoAt s 2) (twoAt s 4) (twoAt s 6) hok
  refine ⟨?_, e2⟩
  rw [e1, take8 _ (by simpa using hs)]
  unfold prL twoAt
  rw [bt_def s 0 (by omega), bt_def s 1 (by omega), bt_def s 2 (by omega), bt_def s (2 + 1) (by omega), bt_def s 4 (by omega), bt_def s (4 + 1) (by omega), bt_def s 6 (by omega), bt_def s (6 + 1) (by omega), putL_two, putL_two, putL_two]
  simp
theorem ext8 (s r : ByteArray) (_hs : 8 ≤ s.size) (h : r.data.toList = s.data.toList.take 8) : (r.toList == (s.extract 0 8).toList) = true := by
  refine seq_true ?_
  rw [h]
  simp
attribute [local irreducible] prOut prErr twoAt
set_option maxRecDepth 100000 in
set_option maxHeartbeats 1000000 in
theorem parses_few (s : ByteArray) (W : World) (hm : s.size ≤ 9223372036854775807) (hs : s.size < 8) : Calls Try.prog 6 #[.string s] W fun e W' => e = .returned (.bool true) ∧ Below W.heap.size W W' := by
  have HP := Lib.hid (fun V => parse_few s V hs hm)
  have HR := Lib.hid (fun V => rparse_few s V hs)
  go_enter Try.func6, Try.ntmps6
  go_wp2_with fail
  refine (HP.out _).mono ?_
  rintro e v1 ⟨rfl, hb1⟩
  go_wp2_with fail
  refine (HR.out _).mono ?_
  rintro e v2 ⟨rfl, hb2⟩
  have hd := (Blk.new v1 24 #[.int .u8 0, .int .u8 0, .int .i64 0, .int .i64 0, .int .i64 0]).below hb2 (by simp)
  have HB : Hid (Below W.heap.size W v2) := hb1.trans (((Below.refl _ v1).alloc (Nat.le_refl _) (.cells #[.int .u8 0, .int .u8 0, .int .i64 0, .int .i64 0, .int .i64 0] 24) |>.trans (hb2.mono (by simp))).mono hb1.size)
  have q0 := hd.cell 0
  have q1 := hd.cell 1
  have q2 := hd.cell 2
  have q3 := hd.cell 3
  have q4 := hd.cell 4
  have hlt := hd.lt
  clear hd hb1 hb2
  generalize v1.heap.size = bd at *
  go_wp2_with (go_at_call 8; refine (live_any _).mono ?_; rintro e v3 ⟨rfl, hb3⟩)
  go_ret
  exact ⟨rfl, (HB.out.alloc HB.out.size _).trans (hb3.mono (by have := HB.out.size; simp; omega))⟩
set_option maxRecDepth 100000 in
set_option maxHeartbeats 2000000 in
theorem parses_good (s : ByteArray) (W : World) (hm : s.size ≤ 9223372036854775807) (hs : 8 ≤ s.size) : Calls Try.prog 6 #[.string s] W fun e W' => e = .returned (.bool true) ∧ Below W.heap.size W W' := by
  have HP := Lib.hid (fun V => parse_good s V hs hm)
  have HR := Lib.hid (fun V => rparse_good s V hs hm)
  have HX := Lib.hid (fun r => ext8 s r hs)
  obtain ⟨o1, o2⟩ := back_of s hs
  have HW := Lib.hid (fun V => print_any (bt s 0) (bt s 1) (twoAt s 2) (twoAt s 4) (twoAt s 6) V (bt_nonneg s 0) (bt_le s 0) (bt_nonneg s 1) (bt_le s 1))
  rw [o1, o2] at HW
  clear o1 o2
  generalize bt s 0 = x0 at *
  generalize bt s 1 = x1 at *
  generalize twoAt s 2 = x2 at *
  generalize twoAt s 4 = x3 at *
  generalize twoAt s 6 = x4 at *
  go_enter Try.func6, Try.ntmps6
  go_wp2_with fail
  refine (HP.out _).mono ?_
  rintro e v1 ⟨rfl, hb1⟩
  go_wp2_with fail
  refine (HR.out _).mono ?_
  rintro e v2 ⟨rfl, hb2⟩
  have hd := (Blk.new v1 24 #[.int .u8 x0, .int .u8 x1, .int .i64 x2, .int .i64 x3, .int .i64 x4]).below hb2 (by simp)
  have HB : Hid (Below W.heap.size W v2) := hb1.trans (((Below.refl _ v1).alloc (Nat.le_refl _) (.cells #[.int .u8 x0, .int .u8 x1, .int .i64 x2, .int .i64 x3, .int .i64 x4] 24) |>.trans (hb2.mono (by simp))).mono hb1.size)
  have q0 := hd.cell 0
  have q1 := hd.cell 1
  have q2 := hd.cell 2
  have q3 := hd.cell 3
  have q4 := hd.cell 4
  have hlt := hd.lt
  clear hd hb1 hb2 HP HR
  generalize v1.heap.size = bd at *
  go_wp2_with fail
  refine (HW.out _).mono ?_
  rintro e v3 ⟨r, rfl, hr, hb3⟩
  have hx := HX.out r hr
  clear HX hr HW q0 q1 q2 q3 q4
  have hsl : (8 : Int) ≤ s.size := by omega
  go_wp2_with (go_at_call 8; refine (live_any _).mono ?_; rintro e v4 ⟨rfl, hb4⟩)
  go_ret
  exact ⟨rfl, ((HB.out.alloc HB.out.size _).trans (hb3.mono (by have := HB.out.size; simp; omega))).trans (hb4.mono (by have := HB.out.size; have := hb3.size; simp at this; omega))⟩
theorem parses_law (s : ByteArray) (W : World) (hm : s.size ≤ maxLen) : Calls Try.prog 6 #[.string s] W fun e W' => e = .returned (.bool true) ∧ Below W.heap.size W W' := by
  unfold maxLen at hm
  by_cases h : s.size < 8
  · exact parses_few s W hm h
  · exact parses_good s W hm (by omega)
theorem getD_of {s : ByteArray} {l : List UInt8} (h : s.data.toList = l) (k : Nat) (hk : k < l.length) : bt s k = ((l.getD k 0).toNat : Int) := by
  rw [bt_def s k (by rw [size_of s l h]; exact hk), h]
theorem byte_id (n : Int) (h0 : 0 ≤ n) (h1 : n ≤ 255) : ((UInt8.ofNat n.toNat).toNat : Int) = n := by
  simp
  omega
theorem putL_back (n : Int) (h : 0 ≤ n ∧ n ≤ 65535) : ((UInt8.ofNat (n % 256).toNat).toNat : Int) + 256 * ((UInt8.ofNat (n / 256 % 256).toNat).toNat : Int) = n := by
  rw [byte_id _ (by omega) (by omega), byte_id _ (by omega) (by omega)]
  omega
theorem back_in (w st a l g : Int) (w0 : 0 ≤ w) (w1 : w ≤ 255) (s0 : 0 ≤ st) (s1 : st ≤ 255) (hok : prOk a l g = true) (t : ByteArray) (ht : t.data.toList = prL w st a l g) :
    t.size = 8 ∧ bt t 0 = w ∧ bt t 1 = st ∧ twoAt t 2 = a ∧ twoAt t 4 = l ∧ twoAt t 6 = g := by
  have hok' : in16 a = true ∧ in16 l = true ∧ in16 g = true := by
    unfold prOk at hok
    simpa [and_assoc] using hok
  have ha := of_decide_eq_true hok'.1
  have hl := of_decide_eq_true hok'.2.1
  have hg := of_decide_eq_true hok'.2.2
  have hlen : (prL w st a l g).length = 8 := rfl
  refine ⟨by rw [size_of t _ ht, hlen], ?_, ?_, ?_, ?_, ?_⟩
  · rw [getD_of ht 0 (by rw [hlen]; decide)]; exact byte_id w w0 w1
  · rw [getD_of ht 1 (by rw [hlen]; decide)]; exact byte_id st s0 s1
  · unfold twoAt
    rw [getD_of ht 2 (by rw [hlen]; decide), getD_of ht (2 + 1) (by rw [hlen]; decide)]; exact putL_back a ha
  · unfold twoAt
    rw [getD_of ht 4 (by rw [hlen]; decide), getD_of ht (4 + 1) (by rw [hlen]; decide)]; exact putL_back l hl
  · unfold twoAt
    rw [getD_of ht 6 (by rw [hlen]; decide), getD_of ht (6 + 1) (by rw [hlen]; decide)]; exact putL_back g hg
theorem parse_back (w st a l g : Int) (w0 : 0 ≤ w) (w1 : w ≤ 255) (s0 : 0 ≤ st) (s1 : st ≤ 255) (hok : prOk a l g = true) (t : ByteArray) (ht : t.data.toList = prL w st a l g) (V : World) :
    Calls Try.prog 17 #[.string t] V (IsParse w st a l g 0 V) := by
  obtain ⟨hz, e0, e1, e2, e3, e4⟩ := back_in w st a l g w0 w1 s0 s1 hok t ht
  have := parse_good t V (by omega) (by omega)
  rw [e0, e1, e2, e3, e4] at this
  exact this
theorem pr_same {r t : ByteArray} {l : List UInt8} (h : r.data.toList = l) (h' : t.data.toList = l) : (r.toList == t.toList) = true := seq_true (h.trans h'.symm)
set_option maxRecDepth 100000 in
set_option maxHeartbeats 2000000 in
theorem bytes_bad (w st a l g : Int) (W : World) (w0 : 0 ≤ w) (w1 : w ≤ 255) (s0 : 0 ≤ st) (s1 : st ≤ 255) (hok : prOk a l g = false) :
    Calls Try.prog 5 #[.agg #[.int .u8 w, .int .u8 st, .int .i64 a, .int .i64 l, .int .i64 g]] W fun e W' => e = .returned (.bool true) ∧ Below W.heap.size W W' := by
  have HP := Lib.hid (fun V => print_any w st a l g V w0 w1 s0 s1)
  have HR := Lib.hid (fun V => rprint_any w st a l g V w0 w1 s0 s1)
  obtain ⟨o1, o2⟩ := out_bad w st a l g hok
  rw [o1, o2] at HP HR
  clear o1 o2 hok
  go_enter Try.func5, Try.ntmps5
  go_wp2_with fail
  refine (HP.out _).mono ?_
  rintro e v1 ⟨r, rfl, hr, hb1⟩
  have hd1 := (Blk.new W 24 #[.int .u8 w, .int .u8 st, .int .i64 a, .int .i64 l, .int .i64 g]).below hb1 (by simp)
  have HB1 : Hid (Below W.heap.size W v1) := ((Below.refl _ W).alloc (Nat.le_refl _) (.cells #[.int .u8 w, .int .u8 st, .int .i64 a, .int .i64 l, .int .i64 g] 24)).trans (hb1.mono (by simp))
  have HR1 := Lib.hid hr
  have q0 := hd1.cell 0
  have q1 := hd1.cell 1
  have q2 := hd1.cell 2
  have q3 := hd1.cell 3
  have q4 := hd1.cell 4
  have HD1 := Lib.hid hd1
  clear hr hd1 hb1 HP
  go_wp2_with fail
  refine (HR.out _).mono ?_
  rintro e v2 ⟨t, rfl, ht, hb2⟩
  have hsame := pr_same HR1.out ht
  have HB2 : Hid (Below W.heap.size W v2) := HB1.out.trans (hb2.mono HB1.out.size)
  clear q0 q1 q2 q3 q4 HD1 HB1 hb2 HR1 ht HR
  go_wp2_with (go_at_call 8; refine (live_any _).mono ?_; rintro e v3 ⟨rfl, hb3⟩)
  go_ret
  exact ⟨rfl, HB2.out.trans (hb3.mono HB2.out.size)⟩
set_option maxRecDepth 100000 in
set_option maxHeartbeats 2000000 in
theorem bytes_good (w st a l g : Int) (W : World) (w0 : 0 ≤ w) (w1 : w ≤ 255) (s0 : 0 ≤ st) (s1 : st ≤ 255) (hok : prOk a l g = true) :
    Calls Try.prog 5 #[.agg #[.int .u8 w, .int .u8 st, .int .i64 a, .int .i64 l, .int .i64 g]] W fun e W' => e = .returned (.bool true) ∧ Below W.heap.size W W' := by
  have HP := Lib.hid (fun V => print_any w st a l g V w0 w1 s0 s1)
  have HR := Lib.hid (fun V => rprint_any w st a l g V w0 w1 s0 s1)
  obtain ⟨o1, o2⟩ := out_ok w st a l g hok
  rw [o1, o2] at HP HR
  clear o1 o2
  have HC := Lib.hid (fun t ht V => parse_back w st a l g w0 w1 s0 s1 hok t ht V)
  clear hok
  go_enter Try.func5, Try.ntmps5
  go_wp2_with fail
  refine (HP.out _).mono ?_
  rintro e v1 ⟨r, rfl, hr, hb1⟩
  have hd1 := (Blk.new W 24 #[.int .u8 w, .int .u8 st, .int .i64 a, .int .i64 l, .int .i64 g]).below hb1 (by simp)
  have HB1 : Hid (Below W.heap.size W v1) := ((Below.refl _ W).alloc (Nat.le_refl _) (.cells #[.int .u8 w, .int .u8 st, .int .i64 a, .int .i64 l, .int .i64 g] 24)).trans (hb1.mono (by simp))
  have HR1 := Lib.hid hr
  have q0 := hd1.cell 0
  have q1 := hd1.cell 1
  have q2 := hd1.cell 2
  have q3 := hd1.cell 3
  have q4 := hd1.cell 4
  have HD1 := Lib.hid hd1
  clear hr hd1 hb1 HP
  go_wp2_with fail
  refine (HR.out _).mono ?_
  rintro e v2 ⟨t, rfl, ht, hb2⟩
  have hsame := pr_same HR1.out ht
  have HB2 : Hid (Below W.heap.size W v2) := HB1.out.trans (hb2.mono HB1.out.size)
  have HT := Lib.hid ht
  have hd2 := HD1.out.below hb2 HD1.out.lt
  clear q0 q1 q2 q3 q4 HD1 HB1 hb2 HR1 ht HR
  have HCC := Lib.hid (fun V => HC.out t HT.out V)
  clear HC
  go_wp2_with fail
  refine (HCC.out _).mono ?_
  clear HCC
  rintro e v3 ⟨rfl, hb3⟩
  have hd3 := hd2.below hb3 hd2.lt
  have HB3 : Hid (Below W.heap.size W v3) := HB2.out.trans (hb3.mono HB2.out.size)
  clear hd2 HB2 hb3 hsame
  have hd4 := hd3.alloc (.cells #[.int .u8 w, .int .u8 st, .int .i64 a, .int .i64 l, .int .i64 g] 24)
  have he4 := Blk.new v3 24 #[.int .u8 w, .int .u8 st, .int .i64 a, .int .i64 l, .int .i64 g]
  have HB4 : Hid (Below W.heap.size W (v3.alloc (.cells #[.int .u8 w, .int .u8 st, .int .i64 a, .int .i64 l, .int .i64 g] 24))) := HB3.out.alloc HB3.out.size _
  clear hd3 HB3
  go_wp2_with fail
  generalize v3.alloc (.cells #[.int .u8 w, .int .u8 st, .int .i64 a, .int .i64 l, .int .i64 g] 24) = v4 at *
  generalize v3.heap.size = be at *
  refine (live_any _).mono ?_
  rintro e v5 ⟨rfl, hb5⟩
  have hd5 := hd4.below hb5 hd4.lt
  have he5 := he4.below hb5 he4.lt
  have HB5 : Hid (Below W.heap.size W v5) := HB4.out.trans (hb5.mono HB4.out.size)
  clear hd4 he4 HB4 hb5
  have q0 := hd5.cell 0
  have q1 := hd5.cell 1
  have q2 := hd5.cell 2
  have q3 := hd5.cell 3
  have q4 := hd5.cell 4
  have p0 := he5.cell 0
  have p1 := he5.cell 1
  have p2 := he5.cell 2
  have p3 := he5.cell 3
  have p4 := he5.cell 4
  clear hd5 he5
  go_wp2
  go_ret
  exact ⟨rfl, HB5.out⟩
theorem bytes_law (w st a l g : Int) (W : World) (ww : (Lit.int .u8 w).wf = true) (wt : (Lit.int .u8 st).wf = true) (_ : (Lit.int .i64 a).wf = true) (_ : (Lit.int .i64 l).wf = true) (_ : (Lit.int .i64 g).wf = true) :
    Calls Try.prog 5 #[.agg #[.int .u8 w, .int .u8 st, .int .i64 a, .int .i64 l, .int .i64 g]] W fun e W' => e = .returned (.bool true) ∧ Below W.heap.size W W' := by
  obtain ⟨w0, w1⟩ := u8_bd ww
  obtain ⟨s0, s1⟩ := u8_bd wt
  cases h : prOk a l g
  · exact bytes_bad w st a l g W w0 w1 s0 s1 h
  · exact bytes_good w st a l g W w0 w1 s0 s1 h
end De
end Go.Proofs.Ytdjckfcafiikeaa
