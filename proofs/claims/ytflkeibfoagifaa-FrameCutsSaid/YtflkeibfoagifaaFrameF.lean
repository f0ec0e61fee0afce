/- The law FrameParses: its walk. -/
import Derived.Test.YtflkeibfoagifaaFrameE
namespace Go.Proofs.Ytflkeibfoagifaa
open Go.RowKit
attribute [local go_sem] Bw.and255 Bw.and65535
namespace Fr
open Sm Bi
open PlainAid (bt get_bt bt_nonneg bt_le)
attribute [local irreducible] prOut prErr pE dat forV
theorem same_data {r t : ByteArray} {l : List UInt8} (h : r.data.toList = l) (h' : t.data.toList = l) : (r.toList == t.toList) = true := seq_true (h.trans h'.symm)
set_option maxRecDepth 100000 in
set_option maxHeartbeats 2000000 in
theorem parses_bad (s : ByteArray) (mac : Int) (W : World) (hs : s.size ≤ 300) (h : pE s ≠ 0) :
    Calls Try.prog 5 #[.string s, .int .i64 mac] W fun e W' => e = .returned (.bool true) ∧ Below W.heap.size W W' := by
  have HP := Lib.hid (fun V => parse_bad s V (by omega) h)
  have HR := Lib.hid (fun V => rparse_bad s V (by omega) h)
  have HF := Lib.hid (fun V => for_any s mac V (by omega))
  have hv : forV s mac = false := by unfold forV; rw [decide_eq_false h]; rfl
  rw [hv] at HF
  have hne : (pE s == 0) = false := by simpa using h
  have hne2 : (pE s != 0) = true := by simpa using h
  have HX := Lib.hid h
  clear hv h
  generalize pE s = p at *
  go_enter Try.func5, Try.ntmps5
  go_wp2_with fail
  refine (HP.out _).mono ?_
  clear HP
  rintro e v1 ⟨r1, rfl, hr1, hb1⟩
  have hf := Blk.new v1 23 #[.int .i64 0, .int .i64 0, .string r1]
  have hB1 := hb1.alloc hb1.size (.cells #[.int .i64 0, .int .i64 0, .string r1] 23)
  clear hb1
  have hzz : W.heap.size ≤ v1.heap.size + 1 := by have := hB1.size; simpa using this
  go_wp2_with fail
  generalize v1.alloc (.cells #[.int .i64 0, .int .i64 0, .string r1] 23) = v2 at *
  generalize v1.heap.size = g1 at *
  refine (HR.out _).mono ?_
  clear HR
  rintro e v3 ⟨r2, rfl, hr2, hb3⟩
  have hf3 := hf.below hb3 hf.lt
  have hB3 := hB1.trans (hb3.mono hB1.size)
  have hsame := same_data hr1 hr2
  clear hf hB1 hb3 hr1 hr2
  have hf4 := hf3.alloc (.cells #[.int .i64 0, .int .i64 0, .string r2] 29)
  have hg4 := Blk.new v3 29 #[.int .i64 0, .int .i64 0, .string r2]
  have hB4 := hB3.alloc hB3.size (.cells #[.int .i64 0, .int .i64 0, .string r2] 29)
  clear hf3 hB3
  have q0 := hf4.cell 0
  have q1 := hf4.cell 1
  have q2 := hf4.cell 2
  go_wp2_with fail
  generalize v3.alloc (.cells #[.int .i64 0, .int .i64 0, .string r2] 29) = v4 at *
  generalize v3.heap.size = g2 at *
  refine (HF.out _).mono ?_
  clear HF
  rintro e v5 ⟨rfl, hb5⟩
  have hg5 := hg4.below hb5 hg4.lt
  have hB5 := hB4.trans (hb5.mono hB4.size)
  clear hf4 hg4 hB4 hb5 q0 q1 q2
  have p0 := hg5.cell 0
  have p1 := hg5.cell 1
  have p2 := hg5.cell 2
  clear hg5
  go_wp2_with (go_at_call 6; refine (live_any _).mono ?_; rintro e v6 ⟨rfl, hb6⟩)
  go_ret
  exact ⟨rfl, hB5.trans (hb6.mono hB5.size)⟩
set_option maxRecDepth 100000 in
set_option maxHeartbeats 2000000 in
theorem parses_good (s : ByteArray) (mac : Int) (W : World) (hs : s.size ≤ 300) (h : pE s = 0) :
    Calls Try.prog 5 #[.string s, .int .i64 mac] W fun e W' => e = .returned (.bool true) ∧ Below W.heap.size W W' := by
  have HP := Lib.hid (fun V => parse_good s V (by omega) h)
  have HR := Lib.hid (fun V => rparse_good s V (by omega) h)
  have HF := Lib.hid (fun V => for_any s mac V (by omega))
  have hv : forV s mac = (bt s 0 == mac) := by unfold forV; rw [decide_eq_true h]; rfl
  rw [hv] at HF
  have hrz : ∀ r : ByteArray, r.data.toList = dat s → r.size ≤ 300 := fun r hr => by
    have := good_facts s h
    rw [size_of r _ hr]
    unfold dat
    rw [List.length_drop, List.length_take]
    simp
    omega
  have HPR := Lib.hid (fun (r : ByteArray) (hr : r.data.toList = dat s) V => print_any (bt s 0) (bt s 1) r V (hrz r hr))
  have HBK := Lib.hid (fun r hr => back_print s r h hr)
  clear hv h hrz
  generalize bt s 0 = b0 at *
  generalize bt s 1 = b1 at *
  go_enter Try.func5, Try.ntmps5
  go_wp2_with fail
  refine (HP.out _).mono ?_
  clear HP
  rintro e v1 ⟨r1, rfl, hr1, hb1⟩
  have hf := Blk.new v1 23 #[.int .i64 b0, .int .i64 b1, .string r1]
  have hB1 := hb1.alloc hb1.size (.cells #[.int .i64 b0, .int .i64 b1, .string r1] 23)
  clear hb1
  have hzz : W.heap.size ≤ v1.heap.size + 1 := by have := hB1.size; simpa using this
  have HW := Lib.hid (HPR.out r1 hr1)
  rw [(HBK.out r1 hr1).1, (HBK.out r1 hr1).2] at HW
  clear HPR HBK
  go_wp2_with fail
  generalize v1.alloc (.cells #[.int .i64 b0, .int .i64 b1, .string r1] 23) = v2 at *
  generalize v1.heap.size = g1 at *
  refine (HR.out _).mono ?_
  clear HR
  rintro e v3 ⟨r2, rfl, hr2, hb3⟩
  have hf3 := hf.below hb3 hf.lt
  have hB3 := hB1.trans (hb3.mono hB1.size)
  have hsame := same_data hr1 hr2
  clear hf hB1 hb3 hr1 hr2
  have hf4 := hf3.alloc (.cells #[.int .i64 b0, .int .i64 b1, .string r2] 29)
  have hg4 := Blk.new v3 29 #[.int .i64 b0, .int .i64 b1, .string r2]
  have hB4 := hB3.alloc hB3.size (.cells #[.int .i64 b0, .int .i64 b1, .string r2] 29)
  clear hf3 hB3
  have q0 := hf4.cell 0
  have q1 := hf4.cell 1
  have q2 := hf4.cell 2
  go_wp2_with fail
  generalize v3.alloc (.cells #[.int .i64 b0, .int .i64 b1, .string r2] 29) = v4 at *
  generalize v3.heap.size = g2 at *
  refine (HF.out _).mono ?_
  clear HF
  rintro e v5 ⟨rfl, hb5⟩
  have hg5 := hg4.below hb5 hg4.lt
  have hf5 := hf4.below hb5 hf4.lt
  have hB5 := hB4.trans (hb5.mono hB4.size)
  clear hf4 hg4 hB4 hb5 q0 q1 q2
  have p0 := hg5.cell 0
  have p1 := hg5.cell 1
  have p2 := hg5.cell 2
  have q0 := hf5.cell 0
  have q1 := hf5.cell 1
  have q2 := hf5.cell 2
  clear hg5 hf5
  go_wp2_with fail
  refine (HW.out _).mono ?_
  clear HW
  rintro e v6 ⟨t, rfl, ht, hb6⟩
  have hts : (t.toList == s.toList) = true := seq_true ht
  have hB6 := hB5.trans (hb6.mono hB5.size)
  clear ht hb6 hB5 p0 p1 p2 q0 q1 q2
  go_wp2_with (go_at_call 6; refine (live_any _).mono ?_; rintro e v7 ⟨rfl, hb7⟩)
  go_ret
  exact ⟨rfl, hB6.trans (hb7.mono hB6.size)⟩
theorem parses_law (s : ByteArray) (mac : Int) (W : World) (_ : s.size ≤ maxLen) (_ : (Lit.int .i64 mac).wf = true) :
    Calls Try.prog 5 #[.string s, .int .i64 mac] W fun e W' => e = .returned (.bool true) ∧ Below W.heap.size W W' := by
  by_cases hs : s.size ≤ 300
  · by_cases h : pE s = 0
    · exact parses_good s mac W hs h
    · exact parses_bad s mac W hs h
  · have hl : 300 < s.size := by omega
    clear hs
    go_enter Try.func5, Try.ntmps5
    go_wp2_with (go_at_call 6; refine (live_any _).mono ?_; rintro e v7 ⟨rfl, hb7⟩)
    go_ret
    exact ⟨rfl, hb7⟩
end Fr
end Go.Proofs.Ytflkeibfoagifaa
