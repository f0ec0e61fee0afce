/- A frame as bytes: the program's Print and the reference's. Queues of campanile/frame.Frame: the first thing, that goes. A device: Take, Log, Send. A device: Log, Send. A frame as bytes: the reference's Print. -/
import Derived.Test.YtdbkgpnbmafpmaaZfAD
import Derived.Test.YtdbkgpnbmafpmaaZfAA
import Derived.Test.YtdbkgpnbmafpmaaZfAC
namespace Go.Proofs.Ytdbkgpnbmafpmaa
open Go.RowKit
attribute [local go_sem] Bw.and255 Bw.and65535
namespace Fr
open Sm Bi
def okB (n : Int) : Bool := decide (0 ≤ n ∧ n ≤ 255)
def frL (to fr : Int) (d : ByteArray) : List UInt8 := [UInt8.ofNat to.toNat, UInt8.ofNat fr.toNat, UInt8.ofNat d.size] ++ d.data.toList
def prOut (to fr : Int) (d : ByteArray) : List UInt8 := if okB to = true ∧ okB fr = true ∧ d.size ≤ 32 then Cw.sealL (frL to fr d) else []
def prErr (to fr : Int) (d : ByteArray) : Int := if okB to = true ∧ okB fr = true then (if d.size ≤ 32 then 0 else 4) else 2
theorem out_ok (to fr : Int) (d : ByteArray) (h1 : okB to = true) (h2 : okB fr = true) (h3 : d.size ≤ 32) : prOut to fr d = Cw.sealL (frL to fr d) ∧ prErr to fr d = 0 := by
  unfold prOut prErr; rw [if_pos ⟨h1, h2, h3⟩, if_pos ⟨h1, h2⟩, if_pos h3]; exact ⟨rfl, rfl⟩
theorem out_long (to fr : Int) (d : ByteArray) (h1 : okB to = true) (h2 : okB fr = true) (h3 : ¬ d.size ≤ 32) : prOut to fr d = [] ∧ prErr to fr d = 4 := by
  unfold prOut prErr; rw [if_neg (fun h => h3 h.2.2), if_pos ⟨h1, h2⟩, if_neg h3]; exact ⟨rfl, rfl⟩
theorem out_bad (to fr : Int) (d : ByteArray) (h : ¬ (okB to = true ∧ okB fr = true)) : prOut to fr d = [] ∧ prErr to fr d = 2 := by
  unfold prOut prErr; rw [if_neg (fun hh => h ⟨hh.1, hh.2.1⟩), if_neg h]; exact ⟨rfl, rfl⟩
def IsPr (l : List UInt8) (n : Int) (W : World) (e : Ending) (W' : World) : Prop := ∃ r : ByteArray, e = .returned (.tuple #[.string r, .int .i64 n]) ∧ r.data.toList = l ∧ Below W.heap.size W W'
theorem wbyte_ok (base bw : Nat) (n : Int) (l : List UInt8) (w : World) (h : Wt w base bw 0 l) (hbase : base ≤ bw) (hw : base ≤ w.heap.size) (hl : l.length ≤ 1000000) (h0 : okB n = true) :
    Calls Try.prog 48 #[.pointer (some ⟨bw, 0, none⟩), .int .i64 n] w (IsWt base bw 0 (l ++ [UInt8.ofNat n.toNat]) w) := by
  have h1 := of_decide_eq_true h0
  have := wbyte_any base bw 0 n l w h hbase hw hl
  rw [if_pos rfl, if_pos h1, if_pos ⟨rfl, h1⟩] at this
  exact this
theorem wbyte_bad (base bw : Nat) (n : Int) (l : List UInt8) (w : World) (h : Wt w base bw 0 l) (hbase : base ≤ bw) (hw : base ≤ w.heap.size) (hl : l.length ≤ 1000000) (h0 : okB n = false) :
    Calls Try.prog 48 #[.pointer (some ⟨bw, 0, none⟩), .int .i64 n] w (IsWt base bw 2 l w) := by
  have h1 := of_decide_eq_false h0
  have := wbyte_any base bw 0 n l w h hbase hw hl
  rw [if_pos rfl, if_neg h1, if_neg (fun hh => h1 hh.2)] at this
  exact this
theorem wbyte_old (base bw : Nat) (n : Int) (l : List UInt8) (w : World) (h : Wt w base bw 2 l) (hbase : base ≤ bw) (hw : base ≤ w.heap.size) (hl : l.length ≤ 1000000) :
    Calls Try.prog 48 #[.pointer (some ⟨bw, 0, none⟩), .int .i64 n] w (IsWt base bw 2 l w) := by
  have := wbyte_any base bw 2 n l w h hbase hw hl
  rw [if_neg (by decide), if_neg (by simp)] at this
  exact this
theorem wt_new (w : World) (base : Nat) (_hb : base ≤ w.heap.size) : Wt (w.alloc (.cells #[.int .i64 0, .slice none 0 0] 102)) base w.heap.size 0 [] :=
  ⟨none, 0, Blk.new _ _ _, rfl, .inl ⟨rfl, rfl⟩⟩
theorem wtext_ok (base bw : Nat) (s : ByteArray) (l : List UInt8) (w : World) (h : Wt w base bw 0 l) (hbase : base ≤ bw) (hw : base ≤ w.heap.size) (hl : l.length ≤ 1000000) (hs : s.size ≤ 1000000) :
    Calls Try.prog 50 #[.pointer (some ⟨bw, 0, none⟩), .string s] w (IsWt base bw 0 (l ++ s.data.toList) w) := by
  have := wtext_any base bw 0 s l w h hbase hw hl hs
  rw [if_pos rfl] at this
  exact this
theorem wbytes_ok (base bw : Nat) (l : List UInt8) (w : World) (h : Wt w base bw 0 l) :
    Calls Try.prog 52 #[.pointer (some ⟨bw, 0, none⟩)] w fun e w' => e = .returned (.string ⟨l.toArray⟩) ∧ w = w' := wbytes_any base bw 0 l w h
theorem seal_l (l : List UInt8) (V : World) (h : l.length ≤ 400) : Calls Try.prog 51 #[.string ⟨l.toArray⟩] V (Cw.IsText (Cw.sealL l) V) := by
  have := Cw.seal_any ⟨l.toArray⟩ V (by show l.toArray.size ≤ 400; simpa using h)
  simpa using this
set_option maxRecDepth 100000 in
set_option maxHeartbeats 1000000 in
theorem print_bad1 (to fr : Int) (d : ByteArray) (W : World) (_hd : d.size ≤ 300) (h1 : okB to = false) :
    Calls Try.prog 34 #[.agg #[.int .i64 to, .int .i64 fr, .string d]] W (IsPr (prOut to fr d) (prErr to fr d) W) := by
  obtain ⟨o1, o2⟩ := out_bad to fr d (by rw [h1]; simp)
  rw [o1, o2]
  clear o1 o2
  go_enter Try.func34, Try.ntmps34
  go_wp2_with fail
  have hD : Blk ((W.alloc (.cells #[.int .i64 to, .int .i64 fr, .string d] 39)).alloc (.cells #[.int .i64 0, .slice none 0 0] 102)) W.heap.size 39 #[.int .i64 to, .int .i64 fr, .string d] := (Blk.new _ _ _).alloc _
  have hW := wt_new (W.alloc (.cells #[.int .i64 to, .int .i64 fr, .string d] 39)) (W.heap.size + 1) (by simp)
  have hB : Below W.heap.size W ((W.alloc (.cells #[.int .i64 to, .int .i64 fr, .string d] 39)).alloc (.cells #[.int .i64 0, .slice none 0 0] 102)) := ((Below.refl _ W).alloc (Nat.le_refl _) _).alloc (by simp) _
  have hz : (W.alloc (.cells #[.int .i64 to, .int .i64 fr, .string d] 39)).heap.size = W.heap.size + 1 := by simp
  have hz0 : W.heap.size + 1 ≤ ((W.alloc (.cells #[.int .i64 to, .int .i64 fr, .string d] 39)).alloc (.cells #[.int .i64 0, .slice none 0 0] 102)).heap.size := by simp
  rw [hz] at hW
  clear hz
  generalize hbd : W.heap.size = bd at *
  have HBD := Lib.hid hbd
  clear hbd
  generalize (W.alloc (.cells #[.int .i64 to, .int .i64 fr, .string d] 39)).alloc (.cells #[.int .i64 0, .slice none 0 0] 102) = v0 at *
  have hbase : bd + 1 ≤ bd + 1 := Nat.le_refl _
  have q0 := hD.cell 0
  have q1 := hD.cell 1
  have q2 := hD.cell 2
  have HC := Lib.hid (wbyte_bad (bd + 1) (bd + 1) to _ _ hW hbase hz0 (by decide) h1)
  clear hW
  go_wp2_with fail
  refine HC.out.mono ?_
  clear HC
  rintro e v1 ⟨rfl, hW, hb, hzz⟩
  have hD' := hD.below hb (by omega)
  clear hD q0 q1 q2
  have hD := hD'
  clear hD'
  have hB' := hB.trans (hb.mono (by omega))
  clear hB hb
  have hB := hB'
  clear hB'
  have hz0' : bd + 1 ≤ v1.heap.size := by omega
  clear hz0 hzz
  have hz0 := hz0'
  clear hz0'
  have q0 := hD.cell 0
  have q1 := hD.cell 1
  have q2 := hD.cell 2
  have HC := Lib.hid (wbyte_old (bd + 1) (bd + 1) fr _ _ hW hbase hz0 (by decide))
  clear hW
  go_wp2_with fail
  refine HC.out.mono ?_
  clear HC
  rintro e v2 ⟨rfl, hW, hb, hzz⟩
  have hD' := hD.below hb (by omega)
  clear hD q0 q1 q2
  have hD := hD'
  clear hD'
  have hB' := hB.trans (hb.mono (by omega))
  clear hB hb
  have hB := hB'
  clear hB'
  have hz0' : bd + 1 ≤ v2.heap.size := by omega
  clear hz0 hzz
  have hz0 := hz0'
  clear hz0'
  have HC := Lib.hid (werr_any (bd + 1) (bd + 1) _ _ _ hW)
  go_wp2_with fail
  refine HC.out.mono ?_
  clear HC
  rintro e v9 ⟨rfl, rfl⟩
  clear hW
  go_wp2
  go_ret2
  exact ⟨⟨#[]⟩, rfl, rfl, by rw [HBD.out]; exact hB⟩
set_option maxRecDepth 100000 in
set_option maxHeartbeats 1000000 in
theorem print_bad2 (to fr : Int) (d : ByteArray) (W : World) (_hd : d.size ≤ 300) (h1 : okB to = true) (h2 : okB fr = false) :
    Calls Try.prog 34 #[.agg #[.int .i64 to, .int .i64 fr, .string d]] W (IsPr (prOut to fr d) (prErr to fr d) W) := by
  obtain ⟨o1, o2⟩ := out_bad to fr d (by rw [h2]; simp)
  rw [o1, o2]
  clear o1 o2
  go_enter Try.func34, Try.ntmps34
  go_wp2_with fail
  have hD : Blk ((W.alloc (.cells #[.int .i64 to, .int .i64 fr, .string d] 39)).alloc (.cells #[.int .i64 0, .slice none 0 0] 102)) W.heap.size 39 #[.int .i64 to, .int .i64 fr, .string d] := (Blk.new _ _ _).alloc _
  have hW := wt_new (W.alloc (.cells #[.int .i64 to, .int .i64 fr, .string d] 39)) (W.heap.size + 1) (by simp)
  have hB : Below W.heap.size W ((W.alloc (.cells #[.int .i64 to, .int .i64 fr, .string d] 39)).alloc (.cells #[.int .i64 0, .slice none 0 0] 102)) := ((Below.refl _ W).alloc (Nat.le_refl _) _).alloc (by simp) _
  have hz : (W.alloc (.cells #[.int .i64 to, .int .i64 fr, .string d] 39)).heap.size = W.heap.size + 1 := by simp
  have hz0 : W.heap.size + 1 ≤ ((W.alloc (.cells #[.int .i64 to, .int .i64 fr, .string d] 39)).alloc (.cells #[.int .i64 0, .slice none 0 0] 102)).heap.size := by simp
  rw [hz] at hW
  clear hz
  generalize hbd : W.heap.size = bd at *
  have HBD := Lib.hid hbd
  clear hbd
  generalize (W.alloc (.cells #[.int .i64 to, .int .i64 fr, .string d] 39)).alloc (.cells #[.int .i64 0, .slice none 0 0] 102) = v0 at *
  have hbase : bd + 1 ≤ bd + 1 := Nat.le_refl _
  have q0 := hD.cell 0
  have q1 := hD.cell 1
  have q2 := hD.cell 2
  have HC := Lib.hid (wbyte_ok (bd + 1) (bd + 1) to _ _ hW hbase hz0 (by decide) h1)
  clear hW
  go_wp2_with fail
  refine HC.out.mono ?_
  clear HC
  rintro e v1 ⟨rfl, hW, hb, hzz⟩
  have hD' := hD.below hb (by omega)
  clear hD q0 q1 q2
  have hD := hD'
  clear hD'
  have hB' := hB.trans (hb.mono (by omega))
  clear hB hb
  have hB := hB'
  clear hB'
  have hz0' : bd + 1 ≤ v1.heap.size := by omega
  clear hz0 hzz
  have hz0 := hz0'
  clear hz0'
  have q0 := hD.cell 0
  have q1 := hD.cell 1
  have q2 := hD.cell 2
  have HC := Lib.hid (wbyte_bad (bd + 1) (bd + 1) fr _ _ hW hbase hz0 (by simp) h2)
  clear hW
  go_wp2_with fail
  refine HC.out.mono ?_
  clear HC
  rintro e v2 ⟨rfl, hW, hb, hzz⟩
  have hD' := hD.below hb (by omega)
  clear hD q0 q1 q2
  have hD := hD'
  clear hD'
  have hB' := hB.trans (hb.mono (by omega))
  clear hB hb
  have hB := hB'
  clear hB'
  have hz0' : bd + 1 ≤ v2.heap.size := by omega
  clear hz0 hzz
  have hz0 := hz0'
  clear hz0'
  have HC := Lib.hid (werr_any (bd + 1) (bd + 1) _ _ _ hW)
  go_wp2_with fail
  refine HC.out.mono ?_
  clear HC
  rintro e v9 ⟨rfl, rfl⟩
  clear hW
  go_wp2
  go_ret2
  exact ⟨⟨#[]⟩, rfl, rfl, by rw [HBD.out]; exact hB⟩
set_option maxRecDepth 100000 in
set_option maxHeartbeats 1000000 in
theorem print_long (to fr : Int) (d : ByteArray) (W : World) (hd : d.size ≤ 300) (h1 : okB to = true) (h2 : okB fr = true) (h3 : 32 < d.size) :
    Calls Try.prog 34 #[.agg #[.int .i64 to, .int .i64 fr, .string d]] W (IsPr (prOut to fr d) (prErr to fr d) W) := by
  obtain ⟨o1, o2⟩ := out_long to fr d h1 h2 (by omega)
  rw [o1, o2]
  clear o1 o2
  go_enter Try.func34, Try.ntmps34
  go_wp2_with fail
  have hD : Blk ((W.alloc (.cells #[.int .i64 to, .int .i64 fr, .string d] 39)).alloc (.cells #[.int .i64 0, .slice none 0 0] 102)) W.heap.size 39 #[.int .i64 to, .int .i64 fr, .string d] := (Blk.new _ _ _).alloc _
  have hW := wt_new (W.alloc (.cells #[.int .i64 to, .int .i64 fr, .string d] 39)) (W.heap.size + 1) (by simp)
  have hB : Below W.heap.size W ((W.alloc (.cells #[.int .i64 to, .int .i64 fr, .string d] 39)).alloc (.cells #[.int .i64 0, .slice none 0 0] 102)) := ((Below.refl _ W).alloc (Nat.le_refl _) _).alloc (by simp) _
  have hz : (W.alloc (.cells #[.int .i64 to, .int .i64 fr, .string d] 39)).heap.size = W.heap.size + 1 := by simp
  have hz0 : W.heap.size + 1 ≤ ((W.alloc (.cells #[.int .i64 to, .int .i64 fr, .string d] 39)).alloc (.cells #[.int .i64 0, .slice none 0 0] 102)).heap.size := by simp
  rw [hz] at hW
  clear hz
  generalize hbd : W.heap.size = bd at *
  have HBD := Lib.hid hbd
  clear hbd
  generalize (W.alloc (.cells #[.int .i64 to, .int .i64 fr, .string d] 39)).alloc (.cells #[.int .i64 0, .slice none 0 0] 102) = v0 at *
  have hbase : bd + 1 ≤ bd + 1 := Nat.le_refl _
  have q0 := hD.cell 0
  have q1 := hD.cell 1
  have q2 := hD.cell 2
  have HC := Lib.hid (wbyte_ok (bd + 1) (bd + 1) to _ _ hW hbase hz0 (by decide) h1)
  clear hW
  go_wp2_with fail
  refine HC.out.mono ?_
  clear HC
  rintro e v1 ⟨rfl, hW, hb, hzz⟩
  have hD' := hD.below hb (by omega)
  clear hD q0 q1 q2
  have hD := hD'
  clear hD'
  have hB' := hB.trans (hb.mono (by omega))
  clear hB hb
  have hB := hB'
  clear hB'
  have hz0' : bd + 1 ≤ v1.heap.size := by omega
  clear hz0 hzz
  have hz0 := hz0'
  clear hz0'
  have q0 := hD.cell 0
  have q1 := hD.cell 1
  have q2 := hD.cell 2
  have HC := Lib.hid (wbyte_ok (bd + 1) (bd + 1) fr _ _ hW hbase hz0 (by simp) h2)
  clear hW
  go_wp2_with fail
  refine HC.out.mono ?_
  clear HC
  rintro e v2 ⟨rfl, hW, hb, hzz⟩
  have hD' := hD.below hb (by omega)
  clear hD q0 q1 q2
  have hD := hD'
  clear hD'
  have hB' := hB.trans (hb.mono (by omega))
  clear hB hb
  have hB := hB'
  clear hB'
  have hz0' : bd + 1 ≤ v2.heap.size := by omega
  clear hz0 hzz
  have hz0 := hz0'
  clear hz0'
  have HC := Lib.hid (werr_any (bd + 1) (bd + 1) _ _ _ hW)
  go_wp2_with fail
  refine HC.out.mono ?_
  clear HC
  rintro e v9 ⟨rfl, rfl⟩
  have q2 := hD.cell 2
  clear hW
  go_wp2
  go_ret2
  exact ⟨⟨#[]⟩, rfl, rfl, by rw [HBD.out]; exact hB⟩
set_option maxRecDepth 100000 in
set_option maxHeartbeats 1000000 in
theorem print_ok (to fr : Int) (d : ByteArray) (W : World) (hd : d.size ≤ 300) (h1 : okB to = true) (h2 : okB fr = true) (h3 : d.size ≤ 32) :
    Calls Try.prog 34 #[.agg #[.int .i64 to, .int .i64 fr, .string d]] W (IsPr (prOut to fr d) (prErr to fr d) W) := by
  obtain ⟨o1, o2⟩ := out_ok to fr d h1 h2 h3
  rw [o1, o2]
  clear o1 o2
  go_enter Try.func34, Try.ntmps34
  go_wp2_with fail
  have hD : Blk ((W.alloc (.cells #[.int .i64 to, .int .i64 fr, .string d] 39)).alloc (.cells #[.int .i64 0, .slice none 0 0] 102)) W.heap.size 39 #[.int .i64 to, .int .i64 fr, .string d] := (Blk.new _ _ _).alloc _
  have hW := wt_new (W.alloc (.cells #[.int .i64 to, .int .i64 fr, .string d] 39)) (W.heap.size + 1) (by simp)
  have hB : Below W.heap.size W ((W.alloc (.cells #[.int .i64 to, .int .i64 fr, .string d] 39)).alloc (.cells #[.int .i64 0, .slice none 0 0] 102)) := ((Below.refl _ W).alloc (Nat.le_refl _) _).alloc (by simp) _
  have hz : (W.alloc (.cells #[.int .i64 to, .int .i64 fr, .string d] 39)).heap.size = W.heap.size + 1 := by simp
  have hz0 : W.heap.size + 1 ≤ ((W.alloc (.cells #[.int .i64 to, .int .i64 fr, .string d] 39)).alloc (.cells #[.int .i64 0, .slice none 0 0] 102)).heap.size := by simp
  rw [hz] at hW
  clear hz
  generalize hbd : W.heap.size = bd at *
  have HBD := Lib.hid hbd
  clear hbd
  generalize (W.alloc (.cells #[.int .i64 to, .int .i64 fr, .string d] 39)).alloc (.cells #[.int .i64 0, .slice none 0 0] 102) = v0 at *
  have hbase : bd + 1 ≤ bd + 1 := Nat.le_refl _
  have q0 := hD.cell 0
  have q1 := hD.cell 1
  have q2 := hD.cell 2
  have HC := Lib.hid (wbyte_ok (bd + 1) (bd + 1) to _ _ hW hbase hz0 (by decide) h1)
  clear hW
  go_wp2_with fail
  refine HC.out.mono ?_
  clear HC
  rintro e v1 ⟨rfl, hW, hb, hzz⟩
  have hD' := hD.below hb (by omega)
  clear hD q0 q1 q2
  have hD := hD'
  clear hD'
  have hB' := hB.trans (hb.mono (by omega))
  clear hB hb
  have hB := hB'
  clear hB'
  have hz0' : bd + 1 ≤ v1.heap.size := by omega
  clear hz0 hzz
  have hz0 := hz0'
  clear hz0'
  have q0 := hD.cell 0
  have q1 := hD.cell 1
  have q2 := hD.cell 2
  have HC := Lib.hid (wbyte_ok (bd + 1) (bd + 1) fr _ _ hW hbase hz0 (by simp) h2)
  clear hW
  go_wp2_with fail
  refine HC.out.mono ?_
  clear HC
  rintro e v2 ⟨rfl, hW, hb, hzz⟩
  have hD' := hD.below hb (by omega)
  clear hD q0 q1 q2
  have hD := hD'
  clear hD'
  have hB' := hB.trans (hb.mono (by omega))
  clear hB hb
  have hB := hB'
  clear hB'
  have hz0' : bd + 1 ≤ v2.heap.size := by omega
  clear hz0 hzz
  have hz0 := hz0'
  clear hz0'
  have HC := Lib.hid (werr_any (bd + 1) (bd + 1) _ _ _ hW)
  go_wp2_with fail
  refine HC.out.mono ?_
  clear HC
  rintro e v9 ⟨rfl, rfl⟩
  have q0 := hD.cell 0
  have q1 := hD.cell 1
  have q2 := hD.cell 2
  have HC := Lib.hid (wbyte_ok (bd + 1) (bd + 1) (d.size : Int) _ _ hW hbase hz0 (by simp) (by unfold okB; simp; omega))
  clear hW
  go_wp2_with fail
  refine HC.out.mono ?_
  clear HC
  rintro e v3 ⟨rfl, hW, hb, hzz⟩
  have hD' := hD.below hb (by omega)
  clear hD q0 q1 q2
  have hD := hD'
  clear hD'
  have hB' := hB.trans (hb.mono (by omega))
  clear hB hb
  have hB := hB'
  clear hB'
  have hz0' : bd + 1 ≤ v3.heap.size := by omega
  clear hz0 hzz
  have hz0 := hz0'
  clear hz0'
  have q0 := hD.cell 0
  have q1 := hD.cell 1
  have q2 := hD.cell 2
  have HC := Lib.hid (wtext_ok (bd + 1) (bd + 1) d _ _ hW hbase hz0 (by simp) (by omega))
  clear hW
  go_wp2_with fail
  refine HC.out.mono ?_
  clear HC
  rintro e v4 ⟨rfl, hW, hb, hzz⟩
  have hD' := hD.below hb (by omega)
  clear hD q0 q1 q2
  have hD := hD'
  clear hD'
  have hB' := hB.trans (hb.mono (by omega))
  clear hB hb
  have hB := hB'
  clear hB'
  have hz0' : bd + 1 ≤ v4.heap.size := by omega
  clear hz0 hzz
  have hz0 := hz0'
  clear hz0'
  have hW' : Wt v4 (bd + 1) (bd + 1) 0 (frL to fr d) := by
    have := hW
    simpa [frL] using this
  have HC := Lib.hid (wbytes_ok (bd + 1) (bd + 1) _ _ hW')
  have HL := Lib.hid (fun V => seal_l (frL to fr d) V (by simp [frL]; omega))
  clear hW hW' hD
  generalize frL to fr d = l at *
  generalize Cw.sealL l = t at *
  go_wp2_with fail
  refine HC.out.mono ?_
  clear HC
  rintro e v5 ⟨rfl, rfl⟩
  go_wp2_with fail
  refine (HL.out _).mono ?_
  clear HL
  rintro e v6 ⟨r, rfl, hr, hb⟩
  have HR := Lib.hid hr
  clear hr
  go_wp2
  go_ret2
  exact ⟨r, rfl, HR.out, by rw [HBD.out]; exact hB.trans (hb.mono (by omega))⟩
theorem print_any (to fr : Int) (d : ByteArray) (W : World) (hd : d.size ≤ 300) :
    Calls Try.prog 34 #[.agg #[.int .i64 to, .int .i64 fr, .string d]] W (IsPr (prOut to fr d) (prErr to fr d) W) := by
  cases h1 : okB to
  · exact print_bad1 to fr d W hd h1
  · cases h2 : okB fr
    · exact print_bad2 to fr d W hd h1 h2
    · by_cases h3 : d.size ≤ 32
      · exact print_ok to fr d W hd h1 h2 h3
      · exact print_long to fr d W hd h1 h2 (by omega)
end Fr
end Go.Proofs.Ytdbkgpnbmafpmaa
namespace Go.Proofs.Ytdbkgpnbmafpmaa
open Go.RowKit
namespace FiF
open Sm
def IsPop (g r : Nat) (x : It) (l : List It) (lim dr : Int) (w : World) (e : Ending) (w' : World) : Prop :=
  e = .returned (.tuple #[val x, .bool true]) ∧ Qu w' g r l lim dr ∧ Keeps [g, r] w w'
attribute [local irreducible] cs
theorem pop_none (g r : Nat) (lim dr : Int) (w : World) (h : Qu w g r [] lim dr) :
    Calls Try.prog 33 #[.pointer (some ⟨g, 0, none⟩)] w (IsV (.tuple #[val z, .bool false]) w) := by
  have hk0 : Keeps [] w (w.alloc (.cells #[.int .i64 0, .int .i64 0, .string ⟨#[]⟩] 39)) := (Keeps.refl [] w).alloc _
  have HP := Lib.hid (peek_out g r [] lim dr 0 _ (h.kp hk0) (by simp))
  clear h
  go_enter Try.func33, Try.ntmps33
  go_wp2_with fail
  refine HP.out.mono ?_
  rintro e w1 ⟨rfl, hk1⟩
  have hB := (Blk.new w 39 #[.int .i64 0, .int .i64 0, .string ⟨#[]⟩]).keeps hk1 (by simp)
  have hwl : w.heap.size < w1.heap.size := by have := hk1.size; simp at this; omega
  have hk1' := hk0.trans hk1
  go_wp2_with (first | (refine wpList_store_blk rfl _ _ rfl w1.heap.size #[.int .i64 0, .int .i64 0, .string ⟨#[]⟩] z rfl rfl (Blk.new w1 39 #[.int .i64 0, .int .i64 0, .string ⟨#[]⟩]) rfl ?_; intro w2 h4 hk4) | (refine wpList_load_blk rfl _ rfl w1.heap.size z rfl h4 ?_) | (refine wpList_store_blk rfl _ _ rfl w.heap.size #[.int .i64 0, .int .i64 0, .string ⟨#[]⟩] z rfl rfl ((hB.alloc _).keeps hk4 (by simp; omega)) rfl ?_; intro w3 h5 hk5))
  refine bodyPost_ret (results_cell2 rfl _ _ _ rfl (load_blk z h5)) rfl ?_
  exact ⟨rfl, (((hk1'.alloc _).next hk4 (by simp; omega)).next hk5 (by simp))⟩
theorem pop_nil (w : World) : Calls Try.prog 33 #[.pointer none] w (IsV (.tuple #[val z, .bool false]) w) := by
  have hk0 : Keeps [] w (w.alloc (.cells #[.int .i64 0, .int .i64 0, .string ⟨#[]⟩] 39)) := (Keeps.refl [] w).alloc _
  have HP := Lib.hid (peek_nil 0 (w.alloc (.cells #[.int .i64 0, .int .i64 0, .string ⟨#[]⟩] 39)))
  go_enter Try.func33, Try.ntmps33
  go_wp2_with fail
  refine HP.out.mono ?_
  rintro e w1 ⟨rfl, hk1⟩
  have hB := (Blk.new w 39 #[.int .i64 0, .int .i64 0, .string ⟨#[]⟩]).keeps hk1 (by simp)
  have hwl : w.heap.size < w1.heap.size := by have := hk1.size; simp at this; omega
  have hk1' := hk0.trans hk1
  go_wp2_with (first | (refine wpList_store_blk rfl _ _ rfl w1.heap.size #[.int .i64 0, .int .i64 0, .string ⟨#[]⟩] z rfl rfl (Blk.new w1 39 #[.int .i64 0, .int .i64 0, .string ⟨#[]⟩]) rfl ?_; intro w2 h4 hk4) | (refine wpList_load_blk rfl _ rfl w1.heap.size z rfl h4 ?_) | (refine wpList_store_blk rfl _ _ rfl w.heap.size #[.int .i64 0, .int .i64 0, .string ⟨#[]⟩] z rfl rfl ((hB.alloc _).keeps hk4 (by simp; omega)) rfl ?_; intro w3 h5 hk5))
  refine bodyPost_ret (results_cell2 rfl _ _ _ rfl (load_blk z h5)) rfl ?_
  exact ⟨rfl, (((hk1'.alloc _).next hk4 (by simp; omega)).next hk5 (by simp))⟩
theorem place_next (f i len : Nat) (_h : 0 < len) : ((f + 1) % len + i) % len = (f + (i + 1)) % len := by
  rw [Nat.mod_add_mod]; congr 1; omega
theorem place_ne (f i len : Nat) (hf : f < len) (hi : i + 1 < len) : (f + (i + 1)) % len ≠ f := by
  intro e
  by_cases h : f + (i + 1) < len
  · rw [Nat.mod_eq_of_lt h] at e; omega
  · rw [Nat.mod_eq_sub_mod (by omega), Nat.mod_eq_of_lt (by omega)] at e; omega
set_option maxRecDepth 100000 in
set_option maxHeartbeats 1000000 in
theorem pop_some (g r : Nat) (x : It) (t : List It) (lim dr : Int) (w : World) (h : Qu w g r (x :: t) lim dr) :
    Calls Try.prog 33 #[.pointer (some ⟨g, 0, none⟩)] w (IsPop g r x t lim dr w) := by
  have hk0 : Keeps [] w (w.alloc (.cells #[.int .i64 0, .int .i64 0, .string ⟨#[]⟩] 39)) := (Keeps.refl [] w).alloc _
  have HP := Lib.hid (peek_in g r (x :: t) lim dr 0 x _ (h.kp hk0) rfl)
  obtain ⟨hgl, hrl⟩ := h.lt
  have HQ := Lib.hid h
  clear h
  go_enter Try.func33, Try.ntmps33
  go_wp2_with fail
  refine HP.out.mono ?_
  rintro e v1 ⟨rfl, hk1⟩
  have hB := (Blk.new w 39 #[.int .i64 0, .int .i64 0, .string ⟨#[]⟩]).keeps hk1 (by simp)
  have hwl : w.heap.size < v1.heap.size := by have := hk1.size; simp at this; omega
  have hk1' := hk0.trans hk1
  clear hk0 hk1 HP
  go_wp2_with (first | (refine wpList_store_blk rfl _ _ rfl v1.heap.size #[.int .i64 0, .int .i64 0, .string ⟨#[]⟩] x rfl rfl (Blk.new v1 39 #[.int .i64 0, .int .i64 0, .string ⟨#[]⟩]) rfl ?_; intro v2 h4 hk4))
  have hz2 : v1.heap.size < v2.heap.size := by have := hk4.size; simp at this; omega
  have hB2 := (hB.alloc (.cells #[.int .i64 0, .int .i64 0, .string ⟨#[]⟩] 39)).keeps hk4 (by simp; omega)
  have hkV := ((((hk1'.alloc (.cells #[.int .i64 0, .int .i64 0, .string ⟨#[]⟩] 39)).next hk4 (by simp; omega)).alloc (.cells #[.int .i64 0, .int .i64 0, .string ⟨#[]⟩] 39)).drew)
  have hb4 := (h4.alloc (.cells #[.int .i64 0, .int .i64 0, .string ⟨#[]⟩] 39)).drew
  have hb5 := (hB2.alloc (.cells #[.int .i64 0, .int .i64 0, .string ⟨#[]⟩] 39)).drew
  have hb6 : (v2.alloc (.cells #[.int .i64 0, .int .i64 0, .string ⟨#[]⟩] 39)).drew.rangeAt v2.heap.size 0 (cs z) := blk_range (cs z) (by rw [z_arr]; exact (Blk.new v2 39 #[.int .i64 0, .int .i64 0, .string ⟨#[]⟩]).drew)
  obtain ⟨A, len, c, f, R, h1, h2, h3, h4', h5, h6⟩ := (HQ.out.kp hkV)
  have HKV := Lib.hid hkV
  have HB45 := Lib.hid (And.intro hb4 hb5)
  clear hB hB2 hk1' hk4 h4 hkV hb4 hb5
  have hn := h1.hn
  have hlen := h1.hlen
  have hf' := h1.hf
  simp only [List.length_cons] at hn h5
  rcases h1.room with ⟨h0, _, _⟩ | ⟨h0, hA, hne, hr⟩
  · omega
  subst hA
  have hf : f < len := by omega
  have hf0 : (0 : Int) ≤ (f : Int) := by omega
  have hf1 : (f : Int) < (len : Int) := by omega
  obtain ⟨c0, c1, _, _, _, _⟩ := h1.cells
  have hgV := h1.q.lt
  have HR := Lib.hid hr
  have HQ1 := Lib.hid h1.q
  have H2 := Lib.hid h2
  have H36 := Lib.hid (And.intro h3 (And.intro h4' (And.intro h5 h6)))
  clear hr h1 h2 h3 h4' h5 h6 hf'
  go_wp2
  refine wp_region_held_drew (S := (fun V => V.cell? ⟨g, 0, none⟩ = some (.slice (some ⟨r, 0, none⟩) len c) ∧ V.rangeAt v2.heap.size 0 (cs z) ∧ V.cell? ⟨g, 1, none⟩ = some (.int .i64 (f : Int)))) (by kernel_rfl) ⟨c0, hb6, c1⟩ (fun hHeld => ?_)
  refine' wpAnyH_take (i := 0) (oi := _) (v := _) ?hP0 (by kernel_rfl) (by kernel_rfl) (by kernel_rfl) ?hQP0 (Or.inl ⟨?hwP0, ?hyP0⟩) hHeld ?restP0
  case hP0 => (simp only [List.getElem?_toArray, List.getElem?_cons_zero]; rfl)
  case hQP0 => exact fun _ _ _ h => h
  case hwP0 => rfl
  case hyP0 => (intro w hSw; (try dsimp only at hSw); go_simp; try with_reducible rfl)
  try simp only [Act.put, List.setIfInBounds_toArray, List.set_cons_zero, List.set_cons_succ]
  refine' wpAnyH_take (i := 1) (oi := _) (v := _) ?hP1 (by kernel_rfl) (by kernel_rfl) (by kernel_rfl) ?hQP1 (Or.inl ⟨?hwP1, ?hyP1⟩) hHeld ?restP1
  case hP1 => (simp only [List.getElem?_toArray, List.getElem?_cons_succ, List.getElem?_cons_zero]; rfl)
  case hQP1 => exact fun _ _ _ h => h
  case hwP1 => rfl
  case hyP1 => (intro w hSw; (try dsimp only at hSw); go_simp; try with_reducible rfl)
  try simp only [Act.put, List.setIfInBounds_toArray, List.set_cons_zero, List.set_cons_succ]
  refine' wpAnyH_take (i := 2) (oi := _) (v := _) ?hP2 (by kernel_rfl) (by kernel_rfl) (by kernel_rfl) ?hQP2 (Or.inl ⟨?hwP2, ?hyP2⟩) hHeld ?restP2
  case hP2 => (simp only [List.getElem?_toArray, List.getElem?_cons_succ, List.getElem?_cons_zero]; rfl)
  case hQP2 => exact fun _ _ _ h => h
  case hwP2 => rfl
  case hyP2 => (intro w hSw; (try dsimp only at hSw); go_simp; try with_reducible rfl)
  try simp only [Act.put, List.setIfInBounds_toArray, List.set_cons_zero, List.set_cons_succ]
  refine' wpAnyH_take (i := 3) (oi := _) (v := _) ?hP3 (by kernel_rfl) (by kernel_rfl) (by kernel_rfl) ?hQP3 (Or.inl ⟨?hwP3, ?hyP3⟩) hHeld ?restP3
  case hP3 => (simp only [List.getElem?_toArray, List.getElem?_cons_succ, List.getElem?_cons_zero]; rfl)
  case hQP3 => exact fun _ _ _ h => h
  case hwP3 => rfl
  case hyP3 => (intro w hSw; (try dsimp only at hSw); go_simp; try with_reducible rfl)
  try simp only [Act.put, List.setIfInBounds_toArray, List.set_cons_zero, List.set_cons_succ]
  refine' wpAnyH_take (i := 4) (oi := _) (v := _) ?hP4 (by kernel_rfl) (by kernel_rfl) (by kernel_rfl) ?hQP4 (Or.inl ⟨?hwP4, ?hyP4⟩) hHeld ?restP4
  case hP4 => (simp only [List.getElem?_toArray, List.getElem?_cons_succ, List.getElem?_cons_zero]; rfl)
  case hQP4 => exact fun _ _ _ h => h
  case hwP4 => rfl
  case hyP4 => (intro w hSw; (try dsimp only at hSw); go_simp; try with_reducible rfl)
  try simp only [Act.put, List.setIfInBounds_toArray, List.set_cons_zero, List.set_cons_succ]
  refine' wpAnyH_take (i := 5) (oi := _) (v := _) ?hP5 (by kernel_rfl) (by kernel_rfl) (by kernel_rfl) ?hQP5 (Or.inl ⟨?hwP5, ?hyP5⟩) hHeld ?restP5
  case hP5 => (simp only [List.getElem?_toArray, List.getElem?_cons_succ, List.getElem?_cons_zero]; rfl)
  case hQP5 => exact fun _ _ _ h => h
  case hwP5 => rfl
  case hyP5 => (intro w hSw; (try dsimp only at hSw); go_simp; try with_reducible rfl)
  try simp only [Act.put, List.setIfInBounds_toArray, List.set_cons_zero, List.set_cons_succ]
  refine' wpAnyH_take (i := 6) (oi := _) (v := _) ?hP6 (by kernel_rfl) (by kernel_rfl) (by kernel_rfl) ?hQP6 (Or.inl ⟨?hwP6, ?hyP6⟩) hHeld ?restP6
  case hP6 => (simp only [List.getElem?_toArray, List.getElem?_cons_succ, List.getElem?_cons_zero]; rfl)
  case hQP6 => exact fun _ _ _ h => h
  case hwP6 => rfl
  case hyP6 => (intro w hSw; (try dsimp only at hSw); go_simp; try with_reducible rfl)
  try simp only [Act.put, List.setIfInBounds_toArray, List.set_cons_zero, List.set_cons_succ]
  refine' wpAnyH_take (i := 7) (oi := _) (v := _) ?hP7 (by kernel_rfl) (by kernel_rfl) (by kernel_rfl) ?hQP7 (Or.inl ⟨?hwP7, ?hyP7⟩) hHeld ?restP7
  case hP7 => (simp only [List.getElem?_toArray, List.getElem?_cons_succ, List.getElem?_cons_zero]; rfl)
  case hQP7 => exact fun _ _ _ h => h
  case hwP7 => rfl
  case hyP7 => (intro w hSw; (try dsimp only at hSw); go_simp; try with_reducible rfl)
  try simp only [Act.put, List.setIfInBounds_toArray, List.set_cons_zero, List.set_cons_succ]
  refine' wpAnyH_take (i := 8) (oi := _) (v := .agg (cs z).toArray) ?hP8 (by kernel_rfl) (by kernel_rfl) (by kernel_rfl) ?hQP8 ?hyP8 hHeld ?restP8
  case hP8 => (simp only [List.getElem?_toArray, List.getElem?_cons_succ, List.getElem?_cons_zero]; rfl)
  case hQP8 => exact fun _ _ _ h => h
  case hyP8 => (apply yieldsIf_load_mid (b := v2.heap.size) (o := 0) (cs := cs z); (case hw => rfl); (case ho => rfl); (case hx => rfl); (case hS => exact fun _ h => h.2.1); (case hu => exact Try.underlying39); (case hd => rfl); (case hi => exact info_cs _))
  try simp only [Act.put, List.setIfInBounds_toArray, List.set_cons_zero, List.set_cons_succ]
  refine' wpAnyH_take (i := 9) (oi := _) (v := _) ?hP9 (by kernel_rfl) (by kernel_rfl) (by kernel_rfl) ?hQP9 (Or.inl ⟨?hwP9, ?hyP9⟩) hHeld ?restP9
  case hP9 => (simp only [List.getElem?_toArray, List.getElem?_cons_succ, List.getElem?_cons_zero]; rfl)
  case hQP9 => exact fun _ _ _ h => h
  case hwP9 => rfl
  case hyP9 => (intro w hSw; (try dsimp only at hSw); go_simp; try with_reducible rfl)
  try simp only [Act.put, List.setIfInBounds_toArray, List.set_cons_zero, List.set_cons_succ]
  refine wpAnyH_ready (rs := [10]) (by kernel_rfl) (by simp) ?_
  refine' AllReadyH.cons (o := _) ?hoP10 (fun K hK => ?stP10) AllReadyH.nil
  case hoP10 => (simp only [List.getElem?_toArray, List.getElem?_cons_succ, List.getElem?_cons_zero]; rfl)
  rw [if_pos (by rfl)]
  refine wp_store_room _ _ rfl r len R f z rfl rfl HR.out hf ?_
  intro v3 hr3 hk3
  refine hK.out _ _ (⟨(hk3.cell (p := ⟨g, 0, none⟩) hgV (by simp; omega)).trans hHeld.1, fun j u hu => (hk3.cell (p := ⟨v2.heap.size, 0 + j, none⟩) (by show v2.heap.size < (v2.alloc _).heap.size; simp) (by simp; omega)).trans (hHeld.2.1 j u hu), (hk3.cell (p := ⟨g, 1, none⟩) hgV (by simp; omega)).trans hHeld.2.2⟩) (fun hHeld' => ?_)
  clear hK K hHeld
  have hHeld := hHeld'
  clear hHeld'
  try simp only [Act.put]
  refine wpAnyH_done (by kernel_rfl) ?_ _
  clear hHeld c0 c1 hb6
  have hz3 := hk3.size
  simp at hz3
  have hq3 := HQ1.out.keeps hk3 (by simp; omega)
  have hb43 := HB45.out.1.keeps hk3 (by simp; omega)
  have hb53 := HB45.out.2.keeps hk3 (by simp; omega)
  have hk3' : Keeps [g, r] w v3 := (HKV.out.more (by simp)).next hk3 (by simp)
  have hs3 : Qs v3 g r (some ⟨r, 0, none⟩) len c f (x :: t).length lim dr (updR R f z) := ⟨hq3, .inr ⟨h0, rfl, hne, hr3⟩, .inl hf, by simpa using hn, hlen⟩
  have HAT := Lib.hid (at_any g r _ len c f _ lim dr _ 1 _ hs3 h0 (by omega))
  clear hk3 hs3 HKV HB45 HR HQ1 HQ
  go_wp2_with fail
  refine HAT.out.mono ?_
  clear HAT
  rintro e v4 ⟨rfl, hd4⟩
  have hq4 := hq3.drawn hd4
  have hr4 := hr3.keeps ((Keeps.refl [] v3).drawn hd4) (by simp)
  have hk4 := hk3'.drawn hd4
  have hb4 := hb43.drawn hd4
  have hb5 := hb53.drawn hd4
  clear hq3 hr3 hk3' hd4 hb43 hb53
  obtain ⟨p, hp⟩ : ∃ p, (f + 1) % len = p := ⟨_, rfl⟩
  have hpl := place_bd f 1 len h0
  rw [hp] at hpl ⊢
  have HP := Lib.hid hp
  clear hp
  obtain ⟨m, hm⟩ : ∃ m, m = t.length := ⟨_, rfl⟩
  have hlm : (x :: t).length = m + 1 := by rw [hm]; rfl
  rw [hlm] at hq4
  have HM := Lib.hid hm
  clear hm hlm
  have c1 := hq4.cell 1
  have c2 : v4.cell? ⟨g, 2, none⟩ = some (.int .i64 (((m + 1 : Nat)) : Int)) := hq4.cell 2
  have cf := hq4.frozen
  have hsub : (((m + 1 : Nat)) : Int) = (m : Int) + 1 := by omega
  rw [hsub] at c2
  have hmb : (m : Int) ≤ 65536 := by rw [HM.out]; omega
  clear hsub
  have HB4 := Lib.hid (((hb4.far (p := ⟨g, 1, none⟩) (by show v1.heap.size ≠ g; omega) (.int .i64 (p : Int))).far (p := ⟨g, 2, none⟩) (by show v1.heap.size ≠ g; omega) (.int .i64 (m : Int))))
  have HB5 := Lib.hid (((hb5.far (p := ⟨g, 1, none⟩) (by show w.heap.size ≠ g; omega) (.int .i64 (p : Int))).far (p := ⟨g, 2, none⟩) (by show w.heap.size ≠ g; omega) (.int .i64 (m : Int))))
  have HQ4 := Lib.hid ((hq4.set_ 1 (.int .i64 (p : Int))).set_ 2 (.int .i64 (m : Int)))
  have HR4 := Lib.hid (hr4.keeps (((Keeps.refl [g] v4).setCell (p := ⟨g, 1, none⟩) (by simp) (.int .i64 (p : Int))).setCell (p := ⟨g, 2, none⟩) (by simp) (.int .i64 (m : Int))) (by simpa using hne))
  have HK4 := Lib.hid ((hk4.setCell (p := ⟨g, 1, none⟩) (by simp) (.int .i64 (p : Int))).setCell (p := ⟨g, 2, none⟩) (by simp) (.int .i64 (m : Int)))
  clear hq4 hr4 hb4 hb5 hk4
  go_wp2_with (first | (refine wpList_load_blk rfl _ rfl v1.heap.size x rfl HB4.out ?_) | (refine wpList_store_blk rfl _ _ rfl w.heap.size #[.int .i64 0, .int .i64 0, .string ⟨#[]⟩] x rfl rfl HB5.out rfl ?_; intro v5 h5 hk5))
  refine bodyPost_ret (results_cell2 rfl _ _ _ rfl (load_blk x h5)) rfl ?_
  have hq5 := HQ4.out.keeps hk5 (by simp; omega)
  have hr5 := HR4.out.keeps hk5 (by simp; omega)
  refine ⟨rfl, ⟨some ⟨r, 0, none⟩, len, c, p, updR R f z, ⟨?_, .inr ⟨h0, rfl, hne, hr5⟩, .inl hpl, by omega, hlen⟩, ?_, H36.out.1, H36.out.2.1, by have := H36.out.2.2.1; omega, H36.out.2.2.2⟩, HK4.out.next hk5 (by simp)⟩
  · rw [← HM.out]
    exact hq5
  · intro i hi
    rw [← HP.out, place_next f i len h0, updR_ne _ _ _ _ (place_ne f i len hf (by omega))]
    have := H2.out (i + 1) (by simp; omega)
    simpa using this
end FiF
end Go.Proofs.Ytdbkgpnbmafpmaa
namespace Go.Proofs.Ytdbkgpnbmafpmaa
open Go.RowKit Go.Maps
attribute [local go_sem] FiF.cs
namespace Nc
open Sm
/-- A frame as a value. -/
def fv (f : FiF.It) : Value := .agg #[.int .i64 f.to, .int .i64 f.fr, .string f.data]
theorem fv_val (f : FiF.It) : FiF.val f = fv f := rfl
def f0 : FiF.It := ⟨0, 0, ⟨#[]⟩⟩
section
variable {d m y c : Nat} {od : Int} {a : Option Addr} {lg : List Sn} {L : List Pt}
theorem To.fresh {w w' : World} {S : List Nat} (h : Dev w d m od y a c lg L) (hk : Keeps S w w') (hS : ∀ b ∈ S, w.heap.size ≤ b) : To d m (foot d m y L) od lg L w w' :=
  ⟨y, a, c, h.keeps hk (fun b hb hm => by have := h.lt b hb; have := hS b hm; omega), (Keeps.refl _ w).next hk (fun b hb => .inr (hS b hb)), fun b hb => .inl hb⟩
theorem To.late {w w1 w2 w' : World} {S F : List Nat} (h : To d m F od lg L w1 w2) (hk0 : Keeps [] w w1) (hk : Keeps S w2 w') (hS : ∀ b ∈ S, w.heap.size ≤ b ∧ b < w1.heap.size) (hF : ∀ b ∈ F, b < w.heap.size) : To d m F od lg L w w' := by
  obtain ⟨y, a, c, h1, h2, h3⟩ := h
  have hz := hk0.size
  refine ⟨y, a, c, h1.keeps hk (fun b hb hm => ?_), ((hk0.more (by simp)).trans h2).next hk (fun b hb => .inr (hS b hb).1), fun b hb => ?_⟩
  · have := hS b hm
    rcases h3 b hb with h4 | h4
    · have := hF b h4; omega
    · omega
  · rcases h3 b hb with h4 | h4
    · exact .inl h4
    · exact .inr (by omega)
/-- What Take gives: the port's first frame, and the ports behind it. -/
def takeV (L : List Pt) (k : Int) : FiF.It × Int × List Pt :=
  match pt? L k with
  | none => (f0, 7, L)
  | some x => match x.ws with
    | [] => (f0, 9, L)
    | f :: t => (f, 0, upd L { x with ws := t })
theorem take_none {k : Int} (h : pt? L k = none) : takeV L k = (f0, 7, L) := by unfold takeV; rw [h]
theorem take_empty {k : Int} {x : Pt} (h : pt? L k = some x) (hw : x.ws = []) : takeV L k = (f0, 9, L) := by unfold takeV; rw [h]; simp only [hw]
theorem take_some {k : Int} {x : Pt} {f : FiF.It} {t : List FiF.It} (h : pt? L k = some x) (hw : x.ws = f :: t) : takeV L k = (f, 0, upd L { x with ws := t }) := by unfold takeV; rw [h]; simp only [hw]
def IsTake (d m y : Nat) (od : Int) (lg : List Sn) (L : List Pt) (k : Int) (w : World) (e : Ending) (w' : World) : Prop :=
  e = .returned (.tuple #[fv (takeV L k).1, .int .i64 (takeV L k).2.1]) ∧ To d m (foot d m y L) od lg (takeV L k).2.2 w w'
set_option maxRecDepth 100000 in
theorem take_dev (k : Int) (w : World) (h : Dev w d m od y a c lg L) (hk : (Lit.int .i64 k).wf = true) :
    Calls Try.prog 16 #[.pointer (some ⟨d, 0, none⟩), .int .i64 k] w (IsTake d m y od lg L k w) := by
  have hk0 : Keeps [] w (w.alloc (.cells #[.int .i64 0, .int .i64 0, .string ⟨#[]⟩] 39)) := (Keeps.refl _ _).alloc _
  have hB := Blk.new w 39 #[.int .i64 0, .int .i64 0, .string ⟨#[]⟩]
  have h0 := h.kp hk0
  have HF := Lib.hid (find_any k _ h0 hk)
  rw [fnd_pt] at HF
  have hlt := h.lt
  rcases hp : pt? L k with _ | x
  · unfold IsTake
    rw [take_none hp]
    rw [hp] at HF
    have HD := Lib.hid h0
    clear h h0 hlt
    go_enter Try.func16, Try.ntmps16
    go_wp2_with fail
    refine HF.out.mono ?_
    rintro e w' ⟨rfl, rfl⟩
    simp only [Option.map_none, pv]
    go_wp2
    refine bodyPost_ret (v := .tuple #[fv f0, .int .i64 7]) (by simp [results, Try.results16, go_sem, fv, f0]) rfl ?_
    exact ⟨rfl, (To.refl HD.out (Keeps.refl _ _)).from hk0⟩
  · rw [hp] at HF
    obtain ⟨hx, hxo⟩ := pt_mem hp
    have hpx := h0.pt x hx
    obtain ⟨_, _, _, p3⟩ := hpx.cells
    have hf1 := hlt _ (bk_sub hx x.g (by simp [bks]))
    have hf2 := hlt _ (bk_sub hx x.r (by simp [bks]))
    rcases hw : x.ws with _ | ⟨f, t⟩
    · unfold IsTake
      rw [take_empty hp hw]
      have hq := hpx.q
      rw [hw] at hq
      have HP := Lib.hid (FiF.pop_none x.g x.r x.li x.dr _ hq)
      have HD := Lib.hid h0
      clear h h0 hq hpx
      go_enter Try.func16, Try.ntmps16
      go_wp2_with fail
      refine HF.out.mono ?_
      rintro e w' ⟨rfl, rfl⟩
      simp only [Option.map_some, pv]
      go_wp2_with fail
      refine HP.out.mono ?_
      rintro e w1 ⟨rfl, hk1⟩
      have hb1 := hB.keeps hk1 (by simp)
      have q0 : w1.cell? ⟨w.heap.size, 0, none⟩ = some (.int .i64 0) := hb1.cell 0
      have q1 : w1.cell? ⟨w.heap.size, 1, none⟩ = some (.int .i64 0) := hb1.cell 1
      have q2 : w1.cell? ⟨w.heap.size, 2, none⟩ = some (.string ⟨#[]⟩) := hb1.cell 2
      have hfr := hb1.frozen
      have hlt1 := hb1.lt
      clear hB hb1
      rw [fv_val]
      simp only [fv]
      go_wp2
      refine bodyPost_ret (v := .tuple #[fv f0, .int .i64 9]) (by simp [results, Try.results16, go_sem, fv, f0, q0, q1, q2, hlt1]) rfl ?_
      have hk3 : ∀ (w1 : World) (u v z : Value), Keeps [w.heap.size] w1 (((w1.setCell ⟨w.heap.size, 0, none⟩ u).setCell ⟨w.heap.size, 1, none⟩ v).setCell ⟨w.heap.size, 2, none⟩ z) := fun w1 u v z =>
        (((Keeps.refl _ w1).setCell (p := ⟨w.heap.size, 0, none⟩) (by simp) _).setCell (p := ⟨w.heap.size, 1, none⟩) (by simp) _).setCell (p := ⟨w.heap.size, 2, none⟩) (by simp) _
      exact ⟨rfl, To.late (To.refl HD.out hk1) hk0 ((hk3 w1 _ _ _).alloc _) (by simp) hlt⟩
    · unfold IsTake
      rw [take_some hp hw]
      have hq := hpx.q
      rw [hw] at hq
      have HP := Lib.hid (FiF.pop_some x.g x.r f t x.li x.dr _ hq)
      have HD := Lib.hid h0
      clear h h0 hq hpx
      go_enter Try.func16, Try.ntmps16
      go_wp2_with fail
      refine HF.out.mono ?_
      rintro e w' ⟨rfl, rfl⟩
      simp only [Option.map_some, pv]
      go_wp2_with fail
      refine HP.out.mono ?_
      rintro e w1 ⟨rfl, hq1, hk1⟩
      have hto := HD.out.turn (x' := { x with ws := t }) hx ⟨rfl, rfl, rfl, rfl, rfl⟩ hk1 (.inl rfl) hq1
      have hb1 := hB.keeps hk1 (by simp; omega)
      have q0 : w1.cell? ⟨w.heap.size, 0, none⟩ = some (.int .i64 0) := hb1.cell 0
      have q1 : w1.cell? ⟨w.heap.size, 1, none⟩ = some (.int .i64 0) := hb1.cell 1
      have q2 : w1.cell? ⟨w.heap.size, 2, none⟩ = some (.string ⟨#[]⟩) := hb1.cell 2
      have hfr := hb1.frozen
      have hlt1 := hb1.lt
      have HT := Lib.hid hto
      clear hB hb1 hto hq1
      rw [fv_val]
      simp only [fv]
      go_wp2
      refine bodyPost_ret (v := .tuple #[fv f, .int .i64 0]) (by simp [results, Try.results16, go_sem, fv, q0, q1, q2, hlt1]) rfl ?_
      have hk3 : ∀ (w1 : World) (u v z : Value), Keeps [w.heap.size] w1 (((w1.setCell ⟨w.heap.size, 0, none⟩ u).setCell ⟨w.heap.size, 1, none⟩ v).setCell ⟨w.heap.size, 2, none⟩ z) := fun w1 u v z =>
        (((Keeps.refl _ w1).setCell (p := ⟨w.heap.size, 0, none⟩) (by simp) _).setCell (p := ⟨w.heap.size, 1, none⟩) (by simp) _).setCell (p := ⟨w.heap.size, 2, none⟩) (by simp) _
      exact ⟨rfl, To.late HT.out hk0 ((hk3 w1 _ _ _).alloc _) (by simp) hlt⟩
end
end Nc
end Go.Proofs.Ytdbkgpnbmafpmaa
namespace Go.Proofs.Ytdbkgpnbmafpmaa
open Go.RowKit Go.Maps
attribute [local go_sem] FiF.cs
namespace Nc
open Sm
theorem snc_one (x : Sn) : ∀ u ∈ snc x, u.oneCell' = true := by
  intro u hu
  simp only [snc, List.mem_cons, List.not_mem_nil, or_false] at hu
  rcases hu with rfl | rfl | rfl <;> rfl
theorem sflat_len (l : List Sn) : (sflat l).length = l.length * 3 := by
  induction l with
  | nil => rfl
  | cons x t ih => simp only [sflat, List.flatMap_cons, List.length_append, List.length_cons] at ih ⊢; rw [ih]; simp [snc]; omega
theorem sflat_all (l : List Sn) : ∀ u ∈ sflat l, u.oneCell' = true := by
  intro u hu
  simp only [sflat, List.mem_flatMap] at hu
  obtain ⟨x, _, hx⟩ := hu
  exact snc_one x u hx
theorem sflat_app (a b : List Sn) : sflat (a ++ b) = sflat a ++ sflat b := by simp [sflat]
theorem sflat_get (l : List Sn) : ∀ (i : Nat) (x : Sn), l[i]? = some x → ∀ j, j < 3 → (sflat l)[i * 3 + j]? = (snc x)[j]? := by
  induction l with
  | nil => intro i x h; simp at h
  | cons y t ih =>
    intro i x h j hj
    have e : sflat (y :: t) = snc y ++ sflat t := by simp [sflat]
    rw [e]
    rcases i with _ | i
    · simp at h
      subst h
      rw [Nat.zero_mul, Nat.zero_add, List.getElem?_append_left (by simpa [snc] using hj)]
    · simp at h
      rw [List.getElem?_append_right (by simp [snc]; omega)]
      rw [show (i + 1) * 3 + j - (snc y).length = i * 3 + j from by simp [snc]; omega]
      exact ih i x h j hj
theorem sn_info : (Try.prog.info? 50).map (fun i => (i.zero, i.size, i.bytes)) = some (some (.agg #[.int .i64 0, .int .i64 0, .string ⟨#[]⟩]), 3, 32) := by kernel_rfl
theorem lnil_eq (n c : Nat) (w : World) : (binOp .eql 47 (.slice none n c) (.slice none 0 0)).run Try.prog w = .ok (.bool true) w := by kernel_rfl
theorem lnil_ne (a : Addr) (n c : Nat) (w : World) : (binOp .eql 47 (.slice (some a) n c) (.slice none 0 0)).run Try.prog w = .ok (.bool false) w := by kernel_rfl
theorem own_low {w : World} {B B' size n : Nat} {e : TypeId} {v : Value} {xs : List Value} (h : w.ownsRow B' e size v n xs) (hb : B ≤ B') : w.ownsRow B e size v n xs :=
  ⟨h.1, h.2.imp id fun ⟨g, cap, cur, h1, h2, h3⟩ => ⟨g, cap, cur, h1, Nat.le_trans hb h2, h3⟩⟩
/-- A copy of the log. -/
def IsLog (lg : List Sn) (w : World) (e : Ending) (w' : World) : Prop :=
  ∃ a' c', e = .returned (.slice a' lg.length c') ∧ Keeps [] w w' ∧ (0 < lg.length → ∃ y', a' = some ⟨y', 0, none⟩ ∧ y' < w'.heap.size ∧ ∀ i x, lg[i]? = some x → ∀ j, j < 3 → w'.cell? ⟨y', i * 3 + j, none⟩ = (snc x)[j]?)
section
variable {d m y c : Nat} {od : Int} {a : Option Addr} {lg : List Sn} {L : List Pt}
set_option maxRecDepth 100000 in
set_option maxHeartbeats 1000000 in
theorem clone_lg {w : World} (h : Lg w d y a c lg) (hm : lg.length ≤ 1000) : Calls Try.prog 35 #[.slice a lg.length c] w (IsLog lg w) := by
  rcases h with ⟨rfl, rfl, rfl, _⟩ | ⟨rfl, h⟩
  · have hne := lnil_eq
    go_enter Try.func35, Try.ntmps35
    go_wp2
    go_ret
    exact ⟨none, 0, rfl, Keeps.refl _ _, fun h => absurd h (by simp)⟩
  · obtain ⟨i0, hi0, hz0, hz1, hz2⟩ := info_parts sn_info
    have HI := Lib.hid (And.intro hi0 (And.intro hz0 (And.intro hz1 hz2)))
    clear hi0 hz0 hz1 hz2
    have HR := Lib.hid (Reads.of_own h)
    clear h
    have hown0 := FiF.own_emptyF w w.heap.size (Nat.le_refl _) 50 3
    have hrd0 := HR.out.alloc (Nat.le_refl _) (.cells #[] 50)
    have hk0 : Keeps [] w (w.alloc (.cells #[] 50)) := (Keeps.refl _ _).alloc _
    have hne := lnil_ne
    go_enter Try.func35, Try.ntmps35
    go_wp2_with (at_builtin; refine wpList_append_any _ rfl (.tmp 5) (.tmp 6) _ rfl w.heap.size 50 i0 _ 3 32 Try.underlying47 HI.out.1 HI.out.2.1 HI.out.2.2.1 HI.out.2.2.2 rfl (by decide) (.slice (some ⟨w.heap.size, 0, none⟩) 0 0) 0 _ rfl hown0 _ _ lg.length c _ rfl hrd0 (sflat_all _) (by simp only [maxLen]; omega) (by omega) (by simp) ?_; intro v2 w2 hown2 hg2 hat2; obtain ⟨p2, c2, hv2⟩ := FiF.own_formF hown2; subst hv2; rw [Nat.zero_add, List.nil_append] at hown2; have hk2 := hk0.grown hg2 (fun b hb => .inr (by have := (hown0.lt b hb).1; exact this)))
    go_ret
    refine ⟨p2, c2, rfl, hk2, fun h0 => ?_⟩
    obtain ⟨y', cap, hv, hb, hl⟩ := hown2.form h0
    injection hv with e1
    subst e1
    refine ⟨y', rfl, hl, fun i x hx j hj => ?_⟩
    have hi := (List.getElem?_eq_some_iff.1 hx).1
    rw [hown2.cellAt (i * 3 + j) (by omega), sflat_get lg i x hx j hj]
theorem log_dev (w : World) (h : Dev w d m od y a c lg L) (hm : lg.length ≤ 1000) : Calls Try.prog 18 #[.pointer (some ⟨d, 0, none⟩)] w (IsLog lg w) := by
  obtain ⟨_, _, c2, _⟩ := h.cells
  have HC := Lib.hid (clone_lg h.lg hm)
  clear h
  go_enter Try.func18, Try.ntmps18
  go_wp2_with fail
  refine HC.out.mono ?_
  rintro e w' ⟨a', c', rfl, hk, hr⟩
  have HR := Lib.hid (And.intro hk hr)
  clear hk hr
  go_wp2
  go_ret
  exact ⟨a', c', rfl, HR.out.1, HR.out.2⟩
theorem Lg.own {w : World} (h : Lg w d y a c lg) : w.ownsRow 0 50 3 (.slice a lg.length c) lg.length (sflat lg) := by
  rcases h with ⟨rfl, rfl, rfl, _⟩ | ⟨rfl, h⟩
  · exact ⟨rfl, .inl ⟨rfl, rfl⟩⟩
  · exact h
theorem Lg.blk {w : World} (h : Lg w d y a c lg) : ∀ k, (Value.slice a lg.length c).ownBlock = some k → k = y := by
  intro k hk
  rcases h with ⟨rfl, rfl, rfl, _⟩ | ⟨rfl, h⟩
  · cases hk
  · simp [Value.ownBlock] at hk; exact hk.symm
/-- The log has a row more. -/
theorem Dev.logged {w w' : World} {a' : Option Addr} {c' y' : Nat} {lg' : List Sn} (h : Dev w d m od y a c lg L) (hk : Keeps [d, y] w w') (hb : Blk w' d 68 #[.map (some m), .int .i64 od, .slice a' lg'.length c']) (hl : Lg w' d y' a' c' lg') (hy : y' = y ∨ w.heap.size ≤ y') : To d m (foot d m y L) od lg' L w w' := by
  have hlt := h.lt
  have hd := h.dm
  have hym := h.ym
  have hml := hlt m (by simp [foot])
  have hyl := hlt y (by simp [foot])
  refine ⟨y', a', c', ⟨hb, h.mp.keeps hk (by simp; exact ⟨Ne.symm hd, Ne.symm hym⟩), hl, fun x hx => (h.pt x hx).keeps hk (fun b hb => by have := h.fr x hx b hb; simp; exact ⟨this.1, this.2.2⟩), h.ap, fun x hx b hb => ?_, hd, ?_, h.ln⟩, hk.more (by intro b hb; simp at hb; rcases hb with rfl | rfl <;> simp [foot]), fun b hb => ?_⟩
  · obtain ⟨h1, h2, h3⟩ := h.fr x hx b hb
    refine ⟨h1, h2, ?_⟩
    rcases hy with rfl | hy
    · exact h3
    · have := hlt b (bk_sub hx b hb); omega
  · rcases hy with rfl | hy
    · exact hym
    · omega
  · rcases mem_foot.1 hb with rfl | rfl | rfl | ⟨x, hx, hb⟩
    · exact .inl (by simp [foot])
    · exact .inl (by simp [foot])
    · rcases hy with rfl | hy
      · exact .inl (by simp [foot])
      · exact .inr hy
    · exact .inl (bk_sub hx b hb)
def IsSn (d m y : Nat) (od : Int) (lg : List Sn) (L : List Pt) (ti k pe : Int) (po : List UInt8) (w : World) (e : Ending) (w' : World) : Prop :=
  ∃ r : ByteArray, r.data.toList = po ∧ e = .returned (.int .i64 pe) ∧ To d m (foot d m y L) od (if pe = 0 then lg ++ [⟨ti, k, r⟩] else lg) L w w'
theorem IsSn.open_ {ti k pe : Int} {po : List UInt8} {w w' : World} {e : Ending} (h : IsSn d m y od lg L ti k pe po w e w') : ∃ r : ByteArray, r.data.toList = po ∧ e = .returned (.int .i64 pe) ∧ To d m (foot d m y L) od (if pe = 0 then lg ++ [⟨ti, k, r⟩] else lg) L w w' := h
theorem sn_mk {ti k pe : Int} {po : List UInt8} {w w' : World} {e : Ending} (h : ∃ r : ByteArray, r.data.toList = po ∧ e = .returned (.int .i64 pe) ∧ To d m (foot d m y L) od (if pe = 0 then lg ++ [⟨ti, k, r⟩] else lg) L w w') : IsSn d m y od lg L ti k pe po w e w' := h
def IsSend (d m y : Nat) (od : Int) (lg : List Sn) (L : List Pt) (ti k to : Int) (da : ByteArray) (w : World) (e : Ending) (w' : World) : Prop :=
  match pt? L k with
  | none => e = .returned (.int .i64 7) ∧ To d m (foot d m y L) od lg L w w'
  | some x => IsSn d m y od lg L ti k (Fr.prErr to x.ma da) (Fr.prOut to x.ma da) w e w'
theorem reads_sn (w : World) (x : Sn) : Reads (w.alloc (.cells #[.int .i64 x.ti, .int .i64 x.ow, .string x.da] 50)) (w.heap.size + 1) 3 (some ⟨w.heap.size, 0, none⟩) 1 (snc x) := by
  refine ⟨rfl, fun _ => ⟨_, rfl, by simp, fun j u hu => ?_⟩⟩
  have e : (⟨w.heap.size, 0, none⟩ : Addr).add j = ⟨w.heap.size, j, none⟩ := by unfold Addr.add; by_cases h0 : j = 0 <;> simp [h0]
  rw [e, (Blk.new w 50 #[.int .i64 x.ti, .int .i64 x.ow, .string x.da]).cell]
  simpa [snc] using hu
attribute [local irreducible] IsSn
set_option maxRecDepth 100000 in
set_option maxHeartbeats 1000000 in
theorem send_dev (ti k to : Int) (da : ByteArray) (w : World) (h : Dev w d m od y a c lg L) (hk : (Lit.int .i64 k).wf = true) (hd : da.size ≤ 300) (hm : lg.length ≤ 1000) :
    Calls Try.prog 17 #[.pointer (some ⟨d, 0, none⟩), .int .i64 ti, .int .i64 k, .int .i64 to, .string da] w (IsSend d m y od lg L ti k to da w) := by
  have HF := Lib.hid (find_any k w h hk)
  rw [fnd_pt] at HF
  rcases hp : pt? L k with _ | x
  · unfold IsSend
    rw [hp] at HF ⊢
    have HD := Lib.hid h
    clear h
    go_enter Try.func17, Try.ntmps17
    go_wp2_with fail
    refine HF.out.mono ?_
    rintro e w' ⟨rfl, rfl⟩
    simp only [Option.map_none, pv]
    go_wp2
    go_ret
    exact ⟨rfl, To.refl HD.out (Keeps.refl _ _)⟩
  · unfold IsSend
    rw [hp] at HF ⊢
    dsimp only
    obtain ⟨hx, hxo⟩ := pt_mem hp
    obtain ⟨_, p1, _, _⟩ := (h.pt x hx).cells
    have HP := Lib.hid (Fr.print_any to x.ma da w hd)
    obtain ⟨i0, hi0, hz0, hz1, hz2⟩ := info_parts sn_info
    have HI := Lib.hid (And.intro hi0 (And.intro hz0 (And.intro hz1 hz2)))
    clear hi0 hz0 hz1 hz2
    have HD := Lib.hid h
    clear h
    have hpe : Fr.prErr to x.ma da = 0 ∨ Fr.prErr to x.ma da ≠ 0 := by omega
    generalize Fr.prErr to x.ma da = pe at *
    generalize Fr.prOut to x.ma da = po at *
    rcases hpe with rfl | hpe
    · go_enter Try.func17, Try.ntmps17
      go_wp2_with fail
      refine HF.out.mono ?_
      rintro e w' ⟨rfl, rfl⟩
      simp only [Option.map_some, pv]
      go_wp2_with fail
      refine HP.out.mono ?_
      rintro e w1 ⟨rr, rfl, hrr, hb1⟩
      have hk1 := Keeps.of_below hb1 []
      have hD1 := HD.out.kp hk1
      obtain ⟨_, _, c2, cf⟩ := hD1.cells
      have hrow := hD1.lg.own
      have hdl := hD1.b.lt
      have hD2 := Lib.hid hD1
      have HRR := Lib.hid hrr
      have HK1 := Lib.hid hk1
      clear hD1 hb1 hk1 hrr
      go_wp2_with (at_builtin; refine wpList_append_any _ rfl (.tmp 41) (.tmp 46) _ rfl 0 50 i0 _ 3 32 Try.underlying47 HI.out.1 HI.out.2.1 HI.out.2.2.1 HI.out.2.2.2 rfl (by decide) (.slice a lg.length c) lg.length _ rfl (ownsRow_keeps hrow ((Keeps.refl [] w1).alloc (.cells #[.int .i64 ti, .int .i64 k, .string rr] 50)) (by simp)) _ _ 1 1 (snc ⟨ti, k, rr⟩) rfl (reads_sn w1 ⟨ti, k, rr⟩) (snc_one _) (by simp only [maxLen]; omega) (by omega) (by omega) ?_; intro vv w2 hown hg2 hat2; obtain ⟨p2, cc, rfl⟩ := FiF.own_formF hown; have hbd := ((hD2.out.b.alloc (.cells #[.int .i64 ti, .int .i64 k, .string rr] 50))).grown hg2 (fun e => own_blk_ne (ownsRow_keeps hrow ((Keeps.refl [] w1).alloc (.cells #[.int .i64 ti, .int .i64 k, .string rr] 50)) (by simp)) (hD2.out.b.alloc (.cells #[.int .i64 ti, .int .i64 k, .string rr] 50)) (by decide) e.symm); have hcd := hbd.cell 2; have hfd := hbd.frozen)
      go_ret
      refine sn_mk ⟨rr, HRR.out, rfl, ?_⟩
      rw [if_pos rfl]
      refine To.from ?_ HK1.out
      have hk2 : Keeps [y] w1 w2 := (((Keeps.refl [y] w1).alloc (.cells #[.int .i64 ti, .int .i64 k, .string rr] 50))).grown hg2 (fun k e => .inl (by have := hD2.out.lg.blk k e; simp [this]))
      have hlen : (lg ++ [(⟨ti, k, rr⟩ : Sn)]).length = lg.length + 1 := by simp
      have hfl : sflat lg ++ snc ⟨ti, k, rr⟩ = sflat (lg ++ [⟨ti, k, rr⟩]) := by rw [sflat_app]; simp [sflat]
      rw [hfl] at hown
      obtain ⟨y', cap, hv, _, hlt⟩ := hown.form (by omega)
      injection hv with e1
      subst e1
      have hyy : y' = y ∨ w1.heap.size ≤ y' := by
        rcases hat2 with hat | hat
        · exact .inl (hD2.out.lg.blk y' (by rw [← hat]; rfl))
        · right
          simp [Value.ownBlock] at hat
          omega
      refine hD2.out.logged (hk2.more (by simp) |>.setCell (p := ⟨d, 2, none⟩) (by simp) _) ?_ (y' := y') (a' := some ⟨y', 0, none⟩) (c' := cc) ?_ hyy
      · rw [hlen]
        exact hbd.set_ 2 _
      · refine .inr ⟨rfl, ?_⟩
        rw [hlen]
        exact ownsRow_setCell hown _ _ (own_blk_ne hown hbd (by decide))
    · have hpn : (pe == 0) = false := by simpa using hpe
      go_enter Try.func17, Try.ntmps17
      go_wp2_with fail
      refine HF.out.mono ?_
      rintro e w' ⟨rfl, rfl⟩
      simp only [Option.map_some, pv]
      go_wp2_with fail
      refine HP.out.mono ?_
      rintro e w1 ⟨rr, rfl, hrr, hb1⟩
      have HRR := Lib.hid hrr
      have HK1 := Lib.hid (Keeps.of_below hb1 [])
      clear hrr hb1
      go_wp2
      go_ret
      refine sn_mk ⟨rr, HRR.out, rfl, ?_⟩
      rw [if_neg hpe]
      exact To.refl HD.out HK1.out
end
end Nc
end Go.Proofs.Ytdbkgpnbmafpmaa
namespace Go.Proofs.Ytdbkgpnbmafpmaa
open Go.RowKit
attribute [local go_sem] Bw.and255 Bw.and65535
namespace Fr
open Sm Bi
theorem three_bytes (w : World) (x y z : Int) : (convert 90 9 (.slice (some ⟨w.heap.size, 0, none⟩) 3 3)).run Try.prog (w.alloc (.cells #[.int .u8 x, .int .u8 y, .int .u8 z] 5)) = .ok (.string (strOfNums [x, y, z])) (w.alloc (.cells #[.int .u8 x, .int .u8 y, .int .u8 z] 5)) := by
  refine run_convert_bytes_arg (P := Try.prog) _ 90 5 Try.underlying90 Try.underlying5 _ 0 3 3 [x, y, z] rfl ?_ 9 Try.underlying9
  intro i hi
  have : i = 0 ∨ i = 1 ∨ i = 2 := by omega
  rcases this with rfl | rfl | rfl <;> simp
theorem head_of (to fr : Int) (d : ByteArray) : (strOfNums [to, fr, (d.size : Int)] ++ d).data.toList = frL to fr d := by
  simp [strOfNums, frL]
theorem rseal_x (x : ByteArray) (l : List UInt8) (V : World) (hx : x.data.toList = l) (h : l.length ≤ 400) : Calls Try.prog 39 #[.string x] V (Cw.IsText (Cw.sealL l) V) := by
  have := Cw.rseal_any x V (by rw [size_of x l hx]; exact h)
  rwa [hx] at this
set_option maxRecDepth 100000 in
set_option maxHeartbeats 1000000 in
theorem rprint_any (to fr : Int) (d : ByteArray) (W : World) (_hd : d.size ≤ 300) :
    Calls Try.prog 24 #[.agg #[.int .i64 to, .int .i64 fr, .string d]] W (IsPr (prOut to fr d) (prErr to fr d) W) := by
  cases h1 : okB to
  · obtain ⟨o1, o2⟩ := out_bad to fr d (by rw [h1]; simp)
    rw [o1, o2]
    have h := of_decide_eq_false h1
    clear o1 o2 h1
    by_cases h0 : to < 0
    · clear h
      go_enter Try.func24, Try.ntmps24
      go_wp2
      go_ret2
      exact ⟨⟨#[]⟩, rfl, rfl, (Below.refl _ _).alloc (Nat.le_refl _) _⟩
    · have h2 : 255 < to := by omega
      clear h
      go_enter Try.func24, Try.ntmps24
      go_wp2
      go_ret2
      exact ⟨⟨#[]⟩, rfl, rfl, (Below.refl _ _).alloc (Nat.le_refl _) _⟩
  · obtain ⟨t0, t1⟩ := of_decide_eq_true h1
    cases h2 : okB fr
    · obtain ⟨o1, o2⟩ := out_bad to fr d (by rw [h2]; simp)
      rw [o1, o2]
      have h := of_decide_eq_false h2
      clear o1 o2 h1 h2
      by_cases h0 : fr < 0
      · clear h
        go_enter Try.func24, Try.ntmps24
        go_wp2
        go_ret2
        exact ⟨⟨#[]⟩, rfl, rfl, (Below.refl _ _).alloc (Nat.le_refl _) _⟩
      · have h2 : 255 < fr := by omega
        clear h
        go_enter Try.func24, Try.ntmps24
        go_wp2
        go_ret2
        exact ⟨⟨#[]⟩, rfl, rfl, (Below.refl _ _).alloc (Nat.le_refl _) _⟩
    · obtain ⟨f0, f1⟩ := of_decide_eq_true h2
      by_cases h3 : d.size ≤ 32
      · obtain ⟨o1, o2⟩ := out_ok to fr d h1 h2 h3
        rw [o1, o2]
        clear o1 o2 h1 h2
        have hcv := three_bytes (W.alloc (.cells #[.int .i64 to, .int .i64 fr, .string d] 65)) to fr (d.size : Int)
        have hz : (W.alloc (.cells #[.int .i64 to, .int .i64 fr, .string d] 65)).heap.size = W.heap.size + 1 := by simp
        rw [hz] at hcv
        clear hz
        have HS := Lib.hid (fun V => rseal_x _ (frL to fr d) V (head_of to fr d) (by simp [frL]; omega))
        have hsum : (strOfNums [to, fr, (d.size : Int)]).size + d.size ≤ 9223372036854775807 := by
          have : (strOfNums [to, fr, (d.size : Int)]).size = 3 := strOfNums_size _
          omega
        go_enter Try.func24, Try.ntmps24
        go_wp2_with fail
        refine (HS.out _).mono ?_
        rintro e v1 ⟨r, rfl, hr, hb⟩
        have HR := Lib.hid hr
        clear hr HS hcv hsum
        go_wp2
        go_ret2
        refine ⟨r, rfl, HR.out, ?_⟩
        exact (((Below.refl _ W).alloc (Nat.le_refl _) _).alloc (by simp) _).trans (hb.mono (by simp; omega))
      · obtain ⟨o1, o2⟩ := out_long to fr d h1 h2 h3
        rw [o1, o2]
        clear o1 o2 h1 h2
        go_enter Try.func24, Try.ntmps24
        go_wp2
        go_ret2
        exact ⟨⟨#[]⟩, rfl, rfl, (Below.refl _ _).alloc (Nat.le_refl _) _⟩
end Fr
end Go.Proofs.Ytdbkgpnbmafpmaa
