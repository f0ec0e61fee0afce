/- A frame as bytes: the program's Print and the reference's. -/
import Derived.Test.YtdbkgpnbmafpmaaBitsH
import Derived.Test.YtdbkgpnbmafpmaaCrcL2
namespace Go.Proofs.Ytdbkgpnbmafpmaa
open Go.RowKit
attribute [local go_sem] Bw.and255 Bw.and65535
namespace Fr
open Sm Bi
def okB (n : Int) : Bool := decide (0 ≤ n ∧ n ≤ 255)
def frL (to fr : Int) (d : ByteArray) : List UInt8 := [UInt8.ofNat to.toNat, UInt8.ofNat fr.toNat, UInt8.ofNat d.size] ++ d.data.toList
def prOut (to fr : Int) (d : ByteArray) : List UInt8 := if okB to = true ∧ okB fr = true ∧ d.size ≤ 32 then Cw.sealL (frL to fr d) else []
def prErr (to fr : Int) (d : ByteArray) : Int := if okB to = true ∧ okB fr = true then (if d.size ≤ 32 then 0 else 4) else 2
theorem out_ok (to fr : Int) (d : ByteArray) (h1 : okB to = true) (h2 : okB fr = true) (h3 : d.size ≤ 32) : prOut to fr d = Cw.sealL (frL to fr d) ∧ prErr to fr d = 0 := by
  unfold prOut prErr; rw [if_pos ⟨h1, h2, h3⟩, if_pos ⟨h1, h2⟩, if_pos h3]; exact ⟨rfl, rfl⟩
theorem out_long (to fr : Int) (d : ByteArray) (h1 : okB to = true) (h2 : okB fr = true) (h3 : ¬ d.size ≤ 32) : prOut to fr d = [] ∧ prErr to fr d = 4 := by
  unfold prOut prErr; rw [if_neg (fun h => h3 h.2.2), if_pos ⟨h1, h2⟩, if_neg h3]; exact ⟨rfl, rfl⟩
theorem out_bad (to fr : Int) (d : ByteArray) (h : ¬ (okB to = true ∧ okB fr = true)) : prOut to fr d = [] ∧ prErr to fr d = 2 := by
  unfold prOut prErr; rw [if_neg (fun hh => h ⟨hh.1, hh.2.1⟩), if_neg h]; exact ⟨rfl, rfl⟩
def IsPr (l : List UInt8) (n : Int) (W : World) (e : Ending) (W' : World) : Prop := ∃ r : ByteArray, e = .returned (.tuple #[.string r, .int .i64 n]) ∧ r.data.toList = l ∧ Below W.heap.size W W'
theorem wbyte_ok (base bw : Nat) (n : Int) (l : List UInt8) (w : World) (h : Wt w base bw 0 l) (hbase : base ≤ bw) (hw : base ≤ w.heap.size) (hl : l.length ≤ 1000000) (h0 : okB n = true) :
    Calls Try.prog 48 #[.pointer (some ⟨bw, 0, none⟩), .int .i64 n] w (IsWt base bw 0 (l ++ [UInt8.ofNat n.toNat]) w) := by
  have h1 := of_decide_eq_true h0
  have := wbyte_any base bw 0 n l w h hbase hw hl
  rw [if_pos rfl, if_pos h1, if_pos ⟨rfl, h1⟩] at this
  exact this
theorem wbyte_bad (base bw : Nat) (n : Int) (l : List UInt8) (w : World) (h : Wt w base bw 0 l) (hbase : base ≤ bw) (hw : base ≤ w.heap.size) (hl : l.length ≤ 1000000) (h0 : okB n = false) :
    Calls Try.prog 48 #[.pointer (some ⟨bw, 0, none⟩), .int .i64 n] w (IsWt base bw 2 l w) := by
  have h1 := of_decide_eq_false h0
  have := wbyte_any base bw 0 n l w h hbase hw hl
  rw [if_pos rfl, if_neg h1, if_neg (fun hh => h1 hh.2)] at this
  exact this
theorem wbyte_old (base bw : Nat) (n : Int) (l : List UInt8) (w : World) (h : Wt w base bw 2 l) (hbase : base ≤ bw) (hw : base ≤ w.heap.size) (hl : l.length ≤ 1000000) :
    Calls Try.prog 48 #[.pointer (some ⟨bw, 0, none⟩), .int .i64 n] w (IsWt base bw 2 l w) := by
  have := wbyte_any base bw 2 n l w h hbase hw hl
  rw [if_neg (by decide), if_neg (by simp)] at this
  exact this
theorem wt_new (w : World) (base : Nat) (_hb : base ≤ w.heap.size) : Wt (w.alloc (.cells #[.int .i64 0, .slice none 0 0] 102)) base w.heap.size 0 [] :=
  ⟨none, 0, Blk.new _ _ _, rfl, .inl ⟨rfl, rfl⟩⟩
theorem wtext_ok (base bw : Nat) (s : ByteArray) (l : List UInt8) (w : World) (h : Wt w base bw 0 l) (hbase : base ≤ bw) (hw : base ≤ w.heap.size) (hl : l.length ≤ 1000000) (hs : s.size ≤ 1000000) :
    Calls Try.prog 50 #[.pointer (some ⟨bw, 0, none⟩), .string s] w (IsWt base bw 0 (l ++ s.data.toList) w) := by
  have := wtext_any base bw 0 s l w h hbase hw hl hs
  rw [if_pos rfl] at this
  exact this
theorem wbytes_ok (base bw : Nat) (l : List UInt8) (w : World) (h : Wt w base bw 0 l) :
    Calls Try.prog 52 #[.pointer (some ⟨bw, 0, none⟩)] w fun e w' => e = .returned (.string ⟨l.toArray⟩) ∧ w = w' := wbytes_any base bw 0 l w h
theorem seal_l (l : List UInt8) (V : World) (h : l.length ≤ 400) : Calls Try.prog 51 #[.string ⟨l.toArray⟩] V (Cw.IsText (Cw.sealL l) V) := by
  have := Cw.seal_any ⟨l.toArray⟩ V (by show l.toArray.size ≤ 400; simpa using h)
  simpa using this
set_option maxRecDepth 100000 in
set_option maxHeartbeats 1000000 in
theorem print_bad1 (to fr : Int) (d : ByteArray) (W : World) (_hd : d.size ≤ 300) (h1 : okB to = false) :
    Calls Try.prog 34 #[.agg #[.int .i64 to, .int .i64 fr, .string d]] W (IsPr (prOut to fr d) (prErr to fr d) W) := by
  obtain ⟨o1, o2⟩ := out_bad to fr d (by rw [h1]; simp)
  rw [o1, o2]
  clear o1 o2
  go_enter Try.func34, Try.ntmps34
  go_wp2_with fail
  have hD : Blk ((W.alloc (.cells #[.int .i64 to, .int .i64 fr, .string d] 39)).alloc (.cells #[.int .i64 0, .slice none 0 0] 102)) W.heap.size 39 #[.int .i64 to, .int .i64 fr, .string d] := (Blk.new _ _ _).alloc _
  have hW := wt_new (W.alloc (.cells #[.int .i64 to, .int .i64 fr, .string d] 39)) (W.heap.size + 1) (by simp)
  have hB : Below W.heap.size W ((W.alloc (.cells #[.int .i64 to, .int .i64 fr, .string d] 39)).alloc (.cells #[.int .i64 0, .slice none 0 0] 102)) := ((Below.refl _ W).alloc (Nat.le_refl _) _).alloc (by simp) _
  have hz : (W.alloc (.cells #[.int .i64 to, .int .i64 fr, .string d] 39)).heap.size = W.heap.size + 1 := by simp
  have hz0 : W.heap.size + 1 ≤ ((W.alloc (.cells #[.int .i64 to, .int .i64 fr, .string d] 39)).alloc (.cells #[.int .i64 0, .slice none 0 0] 102)).heap.size := by simp
  rw [hz] at hW
  clear hz
  generalize hbd : W.heap.size = bd at *
  have HBD := Lib.hid hbd
  clear hbd
  generalize (W.alloc (.cells #[.int .i64 to, .int .i64 fr, .string d] 39)).alloc (.cells #[.int .i64 0, .slice none 0 0] 102) = v0 at *
  have hbase : bd + 1 ≤ bd + 1 := Nat.le_refl _
  have q0 := hD.cell 0
  have q1 := hD.cell 1
  have q2 := hD.cell 2
  have HC := Lib.hid (wbyte_bad (bd + 1) (bd + 1) to _ _ hW hbase hz0 (by decide) h1)
  clear hW
  go_wp2_with fail
  refine HC.out.mono ?_
  clear HC
  rintro e v1 ⟨rfl, hW, hb, hzz⟩
  have hD' := hD.below hb (by omega)
  clear hD q0 q1 q2
  have hD := hD'
  clear hD'
  have hB' := hB.trans (hb.mono (by omega))
  clear hB hb
  have hB := hB'
  clear hB'
  have hz0' : bd + 1 ≤ v1.heap.size := by omega
  clear hz0 hzz
  have hz0 := hz0'
  clear hz0'
  have q0 := hD.cell 0
  have q1 := hD.cell 1
  have q2 := hD.cell 2
  have HC := Lib.hid (wbyte_old (bd + 1) (bd + 1) fr _ _ hW hbase hz0 (by decide))
  clear hW
  go_wp2_with fail
  refine HC.out.mono ?_
  clear HC
  rintro e v2 ⟨rfl, hW, hb, hzz⟩
  have hD' := hD.below hb (by omega)
  clear hD q0 q1 q2
  have hD := hD'
  clear hD'
  have hB' := hB.trans (hb.mono (by omega))
  clear hB hb
  have hB := hB'
  clear hB'
  have hz0' : bd + 1 ≤ v2.heap.size := by omega
  clear hz0 hzz
  have hz0 := hz0'
  clear hz0'
  have HC := Lib.hid (werr_any (bd + 1) (bd + 1) _ _ _ hW)
  go_wp2_with fail
  refine HC.out.mono ?_
  clear HC
  rintro e v9 ⟨rfl, rfl⟩
  clear hW
  go_wp2
  go_ret2
  exact ⟨⟨#[]⟩, rfl, rfl, by rw [HBD.out]; exact hB⟩
set_option maxRecDepth 100000 in
set_option maxHeartbeats 1000000 in
theorem print_bad2 (to fr : Int) (d : ByteArray) (W : World) (_hd : d.size ≤ 300) (h1 : okB to = true) (h2 : okB fr = false) :
    Calls Try.prog 34 #[.agg #[.int .i64 to, .int .i64 fr, .string d]] W (IsPr (prOut to fr d) (prErr to fr d) W) := by
  obtain ⟨o1, o2⟩ := out_bad to fr d (by rw [h2]; simp)
  rw [o1, o2]
  clear o1 o2
  go_enter Try.func34, Try.ntmps34
  go_wp2_with fail
  have hD : Blk ((W.alloc (.cells #[.int .i64 to, .int .i64 fr, .string d] 39)).alloc (.cells #[.int .i64 0, .slice none 0 0] 102)) W.heap.size 39 #[.int .i64 to, .int .i64 fr, .string d] := (Blk.new _ _ _).alloc _
  have hW := wt_new (W.alloc (.cells #[.int .i64 to, .int .i64 fr, .string d] 39)) (W.heap.size + 1) (by simp)
  have hB : Below W.heap.size W ((W.alloc (.cells #[.int .i64 to, .int .i64 fr, .string d] 39)).alloc (.cells #[.int .i64 0, .slice none 0 0] 102)) := ((Below.refl _ W).alloc (Nat.le_refl _) _).alloc (by simp) _
  have hz : (W.alloc (.cells #[.int .i64 to, .int .i64 fr, .string d] 39)).heap.size = W.heap.size + 1 := by simp
  have hz0 : W.heap.size + 1 ≤ ((W.alloc (.cells #[.int .i64 to, .int .i64 fr, .string d] 39)).alloc (.cells #[.int .i64 0, .slice none 0 0] 102)).heap.size := by simp
  rw [hz] at hW
  clear hz
  generalize hbd : W.heap.size = bd at *
  have HBD := Lib.hid hbd
  clear hbd
  generalize (W.alloc (.cells #[.int .i64 to, .int .i64 fr, .string d] 39)).alloc (.cells #[.int .i64 0, .slice none 0 0] 102) = v0 at *
  have hbase : bd + 1 ≤ bd + 1 := Nat.le_refl _
  have q0 := hD.cell 0
  have q1 := hD.cell 1
  have q2 := hD.cell 2
  have HC := Lib.hid (wbyte_ok (bd + 1) (bd + 1) to _ _ hW hbase hz0 (by decide) h1)
  clear hW
  go_wp2_with fail
  refine HC.out.mono ?_
  clear HC
  rintro e v1 ⟨rfl, hW, hb, hzz⟩
  have hD' := hD.below hb (by omega)
  clear hD q0 q1 q2
  have hD := hD'
  clear hD'
  have hB' := hB.trans (hb.mono (by omega))
  clear hB hb
  have hB := hB'
  clear hB'
  have hz0' : bd + 1 ≤ v1.heap.size := by omega
  clear hz0 hzz
  have hz0 := hz0'
  clear hz0'
  have q0 := hD.cell 0
  have q1 := hD.cell 1
  have q2 := hD.cell 2
  have HC := Lib.hid (wbyte_bad (bd + 1) (bd + 1) fr _ _ hW hbase hz0 (by simp) h2)
  clear hW
  go_wp2_with fail
  refine HC.out.mono ?_
  clear HC
  rintro e v2 ⟨rfl, hW, hb, hzz⟩
  have hD' := hD.below hb (by omega)
  clear hD q0 q1 q2
  have hD := hD'
  clear hD'
  have hB' := hB.trans (hb.mono (by omega))
  clear hB hb
  have hB := hB'
  clear hB'
  have hz0' : bd + 1 ≤ v2.heap.size := by omega
  clear hz0 hzz
  have hz0 := hz0'
  clear hz0'
  have HC := Lib.hid (werr_any (bd + 1) (bd + 1) _ _ _ hW)
  go_wp2_with fail
  refine HC.out.mono ?_
  clear HC
  rintro e v9 ⟨rfl, rfl⟩
  clear hW
  go_wp2
  go_ret2
  exact ⟨⟨#[]⟩, rfl, rfl, by rw [HBD.out]; exact hB⟩
set_option maxRecDepth 100000 in
set_option maxHeartbeats 1000000 in
theorem print_long (to fr : Int) (d : ByteArray) (W : World) (hd : d.size ≤ 300) (h1 : okB to = true) (h2 : okB fr = true) (h3 : 32 < d.size) :
    Calls Try.prog 34 #[.agg #[.int .i64 to, .int .i64 fr, .string d]] W (IsPr (prOut to fr d) (prErr to fr d) W) := by
  obtain ⟨o1, o2⟩ := out_long to fr d h1 h2 (by omega)
  rw [o1, o2]
  clear o1 o2
  go_enter Try.func34, Try.ntmps34
  go_wp2_with fail
  have hD : Blk ((W.alloc (.cells #[.int .i64 to, .int .i64 fr, .string d] 39)).alloc (.cells #[.int .i64 0, .slice none 0 0] 102)) W.heap.size 39 #[.int .i64 to, .int .i64 fr, .string d] := (Blk.new _ _ _).alloc _
  have hW := wt_new (W.alloc (.cells #[.int .i64 to, .int .i64 fr, .string d] 39)) (W.heap.size + 1) (by simp)
  have hB : Below W.heap.size W ((W.alloc (.cells #[.int .i64 to, .int .i64 fr, .string d] 39)).alloc (.cells #[.int .i64 0, .slice none 0 0] 102)) := ((Below.refl _ W).alloc (Nat.le_refl _) _).alloc (by simp) _
  have hz : (W.alloc (.cells #[.int .i64 to, .int .i64 fr, .string d] 39)).heap.size = W.heap.size + 1 := by simp
  have hz0 : W.heap.size + 1 ≤ ((W.alloc (.cells #[.int .i64 to, .int .i64 fr, .string d] 39)).alloc (.cells #[.int .i64 0, .slice none 0 0] 102)).heap.size := by simp
  rw [hz] at hW
  clear hz
  generalize hbd : W.heap.size = bd at *
  have HBD := Lib.hid hbd
  clear hbd
  generalize (W.alloc (.cells #[.int .i64 to, .int .i64 fr, .string d] 39)).alloc (.cells #[.int .i64 0, .slice none 0 0] 102) = v0 at *
  have hbase : bd + 1 ≤ bd + 1 := Nat.le_refl _
  have q0 := hD.cell 0
  have q1 := hD.cell 1
  have q2 := hD.cell 2
  have HC := Lib.hid (wbyte_ok (bd + 1) (bd + 1) to _ _ hW hbase hz0 (by decide) h1)
  clear hW
  go_wp2_with fail
  refine HC.out.mono ?_
  clear HC
  rintro e v1 ⟨rfl, hW, hb, hzz⟩
  have hD' := hD.below hb (by omega)
  clear hD q0 q1 q2
  have hD := hD'
  clear hD'
  have hB' := hB.trans (hb.mono (by omega))
  clear hB hb
  have hB := hB'
  clear hB'
  have hz0' : bd + 1 ≤ v1.heap.size := by omega
  clear hz0 hzz
  have hz0 := hz0'
  clear hz0'
  have q0 := hD.cell 0
  have q1 := hD.cell 1
  have q2 := hD.cell 2
  have HC := Lib.hid (wbyte_ok (bd + 1) (bd + 1) fr _ _ hW hbase hz0 (by simp) h2)
  clear hW
  go_wp2_with fail
  refine HC.out.mono ?_
  clear HC
  rintro e v2 ⟨rfl, hW, hb, hzz⟩
  have hD' := hD.below hb (by omega)
  clear hD q0 q1 q2
  have hD := hD'
  clear hD'
  have hB' := hB.trans (hb.mono (by omega))
  clear hB hb
  have hB := hB'
  clear hB'
  have hz0' : bd + 1 ≤ v2.heap.size := by omega
  clear hz0 hzz
  have hz0 := hz0'
  clear hz0'
  have HC := Lib.hid (werr_any (bd + 1) (bd + 1) _ _ _ hW)
  go_wp2_with fail
  refine HC.out.mono ?_
  clear HC
  rintro e v9 ⟨rfl, rfl⟩
  have q2 := hD.cell 2
  clear hW
  go_wp2
  go_ret2
  exact ⟨⟨#[]⟩, rfl, rfl, by rw [HBD.out]; exact hB⟩
set_option maxRecDepth 100000 in
set_option maxHeartbeats 1000000 in
theorem print_ok (to fr : Int) (d : ByteArray) (W : World) (hd : d.size ≤ 300) (h1 : okB to = true) (h2 : okB fr = true) (h3 : d.size ≤ 32) :
    Calls Try.prog 34 #[.agg #[.int .i64 to, .int .i64 fr, .string d]] W (IsPr (prOut to fr d) (prErr to fr d) W) := by
  obtain ⟨o1, o2⟩ := out_ok to fr d h1 h2 h3
  rw [o1, o2]
  clear o1 o2
  go_enter Try.func34, Try.ntmps34
  go_wp2_with fail
  have hD : Blk ((W.alloc (.cells #[.int .i64 to, .int .i64 fr, .string d] 39)).alloc (.cells #[.int .i64 0, .slice none 0 0] 102)) W.heap.size 39 #[.int .i64 to, .int .i64 fr, .string d] := (Blk.new _ _ _).alloc _
  have hW := wt_new (W.alloc (.cells #[.int .i64 to, .int .i64 fr, .string d] 39)) (W.heap.size + 1) (by simp)
  have hB : Below W.heap.size W ((W.alloc (.cells #[.int .i64 to, .int .i64 fr, .string d] 39)).alloc (.cells #[.int .i64 0, .slice none 0 0] 102)) := ((Below.refl _ W).alloc (Nat.le_refl _) _).alloc (by simp) _
  have hz : (W.alloc (.cells #[.int .i64 to, .int .i64 fr, .string d] 39)).heap.size = W.heap.size + 1 := by simp
  have hz0 : W.heap.size + 1 ≤ ((W.alloc (.cells #[.int .i64 to, .int .i64 fr, .string d] 39)).alloc (.cells #[.int .i64 0, .slice none 0 0] 102)).heap.size := by simp
  rw [hz] at hW
  clear hz
  generalize hbd : W.heap.size = bd at *
  have HBD := Lib.hid hbd
  clear hbd
  generalize (W.alloc (.cells #[.int .i64 to, .int .i64 fr, .string d] 39)).alloc (.cells #[.int .i64 0, .slice none 0 0] 102) = v0 at *
  have hbase : bd + 1 ≤ bd + 1 := Nat.le_refl _
  have q0 := hD.cell 0
  have q1 := hD.cell 1
  have q2 := hD.cell 2
  have HC := Lib.hid (wbyte_ok (bd + 1) (bd + 1) to _ _ hW hbase hz0 (by decide) h1)
  clear hW
  go_wp2_with fail
  refine HC.out.mono ?_
  clear HC
  rintro e v1 ⟨rfl, hW, hb, hzz⟩
  have hD' := hD.below hb (by omega)
  clear hD q0 q1 q2
  have hD := hD'
  clear hD'
  have hB' := hB.trans (hb.mono (by omega))
  clear hB hb
  have hB := hB'
  clear hB'
  have hz0' : bd + 1 ≤ v1.heap.size := by omega
  clear hz0 hzz
  have hz0 := hz0'
  clear hz0'
  have q0 := hD.cell 0
  have q1 := hD.cell 1
  have q2 := hD.cell 2
  have HC := Lib.hid (wbyte_ok (bd + 1) (bd + 1) fr _ _ hW hbase hz0 (by simp) h2)
  clear hW
  go_wp2_with fail
  refine HC.out.mono ?_
  clear HC
  rintro e v2 ⟨rfl, hW, hb, hzz⟩
  have hD' := hD.below hb (by omega)
  clear hD q0 q1 q2
  have hD := hD'
  clear hD'
  have hB' := hB.trans (hb.mono (by omega))
  clear hB hb
  have hB := hB'
  clear hB'
  have hz0' : bd + 1 ≤ v2.heap.size := by omega
  clear hz0 hzz
  have hz0 := hz0'
  clear hz0'
  have HC := Lib.hid (werr_any (bd + 1) (bd + 1) _ _ _ hW)
  go_wp2_with fail
  refine HC.out.mono ?_
  clear HC
  rintro e v9 ⟨rfl, rfl⟩
  have q0 := hD.cell 0
  have q1 := hD.cell 1
  have q2 := hD.cell 2
  have HC := Lib.hid (wbyte_ok (bd + 1) (bd + 1) (d.size : Int) _ _ hW hbase hz0 (by simp) (by unfold okB; simp; omega))
  clear hW
  go_wp2_with fail
  refine HC.out.mono ?_
  clear HC
  rintro e v3 ⟨rfl, hW, hb, hzz⟩
  have hD' := hD.below hb (by omega)
  clear hD q0 q1 q2
  have hD := hD'
  clear hD'
  have hB' := hB.trans (hb.mono (by omega))
  clear hB hb
  have hB := hB'
  clear hB'
  have hz0' : bd + 1 ≤ v3.heap.size := by omega
  clear hz0 hzz
  have hz0 := hz0'
  clear hz0'
  have q0 := hD.cell 0
  have q1 := hD.cell 1
  have q2 := hD.cell 2
  have HC := Lib.hid (wtext_ok (bd + 1) (bd + 1) d _ _ hW hbase hz0 (by simp) (by omega))
  clear hW
  go_wp2_with fail
  refine HC.out.mono ?_
  clear HC
  rintro e v4 ⟨rfl, hW, hb, hzz⟩
  have hD' := hD.below hb (by omega)
  clear hD q0 q1 q2
  have hD := hD'
  clear hD'
  have hB' := hB.trans (hb.mono (by omega))
  clear hB hb
  have hB := hB'
  clear hB'
  have hz0' : bd + 1 ≤ v4.heap.size := by omega
  clear hz0 hzz
  have hz0 := hz0'
  clear hz0'
  have hW' : Wt v4 (bd + 1) (bd + 1) 0 (frL to fr d) := by
    have := hW
    simpa [frL] using this
  have HC := Lib.hid (wbytes_ok (bd + 1) (bd + 1) _ _ hW')
  have HL := Lib.hid (fun V => seal_l (frL to fr d) V (by simp [frL]; omega))
  clear hW hW' hD
  generalize frL to fr d = l at *
  generalize Cw.sealL l = t at *
  go_wp2_with fail
  refine HC.out.mono ?_
  clear HC
  rintro e v5 ⟨rfl, rfl⟩
  go_wp2_with fail
  refine (HL.out _).mono ?_
  clear HL
  rintro e v6 ⟨r, rfl, hr, hb⟩
  have HR := Lib.hid hr
  clear hr
  go_wp2
  go_ret2
  exact ⟨r, rfl, HR.out, by rw [HBD.out]; exact hB.trans (hb.mono (by omega))⟩
theorem print_any (to fr : Int) (d : ByteArray) (W : World) (hd : d.size ≤ 300) :
    Calls Try.prog 34 #[.agg #[.int .i64 to, .int .i64 fr, .string d]] W (IsPr (prOut to fr d) (prErr to fr d) W) := by
  cases h1 : okB to
  · exact print_bad1 to fr d W hd h1
  · cases h2 : okB fr
    · exact print_bad2 to fr d W hd h1 h2
    · by_cases h3 : d.size ≤ 32
      · exact print_ok to fr d W hd h1 h2 h3
      · exact print_long to fr d W hd h1 h2 (by omega)
end Fr
end Go.Proofs.Ytdbkgpnbmafpmaa
