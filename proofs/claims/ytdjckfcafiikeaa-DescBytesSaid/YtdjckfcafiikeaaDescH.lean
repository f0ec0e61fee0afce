/- A descriptor as bytes: the program's Print. -/
import Derived.Test.YtdjckfcafiikeaaBitsH
namespace Go.Proofs.Ytdjckfcafiikeaa
open Go.RowKit
attribute [local go_sem] Bw.and255 Bw.and65535
namespace De
open Sm Bi
def e2 (err n : Int) : Int := if err = 0 then (if 0 ≤ n ∧ n ≤ 65535 then 0 else 2) else err
def l2 (err n : Int) (l : List UInt8) : List UInt8 := if err = 0 ∧ 0 ≤ n ∧ n ≤ 65535 then l ++ putL n else l
theorem l2_len (err n : Int) (l : List UInt8) : (l2 err n l).length ≤ l.length + 2 := by
  unfold l2; split
  · simp [putL]
  · omega
def in16 (n : Int) : Bool := decide (0 ≤ n ∧ n ≤ 65535)
def prOk (a l g : Int) : Bool := in16 a && in16 l && in16 g
def prL (w st a l g : Int) : List UInt8 := [UInt8.ofNat w.toNat, UInt8.ofNat st.toNat] ++ putL a ++ putL l ++ putL g
def prOut (w st a l g : Int) : List UInt8 := if prOk a l g = true then prL w st a l g else []
def prErr (a l g : Int) : Int := if prOk a l g = true then 0 else 2
theorem e2_yes (n : Int) (h : in16 n = true) (l : List UInt8) : e2 0 n = 0 ∧ l2 0 n l = l ++ putL n := by
  have h' := of_decide_eq_true h
  unfold e2 l2
  rw [if_pos rfl, if_pos h', if_pos ⟨rfl, h'⟩]; exact ⟨rfl, rfl⟩
theorem e2_no (n : Int) (h : in16 n = false) : e2 0 n = 2 := by
  have h' := of_decide_eq_false h
  unfold e2
  rw [if_pos rfl, if_neg h']
theorem e2_old (err n : Int) (h : err ≠ 0) : e2 err n = err := by unfold e2; rw [if_neg h]
theorem pr_fold (a l g : Int) (l0 : List UInt8) : e2 (e2 (e2 0 a) l) g = prErr a l g ∧ wrOut (e2 (e2 (e2 0 a) l) g) (l2 (e2 (e2 0 a) l) g (l2 (e2 0 a) l (l2 0 a l0))) = if prOk a l g = true then l0 ++ putL a ++ putL l ++ putL g else [] := by
  unfold prErr prOk
  cases ha : in16 a
  · rw [e2_no a ha, e2_old 2 l (by decide), e2_old 2 g (by decide)]
    simp [wrOut]
  · obtain ⟨h1, h2⟩ := e2_yes a ha l0
    rw [h1, h2]
    cases hl : in16 l
    · rw [e2_no l hl, e2_old 2 g (by decide)]
      simp [wrOut]
    · obtain ⟨h3, h4⟩ := e2_yes l hl (l0 ++ putL a)
      rw [h3, h4]
      cases hg : in16 g
      · rw [e2_no g hg]
        simp [wrOut]
      · obtain ⟨h5, h6⟩ := e2_yes g hg (l0 ++ putL a ++ putL l)
        rw [h5, h6]
        simp [wrOut]
def IsPr (l : List UInt8) (n : Int) (W : World) (e : Ending) (W' : World) : Prop := ∃ r : ByteArray, e = .returned (.tuple #[.string r, .int .i64 n]) ∧ r.data.toList = l ∧ Below W.heap.size W W'
theorem wbyte_ok (base bw : Nat) (n : Int) (l : List UInt8) (w : World) (h : Wt w base bw 0 l) (hbase : base ≤ bw) (hw : base ≤ w.heap.size) (hl : l.length ≤ 1000000) (h0 : 0 ≤ n) (h1 : n ≤ 255) :
    Calls Try.prog 24 #[.pointer (some ⟨bw, 0, none⟩), .int .i64 n] w (IsWt base bw 0 (l ++ [UInt8.ofNat n.toNat]) w) := by
  have := wbyte_any base bw 0 n l w h hbase hw hl
  rw [if_pos rfl, if_pos ⟨h0, h1⟩, if_pos ⟨rfl, h0, h1⟩] at this
  exact this
theorem wtwo_e (base bw : Nat) (err n : Int) (l : List UInt8) (w : World) (h : Wt w base bw err l) (hbase : base ≤ bw) (hw : base ≤ w.heap.size) (hl : l.length ≤ 1000000) :
    Calls Try.prog 25 #[.pointer (some ⟨bw, 0, none⟩), .int .i64 n] w (IsWt base bw (e2 err n) (l2 err n l) w) := wtwo_any base bw err n l w h hbase hw hl
theorem wt_new (w : World) (base : Nat) (_hb : base ≤ w.heap.size) : Wt (w.alloc (.cells #[.int .i64 0, .slice none 0 0] 47)) base w.heap.size 0 [] :=
  ⟨none, 0, Blk.new _ _ _, rfl, .inl ⟨rfl, rfl⟩⟩
theorem pr_all (w st a l g : Int) : e2 (e2 (e2 0 a) l) g = prErr a l g ∧ wrOut (e2 (e2 (e2 0 a) l) g) (l2 (e2 (e2 0 a) l) g (l2 (e2 0 a) l (l2 0 a [UInt8.ofNat w.toNat, UInt8.ofNat st.toNat]))) = prOut w st a l g := pr_fold a l g _
attribute [local irreducible] prOut prErr e2 l2 wrOut
set_option maxRecDepth 100000 in
set_option maxHeartbeats 2000000 in
theorem print_any (w st a l g : Int) (W : World) (w0 : 0 ≤ w) (w1 : w ≤ 255) (s0 : 0 ≤ st) (s1 : st ≤ 255) :
    Calls Try.prog 15 #[.agg #[.int .u8 w, .int .u8 st, .int .i64 a, .int .i64 l, .int .i64 g]] W (IsPr (prOut w st a l g) (prErr a l g) W) := by
  have HF := Lib.hid (pr_all w st a l g)
  go_enter Try.func15, Try.ntmps15
  go_wp2_with fail
  have hD : Blk ((W.alloc (.cells #[.int .u8 w, .int .u8 st, .int .i64 a, .int .i64 l, .int .i64 g] 24)).alloc (.cells #[.int .i64 0, .slice none 0 0] 47)) W.heap.size 24 #[.int .u8 w, .int .u8 st, .int .i64 a, .int .i64 l, .int .i64 g] := (Blk.new _ _ _).alloc _
  have hW := wt_new (W.alloc (.cells #[.int .u8 w, .int .u8 st, .int .i64 a, .int .i64 l, .int .i64 g] 24)) (W.heap.size + 1) (by simp)
  have hB : Below W.heap.size W ((W.alloc (.cells #[.int .u8 w, .int .u8 st, .int .i64 a, .int .i64 l, .int .i64 g] 24)).alloc (.cells #[.int .i64 0, .slice none 0 0] 47)) := ((Below.refl _ W).alloc (Nat.le_refl _) _).alloc (by simp) _
  have hz : (W.alloc (.cells #[.int .u8 w, .int .u8 st, .int .i64 a, .int .i64 l, .int .i64 g] 24)).heap.size = W.heap.size + 1 := by simp
  have hz0 : W.heap.size + 1 ≤ ((W.alloc (.cells #[.int .u8 w, .int .u8 st, .int .i64 a, .int .i64 l, .int .i64 g] 24)).alloc (.cells #[.int .i64 0, .slice none 0 0] 47)).heap.size := by simp
  rw [hz] at hW
  clear hz
  generalize hbd : W.heap.size = bd at *
  have HBD := Lib.hid hbd
  clear hbd
  generalize (W.alloc (.cells #[.int .u8 w, .int .u8 st, .int .i64 a, .int .i64 l, .int .i64 g] 24)).alloc (.cells #[.int .i64 0, .slice none 0 0] 47) = v0 at *
  have hbase : bd + 1 ≤ bd + 1 := Nat.le_refl _
  have q0 := hD.cell 0
  have q1 := hD.cell 1
  have q2 := hD.cell 2
  have q3 := hD.cell 3
  have q4 := hD.cell 4
  have HC := Lib.hid (wbyte_ok (bd + 1) (bd + 1) w _ _ hW hbase hz0 (by decide) w0 w1)
  clear hW
  go_wp2_with fail
  refine HC.out.mono ?_
  clear HC
  rintro e v1 ⟨rfl, hW, hb, hzz⟩
  have hD' := hD.below hb (by omega)
  clear hD q0 q1 q2 q3 q4
  have hD := hD'
  clear hD'
  have hB' := hB.trans (hb.mono (by omega))
  clear hB hb
  have hB := hB'
  clear hB'
  have hz0' : bd + 1 ≤ v1.heap.size := by omega
  clear hz0 hzz
  have hz0 := hz0'
  clear hz0'
  have q0 := hD.cell 0
  have q1 := hD.cell 1
  have q2 := hD.cell 2
  have q3 := hD.cell 3
  have q4 := hD.cell 4
  have HC := Lib.hid (wbyte_ok (bd + 1) (bd + 1) st _ _ hW hbase hz0 (by simp) s0 s1)
  clear hW
  go_wp2_with fail
  refine HC.out.mono ?_
  clear HC
  rintro e v2 ⟨rfl, hW, hb, hzz⟩
  have hD' := hD.below hb (by omega)
  clear hD q0 q1 q2 q3 q4
  have hD := hD'
  clear hD'
  have hB' := hB.trans (hb.mono (by omega))
  clear hB hb
  have hB := hB'
  clear hB'
  have hz0' : bd + 1 ≤ v2.heap.size := by omega
  clear hz0 hzz
  have hz0 := hz0'
  clear hz0'
  have q0 := hD.cell 0
  have q1 := hD.cell 1
  have q2 := hD.cell 2
  have q3 := hD.cell 3
  have q4 := hD.cell 4
  have HC := Lib.hid (wtwo_e (bd + 1) (bd + 1) 0 a _ _ hW hbase hz0 (by simp))
  clear hW
  go_wp2_with fail
  refine HC.out.mono ?_
  clear HC
  rintro e v3 ⟨rfl, hW, hb, hzz⟩
  have hD' := hD.below hb (by omega)
  clear hD q0 q1 q2 q3 q4
  have hD := hD'
  clear hD'
  have hB' := hB.trans (hb.mono (by omega))
  clear hB hb
  have hB := hB'
  clear hB'
  have hz0' : bd + 1 ≤ v3.heap.size := by omega
  clear hz0 hzz
  have hz0 := hz0'
  clear hz0'
  have HLEN := Lib.hid (show (l2 0 a [UInt8.ofNat w.toNat, UInt8.ofNat st.toNat]).length ≤ 1000000 from Nat.le_trans (l2_len _ _ _) (by simp))
  have hW' : Wt v3 (bd + 1) (bd + 1) (e2 0 a) (l2 0 a [UInt8.ofNat w.toNat, UInt8.ofNat st.toNat]) := hW
  have HL := Lib.hid (l2_len 0 a [UInt8.ofNat w.toNat, UInt8.ofNat st.toNat])
  clear hW
  have hW := hW'
  clear hW'
  generalize hE1 : e2 0 a = E1 at *
  generalize hL1 : l2 0 a [UInt8.ofNat w.toNat, UInt8.ofNat st.toNat] = L1 at *
  clear hE1 hL1
  have q0 := hD.cell 0
  have q1 := hD.cell 1
  have q2 := hD.cell 2
  have q3 := hD.cell 3
  have q4 := hD.cell 4
  have HC := Lib.hid (wtwo_e (bd + 1) (bd + 1) E1 l _ _ hW hbase hz0 HLEN.out)
  clear hW
  go_wp2_with fail
  refine HC.out.mono ?_
  clear HC
  rintro e v4 ⟨rfl, hW, hb, hzz⟩
  have hD' := hD.below hb (by omega)
  clear hD q0 q1 q2 q3 q4
  have hD := hD'
  clear hD'
  have hB' := hB.trans (hb.mono (by omega))
  clear hB hb
  have hB := hB'
  clear hB'
  have hz0' : bd + 1 ≤ v4.heap.size := by omega
  clear hz0 hzz
  have hz0 := hz0'
  clear hz0'
  have hW' : Wt v4 (bd + 1) (bd + 1) (e2 E1 l) (l2 E1 l L1) := hW
  clear hW
  have hW := hW'
  clear hW' HLEN
  have HLEN := Lib.hid (show (l2 E1 l L1).length ≤ 1000000 from by have h1 := l2_len E1 l L1; have h2 := HL.out; simp only [List.length_cons, List.length_nil] at h2; omega)
  generalize hE2 : e2 E1 l = E2 at *
  generalize hL2 : l2 E1 l L1 = L2 at *
  clear hE2 hL2 HL
  have q0 := hD.cell 0
  have q1 := hD.cell 1
  have q2 := hD.cell 2
  have q3 := hD.cell 3
  have q4 := hD.cell 4
  have HC := Lib.hid (wtwo_e (bd + 1) (bd + 1) E2 g _ _ hW hbase hz0 HLEN.out)
  clear hW
  go_wp2_with fail
  refine HC.out.mono ?_
  clear HC
  rintro e v5 ⟨rfl, hW, hb, hzz⟩
  have hD' := hD.below hb (by omega)
  clear hD q0 q1 q2 q3 q4
  have hD := hD'
  clear hD'
  have hB' := hB.trans (hb.mono (by omega))
  clear hB hb
  have hB := hB'
  clear hB'
  have hz0' : bd + 1 ≤ v5.heap.size := by omega
  clear hz0 hzz
  have hz0 := hz0'
  clear hz0'
  have hW' : Wt v5 (bd + 1) (bd + 1) (e2 E2 g) (l2 E2 g L2) := hW
  clear hW
  have hW := hW'
  clear hW' HLEN hz0 hD
  have HC := Lib.hid (wbytes_any (bd + 1) (bd + 1) _ _ _ hW)
  have HE := Lib.hid (werr_any (bd + 1) (bd + 1) _ _ _ hW)
  rw [HF.out.2] at HC
  rw [HF.out.1] at HE
  clear hW
  go_wp2_with fail
  refine HC.out.mono ?_
  rintro e v6 ⟨rfl, rfl⟩
  go_wp2_with fail
  refine HE.out.mono ?_
  rintro e v6 ⟨rfl, rfl⟩
  go_wp2
  go_ret2
  exact ⟨_, rfl, rfl, by rw [HBD.out]; exact hB⟩
end De
end Go.Proofs.Ytdjckfcafiikeaa
