/- The writer, number by number; a window's row, a client's row. -/
import Derived.Test.YtjdhkpafbejodaaImB
import Derived.Test.YtjdhkpafbejodaaBitsH
import Derived.Test.YtjdhkpafbejodaaCrcL2
namespace Go.Proofs.Ytjdhkpafbejodaa
open Go.RowKit
namespace Im
open Sm Bi
/-- A writer that is in a state. -/
def WtS (w : World) (base bw : Nat) (st : Int × List UInt8) : Prop := Wt w base bw st.1 st.2
def IsWs (base bw : Nat) (st : Int × List UInt8) (w : World) (e : Ending) (w' : World) : Prop := e = .returned (.tuple #[]) ∧ WtS w' base bw st ∧ Below base w w' ∧ w.heap.size ≤ w'.heap.size ∧ Others w w'
section
variable {base bw : Nat} {st : Int × List UInt8} {w : World}
theorem okN1 (n : Int) : okN (n, 1) = true ↔ 0 ≤ n ∧ n ≤ 255 := by simp [okN]
theorem okN2 (n : Int) : okN (n, 2) = true ↔ 0 ≤ n ∧ n ≤ 65535 := by simp [okN]
theorem byteN {n : Int} (h : 0 ≤ n ∧ n ≤ 255) : bytesN (n, 1) = [UInt8.ofNat n.toNat] := by
  unfold bytesN putL
  rw [show n % 256 = n from by omega]
  rfl
theorem wbyteN (n : Int) (h : WtS w base bw st) (hbase : base ≤ bw) (hw : base ≤ w.heap.size) (hl : st.2.length ≤ 1000000) :
    Calls Try.prog 25 #[.pointer (some ⟨bw, 0, none⟩), .int .i64 n] w (IsWs base bw (wst st (n, 1)) w) := by
  refine (wbyte_any base bw st.1 n st.2 w h hbase hw hl).mono ?_
  rintro e w' ⟨rfl, h1, h2⟩
  refine ⟨rfl, ?_, h2⟩
  unfold WtS wst
  by_cases h0 : st.1 = 0
  · rw [if_pos h0]
    by_cases hn : 0 ≤ n ∧ n ≤ 255
    · rw [if_pos ((okN1 n).2 hn), byteN hn]
      rw [if_pos h0, if_pos hn, if_pos ⟨h0, hn⟩] at h1
      exact h1
    · rw [if_neg (fun h9 => hn ((okN1 n).1 h9))]
      rw [if_pos h0, if_neg hn, if_neg (fun h9 => hn h9.2)] at h1
      exact h1
  · rw [if_neg h0]
    rw [if_neg h0, if_neg (fun h9 => h0 h9.1)] at h1
    exact h1
theorem wtwoN (n : Int) (h : WtS w base bw st) (hbase : base ≤ bw) (hw : base ≤ w.heap.size) (hl : st.2.length ≤ 1000000) :
    Calls Try.prog 26 #[.pointer (some ⟨bw, 0, none⟩), .int .i64 n] w (IsWs base bw (wst st (n, 2)) w) := by
  refine (wtwo_any base bw st.1 n st.2 w h hbase hw hl).mono ?_
  rintro e w' ⟨rfl, h1, h2⟩
  refine ⟨rfl, ?_, h2⟩
  unfold WtS wst
  by_cases h0 : st.1 = 0
  · rw [if_pos h0]
    by_cases hn : 0 ≤ n ∧ n ≤ 65535
    · rw [if_pos ((okN2 n).2 hn)]
      rw [if_pos h0, if_pos hn, if_pos ⟨h0, hn⟩] at h1
      exact h1
    · rw [if_neg (fun h9 => hn ((okN2 n).1 h9))]
      rw [if_pos h0, if_neg hn, if_neg (fun h9 => hn h9.2)] at h1
      exact h1
  · rw [if_neg h0]
    rw [if_neg h0, if_neg (fun h9 => h0 h9.1)] at h1
    exact h1
end
attribute [local irreducible] wst WtS
theorem row_any (base bw : Nat) (st : Int × List UInt8) (o f t : Int) (w : World) (h : WtS w base bw st) (hbase : base ≤ bw) (hw : base ≤ w.heap.size) (hl : st.2.length ≤ 900000) :
    Calls Try.prog 27 #[.pointer (some ⟨bw, 0, none⟩), .int .i64 o, .int .i64 f, .int .i64 t] w (IsWs base bw (wst (wst (wst st (o, 1)) (f, 2)) (t, 2)) w) := by
  have l1 := wst_len st (o, 1)
  have l2 := wst_len (wst st (o, 1)) (f, 2)
  have HC := Lib.hid (wbyteN o h hbase hw (by omega))
  clear h
  go_enter Try.func27, Try.ntmps27
  go_wp2_with fail
  refine HC.out.mono ?_
  clear HC
  rintro e w1 ⟨rfl, h1, b1, s1, o1⟩
  have HC := Lib.hid (wtwoN f h1 hbase (by omega) (by omega))
  clear h1
  go_wp2_with fail
  refine HC.out.mono ?_
  clear HC
  rintro e w2 ⟨rfl, h2, b2, s2, o2⟩
  have HC := Lib.hid (wtwoN t h2 hbase (by omega) (by omega))
  clear h2
  go_wp2_with fail
  refine HC.out.mono ?_
  clear HC
  rintro e w3 ⟨rfl, h3, b3, s3, o3⟩
  have HF := Lib.hid (And.intro h3 (And.intro ((b1.trans b2).trans b3) (And.intro (by omega : w.heap.size ≤ w3.heap.size) ((o1.trans o2).trans o3))))
  clear h3 b1 b2 b3 o1 o2 o3
  go_wp2
  go_end0
  exact ⟨rfl, HF.out⟩
end Im
end Go.Proofs.Ytjdhkpafbejodaa
