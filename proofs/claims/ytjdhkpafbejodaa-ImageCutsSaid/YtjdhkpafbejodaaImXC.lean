/- The law ImageCuts: its walk. -/
import Derived.Test.YtjdhkpafbejodaaImXB
namespace Go.Proofs.Ytjdhkpafbejodaa
open Go.RowKit
namespace Im
open Sm Bi
set_option linter.unusedVariables false
/-- A box of tables, a while into a walk. -/
structure B1 (W w : World) (bx : Nat) (c : Cfg) (a1 : Option Addr) (c1 : Nat) (a2 : Option Addr) (c2 : Nat) (a3 : Option Addr) (c3 : Nat) : Prop where
  hA : Blk w bx 28 #[.int .i64 c.fr, .slice a1 c.ws.length c1, .slice a2 c.ss.length c2, .slice a3 c.cs.length c3]
  hB : Below W.heap.size W w
  cC : CfR w c a1 a2 a3
section
variable {W w w' : World} {bx : Nat} {c : Cfg} {a1 : Option Addr} {c1 : Nat} {a2 : Option Addr} {c2 : Nat} {a3 : Option Addr} {c3 : Nat}
theorem B1.next (h : B1 W w bx c a1 c1 a2 c2 a3 c3) (hk : Below w.heap.size w w') : B1 W w' bx c a1 c1 a2 c2 a3 c3 := ⟨h.hA.below hk h.hA.lt, h.hB.trans (hk.mono h.hB.size), h.cC.keep hk⟩
theorem B1.cells (h : B1 W w bx c a1 c1 a2 c2 a3 c3) : w.cell? ⟨bx, 0, none⟩ = some (.int .i64 c.fr) ∧ w.cell? ⟨bx, 1, none⟩ = some (.slice a1 c.ws.length c1) ∧ w.cell? ⟨bx, 2, none⟩ = some (.slice a2 c.ss.length c2) ∧ w.cell? ⟨bx, 3, none⟩ = some (.slice a3 c.cs.length c3) := ⟨h.hA.cell 0, h.hA.cell 1, h.hA.cell 2, h.hA.cell 3⟩
theorem b1_0 (W : World) (hc : CfR W c a1 a2 a3) : B1 W (W.alloc (.cells #[.int .i64 c.fr, .slice a1 c.ws.length c1, .slice a2 c.ss.length c2, .slice a3 c.cs.length c3] 28)) W.heap.size c a1 c1 a2 c2 a3 c3 := by
  have hB : Below W.heap.size W (W.alloc (.cells #[.int .i64 c.fr, .slice a1 c.ws.length c1, .slice a2 c.ss.length c2, .slice a3 c.cs.length c3] 28)) := (Below.refl W.heap.size W).alloc (Nat.le_refl _) _
  exact ⟨Blk.new W 28 #[.int .i64 c.fr, .slice a1 c.ws.length c1, .slice a2 c.ss.length c2, .slice a3 c.cs.length c3], hB, hc.keep hB⟩
end
/-- Whatever it answers. -/
def IsSome (V : World) (e : Ending) (V' : World) : Prop := ∃ (r : ByteArray) (n : Int), e = .returned (.tuple #[.string r, .int .i64 n]) ∧ Below V.heap.size V V'
theorem rprint_some (c : Cfg) (a1 : Option Addr) (c1 : Nat) (a2 : Option Addr) (c2 : Nat) (a3 : Option Addr) (c3 : Nat) (W : World) (hr : CfR W c a1 a2 a3) : Calls Try.prog 12 #[.agg #[.int .i64 c.fr, .slice a1 c.ws.length c1, .slice a2 c.ss.length c2, .slice a3 c.cs.length c3]] W (IsSome W) := by
  refine (rprint_all c a1 c1 a2 c2 a3 c3 W hr).mono ?_
  rintro e W' ⟨r, n, rfl, h1, _⟩
  exact ⟨r, n, rfl, h1⟩
theorem rseal_go (r : ByteArray) (T : List UInt8) (ht : r.data.toList = T) (hs : r.size ≤ 1998) (V : World) : Calls Try.prog 7 #[.string r] V fun e V' => ∃ q : ByteArray, e = .returned (.string q) ∧ q.data.toList = Cw.sealL T ∧ q.size ≤ 2000 ∧ Below V.heap.size V V' := by
  subst ht
  refine (Cw.rseal_any r V (by omega)).mono ?_
  rintro e V' ⟨q, rfl, h1, h2⟩
  refine ⟨q, rfl, h1, ?_, h2⟩
  rw [size_of q _ h1, Cw.sealL_length]
  simp
  omega
/-- Parsed: the error is what counts. -/
def IsErr (x : Int) (V : World) (e : Ending) (V' : World) : Prop := ∃ (f : Int) (a1 : Option Addr) (n1 c1 : Nat) (a2 : Option Addr) (n2 c2 : Nat) (a3 : Option Addr) (n3 c3 : Nat), e = .returned (.tuple #[.agg #[.int .i64 f, .slice a1 n1 c1, .slice a2 n2 c2, .slice a3 n3 c3], .int .i64 x]) ∧ Below V.heap.size V V'
theorem parse_x (q : ByteArray) (hs : q.size ≤ 2000) {l : List UInt8} (hl : q.data.toList = l) {x : Int} (hx : pE l = x) (V : World) : Calls Try.prog 8 #[.string q] V (IsErr x V) := by
  subst hl
  refine (parse_go q hs rfl hx V).mono ?_
  rintro e V' ⟨a1, c1, a2, c2, a3, c3, rfl, _, h⟩
  exact ⟨_, a1, _, c1, a2, _, c2, a3, _, c3, rfl, h⟩
theorem app_data (a b : ByteArray) : (a ++ b).data.toList = a.data.toList ++ b.data.toList := by simp
attribute [local irreducible] pE pC pOut pErr eqC fewC
set_option maxRecDepth 100000 in
set_option maxHeartbeats 8000000 in
theorem cuts_law (c : Cfg) (a1 : Option Addr) (c1 : Nat) (a2 : Option Addr) (c2 : Nat) (a3 : Option Addr) (c3 : Nat) (at_ : Int) (m : ByteArray) (W : World) (hc : CfR W c a1 a2 a3) (hat : (Lit.int .u16 at_).wf = true) (hmx : m.size ≤ maxLen) :
    Calls Try.prog 4 #[cv c a1 c1 a2 c2 a3 c3, .int .u16 at_, .string m] W fun e W' => e = .returned (.bool true) ∧ Below W.heap.size W W' := by
  have HX := Lib.hid (b1_0 (c1 := c1) (c2 := c2) (c3 := c3) W hc)
  have hwc := hc.wf
  have hat2 : 0 ≤ at_ ∧ at_ ≤ 65535 := by
    simp [Lit.wf, IntKind.min, IntKind.max, IntKind.signed, IntKind.bits] at hat
    omega
  obtain ⟨hat0, hat1⟩ := hat2
  unfold cv
  clear hc hat
  by_cases hf : fewC c = true
  case neg =>
    have hf' : fewC c = false := by simpa using hf
    have HF := Lib.hid (fun V => few_go c a1 c1 a2 c2 a3 c3 V false hf')
    have HQ := Lib.hid (fun V hcV => rprint_some c a1 c1 a2 c2 a3 c3 V hcV)
    clear hf hf'
    go_enter Try.func4, Try.ntmps4
    go_wp2_with fail
    generalize W.alloc _ = w1 at *
    generalize hbx : W.heap.size = bx at *
    refine (HQ.out _ HX.out.cC).mono ?_
    clear HQ
    rintro e v2 ⟨r, n, rfl, hb⟩
    have hX2 := HX.out.next hb
    obtain ⟨q0, q1, q2, q3⟩ := hX2.cells
    clear HX
    have HX := Lib.hid hX2
    clear hX2
    go_wp2_with fail
    clear q0 q1 q2 q3
    refine (HF.out _).mono ?_
    clear HF
    rintro e v3 ⟨rfl, hb⟩
    have HX3 := Lib.hid (HX.out.next hb)
    clear hb
    go_wp2_with (go_at_call 6; refine (live_any _).mono ?_; rintro e v7 ⟨rfl, hb7⟩)
    go_ret
    exact ⟨rfl, HX3.out.hB.trans (hb7.mono HX3.out.hB.size)⟩
  have HF := Lib.hid (fun V => few_go c a1 c1 a2 c2 a3 c3 V true hf)
  have hfc := (fewC_iff c).1 hf
  have HFC := Lib.hid hfc
  have hnc := nums_60 hwc hfc.1 hfc.2.1 hfc.2.2
  clear hf
  by_cases hok : (nums c).all okN = true
  case neg =>
    obtain ⟨p1, p2⟩ := p_bad hok
    have HQ := Lib.hid (fun V hcV => rprint_go c a1 c1 a2 c2 a3 c3 V hcV (by omega) (by omega) (by omega) (by omega) p1 p2)
    clear hok p1 p2 hfc hnc
    go_enter Try.func4, Try.ntmps4
    go_wp2_with fail
    generalize W.alloc _ = w1 at *
    generalize hbx : W.heap.size = bx at *
    refine (HQ.out _ HX.out.cC).mono ?_
    clear HQ
    rintro e v2 ⟨r, rfl, _, hb⟩
    have hX2 := HX.out.next hb
    obtain ⟨q0, q1, q2, q3⟩ := hX2.cells
    clear HX
    have HX := Lib.hid hX2
    clear hX2
    go_wp2_with fail
    clear q0 q1 q2 q3
    refine (HF.out _).mono ?_
    clear HF
    rintro e v3 ⟨rfl, hb⟩
    have HX3 := Lib.hid (HX.out.next hb)
    clear hb
    go_wp2_with (go_at_call 6; refine (live_any _).mono ?_; rintro e v7 ⟨rfl, hb7⟩)
    go_ret
    exact ⟨rfl, HX3.out.hB.trans (hb7.mono HX3.out.hB.size)⟩
  obtain ⟨p1, p2⟩ := p_ok hok
  have hel := enc_len hwc hok
  have HM := Lib.hid (fun mm => pE_more hwc hok mm)
  have HCU := Lib.hid (fun k hk => pE_cut hwc hok k hk)
  have HQ := Lib.hid (fun V hcV => rprint_go c a1 c1 a2 c2 a3 c3 V hcV (by omega) (by omega) (by omega) (by omega) p1 p2)
  have hel2 : (encN (nums c)).length ≤ 1500 ∧ 7 ≤ (encN (nums c)).length := by omega
  generalize encN (nums c) = T at *
  clear hok p1 p2 hfc hnc hel
  by_cases hm : 50 < m.size
  case pos =>
    have hm' : (50 : Int) < (m.size : Int) := by omega
    clear hm
    go_enter Try.func4, Try.ntmps4
    go_wp2_with fail
    generalize W.alloc _ = w1 at *
    generalize hbx : W.heap.size = bx at *
    refine (HQ.out _ HX.out.cC).mono ?_
    clear HQ
    rintro e v2 ⟨r, rfl, _, hb⟩
    have hX2 := HX.out.next hb
    obtain ⟨q0, q1, q2, q3⟩ := hX2.cells
    clear HX
    have HX := Lib.hid hX2
    clear hX2
    go_wp2_with fail
    clear q0 q1 q2 q3
    refine (HF.out _).mono ?_
    clear HF
    rintro e v3 ⟨rfl, hb⟩
    have HX3 := Lib.hid (HX.out.next hb)
    clear hb
    go_wp2_with (go_at_call 6; refine (live_any _).mono ?_; rintro e v7 ⟨rfl, hb7⟩)
    go_ret
    exact ⟨rfl, HX3.out.hB.trans (hb7.mono HX3.out.hB.size)⟩
  have hm' : ¬ (50 : Int) < (m.size : Int) := by omega
  have HEL := Lib.hid hel2
  have HMZ := Lib.hid hm
  clear hel2 hm
  go_enter Try.func4, Try.ntmps4
  go_wp2_with fail
  generalize W.alloc _ = w1 at *
  generalize hbx : W.heap.size = bx at *
  refine (HQ.out _ HX.out.cC).mono ?_
  clear HQ
  rintro e v2 ⟨r, rfl, hr, hb⟩
  have hX2 := HX.out.next hb
  obtain ⟨q0, q1, q2, q3⟩ := hX2.cells
  clear HX
  have HX := Lib.hid hX2
  clear hX2
  have hrz := size_of r _ hr
  rw [Cw.sealL_length] at hrz
  go_wp2_with fail
  clear q0 q1 q2 q3
  refine (HF.out _).mono ?_
  clear HF
  rintro e v3 ⟨rfl, hb⟩
  have HB3 := Lib.hid (HX.out.next hb).hB
  clear hb HX
  have ht : (r.extract 0 (r.size - 2)).data.toList = T := by
    rw [take_data, hr, hrz, Nat.add_sub_cancel]
    exact List.take_left
  have htz : (r.extract 0 (r.size - 2)).size = T.length := size_of _ _ ht
  have hcast : ((r.size : Int) - 2).toNat = r.size - 2 := by omega
  have hr2 : (2 : Int) ≤ (r.size : Int) := by omega
  have hrm : (r.size : Int) ≤ 2000 := by have := HEL.out; omega
  have hsl : (r.size : Int) - 2 ≤ (r.size : Int) := by omega
  generalize ht0 : r.extract 0 (r.size - 2) = t at *
  obtain ⟨k, hk⟩ := Int.eq_ofNat_of_zero_le (Int.emod_nonneg at_ (show (t.size : Int) ≠ 0 by have := HEL.out; omega))
  have hkl : k < t.size := by
    have := Int.emod_lt_of_pos at_ (show (0 : Int) < (t.size : Int) by have := HEL.out; omega)
    omega
  have hk2 : at_.tmod (t.size : Int) = (k : Int) := by rw [Int.tmod_eq_emod_of_nonneg hat0]; exact hk
  have hki : (k : Int) ≤ (t.size : Int) := by omega
  have hki0 : (0 : Int) ≤ (k : Int) := by omega
  have htz1 : (1 : Int) ≤ (t.size : Int) := by have := HEL.out; omega
  have hsum : t.size + m.size ≤ 9223372036854775807 := by have := HEL.out; have := HMZ.out; omega
  have HSA := Lib.hid (rseal_go (t.extract 0 k) (T.take k) (by rw [take_data, ht]) (by have hh := size_of _ _ (take_data t k); rw [ht, List.length_take] at hh; have := HEL.out; omega))
  have HPA := Lib.hid (fun q h1 h2 => parse_x q h1 (l := Cw.sealL (T.take k)) h2 (HCU.out k (by omega)))
  have HSB := Lib.hid (rseal_go (t ++ m) (T ++ m.data.toList) (by rw [app_data, ht]) (by have hh := size_of _ _ (app_data t m); rw [List.length_append, ht] at hh; have hml : m.data.toList.length = m.size := (by simp); have := HEL.out; have := HMZ.out; omega))
  have HTZ := Lib.hid (And.intro ht htz)
  clear ht htz hrz hkl hk HCU hr
  by_cases hmd : m.data.toList = []
  · have hmt := sempty hmd
    have hmt2 : (m.toList == []) = true := seq_lit hmd
    have hmo := HM.out m.data.toList
    rw [if_pos hmd] at hmo
    have HPB := Lib.hid (fun q h1 h2 => parse_x q h1 (l := Cw.sealL (T ++ m.data.toList)) h2 (hmo))
    clear hmo HM hmd
    go_wp2_with fail
    refine (HSA.out _).mono ?_
    clear HSA
    rintro e v4 ⟨q4, rfl, h4a, h4b, hb⟩
    have HB4 := Lib.hid (HB3.out.trans (hb.mono HB3.out.size))
    have HC := Lib.hid (HPA.out q4 h4b h4a)
    clear hb h4a h4b HPA HB3
    go_wp2_with fail
    refine (HC.out _).mono ?_
    clear HC
    rintro e v5 ⟨f1, e1, n1, g1, e2, n2, g2, e3, n3, g3, rfl, hb⟩
    have hB5 := HB4.out.trans (hb.mono HB4.out.size)
    have HB6 := Lib.hid (hB5.alloc hB5.size (.cells #[.int .i64 f1, .slice e1 n1 g1, .slice e2 n2 g2, .slice e3 n3 g3] 28))
    clear hb hB5 HB4
    go_wp2_with fail
    generalize v5.alloc _ = v6 at *
    refine (HSB.out _).mono ?_
    clear HSB
    rintro e v8 ⟨q8, rfl, h8a, h8b, hb⟩
    have HB8 := Lib.hid (HB6.out.trans (hb.mono HB6.out.size))
    have HC := Lib.hid (HPB.out q8 h8b h8a)
    clear hb h8a h8b HPB HB6
    go_wp2_with fail
    refine (HC.out _).mono ?_
    clear HC
    rintro e v9 ⟨f1', e1', n1', g1', e2', n2', g2', e3', n3', g3', rfl, hb⟩
    have hB9 := HB8.out.trans (hb.mono HB8.out.size)
    have HB9 := Lib.hid (hB9.alloc hB9.size (.cells #[.int .i64 f1', .slice e1' n1' g1', .slice e2' n2' g2', .slice e3' n3' g3'] 28))
    clear hb hB9 HB8
    go_wp2_with (go_at_call 6; refine (live_any _).mono ?_; rintro e v7 ⟨rfl, hb7⟩)
    go_ret
    exact ⟨rfl, HB9.out.trans (hb7.mono HB9.out.size)⟩
  · have hmt := snonempty hmd
    have hmo := HM.out m.data.toList
    rw [if_neg hmd] at hmo
    have HPB := Lib.hid (fun q h1 h2 => parse_x q h1 (l := Cw.sealL (T ++ m.data.toList)) h2 (hmo))
    clear hmo HM hmd
    go_wp2_with fail
    refine (HSA.out _).mono ?_
    clear HSA
    rintro e v4 ⟨q4, rfl, h4a, h4b, hb⟩
    have HB4 := Lib.hid (HB3.out.trans (hb.mono HB3.out.size))
    have HC := Lib.hid (HPA.out q4 h4b h4a)
    clear hb h4a h4b HPA HB3
    go_wp2_with fail
    refine (HC.out _).mono ?_
    clear HC
    rintro e v5 ⟨f1, e1, n1, g1, e2, n2, g2, e3, n3, g3, rfl, hb⟩
    have hB5 := HB4.out.trans (hb.mono HB4.out.size)
    have HB6 := Lib.hid (hB5.alloc hB5.size (.cells #[.int .i64 f1, .slice e1 n1 g1, .slice e2 n2 g2, .slice e3 n3 g3] 28))
    clear hb hB5 HB4
    go_wp2_with fail
    generalize v5.alloc _ = v6 at *
    refine (HSB.out _).mono ?_
    clear HSB
    rintro e v8 ⟨q8, rfl, h8a, h8b, hb⟩
    have HB8 := Lib.hid (HB6.out.trans (hb.mono HB6.out.size))
    have HC := Lib.hid (HPB.out q8 h8b h8a)
    clear hb h8a h8b HPB HB6
    go_wp2_with fail
    refine (HC.out _).mono ?_
    clear HC
    rintro e v9 ⟨f1', e1', n1', g1', e2', n2', g2', e3', n3', g3', rfl, hb⟩
    have hB9 := HB8.out.trans (hb.mono HB8.out.size)
    have HB9 := Lib.hid (hB9.alloc hB9.size (.cells #[.int .i64 f1', .slice e1' n1' g1', .slice e2' n2' g2', .slice e3' n3' g3'] 28))
    clear hb hB9 HB8
    go_wp2_with (go_at_call 6; refine (live_any _).mono ?_; rintro e v7 ⟨rfl, hb7⟩)
    go_ret
    exact ⟨rfl, HB9.out.trans (hb7.mono HB9.out.size)⟩
end Im
end Go.Proofs.Ytjdhkpafbejodaa
