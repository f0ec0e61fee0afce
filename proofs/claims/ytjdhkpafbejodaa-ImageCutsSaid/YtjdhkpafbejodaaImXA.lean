/- The law ImageParses: its walk. -/
import Derived.Test.YtjdhkpafbejodaaImV
import Derived.Test.YtjdhkpafbejodaaImW
namespace Go.Proofs.Ytjdhkpafbejodaa
open Go.RowKit
namespace Im
open Sm Bi
def IsCfg (c : Cfg) (x : Int) (V : World) (e : Ending) (V' : World) : Prop := ∃ (a1 : Option Addr) (c1 : Nat) (a2 : Option Addr) (c2 : Nat) (a3 : Option Addr) (c3 : Nat), e = .returned (.tuple #[.agg #[.int .i64 c.fr, .slice a1 c.ws.length c1, .slice a2 c.ss.length c2, .slice a3 c.cs.length c3], .int .i64 x]) ∧ CfR V' c a1 a2 a3 ∧ Below V.heap.size V V'
theorem parse_go (s : ByteArray) (hs : s.size ≤ 2000) {c : Cfg} {x : Int} (hc : pC s.data.toList = c) (hx : pE s.data.toList = x) (V : World) : Calls Try.prog 8 #[.string s] V (IsCfg c x V) := by
  subst hc
  subst hx
  exact parse_any s V hs
theorem rparse_go (s : ByteArray) (hs : s.size ≤ 2000) {c : Cfg} {x : Int} (hc : pC s.data.toList = c) (hx : pE s.data.toList = x) (V : World) : Calls Try.prog 9 #[.string s] V (IsCfg c x V) := by
  subst hc
  subst hx
  exact rparse_any s V hs
theorem rsame_go (c : Cfg) (a1 : Option Addr) (c1 : Nat) (a2 : Option Addr) (c2 : Nat) (a3 : Option Addr) (c3 : Nat) (b1 : Option Addr) (d1 : Nat) (b2 : Option Addr) (d2 : Nat) (b3 : Option Addr) (d3 : Nat) (W : World) (hc : CfR W c a1 a2 a3) (hd : CfR W c b1 b2 b3)
    (l1 : c.ws.length ≤ 255) (l2 : c.ss.length ≤ 255) (l3 : c.cs.length ≤ 255) (hN : (nums c).length ≤ 4100) :
    Calls Try.prog 10 #[.agg #[.int .i64 c.fr, .slice a1 c.ws.length c1, .slice a2 c.ss.length c2, .slice a3 c.cs.length c3], .agg #[.int .i64 c.fr, .slice b1 c.ws.length d1, .slice b2 c.ss.length d2, .slice b3 c.cs.length d3]] W fun e w' => e = .returned (.bool true) ∧ Below W.heap.size W w' := by
  have h := rsame_any c c a1 c1 a2 c2 a3 c3 b1 d1 b2 d2 b3 d3 W hc hd l1 l2 l3 hN l1 l2 l3 hN
  rw [(eqC_iff c c).2 rfl] at h
  exact h
theorem print_go (c : Cfg) (a1 : Option Addr) (c1 : Nat) (a2 : Option Addr) (c2 : Nat) (a3 : Option Addr) (c3 : Nat) (W : World) (hc : CfR W c a1 a2 a3) (l1 : c.ws.length ≤ 255) (l2 : c.ss.length ≤ 255) (l3 : c.cs.length ≤ 255) (hN : (nums c).length ≤ 1900) {l : List UInt8} {n : Int} (h1 : pOut c = l) (h2 : pErr c = n) :
    Calls Try.prog 11 #[.agg #[.int .i64 c.fr, .slice a1 c.ws.length c1, .slice a2 c.ss.length c2, .slice a3 c.cs.length c3]] W (IsPr l n W) := by
  subst h1
  subst h2
  exact print_any c a1 c1 a2 c2 a3 c3 W hc l1 l2 l3 hN
attribute [local irreducible] pE pC pOut pErr
set_option maxRecDepth 100000 in
set_option maxHeartbeats 4000000 in
theorem parses_law (s : ByteArray) (b : Bool) (W : World) (_ : s.size ≤ maxLen) :
    Calls Try.prog 3 #[.string s, .bool b] W fun e W' => e = .returned (.bool true) ∧ Below W.heap.size W W' := by
  by_cases hs : s.size ≤ 1000
  case neg =>
    have hl : (1000 : Int) < (s.size : Int) := by omega
    go_enter Try.func3, Try.ntmps3
    go_wp2_with (go_at_call 6; refine (live_any _).mono ?_; rintro e v7 ⟨rfl, hb7⟩)
    go_ret
    exact ⟨rfl, hb7⟩
  cases b with
  | false =>
    have BEFORE := Lib.hid (Below.refl W.heap.size W)
    obtain ⟨x, hx⟩ : ∃ x, pE s.data.toList = x := ⟨_, rfl⟩
    obtain ⟨c, hc⟩ : ∃ c, pC s.data.toList = c := ⟨_, rfl⟩
    have HP := Lib.hid (fun V => parse_go s (by omega) hc hx V)
    have HR := Lib.hid (fun V => rparse_go s (by omega) hc hx V)
    have hlb := pC_255 s.data.toList
    have hwf := pC_wf s.data.toList
    rw [hc] at hlb hwf
    have hn4 := nums_255 hwf hlb.1 hlb.2.1 hlb.2.2
    have HLB := Lib.hid (And.intro hlb hn4)
    have HBK := Lib.hid (fun h0 : x = 0 => pC_back (l := s.data.toList) (hx.trans h0))
    rw [hc] at HBK
    clear hc hx hlb hwf hn4
    have hle : ¬ (1000 : Int) < (s.size : Int) := by omega
    go_enter Try.func3, Try.ntmps3
    go_wp2_with fail
    refine (HP.out _).mono ?_
    clear HP
    rintro e v1 ⟨a1, c1, a2, c2, a3, c3, rfl, hcr1, hb1⟩
    have hB2 := (BEFORE.out.trans (hb1.mono BEFORE.out.size))
    have hf2 := Blk.new v1 28 #[.int .i64 c.fr, .slice a1 c.ws.length c1, .slice a2 c.ss.length c2, .slice a3 c.cs.length c3]
    have hk2 := (Below.refl v1.heap.size v1).alloc (Nat.le_refl _) (.cells #[.int .i64 c.fr, .slice a1 c.ws.length c1, .slice a2 c.ss.length c2, .slice a3 c.cs.length c3] 28)
    have hcr2 := hcr1.keep hk2
    have hB2' := hB2.trans (hk2.mono hB2.size)
    have HS2 := Lib.hid (And.intro hB2' (And.intro hf2 hcr2))
    clear hB2 hf2 hk2 hcr2 hB2' hcr1 hb1 BEFORE
    go_wp2_with fail
    generalize v1.alloc _ = v2 at *
    generalize v1.heap.size = g1 at *
    refine (HR.out _).mono ?_
    clear HR
    rintro e v3 ⟨b1, d1, b2, d2, b3, d3, rfl, hcr3, hb3⟩
    obtain ⟨hB2, hf2, hcr2⟩ := HS2.out
    have hk4 := (Below.refl v3.heap.size v3).alloc (Nat.le_refl _) (.cells #[.int .i64 c.fr, .slice b1 c.ws.length d1, .slice b2 c.ss.length d2, .slice b3 c.cs.length d3] 28)
    have hb34 := hb3.trans (hk4.mono hb3.size)
    have hA := hf2.below hb34 hf2.lt
    have hZ := Blk.new v3 28 #[.int .i64 c.fr, .slice b1 c.ws.length d1, .slice b2 c.ss.length d2, .slice b3 c.cs.length d3]
    have hcA := hcr2.keep hb34
    have hcZ := hcr3.keep hk4
    have hB4 := hB2.trans (hb34.mono hB2.size)
    have HCT := Lib.hid (And.intro hB4 (And.intro hcA hcZ))
    clear HS2 hB2 hf2 hcr2 hk4 hb34 hcA hcZ hB4 hcr3 hb3
    have q0 := hA.cell 0
    have q1 := hA.cell 1
    have q2 := hA.cell 2
    have q3 := hA.cell 3
    have z0 := hZ.cell 0
    have z1 := hZ.cell 1
    have z2 := hZ.cell 2
    have z3 := hZ.cell 3
    simp only [List.getElem?_toArray, List.getElem?_cons_succ, List.getElem?_cons_zero] at q0 q1 q2 q3 z0 z1 z2 z3
    have HA := Lib.hid hA
    clear hA hZ
    have HSM := Lib.hid (rsame_go c a1 c1 a2 c2 a3 c3 b1 d1 b2 d2 b3 d3 _ HCT.out.2.1 HCT.out.2.2 HLB.out.1.1 HLB.out.1.2.1 HLB.out.1.2.2 HLB.out.2)
    go_wp2_with fail
    generalize v3.alloc _ = v4 at *
    generalize v3.heap.size = g2 at *
    refine HSM.out.mono ?_
    clear HSM
    rintro e v5 ⟨rfl, hb5⟩
    have hA5 := HA.out.below hb5 HA.out.lt
    have hcA5 := HCT.out.2.1.keep hb5
    have hB5 := HCT.out.1.trans (hb5.mono HCT.out.1.size)
    clear q0 q1 q2 q3 z0 z1 z2 z3
    have q0 := hA5.cell 0
    have q1 := hA5.cell 1
    have q2 := hA5.cell 2
    have q3 := hA5.cell 3
    simp only [List.getElem?_toArray, List.getElem?_cons_succ, List.getElem?_cons_zero] at q0 q1 q2 q3
    have HC5 := Lib.hid (And.intro hB5 hcA5)
    clear HA HCT hb5 hA5 hcA5 hB5
    by_cases h0 : x = 0
    · have hbk := HBK.out h0
      subst h0
      have hls : s.data.toList.length = s.size := (by simp)
      have hn19 : (nums c).length ≤ 1900 := by have := hbk.2.2; omega
      clear hls
      have HPR := Lib.hid (print_go c a1 c1 a2 c2 a3 c3 v5 HC5.out.2 HLB.out.1.1 HLB.out.1.2.1 HLB.out.1.2.2 hn19 hbk.1 hbk.2.1)
      clear hbk HBK
      go_wp2_with fail
      refine HPR.out.mono ?_
      clear HPR
      rintro e v6 ⟨t, rfl, ht, hb6⟩
      have hts : (t.toList == s.toList) = true := seq_true ht
      have HB6 := Lib.hid (HC5.out.1.trans (hb6.mono HC5.out.1.size))
      clear ht hb6 q0 q1 q2 q3 HC5
      go_wp2_with (go_at_call 6; refine (live_any _).mono ?_; rintro e v7 ⟨rfl, hb7⟩)
      go_ret
      exact ⟨rfl, HB6.out.trans (hb7.mono HB6.out.size)⟩
    · have hne : (x != 0) = true := by simpa using h0
      clear h0 q0 q1 q2 q3
      go_wp2_with (go_at_call 6; refine (live_any _).mono ?_; rintro e v7 ⟨rfl, hb7⟩)
      go_ret
      exact ⟨rfl, HC5.out.1.trans (hb7.mono HC5.out.1.size)⟩
  | true =>
    have HSL := Lib.hid (Cw.rseal_any s W (by omega))
    have hle : ¬ (1000 : Int) < (s.size : Int) := by omega
    go_enter Try.func3, Try.ntmps3
    go_wp2_with fail
    refine HSL.out.mono ?_
    clear HSL
    rintro e v0 ⟨r, rfl, hr, hb0⟩
    have hrz : r.size ≤ 1002 := by rw [size_of r _ hr, Cw.sealL_length]; simp; omega
    have BEFORE := Lib.hid hb0
    clear hr hb0
    obtain ⟨x, hx⟩ : ∃ x, pE r.data.toList = x := ⟨_, rfl⟩
    obtain ⟨c, hc⟩ : ∃ c, pC r.data.toList = c := ⟨_, rfl⟩
    have HP := Lib.hid (fun V => parse_go r (by omega) hc hx V)
    have HR := Lib.hid (fun V => rparse_go r (by omega) hc hx V)
    have hlb := pC_255 r.data.toList
    have hwf := pC_wf r.data.toList
    rw [hc] at hlb hwf
    have hn4 := nums_255 hwf hlb.1 hlb.2.1 hlb.2.2
    have HLB := Lib.hid (And.intro hlb hn4)
    have HBK := Lib.hid (fun h0 : x = 0 => pC_back (l := r.data.toList) (hx.trans h0))
    rw [hc] at HBK
    clear hc hx hlb hwf hn4
    go_wp2_with fail
    refine (HP.out _).mono ?_
    clear HP
    rintro e v1 ⟨a1, c1, a2, c2, a3, c3, rfl, hcr1, hb1⟩
    have hB2 := (BEFORE.out.trans (hb1.mono BEFORE.out.size))
    have hf2 := Blk.new v1 28 #[.int .i64 c.fr, .slice a1 c.ws.length c1, .slice a2 c.ss.length c2, .slice a3 c.cs.length c3]
    have hk2 := (Below.refl v1.heap.size v1).alloc (Nat.le_refl _) (.cells #[.int .i64 c.fr, .slice a1 c.ws.length c1, .slice a2 c.ss.length c2, .slice a3 c.cs.length c3] 28)
    have hcr2 := hcr1.keep hk2
    have hB2' := hB2.trans (hk2.mono hB2.size)
    have HS2 := Lib.hid (And.intro hB2' (And.intro hf2 hcr2))
    clear hB2 hf2 hk2 hcr2 hB2' hcr1 hb1 BEFORE
    go_wp2_with fail
    generalize v1.alloc _ = v2 at *
    generalize v1.heap.size = g1 at *
    refine (HR.out _).mono ?_
    clear HR
    rintro e v3 ⟨b1, d1, b2, d2, b3, d3, rfl, hcr3, hb3⟩
    obtain ⟨hB2, hf2, hcr2⟩ := HS2.out
    have hk4 := (Below.refl v3.heap.size v3).alloc (Nat.le_refl _) (.cells #[.int .i64 c.fr, .slice b1 c.ws.length d1, .slice b2 c.ss.length d2, .slice b3 c.cs.length d3] 28)
    have hb34 := hb3.trans (hk4.mono hb3.size)
    have hA := hf2.below hb34 hf2.lt
    have hZ := Blk.new v3 28 #[.int .i64 c.fr, .slice b1 c.ws.length d1, .slice b2 c.ss.length d2, .slice b3 c.cs.length d3]
    have hcA := hcr2.keep hb34
    have hcZ := hcr3.keep hk4
    have hB4 := hB2.trans (hb34.mono hB2.size)
    have HCT := Lib.hid (And.intro hB4 (And.intro hcA hcZ))
    clear HS2 hB2 hf2 hcr2 hk4 hb34 hcA hcZ hB4 hcr3 hb3
    have q0 := hA.cell 0
    have q1 := hA.cell 1
    have q2 := hA.cell 2
    have q3 := hA.cell 3
    have z0 := hZ.cell 0
    have z1 := hZ.cell 1
    have z2 := hZ.cell 2
    have z3 := hZ.cell 3
    simp only [List.getElem?_toArray, List.getElem?_cons_succ, List.getElem?_cons_zero] at q0 q1 q2 q3 z0 z1 z2 z3
    have HA := Lib.hid hA
    clear hA hZ
    have HSM := Lib.hid (rsame_go c a1 c1 a2 c2 a3 c3 b1 d1 b2 d2 b3 d3 _ HCT.out.2.1 HCT.out.2.2 HLB.out.1.1 HLB.out.1.2.1 HLB.out.1.2.2 HLB.out.2)
    go_wp2_with fail
    generalize v3.alloc _ = v4 at *
    generalize v3.heap.size = g2 at *
    refine HSM.out.mono ?_
    clear HSM
    rintro e v5 ⟨rfl, hb5⟩
    have hA5 := HA.out.below hb5 HA.out.lt
    have hcA5 := HCT.out.2.1.keep hb5
    have hB5 := HCT.out.1.trans (hb5.mono HCT.out.1.size)
    clear q0 q1 q2 q3 z0 z1 z2 z3
    have q0 := hA5.cell 0
    have q1 := hA5.cell 1
    have q2 := hA5.cell 2
    have q3 := hA5.cell 3
    simp only [List.getElem?_toArray, List.getElem?_cons_succ, List.getElem?_cons_zero] at q0 q1 q2 q3
    have HC5 := Lib.hid (And.intro hB5 hcA5)
    clear HA HCT hb5 hA5 hcA5 hB5
    by_cases h0 : x = 0
    · have hbk := HBK.out h0
      subst h0
      have hls : r.data.toList.length = r.size := (by simp)
      have hn19 : (nums c).length ≤ 1900 := by have := hbk.2.2; omega
      clear hls
      have HPR := Lib.hid (print_go c a1 c1 a2 c2 a3 c3 v5 HC5.out.2 HLB.out.1.1 HLB.out.1.2.1 HLB.out.1.2.2 hn19 hbk.1 hbk.2.1)
      clear hbk HBK
      go_wp2_with fail
      refine HPR.out.mono ?_
      clear HPR
      rintro e v6 ⟨t, rfl, ht, hb6⟩
      have hts : (t.toList == r.toList) = true := seq_true ht
      have HB6 := Lib.hid (HC5.out.1.trans (hb6.mono HC5.out.1.size))
      clear ht hb6 q0 q1 q2 q3 HC5
      go_wp2_with (go_at_call 6; refine (live_any _).mono ?_; rintro e v7 ⟨rfl, hb7⟩)
      go_ret
      exact ⟨rfl, HB6.out.trans (hb7.mono HB6.out.size)⟩
    · have hne : (x != 0) = true := by simpa using h0
      clear h0 q0 q1 q2 q3
      go_wp2_with (go_at_call 6; refine (live_any _).mono ?_; rintro e v7 ⟨rfl, hb7⟩)
      go_ret
      exact ⟨rfl, HC5.out.1.trans (hb7.mono HC5.out.1.size)⟩
end Im
end Go.Proofs.Ytjdhkpafbejodaa
