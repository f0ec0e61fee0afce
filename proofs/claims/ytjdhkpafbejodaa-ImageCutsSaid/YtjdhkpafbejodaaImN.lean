/- The program's Same and Size. -/
import Derived.Test.YtjdhkpafbejodaaImM
namespace Go.Proofs.Ytjdhkpafbejodaa
open Go.RowKit
namespace Im
open Sm Bi
/-- Tables as a value. -/
def cv (c : Cfg) (a1 : Option Addr) (c1 : Nat) (a2 : Option Addr) (c2 : Nat) (a3 : Option Addr) (c3 : Nat) : Value := .agg #[.int .i64 c.fr, .slice a1 c.ws.length c1, .slice a2 c.ss.length c2, .slice a3 c.cs.length c3]
def eqC (c d : Cfg) : Bool := c.fr == d.fr && c.ws == d.ws && c.ss == d.ss && c.cs == d.cs
theorem eqC_iff (c d : Cfg) : eqC c d = true ↔ c = d := by
  cases c; cases d
  simp [eqC, and_assoc]
theorem cfg_ne {c d : Cfg} (h : c.fr ≠ d.fr ∨ c.ws ≠ d.ws ∨ c.ss ≠ d.ss ∨ c.cs ≠ d.cs) : eqC c d = false := by
  rw [Bool.eq_false_iff]
  intro h9
  rw [eqC_iff] at h9
  subst h9
  rcases h with h | h | h | h <;> exact h rfl
theorem cfg_eq {c d : Cfg} (h0 : c.fr = d.fr) (h1 : c.ws = d.ws) (h2 : c.ss = d.ss) (h3 : c.cs = d.cs) : eqC c d = true := by
  rw [eqC_iff]
  cases c; cases d
  simp only [Cfg.mk.injEq]
  exact ⟨h0, h1, h2, h3⟩
set_option maxRecDepth 100000 in
set_option maxHeartbeats 4000000 in
theorem same_any (c d : Cfg) (a1 : Option Addr) (c1 : Nat) (a2 : Option Addr) (c2 : Nat) (a3 : Option Addr) (c3 : Nat) (b1 : Option Addr) (d1 : Nat) (b2 : Option Addr) (d2 : Nat) (b3 : Option Addr) (d3 : Nat) (W : World) (hc : CfR W c a1 a2 a3) (hd : CfR W d b1 b2 b3) (l1 : c.ws.length ≤ 1000000) (l2 : c.ss.length ≤ 1000000) (l3 : c.cs.length ≤ 1000000) :
    Calls Try.prog 14 #[cv c a1 c1 a2 c2 a3 c3, cv d b1 d1 b2 d2 b3 d3] W fun e w' => e = .returned (.bool (eqC c d)) ∧ Below W.heap.size W w' := by
  unfold cv
  obtain ⟨k0, hk0⟩ : ∃ g, W.heap.size = g := ⟨_, rfl⟩
  have hB0 : Below W.heap.size W ((W.alloc (.cells #[.int .i64 c.fr, .slice a1 c.ws.length c1, .slice a2 c.ss.length c2, .slice a3 c.cs.length c3] 28)).alloc (.cells #[.int .i64 d.fr, .slice b1 d.ws.length d1, .slice b2 d.ss.length d2, .slice b3 d.cs.length d3] 28)) := ((Below.refl _ _).alloc (Nat.le_refl _) _).alloc (by simp) _
  have hc2 := hc.keep hB0
  have hd2 := hd.keep hB0
  have HB := Lib.hid hB0
  have HE1 := Lib.hid (fun V (hV : Drawn _ V) => equal1 a1 b1 c1 d1 c.ws d.ws V (hc2.r1.drawn hV) (hd2.r1.drawn hV) l1)
  have HE2 := Lib.hid (fun V (hV : Drawn _ V) => equal2 a2 b2 c2 d2 c.ss d.ss V (hc2.r2.drawn hV) (hd2.r2.drawn hV) l2)
  have HE3 := Lib.hid (fun V (hV : Drawn _ V) => equal3 a3 b3 c3 d3 c.cs d.cs V (hc2.r3.drawn hV) (hd2.r3.drawn hV) l3)
  clear hB0 hc2 hd2 hc hd
  by_cases e0 : c.fr = d.fr
  case neg =>
    have hv : eqC c d = false := cfg_ne (.inl e0)
    rw [hv]
    have hf : (c.fr == d.fr) = false := by simpa using e0
    have HD0 := Lib.hid (Drawn.refl ((W.alloc (.cells #[.int .i64 c.fr, .slice a1 c.ws.length c1, .slice a2 c.ss.length c2, .slice a3 c.cs.length c3] 28)).alloc (.cells #[.int .i64 d.fr, .slice b1 d.ws.length d1, .slice b2 d.ss.length d2, .slice b3 d.cs.length d3] 28)))
    have HA := Lib.hid ((Blk.new W 28 #[.int .i64 c.fr, .slice a1 c.ws.length c1, .slice a2 c.ss.length c2, .slice a3 c.cs.length c3]).alloc (.cells #[.int .i64 d.fr, .slice b1 d.ws.length d1, .slice b2 d.ss.length d2, .slice b3 d.cs.length d3] 28))
    have HZ := Lib.hid (Blk.new (W.alloc (.cells #[.int .i64 c.fr, .slice a1 c.ws.length c1, .slice a2 c.ss.length c2, .slice a3 c.cs.length c3] 28)) 28 #[.int .i64 d.fr, .slice b1 d.ws.length d1, .slice b2 d.ss.length d2, .slice b3 d.cs.length d3])
    clear e0
    have hz1 : (W.alloc (.cells #[.int .i64 c.fr, .slice a1 c.ws.length c1, .slice a2 c.ss.length c2, .slice a3 c.cs.length c3] 28)).heap.size = W.heap.size + 1 := by simp
    rw [hz1] at HZ
    clear hz1
    go_enter Try.func14, Try.ntmps14
    go_wp2_with fail
    go_ret
    exact ⟨rfl, HB.out.trans (HD0.out.below _)⟩
  by_cases e1 : c.ws = d.ws
  case neg =>
    have hv : eqC c d = false := cfg_ne (.inr (.inl e1))
    rw [hv]
    rw [decide_eq_false e1] at HE1
    have hf : (c.fr == d.fr) = true := by simpa using e0
    have HD0 := Lib.hid (Drawn.refl ((W.alloc (.cells #[.int .i64 c.fr, .slice a1 c.ws.length c1, .slice a2 c.ss.length c2, .slice a3 c.cs.length c3] 28)).alloc (.cells #[.int .i64 d.fr, .slice b1 d.ws.length d1, .slice b2 d.ss.length d2, .slice b3 d.cs.length d3] 28)))
    have HA := Lib.hid ((Blk.new W 28 #[.int .i64 c.fr, .slice a1 c.ws.length c1, .slice a2 c.ss.length c2, .slice a3 c.cs.length c3]).alloc (.cells #[.int .i64 d.fr, .slice b1 d.ws.length d1, .slice b2 d.ss.length d2, .slice b3 d.cs.length d3] 28))
    have HZ := Lib.hid (Blk.new (W.alloc (.cells #[.int .i64 c.fr, .slice a1 c.ws.length c1, .slice a2 c.ss.length c2, .slice a3 c.cs.length c3] 28)) 28 #[.int .i64 d.fr, .slice b1 d.ws.length d1, .slice b2 d.ss.length d2, .slice b3 d.cs.length d3])
    clear e0 e1
    have hz1 : (W.alloc (.cells #[.int .i64 c.fr, .slice a1 c.ws.length c1, .slice a2 c.ss.length c2, .slice a3 c.cs.length c3] 28)).heap.size = W.heap.size + 1 := by simp
    rw [hz1] at HZ
    clear hz1
    go_enter Try.func14, Try.ntmps14
    go_wp2_with fail
    generalize hW2 : ((W.alloc (.cells #[.int .i64 c.fr, .slice a1 c.ws.length c1, .slice a2 c.ss.length c2, .slice a3 c.cs.length c3] 28)).alloc (.cells #[.int .i64 d.fr, .slice b1 d.ws.length d1, .slice b2 d.ss.length d2, .slice b3 d.cs.length d3] 28)) = W2 at *
    refine (HE1.out _ HD0.out).mono ?_
    rintro e V1 ⟨rfl, hd1⟩
    have HD1 := Lib.hid (HD0.out.trans hd1)
    clear HE1 hd1
    go_wp2_with fail
    go_ret
    exact ⟨rfl, HB.out.trans (HD1.out.below _)⟩
  by_cases e2 : c.ss = d.ss
  case neg =>
    have hv : eqC c d = false := cfg_ne (.inr (.inr (.inl e2)))
    rw [hv]
    rw [decide_eq_true e1] at HE1
    rw [decide_eq_false e2] at HE2
    have hf : (c.fr == d.fr) = true := by simpa using e0
    have HD0 := Lib.hid (Drawn.refl ((W.alloc (.cells #[.int .i64 c.fr, .slice a1 c.ws.length c1, .slice a2 c.ss.length c2, .slice a3 c.cs.length c3] 28)).alloc (.cells #[.int .i64 d.fr, .slice b1 d.ws.length d1, .slice b2 d.ss.length d2, .slice b3 d.cs.length d3] 28)))
    have HA := Lib.hid ((Blk.new W 28 #[.int .i64 c.fr, .slice a1 c.ws.length c1, .slice a2 c.ss.length c2, .slice a3 c.cs.length c3]).alloc (.cells #[.int .i64 d.fr, .slice b1 d.ws.length d1, .slice b2 d.ss.length d2, .slice b3 d.cs.length d3] 28))
    have HZ := Lib.hid (Blk.new (W.alloc (.cells #[.int .i64 c.fr, .slice a1 c.ws.length c1, .slice a2 c.ss.length c2, .slice a3 c.cs.length c3] 28)) 28 #[.int .i64 d.fr, .slice b1 d.ws.length d1, .slice b2 d.ss.length d2, .slice b3 d.cs.length d3])
    clear e0 e1 e2
    have hz1 : (W.alloc (.cells #[.int .i64 c.fr, .slice a1 c.ws.length c1, .slice a2 c.ss.length c2, .slice a3 c.cs.length c3] 28)).heap.size = W.heap.size + 1 := by simp
    rw [hz1] at HZ
    clear hz1
    go_enter Try.func14, Try.ntmps14
    go_wp2_with fail
    generalize hW2 : ((W.alloc (.cells #[.int .i64 c.fr, .slice a1 c.ws.length c1, .slice a2 c.ss.length c2, .slice a3 c.cs.length c3] 28)).alloc (.cells #[.int .i64 d.fr, .slice b1 d.ws.length d1, .slice b2 d.ss.length d2, .slice b3 d.cs.length d3] 28)) = W2 at *
    refine (HE1.out _ HD0.out).mono ?_
    rintro e V1 ⟨rfl, hd1⟩
    have HD1 := Lib.hid (HD0.out.trans hd1)
    clear HE1 hd1
    have qa := (HD1.out.cell _).trans (HA.out.cell 2)
    have qb := (HD1.out.cell _).trans (HZ.out.cell 2)
    simp only [List.getElem?_toArray, List.getElem?_cons_succ, List.getElem?_cons_zero, hk0] at qa qb
    go_wp2_with fail
    clear qa qb
    refine (HE2.out _ HD1.out).mono ?_
    rintro e V2 ⟨rfl, hd2⟩
    have HD2 := Lib.hid (HD1.out.trans hd2)
    clear HE2 hd2
    go_wp2_with fail
    go_ret
    exact ⟨rfl, HB.out.trans (HD2.out.below _)⟩
  by_cases e3 : c.cs = d.cs
  case neg =>
    have hv : eqC c d = false := cfg_ne (.inr (.inr (.inr e3)))
    rw [hv]
    rw [decide_eq_true e1] at HE1
    rw [decide_eq_true e2] at HE2
    rw [decide_eq_false e3] at HE3
    have hf : (c.fr == d.fr) = true := by simpa using e0
    have HD0 := Lib.hid (Drawn.refl ((W.alloc (.cells #[.int .i64 c.fr, .slice a1 c.ws.length c1, .slice a2 c.ss.length c2, .slice a3 c.cs.length c3] 28)).alloc (.cells #[.int .i64 d.fr, .slice b1 d.ws.length d1, .slice b2 d.ss.length d2, .slice b3 d.cs.length d3] 28)))
    have HA := Lib.hid ((Blk.new W 28 #[.int .i64 c.fr, .slice a1 c.ws.length c1, .slice a2 c.ss.length c2, .slice a3 c.cs.length c3]).alloc (.cells #[.int .i64 d.fr, .slice b1 d.ws.length d1, .slice b2 d.ss.length d2, .slice b3 d.cs.length d3] 28))
    have HZ := Lib.hid (Blk.new (W.alloc (.cells #[.int .i64 c.fr, .slice a1 c.ws.length c1, .slice a2 c.ss.length c2, .slice a3 c.cs.length c3] 28)) 28 #[.int .i64 d.fr, .slice b1 d.ws.length d1, .slice b2 d.ss.length d2, .slice b3 d.cs.length d3])
    clear e0 e1 e2 e3
    have hz1 : (W.alloc (.cells #[.int .i64 c.fr, .slice a1 c.ws.length c1, .slice a2 c.ss.length c2, .slice a3 c.cs.length c3] 28)).heap.size = W.heap.size + 1 := by simp
    rw [hz1] at HZ
    clear hz1
    go_enter Try.func14, Try.ntmps14
    go_wp2_with fail
    generalize hW2 : ((W.alloc (.cells #[.int .i64 c.fr, .slice a1 c.ws.length c1, .slice a2 c.ss.length c2, .slice a3 c.cs.length c3] 28)).alloc (.cells #[.int .i64 d.fr, .slice b1 d.ws.length d1, .slice b2 d.ss.length d2, .slice b3 d.cs.length d3] 28)) = W2 at *
    refine (HE1.out _ HD0.out).mono ?_
    rintro e V1 ⟨rfl, hd1⟩
    have HD1 := Lib.hid (HD0.out.trans hd1)
    clear HE1 hd1
    have qa := (HD1.out.cell _).trans (HA.out.cell 2)
    have qb := (HD1.out.cell _).trans (HZ.out.cell 2)
    simp only [List.getElem?_toArray, List.getElem?_cons_succ, List.getElem?_cons_zero, hk0] at qa qb
    go_wp2_with fail
    clear qa qb
    refine (HE2.out _ HD1.out).mono ?_
    rintro e V2 ⟨rfl, hd2⟩
    have HD2 := Lib.hid (HD1.out.trans hd2)
    clear HE2 hd2
    have qa := (HD2.out.cell _).trans (HA.out.cell 3)
    have qb := (HD2.out.cell _).trans (HZ.out.cell 3)
    simp only [List.getElem?_toArray, List.getElem?_cons_succ, List.getElem?_cons_zero, hk0] at qa qb
    go_wp2_with fail
    clear qa qb
    refine (HE3.out _ HD2.out).mono ?_
    rintro e V3 ⟨rfl, hd3⟩
    have HD3 := Lib.hid (HD2.out.trans hd3)
    clear HE3 hd3
    go_wp2_with fail
    go_ret
    exact ⟨rfl, HB.out.trans (HD3.out.below _)⟩
  · have hv : eqC c d = true := cfg_eq e0 e1 e2 e3
    rw [hv]
    rw [decide_eq_true e1] at HE1
    rw [decide_eq_true e2] at HE2
    rw [decide_eq_true e3] at HE3
    have hf : (c.fr == d.fr) = true := by simpa using e0
    have HD0 := Lib.hid (Drawn.refl ((W.alloc (.cells #[.int .i64 c.fr, .slice a1 c.ws.length c1, .slice a2 c.ss.length c2, .slice a3 c.cs.length c3] 28)).alloc (.cells #[.int .i64 d.fr, .slice b1 d.ws.length d1, .slice b2 d.ss.length d2, .slice b3 d.cs.length d3] 28)))
    have HA := Lib.hid ((Blk.new W 28 #[.int .i64 c.fr, .slice a1 c.ws.length c1, .slice a2 c.ss.length c2, .slice a3 c.cs.length c3]).alloc (.cells #[.int .i64 d.fr, .slice b1 d.ws.length d1, .slice b2 d.ss.length d2, .slice b3 d.cs.length d3] 28))
    have HZ := Lib.hid (Blk.new (W.alloc (.cells #[.int .i64 c.fr, .slice a1 c.ws.length c1, .slice a2 c.ss.length c2, .slice a3 c.cs.length c3] 28)) 28 #[.int .i64 d.fr, .slice b1 d.ws.length d1, .slice b2 d.ss.length d2, .slice b3 d.cs.length d3])
    clear e0 e1 e2 e3
    have hz1 : (W.alloc (.cells #[.int .i64 c.fr, .slice a1 c.ws.length c1, .slice a2 c.ss.length c2, .slice a3 c.cs.length c3] 28)).heap.size = W.heap.size + 1 := by simp
    rw [hz1] at HZ
    clear hz1
    go_enter Try.func14, Try.ntmps14
    go_wp2_with fail
    generalize hW2 : ((W.alloc (.cells #[.int .i64 c.fr, .slice a1 c.ws.length c1, .slice a2 c.ss.length c2, .slice a3 c.cs.length c3] 28)).alloc (.cells #[.int .i64 d.fr, .slice b1 d.ws.length d1, .slice b2 d.ss.length d2, .slice b3 d.cs.length d3] 28)) = W2 at *
    refine (HE1.out _ HD0.out).mono ?_
    rintro e V1 ⟨rfl, hd1⟩
    have HD1 := Lib.hid (HD0.out.trans hd1)
    clear HE1 hd1
    have qa := (HD1.out.cell _).trans (HA.out.cell 2)
    have qb := (HD1.out.cell _).trans (HZ.out.cell 2)
    simp only [List.getElem?_toArray, List.getElem?_cons_succ, List.getElem?_cons_zero, hk0] at qa qb
    go_wp2_with fail
    clear qa qb
    refine (HE2.out _ HD1.out).mono ?_
    rintro e V2 ⟨rfl, hd2⟩
    have HD2 := Lib.hid (HD1.out.trans hd2)
    clear HE2 hd2
    have qa := (HD2.out.cell _).trans (HA.out.cell 3)
    have qb := (HD2.out.cell _).trans (HZ.out.cell 3)
    simp only [List.getElem?_toArray, List.getElem?_cons_succ, List.getElem?_cons_zero, hk0] at qa qb
    go_wp2_with fail
    clear qa qb
    refine (HE3.out _ HD2.out).mono ?_
    rintro e V3 ⟨rfl, hd3⟩
    have HD3 := Lib.hid (HD2.out.trans hd3)
    clear HE3 hd3
    go_wp2_with fail
    go_ret
    exact ⟨rfl, HB.out.trans (HD3.out.below _)⟩
set_option maxRecDepth 100000 in
theorem size_any (c : Cfg) (a1 : Option Addr) (c1 : Nat) (a2 : Option Addr) (c2 : Nat) (a3 : Option Addr) (c3 : Nat) (W : World) (l1 : c.ws.length ≤ 1000000) (l2 : c.ss.length ≤ 1000000) (l3 : c.cs.length ≤ 1000000) :
    Calls Try.prog 15 #[cv c a1 c1 a2 c2 a3 c3] W fun e w' => e = .returned (.int .i64 ((7 + 5 * (c.ws.length + c.ss.length) + 14 * c.cs.length + 2 : Nat) : Int)) ∧ Below W.heap.size W w' := by
  have HB := Lib.hid ((Below.refl W.heap.size W).alloc (Nat.le_refl _) (.cells #[.int .i64 c.fr, .slice a1 c.ws.length c1, .slice a2 c.ss.length c2, .slice a3 c.cs.length c3] 28))
  unfold cv
  generalize c.ws.length = n1 at *
  generalize c.ss.length = n2 at *
  generalize c.cs.length = n3 at *
  go_enter Try.func15, Try.ntmps15
  go_wp2
  go_ret
  refine ⟨?_, HB.out⟩
  apply ret_int
  omega
end Im
end Go.Proofs.Ytjdhkpafbejodaa
