/- The law ImagePrints: its walk. -/
import Derived.Test.YtjdhkpafbejodaaImXA
namespace Go.Proofs.Ytjdhkpafbejodaa
open Go.RowKit
namespace Im
open Sm Bi
/-- Two boxes of tables, a while into a walk. -/
structure Bx (W w : World) (bx : Nat) (c : Cfg) (a1 : Option Addr) (c1 : Nat) (a2 : Option Addr) (c2 : Nat) (a3 : Option Addr) (c3 : Nat) (d : Cfg) (b1 : Option Addr) (d1 : Nat) (b2 : Option Addr) (d2 : Nat) (b3 : Option Addr) (d3 : Nat) : Prop where
  hA : Blk w bx 28 #[.int .i64 c.fr, .slice a1 c.ws.length c1, .slice a2 c.ss.length c2, .slice a3 c.cs.length c3]
  hZ : Blk w (bx + 1) 28 #[.int .i64 d.fr, .slice b1 d.ws.length d1, .slice b2 d.ss.length d2, .slice b3 d.cs.length d3]
  hB : Below W.heap.size W w
  cC : CfR w c a1 a2 a3
  cD : CfR w d b1 b2 b3
section
variable {W w w' : World} {bx : Nat} {c : Cfg} {a1 : Option Addr} {c1 : Nat} {a2 : Option Addr} {c2 : Nat} {a3 : Option Addr} {c3 : Nat} {d : Cfg} {b1 : Option Addr} {d1 : Nat} {b2 : Option Addr} {d2 : Nat} {b3 : Option Addr} {d3 : Nat}
theorem Bx.next (h : Bx W w bx c a1 c1 a2 c2 a3 c3 d b1 d1 b2 d2 b3 d3) (hk : Below w.heap.size w w') : Bx W w' bx c a1 c1 a2 c2 a3 c3 d b1 d1 b2 d2 b3 d3 := ⟨h.hA.below hk h.hA.lt, h.hZ.below hk h.hZ.lt, h.hB.trans (hk.mono h.hB.size), h.cC.keep hk, h.cD.keep hk⟩
theorem Bx.cells (h : Bx W w bx c a1 c1 a2 c2 a3 c3 d b1 d1 b2 d2 b3 d3) : w.cell? ⟨bx, 0, none⟩ = some (.int .i64 c.fr) ∧ w.cell? ⟨bx, 1, none⟩ = some (.slice a1 c.ws.length c1) ∧ w.cell? ⟨bx, 2, none⟩ = some (.slice a2 c.ss.length c2) ∧ w.cell? ⟨bx, 3, none⟩ = some (.slice a3 c.cs.length c3) ∧ w.cell? ⟨bx + 1, 0, none⟩ = some (.int .i64 d.fr) ∧ w.cell? ⟨bx + 1, 1, none⟩ = some (.slice b1 d.ws.length d1) ∧ w.cell? ⟨bx + 1, 2, none⟩ = some (.slice b2 d.ss.length d2) ∧ w.cell? ⟨bx + 1, 3, none⟩ = some (.slice b3 d.cs.length d3) :=
  ⟨h.hA.cell 0, h.hA.cell 1, h.hA.cell 2, h.hA.cell 3, h.hZ.cell 0, h.hZ.cell 1, h.hZ.cell 2, h.hZ.cell 3⟩
theorem bx_0 (W : World) (hc : CfR W c a1 a2 a3) (hd : CfR W d b1 b2 b3) : Bx W ((W.alloc (.cells #[.int .i64 c.fr, .slice a1 c.ws.length c1, .slice a2 c.ss.length c2, .slice a3 c.cs.length c3] 28)).alloc (.cells #[.int .i64 d.fr, .slice b1 d.ws.length d1, .slice b2 d.ss.length d2, .slice b3 d.cs.length d3] 28)) W.heap.size c a1 c1 a2 c2 a3 c3 d b1 d1 b2 d2 b3 d3 := by
  have hB : Below W.heap.size W ((W.alloc (.cells #[.int .i64 c.fr, .slice a1 c.ws.length c1, .slice a2 c.ss.length c2, .slice a3 c.cs.length c3] 28)).alloc (.cells #[.int .i64 d.fr, .slice b1 d.ws.length d1, .slice b2 d.ss.length d2, .slice b3 d.cs.length d3] 28)) := ((Below.refl W.heap.size W).alloc (Nat.le_refl _) _).alloc (by simp) _
  have hZ := Blk.new (W.alloc (.cells #[.int .i64 c.fr, .slice a1 c.ws.length c1, .slice a2 c.ss.length c2, .slice a3 c.cs.length c3] 28)) 28 #[.int .i64 d.fr, .slice b1 d.ws.length d1, .slice b2 d.ss.length d2, .slice b3 d.cs.length d3]
  rw [World.size_alloc] at hZ
  exact ⟨(Blk.new W 28 #[.int .i64 c.fr, .slice a1 c.ws.length c1, .slice a2 c.ss.length c2, .slice a3 c.cs.length c3]).alloc _, hZ, hB, hc.keep hB, hd.keep hB⟩
end
theorem few_go (c : Cfg) (a1 : Option Addr) (c1 : Nat) (a2 : Option Addr) (c2 : Nat) (a3 : Option Addr) (c3 : Nat) (W : World) (v : Bool) (h : fewC c = v) : Calls Try.prog 13 #[.agg #[.int .i64 c.fr, .slice a1 c.ws.length c1, .slice a2 c.ss.length c2, .slice a3 c.cs.length c3]] W fun e w' => e = .returned (.bool v) ∧ Below W.heap.size W w' := by
  subst h
  exact few_any c a1 c1 a2 c2 a3 c3 W
theorem same_go (c d : Cfg) (v : Bool) (hv : eqC c d = v) (a1 : Option Addr) (c1 : Nat) (a2 : Option Addr) (c2 : Nat) (a3 : Option Addr) (c3 : Nat) (b1 : Option Addr) (d1 : Nat) (b2 : Option Addr) (d2 : Nat) (b3 : Option Addr) (d3 : Nat) (W : World) (hc : CfR W c a1 a2 a3) (hd : CfR W d b1 b2 b3) (l1 : c.ws.length ≤ 255) (l2 : c.ss.length ≤ 255) (l3 : c.cs.length ≤ 255) :
    Calls Try.prog 14 #[.agg #[.int .i64 c.fr, .slice a1 c.ws.length c1, .slice a2 c.ss.length c2, .slice a3 c.cs.length c3], .agg #[.int .i64 d.fr, .slice b1 d.ws.length d1, .slice b2 d.ss.length d2, .slice b3 d.cs.length d3]] W fun e w' => e = .returned (.bool v) ∧ Below W.heap.size W w' := by
  subst hv
  exact same_any c d a1 c1 a2 c2 a3 c3 b1 d1 b2 d2 b3 d3 W hc hd (by omega) (by omega) (by omega)
theorem rsame_go2 (c d : Cfg) (v : Bool) (hv : eqC c d = v) (a1 : Option Addr) (c1 : Nat) (a2 : Option Addr) (c2 : Nat) (a3 : Option Addr) (c3 : Nat) (b1 : Option Addr) (d1 : Nat) (b2 : Option Addr) (d2 : Nat) (b3 : Option Addr) (d3 : Nat) (W : World) (hc : CfR W c a1 a2 a3) (hd : CfR W d b1 b2 b3)
    (l1 : c.ws.length ≤ 255) (l2 : c.ss.length ≤ 255) (l3 : c.cs.length ≤ 255) (hN : (nums c).length ≤ 4100) (m1 : d.ws.length ≤ 255) (m2 : d.ss.length ≤ 255) (m3 : d.cs.length ≤ 255) (hM : (nums d).length ≤ 4100) :
    Calls Try.prog 10 #[.agg #[.int .i64 c.fr, .slice a1 c.ws.length c1, .slice a2 c.ss.length c2, .slice a3 c.cs.length c3], .agg #[.int .i64 d.fr, .slice b1 d.ws.length d1, .slice b2 d.ss.length d2, .slice b3 d.cs.length d3]] W fun e w' => e = .returned (.bool v) ∧ Below W.heap.size W w' := by
  subst hv
  exact rsame_any c d a1 c1 a2 c2 a3 c3 b1 d1 b2 d2 b3 d3 W hc hd l1 l2 l3 hN m1 m2 m3 hM
theorem rprint_go (c : Cfg) (a1 : Option Addr) (c1 : Nat) (a2 : Option Addr) (c2 : Nat) (a3 : Option Addr) (c3 : Nat) (W : World) (hc : CfR W c a1 a2 a3) (l1 : c.ws.length ≤ 255) (l2 : c.ss.length ≤ 255) (l3 : c.cs.length ≤ 255) (hN : (nums c).length ≤ 4100) {l : List UInt8} {n : Int} (h1 : pOut c = l) (h2 : pErr c = n) :
    Calls Try.prog 12 #[.agg #[.int .i64 c.fr, .slice a1 c.ws.length c1, .slice a2 c.ss.length c2, .slice a3 c.cs.length c3]] W (IsPr l n W) := by
  subst h1
  subst h2
  exact rprint_any c a1 c1 a2 c2 a3 c3 W hc l1 l2 l3 hN
theorem size_go (c : Cfg) (a1 : Option Addr) (c1 : Nat) (a2 : Option Addr) (c2 : Nat) (a3 : Option Addr) (c3 : Nat) (W : World) (l1 : c.ws.length ≤ 255) (l2 : c.ss.length ≤ 255) (l3 : c.cs.length ≤ 255) (n : Nat) (h : 7 + 5 * (c.ws.length + c.ss.length) + 14 * c.cs.length + 2 = n) :
    Calls Try.prog 15 #[.agg #[.int .i64 c.fr, .slice a1 c.ws.length c1, .slice a2 c.ss.length c2, .slice a3 c.cs.length c3]] W fun e w' => e = .returned (.int .i64 (n : Int)) ∧ Below W.heap.size W w' := by
  subst h
  exact size_any c a1 c1 a2 c2 a3 c3 W (by omega) (by omega) (by omega)
attribute [local irreducible] pE pC pOut pErr eqC fewC
set_option maxRecDepth 100000 in
set_option maxHeartbeats 8000000 in
theorem prints_law (c : Cfg) (a1 : Option Addr) (c1 : Nat) (a2 : Option Addr) (c2 : Nat) (a3 : Option Addr) (c3 : Nat) (d : Cfg) (b1 : Option Addr) (d1 : Nat) (b2 : Option Addr) (d2 : Nat) (b3 : Option Addr) (d3 : Nat) (W : World) (hc : CfR W c a1 a2 a3) (hd : CfR W d b1 b2 b3) :
    Calls Try.prog 5 #[cv c a1 c1 a2 c2 a3 c3, cv d b1 d1 b2 d2 b3 d3] W fun e W' => e = .returned (.bool true) ∧ Below W.heap.size W W' := by
  have HX := Lib.hid (bx_0 (c1 := c1) (c2 := c2) (c3 := c3) (d1 := d1) (d2 := d2) (d3 := d3) W hc hd)
  have hwc := hc.wf
  have hwd := hd.wf
  unfold cv
  clear hc hd
  by_cases hf : fewC c = true
  case neg =>
    have hf' : fewC c = false := by simpa using hf
    have HF := Lib.hid (fun V => few_go c a1 c1 a2 c2 a3 c3 V false hf')
    clear hf hf'
    go_enter Try.func5, Try.ntmps5
    go_wp2_with fail
    generalize (W.alloc _).alloc _ = w1 at *
    refine (HF.out _).mono ?_
    clear HF
    rintro e v2 ⟨rfl, hb⟩
    have HB := Lib.hid (HX.out.hB.trans (hb.mono HX.out.hB.size))
    clear hb
    go_wp2_with (go_at_call 6; refine (live_any _).mono ?_; rintro e v7 ⟨rfl, hb7⟩)
    go_ret
    exact ⟨rfl, HB.out.trans (hb7.mono HB.out.size)⟩
  have HF := Lib.hid (fun V => few_go c a1 c1 a2 c2 a3 c3 V true hf)
  have HFC := Lib.hid ((fewC_iff c).1 hf)
  clear hf
  by_cases hg : fewC d = true
  case neg =>
    have hg' : fewC d = false := by simpa using hg
    have HG := Lib.hid (fun V => few_go d b1 d1 b2 d2 b3 d3 V false hg')
    clear hg hg'
    go_enter Try.func5, Try.ntmps5
    go_wp2_with fail
    generalize (W.alloc _).alloc _ = w1 at *
    generalize hbx : W.heap.size = bx at *
    refine (HF.out _).mono ?_
    clear HF
    rintro e v2 ⟨rfl, hb⟩
    have hX2 := HX.out.next hb
    obtain ⟨q0, q1, q2, q3, z0, z1, z2, z3⟩ := hX2.cells
    clear HX
    have HX := Lib.hid hX2
    clear hX2 hb
    go_wp2_with fail
    clear q0 q1 q2 q3 z0 z1 z2 z3
    refine (HG.out _).mono ?_
    clear HG
    rintro e v3 ⟨rfl, hb⟩
    have HX3 := Lib.hid (HX.out.next hb)
    clear hb
    go_wp2_with (go_at_call 6; refine (live_any _).mono ?_; rintro e v7 ⟨rfl, hb7⟩)
    go_ret
    exact ⟨rfl, HX3.out.hB.trans (hb7.mono HX3.out.hB.size)⟩
  have HG := Lib.hid (fun V => few_go d b1 d1 b2 d2 b3 d3 V true hg)
  have HFD := Lib.hid ((fewC_iff d).1 hg)
  clear hg
  have HNC := Lib.hid (nums_60 hwc HFC.out.1 HFC.out.2.1 HFC.out.2.2)
  have HND := Lib.hid (nums_60 hwd HFD.out.1 HFD.out.2.1 HFD.out.2.2)
  have HWC := Lib.hid hwc
  clear hwc hwd
  obtain ⟨l, hl⟩ : ∃ l, pOut c = l := ⟨_, rfl⟩
  obtain ⟨n, hn⟩ : ∃ n, pErr c = n := ⟨_, rfl⟩
  obtain ⟨v, hv⟩ : ∃ v, eqC c d = v := ⟨_, rfl⟩
  have HPQ := Lib.hid (fun V hcV => print_go c a1 c1 a2 c2 a3 c3 V hcV (by have := HFC.out; omega) (by have := HFC.out; omega) (by have := HFC.out; omega) (by have := HNC.out; omega) hl hn)
  have HRQ := Lib.hid (fun V hcV => rprint_go c a1 c1 a2 c2 a3 c3 V hcV (by have := HFC.out; omega) (by have := HFC.out; omega) (by have := HFC.out; omega) (by have := HNC.out; omega) hl hn)
  have HS1 := Lib.hid (fun V hcV hdV => same_go c d v hv a1 c1 a2 c2 a3 c3 b1 d1 b2 d2 b3 d3 V hcV hdV (by have := HFC.out; omega) (by have := HFC.out; omega) (by have := HFC.out; omega))
  have HS2 := Lib.hid (fun V hcV hdV => rsame_go2 c d v hv a1 c1 a2 c2 a3 c3 b1 d1 b2 d2 b3 d3 V hcV hdV (by have := HFC.out; omega) (by have := HFC.out; omega) (by have := HFC.out; omega) (by have := HNC.out; omega) (by have := HFD.out; omega) (by have := HFD.out; omega) (by have := HFD.out; omega) (by have := HND.out; omega))
  have HS3 := Lib.hid (fun V hcV => same_go c c true ((eqC_iff c c).2 rfl) a1 c1 a2 c2 a3 c3 a1 c1 a2 c2 a3 c3 V hcV hcV (by have := HFC.out; omega) (by have := HFC.out; omega) (by have := HFC.out; omega))
  have HLN := Lib.hid (And.intro hl hn)
  clear hl hn hv
  go_enter Try.func5, Try.ntmps5
  go_wp2_with fail
  generalize (W.alloc _).alloc _ = w1 at *
  generalize hbx : W.heap.size = bx at *
  refine (HF.out _).mono ?_
  clear HF
  rintro e v2 ⟨rfl, hb⟩
  have hX2 := HX.out.next hb
  obtain ⟨q0, q1, q2, q3, z0, z1, z2, z3⟩ := hX2.cells
  clear HX
  have HX := Lib.hid hX2
  clear hX2
  go_wp2_with fail
  clear q0 q1 q2 q3 z0 z1 z2 z3
  refine (HG.out _).mono ?_
  clear HG
  rintro e v3 ⟨rfl, hb⟩
  have hX2 := HX.out.next hb
  obtain ⟨q0, q1, q2, q3, z0, z1, z2, z3⟩ := hX2.cells
  clear HX
  have HX := Lib.hid hX2
  clear hX2
  go_wp2_with fail
  clear q0 q1 q2 q3 z0 z1 z2 z3
  refine (HPQ.out _ HX.out.cC).mono ?_
  clear HPQ
  rintro e v4 ⟨r1, rfl, hr1, hb⟩
  have hX2 := HX.out.next hb
  obtain ⟨q0, q1, q2, q3, z0, z1, z2, z3⟩ := hX2.cells
  clear HX
  have HX := Lib.hid hX2
  clear hX2
  go_wp2_with fail
  clear q0 q1 q2 q3 z0 z1 z2 z3
  refine (HRQ.out _ HX.out.cC).mono ?_
  clear HRQ
  rintro e v5 ⟨r2, rfl, hr2, hb⟩
  have hX2 := HX.out.next hb
  obtain ⟨q0, q1, q2, q3, z0, z1, z2, z3⟩ := hX2.cells
  clear HX
  have HX := Lib.hid hX2
  clear hX2
  have hss : (r1.toList == r2.toList) = true := seq_true (hr1.trans hr2.symm)
  have HR2 := Lib.hid hr2
  clear hr1 hr2
  go_wp2
  refine wp_region_held_drew (S := (fun V => V.cell? ⟨bx, 0, none⟩ = some (.int .i64 c.fr) ∧ V.cell? ⟨bx, 1, none⟩ = some (.slice a1 c.ws.length c1) ∧ V.cell? ⟨bx, 2, none⟩ = some (.slice a2 c.ss.length c2) ∧ V.cell? ⟨bx, 3, none⟩ = some (.slice a3 c.cs.length c3) ∧ V.cell? ⟨bx + 1, 0, none⟩ = some (.int .i64 d.fr) ∧ V.cell? ⟨bx + 1, 1, none⟩ = some (.slice b1 d.ws.length d1) ∧ V.cell? ⟨bx + 1, 2, none⟩ = some (.slice b2 d.ss.length d2) ∧ V.cell? ⟨bx + 1, 3, none⟩ = some (.slice b3 d.cs.length d3))) (by kernel_rfl) ⟨q0, q1, q2, q3, z0, z1, z2, z3⟩ (fun hHeld => ?_)
  refine' wpAnyH_take (i := 0) (oi := _) (v := _) ?hA0 (by kernel_rfl) (by kernel_rfl) (by kernel_rfl) ?hQA0 (Or.inl ⟨?hwA0, ?hyA0⟩) hHeld ?restA0
  case hA0 => (simp only [List.getElem?_toArray, List.getElem?_cons_zero]; rfl)
  case hQA0 => exact fun _ _ _ h => h
  case hwA0 => rfl
  case hyA0 => (intro w hSw; (try dsimp only at hSw); go_simp; try with_reducible rfl)
  try simp only [Act.put, List.setIfInBounds_toArray, List.set_cons_zero, List.set_cons_succ]
  refine' wpAnyH_take (i := 1) (oi := _) (v := _) ?hA1 (by kernel_rfl) (by kernel_rfl) (by kernel_rfl) ?hQA1 (Or.inl ⟨?hwA1, ?hyA1⟩) hHeld ?restA1
  case hA1 => (simp only [List.getElem?_toArray, List.getElem?_cons_succ, List.getElem?_cons_zero]; rfl)
  case hQA1 => exact fun _ _ _ h => h
  case hwA1 => rfl
  case hyA1 => (intro w hSw; (try dsimp only at hSw); go_simp; try with_reducible rfl)
  try simp only [Act.put, List.setIfInBounds_toArray, List.set_cons_zero, List.set_cons_succ]
  refine' wpAnyH_take (i := 2) (oi := _) (v := _) ?hA2 (by kernel_rfl) (by kernel_rfl) (by kernel_rfl) ?hQA2 (Or.inl ⟨?hwA2, ?hyA2⟩) hHeld ?restA2
  case hA2 => (simp only [List.getElem?_toArray, List.getElem?_cons_succ, List.getElem?_cons_zero]; rfl)
  case hQA2 => exact fun _ _ _ h => h
  case hwA2 => rfl
  case hyA2 => (intro w hSw; (try dsimp only at hSw); go_simp; try with_reducible rfl)
  try simp only [Act.put, List.setIfInBounds_toArray, List.set_cons_zero, List.set_cons_succ]
  refine' wpAnyH_take (i := 3) (oi := _) (v := _) ?hA3 (by kernel_rfl) (by kernel_rfl) (by kernel_rfl) ?hQA3 (Or.inl ⟨?hwA3, ?hyA3⟩) hHeld ?restA3
  case hA3 => (simp only [List.getElem?_toArray, List.getElem?_cons_succ, List.getElem?_cons_zero]; rfl)
  case hQA3 => exact fun _ _ _ h => h
  case hwA3 => rfl
  case hyA3 => (intro w hSw; (try dsimp only at hSw); go_simp; try with_reducible rfl)
  try simp only [Act.put, List.setIfInBounds_toArray, List.set_cons_zero, List.set_cons_succ]
  refine' wpAnyH_take (i := 4) (oi := _) (v := _) ?hA4 (by kernel_rfl) (by kernel_rfl) (by kernel_rfl) ?hQA4 (Or.inl ⟨?hwA4, ?hyA4⟩) hHeld ?restA4
  case hA4 => (simp only [List.getElem?_toArray, List.getElem?_cons_succ, List.getElem?_cons_zero]; rfl)
  case hQA4 => exact fun _ _ _ h => h
  case hwA4 => rfl
  case hyA4 => (intro w hSw; (try dsimp only at hSw); go_simp; try with_reducible rfl)
  try simp only [Act.put, List.setIfInBounds_toArray, List.set_cons_zero, List.set_cons_succ]
  refine' wpAnyH_take (i := 5) (oi := _) (v := _) ?hA5 (by kernel_rfl) (by kernel_rfl) (by kernel_rfl) ?hQA5 (Or.inl ⟨?hwA5, ?hyA5⟩) hHeld ?restA5
  case hA5 => (simp only [List.getElem?_toArray, List.getElem?_cons_succ, List.getElem?_cons_zero]; rfl)
  case hQA5 => exact fun _ _ _ h => h
  case hwA5 => rfl
  case hyA5 => (intro w hSw; (try dsimp only at hSw); go_simp; try with_reducible rfl)
  try simp only [Act.put, List.setIfInBounds_toArray, List.set_cons_zero, List.set_cons_succ]
  refine' wpAnyH_take (i := 6) (oi := _) (v := _) ?hA6 (by kernel_rfl) (by kernel_rfl) (by kernel_rfl) ?hQA6 (Or.inl ⟨?hwA6, ?hyA6⟩) hHeld ?restA6
  case hA6 => (simp only [List.getElem?_toArray, List.getElem?_cons_succ, List.getElem?_cons_zero]; rfl)
  case hQA6 => exact fun _ _ _ h => h
  case hwA6 => rfl
  case hyA6 => (intro w hSw; (try dsimp only at hSw); go_simp; try with_reducible rfl)
  try simp only [Act.put, List.setIfInBounds_toArray, List.set_cons_zero, List.set_cons_succ]
  refine' wpAnyH_take (i := 7) (oi := _) (v := _) ?hA7 (by kernel_rfl) (by kernel_rfl) (by kernel_rfl) ?hQA7 (Or.inl ⟨?hwA7, ?hyA7⟩) hHeld ?restA7
  case hA7 => (simp only [List.getElem?_toArray, List.getElem?_cons_succ, List.getElem?_cons_zero]; rfl)
  case hQA7 => exact fun _ _ _ h => h
  case hwA7 => rfl
  case hyA7 => (intro w hSw; (try dsimp only at hSw); go_simp; try with_reducible rfl)
  try simp only [Act.put, List.setIfInBounds_toArray, List.set_cons_zero, List.set_cons_succ]
  refine' wpAnyH_take (i := 8) (oi := _) (v := _) ?hA8 (by kernel_rfl) (by kernel_rfl) (by kernel_rfl) ?hQA8 (Or.inl ⟨?hwA8, ?hyA8⟩) hHeld ?restA8
  case hA8 => (simp only [List.getElem?_toArray, List.getElem?_cons_succ, List.getElem?_cons_zero]; rfl)
  case hQA8 => exact fun _ _ _ h => h
  case hwA8 => rfl
  case hyA8 => (intro w hSw; (try dsimp only at hSw); go_simp; try with_reducible rfl)
  try simp only [Act.put, List.setIfInBounds_toArray, List.set_cons_zero, List.set_cons_succ]
  refine' wpAnyH_take (i := 9) (oi := _) (v := _) ?hA9 (by kernel_rfl) (by kernel_rfl) (by kernel_rfl) ?hQA9 (Or.inl ⟨?hwA9, ?hyA9⟩) hHeld ?restA9
  case hA9 => (simp only [List.getElem?_toArray, List.getElem?_cons_succ, List.getElem?_cons_zero]; rfl)
  case hQA9 => exact fun _ _ _ h => h
  case hwA9 => rfl
  case hyA9 => (intro w hSw; (try dsimp only at hSw); go_simp; try with_reducible rfl)
  try simp only [Act.put, List.setIfInBounds_toArray, List.set_cons_zero, List.set_cons_succ]
  refine' wpAnyH_take (i := 10) (oi := _) (v := _) ?hA10 (by kernel_rfl) (by kernel_rfl) (by kernel_rfl) ?hQA10 (Or.inl ⟨?hwA10, ?hyA10⟩) hHeld ?restA10
  case hA10 => (simp only [List.getElem?_toArray, List.getElem?_cons_succ, List.getElem?_cons_zero]; rfl)
  case hQA10 => exact fun _ _ _ h => h
  case hwA10 => rfl
  case hyA10 => (intro w hSw; (try dsimp only at hSw); go_simp; try with_reducible rfl)
  try simp only [Act.put, List.setIfInBounds_toArray, List.set_cons_zero, List.set_cons_succ]
  refine' wpAnyH_take (i := 12) (oi := _) (v := _) ?hA12 (by kernel_rfl) (by kernel_rfl) (by kernel_rfl) ?hQA12 (Or.inl ⟨?hwA12, ?hyA12⟩) hHeld ?restA12
  case hA12 => (simp only [List.getElem?_toArray, List.getElem?_cons_succ, List.getElem?_cons_zero]; rfl)
  case hQA12 => exact fun _ _ _ h => h
  case hwA12 => rfl
  case hyA12 => (intro w hSw; (try dsimp only at hSw); go_simp; try with_reducible rfl)
  try simp only [Act.put, List.setIfInBounds_toArray, List.set_cons_zero, List.set_cons_succ]
  refine' wpAnyH_take (i := 13) (oi := _) (v := _) ?hA13 (by kernel_rfl) (by kernel_rfl) (by kernel_rfl) ?hQA13 (Or.inl ⟨?hwA13, ?hyA13⟩) hHeld ?restA13
  case hA13 => (simp only [List.getElem?_toArray, List.getElem?_cons_succ, List.getElem?_cons_zero]; rfl)
  case hQA13 => exact fun _ _ _ h => h
  case hwA13 => rfl
  case hyA13 => (intro w hSw; (try dsimp only at hSw); go_simp; try with_reducible rfl)
  try simp only [Act.put, List.setIfInBounds_toArray, List.set_cons_zero, List.set_cons_succ]
  refine wpAnyH_ready (rs := [11]) (by kernel_rfl) (by simp) ?_
  refine AllReadyH.cons rfl (fun K hK => ?_) AllReadyH.nil
  go_simp
  refine (HS1.out _ (HX.out.cC.keep ((Below.refl v5.heap.size v5).drew)) (HX.out.cD.keep ((Below.refl v5.heap.size v5).drew))).mono ?_
  rintro e V1 ⟨rfl, hk1⟩
  try go_wp2_with fail
  refine hK.out _ _ (⟨(hk1.cell (by exact HX.out.hA.lt)).trans hHeld.1, (hk1.cell (by exact HX.out.hA.lt)).trans hHeld.2.1, (hk1.cell (by exact HX.out.hA.lt)).trans hHeld.2.2.1, (hk1.cell (by exact HX.out.hA.lt)).trans hHeld.2.2.2.1, (hk1.cell (by exact HX.out.hZ.lt)).trans hHeld.2.2.2.2.1, (hk1.cell (by exact HX.out.hZ.lt)).trans hHeld.2.2.2.2.2.1, (hk1.cell (by exact HX.out.hZ.lt)).trans hHeld.2.2.2.2.2.2.1, (hk1.cell (by exact HX.out.hZ.lt)).trans hHeld.2.2.2.2.2.2.2⟩) (fun hHeld' => ?_)
  clear hK K hHeld
  have hHeld := hHeld'
  clear hHeld'
  try simp only [Act.put, List.setIfInBounds_toArray, List.set_cons_zero, List.set_cons_succ]
  refine wpAnyH_ready (rs := [14]) (by kernel_rfl) (by simp) ?_
  refine AllReadyH.cons rfl (fun K hK => ?_) AllReadyH.nil
  go_simp
  refine (HS2.out _ (HX.out.cC.keep (((Below.refl v5.heap.size v5).drew).trans hk1)) (HX.out.cD.keep (((Below.refl v5.heap.size v5).drew).trans hk1))).mono ?_
  rintro e V2 ⟨rfl, hk2⟩
  try go_wp2_with fail
  refine hK.out _ _ (⟨(hk2.cell (by exact Nat.lt_of_lt_of_le (HX.out.hA.lt) hk1.size)).trans hHeld.1, (hk2.cell (by exact Nat.lt_of_lt_of_le (HX.out.hA.lt) hk1.size)).trans hHeld.2.1, (hk2.cell (by exact Nat.lt_of_lt_of_le (HX.out.hA.lt) hk1.size)).trans hHeld.2.2.1, (hk2.cell (by exact Nat.lt_of_lt_of_le (HX.out.hA.lt) hk1.size)).trans hHeld.2.2.2.1, (hk2.cell (by exact Nat.lt_of_lt_of_le (HX.out.hZ.lt) hk1.size)).trans hHeld.2.2.2.2.1, (hk2.cell (by exact Nat.lt_of_lt_of_le (HX.out.hZ.lt) hk1.size)).trans hHeld.2.2.2.2.2.1, (hk2.cell (by exact Nat.lt_of_lt_of_le (HX.out.hZ.lt) hk1.size)).trans hHeld.2.2.2.2.2.2.1, (hk2.cell (by exact Nat.lt_of_lt_of_le (HX.out.hZ.lt) hk1.size)).trans hHeld.2.2.2.2.2.2.2⟩) (fun hHeld' => ?_)
  clear hK K hHeld
  have hHeld := hHeld'
  clear hHeld'
  try simp only [Act.put, List.setIfInBounds_toArray, List.set_cons_zero, List.set_cons_succ]
  refine' wpAnyH_take (i := 15) (oi := _) (v := _) ?hA15 (by kernel_rfl) (by kernel_rfl) (by kernel_rfl) ?hQA15 (Or.inl ⟨?hwA15, ?hyA15⟩) hHeld ?restA15
  case hA15 => (simp only [List.getElem?_toArray, List.getElem?_cons_succ, List.getElem?_cons_zero]; rfl)
  case hQA15 => exact fun _ _ _ h => h
  case hwA15 => rfl
  case hyA15 => (intro w hSw; (try dsimp only at hSw); go_simp; try with_reducible rfl)
  try simp only [Act.put, List.setIfInBounds_toArray, List.set_cons_zero, List.set_cons_succ]
  refine' wpAnyH_take (i := 16) (oi := _) (v := _) ?hA16 (by kernel_rfl) (by kernel_rfl) (by kernel_rfl) ?hQA16 (Or.inl ⟨?hwA16, ?hyA16⟩) hHeld ?restA16
  case hA16 => (simp only [List.getElem?_toArray, List.getElem?_cons_succ, List.getElem?_cons_zero]; rfl)
  case hQA16 => exact fun _ _ _ h => h
  case hwA16 => rfl
  case hyA16 => (intro w hSw; (try dsimp only at hSw); go_simp; try with_reducible rfl)
  try simp only [Act.put, List.setIfInBounds_toArray, List.set_cons_zero, List.set_cons_succ]
  refine' wpAnyH_take (i := 17) (oi := _) (v := _) ?hA17 (by kernel_rfl) (by kernel_rfl) (by kernel_rfl) ?hQA17 (Or.inl ⟨?hwA17, ?hyA17⟩) hHeld ?restA17
  case hA17 => (simp only [List.getElem?_toArray, List.getElem?_cons_succ, List.getElem?_cons_zero]; rfl)
  case hQA17 => exact fun _ _ _ h => h
  case hwA17 => rfl
  case hyA17 => (intro w hSw; (try dsimp only at hSw); go_simp; try with_reducible rfl)
  try simp only [Act.put, List.setIfInBounds_toArray, List.set_cons_zero, List.set_cons_succ]
  refine' wpAnyH_take (i := 18) (oi := _) (v := _) ?hA18 (by kernel_rfl) (by kernel_rfl) (by kernel_rfl) ?hQA18 (Or.inl ⟨?hwA18, ?hyA18⟩) hHeld ?restA18
  case hA18 => (simp only [List.getElem?_toArray, List.getElem?_cons_succ, List.getElem?_cons_zero]; rfl)
  case hQA18 => exact fun _ _ _ h => h
  case hwA18 => rfl
  case hyA18 => (intro w hSw; (try dsimp only at hSw); go_simp; try with_reducible rfl)
  try simp only [Act.put, List.setIfInBounds_toArray, List.set_cons_zero, List.set_cons_succ]
  refine' wpAnyH_take (i := 19) (oi := _) (v := _) ?hA19 (by kernel_rfl) (by kernel_rfl) (by kernel_rfl) ?hQA19 (Or.inl ⟨?hwA19, ?hyA19⟩) hHeld ?restA19
  case hA19 => (simp only [List.getElem?_toArray, List.getElem?_cons_succ, List.getElem?_cons_zero]; rfl)
  case hQA19 => exact fun _ _ _ h => h
  case hwA19 => rfl
  case hyA19 => (intro w hSw; (try dsimp only at hSw); go_simp; try with_reducible rfl)
  try simp only [Act.put, List.setIfInBounds_toArray, List.set_cons_zero, List.set_cons_succ]
  refine wpAnyH_ready (rs := [20]) (by kernel_rfl) (by simp) ?_
  refine AllReadyH.cons rfl (fun K hK => ?_) AllReadyH.nil
  go_simp
  refine (HS3.out _ (HX.out.cC.keep (((Below.refl v5.heap.size v5).drew).trans (hk1.trans (hk2.mono hk1.size))))).mono ?_
  rintro e V3 ⟨rfl, hk3⟩
  try go_wp2_with fail
  refine hK.out _ _ (⟨(hk3.cell (by exact Nat.lt_of_lt_of_le (Nat.lt_of_lt_of_le (HX.out.hA.lt) hk1.size) hk2.size)).trans hHeld.1, (hk3.cell (by exact Nat.lt_of_lt_of_le (Nat.lt_of_lt_of_le (HX.out.hA.lt) hk1.size) hk2.size)).trans hHeld.2.1, (hk3.cell (by exact Nat.lt_of_lt_of_le (Nat.lt_of_lt_of_le (HX.out.hA.lt) hk1.size) hk2.size)).trans hHeld.2.2.1, (hk3.cell (by exact Nat.lt_of_lt_of_le (Nat.lt_of_lt_of_le (HX.out.hA.lt) hk1.size) hk2.size)).trans hHeld.2.2.2.1, (hk3.cell (by exact Nat.lt_of_lt_of_le (Nat.lt_of_lt_of_le (HX.out.hZ.lt) hk1.size) hk2.size)).trans hHeld.2.2.2.2.1, (hk3.cell (by exact Nat.lt_of_lt_of_le (Nat.lt_of_lt_of_le (HX.out.hZ.lt) hk1.size) hk2.size)).trans hHeld.2.2.2.2.2.1, (hk3.cell (by exact Nat.lt_of_lt_of_le (Nat.lt_of_lt_of_le (HX.out.hZ.lt) hk1.size) hk2.size)).trans hHeld.2.2.2.2.2.2.1, (hk3.cell (by exact Nat.lt_of_lt_of_le (Nat.lt_of_lt_of_le (HX.out.hZ.lt) hk1.size) hk2.size)).trans hHeld.2.2.2.2.2.2.2⟩) (fun hHeld' => ?_)
  clear hK K hHeld
  have hHeld := hHeld'
  clear hHeld'
  try simp only [Act.put, List.setIfInBounds_toArray, List.set_cons_zero, List.set_cons_succ]
  refine' wpAnyH_take (i := 21) (oi := _) (v := _) ?hA21 (by kernel_rfl) (by kernel_rfl) (by kernel_rfl) ?hQA21 (Or.inl ⟨?hwA21, ?hyA21⟩) hHeld ?restA21
  case hA21 => (simp only [List.getElem?_toArray, List.getElem?_cons_succ, List.getElem?_cons_zero]; rfl)
  case hQA21 => exact fun _ _ _ h => h
  case hwA21 => rfl
  case hyA21 => (intro w hSw; (try dsimp only at hSw); go_simp; try with_reducible rfl)
  try simp only [Act.put, List.setIfInBounds_toArray, List.set_cons_zero, List.set_cons_succ]
  refine' wpAnyH_take (i := 22) (oi := _) (v := _) ?hA22 (by kernel_rfl) (by kernel_rfl) (by kernel_rfl) ?hQA22 (Or.inl ⟨?hwA22, ?hyA22⟩) hHeld ?restA22
  case hA22 => (simp only [List.getElem?_toArray, List.getElem?_cons_succ, List.getElem?_cons_zero]; rfl)
  case hQA22 => exact fun _ _ _ h => h
  case hwA22 => rfl
  case hyA22 => (intro w hSw; (try dsimp only at hSw); go_simp; try with_reducible rfl)
  try simp only [Act.put, List.setIfInBounds_toArray, List.set_cons_zero, List.set_cons_succ]
  refine wpAnyH_done (by kernel_rfl) ?_ _
  have hX2 := HX.out.next ((Below.refl _ _).drew.trans (hk1.trans ((hk2.mono hk1.size).trans (hk3.mono (Nat.le_trans hk1.size hk2.size)))))
  clear q0 q1 q2 q3 z0 z1 z2 z3
  obtain ⟨q0, q1, q2, q3, z0, z1, z2, z3⟩ := hX2.cells
  clear HX
  have HX := Lib.hid hX2
  clear hX2
  clear hk1 hk2 hk3 hHeld HS1 HS2 HS3
  by_cases h0 : n = 0
  case neg =>
    have hne : (n != 0) = true := by simpa using h0
    clear h0
    clear q0 q1 q2 q3 z0 z1 z2 z3
    go_wp2_with (go_at_call 6; refine (live_any _).mono ?_; rintro e v7 ⟨rfl, hb7⟩)
    go_ret
    exact ⟨rfl, HX.out.hB.trans (hb7.mono HX.out.hB.size)⟩
  subst h0
  have hok : (nums c).all okN = true := by
    refine Classical.byContradiction fun h9 => ?_
    have h8 := (p_bad h9).2
    rw [HLN.out.2] at h8
    cases h8
  have hbk := pE_back HWC.out hok
  have hel := enc_len HWC.out hok
  have hrl : r2.data.toList = Cw.sealL (encN (nums c)) := by rw [HR2.out, ← HLN.out.1]; exact (p_ok hok).1
  have hrz : r2.size = 7 + 5 * (c.ws.length + c.ss.length) + 14 * c.cs.length + 2 := by rw [size_of r2 _ hrl, Cw.sealL_length, hel]
  rw [← hrl] at hbk
  have HPG := Lib.hid (parse_go r2 (by rw [hrz]; have := HFC.out; omega) hbk.2 hbk.1)
  have HSZ := Lib.hid (fun V => size_go c a1 c1 a2 c2 a3 c3 V (by have := HFC.out; omega) (by have := HFC.out; omega) (by have := HFC.out; omega) r2.size hrz.symm)
  clear hok hbk hel hrl hrz
  go_wp2_with fail
  refine (HPG.out _).mono ?_
  clear HPG
  rintro e v6 ⟨e1, f1, e2, f2, e3, f3, rfl, hce, hb⟩
  have hX6 := (HX.out.next hb).next ((Below.refl v6.heap.size v6).alloc (Nat.le_refl _) (.cells #[.int .i64 c.fr, .slice e1 c.ws.length f1, .slice e2 c.ss.length f2, .slice e3 c.cs.length f3] 28))
  have hE := Blk.new v6 28 #[.int .i64 c.fr, .slice e1 c.ws.length f1, .slice e2 c.ss.length f2, .slice e3 c.cs.length f3]
  have hcE := hce.keep ((Below.refl v6.heap.size v6).alloc (Nat.le_refl _) (.cells #[.int .i64 c.fr, .slice e1 c.ws.length f1, .slice e2 c.ss.length f2, .slice e3 c.cs.length f3] 28))
  have HE := Lib.hid (And.intro hE hcE)
  clear q0 q1 q2 q3 z0 z1 z2 z3
  clear HX hE hcE hb hce
  have HX := Lib.hid hX6
  clear hX6
  go_wp2_with fail
  generalize v6.alloc _ = v7 at *
  generalize v6.heap.size = g6 at *
  refine (live_any _).mono ?_
  rintro e v8 ⟨rfl, hb⟩
  have hE8 := HE.out.1.below hb HE.out.1.lt
  have hcE8 := HE.out.2.keep hb
  have hX2 := HX.out.next hb
  have y0 := hE8.cell 0
  have y1 := hE8.cell 1
  have y2 := hE8.cell 2
  have y3 := hE8.cell 3
  simp only [List.getElem?_toArray, List.getElem?_cons_succ, List.getElem?_cons_zero] at y0 y1 y2 y3
  obtain ⟨q0, q1, q2, q3, z0, z1, z2, z3⟩ := hX2.cells
  clear HX
  have HX := Lib.hid hX2
  clear hX2
  have HSM := Lib.hid (rsame_go c e1 f1 e2 f2 e3 f3 a1 c1 a2 c2 a3 c3 _ hcE8 HX.out.cC (by have := HFC.out; omega) (by have := HFC.out; omega) (by have := HFC.out; omega) (by have := HNC.out; omega))
  clear hE8 hcE8 HE
  go_wp2_with fail
  clear q0 q1 q2 q3 z0 z1 z2 z3
  clear y0 y1 y2 y3
  refine HSM.out.mono ?_
  clear HSM
  rintro e v9 ⟨rfl, hb⟩
  have hX2 := HX.out.next hb
  obtain ⟨q0, q1, q2, q3, z0, z1, z2, z3⟩ := hX2.cells
  clear HX
  have HX := Lib.hid hX2
  clear hX2
  go_wp2_with fail
  clear q0 q1 q2 q3 z0 z1 z2 z3
  refine (HSZ.out _).mono ?_
  clear HSZ
  rintro e v10 ⟨rfl, hb⟩
  have HX9 := Lib.hid (HX.out.next hb)
  clear hb
  go_wp2
  go_ret
  exact ⟨ret_bool (by simp), HX9.out.hB⟩
end Im
end Go.Proofs.Ytjdhkpafbejodaa
