/- The document's Same: its walk. -/
import Derived.Test.YtjdhkpafbejodaaImP
namespace Go.Proofs.Ytjdhkpafbejodaa
open Go.RowKit
namespace Im
open Sm Bi
/-- A row of numbers in memory. -/
def NmR (w : World) (a : Option Addr) (n : Nat) (l : List Nm) : Prop := l.length = n ∧ (0 < n → ∃ g, a = some ⟨g, 0, none⟩ ∧ g < w.heap.size ∧ ∀ (j : Nat) u, (nmf l)[j]? = some u → w.cell? ⟨g, j, none⟩ = some u)
theorem nmR_of {w : World} {base n cc : Nat} {a : Option Addr} {l : List Nm} (h : w.ownsRow base 58 2 (.slice a n cc) n (nmf l)) (hn : l.length = n) : NmR w a n l := by
  refine ⟨hn, fun h0 => ?_⟩
  obtain ⟨g, cap, hv, _, hlt⟩ := h.form h0
  have hA : a = some ⟨g, 0, none⟩ := by injection hv
  subst hA
  refine ⟨g, rfl, hlt, fun j u hu => ?_⟩
  have := h.cells (g := g) rfl j u hu
  have e : (⟨g, 0, none⟩ : Addr).add j = ⟨g, j, none⟩ := by unfold Addr.add; by_cases h0 : j = 0 <;> simp [h0]
  rw [e] at this
  exact this
theorem NmR.keep {w w' : World} {a : Option Addr} {n : Nat} {l : List Nm} (h : NmR w a n l) (hk : Below w.heap.size w w') : NmR w' a n l := by
  refine ⟨h.1, fun h0 => ?_⟩
  obtain ⟨g, e, hl, hc⟩ := h.2 h0
  exact ⟨g, e, Nat.lt_of_lt_of_le hl hk.size, fun j u hu => (hk.cell (p := ⟨g, j, none⟩) hl).trans (hc j u hu)⟩
theorem NmR.drawn {w w' : World} {a : Option Addr} {n : Nat} {l : List Nm} (h : NmR w a n l) (hd : Drawn w w') : NmR w' a n l := h.keep (hd.below _)
theorem NmR.at_ {w : World} {a : Option Addr} {n : Nat} {l : List Nm} (h : NmR w a n l) {k : Nat} (hk : k < n) :
    ∃ g x y, a = some ⟨g, 0, none⟩ ∧ g < w.heap.size ∧ l[k]? = some (x, y) ∧ w.cell? ⟨g, k * 2, none⟩ = some (.int .i64 x) ∧ w.cell? ⟨g, k * 2 + 1, none⟩ = some (.int .i64 (y : Nat)) := by
  obtain ⟨g, e, hl, hc⟩ := h.2 (by omega)
  obtain ⟨⟨x, y⟩, hx⟩ : ∃ p, l[k]? = some p := ⟨_, List.getElem?_eq_getElem (by have := h.1; omega)⟩
  obtain ⟨g0, g1⟩ := nmf_get l k (x, y) hx
  exact ⟨g, x, y, e, hl, hx, hc _ _ g0, hc _ _ g1⟩
theorem ntake_eq {X Y : List Nm} {k : Nat} {r : Nm} (h : X.take k = Y.take k) (hx : X[k]? = some r) (hy : Y[k]? = some r) : X.take (k + 1) = Y.take (k + 1) := by
  obtain ⟨l1, e1⟩ := List.getElem?_eq_some_iff.1 hx
  obtain ⟨l2, e2⟩ := List.getElem?_eq_some_iff.1 hy
  rw [List.take_succ_eq_append_getElem l1, List.take_succ_eq_append_getElem l2, h, e1, e2]
def NkEq (X Y : List Nm) (k : Nat) : Prop := X.take k = Y.take k
theorem nk_0 (X Y : List Nm) : NkEq X Y 0 := by unfold NkEq; simp
theorem NkEq.next {X Y : List Nm} {k : Nat} {r : Nm} (h : NkEq X Y k) (hx : X[k]? = some r) (hy : Y[k]? = some r) : NkEq X Y (k + 1) := ntake_eq h hx hy
theorem NkEq.all {X Y : List Nm} {n : Nat} (h : NkEq X Y n) (hl : X.length = n) (hm : Y.length = n) : X = Y := by
  unfold NkEq at h
  rw [List.take_of_length_le (by omega), List.take_of_length_le (by omega)] at h
  exact h
theorem eqC_ff {c d : Cfg} (h : c = d → False) : eqC c d = false := by
  rw [Bool.eq_false_iff]
  intro h9
  exact h ((eqC_iff c d).1 h9)
attribute [local irreducible] eqC nums NmR
set_option maxRecDepth 100000 in
set_option maxHeartbeats 4000000 in
theorem rsame_any (c d : Cfg) (a1 : Option Addr) (c1 : Nat) (a2 : Option Addr) (c2 : Nat) (a3 : Option Addr) (c3 : Nat) (b1 : Option Addr) (d1 : Nat) (b2 : Option Addr) (d2 : Nat) (b3 : Option Addr) (d3 : Nat) (W : World) (hc : CfR W c a1 a2 a3) (hd : CfR W d b1 b2 b3)
    (l1 : c.ws.length ≤ 255) (l2 : c.ss.length ≤ 255) (l3 : c.cs.length ≤ 255) (hN : (nums c).length ≤ 4100) (m1 : d.ws.length ≤ 255) (m2 : d.ss.length ≤ 255) (m3 : d.cs.length ≤ 255) (hM : (nums d).length ≤ 4100) :
    Calls Try.prog 10 #[cv c a1 c1 a2 c2 a3 c3, cv d b1 d1 b2 d2 b3 d3] W fun e w' => e = .returned (.bool (eqC c d)) ∧ Below W.heap.size W w' := by
  have HN1 := Lib.hid (fun V (hV : Below W.heap.size W V) => nums_any c a1 c1 a2 c2 a3 c3 V (hc.keep hV) l1 l2 l3 hN)
  have HN2 := Lib.hid (fun V (hV : Below W.heap.size W V) => nums_any d b1 d1 b2 d2 b3 d3 V (hd.keep hV) m1 m2 m3 hM)
  have HWF := Lib.hid (And.intro hc.wf hd.wf)
  have HB0 := Lib.hid (((Below.refl W.heap.size W).alloc (Nat.le_refl _) (.cells #[.int .i64 c.fr, .slice a1 c.ws.length c1, .slice a2 c.ss.length c2, .slice a3 c.cs.length c3] 28)).alloc (by simp) (.cells #[.int .i64 d.fr, .slice b1 d.ws.length d1, .slice b2 d.ss.length d2, .slice b3 d.cs.length d3] 28))
  have hA := (Blk.new W 28 #[.int .i64 c.fr, .slice a1 c.ws.length c1, .slice a2 c.ss.length c2, .slice a3 c.cs.length c3]).alloc (.cells #[.int .i64 d.fr, .slice b1 d.ws.length d1, .slice b2 d.ss.length d2, .slice b3 d.cs.length d3] 28)
  have hZ := Blk.new (W.alloc (.cells #[.int .i64 c.fr, .slice a1 c.ws.length c1, .slice a2 c.ss.length c2, .slice a3 c.cs.length c3] 28)) 28 #[.int .i64 d.fr, .slice b1 d.ws.length d1, .slice b2 d.ss.length d2, .slice b3 d.cs.length d3]
  rw [World.size_alloc] at hZ
  have hlt1 := hA.lt
  have hlt2 := hZ.lt
  have q0 := hA.cell 0
  have q1 := hA.cell 1
  have q2 := hA.cell 2
  have q3 := hA.cell 3
  have z0 := hZ.cell 0
  have z1 := hZ.cell 1
  have z2 := hZ.cell 2
  have z3 := hZ.cell 3
  simp only [List.getElem?_toArray, List.getElem?_cons_succ, List.getElem?_cons_zero] at q0 q1 q2 q3 z0 z1 z2 z3
  unfold cv at HN1 HN2 ⊢
  have HL := Lib.hid (And.intro rfl rfl : c.ws.length = c.ws.length ∧ c.ss.length = c.ss.length)
  obtain ⟨n1, e1⟩ : ∃ n, c.ws.length = n := ⟨_, rfl⟩
  obtain ⟨n2, e2⟩ : ∃ n, c.ss.length = n := ⟨_, rfl⟩
  obtain ⟨n3, e3⟩ : ∃ n, c.cs.length = n := ⟨_, rfl⟩
  obtain ⟨k1, f1⟩ : ∃ n, d.ws.length = n := ⟨_, rfl⟩
  obtain ⟨k2, f2⟩ : ∃ n, d.ss.length = n := ⟨_, rfl⟩
  obtain ⟨k3, f3⟩ : ∃ n, d.cs.length = n := ⟨_, rfl⟩
  have HE := Lib.hid (And.intro e1 (And.intro e2 (And.intro f1 f2)))
  rw [e1, e2, e3] at HN1 HB0 hA hZ hlt1 hlt2 q0 q1 q2 q3 z0 z1 z2 z3
  rw [f1, f2, f3] at HN2 HB0 hA hZ hlt1 hlt2 q0 q1 q2 q3 z0 z1 z2 z3
  rw [e1, e2, e3, f1, f2, f3]
  generalize c.fr = fr at *
  generalize d.fr = gr at *
  clear e1 e2 e3 f1 f2 f3 hc hd HL
  go_enter Try.func10, Try.ntmps10
  go_wp2
  generalize (W.alloc _).alloc _ = w1 at *
  generalize hbx : W.heap.size = bx at *
  have hz : bx ≤ w1.drew.heap.size := by rw [← hbx]; exact HB0.out.size
  refine wp_region_held_drew (S := (fun V => V.cell? ⟨bx, 0, none⟩ = some (.int .i64 fr) ∧ V.cell? ⟨bx, 1, none⟩ = some (.slice a1 n1 c1) ∧ V.cell? ⟨bx, 2, none⟩ = some (.slice a2 n2 c2) ∧ V.cell? ⟨bx, 3, none⟩ = some (.slice a3 n3 c3) ∧ V.cell? ⟨bx + 1, 0, none⟩ = some (.int .i64 gr) ∧ V.cell? ⟨bx + 1, 1, none⟩ = some (.slice b1 k1 d1) ∧ V.cell? ⟨bx + 1, 2, none⟩ = some (.slice b2 k2 d2) ∧ V.cell? ⟨bx + 1, 3, none⟩ = some (.slice b3 k3 d3))) (by kernel_rfl) ⟨q0, q1, q2, q3, z0, z1, z2, z3⟩ (fun hHeld => ?_)
  refine' wpAnyH_take (i := 0) (oi := _) (v := _) ?hA0 (by kernel_rfl) (by kernel_rfl) (by kernel_rfl) ?hQA0 (Or.inl ⟨?hwA0, ?hyA0⟩) hHeld ?restA0
  case hA0 => (simp only [List.getElem?_toArray, List.getElem?_cons_zero]; rfl)
  case hQA0 => exact fun _ _ _ h => h
  case hwA0 => rfl
  case hyA0 => (intro w hSw; (try dsimp only at hSw); go_simp; try with_reducible rfl)
  try simp only [Act.put, List.setIfInBounds_toArray, List.set_cons_zero, List.set_cons_succ]
  refine' wpAnyH_take (i := 2) (oi := _) (v := _) ?hA2 (by kernel_rfl) (by kernel_rfl) (by kernel_rfl) ?hQA2 (Or.inl ⟨?hwA2, ?hyA2⟩) hHeld ?restA2
  case hA2 => (simp only [List.getElem?_toArray, List.getElem?_cons_succ, List.getElem?_cons_zero]; rfl)
  case hQA2 => exact fun _ _ _ h => h
  case hwA2 => rfl
  case hyA2 => (intro w hSw; (try dsimp only at hSw); go_simp; try with_reducible rfl)
  try simp only [Act.put, List.setIfInBounds_toArray, List.set_cons_zero, List.set_cons_succ]
  refine wpAnyH_ready (rs := [1]) (by kernel_rfl) (by simp) ?_
  refine AllReadyH.cons rfl (fun K hK => ?_) AllReadyH.nil
  go_simp
  refine (HN1.out _ (HB0.out.drew)).mono ?_
  rintro e V1 ⟨n, a, cc, rfl, hln, hown1, hkp1⟩
  try go_wp2_with fail
  refine hK.out _ _ (⟨(hkp1.cell (by exact hlt1) (by simp)).trans hHeld.1, (hkp1.cell (by exact hlt1) (by simp)).trans hHeld.2.1, (hkp1.cell (by exact hlt1) (by simp)).trans hHeld.2.2.1, (hkp1.cell (by exact hlt1) (by simp)).trans hHeld.2.2.2.1, (hkp1.cell (by exact hlt2) (by simp)).trans hHeld.2.2.2.2.1, (hkp1.cell (by exact hlt2) (by simp)).trans hHeld.2.2.2.2.2.1, (hkp1.cell (by exact hlt2) (by simp)).trans hHeld.2.2.2.2.2.2.1, (hkp1.cell (by exact hlt2) (by simp)).trans hHeld.2.2.2.2.2.2.2⟩) (fun hHeld' => ?_)
  clear hK K hHeld
  have hHeld := hHeld'
  clear hHeld'
  try simp only [Act.put, List.setIfInBounds_toArray, List.set_cons_zero, List.set_cons_succ]
  refine wpAnyH_ready (rs := [3]) (by kernel_rfl) (by simp) ?_
  refine AllReadyH.cons rfl (fun K hK => ?_) AllReadyH.nil
  go_simp
  refine (HN2.out _ (HB0.out.drew.trans (hkp1.all.mono hz))).mono ?_
  rintro e V2 ⟨m, b, bb, rfl, hlm, hown2, hkp2⟩
  try go_wp2_with fail
  refine hK.out _ _ (⟨(hkp2.cell (by exact Nat.lt_of_lt_of_le hlt1 hkp1.size) (by simp)).trans hHeld.1, (hkp2.cell (by exact Nat.lt_of_lt_of_le hlt1 hkp1.size) (by simp)).trans hHeld.2.1, (hkp2.cell (by exact Nat.lt_of_lt_of_le hlt1 hkp1.size) (by simp)).trans hHeld.2.2.1, (hkp2.cell (by exact Nat.lt_of_lt_of_le hlt1 hkp1.size) (by simp)).trans hHeld.2.2.2.1, (hkp2.cell (by exact Nat.lt_of_lt_of_le hlt2 hkp1.size) (by simp)).trans hHeld.2.2.2.2.1, (hkp2.cell (by exact Nat.lt_of_lt_of_le hlt2 hkp1.size) (by simp)).trans hHeld.2.2.2.2.2.1, (hkp2.cell (by exact Nat.lt_of_lt_of_le hlt2 hkp1.size) (by simp)).trans hHeld.2.2.2.2.2.2.1, (hkp2.cell (by exact Nat.lt_of_lt_of_le hlt2 hkp1.size) (by simp)).trans hHeld.2.2.2.2.2.2.2⟩) (fun hHeld' => ?_)
  clear hK K hHeld
  have hHeld := hHeld'
  clear hHeld'
  try simp only [Act.put, List.setIfInBounds_toArray, List.set_cons_zero, List.set_cons_succ]
  refine' wpAnyH_take (i := 4) (oi := _) (v := _) ?hA4 (by kernel_rfl) (by kernel_rfl) (by kernel_rfl) ?hQA4 (Or.inl ⟨?hwA4, ?hyA4⟩) hHeld ?restA4
  case hA4 => (simp only [List.getElem?_toArray, List.getElem?_cons_succ, List.getElem?_cons_zero]; rfl)
  case hQA4 => exact fun _ _ _ h => h
  case hwA4 => rfl
  case hyA4 => (intro w hSw; (try dsimp only at hSw); go_simp; try with_reducible rfl)
  try simp only [Act.put, List.setIfInBounds_toArray, List.set_cons_zero, List.set_cons_succ]
  refine' wpAnyH_take (i := 5) (oi := _) (v := _) ?hA5 (by kernel_rfl) (by kernel_rfl) (by kernel_rfl) ?hQA5 (Or.inl ⟨?hwA5, ?hyA5⟩) hHeld ?restA5
  case hA5 => (simp only [List.getElem?_toArray, List.getElem?_cons_succ, List.getElem?_cons_zero]; rfl)
  case hQA5 => exact fun _ _ _ h => h
  case hwA5 => rfl
  case hyA5 => (intro w hSw; (try dsimp only at hSw); go_simp; try with_reducible rfl)
  try simp only [Act.put, List.setIfInBounds_toArray, List.set_cons_zero, List.set_cons_succ]
  refine wpAnyH_done (by kernel_rfl) ?_ _
  have hNR1 := (nmR_of hown1 hln).keep hkp2.all
  have hNR2 := nmR_of hown2 hlm
  have HK := Lib.hid (HB0.out.drew.trans ((hkp1.all.trans (hkp2.all.mono hkp1.size)).mono hz))
  rw [← hbx] at HK
  obtain ⟨y0, y1, y2, y3, t0, t1, t2, t3⟩ := hHeld
  clear q0 q1 q2 q3 z0 z1 z2 z3 hA hZ hlt1 hlt2 hz hown1 hown2 hkp1 hkp2 HN1 HN2 HB0
  have H1 := Lib.hid hNR1
  have H2 := Lib.hid hNR2
  have HLN := Lib.hid (And.intro hln hlm)
  clear hNR1 hNR2 hln hlm
  by_cases hnm : n = m
  case neg =>
    have hv : eqC c d = false := eqC_ff (fun h9 => hnm (by rw [← HLN.out.1, ← HLN.out.2, h9]))
    have HV := Lib.hid hv
    have hb : ((n : Int) != (m : Int)) = true := by simpa using (by omega : ¬ (n : Int) = (m : Int))
    clear hv hnm
    go_wp2
    go_ret
    exact ⟨by rw [HV.out]; rfl, HK.out⟩
  subst hnm
  by_cases h1 : n1 = k1
  case neg =>
    have hv : eqC c d = false := eqC_ff (fun h9 => h1 (by rw [← HE.out.1, ← HE.out.2.2.1, h9]))
    have HV := Lib.hid hv
    have hb : ((n1 : Int) != (k1 : Int)) = true := by simpa using (by omega : ¬ (n1 : Int) = (k1 : Int))
    clear hv h1
    go_wp2
    go_ret
    exact ⟨by rw [HV.out]; rfl, HK.out⟩
  subst h1
  by_cases h2 : n2 = k2
  case neg =>
    have hv : eqC c d = false := eqC_ff (fun h9 => h2 (by rw [← HE.out.2.1, ← HE.out.2.2.2, h9]))
    have HV := Lib.hid hv
    have hb : ((n2 : Int) != (k2 : Int)) = true := by simpa using (by omega : ¬ (n2 : Int) = (k2 : Int))
    clear hv h2
    go_wp2
    go_ret
    exact ⟨by rw [HV.out]; rfl, HK.out⟩
  subst h2
  have hn1900 : n ≤ 4100 := by rw [← HLN.out.1]; exact hN
  go_wp2_with fail
  go_loopw [7] (fun i wr => ∃ k : Nat, k ≤ n ∧ i = .int .i64 k ∧ Drawn V2 wr ∧ NkEq (nums c) (nums d) k) (fun i _ => n - (intOf i).toNat)
  case atStart => exact ⟨0, by omega, rfl, Drawn.refl _, nk_0 _ _⟩
  case round =>
    obtain ⟨k, hk, rfl, hd, htk⟩ := hrel
    have HT := Lib.hid htk
    have HD := Lib.hid hd
    by_cases hlt : k < n
    · obtain ⟨g1, x, y, rfl, hg1, hx, p0, p1⟩ := (H1.out.drawn hd).at_ (k := k) hlt
      obtain ⟨g2, x', y', rfl, hg2, hy, r0, r1⟩ := (H2.out.drawn hd).at_ (k := k) hlt
      have hki0 : (0 : Int) ≤ (k : Int) := by omega
      have hki1 : (k : Int) < (n : Int) := by omega
      have HX := Lib.hid (And.intro hx hy)
      clear hx hy hd htk y0 y1 y2 y3 t0 t1 t2 t3
      by_cases e0 : x = x'
      case neg =>
        have hne : (x == x') = false := by simpa using e0
        have HNE := Lib.hid (eqC_ff (c := c) (d := d) (fun h9 => by have h8 := HX.out; rw [h9] at h8; have h7 := Option.some.inj (h8.1.symm.trans h8.2); injection h7 with h6 h5; exact e0 h6))
        clear e0
        go_wp2
        go_quiet (fail)
        go_wp2
        go_ret
        exact ⟨by rw [HNE.out]; rfl, below_drewN (HK.out.trans (HD.out.below _)) _⟩
      subst e0
      by_cases e1 : y = y'
      case neg =>
        have hne : ((y : Int) == (y' : Int)) = false := by simpa using (by omega : ¬ (y : Int) = (y' : Int))
        have HNE := Lib.hid (eqC_ff (c := c) (d := d) (fun h9 => by have h8 := HX.out; rw [h9] at h8; have h7 := Option.some.inj (h8.1.symm.trans h8.2); injection h7 with h6 h5; exact e1 h5))
        clear e1
        go_wp2
        go_quiet (fail)
        go_wp2
        go_ret
        exact ⟨by rw [HNE.out]; rfl, below_drewN (HK.out.trans (HD.out.below _)) _⟩
      subst e1
      have HNX := Lib.hid (HT.out.next HX.out.1 HX.out.2)
      go_wp2
      go_quiet (fail)
      go_wp2
      go_roundw
      case rel => exact ⟨k + 1, by omega, by go_num, HD.out.trans ⟨_, rfl⟩, HNX.out⟩
      case measure => simp [intOf]; omega
    · obtain rfl : n = k := by omega
      have hall := HT.out.all HLN.out.1 HLN.out.2
      have hv : eqC c d = true := (eqC_iff c d).2 (nums_inj HWF.out.1 HWF.out.2 (by rw [HE.out.1, HE.out.2.2.1]) (by rw [HE.out.2.1, HE.out.2.2.2]) hall)
      have HV := Lib.hid hv
      clear hv hall htk hd y0 y1 y2 y3 t0 t1 t2 t3
      go_wp2
      go_ret
      exact ⟨by rw [HV.out]; rfl, HK.out.trans (HD.out.below _)⟩
end Im
end Go.Proofs.Ytjdhkpafbejodaa
