/- The document's Nums: its walk. -/
import Derived.Test.YtjdhkpafbejodaaImO
import Derived.Test.YtjdhkpafbejodaaImG
import Derived.Deep.CutBlock
namespace Go.Proofs.Ytjdhkpafbejodaa
open Go.RowKit
namespace Im
open Sm Bi
set_option linter.unusedVariables false
/-- The numbers under way: the tables' box in block bx, a row of numbers that the call owns. -/
structure Nu (W w : World) (bx : Nat) (cvv : Array Value) (l : List Nm) (n : Nat) (a : Option Addr) (cc : Nat) : Prop where
  ow : w.ownsRow W.heap.size 58 2 (.slice a n cc) n (nmf l)
  hn : l.length = n
  bk : Blk w bx 28 cvv
  kp : Keeps [] W w
  hw : W.heap.size = bx
section
variable {W w w' : World} {bx : Nat} {cvv : Array Value} {l : List Nm} {n : Nat} {a : Option Addr} {cc : Nat}
theorem Nu.same (h : Nu W w bx cvv l n a cc) (hk : Keeps [] w w') : Nu W w' bx cvv l n a cc := ⟨ownsRow_keeps h.ow hk (by simp), h.hn, h.bk.keeps hk (by simp), h.kp.next hk (by simp), h.hw⟩
theorem Nu.low (h : Nu W w bx cvv l n a cc) : W.heap.size ≤ w.heap.size ∧ bx < w.heap.size := ⟨h.kp.size, h.bk.lt⟩
theorem Nu.grow {x : List Nm} {m : Nat} {p : Option Addr} {c' : Nat} (h : Nu W w bx cvv l n a cc) (hx : x.length = m) (own1 : w'.ownsRow W.heap.size 58 2 (.slice p (n + m) c') (n + m) (nmf l ++ nmf x)) (hg : w.grownBy w' (Value.slice a n cc).ownBlock) :
    Nu W w' bx cvv (l ++ x) (n + m) p c' := by
  refine ⟨by rw [nmf_app]; exact own1, by rw [List.length_append, h.hn, hx], Blk.grown h.bk hg (fun e => own_blk_ne h.ow h.bk (by decide) e.symm), h.kp.grown hg (fun k e => .inr (h.ow.lt k e).1), h.hw⟩
theorem Nu.cell_g {x : List Nm} {m : Nat} (h : Nu W w bx cvv l n a cc) (hg : w.grownBy w' (Value.slice a n cc).ownBlock) {p : Addr} (hp : p.block < W.heap.size ∨ p.block = bx) : w'.cell? p = w.cell? p := by
  refine World.cell?_of_block (w := w) (hg.block p.block ?_ ?_)
  · have := h.low; have := h.hw; omega
  · intro e
    rcases hp with hp | hp
    · have := (h.ow.lt p.block e.symm).1; omega
    · exact own_blk_ne h.ow h.bk (by decide) (by rw [← e, hp])
theorem nu_0 (W : World) (cvv : Array Value) (c : Cfg) : Nu W ((W.alloc (.cells cvv 28)).alloc (.cells (nmf (A1 c)).toArray 58)) W.heap.size cvv (A1 c) 4 (some ⟨W.heap.size + 1, 0, none⟩) 4 := by
  refine ⟨⟨rfl, .inr ⟨W.heap.size + 1, 4, (nmf (A1 c)).toArray, rfl, by omega, ?_, by omega, by simp [maxLen], rfl, rfl⟩⟩, rfl, (Blk.new _ _ _).alloc _, ((Keeps.refl [] W).alloc _).alloc _, rfl⟩
  have := Blk.new (W.alloc (.cells cvv 28)) 58 (nmf (A1 c)).toArray
  rw [World.size_alloc] at this
  exact this
theorem nm_own {m : Nat} {l : List Nm} (w : World) (hl : l.length = m) : Reads (w.alloc (.cells (nmf l).toArray 58)) (w.heap.size + 1) 2 (some ⟨w.heap.size, 0, none⟩) m (nmf l) := by
  refine ⟨by rw [nmf_len, hl], fun _ => ⟨_, rfl, by simp, fun j u hu => ?_⟩⟩
  have e : (⟨w.heap.size, 0, none⟩ : Addr).add j = ⟨w.heap.size, j, none⟩ := by unfold Addr.add; by_cases h0 : j = 0 <;> simp [h0]
  rw [e, (Blk.new w _ _).cell]
  simpa using hu
end
/-- What Nums answers. -/
def IsNums (l : List Nm) (W : World) (e : Ending) (W' : World) : Prop := ∃ (n : Nat) (a : Option Addr) (cc : Nat), e = .returned (.slice a n cc) ∧ l.length = n ∧ W'.ownsRow W.heap.size 58 2 (.slice a n cc) n (nmf l) ∧ Keeps [] W W'
theorem Nu.done {W w : World} {bx : Nat} {cvv : Array Value} {l : List Nm} {n : Nat} {a : Option Addr} {cc : Nat} (h : Nu W w bx cvv l n a cc) : IsNums l W (.returned (.slice a n cc)) w := ⟨n, a, cc, rfl, h.hn, h.ow, h.kp⟩
attribute [local irreducible] L1 L2 L3 nmf
set_option maxRecDepth 100000 in
set_option maxHeartbeats 8000000 in
theorem nums_any (c : Cfg) (a1 : Option Addr) (c1 : Nat) (a2 : Option Addr) (c2 : Nat) (a3 : Option Addr) (c3 : Nat) (W : World) (hr : CfR W c a1 a2 a3) (h1 : c.ws.length ≤ 255) (h2 : c.ss.length ≤ 255) (h3 : c.cs.length ≤ 255) (hN : (nums c).length ≤ 4100) :
    Calls Try.prog 24 #[cv c a1 c1 a2 c2 a3 c3] W (IsNums (nums c) W) := by
  unfold cv
  have hLL := L_len c
  have hP := nu_0 W #[.int .i64 c.fr, .slice a1 c.ws.length c1, .slice a2 c.ss.length c2, .slice a3 c.cs.length c3] c
  rw [show (nmf (A1 c)).toArray = #[.int .i64 67, .int .i64 1, .int .i64 1, .int .i64 1, .int .i64 c.fr, .int .i64 2, .int .i64 (c.ws.length : Int), .int .i64 1] from by unfold nmf; rfl] at hP
  obtain ⟨n1, e1⟩ : ∃ n, c.ws.length = n := ⟨_, rfl⟩
  obtain ⟨n2, e2⟩ : ∃ n, c.ss.length = n := ⟨_, rfl⟩
  obtain ⟨n3, e3⟩ : ∃ n, c.cs.length = n := ⟨_, rfl⟩
  obtain ⟨fr, ef⟩ : ∃ n, c.fr = n := ⟨_, rfl⟩
  rw [e1, e2, e3, ef] at hP
  rw [e1] at h1 ⊢
  rw [e2] at h2 ⊢
  rw [e3] at h3 ⊢
  rw [ef]
  obtain ⟨bx, hbx⟩ : ∃ bx, W.heap.size = bx := ⟨_, rfl⟩
  rw [← L1_0] at hP
  have HE := Lib.hid (And.intro e1 (And.intro e2 (And.intro e3 ef)))
  have HR := Lib.hid hr
  have HN := Lib.hid hN
  have HLL := Lib.hid hLL
  have HP := Lib.hid hP
  obtain ⟨i0, hi0, hz0, hz1, hz2⟩ := info_parts nm_info
  have HI := Lib.hid (And.intro hi0 (And.intro hz0 (And.intro hz1 hz2)))
  clear e1 e2 e3 ef hr hN hLL hP hi0 hz0 hz1 hz2
  go_enter Try.func24, Try.ntmps24
  go_wp2_with fail
  generalize (W.alloc _).alloc _ = w1 at *
  rw [hbx] at HP
  go_loopw [3, 4] (fun o i wr => ∃ (k n : Nat) (a : Option Addr) (cc : Nat), k ≤ n1 ∧ i = .int .i64 k ∧ o = .slice a n cc ∧ Nu W wr bx #[.int .i64 fr, .slice a1 n1 c1, .slice a2 n2 c2, .slice a3 n3 c3] (L1 c k) n a cc) (fun _ i _ => n1 - (intOf i).toNat)
  case atStart => exact ⟨0, _, _, _, by omega, rfl, rfl, HP.out⟩
  case round =>
    obtain ⟨k, n, a, cc, hk, rfl, rfl, hP⟩ := hrel
    have q1 : wr.cell? ⟨bx, 1, none⟩ = some (.slice a1 n1 c1) := hP.bk.cell 1
    have hlow := hP.low
    have hnb : n + 12 ≤ 4200 := by have h8 := (HLL.out k).1; have h9 := HN.out; have h7 := hP.hn; omega
    clear HP
    by_cases hlt : k < n1
    · obtain ⟨b, off, x, y, z, rfl, hb, hrow, p0, p1, p2⟩ := ri3 (HR.out.keep hP.kp.all).r1 (k := k) (by rw [HE.out.1]; exact hlt)
      have hbW : b < W.heap.size := by obtain ⟨b', off', h8⟩ := ri3 HR.out.r1 (k := k) (by rw [HE.out.1]; exact hlt); obtain ⟨_, _, _, h8, h9, _⟩ := h8; injection h8 with h8; injection h8 with h8; omega
      have hki0 : (0 : Int) ≤ (k : Int) := by omega
      have hki1 : (k : Int) < (n1 : Int) := by omega
      have HW := Lib.hid hrow
      have HP := Lib.hid (hP.same (Keeps.refl [] wr).drew)
      clear hP hrow
      go_wp2
      refine wp_region_held_drew (S := (fun V => V.cell? ⟨bx, 1, none⟩ = some (.slice (some ⟨b, off, none⟩) n1 c1) ∧ V.cell? ⟨b, off + k * 3, none⟩ = some (.int .i64 x) ∧ V.cell? ⟨b, off + k * 3 + 1, none⟩ = some (.int .i64 y) ∧ V.cell? ⟨b, off + k * 3 + 2, none⟩ = some (.int .i64 z))) (by kernel_rfl) ⟨q1, p0, p1, p2⟩ (fun hHeld => ?_)
      refine' wpAnyH_take (i := 0) (oi := _) (v := _) ?hN10 (by kernel_rfl) (by kernel_rfl) (by kernel_rfl) ?hQN10 (Or.inl ⟨?hwN10, ?hyN10⟩) hHeld ?restN10
      case hN10 => (simp only [List.getElem?_toArray, List.getElem?_cons_zero]; rfl)
      case hQN10 => exact fun _ _ _ h => h
      case hwN10 => rfl
      case hyN10 => (intro w hSw; (try dsimp only at hSw); go_simp; try with_reducible rfl)
      try simp only [Act.put, List.setIfInBounds_toArray, List.set_cons_zero, List.set_cons_succ]
      refine' wpAnyH_take (i := 1) (oi := _) (v := _) ?hN11 (by kernel_rfl) (by kernel_rfl) (by kernel_rfl) ?hQN11 (Or.inl ⟨?hwN11, ?hyN11⟩) hHeld ?restN11
      case hN11 => (simp only [List.getElem?_toArray, List.getElem?_cons_succ, List.getElem?_cons_zero]; rfl)
      case hQN11 => exact fun _ _ _ h => h
      case hwN11 => rfl
      case hyN11 => (intro w hSw; (try dsimp only at hSw); go_simp; try with_reducible rfl)
      try simp only [Act.put, List.setIfInBounds_toArray, List.set_cons_zero, List.set_cons_succ]
      refine' wpAnyH_take (i := 2) (oi := _) (v := _) ?hN12 (by kernel_rfl) (by kernel_rfl) (by kernel_rfl) ?hQN12 (Or.inl ⟨?hwN12, ?hyN12⟩) hHeld ?restN12
      case hN12 => (simp only [List.getElem?_toArray, List.getElem?_cons_succ, List.getElem?_cons_zero]; rfl)
      case hQN12 => exact fun _ _ _ h => h
      case hwN12 => rfl
      case hyN12 => (intro w hSw; (try dsimp only at hSw); go_simp; try with_reducible rfl)
      try simp only [Act.put, List.setIfInBounds_toArray, List.set_cons_zero, List.set_cons_succ]
      refine' wpAnyH_take (i := 3) (oi := _) (v := _) ?hN13 (by kernel_rfl) (by kernel_rfl) (by kernel_rfl) ?hQN13 (Or.inl ⟨?hwN13, ?hyN13⟩) hHeld ?restN13
      case hN13 => (simp only [List.getElem?_toArray, List.getElem?_cons_succ, List.getElem?_cons_zero]; rfl)
      case hQN13 => exact fun _ _ _ h => h
      case hwN13 => rfl
      case hyN13 => (intro w hSw; (try dsimp only at hSw); go_simp; try with_reducible rfl)
      try simp only [Act.put, List.setIfInBounds_toArray, List.set_cons_zero, List.set_cons_succ]
      refine' wpAnyH_take (i := 4) (oi := _) (v := _) ?hN14 (by kernel_rfl) (by kernel_rfl) (by kernel_rfl) ?hQN14 (Or.inl ⟨?hwN14, ?hyN14⟩) hHeld ?restN14
      case hN14 => (simp only [List.getElem?_toArray, List.getElem?_cons_succ, List.getElem?_cons_zero]; rfl)
      case hQN14 => exact fun _ _ _ h => h
      case hwN14 => rfl
      case hyN14 => (intro w hSw; (try dsimp only at hSw); go_simp; try with_reducible rfl)
      try simp only [Act.put, List.setIfInBounds_toArray, List.set_cons_zero, List.set_cons_succ]
      refine' wpAnyH_take (i := 5) (oi := _) (v := _) ?hN15 (by kernel_rfl) (by kernel_rfl) (by kernel_rfl) ?hQN15 (Or.inl ⟨?hwN15, ?hyN15⟩) hHeld ?restN15
      case hN15 => (simp only [List.getElem?_toArray, List.getElem?_cons_succ, List.getElem?_cons_zero]; rfl)
      case hQN15 => exact fun _ _ _ h => h
      case hwN15 => rfl
      case hyN15 => (intro w hSw; (try dsimp only at hSw); go_simp; try with_reducible rfl)
      try simp only [Act.put, List.setIfInBounds_toArray, List.set_cons_zero, List.set_cons_succ]
      refine' wpAnyH_take (i := 6) (oi := _) (v := _) ?hN16 (by kernel_rfl) (by kernel_rfl) (by kernel_rfl) ?hQN16 (Or.inl ⟨?hwN16, ?hyN16⟩) hHeld ?restN16
      case hN16 => (simp only [List.getElem?_toArray, List.getElem?_cons_succ, List.getElem?_cons_zero]; rfl)
      case hQN16 => exact fun _ _ _ h => h
      case hwN16 => rfl
      case hyN16 => (intro w hSw; (try dsimp only at hSw); go_simp; try with_reducible rfl)
      try simp only [Act.put, List.setIfInBounds_toArray, List.set_cons_zero, List.set_cons_succ]
      refine' wpAnyH_take (i := 7) (oi := _) (v := _) ?hN17 (by kernel_rfl) (by kernel_rfl) (by kernel_rfl) ?hQN17 (Or.inl ⟨?hwN17, ?hyN17⟩) hHeld ?restN17
      case hN17 => (simp only [List.getElem?_toArray, List.getElem?_cons_succ, List.getElem?_cons_zero]; rfl)
      case hQN17 => exact fun _ _ _ h => h
      case hwN17 => rfl
      case hyN17 => (intro w hSw; (try dsimp only at hSw); go_simp; try with_reducible rfl)
      try simp only [Act.put, List.setIfInBounds_toArray, List.set_cons_zero, List.set_cons_succ]
      refine' wpAnyH_take (i := 8) (oi := _) (v := _) ?hN18 (by kernel_rfl) (by kernel_rfl) (by kernel_rfl) ?hQN18 (Or.inl ⟨?hwN18, ?hyN18⟩) hHeld ?restN18
      case hN18 => (simp only [List.getElem?_toArray, List.getElem?_cons_succ, List.getElem?_cons_zero]; rfl)
      case hQN18 => exact fun _ _ _ h => h
      case hwN18 => rfl
      case hyN18 => (intro w hSw; (try dsimp only at hSw); go_simp; try with_reducible rfl)
      try simp only [Act.put, List.setIfInBounds_toArray, List.set_cons_zero, List.set_cons_succ]
      refine' wpAnyH_take (i := 9) (oi := _) (v := _) ?hN19 (by kernel_rfl) (by kernel_rfl) (by kernel_rfl) ?hQN19 (Or.inl ⟨?hwN19, ?hyN19⟩) hHeld ?restN19
      case hN19 => (simp only [List.getElem?_toArray, List.getElem?_cons_succ, List.getElem?_cons_zero]; rfl)
      case hQN19 => exact fun _ _ _ h => h
      case hwN19 => rfl
      case hyN19 => (intro w hSw; (try dsimp only at hSw); go_simp; try with_reducible rfl)
      try simp only [Act.put, List.setIfInBounds_toArray, List.set_cons_zero, List.set_cons_succ]
      refine' wpAnyH_take (i := 10) (oi := _) (v := _) ?hN110 (by kernel_rfl) (by kernel_rfl) (by kernel_rfl) ?hQN110 (Or.inl ⟨?hwN110, ?hyN110⟩) hHeld ?restN110
      case hN110 => (simp only [List.getElem?_toArray, List.getElem?_cons_succ, List.getElem?_cons_zero]; rfl)
      case hQN110 => exact fun _ _ _ h => h
      case hwN110 => rfl
      case hyN110 => (intro w hSw; (try dsimp only at hSw); go_simp; try with_reducible rfl)
      try simp only [Act.put, List.setIfInBounds_toArray, List.set_cons_zero, List.set_cons_succ]
      refine' wpAnyH_take (i := 11) (oi := _) (v := _) ?hN111 (by kernel_rfl) (by kernel_rfl) (by kernel_rfl) ?hQN111 (Or.inl ⟨?hwN111, ?hyN111⟩) hHeld ?restN111
      case hN111 => (simp only [List.getElem?_toArray, List.getElem?_cons_succ, List.getElem?_cons_zero]; rfl)
      case hQN111 => exact fun _ _ _ h => h
      case hwN111 => rfl
      case hyN111 => (intro w hSw; (try dsimp only at hSw); go_simp; try with_reducible rfl)
      try simp only [Act.put, List.setIfInBounds_toArray, List.set_cons_zero, List.set_cons_succ]
      refine' wpAnyH_take (i := 12) (oi := _) (v := _) ?hN112 (by kernel_rfl) (by kernel_rfl) (by kernel_rfl) ?hQN112 (Or.inl ⟨?hwN112, ?hyN112⟩) hHeld ?restN112
      case hN112 => (simp only [List.getElem?_toArray, List.getElem?_cons_succ, List.getElem?_cons_zero]; rfl)
      case hQN112 => exact fun _ _ _ h => h
      case hwN112 => rfl
      case hyN112 => (intro w hSw; (try dsimp only at hSw); go_simp; try with_reducible rfl)
      try simp only [Act.put, List.setIfInBounds_toArray, List.set_cons_zero, List.set_cons_succ]
      refine' wpAnyH_take (i := 13) (oi := _) (v := _) ?hN113 (by kernel_rfl) (by kernel_rfl) (by kernel_rfl) ?hQN113 (Or.inl ⟨?hwN113, ?hyN113⟩) hHeld ?restN113
      case hN113 => (simp only [List.getElem?_toArray, List.getElem?_cons_succ, List.getElem?_cons_zero]; rfl)
      case hQN113 => exact fun _ _ _ h => h
      case hwN113 => rfl
      case hyN113 => (intro w hSw; (try dsimp only at hSw); go_simp; try with_reducible rfl)
      try simp only [Act.put, List.setIfInBounds_toArray, List.set_cons_zero, List.set_cons_succ]
      refine' wpAnyH_take (i := 14) (oi := _) (v := _) ?hN114 (by kernel_rfl) (by kernel_rfl) (by kernel_rfl) ?hQN114 (Or.inl ⟨?hwN114, ?hyN114⟩) hHeld ?restN114
      case hN114 => (simp only [List.getElem?_toArray, List.getElem?_cons_succ, List.getElem?_cons_zero]; rfl)
      case hQN114 => exact fun _ _ _ h => h
      case hwN114 => rfl
      case hyN114 => (intro w hSw; (try dsimp only at hSw); go_simp; try with_reducible rfl)
      try simp only [Act.put, List.setIfInBounds_toArray, List.set_cons_zero, List.set_cons_succ]
      refine' wpAnyH_take (i := 15) (oi := _) (v := _) ?hN115 (by kernel_rfl) (by kernel_rfl) (by kernel_rfl) ?hQN115 (Or.inl ⟨?hwN115, ?hyN115⟩) hHeld ?restN115
      case hN115 => (simp only [List.getElem?_toArray, List.getElem?_cons_succ, List.getElem?_cons_zero]; rfl)
      case hQN115 => exact fun _ _ _ h => h
      case hwN115 => rfl
      case hyN115 => (intro w hSw; (try dsimp only at hSw); go_simp; try with_reducible rfl)
      try simp only [Act.put, List.setIfInBounds_toArray, List.set_cons_zero, List.set_cons_succ]
      refine' wpAnyH_take (i := 16) (oi := _) (v := _) ?hN116 (by kernel_rfl) (by kernel_rfl) (by kernel_rfl) ?hQN116 (Or.inl ⟨?hwN116, ?hyN116⟩) hHeld ?restN116
      case hN116 => (simp only [List.getElem?_toArray, List.getElem?_cons_succ, List.getElem?_cons_zero]; rfl)
      case hQN116 => exact fun _ _ _ h => h
      case hwN116 => rfl
      case hyN116 => (intro w hSw; (try dsimp only at hSw); go_simp; try with_reducible rfl)
      try simp only [Act.put, List.setIfInBounds_toArray, List.set_cons_zero, List.set_cons_succ]
      refine' wpAnyH_take (i := 17) (oi := _) (v := _) ?hN117 (by kernel_rfl) (by kernel_rfl) (by kernel_rfl) ?hQN117 (Or.inl ⟨?hwN117, ?hyN117⟩) hHeld ?restN117
      case hN117 => (simp only [List.getElem?_toArray, List.getElem?_cons_succ, List.getElem?_cons_zero]; rfl)
      case hQN117 => exact fun _ _ _ h => h
      case hwN117 => rfl
      case hyN117 => (intro w hSw; (try dsimp only at hSw); go_simp; try with_reducible rfl)
      try simp only [Act.put, List.setIfInBounds_toArray, List.set_cons_zero, List.set_cons_succ]
      refine' wpAnyH_take (i := 18) (oi := _) (v := _) ?hN118 (by kernel_rfl) (by kernel_rfl) (by kernel_rfl) ?hQN118 (Or.inl ⟨?hwN118, ?hyN118⟩) hHeld ?restN118
      case hN118 => (simp only [List.getElem?_toArray, List.getElem?_cons_succ, List.getElem?_cons_zero]; rfl)
      case hQN118 => exact fun _ _ _ h => h
      case hwN118 => rfl
      case hyN118 => (intro w hSw; (try dsimp only at hSw); go_simp; try with_reducible rfl)
      try simp only [Act.put, List.setIfInBounds_toArray, List.set_cons_zero, List.set_cons_succ]
      refine wpAnyH_ready (rs := [19]) (by kernel_rfl) (by simp) ?_
      refine AllReadyH.cons rfl (fun K hK => ?_) AllReadyH.nil
      go_simp
      refine (rrow_any x y z _).mono ?_
      rintro e V2 ⟨rfl, rfl⟩
      try go_wp2_with fail
      refine hK.out _ _ (⟨(World.cell?_alloc_lt _ _ _ (by have := HP.out.low.2; exact this)).trans hHeld.1, (World.cell?_alloc_lt _ _ _ (by have := HP.out.low.1; show b < _; omega)).trans hHeld.2.1, (World.cell?_alloc_lt _ _ _ (by have := HP.out.low.1; show b < _; omega)).trans hHeld.2.2.1, (World.cell?_alloc_lt _ _ _ (by have := HP.out.low.1; show b < _; omega)).trans hHeld.2.2.2⟩) (fun hHeld' => ?_)
      clear hK K hHeld
      have hHeld := hHeld'
      clear hHeld'
      try simp only [Act.put, List.setIfInBounds_toArray, List.set_cons_zero, List.set_cons_succ]
      refine wpAnyH_ready (rs := [20]) (by kernel_rfl) (by simp) ?_
      refine' AllReadyH.cons (o := _) ?hoN120 (fun K hK => ?stN120) AllReadyH.nil
      case hoN120 => (simp only [List.getElem?_toArray, List.getElem?_cons_succ, List.getElem?_cons_zero]; rfl)
      rw [if_pos (by rfl)]
      have hPa := HP.out.same ((Keeps.refl [] _).alloc (.cells (nmf (rowN wsh [x, y, z])).toArray 58))
      have hlo := hPa.low
      refine wp_append_any _ (.tmp 25) (.tmp 44) 55 rfl W.heap.size 58 i0 _ 2 16 Try.underlying55 HI.out.1 HI.out.2.1 HI.out.2.2.1 HI.out.2.2.2 rfl (by decide) (.slice a n cc) n (nmf (L1 c k)) rfl hPa.ow _ (some ⟨wr.heap.size, 0, none⟩) 3 3 (nmf (rowN wsh [x, y, z])) rfl (nm_own _ rfl) (nmf_cell _) (by simp only [maxLen]; omega) (by omega) hlo.1 ?_
      intro v1 V1 own1 g1 at1
      obtain ⟨p1, cc1, rfl⟩ := own_form own1
      have hc9 := fun (p : Addr) hp => hPa.cell_g (x := []) (m := 0) g1 (p := p) hp
      have HQ := Lib.hid (hPa.grow (x := rowN wsh [x, y, z]) rfl own1 g1)
      clear own1 g1 at1 hPa hlo
      refine hK.out _ _ (⟨(hc9 _ (.inr rfl)).trans hHeld.1, (hc9 _ (.inl hbW)).trans hHeld.2.1, (hc9 _ (.inl hbW)).trans hHeld.2.2.1, (hc9 _ (.inl hbW)).trans hHeld.2.2.2⟩) (fun hHeld' => ?_)
      clear hK K hHeld
      have hHeld := hHeld'
      clear hHeld'
      try simp only [Act.put, List.setIfInBounds_toArray, List.set_cons_zero, List.set_cons_succ]
      refine' wpAnyH_take (i := 21) (oi := _) (v := _) ?hN121 (by kernel_rfl) (by kernel_rfl) (by kernel_rfl) ?hQN121 (Or.inl ⟨?hwN121, ?hyN121⟩) hHeld ?restN121
      case hN121 => (simp only [List.getElem?_toArray, List.getElem?_cons_succ, List.getElem?_cons_zero]; rfl)
      case hQN121 => exact fun _ _ _ h => h
      case hwN121 => rfl
      case hyN121 => (intro w hSw; (try dsimp only at hSw); go_simp; try with_reducible rfl)
      try simp only [Act.put, List.setIfInBounds_toArray, List.set_cons_zero, List.set_cons_succ]
      refine wpAnyH_done (by kernel_rfl) ?_ _
      go_wp2
      go_roundw
      case rel => exact ⟨k + 1, _, _, _, by omega, by go_num, rfl, by rw [L1_s c HW.out]; exact HQ.out⟩
      case measure => simp [intOf]; omega
    · obtain rfl : n1 = k := by omega
      have q2 : wr.cell? ⟨bx, 2, none⟩ = some (.slice a2 n2 c2) := hP.bk.cell 2
      have hPa := hP.same ((Keeps.refl [] wr).alloc (.cells #[.int .i64 (n2 : Int), .int .i64 1] 58))
      have hlo := hPa.low
      have hrd := nm_own (m := 1) (l := [((n2 : Int), 1)]) wr rfl
      rw [show (nmf [((n2 : Int), 1)]).toArray = #[.int .i64 (n2 : Int), .int .i64 1] from by unfold nmf; rfl] at hrd
      have HP := Lib.hid hPa
      have HRD := Lib.hid hrd
      clear hP hPa hrd
      have hl2 : L1 c n1 ++ [((n2 : Int), 1)] = L2 c 0 := by rw [← HE.out.1, ← HE.out.2.1]; exact L1_n c
      have HL2 := Lib.hid hl2
      clear hl2
      go_wp2_with (at_builtin; refine wpList_append_any _ rfl (.tmp 46) (.tmp 51) _ rfl W.heap.size 58 i0 _ 2 16 Try.underlying55 HI.out.1 HI.out.2.1 HI.out.2.2.1 HI.out.2.2.2 rfl (by decide) (.slice a n cc) n (nmf (L1 c n1)) rfl HP.out.ow _ _ 1 1 (nmf [((n2 : Int), 1)]) rfl HRD.out (nmf_cell _) (by simp only [maxLen]; omega) (by omega) hlo.1 ?_; intro v1 V1 own1 g1 at1; obtain ⟨p1, cc1, rfl⟩ := own_form own1; have hQ := HP.out.grow (x := [((n2 : Int), 1)]) rfl own1 g1; rw [HL2.out] at hQ; have q2 : V1.cell? ⟨bx, 2, none⟩ = some (.slice a2 n2 c2) := hQ.bk.cell 2; have HQ := Lib.hid hQ; clear own1 g1 at1 hQ)
      clear HP
      have HP := HQ
      clear HQ
      go_loopw [3, 5] (fun o i wr => ∃ (k n : Nat) (a : Option Addr) (cc : Nat), k ≤ n2 ∧ i = .int .i64 k ∧ o = .slice a n cc ∧ Nu W wr bx #[.int .i64 fr, .slice a1 n1 c1, .slice a2 n2 c2, .slice a3 n3 c3] (L2 c k) n a cc) (fun _ i _ => n2 - (intOf i).toNat)
      case atStart => exact ⟨0, _, _, _, by omega, rfl, rfl, HP.out⟩
      case round =>
        obtain ⟨k, n, a, cc, hk, rfl, rfl, hP⟩ := hrel
        have q1 : wr.cell? ⟨bx, 2, none⟩ = some (.slice a2 n2 c2) := hP.bk.cell 2
        have hlow := hP.low
        have hnb : n + 12 ≤ 4200 := by have h8 := (HLL.out k).2.1; have h9 := HN.out; have h7 := hP.hn; omega
        clear HP
        by_cases hlt : k < n2
        · obtain ⟨b, off, x, y, z, rfl, hb, hrow, p0, p1, p2⟩ := ri3 (HR.out.keep hP.kp.all).r2 (k := k) (by rw [HE.out.2.1]; exact hlt)
          have hbW : b < W.heap.size := by obtain ⟨b', off', h8⟩ := ri3 HR.out.r2 (k := k) (by rw [HE.out.2.1]; exact hlt); obtain ⟨_, _, _, h8, h9, _⟩ := h8; injection h8 with h8; injection h8 with h8; omega
          have hki0 : (0 : Int) ≤ (k : Int) := by omega
          have hki1 : (k : Int) < (n2 : Int) := by omega
          have HW := Lib.hid hrow
          have HP := Lib.hid (hP.same (Keeps.refl [] wr).drew)
          clear hP hrow
          go_wp2
          refine wp_region_held_drew (S := (fun V => V.cell? ⟨bx, 2, none⟩ = some (.slice (some ⟨b, off, none⟩) n2 c2) ∧ V.cell? ⟨b, off + k * 3, none⟩ = some (.int .i64 x) ∧ V.cell? ⟨b, off + k * 3 + 1, none⟩ = some (.int .i64 y) ∧ V.cell? ⟨b, off + k * 3 + 2, none⟩ = some (.int .i64 z))) (by kernel_rfl) ⟨q1, p0, p1, p2⟩ (fun hHeld => ?_)
          refine' wpAnyH_take (i := 0) (oi := _) (v := _) ?hN20 (by kernel_rfl) (by kernel_rfl) (by kernel_rfl) ?hQN20 (Or.inl ⟨?hwN20, ?hyN20⟩) hHeld ?restN20
          case hN20 => (simp only [List.getElem?_toArray, List.getElem?_cons_zero]; rfl)
          case hQN20 => exact fun _ _ _ h => h
          case hwN20 => rfl
          case hyN20 => (intro w hSw; (try dsimp only at hSw); go_simp; try with_reducible rfl)
          try simp only [Act.put, List.setIfInBounds_toArray, List.set_cons_zero, List.set_cons_succ]
          refine' wpAnyH_take (i := 1) (oi := _) (v := _) ?hN21 (by kernel_rfl) (by kernel_rfl) (by kernel_rfl) ?hQN21 (Or.inl ⟨?hwN21, ?hyN21⟩) hHeld ?restN21
          case hN21 => (simp only [List.getElem?_toArray, List.getElem?_cons_succ, List.getElem?_cons_zero]; rfl)
          case hQN21 => exact fun _ _ _ h => h
          case hwN21 => rfl
          case hyN21 => (intro w hSw; (try dsimp only at hSw); go_simp; try with_reducible rfl)
          try simp only [Act.put, List.setIfInBounds_toArray, List.set_cons_zero, List.set_cons_succ]
          refine' wpAnyH_take (i := 2) (oi := _) (v := _) ?hN22 (by kernel_rfl) (by kernel_rfl) (by kernel_rfl) ?hQN22 (Or.inl ⟨?hwN22, ?hyN22⟩) hHeld ?restN22
          case hN22 => (simp only [List.getElem?_toArray, List.getElem?_cons_succ, List.getElem?_cons_zero]; rfl)
          case hQN22 => exact fun _ _ _ h => h
          case hwN22 => rfl
          case hyN22 => (intro w hSw; (try dsimp only at hSw); go_simp; try with_reducible rfl)
          try simp only [Act.put, List.setIfInBounds_toArray, List.set_cons_zero, List.set_cons_succ]
          refine' wpAnyH_take (i := 3) (oi := _) (v := _) ?hN23 (by kernel_rfl) (by kernel_rfl) (by kernel_rfl) ?hQN23 (Or.inl ⟨?hwN23, ?hyN23⟩) hHeld ?restN23
          case hN23 => (simp only [List.getElem?_toArray, List.getElem?_cons_succ, List.getElem?_cons_zero]; rfl)
          case hQN23 => exact fun _ _ _ h => h
          case hwN23 => rfl
          case hyN23 => (intro w hSw; (try dsimp only at hSw); go_simp; try with_reducible rfl)
          try simp only [Act.put, List.setIfInBounds_toArray, List.set_cons_zero, List.set_cons_succ]
          refine' wpAnyH_take (i := 4) (oi := _) (v := _) ?hN24 (by kernel_rfl) (by kernel_rfl) (by kernel_rfl) ?hQN24 (Or.inl ⟨?hwN24, ?hyN24⟩) hHeld ?restN24
          case hN24 => (simp only [List.getElem?_toArray, List.getElem?_cons_succ, List.getElem?_cons_zero]; rfl)
          case hQN24 => exact fun _ _ _ h => h
          case hwN24 => rfl
          case hyN24 => (intro w hSw; (try dsimp only at hSw); go_simp; try with_reducible rfl)
          try simp only [Act.put, List.setIfInBounds_toArray, List.set_cons_zero, List.set_cons_succ]
          refine' wpAnyH_take (i := 5) (oi := _) (v := _) ?hN25 (by kernel_rfl) (by kernel_rfl) (by kernel_rfl) ?hQN25 (Or.inl ⟨?hwN25, ?hyN25⟩) hHeld ?restN25
          case hN25 => (simp only [List.getElem?_toArray, List.getElem?_cons_succ, List.getElem?_cons_zero]; rfl)
          case hQN25 => exact fun _ _ _ h => h
          case hwN25 => rfl
          case hyN25 => (intro w hSw; (try dsimp only at hSw); go_simp; try with_reducible rfl)
          try simp only [Act.put, List.setIfInBounds_toArray, List.set_cons_zero, List.set_cons_succ]
          refine' wpAnyH_take (i := 6) (oi := _) (v := _) ?hN26 (by kernel_rfl) (by kernel_rfl) (by kernel_rfl) ?hQN26 (Or.inl ⟨?hwN26, ?hyN26⟩) hHeld ?restN26
          case hN26 => (simp only [List.getElem?_toArray, List.getElem?_cons_succ, List.getElem?_cons_zero]; rfl)
          case hQN26 => exact fun _ _ _ h => h
          case hwN26 => rfl
          case hyN26 => (intro w hSw; (try dsimp only at hSw); go_simp; try with_reducible rfl)
          try simp only [Act.put, List.setIfInBounds_toArray, List.set_cons_zero, List.set_cons_succ]
          refine' wpAnyH_take (i := 7) (oi := _) (v := _) ?hN27 (by kernel_rfl) (by kernel_rfl) (by kernel_rfl) ?hQN27 (Or.inl ⟨?hwN27, ?hyN27⟩) hHeld ?restN27
          case hN27 => (simp only [List.getElem?_toArray, List.getElem?_cons_succ, List.getElem?_cons_zero]; rfl)
          case hQN27 => exact fun _ _ _ h => h
          case hwN27 => rfl
          case hyN27 => (intro w hSw; (try dsimp only at hSw); go_simp; try with_reducible rfl)
          try simp only [Act.put, List.setIfInBounds_toArray, List.set_cons_zero, List.set_cons_succ]
          refine' wpAnyH_take (i := 8) (oi := _) (v := _) ?hN28 (by kernel_rfl) (by kernel_rfl) (by kernel_rfl) ?hQN28 (Or.inl ⟨?hwN28, ?hyN28⟩) hHeld ?restN28
          case hN28 => (simp only [List.getElem?_toArray, List.getElem?_cons_succ, List.getElem?_cons_zero]; rfl)
          case hQN28 => exact fun _ _ _ h => h
          case hwN28 => rfl
          case hyN28 => (intro w hSw; (try dsimp only at hSw); go_simp; try with_reducible rfl)
          try simp only [Act.put, List.setIfInBounds_toArray, List.set_cons_zero, List.set_cons_succ]
          refine' wpAnyH_take (i := 9) (oi := _) (v := _) ?hN29 (by kernel_rfl) (by kernel_rfl) (by kernel_rfl) ?hQN29 (Or.inl ⟨?hwN29, ?hyN29⟩) hHeld ?restN29
          case hN29 => (simp only [List.getElem?_toArray, List.getElem?_cons_succ, List.getElem?_cons_zero]; rfl)
          case hQN29 => exact fun _ _ _ h => h
          case hwN29 => rfl
          case hyN29 => (intro w hSw; (try dsimp only at hSw); go_simp; try with_reducible rfl)
          try simp only [Act.put, List.setIfInBounds_toArray, List.set_cons_zero, List.set_cons_succ]
          refine' wpAnyH_take (i := 10) (oi := _) (v := _) ?hN210 (by kernel_rfl) (by kernel_rfl) (by kernel_rfl) ?hQN210 (Or.inl ⟨?hwN210, ?hyN210⟩) hHeld ?restN210
          case hN210 => (simp only [List.getElem?_toArray, List.getElem?_cons_succ, List.getElem?_cons_zero]; rfl)
          case hQN210 => exact fun _ _ _ h => h
          case hwN210 => rfl
          case hyN210 => (intro w hSw; (try dsimp only at hSw); go_simp; try with_reducible rfl)
          try simp only [Act.put, List.setIfInBounds_toArray, List.set_cons_zero, List.set_cons_succ]
          refine' wpAnyH_take (i := 11) (oi := _) (v := _) ?hN211 (by kernel_rfl) (by kernel_rfl) (by kernel_rfl) ?hQN211 (Or.inl ⟨?hwN211, ?hyN211⟩) hHeld ?restN211
          case hN211 => (simp only [List.getElem?_toArray, List.getElem?_cons_succ, List.getElem?_cons_zero]; rfl)
          case hQN211 => exact fun _ _ _ h => h
          case hwN211 => rfl
          case hyN211 => (intro w hSw; (try dsimp only at hSw); go_simp; try with_reducible rfl)
          try simp only [Act.put, List.setIfInBounds_toArray, List.set_cons_zero, List.set_cons_succ]
          refine' wpAnyH_take (i := 12) (oi := _) (v := _) ?hN212 (by kernel_rfl) (by kernel_rfl) (by kernel_rfl) ?hQN212 (Or.inl ⟨?hwN212, ?hyN212⟩) hHeld ?restN212
          case hN212 => (simp only [List.getElem?_toArray, List.getElem?_cons_succ, List.getElem?_cons_zero]; rfl)
          case hQN212 => exact fun _ _ _ h => h
          case hwN212 => rfl
          case hyN212 => (intro w hSw; (try dsimp only at hSw); go_simp; try with_reducible rfl)
          try simp only [Act.put, List.setIfInBounds_toArray, List.set_cons_zero, List.set_cons_succ]
          refine' wpAnyH_take (i := 13) (oi := _) (v := _) ?hN213 (by kernel_rfl) (by kernel_rfl) (by kernel_rfl) ?hQN213 (Or.inl ⟨?hwN213, ?hyN213⟩) hHeld ?restN213
          case hN213 => (simp only [List.getElem?_toArray, List.getElem?_cons_succ, List.getElem?_cons_zero]; rfl)
          case hQN213 => exact fun _ _ _ h => h
          case hwN213 => rfl
          case hyN213 => (intro w hSw; (try dsimp only at hSw); go_simp; try with_reducible rfl)
          try simp only [Act.put, List.setIfInBounds_toArray, List.set_cons_zero, List.set_cons_succ]
          refine' wpAnyH_take (i := 14) (oi := _) (v := _) ?hN214 (by kernel_rfl) (by kernel_rfl) (by kernel_rfl) ?hQN214 (Or.inl ⟨?hwN214, ?hyN214⟩) hHeld ?restN214
          case hN214 => (simp only [List.getElem?_toArray, List.getElem?_cons_succ, List.getElem?_cons_zero]; rfl)
          case hQN214 => exact fun _ _ _ h => h
          case hwN214 => rfl
          case hyN214 => (intro w hSw; (try dsimp only at hSw); go_simp; try with_reducible rfl)
          try simp only [Act.put, List.setIfInBounds_toArray, List.set_cons_zero, List.set_cons_succ]
          refine' wpAnyH_take (i := 15) (oi := _) (v := _) ?hN215 (by kernel_rfl) (by kernel_rfl) (by kernel_rfl) ?hQN215 (Or.inl ⟨?hwN215, ?hyN215⟩) hHeld ?restN215
          case hN215 => (simp only [List.getElem?_toArray, List.getElem?_cons_succ, List.getElem?_cons_zero]; rfl)
          case hQN215 => exact fun _ _ _ h => h
          case hwN215 => rfl
          case hyN215 => (intro w hSw; (try dsimp only at hSw); go_simp; try with_reducible rfl)
          try simp only [Act.put, List.setIfInBounds_toArray, List.set_cons_zero, List.set_cons_succ]
          refine' wpAnyH_take (i := 16) (oi := _) (v := _) ?hN216 (by kernel_rfl) (by kernel_rfl) (by kernel_rfl) ?hQN216 (Or.inl ⟨?hwN216, ?hyN216⟩) hHeld ?restN216
          case hN216 => (simp only [List.getElem?_toArray, List.getElem?_cons_succ, List.getElem?_cons_zero]; rfl)
          case hQN216 => exact fun _ _ _ h => h
          case hwN216 => rfl
          case hyN216 => (intro w hSw; (try dsimp only at hSw); go_simp; try with_reducible rfl)
          try simp only [Act.put, List.setIfInBounds_toArray, List.set_cons_zero, List.set_cons_succ]
          refine' wpAnyH_take (i := 17) (oi := _) (v := _) ?hN217 (by kernel_rfl) (by kernel_rfl) (by kernel_rfl) ?hQN217 (Or.inl ⟨?hwN217, ?hyN217⟩) hHeld ?restN217
          case hN217 => (simp only [List.getElem?_toArray, List.getElem?_cons_succ, List.getElem?_cons_zero]; rfl)
          case hQN217 => exact fun _ _ _ h => h
          case hwN217 => rfl
          case hyN217 => (intro w hSw; (try dsimp only at hSw); go_simp; try with_reducible rfl)
          try simp only [Act.put, List.setIfInBounds_toArray, List.set_cons_zero, List.set_cons_succ]
          refine' wpAnyH_take (i := 18) (oi := _) (v := _) ?hN218 (by kernel_rfl) (by kernel_rfl) (by kernel_rfl) ?hQN218 (Or.inl ⟨?hwN218, ?hyN218⟩) hHeld ?restN218
          case hN218 => (simp only [List.getElem?_toArray, List.getElem?_cons_succ, List.getElem?_cons_zero]; rfl)
          case hQN218 => exact fun _ _ _ h => h
          case hwN218 => rfl
          case hyN218 => (intro w hSw; (try dsimp only at hSw); go_simp; try with_reducible rfl)
          try simp only [Act.put, List.setIfInBounds_toArray, List.set_cons_zero, List.set_cons_succ]
          refine wpAnyH_ready (rs := [19]) (by kernel_rfl) (by simp) ?_
          refine AllReadyH.cons rfl (fun K hK => ?_) AllReadyH.nil
          go_simp
          refine (rrow_any x y z _).mono ?_
          rintro e V2 ⟨rfl, rfl⟩
          try go_wp2_with fail
          refine hK.out _ _ (⟨(World.cell?_alloc_lt _ _ _ (by have := HP.out.low.2; exact this)).trans hHeld.1, (World.cell?_alloc_lt _ _ _ (by have := HP.out.low.1; show b < _; omega)).trans hHeld.2.1, (World.cell?_alloc_lt _ _ _ (by have := HP.out.low.1; show b < _; omega)).trans hHeld.2.2.1, (World.cell?_alloc_lt _ _ _ (by have := HP.out.low.1; show b < _; omega)).trans hHeld.2.2.2⟩) (fun hHeld' => ?_)
          clear hK K hHeld
          have hHeld := hHeld'
          clear hHeld'
          try simp only [Act.put, List.setIfInBounds_toArray, List.set_cons_zero, List.set_cons_succ]
          refine wpAnyH_ready (rs := [20]) (by kernel_rfl) (by simp) ?_
          refine' AllReadyH.cons (o := _) ?hoN220 (fun K hK => ?stN220) AllReadyH.nil
          case hoN220 => (simp only [List.getElem?_toArray, List.getElem?_cons_succ, List.getElem?_cons_zero]; rfl)
          rw [if_pos (by rfl)]
          have hPa := HP.out.same ((Keeps.refl [] _).alloc (.cells (nmf (rowN wsh [x, y, z])).toArray 58))
          have hlo := hPa.low
          refine wp_append_any _ (.tmp 60) (.tmp 79) 55 rfl W.heap.size 58 i0 _ 2 16 Try.underlying55 HI.out.1 HI.out.2.1 HI.out.2.2.1 HI.out.2.2.2 rfl (by decide) (.slice a n cc) n (nmf (L2 c k)) rfl hPa.ow _ (some ⟨wr.heap.size, 0, none⟩) 3 3 (nmf (rowN wsh [x, y, z])) rfl (nm_own _ rfl) (nmf_cell _) (by simp only [maxLen]; omega) (by omega) hlo.1 ?_
          intro v1 V1 own1 g1 at1
          obtain ⟨p1, cc1, rfl⟩ := own_form own1
          have hc9 := fun (p : Addr) hp => hPa.cell_g (x := []) (m := 0) g1 (p := p) hp
          have HQ := Lib.hid (hPa.grow (x := rowN wsh [x, y, z]) rfl own1 g1)
          clear own1 g1 at1 hPa hlo
          refine hK.out _ _ (⟨(hc9 _ (.inr rfl)).trans hHeld.1, (hc9 _ (.inl hbW)).trans hHeld.2.1, (hc9 _ (.inl hbW)).trans hHeld.2.2.1, (hc9 _ (.inl hbW)).trans hHeld.2.2.2⟩) (fun hHeld' => ?_)
          clear hK K hHeld
          have hHeld := hHeld'
          clear hHeld'
          try simp only [Act.put, List.setIfInBounds_toArray, List.set_cons_zero, List.set_cons_succ]
          refine' wpAnyH_take (i := 21) (oi := _) (v := _) ?hN221 (by kernel_rfl) (by kernel_rfl) (by kernel_rfl) ?hQN221 (Or.inl ⟨?hwN221, ?hyN221⟩) hHeld ?restN221
          case hN221 => (simp only [List.getElem?_toArray, List.getElem?_cons_succ, List.getElem?_cons_zero]; rfl)
          case hQN221 => exact fun _ _ _ h => h
          case hwN221 => rfl
          case hyN221 => (intro w hSw; (try dsimp only at hSw); go_simp; try with_reducible rfl)
          try simp only [Act.put, List.setIfInBounds_toArray, List.set_cons_zero, List.set_cons_succ]
          refine wpAnyH_done (by kernel_rfl) ?_ _
          go_wp2
          go_roundw
          case rel => exact ⟨k + 1, _, _, _, by omega, by go_num, rfl, by rw [L2_s c HW.out]; exact HQ.out⟩
          case measure => simp [intOf]; omega
        · obtain rfl : n2 = k := by omega
          have q2 : wr.cell? ⟨bx, 3, none⟩ = some (.slice a3 n3 c3) := hP.bk.cell 3
          have hPa := hP.same ((Keeps.refl [] wr).alloc (.cells #[.int .i64 (n3 : Int), .int .i64 1] 58))
          have hlo := hPa.low
          have hrd := nm_own (m := 1) (l := [((n3 : Int), 1)]) wr rfl
          rw [show (nmf [((n3 : Int), 1)]).toArray = #[.int .i64 (n3 : Int), .int .i64 1] from by unfold nmf; rfl] at hrd
          have HP := Lib.hid hPa
          have HRD := Lib.hid hrd
          clear hP hPa hrd
          have hl2 : L2 c n2 ++ [((n3 : Int), 1)] = L3 c 0 := by rw [← HE.out.2.1, ← HE.out.2.2.1]; exact L2_n c
          have HL2 := Lib.hid hl2
          clear hl2
          go_wp2_with (at_builtin; refine wpList_append_any _ rfl (.tmp 81) (.tmp 86) _ rfl W.heap.size 58 i0 _ 2 16 Try.underlying55 HI.out.1 HI.out.2.1 HI.out.2.2.1 HI.out.2.2.2 rfl (by decide) (.slice a n cc) n (nmf (L2 c n2)) rfl HP.out.ow _ _ 1 1 (nmf [((n3 : Int), 1)]) rfl HRD.out (nmf_cell _) (by simp only [maxLen]; omega) (by omega) hlo.1 ?_; intro v1 V1 own1 g1 at1; obtain ⟨p1, cc1, rfl⟩ := own_form own1; have hQ := HP.out.grow (x := [((n3 : Int), 1)]) rfl own1 g1; rw [HL2.out] at hQ; have q2 : V1.cell? ⟨bx, 3, none⟩ = some (.slice a3 n3 c3) := hQ.bk.cell 3; have HQ := Lib.hid hQ; clear own1 g1 at1 hQ)
          clear HP
          have HP := HQ
          clear HQ
          go_loopw [3, 6] (fun o i wr => ∃ (k n : Nat) (a : Option Addr) (cc : Nat), k ≤ n3 ∧ i = .int .i64 k ∧ o = .slice a n cc ∧ Nu W wr bx #[.int .i64 fr, .slice a1 n1 c1, .slice a2 n2 c2, .slice a3 n3 c3] (L3 c k) n a cc) (fun _ i _ => n3 - (intOf i).toNat)
          case atStart => exact ⟨0, _, _, _, by omega, rfl, rfl, HP.out⟩
          case round =>
            obtain ⟨k, n, a, cc, hk, rfl, rfl, hP⟩ := hrel
            have q1 : wr.cell? ⟨bx, 3, none⟩ = some (.slice a3 n3 c3) := hP.bk.cell 3
            have hlow := hP.low
            have hnb : n + 12 ≤ 4200 := by have h8 := (HLL.out k).2.2; have h9 := HN.out; have h7 := hP.hn; omega
            clear HP
            by_cases hlt : k < n3
            · obtain ⟨b, off, x0, x1, x2, x3, x4, x5, x6, x7, x8, x9, rfl, hb, hrow, p0, p1, p2, p3, p4, p5, p6, p7, p8, p9⟩ := ri10 (HR.out.keep hP.kp.all).r3 (k := k) (by rw [HE.out.2.2.1]; exact hlt)
              have hbW : b < W.heap.size := by obtain ⟨b', off', h8⟩ := ri10 HR.out.r3 (k := k) (by rw [HE.out.2.2.1]; exact hlt); obtain ⟨_, _, _, _, _, _, _, _, _, _, h8, h9, _⟩ := h8; injection h8 with h8; injection h8 with h8; omega
              have hki0 : (0 : Int) ≤ (k : Int) := by omega
              have hki1 : (k : Int) < (n3 : Int) := by omega
              have HW := Lib.hid hrow
              have hPa := (hP.same ((Keeps.refl [] wr).alloc (.cells #[.int .i64 x0, .int .i64 x1, .int .i64 x2, .int .i64 x3, .int .i64 x4, .int .i64 x5, .int .i64 x6, .int .i64 x7, .int .i64 x8, .int .i64 x9] 54))).same ((Keeps.refl [] _).alloc (.cells (nmf (rowN csh [x0, x1, x2, x3, x4, x5, x6, x7, x8, x9])).toArray 58))
              have hrd := nm_own (m := 10) (l := rowN csh [x0, x1, x2, x3, x4, x5, x6, x7, x8, x9]) (wr.alloc (.cells #[.int .i64 x0, .int .i64 x1, .int .i64 x2, .int .i64 x3, .int .i64 x4, .int .i64 x5, .int .i64 x6, .int .i64 x7, .int .i64 x8, .int .i64 x9] 54)) rfl
              have hnb2 : (nmf (rowN csh [x0, x1, x2, x3, x4, x5, x6, x7, x8, x9])).toArray = #[.int .i64 x0, .int .i64 2, .int .i64 x1, .int .i64 2, .int .i64 x2, .int .i64 1, .int .i64 x3, .int .i64 2, .int .i64 x4, .int .i64 1, .int .i64 x5, .int .i64 1, .int .i64 x6, .int .i64 1, .int .i64 x7, .int .i64 1, .int .i64 x8, .int .i64 2, .int .i64 x9, .int .i64 1] := by unfold nmf; rfl
              rw [hnb2] at hPa hrd
              rw [World.size_alloc] at hrd
              have hlo := hPa.low
              have hown := hPa.ow
              have HP := Lib.hid hPa
              have HOW := Lib.hid hown
              have HRD2 := Lib.hid hrd
              clear hP hrow hPa hown hrd hnb2
              go_wp2_with (at_builtin; refine wpList_append_any _ rfl (.tmp 100) (.tmp 131) _ rfl W.heap.size 58 i0 _ 2 16 Try.underlying55 HI.out.1 HI.out.2.1 HI.out.2.2.1 HI.out.2.2.2 rfl (by decide) (.slice a n cc) n (nmf (L3 c k)) rfl HOW.out _ _ 10 10 (nmf (rowN csh [x0, x1, x2, x3, x4, x5, x6, x7, x8, x9])) rfl HRD2.out (nmf_cell _) (by simp only [maxLen]; omega) (by omega) hlo.1 ?_; intro v1 V1 own1 g1 at1; obtain ⟨p1, cc1, rfl⟩ := own_form own1; have HQ := Lib.hid (HP.out.grow (x := rowN csh [x0, x1, x2, x3, x4, x5, x6, x7, x8, x9]) rfl own1 g1); clear own1 g1 at1)
              go_roundw
              case rel => exact ⟨k + 1, _, _, _, by omega, by go_num, rfl, by rw [L3_s c HW.out]; exact HQ.out⟩
              case measure => simp [intOf]; omega
            · obtain rfl : n3 = k := by omega
              have hln : L3 c n3 = nums c := by rw [← HE.out.2.2.1]; exact L3_n c
              rw [hln] at hP
              have HD := Lib.hid hP.done
              clear hP hln
              go_wp2
              go_ret
              exact HD.out
end Im
end Go.Proofs.Ytjdhkpafbejodaa
