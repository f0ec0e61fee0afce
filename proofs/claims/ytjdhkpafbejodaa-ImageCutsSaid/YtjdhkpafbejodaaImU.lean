/- The document's Parse: what lies in memory, and what is wrong with bytes. -/
import Derived.Test.YtjdhkpafbejodaaImS
namespace Go.Proofs.Ytjdhkpafbejodaa
open Go.RowKit
namespace Im
open Sm Bi
/-- The document's tables under way: the result in rc, the tables in bc. -/
structure Rc (w0 w : World) (rc bc : Nat) (fr : Int) (X1 X2 X3 : List (List Int)) (a1 : Option Addr) (c1 : Nat) (a2 : Option Addr) (c2 : Nat) (a3 : Option Addr) (c3 : Nat) : Prop where
  rb : Blk w rc 28 #[.int .i64 0, .slice none 0 0, .slice none 0 0, .slice none 0 0]
  bk : Blk w bc 28 #[.int .i64 fr, .slice a1 X1.length c1, .slice a2 X2.length c2, .slice a3 X3.length c3]
  o1 : w.ownsRow w0.heap.size 51 3 (.slice a1 X1.length c1) X1.length (rwf X1)
  o2 : w.ownsRow w0.heap.size 52 3 (.slice a2 X2.length c2) X2.length (rwf X2)
  o3 : w.ownsRow w0.heap.size 54 10 (.slice a3 X3.length c3) X3.length (rwf X3)
  kp : Keeps [] w0 w
  h1 : w0.heap.size ≤ rc
  h2 : w0.heap.size ≤ bc
  h3 : rc ≠ bc
  l1 : ∀ r ∈ X1, r.length = 3
  l2 : ∀ r ∈ X2, r.length = 3
  l3 : ∀ r ∈ X3, r.length = 10
section
variable {w0 w w' V V' : World} {rc bc : Nat} {fr : Int} {X1 X2 X3 : List (List Int)} {a1 a2 a3 : Option Addr} {c1 c2 c3 : Nat}
theorem Rc.same (h : Rc w0 w rc bc fr X1 X2 X3 a1 c1 a2 c2 a3 c3) (hk : Keeps [] w w') : Rc w0 w' rc bc fr X1 X2 X3 a1 c1 a2 c2 a3 c3 :=
  ⟨h.rb.keeps hk (by simp), h.bk.keeps hk (by simp), ownsRow_keeps h.o1 hk (by simp), ownsRow_keeps h.o2 hk (by simp), ownsRow_keeps h.o3 hk (by simp), h.kp.next hk (by simp), h.h1, h.h2, h.h3, h.l1, h.l2, h.l3⟩
theorem Rc.low (h : Rc w0 w rc bc fr X1 X2 X3 a1 c1 a2 c2 a3 c3) : w0.heap.size ≤ w.heap.size ∧ rc < w.heap.size ∧ bc < w.heap.size := ⟨h.kp.size, h.rb.lt, h.bk.lt⟩
theorem Rc.cells (h : Rc w0 w rc bc fr X1 X2 X3 a1 c1 a2 c2 a3 c3) : w.cell? ⟨rc, 0, none⟩ = some (.int .i64 0) ∧ w.cell? ⟨rc, 1, none⟩ = some (.slice none 0 0) ∧ w.cell? ⟨rc, 2, none⟩ = some (.slice none 0 0) ∧ w.cell? ⟨rc, 3, none⟩ = some (.slice none 0 0) ∧ ∀ j, w.frozen? ⟨rc, j, none⟩ = false := ⟨h.rb.cell 0, h.rb.cell 1, h.rb.cell 2, h.rb.cell 3, h.rb.frozen⟩
theorem Rc.boxes (h : Rc w0 w rc bc fr X1 X2 X3 a1 c1 a2 c2 a3 c3) : w.cell? ⟨bc, 0, none⟩ = some (.int .i64 fr) ∧ w.cell? ⟨bc, 1, none⟩ = some (.slice a1 X1.length c1) ∧ w.cell? ⟨bc, 2, none⟩ = some (.slice a2 X2.length c2) ∧ w.cell? ⟨bc, 3, none⟩ = some (.slice a3 X3.length c3) ∧ ∀ j, w.frozen? ⟨bc, j, none⟩ = false := ⟨h.bk.cell 0, h.bk.cell 1, h.bk.cell 2, h.bk.cell 3, h.bk.frozen⟩
theorem Rc.set4 (h : Rc w0 w rc bc fr X1 X2 X3 a1 c1 a2 c2 a3 c3) (v0 v1 v2 v3 : Value) : Below w0.heap.size w0 ((((w.setCell ⟨rc, 0, none⟩ v0).setCell ⟨rc, 1, none⟩ v1).setCell ⟨rc, 2, none⟩ v2).setCell ⟨rc, 3, none⟩ v3) := by
  have h1 := h.h1
  have hB : Below w0.heap.size w0 w := h.kp.all
  exact (((hB.setCell h1 _).setCell h1 _).setCell h1 _).setCell h1 _
theorem Rc.done (h : Rc w0 w rc bc fr X1 X2 X3 a1 c1 a2 c2 a3 c3) (hk : Keeps [rc] w w') : CfR w' ⟨fr, X1, X2, X3⟩ a1 a2 a3 := by
  refine ⟨?_, ?_, ?_⟩
  · exact ri_own (ownsRow_keeps h.o1 hk (fun k e => by have := own_blk_ne h.o1 h.rb (by decide); rw [e] at this; simp; intro h9; exact this (by rw [h9]))) rfl h.l1
  · exact ri_own (ownsRow_keeps h.o2 hk (fun k e => by have := own_blk_ne h.o2 h.rb (by decide); rw [e] at this; simp; intro h9; exact this (by rw [h9]))) rfl h.l2
  · exact ri_own (ownsRow_keeps h.o3 hk (fun k e => by have := own_blk_ne h.o3 h.rb (by decide); rw [e] at this; simp; intro h9; exact this (by rw [h9]))) rfl h.l3
theorem rc_0 (W V : World) (fr : Int) (hb : Below W.heap.size W V) (hz : Blk V W.heap.size 28 #[.int .i64 0, .slice none 0 0, .slice none 0 0, .slice none 0 0]) :
    Rc W (V.alloc (.cells #[.int .i64 fr, .slice none 0 0, .slice none 0 0, .slice none 0 0] 28)) W.heap.size V.heap.size fr [] [] [] none 0 none 0 none 0 := by
  have hl := hz.lt
  exact ⟨hz.alloc _, Blk.new _ _ _, ⟨rfl, .inl ⟨rfl, rfl⟩⟩, ⟨rfl, .inl ⟨rfl, rfl⟩⟩, ⟨rfl, .inl ⟨rfl, rfl⟩⟩, (Keeps.of_below hb []).alloc _, Nat.le_refl _, by omega, by omega, by simp, by simp, by simp⟩
theorem Rc.grow1 {r : List Int} {p : Option Addr} {cc : Nat} (h : Rc w0 V rc bc fr X1 X2 X3 a1 c1 a2 c2 a3 c3) (hr : r.length = 3) (hown : V'.ownsRow w0.heap.size 51 3 (.slice p (X1.length + 1) cc) (X1.length + 1) (rwf X1 ++ rwc r)) (hg : V.grownBy V' (Value.slice a1 X1.length c1).ownBlock) :
    Rc w0 (V'.setCell ⟨bc, 1, none⟩ (.slice p (X1.length + 1) cc)) rc bc fr (X1 ++ [r]) X2 X3 p cc a2 c2 a3 c3 := by
  have hlow := h.low
  have hown9 : V'.ownsRow w0.heap.size 51 3 (.slice p (X1 ++ [r]).length cc) (X1 ++ [r]).length (rwf (X1 ++ [r])) := by
    rw [List.length_append, rwf_app, rwf_one]
    exact hown
  have hbl : ∀ g, (Value.slice a1 X1.length c1).ownBlock = some g → w0.heap.size ≤ g := fun g e => (h.o1.lt g e).1
  have hrb := h.rb.grown hg (fun e => own_blk_ne h.o1 h.rb (by decide) e.symm)
  have hbk := h.bk.grown hg (fun e => own_blk_ne h.o1 h.bk (by decide) e.symm)
  have q2 := row_grown h.o2 hg (fun g e => row_ne h.o1 h.o2 (by decide) g e)
  have q3 := row_grown h.o3 hg (fun g e => row_ne h.o1 h.o3 (by decide) g e)
  have hk : Keeps [] w0 V' := h.kp.grown hg (fun k e => .inr (hbl k e))
  have hb2 := h.h2
  have hbset := hbk.set_ 1 (.slice p (X1.length + 1) cc)
  refine ⟨hrb.far (p := ⟨bc, 1, none⟩) h.h3 _, ?_, ?_, ?_, ?_, hk.setCell (p := ⟨bc, 1, none⟩) (.inr h.h2) _, h.h1, h.h2, h.h3, ?_, ?_, ?_⟩
  · rw [List.length_append]
    exact hbset
  · exact ownsRow_setCell hown9 _ _ (own_blk_ne hown9 hbk (by decide))
  · exact ownsRow_setCell q2 _ _ (own_blk_ne q2 hbk (by decide))
  · exact ownsRow_setCell q3 _ _ (own_blk_ne q3 hbk (by decide))
  · intro x hx; rcases List.mem_append.1 hx with hx | hx; exact h.l1 x hx; (simp at hx; rw [hx]; exact hr)
  · exact h.l2
  · exact h.l3
theorem Rc.grow2 {r : List Int} {p : Option Addr} {cc : Nat} (h : Rc w0 V rc bc fr X1 X2 X3 a1 c1 a2 c2 a3 c3) (hr : r.length = 3) (hown : V'.ownsRow w0.heap.size 52 3 (.slice p (X2.length + 1) cc) (X2.length + 1) (rwf X2 ++ rwc r)) (hg : V.grownBy V' (Value.slice a2 X2.length c2).ownBlock) :
    Rc w0 (V'.setCell ⟨bc, 2, none⟩ (.slice p (X2.length + 1) cc)) rc bc fr X1 (X2 ++ [r]) X3 a1 c1 p cc a3 c3 := by
  have hlow := h.low
  have hown9 : V'.ownsRow w0.heap.size 52 3 (.slice p (X2 ++ [r]).length cc) (X2 ++ [r]).length (rwf (X2 ++ [r])) := by
    rw [List.length_append, rwf_app, rwf_one]
    exact hown
  have hbl : ∀ g, (Value.slice a2 X2.length c2).ownBlock = some g → w0.heap.size ≤ g := fun g e => (h.o2.lt g e).1
  have hrb := h.rb.grown hg (fun e => own_blk_ne h.o2 h.rb (by decide) e.symm)
  have hbk := h.bk.grown hg (fun e => own_blk_ne h.o2 h.bk (by decide) e.symm)
  have q1 := row_grown h.o1 hg (fun g e => row_ne h.o2 h.o1 (by decide) g e)
  have q3 := row_grown h.o3 hg (fun g e => row_ne h.o2 h.o3 (by decide) g e)
  have hk : Keeps [] w0 V' := h.kp.grown hg (fun k e => .inr (hbl k e))
  have hb2 := h.h2
  have hbset := hbk.set_ 2 (.slice p (X2.length + 1) cc)
  refine ⟨hrb.far (p := ⟨bc, 2, none⟩) h.h3 _, ?_, ?_, ?_, ?_, hk.setCell (p := ⟨bc, 2, none⟩) (.inr h.h2) _, h.h1, h.h2, h.h3, ?_, ?_, ?_⟩
  · rw [List.length_append]
    exact hbset
  · exact ownsRow_setCell q1 _ _ (own_blk_ne q1 hbk (by decide))
  · exact ownsRow_setCell hown9 _ _ (own_blk_ne hown9 hbk (by decide))
  · exact ownsRow_setCell q3 _ _ (own_blk_ne q3 hbk (by decide))
  · exact h.l1
  · intro x hx; rcases List.mem_append.1 hx with hx | hx; exact h.l2 x hx; (simp at hx; rw [hx]; exact hr)
  · exact h.l3
theorem Rc.grow3 {r : List Int} {p : Option Addr} {cc : Nat} (h : Rc w0 V rc bc fr X1 X2 X3 a1 c1 a2 c2 a3 c3) (hr : r.length = 10) (hown : V'.ownsRow w0.heap.size 54 10 (.slice p (X3.length + 1) cc) (X3.length + 1) (rwf X3 ++ rwc r)) (hg : V.grownBy V' (Value.slice a3 X3.length c3).ownBlock) :
    Rc w0 (V'.setCell ⟨bc, 3, none⟩ (.slice p (X3.length + 1) cc)) rc bc fr X1 X2 (X3 ++ [r]) a1 c1 a2 c2 p cc := by
  have hlow := h.low
  have hown9 : V'.ownsRow w0.heap.size 54 10 (.slice p (X3 ++ [r]).length cc) (X3 ++ [r]).length (rwf (X3 ++ [r])) := by
    rw [List.length_append, rwf_app, rwf_one]
    exact hown
  have hbl : ∀ g, (Value.slice a3 X3.length c3).ownBlock = some g → w0.heap.size ≤ g := fun g e => (h.o3.lt g e).1
  have hrb := h.rb.grown hg (fun e => own_blk_ne h.o3 h.rb (by decide) e.symm)
  have hbk := h.bk.grown hg (fun e => own_blk_ne h.o3 h.bk (by decide) e.symm)
  have q1 := row_grown h.o1 hg (fun g e => row_ne h.o3 h.o1 (by decide) g e)
  have q2 := row_grown h.o2 hg (fun g e => row_ne h.o3 h.o2 (by decide) g e)
  have hk : Keeps [] w0 V' := h.kp.grown hg (fun k e => .inr (hbl k e))
  have hb2 := h.h2
  have hbset := hbk.set_ 3 (.slice p (X3.length + 1) cc)
  refine ⟨hrb.far (p := ⟨bc, 3, none⟩) h.h3 _, ?_, ?_, ?_, ?_, hk.setCell (p := ⟨bc, 3, none⟩) (.inr h.h2) _, h.h1, h.h2, h.h3, ?_, ?_, ?_⟩
  · rw [List.length_append]
    exact hbset
  · exact ownsRow_setCell q1 _ _ (own_blk_ne q1 hbk (by decide))
  · exact ownsRow_setCell q2 _ _ (own_blk_ne q2 hbk (by decide))
  · exact ownsRow_setCell hown9 _ _ (own_blk_ne hown9 hbk (by decide))
  · exact h.l1
  · exact h.l2
  · intro x hx; rcases List.mem_append.1 hx with hx | hx; exact h.l3 x hx; (simp at hx; rw [hx]; exact hr)
end
/-! What is wrong with bytes. -/
theorem pE_short {l : List UInt8} (h : l.length < 2) : pE l = 5 := by rw [pE_shut (by rw [Cw.openV_short l h]; decide), Cw.openV_short l h]
theorem pE_check {l : List UInt8} (h : 2 ≤ l.length) (hz : Cw.sealL (l.take (l.length - 2)) ≠ l) : pE l = 10 := by
  have hc : ¬ Cm.crc 65535#16 l = 0#16 := fun h9 => hz ((Cw.seal_iff l h).2 h9)
  rw [pE_shut (by rw [Cw.openV_bad l (by omega) hc]; decide), Cw.openV_bad l (by omega) hc]
theorem open_good {l : List UInt8} (h : 2 ≤ l.length) (hz : Cw.sealL (l.take (l.length - 2)) = l) : Cw.openV l = (l.take (l.length - 2), 0) := Cw.openV_good l (by omega) ((Cw.seal_iff l h).1 hz)
theorem perr_head {T : List UInt8} (h : 2 ≤ T.length) (hh : T.take 2 ≠ [67, 1]) : perr T = 3 := by unfold perr; rw [if_pos ⟨h, hh⟩]
theorem perr_end {T : List UInt8} (hh : ¬ (2 ≤ T.length ∧ T.take 2 ≠ [67, 1])) (h : T.length < i3 T) : perr T = 5 := by unfold perr; rw [if_neg hh, if_pos h]
theorem perr_long {T : List UInt8} (hh : ¬ (2 ≤ T.length ∧ T.take 2 ≠ [67, 1])) (h : i3 T < T.length) : perr T = 3 := by unfold perr; rw [if_neg hh, if_neg (by omega), if_pos h]
theorem perr_good {T : List UInt8} (hh : ¬ (2 ≤ T.length ∧ T.take 2 ≠ [67, 1])) (h : i3 T = T.length) : perr T = 0 := by unfold perr; rw [if_neg hh, if_neg (by omega), if_neg (by omega)]
/-! A number at a place that is told in another way. -/
theorem at1x (s : ByteArray) (i : Int) (a : Nat) (w : World) (hi : i = (a : Int)) (h : a + 1 ≤ s.size) (hs : s.size ≤ 4000) :
    Calls Try.prog 23 #[.string s, .int .i64 i, .int .i64 1] w fun e w' => e = .returned (.int .i64 (b1 s.data.toList a)) ∧ w = w' := by
  rw [hi]
  exact at1_any s a w h hs
theorem at2x (s : ByteArray) (i : Int) (a : Nat) (w : World) (hi : i = (a : Int)) (h : a + 2 ≤ s.size) (hs : s.size ≤ 4000) :
    Calls Try.prog 23 #[.string s, .int .i64 i, .int .i64 2] w fun e w' => e = .returned (.int .i64 (b2 s.data.toList a)) ∧ w = w' := by
  rw [hi]
  exact at2_any s a w h hs
end Im
end Go.Proofs.Ytjdhkpafbejodaa
