/- The program's Parse: its walk. -/
import Derived.Test.YtjdhkpafbejodaaImL
import Derived.Test.YtjdhkpafbejodaaImR
namespace Go.Proofs.Ytjdhkpafbejodaa
open Go.RowKit
namespace Im
open Sm Bi
def zC : Cfg := ⟨0, [], [], []⟩
/-- The error of bytes, and the tables that they are. -/
def pE (l : List UInt8) : Int := if (Cw.openV l).2 = 0 then perr (Cw.openV l).1 else (Cw.openV l).2
def pC (l : List UInt8) : Cfg := if pE l = 0 then cfgAt (Cw.openV l).1 else zC
def IsParse (l : List UInt8) (W : World) (e : Ending) (W' : World) : Prop :=
  ∃ (a1 : Option Addr) (c1 : Nat) (a2 : Option Addr) (c2 : Nat) (a3 : Option Addr) (c3 : Nat), e = .returned (.tuple #[cv (pC l) a1 c1 a2 c2 a3 c3, .int .i64 (pE l)]) ∧ CfR W' (pC l) a1 a2 a3 ∧ Below W.heap.size W W'
theorem ri_nil (w : World) (k : Nat) (a : Option Addr) : RI w k a [] := ⟨by simp, fun h => absurd rfl h⟩
theorem parse_err {l : List UInt8} {x : Int} {W W' : World} (h : pE l = x) (hx : x ≠ 0) (hb : Below W.heap.size W W') :
    IsParse l W (.returned (.tuple #[.agg #[.int .i64 0, .slice none 0 0, .slice none 0 0, .slice none 0 0], .int .i64 x])) W' := by
  have hc : pC l = zC := by unfold pC; rw [if_neg (by rw [h]; exact hx)]
  exact ⟨none, 0, none, 0, none, 0, by rw [hc, h]; rfl, by rw [hc]; exact ⟨ri_nil _ _ _, ri_nil _ _ _, ri_nil _ _ _⟩, hb⟩
theorem parse_ok {l : List UInt8} {c : Cfg} {W W' : World} {a1 a2 a3 : Option Addr} {c1 c2 c3 : Nat} (h : pE l = 0) (hc : c = cfgAt (Cw.openV l).1) (hr : CfR W' c a1 a2 a3) (hb : Below W.heap.size W W') :
    IsParse l W (.returned (.tuple #[.agg #[.int .i64 c.fr, .slice a1 c.ws.length c1, .slice a2 c.ss.length c2, .slice a3 c.cs.length c3], .int .i64 0])) W' := by
  have hp : pC l = c := by unfold pC; rw [if_pos h, hc]
  exact ⟨a1, c1, a2, c2, a3, c3, by rw [hp, h]; rfl, by rw [hp]; exact hr, hb⟩
/-- The result's block and the reader's, under way. -/
structure Pa (W w : World) (rb b : Nat) (t : ByteArray) (σ : Int × Int) : Prop where
  z : Blk w rb 28 #[.int .i64 0, .slice none 0 0, .slice none 0 0, .slice none 0 0]
  r : Rd w b t σ.1 σ.2
  k : Keeps [] W w
  h1 : W.heap.size = rb
  h2 : rb < b
section
variable {W w w' : World} {rb b : Nat} {t : ByteArray} {σ σ' : Int × Int}
theorem Pa.same (h : Pa W w rb b t σ) (hk : Keeps [] w w') : Pa W w' rb b t σ := ⟨h.z.keeps hk (by simp), h.r.keeps hk (by simp), h.k.next hk (by simp), h.h1, h.h2⟩
theorem Pa.drawn (h : Pa W w rb b t σ) (hd : Drawn w w') : Pa W w' rb b t σ := h.same ((Keeps.refl [] w).drawn hd)
theorem Pa.next (h : Pa W w rb b t σ) (hr : Rd w' b t σ'.1 σ'.2) (hk : Keeps [b] w w') : Pa W w' rb b t σ' := by
  have h1 := h.h1
  have h2 := h.h2
  exact ⟨h.z.keeps hk (by simp; omega), hr, h.k.next hk (by simp; omega), h.h1, h.h2⟩
theorem Pa.cells (h : Pa W w rb b t σ) : w.cell? ⟨rb, 0, none⟩ = some (.int .i64 0) ∧ w.cell? ⟨rb, 1, none⟩ = some (.slice none 0 0) ∧ w.cell? ⟨rb, 2, none⟩ = some (.slice none 0 0) ∧ w.cell? ⟨rb, 3, none⟩ = some (.slice none 0 0) ∧ ∀ j, w.frozen? ⟨rb, j, none⟩ = false := ⟨h.z.cell 0, h.z.cell 1, h.z.cell 2, h.z.cell 3, h.z.frozen⟩
end
theorem pa_0 {W v1 v2 : World} {t : ByteArray} (hb1 : Below (W.alloc (.cells #[.int .i64 0, .slice none 0 0, .slice none 0 0, .slice none 0 0] 28)).heap.size (W.alloc (.cells #[.int .i64 0, .slice none 0 0, .slice none 0 0, .slice none 0 0] 28)) v1) (hr : Rd v2 v1.heap.size t 0 0) (hk : Keeps [] v1 v2) :
    Pa W v2 W.heap.size v1.heap.size t (0, 0) := by
  have hk1 : Keeps [] W v1 := ((Keeps.refl [] W).alloc _).next (Keeps.of_below hb1 []) (by simp)
  have hz := hb1.size
  rw [World.size_alloc] at hz
  exact ⟨((Blk.new W _ _).below hb1 (by simp)).keeps hk (by simp), hr, hk1.next hk (by simp), rfl, by omega⟩
theorem open_le (l : List UInt8) : (Cw.openV l).1.length ≤ l.length := by
  unfold Cw.openV
  split
  · simp
  · split
    · simp
    · simp
theorem txt2 {t : ByteArray} (h : 2 ≤ t.size) : rdAt t 0 0 2 = 2 ∧ rdErr t 0 0 2 = 0 ∧ rdText t 0 0 2 = t.extract 0 2 := by
  refine ⟨?_, ?_, ?_⟩
  · unfold rdAt; rw [if_pos ⟨rfl, by omega, by omega⟩]; rfl
  · unfold rdErr; rw [if_neg (by omega), if_neg (by omega), if_neg (by omega)]
  · unfold rdText; rw [if_pos ⟨rfl, by omega, by omega⟩]; rfl
theorem txt0 {t : ByteArray} (h : t.size < 2) : rdAt t 0 0 2 = 0 ∧ rdErr t 0 0 2 = 5 ∧ rdText t 0 0 2 = ⟨#[]⟩ := by
  refine ⟨?_, ?_, ?_⟩
  · unfold rdAt; rw [if_neg (by omega)]
  · unfold rdErr; rw [if_neg (by omega), if_neg (by omega), if_pos (by omega)]
  · unfold rdText; rw [if_neg (by omega)]
theorem pE_open {l : List UInt8} (h : (Cw.openV l).2 = 0) : pE l = perr (Cw.openV l).1 := by unfold pE; rw [if_pos h]
theorem pE_shut {l : List UInt8} (h : (Cw.openV l).2 ≠ 0) : pE l = (Cw.openV l).2 := by unfold pE; rw [if_neg h]
/-- How reading ends. -/
theorem fin_err {t : ByteArray} {σ : Int × Int} {c : Cfg} (hh : ¬ (2 ≤ t.data.toList.length ∧ t.data.toList.take 2 ≠ [67, 1])) (hf : Fin t σ c.fr c.ws c.ss c.cs) :
    (σ.2 ≠ 0 ∧ σ.2 = 5 ∧ perr t.data.toList = 5) ∨ (σ.2 = 0 ∧ rdLeft t σ.1 σ.2 > 0 ∧ perr t.data.toList = 3) ∨ (σ.2 = 0 ∧ rdLeft t σ.1 σ.2 = 0 ∧ perr t.data.toList = 0 ∧ c = cfgAt t.data.toList) := by
  have hsz : t.data.toList.length = t.size := by simp
  unfold perr rdLeft
  rw [if_neg hh, hsz]
  rcases hf with ⟨rfl, hi, hc⟩ | ⟨h5, hi⟩
  · rcases Nat.lt_or_ge (i3 t.data.toList) t.size with h | h
    · refine .inr (.inl ⟨rfl, ?_, ?_⟩)
      · rw [if_pos rfl]; simp only; omega
      · rw [if_neg (by omega), if_pos h]
    · refine .inr (.inr ⟨rfl, ?_, ?_, hc⟩)
      · rw [if_pos rfl]; simp only; omega
      · rw [if_neg (by omega), if_neg (by omega)]
  · exact .inl ⟨by rw [h5]; decide, h5, by rw [if_pos hi]⟩
end Im
end Go.Proofs.Ytjdhkpafbejodaa
