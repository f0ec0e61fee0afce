/- The parts of ticks, and a pulse of them. -/
import Derived.Test.YtbkljphhgghjdaaBeatD
namespace Go.Proofs.Ytbkljphhgghjdaa
open Go.RowKit
namespace Be
open Sm Ph Fl
/-- A slice of ticks. -/
structure Ticks (w : World) (a : Option Addr) (len : Nat) (zs : List Int) : Prop where
  len_ : zs.length = len
  few : len ≤ 500
  cell : ∀ k, k < len → ∃ b off, a = some ⟨b, off, none⟩ ∧ b < w.heap.size ∧ w.cell? ⟨b, off + k, none⟩ = some (.int .i64 (zs.getD k 0))
theorem Ticks.keeps {w w' : World} {a : Option Addr} {len : Nat} {zs : List Int} (h : Ticks w a len zs) (hk : Keeps [] w w') : Ticks w' a len zs :=
  ⟨h.len_, h.few, fun k hlt => by
    obtain ⟨b, off, e, hb, hc⟩ := h.cell k hlt
    exact ⟨b, off, e, Nat.lt_of_lt_of_le hb hk.size, (hk.cell (p := ⟨b, off + k, none⟩) hb (by simp)).trans hc⟩⟩
theorem Ticks.at_ {w wr : World} {a : Option Addr} {len : Nat} {zs : List Int} (h : Ticks w a len zs) (hk : Keeps [] w wr) {k : Nat} (hlt : k < len) : ∃ b off, a = some ⟨b, off, none⟩ ∧ wr.cell? ⟨b, off + k, none⟩ = some (.int .i64 (zs.getD k 0)) := by
  obtain ⟨b, off, e, _, hc⟩ := (h.keeps hk).cell k hlt
  exact ⟨b, off, e, hc⟩
theorem nn_few {w : World} {a : Option Addr} {len : Nat} {zs : List Int} (h : Ticks w a len zs) : (nn zs).length ≤ 500 := by
  have := nn_len zs
  have := h.len_
  have := h.few
  omega
structure PJ (w : World) (g : Nat) (pre : List Int) (wr : World) : Prop where
  o : Blk wr (g + 1) 23 (pcells pre)
  r : Blk wr g 23 #[.int .i64 0, .int .i64 0, .int .i64 0, .int .i64 0]
  k : Keeps [] w wr
  hg : g = w.heap.size
def IsParts (l : List Int) (w : World) (e : Ending) (w' : World) : Prop := e = .returned (.agg #[.int .i64 (cnt 0 l), .int .i64 (cnt 1 l), .int .i64 (cnt 2 l), .int .i64 (cnt 3 l)]) ∧ Keeps [] w w'
theorem pj_start (w : World) : PJ w w.heap.size [] ((w.alloc (.cells #[.int .i64 0, .int .i64 0, .int .i64 0, .int .i64 0] 23)).alloc (.cells #[.int .i64 0, .int .i64 0, .int .i64 0, .int .i64 0] 23)) := by
  refine ⟨?_, (Blk.new _ _ _).alloc _, ((Keeps.refl _ _).alloc _).alloc _, rfl⟩
  have := Blk.new (w.alloc (.cells #[.int .i64 0, .int .i64 0, .int .i64 0, .int .i64 0] 23)) 23 #[.int .i64 0, .int .i64 0, .int .i64 0, .int .i64 0]
  rw [World.size_alloc] at this
  exact this
theorem pj_step {w : World} {g : Nat} {pre : List Int} {wr : World} (h : PJ w g pre wr) (hl : pre.length < 500) (t : Int) :
    Calls Try.prog 19 #[.int .i64 t, .pointer (some ⟨g + 1, 0, none⟩)] wr fun e w' => e = .returned (.tuple #[]) ∧ PJ w g (pre ++ [t]) w' := by
  refine (put_any (g + 1) pre t wr h.o (by omega)).mono ?_
  rintro e w' ⟨rfl, hb, hk⟩
  have hz := h.hg
  exact ⟨rfl, hb, h.r.keeps hk (by simp), h.k.next hk (fun x hx => by simp at hx; right; omega), hz⟩
attribute [local irreducible] cnt
set_option maxRecDepth 100000 in
theorem parts_any (a : Option Addr) (len cap : Nat) (zs : List Int) (w : World) (h : Ticks w a len zs) :
    Calls Try.prog 9 #[.slice a len cap] w (IsParts (nn zs) w) := by
  have hmf : ∀ (fn : Fn) (first cap : Array Value) (w : World), (Instr.makeFunc fn first cap).run Try.prog w = .ok (.func fn first cap) w := fun _ _ _ _ => rfl
  have h0 := pj_start w
  have HE := Lib.hid (each_put a len cap zs (w.heap.size + 1) (PJ w w.heap.size) _ h.len_ h.few (fun k pre wr hk hJ => h.at_ hJ.k hk) (fun pre t wr hJ hl => pj_step hJ hl t) h0)
  clear h h0
  go_enter Try.func9, Try.ntmps9
  go_wp2_with fail
  refine HE.out.mono ?_
  clear HE
  rintro e w1 ⟨rfl, hJ⟩
  have HJ := Lib.hid hJ
  have hf := hJ.r.frozen
  have hf1 := hJ.o.frozen
  have c0 := hJ.o.cell 0
  have c1 := hJ.o.cell 1
  have c2 := hJ.o.cell 2
  have c3 := hJ.o.cell 3
  have d0 := hJ.r.cell 0
  have d1 := hJ.r.cell 1
  have d2 := hJ.r.cell 2
  have d3 := hJ.r.cell 3
  simp [pcells] at c0 c1 c2 c3 d0 d1 d2 d3
  clear hJ
  go_wp2_with fail
  refine bodyPost_ret (v := .agg #[.int .i64 (cnt 0 (nn zs)), .int .i64 (cnt 1 (nn zs)), .int .i64 (cnt 2 (nn zs)), .int .i64 (cnt 3 (nn zs))]) (by simp [results, Try.results9, go_sem, d0, d1, d2, d3]) rfl ⟨rfl, ?_⟩
  exact (((HJ.out.k.setCell (by right; exact Nat.le_refl _) _).setCell (by right; exact Nat.le_refl _) _).setCell (by right; exact Nat.le_refl _) _).setCell (by right; exact Nat.le_refl _) _
structure QJ (w : World) (g : Nat) (k : Int) (pre : List Int) (wr : World) : Prop where
  c : ∃ a c, Cap w wr (g + 1) g k (.slice a pre.length c) pre
theorem qj_start (w : World) (k : Int) : QJ w w.heap.size k [] ((w.alloc (.cells #[.int .i64 k] 3)).alloc (.cells #[.slice none 0 0] 45)) := by
  refine ⟨none, 0, ?_, (Blk.new _ _ _).alloc _, ⟨by simp [cxv], .inl ⟨rfl, rfl⟩⟩, ((Keeps.refl _ _).alloc _).alloc _, by omega, by omega⟩
  have := Blk.new (w.alloc (.cells #[.int .i64 k] 3)) 45 #[.slice none 0 0]
  rw [World.size_alloc] at this
  exact this
theorem qj_step {w : World} {g : Nat} {k : Int} {pre : List Int} {wr : World} (h : QJ w g k pre wr) (hl : pre.length < 500) (t : Int) :
    Calls Try.prog 20 #[.int .i64 t, .pointer (some ⟨g + 1, 0, none⟩), .pointer (some ⟨g, 0, none⟩)] wr fun e w' => e = .returned (.tuple #[]) ∧ QJ w g k (pre ++ [t]) w' := by
  obtain ⟨a, c, h⟩ := h.c
  refine (cap_any w (g + 1) g k t a c pre wr h (by omega) (by omega)).mono ?_
  rintro e w' ⟨rfl, hc⟩
  exact ⟨rfl, ⟨hc⟩⟩
theorem QJ.keep {w : World} {g : Nat} {k : Int} {pre : List Int} {wr : World} (h : QJ w g k pre wr) : Keeps [] w wr := by
  obtain ⟨a, c, h⟩ := h.c
  exact h.k_
/-- A pulse: a number with whole parts. -/
def IsPulse (u v : Int) (w : World) (e : Ending) (w' : World) : Prop := ∃ x y, e = .returned (.complex .f64 x y) ∧ wIs x y u v ∧ Keeps [] w w'
set_option maxRecDepth 100000 in
theorem pulse_any (a : Option Addr) (len cap : Nat) (zs : List Int) (k : Int) (w : World) (h : Ticks w a len zs) :
    Calls Try.prog 13 #[.slice a len cap, .int .i64 k] w (IsPulse (rP k (nn zs)) (iP k (nn zs)) w) := by
  have hmf : ∀ (fn : Fn) (first cap : Array Value) (w : World), (Instr.makeFunc fn first cap).run Try.prog w = .ok (.func fn first cap) w := fun _ _ _ _ => rfl
  have h0 := qj_start w k
  have HE := Lib.hid (each_cap a len cap zs (w.heap.size + 1) w.heap.size (QJ w w.heap.size k) _ h.len_ h.few (fun k pre wr hk hJ => h.at_ hJ.keep hk) (fun pre t wr hJ hl => qj_step hJ hl t) h0)
  have hfew := nn_few h
  clear h h0
  go_enter Try.func13, Try.ntmps13
  go_wp2_with fail
  refine HE.out.mono ?_
  clear HE
  rintro e w1 ⟨rfl, ⟨a1, c1, hC⟩⟩
  have HC := Lib.hid hC
  have c0 : w1.cell? ⟨w.heap.size + 1, 0, none⟩ = some (.slice a1 (nn zs).length c1) := hC.o_.cell 0
  have HS := Lib.hid (sum_any a1 (nn zs).length c1 ((nn zs).map (wd k)) w1 (fun p hp => by
    obtain ⟨t, _, rfl⟩ := List.mem_map.1 hp
    exact wd_isW k t) (by simp) (by omega) (fun j p hp => by
    have hj : j < (nn zs).length := by have := (List.getElem?_eq_some_iff.1 hp).1; simpa using this
    obtain ⟨g, cap, hv, _, _⟩ := hC.own.form (by omega)
    injection hv with e1 e2 e3
    subst e1
    refine ⟨g, rfl, ?_⟩
    rw [← add_off]
    refine hC.own.cells (g := g) rfl j _ ?_
    rw [cxv, List.getElem?_map, hp]
    rfl))
  rw [sRe_wd, sIm_wd] at HS
  clear hC
  go_wp2_with fail
  refine HS.out.mono ?_
  rintro e w2 ⟨x, y, rfl, hw, rfl⟩
  go_wp2_with fail
  go_ret
  exact ⟨x, y, rfl, hw, HC.out.k_⟩
end Be
end Go.Proofs.Ytbkljphhgghjdaa
