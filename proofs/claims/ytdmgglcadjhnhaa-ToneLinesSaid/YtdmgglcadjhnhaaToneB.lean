/- The symbols of a byte. -/
import Derived.Test.YtdmgglcadjhnhaaToneA
import Derived.Test.YtdmgglcadjhnhaaFst
namespace Go.Proofs.Ytdmgglcadjhnhaa
open Go.RowKit
namespace To
open Sm Ph
abbrev zc : Value := .complex .f64 0 0
/-- A byte's symbols, of which k are written. -/
def tcell (b : Int) (k j : Nat) : Value := if j < k then (if j = 0 then sx (b / 64) else if j = 1 then sx (b / 16) else if j = 2 then sx (b / 4) else sx b) else zc
def tcells (b : Int) (k : Nat) : Array Value := #[tcell b k 0, tcell b k 1, tcell b k 2, tcell b k 3]
attribute [local irreducible] sz
attribute [local go_sem] run_store_float run_store_complex
theorem tc_set (b : Int) (k : Nat) (hk : k < 4) (v : Value) (hv : v = (if k = 0 then sx (b / 64) else if k = 1 then sx (b / 16) else if k = 2 then sx (b / 4) else sx b)) : (tcells b k).setIfInBounds k v = tcells b (k + 1) := by
  have : k = 0 ∨ k = 1 ∨ k = 2 ∨ k = 3 := by omega
  rcases this with rfl | rfl | rfl | rfl <;> subst hv <;> simp [tcells, tcell]
structure At (w wr : World) (g g2 : Nat) (b : Int) (k : Nat) : Prop where
  a : Blk wr g 31 (tcells b k)
  r : Blk wr g2 31 (tcells b 0)
  k : Keeps [] w wr
theorem At.next {w wr : World} {g : Nat} {b : Int} {k : Nat} (h : At w wr (g + 1) g b k) (hk : k < 4) {v : Value} (hv : v = (if k = 0 then sx (b / 64) else if k = 1 then sx (b / 16) else if k = 2 then sx (b / 4) else sx b)) (hw : w.heap.size = g) :
    At w (wr.setCell ⟨g + 1, k, none⟩ v) (g + 1) g b (k + 1) :=
  ⟨by rw [← tc_set b k hk v hv]; exact h.a.set_ k v, h.r.far (by simp) _, h.k.setCell (by right; simp; omega) _⟩
set_option maxRecDepth 100000 in
theorem tones_any (b : Int) (w : World) (h0 : 0 ≤ b) (h1 : b ≤ 255) :
    Calls Try.prog 9 #[.int .i64 b] w fun e w' => e = .returned (.agg #[sx (b / 64), sx (b / 16), sx (b / 4), sx b]) ∧ Keeps [] w w' := by
  go_enter Try.func9, Try.ntmps9
  go_wp2
  have hA : At w ((w.alloc (.cells #[.complex .f64 0 0, .complex .f64 0 0, .complex .f64 0 0, .complex .f64 0 0] 31)).alloc (.cells #[.complex .f64 0 0, .complex .f64 0 0, .complex .f64 0 0, .complex .f64 0 0] 31)) (w.heap.size + 1) w.heap.size b 0 :=
    ⟨by have := Blk.new (w.alloc (.cells #[.complex .f64 0 0, .complex .f64 0 0, .complex .f64 0 0, .complex .f64 0 0] 31)) 31 #[.complex .f64 0 0, .complex .f64 0 0, .complex .f64 0 0, .complex .f64 0 0]; rwa [World.size_alloc] at this, (Blk.new _ _ _).alloc _, ((Keeps.refl _ _).alloc _).alloc _⟩
  generalize ((w.alloc (.cells #[.complex .f64 0 0, .complex .f64 0 0, .complex .f64 0 0, .complex .f64 0 0] 31)).alloc (.cells #[.complex .f64 0 0, .complex .f64 0 0, .complex .f64 0 0, .complex .f64 0 0] 31)) = V at *
  generalize hg : w.heap.size = g at *
  have HG := Lib.hid hg
  clear hg
  go_loopw [5] (fun i wr => ∃ k : Nat, k ≤ 4 ∧ i = .int .i64 k ∧ At w wr (g + 1) g b k) (fun i _ => 4 - (intOf i).toNat)
  case atStart => exact ⟨0, by omega, rfl, hA⟩
  case round =>
    clear hA
    obtain ⟨k, hk, rfl, hA⟩ := hrel
    by_cases hlt : k < 4
    · have h4 : k = 0 ∨ k = 1 ∨ k = 2 ∨ k = 3 := by omega
      have HA := Lib.hid hA
      have cf := hA.a.frozen
      have cc : (tcells b k).size = 4 := rfl
      have c := hA.a.cell k
      have HC : Hid (∃ u, wr.cell? ⟨g + 1, k, none⟩ = some u) := Lib.hid ⟨_, c.trans (Array.getElem?_eq_getElem (by omega))⟩
      clear c hA
      obtain ⟨u, cu⟩ := HC.out
      rcases h4 with rfl | rfl | rfl | rfl
      · go_wp2_with fail
        refine (symbol_c _ _).mono ?_
        rintro e w1 ⟨rfl, rfl⟩
        go_wp2_with fail
        go_roundw
        case rel => exact ⟨1, by omega, rfl, HA.out.next (by omega) rfl HG.out⟩
        case measure => simp [intOf]
      · go_wp2_with fail
        refine (symbol_c _ _).mono ?_
        rintro e w1 ⟨rfl, rfl⟩
        go_wp2_with fail
        go_roundw
        case rel => exact ⟨2, by omega, rfl, HA.out.next (by omega) rfl HG.out⟩
        case measure => simp [intOf]
      · go_wp2_with fail
        refine (symbol_c _ _).mono ?_
        rintro e w1 ⟨rfl, rfl⟩
        go_wp2_with fail
        go_roundw
        case rel => exact ⟨3, by omega, rfl, HA.out.next (by omega) rfl HG.out⟩
        case measure => simp [intOf]
      · go_wp2_with fail
        refine (symbol_c _ _).mono ?_
        rintro e w1 ⟨rfl, rfl⟩
        go_wp2_with fail
        go_roundw
        case rel => exact ⟨4, by omega, rfl, HA.out.next (by omega) rfl HG.out⟩
        case measure => simp [intOf]
    · obtain rfl : k = 4 := by omega
      have HA := Lib.hid hA
      have c0 := hA.a.cell 0
      have c1 := hA.a.cell 1
      have c2 := hA.a.cell 2
      have c3 := hA.a.cell 3
      have d0 := hA.r.cell 0
      have d1 := hA.r.cell 1
      have d2 := hA.r.cell 2
      have d3 := hA.r.cell 3
      have df := hA.r.frozen
      simp [tcells, tcell] at c0 c1 c2 c3 d0 d1 d2 d3
      clear hA
      go_wp2
      have hz := HG.out
      refine bodyPost_ret (v := .agg #[sx (b / 64), sx (b / 16), sx (b / 4), sx b]) (by simp [results, Try.results9, go_sem, d0, d1, d2, d3]) rfl ⟨rfl, ?_⟩
      exact (((HA.out.k.setCell (by right; simp; omega) _).setCell (by right; simp; omega) _).setCell (by right; simp; omega) _).setCell (by right; simp; omega) _
end To
end Go.Proofs.Ytdmgglcadjhnhaa
