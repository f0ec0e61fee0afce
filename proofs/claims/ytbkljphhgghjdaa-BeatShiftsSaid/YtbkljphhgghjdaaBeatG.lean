/- Spectra: the program's, and whether one is that of parts. -/
import Derived.Test.YtbkljphhgghjdaaBeatF
namespace Go.Proofs.Ytbkljphhgghjdaa
open Go.RowKit
namespace Be
open Sm Ph Fl
theorem eq_of {x y : Nat} {v : Int} (h1 : Wh x v) (h2 : Wh y v) (hv : v.natAbs < 2 ^ 53) : (FloatKind.f64.format.order x y == some .eq) = true := by
  have : FloatKind.f64.format.order x y = some (compare v v) := wh_order h1 h2 hv hv
  rw [this, show compare v v = .eq from Int.compare_eq_eq.2 rfl]
  rfl
theorem run_convn (n : Int) (w : World) : (convert 3 44 (.int .i64 n)).run Try.prog w = .ok (.float .f64 (FloatKind.f64.nearest n)) w :=
  run_convert_int_float (P := Try.prog) w 3 44 .i64 .f64 n (by kernel_rfl) (by kernel_rfl)
theorem wh_near (n : Int) : Wh (FloatKind.f64.nearest n) n := wh_of n
attribute [local irreducible] FloatKind.nearest
theorem is_any (x y : Nat) (u v : Int) (w : World) (h : wIs x y u v) (hu : u.natAbs ≤ 100000000) (hv : v.natAbs ≤ 100000000) :
    Calls Try.prog 12 #[.complex .f64 x y, .int .i64 u, .int .i64 v] w fun e w' => e = .returned (.bool true) ∧ w = w' := by
  have o1 := eq_of h.1 (wh_near u) (by omega)
  have o2 := eq_of h.2 (wh_near v) (by omega)
  have hcv := run_convn
  clear h
  go_enter Try.func12, Try.ntmps12
  go_wp2_with fail
  go_ret
  exact ⟨rfl, rfl⟩
abbrev cx (p : Nat × Nat) : Value := .complex .f64 p.1 p.2
abbrev zc : Value := .complex .f64 0 0
def scell (f : Nat → Nat × Nat) (k j : Nat) : Value := if j < k then cx (f j) else zc
def scells (f : Nat → Nat × Nat) (k : Nat) : Array Value := #[scell f k 0, scell f k 1, scell f k 2, scell f k 3]
def updF (f : Nat → Nat × Nat) (k : Nat) (p : Nat × Nat) : Nat → Nat × Nat := fun j => if j = k then p else f j
theorem upd_at (f : Nat → Nat × Nat) (k : Nat) (p : Nat × Nat) : updF f k p k = p := by unfold updF; rw [if_pos rfl]
theorem upd_ne (f : Nat → Nat × Nat) (k j : Nat) (p : Nat × Nat) (h : j ≠ k) : updF f k p j = f j := by unfold updF; rw [if_neg h]
theorem scell_lt (f : Nat → Nat × Nat) (k j : Nat) (h : j < k) : scell f k j = cx (f j) := by unfold scell; rw [if_pos h]
theorem scell_ge (f : Nat → Nat × Nat) (k j : Nat) (h : ¬ j < k) : scell f k j = zc := by unfold scell; rw [if_neg h]
theorem sc_same (f : Nat → Nat × Nat) (k j : Nat) (p : Nat × Nat) (h : j ≠ k) : scell (updF f k p) (k + 1) j = scell f k j := by
  by_cases hlt : j < k
  · rw [scell_lt _ _ _ hlt, scell_lt _ _ _ (by omega), upd_ne _ _ _ _ h]
  · rw [scell_ge _ _ _ hlt, scell_ge _ _ _ (by omega)]
theorem sc_new (f : Nat → Nat × Nat) (k : Nat) (p : Nat × Nat) : scell (updF f k p) (k + 1) k = cx p := by
  rw [scell_lt _ _ _ (by omega), upd_at]
theorem sc_set (f : Nat → Nat × Nat) (k : Nat) (hk : k < 4) (p : Nat × Nat) : (scells f k).setIfInBounds k (cx p) = scells (updF f k p) (k + 1) := by
  have h4 : k = 0 ∨ k = 1 ∨ k = 2 ∨ k = 3 := by omega
  unfold scells
  rcases h4 with rfl | rfl | rfl | rfl
  · rw [sc_new, sc_same _ _ 1 _ (by decide), sc_same _ _ 2 _ (by decide), sc_same _ _ 3 _ (by decide)]; rfl
  · rw [sc_new, sc_same _ _ 0 _ (by decide), sc_same _ _ 2 _ (by decide), sc_same _ _ 3 _ (by decide)]; rfl
  · rw [sc_new, sc_same _ _ 0 _ (by decide), sc_same _ _ 1 _ (by decide), sc_same _ _ 3 _ (by decide)]; rfl
  · rw [sc_new, sc_same _ _ 0 _ (by decide), sc_same _ _ 1 _ (by decide), sc_same _ _ 2 _ (by decide)]; rfl
structure SJ (w : World) (g : Nat) (f : Nat → Nat × Nat) (k : Nat) (ns : List Int) (wr : World) : Prop where
  o : Blk wr (g + 1) 30 (scells f k)
  r : Blk wr g 30 #[zc, zc, zc, zc]
  k_ : Keeps [] w wr
  hg : g = w.heap.size
  ok : ∀ j, j < k → wIs (f j).1 (f j).2 (rP (j : Int) ns) (iP (j : Int) ns)
theorem SJ.next {w wr w1 : World} {g k : Nat} {f : Nat → Nat × Nat} {ns : List Int} (h : SJ w g f k ns wr) (hk : k < 4) (hK : Keeps [] wr w1) (x y : Nat) (hw : wIs x y (rP (k : Int) ns) (iP (k : Int) ns)) :
    SJ w g (updF f k (x, y)) (k + 1) ns (w1.setCell ⟨g + 1, k, none⟩ (.complex .f64 x y)) := by
  refine ⟨by rw [← sc_set f k hk]; exact (h.o.keeps hK (by simp)).set_ k _, (h.r.keeps hK (by simp)).far (by simp) _, (h.k_.trans hK).setCell (by right; rw [h.hg]; simp) _, h.hg, fun j hj => ?_⟩
  by_cases e : j = k
  · subst e; rw [upd_at]; exact hw
  · rw [upd_ne _ _ _ _ e]; exact h.ok j (by omega)
/-- A spectrum: four numbers with whole parts. -/
def IsSpec (u v : Nat → Int) (w : World) (e : Ending) (w' : World) : Prop :=
  ∃ f : Nat → Nat × Nat, e = .returned (.agg #[cx (f 0), cx (f 1), cx (f 2), cx (f 3)]) ∧ (∀ j, j < 4 → wIs (f j).1 (f j).2 (u j) (v j)) ∧ Keeps [] w w'
attribute [local go_sem] run_store_float run_store_complex
set_option maxRecDepth 100000 in
set_option maxHeartbeats 1000000 in
theorem spectrum_any (a : Option Addr) (len cap : Nat) (zs : List Int) (w : World) (h : Ticks w a len zs) :
    Calls Try.prog 11 #[.slice a len cap] w (IsSpec (fun j => rP (j : Int) (nn zs)) (fun j => iP (j : Int) (nn zs)) w) := by
  have HT := Lib.hid h
  clear h
  go_enter Try.func11, Try.ntmps11
  go_wp2_with fail
  have h0 : SJ w w.heap.size (fun _ => (0, 0)) 0 (nn zs) ((w.alloc (.cells #[zc, zc, zc, zc] 30)).alloc (.cells #[zc, zc, zc, zc] 30)) :=
    ⟨by have := Blk.new (w.alloc (.cells #[zc, zc, zc, zc] 30)) 30 #[zc, zc, zc, zc]; rwa [World.size_alloc] at this, (Blk.new _ _ _).alloc _, ((Keeps.refl _ _).alloc _).alloc _, rfl, fun j hj => by omega⟩
  generalize ((w.alloc (.cells #[.complex .f64 0 0, .complex .f64 0 0, .complex .f64 0 0, .complex .f64 0 0] 30)).alloc (.cells #[.complex .f64 0 0, .complex .f64 0 0, .complex .f64 0 0, .complex .f64 0 0] 30)) = V at *
  generalize w.heap.size = g at *
  go_loopw [5] (fun i wr => ∃ (k : Nat) (f : Nat → Nat × Nat), k ≤ 4 ∧ i = .int .i64 k ∧ SJ w g f k (nn zs) wr) (fun i _ => 4 - (intOf i).toNat)
  case atStart => exact ⟨0, _, by omega, rfl, h0⟩
  case round =>
    clear h0
    obtain ⟨k, f, hk, rfl, hJ⟩ := hrel
    by_cases hlt : k < 4
    · have HJ := Lib.hid hJ
      have HPL := Lib.hid (pulse_any a len cap zs (k : Int) wr (HT.out.keeps hJ.k_))
      clear hJ
      go_wp2_with fail
      refine HPL.out.mono ?_
      clear HPL
      rintro e w1 ⟨x, y, rfl, hw, hK⟩
      have hB := HJ.out.o.keeps hK (by simp)
      have hf := hB.frozen
      have HC : Hid (∃ u, w1.cell? ⟨g + 1, k, none⟩ = some u) := Lib.hid ⟨_, (hB.cell k).trans (Array.getElem?_eq_getElem (by show k < 4; exact hlt))⟩
      obtain ⟨u, cu⟩ := HC.out
      have HN := Lib.hid (HJ.out.next hlt hK x y hw)
      clear hB hw hK HC
      go_wp2_with fail
      go_roundw
      case rel => exact ⟨k + 1, _, by omega, by go_num, HN.out⟩
      case measure => simp [intOf]; omega
    · obtain rfl : k = 4 := by omega
      have HJ := Lib.hid hJ
      have hf := hJ.r.frozen
      have c0 := hJ.o.cell 0
      have c1 := hJ.o.cell 1
      have c2 := hJ.o.cell 2
      have c3 := hJ.o.cell 3
      have d0 := hJ.r.cell 0
      have d1 := hJ.r.cell 1
      have d2 := hJ.r.cell 2
      have d3 := hJ.r.cell 3
      simp [scells, scell] at c0 c1 c2 c3 d0 d1 d2 d3
      clear hJ
      go_wp2_with fail
      have hz := HJ.out.hg
      refine bodyPost_ret (v := .agg #[cx (f 0), cx (f 1), cx (f 2), cx (f 3)]) (by simp [results, Try.results11, go_sem, d0, d1, d2, d3]) rfl ⟨f, rfl, HJ.out.ok, ?_⟩
      exact (((HJ.out.k_.setCell (by right; simp; omega) _).setCell (by right; simp; omega) _).setCell (by right; simp; omega) _).setCell (by right; simp; omega) _
set_option maxRecDepth 100000 in
set_option maxHeartbeats 1000000 in
theorem rspectrum_any (f : Nat → Nat × Nat) (P : Nat → Int) (hP : ∀ j, 0 ≤ P j ∧ P j ≤ 600) (hw : ∀ j : Nat, j < 4 → wIs (f j).1 (f j).2 (rR (j : Int) P 4) (rI (j : Int) P 4)) (w : World) :
    Calls Try.prog 10 #[.agg #[cx (f 0), cx (f 1), cx (f 2), cx (f 3)], .agg #[.int .i64 (P 0), .int .i64 (P 1), .int .i64 (P 2), .int .i64 (P 3)]] w fun e w' => e = .returned (.bool true) ∧ Keeps [] w w' := by
  have HP := Lib.hid hP
  have HW := Lib.hid hw
  clear hP hw
  have hB1 := (Blk.new w 30 #[cx (f 0), cx (f 1), cx (f 2), cx (f 3)]).alloc (.cells #[.int .i64 (P 0), .int .i64 (P 1), .int .i64 (P 2), .int .i64 (P 3)] 23)
  have hB2 := Blk.new (w.alloc (.cells #[cx (f 0), cx (f 1), cx (f 2), cx (f 3)] 30)) 23 #[.int .i64 (P 0), .int .i64 (P 1), .int .i64 (P 2), .int .i64 (P 3)]
  rw [World.size_alloc] at hB2
  have hK : Keeps [] w ((w.alloc (.cells #[cx (f 0), cx (f 1), cx (f 2), cx (f 3)] 30)).alloc (.cells #[.int .i64 (P 0), .int .i64 (P 1), .int .i64 (P 2), .int .i64 (P 3)] 23)) := ((Keeps.refl _ _).alloc _).alloc _
  have H12 := Lib.hid (And.intro hB1 (And.intro hB2 hK))
  clear hB1 hB2 hK
  go_enter Try.func10, Try.ntmps10
  go_wp2_with fail
  generalize ((w.alloc (.cells #[.complex .f64 (f 0).1 (f 0).2, .complex .f64 (f 1).1 (f 1).2, .complex .f64 (f 2).1 (f 2).2, .complex .f64 (f 3).1 (f 3).2] 30)).alloc (.cells #[.int .i64 (P 0), .int .i64 (P 1), .int .i64 (P 2), .int .i64 (P 3)] 23)) = V at *
  generalize w.heap.size = g at *
  go_loopw [5] (fun i wr => ∃ k : Nat, k ≤ 4 ∧ i = .int .i64 k ∧ Keeps [] V wr) (fun i _ => 4 - (intOf i).toNat)
  case atStart => exact ⟨0, by omega, rfl, Keeps.refl _ _⟩
  case round =>
    obtain ⟨k, hk, rfl, hK⟩ := hrel
    obtain ⟨hB1, hB2, hKV⟩ := H12.out
    have HKV := Lib.hid hKV
    have HK := Lib.hid hK
    by_cases hlt : k < 4
    · have hD := hB2.keeps hK (by simp)
      have d0 : wr.cell? ⟨g + 1, 0, none⟩ = some (.int .i64 (P 0)) := hD.cell 0
      have d1 : wr.cell? ⟨g + 1, 1, none⟩ = some (.int .i64 (P 1)) := hD.cell 1
      have d2 : wr.cell? ⟨g + 1, 2, none⟩ = some (.int .i64 (P 2)) := hD.cell 2
      have d3 : wr.cell? ⟨g + 1, 3, none⟩ = some (.int .i64 (P 3)) := hD.cell 3
      have HB1 := Lib.hid hB1
      have q1 := rR_bd (k : Int) P HP.out 4
      have q2 := rI_bd (k : Int) P HP.out 4
      have HIS := Lib.hid (fun w => is_any _ _ _ _ w (HW.out k hlt) (by omega) (by omega))
      clear q1 q2
      clear hB1 hB2 hKV hK hD
      go_wp2_with fail
      refine (rpulse_any P HP.out _ _).mono ?_
      rintro e w1 ⟨rfl, hK1⟩
      have hcell : w1.cell? ⟨g, k, none⟩ = some (.complex .f64 (f k).1 (f k).2) := by
        have := ((HB1.out.keeps HK.out (by simp)).keeps hK1 (by simp)).cell k
        rw [this]
        have h4 : k = 0 ∨ k = 1 ∨ k = 2 ∨ k = 3 := by omega
        rcases h4 with rfl | rfl | rfl | rfl <;> rfl
      have HK1 := Lib.hid (HK.out.trans hK1)
      clear hK1 d0 d1 d2 d3
      go_wp2_with fail
      refine (HIS.out _).mono ?_
      rintro e w2 ⟨rfl, rfl⟩
      go_wp2_with fail
      go_roundw
      case rel => exact ⟨k + 1, by omega, by go_num, HK1.out⟩
      case measure => simp [intOf]; omega
    · obtain rfl : k = 4 := by omega
      clear hB1 hB2 hKV hK
      go_wp2_with fail
      go_ret
      exact ⟨rfl, HKV.out.trans HK.out⟩
end Be
end Go.Proofs.Ytbkljphhgghjdaa
