/- A spectrum shifted; two spectra joined; whether one is even. -/
import Derived.Test.YtbkljphhgghjdaaBeatN
namespace Go.Proofs.Ytbkljphhgghjdaa
open Go.RowKit
namespace Be
open Sm Ph Fl
/-- Four numbers, of which k have been replaced. -/
def mix (f h : Nat → Nat × Nat) (k j : Nat) : Nat × Nat := if j < k then h j else f j
def mcs (f h : Nat → Nat × Nat) (k : Nat) : Array Value := #[cx (mix f h k 0), cx (mix f h k 1), cx (mix f h k 2), cx (mix f h k 3)]
theorem mix_ge (f h : Nat → Nat × Nat) (k : Nat) : mix f h k k = f k := by unfold mix; rw [if_neg (by omega)]
theorem mix_4 (f h : Nat → Nat × Nat) (j : Nat) (hj : j < 4) : mix f h 4 j = h j := by unfold mix; rw [if_pos hj]
theorem mix_new (f h : Nat → Nat × Nat) (k : Nat) : mix f h (k + 1) k = h k := by unfold mix; rw [if_pos (by omega)]
theorem mix_other (f h : Nat → Nat × Nat) (k j : Nat) (hj : j ≠ k) : mix f h (k + 1) j = mix f h k j := by
  unfold mix
  by_cases h1 : j < k
  · rw [if_pos h1, if_pos (by omega)]
  · rw [if_neg h1, if_neg (by omega)]
theorem mcs_set (f h : Nat → Nat × Nat) (k : Nat) (hk : k < 4) : (mcs f h k).setIfInBounds k (cx (h k)) = mcs f h (k + 1) := by
  have h4 : k = 0 ∨ k = 1 ∨ k = 2 ∨ k = 3 := by omega
  unfold mcs
  rcases h4 with rfl | rfl | rfl | rfl
  · rw [mix_new, mix_other _ _ _ 1 (by decide), mix_other _ _ _ 2 (by decide), mix_other _ _ _ 3 (by decide)]; rfl
  · rw [mix_new, mix_other _ _ _ 0 (by decide), mix_other _ _ _ 2 (by decide), mix_other _ _ _ 3 (by decide)]; rfl
  · rw [mix_new, mix_other _ _ _ 0 (by decide), mix_other _ _ _ 1 (by decide), mix_other _ _ _ 3 (by decide)]; rfl
  · rw [mix_new, mix_other _ _ _ 0 (by decide), mix_other _ _ _ 1 (by decide), mix_other _ _ _ 2 (by decide)]; rfl
theorem mcs_at (f h : Nat → Nat × Nat) (k : Nat) (hk : k < 4) : (mcs f h k)[k]? = some (cx (f k)) := by
  have h4 : k = 0 ∨ k = 1 ∨ k = 2 ∨ k = 3 := by omega
  unfold mcs
  rcases h4 with rfl | rfl | rfl | rfl <;> simp [mix_ge]
theorem mcs_0 (f h : Nat → Nat × Nat) : mcs f h 0 = #[cx (f 0), cx (f 1), cx (f 2), cx (f 3)] := rfl
theorem mcs_4 (f h : Nat → Nat × Nat) : mcs f h 4 = #[cx (h 0), cx (h 1), cx (h 2), cx (h 3)] := rfl
def shf (f : Nat → Nat × Nat) (b : Int) (j : Nat) : Nat × Nat := tn (ph (j : Int) b) (f j)
theorem turn_sh (f : Nat → Nat × Nat) (b : Int) (k : Nat) (hk : k < 4) (w : World) :
    Calls Try.prog 21 #[.complex .f64 (f k).1 (f k).2, .int .i64 ((k : Int) * (b % 4))] w fun e w' => e = .returned (.complex .f64 (shf f b k).1 (shf f b k).2) ∧ w = w' := by
  have := turn_any (f k).1 (f k).2 ((k : Int) * (b % 4)) w
  have e : ((k : Int) * (b % 4) % 4).toNat = ph (k : Int) b := by
    unfold ph
    rw [show (k : Int) % 4 = k from by omega]
  rw [e] at this
  exact this
/-- The row under way in block g, the result's block behind it. -/
structure MJ (w : World) (g : Nat) (f h : Nat → Nat × Nat) (k : Nat) (wr : World) : Prop where
  s : Blk wr g 30 (mcs f h k)
  z : Blk wr (g + 1) 30 #[zc, zc, zc, zc]
  k_ : Keeps [] w wr
  hg : g = w.heap.size
theorem MJ.next {w wr : World} {g k : Nat} {f h : Nat → Nat × Nat} (hJ : MJ w g f h k wr) (hk : k < 4) : MJ w g f h (k + 1) (wr.setCell ⟨g, k, none⟩ (.complex .f64 (h k).1 (h k).2)) :=
  ⟨by rw [← mcs_set f h k hk]; exact hJ.s.set_ k _, hJ.z.far (by simp) _, hJ.k_.setCell (by right; rw [hJ.hg]; exact Nat.le_refl _) _, hJ.hg⟩
attribute [local irreducible] shf ph tn mix
attribute [local go_sem] run_store_float run_store_complex
set_option maxRecDepth 100000 in
set_option maxHeartbeats 1000000 in
theorem shift_any (f : Nat → Nat × Nat) (b : Int) (w : World) :
    Calls Try.prog 14 #[.agg #[.complex .f64 (f 0).1 (f 0).2, .complex .f64 (f 1).1 (f 1).2, .complex .f64 (f 2).1 (f 2).2, .complex .f64 (f 3).1 (f 3).2], .int .i64 b] w fun e w' => e = .returned (.agg #[cx (shf f b 0), cx (shf f b 1), cx (shf f b 2), cx (shf f b 3)]) ∧ Keeps [] w w' := by
  have h0 : MJ w w.heap.size f (shf f b) 0 ((w.alloc (.cells #[cx (f 0), cx (f 1), cx (f 2), cx (f 3)] 30)).alloc (.cells #[zc, zc, zc, zc] 30)) := by
    refine ⟨by unfold mcs mix; exact (Blk.new _ _ _).alloc _, ?_, ((Keeps.refl _ _).alloc _).alloc _, rfl⟩
    have := Blk.new (w.alloc (.cells #[cx (f 0), cx (f 1), cx (f 2), cx (f 3)] 30)) 30 #[zc, zc, zc, zc]
    rwa [World.size_alloc] at this
  have ha := Bw.and3 b
  go_enter Try.func14, Try.ntmps14
  go_wp2_with fail
  generalize ((w.alloc (.cells #[.complex .f64 (f 0).1 (f 0).2, .complex .f64 (f 1).1 (f 1).2, .complex .f64 (f 2).1 (f 2).2, .complex .f64 (f 3).1 (f 3).2] 30)).alloc (.cells #[.complex .f64 0 0, .complex .f64 0 0, .complex .f64 0 0, .complex .f64 0 0] 30)) = V at *
  generalize w.heap.size = g at *
  go_loopw [6] (fun i wr => ∃ k : Nat, k ≤ 4 ∧ i = .int .i64 k ∧ MJ w g f (shf f b) k wr) (fun i _ => 4 - (intOf i).toNat)
  case atStart => exact ⟨0, by omega, rfl, h0⟩
  case round =>
    clear h0
    obtain ⟨k, hk, rfl, hJ⟩ := hrel
    by_cases hlt : k < 4
    · have hc : wr.cell? ⟨g, k, none⟩ = some (.complex .f64 (f k).1 (f k).2) := (hJ.s.cell k).trans (mcs_at f _ k hlt)
      have hf := hJ.s.frozen
      have HN := Lib.hid (hJ.next hlt)
      have HTU := Lib.hid (fun w => turn_sh f b k hlt w)
      have z0 : 0 ≤ (k : Int) * (b % 4) := Int.mul_nonneg (by omega) (by omega)
      have z1 : (k : Int) * (b % 4) ≤ 9 := by
        have h1 : (k : Int) * (b % 4) ≤ 3 * 3 := Int.mul_le_mul (by omega) (by omega) (by omega) (by omega)
        omega
      clear hJ
      go_wp2_with fail
      refine (HTU.out _).mono ?_
      rintro e w1 ⟨rfl, rfl⟩
      go_wp2_with fail
      go_roundw
      case rel => exact ⟨k + 1, by omega, by go_num, HN.out⟩
      case measure => simp [intOf]; omega
    · obtain rfl : k = 4 := by omega
      have HJ := Lib.hid hJ
      have c := fun j => hJ.s.cell j
      rw [mcs_4] at c
      have c0 : wr.cell? ⟨g, 0, none⟩ = some (cx (shf f b 0)) := c 0
      have c1 : wr.cell? ⟨g, 1, none⟩ = some (cx (shf f b 1)) := c 1
      have c2 : wr.cell? ⟨g, 2, none⟩ = some (cx (shf f b 2)) := c 2
      have c3 : wr.cell? ⟨g, 3, none⟩ = some (cx (shf f b 3)) := c 3
      have d0 : wr.cell? ⟨g + 1, 0, none⟩ = some zc := hJ.z.cell 0
      have d1 : wr.cell? ⟨g + 1, 1, none⟩ = some zc := hJ.z.cell 1
      have d2 : wr.cell? ⟨g + 1, 2, none⟩ = some zc := hJ.z.cell 2
      have d3 : wr.cell? ⟨g + 1, 3, none⟩ = some zc := hJ.z.cell 3
      have hf := hJ.z.frozen
      clear hJ c
      go_wp2_with fail
      have hz := HJ.out.hg
      refine bodyPost_ret (v := .agg #[cx (shf f b 0), cx (shf f b 1), cx (shf f b 2), cx (shf f b 3)]) (by simp [results, Try.results14, go_sem, d0, d1, d2, d3]) rfl ⟨rfl, ?_⟩
      exact (((HJ.out.k_.setCell (by right; simp; omega) _).setCell (by right; simp; omega) _).setCell (by right; simp; omega) _).setCell (by right; simp; omega) _
/-- As sum2, behind a draw. -/
theorem sum2d (p q : Nat × Nat) (u v : Int × Int) (hp : isW (p, u)) (hq : isW (q, v)) (w : World) :
    Calls Try.prog 22 #[.slice (some ⟨w.heap.size, 0, none⟩) 2 2] (w.alloc (.cells #[.complex .f64 p.1 p.2, .complex .f64 q.1 q.2] 29)).drew (IsSum (u.1 + v.1) (u.2 + v.2) (w.alloc (.cells #[.complex .f64 p.1 p.2, .complex .f64 q.1 q.2] 29)).drew) := by
  have h := sum_any (some ⟨w.heap.size, 0, none⟩) 2 2 [(p, u), (q, v)] (w.alloc (.cells #[.complex .f64 p.1 p.2, .complex .f64 q.1 q.2] 29)).drew (fun r hr => by
    simp at hr
    rcases hr with rfl | rfl
    · exact hp
    · exact hq) rfl (by decide) (fun k r hr => add2 _ w _ p q rfl k r u v hr)
  simp only [sRe, sIm, Int.add_zero] at h
  exact h
/-- Two spectra joined, k of whose numbers are. -/
structure KJ (w : World) (g : Nat) (f h : Nat → Nat × Nat) (U V : Nat → Int) (q : Nat → Nat × Nat) (k : Nat) (wr : World) : Prop where
  s : Blk wr g 30 (mcs f q k)
  t : Blk wr (g + 1) 30 #[cx (h 0), cx (h 1), cx (h 2), cx (h 3)]
  z : Blk wr (g + 2) 30 #[zc, zc, zc, zc]
  k_ : Keeps [] w wr
  hg : g = w.heap.size
  ok : ∀ j, j < k → wIs (q j).1 (q j).2 (U j) (V j)
theorem mcs_upd (f q : Nat → Nat × Nat) (k : Nat) (p : Nat × Nat) : mcs f (updF q k p) k = mcs f q k := by
  have h : ∀ j, mix f (updF q k p) k j = mix f q k j := fun j => by
    unfold mix
    by_cases h1 : j < k
    · rw [if_pos h1, if_pos h1, upd_ne _ _ _ _ (by omega)]
    · rw [if_neg h1, if_neg h1]
  unfold mcs
  rw [h, h, h, h]
theorem KJ.keeps {w wr w1 : World} {g k : Nat} {f h : Nat → Nat × Nat} {U V : Nat → Int} {q : Nat → Nat × Nat} (hJ : KJ w g f h U V q k wr) (hk : Keeps [] wr w1) : KJ w g f h U V q k w1 :=
  ⟨hJ.s.keeps hk (by simp), hJ.t.keeps hk (by simp), hJ.z.keeps hk (by simp), hJ.k_.trans hk, hJ.hg, hJ.ok⟩
theorem KJ.next {w wr : World} {g k : Nat} {f h : Nat → Nat × Nat} {U V : Nat → Int} {q : Nat → Nat × Nat} (hJ : KJ w g f h U V q k wr) (hk : k < 4) (x y : Nat) (hw : wIs x y (U k) (V k)) :
    KJ w g f h U V (updF q k (x, y)) (k + 1) (wr.setCell ⟨g, k, none⟩ (.complex .f64 x y)) := by
  refine ⟨?_, hJ.t.far (by simp) _, hJ.z.far (by simp) _, hJ.k_.setCell (by right; rw [hJ.hg]; exact Nat.le_refl _) _, hJ.hg, fun j hj => ?_⟩
  · have h1 := mcs_set f (updF q k (x, y)) k hk
    rw [mcs_upd, upd_at] at h1
    rw [← h1]
    exact hJ.s.set_ k _
  · by_cases e : j = k
    · subst e; rw [upd_at]; exact hw
    · rw [upd_ne _ _ _ _ e]; exact hJ.ok j (by omega)
theorem hcell (h : Nat → Nat × Nat) (k : Nat) (hk : k < 4) : (#[cx (h 0), cx (h 1), cx (h 2), cx (h 3)] : Array Value)[k]? = some (cx (h k)) := by
  have h4 : k = 0 ∨ k = 1 ∨ k = 2 ∨ k = 3 := by omega
  rcases h4 with rfl | rfl | rfl | rfl <;> rfl
set_option maxRecDepth 100000 in
set_option maxHeartbeats 2000000 in
theorem join_any (f h : Nat → Nat × Nat) (U V U' V' : Nat → Int) (hf : ∀ j, j < 4 → isW (f j, (U j, V j))) (hh : ∀ j, j < 4 → isW (h j, (U' j, V' j))) (w : World) :
    Calls Try.prog 15 #[.agg #[.complex .f64 (f 0).1 (f 0).2, .complex .f64 (f 1).1 (f 1).2, .complex .f64 (f 2).1 (f 2).2, .complex .f64 (f 3).1 (f 3).2], .agg #[.complex .f64 (h 0).1 (h 0).2, .complex .f64 (h 1).1 (h 1).2, .complex .f64 (h 2).1 (h 2).2, .complex .f64 (h 3).1 (h 3).2]] w (IsSpec (fun j => U j + U' j) (fun j => V j + V' j) w) := by
  have HF := Lib.hid hf
  have HH := Lib.hid hh
  clear hf hh
  have h0 : KJ w w.heap.size f h (fun j => U j + U' j) (fun j => V j + V' j) f 0 (((w.alloc (.cells #[cx (f 0), cx (f 1), cx (f 2), cx (f 3)] 30)).alloc (.cells #[cx (h 0), cx (h 1), cx (h 2), cx (h 3)] 30)).alloc (.cells #[zc, zc, zc, zc] 30)) := by
    refine ⟨by unfold mcs mix; exact ((Blk.new _ _ _).alloc _).alloc _, ?_, ?_, (((Keeps.refl _ _).alloc _).alloc _).alloc _, rfl, fun j hj => by omega⟩
    · have := (Blk.new (w.alloc (.cells #[cx (f 0), cx (f 1), cx (f 2), cx (f 3)] 30)) 30 #[cx (h 0), cx (h 1), cx (h 2), cx (h 3)]).alloc (.cells #[zc, zc, zc, zc] 30)
      rwa [World.size_alloc] at this
    · have := Blk.new ((w.alloc (.cells #[cx (f 0), cx (f 1), cx (f 2), cx (f 3)] 30)).alloc (.cells #[cx (h 0), cx (h 1), cx (h 2), cx (h 3)] 30)) 30 #[zc, zc, zc, zc]
      rw [World.size_alloc, World.size_alloc] at this
      exact this
  go_enter Try.func15, Try.ntmps15
  go_wp2_with fail
  generalize (((w.alloc (.cells #[.complex .f64 (f 0).1 (f 0).2, .complex .f64 (f 1).1 (f 1).2, .complex .f64 (f 2).1 (f 2).2, .complex .f64 (f 3).1 (f 3).2] 30)).alloc (.cells #[.complex .f64 (h 0).1 (h 0).2, .complex .f64 (h 1).1 (h 1).2, .complex .f64 (h 2).1 (h 2).2, .complex .f64 (h 3).1 (h 3).2] 30)).alloc (.cells #[.complex .f64 0 0, .complex .f64 0 0, .complex .f64 0 0, .complex .f64 0 0] 30)) = W0 at *
  generalize w.heap.size = g at *
  go_loopw [6] (fun i wr => ∃ (k : Nat) (q : Nat → Nat × Nat), k ≤ 4 ∧ i = .int .i64 k ∧ KJ w g f h (fun j => U j + U' j) (fun j => V j + V' j) q k wr) (fun i _ => 4 - (intOf i).toNat)
  case atStart => exact ⟨0, f, by omega, rfl, h0⟩
  case round =>
    clear h0
    obtain ⟨k, q, hk, rfl, hJ⟩ := hrel
    by_cases hlt : k < 4
    · have hc : wr.cell? ⟨g, k, none⟩ = some (.complex .f64 (f k).1 (f k).2) := (hJ.s.cell k).trans (mcs_at f _ k hlt)
      have hd : wr.cell? ⟨g + 1, k, none⟩ = some (.complex .f64 (h k).1 (h k).2) := (hJ.t.cell k).trans (hcell h k hlt)
      have hfr := hJ.s.frozen
      have hgl := hJ.s.lt
      have hgl1 := hJ.t.lt
      have HJ := Lib.hid hJ
      have HS := Lib.hid (sum2d (f k) (h k) (U k, V k) (U' k, V' k) (HF.out k hlt) (HH.out k hlt) wr)
      have hk0 : (0 : Int) ≤ (k : Int) := by omega
      have hk1 : (k : Int) < 4 := by omega
      clear hJ
      go_wp2_with fail
      go_region_law (go_simp; (with_reducible refine HS.out.mono ?_); rintro e v1 ⟨x, y, rfl, hxy, rfl⟩; dsimp only)
      all_goals
        have HN := Lib.hid (HJ.out.next hlt x y hxy)
        go_wp2_with fail
        go_roundw
        case rel => exact ⟨k + 1, _, by omega, by go_num, HN.out.keeps (((Keeps.refl _ _).alloc _).drew)⟩
        case measure => simp [intOf]; omega
    · obtain rfl : k = 4 := by omega
      have HJ := Lib.hid hJ
      have c := fun j => hJ.s.cell j
      rw [mcs_4] at c
      have c0 : wr.cell? ⟨g, 0, none⟩ = some (cx (q 0)) := c 0
      have c1 : wr.cell? ⟨g, 1, none⟩ = some (cx (q 1)) := c 1
      have c2 : wr.cell? ⟨g, 2, none⟩ = some (cx (q 2)) := c 2
      have c3 : wr.cell? ⟨g, 3, none⟩ = some (cx (q 3)) := c 3
      have d0 : wr.cell? ⟨g + 2, 0, none⟩ = some zc := hJ.z.cell 0
      have d1 : wr.cell? ⟨g + 2, 1, none⟩ = some zc := hJ.z.cell 1
      have d2 : wr.cell? ⟨g + 2, 2, none⟩ = some zc := hJ.z.cell 2
      have d3 : wr.cell? ⟨g + 2, 3, none⟩ = some zc := hJ.z.cell 3
      have hf := hJ.z.frozen
      clear hJ c
      go_wp2_with fail
      have hz := HJ.out.hg
      refine bodyPost_ret (v := .agg #[cx (q 0), cx (q 1), cx (q 2), cx (q 3)]) (by simp [results, Try.results15, go_sem, d0, d1, d2, d3]) rfl ⟨q, rfl, HJ.out.ok, ?_⟩
      exact (((HJ.out.k_.setCell (by right; simp; omega) _).setCell (by right; simp; omega) _).setCell (by right; simp; omega) _).setCell (by right; simp; omega) _
/-- Is a word 0? -/
def z0 (x : Nat) : Bool := FloatKind.f64.format.order x 0 == some .eq
def evenB (f : Nat → Nat × Nat) : Bool := (z0 (f 1).1 && z0 (f 1).2) && (z0 (f 2).1 && z0 (f 2).2) && (z0 (f 3).1 && z0 (f 3).2)
/-- The ways in which three numbers are 0, or the first that is not. -/
theorem ways (a b c d e f : Bool) : (a = false) ∨ (a = true ∧ b = false) ∨ (a = true ∧ b = true ∧ c = false) ∨ (a = true ∧ b = true ∧ c = true ∧ d = false) ∨ (a = true ∧ b = true ∧ c = true ∧ d = true ∧ e = false) ∨ (a = true ∧ b = true ∧ c = true ∧ d = true ∧ e = true ∧ f = false) ∨ (a = true ∧ b = true ∧ c = true ∧ d = true ∧ e = true ∧ f = true) := by
  cases a <;> cases b <;> cases c <;> cases d <;> cases e <;> cases f <;> simp
set_option maxRecDepth 100000 in
theorem even_any (f : Nat → Nat × Nat) (w : World) :
    Calls Try.prog 16 #[.agg #[.complex .f64 (f 0).1 (f 0).2, .complex .f64 (f 1).1 (f 1).2, .complex .f64 (f 2).1 (f 2).2, .complex .f64 (f 3).1 (f 3).2]] w fun e w' => e = .returned (.bool (evenB f)) ∧ Keeps [] w w' := by
  rcases ways (z0 (f 1).1) (z0 (f 1).2) (z0 (f 2).1) (z0 (f 2).2) (z0 (f 3).1) (z0 (f 3).2) with h1 | ⟨h1, h2⟩ | ⟨h1, h2, h3⟩ | ⟨h1, h2, h3, h4⟩ | ⟨h1, h2, h3, h4, h5⟩ | ⟨h1, h2, h3, h4, h5, h6⟩ | ⟨h1, h2, h3, h4, h5, h6⟩
  · have hE : evenB f = false := by unfold evenB; simp [h1]
    rw [hE]
    unfold z0 at h1
    clear hE
    go_enter Try.func16, Try.ntmps16
    go_wp2_with fail
    go_ret
    exact ⟨rfl, (Keeps.refl _ _).alloc _⟩
  · have hE : evenB f = false := by unfold evenB; simp [h1, h2]
    rw [hE]
    unfold z0 at h1 h2
    clear hE
    go_enter Try.func16, Try.ntmps16
    go_wp2_with fail
    go_ret
    exact ⟨rfl, (Keeps.refl _ _).alloc _⟩
  · have hE : evenB f = false := by unfold evenB; simp [h1, h2, h3]
    rw [hE]
    unfold z0 at h1 h2 h3
    clear hE
    go_enter Try.func16, Try.ntmps16
    go_wp2_with fail
    go_ret
    exact ⟨rfl, (Keeps.refl _ _).alloc _⟩
  · have hE : evenB f = false := by unfold evenB; simp [h1, h2, h3, h4]
    rw [hE]
    unfold z0 at h1 h2 h3 h4
    clear hE
    go_enter Try.func16, Try.ntmps16
    go_wp2_with fail
    go_ret
    exact ⟨rfl, (Keeps.refl _ _).alloc _⟩
  · have hE : evenB f = false := by unfold evenB; simp [h1, h2, h3, h4, h5]
    rw [hE]
    unfold z0 at h1 h2 h3 h4 h5
    clear hE
    go_enter Try.func16, Try.ntmps16
    go_wp2_with fail
    go_ret
    exact ⟨rfl, (Keeps.refl _ _).alloc _⟩
  · have hE : evenB f = false := by unfold evenB; simp [h1, h2, h3, h4, h5, h6]
    rw [hE]
    unfold z0 at h1 h2 h3 h4 h5 h6
    clear hE
    go_enter Try.func16, Try.ntmps16
    go_wp2_with fail
    go_ret
    exact ⟨rfl, (Keeps.refl _ _).alloc _⟩
  · have hE : evenB f = true := by unfold evenB; simp [h1, h2, h3, h4, h5, h6]
    rw [hE]
    unfold z0 at h1 h2 h3 h4 h5 h6
    clear hE
    go_enter Try.func16, Try.ntmps16
    go_wp2_with fail
    go_ret
    exact ⟨rfl, (Keeps.refl _ _).alloc _⟩
end Be
end Go.Proofs.Ytbkljphhgghjdaa
