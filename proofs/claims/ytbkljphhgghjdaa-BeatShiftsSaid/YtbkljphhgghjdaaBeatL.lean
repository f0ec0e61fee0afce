/- Back of a spectrum: its parts. -/
import Derived.Test.YtbkljphhgghjdaaBeatK
import Derived.Test.YtbkljphhgghjdaaBeatW
namespace Go.Proofs.Ytbkljphhgghjdaa
open Go.RowKit
namespace Be
open Sm Ph Fl
def bq (j r : Nat) : Nat := (-(j : Int) * (r : Int) % 4).toNat
theorem bq_lt (j r : Nat) : bq j r < 4 := by unfold bq; omega
/-- The spectrum's numbers, turned back by r. -/
def bw (f : Nat → Nat × Nat) (U V : Nat → Int) (r j : Nat) : Cw := (tn (bq j r) (f j), tz (bq j r) (U j, V j))
def bl (f : Nat → Nat × Nat) (U V : Nat → Int) (r m : Nat) : List Cw := (List.range m).map (bw f U V r)
theorem bl_s (f : Nat → Nat × Nat) (U V : Nat → Int) (r m : Nat) : bl f U V r (m + 1) = bl f U V r m ++ [bw f U V r m] := by simp [bl, List.range_succ]
theorem bl_0 (f : Nat → Nat × Nat) (U V : Nat → Int) (r : Nat) : bl f U V r 0 = [] := rfl
theorem bl_len (f : Nat → Nat × Nat) (U V : Nat → Int) (r m : Nat) : (bl f U V r m).length = m := by simp [bl]
theorem bs_0 (f : Nat → Nat × Nat) (U V : Nat → Int) : sRe (bl f U V 0 4) = U 0 + (U 1 + (U 2 + (U 3 + 0))) ∧ sIm (bl f U V 0 4) = V 0 + (V 1 + (V 2 + (V 3 + 0))) := ⟨rfl, rfl⟩
theorem bs_1 (f : Nat → Nat × Nat) (U V : Nat → Int) : sRe (bl f U V 1 4) = U 0 + (V 1 + (-U 2 + (-V 3 + 0))) ∧ sIm (bl f U V 1 4) = V 0 + (-U 1 + (-V 2 + (U 3 + 0))) := ⟨rfl, rfl⟩
theorem bs_2 (f : Nat → Nat × Nat) (U V : Nat → Int) : sRe (bl f U V 2 4) = U 0 + (-U 1 + (U 2 + (-U 3 + 0))) ∧ sIm (bl f U V 2 4) = V 0 + (-V 1 + (V 2 + (-V 3 + 0))) := ⟨rfl, rfl⟩
theorem bs_3 (f : Nat → Nat × Nat) (U V : Nat → Int) : sRe (bl f U V 3 4) = U 0 + (-V 1 + (-U 2 + (V 3 + 0))) ∧ sIm (bl f U V 3 4) = V 0 + (U 1 + (-V 2 + (-U 3 + 0))) := ⟨rfl, rfl⟩
theorem uR_0 (C : Nat → Int) : rR 0 C 4 = 0 + 1 * C 0 + 1 * C 1 + 1 * C 2 + 1 * C 3 := rfl
theorem uI_0 (C : Nat → Int) : rI 0 C 4 = 0 + 0 * C 0 + 0 * C 1 + 0 * C 2 + 0 * C 3 := rfl
theorem uR_1 (C : Nat → Int) : rR 1 C 4 = 0 + 1 * C 0 + 0 * C 1 + (-1) * C 2 + 0 * C 3 := rfl
theorem uI_1 (C : Nat → Int) : rI 1 C 4 = 0 + 0 * C 0 + 1 * C 1 + 0 * C 2 + (-1) * C 3 := rfl
theorem uR_2 (C : Nat → Int) : rR 2 C 4 = 0 + 1 * C 0 + (-1) * C 1 + 1 * C 2 + (-1) * C 3 := rfl
theorem uI_2 (C : Nat → Int) : rI 2 C 4 = 0 + 0 * C 0 + 0 * C 1 + 0 * C 2 + 0 * C 3 := rfl
theorem uR_3 (C : Nat → Int) : rR 3 C 4 = 0 + 1 * C 0 + 0 * C 1 + (-1) * C 2 + 0 * C 3 := rfl
theorem uI_3 (C : Nat → Int) : rI 3 C 4 = 0 + 0 * C 0 + (-1) * C 1 + 0 * C 2 + 1 * C 3 := rfl
theorem back_sum (f : Nat → Nat × Nat) (C : Nat → Int) (r : Nat) (hr : r < 4) : sRe (bl f (fun j => rR (j : Int) C 4) (fun j => rI (j : Int) C 4) r 4) = 4 * C r ∧ sIm (bl f (fun j => rR (j : Int) C 4) (fun j => rI (j : Int) C 4) r 4) = 0 := by
  have a0 := uR_0 C
  have a1 := uR_1 C
  have a2 := uR_2 C
  have a3 := uR_3 C
  have b0 := uI_0 C
  have b1 := uI_1 C
  have b2 := uI_2 C
  have b3 := uI_3 C
  have h4 : r = 0 ∨ r = 1 ∨ r = 2 ∨ r = 3 := by omega
  rcases h4 with rfl | rfl | rfl | rfl
  · obtain ⟨h1, h2⟩ := bs_0 f (fun j => rR (j : Int) C 4) (fun j => rI (j : Int) C 4)
    rw [h1, h2]
    simp only [show ((2 : Nat) : Int) = 2 from rfl, show ((3 : Nat) : Int) = 3 from rfl, show ((0 : Nat) : Int) = 0 from rfl, show ((1 : Nat) : Int) = 1 from rfl]
    rw [a0, a1, a2, a3, b0, b1, b2, b3]
    omega
  · obtain ⟨h1, h2⟩ := bs_1 f (fun j => rR (j : Int) C 4) (fun j => rI (j : Int) C 4)
    rw [h1, h2]
    simp only [show ((2 : Nat) : Int) = 2 from rfl, show ((3 : Nat) : Int) = 3 from rfl, show ((0 : Nat) : Int) = 0 from rfl, show ((1 : Nat) : Int) = 1 from rfl]
    rw [a0, a1, a2, a3, b0, b1, b2, b3]
    omega
  · obtain ⟨h1, h2⟩ := bs_2 f (fun j => rR (j : Int) C 4) (fun j => rI (j : Int) C 4)
    rw [h1, h2]
    simp only [show ((2 : Nat) : Int) = 2 from rfl, show ((3 : Nat) : Int) = 3 from rfl, show ((0 : Nat) : Int) = 0 from rfl, show ((1 : Nat) : Int) = 1 from rfl]
    rw [a0, a1, a2, a3, b0, b1, b2, b3]
    omega
  · obtain ⟨h1, h2⟩ := bs_3 f (fun j => rR (j : Int) C 4) (fun j => rI (j : Int) C 4)
    rw [h1, h2]
    simp only [show ((2 : Nat) : Int) = 2 from rfl, show ((3 : Nat) : Int) = 3 from rfl, show ((0 : Nat) : Int) = 0 from rfl, show ((1 : Nat) : Int) = 1 from rfl]
    rw [a0, a1, a2, a3, b0, b1, b2, b3]
    omega
def oc (C : Nat → Int) (r j : Nat) : Value := if j < r then .int .i64 (C j) else .int .i64 0
def ocs (C : Nat → Int) (r : Nat) : Array Value := #[oc C r 0, oc C r 1, oc C r 2, oc C r 3]
theorem oc_set (C : Nat → Int) (r : Nat) (hr : r < 4) : (ocs C r).setIfInBounds r (.int .i64 (C r)) = ocs C (r + 1) := by
  have h4 : r = 0 ∨ r = 1 ∨ r = 2 ∨ r = 3 := by omega
  rcases h4 with rfl | rfl | rfl | rfl <;> simp [ocs, oc]
structure OJ (w : World) (g : Nat) (f : Nat → Nat × Nat) (C : Nat → Int) (r : Nat) (wr : World) : Prop where
  s : Blk wr g 30 #[cx (f 0), cx (f 1), cx (f 2), cx (f 3)]
  z : Blk wr (g + 1) 23 #[.int .i64 0, .int .i64 0, .int .i64 0, .int .i64 0]
  o : Blk wr (g + 2) 23 (ocs C r)
  k_ : Keeps [] w wr
  hg : g = w.heap.size
theorem OJ.keeps {w wr w1 : World} {g r : Nat} {f : Nat → Nat × Nat} {C : Nat → Int} (h : OJ w g f C r wr) (hk : Keeps [] wr w1) : OJ w g f C r w1 :=
  ⟨h.s.keeps hk (by simp), h.z.keeps hk (by simp), h.o.keeps hk (by simp), h.k_.trans hk, h.hg⟩
theorem OJ.next {w wr : World} {g r : Nat} {f : Nat → Nat × Nat} {C : Nat → Int} (h : OJ w g f C r wr) (hr : r < 4) : OJ w g f C (r + 1) (wr.setCell ⟨g + 2, r, none⟩ (.int .i64 (C r))) :=
  ⟨h.s.far (by simp) _, h.z.far (by simp) _, by rw [← oc_set C r hr]; exact h.o.set_ r _, h.k_.setCell (by right; rw [h.hg]; simp) _, h.hg⟩
theorem oj_start (w : World) (f : Nat → Nat × Nat) (C : Nat → Int) : OJ w w.heap.size f C 0 (((w.alloc (.cells #[cx (f 0), cx (f 1), cx (f 2), cx (f 3)] 30)).alloc (.cells #[.int .i64 0, .int .i64 0, .int .i64 0, .int .i64 0] 23)).alloc (.cells #[.int .i64 0, .int .i64 0, .int .i64 0, .int .i64 0] 23)) := by
  refine ⟨((Blk.new _ _ _).alloc _).alloc _, ?_, ?_, (((Keeps.refl _ _).alloc _).alloc _).alloc _, rfl⟩
  · have := (Blk.new (w.alloc (.cells #[cx (f 0), cx (f 1), cx (f 2), cx (f 3)] 30)) 23 #[.int .i64 0, .int .i64 0, .int .i64 0, .int .i64 0]).alloc (.cells #[.int .i64 0, .int .i64 0, .int .i64 0, .int .i64 0] 23)
    rwa [World.size_alloc] at this
  · have := Blk.new ((w.alloc (.cells #[cx (f 0), cx (f 1), cx (f 2), cx (f 3)] 30)).alloc (.cells #[.int .i64 0, .int .i64 0, .int .i64 0, .int .i64 0] 23)) 23 #[.int .i64 0, .int .i64 0, .int .i64 0, .int .i64 0]
    rw [World.size_alloc, World.size_alloc] at this
    exact this
structure LJ (wo wr : World) (f : Nat → Nat × Nat) (U V : Nat → Int) (r m : Nat) (v : Value) : Prop where
  own : wr.ownsRow wo.heap.size 29 1 v m (cxv (bl f U V r m))
  k_ : Keeps [] wo wr
theorem turn_bq (f : Nat → Nat × Nat) (m r : Nat) (w : World) :
    Calls Try.prog 21 #[.complex .f64 (f m).1 (f m).2, .int .i64 (-(m : Int) * (r : Int))] w fun e w' => e = .returned (.complex .f64 (tn (bq m r) (f m)).1 (tn (bq m r) (f m)).2) ∧ w = w' :=
  turn_any (f m).1 (f m).2 (-(m : Int) * (r : Int)) w
theorem cxv_s (f : Nat → Nat × Nat) (U V : Nat → Int) (r m : Nat) : cxv (bl f U V r (m + 1)) = cxv (bl f U V r m) ++ [.complex .f64 (tn (bq m r) (f m)).1 (tn (bq m r) (f m)).2] := by
  rw [bl_s]; simp [cxv, bw]
theorem run_cint (x : Nat) (v : Int) (h : Wh x v) (hb : v.natAbs ≤ 100000000) (w : World) : (convert 44 3 (.float .f64 x)).run Try.prog w = .ok (.int .i64 v) w := by
  refine run_convert_float_int (P := Try.prog) w 44 3 .f64 .i64 x v (by kernel_rfl) (by kernel_rfl) ?_
  have : (FloatKind.f64.decode x).toInt .zero = some v := wh_int h (by omega)
  unfold floatToIntVal
  rw [this]
  simp only [IntKind.min, IntKind.max, IntKind.signed, IntKind.bits]
  rw [if_pos (by simp; omega)]
def IsBack (C : Nat → Int) (w : World) (e : Ending) (w' : World) : Prop := e = .returned (.tuple #[.agg #[.int .i64 (C 0), .int .i64 (C 1), .int .i64 (C 2), .int .i64 (C 3)], .bool true]) ∧ Keeps [] w w'
attribute [local irreducible] rR rI tn tz bq bl ph cs sn FloatKind.nearest
set_option maxRecDepth 100000 in
set_option maxHeartbeats 2000000 in
theorem back_any (f : Nat → Nat × Nat) (C : Nat → Int) (hC : ∀ j, 0 ≤ C j ∧ C j ≤ 600) (hf : ∀ j : Nat, j < 4 → wIs (f j).1 (f j).2 (rR (j : Int) C 4) (rI (j : Int) C 4)) (w : World) :
    Calls Try.prog 17 #[.agg #[.complex .f64 (f 0).1 (f 0).2, .complex .f64 (f 1).1 (f 1).2, .complex .f64 (f 2).1 (f 2).2, .complex .f64 (f 3).1 (f 3).2]] w (IsBack C w) := by
  obtain ⟨i0, hi0, hz0, hz1, hz2⟩ := info_parts cx_info
  have HI := Lib.hid (And.intro hi0 (And.intro hz0 (And.intro hz1 hz2)))
  clear hi0 hz0 hz1 hz2
  have HC := Lib.hid hC
  have HF := Lib.hid hf
  have HX := Lib.hid (idx4 f)
  have h0 := oj_start w f C
  clear hC hf
  obtain ⟨U, hU⟩ : ∃ U : Nat → Int, U = (fun j : Nat => rR (j : Int) C 4) := ⟨_, rfl⟩
  obtain ⟨V, hV⟩ : ∃ V : Nat → Int, V = (fun j : Nat => rI (j : Int) C 4) := ⟨_, rfl⟩
  have HW : Hid (∀ j r, j < 4 → isW (bw f U V r j)) := Lib.hid (fun j r hj => by
    have q1 := rR_bd (j : Int) C HC.out 4
    have q2 := rI_bd (j : Int) C HC.out 4
    subst hU hV
    exact wh_tn _ (bq_lt j r) _ _ _ _ (HF.out j hj) (by show (rR (j : Int) C 4).natAbs ≤ _; omega) (by show (rI (j : Int) C 4).natAbs ≤ _; omega))
  have HB : Hid (∀ r, r < 4 → sRe (bl f U V r 4) = 4 * C r ∧ sIm (bl f U V r 4) = 0) := Lib.hid (fun r hr => by subst hU hV; exact back_sum f C r hr)
  have HS := Lib.hid (fun V => same_any f C HC.out HF.out V)
  clear hU hV
  go_enter Try.func17, Try.ntmps17
  go_wp2_with fail
  generalize (((w.alloc (.cells #[.complex .f64 (f 0).1 (f 0).2, .complex .f64 (f 1).1 (f 1).2, .complex .f64 (f 2).1 (f 2).2, .complex .f64 (f 3).1 (f 3).2] 30)).alloc (.cells #[.int .i64 0, .int .i64 0, .int .i64 0, .int .i64 0] 23)).alloc (.cells #[.int .i64 0, .int .i64 0, .int .i64 0, .int .i64 0] 23)) = V0 at *
  generalize w.heap.size = g at *
  go_loopw [11] (fun i wr => ∃ r : Nat, r ≤ 4 ∧ i = .int .i64 r ∧ OJ w g f C r wr) (fun i _ => 4 - (intOf i).toNat)
  case atStart => exact ⟨0, by omega, rfl, h0⟩
  case round =>
    clear h0
    obtain ⟨r, hr, rfl, hJ⟩ := hrel
    by_cases hlt : r < 4
    · have HJ := Lib.hid hJ
      have hdk : decide ((r : Int) < 4) = true := by simp; omega
      have d0 : wr.cell? ⟨g, 0, none⟩ = some (.complex .f64 (f 0).1 (f 0).2) := hJ.s.cell 0
      have d1 : wr.cell? ⟨g, 1, none⟩ = some (.complex .f64 (f 1).1 (f 1).2) := hJ.s.cell 1
      have d2 : wr.cell? ⟨g, 2, none⟩ = some (.complex .f64 (f 2).1 (f 2).2) := hJ.s.cell 2
      have d3 : wr.cell? ⟨g, 3, none⟩ = some (.complex .f64 (f 3).1 (f 3).2) := hJ.s.cell 3
      clear hJ
      go_wp2_with fail
      clear d0 d1 d2 d3
      obtain ⟨wo, hwo⟩ : ∃ wo : World, wo = wr := ⟨_, rfl⟩
      rw [← hwo]
      rw [← hwo] at HJ
      clear hwo
      have hl0 : LJ wo wo f U V r 0 (.slice none 0 0) := ⟨⟨by rw [bl_0]; rfl, .inl ⟨rfl, rfl⟩⟩, Keeps.refl _ _⟩
      go_loopw [6, 15] (fun v i wr => ∃ (m : Nat) (a : Option Addr) (c : Nat), m ≤ 4 ∧ i = .int .i64 m ∧ v = .slice a m c ∧ LJ wo wr f U V r m (.slice a m c)) (fun _ i _ => 4 - (intOf i).toNat)
      case atStart => exact ⟨0, none, 0, by omega, rfl, rfl, hl0⟩
      case round =>
        clear hl0
        obtain ⟨m, a, c, hm, rfl, rfl, hL⟩ := hrel
        have HL := Lib.hid hL
        clear hL
        by_cases hlm : m < 4
        · have hx := HX.out m hlm
          have HTU := Lib.hid (fun w => turn_bq f m r w)
          have z0 : 0 ≤ (m : Int) * (r : Int) := Int.mul_nonneg (by omega) (by omega)
          have z1 : (m : Int) * (r : Int) ≤ 9 := by
            have h1 : (m : Int) * (r : Int) ≤ 3 * 3 := Int.mul_le_mul (by omega) (by omega) (by omega) (by omega)
            omega
          have z2 : -9 ≤ -(m : Int) * (r : Int) := by rw [Int.neg_mul]; omega
          have z3 : -(m : Int) * (r : Int) ≤ 0 := by rw [Int.neg_mul]; omega
          clear z0 z1
          have HXS := Lib.hid (cxv_s f U V r m)
          obtain ⟨tp, htp⟩ : ∃ tp, tn (bq m r) (f m) = tp := ⟨_, rfl⟩
          rw [htp] at HTU HXS
          clear htp
          have hown2 := HL.out.own.alloc (.cells #[.complex .f64 tp.1 tp.2] 29)
          have hrd := reads1 wr tp.1 tp.2
          have hz := HL.out.k_.size
          go_wp2_with fail
          refine (HTU.out _).mono ?_
          rintro e w1 ⟨rfl, rfl⟩
          go_wp2_with (at_builtin; refine wpList_append_any _ rfl (.tmp 19) (.tmp 26) _ rfl wo.heap.size 29 i0 _ 1 16 Try.underlying45 HI.out.1 HI.out.2.1 HI.out.2.2.1 HI.out.2.2.2 rfl (by decide) (.slice a m c) m _ rfl hown2 _ _ 1 1 [.complex .f64 tp.1 tp.2] rfl hrd (by simp [Value.oneCell']) (by simp only [maxLen]; omega) (by omega) (by simp; omega) ?_; intro v2 w2 hown3 hg3 hat3; obtain ⟨a2, c2, hv2⟩ := own_form hown3; subst hv2; rw [← HXS.out] at hown3)
          have hlt2 : ∀ b, (Value.slice a m c).ownBlock = some b → wo.heap.size ≤ b := fun b hb => (hown2.lt b hb).1
          have HN : Hid (LJ wo w2 f U V r (m + 1) (.slice a2 (m + 1) c2)) := Lib.hid ⟨hown3, HL.out.k_.next (((Keeps.refl _ wr).alloc _).grown hg3 (fun b hb => .inl (by rw [hb]; simp : b ∈ (Value.slice a m c).ownBlock.toList))) (fun b hb => .inr (hlt2 b (by simpa using hb)))⟩
          clear hown3 hg3 hat3 hlt2 hown2 hrd
          go_roundw
          case rel => exact ⟨m + 1, a2, c2, by omega, by go_num, rfl, HN.out⟩
          case measure => simp [intOf]; omega
        · obtain rfl : m = 4 := by omega
          have HSU := Lib.hid (sum_any a 4 c (bl f U V r 4) wr (fun p hp => by
            obtain ⟨j, hj, rfl⟩ := List.mem_map.1 (by unfold bl at hp; exact hp)
            exact HW.out j r (by simpa using hj)) (bl_len _ _ _ _ _) (by decide) (fun j p hp => by
            have hj : j < 4 := by have := (List.getElem?_eq_some_iff.1 hp).1; rw [bl_len] at this; exact this
            obtain ⟨g', cap, hv, _, _⟩ := HL.out.own.form (by decide)
            injection hv with e1 e2 e3
            subst e1
            refine ⟨g', rfl, ?_⟩
            rw [← add_off]
            refine HL.out.own.cells (g := g') rfl j _ ?_
            rw [cxv, List.getElem?_map, hp]
            rfl))
          obtain ⟨hb1, hb2⟩ := HB.out r hlt
          rw [hb1, hb2] at HSU
          have hcr := HC.out r
          have HJ2 := Lib.hid (HJ.out.keeps HL.out.k_)
          have hof := HJ2.out.o.frozen
          have hoc : wr.cell? ⟨g + 2, r, none⟩ = some (.int .i64 0) := by
            rw [HJ2.out.o.cell r]
            have h4 : r = 0 ∨ r = 1 ∨ r = 2 ∨ r = 3 := by omega
            rcases h4 with rfl | rfl | rfl | rfl <;> simp [ocs, oc]
          have HNX := Lib.hid (HJ2.out.next hlt)
          clear hb1 hb2
          generalize C r = cr at *
          go_wp2_with fail
          refine HSU.out.mono ?_
          rintro e w1 ⟨x, y, rfl, hxy, rfl⟩
          have hne := neq_of hxy.2 wh_p0 (by decide)
          have hci := run_cint x (4 * cr) hxy.1 (by omega)
          have HBO := Lib.hid (fun w => both_of x y _ _ hxy.1 hxy.2 (by omega) (by decide) w)
          clear hxy
          have hn0 : 0 ≤ 4 * cr := by omega
          have hn1 : 4 * cr ≤ 2400 := by omega
          have hn4 : (4 * cr) % 4 = 0 := by omega
          have hnq : (4 * cr) / 4 = cr := by omega
          go_wp2_with fail
          refine (HBO.out _).mono ?_
          rintro e w1 ⟨rfl, rfl⟩
          go_wp2_with fail
          go_roundw
          case rel => exact ⟨r + 1, by omega, by go_num, HNX.out⟩
          case measure => simp [intOf]; omega
    · obtain rfl : r = 4 := by omega
      have HJ := Lib.hid hJ
      have d0 : wr.cell? ⟨g, 0, none⟩ = some (.complex .f64 (f 0).1 (f 0).2) := hJ.s.cell 0
      have d1 : wr.cell? ⟨g, 1, none⟩ = some (.complex .f64 (f 1).1 (f 1).2) := hJ.s.cell 1
      have d2 : wr.cell? ⟨g, 2, none⟩ = some (.complex .f64 (f 2).1 (f 2).2) := hJ.s.cell 2
      have d3 : wr.cell? ⟨g, 3, none⟩ = some (.complex .f64 (f 3).1 (f 3).2) := hJ.s.cell 3
      have e0 : wr.cell? ⟨g + 2, 0, none⟩ = some (.int .i64 (C 0)) := hJ.o.cell 0
      have e1 : wr.cell? ⟨g + 2, 1, none⟩ = some (.int .i64 (C 1)) := hJ.o.cell 1
      have e2 : wr.cell? ⟨g + 2, 2, none⟩ = some (.int .i64 (C 2)) := hJ.o.cell 2
      have e3 : wr.cell? ⟨g + 2, 3, none⟩ = some (.int .i64 (C 3)) := hJ.o.cell 3
      clear hJ
      go_wp2_with fail
      refine (HS.out _).mono ?_
      rintro e w1 ⟨rfl, hK1⟩
      have hJ1 := HJ.out.keeps hK1
      have HJ1 := Lib.hid hJ1
      have e0 : w1.cell? ⟨g + 2, 0, none⟩ = some (.int .i64 (C 0)) := hJ1.o.cell 0
      have e1 : w1.cell? ⟨g + 2, 1, none⟩ = some (.int .i64 (C 1)) := hJ1.o.cell 1
      have e2 : w1.cell? ⟨g + 2, 2, none⟩ = some (.int .i64 (C 2)) := hJ1.o.cell 2
      have e3 : w1.cell? ⟨g + 2, 3, none⟩ = some (.int .i64 (C 3)) := hJ1.o.cell 3
      have z0 : w1.cell? ⟨g + 1, 0, none⟩ = some (.int .i64 0) := hJ1.z.cell 0
      have z1 : w1.cell? ⟨g + 1, 1, none⟩ = some (.int .i64 0) := hJ1.z.cell 1
      have z2 : w1.cell? ⟨g + 1, 2, none⟩ = some (.int .i64 0) := hJ1.z.cell 2
      have z3 : w1.cell? ⟨g + 1, 3, none⟩ = some (.int .i64 0) := hJ1.z.cell 3
      have zf := hJ1.z.frozen
      clear hJ1 hK1
      go_wp2_with fail
      have hz := HJ1.out.hg
      refine bodyPost_ret (v := .tuple #[.agg #[.int .i64 (C 0), .int .i64 (C 1), .int .i64 (C 2), .int .i64 (C 3)], .bool true]) (by simp [results, Try.results17, go_sem, z0, z1, z2, z3]) rfl ⟨rfl, ?_⟩
      exact (((HJ1.out.k_.setCell (by right; simp; omega) _).setCell (by right; simp; omega) _).setCell (by right; simp; omega) _).setCell (by right; simp; omega) _
end Be
end Go.Proofs.Ytbkljphhgghjdaa
