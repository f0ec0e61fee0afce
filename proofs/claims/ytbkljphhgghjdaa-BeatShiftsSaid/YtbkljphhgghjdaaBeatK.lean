/- Whether a spectrum is that of parts: it is. -/
import Derived.Test.YtbkljphhgghjdaaBeatJ
namespace Go.Proofs.Ytbkljphhgghjdaa
open Go.RowKit
namespace Be
open Sm Ph Fl
theorem ph_km (k m : Nat) (hk : k < 4) (hm : m < 4) : ((k : Int) * (m : Int) % 4).toNat = ph (k : Int) (m : Int) := by
  unfold ph
  rw [show (k : Int) % 4 = k from by omega, show (m : Int) % 4 = m from by omega]
theorem turn_km (k m : Nat) (hk : k < 4) (hm : m < 4) (w : World) :
    Calls Try.prog 21 #[.complex .f64 4607182418800017408 0, .int .i64 ((k : Int) * (m : Int))] w fun e w' => e = .returned (.complex .f64 (un (ph (k : Int) (m : Int))).1 (un (ph (k : Int) (m : Int))).2) ∧ w = w' := by
  have := turn_any 4607182418800017408 0 ((k : Int) * (m : Int)) w
  rw [ph_km k m hk hm] at this
  exact this
theorem add2 (g : Nat) (w : World) (T : TypeId) (p q : Nat × Nat) (hg : w.heap.size = g) (k : Nat) (r : Cw) (u v : Int × Int) (h : [(p, u), (q, v)][k]? = some r) :
    ∃ g', some (⟨g, 0, none⟩ : Addr) = some ⟨g', 0, none⟩ ∧ (w.alloc (.cells #[.complex .f64 p.1 p.2, .complex .f64 q.1 q.2] T)).cell? ⟨g', k, none⟩ = some (.complex .f64 r.1.1 r.1.2) := by
  subst hg
  refine ⟨_, rfl, ?_⟩
  have hb := (Blk.new w T #[.complex .f64 p.1 p.2, .complex .f64 q.1 q.2]).cell k
  rw [hb]
  have hk : k < 2 := by
    rcases Nat.lt_or_ge k 2 with h1 | h1
    · exact h1
    · rw [List.getElem?_eq_none (by simp; omega)] at h; cases h
  have h2 : k = 0 ∨ k = 1 := by omega
  rcases h2 with rfl | rfl <;> simp at h <;> subst h <;> rfl
/-- A number and another one together, as the walk lays them. -/
theorem sum2 (p q : Nat × Nat) (u v : Int × Int) (hp : isW (p, u)) (hq : isW (q, v)) (w : World) :
    Calls Try.prog 22 #[.slice (some ⟨w.heap.size, 0, none⟩) 2 2] (w.alloc (.cells #[.complex .f64 p.1 p.2, .complex .f64 q.1 q.2] 29)) (IsSum (u.1 + v.1) (u.2 + v.2) (w.alloc (.cells #[.complex .f64 p.1 p.2, .complex .f64 q.1 q.2] 29))) := by
  have h := sum_any (some ⟨w.heap.size, 0, none⟩) 2 2 [(p, u), (q, v)] (w.alloc (.cells #[.complex .f64 p.1 p.2, .complex .f64 q.1 q.2] 29)) (fun r hr => by
    simp at hr
    rcases hr with rfl | rfl
    · exact hp
    · exact hq) rfl (by decide) (fun k r hr => add2 _ w _ p q rfl k r u v hr)
  simp only [sRe, sIm, Int.add_zero] at h
  exact h
theorem rR_s (k : Int) (C : Nat → Int) (m : Nat) : rR k C (m + 1) = rR k C m + (C m * cs (ph k m) - 0 * sn (ph k m)) := by
  simp only [rR]; rw [Int.mul_comm (C m)]; omega
theorem rI_s (k : Int) (C : Nat → Int) (m : Nat) : rI k C (m + 1) = rI k C m + (C m * sn (ph k m) + 0 * cs (ph k m)) := by
  simp only [rI]; rw [Int.mul_comm (C m)]; omega
theorem neq_of {x y : Nat} {v : Int} (h1 : Wh x v) (h2 : Wh y v) (hv : v.natAbs < 2 ^ 53) : (FloatKind.f64.format.order x y != some .eq) = false := by
  have := eq_of h1 h2 hv
  simpa [bne] using this
attribute [local irreducible] rR rI un ph cs sn FloatKind.nearest
set_option maxRecDepth 100000 in
set_option maxHeartbeats 2000000 in
theorem same_any (f : Nat → Nat × Nat) (C : Nat → Int) (hC : ∀ j, 0 ≤ C j ∧ C j ≤ 600) (hf : ∀ j : Nat, j < 4 → wIs (f j).1 (f j).2 (rR (j : Int) C 4) (rI (j : Int) C 4)) (w : World) :
    Calls Try.prog 24 #[.agg #[.complex .f64 (f 0).1 (f 0).2, .complex .f64 (f 1).1 (f 1).2, .complex .f64 (f 2).1 (f 2).2, .complex .f64 (f 3).1 (f 3).2], .agg #[.int .i64 (C 0), .int .i64 (C 1), .int .i64 (C 2), .int .i64 (C 3)]] w (IsTrue w) := by
  have HC := Lib.hid hC
  have HF := Lib.hid hf
  have HX := Lib.hid (idx4 f)
  have HY := Lib.hid (idx4i C)
  have hcv := run_convn
  clear hC hf
  have hB2 := Blk.new (w.alloc (.cells #[cx (f 0), cx (f 1), cx (f 2), cx (f 3)] 30)) 23 #[.int .i64 (C 0), .int .i64 (C 1), .int .i64 (C 2), .int .i64 (C 3)]
  rw [World.size_alloc] at hB2
  have hK : Keeps [] w ((w.alloc (.cells #[cx (f 0), cx (f 1), cx (f 2), cx (f 3)] 30)).alloc (.cells #[.int .i64 (C 0), .int .i64 (C 1), .int .i64 (C 2), .int .i64 (C 3)] 23)) := ((Keeps.refl _ _).alloc _).alloc _
  have H12 := Lib.hid (And.intro hB2 hK)
  clear hB2 hK
  go_enter Try.func24, Try.ntmps24
  go_wp2_with fail
  generalize ((w.alloc (.cells #[.complex .f64 (f 0).1 (f 0).2, .complex .f64 (f 1).1 (f 1).2, .complex .f64 (f 2).1 (f 2).2, .complex .f64 (f 3).1 (f 3).2] 30)).alloc (.cells #[.int .i64 (C 0), .int .i64 (C 1), .int .i64 (C 2), .int .i64 (C 3)] 23)) = V at *
  generalize w.heap.size = g at *
  go_loopw [11] (fun i wr => ∃ k : Nat, k ≤ 4 ∧ i = .int .i64 k ∧ Keeps [] V wr) (fun i _ => 4 - (intOf i).toNat)
  case atStart => exact ⟨0, by omega, rfl, Keeps.refl _ _⟩
  case round =>
    obtain ⟨k, hk, rfl, hK⟩ := hrel
    have HK := Lib.hid hK
    clear hK
    by_cases hlt : k < 4
    · have hD := H12.out.1.keeps HK.out (by simp)
      have d0 : wr.cell? ⟨g + 1, 0, none⟩ = some (.int .i64 (C 0)) := hD.cell 0
      have d1 : wr.cell? ⟨g + 1, 1, none⟩ = some (.int .i64 (C 1)) := hD.cell 1
      have d2 : wr.cell? ⟨g + 1, 2, none⟩ = some (.int .i64 (C 2)) := hD.cell 2
      have d3 : wr.cell? ⟨g + 1, 3, none⟩ = some (.int .i64 (C 3)) := hD.cell 3
      have hx := HX.out k hlt
      have hdk : decide ((k : Int) < 4) = true := by simp; omega
      clear hD
      go_wp2_with fail
      clear d0 d1 d2 d3 hx
      obtain ⟨wo, hwo⟩ : ∃ wo : World, wo = wr := ⟨_, rfl⟩
      rw [← hwo]
      rw [← hwo] at HK
      clear hwo
      have h0 : wIs 0 0 (rR (k : Int) C 0) (rI (k : Int) C 0) := by unfold rR rI; exact ⟨wh_p0, wh_p0⟩
      go_loopw [7, 16] (fun z i wr => ∃ (m x y : Nat), m ≤ 4 ∧ i = .int .i64 m ∧ z = .complex .f64 x y ∧ wIs x y (rR (k : Int) C m) (rI (k : Int) C m) ∧ Keeps [] wo wr) (fun _ i _ => 4 - (intOf i).toNat)
      case atStart => exact ⟨0, 0, 0, by omega, rfl, rfl, h0, Keeps.refl _ _⟩
      case round =>
        clear h0
        obtain ⟨m, x, y, hm, rfl, rfl, hw, hK2⟩ := hrel
        have HK2 := Lib.hid hK2
        clear hK2
        have q1 := rR_bd (k : Int) C HC.out m
        have q2 := rI_bd (k : Int) C HC.out m
        by_cases hlm : m < 4
        · have hy := HY.out m hlm
          have hcb := HC.out m
          obtain ⟨x2, y2, HT, hw2⟩ := times_whole (FloatKind.f64.nearest (C m)) 0 (un (ph k m)).1 (un (ph k m)).2 (C m) 0 (cs (ph k m)) (sn (ph k m)) ⟨wh_near _, wh_p0⟩ (wh_un _ (ph_lt _ _)) (by omega) (by decide) (by have := cs_bd (ph k m); omega) (by have := sn_bd (ph k m); omega)
          have hb1 := r_bd 0 _ (cs_bd (ph (k : Int) (m : Int))) (C m) hcb.1 hcb.2
          have hb2 := r_bd 0 _ (sn_bd (ph (k : Int) (m : Int))) (C m) hcb.1 hcb.2
          rw [Int.mul_comm] at hb1 hb2
          have HS := Lib.hid (fun w => sum2 (x, y) (x2, y2) (rR (k : Int) C m, rI (k : Int) C m) (C m * cs (ph k m) - 0 * sn (ph k m), C m * sn (ph k m) + 0 * cs (ph k m)) ⟨hw.1, hw.2, by show (rR (k : Int) C m).natAbs ≤ _; omega, by show (rI (k : Int) C m).natAbs ≤ _; omega⟩ ⟨hw2.1, hw2.2, by show (C m * cs (ph k m) - 0 * sn (ph k m)).natAbs ≤ _; rw [Int.zero_mul]; omega, by show (C m * sn (ph k m) + 0 * cs (ph k m)).natAbs ≤ _; rw [Int.zero_mul]; omega⟩ w)
          simp only [] at HS
          rw [← rR_s, ← rI_s] at HS
          have HT1 := Lib.hid HT
          have HTU := Lib.hid (fun w => turn_km k m hlt hlm w)
          have z0 : 0 ≤ (k : Int) * (m : Int) := Int.mul_nonneg (by omega) (by omega)
          have z1 : (k : Int) * (m : Int) ≤ 9 := by
            have h1 : (k : Int) * (m : Int) ≤ 3 * 3 := Int.mul_le_mul (by omega) (by omega) (by omega) (by omega)
            omega
          clear HT hw hw2 hb1 hb2 q1 q2 hcb
          generalize C m = cm at *
          generalize un (ph (k : Int) (m : Int)) = uu at *
          go_wp2_with fail
          refine (HTU.out _).mono ?_
          rintro e w1 ⟨rfl, rfl⟩
          go_wp2_with fail
          refine (HT1.out _).mono ?_
          rintro e w1 ⟨rfl, rfl⟩
          go_wp2_with fail
          refine (HS.out _).mono ?_
          rintro e w2 ⟨x3, y3, rfl, hw3, rfl⟩
          have HW3 := Lib.hid hw3
          clear hw3
          go_wp2_with fail
          go_roundw
          case rel => exact ⟨m + 1, x3, y3, by omega, by go_num, rfl, HW3.out, HK2.out.alloc _⟩
          case measure => simp [intOf]; omega
        · obtain rfl : m = 4 := by omega
          have hfk := HF.out k hlt
          have n1 := eq_of hfk.1 hw.1 (by omega)
          have n2 := eq_of hfk.2 hw.2 (by omega)
          clear hw q1 q2 hfk
          go_wp2_with fail
          go_roundw
          case rel => exact ⟨k + 1, by omega, by go_num, HK.out.trans HK2.out⟩
          case measure => simp [intOf]; omega
    · obtain rfl : k = 4 := by omega
      go_wp2_with fail
      go_ret
      exact ⟨rfl, H12.out.2.trans HK.out⟩
end Be
end Go.Proofs.Ytbkljphhgghjdaa
