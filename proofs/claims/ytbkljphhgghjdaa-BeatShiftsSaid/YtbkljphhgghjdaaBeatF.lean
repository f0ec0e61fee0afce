/- The document's parts, pulses and spectra. -/
import Derived.Test.YtbkljphhgghjdaaBeatE
namespace Go.Proofs.Ytbkljphhgghjdaa
open Go.RowKit
namespace Be
open Sm Ph Fl
attribute [local irreducible] cnt
theorem PJ.put {w : World} {g : Nat} {pre : List Int} {wr : World} (h : PJ w g pre wr) (t : Int) (k : Nat) (hk : k < 4) (hm : t % 4 = (k : Int)) : PJ w g (pre ++ [t]) (wr.setCell ⟨g + 1, k, none⟩ (.int .i64 (cnt (k : Int) pre + 1))) :=
  ⟨by rw [← pcells_hit pre t k hk hm]; exact h.o.set_ k _, h.r.far (by simp) _, h.k.setCell (by right; rw [h.hg]; simp) _, h.hg⟩
set_option maxRecDepth 100000 in
set_option maxHeartbeats 1000000 in
theorem rparts_any (a : Option Addr) (len cap : Nat) (zs : List Int) (w : World) (h : Ticks w a len zs) :
    Calls Try.prog 6 #[.slice a len cap] w (IsParts (nn zs) w) := by
  have h0 := pj_start w
  have HT := Lib.hid h
  have hlen := h.few
  clear h
  go_enter Try.func6, Try.ntmps6
  go_wp2_with fail
  generalize ((w.alloc (.cells #[.int .i64 0, .int .i64 0, .int .i64 0, .int .i64 0] 23)).alloc (.cells #[.int .i64 0, .int .i64 0, .int .i64 0, .int .i64 0] 23)) = V at *
  generalize hg : w.heap.size = g at *
  have HG := Lib.hid hg
  clear hg
  go_loopw [4] (fun i wr => ∃ k : Nat, k ≤ len ∧ i = .int .i64 k ∧ PJ w g (nn (zs.take k)) wr) (fun i _ => len - (intOf i).toNat)
  case atStart => exact ⟨0, by omega, rfl, h0⟩
  case round =>
    clear h0
    obtain ⟨k, hk, rfl, hJ⟩ := hrel
    by_cases hlt : k < len
    · obtain ⟨b, off, rfl, hc⟩ := HT.out.at_ hJ.k hlt
      have hsn := take_nth zs k (by rw [HT.out.len_]; exact hlt)
      have hfew : (nn (zs.take k)).length ≤ 600 := by have := nn_len (zs.take k); simp at this; omega
      generalize zs.getD k 0 = t at *
      by_cases ht : 0 ≤ t
      · have hnn := nn_hit (zs.take k) t ht
        rw [← hsn] at hnn
        have HNN := Lib.hid hnn
        have HJ := Lib.hid hJ
        have hf := hJ.o.frozen
        clear hsn hnn
        have h4 : t % 4 = 0 ∨ t % 4 = 1 ∨ t % 4 = 2 ∨ t % 4 = 3 := by omega
        rcases h4 with h4 | h4 | h4 | h4
        · have bd := cnt_bd 0 (nn (zs.take k))
          have c : wr.cell? ⟨g + 1, 0, none⟩ = some (.int .i64 (cnt 0 (nn (zs.take k)))) := hJ.o.cell 0
          have HS := Lib.hid (HJ.out.put t 0 (by decide) h4)
          clear hJ
          obtain ⟨b0, b1⟩ := bd
          have b2 : cnt 0 (nn (zs.take k)) ≤ 600 := by omega
          clear b1
          rw [show ((0 : Nat) : Int) = 0 from rfl] at HS
          generalize cnt 0 (nn (zs.take k)) = n at *
          go_wp2_with fail
          go_roundw
          case rel => exact ⟨k + 1, by omega, by go_num, by rw [HNN.out]; exact HS.out⟩
          case measure => simp [intOf]; omega
        · have bd := cnt_bd 1 (nn (zs.take k))
          have c : wr.cell? ⟨g + 1, 1, none⟩ = some (.int .i64 (cnt 1 (nn (zs.take k)))) := hJ.o.cell 1
          have HS := Lib.hid (HJ.out.put t 1 (by decide) h4)
          clear hJ
          obtain ⟨b0, b1⟩ := bd
          have b2 : cnt 1 (nn (zs.take k)) ≤ 600 := by omega
          clear b1
          rw [show ((1 : Nat) : Int) = 1 from rfl] at HS
          generalize cnt 1 (nn (zs.take k)) = n at *
          go_wp2_with fail
          go_roundw
          case rel => exact ⟨k + 1, by omega, by go_num, by rw [HNN.out]; exact HS.out⟩
          case measure => simp [intOf]; omega
        · have bd := cnt_bd 2 (nn (zs.take k))
          have c : wr.cell? ⟨g + 1, 2, none⟩ = some (.int .i64 (cnt 2 (nn (zs.take k)))) := hJ.o.cell 2
          have HS := Lib.hid (HJ.out.put t 2 (by decide) h4)
          clear hJ
          obtain ⟨b0, b1⟩ := bd
          have b2 : cnt 2 (nn (zs.take k)) ≤ 600 := by omega
          clear b1
          rw [show ((2 : Nat) : Int) = 2 from rfl] at HS
          generalize cnt 2 (nn (zs.take k)) = n at *
          go_wp2_with fail
          go_roundw
          case rel => exact ⟨k + 1, by omega, by go_num, by rw [HNN.out]; exact HS.out⟩
          case measure => simp [intOf]; omega
        · have bd := cnt_bd 3 (nn (zs.take k))
          have c : wr.cell? ⟨g + 1, 3, none⟩ = some (.int .i64 (cnt 3 (nn (zs.take k)))) := hJ.o.cell 3
          have HS := Lib.hid (HJ.out.put t 3 (by decide) h4)
          clear hJ
          obtain ⟨b0, b1⟩ := bd
          have b2 : cnt 3 (nn (zs.take k)) ≤ 600 := by omega
          clear b1
          rw [show ((3 : Nat) : Int) = 3 from rfl] at HS
          generalize cnt 3 (nn (zs.take k)) = n at *
          go_wp2_with fail
          go_roundw
          case rel => exact ⟨k + 1, by omega, by go_num, by rw [HNN.out]; exact HS.out⟩
          case measure => simp [intOf]; omega
      · have hnn := nn_miss (zs.take k) t ht
        rw [← hsn] at hnn
        have HNN := Lib.hid hnn
        have HJ := Lib.hid hJ
        clear hsn hnn hJ
        go_wp2_with fail
        go_roundw
        case rel => exact ⟨k + 1, by omega, by go_num, by rw [HNN.out]; exact HJ.out⟩
        case measure => simp [intOf]; omega
    · obtain rfl : k = len := by omega
      rw [List.take_of_length_le (by rw [HT.out.len_]; exact Nat.le_refl _)] at hJ
      have HJ := Lib.hid hJ
      have hf := hJ.r.frozen
      have hf1 := hJ.o.frozen
      have c0 := hJ.o.cell 0
      have c1 := hJ.o.cell 1
      have c2 := hJ.o.cell 2
      have c3 := hJ.o.cell 3
      have d0 := hJ.r.cell 0
      have d1 := hJ.r.cell 1
      have d2 := hJ.r.cell 2
      have d3 := hJ.r.cell 3
      simp [pcells] at c0 c1 c2 c3 d0 d1 d2 d3
      clear hJ
      go_wp2_with fail
      have hz := HG.out
      refine bodyPost_ret (v := .agg #[.int .i64 (cnt 0 (nn zs)), .int .i64 (cnt 1 (nn zs)), .int .i64 (cnt 2 (nn zs)), .int .i64 (cnt 3 (nn zs))]) (by simp [results, Try.results6, go_sem, d0, d1, d2, d3]) rfl ⟨rfl, ?_⟩
      exact (((HJ.out.k.setCell (by right; simp; omega) _).setCell (by right; simp; omega) _).setCell (by right; simp; omega) _).setCell (by right; simp; omega) _
/-- A pulse of parts, the first r of them. -/
def rR (k : Int) (P : Nat → Int) : Nat → Int
  | 0 => 0
  | r + 1 => rR k P r + cs (ph k r) * P r
def rI (k : Int) (P : Nat → Int) : Nat → Int
  | 0 => 0
  | r + 1 => rI k P r + sn (ph k r) * P r
theorem r_bd (f : Nat) (x : Int) (h : -1 ≤ x ∧ x ≤ 1) (p : Int) (h0 : 0 ≤ p) (h1 : p ≤ 600) : -600 ≤ x * p ∧ x * p ≤ 600 := by
  have : x = -1 ∨ x = 0 ∨ x = 1 := by omega
  rcases this with rfl | rfl | rfl <;> omega
theorem rR_bd (k : Int) (P : Nat → Int) (h : ∀ j, 0 ≤ P j ∧ P j ≤ 600) (r : Nat) : -(600 * (r : Int)) ≤ rR k P r ∧ rR k P r ≤ 600 * r := by
  induction r with
  | zero => simp [rR]
  | succ r ih =>
    have := r_bd 0 _ (cs_bd (ph k r)) (P r) (h r).1 (h r).2
    simp only [rR]
    omega
theorem rI_bd (k : Int) (P : Nat → Int) (h : ∀ j, 0 ≤ P j ∧ P j ≤ 600) (r : Nat) : -(600 * (r : Int)) ≤ rI k P r ∧ rI k P r ≤ 600 * r := by
  induction r with
  | zero => simp [rI]
  | succ r ih =>
    have := r_bd 0 _ (sn_bd (ph k r)) (P r) (h r).1 (h r).2
    simp only [rI]
    omega
def pagg (P : Nat → Int) : Array Value := #[.int .i64 (P 0), .int .i64 (P 1), .int .i64 (P 2), .int .i64 (P 3)]
theorem r_next (k : Int) (P : Nat → Int) (r m : Nat) (hm : ph k r = m) :
    rR k P (r + 1) = (if m = 0 then rR k P r + P r else if m = 2 then rR k P r - P r else rR k P r) ∧ rI k P (r + 1) = (if m = 1 then rI k P r + P r else if m = 3 then rI k P r - P r else rI k P r) := by
  simp only [rR, rI, hm, cs, sn]
  constructor
  · split
    · omega
    · split <;> omega
  · split
    · omega
    · split <;> omega
theorem ph_num (k n : Int) (r : Nat) (m : Nat) (hn : n = k % 4) (hr : r < 4) (hm : ph k r = m) : n * (r : Int) % 4 = (m : Int) := by
  subst hn
  unfold ph at hm
  have h0 : 0 ≤ k % 4 * (r : Int) := Int.mul_nonneg (by omega) (by omega)
  rw [show (r : Int) % 4 = r from by omega] at hm
  omega
set_option maxRecDepth 100000 in
set_option maxHeartbeats 1000000 in
theorem rpulse_any (P : Nat → Int) (hP : ∀ j, 0 ≤ P j ∧ P j ≤ 600) (k : Int) (w : World) :
    Calls Try.prog 7 #[.agg #[.int .i64 (P 0), .int .i64 (P 1), .int .i64 (P 2), .int .i64 (P 3)], .int .i64 k] w fun e w' => e = .returned (.tuple #[.int .i64 (rR k P 4), .int .i64 (rI k P 4)]) ∧ Keeps [] w w' := by
  have HP := Lib.hid hP
  clear hP
  obtain ⟨n0, hq⟩ : ∃ n0, k.tmod 4 = n0 := ⟨_, rfl⟩
  have hb : -3 ≤ n0 ∧ n0 ≤ 3 ∧ (n0 < 0 → n0 + 4 = k % 4) ∧ (0 ≤ n0 → n0 = k % 4) := by
    subst hq
    rcases Int.le_total 0 k with h | h
    · rw [Int.tmod_eq_emod_of_nonneg h]; omega
    · have : k.tmod 4 = -((-k) % 4) := by rw [← Int.tmod_eq_emod_of_nonneg (by omega), Int.neg_tmod, Int.neg_neg]
      omega
  obtain ⟨b1, b2, b3, b4⟩ := hb
  have HB := Blk.new w 23 (pagg P)
  have HB1 := Lib.hid HB
  have cf := HB.frozen
  have hk1 : Keeps [] w (w.alloc (.cells (pagg P) 23)) := (Keeps.refl _ _).alloc _
  have HK := Lib.hid hk1
  clear HB hk1
  by_cases hneg : n0 < 0
  · have hn := b3 hneg
    have HN : Hid (n0 + 4 = k % 4) := Lib.hid hn
    have hn0 : 0 ≤ n0 + 4 := by omega
    have hn3 : n0 + 4 ≤ 3 := by omega
    clear b3 b4 hn
    go_enter Try.func7, Try.ntmps7
    go_wp2_with fail
    clear hq
    have HV := HB1
    unfold pagg at HV
    have HKV := HK
    unfold pagg at HKV
    generalize (w.alloc (.cells #[.int .i64 (P 0), .int .i64 (P 1), .int .i64 (P 2), .int .i64 (P 3)] 23)) = V at *
    go_loop [7, 8, 9] (fun x y i => ∃ r : Nat, r ≤ 4 ∧ i = .int .i64 r ∧ x = .int .i64 (rR k P r) ∧ y = .int .i64 (rI k P r)) (fun _ _ i => 4 - (intOf i).toNat)
    case atStart => exact ⟨0, by omega, rfl, rfl, rfl⟩
    case round =>
      obtain ⟨r, hr, rfl, rfl, rfl⟩ := hrel
      by_cases hlt : r < 4
      · have hcell : V.cell? ⟨w.heap.size, r, none⟩ = some (.int .i64 (P r)) := by
          rw [HV.out.cell r]
          have h4 : r = 0 ∨ r = 1 ∨ r = 2 ∨ r = 3 := by omega
          rcases h4 with rfl | rfl | rfl | rfl <;> rfl
        obtain ⟨q0, q1⟩ := rR_bd k P HP.out r
        obtain ⟨q2, q3⟩ := rI_bd k P HP.out r
        obtain ⟨q4, q5⟩ := HP.out r
        have hz0 : 0 ≤ (n0 + 4) * (r : Int) := Int.mul_nonneg hn0 (by omega)
        have hz1 : (n0 + 4) * (r : Int) ≤ 9 := by
          have h1 : (n0 + 4) * (r : Int) ≤ 3 * 3 := Int.mul_le_mul hn3 (by omega) (by omega) (by omega)
          omega
        obtain ⟨m, hm⟩ : ∃ m, ph k r = m := ⟨_, rfl⟩
        have hm4 : m = 0 ∨ m = 1 ∨ m = 2 ∨ m = 3 := by have := ph_lt k r; omega
        have hmod := ph_num k (n0 + 4) r m HN.out hlt hm
        obtain ⟨e1, e2⟩ := r_next k P r m hm
        have E1 := Lib.hid e1
        have E2 := Lib.hid e2
        clear e1 e2 hm
        generalize rR k P r = x at *
        generalize rI k P r = y at *
        generalize P r = p at *
        rcases hm4 with rfl | rfl | rfl | rfl
        all_goals
          go_wp2_with fail
          go_round
          case rel => exact ⟨r + 1, by omega, by go_num, by rw [E1.out]; simp, by rw [E2.out]; simp⟩
          case measure => simp [intOf]; omega
      · obtain rfl : r = 4 := by omega
        go_wp2_with fail
        go_ret2
        exact ⟨rfl, HKV.out⟩
  · have hn := b4 (by omega)
    have HN : Hid (n0 = k % 4) := Lib.hid hn
    have hn0 : 0 ≤ n0 := by omega
    have hn3 : n0 ≤ 3 := by omega
    clear b3 b4 hn
    go_enter Try.func7, Try.ntmps7
    go_wp2_with fail
    clear hq
    have HV := HB1
    unfold pagg at HV
    have HKV := HK
    unfold pagg at HKV
    generalize (w.alloc (.cells #[.int .i64 (P 0), .int .i64 (P 1), .int .i64 (P 2), .int .i64 (P 3)] 23)) = V at *
    go_loop [7, 8, 9] (fun x y i => ∃ r : Nat, r ≤ 4 ∧ i = .int .i64 r ∧ x = .int .i64 (rR k P r) ∧ y = .int .i64 (rI k P r)) (fun _ _ i => 4 - (intOf i).toNat)
    case atStart => exact ⟨0, by omega, rfl, rfl, rfl⟩
    case round =>
      obtain ⟨r, hr, rfl, rfl, rfl⟩ := hrel
      by_cases hlt : r < 4
      · have hcell : V.cell? ⟨w.heap.size, r, none⟩ = some (.int .i64 (P r)) := by
          rw [HV.out.cell r]
          have h4 : r = 0 ∨ r = 1 ∨ r = 2 ∨ r = 3 := by omega
          rcases h4 with rfl | rfl | rfl | rfl <;> rfl
        obtain ⟨q0, q1⟩ := rR_bd k P HP.out r
        obtain ⟨q2, q3⟩ := rI_bd k P HP.out r
        obtain ⟨q4, q5⟩ := HP.out r
        have hz0 : 0 ≤ (n0) * (r : Int) := Int.mul_nonneg hn0 (by omega)
        have hz1 : (n0) * (r : Int) ≤ 9 := by
          have h1 : (n0) * (r : Int) ≤ 3 * 3 := Int.mul_le_mul hn3 (by omega) (by omega) (by omega)
          omega
        obtain ⟨m, hm⟩ : ∃ m, ph k r = m := ⟨_, rfl⟩
        have hm4 : m = 0 ∨ m = 1 ∨ m = 2 ∨ m = 3 := by have := ph_lt k r; omega
        have hmod := ph_num k (n0) r m HN.out hlt hm
        obtain ⟨e1, e2⟩ := r_next k P r m hm
        have E1 := Lib.hid e1
        have E2 := Lib.hid e2
        clear e1 e2 hm
        generalize rR k P r = x at *
        generalize rI k P r = y at *
        generalize P r = p at *
        rcases hm4 with rfl | rfl | rfl | rfl
        all_goals
          go_wp2_with fail
          go_round
          case rel => exact ⟨r + 1, by omega, by go_num, by rw [E1.out]; simp, by rw [E2.out]; simp⟩
          case measure => simp [intOf]; omega
      · obtain rfl : r = 4 := by omega
        go_wp2_with fail
        go_ret2
        exact ⟨rfl, HKV.out⟩
end Be
end Go.Proofs.Ytbkljphhgghjdaa
