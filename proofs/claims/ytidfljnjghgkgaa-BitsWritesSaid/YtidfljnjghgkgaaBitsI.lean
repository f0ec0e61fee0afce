/- What steps write: the reference's Write. -/
import Derived.Test.YtidfljnjghgkgaaBitsH
import Derived.Test.YtidfljnjghgkgaaRecs
namespace Go.Proofs.Ytidfljnjghgkgaa
open Go.RowKit
attribute [local go_sem] Bw.and255 Bw.and65535
namespace Bi
open Sm Pc
abbrev stepK : List TypeDesc := [.int .i64, .int .i64, .string]
def encAt (R : Nat → Nat → Value) (i : Nat) : Option (List UInt8) := enc (numAt R i 0) (numAt R i 1) (strAt R i 2)
def wErr (R : Nat → Nat → Value) : Nat → Int
  | 0 => 0
  | k + 1 => if wErr R k = 0 then (if (encAt R k).isSome then 0 else 2) else wErr R k
def wOut (R : Nat → Nat → Value) : Nat → List UInt8
  | 0 => []
  | k + 1 => if wErr R k = 0 then wOut R k ++ (encAt R k).getD [] else wOut R k
theorem wErr_bad (R : Nat → Nat → Value) (k m : Nat) (h : wErr R k = 2) (hm : k ≤ m) : wErr R m = 2 := by
  induction m with
  | zero => obtain rfl : k = 0 := by omega
            exact h
  | succ m ih =>
    by_cases e : k = m + 1
    · rw [← e]; exact h
    · have := ih (by omega)
      simp only [wErr]
      rw [this]; simp
theorem wErr_or (R : Nat → Nat → Value) (k : Nat) : wErr R k = 0 ∨ wErr R k = 2 := by
  induction k with
  | zero => exact .inl rfl
  | succ k ih =>
    simp only [wErr]
    rcases ih with h | h
    · rw [h, if_pos rfl]; split
      · exact .inl rfl
      · exact .inr rfl
    · rw [h]; simp
theorem enc0_yes (n : Int) (t : ByteArray) (h : 0 ≤ n ∧ n ≤ 255) : enc 0 n t = some [UInt8.ofNat n.toNat] := by unfold enc; rw [if_pos rfl, if_pos h]
theorem enc0_no (n : Int) (t : ByteArray) (h : ¬ (0 ≤ n ∧ n ≤ 255)) : enc 0 n t = none := by unfold enc; rw [if_pos rfl, if_neg h]
theorem enc1_yes (n : Int) (t : ByteArray) (h : 0 ≤ n ∧ n ≤ 65535) : enc 1 n t = some (putL n) := by unfold enc; rw [if_neg (by decide), if_pos rfl, if_pos h]
theorem enc1_no (n : Int) (t : ByteArray) (h : ¬ (0 ≤ n ∧ n ≤ 65535)) : enc 1 n t = none := by unfold enc; rw [if_neg (by decide), if_pos rfl, if_neg h]
theorem enc2 (d n : Int) (t : ByteArray) (h0 : d ≠ 0) (h1 : d ≠ 1) : enc d n t = some t.data.toList := by unfold enc; rw [if_neg h0, if_neg h1]
theorem wOut_len (R : Nat → Nat → Value) (k : Nat) (h : ∀ i, i < k → (strAt R i 2).size ≤ 100) : (wOut R k).length ≤ 100 * k := by
  induction k with
  | zero => simp [wOut]
  | succ k ih =>
    have ih := ih fun i hi => h i (by omega)
    have hk := h k (by omega)
    simp only [wOut]
    split
    · rw [List.length_append]
      have : ((encAt R k).getD []).length ≤ 100 := by
        unfold encAt enc
        split
        · split <;> simp
        · split
          · split <;> simp [putL]
          · simpa using hk
      omega
    · omega
theorem wstep (R : Nat → Nat → Value) (k : Nat) (x : List UInt8) (he : wErr R k = 0) (h : encAt R k = some x) : wErr R (k + 1) = 0 ∧ wOut R (k + 1) = wOut R k ++ x := by
  simp only [wErr, wOut]
  rw [he, h]; simp
theorem wstep_bad (R : Nat → Nat → Value) (k : Nat) (he : wErr R k = 0) (h : encAt R k = none) : wErr R (k + 1) = 2 := by
  simp only [wErr]
  rw [he, h]; simp
theorem wErr_s (R : Nat → Nat → Value) (k : Nat) : wErr R (k + 1) = if wErr R k = 0 then (if (encAt R k).isSome then 0 else 2) else wErr R k := rfl
theorem wOut_s (R : Nat → Nat → Value) (k : Nat) : wOut R (k + 1) = if wErr R k = 0 then wOut R k ++ (encAt R k).getD [] else wOut R k := rfl
theorem encAt_s (R : Nat → Nat → Value) (k : Nat) : encAt R k = enc (numAt R k 0) (numAt R k 1) (strAt R k 2) := rfl
theorem w0 (R : Nat → Nat → Value) : wErr R 0 = 0 ∧ wOut R 0 = [] := ⟨rfl, rfl⟩
theorem one_byte (w : World) (x : Int) : (convert 43 9 (.slice (some ⟨w.heap.size, 0, none⟩) 1 1)).run Try.prog (w.alloc (.cells #[.int .u8 x] 5)) = .ok (.string (strOfNums [x])) (w.alloc (.cells #[.int .u8 x] 5)) := by
  refine run_convert_bytes_arg (P := Try.prog) _ 43 5 Try.underlying43 Try.underlying5 _ 0 1 1 [x] rfl ?_ 9 Try.underlying9
  intro i hi
  have : i = 0 := by omega
  subst this
  simp
def IsWrite (l : List UInt8) (n : Int) (w : World) (e : Ending) (w' : World) : Prop := ∃ r : ByteArray, e = .returned (.tuple #[.string r, .int .i64 n]) ∧ r.data.toList = l ∧ Below w.heap.size w w'
theorem app_data (r t : ByteArray) : (r ++ t).data.toList = r.data.toList ++ t.data.toList := by simp
attribute [local irreducible] wErr wOut encAt
set_option maxRecDepth 100000 in
set_option maxHeartbeats 1000000 in
theorem write_any (a : Option Addr) (len cap : Nat) (R : Nat → Nat → Value) (w : World) (hR : Recs w a len cap stepK R) (hlen : len ≤ 40) (hT : ∀ i, i < len → (strAt R i 2).size ≤ 100) :
    Calls Try.prog 29 #[.slice a len cap] w (IsWrite (wrOut (wErr R len) (wOut R len)) (wErr R len) w) := by
  have HR := Lib.hid hR
  have HT := Lib.hid hT
  have H0 := Lib.hid (w0 R)
  clear hR hT
  go_enter Try.func29, Try.ntmps29
  go_wp2
  go_loopw [4, 5, 6] (fun o i _ wr => ∃ (k : Nat) (r : ByteArray), k ≤ len ∧ i = .int .i64 k ∧ o = .string r ∧ Hid (wErr R k = 0 ∧ r.data.toList = wOut R k) ∧ r.size ≤ 100 * k ∧ Below w.heap.size w wr) (fun _ i _ _ => len - (intOf i).toNat)
  case atStart => exact ⟨0, _, by omega, rfl, rfl, ⟨H0.out.1, H0.out.2.symm⟩, by decide, Below.refl _ _⟩
  case round =>
    obtain ⟨k, r, hkl, rfl, rfl, hE, hrs, hb⟩ := hrel
    by_cases hlt : k < len
    · obtain ⟨b, off, rfl, hbl, hcells⟩ := HR.out.at_ (by omega) (by decide)
      obtain ⟨hc0, d0⟩ := hcells k hlt 0 _ rfl
      obtain ⟨hc1, d1⟩ := hcells k hlt 1 _ rfl
      obtain ⟨hc2, d2⟩ := hcells k hlt 2 _ rfl
      have hts := HT.out k hlt
      clear HR hcells H0
      obtain ⟨e0, v0⟩ := numAt_of d0
      obtain ⟨e1, v1⟩ := numAt_of d1
      obtain ⟨e2, v2⟩ := strAt_of d2
      rw [e0] at hc0
      rw [e1] at hc1
      rw [e2] at hc2
      have HEnc : Hid (encAt R k = enc (numAt R k 0) (numAt R k 1) (strAt R k 2)) := by unfold encAt; rfl
      clear d0 d1 d2 e0 e1 e2
      have g0 : wr.cell? ⟨b, off + k * 3, none⟩ = some (.int .i64 (numAt R k 0)) := (hb.cell (p := ⟨b, off + (k * 3 + 0), none⟩) hbl).trans hc0
      have g1 : wr.cell? ⟨b, off + k * 3 + 1, none⟩ = some (.int .i64 (numAt R k 1)) := (hb.cell (p := ⟨b, off + (k * 3 + 1), none⟩) hbl).trans hc1
      have g2 : wr.cell? ⟨b, off + k * 3 + 2, none⟩ = some (.string (strAt R k 2)) := (hb.cell (p := ⟨b, off + (k * 3 + 2), none⟩) hbl).trans hc2
      clear hc0 hc1 hc2
      have hsz := hb.size
      generalize numAt R k 0 = d at *
      generalize numAt R k 1 = n at *
      generalize strAt R k 2 = t at *
      by_cases h0 : d = 0
      · subst h0
        by_cases hn : 0 ≤ n ∧ n ≤ 255
        · have HX := Lib.hid (wstep R k _ hE.out.1 (HEnc.out.trans (enc0_yes n t hn)))
          obtain ⟨n0, n1⟩ := hn
          have hcv := one_byte (wr.alloc (.cells #[.int .i64 0, .int .i64 n, .string t] 35)) n
          rw [show (wr.alloc (.cells #[.int .i64 0, .int .i64 n, .string t] 35)).heap.size = wr.heap.size + 1 from by simp] at hcv
          have hsz1 : (strOfNums [n]).size = 1 := strOfNums_size [n]
          have HA : Hid ((r ++ strOfNums [n]).data.toList = wOut R (k + 1)) := by show _ = _; rw [HX.out.2, app_data, hE.out.2]; rfl
          go_wp2
          go_roundw
          case rel => exact ⟨k + 1, _, by omega, by go_num, rfl, ⟨HX.out.1, HA.out⟩, by simp [hsz1]; omega, (hb.alloc hsz _).alloc (by simp; omega) _⟩
          case measure => simp [intOf]; omega
        · have HX := Lib.hid (wErr_bad R _ len (wstep_bad R k hE.out.1 (HEnc.out.trans (enc0_no n t hn))) (by omega))
          by_cases n0 : n < 0
          · clear hn
            go_wp2
            go_ret2
            rw [HX.out]
            exact ⟨_, rfl, rfl, hb.alloc hsz _⟩
          · have n1 : 255 < n := by omega
            clear hn
            go_wp2
            go_ret2
            rw [HX.out]
            exact ⟨_, rfl, rfl, hb.alloc hsz _⟩
      by_cases h1 : d = 1
      · subst h1
        clear h0
        by_cases hn : 0 ≤ n ∧ n ≤ 65535
        · have HX := Lib.hid (wstep R k _ hE.out.1 (HEnc.out.trans (enc1_yes n t hn)))
          obtain ⟨n0, n1⟩ := hn
          have hpl : (putL n).length = 2 := rfl
          go_wp2_with fail
          refine (rput_any _ _).mono ?_
          rintro e w1 ⟨x, rfl, hx, hbx⟩
          have hxs : x.size = 2 := by rw [size_of x _ hx]; exact hpl
          have HA : Hid ((r ++ x).data.toList = wOut R (k + 1)) := by show _ = _; rw [HX.out.2, app_data, hE.out.2, hx]
          have hb' := (hb.alloc hsz (.cells #[.int .i64 1, .int .i64 n, .string t] 35)).trans (hbx.mono (by simp; omega))
          have HB := Lib.hid hb'
          clear hx hbx hb'
          go_wp2
          go_roundw
          case rel => exact ⟨k + 1, _, by omega, by go_num, rfl, ⟨HX.out.1, HA.out⟩, by simp [hxs]; omega, HB.out⟩
          case measure => simp [intOf]; omega
        · have HX := Lib.hid (wErr_bad R _ len (wstep_bad R k hE.out.1 (HEnc.out.trans (enc1_no n t hn))) (by omega))
          by_cases n0 : n < 0
          · clear hn
            go_wp2
            go_ret2
            rw [HX.out]
            exact ⟨_, rfl, rfl, hb.alloc hsz _⟩
          · have n1 : 65535 < n := by omega
            clear hn
            go_wp2
            go_ret2
            rw [HX.out]
            exact ⟨_, rfl, rfl, hb.alloc hsz _⟩
      · have HX := Lib.hid (wstep R k _ hE.out.1 (HEnc.out.trans (enc2 d n t h0 h1)))
        have hd0 : (d == 0) = false := by simpa using h0
        have hd1 : (d == 1) = false := by simpa using h1
        have HA : Hid ((r ++ t).data.toList = wOut R (k + 1)) := by show _ = _; rw [HX.out.2, app_data, hE.out.2]
        clear h0 h1
        go_wp2
        go_roundw
        case rel => exact ⟨k + 1, _, by omega, by go_num, rfl, ⟨HX.out.1, HA.out⟩, by simp; omega, hb.alloc hsz _⟩
        case measure => simp [intOf]; omega
    · obtain rfl : k = len := by omega
      clear HR HT H0
      go_wp2
      go_ret2
      rw [hE.out.1]
      exact ⟨_, rfl, hE.out.2, hb⟩
end Bi
end Go.Proofs.Ytidfljnjghgkgaa
