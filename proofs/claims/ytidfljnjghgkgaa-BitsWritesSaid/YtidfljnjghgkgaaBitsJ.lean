/- The law BitsWrites: its walk. -/
import Derived.Test.YtidfljnjghgkgaaBitsI
import Derived.Test.YtidfljnjghgkgaaBitsE
import Derived.Deep.RegionWith
namespace Go.Proofs.Ytidfljnjghgkgaa
open Go.RowKit
attribute [local go_sem] Bw.and255 Bw.and65535
namespace Bi
open Sm Pc
open PlainAid (bt get_bt bt_nonneg bt_le)
theorem wr_byte (R : Nat → Nat → Value) (k : Nat) (h : numAt R k 0 = 0) :
    (if wErr R k = 0 then (if 0 ≤ numAt R k 1 ∧ numAt R k 1 ≤ 255 then 0 else 2) else wErr R k) = wErr R (k + 1) ∧
    (if wErr R k = 0 ∧ 0 ≤ numAt R k 1 ∧ numAt R k 1 ≤ 255 then wOut R k ++ [UInt8.ofNat (numAt R k 1).toNat] else wOut R k) = wOut R (k + 1) := by
  rw [wErr_s, wOut_s, encAt_s, h]
  by_cases he : wErr R k = 0
  · by_cases hn : 0 ≤ numAt R k 1 ∧ numAt R k 1 ≤ 255
    · rw [enc0_yes _ _ hn]; simp [he, hn]
    · rw [enc0_no _ _ hn]; simp [he, hn]
  · simp [he]
theorem wr_two (R : Nat → Nat → Value) (k : Nat) (h : numAt R k 0 = 1) :
    (if wErr R k = 0 then (if 0 ≤ numAt R k 1 ∧ numAt R k 1 ≤ 65535 then 0 else 2) else wErr R k) = wErr R (k + 1) ∧
    (if wErr R k = 0 ∧ 0 ≤ numAt R k 1 ∧ numAt R k 1 ≤ 65535 then wOut R k ++ putL (numAt R k 1) else wOut R k) = wOut R (k + 1) := by
  rw [wErr_s, wOut_s, encAt_s, h]
  by_cases he : wErr R k = 0
  · by_cases hn : 0 ≤ numAt R k 1 ∧ numAt R k 1 ≤ 65535
    · rw [enc1_yes _ _ hn]; simp [he, hn]
    · rw [enc1_no _ _ hn]; simp [he, hn]
  · simp [he]
theorem wr_text (R : Nat → Nat → Value) (k : Nat) (h0 : numAt R k 0 ≠ 0) (h1 : numAt R k 0 ≠ 1) :
    wErr R k = wErr R (k + 1) ∧ (if wErr R k = 0 then wOut R k ++ (strAt R k 2).data.toList else wOut R k) = wOut R (k + 1) := by
  have e1 : wErr R (k + 1) = if wErr R k = 0 then (if (encAt R k).isSome then 0 else 2) else wErr R k := rfl
  have e2 : wOut R (k + 1) = if wErr R k = 0 then wOut R k ++ (encAt R k).getD [] else wOut R k := rfl
  have e3 : encAt R k = some (strAt R k 2).data.toList := enc2 _ _ _ h0 h1
  rw [e1, e2, e3]
  by_cases he : wErr R k = 0
  · simp [he]
  · simp [he]
/-- What was written stands where it was written. -/
theorem wprefix (R : Nat → Nat → Value) (k m : Nat) (hm : k ≤ m) (he : wErr R m = 0) : ∃ r, wOut R m = wOut R k ++ r := by
  induction m with
  | zero => obtain rfl : k = 0 := by omega
            exact ⟨[], by simp⟩
  | succ m ih =>
    by_cases e : k = m + 1
    · subst e; exact ⟨[], by simp⟩
    · have h0 : wErr R m = 0 := by
        rcases wErr_or R m with h | h
        · exact h
        · have := wErr_bad R m (m + 1) h (by omega)
          omega
      obtain ⟨r, hr⟩ := ih (by omega) h0
      exact ⟨r ++ (encAt R m).getD [], by rw [show wOut R (m + 1) = if wErr R m = 0 then wOut R m ++ (encAt R m).getD [] else wOut R m from rfl, if_pos h0, hr, List.append_assoc]⟩
theorem wback (R : Nat → Nat → Value) (k m : Nat) (hm : k < m) (he : wErr R m = 0) : ∃ x r, encAt R k = some x ∧ wOut R (k + 1) = wOut R k ++ x ∧ wOut R m = wOut R k ++ (x ++ r) := by
  have h0 : ∀ j, j ≤ m → wErr R j = 0 := fun j hj => by
    rcases wErr_or R j with h | h
    · exact h
    · have := wErr_bad R j m h hj
      omega
  have h1 := h0 (k + 1) (by omega)
  have hk := h0 k (by omega)
  cases hx : encAt R k with
  | none => have := wstep_bad R k hk hx; omega
  | some x =>
    obtain ⟨r, hr⟩ := wprefix R (k + 1) m (by omega) he
    have e := (wstep R k x hk hx).2
    exact ⟨x, r, rfl, e, by rw [hr, e, List.append_assoc]⟩
theorem bt_list (s : ByteArray) (l x r : List UInt8) (hs : s.data.toList = l ++ (x ++ r)) (j : Nat) (hj : j < x.length) : bt s (l.length + j) = (x[j].toNat : Int) := by
  have hsz := size_of s _ hs
  simp at hsz
  rw [bt_get s _ (by omega)]
  have e1 : s[l.length + j]'(by omega) = s.data.toList[l.length + j]'(by rw [hs]; simp; omega) := by
    rw [Array.getElem_toList]; rfl
  rw [e1]
  have : s.data.toList[l.length + j]'(by rw [hs]; simp; omega) = (l ++ (x ++ r))[l.length + j]'(by simp; omega) := by congr 1
  rw [this, List.getElem_append_right (by omega)]
  simp
  rw [List.getElem_append_left hj]
/-- What is read at a place at which a byte, two bytes, a text were written. -/
theorem back_byte (s : ByteArray) (l r : List UInt8) (n : Int) (hn : 0 ≤ n ∧ n ≤ 255) (hs : s.data.toList = l ++ ([UInt8.ofNat n.toNat] ++ r)) :
    rdByte s l.length 0 = n ∧ rdAt s l.length 0 1 = ((l ++ [UInt8.ofNat n.toNat]).length : Nat) ∧ rdErr s l.length 0 1 = 0 := by
  have hsz := size_of s _ hs
  simp at hsz
  have hb := bt_list s l _ r hs 0 (by simp)
  refine ⟨?_, ?_, ?_⟩
  · rw [rdByte_yes s l.length (by omega)]
    rw [Nat.add_zero] at hb
    rw [hb]
    simp
    omega
  · rw [at_yes _ _ _ (by omega)]; simp
  · rw [err_ok _ _ _ (by omega) (by omega)]
theorem back_two (s : ByteArray) (l r : List UInt8) (n : Int) (hn : 0 ≤ n ∧ n ≤ 65535) (hs : s.data.toList = l ++ (putL n ++ r)) :
    rdTwo s l.length 0 = n ∧ rdAt s l.length 0 2 = ((l ++ putL n).length : Nat) ∧ rdErr s l.length 0 2 = 0 := by
  have hsz := size_of s _ hs
  simp [putL] at hsz
  have hb := bt_list s l _ r hs 0 (by simp [putL])
  have hb1 := bt_list s l _ r hs 1 (by simp [putL])
  refine ⟨?_, ?_, ?_⟩
  · rw [rdTwo_yes s l.length (by omega)]
    rw [Nat.add_zero] at hb
    rw [hb, hb1]
    simp [putL]
    omega
  · rw [at_yes _ _ _ (by omega)]; simp [putL]
  · rw [err_ok _ _ _ (by omega) (by omega)]
theorem back_text (s t : ByteArray) (l r : List UInt8) (hs : s.data.toList = l ++ (t.data.toList ++ r)) :
    (rdText s l.length 0 t.size).data.toList = t.data.toList ∧ rdAt s l.length 0 t.size = ((l ++ t.data.toList).length : Nat) ∧ rdErr s l.length 0 t.size = 0 := by
  have hsz := size_of s _ hs
  simp at hsz
  refine ⟨?_, ?_, ?_⟩
  · rw [text_yes s l.length t.size (by omega)]
    have : (s.extract l.length (l.length + t.size)).data.toList = (s.data.toList.drop l.length).take t.size := by
      simp [List.take_drop]
    rw [this, hs]
    simp
  · rw [at_yes _ _ _ (by omega)]; simp
  · rw [err_ok _ _ _ (by omega) (by omega)]
theorem Wt.new (w : World) : Wt (w.alloc (.cells #[.int .i64 0, .slice none 0 0] 45)) w.heap.size w.heap.size 0 [] := ⟨none, 0, Blk.new _ _ _, World.ownsRow_nil _ _ _ _⟩
attribute [local irreducible] wErr wOut encAt Wt Rd rdAt rdErr rdByte rdTwo rdText

set_option maxRecDepth 100000 in
set_option maxHeartbeats 2000000 in
theorem writes_le (a : Option Addr) (len cap : Nat) (R : Nat → Nat → Value) (w : World) (hR : Recs w a len cap stepK R) (hl : len ≤ 40) :
    Calls Try.prog 5 #[.slice a len cap] w fun e w' => e = .returned (.bool true) ∧ Below w.heap.size w w' := by
  obtain ⟨hlen, hcap⟩ := hR.len
  have HR := Lib.hid (hR.cut len (by omega))
  have H00 := Lib.hid (w0 R)
  clear hR
  go_enter Try.func5, Try.ntmps5
  go_wp2
  have hwt : Wt (w.alloc (.cells #[.int .i64 0, .slice none 0 0] 45)) w.heap.size w.heap.size 0 [] := Wt.new w
  have hb0 : Below w.heap.size w (w.alloc (.cells #[.int .i64 0, .slice none 0 0] 45)) := (Below.refl _ _).alloc (Nat.le_refl _) _
  go_loopw [4] (fun i wr => ∃ k : Nat, k ≤ len ∧ i = .int .i64 k ∧ Wt wr w.heap.size w.heap.size (wErr R k) (wOut R k) ∧ Hid (∀ i, i < k → (strAt R i 2).size ≤ 100) ∧ Below w.heap.size w wr) (fun i _ => len - (intOf i).toNat)
  case atStart => exact ⟨0, by omega, rfl, by rw [H00.out.1, H00.out.2]; exact hwt, fun i hi => absurd hi (by omega), hb0⟩
  case round =>
    clear hwt hb0 H00
    obtain ⟨k, hkl, rfl, hwt, hT, hb⟩ := hrel
    have hsz := hb.size
    by_cases hlt : k < len
    · have hlo := wOut_len R k hT.out
      obtain ⟨b, off, rfl, hbl, hcells⟩ := HR.out.at_ (by omega) (by decide)
      obtain ⟨hc0, d0⟩ := hcells k hlt 0 _ rfl
      obtain ⟨hc1, d1⟩ := hcells k hlt 1 _ rfl
      obtain ⟨hc2, d2⟩ := hcells k hlt 2 _ rfl
      clear hcells
      obtain ⟨e0, v0⟩ := numAt_of d0
      obtain ⟨e1, v1⟩ := numAt_of d1
      obtain ⟨e2, v2⟩ := strAt_of d2
      rw [e0] at hc0
      rw [e1] at hc1
      rw [e2] at hc2
      clear d0 d1 d2 e0 e1 e2
      have g0 : wr.cell? ⟨b, off + k * 3, none⟩ = some (.int .i64 (numAt R k 0)) := (hb.cell (p := ⟨b, off + (k * 3 + 0), none⟩) hbl).trans hc0
      have g1 : wr.cell? ⟨b, off + k * 3 + 1, none⟩ = some (.int .i64 (numAt R k 1)) := (hb.cell (p := ⟨b, off + (k * 3 + 1), none⟩) hbl).trans hc1
      have g2 : wr.cell? ⟨b, off + k * 3 + 2, none⟩ = some (.string (strAt R k 2)) := (hb.cell (p := ⟨b, off + (k * 3 + 2), none⟩) hbl).trans hc2
      clear hc0 hc1 hc2
      by_cases ht : 100 < (strAt R k 2).size
      · go_wp2_with (go_at_call 7; refine (live_any _).mono ?_; rintro e w9 ⟨rfl, hkl⟩)
        go_ret
        exact ⟨rfl, hb.trans (hkl.all.mono hsz)⟩
      have hT' : Hid (∀ i, i < k + 1 → (strAt R i 2).size ≤ 100) := fun i hi => by
        rcases Nat.lt_or_eq_of_le (Nat.lt_succ_iff.1 hi) with h | rfl
        · exact hT.out i h
        · omega
      by_cases h0 : numAt R k 0 = 0
      · have HW := wbyte_any w.heap.size w.heap.size (wErr R k) (numAt R k 1) (wOut R k) wr hwt (Nat.le_refl _) hsz (by omega)
        rw [(wr_byte R k h0).1, (wr_byte R k h0).2] at HW
        have HW2 := Lib.hid HW
        rw [h0] at g0
        clear HW h0 hlo
        go_wp2_with fail
        refine HW2.out.mono ?_
        clear HW2
        rintro e w1 ⟨rfl, h1, h2, h3⟩
        go_wp2
        go_roundw
        case rel => exact ⟨k + 1, by omega, by go_num, h1, hT', hb.trans h2⟩
        case measure => simp [intOf]; omega
      by_cases h1 : numAt R k 0 = 1
      · have HW := wtwo_any w.heap.size w.heap.size (wErr R k) (numAt R k 1) (wOut R k) wr hwt (Nat.le_refl _) hsz (by omega)
        rw [(wr_two R k h1).1, (wr_two R k h1).2] at HW
        have HW2 := Lib.hid HW
        rw [h1] at g0
        clear HW h0 h1 hlo
        go_wp2_with fail
        refine HW2.out.mono ?_
        clear HW2
        rintro e w1 ⟨rfl, h1, h2, h3⟩
        go_wp2
        go_roundw
        case rel => exact ⟨k + 1, by omega, by go_num, h1, hT', hb.trans h2⟩
        case measure => simp [intOf]; omega
      · have HW := wtext_any w.heap.size w.heap.size (wErr R k) (strAt R k 2) (wOut R k) wr hwt (Nat.le_refl _) hsz (by omega) (by omega)
        rw [(wr_text R k h0 h1).2, (wr_text R k h0 h1).1] at HW
        have HW2 := Lib.hid HW
        have hd0 : (numAt R k 0 == 0) = false := by simpa using h0
        have hd1 : (numAt R k 0 == 1) = false := by simpa using h1
        clear HW h0 h1 hlo
        go_wp2_with fail
        refine HW2.out.mono ?_
        clear HW2
        rintro e w1 ⟨rfl, h1, h2, h3⟩
        go_wp2
        go_roundw
        case rel => exact ⟨k + 1, by omega, by go_num, h1, hT', hb.trans h2⟩
        case measure => simp [intOf]; omega
    · obtain rfl : len = k := by omega
      have HC := Lib.hid (write_any a len cap R wr (HR.out.below' hb) (by omega) hT.out)
      have hlo := wOut_len R len hT.out
      have hor := wErr_or R len
      go_wp2_with fail
      refine HC.out.mono ?_
      clear HC
      rintro e w1 ⟨s, rfl, hs, h2⟩
      have hb1 := hb.trans (h2.mono hsz)
      have hwt1 := hwt.keeps h2
      have hsz1 := hb1.size
      clear hwt h2 hb hsz
      go_wp2_with fail
      refine (wbytes_any _ _ _ _ _ hwt1).mono ?_
      rintro e w2 ⟨rfl, rfl⟩
      have hq : (wrOut (wErr R len) (wOut R len) == s.toList) = true := by rw [ByteArray.toList_eq, hs]; simp
      have HS := Lib.hid hs
      clear hs
      go_wp2_with fail
      refine (werr_any _ _ _ _ _ hwt1).mono ?_
      rintro e w2 ⟨rfl, rfl⟩
      rcases hor with he | he
      · rw [he] at HS
        have hs : s.data.toList = wOut R len := HS.out
        have hss : s.size ≤ 1000000 := by rw [size_of s _ hs]; omega
        have HS2 := Lib.hid hs
        have HE := Lib.hid he
        rw [he]
        clear HS hs hq he hlo hwt1
        go_wp2_with fail
        refine (new_any _ _).mono ?_
        rintro e w3 ⟨rfl, hr3, hk3⟩
        have hb3 := hb1.trans (hk3.all.mono hsz1)
        obtain ⟨br, hbr⟩ : ∃ br, br = w1.heap.size := ⟨_, rfl⟩
        rw [← hbr] at hr3 hsz1
        rw [← hbr]
        clear hbr hk3 hb1
        go_wp2
        go_loopw [8, 9] (fun i _ wr => ∃ k : Nat, k ≤ len ∧ i = .int .i64 k ∧ Rd wr br s ((wOut R k).length : Nat) 0 ∧ Below w.heap.size w wr) (fun i _ _ => len - (intOf i).toNat)
        case atStart => exact ⟨0, by omega, rfl, by rw [(w0 R).2]; exact hr3, hb3⟩
        case round =>
          clear hr3 hb3
          obtain ⟨k, hkl, rfl, hrd, hb⟩ := hrel
          have hsz := hb.size
          by_cases hlt : k < len
          · obtain ⟨x, r, hx, hnx, hall⟩ := wback R k len hlt HE.out
            have hall' := HS2.out.trans hall
            have hlk : (wOut R k).length ≤ s.size := by rw [size_of s _ hall']; simp
            obtain ⟨b, off, rfl, hbl, hcells⟩ := HR.out.at_ (by omega) (by decide)
            obtain ⟨hc0, d0⟩ := hcells k hlt 0 _ rfl
            obtain ⟨hc1, d1⟩ := hcells k hlt 1 _ rfl
            obtain ⟨hc2, d2⟩ := hcells k hlt 2 _ rfl
            clear hcells
            obtain ⟨e0, v0⟩ := numAt_of d0
            obtain ⟨e1, v1⟩ := numAt_of d1
            obtain ⟨e2, v2⟩ := strAt_of d2
            rw [e0] at hc0
            rw [e1] at hc1
            rw [e2] at hc2
            clear d0 d1 d2 e0 e1 e2
            have g0 : wr.cell? ⟨b, off + k * 3, none⟩ = some (.int .i64 (numAt R k 0)) := (hb.cell (p := ⟨b, off + (k * 3 + 0), none⟩) hbl).trans hc0
            have g1 : wr.cell? ⟨b, off + k * 3 + 1, none⟩ = some (.int .i64 (numAt R k 1)) := (hb.cell (p := ⟨b, off + (k * 3 + 1), none⟩) hbl).trans hc1
            have g2 : wr.cell? ⟨b, off + k * 3 + 2, none⟩ = some (.string (strAt R k 2)) := (hb.cell (p := ⟨b, off + (k * 3 + 2), none⟩) hbl).trans hc2
            clear hc0 hc1 hc2
            have hbr := hrd.lt
            rw [encAt_s] at hx
            by_cases h0 : numAt R k 0 = 0
            · rw [h0] at hx g0
              have hn : 0 ≤ numAt R k 1 ∧ numAt R k 1 ≤ 255 := by
                by_cases hn : 0 ≤ numAt R k 1 ∧ numAt R k 1 ≤ 255
                · exact hn
                · rw [enc0_no _ _ hn] at hx; cases hx
              rw [enc0_yes _ _ hn] at hx
              injection hx with hx
              subst hx
              obtain ⟨q1, q2, q3⟩ := back_byte s _ _ _ hn hall'
              have HC := Lib.hid (fun W h => byte_any br s ((wOut R k).length : Nat) 0 W h (by omega) (by omega) hss)
              rw [q1, q2, q3, ← hnx] at HC
              clear q1 q2 q3 hall hall' hnx h0 hn hlk
              generalize hl2 : wOut R (k + 1) = l2 at *
              have HL2 := Lib.hid hl2
              clear hl2
              generalize wOut R k = l1 at *
              generalize numAt R k 1 = n at *
              go_wp2
              go_region_with (go_at_call 19; refine (HC.out _ (by exact Rd.drew hrd)).mono ?_; rintro e w4 ⟨rfl, hrd4, k4⟩; have q1 := (k4.cell (p := ⟨b, off + k * 3 + 1, none⟩) (by simp; omega) (by simp; omega)).trans g1)
              all_goals
                go_wp2
                go_roundw
                case rel => exact ⟨k + 1, by omega, by go_num, by rw [HL2.out]; exact hrd4, hb.drew.trans (k4.below hsz (by simp; exact hsz1))⟩
                case measure => simp [intOf]; omega
            by_cases h1 : numAt R k 0 = 1
            · rw [h1] at hx g0
              have hn : 0 ≤ numAt R k 1 ∧ numAt R k 1 ≤ 65535 := by
                by_cases hn : 0 ≤ numAt R k 1 ∧ numAt R k 1 ≤ 65535
                · exact hn
                · rw [enc1_no _ _ hn] at hx; cases hx
              rw [enc1_yes _ _ hn] at hx
              injection hx with hx
              subst hx
              obtain ⟨q1, q2, q3⟩ := back_two s _ _ _ hn hall'
              have HC := Lib.hid (fun W h => rtwo_any br s ((wOut R k).length : Nat) 0 W h (by omega) (by omega) hss)
              rw [q1, q2, q3, ← hnx] at HC
              clear q1 q2 q3 hall hall' hnx h0 h1 hn hlk
              generalize hl2 : wOut R (k + 1) = l2 at *
              have HL2 := Lib.hid hl2
              clear hl2
              generalize wOut R k = l1 at *
              generalize numAt R k 1 = n at *
              go_wp2
              go_region_with (go_at_call 20; refine (HC.out _ (by exact Rd.drew hrd)).mono ?_; rintro e w4 ⟨rfl, hrd4, k4⟩; have q1 := (k4.cell (p := ⟨b, off + k * 3 + 1, none⟩) (by simp; omega) (by simp; omega)).trans g1)
              all_goals
                go_wp2
                go_roundw
                case rel => exact ⟨k + 1, by omega, by go_num, by rw [HL2.out]; exact hrd4, hb.drew.trans (k4.below hsz (by simp; exact hsz1))⟩
                case measure => simp [intOf]; omega
            · rw [enc2 _ _ _ h0 h1] at hx
              injection hx with hx
              subst hx
              obtain ⟨q1, q2, q3⟩ := back_text s _ _ _ hall'
              have hts := hT.out k hlt
              have HC := Lib.hid (fun W h => text_any br s ((wOut R k).length : Nat) 0 (strAt R k 2).size W h (by omega) (by omega) hss (by omega))
              rw [q2, q3, ← hnx] at HC
              have hq := seq_true q1
              have hd0 : (numAt R k 0 == 0) = false := by simpa using h0
              have hd1 : (numAt R k 0 == 1) = false := by simpa using h1
              clear q1 q2 q3 hall hall' hnx h0 h1 hlk
              generalize hl2 : wOut R (k + 1) = l2 at *
              have HL2 := Lib.hid hl2
              clear hl2
              generalize rdText s ((wOut R k).length : Nat) 0 (strAt R k 2).size = x2 at *
              generalize wOut R k = l1 at *
              generalize numAt R k 1 = n at *
              generalize numAt R k 0 = d at *
              generalize strAt R k 2 = t at *
              go_wp2
              go_region_with (go_at_call 21; refine (HC.out _ (by exact Rd.drew hrd)).mono ?_; rintro e w4 ⟨rfl, hrd4, k4⟩; have q1 := (k4.cell (p := ⟨b, off + k * 3 + 2, none⟩) (by simp; omega) (by simp; omega)).trans g2)
              all_goals
                go_wp2
                go_roundw
                case rel => exact ⟨k + 1, by omega, by go_num, by rw [HL2.out]; exact hrd4, hb.drew.trans (k4.below hsz (by simp; exact hsz1))⟩
                case measure => simp [intOf]; omega
          · obtain rfl : len = k := by omega
            rw [HS2.out.symm] at hrd
            clear HR
            go_wp2_with fail
            refine (live_any _).mono ?_
            rintro e w5 ⟨rfl, hk5⟩
            have hrd5 := hrd.keeps hk5 (by simp)
            have HLe : Hid (rdLeft s (s.data.toList.length : Nat) 0 = 0) := by show rdLeft _ _ _ = 0; unfold rdLeft; rw [if_pos rfl]; simp
            have HL := Lib.hid (left_any br s (s.data.toList.length : Nat) 0 w5 hrd5 (by omega) (by simp) hss)
            rw [HLe.out] at HL
            go_wp2_with fail
            refine HL.out.mono ?_
            rintro e w6 ⟨rfl, hd6⟩
            have HEr := Lib.hid (err_any br s (s.data.toList.length : Nat) 0 w6 (hrd5.drawn hd6))
            go_wp2_with fail
            refine HEr.out.mono ?_
            rintro e w7 ⟨rfl, hd7⟩
            go_wp2
            go_ret
            exact ⟨rfl, ((hb.trans (hk5.all.mono hsz)).trans (hd6.below _)).trans (hd7.below _)⟩
      · rw [he]
        have HE := Lib.hid he
        clear HS hq he hlo hwt1
        go_wp2_with fail
        refine (new_any _ _).mono ?_
        rintro e w3 ⟨rfl, hr3, hk3⟩
        have hb3 := hb1.trans (hk3.all.mono hsz1)
        have hsz3 := hb3.size
        go_wp2
        go_loopw [8, 9] (fun i _ wr => i = .int .i64 0 ∧ Hid (wr = w3)) (fun i _ _ => 0)
        case atStart => exact ⟨rfl, rfl⟩
        case round =>
          obtain ⟨rfl, hw⟩ := hrel
          have hb9 : Below w.heap.size w wr := by rw [hw.out]; exact hb3
          clear hb3 hr3 hk3 hw
          go_wp2_with (go_at_call 7; refine (live_any _).mono ?_; rintro e w9 ⟨rfl, hkl⟩)
          go_ret
          exact ⟨rfl, hb9.trans (hkl.all.mono hb9.size)⟩

set_option maxRecDepth 100000 in
set_option maxHeartbeats 2000000 in
theorem writes_gt (a : Option Addr) (len cap : Nat) (R : Nat → Nat → Value) (w : World) (hR : Recs w a len cap stepK R) (hl : ¬ len ≤ 40) :
    Calls Try.prog 5 #[.slice a len cap] w fun e w' => e = .returned (.bool true) ∧ Below w.heap.size w w' := by
  obtain ⟨hlen, hcap⟩ := hR.len
  have HR := Lib.hid (hR.cut 40 (by omega))
  have H00 := Lib.hid (w0 R)
  clear hR
  go_enter Try.func5, Try.ntmps5
  go_wp2
  have hwt : Wt (w.alloc (.cells #[.int .i64 0, .slice none 0 0] 45)) w.heap.size w.heap.size 0 [] := Wt.new w
  have hb0 : Below w.heap.size w (w.alloc (.cells #[.int .i64 0, .slice none 0 0] 45)) := (Below.refl _ _).alloc (Nat.le_refl _) _
  go_loopw [4] (fun i wr => ∃ k : Nat, k ≤ 40 ∧ i = .int .i64 k ∧ Wt wr w.heap.size w.heap.size (wErr R k) (wOut R k) ∧ Hid (∀ i, i < k → (strAt R i 2).size ≤ 100) ∧ Below w.heap.size w wr) (fun i _ => 40 - (intOf i).toNat)
  case atStart => exact ⟨0, by omega, rfl, by rw [H00.out.1, H00.out.2]; exact hwt, fun i hi => absurd hi (by omega), hb0⟩
  case round =>
    clear hwt hb0 H00
    obtain ⟨k, hkl, rfl, hwt, hT, hb⟩ := hrel
    have hsz := hb.size
    by_cases hlt : k < 40
    · have hlo := wOut_len R k hT.out
      obtain ⟨b, off, rfl, hbl, hcells⟩ := HR.out.at_ (by omega) (by decide)
      obtain ⟨hc0, d0⟩ := hcells k hlt 0 _ rfl
      obtain ⟨hc1, d1⟩ := hcells k hlt 1 _ rfl
      obtain ⟨hc2, d2⟩ := hcells k hlt 2 _ rfl
      clear hcells
      obtain ⟨e0, v0⟩ := numAt_of d0
      obtain ⟨e1, v1⟩ := numAt_of d1
      obtain ⟨e2, v2⟩ := strAt_of d2
      rw [e0] at hc0
      rw [e1] at hc1
      rw [e2] at hc2
      clear d0 d1 d2 e0 e1 e2
      have g0 : wr.cell? ⟨b, off + k * 3, none⟩ = some (.int .i64 (numAt R k 0)) := (hb.cell (p := ⟨b, off + (k * 3 + 0), none⟩) hbl).trans hc0
      have g1 : wr.cell? ⟨b, off + k * 3 + 1, none⟩ = some (.int .i64 (numAt R k 1)) := (hb.cell (p := ⟨b, off + (k * 3 + 1), none⟩) hbl).trans hc1
      have g2 : wr.cell? ⟨b, off + k * 3 + 2, none⟩ = some (.string (strAt R k 2)) := (hb.cell (p := ⟨b, off + (k * 3 + 2), none⟩) hbl).trans hc2
      clear hc0 hc1 hc2
      by_cases ht : 100 < (strAt R k 2).size
      · go_wp2_with (go_at_call 7; refine (live_any _).mono ?_; rintro e w9 ⟨rfl, hkl⟩)
        go_ret
        exact ⟨rfl, hb.trans (hkl.all.mono hsz)⟩
      have hT' : Hid (∀ i, i < k + 1 → (strAt R i 2).size ≤ 100) := fun i hi => by
        rcases Nat.lt_or_eq_of_le (Nat.lt_succ_iff.1 hi) with h | rfl
        · exact hT.out i h
        · omega
      by_cases h0 : numAt R k 0 = 0
      · have HW := wbyte_any w.heap.size w.heap.size (wErr R k) (numAt R k 1) (wOut R k) wr hwt (Nat.le_refl _) hsz (by omega)
        rw [(wr_byte R k h0).1, (wr_byte R k h0).2] at HW
        have HW2 := Lib.hid HW
        rw [h0] at g0
        clear HW h0 hlo
        go_wp2_with fail
        refine HW2.out.mono ?_
        clear HW2
        rintro e w1 ⟨rfl, h1, h2, h3⟩
        go_wp2
        go_roundw
        case rel => exact ⟨k + 1, by omega, by go_num, h1, hT', hb.trans h2⟩
        case measure => simp [intOf]; omega
      by_cases h1 : numAt R k 0 = 1
      · have HW := wtwo_any w.heap.size w.heap.size (wErr R k) (numAt R k 1) (wOut R k) wr hwt (Nat.le_refl _) hsz (by omega)
        rw [(wr_two R k h1).1, (wr_two R k h1).2] at HW
        have HW2 := Lib.hid HW
        rw [h1] at g0
        clear HW h0 h1 hlo
        go_wp2_with fail
        refine HW2.out.mono ?_
        clear HW2
        rintro e w1 ⟨rfl, h1, h2, h3⟩
        go_wp2
        go_roundw
        case rel => exact ⟨k + 1, by omega, by go_num, h1, hT', hb.trans h2⟩
        case measure => simp [intOf]; omega
      · have HW := wtext_any w.heap.size w.heap.size (wErr R k) (strAt R k 2) (wOut R k) wr hwt (Nat.le_refl _) hsz (by omega) (by omega)
        rw [(wr_text R k h0 h1).2, (wr_text R k h0 h1).1] at HW
        have HW2 := Lib.hid HW
        have hd0 : (numAt R k 0 == 0) = false := by simpa using h0
        have hd1 : (numAt R k 0 == 1) = false := by simpa using h1
        clear HW h0 h1 hlo
        go_wp2_with fail
        refine HW2.out.mono ?_
        clear HW2
        rintro e w1 ⟨rfl, h1, h2, h3⟩
        go_wp2
        go_roundw
        case rel => exact ⟨k + 1, by omega, by go_num, h1, hT', hb.trans h2⟩
        case measure => simp [intOf]; omega
    · obtain rfl : k = 40 := by omega
      have HC := Lib.hid (write_any a 40 cap R wr (HR.out.below' hb) (by omega) hT.out)
      have hlo := wOut_len R 40 hT.out
      have hor := wErr_or R 40
      go_wp2_with fail
      refine HC.out.mono ?_
      clear HC
      rintro e w1 ⟨s, rfl, hs, h2⟩
      have hb1 := hb.trans (h2.mono hsz)
      have hwt1 := hwt.keeps h2
      have hsz1 := hb1.size
      clear hwt h2 hb hsz
      go_wp2_with fail
      refine (wbytes_any _ _ _ _ _ hwt1).mono ?_
      rintro e w2 ⟨rfl, rfl⟩
      have hq : (wrOut (wErr R 40) (wOut R 40) == s.toList) = true := by rw [ByteArray.toList_eq, hs]; simp
      have HS := Lib.hid hs
      clear hs
      go_wp2_with fail
      refine (werr_any _ _ _ _ _ hwt1).mono ?_
      rintro e w2 ⟨rfl, rfl⟩
      rcases hor with he | he
      · rw [he] at HS
        have hs : s.data.toList = wOut R 40 := HS.out
        have hss : s.size ≤ 1000000 := by rw [size_of s _ hs]; omega
        have HS2 := Lib.hid hs
        have HE := Lib.hid he
        rw [he]
        clear HS hs hq he hlo hwt1
        go_wp2_with fail
        refine (new_any _ _).mono ?_
        rintro e w3 ⟨rfl, hr3, hk3⟩
        have hb3 := hb1.trans (hk3.all.mono hsz1)
        obtain ⟨br, hbr⟩ : ∃ br, br = w1.heap.size := ⟨_, rfl⟩
        rw [← hbr] at hr3 hsz1
        rw [← hbr]
        clear hbr hk3 hb1
        go_wp2
        go_loopw [8, 9] (fun i _ wr => ∃ k : Nat, k ≤ 40 ∧ i = .int .i64 k ∧ Rd wr br s ((wOut R k).length : Nat) 0 ∧ Below w.heap.size w wr) (fun i _ _ => 40 - (intOf i).toNat)
        case atStart => exact ⟨0, by omega, rfl, by rw [(w0 R).2]; exact hr3, hb3⟩
        case round =>
          clear hr3 hb3
          obtain ⟨k, hkl, rfl, hrd, hb⟩ := hrel
          have hsz := hb.size
          by_cases hlt : k < 40
          · obtain ⟨x, r, hx, hnx, hall⟩ := wback R k 40 hlt HE.out
            have hall' := HS2.out.trans hall
            have hlk : (wOut R k).length ≤ s.size := by rw [size_of s _ hall']; simp
            obtain ⟨b, off, rfl, hbl, hcells⟩ := HR.out.at_ (by omega) (by decide)
            obtain ⟨hc0, d0⟩ := hcells k hlt 0 _ rfl
            obtain ⟨hc1, d1⟩ := hcells k hlt 1 _ rfl
            obtain ⟨hc2, d2⟩ := hcells k hlt 2 _ rfl
            clear hcells
            obtain ⟨e0, v0⟩ := numAt_of d0
            obtain ⟨e1, v1⟩ := numAt_of d1
            obtain ⟨e2, v2⟩ := strAt_of d2
            rw [e0] at hc0
            rw [e1] at hc1
            rw [e2] at hc2
            clear d0 d1 d2 e0 e1 e2
            have g0 : wr.cell? ⟨b, off + k * 3, none⟩ = some (.int .i64 (numAt R k 0)) := (hb.cell (p := ⟨b, off + (k * 3 + 0), none⟩) hbl).trans hc0
            have g1 : wr.cell? ⟨b, off + k * 3 + 1, none⟩ = some (.int .i64 (numAt R k 1)) := (hb.cell (p := ⟨b, off + (k * 3 + 1), none⟩) hbl).trans hc1
            have g2 : wr.cell? ⟨b, off + k * 3 + 2, none⟩ = some (.string (strAt R k 2)) := (hb.cell (p := ⟨b, off + (k * 3 + 2), none⟩) hbl).trans hc2
            clear hc0 hc1 hc2
            have hbr := hrd.lt
            rw [encAt_s] at hx
            by_cases h0 : numAt R k 0 = 0
            · rw [h0] at hx g0
              have hn : 0 ≤ numAt R k 1 ∧ numAt R k 1 ≤ 255 := by
                by_cases hn : 0 ≤ numAt R k 1 ∧ numAt R k 1 ≤ 255
                · exact hn
                · rw [enc0_no _ _ hn] at hx; cases hx
              rw [enc0_yes _ _ hn] at hx
              injection hx with hx
              subst hx
              obtain ⟨q1, q2, q3⟩ := back_byte s _ _ _ hn hall'
              have HC := Lib.hid (fun W h => byte_any br s ((wOut R k).length : Nat) 0 W h (by omega) (by omega) hss)
              rw [q1, q2, q3, ← hnx] at HC
              clear q1 q2 q3 hall hall' hnx h0 hn hlk
              generalize hl2 : wOut R (k + 1) = l2 at *
              have HL2 := Lib.hid hl2
              clear hl2
              generalize wOut R k = l1 at *
              generalize numAt R k 1 = n at *
              go_wp2
              go_region_with (go_at_call 19; refine (HC.out _ (by exact Rd.drew hrd)).mono ?_; rintro e w4 ⟨rfl, hrd4, k4⟩; have q1 := (k4.cell (p := ⟨b, off + k * 3 + 1, none⟩) (by simp; omega) (by simp; omega)).trans g1)
              all_goals
                go_wp2
                go_roundw
                case rel => exact ⟨k + 1, by omega, by go_num, by rw [HL2.out]; exact hrd4, hb.drew.trans (k4.below hsz (by simp; exact hsz1))⟩
                case measure => simp [intOf]; omega
            by_cases h1 : numAt R k 0 = 1
            · rw [h1] at hx g0
              have hn : 0 ≤ numAt R k 1 ∧ numAt R k 1 ≤ 65535 := by
                by_cases hn : 0 ≤ numAt R k 1 ∧ numAt R k 1 ≤ 65535
                · exact hn
                · rw [enc1_no _ _ hn] at hx; cases hx
              rw [enc1_yes _ _ hn] at hx
              injection hx with hx
              subst hx
              obtain ⟨q1, q2, q3⟩ := back_two s _ _ _ hn hall'
              have HC := Lib.hid (fun W h => rtwo_any br s ((wOut R k).length : Nat) 0 W h (by omega) (by omega) hss)
              rw [q1, q2, q3, ← hnx] at HC
              clear q1 q2 q3 hall hall' hnx h0 h1 hn hlk
              generalize hl2 : wOut R (k + 1) = l2 at *
              have HL2 := Lib.hid hl2
              clear hl2
              generalize wOut R k = l1 at *
              generalize numAt R k 1 = n at *
              go_wp2
              go_region_with (go_at_call 20; refine (HC.out _ (by exact Rd.drew hrd)).mono ?_; rintro e w4 ⟨rfl, hrd4, k4⟩; have q1 := (k4.cell (p := ⟨b, off + k * 3 + 1, none⟩) (by simp; omega) (by simp; omega)).trans g1)
              all_goals
                go_wp2
                go_roundw
                case rel => exact ⟨k + 1, by omega, by go_num, by rw [HL2.out]; exact hrd4, hb.drew.trans (k4.below hsz (by simp; exact hsz1))⟩
                case measure => simp [intOf]; omega
            · rw [enc2 _ _ _ h0 h1] at hx
              injection hx with hx
              subst hx
              obtain ⟨q1, q2, q3⟩ := back_text s _ _ _ hall'
              have hts := hT.out k hlt
              have HC := Lib.hid (fun W h => text_any br s ((wOut R k).length : Nat) 0 (strAt R k 2).size W h (by omega) (by omega) hss (by omega))
              rw [q2, q3, ← hnx] at HC
              have hq := seq_true q1
              have hd0 : (numAt R k 0 == 0) = false := by simpa using h0
              have hd1 : (numAt R k 0 == 1) = false := by simpa using h1
              clear q1 q2 q3 hall hall' hnx h0 h1 hlk
              generalize hl2 : wOut R (k + 1) = l2 at *
              have HL2 := Lib.hid hl2
              clear hl2
              generalize rdText s ((wOut R k).length : Nat) 0 (strAt R k 2).size = x2 at *
              generalize wOut R k = l1 at *
              generalize numAt R k 1 = n at *
              generalize numAt R k 0 = d at *
              generalize strAt R k 2 = t at *
              go_wp2
              go_region_with (go_at_call 21; refine (HC.out _ (by exact Rd.drew hrd)).mono ?_; rintro e w4 ⟨rfl, hrd4, k4⟩; have q1 := (k4.cell (p := ⟨b, off + k * 3 + 2, none⟩) (by simp; omega) (by simp; omega)).trans g2)
              all_goals
                go_wp2
                go_roundw
                case rel => exact ⟨k + 1, by omega, by go_num, by rw [HL2.out]; exact hrd4, hb.drew.trans (k4.below hsz (by simp; exact hsz1))⟩
                case measure => simp [intOf]; omega
          · obtain rfl : k = 40 := by omega
            rw [HS2.out.symm] at hrd
            clear HR
            go_wp2_with fail
            refine (live_any _).mono ?_
            rintro e w5 ⟨rfl, hk5⟩
            have hrd5 := hrd.keeps hk5 (by simp)
            have HLe : Hid (rdLeft s (s.data.toList.length : Nat) 0 = 0) := by show rdLeft _ _ _ = 0; unfold rdLeft; rw [if_pos rfl]; simp
            have HL := Lib.hid (left_any br s (s.data.toList.length : Nat) 0 w5 hrd5 (by omega) (by simp) hss)
            rw [HLe.out] at HL
            go_wp2_with fail
            refine HL.out.mono ?_
            rintro e w6 ⟨rfl, hd6⟩
            have HEr := Lib.hid (err_any br s (s.data.toList.length : Nat) 0 w6 (hrd5.drawn hd6))
            go_wp2_with fail
            refine HEr.out.mono ?_
            rintro e w7 ⟨rfl, hd7⟩
            go_wp2
            go_ret
            exact ⟨rfl, ((hb.trans (hk5.all.mono hsz)).trans (hd6.below _)).trans (hd7.below _)⟩
      · rw [he]
        have HE := Lib.hid he
        clear HS hq he hlo hwt1
        go_wp2_with fail
        refine (new_any _ _).mono ?_
        rintro e w3 ⟨rfl, hr3, hk3⟩
        have hb3 := hb1.trans (hk3.all.mono hsz1)
        have hsz3 := hb3.size
        go_wp2
        go_loopw [8, 9] (fun i _ wr => i = .int .i64 0 ∧ Hid (wr = w3)) (fun i _ _ => 0)
        case atStart => exact ⟨rfl, rfl⟩
        case round =>
          obtain ⟨rfl, hw⟩ := hrel
          have hb9 : Below w.heap.size w wr := by rw [hw.out]; exact hb3
          clear hb3 hr3 hk3 hw
          go_wp2_with (go_at_call 7; refine (live_any _).mono ?_; rintro e w9 ⟨rfl, hkl⟩)
          go_ret
          exact ⟨rfl, hb9.trans (hkl.all.mono hb9.size)⟩

theorem writes_law (a : Option Addr) (len cap : Nat) (R : Nat → Nat → Value) (w : World) (hR : Recs w a len cap stepK R) :
    Calls Try.prog 5 #[.slice a len cap] w fun e w' => e = .returned (.bool true) ∧ Below w.heap.size w w' := by
  by_cases h : len ≤ 40
  · exact writes_le a len cap R w hR h
  · exact writes_gt a len cap R w hR h
end Bi
end Go.Proofs.Ytidfljnjghgkgaa
