/- The law BitsReads: its walk. -/
import Derived.Test.YtidfljnjghgkgaaBitsE
import Derived.Test.YtidfljnjghgkgaaRecs
namespace Go.Proofs.Ytidfljnjghgkgaa
open Go.RowKit
attribute [local go_sem] Bw.and255 Bw.and65535
namespace Bi
open Sm Pc
open PlainAid (bt get_bt bt_nonneg bt_le)
theorem at_bd (s : ByteArray) (a err n : Int) (h0 : 0 ≤ a) (h1 : a ≤ s.size) : 0 ≤ rdAt s a err n ∧ rdAt s a err n ≤ s.size := by
  unfold rdAt; split <;> omega
theorem left_of (s : ByteArray) (a err : Int) : rdLeft s a err = if err = 0 then s.size - a else 0 := rfl
theorem i64_bd {n : Int} (h : (Lit.int .i64 n).wf = true) : -9223372036854775808 ≤ n ∧ n ≤ 9223372036854775807 := by
  simp [Lit.wf, IntKind.min, IntKind.max, IntKind.signed, IntKind.bits] at h
  omega
abbrev stepKinds : List TypeDesc := [.int .i64, .int .i64, .string]
theorem Rd.alloc {w : World} {b : Nat} {s : ByteArray} {a err : Int} (h : Rd w b s a err) (o : Obj) : Rd (w.alloc o) b s a err := Blk.alloc h o
theorem Rd.keeps {S : List Nat} {w w' : World} {b : Nat} {s : ByteArray} {a err : Int} (h : Rd w b s a err) (hk : Keeps S w w') (hb : b ∉ S) : Rd w' b s a err := Blk.keeps h hk hb
theorem Rr.keeps {S : List Nat} {w w' : World} {b : Nat} {s : ByteArray} {a err : Int} (h : Rr w b s a err) (hk : Keeps S w w') (hb : b ∉ S) : Rr w' b s a err := Blk.keeps h hk hb
theorem Rd.drawn {w w' : World} {b : Nat} {s : ByteArray} {a err : Int} (h : Rd w b s a err) (hd : Drawn w w') : Rd w' b s a err := Blk.drawn h hd
theorem Rr.drawn {w w' : World} {b : Nat} {s : ByteArray} {a err : Int} (h : Rr w b s a err) (hd : Drawn w w') : Rr w' b s a err := Blk.drawn h hd
theorem Rd.drewN {w : World} {b : Nat} {s : ByteArray} {a err : Int} (h : Rd w b s a err) (n : Nat) : Rd (w.drewN n) b s a err := Blk.drewN h n
theorem Rr.drewN {w : World} {b : Nat} {s : ByteArray} {a err : Int} (h : Rr w b s a err) (n : Nat) : Rr (w.drewN n) b s a err := Blk.drewN h n
theorem Rd.lt {w : World} {b : Nat} {s : ByteArray} {a err : Int} (h : Rd w b s a err) : b < w.heap.size := Blk.lt h
theorem Rr.new (w : World) (s : ByteArray) : Rr (w.alloc (.cells #[.string s, .int .i64 0, .int .i64 0] 33)) w.heap.size s 0 0 := Blk.new _ _ _
attribute [local irreducible] rdAt rdErr rdByte rdTwo rdText Rd Rr
set_option maxRecDepth 100000 in
set_option maxHeartbeats 1000000 in
theorem reads_law (s : ByteArray) (a : Option Addr) (len cap : Nat) (R : Nat → Nat → Value) (w : World) (_ : s.size ≤ maxLen) (hR : Recs w a len cap stepKinds R) :
    Calls Try.prog 4 #[.string s, .slice a len cap] w fun e w' => e = .returned (.bool true) ∧ Below w.heap.size w w' := by
  by_cases hl : 300 < s.size
  · go_enter Try.func4, Try.ntmps4
    go_wp2_with (go_at_call 7; refine (live_any _).mono ?_; rintro e w' ⟨rfl, hk⟩)
    go_ret
    exact ⟨rfl, hk.all⟩
  have hm : s.size ≤ 400 := by omega
  obtain ⟨hlen, hcap⟩ := hR.len
  have HR := Lib.hid hR
  clear hR
  go_enter Try.func4, Try.ntmps4
  go_wp2_with fail
  refine (new_any _ _).mono ?_
  rintro e w1 ⟨rfl, hr1, hk1⟩
  have hr1' := hr1.alloc (.cells #[.string s, .int .i64 0, .int .i64 0] 33)
  have hrr : Rr (w1.alloc (.cells #[.string s, .int .i64 0, .int .i64 0] 33)) w1.heap.size s 0 0 := Rr.new _ _
  have hk2 : Keeps [] w (w1.alloc (.cells #[.string s, .int .i64 0, .int .i64 0] 33)) := hk1.alloc _
  have hb0 : w.heap.size < w1.heap.size := hr1.lt
  go_wp2_with fail
  generalize w1.alloc (.cells #[.string s, .int .i64 0, .int .i64 0] 33) = w2 at *
  clear hr1 hk1
  generalize hB1 : w1.heap.size = b1 at *
  generalize hB0 : w.heap.size = b0 at *
  have HB0 := Lib.hid hB0
  have hs0 : w.heap.size ≤ b0 := by rw [hB0]; exact Nat.le_refl _
  clear hB1 hB0
  go_loopw [7, 8, 9, 10, 11, 12] (fun i _ _ _ _ _ wr => ∃ (k : Nat) (p err : Int), k ≤ len ∧ k ≤ 40 ∧ i = .int .i64 k ∧ 0 ≤ p ∧ p ≤ s.size ∧ Rd wr b0 s p err ∧ Rr wr b1 s p err ∧ Keeps [] w wr) (fun i _ _ _ _ _ _ => 40 - (intOf i).toNat)
  case atStart => exact ⟨0, 0, 0, by omega, by omega, rfl, by omega, by omega, hr1', hrr, hk2⟩
  case round =>
    clear hr1' hrr hk2
    obtain ⟨k, p, err, hkl, hk40, rfl, hp0, hp1, hrd, hrr, hk⟩ := hrel
    by_cases hlt : k < len ∧ k < 40
    · obtain ⟨hkl', hk40'⟩ := hlt
      obtain ⟨b, off, rfl, hbl, hcells⟩ := HR.out.at_ (by omega) (by decide)
      clear HR
      obtain ⟨hc0, d, hd, wd⟩ := hcells k hkl' 0 _ rfl
      obtain ⟨hc1, n, hn, wn⟩ := hcells k hkl' 1 _ rfl
      obtain ⟨hc2, t, ht, wt⟩ := hcells k hkl' 2 _ rfl
      rw [hd] at hc0
      rw [hn] at hc1
      rw [ht] at hc2
      clear hd hn ht hcells
      have g0 : wr.cell? ⟨b, off + k * 3, none⟩ = some (.int .i64 d) := (hk.cell (p := ⟨b, off + (k * 3 + 0), none⟩) hbl (by simp)).trans hc0
      have g1 : wr.cell? ⟨b, off + k * 3 + 1, none⟩ = some (.int .i64 n) := (hk.cell (p := ⟨b, off + (k * 3 + 1), none⟩) hbl (by simp)).trans hc1
      have g2 : wr.cell? ⟨b, off + k * 3 + 2, none⟩ = some (.string t) := (hk.cell (p := ⟨b, off + (k * 3 + 2), none⟩) hbl (by simp)).trans hc2
      rw [HB0.out] at hbl
      clear hc0 hc1 hc2
      by_cases h0 : d = 0
      · subst h0
        go_wp2_with fail
        refine (byte_any b0 s p err wr hrd hp0 hp1 hm).mono ?_
        rintro e w3 ⟨rfl, hrd3, k3⟩
        have hw : b0 < wr.heap.size := hrd.lt
        have q0 := (k3.cell (p := ⟨b, off + k * 3, none⟩) (Nat.lt_trans hbl hw) (by simp; omega)).trans g0
        have q1 := (k3.cell (p := ⟨b, off + k * 3 + 1, none⟩) (Nat.lt_trans hbl hw) (by simp; omega)).trans g1
        have q2 := (k3.cell (p := ⟨b, off + k * 3 + 2, none⟩) (Nat.lt_trans hbl hw) (by simp; omega)).trans g2
        have hrr3 := hrr.keeps k3 (by simp; omega)
        have hk3 := hk.next k3 (by simp; omega)
        have HC := Lib.hid (read_byte b1 s p err n t w3 hrr3 hp0 hp1 hm (i64_bd wn).2)
        clear g0 g1 g2 hrr hrd hk k3 hw
        go_wp2_with fail
        refine HC.out.mono ?_
        clear HC
        rintro e w4 ⟨rfl, hrr4, k4⟩
        have hrd4 := hrd3.keeps k4 (by simp; omega)
        have hk4 := hk3.next k4 (by simp; omega)
        obtain ⟨p0, p1⟩ := at_bd s p err 1 hp0 hp1
        clear hrd3 hrr3 hk3 k4 q0 q1 q2 hp0 hp1
        generalize rdAt s p err 1 = pp at *
        generalize rdErr s p err 1 = ee at *
        generalize rdByte s p err = vv at *
        generalize ByteArray.mk #[] = tt at *
        obtain ⟨r0, r1, r2, _, _⟩ := hrr4.cells
        have hw1 : IntKind.i64.wrap ((s.size : Int) - pp) = (s.size : Int) - pp := IntWalk.i64_in _ (by omega)
        go_wp2
        go_quiet (fail)
        have hrd5 := hrd4.drewN nq
        have hrr5 := hrr4.drewN nq
        have hk5 := hk4.drewN nq
        clear hrd4 hrr4 hk4 r0 r1 r2
        generalize w4.drewN nq = w5 at *
        obtain ⟨r0, r1, r2, _, _⟩ := hrr5.cells
        have HA := Lib.hid (fun n => at_any b0 s pp ee (w5.drewN n) (hrd5.drewN n))
        have HE := Lib.hid (fun n => err_any b0 s pp ee (w5.drewN n) (hrd5.drewN n))
        have HL := Lib.hid (fun n => left_any b0 s pp ee (w5.drewN n) (hrd5.drewN n) p0 p1 hm)
        by_cases he : ee = 0
        · subst he
          rw [show rdLeft s pp 0 = s.size - pp from rfl] at HL
          clear hw1
          go_wp2
          go_quiet ((first | (go_at_call 23; with_reducible exact quiet_q (HA.out _)) | (go_at_call 24; with_reducible exact quiet_q (HE.out _)) | (go_at_call 25; with_reducible exact quiet_q (HL.out _))))
          go_wp2
          go_roundw
          case rel => exact ⟨k + 1, pp, 0, by omega, by omega, by go_num, p0, p1, hrd5.drewN _, hrr5.drewN _, hk5.drewN _⟩
          case measure => simp [intOf]; omega
        · have hee : (ee != 0) = true := by rw [bne_iff_ne]; exact he
          rw [show rdLeft s pp ee = 0 from by unfold rdLeft; rw [if_neg he]] at HL
          clear hw1 he
          go_wp2
          go_quiet ((first | (go_at_call 23; with_reducible exact quiet_q (HA.out _)) | (go_at_call 24; with_reducible exact quiet_q (HE.out _)) | (go_at_call 25; with_reducible exact quiet_q (HL.out _))))
          go_wp2
          go_roundw
          case rel => exact ⟨k + 1, pp, ee, by omega, by omega, by go_num, p0, p1, hrd5.drewN _, hrr5.drewN _, hk5.drewN _⟩
          case measure => simp [intOf]; omega
      by_cases h1 : d = 1
      · subst h1
        go_wp2_with fail
        refine (rtwo_any b0 s p err wr hrd hp0 hp1 hm).mono ?_
        rintro e w3 ⟨rfl, hrd3, k3⟩
        have hw : b0 < wr.heap.size := hrd.lt
        have q0 := (k3.cell (p := ⟨b, off + k * 3, none⟩) (Nat.lt_trans hbl hw) (by simp; omega)).trans g0
        have q1 := (k3.cell (p := ⟨b, off + k * 3 + 1, none⟩) (Nat.lt_trans hbl hw) (by simp; omega)).trans g1
        have q2 := (k3.cell (p := ⟨b, off + k * 3 + 2, none⟩) (Nat.lt_trans hbl hw) (by simp; omega)).trans g2
        have hrr3 := hrr.keeps k3 (by simp; omega)
        have hk3 := hk.next k3 (by simp; omega)
        have HC := Lib.hid (read_two b1 s p err n t w3 hrr3 hp0 hp1 hm (i64_bd wn).2)
        clear g0 g1 g2 hrr hrd hk k3 hw
        go_wp2_with fail
        refine HC.out.mono ?_
        clear HC
        rintro e w4 ⟨rfl, hrr4, k4⟩
        have hrd4 := hrd3.keeps k4 (by simp; omega)
        have hk4 := hk3.next k4 (by simp; omega)
        obtain ⟨p0, p1⟩ := at_bd s p err 2 hp0 hp1
        clear hrd3 hrr3 hk3 k4 q0 q1 q2 hp0 hp1
        generalize rdAt s p err 2 = pp at *
        generalize rdErr s p err 2 = ee at *
        generalize rdTwo s p err = vv at *
        generalize ByteArray.mk #[] = tt at *
        obtain ⟨r0, r1, r2, _, _⟩ := hrr4.cells
        have hw1 : IntKind.i64.wrap ((s.size : Int) - pp) = (s.size : Int) - pp := IntWalk.i64_in _ (by omega)
        go_wp2
        go_quiet (fail)
        have hrd5 := hrd4.drewN nq
        have hrr5 := hrr4.drewN nq
        have hk5 := hk4.drewN nq
        clear hrd4 hrr4 hk4 r0 r1 r2
        generalize w4.drewN nq = w5 at *
        obtain ⟨r0, r1, r2, _, _⟩ := hrr5.cells
        have HA := Lib.hid (fun n => at_any b0 s pp ee (w5.drewN n) (hrd5.drewN n))
        have HE := Lib.hid (fun n => err_any b0 s pp ee (w5.drewN n) (hrd5.drewN n))
        have HL := Lib.hid (fun n => left_any b0 s pp ee (w5.drewN n) (hrd5.drewN n) p0 p1 hm)
        by_cases he : ee = 0
        · subst he
          rw [show rdLeft s pp 0 = s.size - pp from rfl] at HL
          clear hw1
          go_wp2
          go_quiet ((first | (go_at_call 23; with_reducible exact quiet_q (HA.out _)) | (go_at_call 24; with_reducible exact quiet_q (HE.out _)) | (go_at_call 25; with_reducible exact quiet_q (HL.out _))))
          go_wp2
          go_roundw
          case rel => exact ⟨k + 1, pp, 0, by omega, by omega, by go_num, p0, p1, hrd5.drewN _, hrr5.drewN _, hk5.drewN _⟩
          case measure => simp [intOf]; omega
        · have hee : (ee != 0) = true := by rw [bne_iff_ne]; exact he
          rw [show rdLeft s pp ee = 0 from by unfold rdLeft; rw [if_neg he]] at HL
          clear hw1 he
          go_wp2
          go_quiet ((first | (go_at_call 23; with_reducible exact quiet_q (HA.out _)) | (go_at_call 24; with_reducible exact quiet_q (HE.out _)) | (go_at_call 25; with_reducible exact quiet_q (HL.out _))))
          go_wp2
          go_roundw
          case rel => exact ⟨k + 1, pp, ee, by omega, by omega, by go_num, p0, p1, hrd5.drewN _, hrr5.drewN _, hk5.drewN _⟩
          case measure => simp [intOf]; omega
      · have hd0 : (d == 0) = false := by simpa using h0
        have hd1 : (d == 1) = false := by simpa using h1
        have H0 := Lib.hid h0
        have H1 := Lib.hid h1
        clear h0 h1
        have HT := Lib.hid (text_any b0 s p err n wr hrd hp0 hp1 hm (i64_bd wn).2)
        go_wp2_with fail
        refine HT.out.mono ?_
        clear HT
        rintro e w3 ⟨rfl, hrd3, k3⟩
        have hw : b0 < wr.heap.size := hrd.lt
        have q0 := (k3.cell (p := ⟨b, off + k * 3, none⟩) (Nat.lt_trans hbl hw) (by simp; omega)).trans g0
        have q1 := (k3.cell (p := ⟨b, off + k * 3 + 1, none⟩) (Nat.lt_trans hbl hw) (by simp; omega)).trans g1
        have q2 := (k3.cell (p := ⟨b, off + k * 3 + 2, none⟩) (Nat.lt_trans hbl hw) (by simp; omega)).trans g2
        have hrr3 := hrr.keeps k3 (by simp; omega)
        have hk3 := hk.next k3 (by simp; omega)
        have HC := Lib.hid (read_text b1 s p err d n t w3 hrr3 hp0 hp1 hm (i64_bd wn).2 H0.out H1.out)
        clear g0 g1 g2 hrr hrd hk k3 hw
        go_wp2_with fail
        refine HC.out.mono ?_
        clear HC
        rintro e w4 ⟨rfl, hrr4, k4⟩
        have hrd4 := hrd3.keeps k4 (by simp; omega)
        have hk4 := hk3.next k4 (by simp; omega)
        obtain ⟨p0, p1⟩ := at_bd s p err n hp0 hp1
        clear hrd3 hrr3 hk3 k4 q0 q1 q2 hp0 hp1
        generalize rdAt s p err n = pp at *
        generalize rdErr s p err n = ee at *
        skip
        generalize rdText s p err n = tt at *
        obtain ⟨r0, r1, r2, _, _⟩ := hrr4.cells
        have hw1 : IntKind.i64.wrap ((s.size : Int) - pp) = (s.size : Int) - pp := IntWalk.i64_in _ (by omega)
        go_wp2
        go_quiet (fail)
        have hrd5 := hrd4.drewN nq
        have hrr5 := hrr4.drewN nq
        have hk5 := hk4.drewN nq
        clear hrd4 hrr4 hk4 r0 r1 r2
        generalize w4.drewN nq = w5 at *
        obtain ⟨r0, r1, r2, _, _⟩ := hrr5.cells
        have HA := Lib.hid (fun n => at_any b0 s pp ee (w5.drewN n) (hrd5.drewN n))
        have HE := Lib.hid (fun n => err_any b0 s pp ee (w5.drewN n) (hrd5.drewN n))
        have HL := Lib.hid (fun n => left_any b0 s pp ee (w5.drewN n) (hrd5.drewN n) p0 p1 hm)
        by_cases he : ee = 0
        · subst he
          rw [show rdLeft s pp 0 = s.size - pp from rfl] at HL
          clear hw1
          go_wp2
          go_quiet ((first | (go_at_call 23; with_reducible exact quiet_q (HA.out _)) | (go_at_call 24; with_reducible exact quiet_q (HE.out _)) | (go_at_call 25; with_reducible exact quiet_q (HL.out _))))
          go_wp2
          go_roundw
          case rel => exact ⟨k + 1, pp, 0, by omega, by omega, by go_num, p0, p1, hrd5.drewN _, hrr5.drewN _, hk5.drewN _⟩
          case measure => simp [intOf]; omega
        · have hee : (ee != 0) = true := by rw [bne_iff_ne]; exact he
          rw [show rdLeft s pp ee = 0 from by unfold rdLeft; rw [if_neg he]] at HL
          clear hw1 he
          go_wp2
          go_quiet ((first | (go_at_call 23; with_reducible exact quiet_q (HA.out _)) | (go_at_call 24; with_reducible exact quiet_q (HE.out _)) | (go_at_call 25; with_reducible exact quiet_q (HL.out _))))
          go_wp2
          go_roundw
          case rel => exact ⟨k + 1, pp, ee, by omega, by omega, by go_num, p0, p1, hrd5.drewN _, hrr5.drewN _, hk5.drewN _⟩
          case measure => simp [intOf]; omega
    · have hlt' : len ≤ k ∨ 40 ≤ k := by omega
      clear hlt HR
      by_cases hc : k < len
      · have : 40 ≤ k := by omega
        go_wp2_with (go_at_call 7; refine (live_any _).mono ?_; rintro e w' ⟨rfl, hkl⟩)
        go_ret
        exact ⟨rfl, (hk.next hkl (by simp)).all⟩
      · go_wp2_with (go_at_call 7; refine (live_any _).mono ?_; rintro e w' ⟨rfl, hkl⟩)
        go_ret
        exact ⟨rfl, (hk.next hkl (by simp)).all⟩
end Bi
end Go.Proofs.Ytidfljnjghgkgaa
