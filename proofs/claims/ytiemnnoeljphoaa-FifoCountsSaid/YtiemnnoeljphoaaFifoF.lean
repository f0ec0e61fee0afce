/- The law FifoCounts: its walk. -/
import Derived.Test.YtiemnnoeljphoaaFifoE
import Derived.Test.YtiemnnoeljphoaaFifoL
import Derived.Test.YtiemnnoeljphoaaRecs
namespace Go.Proofs.Ytiemnnoeljphoaa
open Go.RowKit
namespace Fi
open Sm FiS
abbrev deedK : List TypeDesc := [.int .i64, .int .i64, .string]
/-- What stands at the head of a round. -/
def Counts (w : World) (g : Nat) (lim : Int) (k : Nat) (cm wt : Int) (wr : World) : Prop :=
  ∃ r l dr, Qu wr g r l lim dr ∧ Keeps [] w wr ∧ w.heap.size ≤ g ∧ w.heap.size ≤ r ∧ cm = wt + (l.length : Int) + dr ∧ 0 ≤ cm ∧ cm ≤ k ∧ 0 ≤ wt ∧ wt ≤ k
theorem Counts.keep {w wr : World} {g k : Nat} {lim cm wt : Int} (h : Counts w g lim k cm wt wr) : Keeps [] w wr := by
  obtain ⟨_, _, _, _, h1, _⟩ := h
  exact h1
theorem Counts.bd {w wr : World} {g k : Nat} {lim cm wt : Int} (h : Counts w g lim k cm wt wr) : 0 ≤ cm ∧ cm ≤ k ∧ 0 ≤ wt ∧ wt ≤ k := by
  obtain ⟨_, _, _, _, _, _, _, _, h1⟩ := h
  exact h1
theorem Counts.push {w wr : World} {g k : Nat} {lim cm wt : Int} (h : Counts w g lim k cm wt wr) (x : ByteArray) (hk : k ≤ 80) :
    Calls Try.prog 7 #[.pointer (some ⟨g, 0, none⟩), .string x] wr fun e w' => ∃ b, e = .returned (.bool b) ∧ Counts w g lim (k + 1) (cm + 1) wt w' := by
  obtain ⟨r, l, dr, hq, hK, hg, hr, hc, hb⟩ := h
  by_cases hf : lim ≤ (l.length : Int)
  · refine (push_full g r l lim dr x wr hq hf ?_).mono ?_
    · have := hq.dr0; omega
    · rintro e w' ⟨rfl, hq', hk'⟩
      exact ⟨_, rfl, r, l, dr + 1, hq', hK.next hk' (by simp; omega), hg, hr, by omega, by omega⟩
  · refine (push_ok g r l lim dr x wr hq (by omega)).mono ?_
    rintro e w' ⟨rfl, r', hq', hk', hrr⟩
    have := hK.size
    exact ⟨_, rfl, r', l ++ [x], dr, hq', hK.next hk' (by simp; omega), hg, by omega, by rw [List.length_append]; simp; omega, by omega⟩
theorem Counts.take_ {w wr : World} {g k : Nat} {lim cm wt : Int} (h : Counts w g lim k cm wt wr) (n : Int) (hk : k ≤ 80) :
    Calls Try.prog 8 #[.pointer (some ⟨g, 0, none⟩), .int .i64 n] wr fun e w' => ∃ (a : Option Addr) (j c : Nat), e = .returned (.slice a j c) ∧ (j : Int) ≤ 80 ∧ Counts w g lim (k + 1) cm (wt + (j : Int)) w' := by
  obtain ⟨r, l, dr, hq, hK, hg, hr, hc, hb⟩ := h
  have hdr : 0 ≤ dr := hq.dr0.1
  refine (take_any g r l lim dr n wr hq (by omega)).mono ?_
  rintro e w' ⟨a, j, c, rfl, hw, _, _⟩
  have hj := hw.jl
  exact ⟨a, j, c, rfl, by omega, r, l.drop j, dr, hw.q, hK.next hw.k (by simp; omega), hg, hr, by rw [List.length_drop]; omega, by omega⟩
attribute [local irreducible] Counts
set_option maxRecDepth 100000 in
set_option maxHeartbeats 2000000 in
theorem counts_law (o : Int) (a : Option Addr) (len cap : Nat) (R : Nat → Nat → Value) (w : World) (wo : (Lit.int .i64 o).wf = true) (hR : Recs w a len cap deedK R) :
    Calls Try.prog 3 #[.int .i64 o, .slice a len cap] w fun e w' => e = .returned (.bool true) ∧ Below w.heap.size w w' := by
  obtain ⟨hlen, hcap⟩ := hR.len
  have HR := Lib.hid hR
  clear hR wo
  go_enter Try.func3, Try.ntmps3
  go_wp2_with fail
  refine (new_any o _).mono ?_
  rintro e w1 ⟨rfl, hq, hk⟩
  have h0 : Counts w w.heap.size (lim16 o) 0 0 0 w1 := by
    unfold Counts
    exact ⟨_, [], 0, hq, hk, Nat.le_refl _, Nat.le_refl _, by simp, by omega⟩
  clear hq hk
  generalize hg : w.heap.size = g at *
  have HG := Lib.hid hg
  clear hg
  go_wp2
  go_loopw [6, 7, 8] (fun cm wt i wr => ∃ (k : Nat) (x y : Int), k ≤ len ∧ k ≤ 80 ∧ i = .int .i64 k ∧ cm = .int .i64 x ∧ wt = .int .i64 y ∧ Counts w g (lim16 o) k x y wr) (fun _ _ i _ => 80 - (intOf i).toNat)
  case atStart => exact ⟨0, 0, 0, by omega, by omega, rfl, rfl, rfl, h0⟩
  case round =>
    clear h0
    obtain ⟨k, x, y, hkl, hk80, rfl, rfl, rfl, hh⟩ := hrel
    obtain ⟨b0, b1, b2, b3⟩ := hh.bd
    by_cases hlt : k < len ∧ k < 80
    · obtain ⟨hkl', hk80'⟩ := hlt
      obtain ⟨b, off, rfl, hbl, hcells⟩ := HR.out.at_ (by omega) (by decide)
      clear HR
      obtain ⟨hc0, d, hd, wd⟩ := hcells k hkl' 0 _ rfl
      obtain ⟨hc1, n, hn, wn⟩ := hcells k hkl' 1 _ rfl
      obtain ⟨hc2, t, ht, wt⟩ := hcells k hkl' 2 _ rfl
      rw [hd] at hc0
      rw [hn] at hc1
      rw [ht] at hc2
      clear hd hn ht hcells wd wn wt
      have hk := hh.keep
      have g0 : wr.cell? ⟨b, off + k * 3, none⟩ = some (.int .i64 d) := (hk.cell (p := ⟨b, off + (k * 3 + 0), none⟩) hbl (by simp)).trans hc0
      have g1 : wr.cell? ⟨b, off + k * 3 + 1, none⟩ = some (.int .i64 n) := (hk.cell (p := ⟨b, off + (k * 3 + 1), none⟩) hbl (by simp)).trans hc1
      have g2 : wr.cell? ⟨b, off + k * 3 + 2, none⟩ = some (.string t) := (hk.cell (p := ⟨b, off + (k * 3 + 2), none⟩) hbl (by simp)).trans hc2
      clear hc0 hc1 hc2 hk
      by_cases h0 : d = 0
      · subst h0
        have HC := Lib.hid (hh.push t hk80)
        clear hh
        go_wp2_with fail
        refine HC.out.mono ?_
        clear HC g0 g1 g2
        rintro e v1 ⟨bb, rfl, hh⟩
        go_wp2
        go_roundw
        case rel => exact ⟨k + 1, x + 1, y, by omega, by omega, by go_num, rfl, rfl, hh⟩
        case measure => simp [intOf]; omega
      · have hd0 : (d == 0) = false := by simpa using h0
        have HC := Lib.hid (hh.take_ n hk80)
        clear hh h0
        go_wp2_with fail
        refine HC.out.mono ?_
        clear HC g0 g1 g2
        rintro e v1 ⟨a1, j, c1, rfl, hj, hh⟩
        go_wp2
        go_roundw
        case rel => exact ⟨k + 1, x, y + (j : Int), by omega, by omega, by go_num, rfl, rfl, hh⟩
        case measure => simp [intOf]; omega
    · have hlt' : len ≤ k ∨ 80 ≤ k := by omega
      clear hlt HR
      unfold Counts at hh
      obtain ⟨r, l, dr, hq, hK, hgg, hrr, hc, _⟩ := hh
      have hlim := hq.dr0.2.2
      have hmx : (o < 0 → (l.length : Int) ≤ 0) ∧ (0 ≤ o → (l.length : Int) ≤ o) := by
        unfold lim16 at hlim
        constructor
        · intro h; rw [if_pos h] at hlim; exact hlim
        · intro h
          rw [if_neg (by omega)] at hlim
          split at hlim <;> omega
      have HQ := Lib.hid hq
      have HK := Lib.hid hK
      subst hc
      have hdr := hq.dr0
      obtain ⟨hdr0, hdr1, _⟩ := hdr
      clear hq hK hlim
      by_cases ho : o < 0
      · have hno := hmx.1 ho
        clear hmx
        by_cases hc1 : k < len
        all_goals
          go_wp2_with fail
          refine (live_any _).mono ?_
          rintro e v1 ⟨rfl, j1⟩
          have hq1 := HQ.out.keeps j1 (by simp) (by simp)
          have HL := Lib.hid (len_any g r l _ _ v1 hq1)
          have HD := Lib.hid (drops_any g r l _ _ v1 hq1)
          have HKK := Lib.hid (HK.out.trans j1)
          clear hq1 j1 HQ HK
          generalize l.length = n at *
          obtain rfl : n = 0 := by omega
          go_wp2_with fail
          refine HL.out.mono ?_
          rintro e v2 ⟨rfl, rfl⟩
          go_wp2_with fail
          refine HD.out.mono ?_
          rintro e v2 ⟨rfl, rfl⟩
          go_wp2_with fail
          refine HL.out.mono ?_
          rintro e v2 ⟨rfl, rfl⟩
          clear HL HD
          go_wp2
          go_ret
          exact ⟨rfl, HKK.out.all⟩
      · have hno := hmx.2 (by omega)
        have ho0 : 0 ≤ o := by omega
        clear hmx ho
        by_cases hc1 : k < len
        all_goals
          go_wp2_with fail
          refine (live_any _).mono ?_
          rintro e v1 ⟨rfl, j1⟩
          have hq1 := HQ.out.keeps j1 (by simp) (by simp)
          have HL := Lib.hid (len_any g r l _ _ v1 hq1)
          have HD := Lib.hid (drops_any g r l _ _ v1 hq1)
          have HKK := Lib.hid (HK.out.trans j1)
          clear hq1 j1 HQ HK
          generalize l.length = n at *
          go_wp2_with fail
          refine HL.out.mono ?_
          rintro e v2 ⟨rfl, rfl⟩
          go_wp2_with fail
          refine HD.out.mono ?_
          rintro e v2 ⟨rfl, rfl⟩
          go_wp2_with fail
          refine HL.out.mono ?_
          rintro e v2 ⟨rfl, rfl⟩
          clear HL HD
          go_wp2
          go_ret
          exact ⟨rfl, HKK.out.all⟩
end Fi
end Go.Proofs.Ytiemnnoeljphoaa
