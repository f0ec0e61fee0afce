/- The law LatchPlays: its walk. -/
import Derived.Test.YtckindhnhbcgoaaLatchK
import Derived.Test.YtckindhnhbcgoaaRecs
import Derived.Laws.MakeOwn
import Derived.OwnWalk
namespace Go.Proofs.Ytckindhnhbcgoaa
open Go.RowKit
namespace La
open Sm
abbrev deedK : List TypeDesc := [.int .i64, .int .i64, .int .i64]
abbrev zrow : Array Value := #[.int .i64 0, .int .i64 0, .int .i64 0, .int .i64 0, .int .i64 0, .int .i64 0, .int .i64 0, .int .i64 0, .bool false, .bool false, .bool false, .bool false, .bool false, .bool false, .bool false, .bool false]
theorem row_all : (Try.prog.info? 46).map (fun i => (i.zero, i.size, i.bytes)) = some (some (.agg zrow), 16, 72) := by kernel_rfl
theorem mk_any (z : Int) (n : Nat) (h : z = (n : Int)) (hn : n ≤ 8) (w : World) : (Instr.makeSlice 25 (.int .i64 z) (.int .i64 z)).run Try.prog w = .ok (.slice (some ⟨w.heap.size, 0, none⟩) n n) (w.alloc (.cells (madeCells zrow (n * 16)) 46)) := by
  obtain ⟨i, hi, hz, hs, hb⟩ := info_parts row_all
  subst h
  have := run_make (P := Try.prog) w 25 46 i (.agg zrow) Try.underlying25 hi hz .i64 .i64 n n (by omega) (Int.le_refl _) (by rw [hb]; omega) (by omega)
  rw [hs] at this
  exact this
theorem made_get (n i j : Nat) (hi : i < n) (hj : j < 16) : (madeCells zrow (n * 16))[i * 16 + j]? = zrow[j]? := by
  have hlt : i * 16 + j < n * 16 := by omega
  have h16 : zrow.size = 16 := rfl
  unfold madeCells
  rw [Array.getElem?_map, Array.getElem?_range, if_pos hlt]
  simp only [Option.map_some, h16]
  rw [show (i * 16 + j) % 16 = j from by omega]
  rw [getElem!_pos zrow j (by rw [h16]; exact hj), Array.getElem?_eq_getElem (show j < zrow.size from by rw [h16]; exact hj)]
theorem rows_made (w : World) (n : Nat) : Rows (w.alloc (.cells (madeCells zrow (n * 16)) 46)) w.heap.size n (fun _ _ => 0) (fun _ _ => false) := by
  have hB := Blk.new w 46 (madeCells zrow (n * 16))
  refine ⟨fun i hi j v hv => ?_, fun i _ j _ => hB.frozen _, by simp⟩
  have hj : j < 16 := (List.getElem?_eq_some_iff.1 hv).1
  rw [hB.cell, made_get n i j hi hj, ← hv]
  show zrow[j]? = zrow.toList[j]?
  rw [Array.getElem?_toList]
theorem sync_0 (n : Nat) : Sync n 0 (fun _ => 0) (fun _ => 0) (fun _ _ => 0) (fun _ _ => false) := fun i hi => by
  exact ⟨up_zero.symm, num8_zero.symm, fun _ _ => ⟨Int.le_refl _, Int.le_refl _⟩⟩
/-- Board and rows at the head of a round. -/
def Both (w : World) (gb gr n : Nat) (m : Int) (wr : World) : Prop := ∃ L D X Y, Bd wr gb L D n ∧ Rows wr gr n X Y ∧ Sync n m L D X Y ∧ Keeps [] w wr
theorem Both.step {w wr : World} {gb gr n c : Nat} {m : Int} (h : Both w gb gr n m wr) (d o x : Int) (hn : n ≤ 8) (hg : gb ≠ gr) (hw : w.heap.size ≤ gb ∧ w.heap.size ≤ gr) (hm0 : 0 ≤ m) (hm : m ≤ 1000) :
    Calls Try.prog 7 #[.pointer (some ⟨gb, 0, none⟩), .slice (some ⟨gr, 0, none⟩) n c, .agg #[.int .i64 d, .int .i64 o, .int .i64 x]] wr fun e w' => e = .returned (.bool true) ∧ Both w gb gr n (m + 1) w' := by
  obtain ⟨L, D, X, Y, hA, hR, hS, hK⟩ := h
  refine (step_any gb gr n c m d o x L D X Y wr hA hR hS hn hg hm0 hm).mono ?_
  rintro e w' ⟨rfl, L', D', X', Y', hA', hR', hS', hK'⟩
  exact ⟨rfl, L', D', X', Y', hA', hR', hS', hK.next hK' (by simp; omega)⟩
theorem Both.told {w wr : World} {gb gr n c : Nat} {m : Int} (h : Both w gb gr n m wr) (hn : n ≤ 8) :
    Calls Try.prog 8 #[.pointer (some ⟨gb, 0, none⟩), .slice (some ⟨gr, 0, none⟩) n c] wr fun e w' => e = .returned (.bool true) ∧ Both w gb gr n m w' := by
  obtain ⟨L, D, X, Y, hA, hR, hS, hK⟩ := h
  refine (told_any gb gr n c m L D X Y wr hA hR hS hn).mono ?_
  rintro e w' ⟨rfl, hb⟩
  exact ⟨rfl, L, D, X, Y, bd_of_below hA hb, rows_of_below hR hb, hS, hK.trans (Keeps.of_below hb [])⟩
theorem Both.keep {w wr : World} {gb gr n : Nat} {m : Int} (h : Both w gb gr n m wr) : Keeps [] w wr := by
  obtain ⟨L, D, X, Y, hA, hR, hS, hK⟩ := h
  exact hK
theorem lim_nat (o : Int) : ∃ n : Nat, lim o = n ∧ n ≤ 8 ∧ (o < 0 ∧ n = 0 ∨ 8 < o ∧ n = 8 ∨ o = n) := by
  unfold lim
  by_cases h0 : o < 0
  · exact ⟨0, by rw [if_pos h0]; rfl, by omega, .inl ⟨h0, rfl⟩⟩
  · by_cases h1 : 8 < o
    · exact ⟨8, by rw [if_neg h0, if_pos h1]; rfl, by omega, .inr (.inl ⟨h1, rfl⟩)⟩
    · exact ⟨o.toNat, by rw [if_neg h0, if_neg h1]; omega, by omega, .inr (.inr (by omega))⟩
theorem start_both (w w1 : World) (n : Nat) (hA : Bd w1 w.heap.size (fun _ => 0) (fun _ => 0) n) (hK : Keeps [] w w1) :
    Both w w.heap.size w1.heap.size n 0 (w1.alloc (.cells (madeCells zrow (n * 16)) 46)) ∧ w.heap.size < w1.heap.size :=
  ⟨⟨_, _, _, _, hA.alloc _, rows_made w1 n, sync_0 n, hK.alloc _⟩, hA.lt⟩
attribute [local irreducible] Both
set_option maxRecDepth 100000 in
set_option maxHeartbeats 2000000 in
theorem plays_law (o : Int) (a : Option Addr) (len cap : Nat) (R : Nat → Nat → Value) (w : World) (_ : (Lit.int .i64 o).wf = true) (hR : Recs w a len cap deedK R) :
    Calls Try.prog 3 #[.int .i64 o, .slice a len cap] w fun e w' => e = .returned (.bool true) ∧ Below w.heap.size w w' := by
  obtain ⟨hlen, hcap⟩ := hR.len
  have HR := Lib.hid hR
  clear hR
  obtain ⟨n, hl, hn, hc⟩ := lim_nat o
  have HN := Lib.hid (fun V => new_any o V)
  rw [hl] at HN
  clear hl
  rcases hc with ⟨ho, hn0⟩ | ⟨ho, hn0⟩ | rfl
  case' inl => have hmk := fun V => mk_any 0 n (by omega) hn V
  case' inl => clear hn0
  case' inr.inl => have hmk := fun V => mk_any 8 n (by omega) hn V
  case' inr.inl => clear hn0
  case' inr.inr => have hmk := fun V => mk_any n n rfl hn V
  all_goals
    go_enter Try.func3, Try.ntmps3
    go_wp2_with fail
    refine (HN.out _).mono ?_
    clear HN
    rintro e w1 ⟨rfl, hA, hK⟩
    obtain ⟨hb, hlt⟩ := start_both w w1 n hA hK
    clear hA hK
    generalize hgb : w.heap.size = gb at *
    have HGB := Lib.hid hgb
    have hs0 : w.heap.size ≤ gb := by rw [hgb]; exact Nat.le_refl _
    clear hgb
    go_wp2_with fail
    clear hmk
    generalize hgr : w1.heap.size = gr at *
    have hs1 : w.heap.size ≤ gr := by omega
    clear hgr
    have hne : gb ≠ gr := by omega
    clear hlt
    generalize w1.alloc (.cells (madeCells zrow (n * 16)) 46) = w2 at *
    go_loopw [7] (fun i wr => ∃ k : Nat, k ≤ len ∧ k ≤ 80 ∧ i = .int .i64 k ∧ Both w gb gr n (k : Int) wr) (fun i _ => 80 - (intOf i).toNat)
    case atStart => exact ⟨0, by omega, by omega, rfl, hb⟩
    case round =>
      clear hb
      obtain ⟨k, hkl, hk80, rfl, hb⟩ := hrel
      by_cases hlt : k < len ∧ k < 80
      · obtain ⟨hkl', hk80'⟩ := hlt
        obtain ⟨b, off, rfl, hbl, hcells⟩ := HR.out.at_ (by omega) (by decide)
        clear HR
        obtain ⟨hc0, d, hd, wd⟩ := hcells k hkl' 0 _ rfl
        obtain ⟨hc1, p, hp, wp⟩ := hcells k hkl' 1 _ rfl
        obtain ⟨hc2, x, hx, wx⟩ := hcells k hkl' 2 _ rfl
        rw [hd] at hc0
        rw [hp] at hc1
        rw [hx] at hc2
        clear hd hp hx hcells wd wp wx
        have hk := hb.keep
        have g0 : wr.cell? ⟨b, off + k * 3, none⟩ = some (.int .i64 d) := (hk.cell (p := ⟨b, off + (k * 3 + 0), none⟩) hbl (by simp)).trans hc0
        have g1 : wr.cell? ⟨b, off + k * 3 + 1, none⟩ = some (.int .i64 p) := (hk.cell (p := ⟨b, off + (k * 3 + 1), none⟩) hbl (by simp)).trans hc1
        have g2 : wr.cell? ⟨b, off + k * 3 + 2, none⟩ = some (.int .i64 x) := (hk.cell (p := ⟨b, off + (k * 3 + 2), none⟩) hbl (by simp)).trans hc2
        clear hc0 hc1 hc2 hk
        have HC := Lib.hid (hb.step (c := n) d p x hn hne ⟨hs0, hs1⟩ (by omega) (by omega))
        clear hb
        go_wp2_with fail
        refine HC.out.mono ?_
        clear HC g0 g1 g2
        rintro e v1 ⟨rfl, hb1⟩
        have HC := Lib.hid (hb1.told (c := n) hn)
        clear hb1
        go_wp2_with fail
        refine HC.out.mono ?_
        clear HC
        rintro e v2 ⟨rfl, hb2⟩
        go_wp2
        go_roundw
        case rel => exact ⟨k + 1, by omega, by omega, by go_num, by rw [show (((k + 1 : Nat)) : Int) = (k : Int) + 1 from by omega]; exact hb2⟩
        case measure => simp [intOf]; omega
      · have hlt' : len ≤ k ∨ 80 ≤ k := by omega
        clear hlt HR
        have hk := hb.keep
        clear hb
        by_cases hc : k < len
        all_goals
          go_wp2_with (go_at_call 9; refine (live_any _).mono ?_; rintro e v1 ⟨rfl, j1⟩)
          go_ret
          exact ⟨rfl, (hk.trans j1).all⟩
end La
end Go.Proofs.Ytckindhnhbcgoaa
