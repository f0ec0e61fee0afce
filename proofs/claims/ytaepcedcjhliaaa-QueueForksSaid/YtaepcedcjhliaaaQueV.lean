/- The law QueuePlays: its walk. -/
import Derived.Test.YtaepcedcjhliaaaQueS
namespace Go.Proofs.Ytaepcedcjhliaaa
open Go.RowKit
namespace Qp
open Sm FiT
theorem dcl_eq (d : Int) (x : It) (st n : Int) : dcl d x st n = [.int .i64 d] ++ cs x ++ [.int .i64 st, .int .i64 n] := rfl
theorem dcl_info (d : Int) (x : It) (st n : Int) : (Try.prog.info? 32).map (·.size) = some (dcl d x st n).length := by
  rw [dcl_eq]; simp only [List.length_append, cs_len]; kernel_rfl
/-- The two new queues, in memory. -/
theorem pl_0 {w w1 w2 : World} {q g : Nat} {L : Int} {c1 c2 : Nat} (h1 : Qe w1 q g g q none 0 [] [] L) (hk1 : Keeps [] w w1) (hk2 : Keeps [] w1 w2) (hq0 : w.heap.size ≤ q) (hg0 : w.heap.size ≤ g) :
    Pl w q w2.heap.size L (w2.alloc (.cells #[.slice none 0 c1, .slice none 0 c2, .int .i64 L] 47)) := by
  have hl := h1.lt
  have hz1 := hk1.size
  have hz2 := hk2.size
  have hk3 : Keeps [] w1 (w2.alloc (.cells #[.slice none 0 c1, .slice none 0 c2, .int .i64 L] 47)) := hk2.alloc _
  exact ⟨g, g, q, none, 0, [], [], _, _, _, ⟨h1.kp hk3, ⟨none, c1, none, c2, rfl, ⟨rfl, fun h => absurd h (by simp)⟩, ⟨rfl, fun h => absurd h (by simp)⟩, by simp⟩, Blk.new _ _ _, hk1.trans hk3, by omega, by omega⟩⟩
theorem pl_slice {w wr : World} {q p6 g r y c : Nat} {lim : Int} {a : Option Addr} {l : List It} {dl : List Cl} {u0 u1 u2 : Value} (h : PlS w wr q p6 lim g r y a c l dl u0 u1 u2) : ∃ s0 k0 s1 k1, u0 = .slice s0 l.length k0 ∧ u1 = .slice s1 dl.length k1 ∧ u2 = .int .i64 lim := by
  obtain ⟨a', c', b', d', hv, _⟩ := h.rf
  injection hv with hv
  injection hv with hv
  injection hv with e1 hv
  injection hv with e2 hv
  injection hv with e3
  exact ⟨_, _, _, _, e1, e2, e3⟩
theorem IsStep.keep {q g r y : Nat} {lim : Int} {w : World} {e : Ending} {w' : World} (h : IsStep q g r y lim w e w') : Keeps [q, g, r, y] w w' := by
  obtain ⟨_, _, _, _, _, _, _, _, _, _, h, _⟩ := h
  exact h
theorem pl_mk {w wr : World} {q p6 g r y c : Nat} {lim : Int} {a : Option Addr} {l : List It} {dl : List Cl} {u0 u1 u2 : Value} (h : PlS w wr q p6 lim g r y a c l dl u0 u1 u2) : Pl w q p6 lim wr := ⟨g, r, y, a, c, l, dl, u0, u1, u2, h⟩
attribute [local irreducible] Pl IsStep cs clc dcl
set_option maxRecDepth 100000 in
set_option maxHeartbeats 2000000 in
theorem plays_law (o : Int) (a : Option Addr) (len cap : Nat) (R : Nat → Nat → Value) (w : World) (_wo : (Lit.int .i64 o).wf = true) (hR : Recs w a len cap deedK R) :
    Calls Try.prog 4 #[.int .i64 o, .slice a len cap] w fun e w' => e = .returned (.bool true) ∧ Below w.heap.size w w' := by
  obtain ⟨hlen, hcap⟩ := hR.len
  have HR := Lib.hid hR
  clear hR
  go_enter Try.func4, Try.ntmps4
  go_wp2_with fail
  refine (new_q o _).mono ?_
  rintro e w1 ⟨q, g, rfl, hq, hk1, hq0, hg0⟩
  go_wp2_with fail
  refine (rnew_q o _).mono ?_
  rintro e w2 ⟨rfl, hk2⟩
  generalize qlim o = L at *
  have h0 := pl_0 (c1 := 0) (c2 := 0) hq hk1 hk2 hq0 hg0
  clear hq hk1 hk2 hq0 hg0
  go_wp2_with fail
  generalize w2.alloc (.cells #[.slice none 0 0, .slice none 0 0, .int .i64 L] 47) = V0 at *
  generalize w2.heap.size = p6 at *
  go_loopw [7] (fun i wr => ∃ k : Nat, k ≤ len ∧ k ≤ 80 ∧ i = .int .i64 k ∧ Pl w q p6 L wr) (fun i _ => 80 - (intOf i).toNat)
  case atStart => exact ⟨0, by omega, by omega, rfl, h0⟩
  case round =>
    clear h0
    obtain ⟨k, hkl, hk80, rfl, hh⟩ := hrel
    obtain ⟨g, r, y, a1, c1, l, dl, u0, u1, u2, hS⟩ := hh.open_
    clear hh
    obtain ⟨s0, k0, s1, k1, rfl, rfl, rfl⟩ := pl_slice hS
    obtain ⟨b0, b1, b2⟩ := blkq hS.b6
    have hp6 := hS.b6.lt
    by_cases hlt : k < len ∧ k < 80
    · obtain ⟨hkl', hk80'⟩ := hlt
      obtain ⟨b, off, rfl, hbl, hrg⟩ := deed_at HR.out hS.kp k hkl'
      rw [← dcl_eq] at hrg
      have hinf := dcl_info (numAt R k 0) (itAt R k) (numAt R k 8) (numAt R k 9)
      generalize numAt R k 0 = d at *
      generalize itAt R k = x at *
      generalize numAt R k 8 = st at *
      generalize numAt R k 9 = nn at *
      have hbr := Nat.lt_of_lt_of_le hbl hS.kp.size
      have hk0' : (0 : Int) ≤ (k : Int) := by omega
      have hk1' : (k : Int) < (len : Int) := by omega
      have hbs := hS.bs
      have HS := Lib.hid hS
      clear hS
      go_wp2_with fail
      have k9 : Keeps [] wr wr.drew := (Keeps.refl _ _).drew
      have hSd := HS.out.kk k9
      have hrgd := hrg.keepz k9 hbr (by simp)
      have hbd := Nat.lt_of_lt_of_le hbr k9.size
      obtain ⟨c0, c1, c2⟩ := blkq hSd.b6
      have hfr := hSd.b6.frozen
      clear HS hrg hbr k9 b0 b1 b2 hp6
      refine wp_region_held_drew (S := (fun V => V.rangeAt b (off + k * 10) (dcl d x st nn))) (by kernel_rfl) hrgd (fun hHeld => ?_)
      generalize wr.drew = U at *
      refine' wpAnyH_take (i := 0) (oi := _) (v := _) ?hA0 (by kernel_rfl) (by kernel_rfl) (by kernel_rfl) ?hQA0 (Or.inl ⟨?hwA0, ?hyA0⟩) hHeld ?restA0
      case hA0 => (simp only [List.getElem?_toArray, List.getElem?_cons_zero]; rfl)
      case hQA0 => exact fun _ _ _ h => h
      case hwA0 => rfl
      case hyA0 => (intro w hSw; (try dsimp only at hSw); go_simp; try with_reducible rfl)
      try simp only [Act.put, List.setIfInBounds_toArray, List.set_cons_zero, List.set_cons_succ]
      refine' wpAnyH_take (i := 2) (oi := _) (v := _) ?hA2 (by kernel_rfl) (by kernel_rfl) (by kernel_rfl) ?hQA2 (Or.inl ⟨?hwA2, ?hyA2⟩) hHeld ?restA2
      case hA2 => (simp only [List.getElem?_toArray, List.getElem?_cons_succ, List.getElem?_cons_zero]; rfl)
      case hQA2 => exact fun _ _ _ h => h
      case hwA2 => rfl
      case hyA2 => (intro w hSw; (try dsimp only at hSw); go_simp; try with_reducible rfl)
      try simp only [Act.put, List.setIfInBounds_toArray, List.set_cons_zero, List.set_cons_succ]
      refine' wpAnyH_take (i := 3) (oi := _) (v := _) ?hA3 (by kernel_rfl) (by kernel_rfl) (by kernel_rfl) ?hQA3 (Or.inl ⟨?hwA3, ?hyA3⟩) hHeld ?restA3
      case hA3 => (simp only [List.getElem?_toArray, List.getElem?_cons_succ, List.getElem?_cons_zero]; rfl)
      case hQA3 => exact fun _ _ _ h => h
      case hwA3 => rfl
      case hyA3 => (intro w hSw; (try dsimp only at hSw); go_simp; try with_reducible rfl)
      try simp only [Act.put, List.setIfInBounds_toArray, List.set_cons_zero, List.set_cons_succ]
      refine' wpAnyH_take (i := 4) (oi := _) (v := _) ?hA4 (by kernel_rfl) (by kernel_rfl) (by kernel_rfl) ?hQA4 (Or.inl ⟨?hwA4, ?hyA4⟩) hHeld ?restA4
      case hA4 => (simp only [List.getElem?_toArray, List.getElem?_cons_succ, List.getElem?_cons_zero]; rfl)
      case hQA4 => exact fun _ _ _ h => h
      case hwA4 => rfl
      case hyA4 => (intro w hSw; (try dsimp only at hSw); go_simp; try with_reducible rfl)
      try simp only [Act.put, List.setIfInBounds_toArray, List.set_cons_zero, List.set_cons_succ]
      refine' wpAnyH_take (i := 5) (oi := _) (v := .agg (dcl d x st nn).toArray) ?hA5 (by kernel_rfl) (by kernel_rfl) (by kernel_rfl) ?hQA5 ?hyA5 hHeld ?restA5
      case hA5 => (simp only [List.getElem?_toArray, List.getElem?_cons_succ, List.getElem?_cons_zero]; rfl)
      case hQA5 => exact fun _ _ _ h => h
      case hyA5 => exact yieldsIf_load_mid rfl _ _ rfl _ _ rfl (dcl d x st nn) _ (fun _ h => h) Try.underlying32 rfl hinf
      try simp only [Act.put, List.setIfInBounds_toArray, List.set_cons_zero, List.set_cons_succ]
      refine wpAnyH_ready (rs := [1]) (by kernel_rfl) (by simp) ?_
      refine' (AllReadyH.cons (o := _) ?hoQ11 (fun K hK' => ?stQ11) AllReadyH.nil)
      case hoQ11 => (simp only [List.getElem?_toArray, List.getElem?_cons_succ, List.getElem?_cons_zero]; rfl)
      case stQ11 =>
        go_simp
        refine hK'.out _ _ (hHeld) (fun hHeld' => ?_)
        clear hK' K hHeld
        have hHeld := hHeld'
        clear hHeld'
        try simp only [Act.put]
        try simp only [Act.put, List.setIfInBounds_toArray, List.set_cons_zero, List.set_cons_succ]
        refine wpAnyH_ready (rs := [6]) (by kernel_rfl) (by simp) ?_
        refine' (AllReadyH.cons (o := _) ?hoQ26 (fun K hK' => ?stQ26) AllReadyH.nil)
        case hoQ26 => (simp only [List.getElem?_toArray, List.getElem?_cons_succ, List.getElem?_cons_zero]; rfl)
        case stQ26 =>
          go_simp
          refine (step_any d x st nn _ _ hSd.qe (hSd.rf.more (by intro z hz; simp at hz ⊢; omega))).mono ?_
          intro e V1 hst
          have hke := hst.keep
          obtain ⟨x0, x1, x2, y0, y1, y2, zz, rfl, hb6, hkw, hpl⟩ := hSd.step hst
          clear hst
          dsimp only
          try go_wp2_with fail
          obtain ⟨c0, c1, c2⟩ := blkq hb6
          have hfr := hb6.frozen
          have hrgd := hrgd.keepz hke hbd (by simp; omega)
          have hbd := Nat.lt_of_lt_of_le hbd hke.size
          refine hK'.out _ _ (hrgd) (fun hHeld' => ?_)
          clear hK' K hHeld
          have hHeld := hHeld'
          clear hHeld'
          try simp only [Act.put]
          try simp only [Act.put, List.setIfInBounds_toArray, List.set_cons_zero, List.set_cons_succ]
          refine' wpAnyH_take (i := 7) (oi := _) (v := _) ?hSQ27 (by kernel_rfl) (by kernel_rfl) (by kernel_rfl) ?hQSQ27 (Or.inl ⟨?hwSQ27, ?hySQ27⟩) hHeld ?restSQ27
          case hSQ27 => (simp only [List.getElem?_toArray, List.getElem?_cons_succ, List.getElem?_cons_zero]; rfl)
          case hQSQ27 => exact fun _ _ _ h => h
          case hwSQ27 => rfl
          case hySQ27 => (intro w hSw; (try dsimp only at hSw); go_simp; try with_reducible rfl)
          try simp only [Act.put, List.setIfInBounds_toArray, List.set_cons_zero, List.set_cons_succ]
          refine' wpAnyH_take (i := 8) (oi := _) (v := _) ?hSQ28 (by kernel_rfl) (by kernel_rfl) (by kernel_rfl) ?hQSQ28 (Or.inl ⟨?hwSQ28, ?hySQ28⟩) hHeld ?restSQ28
          case hSQ28 => (simp only [List.getElem?_toArray, List.getElem?_cons_succ, List.getElem?_cons_zero]; rfl)
          case hQSQ28 => exact fun _ _ _ h => h
          case hwSQ28 => rfl
          case hySQ28 => (intro w hSw; (try dsimp only at hSw); go_simp; try with_reducible rfl)
          try simp only [Act.put, List.setIfInBounds_toArray, List.set_cons_zero, List.set_cons_succ]
          refine' wpAnyH_take (i := 9) (oi := _) (v := _) ?hSQ29 (by kernel_rfl) (by kernel_rfl) (by kernel_rfl) ?hQSQ29 (Or.inl ⟨?hwSQ29, ?hySQ29⟩) hHeld ?restSQ29
          case hSQ29 => (simp only [List.getElem?_toArray, List.getElem?_cons_succ, List.getElem?_cons_zero]; rfl)
          case hQSQ29 => exact fun _ _ _ h => h
          case hwSQ29 => rfl
          case hySQ29 => (intro w hSw; (try dsimp only at hSw); go_simp; try with_reducible rfl)
          try simp only [Act.put, List.setIfInBounds_toArray, List.set_cons_zero, List.set_cons_succ]
          refine wpAnyH_ready (rs := [10]) (by kernel_rfl) (by simp) ?_
          refine' (AllReadyH.cons (o := _) ?hoQ310 (fun K hK' => ?stQ310) AllReadyH.nil)
          case hoQ310 => (simp only [List.getElem?_toArray, List.getElem?_cons_succ, List.getElem?_cons_zero]; rfl)
          case stQ310 =>
            go_simp
            refine hK'.out _ _ (hHeld.keepz (keep3 p6 _ _ _) hbd (by simp; omega)) (fun hHeld' => ?_)
            clear hK' K hHeld
            have hHeld := hHeld'
            clear hHeld'
            try simp only [Act.put]
            try simp only [Act.put, List.setIfInBounds_toArray, List.set_cons_zero, List.set_cons_succ]
            refine' wpAnyH_take (i := 11) (oi := _) (v := _) ?hUQ311 (by kernel_rfl) (by kernel_rfl) (by kernel_rfl) ?hQUQ311 (Or.inl ⟨?hwUQ311, ?hyUQ311⟩) hHeld ?restUQ311
            case hUQ311 => (simp only [List.getElem?_toArray, List.getElem?_cons_succ, List.getElem?_cons_zero]; rfl)
            case hQUQ311 => exact fun _ _ _ h => h
            case hwUQ311 => rfl
            case hyUQ311 => (intro w hSw; (try dsimp only at hSw); go_simp; try with_reducible rfl)
            try simp only [Act.put, List.setIfInBounds_toArray, List.set_cons_zero, List.set_cons_succ]
            refine wpAnyH_done (by kernel_rfl) ?_ _
            clear hHeld c0 c1 c2 hfr hb6 hkw hke hrgd
            generalize ((V1.setCell ⟨p6, 0, none⟩ (.slice x0 x1 x2)).setCell ⟨p6, 1, none⟩ (.slice y0 y1 y2)).setCell ⟨p6, 2, none⟩ (.int .i64 zz) = wq at *
            obtain ⟨g, r, y, a1, c1, l, dl, u0, u1, u2, hS⟩ := hpl.open_
            clear hpl
            obtain ⟨s0, k0, s1, k1, rfl, rfl, rfl⟩ := pl_slice hS
            obtain ⟨b0, b1, b2⟩ := blkq hS.b6
            have HS := Lib.hid hS
            clear hS
            go_wp2_with fail
            refine (told_any _ _ HS.out.qe HS.out.rf).mono ?_
            rintro e w5 ⟨rfl, hk5⟩
            have hP : Pl w q p6 L w5 := pl_mk (HS.out.kk hk5)
            clear HS b0 b1 b2 hk5
            go_wp2
            go_roundw
            case rel => exact ⟨k + 1, by omega, by omega, by go_num, hP⟩
            case measure => simp [intOf]; omega
    · have hlt' : len ≤ k ∨ 80 ≤ k := by omega
      have hkp := hS.kp
      clear hlt HR hS b0 b1 b2 hp6
      by_cases hc1 : k < len
      case' pos => have hk80' : ¬ k < 80 := by omega
      all_goals
        go_wp2_with fail
        refine (live_any _).mono ?_
        rintro e v1 ⟨rfl, hk1⟩
        have HK := Lib.hid (hkp.trans hk1).all
        clear hkp hk1
        go_wp2
        go_ret
        exact ⟨rfl, HK.out⟩
end Qp
end Go.Proofs.Ytaepcedcjhliaaa
