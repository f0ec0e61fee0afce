/- The law LatchApart: its walk. -/
import Derived.Test.YtckindhnhbcgoaaLatchB
import Derived.Test.YtckindhnhbcgoaaRecs
namespace Go.Proofs.Ytckindhnhbcgoaa
open Go.RowKit
namespace La
open Sm
abbrev deedK : List TypeDesc := [.int .i64, .int .i64, .int .i64]
/-- Two boards hold the same of an owner. -/
def Alike (o : Int) (L D M E : Nat → Int) : Prop := isO 8 o = true → L (at_ o) = M (at_ o) ∧ D (at_ o) = E (at_ o)
theorem Alike.refl (o : Int) (L D : Nat → Int) : Alike o L D L D := fun _ => ⟨rfl, rfl⟩
section
variable {o : Int} {L D M E : Nat → Int}
theorem at_ne {o p : Int} (ho : isO 8 o = true) (hp : isO 8 p = true) (h : p ≠ o) : at_ o ≠ at_ p := by
  have h1 := of_decide_eq_true ho
  have h2 := of_decide_eq_true hp
  unfold at_
  omega
theorem upd_at (L : Nat → Int) (k : Nat) (v : Int) : upd L k v k = v := by unfold upd; rw [if_pos rfl]
theorem upd_ne (L : Nat → Int) (k j : Nat) (v : Int) (h : j ≠ k) : upd L k v j = L j := by unfold upd; rw [if_neg h]
theorem Alike.oV (h : Alike o L D M E) : oV 8 o L = oV 8 o M ∧ oV 8 o D = oV 8 o E := by
  unfold La.oV
  by_cases ho : isO 8 o = true
  · rw [if_pos ho, if_pos ho, if_pos ho, if_pos ho]; exact h ho
  · rw [if_neg ho, if_neg ho, if_neg ho, if_neg ho]; exact ⟨rfl, rfl⟩
theorem Alike.raise (h : Alike o L D M E) (x : Int) : Alike o (rL 8 o x L) D (rL 8 o x M) E := fun ho => by
  unfold rL
  by_cases hx : 0 ≤ x ∧ x ≤ 255
  · rw [if_pos ⟨ho, hx⟩, if_pos ⟨ho, hx⟩, upd_at, upd_at, (h ho).1]; exact ⟨rfl, (h ho).2⟩
  · rw [if_neg (fun hh => hx hh.2), if_neg (fun hh => hx hh.2)]; exact h ho
theorem Alike.open_ (h : Alike o L D M E) : Alike o (oL 8 o L) (oD 8 o L D) (oL 8 o M) (oD 8 o M E) := fun ho => by
  unfold oL oD
  rw [if_pos ho, if_pos ho, if_pos ho, if_pos ho, upd_at, upd_at, upd_at, upd_at, (h ho).1, (h ho).2]
  exact ⟨rfl, rfl⟩
theorem Alike.take_ (h : Alike o L D M E) : Alike o L (oL 8 o D) M (oL 8 o E) := fun ho => by
  unfold oL
  rw [if_pos ho, if_pos ho, upd_at, upd_at]
  exact ⟨(h ho).1, rfl⟩
theorem Alike.raise_far (h : Alike o L D M E) (p x : Int) (hp : p ≠ o) : Alike o (rL 8 p x L) D M E := fun ho => by
  unfold rL
  by_cases hx : isO 8 p = true ∧ 0 ≤ x ∧ x ≤ 255
  · rw [if_pos hx, upd_ne _ _ _ _ (at_ne ho hx.1 hp)]; exact h ho
  · rw [if_neg hx]; exact h ho
theorem Alike.open_far (h : Alike o L D M E) (p : Int) (hp : p ≠ o) : Alike o (oL 8 p L) (oD 8 p L D) M E := fun ho => by
  unfold oL oD
  by_cases hx : isO 8 p = true
  · rw [if_pos hx, if_pos hx, upd_ne _ _ _ _ (at_ne ho hx hp), upd_ne _ _ _ _ (at_ne ho hx hp)]; exact h ho
  · rw [if_neg hx, if_neg hx]; exact h ho
theorem Alike.take_far (h : Alike o L D M E) (p : Int) (hp : p ≠ o) : Alike o L (oL 8 p D) M E := fun ho => by
  unfold oL
  by_cases hx : isO 8 p = true
  · rw [if_pos hx, upd_ne _ _ _ _ (at_ne ho hx hp)]; exact h ho
  · rw [if_neg hx]; exact h ho
end
theorem new8 (w : World) : Calls Try.prog 6 #[.int .i64 8] w fun e w' => e = .returned (.pointer (some ⟨w.heap.size, 0, none⟩)) ∧ Bd w' w.heap.size (fun _ => 0) (fun _ => 0) 8 ∧ Keeps [] w w' := new_any 8 w
/-- What stands at the head of a round. -/
def Head (W : World) (o : Int) (ga gb : Nat) (wr : World) : Prop := ∃ L D M E, Bd wr ga L D 8 ∧ Bd wr gb M E 8 ∧ Alike o L D M E ∧ Keeps [] W wr
attribute [local irreducible] Bd Alike oL oD oV rL rE
set_option maxRecDepth 100000 in
set_option maxHeartbeats 1000000 in
theorem apart_law (a : Option Addr) (len cap : Nat) (R : Nat → Nat → Value) (o : Int) (w : World) (hR : Recs w a len cap deedK R) (_ : (Lit.int .i64 o).wf = true) :
    Calls Try.prog 4 #[.slice a len cap, .int .i64 o] w fun e w' => e = .returned (.bool true) ∧ Below w.heap.size w w' := by
  obtain ⟨hlen, hcap⟩ := hR.len
  have HR := Lib.hid hR
  clear hR
  go_enter Try.func4, Try.ntmps4
  go_wp2_with fail
  refine (new8 _).mono ?_
  rintro e w1 ⟨rfl, h1, k1⟩
  go_wp2_with fail
  refine (new8 _).mono ?_
  rintro e w2 ⟨rfl, h2, k2⟩
  have h1' := h1.keeps k2 (by simp)
  have k12 := k1.trans k2
  have hne : w.heap.size < w1.heap.size := h1.lt
  clear h1 k1 k2
  generalize hga : w.heap.size = ga at *
  generalize w1.heap.size = gb at *
  have HGA := Lib.hid hga
  have hs0 : w.heap.size ≤ ga := by rw [hga]; exact Nat.le_refl _
  clear hga
  go_wp2_with fail
  --ROUND
  go_loopw [7] (fun i wr => ∃ k : Nat, k ≤ len ∧ k ≤ 80 ∧ i = .int .i64 k ∧ Head w o ga gb wr) (fun i _ => 80 - (intOf i).toNat)
  case atStart => exact ⟨0, by omega, by omega, rfl, _, _, _, _, h1', h2, Alike.refl _ _ _, k12⟩
  case round =>
    clear h1' h2 k12
    obtain ⟨k, hkl, hk80, rfl, hh⟩ := hrel
    by_cases hlt : k < len ∧ k < 80
    · obtain ⟨hkl', hk80'⟩ := hlt
      obtain ⟨b, off, rfl, hbl, hcells⟩ := HR.out.at_ (by omega) (by decide)
      clear HR
      obtain ⟨hc0, d, hd, wd⟩ := hcells k hkl' 0 _ rfl
      obtain ⟨hc1, p, hp, wp⟩ := hcells k hkl' 1 _ rfl
      obtain ⟨hc2, x, hx, wx⟩ := hcells k hkl' 2 _ rfl
      rw [hd] at hc0
      rw [hp] at hc1
      rw [hx] at hc2
      clear hd hp hx hcells wd wp wx
      obtain ⟨L, D, M, E, hA, hB, hal, hk⟩ := hh
      have g0 : wr.cell? ⟨b, off + k * 3, none⟩ = some (.int .i64 d) := (hk.cell (p := ⟨b, off + (k * 3 + 0), none⟩) hbl (by simp)).trans hc0
      have g1 : wr.cell? ⟨b, off + k * 3 + 1, none⟩ = some (.int .i64 p) := (hk.cell (p := ⟨b, off + (k * 3 + 1), none⟩) hbl (by simp)).trans hc1
      have g2 : wr.cell? ⟨b, off + k * 3 + 2, none⟩ = some (.int .i64 x) := (hk.cell (p := ⟨b, off + (k * 3 + 2), none⟩) hbl (by simp)).trans hc2
      clear hc0 hc1 hc2
      have hga : ga < wr.heap.size := hA.lt
      have hgb : gb < wr.heap.size := hB.lt
      have hD : Blk (wr.alloc (.cells #[.int .i64 d, .int .i64 p, .int .i64 x] 28)) wr.heap.size 28 #[.int .i64 d, .int .i64 p, .int .i64 x] := Blk.new _ _ _
      have hA' := hA.alloc (.cells #[.int .i64 d, .int .i64 p, .int .i64 x] 28)
      have hB' := hB.alloc (.cells #[.int .i64 d, .int .i64 p, .int .i64 x] 28)
      have hk' := hk.alloc (.cells #[.int .i64 d, .int .i64 p, .int .i64 x] 28)
      clear hA hB hk
      by_cases h0 : d = 0
      · subst h0
        by_cases hpo : p = o
        · subst hpo
          have hal' := hal.raise x
          clear hal
          go_wp2_with fail
          generalize hV : wr.alloc (.cells #[.int .i64 0, .int .i64 p, .int .i64 x] 28) = V at *
          clear hV g0 g1 g2
          generalize wr.heap.size = gd at *
          have q0 := hD.cell 0
          have q1 := hD.cell 1
          have q2 := hD.cell 2
          have HC := Lib.hid (raise_any ga 8 p x L D _ hA' (by decide))
          go_wp2_with fail
          refine HC.out.mono ?_
          clear HC
          rintro e v1 ⟨rfl, hA1, j1⟩
          have hB1 := hB'.keeps j1 (by simp; omega)
          have hD1 := hD.keeps j1 (by simp; omega)
          have hk1 := hk'.next j1 (by simp; omega)
          clear q0 q1 q2 hA' hB' hk' j1
          have q0 := hD1.cell 0
          have q1 := hD1.cell 1
          have q2 := hD1.cell 2
          clear hD
          have HC := Lib.hid (raise_any gb 8 p x M E _ hB1 (by decide))
          go_wp2_with fail
          refine HC.out.mono ?_
          clear HC
          rintro e v2 ⟨rfl, hB2, j2⟩
          have hA2 := hA1.keeps j2 (by simp; omega)
          have hD2 := hD1.keeps j2 (by simp; omega)
          have hk2 := hk1.next j2 (by simp; omega)
          clear q0 q1 q2 hA1 hB1 hD1 hk1 j2
          have q0 := hD2.cell 0
          have q1 := hD2.cell 1
          have q2 := hD2.cell 2
          clear hD2
          go_wp2
          go_roundw
          case rel => exact ⟨k + 1, by omega, by omega, by go_num, _, _, _, _, hA2, hB2, hal', hk2⟩
          case measure => simp [intOf]; omega
        · have hpo' : (p == o) = false := by simpa using hpo
          have HPO := Lib.hid hpo
          clear hpo
          have hal' := hal.raise_far p x HPO.out
          clear hal
          go_wp2_with fail
          generalize hV : wr.alloc (.cells #[.int .i64 0, .int .i64 p, .int .i64 x] 28) = V at *
          clear hV g0 g1 g2
          generalize wr.heap.size = gd at *
          have q0 := hD.cell 0
          have q1 := hD.cell 1
          have q2 := hD.cell 2
          have HC := Lib.hid (raise_any ga 8 p x L D _ hA' (by decide))
          go_wp2_with fail
          refine HC.out.mono ?_
          clear HC
          rintro e v1 ⟨rfl, hA1, j1⟩
          have hB1 := hB'.keeps j1 (by simp; omega)
          have hD1 := hD.keeps j1 (by simp; omega)
          have hk1 := hk'.next j1 (by simp; omega)
          clear q0 q1 q2 hA' hB' hk' j1
          have q0 := hD1.cell 0
          have q1 := hD1.cell 1
          have q2 := hD1.cell 2
          clear hD
          clear hD1
          go_wp2
          go_roundw
          case rel => exact ⟨k + 1, by omega, by omega, by go_num, _, _, _, _, hA1, hB1, hal', hk1⟩
          case measure => simp [intOf]; omega
      by_cases h1 : d = 1
      · subst h1
        by_cases hpo : p = o
        · subst hpo
          have hal' := hal.open_
          have HE := Lib.hid (hal.oV)
          clear hal
          go_wp2_with fail
          generalize hV : wr.alloc (.cells #[.int .i64 1, .int .i64 p, .int .i64 x] 28) = V at *
          clear hV g0 g1 g2
          generalize wr.heap.size = gd at *
          have q0 := hD.cell 0
          have q1 := hD.cell 1
          have q2 := hD.cell 2
          have HC := Lib.hid (open_any ga 8 p L D _ hA' (by decide))
          go_wp2_with fail
          refine HC.out.mono ?_
          clear HC
          rintro e v1 ⟨rfl, hA1, j1⟩
          have hB1 := hB'.keeps j1 (by simp; omega)
          have hD1 := hD.keeps j1 (by simp; omega)
          have hk1 := hk'.next j1 (by simp; omega)
          clear q0 q1 q2 hA' hB' hk' j1
          have q0 := hD1.cell 0
          have q1 := hD1.cell 1
          have q2 := hD1.cell 2
          clear hD
          rw [HE.out.1]
          clear HE
          generalize hvv : oV 8 p M = vv at *
          have HVV := Lib.hid hvv
          clear hvv
          have HC := Lib.hid (open_any gb 8 p M E _ hB1 (by decide))
          rw [HVV.out] at HC
          go_wp2_with fail
          refine HC.out.mono ?_
          clear HC
          rintro e v2 ⟨rfl, hB2, j2⟩
          have hA2 := hA1.keeps j2 (by simp; omega)
          have hD2 := hD1.keeps j2 (by simp; omega)
          have hk2 := hk1.next j2 (by simp; omega)
          clear q0 q1 q2 hA1 hB1 hD1 hk1 j2
          have q0 := hD2.cell 0
          have q1 := hD2.cell 1
          have q2 := hD2.cell 2
          clear hD2
          go_wp2
          go_roundw
          case rel => exact ⟨k + 1, by omega, by omega, by go_num, _, _, _, _, hA2, hB2, hal', hk2⟩
          case measure => simp [intOf]; omega
        · have hpo' : (p == o) = false := by simpa using hpo
          have HPO := Lib.hid hpo
          clear hpo
          have hal' := hal.open_far p HPO.out
          clear hal
          go_wp2_with fail
          generalize hV : wr.alloc (.cells #[.int .i64 1, .int .i64 p, .int .i64 x] 28) = V at *
          clear hV g0 g1 g2
          generalize wr.heap.size = gd at *
          have q0 := hD.cell 0
          have q1 := hD.cell 1
          have q2 := hD.cell 2
          have HC := Lib.hid (open_any ga 8 p L D _ hA' (by decide))
          go_wp2_with fail
          refine HC.out.mono ?_
          clear HC
          rintro e v1 ⟨rfl, hA1, j1⟩
          have hB1 := hB'.keeps j1 (by simp; omega)
          have hD1 := hD.keeps j1 (by simp; omega)
          have hk1 := hk'.next j1 (by simp; omega)
          clear q0 q1 q2 hA' hB' hk' j1
          have q0 := hD1.cell 0
          have q1 := hD1.cell 1
          have q2 := hD1.cell 2
          clear hD
          generalize oV 8 p L = vv at *
          clear hD1
          go_wp2
          go_roundw
          case rel => exact ⟨k + 1, by omega, by omega, by go_num, _, _, _, _, hA1, hB1, hal', hk1⟩
          case measure => simp [intOf]; omega
      · have hd0 : (d == 0) = false := by simpa using h0
        have hd1 : (d == 1) = false := by simpa using h1
        clear h0 h1
        by_cases hpo : p = o
        · subst hpo
          have hal' := hal.take_
          have HE := Lib.hid (hal.oV)
          clear hal
          go_wp2_with fail
          generalize hV : wr.alloc (.cells #[.int .i64 d, .int .i64 p, .int .i64 x] 28) = V at *
          clear hV g0 g1 g2
          generalize wr.heap.size = gd at *
          have q0 := hD.cell 0
          have q1 := hD.cell 1
          have q2 := hD.cell 2
          have HC := Lib.hid (take_any ga 8 p L D _ hA' (by decide))
          go_wp2_with fail
          refine HC.out.mono ?_
          clear HC
          rintro e v1 ⟨rfl, hA1, j1⟩
          have hB1 := hB'.keeps j1 (by simp; omega)
          have hD1 := hD.keeps j1 (by simp; omega)
          have hk1 := hk'.next j1 (by simp; omega)
          clear q0 q1 q2 hA' hB' hk' j1
          have q0 := hD1.cell 0
          have q1 := hD1.cell 1
          have q2 := hD1.cell 2
          clear hD
          rw [HE.out.2]
          clear HE
          generalize hvv : oV 8 p E = vv at *
          have HVV := Lib.hid hvv
          clear hvv
          have HC := Lib.hid (take_any gb 8 p M E _ hB1 (by decide))
          rw [HVV.out] at HC
          go_wp2_with fail
          refine HC.out.mono ?_
          clear HC
          rintro e v2 ⟨rfl, hB2, j2⟩
          have hA2 := hA1.keeps j2 (by simp; omega)
          have hD2 := hD1.keeps j2 (by simp; omega)
          have hk2 := hk1.next j2 (by simp; omega)
          clear q0 q1 q2 hA1 hB1 hD1 hk1 j2
          have q0 := hD2.cell 0
          have q1 := hD2.cell 1
          have q2 := hD2.cell 2
          clear hD2
          go_wp2
          go_roundw
          case rel => exact ⟨k + 1, by omega, by omega, by go_num, _, _, _, _, hA2, hB2, hal', hk2⟩
          case measure => simp [intOf]; omega
        · have hpo' : (p == o) = false := by simpa using hpo
          have HPO := Lib.hid hpo
          clear hpo
          have hal' := hal.take_far p HPO.out
          clear hal
          go_wp2_with fail
          generalize hV : wr.alloc (.cells #[.int .i64 d, .int .i64 p, .int .i64 x] 28) = V at *
          clear hV g0 g1 g2
          generalize wr.heap.size = gd at *
          have q0 := hD.cell 0
          have q1 := hD.cell 1
          have q2 := hD.cell 2
          have HC := Lib.hid (take_any ga 8 p L D _ hA' (by decide))
          go_wp2_with fail
          refine HC.out.mono ?_
          clear HC
          rintro e v1 ⟨rfl, hA1, j1⟩
          have hB1 := hB'.keeps j1 (by simp; omega)
          have hD1 := hD.keeps j1 (by simp; omega)
          have hk1 := hk'.next j1 (by simp; omega)
          clear q0 q1 q2 hA' hB' hk' j1
          have q0 := hD1.cell 0
          have q1 := hD1.cell 1
          have q2 := hD1.cell 2
          clear hD
          generalize oV 8 p D = vv at *
          clear hD1
          go_wp2
          go_roundw
          case rel => exact ⟨k + 1, by omega, by omega, by go_num, _, _, _, _, hA1, hB1, hal', hk1⟩
          case measure => simp [intOf]; omega
    · have hlt' : len ≤ k ∨ 80 ≤ k := by omega
      clear hlt HR
      obtain ⟨L, D, M, E, hA, hB, hal, hk⟩ := hh
      obtain ⟨e1, e2⟩ := hal.oV
      clear hal
      by_cases hc : k < len
      all_goals
        go_wp2_with (go_at_call 9; refine (live_any _).mono ?_; rintro e v1 ⟨rfl, j1⟩)
        have hA1 := hA.keeps j1 (by simp)
        have hB1 := hB.keeps j1 (by simp)
        have hk1 := hk.trans j1
        clear hA hB hk j1
        have HC1 := Lib.hid (latched_any ga 8 o L D _ hA1 (by decide))
        have HC2 := Lib.hid (latched_any gb 8 o M E _ hB1 (by decide))
        have HC3 := Lib.hid (delivered_any ga 8 o L D _ hA1 (by decide))
        have HC4 := Lib.hid (delivered_any gb 8 o M E _ hB1 (by decide))
        rw [e1] at HC1
        rw [e2] at HC3
        clear e1 e2 hA1 hB1
        generalize oV 8 o M = m1 at *
        generalize oV 8 o E = m2 at *
        go_wp2_with fail
        refine HC1.out.mono ?_
        rintro e v2 ⟨rfl, rfl⟩
        go_wp2_with fail
        refine HC2.out.mono ?_
        rintro e v2 ⟨rfl, rfl⟩
        go_wp2_with fail
        refine HC3.out.mono ?_
        rintro e v2 ⟨rfl, rfl⟩
        go_wp2_with fail
        refine HC4.out.mono ?_
        rintro e v2 ⟨rfl, rfl⟩
        clear HC1 HC2 HC3 HC4
        go_wp2
        go_ret
        exact ⟨rfl, hk1.all⟩
end La
end Go.Proofs.Ytckindhnhbcgoaa
