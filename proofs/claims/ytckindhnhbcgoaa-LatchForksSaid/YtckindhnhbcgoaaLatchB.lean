/- The package latch: raise, open, take; and what a board tells. -/
import Derived.Test.YtckindhnhbcgoaaLatchA
namespace Go.Proofs.Ytckindhnhbcgoaa
open Go.RowKit
namespace La
open Sm
def rE (n o x : Int) : Int := if isO n o = true then (if 0 ≤ x ∧ x ≤ 255 then 0 else 2) else 7
def rL (n o x : Int) (L : Nat → Int) : Nat → Int := if isO n o = true ∧ 0 ≤ x ∧ x ≤ 255 then upd L (at_ o) (bits .or .i64 (L (at_ o)) x) else L
def oV (n o : Int) (L : Nat → Int) : Int := if isO n o = true then L (at_ o) else 0
def oL (n o : Int) (L : Nat → Int) : Nat → Int := if isO n o = true then upd L (at_ o) 0 else L
def oD (n o : Int) (L D : Nat → Int) : Nat → Int := if isO n o = true then upd D (at_ o) (bits .or .i64 (D (at_ o)) (L (at_ o))) else D
def IsBd (g : Nat) (L D : Nat → Int) (n : Int) (v : Int) (w : World) (e : Ending) (w' : World) : Prop := e = .returned (.int .i64 v) ∧ Bd w' g L D n ∧ Keeps [g] w w'
def IsV (v : Int) (w : World) (e : Ending) (w' : World) : Prop := e = .returned (.int .i64 v) ∧ w = w'
theorem owner_of {n o : Int} (hn : n ≤ 8) (h : isO n o = true) : ∃ k : Nat, o = (k : Int) + 1 ∧ (k : Int) < n ∧ k < 8 ∧ at_ o = k := by
  have := of_decide_eq_true h
  refine ⟨(o - 1).toNat, by omega, by omega, by omega, rfl⟩
theorem raise_any (g : Nat) (n o x : Int) (L D : Nat → Int) (w : World) (h : Bd w g L D n) (hn : n ≤ 8) :
    Calls Try.prog 10 #[.pointer (some ⟨g, 0, none⟩), .int .i64 o, .int .i64 x] w (IsBd g (rL n o x L) D n (rE n o x) w) := by
  unfold rE rL
  by_cases ho : isO n o = true
  · rw [if_pos ho]
    obtain ⟨k, rfl, hk, hk8, ha⟩ := owner_of hn ho
    rw [ha]
    have HF := Lib.hid (find_some g k n L D w h hk hn)
    by_cases hx : 0 ≤ x ∧ x ≤ 255
    · rw [if_pos hx, if_pos ⟨ho, hx⟩]
      obtain ⟨hx0, hx1⟩ := hx
      have h0 := h.lat k hk8
      have f0 := h.free (k * 2)
      have HB := Lib.hid (h.setL k hk8 (bits .or .i64 (L k) x))
      clear h ho
      go_enter Try.func10, Try.ntmps10
      go_wp2_with (go_at_call 21; refine HF.out.mono ?_; rintro e w' ⟨rfl, rfl⟩)
      go_ret
      exact ⟨rfl, HB.out, (Keeps.refl _ _).setCell (.inl (by simp)) _⟩
    · rw [if_neg hx, if_neg (fun hh => hx hh.2)]
      have hx' : x < 0 ∨ 255 < x := by omega
      have HB := Lib.hid h
      clear h ho hx
      rcases hx' with hx | hx
      · go_enter Try.func10, Try.ntmps10
        go_wp2_with (go_at_call 21; refine HF.out.mono ?_; rintro e w' ⟨rfl, rfl⟩)
        go_ret
        exact ⟨rfl, HB.out, Keeps.refl _ _⟩
      · go_enter Try.func10, Try.ntmps10
        go_wp2_with (go_at_call 21; refine HF.out.mono ?_; rintro e w' ⟨rfl, rfl⟩)
        go_ret
        exact ⟨rfl, HB.out, Keeps.refl _ _⟩
  · rw [if_neg ho, if_neg (fun hh => ho hh.1)]
    have HF := Lib.hid (find_none g n o L D w h (by simpa using ho))
    have HB := Lib.hid h
    clear h ho
    go_enter Try.func10, Try.ntmps10
    go_wp2_with (go_at_call 21; refine HF.out.mono ?_; rintro e w' ⟨rfl, rfl⟩)
    go_ret
    exact ⟨rfl, HB.out, Keeps.refl _ _⟩
theorem upd_upd (L : Nat → Int) (k : Nat) (u v : Int) : upd (upd L k u) k v = upd L k v := by
  funext i; unfold upd; split <;> rfl
theorem open_any (g : Nat) (n o : Int) (L D : Nat → Int) (w : World) (h : Bd w g L D n) (hn : n ≤ 8) :
    Calls Try.prog 11 #[.pointer (some ⟨g, 0, none⟩), .int .i64 o] w (IsBd g (oL n o L) (oD n o L D) n (oV n o L) w) := by
  unfold oV oL oD
  by_cases ho : isO n o = true
  · rw [if_pos ho, if_pos ho, if_pos ho]
    obtain ⟨k, rfl, hk, hk8, ha⟩ := owner_of hn ho
    rw [ha]
    have HF := Lib.hid (find_some g k n L D w h hk hn)
    have h0 := h.lat k hk8
    have h1 := h.del k hk8
    have f0 := h.free (k * 2)
    have f1 := h.free (k * 2 + 1)
    have HB := Lib.hid ((h.setL k hk8 0).setD k hk8 (bits .or .i64 (D k) (L k)))
    clear h ho
    go_enter Try.func11, Try.ntmps11
    go_wp2_with (go_at_call 21; refine HF.out.mono ?_; rintro e w' ⟨rfl, rfl⟩)
    go_ret
    exact ⟨rfl, HB.out, ((Keeps.refl _ _).setCell (.inl (by simp)) _).setCell (.inl (by simp)) _⟩
  · rw [if_neg ho, if_neg ho, if_neg ho]
    have HF := Lib.hid (find_none g n o L D w h (by simpa using ho))
    have HB := Lib.hid h
    clear h ho
    go_enter Try.func11, Try.ntmps11
    go_wp2_with (go_at_call 21; refine HF.out.mono ?_; rintro e w' ⟨rfl, rfl⟩)
    go_ret
    exact ⟨rfl, HB.out, Keeps.refl _ _⟩
theorem take_any (g : Nat) (n o : Int) (L D : Nat → Int) (w : World) (h : Bd w g L D n) (hn : n ≤ 8) :
    Calls Try.prog 12 #[.pointer (some ⟨g, 0, none⟩), .int .i64 o] w (IsBd g L (oL n o D) n (oV n o D) w) := by
  unfold oV oL
  by_cases ho : isO n o = true
  · rw [if_pos ho, if_pos ho]
    obtain ⟨k, rfl, hk, hk8, ha⟩ := owner_of hn ho
    rw [ha]
    have HF := Lib.hid (find_some g k n L D w h hk hn)
    have h1 := h.del k hk8
    have f1 := h.free (k * 2 + 1)
    have HB := Lib.hid (h.setD k hk8 0)
    clear h ho
    go_enter Try.func12, Try.ntmps12
    go_wp2_with (go_at_call 21; refine HF.out.mono ?_; rintro e w' ⟨rfl, rfl⟩)
    go_ret
    exact ⟨rfl, HB.out, (Keeps.refl _ _).setCell (.inl (by simp)) _⟩
  · rw [if_neg ho, if_neg ho]
    have HF := Lib.hid (find_none g n o L D w h (by simpa using ho))
    have HB := Lib.hid h
    clear h ho
    go_enter Try.func12, Try.ntmps12
    go_wp2_with (go_at_call 21; refine HF.out.mono ?_; rintro e w' ⟨rfl, rfl⟩)
    go_ret
    exact ⟨rfl, HB.out, Keeps.refl _ _⟩
theorem latched_any (g : Nat) (n o : Int) (L D : Nat → Int) (w : World) (h : Bd w g L D n) (hn : n ≤ 8) :
    Calls Try.prog 13 #[.pointer (some ⟨g, 0, none⟩), .int .i64 o] w (IsV (oV n o L) w) := by
  unfold oV
  by_cases ho : isO n o = true
  · rw [if_pos ho]
    obtain ⟨k, rfl, hk, hk8, ha⟩ := owner_of hn ho
    rw [ha]
    have HF := Lib.hid (find_some g k n L D w h hk hn)
    have h0 := h.lat k hk8
    clear h ho
    go_enter Try.func13, Try.ntmps13
    go_wp2_with (go_at_call 21; refine HF.out.mono ?_; rintro e w' ⟨rfl, rfl⟩)
    go_ret
    exact ⟨rfl, rfl⟩
  · rw [if_neg ho]
    have HF := Lib.hid (find_none g n o L D w h (by simpa using ho))
    clear h ho
    go_enter Try.func13, Try.ntmps13
    go_wp2_with (go_at_call 21; refine HF.out.mono ?_; rintro e w' ⟨rfl, rfl⟩)
    go_ret
    exact ⟨rfl, rfl⟩
theorem delivered_any (g : Nat) (n o : Int) (L D : Nat → Int) (w : World) (h : Bd w g L D n) (hn : n ≤ 8) :
    Calls Try.prog 14 #[.pointer (some ⟨g, 0, none⟩), .int .i64 o] w (IsV (oV n o D) w) := by
  unfold oV
  by_cases ho : isO n o = true
  · rw [if_pos ho]
    obtain ⟨k, rfl, hk, hk8, ha⟩ := owner_of hn ho
    rw [ha]
    have HF := Lib.hid (find_some g k n L D w h hk hn)
    have h0 := h.del k hk8
    clear h ho
    go_enter Try.func14, Try.ntmps14
    go_wp2_with (go_at_call 21; refine HF.out.mono ?_; rintro e w' ⟨rfl, rfl⟩)
    go_ret
    exact ⟨rfl, rfl⟩
  · rw [if_neg ho]
    have HF := Lib.hid (find_none g n o L D w h (by simpa using ho))
    clear h ho
    go_enter Try.func14, Try.ntmps14
    go_wp2_with (go_at_call 21; refine HF.out.mono ?_; rintro e w' ⟨rfl, rfl⟩)
    go_ret
    exact ⟨rfl, rfl⟩
attribute [local irreducible] Bd
abbrev l0 : Nat → Int := fun _ => 0
abbrev l2 : Nat → Int := rL 2 1 4 (rL 2 1 1 l0)
theorem live_vals : rE 2 1 1 = 0 ∧ rE 2 1 4 = 0 ∧ oV 2 1 l2 = 5 ∧ oV 2 1 (oL 2 1 l2) = 0 ∧ oV 2 1 (oD 2 1 (oL 2 1 l2) (oD 2 1 l2 l0)) = 5 ∧ rE 2 3 1 = 7 := by decide +kernel
theorem live_any (w : World) : Calls Try.prog 9 #[] w fun e w' => e = .returned (.bool true) ∧ Keeps [] w w' := by
  obtain ⟨z1, z2, z3, z4, z5, z6⟩ := live_vals
  have HV := Lib.hid (And.intro z1 (And.intro z2 (And.intro z3 (And.intro z4 (And.intro z5 z6)))))
  clear z1 z2 z3 z4 z5 z6
  go_enter Try.func9, Try.ntmps9
  go_wp2_with fail
  refine (new_any _ _).mono ?_
  rintro e w1 ⟨rfl, h1, k1⟩
  have hlim : lim 2 = 2 := by decide
  rw [hlim] at h1
  clear hlim
  generalize hb : w.heap.size = b at *
  have HB := Lib.hid hb
  clear hb
  have HC := Lib.hid (raise_any b 2 1 1 _ _ w1 h1 (by decide))
  rw [HV.out.1] at HC
  clear h1
  go_wp2_with fail
  refine HC.out.mono ?_
  clear HC
  rintro e w2 ⟨rfl, h1, k2⟩
  have HC := Lib.hid (raise_any b 2 1 4 _ _ w2 h1 (by decide))
  rw [HV.out.2.1] at HC
  clear h1
  go_wp2_with fail
  refine HC.out.mono ?_
  clear HC
  rintro e w3 ⟨rfl, h1, k3⟩
  have HC := Lib.hid (open_any b 2 1 _ _ w3 h1 (by decide))
  rw [HV.out.2.2.1] at HC
  clear h1
  go_wp2_with fail
  refine HC.out.mono ?_
  clear HC
  rintro e w4 ⟨rfl, h1, k4⟩
  have HC := Lib.hid (open_any b 2 1 _ _ w4 h1 (by decide))
  rw [HV.out.2.2.2.1] at HC
  clear h1
  go_wp2_with fail
  refine HC.out.mono ?_
  clear HC
  rintro e w5 ⟨rfl, h1, k5⟩
  have HC := Lib.hid (take_any b 2 1 _ _ w5 h1 (by decide))
  rw [HV.out.2.2.2.2.1] at HC
  clear h1
  go_wp2_with fail
  refine HC.out.mono ?_
  clear HC
  rintro e w6 ⟨rfl, h1, k6⟩
  have HC := Lib.hid (raise_any b 2 3 1 _ _ w6 h1 (by decide))
  rw [HV.out.2.2.2.2.2] at HC
  clear h1
  go_wp2_with fail
  refine HC.out.mono ?_
  clear HC
  rintro e w7 ⟨rfl, h1, k7⟩
  go_wp2
  go_ret
  have hb : w.heap.size ≤ b := by rw [HB.out]; exact Nat.le_refl _
  exact ⟨rfl, (((((k1.next k2 (by simp; omega)).next k3 (by simp; omega)).next k4 (by simp; omega)).next k5 (by simp; omega)).next k6 (by simp; omega)).next k7 (by simp; omega)⟩
end La
end Go.Proofs.Ytckindhnhbcgoaa
