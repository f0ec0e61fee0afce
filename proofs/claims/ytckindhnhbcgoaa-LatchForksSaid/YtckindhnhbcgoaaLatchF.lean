/- The reference of latch: what a row tells, open and take. -/
import Derived.Test.YtckindhnhbcgoaaLatchE
namespace Go.Proofs.Ytckindhnhbcgoaa
open Go.RowKit
namespace La
open Sm
def up (X : Nat → Int) : Nat → Bool := fun k => decide (0 < X k)
theorem val_yes (p : Nat → Bool) (k : Nat) (h : p k = true) : ((valK p k : Nat) : Int) + ((2 ^ k : Nat) : Int) = ((valK p (k + 1) : Nat) : Int) := by rw [valK_s, if_pos h]; omega
theorem val_no (p : Nat → Bool) (k : Nat) (h : ¬ p k = true) : ((valK p k : Nat) : Int) = ((valK p (k + 1) : Nat) : Int) := by rw [valK_s, if_neg h]; omega
theorem val_bd (p : Nat → Bool) (k : Nat) (hk : k ≤ 8) : 0 ≤ ((valK p k : Nat) : Int) ∧ ((valK p k : Nat) : Int) ≤ 256 := by
  have h1 := valK_lt p k
  have h2 : 2 ^ k ≤ 2 ^ 8 := Nat.pow_le_pow_right (by decide) hk
  omega
theorem pow_bd (k : Nat) (hk : k ≤ 8) : 1 ≤ ((2 ^ k : Nat) : Int) ∧ ((2 ^ k : Nat) : Int) ≤ 256 := by
  have h1 := Nat.two_pow_pos k
  have h2 : 2 ^ k ≤ 2 ^ 8 := Nat.pow_le_pow_right (by decide) hk
  omega
def IsNum (n : Int) (w : World) (e : Ending) (w' : World) : Prop := e = .returned (.int .i64 n) ∧ Below w.heap.size w w'
theorem ycell {w : World} {g : Nat} {X : Nat → Int} {Y : Nat → Bool} (h : Rw w g X Y) (k : Nat) (hk : k < 8) : w.cell? ⟨g, 8 + k, none⟩ = some (.bool (Y k)) := h.y k hk
theorem rw_new (w : World) (X : Nat → Int) (Y : Nat → Bool) : Rw (w.alloc (.cells (rcells X Y) 46)) w.heap.size X Y := Blk.new _ _ _
attribute [local irreducible] Rw valK
theorem rlatched_any (X : Nat → Int) (Y : Nat → Bool) (w : World) : Calls Try.prog 19 #[.agg (rcells X Y)] w (IsNum (num8 (up X)) w) := by
  have hR := rw_new w X Y
  have HV := Lib.hid (val_bd (up X))
  have HP := Lib.hid pow_bd
  have HYes := Lib.hid (val_yes (up X))
  have HNo := Lib.hid (val_no (up X))
  have H0 : Hid (((valK (up X) 0 : Nat) : Int) = 0) := Lib.hid (by unfold valK; rfl)
  go_enter Try.func19, Try.ntmps19
  go_wp2
  have HB : Hid (Below w.heap.size w (w.alloc (.cells (rcells X Y) 46))) := Lib.hid ((Below.refl _ w).alloc (Nat.le_refl _) _)
  generalize w.alloc (.cells (rcells X Y) 46) = V at *
  generalize hg : w.heap.size = g at *
  have HG := Lib.hid hg
  clear hg
  go_loop [3, 4] (fun n i => ∃ m : Nat, m ≤ 8 ∧ i = .int .i64 m ∧ n = .int .i64 ((valK (up X) m : Nat) : Int)) (fun _ i => 8 - (intOf i).toNat)
  case atStart => exact ⟨0, by omega, rfl, by rw [H0.out]⟩
  case round =>
    obtain ⟨m, hm, rfl, rfl⟩ := hrel
    obtain ⟨v0, v1⟩ := HV.out m hm
    obtain ⟨p0, p1⟩ := HP.out m hm
    by_cases hlt : m < 8
    · have hc := hR.x m hlt
      have HC := Lib.hid (fun V => power_any m V hm)
      have HR := Lib.hid hR
      clear hR
      have hy := HYes.out m
      have hn := HNo.out m
      have HY2 := Lib.hid hy
      have HN2 := Lib.hid hn
      clear hy hn HYes HNo
      generalize ((valK (up X) m : Nat) : Int) = a at *
      generalize ((2 ^ m : Nat) : Int) = b at *
      by_cases hx : 0 < X m
      · have hd : decide (0 < X m) = true := decide_eq_true hx
        have HD := Lib.hid (HY2.out hd)
        clear HY2 HN2 hd
        generalize X m = z at *
        go_wp2_with fail
        refine (HC.out _).mono ?_
        rintro e v1 ⟨rfl, rfl⟩
        clear HC
        go_wp2
        go_round
        case rel => exact ⟨m + 1, by omega, by go_num, by rw [HD.out]⟩
        case measure => simp [intOf]; omega
      · have hd : ¬ decide (0 < X m) = true := by simpa using hx
        have HD := Lib.hid (HN2.out hd)
        clear HY2 HN2 hd HC
        generalize X m = z at *
        go_wp2
        go_round
        case rel => exact ⟨m + 1, by omega, by go_num, by rw [HD.out]⟩
        case measure => simp [intOf]; omega
    · obtain rfl : m = 8 := by omega
      clear p0 p1
      have HE : Hid (((valK (up X) 8 : Nat) : Int) = num8 (up X)) := Lib.hid rfl
      clear HV HYes HNo H0 hR
      generalize ((valK (up X) 8 : Nat) : Int) = a at *
      go_wp2
      go_ret
      exact ⟨ret_int HE.out, by rw [HG.out]; exact HB.out⟩
theorem rdelivered_any (X : Nat → Int) (Y : Nat → Bool) (w : World) : Calls Try.prog 20 #[.agg (rcells X Y)] w (IsNum (num8 (Y)) w) := by
  have hR := rw_new w X Y
  have HV := Lib.hid (val_bd (Y))
  have HP := Lib.hid pow_bd
  have HYes := Lib.hid (val_yes (Y))
  have HNo := Lib.hid (val_no (Y))
  have H0 : Hid (((valK (Y) 0 : Nat) : Int) = 0) := Lib.hid (by unfold valK; rfl)
  go_enter Try.func20, Try.ntmps20
  go_wp2
  have HB : Hid (Below w.heap.size w (w.alloc (.cells (rcells X Y) 46))) := Lib.hid ((Below.refl _ w).alloc (Nat.le_refl _) _)
  generalize w.alloc (.cells (rcells X Y) 46) = V at *
  generalize hg : w.heap.size = g at *
  have HG := Lib.hid hg
  clear hg
  go_loop [3, 4] (fun n i => ∃ m : Nat, m ≤ 8 ∧ i = .int .i64 m ∧ n = .int .i64 ((valK (Y) m : Nat) : Int)) (fun _ i => 8 - (intOf i).toNat)
  case atStart => exact ⟨0, by omega, rfl, by rw [H0.out]⟩
  case round =>
    obtain ⟨m, hm, rfl, rfl⟩ := hrel
    obtain ⟨v0, v1⟩ := HV.out m hm
    obtain ⟨p0, p1⟩ := HP.out m hm
    by_cases hlt : m < 8
    · have hc := hR.y m hlt
      have HC := Lib.hid (fun V => power_any m V hm)
      have HR := Lib.hid hR
      clear hR
      have hy := HYes.out m
      have hn := HNo.out m
      have HY2 := Lib.hid hy
      have HN2 := Lib.hid hn
      clear hy hn HYes HNo
      generalize ((valK (Y) m : Nat) : Int) = a at *
      generalize ((2 ^ m : Nat) : Int) = b at *
      cases hb : Y m
      · rw [hb] at hc
        have HD := Lib.hid (HN2.out (by rw [hb]; decide))
        clear HY2 HN2 HC hb
        go_wp2
        go_round
        case rel => exact ⟨m + 1, by omega, by go_num, by rw [HD.out]⟩
        case measure => simp [intOf]; omega
      · rw [hb] at hc
        have HD := Lib.hid (HY2.out hb)
        clear HY2 HN2 hb
        go_wp2_with fail
        refine (HC.out _).mono ?_
        rintro e v1 ⟨rfl, rfl⟩
        clear HC
        go_wp2
        go_round
        case rel => exact ⟨m + 1, by omega, by go_num, by rw [HD.out]⟩
        case measure => simp [intOf]; omega
    · obtain rfl : m = 8 := by omega
      clear p0 p1
      have HE : Hid (((valK (Y) 8 : Nat) : Int) = num8 (Y)) := Lib.hid rfl
      clear HV HYes HNo H0 hR
      generalize ((valK (Y) 8 : Nat) : Int) = a at *
      go_wp2
      go_ret
      exact ⟨ret_int HE.out, by rw [HG.out]; exact HB.out⟩
end La
end Go.Proofs.Ytckindhnhbcgoaa
