/- How tables are read, step by step: plain. -/
import Derived.Test.YtjdhkpafbejodaaImB
namespace Go.Proofs.Ytjdhkpafbejodaa
open Go.RowKit
namespace Im
open Bi (rdAt rdErr rdByte rdTwo)
open PlainAid (bt)
set_option linter.unusedVariables false
/-- A reader's place and error behind a byte, behind two; what it read. -/
def sB (s : ByteArray) (σ : Int × Int) : Int × Int := (rdAt s σ.1 σ.2 1, rdErr s σ.1 σ.2 1)
def sT (s : ByteArray) (σ : Int × Int) : Int × Int := (rdAt s σ.1 σ.2 2, rdErr s σ.1 σ.2 2)
def vB (s : ByteArray) (σ : Int × Int) : Int := rdByte s σ.1 σ.2
def vT (s : ByteArray) (σ : Int × Int) : Int := rdTwo s σ.1 σ.2
section
variable {s : ByteArray} {σ : Int × Int}
def okσ (s : ByteArray) (σ : Int × Int) : Prop := 0 ≤ σ.1 ∧ σ.1 ≤ s.size
theorem sB_ok (h : okσ s σ) : okσ s (sB s σ) := by
  obtain ⟨h1, h2⟩ := h
  unfold okσ sB rdAt
  dsimp only
  split <;> omega
theorem sT_ok (h : okσ s σ) : okσ s (sT s σ) := by
  obtain ⟨h1, h2⟩ := h
  unfold okσ sT rdAt
  dsimp only
  split <;> omega
theorem sB_bad (h : σ.2 ≠ 0) : sB s σ = (σ.1, σ.2) ∧ vB s σ = 0 := by
  unfold sB vB rdAt rdErr rdByte
  rw [if_neg (fun h9 => h h9.1), if_pos h, if_neg (fun h9 => h h9.1)]
  exact ⟨rfl, rfl⟩
theorem sT_bad (h : σ.2 ≠ 0) : sT s σ = (σ.1, σ.2) ∧ vT s σ = 0 := by
  unfold sT vT rdAt rdErr rdTwo
  rw [if_neg (fun h9 => h h9.1), if_pos h, if_neg (fun h9 => h h9.1)]
  exact ⟨rfl, rfl⟩
theorem sB_end {a : Nat} (h : s.size < a + 1) : sB s ((a : Int), 0) = ((a : Int), 5) := by
  unfold sB rdAt rdErr
  dsimp only
  rw [if_neg (by omega), if_neg (by omega), if_neg (by omega), if_pos (by omega)]
theorem sT_end {a : Nat} (h : s.size < a + 2) : sT s ((a : Int), 0) = ((a : Int), 5) := by
  unfold sT rdAt rdErr
  dsimp only
  rw [if_neg (by omega), if_neg (by omega), if_neg (by omega), if_pos (by omega)]
theorem sB_good {a : Nat} (h : a + 1 ≤ s.size) : sB s ((a : Int), 0) = (((a + 1 : Nat) : Int), 0) ∧ vB s ((a : Int), 0) = b1 s.data.toList a := by
  unfold sB vB rdAt rdErr rdByte
  dsimp only
  rw [if_pos (by omega), if_neg (by omega), if_neg (by omega), if_neg (by omega), if_pos (by omega), ← bt_b1]
  exact ⟨rfl, rfl⟩
theorem sT_good {a : Nat} (h : a + 2 ≤ s.size) : sT s ((a : Int), 0) = (((a + 2 : Nat) : Int), 0) ∧ vT s ((a : Int), 0) = b2 s.data.toList a := by
  unfold sT vT rdAt rdErr rdTwo
  dsimp only
  rw [if_pos (by omega), if_neg (by omega), if_neg (by omega), if_neg (by omega), if_pos (by omega)]
  unfold b2
  rw [← bt_b1, ← bt_b1]
  exact ⟨rfl, rfl⟩
/-- A reader's place behind a row of numbers of these sizes, and what it read. -/
def sR (s : ByteArray) : Int × Int → List Nat → Int × Int
  | σ, [] => σ
  | σ, 1 :: t => sR s (sB s σ) t
  | σ, _ :: t => sR s (sT s σ) t
def vR (s : ByteArray) : Int × Int → List Nat → List Int
  | _, [] => []
  | σ, 1 :: t => vB s σ :: vR s (sB s σ) t
  | σ, _ :: t => vT s σ :: vR s (sT s σ) t
theorem sR_ok : ∀ (sh : List Nat) (σ : Int × Int), okσ s σ → okσ s (sR s σ sh)
  | [], _, h => h
  | 1 :: t, σ, h => sR_ok t _ (sB_ok h)
  | 0 :: t, σ, h => sR_ok t _ (sT_ok h)
  | (n + 2) :: t, σ, h => sR_ok t _ (sT_ok h)
theorem sR_bad : ∀ (sh : List Nat) (σ : Int × Int), σ.2 ≠ 0 → (sR s σ sh).2 = σ.2
  | [], _, _ => rfl
  | 1 :: t, σ, h => by have e := (sB_bad (s := s) h).1; show (sR s (sB s σ) t).2 = _; rw [e]; exact sR_bad t (σ.1, σ.2) h
  | 0 :: t, σ, h => by have e := (sT_bad (s := s) h).1; show (sR s (sT s σ) t).2 = _; rw [e]; exact sR_bad t (σ.1, σ.2) h
  | (n + 2) :: t, σ, h => by have e := (sT_bad (s := s) h).1; show (sR s (sT s σ) t).2 = _; rw [e]; exact sR_bad t (σ.1, σ.2) h
def sums : List Nat → Nat
  | [] => 0
  | x :: t => x + sums t
theorem sR_good : ∀ (sh : List Nat) (a : Nat), a ≤ s.size → (∀ x ∈ sh, x = 1 ∨ x = 2) → (a + sums sh ≤ s.size → sR s ((a : Int), 0) sh = (((a + sums sh : Nat) : Int), 0)) ∧ (s.size < a + sums sh → (sR s ((a : Int), 0) sh).2 = 5)
  | [], a, ha, _ => ⟨fun _ => rfl, fun h => absurd h (by simp only [sums]; omega)⟩
  | x :: t, a, ha, hx => by
    rcases hx x (by simp) with rfl | rfl
    · by_cases h1 : a + 1 ≤ s.size
      · have e := (sB_good (s := s) h1).1
        obtain ⟨i1, i2⟩ := sR_good t (a + 1) h1 (fun y hy => hx y (by simp [hy]))
        show (_ → sR s (sB s ((a : Int), 0)) t = _) ∧ (_ → (sR s (sB s ((a : Int), 0)) t).2 = 5)
        rw [e]
        simp only [sums]
        rw [← Nat.add_assoc]
        exact ⟨i1, i2⟩
      · refine ⟨fun h => absurd h (by simp only [sums]; omega), fun _ => ?_⟩
        show (sR s (sB s ((a : Int), 0)) t).2 = 5
        rw [sB_end (by omega)]
        exact sR_bad t _ (by show (5 : Int) ≠ 0; decide)
    · by_cases h1 : a + 2 ≤ s.size
      · have e := (sT_good (s := s) h1).1
        obtain ⟨i1, i2⟩ := sR_good t (a + 2) h1 (fun y hy => hx y (by simp [hy]))
        show (_ → sR s (sT s ((a : Int), 0)) t = _) ∧ (_ → (sR s (sT s ((a : Int), 0)) t).2 = 5)
        rw [e]
        simp only [sums]
        rw [← Nat.add_assoc]
        exact ⟨i1, i2⟩
      · refine ⟨fun h => absurd h (by simp only [sums]; omega), fun _ => ?_⟩
        show (sR s (sT s ((a : Int), 0)) t).2 = 5
        rw [sT_end (by omega)]
        exact sR_bad t _ (by show (5 : Int) ≠ 0; decide)
def valsAt (t : List UInt8) : Nat → List Nat → List Int
  | _, [] => []
  | a, 1 :: sh => b1 t a :: valsAt t (a + 1) sh
  | a, _ :: sh => b2 t a :: valsAt t (a + 2) sh
theorem vR_good : ∀ (sh : List Nat) (a : Nat), (∀ x ∈ sh, x = 1 ∨ x = 2) → a + sums sh ≤ s.size → vR s ((a : Int), 0) sh = valsAt s.data.toList a sh
  | [], a, _, _ => rfl
  | x :: t, a, hx, h => by
    simp only [sums] at h
    rcases hx x (by simp) with rfl | rfl
    · obtain ⟨e, v⟩ := sB_good (s := s) (a := a) (by omega)
      show vB s ((a : Int), 0) :: vR s (sB s ((a : Int), 0)) t = b1 _ a :: valsAt _ (a + 1) t
      rw [e, v, vR_good t (a + 1) (fun y hy => hx y (by simp [hy])) (by omega)]
    · obtain ⟨e, v⟩ := sT_good (s := s) (a := a) (by omega)
      show vT s ((a : Int), 0) :: vR s (sT s ((a : Int), 0)) t = b2 _ a :: valsAt _ (a + 2) t
      rw [e, v, vR_good t (a + 2) (fun y hy => hx y (by simp [hy])) (by omega)]
theorem vals_win (t : List UInt8) (a : Nat) : valsAt t a wsh = winAt t a := rfl
theorem vals_cli (t : List UInt8) (a : Nat) : valsAt t a csh = cliAt t a := rfl
theorem sh_w : ∀ x ∈ wsh, x = 1 ∨ x = 2 := by simp [wsh]
theorem sh_c : ∀ x ∈ csh, x = 1 ∨ x = 2 := by simp [csh]
/-- How far the tables have been read: in the windows, the slots, the clients; or the bytes came to an end. -/
structure Bad (s : ByteArray) (σ : Int × Int) (n : Int) : Prop where
  e : σ.2 = 5
  f : s.size < i3 s.data.toList
  n0 : 0 ≤ n ∧ n ≤ 255
structure Gd0 (s : ByteArray) (σ : Int × Int) (n fr : Int) (X1 X2 X3 : List (List Int)) (k : Nat) : Prop where
  p : σ = (((5 + k * 5 : Nat) : Int), 0)
  l : 5 + k * 5 ≤ s.size
  hn : (k : Int) + n = n1 s.data.toList
  n0 : 0 ≤ n
  fr : fr = b2 s.data.toList 2
  x1 : X1 = rowsAt (winAt s.data.toList) 5 5 k
  x2 : X2 = []
  x3 : X3 = []
structure Gd1 (s : ByteArray) (σ : Int × Int) (n fr : Int) (X1 X2 X3 : List (List Int)) (k : Nat) : Prop where
  p : σ = (((i1 s.data.toList + 1 + k * 5 : Nat) : Int), 0)
  l : i1 s.data.toList + 1 + k * 5 ≤ s.size
  hn : (k : Int) + n = n2 s.data.toList
  n0 : 0 ≤ n
  fr : fr = b2 s.data.toList 2
  x1 : X1 = rowsAt (winAt s.data.toList) 5 5 (n1 s.data.toList)
  x2 : X2 = rowsAt (winAt s.data.toList) 5 (i1 s.data.toList + 1) k
  x3 : X3 = []
structure Gd2 (s : ByteArray) (σ : Int × Int) (n fr : Int) (X1 X2 X3 : List (List Int)) (k : Nat) : Prop where
  p : σ = (((i2 s.data.toList + 1 + k * 14 : Nat) : Int), 0)
  l : i2 s.data.toList + 1 + k * 14 ≤ s.size
  hn : (k : Int) + n = n3 s.data.toList
  n0 : 0 ≤ n
  fr : fr = b2 s.data.toList 2
  x1 : X1 = rowsAt (winAt s.data.toList) 5 5 (n1 s.data.toList)
  x2 : X2 = rowsAt (winAt s.data.toList) 5 (i1 s.data.toList + 1) (n2 s.data.toList)
  x3 : X3 = rowsAt (cliAt s.data.toList) 14 (i2 s.data.toList + 1) k
def Ph0 (s : ByteArray) (σ : Int × Int) (n fr : Int) (X1 X2 X3 : List (List Int)) : Prop := (∃ k, Gd0 s σ n fr X1 X2 X3 k) ∨ Bad s σ n
def Ph1 (s : ByteArray) (σ : Int × Int) (n fr : Int) (X1 X2 X3 : List (List Int)) : Prop := (∃ k, Gd1 s σ n fr X1 X2 X3 k) ∨ Bad s σ n
def Ph2 (s : ByteArray) (σ : Int × Int) (n fr : Int) (X1 X2 X3 : List (List Int)) : Prop := (∃ k, Gd2 s σ n fr X1 X2 X3 k) ∨ Bad s σ n
theorem n1_le (t : List UInt8) : n1 t ≤ 255 := by unfold n1; have := (t.getD 4 0).toNat_lt; omega
theorem n2_le (t : List UInt8) : n2 t ≤ 255 := by unfold n2; have := (t.getD (i1 t) 0).toNat_lt; omega
theorem n3_le (t : List UInt8) : n3 t ≤ 255 := by unfold n3; have := (t.getD (i2 t) 0).toNat_lt; omega
theorem i_eqs (t : List UInt8) : i1 t = 5 + n1 t * 5 ∧ i2 t = i1 t + 1 + n2 t * 5 ∧ i3 t = i2 t + 1 + n3 t * 14 := ⟨rfl, rfl, rfl⟩
variable {n fr : Int} {X1 X2 X3 : List (List Int)}
theorem Bad.old (h : Bad s σ n) (hn : 0 < n) (sh : List Nat) : Bad s (sR s σ sh) (n - 1) := ⟨by rw [sR_bad sh σ (by rw [h.e]; decide)]; exact h.e, h.f, by have := h.n0; omega⟩
theorem Bad.byte (h : Bad s σ n) : Bad s (sB s σ) (vB s σ) := by
  obtain ⟨e1, e2⟩ := sB_bad (s := s) (σ := σ) (by rw [h.e]; decide)
  rw [e1, e2]
  exact ⟨h.e, h.f, by omega⟩
theorem Ph0.row (h : Ph0 s σ n fr X1 X2 X3) (hn : 0 < n) (he : σ.2 = 0) : Ph0 s (sR s σ wsh) (n - 1) fr (X1 ++ [vR s σ wsh]) X2 X3 := by
  rcases h with ⟨k, hp, hl, hk, h0, hf, h1, h2, h3⟩ | h
  · obtain ⟨g1, g2⟩ := sR_good (s := s) wsh (5 + k * 5) hl sh_w
    have hle := n1_le s.data.toList
    obtain ⟨q1, q2, q3⟩ := i_eqs s.data.toList
    rw [hp]
    by_cases hfit : 5 + k * 5 + 5 ≤ s.size
    · refine Or.inl ⟨k + 1, ?_, by omega, by omega, by omega, hf, ?_, h2, h3⟩
      · rw [g1 hfit]
        show (((5 + k * 5 + 5 : Nat) : Int), (0 : Int)) = _
        rw [show 5 + k * 5 + 5 = 5 + (k + 1) * 5 from by omega]
      · rw [vR_good wsh (5 + k * 5) sh_w hfit, vals_win, rowsAt_succ, h1]
    · exact Or.inr ⟨g2 (by show s.size < 5 + k * 5 + 5; omega), by omega, by omega⟩
  · exact absurd (he.symm.trans h.e) (by decide)
theorem Ph0.next (h : Ph0 s σ n fr X1 X2 X3) (hn : ¬ (0 < n ∧ σ.2 = 0)) : Ph1 s (sB s σ) (vB s σ) fr X1 X2 X3 := by
  rcases h with ⟨k, hp, hl, hk, h0, hf, h1, h2, h3⟩ | h
  · have hz : n = 0 := by
      have : σ.2 = 0 := by rw [hp]
      omega
    subst hz
    obtain ⟨q1, q2, q3⟩ := i_eqs s.data.toList
    have hk' : k = n1 s.data.toList := by omega
    have hi : 5 + k * 5 = i1 s.data.toList := by rw [q1, hk']
    rw [hp, hi]
    by_cases hfit : i1 s.data.toList + 1 ≤ s.size
    · obtain ⟨e, v⟩ := sB_good (s := s) hfit
      refine Or.inl ⟨0, by rw [e], by omega, ?_, ?_, hf, by rw [h1, hk'], by rw [h2]; rfl, h3⟩
      · rw [v]; unfold b1 n2; omega
      · rw [v]; unfold b1; omega
    · have e := sB_end (s := s) (a := i1 s.data.toList) (by omega)
      refine Or.inr ⟨by rw [e], by omega, ?_⟩
      unfold vB rdByte
      dsimp only
      rw [if_neg (by omega)]
      omega
  · exact Or.inr h.byte
theorem Ph1.row (h : Ph1 s σ n fr X1 X2 X3) (hn : 0 < n) (he : σ.2 = 0) : Ph1 s (sR s σ wsh) (n - 1) fr X1 (X2 ++ [vR s σ wsh]) X3 := by
  rcases h with ⟨k, hp, hl, hk, h0, hf, h1, h2, h3⟩ | h
  · obtain ⟨g1, g2⟩ := sR_good (s := s) wsh (i1 s.data.toList + 1 + k * 5) hl sh_w
    have hle := n2_le s.data.toList
    obtain ⟨q1, q2, q3⟩ := i_eqs s.data.toList
    rw [hp]
    by_cases hfit : i1 s.data.toList + 1 + k * 5 + 5 ≤ s.size
    · refine Or.inl ⟨k + 1, ?_, by omega, by omega, by omega, hf, h1, ?_, h3⟩
      · rw [g1 hfit]
        show (((i1 s.data.toList + 1 + k * 5 + 5 : Nat) : Int), (0 : Int)) = _
        rw [show i1 s.data.toList + 1 + k * 5 + 5 = i1 s.data.toList + 1 + (k + 1) * 5 from by omega]
      · rw [vR_good wsh (i1 s.data.toList + 1 + k * 5) sh_w hfit, vals_win, rowsAt_succ, h2]
    · exact Or.inr ⟨g2 (by show s.size < i1 s.data.toList + 1 + k * 5 + 5; omega), by omega, by omega⟩
  · exact absurd (he.symm.trans h.e) (by decide)
theorem Ph1.next (h : Ph1 s σ n fr X1 X2 X3) (hn : ¬ (0 < n ∧ σ.2 = 0)) : Ph2 s (sB s σ) (vB s σ) fr X1 X2 X3 := by
  rcases h with ⟨k, hp, hl, hk, h0, hf, h1, h2, h3⟩ | h
  · have hz : n = 0 := by
      have : σ.2 = 0 := by rw [hp]
      omega
    subst hz
    obtain ⟨q1, q2, q3⟩ := i_eqs s.data.toList
    have hk' : k = n2 s.data.toList := by omega
    have hi : i1 s.data.toList + 1 + k * 5 = i2 s.data.toList := by rw [q2, hk']
    rw [hp, hi]
    by_cases hfit : i2 s.data.toList + 1 ≤ s.size
    · obtain ⟨e, v⟩ := sB_good (s := s) hfit
      refine Or.inl ⟨0, by rw [e], by omega, ?_, ?_, hf, h1, by rw [h2, hk'], by rw [h3]; rfl⟩
      · rw [v]; unfold b1 n3; omega
      · rw [v]; unfold b1; omega
    · have e := sB_end (s := s) (a := i2 s.data.toList) (by omega)
      refine Or.inr ⟨by rw [e], by omega, ?_⟩
      unfold vB rdByte
      dsimp only
      rw [if_neg (by omega)]
      omega
  · exact Or.inr h.byte
theorem Ph2.row (h : Ph2 s σ n fr X1 X2 X3) (hn : 0 < n) (he : σ.2 = 0) : Ph2 s (sR s σ csh) (n - 1) fr X1 X2 (X3 ++ [vR s σ csh]) := by
  rcases h with ⟨k, hp, hl, hk, h0, hf, h1, h2, h3⟩ | h
  · obtain ⟨g1, g2⟩ := sR_good (s := s) csh (i2 s.data.toList + 1 + k * 14) hl sh_c
    have hle := n3_le s.data.toList
    obtain ⟨q1, q2, q3⟩ := i_eqs s.data.toList
    rw [hp]
    by_cases hfit : i2 s.data.toList + 1 + k * 14 + 14 ≤ s.size
    · refine Or.inl ⟨k + 1, ?_, by omega, by omega, by omega, hf, h1, h2, ?_⟩
      · rw [g1 hfit]
        show (((i2 s.data.toList + 1 + k * 14 + 14 : Nat) : Int), (0 : Int)) = _
        rw [show i2 s.data.toList + 1 + k * 14 + 14 = i2 s.data.toList + 1 + (k + 1) * 14 from by omega]
      · rw [vR_good csh (i2 s.data.toList + 1 + k * 14) sh_c hfit, vals_cli, rowsAt_succ, h3]
    · exact Or.inr ⟨g2 (by show s.size < i2 s.data.toList + 1 + k * 14 + 14; omega), by omega, by omega⟩
  · exact absurd (he.symm.trans h.e) (by decide)
/-- What reading comes to. -/
def Fin (s : ByteArray) (σ : Int × Int) (fr : Int) (X1 X2 X3 : List (List Int)) : Prop :=
  (σ = ((i3 s.data.toList : Int), 0) ∧ i3 s.data.toList ≤ s.size ∧ (⟨fr, X1, X2, X3⟩ : Cfg) = cfgAt s.data.toList) ∨ (σ.2 = 5 ∧ s.size < i3 s.data.toList)
theorem Ph2.done (h : Ph2 s σ n fr X1 X2 X3) (hn : ¬ (0 < n ∧ σ.2 = 0)) : Fin s σ fr X1 X2 X3 := by
  rcases h with ⟨k, hp, hl, hk, h0, hf, h1, h2, h3⟩ | h
  · have hz : n = 0 := by
      have : σ.2 = 0 := by rw [hp]
      omega
    subst hz
    obtain ⟨q1, q2, q3⟩ := i_eqs s.data.toList
    have hk' : k = n3 s.data.toList := by omega
    have hi : i2 s.data.toList + 1 + k * 14 = i3 s.data.toList := by rw [q3, hk']
    refine Or.inl ⟨by rw [hp, hi], by omega, ?_⟩
    unfold cfgAt
    rw [hf, h1, h2, h3, hk']
  · exact Or.inr ⟨h.e, h.f⟩
/-- The start: behind the first two bytes; or there were none. -/
theorem ph_0 (h : (σ = (2, 0) ∧ 2 ≤ s.size) ∨ (σ.2 = 5 ∧ s.size < 2)) : Ph0 s (sB s (sT s σ)) (vB s (sT s σ)) (vT s σ) [] [] [] := by
  obtain ⟨q1, q2, q3⟩ := i_eqs s.data.toList
  have bad : ∀ τ : Int × Int, τ.2 = 5 → s.size < i3 s.data.toList → Ph0 s (sB s τ) (vB s τ) (vT s σ) [] [] [] := fun τ h1 h2 => by
    obtain ⟨e1, e2⟩ := sB_bad (s := s) (σ := τ) (by rw [h1]; decide)
    rw [e1, e2]
    exact Or.inr ⟨h1, h2, by omega⟩
  rcases h with ⟨rfl, h2⟩ | ⟨h5, h2⟩
  · by_cases h4 : 4 ≤ s.size
    · obtain ⟨e, v⟩ := sT_good (s := s) (a := 2) h4
      have e' : sT s (2, 0) = (4, 0) := e
      rw [e']
      by_cases h55 : 5 ≤ s.size
      · obtain ⟨e2, v2⟩ := sB_good (s := s) (a := 4) h55
        have e2' : sB s (4, 0) = (5, 0) := e2
        have v2' : vB s (4, 0) = b1 s.data.toList 4 := v2
        rw [e2', v2']
        exact Or.inl ⟨0, rfl, h55, by unfold b1 n1; omega, by unfold b1; omega, v, rfl, rfl, rfl⟩
      · have e2 := sB_end (s := s) (a := 4) (by omega)
        have e2' : sB s (4, 0) = (4, 5) := e2
        rw [e2']
        refine Or.inr ⟨rfl, by omega, ?_⟩
        unfold vB rdByte
        dsimp only
        rw [if_neg (by omega)]
        omega
    · have e := sT_end (s := s) (a := 2) (by omega)
      have e' : sT s (2, 0) = (2, 5) := e
      rw [e']
      exact bad _ rfl (by omega)
  · obtain ⟨e1, e2⟩ := sT_bad (s := s) (σ := σ) (by rw [h5]; decide)
    rw [e1]
    exact bad _ h5 (by omega)
end
end Im
end Go.Proofs.Ytjdhkpafbejodaa
