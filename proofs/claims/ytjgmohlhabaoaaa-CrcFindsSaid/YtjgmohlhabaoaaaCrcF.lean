/- A text with bits turned, all within 16 behind one another: what its check becomes. Plain lists. -/
import Derived.Test.YtjgmohlhabaoaaaCrcM
namespace Go.Proofs.Ytjgmohlhabaoaaa
namespace Cm

/-- A text's bit, from the highest of the first byte on. -/
def tbit (l : List UInt8) (j : Nat) : Bool := (l.getD (j / 8) 0).toNat.testBit (7 - j % 8)
theorem textBits_length (l : List UInt8) : (textBits l).length = 8 * l.length := by
  induction l with
  | nil => rfl
  | cons b l ih =>
    have : textBits (b :: l) = bitsB b.toNat ++ textBits l := rfl
    rw [this, List.length_append, ih, bitsB_length, List.length_cons]; omega
theorem textBits_get (l : List UInt8) : ∀ j, j < 8 * l.length → (textBits l)[j]? = some (tbit l j) := by
  induction l with
  | nil => intro j h; simp at h
  | cons b l ih =>
    intro j h
    rw [show textBits (b :: l) = bitsB b.toNat ++ textBits l from rfl]
    by_cases h8 : j < 8
    · rw [List.getElem?_append_left (by rw [bitsB_length]; omega)]
      have hd : j / 8 = 0 := by omega
      have hm : j % 8 = j := by omega
      unfold tbit
      rw [hd, hm]
      have : j = 0 ∨ j = 1 ∨ j = 2 ∨ j = 3 ∨ j = 4 ∨ j = 5 ∨ j = 6 ∨ j = 7 := by omega
      rcases this with rfl | rfl | rfl | rfl | rfl | rfl | rfl | rfl <;> rfl
    · rw [List.getElem?_append_right (by rw [bitsB_length]; omega), bitsB_length, ih (j - 8) (by simp at h; omega)]
      unfold tbit
      rw [show j / 8 = (j - 8) / 8 + 1 from by omega, show j % 8 = (j - 8) % 8 from by omega]
      rfl
theorem eq_of_tbit (l m : List UInt8) (hl : l.length = m.length) (h : ∀ j, j < 8 * l.length → tbit l j = tbit m j) : l = m := by
  apply List.ext_getElem hl
  intro i h1 h2
  apply UInt8.toNat_inj.1
  apply Nat.eq_of_testBit_eq
  intro k
  by_cases hk : k < 8
  · have := h (8 * i + (7 - k)) (by omega)
    unfold tbit at this
    rw [show (8 * i + (7 - k)) / 8 = i from by omega, show 7 - (8 * i + (7 - k)) % 8 = k from by omega] at this
    simpa [List.getD, List.getElem?_eq_getElem h1, List.getElem?_eq_getElem h2] using this
  · have e1 : l[i].toNat < 2 ^ k := Nat.lt_of_lt_of_le l[i].toNat_lt (Nat.pow_le_pow_right (by decide) (by omega))
    have e2 : m[i].toNat < 2 ^ k := Nat.lt_of_lt_of_le m[i].toNat_lt (Nat.pow_le_pow_right (by decide) (by omega))
    rw [Nat.testBit_lt_two_pow e1, Nat.testBit_lt_two_pow e2]

/-- One bit turned. -/
def flip (l : List UInt8) (i : Nat) : List UInt8 := l.set (i / 8) (UInt8.ofNat ((l.getD (i / 8) 0).toNat ^^^ 2 ^ (7 - i % 8)))
theorem flip_length (l : List UInt8) (i : Nat) : (flip l i).length = l.length := by simp [flip]
theorem flip_lt (c : UInt8) (k : Nat) (h : k < 8) : c.toNat ^^^ 2 ^ k < 256 :=
  Nat.xor_lt_two_pow (n := 8) c.toNat_lt (Nat.pow_lt_pow_right (by decide) h)
theorem tbit_flip (l : List UInt8) (i j : Nat) (hi : i < 8 * l.length) : tbit (flip l i) j = (tbit l j ^^ decide (j = i)) := by
  unfold tbit flip
  by_cases h : j / 8 = i / 8
  · have e : (l.set (i / 8) (UInt8.ofNat ((l.getD (i / 8) 0).toNat ^^^ 2 ^ (7 - i % 8)))).getD (j / 8) 0 = UInt8.ofNat ((l.getD (i / 8) 0).toNat ^^^ 2 ^ (7 - i % 8)) := by
      rw [h, List.getD_eq_getElem?_getD, List.getElem?_set_self (by omega)]; rfl
    rw [e, h]
    have hlt := flip_lt (l.getD (i / 8) 0) (7 - i % 8) (by omega)
    rw [UInt8.toNat_ofNat', Nat.mod_eq_of_lt hlt, Nat.testBit_xor, Nat.testBit_two_pow]
    congr 1
    rw [Bool.eq_iff_iff]
    simp
    omega
  · have e : (l.set (i / 8) (UInt8.ofNat ((l.getD (i / 8) 0).toNat ^^^ 2 ^ (7 - i % 8)))).getD (j / 8) 0 = l.getD (j / 8) 0 := by
      simp only [List.getD_eq_getElem?_getD]
      rw [List.getElem?_set_ne (by omega)]
    rw [e]
    have : decide (j = i) = false := by simp; omega
    rw [this]; simp
/-- The reference's turning, step by step. -/
def turnK (x : List UInt8) (at_ by_ : Nat) : Nat → List UInt8
  | 0 => x
  | k + 1 => if by_ / 2 ^ (15 - k) % 2 = 1 ∧ (at_ + k) / 8 < x.length then flip (turnK x at_ by_ k) (at_ + k) else turnK x at_ by_ k
theorem turnK_length (x : List UInt8) (a b k : Nat) : (turnK x a b k).length = x.length := by
  induction k with
  | zero => rfl
  | succ k ih => simp only [turnK]; split <;> simp [flip_length, ih]
def mbit (a b k j : Nat) : Bool := decide (a ≤ j) && decide (j < a + k) && b.testBit (15 - (j - a))
theorem tbit_turn (x : List UInt8) (a b : Nat) (k : Nat) (hk : k ≤ 16) (j : Nat) (hj : j < 8 * x.length) : tbit (turnK x a b k) j = (tbit x j ^^ mbit a b k j) := by
  induction k with
  | zero =>
    have : mbit a b 0 j = false := by unfold mbit; simp; omega
    rw [this]; simp [turnK]
  | succ k ih =>
    have ih := ih (by omega)
    have hb : b.testBit (15 - k) = decide (b / 2 ^ (15 - k) % 2 = 1) := Nat.testBit_eq_decide_div_mod_eq
    have hm : mbit a b (k + 1) j = (mbit a b k j ^^ (decide (j = a + k) && b.testBit (15 - k))) := by
      unfold mbit
      by_cases h1 : j = a + k
      · subst h1
        have : decide (a + k < a + k) = false := by simp
        rw [this]
        simp
      · have e : decide (j < a + (k + 1)) = decide (j < a + k) := by rw [Bool.eq_iff_iff]; simp; omega
        have : decide (j = a + k) = false := by simp [h1]
        rw [e, this]; simp
    rw [hm, ← Bool.xor_assoc, ← ih]
    simp only [turnK]
    by_cases hc : b / 2 ^ (15 - k) % 2 = 1 ∧ (a + k) / 8 < x.length
    · rw [if_pos hc, tbit_flip _ _ _ (by rw [turnK_length]; omega), hb]
      simp [hc.1]
    · rw [if_neg hc, hb]
      by_cases h1 : j = a + k
      · have : ¬ b / 2 ^ (15 - k) % 2 = 1 := fun h => hc ⟨h, by omega⟩
        simp [this]
      · simp [h1]

/-- WHAT IS TURNED WITHIN 16 BITS IS FOUND. -/
theorem turned_found (v : W16) (x : List UInt8) (a b : Nat) (ha : a < 8 * x.length) (hx : crc v x = 0#16) : crc v (turnK x a b 16) = 0#16 ↔ turnK x a b 16 = x := by
  refine ⟨fun h => ?_, fun h => by rw [h]; exact hx⟩
  have hbits : textBits (turnK x a b 16) = List.zipWith Bool.xor (textBits x) ((List.range (8 * x.length)).map (mbit a b 16)) := by
    apply List.ext_getElem?
    intro j
    by_cases hj : j < 8 * x.length
    · rw [textBits_get _ _ (by rw [turnK_length]; exact hj), tbit_turn x a b 16 (by omega) j hj, List.getElem?_zipWith, textBits_get _ _ hj]
      simp [hj]
    · rw [List.getElem?_eq_none (by rw [textBits_length, turnK_length]; omega), List.getElem?_eq_none (by simp [textBits_length]; omega)]
  have hf : feed 0#16 ((List.range (8 * x.length)).map (mbit a b 16)) = 0#16 := by
    have h1 := feed_xor v 0#16 (textBits x) ((List.range (8 * x.length)).map (mbit a b 16)) (by simp [textBits_length])
    rw [← hbits, BitVec.xor_zero, ← crc_feed, ← crc_feed, h, hx, BitVec.zero_xor] at h1
    exact h1.symm
  obtain ⟨m, r, hm, hr⟩ : ∃ m r, m ≤ 16 ∧ 8 * x.length = a + (m + r) ∧ (m = 16 ∨ r = 0) := by
    by_cases h16 : 8 * x.length - a ≤ 16
    · exact ⟨8 * x.length - a, 0, h16, by omega, by omega⟩
    · exact ⟨16, 8 * x.length - a - 16, by omega, by omega, by omega⟩
  have hs : (List.range (8 * x.length)).map (mbit a b 16) = List.replicate a false ++ ((List.range m).map (fun i => mbit a b 16 (a + i)) ++ List.replicate r false) := by
    apply List.ext_getElem
    · simp [hr.1]
    · intro j h1 h2
      simp at h1
      rw [List.getElem_map, List.getElem_range, List.getElem_append]
      split
      · rename_i h3
        simp at h3
        simp [mbit]
        omega
      · rename_i h3
        simp at h3
        rw [List.getElem_append]
        split
        · rename_i h4
          simp at h4
          simp [show a + (j - a) = j from by omega]
        · rename_i h4
          simp at h4
          simp [mbit]
          omega
  have hz : ∀ n, shs n 0#16 = 0#16 := by
    intro n; induction n with
    | zero => rfl
    | succ n ih => simp only [shs]; rw [ih]; exact sh_zero
  rw [hs, feed_append, feed_zeros, hz] at hf
  have hk := feed_ker _ (by simpa using hm) r hf
  apply eq_of_tbit _ _ (turnK_length _ _ _ _)
  intro j hj
  rw [turnK_length] at hj
  rw [tbit_turn x a b 16 (by omega) j hj]
  have : mbit a b 16 j = false := by
    by_cases h1 : a ≤ j ∧ j < a + m
    · have := hk (mbit a b 16 (a + (j - a))) (by
        rw [List.mem_map]; exact ⟨j - a, by simp; omega, rfl⟩)
      rwa [show a + (j - a) = j from by omega] at this
    · unfold mbit
      simp
      omega
  rw [this]; simp
end Cm
end Go.Proofs.Ytjgmohlhabaoaaa
