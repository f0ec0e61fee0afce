/- The check of 16 bits as a plain machine on numbers of 16 bits: one bit at a time, one byte at a time, that the two are one, that it is linear, and that it loses nothing. -/
import Derived.WalkKit
namespace Go.Proofs.Ytjdhkpafbejodaa
namespace Cm

abbrev W16 := BitVec 16
def poly (c : Bool) : W16 := if c then 4129#16 else 0#16
theorem poly_xor (a b : Bool) : poly (a ^^ b) = poly a ^^^ poly b := by cases a <;> cases b <;> simp [poly]
def push (v : W16) (c : Bool) : W16 := (v <<< 1) ^^^ poly (v.msb ^^ c)
def sh (v : W16) : W16 := (v <<< 1) ^^^ poly v.msb
theorem push_false (v : W16) : push v false = sh v := by simp [push, sh]
theorem xor4 (a b c d : W16) : (a ^^^ b) ^^^ (c ^^^ d) = (a ^^^ c) ^^^ (b ^^^ d) := by
  rw [BitVec.xor_assoc, ← BitVec.xor_assoc b c d, BitVec.xor_comm b c, BitVec.xor_assoc c b d, ← BitVec.xor_assoc]
theorem push_xor (v w : W16) (c d : Bool) : push (v ^^^ w) (c ^^ d) = push v c ^^^ push w d := by
  unfold push
  rw [BitVec.shiftLeft_xor_distrib, BitVec.msb_xor, ← xor4, ← poly_xor]
  congr 2
  cases v.msb <;> cases w.msb <;> cases c <;> cases d <;> rfl
theorem sh_xor (v w : W16) : sh (v ^^^ w) = sh v ^^^ sh w := by
  have := push_xor v w false false
  simpa [push_false] using this
theorem sh_zero : sh 0#16 = 0#16 := by decide
theorem sh_ker (v : W16) (h : sh v = 0#16) : v = 0#16 := by
  unfold sh at h
  have h0 := congrArg (fun x : W16 => x.getLsbD 0) h
  cases hm : v.msb with
  | true => simp [hm, poly] at h0
  | false =>
    simp [hm, poly] at h
    apply BitVec.eq_of_getLsbD_eq
    intro i hi
    by_cases h15 : i = 15
    · subst h15
      have : v.getLsbD 15 = v.msb := by simp [BitVec.msb, BitVec.getMsbD]
      rw [this, hm]; simp
    · have h1 := congrArg (fun x : W16 => x.getLsbD (i + 1)) h
      simp at h1
      simp
      exact h1 (by omega)

def shs : Nat → W16 → W16
  | 0, v => v
  | n + 1, v => sh (shs n v)
theorem shs_xor (n : Nat) (v w : W16) : shs n (v ^^^ w) = shs n v ^^^ shs n w := by
  induction n with
  | zero => rfl
  | succ n ih => simp only [shs]; rw [ih, sh_xor]
theorem shs_ker (n : Nat) (v : W16) (h : shs n v = 0#16) : v = 0#16 := by
  induction n with
  | zero => exact h
  | succ n ih => exact ih (sh_ker _ h)

/-- The check behind bits. -/
def feed (v : W16) (l : List Bool) : W16 := l.foldl push v
theorem feed_nil (v : W16) : feed v [] = v := rfl
theorem feed_cons (v : W16) (c : Bool) (l : List Bool) : feed v (c :: l) = feed (push v c) l := rfl
theorem feed_append (v : W16) (l m : List Bool) : feed v (l ++ m) = feed (feed v l) m := by simp [feed, List.foldl_append]
theorem feed_xor (v w : W16) (l m : List Bool) (h : l.length = m.length) :
    feed (v ^^^ w) (List.zipWith Bool.xor l m) = feed v l ^^^ feed w m := by
  induction l generalizing v w m with
  | nil => cases m with
    | nil => rfl
    | cons _ _ => simp at h
  | cons c l ih => cases m with
    | nil => simp at h
    | cons d m =>
      simp only [List.zipWith_cons_cons, feed_cons]
      rw [show (Bool.xor c d) = (c ^^ d) from rfl, push_xor]
      exact ih _ _ _ (by simpa using h)
theorem feed_zeros (v : W16) (n : Nat) : feed v (List.replicate n false) = shs n v := by
  induction n generalizing v with
  | zero => rfl
  | succ n ih =>
    rw [List.replicate_succ', feed_append, ih, feed_cons, feed_nil, push_false]; rfl

/-- Bits, the first one the highest: of at most 16 they are a number, shifted to the top. -/
def top (l : List Bool) : W16 := match l with
  | [] => 0#16
  | c :: m => (if c then 32768#16 else 0#16) ^^^ (top m >>> 1)
theorem top_getMsbD (l : List Bool) : ∀ i, i < 16 → (top l).getMsbD i = l.getD i false := by
  induction l with
  | nil => intro i _; simp [top]
  | cons c m ih =>
    intro i hi
    cases i with
    | zero =>
      simp [top]
      have : (top m >>> 1).getLsbD 15 = false := by simp
      cases c <;> simp [BitVec.getMsbD]
    | succ j =>
      have := ih j (by omega)
      simp [top]
      rw [List.getD_eq_getElem?_getD] at this
      rw [← this]
      have hc : (if c then 32768#16 else 0#16 : W16).getMsbD (j + 1) = false := by
        cases c
        · simp
        · simp only [if_true]
          have : ∀ j : Fin 15, (32768#16 : W16).getMsbD (j.val + 1) = false := by decide
          exact this ⟨j, by omega⟩
      rw [hc]
      simp
      omega
theorem top_zero (l : List Bool) (h : l.length ≤ 16) (h0 : top l = 0#16) : ∀ c ∈ l, c = false := by
  intro c hc
  obtain ⟨i, hi, rfl⟩ := List.getElem_of_mem hc
  have := top_getMsbD l i (by omega)
  rw [h0] at this
  simp at this
  rw [List.getElem?_eq_getElem hi] at this
  simpa using this.symm
theorem push_top (v : W16) (c : Bool) : push v c = sh (v ^^^ (if c then 32768#16 else 0#16)) := by
  cases c
  · simp [push_false]
  · simp only [if_true]
    unfold push sh
    rw [BitVec.shiftLeft_xor_distrib, BitVec.msb_xor]
    have h1 : (32768#16 : W16).msb = true := by decide
    have h2 : (32768#16 : W16) <<< 1 = 0#16 := by decide
    rw [h1, h2]; simp
theorem sh_half (v : W16) : sh (v >>> 1) ^^^ v = (if v.getLsbD 0 then 1#16 else 0#16) := by
  apply BitVec.eq_of_getLsbD_eq
  intro i hi
  unfold sh
  have hm : (v >>> 1).msb = false := by simp [BitVec.msb, BitVec.getMsbD]
  rw [hm]
  by_cases h0 : i = 0
  · subst h0
    cases h : v.getLsbD 0 <;> simp [poly] <;> simpa using h
  · have e : 1 + (i - 1) = i := by omega
    have hr : (if v.getLsbD 0 then 1#16 else 0#16 : W16).getLsbD i = false := by
      split
      · have : ∀ j : Fin 16, j.val ≠ 0 → (1#16 : W16).getLsbD j.val = false := by decide
        exact this ⟨i, hi⟩ h0
      · simp
    rw [hr]
    simp [poly, h0, hi, e]
/-- BITS THAT ARE FED ARE A NUMBER THAT IS ADDED AHEAD: of at most 16. -/
theorem feed_top (l : List Bool) (h : l.length ≤ 16) : ∀ v, feed v l = shs l.length (v ^^^ top l) := by
  induction l with
  | nil => intro v; simp [feed, shs, top]
  | cons c m ih =>
    intro v
    have hm : m.length ≤ 16 := by simp at h; omega
    rw [feed_cons, ih hm, push_top]
    have ht : sh (top m >>> 1) = top m := by
      have h1 := sh_half (top m)
      have h2 : (top m).getLsbD 0 = false := by
        have h3 := top_getMsbD m 15 (by decide)
        have h4 : m.getD 15 false = false := by
          simp at h
          rw [List.getD_eq_getElem?_getD, List.getElem?_eq_none (by omega)]; rfl
        rw [h4] at h3
        simpa [BitVec.getMsbD] using h3
      rw [h2] at h1
      simp at h1
      exact h1
    have e : sh (v ^^^ (if c then 32768#16 else 0#16)) ^^^ top m = sh (v ^^^ top (c :: m)) := by
      rw [show top (c :: m) = (if c then 32768#16 else 0#16) ^^^ (top m >>> 1) from rfl, ← BitVec.xor_assoc, sh_xor _ (top m >>> 1), ht]
    rw [e, List.length_cons]
    generalize v ^^^ top (c :: m) = z
    have comm : ∀ n (z : W16), shs n (sh z) = sh (shs n z) := by
      intro n; induction n with
      | zero => intro z; rfl
      | succ n ih => intro z; simp only [shs]; rw [ih]
    rw [comm]; rfl
/-- WHAT IS FED TO NOTHING IS NOTHING ONLY IF IT IS: of at most 16 bits, with as many noughts behind as one likes. -/
theorem feed_ker (l : List Bool) (h : l.length ≤ 16) (n : Nat) (h0 : feed 0#16 (l ++ List.replicate n false) = 0#16) : ∀ c ∈ l, c = false := by
  rw [feed_append, feed_zeros, feed_top l h] at h0
  have h1 := shs_ker _ _ (shs_ker _ _ h0)
  simp at h1
  exact top_zero l h h1

/-! A byte's bits. -/
def bit (b : Nat) (k : Nat) : Bool := b.testBit (7 - k)
def bitsB (b : Nat) : List Bool := [b.testBit 7, b.testBit 6, b.testBit 5, b.testBit 4, b.testBit 3, b.testBit 2, b.testBit 1, b.testBit 0]
theorem sixteen (i : Nat) (h : i < 16) : i = 0 ∨ i = 1 ∨ i = 2 ∨ i = 3 ∨ i = 4 ∨ i = 5 ∨ i = 6 ∨ i = 7 ∨ i = 8 ∨ i = 9 ∨ i = 10 ∨ i = 11 ∨ i = 12 ∨ i = 13 ∨ i = 14 ∨ i = 15 := by omega
theorem bitsB_length (b : Nat) : (bitsB b).length = 8 := rfl
theorem top_bitsB (b : Nat) : top (bitsB b) = BitVec.ofNat 16 (b * 256) := by
  apply BitVec.eq_of_getMsbD_eq
  intro i hi
  rw [top_getMsbD _ _ hi]
  have hr : (BitVec.ofNat 16 (b * 256)).getMsbD i = (b * 256).testBit (15 - i) := by
    rw [BitVec.getMsbD, BitVec.getLsbD_ofNat]
    simp [hi]
    omega
  rw [hr, show b * 256 = b <<< 8 from by rw [Nat.shiftLeft_eq], Nat.testBit_shiftLeft]
  rcases sixteen i hi with h | h | h | h | h | h | h | h | h | h | h | h | h | h | h | h <;> subst h <;> simp [bitsB]
/-- The check behind a byte. -/
def byteStep (v : W16) (b : Nat) : W16 := shs 8 (v ^^^ BitVec.ofNat 16 (b * 256))
theorem step_feed (v : W16) (b : Nat) : byteStep v b = feed v (bitsB b) := by
  rw [feed_top _ (by simp [bitsB_length]), top_bitsB b]; rfl
/-- The check of bytes. -/
def crc (v : W16) (l : List UInt8) : W16 := l.foldl (fun v b => byteStep v b.toNat) v
def textBits (l : List UInt8) : List Bool := l.flatMap fun b => bitsB b.toNat
theorem crc_feed (v : W16) (l : List UInt8) : crc v l = feed v (textBits l) := by
  induction l generalizing v with
  | nil => rfl
  | cons b l ih =>
    show crc (byteStep v b.toNat) l = _
    rw [ih, step_feed _ b.toNat, show textBits (b :: l) = bitsB b.toNat ++ textBits l from rfl, feed_append]
theorem crc_append (v : W16) (l m : List UInt8) : crc v (l ++ m) = crc (crc v l) m := by simp [crc, List.foldl_append]
theorem crc_snoc (v : W16) (l : List UInt8) (b : UInt8) : crc v (l ++ [b]) = byteStep (crc v l) b.toNat := by simp [crc, List.foldl_append]
/-- Two bytes that are the check's own bring it to nought; no two others do. -/
theorem crc_two (v : W16) (b c : UInt8) : crc v [b, c] = 0#16 ↔ b.toNat = v.toNat / 256 ∧ c.toNat = v.toNat % 256 := by
  have hb := b.toNat_lt
  have hc := c.toNat_lt
  have hv := v.isLt
  have e : crc v [b, c] = shs 16 (v ^^^ top (bitsB b.toNat ++ bitsB c.toNat)) := by
    rw [crc_feed]
    exact feed_top (bitsB b.toNat ++ bitsB c.toNat) (by simp [bitsB_length]) v
  have et : top (bitsB b.toNat ++ bitsB c.toNat) = BitVec.ofNat 16 (b.toNat * 256 + c.toNat) := by
    apply BitVec.eq_of_getMsbD_eq
    intro i hi
    rw [top_getMsbD _ _ hi]
    have hr : (BitVec.ofNat 16 (b.toNat * 256 + c.toNat)).getMsbD i = (b.toNat * 256 + c.toNat).testBit (15 - i) := by
      rw [BitVec.getMsbD, BitVec.getLsbD_ofNat]
      simp [hi]
      omega
    rw [hr, show b.toNat * 256 + c.toNat = 2 ^ 8 * b.toNat + c.toNat from by omega, Nat.testBit_two_pow_mul_add _ (by simpa using hc)]
    rcases sixteen i hi with h | h | h | h | h | h | h | h | h | h | h | h | h | h | h | h <;> subst h <;> simp [bitsB]
  rw [e, et]
  constructor
  · intro h
    have h1 := shs_ker _ _ h
    have h2 : v = BitVec.ofNat 16 (b.toNat * 256 + c.toNat) := by
      have := congrArg (fun z => z ^^^ BitVec.ofNat 16 (b.toNat * 256 + c.toNat)) h1
      simpa [BitVec.xor_assoc] using this
    have h3 : v.toNat = b.toNat * 256 + c.toNat := by
      rw [h2, BitVec.toNat_ofNat]; exact Nat.mod_eq_of_lt (by omega)
    omega
  · rintro ⟨h1, h2⟩
    have h3 : v = BitVec.ofNat 16 (b.toNat * 256 + c.toNat) := by
      apply BitVec.eq_of_toNat_eq
      rw [BitVec.toNat_ofNat]
      omega
    rw [← h3]
    simp
    decide
end Cm
end Go.Proofs.Ytjdhkpafbejodaa
