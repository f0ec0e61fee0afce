/- Whole numbers below 2^53 as floats: their sums, products and order are exact. -/
import Ieee.Arith
import Derived.Laws.FloatBits
namespace Go.Proofs.Ytbkljphhgghjdaa
namespace Fl
open Ieee
/-- The word of a whole number (a zero has a sign). -/
def wd (s : Bool) (n : Nat) : Nat := Ieee.double.nearest s n 0
/-- The word, told in plain sums. -/
def rg (s : Bool) (n : Nat) : Nat := double.word s ((n.log2 + 1022) * 2 ^ 52 + n * 2 ^ (52 - n.log2))
theorem two_lt {a b : Nat} (h : 2 ^ a < 2 ^ b) : a < b := (Nat.pow_lt_pow_iff_right (by decide)).1 h
theorem log_lt {n : Nat} (h0 : 0 < n) (h : n < 2 ^ 53) : n.log2 ≤ 52 := by
  have h1 := Nat.log2_self_le (n := n) (by omega)
  have := two_lt (Nat.lt_of_le_of_lt h1 h)
  omega
theorem kept_lo {n : Nat} (h0 : 0 < n) (h : n < 2 ^ 53) : 2 ^ 52 ≤ n * 2 ^ (52 - n.log2) := by
  have h1 := Nat.log2_self_le (n := n) (by omega)
  have hl := log_lt h0 h
  calc 2 ^ 52 = 2 ^ n.log2 * 2 ^ (52 - n.log2) := by rw [← Nat.pow_add]; congr 1; omega
    _ ≤ _ := Nat.mul_le_mul_right _ h1
theorem kept_hi {n : Nat} (h0 : 0 < n) (h : n < 2 ^ 53) : n * 2 ^ (52 - n.log2) < 2 ^ 53 := by
  have h1 := Nat.lt_log2_self (n := n)
  have hl := log_lt h0 h
  calc n * 2 ^ (52 - n.log2) < 2 ^ (n.log2 + 1) * 2 ^ (52 - n.log2) := Nat.mul_lt_mul_of_pos_right h1 (Nat.two_pow_pos _)
    _ = 2 ^ 53 := by rw [← Nat.pow_add]; congr 1; omega
theorem cut_zero (s : Bool) (n : Nat) : Toward.even.cut s n 0 = n := by
  simp [Toward.cut, Nat.mod_one]
theorem cut_whole (s : Bool) (n b : Nat) (h : b ≤ (n * 2 ^ b).log2 + 2) : Toward.even.cut s (n * 2 ^ b) b = n := by
  have hp := Nat.two_pow_pos b
  unfold Toward.cut
  simp only [Nat.min_eq_left h, Nat.one_shiftLeft, Nat.mul_mod_left, Nat.mul_div_cancel _ hp, Nat.mul_zero]
  have e1 : decide (2 ^ b < 0) = false := by simp
  have e2 : (2 ^ b == 0) = false := by
    rw [beq_eq_false_iff_ne]; omega
  rw [e1, e2]
  rfl
theorem core (K : Nat) (hK : K = 2148) (s : Bool) (mag q n : Nat) (hn : 0 < n) (hb : n < 2 ^ 53) (h : mag * 2 ^ q = n * 2 ^ K) : double.nearest s mag ((q : Int) - K) = rg s n := by
  have hm : mag ≠ 0 := by
    rintro rfl
    rw [Nat.zero_mul] at h
    have := Nat.mul_pos hn (Nat.two_pow_pos K)
    omega
  have m1 := Nat.log2_self_le hm
  have m2 := Nat.lt_log2_self (n := mag)
  have n1 := Nat.log2_self_le (n := n) (by omega)
  have n2 := Nat.lt_log2_self (n := n)
  have hl := log_lt hn hb
  have k1 := kept_lo hn hb
  have k2 := kept_hi hn hb
  have hlog : mag.log2 + q = n.log2 + K := by
    have a1 : 2 ^ (mag.log2 + q) < 2 ^ (n.log2 + 1 + K) := by
      rw [Nat.pow_add, Nat.pow_add]
      calc 2 ^ mag.log2 * 2 ^ q ≤ mag * 2 ^ q := Nat.mul_le_mul_right _ m1
        _ = n * 2 ^ K := h
        _ < _ := Nat.mul_lt_mul_of_pos_right n2 (Nat.two_pow_pos _)
    have a2 : 2 ^ (n.log2 + K) < 2 ^ (mag.log2 + 1 + q) := by
      rw [Nat.pow_add, Nat.pow_add]
      calc 2 ^ n.log2 * 2 ^ K ≤ n * 2 ^ K := Nat.mul_le_mul_right _ n1
        _ = mag * 2 ^ q := h.symm
        _ < _ := Nat.mul_lt_mul_of_pos_right m2 (Nat.two_pow_pos _)
    have := two_lt a1
    have := two_lt a2
    omega
  have hlast : max ((q : Int) - K + mag.log2 - (double.fractionBits : Nat)) double.leastPlace = (n.log2 : Int) - 52 := by
    have e1 : double.leastPlace = -1074 := by decide
    have e2 : ((double.fractionBits : Nat) : Int) = 52 := rfl
    rw [e1, e2]
    omega
  have hkept : Toward.even.cut s (mag <<< ((q : Int) - K - ((n.log2 : Int) - 52)).toNat) (((n.log2 : Int) - 52) - ((q : Int) - K)).toNat = n * 2 ^ (52 - n.log2) := by
    rw [Nat.shiftLeft_eq]
    by_cases hc : n.log2 + K ≤ q + 52
    · have e1 : ((q : Int) - K - ((n.log2 : Int) - 52)).toNat = q + 52 - (n.log2 + K) := by omega
      have e2 : (((n.log2 : Int) - 52) - ((q : Int) - K)).toNat = 0 := by omega
      rw [e1, e2, cut_zero]
      refine Nat.eq_of_mul_eq_mul_right (Nat.two_pow_pos (n.log2 + K)) ?_
      rw [Nat.mul_assoc, ← Nat.pow_add, Nat.mul_assoc, ← Nat.pow_add]
      rw [show q + 52 - (n.log2 + K) + (n.log2 + K) = q + 52 from by omega, show 52 - n.log2 + (n.log2 + K) = K + 52 from by omega, Nat.pow_add _ q, Nat.pow_add _ K, ← Nat.mul_assoc, h, Nat.mul_assoc]
    · have e1 : ((q : Int) - K - ((n.log2 : Int) - 52)).toNat = 0 := by omega
      have e2 : (((n.log2 : Int) - 52) - ((q : Int) - K)).toNat = n.log2 + K - (q + 52) := by omega
      have e3 : mag = n * 2 ^ (52 - n.log2) * 2 ^ (n.log2 + K - (q + 52)) := by
        refine Nat.eq_of_mul_eq_mul_right (Nat.two_pow_pos q) ?_
        rw [h, Nat.mul_assoc, Nat.mul_assoc, ← Nat.pow_add, ← Nat.pow_add]
        congr 2
        omega
      rw [e1, e2, Nat.pow_zero, Nat.mul_one]
      have hb2 : n.log2 + K - (q + 52) ≤ mag.log2 + 2 := by omega
      rw [e3] at hb2 ⊢
      exact cut_whole s _ _ hb2
  unfold Format.nearest
  rw [if_neg hm]
  simp only [hlast, hkept]
  unfold rg
  have e1 : ((n.log2 : Int) - 52 - double.leastPlace).toNat = n.log2 + 1022 := by
    have : double.leastPlace = -1074 := by decide
    rw [this]
    omega
  have e2 : double.binade = 2 ^ 52 := rfl
  have e3 : double.infRung = 2047 * 2 ^ 52 := by decide
  rw [e1, e2, e3, Nat.min_eq_left (by omega)]
theorem near_of (K : Nat) (hK : K = 2148) (s : Bool) (mag q n : Nat) (hb : n < 2 ^ 53) (h : mag * 2 ^ q = n * 2 ^ K) : double.nearest s mag ((q : Int) - K) = wd s n := by
  by_cases hn : n = 0
  · subst hn
    rw [Nat.zero_mul] at h
    have : mag = 0 := by
      rcases Nat.mul_eq_zero.1 h with h | h
      · exact h
      · exact absurd h (Nat.ne_of_gt (Nat.two_pow_pos q))
    subst this
    unfold wd Format.nearest
    rw [if_pos rfl, if_pos rfl]
  · rw [core K hK s mag q n (by omega) hb h]
    have := core K hK s n K n (by omega) hb rfl
    rw [Int.sub_self] at this
    exact this.symm
theorem wd_rg (s : Bool) (n : Nat) (hn : 0 < n) (hb : n < 2 ^ 53) : wd s n = rg s n := by
  obtain ⟨K, hK⟩ : ∃ K : Nat, K = 2148 := ⟨_, rfl⟩
  have := core K hK s n K n hn hb rfl
  rw [Int.sub_self] at this
  exact this
/-- What a datum stands for, as a whole number. -/
def Val (K : Nat) (d : Datum) (s : Bool) (n : Nat) : Prop := ∃ m q : Nat, d = .number s m ((q : Int) - K) ∧ m * 2 ^ q = n * 2 ^ K
theorem read_word (s : Bool) (e k : Nat) (he : e ≤ 2045) (h1 : 2 ^ 52 ≤ k) (h2 : k < 2 ^ 53) : double.read (double.word s (e * 2 ^ 52 + k)) = .number s k ((e : Int) - 1074) := by
  have hw : double.signWeight = 2 ^ 63 := rfl
  have e0 : double.word s (e * 2 ^ 52 + k) / double.signWeight % 2 = s.toNat ∧ double.word s (e * 2 ^ 52 + k) % double.signWeight = e * 2 ^ 52 + k := by
    unfold Format.word
    rw [hw]
    cases s
    · rw [if_neg (by decide)]
      exact ⟨by show _ = 0; omega, by omega⟩
    · rw [if_pos rfl]
      exact ⟨by show _ = 1; omega, by omega⟩
  unfold Format.read
  rw [e0.1, e0.2]
  have e2 : double.binade = 2 ^ 52 := rfl
  have e3 : double.infRung = 2047 * 2 ^ 52 := by decide
  have e4 : double.leastPlace = -1074 := by decide
  have e5 : (s.toNat == 1) = s := by cases s <;> rfl
  simp only [e2, e3, e4, e5]
  rw [if_neg (by omega), if_pos (by omega)]
  have e6 : 2 ^ 52 + (e * 2 ^ 52 + k) % 2 ^ 52 = k := by omega
  have e7 : (e * 2 ^ 52 + k) / 2 ^ 52 - 1 = e := by omega
  rw [e6, e7, Int.add_comm]
  rfl
theorem val_wd (K : Nat) (hK : 1074 ≤ K) (s : Bool) (n : Nat) (hb : n < 2 ^ 53) : Val K (double.read (wd s n)) s n := by
  by_cases hn : n = 0
  · subst hn
    have : double.read (wd s 0) = .number s 0 (-1074) := by
      have e : wd s 0 = double.word s 0 := by
        unfold wd Format.nearest
        rw [if_pos rfl]
      rw [e]
      cases s <;> decide +kernel
    have e : ((K - 1074 : Nat) : Int) - K = -1074 := by omega
    exact ⟨0, K - 1074, by rw [this, e], by rw [Nat.zero_mul, Nat.zero_mul]⟩
  · have hl := log_lt (n := n) (by omega) hb
    rw [wd_rg s n (by omega) hb]
    unfold rg
    rw [read_word s _ _ (by omega) (kept_lo (by omega) hb) (kept_hi (by omega) hb)]
    have e : ((n.log2 + 1022 : Nat) : Int) - 1074 = ((n.log2 + K - 52 : Nat) : Int) - K := by omega
    refine ⟨_, n.log2 + K - 52, by rw [e], ?_⟩
    rw [Nat.mul_assoc, ← Nat.pow_add, show 52 - n.log2 + (n.log2 + K - 52) = K from by omega]
theorem mul_wd (s t : Bool) (a b : Nat) (ha : a < 2 ^ 53) (hb : b < 2 ^ 53) (h : a * b < 2 ^ 53) : double.mul (wd s a) (wd t b) = some (wd (s ^^ t) (a * b)) := by
  obtain ⟨K, hK⟩ : ∃ K : Nat, K = 1074 := ⟨_, rfl⟩
  obtain ⟨m, q, e1, g1⟩ := val_wd K (by omega) s a ha
  obtain ⟨m', q', e2, g2⟩ := val_wd K (by omega) t b hb
  unfold Format.mul
  rw [e1, e2]
  show some (double.nearest (s ^^ t) (m * m') ((q : Int) - K + ((q' : Int) - K))) = _
  have e3 : (q : Int) - K + ((q' : Int) - K) = ((q + q' : Nat) : Int) - ((K + K : Nat) : Int) := by omega
  rw [e3, near_of (K + K) (by omega) (s ^^ t) (m * m') (q + q') (a * b) h]
  rw [Nat.pow_add, Nat.pow_add, Nat.mul_mul_mul_comm, g1, g2, Nat.mul_mul_mul_comm]
/-- A sign and a magnitude as a number. -/
def sg (s : Bool) (n : Nat) : Int := if s then -(n : Int) else n
theorem signed_sg (s : Bool) (m u : Nat) : signed s m u = sg s (m * 2 ^ u) := by
  unfold signed sg
  rw [Nat.shiftLeft_eq]
theorem sg_mul (s : Bool) (m k : Nat) : sg s (m * k) = sg s m * (k : Int) := by
  unfold sg
  cases s
  · rw [if_neg (by decide), if_neg (by decide), Int.natCast_mul]
  · rw [if_pos rfl, if_pos rfl, Int.natCast_mul, Int.neg_mul]
theorem scale (K q q' : Nat) (s t : Bool) (m m' a b : Nat) (g1 : m * 2 ^ q = a * 2 ^ K) (g2 : m' * 2 ^ q' = b * 2 ^ K) : (signed s m (q - min q q') + signed t m' (q' - min q q')) * ((2 ^ min q q' : Nat) : Int) = (sg s a + sg t b) * ((2 ^ K : Nat) : Int) := by
  rw [signed_sg, signed_sg, Int.add_mul, Int.add_mul, ← sg_mul, ← sg_mul, ← sg_mul, ← sg_mul, Nat.mul_assoc, Nat.mul_assoc, ← Nat.pow_add, ← Nat.pow_add]
  rw [show q - min q q' + min q q' = q from by omega, show q' - min q q' + min q q' = q' from by omega, g1, g2]
theorem min_place (q q' K : Nat) : min ((q : Int) - K) ((q' : Int) - K) = ((min q q' : Nat) : Int) - K := by omega
theorem add_datum (s t : Bool) (a b : Nat) (h : (sg s a + sg t b).natAbs < 2 ^ 53) (m q m' q' K : Nat) (hK : K = 1074) (g1 : m * 2 ^ q = a * 2 ^ K) (g2 : m' * 2 ^ q' = b * 2 ^ K) :
    ((Datum.number s m ((q : Int) - K)).sum (Datum.number t m' ((q' : Int) - K))).map double.write = some (wd (if sg s a + sg t b = 0 then s && t else decide (sg s a + sg t b < 0)) (sg s a + sg t b).natAbs) := by
  have hs := scale K q q' s t m m' a b g1 g2
  have p1 : (0 : Int) < ((2 ^ min q q' : Nat) : Int) := by have := Nat.two_pow_pos (min q q'); omega
  have p2 : (0 : Int) < ((2 ^ K : Nat) : Int) := by have := Nat.two_pow_pos K; omega
  show some (double.nearest _ _ _) = _
  simp only [min_place]
  rw [show ((q : Int) - K - (((min q q' : Nat) : Int) - K)).toNat = q - min q q' from by omega, show ((q' : Int) - K - (((min q q' : Nat) : Int) - K)).toNat = q' - min q q' from by omega]
  generalize signed s m (q - min q q') + signed t m' (q' - min q q') = T at *
  generalize sg s a + sg t b = V at *
  have c0 : (T = 0) = (V = 0) := by
    apply propext
    constructor
    · rintro rfl
      rw [Int.zero_mul] at hs
      rcases Int.mul_eq_zero.1 hs.symm with h | h
      · exact h
      · omega
    · rintro rfl
      rw [Int.zero_mul] at hs
      rcases Int.mul_eq_zero.1 hs with h | h
      · exact h
      · omega
  have c1 : (T < 0) = (V < 0) := by
    apply propext
    constructor
    · intro hh
      have h1 := Int.mul_neg_of_neg_of_pos hh p1
      rw [hs] at h1
      exact Int.lt_of_not_ge fun hv => absurd (Int.mul_nonneg hv (Int.le_of_lt p2)) (Int.not_le_of_gt h1)
    · intro hh
      have h1 := Int.mul_neg_of_neg_of_pos hh p2
      rw [← hs] at h1
      exact Int.lt_of_not_ge fun hv => absurd (Int.mul_nonneg hv (Int.le_of_lt p1)) (Int.not_le_of_gt h1)
  have c2 : T.natAbs * 2 ^ (min q q' + K) = V.natAbs * 2 ^ (K + K) := by
    have := congrArg Int.natAbs hs
    rw [Int.natAbs_mul, Int.natAbs_mul, Int.natAbs_natCast, Int.natAbs_natCast] at this
    rw [Nat.pow_add, Nat.pow_add, ← Nat.mul_assoc, ← Nat.mul_assoc, this]
  rw [show ((min q q' : Nat) : Int) - K = ((min q q' + K : Nat) : Int) - ((K + K : Nat) : Int) from by omega, near_of (K + K) (by omega) _ _ _ _ h c2]
  simp only [c0, c1]
theorem add_wd (s t : Bool) (a b : Nat) (ha : a < 2 ^ 53) (hb : b < 2 ^ 53) (h : (sg s a + sg t b).natAbs < 2 ^ 53) : double.add (wd s a) (wd t b) = some (wd (if sg s a + sg t b = 0 then s && t else decide (sg s a + sg t b < 0)) (sg s a + sg t b).natAbs) := by
  obtain ⟨K, hK⟩ : ∃ K : Nat, K = 1074 := ⟨_, rfl⟩
  obtain ⟨m, q, e1, g1⟩ := val_wd K (by omega) s a ha
  obtain ⟨m', q', e2, g2⟩ := val_wd K (by omega) t b hb
  unfold Format.add
  rw [e1, e2]
  exact add_datum s t a b h m q m' q' K hK g1 g2
theorem sub_wd (s t : Bool) (a b : Nat) (ha : a < 2 ^ 53) (hb : b < 2 ^ 53) (h : (sg s a + sg (!t) b).natAbs < 2 ^ 53) : double.sub (wd s a) (wd t b) = some (wd (if sg s a + sg (!t) b = 0 then s && !t else decide (sg s a + sg (!t) b < 0)) (sg s a + sg (!t) b).natAbs) := by
  obtain ⟨K, hK⟩ : ∃ K : Nat, K = 1074 := ⟨_, rfl⟩
  obtain ⟨m, q, e1, g1⟩ := val_wd K (by omega) s a ha
  obtain ⟨m', q', e2, g2⟩ := val_wd K (by omega) t b hb
  unfold Format.sub
  rw [e1, e2]
  exact add_datum s (!t) a b h m q m' q' K hK g1 g2
/-- The number of a float. -/
def Wh (b : Nat) (v : Int) : Prop := ∃ s, b = wd s v.natAbs ∧ sg s v.natAbs = v
theorem sg_abs (s : Bool) (n : Nat) : (sg s n).natAbs = n := by
  unfold sg
  cases s
  · rw [if_neg (by decide)]; omega
  · rw [if_pos rfl]; omega
theorem wh_of (v : Int) : Wh (wd (decide (v < 0)) v.natAbs) v := by
  refine ⟨_, rfl, ?_⟩
  unfold sg
  by_cases h : v < 0
  · rw [decide_eq_true h, if_pos rfl]; omega
  · rw [decide_eq_false h, if_neg (by decide)]; omega
theorem wh_mul {x y : Nat} {a b : Int} (h1 : Wh x a) (h2 : Wh y b) (ha : a.natAbs < 2 ^ 53) (hb : b.natAbs < 2 ^ 53) (h : (a * b).natAbs < 2 ^ 53) : ∃ z, double.mul x y = some z ∧ Wh z (a * b) := by
  obtain ⟨s, rfl, e1⟩ := h1
  obtain ⟨t, rfl, e2⟩ := h2
  rw [Int.natAbs_mul] at h
  refine ⟨_, mul_wd s t _ _ ha hb h, s ^^ t, by rw [Int.natAbs_mul], ?_⟩
  generalize a.natAbs = m at *
  generalize b.natAbs = k at *
  subst e1
  subst e2
  rw [Int.natAbs_mul, sg_abs, sg_abs]
  unfold sg
  cases s <;> cases t <;> simp [Int.natCast_mul, Int.neg_mul, Int.mul_neg]
theorem wh_sum {s t : Bool} {v : Int} (_ : v.natAbs < 2 ^ 53) : Wh (wd (if v = 0 then s && t else decide (v < 0)) v.natAbs) v := by
  refine ⟨_, rfl, ?_⟩
  unfold sg
  by_cases h0 : v = 0
  · subst h0
    cases s <;> cases t <;> rfl
  · rw [if_neg h0]
    by_cases h : v < 0
    · rw [decide_eq_true h, if_pos rfl]; omega
    · rw [decide_eq_false h, if_neg (by decide)]; omega
theorem wh_add {x y : Nat} {a b : Int} (h1 : Wh x a) (h2 : Wh y b) (ha : a.natAbs < 2 ^ 53) (hb : b.natAbs < 2 ^ 53) (h : (a + b).natAbs < 2 ^ 53) : ∃ z, double.add x y = some z ∧ Wh z (a + b) := by
  obtain ⟨s, rfl, e1⟩ := h1
  obtain ⟨t, rfl, e2⟩ := h2
  have := add_wd s t _ _ ha hb (by rw [e1, e2]; exact h)
  rw [e1, e2] at this
  exact ⟨_, this, wh_sum h⟩
theorem sg_not (t : Bool) (n : Nat) : sg (!t) n = -sg t n := by
  unfold sg
  cases t <;> simp
theorem wh_sub {x y : Nat} {a b : Int} (h1 : Wh x a) (h2 : Wh y b) (ha : a.natAbs < 2 ^ 53) (hb : b.natAbs < 2 ^ 53) (h : (a - b).natAbs < 2 ^ 53) : ∃ z, double.sub x y = some z ∧ Wh z (a - b) := by
  obtain ⟨s, rfl, e1⟩ := h1
  obtain ⟨t, rfl, e2⟩ := h2
  have := sub_wd s t _ _ ha hb (by rw [sg_not, e1, e2]; exact h)
  rw [sg_not, e1, e2] at this
  exact ⟨_, this, wh_sum h⟩
theorem ord_mul {A B P X Y Q : Int} (hP : 0 < P) (hQ : 0 < Q) (h1 : A * P = X * Q) (h2 : B * P = Y * Q) : compare A B = compare X Y := by
  have c1 : (A < B) = (X < Y) := by
    apply propext
    rw [← Int.mul_lt_mul_right hP, h1, h2, Int.mul_lt_mul_right hQ]
  have c2 : (A = B) = (X = Y) := by
    apply propext
    rw [← Int.mul_eq_mul_right_iff (Int.ne_of_gt hP), h1, h2, Int.mul_eq_mul_right_iff (Int.ne_of_gt hQ)]
  show compareOfLessAndEq A B = compareOfLessAndEq X Y
  unfold compareOfLessAndEq
  simp only [c1, c2]
theorem order_wd (s t : Bool) (a b : Nat) (ha : a < 2 ^ 53) (hb : b < 2 ^ 53) : double.order (wd s a) (wd t b) = some (compare (sg s a) (sg t b)) := by
  obtain ⟨K, hK⟩ : ∃ K : Nat, K = 1074 := ⟨_, rfl⟩
  obtain ⟨m, q, e1, g1⟩ := val_wd K (by omega) s a ha
  obtain ⟨m', q', e2, g2⟩ := val_wd K (by omega) t b hb
  unfold Format.order
  rw [e1, e2]
  show some (compare _ _) = _
  simp only [min_place]
  rw [show ((q : Int) - K - (((min q q' : Nat) : Int) - K)).toNat = q - min q q' from by omega, show ((q' : Int) - K - (((min q q' : Nat) : Int) - K)).toNat = q' - min q q' from by omega]
  have p1 : (0 : Int) < ((2 ^ min q q' : Nat) : Int) := by have := Nat.two_pow_pos (min q q'); omega
  have p2 : (0 : Int) < ((2 ^ K : Nat) : Int) := by have := Nat.two_pow_pos K; omega
  refine congrArg some (ord_mul p1 p2 ?_ ?_)
  · rw [signed_sg, ← sg_mul, ← sg_mul, Nat.mul_assoc, ← Nat.pow_add, show q - min q q' + min q q' = q from by omega, g1]
  · rw [signed_sg, ← sg_mul, ← sg_mul, Nat.mul_assoc, ← Nat.pow_add, show q' - min q q' + min q q' = q' from by omega, g2]
theorem wh_order {x y : Nat} {a b : Int} (h1 : Wh x a) (h2 : Wh y b) (ha : a.natAbs < 2 ^ 53) (hb : b.natAbs < 2 ^ 53) : double.order x y = some (compare a b) := by
  obtain ⟨s, rfl, e1⟩ := h1
  obtain ⟨t, rfl, e2⟩ := h2
  rw [order_wd s t _ _ ha hb, e1, e2]
theorem zero_whole (s : Bool) (n b : Nat) (h : b ≤ (n * 2 ^ b).log2 + 2) : Toward.zero.cut s (n * 2 ^ b) b = n := by
  have hp := Nat.two_pow_pos b
  unfold Toward.cut
  simp only [Nat.min_eq_left h, Nat.one_shiftLeft, Nat.mul_div_cancel _ hp]
  rfl
theorem trunc_wd (s : Bool) (n : Nat) (hb : n < 2 ^ 53) : double.write ((double.read (wd s n)).integral .zero) = wd s n := by
  obtain ⟨K, hK⟩ : ∃ K : Nat, K = 1074 := ⟨_, rfl⟩
  obtain ⟨m, q, e1, g1⟩ := val_wd K (by omega) s n hb
  rw [e1]
  show double.nearest s (Toward.zero.cut s (m <<< ((q : Int) - K).toNat) (-((q : Int) - K)).toNat) 0 = _
  have : Toward.zero.cut s (m <<< ((q : Int) - K).toNat) (-((q : Int) - K)).toNat = n := by
    rw [Nat.shiftLeft_eq]
    by_cases hc : K ≤ q
    · have e2 : ((q : Int) - K).toNat = q - K := by omega
      have e3 : (-((q : Int) - K)).toNat = 0 := by omega
      rw [e2, e3]
      have e4 : m * 2 ^ (q - K) = n := by
        refine Nat.eq_of_mul_eq_mul_right (Nat.two_pow_pos K) ?_
        rw [Nat.mul_assoc, ← Nat.pow_add, show q - K + K = q from by omega, g1]
      rw [e4]
      have := zero_whole s n 0 (by omega)
      rwa [Nat.pow_zero, Nat.mul_one] at this
    · have e2 : ((q : Int) - K).toNat = 0 := by omega
      have e3 : (-((q : Int) - K)).toNat = K - q := by omega
      rw [e2, e3, Nat.pow_zero, Nat.mul_one]
      have e4 : m = n * 2 ^ (K - q) := by
        refine Nat.eq_of_mul_eq_mul_right (Nat.two_pow_pos q) ?_
        rw [Nat.mul_assoc, ← Nat.pow_add, show K - q + q = K from by omega, g1]
      rw [e4]
      by_cases hn : n = 0
      · subst hn
        rw [Nat.zero_mul]
        unfold Toward.cut
        simp only [Nat.zero_div]
        rfl
      · refine zero_whole s n _ ?_
        have h1 : 2 ^ (K - q) ≤ n * 2 ^ (K - q) := Nat.le_mul_of_pos_left _ (by omega)
        have h2 := Nat.lt_log2_self (n := n * 2 ^ (K - q))
        have := two_lt (Nat.lt_of_le_of_lt h1 h2)
        omega
  rw [this]
  rfl
theorem wh_trunc {x : Nat} {v : Int} (h : Wh x v) (hb : v.natAbs < 2 ^ 53) : double.write ((double.read x).integral .zero) = x ∧ ((double.read x).isNaN = false) := by
  obtain ⟨s, rfl, _⟩ := h
  obtain ⟨m, q, e1, _⟩ := val_wd 1074 (Nat.le_refl _) s v.natAbs hb
  exact ⟨trunc_wd s _ hb, by rw [e1]; rfl⟩
end Fl
end Go.Proofs.Ytbkljphhgghjdaa
