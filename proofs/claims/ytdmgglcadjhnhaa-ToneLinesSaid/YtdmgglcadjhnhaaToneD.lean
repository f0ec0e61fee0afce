/- What symbols say: the bytes of a line. -/
import Derived.Test.YtdmgglcadjhnhaaToneC

import Derived.Laws.IdiomStrings
namespace Go.Proofs.Ytdmgglcadjhnhaa
open Go.RowKit
namespace To
open Sm Ph
open PlainAid (bt get_bt bt_nonneg bt_le)
theorem quarter_any (n : Int) (w : World) : Calls Try.prog 18 #[.complex .f64 (sz n).1 (sz n).2] w fun e w' => e = .returned (.int .i64 (gr n)) ∧ w = w' := by
  have f1 : (FloatKind.f64.format.order P1 0 == some .gt) = true := by decide +kernel
  have f2 : (FloatKind.f64.format.order P1 0 == some .lt) = false := by decide +kernel
  have f3 : (FloatKind.f64.format.order M1 0 == some .gt) = false := by decide +kernel
  have f4 : (FloatKind.f64.format.order M1 0 == some .lt) = true := by decide +kernel
  unfold gr sz
  rcases cases4 n with h | h | h | h <;> rw [h] <;>
    (go_enter Try.func18, Try.ntmps18; go_wp2; go_ret; exact ⟨rfl, rfl⟩)
theorem gr_gr (n : Int) : gr (gr n) = n % 4 := by
  unfold gr
  rcases cases4 n with h | h | h | h <;> rw [h] <;> decide
theorem gr_bd (n : Int) : 0 ≤ gr n := by
  unfold gr
  rcases cases4 n with h | h | h | h <;> rw [h] <;> decide
attribute [local irreducible] gr sz
theorem says_any (n : Int) (w : World) : Calls Try.prog 13 #[.complex .f64 (sz n).1 (sz n).2] w fun e w' => e = .returned (.int .i64 (n % 4)) ∧ w = w' := by
  have hq := gr_bd n
  have H := Lib.hid (gr_gr n)
  have HG := Lib.hid (fun w => gray_any (gr n) w)
  rw [H.out] at HG
  have HQ := Lib.hid (quarter_any n w)
  generalize gr n = q at *
  go_enter Try.func13, Try.ntmps13
  go_wp2_with fail
  refine HQ.out.mono ?_
  rintro e w1 ⟨rfl, rfl⟩
  go_wp2_with fail
  refine (HG.out _).mono ?_
  rintro e w1 ⟨rfl, rfl⟩
  go_wp2_with fail
  go_ret
  exact ⟨rfl, rfl⟩
def byv (l : List UInt8) : List Value := l.map fun c => .int .u8 (c.toNat : Int)
theorem own_back {P : Program} (w : World) (base : Nat) (src dst e : TypeId) (a : Option Addr) (n c : Nat) (l : List UInt8) (hs : P.underlying src = some (.slice e)) (he : P.underlying e = some (.int .u8)) (hd : P.underlying dst = some .string)
    (h : w.ownsRow base e 1 (.slice a n c) n (byv l)) : (convert src dst (.slice a n c)).run P w = .ok (.string ⟨l.toArray⟩) w := by
  have hl : l.length = n := by have := h.1; simp [byv] at this; omega
  rcases h.2 with ⟨hv, hn⟩ | ⟨g, cap, cur, hv, _⟩
  · injection hv with h1 h2 h3
    subst h1 hn h3
    have : l = [] := List.eq_nil_of_length_eq_zero hl
    subst this
    rw [run_convert_bytes_string w src dst e none 0 0 hs he hd]
    rfl
  · injection hv with h1 h2 h3
    subst h1
    subst hl
    refine run_convert_bytes_back w src dst e ⟨g, 0, none⟩ c l hs he hd fun j hj => ?_
    exact h.cells (g := g) rfl j _ (by simp [byv, hj])
/-- What was said when k symbols are read: the bits of the byte that is under way. -/
def arg (s : ByteArray) (k : Nat) : Int := bt s (k / 4) / (if k % 4 = 0 then 64 else if k % 4 = 1 then 16 else if k % 4 = 2 then 4 else 1)
theorem arg_bd (s : ByteArray) (k : Nat) : 0 ≤ arg s k ∧ arg s k ≤ 255 := by
  unfold arg
  have h0 := bt_nonneg s (k / 4)
  have h1 := bt_le s (k / 4)
  split
  · omega
  · split
    · omega
    · split <;> omega
theorem div4 (q r : Nat) (h : r < 4) : (4 * q + r) / 4 = q ∧ (4 * q + r) % 4 = r := by omega
theorem arg_0 (s : ByteArray) (q : Nat) : arg s (4 * q) = bt s q / 64 := by
  have := div4 q 0 (by omega); unfold arg; rw [show 4 * q = 4 * q + 0 from rfl, this.1, this.2, if_pos rfl]
theorem arg_1 (s : ByteArray) (q : Nat) : arg s (4 * q + 1) = bt s q / 16 := by
  have := div4 q 1 (by omega); unfold arg; rw [this.1, this.2, if_neg (by decide), if_pos rfl]
theorem arg_2 (s : ByteArray) (q : Nat) : arg s (4 * q + 2) = bt s q / 4 := by
  have := div4 q 2 (by omega); unfold arg; rw [this.1, this.2, if_neg (by decide), if_neg (by decide), if_pos rfl]
theorem arg_3 (s : ByteArray) (q : Nat) : arg s (4 * q + 3) = bt s q := by
  have := div4 q 3 (by omega); unfold arg; rw [this.1, this.2, if_neg (by decide), if_neg (by decide), if_neg (by decide)]; omega
theorem arg_next (s : ByteArray) (k : Nat) (h : k % 4 ≠ 3) : arg s (k + 1) / 4 = arg s k := by
  obtain ⟨q, hq⟩ : ∃ q, k = 4 * q ∨ k = 4 * q + 1 ∨ k = 4 * q + 2 := ⟨k / 4, by omega⟩
  rcases hq with rfl | rfl | rfl
  · rw [arg_0, arg_1]; omega
  · rw [arg_1, arg_2]; omega
  · rw [arg_2, arg_3]
theorem arg_last (s : ByteArray) (k : Nat) (h : k % 4 = 3) : arg s (k + 1) / 4 = 0 ∧ arg s k = bt s (k / 4) := by
  obtain ⟨q, rfl⟩ : ∃ q, k = 4 * q + 3 := ⟨k / 4, by omega⟩
  have h0 := bt_nonneg s (q + 1)
  have h1 := bt_le s (q + 1)
  rw [arg_3, show 4 * q + 3 + 1 = 4 * (q + 1) from by omega, arg_0]
  exact ⟨by omega, by rw [(div4 q 3 (by omega)).1]⟩
theorem arg_start (s : ByteArray) : arg s 0 / 4 = 0 := by
  have h0 := bt_nonneg s 0
  have h1 := bt_le s 0
  have := arg_0 s 0
  rw [show 4 * 0 = 0 from rfl] at this
  rw [this]; omega
theorem or_arg (s : ByteArray) (k : Nat) : bits .or .i64 (arg s k / 4 * 4) (arg s k % 4) = arg s k := by
  obtain ⟨h0, h1⟩ := arg_bd s k
  obtain ⟨n, hn⟩ : ∃ n : Nat, arg s k = n := ⟨(arg s k).toNat, by omega⟩
  rw [hn] at h1 ⊢
  have e1 : (n : Int) / 4 * 4 = ((4 * (n / 4) : Nat) : Int) := by omega
  have e2 : (n : Int) % 4 = ((n % 4 : Nat) : Int) := by omega
  rw [e1, e2, Bw.or_nat _ _ (by omega) (by omega), show (4 : Nat) = 2 ^ 2 from rfl, ← Nat.two_pow_add_eq_or_of_lt (Nat.mod_lt _ (by decide))]
  congr 1
  omega
theorem sy_at (b : Int) : (syb b)[0]? = some (sx (b / 64)) ∧ (syb b)[1]? = some (sx (b / 16)) ∧ (syb b)[2]? = some (sx (b / 4)) ∧ (syb b)[3]? = some (sx b) := ⟨rfl, rfl, rfl, rfl⟩
theorem syms_at (l : List UInt8) : ∀ q r, q < l.length → r < 4 → (syms l)[4 * q + r]? = (sy (l.getD q 0))[r]? := by
  induction l with
  | nil => intro q r h; simp at h
  | cons c t ih =>
    intro q r hq hr
    have e : syms (c :: t) = sy c ++ syms t := by simp [syms]
    have hl : (sy c).length = 4 := rfl
    rw [e]
    cases q with
    | zero => rw [List.getElem?_append_left (by omega)]; simp
    | succ q =>
      rw [List.getElem?_append_right (by omega), hl, show 4 * (q + 1) + r - 4 = 4 * q + r from by omega, ih q r (by simpa using hq) hr]
      simp
theorem syms_arg (s : ByteArray) (k : Nat) (hk : k < 4 * s.size) : (syms s.data.toList)[k]? = some (sx (arg s k)) := by
  obtain ⟨q, r, hr, rfl⟩ : ∃ q r, r < 4 ∧ k = 4 * q + r := ⟨k / 4, k % 4, by omega, by omega⟩
  have hq : q < s.size := by omega
  have hb : ((s.data.toList.getD q 0).toNat : Int) = bt s q := by
    rw [bt_get s q hq, List.getD_eq_getElem?_getD, List.getElem?_eq_getElem (by simpa using hq)]
    rfl
  rw [syms_at _ q r (by simpa using hq) hr]
  unfold sy
  rw [hb]
  obtain ⟨e0, e1, e2, e3⟩ := sy_at (bt s q)
  have h4 : r = 0 ∨ r = 1 ∨ r = 2 ∨ r = 3 := by omega
  rcases h4 with rfl | rfl | rfl | rfl
  · rw [e0, show 4 * q + 0 = 4 * q from rfl, arg_0]
  · rw [e1, arg_1]
  · rw [e2, arg_2]
  · rw [e3, arg_3]
end To
end Go.Proofs.Ytdmgglcadjhnhaa
