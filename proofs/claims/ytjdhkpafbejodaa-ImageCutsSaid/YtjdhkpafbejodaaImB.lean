/- The tables of an image as bytes: what is parsed is printed as it was, and back; what is cut. Plain. -/
import Derived.Test.YtjdhkpafbejodaaImA
namespace Go.Proofs.Ytjdhkpafbejodaa
open Go.RowKit
namespace Im
open Bi (putL)
theorem win_bytes (t : List UInt8) (i : Nat) (h : i + 5 ≤ t.length) : encN (rowN wsh (winAt t i)) = (t.drop i).take 5 := by
  rw [drop_b t i (by omega), drop_b t (i + 1) (by omega), drop_b t (i + 1 + 1) (by omega), drop_b t (i + 1 + 1 + 1) (by omega), drop_b t (i + 1 + 1 + 1 + 1) (by omega)]
  simp only [rowN, wsh, winAt, List.zip_cons_cons, List.zip_nil_right, encN, List.flatMap_cons, List.flatMap_nil, byt1, byt2, List.cons_append, List.nil_append, List.take_succ_cons, List.take_zero]
theorem cli_bytes (t : List UInt8) (i : Nat) (h : i + 14 ≤ t.length) : encN (rowN csh (cliAt t i)) = (t.drop i).take 14 := by
  rw [drop_b t i (by omega), drop_b t (i + 1) (by omega), drop_b t (i + 1 + 1) (by omega), drop_b t (i + 1 + 1 + 1) (by omega), drop_b t (i + 1 + 1 + 1 + 1) (by omega), drop_b t (i + 1 + 1 + 1 + 1 + 1) (by omega), drop_b t (i + 1 + 1 + 1 + 1 + 1 + 1) (by omega), drop_b t (i + 1 + 1 + 1 + 1 + 1 + 1 + 1) (by omega), drop_b t (i + 1 + 1 + 1 + 1 + 1 + 1 + 1 + 1) (by omega), drop_b t (i + 1 + 1 + 1 + 1 + 1 + 1 + 1 + 1 + 1) (by omega), drop_b t (i + 1 + 1 + 1 + 1 + 1 + 1 + 1 + 1 + 1 + 1) (by omega), drop_b t (i + 1 + 1 + 1 + 1 + 1 + 1 + 1 + 1 + 1 + 1 + 1) (by omega), drop_b t (i + 1 + 1 + 1 + 1 + 1 + 1 + 1 + 1 + 1 + 1 + 1 + 1) (by omega), drop_b t (i + 1 + 1 + 1 + 1 + 1 + 1 + 1 + 1 + 1 + 1 + 1 + 1 + 1) (by omega)]
  simp only [rowN, csh, cliAt, List.zip_cons_cons, List.zip_nil_right, encN, List.flatMap_cons, List.flatMap_nil, byt1, byt2, List.cons_append, List.nil_append, List.take_succ_cons, List.take_zero]
theorem rows_bytes (t : List UInt8) (sh : List Nat) (f : Nat → List Int) (w a : Nat) (h : ∀ i, i + w ≤ t.length → encN (rowN sh (f i)) = (t.drop i).take w) : ∀ n, a + n * w ≤ t.length → encN (rowsN sh (rowsAt f w a n)) = (t.drop a).take (n * w)
  | 0, _ => by simp [rowsAt, rowsN, encN]
  | n + 1, hn => by
    have e : (n + 1) * w = n * w + w := Nat.succ_mul n w
    rw [rowsAt_succ, rowsN_app, encN_app, rows_bytes t sh f w a h n (by omega), show rowsN sh [f (a + n * w)] = rowN sh (f (a + n * w)) by simp [rowsN], h _ (by omega), e, List.take_add, List.drop_drop]
theorem take_more (t : List UInt8) (a m k b : Nat) (h : b = a + m) : (t.drop a).take m ++ (t.drop b).take k = (t.drop a).take (m + k) := by
  subst h
  rw [List.take_add, List.drop_drop]
theorem one_b (t : List UInt8) (i : Nat) (h : i < t.length) : [t.getD i 0] = (t.drop i).take 1 := by
  rw [drop_b t i h]; rfl
theorem n_byte (x : UInt8) : bytesN ((x.toNat : Int), 1) = [x] := by
  unfold bytesN putL
  have := x.toNat_lt
  simp only [List.take, List.cons.injEq, and_true]
  rw [show ((x.toNat : Int) % 256).toNat = x.toNat by omega]
  simp
/-- What is parsed is printed as it was. -/
theorem enc_cfg (t : List UInt8) (h : perr t = 0) : encN (nums (cfgAt t)) = t := by
  have hh : ¬ (2 ≤ t.length ∧ t.take 2 ≠ [67, 1]) ∧ i3 t = t.length := by
    unfold perr at h
    split at h
    · omega
    · split at h
      · omega
      · split at h
        · omega
        · exact ⟨‹_›, by omega⟩
  obtain ⟨h1, h3⟩ := hh
  have e3 : i3 t = i2 t + 1 + n3 t * 14 := rfl
  have e2 : i2 t = i1 t + 1 + n2 t * 5 := rfl
  have e1 : i1 t = 5 + n1 t * 5 := rfl
  have hd : t.take 2 = [67, 1] := by
    by_cases he : t.take 2 = [67, 1]
    · exact he
    · exact absurd ⟨by omega, he⟩ h1
  unfold nums cfgAt
  simp only [rowsAt_len, encN_app, encN_cons]
  rw [show encN ([] : List Nm) = [] from rfl]
  simp only [List.append_nil]
  rw [rows_bytes t wsh (winAt t) 5 5 (win_bytes t) (n1 t) (by omega), rows_bytes t wsh (winAt t) 5 (i1 t + 1) (win_bytes t) (n2 t) (by omega), rows_bytes t csh (cliAt t) 14 (i2 t + 1) (cli_bytes t) (n3 t) (by omega)]
  rw [show (bytesN (67, 1)) = [67] by decide, show (bytesN (1, 1)) = [1] by decide, byt2]
  rw [show ((n1 t : Nat) : Int) = ((t.getD 4 0).toNat : Int) from rfl, n_byte, show ((n2 t : Nat) : Int) = ((t.getD (i1 t) 0).toNat : Int) from rfl, n_byte, show ((n3 t : Nat) : Int) = ((t.getD (i2 t) 0).toNat : Int) from rfl, n_byte]
  have hfr : [t.getD 2 0, t.getD (2 + 1) 0] = (t.drop 2).take 2 := by
    rw [drop_b t 2 (by omega), drop_b t (2 + 1) (by omega)]; rfl
  rw [hfr, one_b t 4 (by omega), one_b t (i1 t) (by omega), one_b t (i2 t) (by omega)]
  have h0 : ([67] : List UInt8) ++ [1] = (t.drop 0).take 2 := by rw [List.drop_zero, hd]; rfl
  simp only [← List.append_assoc]
  rw [h0, take_more t 0 2 2 2 (by omega), take_more t 0 (2 + 2) 1 4 (by omega), take_more t 0 (2 + 2 + 1) (n1 t * 5) 5 (by omega), take_more t 0 (2 + 2 + 1 + n1 t * 5) 1 (i1 t) (by omega), take_more t 0 (2 + 2 + 1 + n1 t * 5 + 1) (n2 t * 5) (i1 t + 1) (by omega), take_more t 0 (2 + 2 + 1 + n1 t * 5 + 1 + n2 t * 5) 1 (i2 t) (by omega), take_more t 0 (2 + 2 + 1 + n1 t * 5 + 1 + n2 t * 5 + 1) (n3 t * 14) (i2 t + 1) (by omega)]
  rw [List.drop_zero, List.take_of_length_le (by omega)]
/-! Back. -/
theorem b1_drop (t : List UInt8) (a j : Nat) : b1 t (a + j) = b1 (t.drop a) j := by
  unfold b1; simp [List.getD_eq_getElem?_getD, List.getElem?_drop]
theorem b2_drop (t : List UInt8) (a j : Nat) : b2 t (a + j) = b2 (t.drop a) j := by
  unfold b2; rw [Nat.add_assoc, b1_drop, b1_drop]
theorem win_drop (t : List UInt8) (a : Nat) : winAt t a = winAt (t.drop a) 0 := by
  have := b1_drop t a 0
  rw [Nat.add_zero] at this
  simp only [winAt, this, b2_drop t a, Nat.zero_add]
theorem cli_drop (t : List UInt8) (a : Nat) : cliAt t a = cliAt (t.drop a) 0 := by
  have := b2_drop t a 0
  rw [Nat.add_zero] at this
  simp only [cliAt, this, b2_drop t a, b1_drop t a, Nat.zero_add]
theorem lo_val {x : Int} (h : okN (x, 1) = true) : ((UInt8.ofNat (x % 256).toNat).toNat : Int) = x := by
  simp [okN] at h
  simp
  omega
theorem two_val {x : Int} (h : okN (x, 2) = true) : ((UInt8.ofNat (x % 256).toNat).toNat : Int) + 256 * ((UInt8.ofNat (x / 256 % 256).toNat).toNat : Int) = x := by
  simp [okN] at h
  simp
  omega
theorem win_dec {r : List Int} (hr : r.length = 3) (ho : (rowN wsh r).all okN = true) (rest : List UInt8) : winAt (encN (rowN wsh r) ++ rest) 0 = r ∧ (encN (rowN wsh r)).length = 5 := by
  obtain ⟨x, y, z, rfl⟩ : ∃ x y z, r = [x, y, z] := by
    rcases r with _ | ⟨x, _ | ⟨y, _ | ⟨z, _ | ⟨u, r⟩⟩⟩⟩ <;> simp at hr
    exact ⟨x, y, z, rfl⟩
  simp only [rowN, wsh, List.zip_cons_cons, List.zip_nil_right, List.all_cons, List.all_nil, Bool.and_eq_true, and_true] at ho
  obtain ⟨h1, h2, h3⟩ := ho
  refine ⟨?_, rfl⟩
  show [((UInt8.ofNat (x % 256).toNat).toNat : Int), ((UInt8.ofNat (y % 256).toNat).toNat : Int) + 256 * ((UInt8.ofNat (y / 256 % 256).toNat).toNat : Int), ((UInt8.ofNat (z % 256).toNat).toNat : Int) + 256 * ((UInt8.ofNat (z / 256 % 256).toNat).toNat : Int)] = [x, y, z]
  rw [lo_val h1, two_val h2, two_val h3]
theorem cli_dec {r : List Int} (hr : r.length = 10) (ho : (rowN csh r).all okN = true) (rest : List UInt8) : cliAt (encN (rowN csh r) ++ rest) 0 = r ∧ (encN (rowN csh r)).length = 14 := by
  obtain ⟨x0, x1, x2, x3, x4, x5, x6, x7, x8, x9, rfl⟩ : ∃ x0 x1 x2 x3 x4 x5 x6 x7 x8 x9, r = [x0, x1, x2, x3, x4, x5, x6, x7, x8, x9] := by
    rcases r with _ | ⟨x0, _ | ⟨x1, _ | ⟨x2, _ | ⟨x3, _ | ⟨x4, _ | ⟨x5, _ | ⟨x6, _ | ⟨x7, _ | ⟨x8, _ | ⟨x9, _ | ⟨u, r⟩⟩⟩⟩⟩⟩⟩⟩⟩⟩⟩ <;> simp at hr
    exact ⟨x0, x1, x2, x3, x4, x5, x6, x7, x8, x9, rfl⟩
  simp only [rowN, csh, List.zip_cons_cons, List.zip_nil_right, List.all_cons, List.all_nil, Bool.and_eq_true, and_true] at ho
  obtain ⟨h0, h1, h2, h3, h4, h5, h6, h7, h8, h9⟩ := ho
  refine ⟨?_, rfl⟩
  show [((UInt8.ofNat (x0 % 256).toNat).toNat : Int) + 256 * ((UInt8.ofNat (x0 / 256 % 256).toNat).toNat : Int), ((UInt8.ofNat (x1 % 256).toNat).toNat : Int) + 256 * ((UInt8.ofNat (x1 / 256 % 256).toNat).toNat : Int), ((UInt8.ofNat (x2 % 256).toNat).toNat : Int), ((UInt8.ofNat (x3 % 256).toNat).toNat : Int) + 256 * ((UInt8.ofNat (x3 / 256 % 256).toNat).toNat : Int), ((UInt8.ofNat (x4 % 256).toNat).toNat : Int), ((UInt8.ofNat (x5 % 256).toNat).toNat : Int), ((UInt8.ofNat (x6 % 256).toNat).toNat : Int), ((UInt8.ofNat (x7 % 256).toNat).toNat : Int), ((UInt8.ofNat (x8 % 256).toNat).toNat : Int) + 256 * ((UInt8.ofNat (x8 / 256 % 256).toNat).toNat : Int), ((UInt8.ofNat (x9 % 256).toNat).toNat : Int)] = [x0, x1, x2, x3, x4, x5, x6, x7, x8, x9]
  rw [two_val h0, two_val h1, lo_val h2, two_val h3, lo_val h4, lo_val h5, lo_val h6, lo_val h7, two_val h8, lo_val h9]
theorem rowsAt_cons (f : Nat → List Int) (w a n : Nat) : rowsAt f w a (n + 1) = f a :: rowsAt f w (a + w) n := by
  simp only [rowsAt, List.range_succ_eq_map, List.map_cons, List.map_map, Nat.zero_mul, Nat.add_zero, List.cons.injEq, true_and]
  refine List.map_congr_left fun i _ => ?_
  show f (a + (i + 1) * w) = f (a + w + i * w)
  rw [Nat.succ_mul]
  congr 1
  omega
theorem rows_dec {t : List UInt8} {sh : List Nat} {f : List UInt8 → Nat → List Int} {w q : Nat} (hf : ∀ a, f t a = f (t.drop a) 0) (hd : ∀ r, r.length = q → (rowN sh r).all okN = true → ∀ rest, f (encN (rowN sh r) ++ rest) 0 = r ∧ (encN (rowN sh r)).length = w) :
    ∀ (l : List (List Int)) (a : Nat) (rest : List UInt8), (∀ r ∈ l, r.length = q) → (rowsN sh l).all okN = true → t.drop a = encN (rowsN sh l) ++ rest → rowsAt (f t) w a l.length = l ∧ t.drop (a + l.length * w) = rest ∧ (encN (rowsN sh l)).length = l.length * w
  | [], a, rest, _, _, h => ⟨rfl, by simpa [rowsN, encN] using h, by simp [rowsN, encN]⟩
  | r :: l, a, rest, hl, ho, h => by
    rw [rowsN_cons, List.all_append, Bool.and_eq_true] at ho
    rw [rowsN_cons, encN_app, List.append_assoc] at h
    obtain ⟨d1, d2⟩ := hd r (hl r (by simp)) ho.1 (encN (rowsN sh l) ++ rest)
    have h2 : t.drop (a + w) = encN (rowsN sh l) ++ rest := by
      rw [← List.drop_drop, h, ← d2, List.drop_left]
    obtain ⟨i1, i2, i3⟩ := rows_dec hf hd l (a + w) rest (fun x hx => hl x (by simp [hx])) ho.2 h2
    rw [List.length_cons, rowsAt_cons, hf a, h, d1, i1, rowsN_cons, encN_app, List.length_append, d2, i3, Nat.succ_mul]
    refine ⟨rfl, ?_, by omega⟩
    rw [← i2]
    congr 1
    omega
theorem drop_cons_get {t : List UInt8} {a : Nat} {x : UInt8} {rest : List UInt8} (h : t.drop a = x :: rest) : t.getD a 0 = x ∧ t.drop (a + 1) = rest := by
  have hl : a < t.length := by
    rcases Nat.lt_or_ge a t.length with h1 | h1
    · exact h1
    · rw [List.drop_eq_nil_of_le h1] at h; cases h
  rw [drop_b t a hl] at h
  injection h with h1 h2
  exact ⟨h1, h2⟩
theorem n_val {n : Nat} (h : okN ((n : Int), 1) = true) : (UInt8.ofNat ((n : Int) % 256).toNat).toNat = n := by
  have := lo_val h
  omega
/-- Tables whose numbers are good, printed, with more behind. -/
structure Enc (c : Cfg) (u : List UInt8) (m : List UInt8) : Prop where
  n1 : n1 u = c.ws.length
  n2 : n2 u = c.ss.length
  n3 : n3 u = c.cs.length
  hd : u.take 2 = [67, 1]
  i3 : i3 u + m.length = u.length
  cf : cfgAt u = c
theorem enc_dec {c : Cfg} (hw : Wf c) (ho : (nums c).all okN = true) (m : List UInt8) : Enc c (encN (nums c) ++ m) m := by
  have hu : ∃ u, encN (nums c) ++ m = u := ⟨_, rfl⟩
  obtain ⟨u, hu⟩ := hu
  rw [hu]
  unfold nums at ho hu
  simp only [List.all_append, List.all_cons, List.all_nil, Bool.and_eq_true, and_true] at ho
  obtain ⟨⟨⟨⟨⟨⟨_, _, hfr, hn1⟩, hws⟩, hn2⟩, hss⟩, hn3⟩, hcs⟩ := ho
  simp only [encN_app, encN_cons, List.append_assoc] at hu
  rw [show encN ([] : List Nm) = [] from rfl, show (bytesN (67, 1)) = [67] by decide, show (bytesN (1, 1)) = [1] by decide] at hu
  simp only [List.nil_append] at hu
  have g0 : u.drop 5 = encN (rowsN wsh c.ws) ++ (bytesN ((c.ss.length : Int), 1) ++ (encN (rowsN wsh c.ss) ++ (bytesN ((c.cs.length : Int), 1) ++ (encN (rowsN csh c.cs) ++ m)))) := by
    rw [← hu]; rfl
  have gn1 : u.getD 4 0 = UInt8.ofNat ((c.ws.length : Int) % 256).toNat := by rw [← hu]; rfl
  have gfr : b2 u 2 = c.fr := by
    rw [← hu]
    exact two_val hfr
  have ghd : u.take 2 = [67, 1] := by rw [← hu]; rfl
  have glen : u.length = 5 + (encN (rowsN wsh c.ws)).length + 1 + (encN (rowsN wsh c.ss)).length + 1 + (encN (rowsN csh c.cs)).length + m.length := by
    rw [← hu]
    simp only [List.length_append, List.length_cons, List.length_nil]
    have f1 : (bytesN (c.fr, 2)).length = 2 := rfl
    have f2 : ∀ x, (bytesN (x, 1)).length = 1 := fun _ => rfl
    rw [f1, f2, f2, f2]
    omega
  clear hu
  obtain ⟨w1, w2, w3⟩ := rows_dec (f := winAt) (w := 5) (q := 3) (win_drop u) (fun r hr ho rest => win_dec hr ho rest) c.ws 5 _ hw.ws hws g0
  obtain ⟨s0, s0'⟩ := drop_cons_get w2
  obtain ⟨s1, s2, s3⟩ := rows_dec (f := winAt) (w := 5) (q := 3) (win_drop u) (fun r hr ho rest => win_dec hr ho rest) c.ss _ _ hw.ss hss s0'
  obtain ⟨c0, c0'⟩ := drop_cons_get s2
  obtain ⟨c1, c2, c3⟩ := rows_dec (f := cliAt) (w := 14) (q := 10) (cli_drop u) (fun r hr ho rest => cli_dec hr ho rest) c.cs _ _ hw.cs hcs c0'
  have en1 : n1 u = c.ws.length := by unfold n1; rw [gn1]; exact n_val hn1
  have ei1 : i1 u = 5 + c.ws.length * 5 := by unfold i1; rw [en1]
  have en2 : n2 u = c.ss.length := by unfold n2; rw [ei1, s0]; exact n_val hn2
  have ei2 : i2 u = 5 + c.ws.length * 5 + 1 + c.ss.length * 5 := by unfold i2; rw [ei1, en2]
  have en3 : n3 u = c.cs.length := by unfold n3; rw [ei2, c0]; exact n_val hn3
  have ei3 : i3 u = 5 + c.ws.length * 5 + 1 + c.ss.length * 5 + 1 + c.cs.length * 14 := by unfold i3; rw [ei2, en3]
  refine ⟨en1, en2, en3, ghd, by omega, ?_⟩
  unfold cfgAt
  rw [gfr, en1, en2, en3, ei1, ei2, w1, s1, c1]
theorem enc_len {c : Cfg} (hw : Wf c) (ho : (nums c).all okN = true) : (encN (nums c)).length = 7 + 5 * (c.ws.length + c.ss.length) + 14 * c.cs.length := by
  have h := enc_dec hw ho []
  rw [List.append_nil] at h
  have h1 := h.i3
  have e1 := h.n1
  have e2 := h.n2
  have e3 := h.n3
  simp only [i3, i2, i1, e1, e2, e3, List.length_nil] at h1
  omega
/-- Printed, with more behind. -/
theorem perr_more {c : Cfg} (hw : Wf c) (ho : (nums c).all okN = true) (m : List UInt8) : perr (encN (nums c) ++ m) = (if m = [] then 0 else 3) ∧ cfgAt (encN (nums c) ++ m) = c := by
  have h := enc_dec hw ho m
  refine ⟨?_, h.cf⟩
  have h1 := h.i3
  unfold perr
  rw [if_neg (fun h9 => h9.2 h.hd), if_neg (by omega)]
  by_cases hm : m = []
  · rw [if_pos hm, if_neg (by subst hm; simp only [List.length_nil] at h1; omega)]
  · rw [if_neg hm, if_pos (by have := List.length_pos_iff.2 hm; omega)]
theorem getD_take (t : List UInt8) (k i : Nat) (h : i < k) : (t.take k).getD i 0 = t.getD i 0 := by
  simp [List.getD_eq_getElem?_getD, h]
/-- Printed, and cut off. -/
theorem perr_cut {c : Cfg} (hw : Wf c) (ho : (nums c).all okN = true) (k : Nat) (hk : k < (encN (nums c)).length) : perr ((encN (nums c)).take k) = 5 := by
  have h := enc_dec hw ho []
  rw [List.append_nil] at h
  have h3 := h.i3
  have hh := h.hd
  generalize encN (nums c) = t at *
  simp only [List.length_nil, Nat.add_zero] at h3
  have hl : (t.take k).length = k := by rw [List.length_take]; omega
  unfold perr
  rw [if_neg (fun h9 => h9.2 (by rw [List.take_take, Nat.min_eq_left (by omega)]; exact hh)), hl]
  have q1 : i1 (t.take k) = 5 + n1 (t.take k) * 5 := rfl
  have q2 : i2 (t.take k) = i1 (t.take k) + 1 + n2 (t.take k) * 5 := rfl
  have q3 : i3 (t.take k) = i2 (t.take k) + 1 + n3 (t.take k) * 14 := rfl
  rw [if_pos]
  by_cases h5 : k ≤ 4
  · omega
  · have e1 : i1 (t.take k) = i1 t := by unfold i1 n1; rw [getD_take t k 4 (by omega)]
    by_cases h6 : k ≤ i1 t
    · omega
    · have e2 : i2 (t.take k) = i2 t := by unfold i2 n2; rw [e1, getD_take t k _ (by omega)]
      by_cases h7 : k ≤ i2 t
      · omega
      · have e3 : i3 (t.take k) = i3 t := by unfold i3 n3; rw [e2, getD_take t k _ (by omega)]
        omega
/-! The numbers, piece by piece. -/
def A1 (c : Cfg) : List Nm := [(67, 1), (1, 1), (c.fr, 2), ((c.ws.length : Int), 1)]
def L1 (c : Cfg) (k : Nat) : List Nm := A1 c ++ rowsN wsh (c.ws.take k)
def L2 (c : Cfg) (k : Nat) : List Nm := A1 c ++ rowsN wsh c.ws ++ [((c.ss.length : Int), 1)] ++ rowsN wsh (c.ss.take k)
def L3 (c : Cfg) (k : Nat) : List Nm := A1 c ++ rowsN wsh c.ws ++ [((c.ss.length : Int), 1)] ++ rowsN wsh c.ss ++ [((c.cs.length : Int), 1)] ++ rowsN csh (c.cs.take k)
theorem rowsN_nil (sh : List Nat) : rowsN sh [] = [] := rfl
theorem take_row {rows : List (List Int)} {k : Nat} {r : List Int} (sh : List Nat) (h : rows[k]? = some r) : rowsN sh (rows.take (k + 1)) = rowsN sh (rows.take k) ++ rowN sh r := by
  have hk := (List.getElem?_eq_some_iff.1 h).1
  have hx : rows[k] = r := by rw [List.getElem?_eq_getElem hk] at h; injection h
  rw [List.take_succ_eq_append_getElem hk, hx, rowsN_app]
  simp [rowsN]
theorem L1_0 (c : Cfg) : L1 c 0 = A1 c := by simp [L1, rowsN_nil]
theorem L1_s (c : Cfg) {k : Nat} {r : List Int} (h : c.ws[k]? = some r) : L1 c (k + 1) = L1 c k ++ rowN wsh r := by unfold L1; rw [take_row wsh h, List.append_assoc]
theorem L1_n (c : Cfg) : L1 c c.ws.length ++ [((c.ss.length : Int), 1)] = L2 c 0 := by simp [L1, L2, rowsN_nil]
theorem L2_s (c : Cfg) {k : Nat} {r : List Int} (h : c.ss[k]? = some r) : L2 c (k + 1) = L2 c k ++ rowN wsh r := by unfold L2; rw [take_row wsh h]; simp only [List.append_assoc]
theorem L2_n (c : Cfg) : L2 c c.ss.length ++ [((c.cs.length : Int), 1)] = L3 c 0 := by simp [L2, L3, rowsN_nil]
theorem L3_s (c : Cfg) {k : Nat} {r : List Int} (h : c.cs[k]? = some r) : L3 c (k + 1) = L3 c k ++ rowN csh r := by unfold L3; rw [take_row csh h]; simp only [List.append_assoc]
theorem L3_n (c : Cfg) : L3 c c.cs.length = nums c := by simp [L3, nums, A1]
theorem take_pre (sh : List Nat) (rows : List (List Int)) (k : Nat) : (rowsN sh (rows.take k)).length ≤ (rowsN sh rows).length := by
  have : rowsN sh rows = rowsN sh (rows.take k) ++ rowsN sh (rows.drop k) := by rw [← rowsN_app, List.take_append_drop]
  rw [this, List.length_append]
  omega
theorem L_len (c : Cfg) (k : Nat) : (L1 c k).length + 1 ≤ (nums c).length ∧ (L2 c k).length + 1 ≤ (nums c).length ∧ (L3 c k).length ≤ (nums c).length := by
  have h1 := take_pre wsh c.ws k
  have h2 := take_pre wsh c.ss k
  have h3 := take_pre csh c.cs k
  unfold L1 L2 L3 nums A1
  simp only [List.length_append, List.length_cons, List.length_nil]
  omega
end Im
end Go.Proofs.Ytjdhkpafbejodaa
