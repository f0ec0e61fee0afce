/- The tables of an image as numbers, and as bytes: plain. -/
import Derived.Test.YtjdhkpafbejodaaBitsB
namespace Go.Proofs.Ytjdhkpafbejodaa
open Go.RowKit
namespace Im
open Bi (putL)
open PlainAid (bt)
structure Cfg where
  fr : Int
  ws : List (List Int)
  ss : List (List Int)
  cs : List (List Int)
abbrev Nm := Int × Nat
def wsh : List Nat := [1, 2, 2]
def csh : List Nat := [2, 2, 1, 2, 1, 1, 1, 1, 2, 1]
def rowN (sh : List Nat) (r : List Int) : List Nm := r.zip sh
def rowsN (sh : List Nat) (l : List (List Int)) : List Nm := l.flatMap (rowN sh)
def nums (c : Cfg) : List Nm := [(67, 1), (1, 1), (c.fr, 2), ((c.ws.length : Int), 1)] ++ rowsN wsh c.ws ++ [((c.ss.length : Int), 1)] ++ rowsN wsh c.ss ++ [((c.cs.length : Int), 1)] ++ rowsN csh c.cs
def okN (x : Nm) : Bool := decide (0 ≤ x.1 ∧ x.1 ≤ if x.2 = 1 then 255 else 65535)
def bytesN (x : Nm) : List UInt8 := (putL x.1).take x.2
def encN (l : List Nm) : List UInt8 := l.flatMap bytesN
structure Wf (c : Cfg) : Prop where
  ws : ∀ r ∈ c.ws, r.length = 3
  ss : ∀ r ∈ c.ss, r.length = 3
  cs : ∀ r ∈ c.cs, r.length = 10
theorem encN_app (a b : List Nm) : encN (a ++ b) = encN a ++ encN b := by simp [encN]
theorem encN_cons (x : Nm) (l : List Nm) : encN (x :: l) = bytesN x ++ encN l := by simp [encN]
theorem rowsN_cons (sh : List Nat) (r : List Int) (l : List (List Int)) : rowsN sh (r :: l) = rowN sh r ++ rowsN sh l := by simp [rowsN]
theorem rowsN_app (sh : List Nat) (a b : List (List Int)) : rowsN sh (a ++ b) = rowsN sh a ++ rowsN sh b := by simp [rowsN]
/-- What a writer is behind a number. -/
def wst (st : Int × List UInt8) (x : Nm) : Int × List UInt8 := if st.1 = 0 then (if okN x = true then (0, st.2 ++ bytesN x) else (2, st.2)) else st
def run (st : Int × List UInt8) (l : List Nm) : Int × List UInt8 := l.foldl wst st
theorem run_app (st : Int × List UInt8) (a b : List Nm) : run st (a ++ b) = run (run st a) b := by simp [run, List.foldl_append]
theorem run_cons (st : Int × List UInt8) (x : Nm) (b : List Nm) : run st (x :: b) = run (wst st x) b := rfl
theorem run_nil (st : Int × List UInt8) : run st [] = st := rfl
theorem run_err (st : Int × List UInt8) (h : st.1 ≠ 0) (l : List Nm) : run st l = st := by
  induction l with
  | nil => rfl
  | cons x t ih => rw [run_cons]; unfold wst; rw [if_neg h]; exact ih
theorem run_ok (l : List Nm) : ∀ (b : List UInt8), l.all okN = true → run (0, b) l = (0, b ++ encN l) := by
  induction l with
  | nil => intro b _; simp [run_nil, encN]
  | cons x t ih =>
    intro b h
    simp only [List.all_cons, Bool.and_eq_true] at h
    rw [run_cons]
    unfold wst
    rw [if_pos rfl, if_pos h.1, ih _ h.2, encN_cons, List.append_assoc]
theorem run_bad (l : List Nm) : ∀ (b : List UInt8), l.all okN = false → (run (0, b) l).1 = 2 := by
  induction l with
  | nil => intro b h; simp at h
  | cons x t ih =>
    intro b h
    rw [run_cons]
    unfold wst
    rw [if_pos rfl]
    by_cases hx : okN x = true
    · rw [if_pos hx]
      exact ih _ (by simp only [List.all_cons, hx, Bool.true_and] at h; exact h)
    · rw [if_neg hx, run_err _ (by show (2 : Int) ≠ 0; decide)]
theorem run_err01 (l : List Nm) (b : List UInt8) : (run (0, b) l).1 = if l.all okN = true then 0 else 2 := by
  by_cases h : l.all okN = true
  · rw [if_pos h, run_ok l b h]
  · rw [if_neg h, run_bad l b (by simpa using h)]
theorem bytesN_len (x : Nm) : (bytesN x).length ≤ 2 := by simp [bytesN, putL]; omega
theorem wst_len (st : Int × List UInt8) (x : Nm) : (wst st x).2.length ≤ st.2.length + 2 := by
  have := bytesN_len x
  unfold wst
  split
  · split
    · simp; omega
    · simp
  · omega
theorem run_len (l : List Nm) : ∀ (st : Int × List UInt8), (run st l).2.length ≤ st.2.length + 2 * l.length := by
  induction l with
  | nil => intro st; simp [run_nil]
  | cons x t ih => intro st; rw [run_cons]; have := ih (wst st x); have := wst_len st x; simp; omega
theorem rowN_len {sh : List Nat} {r : List Int} (h : r.length = sh.length) : (rowN sh r).length = sh.length := by simp [rowN, h]
theorem rowsN_len {sh : List Nat} : ∀ {l : List (List Int)}, (∀ r ∈ l, r.length = sh.length) → (rowsN sh l).length = l.length * sh.length
  | [], _ => by simp [rowsN]
  | r :: t, h => by
    rw [rowsN_cons, List.length_append, rowN_len (h r (by simp)), rowsN_len (fun x hx => h x (by simp [hx])), List.length_cons, Nat.add_mul]
    omega
/-! Same. -/
theorem zip_inj : ∀ (a b : List Int) (sh : List Nat), a.length = sh.length → b.length = sh.length → a.zip sh = b.zip sh → a = b
  | [], [], _, _, _, _ => rfl
  | [], _ :: _, sh, h1, h2, _ => by simp at h1 h2; omega
  | _ :: _, [], sh, h1, h2, _ => by simp at h1 h2; omega
  | x :: a, y :: b, [], h1, _, _ => by simp at h1
  | x :: a, y :: b, z :: sh, h1, h2, h => by
    simp only [List.zip_cons_cons, List.cons.injEq, Prod.mk.injEq, and_true] at h
    rw [h.1, zip_inj a b sh (by simpa using h1) (by simpa using h2) h.2]
theorem rowsN_inj {sh : List Nat} : ∀ {a b : List (List Int)}, (∀ r ∈ a, r.length = sh.length) → (∀ r ∈ b, r.length = sh.length) → a.length = b.length → rowsN sh a = rowsN sh b → a = b
  | [], [], _, _, _, _ => rfl
  | [], _ :: _, _, _, h, _ => by simp at h
  | _ :: _, [], _, _, h, _ => by simp at h
  | x :: a, y :: b, h1, h2, hl, h => by
    rw [rowsN_cons, rowsN_cons] at h
    have hx := h1 x (by simp)
    have hy := h2 y (by simp)
    have h3 := List.append_inj h (by rw [rowN_len hx, rowN_len hy])
    rw [zip_inj x y sh hx hy h3.1, rowsN_inj (fun r hr => h1 r (by simp [hr])) (fun r hr => h2 r (by simp [hr])) (by simpa using hl) h3.2]
theorem nums_len {c : Cfg} (h : Wf c) : (nums c).length = 6 + c.ws.length * 3 + c.ss.length * 3 + c.cs.length * 10 := by
  unfold nums
  simp only [List.length_append, List.length_cons, List.length_nil]
  rw [rowsN_len (sh := wsh) h.ws, rowsN_len (sh := wsh) h.ss, rowsN_len (sh := csh) h.cs]
  simp only [wsh, csh, List.length_cons, List.length_nil]
  omega
theorem nums_inj {a b : Cfg} (ha : Wf a) (hb : Wf b) (h1 : a.ws.length = b.ws.length) (h2 : a.ss.length = b.ss.length) (h : nums a = nums b) : a = b := by
  have hl := congrArg List.length h
  rw [nums_len ha, nums_len hb] at hl
  have h3 : a.cs.length = b.cs.length := by omega
  unfold nums at h
  obtain ⟨h, e6⟩ := List.append_inj h (by simp [rowsN_len (sh := wsh) ha.ws, rowsN_len (sh := wsh) hb.ws, rowsN_len (sh := wsh) ha.ss, rowsN_len (sh := wsh) hb.ss, h1, h2])
  obtain ⟨h, _⟩ := List.append_inj h (by simp [rowsN_len (sh := wsh) ha.ws, rowsN_len (sh := wsh) hb.ws, rowsN_len (sh := wsh) ha.ss, rowsN_len (sh := wsh) hb.ss, h1, h2])
  obtain ⟨h, e4⟩ := List.append_inj h (by simp [rowsN_len (sh := wsh) ha.ws, rowsN_len (sh := wsh) hb.ws, h1])
  obtain ⟨h, _⟩ := List.append_inj h (by simp [rowsN_len (sh := wsh) ha.ws, rowsN_len (sh := wsh) hb.ws, h1])
  obtain ⟨h, e2⟩ := List.append_inj h (by simp)
  simp only [List.cons.injEq, Prod.mk.injEq, and_true, true_and] at h
  obtain ⟨f1, w1, s1, c1⟩ := a
  obtain ⟨f2, w2, s2, c2⟩ := b
  simp only at h e2 e4 e6 h1 h2 h3
  have q1 : w1 = w2 := rowsN_inj (sh := wsh) ha.ws hb.ws h1 e2
  have q2 : s1 = s2 := rowsN_inj (sh := wsh) ha.ss hb.ss h2 e4
  have q3 : c1 = c2 := rowsN_inj (sh := csh) ha.cs hb.cs h3 e6
  rw [h.1, q1, q2, q3]
/-! Bytes as tables. -/
def b1 (t : List UInt8) (i : Nat) : Int := ((t.getD i 0).toNat : Int)
def b2 (t : List UInt8) (i : Nat) : Int := b1 t i + 256 * b1 t (i + 1)
def winAt (t : List UInt8) (i : Nat) : List Int := [b1 t i, b2 t (i + 1), b2 t (i + 3)]
def cliAt (t : List UInt8) (i : Nat) : List Int := [b2 t i, b2 t (i + 2), b1 t (i + 4), b2 t (i + 5), b1 t (i + 7), b1 t (i + 8), b1 t (i + 9), b1 t (i + 10), b2 t (i + 11), b1 t (i + 13)]
def rowsAt (f : Nat → List Int) (w a n : Nat) : List (List Int) := (List.range n).map fun i => f (a + i * w)
def n1 (t : List UInt8) : Nat := (t.getD 4 0).toNat
def i1 (t : List UInt8) : Nat := 5 + n1 t * 5
def n2 (t : List UInt8) : Nat := (t.getD (i1 t) 0).toNat
def i2 (t : List UInt8) : Nat := i1 t + 1 + n2 t * 5
def n3 (t : List UInt8) : Nat := (t.getD (i2 t) 0).toNat
def i3 (t : List UInt8) : Nat := i2 t + 1 + n3 t * 14
def cfgAt (t : List UInt8) : Cfg := ⟨b2 t 2, rowsAt (winAt t) 5 5 (n1 t), rowsAt (winAt t) 5 (i1 t + 1) (n2 t), rowsAt (cliAt t) 14 (i2 t + 1) (n3 t)⟩
def perr (t : List UInt8) : Int := if 2 ≤ t.length ∧ t.take 2 ≠ [67, 1] then 3 else if t.length < i3 t then 5 else if i3 t < t.length then 3 else 0
theorem bt_b1 (s : ByteArray) (i : Nat) : bt s i = b1 s.data.toList i := by
  unfold bt b1
  by_cases h : i < s.size
  · rw [dif_pos h, List.getD_eq_getElem?_getD, List.getElem?_eq_getElem (by simpa using h)]
    rfl
  · rw [dif_neg h, List.getD_eq_getElem?_getD, List.getElem?_eq_none (by simpa using h)]
    rfl
theorem rowsAt_succ (f : Nat → List Int) (w a n : Nat) : rowsAt f w a (n + 1) = rowsAt f w a n ++ [f (a + n * w)] := by simp [rowsAt, List.range_succ]
theorem rowsAt_len (f : Nat → List Int) (w a n : Nat) : (rowsAt f w a n).length = n := by simp [rowsAt]
theorem rowsAt_mem {f : Nat → List Int} {w a n : Nat} {r : List Int} (h : r ∈ rowsAt f w a n) : ∃ i, i < n ∧ r = f (a + i * w) := by
  simp [rowsAt] at h
  obtain ⟨i, hi, e⟩ := h
  exact ⟨i, hi, e.symm⟩
theorem cfgAt_wf (t : List UInt8) : Wf (cfgAt t) := by
  refine ⟨fun r hr => ?_, fun r hr => ?_, fun r hr => ?_⟩ <;> (obtain ⟨i, _, rfl⟩ := rowsAt_mem hr; rfl)
theorem b1_ok (t : List UInt8) (i : Nat) : okN (b1 t i, 1) = true := by
  unfold okN b1
  have := (t.getD i 0).toNat_lt
  generalize t.getD i 0 = x at *
  simp
  omega
theorem b2_ok (t : List UInt8) (i : Nat) : okN (b2 t i, 2) = true := by
  unfold okN b2 b1
  have h1 := (t.getD i 0).toNat_lt
  have h2 := (t.getD (i + 1) 0).toNat_lt
  generalize t.getD i 0 = x at *
  generalize t.getD (i + 1) 0 = y at *
  simp
  omega
theorem win_ok (t : List UInt8) (i : Nat) : (rowN wsh (winAt t i)).all okN = true := by
  simp [rowN, wsh, winAt, b1_ok, b2_ok]
theorem cli_ok (t : List UInt8) (i : Nat) : (rowN csh (cliAt t i)).all okN = true := by
  simp [rowN, csh, cliAt, b1_ok, b2_ok]
theorem rows_ok (sh : List Nat) (f : Nat → List Int) (w a n : Nat) (h : ∀ i, (rowN sh (f i)).all okN = true) : (rowsN sh (rowsAt f w a n)).all okN = true := by
  simp only [rowsN, List.all_flatMap]
  rw [List.all_eq_true]
  intro r hr
  obtain ⟨i, _, rfl⟩ := rowsAt_mem hr
  exact h _
theorem n_ok (x : UInt8) : okN ((x.toNat : Int), 1) = true := by
  unfold okN; have := x.toNat_lt; simp; omega
theorem cfg_ok (t : List UInt8) : (nums (cfgAt t)).all okN = true := by
  unfold nums cfgAt
  simp only [List.all_append, List.all_cons, List.all_nil, rowsAt_len, Bool.and_true, rows_ok wsh (winAt t) _ _ _ (win_ok t), rows_ok csh (cliAt t) _ _ _ (cli_ok t), b2_ok]
  rw [show okN (67, 1) = true from by decide, show okN (1, 1) = true from by decide, n1, n2, n3, n_ok, n_ok, n_ok]
  rfl
theorem drop_b (t : List UInt8) (i : Nat) (h : i < t.length) : t.drop i = t.getD i 0 :: t.drop (i + 1) := by
  rw [List.drop_eq_getElem_cons h, List.getD_eq_getElem?_getD, List.getElem?_eq_getElem h]; rfl
theorem byt1 (t : List UInt8) (i : Nat) : bytesN (b1 t i, 1) = [t.getD i 0] := by
  unfold bytesN b1 putL
  have h1 := (t.getD i 0).toNat_lt
  generalize t.getD i 0 = x at *
  simp only [List.take, List.cons.injEq, and_true]
  rw [show ((x.toNat : Int) % 256).toNat = x.toNat by omega]
  simp
theorem byt2 (t : List UInt8) (i : Nat) : bytesN (b2 t i, 2) = [t.getD i 0, t.getD (i + 1) 0] := by
  unfold bytesN b2 b1 putL
  have h1 := (t.getD i 0).toNat_lt
  have h2 := (t.getD (i + 1) 0).toNat_lt
  generalize t.getD i 0 = x at *
  generalize t.getD (i + 1) 0 = y at *
  simp only [List.take, List.cons.injEq, and_true]
  refine ⟨?_, ?_⟩
  · rw [show (((x.toNat : Int) + 256 * (y.toNat : Int)) % 256).toNat = x.toNat by omega]; simp
  · rw [show (((x.toNat : Int) + 256 * (y.toNat : Int)) / 256 % 256).toNat = y.toNat by omega]; simp
end Im
end Go.Proofs.Ytjdhkpafbejodaa
