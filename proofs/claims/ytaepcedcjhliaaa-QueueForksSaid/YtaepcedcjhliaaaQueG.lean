/- The law QueueOrders: what stands at the head of a round, and what each deed makes of it. -/
import Derived.Test.YtaepcedcjhliaaaQueF
namespace Go.Proofs.Ytaepcedcjhliaaa
open Go.RowKit
namespace Qp
open Sm FiT
def goods (l : List Bool) : Nat := (l.filter (fun b => !b)).length
theorem goods_app (l m : List Bool) : goods (l ++ m) = goods l + goods m := by simp [goods]
theorem goods_true (m : List Bool) (h : ∀ b ∈ m, b = true) : goods m = 0 := by
  unfold goods
  rw [List.filter_eq_nil_iff.2 (fun b hb => by simp [h b hb])]
  rfl
theorem goods_one (b : Bool) : goods [b] = if b then 0 else 1 := by cases b <;> rfl
def bls (l : List Bool) : List Value := l.map fun b => .bool b
/-- These items are the m'th and the next that were put. -/
def Chain (P : List Bool) (m : Nat) (L : List It) : Prop := ∀ (j : Nat) (x : It), L[j]? = some x → x.k = ((m + j : Nat) : Int) ∧ P[m + j]? = some x.bad
theorem set_app (l : List It) : setB l ++ setL l = l := List.takeWhile_append_dropWhile
theorem setB_bad : ∀ (l : List It), ∀ x ∈ setB l, x.bad = true
  | [], x, hx => by simp [setB] at hx
  | y :: t, x, hx => by
    by_cases hy : y.bad = true
    · rw [setB, List.takeWhile_cons_of_pos (by simpa using hy), List.mem_cons] at hx
      rcases hx with rfl | hx
      · exact hy
      · exact setB_bad t x hx
    · rw [setB, List.takeWhile_cons_of_neg (by simpa using hy)] at hx
      simp at hx
theorem setL_good (l : List It) (x : It) (t : List It) (h : setL l = x :: t) : x.bad = false := by
  have := List.head?_dropWhile_not (fun x : It => x.bad) l
  unfold setL at h
  rw [h] at this
  simpa using this
theorem setD_its (l : List It) (dl : List Cl) : (setD l dl).map (·.it) = dl.map (·.it) ++ setB l := by
  unfold setD
  rw [List.map_append, List.map_map]
  congr 1
  have : (fun x : Cl => x.it) ∘ wrong = id := rfl
  rw [this, List.map_id]
theorem setD_len (l : List It) (dl : List Cl) : (setD l dl).length = dl.length + (setB l).length := by simp [setD]
theorem set_len (l : List It) : (setB l).length + (setL l).length = l.length := by rw [← List.length_append, set_app]
/-- How queue, what was put, what was posted and what was finished hang together. -/
structure Acc (P : List Bool) (l : List It) (dl : List Cl) (posted fin : Nat) : Prop where
  ord : Chain P posted (dl.map (·.it) ++ l)
  st : ∀ x ∈ dl, decide (x.st = 2) = x.it.bad
  tot : posted + dl.length + l.length = P.length
  gd : goods (P.take (posted + dl.length)) ≤ fin
theorem acc_0 : Acc [] [] [] 0 0 := ⟨fun j x h => by simp at h, fun x h => by simp at h, rfl, by simp [goods]⟩
section
variable {P : List Bool} {l : List It} {dl : List Cl} {posted fin : Nat}
theorem Acc.settle (h : Acc P l dl posted fin) : Acc P (setL l) (setD l dl) posted fin := by
  have hl := set_len l
  have hd := setD_len l dl
  have ht := h.tot
  refine ⟨?_, ?_, by omega, ?_⟩
  · rw [setD_its, List.append_assoc, set_app]
    exact h.ord
  · intro x hx
    rw [setD, List.mem_append] at hx
    rcases hx with hx | hx
    · exact h.st x hx
    · rw [List.mem_map] at hx
      obtain ⟨y, hy, rfl⟩ := hx
      have := setB_bad l y hy
      simp [wrong, this]
  · rw [hd]
    have e : P.take (posted + (dl.length + (setB l).length)) = P.take (posted + dl.length) ++ (P.drop (posted + dl.length)).take (setB l).length := by
      rw [← Nat.add_assoc, List.take_add]
    rw [e, goods_app, goods_true ((P.drop (posted + dl.length)).take (setB l).length)]
    · exact h.gd
    · intro b hb
      obtain ⟨j, hj⟩ := List.mem_iff_getElem?.1 hb
      rw [List.getElem?_take] at hj
      split at hj
      case isFalse => cases hj
      case isTrue hjl =>
        rw [List.getElem?_drop] at hj
        have hx : (setB l)[j]? = some ((setB l)[j]) := List.getElem?_eq_getElem hjl
        have hx2 : (dl.map (·.it) ++ l)[dl.length + j]? = some ((setB l)[j]) := by
          rw [List.getElem?_append_right (by simp), List.length_map, Nat.add_sub_cancel_left]
          have e5 : (setB l ++ setL l)[j]? = some ((setB l)[j]) := by rw [List.getElem?_append_left hjl, hx]
          rw [set_app] at e5
          exact e5
        have := (h.ord _ _ hx2).2
        rw [← Nat.add_assoc, hj] at this
        injection this with this
        rw [this]
        exact setB_bad l _ (List.getElem_mem _)
theorem Acc.put (h : Acc P l dl posted fin) (x : It) (hx : x.k = (P.length : Int)) : Acc (P ++ [x.bad]) (l ++ [x]) dl posted fin := by
  have ht := h.tot
  refine ⟨?_, h.st, by simp; omega, ?_⟩
  · intro j y hy
    rw [← List.append_assoc] at hy
    by_cases hj : j < (dl.map (·.it) ++ l).length
    · rw [List.getElem?_append_left hj] at hy
      obtain ⟨h1, h2⟩ := h.ord j y hy
      refine ⟨h1, ?_⟩
      rw [List.getElem?_append_left (by simp at hj; omega)]
      exact h2
    · rw [List.getElem?_append_right (by omega)] at hy
      have h0 : j = (dl.map (·.it) ++ l).length := by
        rcases Nat.eq_zero_or_pos (j - (dl.map (·.it) ++ l).length) with h0 | h0
        · omega
        · rw [List.getElem?_eq_none (by simp at h0 ⊢; omega)] at hy; cases hy
      have hj2 : posted + j = P.length := by rw [h0]; simp; omega
      rw [h0, Nat.sub_self] at hy
      simp at hy
      subst hy
      rw [hj2]
      exact ⟨hx, by simp⟩
  · rw [List.take_append_of_le_length (by omega)]
    exact h.gd
theorem Acc.finish {x : It} {t : List It} (h : Acc P (x :: t) dl posted fin) (hx : x.bad = false) (n : Int) : Acc P t (dl ++ [⟨x, 1, n⟩]) posted (fin + 1) := by
  have ht := h.tot
  simp only [List.length_cons] at ht
  refine ⟨?_, ?_, by simp; omega, ?_⟩
  · rw [List.map_append, List.append_assoc]
    exact h.ord
  · intro y hy
    rw [List.mem_append] at hy
    rcases hy with hy | hy
    · exact h.st y hy
    · simp at hy; subst hy; simp [hx]
  · rw [List.length_append, ← Nat.add_assoc, List.take_add, goods_app]
    have := h.gd
    have h2 : goods ((P.drop (posted + dl.length)).take 1) ≤ 1 := by
      unfold goods
      refine Nat.le_trans (List.length_filter_le _ _) ?_
      rw [List.length_take]
      omega
    simp only [List.length_cons, List.length_nil, Nat.zero_add]
    omega
theorem Acc.post (h : Acc P l dl posted fin) : Acc P l [] (posted + dl.length) fin := by
  have ht := h.tot
  refine ⟨?_, fun x hx => by simp at hx, by simp; omega, by simpa using h.gd⟩
  intro j x hj
  have := h.ord (dl.length + j) x (by
    rw [List.getElem?_append_right (by simp), List.length_map, Nat.add_sub_cancel_left]
    simpa using hj)
  rw [← Nat.add_assoc] at this
  exact this
/-- What stands at a place of what is posted. -/
theorem Acc.at_ (h : Acc P l dl posted fin) (k : Nat) (x : Cl) (hk : dl[k]? = some x) : posted + k < P.length ∧ x.it.k = ((posted + k : Nat) : Int) ∧ P[posted + k]? = some x.it.bad ∧ decide (x.st = 2) = x.it.bad := by
  have hkl : k < dl.length := (List.getElem?_eq_some_iff.1 hk).1
  have h1 := h.ord k x.it (by rw [List.getElem?_append_left (by simpa using hkl), List.getElem?_map, hk]; rfl)
  exact ⟨(List.getElem?_eq_some_iff.1 h1.2).1, h1.1, h1.2, h.st x (List.mem_of_getElem? hk)⟩
theorem Acc.good (h : Acc P l dl posted fin) : goods (P.take posted) ≤ fin := by
  have := h.gd
  rw [List.take_add, goods_app] at this
  omega
end
end Qp
end Go.Proofs.Ytaepcedcjhliaaa
