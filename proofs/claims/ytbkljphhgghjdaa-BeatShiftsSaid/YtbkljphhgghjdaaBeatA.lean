/- Quarters of a turn as whole numbers; how many leave what; plain sums. -/
import Derived.Test.YtbkljphhgghjdaaFloat
import Derived.Test.YtbkljphhgghjdaaTurn
namespace Go.Proofs.Ytbkljphhgghjdaa
namespace Be
open Ph Fl
def cs (n : Nat) : Int := if n = 0 then 1 else if n = 2 then -1 else 0
def sn (n : Nat) : Int := if n = 1 then 1 else if n = 3 then -1 else 0
def ph (k t : Int) : Nat := ((k % 4) * (t % 4) % 4).toNat
theorem ph_lt (k t : Int) : ph k t < 4 := by unfold ph; omega
theorem ph_mod (k t : Int) : ph k (t % 4) = ph k t := by unfold ph; rw [Int.emod_emod_of_dvd _ (by decide)]
theorem ph_modk (k t : Int) : ph (k % 4) t = ph k t := by unfold ph; rw [Int.emod_emod_of_dvd _ (by decide)]
/-- Sums of a function over a list. -/
def sumI (f : Int → Int) : List Int → Int
  | [] => 0
  | t :: r => f t + sumI f r
theorem sumI_snoc (f : Int → Int) (l : List Int) (t : Int) : sumI f (l ++ [t]) = sumI f l + f t := by
  induction l with
  | nil => simp [sumI]
  | cons a r ih => simp only [List.cons_append, sumI, ih]; omega
theorem sumI_bd (f : Int → Int) (hf : ∀ t, -1 ≤ f t ∧ f t ≤ 1) (l : List Int) : -(l.length : Int) ≤ sumI f l ∧ sumI f l ≤ l.length := by
  induction l with
  | nil => simp [sumI]
  | cons a r ih => simp only [sumI, List.length_cons]; have := hf a; omega
def rP (k : Int) (l : List Int) : Int := sumI (fun t => cs (ph k t)) l
def iP (k : Int) (l : List Int) : Int := sumI (fun t => sn (ph k t)) l
def cnt (j : Int) (l : List Int) : Int := sumI (fun t => if t % 4 = j then 1 else 0) l
theorem cs_bd (n : Nat) : -1 ≤ cs n ∧ cs n ≤ 1 := by unfold cs; split <;> (try split) <;> omega
theorem sn_bd (n : Nat) : -1 ≤ sn n ∧ sn n ≤ 1 := by unfold sn; split <;> (try split) <;> omega
theorem rP_bd (k : Int) (l : List Int) : -(l.length : Int) ≤ rP k l ∧ rP k l ≤ l.length := sumI_bd _ (fun _ => cs_bd _) l
theorem iP_bd (k : Int) (l : List Int) : -(l.length : Int) ≤ iP k l ∧ iP k l ≤ l.length := sumI_bd _ (fun _ => sn_bd _) l
theorem cnt_bd (j : Int) (l : List Int) : 0 ≤ cnt j l ∧ cnt j l ≤ l.length := by
  unfold cnt
  induction l with
  | nil => simp [sumI]
  | cons a r ih => simp only [sumI, List.length_cons]; split <;> omega
/-- A sum over parts: what a function says of 0, 1, 2, 3, as often as each is left. -/
theorem by_parts (f : Int → Int) (hf : ∀ t, f t = f (t % 4)) (l : List Int) : sumI f l = f 0 * cnt 0 l + f 1 * cnt 1 l + f 2 * cnt 2 l + f 3 * cnt 3 l := by
  unfold cnt
  induction l with
  | nil => simp [sumI]
  | cons a r ih =>
    simp only [sumI]
    rw [ih, hf a]
    have h4 : a % 4 = 0 ∨ a % 4 = 1 ∨ a % 4 = 2 ∨ a % 4 = 3 := by omega
    rcases h4 with h | h | h | h <;> rw [h] <;> simp [Int.mul_add] <;> omega
theorem rP_parts (k : Int) (l : List Int) : rP k l = cs (ph k 0) * cnt 0 l + cs (ph k 1) * cnt 1 l + cs (ph k 2) * cnt 2 l + cs (ph k 3) * cnt 3 l :=
  by_parts _ (fun t => by rw [ph_mod]) l
theorem iP_parts (k : Int) (l : List Int) : iP k l = sn (ph k 0) * cnt 0 l + sn (ph k 1) * cnt 1 l + sn (ph k 2) * cnt 2 l + sn (ph k 3) * cnt 3 l :=
  by_parts _ (fun t => by rw [ph_mod]) l
/-- The ticks that are heard. -/
def nn (l : List Int) : List Int := l.filter fun t => decide (0 ≤ t)
theorem nn_hit (l : List Int) (t : Int) (h : 0 ≤ t) : nn (l ++ [t]) = nn l ++ [t] := by simp [nn, h]
theorem nn_miss (l : List Int) (t : Int) (h : ¬ 0 ≤ t) : nn (l ++ [t]) = nn l := by simp [nn, h]
theorem nn_len (l : List Int) : (nn l).length ≤ l.length := List.length_filter_le _ _
/-- 1, turned. -/
def un (n : Nat) : Nat × Nat := tn n (4607182418800017408, 0)
theorem wh_p1 : Wh 4607182418800017408 1 := ⟨false, by decide +kernel, by decide⟩
theorem wh_m1 : Wh 13830554455654793216 (-1) := ⟨true, by decide +kernel, by decide⟩
theorem wh_p0 : Wh 0 0 := ⟨false, by decide +kernel, by decide⟩
theorem wh_m0 : Wh 9223372036854775808 0 := ⟨true, by decide +kernel, by decide⟩
theorem un_0 : un 0 = (4607182418800017408, 0) := by decide +kernel
theorem un_1 : un 1 = (9223372036854775808, 4607182418800017408) := by decide +kernel
theorem un_2 : un 2 = (13830554455654793216, 9223372036854775808) := by decide +kernel
theorem un_3 : un 3 = (0, 13830554455654793216) := by decide +kernel
theorem wh_un (n : Nat) (h : n < 4) : Wh (un n).1 (cs n) ∧ Wh (un n).2 (sn n) := by
  have h4 : n = 0 ∨ n = 1 ∨ n = 2 ∨ n = 3 := by omega
  rcases h4 with rfl | rfl | rfl | rfl
  · rw [un_0]; exact ⟨wh_p1, wh_p0⟩
  · rw [un_1]; exact ⟨wh_m0, wh_p1⟩
  · rw [un_2]; exact ⟨wh_m1, wh_m0⟩
  · rw [un_3]; exact ⟨wh_p0, wh_m1⟩
end Be
end Go.Proofs.Ytbkljphhgghjdaa
