/- Instructions: their names, which have a register, which may be: the program's functions and the reference's, one contract each. -/
import Derived.Test.YtkbgihlpnamfeaaBitsC
import Derived.Test.YtkbgihlpnamfeaaOwn
namespace Go.Proofs.Ytkbgihlpnamfeaa
open Go.RowKit
attribute [local go_sem] Bw.and255 Bw.and65535
namespace Co
open Sm
/-- The codes' names. -/
def nmL : List ByteArray := [⟨#[115, 116, 111, 112]⟩, ⟨#[115, 101, 116]⟩, ⟨#[109, 111, 118, 101]⟩, ⟨#[97, 100, 100]⟩, ⟨#[115, 117, 98]⟩, ⟨#[97, 110, 100]⟩, ⟨#[120, 111, 114]⟩, ⟨#[114, 101, 97, 100]⟩, ⟨#[119, 114, 105, 116, 101]⟩, ⟨#[114, 101, 97, 100, 50]⟩, ⟨#[119, 114, 105, 116, 101, 50]⟩, ⟨#[106, 117, 109, 112]⟩, ⟨#[122, 101, 114, 111]⟩, ⟨#[108, 101, 115, 115]⟩, ⟨#[99, 97, 108, 108]⟩, ⟨#[114, 101, 115, 116]⟩]
def nm (k : Nat) : ByteArray := nmL.getD k ⟨#[]⟩
theorem nm_out (k : Nat) (h : 16 ≤ k) : nm k = ⟨#[]⟩ := by unfold nm; rw [List.getD_eq_getElem?_getD, List.getElem?_eq_none (by simp [nmL]; omega)]; rfl
theorem nm_full (k : Nat) (h : k < 16) : (nm k).data.toList ≠ [] := by
  have : ∀ i : Fin 16, (nm i.val).data.toList ≠ [] := by decide +kernel
  exact this ⟨k, h⟩
theorem nm_inj (j k : Nat) (hj : j < 16) (hk : k < 16) (h : (nm j).data.toList = (nm k).data.toList) : j = k := by
  have : ∀ i j : Fin 16, (nm i.val).data.toList = (nm j.val).data.toList → i = j := by decide +kernel
  have := this ⟨j, hj⟩ ⟨k, hk⟩ h
  simpa using this
/-- A block that holds the names. -/
def Names (w : World) (b : Nat) : Prop := ∀ k, k < 16 → w.cell? ⟨b, k, none⟩ = some (.string (nm k))
theorem names_new (w : World) (C : Array Value) (t : TypeId) (hC : ∀ k, k < 16 → C[k]? = some (.string (nm k))) : Names (w.alloc (.cells C t)) w.heap.size := fun k hk => by
  have := (Blk.new w t C).cell k
  rw [this]; exact hC k hk
theorem sixteen (P : Nat → Prop) (h : P 0 ∧ P 1 ∧ P 2 ∧ P 3 ∧ P 4 ∧ P 5 ∧ P 6 ∧ P 7 ∧ P 8 ∧ P 9 ∧ P 10 ∧ P 11 ∧ P 12 ∧ P 13 ∧ P 14 ∧ P 15) (k : Nat) (hk : k < 16) : P k := by
  have : k = 0 ∨ k = 1 ∨ k = 2 ∨ k = 3 ∨ k = 4 ∨ k = 5 ∨ k = 6 ∨ k = 7 ∨ k = 8 ∨ k = 9 ∨ k = 10 ∨ k = 11 ∨ k = 12 ∨ k = 13 ∨ k = 14 ∨ k = 15 := by omega
  rcases this with rfl | rfl | rfl | rfl | rfl | rfl | rfl | rfl | rfl | rfl | rfl | rfl | rfl | rfl | rfl | rfl <;> simp only [h]
theorem names_any (w : World) : Calls Try.prog 20 #[] w fun e w' => e = .returned (.slice (some ⟨w.heap.size, 0, none⟩) 16 16) ∧ Names w' w.heap.size ∧ Below w.heap.size w w' := by
  go_enter Try.func20, Try.ntmps20
  go_wp2
  go_ret
  refine ⟨rfl, names_new _ _ _ (sixteen _ ⟨rfl, rfl, rfl, rfl, rfl, rfl, rfl, rfl, rfl, rfl, rfl, rfl, rfl, rfl, rfl, rfl⟩), (Below.refl _ _).alloc (Nat.le_refl _) _⟩
attribute [local irreducible] nm
theorem name_any (c : Int) (w : World) (h0 : 0 ≤ c) (h1 : c ≤ 255) : Calls Try.prog 7 #[.int .u8 c] w fun e w' => e = .returned (.string (nm c.toNat)) ∧ Below w.heap.size w w' := by
  obtain ⟨k, rfl⟩ := Int.eq_ofNat_of_zero_le h0
  rw [Int.toNat_natCast]
  by_cases hk : k < 16
  · go_enter Try.func7, Try.ntmps7
    go_wp2_with fail
    refine (names_any _).mono ?_
    rintro e w1 ⟨rfl, hn, hb⟩
    have hc := hn k hk
    clear hn
    go_wp2
    go_ret
    exact ⟨rfl, hb⟩
  · have HN := Lib.hid (nm_out k (by omega))
    go_enter Try.func7, Try.ntmps7
    go_wp2_with fail
    refine (names_any _).mono ?_
    rintro e w1 ⟨rfl, hn, hb⟩
    clear hn
    go_wp2
    go_ret
    exact ⟨by rw [HN.out]; rfl, hb⟩
theorem rname_any (c : Int) (w : World) (h1 : c ≤ 255) (h0 : 0 ≤ c) : Calls Try.prog 8 #[.int .i64 c] w fun e w' => e = .returned (.string (nm c.toNat)) ∧ Below w.heap.size w w' := by
  obtain ⟨k, rfl⟩ := Int.eq_ofNat_of_zero_le h0
  rw [Int.toNat_natCast]
  by_cases hk : k < 16
  · have hc := names_new w #[.string ⟨#[115, 116, 111, 112]⟩, .string ⟨#[115, 101, 116]⟩, .string ⟨#[109, 111, 118, 101]⟩, .string ⟨#[97, 100, 100]⟩, .string ⟨#[115, 117, 98]⟩, .string ⟨#[97, 110, 100]⟩, .string ⟨#[120, 111, 114]⟩, .string ⟨#[114, 101, 97, 100]⟩, .string ⟨#[119, 114, 105, 116, 101]⟩, .string ⟨#[114, 101, 97, 100, 50]⟩, .string ⟨#[119, 114, 105, 116, 101, 50]⟩, .string ⟨#[106, 117, 109, 112]⟩, .string ⟨#[122, 101, 114, 111]⟩, .string ⟨#[108, 101, 115, 115]⟩, .string ⟨#[99, 97, 108, 108]⟩, .string ⟨#[114, 101, 115, 116]⟩] 45 (sixteen _ (by unfold nm; exact ⟨rfl, rfl, rfl, rfl, rfl, rfl, rfl, rfl, rfl, rfl, rfl, rfl, rfl, rfl, rfl, rfl⟩)) k hk
    go_enter Try.func8, Try.ntmps8
    go_wp2
    go_ret
    exact ⟨rfl, (Below.refl _ _).alloc (Nat.le_refl _) _⟩
  · have HN := Lib.hid (nm_out k (by omega))
    go_enter Try.func8, Try.ntmps8
    go_wp2
    go_ret
    exact ⟨by rw [HN.out]; rfl, (Below.refl _ _).alloc (Nat.le_refl _) _⟩
/-- The first code of a name, or -1. -/
def IsIdx (t : ByteArray) (i : Int) : Prop := (i = -1 ∧ ∀ k, k < 16 → ¬ (nm k).data.toList = t.data.toList) ∨ (∃ k : Nat, i = k ∧ k < 16 ∧ (nm k).data.toList = t.data.toList)
def Idx (t : ByteArray) (w : World) (e : Ending) (w' : World) : Prop := ∃ i : Int, e = .returned (.int .i64 i) ∧ IsIdx t i ∧ w = w'
theorem index_any (b : Nat) (t : ByteArray) (w : World) (h : Names w b) : Calls Try.prog 21 #[.slice (some ⟨b, 0, none⟩) 16 16, .string t] w (Idx t w) := by
  go_enter Try.func21, Try.ntmps21
  go_wp2
  go_loop [5, 8] (fun _ i => ∃ k : Nat, k ≤ 16 ∧ i = .int .i64 k ∧ Hid (∀ j, j < k → ¬ (nm j).data.toList = t.data.toList)) (fun _ i => 16 - (intOf i).toNat)
  case atStart => exact ⟨0, by omega, rfl, fun j hj => absurd hj (by omega)⟩
  case round =>
    obtain ⟨k, hk, rfl, hno⟩ := hrel
    by_cases hlt : k < 16
    · have hc := h k hlt
      by_cases hq : (nm k).data.toList = t.data.toList
      · have hq' := seq_true hq.symm
        have HQ := Lib.hid hq
        clear hq
        go_wp2
        go_ret
        exact ⟨_, rfl, .inr ⟨k, rfl, hlt, HQ.out⟩, rfl⟩
      · have hq' : (t.toList == (nm k).toList) = false := seq_false fun e => hq e.symm
        have HQ := Lib.hid hq
        clear hq
        go_wp2
        go_round
        case rel => exact ⟨k + 1, by omega, by go_num, fun j hj => by
          rcases Nat.lt_or_eq_of_le (Nat.lt_succ_iff.1 hj) with h1 | rfl
          · exact hno.out j h1
          · exact HQ.out⟩
        case measure => simp [intOf]; omega
    · obtain rfl : k = 16 := by omega
      go_wp2
      go_ret
      exact ⟨_, rfl, .inl ⟨rfl, hno.out⟩, rfl⟩
def IsNamed (t : ByteArray) (w : World) (e : Ending) (w' : World) : Prop := ∃ i : Int, IsIdx t i ∧ e = .returned (.tuple #[.int .u8 (if i = -1 then 0 else i), .bool (!(i == -1))]) ∧ Below w.heap.size w w'
theorem named_any (t : ByteArray) (w : World) : Calls Try.prog 9 #[.string t] w (IsNamed t w) := by
  go_enter Try.func9, Try.ntmps9
  go_wp2_with fail
  refine (names_any _).mono ?_
  rintro e w1 ⟨rfl, hn, hb⟩
  go_wp2_with fail
  refine (index_any _ t _ hn).mono ?_
  rintro e w2 ⟨i, rfl, hi, rfl⟩
  clear hn
  rcases hi with ⟨rfl, hno⟩ | ⟨k, rfl, hk, hq⟩
  · have HI : Hid (IsIdx t (-1)) := .inl ⟨rfl, hno⟩
    clear hno
    go_wp2
    go_ret2
    exact ⟨-1, HI.out, rfl, hb⟩
  · have HI : Hid (IsIdx t k) := .inr ⟨k, rfl, hk, hq⟩
    have h1 : ¬ (k : Int) = -1 := by omega
    have H1 := Lib.hid h1
    clear hq h1
    go_wp2
    go_ret2
    refine ⟨k, HI.out, ?_, hb⟩
    rw [if_neg H1.out, show ((k : Int) == -1) = false from beq_eq_false_iff_ne.2 H1.out]
    rfl
def regB (c : Int) : Bool := decide (2 ≤ c ∧ c ≤ 10)
theorem reg_any (c : Int) (w : World) (h0 : 0 ≤ c) (h1 : c ≤ 255) : Calls Try.prog 11 #[.int .u8 c] w fun e w' => e = .returned (.bool (regB c)) ∧ w = w' := by
  by_cases h : 2 ≤ c ∧ c ≤ 10
  · have e : regB c = true := by unfold regB; exact decide_eq_true h
    rw [e]
    clear e
    have : c = 2 ∨ c = 3 ∨ c = 4 ∨ c = 5 ∨ c = 6 ∨ c = 7 ∨ c = 8 ∨ c = 9 ∨ c = 10 := by omega
    rcases this with rfl | rfl | rfl | rfl | rfl | rfl | rfl | rfl | rfl
    all_goals
      go_enter Try.func11, Try.ntmps11
      go_wp2
      go_ret
      exact ⟨rfl, rfl⟩
  · have e : regB c = false := by unfold regB; exact decide_eq_false h
    rw [e]
    clear e
    by_cases h2 : c < 2
    · clear h
      go_enter Try.func11, Try.ntmps11
      go_wp2
      go_ret
      exact ⟨rfl, rfl⟩
    · have h3 : 10 < c := by omega
      clear h h2
      go_enter Try.func11, Try.ntmps11
      go_wp2
      go_ret
      exact ⟨rfl, rfl⟩
def goesB (c : Int) : Bool := decide (c = 0 ∨ c = 11 ∨ c = 12 ∨ c = 13)
theorem goes_any (c x n : Int) (w : World) (h0 : 0 ≤ c) (h1 : c ≤ 255) : Calls Try.prog 12 #[.agg #[.int .u8 c, .int .i64 x, .int .i64 n]] w fun e w' => e = .returned (.bool (goesB c)) ∧ Below w.heap.size w w' := by
  by_cases h : c = 0 ∨ c = 11 ∨ c = 12 ∨ c = 13
  · have e : goesB c = true := by unfold goesB; exact decide_eq_true h
    rw [e]
    clear e
    rcases h with rfl | rfl | rfl | rfl
    all_goals
      go_enter Try.func12, Try.ntmps12
      go_wp2
      go_ret
      exact ⟨rfl, (Below.refl _ _).alloc (Nat.le_refl _) _⟩
  · have e : goesB c = false := by unfold goesB; exact decide_eq_false h
    rw [e]
    have a0 : (c == 0) = false := by simp; omega
    have a1 : (c == 11) = false := by simp; omega
    have a2 : (c == 12) = false := by simp; omega
    have a3 : (c == 13) = false := by simp; omega
    clear e h
    go_enter Try.func12, Try.ntmps12
    go_wp2
    go_ret
    exact ⟨rfl, (Below.refl _ _).alloc (Nat.le_refl _) _⟩
end Co
end Go.Proofs.Ytkbgihlpnamfeaa
