/- A program's code: all its instructions. -/
import Derived.Test.YtkbgihlpnamfeaaCodeL
import Derived.Test.YtkbgihlpnamfeaaApp
namespace Go.Proofs.Ytkbgihlpnamfeaa
open Go.RowKit
attribute [local go_sem] Bw.and255 Bw.and65535
namespace Co
open Sm
open PlainAid (bt get_bt bt_nonneg bt_le)
/-- What is left of a text at its k-th instruction. -/
def tl (s : ByteArray) (k : Nat) : ByteArray := s.extract (4 * k) s.size
theorem tl_size (s : ByteArray) (k : Nat) : (tl s k).size = s.size - 4 * k := by simp [tl]
/-- Three fields; whether they may be; the error. -/
def fC (s : ByteArray) (k : Nat) : Int := bt (tl s k) 0
def fX (s : ByteArray) (k : Nat) : Int := bt (tl s k) 1
def fN (s : ByteArray) (k : Nat) : Int := bt (tl s k) 2 + 256 * bt (tl s k) 3
def okAt (s : ByteArray) (k : Nat) : Prop := 4 ≤ (tl s k).size ∧ mayB (fC s k) (fX s k) (fN s k) = true
def errAt (s : ByteArray) (k : Nat) : Int := if 4 ≤ (tl s k).size then 12 else 5
def three (s : ByteArray) (k : Nat) : List Value := [.int .u8 (fC s k), .int .i64 (fX s k), .int .i64 (fN s k)]
def rowTo (s : ByteArray) : Nat → List Value
  | 0 => []
  | k + 1 => rowTo s k ++ three s k
theorem rowTo_0 (s : ByteArray) : rowTo s 0 = [] := rfl
theorem rowTo_s (s : ByteArray) (k : Nat) : rowTo s (k + 1) = rowTo s k ++ three s k := rfl
theorem rowTo_length (s : ByteArray) (k : Nat) : (rowTo s k).length = k * 3 := by
  induction k with
  | zero => rfl
  | succ k ih => simp [rowTo, three, ih]; omega
theorem rowTo_at (s : ByteArray) (n k j : Nat) (v : Value) (hk : k < n) (hv : (three s k)[j]? = some v) : (rowTo s n)[k * 3 + j]? = some v := by
  have hj : j < 3 := by have := (List.getElem?_eq_some_iff.1 hv).1; simpa [three] using this
  induction n with
  | zero => omega
  | succ n ih =>
    have hl := rowTo_length s n
    show (rowTo s n ++ three s n)[k * 3 + j]? = some v
    rcases Nat.lt_or_eq_of_le (Nat.lt_succ_iff.1 hk) with h | rfl
    · rw [List.getElem?_append_left (by omega)]; exact ih h
    · rw [List.getElem?_append_right (by omega), hl, Nat.add_sub_cancel_left]; exact hv
theorem ok_size {s : ByteArray} {k : Nat} (h : okAt s k) : 4 * (k + 1) ≤ s.size := by
  have := h.1
  rw [tl_size] at this
  omega
theorem get_tl (s : ByteArray) (k : Nat) (hs : s.size ≤ 400) (h : okAt s k) (w : World) : Calls Try.prog 16 #[.string (tl s k)] w (IsGet (fC s k) (fX s k) (fN s k) 0 w) :=
  get_good _ w h.1 (by have := tl_size s k; omega) h.2
theorem rget_tl (s : ByteArray) (k : Nat) (hs : s.size ≤ 400) (h : okAt s k) (w : World) : Calls Try.prog 18 #[.string (tl s k)] w (IsGet (fC s k) (fX s k) (fN s k) 0 w) :=
  rget_good _ w h.1 (by have := tl_size s k; omega) h.2
theorem get_tl_no (s : ByteArray) (k : Nat) (hs : s.size ≤ 400) (h : ¬ okAt s k) (w : World) : Calls Try.prog 16 #[.string (tl s k)] w (IsGet 0 0 0 (errAt s k) w) := by
  unfold errAt
  by_cases h4 : 4 ≤ (tl s k).size
  · rw [if_pos h4]
    exact get_bad _ w h4 (by have := tl_size s k; omega) (by
      have : ¬ mayB (fC s k) (fX s k) (fN s k) = true := fun e => h ⟨h4, e⟩
      simpa [fC, fX, fN] using this)
  · rw [if_neg h4]
    exact get_few _ w (by omega)
theorem rget_tl_no (s : ByteArray) (k : Nat) (hs : s.size ≤ 400) (h : ¬ okAt s k) (w : World) : Calls Try.prog 18 #[.string (tl s k)] w (IsGet 0 0 0 (errAt s k) w) := by
  unfold errAt
  by_cases h4 : 4 ≤ (tl s k).size
  · rw [if_pos h4]
    exact rget_bad _ w h4 (by have := tl_size s k; omega) (by
      have : ¬ mayB (fC s k) (fX s k) (fN s k) = true := fun e => h ⟨h4, e⟩
      simpa [fC, fX, fN] using this)
  · rw [if_neg h4]
    exact rget_few _ w (by omega)
theorem err_ne (s : ByteArray) (k : Nat) : (errAt s k != 0) = true := by unfold errAt; split <;> rfl
/-- Either a first one that is not, or all are. -/
def Stops (s : ByteArray) (k : Nat) : Prop := 4 * k < s.size ∧ (∀ j, j < k → okAt s j) ∧ ¬ okAt s k
def Whole (s : ByteArray) (k : Nat) : Prop := 4 * k = s.size ∧ ∀ j, j < k → okAt s j
theorem stops_or (s : ByteArray) : (∃ k, Stops s k) ∨ (∃ k, Whole s k) := by
  have key : ∀ n, (∀ j, j < n → okAt s j) ∨ ∃ k, k < n ∧ (∀ j, j < k → okAt s j) ∧ ¬ okAt s k := by
    intro n
    induction n with
    | zero => exact .inl fun j hj => absurd hj (by omega)
    | succ n ih =>
      rcases ih with h | ⟨k, hk, h1, h2⟩
      · by_cases ho : okAt s n
        · refine .inl fun j hj => ?_
          rcases Nat.lt_or_eq_of_le (Nat.lt_succ_iff.1 hj) with h' | rfl
          · exact h j h'
          · exact ho
        · exact .inr ⟨n, by omega, h, ho⟩
      · exact .inr ⟨k, by omega, h1, h2⟩
  by_cases hq : 4 * (s.size / 4) = s.size
  · rcases key (s.size / 4) with h | ⟨k, hk, h1, h2⟩
    · exact .inr ⟨_, hq, h⟩
    · exact .inl ⟨k, by omega, h1, h2⟩
  · rcases key (s.size / 4) with h | ⟨k, hk, h1, h2⟩
    · exact .inl ⟨_, by omega, h, fun e => by have := ok_size e; omega⟩
    · exact .inl ⟨k, by omega, h1, h2⟩
theorem instr_info : (Try.prog.info? 24).map (fun i => (i.zero, i.size, i.bytes)) = some (some (.agg #[.int .u8 0, .int .i64 0, .int .i64 0]), 3, 24) := by kernel_rfl
def IsStop (s : ByteArray) (k : Nat) (w : World) (e : Ending) (w' : World) : Prop := e = .returned (.tuple #[.slice none 0 0, .int .i64 (4 * k : Nat), .int .i64 (errAt s k)]) ∧ Below w.heap.size w w'
def IsWhole (s : ByteArray) (k : Nat) (w : World) (e : Ending) (w' : World) : Prop := ∃ a c, e = .returned (.tuple #[.slice a k c, .int .i64 s.size, .int .i64 0]) ∧ w'.ownsRow w.heap.size 24 3 (.slice a k c) k (rowTo s k) ∧ Below w.heap.size w w'
theorem own_form {w : World} {base size n : Nat} {e : TypeId} {v : Value} {xs : List Value} (h : w.ownsRow base e size v n xs) : ∃ a c, v = .slice a n c := by
  rcases h.2 with ⟨rfl, rfl⟩ | ⟨g, cap, cur, rfl, _⟩
  · exact ⟨_, _, rfl⟩
  · exact ⟨_, _, rfl⟩
theorem reads_three (w : World) (s : ByteArray) (k : Nat) : Reads (w.alloc (.cells #[.int .u8 (fC s k), .int .i64 (fX s k), .int .i64 (fN s k)] 24)) (w.heap.size + 1) 3 (some ⟨w.heap.size, 0, none⟩) 1 (three s k) := by
  refine ⟨rfl, fun _ => ⟨_, rfl, by simp, fun j u hu => ?_⟩⟩
  have hadd : (⟨w.heap.size, 0, none⟩ : Addr).add j = ⟨w.heap.size, j, none⟩ := by unfold Addr.add; split <;> simp_all
  rw [hadd, (Blk.new w 24 _).cell j, ← hu]
  simp [three]
theorem three_one (s : ByteArray) (k : Nat) : ∀ u ∈ three s k, u.oneCell' = true := by
  intro u hu
  simp [three] at hu
  rcases hu with rfl | rfl | rfl <;> rfl
attribute [local irreducible] tl fC fX fN okAt errAt rowTo mayB
set_option maxRecDepth 100000 in
set_option maxHeartbeats 2000000 in
theorem all_stop (s : ByteArray) (w : World) (hs : s.size ≤ 400) (k0 : Nat) (h : Stops s k0) : Calls Try.prog 19 #[.string s] w (IsStop s k0 w) := by
  obtain ⟨hlt, hok, hno⟩ := h
  have HOK := Lib.hid hok
  have HNO := Lib.hid hno
  have HE := Lib.hid (err_ne s k0)
  obtain ⟨i0, hi0, hz0, hz1, hz2⟩ := info_parts instr_info
  clear hok hno
  go_enter Try.func19, Try.ntmps19
  go_wp2
  go_loopw [5, 6] (fun v i wr => ∃ (k : Nat) (a : Option Addr) (c : Nat), k ≤ k0 ∧ i = .int .i64 (4 * k : Nat) ∧ v = .slice a k c ∧ wr.ownsRow w.heap.size 24 3 (.slice a k c) k (rowTo s k) ∧ Below w.heap.size w wr) (fun _ i _ => s.size - (intOf i).toNat)
  case atStart => exact ⟨0, none, 0, by omega, rfl, rfl, by rw [rowTo_0]; exact World.ownsRow_nil _ _ _ _, Below.refl _ _⟩
  case round =>
    obtain ⟨k, a, c, hk, rfl, rfl, hown, hb⟩ := hrel
    have hsl : s.extract (4 * k) s.size = tl s k := by unfold tl; rfl
    by_cases hk0 : k < k0
    · have HG := Lib.hid (get_tl s k hs (HOK.out k hk0))
      have hsz := hb.size
      go_wp2_with fail
      refine (HG.out _).mono ?_
      clear HG
      rintro e w1 ⟨rfl, hb1⟩
      have hown1 := ownsRow_keeps hown (Keeps.of_below hb1 []) (by simp)
      have hb2 := hb.trans (hb1.mono hsz)
      have hsz1 := hb2.size
      clear hown hb hb1 hsz
      go_wp2_with (at_builtin; refine wpList_append_any _ rfl (.tmp 26) (.tmp 28) _ rfl w.heap.size 24 i0 _ 3 24 Try.underlying40 hi0 hz0 hz1 hz2 rfl (by omega) (.slice a k c) k (rowTo s k) rfl ((hown1.alloc _).alloc _) (w1.heap.size + 2) (some ⟨w1.heap.size + 1, 0, none⟩) 1 1 (three s k) rfl (by simpa using reads_three (w1.alloc (.cells #[.int .u8 (fC s k), .int .i64 (fX s k), .int .i64 (fN s k)] 24)) s k) (three_one s k) (by simp only [maxLen]; omega) (by omega) (by simp; omega) ?_; intro v1 w2 hown2 hg2 hat2; obtain ⟨a1, cv1, hv1⟩ := own_form hown2; rw [hv1] at hown2; rw [hv1])
      have hg3 : Below w.heap.size w w2 := ((hb2.alloc hsz1 _).alloc (by simp; omega) _).grown hg2 (by simp; omega) (fun g hg => (hown1.lt g hg).1)
      rw [← rowTo_s] at hown2
      go_roundw
      case rel => exact ⟨k + 1, a1, cv1, by omega, by go_num, rfl, hown2, hg3⟩
      case measure => have := ok_size (HOK.out k hk0); simp [intOf]; omega
    · obtain rfl : k = k0 := by omega
      have HG := Lib.hid (get_tl_no s k hs HNO.out)
      have hsz := hb.size
      go_wp2_with fail
      refine (HG.out _).mono ?_
      clear HG
      rintro e w1 ⟨rfl, hb1⟩
      have hb2 := hb.trans (hb1.mono hsz)
      have he : (errAt s k != 0) = true := HE.out
      go_wp2
      go_ret3
      exact ⟨rfl, hb2.alloc hb2.size _⟩
set_option maxRecDepth 100000 in
set_option maxHeartbeats 2000000 in
theorem all_whole (s : ByteArray) (w : World) (hs : s.size ≤ 400) (k0 : Nat) (h : Whole s k0) : Calls Try.prog 19 #[.string s] w (IsWhole s k0 w) := by
  obtain ⟨hlt, hok⟩ := h
  have HOK := Lib.hid hok
  obtain ⟨i0, hi0, hz0, hz1, hz2⟩ := info_parts instr_info
  clear hok
  go_enter Try.func19, Try.ntmps19
  go_wp2
  go_loopw [5, 6] (fun v i wr => ∃ (k : Nat) (a : Option Addr) (c : Nat), k ≤ k0 ∧ i = .int .i64 (4 * k : Nat) ∧ v = .slice a k c ∧ wr.ownsRow w.heap.size 24 3 (.slice a k c) k (rowTo s k) ∧ Below w.heap.size w wr) (fun _ i _ => s.size - (intOf i).toNat)
  case atStart => exact ⟨0, none, 0, by omega, rfl, rfl, by rw [rowTo_0]; exact World.ownsRow_nil _ _ _ _, Below.refl _ _⟩
  case round =>
    obtain ⟨k, a, c, hk, rfl, rfl, hown, hb⟩ := hrel
    have hsl : s.extract (4 * k) s.size = tl s k := by unfold tl; rfl
    by_cases hk0 : k < k0
    · have HG := Lib.hid (get_tl s k hs (HOK.out k hk0))
      have hsz := hb.size
      go_wp2_with fail
      refine (HG.out _).mono ?_
      clear HG
      rintro e w1 ⟨rfl, hb1⟩
      have hown1 := ownsRow_keeps hown (Keeps.of_below hb1 []) (by simp)
      have hb2 := hb.trans (hb1.mono hsz)
      have hsz1 := hb2.size
      clear hown hb hb1 hsz
      go_wp2_with (at_builtin; refine wpList_append_any _ rfl (.tmp 26) (.tmp 28) _ rfl w.heap.size 24 i0 _ 3 24 Try.underlying40 hi0 hz0 hz1 hz2 rfl (by omega) (.slice a k c) k (rowTo s k) rfl ((hown1.alloc _).alloc _) (w1.heap.size + 2) (some ⟨w1.heap.size + 1, 0, none⟩) 1 1 (three s k) rfl (by simpa using reads_three (w1.alloc (.cells #[.int .u8 (fC s k), .int .i64 (fX s k), .int .i64 (fN s k)] 24)) s k) (three_one s k) (by simp only [maxLen]; omega) (by omega) (by simp; omega) ?_; intro v1 w2 hown2 hg2 hat2; obtain ⟨a1, cv1, hv1⟩ := own_form hown2; rw [hv1] at hown2; rw [hv1])
      have hg3 : Below w.heap.size w w2 := ((hb2.alloc hsz1 _).alloc (by simp; omega) _).grown hg2 (by simp; omega) (fun g hg => (hown1.lt g hg).1)
      rw [← rowTo_s] at hown2
      go_roundw
      case rel => exact ⟨k + 1, a1, cv1, by omega, by go_num, rfl, hown2, hg3⟩
      case measure => have := ok_size (HOK.out k hk0); simp [intOf]; omega
    · obtain rfl : k = k0 := by omega
      have hq : s.size ≤ 4 * k := by omega
      go_wp2
      go_ret3
      exact ⟨a, c, rfl, hown, hb⟩
end Co
end Go.Proofs.Ytkbgihlpnamfeaa
