/- The symbols of a text: the program's, and the document's. -/
import Derived.Test.YtdmgglcadjhnhaaToneB
import Derived.Test.YtdmgglcadjhnhaaApp
namespace Go.Proofs.Ytdmgglcadjhnhaa
open Go.RowKit
namespace To
open Sm Ph
open PlainAid (bt get_bt bt_nonneg bt_le)
def syb (b : Int) : List Value := [sx (b / 64), sx (b / 16), sx (b / 4), sx b]
def sy (c : UInt8) : List Value := syb (c.toNat : Int)
def syms (l : List UInt8) : List Value := l.flatMap sy
theorem syms_snoc (l : List UInt8) (c : UInt8) : syms (l ++ [c]) = syms l ++ sy c := by simp [syms]
theorem syms_len (l : List UInt8) : (syms l).length = 4 * l.length := by
  induction l with
  | nil => rfl
  | cons c t ih => simp only [syms, List.flatMap_cons, List.length_append, List.length_cons] at *; rw [ih]; simp [sy, syb]; omega
theorem one_syms (l : List UInt8) : ∀ u ∈ syms l, u.oneCell' = true := by
  intro u hu
  simp only [syms, List.mem_flatMap, sy, syb] at hu
  obtain ⟨c, _, hu⟩ := hu
  simp at hu
  rcases hu with rfl | rfl | rfl | rfl <;> rfl
theorem cx_info : (Try.prog.info? 26).map (fun i => (i.zero, i.size, i.bytes)) = some (some (.complex .f64 0 0), 1, 16) := by kernel_rfl
theorem one_syb (b : Int) : ∀ u ∈ syb b, u.oneCell' = true := by
  intro u hu
  simp [syb] at hu
  rcases hu with rfl | rfl | rfl | rfl <;> rfl
theorem reads4 (w : World) (T : TypeId) (b : Int) : Reads (w.alloc (.cells #[sx (b / 64), sx (b / 16), sx (b / 4), sx b] T)) (w.heap.size + 1) 1 (some ⟨w.heap.size, 0, none⟩) 4 (syb b) := by
  refine ⟨rfl, fun _ => ⟨_, rfl, by simp, fun j u hu => ?_⟩⟩
  have hj : j < 4 := by
    rcases Nat.lt_or_ge j 4 with h | h
    · exact h
    · rw [List.getElem?_eq_none (by simp [syb]; omega)] at hu; cases hu
  have hb := (Blk.new w T #[sx (b / 64), sx (b / 16), sx (b / 4), sx b]).cell j
  have : (⟨w.heap.size, 0, none⟩ : Addr).add j = ⟨w.heap.size, j, none⟩ := by unfold Addr.add; split <;> simp_all
  rw [this, hb, ← hu]
  simp [syb]
def IsLine (w : World) (s : ByteArray) (e : Ending) (w' : World) : Prop :=
  ∃ a c, e = .returned (.slice a (4 * s.size) c) ∧ w'.ownsRow w.heap.size 26 1 (.slice a (4 * s.size) c) (4 * s.size) (syms s.data.toList) ∧ Keeps [] w w'
def slen : Value → Nat
  | .slice _ n _ => n
  | _ => 0
structure Line (w wr : World) (s : ByteArray) (v : Value) (k : Nat) : Prop where
  own : wr.ownsRow w.heap.size 26 1 v (4 * k) (syms (s.data.toList.take k))
  k : Keeps [] w wr
theorem own_form {w : World} {base size n : Nat} {e : TypeId} {v : Value} {xs : List Value} (h : w.ownsRow base e size v n xs) : ∃ a c, v = .slice a n c := by
  rcases h.2 with ⟨rfl, rfl⟩ | ⟨g, cap, cur, rfl, _⟩
  · exact ⟨_, _, rfl⟩
  · exact ⟨_, _, rfl⟩
attribute [local irreducible] sz
attribute [local go_sem] run_store_float run_store_complex
set_option maxRecDepth 100000 in
theorem rline_any (s : ByteArray) (w : World) (hs : s.size ≤ 200) :
    Calls Try.prog 6 #[.string s] w (IsLine w s) := by
  obtain ⟨i0, hi0, hz0, hz1, hz2⟩ := info_parts cx_info
  have HI := Lib.hid (And.intro hi0 (And.intro hz0 (And.intro hz1 hz2)))
  clear hi0 hz0 hz1 hz2
  have h0 : Line w (w.alloc (.cells #[] 26)) s (.slice (some ⟨w.heap.size, 0, none⟩) 0 0) 0 := ⟨⟨by simp [syms], .inr ⟨w.heap.size, 0, #[], rfl, Nat.le_refl _, heap_alloc_new w _, Nat.le_refl _, by decide, rfl, by simp [syms]⟩⟩, (Keeps.refl _ _).alloc _⟩
  go_enter Try.func6, Try.ntmps6
  go_wp2
  go_loopw [3, 4] (fun v i wr => ∃ (k : Nat) (a : Option Addr) (c : Nat), k ≤ s.size ∧ i = .int .i64 k ∧ v = .slice a (4 * k) c ∧ Line w wr s (.slice a (4 * k) c) k) (fun _ i _ => s.size - (intOf i).toNat)
  case atStart => exact ⟨0, _, 0, by omega, rfl, rfl, h0⟩
  case round =>
    clear h0
    obtain ⟨k, a, c, hk, rfl, rfl, hw⟩ := hrel
    by_cases hlt : k < s.size
    · have hsn := take_snoc s k hlt
      have hb0 := bt_nonneg s k
      have hb1 := bt_le s k
      have HBE := Lib.hid (bt_get s k hlt)
      have hg := get_bt s
      have HSN := Lib.hid hsn
      have HW := Lib.hid hw
      clear hsn hw
      go_wp2_with fail
      refine (rsymbol_c _ _ (by omega) (by omega)).mono ?_
      rintro e w1 ⟨rfl, rfl⟩
      go_wp2_with fail
      refine (rsymbol_c _ _ (by omega) (by omega)).mono ?_
      rintro e w1 ⟨rfl, rfl⟩
      go_wp2_with fail
      refine (rsymbol_c _ _ (by omega) (by omega)).mono ?_
      rintro e w1 ⟨rfl, rfl⟩
      go_wp2_with fail
      refine (rsymbol_c _ _ (by omega) (by omega)).mono ?_
      rintro e w1 ⟨rfl, rfl⟩
      have hown1 := HW.out.own
      have hown2 := hown1.alloc (.cells #[sx (bt s k / 64), sx (bt s k / 16), sx (bt s k / 4), sx (bt s k)] 26)
      have hrd := reads4 wr 26 (bt s k)
      have hz : w.heap.size ≤ wr.heap.size := HW.out.k.size
      have HXS : Hid (syms (s.data.toList.take (k + 1)) = syms (s.data.toList.take k) ++ syb (bt s k)) := Lib.hid (by rw [HSN.out, syms_snoc, HBE.out]; rfl)
      clear hown1
      go_wp2_with (at_builtin; refine wpList_append_any _ rfl (.tmp 17) (.tmp 29) _ rfl w.heap.size 26 i0 _ 1 16 Try.underlying23 HI.out.1 HI.out.2.1 HI.out.2.2.1 HI.out.2.2.2 rfl (by decide) (.slice a (4 * k) c) (4 * k) _ rfl hown2 _ _ 4 4 (syb (bt s k)) rfl hrd (one_syb _) (by simp only [maxLen]; omega) (by omega) (by simp; omega) ?_; intro v2 w2 hown3 hg3 hat3; obtain ⟨a2, c2, hv2⟩ := own_form hown3; subst hv2; rw [← HXS.out] at hown3)
      have hlt2 : ∀ b, (Value.slice a (4 * k) c).ownBlock = some b → w.heap.size ≤ b := fun b hb => (hown2.lt b hb).1
      have HN : Hid (Line w w2 s (.slice a2 (4 * (k + 1)) c2) (k + 1)) := Lib.hid ⟨hown3, HW.out.k.next (((Keeps.refl _ wr).alloc _).grown hg3 (fun b hb => .inl (by rw [hb]; simp : b ∈ (Value.slice a (4 * k) c).ownBlock.toList))) (fun b hb => .inr (hlt2 b (by simpa using hb)))⟩
      clear hown3 hg3 hat3 hlt2 hown2 hrd
      go_roundw
      case rel => exact ⟨k + 1, a2, c2, by omega, by go_num, rfl, HN.out⟩
      case measure => simp [intOf]; omega
    · obtain rfl : k = s.size := by omega
      have HW := Lib.hid hw
      clear hw
      go_wp2
      go_ret
      refine ⟨_, _, rfl, ?_, HW.out.k⟩
      have := HW.out.own
      rwa [List.take_of_length_le (by simp)] at this
set_option maxRecDepth 100000 in
theorem line_any (s : ByteArray) (w : World) (hs : s.size ≤ 200) :
    Calls Try.prog 5 #[.string s] w (IsLine w s) := by
  obtain ⟨i0, hi0, hz0, hz1, hz2⟩ := info_parts cx_info
  have HI := Lib.hid (And.intro hi0 (And.intro hz0 (And.intro hz1 hz2)))
  clear hi0 hz0 hz1 hz2
  have h0 : Line w w s (.slice none 0 0) 0 := ⟨⟨by simp [syms], .inl ⟨rfl, rfl⟩⟩, Keeps.refl _ _⟩
  go_enter Try.func5, Try.ntmps5
  go_wp2
  go_loopw [3, 8] (fun v i wr => ∃ (k : Nat) (a : Option Addr) (c : Nat), k ≤ s.size ∧ i = .int .i64 k ∧ v = .slice a (4 * k) c ∧ Line w wr s (.slice a (4 * k) c) k) (fun _ i _ => s.size - (intOf i).toNat)
  case atStart => exact ⟨0, none, 0, by omega, rfl, rfl, h0⟩
  case round =>
    clear h0
    obtain ⟨k, a, c, hk, rfl, rfl, hw⟩ := hrel
    by_cases hlt : k < s.size
    · have hsn := take_snoc s k hlt
      have hb0 := bt_nonneg s k
      have hb1 := bt_le s k
      have HBE := Lib.hid (bt_get s k hlt)
      have hg := get_bt s
      have HSN := Lib.hid hsn
      have HW := Lib.hid hw
      clear hsn hw
      go_wp2_with fail
      refine (tones_any _ _ hb0 hb1).mono ?_
      rintro e w1 ⟨rfl, k1⟩
      have hown1 := ownsRow_keeps HW.out.own k1 (by simp)
      have hown2 := hown1.alloc (.cells #[sx (bt s k / 64), sx (bt s k / 16), sx (bt s k / 4), sx (bt s k)] 31)
      have hrd := reads4 w1 31 (bt s k)
      have hz : w.heap.size ≤ w1.heap.size := (HW.out.k.trans k1).size
      have HK1 := Lib.hid (HW.out.k.trans k1)
      have HXS : Hid (syms (s.data.toList.take (k + 1)) = syms (s.data.toList.take k) ++ syb (bt s k)) := Lib.hid (by rw [HSN.out, syms_snoc, HBE.out]; rfl)
      clear hown1 k1
      go_wp2_with (at_builtin; refine wpList_append_any _ rfl (.tmp 16) (.tmp 17) _ rfl w.heap.size 26 i0 _ 1 16 Try.underlying23 HI.out.1 HI.out.2.1 HI.out.2.2.1 HI.out.2.2.2 rfl (by decide) (.slice a (4 * k) c) (4 * k) _ rfl hown2 _ _ 4 4 (syb (bt s k)) rfl hrd (one_syb _) (by simp only [maxLen]; omega) (by omega) (by simp; omega) ?_; intro v2 w2 hown3 hg3 hat3; obtain ⟨a2, c2, hv2⟩ := own_form hown3; subst hv2; rw [← HXS.out] at hown3)
      have hlt2 : ∀ b, (Value.slice a (4 * k) c).ownBlock = some b → w.heap.size ≤ b := fun b hb => (hown2.lt b hb).1
      have HN : Hid (Line w w2 s (.slice a2 (4 * (k + 1)) c2) (k + 1)) := Lib.hid ⟨hown3, HK1.out.next (((Keeps.refl _ w1).alloc _).grown hg3 (fun b hb => .inl (by rw [hb]; simp : b ∈ (Value.slice a (4 * k) c).ownBlock.toList))) (fun b hb => .inr (hlt2 b (by simpa using hb)))⟩
      clear hown3 hg3 hat3 hlt2 hown2 hrd
      go_roundw
      case rel => exact ⟨k + 1, a2, c2, by omega, by go_num, rfl, HN.out⟩
      case measure => simp [intOf]; omega
    · obtain rfl : k = s.size := by omega
      have HW := Lib.hid hw
      clear hw
      go_wp2
      go_ret
      refine ⟨_, _, rfl, ?_, HW.out.k⟩
      have := HW.out.own
      rwa [List.take_of_length_le (by simp)] at this
end To
end Go.Proofs.Ytdmgglcadjhnhaa
