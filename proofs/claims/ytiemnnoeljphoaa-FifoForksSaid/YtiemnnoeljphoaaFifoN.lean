/- A fork of a queue; what a nil queue answers. -/
import Derived.Test.YtiemnnoeljphoaaFifoG
namespace Go.Proofs.Ytiemnnoeljphoaa
open Go.RowKit
namespace FiS
open Sm FiR
def room_l (len : Nat) (R : Nat → ByteArray) : List ByteArray := (List.range len).map R
theorem room_at (len : Nat) (R : Nat → ByteArray) (i : Nat) (h : i < len) : (room_l len R)[i]? = some (R i) := by simp [room_l, h]
theorem room_reads {w : World} {r len : Nat} {R : Nat → ByteArray} (h : Room w r len R) : Reads w w.heap.size 1 (some ⟨r, 0, none⟩) len (strs (room_l len R)) := by
  refine ⟨by simp [strs, room_l], fun _ => ⟨_, rfl, h.lt, fun j u hu => ?_⟩⟩
  have hj : j < len := by
    have := (List.getElem?_eq_some_iff.1 hu).1
    simpa [strs, room_l] using this
  have e1 : u = val (R j) := by
    simp only [strs, List.getElem?_map, room_at len R j hj, Option.map_some, Option.some.injEq] at hu
    exact hu.symm
  have e2 : (⟨r, 0, none⟩ : Addr).add j = ⟨r, j, none⟩ := by unfold Addr.add; by_cases h0 : j = 0 <;> simp [h0]
  rw [e2, h.at_ j hj, e1]
theorem own_room {w : World} {B len c : Nat} {p : Option Addr} {R : Nat → ByteArray} (h : w.ownsRow B 9 1 (.slice p len c) len (strs (room_l len R))) (hl : 0 < len) : ∃ b, p = some ⟨b, 0, none⟩ ∧ B ≤ b ∧ Room w b len R := by
  obtain ⟨b, cap, hv, hb, hlt⟩ := h.form hl
  injection hv with e1
  subst e1
  refine ⟨b, rfl, hb, fun i hi => ?_, fun i hi => h.frozenAt _, hlt⟩
  rw [h.cellAt i (by omega), strs, List.getElem?_map, room_at len R i hi]
  rfl
def IsClone (len : Nat) (R : Nat → ByteArray) (w : World) (e : Ending) (w' : World) : Prop :=
  ∃ b c, e = .returned (.slice (some ⟨b, 0, none⟩) len c) ∧ Room w' b len R ∧ Keeps [] w w' ∧ w.heap.size ≤ b
theorem nil_eq (n c : Nat) (w : World) : (binOp .eql 28 (.slice none n c) (.slice none 0 0)).run Try.prog w = .ok (.bool true) w := by kernel_rfl
theorem nil_ne (a : Addr) (n c : Nat) (w : World) : (binOp .eql 28 (.slice (some a) n c) (.slice none 0 0)).run Try.prog w = .ok (.bool false) w := by kernel_rfl
theorem clone_nil (n c : Nat) (w : World) : Calls Try.prog 30 #[.slice none n c] w fun e w' => e = .returned (.slice none 0 0) ∧ w = w' := by
  have hne := nil_eq
  go_enter Try.func30, Try.ntmps30
  go_wp2
  go_ret
  exact ⟨rfl, rfl⟩
set_option maxRecDepth 100000 in
set_option maxHeartbeats 1000000 in
theorem clone_room (r len c : Nat) (R : Nat → ByteArray) (w : World) (h : Room w r len R) (hl : 0 < len) (hm : len ≤ 65536) :
    Calls Try.prog 30 #[.slice (some ⟨r, 0, none⟩) len c] w (IsClone len R w) := by
  obtain ⟨i0, hi0, hz0, hz1, hz2⟩ := info_parts str_info
  have HI := Lib.hid (And.intro hi0 (And.intro hz0 (And.intro hz1 hz2)))
  clear hi0 hz0 hz1 hz2
  have HR := Lib.hid (room_reads h)
  clear h
  have hown0 := own_empty w w.heap.size (Nat.le_refl _) 9 1
  have hrd0 := HR.out.alloc (Nat.le_refl _) (.cells #[] 9)
  have hk0 : Keeps [] w (w.alloc (.cells #[] 9)) := (Keeps.refl _ _).alloc _
  have hne := nil_ne
  go_enter Try.func30, Try.ntmps30
  go_wp2_with (at_builtin; refine wpList_append_any _ rfl (.tmp 5) (.tmp 6) _ rfl w.heap.size 9 i0 _ 1 16 Try.underlying28 HI.out.1 HI.out.2.1 HI.out.2.2.1 HI.out.2.2.2 rfl (by decide) (.slice (some ⟨w.heap.size, 0, none⟩) 0 0) 0 _ rfl hown0 _ _ len c _ rfl hrd0 (one_strs _) (by simp only [maxLen]; omega) (by omega) (by simp) ?_; intro v2 w2 hown2 hg2 hat2; obtain ⟨p2, c2, hv2⟩ := own_form hown2; subst hv2; rw [Nat.zero_add, List.nil_append] at hown2; have hk2 := hk0.grown hg2 (fun b hb => .inr (by have := (hown0.lt b hb).1; exact this)))
  go_ret
  obtain ⟨b, rfl, hb, hroom⟩ := own_room hown2 hl
  exact ⟨b, c2, rfl, hroom, hk2, hb⟩
def IsFork (l : List ByteArray) (lim dr : Int) (w : World) (e : Ending) (w' : World) : Prop :=
  e = .returned (.pointer (some ⟨w.heap.size, 0, none⟩)) ∧ ∃ r, Qu w' w.heap.size r l lim dr ∧ Keeps [] w w' ∧ w.heap.size ≤ r
theorem fork_nil (w : World) : Calls Try.prog 17 #[.pointer none] w fun e w' => e = .returned (.pointer none) ∧ w = w' := by
  go_enter Try.func17, Try.ntmps17
  go_wp2
  go_ret
  exact ⟨rfl, rfl⟩
theorem take_nil (n : Int) (hn : 0 < n) (w : World) : Calls Try.prog 8 #[.pointer none, .int .i64 n] w fun e w' => e = .returned (.slice none 0 0) ∧ w = w' := by
  go_enter Try.func8, Try.ntmps8
  go_wp2
  go_loopw [5] (fun v wr => v = .slice none 0 0 ∧ w = wr) (fun v _ => 0)
  case atStart => exact ⟨rfl, rfl⟩
  case round =>
    obtain ⟨rfl, rfl⟩ := hrel
    go_wp2_with fail
    refine (pop_nil _).mono ?_
    rintro e w1 ⟨rfl, rfl⟩
    go_wp2
    go_ret
    exact ⟨rfl, rfl⟩
set_option maxRecDepth 100000 in
set_option maxHeartbeats 1000000 in
theorem fork_any (g r : Nat) (l : List ByteArray) (lim dr : Int) (w : World) (h : Qu w g r l lim dr) :
    Calls Try.prog 17 #[.pointer (some ⟨g, 0, none⟩)] w (IsFork l lim dr w) := by
  obtain ⟨A, len, c, f, R, h1, h2, h3, h4, h5, h6, h7⟩ := h
  obtain ⟨c0, c1, c2, c3, c4, cf⟩ := h1.cells
  have hgl := h1.q.lt
  have hf := h1.hf
  have hn := h1.hn
  have hlen := h1.hlen
  have hroom := h1.room
  have HB := Lib.hid (Blk.new w 46 #[.slice A len c, .int .i64 (f : Int), .int .i64 (l.length : Int), .int .i64 lim, .int .i64 dr])
  have hk0 : Keeps [] w (w.alloc (.cells #[.slice A len c, .int .i64 (f : Int), .int .i64 (l.length : Int), .int .i64 lim, .int .i64 dr] 46)) := (Keeps.refl _ _).alloc _
  have H2 := Lib.hid h2
  clear h1 h2
  rcases hroom with ⟨hl0, rfl, _⟩ | ⟨hl0, rfl, _, hrm⟩
  · subst hl0
    have hl1 : l.length = 0 := by omega
    have hl2 : l = [] := List.eq_nil_of_length_eq_zero hl1
    subst hl2
    go_enter Try.func17, Try.ntmps17
    go_wp2_with fail
    refine (clone_nil 0 c _).mono ?_
    rintro e w1 ⟨rfl, rfl⟩
    go_wp2
    go_ret
    refine ⟨rfl, w.heap.size, ⟨none, 0, 0, f, R, ⟨Blk.new _ _ _, .inl ⟨rfl, rfl, rfl⟩, by simpa using hf, hn, hlen⟩, H2.out, h3, h4, h5, h6, h7⟩, (Keeps.refl _ _).alloc _, Nat.le_refl _⟩
  · have HR := Lib.hid hrm
    clear hrm
    go_enter Try.func17, Try.ntmps17
    go_wp2_with fail
    refine (clone_room r len c R _ ((HR.out).keeps hk0 (by simp)) hl0 hlen).mono ?_
    rintro e w1 ⟨b, c2, rfl, hr2, hk2, hb⟩
    have hb1 := HB.out.keeps hk2 (by simp)
    have hbc := hb1.cell 0
    have hbf := hb1.frozen
    have hsz : w.heap.size < b := by simp at hb; omega
    clear HB
    go_wp2
    go_ret
    refine ⟨rfl, b, ⟨some ⟨b, 0, none⟩, len, c2, f, R, ⟨hb1.set_ 0 (.slice (some ⟨b, 0, none⟩) len c2), .inr ⟨hl0, rfl, by omega, hr2.keeps ((Keeps.refl [w.heap.size] w1).setCell (p := ⟨w.heap.size, 0, none⟩) (by simp) _) (by simp; omega)⟩, hf, hn, hlen⟩, H2.out, h3, h4, h5, h6, h7⟩, (hk0.next hk2 (by simp)).setCell (p := ⟨w.heap.size, 0, none⟩) (.inr (Nat.le_refl _)) _, by omega⟩
end FiS
end Go.Proofs.Ytiemnnoeljphoaa
