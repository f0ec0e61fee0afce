/- Queues of campanile/frame.Frame: a fork. -/
import Derived.Test.YtdbkgpnbmafpmaaQrFD
import Derived.Test.YtdbkgpnbmafpmaaApp
namespace Go.Proofs.Ytdbkgpnbmafpmaa
open Go.RowKit
namespace FiF
open Sm
def flt (l : List It) : List Value := l.flatMap cs
theorem flt_len (l : List It) : (flt l).length = l.length * 3 := by
  induction l with
  | nil => rfl
  | cons x t ih => simp only [flt, List.flatMap_cons, List.length_append, cs_len, List.length_cons] at ih ⊢; omega
theorem flt_all (l : List It) : ∀ u ∈ flt l, u.oneCell' = true := by
  intro u hu
  simp only [flt, List.mem_flatMap] at hu
  obtain ⟨x, _, hx⟩ := hu
  exact cs_all x u hx
theorem flt_get (l : List It) : ∀ (i : Nat) (x : It), l[i]? = some x → ∀ j, j < 3 → (flt l)[i * 3 + j]? = (cs x)[j]? := by
  induction l with
  | nil => intro i x h; simp at h
  | cons y t ih =>
    intro i x h j hj
    have e : flt (y :: t) = cs y ++ flt t := by simp [flt]
    rw [e]
    rcases i with _ | i
    · simp at h
      subst h
      rw [Nat.zero_mul, Nat.zero_add, List.getElem?_append_left (by rw [cs_len]; exact hj)]
    · simp at h
      rw [List.getElem?_append_right (by rw [cs_len]; omega), cs_len]
      rw [show (i + 1) * 3 + j - 3 = i * 3 + j from by omega]
      exact ih i x h j hj
def room_l (len : Nat) (R : Nat → It) : List It := (List.range len).map R
theorem room_at (len : Nat) (R : Nat → It) (i : Nat) (h : i < len) : (room_l len R)[i]? = some (R i) := by simp [room_l, h]
theorem room_len (len : Nat) (R : Nat → It) : (room_l len R).length = len := by simp [room_l]
theorem room_reads {w : World} {r len : Nat} {R : Nat → It} (h : Room w r len R) : Reads w w.heap.size 3 (some ⟨r, 0, none⟩) len (flt (room_l len R)) := by
  refine ⟨by rw [flt_len, room_len], fun _ => ⟨_, rfl, h.lt, fun j u hu => ?_⟩⟩
  have hj : j < len * 3 := by
    have := (List.getElem?_eq_some_iff.1 hu).1
    rwa [flt_len, room_len] at this
  have hi : j / 3 < len := by omega
  have hm : j % 3 < 3 := Nat.mod_lt _ (by decide)
  have hd : j / 3 * 3 + j % 3 = j := by omega
  have h1 := flt_get (room_l len R) (j / 3) _ (room_at len R _ hi) (j % 3) hm
  rw [hd, hu] at h1
  have e2 : (⟨r, 0, none⟩ : Addr).add j = ⟨r, j, none⟩ := by unfold Addr.add; by_cases h0 : j = 0 <;> simp [h0]
  rw [e2]
  have := h.at_ (j / 3) hi (j % 3) u h1.symm
  rwa [hd] at this
theorem own_room {w : World} {B len c : Nat} {p : Option Addr} {R : Nat → It} (h : w.ownsRow B 39 3 (.slice p len c) len (flt (room_l len R))) (hl : 0 < len) : ∃ b, p = some ⟨b, 0, none⟩ ∧ B ≤ b ∧ Room w b len R := by
  obtain ⟨b, cap, hv, hb, hlt⟩ := h.form hl
  injection hv with e1
  subst e1
  refine ⟨b, rfl, hb, fun i hi j v hv => ?_, fun i hi j hj => h.frozenAt _, hlt⟩
  have hj : j < 3 := by have := (List.getElem?_eq_some_iff.1 hv).1; rwa [cs_len] at this
  rw [h.cellAt (i * 3 + j) (by have : (i + 1) * 3 ≤ len * 3 := Nat.mul_le_mul_right _ hi; omega), flt_get _ i _ (room_at len R i hi) j hj]
  exact hv
theorem own_emptyF (w : World) (base : Nat) (hb : base ≤ w.heap.size) (e : TypeId) (size : Nat) : (w.alloc (.cells #[] e)).ownsRow base e size (.slice (some ⟨w.heap.size, 0, none⟩) 0 0) 0 [] := by
  refine ⟨by simp, .inr ⟨w.heap.size, 0, #[], rfl, hb, heap_alloc_new w _, Nat.le_refl _, by decide, by simp, by simp⟩⟩
theorem own_formF {w : World} {base size n : Nat} {e : TypeId} {v : Value} {xs : List Value} (h : w.ownsRow base e size v n xs) : ∃ a c, v = .slice a n c := by
  rcases h.2 with ⟨rfl, rfl⟩ | ⟨g, cap, cur, rfl, _⟩
  · exact ⟨_, _, rfl⟩
  · exact ⟨_, _, rfl⟩
def IsClone (len : Nat) (R : Nat → It) (w : World) (e : Ending) (w' : World) : Prop :=
  ∃ b c, e = .returned (.slice (some ⟨b, 0, none⟩) len c) ∧ Room w' b len R ∧ Keeps [] w w' ∧ w.heap.size ≤ b
theorem nil_eq (n c : Nat) (w : World) : (binOp .eql 91 (.slice none n c) (.slice none 0 0)).run Try.prog w = .ok (.bool true) w := by kernel_rfl
theorem nil_ne (a : Addr) (n c : Nat) (w : World) : (binOp .eql 91 (.slice (some a) n c) (.slice none 0 0)).run Try.prog w = .ok (.bool false) w := by kernel_rfl
theorem clone_nil (n c : Nat) (w : World) : Calls Try.prog 54 #[.slice none n c] w fun e w' => e = .returned (.slice none 0 0) ∧ w = w' := by
  have hne := nil_eq
  go_enter Try.func54, Try.ntmps54
  go_wp2
  go_ret
  exact ⟨rfl, rfl⟩
attribute [local irreducible] cs
set_option maxRecDepth 100000 in
set_option maxHeartbeats 1000000 in
theorem clone_room (r len c : Nat) (R : Nat → It) (w : World) (h : Room w r len R) (hl : 0 < len) (hm : len ≤ 65536) :
    Calls Try.prog 54 #[.slice (some ⟨r, 0, none⟩) len c] w (IsClone len R w) := by
  obtain ⟨i0, hi0, hz0, hz1, hz2⟩ := info_parts elem_all
  have HI := Lib.hid (And.intro hi0 (And.intro hz0 (And.intro hz1 hz2)))
  clear hi0 hz0 hz1 hz2
  have HR := Lib.hid (room_reads h)
  clear h
  have hown0 := own_emptyF w w.heap.size (Nat.le_refl _) 39 3
  have hrd0 := HR.out.alloc (Nat.le_refl _) (.cells #[] 39)
  have hk0 : Keeps [] w (w.alloc (.cells #[] 39)) := (Keeps.refl _ _).alloc _
  have hne := nil_ne
  go_enter Try.func54, Try.ntmps54
  go_wp2_with (at_builtin; refine wpList_append_any _ rfl (.tmp 5) (.tmp 6) _ rfl w.heap.size 39 i0 _ 3 32 Try.underlying91 HI.out.1 HI.out.2.1 HI.out.2.2.1 HI.out.2.2.2 rfl (by decide) (.slice (some ⟨w.heap.size, 0, none⟩) 0 0) 0 _ rfl hown0 _ _ len c _ rfl hrd0 (flt_all _) (by simp only [maxLen]; omega) (by omega) (by simp) ?_; intro v2 w2 hown2 hg2 hat2; obtain ⟨p2, c2, hv2⟩ := own_formF hown2; subst hv2; rw [Nat.zero_add, List.nil_append] at hown2; have hk2 := hk0.grown hg2 (fun b hb => .inr (by have := (hown0.lt b hb).1; exact this)))
  go_ret
  obtain ⟨b, rfl, hb, hroom⟩ := own_room hown2 hl
  exact ⟨b, c2, rfl, hroom, hk2, hb⟩
def IsFork (l : List It) (lim dr : Int) (w : World) (e : Ending) (w' : World) : Prop :=
  e = .returned (.pointer (some ⟨w.heap.size, 0, none⟩)) ∧ ∃ r, Qu w' w.heap.size r l lim dr ∧ Keeps [] w w' ∧ w.heap.size ≤ r
theorem fork_nil (w : World) : Calls Try.prog 38 #[.pointer none] w fun e w' => e = .returned (.pointer none) ∧ w = w' := by
  go_enter Try.func38, Try.ntmps38
  go_wp2
  go_ret
  exact ⟨rfl, rfl⟩
set_option maxRecDepth 100000 in
set_option maxHeartbeats 1000000 in
theorem fork_any (g r : Nat) (l : List It) (lim dr : Int) (w : World) (h : Qu w g r l lim dr) :
    Calls Try.prog 38 #[.pointer (some ⟨g, 0, none⟩)] w (IsFork l lim dr w) := by
  obtain ⟨A, len, c, f, R, h1, h2, h3, h4, h5, h6, h7⟩ := h
  obtain ⟨c0, c1, c2, c3, c4, cf⟩ := h1.cells
  have hgl := h1.q.lt
  have hf := h1.hf
  have hn := h1.hn
  have hlen := h1.hlen
  have hroom := h1.room
  have HB := Lib.hid (Blk.new w 93 #[.slice A len c, .int .i64 (f : Int), .int .i64 (l.length : Int), .int .i64 lim, .int .i64 dr])
  have hk0 : Keeps [] w (w.alloc (.cells #[.slice A len c, .int .i64 (f : Int), .int .i64 (l.length : Int), .int .i64 lim, .int .i64 dr] 93)) := (Keeps.refl _ _).alloc _
  have H2 := Lib.hid h2
  clear h1 h2
  rcases hroom with ⟨hl0, rfl, _⟩ | ⟨hl0, rfl, _, hrm⟩
  · subst hl0
    have hl1 : l.length = 0 := by omega
    have hl2 : l = [] := List.eq_nil_of_length_eq_zero hl1
    subst hl2
    go_enter Try.func38, Try.ntmps38
    go_wp2_with fail
    refine (clone_nil 0 c _).mono ?_
    rintro e w1 ⟨rfl, rfl⟩
    go_wp2
    go_ret
    refine ⟨rfl, w.heap.size, ⟨none, 0, 0, f, R, ⟨Blk.new _ _ _, .inl ⟨rfl, rfl, rfl⟩, by simpa using hf, hn, hlen⟩, H2.out, h3, h4, h5, h6, h7⟩, (Keeps.refl _ _).alloc _, Nat.le_refl _⟩
  · have HR := Lib.hid hrm
    clear hrm
    go_enter Try.func38, Try.ntmps38
    go_wp2_with fail
    refine (clone_room r len c R _ ((HR.out).keeps hk0 (by simp)) hl0 hlen).mono ?_
    rintro e w1 ⟨b, c2, rfl, hr2, hk2, hb⟩
    have hb1 := HB.out.keeps hk2 (by simp)
    have hbc := hb1.cell 0
    have hbf := hb1.frozen
    have hsz : w.heap.size < b := by simp at hb; omega
    clear HB
    go_wp2
    go_ret
    refine ⟨rfl, b, ⟨some ⟨b, 0, none⟩, len, c2, f, R, ⟨hb1.set_ 0 (.slice (some ⟨b, 0, none⟩) len c2), .inr ⟨hl0, rfl, by omega, hr2.keeps ((Keeps.refl [w.heap.size] w1).setCell (p := ⟨w.heap.size, 0, none⟩) (by simp) _) (by simp; omega)⟩, hf, hn, hlen⟩, H2.out, h3, h4, h5, h6, h7⟩, (hk0.next hk2 (by simp)).setCell (p := ⟨w.heap.size, 0, none⟩) (.inr (Nat.le_refl _)) _, by omega⟩
end FiF
end Go.Proofs.Ytdbkgpnbmafpmaa
