/- Head, Finish, Post. -/
import Derived.Test.YtaepcedcjhliaaaQueC
namespace Go.Proofs.Ytaepcedcjhliaaa
open Go.RowKit
namespace Qp
open Sm FiT
def setD (l : List It) (dl : List Cl) : List Cl := dl ++ (setB l).map wrong
def IsHead (q g r y : Nat) (l : List It) (dl : List Cl) (lim : Int) (w : World) (e : Ending) (w' : World) : Prop :=
  e = .returned (.tuple #[val (hdI (setL l)), .bool (!(setL l).isEmpty)]) ∧ To q g r y (setL l) (setD l dl) lim w w'
theorem head_zero (w w' : World) (h : Blk w' w.heap.size 30 #[.int .i64 0, .int .u8 0, .int .u8 0, .int .i64 0, .int .i64 0, .int .i64 0, .bool false]) : (loadVar 30 ⟨w.heap.size, 0, none⟩).run Try.prog w' = .ok (val z) w' := load_blk z h
theorem val_z : (val z) = .agg #[.int .i64 0, .int .u8 0, .int .u8 0, .int .i64 0, .int .i64 0, .int .i64 0, .bool false] := rfl
theorem head_nil (w : World) : Calls Try.prog 9 #[.pointer none] w (IsV (.tuple #[val z, .bool false]) w) := by
  go_enter Try.func9, Try.ntmps9
  go_wp2
  refine bodyPost_ret (v := .tuple #[val z, .bool false]) (by simp [results, Try.results9, go_sem, cs, z]) rfl ?_
  exact ⟨rfl, (Keeps.refl _ _).alloc _⟩
attribute [local irreducible] cs
set_option maxRecDepth 100000 in
theorem head_q {q g r y c : Nat} {a : Option Addr} {l : List It} {dl : List Cl} {lim : Int} (w : World) (h : Qe w q g r y a c l dl lim) :
    Calls Try.prog 9 #[.pointer (some ⟨q, 0, none⟩)] w (IsHead q g r y l dl lim w) := by
  obtain ⟨l1, l2, l3, l4⟩ := h.lt
  have hk0 : Keeps [] w (w.alloc (.cells #[.int .i64 0, .int .u8 0, .int .u8 0, .int .i64 0, .int .i64 0, .int .i64 0, .bool false] 30)) := (Keeps.refl _ _).alloc _
  have HS := Lib.hid (settle_q _ (h.kp hk0))
  clear h
  go_enter Try.func9, Try.ntmps9
  go_wp2_with fail
  refine HS.out.mono ?_
  rintro e v1 ⟨rfl, hto⟩
  obtain ⟨r1, y1, a1, c1, hq1, hk1, hr1, hy1⟩ := hto
  have hz1 := hk1.size
  simp at hz1 hr1 hy1
  have hB := (Blk.new w 30 #[.int .i64 0, .int .u8 0, .int .u8 0, .int .i64 0, .int .i64 0, .int .i64 0, .bool false]).keeps hk1 (by simp; omega)
  have c0 : v1.cell? ⟨q, 0, none⟩ = some (.pointer (some ⟨g, 0, none⟩)) := hq1.b.cell 0
  clear HS
  go_wp2_with fail
  refine (peek_hd v1 hq1.f).mono ?_
  rintro e v2 ⟨rfl, hk2⟩
  have hB2 := hB.keeps hk2 (by simp)
  clear c0
  go_wp2_with (refine wpList_store_blk rfl _ _ rfl w.heap.size _ (hdI (setL l)) rfl rfl hB2 rfl ?_; intro v3 h3 hk3)
  refine bodyPost_ret (results_cell2 rfl _ _ _ rfl (load_blk _ h3)) rfl ?_
  have hk3' : Keeps [] v1 v3 ∨ True := .inr trivial
  have hq2 := hq1.kp hk2
  have hq3 := hq2.keeps hk3 (by simp; omega)
  refine ⟨rfl, r1, y1, a1, c1, hq3, (((hk0.more (by simp)).trans hk1).next hk2 (by simp)).next hk3 (by simp), by omega, by omega⟩
/-- What Finish answers: 0, or 9 where none waits. -/
def IsFinish (q g r y : Nat) (l : List It) (dl : List Cl) (lim : Int) (st n : Int) (w : World) (e : Ending) (w' : World) : Prop :=
  (setL l = [] ∧ e = .returned (.int .i64 9) ∧ To q g r y [] (setD l dl) lim w w') ∨
  (∃ x t, setL l = x :: t ∧ e = .returned (.int .i64 0) ∧ To q g r y t (setD l dl ++ [⟨x, st, n⟩]) lim w w')
theorem finish_nil (st n : Int) (w : World) : Calls Try.prog 10 #[.pointer none, .int .i64 st, .int .i64 n] w fun e w' => e = .returned (.int .i64 1) ∧ w = w' := by
  go_enter Try.func10, Try.ntmps10
  go_wp2
  go_ret
  exact ⟨rfl, rfl⟩
set_option maxRecDepth 100000 in
theorem finish_q {q g r y c : Nat} {a : Option Addr} {l : List It} {dl : List Cl} {lim : Int} (st n : Int) (w : World) (h : Qe w q g r y a c l dl lim) :
    Calls Try.prog 10 #[.pointer (some ⟨q, 0, none⟩), .int .i64 st, .int .i64 n] w (IsFinish q g r y l dl lim st n w) := by
  obtain ⟨l1, l2, l3, l4⟩ := h.lt
  have HS := Lib.hid (head_q _ h)
  clear h
  rcases hl : setL l with _ | ⟨x, t⟩
  all_goals
    go_enter Try.func10, Try.ntmps10
    go_wp2_with fail
    refine HS.out.mono ?_
    rintro e v1 ⟨rfl, hto⟩
    rw [hl] at hto ⊢
    obtain ⟨r1, y1, a1, c1, hq1, hk1, hr1, hy1⟩ := hto
    have hz1 := hk1.size
    clear HS
    simp only [List.isEmpty_nil, List.isEmpty_cons, Bool.not_true, Bool.not_false]
    go_wp2_with (refine wpList_store_blk rfl _ _ rfl v1.heap.size #[.int .i64 0, .int .u8 0, .int .u8 0, .int .i64 0, .int .i64 0, .int .i64 0, .bool false] (hdI _) rfl rfl (Blk.new v1 30 #[.int .i64 0, .int .u8 0, .int .u8 0, .int .i64 0, .int .i64 0, .int .i64 0, .bool false]) rfl ?_; intro v2 h4 hk4)
    have hk2 : Keeps [] v1 v2 := ((Keeps.refl [] v1).alloc _).next hk4 (by simp)
  · go_ret
    refine .inl ⟨hl, rfl, r1, y1, a1, c1, hq1.kp hk2, hk1.next hk2 (by simp), hr1, hy1⟩
  · refine (close_q st n v2 (hq1.kp hk2)).mono ?_
    rintro e v3 ⟨rfl, hto⟩
    go_wp2
    go_ret
    exact .inr ⟨x, t, hl, rfl, (hto.from hk2).then hk1 hr1 hy1⟩
/-- What Post answers: the row of all that is done, which is the queue's no more. -/
def IsPost (q g r y : Nat) (l : List It) (dl : List Cl) (lim : Int) (w : World) (e : Ending) (w' : World) : Prop :=
  ∃ (a : Option Addr) (c yy : Nat), e = .returned (.slice a (setD l dl).length c) ∧ Lst w' q yy a c (setD l dl) ∧ (yy = y ∨ yy = q ∨ w.heap.size ≤ yy) ∧ (∀ k, (Value.slice a (setD l dl).length c).ownBlock = some k → k ≠ q ∧ k ≠ g) ∧
    ∃ r', Qe w' q g r' q none 0 (setL l) [] lim ∧ Keeps [q, g, r, y] w w' ∧ (r' = r ∨ w.heap.size ≤ r') ∧ yy ≠ r' ∧ yy ≠ g
theorem post_nil (w : World) : Calls Try.prog 11 #[.pointer none] w fun e w' => e = .returned (.slice none 0 0) ∧ w = w' := by
  go_enter Try.func11, Try.ntmps11
  go_wp2
  go_ret
  exact ⟨rfl, rfl⟩
set_option maxRecDepth 100000 in
theorem post_q {q g r y c : Nat} {a : Option Addr} {l : List It} {dl : List Cl} {lim : Int} (w : World) (h : Qe w q g r y a c l dl lim) :
    Calls Try.prog 11 #[.pointer (some ⟨q, 0, none⟩)] w (IsPost q g r y l dl lim w) := by
  obtain ⟨l1, l2, l3, l4⟩ := h.lt
  have HS := Lib.hid (settle_q _ h)
  clear h
  go_enter Try.func11, Try.ntmps11
  go_wp2_with fail
  refine HS.out.mono ?_
  rintro e v1 ⟨rfl, hto⟩
  obtain ⟨r1, y1, a1, c1, hq1, hk1, hr1, hy1⟩ := hto
  have hz1 := hk1.size
  have e1 : v1.cell? ⟨q, 1, none⟩ = some (.slice a1 (dl ++ (setB l).map wrong).length c1) := hq1.b.cell 1
  have ef := hq1.b.frozen
  clear HS
  generalize hD : (dl ++ (setB l).map wrong) = D at *
  go_wp2
  go_ret
  have hD' : setD l dl = D := hD
  unfold IsPost
  rw [hD']
  have hne := own_blk_ne hq1.d.own hq1.b (by decide)
  have hks : Keeps [q] v1 (v1.setCell ⟨q, 1, none⟩ (.slice none 0 0)) := (Keeps.refl [q] v1).setCell (by simp) _
  have hqg := hq1.qg
  have hqr := hq1.qr
  have hyg := hq1.yg
  refine ⟨a1, c1, y1, rfl, ?_, hy1, ?_, r1, ⟨hq1.b.set_ 1 (.slice none 0 0), hq1.f.keeps hks (by simp; omega) (by simp; omega), .inl ⟨rfl, rfl, rfl, rfl⟩, hqg, hqr, hqg, hqr, ?_, hq1.hm⟩, ((hk1.more (by simp)).next hks (by simp)), hr1, hq1.yr, hyg⟩
  · rcases hq1.d with ⟨h1, h2, h3, h4⟩ | ⟨h1, h2⟩
    · exact .inl ⟨h1, h2, h3, h4⟩
    · exact .inr ⟨h1, ownsRow_setCell h2 _ _ hne⟩
  · intro k hk
    have := hq1.d.blk k hk
    subst this
    exact ⟨fun e => hne (by rw [hk, e]), hyg⟩
  · have := hq1.hl
    simp
    omega
end Qp
end Go.Proofs.Ytaepcedcjhliaaa
