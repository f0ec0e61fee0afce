/- What is wrong at the front is done; the first one; Finish; Post. -/
import Derived.Test.YtaepcedcjhliaaaQueB
namespace Go.Proofs.Ytaepcedcjhliaaa
open Go.RowKit
namespace Qp
open Sm FiT
def hdI (l : List It) : It := l.headD z
theorem bad6 {w : World} {p : Nat} {x : It} (h : Blk w p 30 (cs x).toArray) : w.cell? ⟨p, 6, none⟩ = some (.bool x.bad) := h.cell 6
attribute [local irreducible] cs
theorem peek_hd {g r : Nat} {l : List It} {lim dr : Int} (w : World) (h : Qu w g r l lim dr) :
    Calls Try.prog 23 #[.pointer (some ⟨g, 0, none⟩), .int .i64 0] w (IsV (.tuple #[val (hdI l), .bool (!l.isEmpty)]) w) := by
  rcases l with _ | ⟨x, t⟩
  · exact peek_out g r [] lim dr 0 w h (by simp)
  · exact peek_in g r (x :: t) lim dr 0 x w h rfl
def wrong (x : It) : Cl := ⟨x, 2, 0⟩
def setL (l : List It) : List It := l.dropWhile (·.bad)
def setB (l : List It) : List It := l.takeWhile (·.bad)
theorem set_end : ∀ (l : List It) (k : Nat), (∀ x ∈ l.take k, x.bad = true) → k ≤ l.length → ((hdI (l.drop k)).bad = false) → l.drop k = setL l ∧ l.take k = setB l := by
  intro l
  induction l with
  | nil => intro k _ _ _; exact ⟨by simp [setL], by simp [setB]⟩
  | cons x t ih =>
    intro k h hk hz
    rcases k with _ | k
    · have hx : x.bad = false := hz
      refine ⟨?_, ?_⟩
      · rw [List.drop_zero, setL, List.dropWhile_cons_of_neg (by simp [hx])]
      · rw [List.take_zero, setB, List.takeWhile_cons_of_neg (by simp [hx])]
    · have hx : x.bad = true := h x (by simp)
      obtain ⟨h1, h2⟩ := ih k (fun y hy => h y (by simp [hy])) (by simp at hk; omega) (by simpa using hz)
      refine ⟨?_, ?_⟩
      · rw [List.drop_succ_cons, h1, setL, setL, List.dropWhile_cons_of_pos (by simp [hx])]
      · rw [List.take_succ_cons, h2, setB, setB, List.takeWhile_cons_of_pos (by simp [hx])]
theorem set_more (l : List It) (k : Nat) (x : It) (t : List It) (h : l.drop k = x :: t) (hb : ∀ x ∈ l.take k, x.bad = true) (hx : x.bad = true) :
    l.drop (k + 1) = t ∧ l.take (k + 1) = l.take k ++ [x] ∧ (∀ x ∈ l.take (k + 1), x.bad = true) ∧ k + 1 ≤ l.length := by
  have hk : k < l.length := by
    have := congrArg List.length h
    simp at this
    omega
  have hg : l[k]? = some x := by
    have := congrArg (fun m => m[0]?) h
    simpa using this
  have ht : l.take (k + 1) = l.take k ++ [x] := by
    rw [List.take_add_one, hg]; rfl
  refine ⟨?_, ht, ?_, hk⟩
  · rw [← List.drop_drop, h]; rfl
  · intro y hy
    rw [ht, List.mem_append] at hy
    rcases hy with hy | hy
    · exact hb y hy
    · simp at hy; subst hy; exact hx
/-- What stands at the head of a round of Settle. -/
structure SetL (w wr : World) (q g r y : Nat) (l : List It) (dl : List Cl) (lim : Int) (k p r' y' : Nat) (a' : Option Addr) (c' : Nat) : Prop where
  bad : ∀ x ∈ l.take k, x.bad = true
  kl : k ≤ l.length
  qe : Qe wr q g r' y' a' c' (l.drop k) (dl ++ (l.take k).map wrong) lim
  kp : Keeps [q, g, r, y] w wr
  rn : r' = r ∨ w.heap.size ≤ r'
  yn : y' = y ∨ y' = q ∨ w.heap.size ≤ y'
  bp : Blk wr p 30 (cs (hdI (l.drop k))).toArray
  pn : w.heap.size ≤ p
  sp : p ≠ q ∧ p ≠ g ∧ p ≠ r' ∧ p ≠ y'
def Setl (w : World) (q g r y : Nat) (l : List It) (dl : List Cl) (lim : Int) (k p : Nat) (b : Bool) (wr : World) : Prop :=
  b = !(l.drop k).isEmpty ∧ ∃ r' y' a' c', SetL w wr q g r y l dl lim k p r' y' a' c'
theorem Setl.open_ {w wr : World} {q g r y k p : Nat} {l : List It} {dl : List Cl} {lim : Int} {b : Bool} (h : Setl w q g r y l dl lim k p b wr) : b = !(l.drop k).isEmpty ∧ ∃ r' y' a' c', SetL w wr q g r y l dl lim k p r' y' a' c' := h
theorem setl_mk {w wr : World} {q g r y k p r' y' c' : Nat} {l : List It} {dl : List Cl} {lim : Int} {a' : Option Addr} {b : Bool} (hb : b = !(l.drop k).isEmpty) (h : SetL w wr q g r y l dl lim k p r' y' a' c') : Setl w q g r y l dl lim k p b wr := ⟨hb, r', y', a', c', h⟩
def ptrOf : Value → Nat
  | .pointer (some a) => a.block
  | _ => 0
def IsSettle (q g r y : Nat) (l : List It) (dl : List Cl) (lim : Int) (w : World) (e : Ending) (w' : World) : Prop :=
  e = .returned (.int .i64 ((setB l).length : Int)) ∧ To q g r y (setL l) (dl ++ (setB l).map wrong) lim w w'
attribute [local irreducible] Setl
set_option maxRecDepth 100000 in
set_option maxHeartbeats 2000000 in
theorem settle_q {q g r y c : Nat} {a : Option Addr} {l : List It} {dl : List Cl} {lim : Int} (w : World) (h : Qe w q g r y a c l dl lim) :
    Calls Try.prog 8 #[.pointer (some ⟨q, 0, none⟩)] w (IsSettle q g r y l dl lim w) := by
  obtain ⟨l1, l2, l3, l4⟩ := h.lt
  have c0 : w.cell? ⟨q, 0, none⟩ = some (.pointer (some ⟨g, 0, none⟩)) := h.b.cell 0
  have HP := Lib.hid (peek_hd w h.f)
  have hll : l.length ≤ 16 := by have := h.hl; have := h.hm; omega
  have H := Lib.hid h
  clear h
  go_enter Try.func8, Try.ntmps8
  go_wp2_with fail
  refine HP.out.mono ?_
  clear HP
  rintro e v1 ⟨rfl, hk1⟩
  have hz1 := hk1.size
  go_wp2_with (refine wpList_store_blk rfl _ _ rfl v1.heap.size #[.int .i64 0, .int .u8 0, .int .u8 0, .int .i64 0, .int .i64 0, .int .i64 0, .bool false] (hdI l) rfl rfl (Blk.new v1 30 #[.int .i64 0, .int .u8 0, .int .u8 0, .int .i64 0, .int .i64 0, .int .i64 0, .bool false]) rfl ?_; intro v2 h4 hk4)
  have hk2 : Keeps [] w v2 := (hk1.alloc _).next hk4 (by simp; omega)
  have hS : Setl w q g r y l dl lim 0 v1.heap.size (!l.isEmpty) v2 := setl_mk (by rw [List.drop_zero]) ⟨by simp, by omega, by simpa using H.out.kp hk2, hk2.more (by simp), .inl rfl, .inl rfl, by simpa using h4, hz1, by omega⟩
  clear H c0 h4 hk4 hk2 hk1
  go_loopw [3, 4, 5] (fun n p b wr => ∃ (k pp : Nat) (bb : Bool), n = .int .i64 k ∧ k ≤ l.length ∧ p = .pointer (some ⟨pp, 0, none⟩) ∧ b = .bool bb ∧ Setl w q g r y l dl lim k pp bb wr) (fun n _ _ _ => l.length - (intOf n).toNat)
  case atStart => exact ⟨0, _, _, rfl, by omega, rfl, rfl, hS⟩
  case round =>
    clear hS
    obtain ⟨k, p, b, rfl, hkl, rfl, rfl, hS⟩ := hrel
    obtain ⟨rfl, r', y', a', c', hS⟩ := hS.open_
    have hkb : (k : Int) ≤ 16 := by omega
    have hp6 : wr.cell? ⟨p, 6, none⟩ = some (.bool (hdI (l.drop k)).bad) := bad6 hS.bp
    rcases hd : l.drop k with _ | ⟨x, t⟩
    · rw [hd] at hp6
      obtain ⟨e1, e2⟩ := set_end l k hS.bad hS.kl (by rw [hd]; rfl)
      have HS := Lib.hid hS
      clear hS
      simp only [List.isEmpty_nil, Bool.not_true]
      go_wp2
      go_ret
      have h1 := HS.out.qe
      rw [e1, e2] at h1
      refine ⟨?_, r', y', a', c', h1, HS.out.kp, HS.out.rn, HS.out.yn⟩
      rw [← e2, List.length_take, Nat.min_eq_left HS.out.kl]
      rfl
    · rw [hd] at hp6
      have hp6' : wr.cell? ⟨p, 6, none⟩ = some (.bool x.bad) := hp6
      clear hp6
      simp only [List.isEmpty_cons, Bool.not_false]
      rcases hb : x.bad with _ | _
      · rw [hb] at hp6'
        obtain ⟨e1, e2⟩ := set_end l k hS.bad hS.kl (by rw [hd]; exact hb)
        have HS := Lib.hid hS
        clear hS
        go_wp2
        go_ret
        have h1 := HS.out.qe
        rw [e1, e2] at h1
        refine ⟨?_, r', y', a', c', h1, HS.out.kp, HS.out.rn, HS.out.yn⟩
        rw [← e2, List.length_take, Nat.min_eq_left HS.out.kl]
        rfl
      · rw [hb] at hp6'
        obtain ⟨m1, m2, m3, m4⟩ := set_more l k x t hd hS.bad hb
        have hq := hS.qe
        rw [hd] at hq
        have hbp := hS.bp
        rw [hd] at hbp
        have hbp' : Blk wr p 30 (cs x).toArray := hbp
        have hlt := hq.lt
        have hz := hS.kp.size
        have HS := Lib.hid hS
        have HQ := Lib.hid hq
        clear hS hq hbp
        go_wp2_with fail
        refine (close_q 2 0 wr HQ.out).mono ?_
        rintro e v1 ⟨rfl, r2, y2, a2, c2, hq2, hk2, hr2, hy2⟩
        have hsp := HS.out.sp
        have hb2 := hbp'.keeps hk2 (by simp; omega)
        have hzz := hk2.size
        have hlt2 := hq2.lt
        have c0 : v1.cell? ⟨q, 0, none⟩ = some (.pointer (some ⟨g, 0, none⟩)) := hq2.b.cell 0
        clear hp6' hbp'
        go_wp2_with (first | (refine wpList_load_blk rfl _ rfl p x rfl hb2 ?_) | (refine wpList_store_blk rfl _ _ rfl v1.heap.size #[.int .i64 0, .int .u8 0, .int .u8 0, .int .i64 0, .int .i64 0, .int .i64 0, .bool false] x rfl rfl (Blk.new v1 30 #[.int .i64 0, .int .u8 0, .int .u8 0, .int .i64 0, .int .i64 0, .int .i64 0, .bool false]) rfl ?_; intro v2 h4 hk4; have hkv : Keeps [] v1 v2 := (((Keeps.refl [] v1).alloc _).next hk4 (by simp)); have c0' : v2.cell? ⟨q, 0, none⟩ = some (.pointer (some ⟨g, 0, none⟩)) := (hq2.kp hkv).b.cell 0))
        refine (peek_hd v2 (hq2.kp hkv).f).mono ?_
        rintro e v3 ⟨rfl, hk3⟩
        have h43 := h4.keeps hk3 (by simp)
        go_wp2_with (refine wpList_store_blk rfl _ _ rfl v1.heap.size _ (hdI t) rfl rfl h43 (by rw [List.size_toArray, cs_len]) ?_; intro v4 h5 hk5)
        have hk14 : Keeps [] v1 v4 := (hkv.trans hk3).next hk5 (by simp)
        have hS4 : Setl w q g r y l dl lim (k + 1) v1.heap.size (!t.isEmpty) v4 := by
          refine setl_mk (r' := r2) (y' := y2) (a' := a2) (c' := c2) (by rw [m1]) ⟨m3, m4, ?_, ?_, ?_, ?_, ?_, by omega, by omega⟩
          · rw [m1, m2, List.map_append, ← List.append_assoc]
            exact hq2.kp hk14
          · refine (HS.out.kp.next hk2 ?_).next hk14 (by simp)
            have h1 := HS.out.rn
            have h2 := HS.out.yn
            intro b hb
            simp only [List.mem_cons, List.not_mem_nil, or_false] at hb ⊢
            omega
          · have h1 := HS.out.rn
            omega
          · have h1 := HS.out.yn
            omega
          · rw [m1]
            exact h5
        clear h4 hk4 hkv c0' hk3 h43 h5 hk5 hk14 hb2 hq2 hk2 c0 HS HQ
        go_roundw
        case rel => exact ⟨k + 1, _, _, by go_num, m4, rfl, rfl, hS4⟩
        case measure => simp [intOf]; omega
theorem settle_nil (w : World) : Calls Try.prog 8 #[.pointer none] w fun e w' => e = .returned (.int .i64 0) ∧ w = w' := by
  go_enter Try.func8, Try.ntmps8
  go_wp2
  go_ret
  exact ⟨rfl, rfl⟩
end Qp
end Go.Proofs.Ytaepcedcjhliaaa
