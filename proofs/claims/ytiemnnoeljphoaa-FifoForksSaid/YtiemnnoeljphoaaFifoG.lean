/- The document's queue: a list, a limit, and how many were dropped. -/
import Derived.Test.YtiemnnoeljphoaaFifoE
import Derived.Deep.RegionLaw
namespace Go.Proofs.Ytiemnnoeljphoaa
open Go.RowKit
namespace FiR
open Sm FiS
theorem own_base {w : World} {B B' size n : Nat} {e : TypeId} {v : Value} {xs : List Value} (h : w.ownsRow B' e size v n xs) (hb : B ≤ B') : w.ownsRow B e size v n xs :=
  ⟨h.1, h.2.imp id fun ⟨g, cap, cur, h1, h2, h3⟩ => ⟨g, cap, cur, h1, Nat.le_trans hb h2, h3⟩⟩
theorem own_empty (w : World) (base : Nat) (hb : base ≤ w.heap.size) (e : TypeId) (size : Nat) : (w.alloc (.cells #[] e)).ownsRow base e size (.slice (some ⟨w.heap.size, 0, none⟩) 0 0) 0 [] := by
  refine ⟨by simp, .inr ⟨w.heap.size, 0, #[], rfl, hb, heap_alloc_new w _, Nat.le_refl _, by decide, by simp, by simp⟩⟩
/-- A list in memory: nil, or a row in block y. -/
def Lst (w : World) (x y : Nat) (a : Option Addr) (c : Nat) (l : List ByteArray) : Prop :=
  (a = none ∧ c = 0 ∧ l = [] ∧ y = x) ∨ (a = some ⟨y, 0, none⟩ ∧ w.ownsRow 0 9 1 (.slice a l.length c) l.length (strs l))
/-- The document's queue: its block x; its list's row in block y. -/
structure Rq (w : World) (x y : Nat) (l : List ByteArray) (lim dr : Int) (a : Option Addr) (c : Nat) : Prop where
  q : Blk w x 37 #[.slice a l.length c, .int .i64 lim, .int .i64 dr]
  row : Lst w x y a c l
  bd : 0 ≤ lim ∧ lim ≤ 65536 ∧ (l.length : Int) ≤ lim ∧ 0 ≤ dr ∧ dr ≤ 100000
theorem Lst.keeps {w w' : World} {x y c : Nat} {a : Option Addr} {l : List ByteArray} {S : List Nat} (h : Lst w x y a c l) (hk : Keeps S w w') (hy : y ∉ S) : Lst w' x y a c l := by
  rcases h with h | ⟨rfl, h⟩
  · exact .inl h
  · exact .inr ⟨rfl, ownsRow_keeps h hk (fun k e => by simp [Value.ownBlock] at e; subst e; exact hy)⟩
theorem Rq.keeps {w w' : World} {x y c : Nat} {a : Option Addr} {l : List ByteArray} {lim dr : Int} {S : List Nat} (h : Rq w x y l lim dr a c) (hk : Keeps S w w') (hx : x ∉ S) (hy : y ∉ S) : Rq w' x y l lim dr a c :=
  ⟨h.q.keeps hk hx, h.row.keeps hk hy, h.bd⟩
theorem Rq.len {w : World} {x y c : Nat} {a : Option Addr} {l : List ByteArray} {lim dr : Int} (h : Rq w x y l lim dr a c) : l.length ≤ 65536 := by
  have := h.bd; omega
theorem Lst.lt {w : World} {x y c : Nat} {a : Option Addr} {l : List ByteArray} (h : Lst w x y a c l) (hx : x < w.heap.size) : y < w.heap.size := by
  rcases h with ⟨_, _, _, rfl⟩ | ⟨rfl, h⟩
  · exact hx
  · exact (h.lt y rfl).2
theorem Lst.reads {w : World} {x y c : Nat} {a : Option Addr} {l : List ByteArray} (h : Lst w x y a c l) : Reads w w.heap.size 1 a l.length (strs l) := by
  rcases h with ⟨rfl, rfl, rfl, _⟩ | ⟨rfl, h⟩
  · exact Reads.none_
  · exact Reads.of_own h
theorem Lst.cap {w : World} {x y c : Nat} {a : Option Addr} {l : List ByteArray} (h : Lst w x y a c l) : l.length ≤ c ∧ c ≤ 9223372036854775807 := by
  rcases h with ⟨rfl, rfl, rfl, _⟩ | ⟨rfl, h⟩
  · simp
  · rcases h.2 with ⟨hv, _⟩ | ⟨g, cap, cur, hv, _, _, h1, h2, _⟩
    · cases hv
    · injection hv with e1 e2 e3
      subst e3
      unfold maxLen at h2
      omega
theorem strs_app (l r : List ByteArray) : strs (l ++ r) = strs l ++ strs r := by simp [strs]
theorem strs_len (l : List ByteArray) : (strs l).length = l.length := by simp [strs]
theorem lst_own {w : World} {x y B n c : Nat} {a : Option Addr} {l : List ByteArray} (h : w.ownsRow B 9 1 (.slice a n c) n (strs l)) (ha : (Value.slice a n c).ownBlock = some y) : a = some ⟨y, 0, none⟩ ∧ n = l.length ∧ Lst w x y a c l := by
  have hn : n = l.length := by have := h.1; rw [strs_len] at this; omega
  subst hn
  rcases h.2 with ⟨hv, h0⟩ | ⟨g, cap, cur, hv, _⟩
  · injection hv with e1; subst e1; simp [Value.ownBlock] at ha
  · injection hv with e1 e2 e3
    subst e1
    simp [Value.ownBlock] at ha
    subst ha
    exact ⟨rfl, rfl, .inr ⟨rfl, own_base h (Nat.zero_le _)⟩⟩
theorem len_bd (l : List ByteArray) (s : ByteArray) (lim dr : Int) (hf : (l.length : Int) < lim) (b1 : 0 ≤ lim) (b2 : lim ≤ 65536) (b4 : 0 ≤ dr) (b5 : dr ≤ 100000) : 0 ≤ lim ∧ lim ≤ 65536 ∧ ((l ++ [s]).length : Int) ≤ lim ∧ 0 ≤ dr ∧ dr ≤ 100000 := by
  rw [List.length_append]
  have : [s].length = 1 := rfl
  omega
theorem rnew_any (n : Int) (w : World) : Calls Try.prog 12 #[.int .i64 n] w fun e w' => e = .returned (.pointer (some ⟨w.heap.size, 0, none⟩)) ∧ Rq w' w.heap.size w.heap.size [] (FiS.lim16 n) 0 none 0 ∧ Keeps [] w w' := by
  have hr : ∀ lim : Int, 0 ≤ lim → lim ≤ 65536 → Rq (w.alloc (.cells #[.slice none 0 0, .int .i64 lim, .int .i64 0] 37)) w.heap.size w.heap.size [] lim 0 none 0 := fun lim h0 h1 => ⟨Blk.new _ _ _, .inl ⟨rfl, rfl, rfl, rfl⟩, by simp; omega⟩
  unfold FiS.lim16
  by_cases h0 : n < 0
  · rw [if_pos h0]
    have HR := Lib.hid (hr 0 (by decide) (by decide))
    clear hr
    go_enter Try.func12, Try.ntmps12
    go_wp2
    go_ret
    exact ⟨rfl, HR.out, (Keeps.refl _ _).alloc _⟩
  · rw [if_neg h0]
    by_cases h1 : 65536 < n
    · rw [if_pos h1]
      have HR := Lib.hid (hr 65536 (by decide) (by decide))
      clear hr
      go_enter Try.func12, Try.ntmps12
      go_wp2
      go_ret
      exact ⟨rfl, HR.out, (Keeps.refl _ _).alloc _⟩
    · rw [if_neg h1]
      have HR := Lib.hid (hr n (by omega) (by omega))
      clear hr
      go_enter Try.func12, Try.ntmps12
      go_wp2
      go_ret
      exact ⟨rfl, HR.out, (Keeps.refl _ _).alloc _⟩
def IsFull (x y : Nat) (l : List ByteArray) (lim dr : Int) (a : Option Addr) (c : Nat) (w : World) (e : Ending) (w' : World) : Prop := e = .returned (.bool false) ∧ Rq w' x y l lim (dr + 1) a c ∧ Keeps [x] w w'
theorem rpush_full (x y : Nat) (l : List ByteArray) (lim dr : Int) (a : Option Addr) (c : Nat) (s : ByteArray) (w : World) (h : Rq w x y l lim dr a c) (hf : lim ≤ (l.length : Int)) (hd : dr < 100000) (hy : y ≠ x ∨ y = x) :
    Calls Try.prog 26 #[.pointer (some ⟨x, 0, none⟩), .string s] w (IsFull x y l lim dr a c w) := by
  have c0 : w.cell? ⟨x, 0, none⟩ = some (.slice a l.length c) := h.q.cell 0
  have c1 : w.cell? ⟨x, 1, none⟩ = some (.int .i64 lim) := h.q.cell 1
  have c2 : w.cell? ⟨x, 2, none⟩ = some (.int .i64 dr) := h.q.cell 2
  have cf := h.q.frozen
  have HQ := Lib.hid h
  obtain ⟨b1, b2, b3, b4, b5⟩ := h.bd
  clear h
  go_enter Try.func26, Try.ntmps26
  go_wp2_with fail
  go_quiet (fail)
  go_wp2
  go_ret
  refine ⟨rfl, ⟨(HQ.out.q.drewN nq).set_ 2 (.int .i64 (dr + 1)), ?_, by omega⟩, ((Keeps.refl _ _).drewN nq).setCell (by simp) _⟩
  rcases HQ.out.row with hr | ⟨rfl, hr⟩
  · exact .inl hr
  · refine .inr ⟨rfl, ownsRow_setCell (ownsRow_keeps hr ((Keeps.refl [] w).drewN nq) (by simp)) _ _ ?_⟩
    exact own_blk_ne (ownsRow_keeps hr ((Keeps.refl [] w).drewN nq) (by simp)) (HQ.out.q.drewN nq) (by decide)
def IsIn (x : Nat) (l : List ByteArray) (lim dr : Int) (w : World) (e : Ending) (w' : World) : Prop := e = .returned (.bool true) ∧ ∃ y a c, Rq w' x y l lim dr a c ∧ Keeps [x] w w' ∧ w.heap.size ≤ y
set_option maxRecDepth 100000 in
set_option maxHeartbeats 1000000 in
theorem rpush_ok (x y : Nat) (l : List ByteArray) (lim dr : Int) (a : Option Addr) (c : Nat) (s : ByteArray) (w : World) (h : Rq w x y l lim dr a c) (hf : (l.length : Int) < lim) :
    Calls Try.prog 26 #[.pointer (some ⟨x, 0, none⟩), .string s] w (IsIn x (l ++ [s]) lim dr w) := by
  obtain ⟨i0, hi0, hz0, hz1, hz2⟩ := info_parts str_info
  have HI := Lib.hid (And.intro hi0 (And.intro hz0 (And.intro hz1 hz2)))
  clear hi0 hz0 hz1 hz2
  have c0 : w.cell? ⟨x, 0, none⟩ = some (.slice a l.length c) := h.q.cell 0
  have c1 : w.cell? ⟨x, 1, none⟩ = some (.int .i64 lim) := h.q.cell 1
  have hxl := h.q.lt
  have HQ := Lib.hid h
  obtain ⟨b1, b2, b3, b4, b5⟩ := h.bd
  have hdec : decide (lim ≤ (l.length : Int)) = false := by simp; omega
  clear h
  go_enter Try.func26, Try.ntmps26
  go_wp2_with fail
  go_quiet (fail)
  have HR := Lib.hid (HQ.out.row.reads)
  have hown0 := own_empty (w.drewN nq) w.heap.size (Nat.le_refl _) 9 1
  have hrd0 := (HR.out.drewN nq).alloc (Nat.le_refl _) (.cells #[] 9)
  have hk0 : Keeps [] w ((w.drewN nq).alloc (.cells #[] 9)) := ((Keeps.refl _ _).drewN nq).alloc _
  have hx0 := (HQ.out.q.drewN nq).alloc (.cells #[] 9)
  have hxc0 : ((w.drewN nq).alloc (.cells #[] 9)).cell? ⟨x, 0, none⟩ = some (.slice a l.length c) := hx0.cell 0
  go_wp2_with (first | (at_builtin; refine wpList_append_any _ rfl (.tmp 23) (.tmp 27) _ rfl w.heap.size 9 i0 _ 1 16 Try.underlying28 HI.out.1 HI.out.2.1 HI.out.2.2.1 HI.out.2.2.2 rfl (by decide) (.slice (some ⟨w.heap.size, 0, none⟩) 0 0) 0 _ rfl hown0 _ _ l.length c (strs l) rfl hrd0 (one_strs _) (by simp only [maxLen]; omega) (by omega) (by simp) ?_; intro v2 w2 hown2 hg2 hat2; obtain ⟨p2, c2, hv2⟩ := own_form hown2; subst hv2; rw [Nat.zero_add, List.nil_append] at hown2; have hk2 := hk0.grown hg2 (fun b hb => .inr (by have := (hown0.lt b hb).1; exact this)); have hx2 := hx0.grown hg2 (fun e => by have := (hown0.lt x e.symm).1; omega); have hown2a := hown2.alloc (.cells #[.string s] 9); have hrd2 := reads1 w2 s; have hx2a := hx2.alloc (.cells #[.string s] 9); have hk2a := hk2.alloc (.cells #[.string s] 9); have hz2 := hk2.size) | (at_builtin; refine wpList_append_any _ rfl (.tmp 28) (.tmp 30) _ rfl w.heap.size 9 i0 _ 1 16 Try.underlying28 HI.out.1 HI.out.2.1 HI.out.2.2.1 HI.out.2.2.2 rfl (by decide) (.slice p2 l.length c2) l.length _ rfl hown2a _ _ 1 1 (strs [s]) rfl hrd2 (one_strs _) (by simp only [maxLen]; omega) (by omega) (by simp; omega) ?_; intro v3 w3 hown3 hg3 hat3; obtain ⟨p3, c3, hv3⟩ := own_form hown3; subst hv3; have hx3 := hx2a.grown hg3 (fun e => by have := (hown2a.lt x e.symm).1; omega); have hk3 := hk2a.grown hg3 (fun b hb => .inr (by have := (hown2a.lt b hb).1; exact this)); have hxc : w3.cell? ⟨x, 0, none⟩ = some (.slice a l.length c) := hx3.cell 0; have hxf := hx3.frozen))
  go_ret
  refine ⟨rfl, ?_⟩
  have hlen : 0 < l.length + 1 := by omega
  obtain ⟨g, cap, hv, hge, hlt⟩ := hown3.form hlen
  have hv' := hv
  injection hv with e1 e2 e3
  subst e1
  rw [← strs_app] at hown3
  obtain ⟨_, _, hL⟩ := lst_own (x := x) hown3 rfl
  have hne : g ≠ x := by omega
  refine ⟨g, some ⟨g, 0, none⟩, c3, ⟨?_, ?_, len_bd l s lim dr hf b1 b2 b4 b5⟩, (hk3.more (by simp)).setCell (p := ⟨x, 0, none⟩) (by simp) _, hge⟩
  · have := hx3.set_ 0 (.slice (some ⟨g, 0, none⟩) (l.length + 1) c3)
    rw [List.length_append]
    exact this
  · exact hL.keeps ((Keeps.refl [x] w3).setCell (p := ⟨x, 0, none⟩) (by simp) _) (by simpa using hne)
def clamp (n : Int) (len : Nat) : Nat := if (len : Int) < n then len else if n < 0 then 0 else n.toNat
def IsTaken (x : Nat) (l : List ByteArray) (lim dr : Int) (k : Nat) (w : World) (e : Ending) (w' : World) : Prop :=
  ∃ p c y a c', e = .returned (.slice p k c) ∧ w'.ownsRow w.heap.size 9 1 (.slice p k c) k (strs (l.take k)) ∧ Rq w' x y (l.drop k) lim dr a c' ∧ Keeps [x] w w' ∧ w.heap.size ≤ y
theorem reads_take {w : World} {B n : Nat} {a : Option Addr} {l : List ByteArray} (h : Reads w B 1 a n (strs l)) (k : Nat) (hk : k ≤ n) : Reads w B 1 a k (strs (l.take k)) := by
  refine ⟨by have := h.1; rw [strs_len] at this ⊢; simp; omega, fun h0 => ?_⟩
  obtain ⟨ad, e, hb, hc⟩ := h.2 (by omega)
  refine ⟨ad, e, hb, fun j u hu => hc j u ?_⟩
  have hj : j < k := by
    have := (List.getElem?_eq_some_iff.1 hu).1
    rw [strs_len] at this
    simp at this
    omega
  rw [← hu, strs, strs, List.getElem?_map, List.getElem?_map, List.getElem?_take, if_pos hj]
theorem strs_drop (l : List ByteArray) (k : Nat) : (strs l).drop (k * 1) = strs (l.drop k) := by simp [strs]
theorem map_0 (a : Option Addr) : a.map (·.add 0) = a := by
  cases a <;> simp [Addr.add]
/-- A row of the call's own as a list in memory. -/
theorem lst_any {w : World} {x B n c : Nat} {a : Option Addr} {l : List ByteArray} (h : w.ownsRow B 9 1 (.slice a n c) n (strs l)) (hl : l.length = n) (ha : a ≠ none) : ∃ y, Lst w x y a c l ∧ B ≤ y ∧ y < w.heap.size := by
  subst hl
  rcases h.2 with ⟨hv, _⟩ | ⟨g, cap, cur, hv, hb, hh, _⟩
  · injection hv with e1
    exact absurd e1 ha
  · injection hv with e1 e2 e3
    subst e1
    refine ⟨g, .inr ⟨rfl, own_base h (Nat.zero_le _)⟩, hb, ?_⟩
    rcases Nat.lt_or_ge g w.heap.size with h1 | h1
    · exact h1
    · rw [Array.getElem?_eq_none h1] at hh; cases hh

set_option maxRecDepth 100000 in
set_option maxHeartbeats 1000000 in
theorem rtake_big (x y : Nat) (l : List ByteArray) (lim dr n : Int) (a : Option Addr) (c : Nat)  (w : World) (h : Rq w x y l lim dr a c) (hn : (l.length : Int) < n) :
    Calls Try.prog 27 #[.pointer (some ⟨x, 0, none⟩), .int .i64 n] w (IsTaken x l lim dr l.length w) := by
  obtain ⟨i0, hi0, hz0, hz1, hz2⟩ := info_parts str_info
  have HI := Lib.hid (And.intro hi0 (And.intro hz0 (And.intro hz1 hz2)))
  clear hi0 hz0 hz1 hz2
  have c0 : w.cell? ⟨x, 0, none⟩ = some (.slice a l.length c) := h.q.cell 0
  have hxl := h.q.lt
  have HQ := Lib.hid h
  obtain ⟨hlc, hcc⟩ := h.row.cap
  have hln := h.len
  have HR := Lib.hid h.row.reads
  have hkl : l.length ≤ l.length := by omega
  have hdn : True := trivial
  clear h
  by_cases hck : c = l.length
  · have hck2 : l.length = c := hck.symm
    subst hck2
    clear hck
    have hown0 := own_empty w w.heap.size (Nat.le_refl _) 9 1
    have hrd0 := (reads_take HR.out l.length hkl).alloc (Nat.le_refl _) (.cells #[] 9)
    have hk0 : Keeps [] w (w.alloc (.cells #[] 9)) := (Keeps.refl _ _).alloc _
    have hx0 := HQ.out.q.alloc (.cells #[] 9)
    have hxc0 : (w.alloc (.cells #[] 9)).cell? ⟨x, 0, none⟩ = some (.slice a l.length l.length) := hx0.cell 0
    go_enter Try.func27, Try.ntmps27
    go_wp2_with (first | (at_builtin; refine wpList_append_any _ rfl (.tmp 22) (.tmp 28) _ rfl w.heap.size 9 i0 _ 1 16 Try.underlying28 HI.out.1 HI.out.2.1 HI.out.2.2.1 HI.out.2.2.2 rfl (by decide) (.slice (some ⟨w.heap.size, 0, none⟩) 0 0) 0 _ rfl hown0 _ _ l.length l.length (strs (l.take l.length)) rfl hrd0 (one_strs _) (by simp only [maxLen]; omega) (by omega) (by simp) ?_; intro v2 w2 hown2 hg2 hat2; obtain ⟨p2, c2, hv2⟩ := own_form hown2; subst hv2; rw [Nat.zero_add, List.nil_append] at hown2; have hk2 := hk0.grown hg2 (fun b hb => .inr (by have := (hown0.lt b hb).1; exact this)); have hx2 := hx0.grown hg2 (fun e => by have := (hown0.lt x e.symm).1; omega); have hz2 := hk2.size; have HO2 := Lib.hid hown2; have hownb := own_empty w2 w.heap.size hz2 9 1; have hrd2 := ((HR.out.keep (fun q hq => hk2.cell hq (by simp))).cut (k := l.length) hkl hlc).alloc hz2 (.cells #[] 9); rw [strs_drop] at hrd2; have hrd3 : Reads (w2.alloc (.cells #[] 9)) w.heap.size 1 a 0 (strs (l.drop l.length)) := (by have h9 := hrd2; rw [if_pos rfl, show l.length - l.length = 0 from by omega] at h9; exact h9); have hx2a := hx2.alloc (.cells #[] 9); have hk2a := hk2.alloc (.cells #[] 9); have hxc2 : (w2.alloc (.cells #[] 9)).cell? ⟨x, 0, none⟩ = some (.slice a l.length l.length) := hx2a.cell 0) | (at_builtin; refine wpList_append_any _ rfl (.tmp 31) (.tmp 37) _ rfl w.heap.size 9 i0 _ 1 16 Try.underlying28 HI.out.1 HI.out.2.1 HI.out.2.2.1 HI.out.2.2.2 rfl (by decide) (.slice (some ⟨w2.heap.size, 0, none⟩) 0 0) 0 _ rfl hownb _ a 0 0 (strs (l.drop l.length)) rfl hrd3 (one_strs _) (by simp only [maxLen]; omega) (by omega) (by simp; omega) ?_; intro v3 w3 hown3 hg3 hat3; obtain ⟨p3, c3, hv3⟩ := own_form hown3; subst hv3; rw [Nat.zero_add, List.nil_append] at hown3; have hx3 := hx2a.grown hg3 (fun e => by have := (hownb.lt x e.symm).1; omega); have hk3 := hk2a.grown hg3 (fun b hb => .inr (by have := (hownb.lt b hb).1; exact this)); have hxc : w3.cell? ⟨x, 0, none⟩ = some (.slice a l.length l.length) := hx3.cell 0; have hxf := hx3.frozen))
    go_ret
    have hlen : (l.drop l.length).length = 0 := by simp only [List.length_drop]; try omega
    have hL := lst_any (x := x) hown3 hlen (by rcases hat3 with e | e <;> intro hn <;> subst hn <;> simp [Value.ownBlock] at e)
    obtain ⟨y, hL, hy, hyl⟩ := hL
    have hlt : (l.take l.length).length = l.length := by simp only [List.length_take]; try omega
    have hO := ownsRow_setCell (ownsRow_keeps HO2.out ((((Keeps.refl [w2.heap.size] w2).alloc (.cells #[] 9))).grown hg3 (fun b hb => .inl (by have := hb; simp [Value.ownBlock] at this; simp; omega))) (fun k hk => by have := (HO2.out.lt k hk).2; simp; omega)) ⟨x, 0, none⟩ (.slice p3 0 c3) (fun e => by have := (HO2.out.lt x e).1; omega)
    refine ⟨p2, c2, y, p3, c3, rfl, hO, ⟨?_, hL.keeps ((Keeps.refl [x] w3).setCell (p := ⟨x, 0, none⟩) (by simp) _) (by simp; omega), ?_⟩, (hk3.more (by simp)).setCell (p := ⟨x, 0, none⟩) (by simp) _, hy⟩
    · have := hx3.set_ 0 (.slice p3 0 c3)
      rw [hlen]
      exact this
    · have := HQ.out.bd
      rw [hlen]
      omega
  · skip
    have hown0 := own_empty w w.heap.size (Nat.le_refl _) 9 1
    have hrd0 := (reads_take HR.out l.length hkl).alloc (Nat.le_refl _) (.cells #[] 9)
    have hk0 : Keeps [] w (w.alloc (.cells #[] 9)) := (Keeps.refl _ _).alloc _
    have hx0 := HQ.out.q.alloc (.cells #[] 9)
    have hxc0 : (w.alloc (.cells #[] 9)).cell? ⟨x, 0, none⟩ = some (.slice a l.length c) := hx0.cell 0
    go_enter Try.func27, Try.ntmps27
    go_wp2_with (first | (at_builtin; refine wpList_append_any _ rfl (.tmp 22) (.tmp 28) _ rfl w.heap.size 9 i0 _ 1 16 Try.underlying28 HI.out.1 HI.out.2.1 HI.out.2.2.1 HI.out.2.2.2 rfl (by decide) (.slice (some ⟨w.heap.size, 0, none⟩) 0 0) 0 _ rfl hown0 _ _ l.length c (strs (l.take l.length)) rfl hrd0 (one_strs _) (by simp only [maxLen]; omega) (by omega) (by simp) ?_; intro v2 w2 hown2 hg2 hat2; obtain ⟨p2, c2, hv2⟩ := own_form hown2; subst hv2; rw [Nat.zero_add, List.nil_append] at hown2; have hk2 := hk0.grown hg2 (fun b hb => .inr (by have := (hown0.lt b hb).1; exact this)); have hx2 := hx0.grown hg2 (fun e => by have := (hown0.lt x e.symm).1; omega); have hz2 := hk2.size; have HO2 := Lib.hid hown2; have hownb := own_empty w2 w.heap.size hz2 9 1; have hrd2 := ((HR.out.keep (fun q hq => hk2.cell hq (by simp))).cut (k := l.length) hkl hlc).alloc hz2 (.cells #[] 9); rw [strs_drop] at hrd2; have hrd3 : Reads (w2.alloc (.cells #[] 9)) w.heap.size 1 (Option.map (fun x => x.add l.length) a) 0 (strs (l.drop l.length)) := (by have h9 := hrd2; rw [if_neg hck, Nat.sub_self, Nat.mul_one] at h9; exact h9); have hx2a := hx2.alloc (.cells #[] 9); have hk2a := hk2.alloc (.cells #[] 9); have hxc2 : (w2.alloc (.cells #[] 9)).cell? ⟨x, 0, none⟩ = some (.slice a l.length c) := hx2a.cell 0) | (at_builtin; refine wpList_append_any _ rfl (.tmp 31) (.tmp 37) _ rfl w.heap.size 9 i0 _ 1 16 Try.underlying28 HI.out.1 HI.out.2.1 HI.out.2.2.1 HI.out.2.2.2 rfl (by decide) (.slice (some ⟨w2.heap.size, 0, none⟩) 0 0) 0 _ rfl hownb _ (Option.map (fun x => x.add l.length) a) 0 (c - l.length) (strs (l.drop l.length)) rfl hrd3 (one_strs _) (by simp only [maxLen]; omega) (by omega) (by simp; omega) ?_; intro v3 w3 hown3 hg3 hat3; obtain ⟨p3, c3, hv3⟩ := own_form hown3; subst hv3; rw [Nat.zero_add, List.nil_append] at hown3; have hx3 := hx2a.grown hg3 (fun e => by have := (hownb.lt x e.symm).1; omega); have hk3 := hk2a.grown hg3 (fun b hb => .inr (by have := (hownb.lt b hb).1; exact this)); have hxc : w3.cell? ⟨x, 0, none⟩ = some (.slice a l.length c) := hx3.cell 0; have hxf := hx3.frozen))
    go_ret
    have hlen : (l.drop l.length).length = 0 := by simp only [List.length_drop]; try omega
    have hL := lst_any (x := x) hown3 hlen (by rcases hat3 with e | e <;> intro hn <;> subst hn <;> simp [Value.ownBlock] at e)
    obtain ⟨y, hL, hy, hyl⟩ := hL
    have hlt : (l.take l.length).length = l.length := by simp only [List.length_take]; try omega
    have hO := ownsRow_setCell (ownsRow_keeps HO2.out ((((Keeps.refl [w2.heap.size] w2).alloc (.cells #[] 9))).grown hg3 (fun b hb => .inl (by have := hb; simp [Value.ownBlock] at this; simp; omega))) (fun k hk => by have := (HO2.out.lt k hk).2; simp; omega)) ⟨x, 0, none⟩ (.slice p3 0 c3) (fun e => by have := (HO2.out.lt x e).1; omega)
    refine ⟨p2, c2, y, p3, c3, rfl, hO, ⟨?_, hL.keeps ((Keeps.refl [x] w3).setCell (p := ⟨x, 0, none⟩) (by simp) _) (by simp; omega), ?_⟩, (hk3.more (by simp)).setCell (p := ⟨x, 0, none⟩) (by simp) _, hy⟩
    · have := hx3.set_ 0 (.slice p3 0 c3)
      rw [hlen]
      exact this
    · have := HQ.out.bd
      rw [hlen]
      omega
set_option maxRecDepth 100000 in
set_option maxHeartbeats 1000000 in
theorem rtake_neg (x y : Nat) (l : List ByteArray) (lim dr n : Int) (a : Option Addr) (c : Nat)  (w : World) (h : Rq w x y l lim dr a c) (hn : n < 0) :
    Calls Try.prog 27 #[.pointer (some ⟨x, 0, none⟩), .int .i64 n] w (IsTaken x l lim dr 0 w) := by
  obtain ⟨i0, hi0, hz0, hz1, hz2⟩ := info_parts str_info
  have HI := Lib.hid (And.intro hi0 (And.intro hz0 (And.intro hz1 hz2)))
  clear hi0 hz0 hz1 hz2
  have c0 : w.cell? ⟨x, 0, none⟩ = some (.slice a l.length c) := h.q.cell 0
  have hxl := h.q.lt
  have HQ := Lib.hid h
  obtain ⟨hlc, hcc⟩ := h.row.cap
  have hln := h.len
  have HR := Lib.hid h.row.reads
  have hkl : 0 ≤ l.length := by omega
  have hdn : ¬ (l.length : Int) < n := by omega
  clear h
  by_cases hck : c = 0
  · have hck2 : 0 = c := hck.symm
    subst hck2
    clear hck
    have hown0 := own_empty w w.heap.size (Nat.le_refl _) 9 1
    have hrd0 := (reads_take HR.out 0 hkl).alloc (Nat.le_refl _) (.cells #[] 9)
    have hk0 : Keeps [] w (w.alloc (.cells #[] 9)) := (Keeps.refl _ _).alloc _
    have hx0 := HQ.out.q.alloc (.cells #[] 9)
    have hxc0 : (w.alloc (.cells #[] 9)).cell? ⟨x, 0, none⟩ = some (.slice a l.length 0) := hx0.cell 0
    go_enter Try.func27, Try.ntmps27
    go_wp2_with (first | (at_builtin; refine wpList_append_any _ rfl (.tmp 22) (.tmp 28) _ rfl w.heap.size 9 i0 _ 1 16 Try.underlying28 HI.out.1 HI.out.2.1 HI.out.2.2.1 HI.out.2.2.2 rfl (by decide) (.slice (some ⟨w.heap.size, 0, none⟩) 0 0) 0 _ rfl hown0 _ _ 0 0 (strs (l.take 0)) rfl hrd0 (one_strs _) (by simp only [maxLen]; omega) (by omega) (by simp) ?_; intro v2 w2 hown2 hg2 hat2; obtain ⟨p2, c2, hv2⟩ := own_form hown2; subst hv2; rw [Nat.zero_add, List.nil_append] at hown2; have hk2 := hk0.grown hg2 (fun b hb => .inr (by have := (hown0.lt b hb).1; exact this)); have hx2 := hx0.grown hg2 (fun e => by have := (hown0.lt x e.symm).1; omega); have hz2 := hk2.size; have HO2 := Lib.hid hown2; have hownb := own_empty w2 w.heap.size hz2 9 1; have hrd2 := ((HR.out.keep (fun q hq => hk2.cell hq (by simp))).cut (k := 0) hkl hlc).alloc hz2 (.cells #[] 9); rw [strs_drop] at hrd2; have hrd3 : Reads (w2.alloc (.cells #[] 9)) w.heap.size 1 a 0 (strs (l.drop 0)) := (by have h9 := hrd2; rw [if_pos rfl, show l.length - 0 = 0 from by omega] at h9; exact h9); have hx2a := hx2.alloc (.cells #[] 9); have hk2a := hk2.alloc (.cells #[] 9); have hxc2 : (w2.alloc (.cells #[] 9)).cell? ⟨x, 0, none⟩ = some (.slice a l.length 0) := hx2a.cell 0) | (at_builtin; refine wpList_append_any _ rfl (.tmp 31) (.tmp 37) _ rfl w.heap.size 9 i0 _ 1 16 Try.underlying28 HI.out.1 HI.out.2.1 HI.out.2.2.1 HI.out.2.2.2 rfl (by decide) (.slice (some ⟨w2.heap.size, 0, none⟩) 0 0) 0 _ rfl hownb _ a 0 0 (strs (l.drop 0)) rfl hrd3 (one_strs _) (by simp only [maxLen]; omega) (by omega) (by simp; omega) ?_; intro v3 w3 hown3 hg3 hat3; obtain ⟨p3, c3, hv3⟩ := own_form hown3; subst hv3; rw [Nat.zero_add, List.nil_append] at hown3; have hx3 := hx2a.grown hg3 (fun e => by have := (hownb.lt x e.symm).1; omega); have hk3 := hk2a.grown hg3 (fun b hb => .inr (by have := (hownb.lt b hb).1; exact this)); have hxc : w3.cell? ⟨x, 0, none⟩ = some (.slice a l.length 0) := hx3.cell 0; have hxf := hx3.frozen))
    go_ret
    have hlen : (l.drop 0).length = 0 := by simp only [List.length_drop]; try omega
    have hL := lst_any (x := x) hown3 hlen (by rcases hat3 with e | e <;> intro hn <;> subst hn <;> simp [Value.ownBlock] at e)
    obtain ⟨y, hL, hy, hyl⟩ := hL
    have hlt : (l.take 0).length = 0 := by simp only [List.length_take]; try omega
    have hO := ownsRow_setCell (ownsRow_keeps HO2.out ((((Keeps.refl [w2.heap.size] w2).alloc (.cells #[] 9))).grown hg3 (fun b hb => .inl (by have := hb; simp [Value.ownBlock] at this; simp; omega))) (fun k hk => by have := (HO2.out.lt k hk).2; simp; omega)) ⟨x, 0, none⟩ (.slice p3 0 c3) (fun e => by have := (HO2.out.lt x e).1; omega)
    refine ⟨p2, c2, y, p3, c3, rfl, hO, ⟨?_, hL.keeps ((Keeps.refl [x] w3).setCell (p := ⟨x, 0, none⟩) (by simp) _) (by simp; omega), ?_⟩, (hk3.more (by simp)).setCell (p := ⟨x, 0, none⟩) (by simp) _, hy⟩
    · have := hx3.set_ 0 (.slice p3 0 c3)
      rw [hlen]
      exact this
    · have := HQ.out.bd
      rw [hlen]
      omega
  · skip
    have hown0 := own_empty w w.heap.size (Nat.le_refl _) 9 1
    have hrd0 := (reads_take HR.out 0 hkl).alloc (Nat.le_refl _) (.cells #[] 9)
    have hk0 : Keeps [] w (w.alloc (.cells #[] 9)) := (Keeps.refl _ _).alloc _
    have hx0 := HQ.out.q.alloc (.cells #[] 9)
    have hxc0 : (w.alloc (.cells #[] 9)).cell? ⟨x, 0, none⟩ = some (.slice a l.length c) := hx0.cell 0
    go_enter Try.func27, Try.ntmps27
    go_wp2_with (first | (at_builtin; refine wpList_append_any _ rfl (.tmp 22) (.tmp 28) _ rfl w.heap.size 9 i0 _ 1 16 Try.underlying28 HI.out.1 HI.out.2.1 HI.out.2.2.1 HI.out.2.2.2 rfl (by decide) (.slice (some ⟨w.heap.size, 0, none⟩) 0 0) 0 _ rfl hown0 _ _ 0 c (strs (l.take 0)) rfl hrd0 (one_strs _) (by simp only [maxLen]; omega) (by omega) (by simp) ?_; intro v2 w2 hown2 hg2 hat2; obtain ⟨p2, c2, hv2⟩ := own_form hown2; subst hv2; rw [Nat.zero_add, List.nil_append] at hown2; have hk2 := hk0.grown hg2 (fun b hb => .inr (by have := (hown0.lt b hb).1; exact this)); have hx2 := hx0.grown hg2 (fun e => by have := (hown0.lt x e.symm).1; omega); have hz2 := hk2.size; have HO2 := Lib.hid hown2; have hownb := own_empty w2 w.heap.size hz2 9 1; have hrd2 := ((HR.out.keep (fun q hq => hk2.cell hq (by simp))).cut (k := 0) hkl hlc).alloc hz2 (.cells #[] 9); rw [strs_drop] at hrd2; have hrd3 : Reads (w2.alloc (.cells #[] 9)) w.heap.size 1 a l.length (strs (l.drop 0)) := (by have h9 := hrd2; rw [if_neg hck, Nat.sub_zero, Nat.zero_mul, map_0] at h9; exact h9); have hx2a := hx2.alloc (.cells #[] 9); have hk2a := hk2.alloc (.cells #[] 9); have hxc2 : (w2.alloc (.cells #[] 9)).cell? ⟨x, 0, none⟩ = some (.slice a l.length c) := hx2a.cell 0) | (at_builtin; refine wpList_append_any _ rfl (.tmp 31) (.tmp 37) _ rfl w.heap.size 9 i0 _ 1 16 Try.underlying28 HI.out.1 HI.out.2.1 HI.out.2.2.1 HI.out.2.2.2 rfl (by decide) (.slice (some ⟨w2.heap.size, 0, none⟩) 0 0) 0 _ rfl hownb _ a l.length c (strs (l.drop 0)) rfl hrd3 (one_strs _) (by simp only [maxLen]; omega) (by omega) (by simp; omega) ?_; intro v3 w3 hown3 hg3 hat3; obtain ⟨p3, c3, hv3⟩ := own_form hown3; subst hv3; rw [Nat.zero_add, List.nil_append] at hown3; have hx3 := hx2a.grown hg3 (fun e => by have := (hownb.lt x e.symm).1; omega); have hk3 := hk2a.grown hg3 (fun b hb => .inr (by have := (hownb.lt b hb).1; exact this)); have hxc : w3.cell? ⟨x, 0, none⟩ = some (.slice a l.length c) := hx3.cell 0; have hxf := hx3.frozen))
    go_ret
    have hlen : (l.drop 0).length = l.length := by simp only [List.length_drop]; try omega
    have hL := lst_any (x := x) hown3 hlen (by rcases hat3 with e | e <;> intro hn <;> subst hn <;> simp [Value.ownBlock] at e)
    obtain ⟨y, hL, hy, hyl⟩ := hL
    have hlt : (l.take 0).length = 0 := by simp only [List.length_take]; try omega
    have hO := ownsRow_setCell (ownsRow_keeps HO2.out ((((Keeps.refl [w2.heap.size] w2).alloc (.cells #[] 9))).grown hg3 (fun b hb => .inl (by have := hb; simp [Value.ownBlock] at this; simp; omega))) (fun k hk => by have := (HO2.out.lt k hk).2; simp; omega)) ⟨x, 0, none⟩ (.slice p3 l.length c3) (fun e => by have := (HO2.out.lt x e).1; omega)
    refine ⟨p2, c2, y, p3, c3, rfl, hO, ⟨?_, hL.keeps ((Keeps.refl [x] w3).setCell (p := ⟨x, 0, none⟩) (by simp) _) (by simp; omega), ?_⟩, (hk3.more (by simp)).setCell (p := ⟨x, 0, none⟩) (by simp) _, hy⟩
    · have := hx3.set_ 0 (.slice p3 l.length c3)
      rw [hlen]
      exact this
    · have := HQ.out.bd
      rw [hlen]
      omega
set_option maxRecDepth 100000 in
set_option maxHeartbeats 1000000 in
theorem rtake_mid (x y : Nat) (l : List ByteArray) (lim dr n : Int) (a : Option Addr) (c : Nat) (k : Nat) (w : World) (h : Rq w x y l lim dr a c) (hk : k ≤ l.length) :
    Calls Try.prog 27 #[.pointer (some ⟨x, 0, none⟩), .int .i64 (k : Int)] w (IsTaken x l lim dr k w) := by
  obtain ⟨i0, hi0, hz0, hz1, hz2⟩ := info_parts str_info
  have HI := Lib.hid (And.intro hi0 (And.intro hz0 (And.intro hz1 hz2)))
  clear hi0 hz0 hz1 hz2
  have c0 : w.cell? ⟨x, 0, none⟩ = some (.slice a l.length c) := h.q.cell 0
  have hxl := h.q.lt
  have HQ := Lib.hid h
  obtain ⟨hlc, hcc⟩ := h.row.cap
  have hln := h.len
  have HR := Lib.hid h.row.reads
  have hkl : k ≤ l.length := by omega
  have hdn : ¬ (l.length : Int) < (k : Int) := by omega
  clear h
  by_cases hck : c = k
  · have hck2 : k = c := hck.symm
    subst hck2
    clear hck
    have hown0 := own_empty w w.heap.size (Nat.le_refl _) 9 1
    have hrd0 := (reads_take HR.out k hkl).alloc (Nat.le_refl _) (.cells #[] 9)
    have hk0 : Keeps [] w (w.alloc (.cells #[] 9)) := (Keeps.refl _ _).alloc _
    have hx0 := HQ.out.q.alloc (.cells #[] 9)
    have hxc0 : (w.alloc (.cells #[] 9)).cell? ⟨x, 0, none⟩ = some (.slice a l.length k) := hx0.cell 0
    go_enter Try.func27, Try.ntmps27
    go_wp2_with (first | (at_builtin; refine wpList_append_any _ rfl (.tmp 22) (.tmp 28) _ rfl w.heap.size 9 i0 _ 1 16 Try.underlying28 HI.out.1 HI.out.2.1 HI.out.2.2.1 HI.out.2.2.2 rfl (by decide) (.slice (some ⟨w.heap.size, 0, none⟩) 0 0) 0 _ rfl hown0 _ _ k k (strs (l.take k)) rfl hrd0 (one_strs _) (by simp only [maxLen]; omega) (by omega) (by simp) ?_; intro v2 w2 hown2 hg2 hat2; obtain ⟨p2, c2, hv2⟩ := own_form hown2; subst hv2; rw [Nat.zero_add, List.nil_append] at hown2; have hk2 := hk0.grown hg2 (fun b hb => .inr (by have := (hown0.lt b hb).1; exact this)); have hx2 := hx0.grown hg2 (fun e => by have := (hown0.lt x e.symm).1; omega); have hz2 := hk2.size; have HO2 := Lib.hid hown2; have hownb := own_empty w2 w.heap.size hz2 9 1; have hrd2 := ((HR.out.keep (fun q hq => hk2.cell hq (by simp))).cut (k := k) hkl hlc).alloc hz2 (.cells #[] 9); rw [strs_drop] at hrd2; have hrd3 : Reads (w2.alloc (.cells #[] 9)) w.heap.size 1 a 0 (strs (l.drop k)) := (by have h9 := hrd2; rw [if_pos rfl, show l.length - k = 0 from by omega] at h9; exact h9); have hx2a := hx2.alloc (.cells #[] 9); have hk2a := hk2.alloc (.cells #[] 9); have hxc2 : (w2.alloc (.cells #[] 9)).cell? ⟨x, 0, none⟩ = some (.slice a l.length k) := hx2a.cell 0) | (at_builtin; refine wpList_append_any _ rfl (.tmp 31) (.tmp 37) _ rfl w.heap.size 9 i0 _ 1 16 Try.underlying28 HI.out.1 HI.out.2.1 HI.out.2.2.1 HI.out.2.2.2 rfl (by decide) (.slice (some ⟨w2.heap.size, 0, none⟩) 0 0) 0 _ rfl hownb _ a 0 0 (strs (l.drop k)) rfl hrd3 (one_strs _) (by simp only [maxLen]; omega) (by omega) (by simp; omega) ?_; intro v3 w3 hown3 hg3 hat3; obtain ⟨p3, c3, hv3⟩ := own_form hown3; subst hv3; rw [Nat.zero_add, List.nil_append] at hown3; have hx3 := hx2a.grown hg3 (fun e => by have := (hownb.lt x e.symm).1; omega); have hk3 := hk2a.grown hg3 (fun b hb => .inr (by have := (hownb.lt b hb).1; exact this)); have hxc : w3.cell? ⟨x, 0, none⟩ = some (.slice a l.length k) := hx3.cell 0; have hxf := hx3.frozen))
    go_ret
    have hlen : (l.drop k).length = 0 := by simp only [List.length_drop]; try omega
    have hL := lst_any (x := x) hown3 hlen (by rcases hat3 with e | e <;> intro hn <;> subst hn <;> simp [Value.ownBlock] at e)
    obtain ⟨y, hL, hy, hyl⟩ := hL
    have hlt : (l.take k).length = k := by simp only [List.length_take]; try omega
    have hO := ownsRow_setCell (ownsRow_keeps HO2.out ((((Keeps.refl [w2.heap.size] w2).alloc (.cells #[] 9))).grown hg3 (fun b hb => .inl (by have := hb; simp [Value.ownBlock] at this; simp; omega))) (fun k hk => by have := (HO2.out.lt k hk).2; simp; omega)) ⟨x, 0, none⟩ (.slice p3 0 c3) (fun e => by have := (HO2.out.lt x e).1; omega)
    refine ⟨p2, c2, y, p3, c3, rfl, hO, ⟨?_, hL.keeps ((Keeps.refl [x] w3).setCell (p := ⟨x, 0, none⟩) (by simp) _) (by simp; omega), ?_⟩, (hk3.more (by simp)).setCell (p := ⟨x, 0, none⟩) (by simp) _, hy⟩
    · have := hx3.set_ 0 (.slice p3 0 c3)
      rw [hlen]
      exact this
    · have := HQ.out.bd
      rw [hlen]
      omega
  · skip
    have hown0 := own_empty w w.heap.size (Nat.le_refl _) 9 1
    have hrd0 := (reads_take HR.out k hkl).alloc (Nat.le_refl _) (.cells #[] 9)
    have hk0 : Keeps [] w (w.alloc (.cells #[] 9)) := (Keeps.refl _ _).alloc _
    have hx0 := HQ.out.q.alloc (.cells #[] 9)
    have hxc0 : (w.alloc (.cells #[] 9)).cell? ⟨x, 0, none⟩ = some (.slice a l.length c) := hx0.cell 0
    go_enter Try.func27, Try.ntmps27
    go_wp2_with (first | (at_builtin; refine wpList_append_any _ rfl (.tmp 22) (.tmp 28) _ rfl w.heap.size 9 i0 _ 1 16 Try.underlying28 HI.out.1 HI.out.2.1 HI.out.2.2.1 HI.out.2.2.2 rfl (by decide) (.slice (some ⟨w.heap.size, 0, none⟩) 0 0) 0 _ rfl hown0 _ _ k c (strs (l.take k)) rfl hrd0 (one_strs _) (by simp only [maxLen]; omega) (by omega) (by simp) ?_; intro v2 w2 hown2 hg2 hat2; obtain ⟨p2, c2, hv2⟩ := own_form hown2; subst hv2; rw [Nat.zero_add, List.nil_append] at hown2; have hk2 := hk0.grown hg2 (fun b hb => .inr (by have := (hown0.lt b hb).1; exact this)); have hx2 := hx0.grown hg2 (fun e => by have := (hown0.lt x e.symm).1; omega); have hz2 := hk2.size; have HO2 := Lib.hid hown2; have hownb := own_empty w2 w.heap.size hz2 9 1; have hrd2 := ((HR.out.keep (fun q hq => hk2.cell hq (by simp))).cut (k := k) hkl hlc).alloc hz2 (.cells #[] 9); rw [strs_drop] at hrd2; have hrd3 : Reads (w2.alloc (.cells #[] 9)) w.heap.size 1 (Option.map (fun x => x.add k) a) (l.length - k) (strs (l.drop k)) := (by have h9 := hrd2; rw [if_neg hck, Nat.mul_one] at h9; exact h9); have hx2a := hx2.alloc (.cells #[] 9); have hk2a := hk2.alloc (.cells #[] 9); have hxc2 : (w2.alloc (.cells #[] 9)).cell? ⟨x, 0, none⟩ = some (.slice a l.length c) := hx2a.cell 0) | (at_builtin; refine wpList_append_any _ rfl (.tmp 31) (.tmp 37) _ rfl w.heap.size 9 i0 _ 1 16 Try.underlying28 HI.out.1 HI.out.2.1 HI.out.2.2.1 HI.out.2.2.2 rfl (by decide) (.slice (some ⟨w2.heap.size, 0, none⟩) 0 0) 0 _ rfl hownb _ (Option.map (fun x => x.add k) a) (l.length - k) (c - k) (strs (l.drop k)) rfl hrd3 (one_strs _) (by simp only [maxLen]; omega) (by omega) (by simp; omega) ?_; intro v3 w3 hown3 hg3 hat3; obtain ⟨p3, c3, hv3⟩ := own_form hown3; subst hv3; rw [Nat.zero_add, List.nil_append] at hown3; have hx3 := hx2a.grown hg3 (fun e => by have := (hownb.lt x e.symm).1; omega); have hk3 := hk2a.grown hg3 (fun b hb => .inr (by have := (hownb.lt b hb).1; exact this)); have hxc : w3.cell? ⟨x, 0, none⟩ = some (.slice a l.length c) := hx3.cell 0; have hxf := hx3.frozen))
    go_ret
    have hlen : (l.drop k).length = (l.length - k) := by simp only [List.length_drop]; try omega
    have hL := lst_any (x := x) hown3 hlen (by rcases hat3 with e | e <;> intro hn <;> subst hn <;> simp [Value.ownBlock] at e)
    obtain ⟨y, hL, hy, hyl⟩ := hL
    have hlt : (l.take k).length = k := by simp only [List.length_take]; try omega
    have hO := ownsRow_setCell (ownsRow_keeps HO2.out ((((Keeps.refl [w2.heap.size] w2).alloc (.cells #[] 9))).grown hg3 (fun b hb => .inl (by have := hb; simp [Value.ownBlock] at this; simp; omega))) (fun k hk => by have := (HO2.out.lt k hk).2; simp; omega)) ⟨x, 0, none⟩ (.slice p3 (l.length - k) c3) (fun e => by have := (HO2.out.lt x e).1; omega)
    refine ⟨p2, c2, y, p3, c3, rfl, hO, ⟨?_, hL.keeps ((Keeps.refl [x] w3).setCell (p := ⟨x, 0, none⟩) (by simp) _) (by simp; omega), ?_⟩, (hk3.more (by simp)).setCell (p := ⟨x, 0, none⟩) (by simp) _, hy⟩
    · have := hx3.set_ 0 (.slice p3 (l.length - k) c3)
      rw [hlen]
      exact this
    · have := HQ.out.bd
      rw [hlen]
      omega
theorem rtake_any (x y : Nat) (l : List ByteArray) (lim dr n : Int) (a : Option Addr) (c : Nat) (w : World) (h : Rq w x y l lim dr a c) :
    Calls Try.prog 27 #[.pointer (some ⟨x, 0, none⟩), .int .i64 n] w (IsTaken x l lim dr (clamp n l.length) w) := by
  unfold clamp
  by_cases h1 : (l.length : Int) < n
  · rw [if_pos h1]; exact rtake_big x y l lim dr n a c w h h1
  · rw [if_neg h1]
    by_cases h2 : n < 0
    · rw [if_pos h2]; exact rtake_neg x y l lim dr n a c w h h2
    · rw [if_neg h2]
      obtain ⟨k, rfl⟩ : ∃ k : Nat, n = (k : Int) := ⟨n.toNat, by omega⟩
      rw [Int.toNat_natCast]
      exact rtake_mid x y l lim dr (k : Int) a c k w h (by omega)
set_option maxRecDepth 100000 in
theorem same_any (B B' n : Nat) (a b : Option Addr) (c d : Nat) (l : List ByteArray) (w : World) (hn : n ≤ 65536) (ha : Reads w B 1 a n (strs l)) (hb : Reads w B' 1 b n (strs l)) (hB : ∀ ad, a = some ad → ad.spot = none) (hB' : ∀ ad, b = some ad → ad.spot = none) :
    Calls Try.prog 16 #[.slice a n c, .slice b n d] w (Quiet (.bool true) w) := by
  have hl : l.length = n := by have := ha.1; rw [strs_len] at this; omega
  have HL := Lib.hid hl
  have HA := Lib.hid ha
  have HB := Lib.hid hb
  have HS := Lib.hid hB
  have HS' := Lib.hid hB'
  clear ha hb hl hB hB'
  go_enter Try.func16, Try.ntmps16
  go_wp2_with fail
  go_loopw [5] (fun i wr => ∃ k : Nat, k ≤ n ∧ i = .int .i64 k ∧ Drawn w wr) (fun i _ => n - (intOf i).toNat)
  case atStart => exact ⟨0, by omega, rfl, Drawn.refl _⟩
  case round =>
    obtain ⟨k, hk, rfl, hd⟩ := hrel
    have HD := Lib.hid hd
    by_cases hlt : k < n
    · obtain ⟨ad, u, e1, _, hu, hc⟩ := HA.out.at_ hlt
      obtain ⟨bd, v, e2, _, hv, hcb⟩ := HB.out.at_ hlt
      have s1 := HS.out ad e1
      have s2 := HS'.out bd e2
      obtain ⟨ba, oa, sa⟩ := ad
      obtain ⟨bb, ob, sb⟩ := bd
      simp only at s1 s2
      subst s1 s2 e1 e2
      have huv : u = v := by rw [hu] at hv; injection hv
      subst huv
      obtain ⟨s, rfl⟩ : ∃ s, u = .string s := by
        have := List.mem_of_getElem? hu
        simp only [strs, List.mem_map] at this
        obtain ⟨s, _, rfl⟩ := this
        exact ⟨s, rfl⟩
      have hadd : ∀ (b o j : Nat), (⟨b, o, none⟩ : Addr).add j = ⟨b, o + j, none⟩ := fun b o j => by unfold Addr.add; split <;> simp_all
      rw [hadd] at hc hcb
      have q1 : wr.cell? ⟨ba, oa + k, none⟩ = some (.string s) := (hd.cell _).trans hc
      have q2 : wr.cell? ⟨bb, ob + k, none⟩ = some (.string s) := (hd.cell _).trans hcb
      have hk0 : (0 : Int) ≤ (k : Int) := by omega
      have hk1 : (k : Int) < (n : Int) := by omega
      clear hd hc hcb hu hv hadd
      go_wp2_with fail
      go_quiet (fail)
      go_wp2_with fail
      go_roundw
      case rel => exact ⟨k + 1, by omega, by go_num, HD.out.draws _⟩
      case measure => simp [intOf]; omega
    · obtain rfl : k = n := by omega
      clear hd
      go_wp2_with fail
      go_ret
      exact ⟨rfl, HD.out⟩
end FiR
end Go.Proofs.Ytiemnnoeljphoaa
