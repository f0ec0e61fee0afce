/- What is done with each tick that is heard: counted; its turn put down. -/
import Derived.Test.YtbkljphhgghjdaaBeatB
import Derived.Test.YtbkljphhgghjdaaReg
import Derived.Test.YtbkljphhgghjdaaFst
import Derived.Deep.RegionLaw
namespace Go.Proofs.Ytbkljphhgghjdaa
open Go.RowKit
namespace Be
open Sm Ph Fl
def pcells (l : List Int) : Array Value := #[.int .i64 (cnt 0 l), .int .i64 (cnt 1 l), .int .i64 (cnt 2 l), .int .i64 (cnt 3 l)]
theorem cnt_snoc (j : Int) (l : List Int) (t : Int) : cnt j (l ++ [t]) = cnt j l + if t % 4 = j then 1 else 0 := sumI_snoc _ l t
theorem pcells_hit (l : List Int) (t : Int) (k : Nat) (hk : k < 4) (h : t % 4 = (k : Int)) : (pcells l).setIfInBounds k (.int .i64 (cnt (k : Int) l + 1)) = pcells (l ++ [t]) := by
  have h4 : k = 0 ∨ k = 1 ∨ k = 2 ∨ k = 3 := by omega
  unfold pcells
  rcases h4 with rfl | rfl | rfl | rfl <;> simp only [cnt_snoc] <;> rw [h] <;> simp
def IsPut (o : Nat) (l : List Int) (w : World) (e : Ending) (w' : World) : Prop := e = .returned (.tuple #[]) ∧ Blk w' o 23 (pcells l) ∧ Keeps [o] w w'
set_option maxRecDepth 100000 in
theorem put_any (o : Nat) (l : List Int) (t : Int) (w : World) (h : Blk w o 23 (pcells l)) (hl : l.length < 600) :
    Calls Try.prog 19 #[.int .i64 t, .pointer (some ⟨o, 0, none⟩)] w (IsPut o (l ++ [t]) w) := by
  have h4 : t % 4 = 0 ∨ t % 4 = 1 ∨ t % 4 = 2 ∨ t % 4 = 3 := by omega
  have HB := Lib.hid h
  have hf := h.frozen
  have hand := Bw.and3 t
  rcases h4 with h4 | h4 | h4 | h4
  · have b := cnt_bd 0 l
    have c : w.cell? ⟨o, 0, none⟩ = some (.int .i64 (cnt 0 l)) := h.cell 0
    have HS := Lib.hid (pcells_hit l t 0 (by decide) h4)
    rw [h4] at hand
    clear h h4
    obtain ⟨b0, b1⟩ := b
    have b2 : cnt 0 l ≤ 600 := by omega
    clear b1
    generalize cnt 0 l = n at *
    go_enter Try.func19, Try.ntmps19
    go_wp2
    go_end0
    refine ⟨rfl, ?_, (Keeps.refl _ _).setCell (by simp) _⟩
    rw [← HS.out]
    exact HB.out.set_ 0 _
  · have b := cnt_bd 1 l
    have c : w.cell? ⟨o, 1, none⟩ = some (.int .i64 (cnt 1 l)) := h.cell 1
    have HS := Lib.hid (pcells_hit l t 1 (by decide) h4)
    rw [h4] at hand
    clear h h4
    obtain ⟨b0, b1⟩ := b
    have b2 : cnt 1 l ≤ 600 := by omega
    clear b1
    generalize cnt 1 l = n at *
    go_enter Try.func19, Try.ntmps19
    go_wp2
    go_end0
    refine ⟨rfl, ?_, (Keeps.refl _ _).setCell (by simp) _⟩
    rw [← HS.out]
    exact HB.out.set_ 1 _
  · have b := cnt_bd 2 l
    have c : w.cell? ⟨o, 2, none⟩ = some (.int .i64 (cnt 2 l)) := h.cell 2
    have HS := Lib.hid (pcells_hit l t 2 (by decide) h4)
    rw [h4] at hand
    clear h h4
    obtain ⟨b0, b1⟩ := b
    have b2 : cnt 2 l ≤ 600 := by omega
    clear b1
    generalize cnt 2 l = n at *
    go_enter Try.func19, Try.ntmps19
    go_wp2
    go_end0
    refine ⟨rfl, ?_, (Keeps.refl _ _).setCell (by simp) _⟩
    rw [← HS.out]
    exact HB.out.set_ 2 _
  · have b := cnt_bd 3 l
    have c : w.cell? ⟨o, 3, none⟩ = some (.int .i64 (cnt 3 l)) := h.cell 3
    have HS := Lib.hid (pcells_hit l t 3 (by decide) h4)
    rw [h4] at hand
    clear h h4
    obtain ⟨b0, b1⟩ := b
    have b2 : cnt 3 l ≤ 600 := by omega
    clear b1
    generalize cnt 3 l = n at *
    go_enter Try.func19, Try.ntmps19
    go_wp2
    go_end0
    refine ⟨rfl, ?_, (Keeps.refl _ _).setCell (by simp) _⟩
    rw [← HS.out]
    exact HB.out.set_ 3 _
/-- A tick's turn, with its whole parts. -/
def wd (k t : Int) : Cw := (un (ph k t), (cs (ph k t), sn (ph k t)))
theorem wd_isW (k t : Int) : isW (wd k t) := by
  obtain ⟨h1, h2⟩ := wh_un (ph k t) (ph_lt k t)
  have := cs_bd (ph k t)
  have := sn_bd (ph k t)
  exact ⟨h1, h2, by show (cs (ph k t)).natAbs ≤ _; omega, by show (sn (ph k t)).natAbs ≤ _; omega⟩
def cxv (L : List Cw) : List Value := L.map fun p => .complex .f64 p.1.1 p.1.2
theorem sRe_wd (k : Int) (l : List Int) : sRe (l.map (wd k)) = rP k l := by
  induction l with
  | nil => rfl
  | cons a r ih => simp only [List.map_cons, sRe, ih]; rfl
theorem sIm_wd (k : Int) (l : List Int) : sIm (l.map (wd k)) = iP k l := by
  induction l with
  | nil => rfl
  | cons a r ih => simp only [List.map_cons, sIm, ih]; rfl
theorem cx_info : (Try.prog.info? 29).map (fun i => (i.zero, i.size, i.bytes)) = some (some (.complex .f64 0 0), 1, 16) := by kernel_rfl
theorem add_off (g k : Nat) : (⟨g, 0, none⟩ : Addr).add k = ⟨g, k, none⟩ := by unfold Addr.add; split <;> simp_all
theorem own_form {w : World} {base size n : Nat} {e : TypeId} {v : Value} {xs : List Value} (h : w.ownsRow base e size v n xs) : ∃ a c, v = .slice a n c := by
  rcases h.2 with ⟨rfl, rfl⟩ | ⟨g, cap, cur, rfl, _⟩
  · exact ⟨_, _, rfl⟩
  · exact ⟨_, _, rfl⟩
theorem reads1 (w : World) (x y : Nat) : Reads (w.alloc (.cells #[.complex .f64 x y] 29)) (w.heap.size + 1) 1 (some ⟨w.heap.size, 0, none⟩) 1 [.complex .f64 x y] := by
  refine ⟨rfl, fun _ => ⟨_, rfl, by simp, fun j u hu => ?_⟩⟩
  have hj : j = 0 := by
    rcases Nat.eq_zero_or_pos j with h | h
    · exact h
    · rw [List.getElem?_eq_none (by simp; omega)] at hu; cases hu
  subst hj
  simp at hu
  rw [add_off, ← hu]
  simp
/-- The captured variables: the row under way, in block o; the number, in block q. -/
structure Cap (w wr : World) (o q : Nat) (k : Int) (v : Value) (l : List Int) : Prop where
  o_ : Blk wr o 45 #[v]
  q_ : Blk wr q 3 #[.int .i64 k]
  own : wr.ownsRow w.heap.size 29 1 v l.length (cxv (l.map (wd k)))
  k_ : Keeps [] w wr
  ob : w.heap.size ≤ o
  qb : w.heap.size ≤ q
def IsCap (w : World) (o q : Nat) (k : Int) (l : List Int) (e : Ending) (w' : World) : Prop := e = .returned (.tuple #[]) ∧ ∃ a c, Cap w w' o q k (.slice a l.length c) l
theorem Cap.drew {w wr : World} {o q : Nat} {k : Int} {v : Value} {l : List Int} (h : Cap w wr o q k v l) : Cap w wr.drew o q k v l :=
  ⟨h.o_.drew, h.q_.drew, ownsRow_keeps h.own (Keeps.refl [] wr).drew (by simp), h.k_.drew, h.ob, h.qb⟩
theorem tn_ph (k t : Int) : turned (tn ((k % 4 * (t % 4)) % 4).toNat (4607182418800017408, 0)) = .complex .f64 (un (ph k t)).1 (un (ph k t)).2 := rfl
attribute [local irreducible] un ph
set_option maxRecDepth 100000 in
set_option maxHeartbeats 1000000 in
theorem cap_any (w : World) (o q : Nat) (k t : Int) (a : Option Addr) (c : Nat) (l : List Int) (wr : World) (h : Cap w wr o q k (.slice a l.length c) l) (hl : l.length < 600) (hq : q ≠ o) :
    Calls Try.prog 20 #[.int .i64 t, .pointer (some ⟨o, 0, none⟩), .pointer (some ⟨q, 0, none⟩)] wr (IsCap w o q k (l ++ [t])) := by
  obtain ⟨i0, hi0, hz0, hz1, hz2⟩ := info_parts cx_info
  have HI := Lib.hid (And.intro hi0 (And.intro hz0 (And.intro hz1 hz2)))
  clear hi0 hz0 hz1 hz2
  have hd := h.drew
  have c0 : wr.cell? ⟨o, 0, none⟩ = some (.slice a l.length c) := hd.o_.cell 0
  have c1 : wr.cell? ⟨q, 0, none⟩ = some (.int .i64 k) := hd.q_.cell 0
  have f0 : wr.frozen? ⟨o, 0, none⟩ = false := hd.o_.frozen 0
  have HD := Lib.hid hd
  have HW := Lib.hid h
  have ha1 := Bw.and3 k
  have ha2 := Bw.and3 t
  have m0 : 0 ≤ k % 4 * (t % 4) := Int.mul_nonneg (by omega) (by omega)
  have m1 : k % 4 * (t % 4) ≤ 9 := by
    have h1 : k % 4 * (t % 4) ≤ 3 * 3 := Int.mul_le_mul (by omega) (by omega) (by omega) (by omega)
    omega
  have hmul : IntKind.i64.wrap (k % 4 * (t % 4)) = k % 4 * (t % 4) := IntWalk.i64_in _ (by omega)
  have HT := Lib.hid (fun w => turn_any 4607182418800017408 0 (k % 4 * (t % 4)) w)
  rw [tn_ph] at HT
  clear h hd
  go_enter Try.func20, Try.ntmps20
  go_wp2
  have hown2 := ownsRow_keeps HW.out.own (((Keeps.refl [] wr).alloc (.cells #[.complex .f64 (un (ph k t)).1 (un (ph k t)).2] 29)).drew) (by simp)
  have hrd := (reads1 wr (un (ph k t)).1 (un (ph k t)).2).drew
  have hO := (HW.out.o_.alloc (.cells #[.complex .f64 (un (ph k t)).1 (un (ph k t)).2] 29)).drew
  have hQ := (HW.out.q_.alloc (.cells #[.complex .f64 (un (ph k t)).1 (un (ph k t)).2] 29)).drew
  have hne1 := own_blk_ne hown2 hO (by decide)
  have hne2 := own_blk_ne hown2 hQ (by decide)
  have hz := HW.out.k_.size
  have hol := HW.out.o_.lt
  have hql := HW.out.q_.lt
  go_region_law (first | (go_simp; with_reducible refine (HT.out _).mono ?_; rintro e v1 ⟨rfl, rfl⟩; dsimp only) | (refine step_append_any _ rfl (.tmp 4) (.tmp 11) _ rfl w.heap.size 29 i0 _ 1 16 Try.underlying45 HI.out.1 HI.out.2.1 HI.out.2.2.1 HI.out.2.2.2 rfl (by decide) (.slice a l.length c) l.length _ rfl hown2 _ _ 1 1 [.complex .f64 (un (ph k t)).1 (un (ph k t)).2] rfl hrd (by simp [Value.oneCell']) (by simp only [maxLen]; omega) (by omega) (by simp; omega) ?_; intro v2 w2 hown3 hg3 hat3; obtain ⟨a2, c2, hv2⟩ := own_form hown3; subst hv2; have hO2 := hO.grown hg3 (fun e => hne1 e.symm); have qc : w2.cell? ⟨o, 0, none⟩ = some (.slice a l.length c) := hO2.cell 0; have qf := hO2.frozen 0))
  all_goals
    have hQ2 := hQ.grown hg3 (fun e => hne2 e.symm)
    have hkk : Keeps (Value.slice a l.length c).ownBlock.toList wr w2 := (((Keeps.refl _ wr).alloc _).drew).grown hg3 (fun b hb => .inl (by rw [hb]; simp))
    have hlt2 : ∀ b, (Value.slice a l.length c).ownBlock = some b → w.heap.size ≤ b := fun b hb => (hown2.lt b hb).1
    have HK : Hid (Keeps [] w w2) := Lib.hid (HW.out.k_.next hkk (fun b hb => .inr (hlt2 b (by simpa using hb))))
    have hn3 : (Value.slice a2 (l.length + 1) c2).ownBlock ≠ some o := own_blk_ne hown3 hO2 (by decide)
    go_end0
    have he : l.length + 1 = (l ++ [t]).length := by simp
    refine ⟨rfl, a2, c2, ?_, ?_, ?_, HK.out.setCell (by right; exact HW.out.ob) _, HW.out.ob, HW.out.qb⟩
    · have := hO2.set_ 0 (.slice a2 (l.length + 1) c2)
      rw [← he]
      exact this
    · exact hQ2.far (by exact hq) _
    · have := ownsRow_setCell hown3 ⟨o, 0, none⟩ (.slice a2 (l.length + 1) c2) hn3
      rw [← he, List.map_append, cxv, List.map_append]
      exact this
end Be
end Go.Proofs.Ytbkljphhgghjdaa
