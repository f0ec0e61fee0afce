/- A device: Take, Log, Send. -/
import Derived.Test.YtdbkgpnbmafpmaaNicC
import Derived.Test.YtdbkgpnbmafpmaaFrameA
import Derived.Test.YtdbkgpnbmafpmaaQrFC
namespace Go.Proofs.Ytdbkgpnbmafpmaa
open Go.RowKit Go.Maps
attribute [local go_sem] FiF.cs
namespace Nc
open Sm
/-- A frame as a value. -/
def fv (f : FiF.It) : Value := .agg #[.int .i64 f.to, .int .i64 f.fr, .string f.data]
theorem fv_val (f : FiF.It) : FiF.val f = fv f := rfl
def f0 : FiF.It := ⟨0, 0, ⟨#[]⟩⟩
section
variable {d m y c : Nat} {od : Int} {a : Option Addr} {lg : List Sn} {L : List Pt}
theorem To.fresh {w w' : World} {S : List Nat} (h : Dev w d m od y a c lg L) (hk : Keeps S w w') (hS : ∀ b ∈ S, w.heap.size ≤ b) : To d m (foot d m y L) od lg L w w' :=
  ⟨y, a, c, h.keeps hk (fun b hb hm => by have := h.lt b hb; have := hS b hm; omega), (Keeps.refl _ w).next hk (fun b hb => .inr (hS b hb)), fun b hb => .inl hb⟩
theorem To.late {w w1 w2 w' : World} {S F : List Nat} (h : To d m F od lg L w1 w2) (hk0 : Keeps [] w w1) (hk : Keeps S w2 w') (hS : ∀ b ∈ S, w.heap.size ≤ b ∧ b < w1.heap.size) (hF : ∀ b ∈ F, b < w.heap.size) : To d m F od lg L w w' := by
  obtain ⟨y, a, c, h1, h2, h3⟩ := h
  have hz := hk0.size
  refine ⟨y, a, c, h1.keeps hk (fun b hb hm => ?_), ((hk0.more (by simp)).trans h2).next hk (fun b hb => .inr (hS b hb).1), fun b hb => ?_⟩
  · have := hS b hm
    rcases h3 b hb with h4 | h4
    · have := hF b h4; omega
    · omega
  · rcases h3 b hb with h4 | h4
    · exact .inl h4
    · exact .inr (by omega)
/-- What Take gives: the port's first frame, and the ports behind it. -/
def takeV (L : List Pt) (k : Int) : FiF.It × Int × List Pt :=
  match pt? L k with
  | none => (f0, 7, L)
  | some x => match x.ws with
    | [] => (f0, 9, L)
    | f :: t => (f, 0, upd L { x with ws := t })
theorem take_none {k : Int} (h : pt? L k = none) : takeV L k = (f0, 7, L) := by unfold takeV; rw [h]
theorem take_empty {k : Int} {x : Pt} (h : pt? L k = some x) (hw : x.ws = []) : takeV L k = (f0, 9, L) := by unfold takeV; rw [h]; simp only [hw]
theorem take_some {k : Int} {x : Pt} {f : FiF.It} {t : List FiF.It} (h : pt? L k = some x) (hw : x.ws = f :: t) : takeV L k = (f, 0, upd L { x with ws := t }) := by unfold takeV; rw [h]; simp only [hw]
def IsTake (d m y : Nat) (od : Int) (lg : List Sn) (L : List Pt) (k : Int) (w : World) (e : Ending) (w' : World) : Prop :=
  e = .returned (.tuple #[fv (takeV L k).1, .int .i64 (takeV L k).2.1]) ∧ To d m (foot d m y L) od lg (takeV L k).2.2 w w'
set_option maxRecDepth 100000 in
theorem take_dev (k : Int) (w : World) (h : Dev w d m od y a c lg L) (hk : (Lit.int .i64 k).wf = true) :
    Calls Try.prog 16 #[.pointer (some ⟨d, 0, none⟩), .int .i64 k] w (IsTake d m y od lg L k w) := by
  have hk0 : Keeps [] w (w.alloc (.cells #[.int .i64 0, .int .i64 0, .string ⟨#[]⟩] 39)) := (Keeps.refl _ _).alloc _
  have hB := Blk.new w 39 #[.int .i64 0, .int .i64 0, .string ⟨#[]⟩]
  have h0 := h.kp hk0
  have HF := Lib.hid (find_any k _ h0 hk)
  rw [fnd_pt] at HF
  have hlt := h.lt
  rcases hp : pt? L k with _ | x
  · unfold IsTake
    rw [take_none hp]
    rw [hp] at HF
    have HD := Lib.hid h0
    clear h h0 hlt
    go_enter Try.func16, Try.ntmps16
    go_wp2_with fail
    refine HF.out.mono ?_
    rintro e w' ⟨rfl, rfl⟩
    simp only [Option.map_none, pv]
    go_wp2
    refine bodyPost_ret (v := .tuple #[fv f0, .int .i64 7]) (by simp [results, Try.results16, go_sem, fv, f0]) rfl ?_
    exact ⟨rfl, (To.refl HD.out (Keeps.refl _ _)).from hk0⟩
  · rw [hp] at HF
    obtain ⟨hx, hxo⟩ := pt_mem hp
    have hpx := h0.pt x hx
    obtain ⟨_, _, _, p3⟩ := hpx.cells
    have hf1 := hlt _ (bk_sub hx x.g (by simp [bks]))
    have hf2 := hlt _ (bk_sub hx x.r (by simp [bks]))
    rcases hw : x.ws with _ | ⟨f, t⟩
    · unfold IsTake
      rw [take_empty hp hw]
      have hq := hpx.q
      rw [hw] at hq
      have HP := Lib.hid (FiF.pop_none x.g x.r x.li x.dr _ hq)
      have HD := Lib.hid h0
      clear h h0 hq hpx
      go_enter Try.func16, Try.ntmps16
      go_wp2_with fail
      refine HF.out.mono ?_
      rintro e w' ⟨rfl, rfl⟩
      simp only [Option.map_some, pv]
      go_wp2_with fail
      refine HP.out.mono ?_
      rintro e w1 ⟨rfl, hk1⟩
      have hb1 := hB.keeps hk1 (by simp)
      have q0 : w1.cell? ⟨w.heap.size, 0, none⟩ = some (.int .i64 0) := hb1.cell 0
      have q1 : w1.cell? ⟨w.heap.size, 1, none⟩ = some (.int .i64 0) := hb1.cell 1
      have q2 : w1.cell? ⟨w.heap.size, 2, none⟩ = some (.string ⟨#[]⟩) := hb1.cell 2
      have hfr := hb1.frozen
      have hlt1 := hb1.lt
      clear hB hb1
      rw [fv_val]
      simp only [fv]
      go_wp2
      refine bodyPost_ret (v := .tuple #[fv f0, .int .i64 9]) (by simp [results, Try.results16, go_sem, fv, f0, q0, q1, q2, hlt1]) rfl ?_
      have hk3 : ∀ (w1 : World) (u v z : Value), Keeps [w.heap.size] w1 (((w1.setCell ⟨w.heap.size, 0, none⟩ u).setCell ⟨w.heap.size, 1, none⟩ v).setCell ⟨w.heap.size, 2, none⟩ z) := fun w1 u v z =>
        (((Keeps.refl _ w1).setCell (p := ⟨w.heap.size, 0, none⟩) (by simp) _).setCell (p := ⟨w.heap.size, 1, none⟩) (by simp) _).setCell (p := ⟨w.heap.size, 2, none⟩) (by simp) _
      exact ⟨rfl, To.late (To.refl HD.out hk1) hk0 ((hk3 w1 _ _ _).alloc _) (by simp) hlt⟩
    · unfold IsTake
      rw [take_some hp hw]
      have hq := hpx.q
      rw [hw] at hq
      have HP := Lib.hid (FiF.pop_some x.g x.r f t x.li x.dr _ hq)
      have HD := Lib.hid h0
      clear h h0 hq hpx
      go_enter Try.func16, Try.ntmps16
      go_wp2_with fail
      refine HF.out.mono ?_
      rintro e w' ⟨rfl, rfl⟩
      simp only [Option.map_some, pv]
      go_wp2_with fail
      refine HP.out.mono ?_
      rintro e w1 ⟨rfl, hq1, hk1⟩
      have hto := HD.out.turn (x' := { x with ws := t }) hx ⟨rfl, rfl, rfl, rfl, rfl⟩ hk1 (.inl rfl) hq1
      have hb1 := hB.keeps hk1 (by simp; omega)
      have q0 : w1.cell? ⟨w.heap.size, 0, none⟩ = some (.int .i64 0) := hb1.cell 0
      have q1 : w1.cell? ⟨w.heap.size, 1, none⟩ = some (.int .i64 0) := hb1.cell 1
      have q2 : w1.cell? ⟨w.heap.size, 2, none⟩ = some (.string ⟨#[]⟩) := hb1.cell 2
      have hfr := hb1.frozen
      have hlt1 := hb1.lt
      have HT := Lib.hid hto
      clear hB hb1 hto hq1
      rw [fv_val]
      simp only [fv]
      go_wp2
      refine bodyPost_ret (v := .tuple #[fv f, .int .i64 0]) (by simp [results, Try.results16, go_sem, fv, q0, q1, q2, hlt1]) rfl ?_
      have hk3 : ∀ (w1 : World) (u v z : Value), Keeps [w.heap.size] w1 (((w1.setCell ⟨w.heap.size, 0, none⟩ u).setCell ⟨w.heap.size, 1, none⟩ v).setCell ⟨w.heap.size, 2, none⟩ z) := fun w1 u v z =>
        (((Keeps.refl _ w1).setCell (p := ⟨w.heap.size, 0, none⟩) (by simp) _).setCell (p := ⟨w.heap.size, 1, none⟩) (by simp) _).setCell (p := ⟨w.heap.size, 2, none⟩) (by simp) _
      exact ⟨rfl, To.late HT.out hk0 ((hk3 w1 _ _ _).alloc _) (by simp) hlt⟩
end
end Nc
end Go.Proofs.Ytdbkgpnbmafpmaa
