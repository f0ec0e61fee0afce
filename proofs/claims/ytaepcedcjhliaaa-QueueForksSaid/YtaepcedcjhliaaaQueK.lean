/- All things of a queue, one behind the other: what the loop over them is handed. -/
import Derived.Test.YtaepcedcjhliaaaQrTC
import Derived.Test.YtaepcedcjhliaaaQrTE
import Derived.RangeFuncNested
import Derived.RangeFuncBound
import Derived.RangeFuncCalls
import Derived.RangeFuncLeaves
import Derived.RangeFuncBox
import Derived.Shelf.Abstract
import Derived.Shelf.RegionOpen
import Derived.WalkKit
import Derived.OwnWalkIn
import Derived.TacticsInMore
import Derived.LoopNIn
import Derived.LoopIn
import Derived.Maps.AppendAt
namespace Go.Proofs.Ytaepcedcjhliaaa
open Go.RowKit Go.Shelf
attribute [local go_sem] Oper.semAt_some FiT.cs
namespace FiT
open Sm
/-- Some blocks lie as they lay. -/
def KpS (S : List Nat) (W W' : World) : Prop := ∀ b ∈ S, W'.heap[b]? = W.heap[b]?
theorem kps_refl (S : List Nat) (W : World) : KpS S W W := fun _ _ => rfl
theorem kps_t {S : List Nat} {A B C : World} (h : KpS S A B) (k : KpS S B C) : KpS S A C := fun b hb => (k b hb).trans (h b hb)
theorem kps_b {S : List Nat} {w : World} (hS : ∀ b ∈ S, b < w.heap.size) (W : World) (l : Nat) (o o' : Obj) (hl : w.heap.size ≤ l) (_ : W.heap[l]? = some o) (_ : o.isCells = false) (_ : o.isWalk = false) : KpS S W (W.putObj l o') :=
  fun b hb => World.putObj_heap_other (by have := hS b hb; omega)
theorem kps_k {S : List Nat} {w w' : World} (h : Keeps [] w w') (hS : ∀ b ∈ S, b < w.heap.size) : KpS S w w' := fun b hb => h.block b (hS b hb) (by simp)
theorem blk_same {w w' : World} {g : Nat} {t : TypeId} {cs : Array Value} (h : Blk w g t cs) (e : w'.heap[g]? = w.heap[g]?) : Blk w' g t cs := e.trans h
theorem room_same {w w' : World} {b len : Nat} {R : Nat → It} (h : Room w b len R) (e : w'.heap[b]? = w.heap[b]?) : Room w' b len R := by
  refine ⟨fun i hi j v hv => (World.cell?_of_block (w := w) e).trans (h.at_ i hi j v hv), fun i hi j hj => (World.frozen?_of_block (w := w) e).trans (h.free_ i hi j hj), ?_⟩
  rcases Nat.lt_or_ge b w'.heap.size with h1 | h1
  · exact h1
  · rw [Array.getElem?_eq_none h1] at e
    rw [Array.getElem?_eq_getElem h.lt] at e
    cases e
theorem Qu.same {w w' : World} {g r : Nat} {l : List It} {lim dr : Int} (h : Qu w g r l lim dr) (hg : w'.heap[g]? = w.heap[g]?) (hr : w'.heap[r]? = w.heap[r]?) : Qu w' g r l lim dr := by
  obtain ⟨A, len, c, f, R, h1, h2⟩ := h
  exact ⟨A, len, c, f, R, ⟨blk_same h1.q hg, h1.room.imp id fun ⟨r1, r2, r3, r4⟩ => ⟨r1, r2, r3, room_same r4 hr⟩, h1.hf, h1.hn, h1.hlen⟩, h2⟩
/-- What has come when k rounds are over. -/
def upto (L : List It) (k : Nat) : List (Nat × It) := (List.range k).map fun j => (j, L.getD j z)
theorem upto_s (L : List It) (k : Nat) : upto L (k + 1) = upto L k ++ [(k, L.getD k z)] := by simp [upto, List.range_succ]
theorem upto_len (L : List It) (k : Nat) : (upto L k).length = k := by simp [upto]
set_option maxRecDepth 100000 in
set_option maxHeartbeats 2000000 in
theorem all1_in (n : Nat) (hn : 1 ≤ n) (l Bq g r : Nat) (L : List It) (lim dr : Int) (hL : L.length ≤ 65536) (J Jx : List (Nat × It) → World → Prop) (W : World)
    (hJ : AbidesFrom W.heap.size J)
    (hY : ∀ pre x W1, J pre W1 → pre.length < L.length → YieldAt Fence.wide (n - 1) Try.prog l #[.int .i64 (x.1 : Int), val x.2] W1 fun e W' =>
      (e = .returned (.bool true) ∧ J (pre ++ [x]) W' ∧ KpS [g, r, Bq] W1 W') ∨ (e = .returned (.bool false) ∧ Jx (pre ++ [x]) W'))
    (hBq : Blk W Bq 54 #[.pointer (some ⟨g, 0, none⟩)]) (hq : Qu W g r L lim dr) (h0 : J [] W) :
    CallsIn Fence.wide n Try.prog 39 #[.func (.yield l) #[] #[], .pointer (some ⟨Bq, 0, none⟩)] W fun e W' => (∃ v, e = .returned v) ∧
      ((∃ ys, ys = upto L L.length ∧ J ys W') ∨ (∃ pre, (∃ k, k ≤ L.length ∧ pre = upto L k) ∧ Jx pre W')) := by
  refine callsIn_of_wp Try.func39 rfl trivial ?_ rfl
  simp only [Try.ntmps39, List.size_toArray, List.length_cons, List.length_nil, Nat.reduceAdd, Nat.reduceSub, Array.replicate_succ, Array.replicate_zero, List.push_toArray, List.append_toArray, List.nil_append, List.cons_append]
  have c0 : W.cell? ⟨Bq, 0, none⟩ = some (.pointer (some ⟨g, 0, none⟩)) := hBq.cell 0
  have HQ := Lib.hid hq
  have HL := Lib.hid (fun w h => callsIn_wide (n := n - 1) |>.2 (len_any g r L lim dr w h))
  clear hq
  gi_wp2
  refine ⟨trivial, (HL.out _ HQ.out).mono ?_⟩
  rintro e w' ⟨rfl, rfl⟩
  have HBQ := Lib.hid hBq
  have HJ := Lib.hid hJ
  have HY := Lib.hid hY
  clear hBq hJ hY c0 HL
  gi_wp2
  gi_loopw [8] (fun i wr => ∃ k : Nat, k ≤ L.length ∧ i = .int .i64 k ∧ J (upto L k) wr ∧ KpS [g, r, Bq] W wr) (fun i _ => L.length - (intOf i).toNat)
  case atStart => exact ⟨0, Nat.zero_le _, rfl, h0, kps_refl _ _⟩
  case round =>
    clear h0
    obtain ⟨k, hk, rfl, hJs, hK⟩ := hrel
    have hq := HQ.out.same (hK g (by simp)) (hK r (by simp))
    have hb := blk_same HBQ.out (hK Bq (by simp))
    have c0 : wr.cell? ⟨Bq, 0, none⟩ = some (.pointer (some ⟨g, 0, none⟩)) := hb.cell 0
    by_cases hlt : k < L.length
    · have hx : L[k]? = some (L.getD k z) := by rw [List.getD_eq_getElem?_getD, List.getElem?_eq_getElem hlt]; rfl
      have HP := Lib.hid (callsIn_wide (n := n - 1) |>.2 (peek_in g r L lim dr k _ wr hq hx))
      have HJS := Lib.hid hJs
      have HKK := Lib.hid hK
      have hgl := hq.lt
      have hBl := hb.lt
      have HUS := Lib.hid (upto_s L k)
      clear hx hq hb hJs hK
      generalize L.getD k z = x at *
      gi_wp2
      refine ⟨trivial, HP.out.mono ?_⟩
      rintro e w1 ⟨rfl, hkw⟩
      have hkw2 : Keeps [] wr (w1.alloc (.cells #[.int .i64 x.k, .int .u8 x.wh, .int .u8 x.st, .int .i64 x.ad, .int .i64 x.ln, .int .i64 x.ar, .bool x.bad] 30)) := hkw.alloc _
      obtain ⟨fn, tmps, assign, body, hy, hR⟩ := HY.out (upto L k) (k, x) (w1.alloc (.cells #[.int .i64 x.k, .int .u8 x.wh, .int .u8 x.st, .int .i64 x.ad, .int .i64 x.ln, .int .i64 x.ar, .bool x.bad] 30)) (HJ.out _ wr _ none HJS.out ⟨hkw2.os, hkw2.tape, hkw2.output, hkw2.size, fun k hk _ => hkw2.block k hk (by simp)⟩ (fun _ e => by cases e)) (by rw [upto_len]; exact hlt)
      dsimp only [val, cs] at hy
      have HR := Lib.hid hR
      clear hR
      gi_wp2
      refine HR.out.mono ?_
      rintro e W3 (⟨rfl, hJ3, hk3⟩ | ⟨rfl, hJx3⟩)
      · have HJ3 := Lib.hid hJ3
        have HK3 : Hid (KpS [g, r, Bq] W W3) := Lib.hid (kps_t (kps_t HKK.out (kps_k hkw2 (by simp; omega))) (show KpS [g, r, Bq] (w1.alloc (.cells #[.int .i64 x.k, .int .u8 x.wh, .int .u8 x.st, .int .i64 x.ad, .int .i64 x.ln, .int .i64 x.ar, .bool x.bad] 30)) W3 from hk3))
        clear hJ3 hk3
        gi_wp2
        go_roundw
        case rel => exact ⟨k + 1, by omega, by go_num, by rw [HUS.out]; exact HJ3.out, HK3.out⟩
        case measure => simp [intOf]; omega
      · have HJ3 := Lib.hid hJx3
        clear hJx3
        gi_wp2
        refine bodyPost_ret (results_none rfl _ _ _) rfl ?_
        exact ⟨⟨_, rfl⟩, .inr ⟨_, ⟨k + 1, by omega, HUS.out.symm⟩, HJ3.out⟩⟩
    · obtain rfl : k = L.length := by omega
      have HJS := Lib.hid hJs
      clear hq hb hJs hK
      gi_wp2
      go_end0
      exact ⟨⟨_, rfl⟩, .inl ⟨_, rfl, HJS.out⟩⟩
/-- The queue's All hands back a value that gives all its things, in order. -/
theorem all_stops (n : Nat) (hn : 1 ≤ n) (Bq g r : Nat) (L : List It) (lim dr : Int) (hL : L.length ≤ 65536) (w : World) (hBq : Blk w Bq 54 #[.pointer (some ⟨g, 0, none⟩)]) (hq : Qu w g r L lim dr) :
    SeqStopsK Fence.wide n Try.prog 39 #[.pointer (some ⟨Bq, 0, none⟩)] (fun x : Nat × It => #[Value.int .i64 (x.1 : Int), val x.2]) (KpS [g, r, Bq]) (fun ys => ys = upto L L.length)
      (fun pre => ∃ k, k ≤ L.length ∧ pre = upto L k) L.length w := fun l J Jx W hW hJ _ hY h0 => by
  have hk := Keeps.of_below hW []
  exact all1_in n hn l Bq g r L lim dr hL J Jx W hJ hY (hBq.keeps hk (by simp)) (hq.keeps hk (by simp) (by simp)) h0
theorem qall_any (g : Nat) (w : World) : Calls Try.prog 33 #[.pointer (some ⟨g, 0, none⟩)] w fun e w' => e = .returned (.func (.func 39) #[] #[.pointer (some ⟨w.heap.size, 0, none⟩)]) ∧ w' = w.alloc (.cells #[.pointer (some ⟨g, 0, none⟩)] 54) := by
  have hmf : ∀ (fn : Fn) (first cap : Array Value) (w : World), (Instr.makeFunc fn first cap).run Try.prog w = .ok (.func fn first cap) w := fun _ _ _ _ => rfl
  go_enter Try.func33, Try.ntmps33
  go_wp2
  go_ret
  exact ⟨rfl, rfl⟩
end FiT
end Go.Proofs.Ytaepcedcjhliaaa
