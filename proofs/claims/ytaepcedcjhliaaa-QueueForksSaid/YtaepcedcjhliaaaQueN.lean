/- Backlog: how many wait that are not wrong; Waits. -/
import Derived.Test.YtaepcedcjhliaaaQueK
import Derived.Test.YtaepcedcjhliaaaQueG
namespace Go.Proofs.Ytaepcedcjhliaaa
open Go.RowKit Go.Shelf
attribute [local go_sem] Oper.semAt_some FiT.cs
namespace Qp
open Sm FiT
/-- How many are not wrong. -/
def bk (l : List It) : Nat := (l.filter (fun x => !x.bad)).length
theorem bk_snoc (l : List It) (x : It) : bk (l ++ [x]) = bk l + (if x.bad then 0 else 1) := by
  unfold bk
  rw [List.filter_append, List.length_append]
  cases h : x.bad <;> simp [h]
theorem bk_le (l : List It) : bk l ≤ l.length := List.length_filter_le _ _
abbrev Pr := Nat × It
def snds (l : List Pr) : List It := l.map (·.2)
theorem snds_upto (L : List It) : snds (upto L L.length) = L := by
  apply List.ext_getElem
  · simp [snds, upto]
  · intro i h1 h2
    simp [snds, upto, h2]
theorem snds_snoc (l : List Pr) (x : Pr) : snds (l ++ [x]) = snds l ++ [x.2] := by simp [snds]
theorem snds_len (l : List Pr) : (snds l).length = l.length := by simp [snds]
attribute [local irreducible] bk
set_option maxRecDepth 100000 in
set_option maxHeartbeats 2000000 in
theorem backlog_any {q g r y c : Nat} {a : Option Addr} {L : List It} {dl : List Cl} {lim : Int} (w : World) (h : Qe w q g r y a c L dl lim) :
    Calls Try.prog 19 #[.pointer (some ⟨q, 0, none⟩)] w fun e w' => e = .returned (.int .i64 (bk L : Int)) ∧ Keeps [] w w' := by
  refine callsIn_wide (n := 20) |>.1 ?_
  have h1 : 1 ≤ 20 := by decide
  have HA := Lib.hid (fun w => callsIn_wide (n := 19) |>.2 (qall_any g w))
  have hL : L.length ≤ 65536 := by have := h.hl; have := h.hm; omega
  have hq := h.f
  have hqq := h.b.lt
  have hgl := h.f.lt
  have c0 : w.cell? ⟨q, 0, none⟩ = some (.pointer (some ⟨g, 0, none⟩)) := h.b.cell 0
  have HQ := Lib.hid hq
  clear hq h
  refine callsIn_of_wp_marks Try.func19 rfl trivial ?_ rfl
  simp only [Try.ntmps19, List.size_toArray, List.length_cons, List.length_nil, Nat.reduceAdd, Nat.reduceSub, Array.replicate_succ, Array.replicate_zero, List.push_toArray, List.append_toArray, List.nil_append, List.cons_append]
  gi_wp2
  refine ⟨trivial, (HA.out _).mono ?_⟩
  rintro e w' ⟨rfl, rfl⟩
  gi_wp2
  have hb0 : Below w.heap.size w ((w.alloc (.cells #[.int .i64 0] 3)).alloc (.cells #[.pointer (some ⟨g, 0, none⟩)] 54)) := ((Below.refl _ w).alloc (Nat.le_refl _) _).alloc (by simp) _
  have bN := (Boxed.new w 3 (.int .i64 0)).alloc (.cells #[.pointer (some ⟨g, 0, none⟩)] 54)
  have bQ := Boxed.new (w.alloc (.cells #[.int .i64 0] 3)) 54 (.pointer (some ⟨g, 0, none⟩))
  simp only [World.size_alloc] at bQ
  have hq2 := HQ.out.keeps (Keeps.of_below hb0 []) (by simp) (by simp)
  have hsz : ((w.alloc (.cells #[.int .i64 0] 3)).alloc (.cells #[.pointer (some ⟨g, 0, none⟩)] 54)).heap.size = w.heap.size + 1 + 1 := by simp
  obtain ⟨V, hV⟩ : ∃ V, ((w.alloc (.cells #[.int .i64 0] 3)).alloc (.cells #[.pointer (some ⟨g, 0, none⟩)] 54)) = V := ⟨_, rfl⟩
  rw [hV] at hb0 bN bQ hq2 hsz ⊢
  clear hV c0
  have hkp : ∀ c ∈ [g, r, w.heap.size + 1], c < V.heap.size := by
    intro c hc
    simp at hc
    omega
  refine wpIn_rangeFunc_ownH rfl h1 (gf := 39) (lb := #[.pointer (some ⟨w.heap.size + 1, 0, none⟩)]) rfl trivial (enters_of Try.func39 (by kernel_rfl) rfl)
    (all_stops 19 (by decide) (w.heap.size + 1) g r L lim 0 hL V bQ hq2) kps_t (kps_b hkp) (Below.refl _ _) (fun _ => rfl)
    (fun pre W => Boxed W w.heap.size 3 (.int .i64 (bk (snds pre) : Int)) ∧ (Boxed W (w.heap.size + 1) 54 (.pointer (some ⟨g, 0, none⟩)) ∧ Below w.heap.size w W))
    (fun _ _ _ => False)
    (OwnFrom.and (Own.from (boxed_own w.heap.size 3 (fun pre => .int .i64 (bk (snds pre) : Int))) _) (OwnFrom.and (Own.from (boxed_own (w.heap.size + 1) 54 (fun _ => .pointer (some ⟨g, 0, none⟩))) _) (ownFrom_below (Nat.le_refl _) (by omega))))
    (fun _ => ownFrom_pure _ _)
    ⟨by simpa [snds, bk] using bN, bQ, hb0⟩
    (fun x a' W => ∃ Bx, w.heap.size + 1 < Bx ∧ Blk W Bx 30 (cs x.2).toArray ∧ a' = { tmps := #[.pointer (some ⟨q, 0, none⟩), undef, .int .i64 0, .pointer (some ⟨w.heap.size, 0, none⟩), undef, .pointer (some ⟨Bx, 0, none⟩), .pointer (some ⟨q, 0, none⟩), .bool true, .pointer (some ⟨q, 0, none⟩), .pointer (some ⟨q, 0, none⟩), .pointer (some ⟨q, 0, none⟩), .pointer (some ⟨g, 0, none⟩), .func (.func 39) #[] #[.pointer (some ⟨w.heap.size + 1, 0, none⟩)], .int .i64 (x.1 : Int), val x.2, undef, undef, undef, undef, undef, undef], defers := [] })
    (fun x a' _ X Y row hs hg hr => by
      obtain ⟨Bx, e1, e2, e3⟩ := hs
      exact ⟨Bx, e1, e2.grown hg (fun e => by obtain ⟨_, o, ho, hc⟩ := hr Bx e.symm; rw [show X.heap[Bx]? = _ from e2] at ho; cases ho; cases hc), e3⟩)
    ?assign ?body ?done ?stop
  case assign =>
    rintro l pre x W K ⟨bN1, bQ1, hB1⟩ hK
    have hsW := hB1.size
    gi_wp2
    refine hK _ _ ((KeepsOthers.alloc _ _).from _) ?_ ⟨bN1.alloc _, bQ1.alloc _, hB1.alloc hsW _⟩ ⟨W.heap.size, bQ1.lt, Blk.new W _ _, rfl⟩
    intro b hb
    refine Below.heap_alloc _ _ _ ?_
    simp at hb
    have := bQ1.lt
    omega
  case body =>
    rintro l pre x a' W hl _ ⟨bN1, bQ1, hB1⟩ ⟨Bx, hBx, bX, rfl⟩ hlt
    have cN := bN1.cell
    have fN := bN1.frozen
    have hsW := hB1.size
    have c6 : W.cell? ⟨Bx, 6, none⟩ = some (.bool x.2.bad) := bX.cell 6
    have hbk := bk_snoc (snds pre) x.2
    have hle := bk_le (snds pre)
    rw [snds_len] at hle
    rw [← snds_snoc] at hbk
    have HB := Lib.hid (And.intro bN1 (And.intro bQ1 (And.intro hB1 hbk)))
    clear bN1 bQ1 hB1 hbk
    cases hbad : x.2.bad
    · rw [hbad] at c6
      have hw9 : (bk (snds pre) : Int) + 1 ≤ 100000 := by omega
      generalize bk (snds pre) = m at *
      gi_wp2
      obtain ⟨bN1, bQ1, hB1, hbk⟩ := HB.out
      rw [hbad] at hbk
      simp at hbk
      refine ⟨(KeepsOthers.setCell _ _ _).from _, ?_, ?_, bQ1.other (by omega) _, hB1.setCell (p := ⟨w.heap.size, 0, none⟩) (Nat.le_refl _) _⟩
      · intro b hb
        refine Below.heap_setCell _ _ _ _ ?_
        simp at hb
        show b ≠ w.heap.size
        omega
      · rw [hbk]
        exact bN1.set _
    · rw [hbad] at c6
      gi_wp2
      obtain ⟨bN1, bQ1, hB1, hbk⟩ := HB.out
      rw [hbad] at hbk
      simp at hbk
      exact ⟨(KeepsOthers.refl _).from _, kps_refl _ _, by rw [hbk]; exact bN1, bQ1, hB1⟩
  case done =>
    rintro D ys W hD rfl ⟨bN1, bQ1, hB1⟩ hK
    rw [snds_upto] at bN1
    have cN := bN1.cell
    gi_wp2
    refine ⟨by simp, .inl ⟨_, _, rfl, run_takeDeferred hK, ?_⟩⟩
    refine ⟨.int .i64 (bk L : Int), ?_, rfl, Keeps.of_below (hB1.trans (belowK_b (w := w) (Nat.le_refl _) _ D _ (.deferred none) (by omega) hK rfl rfl)) []⟩
    simp [results, Try.f19, go_sem]
  case stop =>
    rintro D c pre W _ _ hn _
    exact hn.elim
theorem waits_any {q g r y c : Nat} {a : Option Addr} {l : List It} {dl : List Cl} {lim : Int} (w : World) (h : Qe w q g r y a c l dl lim) :
    Calls Try.prog 18 #[.pointer (some ⟨q, 0, none⟩)] w fun e w' => e = .returned (.int .i64 (l.length : Int)) ∧ w = w' := by
  have c0 : w.cell? ⟨q, 0, none⟩ = some (.pointer (some ⟨g, 0, none⟩)) := h.b.cell 0
  have HL := Lib.hid (len_any g r l lim 0 w h.f)
  clear h
  go_enter Try.func18, Try.ntmps18
  go_wp2_with fail
  refine HL.out.mono ?_
  rintro e w' ⟨rfl, rfl⟩
  go_wp2
  go_ret
  exact ⟨rfl, rfl⟩
theorem waits_nil (w : World) : Calls Try.prog 18 #[.pointer none] w fun e w' => e = .returned (.int .i64 0) ∧ w = w' := by
  go_enter Try.func18, Try.ntmps18
  go_wp2
  go_ret
  exact ⟨rfl, rfl⟩
theorem backlog_nil (w : World) : Calls Try.prog 19 #[.pointer none] w fun e w' => e = .returned (.int .i64 0) ∧ Keeps [] w w' := by
  go_enter Try.func19, Try.ntmps19
  go_wp2
  go_ret
  exact ⟨rfl, (Keeps.refl _ _).alloc _⟩
end Qp
end Go.Proofs.Ytaepcedcjhliaaa
