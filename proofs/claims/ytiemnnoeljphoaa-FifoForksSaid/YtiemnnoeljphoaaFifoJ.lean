/- The law's own loop over all things of a queue. -/
import Derived.Test.YtiemnnoeljphoaaFifoH
import Derived.Test.YtiemnnoeljphoaaFifoG
namespace Go.Proofs.Ytiemnnoeljphoaa
open Go.RowKit Go.Shelf
attribute [local go_sem] Oper.semAt_some
namespace FiR
open Sm FiS
abbrev Pr := Nat × ByteArray
def snds (l : List Pr) : List ByteArray := l.map (·.2)
/-- Each place is right. -/
def Right (l : List Pr) : Prop := ∀ (j : Nat) (x : Pr), l[j]? = some x → x.1 = j
theorem right_nil : Right [] := fun j x h => by simp at h
theorem right_snoc {l : List Pr} {x : Pr} (h : Right l) (hx : x.1 = l.length) : Right (l ++ [x]) := by
  intro j y hy
  by_cases hj : j < l.length
  · rw [List.getElem?_append_left hj] at hy; exact h j y hy
  · rw [List.getElem?_append_right (by omega)] at hy
    have : j - l.length = 0 := by
      rcases Nat.eq_zero_or_pos (j - l.length) with h0 | h0
      · exact h0
      · rw [List.getElem?_eq_none (by simp; omega)] at hy; cases hy
    rw [this] at hy
    simp at hy
    subst hy
    omega
theorem right_upto (L : List ByteArray) (k : Nat) : Right (upto L k) := by
  intro j x h
  have hj : j < k := by have := (List.getElem?_eq_some_iff.1 h).1; rw [upto_len] at this; exact this
  simp [upto, hj] at h
  rw [← h]
theorem snds_upto (L : List ByteArray) : snds (upto L L.length) = L := by
  apply List.ext_getElem
  · simp [snds, upto]
  · intro i h1 h2
    simp [snds, upto, h2]
theorem strs_snds_snoc (l : List Pr) (x : Pr) : strs (snds (l ++ [x])) = strs (snds l) ++ [.string x.2] := by simp [strs, snds]
def IsAll (L : List ByteArray) (w : World) (e : Ending) (w' : World) : Prop :=
  ∃ a c, e = .returned (.tuple #[.slice a L.length c, .bool true]) ∧ w'.ownsRow w.heap.size 9 1 (.slice a L.length c) L.length (strs L) ∧ Keeps [] w w'
set_option maxRecDepth 100000 in
set_option maxHeartbeats 2000000 in
theorem all_any (g r : Nat) (L : List ByteArray) (lim dr : Int) (hL : L.length ≤ 65536) (w : World) (hq : Qu w g r L lim dr) :
    Calls Try.prog 15 #[.pointer (some ⟨g, 0, none⟩)] w (IsAll L w) := by
  refine callsIn_wide (n := 20) |>.1 ?_
  have h1 : 1 ≤ 20 := by decide
  obtain ⟨i0, hi, hz0, hz1, hz2⟩ := info_parts str_info
  have HA := Lib.hid (fun w => callsIn_wide (n := 19) |>.2 (qall_any g w))
  have HQ := Lib.hid hq
  clear hq
  refine callsIn_of_wp_marks Try.func15 rfl trivial ?_ rfl
  simp only [Try.ntmps15, List.size_toArray, List.length_cons, List.length_nil, Nat.reduceAdd, Nat.reduceSub, Array.replicate_succ, Array.replicate_zero, List.push_toArray, List.append_toArray, List.nil_append, List.cons_append]
  gi_wp2
  refine ⟨trivial, (HA.out _).mono ?_⟩
  rintro e w' ⟨rfl, rfl⟩
  have hne : ∀ (p : Value) (w : World), (binOp .eql 57 (.func (.func 34) #[] #[p]) .nilFunc).run Try.prog w = .ok (.bool false) w := fun _ _ => by kernel_rfl
  gi_wp2
  have HK0 : Hid (Below w.heap.size w (((((w.alloc (.cells #[.slice none 0 0] 28)).alloc (.cells #[.bool false] 4)).alloc (.cells #[] 9)).alloc (.cells #[.slice (some ⟨w.heap.size + 1 + 1, 0, none⟩) 0 0] 28)).alloc (.cells #[.pointer (some ⟨g, 0, none⟩)] 23))) := Lib.hid ((((((Below.refl _ _).alloc (Nat.le_refl _) _).alloc (by simp) _).alloc (by simp; omega) _).alloc (by simp; omega) _).alloc (by simp; omega) _)
  have bR := ((((Boxed.new w 28 (.slice none 0 0)).alloc (.cells #[.bool false] 4)).alloc (.cells #[] 9)).alloc (.cells #[.slice (some ⟨w.heap.size + 1 + 1, 0, none⟩) 0 0] 28)).alloc (.cells #[.pointer (some ⟨g, 0, none⟩)] 23)
  have bB := (((Boxed.new (w.alloc (.cells #[.slice none 0 0] 28)) 4 (.bool false)).alloc (.cells #[] 9)).alloc (.cells #[.slice (some ⟨w.heap.size + 1 + 1, 0, none⟩) 0 0] 28)).alloc (.cells #[.pointer (some ⟨g, 0, none⟩)] 23)
  have bO := (Boxed.new (((w.alloc (.cells #[.slice none 0 0] 28)).alloc (.cells #[.bool false] 4)).alloc (.cells #[] 9)) 28 (.slice (some ⟨w.heap.size + 1 + 1, 0, none⟩) 0 0)).alloc (.cells #[.pointer (some ⟨g, 0, none⟩)] 23)
  have bQ := Boxed.new ((((w.alloc (.cells #[.slice none 0 0] 28)).alloc (.cells #[.bool false] 4)).alloc (.cells #[] 9)).alloc (.cells #[.slice (some ⟨w.heap.size + 1 + 1, 0, none⟩) 0 0] 28)) 23 (.pointer (some ⟨g, 0, none⟩))
  have oO := ((own_empty ((w.alloc (.cells #[.slice none 0 0] 28)).alloc (.cells #[.bool false] 4)) w.heap.size (by simp; omega) 9 1).alloc (.cells #[.slice (some ⟨w.heap.size + 1 + 1, 0, none⟩) 0 0] 28)).alloc (.cells #[.pointer (some ⟨g, 0, none⟩)] 23)
  simp only [World.size_alloc] at bB bO bQ oO
  have hq2 := HQ.out.keeps (Keeps.of_below HK0.out []) (by simp) (by simp)
  have hgl := HQ.out.lt
  have hsz : (((((w.alloc (.cells #[.slice none 0 0] 28)).alloc (.cells #[.bool false] 4)).alloc (.cells #[] 9)).alloc (.cells #[.slice (some ⟨w.heap.size + 1 + 1, 0, none⟩) 0 0] 28)).alloc (.cells #[.pointer (some ⟨g, 0, none⟩)] 23)).heap.size = w.heap.size + 1 + 1 + 1 + 1 + 1 := by simp
  obtain ⟨V, hV⟩ : ∃ V, (((((w.alloc (.cells #[.slice none 0 0] 28)).alloc (.cells #[.bool false] 4)).alloc (.cells #[] 9)).alloc (.cells #[.slice (some ⟨w.heap.size + 1 + 1, 0, none⟩) 0 0] 28)).alloc (.cells #[.pointer (some ⟨g, 0, none⟩)] 23)) = V := ⟨_, rfl⟩
  rw [hV] at HK0 bR bB bO bQ oO hq2 hsz ⊢
  clear hV
  have hkp : ∀ c ∈ [g, r, w.heap.size + 1 + 1 + 1 + 1], c < V.heap.size := by
    intro c hc
    simp at hc
    omega
  refine wpIn_rangeFunc_ownG rfl h1 (gf := 34) (lb := #[.pointer (some ⟨w.heap.size + 1 + 1 + 1 + 1, 0, none⟩)]) rfl trivial (enters_of Try.func34 (by kernel_rfl) rfl)
    (all_stops 19 (by decide) (w.heap.size + 1 + 1 + 1 + 1) g r L lim dr hL V bQ hq2) kps_t (kps_b hkp) (Below.refl _ _) (fun _ => rfl)
    (fun pre W => (∃ v, Boxed W (w.heap.size + 1 + 1 + 1) 28 v ∧ W.ownsRow w.heap.size 9 1 v pre.length (strs (snds pre)) ∧ True) ∧ (Boxed W w.heap.size 28 (.slice none 0 0) ∧ (Boxed W (w.heap.size + 1) 4 (.bool false) ∧ (Boxed W (w.heap.size + 1 + 1 + 1 + 1) 23 (.pointer (some ⟨g, 0, none⟩)) ∧ (Below w.heap.size w W ∧ Right pre)))))
    (fun _ pre _ => ¬ Right pre)
    (OwnFrom.and (Own.from (holdsRow_own w.heap.size (w.heap.size + 1 + 1 + 1) 28 9 1 (fun (pre : List Pr) => pre.length) (fun pre => strs (snds pre)) (fun _ _ => True)) _)
      (OwnFrom.and (Own.from (boxed_own w.heap.size 28 (fun _ => .slice none 0 0)) _)
        (OwnFrom.and (Own.from (boxed_own (w.heap.size + 1) 4 (fun _ => .bool false)) _)
          (OwnFrom.and (Own.from (boxed_own (w.heap.size + 1 + 1 + 1 + 1) 23 (fun _ => .pointer (some ⟨g, 0, none⟩))) _)
            (OwnFrom.and (ownFrom_below (Nat.le_refl _) (by omega)) (ownFrom_pure _ _))))))
    (fun _ => ownFrom_pure _ _)
    ⟨⟨_, bO, oO, trivial⟩, bR, bB, bQ, HK0.out, right_nil⟩
    (fun x => { tmps := #[.pointer (some ⟨g, 0, none⟩), undef, .pointer (some ⟨w.heap.size, 0, none⟩), .pointer (some ⟨w.heap.size + 1, 0, none⟩), .pointer (some ⟨w.heap.size + 1 + 1 + 1, 0, none⟩), .func (.func 34) #[] #[.pointer (some ⟨w.heap.size + 1 + 1 + 1 + 1, 0, none⟩)], .int .i64 (x.1 : Int), .string x.2, .slice (some ⟨w.heap.size + 1 + 1, 0, none⟩) 0 0, .pointer (some ⟨g, 0, none⟩), .func (.func 34) #[] #[.pointer (some ⟨w.heap.size + 1 + 1 + 1 + 1, 0, none⟩)], .func (.func 34) #[] #[.pointer (some ⟨w.heap.size + 1 + 1 + 1 + 1, 0, none⟩)], .bool false, undef, .func (.func 34) #[] #[.pointer (some ⟨w.heap.size + 1 + 1 + 1 + 1, 0, none⟩)], .int .i64 (x.1 : Int), .string x.2, undef, undef, undef, undef, undef, undef, undef, undef, undef, undef], defers := [] }) ?assign ?body ?done ?stop
  case assign =>
    intro l x W K hK
    gi_wp2
    exact hK
  case body =>
    rintro l pre x W ⟨⟨v, hv, hrow, _⟩, hR, hB, hQ, hBe, hRt⟩ hlt
    obtain ⟨a, c, rfl⟩ := own_form hrow
    have hc := hv.cell
    have hsz := hBe.size
    have hol : ∀ j, (Value.slice a pre.length c).ownBlock = some j → w.heap.size ≤ j := fun j hj => (hrow.lt j hj).1
    by_cases hx : x.1 = pre.length
    · have hdec : ((x.1 : Int) != (pre.length : Int)) = false := by simp [hx]
      gi_wp2_with (gi_at_builtin; refine wpListIn_append_own _ rfl _ _ 28 rfl w.heap.size 9 i0 (.string ⟨#[]⟩) 1 16 Try.underlying28 hi hz0 hz1 hz2 rfl (by decide) _ _ _ rfl (hrow.alloc _) ⟨W.heap.size, 0, none⟩ 1 1 [.string x.2] rfl rfl (cell_one_new _ _ _) (by simp [Value.oneCell']) (by simp only [maxLen]; omega) (by omega) (by simp; omega) ?_; intro v' w1 hown' hgrow _; obtain ⟨g', cap', rfl⟩ := ownsRow_succ hown'; obtain ⟨hv1, hv2, hr2, hk2, hb2⟩ := hv.appended (by decide) hrow hsz (by omega) hown' hgrow; have hc1 := hv1.cell; have hf1 := hv1.frozen)
      have hnr : ∀ j, j < W.heap.size → j ≠ w.heap.size + 1 + 1 + 1 → some j ≠ (Value.slice a pre.length c).ownBlock → (w1.setCell ⟨w.heap.size + 1 + 1 + 1, 0, none⟩ (.slice (some ⟨g', 0, none⟩) (pre.length + 1) cap')).heap[j]? = W.heap[j]? := fun j hj hne hnr =>
        (Below.heap_setCell w1 _ _ j hne).trans ((hgrow.block j (by simp; omega) hnr).trans (Below.heap_alloc W _ j hj))
      have hkp2 : KpS [g, r, w.heap.size + 1 + 1 + 1 + 1] W (w1.setCell ⟨w.heap.size + 1 + 1 + 1, 0, none⟩ (.slice (some ⟨g', 0, none⟩) (pre.length + 1) cap')) := by
        intro j hj
        simp at hj
        rcases hj with rfl | rfl | rfl
        · exact hnr _ (by omega) (by omega) (fun e => by have := hol _ e.symm; omega)
        · exact hnr _ (by omega) (by omega) (fun e => by have := hol _ e.symm; omega)
        · exact hnr _ hQ.lt (by omega) (hQ.not_row (by decide) hrow)
      refine ⟨hk2.from _, hkp2, ⟨_, hv2, ?_, trivial⟩, ?_, ?_, ?_, hBe.trans hb2, right_snoc hRt hx⟩
      · rw [strs_snds_snoc, List.length_append]
        exact hr2
      · exact (hnr _ hR.lt (by omega) (hR.not_row (by decide) hrow)).trans hR
      · exact (hnr _ hB.lt (by omega) (hB.not_row (by decide) hrow)).trans hB
      · exact (hnr _ hQ.lt (by omega) (hQ.not_row (by decide) hrow)).trans hQ
    · have hdec : ((x.1 : Int) != (pre.length : Int)) = true := by simp; omega
      have hR0 := hR.cell
      have hB0 := hB.cell
      have hRf := hR.frozen
      have hBf := hB.frozen
      have hnn : ¬ Right (pre ++ [x]) := fun h => hx (h pre.length x (by simp))
      gi_wp2
      exact ⟨((KeepsOthers.setCell _ _ _).trans (KeepsOthers.setCell _ _ _)).from _, hnn⟩
  case done =>
    rintro D ys W hD rfl ⟨⟨v, hv, hrow, _⟩, hR, hB, hQ, hBe, hRt⟩ hK
    rw [upto_len, snds_upto] at hrow
    obtain ⟨a, c, rfl⟩ := own_form hrow
    have hc := hv.cell
    have hR0 := hR.cell
    have hB0 := hB.cell
    have hRf := hR.frozen
    have hBf := hB.frozen
    have HRW := Lib.hid hrow
    clear hRt
    gi_wp2
    have hK' := ((KeepsOthers.setCell W ⟨w.heap.size, 0, none⟩ (.slice a L.length c)).trans (KeepsOthers.setCell _ ⟨w.heap.size + 1, 0, none⟩ (.bool true))).same D _ hK rfl
    have hR1 := (hR.set (.slice a L.length c)).other (B' := w.heap.size + 1) (by omega) (.bool true)
    have hB1 := (hB.other (B' := w.heap.size) (by omega) (.slice a L.length c)).set (.bool true)
    have hr1 := ownsRow_setCell (ownsRow_setCell HRW.out ⟨w.heap.size, 0, none⟩ (.slice a L.length c) (hR.not_row (by decide) HRW.out).symm) ⟨w.heap.size + 1, 0, none⟩ (.bool true) (hB.not_row (by decide) HRW.out).symm
    have hR2 := hR1.kept (grownBy_putObj' _ D (.deferred none)) (fun e => by cases e; omega)
    have hB2 := hB1.kept (grownBy_putObj' _ D (.deferred none)) (fun e => by cases e; omega)
    have hr2 := ownsRow_putObj hr1 (.deferred none) hK' rfl
    have hb2 := (((hBe.setCell (p := ⟨w.heap.size, 0, none⟩) (Nat.le_refl _) (.slice a L.length c)).setCell (p := ⟨w.heap.size + 1, 0, none⟩) (by simp) (.bool true)).trans (belowK_b (w := w) (Nat.le_refl _) _ D _ (.deferred none) (by omega) hK' rfl rfl))
    have e1 := hR2.cell
    have e2 := hB2.cell
    refine ⟨by simp, .inl ⟨_, _, rfl, run_takeDeferred hK', ?_⟩⟩
    refine ⟨.tuple #[.slice a L.length c, .bool true], ?_, a, c, rfl, hr2, Keeps.of_below hb2 []⟩
    simp [results, Try.f15, go_sem, e1, e2]
  case stop =>
    rintro D c pre W _ ⟨k, _, rfl⟩ hn _
    exact absurd (right_upto L k) hn
end FiR
end Go.Proofs.Ytiemnnoeljphoaa
