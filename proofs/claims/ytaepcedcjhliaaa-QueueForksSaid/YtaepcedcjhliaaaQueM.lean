/- The document's queue: Settle, Finish, Backlog. -/
import Derived.Test.YtaepcedcjhliaaaQueL
import Derived.Test.YtaepcedcjhliaaaQueN
namespace Go.Proofs.Ytaepcedcjhliaaa
open Go.RowKit
namespace Qp
open Sm FiT
theorem setL_nil : setL [] = [] := rfl
theorem setD_nil (dl : List Cl) : setD [] dl = dl := by simp [setD, setB]
theorem setL_bad (x : It) (l : List It) (h : x.bad = true) : setL (x :: l) = setL l := by unfold setL; rw [List.dropWhile_cons, if_pos h]
theorem setD_bad (x : It) (l : List It) (dl : List Cl) (h : x.bad = true) : setD (x :: l) dl = setD l (dl ++ [⟨x, 2, 0⟩]) := by
  unfold setD setB
  rw [List.takeWhile_cons, if_pos h]
  simp [wrong]
theorem setL_ok (x : It) (l : List It) (h : x.bad = false) : setL (x :: l) = x :: l := by unfold setL; rw [List.dropWhile_cons, h, if_neg (by decide)]
theorem setD_ok (x : It) (l : List It) (dl : List Cl) (h : x.bad = false) : setD (x :: l) dl = dl := by
  unfold setD setB
  rw [List.takeWhile_cons, h, if_neg (by decide)]
  simp
theorem blkq {w : World} {b : Nat} {u v x : Value} (h : Blk w b 47 #[u, v, x]) : w.cell? ⟨b, 0, none⟩ = some u ∧ w.cell? ⟨b, 1, none⟩ = some v ∧ w.cell? ⟨b, 2, none⟩ = some x := ⟨h.cell 0, h.cell 1, h.cell 2⟩
theorem rf_bad {w : World} {F : List Nat} {a : Option Addr} {x : It} {l : List It} (h : Rd w F a (x :: l).length (flat ((x :: l).map pend))) : ∃ ab, a = some ⟨ab, 0, none⟩ ∧ w.cell? ⟨ab, 6, none⟩ = some (.bool x.bad) ∧ ab < w.heap.size := by
  obtain ⟨b, e, hl, _, hr⟩ := h.at_ 0 (pend x) rfl
  exact ⟨b, e, by have := hr 6 (.bool x.bad) rfl; rwa [Nat.zero_mul] at this, hl⟩
theorem rd_bad {w : World} {F : List Nat} {a : Option Addr} {n : Nat} {l : List It} (h : Rd w F a n (flat (l.map pend))) (k : Nat) (hk : k < l.length) : ∃ ab, a = some ⟨ab, 0, none⟩ ∧ w.cell? ⟨ab, k * 9 + 6, none⟩ = some (.bool l[k].bad) := by
  obtain ⟨b, e, hl, _, hr⟩ := h.at_ k (pend l[k]) (by rw [List.getElem?_map, List.getElem?_eq_getElem hk]; rfl)
  exact ⟨b, e, hr 6 (.bool l[k].bad) rfl⟩
attribute [local irreducible] cs clc setL setD
set_option maxRecDepth 100000 in
set_option maxHeartbeats 2000000 in
theorem rsettle_any (lim : Int) : ∀ (l : List It) (F : List Nat) (dl : List Cl) (v : Value) (w : World), Rf w F v l dl lim → (∀ b ∈ F, b < w.heap.size) → (l.length : Int) + (dl.length : Int) ≤ 100 →
    Calls Try.prog 28 #[v] w (IsRf F (setL l) (setD l dl) lim none w) := by
  intro l
  induction l with
  | nil =>
    intro F dl v w h hF hm
    rw [setL_nil, setD_nil]
    obtain ⟨a, c, b, d, rfl, ha, hb, hcap⟩ := h
    have H := Lib.hid (And.intro ha hb)
    clear ha hb
    go_enter Try.func28, Try.ntmps28
    go_wp2
    refine bodyPost_ret (v := .agg #[.slice a 0 c, .slice b dl.length d, .int .i64 lim]) (by simp [results, Try.results28, go_sem]) rfl ?_
    exact ⟨_, rfl, ⟨a, c, b, d, rfl, H.out.1.keeps (((Keeps.refl [] w).alloc _).alloc _) (by simp), H.out.2.keeps (((Keeps.refl [] w).alloc _).alloc _) (by simp), hcap⟩, ((Keeps.refl [] w).alloc _).alloc _⟩
  | cons x l ih =>
    intro F dl v w h hF hm
    have HF := Lib.hid h
    obtain ⟨a, c, b, d, rfl, ha, hb, hcap⟩ := h
    obtain ⟨ab, rfl, hc6, hab⟩ := rf_bad ha
    have hz := Blk.new (w.alloc (.cells #[.slice (some ⟨ab, 0, none⟩) (l.length + 1) c, .slice b dl.length d, .int .i64 lim] 47)) 47 #[.slice none 0 0, .slice none 0 0, .int .i64 0]
    have HA := Lib.hid (And.intro ha hb)
    clear ha hb
    rw [show (x :: l).length = l.length + 1 from rfl] at hcap hm
    have hk0 : Keeps [] w ((w.alloc (.cells #[.slice (some ⟨ab, 0, none⟩) (l.length + 1) c, .slice b dl.length d, .int .i64 lim] 47)).alloc (.cells #[.slice none 0 0, .slice none 0 0, .int .i64 0] 47)) := ((Keeps.refl [] w).alloc _).alloc _
    cases hbad : x.bad
    · rw [setL_ok x l hbad, setD_ok x l dl hbad]
      rw [hbad] at hc6
      clear hz
      go_enter Try.func28, Try.ntmps28
      go_wp2
      refine bodyPost_ret (v := .agg #[.slice (some ⟨ab, 0, none⟩) (l.length + 1) c, .slice b dl.length d, .int .i64 lim]) (by simp [results, Try.results28, go_sem]) rfl ?_
      exact ⟨_, rfl, HF.out.kp (((Keeps.refl [] w).alloc _).alloc _), ((Keeps.refl [] w).alloc _).alloc _⟩
    · rw [setL_bad x l hbad, setD_bad x l dl hbad]
      rw [hbad] at hc6
      have hF1 : ∀ z ∈ (w.heap.size + 1) :: F, z < ((w.alloc (.cells #[.slice (some ⟨ab, 0, none⟩) (l.length + 1) c, .slice b dl.length d, .int .i64 lim] 47)).alloc (.cells #[.slice none 0 0, .slice none 0 0, .int .i64 0] 47)).heap.size := by
        intro z m
        simp only [List.mem_cons] at m
        simp
        rcases m with rfl | m
        · omega
        · have := hF z m; omega
      have HC := Lib.hid (rfirst_ok 2 0 _ _ ((HF.out.more (G := (w.heap.size + 1) :: F) (by intro z hz; simp only [List.mem_cons] at hz; rcases hz with rfl | hz; exact .inr (by omega); exact .inl hz)).kp hk0) hF1 (by rw [show (x :: l).length = l.length + 1 from rfl]; omega))
      have HI := Lib.hid ih
      clear ih
      go_enter Try.func28, Try.ntmps28
      go_wp2_with fail
      refine HC.out.mono ?_
      clear HC
      rintro e w1 ⟨v1, rfl, hr1, hk1⟩
      have hk01 := hk0.trans hk1
      have hz1 := hz.keeps hk1 (by simp)
      have hk1s := hk1.size
      clear hz hk0 hk1
      dsimp only
      go_wp2_with fail
      refine (HI.out _ _ _ _ hr1 (fun b m => Nat.lt_of_lt_of_le (hF1 b m) hk1s) (by simp; omega)).mono ?_
      clear HI hr1
      rintro e w2 ⟨v2, rfl, hr2, hk2⟩
      have hk02 := hk01.trans hk2
      have hz2 := hz1.keeps hk2 (by simp)
      clear hz1 hk01 hk2
      obtain ⟨a2, c2, b2, d2, rfl, ha2, hb2, hcap2⟩ := hr2
      simp only [World.size_alloc] at hz2
      obtain ⟨r0, r1, r2⟩ := blkq hz2
      have hzf := hz2.frozen
      have H2 := Lib.hid (And.intro ha2 (And.intro hb2 (And.intro hcap2 hk02)))
      clear ha2 hb2 hcap2 hk02 hz2 HF HA
      dsimp only
      go_wp2
      refine bodyPost_ret (v := .agg #[.slice a2 (setL l).length c2, .slice b2 (setD l (dl ++ [⟨x, 2, 0⟩])).length d2, .int .i64 lim]) (by simp [results, Try.results28, go_sem, r0, r1, r2]) rfl ?_
      obtain ⟨ha2, hb2, hcap2, hk02⟩ := H2.out
      have := rf_end (F := F) (d := d2) (lim := lim) hk02 (keep3 (w.heap.size + 1) (.slice a2 (setL l).length c2) (.slice b2 (setD l (dl ++ [⟨x, 2, 0⟩])).length d2) (.int .i64 lim)) (by omega) ha2 hb2 hcap2
      exact ⟨_, rfl, this.1, this.2⟩
/-- What Finish of the document's gives. -/
def fin (l : List It) (dl : List Cl) (st n : Int) : List It × List Cl × Bool := match setL l with | [] => ([], setD l dl, false) | x :: t => (t, setD l dl ++ [⟨x, st, n⟩], true)
theorem fin_nil (l : List It) (dl : List Cl) (st n : Int) (h : setL l = []) : fin l dl st n = ([], setD l dl, false) := by unfold fin; rw [h]
theorem fin_cons (l t : List It) (x : It) (dl : List Cl) (st n : Int) (h : setL l = x :: t) : fin l dl st n = (t, setD l dl ++ [⟨x, st, n⟩], true) := by unfold fin; rw [h]
theorem set_tot (l : List It) (dl : List Cl) : (setL l).length + (setD l dl).length = l.length + dl.length := by
  have := setD_len l dl
  have := set_len l
  omega
set_option maxRecDepth 100000 in
set_option maxHeartbeats 2000000 in
theorem rfinish_any {F : List Nat} {l : List It} {dl : List Cl} {lim : Int} (st n : Int) (v : Value) (w : World) (h : Rf w F v l dl lim) (hF : ∀ b ∈ F, b < w.heap.size) (hm : (l.length : Int) + (dl.length : Int) ≤ 100) :
    Calls Try.prog 29 #[v, .int .i64 st, .int .i64 n] w (IsRf F (fin l dl st n).1 (fin l dl st n).2.1 lim (some (fin l dl st n).2.2) w) := by
  have HF := Lib.hid h
  obtain ⟨a, c, b, d, rfl, _, _, hcap⟩ := h
  have htot := set_tot l dl
  obtain ⟨A0, hA0⟩ : ∃ A0 : Value, A0 = .agg #[.slice a l.length c, .slice b dl.length d, .int .i64 lim] := ⟨_, rfl⟩
  have hk0 : Keeps [] w ((w.alloc (.cells #[.slice a l.length c, .slice b dl.length d, .int .i64 lim] 47)).alloc (.cells #[.slice none 0 0, .slice none 0 0, .int .i64 0] 47)) := ((Keeps.refl [] w).alloc _).alloc _
  have hz := Blk.new (w.alloc (.cells #[.slice a l.length c, .slice b dl.length d, .int .i64 lim] 47)) 47 #[.slice none 0 0, .slice none 0 0, .int .i64 0]
  have hF1 : ∀ z ∈ (w.heap.size + 1) :: F, z < ((w.alloc (.cells #[.slice a l.length c, .slice b dl.length d, .int .i64 lim] 47)).alloc (.cells #[.slice none 0 0, .slice none 0 0, .int .i64 0] 47)).heap.size := by
    intro z m
    simp only [List.mem_cons] at m
    simp
    rcases m with rfl | m
    · omega
    · have := hF z m; omega
  have HC := Lib.hid (rsettle_any lim l _ dl _ _ ((HF.out.more (G := (w.heap.size + 1) :: F) (by intro z hz; simp only [List.mem_cons] at hz; rcases hz with rfl | hz; exact .inr (by omega); exact .inl hz)).kp hk0) hF1 hm)
  clear hA0 A0
  rcases hl : setL l with _ | ⟨x, t⟩
  · rw [fin_nil l dl st n hl]
    go_enter Try.func29, Try.ntmps29
    go_wp2_with fail
    refine HC.out.mono ?_
    clear HC
    rintro e w1 ⟨v1, rfl, hr1, hk1⟩
    rw [hl] at hr1
    have hk01 := hk0.trans hk1
    have hz1 := hz.keeps hk1 (by simp)
    simp only [World.size_alloc] at hz1
    obtain ⟨a1, c1, b1, d1, rfl, ha1, hb1, hcap1⟩ := hr1
    have hw1 : w.heap.size + 1 < w1.heap.size := hz1.lt
    obtain ⟨r0, r1, r2⟩ := blkq hz1
    have hzf := hz1.frozen
    have H2 := Lib.hid (And.intro ha1 (And.intro hb1 hk01))
    clear ha1 hb1 hk01 hk1 hz hz1 hk0 HF
    dsimp only
    go_wp2
    refine bodyPost_ret (v := .tuple #[.agg #[.slice a1 0 c1, .slice b1 (setD l dl).length d1, .int .i64 lim], .bool false]) (by simp [results, Try.results29, go_sem, r0, r1, r2, hw1]) rfl ?_
    obtain ⟨ha1, hb1, hka⟩ := H2.out
    exact ⟨_, rfl, rf_end (F := F) (l := []) (c := c1) (d := d1) (lim := lim) hka ((keep3 (w.heap.size + 1) (.slice a1 0 c1) (.slice b1 (setD l dl).length d1) (.int .i64 lim)).alloc _) (by omega) ha1 hb1 (Nat.zero_le _)⟩
  · rw [fin_cons l t x dl st n hl]
    rw [hl] at htot
    go_enter Try.func29, Try.ntmps29
    go_wp2_with fail
    refine HC.out.mono ?_
    clear HC
    rintro e w1 ⟨v1, rfl, hr1, hk1⟩
    rw [hl] at hr1
    have hk01 := hk0.trans hk1
    have hz1 := hz.keeps hk1 (by simp)
    simp only [World.size_alloc] at hz1
    have HR1 := Lib.hid hr1
    obtain ⟨a1, c1, b1, d1, rfl, _, _, hcap1⟩ := hr1
    have hw1 : w.heap.size + 1 < w1.heap.size := hz1.lt
    have hz2 := hz1.alloc (.cells #[.slice a1 (t.length + 1) c1, .slice b1 (setD l dl).length d1, .int .i64 lim] 47)
    have hka := hk01.alloc (.cells #[.slice a1 (t.length + 1) c1, .slice b1 (setD l dl).length d1, .int .i64 lim] 47)
    have hkb : Keeps [] w1 (w1.alloc (.cells #[.slice a1 (t.length + 1) c1, .slice b1 (setD l dl).length d1, .int .i64 lim] 47)) := (Keeps.refl _ _).alloc _
    have HC := Lib.hid (rfirst_ok st n _ _ (HR1.out.kp hkb) (fun z m => Nat.lt_of_lt_of_le (hF1 z m) (Nat.le_trans hk1.size hkb.size)) (by rw [show (x :: t).length = t.length + 1 from rfl] at htot ⊢; omega))
    clear hk01 hk1 hz hz1 hk0 HF HR1 hF1 hkb
    dsimp only
    go_wp2_with fail
    refine HC.out.mono ?_
    clear HC
    rintro e w2 ⟨v2, rfl, hr2, hk2⟩
    have hz3 := hz2.keeps hk2 (by simp)
    obtain ⟨r0, r1, r2⟩ := blkq hz3
    have hzf := hz3.frozen
    obtain ⟨a2, c2, b2, d2, rfl, ha2, hb2, hcap2⟩ := hr2
    have H2 := Lib.hid (And.intro ha2 (And.intro hb2 (hka.trans hk2)))
    clear ha2 hb2 hka hk2 hz2 hz3
    dsimp only
    go_wp2
    refine bodyPost_ret (v := .tuple #[.agg #[.slice a2 t.length c2, .slice b2 (setD l dl ++ [(⟨x, st, n⟩ : Cl)]).length d2, .int .i64 lim], .bool true]) (by simp [results, Try.results29, go_sem, r0, r1, r2]) rfl ?_
    obtain ⟨ha2, hb2, hka⟩ := H2.out
    have := rf_end (F := F) (d := d2) (lim := lim) hka (keep3 (w.heap.size + 1) (.slice a2 t.length c2) (.slice b2 ((setD l dl).length + 1) d2) (.int .i64 lim)) (by omega) ha2 hb2 hcap2
    exact ⟨_, rfl, this.1, this.2⟩
attribute [local irreducible] bk
set_option maxRecDepth 100000 in
set_option maxHeartbeats 2000000 in
theorem rbacklog_any {F : List Nat} {l : List It} {dl : List Cl} {lim : Int} (v : Value) (w : World) (h : Rf w F v l dl lim) (hm : (l.length : Int) ≤ 100) :
    Calls Try.prog 30 #[v] w fun e w' => e = .returned (.int .i64 (bk l : Int)) ∧ Keeps [] w w' := by
  obtain ⟨a, c, b, d, rfl, ha, hb, hcap⟩ := h
  clear hb
  have hk0 : Keeps [] w (w.alloc (.cells #[.slice a l.length c, .slice b dl.length d, .int .i64 lim] 47)) := (Keeps.refl [] w).alloc _
  have HA := Lib.hid (ha.keeps hk0 (by simp))
  have hB := Blk.new w 47 #[.slice a l.length c, .slice b dl.length d, .int .i64 lim]
  clear ha
  go_enter Try.func30, Try.ntmps30
  go_wp2_with fail
  generalize w.alloc (.cells #[.slice a l.length c, .slice b dl.length d, .int .i64 lim] 47) = V at *
  obtain ⟨q0, _, _⟩ := blkq hB
  clear hB
  go_loopw [3, 4] (fun s i wx => ∃ k : Nat, k ≤ l.length ∧ i = .int .i64 k ∧ s = .int .i64 (bk (l.take k) : Int) ∧ wx = V) (fun _ i _ => l.length - (intOf i).toNat)
  case atStart => exact ⟨0, by omega, rfl, by simp [bk], rfl⟩
  case round =>
    obtain ⟨k, hk, rfl, rfl, rfl⟩ := hrel
    have hle := bk_le (l.take k)
    rw [List.length_take] at hle
    by_cases hlt : k < l.length
    · obtain ⟨ab, rfl, h6⟩ := rd_bad HA.out k hlt
      have hsn : bk (l.take (k + 1)) = bk (l.take k) + (if l[k].bad then 0 else 1) := by rw [List.take_succ_eq_append_getElem hlt, bk_snoc]
      have HS := Lib.hid hsn
      clear hsn
      have hk0' : (0 : Int) ≤ (k : Int) := by omega
      have hk1' : (k : Int) < (l.length : Int) := by omega
      generalize bk (l.take k) = m at *
      generalize l[k].bad = bb at *
      cases bb
      all_goals
        go_wp2
        go_roundw
        case rel => exact ⟨k + 1, by omega, by go_num, by rw [HS.out]; simp, trivial⟩
        case measure => simp [intOf]; omega
    · obtain rfl : k = l.length := by omega
      rw [List.take_length] at hle ⊢
      go_wp2
      go_ret
      exact ⟨rfl, hk0⟩
end Qp
end Go.Proofs.Ytaepcedcjhliaaa
