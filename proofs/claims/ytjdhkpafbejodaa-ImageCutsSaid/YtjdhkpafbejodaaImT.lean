/- The program's Parse: its walk. -/
import Derived.Test.YtjdhkpafbejodaaImS
namespace Go.Proofs.Ytjdhkpafbejodaa
open Go.RowKit
namespace Im
open Sm Bi
theorem Pa.set4 {W w : World} {rb b : Nat} {t : ByteArray} {σ : Int × Int} (h : Pa W w rb b t σ) (v0 v1 v2 v3 : Value) : Below W.heap.size W ((((w.setCell ⟨rb, 0, none⟩ v0).setCell ⟨rb, 1, none⟩ v1).setCell ⟨rb, 2, none⟩ v2).setCell ⟨rb, 3, none⟩ v3) := by
  have h1 := h.h1
  have hB : Below W.heap.size W w := h.k.all
  exact (((hB.setCell (by simp; omega) _).setCell (by simp; omega) _).setCell (by simp; omega) _).setCell (by simp; omega) _
attribute [local irreducible] Fin pE pC perr rdLeft cfgAt
theorem head_ne {t : ByteArray} (h : t.data.toList.take 2 ≠ [67, 1]) : ((t.extract 0 2).toList == [67, 1]) = false := by
  rw [ByteArray.toList_eq]
  simpa using h
theorem head_eq {t : ByteArray} (h : t.data.toList.take 2 = [67, 1]) : ((t.extract 0 2).toList == [67, 1]) = true := by
  rw [ByteArray.toList_eq]
  simpa using h
set_option maxRecDepth 100000 in
set_option maxHeartbeats 4000000 in
theorem parse_any (s : ByteArray) (W : World) (hs : s.size ≤ 2000) : Calls Try.prog 8 #[.string s] W (IsParse s.data.toList W) := by
  have HO := Lib.hid (Cw.open_any s (W.alloc (.cells #[.int .i64 0, .slice none 0 0, .slice none 0 0, .slice none 0 0] 28)) (by omega))
  have hle := open_le s.data.toList
  have HLE := Lib.hid hle
  obtain ⟨x, hx⟩ : ∃ x, (Cw.openV s.data.toList).2 = x := ⟨_, rfl⟩
  rw [hx] at HO
  have hB0 := (Below.refl W.heap.size W).alloc (Nat.le_refl _) (.cells #[.int .i64 0, .slice none 0 0, .slice none 0 0, .slice none 0 0] 28)
  have HB0 := Lib.hid hB0
  have hZ := Blk.new W 28 #[.int .i64 0, .slice none 0 0, .slice none 0 0, .slice none 0 0]
  have HZ := Lib.hid hZ
  by_cases he : x = 0
  case neg =>
    have HX := Lib.hid he
    have hp := pE_shut (l := s.data.toList) (by rw [hx]; exact he)
    rw [hx] at hp
    have HP := Lib.hid hp
    have hne : (x != 0) = true := by simpa using he
    clear hle hx hB0 hZ he hp
    go_enter Try.func8, Try.ntmps8
    go_wp2_with fail
    refine HO.out.mono ?_
    clear HO
    rintro e v1 ⟨t, rfl, ht, hb1⟩
    have hz1 := HZ.out.below hb1 (by simp)
    have HB := Lib.hid (HB0.out.trans (hb1.mono HB0.out.size))
    have q0 := hz1.cell 0
    have q1 := hz1.cell 1
    have q2 := hz1.cell 2
    have q3 := hz1.cell 3
    have qf := hz1.frozen
    clear hz1 ht hb1
    go_wp2
    refine bodyPost_ret (v := .tuple #[.agg #[.int .i64 0, .slice none 0 0, .slice none 0 0, .slice none 0 0], .int .i64 x]) (by simp [results, Try.results8, go_sem, q0, q1, q2, q3]) rfl ?_
    exact parse_err HP.out HX.out ((((HB.out.setCell (Nat.le_refl _) _).setCell (Nat.le_refl _) _).setCell (Nat.le_refl _) _).setCell (Nat.le_refl _) _)
  subst he
  have hp := pE_open hx
  have HP := Lib.hid hp
  have HCV := Lib.hid (fun (c : Cfg) (W' : World) (a1 a2 a3 : Option Addr) (c1 c2 c3 : Nat) (h : pE s.data.toList = 0) (hc : c = cfgAt (Cw.openV s.data.toList).1) hr hb => parse_ok (l := s.data.toList) (c := c) (W := W) (W' := W') (a1 := a1) (a2 := a2) (a3 := a3) (c1 := c1) (c2 := c2) (c3 := c3) h hc hr hb)
  generalize (Cw.openV s.data.toList).1 = tl at *
  clear hx hp hB0 hZ hle
  go_enter Try.func8, Try.ntmps8
  go_wp2_with fail
  refine HO.out.mono ?_
  clear HO
  rintro e v1 ⟨t, rfl, ht, hb1⟩
  have htz := size_of t _ ht
  have HTZ := Lib.hid (show t.size ≤ 2000 from by have := HLE.out; simp at this; omega)
  have HB1 := Lib.hid hb1
  clear hb1
  subst ht
  clear htz HLE
  go_wp2_with fail
  refine (new_any t v1).mono ?_
  rintro e v2 ⟨rfl, hr2, hk2⟩
  have hP := pa_0 HB1.out hr2 hk2
  clear HB1 hr2 hk2
  generalize W.heap.size = rb at hP ⊢
  have hszl : t.data.toList.length = t.size := by simp
  generalize hb0 : v1.heap.size = b at *
  by_cases h2 : 2 ≤ t.size
  · obtain ⟨e1, e2, e3⟩ := txt2 h2
    have HTX := Lib.hid (text_any b t 0 0 2 v2 hP.r (by decide) (by omega) (by have := HTZ.out; omega) (by decide))
    rw [e1, e2, e3] at HTX
    clear e1 e2 e3
    have HPa := Lib.hid hP
    clear hP
    have H2 := Lib.hid h2
    have HSZ := Lib.hid hszl
    clear h2 hszl
    go_wp2_with fail
    refine HTX.out.mono ?_
    clear HTX
    rintro e v3 ⟨rfl, hr3, hk3⟩
    have HP3 := Lib.hid (HPa.out.next (σ' := (2, 0)) hr3 hk3)
    have HER := Lib.hid (err_any b t 2 0 v3 hr3)
    clear HPa hr3 hk3
    go_wp2_with fail
    refine HER.out.mono ?_
    clear HER
    rintro e v4 ⟨rfl, hd4⟩
    have hP5 := (HP3.out.drawn hd4).same ((Keeps.refl [] v4).alloc (.cells #[.int .u8 67, .int .u8 1] 5))
    have hcv := Cw.two_bytes v4 67 1
    have hstr : (strOfNums [67, 1]).toList = [67, 1] := by rw [ByteArray.toList_eq]; decide
    clear HP3 hd4
    by_cases hh : t.data.toList.take 2 = [67, 1]
    · have hq := head_eq hh
      have HH := Lib.hid (fun h9 : 2 ≤ t.data.toList.length ∧ t.data.toList.take 2 ≠ [67, 1] => h9.2 hh)
      have HPa := Lib.hid hP5
      clear hP5 hh
      have HTB := Lib.hid (tables_any b t (2, 0) _ HPa.out.r ⟨by decide, by have := H2.out; simp only; omega⟩ (by have := HTZ.out; omega) (.inl ⟨rfl, H2.out⟩))
      go_wp2_with fail
      refine HTB.out.mono ?_
      clear HTB
      rintro e v5 ⟨⟨p, q⟩, c, a1, c1, a2, c2, a3, c3, rfl, hr5, ho5, hk5, hcf, hfin, hca⟩
      have hE := fin_err (c := c) (HH.out) hfin
      have hPz := HPa.out.z.lt
      have hP6 := (HPa.out.next (σ' := (p, q)) hr5 hk5).same ((Keeps.refl [] v5).alloc (.cells #[.int .i64 c.fr, .slice a1 c.ws.length c1, .slice a2 c.ss.length c2, .slice a3 c.cs.length c3] 28))
      have HT6 := Lib.hid (Blk.new v5 28 #[.int .i64 c.fr, .slice a1 c.ws.length c1, .slice a2 c.ss.length c2, .slice a3 c.cs.length c3])
      have HC6 := Lib.hid (And.intro (hcf.keep ((Below.refl v5.heap.size v5).alloc (Nat.le_refl _) (.cells #[.int .i64 c.fr, .slice a1 c.ws.length c1, .slice a2 c.ss.length c2, .slice a3 c.cs.length c3] 28))) hca)
      have hbt : b < v5.heap.size := hr5.lt
      have hrbt : rb < v5.heap.size := Nat.lt_of_lt_of_le hPz hk5.size
      have HOK := Lib.hid ho5
      have HRB := Lib.hid hPz
      clear HPa hr5 hk5 hcf hfin hca ho5 hPz
      rcases hE with ⟨hne, h5, hpe⟩ | ⟨h0, hl, hpe⟩ | ⟨h0, hl, hpe, hcc⟩
      · obtain rfl : q = 5 := h5
        have HPE := Lib.hid (HP.out.trans hpe)
        have HER := Lib.hid (err_any b t p 5 _ hP6.r)
        have HPb := Lib.hid hP6
        clear hP6
        go_wp2_with fail
        refine HER.out.mono ?_
        clear HER
        rintro e v7 ⟨rfl, hd7⟩
        have hP7 := HPb.out.drawn hd7
        have HT7 := Lib.hid (HT6.out.drawn hd7)
        have HC7 := Lib.hid (And.intro (HC6.out.1.keep (hd7.below _)) HC6.out.2)
        clear HT6 HC6 hd7 HPb
        have HER := Lib.hid (err_any b t p 5 _ hP7.r)
        have HPb := Lib.hid hP7
        clear hP7 hne hpe
        go_wp2_with fail
        refine HER.out.mono ?_
        clear HER
        rintro e v8 ⟨rfl, hd8⟩
        have hP8 := HPb.out.drawn hd8
        have HPc := Lib.hid hP8
        obtain ⟨q0, q1, q2, q3, qf⟩ := hP8.cells
        clear hP8 hd8 HPb
        go_wp2
        refine bodyPost_ret (v := .tuple #[.agg #[.int .i64 0, .slice none 0 0, .slice none 0 0, .slice none 0 0], .int .i64 5]) (by simp [results, Try.results8, go_sem, q0, q1, q2, q3]) rfl ?_
        exact parse_err HPE.out (by decide) (HPc.out.set4 _ _ _ _)
      · obtain rfl : q = 0 := h0
        have HPE := Lib.hid (HP.out.trans hpe)
        have HER := Lib.hid (err_any b t p 0 _ hP6.r)
        have HPb := Lib.hid hP6
        clear hP6
        go_wp2_with fail
        refine HER.out.mono ?_
        clear HER
        rintro e v7 ⟨rfl, hd7⟩
        have hP7 := HPb.out.drawn hd7
        have HT7 := Lib.hid (HT6.out.drawn hd7)
        have HC7 := Lib.hid (And.intro (HC6.out.1.keep (hd7.below _)) HC6.out.2)
        clear HT6 HC6 hd7 HPb
        have HLF := Lib.hid (left_any b t p 0 _ hP7.r HOK.out.1 HOK.out.2 (by have := HTZ.out; omega))
        have HPb := Lib.hid hP7
        try simp only at hl
        generalize rdLeft t p 0 = left at *
        clear hP7 hpe
        go_wp2_with fail
        refine HLF.out.mono ?_
        clear HLF
        rintro e v8 ⟨rfl, hd8⟩
        have hP8 := HPb.out.drawn hd8
        have HPc := Lib.hid hP8
        obtain ⟨q0, q1, q2, q3, qf⟩ := hP8.cells
        clear hP8 hd8 HPb
        go_wp2
        refine bodyPost_ret (v := .tuple #[.agg #[.int .i64 0, .slice none 0 0, .slice none 0 0, .slice none 0 0], .int .i64 3]) (by simp [results, Try.results8, go_sem, q0, q1, q2, q3]) rfl ?_
        exact parse_err HPE.out (by decide) (HPc.out.set4 _ _ _ _)
      · have HCC := Lib.hid hcc
        clear hcc
        obtain rfl : q = 0 := h0
        have HPE := Lib.hid (HP.out.trans hpe)
        have HER := Lib.hid (err_any b t p 0 _ hP6.r)
        have HPb := Lib.hid hP6
        clear hP6
        go_wp2_with fail
        refine HER.out.mono ?_
        clear HER
        rintro e v7 ⟨rfl, hd7⟩
        have hP7 := HPb.out.drawn hd7
        have HT7 := Lib.hid (HT6.out.drawn hd7)
        have HC7 := Lib.hid (And.intro (HC6.out.1.keep (hd7.below _)) HC6.out.2)
        clear HT6 HC6 hd7 HPb
        have HLF := Lib.hid (left_any b t p 0 _ hP7.r HOK.out.1 HOK.out.2 (by have := HTZ.out; omega))
        have HPb := Lib.hid hP7
        try simp only at hl
        generalize rdLeft t p 0 = left at *
        clear hP7 hpe
        go_wp2_with fail
        refine HLF.out.mono ?_
        clear HLF
        rintro e v8 ⟨rfl, hd8⟩
        have hP8 := HPb.out.drawn hd8
        have HPc := Lib.hid hP8
        obtain ⟨q0, q1, q2, q3, qf⟩ := hP8.cells
        have hT8 := HT7.out.drawn hd8
        have y0 := hT8.cell 0
        have y1 := hT8.cell 1
        have y2 := hT8.cell 2
        have y3 := hT8.cell 3
        have HC8 := Lib.hid (And.intro (HC7.out.1.keep (hd8.below _)) HC7.out.2)
        simp only [List.getElem?_toArray, List.getElem?_cons_succ, List.getElem?_cons_zero] at y0 y1 y2 y3
        subst hl
        clear hP8 hd8 HPb hT8 HT7 HC7
        obtain ⟨fr, hfr⟩ : ∃ x, c.fr = x := ⟨_, rfl⟩
        obtain ⟨n1, hn1⟩ : ∃ x, c.ws.length = x := ⟨_, rfl⟩
        obtain ⟨n2, hn2⟩ : ∃ x, c.ss.length = x := ⟨_, rfl⟩
        obtain ⟨n3, hn3⟩ : ∃ x, c.cs.length = x := ⟨_, rfl⟩
        have HNN := Lib.hid (And.intro hfr (And.intro hn1 (And.intro hn2 hn3)))
        rw [hfr] at y0
        rw [hn1] at y1
        rw [hn2] at y2
        rw [hn3] at y3
        clear hfr hn1 hn2 hn3
        go_wp2
        refine bodyPost_ret (v := .tuple #[.agg #[.int .i64 fr, .slice a1 n1 c1, .slice a2 n2 c2, .slice a3 n3 c3], .int .i64 0]) (by simp [results, Try.results8, go_sem, q0, q1, q2, q3]) rfl ?_
        rw [← HNN.out.1, ← HNN.out.2.1, ← HNN.out.2.2.1, ← HNN.out.2.2.2]
        refine HCV.out c _ a1 a2 a3 c1 c2 c3 HPE.out HCC.out ?_ (HPc.out.set4 _ _ _ _)
        exact HC8.out.1.keeps HC8.out.2 ((((((Keeps.refl [rb] _).setCell (p := ⟨rb, 0, none⟩) (by simp) _).setCell (p := ⟨rb, 1, none⟩) (by simp) _).setCell (p := ⟨rb, 2, none⟩) (by simp) _).setCell (p := ⟨rb, 3, none⟩) (by simp) _)) (by intro x hx; simp at hx; subst hx; exact HRB.out)
    · have hq := head_ne hh
      have HPE := Lib.hid (HP.out.trans (by unfold perr; rw [if_pos ⟨by rw [HSZ.out]; exact H2.out, hh⟩]))
      have HPc := Lib.hid hP5
      clear hh
      obtain ⟨q0, q1, q2, q3, qf⟩ := hP5.cells
      clear hP5
      go_wp2
      refine bodyPost_ret (v := .tuple #[.agg #[.int .i64 0, .slice none 0 0, .slice none 0 0, .slice none 0 0], .int .i64 3]) (by simp [results, Try.results8, go_sem, q0, q1, q2, q3]) rfl ?_
      exact parse_err HPE.out (by decide) (HPc.out.set4 _ _ _ _)
  · have h2' : t.size < 2 := by omega
    obtain ⟨e1, e2, e3⟩ := txt0 h2'
    have HTX := Lib.hid (text_any b t 0 0 2 v2 hP.r (by decide) (by omega) (by have := HTZ.out; omega) (by decide))
    rw [e1, e2, e3] at HTX
    clear e1 e2 e3
    have HPa := Lib.hid hP
    clear hP
    have H2 := Lib.hid h2'
    have HH := Lib.hid (fun h9 : 2 ≤ t.data.toList.length ∧ t.data.toList.take 2 ≠ [67, 1] => h2 (by rw [← hszl]; exact h9.1))
    clear h2 h2' hszl
    go_wp2_with fail
    refine HTX.out.mono ?_
    clear HTX
    rintro e v3 ⟨rfl, hr3, hk3⟩
    have HP3 := Lib.hid (HPa.out.next (σ' := (0, 5)) hr3 hk3)
    have HER := Lib.hid (err_any b t 0 5 v3 hr3)
    clear HPa hr3 hk3
    go_wp2_with fail
    refine HER.out.mono ?_
    clear HER
    rintro e v4 ⟨rfl, hd4⟩
    have hP5 := HP3.out.drawn hd4
    clear HP3 hd4
    have HPa := Lib.hid hP5
    clear hP5
    have HTB := Lib.hid (tables_any b t (0, 5) _ HPa.out.r ⟨by decide, by simp only; omega⟩ (by have := HTZ.out; omega) (.inr ⟨rfl, H2.out⟩))
    go_wp2_with fail
    refine HTB.out.mono ?_
    clear HTB
    rintro e v5 ⟨⟨p, q⟩, c, a1, c1, a2, c2, a3, c3, rfl, hr5, ho5, hk5, hcf, hfin, hca⟩
    have hE := fin_err (c := c) (HH.out) hfin
    have hPz := HPa.out.z.lt
    have hP6 := (HPa.out.next (σ' := (p, q)) hr5 hk5).same ((Keeps.refl [] v5).alloc (.cells #[.int .i64 c.fr, .slice a1 c.ws.length c1, .slice a2 c.ss.length c2, .slice a3 c.cs.length c3] 28))
    have HT6 := Lib.hid (Blk.new v5 28 #[.int .i64 c.fr, .slice a1 c.ws.length c1, .slice a2 c.ss.length c2, .slice a3 c.cs.length c3])
    have HC6 := Lib.hid (And.intro (hcf.keep ((Below.refl v5.heap.size v5).alloc (Nat.le_refl _) (.cells #[.int .i64 c.fr, .slice a1 c.ws.length c1, .slice a2 c.ss.length c2, .slice a3 c.cs.length c3] 28))) hca)
    have hbt : b < v5.heap.size := hr5.lt
    have hrbt : rb < v5.heap.size := Nat.lt_of_lt_of_le hPz hk5.size
    have HOK := Lib.hid ho5
    have HRB := Lib.hid hPz
    clear HPa hr5 hk5 hcf hfin hca ho5 hPz
    rcases hE with ⟨hne, h5, hpe⟩ | ⟨h0, hl, hpe⟩ | ⟨h0, hl, hpe, hcc⟩
    · obtain rfl : q = 5 := h5
      have HPE := Lib.hid (HP.out.trans hpe)
      have HER := Lib.hid (err_any b t p 5 _ hP6.r)
      have HPb := Lib.hid hP6
      clear hP6
      go_wp2_with fail
      refine HER.out.mono ?_
      clear HER
      rintro e v7 ⟨rfl, hd7⟩
      have hP7 := HPb.out.drawn hd7
      have HT7 := Lib.hid (HT6.out.drawn hd7)
      have HC7 := Lib.hid (And.intro (HC6.out.1.keep (hd7.below _)) HC6.out.2)
      clear HT6 HC6 hd7 HPb
      have HER := Lib.hid (err_any b t p 5 _ hP7.r)
      have HPb := Lib.hid hP7
      clear hP7 hne hpe
      go_wp2_with fail
      refine HER.out.mono ?_
      clear HER
      rintro e v8 ⟨rfl, hd8⟩
      have hP8 := HPb.out.drawn hd8
      have HPc := Lib.hid hP8
      obtain ⟨q0, q1, q2, q3, qf⟩ := hP8.cells
      clear hP8 hd8 HPb
      go_wp2
      refine bodyPost_ret (v := .tuple #[.agg #[.int .i64 0, .slice none 0 0, .slice none 0 0, .slice none 0 0], .int .i64 5]) (by simp [results, Try.results8, go_sem, q0, q1, q2, q3]) rfl ?_
      exact parse_err HPE.out (by decide) (HPc.out.set4 _ _ _ _)
    · obtain rfl : q = 0 := h0
      have HPE := Lib.hid (HP.out.trans hpe)
      have HER := Lib.hid (err_any b t p 0 _ hP6.r)
      have HPb := Lib.hid hP6
      clear hP6
      go_wp2_with fail
      refine HER.out.mono ?_
      clear HER
      rintro e v7 ⟨rfl, hd7⟩
      have hP7 := HPb.out.drawn hd7
      have HT7 := Lib.hid (HT6.out.drawn hd7)
      have HC7 := Lib.hid (And.intro (HC6.out.1.keep (hd7.below _)) HC6.out.2)
      clear HT6 HC6 hd7 HPb
      have HLF := Lib.hid (left_any b t p 0 _ hP7.r HOK.out.1 HOK.out.2 (by have := HTZ.out; omega))
      have HPb := Lib.hid hP7
      try simp only at hl
      generalize rdLeft t p 0 = left at *
      clear hP7 hpe
      go_wp2_with fail
      refine HLF.out.mono ?_
      clear HLF
      rintro e v8 ⟨rfl, hd8⟩
      have hP8 := HPb.out.drawn hd8
      have HPc := Lib.hid hP8
      obtain ⟨q0, q1, q2, q3, qf⟩ := hP8.cells
      clear hP8 hd8 HPb
      go_wp2
      refine bodyPost_ret (v := .tuple #[.agg #[.int .i64 0, .slice none 0 0, .slice none 0 0, .slice none 0 0], .int .i64 3]) (by simp [results, Try.results8, go_sem, q0, q1, q2, q3]) rfl ?_
      exact parse_err HPE.out (by decide) (HPc.out.set4 _ _ _ _)
    · have HCC := Lib.hid hcc
      clear hcc
      obtain rfl : q = 0 := h0
      have HPE := Lib.hid (HP.out.trans hpe)
      have HER := Lib.hid (err_any b t p 0 _ hP6.r)
      have HPb := Lib.hid hP6
      clear hP6
      go_wp2_with fail
      refine HER.out.mono ?_
      clear HER
      rintro e v7 ⟨rfl, hd7⟩
      have hP7 := HPb.out.drawn hd7
      have HT7 := Lib.hid (HT6.out.drawn hd7)
      have HC7 := Lib.hid (And.intro (HC6.out.1.keep (hd7.below _)) HC6.out.2)
      clear HT6 HC6 hd7 HPb
      have HLF := Lib.hid (left_any b t p 0 _ hP7.r HOK.out.1 HOK.out.2 (by have := HTZ.out; omega))
      have HPb := Lib.hid hP7
      try simp only at hl
      generalize rdLeft t p 0 = left at *
      clear hP7 hpe
      go_wp2_with fail
      refine HLF.out.mono ?_
      clear HLF
      rintro e v8 ⟨rfl, hd8⟩
      have hP8 := HPb.out.drawn hd8
      have HPc := Lib.hid hP8
      obtain ⟨q0, q1, q2, q3, qf⟩ := hP8.cells
      have hT8 := HT7.out.drawn hd8
      have y0 := hT8.cell 0
      have y1 := hT8.cell 1
      have y2 := hT8.cell 2
      have y3 := hT8.cell 3
      have HC8 := Lib.hid (And.intro (HC7.out.1.keep (hd8.below _)) HC7.out.2)
      simp only [List.getElem?_toArray, List.getElem?_cons_succ, List.getElem?_cons_zero] at y0 y1 y2 y3
      subst hl
      clear hP8 hd8 HPb hT8 HT7 HC7
      obtain ⟨fr, hfr⟩ : ∃ x, c.fr = x := ⟨_, rfl⟩
      obtain ⟨n1, hn1⟩ : ∃ x, c.ws.length = x := ⟨_, rfl⟩
      obtain ⟨n2, hn2⟩ : ∃ x, c.ss.length = x := ⟨_, rfl⟩
      obtain ⟨n3, hn3⟩ : ∃ x, c.cs.length = x := ⟨_, rfl⟩
      have HNN := Lib.hid (And.intro hfr (And.intro hn1 (And.intro hn2 hn3)))
      rw [hfr] at y0
      rw [hn1] at y1
      rw [hn2] at y2
      rw [hn3] at y3
      clear hfr hn1 hn2 hn3
      go_wp2
      refine bodyPost_ret (v := .tuple #[.agg #[.int .i64 fr, .slice a1 n1 c1, .slice a2 n2 c2, .slice a3 n3 c3], .int .i64 0]) (by simp [results, Try.results8, go_sem, q0, q1, q2, q3]) rfl ?_
      rw [← HNN.out.1, ← HNN.out.2.1, ← HNN.out.2.2.1, ← HNN.out.2.2.2]
      refine HCV.out c _ a1 a2 a3 c1 c2 c3 HPE.out HCC.out ?_ (HPc.out.set4 _ _ _ _)
      exact HC8.out.1.keeps HC8.out.2 ((((((Keeps.refl [rb] _).setCell (p := ⟨rb, 0, none⟩) (by simp) _).setCell (p := ⟨rb, 1, none⟩) (by simp) _).setCell (p := ⟨rb, 2, none⟩) (by simp) _).setCell (p := ⟨rb, 3, none⟩) (by simp) _)) (by intro x hx; simp at hx; subst hx; exact HRB.out)
end Im
end Go.Proofs.Ytjdhkpafbejodaa
