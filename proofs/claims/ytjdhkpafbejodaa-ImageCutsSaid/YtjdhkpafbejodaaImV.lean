/- The document's Parse: its walk. -/
import Derived.Test.YtjdhkpafbejodaaImU
namespace Go.Proofs.Ytjdhkpafbejodaa
open Go.RowKit
namespace Im
open Sm Bi
attribute [local irreducible] pE pC perr b1 b2 cfgAt n1 n2 n3 rowsAt
theorem rhead_ne {t : ByteArray} (h : t.data.toList.take 2 ≠ [67, 1]) : ((t.extract 0 2).toList == [67, 1]) = false := by
  rw [ByteArray.toList_eq]
  simpa using h
theorem rhead_eq {t : ByteArray} (h : t.data.toList.take 2 = [67, 1]) : ((t.extract 0 2).toList == [67, 1]) = true := by
  rw [ByteArray.toList_eq]
  simpa using h
theorem n1_b (T : List UInt8) : b1 T 4 = (n1 T : Int) := by unfold b1 n1; rfl
theorem n2_b (T : List UInt8) : b1 T (i1 T) = (n2 T : Int) := by unfold b1 n2; rfl
theorem n3_b (T : List UInt8) : b1 T (i2 T) = (n3 T : Int) := by unfold b1 n3; rfl
theorem share {X Y : Prop} (h : X) (f : Hid X → Y) : Y := f (Lib.hid h)
/-- Where the parts of bytes lie. -/
structure Iz (T : List UInt8) (N1 N2 N3 : Nat) : Prop where
  e1 : n1 T = N1
  e2 : n2 T = N2
  e3 : n3 T = N3
  j1 : i1 T = 5 + N1 * 5
  j2 : i2 T = 5 + N1 * 5 + 1 + N2 * 5
  j3 : i3 T = 5 + N1 * 5 + 1 + N2 * 5 + 1 + N3 * 14
  l1 : N1 ≤ 255
  l2 : N2 ≤ 255
  l3 : N3 ≤ 255
theorem iz (T : List UInt8) : Iz T (n1 T) (n2 T) (n3 T) := ⟨rfl, rfl, rfl, rfl, rfl, rfl, n1_le T, n2_le T, n3_le T⟩
theorem cfg_of {T : List UInt8} {N1 N2 N3 : Nat} {fr : Int} {X1 X2 X3 : List (List Int)} (h : Iz T N1 N2 N3) (h0 : fr = b2 T 2) (h1 : X1 = rowsAt (winAt T) 5 5 N1) (h2 : X2 = rowsAt (winAt T) 5 (5 + N1 * 5 + 1) N2) (h3 : X3 = rowsAt (cliAt T) 14 (5 + N1 * 5 + 1 + N2 * 5 + 1) N3) : (⟨fr, X1, X2, X3⟩ : Cfg) = cfgAt T := by
  unfold cfgAt
  rw [h.e1, h.e2, h.e3, h.j1, h.j2, h0, h1, h2, h3]
set_option maxRecDepth 100000 in
set_option maxHeartbeats 16000000 in
theorem rparse_any (s : ByteArray) (W : World) (hs : s.size ≤ 2000) : Calls Try.prog 9 #[.string s] W (IsParse s.data.toList W) := by
  have hB0 := (Below.refl W.heap.size W).alloc (Nat.le_refl _) (.cells #[.int .i64 0, .slice none 0 0, .slice none 0 0, .slice none 0 0] 28)
  have HB0 := Lib.hid hB0
  have hZ := Blk.new W 28 #[.int .i64 0, .slice none 0 0, .slice none 0 0, .slice none 0 0]
  have HZ := Lib.hid hZ
  have hll : s.data.toList.length = s.size := by simp
  by_cases h2 : s.size < 2
  case pos =>
    have HPE := Lib.hid (pE_short (l := s.data.toList) (by omega))
    have q0 := hZ.cell 0
    have q1 := hZ.cell 1
    have q2 := hZ.cell 2
    have q3 := hZ.cell 3
    have qf := hZ.frozen
    clear hB0 hZ hll
    go_enter Try.func9, Try.ntmps9
    go_wp2
    refine bodyPost_ret (v := .tuple #[.agg #[.int .i64 0, .slice none 0 0, .slice none 0 0, .slice none 0 0], .int .i64 5]) (by simp [results, Try.results9, go_sem, q0, q1, q2, q3]) rfl ?_
    exact parse_err HPE.out (by decide) HB0.out
  have ht : (s.extract 0 (s.size - 2)).data.toList = s.data.toList.take (s.data.toList.length - 2) := by simp
  have htz : (s.extract 0 (s.size - 2)).size = s.size - 2 := by simp
  have hcast : ((s.size : Int) - 2).toNat = s.size - 2 := by omega
  have HS := Lib.hid (Cw.rseal_any (s.extract 0 (s.size - 2)) (W.alloc (.cells #[.int .i64 0, .slice none 0 0, .slice none 0 0, .slice none 0 0] 28)) (by omega))
  have HL := Lib.hid (And.intro hll (And.intro ht htz))
  have H2 := Lib.hid h2
  clear hB0 hZ hll ht htz
  go_enter Try.func9, Try.ntmps9
  go_wp2_with fail
  refine HS.out.mono ?_
  clear HS
  rintro e v1 ⟨r, rfl, hr, hb1⟩
  have hz1 := HZ.out.below hb1 (by simp)
  have hB := HB0.out.trans (hb1.mono HB0.out.size)
  clear hb1
  by_cases hck : r.data.toList = s.data.toList
  case neg =>
    have hq := seq_false hck
    have HPE := Lib.hid (pE_check (l := s.data.toList) (by have := H2.out; have := HL.out.1; omega) (by rw [← HL.out.2.1, ← hr]; exact hck))
    have HB := Lib.hid hB
    have q0 := hz1.cell 0
    have q1 := hz1.cell 1
    have q2 := hz1.cell 2
    have q3 := hz1.cell 3
    have qf := hz1.frozen
    clear hB hz1 hr hck
    go_wp2
    refine bodyPost_ret (v := .tuple #[.agg #[.int .i64 0, .slice none 0 0, .slice none 0 0, .slice none 0 0], .int .i64 10]) (by simp [results, Try.results9, go_sem, q0, q1, q2, q3]) rfl ?_
    exact parse_err HPE.out (by decide) ((((HB.out.setCell (Nat.le_refl _) _).setCell (Nat.le_refl _) _).setCell (Nat.le_refl _) _).setCell (Nat.le_refl _) _)
  have hq := seq_true hck
  have hog := open_good (l := s.data.toList) (by have := H2.out; have := HL.out.1; omega) (by rw [← HL.out.2.1, ← hr]; exact hck)
  rw [← HL.out.2.1] at hog
  have hp : pE s.data.toList = perr (s.extract 0 (s.size - 2)).data.toList := by rw [pE_open (by rw [hog]), hog]
  have hcv := fun (c : Cfg) (W' : World) (a1 a2 a3 : Option Addr) (c1 c2 c3 : Nat) (h : pE s.data.toList = 0) (hc : c = cfgAt (Cw.openV s.data.toList).1) hr hb => parse_ok (l := s.data.toList) (c := c) (W := W) (W' := W') (a1 := a1) (a2 := a2) (a3 := a3) (c1 := c1) (c2 := c2) (c3 := c3) h hc hr hb
  rw [hog] at hcv
  simp only at hcv
  have HCV := Lib.hid hcv
  have HP := Lib.hid hp
  have hts : (s.extract 0 (s.size - 2)).size ≤ 2000 := by rw [HL.out.2.2]; omega
  clear hog hp hcv hck hr HL
  generalize s.extract 0 (s.size - 2) = t at *
  have HB1 := Lib.hid (And.intro hB hz1)
  have q0 := hz1.cell 0
  have q1 := hz1.cell 1
  have q2 := hz1.cell 2
  have q3 := hz1.cell 3
  have qf := hz1.frozen
  have htl : t.data.toList.length = t.size := by simp
  have hstr2 : (ByteArray.mk #[67, 1]).toList = [67, 1] := by rw [ByteArray.toList_eq]
  obtain ⟨N1, N2, N3, hiz⟩ : ∃ N1 N2 N3, Iz t.data.toList N1 N2 N3 := ⟨_, _, _, iz _⟩
  have HIZ := Lib.hid hiz
  have HTL := Lib.hid htl
  clear hB hz1 htl hiz
  by_cases hhd : 2 ≤ t.size ∧ t.data.toList.take 2 ≠ [67, 1]
  case pos =>
    have HPE := Lib.hid (HP.out.trans (perr_head (by rw [HTL.out]; exact hhd.1) hhd.2))
    have hq2 := rhead_ne hhd.2
    have hge : (2 : Int) ≤ (t.size : Int) := by omega
    clear hhd
    go_wp2
    refine bodyPost_ret (v := .tuple #[.agg #[.int .i64 0, .slice none 0 0, .slice none 0 0, .slice none 0 0], .int .i64 3]) (by simp [results, Try.results9, go_sem, q0, q1, q2, q3]) rfl ?_
    exact parse_err HPE.out (by decide) ((((HB1.out.1.setCell (Nat.le_refl _) _).setCell (Nat.le_refl _) _).setCell (Nat.le_refl _) _).setCell (Nat.le_refl _) _)
  have HH := Lib.hid (fun h9 : 2 ≤ t.data.toList.length ∧ t.data.toList.take 2 ≠ [67, 1] => hhd (by rw [HTL.out] at h9; exact h9))
  by_cases h5 : t.size < 5
  case pos =>
    have HPE := Lib.hid (HP.out.trans (perr_end HH.out (by rw [HTL.out, HIZ.out.j3]; omega)))
    by_cases h22 : t.size < 2
    · clear hhd
      go_wp2
      refine bodyPost_ret (v := .tuple #[.agg #[.int .i64 0, .slice none 0 0, .slice none 0 0, .slice none 0 0], .int .i64 5]) (by simp [results, Try.results9, go_sem, q0, q1, q2, q3]) rfl ?_
      exact parse_err HPE.out (by decide) ((((HB1.out.1.setCell (Nat.le_refl _) _).setCell (Nat.le_refl _) _).setCell (Nat.le_refl _) _).setCell (Nat.le_refl _) _)
    · have hq2 := rhead_eq (t := t) (by by_cases h9 : t.data.toList.take 2 = [67, 1]; exact h9; exact absurd ⟨by omega, h9⟩ hhd)
      have hge : (2 : Int) ≤ (t.size : Int) := by omega
      clear hhd h22
      go_wp2
      refine bodyPost_ret (v := .tuple #[.agg #[.int .i64 0, .slice none 0 0, .slice none 0 0, .slice none 0 0], .int .i64 5]) (by simp [results, Try.results9, go_sem, q0, q1, q2, q3]) rfl ?_
      exact parse_err HPE.out (by decide) ((((HB1.out.1.setCell (Nat.le_refl _) _).setCell (Nat.le_refl _) _).setCell (Nat.le_refl _) _).setCell (Nat.le_refl _) _)
  have hq2 := rhead_eq (t := t) (by by_cases h9 : t.data.toList.take 2 = [67, 1]; exact h9; exact absurd ⟨by omega, h9⟩ hhd)
  have hge : (2 : Int) ≤ (t.size : Int) := by omega
  have HC := Lib.hid (fun V => at2x t 2 2 V rfl (by omega) (by omega))
  have hn := fun V => at1x t 4 4 V rfl (by omega) (by omega)
  rw [n1_b, HIZ.out.e1] at hn
  have HN1 := Lib.hid hn
  clear hhd hn
  go_wp2_with fail
  refine (HC.out _).mono ?_
  clear HC
  rintro e v2 ⟨rfl, rfl⟩
  have hT := rc_0 W v1 (b2 t.data.toList 2) HB1.out.1 HB1.out.2
  clear q0 q1 q2 q3 qf
  generalize hgf : b2 t.data.toList 2 = fr at hT ⊢
  have HFQ := Lib.hid hgf
  have HT := Lib.hid hT
  clear hT hgf HB0 HZ HB1
  go_wp2_with fail
  generalize hbc : v1.heap.size = bc at *
  generalize hrc : W.heap.size = rc at HT ⊢
  generalize v1.alloc _ = v3 at *
  refine (HN1.out _).mono ?_
  clear HN1
  rintro e v4 ⟨rfl, rfl⟩
  have hN1 := HIZ.out.l1
  go_wp2_with fail
  go_loopw [6, 7] (fun i nn wr => ∃ (k m p : Nat) (X1 : List (List Int)) (a1 : Option Addr) (c1 : Nat), k + m = N1 ∧ p = 5 + k * 5 ∧ p ≤ t.size ∧ i = .int .i64 (p : Int) ∧ nn = .int .i64 (m : Int) ∧ X1 = rowsAt (winAt t.data.toList) 5 5 k ∧ Rc W wr rc bc fr X1 [] [] a1 c1 none 0 none 0) (fun _ nn _ => (intOf nn).toNat)
  case atStart => exact ⟨0, N1, 5, [], none, 0, by omega, by omega, by omega, rfl, rfl, by unfold rowsAt; rfl, HT.out⟩
  case round =>
    obtain ⟨k, m, p, X1, a1, c1, hkm, hp, hpl, rfl, rfl, hX, hT⟩ := hrel
    clear HT
    have HT := Lib.hid hT
    have HPK1 := Lib.hid (And.intro hkm hp)
    have HX1 := Lib.hid hX
    have hNl := HIZ.out.l1
    have hk255 : k ≤ 255 ∧ m ≤ 255 := by omega
    have hxb1 : X1.length ≤ 255 := by rw [hX, rowsAt_len]; exact hk255.1
    obtain ⟨hk255, hm255⟩ := hk255
    clear hT hX hkm hp
    have hj3 := HIZ.out.j3
    by_cases hm : 0 < m
    · have hm' : (0 : Int) < (m : Int) := by omega
      by_cases hfit : t.size < p + 5
      · have HPE := Lib.hid (HP.out.trans (perr_end HH.out (by have := HPK1.out; rw [HTL.out, hj3]; omega)))
        obtain ⟨q0, q1, q2, q3, qf⟩ := HT.out.cells
        go_wp2
        refine bodyPost_ret (v := .tuple #[.agg #[.int .i64 0, .slice none 0 0, .slice none 0 0, .slice none 0 0], .int .i64 5]) (by simp [results, Try.results9, go_sem, q0, q1, q2, q3]) rfl ?_
        exact parse_err HPE.out (by decide) (HT.out.set4 _ _ _ _)
      · have HI0 := info_parts win_info
        obtain ⟨i0, hi0, hz0, hz1, hz2⟩ := HI0
        have HI := Lib.hid (And.intro hi0 (And.intro hz0 (And.intro hz1 hz2)))
        clear hi0 hz0 hz1 hz2
        have HA0 := Lib.hid (fun V => at1x t ((p : Int)) p V (by omega) (by omega) (by omega))
        have HA1 := Lib.hid (fun V => at2x t ((p : Int) + 1) (p + 1) V (by omega) (by omega) (by omega))
        have HA2 := Lib.hid (fun V => at2x t ((p : Int) + 3) (p + 3) V (by omega) (by omega) (by omega))
        have hw1 : IntKind.i64.wrap ((p : Int) + 1) = (p : Int) + 1 := IntWalk.i64_in _ (by omega)
        have hw3 : IntKind.i64.wrap ((p : Int) + 3) = (p : Int) + 3 := IntWalk.i64_in _ (by omega)
        go_wp2
        refine wp_region_held_drew (S := AnyW) (by kernel_rfl) trivial (fun hHeld => ?_)
        have HT := Lib.hid (HT.out.same ((Keeps.refl [] _).drew))
        generalize World.drew _ = U0 at *
        refine' wpAnyH_take (i := 0) (oi := _) (v := _) ?hR10 (by kernel_rfl) (by kernel_rfl) (by kernel_rfl) ?hQR10 (Or.inl ⟨?hwR10, ?hyR10⟩) trivial ?restR10
        case hR10 => (simp only [List.getElem?_toArray, List.getElem?_cons_zero]; rfl)
        case hQR10 => exact fun _ _ _ h => h
        case hwR10 => rfl
        case hyR10 => (intro w hSw; (try dsimp only at hSw); go_simp; try with_reducible rfl)
        try simp only [Act.put, List.setIfInBounds_toArray, List.set_cons_zero, List.set_cons_succ]
        refine' wpAnyH_take (i := 2) (oi := _) (v := _) ?hR12 (by kernel_rfl) (by kernel_rfl) (by kernel_rfl) ?hQR12 (Or.inl ⟨?hwR12, ?hyR12⟩) trivial ?restR12
        case hR12 => (simp only [List.getElem?_toArray, List.getElem?_cons_succ, List.getElem?_cons_zero]; rfl)
        case hQR12 => exact fun _ _ _ h => h
        case hwR12 => rfl
        case hyR12 => (intro w hSw; (try dsimp only at hSw); go_simp; try with_reducible rfl)
        try simp only [Act.put, List.setIfInBounds_toArray, List.set_cons_zero, List.set_cons_succ]
        refine' wpAnyH_take (i := 3) (oi := _) (v := _) ?hR13 (by kernel_rfl) (by kernel_rfl) (by kernel_rfl) ?hQR13 (Or.inl ⟨?hwR13, ?hyR13⟩) trivial ?restR13
        case hR13 => (simp only [List.getElem?_toArray, List.getElem?_cons_succ, List.getElem?_cons_zero]; rfl)
        case hQR13 => exact fun _ _ _ h => h
        case hwR13 => rfl
        case hyR13 => (intro w hSw; (try dsimp only at hSw); go_simp; try with_reducible rfl)
        try simp only [Act.put, List.setIfInBounds_toArray, List.set_cons_zero, List.set_cons_succ]
        refine' wpAnyH_take (i := 5) (oi := _) (v := _) ?hR15 (by kernel_rfl) (by kernel_rfl) (by kernel_rfl) ?hQR15 (Or.inl ⟨?hwR15, ?hyR15⟩) trivial ?restR15
        case hR15 => (simp only [List.getElem?_toArray, List.getElem?_cons_succ, List.getElem?_cons_zero]; rfl)
        case hQR15 => exact fun _ _ _ h => h
        case hwR15 => rfl
        case hyR15 => (intro w hSw; (try dsimp only at hSw); go_simp; try with_reducible rfl)
        try simp only [Act.put, List.setIfInBounds_toArray, List.set_cons_zero, List.set_cons_succ]
        refine' wpAnyH_take (i := 6) (oi := _) (v := _) ?hR16 (by kernel_rfl) (by kernel_rfl) (by kernel_rfl) ?hQR16 (Or.inl ⟨?hwR16, ?hyR16⟩) trivial ?restR16
        case hR16 => (simp only [List.getElem?_toArray, List.getElem?_cons_succ, List.getElem?_cons_zero]; rfl)
        case hQR16 => exact fun _ _ _ h => h
        case hwR16 => rfl
        case hyR16 => (intro w hSw; (try dsimp only at hSw); go_simp; try with_reducible rfl)
        try simp only [Act.put, List.setIfInBounds_toArray, List.set_cons_zero, List.set_cons_succ]
        refine' wpAnyH_take (i := 7) (oi := _) (v := _) ?hR17 (by kernel_rfl) (by kernel_rfl) (by kernel_rfl) ?hQR17 (Or.inl ⟨?hwR17, ?hyR17⟩) trivial ?restR17
        case hR17 => (simp only [List.getElem?_toArray, List.getElem?_cons_succ, List.getElem?_cons_zero]; rfl)
        case hQR17 => exact fun _ _ _ h => h
        case hwR17 => rfl
        case hyR17 => (intro w hSw; (try dsimp only at hSw); go_simp; try with_reducible rfl)
        try simp only [Act.put, List.setIfInBounds_toArray, List.set_cons_zero, List.set_cons_succ]
        refine' wpAnyH_take (i := 9) (oi := _) (v := _) ?hR19 (by kernel_rfl) (by kernel_rfl) (by kernel_rfl) ?hQR19 (Or.inl ⟨?hwR19, ?hyR19⟩) trivial ?restR19
        case hR19 => (simp only [List.getElem?_toArray, List.getElem?_cons_succ, List.getElem?_cons_zero]; rfl)
        case hQR19 => exact fun _ _ _ h => h
        case hwR19 => rfl
        case hyR19 => (intro w hSw; (try dsimp only at hSw); go_simp; try with_reducible rfl)
        try simp only [Act.put, List.setIfInBounds_toArray, List.set_cons_zero, List.set_cons_succ]
        refine' wpAnyH_take (i := 10) (oi := _) (v := _) ?hR110 (by kernel_rfl) (by kernel_rfl) (by kernel_rfl) ?hQR110 (Or.inl ⟨?hwR110, ?hyR110⟩) trivial ?restR110
        case hR110 => (simp only [List.getElem?_toArray, List.getElem?_cons_succ, List.getElem?_cons_zero]; rfl)
        case hQR110 => exact fun _ _ _ h => h
        case hwR110 => rfl
        case hyR110 => (intro w hSw; (try dsimp only at hSw); go_simp; try with_reducible rfl)
        try simp only [Act.put, List.setIfInBounds_toArray, List.set_cons_zero, List.set_cons_succ]
        refine' wpAnyH_take (i := 11) (oi := _) (v := _) ?hR111 (by kernel_rfl) (by kernel_rfl) (by kernel_rfl) ?hQR111 (Or.inl ⟨?hwR111, ?hyR111⟩) trivial ?restR111
        case hR111 => (simp only [List.getElem?_toArray, List.getElem?_cons_succ, List.getElem?_cons_zero]; rfl)
        case hQR111 => exact fun _ _ _ h => h
        case hwR111 => rfl
        case hyR111 => (intro w hSw; (try dsimp only at hSw); go_simp; try with_reducible rfl)
        try simp only [Act.put, List.setIfInBounds_toArray, List.set_cons_zero, List.set_cons_succ]
        refine' share ?c1_f ?b1_f
        case b1_f =>
          intro F1_f
          refine' share ?c1_3 ?b1_3
          case b1_3 =>
            intro F1_3
            refine' share ?c1_2 ?b1_2
            case b1_2 =>
              intro F1_2
              refine' share ?c1_1 ?b1_1
              case b1_1 =>
                intro F1_1
                refine' share ?c1_0 ?b1_0
                case b1_0 =>
                  intro F1_0
                  refine wpAnyH_ready (rs := [1, 4]) (by kernel_rfl) (by simp) ?_
                  refine' (AllReadyH.cons (o := _) ?hoD1_01 (fun K hK' => ?stD1_01) (AllReadyH.cons (o := _) ?hoD1_04 (fun K hK' => ?stD1_04) AllReadyH.nil))
                  case hoD1_01 => (simp only [List.getElem?_toArray, List.getElem?_cons_succ, List.getElem?_cons_zero]; rfl)
                  case hoD1_04 => (simp only [List.getElem?_toArray, List.getElem?_cons_succ, List.getElem?_cons_zero]; rfl)
                  case stD1_01 =>
                    have qc := HT.out.bk.cell 1
                    simp only [List.getElem?_toArray, List.getElem?_cons_succ, List.getElem?_cons_zero] at qc
                    go_simp
                    refine hK'.out _ _ trivial (fun _ => ?_)
                    clear hK' K
                    try simp only [Act.put]
                    try simp only [List.setIfInBounds_toArray, List.set_cons_zero, List.set_cons_succ]
                    clear qc
                    exact F1_0.out
                  case stD1_04 =>
                    go_simp
                    refine (HA0.out _).mono ?_
                    rintro e v9 ⟨rfl, rfl⟩
                    try go_wp2_with fail
                    refine hK'.out _ _ trivial (fun _ => ?_)
                    clear hK' K
                    try simp only [Act.put]
                    try simp only [List.setIfInBounds_toArray, List.set_cons_zero, List.set_cons_succ]
                    refine wpAnyH_ready (rs := [1, 8]) (by kernel_rfl) (by simp) ?_
                    refine' (AllReadyH.cons (o := _) ?hoD1_11 (fun K hK' => ?stD1_11) (AllReadyH.cons (o := _) ?hoD1_18 (fun K hK' => ?stD1_18) AllReadyH.nil))
                    case hoD1_11 => (simp only [List.getElem?_toArray, List.getElem?_cons_succ, List.getElem?_cons_zero]; rfl)
                    case hoD1_18 => (simp only [List.getElem?_toArray, List.getElem?_cons_succ, List.getElem?_cons_zero]; rfl)
                    case stD1_11 =>
                      have qc := HT.out.bk.cell 1
                      simp only [List.getElem?_toArray, List.getElem?_cons_succ, List.getElem?_cons_zero] at qc
                      go_simp
                      refine hK'.out _ _ trivial (fun _ => ?_)
                      clear hK' K
                      try simp only [Act.put]
                      try simp only [List.setIfInBounds_toArray, List.set_cons_zero, List.set_cons_succ]
                      clear qc
                      exact F1_1.out
                    case stD1_18 =>
                      go_simp
                      refine (HA1.out _).mono ?_
                      rintro e v9 ⟨rfl, rfl⟩
                      try go_wp2_with fail
                      refine hK'.out _ _ trivial (fun _ => ?_)
                      clear hK' K
                      try simp only [Act.put]
                      try simp only [List.setIfInBounds_toArray, List.set_cons_zero, List.set_cons_succ]
                      refine wpAnyH_ready (rs := [1, 12]) (by kernel_rfl) (by simp) ?_
                      refine' (AllReadyH.cons (o := _) ?hoD1_21 (fun K hK' => ?stD1_21) (AllReadyH.cons (o := _) ?hoD1_212 (fun K hK' => ?stD1_212) AllReadyH.nil))
                      case hoD1_21 => (simp only [List.getElem?_toArray, List.getElem?_cons_succ, List.getElem?_cons_zero]; rfl)
                      case hoD1_212 => (simp only [List.getElem?_toArray, List.getElem?_cons_succ, List.getElem?_cons_zero]; rfl)
                      case stD1_21 =>
                        have qc := HT.out.bk.cell 1
                        simp only [List.getElem?_toArray, List.getElem?_cons_succ, List.getElem?_cons_zero] at qc
                        go_simp
                        refine hK'.out _ _ trivial (fun _ => ?_)
                        clear hK' K
                        try simp only [Act.put]
                        try simp only [List.setIfInBounds_toArray, List.set_cons_zero, List.set_cons_succ]
                        clear qc
                        exact F1_2.out
                      case stD1_212 =>
                        go_simp
                        refine (HA2.out _).mono ?_
                        rintro e v9 ⟨rfl, rfl⟩
                        try go_wp2_with fail
                        refine hK'.out _ _ trivial (fun _ => ?_)
                        clear hK' K
                        try simp only [Act.put]
                        try simp only [List.setIfInBounds_toArray, List.set_cons_zero, List.set_cons_succ]
                        refine' wpAnyH_take (i := 13) (oi := _) (v := _) ?hD1_313 (by kernel_rfl) (by kernel_rfl) (by kernel_rfl) ?hQD1_313 (Or.inl ⟨?hwD1_313, ?hyD1_313⟩) trivial ?restD1_313
                        case hD1_313 => (simp only [List.getElem?_toArray, List.getElem?_cons_succ, List.getElem?_cons_zero]; rfl)
                        case hQD1_313 => exact fun _ _ _ h => h
                        case hwD1_313 => rfl
                        case hyD1_313 => (intro w hSw; (try dsimp only at hSw); go_simp; try with_reducible rfl)
                        try simp only [Act.put, List.setIfInBounds_toArray, List.set_cons_zero, List.set_cons_succ]
                        refine wpAnyH_ready (rs := [1, 14]) (by kernel_rfl) (by simp) ?_
                        refine' (AllReadyH.cons (o := _) ?hoD1_31 (fun K hK' => ?stD1_31) (AllReadyH.cons (o := _) ?hoD1_314 (fun K hK' => ?stD1_314) AllReadyH.nil))
                        case hoD1_31 => (simp only [List.getElem?_toArray, List.getElem?_cons_succ, List.getElem?_cons_zero]; rfl)
                        case hoD1_314 => (simp only [List.getElem?_toArray, List.getElem?_cons_succ, List.getElem?_cons_zero]; rfl)
                        case stD1_31 =>
                          have qc := HT.out.bk.cell 1
                          simp only [List.getElem?_toArray, List.getElem?_cons_succ, List.getElem?_cons_zero] at qc
                          go_simp
                          refine hK'.out _ _ trivial (fun _ => ?_)
                          clear hK' K
                          try simp only [Act.put]
                          try simp only [List.setIfInBounds_toArray, List.set_cons_zero, List.set_cons_succ]
                          clear qc
                          exact F1_3.out
                        case stD1_314 =>
                          go_simp
                          refine hK'.out _ _ trivial (fun _ => ?_)
                          clear hK' K
                          try simp only [Act.put]
                          try simp only [List.setIfInBounds_toArray, List.set_cons_zero, List.set_cons_succ]
                          have HTa := Lib.hid (HT.out.same ((Keeps.refl [] U0).alloc (.cells (rwc [b1 t.data.toList p, b2 t.data.toList (p + 1), b2 t.data.toList (p + 3)]).toArray 51)))
                          refine wpAnyH_ready (rs := [1]) (by kernel_rfl) (by simp) ?_
                          refine' (AllReadyH.cons (o := _) ?hoD1_3l1 (fun K hK' => ?stD1_3l1) AllReadyH.nil)
                          case hoD1_3l1 => (simp only [List.getElem?_toArray, List.getElem?_cons_succ, List.getElem?_cons_zero]; rfl)
                          case stD1_3l1 =>
                            have qc := HTa.out.bk.cell 1
                            simp only [List.getElem?_toArray, List.getElem?_cons_succ, List.getElem?_cons_zero] at qc
                            have qc : (U0.alloc (.cells #[.int .i64 (b1 t.data.toList p), .int .i64 (b2 t.data.toList (p + 1)), .int .i64 (b2 t.data.toList (p + 3))] 51)).cell? ⟨bc, 1, none⟩ = _ := qc
                            go_simp
                            refine hK'.out _ _ trivial (fun _ => ?_)
                            clear hK' K
                            try simp only [Act.put]
                            try simp only [List.setIfInBounds_toArray, List.set_cons_zero, List.set_cons_succ]
                            exact F1_f.out
                case c1_0 =>
                  refine wpAnyH_ready (rs := [4]) (by kernel_rfl) (by simp) ?_
                  refine' (AllReadyH.cons (o := _) ?hoC1_04 (fun K hK' => ?stC1_04) AllReadyH.nil)
                  case hoC1_04 => (simp only [List.getElem?_toArray, List.getElem?_cons_succ, List.getElem?_cons_zero]; rfl)
                  case stC1_04 =>
                    go_simp
                    refine (HA0.out _).mono ?_
                    rintro e v9 ⟨rfl, rfl⟩
                    try go_wp2_with fail
                    refine hK'.out _ _ trivial (fun _ => ?_)
                    clear hK' K
                    try simp only [Act.put]
                    try simp only [List.setIfInBounds_toArray, List.set_cons_zero, List.set_cons_succ]
                    exact F1_1.out
              case c1_1 =>
                refine wpAnyH_ready (rs := [8]) (by kernel_rfl) (by simp) ?_
                refine' (AllReadyH.cons (o := _) ?hoC1_18 (fun K hK' => ?stC1_18) AllReadyH.nil)
                case hoC1_18 => (simp only [List.getElem?_toArray, List.getElem?_cons_succ, List.getElem?_cons_zero]; rfl)
                case stC1_18 =>
                  go_simp
                  refine (HA1.out _).mono ?_
                  rintro e v9 ⟨rfl, rfl⟩
                  try go_wp2_with fail
                  refine hK'.out _ _ trivial (fun _ => ?_)
                  clear hK' K
                  try simp only [Act.put]
                  try simp only [List.setIfInBounds_toArray, List.set_cons_zero, List.set_cons_succ]
                  exact F1_2.out
            case c1_2 =>
              refine wpAnyH_ready (rs := [12]) (by kernel_rfl) (by simp) ?_
              refine' (AllReadyH.cons (o := _) ?hoC1_212 (fun K hK' => ?stC1_212) AllReadyH.nil)
              case hoC1_212 => (simp only [List.getElem?_toArray, List.getElem?_cons_succ, List.getElem?_cons_zero]; rfl)
              case stC1_212 =>
                go_simp
                refine (HA2.out _).mono ?_
                rintro e v9 ⟨rfl, rfl⟩
                try go_wp2_with fail
                refine hK'.out _ _ trivial (fun _ => ?_)
                clear hK' K
                try simp only [Act.put]
                try simp only [List.setIfInBounds_toArray, List.set_cons_zero, List.set_cons_succ]
                refine' wpAnyH_take (i := 13) (oi := _) (v := _) ?hC1_2b13 (by kernel_rfl) (by kernel_rfl) (by kernel_rfl) ?hQC1_2b13 (Or.inl ⟨?hwC1_2b13, ?hyC1_2b13⟩) trivial ?restC1_2b13
                case hC1_2b13 => (simp only [List.getElem?_toArray, List.getElem?_cons_succ, List.getElem?_cons_zero]; rfl)
                case hQC1_2b13 => exact fun _ _ _ h => h
                case hwC1_2b13 => rfl
                case hyC1_2b13 => (intro w hSw; (try dsimp only at hSw); go_simp; try with_reducible rfl)
                try simp only [Act.put, List.setIfInBounds_toArray, List.set_cons_zero, List.set_cons_succ]
                exact F1_3.out
          case c1_3 =>
            refine wpAnyH_ready (rs := [14]) (by kernel_rfl) (by simp) ?_
            refine' (AllReadyH.cons (o := _) ?hoC1_314 (fun K hK' => ?stC1_314) AllReadyH.nil)
            case hoC1_314 => (simp only [List.getElem?_toArray, List.getElem?_cons_succ, List.getElem?_cons_zero]; rfl)
            case stC1_314 =>
              go_simp
              refine hK'.out _ _ trivial (fun _ => ?_)
              clear hK' K
              try simp only [Act.put]
              try simp only [List.setIfInBounds_toArray, List.set_cons_zero, List.set_cons_succ]
              exact F1_f.out
        case c1_f =>
          have HTa := Lib.hid (HT.out.same ((Keeps.refl [] U0).alloc (.cells (rwc [b1 t.data.toList p, b2 t.data.toList (p + 1), b2 t.data.toList (p + 3)]).toArray 51)))
          have hTa := HTa.out
          have hlo := hTa.low
          refine wpAnyH_ready (rs := [15]) (by kernel_rfl) (by simp) ?_
          refine' (AllReadyH.cons (o := _) ?hoE1c15 (fun K hK' => ?stE1c15) AllReadyH.nil)
          case hoE1c15 => (simp only [List.getElem?_toArray, List.getElem?_cons_succ, List.getElem?_cons_zero]; rfl)
          case stE1c15 =>
            rw [if_pos (by rfl)]
            refine wp_append_any _ (.tmp 53) (.tmp 66) 24 rfl W.heap.size 51 i0 _ 3 24 Try.underlying24 HI.out.1 HI.out.2.1 HI.out.2.2.1 HI.out.2.2.2 rfl (by decide) (.slice a1 X1.length c1) X1.length (rwf X1) rfl hTa.o1 _ (some ⟨U0.heap.size, 0, none⟩) 1 1 (rwc [b1 t.data.toList p, b2 t.data.toList (p + 1), b2 t.data.toList (p + 3)]) rfl (tc_own (B := 0) U0 rfl) (rwc_cell _) (by simp only [maxLen]; omega) (by omega) hlo.1 ?_
            intro v1 V1 own1 g1 at1
            obtain ⟨p1, cc1, rfl⟩ := own_form own1
            refine hK'.out _ _ trivial (fun _ => ?_)
            clear hK' K
            try simp only [Act.put]
            try simp only [List.setIfInBounds_toArray, List.set_cons_zero, List.set_cons_succ]
            have hbk1 := hTa.bk.grown g1 (fun e => own_blk_ne hTa.o1 hTa.bk (by decide) e.symm)
            have qc : V1.cell? ⟨bc, 1, none⟩ = some (.slice a1 X1.length c1) := hbk1.cell 1
            have qf := hbk1.frozen
            have HN := Lib.hid (hTa.grow1 (r := [b1 t.data.toList p, b2 t.data.toList (p + 1), b2 t.data.toList (p + 3)]) rfl own1 g1)
            clear own1 g1 at1 hbk1 hTa hlo HT HTa
            refine' wpAnyH_take (i := 16) (oi := _) (v := _) ?hE1d16 (by kernel_rfl) (by kernel_rfl) (by kernel_rfl) ?hQE1d16 (Or.inl ⟨?hwE1d16, ?hyE1d16⟩) trivial ?restE1d16
            case hE1d16 => (simp only [List.getElem?_toArray, List.getElem?_cons_succ, List.getElem?_cons_zero]; rfl)
            case hQE1d16 => exact fun _ _ _ h => h
            case hwE1d16 => rfl
            case hyE1d16 => (intro w hSw; (try dsimp only at hSw); go_simp; try with_reducible rfl)
            try simp only [Act.put, List.setIfInBounds_toArray, List.set_cons_zero, List.set_cons_succ]
            refine wpAnyH_ready (rs := [17]) (by kernel_rfl) (by simp) ?_
            refine' (AllReadyH.cons (o := _) ?hoE1e17 (fun K hK' => ?stE1e17) AllReadyH.nil)
            case hoE1e17 => (simp only [List.getElem?_toArray, List.getElem?_cons_succ, List.getElem?_cons_zero]; rfl)
            case stE1e17 =>
              go_simp
              refine hK'.out _ _ trivial (fun _ => ?_)
              clear hK' K
              try simp only [Act.put]
              try simp only [List.setIfInBounds_toArray, List.set_cons_zero, List.set_cons_succ]
              refine wpAnyH_done (by kernel_rfl) ?_ _
              clear qc qf
              go_wp2
              go_roundw
              case rel => exact ⟨k + 1, m - 1, p + 5, X1 ++ [winAt t.data.toList p], _, _, by have := HPK1.out; omega, by have := HPK1.out; omega, by omega, by go_num, by first | go_num | (congr 1; omega), by rw [rowsAt_succ, ← HX1.out, ← HPK1.out.2], HN.out⟩
              case measure => simp [intOf]; omega
    · obtain rfl : m = 0 := by omega
      have hkn : N1 = k := by have := HPK1.out; omega
      subst hkn
      by_cases hfit : t.size < p + 1
      · have HPE := Lib.hid (HP.out.trans (perr_end HH.out (by have := HPK1.out; rw [HTL.out, hj3]; omega)))
        obtain ⟨q0, q1, q2, q3, qf⟩ := HT.out.cells
        go_wp2
        refine bodyPost_ret (v := .tuple #[.agg #[.int .i64 0, .slice none 0 0, .slice none 0 0, .slice none 0 0], .int .i64 5]) (by simp [results, Try.results9, go_sem, q0, q1, q2, q3]) rfl ?_
        exact parse_err HPE.out (by decide) (HT.out.set4 _ _ _ _)
      · have hn := fun V => at1x t (p : Int) p V rfl (by omega) (by omega)
        rw [show b1 t.data.toList p = (N2 : Int) from by rw [show p = i1 t.data.toList from by have := HPK1.out; rw [HIZ.out.j1]; omega, n2_b, HIZ.out.e2]] at hn
        have HNN := Lib.hid hn
        clear hn
        go_wp2_with fail
        refine (HNN.out _).mono ?_
        clear HNN
        rintro e v9 ⟨rfl, rfl⟩
        have hNx := HIZ.out.l2
        go_wp2_with fail
        go_loopw [6, 8] (fun i nn wr => ∃ (k m p : Nat) (X2 : List (List Int)) (a2 : Option Addr) (c2 : Nat), k + m = N2 ∧ p = (5 + N1 * 5 + 1) + k * 5 ∧ p ≤ t.size ∧ i = .int .i64 (p : Int) ∧ nn = .int .i64 (m : Int) ∧ X2 = rowsAt (winAt t.data.toList) 5 (5 + N1 * 5 + 1) k ∧ Rc W wr rc bc fr X1 X2 [] a1 c1 a2 c2 none 0) (fun _ nn _ => (intOf nn).toNat)
        case atStart => exact ⟨0, N2, p + 1, [], none, 0, by omega, by have := HPK1.out; omega, by omega, rfl, rfl, by unfold rowsAt; rfl, HT.out⟩
        case round =>
          obtain ⟨k, m, p, X2, a2, c2, hkm, hp, hpl, rfl, rfl, hX, hT⟩ := hrel
          clear HT
          have HT := Lib.hid hT
          have HPK2 := Lib.hid (And.intro hkm hp)
          have HX2 := Lib.hid hX
          have hNl := HIZ.out.l2
          have hk255 : k ≤ 255 ∧ m ≤ 255 := by omega
          have hxb2 : X2.length ≤ 255 := by rw [hX, rowsAt_len]; exact hk255.1
          obtain ⟨hk255, hm255⟩ := hk255
          clear hT hX hkm hp
          have hj3 := HIZ.out.j3
          by_cases hm : 0 < m
          · have hm' : (0 : Int) < (m : Int) := by omega
            by_cases hfit : t.size < p + 5
            · have HPE := Lib.hid (HP.out.trans (perr_end HH.out (by have := HPK2.out; rw [HTL.out, hj3]; omega)))
              obtain ⟨q0, q1, q2, q3, qf⟩ := HT.out.cells
              go_wp2
              refine bodyPost_ret (v := .tuple #[.agg #[.int .i64 0, .slice none 0 0, .slice none 0 0, .slice none 0 0], .int .i64 5]) (by simp [results, Try.results9, go_sem, q0, q1, q2, q3]) rfl ?_
              exact parse_err HPE.out (by decide) (HT.out.set4 _ _ _ _)
            · have HI0 := info_parts slot_info
              obtain ⟨i0, hi0, hz0, hz1, hz2⟩ := HI0
              have HI := Lib.hid (And.intro hi0 (And.intro hz0 (And.intro hz1 hz2)))
              clear hi0 hz0 hz1 hz2
              have HA0 := Lib.hid (fun V => at1x t ((p : Int)) p V (by omega) (by omega) (by omega))
              have HA1 := Lib.hid (fun V => at2x t ((p : Int) + 1) (p + 1) V (by omega) (by omega) (by omega))
              have HA2 := Lib.hid (fun V => at2x t ((p : Int) + 3) (p + 3) V (by omega) (by omega) (by omega))
              have hw1 : IntKind.i64.wrap ((p : Int) + 1) = (p : Int) + 1 := IntWalk.i64_in _ (by omega)
              have hw3 : IntKind.i64.wrap ((p : Int) + 3) = (p : Int) + 3 := IntWalk.i64_in _ (by omega)
              go_wp2
              refine wp_region_held_drew (S := AnyW) (by kernel_rfl) trivial (fun hHeld => ?_)
              have HT := Lib.hid (HT.out.same ((Keeps.refl [] _).drew))
              generalize World.drew _ = U0 at *
              refine' wpAnyH_take (i := 0) (oi := _) (v := _) ?hR20 (by kernel_rfl) (by kernel_rfl) (by kernel_rfl) ?hQR20 (Or.inl ⟨?hwR20, ?hyR20⟩) trivial ?restR20
              case hR20 => (simp only [List.getElem?_toArray, List.getElem?_cons_zero]; rfl)
              case hQR20 => exact fun _ _ _ h => h
              case hwR20 => rfl
              case hyR20 => (intro w hSw; (try dsimp only at hSw); go_simp; try with_reducible rfl)
              try simp only [Act.put, List.setIfInBounds_toArray, List.set_cons_zero, List.set_cons_succ]
              refine' wpAnyH_take (i := 2) (oi := _) (v := _) ?hR22 (by kernel_rfl) (by kernel_rfl) (by kernel_rfl) ?hQR22 (Or.inl ⟨?hwR22, ?hyR22⟩) trivial ?restR22
              case hR22 => (simp only [List.getElem?_toArray, List.getElem?_cons_succ, List.getElem?_cons_zero]; rfl)
              case hQR22 => exact fun _ _ _ h => h
              case hwR22 => rfl
              case hyR22 => (intro w hSw; (try dsimp only at hSw); go_simp; try with_reducible rfl)
              try simp only [Act.put, List.setIfInBounds_toArray, List.set_cons_zero, List.set_cons_succ]
              refine' wpAnyH_take (i := 3) (oi := _) (v := _) ?hR23 (by kernel_rfl) (by kernel_rfl) (by kernel_rfl) ?hQR23 (Or.inl ⟨?hwR23, ?hyR23⟩) trivial ?restR23
              case hR23 => (simp only [List.getElem?_toArray, List.getElem?_cons_succ, List.getElem?_cons_zero]; rfl)
              case hQR23 => exact fun _ _ _ h => h
              case hwR23 => rfl
              case hyR23 => (intro w hSw; (try dsimp only at hSw); go_simp; try with_reducible rfl)
              try simp only [Act.put, List.setIfInBounds_toArray, List.set_cons_zero, List.set_cons_succ]
              refine' wpAnyH_take (i := 5) (oi := _) (v := _) ?hR25 (by kernel_rfl) (by kernel_rfl) (by kernel_rfl) ?hQR25 (Or.inl ⟨?hwR25, ?hyR25⟩) trivial ?restR25
              case hR25 => (simp only [List.getElem?_toArray, List.getElem?_cons_succ, List.getElem?_cons_zero]; rfl)
              case hQR25 => exact fun _ _ _ h => h
              case hwR25 => rfl
              case hyR25 => (intro w hSw; (try dsimp only at hSw); go_simp; try with_reducible rfl)
              try simp only [Act.put, List.setIfInBounds_toArray, List.set_cons_zero, List.set_cons_succ]
              refine' wpAnyH_take (i := 6) (oi := _) (v := _) ?hR26 (by kernel_rfl) (by kernel_rfl) (by kernel_rfl) ?hQR26 (Or.inl ⟨?hwR26, ?hyR26⟩) trivial ?restR26
              case hR26 => (simp only [List.getElem?_toArray, List.getElem?_cons_succ, List.getElem?_cons_zero]; rfl)
              case hQR26 => exact fun _ _ _ h => h
              case hwR26 => rfl
              case hyR26 => (intro w hSw; (try dsimp only at hSw); go_simp; try with_reducible rfl)
              try simp only [Act.put, List.setIfInBounds_toArray, List.set_cons_zero, List.set_cons_succ]
              refine' wpAnyH_take (i := 7) (oi := _) (v := _) ?hR27 (by kernel_rfl) (by kernel_rfl) (by kernel_rfl) ?hQR27 (Or.inl ⟨?hwR27, ?hyR27⟩) trivial ?restR27
              case hR27 => (simp only [List.getElem?_toArray, List.getElem?_cons_succ, List.getElem?_cons_zero]; rfl)
              case hQR27 => exact fun _ _ _ h => h
              case hwR27 => rfl
              case hyR27 => (intro w hSw; (try dsimp only at hSw); go_simp; try with_reducible rfl)
              try simp only [Act.put, List.setIfInBounds_toArray, List.set_cons_zero, List.set_cons_succ]
              refine' wpAnyH_take (i := 9) (oi := _) (v := _) ?hR29 (by kernel_rfl) (by kernel_rfl) (by kernel_rfl) ?hQR29 (Or.inl ⟨?hwR29, ?hyR29⟩) trivial ?restR29
              case hR29 => (simp only [List.getElem?_toArray, List.getElem?_cons_succ, List.getElem?_cons_zero]; rfl)
              case hQR29 => exact fun _ _ _ h => h
              case hwR29 => rfl
              case hyR29 => (intro w hSw; (try dsimp only at hSw); go_simp; try with_reducible rfl)
              try simp only [Act.put, List.setIfInBounds_toArray, List.set_cons_zero, List.set_cons_succ]
              refine' wpAnyH_take (i := 10) (oi := _) (v := _) ?hR210 (by kernel_rfl) (by kernel_rfl) (by kernel_rfl) ?hQR210 (Or.inl ⟨?hwR210, ?hyR210⟩) trivial ?restR210
              case hR210 => (simp only [List.getElem?_toArray, List.getElem?_cons_succ, List.getElem?_cons_zero]; rfl)
              case hQR210 => exact fun _ _ _ h => h
              case hwR210 => rfl
              case hyR210 => (intro w hSw; (try dsimp only at hSw); go_simp; try with_reducible rfl)
              try simp only [Act.put, List.setIfInBounds_toArray, List.set_cons_zero, List.set_cons_succ]
              refine' wpAnyH_take (i := 11) (oi := _) (v := _) ?hR211 (by kernel_rfl) (by kernel_rfl) (by kernel_rfl) ?hQR211 (Or.inl ⟨?hwR211, ?hyR211⟩) trivial ?restR211
              case hR211 => (simp only [List.getElem?_toArray, List.getElem?_cons_succ, List.getElem?_cons_zero]; rfl)
              case hQR211 => exact fun _ _ _ h => h
              case hwR211 => rfl
              case hyR211 => (intro w hSw; (try dsimp only at hSw); go_simp; try with_reducible rfl)
              try simp only [Act.put, List.setIfInBounds_toArray, List.set_cons_zero, List.set_cons_succ]
              refine' share ?c2_f ?b2_f
              case b2_f =>
                intro F2_f
                refine' share ?c2_3 ?b2_3
                case b2_3 =>
                  intro F2_3
                  refine' share ?c2_2 ?b2_2
                  case b2_2 =>
                    intro F2_2
                    refine' share ?c2_1 ?b2_1
                    case b2_1 =>
                      intro F2_1
                      refine' share ?c2_0 ?b2_0
                      case b2_0 =>
                        intro F2_0
                        refine wpAnyH_ready (rs := [1, 4]) (by kernel_rfl) (by simp) ?_
                        refine' (AllReadyH.cons (o := _) ?hoD2_01 (fun K hK' => ?stD2_01) (AllReadyH.cons (o := _) ?hoD2_04 (fun K hK' => ?stD2_04) AllReadyH.nil))
                        case hoD2_01 => (simp only [List.getElem?_toArray, List.getElem?_cons_succ, List.getElem?_cons_zero]; rfl)
                        case hoD2_04 => (simp only [List.getElem?_toArray, List.getElem?_cons_succ, List.getElem?_cons_zero]; rfl)
                        case stD2_01 =>
                          have qc := HT.out.bk.cell 2
                          simp only [List.getElem?_toArray, List.getElem?_cons_succ, List.getElem?_cons_zero] at qc
                          go_simp
                          refine hK'.out _ _ trivial (fun _ => ?_)
                          clear hK' K
                          try simp only [Act.put]
                          try simp only [List.setIfInBounds_toArray, List.set_cons_zero, List.set_cons_succ]
                          clear qc
                          exact F2_0.out
                        case stD2_04 =>
                          go_simp
                          refine (HA0.out _).mono ?_
                          rintro e v9 ⟨rfl, rfl⟩
                          try go_wp2_with fail
                          refine hK'.out _ _ trivial (fun _ => ?_)
                          clear hK' K
                          try simp only [Act.put]
                          try simp only [List.setIfInBounds_toArray, List.set_cons_zero, List.set_cons_succ]
                          refine wpAnyH_ready (rs := [1, 8]) (by kernel_rfl) (by simp) ?_
                          refine' (AllReadyH.cons (o := _) ?hoD2_11 (fun K hK' => ?stD2_11) (AllReadyH.cons (o := _) ?hoD2_18 (fun K hK' => ?stD2_18) AllReadyH.nil))
                          case hoD2_11 => (simp only [List.getElem?_toArray, List.getElem?_cons_succ, List.getElem?_cons_zero]; rfl)
                          case hoD2_18 => (simp only [List.getElem?_toArray, List.getElem?_cons_succ, List.getElem?_cons_zero]; rfl)
                          case stD2_11 =>
                            have qc := HT.out.bk.cell 2
                            simp only [List.getElem?_toArray, List.getElem?_cons_succ, List.getElem?_cons_zero] at qc
                            go_simp
                            refine hK'.out _ _ trivial (fun _ => ?_)
                            clear hK' K
                            try simp only [Act.put]
                            try simp only [List.setIfInBounds_toArray, List.set_cons_zero, List.set_cons_succ]
                            clear qc
                            exact F2_1.out
                          case stD2_18 =>
                            go_simp
                            refine (HA1.out _).mono ?_
                            rintro e v9 ⟨rfl, rfl⟩
                            try go_wp2_with fail
                            refine hK'.out _ _ trivial (fun _ => ?_)
                            clear hK' K
                            try simp only [Act.put]
                            try simp only [List.setIfInBounds_toArray, List.set_cons_zero, List.set_cons_succ]
                            refine wpAnyH_ready (rs := [1, 12]) (by kernel_rfl) (by simp) ?_
                            refine' (AllReadyH.cons (o := _) ?hoD2_21 (fun K hK' => ?stD2_21) (AllReadyH.cons (o := _) ?hoD2_212 (fun K hK' => ?stD2_212) AllReadyH.nil))
                            case hoD2_21 => (simp only [List.getElem?_toArray, List.getElem?_cons_succ, List.getElem?_cons_zero]; rfl)
                            case hoD2_212 => (simp only [List.getElem?_toArray, List.getElem?_cons_succ, List.getElem?_cons_zero]; rfl)
                            case stD2_21 =>
                              have qc := HT.out.bk.cell 2
                              simp only [List.getElem?_toArray, List.getElem?_cons_succ, List.getElem?_cons_zero] at qc
                              go_simp
                              refine hK'.out _ _ trivial (fun _ => ?_)
                              clear hK' K
                              try simp only [Act.put]
                              try simp only [List.setIfInBounds_toArray, List.set_cons_zero, List.set_cons_succ]
                              clear qc
                              exact F2_2.out
                            case stD2_212 =>
                              go_simp
                              refine (HA2.out _).mono ?_
                              rintro e v9 ⟨rfl, rfl⟩
                              try go_wp2_with fail
                              refine hK'.out _ _ trivial (fun _ => ?_)
                              clear hK' K
                              try simp only [Act.put]
                              try simp only [List.setIfInBounds_toArray, List.set_cons_zero, List.set_cons_succ]
                              refine' wpAnyH_take (i := 13) (oi := _) (v := _) ?hD2_313 (by kernel_rfl) (by kernel_rfl) (by kernel_rfl) ?hQD2_313 (Or.inl ⟨?hwD2_313, ?hyD2_313⟩) trivial ?restD2_313
                              case hD2_313 => (simp only [List.getElem?_toArray, List.getElem?_cons_succ, List.getElem?_cons_zero]; rfl)
                              case hQD2_313 => exact fun _ _ _ h => h
                              case hwD2_313 => rfl
                              case hyD2_313 => (intro w hSw; (try dsimp only at hSw); go_simp; try with_reducible rfl)
                              try simp only [Act.put, List.setIfInBounds_toArray, List.set_cons_zero, List.set_cons_succ]
                              refine wpAnyH_ready (rs := [1, 14]) (by kernel_rfl) (by simp) ?_
                              refine' (AllReadyH.cons (o := _) ?hoD2_31 (fun K hK' => ?stD2_31) (AllReadyH.cons (o := _) ?hoD2_314 (fun K hK' => ?stD2_314) AllReadyH.nil))
                              case hoD2_31 => (simp only [List.getElem?_toArray, List.getElem?_cons_succ, List.getElem?_cons_zero]; rfl)
                              case hoD2_314 => (simp only [List.getElem?_toArray, List.getElem?_cons_succ, List.getElem?_cons_zero]; rfl)
                              case stD2_31 =>
                                have qc := HT.out.bk.cell 2
                                simp only [List.getElem?_toArray, List.getElem?_cons_succ, List.getElem?_cons_zero] at qc
                                go_simp
                                refine hK'.out _ _ trivial (fun _ => ?_)
                                clear hK' K
                                try simp only [Act.put]
                                try simp only [List.setIfInBounds_toArray, List.set_cons_zero, List.set_cons_succ]
                                clear qc
                                exact F2_3.out
                              case stD2_314 =>
                                go_simp
                                refine hK'.out _ _ trivial (fun _ => ?_)
                                clear hK' K
                                try simp only [Act.put]
                                try simp only [List.setIfInBounds_toArray, List.set_cons_zero, List.set_cons_succ]
                                have HTa := Lib.hid (HT.out.same ((Keeps.refl [] U0).alloc (.cells (rwc [b1 t.data.toList p, b2 t.data.toList (p + 1), b2 t.data.toList (p + 3)]).toArray 52)))
                                refine wpAnyH_ready (rs := [1]) (by kernel_rfl) (by simp) ?_
                                refine' (AllReadyH.cons (o := _) ?hoD2_3l1 (fun K hK' => ?stD2_3l1) AllReadyH.nil)
                                case hoD2_3l1 => (simp only [List.getElem?_toArray, List.getElem?_cons_succ, List.getElem?_cons_zero]; rfl)
                                case stD2_3l1 =>
                                  have qc := HTa.out.bk.cell 2
                                  simp only [List.getElem?_toArray, List.getElem?_cons_succ, List.getElem?_cons_zero] at qc
                                  have qc : (U0.alloc (.cells #[.int .i64 (b1 t.data.toList p), .int .i64 (b2 t.data.toList (p + 1)), .int .i64 (b2 t.data.toList (p + 3))] 52)).cell? ⟨bc, 2, none⟩ = _ := qc
                                  go_simp
                                  refine hK'.out _ _ trivial (fun _ => ?_)
                                  clear hK' K
                                  try simp only [Act.put]
                                  try simp only [List.setIfInBounds_toArray, List.set_cons_zero, List.set_cons_succ]
                                  exact F2_f.out
                      case c2_0 =>
                        refine wpAnyH_ready (rs := [4]) (by kernel_rfl) (by simp) ?_
                        refine' (AllReadyH.cons (o := _) ?hoC2_04 (fun K hK' => ?stC2_04) AllReadyH.nil)
                        case hoC2_04 => (simp only [List.getElem?_toArray, List.getElem?_cons_succ, List.getElem?_cons_zero]; rfl)
                        case stC2_04 =>
                          go_simp
                          refine (HA0.out _).mono ?_
                          rintro e v9 ⟨rfl, rfl⟩
                          try go_wp2_with fail
                          refine hK'.out _ _ trivial (fun _ => ?_)
                          clear hK' K
                          try simp only [Act.put]
                          try simp only [List.setIfInBounds_toArray, List.set_cons_zero, List.set_cons_succ]
                          exact F2_1.out
                    case c2_1 =>
                      refine wpAnyH_ready (rs := [8]) (by kernel_rfl) (by simp) ?_
                      refine' (AllReadyH.cons (o := _) ?hoC2_18 (fun K hK' => ?stC2_18) AllReadyH.nil)
                      case hoC2_18 => (simp only [List.getElem?_toArray, List.getElem?_cons_succ, List.getElem?_cons_zero]; rfl)
                      case stC2_18 =>
                        go_simp
                        refine (HA1.out _).mono ?_
                        rintro e v9 ⟨rfl, rfl⟩
                        try go_wp2_with fail
                        refine hK'.out _ _ trivial (fun _ => ?_)
                        clear hK' K
                        try simp only [Act.put]
                        try simp only [List.setIfInBounds_toArray, List.set_cons_zero, List.set_cons_succ]
                        exact F2_2.out
                  case c2_2 =>
                    refine wpAnyH_ready (rs := [12]) (by kernel_rfl) (by simp) ?_
                    refine' (AllReadyH.cons (o := _) ?hoC2_212 (fun K hK' => ?stC2_212) AllReadyH.nil)
                    case hoC2_212 => (simp only [List.getElem?_toArray, List.getElem?_cons_succ, List.getElem?_cons_zero]; rfl)
                    case stC2_212 =>
                      go_simp
                      refine (HA2.out _).mono ?_
                      rintro e v9 ⟨rfl, rfl⟩
                      try go_wp2_with fail
                      refine hK'.out _ _ trivial (fun _ => ?_)
                      clear hK' K
                      try simp only [Act.put]
                      try simp only [List.setIfInBounds_toArray, List.set_cons_zero, List.set_cons_succ]
                      refine' wpAnyH_take (i := 13) (oi := _) (v := _) ?hC2_2b13 (by kernel_rfl) (by kernel_rfl) (by kernel_rfl) ?hQC2_2b13 (Or.inl ⟨?hwC2_2b13, ?hyC2_2b13⟩) trivial ?restC2_2b13
                      case hC2_2b13 => (simp only [List.getElem?_toArray, List.getElem?_cons_succ, List.getElem?_cons_zero]; rfl)
                      case hQC2_2b13 => exact fun _ _ _ h => h
                      case hwC2_2b13 => rfl
                      case hyC2_2b13 => (intro w hSw; (try dsimp only at hSw); go_simp; try with_reducible rfl)
                      try simp only [Act.put, List.setIfInBounds_toArray, List.set_cons_zero, List.set_cons_succ]
                      exact F2_3.out
                case c2_3 =>
                  refine wpAnyH_ready (rs := [14]) (by kernel_rfl) (by simp) ?_
                  refine' (AllReadyH.cons (o := _) ?hoC2_314 (fun K hK' => ?stC2_314) AllReadyH.nil)
                  case hoC2_314 => (simp only [List.getElem?_toArray, List.getElem?_cons_succ, List.getElem?_cons_zero]; rfl)
                  case stC2_314 =>
                    go_simp
                    refine hK'.out _ _ trivial (fun _ => ?_)
                    clear hK' K
                    try simp only [Act.put]
                    try simp only [List.setIfInBounds_toArray, List.set_cons_zero, List.set_cons_succ]
                    exact F2_f.out
              case c2_f =>
                have HTa := Lib.hid (HT.out.same ((Keeps.refl [] U0).alloc (.cells (rwc [b1 t.data.toList p, b2 t.data.toList (p + 1), b2 t.data.toList (p + 3)]).toArray 52)))
                have hTa := HTa.out
                have hlo := hTa.low
                refine wpAnyH_ready (rs := [15]) (by kernel_rfl) (by simp) ?_
                refine' (AllReadyH.cons (o := _) ?hoE2c15 (fun K hK' => ?stE2c15) AllReadyH.nil)
                case hoE2c15 => (simp only [List.getElem?_toArray, List.getElem?_cons_succ, List.getElem?_cons_zero]; rfl)
                case stE2c15 =>
                  rw [if_pos (by rfl)]
                  refine wp_append_any _ (.tmp 94) (.tmp 107) 25 rfl W.heap.size 52 i0 _ 3 24 Try.underlying25 HI.out.1 HI.out.2.1 HI.out.2.2.1 HI.out.2.2.2 rfl (by decide) (.slice a2 X2.length c2) X2.length (rwf X2) rfl hTa.o2 _ (some ⟨U0.heap.size, 0, none⟩) 1 1 (rwc [b1 t.data.toList p, b2 t.data.toList (p + 1), b2 t.data.toList (p + 3)]) rfl (tc_own (B := 0) U0 rfl) (rwc_cell _) (by simp only [maxLen]; omega) (by omega) hlo.1 ?_
                  intro v1 V1 own1 g1 at1
                  obtain ⟨p1, cc1, rfl⟩ := own_form own1
                  refine hK'.out _ _ trivial (fun _ => ?_)
                  clear hK' K
                  try simp only [Act.put]
                  try simp only [List.setIfInBounds_toArray, List.set_cons_zero, List.set_cons_succ]
                  have hbk1 := hTa.bk.grown g1 (fun e => own_blk_ne hTa.o2 hTa.bk (by decide) e.symm)
                  have qc : V1.cell? ⟨bc, 2, none⟩ = some (.slice a2 X2.length c2) := hbk1.cell 2
                  have qf := hbk1.frozen
                  have HN := Lib.hid (hTa.grow2 (r := [b1 t.data.toList p, b2 t.data.toList (p + 1), b2 t.data.toList (p + 3)]) rfl own1 g1)
                  clear own1 g1 at1 hbk1 hTa hlo HT HTa
                  refine' wpAnyH_take (i := 16) (oi := _) (v := _) ?hE2d16 (by kernel_rfl) (by kernel_rfl) (by kernel_rfl) ?hQE2d16 (Or.inl ⟨?hwE2d16, ?hyE2d16⟩) trivial ?restE2d16
                  case hE2d16 => (simp only [List.getElem?_toArray, List.getElem?_cons_succ, List.getElem?_cons_zero]; rfl)
                  case hQE2d16 => exact fun _ _ _ h => h
                  case hwE2d16 => rfl
                  case hyE2d16 => (intro w hSw; (try dsimp only at hSw); go_simp; try with_reducible rfl)
                  try simp only [Act.put, List.setIfInBounds_toArray, List.set_cons_zero, List.set_cons_succ]
                  refine wpAnyH_ready (rs := [17]) (by kernel_rfl) (by simp) ?_
                  refine' (AllReadyH.cons (o := _) ?hoE2e17 (fun K hK' => ?stE2e17) AllReadyH.nil)
                  case hoE2e17 => (simp only [List.getElem?_toArray, List.getElem?_cons_succ, List.getElem?_cons_zero]; rfl)
                  case stE2e17 =>
                    go_simp
                    refine hK'.out _ _ trivial (fun _ => ?_)
                    clear hK' K
                    try simp only [Act.put]
                    try simp only [List.setIfInBounds_toArray, List.set_cons_zero, List.set_cons_succ]
                    refine wpAnyH_done (by kernel_rfl) ?_ _
                    clear qc qf
                    go_wp2
                    go_roundw
                    case rel => exact ⟨k + 1, m - 1, p + 5, X2 ++ [winAt t.data.toList p], _, _, by have := HPK2.out; omega, by have := HPK2.out; omega, by omega, by go_num, by first | go_num | (congr 1; omega), by rw [rowsAt_succ, ← HX2.out, ← HPK2.out.2], HN.out⟩
                    case measure => simp [intOf]; omega
          · obtain rfl : m = 0 := by omega
            have hkn : N2 = k := by have := HPK2.out; omega
            subst hkn
            by_cases hfit : t.size < p + 1
            · have HPE := Lib.hid (HP.out.trans (perr_end HH.out (by have := HPK2.out; rw [HTL.out, hj3]; omega)))
              obtain ⟨q0, q1, q2, q3, qf⟩ := HT.out.cells
              go_wp2
              refine bodyPost_ret (v := .tuple #[.agg #[.int .i64 0, .slice none 0 0, .slice none 0 0, .slice none 0 0], .int .i64 5]) (by simp [results, Try.results9, go_sem, q0, q1, q2, q3]) rfl ?_
              exact parse_err HPE.out (by decide) (HT.out.set4 _ _ _ _)
            · have hn := fun V => at1x t (p : Int) p V rfl (by omega) (by omega)
              rw [show b1 t.data.toList p = (N3 : Int) from by rw [show p = i2 t.data.toList from by have := HPK2.out; rw [HIZ.out.j2]; omega, n3_b, HIZ.out.e3]] at hn
              have HNN := Lib.hid hn
              clear hn
              go_wp2_with fail
              refine (HNN.out _).mono ?_
              clear HNN
              rintro e v9 ⟨rfl, rfl⟩
              have hNx := HIZ.out.l3
              go_wp2_with fail
              go_loopw [6, 9] (fun i nn wr => ∃ (k m p : Nat) (X3 : List (List Int)) (a3 : Option Addr) (c3 : Nat), k + m = N3 ∧ p = (5 + N1 * 5 + 1 + N2 * 5 + 1) + k * 14 ∧ p ≤ t.size ∧ i = .int .i64 (p : Int) ∧ nn = .int .i64 (m : Int) ∧ X3 = rowsAt (cliAt t.data.toList) 14 (5 + N1 * 5 + 1 + N2 * 5 + 1) k ∧ Rc W wr rc bc fr X1 X2 X3 a1 c1 a2 c2 a3 c3) (fun _ nn _ => (intOf nn).toNat)
              case atStart => exact ⟨0, N3, p + 1, [], none, 0, by omega, by have := HPK2.out; omega, by omega, rfl, rfl, by unfold rowsAt; rfl, HT.out⟩
              case round =>
                obtain ⟨k, m, p, X3, a3, c3, hkm, hp, hpl, rfl, rfl, hX, hT⟩ := hrel
                clear HT
                have HT := Lib.hid hT
                have HPK3 := Lib.hid (And.intro hkm hp)
                have HX3 := Lib.hid hX
                have hNl := HIZ.out.l3
                have hk255 : k ≤ 255 ∧ m ≤ 255 := by omega
                have hxb3 : X3.length ≤ 255 := by rw [hX, rowsAt_len]; exact hk255.1
                obtain ⟨hk255, hm255⟩ := hk255
                clear hT hX hkm hp
                have hj3 := HIZ.out.j3
                by_cases hm : 0 < m
                · have hm' : (0 : Int) < (m : Int) := by omega
                  by_cases hfit : t.size < p + 14
                  · have HPE := Lib.hid (HP.out.trans (perr_end HH.out (by have := HPK3.out; rw [HTL.out, hj3]; omega)))
                    obtain ⟨q0, q1, q2, q3, qf⟩ := HT.out.cells
                    go_wp2
                    refine bodyPost_ret (v := .tuple #[.agg #[.int .i64 0, .slice none 0 0, .slice none 0 0, .slice none 0 0], .int .i64 5]) (by simp [results, Try.results9, go_sem, q0, q1, q2, q3]) rfl ?_
                    exact parse_err HPE.out (by decide) (HT.out.set4 _ _ _ _)
                  · have HI0 := info_parts cli_info
                    obtain ⟨i0, hi0, hz0, hz1, hz2⟩ := HI0
                    have HI := Lib.hid (And.intro hi0 (And.intro hz0 (And.intro hz1 hz2)))
                    clear hi0 hz0 hz1 hz2
                    have HA0 := Lib.hid (fun V => at2x t ((p : Int)) p V (by omega) (by omega) (by omega))
                    have HA1 := Lib.hid (fun V => at2x t ((p : Int) + 2) (p + 2) V (by omega) (by omega) (by omega))
                    have HA2 := Lib.hid (fun V => at1x t ((p : Int) + 4) (p + 4) V (by omega) (by omega) (by omega))
                    have HA3 := Lib.hid (fun V => at2x t ((p : Int) + 5) (p + 5) V (by omega) (by omega) (by omega))
                    have HA4 := Lib.hid (fun V => at1x t ((p : Int) + 7) (p + 7) V (by omega) (by omega) (by omega))
                    have HA5 := Lib.hid (fun V => at1x t ((p : Int) + 8) (p + 8) V (by omega) (by omega) (by omega))
                    have HA6 := Lib.hid (fun V => at1x t ((p : Int) + 9) (p + 9) V (by omega) (by omega) (by omega))
                    have HA7 := Lib.hid (fun V => at1x t ((p : Int) + 10) (p + 10) V (by omega) (by omega) (by omega))
                    have HA8 := Lib.hid (fun V => at2x t ((p : Int) + 11) (p + 11) V (by omega) (by omega) (by omega))
                    have HA9 := Lib.hid (fun V => at1x t ((p : Int) + 13) (p + 13) V (by omega) (by omega) (by omega))
                    have hw2 : IntKind.i64.wrap ((p : Int) + 2) = (p : Int) + 2 := IntWalk.i64_in _ (by omega)
                    have hw4 : IntKind.i64.wrap ((p : Int) + 4) = (p : Int) + 4 := IntWalk.i64_in _ (by omega)
                    have hw5 : IntKind.i64.wrap ((p : Int) + 5) = (p : Int) + 5 := IntWalk.i64_in _ (by omega)
                    have hw7 : IntKind.i64.wrap ((p : Int) + 7) = (p : Int) + 7 := IntWalk.i64_in _ (by omega)
                    have hw8 : IntKind.i64.wrap ((p : Int) + 8) = (p : Int) + 8 := IntWalk.i64_in _ (by omega)
                    have hw9 : IntKind.i64.wrap ((p : Int) + 9) = (p : Int) + 9 := IntWalk.i64_in _ (by omega)
                    have hw10 : IntKind.i64.wrap ((p : Int) + 10) = (p : Int) + 10 := IntWalk.i64_in _ (by omega)
                    have hw11 : IntKind.i64.wrap ((p : Int) + 11) = (p : Int) + 11 := IntWalk.i64_in _ (by omega)
                    have hw13 : IntKind.i64.wrap ((p : Int) + 13) = (p : Int) + 13 := IntWalk.i64_in _ (by omega)
                    go_wp2
                    refine wp_region_held_drew (S := AnyW) (by kernel_rfl) trivial (fun hHeld => ?_)
                    have HT := Lib.hid (HT.out.same ((Keeps.refl [] _).drew))
                    generalize World.drew _ = U0 at *
                    refine' wpAnyH_take (i := 0) (oi := _) (v := _) ?hR30 (by kernel_rfl) (by kernel_rfl) (by kernel_rfl) ?hQR30 (Or.inl ⟨?hwR30, ?hyR30⟩) trivial ?restR30
                    case hR30 => (simp only [List.getElem?_toArray, List.getElem?_cons_zero]; rfl)
                    case hQR30 => exact fun _ _ _ h => h
                    case hwR30 => rfl
                    case hyR30 => (intro w hSw; (try dsimp only at hSw); go_simp; try with_reducible rfl)
                    try simp only [Act.put, List.setIfInBounds_toArray, List.set_cons_zero, List.set_cons_succ]
                    refine' wpAnyH_take (i := 2) (oi := _) (v := _) ?hR32 (by kernel_rfl) (by kernel_rfl) (by kernel_rfl) ?hQR32 (Or.inl ⟨?hwR32, ?hyR32⟩) trivial ?restR32
                    case hR32 => (simp only [List.getElem?_toArray, List.getElem?_cons_succ, List.getElem?_cons_zero]; rfl)
                    case hQR32 => exact fun _ _ _ h => h
                    case hwR32 => rfl
                    case hyR32 => (intro w hSw; (try dsimp only at hSw); go_simp; try with_reducible rfl)
                    try simp only [Act.put, List.setIfInBounds_toArray, List.set_cons_zero, List.set_cons_succ]
                    refine' wpAnyH_take (i := 3) (oi := _) (v := _) ?hR33 (by kernel_rfl) (by kernel_rfl) (by kernel_rfl) ?hQR33 (Or.inl ⟨?hwR33, ?hyR33⟩) trivial ?restR33
                    case hR33 => (simp only [List.getElem?_toArray, List.getElem?_cons_succ, List.getElem?_cons_zero]; rfl)
                    case hQR33 => exact fun _ _ _ h => h
                    case hwR33 => rfl
                    case hyR33 => (intro w hSw; (try dsimp only at hSw); go_simp; try with_reducible rfl)
                    try simp only [Act.put, List.setIfInBounds_toArray, List.set_cons_zero, List.set_cons_succ]
                    refine' wpAnyH_take (i := 5) (oi := _) (v := _) ?hR35 (by kernel_rfl) (by kernel_rfl) (by kernel_rfl) ?hQR35 (Or.inl ⟨?hwR35, ?hyR35⟩) trivial ?restR35
                    case hR35 => (simp only [List.getElem?_toArray, List.getElem?_cons_succ, List.getElem?_cons_zero]; rfl)
                    case hQR35 => exact fun _ _ _ h => h
                    case hwR35 => rfl
                    case hyR35 => (intro w hSw; (try dsimp only at hSw); go_simp; try with_reducible rfl)
                    try simp only [Act.put, List.setIfInBounds_toArray, List.set_cons_zero, List.set_cons_succ]
                    refine' wpAnyH_take (i := 6) (oi := _) (v := _) ?hR36 (by kernel_rfl) (by kernel_rfl) (by kernel_rfl) ?hQR36 (Or.inl ⟨?hwR36, ?hyR36⟩) trivial ?restR36
                    case hR36 => (simp only [List.getElem?_toArray, List.getElem?_cons_succ, List.getElem?_cons_zero]; rfl)
                    case hQR36 => exact fun _ _ _ h => h
                    case hwR36 => rfl
                    case hyR36 => (intro w hSw; (try dsimp only at hSw); go_simp; try with_reducible rfl)
                    try simp only [Act.put, List.setIfInBounds_toArray, List.set_cons_zero, List.set_cons_succ]
                    refine' wpAnyH_take (i := 7) (oi := _) (v := _) ?hR37 (by kernel_rfl) (by kernel_rfl) (by kernel_rfl) ?hQR37 (Or.inl ⟨?hwR37, ?hyR37⟩) trivial ?restR37
                    case hR37 => (simp only [List.getElem?_toArray, List.getElem?_cons_succ, List.getElem?_cons_zero]; rfl)
                    case hQR37 => exact fun _ _ _ h => h
                    case hwR37 => rfl
                    case hyR37 => (intro w hSw; (try dsimp only at hSw); go_simp; try with_reducible rfl)
                    try simp only [Act.put, List.setIfInBounds_toArray, List.set_cons_zero, List.set_cons_succ]
                    refine' wpAnyH_take (i := 9) (oi := _) (v := _) ?hR39 (by kernel_rfl) (by kernel_rfl) (by kernel_rfl) ?hQR39 (Or.inl ⟨?hwR39, ?hyR39⟩) trivial ?restR39
                    case hR39 => (simp only [List.getElem?_toArray, List.getElem?_cons_succ, List.getElem?_cons_zero]; rfl)
                    case hQR39 => exact fun _ _ _ h => h
                    case hwR39 => rfl
                    case hyR39 => (intro w hSw; (try dsimp only at hSw); go_simp; try with_reducible rfl)
                    try simp only [Act.put, List.setIfInBounds_toArray, List.set_cons_zero, List.set_cons_succ]
                    refine' wpAnyH_take (i := 10) (oi := _) (v := _) ?hR310 (by kernel_rfl) (by kernel_rfl) (by kernel_rfl) ?hQR310 (Or.inl ⟨?hwR310, ?hyR310⟩) trivial ?restR310
                    case hR310 => (simp only [List.getElem?_toArray, List.getElem?_cons_succ, List.getElem?_cons_zero]; rfl)
                    case hQR310 => exact fun _ _ _ h => h
                    case hwR310 => rfl
                    case hyR310 => (intro w hSw; (try dsimp only at hSw); go_simp; try with_reducible rfl)
                    try simp only [Act.put, List.setIfInBounds_toArray, List.set_cons_zero, List.set_cons_succ]
                    refine' wpAnyH_take (i := 11) (oi := _) (v := _) ?hR311 (by kernel_rfl) (by kernel_rfl) (by kernel_rfl) ?hQR311 (Or.inl ⟨?hwR311, ?hyR311⟩) trivial ?restR311
                    case hR311 => (simp only [List.getElem?_toArray, List.getElem?_cons_succ, List.getElem?_cons_zero]; rfl)
                    case hQR311 => exact fun _ _ _ h => h
                    case hwR311 => rfl
                    case hyR311 => (intro w hSw; (try dsimp only at hSw); go_simp; try with_reducible rfl)
                    try simp only [Act.put, List.setIfInBounds_toArray, List.set_cons_zero, List.set_cons_succ]
                    refine' wpAnyH_take (i := 13) (oi := _) (v := _) ?hR313 (by kernel_rfl) (by kernel_rfl) (by kernel_rfl) ?hQR313 (Or.inl ⟨?hwR313, ?hyR313⟩) trivial ?restR313
                    case hR313 => (simp only [List.getElem?_toArray, List.getElem?_cons_succ, List.getElem?_cons_zero]; rfl)
                    case hQR313 => exact fun _ _ _ h => h
                    case hwR313 => rfl
                    case hyR313 => (intro w hSw; (try dsimp only at hSw); go_simp; try with_reducible rfl)
                    try simp only [Act.put, List.setIfInBounds_toArray, List.set_cons_zero, List.set_cons_succ]
                    refine' wpAnyH_take (i := 14) (oi := _) (v := _) ?hR314 (by kernel_rfl) (by kernel_rfl) (by kernel_rfl) ?hQR314 (Or.inl ⟨?hwR314, ?hyR314⟩) trivial ?restR314
                    case hR314 => (simp only [List.getElem?_toArray, List.getElem?_cons_succ, List.getElem?_cons_zero]; rfl)
                    case hQR314 => exact fun _ _ _ h => h
                    case hwR314 => rfl
                    case hyR314 => (intro w hSw; (try dsimp only at hSw); go_simp; try with_reducible rfl)
                    try simp only [Act.put, List.setIfInBounds_toArray, List.set_cons_zero, List.set_cons_succ]
                    refine' wpAnyH_take (i := 15) (oi := _) (v := _) ?hR315 (by kernel_rfl) (by kernel_rfl) (by kernel_rfl) ?hQR315 (Or.inl ⟨?hwR315, ?hyR315⟩) trivial ?restR315
                    case hR315 => (simp only [List.getElem?_toArray, List.getElem?_cons_succ, List.getElem?_cons_zero]; rfl)
                    case hQR315 => exact fun _ _ _ h => h
                    case hwR315 => rfl
                    case hyR315 => (intro w hSw; (try dsimp only at hSw); go_simp; try with_reducible rfl)
                    try simp only [Act.put, List.setIfInBounds_toArray, List.set_cons_zero, List.set_cons_succ]
                    refine' wpAnyH_take (i := 17) (oi := _) (v := _) ?hR317 (by kernel_rfl) (by kernel_rfl) (by kernel_rfl) ?hQR317 (Or.inl ⟨?hwR317, ?hyR317⟩) trivial ?restR317
                    case hR317 => (simp only [List.getElem?_toArray, List.getElem?_cons_succ, List.getElem?_cons_zero]; rfl)
                    case hQR317 => exact fun _ _ _ h => h
                    case hwR317 => rfl
                    case hyR317 => (intro w hSw; (try dsimp only at hSw); go_simp; try with_reducible rfl)
                    try simp only [Act.put, List.setIfInBounds_toArray, List.set_cons_zero, List.set_cons_succ]
                    refine' wpAnyH_take (i := 18) (oi := _) (v := _) ?hR318 (by kernel_rfl) (by kernel_rfl) (by kernel_rfl) ?hQR318 (Or.inl ⟨?hwR318, ?hyR318⟩) trivial ?restR318
                    case hR318 => (simp only [List.getElem?_toArray, List.getElem?_cons_succ, List.getElem?_cons_zero]; rfl)
                    case hQR318 => exact fun _ _ _ h => h
                    case hwR318 => rfl
                    case hyR318 => (intro w hSw; (try dsimp only at hSw); go_simp; try with_reducible rfl)
                    try simp only [Act.put, List.setIfInBounds_toArray, List.set_cons_zero, List.set_cons_succ]
                    refine' wpAnyH_take (i := 19) (oi := _) (v := _) ?hR319 (by kernel_rfl) (by kernel_rfl) (by kernel_rfl) ?hQR319 (Or.inl ⟨?hwR319, ?hyR319⟩) trivial ?restR319
                    case hR319 => (simp only [List.getElem?_toArray, List.getElem?_cons_succ, List.getElem?_cons_zero]; rfl)
                    case hQR319 => exact fun _ _ _ h => h
                    case hwR319 => rfl
                    case hyR319 => (intro w hSw; (try dsimp only at hSw); go_simp; try with_reducible rfl)
                    try simp only [Act.put, List.setIfInBounds_toArray, List.set_cons_zero, List.set_cons_succ]
                    refine' wpAnyH_take (i := 21) (oi := _) (v := _) ?hR321 (by kernel_rfl) (by kernel_rfl) (by kernel_rfl) ?hQR321 (Or.inl ⟨?hwR321, ?hyR321⟩) trivial ?restR321
                    case hR321 => (simp only [List.getElem?_toArray, List.getElem?_cons_succ, List.getElem?_cons_zero]; rfl)
                    case hQR321 => exact fun _ _ _ h => h
                    case hwR321 => rfl
                    case hyR321 => (intro w hSw; (try dsimp only at hSw); go_simp; try with_reducible rfl)
                    try simp only [Act.put, List.setIfInBounds_toArray, List.set_cons_zero, List.set_cons_succ]
                    refine' wpAnyH_take (i := 22) (oi := _) (v := _) ?hR322 (by kernel_rfl) (by kernel_rfl) (by kernel_rfl) ?hQR322 (Or.inl ⟨?hwR322, ?hyR322⟩) trivial ?restR322
                    case hR322 => (simp only [List.getElem?_toArray, List.getElem?_cons_succ, List.getElem?_cons_zero]; rfl)
                    case hQR322 => exact fun _ _ _ h => h
                    case hwR322 => rfl
                    case hyR322 => (intro w hSw; (try dsimp only at hSw); go_simp; try with_reducible rfl)
                    try simp only [Act.put, List.setIfInBounds_toArray, List.set_cons_zero, List.set_cons_succ]
                    refine' wpAnyH_take (i := 23) (oi := _) (v := _) ?hR323 (by kernel_rfl) (by kernel_rfl) (by kernel_rfl) ?hQR323 (Or.inl ⟨?hwR323, ?hyR323⟩) trivial ?restR323
                    case hR323 => (simp only [List.getElem?_toArray, List.getElem?_cons_succ, List.getElem?_cons_zero]; rfl)
                    case hQR323 => exact fun _ _ _ h => h
                    case hwR323 => rfl
                    case hyR323 => (intro w hSw; (try dsimp only at hSw); go_simp; try with_reducible rfl)
                    try simp only [Act.put, List.setIfInBounds_toArray, List.set_cons_zero, List.set_cons_succ]
                    refine' wpAnyH_take (i := 25) (oi := _) (v := _) ?hR325 (by kernel_rfl) (by kernel_rfl) (by kernel_rfl) ?hQR325 (Or.inl ⟨?hwR325, ?hyR325⟩) trivial ?restR325
                    case hR325 => (simp only [List.getElem?_toArray, List.getElem?_cons_succ, List.getElem?_cons_zero]; rfl)
                    case hQR325 => exact fun _ _ _ h => h
                    case hwR325 => rfl
                    case hyR325 => (intro w hSw; (try dsimp only at hSw); go_simp; try with_reducible rfl)
                    try simp only [Act.put, List.setIfInBounds_toArray, List.set_cons_zero, List.set_cons_succ]
                    refine' wpAnyH_take (i := 26) (oi := _) (v := _) ?hR326 (by kernel_rfl) (by kernel_rfl) (by kernel_rfl) ?hQR326 (Or.inl ⟨?hwR326, ?hyR326⟩) trivial ?restR326
                    case hR326 => (simp only [List.getElem?_toArray, List.getElem?_cons_succ, List.getElem?_cons_zero]; rfl)
                    case hQR326 => exact fun _ _ _ h => h
                    case hwR326 => rfl
                    case hyR326 => (intro w hSw; (try dsimp only at hSw); go_simp; try with_reducible rfl)
                    try simp only [Act.put, List.setIfInBounds_toArray, List.set_cons_zero, List.set_cons_succ]
                    refine' wpAnyH_take (i := 27) (oi := _) (v := _) ?hR327 (by kernel_rfl) (by kernel_rfl) (by kernel_rfl) ?hQR327 (Or.inl ⟨?hwR327, ?hyR327⟩) trivial ?restR327
                    case hR327 => (simp only [List.getElem?_toArray, List.getElem?_cons_succ, List.getElem?_cons_zero]; rfl)
                    case hQR327 => exact fun _ _ _ h => h
                    case hwR327 => rfl
                    case hyR327 => (intro w hSw; (try dsimp only at hSw); go_simp; try with_reducible rfl)
                    try simp only [Act.put, List.setIfInBounds_toArray, List.set_cons_zero, List.set_cons_succ]
                    refine' wpAnyH_take (i := 29) (oi := _) (v := _) ?hR329 (by kernel_rfl) (by kernel_rfl) (by kernel_rfl) ?hQR329 (Or.inl ⟨?hwR329, ?hyR329⟩) trivial ?restR329
                    case hR329 => (simp only [List.getElem?_toArray, List.getElem?_cons_succ, List.getElem?_cons_zero]; rfl)
                    case hQR329 => exact fun _ _ _ h => h
                    case hwR329 => rfl
                    case hyR329 => (intro w hSw; (try dsimp only at hSw); go_simp; try with_reducible rfl)
                    try simp only [Act.put, List.setIfInBounds_toArray, List.set_cons_zero, List.set_cons_succ]
                    refine' wpAnyH_take (i := 30) (oi := _) (v := _) ?hR330 (by kernel_rfl) (by kernel_rfl) (by kernel_rfl) ?hQR330 (Or.inl ⟨?hwR330, ?hyR330⟩) trivial ?restR330
                    case hR330 => (simp only [List.getElem?_toArray, List.getElem?_cons_succ, List.getElem?_cons_zero]; rfl)
                    case hQR330 => exact fun _ _ _ h => h
                    case hwR330 => rfl
                    case hyR330 => (intro w hSw; (try dsimp only at hSw); go_simp; try with_reducible rfl)
                    try simp only [Act.put, List.setIfInBounds_toArray, List.set_cons_zero, List.set_cons_succ]
                    refine' wpAnyH_take (i := 31) (oi := _) (v := _) ?hR331 (by kernel_rfl) (by kernel_rfl) (by kernel_rfl) ?hQR331 (Or.inl ⟨?hwR331, ?hyR331⟩) trivial ?restR331
                    case hR331 => (simp only [List.getElem?_toArray, List.getElem?_cons_succ, List.getElem?_cons_zero]; rfl)
                    case hQR331 => exact fun _ _ _ h => h
                    case hwR331 => rfl
                    case hyR331 => (intro w hSw; (try dsimp only at hSw); go_simp; try with_reducible rfl)
                    try simp only [Act.put, List.setIfInBounds_toArray, List.set_cons_zero, List.set_cons_succ]
                    refine' wpAnyH_take (i := 33) (oi := _) (v := _) ?hR333 (by kernel_rfl) (by kernel_rfl) (by kernel_rfl) ?hQR333 (Or.inl ⟨?hwR333, ?hyR333⟩) trivial ?restR333
                    case hR333 => (simp only [List.getElem?_toArray, List.getElem?_cons_succ, List.getElem?_cons_zero]; rfl)
                    case hQR333 => exact fun _ _ _ h => h
                    case hwR333 => rfl
                    case hyR333 => (intro w hSw; (try dsimp only at hSw); go_simp; try with_reducible rfl)
                    try simp only [Act.put, List.setIfInBounds_toArray, List.set_cons_zero, List.set_cons_succ]
                    refine' wpAnyH_take (i := 34) (oi := _) (v := _) ?hR334 (by kernel_rfl) (by kernel_rfl) (by kernel_rfl) ?hQR334 (Or.inl ⟨?hwR334, ?hyR334⟩) trivial ?restR334
                    case hR334 => (simp only [List.getElem?_toArray, List.getElem?_cons_succ, List.getElem?_cons_zero]; rfl)
                    case hQR334 => exact fun _ _ _ h => h
                    case hwR334 => rfl
                    case hyR334 => (intro w hSw; (try dsimp only at hSw); go_simp; try with_reducible rfl)
                    try simp only [Act.put, List.setIfInBounds_toArray, List.set_cons_zero, List.set_cons_succ]
                    refine' wpAnyH_take (i := 35) (oi := _) (v := _) ?hR335 (by kernel_rfl) (by kernel_rfl) (by kernel_rfl) ?hQR335 (Or.inl ⟨?hwR335, ?hyR335⟩) trivial ?restR335
                    case hR335 => (simp only [List.getElem?_toArray, List.getElem?_cons_succ, List.getElem?_cons_zero]; rfl)
                    case hQR335 => exact fun _ _ _ h => h
                    case hwR335 => rfl
                    case hyR335 => (intro w hSw; (try dsimp only at hSw); go_simp; try with_reducible rfl)
                    try simp only [Act.put, List.setIfInBounds_toArray, List.set_cons_zero, List.set_cons_succ]
                    refine' wpAnyH_take (i := 37) (oi := _) (v := _) ?hR337 (by kernel_rfl) (by kernel_rfl) (by kernel_rfl) ?hQR337 (Or.inl ⟨?hwR337, ?hyR337⟩) trivial ?restR337
                    case hR337 => (simp only [List.getElem?_toArray, List.getElem?_cons_succ, List.getElem?_cons_zero]; rfl)
                    case hQR337 => exact fun _ _ _ h => h
                    case hwR337 => rfl
                    case hyR337 => (intro w hSw; (try dsimp only at hSw); go_simp; try with_reducible rfl)
                    try simp only [Act.put, List.setIfInBounds_toArray, List.set_cons_zero, List.set_cons_succ]
                    refine' wpAnyH_take (i := 38) (oi := _) (v := _) ?hR338 (by kernel_rfl) (by kernel_rfl) (by kernel_rfl) ?hQR338 (Or.inl ⟨?hwR338, ?hyR338⟩) trivial ?restR338
                    case hR338 => (simp only [List.getElem?_toArray, List.getElem?_cons_succ, List.getElem?_cons_zero]; rfl)
                    case hQR338 => exact fun _ _ _ h => h
                    case hwR338 => rfl
                    case hyR338 => (intro w hSw; (try dsimp only at hSw); go_simp; try with_reducible rfl)
                    try simp only [Act.put, List.setIfInBounds_toArray, List.set_cons_zero, List.set_cons_succ]
                    refine' wpAnyH_take (i := 39) (oi := _) (v := _) ?hR339 (by kernel_rfl) (by kernel_rfl) (by kernel_rfl) ?hQR339 (Or.inl ⟨?hwR339, ?hyR339⟩) trivial ?restR339
                    case hR339 => (simp only [List.getElem?_toArray, List.getElem?_cons_succ, List.getElem?_cons_zero]; rfl)
                    case hQR339 => exact fun _ _ _ h => h
                    case hwR339 => rfl
                    case hyR339 => (intro w hSw; (try dsimp only at hSw); go_simp; try with_reducible rfl)
                    try simp only [Act.put, List.setIfInBounds_toArray, List.set_cons_zero, List.set_cons_succ]
                    refine' share ?c3_f ?b3_f
                    case b3_f =>
                      intro F3_f
                      refine' share ?c3_10 ?b3_10
                      case b3_10 =>
                        intro F3_10
                        refine' share ?c3_9 ?b3_9
                        case b3_9 =>
                          intro F3_9
                          refine' share ?c3_8 ?b3_8
                          case b3_8 =>
                            intro F3_8
                            refine' share ?c3_7 ?b3_7
                            case b3_7 =>
                              intro F3_7
                              refine' share ?c3_6 ?b3_6
                              case b3_6 =>
                                intro F3_6
                                refine' share ?c3_5 ?b3_5
                                case b3_5 =>
                                  intro F3_5
                                  refine' share ?c3_4 ?b3_4
                                  case b3_4 =>
                                    intro F3_4
                                    refine' share ?c3_3 ?b3_3
                                    case b3_3 =>
                                      intro F3_3
                                      refine' share ?c3_2 ?b3_2
                                      case b3_2 =>
                                        intro F3_2
                                        refine' share ?c3_1 ?b3_1
                                        case b3_1 =>
                                          intro F3_1
                                          refine' share ?c3_0 ?b3_0
                                          case b3_0 =>
                                            intro F3_0
                                            refine wpAnyH_ready (rs := [1, 4]) (by kernel_rfl) (by simp) ?_
                                            refine' (AllReadyH.cons (o := _) ?hoD3_01 (fun K hK' => ?stD3_01) (AllReadyH.cons (o := _) ?hoD3_04 (fun K hK' => ?stD3_04) AllReadyH.nil))
                                            case hoD3_01 => (simp only [List.getElem?_toArray, List.getElem?_cons_succ, List.getElem?_cons_zero]; rfl)
                                            case hoD3_04 => (simp only [List.getElem?_toArray, List.getElem?_cons_succ, List.getElem?_cons_zero]; rfl)
                                            case stD3_01 =>
                                              have qc := HT.out.bk.cell 3
                                              simp only [List.getElem?_toArray, List.getElem?_cons_succ, List.getElem?_cons_zero] at qc
                                              go_simp
                                              refine hK'.out _ _ trivial (fun _ => ?_)
                                              clear hK' K
                                              try simp only [Act.put]
                                              try simp only [List.setIfInBounds_toArray, List.set_cons_zero, List.set_cons_succ]
                                              clear qc
                                              exact F3_0.out
                                            case stD3_04 =>
                                              go_simp
                                              refine (HA0.out _).mono ?_
                                              rintro e v9 ⟨rfl, rfl⟩
                                              try go_wp2_with fail
                                              refine hK'.out _ _ trivial (fun _ => ?_)
                                              clear hK' K
                                              try simp only [Act.put]
                                              try simp only [List.setIfInBounds_toArray, List.set_cons_zero, List.set_cons_succ]
                                              refine wpAnyH_ready (rs := [1, 8]) (by kernel_rfl) (by simp) ?_
                                              refine' (AllReadyH.cons (o := _) ?hoD3_11 (fun K hK' => ?stD3_11) (AllReadyH.cons (o := _) ?hoD3_18 (fun K hK' => ?stD3_18) AllReadyH.nil))
                                              case hoD3_11 => (simp only [List.getElem?_toArray, List.getElem?_cons_succ, List.getElem?_cons_zero]; rfl)
                                              case hoD3_18 => (simp only [List.getElem?_toArray, List.getElem?_cons_succ, List.getElem?_cons_zero]; rfl)
                                              case stD3_11 =>
                                                have qc := HT.out.bk.cell 3
                                                simp only [List.getElem?_toArray, List.getElem?_cons_succ, List.getElem?_cons_zero] at qc
                                                go_simp
                                                refine hK'.out _ _ trivial (fun _ => ?_)
                                                clear hK' K
                                                try simp only [Act.put]
                                                try simp only [List.setIfInBounds_toArray, List.set_cons_zero, List.set_cons_succ]
                                                clear qc
                                                exact F3_1.out
                                              case stD3_18 =>
                                                go_simp
                                                refine (HA1.out _).mono ?_
                                                rintro e v9 ⟨rfl, rfl⟩
                                                try go_wp2_with fail
                                                refine hK'.out _ _ trivial (fun _ => ?_)
                                                clear hK' K
                                                try simp only [Act.put]
                                                try simp only [List.setIfInBounds_toArray, List.set_cons_zero, List.set_cons_succ]
                                                refine wpAnyH_ready (rs := [1, 12]) (by kernel_rfl) (by simp) ?_
                                                refine' (AllReadyH.cons (o := _) ?hoD3_21 (fun K hK' => ?stD3_21) (AllReadyH.cons (o := _) ?hoD3_212 (fun K hK' => ?stD3_212) AllReadyH.nil))
                                                case hoD3_21 => (simp only [List.getElem?_toArray, List.getElem?_cons_succ, List.getElem?_cons_zero]; rfl)
                                                case hoD3_212 => (simp only [List.getElem?_toArray, List.getElem?_cons_succ, List.getElem?_cons_zero]; rfl)
                                                case stD3_21 =>
                                                  have qc := HT.out.bk.cell 3
                                                  simp only [List.getElem?_toArray, List.getElem?_cons_succ, List.getElem?_cons_zero] at qc
                                                  go_simp
                                                  refine hK'.out _ _ trivial (fun _ => ?_)
                                                  clear hK' K
                                                  try simp only [Act.put]
                                                  try simp only [List.setIfInBounds_toArray, List.set_cons_zero, List.set_cons_succ]
                                                  clear qc
                                                  exact F3_2.out
                                                case stD3_212 =>
                                                  go_simp
                                                  refine (HA2.out _).mono ?_
                                                  rintro e v9 ⟨rfl, rfl⟩
                                                  try go_wp2_with fail
                                                  refine hK'.out _ _ trivial (fun _ => ?_)
                                                  clear hK' K
                                                  try simp only [Act.put]
                                                  try simp only [List.setIfInBounds_toArray, List.set_cons_zero, List.set_cons_succ]
                                                  refine wpAnyH_ready (rs := [1, 16]) (by kernel_rfl) (by simp) ?_
                                                  refine' (AllReadyH.cons (o := _) ?hoD3_31 (fun K hK' => ?stD3_31) (AllReadyH.cons (o := _) ?hoD3_316 (fun K hK' => ?stD3_316) AllReadyH.nil))
                                                  case hoD3_31 => (simp only [List.getElem?_toArray, List.getElem?_cons_succ, List.getElem?_cons_zero]; rfl)
                                                  case hoD3_316 => (simp only [List.getElem?_toArray, List.getElem?_cons_succ, List.getElem?_cons_zero]; rfl)
                                                  case stD3_31 =>
                                                    have qc := HT.out.bk.cell 3
                                                    simp only [List.getElem?_toArray, List.getElem?_cons_succ, List.getElem?_cons_zero] at qc
                                                    go_simp
                                                    refine hK'.out _ _ trivial (fun _ => ?_)
                                                    clear hK' K
                                                    try simp only [Act.put]
                                                    try simp only [List.setIfInBounds_toArray, List.set_cons_zero, List.set_cons_succ]
                                                    clear qc
                                                    exact F3_3.out
                                                  case stD3_316 =>
                                                    go_simp
                                                    refine (HA3.out _).mono ?_
                                                    rintro e v9 ⟨rfl, rfl⟩
                                                    try go_wp2_with fail
                                                    refine hK'.out _ _ trivial (fun _ => ?_)
                                                    clear hK' K
                                                    try simp only [Act.put]
                                                    try simp only [List.setIfInBounds_toArray, List.set_cons_zero, List.set_cons_succ]
                                                    refine wpAnyH_ready (rs := [1, 20]) (by kernel_rfl) (by simp) ?_
                                                    refine' (AllReadyH.cons (o := _) ?hoD3_41 (fun K hK' => ?stD3_41) (AllReadyH.cons (o := _) ?hoD3_420 (fun K hK' => ?stD3_420) AllReadyH.nil))
                                                    case hoD3_41 => (simp only [List.getElem?_toArray, List.getElem?_cons_succ, List.getElem?_cons_zero]; rfl)
                                                    case hoD3_420 => (simp only [List.getElem?_toArray, List.getElem?_cons_succ, List.getElem?_cons_zero]; rfl)
                                                    case stD3_41 =>
                                                      have qc := HT.out.bk.cell 3
                                                      simp only [List.getElem?_toArray, List.getElem?_cons_succ, List.getElem?_cons_zero] at qc
                                                      go_simp
                                                      refine hK'.out _ _ trivial (fun _ => ?_)
                                                      clear hK' K
                                                      try simp only [Act.put]
                                                      try simp only [List.setIfInBounds_toArray, List.set_cons_zero, List.set_cons_succ]
                                                      clear qc
                                                      exact F3_4.out
                                                    case stD3_420 =>
                                                      go_simp
                                                      refine (HA4.out _).mono ?_
                                                      rintro e v9 ⟨rfl, rfl⟩
                                                      try go_wp2_with fail
                                                      refine hK'.out _ _ trivial (fun _ => ?_)
                                                      clear hK' K
                                                      try simp only [Act.put]
                                                      try simp only [List.setIfInBounds_toArray, List.set_cons_zero, List.set_cons_succ]
                                                      refine wpAnyH_ready (rs := [1, 24]) (by kernel_rfl) (by simp) ?_
                                                      refine' (AllReadyH.cons (o := _) ?hoD3_51 (fun K hK' => ?stD3_51) (AllReadyH.cons (o := _) ?hoD3_524 (fun K hK' => ?stD3_524) AllReadyH.nil))
                                                      case hoD3_51 => (simp only [List.getElem?_toArray, List.getElem?_cons_succ, List.getElem?_cons_zero]; rfl)
                                                      case hoD3_524 => (simp only [List.getElem?_toArray, List.getElem?_cons_succ, List.getElem?_cons_zero]; rfl)
                                                      case stD3_51 =>
                                                        have qc := HT.out.bk.cell 3
                                                        simp only [List.getElem?_toArray, List.getElem?_cons_succ, List.getElem?_cons_zero] at qc
                                                        go_simp
                                                        refine hK'.out _ _ trivial (fun _ => ?_)
                                                        clear hK' K
                                                        try simp only [Act.put]
                                                        try simp only [List.setIfInBounds_toArray, List.set_cons_zero, List.set_cons_succ]
                                                        clear qc
                                                        exact F3_5.out
                                                      case stD3_524 =>
                                                        go_simp
                                                        refine (HA5.out _).mono ?_
                                                        rintro e v9 ⟨rfl, rfl⟩
                                                        try go_wp2_with fail
                                                        refine hK'.out _ _ trivial (fun _ => ?_)
                                                        clear hK' K
                                                        try simp only [Act.put]
                                                        try simp only [List.setIfInBounds_toArray, List.set_cons_zero, List.set_cons_succ]
                                                        refine wpAnyH_ready (rs := [1, 28]) (by kernel_rfl) (by simp) ?_
                                                        refine' (AllReadyH.cons (o := _) ?hoD3_61 (fun K hK' => ?stD3_61) (AllReadyH.cons (o := _) ?hoD3_628 (fun K hK' => ?stD3_628) AllReadyH.nil))
                                                        case hoD3_61 => (simp only [List.getElem?_toArray, List.getElem?_cons_succ, List.getElem?_cons_zero]; rfl)
                                                        case hoD3_628 => (simp only [List.getElem?_toArray, List.getElem?_cons_succ, List.getElem?_cons_zero]; rfl)
                                                        case stD3_61 =>
                                                          have qc := HT.out.bk.cell 3
                                                          simp only [List.getElem?_toArray, List.getElem?_cons_succ, List.getElem?_cons_zero] at qc
                                                          go_simp
                                                          refine hK'.out _ _ trivial (fun _ => ?_)
                                                          clear hK' K
                                                          try simp only [Act.put]
                                                          try simp only [List.setIfInBounds_toArray, List.set_cons_zero, List.set_cons_succ]
                                                          clear qc
                                                          exact F3_6.out
                                                        case stD3_628 =>
                                                          go_simp
                                                          refine (HA6.out _).mono ?_
                                                          rintro e v9 ⟨rfl, rfl⟩
                                                          try go_wp2_with fail
                                                          refine hK'.out _ _ trivial (fun _ => ?_)
                                                          clear hK' K
                                                          try simp only [Act.put]
                                                          try simp only [List.setIfInBounds_toArray, List.set_cons_zero, List.set_cons_succ]
                                                          refine wpAnyH_ready (rs := [1, 32]) (by kernel_rfl) (by simp) ?_
                                                          refine' (AllReadyH.cons (o := _) ?hoD3_71 (fun K hK' => ?stD3_71) (AllReadyH.cons (o := _) ?hoD3_732 (fun K hK' => ?stD3_732) AllReadyH.nil))
                                                          case hoD3_71 => (simp only [List.getElem?_toArray, List.getElem?_cons_succ, List.getElem?_cons_zero]; rfl)
                                                          case hoD3_732 => (simp only [List.getElem?_toArray, List.getElem?_cons_succ, List.getElem?_cons_zero]; rfl)
                                                          case stD3_71 =>
                                                            have qc := HT.out.bk.cell 3
                                                            simp only [List.getElem?_toArray, List.getElem?_cons_succ, List.getElem?_cons_zero] at qc
                                                            go_simp
                                                            refine hK'.out _ _ trivial (fun _ => ?_)
                                                            clear hK' K
                                                            try simp only [Act.put]
                                                            try simp only [List.setIfInBounds_toArray, List.set_cons_zero, List.set_cons_succ]
                                                            clear qc
                                                            exact F3_7.out
                                                          case stD3_732 =>
                                                            go_simp
                                                            refine (HA7.out _).mono ?_
                                                            rintro e v9 ⟨rfl, rfl⟩
                                                            try go_wp2_with fail
                                                            refine hK'.out _ _ trivial (fun _ => ?_)
                                                            clear hK' K
                                                            try simp only [Act.put]
                                                            try simp only [List.setIfInBounds_toArray, List.set_cons_zero, List.set_cons_succ]
                                                            refine wpAnyH_ready (rs := [1, 36]) (by kernel_rfl) (by simp) ?_
                                                            refine' (AllReadyH.cons (o := _) ?hoD3_81 (fun K hK' => ?stD3_81) (AllReadyH.cons (o := _) ?hoD3_836 (fun K hK' => ?stD3_836) AllReadyH.nil))
                                                            case hoD3_81 => (simp only [List.getElem?_toArray, List.getElem?_cons_succ, List.getElem?_cons_zero]; rfl)
                                                            case hoD3_836 => (simp only [List.getElem?_toArray, List.getElem?_cons_succ, List.getElem?_cons_zero]; rfl)
                                                            case stD3_81 =>
                                                              have qc := HT.out.bk.cell 3
                                                              simp only [List.getElem?_toArray, List.getElem?_cons_succ, List.getElem?_cons_zero] at qc
                                                              go_simp
                                                              refine hK'.out _ _ trivial (fun _ => ?_)
                                                              clear hK' K
                                                              try simp only [Act.put]
                                                              try simp only [List.setIfInBounds_toArray, List.set_cons_zero, List.set_cons_succ]
                                                              clear qc
                                                              exact F3_8.out
                                                            case stD3_836 =>
                                                              go_simp
                                                              refine (HA8.out _).mono ?_
                                                              rintro e v9 ⟨rfl, rfl⟩
                                                              try go_wp2_with fail
                                                              refine hK'.out _ _ trivial (fun _ => ?_)
                                                              clear hK' K
                                                              try simp only [Act.put]
                                                              try simp only [List.setIfInBounds_toArray, List.set_cons_zero, List.set_cons_succ]
                                                              refine wpAnyH_ready (rs := [1, 40]) (by kernel_rfl) (by simp) ?_
                                                              refine' (AllReadyH.cons (o := _) ?hoD3_91 (fun K hK' => ?stD3_91) (AllReadyH.cons (o := _) ?hoD3_940 (fun K hK' => ?stD3_940) AllReadyH.nil))
                                                              case hoD3_91 => (simp only [List.getElem?_toArray, List.getElem?_cons_succ, List.getElem?_cons_zero]; rfl)
                                                              case hoD3_940 => (simp only [List.getElem?_toArray, List.getElem?_cons_succ, List.getElem?_cons_zero]; rfl)
                                                              case stD3_91 =>
                                                                have qc := HT.out.bk.cell 3
                                                                simp only [List.getElem?_toArray, List.getElem?_cons_succ, List.getElem?_cons_zero] at qc
                                                                go_simp
                                                                refine hK'.out _ _ trivial (fun _ => ?_)
                                                                clear hK' K
                                                                try simp only [Act.put]
                                                                try simp only [List.setIfInBounds_toArray, List.set_cons_zero, List.set_cons_succ]
                                                                clear qc
                                                                exact F3_9.out
                                                              case stD3_940 =>
                                                                go_simp
                                                                refine (HA9.out _).mono ?_
                                                                rintro e v9 ⟨rfl, rfl⟩
                                                                try go_wp2_with fail
                                                                refine hK'.out _ _ trivial (fun _ => ?_)
                                                                clear hK' K
                                                                try simp only [Act.put]
                                                                try simp only [List.setIfInBounds_toArray, List.set_cons_zero, List.set_cons_succ]
                                                                refine' wpAnyH_take (i := 41) (oi := _) (v := _) ?hD3_1041 (by kernel_rfl) (by kernel_rfl) (by kernel_rfl) ?hQD3_1041 (Or.inl ⟨?hwD3_1041, ?hyD3_1041⟩) trivial ?restD3_1041
                                                                case hD3_1041 => (simp only [List.getElem?_toArray, List.getElem?_cons_succ, List.getElem?_cons_zero]; rfl)
                                                                case hQD3_1041 => exact fun _ _ _ h => h
                                                                case hwD3_1041 => rfl
                                                                case hyD3_1041 => (intro w hSw; (try dsimp only at hSw); go_simp; try with_reducible rfl)
                                                                try simp only [Act.put, List.setIfInBounds_toArray, List.set_cons_zero, List.set_cons_succ]
                                                                refine wpAnyH_ready (rs := [1, 42]) (by kernel_rfl) (by simp) ?_
                                                                refine' (AllReadyH.cons (o := _) ?hoD3_101 (fun K hK' => ?stD3_101) (AllReadyH.cons (o := _) ?hoD3_1042 (fun K hK' => ?stD3_1042) AllReadyH.nil))
                                                                case hoD3_101 => (simp only [List.getElem?_toArray, List.getElem?_cons_succ, List.getElem?_cons_zero]; rfl)
                                                                case hoD3_1042 => (simp only [List.getElem?_toArray, List.getElem?_cons_succ, List.getElem?_cons_zero]; rfl)
                                                                case stD3_101 =>
                                                                  have qc := HT.out.bk.cell 3
                                                                  simp only [List.getElem?_toArray, List.getElem?_cons_succ, List.getElem?_cons_zero] at qc
                                                                  go_simp
                                                                  refine hK'.out _ _ trivial (fun _ => ?_)
                                                                  clear hK' K
                                                                  try simp only [Act.put]
                                                                  try simp only [List.setIfInBounds_toArray, List.set_cons_zero, List.set_cons_succ]
                                                                  clear qc
                                                                  exact F3_10.out
                                                                case stD3_1042 =>
                                                                  go_simp
                                                                  refine hK'.out _ _ trivial (fun _ => ?_)
                                                                  clear hK' K
                                                                  try simp only [Act.put]
                                                                  try simp only [List.setIfInBounds_toArray, List.set_cons_zero, List.set_cons_succ]
                                                                  have HTa := Lib.hid (HT.out.same ((Keeps.refl [] U0).alloc (.cells (rwc [b2 t.data.toList p, b2 t.data.toList (p + 2), b1 t.data.toList (p + 4), b2 t.data.toList (p + 5), b1 t.data.toList (p + 7), b1 t.data.toList (p + 8), b1 t.data.toList (p + 9), b1 t.data.toList (p + 10), b2 t.data.toList (p + 11), b1 t.data.toList (p + 13)]).toArray 54)))
                                                                  refine wpAnyH_ready (rs := [1]) (by kernel_rfl) (by simp) ?_
                                                                  refine' (AllReadyH.cons (o := _) ?hoD3_10l1 (fun K hK' => ?stD3_10l1) AllReadyH.nil)
                                                                  case hoD3_10l1 => (simp only [List.getElem?_toArray, List.getElem?_cons_succ, List.getElem?_cons_zero]; rfl)
                                                                  case stD3_10l1 =>
                                                                    have qc := HTa.out.bk.cell 3
                                                                    simp only [List.getElem?_toArray, List.getElem?_cons_succ, List.getElem?_cons_zero] at qc
                                                                    have qc : (U0.alloc (.cells #[.int .i64 (b2 t.data.toList p), .int .i64 (b2 t.data.toList (p + 2)), .int .i64 (b1 t.data.toList (p + 4)), .int .i64 (b2 t.data.toList (p + 5)), .int .i64 (b1 t.data.toList (p + 7)), .int .i64 (b1 t.data.toList (p + 8)), .int .i64 (b1 t.data.toList (p + 9)), .int .i64 (b1 t.data.toList (p + 10)), .int .i64 (b2 t.data.toList (p + 11)), .int .i64 (b1 t.data.toList (p + 13))] 54)).cell? ⟨bc, 3, none⟩ = _ := qc
                                                                    go_simp
                                                                    refine hK'.out _ _ trivial (fun _ => ?_)
                                                                    clear hK' K
                                                                    try simp only [Act.put]
                                                                    try simp only [List.setIfInBounds_toArray, List.set_cons_zero, List.set_cons_succ]
                                                                    exact F3_f.out
                                          case c3_0 =>
                                            refine wpAnyH_ready (rs := [4]) (by kernel_rfl) (by simp) ?_
                                            refine' (AllReadyH.cons (o := _) ?hoC3_04 (fun K hK' => ?stC3_04) AllReadyH.nil)
                                            case hoC3_04 => (simp only [List.getElem?_toArray, List.getElem?_cons_succ, List.getElem?_cons_zero]; rfl)
                                            case stC3_04 =>
                                              go_simp
                                              refine (HA0.out _).mono ?_
                                              rintro e v9 ⟨rfl, rfl⟩
                                              try go_wp2_with fail
                                              refine hK'.out _ _ trivial (fun _ => ?_)
                                              clear hK' K
                                              try simp only [Act.put]
                                              try simp only [List.setIfInBounds_toArray, List.set_cons_zero, List.set_cons_succ]
                                              exact F3_1.out
                                        case c3_1 =>
                                          refine wpAnyH_ready (rs := [8]) (by kernel_rfl) (by simp) ?_
                                          refine' (AllReadyH.cons (o := _) ?hoC3_18 (fun K hK' => ?stC3_18) AllReadyH.nil)
                                          case hoC3_18 => (simp only [List.getElem?_toArray, List.getElem?_cons_succ, List.getElem?_cons_zero]; rfl)
                                          case stC3_18 =>
                                            go_simp
                                            refine (HA1.out _).mono ?_
                                            rintro e v9 ⟨rfl, rfl⟩
                                            try go_wp2_with fail
                                            refine hK'.out _ _ trivial (fun _ => ?_)
                                            clear hK' K
                                            try simp only [Act.put]
                                            try simp only [List.setIfInBounds_toArray, List.set_cons_zero, List.set_cons_succ]
                                            exact F3_2.out
                                      case c3_2 =>
                                        refine wpAnyH_ready (rs := [12]) (by kernel_rfl) (by simp) ?_
                                        refine' (AllReadyH.cons (o := _) ?hoC3_212 (fun K hK' => ?stC3_212) AllReadyH.nil)
                                        case hoC3_212 => (simp only [List.getElem?_toArray, List.getElem?_cons_succ, List.getElem?_cons_zero]; rfl)
                                        case stC3_212 =>
                                          go_simp
                                          refine (HA2.out _).mono ?_
                                          rintro e v9 ⟨rfl, rfl⟩
                                          try go_wp2_with fail
                                          refine hK'.out _ _ trivial (fun _ => ?_)
                                          clear hK' K
                                          try simp only [Act.put]
                                          try simp only [List.setIfInBounds_toArray, List.set_cons_zero, List.set_cons_succ]
                                          exact F3_3.out
                                    case c3_3 =>
                                      refine wpAnyH_ready (rs := [16]) (by kernel_rfl) (by simp) ?_
                                      refine' (AllReadyH.cons (o := _) ?hoC3_316 (fun K hK' => ?stC3_316) AllReadyH.nil)
                                      case hoC3_316 => (simp only [List.getElem?_toArray, List.getElem?_cons_succ, List.getElem?_cons_zero]; rfl)
                                      case stC3_316 =>
                                        go_simp
                                        refine (HA3.out _).mono ?_
                                        rintro e v9 ⟨rfl, rfl⟩
                                        try go_wp2_with fail
                                        refine hK'.out _ _ trivial (fun _ => ?_)
                                        clear hK' K
                                        try simp only [Act.put]
                                        try simp only [List.setIfInBounds_toArray, List.set_cons_zero, List.set_cons_succ]
                                        exact F3_4.out
                                  case c3_4 =>
                                    refine wpAnyH_ready (rs := [20]) (by kernel_rfl) (by simp) ?_
                                    refine' (AllReadyH.cons (o := _) ?hoC3_420 (fun K hK' => ?stC3_420) AllReadyH.nil)
                                    case hoC3_420 => (simp only [List.getElem?_toArray, List.getElem?_cons_succ, List.getElem?_cons_zero]; rfl)
                                    case stC3_420 =>
                                      go_simp
                                      refine (HA4.out _).mono ?_
                                      rintro e v9 ⟨rfl, rfl⟩
                                      try go_wp2_with fail
                                      refine hK'.out _ _ trivial (fun _ => ?_)
                                      clear hK' K
                                      try simp only [Act.put]
                                      try simp only [List.setIfInBounds_toArray, List.set_cons_zero, List.set_cons_succ]
                                      exact F3_5.out
                                case c3_5 =>
                                  refine wpAnyH_ready (rs := [24]) (by kernel_rfl) (by simp) ?_
                                  refine' (AllReadyH.cons (o := _) ?hoC3_524 (fun K hK' => ?stC3_524) AllReadyH.nil)
                                  case hoC3_524 => (simp only [List.getElem?_toArray, List.getElem?_cons_succ, List.getElem?_cons_zero]; rfl)
                                  case stC3_524 =>
                                    go_simp
                                    refine (HA5.out _).mono ?_
                                    rintro e v9 ⟨rfl, rfl⟩
                                    try go_wp2_with fail
                                    refine hK'.out _ _ trivial (fun _ => ?_)
                                    clear hK' K
                                    try simp only [Act.put]
                                    try simp only [List.setIfInBounds_toArray, List.set_cons_zero, List.set_cons_succ]
                                    exact F3_6.out
                              case c3_6 =>
                                refine wpAnyH_ready (rs := [28]) (by kernel_rfl) (by simp) ?_
                                refine' (AllReadyH.cons (o := _) ?hoC3_628 (fun K hK' => ?stC3_628) AllReadyH.nil)
                                case hoC3_628 => (simp only [List.getElem?_toArray, List.getElem?_cons_succ, List.getElem?_cons_zero]; rfl)
                                case stC3_628 =>
                                  go_simp
                                  refine (HA6.out _).mono ?_
                                  rintro e v9 ⟨rfl, rfl⟩
                                  try go_wp2_with fail
                                  refine hK'.out _ _ trivial (fun _ => ?_)
                                  clear hK' K
                                  try simp only [Act.put]
                                  try simp only [List.setIfInBounds_toArray, List.set_cons_zero, List.set_cons_succ]
                                  exact F3_7.out
                            case c3_7 =>
                              refine wpAnyH_ready (rs := [32]) (by kernel_rfl) (by simp) ?_
                              refine' (AllReadyH.cons (o := _) ?hoC3_732 (fun K hK' => ?stC3_732) AllReadyH.nil)
                              case hoC3_732 => (simp only [List.getElem?_toArray, List.getElem?_cons_succ, List.getElem?_cons_zero]; rfl)
                              case stC3_732 =>
                                go_simp
                                refine (HA7.out _).mono ?_
                                rintro e v9 ⟨rfl, rfl⟩
                                try go_wp2_with fail
                                refine hK'.out _ _ trivial (fun _ => ?_)
                                clear hK' K
                                try simp only [Act.put]
                                try simp only [List.setIfInBounds_toArray, List.set_cons_zero, List.set_cons_succ]
                                exact F3_8.out
                          case c3_8 =>
                            refine wpAnyH_ready (rs := [36]) (by kernel_rfl) (by simp) ?_
                            refine' (AllReadyH.cons (o := _) ?hoC3_836 (fun K hK' => ?stC3_836) AllReadyH.nil)
                            case hoC3_836 => (simp only [List.getElem?_toArray, List.getElem?_cons_succ, List.getElem?_cons_zero]; rfl)
                            case stC3_836 =>
                              go_simp
                              refine (HA8.out _).mono ?_
                              rintro e v9 ⟨rfl, rfl⟩
                              try go_wp2_with fail
                              refine hK'.out _ _ trivial (fun _ => ?_)
                              clear hK' K
                              try simp only [Act.put]
                              try simp only [List.setIfInBounds_toArray, List.set_cons_zero, List.set_cons_succ]
                              exact F3_9.out
                        case c3_9 =>
                          refine wpAnyH_ready (rs := [40]) (by kernel_rfl) (by simp) ?_
                          refine' (AllReadyH.cons (o := _) ?hoC3_940 (fun K hK' => ?stC3_940) AllReadyH.nil)
                          case hoC3_940 => (simp only [List.getElem?_toArray, List.getElem?_cons_succ, List.getElem?_cons_zero]; rfl)
                          case stC3_940 =>
                            go_simp
                            refine (HA9.out _).mono ?_
                            rintro e v9 ⟨rfl, rfl⟩
                            try go_wp2_with fail
                            refine hK'.out _ _ trivial (fun _ => ?_)
                            clear hK' K
                            try simp only [Act.put]
                            try simp only [List.setIfInBounds_toArray, List.set_cons_zero, List.set_cons_succ]
                            refine' wpAnyH_take (i := 41) (oi := _) (v := _) ?hC3_9b41 (by kernel_rfl) (by kernel_rfl) (by kernel_rfl) ?hQC3_9b41 (Or.inl ⟨?hwC3_9b41, ?hyC3_9b41⟩) trivial ?restC3_9b41
                            case hC3_9b41 => (simp only [List.getElem?_toArray, List.getElem?_cons_succ, List.getElem?_cons_zero]; rfl)
                            case hQC3_9b41 => exact fun _ _ _ h => h
                            case hwC3_9b41 => rfl
                            case hyC3_9b41 => (intro w hSw; (try dsimp only at hSw); go_simp; try with_reducible rfl)
                            try simp only [Act.put, List.setIfInBounds_toArray, List.set_cons_zero, List.set_cons_succ]
                            exact F3_10.out
                      case c3_10 =>
                        refine wpAnyH_ready (rs := [42]) (by kernel_rfl) (by simp) ?_
                        refine' (AllReadyH.cons (o := _) ?hoC3_1042 (fun K hK' => ?stC3_1042) AllReadyH.nil)
                        case hoC3_1042 => (simp only [List.getElem?_toArray, List.getElem?_cons_succ, List.getElem?_cons_zero]; rfl)
                        case stC3_1042 =>
                          go_simp
                          refine hK'.out _ _ trivial (fun _ => ?_)
                          clear hK' K
                          try simp only [Act.put]
                          try simp only [List.setIfInBounds_toArray, List.set_cons_zero, List.set_cons_succ]
                          exact F3_f.out
                    case c3_f =>
                      have HTa := Lib.hid (HT.out.same ((Keeps.refl [] U0).alloc (.cells (rwc [b2 t.data.toList p, b2 t.data.toList (p + 2), b1 t.data.toList (p + 4), b2 t.data.toList (p + 5), b1 t.data.toList (p + 7), b1 t.data.toList (p + 8), b1 t.data.toList (p + 9), b1 t.data.toList (p + 10), b2 t.data.toList (p + 11), b1 t.data.toList (p + 13)]).toArray 54)))
                      have hTa := HTa.out
                      have hlo := hTa.low
                      refine wpAnyH_ready (rs := [43]) (by kernel_rfl) (by simp) ?_
                      refine' (AllReadyH.cons (o := _) ?hoE3c43 (fun K hK' => ?stE3c43) AllReadyH.nil)
                      case hoE3c43 => (simp only [List.getElem?_toArray, List.getElem?_cons_succ, List.getElem?_cons_zero]; rfl)
                      case stE3c43 =>
                        rw [if_pos (by rfl)]
                        refine wp_append_any _ (.tmp 135) (.tmp 176) 26 rfl W.heap.size 54 i0 _ 10 80 Try.underlying26 HI.out.1 HI.out.2.1 HI.out.2.2.1 HI.out.2.2.2 rfl (by decide) (.slice a3 X3.length c3) X3.length (rwf X3) rfl hTa.o3 _ (some ⟨U0.heap.size, 0, none⟩) 1 1 (rwc [b2 t.data.toList p, b2 t.data.toList (p + 2), b1 t.data.toList (p + 4), b2 t.data.toList (p + 5), b1 t.data.toList (p + 7), b1 t.data.toList (p + 8), b1 t.data.toList (p + 9), b1 t.data.toList (p + 10), b2 t.data.toList (p + 11), b1 t.data.toList (p + 13)]) rfl (tc_own (B := 0) U0 rfl) (rwc_cell _) (by simp only [maxLen]; omega) (by omega) hlo.1 ?_
                        intro v1 V1 own1 g1 at1
                        obtain ⟨p1, cc1, rfl⟩ := own_form own1
                        refine hK'.out _ _ trivial (fun _ => ?_)
                        clear hK' K
                        try simp only [Act.put]
                        try simp only [List.setIfInBounds_toArray, List.set_cons_zero, List.set_cons_succ]
                        have hbk1 := hTa.bk.grown g1 (fun e => own_blk_ne hTa.o3 hTa.bk (by decide) e.symm)
                        have qc : V1.cell? ⟨bc, 3, none⟩ = some (.slice a3 X3.length c3) := hbk1.cell 3
                        have qf := hbk1.frozen
                        have HN := Lib.hid (hTa.grow3 (r := [b2 t.data.toList p, b2 t.data.toList (p + 2), b1 t.data.toList (p + 4), b2 t.data.toList (p + 5), b1 t.data.toList (p + 7), b1 t.data.toList (p + 8), b1 t.data.toList (p + 9), b1 t.data.toList (p + 10), b2 t.data.toList (p + 11), b1 t.data.toList (p + 13)]) rfl own1 g1)
                        clear own1 g1 at1 hbk1 hTa hlo HT HTa
                        refine' wpAnyH_take (i := 44) (oi := _) (v := _) ?hE3d44 (by kernel_rfl) (by kernel_rfl) (by kernel_rfl) ?hQE3d44 (Or.inl ⟨?hwE3d44, ?hyE3d44⟩) trivial ?restE3d44
                        case hE3d44 => (simp only [List.getElem?_toArray, List.getElem?_cons_succ, List.getElem?_cons_zero]; rfl)
                        case hQE3d44 => exact fun _ _ _ h => h
                        case hwE3d44 => rfl
                        case hyE3d44 => (intro w hSw; (try dsimp only at hSw); go_simp; try with_reducible rfl)
                        try simp only [Act.put, List.setIfInBounds_toArray, List.set_cons_zero, List.set_cons_succ]
                        refine wpAnyH_ready (rs := [45]) (by kernel_rfl) (by simp) ?_
                        refine' (AllReadyH.cons (o := _) ?hoE3e45 (fun K hK' => ?stE3e45) AllReadyH.nil)
                        case hoE3e45 => (simp only [List.getElem?_toArray, List.getElem?_cons_succ, List.getElem?_cons_zero]; rfl)
                        case stE3e45 =>
                          go_simp
                          refine hK'.out _ _ trivial (fun _ => ?_)
                          clear hK' K
                          try simp only [Act.put]
                          try simp only [List.setIfInBounds_toArray, List.set_cons_zero, List.set_cons_succ]
                          refine wpAnyH_done (by kernel_rfl) ?_ _
                          clear qc qf
                          go_wp2
                          go_roundw
                          case rel => exact ⟨k + 1, m - 1, p + 14, X3 ++ [cliAt t.data.toList p], _, _, by have := HPK3.out; omega, by have := HPK3.out; omega, by omega, by go_num, by first | go_num | (congr 1; omega), by rw [rowsAt_succ, ← HX3.out, ← HPK3.out.2], HN.out⟩
                          case measure => simp [intOf]; omega
                · obtain rfl : m = 0 := by omega
                  have hkn : N3 = k := by have := HPK3.out; omega
                  subst hkn
                  by_cases hfit : p < t.size
                  · have HPE := Lib.hid (HP.out.trans (perr_long HH.out (by have := HPK3.out; rw [HTL.out, hj3]; omega)))
                    obtain ⟨q0, q1, q2, q3, qf⟩ := HT.out.cells
                    go_wp2
                    refine bodyPost_ret (v := .tuple #[.agg #[.int .i64 0, .slice none 0 0, .slice none 0 0, .slice none 0 0], .int .i64 3]) (by simp [results, Try.results9, go_sem, q0, q1, q2, q3]) rfl ?_
                    exact parse_err HPE.out (by decide) (HT.out.set4 _ _ _ _)
                  · have HPE := Lib.hid (HP.out.trans (perr_good HH.out (by have := HPK3.out; rw [HTL.out, hj3]; omega)))
                    have HCC := Lib.hid (cfg_of HIZ.out HFQ.out.symm HX1.out HX2.out HX3.out)
                    obtain ⟨q0, q1, q2, q3, qf⟩ := HT.out.cells
                    obtain ⟨y0, y1, y2, y3, yf⟩ := HT.out.boxes
                    go_wp2
                    refine bodyPost_ret (v := .tuple #[.agg #[.int .i64 fr, .slice a1 X1.length c1, .slice a2 X2.length c2, .slice a3 X3.length c3], .int .i64 0]) (by simp [results, Try.results9, go_sem, q0, q1, q2, q3]) rfl ?_
                    refine HCV.out ⟨fr, X1, X2, X3⟩ _ a1 a2 a3 c1 c2 c3 HPE.out HCC.out ?_ (HT.out.set4 _ _ _ _)
                    exact HT.out.done (((((Keeps.refl [rc] _).setCell (p := ⟨rc, 0, none⟩) (by simp) _).setCell (p := ⟨rc, 1, none⟩) (by simp) _).setCell (p := ⟨rc, 2, none⟩) (by simp) _).setCell (p := ⟨rc, 3, none⟩) (by simp) _)
end Im
end Go.Proofs.Ytjdhkpafbejodaa
