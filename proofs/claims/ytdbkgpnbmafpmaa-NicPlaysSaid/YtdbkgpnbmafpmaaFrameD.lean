/- The frame that bytes are: the reference's Parse. -/
import Derived.Test.YtdbkgpnbmafpmaaFrameC
import Derived.Test.YtdbkgpnbmafpmaaReg
namespace Go.Proofs.Ytdbkgpnbmafpmaa
open Go.RowKit
attribute [local go_sem] Bw.and255 Bw.and65535
namespace Fr
open Sm Bi
open PlainAid (bt get_bt bt_nonneg bt_le)
theorem take_data (s : ByteArray) (k : Nat) : (s.extract 0 k).data.toList = s.data.toList.take k := by
  rw [ByteArray.data_extract, Array.toList_extract, List.extract_eq_take_drop]
  simp
theorem mid_data (s : ByteArray) (k m : Nat) : (s.extract k m).data.toList = (s.data.toList.take m).drop k := by
  rw [ByteArray.data_extract, Array.toList_extract, List.extract_eq_take_drop, List.drop_take]
theorem rparse_few (s : ByteArray) (W : World) (hs : s.size < 3) : Calls Try.prog 29 #[.string s] W (IsFr 0 0 [] 5 W) := by
  go_enter Try.func29, Try.ntmps29
  go_wp2
  refine bodyPost_ret (v := .tuple #[.agg #[.int .i64 0, .int .i64 0, .string ⟨#[]⟩], .int .i64 5]) (by simp [results, Try.results29, go_sem]) rfl ⟨⟨#[]⟩, rfl, rfl, ?_⟩
  repeat (refine Below.setCell ?_ (by simp) _)
  exact (Below.refl _ _).alloc (Nat.le_refl _) _
set_option maxRecDepth 100000 in
set_option maxHeartbeats 4000000 in
theorem rparse_many (s : ByteArray) (W : World) (hs : 3 ≤ s.size) (hm : s.size ≤ 9223372036854775807) (P : Ending → World → Prop)
    (hbad : pErr s ≠ 0 → ∀ e W', IsFr 0 0 [] (pErr s) W e W' → P e W') (hgood : pErr s = 0 → ∀ e W', IsFr (bt s 0) (bt s 1) ((s.data.toList.take (s.size - 2)).drop 3) 0 W e W' → P e W') :
    Calls Try.prog 29 #[.string s] W P := by
  have HBAD := Lib.hid hbad
  have HGOOD := Lib.hid hgood
  clear hbad hgood
  obtain ⟨m, hbm⟩ := Int.eq_ofNat_of_zero_le (bt_nonneg s 2)
  have hm255 : (m : Int) ≤ 255 := by rw [← hbm]; exact bt_le s 2
  have gb := get_bt s
  have z2 : 2 < s.size := by omega
  have z2i : (2 : Int) < (s.size : Int) := by omega
  by_cases hn : 32 < (m : Int)
  · have HP : Hid (pErr s = 4) := Lib.hid (by unfold pErr; rw [if_pos (by rw [hbm]; exact hn)])
    clear HGOOD
    go_enter Try.func29, Try.ntmps29
    go_wp2
    refine bodyPost_ret (v := .tuple #[.agg #[.int .i64 0, .int .i64 0, .string ⟨#[]⟩], .int .i64 4]) (by simp [results, Try.results29, go_sem]) rfl ?_
    refine HBAD.out (by rw [HP.out]; decide) _ _ ⟨⟨#[]⟩, by rw [HP.out], rfl, ?_⟩
    repeat (refine Below.setCell ?_ (by simp) _)
    exact (Below.refl _ _).alloc (Nat.le_refl _) _
  · by_cases h5 : (s.size : Int) < (m : Int) + 5
    · have HP : Hid (pErr s = 5) := Lib.hid (by unfold pErr; rw [hbm, if_neg hn, if_pos h5])
      clear HGOOD
      go_enter Try.func29, Try.ntmps29
      go_wp2
      refine bodyPost_ret (v := .tuple #[.agg #[.int .i64 0, .int .i64 0, .string ⟨#[]⟩], .int .i64 5]) (by simp [results, Try.results29, go_sem]) rfl ?_
      refine HBAD.out (by rw [HP.out]; decide) _ _ ⟨⟨#[]⟩, by rw [HP.out], rfl, ?_⟩
      repeat (refine Below.setCell ?_ (by simp) _)
      exact (Below.refl _ _).alloc (Nat.le_refl _) _
    · by_cases h6 : (m : Int) + 5 < (s.size : Int)
      · have HP : Hid (pErr s = 3) := Lib.hid (by unfold pErr; rw [hbm, if_neg hn, if_neg h5, if_pos h6])
        clear HGOOD
        go_enter Try.func29, Try.ntmps29
        go_wp2
        refine bodyPost_ret (v := .tuple #[.agg #[.int .i64 0, .int .i64 0, .string ⟨#[]⟩], .int .i64 3]) (by simp [results, Try.results29, go_sem]) rfl ?_
        refine HBAD.out (by rw [HP.out]; decide) _ _ ⟨⟨#[]⟩, by rw [HP.out], rfl, ?_⟩
        repeat (refine Below.setCell ?_ (by simp) _)
        exact (Below.refl _ _).alloc (Nat.le_refl _) _
      · have hsz : s.size = m + 5 := by omega
        have hlen : s.data.toList.length = m + 5 := by simpa using hsz
        have hiff := Cw.seal_iff s.data.toList (by omega)
        rw [hlen, show m + 5 - 2 = m + 3 from by omega] at hiff
        have HS := Lib.hid (fun V => rseal_x (s.extract 0 (m + 3)) (s.data.toList.take (m + 3)) V (take_data s (m + 3)) (by rw [List.length_take]; omega))
        have hsl0 : (0 : Int) ≤ (m : Int) + 3 := by omega
        have hsl1 : (m : Int) + 3 ≤ (s.size : Int) := by omega
        by_cases hc : Cm.crc 65535#16 s.data.toList = 0#16
        · have HP : Hid (pErr s = 0) := Lib.hid (by unfold pErr; rw [hbm, if_neg hn, if_neg h5, if_neg h6, if_pos hc])
          have HQ : Hid (∀ r : ByteArray, r.data.toList = Cw.sealL (s.data.toList.take (m + 3)) → (r.toList == s.toList) = true) := Lib.hid fun r hr => seq_true (hr.trans (hiff.2 hc))
          have HDAT : Hid ((s.extract 3 (m + 3)).data.toList = (s.data.toList.take (s.size - 2)).drop 3) := Lib.hid (by rw [mid_data, hsz]; rfl)
          have z0 : 0 < s.size := by omega
          have z1 : 1 < s.size := by omega
          have z0i : (0 : Int) < (s.size : Int) := by omega
          have z1i : (1 : Int) < (s.size : Int) := by omega
          have h3m : (3 : Int) ≤ (m : Int) + 3 := by omega
          have hg5 : (m : Int) + 5 ≤ (s.size : Int) := by omega
          have hl5 : (s.size : Int) ≤ (m : Int) + 5 := by omega
          clear HBAD hc hiff hlen h5 h6 hsz
          go_enter Try.func29, Try.ntmps29
          go_wp2_with fail
          refine (HS.out _).mono ?_
          clear HS
          rintro e v1 ⟨r, rfl, hr, hb⟩
          have hsame := HQ.out r hr
          have hz := (Blk.new W 65 #[.int .i64 0, .int .i64 0, .string ⟨#[]⟩]).below hb (by simp)
          have hB : Below W.heap.size W v1 := ((Below.refl _ W).alloc (Nat.le_refl _) (.cells #[.int .i64 0, .int .i64 0, .string ⟨#[]⟩] 65)).trans (hb.mono (by simp))
          have q0 := hz.cell 0
          have q1 := hz.cell 1
          have q2 := hz.cell 2
          have qf := hz.frozen
          have ql := hz.lt
          have b0 := bt_nonneg s 0
          have b1 := bt_le s 0
          have b2 := bt_nonneg s 1
          have b3 := bt_le s 1
          have hw3 : IntKind.i64.wrap ((m : Int) + 3) = (m : Int) + 3 := IntWalk.i64_in _ (by omega)
          have hw0 : IntKind.i64.wrap (bt s 0) = bt s 0 := IntWalk.i64_in _ (by omega)
          have hw1 : IntKind.i64.wrap (bt s 1) = bt s 1 := IntWalk.i64_in _ (by omega)
          have hw2 : ((m : Int) + 3).toNat = m + 3 := by omega
          clear hr hb hz HQ
          go_wp2
          refine wp_region_held_drew (S := AnyW) (by kernel_rfl) trivial (fun hHeld => ?_)
          refine' wpAnyH_take (i := 0) (oi := _) (v := _) ?hR0 (by kernel_rfl) (by kernel_rfl) (by kernel_rfl) ?hQR0 (Or.inl ⟨?hwR0, ?hyR0⟩) hHeld ?restR0
          case hR0 => (simp only [List.getElem?_toArray, List.getElem?_cons_zero]; rfl)
          case hQR0 => exact fun _ _ _ h => h
          case hwR0 => rfl
          case hyR0 => (intro w hSw; (try dsimp only at hSw); go_simp; try with_reducible rfl)
          try simp only [Act.put, List.setIfInBounds_toArray, List.set_cons_zero, List.set_cons_succ]
          refine' wpAnyH_take (i := 1) (oi := _) (v := _) ?hR1 (by kernel_rfl) (by kernel_rfl) (by kernel_rfl) ?hQR1 (Or.inl ⟨?hwR1, ?hyR1⟩) hHeld ?restR1
          case hR1 => (simp only [List.getElem?_toArray, List.getElem?_cons_succ, List.getElem?_cons_zero]; rfl)
          case hQR1 => exact fun _ _ _ h => h
          case hwR1 => rfl
          case hyR1 => (intro w hSw; (try dsimp only at hSw); go_simp; try with_reducible rfl)
          try simp only [Act.put, List.setIfInBounds_toArray, List.set_cons_zero, List.set_cons_succ]
          refine' wpAnyH_take (i := 2) (oi := _) (v := _) ?hR2 (by kernel_rfl) (by kernel_rfl) (by kernel_rfl) ?hQR2 (Or.inl ⟨?hwR2, ?hyR2⟩) hHeld ?restR2
          case hR2 => (simp only [List.getElem?_toArray, List.getElem?_cons_succ, List.getElem?_cons_zero]; rfl)
          case hQR2 => exact fun _ _ _ h => h
          case hwR2 => rfl
          case hyR2 => (intro w hSw; (try dsimp only at hSw); go_simp; try with_reducible rfl)
          try simp only [Act.put, List.setIfInBounds_toArray, List.set_cons_zero, List.set_cons_succ]
          refine' wpAnyH_take (i := 3) (oi := _) (v := _) ?hR3 (by kernel_rfl) (by kernel_rfl) (by kernel_rfl) ?hQR3 (Or.inl ⟨?hwR3, ?hyR3⟩) hHeld ?restR3
          case hR3 => (simp only [List.getElem?_toArray, List.getElem?_cons_succ, List.getElem?_cons_zero]; rfl)
          case hQR3 => exact fun _ _ _ h => h
          case hwR3 => rfl
          case hyR3 => (intro w hSw; (try dsimp only at hSw); go_simp; try with_reducible rfl)
          try simp only [Act.put, List.setIfInBounds_toArray, List.set_cons_zero, List.set_cons_succ]
          refine' wpAnyH_take (i := 4) (oi := _) (v := _) ?hR4 (by kernel_rfl) (by kernel_rfl) (by kernel_rfl) ?hQR4 (Or.inl ⟨?hwR4, ?hyR4⟩) hHeld ?restR4
          case hR4 => (simp only [List.getElem?_toArray, List.getElem?_cons_succ, List.getElem?_cons_zero]; rfl)
          case hQR4 => exact fun _ _ _ h => h
          case hwR4 => rfl
          case hyR4 => (intro w hSw; (try dsimp only at hSw); go_simp; try with_reducible rfl)
          try simp only [Act.put, List.setIfInBounds_toArray, List.set_cons_zero, List.set_cons_succ]
          refine' wpAnyH_take (i := 5) (oi := _) (v := _) ?hR5 (by kernel_rfl) (by kernel_rfl) (by kernel_rfl) ?hQR5 (Or.inl ⟨?hwR5, ?hyR5⟩) hHeld ?restR5
          case hR5 => (simp only [List.getElem?_toArray, List.getElem?_cons_succ, List.getElem?_cons_zero]; rfl)
          case hQR5 => exact fun _ _ _ h => h
          case hwR5 => rfl
          case hyR5 => (intro w hSw; (try dsimp only at hSw); go_simp; try with_reducible rfl)
          try simp only [Act.put, List.setIfInBounds_toArray, List.set_cons_zero, List.set_cons_succ]
          refine' wpAnyH_take (i := 6) (oi := _) (v := _) ?hR6 (by kernel_rfl) (by kernel_rfl) (by kernel_rfl) ?hQR6 (Or.inl ⟨?hwR6, ?hyR6⟩) hHeld ?restR6
          case hR6 => (simp only [List.getElem?_toArray, List.getElem?_cons_succ, List.getElem?_cons_zero]; rfl)
          case hQR6 => exact fun _ _ _ h => h
          case hwR6 => rfl
          case hyR6 => (intro w hSw; (try dsimp only at hSw); go_simp; try with_reducible rfl)
          try simp only [Act.put, List.setIfInBounds_toArray, List.set_cons_zero, List.set_cons_succ]
          refine' wpAnyH_take (i := 7) (oi := _) (v := _) ?hR7 (by kernel_rfl) (by kernel_rfl) (by kernel_rfl) ?hQR7 (Or.inl ⟨?hwR7, ?hyR7⟩) hHeld ?restR7
          case hR7 => (simp only [List.getElem?_toArray, List.getElem?_cons_succ, List.getElem?_cons_zero]; rfl)
          case hQR7 => exact fun _ _ _ h => h
          case hwR7 => rfl
          case hyR7 => (intro w hSw; (try dsimp only at hSw); go_simp; try with_reducible rfl)
          try simp only [Act.put, List.setIfInBounds_toArray, List.set_cons_zero, List.set_cons_succ]
          refine' wpAnyH_take (i := 8) (oi := _) (v := _) ?hR8 (by kernel_rfl) (by kernel_rfl) (by kernel_rfl) ?hQR8 (Or.inl ⟨?hwR8, ?hyR8⟩) hHeld ?restR8
          case hR8 => (simp only [List.getElem?_toArray, List.getElem?_cons_succ, List.getElem?_cons_zero]; rfl)
          case hQR8 => exact fun _ _ _ h => h
          case hwR8 => rfl
          case hyR8 => (intro w hSw; (try dsimp only at hSw); go_simp; try with_reducible rfl)
          try simp only [Act.put, List.setIfInBounds_toArray, List.set_cons_zero, List.set_cons_succ]
          refine' wpAnyH_take (i := 9) (oi := _) (v := _) ?hR9 (by kernel_rfl) (by kernel_rfl) (by kernel_rfl) ?hQR9 (Or.inl ⟨?hwR9, ?hyR9⟩) hHeld ?restR9
          case hR9 => (simp only [List.getElem?_toArray, List.getElem?_cons_succ, List.getElem?_cons_zero]; rfl)
          case hQR9 => exact fun _ _ _ h => h
          case hwR9 => rfl
          case hyR9 => (intro w hSw; (try dsimp only at hSw); go_simp; try with_reducible rfl)
          try simp only [Act.put, List.setIfInBounds_toArray, List.set_cons_zero, List.set_cons_succ]
          refine' wpAnyH_take (i := 10) (oi := _) (v := _) ?hR10 (by kernel_rfl) (by kernel_rfl) (by kernel_rfl) ?hQR10 (Or.inl ⟨?hwR10, ?hyR10⟩) hHeld ?restR10
          case hR10 => (simp only [List.getElem?_toArray, List.getElem?_cons_succ, List.getElem?_cons_zero]; rfl)
          case hQR10 => exact fun _ _ _ h => h
          case hwR10 => rfl
          case hyR10 => (intro w hSw; (try dsimp only at hSw); go_simp; try with_reducible rfl)
          try simp only [Act.put, List.setIfInBounds_toArray, List.set_cons_zero, List.set_cons_succ]
          refine wpAnyH_ready (rs := [11]) (by kernel_rfl) (by simp) ?_
          refine AllReadyH.cons rfl (fun K hK => ?_) AllReadyH.nil
          go_simp
          refine hK.out _ _ (trivial) (fun hHeld' => ?_)
          clear hK K hHeld
          have hHeld := hHeld'
          clear hHeld'
          try simp only [Act.put, List.setIfInBounds_toArray, List.set_cons_zero, List.set_cons_succ]
          refine' wpAnyH_take (i := 12) (oi := _) (v := _) ?hR12 (by kernel_rfl) (by kernel_rfl) (by kernel_rfl) ?hQR12 (Or.inl ⟨?hwR12, ?hyR12⟩) hHeld ?restR12
          case hR12 => (simp only [List.getElem?_toArray, List.getElem?_cons_succ, List.getElem?_cons_zero]; rfl)
          case hQR12 => exact fun _ _ _ h => h
          case hwR12 => rfl
          case hyR12 => (intro w hSw; (try dsimp only at hSw); go_simp; try with_reducible rfl)
          try simp only [Act.put, List.setIfInBounds_toArray, List.set_cons_zero, List.set_cons_succ]
          refine wpAnyH_done (by kernel_rfl) ?_ _
          clear hHeld
          go_wp2
          refine bodyPost_ret (v := .tuple #[.agg #[.int .i64 (bt s 0), .int .i64 (bt s 1), .string (s.extract 3 (m + 3))], .int .i64 0]) (by simp [results, Try.results29, go_sem, q0, q1, q2]) rfl ?_
          refine HGOOD.out HP.out _ _ ⟨_, rfl, HDAT.out, ?_⟩
          refine Below.drew ?_
          repeat (refine Below.setCell ?_ (by simp) _)
          exact hB
        · have HP : Hid (pErr s = 10) := Lib.hid (by unfold pErr; rw [hbm, if_neg hn, if_neg h5, if_neg h6, if_neg hc])
          have HQ : Hid (∀ r : ByteArray, r.data.toList = Cw.sealL (s.data.toList.take (m + 3)) → (r.toList == s.toList) = false) := Lib.hid fun r hr => seq_false (fun h => hc (hiff.1 (hr.symm.trans h)))
          have hg5 : (m : Int) + 5 ≤ (s.size : Int) := by omega
          have hl5 : (s.size : Int) ≤ (m : Int) + 5 := by omega
          clear HGOOD hc hiff hlen h5 h6 hsz
          go_enter Try.func29, Try.ntmps29
          go_wp2_with fail
          refine (HS.out _).mono ?_
          clear HS
          rintro e v1 ⟨r, rfl, hr, hb⟩
          have hsame := HQ.out r hr
          have hz := (Blk.new W 65 #[.int .i64 0, .int .i64 0, .string ⟨#[]⟩]).below hb (by simp)
          have hB : Below W.heap.size W v1 := ((Below.refl _ W).alloc (Nat.le_refl _) (.cells #[.int .i64 0, .int .i64 0, .string ⟨#[]⟩] 65)).trans (hb.mono (by simp))
          have q0 := hz.cell 0
          have q1 := hz.cell 1
          have q2 := hz.cell 2
          have qf := hz.frozen
          have ql := hz.lt
          clear hr hb hz HQ
          go_wp2
          refine bodyPost_ret (v := .tuple #[.agg #[.int .i64 0, .int .i64 0, .string ⟨#[]⟩], .int .i64 10]) (by simp [results, Try.results29, go_sem, q0, q1, q2]) rfl ?_
          refine HBAD.out (by rw [HP.out]; decide) _ _ ⟨⟨#[]⟩, by rw [HP.out], rfl, ?_⟩
          repeat (refine Below.setCell ?_ (by simp) _)
          exact hB
end Fr
end Go.Proofs.Ytdbkgpnbmafpmaa
