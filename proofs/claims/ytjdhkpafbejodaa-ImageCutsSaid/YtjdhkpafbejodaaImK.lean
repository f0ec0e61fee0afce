/- The program's tables: behind the first label. -/
import Derived.Test.YtjdhkpafbejodaaImH
import Derived.WalkMore
namespace Go.Proofs.Ytjdhkpafbejodaa
open Go.RowKit
namespace Im
open Sm Bi
attribute [local irreducible] sB sT vB vT Ph0 Ph1 Ph2 Fin okσ
set_option maxRecDepth 100000 in
set_option maxHeartbeats 16000000 in
theorem tab_p0 {c r0 : Code} (hc : Try.f21.body = some (Code.seq r0 (Code.scope c))) (b : Nat) (s : ByteArray) (W : World) (hm : s.size ≤ 9223372036854775807) {R1 : Code} (hR1 : findLabel c 1 = some (Code.seq Code.skip R1)) (H1 : ∀ a w, (∃ bc, Jt s W b W.heap.size bc Ph1 a w) → R1.wp Try.prog (Ex3 (fun a' w' => (∃ bc, Jt s W b W.heap.size bc Ph0 a' w') ∧ 512 + nOf a' < 256 + nOf a) (fun a' w' => (∃ bc, Jt s W b W.heap.size bc Ph1 a' w') ∧ 256 + nOf a' < 256 + nOf a) (fun a' w' => (∃ bc, Jt s W b W.heap.size bc Ph2 a' w') ∧ nOf a' < 256 + nOf a) (bodyPost Try.prog Try.f21 (IsTab b s W))) a w) {R0 : Code} (hR0 : findLabel c 0 = some (Code.seq Code.skip R0)) :
    ∀ a w, (∃ bc, Jt s W b W.heap.size bc Ph0 a w) → R0.wp Try.prog (Ex3 (fun a' w' => (∃ bc, Jt s W b W.heap.size bc Ph0 a' w') ∧ 512 + nOf a' < 512 + nOf a) (fun a' w' => (∃ bc, Jt s W b W.heap.size bc Ph1 a' w') ∧ 256 + nOf a' < 512 + nOf a) (fun a' w' => (∃ bc, Jt s W b W.heap.size bc Ph2 a' w') ∧ nOf a' < 512 + nOf a) (bodyPost Try.prog Try.f21 (IsTab b s W))) a w := by
  injection hc with hc
  injection hc with _ hc
  injection hc with hc
  subst hc
  injection hR1 with hR1
  injection hR1 with _ hR1
  subst hR1
  injection hR0 with hR0
  injection hR0 with _ hR0
  subst hR0
  rintro a w ⟨bc, tm, n, σ, fr, X1, X2, X3, a1, c1, a2, c2, a3, c3, rfl, hsz, t0, t2, t3, t4, hph, hT⟩
  obtain ⟨u0, u1, u2, u3, u4, u5, u6, u7, u8, u9, u10, u11, u12, u13, u14, u15, u16, u17, u18, u19, u20, u21, u22, u23, u24, u25, u26, u27, u28, u29, u30, u31, u32, u33, u34, u35, u36, u37, u38, u39, u40, u41, u42, u43, u44, u45, u46, u47, u48, u49, u50, u51, u52, u53, u54, u55, u56, u57, u58, u59, u60, u61, u62, u63, u64, u65, u66, u67, u68, u69, u70, u71, u72, u73, u74, u75, u76, u77, u78, u79, u80, u81, u82, u83, u84, u85, u86, u87, u88, u89, u90, u91, rfl⟩ := arr92 tm hsz
  obtain rfl := Option.some.inj t0
  obtain rfl := Option.some.inj t2
  obtain rfl := Option.some.inj t3
  obtain rfl := Option.some.inj t4
  clear hsz t0 t2 t3 t4
  obtain ⟨hn0, hn1, hln⟩ := hph.lens
  have HPH := Lib.hid hph
  have HT := Lib.hid hT
  have HL := Lib.hid hln
  clear hT hln hph
  by_cases hn : 0 < n
  · by_cases he : σ.2 = 0
    · have HC := Lib.hid (errR HT.out)
      rw [he] at HC
      go_wp2_with fail
      refine HC.out.mono ?_
      clear HC
      rintro e U ⟨rfl, hT, _⟩
      clear HT
      have HT := Lib.hid hT
      clear hT
      have hph := HPH.out
      have hxl := HL.out he
      obtain ⟨i0, hi0, hz0, hz1, hz2⟩ := info_parts win_info
      have HI := Lib.hid (And.intro hi0 (And.intro hz0 (And.intro hz1 hz2)))
      clear hi0 hz0 hz1 hz2
      have HPN := Lib.hid (HPH.out.row hn he)
      clear hph
      go_wp2
      refine wp_region_held_drew (S := AnyW) (by kernel_rfl) trivial (fun hHeld => ?_)
      have HT := Lib.hid (HT.out.same ((Keeps.refl [] _).drew))
      generalize World.drew _ = U0 at *
      refine' wpAnyH_take (i := 0) (oi := _) (v := _) ?hR10 (by kernel_rfl) (by kernel_rfl) (by kernel_rfl) ?hQR10 (Or.inl ⟨?hwR10, ?hyR10⟩) hHeld ?restR10
      case hR10 => (simp only [List.getElem?_toArray, List.getElem?_cons_zero]; rfl)
      case hQR10 => exact fun _ _ _ h => h
      case hwR10 => rfl
      case hyR10 => (intro w hSw; (try dsimp only at hSw); go_simp; try with_reducible rfl)
      try simp only [Act.put, List.setIfInBounds_toArray, List.set_cons_zero, List.set_cons_succ]
      refine' wpAnyH_take (i := 2) (oi := _) (v := _) ?hR12 (by kernel_rfl) (by kernel_rfl) (by kernel_rfl) ?hQR12 (Or.inl ⟨?hwR12, ?hyR12⟩) hHeld ?restR12
      case hR12 => (simp only [List.getElem?_toArray, List.getElem?_cons_succ, List.getElem?_cons_zero]; rfl)
      case hQR12 => exact fun _ _ _ h => h
      case hwR12 => rfl
      case hyR12 => (intro w hSw; (try dsimp only at hSw); go_simp; try with_reducible rfl)
      try simp only [Act.put, List.setIfInBounds_toArray, List.set_cons_zero, List.set_cons_succ]
      refine' wpAnyH_take (i := 4) (oi := _) (v := _) ?hR14 (by kernel_rfl) (by kernel_rfl) (by kernel_rfl) ?hQR14 (Or.inl ⟨?hwR14, ?hyR14⟩) hHeld ?restR14
      case hR14 => (simp only [List.getElem?_toArray, List.getElem?_cons_succ, List.getElem?_cons_zero]; rfl)
      case hQR14 => exact fun _ _ _ h => h
      case hwR14 => rfl
      case hyR14 => (intro w hSw; (try dsimp only at hSw); go_simp; try with_reducible rfl)
      try simp only [Act.put, List.setIfInBounds_toArray, List.set_cons_zero, List.set_cons_succ]
      refine' wpAnyH_take (i := 6) (oi := _) (v := _) ?hR16 (by kernel_rfl) (by kernel_rfl) (by kernel_rfl) ?hQR16 (Or.inl ⟨?hwR16, ?hyR16⟩) hHeld ?restR16
      case hR16 => (simp only [List.getElem?_toArray, List.getElem?_cons_succ, List.getElem?_cons_zero]; rfl)
      case hQR16 => exact fun _ _ _ h => h
      case hwR16 => rfl
      case hyR16 => (intro w hSw; (try dsimp only at hSw); go_simp; try with_reducible rfl)
      try simp only [Act.put, List.setIfInBounds_toArray, List.set_cons_zero, List.set_cons_succ]
      refine wpAnyH_ready (rs := [1, 3]) (by kernel_rfl) (by simp) ?_
      refine' (AllReadyH.cons (o := _) ?hoN1_11 (fun K hK' => ?stN1_11) (AllReadyH.cons (o := _) ?hoN1_13 (fun K hK' => ?stN1_13) AllReadyH.nil))
      case hoN1_11 => (simp only [List.getElem?_toArray, List.getElem?_cons_succ, List.getElem?_cons_zero]; rfl)
      case hoN1_13 => (simp only [List.getElem?_toArray, List.getElem?_cons_succ, List.getElem?_cons_zero]; rfl)
      case stN1_11 =>
        have qc := HT.out.bk.cell 1
        simp only [List.getElem?_toArray, List.getElem?_cons_succ, List.getElem?_cons_zero] at qc
        go_simp
        refine hK'.out _ _ trivial (fun hHeld' => ?_)
        clear hK' K hHeld
        have hHeld := hHeld'
        clear hHeld'
        try simp only [Act.put]
        try simp only [List.setIfInBounds_toArray, List.set_cons_zero, List.set_cons_succ]
        clear qc
        refine wpAnyH_ready (rs := [3]) (by kernel_rfl) (by simp) ?_
        refine' (AllReadyH.cons (o := _) ?hoN1_23 (fun K hK' => ?stN1_23) AllReadyH.nil)
        case hoN1_23 => (simp only [List.getElem?_toArray, List.getElem?_cons_succ, List.getElem?_cons_zero]; rfl)
        case stN1_23 =>
          go_simp
          refine (byteR HT.out hm).mono ?_
          rintro e U1 ⟨rfl, hT, hz⟩
          clear HT
          have HT := Lib.hid hT
          clear hT hz
          try go_wp2_with fail
          refine hK'.out _ _ trivial (fun hHeld' => ?_)
          clear hK' K hHeld
          have hHeld := hHeld'
          clear hHeld'
          try simp only [Act.put]
          try simp only [List.setIfInBounds_toArray, List.set_cons_zero, List.set_cons_succ]
          refine wpAnyH_ready (rs := [5]) (by kernel_rfl) (by simp) ?_
          refine' (AllReadyH.cons (o := _) ?hoN1_35 (fun K hK' => ?stN1_35) AllReadyH.nil)
          case hoN1_35 => (simp only [List.getElem?_toArray, List.getElem?_cons_succ, List.getElem?_cons_zero]; rfl)
          case stN1_35 =>
            go_simp
            refine (twoR HT.out hm).mono ?_
            rintro e U2 ⟨rfl, hT, hz⟩
            clear HT
            have HT := Lib.hid hT
            clear hT hz
            try go_wp2_with fail
            refine hK'.out _ _ trivial (fun hHeld' => ?_)
            clear hK' K hHeld
            have hHeld := hHeld'
            clear hHeld'
            try simp only [Act.put]
            try simp only [List.setIfInBounds_toArray, List.set_cons_zero, List.set_cons_succ]
            refine wpAnyH_ready (rs := [7]) (by kernel_rfl) (by simp) ?_
            refine' (AllReadyH.cons (o := _) ?hoN1_47 (fun K hK' => ?stN1_47) AllReadyH.nil)
            case hoN1_47 => (simp only [List.getElem?_toArray, List.getElem?_cons_succ, List.getElem?_cons_zero]; rfl)
            case stN1_47 =>
              go_simp
              refine (twoR HT.out hm).mono ?_
              rintro e U3 ⟨rfl, hT, hz⟩
              clear HT
              have HT := Lib.hid hT
              clear hT hz
              try go_wp2_with fail
              refine hK'.out _ _ trivial (fun hHeld' => ?_)
              clear hK' K hHeld
              have hHeld := hHeld'
              clear hHeld'
              try simp only [Act.put]
              try simp only [List.setIfInBounds_toArray, List.set_cons_zero, List.set_cons_succ]
              refine' wpAnyH_take (i := 8) (oi := _) (v := _) ?hN1_58 (by kernel_rfl) (by kernel_rfl) (by kernel_rfl) ?hQN1_58 (Or.inl ⟨?hwN1_58, ?hyN1_58⟩) hHeld ?restN1_58
              case hN1_58 => (simp only [List.getElem?_toArray, List.getElem?_cons_succ, List.getElem?_cons_zero]; rfl)
              case hQN1_58 => exact fun _ _ _ h => h
              case hwN1_58 => rfl
              case hyN1_58 => (intro w hSw; (try dsimp only at hSw); go_simp; try with_reducible rfl)
              try simp only [Act.put, List.setIfInBounds_toArray, List.set_cons_zero, List.set_cons_succ]
              refine wpAnyH_ready (rs := [9]) (by kernel_rfl) (by simp) ?_
              refine' (AllReadyH.cons (o := _) ?hoN1_5b9 (fun K hK' => ?stN1_5b9) AllReadyH.nil)
              case hoN1_5b9 => (simp only [List.getElem?_toArray, List.getElem?_cons_succ, List.getElem?_cons_zero]; rfl)
              case stN1_5b9 =>
                go_simp
                refine hK'.out _ _ trivial (fun hHeld' => ?_)
                clear hK' K hHeld
                have hHeld := hHeld'
                clear hHeld'
                try simp only [Act.put]
                try simp only [List.setIfInBounds_toArray, List.set_cons_zero, List.set_cons_succ]
                have HTa := Lib.hid (HT.out.same ((Keeps.refl [] U3).alloc (.cells (rwc [vB s σ, vT s (sB s σ), vT s (sT s (sB s σ))]).toArray 51)))
                have hTa := HTa.out
                have hlo := hTa.low
                have hx := hxl
                refine wpAnyH_ready (rs := [10]) (by kernel_rfl) (by simp) ?_
                refine' (AllReadyH.cons (o := _) ?hoN1_5c10 (fun K hK' => ?stN1_5c10) AllReadyH.nil)
                case hoN1_5c10 => (simp only [List.getElem?_toArray, List.getElem?_cons_succ, List.getElem?_cons_zero]; rfl)
                case stN1_5c10 =>
                  rw [if_pos (by rfl)]
                  refine wp_append_any _ (.tmp 18) (.tmp 26) 24 rfl W.heap.size 51 i0 _ 3 24 Try.underlying24 HI.out.1 HI.out.2.1 HI.out.2.2.1 HI.out.2.2.2 rfl (by decide) (.slice a1 X1.length c1) X1.length (rwf X1) rfl hTa.o1 _ (some ⟨U3.heap.size, 0, none⟩) 1 1 (rwc [vB s σ, vT s (sB s σ), vT s (sT s (sB s σ))]) rfl (tc_own (B := 0) U3 rfl) (rwc_cell _) (by simp only [maxLen]; omega) (by omega) hlo.1 ?_
                  intro v1 V1 own1 g1 at1
                  obtain ⟨p1, cc1, rfl⟩ := own_form own1
                  refine hK'.out _ _ trivial (fun hHeld' => ?_)
                  clear hK' K hHeld
                  have hHeld := hHeld'
                  clear hHeld'
                  try simp only [Act.put]
                  try simp only [List.setIfInBounds_toArray, List.set_cons_zero, List.set_cons_succ]
                  have hbk1 := hTa.bk.grown g1 (fun e => own_blk_ne hTa.o1 hTa.bk (by decide) e.symm)
                  have qc : V1.cell? ⟨bc, 1, none⟩ = some (.slice a1 X1.length c1) := hbk1.cell 1
                  have qf := hbk1.frozen
                  have HN := Lib.hid (hTa.grow1 (r := [vB s σ, vT s (sB s σ), vT s (sT s (sB s σ))]) rfl own1 g1)
                  clear own1 g1 at1 hbk1 hTa hlo hx HT HTa
                  refine' wpAnyH_take (i := 11) (oi := _) (v := _) ?hN1_5d11 (by kernel_rfl) (by kernel_rfl) (by kernel_rfl) ?hQN1_5d11 (Or.inl ⟨?hwN1_5d11, ?hyN1_5d11⟩) hHeld ?restN1_5d11
                  case hN1_5d11 => (simp only [List.getElem?_toArray, List.getElem?_cons_succ, List.getElem?_cons_zero]; rfl)
                  case hQN1_5d11 => exact fun _ _ _ h => h
                  case hwN1_5d11 => rfl
                  case hyN1_5d11 => (intro w hSw; (try dsimp only at hSw); go_simp; try with_reducible rfl)
                  try simp only [Act.put, List.setIfInBounds_toArray, List.set_cons_zero, List.set_cons_succ]
                  refine wpAnyH_ready (rs := [12]) (by kernel_rfl) (by simp) ?_
                  refine' (AllReadyH.cons (o := _) ?hoN1_5e12 (fun K hK' => ?stN1_5e12) AllReadyH.nil)
                  case hoN1_5e12 => (simp only [List.getElem?_toArray, List.getElem?_cons_succ, List.getElem?_cons_zero]; rfl)
                  case stN1_5e12 =>
                    go_simp
                    refine hK'.out _ _ trivial (fun hHeld' => ?_)
                    clear hK' K hHeld
                    have hHeld := hHeld'
                    clear hHeld'
                    try simp only [Act.put]
                    try simp only [List.setIfInBounds_toArray, List.set_cons_zero, List.set_cons_succ]
                    refine wpAnyH_done (by kernel_rfl) ?_ _
                    clear hHeld qc qf
                    go_wp2
                    go_step3
                    exact Or.inl ⟨rfl, ⟨_, _, _, _, _, _, _, _, _, _, _, _, _, _, rfl, rfl, rfl, rfl, rfl, rfl, HPN.out, HN.out⟩, by show 512 + (n - 1).toNat < 512 + n.toNat; omega⟩
      case stN1_13 =>
        go_simp
        refine (byteR HT.out hm).mono ?_
        rintro e U1 ⟨rfl, hT, hz⟩
        clear HT
        have HT := Lib.hid hT
        clear hT hz
        try go_wp2_with fail
        refine hK'.out _ _ trivial (fun hHeld' => ?_)
        clear hK' K hHeld
        have hHeld := hHeld'
        clear hHeld'
        try simp only [Act.put]
        try simp only [List.setIfInBounds_toArray, List.set_cons_zero, List.set_cons_succ]
        refine wpAnyH_ready (rs := [1, 5]) (by kernel_rfl) (by simp) ?_
        refine' (AllReadyH.cons (o := _) ?hoN1_61 (fun K hK' => ?stN1_61) (AllReadyH.cons (o := _) ?hoN1_65 (fun K hK' => ?stN1_65) AllReadyH.nil))
        case hoN1_61 => (simp only [List.getElem?_toArray, List.getElem?_cons_succ, List.getElem?_cons_zero]; rfl)
        case hoN1_65 => (simp only [List.getElem?_toArray, List.getElem?_cons_succ, List.getElem?_cons_zero]; rfl)
        case stN1_61 =>
          have qc := HT.out.bk.cell 1
          simp only [List.getElem?_toArray, List.getElem?_cons_succ, List.getElem?_cons_zero] at qc
          go_simp
          refine hK'.out _ _ trivial (fun hHeld' => ?_)
          clear hK' K hHeld
          have hHeld := hHeld'
          clear hHeld'
          try simp only [Act.put]
          try simp only [List.setIfInBounds_toArray, List.set_cons_zero, List.set_cons_succ]
          clear qc
          refine wpAnyH_ready (rs := [5]) (by kernel_rfl) (by simp) ?_
          refine' (AllReadyH.cons (o := _) ?hoN1_75 (fun K hK' => ?stN1_75) AllReadyH.nil)
          case hoN1_75 => (simp only [List.getElem?_toArray, List.getElem?_cons_succ, List.getElem?_cons_zero]; rfl)
          case stN1_75 =>
            go_simp
            refine (twoR HT.out hm).mono ?_
            rintro e U2 ⟨rfl, hT, hz⟩
            clear HT
            have HT := Lib.hid hT
            clear hT hz
            try go_wp2_with fail
            refine hK'.out _ _ trivial (fun hHeld' => ?_)
            clear hK' K hHeld
            have hHeld := hHeld'
            clear hHeld'
            try simp only [Act.put]
            try simp only [List.setIfInBounds_toArray, List.set_cons_zero, List.set_cons_succ]
            refine wpAnyH_ready (rs := [7]) (by kernel_rfl) (by simp) ?_
            refine' (AllReadyH.cons (o := _) ?hoN1_87 (fun K hK' => ?stN1_87) AllReadyH.nil)
            case hoN1_87 => (simp only [List.getElem?_toArray, List.getElem?_cons_succ, List.getElem?_cons_zero]; rfl)
            case stN1_87 =>
              go_simp
              refine (twoR HT.out hm).mono ?_
              rintro e U3 ⟨rfl, hT, hz⟩
              clear HT
              have HT := Lib.hid hT
              clear hT hz
              try go_wp2_with fail
              refine hK'.out _ _ trivial (fun hHeld' => ?_)
              clear hK' K hHeld
              have hHeld := hHeld'
              clear hHeld'
              try simp only [Act.put]
              try simp only [List.setIfInBounds_toArray, List.set_cons_zero, List.set_cons_succ]
              refine' wpAnyH_take (i := 8) (oi := _) (v := _) ?hN1_98 (by kernel_rfl) (by kernel_rfl) (by kernel_rfl) ?hQN1_98 (Or.inl ⟨?hwN1_98, ?hyN1_98⟩) hHeld ?restN1_98
              case hN1_98 => (simp only [List.getElem?_toArray, List.getElem?_cons_succ, List.getElem?_cons_zero]; rfl)
              case hQN1_98 => exact fun _ _ _ h => h
              case hwN1_98 => rfl
              case hyN1_98 => (intro w hSw; (try dsimp only at hSw); go_simp; try with_reducible rfl)
              try simp only [Act.put, List.setIfInBounds_toArray, List.set_cons_zero, List.set_cons_succ]
              refine wpAnyH_ready (rs := [9]) (by kernel_rfl) (by simp) ?_
              refine' (AllReadyH.cons (o := _) ?hoN1_9b9 (fun K hK' => ?stN1_9b9) AllReadyH.nil)
              case hoN1_9b9 => (simp only [List.getElem?_toArray, List.getElem?_cons_succ, List.getElem?_cons_zero]; rfl)
              case stN1_9b9 =>
                go_simp
                refine hK'.out _ _ trivial (fun hHeld' => ?_)
                clear hK' K hHeld
                have hHeld := hHeld'
                clear hHeld'
                try simp only [Act.put]
                try simp only [List.setIfInBounds_toArray, List.set_cons_zero, List.set_cons_succ]
                have HTa := Lib.hid (HT.out.same ((Keeps.refl [] U3).alloc (.cells (rwc [vB s σ, vT s (sB s σ), vT s (sT s (sB s σ))]).toArray 51)))
                have hTa := HTa.out
                have hlo := hTa.low
                have hx := hxl
                refine wpAnyH_ready (rs := [10]) (by kernel_rfl) (by simp) ?_
                refine' (AllReadyH.cons (o := _) ?hoN1_9c10 (fun K hK' => ?stN1_9c10) AllReadyH.nil)
                case hoN1_9c10 => (simp only [List.getElem?_toArray, List.getElem?_cons_succ, List.getElem?_cons_zero]; rfl)
                case stN1_9c10 =>
                  rw [if_pos (by rfl)]
                  refine wp_append_any _ (.tmp 18) (.tmp 26) 24 rfl W.heap.size 51 i0 _ 3 24 Try.underlying24 HI.out.1 HI.out.2.1 HI.out.2.2.1 HI.out.2.2.2 rfl (by decide) (.slice a1 X1.length c1) X1.length (rwf X1) rfl hTa.o1 _ (some ⟨U3.heap.size, 0, none⟩) 1 1 (rwc [vB s σ, vT s (sB s σ), vT s (sT s (sB s σ))]) rfl (tc_own (B := 0) U3 rfl) (rwc_cell _) (by simp only [maxLen]; omega) (by omega) hlo.1 ?_
                  intro v1 V1 own1 g1 at1
                  obtain ⟨p1, cc1, rfl⟩ := own_form own1
                  refine hK'.out _ _ trivial (fun hHeld' => ?_)
                  clear hK' K hHeld
                  have hHeld := hHeld'
                  clear hHeld'
                  try simp only [Act.put]
                  try simp only [List.setIfInBounds_toArray, List.set_cons_zero, List.set_cons_succ]
                  have hbk1 := hTa.bk.grown g1 (fun e => own_blk_ne hTa.o1 hTa.bk (by decide) e.symm)
                  have qc : V1.cell? ⟨bc, 1, none⟩ = some (.slice a1 X1.length c1) := hbk1.cell 1
                  have qf := hbk1.frozen
                  have HN := Lib.hid (hTa.grow1 (r := [vB s σ, vT s (sB s σ), vT s (sT s (sB s σ))]) rfl own1 g1)
                  clear own1 g1 at1 hbk1 hTa hlo hx HT HTa
                  refine' wpAnyH_take (i := 11) (oi := _) (v := _) ?hN1_9d11 (by kernel_rfl) (by kernel_rfl) (by kernel_rfl) ?hQN1_9d11 (Or.inl ⟨?hwN1_9d11, ?hyN1_9d11⟩) hHeld ?restN1_9d11
                  case hN1_9d11 => (simp only [List.getElem?_toArray, List.getElem?_cons_succ, List.getElem?_cons_zero]; rfl)
                  case hQN1_9d11 => exact fun _ _ _ h => h
                  case hwN1_9d11 => rfl
                  case hyN1_9d11 => (intro w hSw; (try dsimp only at hSw); go_simp; try with_reducible rfl)
                  try simp only [Act.put, List.setIfInBounds_toArray, List.set_cons_zero, List.set_cons_succ]
                  refine wpAnyH_ready (rs := [12]) (by kernel_rfl) (by simp) ?_
                  refine' (AllReadyH.cons (o := _) ?hoN1_9e12 (fun K hK' => ?stN1_9e12) AllReadyH.nil)
                  case hoN1_9e12 => (simp only [List.getElem?_toArray, List.getElem?_cons_succ, List.getElem?_cons_zero]; rfl)
                  case stN1_9e12 =>
                    go_simp
                    refine hK'.out _ _ trivial (fun hHeld' => ?_)
                    clear hK' K hHeld
                    have hHeld := hHeld'
                    clear hHeld'
                    try simp only [Act.put]
                    try simp only [List.setIfInBounds_toArray, List.set_cons_zero, List.set_cons_succ]
                    refine wpAnyH_done (by kernel_rfl) ?_ _
                    clear hHeld qc qf
                    go_wp2
                    go_step3
                    exact Or.inl ⟨rfl, ⟨_, _, _, _, _, _, _, _, _, _, _, _, _, _, rfl, rfl, rfl, rfl, rfl, rfl, HPN.out, HN.out⟩, by show 512 + (n - 1).toNat < 512 + n.toNat; omega⟩
        case stN1_65 =>
          go_simp
          refine (twoR HT.out hm).mono ?_
          rintro e U2 ⟨rfl, hT, hz⟩
          clear HT
          have HT := Lib.hid hT
          clear hT hz
          try go_wp2_with fail
          refine hK'.out _ _ trivial (fun hHeld' => ?_)
          clear hK' K hHeld
          have hHeld := hHeld'
          clear hHeld'
          try simp only [Act.put]
          try simp only [List.setIfInBounds_toArray, List.set_cons_zero, List.set_cons_succ]
          refine wpAnyH_ready (rs := [1, 7]) (by kernel_rfl) (by simp) ?_
          refine' (AllReadyH.cons (o := _) ?hoN1_101 (fun K hK' => ?stN1_101) (AllReadyH.cons (o := _) ?hoN1_107 (fun K hK' => ?stN1_107) AllReadyH.nil))
          case hoN1_101 => (simp only [List.getElem?_toArray, List.getElem?_cons_succ, List.getElem?_cons_zero]; rfl)
          case hoN1_107 => (simp only [List.getElem?_toArray, List.getElem?_cons_succ, List.getElem?_cons_zero]; rfl)
          case stN1_101 =>
            have qc := HT.out.bk.cell 1
            simp only [List.getElem?_toArray, List.getElem?_cons_succ, List.getElem?_cons_zero] at qc
            go_simp
            refine hK'.out _ _ trivial (fun hHeld' => ?_)
            clear hK' K hHeld
            have hHeld := hHeld'
            clear hHeld'
            try simp only [Act.put]
            try simp only [List.setIfInBounds_toArray, List.set_cons_zero, List.set_cons_succ]
            clear qc
            refine wpAnyH_ready (rs := [7]) (by kernel_rfl) (by simp) ?_
            refine' (AllReadyH.cons (o := _) ?hoN1_117 (fun K hK' => ?stN1_117) AllReadyH.nil)
            case hoN1_117 => (simp only [List.getElem?_toArray, List.getElem?_cons_succ, List.getElem?_cons_zero]; rfl)
            case stN1_117 =>
              go_simp
              refine (twoR HT.out hm).mono ?_
              rintro e U3 ⟨rfl, hT, hz⟩
              clear HT
              have HT := Lib.hid hT
              clear hT hz
              try go_wp2_with fail
              refine hK'.out _ _ trivial (fun hHeld' => ?_)
              clear hK' K hHeld
              have hHeld := hHeld'
              clear hHeld'
              try simp only [Act.put]
              try simp only [List.setIfInBounds_toArray, List.set_cons_zero, List.set_cons_succ]
              refine' wpAnyH_take (i := 8) (oi := _) (v := _) ?hN1_128 (by kernel_rfl) (by kernel_rfl) (by kernel_rfl) ?hQN1_128 (Or.inl ⟨?hwN1_128, ?hyN1_128⟩) hHeld ?restN1_128
              case hN1_128 => (simp only [List.getElem?_toArray, List.getElem?_cons_succ, List.getElem?_cons_zero]; rfl)
              case hQN1_128 => exact fun _ _ _ h => h
              case hwN1_128 => rfl
              case hyN1_128 => (intro w hSw; (try dsimp only at hSw); go_simp; try with_reducible rfl)
              try simp only [Act.put, List.setIfInBounds_toArray, List.set_cons_zero, List.set_cons_succ]
              refine wpAnyH_ready (rs := [9]) (by kernel_rfl) (by simp) ?_
              refine' (AllReadyH.cons (o := _) ?hoN1_12b9 (fun K hK' => ?stN1_12b9) AllReadyH.nil)
              case hoN1_12b9 => (simp only [List.getElem?_toArray, List.getElem?_cons_succ, List.getElem?_cons_zero]; rfl)
              case stN1_12b9 =>
                go_simp
                refine hK'.out _ _ trivial (fun hHeld' => ?_)
                clear hK' K hHeld
                have hHeld := hHeld'
                clear hHeld'
                try simp only [Act.put]
                try simp only [List.setIfInBounds_toArray, List.set_cons_zero, List.set_cons_succ]
                have HTa := Lib.hid (HT.out.same ((Keeps.refl [] U3).alloc (.cells (rwc [vB s σ, vT s (sB s σ), vT s (sT s (sB s σ))]).toArray 51)))
                have hTa := HTa.out
                have hlo := hTa.low
                have hx := hxl
                refine wpAnyH_ready (rs := [10]) (by kernel_rfl) (by simp) ?_
                refine' (AllReadyH.cons (o := _) ?hoN1_12c10 (fun K hK' => ?stN1_12c10) AllReadyH.nil)
                case hoN1_12c10 => (simp only [List.getElem?_toArray, List.getElem?_cons_succ, List.getElem?_cons_zero]; rfl)
                case stN1_12c10 =>
                  rw [if_pos (by rfl)]
                  refine wp_append_any _ (.tmp 18) (.tmp 26) 24 rfl W.heap.size 51 i0 _ 3 24 Try.underlying24 HI.out.1 HI.out.2.1 HI.out.2.2.1 HI.out.2.2.2 rfl (by decide) (.slice a1 X1.length c1) X1.length (rwf X1) rfl hTa.o1 _ (some ⟨U3.heap.size, 0, none⟩) 1 1 (rwc [vB s σ, vT s (sB s σ), vT s (sT s (sB s σ))]) rfl (tc_own (B := 0) U3 rfl) (rwc_cell _) (by simp only [maxLen]; omega) (by omega) hlo.1 ?_
                  intro v1 V1 own1 g1 at1
                  obtain ⟨p1, cc1, rfl⟩ := own_form own1
                  refine hK'.out _ _ trivial (fun hHeld' => ?_)
                  clear hK' K hHeld
                  have hHeld := hHeld'
                  clear hHeld'
                  try simp only [Act.put]
                  try simp only [List.setIfInBounds_toArray, List.set_cons_zero, List.set_cons_succ]
                  have hbk1 := hTa.bk.grown g1 (fun e => own_blk_ne hTa.o1 hTa.bk (by decide) e.symm)
                  have qc : V1.cell? ⟨bc, 1, none⟩ = some (.slice a1 X1.length c1) := hbk1.cell 1
                  have qf := hbk1.frozen
                  have HN := Lib.hid (hTa.grow1 (r := [vB s σ, vT s (sB s σ), vT s (sT s (sB s σ))]) rfl own1 g1)
                  clear own1 g1 at1 hbk1 hTa hlo hx HT HTa
                  refine' wpAnyH_take (i := 11) (oi := _) (v := _) ?hN1_12d11 (by kernel_rfl) (by kernel_rfl) (by kernel_rfl) ?hQN1_12d11 (Or.inl ⟨?hwN1_12d11, ?hyN1_12d11⟩) hHeld ?restN1_12d11
                  case hN1_12d11 => (simp only [List.getElem?_toArray, List.getElem?_cons_succ, List.getElem?_cons_zero]; rfl)
                  case hQN1_12d11 => exact fun _ _ _ h => h
                  case hwN1_12d11 => rfl
                  case hyN1_12d11 => (intro w hSw; (try dsimp only at hSw); go_simp; try with_reducible rfl)
                  try simp only [Act.put, List.setIfInBounds_toArray, List.set_cons_zero, List.set_cons_succ]
                  refine wpAnyH_ready (rs := [12]) (by kernel_rfl) (by simp) ?_
                  refine' (AllReadyH.cons (o := _) ?hoN1_12e12 (fun K hK' => ?stN1_12e12) AllReadyH.nil)
                  case hoN1_12e12 => (simp only [List.getElem?_toArray, List.getElem?_cons_succ, List.getElem?_cons_zero]; rfl)
                  case stN1_12e12 =>
                    go_simp
                    refine hK'.out _ _ trivial (fun hHeld' => ?_)
                    clear hK' K hHeld
                    have hHeld := hHeld'
                    clear hHeld'
                    try simp only [Act.put]
                    try simp only [List.setIfInBounds_toArray, List.set_cons_zero, List.set_cons_succ]
                    refine wpAnyH_done (by kernel_rfl) ?_ _
                    clear hHeld qc qf
                    go_wp2
                    go_step3
                    exact Or.inl ⟨rfl, ⟨_, _, _, _, _, _, _, _, _, _, _, _, _, _, rfl, rfl, rfl, rfl, rfl, rfl, HPN.out, HN.out⟩, by show 512 + (n - 1).toNat < 512 + n.toNat; omega⟩
          case stN1_107 =>
            go_simp
            refine (twoR HT.out hm).mono ?_
            rintro e U3 ⟨rfl, hT, hz⟩
            clear HT
            have HT := Lib.hid hT
            clear hT hz
            try go_wp2_with fail
            refine hK'.out _ _ trivial (fun hHeld' => ?_)
            clear hK' K hHeld
            have hHeld := hHeld'
            clear hHeld'
            try simp only [Act.put]
            try simp only [List.setIfInBounds_toArray, List.set_cons_zero, List.set_cons_succ]
            refine' wpAnyH_take (i := 8) (oi := _) (v := _) ?hN1_138 (by kernel_rfl) (by kernel_rfl) (by kernel_rfl) ?hQN1_138 (Or.inl ⟨?hwN1_138, ?hyN1_138⟩) hHeld ?restN1_138
            case hN1_138 => (simp only [List.getElem?_toArray, List.getElem?_cons_succ, List.getElem?_cons_zero]; rfl)
            case hQN1_138 => exact fun _ _ _ h => h
            case hwN1_138 => rfl
            case hyN1_138 => (intro w hSw; (try dsimp only at hSw); go_simp; try with_reducible rfl)
            try simp only [Act.put, List.setIfInBounds_toArray, List.set_cons_zero, List.set_cons_succ]
            refine wpAnyH_ready (rs := [1, 9]) (by kernel_rfl) (by simp) ?_
            refine' (AllReadyH.cons (o := _) ?hoN1_131 (fun K hK' => ?stN1_131) (AllReadyH.cons (o := _) ?hoN1_139 (fun K hK' => ?stN1_139) AllReadyH.nil))
            case hoN1_131 => (simp only [List.getElem?_toArray, List.getElem?_cons_succ, List.getElem?_cons_zero]; rfl)
            case hoN1_139 => (simp only [List.getElem?_toArray, List.getElem?_cons_succ, List.getElem?_cons_zero]; rfl)
            case stN1_131 =>
              have qc := HT.out.bk.cell 1
              simp only [List.getElem?_toArray, List.getElem?_cons_succ, List.getElem?_cons_zero] at qc
              go_simp
              refine hK'.out _ _ trivial (fun hHeld' => ?_)
              clear hK' K hHeld
              have hHeld := hHeld'
              clear hHeld'
              try simp only [Act.put]
              try simp only [List.setIfInBounds_toArray, List.set_cons_zero, List.set_cons_succ]
              clear qc
              refine wpAnyH_ready (rs := [9]) (by kernel_rfl) (by simp) ?_
              refine' (AllReadyH.cons (o := _) ?hoN1_13xb9 (fun K hK' => ?stN1_13xb9) AllReadyH.nil)
              case hoN1_13xb9 => (simp only [List.getElem?_toArray, List.getElem?_cons_succ, List.getElem?_cons_zero]; rfl)
              case stN1_13xb9 =>
                go_simp
                refine hK'.out _ _ trivial (fun hHeld' => ?_)
                clear hK' K hHeld
                have hHeld := hHeld'
                clear hHeld'
                try simp only [Act.put]
                try simp only [List.setIfInBounds_toArray, List.set_cons_zero, List.set_cons_succ]
                have HTa := Lib.hid (HT.out.same ((Keeps.refl [] U3).alloc (.cells (rwc [vB s σ, vT s (sB s σ), vT s (sT s (sB s σ))]).toArray 51)))
                have hTa := HTa.out
                have hlo := hTa.low
                have hx := hxl
                refine wpAnyH_ready (rs := [10]) (by kernel_rfl) (by simp) ?_
                refine' (AllReadyH.cons (o := _) ?hoN1_13xc10 (fun K hK' => ?stN1_13xc10) AllReadyH.nil)
                case hoN1_13xc10 => (simp only [List.getElem?_toArray, List.getElem?_cons_succ, List.getElem?_cons_zero]; rfl)
                case stN1_13xc10 =>
                  rw [if_pos (by rfl)]
                  refine wp_append_any _ (.tmp 18) (.tmp 26) 24 rfl W.heap.size 51 i0 _ 3 24 Try.underlying24 HI.out.1 HI.out.2.1 HI.out.2.2.1 HI.out.2.2.2 rfl (by decide) (.slice a1 X1.length c1) X1.length (rwf X1) rfl hTa.o1 _ (some ⟨U3.heap.size, 0, none⟩) 1 1 (rwc [vB s σ, vT s (sB s σ), vT s (sT s (sB s σ))]) rfl (tc_own (B := 0) U3 rfl) (rwc_cell _) (by simp only [maxLen]; omega) (by omega) hlo.1 ?_
                  intro v1 V1 own1 g1 at1
                  obtain ⟨p1, cc1, rfl⟩ := own_form own1
                  refine hK'.out _ _ trivial (fun hHeld' => ?_)
                  clear hK' K hHeld
                  have hHeld := hHeld'
                  clear hHeld'
                  try simp only [Act.put]
                  try simp only [List.setIfInBounds_toArray, List.set_cons_zero, List.set_cons_succ]
                  have hbk1 := hTa.bk.grown g1 (fun e => own_blk_ne hTa.o1 hTa.bk (by decide) e.symm)
                  have qc : V1.cell? ⟨bc, 1, none⟩ = some (.slice a1 X1.length c1) := hbk1.cell 1
                  have qf := hbk1.frozen
                  have HN := Lib.hid (hTa.grow1 (r := [vB s σ, vT s (sB s σ), vT s (sT s (sB s σ))]) rfl own1 g1)
                  clear own1 g1 at1 hbk1 hTa hlo hx HT HTa
                  refine' wpAnyH_take (i := 11) (oi := _) (v := _) ?hN1_13xd11 (by kernel_rfl) (by kernel_rfl) (by kernel_rfl) ?hQN1_13xd11 (Or.inl ⟨?hwN1_13xd11, ?hyN1_13xd11⟩) hHeld ?restN1_13xd11
                  case hN1_13xd11 => (simp only [List.getElem?_toArray, List.getElem?_cons_succ, List.getElem?_cons_zero]; rfl)
                  case hQN1_13xd11 => exact fun _ _ _ h => h
                  case hwN1_13xd11 => rfl
                  case hyN1_13xd11 => (intro w hSw; (try dsimp only at hSw); go_simp; try with_reducible rfl)
                  try simp only [Act.put, List.setIfInBounds_toArray, List.set_cons_zero, List.set_cons_succ]
                  refine wpAnyH_ready (rs := [12]) (by kernel_rfl) (by simp) ?_
                  refine' (AllReadyH.cons (o := _) ?hoN1_13xe12 (fun K hK' => ?stN1_13xe12) AllReadyH.nil)
                  case hoN1_13xe12 => (simp only [List.getElem?_toArray, List.getElem?_cons_succ, List.getElem?_cons_zero]; rfl)
                  case stN1_13xe12 =>
                    go_simp
                    refine hK'.out _ _ trivial (fun hHeld' => ?_)
                    clear hK' K hHeld
                    have hHeld := hHeld'
                    clear hHeld'
                    try simp only [Act.put]
                    try simp only [List.setIfInBounds_toArray, List.set_cons_zero, List.set_cons_succ]
                    refine wpAnyH_done (by kernel_rfl) ?_ _
                    clear hHeld qc qf
                    go_wp2
                    go_step3
                    exact Or.inl ⟨rfl, ⟨_, _, _, _, _, _, _, _, _, _, _, _, _, _, rfl, rfl, rfl, rfl, rfl, rfl, HPN.out, HN.out⟩, by show 512 + (n - 1).toNat < 512 + n.toNat; omega⟩
            case stN1_139 =>
              go_simp
              refine hK'.out _ _ trivial (fun hHeld' => ?_)
              clear hK' K hHeld
              have hHeld := hHeld'
              clear hHeld'
              try simp only [Act.put]
              try simp only [List.setIfInBounds_toArray, List.set_cons_zero, List.set_cons_succ]
              have HTa := Lib.hid (HT.out.same ((Keeps.refl [] U3).alloc (.cells (rwc [vB s σ, vT s (sB s σ), vT s (sT s (sB s σ))]).toArray 51)))
              refine wpAnyH_ready (rs := [1]) (by kernel_rfl) (by simp) ?_
              refine' (AllReadyH.cons (o := _) ?hoN1_13yl1 (fun K hK' => ?stN1_13yl1) AllReadyH.nil)
              case hoN1_13yl1 => (simp only [List.getElem?_toArray, List.getElem?_cons_succ, List.getElem?_cons_zero]; rfl)
              case stN1_13yl1 =>
                have qc := HTa.out.bk.cell 1
                simp only [List.getElem?_toArray, List.getElem?_cons_succ, List.getElem?_cons_zero] at qc
                have qc : (U3.alloc (.cells #[.int .i64 (vB s σ), .int .i64 (vT s (sB s σ)), .int .i64 (vT s (sT s (sB s σ)))] 51)).cell? ⟨bc, 1, none⟩ = _ := qc
                go_simp
                refine hK'.out _ _ trivial (fun hHeld' => ?_)
                clear hK' K hHeld
                have hHeld := hHeld'
                clear hHeld'
                try simp only [Act.put]
                try simp only [List.setIfInBounds_toArray, List.set_cons_zero, List.set_cons_succ]
                clear qc
                have hTa := HTa.out
                have hlo := hTa.low
                have hx := hxl
                refine wpAnyH_ready (rs := [10]) (by kernel_rfl) (by simp) ?_
                refine' (AllReadyH.cons (o := _) ?hoN1_13yc10 (fun K hK' => ?stN1_13yc10) AllReadyH.nil)
                case hoN1_13yc10 => (simp only [List.getElem?_toArray, List.getElem?_cons_succ, List.getElem?_cons_zero]; rfl)
                case stN1_13yc10 =>
                  rw [if_pos (by rfl)]
                  refine wp_append_any _ (.tmp 18) (.tmp 26) 24 rfl W.heap.size 51 i0 _ 3 24 Try.underlying24 HI.out.1 HI.out.2.1 HI.out.2.2.1 HI.out.2.2.2 rfl (by decide) (.slice a1 X1.length c1) X1.length (rwf X1) rfl hTa.o1 _ (some ⟨U3.heap.size, 0, none⟩) 1 1 (rwc [vB s σ, vT s (sB s σ), vT s (sT s (sB s σ))]) rfl (tc_own (B := 0) U3 rfl) (rwc_cell _) (by simp only [maxLen]; omega) (by omega) hlo.1 ?_
                  intro v1 V1 own1 g1 at1
                  obtain ⟨p1, cc1, rfl⟩ := own_form own1
                  refine hK'.out _ _ trivial (fun hHeld' => ?_)
                  clear hK' K hHeld
                  have hHeld := hHeld'
                  clear hHeld'
                  try simp only [Act.put]
                  try simp only [List.setIfInBounds_toArray, List.set_cons_zero, List.set_cons_succ]
                  have hbk1 := hTa.bk.grown g1 (fun e => own_blk_ne hTa.o1 hTa.bk (by decide) e.symm)
                  have qc : V1.cell? ⟨bc, 1, none⟩ = some (.slice a1 X1.length c1) := hbk1.cell 1
                  have qf := hbk1.frozen
                  have HN := Lib.hid (hTa.grow1 (r := [vB s σ, vT s (sB s σ), vT s (sT s (sB s σ))]) rfl own1 g1)
                  clear own1 g1 at1 hbk1 hTa hlo hx HT HTa
                  refine' wpAnyH_take (i := 11) (oi := _) (v := _) ?hN1_13yd11 (by kernel_rfl) (by kernel_rfl) (by kernel_rfl) ?hQN1_13yd11 (Or.inl ⟨?hwN1_13yd11, ?hyN1_13yd11⟩) hHeld ?restN1_13yd11
                  case hN1_13yd11 => (simp only [List.getElem?_toArray, List.getElem?_cons_succ, List.getElem?_cons_zero]; rfl)
                  case hQN1_13yd11 => exact fun _ _ _ h => h
                  case hwN1_13yd11 => rfl
                  case hyN1_13yd11 => (intro w hSw; (try dsimp only at hSw); go_simp; try with_reducible rfl)
                  try simp only [Act.put, List.setIfInBounds_toArray, List.set_cons_zero, List.set_cons_succ]
                  refine wpAnyH_ready (rs := [12]) (by kernel_rfl) (by simp) ?_
                  refine' (AllReadyH.cons (o := _) ?hoN1_13ye12 (fun K hK' => ?stN1_13ye12) AllReadyH.nil)
                  case hoN1_13ye12 => (simp only [List.getElem?_toArray, List.getElem?_cons_succ, List.getElem?_cons_zero]; rfl)
                  case stN1_13ye12 =>
                    go_simp
                    refine hK'.out _ _ trivial (fun hHeld' => ?_)
                    clear hK' K hHeld
                    have hHeld := hHeld'
                    clear hHeld'
                    try simp only [Act.put]
                    try simp only [List.setIfInBounds_toArray, List.set_cons_zero, List.set_cons_succ]
                    refine wpAnyH_done (by kernel_rfl) ?_ _
                    clear hHeld qc qf
                    go_wp2
                    go_step3
                    exact Or.inl ⟨rfl, ⟨_, _, _, _, _, _, _, _, _, _, _, _, _, _, rfl, rfl, rfl, rfl, rfl, rfl, HPN.out, HN.out⟩, by show 512 + (n - 1).toNat < 512 + n.toNat; omega⟩
    · have hne : (σ.2 == 0) = false := by simpa using he
      have HC := Lib.hid (errR HT.out)
      go_wp2_with fail
      refine HC.out.mono ?_
      clear HC
      rintro e U ⟨rfl, hT, _⟩
      clear HT
      have HT := Lib.hid hT
      clear hT
      have hpn := HPH.out.next (fun h9 => he h9.2)
      have hbl := hpn.lens
      have HPN := Lib.hid hpn
      clear hpn
      have HC := Lib.hid (byteR HT.out hm)
      go_wp2_with fail
      refine HC.out.mono ?_
      clear HC
      rintro e U9 ⟨rfl, hT, _⟩
      clear HT
      have HT := Lib.hid hT
      clear hT
      go_wp2
      go_step3
      go_step
      go_step
      refine Code.wp_mono ?_ (H1 _ _ ?_)
      · exact Ex3.imp (fun _ _ h => ⟨h.1, Nat.lt_of_lt_of_le h.2 (by show 256 + (vB s σ).toNat ≤ 512 + n.toNat; omega)⟩) (fun _ _ h => ⟨h.1, Nat.lt_of_lt_of_le h.2 (by show 256 + (vB s σ).toNat ≤ 512 + n.toNat; omega)⟩) (fun _ _ h => ⟨h.1, Nat.lt_of_lt_of_le h.2 (by show 256 + (vB s σ).toNat ≤ 512 + n.toNat; omega)⟩)
      · exact ⟨_, _, _, _, _, _, _, _, _, _, _, _, _, _, rfl, rfl, rfl, rfl, rfl, rfl, HPN.out, HT.out⟩
  · have hpn := HPH.out.next (fun h9 => hn h9.1)
    have hbl := hpn.lens
    have HPN := Lib.hid hpn
    clear hpn
    have HC := Lib.hid (byteR HT.out hm)
    go_wp2_with fail
    refine HC.out.mono ?_
    clear HC
    rintro e U9 ⟨rfl, hT, _⟩
    clear HT
    have HT := Lib.hid hT
    clear hT
    go_wp2
    go_step3
    go_step
    go_step
    refine Code.wp_mono ?_ (H1 _ _ ?_)
    · exact Ex3.imp (fun _ _ h => ⟨h.1, Nat.lt_of_lt_of_le h.2 (by show 256 + (vB s σ).toNat ≤ 512 + n.toNat; omega)⟩) (fun _ _ h => ⟨h.1, Nat.lt_of_lt_of_le h.2 (by show 256 + (vB s σ).toNat ≤ 512 + n.toNat; omega)⟩) (fun _ _ h => ⟨h.1, Nat.lt_of_lt_of_le h.2 (by show 256 + (vB s σ).toNat ≤ 512 + n.toNat; omega)⟩)
    · exact ⟨_, _, _, _, _, _, _, _, _, _, _, _, _, _, rfl, rfl, rfl, rfl, rfl, rfl, HPN.out, HT.out⟩
end Im
end Go.Proofs.Ytjdhkpafbejodaa
