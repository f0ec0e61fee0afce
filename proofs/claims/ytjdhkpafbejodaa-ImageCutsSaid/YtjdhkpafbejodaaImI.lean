/- The program's tables: behind the last label. -/
import Derived.Test.YtjdhkpafbejodaaImH
import Derived.WalkMore
namespace Go.Proofs.Ytjdhkpafbejodaa
open Go.RowKit
namespace Im
open Sm Bi
attribute [local irreducible] sB sT vB vT Ph0 Ph1 Ph2 Fin okσ
set_option maxRecDepth 100000 in
set_option maxHeartbeats 16000000 in
theorem tab_p2 {c r0 : Code} (hc : Try.f21.body = some (Code.seq r0 (Code.scope c))) (b : Nat) (s : ByteArray) (W : World) (hm : s.size ≤ 9223372036854775807) {R2 : Code} (hR2 : findLabel c 2 = some (Code.seq Code.skip R2)) :
    ∀ a w, (∃ bc, Jt s W b W.heap.size bc Ph2 a w) → R2.wp Try.prog (Ex3 (fun a' w' => (∃ bc, Jt s W b W.heap.size bc Ph0 a' w') ∧ 512 + nOf a' < nOf a) (fun a' w' => (∃ bc, Jt s W b W.heap.size bc Ph1 a' w') ∧ 256 + nOf a' < nOf a) (fun a' w' => (∃ bc, Jt s W b W.heap.size bc Ph2 a' w') ∧ nOf a' < nOf a) (bodyPost Try.prog Try.f21 (IsTab b s W))) a w := by
  injection hc with hc
  injection hc with _ hc
  injection hc with hc
  subst hc
  injection hR2 with hR2
  injection hR2 with _ hR2
  subst hR2
  rintro a w ⟨bc, tm, n, σ, fr, X1, X2, X3, a1, c1, a2, c2, a3, c3, rfl, hsz, t0, t2, t3, t4, hph, hT⟩
  obtain ⟨u0, u1, u2, u3, u4, u5, u6, u7, u8, u9, u10, u11, u12, u13, u14, u15, u16, u17, u18, u19, u20, u21, u22, u23, u24, u25, u26, u27, u28, u29, u30, u31, u32, u33, u34, u35, u36, u37, u38, u39, u40, u41, u42, u43, u44, u45, u46, u47, u48, u49, u50, u51, u52, u53, u54, u55, u56, u57, u58, u59, u60, u61, u62, u63, u64, u65, u66, u67, u68, u69, u70, u71, u72, u73, u74, u75, u76, u77, u78, u79, u80, u81, u82, u83, u84, u85, u86, u87, u88, u89, u90, u91, rfl⟩ := arr92 tm hsz
  obtain rfl := Option.some.inj t0
  obtain rfl := Option.some.inj t2
  obtain rfl := Option.some.inj t3
  obtain rfl := Option.some.inj t4
  clear hsz t0 t2 t3 t4
  obtain ⟨hn0, hn1, hln⟩ := hph.lens
  have HPH := Lib.hid hph
  have HT := Lib.hid hT
  have HL := Lib.hid hln
  clear hT hln hph
  by_cases hn : 0 < n
  · by_cases he : σ.2 = 0
    · have HC := Lib.hid (errR HT.out)
      rw [he] at HC
      go_wp2_with fail
      refine HC.out.mono ?_
      clear HC
      rintro e U ⟨rfl, hT, _⟩
      clear HT
      have HT := Lib.hid hT
      clear hT
      have hph := HPH.out
      have hxl := HL.out he
      obtain ⟨i0, hi0, hz0, hz1, hz2⟩ := info_parts cli_info
      have HI := Lib.hid (And.intro hi0 (And.intro hz0 (And.intro hz1 hz2)))
      clear hi0 hz0 hz1 hz2
      have HPN := Lib.hid (HPH.out.row hn he)
      clear hph
      go_wp2
      refine wp_region_held_drew (S := AnyW) (by kernel_rfl) trivial (fun hHeld => ?_)
      have HT := Lib.hid (HT.out.same ((Keeps.refl [] _).drew))
      generalize World.drew _ = U0 at *
      refine' wpAnyH_take (i := 0) (oi := _) (v := _) ?hR30 (by kernel_rfl) (by kernel_rfl) (by kernel_rfl) ?hQR30 (Or.inl ⟨?hwR30, ?hyR30⟩) hHeld ?restR30
      case hR30 => (simp only [List.getElem?_toArray, List.getElem?_cons_zero]; rfl)
      case hQR30 => exact fun _ _ _ h => h
      case hwR30 => rfl
      case hyR30 => (intro w hSw; (try dsimp only at hSw); go_simp; try with_reducible rfl)
      try simp only [Act.put, List.setIfInBounds_toArray, List.set_cons_zero, List.set_cons_succ]
      refine' wpAnyH_take (i := 2) (oi := _) (v := _) ?hR32 (by kernel_rfl) (by kernel_rfl) (by kernel_rfl) ?hQR32 (Or.inl ⟨?hwR32, ?hyR32⟩) hHeld ?restR32
      case hR32 => (simp only [List.getElem?_toArray, List.getElem?_cons_succ, List.getElem?_cons_zero]; rfl)
      case hQR32 => exact fun _ _ _ h => h
      case hwR32 => rfl
      case hyR32 => (intro w hSw; (try dsimp only at hSw); go_simp; try with_reducible rfl)
      try simp only [Act.put, List.setIfInBounds_toArray, List.set_cons_zero, List.set_cons_succ]
      refine' wpAnyH_take (i := 4) (oi := _) (v := _) ?hR34 (by kernel_rfl) (by kernel_rfl) (by kernel_rfl) ?hQR34 (Or.inl ⟨?hwR34, ?hyR34⟩) hHeld ?restR34
      case hR34 => (simp only [List.getElem?_toArray, List.getElem?_cons_succ, List.getElem?_cons_zero]; rfl)
      case hQR34 => exact fun _ _ _ h => h
      case hwR34 => rfl
      case hyR34 => (intro w hSw; (try dsimp only at hSw); go_simp; try with_reducible rfl)
      try simp only [Act.put, List.setIfInBounds_toArray, List.set_cons_zero, List.set_cons_succ]
      refine' wpAnyH_take (i := 6) (oi := _) (v := _) ?hR36 (by kernel_rfl) (by kernel_rfl) (by kernel_rfl) ?hQR36 (Or.inl ⟨?hwR36, ?hyR36⟩) hHeld ?restR36
      case hR36 => (simp only [List.getElem?_toArray, List.getElem?_cons_succ, List.getElem?_cons_zero]; rfl)
      case hQR36 => exact fun _ _ _ h => h
      case hwR36 => rfl
      case hyR36 => (intro w hSw; (try dsimp only at hSw); go_simp; try with_reducible rfl)
      try simp only [Act.put, List.setIfInBounds_toArray, List.set_cons_zero, List.set_cons_succ]
      refine' wpAnyH_take (i := 8) (oi := _) (v := _) ?hR38 (by kernel_rfl) (by kernel_rfl) (by kernel_rfl) ?hQR38 (Or.inl ⟨?hwR38, ?hyR38⟩) hHeld ?restR38
      case hR38 => (simp only [List.getElem?_toArray, List.getElem?_cons_succ, List.getElem?_cons_zero]; rfl)
      case hQR38 => exact fun _ _ _ h => h
      case hwR38 => rfl
      case hyR38 => (intro w hSw; (try dsimp only at hSw); go_simp; try with_reducible rfl)
      try simp only [Act.put, List.setIfInBounds_toArray, List.set_cons_zero, List.set_cons_succ]
      refine' wpAnyH_take (i := 10) (oi := _) (v := _) ?hR310 (by kernel_rfl) (by kernel_rfl) (by kernel_rfl) ?hQR310 (Or.inl ⟨?hwR310, ?hyR310⟩) hHeld ?restR310
      case hR310 => (simp only [List.getElem?_toArray, List.getElem?_cons_succ, List.getElem?_cons_zero]; rfl)
      case hQR310 => exact fun _ _ _ h => h
      case hwR310 => rfl
      case hyR310 => (intro w hSw; (try dsimp only at hSw); go_simp; try with_reducible rfl)
      try simp only [Act.put, List.setIfInBounds_toArray, List.set_cons_zero, List.set_cons_succ]
      refine' wpAnyH_take (i := 12) (oi := _) (v := _) ?hR312 (by kernel_rfl) (by kernel_rfl) (by kernel_rfl) ?hQR312 (Or.inl ⟨?hwR312, ?hyR312⟩) hHeld ?restR312
      case hR312 => (simp only [List.getElem?_toArray, List.getElem?_cons_succ, List.getElem?_cons_zero]; rfl)
      case hQR312 => exact fun _ _ _ h => h
      case hwR312 => rfl
      case hyR312 => (intro w hSw; (try dsimp only at hSw); go_simp; try with_reducible rfl)
      try simp only [Act.put, List.setIfInBounds_toArray, List.set_cons_zero, List.set_cons_succ]
      refine' wpAnyH_take (i := 14) (oi := _) (v := _) ?hR314 (by kernel_rfl) (by kernel_rfl) (by kernel_rfl) ?hQR314 (Or.inl ⟨?hwR314, ?hyR314⟩) hHeld ?restR314
      case hR314 => (simp only [List.getElem?_toArray, List.getElem?_cons_succ, List.getElem?_cons_zero]; rfl)
      case hQR314 => exact fun _ _ _ h => h
      case hwR314 => rfl
      case hyR314 => (intro w hSw; (try dsimp only at hSw); go_simp; try with_reducible rfl)
      try simp only [Act.put, List.setIfInBounds_toArray, List.set_cons_zero, List.set_cons_succ]
      refine' wpAnyH_take (i := 16) (oi := _) (v := _) ?hR316 (by kernel_rfl) (by kernel_rfl) (by kernel_rfl) ?hQR316 (Or.inl ⟨?hwR316, ?hyR316⟩) hHeld ?restR316
      case hR316 => (simp only [List.getElem?_toArray, List.getElem?_cons_succ, List.getElem?_cons_zero]; rfl)
      case hQR316 => exact fun _ _ _ h => h
      case hwR316 => rfl
      case hyR316 => (intro w hSw; (try dsimp only at hSw); go_simp; try with_reducible rfl)
      try simp only [Act.put, List.setIfInBounds_toArray, List.set_cons_zero, List.set_cons_succ]
      refine' wpAnyH_take (i := 18) (oi := _) (v := _) ?hR318 (by kernel_rfl) (by kernel_rfl) (by kernel_rfl) ?hQR318 (Or.inl ⟨?hwR318, ?hyR318⟩) hHeld ?restR318
      case hR318 => (simp only [List.getElem?_toArray, List.getElem?_cons_succ, List.getElem?_cons_zero]; rfl)
      case hQR318 => exact fun _ _ _ h => h
      case hwR318 => rfl
      case hyR318 => (intro w hSw; (try dsimp only at hSw); go_simp; try with_reducible rfl)
      try simp only [Act.put, List.setIfInBounds_toArray, List.set_cons_zero, List.set_cons_succ]
      refine' wpAnyH_take (i := 20) (oi := _) (v := _) ?hR320 (by kernel_rfl) (by kernel_rfl) (by kernel_rfl) ?hQR320 (Or.inl ⟨?hwR320, ?hyR320⟩) hHeld ?restR320
      case hR320 => (simp only [List.getElem?_toArray, List.getElem?_cons_succ, List.getElem?_cons_zero]; rfl)
      case hQR320 => exact fun _ _ _ h => h
      case hwR320 => rfl
      case hyR320 => (intro w hSw; (try dsimp only at hSw); go_simp; try with_reducible rfl)
      try simp only [Act.put, List.setIfInBounds_toArray, List.set_cons_zero, List.set_cons_succ]
      refine wpAnyH_ready (rs := [1, 3]) (by kernel_rfl) (by simp) ?_
      refine' (AllReadyH.cons (o := _) ?hoN3_11 (fun K hK' => ?stN3_11) (AllReadyH.cons (o := _) ?hoN3_13 (fun K hK' => ?stN3_13) AllReadyH.nil))
      case hoN3_11 => (simp only [List.getElem?_toArray, List.getElem?_cons_succ, List.getElem?_cons_zero]; rfl)
      case hoN3_13 => (simp only [List.getElem?_toArray, List.getElem?_cons_succ, List.getElem?_cons_zero]; rfl)
      case stN3_11 =>
        have qc := HT.out.bk.cell 3
        simp only [List.getElem?_toArray, List.getElem?_cons_succ, List.getElem?_cons_zero] at qc
        go_simp
        refine hK'.out _ _ trivial (fun hHeld' => ?_)
        clear hK' K hHeld
        have hHeld := hHeld'
        clear hHeld'
        try simp only [Act.put]
        try simp only [List.setIfInBounds_toArray, List.set_cons_zero, List.set_cons_succ]
        clear qc
        refine wpAnyH_ready (rs := [3]) (by kernel_rfl) (by simp) ?_
        refine' (AllReadyH.cons (o := _) ?hoN3_23 (fun K hK' => ?stN3_23) AllReadyH.nil)
        case hoN3_23 => (simp only [List.getElem?_toArray, List.getElem?_cons_succ, List.getElem?_cons_zero]; rfl)
        case stN3_23 =>
          go_simp
          refine (twoR HT.out hm).mono ?_
          rintro e U1 ⟨rfl, hT, hz⟩
          clear HT
          have HT := Lib.hid hT
          clear hT hz
          try go_wp2_with fail
          refine hK'.out _ _ trivial (fun hHeld' => ?_)
          clear hK' K hHeld
          have hHeld := hHeld'
          clear hHeld'
          try simp only [Act.put]
          try simp only [List.setIfInBounds_toArray, List.set_cons_zero, List.set_cons_succ]
          refine wpAnyH_ready (rs := [5]) (by kernel_rfl) (by simp) ?_
          refine' (AllReadyH.cons (o := _) ?hoN3_35 (fun K hK' => ?stN3_35) AllReadyH.nil)
          case hoN3_35 => (simp only [List.getElem?_toArray, List.getElem?_cons_succ, List.getElem?_cons_zero]; rfl)
          case stN3_35 =>
            go_simp
            refine (twoR HT.out hm).mono ?_
            rintro e U2 ⟨rfl, hT, hz⟩
            clear HT
            have HT := Lib.hid hT
            clear hT hz
            try go_wp2_with fail
            refine hK'.out _ _ trivial (fun hHeld' => ?_)
            clear hK' K hHeld
            have hHeld := hHeld'
            clear hHeld'
            try simp only [Act.put]
            try simp only [List.setIfInBounds_toArray, List.set_cons_zero, List.set_cons_succ]
            refine wpAnyH_ready (rs := [7]) (by kernel_rfl) (by simp) ?_
            refine' (AllReadyH.cons (o := _) ?hoN3_47 (fun K hK' => ?stN3_47) AllReadyH.nil)
            case hoN3_47 => (simp only [List.getElem?_toArray, List.getElem?_cons_succ, List.getElem?_cons_zero]; rfl)
            case stN3_47 =>
              go_simp
              refine (byteR HT.out hm).mono ?_
              rintro e U3 ⟨rfl, hT, hz⟩
              clear HT
              have HT := Lib.hid hT
              clear hT hz
              try go_wp2_with fail
              refine hK'.out _ _ trivial (fun hHeld' => ?_)
              clear hK' K hHeld
              have hHeld := hHeld'
              clear hHeld'
              try simp only [Act.put]
              try simp only [List.setIfInBounds_toArray, List.set_cons_zero, List.set_cons_succ]
              refine wpAnyH_ready (rs := [9]) (by kernel_rfl) (by simp) ?_
              refine' (AllReadyH.cons (o := _) ?hoN3_59 (fun K hK' => ?stN3_59) AllReadyH.nil)
              case hoN3_59 => (simp only [List.getElem?_toArray, List.getElem?_cons_succ, List.getElem?_cons_zero]; rfl)
              case stN3_59 =>
                go_simp
                refine (twoR HT.out hm).mono ?_
                rintro e U4 ⟨rfl, hT, hz⟩
                clear HT
                have HT := Lib.hid hT
                clear hT hz
                try go_wp2_with fail
                refine hK'.out _ _ trivial (fun hHeld' => ?_)
                clear hK' K hHeld
                have hHeld := hHeld'
                clear hHeld'
                try simp only [Act.put]
                try simp only [List.setIfInBounds_toArray, List.set_cons_zero, List.set_cons_succ]
                refine wpAnyH_ready (rs := [11]) (by kernel_rfl) (by simp) ?_
                refine' (AllReadyH.cons (o := _) ?hoN3_611 (fun K hK' => ?stN3_611) AllReadyH.nil)
                case hoN3_611 => (simp only [List.getElem?_toArray, List.getElem?_cons_succ, List.getElem?_cons_zero]; rfl)
                case stN3_611 =>
                  go_simp
                  refine (byteR HT.out hm).mono ?_
                  rintro e U5 ⟨rfl, hT, hz⟩
                  clear HT
                  have HT := Lib.hid hT
                  clear hT hz
                  try go_wp2_with fail
                  refine hK'.out _ _ trivial (fun hHeld' => ?_)
                  clear hK' K hHeld
                  have hHeld := hHeld'
                  clear hHeld'
                  try simp only [Act.put]
                  try simp only [List.setIfInBounds_toArray, List.set_cons_zero, List.set_cons_succ]
                  refine wpAnyH_ready (rs := [13]) (by kernel_rfl) (by simp) ?_
                  refine' (AllReadyH.cons (o := _) ?hoN3_713 (fun K hK' => ?stN3_713) AllReadyH.nil)
                  case hoN3_713 => (simp only [List.getElem?_toArray, List.getElem?_cons_succ, List.getElem?_cons_zero]; rfl)
                  case stN3_713 =>
                    go_simp
                    refine (byteR HT.out hm).mono ?_
                    rintro e U6 ⟨rfl, hT, hz⟩
                    clear HT
                    have HT := Lib.hid hT
                    clear hT hz
                    try go_wp2_with fail
                    refine hK'.out _ _ trivial (fun hHeld' => ?_)
                    clear hK' K hHeld
                    have hHeld := hHeld'
                    clear hHeld'
                    try simp only [Act.put]
                    try simp only [List.setIfInBounds_toArray, List.set_cons_zero, List.set_cons_succ]
                    refine wpAnyH_ready (rs := [15]) (by kernel_rfl) (by simp) ?_
                    refine' (AllReadyH.cons (o := _) ?hoN3_815 (fun K hK' => ?stN3_815) AllReadyH.nil)
                    case hoN3_815 => (simp only [List.getElem?_toArray, List.getElem?_cons_succ, List.getElem?_cons_zero]; rfl)
                    case stN3_815 =>
                      go_simp
                      refine (byteR HT.out hm).mono ?_
                      rintro e U7 ⟨rfl, hT, hz⟩
                      clear HT
                      have HT := Lib.hid hT
                      clear hT hz
                      try go_wp2_with fail
                      refine hK'.out _ _ trivial (fun hHeld' => ?_)
                      clear hK' K hHeld
                      have hHeld := hHeld'
                      clear hHeld'
                      try simp only [Act.put]
                      try simp only [List.setIfInBounds_toArray, List.set_cons_zero, List.set_cons_succ]
                      refine wpAnyH_ready (rs := [17]) (by kernel_rfl) (by simp) ?_
                      refine' (AllReadyH.cons (o := _) ?hoN3_917 (fun K hK' => ?stN3_917) AllReadyH.nil)
                      case hoN3_917 => (simp only [List.getElem?_toArray, List.getElem?_cons_succ, List.getElem?_cons_zero]; rfl)
                      case stN3_917 =>
                        go_simp
                        refine (byteR HT.out hm).mono ?_
                        rintro e U8 ⟨rfl, hT, hz⟩
                        clear HT
                        have HT := Lib.hid hT
                        clear hT hz
                        try go_wp2_with fail
                        refine hK'.out _ _ trivial (fun hHeld' => ?_)
                        clear hK' K hHeld
                        have hHeld := hHeld'
                        clear hHeld'
                        try simp only [Act.put]
                        try simp only [List.setIfInBounds_toArray, List.set_cons_zero, List.set_cons_succ]
                        refine wpAnyH_ready (rs := [19]) (by kernel_rfl) (by simp) ?_
                        refine' (AllReadyH.cons (o := _) ?hoN3_1019 (fun K hK' => ?stN3_1019) AllReadyH.nil)
                        case hoN3_1019 => (simp only [List.getElem?_toArray, List.getElem?_cons_succ, List.getElem?_cons_zero]; rfl)
                        case stN3_1019 =>
                          go_simp
                          refine (twoR HT.out hm).mono ?_
                          rintro e U9 ⟨rfl, hT, hz⟩
                          clear HT
                          have HT := Lib.hid hT
                          clear hT hz
                          try go_wp2_with fail
                          refine hK'.out _ _ trivial (fun hHeld' => ?_)
                          clear hK' K hHeld
                          have hHeld := hHeld'
                          clear hHeld'
                          try simp only [Act.put]
                          try simp only [List.setIfInBounds_toArray, List.set_cons_zero, List.set_cons_succ]
                          refine wpAnyH_ready (rs := [21]) (by kernel_rfl) (by simp) ?_
                          refine' (AllReadyH.cons (o := _) ?hoN3_1121 (fun K hK' => ?stN3_1121) AllReadyH.nil)
                          case hoN3_1121 => (simp only [List.getElem?_toArray, List.getElem?_cons_succ, List.getElem?_cons_zero]; rfl)
                          case stN3_1121 =>
                            go_simp
                            refine (byteR HT.out hm).mono ?_
                            rintro e U10 ⟨rfl, hT, hz⟩
                            clear HT
                            have HT := Lib.hid hT
                            clear hT hz
                            try go_wp2_with fail
                            refine hK'.out _ _ trivial (fun hHeld' => ?_)
                            clear hK' K hHeld
                            have hHeld := hHeld'
                            clear hHeld'
                            try simp only [Act.put]
                            try simp only [List.setIfInBounds_toArray, List.set_cons_zero, List.set_cons_succ]
                            refine' wpAnyH_take (i := 22) (oi := _) (v := _) ?hN3_1222 (by kernel_rfl) (by kernel_rfl) (by kernel_rfl) ?hQN3_1222 (Or.inl ⟨?hwN3_1222, ?hyN3_1222⟩) hHeld ?restN3_1222
                            case hN3_1222 => (simp only [List.getElem?_toArray, List.getElem?_cons_succ, List.getElem?_cons_zero]; rfl)
                            case hQN3_1222 => exact fun _ _ _ h => h
                            case hwN3_1222 => rfl
                            case hyN3_1222 => (intro w hSw; (try dsimp only at hSw); go_simp; try with_reducible rfl)
                            try simp only [Act.put, List.setIfInBounds_toArray, List.set_cons_zero, List.set_cons_succ]
                            refine wpAnyH_ready (rs := [23]) (by kernel_rfl) (by simp) ?_
                            refine' (AllReadyH.cons (o := _) ?hoN3_12b23 (fun K hK' => ?stN3_12b23) AllReadyH.nil)
                            case hoN3_12b23 => (simp only [List.getElem?_toArray, List.getElem?_cons_succ, List.getElem?_cons_zero]; rfl)
                            case stN3_12b23 =>
                              go_simp
                              refine hK'.out _ _ trivial (fun hHeld' => ?_)
                              clear hK' K hHeld
                              have hHeld := hHeld'
                              clear hHeld'
                              try simp only [Act.put]
                              try simp only [List.setIfInBounds_toArray, List.set_cons_zero, List.set_cons_succ]
                              have HTa := Lib.hid (HT.out.same ((Keeps.refl [] U10).alloc (.cells (rwc [vT s σ, vT s (sT s σ), vB s (sT s (sT s σ)), vT s (sB s (sT s (sT s σ))), vB s (sT s (sB s (sT s (sT s σ)))), vB s (sB s (sT s (sB s (sT s (sT s σ))))), vB s (sB s (sB s (sT s (sB s (sT s (sT s σ)))))), vB s (sB s (sB s (sB s (sT s (sB s (sT s (sT s σ))))))), vT s (sB s (sB s (sB s (sB s (sT s (sB s (sT s (sT s σ)))))))), vB s (sT s (sB s (sB s (sB s (sB s (sT s (sB s (sT s (sT s σ)))))))))]).toArray 54)))
                              have hTa := HTa.out
                              have hlo := hTa.low
                              have hx := hxl
                              refine wpAnyH_ready (rs := [24]) (by kernel_rfl) (by simp) ?_
                              refine' (AllReadyH.cons (o := _) ?hoN3_12c24 (fun K hK' => ?stN3_12c24) AllReadyH.nil)
                              case hoN3_12c24 => (simp only [List.getElem?_toArray, List.getElem?_cons_succ, List.getElem?_cons_zero]; rfl)
                              case stN3_12c24 =>
                                rw [if_pos (by rfl)]
                                refine wp_append_any _ (.tmp 64) (.tmp 86) 26 rfl W.heap.size 54 i0 _ 10 80 Try.underlying26 HI.out.1 HI.out.2.1 HI.out.2.2.1 HI.out.2.2.2 rfl (by decide) (.slice a3 X3.length c3) X3.length (rwf X3) rfl hTa.o3 _ (some ⟨U10.heap.size, 0, none⟩) 1 1 (rwc [vT s σ, vT s (sT s σ), vB s (sT s (sT s σ)), vT s (sB s (sT s (sT s σ))), vB s (sT s (sB s (sT s (sT s σ)))), vB s (sB s (sT s (sB s (sT s (sT s σ))))), vB s (sB s (sB s (sT s (sB s (sT s (sT s σ)))))), vB s (sB s (sB s (sB s (sT s (sB s (sT s (sT s σ))))))), vT s (sB s (sB s (sB s (sB s (sT s (sB s (sT s (sT s σ)))))))), vB s (sT s (sB s (sB s (sB s (sB s (sT s (sB s (sT s (sT s σ)))))))))]) rfl (tc_own (B := 0) U10 rfl) (rwc_cell _) (by simp only [maxLen]; omega) (by omega) hlo.1 ?_
                                intro v1 V1 own1 g1 at1
                                obtain ⟨p1, cc1, rfl⟩ := own_form own1
                                refine hK'.out _ _ trivial (fun hHeld' => ?_)
                                clear hK' K hHeld
                                have hHeld := hHeld'
                                clear hHeld'
                                try simp only [Act.put]
                                try simp only [List.setIfInBounds_toArray, List.set_cons_zero, List.set_cons_succ]
                                have hbk1 := hTa.bk.grown g1 (fun e => own_blk_ne hTa.o3 hTa.bk (by decide) e.symm)
                                have qc : V1.cell? ⟨bc, 3, none⟩ = some (.slice a3 X3.length c3) := hbk1.cell 3
                                have qf := hbk1.frozen
                                have HN := Lib.hid (hTa.grow3 (r := [vT s σ, vT s (sT s σ), vB s (sT s (sT s σ)), vT s (sB s (sT s (sT s σ))), vB s (sT s (sB s (sT s (sT s σ)))), vB s (sB s (sT s (sB s (sT s (sT s σ))))), vB s (sB s (sB s (sT s (sB s (sT s (sT s σ)))))), vB s (sB s (sB s (sB s (sT s (sB s (sT s (sT s σ))))))), vT s (sB s (sB s (sB s (sB s (sT s (sB s (sT s (sT s σ)))))))), vB s (sT s (sB s (sB s (sB s (sB s (sT s (sB s (sT s (sT s σ)))))))))]) rfl own1 g1)
                                clear own1 g1 at1 hbk1 hTa hlo hx HT HTa
                                refine' wpAnyH_take (i := 25) (oi := _) (v := _) ?hN3_12d25 (by kernel_rfl) (by kernel_rfl) (by kernel_rfl) ?hQN3_12d25 (Or.inl ⟨?hwN3_12d25, ?hyN3_12d25⟩) hHeld ?restN3_12d25
                                case hN3_12d25 => (simp only [List.getElem?_toArray, List.getElem?_cons_succ, List.getElem?_cons_zero]; rfl)
                                case hQN3_12d25 => exact fun _ _ _ h => h
                                case hwN3_12d25 => rfl
                                case hyN3_12d25 => (intro w hSw; (try dsimp only at hSw); go_simp; try with_reducible rfl)
                                try simp only [Act.put, List.setIfInBounds_toArray, List.set_cons_zero, List.set_cons_succ]
                                refine wpAnyH_ready (rs := [26]) (by kernel_rfl) (by simp) ?_
                                refine' (AllReadyH.cons (o := _) ?hoN3_12e26 (fun K hK' => ?stN3_12e26) AllReadyH.nil)
                                case hoN3_12e26 => (simp only [List.getElem?_toArray, List.getElem?_cons_succ, List.getElem?_cons_zero]; rfl)
                                case stN3_12e26 =>
                                  go_simp
                                  refine hK'.out _ _ trivial (fun hHeld' => ?_)
                                  clear hK' K hHeld
                                  have hHeld := hHeld'
                                  clear hHeld'
                                  try simp only [Act.put]
                                  try simp only [List.setIfInBounds_toArray, List.set_cons_zero, List.set_cons_succ]
                                  refine wpAnyH_done (by kernel_rfl) ?_ _
                                  clear hHeld qc qf
                                  go_wp2
                                  go_step3
                                  exact Or.inr (Or.inr ⟨rfl, ⟨_, _, _, _, _, _, _, _, _, _, _, _, _, _, rfl, rfl, rfl, rfl, rfl, rfl, HPN.out, HN.out⟩, by show (n - 1).toNat < n.toNat; omega⟩)
      case stN3_13 =>
        go_simp
        refine (twoR HT.out hm).mono ?_
        rintro e U1 ⟨rfl, hT, hz⟩
        clear HT
        have HT := Lib.hid hT
        clear hT hz
        try go_wp2_with fail
        refine hK'.out _ _ trivial (fun hHeld' => ?_)
        clear hK' K hHeld
        have hHeld := hHeld'
        clear hHeld'
        try simp only [Act.put]
        try simp only [List.setIfInBounds_toArray, List.set_cons_zero, List.set_cons_succ]
        refine wpAnyH_ready (rs := [1, 5]) (by kernel_rfl) (by simp) ?_
        refine' (AllReadyH.cons (o := _) ?hoN3_131 (fun K hK' => ?stN3_131) (AllReadyH.cons (o := _) ?hoN3_135 (fun K hK' => ?stN3_135) AllReadyH.nil))
        case hoN3_131 => (simp only [List.getElem?_toArray, List.getElem?_cons_succ, List.getElem?_cons_zero]; rfl)
        case hoN3_135 => (simp only [List.getElem?_toArray, List.getElem?_cons_succ, List.getElem?_cons_zero]; rfl)
        case stN3_131 =>
          have qc := HT.out.bk.cell 3
          simp only [List.getElem?_toArray, List.getElem?_cons_succ, List.getElem?_cons_zero] at qc
          go_simp
          refine hK'.out _ _ trivial (fun hHeld' => ?_)
          clear hK' K hHeld
          have hHeld := hHeld'
          clear hHeld'
          try simp only [Act.put]
          try simp only [List.setIfInBounds_toArray, List.set_cons_zero, List.set_cons_succ]
          clear qc
          refine wpAnyH_ready (rs := [5]) (by kernel_rfl) (by simp) ?_
          refine' (AllReadyH.cons (o := _) ?hoN3_145 (fun K hK' => ?stN3_145) AllReadyH.nil)
          case hoN3_145 => (simp only [List.getElem?_toArray, List.getElem?_cons_succ, List.getElem?_cons_zero]; rfl)
          case stN3_145 =>
            go_simp
            refine (twoR HT.out hm).mono ?_
            rintro e U2 ⟨rfl, hT, hz⟩
            clear HT
            have HT := Lib.hid hT
            clear hT hz
            try go_wp2_with fail
            refine hK'.out _ _ trivial (fun hHeld' => ?_)
            clear hK' K hHeld
            have hHeld := hHeld'
            clear hHeld'
            try simp only [Act.put]
            try simp only [List.setIfInBounds_toArray, List.set_cons_zero, List.set_cons_succ]
            refine wpAnyH_ready (rs := [7]) (by kernel_rfl) (by simp) ?_
            refine' (AllReadyH.cons (o := _) ?hoN3_157 (fun K hK' => ?stN3_157) AllReadyH.nil)
            case hoN3_157 => (simp only [List.getElem?_toArray, List.getElem?_cons_succ, List.getElem?_cons_zero]; rfl)
            case stN3_157 =>
              go_simp
              refine (byteR HT.out hm).mono ?_
              rintro e U3 ⟨rfl, hT, hz⟩
              clear HT
              have HT := Lib.hid hT
              clear hT hz
              try go_wp2_with fail
              refine hK'.out _ _ trivial (fun hHeld' => ?_)
              clear hK' K hHeld
              have hHeld := hHeld'
              clear hHeld'
              try simp only [Act.put]
              try simp only [List.setIfInBounds_toArray, List.set_cons_zero, List.set_cons_succ]
              refine wpAnyH_ready (rs := [9]) (by kernel_rfl) (by simp) ?_
              refine' (AllReadyH.cons (o := _) ?hoN3_169 (fun K hK' => ?stN3_169) AllReadyH.nil)
              case hoN3_169 => (simp only [List.getElem?_toArray, List.getElem?_cons_succ, List.getElem?_cons_zero]; rfl)
              case stN3_169 =>
                go_simp
                refine (twoR HT.out hm).mono ?_
                rintro e U4 ⟨rfl, hT, hz⟩
                clear HT
                have HT := Lib.hid hT
                clear hT hz
                try go_wp2_with fail
                refine hK'.out _ _ trivial (fun hHeld' => ?_)
                clear hK' K hHeld
                have hHeld := hHeld'
                clear hHeld'
                try simp only [Act.put]
                try simp only [List.setIfInBounds_toArray, List.set_cons_zero, List.set_cons_succ]
                refine wpAnyH_ready (rs := [11]) (by kernel_rfl) (by simp) ?_
                refine' (AllReadyH.cons (o := _) ?hoN3_1711 (fun K hK' => ?stN3_1711) AllReadyH.nil)
                case hoN3_1711 => (simp only [List.getElem?_toArray, List.getElem?_cons_succ, List.getElem?_cons_zero]; rfl)
                case stN3_1711 =>
                  go_simp
                  refine (byteR HT.out hm).mono ?_
                  rintro e U5 ⟨rfl, hT, hz⟩
                  clear HT
                  have HT := Lib.hid hT
                  clear hT hz
                  try go_wp2_with fail
                  refine hK'.out _ _ trivial (fun hHeld' => ?_)
                  clear hK' K hHeld
                  have hHeld := hHeld'
                  clear hHeld'
                  try simp only [Act.put]
                  try simp only [List.setIfInBounds_toArray, List.set_cons_zero, List.set_cons_succ]
                  refine wpAnyH_ready (rs := [13]) (by kernel_rfl) (by simp) ?_
                  refine' (AllReadyH.cons (o := _) ?hoN3_1813 (fun K hK' => ?stN3_1813) AllReadyH.nil)
                  case hoN3_1813 => (simp only [List.getElem?_toArray, List.getElem?_cons_succ, List.getElem?_cons_zero]; rfl)
                  case stN3_1813 =>
                    go_simp
                    refine (byteR HT.out hm).mono ?_
                    rintro e U6 ⟨rfl, hT, hz⟩
                    clear HT
                    have HT := Lib.hid hT
                    clear hT hz
                    try go_wp2_with fail
                    refine hK'.out _ _ trivial (fun hHeld' => ?_)
                    clear hK' K hHeld
                    have hHeld := hHeld'
                    clear hHeld'
                    try simp only [Act.put]
                    try simp only [List.setIfInBounds_toArray, List.set_cons_zero, List.set_cons_succ]
                    refine wpAnyH_ready (rs := [15]) (by kernel_rfl) (by simp) ?_
                    refine' (AllReadyH.cons (o := _) ?hoN3_1915 (fun K hK' => ?stN3_1915) AllReadyH.nil)
                    case hoN3_1915 => (simp only [List.getElem?_toArray, List.getElem?_cons_succ, List.getElem?_cons_zero]; rfl)
                    case stN3_1915 =>
                      go_simp
                      refine (byteR HT.out hm).mono ?_
                      rintro e U7 ⟨rfl, hT, hz⟩
                      clear HT
                      have HT := Lib.hid hT
                      clear hT hz
                      try go_wp2_with fail
                      refine hK'.out _ _ trivial (fun hHeld' => ?_)
                      clear hK' K hHeld
                      have hHeld := hHeld'
                      clear hHeld'
                      try simp only [Act.put]
                      try simp only [List.setIfInBounds_toArray, List.set_cons_zero, List.set_cons_succ]
                      refine wpAnyH_ready (rs := [17]) (by kernel_rfl) (by simp) ?_
                      refine' (AllReadyH.cons (o := _) ?hoN3_2017 (fun K hK' => ?stN3_2017) AllReadyH.nil)
                      case hoN3_2017 => (simp only [List.getElem?_toArray, List.getElem?_cons_succ, List.getElem?_cons_zero]; rfl)
                      case stN3_2017 =>
                        go_simp
                        refine (byteR HT.out hm).mono ?_
                        rintro e U8 ⟨rfl, hT, hz⟩
                        clear HT
                        have HT := Lib.hid hT
                        clear hT hz
                        try go_wp2_with fail
                        refine hK'.out _ _ trivial (fun hHeld' => ?_)
                        clear hK' K hHeld
                        have hHeld := hHeld'
                        clear hHeld'
                        try simp only [Act.put]
                        try simp only [List.setIfInBounds_toArray, List.set_cons_zero, List.set_cons_succ]
                        refine wpAnyH_ready (rs := [19]) (by kernel_rfl) (by simp) ?_
                        refine' (AllReadyH.cons (o := _) ?hoN3_2119 (fun K hK' => ?stN3_2119) AllReadyH.nil)
                        case hoN3_2119 => (simp only [List.getElem?_toArray, List.getElem?_cons_succ, List.getElem?_cons_zero]; rfl)
                        case stN3_2119 =>
                          go_simp
                          refine (twoR HT.out hm).mono ?_
                          rintro e U9 ⟨rfl, hT, hz⟩
                          clear HT
                          have HT := Lib.hid hT
                          clear hT hz
                          try go_wp2_with fail
                          refine hK'.out _ _ trivial (fun hHeld' => ?_)
                          clear hK' K hHeld
                          have hHeld := hHeld'
                          clear hHeld'
                          try simp only [Act.put]
                          try simp only [List.setIfInBounds_toArray, List.set_cons_zero, List.set_cons_succ]
                          refine wpAnyH_ready (rs := [21]) (by kernel_rfl) (by simp) ?_
                          refine' (AllReadyH.cons (o := _) ?hoN3_2221 (fun K hK' => ?stN3_2221) AllReadyH.nil)
                          case hoN3_2221 => (simp only [List.getElem?_toArray, List.getElem?_cons_succ, List.getElem?_cons_zero]; rfl)
                          case stN3_2221 =>
                            go_simp
                            refine (byteR HT.out hm).mono ?_
                            rintro e U10 ⟨rfl, hT, hz⟩
                            clear HT
                            have HT := Lib.hid hT
                            clear hT hz
                            try go_wp2_with fail
                            refine hK'.out _ _ trivial (fun hHeld' => ?_)
                            clear hK' K hHeld
                            have hHeld := hHeld'
                            clear hHeld'
                            try simp only [Act.put]
                            try simp only [List.setIfInBounds_toArray, List.set_cons_zero, List.set_cons_succ]
                            refine' wpAnyH_take (i := 22) (oi := _) (v := _) ?hN3_2322 (by kernel_rfl) (by kernel_rfl) (by kernel_rfl) ?hQN3_2322 (Or.inl ⟨?hwN3_2322, ?hyN3_2322⟩) hHeld ?restN3_2322
                            case hN3_2322 => (simp only [List.getElem?_toArray, List.getElem?_cons_succ, List.getElem?_cons_zero]; rfl)
                            case hQN3_2322 => exact fun _ _ _ h => h
                            case hwN3_2322 => rfl
                            case hyN3_2322 => (intro w hSw; (try dsimp only at hSw); go_simp; try with_reducible rfl)
                            try simp only [Act.put, List.setIfInBounds_toArray, List.set_cons_zero, List.set_cons_succ]
                            refine wpAnyH_ready (rs := [23]) (by kernel_rfl) (by simp) ?_
                            refine' (AllReadyH.cons (o := _) ?hoN3_23b23 (fun K hK' => ?stN3_23b23) AllReadyH.nil)
                            case hoN3_23b23 => (simp only [List.getElem?_toArray, List.getElem?_cons_succ, List.getElem?_cons_zero]; rfl)
                            case stN3_23b23 =>
                              go_simp
                              refine hK'.out _ _ trivial (fun hHeld' => ?_)
                              clear hK' K hHeld
                              have hHeld := hHeld'
                              clear hHeld'
                              try simp only [Act.put]
                              try simp only [List.setIfInBounds_toArray, List.set_cons_zero, List.set_cons_succ]
                              have HTa := Lib.hid (HT.out.same ((Keeps.refl [] U10).alloc (.cells (rwc [vT s σ, vT s (sT s σ), vB s (sT s (sT s σ)), vT s (sB s (sT s (sT s σ))), vB s (sT s (sB s (sT s (sT s σ)))), vB s (sB s (sT s (sB s (sT s (sT s σ))))), vB s (sB s (sB s (sT s (sB s (sT s (sT s σ)))))), vB s (sB s (sB s (sB s (sT s (sB s (sT s (sT s σ))))))), vT s (sB s (sB s (sB s (sB s (sT s (sB s (sT s (sT s σ)))))))), vB s (sT s (sB s (sB s (sB s (sB s (sT s (sB s (sT s (sT s σ)))))))))]).toArray 54)))
                              have hTa := HTa.out
                              have hlo := hTa.low
                              have hx := hxl
                              refine wpAnyH_ready (rs := [24]) (by kernel_rfl) (by simp) ?_
                              refine' (AllReadyH.cons (o := _) ?hoN3_23c24 (fun K hK' => ?stN3_23c24) AllReadyH.nil)
                              case hoN3_23c24 => (simp only [List.getElem?_toArray, List.getElem?_cons_succ, List.getElem?_cons_zero]; rfl)
                              case stN3_23c24 =>
                                rw [if_pos (by rfl)]
                                refine wp_append_any _ (.tmp 64) (.tmp 86) 26 rfl W.heap.size 54 i0 _ 10 80 Try.underlying26 HI.out.1 HI.out.2.1 HI.out.2.2.1 HI.out.2.2.2 rfl (by decide) (.slice a3 X3.length c3) X3.length (rwf X3) rfl hTa.o3 _ (some ⟨U10.heap.size, 0, none⟩) 1 1 (rwc [vT s σ, vT s (sT s σ), vB s (sT s (sT s σ)), vT s (sB s (sT s (sT s σ))), vB s (sT s (sB s (sT s (sT s σ)))), vB s (sB s (sT s (sB s (sT s (sT s σ))))), vB s (sB s (sB s (sT s (sB s (sT s (sT s σ)))))), vB s (sB s (sB s (sB s (sT s (sB s (sT s (sT s σ))))))), vT s (sB s (sB s (sB s (sB s (sT s (sB s (sT s (sT s σ)))))))), vB s (sT s (sB s (sB s (sB s (sB s (sT s (sB s (sT s (sT s σ)))))))))]) rfl (tc_own (B := 0) U10 rfl) (rwc_cell _) (by simp only [maxLen]; omega) (by omega) hlo.1 ?_
                                intro v1 V1 own1 g1 at1
                                obtain ⟨p1, cc1, rfl⟩ := own_form own1
                                refine hK'.out _ _ trivial (fun hHeld' => ?_)
                                clear hK' K hHeld
                                have hHeld := hHeld'
                                clear hHeld'
                                try simp only [Act.put]
                                try simp only [List.setIfInBounds_toArray, List.set_cons_zero, List.set_cons_succ]
                                have hbk1 := hTa.bk.grown g1 (fun e => own_blk_ne hTa.o3 hTa.bk (by decide) e.symm)
                                have qc : V1.cell? ⟨bc, 3, none⟩ = some (.slice a3 X3.length c3) := hbk1.cell 3
                                have qf := hbk1.frozen
                                have HN := Lib.hid (hTa.grow3 (r := [vT s σ, vT s (sT s σ), vB s (sT s (sT s σ)), vT s (sB s (sT s (sT s σ))), vB s (sT s (sB s (sT s (sT s σ)))), vB s (sB s (sT s (sB s (sT s (sT s σ))))), vB s (sB s (sB s (sT s (sB s (sT s (sT s σ)))))), vB s (sB s (sB s (sB s (sT s (sB s (sT s (sT s σ))))))), vT s (sB s (sB s (sB s (sB s (sT s (sB s (sT s (sT s σ)))))))), vB s (sT s (sB s (sB s (sB s (sB s (sT s (sB s (sT s (sT s σ)))))))))]) rfl own1 g1)
                                clear own1 g1 at1 hbk1 hTa hlo hx HT HTa
                                refine' wpAnyH_take (i := 25) (oi := _) (v := _) ?hN3_23d25 (by kernel_rfl) (by kernel_rfl) (by kernel_rfl) ?hQN3_23d25 (Or.inl ⟨?hwN3_23d25, ?hyN3_23d25⟩) hHeld ?restN3_23d25
                                case hN3_23d25 => (simp only [List.getElem?_toArray, List.getElem?_cons_succ, List.getElem?_cons_zero]; rfl)
                                case hQN3_23d25 => exact fun _ _ _ h => h
                                case hwN3_23d25 => rfl
                                case hyN3_23d25 => (intro w hSw; (try dsimp only at hSw); go_simp; try with_reducible rfl)
                                try simp only [Act.put, List.setIfInBounds_toArray, List.set_cons_zero, List.set_cons_succ]
                                refine wpAnyH_ready (rs := [26]) (by kernel_rfl) (by simp) ?_
                                refine' (AllReadyH.cons (o := _) ?hoN3_23e26 (fun K hK' => ?stN3_23e26) AllReadyH.nil)
                                case hoN3_23e26 => (simp only [List.getElem?_toArray, List.getElem?_cons_succ, List.getElem?_cons_zero]; rfl)
                                case stN3_23e26 =>
                                  go_simp
                                  refine hK'.out _ _ trivial (fun hHeld' => ?_)
                                  clear hK' K hHeld
                                  have hHeld := hHeld'
                                  clear hHeld'
                                  try simp only [Act.put]
                                  try simp only [List.setIfInBounds_toArray, List.set_cons_zero, List.set_cons_succ]
                                  refine wpAnyH_done (by kernel_rfl) ?_ _
                                  clear hHeld qc qf
                                  go_wp2
                                  go_step3
                                  exact Or.inr (Or.inr ⟨rfl, ⟨_, _, _, _, _, _, _, _, _, _, _, _, _, _, rfl, rfl, rfl, rfl, rfl, rfl, HPN.out, HN.out⟩, by show (n - 1).toNat < n.toNat; omega⟩)
        case stN3_135 =>
          go_simp
          refine (twoR HT.out hm).mono ?_
          rintro e U2 ⟨rfl, hT, hz⟩
          clear HT
          have HT := Lib.hid hT
          clear hT hz
          try go_wp2_with fail
          refine hK'.out _ _ trivial (fun hHeld' => ?_)
          clear hK' K hHeld
          have hHeld := hHeld'
          clear hHeld'
          try simp only [Act.put]
          try simp only [List.setIfInBounds_toArray, List.set_cons_zero, List.set_cons_succ]
          refine wpAnyH_ready (rs := [1, 7]) (by kernel_rfl) (by simp) ?_
          refine' (AllReadyH.cons (o := _) ?hoN3_241 (fun K hK' => ?stN3_241) (AllReadyH.cons (o := _) ?hoN3_247 (fun K hK' => ?stN3_247) AllReadyH.nil))
          case hoN3_241 => (simp only [List.getElem?_toArray, List.getElem?_cons_succ, List.getElem?_cons_zero]; rfl)
          case hoN3_247 => (simp only [List.getElem?_toArray, List.getElem?_cons_succ, List.getElem?_cons_zero]; rfl)
          case stN3_241 =>
            have qc := HT.out.bk.cell 3
            simp only [List.getElem?_toArray, List.getElem?_cons_succ, List.getElem?_cons_zero] at qc
            go_simp
            refine hK'.out _ _ trivial (fun hHeld' => ?_)
            clear hK' K hHeld
            have hHeld := hHeld'
            clear hHeld'
            try simp only [Act.put]
            try simp only [List.setIfInBounds_toArray, List.set_cons_zero, List.set_cons_succ]
            clear qc
            refine wpAnyH_ready (rs := [7]) (by kernel_rfl) (by simp) ?_
            refine' (AllReadyH.cons (o := _) ?hoN3_257 (fun K hK' => ?stN3_257) AllReadyH.nil)
            case hoN3_257 => (simp only [List.getElem?_toArray, List.getElem?_cons_succ, List.getElem?_cons_zero]; rfl)
            case stN3_257 =>
              go_simp
              refine (byteR HT.out hm).mono ?_
              rintro e U3 ⟨rfl, hT, hz⟩
              clear HT
              have HT := Lib.hid hT
              clear hT hz
              try go_wp2_with fail
              refine hK'.out _ _ trivial (fun hHeld' => ?_)
              clear hK' K hHeld
              have hHeld := hHeld'
              clear hHeld'
              try simp only [Act.put]
              try simp only [List.setIfInBounds_toArray, List.set_cons_zero, List.set_cons_succ]
              refine wpAnyH_ready (rs := [9]) (by kernel_rfl) (by simp) ?_
              refine' (AllReadyH.cons (o := _) ?hoN3_269 (fun K hK' => ?stN3_269) AllReadyH.nil)
              case hoN3_269 => (simp only [List.getElem?_toArray, List.getElem?_cons_succ, List.getElem?_cons_zero]; rfl)
              case stN3_269 =>
                go_simp
                refine (twoR HT.out hm).mono ?_
                rintro e U4 ⟨rfl, hT, hz⟩
                clear HT
                have HT := Lib.hid hT
                clear hT hz
                try go_wp2_with fail
                refine hK'.out _ _ trivial (fun hHeld' => ?_)
                clear hK' K hHeld
                have hHeld := hHeld'
                clear hHeld'
                try simp only [Act.put]
                try simp only [List.setIfInBounds_toArray, List.set_cons_zero, List.set_cons_succ]
                refine wpAnyH_ready (rs := [11]) (by kernel_rfl) (by simp) ?_
                refine' (AllReadyH.cons (o := _) ?hoN3_2711 (fun K hK' => ?stN3_2711) AllReadyH.nil)
                case hoN3_2711 => (simp only [List.getElem?_toArray, List.getElem?_cons_succ, List.getElem?_cons_zero]; rfl)
                case stN3_2711 =>
                  go_simp
                  refine (byteR HT.out hm).mono ?_
                  rintro e U5 ⟨rfl, hT, hz⟩
                  clear HT
                  have HT := Lib.hid hT
                  clear hT hz
                  try go_wp2_with fail
                  refine hK'.out _ _ trivial (fun hHeld' => ?_)
                  clear hK' K hHeld
                  have hHeld := hHeld'
                  clear hHeld'
                  try simp only [Act.put]
                  try simp only [List.setIfInBounds_toArray, List.set_cons_zero, List.set_cons_succ]
                  refine wpAnyH_ready (rs := [13]) (by kernel_rfl) (by simp) ?_
                  refine' (AllReadyH.cons (o := _) ?hoN3_2813 (fun K hK' => ?stN3_2813) AllReadyH.nil)
                  case hoN3_2813 => (simp only [List.getElem?_toArray, List.getElem?_cons_succ, List.getElem?_cons_zero]; rfl)
                  case stN3_2813 =>
                    go_simp
                    refine (byteR HT.out hm).mono ?_
                    rintro e U6 ⟨rfl, hT, hz⟩
                    clear HT
                    have HT := Lib.hid hT
                    clear hT hz
                    try go_wp2_with fail
                    refine hK'.out _ _ trivial (fun hHeld' => ?_)
                    clear hK' K hHeld
                    have hHeld := hHeld'
                    clear hHeld'
                    try simp only [Act.put]
                    try simp only [List.setIfInBounds_toArray, List.set_cons_zero, List.set_cons_succ]
                    refine wpAnyH_ready (rs := [15]) (by kernel_rfl) (by simp) ?_
                    refine' (AllReadyH.cons (o := _) ?hoN3_2915 (fun K hK' => ?stN3_2915) AllReadyH.nil)
                    case hoN3_2915 => (simp only [List.getElem?_toArray, List.getElem?_cons_succ, List.getElem?_cons_zero]; rfl)
                    case stN3_2915 =>
                      go_simp
                      refine (byteR HT.out hm).mono ?_
                      rintro e U7 ⟨rfl, hT, hz⟩
                      clear HT
                      have HT := Lib.hid hT
                      clear hT hz
                      try go_wp2_with fail
                      refine hK'.out _ _ trivial (fun hHeld' => ?_)
                      clear hK' K hHeld
                      have hHeld := hHeld'
                      clear hHeld'
                      try simp only [Act.put]
                      try simp only [List.setIfInBounds_toArray, List.set_cons_zero, List.set_cons_succ]
                      refine wpAnyH_ready (rs := [17]) (by kernel_rfl) (by simp) ?_
                      refine' (AllReadyH.cons (o := _) ?hoN3_3017 (fun K hK' => ?stN3_3017) AllReadyH.nil)
                      case hoN3_3017 => (simp only [List.getElem?_toArray, List.getElem?_cons_succ, List.getElem?_cons_zero]; rfl)
                      case stN3_3017 =>
                        go_simp
                        refine (byteR HT.out hm).mono ?_
                        rintro e U8 ⟨rfl, hT, hz⟩
                        clear HT
                        have HT := Lib.hid hT
                        clear hT hz
                        try go_wp2_with fail
                        refine hK'.out _ _ trivial (fun hHeld' => ?_)
                        clear hK' K hHeld
                        have hHeld := hHeld'
                        clear hHeld'
                        try simp only [Act.put]
                        try simp only [List.setIfInBounds_toArray, List.set_cons_zero, List.set_cons_succ]
                        refine wpAnyH_ready (rs := [19]) (by kernel_rfl) (by simp) ?_
                        refine' (AllReadyH.cons (o := _) ?hoN3_3119 (fun K hK' => ?stN3_3119) AllReadyH.nil)
                        case hoN3_3119 => (simp only [List.getElem?_toArray, List.getElem?_cons_succ, List.getElem?_cons_zero]; rfl)
                        case stN3_3119 =>
                          go_simp
                          refine (twoR HT.out hm).mono ?_
                          rintro e U9 ⟨rfl, hT, hz⟩
                          clear HT
                          have HT := Lib.hid hT
                          clear hT hz
                          try go_wp2_with fail
                          refine hK'.out _ _ trivial (fun hHeld' => ?_)
                          clear hK' K hHeld
                          have hHeld := hHeld'
                          clear hHeld'
                          try simp only [Act.put]
                          try simp only [List.setIfInBounds_toArray, List.set_cons_zero, List.set_cons_succ]
                          refine wpAnyH_ready (rs := [21]) (by kernel_rfl) (by simp) ?_
                          refine' (AllReadyH.cons (o := _) ?hoN3_3221 (fun K hK' => ?stN3_3221) AllReadyH.nil)
                          case hoN3_3221 => (simp only [List.getElem?_toArray, List.getElem?_cons_succ, List.getElem?_cons_zero]; rfl)
                          case stN3_3221 =>
                            go_simp
                            refine (byteR HT.out hm).mono ?_
                            rintro e U10 ⟨rfl, hT, hz⟩
                            clear HT
                            have HT := Lib.hid hT
                            clear hT hz
                            try go_wp2_with fail
                            refine hK'.out _ _ trivial (fun hHeld' => ?_)
                            clear hK' K hHeld
                            have hHeld := hHeld'
                            clear hHeld'
                            try simp only [Act.put]
                            try simp only [List.setIfInBounds_toArray, List.set_cons_zero, List.set_cons_succ]
                            refine' wpAnyH_take (i := 22) (oi := _) (v := _) ?hN3_3322 (by kernel_rfl) (by kernel_rfl) (by kernel_rfl) ?hQN3_3322 (Or.inl ⟨?hwN3_3322, ?hyN3_3322⟩) hHeld ?restN3_3322
                            case hN3_3322 => (simp only [List.getElem?_toArray, List.getElem?_cons_succ, List.getElem?_cons_zero]; rfl)
                            case hQN3_3322 => exact fun _ _ _ h => h
                            case hwN3_3322 => rfl
                            case hyN3_3322 => (intro w hSw; (try dsimp only at hSw); go_simp; try with_reducible rfl)
                            try simp only [Act.put, List.setIfInBounds_toArray, List.set_cons_zero, List.set_cons_succ]
                            refine wpAnyH_ready (rs := [23]) (by kernel_rfl) (by simp) ?_
                            refine' (AllReadyH.cons (o := _) ?hoN3_33b23 (fun K hK' => ?stN3_33b23) AllReadyH.nil)
                            case hoN3_33b23 => (simp only [List.getElem?_toArray, List.getElem?_cons_succ, List.getElem?_cons_zero]; rfl)
                            case stN3_33b23 =>
                              go_simp
                              refine hK'.out _ _ trivial (fun hHeld' => ?_)
                              clear hK' K hHeld
                              have hHeld := hHeld'
                              clear hHeld'
                              try simp only [Act.put]
                              try simp only [List.setIfInBounds_toArray, List.set_cons_zero, List.set_cons_succ]
                              have HTa := Lib.hid (HT.out.same ((Keeps.refl [] U10).alloc (.cells (rwc [vT s σ, vT s (sT s σ), vB s (sT s (sT s σ)), vT s (sB s (sT s (sT s σ))), vB s (sT s (sB s (sT s (sT s σ)))), vB s (sB s (sT s (sB s (sT s (sT s σ))))), vB s (sB s (sB s (sT s (sB s (sT s (sT s σ)))))), vB s (sB s (sB s (sB s (sT s (sB s (sT s (sT s σ))))))), vT s (sB s (sB s (sB s (sB s (sT s (sB s (sT s (sT s σ)))))))), vB s (sT s (sB s (sB s (sB s (sB s (sT s (sB s (sT s (sT s σ)))))))))]).toArray 54)))
                              have hTa := HTa.out
                              have hlo := hTa.low
                              have hx := hxl
                              refine wpAnyH_ready (rs := [24]) (by kernel_rfl) (by simp) ?_
                              refine' (AllReadyH.cons (o := _) ?hoN3_33c24 (fun K hK' => ?stN3_33c24) AllReadyH.nil)
                              case hoN3_33c24 => (simp only [List.getElem?_toArray, List.getElem?_cons_succ, List.getElem?_cons_zero]; rfl)
                              case stN3_33c24 =>
                                rw [if_pos (by rfl)]
                                refine wp_append_any _ (.tmp 64) (.tmp 86) 26 rfl W.heap.size 54 i0 _ 10 80 Try.underlying26 HI.out.1 HI.out.2.1 HI.out.2.2.1 HI.out.2.2.2 rfl (by decide) (.slice a3 X3.length c3) X3.length (rwf X3) rfl hTa.o3 _ (some ⟨U10.heap.size, 0, none⟩) 1 1 (rwc [vT s σ, vT s (sT s σ), vB s (sT s (sT s σ)), vT s (sB s (sT s (sT s σ))), vB s (sT s (sB s (sT s (sT s σ)))), vB s (sB s (sT s (sB s (sT s (sT s σ))))), vB s (sB s (sB s (sT s (sB s (sT s (sT s σ)))))), vB s (sB s (sB s (sB s (sT s (sB s (sT s (sT s σ))))))), vT s (sB s (sB s (sB s (sB s (sT s (sB s (sT s (sT s σ)))))))), vB s (sT s (sB s (sB s (sB s (sB s (sT s (sB s (sT s (sT s σ)))))))))]) rfl (tc_own (B := 0) U10 rfl) (rwc_cell _) (by simp only [maxLen]; omega) (by omega) hlo.1 ?_
                                intro v1 V1 own1 g1 at1
                                obtain ⟨p1, cc1, rfl⟩ := own_form own1
                                refine hK'.out _ _ trivial (fun hHeld' => ?_)
                                clear hK' K hHeld
                                have hHeld := hHeld'
                                clear hHeld'
                                try simp only [Act.put]
                                try simp only [List.setIfInBounds_toArray, List.set_cons_zero, List.set_cons_succ]
                                have hbk1 := hTa.bk.grown g1 (fun e => own_blk_ne hTa.o3 hTa.bk (by decide) e.symm)
                                have qc : V1.cell? ⟨bc, 3, none⟩ = some (.slice a3 X3.length c3) := hbk1.cell 3
                                have qf := hbk1.frozen
                                have HN := Lib.hid (hTa.grow3 (r := [vT s σ, vT s (sT s σ), vB s (sT s (sT s σ)), vT s (sB s (sT s (sT s σ))), vB s (sT s (sB s (sT s (sT s σ)))), vB s (sB s (sT s (sB s (sT s (sT s σ))))), vB s (sB s (sB s (sT s (sB s (sT s (sT s σ)))))), vB s (sB s (sB s (sB s (sT s (sB s (sT s (sT s σ))))))), vT s (sB s (sB s (sB s (sB s (sT s (sB s (sT s (sT s σ)))))))), vB s (sT s (sB s (sB s (sB s (sB s (sT s (sB s (sT s (sT s σ)))))))))]) rfl own1 g1)
                                clear own1 g1 at1 hbk1 hTa hlo hx HT HTa
                                refine' wpAnyH_take (i := 25) (oi := _) (v := _) ?hN3_33d25 (by kernel_rfl) (by kernel_rfl) (by kernel_rfl) ?hQN3_33d25 (Or.inl ⟨?hwN3_33d25, ?hyN3_33d25⟩) hHeld ?restN3_33d25
                                case hN3_33d25 => (simp only [List.getElem?_toArray, List.getElem?_cons_succ, List.getElem?_cons_zero]; rfl)
                                case hQN3_33d25 => exact fun _ _ _ h => h
                                case hwN3_33d25 => rfl
                                case hyN3_33d25 => (intro w hSw; (try dsimp only at hSw); go_simp; try with_reducible rfl)
                                try simp only [Act.put, List.setIfInBounds_toArray, List.set_cons_zero, List.set_cons_succ]
                                refine wpAnyH_ready (rs := [26]) (by kernel_rfl) (by simp) ?_
                                refine' (AllReadyH.cons (o := _) ?hoN3_33e26 (fun K hK' => ?stN3_33e26) AllReadyH.nil)
                                case hoN3_33e26 => (simp only [List.getElem?_toArray, List.getElem?_cons_succ, List.getElem?_cons_zero]; rfl)
                                case stN3_33e26 =>
                                  go_simp
                                  refine hK'.out _ _ trivial (fun hHeld' => ?_)
                                  clear hK' K hHeld
                                  have hHeld := hHeld'
                                  clear hHeld'
                                  try simp only [Act.put]
                                  try simp only [List.setIfInBounds_toArray, List.set_cons_zero, List.set_cons_succ]
                                  refine wpAnyH_done (by kernel_rfl) ?_ _
                                  clear hHeld qc qf
                                  go_wp2
                                  go_step3
                                  exact Or.inr (Or.inr ⟨rfl, ⟨_, _, _, _, _, _, _, _, _, _, _, _, _, _, rfl, rfl, rfl, rfl, rfl, rfl, HPN.out, HN.out⟩, by show (n - 1).toNat < n.toNat; omega⟩)
          case stN3_247 =>
            go_simp
            refine (byteR HT.out hm).mono ?_
            rintro e U3 ⟨rfl, hT, hz⟩
            clear HT
            have HT := Lib.hid hT
            clear hT hz
            try go_wp2_with fail
            refine hK'.out _ _ trivial (fun hHeld' => ?_)
            clear hK' K hHeld
            have hHeld := hHeld'
            clear hHeld'
            try simp only [Act.put]
            try simp only [List.setIfInBounds_toArray, List.set_cons_zero, List.set_cons_succ]
            refine wpAnyH_ready (rs := [1, 9]) (by kernel_rfl) (by simp) ?_
            refine' (AllReadyH.cons (o := _) ?hoN3_341 (fun K hK' => ?stN3_341) (AllReadyH.cons (o := _) ?hoN3_349 (fun K hK' => ?stN3_349) AllReadyH.nil))
            case hoN3_341 => (simp only [List.getElem?_toArray, List.getElem?_cons_succ, List.getElem?_cons_zero]; rfl)
            case hoN3_349 => (simp only [List.getElem?_toArray, List.getElem?_cons_succ, List.getElem?_cons_zero]; rfl)
            case stN3_341 =>
              have qc := HT.out.bk.cell 3
              simp only [List.getElem?_toArray, List.getElem?_cons_succ, List.getElem?_cons_zero] at qc
              go_simp
              refine hK'.out _ _ trivial (fun hHeld' => ?_)
              clear hK' K hHeld
              have hHeld := hHeld'
              clear hHeld'
              try simp only [Act.put]
              try simp only [List.setIfInBounds_toArray, List.set_cons_zero, List.set_cons_succ]
              clear qc
              refine wpAnyH_ready (rs := [9]) (by kernel_rfl) (by simp) ?_
              refine' (AllReadyH.cons (o := _) ?hoN3_359 (fun K hK' => ?stN3_359) AllReadyH.nil)
              case hoN3_359 => (simp only [List.getElem?_toArray, List.getElem?_cons_succ, List.getElem?_cons_zero]; rfl)
              case stN3_359 =>
                go_simp
                refine (twoR HT.out hm).mono ?_
                rintro e U4 ⟨rfl, hT, hz⟩
                clear HT
                have HT := Lib.hid hT
                clear hT hz
                try go_wp2_with fail
                refine hK'.out _ _ trivial (fun hHeld' => ?_)
                clear hK' K hHeld
                have hHeld := hHeld'
                clear hHeld'
                try simp only [Act.put]
                try simp only [List.setIfInBounds_toArray, List.set_cons_zero, List.set_cons_succ]
                refine wpAnyH_ready (rs := [11]) (by kernel_rfl) (by simp) ?_
                refine' (AllReadyH.cons (o := _) ?hoN3_3611 (fun K hK' => ?stN3_3611) AllReadyH.nil)
                case hoN3_3611 => (simp only [List.getElem?_toArray, List.getElem?_cons_succ, List.getElem?_cons_zero]; rfl)
                case stN3_3611 =>
                  go_simp
                  refine (byteR HT.out hm).mono ?_
                  rintro e U5 ⟨rfl, hT, hz⟩
                  clear HT
                  have HT := Lib.hid hT
                  clear hT hz
                  try go_wp2_with fail
                  refine hK'.out _ _ trivial (fun hHeld' => ?_)
                  clear hK' K hHeld
                  have hHeld := hHeld'
                  clear hHeld'
                  try simp only [Act.put]
                  try simp only [List.setIfInBounds_toArray, List.set_cons_zero, List.set_cons_succ]
                  refine wpAnyH_ready (rs := [13]) (by kernel_rfl) (by simp) ?_
                  refine' (AllReadyH.cons (o := _) ?hoN3_3713 (fun K hK' => ?stN3_3713) AllReadyH.nil)
                  case hoN3_3713 => (simp only [List.getElem?_toArray, List.getElem?_cons_succ, List.getElem?_cons_zero]; rfl)
                  case stN3_3713 =>
                    go_simp
                    refine (byteR HT.out hm).mono ?_
                    rintro e U6 ⟨rfl, hT, hz⟩
                    clear HT
                    have HT := Lib.hid hT
                    clear hT hz
                    try go_wp2_with fail
                    refine hK'.out _ _ trivial (fun hHeld' => ?_)
                    clear hK' K hHeld
                    have hHeld := hHeld'
                    clear hHeld'
                    try simp only [Act.put]
                    try simp only [List.setIfInBounds_toArray, List.set_cons_zero, List.set_cons_succ]
                    refine wpAnyH_ready (rs := [15]) (by kernel_rfl) (by simp) ?_
                    refine' (AllReadyH.cons (o := _) ?hoN3_3815 (fun K hK' => ?stN3_3815) AllReadyH.nil)
                    case hoN3_3815 => (simp only [List.getElem?_toArray, List.getElem?_cons_succ, List.getElem?_cons_zero]; rfl)
                    case stN3_3815 =>
                      go_simp
                      refine (byteR HT.out hm).mono ?_
                      rintro e U7 ⟨rfl, hT, hz⟩
                      clear HT
                      have HT := Lib.hid hT
                      clear hT hz
                      try go_wp2_with fail
                      refine hK'.out _ _ trivial (fun hHeld' => ?_)
                      clear hK' K hHeld
                      have hHeld := hHeld'
                      clear hHeld'
                      try simp only [Act.put]
                      try simp only [List.setIfInBounds_toArray, List.set_cons_zero, List.set_cons_succ]
                      refine wpAnyH_ready (rs := [17]) (by kernel_rfl) (by simp) ?_
                      refine' (AllReadyH.cons (o := _) ?hoN3_3917 (fun K hK' => ?stN3_3917) AllReadyH.nil)
                      case hoN3_3917 => (simp only [List.getElem?_toArray, List.getElem?_cons_succ, List.getElem?_cons_zero]; rfl)
                      case stN3_3917 =>
                        go_simp
                        refine (byteR HT.out hm).mono ?_
                        rintro e U8 ⟨rfl, hT, hz⟩
                        clear HT
                        have HT := Lib.hid hT
                        clear hT hz
                        try go_wp2_with fail
                        refine hK'.out _ _ trivial (fun hHeld' => ?_)
                        clear hK' K hHeld
                        have hHeld := hHeld'
                        clear hHeld'
                        try simp only [Act.put]
                        try simp only [List.setIfInBounds_toArray, List.set_cons_zero, List.set_cons_succ]
                        refine wpAnyH_ready (rs := [19]) (by kernel_rfl) (by simp) ?_
                        refine' (AllReadyH.cons (o := _) ?hoN3_4019 (fun K hK' => ?stN3_4019) AllReadyH.nil)
                        case hoN3_4019 => (simp only [List.getElem?_toArray, List.getElem?_cons_succ, List.getElem?_cons_zero]; rfl)
                        case stN3_4019 =>
                          go_simp
                          refine (twoR HT.out hm).mono ?_
                          rintro e U9 ⟨rfl, hT, hz⟩
                          clear HT
                          have HT := Lib.hid hT
                          clear hT hz
                          try go_wp2_with fail
                          refine hK'.out _ _ trivial (fun hHeld' => ?_)
                          clear hK' K hHeld
                          have hHeld := hHeld'
                          clear hHeld'
                          try simp only [Act.put]
                          try simp only [List.setIfInBounds_toArray, List.set_cons_zero, List.set_cons_succ]
                          refine wpAnyH_ready (rs := [21]) (by kernel_rfl) (by simp) ?_
                          refine' (AllReadyH.cons (o := _) ?hoN3_4121 (fun K hK' => ?stN3_4121) AllReadyH.nil)
                          case hoN3_4121 => (simp only [List.getElem?_toArray, List.getElem?_cons_succ, List.getElem?_cons_zero]; rfl)
                          case stN3_4121 =>
                            go_simp
                            refine (byteR HT.out hm).mono ?_
                            rintro e U10 ⟨rfl, hT, hz⟩
                            clear HT
                            have HT := Lib.hid hT
                            clear hT hz
                            try go_wp2_with fail
                            refine hK'.out _ _ trivial (fun hHeld' => ?_)
                            clear hK' K hHeld
                            have hHeld := hHeld'
                            clear hHeld'
                            try simp only [Act.put]
                            try simp only [List.setIfInBounds_toArray, List.set_cons_zero, List.set_cons_succ]
                            refine' wpAnyH_take (i := 22) (oi := _) (v := _) ?hN3_4222 (by kernel_rfl) (by kernel_rfl) (by kernel_rfl) ?hQN3_4222 (Or.inl ⟨?hwN3_4222, ?hyN3_4222⟩) hHeld ?restN3_4222
                            case hN3_4222 => (simp only [List.getElem?_toArray, List.getElem?_cons_succ, List.getElem?_cons_zero]; rfl)
                            case hQN3_4222 => exact fun _ _ _ h => h
                            case hwN3_4222 => rfl
                            case hyN3_4222 => (intro w hSw; (try dsimp only at hSw); go_simp; try with_reducible rfl)
                            try simp only [Act.put, List.setIfInBounds_toArray, List.set_cons_zero, List.set_cons_succ]
                            refine wpAnyH_ready (rs := [23]) (by kernel_rfl) (by simp) ?_
                            refine' (AllReadyH.cons (o := _) ?hoN3_42b23 (fun K hK' => ?stN3_42b23) AllReadyH.nil)
                            case hoN3_42b23 => (simp only [List.getElem?_toArray, List.getElem?_cons_succ, List.getElem?_cons_zero]; rfl)
                            case stN3_42b23 =>
                              go_simp
                              refine hK'.out _ _ trivial (fun hHeld' => ?_)
                              clear hK' K hHeld
                              have hHeld := hHeld'
                              clear hHeld'
                              try simp only [Act.put]
                              try simp only [List.setIfInBounds_toArray, List.set_cons_zero, List.set_cons_succ]
                              have HTa := Lib.hid (HT.out.same ((Keeps.refl [] U10).alloc (.cells (rwc [vT s σ, vT s (sT s σ), vB s (sT s (sT s σ)), vT s (sB s (sT s (sT s σ))), vB s (sT s (sB s (sT s (sT s σ)))), vB s (sB s (sT s (sB s (sT s (sT s σ))))), vB s (sB s (sB s (sT s (sB s (sT s (sT s σ)))))), vB s (sB s (sB s (sB s (sT s (sB s (sT s (sT s σ))))))), vT s (sB s (sB s (sB s (sB s (sT s (sB s (sT s (sT s σ)))))))), vB s (sT s (sB s (sB s (sB s (sB s (sT s (sB s (sT s (sT s σ)))))))))]).toArray 54)))
                              have hTa := HTa.out
                              have hlo := hTa.low
                              have hx := hxl
                              refine wpAnyH_ready (rs := [24]) (by kernel_rfl) (by simp) ?_
                              refine' (AllReadyH.cons (o := _) ?hoN3_42c24 (fun K hK' => ?stN3_42c24) AllReadyH.nil)
                              case hoN3_42c24 => (simp only [List.getElem?_toArray, List.getElem?_cons_succ, List.getElem?_cons_zero]; rfl)
                              case stN3_42c24 =>
                                rw [if_pos (by rfl)]
                                refine wp_append_any _ (.tmp 64) (.tmp 86) 26 rfl W.heap.size 54 i0 _ 10 80 Try.underlying26 HI.out.1 HI.out.2.1 HI.out.2.2.1 HI.out.2.2.2 rfl (by decide) (.slice a3 X3.length c3) X3.length (rwf X3) rfl hTa.o3 _ (some ⟨U10.heap.size, 0, none⟩) 1 1 (rwc [vT s σ, vT s (sT s σ), vB s (sT s (sT s σ)), vT s (sB s (sT s (sT s σ))), vB s (sT s (sB s (sT s (sT s σ)))), vB s (sB s (sT s (sB s (sT s (sT s σ))))), vB s (sB s (sB s (sT s (sB s (sT s (sT s σ)))))), vB s (sB s (sB s (sB s (sT s (sB s (sT s (sT s σ))))))), vT s (sB s (sB s (sB s (sB s (sT s (sB s (sT s (sT s σ)))))))), vB s (sT s (sB s (sB s (sB s (sB s (sT s (sB s (sT s (sT s σ)))))))))]) rfl (tc_own (B := 0) U10 rfl) (rwc_cell _) (by simp only [maxLen]; omega) (by omega) hlo.1 ?_
                                intro v1 V1 own1 g1 at1
                                obtain ⟨p1, cc1, rfl⟩ := own_form own1
                                refine hK'.out _ _ trivial (fun hHeld' => ?_)
                                clear hK' K hHeld
                                have hHeld := hHeld'
                                clear hHeld'
                                try simp only [Act.put]
                                try simp only [List.setIfInBounds_toArray, List.set_cons_zero, List.set_cons_succ]
                                have hbk1 := hTa.bk.grown g1 (fun e => own_blk_ne hTa.o3 hTa.bk (by decide) e.symm)
                                have qc : V1.cell? ⟨bc, 3, none⟩ = some (.slice a3 X3.length c3) := hbk1.cell 3
                                have qf := hbk1.frozen
                                have HN := Lib.hid (hTa.grow3 (r := [vT s σ, vT s (sT s σ), vB s (sT s (sT s σ)), vT s (sB s (sT s (sT s σ))), vB s (sT s (sB s (sT s (sT s σ)))), vB s (sB s (sT s (sB s (sT s (sT s σ))))), vB s (sB s (sB s (sT s (sB s (sT s (sT s σ)))))), vB s (sB s (sB s (sB s (sT s (sB s (sT s (sT s σ))))))), vT s (sB s (sB s (sB s (sB s (sT s (sB s (sT s (sT s σ)))))))), vB s (sT s (sB s (sB s (sB s (sB s (sT s (sB s (sT s (sT s σ)))))))))]) rfl own1 g1)
                                clear own1 g1 at1 hbk1 hTa hlo hx HT HTa
                                refine' wpAnyH_take (i := 25) (oi := _) (v := _) ?hN3_42d25 (by kernel_rfl) (by kernel_rfl) (by kernel_rfl) ?hQN3_42d25 (Or.inl ⟨?hwN3_42d25, ?hyN3_42d25⟩) hHeld ?restN3_42d25
                                case hN3_42d25 => (simp only [List.getElem?_toArray, List.getElem?_cons_succ, List.getElem?_cons_zero]; rfl)
                                case hQN3_42d25 => exact fun _ _ _ h => h
                                case hwN3_42d25 => rfl
                                case hyN3_42d25 => (intro w hSw; (try dsimp only at hSw); go_simp; try with_reducible rfl)
                                try simp only [Act.put, List.setIfInBounds_toArray, List.set_cons_zero, List.set_cons_succ]
                                refine wpAnyH_ready (rs := [26]) (by kernel_rfl) (by simp) ?_
                                refine' (AllReadyH.cons (o := _) ?hoN3_42e26 (fun K hK' => ?stN3_42e26) AllReadyH.nil)
                                case hoN3_42e26 => (simp only [List.getElem?_toArray, List.getElem?_cons_succ, List.getElem?_cons_zero]; rfl)
                                case stN3_42e26 =>
                                  go_simp
                                  refine hK'.out _ _ trivial (fun hHeld' => ?_)
                                  clear hK' K hHeld
                                  have hHeld := hHeld'
                                  clear hHeld'
                                  try simp only [Act.put]
                                  try simp only [List.setIfInBounds_toArray, List.set_cons_zero, List.set_cons_succ]
                                  refine wpAnyH_done (by kernel_rfl) ?_ _
                                  clear hHeld qc qf
                                  go_wp2
                                  go_step3
                                  exact Or.inr (Or.inr ⟨rfl, ⟨_, _, _, _, _, _, _, _, _, _, _, _, _, _, rfl, rfl, rfl, rfl, rfl, rfl, HPN.out, HN.out⟩, by show (n - 1).toNat < n.toNat; omega⟩)
            case stN3_349 =>
              go_simp
              refine (twoR HT.out hm).mono ?_
              rintro e U4 ⟨rfl, hT, hz⟩
              clear HT
              have HT := Lib.hid hT
              clear hT hz
              try go_wp2_with fail
              refine hK'.out _ _ trivial (fun hHeld' => ?_)
              clear hK' K hHeld
              have hHeld := hHeld'
              clear hHeld'
              try simp only [Act.put]
              try simp only [List.setIfInBounds_toArray, List.set_cons_zero, List.set_cons_succ]
              refine wpAnyH_ready (rs := [1, 11]) (by kernel_rfl) (by simp) ?_
              refine' (AllReadyH.cons (o := _) ?hoN3_431 (fun K hK' => ?stN3_431) (AllReadyH.cons (o := _) ?hoN3_4311 (fun K hK' => ?stN3_4311) AllReadyH.nil))
              case hoN3_431 => (simp only [List.getElem?_toArray, List.getElem?_cons_succ, List.getElem?_cons_zero]; rfl)
              case hoN3_4311 => (simp only [List.getElem?_toArray, List.getElem?_cons_succ, List.getElem?_cons_zero]; rfl)
              case stN3_431 =>
                have qc := HT.out.bk.cell 3
                simp only [List.getElem?_toArray, List.getElem?_cons_succ, List.getElem?_cons_zero] at qc
                go_simp
                refine hK'.out _ _ trivial (fun hHeld' => ?_)
                clear hK' K hHeld
                have hHeld := hHeld'
                clear hHeld'
                try simp only [Act.put]
                try simp only [List.setIfInBounds_toArray, List.set_cons_zero, List.set_cons_succ]
                clear qc
                refine wpAnyH_ready (rs := [11]) (by kernel_rfl) (by simp) ?_
                refine' (AllReadyH.cons (o := _) ?hoN3_4411 (fun K hK' => ?stN3_4411) AllReadyH.nil)
                case hoN3_4411 => (simp only [List.getElem?_toArray, List.getElem?_cons_succ, List.getElem?_cons_zero]; rfl)
                case stN3_4411 =>
                  go_simp
                  refine (byteR HT.out hm).mono ?_
                  rintro e U5 ⟨rfl, hT, hz⟩
                  clear HT
                  have HT := Lib.hid hT
                  clear hT hz
                  try go_wp2_with fail
                  refine hK'.out _ _ trivial (fun hHeld' => ?_)
                  clear hK' K hHeld
                  have hHeld := hHeld'
                  clear hHeld'
                  try simp only [Act.put]
                  try simp only [List.setIfInBounds_toArray, List.set_cons_zero, List.set_cons_succ]
                  refine wpAnyH_ready (rs := [13]) (by kernel_rfl) (by simp) ?_
                  refine' (AllReadyH.cons (o := _) ?hoN3_4513 (fun K hK' => ?stN3_4513) AllReadyH.nil)
                  case hoN3_4513 => (simp only [List.getElem?_toArray, List.getElem?_cons_succ, List.getElem?_cons_zero]; rfl)
                  case stN3_4513 =>
                    go_simp
                    refine (byteR HT.out hm).mono ?_
                    rintro e U6 ⟨rfl, hT, hz⟩
                    clear HT
                    have HT := Lib.hid hT
                    clear hT hz
                    try go_wp2_with fail
                    refine hK'.out _ _ trivial (fun hHeld' => ?_)
                    clear hK' K hHeld
                    have hHeld := hHeld'
                    clear hHeld'
                    try simp only [Act.put]
                    try simp only [List.setIfInBounds_toArray, List.set_cons_zero, List.set_cons_succ]
                    refine wpAnyH_ready (rs := [15]) (by kernel_rfl) (by simp) ?_
                    refine' (AllReadyH.cons (o := _) ?hoN3_4615 (fun K hK' => ?stN3_4615) AllReadyH.nil)
                    case hoN3_4615 => (simp only [List.getElem?_toArray, List.getElem?_cons_succ, List.getElem?_cons_zero]; rfl)
                    case stN3_4615 =>
                      go_simp
                      refine (byteR HT.out hm).mono ?_
                      rintro e U7 ⟨rfl, hT, hz⟩
                      clear HT
                      have HT := Lib.hid hT
                      clear hT hz
                      try go_wp2_with fail
                      refine hK'.out _ _ trivial (fun hHeld' => ?_)
                      clear hK' K hHeld
                      have hHeld := hHeld'
                      clear hHeld'
                      try simp only [Act.put]
                      try simp only [List.setIfInBounds_toArray, List.set_cons_zero, List.set_cons_succ]
                      refine wpAnyH_ready (rs := [17]) (by kernel_rfl) (by simp) ?_
                      refine' (AllReadyH.cons (o := _) ?hoN3_4717 (fun K hK' => ?stN3_4717) AllReadyH.nil)
                      case hoN3_4717 => (simp only [List.getElem?_toArray, List.getElem?_cons_succ, List.getElem?_cons_zero]; rfl)
                      case stN3_4717 =>
                        go_simp
                        refine (byteR HT.out hm).mono ?_
                        rintro e U8 ⟨rfl, hT, hz⟩
                        clear HT
                        have HT := Lib.hid hT
                        clear hT hz
                        try go_wp2_with fail
                        refine hK'.out _ _ trivial (fun hHeld' => ?_)
                        clear hK' K hHeld
                        have hHeld := hHeld'
                        clear hHeld'
                        try simp only [Act.put]
                        try simp only [List.setIfInBounds_toArray, List.set_cons_zero, List.set_cons_succ]
                        refine wpAnyH_ready (rs := [19]) (by kernel_rfl) (by simp) ?_
                        refine' (AllReadyH.cons (o := _) ?hoN3_4819 (fun K hK' => ?stN3_4819) AllReadyH.nil)
                        case hoN3_4819 => (simp only [List.getElem?_toArray, List.getElem?_cons_succ, List.getElem?_cons_zero]; rfl)
                        case stN3_4819 =>
                          go_simp
                          refine (twoR HT.out hm).mono ?_
                          rintro e U9 ⟨rfl, hT, hz⟩
                          clear HT
                          have HT := Lib.hid hT
                          clear hT hz
                          try go_wp2_with fail
                          refine hK'.out _ _ trivial (fun hHeld' => ?_)
                          clear hK' K hHeld
                          have hHeld := hHeld'
                          clear hHeld'
                          try simp only [Act.put]
                          try simp only [List.setIfInBounds_toArray, List.set_cons_zero, List.set_cons_succ]
                          refine wpAnyH_ready (rs := [21]) (by kernel_rfl) (by simp) ?_
                          refine' (AllReadyH.cons (o := _) ?hoN3_4921 (fun K hK' => ?stN3_4921) AllReadyH.nil)
                          case hoN3_4921 => (simp only [List.getElem?_toArray, List.getElem?_cons_succ, List.getElem?_cons_zero]; rfl)
                          case stN3_4921 =>
                            go_simp
                            refine (byteR HT.out hm).mono ?_
                            rintro e U10 ⟨rfl, hT, hz⟩
                            clear HT
                            have HT := Lib.hid hT
                            clear hT hz
                            try go_wp2_with fail
                            refine hK'.out _ _ trivial (fun hHeld' => ?_)
                            clear hK' K hHeld
                            have hHeld := hHeld'
                            clear hHeld'
                            try simp only [Act.put]
                            try simp only [List.setIfInBounds_toArray, List.set_cons_zero, List.set_cons_succ]
                            refine' wpAnyH_take (i := 22) (oi := _) (v := _) ?hN3_5022 (by kernel_rfl) (by kernel_rfl) (by kernel_rfl) ?hQN3_5022 (Or.inl ⟨?hwN3_5022, ?hyN3_5022⟩) hHeld ?restN3_5022
                            case hN3_5022 => (simp only [List.getElem?_toArray, List.getElem?_cons_succ, List.getElem?_cons_zero]; rfl)
                            case hQN3_5022 => exact fun _ _ _ h => h
                            case hwN3_5022 => rfl
                            case hyN3_5022 => (intro w hSw; (try dsimp only at hSw); go_simp; try with_reducible rfl)
                            try simp only [Act.put, List.setIfInBounds_toArray, List.set_cons_zero, List.set_cons_succ]
                            refine wpAnyH_ready (rs := [23]) (by kernel_rfl) (by simp) ?_
                            refine' (AllReadyH.cons (o := _) ?hoN3_50b23 (fun K hK' => ?stN3_50b23) AllReadyH.nil)
                            case hoN3_50b23 => (simp only [List.getElem?_toArray, List.getElem?_cons_succ, List.getElem?_cons_zero]; rfl)
                            case stN3_50b23 =>
                              go_simp
                              refine hK'.out _ _ trivial (fun hHeld' => ?_)
                              clear hK' K hHeld
                              have hHeld := hHeld'
                              clear hHeld'
                              try simp only [Act.put]
                              try simp only [List.setIfInBounds_toArray, List.set_cons_zero, List.set_cons_succ]
                              have HTa := Lib.hid (HT.out.same ((Keeps.refl [] U10).alloc (.cells (rwc [vT s σ, vT s (sT s σ), vB s (sT s (sT s σ)), vT s (sB s (sT s (sT s σ))), vB s (sT s (sB s (sT s (sT s σ)))), vB s (sB s (sT s (sB s (sT s (sT s σ))))), vB s (sB s (sB s (sT s (sB s (sT s (sT s σ)))))), vB s (sB s (sB s (sB s (sT s (sB s (sT s (sT s σ))))))), vT s (sB s (sB s (sB s (sB s (sT s (sB s (sT s (sT s σ)))))))), vB s (sT s (sB s (sB s (sB s (sB s (sT s (sB s (sT s (sT s σ)))))))))]).toArray 54)))
                              have hTa := HTa.out
                              have hlo := hTa.low
                              have hx := hxl
                              refine wpAnyH_ready (rs := [24]) (by kernel_rfl) (by simp) ?_
                              refine' (AllReadyH.cons (o := _) ?hoN3_50c24 (fun K hK' => ?stN3_50c24) AllReadyH.nil)
                              case hoN3_50c24 => (simp only [List.getElem?_toArray, List.getElem?_cons_succ, List.getElem?_cons_zero]; rfl)
                              case stN3_50c24 =>
                                rw [if_pos (by rfl)]
                                refine wp_append_any _ (.tmp 64) (.tmp 86) 26 rfl W.heap.size 54 i0 _ 10 80 Try.underlying26 HI.out.1 HI.out.2.1 HI.out.2.2.1 HI.out.2.2.2 rfl (by decide) (.slice a3 X3.length c3) X3.length (rwf X3) rfl hTa.o3 _ (some ⟨U10.heap.size, 0, none⟩) 1 1 (rwc [vT s σ, vT s (sT s σ), vB s (sT s (sT s σ)), vT s (sB s (sT s (sT s σ))), vB s (sT s (sB s (sT s (sT s σ)))), vB s (sB s (sT s (sB s (sT s (sT s σ))))), vB s (sB s (sB s (sT s (sB s (sT s (sT s σ)))))), vB s (sB s (sB s (sB s (sT s (sB s (sT s (sT s σ))))))), vT s (sB s (sB s (sB s (sB s (sT s (sB s (sT s (sT s σ)))))))), vB s (sT s (sB s (sB s (sB s (sB s (sT s (sB s (sT s (sT s σ)))))))))]) rfl (tc_own (B := 0) U10 rfl) (rwc_cell _) (by simp only [maxLen]; omega) (by omega) hlo.1 ?_
                                intro v1 V1 own1 g1 at1
                                obtain ⟨p1, cc1, rfl⟩ := own_form own1
                                refine hK'.out _ _ trivial (fun hHeld' => ?_)
                                clear hK' K hHeld
                                have hHeld := hHeld'
                                clear hHeld'
                                try simp only [Act.put]
                                try simp only [List.setIfInBounds_toArray, List.set_cons_zero, List.set_cons_succ]
                                have hbk1 := hTa.bk.grown g1 (fun e => own_blk_ne hTa.o3 hTa.bk (by decide) e.symm)
                                have qc : V1.cell? ⟨bc, 3, none⟩ = some (.slice a3 X3.length c3) := hbk1.cell 3
                                have qf := hbk1.frozen
                                have HN := Lib.hid (hTa.grow3 (r := [vT s σ, vT s (sT s σ), vB s (sT s (sT s σ)), vT s (sB s (sT s (sT s σ))), vB s (sT s (sB s (sT s (sT s σ)))), vB s (sB s (sT s (sB s (sT s (sT s σ))))), vB s (sB s (sB s (sT s (sB s (sT s (sT s σ)))))), vB s (sB s (sB s (sB s (sT s (sB s (sT s (sT s σ))))))), vT s (sB s (sB s (sB s (sB s (sT s (sB s (sT s (sT s σ)))))))), vB s (sT s (sB s (sB s (sB s (sB s (sT s (sB s (sT s (sT s σ)))))))))]) rfl own1 g1)
                                clear own1 g1 at1 hbk1 hTa hlo hx HT HTa
                                refine' wpAnyH_take (i := 25) (oi := _) (v := _) ?hN3_50d25 (by kernel_rfl) (by kernel_rfl) (by kernel_rfl) ?hQN3_50d25 (Or.inl ⟨?hwN3_50d25, ?hyN3_50d25⟩) hHeld ?restN3_50d25
                                case hN3_50d25 => (simp only [List.getElem?_toArray, List.getElem?_cons_succ, List.getElem?_cons_zero]; rfl)
                                case hQN3_50d25 => exact fun _ _ _ h => h
                                case hwN3_50d25 => rfl
                                case hyN3_50d25 => (intro w hSw; (try dsimp only at hSw); go_simp; try with_reducible rfl)
                                try simp only [Act.put, List.setIfInBounds_toArray, List.set_cons_zero, List.set_cons_succ]
                                refine wpAnyH_ready (rs := [26]) (by kernel_rfl) (by simp) ?_
                                refine' (AllReadyH.cons (o := _) ?hoN3_50e26 (fun K hK' => ?stN3_50e26) AllReadyH.nil)
                                case hoN3_50e26 => (simp only [List.getElem?_toArray, List.getElem?_cons_succ, List.getElem?_cons_zero]; rfl)
                                case stN3_50e26 =>
                                  go_simp
                                  refine hK'.out _ _ trivial (fun hHeld' => ?_)
                                  clear hK' K hHeld
                                  have hHeld := hHeld'
                                  clear hHeld'
                                  try simp only [Act.put]
                                  try simp only [List.setIfInBounds_toArray, List.set_cons_zero, List.set_cons_succ]
                                  refine wpAnyH_done (by kernel_rfl) ?_ _
                                  clear hHeld qc qf
                                  go_wp2
                                  go_step3
                                  exact Or.inr (Or.inr ⟨rfl, ⟨_, _, _, _, _, _, _, _, _, _, _, _, _, _, rfl, rfl, rfl, rfl, rfl, rfl, HPN.out, HN.out⟩, by show (n - 1).toNat < n.toNat; omega⟩)
              case stN3_4311 =>
                go_simp
                refine (byteR HT.out hm).mono ?_
                rintro e U5 ⟨rfl, hT, hz⟩
                clear HT
                have HT := Lib.hid hT
                clear hT hz
                try go_wp2_with fail
                refine hK'.out _ _ trivial (fun hHeld' => ?_)
                clear hK' K hHeld
                have hHeld := hHeld'
                clear hHeld'
                try simp only [Act.put]
                try simp only [List.setIfInBounds_toArray, List.set_cons_zero, List.set_cons_succ]
                refine wpAnyH_ready (rs := [1, 13]) (by kernel_rfl) (by simp) ?_
                refine' (AllReadyH.cons (o := _) ?hoN3_511 (fun K hK' => ?stN3_511) (AllReadyH.cons (o := _) ?hoN3_5113 (fun K hK' => ?stN3_5113) AllReadyH.nil))
                case hoN3_511 => (simp only [List.getElem?_toArray, List.getElem?_cons_succ, List.getElem?_cons_zero]; rfl)
                case hoN3_5113 => (simp only [List.getElem?_toArray, List.getElem?_cons_succ, List.getElem?_cons_zero]; rfl)
                case stN3_511 =>
                  have qc := HT.out.bk.cell 3
                  simp only [List.getElem?_toArray, List.getElem?_cons_succ, List.getElem?_cons_zero] at qc
                  go_simp
                  refine hK'.out _ _ trivial (fun hHeld' => ?_)
                  clear hK' K hHeld
                  have hHeld := hHeld'
                  clear hHeld'
                  try simp only [Act.put]
                  try simp only [List.setIfInBounds_toArray, List.set_cons_zero, List.set_cons_succ]
                  clear qc
                  refine wpAnyH_ready (rs := [13]) (by kernel_rfl) (by simp) ?_
                  refine' (AllReadyH.cons (o := _) ?hoN3_5213 (fun K hK' => ?stN3_5213) AllReadyH.nil)
                  case hoN3_5213 => (simp only [List.getElem?_toArray, List.getElem?_cons_succ, List.getElem?_cons_zero]; rfl)
                  case stN3_5213 =>
                    go_simp
                    refine (byteR HT.out hm).mono ?_
                    rintro e U6 ⟨rfl, hT, hz⟩
                    clear HT
                    have HT := Lib.hid hT
                    clear hT hz
                    try go_wp2_with fail
                    refine hK'.out _ _ trivial (fun hHeld' => ?_)
                    clear hK' K hHeld
                    have hHeld := hHeld'
                    clear hHeld'
                    try simp only [Act.put]
                    try simp only [List.setIfInBounds_toArray, List.set_cons_zero, List.set_cons_succ]
                    refine wpAnyH_ready (rs := [15]) (by kernel_rfl) (by simp) ?_
                    refine' (AllReadyH.cons (o := _) ?hoN3_5315 (fun K hK' => ?stN3_5315) AllReadyH.nil)
                    case hoN3_5315 => (simp only [List.getElem?_toArray, List.getElem?_cons_succ, List.getElem?_cons_zero]; rfl)
                    case stN3_5315 =>
                      go_simp
                      refine (byteR HT.out hm).mono ?_
                      rintro e U7 ⟨rfl, hT, hz⟩
                      clear HT
                      have HT := Lib.hid hT
                      clear hT hz
                      try go_wp2_with fail
                      refine hK'.out _ _ trivial (fun hHeld' => ?_)
                      clear hK' K hHeld
                      have hHeld := hHeld'
                      clear hHeld'
                      try simp only [Act.put]
                      try simp only [List.setIfInBounds_toArray, List.set_cons_zero, List.set_cons_succ]
                      refine wpAnyH_ready (rs := [17]) (by kernel_rfl) (by simp) ?_
                      refine' (AllReadyH.cons (o := _) ?hoN3_5417 (fun K hK' => ?stN3_5417) AllReadyH.nil)
                      case hoN3_5417 => (simp only [List.getElem?_toArray, List.getElem?_cons_succ, List.getElem?_cons_zero]; rfl)
                      case stN3_5417 =>
                        go_simp
                        refine (byteR HT.out hm).mono ?_
                        rintro e U8 ⟨rfl, hT, hz⟩
                        clear HT
                        have HT := Lib.hid hT
                        clear hT hz
                        try go_wp2_with fail
                        refine hK'.out _ _ trivial (fun hHeld' => ?_)
                        clear hK' K hHeld
                        have hHeld := hHeld'
                        clear hHeld'
                        try simp only [Act.put]
                        try simp only [List.setIfInBounds_toArray, List.set_cons_zero, List.set_cons_succ]
                        refine wpAnyH_ready (rs := [19]) (by kernel_rfl) (by simp) ?_
                        refine' (AllReadyH.cons (o := _) ?hoN3_5519 (fun K hK' => ?stN3_5519) AllReadyH.nil)
                        case hoN3_5519 => (simp only [List.getElem?_toArray, List.getElem?_cons_succ, List.getElem?_cons_zero]; rfl)
                        case stN3_5519 =>
                          go_simp
                          refine (twoR HT.out hm).mono ?_
                          rintro e U9 ⟨rfl, hT, hz⟩
                          clear HT
                          have HT := Lib.hid hT
                          clear hT hz
                          try go_wp2_with fail
                          refine hK'.out _ _ trivial (fun hHeld' => ?_)
                          clear hK' K hHeld
                          have hHeld := hHeld'
                          clear hHeld'
                          try simp only [Act.put]
                          try simp only [List.setIfInBounds_toArray, List.set_cons_zero, List.set_cons_succ]
                          refine wpAnyH_ready (rs := [21]) (by kernel_rfl) (by simp) ?_
                          refine' (AllReadyH.cons (o := _) ?hoN3_5621 (fun K hK' => ?stN3_5621) AllReadyH.nil)
                          case hoN3_5621 => (simp only [List.getElem?_toArray, List.getElem?_cons_succ, List.getElem?_cons_zero]; rfl)
                          case stN3_5621 =>
                            go_simp
                            refine (byteR HT.out hm).mono ?_
                            rintro e U10 ⟨rfl, hT, hz⟩
                            clear HT
                            have HT := Lib.hid hT
                            clear hT hz
                            try go_wp2_with fail
                            refine hK'.out _ _ trivial (fun hHeld' => ?_)
                            clear hK' K hHeld
                            have hHeld := hHeld'
                            clear hHeld'
                            try simp only [Act.put]
                            try simp only [List.setIfInBounds_toArray, List.set_cons_zero, List.set_cons_succ]
                            refine' wpAnyH_take (i := 22) (oi := _) (v := _) ?hN3_5722 (by kernel_rfl) (by kernel_rfl) (by kernel_rfl) ?hQN3_5722 (Or.inl ⟨?hwN3_5722, ?hyN3_5722⟩) hHeld ?restN3_5722
                            case hN3_5722 => (simp only [List.getElem?_toArray, List.getElem?_cons_succ, List.getElem?_cons_zero]; rfl)
                            case hQN3_5722 => exact fun _ _ _ h => h
                            case hwN3_5722 => rfl
                            case hyN3_5722 => (intro w hSw; (try dsimp only at hSw); go_simp; try with_reducible rfl)
                            try simp only [Act.put, List.setIfInBounds_toArray, List.set_cons_zero, List.set_cons_succ]
                            refine wpAnyH_ready (rs := [23]) (by kernel_rfl) (by simp) ?_
                            refine' (AllReadyH.cons (o := _) ?hoN3_57b23 (fun K hK' => ?stN3_57b23) AllReadyH.nil)
                            case hoN3_57b23 => (simp only [List.getElem?_toArray, List.getElem?_cons_succ, List.getElem?_cons_zero]; rfl)
                            case stN3_57b23 =>
                              go_simp
                              refine hK'.out _ _ trivial (fun hHeld' => ?_)
                              clear hK' K hHeld
                              have hHeld := hHeld'
                              clear hHeld'
                              try simp only [Act.put]
                              try simp only [List.setIfInBounds_toArray, List.set_cons_zero, List.set_cons_succ]
                              have HTa := Lib.hid (HT.out.same ((Keeps.refl [] U10).alloc (.cells (rwc [vT s σ, vT s (sT s σ), vB s (sT s (sT s σ)), vT s (sB s (sT s (sT s σ))), vB s (sT s (sB s (sT s (sT s σ)))), vB s (sB s (sT s (sB s (sT s (sT s σ))))), vB s (sB s (sB s (sT s (sB s (sT s (sT s σ)))))), vB s (sB s (sB s (sB s (sT s (sB s (sT s (sT s σ))))))), vT s (sB s (sB s (sB s (sB s (sT s (sB s (sT s (sT s σ)))))))), vB s (sT s (sB s (sB s (sB s (sB s (sT s (sB s (sT s (sT s σ)))))))))]).toArray 54)))
                              have hTa := HTa.out
                              have hlo := hTa.low
                              have hx := hxl
                              refine wpAnyH_ready (rs := [24]) (by kernel_rfl) (by simp) ?_
                              refine' (AllReadyH.cons (o := _) ?hoN3_57c24 (fun K hK' => ?stN3_57c24) AllReadyH.nil)
                              case hoN3_57c24 => (simp only [List.getElem?_toArray, List.getElem?_cons_succ, List.getElem?_cons_zero]; rfl)
                              case stN3_57c24 =>
                                rw [if_pos (by rfl)]
                                refine wp_append_any _ (.tmp 64) (.tmp 86) 26 rfl W.heap.size 54 i0 _ 10 80 Try.underlying26 HI.out.1 HI.out.2.1 HI.out.2.2.1 HI.out.2.2.2 rfl (by decide) (.slice a3 X3.length c3) X3.length (rwf X3) rfl hTa.o3 _ (some ⟨U10.heap.size, 0, none⟩) 1 1 (rwc [vT s σ, vT s (sT s σ), vB s (sT s (sT s σ)), vT s (sB s (sT s (sT s σ))), vB s (sT s (sB s (sT s (sT s σ)))), vB s (sB s (sT s (sB s (sT s (sT s σ))))), vB s (sB s (sB s (sT s (sB s (sT s (sT s σ)))))), vB s (sB s (sB s (sB s (sT s (sB s (sT s (sT s σ))))))), vT s (sB s (sB s (sB s (sB s (sT s (sB s (sT s (sT s σ)))))))), vB s (sT s (sB s (sB s (sB s (sB s (sT s (sB s (sT s (sT s σ)))))))))]) rfl (tc_own (B := 0) U10 rfl) (rwc_cell _) (by simp only [maxLen]; omega) (by omega) hlo.1 ?_
                                intro v1 V1 own1 g1 at1
                                obtain ⟨p1, cc1, rfl⟩ := own_form own1
                                refine hK'.out _ _ trivial (fun hHeld' => ?_)
                                clear hK' K hHeld
                                have hHeld := hHeld'
                                clear hHeld'
                                try simp only [Act.put]
                                try simp only [List.setIfInBounds_toArray, List.set_cons_zero, List.set_cons_succ]
                                have hbk1 := hTa.bk.grown g1 (fun e => own_blk_ne hTa.o3 hTa.bk (by decide) e.symm)
                                have qc : V1.cell? ⟨bc, 3, none⟩ = some (.slice a3 X3.length c3) := hbk1.cell 3
                                have qf := hbk1.frozen
                                have HN := Lib.hid (hTa.grow3 (r := [vT s σ, vT s (sT s σ), vB s (sT s (sT s σ)), vT s (sB s (sT s (sT s σ))), vB s (sT s (sB s (sT s (sT s σ)))), vB s (sB s (sT s (sB s (sT s (sT s σ))))), vB s (sB s (sB s (sT s (sB s (sT s (sT s σ)))))), vB s (sB s (sB s (sB s (sT s (sB s (sT s (sT s σ))))))), vT s (sB s (sB s (sB s (sB s (sT s (sB s (sT s (sT s σ)))))))), vB s (sT s (sB s (sB s (sB s (sB s (sT s (sB s (sT s (sT s σ)))))))))]) rfl own1 g1)
                                clear own1 g1 at1 hbk1 hTa hlo hx HT HTa
                                refine' wpAnyH_take (i := 25) (oi := _) (v := _) ?hN3_57d25 (by kernel_rfl) (by kernel_rfl) (by kernel_rfl) ?hQN3_57d25 (Or.inl ⟨?hwN3_57d25, ?hyN3_57d25⟩) hHeld ?restN3_57d25
                                case hN3_57d25 => (simp only [List.getElem?_toArray, List.getElem?_cons_succ, List.getElem?_cons_zero]; rfl)
                                case hQN3_57d25 => exact fun _ _ _ h => h
                                case hwN3_57d25 => rfl
                                case hyN3_57d25 => (intro w hSw; (try dsimp only at hSw); go_simp; try with_reducible rfl)
                                try simp only [Act.put, List.setIfInBounds_toArray, List.set_cons_zero, List.set_cons_succ]
                                refine wpAnyH_ready (rs := [26]) (by kernel_rfl) (by simp) ?_
                                refine' (AllReadyH.cons (o := _) ?hoN3_57e26 (fun K hK' => ?stN3_57e26) AllReadyH.nil)
                                case hoN3_57e26 => (simp only [List.getElem?_toArray, List.getElem?_cons_succ, List.getElem?_cons_zero]; rfl)
                                case stN3_57e26 =>
                                  go_simp
                                  refine hK'.out _ _ trivial (fun hHeld' => ?_)
                                  clear hK' K hHeld
                                  have hHeld := hHeld'
                                  clear hHeld'
                                  try simp only [Act.put]
                                  try simp only [List.setIfInBounds_toArray, List.set_cons_zero, List.set_cons_succ]
                                  refine wpAnyH_done (by kernel_rfl) ?_ _
                                  clear hHeld qc qf
                                  go_wp2
                                  go_step3
                                  exact Or.inr (Or.inr ⟨rfl, ⟨_, _, _, _, _, _, _, _, _, _, _, _, _, _, rfl, rfl, rfl, rfl, rfl, rfl, HPN.out, HN.out⟩, by show (n - 1).toNat < n.toNat; omega⟩)
                case stN3_5113 =>
                  go_simp
                  refine (byteR HT.out hm).mono ?_
                  rintro e U6 ⟨rfl, hT, hz⟩
                  clear HT
                  have HT := Lib.hid hT
                  clear hT hz
                  try go_wp2_with fail
                  refine hK'.out _ _ trivial (fun hHeld' => ?_)
                  clear hK' K hHeld
                  have hHeld := hHeld'
                  clear hHeld'
                  try simp only [Act.put]
                  try simp only [List.setIfInBounds_toArray, List.set_cons_zero, List.set_cons_succ]
                  refine wpAnyH_ready (rs := [1, 15]) (by kernel_rfl) (by simp) ?_
                  refine' (AllReadyH.cons (o := _) ?hoN3_581 (fun K hK' => ?stN3_581) (AllReadyH.cons (o := _) ?hoN3_5815 (fun K hK' => ?stN3_5815) AllReadyH.nil))
                  case hoN3_581 => (simp only [List.getElem?_toArray, List.getElem?_cons_succ, List.getElem?_cons_zero]; rfl)
                  case hoN3_5815 => (simp only [List.getElem?_toArray, List.getElem?_cons_succ, List.getElem?_cons_zero]; rfl)
                  case stN3_581 =>
                    have qc := HT.out.bk.cell 3
                    simp only [List.getElem?_toArray, List.getElem?_cons_succ, List.getElem?_cons_zero] at qc
                    go_simp
                    refine hK'.out _ _ trivial (fun hHeld' => ?_)
                    clear hK' K hHeld
                    have hHeld := hHeld'
                    clear hHeld'
                    try simp only [Act.put]
                    try simp only [List.setIfInBounds_toArray, List.set_cons_zero, List.set_cons_succ]
                    clear qc
                    refine wpAnyH_ready (rs := [15]) (by kernel_rfl) (by simp) ?_
                    refine' (AllReadyH.cons (o := _) ?hoN3_5915 (fun K hK' => ?stN3_5915) AllReadyH.nil)
                    case hoN3_5915 => (simp only [List.getElem?_toArray, List.getElem?_cons_succ, List.getElem?_cons_zero]; rfl)
                    case stN3_5915 =>
                      go_simp
                      refine (byteR HT.out hm).mono ?_
                      rintro e U7 ⟨rfl, hT, hz⟩
                      clear HT
                      have HT := Lib.hid hT
                      clear hT hz
                      try go_wp2_with fail
                      refine hK'.out _ _ trivial (fun hHeld' => ?_)
                      clear hK' K hHeld
                      have hHeld := hHeld'
                      clear hHeld'
                      try simp only [Act.put]
                      try simp only [List.setIfInBounds_toArray, List.set_cons_zero, List.set_cons_succ]
                      refine wpAnyH_ready (rs := [17]) (by kernel_rfl) (by simp) ?_
                      refine' (AllReadyH.cons (o := _) ?hoN3_6017 (fun K hK' => ?stN3_6017) AllReadyH.nil)
                      case hoN3_6017 => (simp only [List.getElem?_toArray, List.getElem?_cons_succ, List.getElem?_cons_zero]; rfl)
                      case stN3_6017 =>
                        go_simp
                        refine (byteR HT.out hm).mono ?_
                        rintro e U8 ⟨rfl, hT, hz⟩
                        clear HT
                        have HT := Lib.hid hT
                        clear hT hz
                        try go_wp2_with fail
                        refine hK'.out _ _ trivial (fun hHeld' => ?_)
                        clear hK' K hHeld
                        have hHeld := hHeld'
                        clear hHeld'
                        try simp only [Act.put]
                        try simp only [List.setIfInBounds_toArray, List.set_cons_zero, List.set_cons_succ]
                        refine wpAnyH_ready (rs := [19]) (by kernel_rfl) (by simp) ?_
                        refine' (AllReadyH.cons (o := _) ?hoN3_6119 (fun K hK' => ?stN3_6119) AllReadyH.nil)
                        case hoN3_6119 => (simp only [List.getElem?_toArray, List.getElem?_cons_succ, List.getElem?_cons_zero]; rfl)
                        case stN3_6119 =>
                          go_simp
                          refine (twoR HT.out hm).mono ?_
                          rintro e U9 ⟨rfl, hT, hz⟩
                          clear HT
                          have HT := Lib.hid hT
                          clear hT hz
                          try go_wp2_with fail
                          refine hK'.out _ _ trivial (fun hHeld' => ?_)
                          clear hK' K hHeld
                          have hHeld := hHeld'
                          clear hHeld'
                          try simp only [Act.put]
                          try simp only [List.setIfInBounds_toArray, List.set_cons_zero, List.set_cons_succ]
                          refine wpAnyH_ready (rs := [21]) (by kernel_rfl) (by simp) ?_
                          refine' (AllReadyH.cons (o := _) ?hoN3_6221 (fun K hK' => ?stN3_6221) AllReadyH.nil)
                          case hoN3_6221 => (simp only [List.getElem?_toArray, List.getElem?_cons_succ, List.getElem?_cons_zero]; rfl)
                          case stN3_6221 =>
                            go_simp
                            refine (byteR HT.out hm).mono ?_
                            rintro e U10 ⟨rfl, hT, hz⟩
                            clear HT
                            have HT := Lib.hid hT
                            clear hT hz
                            try go_wp2_with fail
                            refine hK'.out _ _ trivial (fun hHeld' => ?_)
                            clear hK' K hHeld
                            have hHeld := hHeld'
                            clear hHeld'
                            try simp only [Act.put]
                            try simp only [List.setIfInBounds_toArray, List.set_cons_zero, List.set_cons_succ]
                            refine' wpAnyH_take (i := 22) (oi := _) (v := _) ?hN3_6322 (by kernel_rfl) (by kernel_rfl) (by kernel_rfl) ?hQN3_6322 (Or.inl ⟨?hwN3_6322, ?hyN3_6322⟩) hHeld ?restN3_6322
                            case hN3_6322 => (simp only [List.getElem?_toArray, List.getElem?_cons_succ, List.getElem?_cons_zero]; rfl)
                            case hQN3_6322 => exact fun _ _ _ h => h
                            case hwN3_6322 => rfl
                            case hyN3_6322 => (intro w hSw; (try dsimp only at hSw); go_simp; try with_reducible rfl)
                            try simp only [Act.put, List.setIfInBounds_toArray, List.set_cons_zero, List.set_cons_succ]
                            refine wpAnyH_ready (rs := [23]) (by kernel_rfl) (by simp) ?_
                            refine' (AllReadyH.cons (o := _) ?hoN3_63b23 (fun K hK' => ?stN3_63b23) AllReadyH.nil)
                            case hoN3_63b23 => (simp only [List.getElem?_toArray, List.getElem?_cons_succ, List.getElem?_cons_zero]; rfl)
                            case stN3_63b23 =>
                              go_simp
                              refine hK'.out _ _ trivial (fun hHeld' => ?_)
                              clear hK' K hHeld
                              have hHeld := hHeld'
                              clear hHeld'
                              try simp only [Act.put]
                              try simp only [List.setIfInBounds_toArray, List.set_cons_zero, List.set_cons_succ]
                              have HTa := Lib.hid (HT.out.same ((Keeps.refl [] U10).alloc (.cells (rwc [vT s σ, vT s (sT s σ), vB s (sT s (sT s σ)), vT s (sB s (sT s (sT s σ))), vB s (sT s (sB s (sT s (sT s σ)))), vB s (sB s (sT s (sB s (sT s (sT s σ))))), vB s (sB s (sB s (sT s (sB s (sT s (sT s σ)))))), vB s (sB s (sB s (sB s (sT s (sB s (sT s (sT s σ))))))), vT s (sB s (sB s (sB s (sB s (sT s (sB s (sT s (sT s σ)))))))), vB s (sT s (sB s (sB s (sB s (sB s (sT s (sB s (sT s (sT s σ)))))))))]).toArray 54)))
                              have hTa := HTa.out
                              have hlo := hTa.low
                              have hx := hxl
                              refine wpAnyH_ready (rs := [24]) (by kernel_rfl) (by simp) ?_
                              refine' (AllReadyH.cons (o := _) ?hoN3_63c24 (fun K hK' => ?stN3_63c24) AllReadyH.nil)
                              case hoN3_63c24 => (simp only [List.getElem?_toArray, List.getElem?_cons_succ, List.getElem?_cons_zero]; rfl)
                              case stN3_63c24 =>
                                rw [if_pos (by rfl)]
                                refine wp_append_any _ (.tmp 64) (.tmp 86) 26 rfl W.heap.size 54 i0 _ 10 80 Try.underlying26 HI.out.1 HI.out.2.1 HI.out.2.2.1 HI.out.2.2.2 rfl (by decide) (.slice a3 X3.length c3) X3.length (rwf X3) rfl hTa.o3 _ (some ⟨U10.heap.size, 0, none⟩) 1 1 (rwc [vT s σ, vT s (sT s σ), vB s (sT s (sT s σ)), vT s (sB s (sT s (sT s σ))), vB s (sT s (sB s (sT s (sT s σ)))), vB s (sB s (sT s (sB s (sT s (sT s σ))))), vB s (sB s (sB s (sT s (sB s (sT s (sT s σ)))))), vB s (sB s (sB s (sB s (sT s (sB s (sT s (sT s σ))))))), vT s (sB s (sB s (sB s (sB s (sT s (sB s (sT s (sT s σ)))))))), vB s (sT s (sB s (sB s (sB s (sB s (sT s (sB s (sT s (sT s σ)))))))))]) rfl (tc_own (B := 0) U10 rfl) (rwc_cell _) (by simp only [maxLen]; omega) (by omega) hlo.1 ?_
                                intro v1 V1 own1 g1 at1
                                obtain ⟨p1, cc1, rfl⟩ := own_form own1
                                refine hK'.out _ _ trivial (fun hHeld' => ?_)
                                clear hK' K hHeld
                                have hHeld := hHeld'
                                clear hHeld'
                                try simp only [Act.put]
                                try simp only [List.setIfInBounds_toArray, List.set_cons_zero, List.set_cons_succ]
                                have hbk1 := hTa.bk.grown g1 (fun e => own_blk_ne hTa.o3 hTa.bk (by decide) e.symm)
                                have qc : V1.cell? ⟨bc, 3, none⟩ = some (.slice a3 X3.length c3) := hbk1.cell 3
                                have qf := hbk1.frozen
                                have HN := Lib.hid (hTa.grow3 (r := [vT s σ, vT s (sT s σ), vB s (sT s (sT s σ)), vT s (sB s (sT s (sT s σ))), vB s (sT s (sB s (sT s (sT s σ)))), vB s (sB s (sT s (sB s (sT s (sT s σ))))), vB s (sB s (sB s (sT s (sB s (sT s (sT s σ)))))), vB s (sB s (sB s (sB s (sT s (sB s (sT s (sT s σ))))))), vT s (sB s (sB s (sB s (sB s (sT s (sB s (sT s (sT s σ)))))))), vB s (sT s (sB s (sB s (sB s (sB s (sT s (sB s (sT s (sT s σ)))))))))]) rfl own1 g1)
                                clear own1 g1 at1 hbk1 hTa hlo hx HT HTa
                                refine' wpAnyH_take (i := 25) (oi := _) (v := _) ?hN3_63d25 (by kernel_rfl) (by kernel_rfl) (by kernel_rfl) ?hQN3_63d25 (Or.inl ⟨?hwN3_63d25, ?hyN3_63d25⟩) hHeld ?restN3_63d25
                                case hN3_63d25 => (simp only [List.getElem?_toArray, List.getElem?_cons_succ, List.getElem?_cons_zero]; rfl)
                                case hQN3_63d25 => exact fun _ _ _ h => h
                                case hwN3_63d25 => rfl
                                case hyN3_63d25 => (intro w hSw; (try dsimp only at hSw); go_simp; try with_reducible rfl)
                                try simp only [Act.put, List.setIfInBounds_toArray, List.set_cons_zero, List.set_cons_succ]
                                refine wpAnyH_ready (rs := [26]) (by kernel_rfl) (by simp) ?_
                                refine' (AllReadyH.cons (o := _) ?hoN3_63e26 (fun K hK' => ?stN3_63e26) AllReadyH.nil)
                                case hoN3_63e26 => (simp only [List.getElem?_toArray, List.getElem?_cons_succ, List.getElem?_cons_zero]; rfl)
                                case stN3_63e26 =>
                                  go_simp
                                  refine hK'.out _ _ trivial (fun hHeld' => ?_)
                                  clear hK' K hHeld
                                  have hHeld := hHeld'
                                  clear hHeld'
                                  try simp only [Act.put]
                                  try simp only [List.setIfInBounds_toArray, List.set_cons_zero, List.set_cons_succ]
                                  refine wpAnyH_done (by kernel_rfl) ?_ _
                                  clear hHeld qc qf
                                  go_wp2
                                  go_step3
                                  exact Or.inr (Or.inr ⟨rfl, ⟨_, _, _, _, _, _, _, _, _, _, _, _, _, _, rfl, rfl, rfl, rfl, rfl, rfl, HPN.out, HN.out⟩, by show (n - 1).toNat < n.toNat; omega⟩)
                  case stN3_5815 =>
                    go_simp
                    refine (byteR HT.out hm).mono ?_
                    rintro e U7 ⟨rfl, hT, hz⟩
                    clear HT
                    have HT := Lib.hid hT
                    clear hT hz
                    try go_wp2_with fail
                    refine hK'.out _ _ trivial (fun hHeld' => ?_)
                    clear hK' K hHeld
                    have hHeld := hHeld'
                    clear hHeld'
                    try simp only [Act.put]
                    try simp only [List.setIfInBounds_toArray, List.set_cons_zero, List.set_cons_succ]
                    refine wpAnyH_ready (rs := [1, 17]) (by kernel_rfl) (by simp) ?_
                    refine' (AllReadyH.cons (o := _) ?hoN3_641 (fun K hK' => ?stN3_641) (AllReadyH.cons (o := _) ?hoN3_6417 (fun K hK' => ?stN3_6417) AllReadyH.nil))
                    case hoN3_641 => (simp only [List.getElem?_toArray, List.getElem?_cons_succ, List.getElem?_cons_zero]; rfl)
                    case hoN3_6417 => (simp only [List.getElem?_toArray, List.getElem?_cons_succ, List.getElem?_cons_zero]; rfl)
                    case stN3_641 =>
                      have qc := HT.out.bk.cell 3
                      simp only [List.getElem?_toArray, List.getElem?_cons_succ, List.getElem?_cons_zero] at qc
                      go_simp
                      refine hK'.out _ _ trivial (fun hHeld' => ?_)
                      clear hK' K hHeld
                      have hHeld := hHeld'
                      clear hHeld'
                      try simp only [Act.put]
                      try simp only [List.setIfInBounds_toArray, List.set_cons_zero, List.set_cons_succ]
                      clear qc
                      refine wpAnyH_ready (rs := [17]) (by kernel_rfl) (by simp) ?_
                      refine' (AllReadyH.cons (o := _) ?hoN3_6517 (fun K hK' => ?stN3_6517) AllReadyH.nil)
                      case hoN3_6517 => (simp only [List.getElem?_toArray, List.getElem?_cons_succ, List.getElem?_cons_zero]; rfl)
                      case stN3_6517 =>
                        go_simp
                        refine (byteR HT.out hm).mono ?_
                        rintro e U8 ⟨rfl, hT, hz⟩
                        clear HT
                        have HT := Lib.hid hT
                        clear hT hz
                        try go_wp2_with fail
                        refine hK'.out _ _ trivial (fun hHeld' => ?_)
                        clear hK' K hHeld
                        have hHeld := hHeld'
                        clear hHeld'
                        try simp only [Act.put]
                        try simp only [List.setIfInBounds_toArray, List.set_cons_zero, List.set_cons_succ]
                        refine wpAnyH_ready (rs := [19]) (by kernel_rfl) (by simp) ?_
                        refine' (AllReadyH.cons (o := _) ?hoN3_6619 (fun K hK' => ?stN3_6619) AllReadyH.nil)
                        case hoN3_6619 => (simp only [List.getElem?_toArray, List.getElem?_cons_succ, List.getElem?_cons_zero]; rfl)
                        case stN3_6619 =>
                          go_simp
                          refine (twoR HT.out hm).mono ?_
                          rintro e U9 ⟨rfl, hT, hz⟩
                          clear HT
                          have HT := Lib.hid hT
                          clear hT hz
                          try go_wp2_with fail
                          refine hK'.out _ _ trivial (fun hHeld' => ?_)
                          clear hK' K hHeld
                          have hHeld := hHeld'
                          clear hHeld'
                          try simp only [Act.put]
                          try simp only [List.setIfInBounds_toArray, List.set_cons_zero, List.set_cons_succ]
                          refine wpAnyH_ready (rs := [21]) (by kernel_rfl) (by simp) ?_
                          refine' (AllReadyH.cons (o := _) ?hoN3_6721 (fun K hK' => ?stN3_6721) AllReadyH.nil)
                          case hoN3_6721 => (simp only [List.getElem?_toArray, List.getElem?_cons_succ, List.getElem?_cons_zero]; rfl)
                          case stN3_6721 =>
                            go_simp
                            refine (byteR HT.out hm).mono ?_
                            rintro e U10 ⟨rfl, hT, hz⟩
                            clear HT
                            have HT := Lib.hid hT
                            clear hT hz
                            try go_wp2_with fail
                            refine hK'.out _ _ trivial (fun hHeld' => ?_)
                            clear hK' K hHeld
                            have hHeld := hHeld'
                            clear hHeld'
                            try simp only [Act.put]
                            try simp only [List.setIfInBounds_toArray, List.set_cons_zero, List.set_cons_succ]
                            refine' wpAnyH_take (i := 22) (oi := _) (v := _) ?hN3_6822 (by kernel_rfl) (by kernel_rfl) (by kernel_rfl) ?hQN3_6822 (Or.inl ⟨?hwN3_6822, ?hyN3_6822⟩) hHeld ?restN3_6822
                            case hN3_6822 => (simp only [List.getElem?_toArray, List.getElem?_cons_succ, List.getElem?_cons_zero]; rfl)
                            case hQN3_6822 => exact fun _ _ _ h => h
                            case hwN3_6822 => rfl
                            case hyN3_6822 => (intro w hSw; (try dsimp only at hSw); go_simp; try with_reducible rfl)
                            try simp only [Act.put, List.setIfInBounds_toArray, List.set_cons_zero, List.set_cons_succ]
                            refine wpAnyH_ready (rs := [23]) (by kernel_rfl) (by simp) ?_
                            refine' (AllReadyH.cons (o := _) ?hoN3_68b23 (fun K hK' => ?stN3_68b23) AllReadyH.nil)
                            case hoN3_68b23 => (simp only [List.getElem?_toArray, List.getElem?_cons_succ, List.getElem?_cons_zero]; rfl)
                            case stN3_68b23 =>
                              go_simp
                              refine hK'.out _ _ trivial (fun hHeld' => ?_)
                              clear hK' K hHeld
                              have hHeld := hHeld'
                              clear hHeld'
                              try simp only [Act.put]
                              try simp only [List.setIfInBounds_toArray, List.set_cons_zero, List.set_cons_succ]
                              have HTa := Lib.hid (HT.out.same ((Keeps.refl [] U10).alloc (.cells (rwc [vT s σ, vT s (sT s σ), vB s (sT s (sT s σ)), vT s (sB s (sT s (sT s σ))), vB s (sT s (sB s (sT s (sT s σ)))), vB s (sB s (sT s (sB s (sT s (sT s σ))))), vB s (sB s (sB s (sT s (sB s (sT s (sT s σ)))))), vB s (sB s (sB s (sB s (sT s (sB s (sT s (sT s σ))))))), vT s (sB s (sB s (sB s (sB s (sT s (sB s (sT s (sT s σ)))))))), vB s (sT s (sB s (sB s (sB s (sB s (sT s (sB s (sT s (sT s σ)))))))))]).toArray 54)))
                              have hTa := HTa.out
                              have hlo := hTa.low
                              have hx := hxl
                              refine wpAnyH_ready (rs := [24]) (by kernel_rfl) (by simp) ?_
                              refine' (AllReadyH.cons (o := _) ?hoN3_68c24 (fun K hK' => ?stN3_68c24) AllReadyH.nil)
                              case hoN3_68c24 => (simp only [List.getElem?_toArray, List.getElem?_cons_succ, List.getElem?_cons_zero]; rfl)
                              case stN3_68c24 =>
                                rw [if_pos (by rfl)]
                                refine wp_append_any _ (.tmp 64) (.tmp 86) 26 rfl W.heap.size 54 i0 _ 10 80 Try.underlying26 HI.out.1 HI.out.2.1 HI.out.2.2.1 HI.out.2.2.2 rfl (by decide) (.slice a3 X3.length c3) X3.length (rwf X3) rfl hTa.o3 _ (some ⟨U10.heap.size, 0, none⟩) 1 1 (rwc [vT s σ, vT s (sT s σ), vB s (sT s (sT s σ)), vT s (sB s (sT s (sT s σ))), vB s (sT s (sB s (sT s (sT s σ)))), vB s (sB s (sT s (sB s (sT s (sT s σ))))), vB s (sB s (sB s (sT s (sB s (sT s (sT s σ)))))), vB s (sB s (sB s (sB s (sT s (sB s (sT s (sT s σ))))))), vT s (sB s (sB s (sB s (sB s (sT s (sB s (sT s (sT s σ)))))))), vB s (sT s (sB s (sB s (sB s (sB s (sT s (sB s (sT s (sT s σ)))))))))]) rfl (tc_own (B := 0) U10 rfl) (rwc_cell _) (by simp only [maxLen]; omega) (by omega) hlo.1 ?_
                                intro v1 V1 own1 g1 at1
                                obtain ⟨p1, cc1, rfl⟩ := own_form own1
                                refine hK'.out _ _ trivial (fun hHeld' => ?_)
                                clear hK' K hHeld
                                have hHeld := hHeld'
                                clear hHeld'
                                try simp only [Act.put]
                                try simp only [List.setIfInBounds_toArray, List.set_cons_zero, List.set_cons_succ]
                                have hbk1 := hTa.bk.grown g1 (fun e => own_blk_ne hTa.o3 hTa.bk (by decide) e.symm)
                                have qc : V1.cell? ⟨bc, 3, none⟩ = some (.slice a3 X3.length c3) := hbk1.cell 3
                                have qf := hbk1.frozen
                                have HN := Lib.hid (hTa.grow3 (r := [vT s σ, vT s (sT s σ), vB s (sT s (sT s σ)), vT s (sB s (sT s (sT s σ))), vB s (sT s (sB s (sT s (sT s σ)))), vB s (sB s (sT s (sB s (sT s (sT s σ))))), vB s (sB s (sB s (sT s (sB s (sT s (sT s σ)))))), vB s (sB s (sB s (sB s (sT s (sB s (sT s (sT s σ))))))), vT s (sB s (sB s (sB s (sB s (sT s (sB s (sT s (sT s σ)))))))), vB s (sT s (sB s (sB s (sB s (sB s (sT s (sB s (sT s (sT s σ)))))))))]) rfl own1 g1)
                                clear own1 g1 at1 hbk1 hTa hlo hx HT HTa
                                refine' wpAnyH_take (i := 25) (oi := _) (v := _) ?hN3_68d25 (by kernel_rfl) (by kernel_rfl) (by kernel_rfl) ?hQN3_68d25 (Or.inl ⟨?hwN3_68d25, ?hyN3_68d25⟩) hHeld ?restN3_68d25
                                case hN3_68d25 => (simp only [List.getElem?_toArray, List.getElem?_cons_succ, List.getElem?_cons_zero]; rfl)
                                case hQN3_68d25 => exact fun _ _ _ h => h
                                case hwN3_68d25 => rfl
                                case hyN3_68d25 => (intro w hSw; (try dsimp only at hSw); go_simp; try with_reducible rfl)
                                try simp only [Act.put, List.setIfInBounds_toArray, List.set_cons_zero, List.set_cons_succ]
                                refine wpAnyH_ready (rs := [26]) (by kernel_rfl) (by simp) ?_
                                refine' (AllReadyH.cons (o := _) ?hoN3_68e26 (fun K hK' => ?stN3_68e26) AllReadyH.nil)
                                case hoN3_68e26 => (simp only [List.getElem?_toArray, List.getElem?_cons_succ, List.getElem?_cons_zero]; rfl)
                                case stN3_68e26 =>
                                  go_simp
                                  refine hK'.out _ _ trivial (fun hHeld' => ?_)
                                  clear hK' K hHeld
                                  have hHeld := hHeld'
                                  clear hHeld'
                                  try simp only [Act.put]
                                  try simp only [List.setIfInBounds_toArray, List.set_cons_zero, List.set_cons_succ]
                                  refine wpAnyH_done (by kernel_rfl) ?_ _
                                  clear hHeld qc qf
                                  go_wp2
                                  go_step3
                                  exact Or.inr (Or.inr ⟨rfl, ⟨_, _, _, _, _, _, _, _, _, _, _, _, _, _, rfl, rfl, rfl, rfl, rfl, rfl, HPN.out, HN.out⟩, by show (n - 1).toNat < n.toNat; omega⟩)
                    case stN3_6417 =>
                      go_simp
                      refine (byteR HT.out hm).mono ?_
                      rintro e U8 ⟨rfl, hT, hz⟩
                      clear HT
                      have HT := Lib.hid hT
                      clear hT hz
                      try go_wp2_with fail
                      refine hK'.out _ _ trivial (fun hHeld' => ?_)
                      clear hK' K hHeld
                      have hHeld := hHeld'
                      clear hHeld'
                      try simp only [Act.put]
                      try simp only [List.setIfInBounds_toArray, List.set_cons_zero, List.set_cons_succ]
                      refine wpAnyH_ready (rs := [1, 19]) (by kernel_rfl) (by simp) ?_
                      refine' (AllReadyH.cons (o := _) ?hoN3_691 (fun K hK' => ?stN3_691) (AllReadyH.cons (o := _) ?hoN3_6919 (fun K hK' => ?stN3_6919) AllReadyH.nil))
                      case hoN3_691 => (simp only [List.getElem?_toArray, List.getElem?_cons_succ, List.getElem?_cons_zero]; rfl)
                      case hoN3_6919 => (simp only [List.getElem?_toArray, List.getElem?_cons_succ, List.getElem?_cons_zero]; rfl)
                      case stN3_691 =>
                        have qc := HT.out.bk.cell 3
                        simp only [List.getElem?_toArray, List.getElem?_cons_succ, List.getElem?_cons_zero] at qc
                        go_simp
                        refine hK'.out _ _ trivial (fun hHeld' => ?_)
                        clear hK' K hHeld
                        have hHeld := hHeld'
                        clear hHeld'
                        try simp only [Act.put]
                        try simp only [List.setIfInBounds_toArray, List.set_cons_zero, List.set_cons_succ]
                        clear qc
                        refine wpAnyH_ready (rs := [19]) (by kernel_rfl) (by simp) ?_
                        refine' (AllReadyH.cons (o := _) ?hoN3_7019 (fun K hK' => ?stN3_7019) AllReadyH.nil)
                        case hoN3_7019 => (simp only [List.getElem?_toArray, List.getElem?_cons_succ, List.getElem?_cons_zero]; rfl)
                        case stN3_7019 =>
                          go_simp
                          refine (twoR HT.out hm).mono ?_
                          rintro e U9 ⟨rfl, hT, hz⟩
                          clear HT
                          have HT := Lib.hid hT
                          clear hT hz
                          try go_wp2_with fail
                          refine hK'.out _ _ trivial (fun hHeld' => ?_)
                          clear hK' K hHeld
                          have hHeld := hHeld'
                          clear hHeld'
                          try simp only [Act.put]
                          try simp only [List.setIfInBounds_toArray, List.set_cons_zero, List.set_cons_succ]
                          refine wpAnyH_ready (rs := [21]) (by kernel_rfl) (by simp) ?_
                          refine' (AllReadyH.cons (o := _) ?hoN3_7121 (fun K hK' => ?stN3_7121) AllReadyH.nil)
                          case hoN3_7121 => (simp only [List.getElem?_toArray, List.getElem?_cons_succ, List.getElem?_cons_zero]; rfl)
                          case stN3_7121 =>
                            go_simp
                            refine (byteR HT.out hm).mono ?_
                            rintro e U10 ⟨rfl, hT, hz⟩
                            clear HT
                            have HT := Lib.hid hT
                            clear hT hz
                            try go_wp2_with fail
                            refine hK'.out _ _ trivial (fun hHeld' => ?_)
                            clear hK' K hHeld
                            have hHeld := hHeld'
                            clear hHeld'
                            try simp only [Act.put]
                            try simp only [List.setIfInBounds_toArray, List.set_cons_zero, List.set_cons_succ]
                            refine' wpAnyH_take (i := 22) (oi := _) (v := _) ?hN3_7222 (by kernel_rfl) (by kernel_rfl) (by kernel_rfl) ?hQN3_7222 (Or.inl ⟨?hwN3_7222, ?hyN3_7222⟩) hHeld ?restN3_7222
                            case hN3_7222 => (simp only [List.getElem?_toArray, List.getElem?_cons_succ, List.getElem?_cons_zero]; rfl)
                            case hQN3_7222 => exact fun _ _ _ h => h
                            case hwN3_7222 => rfl
                            case hyN3_7222 => (intro w hSw; (try dsimp only at hSw); go_simp; try with_reducible rfl)
                            try simp only [Act.put, List.setIfInBounds_toArray, List.set_cons_zero, List.set_cons_succ]
                            refine wpAnyH_ready (rs := [23]) (by kernel_rfl) (by simp) ?_
                            refine' (AllReadyH.cons (o := _) ?hoN3_72b23 (fun K hK' => ?stN3_72b23) AllReadyH.nil)
                            case hoN3_72b23 => (simp only [List.getElem?_toArray, List.getElem?_cons_succ, List.getElem?_cons_zero]; rfl)
                            case stN3_72b23 =>
                              go_simp
                              refine hK'.out _ _ trivial (fun hHeld' => ?_)
                              clear hK' K hHeld
                              have hHeld := hHeld'
                              clear hHeld'
                              try simp only [Act.put]
                              try simp only [List.setIfInBounds_toArray, List.set_cons_zero, List.set_cons_succ]
                              have HTa := Lib.hid (HT.out.same ((Keeps.refl [] U10).alloc (.cells (rwc [vT s σ, vT s (sT s σ), vB s (sT s (sT s σ)), vT s (sB s (sT s (sT s σ))), vB s (sT s (sB s (sT s (sT s σ)))), vB s (sB s (sT s (sB s (sT s (sT s σ))))), vB s (sB s (sB s (sT s (sB s (sT s (sT s σ)))))), vB s (sB s (sB s (sB s (sT s (sB s (sT s (sT s σ))))))), vT s (sB s (sB s (sB s (sB s (sT s (sB s (sT s (sT s σ)))))))), vB s (sT s (sB s (sB s (sB s (sB s (sT s (sB s (sT s (sT s σ)))))))))]).toArray 54)))
                              have hTa := HTa.out
                              have hlo := hTa.low
                              have hx := hxl
                              refine wpAnyH_ready (rs := [24]) (by kernel_rfl) (by simp) ?_
                              refine' (AllReadyH.cons (o := _) ?hoN3_72c24 (fun K hK' => ?stN3_72c24) AllReadyH.nil)
                              case hoN3_72c24 => (simp only [List.getElem?_toArray, List.getElem?_cons_succ, List.getElem?_cons_zero]; rfl)
                              case stN3_72c24 =>
                                rw [if_pos (by rfl)]
                                refine wp_append_any _ (.tmp 64) (.tmp 86) 26 rfl W.heap.size 54 i0 _ 10 80 Try.underlying26 HI.out.1 HI.out.2.1 HI.out.2.2.1 HI.out.2.2.2 rfl (by decide) (.slice a3 X3.length c3) X3.length (rwf X3) rfl hTa.o3 _ (some ⟨U10.heap.size, 0, none⟩) 1 1 (rwc [vT s σ, vT s (sT s σ), vB s (sT s (sT s σ)), vT s (sB s (sT s (sT s σ))), vB s (sT s (sB s (sT s (sT s σ)))), vB s (sB s (sT s (sB s (sT s (sT s σ))))), vB s (sB s (sB s (sT s (sB s (sT s (sT s σ)))))), vB s (sB s (sB s (sB s (sT s (sB s (sT s (sT s σ))))))), vT s (sB s (sB s (sB s (sB s (sT s (sB s (sT s (sT s σ)))))))), vB s (sT s (sB s (sB s (sB s (sB s (sT s (sB s (sT s (sT s σ)))))))))]) rfl (tc_own (B := 0) U10 rfl) (rwc_cell _) (by simp only [maxLen]; omega) (by omega) hlo.1 ?_
                                intro v1 V1 own1 g1 at1
                                obtain ⟨p1, cc1, rfl⟩ := own_form own1
                                refine hK'.out _ _ trivial (fun hHeld' => ?_)
                                clear hK' K hHeld
                                have hHeld := hHeld'
                                clear hHeld'
                                try simp only [Act.put]
                                try simp only [List.setIfInBounds_toArray, List.set_cons_zero, List.set_cons_succ]
                                have hbk1 := hTa.bk.grown g1 (fun e => own_blk_ne hTa.o3 hTa.bk (by decide) e.symm)
                                have qc : V1.cell? ⟨bc, 3, none⟩ = some (.slice a3 X3.length c3) := hbk1.cell 3
                                have qf := hbk1.frozen
                                have HN := Lib.hid (hTa.grow3 (r := [vT s σ, vT s (sT s σ), vB s (sT s (sT s σ)), vT s (sB s (sT s (sT s σ))), vB s (sT s (sB s (sT s (sT s σ)))), vB s (sB s (sT s (sB s (sT s (sT s σ))))), vB s (sB s (sB s (sT s (sB s (sT s (sT s σ)))))), vB s (sB s (sB s (sB s (sT s (sB s (sT s (sT s σ))))))), vT s (sB s (sB s (sB s (sB s (sT s (sB s (sT s (sT s σ)))))))), vB s (sT s (sB s (sB s (sB s (sB s (sT s (sB s (sT s (sT s σ)))))))))]) rfl own1 g1)
                                clear own1 g1 at1 hbk1 hTa hlo hx HT HTa
                                refine' wpAnyH_take (i := 25) (oi := _) (v := _) ?hN3_72d25 (by kernel_rfl) (by kernel_rfl) (by kernel_rfl) ?hQN3_72d25 (Or.inl ⟨?hwN3_72d25, ?hyN3_72d25⟩) hHeld ?restN3_72d25
                                case hN3_72d25 => (simp only [List.getElem?_toArray, List.getElem?_cons_succ, List.getElem?_cons_zero]; rfl)
                                case hQN3_72d25 => exact fun _ _ _ h => h
                                case hwN3_72d25 => rfl
                                case hyN3_72d25 => (intro w hSw; (try dsimp only at hSw); go_simp; try with_reducible rfl)
                                try simp only [Act.put, List.setIfInBounds_toArray, List.set_cons_zero, List.set_cons_succ]
                                refine wpAnyH_ready (rs := [26]) (by kernel_rfl) (by simp) ?_
                                refine' (AllReadyH.cons (o := _) ?hoN3_72e26 (fun K hK' => ?stN3_72e26) AllReadyH.nil)
                                case hoN3_72e26 => (simp only [List.getElem?_toArray, List.getElem?_cons_succ, List.getElem?_cons_zero]; rfl)
                                case stN3_72e26 =>
                                  go_simp
                                  refine hK'.out _ _ trivial (fun hHeld' => ?_)
                                  clear hK' K hHeld
                                  have hHeld := hHeld'
                                  clear hHeld'
                                  try simp only [Act.put]
                                  try simp only [List.setIfInBounds_toArray, List.set_cons_zero, List.set_cons_succ]
                                  refine wpAnyH_done (by kernel_rfl) ?_ _
                                  clear hHeld qc qf
                                  go_wp2
                                  go_step3
                                  exact Or.inr (Or.inr ⟨rfl, ⟨_, _, _, _, _, _, _, _, _, _, _, _, _, _, rfl, rfl, rfl, rfl, rfl, rfl, HPN.out, HN.out⟩, by show (n - 1).toNat < n.toNat; omega⟩)
                      case stN3_6919 =>
                        go_simp
                        refine (twoR HT.out hm).mono ?_
                        rintro e U9 ⟨rfl, hT, hz⟩
                        clear HT
                        have HT := Lib.hid hT
                        clear hT hz
                        try go_wp2_with fail
                        refine hK'.out _ _ trivial (fun hHeld' => ?_)
                        clear hK' K hHeld
                        have hHeld := hHeld'
                        clear hHeld'
                        try simp only [Act.put]
                        try simp only [List.setIfInBounds_toArray, List.set_cons_zero, List.set_cons_succ]
                        refine wpAnyH_ready (rs := [1, 21]) (by kernel_rfl) (by simp) ?_
                        refine' (AllReadyH.cons (o := _) ?hoN3_731 (fun K hK' => ?stN3_731) (AllReadyH.cons (o := _) ?hoN3_7321 (fun K hK' => ?stN3_7321) AllReadyH.nil))
                        case hoN3_731 => (simp only [List.getElem?_toArray, List.getElem?_cons_succ, List.getElem?_cons_zero]; rfl)
                        case hoN3_7321 => (simp only [List.getElem?_toArray, List.getElem?_cons_succ, List.getElem?_cons_zero]; rfl)
                        case stN3_731 =>
                          have qc := HT.out.bk.cell 3
                          simp only [List.getElem?_toArray, List.getElem?_cons_succ, List.getElem?_cons_zero] at qc
                          go_simp
                          refine hK'.out _ _ trivial (fun hHeld' => ?_)
                          clear hK' K hHeld
                          have hHeld := hHeld'
                          clear hHeld'
                          try simp only [Act.put]
                          try simp only [List.setIfInBounds_toArray, List.set_cons_zero, List.set_cons_succ]
                          clear qc
                          refine wpAnyH_ready (rs := [21]) (by kernel_rfl) (by simp) ?_
                          refine' (AllReadyH.cons (o := _) ?hoN3_7421 (fun K hK' => ?stN3_7421) AllReadyH.nil)
                          case hoN3_7421 => (simp only [List.getElem?_toArray, List.getElem?_cons_succ, List.getElem?_cons_zero]; rfl)
                          case stN3_7421 =>
                            go_simp
                            refine (byteR HT.out hm).mono ?_
                            rintro e U10 ⟨rfl, hT, hz⟩
                            clear HT
                            have HT := Lib.hid hT
                            clear hT hz
                            try go_wp2_with fail
                            refine hK'.out _ _ trivial (fun hHeld' => ?_)
                            clear hK' K hHeld
                            have hHeld := hHeld'
                            clear hHeld'
                            try simp only [Act.put]
                            try simp only [List.setIfInBounds_toArray, List.set_cons_zero, List.set_cons_succ]
                            refine' wpAnyH_take (i := 22) (oi := _) (v := _) ?hN3_7522 (by kernel_rfl) (by kernel_rfl) (by kernel_rfl) ?hQN3_7522 (Or.inl ⟨?hwN3_7522, ?hyN3_7522⟩) hHeld ?restN3_7522
                            case hN3_7522 => (simp only [List.getElem?_toArray, List.getElem?_cons_succ, List.getElem?_cons_zero]; rfl)
                            case hQN3_7522 => exact fun _ _ _ h => h
                            case hwN3_7522 => rfl
                            case hyN3_7522 => (intro w hSw; (try dsimp only at hSw); go_simp; try with_reducible rfl)
                            try simp only [Act.put, List.setIfInBounds_toArray, List.set_cons_zero, List.set_cons_succ]
                            refine wpAnyH_ready (rs := [23]) (by kernel_rfl) (by simp) ?_
                            refine' (AllReadyH.cons (o := _) ?hoN3_75b23 (fun K hK' => ?stN3_75b23) AllReadyH.nil)
                            case hoN3_75b23 => (simp only [List.getElem?_toArray, List.getElem?_cons_succ, List.getElem?_cons_zero]; rfl)
                            case stN3_75b23 =>
                              go_simp
                              refine hK'.out _ _ trivial (fun hHeld' => ?_)
                              clear hK' K hHeld
                              have hHeld := hHeld'
                              clear hHeld'
                              try simp only [Act.put]
                              try simp only [List.setIfInBounds_toArray, List.set_cons_zero, List.set_cons_succ]
                              have HTa := Lib.hid (HT.out.same ((Keeps.refl [] U10).alloc (.cells (rwc [vT s σ, vT s (sT s σ), vB s (sT s (sT s σ)), vT s (sB s (sT s (sT s σ))), vB s (sT s (sB s (sT s (sT s σ)))), vB s (sB s (sT s (sB s (sT s (sT s σ))))), vB s (sB s (sB s (sT s (sB s (sT s (sT s σ)))))), vB s (sB s (sB s (sB s (sT s (sB s (sT s (sT s σ))))))), vT s (sB s (sB s (sB s (sB s (sT s (sB s (sT s (sT s σ)))))))), vB s (sT s (sB s (sB s (sB s (sB s (sT s (sB s (sT s (sT s σ)))))))))]).toArray 54)))
                              have hTa := HTa.out
                              have hlo := hTa.low
                              have hx := hxl
                              refine wpAnyH_ready (rs := [24]) (by kernel_rfl) (by simp) ?_
                              refine' (AllReadyH.cons (o := _) ?hoN3_75c24 (fun K hK' => ?stN3_75c24) AllReadyH.nil)
                              case hoN3_75c24 => (simp only [List.getElem?_toArray, List.getElem?_cons_succ, List.getElem?_cons_zero]; rfl)
                              case stN3_75c24 =>
                                rw [if_pos (by rfl)]
                                refine wp_append_any _ (.tmp 64) (.tmp 86) 26 rfl W.heap.size 54 i0 _ 10 80 Try.underlying26 HI.out.1 HI.out.2.1 HI.out.2.2.1 HI.out.2.2.2 rfl (by decide) (.slice a3 X3.length c3) X3.length (rwf X3) rfl hTa.o3 _ (some ⟨U10.heap.size, 0, none⟩) 1 1 (rwc [vT s σ, vT s (sT s σ), vB s (sT s (sT s σ)), vT s (sB s (sT s (sT s σ))), vB s (sT s (sB s (sT s (sT s σ)))), vB s (sB s (sT s (sB s (sT s (sT s σ))))), vB s (sB s (sB s (sT s (sB s (sT s (sT s σ)))))), vB s (sB s (sB s (sB s (sT s (sB s (sT s (sT s σ))))))), vT s (sB s (sB s (sB s (sB s (sT s (sB s (sT s (sT s σ)))))))), vB s (sT s (sB s (sB s (sB s (sB s (sT s (sB s (sT s (sT s σ)))))))))]) rfl (tc_own (B := 0) U10 rfl) (rwc_cell _) (by simp only [maxLen]; omega) (by omega) hlo.1 ?_
                                intro v1 V1 own1 g1 at1
                                obtain ⟨p1, cc1, rfl⟩ := own_form own1
                                refine hK'.out _ _ trivial (fun hHeld' => ?_)
                                clear hK' K hHeld
                                have hHeld := hHeld'
                                clear hHeld'
                                try simp only [Act.put]
                                try simp only [List.setIfInBounds_toArray, List.set_cons_zero, List.set_cons_succ]
                                have hbk1 := hTa.bk.grown g1 (fun e => own_blk_ne hTa.o3 hTa.bk (by decide) e.symm)
                                have qc : V1.cell? ⟨bc, 3, none⟩ = some (.slice a3 X3.length c3) := hbk1.cell 3
                                have qf := hbk1.frozen
                                have HN := Lib.hid (hTa.grow3 (r := [vT s σ, vT s (sT s σ), vB s (sT s (sT s σ)), vT s (sB s (sT s (sT s σ))), vB s (sT s (sB s (sT s (sT s σ)))), vB s (sB s (sT s (sB s (sT s (sT s σ))))), vB s (sB s (sB s (sT s (sB s (sT s (sT s σ)))))), vB s (sB s (sB s (sB s (sT s (sB s (sT s (sT s σ))))))), vT s (sB s (sB s (sB s (sB s (sT s (sB s (sT s (sT s σ)))))))), vB s (sT s (sB s (sB s (sB s (sB s (sT s (sB s (sT s (sT s σ)))))))))]) rfl own1 g1)
                                clear own1 g1 at1 hbk1 hTa hlo hx HT HTa
                                refine' wpAnyH_take (i := 25) (oi := _) (v := _) ?hN3_75d25 (by kernel_rfl) (by kernel_rfl) (by kernel_rfl) ?hQN3_75d25 (Or.inl ⟨?hwN3_75d25, ?hyN3_75d25⟩) hHeld ?restN3_75d25
                                case hN3_75d25 => (simp only [List.getElem?_toArray, List.getElem?_cons_succ, List.getElem?_cons_zero]; rfl)
                                case hQN3_75d25 => exact fun _ _ _ h => h
                                case hwN3_75d25 => rfl
                                case hyN3_75d25 => (intro w hSw; (try dsimp only at hSw); go_simp; try with_reducible rfl)
                                try simp only [Act.put, List.setIfInBounds_toArray, List.set_cons_zero, List.set_cons_succ]
                                refine wpAnyH_ready (rs := [26]) (by kernel_rfl) (by simp) ?_
                                refine' (AllReadyH.cons (o := _) ?hoN3_75e26 (fun K hK' => ?stN3_75e26) AllReadyH.nil)
                                case hoN3_75e26 => (simp only [List.getElem?_toArray, List.getElem?_cons_succ, List.getElem?_cons_zero]; rfl)
                                case stN3_75e26 =>
                                  go_simp
                                  refine hK'.out _ _ trivial (fun hHeld' => ?_)
                                  clear hK' K hHeld
                                  have hHeld := hHeld'
                                  clear hHeld'
                                  try simp only [Act.put]
                                  try simp only [List.setIfInBounds_toArray, List.set_cons_zero, List.set_cons_succ]
                                  refine wpAnyH_done (by kernel_rfl) ?_ _
                                  clear hHeld qc qf
                                  go_wp2
                                  go_step3
                                  exact Or.inr (Or.inr ⟨rfl, ⟨_, _, _, _, _, _, _, _, _, _, _, _, _, _, rfl, rfl, rfl, rfl, rfl, rfl, HPN.out, HN.out⟩, by show (n - 1).toNat < n.toNat; omega⟩)
                        case stN3_7321 =>
                          go_simp
                          refine (byteR HT.out hm).mono ?_
                          rintro e U10 ⟨rfl, hT, hz⟩
                          clear HT
                          have HT := Lib.hid hT
                          clear hT hz
                          try go_wp2_with fail
                          refine hK'.out _ _ trivial (fun hHeld' => ?_)
                          clear hK' K hHeld
                          have hHeld := hHeld'
                          clear hHeld'
                          try simp only [Act.put]
                          try simp only [List.setIfInBounds_toArray, List.set_cons_zero, List.set_cons_succ]
                          refine' wpAnyH_take (i := 22) (oi := _) (v := _) ?hN3_7622 (by kernel_rfl) (by kernel_rfl) (by kernel_rfl) ?hQN3_7622 (Or.inl ⟨?hwN3_7622, ?hyN3_7622⟩) hHeld ?restN3_7622
                          case hN3_7622 => (simp only [List.getElem?_toArray, List.getElem?_cons_succ, List.getElem?_cons_zero]; rfl)
                          case hQN3_7622 => exact fun _ _ _ h => h
                          case hwN3_7622 => rfl
                          case hyN3_7622 => (intro w hSw; (try dsimp only at hSw); go_simp; try with_reducible rfl)
                          try simp only [Act.put, List.setIfInBounds_toArray, List.set_cons_zero, List.set_cons_succ]
                          refine wpAnyH_ready (rs := [1, 23]) (by kernel_rfl) (by simp) ?_
                          refine' (AllReadyH.cons (o := _) ?hoN3_761 (fun K hK' => ?stN3_761) (AllReadyH.cons (o := _) ?hoN3_7623 (fun K hK' => ?stN3_7623) AllReadyH.nil))
                          case hoN3_761 => (simp only [List.getElem?_toArray, List.getElem?_cons_succ, List.getElem?_cons_zero]; rfl)
                          case hoN3_7623 => (simp only [List.getElem?_toArray, List.getElem?_cons_succ, List.getElem?_cons_zero]; rfl)
                          case stN3_761 =>
                            have qc := HT.out.bk.cell 3
                            simp only [List.getElem?_toArray, List.getElem?_cons_succ, List.getElem?_cons_zero] at qc
                            go_simp
                            refine hK'.out _ _ trivial (fun hHeld' => ?_)
                            clear hK' K hHeld
                            have hHeld := hHeld'
                            clear hHeld'
                            try simp only [Act.put]
                            try simp only [List.setIfInBounds_toArray, List.set_cons_zero, List.set_cons_succ]
                            clear qc
                            refine wpAnyH_ready (rs := [23]) (by kernel_rfl) (by simp) ?_
                            refine' (AllReadyH.cons (o := _) ?hoN3_76xb23 (fun K hK' => ?stN3_76xb23) AllReadyH.nil)
                            case hoN3_76xb23 => (simp only [List.getElem?_toArray, List.getElem?_cons_succ, List.getElem?_cons_zero]; rfl)
                            case stN3_76xb23 =>
                              go_simp
                              refine hK'.out _ _ trivial (fun hHeld' => ?_)
                              clear hK' K hHeld
                              have hHeld := hHeld'
                              clear hHeld'
                              try simp only [Act.put]
                              try simp only [List.setIfInBounds_toArray, List.set_cons_zero, List.set_cons_succ]
                              have HTa := Lib.hid (HT.out.same ((Keeps.refl [] U10).alloc (.cells (rwc [vT s σ, vT s (sT s σ), vB s (sT s (sT s σ)), vT s (sB s (sT s (sT s σ))), vB s (sT s (sB s (sT s (sT s σ)))), vB s (sB s (sT s (sB s (sT s (sT s σ))))), vB s (sB s (sB s (sT s (sB s (sT s (sT s σ)))))), vB s (sB s (sB s (sB s (sT s (sB s (sT s (sT s σ))))))), vT s (sB s (sB s (sB s (sB s (sT s (sB s (sT s (sT s σ)))))))), vB s (sT s (sB s (sB s (sB s (sB s (sT s (sB s (sT s (sT s σ)))))))))]).toArray 54)))
                              have hTa := HTa.out
                              have hlo := hTa.low
                              have hx := hxl
                              refine wpAnyH_ready (rs := [24]) (by kernel_rfl) (by simp) ?_
                              refine' (AllReadyH.cons (o := _) ?hoN3_76xc24 (fun K hK' => ?stN3_76xc24) AllReadyH.nil)
                              case hoN3_76xc24 => (simp only [List.getElem?_toArray, List.getElem?_cons_succ, List.getElem?_cons_zero]; rfl)
                              case stN3_76xc24 =>
                                rw [if_pos (by rfl)]
                                refine wp_append_any _ (.tmp 64) (.tmp 86) 26 rfl W.heap.size 54 i0 _ 10 80 Try.underlying26 HI.out.1 HI.out.2.1 HI.out.2.2.1 HI.out.2.2.2 rfl (by decide) (.slice a3 X3.length c3) X3.length (rwf X3) rfl hTa.o3 _ (some ⟨U10.heap.size, 0, none⟩) 1 1 (rwc [vT s σ, vT s (sT s σ), vB s (sT s (sT s σ)), vT s (sB s (sT s (sT s σ))), vB s (sT s (sB s (sT s (sT s σ)))), vB s (sB s (sT s (sB s (sT s (sT s σ))))), vB s (sB s (sB s (sT s (sB s (sT s (sT s σ)))))), vB s (sB s (sB s (sB s (sT s (sB s (sT s (sT s σ))))))), vT s (sB s (sB s (sB s (sB s (sT s (sB s (sT s (sT s σ)))))))), vB s (sT s (sB s (sB s (sB s (sB s (sT s (sB s (sT s (sT s σ)))))))))]) rfl (tc_own (B := 0) U10 rfl) (rwc_cell _) (by simp only [maxLen]; omega) (by omega) hlo.1 ?_
                                intro v1 V1 own1 g1 at1
                                obtain ⟨p1, cc1, rfl⟩ := own_form own1
                                refine hK'.out _ _ trivial (fun hHeld' => ?_)
                                clear hK' K hHeld
                                have hHeld := hHeld'
                                clear hHeld'
                                try simp only [Act.put]
                                try simp only [List.setIfInBounds_toArray, List.set_cons_zero, List.set_cons_succ]
                                have hbk1 := hTa.bk.grown g1 (fun e => own_blk_ne hTa.o3 hTa.bk (by decide) e.symm)
                                have qc : V1.cell? ⟨bc, 3, none⟩ = some (.slice a3 X3.length c3) := hbk1.cell 3
                                have qf := hbk1.frozen
                                have HN := Lib.hid (hTa.grow3 (r := [vT s σ, vT s (sT s σ), vB s (sT s (sT s σ)), vT s (sB s (sT s (sT s σ))), vB s (sT s (sB s (sT s (sT s σ)))), vB s (sB s (sT s (sB s (sT s (sT s σ))))), vB s (sB s (sB s (sT s (sB s (sT s (sT s σ)))))), vB s (sB s (sB s (sB s (sT s (sB s (sT s (sT s σ))))))), vT s (sB s (sB s (sB s (sB s (sT s (sB s (sT s (sT s σ)))))))), vB s (sT s (sB s (sB s (sB s (sB s (sT s (sB s (sT s (sT s σ)))))))))]) rfl own1 g1)
                                clear own1 g1 at1 hbk1 hTa hlo hx HT HTa
                                refine' wpAnyH_take (i := 25) (oi := _) (v := _) ?hN3_76xd25 (by kernel_rfl) (by kernel_rfl) (by kernel_rfl) ?hQN3_76xd25 (Or.inl ⟨?hwN3_76xd25, ?hyN3_76xd25⟩) hHeld ?restN3_76xd25
                                case hN3_76xd25 => (simp only [List.getElem?_toArray, List.getElem?_cons_succ, List.getElem?_cons_zero]; rfl)
                                case hQN3_76xd25 => exact fun _ _ _ h => h
                                case hwN3_76xd25 => rfl
                                case hyN3_76xd25 => (intro w hSw; (try dsimp only at hSw); go_simp; try with_reducible rfl)
                                try simp only [Act.put, List.setIfInBounds_toArray, List.set_cons_zero, List.set_cons_succ]
                                refine wpAnyH_ready (rs := [26]) (by kernel_rfl) (by simp) ?_
                                refine' (AllReadyH.cons (o := _) ?hoN3_76xe26 (fun K hK' => ?stN3_76xe26) AllReadyH.nil)
                                case hoN3_76xe26 => (simp only [List.getElem?_toArray, List.getElem?_cons_succ, List.getElem?_cons_zero]; rfl)
                                case stN3_76xe26 =>
                                  go_simp
                                  refine hK'.out _ _ trivial (fun hHeld' => ?_)
                                  clear hK' K hHeld
                                  have hHeld := hHeld'
                                  clear hHeld'
                                  try simp only [Act.put]
                                  try simp only [List.setIfInBounds_toArray, List.set_cons_zero, List.set_cons_succ]
                                  refine wpAnyH_done (by kernel_rfl) ?_ _
                                  clear hHeld qc qf
                                  go_wp2
                                  go_step3
                                  exact Or.inr (Or.inr ⟨rfl, ⟨_, _, _, _, _, _, _, _, _, _, _, _, _, _, rfl, rfl, rfl, rfl, rfl, rfl, HPN.out, HN.out⟩, by show (n - 1).toNat < n.toNat; omega⟩)
                          case stN3_7623 =>
                            go_simp
                            refine hK'.out _ _ trivial (fun hHeld' => ?_)
                            clear hK' K hHeld
                            have hHeld := hHeld'
                            clear hHeld'
                            try simp only [Act.put]
                            try simp only [List.setIfInBounds_toArray, List.set_cons_zero, List.set_cons_succ]
                            have HTa := Lib.hid (HT.out.same ((Keeps.refl [] U10).alloc (.cells (rwc [vT s σ, vT s (sT s σ), vB s (sT s (sT s σ)), vT s (sB s (sT s (sT s σ))), vB s (sT s (sB s (sT s (sT s σ)))), vB s (sB s (sT s (sB s (sT s (sT s σ))))), vB s (sB s (sB s (sT s (sB s (sT s (sT s σ)))))), vB s (sB s (sB s (sB s (sT s (sB s (sT s (sT s σ))))))), vT s (sB s (sB s (sB s (sB s (sT s (sB s (sT s (sT s σ)))))))), vB s (sT s (sB s (sB s (sB s (sB s (sT s (sB s (sT s (sT s σ)))))))))]).toArray 54)))
                            refine wpAnyH_ready (rs := [1]) (by kernel_rfl) (by simp) ?_
                            refine' (AllReadyH.cons (o := _) ?hoN3_76yl1 (fun K hK' => ?stN3_76yl1) AllReadyH.nil)
                            case hoN3_76yl1 => (simp only [List.getElem?_toArray, List.getElem?_cons_succ, List.getElem?_cons_zero]; rfl)
                            case stN3_76yl1 =>
                              have qc := HTa.out.bk.cell 3
                              simp only [List.getElem?_toArray, List.getElem?_cons_succ, List.getElem?_cons_zero] at qc
                              have qc : (U10.alloc (.cells #[.int .i64 (vT s σ), .int .i64 (vT s (sT s σ)), .int .i64 (vB s (sT s (sT s σ))), .int .i64 (vT s (sB s (sT s (sT s σ)))), .int .i64 (vB s (sT s (sB s (sT s (sT s σ))))), .int .i64 (vB s (sB s (sT s (sB s (sT s (sT s σ)))))), .int .i64 (vB s (sB s (sB s (sT s (sB s (sT s (sT s σ))))))), .int .i64 (vB s (sB s (sB s (sB s (sT s (sB s (sT s (sT s σ)))))))), .int .i64 (vT s (sB s (sB s (sB s (sB s (sT s (sB s (sT s (sT s σ))))))))), .int .i64 (vB s (sT s (sB s (sB s (sB s (sB s (sT s (sB s (sT s (sT s σ))))))))))] 54)).cell? ⟨bc, 3, none⟩ = _ := qc
                              go_simp
                              refine hK'.out _ _ trivial (fun hHeld' => ?_)
                              clear hK' K hHeld
                              have hHeld := hHeld'
                              clear hHeld'
                              try simp only [Act.put]
                              try simp only [List.setIfInBounds_toArray, List.set_cons_zero, List.set_cons_succ]
                              clear qc
                              have hTa := HTa.out
                              have hlo := hTa.low
                              have hx := hxl
                              refine wpAnyH_ready (rs := [24]) (by kernel_rfl) (by simp) ?_
                              refine' (AllReadyH.cons (o := _) ?hoN3_76yc24 (fun K hK' => ?stN3_76yc24) AllReadyH.nil)
                              case hoN3_76yc24 => (simp only [List.getElem?_toArray, List.getElem?_cons_succ, List.getElem?_cons_zero]; rfl)
                              case stN3_76yc24 =>
                                rw [if_pos (by rfl)]
                                refine wp_append_any _ (.tmp 64) (.tmp 86) 26 rfl W.heap.size 54 i0 _ 10 80 Try.underlying26 HI.out.1 HI.out.2.1 HI.out.2.2.1 HI.out.2.2.2 rfl (by decide) (.slice a3 X3.length c3) X3.length (rwf X3) rfl hTa.o3 _ (some ⟨U10.heap.size, 0, none⟩) 1 1 (rwc [vT s σ, vT s (sT s σ), vB s (sT s (sT s σ)), vT s (sB s (sT s (sT s σ))), vB s (sT s (sB s (sT s (sT s σ)))), vB s (sB s (sT s (sB s (sT s (sT s σ))))), vB s (sB s (sB s (sT s (sB s (sT s (sT s σ)))))), vB s (sB s (sB s (sB s (sT s (sB s (sT s (sT s σ))))))), vT s (sB s (sB s (sB s (sB s (sT s (sB s (sT s (sT s σ)))))))), vB s (sT s (sB s (sB s (sB s (sB s (sT s (sB s (sT s (sT s σ)))))))))]) rfl (tc_own (B := 0) U10 rfl) (rwc_cell _) (by simp only [maxLen]; omega) (by omega) hlo.1 ?_
                                intro v1 V1 own1 g1 at1
                                obtain ⟨p1, cc1, rfl⟩ := own_form own1
                                refine hK'.out _ _ trivial (fun hHeld' => ?_)
                                clear hK' K hHeld
                                have hHeld := hHeld'
                                clear hHeld'
                                try simp only [Act.put]
                                try simp only [List.setIfInBounds_toArray, List.set_cons_zero, List.set_cons_succ]
                                have hbk1 := hTa.bk.grown g1 (fun e => own_blk_ne hTa.o3 hTa.bk (by decide) e.symm)
                                have qc : V1.cell? ⟨bc, 3, none⟩ = some (.slice a3 X3.length c3) := hbk1.cell 3
                                have qf := hbk1.frozen
                                have HN := Lib.hid (hTa.grow3 (r := [vT s σ, vT s (sT s σ), vB s (sT s (sT s σ)), vT s (sB s (sT s (sT s σ))), vB s (sT s (sB s (sT s (sT s σ)))), vB s (sB s (sT s (sB s (sT s (sT s σ))))), vB s (sB s (sB s (sT s (sB s (sT s (sT s σ)))))), vB s (sB s (sB s (sB s (sT s (sB s (sT s (sT s σ))))))), vT s (sB s (sB s (sB s (sB s (sT s (sB s (sT s (sT s σ)))))))), vB s (sT s (sB s (sB s (sB s (sB s (sT s (sB s (sT s (sT s σ)))))))))]) rfl own1 g1)
                                clear own1 g1 at1 hbk1 hTa hlo hx HT HTa
                                refine' wpAnyH_take (i := 25) (oi := _) (v := _) ?hN3_76yd25 (by kernel_rfl) (by kernel_rfl) (by kernel_rfl) ?hQN3_76yd25 (Or.inl ⟨?hwN3_76yd25, ?hyN3_76yd25⟩) hHeld ?restN3_76yd25
                                case hN3_76yd25 => (simp only [List.getElem?_toArray, List.getElem?_cons_succ, List.getElem?_cons_zero]; rfl)
                                case hQN3_76yd25 => exact fun _ _ _ h => h
                                case hwN3_76yd25 => rfl
                                case hyN3_76yd25 => (intro w hSw; (try dsimp only at hSw); go_simp; try with_reducible rfl)
                                try simp only [Act.put, List.setIfInBounds_toArray, List.set_cons_zero, List.set_cons_succ]
                                refine wpAnyH_ready (rs := [26]) (by kernel_rfl) (by simp) ?_
                                refine' (AllReadyH.cons (o := _) ?hoN3_76ye26 (fun K hK' => ?stN3_76ye26) AllReadyH.nil)
                                case hoN3_76ye26 => (simp only [List.getElem?_toArray, List.getElem?_cons_succ, List.getElem?_cons_zero]; rfl)
                                case stN3_76ye26 =>
                                  go_simp
                                  refine hK'.out _ _ trivial (fun hHeld' => ?_)
                                  clear hK' K hHeld
                                  have hHeld := hHeld'
                                  clear hHeld'
                                  try simp only [Act.put]
                                  try simp only [List.setIfInBounds_toArray, List.set_cons_zero, List.set_cons_succ]
                                  refine wpAnyH_done (by kernel_rfl) ?_ _
                                  clear hHeld qc qf
                                  go_wp2
                                  go_step3
                                  exact Or.inr (Or.inr ⟨rfl, ⟨_, _, _, _, _, _, _, _, _, _, _, _, _, _, rfl, rfl, rfl, rfl, rfl, rfl, HPN.out, HN.out⟩, by show (n - 1).toNat < n.toNat; omega⟩)
    · have hne : (σ.2 == 0) = false := by simpa using he
      have HC := Lib.hid (errR HT.out)
      go_wp2_with fail
      refine HC.out.mono ?_
      clear HC
      rintro e U ⟨rfl, hT, _⟩
      clear HT
      have HT := Lib.hid hT
      clear hT
      have hfin := HPH.out.done (fun h9 => he h9.2)
      have HFIN := Lib.hid hfin
      clear hfin
      obtain ⟨k0, k1, k2, k3⟩ := blk4 HT.out.bk
      obtain ⟨z0, z1, z2, z3⟩ := blk4 HT.out.rb
      have zf := HT.out.rb.frozen
      go_wp2
      simp only [Ex3]
      refine bodyPost_ret (v := .agg #[.int .i64 fr, .slice a1 X1.length c1, .slice a2 X2.length c2, .slice a3 X3.length c3]) (by simp [results, Try.results21, go_sem, z0, z1, z2, z3]) rfl ?_
      exact tab_end HT.out HFIN.out (((((Keeps.refl [_] _).setCell (p := ⟨_, 0, none⟩) (by simp) _).setCell (p := ⟨_, 1, none⟩) (by simp) _).setCell (p := ⟨_, 2, none⟩) (by simp) _).setCell (p := ⟨_, 3, none⟩) (by simp) _)
  · have hfin := HPH.out.done (fun h9 => hn h9.1)
    have HFIN := Lib.hid hfin
    clear hfin
    obtain ⟨k0, k1, k2, k3⟩ := blk4 HT.out.bk
    obtain ⟨z0, z1, z2, z3⟩ := blk4 HT.out.rb
    have zf := HT.out.rb.frozen
    go_wp2
    simp only [Ex3]
    refine bodyPost_ret (v := .agg #[.int .i64 fr, .slice a1 X1.length c1, .slice a2 X2.length c2, .slice a3 X3.length c3]) (by simp [results, Try.results21, go_sem, z0, z1, z2, z3]) rfl ?_
    exact tab_end HT.out HFIN.out (((((Keeps.refl [_] _).setCell (p := ⟨_, 0, none⟩) (by simp) _).setCell (p := ⟨_, 1, none⟩) (by simp) _).setCell (p := ⟨_, 2, none⟩) (by simp) _).setCell (p := ⟨_, 3, none⟩) (by simp) _)
end Im
end Go.Proofs.Ytjdhkpafbejodaa
