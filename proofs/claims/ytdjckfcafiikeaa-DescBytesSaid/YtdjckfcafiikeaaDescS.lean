/- The law DescStays: its walk. -/
import Derived.Test.YtdjckfcafiikeaaDescL
namespace Go.Proofs.Ytdjckfcafiikeaa
open Go.RowKit
attribute [local go_sem] Bw.and255 Bw.and65535
namespace De
open Sm
theorem cell_lt' {w : World} {a : Addr} {v : Value} (h : w.cell? a = some v) : a.block < w.heap.size := World.block_lt_of_cell? w a h
theorem u8_bd {n : Int} (h : (Lit.int .u8 n).wf = true) : 0 ≤ n ∧ n ≤ 255 := by
  simp [Lit.wf, IntKind.min, IntKind.max, IntKind.signed, IntKind.bits] at h
  omega
theorem i64_bd {n : Int} (h : (Lit.int .i64 n).wf = true) : -9223372036854775808 ≤ n ∧ n ≤ 9223372036854775807 := by
  simp [Lit.wf, IntKind.min, IntKind.max, IntKind.signed, IntKind.bits] at h
  omega
/-- What is not wrong. -/
theorem chk_ok (w a l g size sec : Int) (h : chk w a l g size sec = 0) : 1 ≤ w ∧ w ≤ 6 ∧ 0 ≤ l ∧ l ≤ 32 ∧ 0 ≤ a ∧ l ≤ size ∧ a ≤ size - l ∧ (5 ≤ w → 0 ≤ g ∧ l / 16 ≤ sec ∧ g ≤ sec - l / 16 ∧ l % 16 = 0) := by
  unfold chk at h
  split at h
  · omega
  · split at h
    · omega
    · split at h
      · omega
      · split at h
        · omega
        · split at h
          · omega
          · rename_i h1 h2 h3 h4 h5
            refine ⟨by omega, by omega, by omega, by omega, by omega, by omega, by omega, fun hw => ⟨by omega, by omega, by omega, ?_⟩⟩
            have hm : l.tmod 16 = 0 := by
              by_cases hm : l.tmod 16 = 0
              · exact hm
              · exact absurd ⟨hw, .inl hm⟩ h2
            rw [← Int.tmod_eq_emod_of_nonneg (by omega)]; exact hm
theorem fr_one (w : Int) (h0 : 1 ≤ w) (h1 : w ≤ 6) : fillsB w = true ∨ (fillsB w = false ∧ readsB w = true) := by
  unfold fillsB readsB
  have : w = 1 ∨ w = 2 ∨ w = 3 ∨ w = 4 ∨ w = 5 ∨ w = 6 := by omega
  rcases this with rfl | rfl | rfl | rfl | rfl | rfl <;> decide
attribute [local irreducible] chk fillsB readsB
set_option maxRecDepth 100000 in
set_option maxHeartbeats 4000000 in
theorem stays_law (w st a l g b0 size b2 b3 b4 b5 b6 b7 b8 sec : Int) (W : World) (ww : (Lit.int .u8 w).wf = true) (_ : (Lit.int .u8 st).wf = true) (_ : (Lit.int .i64 a).wf = true) (_ : (Lit.int .i64 l).wf = true) (_ : (Lit.int .i64 g).wf = true)
    (_ : (Lit.int .i64 b0).wf = true) (ws : (Lit.int .i64 size).wf = true) (_ : (Lit.int .i64 b2).wf = true) (_ : (Lit.int .i64 b3).wf = true) (_ : (Lit.int .i64 b4).wf = true) (_ : (Lit.int .i64 b5).wf = true) (_ : (Lit.int .i64 b6).wf = true) (_ : (Lit.int .i64 b7).wf = true) (_ : (Lit.int .i64 b8).wf = true) (wc : (Lit.int .i64 sec).wf = true) :
    Calls Try.prog 3 #[.agg #[.int .u8 w, .int .u8 st, .int .i64 a, .int .i64 l, .int .i64 g], .agg #[.int .i64 b0, .int .i64 size, .int .i64 b2, .int .i64 b3, .int .i64 b4, .int .i64 b5, .int .i64 b6, .int .i64 b7, .int .i64 b8, .int .i64 sec]] W fun e W' => e = .returned (.bool true) ∧ Below W.heap.size W W' := by
  obtain ⟨w0, w1⟩ := u8_bd ww
  obtain ⟨s0, s1⟩ := i64_bd ws
  obtain ⟨t0, t1⟩ := i64_bd wc
  clear ww ws wc
  have HK := Lib.hid (fun V => check_any w st a l g b0 size b2 b3 b4 b5 b6 b7 b8 sec V w0 w1 s0 s1 t0 t1)
  have HR := Lib.hid (fun V => rcheck_any w st a l g b0 size b2 b3 b4 b5 b6 b7 b8 sec V w0 w1 s0 s1 t0 t1)
  by_cases hz : chk w a l g size sec = 0
  · rw [hz] at HK
    have HO := Lib.hid (chk_ok _ _ _ _ _ _ hz)
    clear hz
    go_enter Try.func3, Try.ntmps3
    go_wp2_with fail
    refine (HK.out _).mono ?_
    rintro e v1 ⟨rfl, hb1⟩
    have hd1 := ((Blk.new W 24 #[.int .u8 w, .int .u8 st, .int .i64 a, .int .i64 l, .int .i64 g]).alloc (.cells #[.int .i64 b0, .int .i64 size, .int .i64 b2, .int .i64 b3, .int .i64 b4, .int .i64 b5, .int .i64 b6, .int .i64 b7, .int .i64 b8, .int .i64 sec] 26)).below hb1 (by simp; omega)
    have hc1 : Blk v1 (W.heap.size + 1) 26 #[.int .i64 b0, .int .i64 size, .int .i64 b2, .int .i64 b3, .int .i64 b4, .int .i64 b5, .int .i64 b6, .int .i64 b7, .int .i64 b8, .int .i64 sec] := by
      have := (Blk.new (W.alloc (.cells #[.int .u8 w, .int .u8 st, .int .i64 a, .int .i64 l, .int .i64 g] 24)) 26 #[.int .i64 b0, .int .i64 size, .int .i64 b2, .int .i64 b3, .int .i64 b4, .int .i64 b5, .int .i64 b6, .int .i64 b7, .int .i64 b8, .int .i64 sec]).below hb1 (by simp)
      simpa using this
    have HB : Hid (Below W.heap.size W v1) := (((Below.refl _ W).alloc (Nat.le_refl _) (.cells #[.int .u8 w, .int .u8 st, .int .i64 a, .int .i64 l, .int .i64 g] 24)).alloc (by simp) (.cells #[.int .i64 b0, .int .i64 size, .int .i64 b2, .int .i64 b3, .int .i64 b4, .int .i64 b5, .int .i64 b6, .int .i64 b7, .int .i64 b8, .int .i64 sec] 26)).trans (hb1.mono (by simp; omega))
    have p0 : v1.cell? ⟨W.heap.size, 0, none⟩ = some (.int .u8 w) := hd1.cell 0
    have p2 : v1.cell? ⟨W.heap.size, 2, none⟩ = some (.int .i64 a) := hd1.cell 2
    have p3 : v1.cell? ⟨W.heap.size, 3, none⟩ = some (.int .i64 l) := hd1.cell 3
    have p4 : v1.cell? ⟨W.heap.size, 4, none⟩ = some (.int .i64 g) := hd1.cell 4
    have q1 : v1.cell? ⟨W.heap.size + 1, 1, none⟩ = some (.int .i64 size) := hc1.cell 1
    have q9 : v1.cell? ⟨W.heap.size + 1, 9, none⟩ = some (.int .i64 sec) := hc1.cell 9
    obtain ⟨k1, k2, k3, k4, k5, k6, k7, k8⟩ := HO.out
    clear hb1 hd1 hc1 HO HK HR
    generalize W.heap.size + 1 = bc at *
    generalize hbd : W.heap.size = bd at *
    have HBD := Lib.hid hbd
    clear hbd
    have HFR := Lib.hid (fr_one w k1 k2)
    go_wp2
    go_loop [5] (fun i => ∃ k : Nat, (k : Int) ≤ l ∧ i = .int .i64 k) (fun i => (l - intOf i).toNat)
    case atStart => exact ⟨0, by omega, rfl⟩
    case round =>
      obtain ⟨k, hkl, rfl⟩ := hrel
      by_cases hlt : (k : Int) < l
      · go_wp2
        go_round
        case rel => exact ⟨k + 1, by omega, by go_num⟩
        case measure => simp [intOf]; omega
      · clear hkl
        go_wp2
        clear hlt
        go_loop [6] (fun i => ∃ k : Nat, (k = 0 ∨ (5 ≤ w ∧ 16 * (k : Int) ≤ l)) ∧ k ≤ 2 ∧ i = .int .i64 k) (fun i => (2 - intOf i).toNat)
        case atStart => exact ⟨0, .inl rfl, by omega, rfl⟩
        case round =>
          obtain ⟨k, hk, hk2, rfl⟩ := hrel
          have hfr := HFR.out
          clear HFR
          by_cases hw : w = 5 ∨ w = 6
          · have HFr := Lib.hid hfr
            clear hfr
            have h56 : 5 ≤ w := by omega
            obtain ⟨g0, g1, g2, g3⟩ := k8 h56
            have hbb : ((w == 5) = true ∨ ((w == 5) = false ∧ (w == 6) = true)) := by
              rcases hw with h | h
              · exact .inl (by simp [h])
              · exact .inr ⟨by simp [h], by simp [h]⟩
            clear hw
            rcases hbb with a5 | ⟨a5, a6⟩
            all_goals
              have hk' : 16 * (k : Int) ≤ l := by omega
              clear k8 hk
              have HMod := Lib.hid g3
              by_cases hlt : 16 * (k : Int) < l
              · clear g3
                have hgk : g ≤ sec - 1 - k := by have := HMod.out; omega
                go_wp2
                go_round
                case rel => exact ⟨k + 1, .inr ⟨h56, by have := HMod.out; omega⟩, by omega, by go_num⟩
                case measure => simp [intOf]; omega
              · have hfr := HFr.out
                clear g3 HFr HMod
                go_wp2_with fail
                refine (live_any _).mono ?_
                rintro e v2 ⟨rfl, hb2⟩
                have p0' : v2.cell? ⟨bd, 0, none⟩ = some (.int .u8 w) := (hb2.cell (p := ⟨bd, 0, none⟩) (cell_lt' p0)).trans p0
                have HB2 : Hid (Below bd W v2) := HB.out.trans (hb2.mono (by rw [← HBD.out]; rw [← HBD.out] at HB; exact HB.out.size))
                clear hb2
                rcases hfr with hf | ⟨hf, hr⟩
                · have HF := Lib.hid (fun V => fills_any w V)
                  rw [hf] at HF
                  clear hf
                  go_wp2_with fail
                  refine (HF.out _).mono ?_
                  rintro e v3 ⟨rfl, rfl⟩
                  go_wp2
                  go_ret
                  exact ⟨rfl, by rw [HBD.out]; exact HB2.out⟩
                · have HF := Lib.hid (fun V => fills_any w V)
                  have HG := Lib.hid (fun V => reads_any w V)
                  rw [hf] at HF
                  rw [hr] at HG
                  clear hf hr
                  go_wp2_with fail
                  refine (HF.out _).mono ?_
                  rintro e v3 ⟨rfl, rfl⟩
                  go_wp2_with fail
                  refine (HG.out _).mono ?_
                  rintro e v3 ⟨rfl, rfl⟩
                  go_wp2
                  go_ret
                  exact ⟨rfl, by rw [HBD.out]; exact HB2.out⟩
          · have a5 : (w == 5) = false := by simp; omega
            have a6 : (w == 6) = false := by simp; omega
            clear k8 hk hw
            go_wp2_with fail
            refine (live_any _).mono ?_
            rintro e v2 ⟨rfl, hb2⟩
            have p0' : v2.cell? ⟨bd, 0, none⟩ = some (.int .u8 w) := (hb2.cell (p := ⟨bd, 0, none⟩) (cell_lt' p0)).trans p0
            have HB2 : Hid (Below bd W v2) := HB.out.trans (hb2.mono (by rw [← HBD.out]; rw [← HBD.out] at HB; exact HB.out.size))
            clear hb2
            rcases hfr with hf | ⟨hf, hr⟩
            · have HF := Lib.hid (fun V => fills_any w V)
              rw [hf] at HF
              clear hf
              go_wp2_with fail
              refine (HF.out _).mono ?_
              rintro e v3 ⟨rfl, rfl⟩
              go_wp2
              go_ret
              exact ⟨rfl, by rw [HBD.out]; exact HB2.out⟩
            · have HF := Lib.hid (fun V => fills_any w V)
              have HG := Lib.hid (fun V => reads_any w V)
              rw [hf] at HF
              rw [hr] at HG
              clear hf hr
              go_wp2_with fail
              refine (HF.out _).mono ?_
              rintro e v3 ⟨rfl, rfl⟩
              go_wp2_with fail
              refine (HG.out _).mono ?_
              rintro e v3 ⟨rfl, rfl⟩
              go_wp2
              go_ret
              exact ⟨rfl, by rw [HBD.out]; exact HB2.out⟩
  · have hne : (chk w a l g size sec != 0) = true := by rw [bne_iff_ne]; exact hz
    clear hz
    generalize chk w a l g size sec = z at *
    go_enter Try.func3, Try.ntmps3
    go_wp2_with fail
    refine (HK.out _).mono ?_
    rintro e v1 ⟨rfl, hb1⟩
    have HB : Hid (Below W.heap.size W v1) := (((Below.refl _ W).alloc (Nat.le_refl _) (.cells #[.int .u8 w, .int .u8 st, .int .i64 a, .int .i64 l, .int .i64 g] 24)).alloc (by simp) (.cells #[.int .i64 b0, .int .i64 size, .int .i64 b2, .int .i64 b3, .int .i64 b4, .int .i64 b5, .int .i64 b6, .int .i64 b7, .int .i64 b8, .int .i64 sec] 26)).trans (hb1.mono (by simp; omega))
    have hd1 := ((Blk.new W 24 #[.int .u8 w, .int .u8 st, .int .i64 a, .int .i64 l, .int .i64 g]).alloc (.cells #[.int .i64 b0, .int .i64 size, .int .i64 b2, .int .i64 b3, .int .i64 b4, .int .i64 b5, .int .i64 b6, .int .i64 b7, .int .i64 b8, .int .i64 sec] 26)).below hb1 (by simp; omega)
    have hc1 : Blk v1 (W.heap.size + 1) 26 #[.int .i64 b0, .int .i64 size, .int .i64 b2, .int .i64 b3, .int .i64 b4, .int .i64 b5, .int .i64 b6, .int .i64 b7, .int .i64 b8, .int .i64 sec] := by
      have := (Blk.new (W.alloc (.cells #[.int .u8 w, .int .u8 st, .int .i64 a, .int .i64 l, .int .i64 g] 24)) 26 #[.int .i64 b0, .int .i64 size, .int .i64 b2, .int .i64 b3, .int .i64 b4, .int .i64 b5, .int .i64 b6, .int .i64 b7, .int .i64 b8, .int .i64 sec]).below hb1 (by simp)
      simpa using this
    clear hb1 HK
    have HD := Lib.hid hd1
    have HC := Lib.hid hc1
    clear hd1 hc1
    go_wp2_with fail
    refine (live_any _).mono ?_
    rintro e v2 ⟨rfl, hb2⟩
    have hd2 := HD.out.below hb2 HD.out.lt
    have hc2 := HC.out.below hb2 HC.out.lt
    have HB2 : Hid (Below W.heap.size W v2) := HB.out.trans (hb2.mono HB.out.size)
    have p0 : v2.cell? ⟨W.heap.size, 0, none⟩ = some (.int .u8 w) := hd2.cell 0
    have p1 : v2.cell? ⟨W.heap.size, 1, none⟩ = some (.int .u8 st) := hd2.cell 1
    have p2 : v2.cell? ⟨W.heap.size, 2, none⟩ = some (.int .i64 a) := hd2.cell 2
    have p3 : v2.cell? ⟨W.heap.size, 3, none⟩ = some (.int .i64 l) := hd2.cell 3
    have p4 : v2.cell? ⟨W.heap.size, 4, none⟩ = some (.int .i64 g) := hd2.cell 4
    have q0 : v2.cell? ⟨W.heap.size + 1, 0, none⟩ = some (.int .i64 b0) := hc2.cell 0
    have q1 : v2.cell? ⟨W.heap.size + 1, 1, none⟩ = some (.int .i64 size) := hc2.cell 1
    have q2 : v2.cell? ⟨W.heap.size + 1, 2, none⟩ = some (.int .i64 b2) := hc2.cell 2
    have q3 : v2.cell? ⟨W.heap.size + 1, 3, none⟩ = some (.int .i64 b3) := hc2.cell 3
    have q4 : v2.cell? ⟨W.heap.size + 1, 4, none⟩ = some (.int .i64 b4) := hc2.cell 4
    have q5 : v2.cell? ⟨W.heap.size + 1, 5, none⟩ = some (.int .i64 b5) := hc2.cell 5
    have q6 : v2.cell? ⟨W.heap.size + 1, 6, none⟩ = some (.int .i64 b6) := hc2.cell 6
    have q7 : v2.cell? ⟨W.heap.size + 1, 7, none⟩ = some (.int .i64 b7) := hc2.cell 7
    have q8 : v2.cell? ⟨W.heap.size + 1, 8, none⟩ = some (.int .i64 b8) := hc2.cell 8
    have q9 : v2.cell? ⟨W.heap.size + 1, 9, none⟩ = some (.int .i64 sec) := hc2.cell 9
    clear hd2 hc2 hb2 HD HC HB
    go_wp2_with fail
    refine (HR.out _).mono ?_
    rintro e v3 ⟨rfl, hb3⟩
    go_wp2
    go_ret
    exact ⟨rfl, HB2.out.trans (hb3.mono HB2.out.size)⟩
end De
end Go.Proofs.Ytdjckfcafiikeaa
