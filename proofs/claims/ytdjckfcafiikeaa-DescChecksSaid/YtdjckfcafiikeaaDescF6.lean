/- The law DescChecks: its walk, by what is asked for (6; 0: none of 1 to 6). -/
import Derived.Test.YtdjckfcafiikeaaDescE
import Derived.Deep.RegionHeld3
namespace Go.Proofs.Ytdjckfcafiikeaa
open Go.RowKit
attribute [local go_sem] Bw.and255 Bw.and65535
namespace De
open Sm Bi
attribute [local irreducible] fillsB readsB
set_option maxRecDepth 100000 in
set_option maxHeartbeats 4000000 in
theorem checks_6 (st a l g b0 size b2 b3 b4 b5 b6 b7 b8 sec x n : Int) (W : World) (_ : (Lit.int .u8 st).wf = true) (_ : (Lit.int .i64 a).wf = true) (_ : (Lit.int .i64 l).wf = true) (_ : (Lit.int .i64 g).wf = true)
    (_ : (Lit.int .i64 b0).wf = true) (ws : (Lit.int .i64 size).wf = true) (_ : (Lit.int .i64 b2).wf = true) (_ : (Lit.int .i64 b3).wf = true) (_ : (Lit.int .i64 b4).wf = true) (_ : (Lit.int .i64 b5).wf = true) (_ : (Lit.int .i64 b6).wf = true) (_ : (Lit.int .i64 b7).wf = true) (_ : (Lit.int .i64 b8).wf = true) (wc : (Lit.int .i64 sec).wf = true) (_ : (Lit.int .i64 x).wf = true) (_ : (Lit.int .i64 n).wf = true) :
    Calls Try.prog 4 #[.agg #[.int .u8 6, .int .u8 st, .int .i64 a, .int .i64 l, .int .i64 g], .agg #[.int .i64 b0, .int .i64 size, .int .i64 b2, .int .i64 b3, .int .i64 b4, .int .i64 b5, .int .i64 b6, .int .i64 b7, .int .i64 b8, .int .i64 sec], .int .i64 x, .int .i64 n] W fun e W' => e = .returned (.bool true) ∧ Below W.heap.size W W' := by
  obtain ⟨s0, s1⟩ := i64_bd ws
  obtain ⟨t0, t1⟩ := i64_bd wc
  clear ws wc
  have HK := Lib.hid (fun V => check_any 6 st a l g b0 size b2 b3 b4 b5 b6 b7 b8 sec V (by decide) (by decide) s0 s1 t0 t1)
  have HR := Lib.hid (fun V => rcheck_any 6 st a l g b0 size b2 b3 b4 b5 b6 b7 b8 sec V (by decide) (by decide) s0 s1 t0 t1)
  generalize chk 6 a l g size sec = ck at *
  clear s0 s1 t0 t1
  obtain ⟨s, hs⟩ : ∃ s, x % 256 = s := ⟨_, rfl⟩
  obtain ⟨p, hp⟩ : ∃ p, n % 256 = p := ⟨_, rfl⟩
  obtain ⟨q, hq⟩ : ∃ q, n / 256 % 256 = q := ⟨_, rfl⟩
  have HC := Lib.hid (fun V => closed_any 6 st a l g x n s p q hs hp hq V)
  have H1 := Lib.hid (fun V => rlow_is x s hs V)
  have H2 := Lib.hid (fun V => rlow_is n p hp V)
  have H3 := Lib.hid (fun V => rhigh_is n q hq V)
  have u0 : 0 ≤ s := by omega
  have u1 : s ≤ 255 := by omega
  have u2 : 0 ≤ p := by omega
  have u3 : p ≤ 255 := by omega
  have u4 : 0 ≤ q := by omega
  have u5 : q ≤ 255 := by omega
  clear hs hp hq
  go_enter Try.func4, Try.ntmps4
  go_wp2_with fail
  refine (HC.out _).mono ?_
  rintro e v1 ⟨rfl, hb1⟩
  have hd1 : Blk v1 W.heap.size 24 #[.int .u8 6, .int .u8 st, .int .i64 a, .int .i64 l, .int .i64 g] := ((Blk.new W 24 #[.int .u8 6, .int .u8 st, .int .i64 a, .int .i64 l, .int .i64 g]).alloc (.cells #[.int .i64 b0, .int .i64 size, .int .i64 b2, .int .i64 b3, .int .i64 b4, .int .i64 b5, .int .i64 b6, .int .i64 b7, .int .i64 b8, .int .i64 sec] 26)).below hb1 (by simp; omega)
  have hc1 : Blk v1 (W.heap.size + 1) 26 #[.int .i64 b0, .int .i64 size, .int .i64 b2, .int .i64 b3, .int .i64 b4, .int .i64 b5, .int .i64 b6, .int .i64 b7, .int .i64 b8, .int .i64 sec] := by
    have := (Blk.new (W.alloc (.cells #[.int .u8 6, .int .u8 st, .int .i64 a, .int .i64 l, .int .i64 g] 24)) 26 #[.int .i64 b0, .int .i64 size, .int .i64 b2, .int .i64 b3, .int .i64 b4, .int .i64 b5, .int .i64 b6, .int .i64 b7, .int .i64 b8, .int .i64 sec]).below hb1 (by simp)
    simpa using this
  have HB1 : Hid (Below W.heap.size W v1) := (((Below.refl _ W).alloc (Nat.le_refl _) (.cells #[.int .u8 6, .int .u8 st, .int .i64 a, .int .i64 l, .int .i64 g] 24)).alloc (by simp) (.cells #[.int .i64 b0, .int .i64 size, .int .i64 b2, .int .i64 b3, .int .i64 b4, .int .i64 b5, .int .i64 b6, .int .i64 b7, .int .i64 b8, .int .i64 sec] 26)).trans (hb1.mono (by simp; omega))
  have hlt := hc1.lt
  have hlt0 := hd1.lt
  have p0 : v1.cell? ⟨W.heap.size, 0, none⟩ = some (.int .u8 6) := hd1.cell 0
  have p1 : v1.cell? ⟨W.heap.size, 1, none⟩ = some (.int .u8 st) := hd1.cell 1
  have p2 : v1.cell? ⟨W.heap.size, 2, none⟩ = some (.int .i64 a) := hd1.cell 2
  have p3 : v1.cell? ⟨W.heap.size, 3, none⟩ = some (.int .i64 l) := hd1.cell 3
  have p4 : v1.cell? ⟨W.heap.size, 4, none⟩ = some (.int .i64 g) := hd1.cell 4
  have HD1 := Lib.hid hd1
  have HC1 := Lib.hid hc1
  clear hd1 hc1 hb1
  generalize hbd : W.heap.size = bd at *
  go_wp2_with fail
  refine (H1.out _).mono ?_
  rintro e v2 ⟨rfl, rfl⟩
  go_wp2_with fail
  refine (H2.out _).mono ?_
  rintro e v2 ⟨rfl, rfl⟩
  go_wp2_with fail
  refine (H3.out _).mono ?_
  rintro e v2 ⟨rfl, rfl⟩
  clear HC H1 H2 H3
  go_wp2_with fail
  have hx1 : Blk (v1.alloc (.cells #[.int .u8 6, .int .u8 s, .int .i64 a, .int .i64 (p + 256 * q), .int .i64 g] 24)) v1.heap.size 24 #[.int .u8 6, .int .u8 s, .int .i64 a, .int .i64 (p + 256 * q), .int .i64 g] := Blk.new _ _ _
  have hF : Four W ((v1.alloc (.cells #[.int .u8 6, .int .u8 s, .int .i64 a, .int .i64 (p + 256 * q), .int .i64 g] 24)).alloc (.cells #[.int .u8 6, .int .u8 s, .int .i64 a, .int .i64 (p + 256 * q), .int .i64 g] 24)) bd v1.heap.size #[.int .u8 6, .int .u8 st, .int .i64 a, .int .i64 l, .int .i64 g] #[.int .i64 b0, .int .i64 size, .int .i64 b2, .int .i64 b3, .int .i64 b4, .int .i64 b5, .int .i64 b6, .int .i64 b7, .int .i64 b8, .int .i64 sec] #[.int .u8 6, .int .u8 s, .int .i64 a, .int .i64 (p + 256 * q), .int .i64 g] :=
    ⟨(HD1.out.alloc _).alloc _, (HC1.out.alloc _).alloc _, hx1.alloc _, by simpa using Blk.new (v1.alloc (.cells #[.int .u8 6, .int .u8 s, .int .i64 a, .int .i64 (p + 256 * q), .int .i64 g] 24)) 24 #[.int .u8 6, .int .u8 s, .int .i64 a, .int .i64 (p + 256 * q), .int .i64 g], (HB1.out.alloc (by omega) _).alloc (by simp; omega) _⟩
  have HFo := Lib.hid hF
  have HF := Lib.hid (fun V => fills_below 6 V)
  have HRd := Lib.hid (fun V => reads_below 6 V)
  clear hx1 hF HD1 HC1 HB1 p0 p1 p2 p3 p4 hlt hlt0
  generalize (v1.alloc (.cells #[.int .u8 6, .int .u8 s, .int .i64 a, .int .i64 (p + 256 * q), .int .i64 g] 24)).alloc (.cells #[.int .u8 6, .int .u8 s, .int .i64 a, .int .i64 (p + 256 * q), .int .i64 g] 24) = V at *
  generalize v1.heap.size = b1 at *
  have hS := HFo.out.all
  clear HFo
  have h1 : fillsB 6 = false := by unfold fillsB; decide
  have h2 : readsB 6 = true := by unfold readsB; decide
  rw [h1] at HF
  rw [h2] at HRd
  clear h1 h2
  first
  | (
     go_region_held3 (fun V => Hid (Four W V bd b1 #[.int .u8 6, .int .u8 st, .int .i64 a, .int .i64 l, .int .i64 g] #[.int .i64 b0, .int .i64 size, .int .i64 b2, .int .i64 b3, .int .i64 b4, .int .i64 b5, .int .i64 b6, .int .i64 b7, .int .i64 b8, .int .i64 sec] #[.int .u8 6, .int .u8 s, .int .i64 a, .int .i64 (p + 256 * q), .int .i64 g]) ∧ V.cell? ⟨bd, 0, none⟩ = some (.int .u8 6) ∧ V.cell? ⟨bd, 1, none⟩ = some (.int .u8 st) ∧ V.cell? ⟨bd, 2, none⟩ = some (.int .i64 a) ∧ V.cell? ⟨bd, 3, none⟩ = some (.int .i64 l) ∧ V.cell? ⟨bd, 4, none⟩ = some (.int .i64 g) ∧ V.cell? ⟨bd + 1, 0, none⟩ = some (.int .i64 b0) ∧ V.cell? ⟨bd + 1, 1, none⟩ = some (.int .i64 size) ∧ V.cell? ⟨bd + 1, 2, none⟩ = some (.int .i64 b2) ∧ V.cell? ⟨bd + 1, 3, none⟩ = some (.int .i64 b3) ∧ V.cell? ⟨bd + 1, 4, none⟩ = some (.int .i64 b4) ∧ V.cell? ⟨bd + 1, 5, none⟩ = some (.int .i64 b5) ∧ V.cell? ⟨bd + 1, 6, none⟩ = some (.int .i64 b6) ∧ V.cell? ⟨bd + 1, 7, none⟩ = some (.int .i64 b7) ∧ V.cell? ⟨bd + 1, 8, none⟩ = some (.int .i64 b8) ∧ V.cell? ⟨bd + 1, 9, none⟩ = some (.int .i64 sec) ∧ V.cell? ⟨b1, 0, none⟩ = some (.int .u8 6) ∧ V.cell? ⟨b1, 1, none⟩ = some (.int .u8 s) ∧ V.cell? ⟨b1, 2, none⟩ = some (.int .i64 a) ∧ V.cell? ⟨b1, 3, none⟩ = some (.int .i64 (p + 256 * q)) ∧ V.cell? ⟨b1, 4, none⟩ = some (.int .i64 g) ∧ V.cell? ⟨b1 + 1, 0, none⟩ = some (.int .u8 6) ∧ V.cell? ⟨b1 + 1, 1, none⟩ = some (.int .u8 s) ∧ V.cell? ⟨b1 + 1, 2, none⟩ = some (.int .i64 a) ∧ V.cell? ⟨b1 + 1, 3, none⟩ = some (.int .i64 (p + 256 * q)) ∧ V.cell? ⟨b1 + 1, 4, none⟩ = some (.int .i64 g))
      (first | assumption | exact (‹Hid (Four _ _ _ _ _ _ _) ∧ _›.1.out.keep ((Drawn.draw (Drawn.refl _)).below _)).all | (obtain ⟨hFo, _⟩ := ‹Hid (Four _ _ _ _ _ _ _) ∧ _›; exact (hFo.out.keep hb9).all))
      (first
      | (go_at_call 8; refine (live_any _).mono ?_; rintro e v9 ⟨rfl, hb9⟩)
      | (go_at_call 7; refine (HK.out _).mono ?_; rintro e v9 ⟨rfl, hb9⟩)
      | (go_at_call 9; refine (HR.out _).mono ?_; rintro e v9 ⟨rfl, hb9⟩)
      | (go_at_call 10; refine (HF.out _).mono ?_; rintro e v9 ⟨rfl, hb9⟩)
      | (go_at_call 11; refine (HRd.out _).mono ?_; rintro e v9 ⟨rfl, hb9⟩)))
  | fail "region"
  clear HK HR HF HRd
  go_wp2
  go_ret
  refine ⟨rfl, ?_⟩
  rw [hbd]
  exact ‹Hid (Four _ _ _ _ _ _ _) ∧ _›.1.out.b
end De
end Go.Proofs.Ytdjckfcafiikeaa
