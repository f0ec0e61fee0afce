/- DescChecks: for every input the law answers true, and what came in reads as it did: the walk joined to the row. No condition. -/
import Derived.Test.YtdjckfcafiikeaaRows
import Derived.Test.YtdjckfcafiikeaaDescG
import Derived.WalkKit
import Derived.ProofKit
import Derived.OpenShut
import Derived.ShutString
import Derived.ChangeOld
import Derived.Below
import Derived.Test.YtdjckfcafiikeaaAgg
namespace Go.Proofs.Ytdjckfcafiikeaa.descChecks
open Go.ChangeShapes Go.WideShapes Go.ChangeAt Go.RowKit
open Go.ChangeMaps (open_string shut_string)
set_option linter.unusedVariables false
theorem own : ownKnob Try.prog.godebug = none := by kernel_rfl
theorem laidOut : laidOutB Try.prog = true := by kernel_rfl
set_option maxRecDepth 100000 in
theorem lifted (os : Os) (started : os.Started) (H : Type) (enc : TypeId × Value → H) :
    ReturnsInHanded {} Try.checked os 4 .any (Rows.descChecksSpec.pre6 enc Try.prog Try.f4 Rows.descChecksRow.domain false) (Rows.descChecksSpec.post enc Try.prog Try.f4 false true false false) := by
  refine returnsInHanded_of_change (C := Try.checked) own started (by kernel_rfl) Try.func4
    (ChangeSpec.witness6 (enc := enc) (C := Try.checked) false ⟨#[], #[.agg #[.int .u8 0, .int .u8 0, .int .i64 0, .int .i64 0, .int .i64 0], .agg #[.int .i64 0, .int .i64 0, .int .i64 0, .int .i64 0, .int .i64 0, .int .i64 0, .int .i64 0, .int .i64 0, .int .i64 0, .int .i64 0], .int .i64 0, .int .i64 0], []⟩ 8 (by kernel_rfl) (by kernel_rfl) (by kernel_rfl) (by kernel_rfl)) ?_
  intro W base args ds gs before hval0 hW hcnd _
  have hval : ∀ (j : Nat) t v, Try.f4.params[j]? = some t → args[j]? = some v → Value.okWide Try.prog W .any base t v := hval0
  have hW' := hW
  obtain ⟨p, q, hA0, hV, rfl, hfz, hnd⟩ := hW
  have hA : DataW.TrodAll enc Try.prog W 0 (fun _ => true) true Try.f4.params.toList args.toList ds p := hA0
  rw [Try.params4] at hA hval
  obtain ⟨v0, vs0, d0, ds0, p0, q0, hargs, rfl, rfl, h0, r0⟩ := trodAll_cons hA
  obtain ⟨v1, vs1, d1, ds1, p1, q1, rfl, rfl, rfl, h1, r1⟩ := trodAll_cons r0
  obtain ⟨v2, vs2, d2, ds2, p2, q2, rfl, rfl, rfl, h2, r2⟩ := trodAll_cons r1
  obtain ⟨v3, vs3, d3, ds3, p3, q3, rfl, rfl, rfl, h3, r3⟩ := trodAll_cons r2
  obtain ⟨rfl, rfl, rfl⟩ := trodAll_nil r3
  obtain rfl : args = #[v0, v1, v2, v3] := by cases args; simp_all
  obtain ⟨rfl, rfl⟩ := trodVars_none hV
  have k0 := h0
  have lt0 : ∀ x ∈ p0, x.block < W.heap.size := by obtain ⟨m, hm⟩ := k0; exact DataW.trod_lt m _ _ _ hm
  obtain ⟨cs0, hv0, hl0, hc0⟩ := Sm.agg_of ([.int .u8, .int .u8, .int .i64, .int .i64, .int .i64] : List TypeDesc) Try.underlying24 (by kernel_rfl) (by kernel_rfl) rfl (by
    intro j f k hf hk
    rcases j with _ | _ | _ | _ | _ | j <;> simp at hf hk <;> subst hf <;> subst hk <;> first | exact Try.underlying22 | exact Try.underlying3 | exact Try.underlying5) (hval 0 24 v0 rfl rfl) h0
  obtain ⟨a0_0, a0_1, a0_2, a0_3, a0_4, hq0⟩ := Sm.list5 hl0
  subst hq0
  obtain ⟨x0_0, e, n0_0, rfl, w0_0⟩ := hc0 0 _ rfl
  simp at e
  subst e
  obtain ⟨x0_1, e, n0_1, rfl, w0_1⟩ := hc0 1 _ rfl
  simp at e
  subst e
  obtain ⟨x0_2, e, n0_2, rfl, w0_2⟩ := hc0 2 _ rfl
  simp at e
  subst e
  obtain ⟨x0_3, e, n0_3, rfl, w0_3⟩ := hc0 3 _ rfl
  simp at e
  subst e
  obtain ⟨x0_4, e, n0_4, rfl, w0_4⟩ := hc0 4 _ rfl
  simp at e
  subst e
  subst hv0
  have k1 := h1
  have lt1 : ∀ x ∈ p1, x.block < W.heap.size := by obtain ⟨m, hm⟩ := k1; exact DataW.trod_lt m _ _ _ hm
  obtain ⟨cs1, hv1, hl1, hc1⟩ := Sm.agg_of ([.int .i64, .int .i64, .int .i64, .int .i64, .int .i64, .int .i64, .int .i64, .int .i64, .int .i64, .int .i64] : List TypeDesc) Try.underlying26 (by kernel_rfl) (by kernel_rfl) rfl (by
    intro j f k hf hk
    rcases j with _ | _ | _ | _ | _ | _ | _ | _ | _ | _ | j <;> simp at hf hk <;> subst hf <;> subst hk <;> first | exact Try.underlying3) (hval 1 26 v1 rfl rfl) h1
  obtain ⟨a1_0, a1_1, a1_2, a1_3, a1_4, a1_5, a1_6, a1_7, a1_8, a1_9, hq1⟩ := Sm.list10 hl1
  subst hq1
  obtain ⟨x1_0, e, n1_0, rfl, w1_0⟩ := hc1 0 _ rfl
  simp at e
  subst e
  obtain ⟨x1_1, e, n1_1, rfl, w1_1⟩ := hc1 1 _ rfl
  simp at e
  subst e
  obtain ⟨x1_2, e, n1_2, rfl, w1_2⟩ := hc1 2 _ rfl
  simp at e
  subst e
  obtain ⟨x1_3, e, n1_3, rfl, w1_3⟩ := hc1 3 _ rfl
  simp at e
  subst e
  obtain ⟨x1_4, e, n1_4, rfl, w1_4⟩ := hc1 4 _ rfl
  simp at e
  subst e
  obtain ⟨x1_5, e, n1_5, rfl, w1_5⟩ := hc1 5 _ rfl
  simp at e
  subst e
  obtain ⟨x1_6, e, n1_6, rfl, w1_6⟩ := hc1 6 _ rfl
  simp at e
  subst e
  obtain ⟨x1_7, e, n1_7, rfl, w1_7⟩ := hc1 7 _ rfl
  simp at e
  subst e
  obtain ⟨x1_8, e, n1_8, rfl, w1_8⟩ := hc1 8 _ rfl
  simp at e
  subst e
  obtain ⟨x1_9, e, n1_9, rfl, w1_9⟩ := hc1 9 _ rfl
  simp at e
  subst e
  subst hv1
  obtain ⟨a2, rfl, rfl, rfl, w2⟩ := open_int Try.underlying3 (hval 2 3 v2 rfl rfl) h2
  obtain ⟨a3, rfl, rfl, rfl, w3⟩ := open_int Try.underlying3 (hval 3 3 v3 rfl rfl) h3
  clear hA0 hval0
  refine (De.checks_law n0_0 n0_1 n0_2 n0_3 n0_4 n1_0 n1_1 n1_2 n1_3 n1_4 n1_5 n1_6 n1_7 n1_8 n1_9 a2 a3 W w0_0 w0_1 w0_2 w0_3 w0_4 w1_0 w1_1 w1_2 w1_3 w1_4 w1_5 w1_6 w1_7 w1_8 w1_9 w2 w3).mono fun e W' ⟨he, bel⟩ => ?_
  subst he
  exact ⟨_, rfl, _, _, _, [], _, [], hW', trodAll_mk1 (shut_bool Try.underlying4 _), (trodAll_cons_mk (Below.trod laidOut (by kernel_rfl) (of_decide_eq_true (by kernel_rfl)) k0 bel lt0) (trodAll_cons_mk (Below.trod laidOut (by kernel_rfl) (of_decide_eq_true (by kernel_rfl)) k1 bel lt1) (trodAll_cons_mk (shut_int Try.underlying3 w2) (trodAll_cons_mk (shut_int Try.underlying3 w3) trodAll_mk0)))), rfl, bel.frame _, fun h => by cases h⟩
theorem over : Rows.descChecksRow.holds Try.pinned (OpenSpec.ofChange Rows.descChecksSpec) :=
  OpenClaim.holds_of_wide 4 Try.f4 rfl rfl rfl rfl rfl rfl rfl ⟨rfl, rfl, rfl, rfl, rfl⟩ rfl rfl rfl rfl rfl (by kernel_rfl) Try.func4 (by kernel_rfl)
    (of_decide_eq_true (by kernel_rfl)) (by unfold Func.isWrapper; first | (rw [if_pos (by decide +kernel)]; kernel_rfl) | (rw [if_neg (by decide +kernel)]; exact ⟨rfl, rfl⟩))
    (fun os started H enc _ => lifted os started H enc)
/-- The statement. -/
theorem proved : Rows.DescChecksSaid := over
#print axioms proved
end Go.Proofs.Ytdjckfcafiikeaa.descChecks
