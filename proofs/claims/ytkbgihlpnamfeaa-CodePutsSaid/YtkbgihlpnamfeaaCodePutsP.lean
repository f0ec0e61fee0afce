/- CodePuts: for every input the law answers true, and what came in reads as it did: the walk joined to the row. No condition. -/
import Derived.Test.YtkbgihlpnamfeaaRows
import Derived.Test.YtkbgihlpnamfeaaCodeN
import Derived.WalkKit
import Derived.ProofKit
import Derived.OpenShut
import Derived.ShutString
import Derived.ChangeOld
import Derived.Below
import Derived.Test.YtkbgihlpnamfeaaAgg
namespace Go.Proofs.Ytkbgihlpnamfeaa.codePuts
open Go.ChangeShapes Go.WideShapes Go.ChangeAt Go.RowKit
open Go.ChangeMaps (open_string shut_string)
set_option linter.unusedVariables false
theorem own : ownKnob Try.prog.godebug = none := by kernel_rfl
theorem laidOut : laidOutB Try.prog = true := by kernel_rfl
set_option maxRecDepth 100000 in
theorem lifted (os : Os) (started : os.Started) (H : Type) (enc : TypeId × Value → H) :
    ReturnsInHanded {} Try.checked os 4 .any (Rows.codePutsSpec.pre6 enc Try.prog Try.f4 Rows.codePutsRow.domain false) (Rows.codePutsSpec.post enc Try.prog Try.f4 false true false false) := by
  refine returnsInHanded_of_change (C := Try.checked) own started (by kernel_rfl) Try.func4
    (ChangeSpec.witness6 (enc := enc) (C := Try.checked) false ⟨#[], #[.agg #[.int .u8 0, .int .i64 0, .int .i64 0]], []⟩ 8 (by kernel_rfl) (by kernel_rfl) (by kernel_rfl) (by kernel_rfl)) ?_
  intro W base args ds gs before hval0 hW hcnd _
  have hval : ∀ (j : Nat) t v, Try.f4.params[j]? = some t → args[j]? = some v → Value.okWide Try.prog W .any base t v := hval0
  have hW' := hW
  obtain ⟨p, q, hA0, hV, rfl, hfz, hnd⟩ := hW
  have hA : DataW.TrodAll enc Try.prog W 0 (fun _ => true) true Try.f4.params.toList args.toList ds p := hA0
  rw [Try.params4] at hA hval
  obtain ⟨v0, vs0, d0, ds0, p0, q0, hargs, rfl, rfl, h0, r0⟩ := trodAll_cons hA
  obtain ⟨rfl, rfl, rfl⟩ := trodAll_nil r0
  obtain rfl : args = #[v0] := by cases args; simp_all
  obtain ⟨rfl, rfl⟩ := trodVars_none hV
  have k0 := h0
  have lt0 : ∀ x ∈ p0, x.block < W.heap.size := by obtain ⟨m, hm⟩ := k0; exact DataW.trod_lt m _ _ _ hm
  obtain ⟨cs0, hv0, hl0, hc0⟩ := Sm.agg_of ([.int .u8, .int .i64, .int .i64] : List TypeDesc) Try.underlying24 (by kernel_rfl) (by kernel_rfl) rfl (by
    intro j f k hf hk
    rcases j with _ | _ | _ | j <;> simp at hf hk <;> subst hf <;> subst hk <;> first | exact Try.underlying22 | exact Try.underlying3) (hval 0 24 v0 rfl rfl) h0
  obtain ⟨a0_0, a0_1, a0_2, hq0⟩ := Sm.list3 hl0
  subst hq0
  obtain ⟨x0_0, e, n0_0, rfl, w0_0⟩ := hc0 0 _ rfl
  simp at e
  subst e
  obtain ⟨x0_1, e, n0_1, rfl, w0_1⟩ := hc0 1 _ rfl
  simp at e
  subst e
  obtain ⟨x0_2, e, n0_2, rfl, w0_2⟩ := hc0 2 _ rfl
  simp at e
  subst e
  subst hv0
  clear hA0 hval0
  refine (Co.puts_law n0_0 n0_1 n0_2 W w0_0 w0_1 w0_2).mono fun e W' ⟨he, bel⟩ => ?_
  subst he
  exact ⟨_, rfl, _, _, _, [], _, [], hW', trodAll_mk1 (shut_bool Try.underlying4 _), (trodAll_cons_mk (Below.trod laidOut (by kernel_rfl) (of_decide_eq_true (by kernel_rfl)) k0 bel lt0) trodAll_mk0), rfl, bel.frame _, fun h => by cases h⟩
theorem over : Rows.codePutsRow.holds Try.pinned (OpenSpec.ofChange Rows.codePutsSpec) :=
  OpenClaim.holds_of_wide 4 Try.f4 rfl rfl rfl rfl rfl rfl rfl ⟨rfl, rfl, rfl, rfl, rfl⟩ rfl rfl rfl rfl rfl (by kernel_rfl) Try.func4 (by kernel_rfl)
    (of_decide_eq_true (by kernel_rfl)) (by unfold Func.isWrapper; first | (rw [if_pos (by decide +kernel)]; kernel_rfl) | (rw [if_neg (by decide +kernel)]; exact ⟨rfl, rfl⟩))
    (fun os started H enc _ => lifted os started H enc)
/-- The statement. -/
theorem proved : Rows.CodePutsSaid := over
#print axioms proved
end Go.Proofs.Ytkbgihlpnamfeaa.codePuts
