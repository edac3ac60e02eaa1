/- PlanNear: every call of the statement's function answers true, and leaves its arguments as they were; no condition. -/
import Derived.Test.YtomdhjdgcfcjdaaRows
import Derived.Test.YtomdhjdgcfcjdaaPN30
import Derived.Test.YtomdhjdgcfcjdaaTomAQ
import Derived.WalkKit
import Derived.ProofKit
import Derived.OpenShut
import Derived.ShutString
import Derived.ChangeOld
import Derived.Below
import Derived.Carry
import Derived.SizedLaws
namespace Go.Proofs.Ytomdhjdgcfcjdaa.planNear
open Go Go.Tom Go.Proofs.Try Go.ChangeShapes Go.WideShapes Go.ChangeAt Go.RowKit
set_option linter.unusedVariables false
theorem own : ownKnob Try.prog.godebug = none := by kernel_rfl
theorem laidOut : laidOutB Try.prog = true := by kernel_rfl
theorem ty0 : (okB Try.prog T_api_Ratio).1 48 = true := by kernel_rfl
theorem ty1 : (okB Try.prog (.int .i64)).1 3 = true := by kernel_rfl
set_option maxRecDepth 100000 in
theorem lifted (os : Os) (started : os.Started) (H : Type) (enc : TypeId × Value → H) :
    ReturnsInHanded {} Try.checked os 4 .any (Rows.planNearSpec.pre6 enc Try.prog Try.f4 Rows.planNearRow.domain false) (Rows.planNearSpec.post enc Try.prog Try.f4 false true false false) := by
  refine returnsInHanded_of_change_sized (C := Try.checked) own started (by kernel_rfl) Try.func4
    (ChangeSpec.witness6 (enc := enc) (C := Try.checked) false ⟨#[], #[.agg #[.slice none 0 0, .slice none 0 0], .int .i64 0], []⟩ 8 (by kernel_rfl) (by kernel_rfl) (by kernel_rfl) (by kernel_rfl)) ?_
  intro W base args ds gs before hval0 hW hcnd hsz0 _
  have hval : ∀ (j : Nat) t v, Try.f4.params[j]? = some t → args[j]? = some v → Value.okWide Try.prog W .any base t v := hval0
  have hW' := hW
  obtain ⟨p, q, hA0, hV, rfl, hfz, hnd⟩ := hW
  have hA : DataW.TrodAll enc Try.prog W 0 (fun _ => true) true Try.f4.params.toList args.toList ds p := hA0
  rw [Try.params4] at hA hval
  obtain ⟨v0, vs0, d0, ds0, p0, q0, hargs, rfl, rfl, h0, r0⟩ := trodAll_cons hA
  obtain ⟨v1, vs1, d1, ds1, p1, q1, rfl, rfl, rfl, h1, r1⟩ := trodAll_cons r0
  obtain ⟨rfl, rfl, rfl⟩ := trodAll_nil r1
  obtain rfl : args = #[v0, v1] := by cases args; simp_all
  obtain ⟨rfl, rfl⟩ := trodVars_none hV
  have hv0 := vs_cells (τ := T_api_Ratio) ty0 rfl (hval 0 48 v0 rfl rfl)
  have lt0 : ∀ x ∈ p0, x.block < W.heap.size := by obtain ⟨m, hm⟩ := h0; exact DataW.trod_lt m _ _ _ hm
  obtain ⟨x0, hr0, hw0⟩ : ∃ x : Ty.den T_api_Ratio, Rep Try.prog T_api_Ratio 0 W (fun b => b < W.heap.size) x v0.cells.toList [] ∧ Wf T_api_Ratio x := by
    obtain ⟨m, hm⟩ := h0
    exact (trod_rep T_api_Ratio rfl).1 ty0 hm
  have hv1 := vs_cells (τ := .int .i64) ty1 rfl (hval 1 3 v1 rfl rfl)
  have lt1 : ∀ x ∈ p1, x.block < W.heap.size := by obtain ⟨m, hm⟩ := h1; exact DataW.trod_lt m _ _ _ hm
  obtain ⟨x1, hr1, hw1⟩ : ∃ x : Ty.den (.int .i64), Rep Try.prog (.int .i64) 0 W (fun b => b < W.heap.size) x v1.cells.toList [] ∧ Wf (.int .i64) x := by
    obtain ⟨m, hm⟩ := h1
    exact (trod_rep (.int .i64) rfl).1 ty1 hm
  clear hA0 hval0 hsz0
  refine ((l48_PlanNear.ok (PlanNear_eq x0 x1 hw0 hw1)).2 W (fun b => b < W.heap.size) [v0, v1] (fun _ h => h) ⟨v0, _, _, rfl, hv0, hr0, ⟨v1, _, _, rfl, hv1, hr1, rfl⟩⟩).mono fun e W' hpost => ?_
  obtain ⟨vr, F1, O1, he, hres, hout⟩ := hpost
  obtain rfl := bool_res hres
  subst he
  exact ⟨_, rfl, _, _, _, [], _, [], hW', trodAll_mk1 (shut_bool Try.underlying4 _), (trodAll_cons_mk (RowKit.Below.trod laidOut (by kernel_rfl) (of_decide_eq_true (by kernel_rfl)) h0 hout.below lt0) (trodAll_cons_mk (RowKit.Below.trod laidOut (by kernel_rfl) (of_decide_eq_true (by kernel_rfl)) h1 hout.below lt1) trodAll_mk0)), rfl, hout.below.frame _, fun h => by cases h⟩
theorem over : Rows.planNearRow.holds Try.pinned (OpenSpec.ofChange Rows.planNearSpec) :=
  OpenClaim.holds_of_wide 4 Try.f4 rfl rfl rfl rfl rfl rfl rfl ⟨rfl, rfl, rfl, rfl, rfl⟩ rfl rfl rfl rfl rfl (by kernel_rfl) Try.func4 (by kernel_rfl)
    (of_decide_eq_true (by kernel_rfl)) (by unfold Func.isWrapper; first | (rw [if_pos (by decide +kernel)]; kernel_rfl) | (rw [if_neg (by decide +kernel)]; exact ⟨rfl, rfl⟩))
    (fun os started H enc _ => lifted os started H enc)
end Go.Proofs.Ytomdhjdgcfcjdaa.planNear
namespace Go.Proofs.Ytomdhjdgcfcjdaa
/-- The row, under a short name, for the claim. -/
theorem planNear_holds : Rows.PlanNearSaid := planNear.over
#print axioms planNear_holds
end Go.Proofs.Ytomdhjdgcfcjdaa
