/- CallBack: every call of the statement's function answers true, and leaves its arguments as they were; no condition. -/
import Derived.Test.YtoalafcmlgjlpaaRows
import Derived.Test.YtoalafcmlgjlpaaRC
import Derived.Test.YtoalafcmlgjlpaaTomAO
import Derived.WalkKit
import Derived.ProofKit
import Derived.OpenShut
import Derived.ShutString
import Derived.ChangeOld
import Derived.Below
import Derived.Carry
import Derived.SizedLaws
namespace Go.Proofs.Ytoalafcmlgjlpaa.callBack
open Go Go.Tom Go.Proofs.Try Go.ChangeShapes Go.WideShapes Go.ChangeAt Go.RowKit
set_option linter.unusedVariables false
theorem own : ownKnob Try.prog.godebug = none := by kernel_rfl
theorem laidOut : laidOutB Try.prog = true := by kernel_rfl
theorem ty0 : (okB Try.prog T_api_State).1 28 = true := by kernel_rfl
theorem ty1 : (okB Try.prog (.int .i64)).1 3 = true := by kernel_rfl
theorem ty2 : (okB Try.prog (.int .i64)).1 3 = true := by kernel_rfl
set_option maxRecDepth 100000 in
theorem lifted (os : Os) (started : os.Started) (H : Type) (enc : TypeId × Value → H) :
    ReturnsInHanded {} Try.checked os 4 .any (Rows.callBackSpec.pre6 enc Try.prog Try.f4 Rows.callBackRow.domain false) (Rows.callBackSpec.post enc Try.prog Try.f4 false true false false) := by
  refine returnsInHanded_of_change_sized (C := Try.checked) own started (by kernel_rfl) Try.func4
    (ChangeSpec.witness6 (enc := enc) (C := Try.checked) false ⟨#[], #[.agg #[.slice none 0 0, .slice none 0 0, .slice none 0 0, .slice none 0 0, .slice none 0 0, .int .i64 0], .int .i64 0, .int .i64 0], []⟩ 8 (by kernel_rfl) (by kernel_rfl) (by kernel_rfl) (by kernel_rfl)) ?_
  intro W base args ds gs before hval0 hW hcnd hsz0 _
  have hval : ∀ (j : Nat) t v, Try.f4.params[j]? = some t → args[j]? = some v → Value.okWide Try.prog W .any base t v := hval0
  have hW' := hW
  obtain ⟨p, q, hA0, hV, rfl, hfz, hnd⟩ := hW
  have hA : DataW.TrodAll enc Try.prog W 0 (fun _ => true) true Try.f4.params.toList args.toList ds p := hA0
  rw [Try.params4] at hA hval
  obtain ⟨v0, vs0, d0, ds0, p0, q0, hargs, rfl, rfl, h0, r0⟩ := trodAll_cons hA
  obtain ⟨v1, vs1, d1, ds1, p1, q1, rfl, rfl, rfl, h1, r1⟩ := trodAll_cons r0
  obtain ⟨v2, vs2, d2, ds2, p2, q2, rfl, rfl, rfl, h2, r2⟩ := trodAll_cons r1
  obtain ⟨rfl, rfl, rfl⟩ := trodAll_nil r2
  obtain rfl : args = #[v0, v1, v2] := by cases args; simp_all
  obtain ⟨rfl, rfl⟩ := trodVars_none hV
  have hv0 := vs_cells (τ := T_api_State) ty0 rfl (hval 0 28 v0 rfl rfl)
  have lt0 : ∀ x ∈ p0, x.block < W.heap.size := by obtain ⟨m, hm⟩ := h0; exact DataW.trod_lt m _ _ _ hm
  obtain ⟨x0, hr0, hw0⟩ : ∃ x : Ty.den T_api_State, Rep Try.prog T_api_State 0 W (fun b => b < W.heap.size) x v0.cells.toList [] ∧ Wf T_api_State x := by
    obtain ⟨m, hm⟩ := h0
    exact (trod_rep T_api_State rfl).1 ty0 hm
  have hv1 := vs_cells (τ := .int .i64) ty1 rfl (hval 1 3 v1 rfl rfl)
  have lt1 : ∀ x ∈ p1, x.block < W.heap.size := by obtain ⟨m, hm⟩ := h1; exact DataW.trod_lt m _ _ _ hm
  obtain ⟨x1, hr1, hw1⟩ : ∃ x : Ty.den (.int .i64), Rep Try.prog (.int .i64) 0 W (fun b => b < W.heap.size) x v1.cells.toList [] ∧ Wf (.int .i64) x := by
    obtain ⟨m, hm⟩ := h1
    exact (trod_rep (.int .i64) rfl).1 ty1 hm
  have hv2 := vs_cells (τ := .int .i64) ty2 rfl (hval 2 3 v2 rfl rfl)
  have lt2 : ∀ x ∈ p2, x.block < W.heap.size := by obtain ⟨m, hm⟩ := h2; exact DataW.trod_lt m _ _ _ hm
  obtain ⟨x2, hr2, hw2⟩ : ∃ x : Ty.den (.int .i64), Rep Try.prog (.int .i64) 0 W (fun b => b < W.heap.size) x v2.cells.toList [] ∧ Wf (.int .i64) x := by
    obtain ⟨m, hm⟩ := h2
    exact (trod_rep (.int .i64) rfl).1 ty2 hm
  clear hA0 hval0 hsz0
  refine ((l26_CallBack.ok (CallBack_eq x0 x1 x2)).2 W (fun b => b < W.heap.size) [v0, v1, v2] (fun _ h => h) ⟨v0, _, _, rfl, hv0, hr0, ⟨v1, _, _, rfl, hv1, hr1, ⟨v2, _, _, rfl, hv2, hr2, rfl⟩⟩⟩).mono fun e W' hpost => ?_
  obtain ⟨vr, F1, O1, he, hres, hout⟩ := hpost
  obtain rfl := bool_res hres
  subst he
  exact ⟨_, rfl, _, _, _, [], _, [], hW', trodAll_mk1 (shut_bool Try.underlying4 _), (trodAll_cons_mk (RowKit.Below.trod laidOut (by kernel_rfl) (of_decide_eq_true (by kernel_rfl)) h0 hout.below lt0) (trodAll_cons_mk (RowKit.Below.trod laidOut (by kernel_rfl) (of_decide_eq_true (by kernel_rfl)) h1 hout.below lt1) (trodAll_cons_mk (RowKit.Below.trod laidOut (by kernel_rfl) (of_decide_eq_true (by kernel_rfl)) h2 hout.below lt2) trodAll_mk0))), rfl, hout.below.frame _, fun h => by cases h⟩
theorem over : Rows.callBackRow.holds Try.pinned (OpenSpec.ofChange Rows.callBackSpec) :=
  OpenClaim.holds_of_wide 4 Try.f4 rfl rfl rfl rfl rfl rfl rfl ⟨rfl, rfl, rfl, rfl, rfl⟩ rfl rfl rfl rfl rfl (by kernel_rfl) Try.func4 (by kernel_rfl)
    (of_decide_eq_true (by kernel_rfl)) (by unfold Func.isWrapper; first | (rw [if_pos (by decide +kernel)]; kernel_rfl) | (rw [if_neg (by decide +kernel)]; exact ⟨rfl, rfl⟩))
    (fun os started H enc _ => lifted os started H enc)
end Go.Proofs.Ytoalafcmlgjlpaa.callBack
namespace Go.Proofs.Ytoalafcmlgjlpaa
/-- The row, under a short name, for the claim. -/
theorem callBack_holds : Rows.CallBackSaid := callBack.over
#print axioms callBack_holds
end Go.Proofs.Ytoalafcmlgjlpaa
