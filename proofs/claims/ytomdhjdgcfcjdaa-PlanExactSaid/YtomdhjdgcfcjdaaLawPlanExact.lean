/- PlanExact: every call of the statement's function answers true, and leaves its arguments as they were; no condition. -/
import Derived.Test.YtomdhjdgcfcjdaaRows
import Derived.Test.YtomdhjdgcfcjdaaPN26
import Derived.Test.YtomdhjdgcfcjdaaTomAQ
import Derived.WalkKit
import Derived.ProofKit
import Derived.OpenShut
import Derived.ShutString
import Derived.ChangeOld
import Derived.Below
import Derived.Carry
import Derived.SizedLaws
namespace Go.Proofs.Ytomdhjdgcfcjdaa.planExact
open Go Go.Tom Go.Proofs.Try Go.ChangeShapes Go.WideShapes Go.ChangeAt Go.RowKit
set_option linter.unusedVariables false
theorem own : ownKnob Try.prog.godebug = none := by kernel_rfl
theorem laidOut : laidOutB Try.prog = true := by kernel_rfl
theorem ty0 : (okB Try.prog (.slice T_api_Ratio)).1 22 = true := by kernel_rfl
set_option maxRecDepth 100000 in
theorem lifted (os : Os) (started : os.Started) (H : Type) (enc : TypeId × Value → H) :
    ReturnsInHanded {} Try.checked os 3 .any (Rows.planExactSpec.pre6 enc Try.prog Try.f3 Rows.planExactRow.domain false) (Rows.planExactSpec.post enc Try.prog Try.f3 false true false false) := by
  refine returnsInHanded_of_change_sized (C := Try.checked) own started (by kernel_rfl) Try.func3
    (ChangeSpec.witness6 (enc := enc) (C := Try.checked) false ⟨#[], #[.slice none 0 0], []⟩ 8 (by kernel_rfl) (by kernel_rfl) (by kernel_rfl) (by kernel_rfl)) ?_
  intro W base args ds gs before hval0 hW hcnd hsz0 _
  have hval : ∀ (j : Nat) t v, Try.f3.params[j]? = some t → args[j]? = some v → Value.okWide Try.prog W .any base t v := hval0
  have hW' := hW
  obtain ⟨p, q, hA0, hV, rfl, hfz, hnd⟩ := hW
  have hA : DataW.TrodAll enc Try.prog W 0 (fun _ => true) true Try.f3.params.toList args.toList ds p := hA0
  rw [Try.params3] at hA hval
  obtain ⟨v0, vs0, d0, ds0, p0, q0, hargs, rfl, rfl, h0, r0⟩ := trodAll_cons hA
  obtain ⟨rfl, rfl, rfl⟩ := trodAll_nil r0
  obtain rfl : args = #[v0] := by cases args; simp_all
  obtain ⟨rfl, rfl⟩ := trodVars_none hV
  have hv0 := vs_cells (τ := .slice T_api_Ratio) ty0 rfl (hval 0 22 v0 rfl rfl)
  have lt0 : ∀ x ∈ p0, x.block < W.heap.size := by obtain ⟨m, hm⟩ := h0; exact DataW.trod_lt m _ _ _ hm
  obtain ⟨x0, hr0, hw0⟩ : ∃ x : Ty.den (.slice T_api_Ratio), Rep Try.prog (.slice T_api_Ratio) 0 W (fun b => b < W.heap.size) x v0.cells.toList [] ∧ Wf (.slice T_api_Ratio) x := by
    obtain ⟨m, hm⟩ := h0
    exact (trod_rep (.slice T_api_Ratio) rfl).1 ty0 hm
  have sz0 : x0.length * 48 ≤ reachBytes := by
    obtain ⟨m, hm⟩ := h0
    have hb : Try.prog.bytesOf 48 = 48 := by kernel_rfl
    have := slice_bytes (P := Try.prog) (t := 22) (E := 48) (by kernel_rfl) hm hr0 fun k hk => of_decide_eq_true (List.all_eq_true.1 hsz0 k (DataW.weights_mem_each (j := 0) rfl rfl k hk))
    rwa [hb] at this
  clear hA0 hval0 hsz0
  refine ((l48_PlanExact.ok (PlanExact_eq x0 hw0 sz0)).2 W (fun b => b < W.heap.size) [v0] (fun _ h => h) ⟨v0, _, _, rfl, hv0, hr0, rfl⟩).mono fun e W' hpost => ?_
  obtain ⟨vr, F1, O1, he, hres, hout⟩ := hpost
  obtain rfl := bool_res hres
  subst he
  exact ⟨_, rfl, _, _, _, [], _, [], hW', trodAll_mk1 (shut_bool Try.underlying4 _), (trodAll_cons_mk (RowKit.Below.trod laidOut (by kernel_rfl) (of_decide_eq_true (by kernel_rfl)) h0 hout.below lt0) trodAll_mk0), rfl, hout.below.frame _, fun h => by cases h⟩
theorem over : Rows.planExactRow.holds Try.pinned (OpenSpec.ofChange Rows.planExactSpec) :=
  OpenClaim.holds_of_wide 3 Try.f3 rfl rfl rfl rfl rfl rfl rfl ⟨rfl, rfl, rfl, rfl, rfl⟩ rfl rfl rfl rfl rfl (by kernel_rfl) Try.func3 (by kernel_rfl)
    (of_decide_eq_true (by kernel_rfl)) (by unfold Func.isWrapper; first | (rw [if_pos (by decide +kernel)]; kernel_rfl) | (rw [if_neg (by decide +kernel)]; exact ⟨rfl, rfl⟩))
    (fun os started H enc _ => lifted os started H enc)
end Go.Proofs.Ytomdhjdgcfcjdaa.planExact
namespace Go.Proofs.Ytomdhjdgcfcjdaa
/-- The row, under a short name, for the claim. -/
theorem planExact_holds : Rows.PlanExactSaid := planExact.over
#print axioms planExact_holds
end Go.Proofs.Ytomdhjdgcfcjdaa
