/- FactorTells: every call of the statement's function answers true, and leaves its arguments as they were; no condition. -/
import Derived.Test.YtgenminnhfokkaaGreatRows
import Derived.Test.YtgenminnhfokkaaGreatPU2
import Derived.Test.YtgenminnhfokkaaGreatTomAQ
import Derived.WalkKit
import Derived.ProofKit
import Derived.OpenShut
import Derived.ShutString
import Derived.ChangeOld
import Derived.Below
import Derived.Carry
import Derived.SizedLaws
namespace Go.Proofs.YtgenminnhfokkaaGreat.factorTells
open Go Go.Tom Go.Proofs.Tryz Go.ChangeShapes Go.WideShapes Go.ChangeAt Go.RowKit
set_option linter.unusedVariables false
theorem own : ownKnob Tryz.prog.godebug = none := by kernel_rfl
theorem laidOut : laidOutB Tryz.prog = true := by kernel_rfl
theorem ty0 : (okB Tryz.prog T_api_State).1 28 = true := by kernel_rfl
theorem ty1 : (okB Tryz.prog T_api_Thread).1 30 = true := by kernel_rfl
theorem ty2 : (okB Tryz.prog (.int .i64)).1 3 = true := by kernel_rfl
theorem ty3 : (okB Tryz.prog (.int .i64)).1 3 = true := by kernel_rfl
set_option maxRecDepth 100000 in
theorem lifted (os : Os) (started : os.Started) (H : Type) (enc : TypeId × Value → H) :
    ReturnsInHanded {} Tryz.checked os 3 .any (Rows.factorTellsSpec.pre6 enc Tryz.prog Tryz.f3 Rows.factorTellsRow.domain false) (Rows.factorTellsSpec.post enc Tryz.prog Tryz.f3 false true false false) := by
  refine returnsInHanded_of_change_sized (C := Tryz.checked) own started (by kernel_rfl) Tryz.func3
    (ChangeSpec.witness6 (enc := enc) (C := Tryz.checked) false ⟨#[], #[.agg #[.slice none 0 0, .slice none 0 0, .slice none 0 0, .slice none 0 0, .slice none 0 0, .int .i64 0], .agg #[.int .i64 0, .int .i64 0, .int .i64 0, .int .i64 0, .int .i64 0], .int .i64 0, .int .i64 0], []⟩ 8 (by kernel_rfl) (by kernel_rfl) (by kernel_rfl) (by kernel_rfl)) ?_
  intro W base args ds gs before hval0 hW hcnd hsz0 _
  have hval : ∀ (j : Nat) t v, Tryz.f3.params[j]? = some t → args[j]? = some v → Value.okWide Tryz.prog W .any base t v := hval0
  have hW' := hW
  obtain ⟨p, q, hA0, hV, rfl, hfz, hnd⟩ := hW
  have hA : DataW.TrodAll enc Tryz.prog W 0 (fun _ => true) true Tryz.f3.params.toList args.toList ds p := hA0
  rw [Tryz.params3] at hA hval
  obtain ⟨v0, vs0, d0, ds0, p0, q0, hargs, rfl, rfl, h0, r0⟩ := trodAll_cons hA
  obtain ⟨v1, vs1, d1, ds1, p1, q1, rfl, rfl, rfl, h1, r1⟩ := trodAll_cons r0
  obtain ⟨v2, vs2, d2, ds2, p2, q2, rfl, rfl, rfl, h2, r2⟩ := trodAll_cons r1
  obtain ⟨v3, vs3, d3, ds3, p3, q3, rfl, rfl, rfl, h3, r3⟩ := trodAll_cons r2
  obtain ⟨rfl, rfl, rfl⟩ := trodAll_nil r3
  obtain rfl : args = #[v0, v1, v2, v3] := by cases args; simp_all
  obtain ⟨rfl, rfl⟩ := trodVars_none hV
  have hv0 := vs_cells (τ := T_api_State) ty0 rfl (hval 0 28 v0 rfl rfl)
  have lt0 : ∀ x ∈ p0, x.block < W.heap.size := by obtain ⟨m, hm⟩ := h0; exact DataW.trod_lt m _ _ _ hm
  obtain ⟨x0, hr0, hw0⟩ : ∃ x : Ty.den T_api_State, Rep Tryz.prog T_api_State 0 W (fun b => b < W.heap.size) x v0.cells.toList [] ∧ Wf T_api_State x := by
    obtain ⟨m, hm⟩ := h0
    exact (trod_rep T_api_State rfl).1 ty0 hm
  have hv1 := vs_cells (τ := T_api_Thread) ty1 rfl (hval 1 30 v1 rfl rfl)
  have lt1 : ∀ x ∈ p1, x.block < W.heap.size := by obtain ⟨m, hm⟩ := h1; exact DataW.trod_lt m _ _ _ hm
  obtain ⟨x1, hr1, hw1⟩ : ∃ x : Ty.den T_api_Thread, Rep Tryz.prog T_api_Thread 0 W (fun b => b < W.heap.size) x v1.cells.toList [] ∧ Wf T_api_Thread x := by
    obtain ⟨m, hm⟩ := h1
    exact (trod_rep T_api_Thread rfl).1 ty1 hm
  have hv2 := vs_cells (τ := .int .i64) ty2 rfl (hval 2 3 v2 rfl rfl)
  have lt2 : ∀ x ∈ p2, x.block < W.heap.size := by obtain ⟨m, hm⟩ := h2; exact DataW.trod_lt m _ _ _ hm
  obtain ⟨x2, hr2, hw2⟩ : ∃ x : Ty.den (.int .i64), Rep Tryz.prog (.int .i64) 0 W (fun b => b < W.heap.size) x v2.cells.toList [] ∧ Wf (.int .i64) x := by
    obtain ⟨m, hm⟩ := h2
    exact (trod_rep (.int .i64) rfl).1 ty2 hm
  have hv3 := vs_cells (τ := .int .i64) ty3 rfl (hval 3 3 v3 rfl rfl)
  have lt3 : ∀ x ∈ p3, x.block < W.heap.size := by obtain ⟨m, hm⟩ := h3; exact DataW.trod_lt m _ _ _ hm
  obtain ⟨x3, hr3, hw3⟩ : ∃ x : Ty.den (.int .i64), Rep Tryz.prog (.int .i64) 0 W (fun b => b < W.heap.size) x v3.cells.toList [] ∧ Wf (.int .i64) x := by
    obtain ⟨m, hm⟩ := h3
    exact (trod_rep (.int .i64) rfl).1 ty3 hm
  clear hA0 hval0 hsz0
  refine ((l20_FactorTells.ok (FactorTells_eq x0 x1 x2 x3 hw0 hw1 hw2 hw3)).2 W (fun b => b < W.heap.size) [v0, v1, v2, v3] (fun _ h => h) (Lay.bare rfl rfl) ⟨v0, _, _, rfl, hv0, hr0, ⟨v1, _, _, rfl, hv1, hr1, ⟨v2, _, _, rfl, hv2, hr2, ⟨v3, _, _, rfl, hv3, hr3, rfl⟩⟩⟩⟩).mono fun e W' hpost => ?_
  obtain ⟨vr, F1, O1, he, hres, hout⟩ := hpost
  obtain rfl := bool_res hres
  subst he
  exact ⟨_, rfl, _, _, _, [], _, [], hW', trodAll_mk1 (shut_bool Tryz.underlying4 _), (trodAll_cons_mk (RowKit.Below.trod laidOut (by kernel_rfl) (of_decide_eq_true (by kernel_rfl)) h0 hout.below lt0) (trodAll_cons_mk (RowKit.Below.trod laidOut (by kernel_rfl) (of_decide_eq_true (by kernel_rfl)) h1 hout.below lt1) (trodAll_cons_mk (RowKit.Below.trod laidOut (by kernel_rfl) (of_decide_eq_true (by kernel_rfl)) h2 hout.below lt2) (trodAll_cons_mk (RowKit.Below.trod laidOut (by kernel_rfl) (of_decide_eq_true (by kernel_rfl)) h3 hout.below lt3) trodAll_mk0)))), rfl, hout.below.frame _, fun h => by cases h⟩
theorem over : Rows.factorTellsRow.holds Tryz.pinned (OpenSpec.ofChange Rows.factorTellsSpec) :=
  OpenClaim.holds_of_wide 3 Tryz.f3 rfl rfl rfl rfl rfl rfl rfl ⟨rfl, rfl, rfl, rfl, rfl⟩ rfl rfl rfl rfl rfl (by kernel_rfl) Tryz.func3 (by kernel_rfl)
    (of_decide_eq_true (by kernel_rfl)) (by unfold Func.isWrapper; first | (rw [if_pos (by decide +kernel)]; kernel_rfl) | (rw [if_neg (by decide +kernel)]; exact ⟨rfl, rfl⟩))
    (fun os started H enc _ => lifted os started H enc)
end Go.Proofs.YtgenminnhfokkaaGreat.factorTells
namespace Go.Proofs.YtgenminnhfokkaaGreat
/-- The statement, under a short name, for the claim. -/
theorem factorTells_holds : Rows.FactorTellsSaid := factorTells.over
#print axioms factorTells_holds
end Go.Proofs.YtgenminnhfokkaaGreat
