/- RatioCommon: every call of the statement's function answers true, and leaves its arguments as they were; no condition. -/
import Derived.Test.YtomdhjdgcfcjdaaDoorRows
import Derived.Test.YtomdhjdgcfcjdaaDoorRT4
import Derived.Test.YtomdhjdgcfcjdaaDoorTomAQ
import Derived.Test.YtomdhjdgcfcjdaaDoorTie
import Derived.Test.YtomdhjdgcfcjdaaDoorCards
import Derived.WalkKit
import Derived.ProofKit
import Derived.OpenShut
import Derived.ShutString
import Derived.ChangeOld
import Derived.Below
import Derived.Carry
import Derived.SizedLaws
import Derived.LaidLaws
import Derived.LaidHandle
import Derived.Stop.LaidErr
import Derived.SevenTiedAt
import Derived.Handed
import Derived.Lib.LaidTab
namespace Go.Proofs.YtomdhjdgcfcjdaaDoor.ratioCommon
open Go Go.Tom Go.Proofs.Tryd Go.ChangeShapes Go.WideShapes Go.ChangeAt Go.RowKit
set_option linter.unusedVariables false
theorem own : ownKnob Tryd.prog.godebug = none := by kernel_rfl
theorem laidOut : laidOutB Tryd.prog = true := by kernel_rfl
theorem ty0 : (okB Tryd.prog (.slice T_api_Ratio)).1 60 = true := by kernel_rfl
/-- The cells that a listed datum reads from. -/
def cellsOf : DataW Unit → Array Value
  | .agg l => (l.map fun | .lit (.int k z) => Value.int k z | _ => .int .u8 0).toArray
  | _ => #[]
/-- The world of the witness: settled, the listed variables laid. -/
noncomputable def laidWorld (os : Os) : World :=
  let w0 := World.holding Tryd.prog os ⟨#[], #[], []⟩
  { w0 with heap := (Rows.ratioCommonRow.laid.foldl (fun h q => h.modify ((Tryd.prog.globalNamed q.1).getD 0) fun | .cells _ t fr => .cells (cellsOf q.2) t fr | o => o) w0.heap) }
theorem laid_met (os : Os) (args : Array Value) : laidMetH Tryd.prog Rows.ratioCommonRow.laid ((laidWorld os).forCall (fun _ _ => 0) ⟨#[], args, []⟩).memory :=
  laidMetH_of_parts (laidMet_of_run' 8 (by kernel_rfl) (by kernel_rfl)) rfl
set_option maxRecDepth 100000 in
theorem lifted (os : Os) (started : os.Started) (H : Type) (enc : TypeId × Value → H) :
    ReturnsInHanded {} Tryd.checked os 6 .any (fun w args => (Rows.ratioCommonSpec.pre enc Tryd.prog Tryd.f6 [] false w args ∧ laidMetH Tryd.prog Rows.ratioCommonRow.laid w) ∧ sizedMet enc Tryd.prog Tryd.f6 (OpenSpec.ofChange Rows.ratioCommonSpec) false w args) (Rows.ratioCommonSpec.post enc Tryd.prog Tryd.f6 false true false false) := by
  refine returnsInHanded_of_change_and (C := Tryd.checked) (X := fun w _ => laidMetH Tryd.prog Rows.ratioCommonRow.laid w) (fun _ _ _ hh h => h.of_heap hh) own started (by kernel_rfl) Tryd.func6
    (ChangeSpec.witness_at (enc := enc) (C := Tryd.checked) (os := os) (X := fun w _ => laidMetH Tryd.prog Rows.ratioCommonRow.laid w) false (laidWorld os) #[.slice none 0 0] 8 rfl (by kernel_rfl) (by kernel_rfl) (by kernel_rfl) (by kernel_rfl) (by kernel_rfl) (laid_met os _)) ?_
  intro W base args ds gs before hval0 hW _ hsz0 hL _
  have hval : ∀ (j : Nat) t v, Tryd.f6.params[j]? = some t → args[j]? = some v → Value.okWide Tryd.prog W .any base t v := hval0
  have hW' := hW
  obtain ⟨p, q, hA0, hV, rfl, hfz, hnd⟩ := hW
  have hA : DataW.TrodAll enc Tryd.prog W 0 (fun _ => true) true Tryd.f6.params.toList args.toList ds p := hA0
  rw [Tryd.params6] at hA hval
  obtain ⟨v0, vs0, d0, ds0, p0, q0, hargs, rfl, rfl, h0, r0⟩ := trodAll_cons hA
  obtain ⟨rfl, rfl, rfl⟩ := trodAll_nil r0
  obtain rfl : args = #[v0] := by cases args; simp_all
  obtain ⟨rfl, rfl⟩ := trodVars_none hV
  have hv0 := vs_cells (τ := .slice T_api_Ratio) ty0 rfl (hval 0 60 v0 rfl rfl)
  have lt0 : ∀ x ∈ p0, x.block < W.heap.size := by obtain ⟨m, hm⟩ := h0; exact DataW.trod_lt m _ _ _ hm
  obtain ⟨x0, hr0, hw0⟩ : ∃ x : Ty.den (.slice T_api_Ratio), Rep Tryd.prog (.slice T_api_Ratio) 0 W (fun b => b < W.heap.size) x v0.cells.toList [] ∧ Wf (.slice T_api_Ratio) x := by
    obtain ⟨m, hm⟩ := h0
    exact (trod_rep (.slice T_api_Ratio) rfl).1 ty0 hm
  have hL1 : laidMet Tryd.prog Rows.ratioCommonRow.laid W := hL
  have tab : Lib.TabIs Tryd.prog W "internal/strconv.uint64pow10" .u64 Lib.pow10Tab := Lib.tabIs_of_head (rest := []) (g := 0) (t := 145) (e := 40) (n := 20) (by kernel_rfl) (by kernel_rfl) (by kernel_rfl) (by kernel_rfl) (by kernel_rfl) (by kernel_rfl) hL1.tail.tail
  clear hA0 hval0 hsz0
  refine ((l04_RatioCommon.ok (RatioCommon_eq x0 hw0)).2 W (fun b => b < W.heap.size) [v0] (fun _ h => h) (Lay.one rfl tab fun _ h => h) ⟨v0, _, _, rfl, hv0, hr0, rfl⟩).mono fun e W' hpost => ?_
  obtain ⟨vr, F1, O1, he, hres, hout⟩ := hpost
  obtain rfl := bool_res hres
  subst he
  exact ⟨_, rfl, _, _, _, [], _, [], hW', trodAll_mk1 (shut_bool Tryd.underlying4 _), (trodAll_cons_mk (RowKit.Below.trod laidOut (by kernel_rfl) (of_decide_eq_true (by kernel_rfl)) h0 hout.below lt0) trodAll_mk0), rfl, hout.below.frame _, fun h => by cases h⟩
theorem over : Rows.ratioCommonRow.holds Tryd.pinned (OpenSpec.ofChange Rows.ratioCommonSpec) :=
  OpenClaim.holds_of_wide 6 Tryd.f6 rfl rfl rfl rfl rfl rfl rfl ⟨rfl, rfl, rfl, rfl, rfl⟩ rfl rfl rfl rfl rfl (by kernel_rfl) Tryd.func6 (by kernel_rfl)
    (of_decide_eq_true (by kernel_rfl)) (by unfold Func.isWrapper; first | (rw [if_pos (by decide +kernel)]; kernel_rfl) | (rw [if_neg (by decide +kernel)]; exact ⟨rfl, rfl⟩))
    (fun os started H enc _ => lifted os started H enc)
theorem card : Rows.RatioCommonCardSaid :=
  Claim7.holds_tied_plain_at .later [] [.data, .data, .data] true (true, "39f33ad6eb62ddc0efbc8b9e7fc9b51d0f2ab914708e9855f3bd689ecfdd05b2") false over (fun _ h => by cases h) (by kernel_rfl) (fun _ h => by cases h) ratioCommon_row_tie rfl ⟨rfl, rfl⟩ (by kernel_rfl) rfl
    (fun f fn hf hfn => by
      obtain rfl : f = 6 := (Option.some.inj ((show Tryd.prog.funcNamed "tombola/tombolalaw04.RatioCommon" = some 6 by kernel_rfl).symm.trans hf)).symm
      obtain rfl : fn = Tryd.f6 := (Option.some.inj (Tryd.func6.symm.trans hfn)).symm
      refine ⟨by kernel_rfl, fun j t ht => ?_⟩
      rw [Tryd.params6] at ht
      have hm : t ∈ [60] := List.mem_of_getElem? (by simpa using ht)
      simp only [List.mem_cons, List.not_mem_nil, or_false] at hm
      subst hm
      · exact (show Tryd.prog.wantsStandIn 60 = false by kernel_rfl))
    (by kernel_rfl)
end Go.Proofs.YtomdhjdgcfcjdaaDoor.ratioCommon
namespace Go.Proofs.YtomdhjdgcfcjdaaDoor
/-- The statement, under a short name, for the claim. -/
theorem ratioCommon_holds : Rows.RatioCommonCardSaid := ratioCommon.card
#print axioms ratioCommon_holds
end Go.Proofs.YtomdhjdgcfcjdaaDoor
