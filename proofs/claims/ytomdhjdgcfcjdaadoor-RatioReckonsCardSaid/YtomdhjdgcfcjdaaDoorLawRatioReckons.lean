/- RatioReckons: every call of the statement's function answers true, and leaves its arguments as they were; no condition. -/
import Derived.Test.YtomdhjdgcfcjdaaDoorRows
import Derived.Test.YtomdhjdgcfcjdaaDoorRT3
import Derived.Test.YtomdhjdgcfcjdaaDoorTomAQ
import Derived.Test.YtomdhjdgcfcjdaaDoorTie
import Derived.Test.YtomdhjdgcfcjdaaDoorCards
import Derived.WalkKit
import Derived.ProofKit
import Derived.OpenShut
import Derived.ShutString
import Derived.ChangeOld
import Derived.Below
import Derived.Carry
import Derived.SizedLaws
import Derived.LaidLaws
import Derived.LaidHandle
import Derived.Stop.LaidErr
import Derived.SevenTiedAt
import Derived.Handed
import Derived.Lib.LaidTab
namespace Go.Proofs.YtomdhjdgcfcjdaaDoor.ratioReckons
open Go Go.Tom Go.Proofs.Tryd Go.ChangeShapes Go.WideShapes Go.ChangeAt Go.RowKit
set_option linter.unusedVariables false
theorem own : ownKnob Tryd.prog.godebug = none := by kernel_rfl
theorem laidOut : laidOutB Tryd.prog = true := by kernel_rfl
theorem ty0 : (okB Tryd.prog T_api_Ratio).1 64 = true := by kernel_rfl
theorem ty1 : (okB Tryd.prog T_api_Ratio).1 64 = true := by kernel_rfl
theorem ty2 : (okB Tryd.prog T_api_Ratio).1 64 = true := by kernel_rfl
/-- The cells that a listed datum reads from. -/
def cellsOf : DataW Unit → Array Value
  | .agg l => (l.map fun | .lit (.int k z) => Value.int k z | _ => .int .u8 0).toArray
  | _ => #[]
/-- The world of the witness: settled, the listed variables laid. -/
noncomputable def laidWorld (os : Os) : World :=
  let w0 := World.holding Tryd.prog os ⟨#[], #[], []⟩
  { w0 with heap := (Rows.ratioReckonsRow.laid.foldl (fun h q => h.modify ((Tryd.prog.globalNamed q.1).getD 0) fun | .cells _ t fr => .cells (cellsOf q.2) t fr | o => o) w0.heap) }
theorem laid_met (os : Os) (args : Array Value) : laidMetH Tryd.prog Rows.ratioReckonsRow.laid ((laidWorld os).forCall (fun _ _ => 0) ⟨#[], args, []⟩).memory :=
  laidMetH_of_parts (laidMet_of_run' 8 (by kernel_rfl) (by kernel_rfl)) rfl
set_option maxRecDepth 100000 in
theorem lifted (os : Os) (started : os.Started) (H : Type) (enc : TypeId × Value → H) :
    ReturnsInHanded {} Tryd.checked os 8 .any (fun w args => (Rows.ratioReckonsSpec.pre enc Tryd.prog Tryd.f8 [] false w args ∧ laidMetH Tryd.prog Rows.ratioReckonsRow.laid w) ∧ sizedMet enc Tryd.prog Tryd.f8 (OpenSpec.ofChange Rows.ratioReckonsSpec) false w args) (Rows.ratioReckonsSpec.post enc Tryd.prog Tryd.f8 false true false false) := by
  refine returnsInHanded_of_change_and (C := Tryd.checked) (X := fun w _ => laidMetH Tryd.prog Rows.ratioReckonsRow.laid w) (fun _ _ _ hh h => h.of_heap hh) own started (by kernel_rfl) Tryd.func8
    (ChangeSpec.witness_at (enc := enc) (C := Tryd.checked) (os := os) (X := fun w _ => laidMetH Tryd.prog Rows.ratioReckonsRow.laid w) false (laidWorld os) #[.agg #[.slice none 0 0, .slice none 0 0], .agg #[.slice none 0 0, .slice none 0 0], .agg #[.slice none 0 0, .slice none 0 0]] 8 rfl (by kernel_rfl) (by kernel_rfl) (by kernel_rfl) (by kernel_rfl) (by kernel_rfl) (laid_met os _)) ?_
  intro W base args ds gs before hval0 hW _ hsz0 hL _
  have hval : ∀ (j : Nat) t v, Tryd.f8.params[j]? = some t → args[j]? = some v → Value.okWide Tryd.prog W .any base t v := hval0
  have hW' := hW
  obtain ⟨p, q, hA0, hV, rfl, hfz, hnd⟩ := hW
  have hA : DataW.TrodAll enc Tryd.prog W 0 (fun _ => true) true Tryd.f8.params.toList args.toList ds p := hA0
  rw [Tryd.params8] at hA hval
  obtain ⟨v0, vs0, d0, ds0, p0, q0, hargs, rfl, rfl, h0, r0⟩ := trodAll_cons hA
  obtain ⟨v1, vs1, d1, ds1, p1, q1, rfl, rfl, rfl, h1, r1⟩ := trodAll_cons r0
  obtain ⟨v2, vs2, d2, ds2, p2, q2, rfl, rfl, rfl, h2, r2⟩ := trodAll_cons r1
  obtain ⟨rfl, rfl, rfl⟩ := trodAll_nil r2
  obtain rfl : args = #[v0, v1, v2] := by cases args; simp_all
  obtain ⟨rfl, rfl⟩ := trodVars_none hV
  have hv0 := vs_cells (τ := T_api_Ratio) ty0 rfl (hval 0 64 v0 rfl rfl)
  have lt0 : ∀ x ∈ p0, x.block < W.heap.size := by obtain ⟨m, hm⟩ := h0; exact DataW.trod_lt m _ _ _ hm
  obtain ⟨x0, hr0, hw0⟩ : ∃ x : Ty.den T_api_Ratio, Rep Tryd.prog T_api_Ratio 0 W (fun b => b < W.heap.size) x v0.cells.toList [] ∧ Wf T_api_Ratio x := by
    obtain ⟨m, hm⟩ := h0
    exact (trod_rep T_api_Ratio rfl).1 ty0 hm
  have hv1 := vs_cells (τ := T_api_Ratio) ty1 rfl (hval 1 64 v1 rfl rfl)
  have lt1 : ∀ x ∈ p1, x.block < W.heap.size := by obtain ⟨m, hm⟩ := h1; exact DataW.trod_lt m _ _ _ hm
  obtain ⟨x1, hr1, hw1⟩ : ∃ x : Ty.den T_api_Ratio, Rep Tryd.prog T_api_Ratio 0 W (fun b => b < W.heap.size) x v1.cells.toList [] ∧ Wf T_api_Ratio x := by
    obtain ⟨m, hm⟩ := h1
    exact (trod_rep T_api_Ratio rfl).1 ty1 hm
  have hv2 := vs_cells (τ := T_api_Ratio) ty2 rfl (hval 2 64 v2 rfl rfl)
  have lt2 : ∀ x ∈ p2, x.block < W.heap.size := by obtain ⟨m, hm⟩ := h2; exact DataW.trod_lt m _ _ _ hm
  obtain ⟨x2, hr2, hw2⟩ : ∃ x : Ty.den T_api_Ratio, Rep Tryd.prog T_api_Ratio 0 W (fun b => b < W.heap.size) x v2.cells.toList [] ∧ Wf T_api_Ratio x := by
    obtain ⟨m, hm⟩ := h2
    exact (trod_rep T_api_Ratio rfl).1 ty2 hm
  have hL1 : laidMet Tryd.prog Rows.ratioReckonsRow.laid W := hL
  have tab : Lib.TabIs Tryd.prog W "internal/strconv.uint64pow10" .u64 Lib.pow10Tab := Lib.tabIs_of_head (rest := []) (g := 0) (t := 145) (e := 40) (n := 20) (by kernel_rfl) (by kernel_rfl) (by kernel_rfl) (by kernel_rfl) (by kernel_rfl) (by kernel_rfl) hL1.tail.tail
  clear hA0 hval0 hsz0
  refine ((l04_RatioReckons.ok (RatioReckons_eq x0 x1 x2 hw0 hw1 hw2)).2 W (fun b => b < W.heap.size) [v0, v1, v2] (fun _ h => h) (Lay.one rfl tab fun _ h => h) ⟨v0, _, _, rfl, hv0, hr0, ⟨v1, _, _, rfl, hv1, hr1, ⟨v2, _, _, rfl, hv2, hr2, rfl⟩⟩⟩).mono fun e W' hpost => ?_
  obtain ⟨vr, F1, O1, he, hres, hout⟩ := hpost
  obtain rfl := bool_res hres
  subst he
  exact ⟨_, rfl, _, _, _, [], _, [], hW', trodAll_mk1 (shut_bool Tryd.underlying4 _), (trodAll_cons_mk (RowKit.Below.trod laidOut (by kernel_rfl) (of_decide_eq_true (by kernel_rfl)) h0 hout.below lt0) (trodAll_cons_mk (RowKit.Below.trod laidOut (by kernel_rfl) (of_decide_eq_true (by kernel_rfl)) h1 hout.below lt1) (trodAll_cons_mk (RowKit.Below.trod laidOut (by kernel_rfl) (of_decide_eq_true (by kernel_rfl)) h2 hout.below lt2) trodAll_mk0))), rfl, hout.below.frame _, fun h => by cases h⟩
theorem over : Rows.ratioReckonsRow.holds Tryd.pinned (OpenSpec.ofChange Rows.ratioReckonsSpec) :=
  OpenClaim.holds_of_wide 8 Tryd.f8 rfl rfl rfl rfl rfl rfl rfl ⟨rfl, rfl, rfl, rfl, rfl⟩ rfl rfl rfl rfl rfl (by kernel_rfl) Tryd.func8 (by kernel_rfl)
    (of_decide_eq_true (by kernel_rfl)) (by unfold Func.isWrapper; first | (rw [if_pos (by decide +kernel)]; kernel_rfl) | (rw [if_neg (by decide +kernel)]; exact ⟨rfl, rfl⟩))
    (fun os started H enc _ => lifted os started H enc)
theorem card : Rows.RatioReckonsCardSaid :=
  Claim7.holds_tied_plain_at .later [] [.data, .data, .data] true (true, "39f33ad6eb62ddc0efbc8b9e7fc9b51d0f2ab914708e9855f3bd689ecfdd05b2") false over (fun _ h => by cases h) (by kernel_rfl) (fun _ h => by cases h) ratioReckons_row_tie rfl ⟨rfl, rfl⟩ (by kernel_rfl) rfl
    (fun f fn hf hfn => by
      obtain rfl : f = 8 := (Option.some.inj ((show Tryd.prog.funcNamed "tombola/tombolalaw04.RatioReckons" = some 8 by kernel_rfl).symm.trans hf)).symm
      obtain rfl : fn = Tryd.f8 := (Option.some.inj (Tryd.func8.symm.trans hfn)).symm
      refine ⟨by kernel_rfl, fun j t ht => ?_⟩
      rw [Tryd.params8] at ht
      have hm : t ∈ [64, 64, 64] := List.mem_of_getElem? (by simpa using ht)
      simp only [List.mem_cons, List.not_mem_nil, or_false] at hm
      rcases hm with rfl | rfl | rfl
      · exact (show Tryd.prog.wantsStandIn 64 = false by kernel_rfl)
      · exact (show Tryd.prog.wantsStandIn 64 = false by kernel_rfl)
      · exact (show Tryd.prog.wantsStandIn 64 = false by kernel_rfl))
    (by kernel_rfl)
end Go.Proofs.YtomdhjdgcfcjdaaDoor.ratioReckons
namespace Go.Proofs.YtomdhjdgcfcjdaaDoor
/-- The statement, under a short name, for the claim. -/
theorem ratioReckons_holds : Rows.RatioReckonsCardSaid := ratioReckons.card
#print axioms ratioReckons_holds
end Go.Proofs.YtomdhjdgcfcjdaaDoor
