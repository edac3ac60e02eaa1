/- Of what is handed in: its digits are digits. -/
import Derived.Test.YtomdhjdgcfcjdaaPN19
set_option linter.unusedVariables false
set_option linter.unusedSimpArgs false
namespace Go.Tom
open Go

theorem Dg_wf {l : List Int} (h : Wf (.slice (.int .u32)) l) : Dg 4294967296 l := by
  intro x hx
  have := h.2 x hx
  simp only [Wf, Lit.wf, Bool.and_eq_true, decide_eq_true_eq] at this
  have e1 : IntKind.u32.min = 0 := rfl
  have e2 : IntKind.u32.max = 4294967295 := rfl
  rw [e1, e2] at this
  omega

theorem DgR_wf {r : D_api_Ratio} (h : Wf T_api_Ratio r) : DgR r := ⟨Dg_wf h.1, Dg_wf h.2⟩
end Go.Tom
