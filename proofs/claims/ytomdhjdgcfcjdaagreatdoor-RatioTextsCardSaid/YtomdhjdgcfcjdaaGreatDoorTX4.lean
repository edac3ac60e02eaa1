/- Chapter 3: its example, and the laws of numbers. -/
import Derived.Test.YtomdhjdgcfcjdaaGreatDoorTX3
set_option linter.unusedVariables false
set_option linter.unusedSimpArgs false
namespace Go.Tom
open Go

theorem Dg_wf' {l : List Int} (h : Wf (.slice (.int .u32)) l) : Dg 4294967296 l := by
  intro x hx
  have := h.2 x hx
  simp only [Wf, Lit.wf, Bool.and_eq_true, decide_eq_true_eq] at this
  have e1 : IntKind.u32.min = 0 := rfl
  have e2 : IntKind.u32.max = 4294967295 := rfl
  rw [e1, e2] at this
  omega
theorem u64_wf {x : Int} (h : Wf (.int .u64) x) : ∃ n : Nat, x = (n : Int) ∧ n ≤ 18446744073709551615 := by
  simp only [Wf, Lit.wf, Bool.and_eq_true, decide_eq_true_eq] at h
  have e1 : IntKind.u64.min = 0 := rfl
  have e2 : IntKind.u64.max = 18446744073709551615 := rfl
  rw [e1, e2] at h
  exact ⟨x.toNat, by omega, by omega⟩

theorem len16 {a : List Int} {x : Nat} (h : Is a x) : (d16 x).length ≤ 2 * a.length := by
  refine dg_len b16 ?_
  have := h.lt
  rw [Nat.pow_mul]
  exact this

theorem d32_two : d32 4294967296 = [0, 1] := by
  rw [d32, dg_pos b32 (by omega), dg_pos b32 (by omega), show 4294967296 / 4294967296 / 4294967296 = 0 from rfl, dg_zero]
  rfl

theorem cmp_ge0 {x y : Nat} : decide (cmpN x y ≥ 0) = !decide (x < y) := by
  unfold cmpN
  by_cases h : x < y
  · rw [if_pos h, decide_eq_true h]; rfl
  · rw [if_neg h, decide_eq_false h]; split <;> rfl

end Go.Tom
