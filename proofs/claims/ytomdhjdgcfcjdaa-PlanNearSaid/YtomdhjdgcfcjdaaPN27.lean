/- Chapter 48: how often a fraction can be laid to another one. -/
import Derived.Test.YtomdhjdgcfcjdaaPN25
import Derived.Test.YtomdhjdgcfcjdaaPRt
set_option linter.unusedVariables false
set_option linter.unusedSimpArgs false
namespace Go.Tom
open Go

/-- What the search asks. -/
def stepOk (p q x : FP) (most : Nat) (up : Bool) (n : Nat) : Bool := decide ((addN p q n).2 ≤ most) && ((up && decide (cmpP (addN p q n) x ≤ 0)) || (!up && decide (cmpP (addN p q n) x ≥ 0)))

theorem stepB_eq (p q x : FP) (most : Nat) (up : Bool) (lo hi : Nat) : stepB p q x most up lo hi = if stepOk p q x most up (lo + (hi - lo + 1) / 2) = true then (lo + (hi - lo + 1) / 2, hi) else (lo, lo + (hi - lo + 1) / 2 - 1) := rfl

theorem steps_none {p q x : FP} {most : Nat} {up : Bool} (hm : ∀ n, stepOk p q x most up (n + 1) = true → stepOk p q x most up n = true) : ∀ {k n : Nat}, stepOk p q x most up n = false → stepOk p q x most up (n + k) = false
  | 0, n, h => h
  | k + 1, n, h => by
    cases hc : stepOk p q x most up (n + (k + 1)) with
    | false => rfl
    | true => have := hm (n + k) hc; rw [steps_none hm h] at this; exact absurd this (by simp)

theorem plan_steps_eq {p q x : FP} {k most : Nat} {up : Bool} (hp : S16 k p) (hq : S16 k q) (hx : S16 k x) (hk : k ≤ 1000) (hm : most ≤ 1048576) (h0 : stepOk p q x most up 0 = true)
    (hmo : ∀ n, stepOk p q x most up (n + 1) = true → stepOk p q x most up n = true) :
    ∃ n : Nat, plan_steps (q32 p) (q32 q) (q32 x) (most : Int) up = some (n : Int) ∧ n ≤ most ∧ stepOk p q x most up n = true ∧ (n < most → stepOk p q x most up (n + 1) = false) := by
  have main : Tot (plan_steps (q32 p) (q32 q) (q32 x) (most : Int) up) (fun r => ∃ n : Nat, r = (n : Int) ∧ n ≤ most ∧ stepOk p q x most up n = true ∧ (n < most → stepOk p q x most up (n + 1) = false)) := by
    unfold plan_steps
    refine Tot.loop (fun z : Int × Int => ∃ lo hi : Nat, z = ((lo : Int), (hi : Int)) ∧ lo ≤ hi ∧ hi ≤ most ∧ stepOk p q x most up lo = true ∧ (hi < most → stepOk p q x most up (hi + 1) = false)) (fun z => (z.2 - z.1).toNat) (fun z hz => ?_) ⟨0, most, rfl, Nat.zero_le _, Nat.le_refl _, h0, fun h => absurd h (Nat.lt_irrefl _)⟩
    obtain ⟨lo, hi, rfl, hlh, hhm, hlo, hhi⟩ := hz
    show Tot (plan_steps_b1 (q32 p) (q32 q) (q32 x) (most : Int) up (lo : Int) (hi : Int)) _
    rcases Nat.lt_or_ge lo hi with hlt | hge
    · rw [plan_steps_b1_eq hp hq hx hk hm hlt (by omega), stepB_eq]
      refine Tot.some_iff.2 (Nx.inl_iff.2 ?_)
      by_cases hc : stepOk p q x most up (lo + (hi - lo + 1) / 2) = true
      · rw [if_pos hc]
        exact ⟨⟨_, _, rfl, by omega, hhm, hc, hhi⟩, by simp only; omega⟩
      · rw [if_neg hc]
        refine ⟨⟨_, _, rfl, by omega, by omega, hlo, fun _ => ?_⟩, by simp only; omega⟩
        rw [show lo + (hi - lo + 1) / 2 - 1 + 1 = lo + (hi - lo + 1) / 2 from by omega]
        simpa using hc
    · obtain rfl : lo = hi := by omega
      rw [steps_done]
      exact Tot.some_iff.2 (Nx.inr_iff.2 ⟨lo, rfl, hhm, hlo, hhi⟩)
  obtain ⟨r, h1, n, rfl, h2, h3, h4⟩ := main
  exact ⟨n, h1, h2, h3, h4⟩
end Go.Tom
