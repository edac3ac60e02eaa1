/- Along arrows without a ring one comes to an end. -/
import Derived.Test.YtoalafcmlgjlpaaPR
set_option linter.unusedVariables false
set_option linter.unusedSimpArgs false
namespace Go.Tom
open Go

/-- Without a ring each number has a rank that falls along the arrows. -/
theorem rank_of {n : Int} {l : List (Int × Int)} (h : ¬ RingP n l) : ∃ rank : Int → Nat, (∀ x, rank x ≤ n.toNat) ∧ ∀ x y, RR n l x y → rank y < rank x := by
  classical
  have hcnt : ∀ (p q : Int → Bool) (m : Nat), (∀ k : Int, 0 ≤ k → k < (m : Int) → p k = true → q k = true) → cnt p m ≤ cnt q m ∧ ((∃ k : Int, 0 ≤ k ∧ k < (m : Int) ∧ q k = true ∧ p k = false) → cnt p m < cnt q m) := by
    intro p q m
    induction m with
    | zero => intro _; exact ⟨Nat.le_refl _, fun ⟨k, a, b, _⟩ => by omega⟩
    | succ m ih =>
      intro hpq
      obtain ⟨i1, i2⟩ := ih fun k a b => hpq k a (by omega)
      have hm := hpq m (by omega) (by omega)
      simp only [cnt]
      refine ⟨by cases hp : p m <;> cases hq : q m <;> simp [hp, hq] at hm ⊢ <;> omega, fun ⟨k, a, b, c, d⟩ => ?_⟩
      by_cases hk : k = m
      · rw [hk] at c d; rw [c, d]; simp; omega
      · have := i2 ⟨k, a, by omega, c, d⟩
        cases hp : p m <;> cases hq : q m <;> simp [hp, hq] at hm ⊢ <;> omega
  refine ⟨fun x => cnt (fun k => decide (Relation.TransGen (RR n l) x k)) n.toNat, fun x => cnt_le, fun x y hxy => ?_⟩
  refine (hcnt _ _ n.toNat fun k a b hk => ?_).2 ⟨y, hxy.2.2.2.1, by have := hxy.2.2.2.2; have := hxy.2.2.2.1; omega, ?_, ?_⟩
  · simp only [decide_eq_true_eq] at hk ⊢
    exact Relation.TransGen.trans (.single hxy) hk
  · simp only [decide_eq_true_eq]
    exact .single hxy
  · simp only [decide_eq_false_iff_not]
    exact fun hc => h ⟨y, hxy.2.2.2.1, hxy.2.2.2.2, hc⟩
end Go.Tom
