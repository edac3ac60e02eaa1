/- Whom a number comes to, as a test. -/
import Derived.Test.YtagcgcpapjidcaaPI
set_option linter.unusedVariables false
set_option linter.unusedSimpArgs false
namespace Go.Tom
open Go

theorem buildL_one {f : Int → List Int} (hf : ∀ k, (f k).length ≤ 1) {n : Nat} : (buildL f n).length ≤ n := by
  have := buildL_len (f := f) (c := 1) hf (n := n)
  omega

open Classical in
theorem reachL_len {n : Int} {l : List (Int × Int)} {a : Int} : (reachL n l a).length ≤ n.toNat := by
  unfold reachL
  exact buildL_one fun k => by split <;> simp

theorem mem_reachL {n : Int} {l : List (Int × Int)} {a b : Int} : b ∈ reachL n l a ↔ Relation.TransGen (RR n l) a b := by
  classical
  unfold reachL
  rw [mem_buildL]
  constructor
  · rintro ⟨k, _, _, hk⟩
    split at hk
    · rename_i h; rw [List.mem_singleton.1 hk]; exact h
    · simp at hk
  · intro h
    obtain ⟨_, _, b0, b1⟩ := tc_first h
    exact ⟨b, b0, by omega, by rw [if_pos h]; simp⟩

theorem dag_Comes_eq (n : Int) (l : List (Int × Int)) (a b : Int) (hl : l.length ≤ 10000) : dag_Comes n l a b = some (@decide (Relation.TransGen (RR (clampN n) l) a b) (Classical.propDecidable _)) := by
  classical
  have hc := clamp_le (n := n)
  have hle := reachL_len (n := clampN n) (l := l) (a := a)
  rw [← Tot.eq_iff]
  simp only [dag_Comes, dag_Reach_eq n l a hl, cond_some, Tot.cond_iff, Tot.ass_iff, Tot.bnd_iff, Tot.some_iff, Tot.map_iff, Tot.bind_iff, Nx.inl_iff, Nx.inr_iff, decide_eq_true_eq, decide_eq_false_iff_not]
  split
  · rw [slices_Contains_int_eq _ _ (by omega), Tot.some_iff, decide_eq_decide]
    exact mem_reachL
  · rename_i ha
    rw [slices_Contains_int_eq _ _ (by simp), Tot.some_iff, decide_eq_decide]
    simp only [List.not_mem_nil, false_iff]
    intro h
    have := tc_first h
    exact ha ⟨this.1, this.2.1⟩

end Go.Tom
