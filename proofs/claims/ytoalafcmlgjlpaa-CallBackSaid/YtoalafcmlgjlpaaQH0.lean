/- What is put into a state. -/
import Derived.Test.YtoalafcmlgjlpaaQG0
set_option linter.unusedVariables false
set_option linter.unusedSimpArgs false
namespace Go.Tom
open Go

/-- A row made so long. -/
def padL {α : Type} (z : α) (l : List α) (n : Nat) : List α := l ++ List.replicate (n - l.length) z

theorem padL_len {α : Type} {z : α} {l : List α} {n : Nat} : (padL z l n).length = max l.length n := by
  unfold padL; rw [List.length_append, List.length_replicate]; omega

theorem put_Thread_eq {l : List D_api_Thread} {i : Int} {x : D_api_Thread} (hl : l.length ≤ 1000) (h0 : 0 ≤ i) (h1 : i < 32) :
    state_put_api_Thread l i 32 x = some (wr (padL z_api_Thread l (i + 1).toNat) i x) := by
  rw [← Tot.eq_iff]
  have e : ((decide (i < (0 : Int))) || (decide (i ≥ (32 : Int)))) = false := by simp; omega
  simp only [state_put_api_Thread, slices_Clone_api_Thread_api_Thread_eq l (by omega), Option.bind_some, e, cond_false]
  refine Tot.loop (fun y => ∃ k : Nat, y = l ++ List.replicate k z_api_Thread ∧ (k = 0 ∨ l.length + k ≤ (i + 1).toNat)) (fun y => ((i + 1).toNat - y.length)) (fun y hy => ?_) ⟨0, by simp, .inl rfl⟩
  obtain ⟨k, rfl, hk⟩ := hy
  simp only [state_put_api_Thread_b1, state_put_api_Thread_j1, cond_some, Tot.cond_iff, Tot.ass_iff, Tot.bnd_iff, Tot.some_iff, Tot.map_iff, Tot.bind_iff, Nx.inl_iff, Nx.inr_iff, decide_eq_true_eq, decide_eq_false_iff_not]
  rw [List.length_append, List.length_replicate]
  refine ⟨fun hc => ⟨by simp only [List.length_singleton]; unfold limA; omega, ⟨k + 1, ?_, .inr (by omega)⟩, ?_⟩, fun hc => ⟨⟨h0, by omega⟩, ?_⟩⟩
  · rw [List.append_assoc, List.replicate_succ']
  · rw [List.length_append, List.length_append, List.length_replicate, List.length_singleton]; omega
  · congr 1
    unfold padL
    congr 2
    omega

theorem PutThread_eq {s : D_api_State} {i : Int} {x : D_api_Thread} (hs : SmallP s) (h0 : 0 ≤ i) (h1 : i < 32) :
    state_PutThread s i x = some (trimS (s.1, s.2.1, wr (padL z_api_Thread s.2.2.1 (i + 1).toNat) i x, s.2.2.2)) := by
  obtain ⟨s1, s2, s3, s4, s5⟩ := hs
  rw [← Tot.eq_iff]
  have hw : state_within i 32 = some true := by simp [state_within, bnd]; omega
  simp only [state_PutThread, hw, put_Thread_eq (x := x) (show s.2.2.1.length ≤ 1000 by omega) h0 h1, Option.bind_some, Bool.not_true, cond_false, Tot.bnd_iff]
  rw [state_Trim_eq (by show s.1.length ≤ _; omega) (by show s.2.1.length ≤ _; omega) (by simp only [wr_length, padL_len]; omega) (by show s.2.2.2.1.length ≤ _; omega) (by show s.2.2.2.2.1.length ≤ _; omega)]
  exact Tot.some_iff.2 rfl
end Go.Tom
