/- What is put into a state; chapter 14's example. -/
import Derived.Test.YtoalafcmlgjlpaaQG
set_option linter.unusedVariables false
set_option linter.unusedSimpArgs false
namespace Go.Tom
open Go

/-- A row made so long. -/
def padL {α : Type} (z : α) (l : List α) (n : Nat) : List α := l ++ List.replicate (n - l.length) z

theorem padL_len {α : Type} {z : α} {l : List α} {n : Nat} : (padL z l n).length = max l.length n := by
  unfold padL; rw [List.length_append, List.length_replicate]; omega

theorem put_Thread_eq {l : List D_api_Thread} {i : Int} {x : D_api_Thread} (hl : l.length ≤ 1000) (h0 : 0 ≤ i) (h1 : i < 32) :
    state_put_api_Thread l i 32 x = some (wr (padL z_api_Thread l (i + 1).toNat) i x) := by
  rw [← Tot.eq_iff]
  have e : ((decide (i < (0 : Int))) || (decide (i ≥ (32 : Int)))) = false := by simp; omega
  simp only [state_put_api_Thread, slices_Clone_api_Thread_api_Thread_eq l (by omega), Option.bind_some, e, cond_false]
  refine Tot.loop (fun y => ∃ k : Nat, y = l ++ List.replicate k z_api_Thread ∧ (k = 0 ∨ l.length + k ≤ (i + 1).toNat)) (fun y => ((i + 1).toNat - y.length)) (fun y hy => ?_) ⟨0, by simp, .inl rfl⟩
  obtain ⟨k, rfl, hk⟩ := hy
  simp only [state_put_api_Thread_b1, state_put_api_Thread_j1, cond_some, Tot.cond_iff, Tot.ass_iff, Tot.bnd_iff, Tot.some_iff, Tot.map_iff, Tot.bind_iff, Nx.inl_iff, Nx.inr_iff, decide_eq_true_eq, decide_eq_false_iff_not]
  rw [List.length_append, List.length_replicate]
  refine ⟨fun hc => ⟨by simp only [List.length_singleton]; unfold limA; omega, ⟨k + 1, ?_, .inr (by omega)⟩, ?_⟩, fun hc => ⟨⟨h0, by omega⟩, ?_⟩⟩
  · rw [List.append_assoc, List.replicate_succ']
  · rw [List.length_append, List.length_append, List.length_replicate, List.length_singleton]; omega
  · congr 1
    unfold padL
    congr 2
    omega

theorem PutThread_eq {s : D_api_State} {i : Int} {x : D_api_Thread} (hs : SmallP s) (h0 : 0 ≤ i) (h1 : i < 32) :
    state_PutThread s i x = some (trimS (s.1, s.2.1, wr (padL z_api_Thread s.2.2.1 (i + 1).toNat) i x, s.2.2.2)) := by
  obtain ⟨s1, s2, s3, s4, s5⟩ := hs
  rw [← Tot.eq_iff]
  have hw : state_within i 32 = some true := by simp [state_within, bnd]; omega
  simp only [state_PutThread, hw, put_Thread_eq (x := x) (show s.2.2.1.length ≤ 1000 by omega) h0 h1, Option.bind_some, Bool.not_true, cond_false, Tot.bnd_iff]
  rw [state_Trim_eq (by show s.1.length ≤ _; omega) (by show s.2.1.length ≤ _; omega) (by simp only [wr_length, padL_len]; omega) (by show s.2.2.2.1.length ≤ _; omega) (by show s.2.2.2.2.1.length ≤ _; omega)]
  exact Tot.some_iff.2 rfl

/-- Chapter 14's examples. -/
def ex14a : D_api_State := ([true], [], [], [], [], 10)
def ex14b : D_api_State := ([true], [], [(2, -1, -1, 1, 1)], [], [], 10)
def ex14z : D_api_State := ([], [], [], [], [], 0)

theorem fine14a : FineP ex14a where
  q1 := by decide
  q2 := by decide
  c1 := by decide
  c2 := by decide
  first := by decide
  last := by decide
  tickets := ⟨fun k k0 k1 => by simp [ex14a] at k1; omega, by decide, .inl (by decide)⟩
  threads := ⟨fun k k0 k1 => by simp [ex14a] at k1; omega, by decide, by decide, .inl (by decide)⟩
  locks := ⟨fun k k0 k1 => by simp [ex14a] at k1; omega, by decide, .inl (by decide)⟩
  queue := ⟨fun i i0 i1 => by simp [ex14a] at i1; omega, fun k k0 k1 => by simp [ex14a] at k1; omega⟩
  coinRing := by
    have e : coinArrows ex14a = [] := by decide
    rw [e]
    intro h
    have := (ring_iff (n := ex14a.1.length) (l := []) (by omega)).2 h
    exact absurd this (by decide)
  thrRing := by
    have e : thrArrows ex14a = [] := by decide
    rw [e]
    intro h
    have := (ring_iff (n := ex14a.2.2.1.length) (l := []) (by omega)).2 h
    exact absurd this (by decide)

theorem fine14b : FineP ex14b where
  q1 := by decide
  q2 := by decide
  c1 := by decide
  c2 := by decide
  first := by decide
  last := by decide
  tickets := ⟨fun k k0 k1 => by simp [ex14b] at k1; omega, by decide, .inl (by decide)⟩
  threads := by
    refine ⟨fun k k0 k1 => ?_, by decide, by decide, .inr (by decide)⟩
    have : k = 0 := by simp [ex14b] at k1; omega
    subst this
    unfold ThreadOk
    rw [if_neg (by decide)]
    exact ⟨.inl (by decide), .inl (by decide), .inl (by decide)⟩
  locks := ⟨fun k k0 k1 => by simp [ex14b] at k1; omega, by decide, .inl (by decide)⟩
  queue := by
    refine ⟨fun i i0 i1 => ?_, fun k k0 k1 => by simp [ex14b] at k1; omega⟩
    have : i = 0 := by simp [ex14b] at i1; omega
    subst this
    exact ⟨⟨fun h => absurd h (by unfold QueuesP; decide), fun h => absurd h (by decide)⟩, by decide, fun h => absurd h (by decide)⟩
  coinRing := by
    have e : coinArrows ex14b = [] := by decide
    rw [e]
    intro h
    have := (ring_iff (n := ex14b.1.length) (l := []) (by omega)).2 h
    exact absurd this (by decide)
  thrRing := by
    have e : thrArrows ex14b = [] := by decide
    rw [e]
    intro h
    have := (ring_iff (n := ex14b.2.2.1.length) (l := []) (by omega)).2 h
    exact absurd this (by decide)

theorem free14 : state_FreeThread ex14b = some 1 := by
  rw [← Tot.eq_iff]
  have e : (if (32 : Int) < ((ex14b.2.2.1.length : Nat) : Int) then (32 : Int) else ((ex14b.2.2.1.length : Nat) : Int)) = 1 := by decide
  have e2 : sl ex14b.2.2.1 (0 : Int) 1 = [(2, -1, -1, 1, 1)] := by decide
  simp only [state_FreeThread, state_free_api_Thread, e, e2, cond_some, Tot.cond_iff, Tot.ass_iff, Tot.bnd_iff, Tot.some_iff, Tot.map_iff, Tot.bind_iff, Nx.inl_iff, Nx.inr_iff, decide_eq_true_eq, decide_eq_false_iff_not]
  refine ⟨by decide, ?_⟩
  refine Tot.loop (fun x => x = 0 ∨ x = 1) (fun x => (2 - x).toNat) (fun x hx => ?_) (.inl rfl)
  rcases hx with rfl | rfl
  · have hu : state_threadUsed (rd z_api_Thread [(2, -1, -1, 1, 1)] 0) = some true := rfl
    have hw : IntKind.i64.wrap ((0 : Int) + 1) = 1 := by decide
    have hw2 : IntKind.i64.wrap (1 : Int) = 1 := by decide
    simp [state_free_api_Thread_b1, e, e2, hu, hw, hw2, Nx, Tot.some_iff, Tot.bnd_iff, Tot.ass_iff]
  · have e3 : decide (((ex14b.2.2.1.length : Nat) : Int) ≥ 32) = false := by decide
    simp [state_free_api_Thread_b1, state_free_api_Thread_j1, e, e2, e3, Nx, Tot.some_iff, Tot.bnd_iff, Tot.ass_iff]
    decide

theorem small14a : SmallP ex14a := by unfold SmallP; decide
theorem small14b : SmallP ex14b := by unfold SmallP; decide
theorem small14z : SmallP ex14z := by unfold SmallP; decide

theorem l14_alive_eq : l14_alive = some true := by
  classical
  have hput : state_PutThread ex14a 0 (2, -1, -1, 1, 1) = some ex14b := by
    rw [PutThread_eq small14a (by omega) (by omega)]
    rfl
  have hA := (state_Fine_tot ex14a small14a).dec
  have hB := (state_Fine_tot ex14b small14b).dec
  have hZ := (state_Fine_tot ex14z small14z).dec
  have hS : state_Same ex14a ex14b = some false := by
    rw [(state_Same_tot (a := ex14a) ex14b small14a).dec]
    congr 1
    exact @decide_eq_false _ (Classical.propDecidable _) fun h => absurd (congrArg (fun s : D_api_State => s.2.2.1.length) h) (by decide)
  have dA : (decide (FineP ex14a)) = true := decide_eq_true fine14a
  have dB : (decide (FineP ex14b)) = true := decide_eq_true fine14b
  have dZ : (decide (FineP ex14z)) = false := decide_eq_false fun h => absurd h.c1 (by decide)
  have hn1 : state_New 10 = some (ex14a, 0) := by rw [state_New_eq]; rfl
  have hn2 : state_New 0 = some (ex14z, 1) := by rw [state_New_eq]; rfl
  have hz : ((([] : List Bool), ([] : List D_api_Ticket), ([] : List D_api_Thread), ([] : List D_api_Lock), ([] : List Int), (0 : Int)) : D_api_State) = ex14z := rfl
  have hl : ((ex14a.1.length : Int) == 1) = true := by decide
  simp only [l14_alive, hn1, hn2, Option.bind_some, hput, hz, hl, hA, hB, hZ, hS, free14, dA, dB, dZ, BEq.rfl, Bool.and_self, Bool.and_true, Bool.true_and, cond_true, Bool.not_false, bnd]
end Go.Tom
