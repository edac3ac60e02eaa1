/- The program's states: which threads, locks, queues may be; the arrows. -/
import Derived.Test.YtoalafcmlgjlpaaQB
set_option linter.unusedVariables false
set_option linter.unusedSimpArgs false
namespace Go.Tom
open Go

instance (s : D_api_State) (i st w : Int) : Decidable (IsP s i st w) := by unfold IsP; infer_instance
instance (s : D_api_State) (i : Int) (t : D_api_Thread) : Decidable (ThreadOk s i t) := by unfold ThreadOk; infer_instance

/-- Whom a thread serves may be. -/
def ClientOk (s : D_api_State) (i : Int) (t : D_api_Thread) : Prop := t.2.2.1 = -1 ∨ (t.1 ≠ 5 ∧ IsP s t.2.2.1 4 i)
instance (s : D_api_State) (i : Int) (t : D_api_Thread) : Decidable (ClientOk s i t) := by unfold ClientOk; infer_instance

theorem state_client_eq (s : D_api_State) (i : Int) (t : D_api_Thread) : state_client s i t = some (decide (ClientOk s i t)) := by
  rw [← Tot.eq_iff]
  obtain ⟨st, fo, cl, q, u⟩ := t
  simp only [state_client, state_Thread_eq, cond_some, Tot.cond_iff, Tot.ass_iff, Tot.bnd_iff, Tot.some_iff, Tot.map_iff, Tot.bind_iff, Nx.inl_iff, Nx.inr_iff, decide_eq_true_eq, decide_eq_false_iff_not]
  unfold ClientOk IsP thrOf
  by_cases h : ThrP s cl
  · simp only [h, if_true, true_and]
    grind
  · simp only [h, if_false, false_and]
    grind

/-- How much of a quantum may be used. -/
def FactOk (s : D_api_State) (t : D_api_Thread) : Prop := (t.2.2.2.1 = 1 ∧ t.2.2.2.2 = 1) ∨ (1 ≤ t.2.2.2.2 ∧ t.2.2.2.2 < t.2.2.2.1 ∧ t.2.2.2.1 ≤ s.2.2.2.2.2)
instance (s : D_api_State) (t : D_api_Thread) : Decidable (FactOk s t) := by unfold FactOk; infer_instance

theorem state_thread_j2_eq (s : D_api_State) (i : Int) (t : D_api_Thread) (w : Bool) : state_thread_j2 s i t w = some (w && decide (FactOk s t) && decide (ClientOk s i t)) := by
  have e : ((((t.2.2.2.1 == (1 : Int)) && (t.2.2.2.2 == (1 : Int))) || (((decide (t.2.2.2.2 ≥ (1 : Int))) && (decide (t.2.2.2.2 < t.2.2.2.1))) && (decide (t.2.2.2.1 ≤ s.2.2.2.2.2))))) = decide (FactOk s t) := by
    have hF : FactOk s t ↔ (t.2.2.2.1 = 1 ∧ t.2.2.2.2 = 1) ∨ (1 ≤ t.2.2.2.2 ∧ t.2.2.2.2 < t.2.2.2.1 ∧ t.2.2.2.1 ≤ s.2.2.2.2.2) := Iff.rfl
    rw [Bool.eq_iff_iff, decide_eq_true_iff, hF]
    simp [and_assoc]
  rw [← Tot.eq_iff]
  simp only [state_thread_j2, e, state_client_eq, cond_some, Tot.cond_iff, Tot.ass_iff, Tot.bnd_iff, Tot.some_iff, Tot.map_iff, Tot.bind_iff, Nx.inl_iff, Nx.inr_iff, decide_eq_true_eq, decide_eq_false_iff_not]
  cases w <;> by_cases h : FactOk s t <;> simp [h, Tot.some_iff]

theorem state_thread_tot (s : D_api_State) (i : Int) (t : D_api_Thread) : Tot (state_thread s i t) (fun b => b = true ↔ ThreadOk s i t) := by
  have hT : ThreadOk s i t ↔ if t.1 = 0 then t = (0, 0, 0, 0, 0) else
    ((0 < t.1 ∧ t.1 < 6 ∧ t.1 ≠ 4 ∧ t.2.1 = -1) ∨ (t.1 = 4 ∧ t.2.1 ≠ i ∧ ThrP s t.2.1) ∨ (t.1 = 6 ∧ LockP s t.2.1)) ∧ ClientOk s i t ∧ FactOk s t := Iff.rfl
  rw [hT]
  simp only [state_thread, state_thread_j1, state_thread_j2_eq, state_Thread_eq, state_Lock_eq, thr_snd, lock_snd, beq_thread, Option.bind_some, Tot.bnd_iff, Tot.some_iff]
  by_cases h0 : t.1 = 0
  · simp [h0, Tot.some_iff, Tot.bnd_iff]
  by_cases h1 : t.1 = 1
  · simp [h1, Tot.some_iff, Tot.bnd_iff]
    grind
  by_cases h2 : t.1 = 2
  · simp [h2, Tot.some_iff, Tot.bnd_iff]
    grind
  by_cases h3 : t.1 = 3
  · simp [h3, Tot.some_iff, Tot.bnd_iff]
    grind
  by_cases h5 : t.1 = 5
  · simp [h5, Tot.some_iff, Tot.bnd_iff]
    grind
  by_cases h4 : t.1 = 4
  · simp [h4, Tot.some_iff, Tot.bnd_iff]
    grind
  by_cases h6 : t.1 = 6
  · simp [h6, Tot.some_iff, Tot.bnd_iff]
    grind
  · have e0 : (t.1 == 0) = false := by simpa using h0
    have e1 : (t.1 == 1) = false := by simpa using h1
    have e2 : (t.1 == 2) = false := by simpa using h2
    have e3 : (t.1 == 3) = false := by simpa using h3
    have e4 : (t.1 == 4) = false := by simpa using h4
    have e5 : (t.1 == 5) = false := by simpa using h5
    have e6 : (t.1 == 6) = false := by simpa using h6
    rw [e0, e1, e2, e3, e4, e5, e6, if_neg h0]
    simp only [cond_false, Tot.some_iff, Bool.false_eq_true, false_iff]
    omega

theorem state_threads_tot (s : D_api_State) (hn : s.2.2.1.length ≤ 1000) : Tot (state_threads s) (fun b => b = true ↔ ThreadsOk s) := by
  classical
  unfold state_threads
  refine Tot.loop (fun x => 0 ≤ x.2 ∧ x.2 ≤ (s.2.2.1.length : Int) ∧ x.1 = (cnt (runs s) x.2.toNat : Int) ∧ ∀ k : Int, 0 ≤ k → k < x.2 → ThreadOk s k (rd z_api_Thread s.2.2.1 k)) (fun x => ((s.2.2.1.length : Int) - x.2).toNat) (fun x hx => ?_) ⟨by omega, by simp, by simp [cnt], fun k _ _ => by simp at *; omega⟩
  obtain ⟨r, x⟩ := x
  simp only at hx
  obtain ⟨h0, h1, hr, h2⟩ := hx
  subst hr
  have hw : IntKind.i64.wrap (x + 1) = x + 1 := w64 (by omega) (by omega)
  have hcx := cnt_le (p := runs s) (n := x.toNat)
  have hw2 : IntKind.i64.wrap (((cnt (runs s) x.toNat : Nat) : Int) + 1) = (cnt (runs s) x.toNat : Int) + 1 := w64 (by omega) (by omega)
  simp only [state_threads_b1, state_threads_j1, state_threads_j2, (state_thread_tot s x _).dec, (state_ends_Thread_tot s.2.2.1 (by omega)).dec, hw, hw2, Option.bind_some, cond_some, Tot.cond_iff, Tot.ass_iff, Tot.bnd_iff, Tot.some_iff, Tot.map_iff, Tot.bind_iff, Nx.inl_iff, Nx.inr_iff, decide_eq_true_eq, decide_eq_false_iff_not]
  refine ⟨fun hlt => ⟨⟨h0, hlt⟩, fun hb => ?_, fun hb => ?_⟩, fun hge => ?_⟩
  · have hb' : ¬ ThreadOk s x (rd z_api_Thread s.2.2.1 x) := by simpa using hb
    simp only [Bool.false_eq_true, false_iff]
    exact fun hc => hb' (hc.1 x h0 hlt)
  · have hb' : ThreadOk s x (rd z_api_Thread s.2.2.1 x) := by simpa using hb
    have hk : ∀ k : Int, 0 ≤ k → k < x + 1 → ThreadOk s k (rd z_api_Thread s.2.2.1 k) := fun k a b => by
      by_cases hkx : k = x
      · rw [hkx]; exact hb'
      · exact h2 k a (by omega)
    have hc : ((cnt (runs s) (x + 1).toNat : Nat) : Int) = cnt (runs s) x.toNat + (if (rd z_api_Thread s.2.2.1 x).1 = 3 then 1 else 0) := by
      rw [cnt_step h0]
      by_cases h3 : (rd z_api_Thread s.2.2.1 x).1 = 3
      · have h4 : runs s x = true := by simp [runs, h3]
        rw [h4]; simp [h3]
      · have h4 : runs s x = false := by simp [runs, h3]
        rw [h4]; simp [h3]
    refine ⟨fun h3 => ?_, fun h3 => ?_⟩
    · rw [beq_iff_eq] at h3
      simp only [h3, if_true] at hc
      exact ⟨⟨by omega, by omega, by omega, hk⟩, by omega⟩
    · rw [beq_eq_false_iff_ne] at h3
      simp only [h3, if_false] at hc
      exact ⟨⟨by omega, by omega, by omega, hk⟩, by omega⟩
  · have hx : x = (s.2.2.1.length : Int) := by omega
    subst hx
    have hT : ThreadsOk s ↔ cnt (runs s) s.2.2.1.length < 2 ∧ EndsP (fun t : D_api_Thread => t.1 != 0) z_api_Thread s.2.2.1 32 := by
      unfold ThreadsOk EndsP
      simp only [bne_iff_ne]
      exact ⟨fun h => h.2, fun h => ⟨h2, h⟩⟩
    rw [hT]
    simp only [Int.toNat_natCast]
    by_cases h3 : cnt (runs s) s.2.2.1.length < 2
    · have e : decide (((cnt (runs s) s.2.2.1.length : Nat) : Int) ≤ 1) = true := by simp; omega
      by_cases h4 : EndsP (fun t : D_api_Thread => t.1 != 0) z_api_Thread s.2.2.1 32
      · simp [e, h3, h4, Tot.some_iff]
      · simp [e, h3, h4, Tot.some_iff]
    · have e : decide (((cnt (runs s) s.2.2.1.length : Nat) : Int) ≤ 1) = false := by simp; omega
      simp [e, h3, Tot.some_iff]
end Go.Tom
