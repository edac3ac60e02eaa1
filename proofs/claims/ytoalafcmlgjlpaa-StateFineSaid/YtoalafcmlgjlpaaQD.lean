/- The program's states: locks, the queue, the arrows; which may be. -/
import Derived.Test.YtoalafcmlgjlpaaQC
set_option linter.unusedVariables false
set_option linter.unusedSimpArgs false
namespace Go.Tom
open Go

theorem state_awaited_tot (s : D_api_State) (i : Int) (hn : s.2.2.1.length ≤ 1000) : Tot (state_awaited s i) (fun b => b = true ↔ ∃ k : Int, 0 ≤ k ∧ k < (s.2.2.1.length : Int) ∧ IsP s k 6 i) := by
  simp only [state_awaited, (contains_Thread s.2.2.1 (fun x => state_awaited_c1 x i) (fun t => t.1 == 6 && t.2.1 == i) (fun x => rfl) (by omega)).dec, Option.bind_some, Tot.some_iff, decide_eq_true_eq]
  unfold anyB IsP ThrP
  constructor
  · rintro ⟨k, k0, k1, k2⟩
    simp only [Bool.and_eq_true, beq_iff_eq] at k2
    exact ⟨k, k0, k1, ⟨k0, k1, by omega⟩, k2⟩
  · rintro ⟨k, k0, k1, _, k2⟩
    exact ⟨k, k0, k1, by simp only [Bool.and_eq_true, beq_iff_eq]; exact k2⟩

theorem state_locks_tot (s : D_api_State) (hn : s.2.2.2.1.length ≤ 1000) (hn2 : s.2.2.1.length ≤ 1000) : Tot (state_locks s) (fun b => b = true ↔ LocksOk s) := by
  classical
  unfold state_locks
  refine Tot.loop (fun x => 0 ≤ x ∧ x ≤ (s.2.2.2.1.length : Int) ∧ ∀ k : Int, 0 ≤ k → k < x → LockOk s k (rd z_api_Lock s.2.2.2.1 k)) (fun x => ((s.2.2.2.1.length : Int) - x).toNat) (fun x hx => ?_) ⟨by omega, by omega, fun k _ _ => by omega⟩
  obtain ⟨h0, h1, h2⟩ := hx
  have hw : IntKind.i64.wrap (x + 1) = x + 1 := w64 (by omega) (by omega)
  simp only [state_locks_b1, state_locks_j1, state_locks_j2, state_Thread_eq, thr_snd, beq_lock, (state_ends_Lock_tot s.2.2.2.1 (by omega)).dec, hw, Option.bind_some, cond_some, Tot.cond_iff, Tot.ass_iff, Tot.bnd_iff, Tot.some_iff, Tot.map_iff, Tot.bind_iff, Nx.inl_iff, Nx.inr_iff, decide_eq_true_eq, decide_eq_false_iff_not]
  refine ⟨fun hlt => ⟨⟨h0, hlt⟩, ?_⟩, fun hge => ?_⟩
  · have hT : LocksOk s → LockOk s x (rd z_api_Lock s.2.2.2.1 x) := fun h => h.1 x h0 hlt
    have hk : LockOk s x (rd z_api_Lock s.2.2.2.1 x) → ∀ k : Int, 0 ≤ k → k < x + 1 → LockOk s k (rd z_api_Lock s.2.2.2.1 k) := fun h k a b => by
      by_cases hkx : k = x
      · rw [hkx]; exact h
      · exact h2 k a (by omega)
    have hm : ((s.2.2.2.1.length : Int) - (x + 1)).toNat < ((s.2.2.2.1.length : Int) - x).toNat := by omega
    have e1 : x + 1 ≤ (s.2.2.2.1.length : Int) := by omega
    have e0 : 0 ≤ x + 1 := by omega
    generalize rd z_api_Lock s.2.2.2.1 x = t at *
    obtain ⟨us, ho⟩ := t
    simp only at *
    refine ⟨fun hu => ⟨fun hb => ?_, fun hb => ?_⟩, fun hu => ?_⟩
    · simp only [Bool.false_eq_true, false_iff]
      intro hc
      have := hT hc
      unfold LockOk at this
      simp only [Bool.not_eq_true'] at hu
      subst hu
      simp at hb this
      exact hb this
    · refine ⟨⟨e0, e1, hk ?_⟩, hm⟩
      simp only [Bool.not_eq_true'] at hu
      subst hu
      unfold LockOk
      simp at hb ⊢
      exact hb
    · simp only [Bool.not_eq_false'] at hu
      subst hu
      have hA : LockOk s x (true, ho) ↔ (ho = -1 ∨ ThrP s ho) ∧ ∀ k : Int, 0 ≤ k → k < (s.2.2.1.length : Int) → IsP s k 6 x → ho ≠ -1 ∧ ho ≠ k := by simp [LockOk]
      by_cases hho : ho = -1
      · subst hho
        have haw := (state_awaited_tot s x hn2).dec
        simp only [bne_self_eq_false, Bool.false_and, Bool.not_false, Bool.true_and, BEq.rfl, cond_true, haw, Tot.some_iff, Bool.false_or, decide_eq_true_eq, decide_eq_false_iff_not]
        refine ⟨fun _ => ⟨fun hex => ?_, fun hex => ⟨⟨e0, e1, hk (hA.2 ⟨.inl rfl, fun k k0 k1 k2 => absurd ⟨k, k0, k1, k2⟩ hex⟩)⟩, hm⟩⟩, fun h => absurd h (by simp)⟩
        simp only [Bool.false_eq_true, false_iff]
        intro hc
        obtain ⟨k, k0, k1, k2⟩ := hex
        exact ((hA.1 (hT hc)).2 k k0 k1 k2).1 rfl
      · have hb1 : (ho != -1) = true := by simpa using hho
        have hb2 : (ho == -1) = false := by simpa using hho
        simp only [hb1, hb2, Bool.true_and, Bool.and_false, Bool.false_and, cond_false, Tot.some_iff, Bool.or_false]
        have key : ((!(decide (ThrP s ho))) || (((thrOf s ho).1.1 == 6) && ((thrOf s ho).1.2.1 == x))) = true ↔ ¬ LockOk s x (true, ho) := by
          rw [hA]
          by_cases hth : ThrP s ho
          · simp only [thrOf, hth, if_true, decide_true, Bool.not_true, Bool.false_or, Bool.and_eq_true, beq_iff_eq]
            constructor
            · rintro ⟨a, b⟩ ⟨_, c⟩
              exact (c ho hth.1 hth.2.1 ⟨hth, a, b⟩).2 rfl
            · intro hc
              refine Classical.byContradiction fun hd => hc ⟨.inr trivial, fun k k0 k1 k2 => ⟨hho, fun he => ?_⟩⟩
              subst he
              exact hd k2.2
          · simp only [hth, decide_false, Bool.not_false, Bool.true_or, true_iff]
            rintro ⟨c | c, _⟩
            · exact hho c
            · exact c
        refine ⟨fun h => absurd h (by simp), fun _ => ⟨fun hb => ?_, fun hb => ⟨⟨e0, e1, hk ?_⟩, hm⟩⟩⟩
        · simp only [Bool.false_eq_true, false_iff]
          exact fun hc => key.1 hb (hT hc)
        · refine Classical.byContradiction fun hc => ?_
          rw [key.2 hc] at hb
          simp at hb
  · have hx : x = (s.2.2.2.1.length : Int) := by omega
    subst hx
    unfold LocksOk EndsP
    exact ⟨fun h => ⟨h2, h⟩, fun h => h.2⟩

theorem state_ThreadArrows_eq (s : D_api_State) (hn : s.2.2.1.length ≤ 100000) (h6 : ∀ k : Int, 0 ≤ k → k < (s.2.2.1.length : Int) → (rd z_api_Thread s.2.2.1 k).1 = 6 → LockP s (rd z_api_Thread s.2.2.1 k).2.1) : state_ThreadArrows s = some (thrArrows s) := by
  rw [← Tot.eq_iff]
  unfold state_ThreadArrows
  refine Tot.loop (fun x => 0 ≤ x.2 ∧ x.2 ≤ (s.2.2.1.length : Int) ∧ x.1 = buildL (fun k => thrArr s k (rd z_api_Thread s.2.2.1 k)) x.2.toNat) (fun x => ((s.2.2.1.length : Int) - x.2).toNat) (fun x hx => ?_) ⟨by omega, by simp, rfl⟩
  obtain ⟨acc, x⟩ := x
  simp only at hx
  obtain ⟨h0, h1, rfl⟩ := hx
  have hw1 : IntKind.i64.wrap (x + 1) = x + 1 := w64 (by omega) (by omega)
  have hlen := buildL_len (f := fun k => thrArr s k (rd z_api_Thread s.2.2.1 k)) (c := 1) (fun k => thrArr_len _ _ _) (n := x.toNat)
  simp only [state_ThreadArrows_b1, state_ThreadArrows_j1, state_ThreadArrows_j2, state_Lock_eq, hw1, Option.bind_some, cond_some, Tot.cond_iff, Tot.ass_iff, Tot.bnd_iff, Tot.some_iff, Tot.map_iff, Tot.bind_iff, Nx.inl_iff, Nx.inr_iff, decide_eq_true_eq, decide_eq_false_iff_not]
  refine ⟨fun hlt => ⟨⟨h0, hlt⟩, fun hb => ⟨?_, ⟨by omega, by omega, ?_⟩, by omega⟩, fun hb => ⟨fun hb2 => ⟨fun hb3 => ⟨?_, ⟨by omega, by omega, ?_⟩, by omega⟩, fun hb3 => ?_⟩, fun hb2 => ⟨⟨by omega, by omega, ?_⟩, by omega⟩⟩⟩, fun hge => ?_⟩
  · simp only [List.length_singleton]; unfold limA; omega
  · simp only [Bool.and_eq_true, Bool.or_eq_true, Bool.not_eq_true', Bool.and_eq_false_iff, Bool.or_eq_false_iff, Bool.not_eq_false', beq_iff_eq, bne_iff_ne, beq_eq_false_iff_ne, bne_eq_false_iff_eq, decide_eq_true_eq, decide_eq_false_iff_not] at hb
    rw [buildL_step h0]
    simp [thrArr, hb]
  · simp only [List.length_singleton]; unfold limA; omega
  · simp only [Bool.and_eq_true, Bool.or_eq_true, Bool.not_eq_true', Bool.and_eq_false_iff, Bool.or_eq_false_iff, Bool.not_eq_false', beq_iff_eq, bne_iff_ne, beq_eq_false_iff_ne, bne_eq_false_iff_eq, decide_eq_true_eq, decide_eq_false_iff_not] at hb hb2
    rw [buildL_step h0]
    have := h6 x h0 hlt hb2
    simp [thrArr, hb2, lockOf, this]
  · simp only [Bool.and_eq_true, Bool.or_eq_true, Bool.not_eq_true', Bool.and_eq_false_iff, Bool.or_eq_false_iff, Bool.not_eq_false', beq_iff_eq, bne_iff_ne, beq_eq_false_iff_ne, bne_eq_false_iff_eq, decide_eq_true_eq, decide_eq_false_iff_not] at hb2
    have := h6 x h0 hlt hb2
    simp [lockOf, this] at hb3
  · simp only [Bool.and_eq_true, Bool.or_eq_true, Bool.not_eq_true', Bool.and_eq_false_iff, Bool.or_eq_false_iff, Bool.not_eq_false', beq_iff_eq, bne_iff_ne, beq_eq_false_iff_ne, bne_eq_false_iff_eq, decide_eq_true_eq, decide_eq_false_iff_not] at hb hb2
    rw [buildL_step h0]
    simp [thrArr, hb, hb2]
  · have hx : x = (s.2.2.1.length : Int) := by omega
    subst hx
    simp [thrArrows]
end Go.Tom
