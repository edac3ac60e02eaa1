/- Copies of states; whether two are the same. -/
import Derived.Test.YtoalafcmlgjlpaaQA0
set_option linter.unusedVariables false
set_option linter.unusedSimpArgs false
namespace Go.Tom
open Go

theorem thr_snd (s : D_api_State) (i : Int) : (thrOf s i).2 = decide (ThrP s i) := by unfold thrOf; split <;> simp_all

theorem lock_snd (s : D_api_State) (i : Int) : (lockOf s i).2 = decide (LockP s i) := by unfold lockOf; split <;> simp_all

/-- How much of a quantum may be used. -/
def FactOk (s : D_api_State) (t : D_api_Thread) : Prop := (t.2.2.2.1 = 1 ∧ t.2.2.2.2 = 1) ∨ (1 ≤ t.2.2.2.2 ∧ t.2.2.2.2 < t.2.2.2.1 ∧ t.2.2.2.1 ≤ s.2.2.2.2.2)

instance (s : D_api_State) (t : D_api_Thread) : Decidable (FactOk s t) := by unfold FactOk; infer_instance

theorem state_Copy_eq {s : D_api_State} (h : SmallP s) : state_Copy s = some s := by
  obtain ⟨h1, h2, h3, h4, h5⟩ := h
  rw [← Tot.eq_iff]
  simp only [state_Copy, slices_Clone_bool_bool_eq s.1 (by omega), slices_Clone_api_Ticket_api_Ticket_eq s.2.1 (by omega), slices_Clone_api_Thread_api_Thread_eq s.2.2.1 (by omega), slices_Clone_api_Lock_api_Lock_eq s.2.2.2.1 (by omega), slices_Clone_int_int_eq s.2.2.2.2.1 (by omega), Option.bind_some, cond_some, Tot.cond_iff, Tot.ass_iff, Tot.bnd_iff, Tot.some_iff, Tot.map_iff, Tot.bind_iff, Nx.inl_iff, Nx.inr_iff, decide_eq_true_eq, decide_eq_false_iff_not]

theorem r14_Copy_eq' {s : D_api_State} (h : SmallP s) : r14_Copy s = some s := by
  obtain ⟨h1, h2, h3, h4, h5⟩ := h
  rw [← Tot.eq_iff]
  simp only [r14_Copy, List.nil_append, List.length_nil, cond_some, Tot.cond_iff, Tot.ass_iff, Tot.bnd_iff, Tot.some_iff, Tot.map_iff, Tot.bind_iff, Nx.inl_iff, Nx.inr_iff, decide_eq_true_eq, decide_eq_false_iff_not]
  refine ⟨by unfold limA; omega, by unfold limA; omega, by unfold limA; omega, by unfold limA; omega, by unfold limA; omega, trivial⟩

theorem r14_Same_tot {a : D_api_State} (b : D_api_State) (h : SmallP a) : Tot (r14_Same a b) (fun r => r = true ↔ a = b) := by
  obtain ⟨s1, s2, s3, s4, s5⟩ := h
  unfold r14_Same
  rw [r11_Ints_eq _ _ (by omega)]
  by_cases hl : a.2.2.2.2.2 = b.2.2.2.2.2 ∧ a.1.length = b.1.length ∧ a.2.1.length = b.2.1.length ∧ a.2.2.1.length = b.2.2.1.length ∧ a.2.2.2.1.length = b.2.2.2.1.length
  · obtain ⟨l1, l2, l3, l4, l5⟩ := hl
    have e : (((((a.2.2.2.2.2 != b.2.2.2.2.2) || ((a.1.length : Int) != (b.1.length : Int))) || ((a.2.1.length : Int) != (b.2.1.length : Int))) || ((a.2.2.1.length : Int) != (b.2.2.1.length : Int))) || ((a.2.2.2.1.length : Int) != (b.2.2.2.1.length : Int))) = false := by
      simp [l1, l2, l3, l4, l5]
    rw [e]
    simp only [Bool.not_false, cond_true, Option.bind_some, Bool.false_or]
    by_cases hi : a.2.2.2.2.1 = b.2.2.2.2.1
    · simp only [hi, decide_true, Bool.not_true, cond_false]
      have all : a = b ↔ a.1 = b.1 ∧ a.2.1 = b.2.1 ∧ a.2.2.1 = b.2.2.1 ∧ a.2.2.2.1 = b.2.2.2.1 := by
        obtain ⟨a1, a2, a3, a4, a5, a6⟩ := a
        obtain ⟨b1, b2, b3, b4, b5, b6⟩ := b
        simp only at hi l1
        simp only [Prod.mk.injEq, hi, l1, and_true]
      rw [all]
      refine Tot.loop (fun x => 0 ≤ x ∧ x ≤ (a.1.length : Int) ∧ ∀ k : Int, 0 ≤ k → k < x → rd false a.1 k = rd false b.1 k) (fun x => ((a.1.length : Int) - x).toNat) (fun x hx => ?_) ⟨by omega, by omega, fun k _ _ => by omega⟩
      obtain ⟨h0, h1, h2⟩ := hx
      have hw1 : IntKind.i64.wrap (x + 1) = x + 1 := w64 (by omega) (by omega)
      simp only [r14_Same_b4, hw1, cond_some, Tot.cond_iff, Tot.ass_iff, Tot.bnd_iff, Tot.some_iff, Tot.map_iff, Tot.bind_iff, Nx.inl_iff, Nx.inr_iff, decide_eq_true_eq, decide_eq_false_iff_not]
      refine ⟨fun hlt => ⟨⟨h0, hlt⟩, ⟨h0, by omega⟩, fun he => ?_, fun he => ⟨⟨by omega, by omega, fun k c d => ?_⟩, by omega⟩⟩, fun hge => ?_⟩
      · simp only [Bool.and_eq_true, Bool.or_eq_true, Bool.not_eq_true', Bool.and_eq_false_iff, Bool.or_eq_false_iff, Bool.not_eq_false', beq_iff_eq, bne_iff_ne, beq_eq_false_iff_ne, bne_eq_false_iff_eq, decide_eq_true_eq, decide_eq_false_iff_not] at he
        simp only [Bool.false_eq_true, false_iff]
        intro hc; rw [hc.1] at he; exact he rfl
      · simp only [Bool.and_eq_true, Bool.or_eq_true, Bool.not_eq_true', Bool.and_eq_false_iff, Bool.or_eq_false_iff, Bool.not_eq_false', beq_iff_eq, bne_iff_ne, beq_eq_false_iff_ne, bne_eq_false_iff_eq, decide_eq_true_eq, decide_eq_false_iff_not] at he
        by_cases hkx : k = x
        · rw [hkx]; exact he
        · exact h2 k c (by omega)
      have q1 : a.1 = b.1 := rd_ext l2 fun k c d => h2 k c (by omega)
      unfold r14_Same_j1
      refine Tot.loop (fun x => 0 ≤ x ∧ x ≤ (a.2.1.length : Int) ∧ ∀ k : Int, 0 ≤ k → k < x → rd z_api_Ticket a.2.1 k = rd z_api_Ticket b.2.1 k) (fun x => ((a.2.1.length : Int) - x).toNat) (fun x hx => ?_) ⟨by omega, by omega, fun k _ _ => by omega⟩
      obtain ⟨h0, h1, h2⟩ := hx
      have hw1 : IntKind.i64.wrap (x + 1) = x + 1 := w64 (by omega) (by omega)
      simp only [r14_Same_b3, hw1, beq_ticket, cond_some, Tot.cond_iff, Tot.ass_iff, Tot.bnd_iff, Tot.some_iff, Tot.map_iff, Tot.bind_iff, Nx.inl_iff, Nx.inr_iff, decide_eq_true_eq, decide_eq_false_iff_not]
      refine ⟨fun hlt => ⟨⟨h0, hlt⟩, ⟨h0, by omega⟩, fun he => ?_, fun he => ⟨⟨by omega, by omega, fun k c d => ?_⟩, by omega⟩⟩, fun hge => ?_⟩
      · simp only [Bool.and_eq_true, Bool.or_eq_true, Bool.not_eq_true', Bool.and_eq_false_iff, Bool.or_eq_false_iff, Bool.not_eq_false', beq_iff_eq, bne_iff_ne, beq_eq_false_iff_ne, bne_eq_false_iff_eq, decide_eq_true_eq, decide_eq_false_iff_not, decide_eq_false_iff_not] at he
        simp only [Bool.false_eq_true, false_iff]
        intro hc; rw [hc.2.1] at he; exact he rfl
      · simp only [Bool.and_eq_true, Bool.or_eq_true, Bool.not_eq_true', Bool.and_eq_false_iff, Bool.or_eq_false_iff, Bool.not_eq_false', beq_iff_eq, bne_iff_ne, beq_eq_false_iff_ne, bne_eq_false_iff_eq, decide_eq_true_eq, decide_eq_false_iff_not, decide_eq_true_eq] at he
        by_cases hkx : k = x
        · rw [hkx]; exact he
        · exact h2 k c (by omega)
      have q2 : a.2.1 = b.2.1 := rd_ext l3 fun k c d => h2 k c (by omega)
      unfold r14_Same_j2
      refine Tot.loop (fun x => 0 ≤ x ∧ x ≤ (a.2.2.1.length : Int) ∧ ∀ k : Int, 0 ≤ k → k < x → rd z_api_Thread a.2.2.1 k = rd z_api_Thread b.2.2.1 k) (fun x => ((a.2.2.1.length : Int) - x).toNat) (fun x hx => ?_) ⟨by omega, by omega, fun k _ _ => by omega⟩
      obtain ⟨h0, h1, h2⟩ := hx
      have hw1 : IntKind.i64.wrap (x + 1) = x + 1 := w64 (by omega) (by omega)
      simp only [r14_Same_b2, hw1, beq_thread, cond_some, Tot.cond_iff, Tot.ass_iff, Tot.bnd_iff, Tot.some_iff, Tot.map_iff, Tot.bind_iff, Nx.inl_iff, Nx.inr_iff, decide_eq_true_eq, decide_eq_false_iff_not]
      refine ⟨fun hlt => ⟨⟨h0, hlt⟩, ⟨h0, by omega⟩, fun he => ?_, fun he => ⟨⟨by omega, by omega, fun k c d => ?_⟩, by omega⟩⟩, fun hge => ?_⟩
      · simp only [Bool.and_eq_true, Bool.or_eq_true, Bool.not_eq_true', Bool.and_eq_false_iff, Bool.or_eq_false_iff, Bool.not_eq_false', beq_iff_eq, bne_iff_ne, beq_eq_false_iff_ne, bne_eq_false_iff_eq, decide_eq_true_eq, decide_eq_false_iff_not, decide_eq_false_iff_not] at he
        simp only [Bool.false_eq_true, false_iff]
        intro hc; rw [hc.2.2.1] at he; exact he rfl
      · simp only [Bool.and_eq_true, Bool.or_eq_true, Bool.not_eq_true', Bool.and_eq_false_iff, Bool.or_eq_false_iff, Bool.not_eq_false', beq_iff_eq, bne_iff_ne, beq_eq_false_iff_ne, bne_eq_false_iff_eq, decide_eq_true_eq, decide_eq_false_iff_not, decide_eq_true_eq] at he
        by_cases hkx : k = x
        · rw [hkx]; exact he
        · exact h2 k c (by omega)
      have q3 : a.2.2.1 = b.2.2.1 := rd_ext l4 fun k c d => h2 k c (by omega)
      unfold r14_Same_j3
      refine Tot.loop (fun x => 0 ≤ x ∧ x ≤ (a.2.2.2.1.length : Int) ∧ ∀ k : Int, 0 ≤ k → k < x → rd z_api_Lock a.2.2.2.1 k = rd z_api_Lock b.2.2.2.1 k) (fun x => ((a.2.2.2.1.length : Int) - x).toNat) (fun x hx => ?_) ⟨by omega, by omega, fun k _ _ => by omega⟩
      obtain ⟨h0, h1, h2⟩ := hx
      have hw1 : IntKind.i64.wrap (x + 1) = x + 1 := w64 (by omega) (by omega)
      simp only [r14_Same_b1, r14_Same_j4, hw1, beq_lock, cond_some, Tot.cond_iff, Tot.ass_iff, Tot.bnd_iff, Tot.some_iff, Tot.map_iff, Tot.bind_iff, Nx.inl_iff, Nx.inr_iff, decide_eq_true_eq, decide_eq_false_iff_not]
      refine ⟨fun hlt => ⟨⟨h0, hlt⟩, ⟨h0, by omega⟩, fun he => ?_, fun he => ⟨⟨by omega, by omega, fun k c d => ?_⟩, by omega⟩⟩, fun hge => ?_⟩
      · simp only [Bool.and_eq_true, Bool.or_eq_true, Bool.not_eq_true', Bool.and_eq_false_iff, Bool.or_eq_false_iff, Bool.not_eq_false', beq_iff_eq, bne_iff_ne, beq_eq_false_iff_ne, bne_eq_false_iff_eq, decide_eq_true_eq, decide_eq_false_iff_not, decide_eq_false_iff_not] at he
        simp only [Bool.false_eq_true, false_iff]
        intro hc; rw [hc.2.2.2] at he; exact he rfl
      · simp only [Bool.and_eq_true, Bool.or_eq_true, Bool.not_eq_true', Bool.and_eq_false_iff, Bool.or_eq_false_iff, Bool.not_eq_false', beq_iff_eq, bne_iff_ne, beq_eq_false_iff_ne, bne_eq_false_iff_eq, decide_eq_true_eq, decide_eq_false_iff_not, decide_eq_true_eq] at he
        by_cases hkx : k = x
        · rw [hkx]; exact he
        · exact h2 k c (by omega)
      · simp only [true_iff]
        exact ⟨q1, q2, q3, rd_ext l5 fun k c d => h2 k c (by omega)⟩
    · simp only [hi, decide_false, Bool.not_false, cond_true, Tot.some_iff, Bool.false_eq_true, false_iff]
      exact fun hc => hi (by rw [hc])
  · have e : (((((a.2.2.2.2.2 != b.2.2.2.2.2) || ((a.1.length : Int) != (b.1.length : Int))) || ((a.2.1.length : Int) != (b.2.1.length : Int))) || ((a.2.2.1.length : Int) != (b.2.2.1.length : Int))) || ((a.2.2.2.1.length : Int) != (b.2.2.2.1.length : Int))) = true := by
      simp only [Bool.or_eq_true, bne_iff_ne, ne_eq]
      by_cases c1 : a.2.2.2.2.2 = b.2.2.2.2.2
      · by_cases c2 : a.1.length = b.1.length
        · by_cases c3 : a.2.1.length = b.2.1.length
          · by_cases c4 : a.2.2.1.length = b.2.2.1.length
            · right; intro hc; exact hl ⟨c1, c2, c3, c4, by omega⟩
            · left; right; omega
          · left; left; right; omega
        · left; left; left; right; omega
      · left; left; left; left; exact c1
    rw [e]
    simp only [Bool.not_true, cond_false, Option.bind_some, Bool.true_or, cond_true, Tot.some_iff, Bool.false_eq_true, false_iff]
    exact fun hc => hl (by rw [hc]; exact ⟨rfl, rfl, rfl, rfl, rfl⟩)
end Go.Tom
