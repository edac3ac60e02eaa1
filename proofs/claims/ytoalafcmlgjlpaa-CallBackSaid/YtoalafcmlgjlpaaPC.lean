/- The document's states: the queue, the arrows, the rings; which may be. -/
import Derived.Test.YtoalafcmlgjlpaaPB
import Derived.Test.YtoalafcmlgjlpaaPR
set_option linter.unusedVariables false
set_option linter.unusedSimpArgs false
namespace Go.Tom
open Go

def QueuesP (s : D_api_State) (i : Int) : Prop :=
  if (rd z_api_Thread s.2.2.1 i).1 = 4 then (rd z_api_Thread s.2.2.1 (rd z_api_Thread s.2.2.1 i).2.1).2.2.1 ≠ i else (rd z_api_Thread s.2.2.1 i).1 = 6

theorem r14_Queues_tot (s : D_api_State) (i : Int) (h0 : 0 ≤ i) (h1 : i < (s.2.2.1.length : Int)) (h4 : (rd z_api_Thread s.2.2.1 i).1 = 4 → ThrP s (rd z_api_Thread s.2.2.1 i).2.1) : Tot (r14_Queues s i) (fun b => b = true ↔ QueuesP s i) := by
  unfold ThrP at h4
  unfold QueuesP
  simp only [r14_Queues, cond_some, Tot.cond_iff, Tot.ass_iff, Tot.bnd_iff, Tot.some_iff, Tot.map_iff, Tot.bind_iff, Nx.inl_iff, Nx.inr_iff, decide_eq_true_eq, decide_eq_false_iff_not]
  grind

def inQ (s : D_api_State) (i k : Int) : Bool := rd 0 s.2.2.2.2.1 k == i
/-- How often a thread stands in the queue. -/
def qn (s : D_api_State) (i : Int) : Nat := cnt (inQ s i) s.2.2.2.2.1.length

def QueueOk (s : D_api_State) : Prop :=
  (∀ i : Int, 0 ≤ i → i < (s.2.2.1.length : Int) → (QueuesP s i ↔ qn s i = 1) ∧ qn s i ≤ 1 ∧ (qn s i = 1 → (rd z_api_Thread s.2.2.1 i).1 = 4 → (rd z_api_Thread s.2.2.1 (rd z_api_Thread s.2.2.1 i).2.1).1 ≠ 5)) ∧
  ∀ k : Int, 0 ≤ k → k < (s.2.2.2.2.1.length : Int) → 0 ≤ rd 0 s.2.2.2.2.1 k ∧ rd 0 s.2.2.2.2.1 k < (s.2.2.1.length : Int)

theorem r14_queue_tot (s : D_api_State) (hn : s.2.2.1.length ≤ 1000) (hq : s.2.2.2.2.1.length ≤ 1000) (h4 : ∀ i : Int, 0 ≤ i → i < (s.2.2.1.length : Int) → (rd z_api_Thread s.2.2.1 i).1 = 4 → ThrP s (rd z_api_Thread s.2.2.1 i).2.1) :
    Tot (r14_queue s) (fun b => b = true ↔ QueueOk s) := by
  unfold r14_queue
  let I1 : Int → Prop := fun i => (QueuesP s i ↔ qn s i = 1) ∧ qn s i ≤ 1 ∧ (qn s i = 1 → (rd z_api_Thread s.2.2.1 i).1 = 4 → (rd z_api_Thread s.2.2.1 (rd z_api_Thread s.2.2.1 i).2.1).1 ≠ 5)
  refine Tot.loop (fun x => 0 ≤ x ∧ x ≤ (s.2.2.1.length : Int) ∧ ∀ k : Int, 0 ≤ k → k < x → I1 k) (fun x => ((s.2.2.1.length : Int) - x).toNat) (fun x hx => ?_) ⟨by omega, by omega, fun k _ _ => by omega⟩
  obtain ⟨h0, h1, h2⟩ := hx
  have hw : IntKind.i64.wrap (x + 1) = x + 1 := w64 (by omega) (by omega)
  simp only [r14_queue_b2, cond_some, Tot.cond_iff, Tot.ass_iff, Tot.bnd_iff, Tot.some_iff, Tot.map_iff, Tot.bind_iff, Nx.inl_iff, Nx.inr_iff, decide_eq_true_eq, decide_eq_false_iff_not]
  refine ⟨fun hlt => ?_, fun hge => ?_⟩
  · refine Tot.loop (fun y => 0 ≤ y.2 ∧ y.2 ≤ (s.2.2.2.2.1.length : Int) ∧ y.1 = (cnt (inQ s x) y.2.toNat : Int)) (fun y => ((s.2.2.2.2.1.length : Int) - y.2).toNat) (fun y hy => ?_) ⟨by omega, by simp, by simp [cnt]⟩
    obtain ⟨c, y⟩ := y
    simp only at hy
    obtain ⟨g0, g1, rfl⟩ := hy
    have hcy := cnt_le (p := inQ s x) (n := y.toNat)
    have hw1 : IntKind.i64.wrap (y + 1) = y + 1 := w64 (by omega) (by omega)
    have hw2 : IntKind.i64.wrap (((cnt (inQ s x) y.toNat : Nat) : Int) + 1) = (cnt (inQ s x) y.toNat : Int) + 1 := w64 (by omega) (by omega)
    simp only [r14_queue_b3, r14_queue_j3, r14_queue_j4, r14_queue_j5, hw, hw1, hw2, (r14_Queues_tot s x h0 hlt (h4 x h0 hlt)).dec, cond_some, Tot.cond_iff, Tot.ass_iff, Tot.bnd_iff, Tot.some_iff, Tot.map_iff, Tot.bind_iff, Nx.inl_iff, Nx.inr_iff, decide_eq_true_eq, decide_eq_false_iff_not]
    refine ⟨fun hylt => ⟨⟨g0, hylt⟩, ?_⟩, fun hyge => ?_⟩
    · have hc : ((cnt (inQ s x) (y + 1).toNat : Nat) : Int) = cnt (inQ s x) y.toNat + (if rd 0 s.2.2.2.2.1 y = x then 1 else 0) := by
        rw [cnt_step g0]
        by_cases h3 : rd 0 s.2.2.2.2.1 y = x
        · have h5 : inQ s x y = true := by simp [inQ, h3]
          rw [h5]; simp [h3]
        · have h5 : inQ s x y = false := by simp [inQ, h3]
          rw [h5]; simp [h3]
      refine ⟨fun he => ?_, fun he => ?_⟩
      · rw [beq_iff_eq] at he
        simp only [he, if_true] at hc
        exact ⟨⟨by omega, by omega, by omega⟩, by omega⟩
      · rw [beq_eq_false_iff_ne] at he
        simp only [he, if_false] at hc
        exact ⟨⟨by omega, by omega, by omega⟩, by omega⟩
    · have hy : y = (s.2.2.2.2.1.length : Int) := by omega
      subst hy
      have hqn : cnt (inQ s x) s.2.2.2.2.1.length = qn s x := rfl
      simp only [Int.toNat_natCast, hqn]
      have hQ : QueueOk s → I1 x := fun h => h.1 x h0 hlt
      have hI : I1 x → ∀ k : Int, 0 ≤ k → k < x + 1 → I1 k := fun h k a b => by
        by_cases hkx : k = x
        · rw [hkx]; exact h
        · exact h2 k a (by omega)
      have e1 : x + 1 ≤ (s.2.2.1.length : Int) := by omega
      have e0 : 0 ≤ x + 1 := by omega
      have hm : ((s.2.2.1.length : Int) - (x + 1)).toNat < ((s.2.2.1.length : Int) - x).toNat := by omega
      have hI1 : I1 x ↔ (QueuesP s x ↔ qn s x = 1) ∧ qn s x ≤ 1 ∧ (qn s x = 1 → (rd z_api_Thread s.2.2.1 x).1 = 4 → (rd z_api_Thread s.2.2.1 (rd z_api_Thread s.2.2.1 x).2.1).1 ≠ 5) := Iff.rfl
      generalize (∀ k : Int, 0 ≤ k → k < x + 1 → I1 k) = B at *
      generalize I1 x = A at *
      have h44 := h4 x h0 hlt
      unfold ThrP at h44
      generalize QueueOk s = QQ at *
      generalize QueuesP s x = QP at *
      generalize qn s x = q at *
      clear h2 h4 hw hw1 hw2 hcy
      refine ⟨fun hb => ?_, fun hb => ⟨fun _ => ⟨h0, hlt⟩, fun _ => ⟨h0, hlt⟩, fun hb2 => ?_, fun hb2 => ?_, fun hb2 => ?_⟩⟩
      · have : ¬ A := by rw [hI1]; grind
        simp only [Bool.false_eq_true, false_iff]
        exact fun hc => this (hQ hc)
      · simp only [Bool.and_eq_true, Bool.or_eq_true, Bool.not_eq_true', Bool.and_eq_false_iff, Bool.or_eq_false_iff, Bool.not_eq_false', beq_iff_eq, bne_iff_ne, beq_eq_false_iff_ne, bne_eq_false_iff_eq, decide_eq_true_eq, decide_eq_false_iff_not] at hb2
        exact ⟨(h44 hb2.2).1, (h44 hb2.2).2.1⟩
      · have : ¬ A := by rw [hI1]; grind
        simp only [Bool.false_eq_true, false_iff]
        exact fun hc => this (hQ hc)
      · refine ⟨⟨e0, e1, hI ?_⟩, hm⟩
        rw [hI1]; grind
  · have hx : x = (s.2.2.1.length : Int) := by omega
    subst hx
    unfold r14_queue_j1
    refine Tot.loop (fun y => 0 ≤ y ∧ y ≤ (s.2.2.2.2.1.length : Int) ∧ ∀ k : Int, 0 ≤ k → k < y → 0 ≤ rd 0 s.2.2.2.2.1 k ∧ rd 0 s.2.2.2.2.1 k < (s.2.2.1.length : Int)) (fun y => ((s.2.2.2.2.1.length : Int) - y).toNat) (fun y hy => ?_) ⟨by omega, by omega, fun k _ _ => by omega⟩
    obtain ⟨g0, g1, g2⟩ := hy
    have hw1 : IntKind.i64.wrap (y + 1) = y + 1 := w64 (by omega) (by omega)
    simp only [r14_queue_b1, r14_queue_j2, hw1, cond_some, Tot.cond_iff, Tot.ass_iff, Tot.bnd_iff, Tot.some_iff, Tot.map_iff, Tot.bind_iff, Nx.inl_iff, Nx.inr_iff, decide_eq_true_eq, decide_eq_false_iff_not]
    refine ⟨fun hylt => ⟨⟨g0, hylt⟩, fun _ => ⟨g0, hylt⟩, fun hb => ?_, fun hb => ?_⟩, fun hyge => ?_⟩
    · simp only [Bool.and_eq_true, Bool.or_eq_true, Bool.not_eq_true', Bool.and_eq_false_iff, Bool.or_eq_false_iff, Bool.not_eq_false', beq_iff_eq, bne_iff_ne, beq_eq_false_iff_ne, bne_eq_false_iff_eq, decide_eq_true_eq, decide_eq_false_iff_not] at hb
      simp only [Bool.false_eq_true, false_iff]
      intro hc
      have := hc.2 y g0 hylt
      omega
    · simp only [Bool.and_eq_true, Bool.or_eq_true, Bool.not_eq_true', Bool.and_eq_false_iff, Bool.or_eq_false_iff, Bool.not_eq_false', beq_iff_eq, bne_iff_ne, beq_eq_false_iff_ne, bne_eq_false_iff_eq, decide_eq_true_eq, decide_eq_false_iff_not] at hb
      refine ⟨⟨by omega, by omega, fun k a b => ?_⟩, by omega⟩
      by_cases hky : k = y
      · rw [hky]; omega
      · exact g2 k a (by omega)
    · simp only [true_iff]
      exact ⟨h2, fun k a b => g2 k a (by omega)⟩

def coinArr (t : D_api_Ticket) : List (Int × Int) := if t.1 = true ∧ t.2.2.2.1 = 2 then [(t.2.1, t.2.2.2.2.1)] else []
def coinArrows (s : D_api_State) : List (Int × Int) := buildL (fun k => coinArr (rd z_api_Ticket s.2.1 k)) s.2.1.length
theorem coinArr_len (t : D_api_Ticket) : (coinArr t).length ≤ 1 := by unfold coinArr; split <;> simp

theorem r14_CoinArrows_eq (s : D_api_State) (hn : s.2.1.length ≤ 100000) : r14_CoinArrows s = some (coinArrows s) := by
  rw [← Tot.eq_iff]
  unfold r14_CoinArrows
  refine Tot.loop (fun x => 0 ≤ x.2 ∧ x.2 ≤ (s.2.1.length : Int) ∧ x.1 = buildL (fun k => coinArr (rd z_api_Ticket s.2.1 k)) x.2.toNat) (fun x => ((s.2.1.length : Int) - x.2).toNat) (fun x hx => ?_) ⟨by omega, by simp, rfl⟩
  obtain ⟨acc, x⟩ := x
  simp only at hx
  obtain ⟨h0, h1, rfl⟩ := hx
  have hw1 : IntKind.i64.wrap (x + 1) = x + 1 := w64 (by omega) (by omega)
  have hlen := buildL_len (f := fun k => coinArr (rd z_api_Ticket s.2.1 k)) (c := 1) (fun k => coinArr_len _) (n := x.toNat)
  simp only [r14_CoinArrows_b1, r14_CoinArrows_j1, r14_CoinArrows_j2, hw1, cond_some, Tot.cond_iff, Tot.ass_iff, Tot.bnd_iff, Tot.some_iff, Tot.map_iff, Tot.bind_iff, Nx.inl_iff, Nx.inr_iff, decide_eq_true_eq, decide_eq_false_iff_not]
  refine ⟨fun hlt => ⟨⟨h0, hlt⟩, fun hb => ⟨?_, ⟨by omega, by omega, ?_⟩, by omega⟩, fun hb => ⟨⟨by omega, by omega, ?_⟩, by omega⟩⟩, fun hge => ?_⟩
  · simp only [List.length_singleton]; unfold limA; omega
  · simp only [Bool.and_eq_true, Bool.or_eq_true, Bool.not_eq_true', Bool.and_eq_false_iff, Bool.or_eq_false_iff, Bool.not_eq_false', beq_iff_eq, bne_iff_ne, beq_eq_false_iff_ne, bne_eq_false_iff_eq, decide_eq_true_eq, decide_eq_false_iff_not] at hb
    rw [buildL_step h0]
    simp [coinArr, hb]
  · simp only [Bool.and_eq_true, Bool.or_eq_true, Bool.not_eq_true', Bool.and_eq_false_iff, Bool.or_eq_false_iff, Bool.not_eq_false', beq_iff_eq, bne_iff_ne, beq_eq_false_iff_ne, bne_eq_false_iff_eq, decide_eq_true_eq, decide_eq_false_iff_not] at hb
    rw [buildL_step h0]
    have : coinArr (rd z_api_Ticket s.2.1 x) = [] := by unfold coinArr; rw [if_neg]; grind
    rw [this, List.append_nil]
  · have hx : x = (s.2.1.length : Int) := by omega
    subst hx
    simp [coinArrows]

def thrArr (s : D_api_State) (k : Int) (t : D_api_Thread) : List (Int × Int) := if t.1 = 4 then [(k, t.2.1)] else if t.1 = 6 then [(k, (rd z_api_Lock s.2.2.2.1 t.2.1).2)] else []
def thrArrows (s : D_api_State) : List (Int × Int) := buildL (fun k => thrArr s k (rd z_api_Thread s.2.2.1 k)) s.2.2.1.length
theorem thrArr_len (s : D_api_State) (k : Int) (t : D_api_Thread) : (thrArr s k t).length ≤ 1 := by unfold thrArr; split <;> (try split) <;> simp

theorem r14_ThreadArrows_eq (s : D_api_State) (hn : s.2.2.1.length ≤ 100000) (h6 : ∀ k : Int, 0 ≤ k → k < (s.2.2.1.length : Int) → (rd z_api_Thread s.2.2.1 k).1 = 6 → LockP s (rd z_api_Thread s.2.2.1 k).2.1) : r14_ThreadArrows s = some (thrArrows s) := by
  rw [← Tot.eq_iff]
  unfold r14_ThreadArrows
  refine Tot.loop (fun x => 0 ≤ x.2 ∧ x.2 ≤ (s.2.2.1.length : Int) ∧ x.1 = buildL (fun k => thrArr s k (rd z_api_Thread s.2.2.1 k)) x.2.toNat) (fun x => ((s.2.2.1.length : Int) - x.2).toNat) (fun x hx => ?_) ⟨by omega, by simp, rfl⟩
  obtain ⟨acc, x⟩ := x
  simp only at hx
  obtain ⟨h0, h1, rfl⟩ := hx
  have hw1 : IntKind.i64.wrap (x + 1) = x + 1 := w64 (by omega) (by omega)
  have hlen := buildL_len (f := fun k => thrArr s k (rd z_api_Thread s.2.2.1 k)) (c := 1) (fun k => thrArr_len _ _ _) (n := x.toNat)
  simp only [r14_ThreadArrows_b1, r14_ThreadArrows_j1, r14_ThreadArrows_j2, r14_ThreadArrows_j3, hw1, cond_some, Tot.cond_iff, Tot.ass_iff, Tot.bnd_iff, Tot.some_iff, Tot.map_iff, Tot.bind_iff, Nx.inl_iff, Nx.inr_iff, decide_eq_true_eq, decide_eq_false_iff_not]
  refine ⟨fun hlt => ⟨⟨h0, hlt⟩, fun hb => ⟨?_, fun hb2 => ?_, fun hb2 => ⟨⟨by omega, by omega, ?_⟩, by omega⟩⟩, fun hb => ⟨fun hb2 => ⟨?_, ?_, ⟨by omega, by omega, ?_⟩, by omega⟩, fun hb2 => ⟨⟨by omega, by omega, ?_⟩, by omega⟩⟩⟩, fun hge => ?_⟩
  · simp only [List.length_singleton]; unfold limA; omega
  · simp only [Bool.and_eq_true, Bool.or_eq_true, Bool.not_eq_true', Bool.and_eq_false_iff, Bool.or_eq_false_iff, Bool.not_eq_false', beq_iff_eq, bne_iff_ne, beq_eq_false_iff_ne, bne_eq_false_iff_eq, decide_eq_true_eq, decide_eq_false_iff_not] at hb hb2; omega
  · simp only [Bool.and_eq_true, Bool.or_eq_true, Bool.not_eq_true', Bool.and_eq_false_iff, Bool.or_eq_false_iff, Bool.not_eq_false', beq_iff_eq, bne_iff_ne, beq_eq_false_iff_ne, bne_eq_false_iff_eq, decide_eq_true_eq, decide_eq_false_iff_not] at hb
    rw [buildL_step h0]
    simp [thrArr, hb]
  · simp only [Bool.and_eq_true, Bool.or_eq_true, Bool.not_eq_true', Bool.and_eq_false_iff, Bool.or_eq_false_iff, Bool.not_eq_false', beq_iff_eq, bne_iff_ne, beq_eq_false_iff_ne, bne_eq_false_iff_eq, decide_eq_true_eq, decide_eq_false_iff_not] at hb2
    have := h6 x h0 hlt hb2
    exact ⟨this.1, this.2.1⟩
  · simp only [List.length_singleton]; unfold limA; omega
  · simp only [Bool.and_eq_true, Bool.or_eq_true, Bool.not_eq_true', Bool.and_eq_false_iff, Bool.or_eq_false_iff, Bool.not_eq_false', beq_iff_eq, bne_iff_ne, beq_eq_false_iff_ne, bne_eq_false_iff_eq, decide_eq_true_eq, decide_eq_false_iff_not] at hb2
    rw [buildL_step h0]
    simp [thrArr, hb2]
  · simp only [Bool.and_eq_true, Bool.or_eq_true, Bool.not_eq_true', Bool.and_eq_false_iff, Bool.or_eq_false_iff, Bool.not_eq_false', beq_iff_eq, bne_iff_ne, beq_eq_false_iff_ne, bne_eq_false_iff_eq, decide_eq_true_eq, decide_eq_false_iff_not] at hb hb2
    rw [buildL_step h0]
    simp [thrArr, hb, hb2]
  · have hx : x = (s.2.2.1.length : Int) := by omega
    subst hx
    simp [thrArrows]
end Go.Tom
