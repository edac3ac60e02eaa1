/- The document's states: which may be, all together; along arrows without a ring one comes to an end. -/
import Derived.Test.YtoalafcmlgjlpaaPC
import Derived.Test.YtoalafcmlgjlpaaPRank
set_option linter.unusedVariables false
set_option linter.unusedSimpArgs false
namespace Go.Tom
open Go

def SmallP (s : D_api_State) : Prop := s.1.length ≤ 40 ∧ s.2.1.length ≤ 200 ∧ s.2.2.1.length ≤ 80 ∧ s.2.2.2.1.length ≤ 40 ∧ s.2.2.2.2.1.length ≤ 100

theorem r14_Small_tot (s : D_api_State) : Tot (r14_Small s) (fun b => b = true ↔ SmallP s) := by
  simp only [r14_Small, SmallP, cond_some, Tot.cond_iff, Tot.ass_iff, Tot.bnd_iff, Tot.some_iff, Tot.map_iff, Tot.bind_iff, Nx.inl_iff, Nx.inr_iff, decide_eq_true_eq, decide_eq_false_iff_not, Bool.and_eq_true]
  omega

structure FineP (s : D_api_State) : Prop where
  q1 : 1 ≤ s.2.2.2.2.2
  q2 : s.2.2.2.2.2 ≤ 1000
  c1 : 1 ≤ s.1.length
  c2 : s.1.length ≤ 16
  first : rd false s.1 0 = true
  last : rd false s.1 ((s.1.length : Int) - 1) = true
  tickets : TicketsOk s
  threads : ThreadsOk s
  locks : LocksOk s
  queue : QueueOk s
  coinRing : ¬ RingP s.1.length (coinArrows s)
  thrRing : ¬ RingP s.2.2.1.length (thrArrows s)

theorem ThreadsOk.calls {s : D_api_State} (h : ThreadsOk s) (i : Int) (h0 : 0 ≤ i) (h1 : i < (s.2.2.1.length : Int)) (h4 : (rd z_api_Thread s.2.2.1 i).1 = 4) : (rd z_api_Thread s.2.2.1 i).2.1 ≠ i ∧ ThrP s (rd z_api_Thread s.2.2.1 i).2.1 := by
  have := h.1 i h0 h1
  unfold ThreadOk at this
  rw [if_neg (by omega)] at this
  obtain ⟨h | h | h, _⟩ := this
  · omega
  · exact h.2
  · omega
theorem ThreadsOk.waits {s : D_api_State} (h : ThreadsOk s) (i : Int) (h0 : 0 ≤ i) (h1 : i < (s.2.2.1.length : Int)) (h4 : (rd z_api_Thread s.2.2.1 i).1 = 6) : LockP s (rd z_api_Thread s.2.2.1 i).2.1 := by
  have := h.1 i h0 h1
  unfold ThreadOk at this
  rw [if_neg (by omega)] at this
  obtain ⟨h | h | h, _⟩ := this
  · omega
  · omega
  · exact h.2

theorem r14_Fine_tot (s : D_api_State) (hs : SmallP s) : Tot (r14_Fine s) (fun b => b = true ↔ FineP s) := by
  obtain ⟨s1, s2, s3, s4, s5⟩ := hs
  have hz : IntKind.i64.wrap ((s.1.length : Int) - 1) = (s.1.length : Int) - 1 := w64 (by omega) (by omega)
  have hca := buildL_len (f := fun k => coinArr (rd z_api_Ticket s.2.1 k)) (c := 1) (fun k => coinArr_len _) (n := s.2.1.length)
  have hta := buildL_len (f := fun k => thrArr s k (rd z_api_Thread s.2.2.1 k)) (c := 1) (fun k => thrArr_len _ _ _) (n := s.2.2.1.length)
  have hR := (r13_Ring_tot (s.1.length : Int) (coinArrows s) (by omega) (by omega) (by show (buildL _ _).length ≤ _; omega)).dec
  have hR2 := (r13_Ring_tot (s.2.2.1.length : Int) (thrArrows s) (by omega) (by omega) (by show (buildL _ _).length ≤ _; omega)).dec
  simp only [r14_Fine, hz, (r14_tickets_tot s (by omega)).dec, (r14_threads_tot s (by omega)).dec, (r14_locks_tot s (by omega) (by omega)).dec, r14_CoinArrows_eq s (by omega), hR, cond_some, Tot.cond_iff, Tot.ass_iff, Tot.bnd_iff, Tot.some_iff, Tot.map_iff, Tot.bind_iff, Nx.inl_iff, Nx.inr_iff, decide_eq_true_eq, decide_eq_false_iff_not]
  refine ⟨fun h => ?_, fun h => ?_, fun h => ?_, fun h => ?_⟩
  · simp only [Bool.and_eq_true, Bool.or_eq_true, Bool.not_eq_true', Bool.and_eq_false_iff, Bool.or_eq_false_iff, Bool.not_eq_false', beq_iff_eq, bne_iff_ne, beq_eq_false_iff_ne, bne_eq_false_iff_eq, decide_eq_true_eq, decide_eq_false_iff_not] at h; omega
  · simp only [Bool.and_eq_true, Bool.or_eq_true, Bool.not_eq_true', Bool.and_eq_false_iff, Bool.or_eq_false_iff, Bool.not_eq_false', beq_iff_eq, bne_iff_ne, beq_eq_false_iff_ne, bne_eq_false_iff_eq, decide_eq_true_eq, decide_eq_false_iff_not] at h; omega
  · simp only [Bool.false_eq_true, false_iff]
    intro hf
    obtain ⟨a, b, c, d, e, f, _⟩ := hf
    simp only [Bool.and_eq_true, Bool.or_eq_true, Bool.not_eq_true', Bool.and_eq_false_iff, Bool.or_eq_false_iff, Bool.not_eq_false', beq_iff_eq, bne_iff_ne, beq_eq_false_iff_ne, bne_eq_false_iff_eq, decide_eq_true_eq, decide_eq_false_iff_not] at h
    rcases h with ((((h | h) | h) | h) | h) | h
    · omega
    · omega
    · omega
    · omega
    · rw [e] at h; simp at h
    · rw [f] at h; simp at h
  · simp only [Bool.and_eq_true, Bool.or_eq_true, Bool.not_eq_true', Bool.and_eq_false_iff, Bool.or_eq_false_iff, Bool.not_eq_false', beq_iff_eq, bne_iff_ne, beq_eq_false_iff_ne, bne_eq_false_iff_eq, decide_eq_true_eq, decide_eq_false_iff_not] at h
    by_cases hT : TicketsOk s
    · by_cases hTh : ThreadsOk s
      · by_cases hL : LocksOk s
        · have hq := (r14_queue_tot s (by omega) (by omega) fun i h0 h1 h4 => (hTh.calls i h0 h1 h4).2).dec
          rw [hq, r14_ThreadArrows_eq s (by omega) fun k h0 h1 h6 => hTh.waits k h0 h1 h6]
          by_cases hQ : QueueOk s
          · by_cases hC : RingP s.1.length (coinArrows s)
            · simp [hT, hTh, hL, hQ, hC, Tot.some_iff]
              exact fun hf => hf.coinRing hC
            · simp only [hT, hTh, hL, hQ, hC, hR2, Tot.some_iff, decide_true, decide_false, cond_true, cond_false, Bool.not_true, Bool.not_false, Bool.or_false, Bool.false_eq_true, Bool.true_eq_false, false_implies, true_implies, true_and, and_true, Bool.true_and, Bool.not_eq_true', decide_eq_false_iff_not]
              refine ⟨fun hr => ⟨by omega, by omega, by omega, by omega, h.1.2, h.2, hT, hTh, hL, hQ, hC, hr⟩, fun hf => hf.thrRing⟩
          · simp [hT, hTh, hL, hQ, Tot.some_iff]
            exact fun hf => hQ hf.queue
        · simp [hT, hTh, hL, Tot.some_iff]
          exact fun hf => hL hf.locks
      · simp [hT, hTh, Tot.some_iff]
        exact fun hf => hTh hf.threads
    · simp [hT, Tot.some_iff]
      exact fun hf => hT hf.tickets

end Go.Tom
