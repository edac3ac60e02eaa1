/- The program's states: the queue; which may be. -/
import Derived.Test.YtoalafcmlgjlpaaQD
set_option linter.unusedVariables false
set_option linter.unusedSimpArgs false
namespace Go.Tom
open Go

theorem QueuesP.thr {s : D_api_State} {i : Int} (h0 : 0 ≤ i) (h1 : i < (s.2.2.1.length : Int)) (h : QueuesP s i) : ThrP s i := by
  refine ⟨h0, h1, fun hc => ?_⟩
  unfold QueuesP at h
  rw [hc] at h
  simp at h

theorem state_queues_tot (s : D_api_State) (i : Int) (h4 : ∀ i : Int, 0 ≤ i → i < (s.2.2.1.length : Int) → (rd z_api_Thread s.2.2.1 i).1 = 4 → ThrP s (rd z_api_Thread s.2.2.1 i).2.1) : Tot (state_queues s i) (fun b => b = true ↔ ThrP s i ∧ QueuesP s i) := by
  simp only [state_queues, state_Thread_eq, Option.bind_some]
  by_cases h : ThrP s i
  · have hi := h4 i h.1 h.2.1
    unfold QueuesP
    simp only [thrOf, if_pos h, Bool.not_true, cond_false, h, true_and]
    generalize rd z_api_Thread s.2.2.1 i = t at *
    by_cases h6 : t.1 = 6
    · simp [h6, Tot.some_iff]
    · by_cases h44 : t.1 = 4
      · have := hi h44
        simp [h44, this, Tot.some_iff, Tot.bnd_iff]
      · have e6 : (t.1 == 6) = false := by simpa using h6
        have e4 : (t.1 != 4) = true := by simpa using h44
        simp [e6, e4, h6, h44, Tot.some_iff]
  · simp [thrOf, h, Tot.some_iff]

theorem state_queue_tot (s : D_api_State) (hn : s.2.2.1.length ≤ 1000) (hq : s.2.2.2.2.1.length ≤ 1000) (h4 : ∀ i : Int, 0 ≤ i → i < (s.2.2.1.length : Int) → (rd z_api_Thread s.2.2.1 i).1 = 4 → ThrP s (rd z_api_Thread s.2.2.1 i).2.1) :
    Tot (state_queue s) (fun b => b = true ↔ QueueOk s) := by
  classical
  have hQ := fun i => (state_queues_tot s i h4).dec
  simp only [state_queue, cond_some, Tot.cond_iff, Tot.ass_iff, Tot.bnd_iff, Tot.some_iff, Tot.map_iff, Tot.bind_iff, Nx.inl_iff, Nx.inr_iff, decide_eq_true_eq, decide_eq_false_iff_not]
  refine ⟨⟨by omega, Int.le_refl _, by unfold lim; omega⟩, ?_⟩
  refine Tot.loop (fun x => 0 ≤ x.2 ∧ x.2 ≤ (s.2.2.2.2.1.length : Int) ∧ x.1.length = s.2.2.1.length ∧ (∀ i : Int, 0 ≤ i → i < (s.2.2.1.length : Int) → cnt (inQ s i) x.2.toNat ≤ 1 ∧ (rd false x.1 i = true ↔ cnt (inQ s i) x.2.toNat = 1)) ∧
      ∀ k : Int, 0 ≤ k → k < x.2 → ThrP s (rd 0 s.2.2.2.2.1 k) ∧ QueuesP s (rd 0 s.2.2.2.2.1 k) ∧ ((rd z_api_Thread s.2.2.1 (rd 0 s.2.2.2.2.1 k)).1 = 4 → (rd z_api_Thread s.2.2.1 (rd z_api_Thread s.2.2.1 (rd 0 s.2.2.2.2.1 k)).2.1).1 ≠ 5))
    (fun x => ((s.2.2.2.2.1.length : Int) - x.2).toNat) (fun x hx => ?_) ⟨by omega, by simp, by simp, fun i _ _ => ⟨by simp [cnt], by simp [cnt, rd, List.getD_eq_getElem?_getD, List.getElem?_replicate]; split <;> rfl⟩, fun k _ _ => by simp at *; omega⟩
  obtain ⟨seen, x⟩ := x
  obtain ⟨h0, h1, h2, h3, h5⟩ := hx
  simp only at h0 h1 h2 h3 h5
  have hw : IntKind.i64.wrap (x + 1) = x + 1 := w64 (by omega) (by omega)
  simp only [state_queue_b2, hw, hQ, state_Thread_eq, Option.bind_some, cond_some, Tot.cond_iff, Tot.ass_iff, Tot.bnd_iff, Tot.some_iff, Tot.map_iff, Tot.bind_iff, Nx.inl_iff, Nx.inr_iff, decide_eq_true_eq, decide_eq_false_iff_not]
  refine ⟨fun hlt => ⟨⟨h0, hlt⟩, ?_⟩, fun hge => ?_⟩
  · obtain ⟨e, he⟩ : ∃ e, e = rd 0 s.2.2.2.2.1 x := ⟨_, rfl⟩
    rw [← he]
    have hstep : ∀ i, cnt (inQ s i) (x + 1).toNat = cnt (inQ s i) x.toNat + if e = i then 1 else 0 := fun i => by
      rw [cnt_step h0]
      congr 1
      simp only [inQ, ← he, beq_iff_eq]
      by_cases hei : e = i
      · simp [hei]
      · have : (e == i) = false := by simpa using hei
        simp [this, hei]
    have hqn : ∀ i, cnt (inQ s i) (x + 1).toNat ≤ qn s i := fun i => cnt_mono (by omega)
    -- what the document wants of this one
    have want : QueueOk s → 0 ≤ e ∧ e < (s.2.2.1.length : Int) ∧ QueuesP s e ∧ cnt (inQ s e) x.toNat = 0 ∧ ((rd z_api_Thread s.2.2.1 e).1 = 4 → (rd z_api_Thread s.2.2.1 (rd z_api_Thread s.2.2.1 e).2.1).1 ≠ 5) := by
      rintro ⟨g1, g2⟩
      have hr := g2 x h0 hlt
      rw [← he] at hr
      obtain ⟨k1, k2, k3⟩ := g1 e hr.1 hr.2
      have h6 := hqn e
      have h7 := hstep e
      rw [if_pos rfl] at h7
      have : qn s e = 1 := by omega
      exact ⟨hr.1, hr.2, k1.2 this, by omega, k3 this⟩
    by_cases hb : ThrP s e ∧ QueuesP s e
    · have hd : decide (ThrP s e ∧ QueuesP s e) = true := by simpa using hb
      simp only [hb, and_self, decide_true, Bool.not_true, Bool.not_false, true_implies, Bool.false_or]
      have he0 := hb.1.1
      have he1 := hb.1.2.1
      refine ⟨⟨he0, by omega⟩, fun hs => ?_, fun hs => ⟨⟨he0, by omega⟩, ⟨he0, he1⟩, fun hbad => ?_, fun hgood => ⟨⟨by omega, by omega, by rw [wr_length]; exact h2, fun i i0 i1 => ?_, fun k k0 k1 => ?_⟩, by omega⟩⟩⟩
      · simp only [Bool.false_eq_true, false_iff]
        intro hc
        have := (want hc).2.2.2.1
        have := (h3 e he0 he1).2.1 hs
        omega
      · simp only [Bool.false_eq_true, false_iff]
        intro hc
        simp only [Bool.and_eq_true, beq_iff_eq] at hbad
        have hth := h4 e he0 he1 hbad.1
        have h9 := (want hc).2.2.2.2 hbad.1
        rw [thrOf, if_pos hth] at hbad
        exact h9 hbad.2
      · have hs0 : cnt (inQ s e) x.toNat = 0 := by
          have h8 := h3 e he0 he1
          have : ¬ cnt (inQ s e) x.toNat = 1 := fun hc => by rw [h8.2.2 hc] at hs; simp at hs
          omega
        rw [hstep i, rd_wr he0 (by omega) i0]
        have h8 := h3 i i0 i1
        by_cases hei : i = e
        · subst hei
          simp only [if_true]
          exact ⟨by omega, by simp; omega⟩
        · rw [if_neg hei, if_neg (fun hc => hei hc.symm)]
          simpa using h8
      · by_cases hkx : k = x
        · rw [hkx, ← he]
          refine ⟨hb.1, hb.2, fun h44 hc => ?_⟩
          have hth := h4 e he0 he1 h44
          simp only [thrOf, if_pos hth] at hgood
          rw [h44, hc] at hgood
          simp at hgood
        · exact h5 k k0 (by omega)
    · have hnot : ¬ QueueOk s := fun hc => by
        have h8 := want hc
        exact hb ⟨h8.2.2.1.thr h8.1 h8.2.1, h8.2.2.1⟩
      simp [hb, hnot]
  · have hx : x = (s.2.2.2.2.1.length : Int) := by omega
    subst hx
    simp only [Int.toNat_natCast] at h3
    unfold state_queue_j1
    refine Tot.loop (fun y => 0 ≤ y ∧ y ≤ (s.2.2.1.length : Int) ∧ ∀ i : Int, 0 ≤ i → i < y → QueuesP s i → qn s i = 1) (fun y => ((s.2.2.1.length : Int) - y).toNat) (fun y hy => ?_) ⟨by omega, by omega, fun k _ _ => by omega⟩
    obtain ⟨g0, g1, g2⟩ := hy
    have hw1 : IntKind.i64.wrap (y + 1) = y + 1 := w64 (by omega) (by omega)
    simp only [state_queue_b1, state_queue_j2, hw1, hQ, Option.bind_some, cond_some, Tot.cond_iff, Tot.ass_iff, Tot.bnd_iff, Tot.some_iff, Tot.map_iff, Tot.bind_iff, Nx.inl_iff, Nx.inr_iff, decide_eq_true_eq, decide_eq_false_iff_not]
    refine ⟨fun hylt => ⟨fun _ => ⟨g0, by omega⟩, fun hb => ?_, fun hb => ⟨⟨by omega, by omega, fun i i0 i1 hqi => ?_⟩, by omega⟩⟩, fun hyge => ?_⟩
    · simp only [Bool.and_eq_true, decide_eq_true_eq, Bool.not_eq_true'] at hb
      simp only [Bool.false_eq_true, false_iff]
      intro hc
      have := (hc.1 y g0 hylt).1.1 hb.1.2
      have := (h3 y g0 hylt).2.2 this
      rw [this] at hb
      simp at hb
    · by_cases hiy : i = y
      · subst hiy
        have hth := hqi.thr g0 hylt
        simp [hth, hqi] at hb
        exact (h3 i g0 hylt).2.1 hb
      · exact g2 i i0 (by omega) hqi
    · simp only [true_iff]
      refine ⟨fun i i0 i1 => ⟨⟨fun hqi => g2 i i0 (by omega) hqi, fun hq1 => ?_⟩, (h3 i i0 i1).1, fun hq1 h44 => ?_⟩, fun k k0 k1 => ⟨(h5 k k0 k1).1.1, (h5 k k0 k1).1.2.1⟩⟩
      · obtain ⟨k, k0, k1, k2⟩ := cnt_pos.1 (show 0 < cnt (inQ s i) s.2.2.2.2.1.length by have : qn s i = cnt (inQ s i) s.2.2.2.2.1.length := rfl; omega)
        simp only [inQ, beq_iff_eq] at k2
        have := (h5 k k0 k1).2.1
        rwa [k2] at this
      · obtain ⟨k, k0, k1, k2⟩ := cnt_pos.1 (show 0 < cnt (inQ s i) s.2.2.2.2.1.length by have : qn s i = cnt (inQ s i) s.2.2.2.2.1.length := rfl; omega)
        simp only [inQ, beq_iff_eq] at k2
        have := (h5 k k0 k1).2.2
        rw [k2] at this
        exact this h44
end Go.Tom
