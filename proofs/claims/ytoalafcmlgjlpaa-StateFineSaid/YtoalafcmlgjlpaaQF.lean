/- The program's states: which may be; copies; whether two are the same. -/
import Derived.Test.YtoalafcmlgjlpaaQE
set_option linter.unusedVariables false
set_option linter.unusedSimpArgs false
namespace Go.Tom
open Go

theorem dag_Ring_tot (n : Nat) (l : List (Int × Int)) (hn : n ≤ 4096) (hl : l.length ≤ 10000) : Tot (dag_Ring (n : Int) l) (fun b => b = true ↔ RingP n l) := by
  have hcl : clampN (n : Int) = n := clamp_eq (by omega) (by omega)
  have hr := ring_iff (n := (n : Int)) (l := l) (by omega)
  rw [Int.toNat_natCast] at hr
  simp only [dag_Ring, dag_Order_eq (n : Int) l hl, hcl, Int.toNat_natCast, cond_some, Tot.cond_iff, Tot.ass_iff, Tot.bnd_iff, Tot.some_iff, Tot.map_iff, Tot.bind_iff, Nx.inl_iff, Nx.inr_iff, decide_eq_true_eq, decide_eq_false_iff_not]
  rw [← hr]
  cases ordL (n : Int) l n [] <;> simp [ordRes]

/-- Which coins there may be. -/
def CoinsOk (s : D_api_State) : Prop := 1 ≤ s.1.length ∧ rd false s.1 0 = true ∧ EndsP id false s.1 16

theorem state_coins_tot (s : D_api_State) (hn : s.1.length ≤ 1000) : Tot (state_coins s) (fun b => b = true ↔ CoinsOk s) := by
  classical
  unfold CoinsOk
  have he := (state_ends_bool_tot s.1 (by omega)).dec
  simp only [state_coins, he, cond_some, Tot.cond_iff, Tot.ass_iff, Tot.bnd_iff, Tot.some_iff, Tot.map_iff, Tot.bind_iff, Nx.inl_iff, Nx.inr_iff, decide_eq_true_eq, decide_eq_false_iff_not]
  refine ⟨fun h => by simp at h ⊢; exact h, ?_⟩
  by_cases h1 : 1 ≤ s.1.length
  · have e1 : decide ((s.1.length : Int) > 0) = true := decide_eq_true (by omega)
    cases h2 : rd false s.1 0
    · simp [e1, h1, h2, Tot.some_iff]
    · simp [e1, h1, h2, Tot.some_iff]
      exact fun _ => by omega
  · have e1 : decide ((s.1.length : Int) > 0) = false := decide_eq_false (by omega)
    simp [e1, h1, Tot.some_iff]
    intro h; omega

theorem FineP_iff (s : D_api_State) : FineP s ↔ (1 ≤ s.2.2.2.2.2 ∧ s.2.2.2.2.2 ≤ 1000) ∧ CoinsOk s ∧ TicketsOk s ∧ ThreadsOk s ∧ LocksOk s ∧ QueueOk s ∧ ¬ RingP s.1.length (coinArrows s) ∧ ¬ RingP s.2.2.1.length (thrArrows s) := by
  unfold CoinsOk EndsP
  constructor
  · intro h
    exact ⟨⟨h.q1, h.q2⟩, ⟨h.c1, h.first, h.c2, .inr h.last⟩, h.tickets, h.threads, h.locks, h.queue, h.coinRing, h.thrRing⟩
  · rintro ⟨⟨a, b⟩, ⟨c, d, e, f⟩, g, h, i, j, k, l⟩
    exact ⟨a, b, c, e, d, f.elim (fun f => absurd c (by omega)) id, g, h, i, j, k, l⟩

theorem state_CoinArrows_eq' (s : D_api_State) (hn : s.2.1.length ≤ 100000) : state_CoinArrows s = some (coinArrows s) := by
  rw [← Tot.eq_iff]
  unfold state_CoinArrows
  refine Tot.loop (fun x => 0 ≤ x.2 ∧ x.2 ≤ (s.2.1.length : Int) ∧ x.1 = buildL (fun k => coinArr (rd z_api_Ticket s.2.1 k)) x.2.toNat) (fun x => ((s.2.1.length : Int) - x.2).toNat) (fun x hx => ?_) ⟨by omega, by simp, rfl⟩
  obtain ⟨acc, x⟩ := x
  simp only at hx
  obtain ⟨h0, h1, rfl⟩ := hx
  have hw1 : IntKind.i64.wrap (x + 1) = x + 1 := w64 (by omega) (by omega)
  have hlen := buildL_len (f := fun k => coinArr (rd z_api_Ticket s.2.1 k)) (c := 1) (fun k => coinArr_len _) (n := x.toNat)
  simp only [state_CoinArrows_b1, state_CoinArrows_j1, state_CoinArrows_j2, hw1, cond_some, Tot.cond_iff, Tot.ass_iff, Tot.bnd_iff, Tot.some_iff, Tot.map_iff, Tot.bind_iff, Nx.inl_iff, Nx.inr_iff, decide_eq_true_eq, decide_eq_false_iff_not]
  refine ⟨fun hlt => ⟨⟨h0, hlt⟩, fun hb => ⟨?_, ⟨by omega, by omega, ?_⟩, by omega⟩, fun hb => ⟨⟨by omega, by omega, ?_⟩, by omega⟩⟩, fun hge => ?_⟩
  · simp only [List.length_singleton]; unfold limA; omega
  · simp only [Bool.and_eq_true, Bool.or_eq_true, Bool.not_eq_true', Bool.and_eq_false_iff, Bool.or_eq_false_iff, Bool.not_eq_false', beq_iff_eq, bne_iff_ne, beq_eq_false_iff_ne, bne_eq_false_iff_eq, decide_eq_true_eq, decide_eq_false_iff_not] at hb
    rw [buildL_step h0]
    simp [coinArr, hb]
  · simp only [Bool.and_eq_true, Bool.or_eq_true, Bool.not_eq_true', Bool.and_eq_false_iff, Bool.or_eq_false_iff, Bool.not_eq_false', beq_iff_eq, bne_iff_ne, beq_eq_false_iff_ne, bne_eq_false_iff_eq, decide_eq_true_eq, decide_eq_false_iff_not] at hb
    rw [buildL_step h0]
    have : coinArr (rd z_api_Ticket s.2.1 x) = [] := by unfold coinArr; rw [if_neg]; grind
    rw [this, List.append_nil]
  · have hx : x = (s.2.1.length : Int) := by omega
    subst hx
    simp [coinArrows]

theorem state_Fine_tot (s : D_api_State) (hs : SmallP s) : Tot (state_Fine s) (fun b => b = true ↔ FineP s) := by
  classical
  obtain ⟨s1, s2, s3, s4, s5⟩ := hs
  have hca := buildL_len (f := fun k => coinArr (rd z_api_Ticket s.2.1 k)) (c := 1) (fun k => coinArr_len _) (n := s.2.1.length)
  have hta := buildL_len (f := fun k => thrArr s k (rd z_api_Thread s.2.2.1 k)) (c := 1) (fun k => thrArr_len _ _ _) (n := s.2.2.1.length)
  have hR1 := (dag_Ring_tot s.1.length (coinArrows s) (by omega) (by show (buildL _ _).length ≤ _; omega)).dec
  have hR2 := (dag_Ring_tot s.2.2.1.length (thrArrows s) (by omega) (by show (buildL _ _).length ≤ _; omega)).dec
  rw [FineP_iff]
  simp only [state_Fine, (state_coins_tot s (by omega)).dec, (state_tickets_tot s (by omega)).dec, (state_threads_tot s (by omega)).dec, (state_locks_tot s (by omega) (by omega)).dec, state_CoinArrows_eq' s (by omega)]
  by_cases hq : 1 ≤ s.2.2.2.2.2 ∧ s.2.2.2.2.2 ≤ 1000
  · have e : ((decide (s.2.2.2.2.2 ≥ (1 : Int))) && (decide (s.2.2.2.2.2 ≤ (1000 : Int)))) = true := by simp; exact hq
    simp only [e, cond_true, Option.bind_some, Bool.true_and, hq, and_self, true_and]
    by_cases hC : CoinsOk s
    · by_cases hT : TicketsOk s
      · by_cases hTh : ThreadsOk s
        · by_cases hL : LocksOk s
          · have hQ := (state_queue_tot s (by omega) (by omega) fun i h0 h1 h4 => (hTh.calls i h0 h1 h4).2).dec
            have hA := state_ThreadArrows_eq s (by omega) fun k h0 h1 h6 => hTh.waits k h0 h1 h6
            simp only [hC, hT, hTh, hL, decide_true, cond_true, Option.bind_some, Bool.true_and, hQ, hA, true_and]
            by_cases hQ2 : QueueOk s
            · simp only [hQ2, decide_true, cond_true, Option.bind_some, hR1, true_and]
              by_cases hr1 : RingP s.1.length (coinArrows s)
              · simp [hr1, Tot.some_iff, Tot.bnd_iff]
              · simp only [hr1, decide_false, Bool.not_false, cond_true, Option.bind_some, hR2, Tot.some_iff, Tot.bnd_iff, not_false_eq_true, true_and, Bool.true_and, Bool.not_eq_true', decide_eq_false_iff_not]
            · simp [hQ2, Tot.some_iff, Tot.bnd_iff]
          · simp [hC, hT, hTh, hL, Tot.some_iff, Tot.bnd_iff]
        · simp [hC, hT, hTh, Tot.some_iff, Tot.bnd_iff]
      · simp [hC, hT, Tot.some_iff, Tot.bnd_iff]
    · simp [hC, Tot.some_iff, Tot.bnd_iff]
  · have e : ((decide (s.2.2.2.2.2 ≥ (1 : Int))) && (decide (s.2.2.2.2.2 ≤ (1000 : Int)))) = false := by
      rw [Bool.eq_false_iff]; intro hc; simp at hc; exact hq hc
    simp [e, hq, Tot.some_iff, Tot.bnd_iff]

theorem state_Copy_eq {s : D_api_State} (h : SmallP s) : state_Copy s = some s := by
  obtain ⟨h1, h2, h3, h4, h5⟩ := h
  rw [← Tot.eq_iff]
  simp only [state_Copy, slices_Clone_bool_bool_eq s.1 (by omega), slices_Clone_api_Ticket_api_Ticket_eq s.2.1 (by omega), slices_Clone_api_Thread_api_Thread_eq s.2.2.1 (by omega), slices_Clone_api_Lock_api_Lock_eq s.2.2.2.1 (by omega), slices_Clone_int_int_eq s.2.2.2.2.1 (by omega), Option.bind_some, cond_some, Tot.cond_iff, Tot.ass_iff, Tot.bnd_iff, Tot.some_iff, Tot.map_iff, Tot.bind_iff, Nx.inl_iff, Nx.inr_iff, decide_eq_true_eq, decide_eq_false_iff_not]

theorem r14_Copy_eq' {s : D_api_State} (h : SmallP s) : r14_Copy s = some s := by
  obtain ⟨h1, h2, h3, h4, h5⟩ := h
  rw [← Tot.eq_iff]
  simp only [r14_Copy, List.nil_append, List.length_nil, cond_some, Tot.cond_iff, Tot.ass_iff, Tot.bnd_iff, Tot.some_iff, Tot.map_iff, Tot.bind_iff, Nx.inl_iff, Nx.inr_iff, decide_eq_true_eq, decide_eq_false_iff_not]
  refine ⟨by unfold limA; omega, by unfold limA; omega, by unfold limA; omega, by unfold limA; omega, by unfold limA; omega, trivial⟩

theorem state_Same_tot {a : D_api_State} (b : D_api_State) (h : SmallP a) : Tot (state_Same a b) (fun r => r = true ↔ a = b) := by
  obtain ⟨h1, h2, h3, h4, h5⟩ := h
  simp only [state_Same, slices_Equal_bool_bool_eq a.1 b.1 (by omega), slices_Equal_api_Ticket_api_Ticket_eq a.2.1 b.2.1 (by omega), slices_Equal_api_Thread_api_Thread_eq a.2.2.1 b.2.2.1 (by omega), slices_Equal_api_Lock_api_Lock_eq a.2.2.2.1 b.2.2.2.1 (by omega), slices_Equal_int_int_eq a.2.2.2.2.1 b.2.2.2.2.1 (by omega), Option.bind_some]
  obtain ⟨a1, a2, a3, a4, a5, a6⟩ := a
  obtain ⟨b1, b2, b3, b4, b5, b6⟩ := b
  simp only [Prod.mk.injEq]
  by_cases e1 : a1 = b1
  · by_cases e2 : a2 = b2
    · by_cases e3 : a3 = b3
      · by_cases e4 : a4 = b4
        · by_cases e5 : a5 = b5
          · simp [e1, e2, e3, e4, e5, Tot.some_iff, Tot.bnd_iff]
          · simp [e1, e2, e3, e4, e5, Tot.some_iff, Tot.bnd_iff]
        · simp [e1, e2, e3, e4, Tot.some_iff, Tot.bnd_iff]
      · simp [e1, e2, e3, Tot.some_iff, Tot.bnd_iff]
    · simp [e1, e2, Tot.some_iff, Tot.bnd_iff]
  · simp [e1, Tot.some_iff, Tot.bnd_iff]

theorem r14_Same_tot {a : D_api_State} (b : D_api_State) (h : SmallP a) : Tot (r14_Same a b) (fun r => r = true ↔ a = b) := by
  obtain ⟨s1, s2, s3, s4, s5⟩ := h
  unfold r14_Same
  rw [r11_Ints_eq _ _ (by omega)]
  by_cases hl : a.2.2.2.2.2 = b.2.2.2.2.2 ∧ a.1.length = b.1.length ∧ a.2.1.length = b.2.1.length ∧ a.2.2.1.length = b.2.2.1.length ∧ a.2.2.2.1.length = b.2.2.2.1.length
  · obtain ⟨l1, l2, l3, l4, l5⟩ := hl
    have e : (((((a.2.2.2.2.2 != b.2.2.2.2.2) || ((a.1.length : Int) != (b.1.length : Int))) || ((a.2.1.length : Int) != (b.2.1.length : Int))) || ((a.2.2.1.length : Int) != (b.2.2.1.length : Int))) || ((a.2.2.2.1.length : Int) != (b.2.2.2.1.length : Int))) = false := by
      simp [l1, l2, l3, l4, l5]
    rw [e]
    simp only [Bool.not_false, cond_true, Option.bind_some, Bool.false_or]
    by_cases hi : a.2.2.2.2.1 = b.2.2.2.2.1
    · simp only [hi, decide_true, Bool.not_true, cond_false]
      have all : a = b ↔ a.1 = b.1 ∧ a.2.1 = b.2.1 ∧ a.2.2.1 = b.2.2.1 ∧ a.2.2.2.1 = b.2.2.2.1 := by
        obtain ⟨a1, a2, a3, a4, a5, a6⟩ := a
        obtain ⟨b1, b2, b3, b4, b5, b6⟩ := b
        simp only at hi l1
        simp only [Prod.mk.injEq, hi, l1, and_true]
      rw [all]
      refine Tot.loop (fun x => 0 ≤ x ∧ x ≤ (a.1.length : Int) ∧ ∀ k : Int, 0 ≤ k → k < x → rd false a.1 k = rd false b.1 k) (fun x => ((a.1.length : Int) - x).toNat) (fun x hx => ?_) ⟨by omega, by omega, fun k _ _ => by omega⟩
      obtain ⟨h0, h1, h2⟩ := hx
      have hw1 : IntKind.i64.wrap (x + 1) = x + 1 := w64 (by omega) (by omega)
      simp only [r14_Same_b4, hw1, cond_some, Tot.cond_iff, Tot.ass_iff, Tot.bnd_iff, Tot.some_iff, Tot.map_iff, Tot.bind_iff, Nx.inl_iff, Nx.inr_iff, decide_eq_true_eq, decide_eq_false_iff_not]
      refine ⟨fun hlt => ⟨⟨h0, hlt⟩, ⟨h0, by omega⟩, fun he => ?_, fun he => ⟨⟨by omega, by omega, fun k c d => ?_⟩, by omega⟩⟩, fun hge => ?_⟩
      · simp only [Bool.and_eq_true, Bool.or_eq_true, Bool.not_eq_true', Bool.and_eq_false_iff, Bool.or_eq_false_iff, Bool.not_eq_false', beq_iff_eq, bne_iff_ne, beq_eq_false_iff_ne, bne_eq_false_iff_eq, decide_eq_true_eq, decide_eq_false_iff_not] at he
        simp only [Bool.false_eq_true, false_iff]
        intro hc; rw [hc.1] at he; exact he rfl
      · simp only [Bool.and_eq_true, Bool.or_eq_true, Bool.not_eq_true', Bool.and_eq_false_iff, Bool.or_eq_false_iff, Bool.not_eq_false', beq_iff_eq, bne_iff_ne, beq_eq_false_iff_ne, bne_eq_false_iff_eq, decide_eq_true_eq, decide_eq_false_iff_not] at he
        by_cases hkx : k = x
        · rw [hkx]; exact he
        · exact h2 k c (by omega)
      have q1 : a.1 = b.1 := rd_ext l2 fun k c d => h2 k c (by omega)
      unfold r14_Same_j1
      refine Tot.loop (fun x => 0 ≤ x ∧ x ≤ (a.2.1.length : Int) ∧ ∀ k : Int, 0 ≤ k → k < x → rd z_api_Ticket a.2.1 k = rd z_api_Ticket b.2.1 k) (fun x => ((a.2.1.length : Int) - x).toNat) (fun x hx => ?_) ⟨by omega, by omega, fun k _ _ => by omega⟩
      obtain ⟨h0, h1, h2⟩ := hx
      have hw1 : IntKind.i64.wrap (x + 1) = x + 1 := w64 (by omega) (by omega)
      simp only [r14_Same_b3, hw1, beq_ticket, cond_some, Tot.cond_iff, Tot.ass_iff, Tot.bnd_iff, Tot.some_iff, Tot.map_iff, Tot.bind_iff, Nx.inl_iff, Nx.inr_iff, decide_eq_true_eq, decide_eq_false_iff_not]
      refine ⟨fun hlt => ⟨⟨h0, hlt⟩, ⟨h0, by omega⟩, fun he => ?_, fun he => ⟨⟨by omega, by omega, fun k c d => ?_⟩, by omega⟩⟩, fun hge => ?_⟩
      · simp only [Bool.and_eq_true, Bool.or_eq_true, Bool.not_eq_true', Bool.and_eq_false_iff, Bool.or_eq_false_iff, Bool.not_eq_false', beq_iff_eq, bne_iff_ne, beq_eq_false_iff_ne, bne_eq_false_iff_eq, decide_eq_true_eq, decide_eq_false_iff_not, decide_eq_false_iff_not] at he
        simp only [Bool.false_eq_true, false_iff]
        intro hc; rw [hc.2.1] at he; exact he rfl
      · simp only [Bool.and_eq_true, Bool.or_eq_true, Bool.not_eq_true', Bool.and_eq_false_iff, Bool.or_eq_false_iff, Bool.not_eq_false', beq_iff_eq, bne_iff_ne, beq_eq_false_iff_ne, bne_eq_false_iff_eq, decide_eq_true_eq, decide_eq_false_iff_not, decide_eq_true_eq] at he
        by_cases hkx : k = x
        · rw [hkx]; exact he
        · exact h2 k c (by omega)
      have q2 : a.2.1 = b.2.1 := rd_ext l3 fun k c d => h2 k c (by omega)
      unfold r14_Same_j2
      refine Tot.loop (fun x => 0 ≤ x ∧ x ≤ (a.2.2.1.length : Int) ∧ ∀ k : Int, 0 ≤ k → k < x → rd z_api_Thread a.2.2.1 k = rd z_api_Thread b.2.2.1 k) (fun x => ((a.2.2.1.length : Int) - x).toNat) (fun x hx => ?_) ⟨by omega, by omega, fun k _ _ => by omega⟩
      obtain ⟨h0, h1, h2⟩ := hx
      have hw1 : IntKind.i64.wrap (x + 1) = x + 1 := w64 (by omega) (by omega)
      simp only [r14_Same_b2, hw1, beq_thread, cond_some, Tot.cond_iff, Tot.ass_iff, Tot.bnd_iff, Tot.some_iff, Tot.map_iff, Tot.bind_iff, Nx.inl_iff, Nx.inr_iff, decide_eq_true_eq, decide_eq_false_iff_not]
      refine ⟨fun hlt => ⟨⟨h0, hlt⟩, ⟨h0, by omega⟩, fun he => ?_, fun he => ⟨⟨by omega, by omega, fun k c d => ?_⟩, by omega⟩⟩, fun hge => ?_⟩
      · simp only [Bool.and_eq_true, Bool.or_eq_true, Bool.not_eq_true', Bool.and_eq_false_iff, Bool.or_eq_false_iff, Bool.not_eq_false', beq_iff_eq, bne_iff_ne, beq_eq_false_iff_ne, bne_eq_false_iff_eq, decide_eq_true_eq, decide_eq_false_iff_not, decide_eq_false_iff_not] at he
        simp only [Bool.false_eq_true, false_iff]
        intro hc; rw [hc.2.2.1] at he; exact he rfl
      · simp only [Bool.and_eq_true, Bool.or_eq_true, Bool.not_eq_true', Bool.and_eq_false_iff, Bool.or_eq_false_iff, Bool.not_eq_false', beq_iff_eq, bne_iff_ne, beq_eq_false_iff_ne, bne_eq_false_iff_eq, decide_eq_true_eq, decide_eq_false_iff_not, decide_eq_true_eq] at he
        by_cases hkx : k = x
        · rw [hkx]; exact he
        · exact h2 k c (by omega)
      have q3 : a.2.2.1 = b.2.2.1 := rd_ext l4 fun k c d => h2 k c (by omega)
      unfold r14_Same_j3
      refine Tot.loop (fun x => 0 ≤ x ∧ x ≤ (a.2.2.2.1.length : Int) ∧ ∀ k : Int, 0 ≤ k → k < x → rd z_api_Lock a.2.2.2.1 k = rd z_api_Lock b.2.2.2.1 k) (fun x => ((a.2.2.2.1.length : Int) - x).toNat) (fun x hx => ?_) ⟨by omega, by omega, fun k _ _ => by omega⟩
      obtain ⟨h0, h1, h2⟩ := hx
      have hw1 : IntKind.i64.wrap (x + 1) = x + 1 := w64 (by omega) (by omega)
      simp only [r14_Same_b1, r14_Same_j4, hw1, beq_lock, cond_some, Tot.cond_iff, Tot.ass_iff, Tot.bnd_iff, Tot.some_iff, Tot.map_iff, Tot.bind_iff, Nx.inl_iff, Nx.inr_iff, decide_eq_true_eq, decide_eq_false_iff_not]
      refine ⟨fun hlt => ⟨⟨h0, hlt⟩, ⟨h0, by omega⟩, fun he => ?_, fun he => ⟨⟨by omega, by omega, fun k c d => ?_⟩, by omega⟩⟩, fun hge => ?_⟩
      · simp only [Bool.and_eq_true, Bool.or_eq_true, Bool.not_eq_true', Bool.and_eq_false_iff, Bool.or_eq_false_iff, Bool.not_eq_false', beq_iff_eq, bne_iff_ne, beq_eq_false_iff_ne, bne_eq_false_iff_eq, decide_eq_true_eq, decide_eq_false_iff_not, decide_eq_false_iff_not] at he
        simp only [Bool.false_eq_true, false_iff]
        intro hc; rw [hc.2.2.2] at he; exact he rfl
      · simp only [Bool.and_eq_true, Bool.or_eq_true, Bool.not_eq_true', Bool.and_eq_false_iff, Bool.or_eq_false_iff, Bool.not_eq_false', beq_iff_eq, bne_iff_ne, beq_eq_false_iff_ne, bne_eq_false_iff_eq, decide_eq_true_eq, decide_eq_false_iff_not, decide_eq_true_eq] at he
        by_cases hkx : k = x
        · rw [hkx]; exact he
        · exact h2 k c (by omega)
      · simp only [true_iff]
        exact ⟨q1, q2, q3, rd_ext l5 fun k c d => h2 k c (by omega)⟩
    · simp only [hi, decide_false, Bool.not_false, cond_true, Tot.some_iff, Bool.false_eq_true, false_iff]
      exact fun hc => hi (by rw [hc])
  · have e : (((((a.2.2.2.2.2 != b.2.2.2.2.2) || ((a.1.length : Int) != (b.1.length : Int))) || ((a.2.1.length : Int) != (b.2.1.length : Int))) || ((a.2.2.1.length : Int) != (b.2.2.1.length : Int))) || ((a.2.2.2.1.length : Int) != (b.2.2.2.1.length : Int))) = true := by
      simp only [Bool.or_eq_true, bne_iff_ne, ne_eq]
      by_cases c1 : a.2.2.2.2.2 = b.2.2.2.2.2
      · by_cases c2 : a.1.length = b.1.length
        · by_cases c3 : a.2.1.length = b.2.1.length
          · by_cases c4 : a.2.2.1.length = b.2.2.1.length
            · right; intro hc; exact hl ⟨c1, c2, c3, c4, by omega⟩
            · left; right; omega
          · left; left; right; omega
        · left; left; left; right; omega
      · left; left; left; left; exact c1
    rw [e]
    simp only [Bool.not_true, cond_false, Option.bind_some, Bool.true_or, cond_true, Tot.some_iff, Bool.false_eq_true, false_iff]
    exact fun hc => hl (by rw [hc]; exact ⟨rfl, rfl, rfl, rfl, rfl⟩)
end Go.Tom
