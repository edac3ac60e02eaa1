/- The program's states: which tickets, threads, locks may be. -/
import Derived.Test.YtoalafcmlgjlpaaQA
set_option linter.unusedVariables false
set_option linter.unusedSimpArgs false
namespace Go.Tom
open Go

theorem state_Coin_eq' (s : D_api_State) (i : Int) : state_Coin s i = some (decide (CoinP s i)) := by
  rw [← Tot.eq_iff]
  unfold CoinP
  simp only [state_Coin, state_get_bool, state_coinUsed, cond_some, Tot.cond_iff, Tot.ass_iff, Tot.bnd_iff, Tot.some_iff, Tot.map_iff, Tot.bind_iff, Nx.inl_iff, Nx.inr_iff, decide_eq_true_eq, decide_eq_false_iff_not]
  grind

/-- The last one of a row is used, if there is one, and there are not too many. -/
def EndsP {α : Type} (used : α → Bool) (z : α) (l : List α) (most : Nat) : Prop := l.length ≤ most ∧ (l.length = 0 ∨ used (rd z l ((l.length : Int) - 1)) = true)

theorem ends_help {α : Type} (used : α → Bool) (z : α) (l : List α) (most : Nat) (hl : l.length ≤ 1000000) (p : α → Option Bool) (hp : ∀ x, p x = some (used x)) :
    Tot (ass (((decide ((l.length : Int) ≤ (most : Int))) && (!((l.length : Int) == (0 : Int)))) = true → 0 ≤ IntKind.i64.wrap ((l.length : Int) - (1 : Int)) ∧ IntKind.i64.wrap ((l.length : Int) - (1 : Int)) < (l.length : Int)) <|
      (bif (decide ((l.length : Int) ≤ (most : Int))) && (!((l.length : Int) == (0 : Int))) then p (rd z l (IntKind.i64.wrap ((l.length : Int) - (1 : Int)))) else some false).bind fun y1 =>
      bnd ((decide ((l.length : Int) ≤ (most : Int))) && (((l.length : Int) == (0 : Int)) || y1)) fun x2 =>
      some x2) (fun b => b = true ↔ EndsP used z l most) := by
  have hz : IntKind.i64.wrap ((l.length : Int) - 1) = (l.length : Int) - 1 := w64 (by omega) (by omega)
  rw [hz, Tot.ass_iff]
  refine ⟨fun h => by simp only [Bool.and_eq_true, decide_eq_true_eq, Bool.not_eq_true', beq_eq_false_iff_ne] at h; omega, ?_⟩
  unfold EndsP
  have e1 : ((l.length : Int) ≤ (most : Int)) ↔ l.length ≤ most := by omega
  have e2 : ((l.length : Int) = 0) ↔ l.length = 0 := by omega
  by_cases h1 : l.length ≤ most
  · by_cases h2 : l.length = 0
    · have d1 := decide_eq_true (e1.2 h1)
      have d2 : ((l.length : Int) == 0) = true := by rw [beq_iff_eq]; omega
      rw [d1, d2]
      simp [Tot.some_iff, Tot.bnd_iff, h1, h2]
    · have d1 := decide_eq_true (e1.2 h1)
      have d2 : ((l.length : Int) == 0) = false := by rw [beq_eq_false_iff_ne]; omega
      rw [d1, d2, hp]
      simp only [Bool.true_and, Bool.not_false, cond_true, Option.bind_some, Tot.some_iff, Tot.bnd_iff, Bool.false_or, h1, h2, true_and, false_or]
  · have d1 := decide_eq_false (fun hc => h1 (e1.1 hc))
    rw [d1]
    simp only [Bool.false_and, cond_false, Option.bind_some, Tot.some_iff, Tot.bnd_iff, h1, false_and, Bool.false_eq_true]

theorem state_ends_bool_tot (l : List Bool) (hl : l.length ≤ 1000000) : Tot (state_ends_bool l (16 : Int) (fun x => state_coinUsed x)) (fun b => b = true ↔ EndsP id false l 16) :=
  ends_help id false l 16 hl (fun x => state_coinUsed x) fun x => rfl
theorem state_ends_Ticket_tot (l : List D_api_Ticket) (hl : l.length ≤ 1000000) : Tot (state_ends_api_Ticket l (96 : Int) (fun x => state_ticketUsed x)) (fun b => b = true ↔ EndsP (fun t => t.1) z_api_Ticket l 96) :=
  ends_help (fun t : D_api_Ticket => t.1) z_api_Ticket l 96 hl (fun x => state_ticketUsed x) fun x => rfl
theorem state_ends_Thread_tot (l : List D_api_Thread) (hl : l.length ≤ 1000000) : Tot (state_ends_api_Thread l (32 : Int) (fun x => state_threadUsed x)) (fun b => b = true ↔ EndsP (fun t => t.1 != 0) z_api_Thread l 32) :=
  ends_help (fun t : D_api_Thread => t.1 != 0) z_api_Thread l 32 hl (fun x => state_threadUsed x) fun x => rfl
theorem state_ends_Lock_tot (l : List D_api_Lock) (hl : l.length ≤ 1000000) : Tot (state_ends_api_Lock l (8 : Int) (fun x => state_lockUsed x)) (fun b => b = true ↔ EndsP (fun t => t.1) z_api_Lock l 8) :=
  ends_help (fun t : D_api_Lock => t.1) z_api_Lock l 8 hl (fun x => state_lockUsed x) fun x => rfl

/-- Is one of them such? -/
def anyB {α : Type} (p : α → Bool) (z : α) (l : List α) : Prop := ∃ k : Int, 0 ≤ k ∧ k < (l.length : Int) ∧ p (rd z l k) = true

theorem contains_Ticket (l : List D_api_Ticket) (p : D_api_Ticket → Option Bool) (q : D_api_Ticket → Bool) (hp : ∀ x, p x = some (q x)) (hl : l.length ≤ 1000000) :
    Tot (slices_ContainsFunc_api_Ticket_api_Ticket l p) (fun b => b = true ↔ anyB q z_api_Ticket l) := by
  unfold slices_ContainsFunc_api_Ticket_api_Ticket
  rw [Tot.bind_iff]
  unfold slices_IndexFunc_api_Ticket_api_Ticket
  refine Tot.loop (fun x => 0 ≤ x ∧ x ≤ (l.length : Int) ∧ ∀ k : Int, 0 ≤ k → k < x → q (rd z_api_Ticket l k) = false) (fun x => ((l.length : Int) - x).toNat) (fun x hx => ?_) ⟨by omega, by omega, fun k _ _ => by omega⟩
  obtain ⟨h0, h1, h2⟩ := hx
  have hw1 : IntKind.i64.wrap (x + 1) = x + 1 := w64 (by omega) (by omega)
  simp only [slices_IndexFunc_api_Ticket_api_Ticket_b1, slices_IndexFunc_api_Ticket_api_Ticket_j1, hw1, hp, Option.bind_some, cond_some, Tot.cond_iff, Tot.ass_iff, Tot.bnd_iff, Tot.some_iff, Tot.map_iff, Tot.bind_iff, Nx.inl_iff, Nx.inr_iff, decide_eq_true_eq, decide_eq_false_iff_not]
  refine ⟨fun hlt => ⟨⟨h0, hlt⟩, fun hq => ?_, fun hq => ⟨⟨by omega, by omega, fun k c d => ?_⟩, by omega⟩⟩, fun hge => ?_⟩
  · exact ⟨fun _ => ⟨x, h0, hlt, hq⟩, fun _ => by simpa using h0⟩
  · by_cases hkx : k = x
    · rw [hkx]; exact hq
    · exact h2 k c (by omega)
  · refine ⟨fun hc => by simp at hc, fun ⟨k, k0, k1, k2⟩ => ?_⟩
    rw [h2 k k0 (by omega)] at k2
    simp at k2

theorem contains_Thread (l : List D_api_Thread) (p : D_api_Thread → Option Bool) (q : D_api_Thread → Bool) (hp : ∀ x, p x = some (q x)) (hl : l.length ≤ 1000000) :
    Tot (slices_ContainsFunc_api_Thread_api_Thread l p) (fun b => b = true ↔ anyB q z_api_Thread l) := by
  unfold slices_ContainsFunc_api_Thread_api_Thread
  rw [Tot.bind_iff]
  unfold slices_IndexFunc_api_Thread_api_Thread
  refine Tot.loop (fun x => 0 ≤ x ∧ x ≤ (l.length : Int) ∧ ∀ k : Int, 0 ≤ k → k < x → q (rd z_api_Thread l k) = false) (fun x => ((l.length : Int) - x).toNat) (fun x hx => ?_) ⟨by omega, by omega, fun k _ _ => by omega⟩
  obtain ⟨h0, h1, h2⟩ := hx
  have hw1 : IntKind.i64.wrap (x + 1) = x + 1 := w64 (by omega) (by omega)
  simp only [slices_IndexFunc_api_Thread_api_Thread_b1, slices_IndexFunc_api_Thread_api_Thread_j1, hw1, hp, Option.bind_some, cond_some, Tot.cond_iff, Tot.ass_iff, Tot.bnd_iff, Tot.some_iff, Tot.map_iff, Tot.bind_iff, Nx.inl_iff, Nx.inr_iff, decide_eq_true_eq, decide_eq_false_iff_not]
  refine ⟨fun hlt => ⟨⟨h0, hlt⟩, fun hq => ?_, fun hq => ⟨⟨by omega, by omega, fun k c d => ?_⟩, by omega⟩⟩, fun hge => ?_⟩
  · exact ⟨fun _ => ⟨x, h0, hlt, hq⟩, fun _ => by simpa using h0⟩
  · by_cases hkx : k = x
    · rw [hkx]; exact hq
    · exact h2 k c (by omega)
  · refine ⟨fun hc => by simp at hc, fun ⟨k, k0, k1, k2⟩ => ?_⟩
    rw [h2 k k0 (by omega)] at k2
    simp at k2

theorem thr_snd (s : D_api_State) (i : Int) : (thrOf s i).2 = decide (ThrP s i) := by unfold thrOf; split <;> simp_all
theorem lock_snd (s : D_api_State) (i : Int) : (lockOf s i).2 = decide (LockP s i) := by unfold lockOf; split <;> simp_all

instance (s : D_api_State) (t : D_api_Ticket) : Decidable (TicketOk s t) := by unfold TicketOk; infer_instance

theorem state_ticket_eq (s : D_api_State) (t : D_api_Ticket) : state_ticket s t = some (decide (TicketOk s t)) := by
  rw [← Tot.eq_iff]
  obtain ⟨u, c, a, k, to, on⟩ := t
  simp only [state_ticket, state_Coin_eq', state_Thread_eq, thr_snd, beq_ticket, cond_some, Tot.cond_iff, Tot.ass_iff, Tot.bnd_iff, Tot.some_iff, Tot.map_iff, Tot.bind_iff, Nx.inl_iff, Nx.inr_iff, decide_eq_true_eq, decide_eq_false_iff_not]
  unfold TicketOk
  grind

theorem state_tickets_tot (s : D_api_State) (hn : s.2.1.length ≤ 1000) : Tot (state_tickets s) (fun b => b = true ↔ TicketsOk s) := by
  classical
  have hc := (contains_Ticket s.2.1 (fun x => state_tickets_c1 x s) (fun t => !(decide (TicketOk s t))) (fun x => by simp [state_tickets_c1, state_ticket_eq, bnd]) (by omega)).dec
  have hT : TicketsOk s ↔ EndsP (fun t => t.1) z_api_Ticket s.2.1 96 ∧ ¬ anyB (fun t => !(decide (TicketOk s t))) z_api_Ticket s.2.1 := by
    unfold TicketsOk EndsP anyB
    constructor
    · rintro ⟨g1, g2, g3⟩
      exact ⟨⟨g2, g3⟩, fun ⟨k, k0, k1, k2⟩ => by simp [g1 k k0 k1] at k2⟩
    · rintro ⟨⟨g2, g3⟩, g1⟩
      exact ⟨fun k k0 k1 => Classical.byContradiction fun hc => g1 ⟨k, k0, k1, by simp [hc]⟩, g2, g3⟩
  simp only [state_tickets, (state_ends_Ticket_tot s.2.1 (by omega)).dec, hc, Option.bind_some]
  by_cases h1 : EndsP (fun t => t.1) z_api_Ticket s.2.1 96
  · by_cases h2 : anyB (fun t => !(decide (TicketOk s t))) z_api_Ticket s.2.1
    · simp [h1, h2, hT, Tot.some_iff, Tot.bnd_iff]
    · simp [h1, h2, hT, Tot.some_iff, Tot.bnd_iff]
  · simp [h1, hT, Tot.some_iff, Tot.bnd_iff]
end Go.Tom
