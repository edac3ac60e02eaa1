/- The document's states: which may be. -/
import Derived.Test.YtoalafcmlgjlpaaPA
import Derived.Test.YtoalafcmlgjlpaaGenx
set_option linter.unusedVariables false
set_option linter.unusedSimpArgs false
namespace Go.Tom
open Go

def ThrP (s : D_api_State) (i : Int) : Prop := 0 ≤ i ∧ i < (s.2.2.1.length : Int) ∧ (rd z_api_Thread s.2.2.1 i).1 ≠ 0
def CoinP (s : D_api_State) (i : Int) : Prop := 0 ≤ i ∧ i < (s.1.length : Int) ∧ rd false s.1 i = true
def LockP (s : D_api_State) (i : Int) : Prop := 0 ≤ i ∧ i < (s.2.2.2.1.length : Int) ∧ (rd z_api_Lock s.2.2.2.1 i).1 = true
def IsP (s : D_api_State) (i st what : Int) : Prop := ThrP s i ∧ (rd z_api_Thread s.2.2.1 i).1 = st ∧ (rd z_api_Thread s.2.2.1 i).2.1 = what

def TicketOk (s : D_api_State) (t : D_api_Ticket) : Prop :=
  if t.1 = true then CoinP s t.2.1 ∧ 1 ≤ t.2.2.1 ∧ t.2.2.1 ≤ 1048576 ∧ ((t.2.2.2.1 = 0 ∧ t.2.2.2.2.1 = 0) ∨ (t.2.2.2.1 = 1 ∧ ThrP s t.2.2.2.2.1) ∨ (t.2.2.2.1 = 2 ∧ t.2.2.2.2.1 ≠ 0 ∧ CoinP s t.2.2.2.2.1))
  else t = (false, 0, 0, 0, 0, false)

def TicketsOk (s : D_api_State) : Prop :=
  (∀ k : Int, 0 ≤ k → k < (s.2.1.length : Int) → TicketOk s (rd z_api_Ticket s.2.1 k)) ∧ s.2.1.length ≤ 96 ∧ (s.2.1.length = 0 ∨ (rd z_api_Ticket s.2.1 ((s.2.1.length : Int) - 1)).1 = true)

theorem r14_Thread_tot (s : D_api_State) (i : Int) : Tot (r14_Thread s i) (fun b => b = true ↔ ThrP s i) := by
  simp only [r14_Thread, Tot.ass_iff, Tot.bnd_iff, Tot.some_iff, ThrP, Bool.and_eq_true, decide_eq_true_eq, bne_iff_ne]
  grind
theorem r14_Coin_tot (s : D_api_State) (i : Int) : Tot (r14_Coin s i) (fun b => b = true ↔ CoinP s i) := by
  simp only [r14_Coin, Tot.ass_iff, Tot.bnd_iff, Tot.some_iff, CoinP, Bool.and_eq_true, decide_eq_true_eq, bne_iff_ne]
  grind
theorem r14_Lock_tot (s : D_api_State) (i : Int) : Tot (r14_Lock s i) (fun b => b = true ↔ LockP s i) := by
  simp only [r14_Lock, Tot.ass_iff, Tot.bnd_iff, Tot.some_iff, LockP, Bool.and_eq_true, decide_eq_true_eq, bne_iff_ne]
  grind
theorem r14_Is_tot (s : D_api_State) (i st what : Int) : Tot (r14_Is s i st what) (fun b => b = true ↔ IsP s i st what) := by
  simp only [r14_Is, Tot.ass_iff, Tot.bnd_iff, Tot.some_iff, Tot.bind_iff]
  refine (r14_Thread_tot s i).mono fun b hb => ?_
  simp only [IsP, ThrP, Bool.and_eq_true, beq_iff_eq] at *
  grind

theorem r14_Thread_eq (s : D_api_State) (i : Int) : r14_Thread s i = some (@decide (ThrP s i) (Classical.propDecidable _)) := (r14_Thread_tot s i).dec
theorem r14_Coin_eq (s : D_api_State) (i : Int) : r14_Coin s i = some (@decide (CoinP s i) (Classical.propDecidable _)) := (r14_Coin_tot s i).dec
theorem r14_Lock_eq (s : D_api_State) (i : Int) : r14_Lock s i = some (@decide (LockP s i) (Classical.propDecidable _)) := (r14_Lock_tot s i).dec
theorem r14_Is_eq (s : D_api_State) (i st what : Int) : r14_Is s i st what = some (@decide (IsP s i st what) (Classical.propDecidable _)) := (r14_Is_tot s i st what).dec

theorem r14_tickets_tot (s : D_api_State) (hn : s.2.1.length ≤ 1000) : Tot (r14_tickets s) (fun b => b = true ↔ TicketsOk s) := by
  unfold r14_tickets
  refine Tot.loop (fun x => 0 ≤ x ∧ x ≤ (s.2.1.length : Int) ∧ ∀ k : Int, 0 ≤ k → k < x → TicketOk s (rd z_api_Ticket s.2.1 k)) (fun x => ((s.2.1.length : Int) - x).toNat) (fun x hx => ?_) ⟨by omega, by omega, fun k _ _ => by omega⟩
  obtain ⟨h0, h1, h2⟩ := hx
  have hw : IntKind.i64.wrap (x + 1) = x + 1 := w64 (by omega) (by omega)
  have hz : IntKind.i64.wrap ((s.2.1.length : Int) - 1) = (s.2.1.length : Int) - 1 := w64 (by omega) (by omega)
  simp only [r14_tickets_b1, r14_tickets_j1, r14_tickets_j2, r14_Thread_eq, r14_Coin_eq, cond_some, hw, hz, Tot.cond_iff, Tot.ass_iff, Tot.bnd_iff, Tot.some_iff, Tot.map_iff, Tot.bind_iff, Nx.inl_iff, Nx.inr_iff, decide_eq_true_eq, decide_eq_false_iff_not]
  refine ⟨fun hlt => ⟨⟨h0, hlt⟩, ?_⟩, fun hge => ?_⟩
  · have hT : TicketsOk s → TicketOk s (rd z_api_Ticket s.2.1 x) := fun h => h.1 x h0 hlt
    have hk : TicketOk s (rd z_api_Ticket s.2.1 x) → ∀ k : Int, 0 ≤ k → k < x + 1 → TicketOk s (rd z_api_Ticket s.2.1 k) := fun h k a b => by
      by_cases hkx : k = x
      · rw [hkx]; exact h
      · exact h2 k a (by omega)
    have hm : ((s.2.1.length : Int) - (x + 1)).toNat < ((s.2.1.length : Int) - x).toNat := by omega
    generalize rd z_api_Ticket s.2.1 x = t at *
    obtain ⟨u, c, a, k, to, on⟩ := t
    simp only [TicketOk, Ty.beq] at *
    grind
  · unfold TicketsOk
    grind

def ThreadOk (s : D_api_State) (i : Int) (t : D_api_Thread) : Prop :=
  if t.1 = 0 then t = (0, 0, 0, 0, 0) else
    ((0 < t.1 ∧ t.1 < 6 ∧ t.1 ≠ 4 ∧ t.2.1 = -1) ∨ (t.1 = 4 ∧ t.2.1 ≠ i ∧ ThrP s t.2.1) ∨ (t.1 = 6 ∧ LockP s t.2.1)) ∧
    (t.2.2.1 = -1 ∨ (t.1 ≠ 5 ∧ IsP s t.2.2.1 4 i)) ∧ ((t.2.2.2.1 = 1 ∧ t.2.2.2.2 = 1) ∨ (1 ≤ t.2.2.2.2 ∧ t.2.2.2.2 < t.2.2.2.1 ∧ t.2.2.2.1 ≤ s.2.2.2.2.2))

def runs (s : D_api_State) (k : Int) : Bool := (rd z_api_Thread s.2.2.1 k).1 == 3

def ThreadsOk (s : D_api_State) : Prop :=
  (∀ k : Int, 0 ≤ k → k < (s.2.2.1.length : Int) → ThreadOk s k (rd z_api_Thread s.2.2.1 k)) ∧ cnt (runs s) s.2.2.1.length < 2 ∧ s.2.2.1.length ≤ 32 ∧ (s.2.2.1.length = 0 ∨ (rd z_api_Thread s.2.2.1 ((s.2.2.1.length : Int) - 1)).1 ≠ 0)

theorem r14_threads_tot (s : D_api_State) (hn : s.2.2.1.length ≤ 1000) : Tot (r14_threads s) (fun b => b = true ↔ ThreadsOk s) := by
  unfold r14_threads
  refine Tot.loop (fun x => 0 ≤ x.2 ∧ x.2 ≤ (s.2.2.1.length : Int) ∧ x.1 = (cnt (runs s) x.2.toNat : Int) ∧ ∀ k : Int, 0 ≤ k → k < x.2 → ThreadOk s k (rd z_api_Thread s.2.2.1 k)) (fun x => ((s.2.2.1.length : Int) - x.2).toNat) (fun x hx => ?_) ⟨by omega, by simp, by simp [cnt], fun k _ _ => by simp at *; omega⟩
  obtain ⟨r, x⟩ := x
  simp only at hx
  obtain ⟨h0, h1, hr, h2⟩ := hx
  subst hr
  have hw : IntKind.i64.wrap (x + 1) = x + 1 := w64 (by omega) (by omega)
  have hcx := cnt_le (p := runs s) (n := x.toNat)
  have hw2 : IntKind.i64.wrap (((cnt (runs s) x.toNat : Nat) : Int) + 1) = (cnt (runs s) x.toNat : Int) + 1 := w64 (by omega) (by omega)
  have hz : IntKind.i64.wrap ((s.2.2.1.length : Int) - 1) = (s.2.2.1.length : Int) - 1 := w64 (by omega) (by omega)
  simp only [r14_threads_b1, r14_threads_j1, r14_threads_j2, r14_threads_j3, r14_Thread_eq, r14_Lock_eq, r14_Is_eq, hw, hw2, hz, cond_some, Tot.cond_iff, Tot.ass_iff, Tot.bnd_iff, Tot.some_iff, Tot.map_iff, Tot.bind_iff, Nx.inl_iff, Nx.inr_iff, decide_eq_true_eq, decide_eq_false_iff_not]
  refine ⟨fun hlt => ⟨⟨h0, hlt⟩, ?_⟩, fun hge => ?_⟩
  · have hT : ThreadsOk s → ThreadOk s x (rd z_api_Thread s.2.2.1 x) := fun h => h.1 x h0 hlt
    have hk : ThreadOk s x (rd z_api_Thread s.2.2.1 x) → ∀ k : Int, 0 ≤ k → k < x + 1 → ThreadOk s k (rd z_api_Thread s.2.2.1 k) := fun h k a b => by
      by_cases hkx : k = x
      · rw [hkx]; exact h
      · exact h2 k a (by omega)
    have hm : ((s.2.2.1.length : Int) - (x + 1)).toNat < ((s.2.2.1.length : Int) - x).toNat := by omega
    have hc : ((cnt (runs s) (x + 1).toNat : Nat) : Int) = cnt (runs s) x.toNat + (if (rd z_api_Thread s.2.2.1 x).1 = 3 then 1 else 0) := by
      rw [cnt_step h0]
      by_cases h3 : (rd z_api_Thread s.2.2.1 x).1 = 3
      · have h4 : runs s x = true := by simp [runs, h3]
        rw [h4]; simp [h3]
      · have h4 : runs s x = false := by simp [runs, h3]
        rw [h4]; simp [h3]
    have e1 : x + 1 ≤ (s.2.2.1.length : Int) := by omega
    have e0 : 0 ≤ x + 1 := by omega
    generalize rd z_api_Thread s.2.2.1 x = t at *
    obtain ⟨st, fo, cl, q, u⟩ := t
    generalize (∀ k : Int, 0 ≤ k → k < x + 1 → ThreadOk s k (rd z_api_Thread s.2.2.1 k)) = B at *
    have hA : ThreadOk s x (st, fo, cl, q, u) ↔ if st = 0 then st = 0 ∧ fo = 0 ∧ cl = 0 ∧ q = 0 ∧ u = 0 else
      ((0 < st ∧ st < 6 ∧ st ≠ 4 ∧ fo = -1) ∨ (st = 4 ∧ fo ≠ x ∧ ThrP s fo) ∨ (st = 6 ∧ LockP s fo)) ∧
      (cl = -1 ∨ (st ≠ 5 ∧ IsP s cl 4 x)) ∧ ((q = 1 ∧ u = 1) ∨ (1 ≤ u ∧ u < q ∧ q ≤ s.2.2.2.2.2)) := by simp [ThreadOk]
    generalize ThreadOk s x (st, fo, cl, q, u) = A at *
    generalize ThreadsOk s = AA at *
    generalize ThrP s fo = C1 at *
    generalize LockP s fo = C2 at *
    generalize IsP s cl 4 x = C3 at *
    generalize s.2.2.2.2.2 = qu at *
    simp only [Ty.beq] at *
    clear h2 hw hw2 hz hcx hn h1
    by_cases hs0 : st = 0
    · simp only [hs0, if_true] at hA
      subst hs0
      simp
      grind
    · simp only [hs0, if_false] at hA
      have hs0' : (st == 0) = false := by simpa using hs0
      simp only [hs0', Bool.false_eq_true, false_implies, true_implies, true_and]
      have key : ∀ b : Bool, (b = true ↔ ¬ A) → ∀ Y : Prop, (A → Y) → (b = true → (False ↔ AA)) ∧ (b = false → Y) := fun b hb Y hY => ⟨fun h1 => by
        have := hb.1 h1
        simp only [false_iff]
        exact fun hc => this (hT hc), fun h1 => hY (Classical.byContradiction fun hc => by rw [hb.2 hc] at h1; simp at h1)⟩
      refine ⟨fun h3 => key _ ?_ _ fun hAA => ?_, fun h3 => key _ ?_ _ fun hAA => ?_⟩
      · rw [hA]; grind
      · rw [beq_iff_eq] at h3
        simp only [h3, if_true] at hc
        exact ⟨⟨e0, by omega, by omega, hk hAA⟩, hm⟩
      · rw [hA]; grind
      · rw [beq_eq_false_iff_ne] at h3
        simp only [h3, if_false] at hc
        exact ⟨⟨e0, by omega, by omega, hk hAA⟩, hm⟩
  · have hx : x = (s.2.2.1.length : Int) := by omega
    subst hx
    simp only [Int.toNat_natCast]
    unfold ThreadsOk
    grind

def LockOk (s : D_api_State) (i : Int) (l : D_api_Lock) : Prop :=
  if l.1 = true then (l.2 = -1 ∨ ThrP s l.2) ∧ ∀ k : Int, 0 ≤ k → k < (s.2.2.1.length : Int) → IsP s k 6 i → l.2 ≠ -1 ∧ l.2 ≠ k else l.2 = 0

def LocksOk (s : D_api_State) : Prop :=
  (∀ k : Int, 0 ≤ k → k < (s.2.2.2.1.length : Int) → LockOk s k (rd z_api_Lock s.2.2.2.1 k)) ∧ s.2.2.2.1.length ≤ 8 ∧ (s.2.2.2.1.length = 0 ∨ (rd z_api_Lock s.2.2.2.1 ((s.2.2.2.1.length : Int) - 1)).1 = true)

theorem r14_locks_tot (s : D_api_State) (hn : s.2.2.2.1.length ≤ 1000) (hn2 : s.2.2.1.length ≤ 1000) : Tot (r14_locks s) (fun b => b = true ↔ LocksOk s) := by
  unfold r14_locks
  refine Tot.loop (fun x => 0 ≤ x ∧ x ≤ (s.2.2.2.1.length : Int) ∧ ∀ k : Int, 0 ≤ k → k < x → LockOk s k (rd z_api_Lock s.2.2.2.1 k)) (fun x => ((s.2.2.2.1.length : Int) - x).toNat) (fun x hx => ?_) ⟨by omega, by omega, fun k _ _ => by omega⟩
  obtain ⟨h0, h1, h2⟩ := hx
  have hw : IntKind.i64.wrap (x + 1) = x + 1 := w64 (by omega) (by omega)
  have hz : IntKind.i64.wrap ((s.2.2.2.1.length : Int) - 1) = (s.2.2.2.1.length : Int) - 1 := w64 (by omega) (by omega)
  simp only [r14_locks_b1, r14_locks_j1, r14_locks_j2, r14_Thread_eq, hw, hz, cond_some, Tot.cond_iff, Tot.ass_iff, Tot.bnd_iff, Tot.some_iff, Tot.map_iff, Tot.bind_iff, Nx.inl_iff, Nx.inr_iff, decide_eq_true_eq, decide_eq_false_iff_not]
  refine ⟨fun hlt => ⟨⟨h0, hlt⟩, ?_⟩, fun hge => ?_⟩
  · have hT : LocksOk s → LockOk s x (rd z_api_Lock s.2.2.2.1 x) := fun h => h.1 x h0 hlt
    have hk : LockOk s x (rd z_api_Lock s.2.2.2.1 x) → ∀ k : Int, 0 ≤ k → k < x + 1 → LockOk s k (rd z_api_Lock s.2.2.2.1 k) := fun h k a b => by
      by_cases hkx : k = x
      · rw [hkx]; exact h
      · exact h2 k a (by omega)
    have hm : ((s.2.2.2.1.length : Int) - (x + 1)).toNat < ((s.2.2.2.1.length : Int) - x).toNat := by omega
    have e1 : x + 1 ≤ (s.2.2.2.1.length : Int) := by omega
    have e0 : 0 ≤ x + 1 := by omega
    generalize rd z_api_Lock s.2.2.2.1 x = t at *
    obtain ⟨us, ho⟩ := t
    simp only at *
    refine ⟨fun hu => ?_, fun hu => ⟨fun hb => ?_, fun hb => ?_⟩⟩
    · simp only [LockOk] at *
      grind
    · simp only [LockOk] at *
      grind
    · have hus : us = true := by simpa using hu
      subst hus
      have hh : ho = -1 ∨ ThrP s ho := by
        simp only [Bool.and_eq_false_iff, Bool.not_eq_false', bne_eq_false_iff_eq] at hb
        by_cases hho : ho = -1
        · exact .inl hho
        · have h3 : (ho != -1) = true := by simpa using hho
          rcases hb with hb | hb
          · exact absurd hb hho
          · rw [h3] at hb
            exact .inr (by simpa using hb)
      refine Tot.loop (fun y => 0 ≤ y ∧ y ≤ (s.2.2.1.length : Int) ∧ ∀ k : Int, 0 ≤ k → k < y → IsP s k 6 x → ho ≠ -1 ∧ ho ≠ k) (fun y => ((s.2.2.1.length : Int) - y).toNat) (fun y hy => ?_) ⟨by omega, by omega, fun k _ _ => by omega⟩
      obtain ⟨g0, g1, g2⟩ := hy
      have hw3 : IntKind.i64.wrap (y + 1) = y + 1 := w64 (by omega) (by omega)
      simp only [r14_locks_b2, r14_locks_j2, r14_locks_j3, r14_Is_eq, hw, hw3, cond_some, Tot.cond_iff, Tot.ass_iff, Tot.bnd_iff, Tot.some_iff, Tot.map_iff, Tot.bind_iff, Nx.inl_iff, Nx.inr_iff, decide_eq_true_eq, decide_eq_false_iff_not]
      refine ⟨fun hylt => ⟨fun hbad => ?_, fun hgood => ⟨⟨by omega, by omega, fun k a b his => ?_⟩, by omega⟩⟩, fun hyge => ⟨⟨e0, e1, hk ?_⟩, hm⟩⟩
      · simp only [LockOk] at *
        have hnot : ¬ LocksOk s := fun hc => by
          have := (hT hc)
          simp only [if_true] at this
          have := this.2 y g0 hylt
          grind
        simp [hnot]
      · by_cases hky : k = y
        · subst hky
          simp [his] at hgood
          exact hgood
        · exact g2 k a (by omega) his
      · simp only [LockOk, if_true]
        exact ⟨hh, fun k a b his => g2 k a (by omega) his⟩
  · unfold LocksOk
    grind

end Go.Tom
