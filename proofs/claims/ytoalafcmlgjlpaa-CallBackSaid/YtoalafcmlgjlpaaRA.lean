/- A thread of a state changed: what may be stays; who runs; who leaves. -/
import Derived.Test.YtoalafcmlgjlpaaQH0
set_option linter.unusedVariables false
set_option linter.unusedSimpArgs false
namespace Go.Tom
open Go

/-- A thread of this state. -/
abbrev th (s : D_api_State) (k : Int) : D_api_Thread := rd z_api_Thread s.2.2.1 k

/-- A state with other threads, of which none calls or waits otherwise. -/
structure Like (s s' : D_api_State) : Prop where
  c : s'.1 = s.1
  t : s'.2.1 = s.2.1
  l : s'.2.2.2 = s.2.2.2
  n : s'.2.2.1.length = s.2.2.1.length
  z : ∀ k : Int, 0 ≤ k → k < (s.2.2.1.length : Int) → ((th s' k).1 = 0 ↔ (th s k).1 = 0)
  w : ∀ k : Int, 0 ≤ k → k < (s.2.2.1.length : Int) → (th s k).1 = 4 ∨ (th s k).1 = 6 ∨ (th s' k).1 = 4 ∨ (th s' k).1 = 6 → th s' k = th s k
  cl : ∀ k : Int, 0 ≤ k → k < (s.2.2.1.length : Int) → (th s' k).2.2.1 = (th s k).2.2.1
  li : ∀ k : Int, 0 ≤ k → k < (s.2.2.1.length : Int) → (th s' k).1 = 5 → (th s k).1 = 5

section
variable {s s' : D_api_State} (h : Like s s')
include h

theorem Like.thr (k : Int) : ThrP s' k ↔ ThrP s k := by
  unfold ThrP
  rw [h.n]
  constructor
  · rintro ⟨a, b, c⟩
    exact ⟨a, b, fun hc => c ((h.z k a b).2 hc)⟩
  · rintro ⟨a, b, c⟩
    exact ⟨a, b, fun hc => c ((h.z k a b).1 hc)⟩

theorem Like.coin (k : Int) : CoinP s' k ↔ CoinP s k := by unfold CoinP; rw [h.c]
theorem Like.lock (k : Int) : LockP s' k ↔ LockP s k := by unfold LockP; rw [h.l]

theorem Like.is4 (k st w : Int) (hst : st = 4 ∨ st = 6) : IsP s' k st w ↔ IsP s k st w := by
  unfold IsP
  rw [h.thr]
  constructor
  · rintro ⟨a, b, c⟩
    have := h.w k a.1 a.2.1 (.inr (.inr (by have hb : (th s' k).1 = st := b; omega)))
    refine ⟨a, ?_, ?_⟩
    · show (th s k).1 = st; rw [← this]; exact b
    · show (th s k).2.1 = w; rw [← this]; exact c
  · rintro ⟨a, b, c⟩
    have := h.w k a.1 a.2.1 (by have hb : (th s k).1 = st := b; omega)
    refine ⟨a, ?_, ?_⟩
    · show (th s' k).1 = st; rw [this]; exact b
    · show (th s' k).2.1 = w; rw [this]; exact c

theorem Like.thrOk (k : Int) (t : D_api_Thread) : ThreadOk s' k t ↔ ThreadOk s k t := by
  unfold ThreadOk
  rw [h.thr, h.lock, h.is4 _ 4 _ (.inl rfl), h.l]

theorem Like.tickOk (t : D_api_Ticket) : TicketOk s' t ↔ TicketOk s t := by
  unfold TicketOk
  rw [h.coin, h.coin, h.thr]

theorem Like.arrows : thrArrows s' = thrArrows s := by
  unfold thrArrows
  rw [h.n]
  refine buildL_congr fun k h0 h1 => ?_
  have hw := h.w k h0 h1
  show thrArr s' k (th s' k) = thrArr s k (th s k)
  unfold thrArr
  rw [h.l]
  by_cases h4 : (th s k).1 = 4
  · rw [hw (.inl h4)]
  · by_cases h6 : (th s k).1 = 6
    · rw [hw (.inr (.inl h6))]
    · have h4' : ¬ (th s' k).1 = 4 := fun hc => h4 (by rw [← hw (.inr (.inr (.inl hc)))]; exact hc)
      have h6' : ¬ (th s' k).1 = 6 := fun hc => h6 (by rw [← hw (.inr (.inr (.inr hc)))]; exact hc)
      rw [if_neg h4, if_neg h6, if_neg h4', if_neg h6']

theorem Like.queues (hf : ThreadsOk s) (k : Int) (h0 : 0 ≤ k) (h1 : k < (s.2.2.1.length : Int)) : QueuesP s' k ↔ QueuesP s k := by
  unfold QueuesP
  have hw := h.w k h0 h1
  by_cases h4 : (th s k).1 = 4
  · have e : rd z_api_Thread s'.2.2.1 k = rd z_api_Thread s.2.2.1 k := hw (.inl h4)
    have hc := (hf.calls k h0 h1 h4).2
    rw [e, if_pos h4, if_pos h4]
    have := h.cl _ hc.1 hc.2.1
    show (th s' _).2.2.1 ≠ k ↔ (th s _).2.2.1 ≠ k
    rw [this]
  · have h4' : ¬ (th s' k).1 = 4 := fun hc => h4 (by rw [← hw (.inr (.inr (.inl hc)))]; exact hc)
    rw [if_neg h4, if_neg h4']
    by_cases h6 : (th s k).1 = 6
    · have e : rd z_api_Thread s'.2.2.1 k = rd z_api_Thread s.2.2.1 k := hw (.inr (.inl h6))
      rw [e]
    · have h6' : ¬ (th s' k).1 = 6 := fun hc => h6 (by rw [← hw (.inr (.inr (.inr hc)))]; exact hc)
      exact ⟨fun hc => absurd hc h6', fun hc => absurd hc h6⟩

/-- WHAT MAY BE STAYS. -/
theorem Like.fine (hf : FineP s) (ht : ∀ k : Int, 0 ≤ k → k < (s.2.2.1.length : Int) → ThreadOk s k (th s' k)) (hc : cnt (runs s') s'.2.2.1.length < 2) : FineP s' where
  q1 := by rw [h.l]; exact hf.q1
  q2 := by rw [h.l]; exact hf.q2
  c1 := by rw [h.c]; exact hf.c1
  c2 := by rw [h.c]; exact hf.c2
  first := by rw [h.c]; exact hf.first
  last := by rw [h.c]; exact hf.last
  tickets := by
    obtain ⟨a, b, c⟩ := hf.tickets
    unfold TicketsOk
    rw [h.t]
    exact ⟨fun k k0 k1 => (h.tickOk _).2 (a k k0 k1), b, c⟩
  threads := by
    obtain ⟨a, b, c, d⟩ := hf.threads
    refine ⟨fun k k0 k1 => (h.thrOk _ _).2 (ht k k0 (by rw [h.n] at k1; exact k1)), hc, by rw [h.n]; exact c, ?_⟩
    rw [h.n]
    rcases d with d | d
    · exact .inl d
    · right
      by_cases hz : s.2.2.1.length = 0
      · intro hx
        rw [hz] at d
        exact d (by simp [List.eq_nil_of_length_eq_zero hz, rd])
      · exact fun hx => d ((h.z _ (by omega) (by omega)).1 hx)
  locks := by
    obtain ⟨a, b, c⟩ := hf.locks
    unfold LocksOk
    rw [h.l]
    refine ⟨fun k k0 k1 => ?_, b, c⟩
    have := a k k0 k1
    unfold LockOk at this ⊢
    rw [h.n]
    split
    · rename_i hu
      rw [if_pos hu] at this
      refine ⟨by rw [h.thr]; exact this.1, fun j j0 j1 j2 => this.2 j j0 j1 ((h.is4 j 6 k (.inr rfl)).1 j2)⟩
    · rename_i hu
      rw [if_neg hu] at this
      exact this
  queue := by
    obtain ⟨a, b⟩ := hf.queue
    have hq : ∀ i, qn s' i = qn s i := fun i => by
      have e : s'.2.2.2.2.1 = s.2.2.2.2.1 := by rw [h.l]
      show cnt (fun k => rd 0 s'.2.2.2.2.1 k == i) s'.2.2.2.2.1.length = cnt (fun k => rd 0 s.2.2.2.2.1 k == i) s.2.2.2.2.1.length
      rw [e]
    unfold QueueOk
    rw [h.n]
    refine ⟨fun i i0 i1 => ?_, by rw [h.l]; exact b⟩
    obtain ⟨g1, g2, g3⟩ := a i i0 i1
    rw [hq, h.queues hf.threads i i0 i1]
    refine ⟨g1, g2, fun hq1 h4 => ?_⟩
    have hw : th s' i = th s i := h.w i i0 i1 (.inr (.inr (.inl h4)))
    have e : rd z_api_Thread s'.2.2.1 i = rd z_api_Thread s.2.2.1 i := hw
    rw [e] at h4 ⊢
    have hcc := (hf.threads.calls i i0 i1 h4).2
    exact fun h5 => g3 hq1 h4 (h.li _ hcc.1 hcc.2.1 h5)
  coinRing := by
    have e : coinArrows s' = coinArrows s := by unfold coinArrows; rw [h.t]
    rw [e, h.c]
    exact hf.coinRing
  thrRing := by
    rw [h.arrows, h.n]
    exact hf.thrRing
end

/-- A state with one thread changed. -/
def setT (s : D_api_State) (i : Int) (x : D_api_Thread) : D_api_State := (s.1, s.2.1, wr s.2.2.1 i x, s.2.2.2)

theorem setT_len (s : D_api_State) (i : Int) (x : D_api_Thread) : (setT s i x).2.2.1.length = s.2.2.1.length := wr_length ..

theorem th_setT {s : D_api_State} {i : Int} {x : D_api_Thread} (h0 : 0 ≤ i) (h1 : i < (s.2.2.1.length : Int)) {k : Int} (k0 : 0 ≤ k) : th (setT s i x) k = if k = i then x else th s k := rd_wr h0 h1 k0

/-- The ends of all rows are used. -/
structure EndsS (s : D_api_State) : Prop where
  a : s.1.length = 0 ∨ id (rd false s.1 ((s.1.length : Int) - 1)) = true
  b : s.2.1.length = 0 ∨ usedT (rd z_api_Ticket s.2.1 ((s.2.1.length : Int) - 1)) = true
  c : s.2.2.1.length = 0 ∨ usedH (rd z_api_Thread s.2.2.1 ((s.2.2.1.length : Int) - 1)) = true
  d : s.2.2.2.1.length = 0 ∨ usedL (rd z_api_Lock s.2.2.2.1 ((s.2.2.2.1.length : Int) - 1)) = true

theorem EndsS.trim {s : D_api_State} (h : EndsS s) : trimS s = s := by
  unfold trimS
  rw [cutL_stop h.a, cutL_stop h.b, cutL_stop h.c, cutL_stop h.d]

theorem FineP.ends {s : D_api_State} (h : FineP s) : EndsS s :=
  ⟨.inr h.last, h.tickets.2.2, by
    rcases h.threads.2.2.2 with g | g
    · exact .inl g
    · exact .inr (by simpa [usedH] using g), h.locks.2.2⟩

theorem EndsS.set {s : D_api_State} (h : EndsS s) {i : Int} {x : D_api_Thread} (h0 : 0 ≤ i) (h1 : i < (s.2.2.1.length : Int)) (hx : x.1 ≠ 0) : EndsS (setT s i x) := by
  refine ⟨h.a, h.b, ?_, h.d⟩
  right
  rw [setT_len]
  have e : rd z_api_Thread (setT s i x).2.2.1 ((s.2.2.1.length : Int) - 1) = if ((s.2.2.1.length : Int) - 1) = i then x else th s ((s.2.2.1.length : Int) - 1) := th_setT h0 h1 (by omega)
  rw [e]
  split
  · simpa [usedH] using hx
  · rcases h.c with g | g
    · omega
    · exact g

theorem small_set {s : D_api_State} (h : SmallP s) {i : Int} {x : D_api_Thread} : SmallP (setT s i x) := by
  obtain ⟨h1, h2, h3, h4, h5⟩ := h
  exact ⟨h1, h2, by rw [setT_len]; exact h3, h4, h5⟩

theorem padL_stay {α : Type} {z : α} {l : List α} {n : Nat} (h : n ≤ l.length) : padL z l n = l := by
  unfold padL
  rw [show n - l.length = 0 from by omega]
  simp

theorem PutThread_set {s : D_api_State} (hs : SmallP s) (he : EndsS s) {i : Int} {x : D_api_Thread} (h0 : 0 ≤ i) (h1 : i < (s.2.2.1.length : Int)) (h32 : s.2.2.1.length ≤ 32) (hx : x.1 ≠ 0) : state_PutThread s i x = some (setT s i x) := by
  rw [PutThread_eq hs h0 (by omega), padL_stay (by omega)]
  have := (he.set h0 h1 hx).trim
  unfold setT at this
  rw [this]
  rfl

/-- Who runs. -/
def RunP (s : D_api_State) (r : Int) : Prop := (r = -1 ∧ ∀ k : Int, 0 ≤ k → k < (s.2.2.1.length : Int) → (th s k).1 ≠ 3) ∨ (0 ≤ r ∧ r < (s.2.2.1.length : Int) ∧ (th s r).1 = 3)

theorem spawn_Running_tot (s : D_api_State) (hn : s.2.2.1.length ≤ 1000) : Tot (spawn_Running s) (RunP s) := by
  have hp : ∀ x, spawn_Running_c1 x = some (x.1 == 3) := fun x => rfl
  simp only [spawn_Running, Tot.bind_iff, Tot.some_iff]
  unfold slices_IndexFunc_api_Thread_api_Thread
  refine Tot.loop (fun x => 0 ≤ x ∧ x ≤ (s.2.2.1.length : Int) ∧ ∀ k : Int, 0 ≤ k → k < x → (th s k).1 ≠ 3) (fun x => ((s.2.2.1.length : Int) - x).toNat) (fun x hx => ?_) ⟨by omega, by omega, fun k _ _ => by omega⟩
  obtain ⟨h0, h1, h2⟩ := hx
  have hw1 : IntKind.i64.wrap (x + 1) = x + 1 := w64 (by omega) (by omega)
  simp only [slices_IndexFunc_api_Thread_api_Thread_b1, slices_IndexFunc_api_Thread_api_Thread_j1, hw1, hp, Option.bind_some, cond_some, Tot.cond_iff, Tot.ass_iff, Tot.bnd_iff, Tot.some_iff, Tot.map_iff, Tot.bind_iff, Nx.inl_iff, Nx.inr_iff, decide_eq_true_eq, decide_eq_false_iff_not]
  refine ⟨fun hlt => ⟨⟨h0, hlt⟩, fun hq => .inr ⟨h0, hlt, by simpa using hq⟩, fun hq => ⟨⟨by omega, by omega, fun k c d => ?_⟩, by omega⟩⟩, fun hge => .inl ⟨rfl, fun k c d => h2 k c (by omega)⟩⟩
  by_cases hkx : k = x
  · rw [hkx]; simpa using hq
  · exact h2 k c (by omega)

theorem r24_Running_tot (s : D_api_State) (hn : s.2.2.1.length ≤ 1000) : Tot (r24_Running s) (RunP s) := by
  unfold r24_Running
  refine Tot.loop (fun x => 0 ≤ x ∧ x ≤ (s.2.2.1.length : Int) ∧ ∀ k : Int, 0 ≤ k → k < x → (th s k).1 ≠ 3) (fun x => ((s.2.2.1.length : Int) - x).toNat) (fun x hx => ?_) ⟨by omega, by omega, fun k _ _ => by omega⟩
  obtain ⟨h0, h1, h2⟩ := hx
  have hw1 : IntKind.i64.wrap (x + 1) = x + 1 := w64 (by omega) (by omega)
  simp only [r24_Running_b1, r24_Running_j1, hw1, Option.bind_some, cond_some, Tot.cond_iff, Tot.ass_iff, Tot.bnd_iff, Tot.some_iff, Tot.map_iff, Tot.bind_iff, Nx.inl_iff, Nx.inr_iff, decide_eq_true_eq, decide_eq_false_iff_not]
  refine ⟨fun hlt => ⟨⟨h0, hlt⟩, fun hq => .inr ⟨h0, hlt, by simpa using hq⟩, fun hq => ⟨⟨by omega, by omega, fun k c d => ?_⟩, by omega⟩⟩, fun hge => .inl ⟨rfl, fun k c d => h2 k c (by omega)⟩⟩
  by_cases hkx : k = x
  · rw [hkx]; simpa using hq
  · exact h2 k c (by omega)

/-- At most one runs. -/
def OneP (s : D_api_State) : Prop := ∀ j k : Int, 0 ≤ j → j < (s.2.2.1.length : Int) → 0 ≤ k → k < (s.2.2.1.length : Int) → (th s j).1 = 3 → (th s k).1 = 3 → j = k

theorem one_iff {s : D_api_State} : cnt (runs s) s.2.2.1.length < 2 ↔ OneP s := by
  rw [cnt_lt_two]
  unfold OneP runs
  simp only [beq_iff_eq]

theorem RunP.eq {s : D_api_State} (h1 : OneP s) {a b : Int} (ha : RunP s a) (hb : RunP s b) : a = b := by
  rcases ha with ⟨ha, ha2⟩ | ⟨a0, a1, a2⟩
  · rcases hb with ⟨hb, _⟩ | ⟨b0, b1, b2⟩
    · omega
    · exact absurd b2 (ha2 b b0 b1)
  · rcases hb with ⟨_, hb2⟩ | ⟨b0, b1, b2⟩
    · exact absurd a2 (hb2 a a0 a1)
    · exact h1 a b a0 a1 b0 b1 a2 b2
end Go.Tom
