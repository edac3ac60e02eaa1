/- The program's states: what is cut off; what is put. -/
import Derived.Test.YtoalafcmlgjlpaaQF
set_option linter.unusedVariables false
set_option linter.unusedSimpArgs false
namespace Go.Tom
open Go

section
variable {α : Type} {used : α → Bool} {z : α}

theorem rd_take' {l : List α} {m : Nat} {k : Nat} (hk : k < m) : rd z (l.take m) (k : Int) = rd z l (k : Int) := by
  simp [rd, List.getD_eq_getElem?_getD, List.getElem?_take, hk]

theorem cutL_take {l : List α} {m : Nat} : ∀ {n : Nat}, n ≤ m → cutL used z (l.take m) n = cutL used z l n
  | 0, _ => rfl
  | n + 1, h => by
    simp only [cutL]
    rw [rd_take' (by omega), cutL_take (n := n) (by omega), List.take_take, Nat.min_eq_left h]

theorem cutL_step {l : List α} {n : Nat} (hn : l.length = n + 1) (hu : used (rd z l (n : Int)) = false) : cutL used z (l.take n) (l.take n).length = cutL used z l l.length := by
  have hl : (l.take n).length = n := by rw [List.length_take]; omega
  rw [hl, cutL_take (Nat.le_refl _), hn]
  simp [cutL, hu]

theorem cutL_stop {l : List α} (h : l.length = 0 ∨ used (rd z l ((l.length : Int) - 1)) = true) : cutL used z l l.length = l := by
  rcases h with h | h
  · rw [h, List.eq_nil_of_length_eq_zero h]; rfl
  · cases hl : l.length with
    | zero => rw [List.eq_nil_of_length_eq_zero hl]; rfl
    | succ n =>
      rw [hl] at h
      have e : ((n + 1 : Nat) : Int) - 1 = (n : Int) := by omega
      rw [e] at h
      simp only [cutL, h, if_true]
      rw [List.take_of_length_le (by omega)]

theorem cutL_len {l : List α} : ∀ {n : Nat}, (cutL used z l n).length ≤ n
  | 0 => by simp [cutL]
  | n + 1 => by
    simp only [cutL]
    split
    · rw [List.length_take]; omega
    · have := cutL_len (l := l) (n := n)
      omega
end

abbrev usedT (t : D_api_Ticket) : Bool := t.1
abbrev usedH (t : D_api_Thread) : Bool := t.1 != 0
abbrev usedL (t : D_api_Lock) : Bool := t.1

/-- A state without what is not used at the ends. -/
def trimS (s : D_api_State) : D_api_State := (cutL id false s.1 s.1.length, cutL usedT z_api_Ticket s.2.1 s.2.1.length, cutL usedH z_api_Thread s.2.2.1 s.2.2.1.length, cutL usedL z_api_Lock s.2.2.2.1 s.2.2.2.1.length, s.2.2.2.2)

theorem trim_small {s : D_api_State} (h : SmallP s) : SmallP (trimS s) := by
  obtain ⟨h1, h2, h3, h4, h5⟩ := h
  refine ⟨Nat.le_trans cutL_len h1, Nat.le_trans cutL_len h2, Nat.le_trans cutL_len h3, Nat.le_trans cutL_len h4, h5⟩

theorem state_Trim_eq {s : D_api_State} (h1 : s.1.length ≤ 1000) (h2 : s.2.1.length ≤ 1000) (h3 : s.2.2.1.length ≤ 1000) (h4 : s.2.2.2.1.length ≤ 1000) (h5 : s.2.2.2.2.1.length ≤ 1000) : state_Trim s = some (trimS s) := by
  rw [← Tot.eq_iff]
  simp only [state_Trim, state_cut_bool_eq s.1 (fun x => state_coinUsed x) id (fun x => rfl) (by omega), state_cut_api_Ticket_eq s.2.1 (fun x => state_ticketUsed x) usedT (fun x => rfl) (by omega),
    state_cut_api_Thread_eq s.2.2.1 (fun x => state_threadUsed x) usedH (fun x => rfl) (by omega), state_cut_api_Lock_eq s.2.2.2.1 (fun x => state_lockUsed x) usedL (fun x => rfl) (by omega), slices_Clone_int_int_eq s.2.2.2.2.1 (by omega), Option.bind_some, cond_some, Tot.cond_iff, Tot.ass_iff, Tot.bnd_iff, Tot.some_iff, Tot.map_iff, Tot.bind_iff, Nx.inl_iff, Nx.inr_iff, decide_eq_true_eq, decide_eq_false_iff_not]
  rfl

theorem sl0 {α : Type} {l : List α} {x : Int} : sl l 0 x = l.take x.toNat := by simp [sl]

theorem r14_Trim_eq {s : D_api_State} (hs : SmallP s) : r14_Trim s = some (trimS s) := by
  obtain ⟨s1, s2, s3, s4, s5⟩ := id hs
  rw [← Tot.eq_iff]
  simp only [r14_Trim, r14_Copy_eq' hs, Option.bind_some, Tot.bnd_iff]
  refine Tot.loop (fun x => x.2 = s.2 ∧ x.1.length ≤ 1000 ∧ cutL id false x.1 x.1.length = cutL id false s.1 s.1.length) (fun x => x.1.length) (fun x hx => ?_) ⟨rfl, by omega, rfl⟩
  obtain ⟨c, r⟩ := x
  obtain ⟨h1, h2, h3⟩ := hx
  simp only at h1 h2 h3
  subst h1
  have hz : IntKind.i64.wrap ((c.length : Int) - 1) = (c.length : Int) - 1 := w64 (by omega) (by omega)
  simp only [r14_Trim_b4, hz, sl0, cond_some, Tot.cond_iff, Tot.ass_iff, Tot.bnd_iff, Tot.some_iff, Tot.map_iff, Tot.bind_iff, Nx.inl_iff, Nx.inr_iff, decide_eq_true_eq, decide_eq_false_iff_not]
  refine ⟨fun hc => by omega, fun hc => ?_, fun hc => ?_⟩
  · simp only [Bool.and_eq_true, decide_eq_true_eq, Bool.not_eq_true'] at hc
    obtain ⟨n, hn⟩ : ∃ n, c.length = n + 1 := ⟨c.length - 1, by omega⟩
    have e : ((c.length : Int) - 1) = (n : Int) := by omega
    rw [e] at hc ⊢
    simp only [Int.toNat_natCast]
    exact ⟨⟨by omega, by omega, by omega⟩, ⟨trivial, by rw [List.length_take]; omega, by rw [cutL_step hn hc.2]; exact h3⟩, by rw [List.length_take]; omega⟩
  rw [cutL_stop (by
    rcases Nat.eq_zero_or_pos c.length with h0 | h0
    · exact .inl h0
    · right
      have : decide ((c.length : Int) > 0) = true := by simp; omega
      rw [this] at hc
      simpa using hc)] at h3
  unfold r14_Trim_j1
  refine Tot.loop (fun x => x.1 = c ∧ x.2.2 = s.2.2 ∧ x.2.1.length ≤ 1000 ∧ cutL usedT z_api_Ticket x.2.1 x.2.1.length = cutL usedT z_api_Ticket s.2.1 s.2.1.length) (fun x => x.2.1.length) (fun x hx => ?_) ⟨rfl, rfl, by show s.2.1.length ≤ 1000; omega, rfl⟩
  obtain ⟨c', t, r⟩ := x
  obtain ⟨g0, g1, g2, g3⟩ := hx
  simp only at g0 g1 g2 g3
  subst g0 g1
  have hz : IntKind.i64.wrap ((t.length : Int) - 1) = (t.length : Int) - 1 := w64 (by omega) (by omega)
  simp only [r14_Trim_b3, hz, sl0, cond_some, Tot.cond_iff, Tot.ass_iff, Tot.bnd_iff, Tot.some_iff, Tot.map_iff, Tot.bind_iff, Nx.inl_iff, Nx.inr_iff, decide_eq_true_eq, decide_eq_false_iff_not]
  refine ⟨fun hc => by omega, fun hc => ?_, fun hc => ?_⟩
  · simp only [Bool.and_eq_true, decide_eq_true_eq, Bool.not_eq_true'] at hc
    obtain ⟨n, hn⟩ : ∃ n, t.length = n + 1 := ⟨t.length - 1, by omega⟩
    have e : ((t.length : Int) - 1) = (n : Int) := by omega
    rw [e] at hc ⊢
    simp only [Int.toNat_natCast]
    exact ⟨⟨by omega, by omega, by omega⟩, ⟨trivial, trivial, by rw [List.length_take]; omega, by rw [cutL_step hn hc.2]; exact g3⟩, by rw [List.length_take]; omega⟩
  rw [cutL_stop (by
    rcases Nat.eq_zero_or_pos t.length with h0 | h0
    · exact .inl h0
    · right
      have : decide ((t.length : Int) > 0) = true := by simp; omega
      rw [this] at hc
      simpa using hc)] at g3
  unfold r14_Trim_j2
  refine Tot.loop (fun x => x.1 = c' ∧ x.2.1 = t ∧ x.2.2.2 = s.2.2.2 ∧ x.2.2.1.length ≤ 1000 ∧ cutL usedH z_api_Thread x.2.2.1 x.2.2.1.length = cutL usedH z_api_Thread s.2.2.1 s.2.2.1.length) (fun x => x.2.2.1.length) (fun x hx => ?_) ⟨rfl, rfl, rfl, by show s.2.2.1.length ≤ 1000; omega, rfl⟩
  obtain ⟨c'', t', h, r⟩ := x
  obtain ⟨f0, f0', f1, f2, f3⟩ := hx
  simp only at f0 f0' f1 f2 f3
  subst f0 f0' f1
  have hz : IntKind.i64.wrap ((h.length : Int) - 1) = (h.length : Int) - 1 := w64 (by omega) (by omega)
  simp only [r14_Trim_b2, hz, sl0, cond_some, Tot.cond_iff, Tot.ass_iff, Tot.bnd_iff, Tot.some_iff, Tot.map_iff, Tot.bind_iff, Nx.inl_iff, Nx.inr_iff, decide_eq_true_eq, decide_eq_false_iff_not]
  refine ⟨fun hc => by omega, fun hc => ?_, fun hc => ?_⟩
  · simp only [Bool.and_eq_true, decide_eq_true_eq, beq_iff_eq] at hc
    obtain ⟨n, hn⟩ : ∃ n, h.length = n + 1 := ⟨h.length - 1, by omega⟩
    have e : ((h.length : Int) - 1) = (n : Int) := by omega
    rw [e] at hc ⊢
    simp only [Int.toNat_natCast]
    exact ⟨⟨by omega, by omega, by omega⟩, ⟨trivial, trivial, trivial, by rw [List.length_take]; omega, by rw [cutL_step hn (by simpa [usedH] using hc.2)]; exact f3⟩, by rw [List.length_take]; omega⟩
  rw [cutL_stop (by
    rcases Nat.eq_zero_or_pos h.length with h0 | h0
    · exact .inl h0
    · right
      have : decide ((h.length : Int) > 0) = true := by simp; omega
      rw [this] at hc
      simpa [usedH] using hc)] at f3
  unfold r14_Trim_j3
  refine Tot.loop (fun x => x.1 = c'' ∧ x.2.1 = t' ∧ x.2.2.1 = h ∧ x.2.2.2.2 = s.2.2.2.2 ∧ x.2.2.2.1.length ≤ 1000 ∧ cutL usedL z_api_Lock x.2.2.2.1 x.2.2.2.1.length = cutL usedL z_api_Lock s.2.2.2.1 s.2.2.2.1.length) (fun x => x.2.2.2.1.length) (fun x hx => ?_) ⟨rfl, rfl, rfl, rfl, by show s.2.2.2.1.length ≤ 1000; omega, rfl⟩
  obtain ⟨c3, t3, h3', k, r⟩ := x
  obtain ⟨e0, e0', e0'', e1, e2, e3⟩ := hx
  simp only at e0 e0' e0'' e1 e2 e3
  subst e0 e0' e0'' e1
  have hz : IntKind.i64.wrap ((k.length : Int) - 1) = (k.length : Int) - 1 := w64 (by omega) (by omega)
  simp only [r14_Trim_b1, r14_Trim_j4, hz, sl0, cond_some, Tot.cond_iff, Tot.ass_iff, Tot.bnd_iff, Tot.some_iff, Tot.map_iff, Tot.bind_iff, Nx.inl_iff, Nx.inr_iff, decide_eq_true_eq, decide_eq_false_iff_not]
  refine ⟨fun hc => by omega, fun hc => ?_, fun hc => ?_⟩
  · simp only [Bool.and_eq_true, decide_eq_true_eq, Bool.not_eq_true'] at hc
    obtain ⟨n, hn⟩ : ∃ n, k.length = n + 1 := ⟨k.length - 1, by omega⟩
    have e : ((k.length : Int) - 1) = (n : Int) := by omega
    rw [e] at hc ⊢
    simp only [Int.toNat_natCast]
    exact ⟨⟨by omega, by omega, by omega⟩, ⟨trivial, trivial, trivial, trivial, by rw [List.length_take]; omega, by rw [cutL_step hn hc.2]; exact e3⟩, by rw [List.length_take]; omega⟩
  rw [cutL_stop (by
    rcases Nat.eq_zero_or_pos k.length with h0 | h0
    · exact .inl h0
    · right
      have : decide ((k.length : Int) > 0) = true := by simp; omega
      rw [this] at hc
      simpa using hc)] at e3
  unfold trimS
  rw [← h3, ← g3, ← f3, ← e3]

theorem state_New_eq (q : Int) : state_New q = some (if 1 ≤ q ∧ q ≤ 1000 then (([true], [], [], [], [], q), 0) else (([], [], [], [], [], 0), 1)) := by
  rw [← Tot.eq_iff]
  simp only [state_New, cond_some, Tot.cond_iff, Tot.ass_iff, Tot.bnd_iff, Tot.some_iff, Tot.map_iff, Tot.bind_iff, Nx.inl_iff, Nx.inr_iff, decide_eq_true_eq, decide_eq_false_iff_not]
  refine ⟨fun h => ?_, fun h => ?_⟩
  · rw [if_neg (by simp at h; omega)]
  · rw [if_pos (by simp at h; omega)]

theorem l14_arrows_tot (a b : List (Int × Int)) (ha : a.length ≤ 100000) : Tot (l14_arrows a b) (fun r => r = true ↔ a = b) := by
  simp only [l14_arrows, cond_some, Tot.cond_iff, Tot.ass_iff, Tot.bnd_iff, Tot.some_iff, Tot.map_iff, Tot.bind_iff, Nx.inl_iff, Nx.inr_iff, decide_eq_true_eq, decide_eq_false_iff_not]
  refine ⟨fun h => ?_, fun h => ?_⟩
  · simp only [Bool.and_eq_true, Bool.or_eq_true, Bool.not_eq_true', Bool.and_eq_false_iff, Bool.or_eq_false_iff, Bool.not_eq_false', beq_iff_eq, bne_iff_ne, beq_eq_false_iff_ne, bne_eq_false_iff_eq, decide_eq_true_eq, decide_eq_false_iff_not] at h
    simp only [Bool.false_eq_true, false_iff]
    intro hc; rw [hc] at h; exact h rfl
  · simp only [Bool.and_eq_true, Bool.or_eq_true, Bool.not_eq_true', Bool.and_eq_false_iff, Bool.or_eq_false_iff, Bool.not_eq_false', beq_iff_eq, bne_iff_ne, beq_eq_false_iff_ne, bne_eq_false_iff_eq, decide_eq_true_eq, decide_eq_false_iff_not] at h
    refine Tot.loop (fun x => 0 ≤ x ∧ x ≤ (a.length : Int) ∧ ∀ k : Int, 0 ≤ k → k < x → rd z_dag_Arrow a k = rd z_dag_Arrow b k) (fun x => ((a.length : Int) - x).toNat) (fun x hx => ?_) ⟨by omega, by omega, fun k _ _ => by omega⟩
    obtain ⟨h0, h1, h2⟩ := hx
    have hw1 : IntKind.i64.wrap (x + 1) = x + 1 := w64 (by omega) (by omega)
    have hz : (z_r13_Arrow : Int × Int) = z_dag_Arrow := rfl
    simp only [l14_arrows_b1, l14_arrows_j1, hw1, hz, cond_some, Tot.cond_iff, Tot.ass_iff, Tot.bnd_iff, Tot.some_iff, Tot.map_iff, Tot.bind_iff, Nx.inl_iff, Nx.inr_iff, decide_eq_true_eq, decide_eq_false_iff_not]
    refine ⟨fun hlt => ⟨⟨h0, hlt⟩, ⟨h0, by omega⟩, fun _ => ⟨h0, hlt⟩, fun _ => ⟨h0, by omega⟩, fun he => ?_, fun he => ⟨⟨by omega, by omega, fun k c d => ?_⟩, by omega⟩⟩, fun hge => ?_⟩
    · simp only [Bool.false_eq_true, false_iff]
      intro hc; rw [hc] at he; simp at he
    · simp only [Bool.and_eq_true, Bool.or_eq_true, Bool.not_eq_true', Bool.and_eq_false_iff, Bool.or_eq_false_iff, Bool.not_eq_false', beq_iff_eq, bne_iff_ne, beq_eq_false_iff_ne, bne_eq_false_iff_eq, decide_eq_true_eq, decide_eq_false_iff_not] at he
      by_cases hkx : k = x
      · rw [hkx]; exact Prod.ext he.1 he.2
      · exact h2 k c (by omega)
    · simp only [true_iff]
      exact rd_ext (by omega) fun k c d => h2 k c (by omega)
end Go.Tom
