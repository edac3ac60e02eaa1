/- States: what is cut off. -/
import Derived.Test.YtoalafcmlgjlpaaQF0
set_option linter.unusedVariables false
set_option linter.unusedSimpArgs false
namespace Go.Tom
open Go

section

variable {α : Type} {used : α → Bool} {z : α}

theorem rd_take' {l : List α} {m : Nat} {k : Nat} (hk : k < m) : rd z (l.take m) (k : Int) = rd z l (k : Int) := by
  simp [rd, List.getD_eq_getElem?_getD, List.getElem?_take, hk]

theorem cutL_take {l : List α} {m : Nat} : ∀ {n : Nat}, n ≤ m → cutL used z (l.take m) n = cutL used z l n
  | 0, _ => rfl
  | n + 1, h => by
    simp only [cutL]
    rw [rd_take' (by omega), cutL_take (n := n) (by omega), List.take_take, Nat.min_eq_left h]

theorem cutL_step {l : List α} {n : Nat} (hn : l.length = n + 1) (hu : used (rd z l (n : Int)) = false) : cutL used z (l.take n) (l.take n).length = cutL used z l l.length := by
  have hl : (l.take n).length = n := by rw [List.length_take]; omega
  rw [hl, cutL_take (Nat.le_refl _), hn]
  simp [cutL, hu]

theorem cutL_stop {l : List α} (h : l.length = 0 ∨ used (rd z l ((l.length : Int) - 1)) = true) : cutL used z l l.length = l := by
  rcases h with h | h
  · rw [h, List.eq_nil_of_length_eq_zero h]; rfl
  · cases hl : l.length with
    | zero => rw [List.eq_nil_of_length_eq_zero hl]; rfl
    | succ n =>
      rw [hl] at h
      have e : ((n + 1 : Nat) : Int) - 1 = (n : Int) := by omega
      rw [e] at h
      simp only [cutL, h, if_true]
      rw [List.take_of_length_le (by omega)]

theorem cutL_len {l : List α} : ∀ {n : Nat}, (cutL used z l n).length ≤ n
  | 0 => by simp [cutL]
  | n + 1 => by
    simp only [cutL]
    split
    · rw [List.length_take]; omega
    · have := cutL_len (l := l) (n := n)
      omega

end

abbrev usedT (t : D_api_Ticket) : Bool := t.1

abbrev usedH (t : D_api_Thread) : Bool := t.1 != 0

abbrev usedL (t : D_api_Lock) : Bool := t.1

/-- A state without what is not used at the ends. -/
def trimS (s : D_api_State) : D_api_State := (cutL id false s.1 s.1.length, cutL usedT z_api_Ticket s.2.1 s.2.1.length, cutL usedH z_api_Thread s.2.2.1 s.2.2.1.length, cutL usedL z_api_Lock s.2.2.2.1 s.2.2.2.1.length, s.2.2.2.2)

theorem trim_small {s : D_api_State} (h : SmallP s) : SmallP (trimS s) := by
  obtain ⟨h1, h2, h3, h4, h5⟩ := h
  refine ⟨Nat.le_trans cutL_len h1, Nat.le_trans cutL_len h2, Nat.le_trans cutL_len h3, Nat.le_trans cutL_len h4, h5⟩

theorem state_Trim_eq {s : D_api_State} (h1 : s.1.length ≤ 1000) (h2 : s.2.1.length ≤ 1000) (h3 : s.2.2.1.length ≤ 1000) (h4 : s.2.2.2.1.length ≤ 1000) (h5 : s.2.2.2.2.1.length ≤ 1000) : state_Trim s = some (trimS s) := by
  rw [← Tot.eq_iff]
  simp only [state_Trim, state_cut_bool_eq s.1 (fun x => state_coinUsed x) id (fun x => rfl) (by omega), state_cut_api_Ticket_eq s.2.1 (fun x => state_ticketUsed x) usedT (fun x => rfl) (by omega),
    state_cut_api_Thread_eq s.2.2.1 (fun x => state_threadUsed x) usedH (fun x => rfl) (by omega), state_cut_api_Lock_eq s.2.2.2.1 (fun x => state_lockUsed x) usedL (fun x => rfl) (by omega), slices_Clone_int_int_eq s.2.2.2.2.1 (by omega), Option.bind_some, cond_some, Tot.cond_iff, Tot.ass_iff, Tot.bnd_iff, Tot.some_iff, Tot.map_iff, Tot.bind_iff, Nx.inl_iff, Nx.inr_iff, decide_eq_true_eq, decide_eq_false_iff_not]
  rfl

theorem sl0 {α : Type} {l : List α} {x : Int} : sl l 0 x = l.take x.toNat := by simp [sl]
end Go.Tom
