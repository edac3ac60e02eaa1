/- Rows: copies; what is cut off at the end. -/
import Derived.Test.YtoalafcmlgjlpaaPE0
set_option linter.unusedVariables false
set_option linter.unusedSimpArgs false
namespace Go.Tom
open Go

theorem beq_ticket (a b : D_api_Ticket) : Ty.beq T_api_Ticket a b = decide (a = b) := by
  obtain ⟨a1, a2, a3, a4, a5, a6⟩ := a
  obtain ⟨b1, b2, b3, b4, b5, b6⟩ := b
  rw [Bool.eq_iff_iff]
  simp [Ty.beq, Prod.ext_iff]

theorem beq_thread (a b : D_api_Thread) : Ty.beq T_api_Thread a b = decide (a = b) := by
  obtain ⟨a1, a2, a3, a4, a5⟩ := a
  obtain ⟨b1, b2, b3, b4, b5⟩ := b
  rw [Bool.eq_iff_iff]
  simp [Ty.beq, Prod.ext_iff]

theorem beq_lock (a b : D_api_Lock) : Ty.beq T_api_Lock a b = decide (a = b) := by
  obtain ⟨a1, a2⟩ := a
  obtain ⟨b1, b2⟩ := b
  rw [Bool.eq_iff_iff]
  simp [Ty.beq, Prod.ext_iff]

/-- Two rows of one length are the same if they are, one by one. -/
theorem rd_ext {α : Type} {z : α} {a b : List α} (hl : a.length = b.length) (h : ∀ k : Int, 0 ≤ k → k < (a.length : Int) → rd z a k = rd z b k) : a = b := by
  refine List.ext_getElem hl fun i h1 h2 => ?_
  have := h i (by omega) (by omega)
  rwa [rd_eq i rfl h1, rd_eq i rfl h2] at this

theorem slices_Clone_bool_bool_eq (a : List Bool) (ha : a.length ≤ 100000000) : slices_Clone_bool_bool a = some a := by
  rw [← Tot.eq_iff]
  simp only [slices_Clone_bool_bool, cond_some, Tot.cond_iff, Tot.ass_iff, Tot.bnd_iff, Tot.some_iff, Tot.map_iff, Tot.bind_iff, Nx.inl_iff, Nx.inr_iff, decide_eq_true_eq, decide_eq_false_iff_not]
  simp only [List.length_nil, List.nil_append, and_true]
  unfold limA; omega

theorem slices_Clone_api_Ticket_api_Ticket_eq (a : List D_api_Ticket) (ha : a.length ≤ 100000000) : slices_Clone_api_Ticket_api_Ticket a = some a := by
  rw [← Tot.eq_iff]
  simp only [slices_Clone_api_Ticket_api_Ticket, cond_some, Tot.cond_iff, Tot.ass_iff, Tot.bnd_iff, Tot.some_iff, Tot.map_iff, Tot.bind_iff, Nx.inl_iff, Nx.inr_iff, decide_eq_true_eq, decide_eq_false_iff_not]
  simp only [List.length_nil, List.nil_append, and_true]
  unfold limA; omega

theorem slices_Clone_api_Thread_api_Thread_eq (a : List D_api_Thread) (ha : a.length ≤ 100000000) : slices_Clone_api_Thread_api_Thread a = some a := by
  rw [← Tot.eq_iff]
  simp only [slices_Clone_api_Thread_api_Thread, cond_some, Tot.cond_iff, Tot.ass_iff, Tot.bnd_iff, Tot.some_iff, Tot.map_iff, Tot.bind_iff, Nx.inl_iff, Nx.inr_iff, decide_eq_true_eq, decide_eq_false_iff_not]
  simp only [List.length_nil, List.nil_append, and_true]
  unfold limA; omega

theorem slices_Clone_api_Lock_api_Lock_eq (a : List D_api_Lock) (ha : a.length ≤ 100000000) : slices_Clone_api_Lock_api_Lock a = some a := by
  rw [← Tot.eq_iff]
  simp only [slices_Clone_api_Lock_api_Lock, cond_some, Tot.cond_iff, Tot.ass_iff, Tot.bnd_iff, Tot.some_iff, Tot.map_iff, Tot.bind_iff, Nx.inl_iff, Nx.inr_iff, decide_eq_true_eq, decide_eq_false_iff_not]
  simp only [List.length_nil, List.nil_append, and_true]
  unfold limA; omega

theorem slices_Clone_int_int_eq (a : List Int) (ha : a.length ≤ 100000000) : slices_Clone_int_int a = some a := by
  rw [← Tot.eq_iff]
  simp only [slices_Clone_int_int, cond_some, Tot.cond_iff, Tot.ass_iff, Tot.bnd_iff, Tot.some_iff, Tot.map_iff, Tot.bind_iff, Nx.inl_iff, Nx.inr_iff, decide_eq_true_eq, decide_eq_false_iff_not]
  simp only [List.length_nil, List.nil_append, and_true]
  unfold limA; omega

/-- What is left if those at the end that are not used are cut off. -/
def cutL {α : Type} (used : α → Bool) (z : α) (l : List α) : Nat → List α
  | 0 => []
  | n + 1 => if used (rd z l (n : Int)) then l.take (n + 1) else cutL used z l n

theorem state_cut_bool_eq (l : List Bool) (p : Bool → Option Bool) (q : Bool → Bool) (hp : ∀ x, p x = some (q x)) (hl : l.length ≤ 1000000) : state_cut_bool l p = some (cutL q false l l.length) := by
  rw [← Tot.eq_iff]
  unfold state_cut_bool
  refine Tot.loop (fun x => 0 ≤ x ∧ x ≤ (l.length : Int) ∧ cutL q false l x.toNat = cutL q false l l.length) (fun x => x.toNat) (fun x hx => ?_) ⟨by omega, by omega, by simp⟩
  obtain ⟨h0, h1, h2⟩ := hx
  obtain ⟨n, rfl⟩ := Int.eq_ofNat_of_zero_le h0
  have hw : IntKind.i64.wrap ((n : Int) - 1) = (n : Int) - 1 := w64 (by omega) (by omega)
  have hcl : slices_Clone_bool_bool (sl l 0 (n : Int)) = some (sl l 0 (n : Int)) := slices_Clone_bool_bool_eq _ (by simp [sl]; omega)
  simp only [Int.toNat_natCast] at h2
  simp only [state_cut_bool_b1, state_cut_bool_j1, hw, hcl, hp, Option.bind_some, cond_some, Tot.cond_iff, Tot.ass_iff, Tot.bnd_iff, Tot.some_iff, Tot.map_iff, Tot.bind_iff, Nx.inl_iff, Nx.inr_iff, decide_eq_true_eq, decide_eq_false_iff_not]
  cases n with
  | zero =>
    refine ⟨fun hc => absurd hc (by simp), ⟨fun hc => absurd hc (by simp), fun _ => ⟨by omega, ?_⟩⟩⟩
    rw [← h2]
    simp [sl, cutL]
  | succ n =>
    have e : ((n + 1 : Nat) : Int) - 1 = (n : Int) := by omega
    have hd : decide (((n + 1 : Nat) : Int) > 0) = true := by simp
    simp only [hd, e, cond_true, Tot.some_iff, Bool.true_and]
    refine ⟨fun _ => by omega, fun hc => ⟨⟨by omega, by omega, ?_⟩, by omega⟩, fun hc => ⟨by omega, ?_⟩⟩
    · have hq : q (rd false l (n : Int)) = false := by simpa using hc
      rw [← h2]
      simp [cutL, hq]
    · have hq : q (rd false l (n : Int)) = true := by simpa using hc
      rw [← h2]
      simp [cutL, hq, sl]

theorem state_cut_api_Ticket_eq (l : List D_api_Ticket) (p : D_api_Ticket → Option Bool) (q : D_api_Ticket → Bool) (hp : ∀ x, p x = some (q x)) (hl : l.length ≤ 1000000) : state_cut_api_Ticket l p = some (cutL q z_api_Ticket l l.length) := by
  rw [← Tot.eq_iff]
  unfold state_cut_api_Ticket
  refine Tot.loop (fun x => 0 ≤ x ∧ x ≤ (l.length : Int) ∧ cutL q z_api_Ticket l x.toNat = cutL q z_api_Ticket l l.length) (fun x => x.toNat) (fun x hx => ?_) ⟨by omega, by omega, by simp⟩
  obtain ⟨h0, h1, h2⟩ := hx
  obtain ⟨n, rfl⟩ := Int.eq_ofNat_of_zero_le h0
  have hw : IntKind.i64.wrap ((n : Int) - 1) = (n : Int) - 1 := w64 (by omega) (by omega)
  have hcl : slices_Clone_api_Ticket_api_Ticket (sl l 0 (n : Int)) = some (sl l 0 (n : Int)) := slices_Clone_api_Ticket_api_Ticket_eq _ (by simp [sl]; omega)
  simp only [Int.toNat_natCast] at h2
  simp only [state_cut_api_Ticket_b1, state_cut_api_Ticket_j1, hw, hcl, hp, Option.bind_some, cond_some, Tot.cond_iff, Tot.ass_iff, Tot.bnd_iff, Tot.some_iff, Tot.map_iff, Tot.bind_iff, Nx.inl_iff, Nx.inr_iff, decide_eq_true_eq, decide_eq_false_iff_not]
  cases n with
  | zero =>
    refine ⟨fun hc => absurd hc (by simp), ⟨fun hc => absurd hc (by simp), fun _ => ⟨by omega, ?_⟩⟩⟩
    rw [← h2]
    simp [sl, cutL]
  | succ n =>
    have e : ((n + 1 : Nat) : Int) - 1 = (n : Int) := by omega
    have hd : decide (((n + 1 : Nat) : Int) > 0) = true := by simp
    simp only [hd, e, cond_true, Tot.some_iff, Bool.true_and]
    refine ⟨fun _ => by omega, fun hc => ⟨⟨by omega, by omega, ?_⟩, by omega⟩, fun hc => ⟨by omega, ?_⟩⟩
    · have hq : q (rd z_api_Ticket l (n : Int)) = false := by simpa using hc
      rw [← h2]
      simp [cutL, hq]
    · have hq : q (rd z_api_Ticket l (n : Int)) = true := by simpa using hc
      rw [← h2]
      simp [cutL, hq, sl]

theorem state_cut_api_Thread_eq (l : List D_api_Thread) (p : D_api_Thread → Option Bool) (q : D_api_Thread → Bool) (hp : ∀ x, p x = some (q x)) (hl : l.length ≤ 1000000) : state_cut_api_Thread l p = some (cutL q z_api_Thread l l.length) := by
  rw [← Tot.eq_iff]
  unfold state_cut_api_Thread
  refine Tot.loop (fun x => 0 ≤ x ∧ x ≤ (l.length : Int) ∧ cutL q z_api_Thread l x.toNat = cutL q z_api_Thread l l.length) (fun x => x.toNat) (fun x hx => ?_) ⟨by omega, by omega, by simp⟩
  obtain ⟨h0, h1, h2⟩ := hx
  obtain ⟨n, rfl⟩ := Int.eq_ofNat_of_zero_le h0
  have hw : IntKind.i64.wrap ((n : Int) - 1) = (n : Int) - 1 := w64 (by omega) (by omega)
  have hcl : slices_Clone_api_Thread_api_Thread (sl l 0 (n : Int)) = some (sl l 0 (n : Int)) := slices_Clone_api_Thread_api_Thread_eq _ (by simp [sl]; omega)
  simp only [Int.toNat_natCast] at h2
  simp only [state_cut_api_Thread_b1, state_cut_api_Thread_j1, hw, hcl, hp, Option.bind_some, cond_some, Tot.cond_iff, Tot.ass_iff, Tot.bnd_iff, Tot.some_iff, Tot.map_iff, Tot.bind_iff, Nx.inl_iff, Nx.inr_iff, decide_eq_true_eq, decide_eq_false_iff_not]
  cases n with
  | zero =>
    refine ⟨fun hc => absurd hc (by simp), ⟨fun hc => absurd hc (by simp), fun _ => ⟨by omega, ?_⟩⟩⟩
    rw [← h2]
    simp [sl, cutL]
  | succ n =>
    have e : ((n + 1 : Nat) : Int) - 1 = (n : Int) := by omega
    have hd : decide (((n + 1 : Nat) : Int) > 0) = true := by simp
    simp only [hd, e, cond_true, Tot.some_iff, Bool.true_and]
    refine ⟨fun _ => by omega, fun hc => ⟨⟨by omega, by omega, ?_⟩, by omega⟩, fun hc => ⟨by omega, ?_⟩⟩
    · have hq : q (rd z_api_Thread l (n : Int)) = false := by simpa using hc
      rw [← h2]
      simp [cutL, hq]
    · have hq : q (rd z_api_Thread l (n : Int)) = true := by simpa using hc
      rw [← h2]
      simp [cutL, hq, sl]

theorem state_cut_api_Lock_eq (l : List D_api_Lock) (p : D_api_Lock → Option Bool) (q : D_api_Lock → Bool) (hp : ∀ x, p x = some (q x)) (hl : l.length ≤ 1000000) : state_cut_api_Lock l p = some (cutL q z_api_Lock l l.length) := by
  rw [← Tot.eq_iff]
  unfold state_cut_api_Lock
  refine Tot.loop (fun x => 0 ≤ x ∧ x ≤ (l.length : Int) ∧ cutL q z_api_Lock l x.toNat = cutL q z_api_Lock l l.length) (fun x => x.toNat) (fun x hx => ?_) ⟨by omega, by omega, by simp⟩
  obtain ⟨h0, h1, h2⟩ := hx
  obtain ⟨n, rfl⟩ := Int.eq_ofNat_of_zero_le h0
  have hw : IntKind.i64.wrap ((n : Int) - 1) = (n : Int) - 1 := w64 (by omega) (by omega)
  have hcl : slices_Clone_api_Lock_api_Lock (sl l 0 (n : Int)) = some (sl l 0 (n : Int)) := slices_Clone_api_Lock_api_Lock_eq _ (by simp [sl]; omega)
  simp only [Int.toNat_natCast] at h2
  simp only [state_cut_api_Lock_b1, state_cut_api_Lock_j1, hw, hcl, hp, Option.bind_some, cond_some, Tot.cond_iff, Tot.ass_iff, Tot.bnd_iff, Tot.some_iff, Tot.map_iff, Tot.bind_iff, Nx.inl_iff, Nx.inr_iff, decide_eq_true_eq, decide_eq_false_iff_not]
  cases n with
  | zero =>
    refine ⟨fun hc => absurd hc (by simp), ⟨fun hc => absurd hc (by simp), fun _ => ⟨by omega, ?_⟩⟩⟩
    rw [← h2]
    simp [sl, cutL]
  | succ n =>
    have e : ((n + 1 : Nat) : Int) - 1 = (n : Int) := by omega
    have hd : decide (((n + 1 : Nat) : Int) > 0) = true := by simp
    simp only [hd, e, cond_true, Tot.some_iff, Bool.true_and]
    refine ⟨fun _ => by omega, fun hc => ⟨⟨by omega, by omega, ?_⟩, by omega⟩, fun hc => ⟨by omega, ?_⟩⟩
    · have hq : q (rd z_api_Lock l (n : Int)) = false := by simpa using hc
      rw [← h2]
      simp [cutL, hq]
    · have hq : q (rd z_api_Lock l (n : Int)) = true := by simpa using hc
      rw [← h2]
      simp [cutL, hq, sl]
end Go.Tom
