/- Chains: who waits for whom. -/
import Derived.Test.YtoalafcmlgjlpaaPD
import Derived.Test.YtoalafcmlgjlpaaPInts
set_option linter.unusedVariables false
set_option linter.unusedSimpArgs false
namespace Go.Tom
open Go

instance (s : D_api_State) (i : Int) : Decidable (ThrP s i) := by unfold ThrP; infer_instance
instance (s : D_api_State) (i : Int) : Decidable (LockP s i) := by unfold LockP; infer_instance
instance (s : D_api_State) (i : Int) : Decidable (CoinP s i) := by unfold CoinP; infer_instance

/-- A thread, and whether it is one. -/
def thrOf (s : D_api_State) (i : Int) : D_api_Thread × Bool := if ThrP s i then (rd z_api_Thread s.2.2.1 i, true) else ((0, 0, 0, 0, 0), false)
def lockOf (s : D_api_State) (i : Int) : D_api_Lock × Bool := if LockP s i then (rd z_api_Lock s.2.2.2.1 i, true) else ((false, 0), false)

theorem state_Thread_eq (s : D_api_State) (i : Int) : state_Thread s i = some (thrOf s i) := by
  rw [← Tot.eq_iff]
  simp only [state_Thread, state_get_api_Thread, state_threadUsed, thrOf, ThrP, cond_some, Tot.cond_iff, Tot.ass_iff, Tot.bnd_iff, Tot.some_iff, Tot.map_iff, Tot.bind_iff, Nx.inl_iff, Nx.inr_iff, decide_eq_true_eq, decide_eq_false_iff_not]
  grind
theorem state_Lock_eq (s : D_api_State) (i : Int) : state_Lock s i = some (lockOf s i) := by
  rw [← Tot.eq_iff]
  simp only [state_Lock, state_get_api_Lock, state_lockUsed, lockOf, LockP, cond_some, Tot.cond_iff, Tot.ass_iff, Tot.bnd_iff, Tot.some_iff, Tot.map_iff, Tot.bind_iff, Nx.inl_iff, Nx.inr_iff, decide_eq_true_eq, decide_eq_false_iff_not]
  grind

/-- For whom a thread waits. -/
def nxt (s : D_api_State) (i : Int) : Int :=
  if (thrOf s i).1.1 = 4 then (thrOf s i).1.2.1 else if (thrOf s i).1.1 = 6 then (lockOf s (thrOf s i).1.2.1).1.2 else -1

theorem chain_Next_eq (s : D_api_State) (i : Int) : chain_Next s i = some (nxt s i) := by
  rw [← Tot.eq_iff]
  simp only [chain_Next, state_Thread_eq, state_Lock_eq, nxt, cond_some, Tot.cond_iff, Tot.ass_iff, Tot.bnd_iff, Tot.some_iff, Tot.map_iff, Tot.bind_iff, Nx.inl_iff, Nx.inr_iff, decide_eq_true_eq, decide_eq_false_iff_not]
  grind

theorem nxt_none {s : D_api_State} {i : Int} (h : ¬ ThrP s i) : nxt s i = -1 := by simp [nxt, thrOf, h]

/-- Chains come to an end. -/
def Chn (s : D_api_State) : Prop := ∃ rank : Int → Nat, (∀ x, rank x ≤ 32) ∧ ∀ i, ThrP s i → nxt s i = -1 ∨ (ThrP s (nxt s i) ∧ rank (nxt s i) < rank i)

theorem mem_thrArrows {s : D_api_State} {x y : Int} : (x, y) ∈ thrArrows s ↔ ThrP s x ∧ (((rd z_api_Thread s.2.2.1 x).1 = 4 ∧ y = (rd z_api_Thread s.2.2.1 x).2.1) ∨ ((rd z_api_Thread s.2.2.1 x).1 = 6 ∧ y = (rd z_api_Lock s.2.2.2.1 (rd z_api_Thread s.2.2.1 x).2.1).2)) := by
  unfold thrArrows ThrP
  rw [mem_buildL]
  constructor
  · rintro ⟨k, h0, h1, hm⟩
    unfold thrArr at hm
    split at hm
    · simp only [List.mem_singleton, Prod.mk.injEq] at hm
      obtain ⟨rfl, rfl⟩ := hm
      exact ⟨⟨h0, h1, by omega⟩, by grind⟩
    · split at hm
      · simp only [List.mem_singleton, Prod.mk.injEq] at hm
        obtain ⟨rfl, rfl⟩ := hm
        exact ⟨⟨h0, h1, by omega⟩, by grind⟩
      · simp at hm
  · rintro ⟨⟨h0, h1, h2⟩, h⟩
    refine ⟨x, h0, h1, ?_⟩
    unfold thrArr
    rcases h with ⟨h, rfl⟩ | ⟨h, rfl⟩
    · rw [if_pos h]; simp
    · rw [if_neg (by omega), if_pos h]; simp

theorem FineP.nxt_thr {s : D_api_State} (h : FineP s) {i : Int} (hi : ThrP s i) : nxt s i = -1 ∨ ThrP s (nxt s i) := by
  unfold nxt
  simp only [thrOf, if_pos hi]
  obtain ⟨h0, h1, h2⟩ := hi
  split
  · rename_i h4; exact .inr (h.threads.calls i h0 h1 h4).2
  · split
    · rename_i h6
      have hl := h.threads.waits i h0 h1 h6
      have hlo := hl
      unfold lockOf
      rw [if_pos hl]
      obtain ⟨l0, l1, l2⟩ := hl
      have := h.locks.1 _ l0 l1
      unfold LockOk at this
      rw [if_pos l2] at this
      rcases this.1 with g | g
      · exact .inl g
      · exact .inr g
    · exact .inl rfl

theorem FineP.nxt_arr {s : D_api_State} (h : FineP s) {x y : Int} (hxy : (x, y) ∈ thrArrows s) : ThrP s x ∧ y = nxt s x := by
  obtain ⟨hx, hh⟩ := mem_thrArrows.1 hxy
  refine ⟨hx, ?_⟩
  unfold nxt
  simp only [thrOf, if_pos hx]
  rcases hh with ⟨h4, rfl⟩ | ⟨h6, rfl⟩
  · rw [if_pos h4]
  · rw [if_neg (by omega), if_pos h6]
    have hl := h.threads.waits x hx.1 hx.2.1 h6
    rw [lockOf, if_pos hl]

theorem FineP.arr_nxt {s : D_api_State} (h : FineP s) {x : Int} (hx : ThrP s x) (hn : nxt s x ≠ -1) : (x, nxt s x) ∈ thrArrows s := by
  rw [mem_thrArrows]
  refine ⟨hx, ?_⟩
  unfold nxt at hn ⊢
  simp only [thrOf, if_pos hx] at hn ⊢
  by_cases h4 : (rd z_api_Thread s.2.2.1 x).1 = 4
  · left; simp [h4]
  · by_cases h6 : (rd z_api_Thread s.2.2.1 x).1 = 6
    · right
      have hl := h.threads.waits x hx.1 hx.2.1 h6
      simp [h6, lockOf, hl]
    · simp [h4, h6] at hn

theorem FineP.rr {s : D_api_State} (h : FineP s) {x y : Int} : RR s.2.2.1.length (thrArrows s) x y ↔ ThrP s x ∧ ThrP s y ∧ y = nxt s x := by
  constructor
  · rintro ⟨h1, h2, h3, h4, h5⟩
    obtain ⟨k1, rfl⟩ := h.nxt_arr h1
    rcases h.nxt_thr k1 with k | k
    · omega
    · exact ⟨k1, k, rfl⟩
  · rintro ⟨h1, h2, rfl⟩
    exact ⟨h.arr_nxt h1 (by have := h2.1; omega), h1.1, h1.2.1, h2.1, h2.2.1⟩

theorem FineP.chn {s : D_api_State} (h : FineP s) : Chn s := by
  obtain ⟨rank, hr, hd⟩ := rank_of h.thrRing
  refine ⟨rank, fun x => ?_, fun i hi => ?_⟩
  · have := hr x
    have := h.threads.2.2.1
    simp only [Int.toNat_natCast] at *
    omega
  · rcases h.nxt_thr hi with k | k
    · exact .inl k
    · exact .inr ⟨k, hd _ _ (h.rr.2 ⟨hi, k, rfl⟩)⟩

/-- A chain. -/
def tailF (s : D_api_State) : Nat → Int → List Int
  | 0, _ => []
  | k + 1, i => if nxt s i = -1 then [i] else i :: tailF s k (nxt s i)
def tl (s : D_api_State) (i : Int) : List Int := if ThrP s i then tailF s 33 i else []

theorem tail_stable {s : D_api_State} {rank : Int → Nat} (hr : ∀ i, ThrP s i → nxt s i = -1 ∨ (ThrP s (nxt s i) ∧ rank (nxt s i) < rank i)) : ∀ (k m : Nat) (i : Int), ThrP s i → rank i < k → k ≤ m → tailF s k i = tailF s m i
  | 0, m, i, _, h, _ => by omega
  | k + 1, m, i, hi, h, hm => by
    obtain ⟨m, rfl⟩ : ∃ m', m = m' + 1 := ⟨m - 1, by omega⟩
    simp only [tailF]
    split
    · rfl
    · rcases hr i hi with hn | ⟨hn, hlt⟩
      · contradiction
      · rw [tail_stable hr k m _ hn (by omega) (by omega)]

theorem tl_eq {s : D_api_State} (h : Chn s) {i : Int} (hi : ThrP s i) : tl s i = if nxt s i = -1 then [i] else i :: tl s (nxt s i) := by
  obtain ⟨rank, hb, hr⟩ := h
  unfold tl
  rw [if_pos hi]
  have : tailF s 33 i = if nxt s i = -1 then [i] else i :: tailF s 32 (nxt s i) := rfl
  rw [this]
  split
  · rfl
  · rcases hr i hi with hn | ⟨hn, hlt⟩
    · contradiction
    · rw [if_pos hn, tail_stable hr 32 33 _ hn (by have := hb i; omega) (by omega)]

theorem tl_ind {s : D_api_State} (h : Chn s) {C : Int → Prop} (hC : ∀ i, ThrP s i → (nxt s i ≠ -1 → ThrP s (nxt s i) ∧ C (nxt s i)) → C i) {i : Int} (hi : ThrP s i) : C i := by
  obtain ⟨rank, hb, hr⟩ := h
  have key : ∀ n i, rank i < n → ThrP s i → C i := by
    intro n
    induction n with
    | zero => intro i h; omega
    | succ n ih =>
      intro i hlt hi
      refine hC i hi fun hn => ?_
      rcases hr i hi with hn' | ⟨hn', hlt'⟩
      · contradiction
      · exact ⟨hn', ih _ (by omega) hn'⟩
  exact key _ i (Nat.lt_succ_self _) hi

theorem tl_len {s : D_api_State} (h : Chn s) (i : Int) : (tl s i).length ≤ 33 := by
  unfold tl
  split
  · have : ∀ k i, (tailF s k i).length ≤ k := by
      intro k
      induction k with
      | zero => intro i; simp [tailF]
      | succ k ih => intro i; simp only [tailF]; split
                     · simp
                     · have := ih (nxt s i); simp; omega
    exact this 33 i
  · simp

theorem chain_Tail_eq {s : D_api_State} (h : Chn s) (i : Int) : chain_Tail s i = some (tl s i) := by
  rw [← Tot.eq_iff]
  simp only [chain_Tail, state_Thread_eq, cond_some, Tot.cond_iff, Tot.ass_iff, Tot.bnd_iff, Tot.some_iff, Tot.map_iff, Tot.bind_iff, Nx.inl_iff, Nx.inr_iff, decide_eq_true_eq, decide_eq_false_iff_not]
  by_cases hi : ThrP s i
  rotate_left
  · simp [thrOf, hi, tl]
  simp only [thrOf, if_pos hi, Bool.not_true, Bool.false_eq_true, false_implies, true_implies, true_and]
  have hne : ∀ {j}, ThrP s j → j ≠ -1 := fun hj => by have := hj.1; omega
  obtain ⟨rank, hb, hr⟩ := id h
  refine Tot.loop (fun x => (x.1 = -1 ∨ ThrP s x.1) ∧ x.2 ++ (if x.1 = -1 then [] else tl s x.1) = tl s i) (fun x => if x.1 = -1 then 0 else rank x.1 + 1) (fun x hx => ?_) ⟨.inr hi, by simp [hne hi]⟩
  obtain ⟨j, acc⟩ := x
  simp only at hx
  obtain ⟨h1, h2⟩ := hx
  have hlen := congrArg List.length h2
  have := tl_len h i
  rw [List.length_append] at hlen
  simp only [chain_Tail_b1, chain_Tail_j1, chain_Next_eq, cond_some, Tot.cond_iff, Tot.ass_iff, Tot.bnd_iff, Tot.some_iff, Tot.map_iff, Tot.bind_iff, Nx.inl_iff, Nx.inr_iff, decide_eq_true_eq, decide_eq_false_iff_not]
  refine ⟨fun hj => ?_, fun hj => ?_⟩
  · simp only [Bool.and_eq_true, Bool.or_eq_true, Bool.not_eq_true', Bool.and_eq_false_iff, Bool.or_eq_false_iff, Bool.not_eq_false', beq_iff_eq, bne_iff_ne, beq_eq_false_iff_ne, bne_eq_false_iff_eq, decide_eq_true_eq, decide_eq_false_iff_not] at hj
    have hjt : ThrP s j := by rcases h1 with h1 | h1; · contradiction
                              · exact h1
    have ht := tl_eq h hjt
    simp only [hj, if_false] at h2 hlen
    refine ⟨by simp only [List.length_singleton]; unfold limA; rw [ht] at hlen; split at hlen <;> simp at hlen <;> omega, ⟨?_, ?_⟩, ?_⟩
    · rcases hr j hjt with hn | ⟨hn, _⟩
      · exact .inl hn
      · exact .inr hn
    · rw [← h2, ht]
      split <;> simp
    · simp only [hj, if_false]
      rcases hr j hjt with hn | ⟨hn, hlt⟩
      · simp [hn]
      · simp only [hne hn, if_false]; omega
  · simp only [Bool.and_eq_true, Bool.or_eq_true, Bool.not_eq_true', Bool.and_eq_false_iff, Bool.or_eq_false_iff, Bool.not_eq_false', beq_iff_eq, bne_iff_ne, beq_eq_false_iff_ne, bne_eq_false_iff_eq, decide_eq_true_eq, decide_eq_false_iff_not] at hj
    subst hj
    simpa using h2

def endOf (l : List Int) : Int := if l.length = 0 then -1 else rd 0 l ((l.length : Int) - 1)

theorem end_bits {l : List Int} (h : l.length ≤ 1000) : IntKind.i64.wrap ((l.length : Int) - 1) = (l.length : Int) - 1 := w64 (by omega) (by omega)

theorem endOf_cons {a : Int} {l : List Int} (h : l ≠ []) : endOf (a :: l) = endOf l := by
  have hl : 0 < l.length := List.length_pos_iff.2 h
  unfold endOf
  rw [if_neg (by simp), if_neg (by omega), rd_eq l.length (by simp) (by simp), rd_eq (l.length - 1) (by omega) (by omega)]
  rw [List.getElem_cons]
  rw [dif_neg (by omega)]

theorem tl_ne {s : D_api_State} (h : Chn s) {i : Int} (hi : ThrP s i) : tl s i ≠ [] := by
  rw [tl_eq h hi]; split <;> simp

/-- The end: a thread, and it waits for nobody. -/
theorem end_thr {s : D_api_State} (h : Chn s) {i : Int} (hi : ThrP s i) : ThrP s (endOf (tl s i)) ∧ nxt s (endOf (tl s i)) = -1 := by
  refine tl_ind h (C := fun i => ThrP s (endOf (tl s i)) ∧ nxt s (endOf (tl s i)) = -1) (fun i hi ih => ?_) hi
  rw [tl_eq h hi]
  split
  · rename_i hn
    have : endOf [i] = i := by simp [endOf, rd]
    rw [this]; exact ⟨hi, hn⟩
  · rename_i hn
    obtain ⟨hn1, ih⟩ := ih hn
    rw [endOf_cons (tl_ne h hn1)]
    exact ih

theorem end_neg {s : D_api_State} {i : Int} (hi : ¬ ThrP s i) : endOf (tl s i) = -1 := by simp [tl, hi, endOf]

theorem mem_tl_thr {s : D_api_State} (h : Chn s) {i k : Int} (hk : i ∈ tl s k) : ThrP s k ∧ ThrP s i := by
  by_cases hkt : ThrP s k
  · refine ⟨hkt, ?_⟩
    revert hk
    refine tl_ind h (C := fun k => i ∈ tl s k → ThrP s i) (fun k hkt ih => ?_) hkt
    rw [tl_eq h hkt]
    split
    · intro hm; simp only [List.mem_singleton] at hm; subst hm; exact hkt
    · rename_i hn
      intro hm
      rcases List.mem_cons.1 hm with rfl | hm
      · exact hkt
      · exact (ih hn).2 hm
  · simp [tl, hkt] at hk

/-- Who is in the chain of another one has its end. -/
theorem end_same {s : D_api_State} (h : Chn s) {i k : Int} (hk : i ∈ tl s k) : endOf (tl s k) = endOf (tl s i) := by
  have hkt := (mem_tl_thr h hk).1
  revert hk
  refine tl_ind h (C := fun k => i ∈ tl s k → endOf (tl s k) = endOf (tl s i)) (fun k hkt ih => ?_) hkt
  rw [tl_eq h hkt]
  split
  · rename_i hn
    intro hm; simp only [List.mem_singleton] at hm; subst hm
    rw [tl_eq h hkt, if_pos hn]
  · rename_i hn
    intro hm
    obtain ⟨h1, h2⟩ := ih hn
    rcases List.mem_cons.1 hm with rfl | hm
    · rw [tl_eq h hkt, if_neg hn]
    · rw [endOf_cons (tl_ne h h1)]
      exact h2 hm

/-- Does a chain's end go on? -/
def livesB (s : D_api_State) (i : Int) : Bool := (thrOf s (endOf (tl s i))).1.1 == 2 || (thrOf s (endOf (tl s i))).1.1 == 3

theorem chain_Closes_eq {s : D_api_State} (h : Chn s) (i j : Int) : chain_Closes s i j = some (decide (i ∈ tl s j)) := by
  rw [← Tot.eq_iff]
  have := tl_len h j
  simp only [chain_Closes, chain_Tail_eq h, state_Thread_eq, cond_some, Tot.cond_iff, Tot.ass_iff, Tot.bnd_iff, Tot.some_iff, Tot.map_iff, Tot.bind_iff, Nx.inl_iff, Nx.inr_iff, decide_eq_true_eq, decide_eq_false_iff_not]
  by_cases hi : ThrP s i
  · simp only [thrOf, if_pos hi, cond_true, slices_Contains_int_eq _ _ (show (tl s j).length ≤ 100000 by omega), cond_some, Tot.cond_iff, Tot.ass_iff, Tot.bnd_iff, Tot.some_iff, Tot.map_iff, Tot.bind_iff, Nx.inl_iff, Nx.inr_iff, decide_eq_true_eq, decide_eq_false_iff_not, Bool.true_and]
    simp
  · have hn : i ∉ tl s j := fun hc => hi (mem_tl_thr h hc).2
    simp [thrOf, if_neg hi, hn, cond_some, Tot.cond_iff, Tot.ass_iff, Tot.bnd_iff, Tot.some_iff, Tot.map_iff, Tot.bind_iff, Nx.inl_iff, Nx.inr_iff, decide_eq_true_eq, decide_eq_false_iff_not]

end Go.Tom
