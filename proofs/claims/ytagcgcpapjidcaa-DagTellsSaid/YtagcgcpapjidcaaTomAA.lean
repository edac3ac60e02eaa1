/- A region whose order is left open. -/
import Derived.Test.YtagcgcpapjidcaaTomZ
set_option linter.unusedVariables false
set_option linter.unusedSimpArgs false
namespace Go.Tom
open Go

/-- What an operation waits for, as bits. -/
def closL : List Edge → List Nat → Nat
  | [], _ => 0
  | e :: r, bs => if Region.binds .any e then (2 ^ e.on ||| bs.getD e.on 0) ||| closL r bs else closL r bs

def closAll : List Oper → List Nat → List Nat
  | [], acc => acc
  | o :: r, acc => closAll r (acc ++ [closL o.after.toList acc])

theorem closL_bit {bs : List Nat} {j : Nat} : ∀ {l : List Edge}, (closL l bs).testBit j = true ↔ ∃ e ∈ l, Region.binds .any e = true ∧ (e.on = j ∨ (bs.getD e.on 0).testBit j = true)
  | [] => by simp [closL]
  | e :: l => by
    simp only [closL, List.mem_cons, exists_eq_or_imp]
    have ih := closL_bit (bs := bs) (j := j) (l := l)
    split
    · rename_i hb
      simp only [Nat.testBit_or, Bool.or_eq_true, Nat.testBit_two_pow, decide_eq_true_eq, ih, hb, true_and]
    · rename_i hb
      rw [ih]
      simp [hb]

theorem closAll_spec : ∀ {ops : List Oper} {acc : List Nat}, ∃ tl, closAll ops acc = acc ++ tl ∧ tl.length = ops.length ∧ ∀ i o, ops[i]? = some o → (closAll ops acc)[acc.length + i]? = some (closL o.after.toList ((closAll ops acc).take (acc.length + i)))
  | [], acc => ⟨[], by simp [closAll], rfl, fun i o h => by simp at h⟩
  | o :: ops, acc => by
    obtain ⟨tl, h1, h2, h3⟩ := closAll_spec (ops := ops) (acc := acc ++ [closL o.after.toList acc])
    refine ⟨closL o.after.toList acc :: tl, by simp only [closAll]; rw [h1]; simp, by simp [h2], fun i o' h => ?_⟩
    simp only [closAll]
    cases i with
    | zero =>
      simp only [List.getElem?_cons_zero, Option.some.injEq] at h
      subst h
      rw [h1]
      simp
    | succ i =>
      simp only [List.getElem?_cons_succ] at h
      have := h3 i o' h
      simp only [List.length_append, List.length_singleton] at this
      rwa [show acc.length + (i + 1) = acc.length + 1 + i from by omega]

theorem clos_at {ops : List Oper} {i : Nat} {o : Oper} (h : ops[i]? = some o) : (closAll ops []).getD i 0 = closL o.after.toList ((closAll ops []).take i) := by
  obtain ⟨tl, _, _, h3⟩ := closAll_spec (ops := ops) (acc := [])
  have := h3 i o h
  simp only [List.length_nil, Nat.zero_add] at this
  rw [List.getD_eq_getElem?_getD, this]
  rfl

theorem take_getD {l : List Nat} {i j : Nat} : (l.take i).getD j 0 = if j < i then l.getD j 0 else 0 := by
  simp only [List.getD_eq_getElem?_getD, List.getElem?_take]
  split <;> rfl

section
variable {ops : Array Oper}

/-- Done: closed under what is waited for. -/
def Down (ops : Array Oper) (L : Array Bool) : Prop := ∀ i o, ops[i]? = some o → L.getD i false = true → ∀ e ∈ o.after.toList, Region.binds .any e = true → L.getD e.on false = true

theorem ready_bits {L : Array Bool} (hd : Down ops L) : ∀ (i : Nat) {o : Oper}, ops[i]? = some o → (∀ e ∈ o.after.toList, Region.binds .any e = true → L.getD e.on false = true) → ∀ j, ((closAll ops.toList []).getD i 0).testBit j = true → L.getD j false = true := by
  intro i
  induction i using Nat.strongRecOn with
  | _ i ih =>
    intro o ho hr j hj
    rw [clos_at (by simpa using ho), closL_bit] at hj
    obtain ⟨e, he, hb, rfl | hj⟩ := hj
    · exact hr e he hb
    · rw [take_getD] at hj
      split at hj
      · rename_i hlt
        cases ho' : ops[e.on]? with
        | none =>
          exfalso
          have hsz : ops.size ≤ e.on := by simpa using ho'
          have : ops.size > i := (Array.getElem?_eq_some_iff.1 ho).1
          omega
        | some o' => exact ih e.on hlt ho' (hd e.on o' ho' (hr e he hb)) j hj
      · simp at hj

/-- Nothing waits for what comes behind it. -/
def Fwd (ops : Array Oper) : Prop := ∀ i o, ops[i]? = some o → (closAll ops.toList []).getD i 0 < 2 ^ i

theorem Fwd.bit (h : Fwd ops) {i : Nat} {o : Oper} (ho : ops[i]? = some o) {j : Nat} (hj : ((closAll ops.toList []).getD i 0).testBit j = true) : j < i := by
  rcases Nat.lt_or_ge j i with hlt | hge
  · exact hlt
  · rw [Nat.testBit_lt_two_pow (Nat.lt_of_lt_of_le (h i o ho) (Nat.pow_le_pow_right (by omega) hge))] at hj
    simp at hj

theorem Fwd.edge (h : Fwd ops) {i : Nat} {o : Oper} (ho : ops[i]? = some o) {e : Edge} (he : e ∈ o.after.toList) (hb : Region.binds .any e = true) : e.on < i ∧ ((closAll ops.toList []).getD i 0).testBit e.on = true := by
  have hbit : ((closAll ops.toList []).getD i 0).testBit e.on = true := by
    rw [clos_at (by simpa using ho), closL_bit]
    exact ⟨e, he, hb, .inl rfl⟩
  exact ⟨h.bit ho hbit, hbit⟩

theorem clos_trans (hf : Fwd ops) : ∀ (i : Nat) {o : Oper}, ops[i]? = some o → ∀ j l, ((closAll ops.toList []).getD i 0).testBit j = true → ((closAll ops.toList []).getD j 0).testBit l = true → ((closAll ops.toList []).getD i 0).testBit l = true := by
  intro i
  induction i using Nat.strongRecOn with
  | _ i ih =>
    intro o ho j l hj hl
    have hj0 := hj
    rw [clos_at (by simpa using ho), closL_bit] at hj ⊢
    obtain ⟨e, he, hb, rfl | hj⟩ := hj
    · exact ⟨e, he, hb, .inr (by rw [take_getD, if_pos (hf.bit ho hj0)]; exact hl)⟩
    · rw [take_getD] at hj
      split at hj
      · rename_i hlt
        refine ⟨e, he, hb, .inr ?_⟩
        rw [take_getD, if_pos hlt]
        cases ho' : ops[e.on]? with
        | none =>
          exfalso
          have hsz : ops.size ≤ e.on := by simpa using ho'
          have : ops.size > i := (Array.getElem?_eq_some_iff.1 ho).1
          omega
        | some o' => exact ih e.on hlt ho' j l hj hl
      · simp at hj

theorem mem_ready {L : Array Bool} {i : Nat} : i ∈ Region.ready .any ops L ↔ i < ops.size ∧ L.getD i true = false ∧ ∃ o, ops[i]? = some o ∧ ∀ e ∈ o.after.toList, Region.binds .any e = true → L.getD e.on false = true := by
  simp only [Region.ready, List.mem_filter, List.mem_range, Bool.and_eq_true, Bool.not_eq_true']
  refine and_congr_right fun hi => and_congr_right fun hl => ?_
  have ho : ops[i]? = some ops[i] := Array.getElem?_eq_getElem hi
  rw [ho]
  simp only [Option.map_some, Option.getD_some, Option.some.injEq, exists_eq_left']
  rw [← Array.all_toList, List.all_eq_true]
  refine forall_congr' fun e => forall_congr' fun he => ?_
  simp only [Bool.or_eq_true, Bool.not_eq_true']
  cases Region.binds .any e <;> simp

theorem getD_setB {L : Array Bool} {i j : Nat} {b d : Bool} (hi : i < L.size) : (L.setIfInBounds i b).getD j d = if j = i then b else L.getD j d := by
  by_cases h : j = i
  · subst h; simp [Array.getD, hi]
  · simp [h, Array.getD_eq_getD_getElem?, Array.getElem?_setIfInBounds, Ne.symm h]

theorem getD_tf {L : Array Bool} {i : Nat} (hi : i < L.size) : L.getD i true = L.getD i false := by
  simp [Array.getD, hi]

/-- IN WHATEVER ORDER: what each operation keeps, whichever may come next. -/
theorem any_of {P : Program} {Q : Exit → Act → World → Prop} {I : Array Bool → Act → World → Prop} (hf : Fwd ops)
    (hstep : ∀ L i a w, L.size = ops.size → Down ops L → i < ops.size → L.getD i false = false → (∀ j, ((closAll ops.toList []).getD i 0).testBit j = true → L.getD j false = true) → I L a w → wpOp P ops Q i (I (L.setIfInBounds i true)) a w)
    (hend : ∀ L a w, L.size = ops.size → (∀ i, i < ops.size → L.getD i false = true) → I L a w → Q .normal a w) :
    ∀ fuel L a w, L.size = ops.size → Down ops L → L.toList.count false ≤ fuel → I L a w → wpAny P .any ops Q fuel L a w := by
  have stuck : ∀ L a w, L.size = ops.size → I L a w → Region.ready .any ops L = [] → Q .normal a w := by
    intro L a w hs hI hr
    refine hend L a w hs (fun i => ?_) hI
    induction i using Nat.strongRecOn with
    | _ i ih =>
      intro hi
      cases hl : L.getD i false with
      | true => rfl
      | false =>
        exfalso
        have ho : ops[i]? = some ops[i] := Array.getElem?_eq_getElem hi
        have : i ∈ Region.ready .any ops L := mem_ready.2 ⟨hi, by rw [getD_tf (by omega)]; exact hl, _, ho, fun e he hb => by
          have := (hf.edge ho he hb).1
          exact ih e.on this (by omega)⟩
        rw [hr] at this
        cases this
  intro fuel
  induction fuel with
  | zero =>
    intro L a w hs hd hc hI
    have hall : Region.ready .any ops L = [] := by
      rw [List.eq_nil_iff_forall_not_mem]
      intro i hi
      obtain ⟨h1, h2, _⟩ := mem_ready.1 hi
      rw [getD_tf (by omega)] at h2
      have hmem : false ∈ L.toList := by
        have hlt : i < L.size := by omega
        have : L[i] = false := by simpa [Array.getD, hlt] using h2
        rw [← this]
        simp
      have := List.count_pos_iff.2 hmem
      omega
    exact ⟨hall, stuck L a w hs hI hall⟩
  | succ fuel ih =>
    intro L a w hs hd hc hI
    refine ⟨stuck L a w hs hI, fun i hi => ?_⟩
    obtain ⟨h1, h2, o, ho, h3⟩ := mem_ready.1 hi
    rw [getD_tf (by omega)] at h2
    have hlt : i < L.size := by omega
    refine wpOp_mono (fun a' w' hI' => ?_) (hstep L i a w hs hd h1 h2 (ready_bits hd i ho h3) hI)
    refine ih _ a' w' (by simpa using hs) (fun j o' ho' hj e he hb => ?_) ?_ hI'
    · rw [getD_setB hlt] at hj ⊢
      split
      · rfl
      · split at hj
        · rename_i hji
          subst hji
          rw [ho] at ho'
          obtain rfl := Option.some.inj ho'
          exact h3 e he hb
        · exact hd j o' ho' hj e he hb
    · have hli : L.toList[i]'(by simpa using hlt) = false := by
        have : L[i] = false := by simpa [Array.getD, hlt] using h2
        simpa using this
      rw [Array.toList_setIfInBounds]
      have hpos : 0 < L.toList.count false := List.count_pos_iff.2 (by rw [← hli]; exact List.getElem_mem _)
      have := List.count_set (a := true) (b := false) (l := L.toList) (i := i) (by simpa using hlt)
      have h1 : (if (L.toList[i]'(by simpa using hlt) == false) = true then 1 else 0) = 1 := by rw [hli]; rfl
      have h2 : (if (true == false) = true then 1 else 0) = 0 := rfl
      rw [h1, h2] at this
      omega
end
end Go.Tom
