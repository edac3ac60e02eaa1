/- What the contracts of the functions are proved by (part AQ). -/
import Derived.RangeFuncIn
import Derived.RangeFuncCalls
import Derived.LoopNIn
import Derived.OrdersIn
import Derived.TacticsIn
import Derived.WideShapes
import Derived.Deep.Slices
import Derived.RangeFuncRecord
import Derived.RangeFuncSeq
import Derived.RangeFuncLeaves
import Derived.SizedLaws
import Derived.Test.YtgenminnhfokkaaGreatTomZ
set_option linter.unusedVariables false
set_option linter.unusedSimpArgs false
namespace Go.Tom
open Go
def closL : List Edge → List Nat → Nat
 | [], _ => 0
 | e :: r, bs => if Region.binds .any e then (2 ^ e.on ||| bs.getD e.on 0) ||| closL r bs else closL r bs
def closAll : List Oper → List Nat → List Nat
 | [], acc => acc
 | o :: r, acc => closAll r (acc ++ [closL o.after.toList acc])
theorem closL_bit {bs : List Nat} {j : Nat} : ∀ {l : List Edge}, (closL l bs).testBit j = true ↔ ∃ e ∈ l, Region.binds .any e = true ∧ (e.on = j ∨ (bs.getD e.on 0).testBit j = true)
 | [] => by simp [closL]
 | e :: l => by
  simp only [closL, List.mem_cons, exists_eq_or_imp]
  have ih := closL_bit (bs := bs) (j := j) (l := l)
  split
  ·rename_i hb
   simp only [Nat.testBit_or, Bool.or_eq_true, Nat.testBit_two_pow, decide_eq_true_eq, ih, hb, true_and]
  ·rename_i hb
   rw [ih]
   simp [hb]
theorem closAll_spec : ∀ {ops : List Oper} {acc : List Nat}, ∃ tl, closAll ops acc = acc ++ tl ∧ tl.length = ops.length ∧ ∀ i o, ops[i]? = some o → (closAll ops acc)[acc.length + i]? = some (closL o.after.toList ((closAll ops acc).take (acc.length + i)))
 | [], acc => ⟨[], by simp [closAll], rfl, fun i o h => by simp at h⟩
 | o :: ops, acc => by
  obtain ⟨tl, h1, h2, h3⟩ := closAll_spec (ops := ops) (acc := acc ++ [closL o.after.toList acc])
  refine ⟨closL o.after.toList acc :: tl, by simp only [closAll]; rw [h1]; simp, by simp [h2], fun i o' h => ?_⟩
  simp only [closAll]
  cases i with
  | zero =>
   simp only [List.getElem?_cons_zero, Option.some.injEq] at h
   subst h
   rw [h1]
   simp
  | succ i =>
   simp only [List.getElem?_cons_succ] at h
   have := h3 i o' h
   simp only [List.length_append, List.length_singleton] at this
   rwa [show acc.length + (i + 1) = acc.length + 1 + i from by omega]
theorem clos_at {ops : List Oper} {i : Nat} {o : Oper} (h : ops[i]? = some o) : (closAll ops []).getD i 0 = closL o.after.toList ((closAll ops []).take i) := by
 obtain ⟨tl, _, _, h3⟩ := closAll_spec (ops := ops) (acc := [])
 have := h3 i o h
 simp only [List.length_nil, Nat.zero_add] at this
 rw [List.getD_eq_getElem?_getD, this]
 rfl
theorem take_getD {l : List Nat} {i j : Nat} : (l.take i).getD j 0 = if j < i then l.getD j 0 else 0 := by
 simp only [List.getD_eq_getElem?_getD, List.getElem?_take]
 split <;> rfl
section
variable {ops : Array Oper}
def Down (ops : Array Oper) (L : Array Bool) : Prop := ∀ i o, ops[i]? = some o → L.getD i false = true → ∀ e ∈ o.after.toList, Region.binds .any e = true → L.getD e.on false = true
theorem ready_bits {L : Array Bool} (hd : Down ops L) : ∀ (i : Nat) {o : Oper}, ops[i]? = some o → (∀ e ∈ o.after.toList, Region.binds .any e = true → L.getD e.on false = true) → ∀ j, ((closAll ops.toList []).getD i 0).testBit j = true → L.getD j false = true := by
 intro i
 induction i using Nat.strongRecOn with
 | _ i ih =>
  intro o ho hr j hj
  rw [clos_at (by simpa using ho), closL_bit] at hj
  obtain ⟨e, he, hb, rfl | hj⟩ := hj
  ·exact hr e he hb
  ·rw [take_getD] at hj
   split at hj
   ·rename_i hlt
    cases ho' : ops[e.on]? with
    | none =>
     exfalso
     have hsz : ops.size ≤ e.on := by simpa using ho'
     have : ops.size > i := (Array.getElem?_eq_some_iff.1 ho).1
     omega
    | some o' => exact ih e.on hlt ho' (hd e.on o' ho' (hr e he hb)) j hj
   ·simp at hj
def Fwd (ops : Array Oper) : Prop := ∀ i o, ops[i]? = some o → (closAll ops.toList []).getD i 0 < 2 ^ i
theorem Fwd.bit (h : Fwd ops) {i : Nat} {o : Oper} (ho : ops[i]? = some o) {j : Nat} (hj : ((closAll ops.toList []).getD i 0).testBit j = true) : j < i := by
 rcases Nat.lt_or_ge j i with hlt | hge
 ·exact hlt
 ·rw [Nat.testBit_lt_two_pow (Nat.lt_of_lt_of_le (h i o ho) (Nat.pow_le_pow_right (by omega) hge))] at hj
  simp at hj
theorem Fwd.edge (h : Fwd ops) {i : Nat} {o : Oper} (ho : ops[i]? = some o) {e : Edge} (he : e ∈ o.after.toList) (hb : Region.binds .any e = true) : e.on < i ∧ ((closAll ops.toList []).getD i 0).testBit e.on = true := by
 have hbit : ((closAll ops.toList []).getD i 0).testBit e.on = true := by
  rw [clos_at (by simpa using ho), closL_bit]
  exact ⟨e, he, hb, .inl rfl⟩
 exact ⟨h.bit ho hbit, hbit⟩
theorem clos_trans (hf : Fwd ops) : ∀ (i : Nat) {o : Oper}, ops[i]? = some o → ∀ j l, ((closAll ops.toList []).getD i 0).testBit j = true → ((closAll ops.toList []).getD j 0).testBit l = true → ((closAll ops.toList []).getD i 0).testBit l = true := by
 intro i
 induction i using Nat.strongRecOn with
 | _ i ih =>
  intro o ho j l hj hl
  have hj0 := hj
  rw [clos_at (by simpa using ho), closL_bit] at hj ⊢
  obtain ⟨e, he, hb, rfl | hj⟩ := hj
  ·exact ⟨e, he, hb, .inr (by rw [take_getD, if_pos (hf.bit ho hj0)]; exact hl)⟩
  ·rw [take_getD] at hj
   split at hj
   ·rename_i hlt
    refine ⟨e, he, hb, .inr ?_⟩
    rw [take_getD, if_pos hlt]
    cases ho' : ops[e.on]? with
    | none =>
     exfalso
     have hsz : ops.size ≤ e.on := by simpa using ho'
     have : ops.size > i := (Array.getElem?_eq_some_iff.1 ho).1
     omega
    | some o' => exact ih e.on hlt ho' j l hj hl
   ·simp at hj
theorem mem_ready {L : Array Bool} {i : Nat} : i ∈ Region.ready .any ops L ↔ i < ops.size ∧ L.getD i true = false ∧ ∃ o, ops[i]? = some o ∧ ∀ e ∈ o.after.toList, Region.binds .any e = true → L.getD e.on false = true := by
 simp only [Region.ready, List.mem_filter, List.mem_range, Bool.and_eq_true, Bool.not_eq_true']
 refine and_congr_right fun hi => and_congr_right fun hl => ?_
 have ho : ops[i]? = some ops[i] := Array.getElem?_eq_getElem hi
 rw [ho]
 simp only [Option.map_some, Option.getD_some, Option.some.injEq, exists_eq_left']
 rw [← Array.all_toList, List.all_eq_true]
 refine forall_congr' fun e => forall_congr' fun he => ?_
 simp only [Bool.or_eq_true, Bool.not_eq_true']
 cases Region.binds .any e <;> simp
theorem getD_setB {L : Array Bool} {i j : Nat} {b d : Bool} (hi : i < L.size) : (L.setIfInBounds i b).getD j d = if j = i then b else L.getD j d := by
 by_cases h : j = i
 ·subst h; simp [Array.getD, hi]
 ·simp [h, Array.getD_eq_getD_getElem?, Array.getElem?_setIfInBounds, Ne.symm h]
theorem getD_tf {L : Array Bool} {i : Nat} (hi : i < L.size) : L.getD i true = L.getD i false := by
 simp [Array.getD, hi]
theorem any_of {P : Program} {Q : Exit → Act → World → Prop} {I : Array Bool → Act → World → Prop} (hf : Fwd ops)
  (hstep : ∀ L i a w, L.size = ops.size → Down ops L → i < ops.size → L.getD i false = false → (∀ j, ((closAll ops.toList []).getD i 0).testBit j = true → L.getD j false = true) → I L a w → wpOp P ops Q i (I (L.setIfInBounds i true)) a w)
  (hend : ∀ L a w, L.size = ops.size → (∀ i, i < ops.size → L.getD i false = true) → I L a w → Q .normal a w) :
  ∀ fuel L a w, L.size = ops.size → Down ops L → L.toList.count false ≤ fuel → I L a w → wpAny P .any ops Q fuel L a w := by
 have stuck : ∀ L a w, L.size = ops.size → I L a w → Region.ready .any ops L = [] → Q .normal a w := by
  intro L a w hs hI hr
  refine hend L a w hs (fun i => ?_) hI
  induction i using Nat.strongRecOn with
  | _ i ih =>
   intro hi
   cases hl : L.getD i false with
   | true => rfl
   | false =>
    exfalso
    have ho : ops[i]? = some ops[i] := Array.getElem?_eq_getElem hi
    have : i ∈ Region.ready .any ops L := mem_ready.2 ⟨hi, by rw [getD_tf (by omega)]; exact hl, _, ho, fun e he hb => by
     have := (hf.edge ho he hb).1
     exact ih e.on this (by omega)⟩
    rw [hr] at this
    cases this
 intro fuel
 induction fuel with
 | zero =>
  intro L a w hs hd hc hI
  have hall : Region.ready .any ops L = [] := by
   rw [List.eq_nil_iff_forall_not_mem]
   intro i hi
   obtain ⟨h1, h2, _⟩ := mem_ready.1 hi
   rw [getD_tf (by omega)] at h2
   have hmem : false ∈ L.toList := by
    have hlt : i < L.size := by omega
    have : L[i] = false := by simpa [Array.getD, hlt] using h2
    rw [← this]
    simp
   have := List.count_pos_iff.2 hmem
   omega
  exact ⟨hall, stuck L a w hs hI hall⟩
 | succ fuel ih =>
  intro L a w hs hd hc hI
  refine ⟨stuck L a w hs hI, fun i hi => ?_⟩
  obtain ⟨h1, h2, o, ho, h3⟩ := mem_ready.1 hi
  rw [getD_tf (by omega)] at h2
  have hlt : i < L.size := by omega
  refine wpOp_mono (fun a' w' hI' => ?_) (hstep L i a w hs hd h1 h2 (ready_bits hd i ho h3) hI)
  refine ih _ a' w' (by simpa using hs) (fun j o' ho' hj e he hb => ?_) ?_ hI'
  ·rw [getD_setB hlt] at hj ⊢
   split
   ·rfl
   ·split at hj
    ·rename_i hji
     subst hji
     rw [ho] at ho'
     obtain rfl := Option.some.inj ho'
     exact h3 e he hb
    ·exact hd j o' ho' hj e he hb
  ·have hli : L.toList[i]'(by simpa using hlt) = false := by
    have : L[i] = false := by simpa [Array.getD, hlt] using h2
    simpa using this
   rw [Array.toList_setIfInBounds]
   have hpos : 0 < L.toList.count false := List.count_pos_iff.2 (by rw [← hli]; exact List.getElem_mem _)
   have := List.count_set (a := true) (b := false) (l := L.toList) (i := i) (by simpa using hlt)
   have h1 : (if (L.toList[i]'(by simpa using hlt) == false) = true then 1 else 0) = 1 := by rw [hli]; rfl
   have h2 : (if (true == false) = true then 1 else 0) = 0 := rfl
   rw [h1, h2] at this
   omega
end
end Go.Tom
set_option linter.unusedVariables false
set_option linter.unusedSimpArgs false
namespace Go.Tom
open Go
def memb (t : Nat) (l : List Nat) : Bool := l.any (Nat.beq t)
theorem memb_iff {t : Nat} {l : List Nat} : memb t l = true ↔ t ∈ l := any_beq
def hide (l : List Nat) (e : Nat → S) : Nat → S := fun t => if memb t l then .dead else e t
def notIn (b : Nat) : Nat → List Nat → List Nat
 | _, [] => []
 | i, d :: r => if b.testBit i then notIn b (i + 1) r else d :: notIn b (i + 1) r
theorem notIn_mem {b t : Nat} : ∀ {ds : List Nat} {i : Nat}, t ∈ notIn b i ds ↔ ∃ j, ds[j]? = some t ∧ b.testBit (i + j) = false
 | [], i => by simp [notIn]
 | d :: ds, i => by
  have ih := notIn_mem (b := b) (t := t) (ds := ds) (i := i + 1)
  have key : (∃ j, (d :: ds)[j]? = some t ∧ b.testBit (i + j) = false) ↔ (d = t ∧ b.testBit i = false) ∨ ∃ j, ds[j]? = some t ∧ b.testBit (i + 1 + j) = false := by
   constructor
   ·rintro ⟨j, h1, h2⟩
    cases j with
    | zero =>
     left
     simp only [List.getElem?_cons_zero, Option.some.injEq] at h1
     exact ⟨h1, h2⟩
    | succ j => right; exact ⟨j, by simpa using h1, by rw [show i + 1 + j = i + (j + 1) from by omega]; exact h2⟩
   ·rintro (⟨h1, h2⟩ | ⟨j, h1, h2⟩)
    ·exact ⟨0, by simp [h1], h2⟩
    ·exact ⟨j + 1, by simpa using h1, by rw [show i + (j + 1) = i + 1 + j from by omega]; exact h2⟩
  rw [key]
  simp only [notIn]
  split
  ·rename_i hb
   rw [ih]
   simp [hb]
  ·rename_i hb
   rw [List.mem_cons, ih]
   simp only [Bool.not_eq_true] at hb
   simp only [hb, and_true]
   exact or_congr_left ⟨fun h => h.symm, fun h => h.symm⟩
def evalAny (P : Program) (tys : Tys) (N : Nat) (ops : List Oper) (ds bs : List Nat) : Nat → List Oper → St → Option St
 | _, [], st => some st
 | i, o :: r, st => match isEff o, o.dst with
  | false, some d => match quiet P tys ops (hide (notIn (bs.getD i 0) 0 ds) st.E.at) st.G o st.sup with
   | some (s, l, sup, G) => if free ops N st.E G d s && (roots s).all (fun V => !(memb V (notIn (bs.getD i 0) 0 ds))) then evalAny P tys N ops ds bs (i + 1) r ⟨st.E.set d s, G, sup, st.obs ++ l⟩ else none
   | none => none
  | _, _ => none
def dstsOf : List Oper → Option (List Nat)
 | [] => some []
 | o :: r => match o.dst, dstsOf r with
  | some d, some l => some (d :: l)
  | _, _ => none
def prefLen : List Oper → Nat
 | [] => 0
 | o :: r => if isEff o then 0 else prefLen r + 1
def fwdOk : Nat → List Nat → Bool
 | _, [] => true
 | i, b :: r => Nat.blt b (2 ^ i) && fwdOk (i + 1) r
def tailOk (k : Nat) : Nat → List Nat → Bool
 | _, [] => true
 | i, b :: r => (Nat.blt i k || Nat.beq (b + 1) (2 ^ i)) && tailOk k (i + 1) r
def Env.clear (E : Env) (ds : List Nat) : Env := E.map fun q => (q.1, if memb q.1 ds then .dead else q.2)
def evalRegion (P : Program) (tys : Tys) (N : Nat) (ops : List Oper) (draw : Bool) (st : St) : Option St :=
 match draw with
 | false => evalOps P tys N ops ops ⟨st.E.drop, [], st.sup, st.obs⟩
 | true => match dstsOf (ops.take (prefLen ops)) with
  | none => none
  | some ds => if distinct ds && fwdOk 0 (closAll ops []) && tailOk (prefLen ops) 0 (closAll ops []) && !(st.E.drop.any fun q => (roots q.2).any fun V => memb V ds) then
    match evalAny P tys N ops ds (closAll ops []) 0 (ops.take (prefLen ops)) ⟨st.E.drop.clear ds, [], st.sup, st.obs⟩ with
    | some st1 => evalOps P tys N ops (ops.drop (prefLen ops)) st1
    | none => none
   else none
theorem Env.at_clear (E : Env) (ds : List Nat) (t : Nat) : (E.clear ds).at t = if memb t ds then .dead else E.at t := by
 induction E with
 | nil => simp [Env.clear, Env.at]
 | cons q E ih =>
  obtain ⟨k, s⟩ := q
  simp only [Env.clear, List.map_cons, Env.at]
  by_cases h : Nat.beq t k = true
  ·have hk := Nat.eq_of_beq_eq_true h
   subst hk
   simp only [Nat.beq_refl, if_true]
  ·simp only [h, Bool.false_eq_true, if_false]
   exact ih
theorem fwdOk_spec : ∀ {l : List Nat} {i : Nat}, fwdOk i l = true → ∀ j, j < l.length → l.getD j 0 < 2 ^ (i + j)
 | [], i, _, j, hj => by simp at hj
 | b :: l, i, h, j, hj => by
  simp only [fwdOk, Bool.and_eq_true] at h
  cases j with
  | zero =>
   have : b + 1 ≤ 2 ^ i := Nat.le_of_ble_eq_true h.1
   show b < 2 ^ i
   omega
  | succ j =>
   have := fwdOk_spec h.2 j (by simpa using hj)
   simp only [List.getD_cons_succ]
   rwa [show i + (j + 1) = i + 1 + j from by omega]
theorem tailOk_spec {k : Nat} : ∀ {l : List Nat} {i : Nat}, tailOk k i l = true → ∀ j, j < l.length → k ≤ i + j → l.getD j 0 = 2 ^ (i + j) - 1
 | [], i, _, j, hj, _ => by simp at hj
 | b :: l, i, h, j, hj, hk => by
  simp only [tailOk, Bool.and_eq_true, Bool.or_eq_true] at h
  cases j with
  | zero =>
   rcases h.1 with h1 | h1
   ·have : i < k := Nat.le_of_ble_eq_true h1
    simp only [Nat.add_zero] at hk
    omega
   ·have := Nat.eq_of_beq_eq_true h1
    simp only [List.getD_cons_zero, Nat.add_zero]
    omega
  | succ j =>
   have := tailOk_spec h.2 j (by simpa using hj) (by omega)
   simp only [List.getD_cons_succ]
   rwa [show i + (j + 1) = i + 1 + j from by omega]
theorem clos_len {ops : List Oper} : (closAll ops []).length = ops.length := by
 obtain ⟨tl, h1, h2, _⟩ := closAll_spec (ops := ops) (acc := [])
 rw [h1]
 simpa using h2
theorem dstsOf_spec : ∀ {ops : List Oper} {ds : List Nat}, dstsOf ops = some ds → ds.length = ops.length ∧ ∀ (i : Nat) (o : Oper), ops[i]? = some o → ∃ d, o.dst = some d ∧ ds[i]? = some d
 | [], ds, h => by simp only [dstsOf, Option.some.injEq] at h; subst h; exact ⟨rfl, fun i o h => by simp at h⟩
 | o :: ops, ds, h => by
  simp only [dstsOf] at h
  split at h
  ·rename_i d l hd hl
   simp only [Option.some.injEq] at h
   subst h
   obtain ⟨h1, h2⟩ := dstsOf_spec hl
   refine ⟨by simp [h1], fun i o' ho' => ?_⟩
   cases i with
   | zero => simp only [List.getElem?_cons_zero, Option.some.injEq] at ho'; subst ho'; exact ⟨d, hd, rfl⟩
   | succ i => exact h2 i o' (by simpa using ho')
  ·simp at h
theorem distinct_nodup : ∀ {l : List Nat}, distinct l = true → ∀ (i j t : Nat), l[i]? = some t → l[j]? = some t → i = j
 | [], _, i, j, t, h, _ => by simp at h
 | d :: l, h, i, j, t, h1, h2 => by
  simp only [distinct, Bool.and_eq_true, Bool.not_eq_true'] at h
  have hno : ∀ j, l[j]? ≠ some d := fun j hj => by
   have := any_beq.2 (List.mem_of_getElem? hj)
   rw [h.1] at this
   simp at this
  cases i with
  | zero =>
   simp only [List.getElem?_cons_zero, Option.some.injEq] at h1
   subst h1
   cases j with
   | zero => rfl
   | succ j => exact absurd (by simpa using h2) (hno j)
  | succ i =>
   cases j with
   | zero =>
    simp only [List.getElem?_cons_zero, Option.some.injEq] at h2
    subst h2
    exact absurd (by simpa using h1) (hno i)
   | succ j => rw [distinct_nodup h.2 i j t (by simpa using h1) (by simpa using h2)]
def FactAt (P : Program) (tys : Tys) (N : Nat) (ops : List Oper) (ds bs : List Nat) (Ek : Nat → S) (Gk : Gs) (obs : List Prop) (j : Nat) (o : Oper) : Prop :=
 ∃ d es G0 sup s l sup' G1, o.dst = some d ∧ quiet P tys ops (hide (notIn (bs.getD j 0) 0 ds) Ek) G0 o sup = some (s, l, sup', G1) ∧ (∀ t, hide (notIn (bs.getD j 0) 0 ds) Ek t = .dead ∨ hide (notIn (bs.getD j 0) 0 ds) Ek t = es t) ∧
  GOk ops es G0 ∧ Gle G1 Gk ∧ (∀ p ∈ l, p ∈ obs) ∧ Ek d = s ∧ InN N d ∧ ∀ V ∈ roots s, V ∉ notIn (bs.getD j 0) 0 ds
theorem evalAny_facts {P : Program} {tys : Tys} {N : Nat} {ops : List Oper} {ds bs : List Nat} (hdist : ∀ (i j t : Nat), ds[i]? = some t → ds[j]? = some t → i = j) : ∀ {rest : List Oper} {i : Nat} {st st' : St}, evalAny P tys N ops ds bs i rest st = some st' →
  (∀ (m : Nat) (o : Oper), rest[m]? = some o → ∃ d, o.dst = some d ∧ ds[i + m]? = some d) → (∀ m, m < rest.length → ∀ l, i + m ≤ l → (bs.getD (i + m) 0).testBit l = false) → ds.length = i + rest.length → GOk ops st.E.at st.G →
  GOk ops st'.E.at st'.G ∧ Gle st.G st'.G ∧ (∃ l, st'.obs = st.obs ++ l) ∧ (∀ t, (∀ m, i ≤ m → ds[m]? ≠ some t) → st'.E.at t = st.E.at t) ∧ ∀ (m : Nat) (o : Oper), rest[m]? = some o → FactAt P tys N ops ds bs st'.E.at st'.G st'.obs (i + m) o
 | [], i, st, st', h, _, _, _, hG => by
  simp only [evalAny, Option.some.injEq] at h
  subst h
  exact ⟨hG, fun _ _ h => h, ⟨[], by simp⟩, fun t _ => rfl, fun m o h => by simp at h⟩
 | o :: rest, i, st, st', h, hds, hfw, hlen, hG => by
  simp only [evalAny] at h
  split at h
  ·rename_i d heff hdst
   split at h
   ·rename_i s l sup G hq
    split at h
    ·rename_i hc
     simp only [Bool.and_eq_true] at hc
     obtain ⟨hfr, hrt⟩ := hc
     obtain ⟨f1, f2, f3, f4⟩ := free_spec hfr
     have hle0 : ∀ t, hide (notIn (bs.getD i 0) 0 ds) st.E.at t = .dead ∨ hide (notIn (bs.getD i 0) 0 ds) st.E.at t = st.E.at t := fun t => by
      unfold hide; split
      ·exact .inl rfl
      ·exact .inr rfl
     have hG1 := quiet_GOk hle0 hG hq f4
     obtain ⟨gg1, gg2⟩ := quiet_G hq
     obtain ⟨k1, k2, ⟨l2, k3⟩, k4, k5⟩ := evalAny_facts hdist (rest := rest) (i := i + 1) (st := ⟨st.E.set d s, G, sup, st.obs ++ l⟩) h
      (fun m o' ho' => by
       obtain ⟨d', h1, h2⟩ := hds (m + 1) o' (by simpa using ho')
       exact ⟨d', h1, by rw [show i + 1 + m = i + (m + 1) from by omega]; exact h2⟩)
      (fun m hm l hl => by
       have := hfw (m + 1) (by simpa using hm) l (by omega)
       rwa [show i + (m + 1) = i + 1 + m from by omega] at this)
      (by simp only [List.length_cons] at hlen; omega) hG1
     obtain ⟨d0, hd0, hdi⟩ := hds 0 o (by simp)
     rw [hdst] at hd0
     obtain rfl := Option.some.inj hd0
     simp only [Nat.add_zero] at hdi
     have hEd : st'.E.at d = s := by
      rw [k4 d fun m hm hc => by have := hdist _ _ _ hdi hc; omega, Env.at_set, if_pos rfl]
     have hsame : hide (notIn (bs.getD i 0) 0 ds) st.E.at = hide (notIn (bs.getD i 0) 0 ds) st'.E.at := by
      funext t
      unfold hide
      split
      ·rfl
      ·rename_i hm
       have hnot : ∀ m, i ≤ m → ds[m]? ≠ some t := fun m hm' hc => hm (memb_iff.2 (notIn_mem.2 ⟨m, hc, by
        rw [Nat.zero_add]
        have := hfw 0 (by simp) m (by simpa using hm')
        simpa using this⟩))
       have hne : t ≠ d := fun hc => hnot i (Nat.le_refl _) (hc ▸ hdi)
       rw [k4 t fun m hm' => hnot m (by omega), Env.at_set, if_neg hne]
     refine ⟨k1, fun g c hgc => k2 g c (gg1 g c hgc), ⟨l ++ l2, by rw [k3, List.append_assoc]⟩, fun t ht => ?_, fun m o' ho' => ?_⟩
     ·rw [k4 t fun m hm => ht m (by omega), Env.at_set, if_neg]
      intro hc
      exact ht i (Nat.le_refl _) (hc ▸ hdi)
     ·cases m with
      | zero =>
       simp only [List.getElem?_cons_zero, Option.some.injEq] at ho'
       subst ho'
       refine ⟨d, st.E.at, st.G, st.sup, s, l, sup, G, hdst, by rw [Nat.add_zero, ← hsame]; exact hq, fun t => ?_, hG, k2, fun p hp => ?_, hEd, f1, fun V hV hc => ?_⟩
       ·rw [Nat.add_zero, ← hsame]; exact hle0 t
       ·rw [k3]; exact List.mem_append_left _ (List.mem_append_right _ hp)
       ·have := List.all_eq_true.1 hrt V hV
        rw [Nat.add_zero] at hc
        rw [memb_iff.2 hc] at this
        simp at this
      | succ m =>
       have := k5 m o' (by simpa using ho')
       rwa [show i + 1 + m = i + (m + 1) from by omega] at this
    ·simp at h
   ·simp at h
  ·simp at h
end Go.Tom
set_option linter.unusedVariables false
set_option linter.unusedSimpArgs false
namespace Go.Tom
open Go
abbrev RF (l : Nat) : Fence := Fence.wide.inRound l
theorem rf_depth (l : Nat) : (RF l).depth.isSome = true → 1 ≤ 0 := by
 intro h
 simp [RF, Fence.wide] at h
def noDefer (o : Oper) : Prop := ∀ c, o.op ≠ .defer c
section
variable {P : Program} {l : Nat} {A : Array Oper} {Q : Exit → Act → World → Prop}
theorem upon_round {o : Oper} {a : Act} {K : Act → World → Prop} {r : Result Next} (h : o.upon P a K Q r) : o.uponIn (RF l) 0 P a K Q r := by
 cases r with
 | halt s w' => cases s <;> simp only [Oper.upon, Oper.uponIn] at h ⊢ <;> exact h
 | ok x w' =>
  cases x with
  | enter f args =>
   simp only [Oper.upon, Oper.uponIn] at h ⊢
   exact ⟨rf_depth l, CallsIn.inRound l ((callsIn_wide (n := 0 - 1)).2 h)⟩
  | row r args =>
   simp only [Oper.upon, Oper.uponIn] at h ⊢
   refine ⟨rf_depth l, fun c cs _ => ?_⟩
   obtain ⟨v, w1, hr, hs⟩ := h c cs
   exact ⟨v, w1, hr, stepsIn_wide.2 hs⟩
  | _ => simp only [Oper.upon, Oper.uponIn] at h ⊢ <;> exact h
theorem oper_round {o : Oper} (hd : noDefer o) {a : Act} {w : World} {K : Act → World → Prop} (h : o.wp P a w K Q) : o.wpIn (RF l) 0 P a w K Q := by
 refine ⟨fun _ _ => trivial, ?_⟩
 rw [show (RF l).round = some l from rfl, Oper.semAt_some l a.eval o hd]
 exact upon_round h
theorem wpOps_round (hd : ∀ (i : Nat) (o : Oper), A[i]? = some o → noDefer o) (hq : ¬ LetsOut Q) : ∀ {is : List Nat} {a : Act} {w : World}, wpOps P A Q is a w → wpOpsIn (RF l) 0 P A Q is a w := by
 intro is
 induction is with
 | nil => intro a w h; exact h
 | cons i is ih =>
  intro a w h
  simp only [wpOps, wpOpsIn] at h ⊢
  cases ho : A[i]? with
  | none => rw [ho] at h; simp only at h ⊢; exact ih h
  | some o =>
   rw [ho] at h
   simp only at h ⊢
   split
   ·rename_i hw
    rw [if_pos hw] at h
    rcases h with h | ⟨_, h⟩
    ·exact oper_round (hd i o ho) (Oper.wp_mono (fun a w hk => ih hk) h)
    ·exact absurd h hq
   ·rename_i hw
    rw [if_neg hw] at h
    exact ⟨fun _ _ => trivial, ih h⟩
theorem wpAny_round (hd : ∀ (i : Nat) (o : Oper), A[i]? = some o → noDefer o) (hq : ¬ LetsOut Q) : ∀ {fuel : Nat} {L : Array Bool} {a : Act} {w : World}, wpAny P .any A Q fuel L a w → wpAnyIn (RF l) 0 P .any A Q fuel L a w := by
 intro fuel
 induction fuel with
 | zero => intro L a w h; exact h
 | succ fuel ih =>
  intro L a w h
  refine ⟨h.1, fun i hi => ?_⟩
  have h2 := h.2 i hi
  unfold wpOp at h2
  unfold wpOpIn
  cases ho : A[i]? with
  | none => rw [ho] at h2; simp only at h2 ⊢; exact ih h2
  | some o =>
   rw [ho] at h2
   simp only at h2 ⊢
   split
   ·rename_i hw
    rw [if_pos hw] at h2
    rcases h2 with h2 | ⟨_, h2⟩
    ·exact oper_round (hd i o ho) (Oper.wp_mono (fun a w hk => ih hk) h2)
    ·exact absurd h2 hq
   ·rename_i hw
    rw [if_neg hw] at h2
    exact ⟨fun _ _ => trivial, ih h2⟩
def RegW (P : Program) (A : Array Oper) (draw : Bool) (Q : Exit → Act → World → Prop) (a : Act) (w : World) : Prop :=
 match draw with
 | false => wpOps P A Q (List.range A.size) a w
 | true => wpAny P .any A Q A.size (Array.replicate A.size false) a { w with drawn := w.drawn + 1 }
def cw (ro : Option Nat) (P : Program) (c : Code) (Q : Exit → Act → World → Prop) (a : Act) (w : World) : Prop :=
 match ro with
 | none => c.wp P Q a w
 | some l => ¬ LetsOut Q → c.wpIn (RF l) 0 P Q a w
variable {ro : Option Nat} {a : Act} {w : World}
theorem RegW.cw {id : Nat} {draw : Bool} (hm : P.follows .mixedOrders = true) (hd : ∀ (i : Nat) (o : Oper), A[i]? = some o → noDefer o) (h : RegW P A draw Q a w) : cw ro P (.region id A draw) Q a w := by
 cases ro with
 | none =>
  cases draw
  ·exact wp_region h
  ·exact wp_region_any hm h
 | some l =>
  intro hq
  cases draw
  ·exact wpIn_region (wpOps_round hd hq h)
  ·exact wpIn_region_any hm (wpAny_round hd hq h)
theorem cw_seq {x y : Code} (h : cw ro P x (Exit.then (fun a w => cw ro P y Q a w) Q) a w) : cw ro P (.seq x y) Q a w := by
 cases ro with
 | none => exact wp_seq h
 | some l =>
  intro hq
  refine wpIn_seq (wpIn_mono (h hq) fun e a w he => ?_)
  cases e <;> first
   | exact he hq
   | exact he
theorem cw_skip (h : Q .normal a w) : cw ro P .skip Q a w := by
 cases ro with
 | none => exact wp_skip h
 | some l => exact fun _ => wpIn_skip h
theorem cw_block {id : Nat} {c : Code} (h : cw ro P c (Exit.inBlock id Q) a w) : cw ro P (.block id c) Q a w := by
 cases ro with
 | none => exact wp_block h
 | some l => exact fun hq => wpIn_block (h hq)
theorem cw_exit {id : Nat} (h : Q (.exit id) a w) : cw ro P (.exit id) Q a w := by
 cases ro with
 | none => exact wp_exit h
 | some l => exact fun _ => wpIn_exit h
theorem cw_ret (h : Q .ret a w) : cw ro P .ret Q a w := by
 cases ro with
 | none => exact wp_ret h
 | some l => exact fun _ => wpIn_ret h
theorem cw_cond {c : Operand} {x y : Code} {t : Bool} (hc : a.eval c = .bool t) (hx : t = true → cw ro P x Q a w) (hy : t = false → cw ro P y Q a w) : cw ro P (.cond c x y) Q a w := by
 cases ro with
 | none => exact wp_cond_split hc hx hy
 | some l => exact fun hq => wpIn_cond_split hc (fun ht => hx ht hq) fun ht => hy ht hq
def cwRounds (ro : Option Nat) (P : Program) (c : Code) (Q : Exit → Act → World → Prop) : Nat → Act → World → Prop
 | 0, _, _ => False
 | n + 1, a, w => cw ro P c (Exit.then (cwRounds ro P c Q n) Q) a w
theorem cw_loop {c : Code} (n : Nat) (h : cwRounds ro P c Q n a w) : cw ro P (.loop c) Q a w := by
 cases ro with
 | none =>
  have key : ∀ n a w, cwRounds none P c Q n a w → Code.rounds P c Q n a w := by
   intro n
   induction n with
   | zero => intro a w h; exact h.elim
   | succ n ih =>
    intro a w h
    rw [rounds_succ]
    refine wp_mono h fun e a w he => ?_
    cases e <;> first
     | exact ih _ _ he
     | exact he
  exact wp_loop_rounds n (key n a w h)
 | some l =>
  intro hq
  have key : ∀ n a w, cwRounds (some l) P c Q n a w → Code.roundsIn (RF l) 0 P c Q n a w := by
   intro n
   induction n with
   | zero => intro a w h; exact h.elim
   | succ n ih =>
    intro a w h
    rw [roundsIn_succ]
    refine wpIn_mono (h hq) fun e a w he => ?_
    cases e <;> first
     | exact ih _ _ he
     | exact he
  exact wpIn_loop_rounds n (key n a w h)
end
section
variable {P : Program} {N : Nat} {tys : Tys} {ops : List Oper}
theorem evalQ_plain {ok oka okb : List (Nat × Bool)} {e : Nat → S} {o : Oper} {sup : List Sup} {r : S × List Prop × List Sup} (h : evalQ P tys ok oka okb e o sup = some r) : noDefer o := by
 intro c hc
 unfold evalQ at h
 rw [hc] at h
 simp at h
theorem quiet_plainOp {e : Nat → S} {G : Gs} {o : Oper} {sup : List Sup} {r : S × List Prop × List Sup × Gs} (h : quiet P tys ops e G o sup = some r) : noDefer o := by
 unfold quiet at h
 split at h
 ·split at h
  ·rename_i hq; exact evalQ_plain hq
  ·simp at h
 ·split at h
  ·simp at h
  ·split at h
   ·rename_i hq; exact evalQ_plain hq
   ·simp at h
theorem stepO0_plain {o : Oper} {st st' : St} (h : stepO0 P tys N ops o st = some st') : noDefer o := by
 intro c hc
 unfold stepO0 at h
 have h1 : isOwn o st.sup = false := by unfold isOwn; rw [hc]
 have h2 : isEff o = false := by unfold isEff; rw [hc]
 rw [h1, h2] at h
 simp only at h
 split at h
 ·simp at h
 ·split at h
  ·rename_i hq; exact quiet_plainOp hq c hc
  ·simp at h
theorem stepO_plain {o : Oper} {st st' : St} (h : stepO P tys N ops o st = some st') : noDefer o := stepO0_plain (st := ⟨(fzs o.dst st.sup st.E).1, st.G, (fzs o.dst st.sup st.E).2, st.obs⟩) h
theorem evalOps_plain : ∀ {rest : List Oper} {st st' : St}, evalOps P tys N ops rest st = some st' → ∀ o ∈ rest, noDefer o
 | [], st, st', h, o, ho => by cases ho
 | x :: rest, st, st', h, o, ho => by
  simp only [evalOps] at h
  split at h
  ·rename_i st1 h1
   rcases List.mem_cons.1 ho with rfl | ho
   ·exact stepO_plain h1
   ·exact evalOps_plain h o ho
  ·simp at h
theorem evalAny_plain {ds bs : List Nat} : ∀ {rest : List Oper} {i : Nat} {st st' : St}, evalAny P tys N ops ds bs i rest st = some st' → ∀ o ∈ rest, noDefer o
 | [], i, st, st', h, o, ho => by cases ho
 | x :: rest, i, st, st', h, o, ho => by
  simp only [evalAny] at h
  split at h
  ·split at h
   ·rename_i hq
    split at h
    ·rcases List.mem_cons.1 ho with rfl | ho
     ·exact quiet_plainOp hq
     ·exact evalAny_plain h o ho
    ·simp at h
   ·simp at h
  ·simp at h
theorem evalRegion_plain {A : Array Oper} {draw : Bool} {st st' : St} (h : evalRegion P tys N A.toList draw st = some st') : ∀ (i : Nat) (o : Oper), A[i]? = some o → noDefer o := by
 intro i o ho
 have hm : o ∈ A.toList := by
  have := Array.mem_of_getElem? ho
  simpa using this
 unfold evalRegion at h
 split at h
 ·exact evalOps_plain h o hm
 ·split at h
  ·simp at h
  ·split at h
   ·split at h
    ·rename_i st1 h1
     rw [← List.take_append_drop (prefLen A.toList) A.toList] at hm
     rcases List.mem_append.1 hm with hm | hm
     ·exact evalAny_plain h1 o hm
     ·exact evalOps_plain h o hm
    ·simp at h
   ·simp at h
end
end Go.Tom
set_option linter.unusedVariables false
set_option linter.unusedSimpArgs false
namespace Go.Tom
open Go
section
variable {P : Program} {N : Nat} {w0 : Start} {F0 : Nat → Prop} {Gff : Nat × Bool → Bool}
theorem clos_none {ops : List Oper} {j : Nat} (h : ops.length ≤ j) : (closAll ops []).getD j 0 = 0 := by
 rw [List.getD_eq_getElem?_getD, List.getElem?_eq_none (by rw [clos_len]; exact h)]
 rfl
def pending (k : Nat) (ds : List Nat) (L : Array Bool) (t : Nat) : Bool := (List.range k).any fun i => (ds[i]? == some t) && !(L.getD i false)
theorem pending_iff {k : Nat} {ds : List Nat} {L : Array Bool} {t : Nat} : pending k ds L t = true ↔ ∃ i, i < k ∧ ds[i]? = some t ∧ L.getD i false = false := by
 simp only [pending, List.any_eq_true, List.mem_range, Bool.and_eq_true, beq_iff_eq, Bool.not_eq_true']
def ED (k : Nat) (ds : List Nat) (L : Array Bool) (Ek : Nat → S) : Nat → S := fun t => if pending k ds L t then .dead else Ek t
theorem Fr.clear {E : Env} {T : Array Value} {w : World} {F : Nat → Prop} {O : Nat → List Nat} {ds : List Nat} (h : Fr P N w0 F0 Gff E.at T w F O) (hr : ∀ t, ∀ V ∈ roots (E.at t), V ∉ ds) : ∃ O', Fr P N w0 F0 Gff (E.clear ds).at T w F O' := by
 refine ⟨fun t => if memb t ds then [] else O t, h.less (fun t => ?_) fun t => ?_⟩
 ·rw [Env.at_clear]
  split
  ·rfl
  ·refine (h.rep t).slot fun V hV => ⟨rfl, fun _ => ?_⟩
   rw [Env.at_clear, if_neg]
   intro hm
   exact hr t V hV (memb_iff.1 hm)
 ·split
  ·exact ⟨List.nodup_nil, fun b hb => by cases hb⟩
  ·exact ⟨h.nodup t, fun b hb => hb⟩
theorem Fr.clear' {E : Env} {T : Array Value} {w : World} {F : Nat → Prop} {O : Nat → List Nat} {ds : List Nat} (h : Fr P N w0 F0 Gff E.at T w F O) (hr : ∀ t, ∀ V ∈ roots (E.at t), V ∉ ds) : ∃ O', Fr P N w0 F0 Gff (E.clear ds).at T w F O' ∧ ∀ t, ∀ b ∈ O' t, b ∈ O t := by
 refine ⟨fun t => if memb t ds then [] else O t, h.less (fun t => ?_) (fun t => ?_), fun t b hb => ?_⟩
 ·rw [Env.at_clear]
  split
  ·rfl
  ·refine (h.rep t).slot fun V hV => ⟨rfl, fun _ => ?_⟩
   rw [Env.at_clear, if_neg]
   intro hm
   exact hr t V hV (memb_iff.1 hm)
 ·split
  ·exact ⟨List.nodup_nil, fun b hb => by cases hb⟩
  ·exact ⟨h.nodup t, fun b hb => hb⟩
 ·simp only at hb
  split at hb
  ·cases hb
  ·exact hb
theorem Fr.drew {e : Nat → S} {T : Array Value} {w : World} {F : Nat → Prop} {O : Nat → List Nat} (h : Fr P N w0 F0 Gff e T w F O) : Fr P N w0 F0 Gff e T { w with drawn := w.drawn + 1 } F O :=
 h.world (w1 := { w with drawn := w.drawn + 1 }) ⟨h.below.os, h.below.tape, h.below.output, h.below.size, h.below.block⟩ (Nat.le_refl _) (fun _ _ => rfl) (fun _ _ _ => rfl)
theorem Fr.hide {e e' : Nat → S} {T : Array Value} {w : World} {F : Nat → Prop} {O : Nat → List Nat} (h : Fr P N w0 F0 Gff e T w F O) (hle : ∀ t, e' t = .dead ∨ (e' t = e t ∧ ∀ V ∈ roots (e t), e' V = e V)) : ∃ O', Fr P N w0 F0 Gff e' T w F O' := by
 refine ⟨fun t => match e' t with | .dead => [] | _ => O t, h.less (fun t => ?_) fun t => ?_⟩
 ·rcases hle t with hz | ⟨hz, hv⟩
  ·rw [hz]; rfl
  ·have hrt : SRep P Gff w F T e' (T.getD t undef) (e t) (O t) := (h.rep t).slot fun V hV => ⟨rfl, fun _ => hv V hV⟩
   rw [hz]
   cases hs : e t <;> rw [hs] at hrt <;> try exact hrt
   exact rfl
 ·split
  ·exact ⟨List.nodup_nil, fun b hb => by cases hb⟩
  ·exact ⟨h.nodup t, fun b hb => hb⟩
theorem region_sound (hm : P.follows .mixedOrders = true) {tys : Tys} (ht : tys.ok P = true) {draw : Bool} {A : Array Oper} {st st' : St} (hev : evalRegion P tys N A.toList draw st = some st') (hobs : ∀ p ∈ st'.obs, p) {a : Act} {w : World} {F : Nat → Prop} {O : Nat → List Nat}
  (h : Fr P N w0 F0 Gff st.E.at a.tmps w F O) {dfs : List Deferred} (hdf : a.defers = dfs) {Q : Exit → Act → World → Prop} (hQ : ∀ a' w' F' O', a'.defers = dfs → Fr P N w0 F0 (Gf st'.G) st'.E.at a'.tmps w' F' O' → Q .normal a' w') : RegW P A draw Q a w := by
 unfold evalRegion at hev
 split at hev
 ·
  obtain ⟨O', hd⟩ := h.drop (Gf2 := Gf [])
  refine evalOps_sound ht (is := List.range A.size) (rest := A.toList) ?_ hev hobs (fun g c hgc => by simp [Gs.at] at hgc) hd hdf hQ
  apply List.ext_getElem
  ·simp
  ·intro i h1 h2
   simp at h1 h2 ⊢
 ·
  split at hev
  ·simp at hev
  rename_i ds hds
  split at hev
  rotate_left
  ·simp at hev
  rename_i hc
  simp only [Bool.and_eq_true, Bool.not_eq_true'] at hc
  obtain ⟨⟨⟨hdi, hfw⟩, htl⟩, hrt⟩ := hc
  split at hev
  rotate_left
  ·simp at hev
  rename_i st1 hany
  obtain ⟨k, hk⟩ : ∃ k, k = prefLen A.toList := ⟨_, rfl⟩
  rw [← hk] at hds htl hany hev
  have hdist := distinct_nodup hdi
  obtain ⟨hdl, hdd⟩ := dstsOf_spec hds
  have hkn : (A.toList.take k).length ≤ k := by simp; omega
  have hF : Fwd A := fun i o ho => by
   have hi : i < A.size := (Array.getElem?_eq_some_iff.1 ho).1
   have := fwdOk_spec hfw i (by rw [clos_len]; simpa using hi)
   simpa using this
  have hlater : ∀ m, m < (A.toList.take k).length → ∀ l, 0 + m ≤ l → ((closAll A.toList []).getD (0 + m) 0).testBit l = false := by
   intro m hml l hl
   have hi : m < A.size := by simp at hml; omega
   cases hb : ((closAll A.toList []).getD (0 + m) 0).testBit l with
   | false => rfl
   | true =>
    have := hF.bit (Array.getElem?_eq_getElem hi) (j := l) (by rwa [Nat.zero_add] at hb)
    omega
  have hpre : ∀ i o, i < k → A[i]? = some o → (A.toList.take k)[i]? = some o := by
   intro i o hi ho
   rw [List.getElem?_take_of_lt hi]
   simpa using ho
  obtain ⟨hG1, _, _, hoth, hfact⟩ := evalAny_facts hdist hany (fun m o ho => by rw [Nat.zero_add]; exact hdd m o ho) hlater (by rw [hdl]; simp) (fun g c hgc => by simp [Gs.at] at hgc)
  obtain ⟨l2, hobs2⟩ := evalOps_obs hev
  have hobs1 : ∀ p ∈ st1.obs, p := fun p hp => hobs p (by rw [hobs2]; exact List.mem_append_left _ hp)
  have hroot0 : ∀ t, ∀ V ∈ roots (st.E.drop.at t), V ∉ ds := by
   intro t V hV hVd
   have := Env.at_any (p := fun s => (roots s).any fun V => memb V ds) hrt rfl t
   have h2 : ((roots (st.E.drop.at t)).any fun V => memb V ds) = true := List.any_eq_true.2 ⟨V, hV, memb_iff.2 hVd⟩
   rw [h2] at this
   simp at this
  have hout : ∀ t, t ∉ ds → st1.E.at t = st.E.drop.at t := by
   intro t htd
   rw [hoth t fun m _ hc => htd (List.mem_of_getElem? hc), Env.at_clear, if_neg]
   intro hmm
   exact htd (memb_iff.1 hmm)
  obtain ⟨O1, hd1⟩ := h.drop (Gf2 := Gf st1.G)
  obtain ⟨O2, hd2⟩ := hd1.clear hroot0
  show wpAny P .any A Q A.size (Array.replicate A.size false) a { w with drawn := w.drawn + 1 }
  have hlt_ds : ∀ t j, ds[j]? = some t → j < k := fun t j hj => by
   have := (List.getElem?_eq_some_iff.1 hj).1
   omega
  have hkA : k ≤ A.size ∨ A.size ≤ k := by omega
  have hdn : ∀ j, j < ds.length ↔ j < k ∧ j < A.size := fun j => by rw [hdl]; simp; omega
  let I : Array Bool → Act → World → Prop := fun L a w => a.defers = dfs ∧
   (((∀ i, k ≤ i → L.getD i false = false) ∧ ∃ F O, Fr P N w0 F0 (Gf st1.G) (ED k ds L st1.E.at) a.tmps w F O) ∨
    (∃ m stm F O, k ≤ m ∧ m ≤ A.size ∧ (∀ i, i < A.size → (L.getD i false = true ↔ i < m)) ∧ evalOps P tys N A.toList (A.toList.drop m) stm = some st' ∧ GOk A.toList stm.E.at stm.G ∧ Fr P N w0 F0 (Gf stm.G) stm.E.at a.tmps w F O))
  have phase2 : ∀ (L : Array Bool) (a : Act) (w : World), I L a w → (∀ i, i < k → i < A.size → L.getD i false = true) → k ≤ A.size → a.defers = dfs ∧ ∃ m stm F O, k ≤ m ∧ m ≤ A.size ∧ (∀ i, i < A.size → (L.getD i false = true ↔ i < m)) ∧ evalOps P tys N A.toList (A.toList.drop m) stm = some st' ∧ GOk A.toList stm.E.at stm.G ∧ Fr P N w0 F0 (Gf stm.G) stm.E.at a.tmps w F O := by
   intro L a w hI hall hkA
   obtain ⟨hdf, ⟨hz, F, O, hfr⟩ | hI⟩ := hI
   ·refine ⟨hdf, k, st1, F, O, Nat.le_refl _, hkA, fun i hi => ⟨fun hl => ?_, fun hl => hall i hl hi⟩, hev, hG1, ?_⟩
    ·rcases Nat.lt_or_ge i k with hlt | hge
     ·exact hlt
     ·rw [hz i hge] at hl; simp at hl
    ·have he : ED k ds L st1.E.at = st1.E.at := by
      funext t
      unfold ED
      rw [if_neg]
      intro hp
      obtain ⟨i, hi, hdi', hLi⟩ := pending_iff.1 hp
      rw [hall i hi ((hdn i).1 (List.getElem?_eq_some_iff.1 hdi').1).2] at hLi
      simp at hLi
     rw [he] at hfr
     exact hfr
   ·exact ⟨hdf, hI⟩
  have hcount : (Array.replicate A.size false).toList.count false ≤ A.size := by simp
  refine any_of (I := I) hF ?_ ?_ A.size (Array.replicate A.size false) a _ (by simp) (fun i o ho hl => ?_) hcount ⟨hdf, .inl ⟨fun i _ => ?_, F, O2, ?_⟩⟩
  ·
   intro L i a w hsz hdown hi hLi hbits hI
   have ho : A[i]? = some A[i] := Array.getElem?_eq_getElem hi
   unfold wpOp
   rw [ho]
   simp only
   by_cases hik : i < k
   ·
    obtain ⟨hdf, hI⟩ := hI
    have hI1 : (∀ i, k ≤ i → L.getD i false = false) ∧ ∃ F O, Fr P N w0 F0 (Gf st1.G) (ED k ds L st1.E.at) a.tmps w F O := by
     rcases hI with hI | ⟨m, _, _, _, hkm, _, hLm, _⟩
     ·exact hI
     ·have := (hLm i hi).2 (by omega)
      rw [hLi] at this
      simp at this
    obtain ⟨hz, F, O, hfr⟩ := hI1
    have hoi := hpre i _ hik ho
    have hft := hfact i _ hoi
    rw [Nat.zero_add] at hft
    obtain ⟨d, es, G0, sup, s, l, sup', G1, hdst, hq, hle, hGes, hGle, hl, hEd, hdN, hrs⟩ := hft
    obtain ⟨d', hd', hdsi⟩ := hdd i _ hoi
    rw [hdst] at hd'
    obtain rfl := Option.some.inj hd'
    have hdone : ∀ j, L.getD j false = true → ∀ l, ((closAll A.toList []).getD j 0).testBit l = true → L.getD l false = true := by
     intro j hj l hl
     cases hoj : A[j]? with
     | none =>
      rw [clos_none (by simpa using hoj)] at hl
      simp at hl
     | some oj => exact ready_bits hdown j hoj (hdown j oj hoj hj) l hl
    have hvis : ∀ t, t ∉ notIn ((closAll A.toList []).getD i 0) 0 ds → ED k ds L st1.E.at t = st1.E.at t := by
     intro t htn
     unfold ED
     rw [if_neg]
     intro hp
     obtain ⟨j, hjk, hdj, hLj⟩ := pending_iff.1 hp
     refine htn (notIn_mem.2 ⟨j, hdj, ?_⟩)
     rw [Nat.zero_add]
     cases hb : ((closAll A.toList []).getD i 0).testBit j with
     | false => rfl
     | true => rw [hbits j hb] at hLj; simp at hLj
    have hroots : ∀ t, t ∉ notIn ((closAll A.toList []).getD i 0) 0 ds → ∀ V ∈ roots (st1.E.at t), V ∉ notIn ((closAll A.toList []).getD i 0) 0 ds := by
     intro t htn V hV hVn
     obtain ⟨lv, hlv, hbv⟩ := notIn_mem.1 hVn
     rw [Nat.zero_add] at hbv
     by_cases htd : t ∈ ds
     ·obtain ⟨j, hj, rfl⟩ := List.getElem_of_mem htd
      have hdj : ds[j]? = some ds[j] := List.getElem?_eq_getElem hj
      have hbj : ((closAll A.toList []).getD i 0).testBit j = true := by
       cases hb : ((closAll A.toList []).getD i 0).testBit j with
       | true => rfl
       | false => exact absurd (notIn_mem.2 ⟨j, hdj, by rw [Nat.zero_add]; exact hb⟩) htn
      have hjk : j < k := hlt_ds _ _ hdj
      have hjA : j < A.size := ((hdn j).1 hj).2
      have hoj : A[j]? = some A[j] := Array.getElem?_eq_getElem hjA
      have hoj' := hpre j _ hjk hoj
      have hfj := hfact j _ hoj'
      rw [Nat.zero_add] at hfj
      obtain ⟨dj, _, _, _, sj, _, _, _, hdstj, _, _, _, _, _, hEj, _, hrj⟩ := hfj
      obtain ⟨dj', hdj', hdsj⟩ := hdd j _ hoj'
      rw [hdstj] at hdj'
      obtain rfl := Option.some.inj hdj'
      rw [hdj] at hdsj
      obtain rfl := Option.some.inj hdsj
      rw [hEj] at hV
      refine hrj V hV (notIn_mem.2 ⟨lv, hlv, ?_⟩)
      rw [Nat.zero_add]
      cases hb : ((closAll A.toList []).getD j 0).testBit lv with
      | false => rfl
      | true => rw [clos_trans hF i ho j lv hbj hb] at hbv; simp at hbv
     ·rw [hout t htd] at hV
      exact hroot0 t V hV (List.mem_of_getElem? hlv)
    have hhide : ∀ t, t ∉ notIn ((closAll A.toList []).getD i 0) 0 ds → hide (notIn ((closAll A.toList []).getD i 0) 0 ds) st1.E.at t = ED k ds L st1.E.at t := by
     intro t htn
     rw [hvis t htn]
     unfold Tom.hide
     rw [if_neg]
     exact fun hmm => htn (memb_iff.1 hmm)
    obtain ⟨Oh, hfh⟩ := hfr.hide (e' := hide (notIn ((closAll A.toList []).getD i 0) 0 ds) st1.E.at) fun t => by
     by_cases htn : t ∈ notIn ((closAll A.toList []).getD i 0) 0 ds
     ·left
      unfold Tom.hide
      rw [if_pos (memb_iff.2 htn)]
     ·right
      refine ⟨hhide t htn, fun V hV => hhide V ?_⟩
      rw [hvis t htn] at hV
      exact hroots t htn V hV
    refine quiet_sound hfh ht hle hGes hq (fun g c hgc => by simp [Gf, hGle g c hgc]) (fun p hp => hobs1 p (hl p hp)) fun v w' F' On hout' hs => ?_
    have hs' : SRep P (Gf st1.G) w' F' a.tmps (ED k ds L st1.E.at) v s On := hs.slot fun V hV => ⟨rfl, fun _ => (hhide V (hrs V hV)).symm⟩
    have hself : d ∈ notIn ((closAll A.toList []).getD i 0) 0 ds := notIn_mem.2 ⟨i, hdsi, by
     rw [Nat.zero_add]
     cases hb : ((closAll A.toList []).getD i 0).testBit i with
     | false => rfl
     | true => have := hF.bit ho hb; omega⟩
    have hfree : ∀ t, d ∉ roots (ED k ds L st1.E.at t) := by
     intro t hdt
     unfold ED at hdt
     split at hdt
     ·simp [roots] at hdt
     ·rename_i hp
      by_cases htd : t ∈ ds
      ·obtain ⟨j, hj, rfl⟩ := List.getElem_of_mem htd
       have hdj : ds[j]? = some ds[j] := List.getElem?_eq_getElem hj
       have hjk : j < k := hlt_ds _ _ hdj
       have hjA : j < A.size := ((hdn j).1 hj).2
       have hLj : L.getD j false = true := by
        cases hb : L.getD j false with
        | true => rfl
        | false => exact absurd (pending_iff.2 ⟨j, hjk, hdj, hb⟩) hp
       have hoj : A[j]? = some A[j] := Array.getElem?_eq_getElem hjA
       have hoj' := hpre j _ hjk hoj
       have hfj := hfact j _ hoj'
       rw [Nat.zero_add] at hfj
       obtain ⟨dj, _, _, _, sj, _, _, _, hdstj, _, _, _, _, _, hEj, _, hrj⟩ := hfj
       obtain ⟨dj', hdj', hdsj⟩ := hdd j _ hoj'
       rw [hdstj] at hdj'
       obtain rfl := Option.some.inj hdj'
       rw [hdj] at hdsj
       obtain rfl := Option.some.inj hdsj
       rw [hEj] at hdt
       refine hrj d hdt (notIn_mem.2 ⟨i, hdsi, ?_⟩)
       rw [Nat.zero_add]
       cases hb : ((closAll A.toList []).getD j 0).testBit i with
       | false => rfl
       | true => rw [hdone j hLj i hb] at hLi; simp at hLi
      ·rw [hout t htd] at hdt
       exact hroot0 t d hdt (List.mem_of_getElem? hdsi)
    have hput := hfr.put hdN hfree hout' hs' (fun hc => hrs d hc hself)
    refine ⟨by rw [hdst]; exact hdf, .inl ⟨fun j hj => ?_, F', (fun t => if t = d then On else O t), ?_⟩⟩
    ·rw [getD_setB (by omega), if_neg (by omega)]
     exact hz j hj
    ·rw [hdst]
     have he : ED k ds (L.setIfInBounds i true) st1.E.at = fun t => if t = d then s else ED k ds L st1.E.at t := by
      funext t
      by_cases htd : t = d
      ·subst htd
       simp only [if_true]
       unfold ED
       rw [if_neg, hEd]
       intro hp
       obtain ⟨j, hjk, hdj, hLj⟩ := pending_iff.1 hp
       have := hdist _ _ _ hdsi hdj
       subst this
       rw [getD_setB (by omega), if_pos rfl] at hLj
       simp at hLj
      ·simp only [htd, if_false]
       unfold ED
       have hpp : pending k ds (L.setIfInBounds i true) t = pending k ds L t := by
        rw [Bool.eq_iff_iff, pending_iff, pending_iff]
        refine exists_congr fun j => and_congr_right fun hjk => and_congr_right fun hdj => ?_
        have hji : j ≠ i := fun hc => by
         subst hc
         rw [hdsi] at hdj
         exact htd (Option.some.inj hdj).symm
        rw [getD_setB (by omega), if_neg hji]
       rw [hpp]
     rw [he]
     exact hput
   ·
    have hbi : (closAll A.toList []).getD i 0 = 2 ^ i - 1 := by
     have := tailOk_spec htl i (by rw [clos_len]; simpa using hi) (by omega)
     simpa using this
    have hall : ∀ j, j < i → L.getD j false = true := fun j hj => hbits j (by rw [hbi, Nat.testBit_two_pow_sub_one]; simpa using hj)
    obtain ⟨hdf, m, stm, F, O, hkm, hmA, hLm, hevm, hGm, hfm⟩ := phase2 L a w hI (fun j hj _ => hall j (by omega)) (by omega)
    have him : i = m := by
     have h1 : ¬ i < m := fun hc => by rw [(hLm i hi).2 hc] at hLi; simp at hLi
     rcases Nat.lt_or_ge m i with hlt | hge
     ·have := (hLm m (by omega)).1 (hall m hlt)
      omega
     ·omega
    subst him
    have hdrop : A.toList.drop i = A[i] :: A.toList.drop (i + 1) := by
     rw [List.drop_eq_getElem_cons (by simpa using hi)]
     simp
    rw [hdrop] at hevm
    simp only [evalOps] at hevm
    split at hevm
    rotate_left
    ·simp at hevm
    rename_i stn hstn
    obtain ⟨l3, hl3⟩ := evalOps_obs hevm
    refine stepO_sound ht hstn (fun p hp => hobs p (by rw [hl3]; exact List.mem_append_left _ hp)) hGm hfm fun v w1 F1 O1 hGn hfn => ?_
    refine ⟨by cases A[i].dst <;> exact hdf, .inr ⟨i + 1, stn, F1, O1, by omega, by omega, fun j hj => ?_, hevm, hGn, hfn⟩⟩
    rw [getD_setB (by omega)]
    split
    ·rename_i hji; subst hji; simp
    ·rw [hLm j hj]; omega
  ·
   intro L a w hsz hall hI
   by_cases hkA' : k ≤ A.size
   ·obtain ⟨hdf, m, stm, F, O, hkm, hmA, hLm, hevm, hGm, hfm⟩ := phase2 L a w hI (fun j hj hj' => hall j hj') hkA'
    have hmA' : m = A.size := by
     rcases Nat.lt_or_ge m A.size with hlt | hge
     ·have := (hLm m hlt).1 (hall m hlt); omega
     ·omega
    subst hmA'
    rw [List.drop_eq_nil_of_le (by simp)] at hevm
    simp only [evalOps, Option.some.injEq] at hevm
    subst hevm
    exact hQ a w F O hdf hfm
   ·obtain ⟨hdf, ⟨hz, F, O, hfr⟩ | ⟨m, stm, F, O, hkm, hmA, _⟩⟩ := hI
    ·have he : ED k ds L st1.E.at = st1.E.at := by
      funext t
      unfold ED
      rw [if_neg]
      intro hp
      obtain ⟨i, hi, hdi', hLi⟩ := pending_iff.1 hp
      rw [hall i ((hdn i).1 (List.getElem?_eq_some_iff.1 hdi').1).2] at hLi
      simp at hLi
     rw [he] at hfr
     rw [List.drop_eq_nil_of_le (by simp; omega)] at hev
     simp only [evalOps, Option.some.injEq] at hev
     subst hev
     exact hQ a w F O hdf hfr
    ·omega
  ·
   exfalso
   simp only [Array.getD_eq_getD_getElem?, Array.getElem?_replicate] at hl
   split at hl <;> simp at hl
  ·simp only [Array.getD_eq_getD_getElem?, Array.getElem?_replicate]
   split <;> rfl
  ·have he : ED k ds (Array.replicate A.size false) st1.E.at = (st.E.drop.clear ds).at := by
    funext t
    unfold ED
    rw [Env.at_clear]
    by_cases htd : t ∈ ds
    ·obtain ⟨j, hj, rfl⟩ := List.getElem_of_mem htd
     rw [if_pos (pending_iff.2 ⟨j, hlt_ds _ _ (List.getElem?_eq_getElem hj), List.getElem?_eq_getElem hj, by
      simp only [Array.getD_eq_getD_getElem?, Array.getElem?_replicate]
      split <;> rfl⟩), if_pos (memb_iff.2 htd)]
    ·rw [if_neg, if_neg, hout t htd]
     ·exact fun hmm => htd (memb_iff.1 hmm)
     ·intro hp
      obtain ⟨j, _, hdj, _⟩ := pending_iff.1 hp
      exact htd (List.mem_of_getElem? hdj)
   rw [he]
   exact hd2.drew
end
end Go.Tom
set_option linter.unusedVariables false
set_option linter.unusedSimpArgs false
namespace Go.Tom
open Go
def Env.lows (E : Env) : List (Nat × Lv) → Env
 | [] => E
 |(t, n) :: l => Env.lows (E.low t n) l
def Env.keep (E : Env) (l : List (Nat × Lv)) : Option Env :=
 let E1 := E.lows l
 let E2 : Env := l.map fun q => (q.1, E1.at q.1)
 if E2.all fun q => (roots q.2).all fun V => memb V (l.map (·.1)) then some E2 else none
section
variable {P : Program} {N : Nat} {w0 : Start} {w : World} {F0 F : Nat → Prop} {Gff : Nat × Bool → Bool} {T : Array Value} {O : Nat → List Nat}
theorem Fr.lows {E : Env} (l : List (Nat × Lv)) : ∀ {E : Env} {F : Nat → Prop} {O : Nat → List Nat}, Fr P N w0 F0 Gff E.at T w F O → ∃ F' O', Fr P N w0 F0 Gff (E.lows l).at T w F' O' := by
 induction l with
 | nil => intro E F O h; exact ⟨F, O, h⟩
 | cons q l ih =>
  intro E F O h
  obtain ⟨t, n⟩ := q
  obtain ⟨F', O', h'⟩ := h.low t n
  exact ih h'
theorem Env.at_map {g : Nat → S} : ∀ {l : List (Nat × Lv)} {t : Nat}, Env.at (l.map fun q => (q.1, g q.1)) t = if memb t (l.map (·.1)) then g t else .dead
 | [], t => rfl
 |(k, n) :: l, t => by
  have ih := Env.at_map (g := g) (l := l) (t := t)
  simp only [List.map_cons, Env.at, memb, List.any_cons]
  by_cases h : Nat.beq t k = true
  ·have := Nat.eq_of_beq_eq_true h
   subst this
   simp [Nat.beq_refl]
  ·simp only [Bool.not_eq_true] at h
   simp only [h, Bool.false_eq_true, if_false, Bool.false_or]
   exact ih
theorem Fr.keep {E E' : Env} {l : List (Nat × Lv)} (h : Fr P N w0 F0 Gff E.at T w F O) (hk : E.keep l = some E') : ∃ F' O', Fr P N w0 F0 Gff E'.at T w F' O' := by
 unfold Env.keep at hk
 simp only at hk
 split at hk
 ·rename_i hc
  simp only [Option.some.injEq] at hk
  subst hk
  obtain ⟨F', O', h1⟩ := Fr.lows (E := E) l h
  obtain ⟨O2, h2⟩ := h1.hide (e' := Env.at (l.map fun q => (q.1, (E.lows l).at q.1))) fun t => by
   rw [Env.at_map]
   by_cases hm : memb t (l.map (·.1)) = true
   ·rw [if_pos hm]
    right
    refine ⟨rfl, fun V hV => ?_⟩
    rw [Env.at_map, if_pos]
    obtain ⟨q, hq, hqt⟩ := List.mem_map.1 (memb_iff.1 hm)
    have := List.all_eq_true.1 hc (q.1, (E.lows l).at q.1) (List.mem_map.2 ⟨q, hq, rfl⟩)
    refine List.all_eq_true.1 this V ?_
    simp only
    rw [hqt]
    exact hV
   ·rw [if_neg hm]; exact .inl rfl
  exact ⟨F', O2, h2⟩
 ·simp at hk
end
end Go.Tom
set_option linter.unusedVariables false
set_option linter.unusedSimpArgs false
namespace Go.Tom
open Go
inductive KI where
 | code (c : Code)
 | blk (id : Nat)
 | abs (K : Act → World → Prop)
def KQ (P : Program) (ro : Option Nat) : List KI → (Exit → Act → World → Prop) → Exit → Act → World → Prop
 | [], Q => Q
 | .code c :: k, Q => Exit.then (fun a w => cw ro P c (KQ P ro k Q) a w) (KQ P ro k Q)
 | .blk id :: k, Q => Exit.inBlock id (KQ P ro k Q)
 | .abs K :: k, Q => Exit.then K (KQ P ro k Q)
def Hold (P : Program) (N : Nat) (w0 : Start) (F0 : Nat → Prop) (E : Env) (a : Act) (w : World) : Prop :=
 a.defers = w0.dfs ∧ ∃ Gff F O, Fr P N w0 F0 Gff E.at a.tmps w F O
def W (P : Program) (N : Nat) (w0 : Start) (F0 : Nat → Prop) (Q : Exit → Act → World → Prop) (k : List KI) (E : Env) : Prop :=
 ∀ a w, Hold P N w0 F0 E a w → KQ P w0.round k Q .normal a w
def Leads {ρ : Type} (q : ρ → Prop) : Option ρ → Prop
 | none => False
 | some r => q r
theorem Leads.bind {α ρ : Type} {q : ρ → Prop} {o : Option α} {f : α → Option ρ} (h : Leads q (o.bind f)) : ∃ y, o = some y ∧ Leads q (f y) := by
 cases o with
 | none => exact h.elim
 | some y => exact ⟨y, rfl, h⟩
theorem Leads.ite {ρ : Type} {q : ρ → Prop} {c : Prop} [Decidable c] {x : Option ρ} (h : Leads q (if c then x else none)) : c ∧ Leads q x := by
 by_cases hc : c
 ·rw [if_pos hc] at h; exact ⟨hc, h⟩
 ·rw [if_neg hc] at h; exact h.elim
theorem Leads.tt {ρ : Type} {q : ρ → Prop} {c : Bool} {x y : Option ρ} (h : Leads q (bif c then x else y)) (hc : c = true) : Leads q x := by subst hc; exact h
theorem Leads.ff {ρ : Type} {q : ρ → Prop} {c : Bool} {x y : Option ρ} (h : Leads q (bif c then x else y)) (hc : c = false) : Leads q y := by subst hc; exact h
def iterM {σ ρ : Type} (step : σ → Option (σ ⊕ ρ)) : Nat → σ → Option ρ
 | 0, _ => none
 | n + 1, x => match step x with
  | none => none
  | some (.inl y) => iterM step n y
  | some (.inr r) => some r
theorem iterM_le {σ ρ : Type} {step : σ → Option (σ ⊕ ρ)} : ∀ {n m : Nat} {x : σ} {r : ρ}, iterM step n x = some r → n ≤ m → iterM step m x = some r
 | 0, m, x, r, h, _ => by simp [iterM] at h
 | n + 1, m, x, r, h, hm => by
  obtain ⟨m, rfl⟩ : ∃ m', m = m' + 1 := ⟨m - 1, by omega⟩
  simp only [iterM] at h ⊢
  split at h
  ·simp at h
  ·exact iterM_le h (by omega)
  ·exact h
open Classical in
noncomputable def loopM {σ ρ : Type} (step : σ → Option (σ ⊕ ρ)) (x : σ) : Option ρ :=
 if h : ∃ n r, iterM step n x = some r then some (Classical.choose (Classical.choose_spec h)) else none
theorem loopM_iff {σ ρ : Type} {step : σ → Option (σ ⊕ ρ)} {x : σ} {r : ρ} : loopM step x = some r ↔ ∃ n, iterM step n x = some r := by
 unfold loopM
 constructor
 ·intro h
  split at h
  ·rename_i hh
   have := Classical.choose_spec (Classical.choose_spec hh)
   simp only [Option.some.injEq] at h
   rw [h] at this
   exact ⟨_, this⟩
  ·simp at h
 ·rintro ⟨n, hn⟩
  have hh : ∃ n r, iterM step n x = some r := ⟨n, r, hn⟩
  rw [dif_pos hh]
  have := Classical.choose_spec (Classical.choose_spec hh)
  have h1 := iterM_le this (Nat.le_max_left _ n)
  have h2 := iterM_le hn (Nat.le_max_right (Classical.choose hh) n)
  rw [h1] at h2
  exact h2
theorem loopM_eq {σ ρ : Type} {step : σ → Option (σ ⊕ ρ)} {x : σ} : loopM step x = match step x with
  | none => none
  | some (.inl y) => loopM step y
  | some (.inr r) => some r := by
 apply Option.ext
 intro r
 rw [loopM_iff]
 cases hs : step x with
 | none =>
  simp only [reduceCtorEq, iff_false]
  rintro ⟨n, hn⟩
  cases n with
  | zero => simp [iterM] at hn
  | succ n => simp [iterM, hs] at hn
 | some o =>
  cases o with
  | inl y =>
   simp only
   rw [loopM_iff]
   constructor
   ·rintro ⟨n, hn⟩
    cases n with
    | zero => simp [iterM] at hn
    | succ n => exact ⟨n, by simpa [iterM, hs] using hn⟩
   ·rintro ⟨n, hn⟩
    exact ⟨n + 1, by simpa [iterM, hs] using hn⟩
  | inr r' =>
   simp only [Option.some.injEq]
   constructor
   ·rintro ⟨n, hn⟩
    cases n with
    | zero => simp [iterM] at hn
    | succ n => simpa [iterM, hs] using hn
   ·intro h
    exact ⟨1, by simp [iterM, hs, h]⟩
def exits (id : Nat) : List KI → Option (List KI)
 | [] => none
 | .blk i :: k => if Nat.beq i id then some k else exits id k
 | _ :: k => exits id k
section
variable {P : Program} {N : Nat} {w0 : Start} {F0 : Nat → Prop} {Q : Exit → Act → World → Prop} {k : List KI} {E : Env}
theorem KQ_exit {ro : Option Nat} {id : Nat} {a : Act} {w : World} : ∀ {k k' : List KI}, exits id k = some k' → KQ P ro k' Q .normal a w → KQ P ro k Q (.exit id) a w
 | [], k', h, _ => by simp [exits] at h
 | .blk i :: k, k', h, hq => by
  simp only [exits] at h
  by_cases hi : i = id
  ·subst hi
   simp only [Nat.beq_refl, if_true, Option.some.injEq] at h
   subst h
   simp only [KQ, Exit.inBlock, if_true]
   exact hq
  ·have hb : Nat.beq i id = false := by
    cases hb : Nat.beq i id
    ·rfl
    ·exact absurd (Nat.eq_of_beq_eq_true hb) hi
   rw [hb] at h
   simp only [Bool.false_eq_true, if_false] at h
   simp only [KQ, Exit.inBlock]
   rw [if_neg fun hc => hi hc.symm]
   exact KQ_exit h hq
 | .code c :: k, k', h, hq => by
  simp only [exits] at h
  exact KQ_exit (k := k) h hq
 | .abs K :: k, k', h, hq => by
  simp only [exits] at h
  exact KQ_exit (k := k) h hq
theorem KQ_ret {ro : Option Nat} {a : Act} {w : World} : ∀ {k : List KI}, Q .ret a w → KQ P ro k Q .ret a w
 | [], h => h
 | .blk i :: k, h => KQ_ret (k := k) h
 | .code c :: k, h => KQ_ret (k := k) h
 | .abs K :: k, h => KQ_ret (k := k) h
theorem W_seq {x y : Code} (h : W P N w0 F0 Q (.code x :: .code y :: k) E) : W P N w0 F0 Q (.code (.seq x y) :: k) E :=
 fun a w hh => cw_seq (h a w hh)
theorem W_skip (h : W P N w0 F0 Q k E) : W P N w0 F0 Q (.code .skip :: k) E := fun a w hh => cw_skip (h a w hh)
theorem W_block {id : Nat} {c : Code} (h : W P N w0 F0 Q (.code c :: .blk id :: k) E) : W P N w0 F0 Q (.code (.block id c) :: k) E := fun a w hh => cw_block (h a w hh)
theorem W_blk {id : Nat} (h : W P N w0 F0 Q k E) : W P N w0 F0 Q (.blk id :: k) E := fun a w hh => h a w hh
theorem W_abs {K : Act → World → Prop} (h : ∀ a w, Hold P N w0 F0 E a w → K a w) : W P N w0 F0 Q (.abs K :: k) E := fun a w hh => h a w hh
theorem W_exit {id : Nat} {k' : List KI} (hk : exits id k = some k') (h : W P N w0 F0 Q k' E) : W P N w0 F0 Q (.code (.exit id) :: k) E := fun a w hh => cw_exit (KQ_exit hk (h a w hh))
theorem W_cond {c : Operand} {x y : Code} {β : Bool} (hc : rdBool (opd [] E.at c) = some β) (hx : β = true → W P N w0 F0 Q (.code x :: k) E) (hy : β = false → W P N w0 F0 Q (.code y :: k) E) : W P N w0 F0 Q (.code (.cond c x y) :: k) E := by
 intro a w hh
 obtain ⟨hd, Gff, F, O, hf⟩ := hh
 have hv := rdBool_ok hf (opd_ok hf (ok := []) (fun g hg => by cases hg) c) hc
 exact cw_cond hv (fun ht => hx ht a w ⟨hd, Gff, F, O, hf⟩) (fun ht => hy ht a w ⟨hd, Gff, F, O, hf⟩)
theorem W_keep {E' : Env} {l : List (Nat × Lv)} (hk : E.keep l = some E') (h : W P N w0 F0 Q k E') : W P N w0 F0 Q k E := by
 intro a w hh
 obtain ⟨hd, Gff, F, O, hf⟩ := hh
 obtain ⟨F', O', hf'⟩ := hf.keep hk
 exact h a w ⟨hd, Gff, F', O', hf'⟩
def evalR (P : Program) (tys : Tys) (N : Nat) (A : Array Oper) (draw : Bool) (E : Env) (sup : List Sup) (l : List (Nat × Lv)) : Option (Env × List Prop) :=
 match evalRegion P tys N A.toList draw ⟨E, [], sup, []⟩ with
 | some st => match st.E.drop.keep l with
  | some E' => some (E', st.obs)
  | none => none
 | none => none
theorem W_region (hm : P.follows .mixedOrders = true) {tys : Tys} (ht : tys.ok P = true) {id : Nat} {draw : Bool} {A : Array Oper} {sup : List Sup} {l : List (Nat × Lv)} {E' : Env} {obs : List Prop} (hev : evalR P tys N A draw E sup l = some (E', obs)) (hobs : AllP obs)
  (h : W P N w0 F0 Q k E') : W P N w0 F0 Q (.code (.region id A draw) :: k) E := by
 unfold evalR at hev
 split at hev
 ·rename_i st hst
  split at hev
  ·rename_i E1 hk
   simp only [Option.some.injEq, Prod.mk.injEq] at hev
   obtain ⟨rfl, rfl⟩ := hev
   intro a w hh
   obtain ⟨hd, Gff, F, O, hf⟩ := hh
   refine RegW.cw hm (evalRegion_plain hst) (region_sound hm ht hst (AllP_iff.1 hobs) hf hd fun a' w' F' O' hd' hf' => ?_)
   obtain ⟨O2, hdr⟩ := hf'.drop (Gf2 := Gff)
   obtain ⟨F3, O3, hk3⟩ := hdr.keep hk
   exact h a' w' ⟨hd', Gff, F3, O3, hk3⟩
  ·simp at hev
 ·simp at hev
theorem W_loop {σ ρ : Type} {step : σ → Option (σ ⊕ ρ)} {En : σ → Env} {c : Code} {q : ρ → Prop} {x : σ} (h : Leads q (loopM step x))
  (hround : ∀ x (K : Act → World → Prop), Leads (fun s => match s with | .inl y => ∀ a w, Hold P N w0 F0 (En y) a w → K a w | .inr r => q r) (step x) → W P N w0 F0 Q (.code c :: .abs K :: k) (En x)) : W P N w0 F0 Q (.code (.loop c) :: k) (En x) := by
 intro a w hh
 cases hr : loopM step x with
 | none => rw [hr] at h; exact h.elim
 | some r =>
  rw [hr] at h
  obtain ⟨n, hn⟩ := loopM_iff.1 hr
  refine cw_loop n ?_
  have key : ∀ n x, iterM step n x = some r → ∀ a w, Hold P N w0 F0 (En x) a w → cwRounds w0.round P c (KQ P w0.round k Q) n a w := by
   intro n
   induction n with
   | zero => intro x h; simp [iterM] at h
   | succ n ih =>
    intro x hx a w hh
    refine hround x (cwRounds w0.round P c (KQ P w0.round k Q) n) ?_ a w hh
    simp only [iterM] at hx
    split at hx
    ·simp at hx
    ·rename_i y hy
     rw [hy]
     exact ih y hx
    ·rename_i r' hr'
     rw [hr']
     simp only [Option.some.injEq] at hx
     subst hx
     exact h
  exact key n x hn a w hh
def retRes (tys : Tys) (e : Nat → S) : List ResultVar → Option (List Res)
 | [] => some []
 | .tmp t :: l => match e t, retRes tys e l with
  | .v n τ x, some r => some (⟨n, τ, x⟩ :: r)
  | _, _ => none
 | .cell t T :: l => match e t, retRes tys e l with
  | .box n τ x, some r => if tyAt tys T = some τ then some (⟨n, τ, x⟩ :: r) else none
  | _, _ => none
def resSlots : List ResultVar → List Nat
 | [] => []
 | .tmp t :: l => t :: resSlots l
 | .cell t _ :: l => t :: resSlots l
def readR (T : Array Value) : ResultVar → Sem Value
 | .tmp t => pure (T.getD t undef)
 | .cell ad t => do loadVar t (← asAddr (T.getD ad undef))
def Done (P : Program) (w0 : Start) (F0 : Nat → Prop) (rs : List Res) : Ending → World → Prop :=
 fun e w' => ∃ vr F' O, e = .returned (tupled vr) ∧ ResRep P w' F' rs vr O ∧ OutS w0 F0 w' F' O
theorem ret_sound {Gff : Nat × Bool → Bool} {a : Act} {w : World} {F : Nat → Prop} {O : Nat → List Nat} (hf : Fr P N w0 F0 Gff E.at a.tmps w F O) {tys : Tys} (ht : tys.ok P = true) : ∀ {l : List ResultVar} {rs : List Res}, retRes tys E.at l = some rs → distinct (resSlots l) = true →
  ∃ (vr : List Value) (On : List Nat), (l.mapM (readR a.tmps)).run P w = .ok vr w ∧ ResRep P w F rs vr On ∧ On.Nodup ∧ ∀ b ∈ On, ∃ t ∈ resSlots l, b ∈ O t := by
 intro l
 induction l with
 | nil =>
  intro rs h _
  simp only [retRes, Option.some.injEq] at h
  subst h
  exact ⟨[], [], by simp, ⟨rfl, rfl⟩, List.nodup_nil, fun b hb => by cases hb⟩
 | cons x l ih =>
  intro rs h hd
  have step : ∀ (t : Nat) (r : List Res) (n : Lv) (τ : Ty) (y : τ.den) (v : Value) (cs : List Value) (O1 : List Nat), resSlots (x :: l) = t :: resSlots l → retRes tys E.at l = some r → (readR a.tmps x).run P w = .ok v w → VS τ v cs → Rep P τ n w F y cs O1 → O1.Nodup → (∀ b ∈ O1, b ∈ O t) →
    ∃ (vr : List Value) (On : List Nat), ((x :: l).mapM (readR a.tmps)).run P w = .ok vr w ∧ ResRep P w F (⟨n, τ, y⟩ :: r) vr On ∧ On.Nodup ∧ ∀ b ∈ On, ∃ t ∈ resSlots (x :: l), b ∈ O t := by
   intro t r n τ y v cs O1 hsl hr hv hvs hrep hnd hsub
   rw [hsl] at hd
   simp only [distinct, Bool.and_eq_true, Bool.not_eq_true'] at hd
   obtain ⟨vr, On, k1, k2, k3, k4⟩ := ih hr hd.2
   refine ⟨v :: vr, O1 ++ On, by rw [List.mapM_cons]; simp [hv, k1], ⟨v, vr, cs, O1, On, rfl, rfl, hvs, hrep, k2⟩, List.nodup_append.2 ⟨hnd, k3, fun b hb b' hb' hbb => ?_⟩, fun b hb => ?_⟩
   ·subst hbb
    obtain ⟨t', ht', hbt'⟩ := k4 b hb'
    have hne : t ≠ t' := fun hc => by
     have := any_beq.2 (hc ▸ ht')
     rw [hd.1] at this
     simp at this
    exact hf.apart t t' hne b (hsub b hb) hbt'
   ·rw [hsl]
    rcases List.mem_append.1 hb with hb | hb
    ·exact ⟨t, List.mem_cons_self .., hsub b hb⟩
    ·obtain ⟨t', ht', hbt'⟩ := k4 b hb
     exact ⟨t', List.mem_cons_of_mem _ ht', hbt'⟩
  cases x with
  | tmp t =>
   simp only [retRes] at h
   split at h
   ·rename_i n τ y r he hr
    simp only [Option.some.injEq] at h
    subst h
    have hrt := hf.rep t
    rw [he] at hrt
    obtain ⟨cs, h1, h2⟩ := hrt
    exact step t r n τ y _ cs (O t) rfl hr (by simp [readR]) h1 h2 (hf.nodup t) fun b hb => hb
   ·simp at h
  | cell t T =>
   simp only [retRes] at h
   split at h
   ·rename_i n τ y r he hr
    split at h
    ·rename_i hT
     simp only [Option.some.injEq] at h
     subst h
     have hrt := hf.rep t
     rw [he] at hrt
     obtain ⟨b, cs, el, O', h1, h2, h3, h4⟩ := hrt
     obtain ⟨v, hv, hvs⟩ := run_loadVar (P := P) (w := w) (tyAt_ok ht hT) (at_heap h2) h3.length
     have hnd := hf.nodup t
     rw [h4, List.nodup_cons] at hnd
     exact step t r n τ y v cs O' rfl hr (by simp [readR, h1, asAddr, hv]) hvs h3 hnd.2 fun c hc => by rw [h4]; exact List.mem_cons_of_mem _ hc
    ·simp at h
   ·simp at h
theorem results_run {fn : Func} {T : Array Value} {w : World} {vr : List Value} (h : (fn.results.toList.mapM (readR T)).run P w = .ok vr w) : (results fn T).run P w = .ok (tupled vr) w := by
 have he : results fn T = (do let vs ← fn.results.mapM (readR T); pure (if h : vs.size = 1 then vs[0] else .tuple vs)) := by
  unfold results
  congr
 rw [he, Array.mapM_eq_mapM_toList]
 simp only [Sem.run_bind, Sem.run_map, h, Result.andThen_ok, Sem.run_pure]
 simp
 match vr with
 | [] => rfl
 | [v] => rfl
 | _ :: _ :: _ => rfl
def Plain (w0 : Start) : Prop := w0.dfs = [] ∧ w0.round = none
theorem W_ret {tys : Tys} (ht : tys.ok P = true) (hp : Plain w0) {fn : Func} {rs : List Res} (hr : retRes tys E.at fn.results.toList = some rs) (hd : distinct (resSlots fn.results.toList) = true) : W P N w0 F0 (bodyPost P fn (Done P w0 F0 rs)) (.code .ret :: k) E := by
 intro a w hh
 obtain ⟨hdf, Gff, F, O, hf⟩ := hh
 obtain ⟨vr, On, h1, h2, h3, h4⟩ := ret_sound hf ht hr hd
 refine cw_ret (KQ_ret ⟨hdf.trans hp.1, tupled vr, results_run h1, vr, F, On, rfl, h2, ⟨hf.below, hf.sub, hf.lt, hf.old, h3, fun b hb => ?_⟩⟩)
 obtain ⟨t, _, hbt⟩ := h4 b hb
 exact hf.own t b hbt
theorem W_end {tys : Tys} (ht : tys.ok P = true) (hp : Plain w0) {fn : Func} {rs : List Res} (hr : retRes tys E.at fn.results.toList = some rs) (hd : distinct (resSlots fn.results.toList) = true) : W P N w0 F0 (bodyPost P fn (Done P w0 F0 rs)) [] E := by
 intro a w hh
 obtain ⟨hdf, Gff, F, O, hf⟩ := hh
 obtain ⟨vr, On, h1, h2, h3, h4⟩ := ret_sound hf ht hr hd
 refine ⟨hdf.trans hp.1, tupled vr, results_run h1, vr, F, On, rfl, h2, ⟨hf.below, hf.sub, hf.lt, hf.old, h3, fun b hb => ?_⟩⟩
 obtain ⟨t, _, hbt⟩ := h4 b hb
 exact hf.own t b hbt
def argEnv : Nat → List TV → Env
 | _, [] => []
 | i, t :: ts => (i, .v 0 t.1 t.2) :: argEnv (i + 1) ts
theorem argEnv_rep {w : World} {F : Nat → Prop} {Gff : Nat × Bool → Bool} : ∀ {ts : List TV} {vs pre post : List Value} {i : Nat} {e : Nat → S}, ArgsRep P w F ts vs → pre.length = i → ∀ t, i ≤ t → (post.getD (t - i - ts.length) undef = undef ∨ t < i + ts.length) → SRep P Gff w F (pre ++ vs ++ post).toArray e ((pre ++ vs ++ post).toArray.getD t undef) ((argEnv i ts).at t) []
 | [], vs, pre, post, i, e, h, hp, t, ht, _ => rfl
 | tv :: ts, vs, pre, post, i, e, h, hp, t, ht, hpost => by
  obtain ⟨v, vs', cs, rfl, h1, h2, h3⟩ := h
  simp only [argEnv, Env.at]
  by_cases hti : t = i
  ·subst hti
   simp only [Nat.beq_refl, if_true]
   refine ⟨cs, ?_, h2⟩
   have : (pre ++ v :: vs' ++ post).toArray.getD t undef = v := by
    subst hp
    simp [Array.getD, List.getElem_append_right]
   rw [this]
   exact h1
  ·have hb : Nat.beq t i = false := by
    cases hb : Nat.beq t i
    ·rfl
    ·exact absurd (Nat.eq_of_beq_eq_true hb) hti
   simp only [hb, Bool.false_eq_true, if_false]
   have := argEnv_rep (Gff := Gff) (e := e) (ts := ts) (vs := vs') (pre := pre ++ [v]) (post := post) (i := i + 1) h3 (by simp [hp]) t (by omega) (by
    simp only [List.length_cons] at hpost
    rw [show t - (i + 1) - ts.length = t - i - (ts.length + 1) from by omega]
    rcases hpost with h | h
    ·exact .inl h
    ·exact .inr (by omega))
   simpa using this
theorem ArgsRep.len {w : World} {F : Nat → Prop} : ∀ {ts : List TV} {vs : List Value}, ArgsRep P w F ts vs → vs.length = ts.length
 | [], vs, h => by rw [show vs = [] from h]; rfl
 | t :: ts, vs, h => by
  obtain ⟨v, vs', cs, rfl, _, _, h⟩ := h
  simp [h.len]
theorem acall_of {f : FuncId} {fn : Func} {c : Code} (hf : P.funcs[f]? = some fn) (hn : (fn.name == "runtime.NumGoroutine") = false) (hb : fn.body = some c) {args : List TV} {rs : List Res} (hlen : (Nat.ble args.length fn.ntmps && Nat.blt fn.ntmps 1048576) = true)
  (h : ∀ w0 F0, Plain w0 → W P fn.ntmps w0 F0 (bodyPost P fn (Done P w0 F0 rs)) [.code c] (argEnv 0 args)) : ACall P f args rs := by
 rw [Bool.and_eq_true] at hlen
 obtain ⟨hlen, hnt⟩ := hlen
 have hnt' : fn.ntmps < 1048576 := Nat.le_of_ble_eq_true hnt
 have hmod : slotN fn.ntmps = fn.ntmps := Nat.mod_eq_of_lt hnt'
 have hdiv : slotLo fn.ntmps = 0 := Nat.div_eq_of_lt hnt'
 refine ⟨⟨fn, hf, hn, by rw [hb]; rfl⟩, fun w F vs hlt hly hargs => ?_⟩
 have hl := hargs.len
 have hle := Nat.le_of_ble_eq_true hlen
 refine Calls.mono (calls_of_wp hf hb (h (Start.of w) F ⟨rfl, rfl⟩ _ w ⟨rfl, fun _ => false, F, fun _ => [], ?_⟩)) fun e w' ⟨vr, F', O, he, hr, ho⟩ => ⟨vr, F', O, he, hr, ho.of⟩
 have htm : vs.toArray ++ Array.replicate (fn.ntmps - vs.toArray.size) undef = ([] ++ vs ++ List.replicate (fn.ntmps - vs.length) undef).toArray := by
  apply Array.toList_inj.1; simp
 rw [htm]
 refine ⟨by rw [hmod]; simp [hl]; omega, (fun t ht => by rw [hdiv] at ht; omega), Kept.refl _, fun _ h => h, hlt, fun _ h _ => h, fun t => ?_, fun _ => List.nodup_nil, (fun _ b hb => by cases hb), (fun _ _ _ b hb => by cases hb), hly⟩
 exact argEnv_rep hargs rfl t (Nat.zero_le _) (.inl (by
  rw [List.getD_eq_getElem?_getD, List.getElem?_replicate]
  split <;> rfl))
theorem ocall_of {f : FuncId} {fn : Func} {c : Code} (hf : P.funcs[f]? = some fn) (hn : (fn.name == "runtime.NumGoroutine") = false) (hb : fn.body = some c) {n : Lv} {t : TV} {args : List TV} {rs : List Res} (hlen : (Nat.ble (args.length + 1) fn.ntmps && Nat.blt fn.ntmps 1048576) = true)
  (h : ∀ w0 F0, Plain w0 → W P fn.ntmps w0 F0 (bodyPost P fn (Done P w0 F0 rs)) [.code c] ((0, .v n t.1 t.2) :: argEnv 1 args)) : OCall P f n t args rs := by
 rw [Bool.and_eq_true] at hlen
 obtain ⟨hlen, hnt⟩ := hlen
 have hnt' : fn.ntmps < 1048576 := Nat.le_of_ble_eq_true hnt
 have hmod : slotN fn.ntmps = fn.ntmps := Nat.mod_eq_of_lt hnt'
 have hdiv : slotLo fn.ntmps = 0 := Nat.div_eq_of_lt hnt'
 refine ⟨⟨fn, hf, hn, by rw [hb]; rfl⟩, fun w F v0 cs0 O0 vs hlt hly hv0 hr0 hnd h0 hargs => ?_⟩
 have hl := hargs.len
 have hle := Nat.le_of_ble_eq_true hlen
 refine calls_of_wp hf hb (h (Start.own w O0) F ⟨rfl, rfl⟩ _ w ⟨rfl, fun _ => false, F, fun u => if u = 0 then O0 else [], ?_⟩)
 have htm : (v0 :: vs).toArray ++ Array.replicate (fn.ntmps - (v0 :: vs).toArray.size) undef = ([v0] ++ vs ++ List.replicate (fn.ntmps - (vs.length + 1)) undef).toArray := by
  apply Array.toList_inj.1; simp
 rw [htm]
 refine ⟨by rw [hmod]; simp [hl]; omega, (fun t ht => by rw [hdiv] at ht; omega), Kept.refl _, fun _ h => h, hlt, fun _ h _ => h, fun u => ?_, fun u => ?_, fun u b hb => ?_, fun u u' huu b hb hb' => ?_, hly⟩
 ·by_cases hu : u = 0
  ·subst hu
   simp only [Env.at, Nat.beq_refl, if_true]
   exact ⟨cs0, by simpa [Array.getD] using hv0, hr0⟩
  ·have hb : Nat.beq u 0 = false := by
    cases hb : Nat.beq u 0
    ·rfl
    ·exact absurd (Nat.eq_of_beq_eq_true hb) hu
   simp only [Env.at, hb, Bool.false_eq_true, if_false, hu]
   exact argEnv_rep (pre := [v0]) (i := 1) hargs rfl u (by omega) (.inl (by
    rw [List.getD_eq_getElem?_getD, List.getElem?_replicate]
    split <;> rfl))
 ·by_cases hu : u = 0
  ·simp only [hu, if_true]; exact hnd
  ·simp only [hu, if_false]; exact List.nodup_nil
 ·by_cases hu : u = 0
  ·simp only [hu, if_true] at hb
   exact ⟨fun hc => hc.2 hb, (h0 b hb).1, (h0 b hb).2⟩
  ·simp only [hu, if_false] at hb; cases hb
 ·by_cases hu : u = 0
  ·have hu' : u' ≠ 0 := fun hc => huu (hu.trans hc.symm)
   simp only [hu', if_false] at hb'
   cases hb'
  ·simp only [hu, if_false] at hb; cases hb
theorem OCall.up {f : FuncId} {n m : Lv} {t : TV} {args : List TV} {rs : List Res} (h : OCall P f n t args rs) (hm : Lv.le n m = true) : OCall P f m t args rs := by
 refine ⟨h.1, fun w F v0 cs0 O0 vs hlt hly hv0 hr0 hnd h0 hargs => ?_⟩
 obtain ⟨O', R, hp, hk⟩ := hr0.lower hm
 have hnd2 := hp.nodup_iff.1 hnd
 have hO : ∀ b ∈ O', b ∈ O0 := fun b hb => hp.mem_iff.2 (List.mem_append_left _ hb)
 have hR : ∀ b ∈ R, b ∈ O0 := fun b hb => hp.mem_iff.2 (List.mem_append_right _ hb)
 have he : Ext w F w (fun b => F b ∨ b ∈ R) := ⟨fun b hb => .inl hb, fun _ _ => rfl, fun b hb => hb.elim (hlt b) fun hb => (h0 b (hR b hb)).1⟩
 refine (h.2 w (fun b => F b ∨ b ∈ R) v0 cs0 O' vs he.lt (hly.ext he) hv0 (hk _ he fun b hb => .inr hb) (List.nodup_append.1 hnd2).1 (fun b hb => ⟨(h0 b (hO b hb)).1, fun hc => ?_⟩) (hargs.mono he)).mono fun e w' ⟨vr, F', O, k1, k2, k3⟩ => ⟨vr, F', O, k1, k2, ?_⟩
 ·rcases hc with hc | hc
  ·exact (h0 b (hO b hb)).2 hc
  ·exact (List.nodup_append.1 hnd2).2.2 b hb b hc rfl
 ·refine ⟨⟨k3.below.os, k3.below.tape, k3.below.output, k3.below.size, fun b hb => k3.below.block b ⟨hb.1, fun hc => hb.2 (hO b hc)⟩⟩, fun b hb => k3.sub b (.inl hb), k3.lt, fun b hb hp' => ?_, k3.nodup, fun b hb => ?_⟩
  ·rcases k3.old b hb ⟨hp'.1, fun hc => hp'.2 (hO b hc)⟩ with hc | hc
   ·exact hc
   ·exact absurd (hR b hc) hp'.2
  ·obtain ⟨n1, n2, n3⟩ := k3.new b hb
   exact ⟨fun hc => n1 ⟨hc.1, fun hc' => hc.2 (hO b hc')⟩, n2, n3⟩
def DoneI (P : Program) (w0 : Start) (F0 : Nat → Prop) (s' : S) (rs : List Res) : Ending → World → Prop :=
 fun e w' => ∃ vr F' O O', e = .returned (tupled vr) ∧ ResRep P w' F' rs vr O ∧ HRep P w' F' (w0.args.getD 0 undef) s' O' ∧ OutS w0 F0 w' F' (O' ++ O)
def handS : S → Bool
 | .v _ _ _ | .box _ _ _ => true
 | _ => false
theorem hrep_of {Gff : Nat × Bool → Bool} {w : World} {F : Nat → Prop} {T : Array Value} {e : Nat → S} {v : Value} {s : S} {Os : List Nat} (hf : handS s = true) (h : SRep P Gff w F T e v s Os) : HRep P w F v s Os := by
 cases s <;> first
  | exact h
  |(simp [handS] at hf; done)
theorem iret_sound (hN : slotLo N = 1) {fn : Func} {rs : List Res} {s' : S} (hs : E.at 0 = s') (hfu : handS s' = true) {tys : Tys} (ht : tys.ok P = true) (hr : retRes tys E.at fn.results.toList = some rs) (hd : distinct (0 :: resSlots fn.results.toList) = true) {a : Act} {w : World} {Gff : Nat × Bool → Bool} {F : Nat → Prop} {O : Nat → List Nat} (hf : Fr P N w0 F0 Gff E.at a.tmps w F O) :
  ∃ vr, (results fn a.tmps).run P w = .ok (tupled vr) w ∧ DoneI P w0 F0 s' rs (.returned (tupled vr)) w := by
 simp only [distinct, Bool.and_eq_true, Bool.not_eq_true'] at hd
 obtain ⟨hd0, hd⟩ := hd
 obtain ⟨vr, On, h1, h2, h3, h4⟩ := ret_sound hf ht hr hd
 have h0 : 0 ∉ resSlots fn.results.toList := fun hc => by
  have := any_beq.2 hc
  rw [hd0] at this
  simp at this
 have hr0 := hf.rep 0
 rw [hs, hf.fixed 0 (by omega)] at hr0
 refine ⟨vr, results_run h1, vr, F, On, O 0, rfl, h2, hrep_of hfu hr0, hf.below, hf.sub, hf.lt, hf.old, List.nodup_append.2 ⟨hf.nodup 0, h3, fun b hb b' hb' hbb => ?_⟩, fun b hb => ?_⟩
 ·subst hbb
  obtain ⟨t, ht, hbt⟩ := h4 b hb'
  exact hf.apart 0 t (fun hc => h0 (hc ▸ ht)) b hb hbt
 ·rcases List.mem_append.1 hb with hb | hb
  ·exact hf.own 0 b hb
  ·obtain ⟨t, _, hbt⟩ := h4 b hb
   exact hf.own t b hbt
theorem W_iret {tys : Tys} (ht : tys.ok P = true) (hp : Plain w0) (hN : slotLo N = 1) {fn : Func} {rs : List Res} {s' : S} (hs : E.at 0 = s') (hfu : handS s' = true) (hr : retRes tys E.at fn.results.toList = some rs) (hd : distinct (0 :: resSlots fn.results.toList) = true) : W P N w0 F0 (bodyPost P fn (DoneI P w0 F0 s' rs)) (.code .ret :: k) E := by
 intro a w hh
 obtain ⟨hdf, Gff, F, O, hf⟩ := hh
 obtain ⟨vr, h1, h2⟩ := iret_sound hN hs hfu ht hr hd hf
 exact cw_ret (KQ_ret ⟨hdf.trans hp.1, tupled vr, h1, h2⟩)
theorem W_iend {tys : Tys} (ht : tys.ok P = true) (hp : Plain w0) (hN : slotLo N = 1) {fn : Func} {rs : List Res} {s' : S} (hs : E.at 0 = s') (hfu : handS s' = true) (hr : retRes tys E.at fn.results.toList = some rs) (hd : distinct (0 :: resSlots fn.results.toList) = true) : W P N w0 F0 (bodyPost P fn (DoneI P w0 F0 s' rs)) [] E := by
 intro a w hh
 obtain ⟨hdf, Gff, F, O, hf⟩ := hh
 obtain ⟨vr, h1, h2⟩ := iret_sound hN hs hfu ht hr hd hf
 exact ⟨hdf.trans hp.1, tupled vr, h1, h2⟩
def Start.inn (w : World) (O0 : List Nat) (v0 : Value) : Start := ⟨w, fun b => b < w.heap.size ∧ b ∉ O0, fun _ h => h.1, [v0], none, []⟩
theorem icall_of {f : FuncId} {fn : Func} {c : Code} (hf : P.funcs[f]? = some fn) (hn : (fn.name == "runtime.NumGoroutine") = false) (hb : fn.body = some c) {s s' : S} {args : List TV} {rs : List Res} (hlen : (Nat.ble (args.length + 1) fn.ntmps && Nat.blt fn.ntmps 1048576) = true)
  (h : ∀ w0 F0, Plain w0 → W P (fn.ntmps + 1048576) w0 F0 (bodyPost P fn (DoneI P w0 F0 s' rs)) [.code c] ((0, s) :: argEnv 1 args)) : ICall P f s s' args rs := by
 rw [Bool.and_eq_true] at hlen
 obtain ⟨hlen, hnt⟩ := hlen
 have hnt' : fn.ntmps < 1048576 := Nat.le_of_ble_eq_true hnt
 have hmod : slotN (fn.ntmps + 1048576) = fn.ntmps := by unfold slotN; omega
 have hdiv : slotLo (fn.ntmps + 1048576) = 1 := by unfold slotLo; omega
 refine ⟨⟨fn, hf, hn, by rw [hb]; rfl⟩, fun w F v0 O0 vs hlt hly hr0 hnd h0 hargs => ?_⟩
 have hl := hargs.len
 have hle := Nat.le_of_ble_eq_true hlen
 refine Calls.mono (calls_of_wp hf hb (h (Start.inn w O0 v0) F ⟨rfl, rfl⟩ _ w ⟨rfl, fun _ => false, F, fun u => if u = 0 then O0 else [], ?_⟩)) fun e w' hh => ?_
 ·have htm : (v0 :: vs).toArray ++ Array.replicate (fn.ntmps - (v0 :: vs).toArray.size) undef = ([v0] ++ vs ++ List.replicate (fn.ntmps - (vs.length + 1)) undef).toArray := by
   apply Array.toList_inj.1; simp
  rw [htm]
  refine ⟨by rw [hmod]; simp [hl]; omega, (fun t ht => by
   rw [hdiv] at ht
   obtain rfl : t = 0 := by omega
   simp [Start.inn, Array.getD]), Kept.refl _, fun _ h => h, hlt, fun _ h _ => h, fun u => ?_, fun u => ?_, fun u b hb => ?_, fun u u' huu b hb hb' => ?_, hly⟩
  ·by_cases hu : u = 0
   ·subst hu
    simp only [Env.at, Nat.beq_refl, if_true]
    have := (HRep.srep (G := fun _ => false) (T := ([v0] ++ vs ++ List.replicate (fn.ntmps - (vs.length + 1)) undef).toArray) (e := fun x => if x = 0 then s else (argEnv 1 args).at x) hr0).1
    simpa [Array.getD] using this
   ·have hb : Nat.beq u 0 = false := by
     cases hb : Nat.beq u 0
     ·rfl
     ·exact absurd (Nat.eq_of_beq_eq_true hb) hu
    simp only [Env.at, hb, Bool.false_eq_true, if_false, hu]
    exact argEnv_rep (pre := [v0]) (i := 1) hargs rfl u (by omega) (.inl (by
     rw [List.getD_eq_getElem?_getD, List.getElem?_replicate]
     split <;> rfl))
  ·by_cases hu : u = 0
   ·simp only [hu, if_true]; exact hnd
   ·simp only [hu, if_false]; exact List.nodup_nil
  ·by_cases hu : u = 0
   ·simp only [hu, if_true] at hb
    exact ⟨fun hc => hc.2 hb, (h0 b hb).1, (h0 b hb).2⟩
   ·simp only [hu, if_false] at hb; cases hb
  ·by_cases hu : u = 0
   ·have hu' : u' ≠ 0 := fun hc => huu (hu.trans hc.symm)
    simp only [hu', if_false] at hb'
    cases hb'
   ·simp only [hu, if_false] at hb; cases hb
 ·obtain ⟨vr, F', O, O', he, hr, hi, ho⟩ := hh
  exact ⟨vr, F', O, O', he, hr, hi, ⟨ho.below.os, ho.below.tape, ho.below.output, ho.below.size, ho.below.block⟩, ho.sub, ho.lt, ho.old, ho.nodup, ho.new⟩
end
end Go.Tom
set_option linter.unusedVariables false
set_option linter.unusedSimpArgs false
namespace Go.Tom
open Go
@[irreducible] def ass {ρ : Type} (p : Prop) [Decidable p] (o : Option ρ) : Option ρ := if p then o else none
def bnd {α ρ : Type} (x : α) (f : α → Option ρ) : Option ρ := f x
theorem Leads.ass {ρ : Type} {q : ρ → Prop} {p : Prop} [Decidable p] {x : Option ρ} (h : Leads q (Tom.ass p x)) : p ∧ Leads q x := by
 unfold Tom.ass at h
 exact h.ite
theorem Leads.map {α ρ : Type} {q : ρ → Prop} {g : α → ρ} {o : Option α} (h : Leads q (o.map g)) : Leads (fun x => q (g x)) o := by
 cases o with
 | none => exact h.elim
 | some y => exact h
theorem Leads.of {ρ : Type} {o : Option ρ} {r : ρ} (h : o = some r) : Leads (fun x => x = r) o := by rw [h]; exact rfl
def Back (P : Program) (N : Nat) (w0 : Start) (F0 : Nat → Prop) {σ ρ : Type} (En : σ → Env) (K : Act → World → Prop) (q : ρ → Prop) : σ ⊕ ρ → Prop
 | .inl y => ∀ a w, Hold P N w0 F0 (En y) a w → K a w
 | .inr r => q r
section
variable {P : Program} {N : Nat} {w0 : Start} {F0 : Nat → Prop} {Q : Exit → Act → World → Prop} {k : List KI} {E : Env}
theorem W_loop' {σ ρ : Type} {step : σ → Option (σ ⊕ ρ)} {En : σ → Env} {c : Code} {q : ρ → Prop} {x : σ} (h : Leads q (loopM step x))
  (hround : ∀ x (K : Act → World → Prop), Leads (Back P N w0 F0 En K q) (step x) → W P N w0 F0 Q (.code c :: .abs K :: k) (En x)) : W P N w0 F0 Q (.code (.loop c) :: k) (En x) := by
 refine W_loop h fun x K hh => hround x K ?_
 cases hs : step x with
 | none => rw [hs] at hh; exact hh.elim
 | some s => rw [hs] at hh; cases s <;> exact hh
theorem Leads.back {σ ρ : Type} {En : σ → Env} {K : Act → World → Prop} {q : ρ → Prop} {o : Option ρ} (h : Leads (Back P N w0 F0 En K q) (o.map .inr)) : Leads q o := h.map
end
theorem bif_some {α : Type} {c : Bool} {o o' : Option α} {y : α} (h : (bif c then o else o') = some y) (hc : c = true) : o = some y := by subst hc; exact h
theorem ACall.flat {P : Program} {f : FuncId} {args : List TV} {n m : Lv} {τ : Ty} {x : τ.den} (hf : τ.flat = true) (h : ACall P f args [⟨n, τ, x⟩]) : ACall P f args [⟨m, τ, x⟩] := by
 refine ⟨h.1, fun w F vs hlt hly ha => (h.2 w F vs hlt hly ha).mono fun e w' he => ?_⟩
 obtain ⟨vr, F', O, h1, h2, h3⟩ := he
 refine ⟨vr, F', O, h1, ?_, h3⟩
 obtain ⟨v, vs', cs, O1, O2, k1, k2, k3, k4, k5⟩ := h2
 obtain ⟨k6, k7⟩ := k4.flat hf
 subst k6
 exact ⟨v, vs', cs, [], O2, k1, k2, k3, k7 _ _ _, k5⟩
end Go.Tom
set_option linter.unusedVariables false
set_option linter.unusedSimpArgs false
namespace Go.Tom
open Go
def noRoot (E : Env) (ds : List Nat) : Bool := !(E.any fun q => (roots q.2).any fun V => memb V ds)
def evalLate (P : Program) (tys : Tys) (N : Nat) (ops : List Oper) (ds bs : List Nat) (bk : Nat) : Nat → List Oper → St → Option St
 | _, [], st => some st
 | i, o :: r, st => if bk.testBit i then evalLate P tys N ops ds bs bk (i + 1) r st else match isEff o, o.guard, o.dst with
  | false, none, some d => match quiet P tys ops (hide (notIn (bs.getD i 0 ||| bk) 0 ds) st.E.at) [] o st.sup with
   | some (s, l, sup, _) => if inN N d && (roots s).all (fun V => !(memb V (notIn bk 0 ds))) then evalLate P tys N ops ds bs bk (i + 1) r ⟨st.E.set d s, [], sup, st.obs ++ l⟩ else none
   | none => none
  | _, _, _ => none
def carry1 (e1 eB : Nat → S) (dk : Option Nat) : S → S → Option (List Prop)
 | .v n τ x, .v n' τ' x' => if τ.flat || decide (n = n') then some [(⟨τ', x'⟩ : TV) = ⟨τ, x⟩] else none
 | .ref V [.fld f], .ref V' [.fld f'] => if Nat.beq V V' && Nat.beq f f' && !(dk == some V) then match e1 V, eB V with
  | .box _ (.st a) _, .box _ (.st a') _ => if a = a' then some [] else none
  | _, _ => none
  else none
 | .bor V [], .bor V' [] => if Nat.beq V V' && !(dk == some V) then match e1 V with
  | .v _ τ _ => if passive (eB V) then some [] else match eB V with
   | .v _ τ' _ => if τ' = τ then some [] else none
   | _ => none
  | _ => none
  else none
 | _, _ => none
def carryAll (e1 eB : Nat → S) (dk : Option Nat) : List Nat → Option (List Prop)
 | [] => some []
 | d :: r => match carry1 e1 eB dk (e1 d) (eB d), carryAll e1 eB dk r with
  | some l, some l' => some (l ++ l')
  | _, _ => none
def regL3 (P : Program) (tys : Tys) (N : Nat) (ops : List Oper) (k : Nat) (e1 : Nat → S) (dsL : List Nat) (dk : Option Nat) (stB : St) : Option St :=
 match carryAll e1 stB.E.at dk dsL with
 | some l => evalOps P tys N ops (ops.drop (k + 1)) ⟨stB.E, [], stB.sup, stB.obs ++ l⟩
 | none => none
def regL2 (P : Program) (tys : Tys) (N : Nat) (ops : List Oper) (k bk : Nat) (ds dsL : List Nat) (e1 : Nat → S) (dk : Option Nat) (stA : St) : Option St :=
 if noRoot stA.E dsL && stA.G.isEmpty then match evalLate P tys N ops ds (closAll ops []) bk 0 (ops.take k) ⟨stA.E.clear dsL, [], stA.sup, stA.obs⟩ with
  | some stB => regL3 P tys N ops k e1 dsL dk stB
  | none => none
 else none
def regL1 (P : Program) (tys : Tys) (N : Nat) (ops : List Oper) (k bk : Nat) (ds dsL : List Nat) (ok : Oper) (st1 : St) : Option St :=
 if noRoot (st1.E.drop.clear dsL) dsL then match stepO P tys N ops ok ⟨st1.E.drop.clear dsL, [], st1.sup, st1.obs⟩ with
  | some stA => regL2 P tys N ops k bk ds dsL st1.E.drop.at ok.dst stA
  | none => none
 else none
def dstOut (o : Oper) (l : List Nat) : Bool := match o.dst with
 | some d => !(memb d l)
 | none => true
def regL0 (P : Program) (tys : Tys) (N : Nat) (ops : List Oper) (k bk : Nat) (ds dsL : List Nat) (ok : Oper) (st : St) : Option St :=
 if distinct ds && fwdOk 0 (closAll ops []) && tailOk (k + 1) 0 (closAll ops []) && noRoot st.E.drop ds && dstOut ok dsL then
  match evalAny P tys N ops ds (closAll ops []) 0 (ops.take k) ⟨st.E.drop.clear ds, [], st.sup, st.obs⟩ with
  | some st1 => regL1 P tys N ops k bk ds dsL ok st1
  | none => none
 else none
def evalRegionL (P : Program) (tys : Tys) (N : Nat) (ops : List Oper) (st : St) : Option St :=
 match ops[prefLen ops]?, dstsOf (ops.take (prefLen ops)) with
 | some ok, some ds => regL0 P tys N ops (prefLen ops) ((closAll ops []).getD (prefLen ops) 0) ds (notIn ((closAll ops []).getD (prefLen ops) 0) 0 ds) ok st
 | _, _ => none
theorem quiet_plain {P : Program} {tys : Tys} {ops : List Oper} {e : Nat → S} {o : Oper} {sup : List Sup} {s : S} {l : List Prop} {sup' : List Sup} {G : Gs} (hg : o.guard = none) (h : quiet P tys ops e [] o sup = some (s, l, sup', G)) : G = [] := by
 unfold quiet at h
 rw [hg] at h
 simp only at h
 split at h
 ·simp only [Option.some.injEq, Prod.mk.injEq] at h
  exact h.2.2.2.symm
 ·simp at h
def FactL (P : Program) (tys : Tys) (N : Nat) (ops : List Oper) (ds bs : List Nat) (bk : Nat) (Ek : Nat → S) (obs : List Prop) (j : Nat) (o : Oper) : Prop :=
 ∃ d sup s l sup', o.dst = some d ∧ o.guard = none ∧ quiet P tys ops (hide (notIn (bs.getD j 0 ||| bk) 0 ds) Ek) [] o sup = some (s, l, sup', []) ∧
  (∀ p ∈ l, p ∈ obs) ∧ Ek d = s ∧ InN N d ∧ ∀ V ∈ roots s, V ∉ notIn bk 0 ds
theorem notIn_or {b c t : Nat} {ds : List Nat} (h : t ∈ notIn (b ||| c) 0 ds) : t ∈ notIn c 0 ds := by
 obtain ⟨j, h1, h2⟩ := notIn_mem.1 h
 refine notIn_mem.2 ⟨j, h1, ?_⟩
 rw [Nat.testBit_or, Bool.or_eq_false_iff] at h2
 exact h2.2
theorem evalLate_facts {P : Program} {tys : Tys} {N : Nat} {ops : List Oper} {ds bs : List Nat} {bk : Nat} (hdist : ∀ (i j t : Nat), ds[i]? = some t → ds[j]? = some t → i = j) : ∀ {rest : List Oper} {i : Nat} {st st' : St}, evalLate P tys N ops ds bs bk i rest st = some st' →
  (∀ (m : Nat) (o : Oper), rest[m]? = some o → ∃ d, o.dst = some d ∧ ds[i + m]? = some d) → (∀ m, m < rest.length → ∀ l, i + m ≤ l → (bs.getD (i + m) 0).testBit l = false) → ds.length = i + rest.length → st.G = [] →
  st'.G = [] ∧ (∃ l, st'.obs = st.obs ++ l) ∧ (∀ t, (∀ m, i ≤ m → bk.testBit m = false → ds[m]? ≠ some t) → st'.E.at t = st.E.at t) ∧ ∀ (m : Nat) (o : Oper), rest[m]? = some o → bk.testBit (i + m) = false → FactL P tys N ops ds bs bk st'.E.at st'.obs (i + m) o
 | [], i, st, st', h, _, _, _, hG => by
  simp only [evalLate, Option.some.injEq] at h
  subst h
  exact ⟨hG, ⟨[], by simp⟩, fun t _ => rfl, fun m o h => by simp at h⟩
 | o :: rest, i, st, st', h, hds, hfw, hlen, hG => by
  have hds' : ∀ (m : Nat) (o' : Oper), rest[m]? = some o' → ∃ d, o'.dst = some d ∧ ds[i + 1 + m]? = some d := fun m o' ho' => by
   obtain ⟨d', h1, h2⟩ := hds (m + 1) o' (by simpa using ho')
   exact ⟨d', h1, by rw [show i + 1 + m = i + (m + 1) from by omega]; exact h2⟩
  have hfw' : ∀ m, m < rest.length → ∀ l, i + 1 + m ≤ l → (bs.getD (i + 1 + m) 0).testBit l = false := fun m hm l hl => by
   have := hfw (m + 1) (by simpa using hm) l (by omega)
   rwa [show i + (m + 1) = i + 1 + m from by omega] at this
  have hlen' : ds.length = i + 1 + rest.length := by simp only [List.length_cons] at hlen; omega
  simp only [evalLate] at h
  split at h
  ·rename_i hb
   obtain ⟨k1, k2, k3, k4⟩ := evalLate_facts hdist h hds' hfw' hlen' hG
   refine ⟨k1, k2, fun t ht => k3 t fun m hm => ht m (by omega), fun m o' ho' hbm => ?_⟩
   cases m with
   | zero => rw [Nat.add_zero] at hbm; rw [hb] at hbm; simp at hbm
   | succ m =>
    have := k4 m o' (by simpa using ho') (by rwa [show i + (m + 1) = i + 1 + m from by omega] at hbm)
    rwa [show i + 1 + m = i + (m + 1) from by omega] at this
  ·rename_i hb
   rw [Bool.not_eq_true] at hb
   split at h
   ·rename_i d heff hguard hdst
    split at h
    ·rename_i s l sup G hq
     split at h
     ·rename_i hc
      simp only [Bool.and_eq_true] at hc
      obtain ⟨hdN, hrt⟩ := hc
      obtain rfl := quiet_plain hguard hq
      obtain ⟨k1, ⟨l2, k3⟩, k4, k5⟩ := evalLate_facts hdist (st := ⟨st.E.set d s, [], sup, st.obs ++ l⟩) h hds' hfw' hlen' rfl
      obtain ⟨d0, hd0, hdi⟩ := hds 0 o (by simp)
      rw [hdst] at hd0
      obtain rfl := Option.some.inj hd0
      simp only [Nat.add_zero] at hdi
      have hEd : st'.E.at d = s := by
       rw [k4 d fun m hm _ hc => by have := hdist _ _ _ hdi hc; omega, Env.at_set, if_pos rfl]
      have hsame : hide (notIn (bs.getD i 0 ||| bk) 0 ds) st.E.at = hide (notIn (bs.getD i 0 ||| bk) 0 ds) st'.E.at := by
       funext t
       unfold hide
       split
       ·rfl
       ·rename_i hm
        have hnot : ∀ m, i ≤ m → bk.testBit m = false → ds[m]? ≠ some t := fun m hm' hbm hc => hm (memb_iff.2 (notIn_mem.2 ⟨m, hc, by
         rw [Nat.zero_add, Nat.testBit_or, hbm, Bool.or_false]
         have := hfw 0 (by simp) m (by simpa using hm')
         simpa using this⟩))
        have hne : t ≠ d := fun hc => hnot i (Nat.le_refl _) hb (hc ▸ hdi)
        rw [k4 t fun m hm' => hnot m (by omega), Env.at_set, if_neg hne]
      refine ⟨k1, ⟨l ++ l2, by rw [k3, List.append_assoc]⟩, fun t ht => ?_, fun m o' ho' hbm => ?_⟩
      ·rw [k4 t fun m hm => ht m (by omega), Env.at_set, if_neg]
       intro hc
       exact ht i (Nat.le_refl _) hb (hc ▸ hdi)
      ·cases m with
       | zero =>
        simp only [List.getElem?_cons_zero, Option.some.injEq] at ho'
        subst ho'
        refine ⟨d, st.sup, s, l, sup, hdst, hguard, by rw [Nat.add_zero, ← hsame]; exact hq, fun p hp => ?_, hEd, inN_spec hdN, fun V hV hc => ?_⟩
        ·rw [k3]; exact List.mem_append_left _ (List.mem_append_right _ hp)
        ·have := List.all_eq_true.1 hrt V hV
         rw [memb_iff.2 hc] at this
         simp at this
       | succ m =>
        have := k5 m o' (by simpa using ho') (by rwa [show i + (m + 1) = i + 1 + m from by omega] at hbm)
        rwa [show i + 1 + m = i + (m + 1) from by omega] at this
     ·simp at h
    ·simp at h
   ·simp at h
section
variable {P : Program} {N : Nat} {w0 : Start} {F0 : Nat → Prop} {Gff : Nat × Bool → Bool}
theorem Fr.hide' {e e' : Nat → S} {T : Array Value} {w : World} {F : Nat → Prop} {O : Nat → List Nat} (h : Fr P N w0 F0 Gff e T w F O) (hle : ∀ t, e' t = .dead ∨ (e' t = e t ∧ ∀ V ∈ roots (e t), solid (e V) = true → e' V = e V)) : ∃ O', Fr P N w0 F0 Gff e' T w F O' ∧ ∀ t, (e' t = .dead → O' t = []) ∧ ∀ b ∈ O' t, b ∈ O t := by
 refine ⟨fun t => match e' t with | .dead => [] | _ => O t, h.less (fun t => ?_) (fun t => ?_), fun t => ⟨fun hz => by simp only [hz], fun b hb => ?_⟩⟩
 rotate_left 2
 ·simp only at hb
  split at hb
  ·cases hb
  ·exact hb
 ·rcases hle t with hz | ⟨hz, hv⟩
  ·rw [hz]; rfl
  ·have hrt : SRep P Gff w F T e' (T.getD t undef) (e t) (O t) := (h.rep t).slot fun V hV => ⟨rfl, hv V hV⟩
   rw [hz]
   cases hs : e t <;> rw [hs] at hrt <;> try exact hrt
   exact rfl
 ·split
  ·exact ⟨List.nodup_nil, fun b hb => by cases hb⟩
  ·exact ⟨h.nodup t, fun b hb => hb⟩
theorem noRoot_spec {E : Env} {ds : List Nat} (h : noRoot E ds = true) (t : Nat) : ∀ V ∈ roots (E.at t), V ∉ ds := by
 intro V hV hVd
 unfold noRoot at h
 rw [Bool.not_eq_true'] at h
 have := Env.at_any (p := fun s => (roots s).any fun V => memb V ds) h rfl t
 have h2 : ((roots (E.at t)).any fun V => memb V ds) = true := List.any_eq_true.2 ⟨V, hV, memb_iff.2 hVd⟩
 rw [h2] at this
 simp at this
theorem Kept.trans {s s' : Start} {w : World} (h : Kept s s'.w) (h' : Kept s' w) (hp : ∀ b, s.pr b → s'.pr b) : Kept s w :=
 ⟨h'.os.trans h.os, h'.tape.trans h.tape, h'.output.trans h.output, Nat.le_trans h.size h'.size, fun b hb => (h'.block b (hp b hb)).trans (h.block b hb)⟩
theorem Fr.restart {G : Nat × Bool → Bool} {e : Nat → S} {T : Array Value} {w : World} {F : Nat → Prop} {O : Nat → List Nat} (h : Fr P N w0 F0 G e T w F O) {N' : Nat} {w0' : Start} {F0' : Nat → Prop} (hN : slotN N' = slotN N) (hk : Kept w0' w) (ha : ∀ t, t < slotLo N' → T.getD t undef = w0'.args.getD t undef)
  (hs : ∀ b, F0' b → F b) (ho : ∀ b, F b → w0'.pr b → F0' b) (hown : ∀ t, ∀ b ∈ O t, ¬ w0'.pr b) : Fr P N' w0' F0' G e T w F O :=
 ⟨by rw [hN]; exact h.size, ha, hk, hs, h.lt, ho, h.rep, h.nodup, fun t b hb => ⟨hown t b hb, (h.own t b hb).2⟩, h.apart, h.lays⟩
theorem carry_ok {G1 G2 : Nat × Bool → Bool} {e1 eB eo eN eA : Nat → S} {dk : Option Nat} {s1 sA : S} {l : List Prop} (hc : carry1 e1 eB dk s1 sA = some l) (hl : ∀ p ∈ l, p) {w w1 : World} {F F1 : Nat → Prop} {T T' : Array Value} {v : Value} {O1 : List Nat} {O' : Nat → List Nat} (hx : Ext w F w1 F1) (hob : ∀ b ∈ O1, w1.heap[b]? = w.heap[b]?)
  (h1 : SRep P G1 w F T eo v s1 O1) (hN : Fr P N w0 F0 G2 eA T' w1 F1 O') (hT : ∀ V, dk ≠ some V → T'.getD V undef = T.getD V undef) (ho : ∀ V ∈ roots s1, solid (e1 V) = true → eo V = e1 V) (hn : ∀ V ∈ roots sA, eN V = eB V ∧ eA V = eB V) :
  SRep P G2 w1 F1 T' eN v sA O1 := by
 unfold carry1 at hc
 split at hc
 ·rename_i n τ x n' τ' x'
  split at hc
  ·rename_i hf
   simp only [Option.some.injEq] at hc
   subst hc
   have he := hl _ (List.mem_singleton.2 rfl)
   cases he
   obtain ⟨cs, k1, k2⟩ := h1
   rw [Bool.or_eq_true] at hf
   rcases hf with hf | hn0
   ·obtain ⟨hz, k3⟩ := k2.flat hf
    subst hz
    exact ⟨cs, k1, k3 _ _ _⟩
   ·obtain rfl := of_decide_eq_true hn0
    exact ⟨cs, k1, k2.mono hx fun b hb => .of_heap (hob b hb)⟩
  ·simp at hc
 ·rename_i V f V' f'
  split at hc
  ·rename_i hb
   simp only [Bool.and_eq_true] at hb
   obtain ⟨⟨hb1, hb2⟩, hb3⟩ := hb
   obtain rfl := Nat.eq_of_beq_eq_true hb1
   obtain rfl := Nat.eq_of_beq_eq_true hb2
   have hdk : dk ≠ some V := fun hd => by rw [hd] at hb3; simp at hb3
   split at hc
   ·rename_i n a x n' a' x' he1 heB
    split at hc
    ·rename_i haa
     subst haa
     have hmem : V ∈ roots (.ref V [.fld f]) := by simp [roots]
     have ho1 := ho V hmem (by rw [he1]; rfl)
     obtain ⟨hn1, hn2⟩ := hn V hmem
     obtain ⟨hz, b, o, τ', cs', hv, τ1, cs, l1, hroot, hpl⟩ := h1
     subst hz
     rw [ho1, he1] at hroot
     obtain ⟨rfl, b0, el, hp0, hh0, rfl⟩ := hroot
     obtain ⟨a1, ha1, _, _, hbo⟩ := hpl
     simp only [Option.map_some, Option.some.injEq, Prod.mk.injEq] at hbo
     obtain ⟨rfl, rfl⟩ := hbo
     have hr := hN.rep V
     rw [hn2, heB] at hr
     obtain ⟨b2, cs2, el2, O2, q1, q2, _, _⟩ := hr
     have hTV := hT V hdk
     rw [q1, hp0] at hTV
     simp only [Value.pointer.injEq, Option.some.injEq, Addr.mk.injEq, and_true] at hTV
     subst hTV
     refine ⟨rfl, _, _, a1, _, hv, .st a, cs2, some (_, 0), ?_, a1, ha1, rfl, rfl, rfl⟩
     rw [hn1, heB]
     exact ⟨rfl, _, el2, q1, q2, rfl⟩
    ·simp at hc
   ·simp at hc
  ·simp at hc
 ·rename_i V V'
  split at hc
  ·rename_i hb
   simp only [Bool.and_eq_true] at hb
   obtain ⟨hb1, hb3⟩ := hb
   obtain rfl := Nat.eq_of_beq_eq_true hb1
   have hdk : dk ≠ some V := fun hd => by rw [hd] at hb3; simp at hb3
   split at hc
   ·rename_i n τ x he1
    split at hc
    ·rename_i hpass
     have hmem : V ∈ roots (.bor V []) := by simp [roots]
     have ho1 := ho V hmem (by rw [he1]; rfl)
     obtain ⟨hn1, hn2⟩ := hn V hmem
     obtain ⟨hz, h1⟩ := h1
     subst hz
     obtain ⟨k1, _, _⟩ | ⟨τ', cs', l1, k1, τ1, cs, l0, hroot, hpl⟩ := h1
     ·rw [ho1, he1] at k1; simp [passive] at k1
     ·rw [ho1, he1] at hroot
      obtain ⟨rfl, k2, _⟩ := hroot
      obtain ⟨rfl, rfl, _⟩ := hpl
      exact ⟨rfl, .inl ⟨by rw [hn1]; exact hpass, rfl, by rw [hT V hdk]; exact k1.inj' k2⟩⟩
    ·split at hc
     ·rename_i n' τ' x' heB
      split at hc
      ·rename_i hτ
       subst hτ
       have hmem : V ∈ roots (.bor V []) := by simp [roots]
       have ho1 := ho V hmem (by rw [he1]; rfl)
       obtain ⟨hn1, hn2⟩ := hn V hmem
       obtain ⟨hz, h1⟩ := h1
       subst hz
       obtain ⟨k1, _, _⟩ | ⟨τ'', cs', l1, k1, τ1, cs, l0, hroot, hpl⟩ := h1
       ·rw [ho1, he1] at k1; simp [passive] at k1
       ·rw [ho1, he1] at hroot
        obtain ⟨rfl, k2, rfl⟩ := hroot
        obtain ⟨rfl, rfl, _⟩ := hpl
        refine ⟨rfl, .inr ⟨_, cs', none, k1, _, cs', none, ?_, rfl, rfl, rfl⟩⟩
        rw [hn1, heB]
        exact ⟨rfl, by rw [hT V hdk]; exact k2, rfl⟩
      ·simp at hc
     ·simp at hc
   ·simp at hc
  ·simp at hc
 ·simp at hc
theorem carryAll_spec {e1 eB : Nat → S} {dk : Option Nat} : ∀ {ds : List Nat} {l : List Prop}, carryAll e1 eB dk ds = some l → ∀ d ∈ ds, ∃ l', carry1 e1 eB dk (e1 d) (eB d) = some l' ∧ ∀ p ∈ l', p ∈ l
 | [], l, _, d, hd => by cases hd
 | d :: ds, l, h, d', hd => by
  simp only [carryAll] at h
  split at h
  ·rename_i l1 l2 h1 h2
   simp only [Option.some.injEq] at h
   subst h
   rcases List.mem_cons.1 hd with rfl | hd
   ·exact ⟨l1, h1, fun p hp => List.mem_append_left _ hp⟩
   ·obtain ⟨l', k1, k2⟩ := carryAll_spec h2 d' hd
    exact ⟨l', k1, fun p hp => List.mem_append_right _ (k2 p hp)⟩
  ·simp at h
theorem carry_roots {e1 eB : Nat → S} {dk : Option Nat} {s1 sA : S} {l : List Prop} (hc : carry1 e1 eB dk s1 sA = some l) : roots s1 = roots sA := by
 unfold carry1 at hc
 split at hc
 ·rfl
 ·split at hc
  ·rename_i hb
   simp only [Bool.and_eq_true] at hb
   obtain rfl := Nat.eq_of_beq_eq_true hb.1.1
   rfl
  ·simp at hc
 ·split at hc
  ·rename_i hb
   simp only [Bool.and_eq_true] at hb
   obtain rfl := Nat.eq_of_beq_eq_true hb.1
   rfl
  ·simp at hc
 ·simp at hc
end
end Go.Tom
set_option linter.unusedVariables false
set_option linter.unusedSimpArgs false
namespace Go.Tom
open Go
section
variable {P : Program} {N : Nat} {w0 : Start} {F0 : Nat → Prop} {Gff : Nat × Bool → Bool}
theorem dropS_ne {s : S} (h : solid s = true) : dropS s = s := by cases s <;> first | rfl | (simp [solid] at h; done)
theorem hasG_drop {g : Nat × Bool} {s : S} : hasG g (dropS s) = false := by cases s <;> rfl
theorem put_getD {a : Act} {o : Option Nat} {v : Value} {t : Nat} (h : o ≠ some t) : (a.put o v).tmps.getD t undef = a.tmps.getD t undef := by
 cases o with
 | none => rfl
 | some d =>
  have hne : d ≠ t := fun hc => h (by rw [hc])
  simp [Act.put, Array.getD_eq_getD_getElem?, Array.getElem?_setIfInBounds, hne]
theorem region_soundL (hm : P.follows .mixedOrders = true) {tys : Tys} (ht : tys.ok P = true) {A : Array Oper} {st st' : St} (hev : evalRegionL P tys N A.toList st = some st') (hobs : ∀ p ∈ st'.obs, p) {a : Act} {w : World} {F : Nat → Prop} {O : Nat → List Nat}
  (h : Fr P N w0 F0 Gff st.E.at a.tmps w F O) {dfs : List Deferred} (hdf : a.defers = dfs) {Q : Exit → Act → World → Prop} (hQ : ∀ a' w' F' O', a'.defers = dfs → Fr P N w0 F0 (Gf st'.G) st'.E.at a'.tmps w' F' O' → Q .normal a' w') : RegW P A true Q a w := by
 unfold evalRegionL at hev
 split at hev
 rotate_left
 ·simp at hev
 rename_i ok ds hok hds
 obtain ⟨k, hk⟩ : ∃ k, k = prefLen A.toList := ⟨_, rfl⟩
 rw [← hk] at hev hok hds
 obtain ⟨bk, hbk⟩ : ∃ bk, bk = (closAll A.toList []).getD k 0 := ⟨_, rfl⟩
 rw [← hbk] at hev
 obtain ⟨dsL, hdsL⟩ : ∃ dsL, dsL = notIn bk 0 ds := ⟨_, rfl⟩
 rw [← hdsL] at hev
 unfold regL0 at hev
 split at hev
 rotate_left
 ·simp at hev
 rename_i hc
 simp only [Bool.and_eq_true] at hc
 obtain ⟨⟨⟨⟨hdi, hfw⟩, htl⟩, hrt⟩, hout⟩ := hc
 split at hev
 rotate_left
 ·simp at hev
 rename_i st1 hany
 unfold regL1 at hev
 split at hev
 rotate_left
 ·simp at hev
 rename_i hr1
 split at hev
 rotate_left
 ·simp at hev
 rename_i stA hstA
 unfold regL2 at hev
 split at hev
 rotate_left
 ·simp at hev
 rename_i hcA
 simp only [Bool.and_eq_true] at hcA
 obtain ⟨hrA, hGA⟩ := hcA
 split at hev
 rotate_left
 ·simp at hev
 rename_i stB hlate
 unfold regL3 at hev
 split at hev
 rotate_left
 ·simp at hev
 rename_i lc hcarry
 have hGA' : stA.G = [] := List.isEmpty_iff.1 hGA
 have hdist := distinct_nodup hdi
 obtain ⟨hdl, hdd⟩ := dstsOf_spec hds
 have hokA : A[k]? = some ok := by simpa using hok
 have hkA : k < A.size := (Array.getElem?_eq_some_iff.1 hokA).1
 have hF : Fwd A := fun i o ho => by
  have hi : i < A.size := (Array.getElem?_eq_some_iff.1 ho).1
  have := fwdOk_spec hfw i (by rw [clos_len]; simpa using hi)
  simpa using this
 have hlater : ∀ m, m < (A.toList.take k).length → ∀ l, 0 + m ≤ l → ((closAll A.toList []).getD (0 + m) 0).testBit l = false := by
  intro m hml l hl
  have hi : m < A.size := by simp at hml; omega
  cases hb : ((closAll A.toList []).getD (0 + m) 0).testBit l with
  | false => rfl
  | true =>
   have := hF.bit (Array.getElem?_eq_getElem hi) (j := l) (by rwa [Nat.zero_add] at hb)
   omega
 have hpre : ∀ i o, i < k → A[i]? = some o → (A.toList.take k)[i]? = some o := by
  intro i o hi ho
  rw [List.getElem?_take_of_lt hi]
  simpa using ho
 have hdd' : ∀ (m : Nat) (o : Oper), (A.toList.take k)[m]? = some o → ∃ d, o.dst = some d ∧ ds[0 + m]? = some d := fun m o ho => by rw [Nat.zero_add]; exact hdd m o ho
 have hdl' : ds.length = 0 + (A.toList.take k).length := by rw [hdl]; simp
 obtain ⟨hG1, _, _, hoth, hfact⟩ := evalAny_facts hdist hany hdd' hlater hdl' (fun g c hgc => by simp [Gs.at] at hgc)
 obtain ⟨hGB, ⟨lB, hobsB⟩, hothB, hfactB⟩ := evalLate_facts hdist hlate hdd' hlater hdl' rfl
 obtain ⟨l2, hobs2⟩ := evalOps_obs hev
 obtain ⟨lA, hobsA⟩ := stepO_obs hstA
 have hobsC : ∀ p ∈ stB.obs ++ lc, p := fun p hp => hobs p (by rw [hobs2]; exact List.mem_append_left _ hp)
 have hobsB' : ∀ p ∈ stB.obs, p := fun p hp => hobsC p (List.mem_append_left _ hp)
 have hobsA' : ∀ p ∈ stA.obs, p := fun p hp => hobsB' p (by rw [hobsB]; exact List.mem_append_left _ hp)
 have hobs1 : ∀ p ∈ st1.obs, p := fun p hp => hobsA' p (by rw [hobsA]; exact List.mem_append_left _ hp)
 have hobsL : ∀ p ∈ lc, p := fun p hp => hobsC p (List.mem_append_right _ hp)
 have hroot0 : ∀ t, ∀ V ∈ roots (st.E.drop.at t), V ∉ ds := noRoot_spec hrt
 have hroute : ∀ t, t ∉ ds → st1.E.at t = st.E.drop.at t := by
  intro t htd
  rw [hoth t fun m _ hc => htd (List.mem_of_getElem? hc), Env.at_clear, if_neg]
  intro hmm
  exact htd (memb_iff.1 hmm)
 have hltk : ∀ t j, ds[j]? = some t → j < k := fun t j hj => by
  have := (List.getElem?_eq_some_iff.1 hj).1
  rw [hdl] at this
  simp at this
  omega
 have hlateIff : ∀ t, t ∈ dsL ↔ ∃ j, ds[j]? = some t ∧ bk.testBit j = false := by
  intro t
  rw [hdsL, notIn_mem]
  simp
 have hBoth : ∀ t, t ∉ dsL → stB.E.at t = stA.E.at t := by
  intro t htL
  rw [hothB t fun m _ hbm hc => htL ((hlateIff t).2 ⟨m, hc, hbm⟩), Env.at_clear, if_neg]
  exact fun hmm => htL (memb_iff.1 hmm)
 have hBroot : ∀ t, ∀ V ∈ roots (stB.E.at t), V ∉ dsL := by
  intro t V hV
  by_cases htL : t ∈ dsL
  ·obtain ⟨j, hj, hbj⟩ := (hlateIff t).1 htL
   have hjk := hltk _ _ hj
   have hjA : j < A.size := by omega
   have hf := hfactB j _ (hpre j _ hjk (Array.getElem?_eq_getElem hjA)) (by rw [Nat.zero_add]; exact hbj)
   rw [Nat.zero_add] at hf
   obtain ⟨d, _, s, _, _, hdst, _, _, _, hEd, _, hrs⟩ := hf
   obtain ⟨d', hd', hdj⟩ := hdd j _ (hpre j _ hjk (Array.getElem?_eq_getElem hjA))
   rw [hdst] at hd'
   obtain rfl := Option.some.inj hd'
   rw [hj] at hdj
   obtain rfl := Option.some.inj hdj
   rw [hEd] at hV
   rw [hdsL]
   exact hrs V hV
  ·rw [hBoth t htL] at hV
   exact noRoot_spec hrA t V hV
 obtain ⟨O1, hd1⟩ := h.drop (Gf2 := Gf st1.G)
 obtain ⟨O2, hd2⟩ := hd1.clear hroot0
 show wpAny P .any A Q A.size (Array.replicate A.size false) a { w with drawn := w.drawn + 1 }
 let I : Array Bool → Act → World → Prop := fun L a w => a.defers = dfs ∧
  (((∀ i, k ≤ i → L.getD i false = false) ∧ ∃ F O, Fr P N w0 F0 (Gf st1.G) (ED k ds L st1.E.at) a.tmps w F O) ∨
   ((L.getD k false = true ∧ (∀ i, k < i → L.getD i false = false) ∧ ∀ i, i < k → bk.testBit i = true → L.getD i false = true) ∧ ∃ F O, Fr P N w0 F0 (Gf []) (ED k ds L stB.E.at) a.tmps w F O) ∨
   (∃ m stm F O, k < m ∧ m ≤ A.size ∧ (∀ i, i < A.size → (L.getD i false = true ↔ i < m)) ∧ evalOps P tys N A.toList (A.toList.drop m) stm = some st' ∧ GOk A.toList stm.E.at stm.G ∧ Fr P N w0 F0 (Gf stm.G) stm.E.at a.tmps w F O))
 have EDall : ∀ (L : Array Bool) (e : Nat → S), (∀ i, i < k → L.getD i false = true) → ED k ds L e = e := by
  intro L e hall
  funext t
  unfold ED
  rw [if_neg]
  intro hp
  obtain ⟨i, hi, _, hLi⟩ := pending_iff.1 hp
  rw [hall i hi] at hLi
  simp at hLi
 have phase3 : ∀ (L : Array Bool) (a : Act) (w : World), I L a w → (∀ i, i ≤ k → L.getD i false = true) → a.defers = dfs ∧ ∃ m stm F O, k < m ∧ m ≤ A.size ∧ (∀ i, i < A.size → (L.getD i false = true ↔ i < m)) ∧ evalOps P tys N A.toList (A.toList.drop m) stm = some st' ∧ GOk A.toList stm.E.at stm.G ∧ Fr P N w0 F0 (Gf stm.G) stm.E.at a.tmps w F O := by
  intro L a w hI hall
  obtain ⟨hdf, ⟨hz, _⟩ | ⟨⟨_, hz, _⟩, F, O, hfr⟩ | hI⟩ := hI
  ·have := hz k (Nat.le_refl _)
   rw [hall k (Nat.le_refl _)] at this
   simp at this
  ·refine ⟨hdf, k + 1, ⟨stB.E, [], stB.sup, stB.obs ++ lc⟩, F, O, Nat.lt_succ_self _, hkA, fun i hi => ⟨fun hl => ?_, fun hl => hall i (by omega)⟩, hev, (fun g c hgc => by simp [Gs.at] at hgc), ?_⟩
   ·rcases Nat.lt_or_ge k i with hlt | hge
    ·rw [hz i hlt] at hl; simp at hl
    ·omega
   ·rw [EDall L _ fun i hi => hall i (by omega)] at hfr
    exact hfr
  ·exact ⟨hdf, hI⟩
 have hcount : (Array.replicate A.size false).toList.count false ≤ A.size := by simp
 refine any_of (I := I) hF ?_ ?_ A.size (Array.replicate A.size false) a _ (by simp) (fun i o ho hl => ?_) hcount ⟨hdf, .inl ⟨fun i _ => ?_, F, O2, ?_⟩⟩
 ·
  intro L i a w hsz hdown hi hLi hbits hI
  have ho : A[i]? = some A[i] := Array.getElem?_eq_getElem hi
  unfold wpOp
  rw [ho]
  simp only
  by_cases hik : i < k
  ·
   have hoi := hpre i _ hik ho
   obtain ⟨dI, hdI, hdsi⟩ := hdd i _ hoi
   have hdone : ∀ j, L.getD j false = true → ∀ l, ((closAll A.toList []).getD j 0).testBit l = true → L.getD l false = true := by
    intro j hj l hl
    cases hoj : A[j]? with
    | none =>
     rw [clos_none (by simpa using hoj)] at hl
     simp at hl
    | some oj => exact ready_bits hdown j hoj (hdown j oj hoj hj) l hl
   have hEDput : ∀ (e : Nat → S), ED k ds (L.setIfInBounds i true) e = fun t => if t = dI then e dI else ED k ds L e t := by
    intro e
    funext t
    by_cases htd : t = dI
    ·subst htd
     simp only [if_true]
     unfold ED
     rw [if_neg]
     intro hp
     obtain ⟨j, hjk, hdj, hLj⟩ := pending_iff.1 hp
     have := hdist _ _ _ hdsi hdj
     subst this
     rw [getD_setB (by omega), if_pos rfl] at hLj
     simp at hLj
    ·simp only [htd, if_false]
     unfold ED
     have hpp : pending k ds (L.setIfInBounds i true) t = pending k ds L t := by
      rw [Bool.eq_iff_iff, pending_iff, pending_iff]
      refine exists_congr fun j => and_congr_right fun hjk => and_congr_right fun hdj => ?_
      have hji : j ≠ i := fun hc => by
       subst hc
       rw [hdsi] at hdj
       exact htd (Option.some.inj hdj).symm
      rw [getD_setB (by omega), if_neg hji]
     rw [hpp]
   obtain ⟨hdf, hI | hI | ⟨m, _, _, _, hkm, _, hLm, _⟩⟩ := hI
   rotate_left
   ·
    obtain ⟨⟨hLk, hz, hnl⟩, F, O, hfr⟩ := hI
    have hbi : bk.testBit i = false := by
     cases hb : bk.testBit i with
     | false => rfl
     | true => rw [hnl i hik hb] at hLi; simp at hLi
    have hft := hfactB i _ hoi (by rw [Nat.zero_add]; exact hbi)
    rw [Nat.zero_add] at hft
    obtain ⟨d, sup, s, l, sup', hdst, hguard, hq, hl, hEd, hdN, hrs⟩ := hft
    rw [hdst] at hdI
    obtain rfl := Option.some.inj hdI
    have hvis : ∀ t, t ∉ notIn ((closAll A.toList []).getD i 0 ||| bk) 0 ds → ED k ds L stB.E.at t = stB.E.at t := by
     intro t htn
     unfold ED
     rw [if_neg]
     intro hp
     obtain ⟨j, hjk, hdj, hLj⟩ := pending_iff.1 hp
     refine htn (notIn_mem.2 ⟨j, hdj, ?_⟩)
     rw [Nat.zero_add, Nat.testBit_or, Bool.or_eq_false_iff]
     constructor
     ·cases hb : ((closAll A.toList []).getD i 0).testBit j with
      | false => rfl
      | true => rw [hbits j hb] at hLj; simp at hLj
     ·cases hb : bk.testBit j with
      | false => rfl
      | true => rw [hnl j hjk hb] at hLj; simp at hLj
    have hhide : ∀ t, t ∉ notIn ((closAll A.toList []).getD i 0 ||| bk) 0 ds → hide (notIn ((closAll A.toList []).getD i 0 ||| bk) 0 ds) stB.E.at t = ED k ds L stB.E.at t := by
     intro t htn
     rw [hvis t htn]
     unfold Tom.hide
     rw [if_neg]
     exact fun hmm => htn (memb_iff.1 hmm)
    have hnr : ∀ t, ∀ V ∈ roots (stB.E.at t), V ∉ notIn ((closAll A.toList []).getD i 0 ||| bk) 0 ds := fun t V hV hc => hBroot t V hV (by rw [hdsL]; exact notIn_or hc)
    obtain ⟨Oh, hfh⟩ := hfr.hide (e' := hide (notIn ((closAll A.toList []).getD i 0 ||| bk) 0 ds) stB.E.at) fun t => by
     by_cases htn : t ∈ notIn ((closAll A.toList []).getD i 0 ||| bk) 0 ds
     ·left
      unfold Tom.hide
      rw [if_pos (memb_iff.2 htn)]
     ·right
      refine ⟨hhide t htn, fun V hV => hhide V ?_⟩
      rw [hvis t htn] at hV
      exact hnr t V hV
    refine quiet_sound (e' := stB.E.at) hfh ht (fun t => ?_) (fun g c hgc => by simp [Gs.at] at hgc) hq (fun g c hgc => by simp [Gs.at] at hgc) (fun p hp => hobsB' p (hl p hp)) fun v w' F' On hout' hs => ?_
    ·unfold Tom.hide; split
     ·exact .inl rfl
     ·exact .inr rfl
    have hrs' : ∀ V ∈ roots s, V ∉ notIn ((closAll A.toList []).getD i 0 ||| bk) 0 ds := fun V hV hc => hrs V hV (notIn_or hc)
    have hs' : SRep P (Gf []) w' F' a.tmps (ED k ds L stB.E.at) v s On := hs.slot fun V hV => ⟨rfl, fun _ => (hhide V (hrs' V hV)).symm⟩
    have hdL : d ∈ dsL := (hlateIff d).2 ⟨i, hdsi, hbi⟩
    have hfree : ∀ t, d ∉ roots (ED k ds L stB.E.at t) := by
     intro t hdt
     unfold ED at hdt
     split at hdt
     ·simp [roots] at hdt
     ·exact hBroot t d hdt hdL
    have hput := hfr.put hdN hfree hout' hs' (fun hc => hrs d hc (by rw [← hdsL]; exact hdL))
    refine ⟨by rw [hdst]; exact hdf, .inr (.inl ⟨⟨?_, fun j hj => ?_, fun j hj hb => ?_⟩, F', (fun t => if t = d then On else O t), ?_⟩)⟩
    ·rw [getD_setB (by omega), if_neg (by omega)]; exact hLk
    ·rw [getD_setB (by omega), if_neg (by omega)]; exact hz j hj
    ·rw [getD_setB (by omega)]
     split
     ·rfl
     ·exact hnl j hj hb
    ·rw [hdst, hEDput, hEd]
     exact hput
   ·have := (hLm i hi).2 (by omega)
    rw [hLi] at this
    simp at this
   obtain ⟨hz, F, O, hfr⟩ := hI
   have hft := hfact i _ hoi
   rw [Nat.zero_add] at hft
   obtain ⟨d, es, G0, sup, s, l, sup', G1, hdst, hq, hle, hGes, hGle, hl, hEd, hdN, hrs⟩ := hft
   rw [hdst] at hdI
   obtain rfl := Option.some.inj hdI
   have hvis : ∀ t, t ∉ notIn ((closAll A.toList []).getD i 0) 0 ds → ED k ds L st1.E.at t = st1.E.at t := by
    intro t htn
    unfold ED
    rw [if_neg]
    intro hp
    obtain ⟨j, hjk, hdj, hLj⟩ := pending_iff.1 hp
    refine htn (notIn_mem.2 ⟨j, hdj, ?_⟩)
    rw [Nat.zero_add]
    cases hb : ((closAll A.toList []).getD i 0).testBit j with
    | false => rfl
    | true => rw [hbits j hb] at hLj; simp at hLj
   have hroots : ∀ t, t ∉ notIn ((closAll A.toList []).getD i 0) 0 ds → ∀ V ∈ roots (st1.E.at t), V ∉ notIn ((closAll A.toList []).getD i 0) 0 ds := by
    intro t htn V hV hVn
    obtain ⟨lv, hlv, hbv⟩ := notIn_mem.1 hVn
    rw [Nat.zero_add] at hbv
    by_cases htd : t ∈ ds
    ·obtain ⟨j, hj, rfl⟩ := List.getElem_of_mem htd
     have hdj : ds[j]? = some ds[j] := List.getElem?_eq_getElem hj
     have hbj : ((closAll A.toList []).getD i 0).testBit j = true := by
      cases hb : ((closAll A.toList []).getD i 0).testBit j with
      | true => rfl
      | false => exact absurd (notIn_mem.2 ⟨j, hdj, by rw [Nat.zero_add]; exact hb⟩) htn
     have hjk : j < k := hltk _ _ hdj
     have hjA : j < A.size := by omega
     have hoj : A[j]? = some A[j] := Array.getElem?_eq_getElem hjA
     have hoj' := hpre j _ hjk hoj
     have hfj := hfact j _ hoj'
     rw [Nat.zero_add] at hfj
     obtain ⟨dj, _, _, _, sj, _, _, _, hdstj, _, _, _, _, _, hEj, _, hrj⟩ := hfj
     obtain ⟨dj', hdj', hdsj⟩ := hdd j _ hoj'
     rw [hdstj] at hdj'
     obtain rfl := Option.some.inj hdj'
     rw [hdj] at hdsj
     obtain rfl := Option.some.inj hdsj
     rw [hEj] at hV
     refine hrj V hV (notIn_mem.2 ⟨lv, hlv, ?_⟩)
     rw [Nat.zero_add]
     cases hb : ((closAll A.toList []).getD j 0).testBit lv with
     | false => rfl
     | true => rw [clos_trans hF i ho j lv hbj hb] at hbv; simp at hbv
    ·rw [hroute t htd] at hV
     exact hroot0 t V hV (List.mem_of_getElem? hlv)
   have hhide : ∀ t, t ∉ notIn ((closAll A.toList []).getD i 0) 0 ds → hide (notIn ((closAll A.toList []).getD i 0) 0 ds) st1.E.at t = ED k ds L st1.E.at t := by
    intro t htn
    rw [hvis t htn]
    unfold Tom.hide
    rw [if_neg]
    exact fun hmm => htn (memb_iff.1 hmm)
   obtain ⟨Oh, hfh⟩ := hfr.hide (e' := hide (notIn ((closAll A.toList []).getD i 0) 0 ds) st1.E.at) fun t => by
    by_cases htn : t ∈ notIn ((closAll A.toList []).getD i 0) 0 ds
    ·left
     unfold Tom.hide
     rw [if_pos (memb_iff.2 htn)]
    ·right
     refine ⟨hhide t htn, fun V hV => hhide V ?_⟩
     rw [hvis t htn] at hV
     exact hroots t htn V hV
   refine quiet_sound hfh ht hle hGes hq (fun g c hgc => by simp [Gf, hGle g c hgc]) (fun p hp => hobs1 p (hl p hp)) fun v w' F' On hout' hs => ?_
   have hs' : SRep P (Gf st1.G) w' F' a.tmps (ED k ds L st1.E.at) v s On := hs.slot fun V hV => ⟨rfl, fun _ => (hhide V (hrs V hV)).symm⟩
   have hself : d ∈ notIn ((closAll A.toList []).getD i 0) 0 ds := notIn_mem.2 ⟨i, hdsi, by
    rw [Nat.zero_add]
    cases hb : ((closAll A.toList []).getD i 0).testBit i with
    | false => rfl
    | true => have := hF.bit ho hb; omega⟩
   have hfree : ∀ t, d ∉ roots (ED k ds L st1.E.at t) := by
    intro t hdt
    unfold ED at hdt
    split at hdt
    ·simp [roots] at hdt
    ·rename_i hp
     by_cases htd : t ∈ ds
     ·obtain ⟨j, hj, rfl⟩ := List.getElem_of_mem htd
      have hdj : ds[j]? = some ds[j] := List.getElem?_eq_getElem hj
      have hjk : j < k := hltk _ _ hdj
      have hjA : j < A.size := by omega
      have hLj : L.getD j false = true := by
       cases hb : L.getD j false with
       | true => rfl
       | false => exact absurd (pending_iff.2 ⟨j, hjk, hdj, hb⟩) hp
      have hoj : A[j]? = some A[j] := Array.getElem?_eq_getElem hjA
      have hoj' := hpre j _ hjk hoj
      have hfj := hfact j _ hoj'
      rw [Nat.zero_add] at hfj
      obtain ⟨dj, _, _, _, sj, _, _, _, hdstj, _, _, _, _, _, hEj, _, hrj⟩ := hfj
      obtain ⟨dj', hdj', hdsj⟩ := hdd j _ hoj'
      rw [hdstj] at hdj'
      obtain rfl := Option.some.inj hdj'
      rw [hdj] at hdsj
      obtain rfl := Option.some.inj hdsj
      rw [hEj] at hdt
      refine hrj d hdt (notIn_mem.2 ⟨i, hdsi, ?_⟩)
      rw [Nat.zero_add]
      cases hb : ((closAll A.toList []).getD j 0).testBit i with
      | false => rfl
      | true => rw [hdone j hLj i hb] at hLi; simp at hLi
     ·rw [hroute t htd] at hdt
      exact hroot0 t d hdt (List.mem_of_getElem? hdsi)
   have hput := hfr.put hdN hfree hout' hs' (fun hc => hrs d hc hself)
   refine ⟨by rw [hdst]; exact hdf, .inl ⟨fun j hj => ?_, F', (fun t => if t = d then On else O t), ?_⟩⟩
   ·rw [getD_setB (by omega), if_neg (by omega)]
    exact hz j hj
   ·rw [hdst, hEDput, hEd]
    exact hput
  ·by_cases hik' : i = k
   ·
    subst hik'
    obtain ⟨hdf, ⟨hz, F, O, hfr⟩ | ⟨⟨hLk, _, _⟩, _⟩ | ⟨m, _, _, _, hkm, _, hLm, _⟩⟩ := hI
    rotate_left
    ·rw [hLk] at hLi; simp at hLi
    ·have := (hLm i hi).2 (by omega)
     rw [hLi] at this
     simp at this
    have hoeq : A[i] = ok := by
     rw [ho] at hokA
     exact Option.some.inj hokA
    have hnp : ∀ t, t ∉ dsL → ED i ds L st1.E.at t = st1.E.at t := by
     intro t htL
     unfold ED
     rw [if_neg]
     intro hp
     obtain ⟨j, hjk, hdj, hLj⟩ := pending_iff.1 hp
     refine htL ((hlateIff t).2 ⟨j, hdj, ?_⟩)
     cases hb : bk.testBit j with
     | false => rfl
     | true => rw [hbits j (by rw [← hbk]; exact hb)] at hLj; simp at hLj
    have hEh : ∀ t, (st1.E.drop.clear dsL).at t = if memb t dsL then .dead else dropS (st1.E.at t) := fun t => by rw [Env.at_clear, Env.at_drop]
    obtain ⟨Oh, hfh, hOh⟩ := hfr.hide' (e' := (st1.E.drop.clear dsL).at) fun t => by
     by_cases htL : t ∈ dsL
     ·left; rw [hEh, if_pos (memb_iff.2 htL)]
     ·rw [hEh, if_neg (fun hmm => htL (memb_iff.1 hmm)), hnp t htL]
      cases hs : st1.E.at t with
      | cnd g s => left; rfl
      | _ =>
       right
       refine ⟨rfl, fun V hV hsol => ?_⟩
       have hVL : V ∉ dsL := by
        have := noRoot_spec hr1 t
        rw [hEh, if_neg (fun hmm => htL (memb_iff.1 hmm)), hs] at this
        exact this V hV
       rw [hnp V hVL] at hsol ⊢
       rw [hEh, if_neg (fun hmm => hVL (memb_iff.1 hmm)), dropS_ne hsol]
    have hfg := hfh.guards (Gf2 := Gf []) fun t g hg => by
     rw [hEh] at hg
     split at hg
     ·simp [hasG] at hg
     ·rw [hasG_drop] at hg; simp at hg
    rw [hoeq]
    have hOhL : ∀ t b, b ∈ Oh t → ∀ t', t' ∈ dsL → b ∉ O t' := fun t b hb t' ht' hb' => by
     have htL : t ∉ dsL := fun hc => by
      have := (hOh t).1 (by rw [hEh, if_pos (memb_iff.2 hc)])
      rw [this] at hb
      cases hb
     exact hfr.apart t t' (fun hc => htL (hc ▸ ht')) b ((hOh t).2 b hb) hb'
    refine stepO_sound (st := ⟨st1.E.drop.clear dsL, [], st1.sup, st1.obs⟩) ht hstA hobsA' (fun g c hgc => by simp [Gs.at] at hgc)
     (hfg.restart (w0' := ⟨w, fun b => w0.pr b ∨ F b ∨ ∃ t, t ∈ dsL ∧ b ∈ O t, fun b hb => by
      rcases hb with hb | hb | ⟨t, _, hb⟩
      ·exact Nat.lt_of_lt_of_le (w0.lt b hb) hfg.below.size
      ·exact hfg.lt b hb
      ·exact (hfr.own t b hb).2.1, w0.args, w0.round, w0.dfs⟩) (F0' := F) rfl (Kept.refl _) hfg.fixed (fun b hb => hb) (fun b hb _ => hb) fun t b hb hc => by
       rcases hc with hc | hc | ⟨t', ht', hc⟩
       ·exact (hfg.own t b hb).1 hc
       ·exact (hfg.own t b hb).2.2 hc
       ·exact hOhL t b hb t' ht' hc) fun v w1 F1 O1 hGn hfnR => ?_
    have hext : Ext w F w1 F1 := ⟨hfnR.sub, fun b hb => hfnR.below.block b (.inr (.inl hb)), hfnR.lt⟩
    have hlateB : ∀ t ∈ dsL, ∀ b ∈ O t, w1.heap[b]? = w.heap[b]? ∧ ¬ F1 b ∧ ∀ u, b ∉ O1 u := fun t htL b hb =>
     ⟨hfnR.below.block b (.inr (.inr ⟨t, htL, hb⟩)), fun hc => (hfr.own t b hb).2.2 (hfnR.old b hc (.inr (.inr ⟨t, htL, hb⟩))), fun u hc => (hfnR.own u b hc).1 (.inr (.inr ⟨t, htL, hb⟩))⟩
    have hfn := hfnR.restart (w0' := w0) (F0' := F0) rfl (hfg.below.trans hfnR.below fun b hb => .inl hb) hfnR.fixed (fun b hb => hfnR.sub b (hfg.sub b hb)) (fun b hb hp => hfg.old b (hfnR.old b hb (.inl hp)) hp) fun t b hb hp => (hfnR.own t b hb).1 (.inl hp)
    have hsz1 : w.heap.size ≤ w1.heap.size := hfnR.below.size
    rw [hGA'] at hfn
    obtain ⟨O3, hfc, hO3s⟩ := hfn.clear' (ds := dsL) (noRoot_spec hrA)
    have hO3 : ∀ t, t ∈ dsL → O3 t = [] := fun t htL => by
     have := hfc.rep t
     rw [Env.at_clear, if_pos (memb_iff.2 htL)] at this
     exact this
    have hdk : ∀ t ∈ dsL, ok.dst ≠ some t := fun t htL hc => by
     unfold dstOut at hout
     rw [hc] at hout
     simp only [Bool.not_eq_true'] at hout
     rw [memb_iff.2 htL] at hout
     simp at hout
    have hEA : ∀ t, t ∉ dsL → (stA.E.clear dsL).at t = stB.E.at t := fun t htL => by
     rw [hBoth t htL, Env.at_clear, if_neg fun hmm => htL (memb_iff.1 hmm)]
    have hEDB : ∀ t, t ∉ dsL → ED i ds (L.setIfInBounds i true) stB.E.at t = stB.E.at t := by
     intro t htL
     unfold ED
     rw [if_neg]
     intro hp
     obtain ⟨j, hjk, hdj, hLj⟩ := pending_iff.1 hp
     rw [getD_setB (by omega), if_neg (by omega)] at hLj
     refine htL ((hlateIff t).2 ⟨j, hdj, ?_⟩)
     cases hb : bk.testBit j with
     | false => rfl
     | true => rw [hbits j (by rw [← hbk]; exact hb)] at hLj; simp at hLj
    refine ⟨by cases ok.dst <;> exact hdf, .inr (.inl ⟨⟨?_, fun j hj => ?_, fun j hj hb => ?_⟩, F1, (fun t => if memb t dsL && !(pending i ds (L.setIfInBounds i true) t) then O t else O3 t), ?_⟩)⟩
    ·rw [getD_setB (by omega), if_pos rfl]
    ·rw [getD_setB (by omega), if_neg (by omega)]; exact hz j (by omega)
    ·rw [getD_setB (by omega), if_neg (by omega)]; exact hbits j (by rw [← hbk]; exact hb)
    ·have hcase : ∀ t, (memb t dsL && !(pending i ds (L.setIfInBounds i true) t)) = true → t ∈ dsL := fun t hc => by
      rw [Bool.and_eq_true] at hc
      exact memb_iff.1 hc.1
     refine ⟨hfc.size, hfc.fixed, hfc.below, hfc.sub, hfc.lt, hfc.old, fun t => ?_, fun t => ?_, fun t b hb => ?_, fun t t' htt b hb hb' => ?_, hfc.lays⟩
     rotate_left
     ·split
      ·exact hfr.nodup t
      ·exact hfc.nodup t
     ·split at hb
      ·rename_i hc
       obtain ⟨b1, b2, b3⟩ := hlateB t (hcase t hc) b hb
       obtain ⟨o1, o2, _⟩ := hfr.own t b hb
       exact ⟨o1, by omega, b2⟩
      ·exact hfc.own t b hb
     ·split at hb
      ·rename_i hc
       split at hb'
       ·exact hfr.apart t t' htt b hb hb'
       ·exact (hlateB t (hcase t hc) b hb).2.2 t' (hO3s t' b hb')
      ·split at hb'
       ·rename_i hc
        exact (hlateB t' (hcase t' hc) b hb').2.2 t (hO3s t b hb)
       ·exact hfc.apart t t' htt b hb hb'
     by_cases htL : t ∈ dsL
     ·
      unfold ED
      split
      ·rename_i hp
       simp only [hp, Bool.not_true, Bool.and_false, Bool.false_eq_true, if_false]
       exact hO3 t htL
      ·rename_i hp
       simp only [Bool.not_eq_true] at hp
       simp only [hp, memb_iff.2 htL, Bool.not_false, Bool.and_self, if_true]
       have hp : ¬ pending i ds (L.setIfInBounds i true) t = true := by rw [hp]; simp
       obtain ⟨j, hj, hbj⟩ := (hlateIff t).1 htL
       have hjk := hltk _ _ hj
       have hLj : L.getD j false = true := by
        cases hb : L.getD j false with
        | true => rfl
        | false =>
         exfalso
         refine hp (pending_iff.2 ⟨j, hjk, hj, ?_⟩)
         rw [getD_setB (by omega), if_neg (by omega)]
         exact hb
       obtain ⟨l', hc1, hl'⟩ := carryAll_spec hcarry t htL
       have hold := hfr.rep t
       have hnpt : ED i ds L st1.E.at t = st1.E.at t := by
        unfold ED
        rw [if_neg]
        intro hp'
        obtain ⟨j', hjk', hdj', hLj'⟩ := pending_iff.1 hp'
        have := hdist _ _ _ hj hdj'
        subst this
        rw [hLj] at hLj'
        simp at hLj'
       rw [hnpt] at hold
       rw [put_getD (hdk t htL)]
       have hrts := carry_roots hc1
       have hs1 : st1.E.drop.at t = st1.E.at t := by
        rw [Env.at_drop]
        cases hs : st1.E.at t with
        | cnd g s => rw [Env.at_drop, hs] at hc1; simp [dropS, carry1] at hc1
        | _ => rfl
       rw [hs1] at hc1 hrts
       exact carry_ok hc1 (fun p hp => hobsL p (hl' p hp)) hext (fun b hb => (hlateB t htL b hb).1) hold hfc (fun V hV => put_getD hV) (fun V hV hsol => by
        have hVL : V ∉ dsL := by rw [hrts] at hV; exact hBroot t V hV
        rw [hnp V hVL, Env.at_drop]
        rw [Env.at_drop] at hsol
        cases hs : st1.E.at V with
        | cnd g s => rw [hs] at hsol; simp [dropS, solid] at hsol
        | _ => rfl) (fun V hV => ⟨hEDB V (hBroot t V hV), hEA V (hBroot t V hV)⟩)
     ·have hm : memb t dsL = false := by
       cases hm : memb t dsL
       ·rfl
       ·exact absurd (memb_iff.1 hm) htL
      simp only [hm, Bool.false_and, Bool.false_eq_true, if_false]
      rw [hEDB t htL]
      have hr := hfc.rep t
      rw [hEA t htL] at hr
      refine hr.slot fun V hV => ⟨rfl, fun _ => ?_⟩
      have hVL := hBroot t V hV
      rw [hEDB V hVL, hEA V hVL]
   ·
    have hki : k < i := by omega
    have hbi : (closAll A.toList []).getD i 0 = 2 ^ i - 1 := by
     have := tailOk_spec htl i (by rw [clos_len]; simpa using hi) (by omega)
     simpa using this
    have hall : ∀ j, j < i → L.getD j false = true := fun j hj => hbits j (by rw [hbi, Nat.testBit_two_pow_sub_one]; simpa using hj)
    obtain ⟨hdf, m, stm, F, O, hkm, hmA, hLm, hevm, hGm, hfm⟩ := phase3 L a w hI (fun j hj => hall j (by omega))
    have him : i = m := by
     have h1 : ¬ i < m := fun hc => by rw [(hLm i hi).2 hc] at hLi; simp at hLi
     rcases Nat.lt_or_ge m i with hlt | hge
     ·have := (hLm m (by omega)).1 (hall m hlt)
      omega
     ·omega
    subst him
    have hdrop : A.toList.drop i = A[i] :: A.toList.drop (i + 1) := by
     rw [List.drop_eq_getElem_cons (by simpa using hi)]
     simp
    rw [hdrop] at hevm
    simp only [evalOps] at hevm
    split at hevm
    rotate_left
    ·simp at hevm
    rename_i stn hstn
    obtain ⟨l3, hl3⟩ := evalOps_obs hevm
    refine stepO_sound ht hstn (fun p hp => hobs p (by rw [hl3]; exact List.mem_append_left _ hp)) hGm hfm fun v w1 F1 O1 hGn hfn => ?_
    refine ⟨by cases A[i].dst <;> exact hdf, .inr (.inr ⟨i + 1, stn, F1, O1, by omega, by omega, fun j hj => ?_, hevm, hGn, hfn⟩)⟩
    rw [getD_setB (by omega)]
    split
    ·rename_i hji; subst hji; simp
    ·rw [hLm j hj]; omega
 ·
  intro L a w hsz hall hI
  obtain ⟨hdf, m, stm, F, O, hkm, hmA, hLm, hevm, hGm, hfm⟩ := phase3 L a w hI (fun j hj => hall j (by omega))
  have hmA' : m = A.size := by
   rcases Nat.lt_or_ge m A.size with hlt | hge
   ·have := (hLm m hlt).1 (hall m hlt); omega
   ·omega
  subst hmA'
  rw [List.drop_eq_nil_of_le (by simp)] at hevm
  simp only [evalOps, Option.some.injEq] at hevm
  subst hevm
  exact hQ a w F O hdf hfm
 ·
  exfalso
  simp only [Array.getD_eq_getD_getElem?, Array.getElem?_replicate] at hl
  split at hl <;> simp at hl
 ·simp only [Array.getD_eq_getD_getElem?, Array.getElem?_replicate]
  split <;> rfl
 ·have he : ED k ds (Array.replicate A.size false) st1.E.at = (st.E.drop.clear ds).at := by
   funext t
   unfold ED
   rw [Env.at_clear]
   by_cases htd : t ∈ ds
   ·obtain ⟨j, hj, rfl⟩ := List.getElem_of_mem htd
    rw [if_pos (pending_iff.2 ⟨j, hltk _ _ (List.getElem?_eq_getElem hj), List.getElem?_eq_getElem hj, by
     simp only [Array.getD_eq_getD_getElem?, Array.getElem?_replicate]
     split <;> rfl⟩), if_pos (memb_iff.2 htd)]
   ·rw [if_neg, if_neg, hroute t htd]
    ·exact fun hmm => htd (memb_iff.1 hmm)
    ·intro hp
     obtain ⟨j, _, hdj, _⟩ := pending_iff.1 hp
     exact htd (List.mem_of_getElem? hdj)
  rw [he]
  exact hd2.drew
def evalRL (P : Program) (tys : Tys) (N : Nat) (A : Array Oper) (E : Env) (sup : List Sup) (l : List (Nat × Lv)) : Option (Env × List Prop) :=
 match evalRegionL P tys N A.toList ⟨E, [], sup, []⟩ with
 | some st => match st.E.drop.keep l with
  | some E' => some (E', st.obs)
  | none => none
 | none => none
theorem evalRegionL_plain {P : Program} {tys : Tys} {N : Nat} {A : Array Oper} {st st' : St} (h : evalRegionL P tys N A.toList st = some st') : ∀ (i : Nat) (o : Oper), A[i]? = some o → noDefer o := by
 intro i o ho
 have hm : o ∈ A.toList := by
  have := Array.mem_of_getElem? ho
  simpa using this
 unfold evalRegionL at h
 split at h
 rotate_left
 ·simp at h
 rename_i ok ds hok hds
 unfold regL0 at h
 split at h
 rotate_left
 ·simp at h
 split at h
 rotate_left
 ·simp at h
 rename_i st1 h1
 unfold regL1 at h
 split at h
 rotate_left
 ·simp at h
 split at h
 rotate_left
 ·simp at h
 rename_i stA hA
 unfold regL2 at h
 split at h
 rotate_left
 ·simp at h
 split at h
 rotate_left
 ·simp at h
 unfold regL3 at h
 split at h
 rotate_left
 ·simp at h
 rw [← List.take_append_drop (prefLen A.toList) A.toList] at hm
 rcases List.mem_append.1 hm with hm | hm
 ·exact evalAny_plain h1 o hm
 ·obtain ⟨hlt, hge⟩ := List.getElem?_eq_some_iff.1 hok
  rw [List.drop_eq_getElem_cons hlt, hge] at hm
  rcases List.mem_cons.1 hm with rfl | hm
  ·exact stepO_plain hA
  ·exact evalOps_plain h o hm
theorem W_regionL {Q : Exit → Act → World → Prop} {k : List KI} {E : Env} (hm : P.follows .mixedOrders = true) {tys : Tys} (ht : tys.ok P = true) {id : Nat} {A : Array Oper} {sup : List Sup} {l : List (Nat × Lv)} {E' : Env} {obs : List Prop} (hev : evalRL P tys N A E sup l = some (E', obs)) (hobs : AllP obs)
  (h : W P N w0 F0 Q k E') : W P N w0 F0 Q (.code (.region id A true) :: k) E := by
 unfold evalRL at hev
 split at hev
 ·rename_i st hst
  split at hev
  ·rename_i E1 hk
   simp only [Option.some.injEq, Prod.mk.injEq] at hev
   obtain ⟨rfl, rfl⟩ := hev
   intro a w hh
   obtain ⟨hd, Gff, F, O, hf⟩ := hh
   refine RegW.cw hm (evalRegionL_plain hst) (region_soundL hm ht hst (AllP_iff.1 hobs) hf hd fun a' w' F' O' hd' hf' => ?_)
   obtain ⟨O2, hdr⟩ := hf'.drop (Gf2 := Gff)
   obtain ⟨F3, O3, hk3⟩ := hdr.keep hk
   exact h a' w' ⟨hd', Gff, F3, O3, hk3⟩
  ·simp at hev
 ·simp at hev
end
end Go.Tom
set_option linter.unusedVariables false
set_option linter.unusedSimpArgs false
namespace Go.Tom
open Go
def iterF {α β : Type} (F : (α → Option β) → α → Option β) : Nat → α → Option β
 | 0 => fun _ => none
 | n + 1 => F (iterF F n)
open Classical in
noncomputable def fixM {α β : Type} (F : (α → Option β) → α → Option β) (x : α) : Option β :=
 if h : ∃ r, ∃ n, ∀ m, n ≤ m → iterF F m x = some r then some (Classical.choose h) else none
theorem fixM_of {α β : Type} {F : (α → Option β) → α → Option β} {x : α} {r : β} (n : Nat) (h : ∀ m, n ≤ m → iterF F m x = some r) : fixM F x = some r := by
 have hh : ∃ r, ∃ n, ∀ m, n ≤ m → iterF F m x = some r := ⟨r, n, h⟩
 unfold fixM
 rw [dif_pos hh]
 obtain ⟨n', h'⟩ := Classical.choose_spec hh
 have h1 := h (max n n') (Nat.le_max_left ..)
 have h2 := h' (max n n') (Nat.le_max_right ..)
 rw [h1] at h2
 exact h2.symm
theorem fixM_ind {α β : Type} {F : (α → Option β) → α → Option β} {C : α → β → Prop} (hF : ∀ self, (∀ x r, self x = some r → C x r) → ∀ x r, F self x = some r → C x r) {x : α} {r : β} (h : fixM F x = some r) : C x r := by
 have key : ∀ n x r, iterF F n x = some r → C x r := by
  intro n
  induction n with
  | zero => intro x r h; simp [iterF] at h
  | succ n ih => intro x r h; exact hF _ ih x r h
 unfold fixM at h
 split at h
 ·rename_i hh
  obtain ⟨n, hn⟩ := Classical.choose_spec hh
  simp only [Option.some.injEq] at h
  rw [h] at hn
  exact key n x r (hn n (Nat.le_refl _))
 ·simp at h
end Go.Tom
set_option linter.unusedVariables false
set_option linter.unusedSimpArgs false
namespace Go.Tom
open Go Go.WideShapes
def Wf : (τ : Ty) → τ.den → Prop
 | .int k, x => (Lit.int k x).wf = true
 | .bool, _ => True
 | .str, s => s.size ≤ maxLen
 | .slice e, xs => xs.length ≤ maxLen ∧ ∀ x ∈ xs, Wf e x
 | .prod a b, x => Wf a x.1 ∧ Wf b x.2
 | .st a, x => Wf a x
 | .cptr _, _ => True
 | .fn _ _, _ => True
theorem vs_cells {P : Program} {w : World} {r : Reach} {base : Nat} {t : TypeId} {τ : Ty} (h : TyOk P t τ) (hd : τ.data = true) {v : Value} (hv : Value.okWide P w r base t v) : VS τ v v.cells.toList := by
 cases τ with
 | int k => obtain ⟨n, rfl⟩ := okWide_int h.int hv; rfl
 | bool => obtain ⟨n, rfl⟩ := okWide_bool h.bool hv; rfl
 | str => obtain ⟨n, rfl⟩ := okWide_string h.str hv; rfl
 | slice e => obtain ⟨E, hE, _⟩ := h.slice; obtain ⟨a, l, c, rfl⟩ := okWide_slice hE hv; rfl
 | st a => obtain ⟨fs, hfs, _⟩ := h.st; obtain ⟨cs, rfl, _⟩ := okWide_struct hfs hv; show Value.agg cs = .agg cs.toList.toArray; simp
 | prod a b => simp [TyOk, okB] at h
 | cptr a => simp [Ty.data] at hd
 | fn a r => simp [Ty.data] at hd
theorem TyOk.cells {P : Program} {T : TypeId} {τ : Ty} (h : TyOk P T τ) : P.cellsOf T = τ.sz := by
 obtain ⟨i, hi, hs, _⟩ := h.info
 simp [Program.cellsOf, hi, hs]
theorem trod_rep {H : Type} {enc : TypeId × Value → H} {P : Program} {w : World} : ∀ (τ : Ty), τ.data = true →
  (∀ {t : TypeId} {fuel : Nat} {cs : List Value} {x : DataW H × List MemPlace}, TyOk P t τ → DataW.trod enc P w 0 (fun _ => true) true fuel t cs = some x → ∃ v : τ.den, Rep P τ 0 w (fun b => b < w.heap.size) v cs [] ∧ Wf τ v) ∧
  (∀ {fs : Array Field} {i off n : Nat} {cs : List Value}, (okB P τ).2 fs i off = true → (∀ (j : Nat) (f : Field), fs[j]? = some f → ∃ y, DataW.trod enc P w 0 (fun _ => true) true n f.type ((cs.drop f.offset).take (P.cellsOf f.type)) = some y) →
   off + τ.sz ≤ cs.length → ∃ v : τ.den, Rep P τ 0 w (fun b => b < w.heap.size) v ((cs.drop off).take τ.sz) [] ∧ Wf τ v) := by
 have leaf : ∀ (τ : Ty), τ.isProd = false → (∀ {t : TypeId} {fuel : Nat} {cs : List Value} {x : DataW H × List MemPlace}, TyOk P t τ → DataW.trod enc P w 0 (fun _ => true) true fuel t cs = some x → ∃ v : τ.den, Rep P τ 0 w (fun b => b < w.heap.size) v cs [] ∧ Wf τ v) →
   (∀ {fs : Array Field} {i off n : Nat} {cs : List Value}, (okB P τ).2 fs i off = true → (∀ (j : Nat) (f : Field), fs[j]? = some f → ∃ y, DataW.trod enc P w 0 (fun _ => true) true n f.type ((cs.drop f.offset).take (P.cellsOf f.type)) = some y) →
   off + τ.sz ≤ cs.length → ∃ v : τ.den, Rep P τ 0 w (fun b => b < w.heap.size) v ((cs.drop off).take τ.sz) [] ∧ Wf τ v) := by
  intro τ hp h fs i off n cs hok hr hlen
  rw [okB_leaf τ hp] at hok
  unfold leafB at hok
  split at hok
  ·rename_i f hf
   simp only [Bool.and_eq_true, beq_iff_eq] at hok
   obtain ⟨⟨⟨ho, hT⟩, _⟩, _⟩ := hok
   obtain ⟨y, hy⟩ := hr i f hf
   rw [ho, TyOk.cells (τ := τ) hT] at hy
   exact h hT hy
  ·simp at hok
 intro τ
 induction τ with
 | int k =>
  intro _
  have h1 : ∀ {t : TypeId} {fuel : Nat} {cs : List Value} {x : DataW H × List MemPlace}, TyOk P t (.int k) → DataW.trod enc P w 0 (fun _ => true) true fuel t cs = some x → ∃ v : (Ty.int k).den, Rep P (.int k) 0 w (fun b => b < w.heap.size) v cs [] ∧ Wf (.int k) v := fun ht h => by
   obtain ⟨n, rfl, _, hw⟩ := DataW.trod_int ht.int h
   exact ⟨n, ⟨rfl, rfl⟩, hw⟩
  exact ⟨h1, leaf _ rfl h1⟩
 | bool =>
  intro _
  have h1 : ∀ {t : TypeId} {fuel : Nat} {cs : List Value} {x : DataW H × List MemPlace}, TyOk P t .bool → DataW.trod enc P w 0 (fun _ => true) true fuel t cs = some x → ∃ v : Ty.bool.den, Rep P .bool 0 w (fun b => b < w.heap.size) v cs [] ∧ Wf .bool v := fun ht h => by
   obtain ⟨n, rfl, _⟩ := DataW.trod_bool ht.bool h
   exact ⟨n, ⟨rfl, rfl⟩, trivial⟩
  exact ⟨h1, leaf _ rfl h1⟩
 | str =>
  intro _
  have h1 : ∀ {t : TypeId} {fuel : Nat} {cs : List Value} {x : DataW H × List MemPlace}, TyOk P t .str → DataW.trod enc P w 0 (fun _ => true) true fuel t cs = some x → ∃ v : Ty.str.den, Rep P .str 0 w (fun b => b < w.heap.size) v cs [] ∧ Wf .str v := fun ht h => by
   obtain ⟨n, rfl, _, hs⟩ := DataW.trod_string ht.str h
   exact ⟨n, ⟨rfl, rfl⟩, hs⟩
  exact ⟨h1, leaf _ rfl h1⟩
 | cptr a _ => intro hd; simp [Ty.data] at hd
 | fn a r _ _ => intro hd; simp [Ty.data] at hd
 | slice e ih =>
  intro hd
  obtain ⟨ih1, _⟩ := ih hd
  have h1 : ∀ {t : TypeId} {fuel : Nat} {cs : List Value} {x : DataW H × List MemPlace}, TyOk P t (.slice e) → DataW.trod enc P w 0 (fun _ => true) true fuel t cs = some x → ∃ v : (Ty.slice e).den, Rep P (.slice e) 0 w (fun b => b < w.heap.size) v cs [] ∧ Wf (.slice e) v := fun {t fuel cs x} ht h => by
   obtain ⟨E, hu, hE⟩ := ht.slice
   rcases Deep.open_slice hu h with ⟨rfl, _⟩ | ⟨a, len, cap, m, n, D, Pl, rfl, _, hlc, hcap, hm, _, hel⟩
   ·exact ⟨[], ⟨none, 0, [], [], rfl, Nat.le_refl _, rfl, rfl, fun i hi => absurd hi (by simp), .inl ⟨rfl, rfl, .inl rfl⟩⟩, by simp [Wf]⟩
   ·simp only [if_true] at hm
    have hsz := TyOk.cells (τ := e) hE
    rw [hsz] at hel
    have hel' : ∀ i, i < len → ∃ q : List Value × e.den, w.cells? 0 (a.add (i * e.sz)) e.sz = some q.1 ∧ Rep P e 0 w (fun b => b < w.heap.size) q.2 q.1 [] ∧ Wf e q.2 := fun i hi => by
     obtain ⟨cs', h1, h2⟩ := hel i (by omega)
     obtain ⟨v, hv, hw⟩ := ih1 hE h2
     exact ⟨(cs', v), h1, hv, hw⟩
    haveI : Inhabited (List Value × e.den) := ⟨([], e.zero)⟩
    obtain ⟨q, hq⟩ := Deep.choose_lt hel'
    have hlen : ∀ i, i < len → (q i).1.length = e.sz := fun i hi => (World.cells?_some (hq i hi).1).2.1
    refine ⟨(List.range len).map fun i => (q i).2, ⟨some a, cap, (List.range len).map fun i => (q i).1, (List.range len).map fun _ => [], by simp, by simpa using hlc, by simp, by simp, fun i hi h1 h2 => ?_, .inl ⟨rfl, ?_, ?_⟩⟩, ?_, ?_⟩
    ·simp only [List.length_map, List.length_range] at hi
     simp only [List.getElem_map, List.getElem_range]
     exact ⟨(hq i hi).2.1, hlen i hi⟩
    ·symm
     rw [List.flatten_eq_nil_iff]
     intro l hl
     obtain ⟨_, _, rfl⟩ := List.mem_map.1 hl
     rfl
    ·by_cases hz : len = 0
     ·left; subst hz; rfl
     ·right
      have hpos := Ty.sz_pos e
      obtain ⟨_, _, hc0⟩ := World.cells?_some (hq 0 (by omega)).1
      have h00 := hc0 0 hpos
      have hl0 := hlen 0 (by omega)
      rw [List.getElem?_eq_getElem (by omega)] at h00
      have hsp := World.cell?_spot h00
      obtain ⟨b, o, sp⟩ := a
      have hsp' : sp = none := by simpa [Addr.add] using hsp
      subst hsp'
      have hblk := World.block_lt_of_cell? w (a := _) h00
      refine ⟨b, o, rfl, by simpa [Addr.add] using hblk, fun i hi j hj => ?_⟩
      simp only [List.length_map, List.length_range] at hi
      simp only [List.getElem_map, List.getElem_range] at hj ⊢
      obtain ⟨_, _, hci⟩ := World.cells?_some (hq i hi).1
      have := hci j (by rw [hlen i hi] at hj; exact hj)
      rw [List.getElem?_eq_getElem hj, add_plain, add_plain] at this
      exact this
    ·simp only [List.length_map, List.length_range]; omega
    ·intro x hx
     obtain ⟨i, hi, rfl⟩ := List.mem_map.1 hx
     exact (hq i (List.mem_range.1 hi)).2.2
  exact ⟨h1, leaf _ rfl h1⟩
 | st a ih =>
  intro hd
  obtain ⟨_, ih2⟩ := ih hd
  have h1 : ∀ {t : TypeId} {fuel : Nat} {cs : List Value} {x : DataW H × List MemPlace}, TyOk P t (.st a) → DataW.trod enc P w 0 (fun _ => true) true fuel t cs = some x → ∃ v : (Ty.st a).den, Rep P (.st a) 0 w (fun b => b < w.heap.size) v cs [] ∧ Wf (.st a) v := fun {t fuel cs x} ht h => by
   obtain ⟨fs, hu, hfs, _⟩ := ht.st
   obtain ⟨xs, n, _, _, hl, hxl, hf⟩ := DataW.trod_struct hu h
   have hsz : P.cellsOf t = a.sz := TyOk.cells (τ := .st a) ht
   obtain ⟨v, hv, hw⟩ := ih2 (n := n) (cs := cs) hfs (fun j f hj => by
    have hlt := (Array.getElem?_eq_some_iff.1 hj).1
    have := hf j f hj
    rw [List.getElem?_eq_getElem (by omega)] at this
    exact ⟨_, this⟩) (by omega)
   rw [List.drop_zero, List.take_of_length_le (by omega)] at hv
   exact ⟨v, hv, hw⟩
  exact ⟨h1, leaf _ rfl h1⟩
 | prod a b iha ihb =>
  intro hd
  simp only [Ty.data, Bool.and_eq_true] at hd
  obtain ⟨ha1, _⟩ := iha hd.1
  obtain ⟨_, hb2⟩ := ihb hd.2
  refine ⟨fun ht => by simp [TyOk, okB] at ht, fun {fs i off n cs} hok hr hlen => ?_⟩
  simp only [okB, Bool.and_eq_true] at hok
  obtain ⟨hoka, hokb⟩ := hok
  simp only [Ty.sz] at hlen
  split at hoka
  ·rename_i f hf
   simp only [Bool.and_eq_true, beq_iff_eq] at hoka
   obtain ⟨⟨ho, hT⟩, _⟩ := hoka
   obtain ⟨y, hy⟩ := hr i f hf
   rw [ho, TyOk.cells (τ := a) hT] at hy
   obtain ⟨va, hva, wa⟩ := ha1 hT hy
   obtain ⟨vb, hvb, wb⟩ := hb2 hokb hr (by omega)
   refine ⟨(va, vb), ⟨_, _, [], [], ?_, rfl, hva.length, hvb.length, hva, hvb⟩, wa, wb⟩
   rw [Ty.sz, List.take_add, List.drop_drop]
  ·simp at hoka
theorem bool_res {P : Program} {w : World} {F : Nat → Prop} {b : Bool} {vr : List Value} {O : List Nat} (h : ResRep P w F [⟨0, .bool, b⟩] vr O) : vr = [.bool b] := by
 obtain ⟨v, vs', cs, O1, O2, rfl, _, hv, hr, rfl, _⟩ := h
 have hr' : cs = [.bool b] := hr.1
 subst hr'
 have : [Value.bool b] = [v] := hv
 simp only [List.cons.injEq, and_true] at this
 rw [this]
end Go.Tom
set_option linter.unusedVariables false
set_option linter.unusedSimpArgs false
namespace Go.Tom
open Go
section
variable {P : Program} {N : Nat} {w0 : Start} {F0 : Nat → Prop} {Q : Exit → Act → World → Prop} {k : List KI} {E : Env}
theorem run_nilcmp {w : World} {T : TypeId} {e : Ty} (hT : TyOk P T (.slice e)) {ad : Option Addr} {len cap : Nat} {xo yo : Operand} :
  (do eqGuard .eql T xo yo (.slice ad len cap) (.slice none 0 0); binOp .eql T (.slice ad len cap) (.slice none 0 0)).run P w = .ok (.bool ad.isNone) w := by
 obtain ⟨E, hu, hE⟩ := hT.slice
 have hq : (Op.equal T (.slice ad len cap) (.slice none 0 0)).run P w = .ok ad.isNone w := by
  have : Op.maxDepth = 9999 + 1 := rfl
  unfold Op.equal
  rw [this]
  unfold Op.equalIn
  cases ad <;> simp [run_underlying hu]
 simp [eqGuard, binOp, hq]
theorem W_nilcmp (hmx : P.follows .mixedOrders = true) {tys : Tys} (ht : tys.ok P = true) {id : Nat} {A : Array Oper} {o0 o1 : Oper} (hA : A = #[o0, o1]) {x d : Nat} {T : TypeId} {yy : TypeId} (hop : o1.op = .binOp .eql T (.tmp x) (.const (.slice none 0 0)) yy) (hg : o1.guard = none) (hd : o1.dst = some d)
  {E1 : Env} (h0 : stepO P tys N [o0, o1] o0 ⟨E.drop, [], [], []⟩ = some ⟨E1, [], [], []⟩) {n : Lv} {e : Ty} {xs : List e.den} (hx : E1.at x = .v n (.slice e) xs) (hT : tyAt tys T = some (.slice e)) (hf : free [o0, o1] N E1 [] d (.v 0 .bool true) = true)
  (h : ∀ β : Bool, (β = true → xs = []) → W P N w0 F0 Q k (E1.set d (.v 0 .bool β))) : W P N w0 F0 Q (.code (.region id A false) :: k) E := by
 intro a w hh
 obtain ⟨hdf, Gff, F, O, hfr⟩ := hh
 obtain ⟨O', hdr⟩ := hfr.drop (Gf2 := Gf [])
 subst hA
 obtain ⟨f1, f2, f3, f4⟩ := free_spec hf
 have hnd : ∀ (i : Nat) (o : Oper), (#[o0, o1] : Array Oper)[i]? = some o → noDefer o := by
  intro i o ho
  have hm := Array.mem_of_getElem? ho
  simp at hm
  rcases hm with rfl | rfl
  ·exact stepO_plain h0
  ·intro c hc; rw [hop] at hc; simp at hc
 refine RegW.cw (draw := false) hmx hnd ?_
 show wpOps P #[o0, o1] _ (List.range 2) a w
 rw [show List.range 2 = [0, 1] from rfl]
 simp only [wpOps, List.getElem?_toArray, List.getElem?_cons_zero, List.getElem?_cons_succ]
 refine stepO_sound (A := #[o0, o1]) ht h0 (fun p hp => by cases hp) (fun g c hgc => by simp [Gs.at] at hgc) hdr fun v w1 F1 O1 hG1 hf1 => ?_
 have hw : Region.wanted o1 (yielded #[o0, o1] (a.put o0.dst v).tmps) = true := by simp [Region.wanted, hg]
 rw [if_pos hw]
 left
 have hr := hf1.rep x
 rw [hx] at hr
 obtain ⟨cs, hvs, ad, cap, css, Os, rfl, hcap, hcl, hol, hre, hs⟩ := hr
 have hv : [Value.slice ad xs.length cap] = [(a.put o0.dst v).tmps.getD x undef] := hvs
 simp only [List.cons.injEq, and_true] at hv
 have hex : execOp (a.put o0.dst v).eval o1 = (do pure (.value (← (do eqGuard .eql T (.tmp x) (.const (.slice none 0 0)) (.slice ad xs.length cap) (.slice none 0 0); binOp .eql T (.slice ad xs.length cap) (.slice none 0 0))))) := by
  have h1 : (a.put o0.dst v).eval (.tmp x) = .slice ad xs.length cap := by rw [hv]; rfl
  have h2 : (a.put o0.dst v).eval (.const (.slice none 0 0)) = .slice none 0 0 := rfl
  simp only [execOp, hop, h1, h2]
 have hy : Yld P w1 F1 (Gf []) E1.at (a.put o0.dst v) (do eqGuard .eql T (.tmp x) (.const (.slice none 0 0)) (.slice ad xs.length cap) (.slice none 0 0); binOp .eql T (.slice ad xs.length cap) (.slice none 0 0)) (.v 0 .bool ad.isNone) :=
  Yld.same hf1 (run_nilcmp (w := w1) (tyAt_ok ht hT)) ⟨[.bool ad.isNone], rfl, rfl, rfl⟩
 refine QOk.yld (w := w1) hex hy _ _ fun v2 w2 F2 On ho hs2 => ?_
 have hp := hf1.put (d := d) (s := .v 0 .bool ad.isNone) f1 f2 ho hs2 (by simp [roots])
 refine h ad.isNone (fun hn => ?_) ((a.put o0.dst v).put o1.dst v2) w2 ⟨?_, Gf [], F2, (fun t => if t = d then On else O1 t), ?_⟩
 ·cases ad with
  | some ad => simp at hn
  | none =>
   rcases hs with ⟨_, _, hs | ⟨b, o, hbo, _⟩⟩ | ⟨_, hc0, _⟩ | ⟨_, b, o, hbo, _⟩
   ·exact hs
   ·simp at hbo
   ·exact List.eq_nil_of_length_eq_zero (by omega)
   ·simp at hbo
 ·rw [hd]; cases o0.dst <;> exact hdf
 ·rw [hd]
  have he : (E1.set d (.v 0 .bool ad.isNone)).at = fun t => if t = d then .v 0 .bool ad.isNone else E1.at t := by funext t; exact Env.at_set ..
  rw [he]
  exact hp
end
theorem clone_nil {α : Type} {xs : List α} {q : List α → Prop} (hx : xs = []) (h : Leads q (ass (((([] : List α).length + xs.length : Nat) : Int) ≤ limA) <| bnd (([] : List α) ++ xs) fun x => some x)) : Leads q (some []) := by
 subst hx
 obtain ⟨_, h⟩ := h.ass
 exact h
end Go.Tom
set_option linter.unusedVariables false
set_option linter.unusedSimpArgs false
namespace Go.Tom
open Go
def eachM {σ : Type} (f : σ → Int → Option σ) : List Int → σ → Option σ
 | [], s => some s
 | x :: l, s => (f s x).bind (eachM f l)
structure Backs (P : Program) (mk it : FuncId) : Prop where
 fmk : Fun P mk
 fit : Fun P it
 make : ∀ (w : World) (a : Option Addr) (len cap : Nat), Calls P mk #[.slice a len cap] w fun e w' => e = .returned (.func (.func it) #[] #[.pointer (some ⟨w.heap.size, 0, none⟩)]) ∧ ∃ T, w' = w.alloc (.cells #[.slice a len cap] T)
 iter : ∀ (l B cap : Nat) (a : Option Addr) (xs : List Int) (J : Nat → World → Prop) (Kp : World → Prop), (xs.length : Int) ≤ limA →
  (∀ W, Kp W → W.cell? ⟨B, 0, none⟩ = some (.slice a xs.length cap) ∧ ∀ (k : Nat) (h : k < xs.length), ∃ b o, a = some ⟨b, o, none⟩ ∧ W.cell? ⟨b, o + k, none⟩ = some (.int .i64 xs[k])) →
  (∀ (k : Nat) (h : k < xs.length) (W : World), J (k + 1) W → Kp W → YieldAt Fence.wide 0 P l #[.int .i64 (k : Int), .int .i64 xs[k]] W fun e W' => e = .returned (.bool true) ∧ J k W' ∧ Kp W') →
  ∀ W, J xs.length W → Kp W → CallsIn Fence.wide 0 P it #[.func (.yield l) #[] #[], .pointer (some ⟨B, 0, none⟩)] W fun e W' => (∃ v, e = .returned v) ∧ J 0 W' ∧ Kp W'
structure Tied (w0 : Start) (F0 : Nat → Prop) (w0' : Start) (D : Nat) : Prop where
 round : w0'.round = none
 dfs : w0'.dfs = [{ target := .collected D, args := #[] }]
 pr : ∀ b, w0.pr b → w0'.pr b
 prD : w0'.pr D
 kept : Kept w0 w0'.w
 cell : w0'.w.heap[D]? = some (.deferred (some []))
 f0 : ¬ F0 D
 old : ¬ w0.pr D
 args : w0'.args = w0.args
theorem Kept.putObj {s : Start} {w : World} (h : Kept s w) {r : Nat} (hr : ¬ s.pr r) (o : Obj) : Kept s (w.putObj r o) :=
 ⟨h.os, h.tape, h.output, by rw [World.putObj_size]; exact h.size, fun b hb => (World.putObj_heap_other (fun hc => hr (by rw [← hc]; exact hb))).trans (h.block b hb)⟩
def envLow (lo : Nat) (E : Env) : Bool := E.all fun q => Nat.blt q.1 lo && (roots q.2).all fun V => Nat.blt V lo
theorem envLow_at {lo : Nat} {E : Env} (h : envLow lo E = true) (t : Nat) : (lo ≤ t → E.at t = .dead) ∧ ∀ V ∈ roots (E.at t), V < lo := by
 induction E with
 | nil => exact ⟨fun _ => rfl, fun V hV => by simp [Env.at, roots] at hV⟩
 | cons q E ih =>
  obtain ⟨k, s⟩ := q
  simp only [envLow, List.all_cons, Bool.and_eq_true] at h
  have ih := ih h.2
  simp only [Env.at]
  split
  ·rename_i hb
   have htk := Nat.eq_of_beq_eq_true hb
   subst htk
   have : t < lo := Nat.le_of_ble_eq_true h.1.1
   exact ⟨fun hl => by omega, fun V hV => Nat.le_of_ble_eq_true (List.all_eq_true.1 h.1.2 V hV)⟩
  ·exact ih
section
variable {P : Program} {N : Nat} {w0 : Start} {w : World} {F0 F : Nat → Prop} {G : Nat × Bool → Bool} {e : Nat → S} {T : Array Value} {O : Nat → List Nat}
theorem Fr.back {E : Env} {lo : Nat} (h : Fr P N w0 F0 G E.at T w F O) (hE : envLow lo E = true) {T0 : Array Value} (hT : ∀ t, t < lo → T.getD t undef = T0.getD t undef) (hs : T0.size = slotN N) (hlo : slotLo N ≤ lo) :
  ∃ O', Fr P N w0 F0 G E.at T0 w F O' ∧ ∀ t, ∀ b ∈ O' t, b ∈ O t := by
 refine ⟨fun t => if t < lo then O t else [], ⟨hs, fun t ht => by rw [← hT t (by omega)]; exact h.fixed t ht, h.below, h.sub, h.lt, h.old, fun t => ?_, fun t => ?_, fun t b hb => ?_, fun t t' htt b hb hb' => ?_, h.lays⟩, fun t b hb => ?_⟩
 ·by_cases ht : t < lo
  ·simp only [ht, if_true]
   rw [← hT t ht]
   exact (h.rep t).slot fun V hV => ⟨(hT V ((envLow_at hE t).2 V hV)).symm, fun _ => rfl⟩
  ·simp only [ht, if_false]
   rw [(envLow_at hE t).1 (by omega)]
   rfl
 ·by_cases ht : t < lo
  ·simp only [ht, if_true]; exact h.nodup t
  ·simp only [ht, if_false]; exact List.nodup_nil
 ·by_cases ht : t < lo
  ·simp only [ht, if_true] at hb; exact h.own t b hb
  ·simp only [ht, if_false] at hb; cases hb
 ·by_cases ht : t < lo
  ·simp only [ht, if_true] at hb
   by_cases ht' : t' < lo
   ·simp only [ht', if_true] at hb'; exact h.apart t t' htt b hb hb'
   ·simp only [ht', if_false] at hb'; cases hb'
  ·simp only [ht, if_false] at hb; cases hb
 ·simp only at hb
  split at hb
  ·exact hb
  ·cases hb
theorem evalOps_pre {A : Array Oper} {tys : Tys} (ht : tys.ok P = true) {Q : Exit → Act → World → Prop} {dfs : List Deferred} {js : List Nat} : ∀ {rest : List Oper} {is : List Nat} {st st' : St} {a : Act} {w : World} {F : Nat → Prop} {O : Nat → List Nat}, is.map (A[·]?) = rest.map some → evalOps P tys N A.toList rest st = some st' → (∀ p ∈ st'.obs, p) → GOk A.toList st.E.at st.G →
  Fr P N w0 F0 (Gf st.G) st.E.at a.tmps w F O → a.defers = dfs → (∀ a' w' F' O', a'.defers = dfs → Fr P N w0 F0 (Gf st'.G) st'.E.at a'.tmps w' F' O' → wpOps P A Q js a' w') → wpOps P A Q (is ++ js) a w := by
 intro rest
 induction rest with
 | nil =>
  intro is st st' a w F O his hev _ _ h hdf hQ
  simp only [List.map_nil, List.map_eq_nil_iff] at his
  subst his
  simp only [evalOps, Option.some.injEq] at hev
  subst hev
  exact hQ a w F O hdf h
 | cons o rest ih =>
  intro is st st' a w F O his hev hl hG h hdf hQ
  cases is with
  | nil => simp at his
  | cons i is =>
   simp only [List.map_cons, List.cons.injEq] at his
   obtain ⟨hi, his⟩ := his
   simp only [evalOps] at hev
   split at hev
   ·rename_i st1 h1
    obtain ⟨l2, hl2⟩ := evalOps_obs hev
    simp only [List.cons_append, wpOps, hi]
    refine stepO_sound ht h1 (fun p hp => hl p (by rw [hl2]; exact List.mem_append_left _ hp)) hG h fun v w1 F1 O1 hG1 hf => ?_
    refine ih his hev hl hG1 hf ?_ hQ
    cases o.dst <;> exact hdf
   ·simp at hev
def QF : Exit → Act → World → Prop := fun _ _ _ => False
theorem QF_then {K : Act → World → Prop} : ¬ LetsOut (Exit.then K QF) := fun ⟨_, _, h⟩ => h
theorem W_retM {k : List KI} {E : Env} {tys : Tys} (ht : tys.ok P = true) {fn : Func} {rs : List Res} {w0' : Start} {D : Nat} (hT : Tied w0 F0 w0' D) (hN : slotLo N = 0) (hr : retRes tys E.at fn.results.toList = some rs) (hd : distinct (resSlots fn.results.toList) = true) :
  W P N w0' F0 (bodyPostM Fence.wide 0 P fn (Done P w0 F0 rs)) (.code .ret :: k) E := by
 intro a w hh
 obtain ⟨hdf, Gff, F, O, hf⟩ := hh
 have hcell : w.heap[D]? = some (.deferred (some [])) := (hf.below.block D hT.prD).trans hT.cell
 have hFD : ¬ F D := fun hc => hT.f0 (hf.old D hc hT.prD)
 have hf1 : Fr P N w0 F0 Gff E.at a.tmps w F O := hf.restart rfl (hT.kept.trans hf.below hT.pr) (fun t ht => by omega) hf.sub (fun b hb hp => hf.old b hb (hT.pr b hp)) fun t b hb hp => (hf.own t b hb).1 (hT.pr b hp)
 have hf2 := hf1.world (w1 := w.putObj D (.deferred none)) (hf1.below.putObj hT.old _) (by rw [World.putObj_size]; exact Nat.le_refl _) (fun b hb => World.putObj_heap_other fun hc => hFD (hc ▸ hb)) fun t b hb => World.putObj_heap_other fun hc => (hf.own t b hb).1 (by rw [hc]; exact hT.prD)
 obtain ⟨vr, On, h1, h2, h3, h4⟩ := ret_sound hf2 ht hr hd
 refine cw_ret (KQ_ret ?_)
 show LeavesInM Fence.wide 0 P fn a.tmps _ a.defers .returning w
 rw [hdf, hT.dfs]
 refine ⟨by simp, .inl ⟨D, _, rfl, run_takeDeferred hcell, ?_⟩⟩
 refine ⟨tupled vr, results_run h1, vr, F, On, rfl, h2, ⟨hf2.below, hf2.sub, hf2.lt, hf2.old, h3, fun b hb => ?_⟩⟩
 obtain ⟨t, _, hbt⟩ := h4 b hb
 exact hf2.own t b hbt
theorem acall_ofM {f : FuncId} {fn : Func} {c : Code} (hf : P.funcs[f]? = some fn) (hn : (fn.name == "runtime.NumGoroutine") = false) (hb : fn.body = some c) {args : List TV} {rs : List Res} (hlen : (Nat.ble args.length fn.ntmps && Nat.blt fn.ntmps 1048576) = true)
  (h : ∀ w0 F0, Plain w0 → W P fn.ntmps w0 F0 (bodyPostM Fence.wide 0 P fn (Done P w0 F0 rs)) [.code c] (argEnv 0 args)) : ACall P f args rs := by
 rw [Bool.and_eq_true] at hlen
 obtain ⟨hlen, hnt⟩ := hlen
 have hnt' : fn.ntmps < 1048576 := Nat.le_of_ble_eq_true hnt
 have hmod : slotN fn.ntmps = fn.ntmps := Nat.mod_eq_of_lt hnt'
 have hdiv : slotLo fn.ntmps = 0 := Nat.div_eq_of_lt hnt'
 refine ⟨⟨fn, hf, hn, by rw [hb]; rfl⟩, fun w F vs hlt hly hargs => ?_⟩
 have hl := hargs.len
 have hle := Nat.le_of_ble_eq_true hlen
 have hw : c.wp P (bodyPostM Fence.wide 0 P fn (Done P (Start.of w) F rs)) { tmps := vs.toArray ++ Array.replicate (fn.ntmps - vs.toArray.size) undef, defers := [] } w := by
  refine h (Start.of w) F ⟨rfl, rfl⟩ _ w ⟨rfl, fun _ => false, F, fun _ => [], ?_⟩
  have htm : vs.toArray ++ Array.replicate (fn.ntmps - vs.toArray.size) undef = ([] ++ vs ++ List.replicate (fn.ntmps - vs.length) undef).toArray := by
   apply Array.toList_inj.1; simp
  rw [htm]
  refine ⟨by rw [hmod]; simp [hl]; omega, (fun t ht => by rw [hdiv] at ht; omega), Kept.refl _, fun _ h => h, hlt, fun _ h _ => h, fun t => ?_, fun _ => List.nodup_nil, (fun _ b hb => by cases hb), (fun _ _ _ b hb => by cases hb), hly⟩
  exact argEnv_rep hargs rfl t (Nat.zero_le _) (.inl (by
   rw [List.getD_eq_getElem?_getD, List.getElem?_replicate]
   split <;> rfl))
 have hc := callsIn_of_wp_marks (F := Fence.wide) (n := 0) hf hb trivial (wpIn_wide.2 hw) rfl
 exact (callsIn_wide.1 hc).mono fun e w' ⟨vr, F', O, he, hr, ho⟩ => ⟨vr, F', O, he, hr, ho.of⟩
end
end Go.Tom
set_option linter.unusedVariables false
set_option linter.unusedSimpArgs false
namespace Go.Tom
open Go
section
variable {P : Program} {N : Nat} {w0 : Start} {w : World} {F0 F : Nat → Prop} {G : Nat × Bool → Bool} {T : Array Value} {O : Nat → List Nat}
theorem slotN_mul {lo N : Nat} (h : N < 1048576) : slotN (lo * 1048576 + N) = N ∧ slotLo (lo * 1048576 + N) = lo := by
 unfold slotN slotLo
 omega
theorem Fr.handed {E : Env} {lo : Nat} (h : Fr P N w0 F0 G E.at T w F O) (hE : envLow lo E = true) {pi px : Nat} (h1 : lo ≤ pi) (h2 : lo ≤ px) (h3 : pi < slotN N) (h4 : px < slotN N) (h5 : pi ≠ px) (hlo : slotLo N ≤ lo) (i : Value) (x : Int) :
  ∃ O', Fr P N w0 F0 G (Env.at ((px, .v 0 (.int .i64) x) :: E)) ((T.setIfInBounds pi i).setIfInBounds px (.int .i64 x)) w F O' ∧ ∀ t, ∀ b ∈ O' t, b ∈ O t := by
 have fre : ∀ {d : Nat}, lo ≤ d → ∀ t, d ∉ roots (E.at t) := fun hd t hc => by
  have := (envLow_at hE t).2 _ hc
  omega
 have l1 := h.lay (d := pi) (s := .dead) (v := i) (On := []) ⟨h3, .inl (by omega)⟩ (fre h1) rfl (by simp [roots]) List.nodup_nil (fun b hb => by cases hb)
 have e1 : (fun t => if t = pi then S.dead else E.at t) = E.at := by
  funext t
  split
  ·rename_i ht; rw [ht, (envLow_at hE pi).1 h1]
  ·rfl
 rw [e1] at l1
 have l2 := l1.lay (d := px) (s := .v 0 (.int .i64) x) (v := .int .i64 x) (On := []) ⟨h4, .inl (by omega)⟩ (fre h2) ⟨[.int .i64 x], rfl, rfl, rfl⟩ (by simp [roots]) List.nodup_nil (fun b hb => by cases hb)
 have e2 : (fun t => if t = px then S.v 0 (.int .i64) x else E.at t) = Env.at ((px, .v 0 (.int .i64) x) :: E) := by
  funext t
  simp only [Env.at]
  by_cases ht : t = px
  ·subst ht; simp
  ·have hb : Nat.beq t px = false := by
    cases hb : Nat.beq t px
    ·rfl
    ·exact absurd (Nat.eq_of_beq_eq_true hb) ht
   simp [ht, hb]
 rw [e2] at l2
 refine ⟨_, l2, fun t b hb => ?_⟩
 by_cases ht : t = px
 ·simp [ht] at hb
 ·simp only [ht, if_false] at hb
  by_cases ht' : t = pi
  ·simp [ht'] at hb
  ·simpa only [ht', if_false] using hb
def Env.pick (E : Env) (ls : List Nat) : Option Env :=
 if (ls.all fun t => (roots (E.at t)).all fun V => memb V ls) = true then some (ls.map fun t => (t, E.at t)) else none
theorem pick_at {E : Env} : ∀ {ls : List Nat} {t : Nat}, Env.at (ls.map fun t => (t, E.at t)) t = if memb t ls then E.at t else .dead
 | [], t => rfl
 | u :: ls, t => by
  simp only [List.map_cons, Env.at]
  by_cases h : Nat.beq t u = true
  ·have := Nat.eq_of_beq_eq_true h
   subst this
   have hm : memb t (t :: ls) = true := memb_iff.2 (List.mem_cons_self ..)
   rw [if_pos h, hm]
   rfl
  ·rw [if_neg h, pick_at]
   have hne : t ≠ u := fun hc => h (by rw [hc]; exact Nat.beq_refl u)
   have hm : memb t (u :: ls) = memb t ls := by
    rw [Bool.eq_iff_iff, memb_iff, memb_iff]
    simp [hne]
   rw [hm]
theorem Fr.pick {E E' : Env} {ls : List Nat} (h : Fr P N w0 F0 G E.at T w F O) (hk : E.pick ls = some E') : ∃ O', Fr P N w0 F0 G E'.at T w F O' := by
 unfold Env.pick at hk
 split at hk
 ·rename_i hc
  simp only [Option.some.injEq] at hk
  subst hk
  refine h.hide fun t => ?_
  by_cases hm : memb t ls = true
  ·right
   refine ⟨by rw [pick_at, if_pos hm], fun V hV => ?_⟩
   have := List.all_eq_true.1 (List.all_eq_true.1 hc t (memb_iff.1 hm)) V hV
   rw [pick_at, if_pos this]
  ·left
   rw [pick_at, if_neg hm]
 ·simp at hk
theorem toList_getD {T : Array Value} {t : Nat} : T.toList.getD t undef = T.getD t undef := by
 simp [List.getD_eq_getElem?_getD, Array.getD_eq_getD_getElem?]
theorem W_back {mk it : FuncId} (hb : Backs P mk it) {tys : Tys} (ht : tys.ok P = true) (hp : Plain w0) {Q : Exit → Act → World → Prop} {k : List KI} {E : Env} {id bi tr pi px tx lo : Nat} {A : Array Oper} {sup : List Sup} {pre : List Oper} {oc : Oper} {Ts : Array TypeId}
  (hA : A.toList = pre ++ [oc]) (hop : oc.op = .call ⟨.value (.func mk), #[.tmp tx], Ts⟩) (hg : oc.guard = none) (hdst : oc.dst = some tr) {st : St} (h1 : evalOps P tys N A.toList pre ⟨E.drop, [], sup, []⟩ = some st) (hobs : AllP st.obs)
  {l1 : List (Nat × Lv)} {l2 : List Nat} {E1 : Env} (h2 : st.E.drop.keep l1 = some E1) {xs : List Int} (hx : E1.at tx = .v 0 (.slice (.int .i64)) xs) (htr : (inN N tr && noRoot E1 [tr]) = true) {σ ρ : Type} {En : σ → Env} {s0 : σ} (h3 : (E1.set tr .dead).pick l2 = some (En s0))
  (hlim : (xs.length : Int) ≤ limA) (hlo : ∀ s, envLow lo (En s) = true) (hps : (Nat.ble lo pi && Nat.ble lo px && Nat.blt pi N && Nat.blt px N && !(Nat.beq pi px) && Nat.blt N 1048576) = true) {assign body : Code} {f : σ → Int → Option σ} {q : ρ → Prop} {g : σ → Option ρ}
  {Eb : σ → Int → Env}
  (hassign : ∀ w0r F0r s x (K : Act → World → Prop), (∀ a w, Hold P (lo * 1048576 + N) w0r F0r (Eb s x) a w → K a w) → W P (lo * 1048576 + N) w0r F0r QF [.code assign, .abs K] ((px, .v 0 (.int .i64) x) :: En s))
  (hbody : ∀ w0r F0r s x (K : Act → World → Prop), Leads (fun s' => ∀ a w, Hold P (lo * 1048576 + N) w0r F0r (En s') a w → K a w) (f s x) → W P (lo * 1048576 + N) w0r F0r QF [.code body, .abs K] (Eb s x))
  (h : Leads q ((eachM f xs.reverse s0).bind g)) (hcont : ∀ w0' D sf, Tied w0 F0 w0' D → Leads q (g sf) → W P N w0' F0 Q k (En sf)) :
  W P N w0 F0 Q (.code (.region id A false) :: .code (.block bi (.rangeFunc (.tmp tr) #[pi, px] assign body)) :: k) E := by
 intro a w hh
 obtain ⟨hdf, Gff, F, O, hf⟩ := hh
 rw [hp.1] at hdf
 rw [hp.2]
 simp only [Bool.and_eq_true, Bool.not_eq_true'] at hps htr
 obtain ⟨⟨⟨⟨⟨p1, p2⟩, p3⟩, p4⟩, p5⟩, p6⟩ := hps
 have p1 := Nat.le_of_ble_eq_true p1
 have p2 := Nat.le_of_ble_eq_true p2
 have p3 : pi < N := Nat.le_of_ble_eq_true p3
 have p4 : px < N := Nat.le_of_ble_eq_true p4
 have p6 : N < 1048576 := Nat.le_of_ble_eq_true p6
 have p5 : pi ≠ px := fun hc => by subst hc; simp at p5
 obtain ⟨hN1, hN2⟩ := slotN_mul (lo := lo) p6
 have hNN : slotN N = N := Nat.mod_eq_of_lt p6
 have hN0 : slotLo N = 0 := Nat.div_eq_of_lt p6
 have htrN := inN_spec htr.1
 have htrE : ∀ t, tr ∉ roots (E1.at t) := fun t hc => by
  have h5 := htr.2
  unfold noRoot at h5
  simp only [Bool.not_eq_true'] at h5
  have := Env.at_any (p := fun s => (roots s).any fun V => memb V [tr]) h5 rfl t
  have h2 : ((roots (E1.at t)).any fun V => memb V [tr]) = true := List.any_eq_true.2 ⟨tr, hc, memb_iff.2 (by simp)⟩
  rw [h2] at this
  simp at this
 cases heq : eachM f xs.reverse s0 with
 | none => rw [heq] at h; exact h.elim
 | some sf =>
 rw [heq] at h
 have hgsf : Leads q (g sf) := h
 obtain ⟨O', hd0⟩ := hf.drop (Gf2 := Gf [])
 show (Code.region id A false).wp P _ a w
 refine wp_region ?_
 have hsz : A.size = pre.length + 1 := by
  rw [← Array.length_toList, hA]; simp
 rw [hsz, List.range_succ]
 refine evalOps_pre ht (is := List.range pre.length) (rest := pre) ?_ h1 (AllP_iff.1 hobs) (fun g c hgc => by simp [Gs.at] at hgc) hd0 hdf fun a2 w2 F2 O2 hdf2 hf2 => ?_
 ·apply List.ext_getElem
  ·simp
  ·intro i i1 i2
   have hi : i < pre.length := by simpa using i2
   simp only [List.getElem_map, List.getElem_range]
   have : A[i]? = A.toList[i]? := by simp
   rw [this, hA, List.getElem?_append_left hi, List.getElem?_eq_getElem hi]
 have hoc : A[pre.length]? = some oc := by
  have : A[pre.length]? = A.toList[pre.length]? := by simp
  rw [this, hA]
  simp
 simp only [wpOps, hoc]
 have hw : Region.wanted oc (yielded A a2.tmps) = true := by simp [Region.wanted, hg]
 rw [if_pos hw]
 left
 obtain ⟨O3, hf3⟩ := hf2.drop (Gf2 := Gf [])
 obtain ⟨F4, O4, hf4⟩ := hf3.keep h2
 have hrx := hf4.rep tx
 rw [hx] at hrx
 obtain ⟨cs, hvs, hrep⟩ := hrx
 obtain ⟨ad, cap, css, Os, hcs, hcap, hcl, hol, hre, hs⟩ := hrep
 have hval : a2.tmps.getD tx undef = .slice ad xs.length cap := by
  have : cs = [a2.tmps.getD tx undef] := hvs
  rw [hcs] at this
  simpa using this.symm
 have hex : (execOp a2.eval oc).run P w2 = (callFunc mk #[.slice ad xs.length cap]).run P w2 := by
  have hmap : (#[Operand.tmp tx] : Array Operand).map a2.eval = #[Value.slice ad xs.length cap] := by
   have hv2 : a2.eval (.tmp tx) = .slice ad xs.length cap := hval
   simp [hv2]
  simp only [execOp, hop, resolve, hmap, Act.eval, Deferred.ofValue, Sem.run_bind, Sem.run_pure, Result.andThen_ok, invoke]
  congr 2
 unfold Oper.wp
 rw [hex, run_callFunc hb.fmk, Oper.upon_enter]
 refine (hb.make w2 ad xs.length cap).mono fun ed w3 ⟨he, Tc, hw3⟩ => ?_
 subst he
 subst hw3
 obtain ⟨B, hB⟩ : ∃ B, B = w2.heap.size := ⟨_, rfl⟩
 rw [← hB]
 obtain ⟨w3, hw3⟩ : ∃ w3, w3 = w2.alloc (.cells #[.slice ad xs.length cap] Tc) := ⟨_, rfl⟩
 rw [← hw3]
 have hold3 : ∀ b, b < w2.heap.size → w3.heap[b]? = w2.heap[b]? := fun b hb => by rw [hw3]; exact RowKit.Below.heap_alloc w2 _ b hb
 have hsz3 : w3.heap.size = w2.heap.size + 1 := by rw [hw3, World.size_alloc]
 have hf5 := hf4.world (w1 := w3) (by rw [hw3]; exact hf4.below.alloc _) (by omega) (fun b hb => hold3 b (hf4.lt b hb)) fun u b hb => hold3 b (hf4.own u b hb).2.1
 have hf6 := hf5.more (R := [B]) fun b hb => by
  rw [List.mem_singleton] at hb
  subst hb
  exact ⟨hf4.below.new (by omega), by omega, fun u hc => by have := (hf4.own u _ hc).2.1; omega⟩
 obtain ⟨F6, hF6⟩ : ∃ F6 : Nat → Prop, F6 = fun b => F4 b ∨ b ∈ [B] := ⟨_, rfl⟩
 rw [← hF6] at hf6
 have hFB : F6 B := by rw [hF6]; exact .inr (by simp)
 have hF4 : ∀ b, F4 b → F6 b := fun b hb => by rw [hF6]; exact .inl hb
 obtain ⟨fv, hfv⟩ : ∃ fv, fv = Value.func (.func it) #[] #[.pointer (some ⟨B, 0, none⟩)] := ⟨_, rfl⟩
 rw [← hfv]
 have hf7 := hf6.lay (d := tr) (s := .dead) (v := fv) (On := []) ⟨htrN.2, .inl htrN.1⟩ htrE rfl (by simp [roots]) List.nodup_nil (fun b hb => by cases hb)
 have e7 : (fun t => if t = tr then S.dead else E1.at t) = (E1.set tr .dead).at := by funext t; exact (Env.at_set ..).symm
 rw [e7] at hf7
 obtain ⟨O8, hf8⟩ := hf7.pick h3
 obtain ⟨a3, ha3⟩ : ∃ a3, a3 = a2.put oc.dst fv := ⟨_, rfl⟩
 show KQ P none (.code (.block bi (.rangeFunc (.tmp tr) #[pi, px] assign body)) :: k) Q .normal (a2.put oc.dst fv) w3
 rw [← ha3]
 have ha3t : a3.tmps = a2.tmps.setIfInBounds tr fv := by rw [ha3, hdst]; rfl
 have ha3d : a3.defers = [] := by rw [ha3, hdst]; exact hdf2
 rw [← ha3t] at hf8
 have ha3v : a3.eval (.tmp tr) = fv := by
  show a3.tmps.getD tr undef = fv
  rw [ha3t, getD_set (by rw [hf4.size]; exact htrN.2), if_pos rfl]
 show (Code.block bi (.rangeFunc (.tmp tr) #[pi, px] assign body)).wp P (KQ P none k Q) a3 w3
 refine wp_block (wpIn_wide (n := 0).1 (wpIn_rangeFunc fun fn _ => ?_))
 obtain ⟨D, hD⟩ : ∃ D, D = w3.heap.size := ⟨_, rfl⟩
 obtain ⟨l, hl⟩ : ∃ l, l = w3.heap.size + 1 := ⟨_, rfl⟩
 obtain ⟨rec, hrec⟩ : ∃ rec : LoopState → Option Code → Loop, rec = fun st pe => { state := st, pending := pe, fn, tmps := a3.tmps, params := #[pi, px], assign, body, defers := w3.heap.size } := ⟨_, rfl⟩
 obtain ⟨W1, hW1⟩ : ∃ W1, (w3.alloc (.deferred (some []))).alloc (.loop (rec .ready none)) = W1 := ⟨_, rfl⟩
 have hL1 : W1.heap[l]? = some (.loop (rec .ready none)) := by
  rw [← hW1, hl]; have := World.alloc_heap_new (w3.alloc (.deferred (some []))) (.loop (rec .ready none)); rwa [World.size_alloc] at this
 have hK1 : W1.heap[D]? = some (.deferred (some [])) := by
  rw [← hW1, hD]; exact (RowKit.Below.heap_alloc _ _ _ (by simp)).trans (World.alloc_heap_new w3 _)
 have hszW : W1.heap.size = w3.heap.size + 2 := by rw [← hW1, World.size_alloc, World.size_alloc]
 have holdW : ∀ b, b < w3.heap.size → W1.heap[b]? = w3.heap[b]? := fun b hb => by
  rw [← hW1]
  exact (RowKit.Below.heap_alloc _ _ b (by rw [World.size_alloc]; omega)).trans (RowKit.Below.heap_alloc w3 _ b hb)
 have hf9 := hf8.world (w1 := W1) (by rw [← hW1]; exact (hf8.below.alloc _).alloc _) (by omega) (fun b hb => holdW b (hf8.lt b hb)) fun u b hb => holdW b (hf8.own u b hb).2.1
 have hlt6 : ∀ b, F6 b → b < w3.heap.size := hf8.lt
 obtain ⟨PR, hPR⟩ : ∃ PR : Nat → Prop, PR = fun b => w0.pr b ∨ F6 b ∨ b = D := ⟨_, rfl⟩
 have hPRl : ¬ PR l := fun hc => by
  rw [hPR] at hc
  rcases hc with hc | hc | hc
  ·have h5 := w0.lt l hc
   have h6 := hf9.below.size
   have h7 := hf4.below.size
   omega
  ·have := hlt6 l hc; omega
  ·omega
 have hPRlt : ∀ b, PR b → b < W1.heap.size := fun b hb => by
  rw [hPR] at hb
  rcases hb with hb | hb | hb
  ·have h5 := w0.lt b hb
   have h6 := hf9.below.size
   omega
  ·have := hlt6 b hb; omega
  ·omega
 have hF6l : ¬ F6 l := fun hc => by have := hlt6 l hc; omega
 obtain ⟨w0r, hw0r⟩ : ∃ w0r : Start, w0r = ⟨W1, PR, hPRlt, a3.tmps.toList, some l, []⟩ := ⟨_, rfl⟩
 have hpr0 : ∀ b, w0r.pr b ↔ PR b := fun b => by rw [hw0r]
 have hprI : ∀ b, w0r.pr b ↔ (w0.pr b ∨ F6 b ∨ b = D) := fun b => by rw [hpr0, hPR]
 have hw0w : w0r.w = W1 := by rw [hw0r]
 have hw0a : w0r.args = a3.tmps.toList := by rw [hw0r]
 let St : σ → World → Prop := fun s W => W.heap[l]? = some (.loop (rec .ready none)) ∧ Kept w0r W ∧ ∃ G1 F1 O1, Fr P (lo * 1048576 + N) w0r F6 G1 (En s).at a3.tmps W F1 O1 ∧ ¬ F1 l ∧ ∀ t, l ∉ O1 t
 have hst0 : St s0 W1 := by
  refine ⟨hL1, by rw [hw0r]; exact Kept.refl _, Gf [], F6, O8, hf9.restart (by rw [hN1, hNN]) (by rw [hw0r]; exact Kept.refl _) (fun t _ => by rw [hw0r]; exact toList_getD.symm) (fun b hb => hb) (fun b hb _ => hb) (fun t b hb hc => ?_), hF6l, fun t hc => by have := (hf8.own t l hc).2.1; omega⟩
  rw [hprI] at hc
  obtain ⟨o1, o2, o3⟩ := hf8.own t b hb
  rcases hc with hc | hc | hc
  ·exact o1 hc
  ·exact o3 hc
  ·omega
 refine ⟨l, [{ target := .collected D, args := #[] }], W1, { target := .fn (.func it) #[.pointer (some ⟨B, 0, none⟩)], args := #[.func (.yield l) #[] #[]] }, W1, it, #[.func (.yield l) #[] #[]] ++ #[.pointer (some ⟨B, 0, none⟩)], W1, ?_, ?_, fun _ _ => trivial, ?_, fun hc => by simp [Fence.wide] at hc, ?_⟩
 ·rw [← hW1, hrec, hl, hD]
  exact run_enterLoop_outer fn a3.tmps #[pi, px] assign body
 ·simp only [resolve, ha3v, hfv]
  simp [go_sem]
 ·have hi := run_callFunc (P := P) (w := W1) hb.fit (#[.func (.yield l) #[] #[]] ++ #[.pointer (some ⟨B, 0, none⟩)])
  simpa [invoke, go_sem] using hi
 ·have hKp : ∀ W, Kept w0r W → W.cell? ⟨B, 0, none⟩ = some (.slice ad xs.length cap) ∧ ∀ (k : Nat) (h : k < xs.length), ∃ b o, ad = some ⟨b, o, none⟩ ∧ W.cell? ⟨b, o + k, none⟩ = some (.int .i64 xs[k]) := by
   intro W hkW
   have hsame : ∀ b, F6 b → W.heap[b]? = w3.heap[b]? := fun b hb => by
    have h5 := hkW.block b ((hprI b).2 (.inr (.inl hb)))
    rw [hw0w] at h5
    exact h5.trans (holdW b (hlt6 b hb))
   refine ⟨?_, fun k hk => ?_⟩
   ·have hBh : W.heap[B]? = some (.cells ([.slice ad xs.length cap] : List Value).toArray Tc (0, 0)) := by
     rw [hsame B hFB, hw3, hB]
     exact World.alloc_heap_new w2 _
    have := at_heap hBh 0 (by simp)
    simpa using this
   ·rcases hs with ⟨_, _, hn | ⟨b, o, had, hFb, hat⟩⟩ | ⟨hc, _⟩ | ⟨hc, _⟩
    ·rw [hn] at hk; simp at hk
    ·refine ⟨b, o, had, ?_⟩
     have h5 := hat k (by omega)
     have hce : css[k]'(by omega) = [.int .i64 xs[k]] := (hre k hk (by omega) (by omega)).1.1
     rw [hce] at h5
     have h6 := h5 0 (by simp)
     simp only [Ty.sz, Nat.mul_one, Nat.add_zero, List.getElem_cons_zero] at h6
     rw [← h6]
     exact cell?_congr (a := ⟨b, o + k, none⟩) ((hsame b (hF4 b hFb)).trans (hold3 b (hf4.lt b hFb)))
    ·exact absurd hc (by decide)
    ·exact absurd hc (by decide)
  have hround : ∀ (k : Nat) (h : k < xs.length) (W : World), (∃ s, St s W ∧ eachM f (xs.take (k + 1)).reverse s = some sf) → Kept w0r W → YieldAt Fence.wide 0 P l #[.int .i64 (k : Int), .int .i64 xs[k]] W fun e W' => e = .returned (.bool true) ∧ (∃ s, St s W' ∧ eachM f (xs.take k).reverse s = some sf) ∧ Kept w0r W' := by
   rintro k hk W ⟨s, ⟨hl0, hk0, G1, F1, O1, hfr, hFl1, hOl1⟩, hev⟩ _
   have hrv : (xs.take (k + 1)).reverse = xs[k] :: (xs.take k).reverse := by rw [List.take_succ_eq_append_getElem hk]; simp
   rw [hrv] at hev
   simp only [eachM] at hev
   cases hfs : f s xs[k] with
   | none => rw [hfs] at hev; simp at hev
   | some s' =>
   rw [hfs] at hev
   have hev : eachM f (xs.take k).reverse s' = some sf := hev
   have hFl : ∀ {b}, F1 b → PR b → F6 b := fun {b} hb hp => hfr.old b hb ((hpr0 b).2 hp)
   have hszk : W1.heap.size ≤ W.heap.size := by have := hk0.size; rw [hw0w] at this; exact this
   have hPlt : ∀ W' : World, W1.heap.size ≤ W'.heap.size → ∀ b, (PR b ∨ b = l) → b < W'.heap.size := fun W' h5 b hb => by
    rcases hb with hb | hb
    ·have := hPRlt b hb; omega
    ·omega
   have hyl : (Instr.yield l #[.int .i64 (k : Int), .int .i64 xs[k]]).run P W = .ok (.round l fn ((a3.tmps.setIfInBounds pi (.int .i64 (k : Int))).setIfInBounds px (.int .i64 xs[k])) assign body) W := by
    have := run_yield (P := P) (args := #[.int .i64 (k : Int), .int .i64 xs[k]]) hl0 (by rw [hrec]; rfl)
    rw [hrec] at this
    rw [this]
    simp
   refine ⟨fn, _, assign, body, hyl, roundIn_of_wpIn trivial ?_⟩
   have hnl : ¬ w0r.pr l := fun hc => hPRl ((hpr0 l).1 hc)
   obtain ⟨w0s, hw0s⟩ : ∃ w0s : Start, w0s = ⟨W, fun b => PR b ∨ b = l, hPlt W hszk, a3.tmps.toList, some l, []⟩ := ⟨_, rfl⟩
   have hfrs : Fr P (lo * 1048576 + N) w0s F6 G1 (En s).at a3.tmps W F1 O1 := hfr.restart rfl (by rw [hw0s]; exact Kept.refl _) (fun t _ => by rw [hw0s]; exact toList_getD.symm) hfr.sub (fun b hb hc => by
    rw [hw0s] at hc
    rcases hc with hc | hc
    ·exact hfr.old b hb ((hpr0 b).2 hc)
    ·exact absurd hb (by rw [hc]; exact hFl1)) fun t b hb hc => by
    rw [hw0s] at hc
    rcases hc with hc | hc
    ·exact (hfr.own t b hb).1 ((hpr0 b).2 hc)
    ·rw [hc] at hb; exact hOl1 t hb
   obtain ⟨Oh, hfrh, _⟩ := hfrs.handed (hlo s) p1 p2 (by rw [hN1]; exact p3) (by rw [hN1]; exact p4) p5 (by rw [hN2]; exact Nat.le_refl _) (.int .i64 (k : Int)) xs[k]
   have hsr : w0s.round = some l := by rw [hw0s]
   have hsd : w0s.dfs = [] := by rw [hw0s]
   have hspr : ∀ b, w0s.pr b ↔ (PR b ∨ b = l) := fun b => by rw [hw0s]
   have hsw : w0s.w = W := by rw [hw0s]
   have hsa : w0s.args = a3.tmps.toList := by rw [hw0s]
   have ha := hassign w0s F6 s xs[k] (fun a1 w1 => ∃ w2', (Instr.beginRound l).run P w1 = .ok () w2' ∧ body.wpIn (RF l) 0 P (roundPost P l fun e W' => e = .returned (.bool true) ∧ (∃ s, St s W' ∧ eachM f (xs.take k).reverse s = some sf) ∧ Kept w0r W') a1 w2') ?_
    { tmps := (a3.tmps.setIfInBounds pi (.int .i64 (k : Int))).setIfInBounds px (.int .i64 xs[k]), defers := [] } W ⟨hsd.symm, G1, F1, Oh, hfrh⟩
   ·rw [hsr] at ha
    refine wpIn_mono (ha QF_then) fun e a w he => ?_
    cases e <;> first
     | exact he
     | exact he.elim
   rintro a1 w1 ⟨hd1, Ga, Fa, Oa, hfa⟩
   have hla : w1.heap[l]? = some (.loop (rec .ready none)) := by
    have := hfa.below.block l ((hspr l).2 (.inr rfl))
    rw [hsw] at this
    exact this.trans hl0
   have hkr1 : Kept w0r w1 := Kept.trans (s' := w0s) (by rw [hsw]; exact hk0) hfa.below fun b hb => (hspr b).2 (.inl ((hpr0 b).1 hb))
   have hFal : ¬ Fa l := fun hc => hF6l (hfa.old l hc ((hspr l).2 (.inr rfl)))
   have hOal : ∀ t, l ∉ Oa t := fun t hc => (hfa.own t l hc).1 ((hspr l).2 (.inr rfl))
   have hfa1 : Fr P (lo * 1048576 + N) w0r F6 Ga (Eb s xs[k]).at a1.tmps w1 Fa Oa := hfa.restart rfl hkr1 (fun t ht => by rw [hw0a, ← hsa]; exact hfa.fixed t ht) hfa.sub (fun b hb hc => hfa.old b hb ((hspr b).2 (.inl ((hpr0 b).1 hc)))) fun t b hb hc => (hfa.own t b hb).1 ((hspr b).2 (.inl ((hpr0 b).1 hc)))
   obtain ⟨w2', hw2'⟩ : ∃ w2', w2' = w1.putObj l (.loop { rec .ready none with state := .busy }) := ⟨_, rfl⟩
   have hfa2 := hfa1.world (w1 := w2') (by rw [hw2']; exact hkr1.putObj hnl _) (by rw [hw2', World.putObj_size]; exact Nat.le_refl _) (fun b hb => by rw [hw2']; exact World.putObj_heap_other fun hc => hFal (hc ▸ hb)) fun t b hb => by rw [hw2']; exact World.putObj_heap_other fun hc => hOal t (hc ▸ hb)
   have hl2' : w2'.heap[l]? = some (.loop { rec .ready none with state := .busy }) := by
    rw [hw2']; exact World.putObj_heap_same (Array.getElem?_eq_some_iff.1 hla).1
   have hsz2 : W1.heap.size ≤ w2'.heap.size := by
    have := hkr1.size
    rw [hw0w] at this
    rw [hw2', World.putObj_size]; exact this
   refine ⟨w2', by rw [hw2']; exact run_beginRound hla (by rw [hrec]), ?_⟩
   obtain ⟨w0b, hw0b⟩ : ∃ w0b : Start, w0b = ⟨w2', fun b => PR b ∨ b = l, hPlt w2' hsz2, a3.tmps.toList, some l, []⟩ := ⟨_, rfl⟩
   have hbr : w0b.round = some l := by rw [hw0b]
   have hbd : w0b.dfs = [] := by rw [hw0b]
   have hbpr : ∀ b, w0b.pr b ↔ (PR b ∨ b = l) := fun b => by rw [hw0b]
   have hbw : w0b.w = w2' := by rw [hw0b]
   have hba : w0b.args = a3.tmps.toList := by rw [hw0b]
   have hfb : Fr P (lo * 1048576 + N) w0b F6 Ga (Eb s xs[k]).at a1.tmps w2' Fa Oa := hfa2.restart rfl (by rw [← hbw]; exact Kept.refl _) (fun t ht => by rw [hba, ← hw0a]; exact hfa2.fixed t ht) hfa2.sub (fun b hb hc => by
    rcases (hbpr b).1 hc with hc | hc
    ·exact hfa2.old b hb ((hpr0 b).2 hc)
    ·exact absurd hb (by rw [hc]; exact hFal)) fun t b hb hc => by
    rcases (hbpr b).1 hc with hc | hc
    ·exact (hfa2.own t b hb).1 ((hpr0 b).2 hc)
    ·rw [hc] at hb; exact hOal t hb
   have hbo := hbody w0b F6 s xs[k] (roundPost P l (fun e W' => e = .returned (.bool true) ∧ (∃ s, St s W' ∧ eachM f (xs.take k).reverse s = some sf) ∧ Kept w0r W') .normal) ?_ a1 w2' ⟨by rw [hd1, hsd, hbd], Ga, Fa, Oa, hfb⟩
   ·rw [hbr] at hbo
    refine wpIn_mono (hbo QF_then) fun e a w he => ?_
    cases e <;> first
     | exact he
     | exact he.elim
   rw [hfs]
   rintro a4 w4 ⟨hd4, Ge, Fe, Oe, hfe⟩
   have hle : w4.heap[l]? = some (.loop { rec .ready none with state := .busy }) := by
    have := hfe.below.block l ((hbpr l).2 (.inr rfl))
    rw [hbw] at this
    exact this.trans hl2'
   have hkr4 : Kept w0r w4 := Kept.trans (s' := w0b) (by rw [hbw, hw2']; exact hkr1.putObj hnl _) hfe.below fun b hb => (hbpr b).2 (.inl ((hpr0 b).1 hb))
   have hFel : ¬ Fe l := fun hc => hF6l (hfe.old l hc ((hbpr l).2 (.inr rfl)))
   have hOel : ∀ t, l ∉ Oe t := fun t hc => (hfe.own t l hc).1 ((hbpr l).2 (.inr rfl))
   have hfe1 : Fr P (lo * 1048576 + N) w0r F6 Ge (En s').at a4.tmps w4 Fe Oe := hfe.restart rfl hkr4 (fun t ht => by rw [hw0a, ← hba]; exact hfe.fixed t ht) hfe.sub (fun b hb hc => hfe.old b hb ((hbpr b).2 (.inl ((hpr0 b).1 hc)))) fun t b hb hc => (hfe.own t b hb).1 ((hbpr b).2 (.inl ((hpr0 b).1 hc)))
   have hrd : ({ ({ rec .ready none with state := .busy } : Loop) with state := if (none : Option Code).isNone then .ready else .done, pending := none } : Loop) = rec .ready none := by rw [hrec]; rfl
   have hend := run_endRound (P := P) none hle
   rw [hrd] at hend
   have hfe2 := hfe1.world (w1 := w4.putObj l (.loop (rec .ready none))) (hkr4.putObj hnl _) (by rw [World.putObj_size]; exact Nat.le_refl _) (fun b hb => World.putObj_heap_other fun hc => hFel (hc ▸ hb)) fun t b hb => World.putObj_heap_other fun hc => hOel t (hc ▸ hb)
   obtain ⟨O5, hfe3, hO5⟩ := hfe2.back (hlo s') (T0 := a3.tmps) (fun t ht => by
    have := hfe.fixed t (by rw [hN2]; exact ht)
    rw [hba] at this
    exact this.trans toList_getD) (by rw [hN1, ← hNN]; exact hf8.size) (by rw [hN2]; exact Nat.le_refl _)
   exact ⟨_, _, hend, rfl, ⟨s', ⟨World.putObj_heap_same (Array.getElem?_eq_some_iff.1 hle).1, hkr4.putObj hnl _, Ge, Fe, O5, hfe3, hFel, fun t hc => hOel t (hO5 t l hc)⟩, hev⟩, hkr4.putObj hnl _⟩
  refine (hb.iter l B cap ad xs (fun k W => ∃ s, St s W ∧ eachM f (xs.take k).reverse s = some sf) (Kept w0r) hlim hKp hround W1 ⟨s0, hst0, by rw [List.take_length]; exact heq⟩ (by rw [hw0r]; exact Kept.refl _)).mono ?_
  rintro ed W2 ⟨⟨v, rfl⟩, ⟨s, ⟨hl2, hk2, G2, F2', O2', hfr2, hFl2, hOl2⟩, hev⟩, _⟩
  have hss : s = sf := by simpa [eachM] using hev
  subst hss
  have hnl : ¬ w0r.pr l := fun hc => hPRl ((hpr0 l).1 hc)
  obtain ⟨w4, hw4⟩ : ∃ w4, w4 = W2.putObj l (.loop { rec .ready none with state := .exhausted }) := ⟨_, rfl⟩
  have hpend : (rec .ready none).pending = none := by rw [hrec]
  have hend : (Instr.endLoop l).run P W2 = .ok none w4 := by
   have := run_endLoop (P := P) hl2 (by rw [hrec]; simp)
   rw [← hw4] at this
   rw [this, hpend]
  have hk4 : Kept w0r w4 := by rw [hw4]; exact hk2.putObj hnl _
  have hsz4 : W1.heap.size ≤ w4.heap.size := by have := hk4.size; rw [hw0w] at this; exact this
  have hfr4 := hfr2.world (w1 := w4) hk4 (by rw [hw4, World.putObj_size]; exact Nat.le_refl _) (fun b hb => by rw [hw4]; exact World.putObj_heap_other fun hc => hFl2 (hc ▸ hb)) fun t b hb => by rw [hw4]; exact World.putObj_heap_other fun hc => hOl2 t (hc ▸ hb)
  have hDlt : ∀ b, (w0.pr b ∨ b = D) → b < w4.heap.size := fun b hb => by
   rcases hb with hb | hb
   ·have h5 := w0.lt b hb
    have h6 := hf9.below.size
    omega
   ·omega
  have hnD : ¬ w0.pr D := fun hc => by
   have h5 := w0.lt D hc
   have h6 := hf8.below.size
   omega
  obtain ⟨w0', hw0'⟩ : ∃ w0' : Start, w0' = ⟨w4, fun b => w0.pr b ∨ b = D, hDlt, w0.args, none, [{ target := .collected D, args := #[] }]⟩ := ⟨_, rfl⟩
  have htied : Tied w0 F0 w0' D := by
   rw [hw0']
   refine ⟨rfl, rfl, fun b hb => .inl hb, .inr rfl, ?_, ?_, fun hc => ?_, hnD, rfl⟩
   ·exact Kept.trans (s' := w0r) (by rw [hw0w]; exact hf9.below) hk4 fun b hb => (hprI b).2 (.inl hb)
   ·have := hk4.block D ((hprI D).2 (.inr (.inr rfl)))
    rw [hw0w] at this
    exact this.trans hK1
   ·have := hlt6 D (hf8.sub D hc); omega
  refine ⟨none, w4, hend, ?_⟩
  have hfin : Fr P N w0' F0 G2 (En s).at a3.tmps w4 F2' O2' := by
   rw [hw0']
   refine hfr4.restart (by rw [hN1, hNN]) (Kept.refl _) (fun t ht => by omega) (fun b hb => hfr4.sub b (hf8.sub b hb)) (fun b hb hc => ?_) fun t b hb hc => ?_
   ·rcases hc with hc | hc
    ·exact hf8.old b (hfr4.old b hb ((hprI b).2 (.inl hc))) hc
    ·have := hlt6 b (hfr4.old b hb ((hprI b).2 (.inr (.inr hc)))); omega
   ·rcases hc with hc | hc
    ·exact (hfr4.own t b hb).1 ((hprI b).2 (.inl hc))
    ·exact (hfr4.own t b hb).1 ((hprI b).2 (.inr (.inr hc)))
  have := hcont w0' D s htied hgsf { a3 with defers := [{ target := .collected D, args := #[] }] ++ a3.defers } w4 ⟨by rw [ha3d, htied.dfs]; rfl, G2, F2', O2', hfin⟩
  rw [htied.round] at this
  exact this
def evB (P : Program) (tys : Tys) (N : Nat) (A : Array Oper) (E : Env) (sup : List Sup) (l1 : List (Nat × Lv)) (tx tr : Nat) (l2 : List Nat) : Option (Env × S × List Prop) :=
 match evalOps P tys N A.toList A.toList.dropLast ⟨E.drop, [], sup, []⟩ with
 | some st => match st.E.drop.keep l1 with
  | some E1 => if (inN N tr && noRoot E1 [tr]) = true then match (E1.set tr .dead).pick l2 with
    | some E2 => some (E2, E1.at tx, st.obs)
    | none => none
   else none
  | none => none
 | none => none
theorem W_backE {mk it : FuncId} (hb : Backs P mk it) {tys : Tys} (ht : tys.ok P = true) (hp : Plain w0) {Q : Exit → Act → World → Prop} {k : List KI} {E : Env} {id bi tr pi px tx lo : Nat} {A : Array Oper} {sup : List Sup} {oc : Oper} {Ts : Array TypeId}
  {assign body : Code} {σ ρ : Type} {f : σ → Int → Option σ} {q : ρ → Prop} {g : σ → Option ρ} {xs : List Int} {s0 : σ} (h : Leads q ((eachM f xs.reverse s0).bind g))
  (hA : A.toList.getLast? = some oc) (hop : oc.op = .call ⟨.value (.func mk), #[.tmp tx], Ts⟩) (hg : oc.guard = none) (hdst : oc.dst = some tr) {l1 : List (Nat × Lv)} {l2 : List Nat} {En : σ → Env} {obs : List Prop}
  (hev : evB P tys N A E sup l1 tx tr l2 = some (En s0, .v 0 (.slice (.int .i64)) xs, obs)) (hobs : AllP obs) (hlim : (xs.length : Int) ≤ limA) (hlo : ∀ s, envLow lo (En s) = true)
  (hps : (Nat.ble lo pi && Nat.ble lo px && Nat.blt pi N && Nat.blt px N && !(Nat.beq pi px) && Nat.blt N 1048576) = true) {Eb : σ → Int → Env}
  (hassign : ∀ w0r F0r s x (K : Act → World → Prop), (∀ a w, Hold P (lo * 1048576 + N) w0r F0r (Eb s x) a w → K a w) → W P (lo * 1048576 + N) w0r F0r QF [.code assign, .abs K] ((px, .v 0 (.int .i64) x) :: En s))
  (hbody : ∀ w0r F0r s x (K : Act → World → Prop), Leads (fun s' => ∀ a w, Hold P (lo * 1048576 + N) w0r F0r (En s') a w → K a w) (f s x) → W P (lo * 1048576 + N) w0r F0r QF [.code body, .abs K] (Eb s x))
  (hcont : ∀ w0' D sf, Tied w0 F0 w0' D → Leads q (g sf) → W P N w0' F0 Q k (En sf)) :
  W P N w0 F0 Q (.code (.region id A false) :: .code (.block bi (.rangeFunc (.tmp tr) #[pi, px] assign body)) :: k) E := by
 unfold evB at hev
 split at hev
 rotate_left
 ·simp at hev
 rename_i st h1
 split at hev
 rotate_left
 ·simp at hev
 rename_i E1 h2
 split at hev
 rotate_left
 ·simp at hev
 rename_i htr
 split at hev
 rotate_left
 ·simp at hev
 rename_i E2 h3
 simp only [Option.some.injEq, Prod.mk.injEq] at hev
 obtain ⟨rfl, hx, rfl⟩ := hev
 have hA' : A.toList = A.toList.dropLast ++ [oc] := by
  have hne : A.toList ≠ [] := fun hc => by rw [hc] at hA; simp at hA
  have h5 := List.dropLast_concat_getLast hne
  rw [List.getLast?_eq_some_getLast hne] at hA
  simp only [Option.some.injEq] at hA
  rw [hA] at h5
  exact h5.symm
 exact W_back hb ht hp hA' hop hg hdst h1 hobs h2 hx htr h3 hlim hlo hps hassign hbody h hcont
end
end Go.Tom
set_option linter.unusedVariables false
set_option linter.unusedSimpArgs false
namespace Go.Tom
open Go
theorem acall_int1 {P : Program} {f : FuncId} {fn : Func} (hf : P.funcs[f]? = some fn) (hn : (fn.name == "runtime.NumGoroutine") = false) (hb : fn.body.isNone = false) {k k' : IntKind} {x y : Int}
  (h : ∀ w, Calls P f #[.int k x] w fun e w' => e = .returned (.int k' y) ∧ w' = w) : ACall P f [⟨.int k, x⟩] [⟨0, .int k', y⟩] := by
 refine ⟨⟨fn, hf, hn, hb⟩, fun w F vs hlt hly ha => ?_⟩
 obtain ⟨v, vs', cs, rfl, h1, h2, rfl⟩ := ha
 have h1' : cs = [v] := h1
 have h2' : cs = [.int k x] := h2.1
 rw [h1'] at h2'
 simp only [List.cons.injEq, and_true] at h2'
 subst h2'
 refine (h w).mono fun e w' ⟨he, hw⟩ => ?_
 subst hw
 exact ⟨[.int k' y], F, [], he, ⟨_, [], [_], [], [], rfl, rfl, rfl, ⟨rfl, rfl⟩, rfl, rfl⟩, Out.refl hlt⟩
theorem slice_bytes {H : Type} {enc : TypeId × Value → H} {P : Program} {w : World} {base : Nat} {spare : Nat → Bool} {held : Bool} {t E : TypeId} {e : Ty} {fuel : Nat} {cs : List Value} {d : DataW H} {pl : List MemPlace} {F : Nat → Prop} {n : Lv} {O : List Nat}
  {xs : List e.den} (hu : P.underlying t = some (.slice E)) (h : DataW.trod enc P w base spare held fuel t cs = some (d, pl)) (hr : Rep P (.slice e) n w F xs cs O) (hsz : ∀ k ∈ d.weights P t, k ≤ reachBytes) : xs.length * P.bytesOf E ≤ reachBytes := by
 obtain ⟨a, cap, css, Os, rfl, _⟩ := hr
 rcases Deep.open_slice hu h with ⟨hcs, hx⟩ | ⟨a', len, cap', m, k, D, Pl, hcs, _, hlc, _, hm, hx, _⟩
 ·simp only [List.cons.injEq, Value.slice.injEq, and_true] at hcs
  rw [hcs.2.1, Nat.zero_mul]
  exact Nat.zero_le _
 ·simp only [List.cons.injEq, Value.slice.injEq, and_true] at hcs
  obtain ⟨_, hl, _⟩ := hcs
  obtain ⟨rfl, _⟩ := Prod.mk.inj hx
  refine Nat.le_trans (Nat.mul_le_mul_right _ ?_) (hsz _ (by simp only [DataW.weights, hu]; exact List.mem_cons_self ..))
  rw [List.length_map, List.length_range, hl]
  exact Nat.le_add_right _ _
end Go.Tom
set_option linter.unusedVariables false
set_option linter.unusedSimpArgs false
namespace Go.Tom
open Go
abbrev tx (l : List UInt8) : ByteArray := ⟨l.toArray⟩
theorem Lay.bare {P : Program} {w : World} {F : Nat → Prop} (h : tabs = []) (hv : seenVars = []) : Lay P w F := ⟨fun q hq => by (rw [h] at hq; cases hq), fun n hn => by (rw [hv] at hn; cases hn)⟩
theorem Lay.one {P : Program} {w : World} {F : Nat → Prop} {n : String} {k : IntKind} {zs : List Int} (ht : tabs = [(n, k, zs)]) (h : Lib.TabIs P w n k zs) (hF : ∀ b, b < w.heap.size → F b)
  (hv : ∀ n ∈ seenVars, ∃ g m, P.globalNamed n = some g ∧ w.cell? ⟨g, 0, none⟩ = some (.int .i64 m)) : Lay P w F := by
 refine ⟨fun q hq => ?_, fun n hn => ?_⟩
 ·rw [ht] at hq
  obtain rfl := List.mem_singleton.1 hq
  refine ⟨h, fun g hg => hF g ?_⟩
  unfold Lib.TabIs World.var? at h
  simp only [hg, Option.bind_some] at h
  cases hh : w.heap[g]? with
  | none => rw [hh] at h; cases h
  | some o => exact (Array.getElem?_eq_some_iff.1 hh).1
 ·obtain ⟨g, m, hg, hc⟩ := hv n hn
  refine ⟨g, m, hg, hc, hF g ?_⟩
  unfold World.cell? at hc
  cases hh : w.heap[(⟨g, 0, Option.none⟩ : Addr).block]? with
  | none => rw [hh] at hc; cases hc
  | some o => exact (Array.getElem?_eq_some_iff.1 hh).1
theorem pz : AllP [] := trivial
theorem ps {p : Prop} (h : p) : AllP [p] := h
theorem pc {p q : Prop} {r : List Prop} (h : p) (h' : AllP (q :: r)) : AllP (p :: q :: r) := ⟨h, h'⟩
def lvs (E : Env) : List (Nat × Lv) := E.map fun q => (q.1, match q.2 with | .v n _ _ => n | .box n _ _ => n | _ => 0)
def resL : List ResultVar → List Res → List (Nat × Lv)
 | .tmp t :: l, r :: rs => (t, r.n) :: resL l rs
 | .cell t _ :: l, r :: rs => (t, r.n) :: resL l rs
 | _, _ => []
theorem Leads.inr {P : Program} {N : Nat} {w0 : Start} {F0 : Nat → Prop} {σ ρ : Type} {En : σ → Env} {K : Act → World → Prop} {q : ρ → Prop} {r : ρ} (h : Leads (Back P N w0 F0 En K q) (some (.inr r))) : Leads q (some r) := h
section
variable {P : Program} {N : Nat} {w0 : Start} {F0 : Nat → Prop} {Q : Exit → Act → World → Prop} {k : List KI} {E : Env} {tys : Tys} (ht : tys.ok P = true) (hp : Plain w0) {fn : Func} {rs : List Res}
include ht hp
theorem W_retK (hk : (E.keep (resL fn.results.toList rs)).bind (fun E' => retRes tys E'.at fn.results.toList) = some rs) (hd : distinct (resSlots fn.results.toList) = true) : W P N w0 F0 (bodyPost P fn (Done P w0 F0 rs)) (.code .ret :: k) E := by
 obtain ⟨E', h1, h2⟩ := Option.bind_eq_some_iff.1 hk
 exact W_keep h1 (W_ret ht hp h2 hd)
theorem W_endK (hk : (E.keep (resL fn.results.toList rs)).bind (fun E' => retRes tys E'.at fn.results.toList) = some rs) (hd : distinct (resSlots fn.results.toList) = true) : W P N w0 F0 (bodyPost P fn (Done P w0 F0 rs)) [] E := by
 obtain ⟨E', h1, h2⟩ := Option.bind_eq_some_iff.1 hk
 exact W_keep h1 (W_end ht hp h2 hd)
end
end Go.Tom
