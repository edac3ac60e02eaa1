/- A region, whichever way its order is drawn. -/
import Derived.Test.YtagcgcpapjidcaaTomAA
set_option linter.unusedVariables false
set_option linter.unusedSimpArgs false
namespace Go.Tom
open Go

def memb (t : Nat) (l : List Nat) : Bool := l.any (Nat.beq t)
theorem memb_iff {t : Nat} {l : List Nat} : memb t l = true ↔ t ∈ l := any_beq

def hide (l : List Nat) (e : Nat → S) : Nat → S := fun t => if memb t l then .dead else e t

/-- The slots of those operations whose numbers are not among these bits. -/
def notIn (b : Nat) : Nat → List Nat → List Nat
  | _, [] => []
  | i, d :: r => if b.testBit i then notIn b (i + 1) r else d :: notIn b (i + 1) r

theorem notIn_mem {b t : Nat} : ∀ {ds : List Nat} {i : Nat}, t ∈ notIn b i ds ↔ ∃ j, ds[j]? = some t ∧ b.testBit (i + j) = false
  | [], i => by simp [notIn]
  | d :: ds, i => by
    have ih := notIn_mem (b := b) (t := t) (ds := ds) (i := i + 1)
    have key : (∃ j, (d :: ds)[j]? = some t ∧ b.testBit (i + j) = false) ↔ (d = t ∧ b.testBit i = false) ∨ ∃ j, ds[j]? = some t ∧ b.testBit (i + 1 + j) = false := by
      constructor
      · rintro ⟨j, h1, h2⟩
        cases j with
        | zero =>
          left
          simp only [List.getElem?_cons_zero, Option.some.injEq] at h1
          exact ⟨h1, h2⟩
        | succ j => right; exact ⟨j, by simpa using h1, by rw [show i + 1 + j = i + (j + 1) from by omega]; exact h2⟩
      · rintro (⟨h1, h2⟩ | ⟨j, h1, h2⟩)
        · exact ⟨0, by simp [h1], h2⟩
        · exact ⟨j + 1, by simpa using h1, by rw [show i + (j + 1) = i + 1 + j from by omega]; exact h2⟩
    rw [key]
    simp only [notIn]
    split
    · rename_i hb
      rw [ih]
      simp [hb]
    · rename_i hb
      rw [List.mem_cons, ih]
      simp only [Bool.not_eq_true] at hb
      simp only [hb, and_true]
      exact or_congr_left ⟨fun h => h.symm, fun h => h.symm⟩

def evalAny (P : Program) (tys : Tys) (N : Nat) (ops : List Oper) (ds bs : List Nat) : Nat → List Oper → St → Option St
  | _, [], st => some st
  | i, o :: r, st => match isEff o, o.dst with
    | false, some d => match quiet P tys ops (hide (notIn (bs.getD i 0) 0 ds) st.E.at) st.G o st.sup with
      | some (s, l, sup, G) => if free ops N st.E G d s && (roots s).all (fun V => !(memb V (notIn (bs.getD i 0) 0 ds))) then evalAny P tys N ops ds bs (i + 1) r ⟨st.E.set d s, G, sup, st.obs ++ l⟩ else none
      | none => none
    | _, _ => none

def dstsOf : List Oper → Option (List Nat)
  | [] => some []
  | o :: r => match o.dst, dstsOf r with
    | some d, some l => some (d :: l)
    | _, _ => none

def prefLen : List Oper → Nat
  | [] => 0
  | o :: r => if isEff o then 0 else prefLen r + 1

def fwdOk : Nat → List Nat → Bool
  | _, [] => true
  | i, b :: r => Nat.blt b (2 ^ i) && fwdOk (i + 1) r

def tailOk (k : Nat) : Nat → List Nat → Bool
  | _, [] => true
  | i, b :: r => (Nat.blt i k || Nat.beq (b + 1) (2 ^ i)) && tailOk k (i + 1) r

def Env.clear (E : Env) (ds : List Nat) : Env := E.map fun q => (q.1, if memb q.1 ds then .dead else q.2)

/-- A REGION. -/
def evalRegion (P : Program) (tys : Tys) (N : Nat) (ops : List Oper) (draw : Bool) (st : St) : Option St :=
  match draw with
  | false => evalOps P tys N ops ops ⟨st.E.drop, [], st.sup, st.obs⟩
  | true => match dstsOf (ops.take (prefLen ops)) with
    | none => none
    | some ds => if distinct ds && fwdOk 0 (closAll ops []) && tailOk (prefLen ops) 0 (closAll ops []) && !(st.E.drop.any fun q => (roots q.2).any fun V => memb V ds) then
        match evalAny P tys N ops ds (closAll ops []) 0 (ops.take (prefLen ops)) ⟨st.E.drop.clear ds, [], st.sup, st.obs⟩ with
        | some st1 => evalOps P tys N ops (ops.drop (prefLen ops)) st1
        | none => none
      else none

theorem Env.at_clear (E : Env) (ds : List Nat) (t : Nat) : (E.clear ds).at t = if memb t ds then .dead else E.at t := by
  induction E with
  | nil => simp [Env.clear, Env.at]
  | cons q E ih =>
    obtain ⟨k, s⟩ := q
    simp only [Env.clear, List.map_cons, Env.at]
    by_cases h : Nat.beq t k = true
    · have hk := Nat.eq_of_beq_eq_true h
      subst hk
      simp only [Nat.beq_refl, if_true]
    · simp only [h, Bool.false_eq_true, if_false]
      exact ih

theorem fwdOk_spec : ∀ {l : List Nat} {i : Nat}, fwdOk i l = true → ∀ j, j < l.length → l.getD j 0 < 2 ^ (i + j)
  | [], i, _, j, hj => by simp at hj
  | b :: l, i, h, j, hj => by
    simp only [fwdOk, Bool.and_eq_true] at h
    cases j with
    | zero =>
      have : b + 1 ≤ 2 ^ i := Nat.le_of_ble_eq_true h.1
      show b < 2 ^ i
      omega
    | succ j =>
      have := fwdOk_spec h.2 j (by simpa using hj)
      simp only [List.getD_cons_succ]
      rwa [show i + (j + 1) = i + 1 + j from by omega]

theorem tailOk_spec {k : Nat} : ∀ {l : List Nat} {i : Nat}, tailOk k i l = true → ∀ j, j < l.length → k ≤ i + j → l.getD j 0 = 2 ^ (i + j) - 1
  | [], i, _, j, hj, _ => by simp at hj
  | b :: l, i, h, j, hj, hk => by
    simp only [tailOk, Bool.and_eq_true, Bool.or_eq_true] at h
    cases j with
    | zero =>
      rcases h.1 with h1 | h1
      · have : i < k := Nat.le_of_ble_eq_true h1
        simp only [Nat.add_zero] at hk
        omega
      · have := Nat.eq_of_beq_eq_true h1
        simp only [List.getD_cons_zero, Nat.add_zero]
        omega
    | succ j =>
      have := tailOk_spec h.2 j (by simpa using hj) (by omega)
      simp only [List.getD_cons_succ]
      rwa [show i + (j + 1) = i + 1 + j from by omega]

theorem clos_len {ops : List Oper} : (closAll ops []).length = ops.length := by
  obtain ⟨tl, h1, h2, _⟩ := closAll_spec (ops := ops) (acc := [])
  rw [h1]
  simpa using h2

theorem dstsOf_spec : ∀ {ops : List Oper} {ds : List Nat}, dstsOf ops = some ds → ds.length = ops.length ∧ ∀ (i : Nat) (o : Oper), ops[i]? = some o → ∃ d, o.dst = some d ∧ ds[i]? = some d
  | [], ds, h => by simp only [dstsOf, Option.some.injEq] at h; subst h; exact ⟨rfl, fun i o h => by simp at h⟩
  | o :: ops, ds, h => by
    simp only [dstsOf] at h
    split at h
    · rename_i d l hd hl
      simp only [Option.some.injEq] at h
      subst h
      obtain ⟨h1, h2⟩ := dstsOf_spec hl
      refine ⟨by simp [h1], fun i o' ho' => ?_⟩
      cases i with
      | zero => simp only [List.getElem?_cons_zero, Option.some.injEq] at ho'; subst ho'; exact ⟨d, hd, rfl⟩
      | succ i => exact h2 i o' (by simpa using ho')
    · simp at h

theorem distinct_nodup : ∀ {l : List Nat}, distinct l = true → ∀ (i j t : Nat), l[i]? = some t → l[j]? = some t → i = j
  | [], _, i, j, t, h, _ => by simp at h
  | d :: l, h, i, j, t, h1, h2 => by
    simp only [distinct, Bool.and_eq_true, Bool.not_eq_true'] at h
    have hno : ∀ j, l[j]? ≠ some d := fun j hj => by
      have := any_beq.2 (List.mem_of_getElem? hj)
      rw [h.1] at this
      simp at this
    cases i with
    | zero =>
      simp only [List.getElem?_cons_zero, Option.some.injEq] at h1
      subst h1
      cases j with
      | zero => rfl
      | succ j => exact absurd (by simpa using h2) (hno j)
    | succ i =>
      cases j with
      | zero =>
        simp only [List.getElem?_cons_zero, Option.some.injEq] at h2
        subst h2
        exact absurd (by simpa using h1) (hno i)
      | succ j => rw [distinct_nodup h.2 i j t (by simpa using h1) (by simpa using h2)]

/-- What is known of each operation. -/
def FactAt (P : Program) (tys : Tys) (N : Nat) (ops : List Oper) (ds bs : List Nat) (Ek : Nat → S) (Gk : Gs) (obs : List Prop) (j : Nat) (o : Oper) : Prop :=
  ∃ d es G0 sup s l sup' G1, o.dst = some d ∧ quiet P tys ops (hide (notIn (bs.getD j 0) 0 ds) Ek) G0 o sup = some (s, l, sup', G1) ∧ (∀ t, hide (notIn (bs.getD j 0) 0 ds) Ek t = .dead ∨ hide (notIn (bs.getD j 0) 0 ds) Ek t = es t) ∧
    GOk ops es G0 ∧ Gle G1 Gk ∧ (∀ p ∈ l, p ∈ obs) ∧ Ek d = s ∧ d < N ∧ ∀ V ∈ roots s, V ∉ notIn (bs.getD j 0) 0 ds

theorem evalAny_facts {P : Program} {tys : Tys} {N : Nat} {ops : List Oper} {ds bs : List Nat} (hdist : ∀ (i j t : Nat), ds[i]? = some t → ds[j]? = some t → i = j) : ∀ {rest : List Oper} {i : Nat} {st st' : St}, evalAny P tys N ops ds bs i rest st = some st' →
    (∀ (m : Nat) (o : Oper), rest[m]? = some o → ∃ d, o.dst = some d ∧ ds[i + m]? = some d) → (∀ m, m < rest.length → ∀ l, i + m ≤ l → (bs.getD (i + m) 0).testBit l = false) → ds.length = i + rest.length → GOk ops st.E.at st.G →
    GOk ops st'.E.at st'.G ∧ Gle st.G st'.G ∧ (∃ l, st'.obs = st.obs ++ l) ∧ (∀ t, (∀ m, i ≤ m → ds[m]? ≠ some t) → st'.E.at t = st.E.at t) ∧ ∀ (m : Nat) (o : Oper), rest[m]? = some o → FactAt P tys N ops ds bs st'.E.at st'.G st'.obs (i + m) o
  | [], i, st, st', h, _, _, _, hG => by
    simp only [evalAny, Option.some.injEq] at h
    subst h
    exact ⟨hG, fun _ _ h => h, ⟨[], by simp⟩, fun t _ => rfl, fun m o h => by simp at h⟩
  | o :: rest, i, st, st', h, hds, hfw, hlen, hG => by
    simp only [evalAny] at h
    split at h
    · rename_i d heff hdst
      split at h
      · rename_i s l sup G hq
        split at h
        · rename_i hc
          simp only [Bool.and_eq_true] at hc
          obtain ⟨hfr, hrt⟩ := hc
          obtain ⟨f1, f2, f3, f4⟩ := free_spec hfr
          have hle0 : ∀ t, hide (notIn (bs.getD i 0) 0 ds) st.E.at t = .dead ∨ hide (notIn (bs.getD i 0) 0 ds) st.E.at t = st.E.at t := fun t => by
            unfold hide; split
            · exact .inl rfl
            · exact .inr rfl
          have hG1 := quiet_GOk hle0 hG hq f4
          obtain ⟨gg1, gg2⟩ := quiet_G hq
          obtain ⟨k1, k2, ⟨l2, k3⟩, k4, k5⟩ := evalAny_facts hdist (rest := rest) (i := i + 1) (st := ⟨st.E.set d s, G, sup, st.obs ++ l⟩) h
            (fun m o' ho' => by
              obtain ⟨d', h1, h2⟩ := hds (m + 1) o' (by simpa using ho')
              exact ⟨d', h1, by rw [show i + 1 + m = i + (m + 1) from by omega]; exact h2⟩)
            (fun m hm l hl => by
              have := hfw (m + 1) (by simpa using hm) l (by omega)
              rwa [show i + (m + 1) = i + 1 + m from by omega] at this)
            (by simp only [List.length_cons] at hlen; omega) hG1
          obtain ⟨d0, hd0, hdi⟩ := hds 0 o (by simp)
          rw [hdst] at hd0
          obtain rfl := Option.some.inj hd0
          simp only [Nat.add_zero] at hdi
          have hEd : st'.E.at d = s := by
            rw [k4 d fun m hm hc => by have := hdist _ _ _ hdi hc; omega, Env.at_set, if_pos rfl]
          have hsame : hide (notIn (bs.getD i 0) 0 ds) st.E.at = hide (notIn (bs.getD i 0) 0 ds) st'.E.at := by
            funext t
            unfold hide
            split
            · rfl
            · rename_i hm
              have hnot : ∀ m, i ≤ m → ds[m]? ≠ some t := fun m hm' hc => hm (memb_iff.2 (notIn_mem.2 ⟨m, hc, by
                rw [Nat.zero_add]
                have := hfw 0 (by simp) m (by simpa using hm')
                simpa using this⟩))
              have hne : t ≠ d := fun hc => hnot i (Nat.le_refl _) (hc ▸ hdi)
              rw [k4 t fun m hm' => hnot m (by omega), Env.at_set, if_neg hne]
          refine ⟨k1, fun g c hgc => k2 g c (gg1 g c hgc), ⟨l ++ l2, by rw [k3, List.append_assoc]⟩, fun t ht => ?_, fun m o' ho' => ?_⟩
          · rw [k4 t fun m hm => ht m (by omega), Env.at_set, if_neg]
            intro hc
            exact ht i (Nat.le_refl _) (hc ▸ hdi)
          · cases m with
            | zero =>
              simp only [List.getElem?_cons_zero, Option.some.injEq] at ho'
              subst ho'
              refine ⟨d, st.E.at, st.G, st.sup, s, l, sup, G, hdst, by rw [Nat.add_zero, ← hsame]; exact hq, fun t => ?_, hG, k2, fun p hp => ?_, hEd, f1, fun V hV hc => ?_⟩
              · rw [Nat.add_zero, ← hsame]; exact hle0 t
              · rw [k3]; exact List.mem_append_left _ (List.mem_append_right _ hp)
              · have := List.all_eq_true.1 hrt V hV
                rw [Nat.add_zero] at hc
                rw [memb_iff.2 hc] at this
                simp at this
            | succ m =>
              have := k5 m o' (by simpa using ho')
              rwa [show i + 1 + m = i + (m + 1) from by omega] at this
        · simp at h
      · simp at h
    · simp at h
end Go.Tom
