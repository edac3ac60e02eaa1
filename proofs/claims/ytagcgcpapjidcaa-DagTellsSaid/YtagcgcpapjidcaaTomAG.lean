/- A region whose order is drawn, where some operations may still be to come when the first one writes. -/
import Derived.Test.YtagcgcpapjidcaaTomAF
set_option linter.unusedVariables false
set_option linter.unusedSimpArgs false
namespace Go.Tom
open Go

def noRoot (E : Env) (ds : List Nat) : Bool := !(E.any fun q => (roots q.2).any fun V => memb V ds)

/-- Those that are late, once more, behind the first one that writes. -/
def evalLate (P : Program) (tys : Tys) (N : Nat) (ops : List Oper) (ds bs : List Nat) (bk : Nat) : Nat → List Oper → St → Option St
  | _, [], st => some st
  | i, o :: r, st => if bk.testBit i then evalLate P tys N ops ds bs bk (i + 1) r st else match isEff o, o.guard, o.dst with
    | false, none, some d => match quiet P tys ops (hide (notIn (bs.getD i 0 ||| bk) 0 ds) st.E.at) [] o st.sup with
      | some (s, l, sup, _) => if Nat.blt d N && (roots s).all (fun V => !(memb V (notIn bk 0 ds))) then evalLate P tys N ops ds bs bk (i + 1) r ⟨st.E.set d s, [], sup, st.obs ++ l⟩ else none
      | none => none
    | _, _, _ => none

/-- What was said of a late one before says what is said of it now, if these hold. -/
def carry1 (e1 eB : Nat → S) (dk : Option Nat) : S → S → Option (List Prop)
  | .v _ τ x, .v _ τ' x' => if τ.flat then some [(⟨τ', x'⟩ : TV) = ⟨τ, x⟩] else none
  | .ref V [.fld f], .ref V' [.fld f'] => if Nat.beq V V' && Nat.beq f f' && !(dk == some V) then match e1 V, eB V with
    | .box _ (.st a) _, .box _ (.st a') _ => if a = a' then some [] else none
    | _, _ => none
    else none
  | .bor V [], .bor V' [] => if Nat.beq V V' && !(dk == some V) then match e1 V with
    | .v _ _ _ => if passive (eB V) then some [] else none
    | _ => none
    else none
  | _, _ => none

def carryAll (e1 eB : Nat → S) (dk : Option Nat) : List Nat → Option (List Prop)
  | [] => some []
  | d :: r => match carry1 e1 eB dk (e1 d) (eB d), carryAll e1 eB dk r with
    | some l, some l' => some (l ++ l')
    | _, _ => none

def regL3 (P : Program) (tys : Tys) (N : Nat) (ops : List Oper) (k : Nat) (e1 : Nat → S) (dsL : List Nat) (dk : Option Nat) (stB : St) : Option St :=
  match carryAll e1 stB.E.at dk dsL with
  | some l => evalOps P tys N ops (ops.drop (k + 1)) ⟨stB.E, [], stB.sup, stB.obs ++ l⟩
  | none => none

def regL2 (P : Program) (tys : Tys) (N : Nat) (ops : List Oper) (k bk : Nat) (ds dsL : List Nat) (e1 : Nat → S) (dk : Option Nat) (stA : St) : Option St :=
  if noRoot stA.E dsL && stA.G.isEmpty then match evalLate P tys N ops ds (closAll ops []) bk 0 (ops.take k) ⟨stA.E.clear dsL, [], stA.sup, stA.obs⟩ with
    | some stB => regL3 P tys N ops k e1 dsL dk stB
    | none => none
  else none

def regL1 (P : Program) (tys : Tys) (N : Nat) (ops : List Oper) (k bk : Nat) (ds dsL : List Nat) (ok : Oper) (st1 : St) : Option St :=
  if noRoot (st1.E.drop.clear dsL) dsL then match stepO P tys N ops ok ⟨st1.E.drop.clear dsL, [], st1.sup, st1.obs⟩ with
    | some stA => regL2 P tys N ops k bk ds dsL st1.E.drop.at ok.dst stA
    | none => none
  else none

def dstOut (o : Oper) (l : List Nat) : Bool := match o.dst with
  | some d => !(memb d l)
  | none => true

def regL0 (P : Program) (tys : Tys) (N : Nat) (ops : List Oper) (k bk : Nat) (ds dsL : List Nat) (ok : Oper) (st : St) : Option St :=
  if distinct ds && fwdOk 0 (closAll ops []) && tailOk (k + 1) 0 (closAll ops []) && noRoot st.E.drop ds && dstOut ok dsL then
    match evalAny P tys N ops ds (closAll ops []) 0 (ops.take k) ⟨st.E.drop.clear ds, [], st.sup, st.obs⟩ with
    | some st1 => regL1 P tys N ops k bk ds dsL ok st1
    | none => none
  else none

/-- A REGION WITH LATE OPERATIONS. -/
def evalRegionL (P : Program) (tys : Tys) (N : Nat) (ops : List Oper) (st : St) : Option St :=
  match ops[prefLen ops]?, dstsOf (ops.take (prefLen ops)) with
  | some ok, some ds => regL0 P tys N ops (prefLen ops) ((closAll ops []).getD (prefLen ops) 0) ds (notIn ((closAll ops []).getD (prefLen ops) 0) 0 ds) ok st
  | _, _ => none

theorem quiet_plain {P : Program} {tys : Tys} {ops : List Oper} {e : Nat → S} {o : Oper} {sup : List Sup} {s : S} {l : List Prop} {sup' : List Sup} {G : Gs} (hg : o.guard = none) (h : quiet P tys ops e [] o sup = some (s, l, sup', G)) : G = [] := by
  unfold quiet at h
  rw [hg] at h
  simp only at h
  split at h
  · simp only [Option.some.injEq, Prod.mk.injEq] at h
    exact h.2.2.2.symm
  · simp at h

/-- What is known of a late one. -/
def FactL (P : Program) (tys : Tys) (N : Nat) (ops : List Oper) (ds bs : List Nat) (bk : Nat) (Ek : Nat → S) (obs : List Prop) (j : Nat) (o : Oper) : Prop :=
  ∃ d sup s l sup', o.dst = some d ∧ o.guard = none ∧ quiet P tys ops (hide (notIn (bs.getD j 0 ||| bk) 0 ds) Ek) [] o sup = some (s, l, sup', []) ∧
    (∀ p ∈ l, p ∈ obs) ∧ Ek d = s ∧ d < N ∧ ∀ V ∈ roots s, V ∉ notIn bk 0 ds

theorem notIn_or {b c t : Nat} {ds : List Nat} (h : t ∈ notIn (b ||| c) 0 ds) : t ∈ notIn c 0 ds := by
  obtain ⟨j, h1, h2⟩ := notIn_mem.1 h
  refine notIn_mem.2 ⟨j, h1, ?_⟩
  rw [Nat.testBit_or, Bool.or_eq_false_iff] at h2
  exact h2.2

theorem evalLate_facts {P : Program} {tys : Tys} {N : Nat} {ops : List Oper} {ds bs : List Nat} {bk : Nat} (hdist : ∀ (i j t : Nat), ds[i]? = some t → ds[j]? = some t → i = j) : ∀ {rest : List Oper} {i : Nat} {st st' : St}, evalLate P tys N ops ds bs bk i rest st = some st' →
    (∀ (m : Nat) (o : Oper), rest[m]? = some o → ∃ d, o.dst = some d ∧ ds[i + m]? = some d) → (∀ m, m < rest.length → ∀ l, i + m ≤ l → (bs.getD (i + m) 0).testBit l = false) → ds.length = i + rest.length → st.G = [] →
    st'.G = [] ∧ (∃ l, st'.obs = st.obs ++ l) ∧ (∀ t, (∀ m, i ≤ m → bk.testBit m = false → ds[m]? ≠ some t) → st'.E.at t = st.E.at t) ∧ ∀ (m : Nat) (o : Oper), rest[m]? = some o → bk.testBit (i + m) = false → FactL P tys N ops ds bs bk st'.E.at st'.obs (i + m) o
  | [], i, st, st', h, _, _, _, hG => by
    simp only [evalLate, Option.some.injEq] at h
    subst h
    exact ⟨hG, ⟨[], by simp⟩, fun t _ => rfl, fun m o h => by simp at h⟩
  | o :: rest, i, st, st', h, hds, hfw, hlen, hG => by
    have hds' : ∀ (m : Nat) (o' : Oper), rest[m]? = some o' → ∃ d, o'.dst = some d ∧ ds[i + 1 + m]? = some d := fun m o' ho' => by
      obtain ⟨d', h1, h2⟩ := hds (m + 1) o' (by simpa using ho')
      exact ⟨d', h1, by rw [show i + 1 + m = i + (m + 1) from by omega]; exact h2⟩
    have hfw' : ∀ m, m < rest.length → ∀ l, i + 1 + m ≤ l → (bs.getD (i + 1 + m) 0).testBit l = false := fun m hm l hl => by
      have := hfw (m + 1) (by simpa using hm) l (by omega)
      rwa [show i + (m + 1) = i + 1 + m from by omega] at this
    have hlen' : ds.length = i + 1 + rest.length := by simp only [List.length_cons] at hlen; omega
    simp only [evalLate] at h
    split at h
    · rename_i hb
      obtain ⟨k1, k2, k3, k4⟩ := evalLate_facts hdist h hds' hfw' hlen' hG
      refine ⟨k1, k2, fun t ht => k3 t fun m hm => ht m (by omega), fun m o' ho' hbm => ?_⟩
      cases m with
      | zero => rw [Nat.add_zero] at hbm; rw [hb] at hbm; simp at hbm
      | succ m =>
        have := k4 m o' (by simpa using ho') (by rwa [show i + (m + 1) = i + 1 + m from by omega] at hbm)
        rwa [show i + 1 + m = i + (m + 1) from by omega] at this
    · rename_i hb
      rw [Bool.not_eq_true] at hb
      split at h
      · rename_i d heff hguard hdst
        split at h
        · rename_i s l sup G hq
          split at h
          · rename_i hc
            simp only [Bool.and_eq_true] at hc
            obtain ⟨hdN, hrt⟩ := hc
            obtain rfl := quiet_plain hguard hq
            obtain ⟨k1, ⟨l2, k3⟩, k4, k5⟩ := evalLate_facts hdist (st := ⟨st.E.set d s, [], sup, st.obs ++ l⟩) h hds' hfw' hlen' rfl
            obtain ⟨d0, hd0, hdi⟩ := hds 0 o (by simp)
            rw [hdst] at hd0
            obtain rfl := Option.some.inj hd0
            simp only [Nat.add_zero] at hdi
            have hEd : st'.E.at d = s := by
              rw [k4 d fun m hm _ hc => by have := hdist _ _ _ hdi hc; omega, Env.at_set, if_pos rfl]
            have hsame : hide (notIn (bs.getD i 0 ||| bk) 0 ds) st.E.at = hide (notIn (bs.getD i 0 ||| bk) 0 ds) st'.E.at := by
              funext t
              unfold hide
              split
              · rfl
              · rename_i hm
                have hnot : ∀ m, i ≤ m → bk.testBit m = false → ds[m]? ≠ some t := fun m hm' hbm hc => hm (memb_iff.2 (notIn_mem.2 ⟨m, hc, by
                  rw [Nat.zero_add, Nat.testBit_or, hbm, Bool.or_false]
                  have := hfw 0 (by simp) m (by simpa using hm')
                  simpa using this⟩))
                have hne : t ≠ d := fun hc => hnot i (Nat.le_refl _) hb (hc ▸ hdi)
                rw [k4 t fun m hm' => hnot m (by omega), Env.at_set, if_neg hne]
            refine ⟨k1, ⟨l ++ l2, by rw [k3, List.append_assoc]⟩, fun t ht => ?_, fun m o' ho' hbm => ?_⟩
            · rw [k4 t fun m hm => ht m (by omega), Env.at_set, if_neg]
              intro hc
              exact ht i (Nat.le_refl _) hb (hc ▸ hdi)
            · cases m with
              | zero =>
                simp only [List.getElem?_cons_zero, Option.some.injEq] at ho'
                subst ho'
                refine ⟨d, st.sup, s, l, sup, hdst, hguard, by rw [Nat.add_zero, ← hsame]; exact hq, fun p hp => ?_, hEd, Nat.le_of_ble_eq_true hdN, fun V hV hc => ?_⟩
                · rw [k3]; exact List.mem_append_left _ (List.mem_append_right _ hp)
                · have := List.all_eq_true.1 hrt V hV
                  rw [memb_iff.2 hc] at this
                  simp at this
              | succ m =>
                have := k5 m o' (by simpa using ho') (by rwa [show i + (m + 1) = i + 1 + m from by omega] at hbm)
                rwa [show i + 1 + m = i + (m + 1) from by omega] at this
          · simp at h
        · simp at h
      · simp at h

section
variable {P : Program} {N : Nat} {w0 : World} {F0 : Nat → Prop} {Gff : Nat × Bool → Bool}

theorem Fr.hide' {e e' : Nat → S} {T : Array Value} {w : World} {F : Nat → Prop} {O : Nat → List Nat} (h : Fr P N w0 F0 Gff e T w F O) (hle : ∀ t, e' t = .dead ∨ (e' t = e t ∧ ∀ V ∈ roots (e t), solid (e V) = true → e' V = e V)) : ∃ O', Fr P N w0 F0 Gff e' T w F O' := by
  refine ⟨fun t => match e' t with | .dead => [] | _ => O t, h.less (fun t => ?_) fun t => ?_⟩
  · rcases hle t with hz | ⟨hz, hv⟩
    · rw [hz]; rfl
    · have hrt : SRep P Gff w F T e' (T.getD t undef) (e t) (O t) := (h.rep t).slot fun V hV => ⟨rfl, hv V hV⟩
      rw [hz]
      cases hs : e t <;> rw [hs] at hrt <;> try exact hrt
      exact rfl
  · split
    · exact ⟨List.nodup_nil, fun b hb => by cases hb⟩
    · exact ⟨h.nodup t, fun b hb => hb⟩

theorem noRoot_spec {E : Env} {ds : List Nat} (h : noRoot E ds = true) (t : Nat) : ∀ V ∈ roots (E.at t), V ∉ ds := by
  intro V hV hVd
  unfold noRoot at h
  rw [Bool.not_eq_true'] at h
  have := Env.at_any (p := fun s => (roots s).any fun V => memb V ds) h rfl t
  have h2 : ((roots (E.at t)).any fun V => memb V ds) = true := List.any_eq_true.2 ⟨V, hV, memb_iff.2 hVd⟩
  rw [h2] at this
  simp at this

theorem carry_ok {G1 G2 : Nat × Bool → Bool} {e1 eB eo eN eA : Nat → S} {dk : Option Nat} {s1 sA : S} {l : List Prop} (hc : carry1 e1 eB dk s1 sA = some l) (hl : ∀ p ∈ l, p) {w w1 : World} {F F1 : Nat → Prop} {T T' : Array Value} {v : Value} {O1 : List Nat} {O' : Nat → List Nat}
    (h1 : SRep P G1 w F T eo v s1 O1) (hN : Fr P N w0 F0 G2 eA T' w1 F1 O') (hT : ∀ V, dk ≠ some V → T'.getD V undef = T.getD V undef) (ho : ∀ V ∈ roots s1, solid (e1 V) = true → eo V = e1 V) (hn : ∀ V ∈ roots sA, eN V = eB V ∧ eA V = eB V) :
    SRep P G2 w1 F1 T' eN v sA [] := by
  unfold carry1 at hc
  split at hc
  · rename_i n τ x n' τ' x'
    split at hc
    · rename_i hf
      simp only [Option.some.injEq] at hc
      subst hc
      have he := hl _ (List.mem_singleton.2 rfl)
      cases he
      obtain ⟨cs, k1, k2⟩ := h1
      exact ⟨cs, k1, (k2.flat hf).2 _ _ _⟩
    · simp at hc
  · rename_i V f V' f'
    split at hc
    · rename_i hb
      simp only [Bool.and_eq_true] at hb
      obtain ⟨⟨hb1, hb2⟩, hb3⟩ := hb
      obtain rfl := Nat.eq_of_beq_eq_true hb1
      obtain rfl := Nat.eq_of_beq_eq_true hb2
      have hdk : dk ≠ some V := fun hd => by rw [hd] at hb3; simp at hb3
      split at hc
      · rename_i n a x n' a' x' he1 heB
        split at hc
        · rename_i haa
          subst haa
          have hmem : V ∈ roots (.ref V [.fld f]) := by simp [roots]
          have ho1 := ho V hmem (by rw [he1]; rfl)
          obtain ⟨hn1, hn2⟩ := hn V hmem
          obtain ⟨_, b, o, τ', cs', hv, τ1, cs, l1, hroot, hpl⟩ := h1
          rw [ho1, he1] at hroot
          obtain ⟨rfl, b0, el, hp0, hh0, rfl⟩ := hroot
          obtain ⟨a1, ha1, _, _, hbo⟩ := hpl
          simp only [Option.map_some, Option.some.injEq, Prod.mk.injEq] at hbo
          obtain ⟨rfl, rfl⟩ := hbo
          have hr := hN.rep V
          rw [hn2, heB] at hr
          obtain ⟨b2, cs2, el2, O2, q1, q2, _, _⟩ := hr
          have hTV := hT V hdk
          rw [q1, hp0] at hTV
          simp only [Value.pointer.injEq, Option.some.injEq, Addr.mk.injEq, and_true] at hTV
          subst hTV
          refine ⟨rfl, _, _, a1, _, hv, .st a, cs2, some (_, 0), ?_, a1, ha1, rfl, rfl, rfl⟩
          rw [hn1, heB]
          exact ⟨rfl, _, el2, q1, q2, rfl⟩
        · simp at hc
      · simp at hc
    · simp at hc
  · rename_i V V'
    split at hc
    · rename_i hb
      simp only [Bool.and_eq_true] at hb
      obtain ⟨hb1, hb3⟩ := hb
      obtain rfl := Nat.eq_of_beq_eq_true hb1
      have hdk : dk ≠ some V := fun hd => by rw [hd] at hb3; simp at hb3
      split at hc
      · rename_i n τ x he1
        split at hc
        · rename_i hpass
          have hmem : V ∈ roots (.bor V []) := by simp [roots]
          have ho1 := ho V hmem (by rw [he1]; rfl)
          obtain ⟨hn1, hn2⟩ := hn V hmem
          obtain ⟨_, ⟨k1, _, _⟩ | ⟨τ', cs', l1, k1, τ1, cs, l0, hroot, hpl⟩⟩ := h1
          · rw [ho1, he1] at k1; simp [passive] at k1
          · rw [ho1, he1] at hroot
            obtain ⟨rfl, k2, _⟩ := hroot
            obtain ⟨rfl, rfl, _⟩ := hpl
            exact ⟨rfl, .inl ⟨by rw [hn1]; exact hpass, rfl, by rw [hT V hdk]; exact k1.inj' k2⟩⟩
        · simp at hc
      · simp at hc
    · simp at hc
  · simp at hc

theorem carryAll_spec {e1 eB : Nat → S} {dk : Option Nat} : ∀ {ds : List Nat} {l : List Prop}, carryAll e1 eB dk ds = some l → ∀ d ∈ ds, ∃ l', carry1 e1 eB dk (e1 d) (eB d) = some l' ∧ ∀ p ∈ l', p ∈ l
  | [], l, _, d, hd => by cases hd
  | d :: ds, l, h, d', hd => by
    simp only [carryAll] at h
    split at h
    · rename_i l1 l2 h1 h2
      simp only [Option.some.injEq] at h
      subst h
      rcases List.mem_cons.1 hd with rfl | hd
      · exact ⟨l1, h1, fun p hp => List.mem_append_left _ hp⟩
      · obtain ⟨l', k1, k2⟩ := carryAll_spec h2 d' hd
        exact ⟨l', k1, fun p hp => List.mem_append_right _ (k2 p hp)⟩
    · simp at h

theorem carry_roots {e1 eB : Nat → S} {dk : Option Nat} {s1 sA : S} {l : List Prop} (hc : carry1 e1 eB dk s1 sA = some l) : roots s1 = roots sA := by
  unfold carry1 at hc
  split at hc
  · rfl
  · split at hc
    · rename_i hb
      simp only [Bool.and_eq_true] at hb
      obtain rfl := Nat.eq_of_beq_eq_true hb.1.1
      rfl
    · simp at hc
  · split at hc
    · rename_i hb
      simp only [Bool.and_eq_true] at hb
      obtain rfl := Nat.eq_of_beq_eq_true hb.1
      rfl
    · simp at hc
  · simp at hc

end
end Go.Tom
