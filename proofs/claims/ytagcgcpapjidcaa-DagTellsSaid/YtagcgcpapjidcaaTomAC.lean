/- A region is sound, whichever way its order is drawn. -/
import Derived.Test.YtagcgcpapjidcaaTomAB
set_option linter.unusedVariables false
set_option linter.unusedSimpArgs false
namespace Go.Tom
open Go

section
variable {P : Program} {N : Nat} {w0 : World} {F0 : Nat → Prop} {Gff : Nat × Bool → Bool}

theorem clos_none {ops : List Oper} {j : Nat} (h : ops.length ≤ j) : (closAll ops []).getD j 0 = 0 := by
  rw [List.getD_eq_getElem?_getD, List.getElem?_eq_none (by rw [clos_len]; exact h)]
  rfl

/-- An operation that is still to come. -/
def pending (k : Nat) (ds : List Nat) (L : Array Bool) (t : Nat) : Bool := (List.range k).any fun i => (ds[i]? == some t) && !(L.getD i false)

theorem pending_iff {k : Nat} {ds : List Nat} {L : Array Bool} {t : Nat} : pending k ds L t = true ↔ ∃ i, i < k ∧ ds[i]? = some t ∧ L.getD i false = false := by
  simp only [pending, List.any_eq_true, List.mem_range, Bool.and_eq_true, beq_iff_eq, Bool.not_eq_true']

def ED (k : Nat) (ds : List Nat) (L : Array Bool) (Ek : Nat → S) : Nat → S := fun t => if pending k ds L t then .dead else Ek t

theorem Fr.clear {E : Env} {T : Array Value} {w : World} {F : Nat → Prop} {O : Nat → List Nat} {ds : List Nat} (h : Fr P N w0 F0 Gff E.at T w F O) (hr : ∀ t, ∀ V ∈ roots (E.at t), V ∉ ds) : ∃ O', Fr P N w0 F0 Gff (E.clear ds).at T w F O' := by
  refine ⟨fun t => if memb t ds then [] else O t, h.less (fun t => ?_) fun t => ?_⟩
  · rw [Env.at_clear]
    split
    · rfl
    · refine (h.rep t).slot fun V hV => ⟨rfl, fun _ => ?_⟩
      rw [Env.at_clear, if_neg]
      intro hm
      exact hr t V hV (memb_iff.1 hm)
  · split
    · exact ⟨List.nodup_nil, fun b hb => by cases hb⟩
    · exact ⟨h.nodup t, fun b hb => hb⟩

theorem Fr.drew {e : Nat → S} {T : Array Value} {w : World} {F : Nat → Prop} {O : Nat → List Nat} (h : Fr P N w0 F0 Gff e T w F O) : Fr P N w0 F0 Gff e T { w with drawn := w.drawn + 1 } F O :=
  h.world (w1 := { w with drawn := w.drawn + 1 }) ⟨h.below.os, h.below.tape, h.below.output, h.below.size, h.below.block⟩ (Nat.le_refl _) (fun _ _ => rfl) (fun _ _ _ => rfl)

/-- Some slots are not looked at. -/
theorem Fr.hide {e e' : Nat → S} {T : Array Value} {w : World} {F : Nat → Prop} {O : Nat → List Nat} (h : Fr P N w0 F0 Gff e T w F O) (hle : ∀ t, e' t = .dead ∨ (e' t = e t ∧ ∀ V ∈ roots (e t), e' V = e V)) : ∃ O', Fr P N w0 F0 Gff e' T w F O' := by
  refine ⟨fun t => match e' t with | .dead => [] | _ => O t, h.less (fun t => ?_) fun t => ?_⟩
  · rcases hle t with hz | ⟨hz, hv⟩
    · rw [hz]; rfl
    · have hrt : SRep P Gff w F T e' (T.getD t undef) (e t) (O t) := (h.rep t).slot fun V hV => ⟨rfl, fun _ => hv V hV⟩
      rw [hz]
      cases hs : e t <;> rw [hs] at hrt <;> try exact hrt
      exact rfl
  · split
    · exact ⟨List.nodup_nil, fun b hb => by cases hb⟩
    · exact ⟨h.nodup t, fun b hb => hb⟩

theorem region_sound (hm : P.follows .mixedOrders = true) {tys : Tys} (ht : tys.ok P = true) {id : Nat} {draw : Bool} {A : Array Oper} {st st' : St} (hev : evalRegion P tys N A.toList draw st = some st') (hobs : ∀ p ∈ st'.obs, p) {a : Act} {w : World} {F : Nat → Prop} {O : Nat → List Nat}
    (h : Fr P N w0 F0 Gff st.E.at a.tmps w F O) {dfs : List Deferred} (hdf : a.defers = dfs) {Q : Exit → Act → World → Prop} (hQ : ∀ a' w' F' O', a'.defers = dfs → Fr P N w0 F0 (Gf st'.G) st'.E.at a'.tmps w' F' O' → Q .normal a' w') : (Code.region id A draw).wp P Q a w := by
  unfold evalRegion at hev
  split at hev
  · -- its own order
    obtain ⟨O', hd⟩ := h.drop (Gf2 := Gf [])
    refine wp_region (evalOps_sound ht (is := List.range A.size) (rest := A.toList) ?_ hev hobs (fun g c hgc => by simp [Gs.at] at hgc) hd hdf hQ)
    apply List.ext_getElem
    · simp
    · intro i h1 h2
      simp at h1 h2 ⊢
  · -- drawn
    split at hev
    · simp at hev
    rename_i ds hds
    split at hev
    rotate_left
    · simp at hev
    rename_i hc
    simp only [Bool.and_eq_true, Bool.not_eq_true'] at hc
    obtain ⟨⟨⟨hdi, hfw⟩, htl⟩, hrt⟩ := hc
    split at hev
    rotate_left
    · simp at hev
    rename_i st1 hany
    obtain ⟨k, hk⟩ : ∃ k, k = prefLen A.toList := ⟨_, rfl⟩
    rw [← hk] at hds htl hany hev
    have hdist := distinct_nodup hdi
    obtain ⟨hdl, hdd⟩ := dstsOf_spec hds
    have hkn : (A.toList.take k).length ≤ k := by simp; omega
    have hF : Fwd A := fun i o ho => by
      have hi : i < A.size := (Array.getElem?_eq_some_iff.1 ho).1
      have := fwdOk_spec hfw i (by rw [clos_len]; simpa using hi)
      simpa using this
    have hlater : ∀ m, m < (A.toList.take k).length → ∀ l, 0 + m ≤ l → ((closAll A.toList []).getD (0 + m) 0).testBit l = false := by
      intro m hml l hl
      have hi : m < A.size := by simp at hml; omega
      cases hb : ((closAll A.toList []).getD (0 + m) 0).testBit l with
      | false => rfl
      | true =>
        have := hF.bit (Array.getElem?_eq_getElem hi) (j := l) (by rwa [Nat.zero_add] at hb)
        omega
    have hpre : ∀ i o, i < k → A[i]? = some o → (A.toList.take k)[i]? = some o := by
      intro i o hi ho
      rw [List.getElem?_take_of_lt hi]
      simpa using ho
    obtain ⟨hG1, _, _, hoth, hfact⟩ := evalAny_facts hdist hany (fun m o ho => by rw [Nat.zero_add]; exact hdd m o ho) hlater (by rw [hdl]; simp) (fun g c hgc => by simp [Gs.at] at hgc)
    obtain ⟨l2, hobs2⟩ := evalOps_obs hev
    have hobs1 : ∀ p ∈ st1.obs, p := fun p hp => hobs p (by rw [hobs2]; exact List.mem_append_left _ hp)
    -- slots that no operation of the region writes
    have hroot0 : ∀ t, ∀ V ∈ roots (st.E.drop.at t), V ∉ ds := by
      intro t V hV hVd
      have := Env.at_any (p := fun s => (roots s).any fun V => memb V ds) hrt rfl t
      have h2 : ((roots (st.E.drop.at t)).any fun V => memb V ds) = true := List.any_eq_true.2 ⟨V, hV, memb_iff.2 hVd⟩
      rw [h2] at this
      simp at this
    have hout : ∀ t, t ∉ ds → st1.E.at t = st.E.drop.at t := by
      intro t htd
      rw [hoth t fun m _ hc => htd (List.mem_of_getElem? hc), Env.at_clear, if_neg]
      intro hmm
      exact htd (memb_iff.1 hmm)
    -- the start
    obtain ⟨O1, hd1⟩ := h.drop (Gf2 := Gf st1.G)
    obtain ⟨O2, hd2⟩ := hd1.clear hroot0
    refine wp_region_any hm ?_
    have hlt_ds : ∀ t j, ds[j]? = some t → j < k := fun t j hj => by
      have := (List.getElem?_eq_some_iff.1 hj).1
      omega
    have hkA : k ≤ A.size ∨ A.size ≤ k := by omega
    have hdn : ∀ j, j < ds.length ↔ j < k ∧ j < A.size := fun j => by rw [hdl]; simp; omega
    let I : Array Bool → Act → World → Prop := fun L a w => a.defers = dfs ∧
      (((∀ i, k ≤ i → L.getD i false = false) ∧ ∃ F O, Fr P N w0 F0 (Gf st1.G) (ED k ds L st1.E.at) a.tmps w F O) ∨
       (∃ m stm F O, k ≤ m ∧ m ≤ A.size ∧ (∀ i, i < A.size → (L.getD i false = true ↔ i < m)) ∧ evalOps P tys N A.toList (A.toList.drop m) stm = some st' ∧ GOk A.toList stm.E.at stm.G ∧ Fr P N w0 F0 (Gf stm.G) stm.E.at a.tmps w F O))
    -- the second part begins
    have phase2 : ∀ (L : Array Bool) (a : Act) (w : World), I L a w → (∀ i, i < k → i < A.size → L.getD i false = true) → k ≤ A.size → a.defers = dfs ∧ ∃ m stm F O, k ≤ m ∧ m ≤ A.size ∧ (∀ i, i < A.size → (L.getD i false = true ↔ i < m)) ∧ evalOps P tys N A.toList (A.toList.drop m) stm = some st' ∧ GOk A.toList stm.E.at stm.G ∧ Fr P N w0 F0 (Gf stm.G) stm.E.at a.tmps w F O := by
      intro L a w hI hall hkA
      obtain ⟨hdf, ⟨hz, F, O, hfr⟩ | hI⟩ := hI
      · refine ⟨hdf, k, st1, F, O, Nat.le_refl _, hkA, fun i hi => ⟨fun hl => ?_, fun hl => hall i hl hi⟩, hev, hG1, ?_⟩
        · rcases Nat.lt_or_ge i k with hlt | hge
          · exact hlt
          · rw [hz i hge] at hl; simp at hl
        · have he : ED k ds L st1.E.at = st1.E.at := by
            funext t
            unfold ED
            rw [if_neg]
            intro hp
            obtain ⟨i, hi, hdi', hLi⟩ := pending_iff.1 hp
            rw [hall i hi ((hdn i).1 (List.getElem?_eq_some_iff.1 hdi').1).2] at hLi
            simp at hLi
          rw [he] at hfr
          exact hfr
      · exact ⟨hdf, hI⟩
    have hcount : (Array.replicate A.size false).toList.count false ≤ A.size := by simp
    refine any_of (I := I) hF ?_ ?_ A.size (Array.replicate A.size false) a _ (by simp) (fun i o ho hl => ?_) hcount ⟨hdf, .inl ⟨fun i _ => ?_, F, O2, ?_⟩⟩
    · -- a step
      intro L i a w hsz hdown hi hLi hbits hI
      have ho : A[i]? = some A[i] := Array.getElem?_eq_getElem hi
      unfold wpOp
      rw [ho]
      simp only
      by_cases hik : i < k
      · -- in the first part
        obtain ⟨hdf, hI⟩ := hI
        have hI1 : (∀ i, k ≤ i → L.getD i false = false) ∧ ∃ F O, Fr P N w0 F0 (Gf st1.G) (ED k ds L st1.E.at) a.tmps w F O := by
          rcases hI with hI | ⟨m, _, _, _, hkm, _, hLm, _⟩
          · exact hI
          · have := (hLm i hi).2 (by omega)
            rw [hLi] at this
            simp at this
        obtain ⟨hz, F, O, hfr⟩ := hI1
        have hoi := hpre i _ hik ho
        have hft := hfact i _ hoi
        rw [Nat.zero_add] at hft
        obtain ⟨d, es, G0, sup, s, l, sup', G1, hdst, hq, hle, hGes, hGle, hl, hEd, hdN, hrs⟩ := hft
        obtain ⟨d', hd', hdsi⟩ := hdd i _ hoi
        rw [hdst] at hd'
        obtain rfl := Option.some.inj hd'
        -- bits of what is done
        have hdone : ∀ j, L.getD j false = true → ∀ l, ((closAll A.toList []).getD j 0).testBit l = true → L.getD l false = true := by
          intro j hj l hl
          cases hoj : A[j]? with
          | none =>
            rw [clos_none (by simpa using hoj)] at hl
            simp at hl
          | some oj => exact ready_bits hdown j hoj (hdown j oj hoj hj) l hl
        -- what the operation looks at
        have hvis : ∀ t, t ∉ notIn ((closAll A.toList []).getD i 0) 0 ds → ED k ds L st1.E.at t = st1.E.at t := by
          intro t htn
          unfold ED
          rw [if_neg]
          intro hp
          obtain ⟨j, hjk, hdj, hLj⟩ := pending_iff.1 hp
          refine htn (notIn_mem.2 ⟨j, hdj, ?_⟩)
          rw [Nat.zero_add]
          cases hb : ((closAll A.toList []).getD i 0).testBit j with
          | false => rfl
          | true => rw [hbits j hb] at hLj; simp at hLj
        have hroots : ∀ t, t ∉ notIn ((closAll A.toList []).getD i 0) 0 ds → ∀ V ∈ roots (st1.E.at t), V ∉ notIn ((closAll A.toList []).getD i 0) 0 ds := by
          intro t htn V hV hVn
          obtain ⟨lv, hlv, hbv⟩ := notIn_mem.1 hVn
          rw [Nat.zero_add] at hbv
          by_cases htd : t ∈ ds
          · obtain ⟨j, hj, rfl⟩ := List.getElem_of_mem htd
            have hdj : ds[j]? = some ds[j] := List.getElem?_eq_getElem hj
            have hbj : ((closAll A.toList []).getD i 0).testBit j = true := by
              cases hb : ((closAll A.toList []).getD i 0).testBit j with
              | true => rfl
              | false => exact absurd (notIn_mem.2 ⟨j, hdj, by rw [Nat.zero_add]; exact hb⟩) htn
            have hjk : j < k := hlt_ds _ _ hdj
            have hjA : j < A.size := ((hdn j).1 hj).2
            have hoj : A[j]? = some A[j] := Array.getElem?_eq_getElem hjA
            have hoj' := hpre j _ hjk hoj
            have hfj := hfact j _ hoj'
            rw [Nat.zero_add] at hfj
            obtain ⟨dj, _, _, _, sj, _, _, _, hdstj, _, _, _, _, _, hEj, _, hrj⟩ := hfj
            obtain ⟨dj', hdj', hdsj⟩ := hdd j _ hoj'
            rw [hdstj] at hdj'
            obtain rfl := Option.some.inj hdj'
            rw [hdj] at hdsj
            obtain rfl := Option.some.inj hdsj
            rw [hEj] at hV
            refine hrj V hV (notIn_mem.2 ⟨lv, hlv, ?_⟩)
            rw [Nat.zero_add]
            cases hb : ((closAll A.toList []).getD j 0).testBit lv with
            | false => rfl
            | true => rw [clos_trans hF i ho j lv hbj hb] at hbv; simp at hbv
          · rw [hout t htd] at hV
            exact hroot0 t V hV (List.mem_of_getElem? hlv)
        have hhide : ∀ t, t ∉ notIn ((closAll A.toList []).getD i 0) 0 ds → hide (notIn ((closAll A.toList []).getD i 0) 0 ds) st1.E.at t = ED k ds L st1.E.at t := by
          intro t htn
          rw [hvis t htn]
          unfold Tom.hide
          rw [if_neg]
          exact fun hmm => htn (memb_iff.1 hmm)
        obtain ⟨Oh, hfh⟩ := hfr.hide (e' := hide (notIn ((closAll A.toList []).getD i 0) 0 ds) st1.E.at) fun t => by
          by_cases htn : t ∈ notIn ((closAll A.toList []).getD i 0) 0 ds
          · left
            unfold Tom.hide
            rw [if_pos (memb_iff.2 htn)]
          · right
            refine ⟨hhide t htn, fun V hV => hhide V ?_⟩
            rw [hvis t htn] at hV
            exact hroots t htn V hV
        refine quiet_sound hfh ht hle hGes hq (fun g c hgc => by simp [Gf, hGle g c hgc]) (fun p hp => hobs1 p (hl p hp)) fun v w' F' On hout' hs => ?_
        have hs' : SRep P (Gf st1.G) w' F' a.tmps (ED k ds L st1.E.at) v s On := hs.slot fun V hV => ⟨rfl, fun _ => (hhide V (hrs V hV)).symm⟩
        have hself : d ∈ notIn ((closAll A.toList []).getD i 0) 0 ds := notIn_mem.2 ⟨i, hdsi, by
          rw [Nat.zero_add]
          cases hb : ((closAll A.toList []).getD i 0).testBit i with
          | false => rfl
          | true => have := hF.bit ho hb; omega⟩
        have hfree : ∀ t, d ∉ roots (ED k ds L st1.E.at t) := by
          intro t hdt
          unfold ED at hdt
          split at hdt
          · simp [roots] at hdt
          · rename_i hp
            by_cases htd : t ∈ ds
            · obtain ⟨j, hj, rfl⟩ := List.getElem_of_mem htd
              have hdj : ds[j]? = some ds[j] := List.getElem?_eq_getElem hj
              have hjk : j < k := hlt_ds _ _ hdj
              have hjA : j < A.size := ((hdn j).1 hj).2
              have hLj : L.getD j false = true := by
                cases hb : L.getD j false with
                | true => rfl
                | false => exact absurd (pending_iff.2 ⟨j, hjk, hdj, hb⟩) hp
              have hoj : A[j]? = some A[j] := Array.getElem?_eq_getElem hjA
              have hoj' := hpre j _ hjk hoj
              have hfj := hfact j _ hoj'
              rw [Nat.zero_add] at hfj
              obtain ⟨dj, _, _, _, sj, _, _, _, hdstj, _, _, _, _, _, hEj, _, hrj⟩ := hfj
              obtain ⟨dj', hdj', hdsj⟩ := hdd j _ hoj'
              rw [hdstj] at hdj'
              obtain rfl := Option.some.inj hdj'
              rw [hdj] at hdsj
              obtain rfl := Option.some.inj hdsj
              rw [hEj] at hdt
              refine hrj d hdt (notIn_mem.2 ⟨i, hdsi, ?_⟩)
              rw [Nat.zero_add]
              cases hb : ((closAll A.toList []).getD j 0).testBit i with
              | false => rfl
              | true => rw [hdone j hLj i hb] at hLi; simp at hLi
            · rw [hout t htd] at hdt
              exact hroot0 t d hdt (List.mem_of_getElem? hdsi)
        have hput := hfr.put hdN hfree hout' hs' (fun hc => hrs d hc hself)
        refine ⟨by rw [hdst]; exact hdf, .inl ⟨fun j hj => ?_, F', (fun t => if t = d then On else O t), ?_⟩⟩
        · rw [getD_setB (by omega), if_neg (by omega)]
          exact hz j hj
        · rw [hdst]
          have he : ED k ds (L.setIfInBounds i true) st1.E.at = fun t => if t = d then s else ED k ds L st1.E.at t := by
            funext t
            by_cases htd : t = d
            · subst htd
              simp only [if_true]
              unfold ED
              rw [if_neg, hEd]
              intro hp
              obtain ⟨j, hjk, hdj, hLj⟩ := pending_iff.1 hp
              have := hdist _ _ _ hdsi hdj
              subst this
              rw [getD_setB (by omega), if_pos rfl] at hLj
              simp at hLj
            · simp only [htd, if_false]
              unfold ED
              have hpp : pending k ds (L.setIfInBounds i true) t = pending k ds L t := by
                rw [Bool.eq_iff_iff, pending_iff, pending_iff]
                refine exists_congr fun j => and_congr_right fun hjk => and_congr_right fun hdj => ?_
                have hji : j ≠ i := fun hc => by
                  subst hc
                  rw [hdsi] at hdj
                  exact htd (Option.some.inj hdj).symm
                rw [getD_setB (by omega), if_neg hji]
              rw [hpp]
          rw [he]
          exact hput
      · -- in the second part
        have hbi : (closAll A.toList []).getD i 0 = 2 ^ i - 1 := by
          have := tailOk_spec htl i (by rw [clos_len]; simpa using hi) (by omega)
          simpa using this
        have hall : ∀ j, j < i → L.getD j false = true := fun j hj => hbits j (by rw [hbi, Nat.testBit_two_pow_sub_one]; simpa using hj)
        obtain ⟨hdf, m, stm, F, O, hkm, hmA, hLm, hevm, hGm, hfm⟩ := phase2 L a w hI (fun j hj _ => hall j (by omega)) (by omega)
        have him : i = m := by
          have h1 : ¬ i < m := fun hc => by rw [(hLm i hi).2 hc] at hLi; simp at hLi
          rcases Nat.lt_or_ge m i with hlt | hge
          · have := (hLm m (by omega)).1 (hall m hlt)
            omega
          · omega
        subst him
        have hdrop : A.toList.drop i = A[i] :: A.toList.drop (i + 1) := by
          rw [List.drop_eq_getElem_cons (by simpa using hi)]
          simp
        rw [hdrop] at hevm
        simp only [evalOps] at hevm
        split at hevm
        rotate_left
        · simp at hevm
        rename_i stn hstn
        obtain ⟨l3, hl3⟩ := evalOps_obs hevm
        refine stepO_sound ht hstn (fun p hp => hobs p (by rw [hl3]; exact List.mem_append_left _ hp)) hGm hfm fun v w1 F1 O1 hGn hfn => ?_
        refine ⟨by cases A[i].dst <;> exact hdf, .inr ⟨i + 1, stn, F1, O1, by omega, by omega, fun j hj => ?_, hevm, hGn, hfn⟩⟩
        rw [getD_setB (by omega)]
        split
        · rename_i hji; subst hji; simp
        · rw [hLm j hj]; omega
    · -- the end
      intro L a w hsz hall hI
      by_cases hkA' : k ≤ A.size
      · obtain ⟨hdf, m, stm, F, O, hkm, hmA, hLm, hevm, hGm, hfm⟩ := phase2 L a w hI (fun j hj hj' => hall j hj') hkA'
        have hmA' : m = A.size := by
          rcases Nat.lt_or_ge m A.size with hlt | hge
          · have := (hLm m hlt).1 (hall m hlt); omega
          · omega
        subst hmA'
        rw [List.drop_eq_nil_of_le (by simp)] at hevm
        simp only [evalOps, Option.some.injEq] at hevm
        subst hevm
        exact hQ a w F O hdf hfm
      · obtain ⟨hdf, ⟨hz, F, O, hfr⟩ | ⟨m, stm, F, O, hkm, hmA, _⟩⟩ := hI
        · have he : ED k ds L st1.E.at = st1.E.at := by
            funext t
            unfold ED
            rw [if_neg]
            intro hp
            obtain ⟨i, hi, hdi', hLi⟩ := pending_iff.1 hp
            rw [hall i ((hdn i).1 (List.getElem?_eq_some_iff.1 hdi').1).2] at hLi
            simp at hLi
          rw [he] at hfr
          rw [List.drop_eq_nil_of_le (by simp; omega)] at hev
          simp only [evalOps, Option.some.injEq] at hev
          subst hev
          exact hQ a w F O hdf hfr
        · omega
    · -- nothing is done yet
      exfalso
      simp only [Array.getD_eq_getD_getElem?, Array.getElem?_replicate] at hl
      split at hl <;> simp at hl
    · simp only [Array.getD_eq_getD_getElem?, Array.getElem?_replicate]
      split <;> rfl
    · have he : ED k ds (Array.replicate A.size false) st1.E.at = (st.E.drop.clear ds).at := by
        funext t
        unfold ED
        rw [Env.at_clear]
        by_cases htd : t ∈ ds
        · obtain ⟨j, hj, rfl⟩ := List.getElem_of_mem htd
          rw [if_pos (pending_iff.2 ⟨j, hlt_ds _ _ (List.getElem?_eq_getElem hj), List.getElem?_eq_getElem hj, by
            simp only [Array.getD_eq_getD_getElem?, Array.getElem?_replicate]
            split <;> rfl⟩), if_pos (memb_iff.2 htd)]
        · rw [if_neg, if_neg, hout t htd]
          · exact fun hmm => htd (memb_iff.1 hmm)
          · intro hp
            obtain ⟨j, _, hdj, _⟩ := pending_iff.1 hp
            exact htd (List.mem_of_getElem? hdj)
      rw [he]
      exact hd2.drew
end
end Go.Tom
