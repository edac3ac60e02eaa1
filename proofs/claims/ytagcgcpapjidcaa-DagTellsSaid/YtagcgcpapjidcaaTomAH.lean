/- A region with late operations is sound. -/
import Derived.Test.YtagcgcpapjidcaaTomAG
set_option linter.unusedVariables false
set_option linter.unusedSimpArgs false
namespace Go.Tom
open Go

section
variable {P : Program} {N : Nat} {w0 : World} {F0 : Nat → Prop} {Gff : Nat × Bool → Bool}

theorem dropS_ne {s : S} (h : solid s = true) : dropS s = s := by cases s <;> first | rfl | (simp [solid] at h; done)

theorem hasG_drop {g : Nat × Bool} {s : S} : hasG g (dropS s) = false := by cases s <;> rfl

theorem put_getD {a : Act} {o : Option Nat} {v : Value} {t : Nat} (h : o ≠ some t) : (a.put o v).tmps.getD t undef = a.tmps.getD t undef := by
  cases o with
  | none => rfl
  | some d =>
    have hne : d ≠ t := fun hc => h (by rw [hc])
    simp [Act.put, Array.getD_eq_getD_getElem?, Array.getElem?_setIfInBounds, hne]

theorem region_soundL (hm : P.follows .mixedOrders = true) {tys : Tys} (ht : tys.ok P = true) {id : Nat} {A : Array Oper} {st st' : St} (hev : evalRegionL P tys N A.toList st = some st') (hobs : ∀ p ∈ st'.obs, p) {a : Act} {w : World} {F : Nat → Prop} {O : Nat → List Nat}
    (h : Fr P N w0 F0 Gff st.E.at a.tmps w F O) {dfs : List Deferred} (hdf : a.defers = dfs) {Q : Exit → Act → World → Prop} (hQ : ∀ a' w' F' O', a'.defers = dfs → Fr P N w0 F0 (Gf st'.G) st'.E.at a'.tmps w' F' O' → Q .normal a' w') : (Code.region id A true).wp P Q a w := by
  unfold evalRegionL at hev
  split at hev
  rotate_left
  · simp at hev
  rename_i ok ds hok hds
  obtain ⟨k, hk⟩ : ∃ k, k = prefLen A.toList := ⟨_, rfl⟩
  rw [← hk] at hev hok hds
  obtain ⟨bk, hbk⟩ : ∃ bk, bk = (closAll A.toList []).getD k 0 := ⟨_, rfl⟩
  rw [← hbk] at hev
  obtain ⟨dsL, hdsL⟩ : ∃ dsL, dsL = notIn bk 0 ds := ⟨_, rfl⟩
  rw [← hdsL] at hev
  unfold regL0 at hev
  split at hev
  rotate_left
  · simp at hev
  rename_i hc
  simp only [Bool.and_eq_true] at hc
  obtain ⟨⟨⟨⟨hdi, hfw⟩, htl⟩, hrt⟩, hout⟩ := hc
  split at hev
  rotate_left
  · simp at hev
  rename_i st1 hany
  unfold regL1 at hev
  split at hev
  rotate_left
  · simp at hev
  rename_i hr1
  split at hev
  rotate_left
  · simp at hev
  rename_i stA hstA
  unfold regL2 at hev
  split at hev
  rotate_left
  · simp at hev
  rename_i hcA
  simp only [Bool.and_eq_true] at hcA
  obtain ⟨hrA, hGA⟩ := hcA
  split at hev
  rotate_left
  · simp at hev
  rename_i stB hlate
  unfold regL3 at hev
  split at hev
  rotate_left
  · simp at hev
  rename_i lc hcarry
  have hGA' : stA.G = [] := List.isEmpty_iff.1 hGA
  have hdist := distinct_nodup hdi
  obtain ⟨hdl, hdd⟩ := dstsOf_spec hds
  have hokA : A[k]? = some ok := by simpa using hok
  have hkA : k < A.size := (Array.getElem?_eq_some_iff.1 hokA).1
  have hF : Fwd A := fun i o ho => by
    have hi : i < A.size := (Array.getElem?_eq_some_iff.1 ho).1
    have := fwdOk_spec hfw i (by rw [clos_len]; simpa using hi)
    simpa using this
  have hlater : ∀ m, m < (A.toList.take k).length → ∀ l, 0 + m ≤ l → ((closAll A.toList []).getD (0 + m) 0).testBit l = false := by
    intro m hml l hl
    have hi : m < A.size := by simp at hml; omega
    cases hb : ((closAll A.toList []).getD (0 + m) 0).testBit l with
    | false => rfl
    | true =>
      have := hF.bit (Array.getElem?_eq_getElem hi) (j := l) (by rwa [Nat.zero_add] at hb)
      omega
  have hpre : ∀ i o, i < k → A[i]? = some o → (A.toList.take k)[i]? = some o := by
    intro i o hi ho
    rw [List.getElem?_take_of_lt hi]
    simpa using ho
  have hdd' : ∀ (m : Nat) (o : Oper), (A.toList.take k)[m]? = some o → ∃ d, o.dst = some d ∧ ds[0 + m]? = some d := fun m o ho => by rw [Nat.zero_add]; exact hdd m o ho
  have hdl' : ds.length = 0 + (A.toList.take k).length := by rw [hdl]; simp
  obtain ⟨hG1, _, _, hoth, hfact⟩ := evalAny_facts hdist hany hdd' hlater hdl' (fun g c hgc => by simp [Gs.at] at hgc)
  obtain ⟨hGB, ⟨lB, hobsB⟩, hothB, hfactB⟩ := evalLate_facts hdist hlate hdd' hlater hdl' rfl
  obtain ⟨l2, hobs2⟩ := evalOps_obs hev
  obtain ⟨lA, hobsA⟩ := stepO_obs hstA
  have hobsC : ∀ p ∈ stB.obs ++ lc, p := fun p hp => hobs p (by rw [hobs2]; exact List.mem_append_left _ hp)
  have hobsB' : ∀ p ∈ stB.obs, p := fun p hp => hobsC p (List.mem_append_left _ hp)
  have hobsA' : ∀ p ∈ stA.obs, p := fun p hp => hobsB' p (by rw [hobsB]; exact List.mem_append_left _ hp)
  have hobs1 : ∀ p ∈ st1.obs, p := fun p hp => hobsA' p (by rw [hobsA]; exact List.mem_append_left _ hp)
  have hobsL : ∀ p ∈ lc, p := fun p hp => hobsC p (List.mem_append_right _ hp)
  have hroot0 : ∀ t, ∀ V ∈ roots (st.E.drop.at t), V ∉ ds := noRoot_spec hrt
  have hroute : ∀ t, t ∉ ds → st1.E.at t = st.E.drop.at t := by
    intro t htd
    rw [hoth t fun m _ hc => htd (List.mem_of_getElem? hc), Env.at_clear, if_neg]
    intro hmm
    exact htd (memb_iff.1 hmm)
  -- which slots are late
  have hltk : ∀ t j, ds[j]? = some t → j < k := fun t j hj => by
    have := (List.getElem?_eq_some_iff.1 hj).1
    rw [hdl] at this
    simp at this
    omega
  have hlateIff : ∀ t, t ∈ dsL ↔ ∃ j, ds[j]? = some t ∧ bk.testBit j = false := by
    intro t
    rw [hdsL, notIn_mem]
    simp
  -- of the frame behind the late ones
  have hBoth : ∀ t, t ∉ dsL → stB.E.at t = stA.E.at t := by
    intro t htL
    rw [hothB t fun m _ hbm hc => htL ((hlateIff t).2 ⟨m, hc, hbm⟩), Env.at_clear, if_neg]
    exact fun hmm => htL (memb_iff.1 hmm)
  have hBroot : ∀ t, ∀ V ∈ roots (stB.E.at t), V ∉ dsL := by
    intro t V hV
    by_cases htL : t ∈ dsL
    · obtain ⟨j, hj, hbj⟩ := (hlateIff t).1 htL
      have hjk := hltk _ _ hj
      have hjA : j < A.size := by omega
      have hf := hfactB j _ (hpre j _ hjk (Array.getElem?_eq_getElem hjA)) (by rw [Nat.zero_add]; exact hbj)
      rw [Nat.zero_add] at hf
      obtain ⟨d, _, s, _, _, hdst, _, _, _, hEd, _, hrs⟩ := hf
      obtain ⟨d', hd', hdj⟩ := hdd j _ (hpre j _ hjk (Array.getElem?_eq_getElem hjA))
      rw [hdst] at hd'
      obtain rfl := Option.some.inj hd'
      rw [hj] at hdj
      obtain rfl := Option.some.inj hdj
      rw [hEd] at hV
      rw [hdsL]
      exact hrs V hV
    · rw [hBoth t htL] at hV
      exact noRoot_spec hrA t V hV
  obtain ⟨O1, hd1⟩ := h.drop (Gf2 := Gf st1.G)
  obtain ⟨O2, hd2⟩ := hd1.clear hroot0
  refine wp_region_any hm ?_
  let I : Array Bool → Act → World → Prop := fun L a w => a.defers = dfs ∧
    (((∀ i, k ≤ i → L.getD i false = false) ∧ ∃ F O, Fr P N w0 F0 (Gf st1.G) (ED k ds L st1.E.at) a.tmps w F O) ∨
     ((L.getD k false = true ∧ (∀ i, k < i → L.getD i false = false) ∧ ∀ i, i < k → bk.testBit i = true → L.getD i false = true) ∧ ∃ F O, Fr P N w0 F0 (Gf []) (ED k ds L stB.E.at) a.tmps w F O) ∨
     (∃ m stm F O, k < m ∧ m ≤ A.size ∧ (∀ i, i < A.size → (L.getD i false = true ↔ i < m)) ∧ evalOps P tys N A.toList (A.toList.drop m) stm = some st' ∧ GOk A.toList stm.E.at stm.G ∧ Fr P N w0 F0 (Gf stm.G) stm.E.at a.tmps w F O))
  have EDall : ∀ (L : Array Bool) (e : Nat → S), (∀ i, i < k → L.getD i false = true) → ED k ds L e = e := by
    intro L e hall
    funext t
    unfold ED
    rw [if_neg]
    intro hp
    obtain ⟨i, hi, _, hLi⟩ := pending_iff.1 hp
    rw [hall i hi] at hLi
    simp at hLi
  -- all of the first part, and the first one that writes, are done
  have phase3 : ∀ (L : Array Bool) (a : Act) (w : World), I L a w → (∀ i, i ≤ k → L.getD i false = true) → a.defers = dfs ∧ ∃ m stm F O, k < m ∧ m ≤ A.size ∧ (∀ i, i < A.size → (L.getD i false = true ↔ i < m)) ∧ evalOps P tys N A.toList (A.toList.drop m) stm = some st' ∧ GOk A.toList stm.E.at stm.G ∧ Fr P N w0 F0 (Gf stm.G) stm.E.at a.tmps w F O := by
    intro L a w hI hall
    obtain ⟨hdf, ⟨hz, _⟩ | ⟨⟨_, hz, _⟩, F, O, hfr⟩ | hI⟩ := hI
    · have := hz k (Nat.le_refl _)
      rw [hall k (Nat.le_refl _)] at this
      simp at this
    · refine ⟨hdf, k + 1, ⟨stB.E, [], stB.sup, stB.obs ++ lc⟩, F, O, Nat.lt_succ_self _, hkA, fun i hi => ⟨fun hl => ?_, fun hl => hall i (by omega)⟩, hev, (fun g c hgc => by simp [Gs.at] at hgc), ?_⟩
      · rcases Nat.lt_or_ge k i with hlt | hge
        · rw [hz i hlt] at hl; simp at hl
        · omega
      · rw [EDall L _ fun i hi => hall i (by omega)] at hfr
        exact hfr
    · exact ⟨hdf, hI⟩
  have hcount : (Array.replicate A.size false).toList.count false ≤ A.size := by simp
  refine any_of (I := I) hF ?_ ?_ A.size (Array.replicate A.size false) a _ (by simp) (fun i o ho hl => ?_) hcount ⟨hdf, .inl ⟨fun i _ => ?_, F, O2, ?_⟩⟩
  · -- a step
    intro L i a w hsz hdown hi hLi hbits hI
    have ho : A[i]? = some A[i] := Array.getElem?_eq_getElem hi
    unfold wpOp
    rw [ho]
    simp only
    by_cases hik : i < k
    · -- in the first part
      have hoi := hpre i _ hik ho
      obtain ⟨dI, hdI, hdsi⟩ := hdd i _ hoi
      have hdone : ∀ j, L.getD j false = true → ∀ l, ((closAll A.toList []).getD j 0).testBit l = true → L.getD l false = true := by
        intro j hj l hl
        cases hoj : A[j]? with
        | none =>
          rw [clos_none (by simpa using hoj)] at hl
          simp at hl
        | some oj => exact ready_bits hdown j hoj (hdown j oj hoj hj) l hl
      have hEDput : ∀ (e : Nat → S), ED k ds (L.setIfInBounds i true) e = fun t => if t = dI then e dI else ED k ds L e t := by
        intro e
        funext t
        by_cases htd : t = dI
        · subst htd
          simp only [if_true]
          unfold ED
          rw [if_neg]
          intro hp
          obtain ⟨j, hjk, hdj, hLj⟩ := pending_iff.1 hp
          have := hdist _ _ _ hdsi hdj
          subst this
          rw [getD_setB (by omega), if_pos rfl] at hLj
          simp at hLj
        · simp only [htd, if_false]
          unfold ED
          have hpp : pending k ds (L.setIfInBounds i true) t = pending k ds L t := by
            rw [Bool.eq_iff_iff, pending_iff, pending_iff]
            refine exists_congr fun j => and_congr_right fun hjk => and_congr_right fun hdj => ?_
            have hji : j ≠ i := fun hc => by
              subst hc
              rw [hdsi] at hdj
              exact htd (Option.some.inj hdj).symm
            rw [getD_setB (by omega), if_neg hji]
          rw [hpp]
      obtain ⟨hdf, hI | hI | ⟨m, _, _, _, hkm, _, hLm, _⟩⟩ := hI
      rotate_left
      · -- a late one, behind the first one that writes
        obtain ⟨⟨hLk, hz, hnl⟩, F, O, hfr⟩ := hI
        have hbi : bk.testBit i = false := by
          cases hb : bk.testBit i with
          | false => rfl
          | true => rw [hnl i hik hb] at hLi; simp at hLi
        have hft := hfactB i _ hoi (by rw [Nat.zero_add]; exact hbi)
        rw [Nat.zero_add] at hft
        obtain ⟨d, sup, s, l, sup', hdst, hguard, hq, hl, hEd, hdN, hrs⟩ := hft
        rw [hdst] at hdI
        obtain rfl := Option.some.inj hdI
        have hvis : ∀ t, t ∉ notIn ((closAll A.toList []).getD i 0 ||| bk) 0 ds → ED k ds L stB.E.at t = stB.E.at t := by
          intro t htn
          unfold ED
          rw [if_neg]
          intro hp
          obtain ⟨j, hjk, hdj, hLj⟩ := pending_iff.1 hp
          refine htn (notIn_mem.2 ⟨j, hdj, ?_⟩)
          rw [Nat.zero_add, Nat.testBit_or, Bool.or_eq_false_iff]
          constructor
          · cases hb : ((closAll A.toList []).getD i 0).testBit j with
            | false => rfl
            | true => rw [hbits j hb] at hLj; simp at hLj
          · cases hb : bk.testBit j with
            | false => rfl
            | true => rw [hnl j hjk hb] at hLj; simp at hLj
        have hhide : ∀ t, t ∉ notIn ((closAll A.toList []).getD i 0 ||| bk) 0 ds → hide (notIn ((closAll A.toList []).getD i 0 ||| bk) 0 ds) stB.E.at t = ED k ds L stB.E.at t := by
          intro t htn
          rw [hvis t htn]
          unfold Tom.hide
          rw [if_neg]
          exact fun hmm => htn (memb_iff.1 hmm)
        have hnr : ∀ t, ∀ V ∈ roots (stB.E.at t), V ∉ notIn ((closAll A.toList []).getD i 0 ||| bk) 0 ds := fun t V hV hc => hBroot t V hV (by rw [hdsL]; exact notIn_or hc)
        obtain ⟨Oh, hfh⟩ := hfr.hide (e' := hide (notIn ((closAll A.toList []).getD i 0 ||| bk) 0 ds) stB.E.at) fun t => by
          by_cases htn : t ∈ notIn ((closAll A.toList []).getD i 0 ||| bk) 0 ds
          · left
            unfold Tom.hide
            rw [if_pos (memb_iff.2 htn)]
          · right
            refine ⟨hhide t htn, fun V hV => hhide V ?_⟩
            rw [hvis t htn] at hV
            exact hnr t V hV
        refine quiet_sound (e' := stB.E.at) hfh ht (fun t => ?_) (fun g c hgc => by simp [Gs.at] at hgc) hq (fun g c hgc => by simp [Gs.at] at hgc) (fun p hp => hobsB' p (hl p hp)) fun v w' F' On hout' hs => ?_
        · unfold Tom.hide; split
          · exact .inl rfl
          · exact .inr rfl
        have hrs' : ∀ V ∈ roots s, V ∉ notIn ((closAll A.toList []).getD i 0 ||| bk) 0 ds := fun V hV hc => hrs V hV (notIn_or hc)
        have hs' : SRep P (Gf []) w' F' a.tmps (ED k ds L stB.E.at) v s On := hs.slot fun V hV => ⟨rfl, fun _ => (hhide V (hrs' V hV)).symm⟩
        have hdL : d ∈ dsL := (hlateIff d).2 ⟨i, hdsi, hbi⟩
        have hfree : ∀ t, d ∉ roots (ED k ds L stB.E.at t) := by
          intro t hdt
          unfold ED at hdt
          split at hdt
          · simp [roots] at hdt
          · exact hBroot t d hdt hdL
        have hput := hfr.put hdN hfree hout' hs' (fun hc => hrs d hc (by rw [← hdsL]; exact hdL))
        refine ⟨by rw [hdst]; exact hdf, .inr (.inl ⟨⟨?_, fun j hj => ?_, fun j hj hb => ?_⟩, F', (fun t => if t = d then On else O t), ?_⟩)⟩
        · rw [getD_setB (by omega), if_neg (by omega)]; exact hLk
        · rw [getD_setB (by omega), if_neg (by omega)]; exact hz j hj
        · rw [getD_setB (by omega)]
          split
          · rfl
          · exact hnl j hj hb
        · rw [hdst, hEDput, hEd]
          exact hput
      · have := (hLm i hi).2 (by omega)
        rw [hLi] at this
        simp at this
      obtain ⟨hz, F, O, hfr⟩ := hI
      have hft := hfact i _ hoi
      rw [Nat.zero_add] at hft
      obtain ⟨d, es, G0, sup, s, l, sup', G1, hdst, hq, hle, hGes, hGle, hl, hEd, hdN, hrs⟩ := hft
      rw [hdst] at hdI
      obtain rfl := Option.some.inj hdI
      have hvis : ∀ t, t ∉ notIn ((closAll A.toList []).getD i 0) 0 ds → ED k ds L st1.E.at t = st1.E.at t := by
        intro t htn
        unfold ED
        rw [if_neg]
        intro hp
        obtain ⟨j, hjk, hdj, hLj⟩ := pending_iff.1 hp
        refine htn (notIn_mem.2 ⟨j, hdj, ?_⟩)
        rw [Nat.zero_add]
        cases hb : ((closAll A.toList []).getD i 0).testBit j with
        | false => rfl
        | true => rw [hbits j hb] at hLj; simp at hLj
      have hroots : ∀ t, t ∉ notIn ((closAll A.toList []).getD i 0) 0 ds → ∀ V ∈ roots (st1.E.at t), V ∉ notIn ((closAll A.toList []).getD i 0) 0 ds := by
        intro t htn V hV hVn
        obtain ⟨lv, hlv, hbv⟩ := notIn_mem.1 hVn
        rw [Nat.zero_add] at hbv
        by_cases htd : t ∈ ds
        · obtain ⟨j, hj, rfl⟩ := List.getElem_of_mem htd
          have hdj : ds[j]? = some ds[j] := List.getElem?_eq_getElem hj
          have hbj : ((closAll A.toList []).getD i 0).testBit j = true := by
            cases hb : ((closAll A.toList []).getD i 0).testBit j with
            | true => rfl
            | false => exact absurd (notIn_mem.2 ⟨j, hdj, by rw [Nat.zero_add]; exact hb⟩) htn
          have hjk : j < k := hltk _ _ hdj
          have hjA : j < A.size := by omega
          have hoj : A[j]? = some A[j] := Array.getElem?_eq_getElem hjA
          have hoj' := hpre j _ hjk hoj
          have hfj := hfact j _ hoj'
          rw [Nat.zero_add] at hfj
          obtain ⟨dj, _, _, _, sj, _, _, _, hdstj, _, _, _, _, _, hEj, _, hrj⟩ := hfj
          obtain ⟨dj', hdj', hdsj⟩ := hdd j _ hoj'
          rw [hdstj] at hdj'
          obtain rfl := Option.some.inj hdj'
          rw [hdj] at hdsj
          obtain rfl := Option.some.inj hdsj
          rw [hEj] at hV
          refine hrj V hV (notIn_mem.2 ⟨lv, hlv, ?_⟩)
          rw [Nat.zero_add]
          cases hb : ((closAll A.toList []).getD j 0).testBit lv with
          | false => rfl
          | true => rw [clos_trans hF i ho j lv hbj hb] at hbv; simp at hbv
        · rw [hroute t htd] at hV
          exact hroot0 t V hV (List.mem_of_getElem? hlv)
      have hhide : ∀ t, t ∉ notIn ((closAll A.toList []).getD i 0) 0 ds → hide (notIn ((closAll A.toList []).getD i 0) 0 ds) st1.E.at t = ED k ds L st1.E.at t := by
        intro t htn
        rw [hvis t htn]
        unfold Tom.hide
        rw [if_neg]
        exact fun hmm => htn (memb_iff.1 hmm)
      obtain ⟨Oh, hfh⟩ := hfr.hide (e' := hide (notIn ((closAll A.toList []).getD i 0) 0 ds) st1.E.at) fun t => by
        by_cases htn : t ∈ notIn ((closAll A.toList []).getD i 0) 0 ds
        · left
          unfold Tom.hide
          rw [if_pos (memb_iff.2 htn)]
        · right
          refine ⟨hhide t htn, fun V hV => hhide V ?_⟩
          rw [hvis t htn] at hV
          exact hroots t htn V hV
      refine quiet_sound hfh ht hle hGes hq (fun g c hgc => by simp [Gf, hGle g c hgc]) (fun p hp => hobs1 p (hl p hp)) fun v w' F' On hout' hs => ?_
      have hs' : SRep P (Gf st1.G) w' F' a.tmps (ED k ds L st1.E.at) v s On := hs.slot fun V hV => ⟨rfl, fun _ => (hhide V (hrs V hV)).symm⟩
      have hself : d ∈ notIn ((closAll A.toList []).getD i 0) 0 ds := notIn_mem.2 ⟨i, hdsi, by
        rw [Nat.zero_add]
        cases hb : ((closAll A.toList []).getD i 0).testBit i with
        | false => rfl
        | true => have := hF.bit ho hb; omega⟩
      have hfree : ∀ t, d ∉ roots (ED k ds L st1.E.at t) := by
        intro t hdt
        unfold ED at hdt
        split at hdt
        · simp [roots] at hdt
        · rename_i hp
          by_cases htd : t ∈ ds
          · obtain ⟨j, hj, rfl⟩ := List.getElem_of_mem htd
            have hdj : ds[j]? = some ds[j] := List.getElem?_eq_getElem hj
            have hjk : j < k := hltk _ _ hdj
            have hjA : j < A.size := by omega
            have hLj : L.getD j false = true := by
              cases hb : L.getD j false with
              | true => rfl
              | false => exact absurd (pending_iff.2 ⟨j, hjk, hdj, hb⟩) hp
            have hoj : A[j]? = some A[j] := Array.getElem?_eq_getElem hjA
            have hoj' := hpre j _ hjk hoj
            have hfj := hfact j _ hoj'
            rw [Nat.zero_add] at hfj
            obtain ⟨dj, _, _, _, sj, _, _, _, hdstj, _, _, _, _, _, hEj, _, hrj⟩ := hfj
            obtain ⟨dj', hdj', hdsj⟩ := hdd j _ hoj'
            rw [hdstj] at hdj'
            obtain rfl := Option.some.inj hdj'
            rw [hdj] at hdsj
            obtain rfl := Option.some.inj hdsj
            rw [hEj] at hdt
            refine hrj d hdt (notIn_mem.2 ⟨i, hdsi, ?_⟩)
            rw [Nat.zero_add]
            cases hb : ((closAll A.toList []).getD j 0).testBit i with
            | false => rfl
            | true => rw [hdone j hLj i hb] at hLi; simp at hLi
          · rw [hroute t htd] at hdt
            exact hroot0 t d hdt (List.mem_of_getElem? hdsi)
      have hput := hfr.put hdN hfree hout' hs' (fun hc => hrs d hc hself)
      refine ⟨by rw [hdst]; exact hdf, .inl ⟨fun j hj => ?_, F', (fun t => if t = d then On else O t), ?_⟩⟩
      · rw [getD_setB (by omega), if_neg (by omega)]
        exact hz j hj
      · rw [hdst, hEDput, hEd]
        exact hput
    · by_cases hik' : i = k
      · -- the first one that writes
        subst hik'
        obtain ⟨hdf, ⟨hz, F, O, hfr⟩ | ⟨⟨hLk, _, _⟩, _⟩ | ⟨m, _, _, _, hkm, _, hLm, _⟩⟩ := hI
        rotate_left
        · rw [hLk] at hLi; simp at hLi
        · have := (hLm i hi).2 (by omega)
          rw [hLi] at this
          simp at this
        have hoeq : A[i] = ok := by
          rw [ho] at hokA
          exact Option.some.inj hokA
        have hnp : ∀ t, t ∉ dsL → ED i ds L st1.E.at t = st1.E.at t := by
          intro t htL
          unfold ED
          rw [if_neg]
          intro hp
          obtain ⟨j, hjk, hdj, hLj⟩ := pending_iff.1 hp
          refine htL ((hlateIff t).2 ⟨j, hdj, ?_⟩)
          cases hb : bk.testBit j with
          | false => rfl
          | true => rw [hbits j (by rw [← hbk]; exact hb)] at hLj; simp at hLj
        have hEh : ∀ t, (st1.E.drop.clear dsL).at t = if memb t dsL then .dead else dropS (st1.E.at t) := fun t => by rw [Env.at_clear, Env.at_drop]
        obtain ⟨Oh, hfh⟩ := hfr.hide' (e' := (st1.E.drop.clear dsL).at) fun t => by
          by_cases htL : t ∈ dsL
          · left; rw [hEh, if_pos (memb_iff.2 htL)]
          · rw [hEh, if_neg (fun hmm => htL (memb_iff.1 hmm)), hnp t htL]
            cases hs : st1.E.at t with
            | cnd g s => left; rfl
            | _ =>
              right
              refine ⟨rfl, fun V hV hsol => ?_⟩
              have hVL : V ∉ dsL := by
                have := noRoot_spec hr1 t
                rw [hEh, if_neg (fun hmm => htL (memb_iff.1 hmm)), hs] at this
                exact this V hV
              rw [hnp V hVL] at hsol ⊢
              rw [hEh, if_neg (fun hmm => hVL (memb_iff.1 hmm)), dropS_ne hsol]
        have hfg := hfh.guards (Gf2 := Gf []) fun t g hg => by
          rw [hEh] at hg
          split at hg
          · simp [hasG] at hg
          · rw [hasG_drop] at hg; simp at hg
        rw [hoeq]
        refine stepO_sound (st := ⟨st1.E.drop.clear dsL, [], st1.sup, st1.obs⟩) ht hstA hobsA' (fun g c hgc => by simp [Gs.at] at hgc) hfg fun v w1 F1 O1 hGn hfn => ?_
        rw [hGA'] at hfn
        obtain ⟨O3, hfc⟩ := hfn.clear (ds := dsL) (noRoot_spec hrA)
        have hO3 : ∀ t, t ∈ dsL → O3 t = [] := fun t htL => by
          have := hfc.rep t
          rw [Env.at_clear, if_pos (memb_iff.2 htL)] at this
          exact this
        have hdk : ∀ t ∈ dsL, ok.dst ≠ some t := fun t htL hc => by
          unfold dstOut at hout
          rw [hc] at hout
          simp only [Bool.not_eq_true'] at hout
          rw [memb_iff.2 htL] at hout
          simp at hout
        have hEA : ∀ t, t ∉ dsL → (stA.E.clear dsL).at t = stB.E.at t := fun t htL => by
          rw [hBoth t htL, Env.at_clear, if_neg fun hmm => htL (memb_iff.1 hmm)]
        have hEDB : ∀ t, t ∉ dsL → ED i ds (L.setIfInBounds i true) stB.E.at t = stB.E.at t := by
          intro t htL
          unfold ED
          rw [if_neg]
          intro hp
          obtain ⟨j, hjk, hdj, hLj⟩ := pending_iff.1 hp
          rw [getD_setB (by omega), if_neg (by omega)] at hLj
          refine htL ((hlateIff t).2 ⟨j, hdj, ?_⟩)
          cases hb : bk.testBit j with
          | false => rfl
          | true => rw [hbits j (by rw [← hbk]; exact hb)] at hLj; simp at hLj
        refine ⟨by cases ok.dst <;> exact hdf, .inr (.inl ⟨⟨?_, fun j hj => ?_, fun j hj hb => ?_⟩, F1, O3, ?_⟩)⟩
        · rw [getD_setB (by omega), if_pos rfl]
        · rw [getD_setB (by omega), if_neg (by omega)]; exact hz j (by omega)
        · rw [getD_setB (by omega), if_neg (by omega)]; exact hbits j (by rw [← hbk]; exact hb)
        · refine hfc.less (fun t => ?_) fun t => ⟨hfc.nodup t, fun b hb => hb⟩
          by_cases htL : t ∈ dsL
          · -- a late one
            rw [hO3 t htL]
            unfold ED
            split
            · rfl
            · rename_i hp
              obtain ⟨j, hj, hbj⟩ := (hlateIff t).1 htL
              have hjk := hltk _ _ hj
              have hLj : L.getD j false = true := by
                cases hb : L.getD j false with
                | true => rfl
                | false =>
                  exfalso
                  refine hp (pending_iff.2 ⟨j, hjk, hj, ?_⟩)
                  rw [getD_setB (by omega), if_neg (by omega)]
                  exact hb
              obtain ⟨l', hc1, hl'⟩ := carryAll_spec hcarry t htL
              have hold := hfr.rep t
              have hnpt : ED i ds L st1.E.at t = st1.E.at t := by
                unfold ED
                rw [if_neg]
                intro hp'
                obtain ⟨j', hjk', hdj', hLj'⟩ := pending_iff.1 hp'
                have := hdist _ _ _ hj hdj'
                subst this
                rw [hLj] at hLj'
                simp at hLj'
              rw [hnpt] at hold
              rw [put_getD (hdk t htL)]
              have hrts := carry_roots hc1
              have hs1 : st1.E.drop.at t = st1.E.at t := by
                rw [Env.at_drop]
                cases hs : st1.E.at t with
                | cnd g s => rw [Env.at_drop, hs] at hc1; simp [dropS, carry1] at hc1
                | _ => rfl
              rw [hs1] at hc1 hrts
              exact carry_ok hc1 (fun p hp => hobsL p (hl' p hp)) hold hfc (fun V hV => put_getD hV) (fun V hV hsol => by
                have hVL : V ∉ dsL := by rw [hrts] at hV; exact hBroot t V hV
                rw [hnp V hVL, Env.at_drop]
                rw [Env.at_drop] at hsol
                cases hs : st1.E.at V with
                | cnd g s => rw [hs] at hsol; simp [dropS, solid] at hsol
                | _ => rfl) (fun V hV => ⟨hEDB V (hBroot t V hV), hEA V (hBroot t V hV)⟩)
          · rw [hEDB t htL]
            have hr := hfc.rep t
            rw [hEA t htL] at hr
            refine hr.slot fun V hV => ⟨rfl, fun _ => ?_⟩
            have hVL := hBroot t V hV
            rw [hEDB V hVL, hEA V hVL]
      · -- in the second part
        have hki : k < i := by omega
        have hbi : (closAll A.toList []).getD i 0 = 2 ^ i - 1 := by
          have := tailOk_spec htl i (by rw [clos_len]; simpa using hi) (by omega)
          simpa using this
        have hall : ∀ j, j < i → L.getD j false = true := fun j hj => hbits j (by rw [hbi, Nat.testBit_two_pow_sub_one]; simpa using hj)
        obtain ⟨hdf, m, stm, F, O, hkm, hmA, hLm, hevm, hGm, hfm⟩ := phase3 L a w hI (fun j hj => hall j (by omega))
        have him : i = m := by
          have h1 : ¬ i < m := fun hc => by rw [(hLm i hi).2 hc] at hLi; simp at hLi
          rcases Nat.lt_or_ge m i with hlt | hge
          · have := (hLm m (by omega)).1 (hall m hlt)
            omega
          · omega
        subst him
        have hdrop : A.toList.drop i = A[i] :: A.toList.drop (i + 1) := by
          rw [List.drop_eq_getElem_cons (by simpa using hi)]
          simp
        rw [hdrop] at hevm
        simp only [evalOps] at hevm
        split at hevm
        rotate_left
        · simp at hevm
        rename_i stn hstn
        obtain ⟨l3, hl3⟩ := evalOps_obs hevm
        refine stepO_sound ht hstn (fun p hp => hobs p (by rw [hl3]; exact List.mem_append_left _ hp)) hGm hfm fun v w1 F1 O1 hGn hfn => ?_
        refine ⟨by cases A[i].dst <;> exact hdf, .inr (.inr ⟨i + 1, stn, F1, O1, by omega, by omega, fun j hj => ?_, hevm, hGn, hfn⟩)⟩
        rw [getD_setB (by omega)]
        split
        · rename_i hji; subst hji; simp
        · rw [hLm j hj]; omega
  · -- the end
    intro L a w hsz hall hI
    obtain ⟨hdf, m, stm, F, O, hkm, hmA, hLm, hevm, hGm, hfm⟩ := phase3 L a w hI (fun j hj => hall j (by omega))
    have hmA' : m = A.size := by
      rcases Nat.lt_or_ge m A.size with hlt | hge
      · have := (hLm m hlt).1 (hall m hlt); omega
      · omega
    subst hmA'
    rw [List.drop_eq_nil_of_le (by simp)] at hevm
    simp only [evalOps, Option.some.injEq] at hevm
    subst hevm
    exact hQ a w F O hdf hfm
  · -- nothing is done yet
    exfalso
    simp only [Array.getD_eq_getD_getElem?, Array.getElem?_replicate] at hl
    split at hl <;> simp at hl
  · simp only [Array.getD_eq_getD_getElem?, Array.getElem?_replicate]
    split <;> rfl
  · have he : ED k ds (Array.replicate A.size false) st1.E.at = (st.E.drop.clear ds).at := by
      funext t
      unfold ED
      rw [Env.at_clear]
      by_cases htd : t ∈ ds
      · obtain ⟨j, hj, rfl⟩ := List.getElem_of_mem htd
        rw [if_pos (pending_iff.2 ⟨j, hltk _ _ (List.getElem?_eq_getElem hj), List.getElem?_eq_getElem hj, by
          simp only [Array.getD_eq_getD_getElem?, Array.getElem?_replicate]
          split <;> rfl⟩), if_pos (memb_iff.2 htd)]
      · rw [if_neg, if_neg, hroute t htd]
        · exact fun hmm => htd (memb_iff.1 hmm)
        · intro hp
          obtain ⟨j, _, hdj, _⟩ := pending_iff.1 hp
          exact htd (List.mem_of_getElem? hdj)
    rw [he]
    exact hd2.drew

/-- A region with late ones, and what is kept behind it. -/
def evalRL (P : Program) (tys : Tys) (N : Nat) (A : Array Oper) (E : Env) (sup : List Sup) (l : List (Nat × Nat)) : Option (Env × List Prop) :=
  match evalRegionL P tys N A.toList ⟨E, [], sup, []⟩ with
  | some st => match st.E.drop.keep l with
    | some E' => some (E', st.obs)
    | none => none
  | none => none

theorem W_regionL {Q : Exit → Act → World → Prop} {k : List KI} {E : Env} (hm : P.follows .mixedOrders = true) {tys : Tys} (ht : tys.ok P = true) {id : Nat} {A : Array Oper} {sup : List Sup} {l : List (Nat × Nat)} {E' : Env} {obs : List Prop} (hev : evalRL P tys N A E sup l = some (E', obs)) (hobs : AllP obs)
    (h : W P N w0 F0 Q k E') : W P N w0 F0 Q (.code (.region id A true) :: k) E := by
  unfold evalRL at hev
  split at hev
  · rename_i st hst
    split at hev
    · rename_i E1 hk
      simp only [Option.some.injEq, Prod.mk.injEq] at hev
      obtain ⟨rfl, rfl⟩ := hev
      intro a w hh
      obtain ⟨hd, Gff, F, O, hf⟩ := hh
      refine region_soundL hm ht hst (AllP_iff.1 hobs) hf hd fun a' w' F' O' hd' hf' => ?_
      obtain ⟨O2, hdr⟩ := hf'.drop (Gf2 := Gff)
      obtain ⟨F3, O3, hk3⟩ := hdr.keep hk
      exact h a' w' ⟨hd', Gff, F3, O3, hk3⟩
    · simp at hev
  · simp at hev
end
end Go.Tom
