/- Chapter 48: the least whole amounts are the document's, if its example is. -/
import Derived.Test.YtomdhjdgcfcjdaaPN20
set_option linter.unusedVariables false
set_option linter.unusedSimpArgs false
namespace Go.Tom
open Go

theorem r11_Ints_eq' (a b : List Int) (ha : a.length ≤ 100000000) : r11_Ints a b = some (decide (a = b)) := by
  suffices hh : Tot (r11_Ints a b) (fun r => r = true ↔ a = b) by
    rw [hh.dec]
    congr 1
    by_cases h : a = b <;> simp [h]
  simp only [r11_Ints, cond_some, Tot.cond_iff, Tot.ass_iff, Tot.bnd_iff, Tot.some_iff, Tot.map_iff, Tot.bind_iff, Nx.inl_iff, Nx.inr_iff, decide_eq_true_eq, decide_eq_false_iff_not]
  refine ⟨fun h => ?_, fun h => ?_⟩
  · simp only [Bool.and_eq_true, Bool.or_eq_true, Bool.not_eq_true', Bool.and_eq_false_iff, Bool.or_eq_false_iff, Bool.not_eq_false', beq_iff_eq, bne_iff_ne, beq_eq_false_iff_ne, bne_eq_false_iff_eq, decide_eq_true_eq, decide_eq_false_iff_not] at h
    simp only [Bool.false_eq_true, false_iff]
    intro hc; rw [hc] at h; exact h rfl
  · simp only [Bool.and_eq_true, Bool.or_eq_true, Bool.not_eq_true', Bool.and_eq_false_iff, Bool.or_eq_false_iff, Bool.not_eq_false', beq_iff_eq, bne_iff_ne, beq_eq_false_iff_ne, bne_eq_false_iff_eq, decide_eq_true_eq, decide_eq_false_iff_not] at h
    refine Tot.loop (fun x => 0 ≤ x ∧ x ≤ (a.length : Int) ∧ ∀ k : Int, 0 ≤ k → k < x → rd 0 a k = rd 0 b k) (fun x => ((a.length : Int) - x).toNat) (fun x hx => ?_) ⟨by omega, by omega, fun k _ _ => by omega⟩
    obtain ⟨h0, h1, h2⟩ := hx
    have hw1 : IntKind.i64.wrap (x + 1) = x + 1 := w64 (by omega) (by omega)
    simp only [r11_Ints_b1, r11_Ints_j1, hw1, cond_some, Tot.cond_iff, Tot.ass_iff, Tot.bnd_iff, Tot.some_iff, Tot.map_iff, Tot.bind_iff, Nx.inl_iff, Nx.inr_iff, decide_eq_true_eq, decide_eq_false_iff_not]
    refine ⟨fun hlt => ⟨⟨h0, hlt⟩, ⟨h0, by omega⟩, fun he => ?_, fun he => ⟨⟨by omega, by omega, fun k c d => ?_⟩, by omega⟩⟩, fun hge => ?_⟩
    · simp only [Bool.and_eq_true, Bool.or_eq_true, Bool.not_eq_true', Bool.and_eq_false_iff, Bool.or_eq_false_iff, Bool.not_eq_false', beq_iff_eq, bne_iff_ne, beq_eq_false_iff_ne, bne_eq_false_iff_eq, decide_eq_true_eq, decide_eq_false_iff_not] at he
      simp only [Bool.false_eq_true, false_iff]
      intro hc; rw [hc] at he; exact he rfl
    · simp only [Bool.and_eq_true, Bool.or_eq_true, Bool.not_eq_true', Bool.and_eq_false_iff, Bool.or_eq_false_iff, Bool.not_eq_false', beq_iff_eq, bne_iff_ne, beq_eq_false_iff_ne, bne_eq_false_iff_eq, decide_eq_true_eq, decide_eq_false_iff_not] at he
      by_cases hkx : k = x
      · rw [hkx]; exact he
      · exact h2 k c (by omega)
    · simp only [true_iff]
      refine List.ext_getElem (by omega) fun k hk1 hk2 => ?_
      have := h2 k (by omega) (by omega)
      rwa [rd_eq k rfl hk1, rd_eq k rfl hk2] at this

theorem part_size {l : List FP} (hl : l.length ≤ 10) (hs : Short l) (hS : 0 < (upL l).sum) {p : FP} (hp : p ∈ l) : S16 99 (divP p (sumP l)) ∧ 0 < (divP p (sumP l)).2 ∧ 0 < Nat.gcd (p.1 * (sumP l).2) (p.2 * (sumP l).1) := by
  obtain ⟨e, hsum⟩ := r48_Sum_eq (l := l) (by omega) hs
  obtain ⟨hp8, hp0, _⟩ := hs p hp
  have hn : 0 < (sumP l).1 := by
    rcases Nat.eq_zero_or_pos (sumP l).1 with h0 | h0
    · have := (sumP_zero fun q hq => (hs q hq).2.1).1 h0; omega
    · exact h0
  have hb : 0 < p.2 * (sumP l).1 := Nat.mul_pos hp0 hn
  have m1 := d16_mul p.1 (sumP l).2
  have m2 := d16_mul p.2 (sumP l).1
  obtain ⟨s1, s2⟩ := hsum
  obtain ⟨q1, q2⟩ := hp8
  exact ⟨low_size (by omega) (by omega), low_pos hb, Nat.gcd_pos_of_pos_right _ hb⟩

theorem partL_len (l : List FP) : (partL l).length = l.length := by simp [partL]
theorem wantL_len (l : List FP) : (wantL l).length = l.length := by simp [wantL, upL]

theorem mem_le_sum : ∀ {l : List Nat} {u : Nat}, u ∈ l → u ≤ l.sum
  | a :: l, u, h => by
    rw [List.sum_cons]
    rcases List.mem_cons.1 h with rfl | h
    · omega
    · have := mem_le_sum h; omega

theorem exact_main (halive : l48_alive = some true) {l : List FP} (hl10 : l.length ≤ 10) (hs : Short l) (hS : 0 < (upL l).sum) {Y : List Int × Int} (hY : Y = (if ∀ w ∈ wantL l, w ≤ 1048576 then ((wantL l).map fun w : Nat => (w : Int), 0) else ([], 6))) :
    Tot (l48_PlanExact_j1 Y ((partL l).map q16)) (fun r => r = true) := by
  have hpl := partL_len l
  have hwl := wantL_len l
  have hps : ∀ p ∈ partL l, S16 99 p ∧ 0 < p.2 := fun p hp => by
    obtain ⟨q, hq, rfl⟩ := List.mem_map.1 hp
    obtain ⟨g1, g2, _⟩ := part_size hl10 hs hS hq
    exact ⟨g1, g2⟩
  obtain ⟨hlcm, hlsz⟩ := r04_Lcm_eq (l := partL l) (k := 99) (by rw [hpl]; omega) (by omega) fun p hp => ⟨(hps p hp).1.2, (hps p hp).2⟩
  rw [hpl] at hlsz
  unfold l48_PlanExact_j1
  rw [hlcm, Option.bind_some]
  refine Tot.loop (fun x => ∃ i : Nat, x.2.2 = (i : Int) ∧ i ≤ l.length ∧ x.2.1.length = i ∧ (x.1 = false ↔ ∀ w ∈ (wantL l).take i, w ≤ 1048576) ∧ (x.1 = false → x.2.1 = ((wantL l).take i).map fun w : Nat => (w : Int))) (fun x => ((l.length : Int) - x.2.2).toNat) (fun x hx => ?_)
    ⟨0, rfl, Nat.zero_le _, rfl, ⟨fun _ w hw => by simp at hw, fun _ => rfl⟩, fun _ => rfl⟩
  obtain ⟨big, want, i0⟩ := x
  obtain ⟨i, h1, h2, h3, h4, h5⟩ := hx
  simp only at h1 h3 h4 h5
  subst h1
  rcases Nat.lt_or_ge i l.length with hi | hi
  · have hip : i < (partL l).length := by omega
    have hiw : i < (wantL l).length := by omega
    have hc : decide ((i : Int) < (((partL l).map q16).length : Int)) = true := decide_eq_true (by rw [List.length_map]; omega)
    have hrd : rd z_r04_Q ((partL l).map q16) (i : Int) = q16 (partL l)[i] := rd_map hip
    obtain ⟨g1, g2⟩ := hps (partL l)[i] (List.getElem_mem hip)
    obtain ⟨P, hP⟩ : ∃ P, P = (partL l)[i] := ⟨_, rfl⟩
    have huw := up_want hs hS hi
    rw [← hP] at hrd g1 g2 huw
    obtain ⟨m, hm⟩ : ∃ m, m = comD (partL l) := ⟨_, rfl⟩
    rw [← hm] at huw hlsz ⊢
    obtain ⟨W, hW⟩ : ∃ W, W = (wantL l)[i] := ⟨_, rfl⟩
    rw [← hW] at huw
    have hms := d16_mul P.1 m
    have hg1 := g1.1
    have hg2 := g1.2
    have hWs : (d16 W).length ≤ 2000 := by
      rw [← huw]
      refine Nat.le_trans (d16_mono (Nat.div_le_self ..)) ?_
      omega
    have hup : r04_Up (q16 P) (d16 m) = some (d16 W) := by
      rw [← Tot.eq_iff]
      unfold r04_Up
      show Tot ((r01_Mul (d16 P.1) (d16 m)).bind fun y1 => (r01_Div y1 (d16 P.2)).bind fun y2 => some y2.1) _
      rw [r01_Mul_eq (by omega) (by omega), Option.bind_some, r01_Div_eq (by omega) (by omega) g2, Option.bind_some]
      refine Tot.some_iff.2 ?_
      show d16 (P.1 * m / P.2) = d16 W
      rw [huw]
    have hword := r01_Word_eq (x := W) (by omega)
    have hw : IntKind.i64.wrap ((i : Int) + 1) = (i : Int) + 1 := w64 (by omega) (by omega)
    have hlim : ∀ z : Int, (((want.length + [z].length : Nat) : Int)) ≤ limA := fun z => by rw [h3]; simp only [List.length_singleton]; unfold limA; omega
    have htk : (wantL l).take (i + 1) = (wantL l).take i ++ [W] := by rw [List.take_succ_eq_append_getElem hiw, hW]
    unfold l48_PlanExact_b1
    rw [hc, cond_true]
    refine Tot.ass_iff.2 ⟨(⟨by omega, by rw [List.length_map]; omega⟩ : 0 ≤ (i : Int) ∧ (i : Int) < (((partL l).map q16).length : Int)), ?_⟩
    rw [hrd, hup, Option.bind_some, hword, Option.bind_some, Tot.bnd_iff]
    refine Tot.ass_iff.2 ⟨by omega, Tot.ass_iff.2 ⟨hlim _, ?_⟩⟩
    rw [Tot.bnd_iff, hw, Tot.bnd_iff]
    refine Tot.some_iff.2 (Nx.inl_iff.2 ⟨⟨i + 1, by simp, hi, by rw [List.length_append, h3]; rfl, ?_, ?_⟩, by simp only; omega⟩)
    · simp only
      rw [htk]
      by_cases hsm : W ≤ 1048576
      · rw [if_pos (by omega)]
        have e2 : decide ((W : Int) > 1048576) = false := decide_eq_false (by omega)
        simp only [Bool.not_true, Bool.or_false, e2]
        rw [h4]
        constructor
        · intro h w hw
          rcases List.mem_append.1 hw with hw | hw
          · exact h w hw
          · simp only [List.mem_singleton] at hw; rw [hw]; exact hsm
        · intro h w hw
          exact h w (List.mem_append_left _ hw)
      · constructor
        · intro h
          exfalso
          by_cases h64 : W < 18446744073709551616
          · rw [if_pos h64] at h
            have e2 : decide ((W : Int) > 1048576) = true := decide_eq_true (by omega)
            simp only [e2, Bool.or_true] at h
            exact absurd h (by simp)
          · rw [if_neg h64] at h
            simp only [Bool.not_false, Bool.or_true, Bool.true_or] at h
            exact absurd h (by simp)
        · intro h
          exact absurd (h W (List.mem_append_right _ (List.mem_singleton.2 rfl))) hsm
    · simp only
      intro h
      have hsm : W ≤ 1048576 := by
        refine Classical.byContradiction fun hsm => ?_
        by_cases h64 : W < 18446744073709551616
        · rw [if_pos h64] at h
          have e2 : decide ((W : Int) > 1048576) = true := decide_eq_true (by omega)
          simp only [e2, Bool.or_true] at h
          exact absurd h (by simp)
        · rw [if_neg h64] at h
          simp only [Bool.not_false, Bool.or_true, Bool.true_or] at h
          exact absurd h (by simp)
      rw [if_pos (by omega)] at h ⊢
      have e2 : decide ((W : Int) > 1048576) = false := decide_eq_false (by omega)
      simp only [Bool.not_true, Bool.or_false, e2] at h
      have ht : ((W : Int)).tmod 4294967296 = (W : Int) := by rw [Int.tmod_eq_emod_of_nonneg (by omega)]; omega
      have hwr : IntKind.i64.wrap (W : Int) = (W : Int) := w64 (by omega) (by omega)
      simp only [ht, hwr]
      rw [h5 h, htk, List.map_append]; rfl
  · have hin : i = l.length := by omega
    subst hin
    have htk : (wantL l).take l.length = wantL l := List.take_of_length_le (by omega)
    rw [htk] at h4 h5
    have hc : decide ((l.length : Int) < (((partL l).map q16).length : Int)) = false := decide_eq_false (by rw [List.length_map]; omega)
    unfold l48_PlanExact_b1
    rw [hc, cond_false]
    have hend : Tot (l48_PlanExact_j2 Y big want) (fun r => r = true) := by
      unfold l48_PlanExact_j2
      cases big with
      | true =>
        have hnot : ¬ ∀ w ∈ wantL l, w ≤ 1048576 := fun hc => by have := h4.2 hc; simp at this
        rw [if_neg hnot] at hY
        subst hY
        rw [cond_true]
        show Tot ((bif true then l48_alive else some false).bind fun y12 => bnd (true && y12) fun x13 => some x13) _
        rw [cond_true, halive]
        exact Tot.some_iff.2 rfl
      | false =>
        rw [if_pos (h4.1 rfl)] at hY
        subst hY
        rw [cond_false, h5 rfl]
        show Tot ((bif true then r11_Ints ((wantL l).map fun w : Nat => (w : Int)) ((wantL l).map fun w : Nat => (w : Int)) else some false).bind fun y14 => (bif true && y14 then l48_alive else some false).bind fun y15 => bnd ((true && y14) && y15) fun x16 => some x16) _
        rw [cond_true, r11_Ints_eq' _ _ (by rw [List.length_map]; omega), Option.bind_some, decide_eq_true rfl, Bool.and_self, cond_true, halive]
        exact Tot.some_iff.2 rfl
    obtain ⟨r, hr, hr2⟩ := hend
    rw [hr]
    exact Tot.some_iff.2 (Nx.inr_iff.2 hr2)

theorem PlanExact_of (halive : l48_alive = some true) (p0 : List D_api_Ratio) (hl : p0.length ≤ 2932031007317) (hd : ∀ r ∈ p0, DgR r) : l48_PlanExact p0 = some true := by
  rw [← Tot.eq_iff]
  have hal : ∀ Q : Bool → Prop, Q true → Tot (l48_alive.bind fun y => some y) Q := fun Q h => by rw [halive, Option.bind_some]; exact Tot.some_iff.2 h
  unfold l48_PlanExact
  rw [Tot.bind_iff]
  refine (l48_in_tot p0 hl hd).mono fun y1 hy => ?_
  rcases hy with ⟨l, hp, hs, rfl⟩ | rfl
  rotate_left
  · show Tot (bif (!false) || _ then l48_alive.bind fun y => some y else _) _
    rw [Bool.not_false, Bool.true_or, cond_true]
    exact hal _ rfl
  have hlen : p0.length = l.length := by rw [hp, List.length_map]
  by_cases h10 : (p0.length : Int) > 10
  · rw [decide_eq_true h10, Bool.or_true, cond_true]
    exact hal _ rfl
  rw [decide_eq_false h10]
  have hl10 : l.length ≤ 10 := by omega
  show Tot (bif (!true) || false then _ else _) _
  rw [Bool.not_true, Bool.or_self, cond_false, hp, plan_Exact_eq (by omega) hs, Option.bind_some]
  obtain ⟨hsum, hsz⟩ := r48_Sum_eq (l := l) (by omega) hs
  have hpos : ∀ p ∈ l, 0 < p.2 := fun p hp => (hs p hp).2.1
  show Tot ((r48_Sum (l.map q16)).bind fun y4 => _) _
  rw [hsum, Option.bind_some, r04_Zero_eq, Option.bind_some]
  by_cases hz : (sumP l).1 = 0
  · have hS := (sumP_zero hpos).1 hz
    have hg0 : gcdF 0 (upL l) = 0 := by
      have : ∀ u ∈ upL l, u = 0 := fun u hu => by
        have := mem_le_sum hu
        omega
      have h0 : 0 ∣ gcdF 0 (upL l) := dvd_gcdF (Nat.dvd_refl _) fun u hu => by rw [this u hu]; exact Nat.dvd_refl _
      exact Nat.zero_dvd.1 h0
    rw [decide_eq_true hz, cond_true, if_pos hg0]
    show Tot ((bif true then l48_alive else some false).bind fun y6 => bnd (true && y6) fun x7 => some x7) _
    rw [cond_true, halive]
    exact Tot.some_iff.2 rfl
  · have hS : 0 < (upL l).sum := by
      rcases Nat.eq_zero_or_pos (upL l).sum with h | h
      · exact absurd ((sumP_zero hpos).2 h) hz
      · exact h
    have hg := gcd_pos hS
    rw [decide_eq_false hz, cond_false, if_neg (by omega)]
    obtain ⟨Y, hY⟩ : ∃ Y : List Int × Int, Y = (if ∀ w ∈ wantL l, w ≤ 1048576 then ((wantL l).map fun w : Nat => (w : Int), 0) else ([], 6)) := ⟨_, rfl⟩
    rw [← hY]
    refine loop_fold l _ (fun a p => a ++ [q16 (divP p (sumP l))]) (fun i a => a.length = i) rfl (fun i hi a ha => ?_) (fun ha => ?_)
    · obtain ⟨g1, g2, g3⟩ := part_size hl10 hs hS (List.getElem_mem hi)
      obtain ⟨hp8, hp0, _⟩ := hs l[i] (List.getElem_mem hi)
      have hw : IntKind.i64.wrap ((i : Int) + 1) = (i : Int) + 1 := w64 (by omega) (by omega)
      have hdv := r04_Div_eq (p := l[i]) (q := sumP l) (hp8.mono (show 8 ≤ 400000 by omega)) (hsz.mono (show 9 * l.length + 1 ≤ 400000 by omega)) (by omega) g3
      have hrd : rd z_r04_Q (l.map q16) (i : Int) = q16 l[i] := rd_map hi
      have hc : decide ((i : Int) < ((l.map q16).length : Int)) = true := decide_eq_true (by rw [List.length_map]; omega)
      refine ⟨?_, by rw [List.length_append, ha]; rfl⟩
      rw [← Tot.eq_iff]
      show Tot (l48_PlanExact_b2 (l.map q16, true) Y a (i : Int)) _
      unfold l48_PlanExact_b2
      show Tot (bif decide ((i : Int) < ((l.map q16).length : Int)) then _ else _) _
      rw [hc, cond_true]
      refine Tot.ass_iff.2 ⟨⟨by omega, by show (i : Int) < ((l.map q16).length : Int); rw [List.length_map]; omega⟩, ?_⟩
      show Tot ((r48_Sum (l.map q16)).bind fun y27 => (r04_Div (rd z_r04_Q (l.map q16) (i : Int)) y27).bind fun y28 => ass (((a.length + [y28].length : Nat) : Int) ≤ limQ) <| bnd (a ++ [y28]) fun x29 => bnd (IntKind.i64.wrap ((i : Int) + (1 : Int))) fun x30 => some (Sum.inl (x29, x30))) _
      rw [hsum, Option.bind_some, hrd, hdv, Option.bind_some, hw]
      refine Tot.ass_iff.2 ⟨by rw [ha]; simp only [List.length_singleton]; unfold limQ; omega, ?_⟩
      exact Tot.some_iff.2 rfl
    · have epart : l.foldl (fun a p => a ++ [q16 (divP p (sumP l))]) [] = (partL l).map q16 := by
        rw [foldl_snoc, List.nil_append]
        unfold partL
        rw [List.map_map]; rfl
      rw [epart]
      have hc : decide ((l.length : Int) < ((l.map q16).length : Int)) = false := decide_eq_false (by rw [List.length_map]; omega)
      show Tot (l48_PlanExact_b2 (l.map q16, true) Y ((partL l).map q16) (l.length : Int)) _
      unfold l48_PlanExact_b2
      show Tot (bif decide ((l.length : Int) < ((l.map q16).length : Int)) then _ else _) _
      rw [hc, cond_false]
      have main := exact_main halive hl10 hs hS hY
      obtain ⟨r, hr, hr2⟩ := main
      rw [hr]
      exact Tot.some_iff.2 ⟨r, rfl, hr2⟩
end Go.Tom
