/- Chapter 4: the least common number of many. -/
import Derived.Test.YtomdhjdgcfcjdaaDoorRT3
set_option linter.unusedVariables false
set_option linter.unusedSimpArgs false
namespace Go.Tom
open Go

theorem r04_Up_eq {p : FP} {D : Nat} (hp : S16 100 p) (hD : (d16 D).length ≤ 10000) (h0 : 0 < p.2) (hd : p.2 ∣ D) : r04_Up (q16 p) (d16 D) = some (d16 (D / p.2 * p.1)) := by
  obtain ⟨h1, h2⟩ := hp
  have m := d16_mul p.1 D
  have e : p.1 * D / p.2 = D / p.2 * p.1 := by rw [Nat.mul_div_assoc _ hd, Nat.mul_comm]
  unfold r04_Up
  show ((r01_Mul (d16 p.1) (d16 D)).bind fun y1 => (r01_Div y1 (d16 p.2)).bind fun y2 => some y2.1) = _
  rw [r01_Mul_eq (by omega) (by omega), Option.bind_some, r01_Div_eq (by omega) (by omega) h0, Option.bind_some, e]

/-- Behind the gate: all are right. -/
theorem common_rest {l : List FP} (hl : l.length ≤ 12) (hs : Sh l) : Tot (l04_RatioCommon_j1 (l.map q32) (l.map q16)) (· = true) := by
  obtain ⟨hc, _⟩ := ratio_Common_eq (by omega) hs
  have hlk : l.length * 12 ≤ 144 := by omega
  obtain ⟨hm, hml⟩ := r04_Lcm_eq (k := 12) (by omega) (by omega) fun p hp => ⟨(hs p hp).1.2, (hs p hp).2⟩
  have o1 : r03_Out (d16 (comD l)) = some (d32 (comD l)) := r03_Out_eq (by omega)
  have l32 := d32_le16 (comD l)
  have s1 : r03_Same (d32 (comD l)) (d32 (comD l)) = some true := by rw [r03_Same_eq _ _ (by omega), decide_eq_true rfl]
  unfold l04_RatioCommon_j1
  rw [hc, Option.bind_some, hm, Option.bind_some, o1, Option.bind_some]
  show Tot ((r03_Same (d32 (comD l)) (d32 (comD l))).bind fun y6 => bif (!y6) || (((((upL l).map d32).length : Nat) : Int) != ((l.map q32).length : Int)) then some false else
    loopM (fun x : Int => l04_RatioCommon_b1 (l.map q32) (l.map q16) (d32 (comD l), (upL l).map d32) (d16 (comD l)) x) (0 : Int)) _
  rw [s1, Option.bind_some]
  have hul : (upL l).length = l.length := by simp [upL]
  have e : ((!true) || (((((upL l).map d32).length : Nat) : Int) != ((l.map q32).length : Int))) = false := by
    rw [List.length_map, List.length_map, hul]; simp
  rw [e, cond_false]
  refine Tot.loop (fun x => ∃ i : Nat, x = (i : Int) ∧ i ≤ l.length) (fun x => ((l.length : Int) - x).toNat) (fun x hx => ?_) ⟨0, rfl, Nat.zero_le _⟩
  obtain ⟨i, rfl, hi⟩ := hx
  unfold l04_RatioCommon_b1
  rcases Nat.lt_or_ge i l.length with h | h
  · obtain ⟨hp, hp0⟩ := hs l[i] (List.getElem_mem h)
    have hw : IntKind.i64.wrap ((i : Int) + 1) = (i : Int) + 1 := w64 (by omega) (by omega)
    have hb : decide ((i : Int) < ((l.map q32).length : Int)) = true := decide_eq_true (by rw [List.length_map]; omega)
    have hdv : l[i].2 ∣ comD l := comF_dvd.2 _ (List.getElem_mem h)
    have u := r04_Up_eq (hp.mono (by omega)) (show (d16 (comD l)).length ≤ 10000 by omega) hp0 hdv
    have hrd : rd z_r04_Q (l.map q16) (i : Int) = q16 l[i] := rd_map h
    have hrd2 : rd ([] : List Int) ((upL l).map d32) (i : Int) = d32 (comD l / l[i].2 * l[i].1) := by
      rw [rd_map (show i < (upL l).length by omega)]; simp [upL]
    have z1 := d16_mul (comD l / l[i].2) l[i].1
    have z2 := d16_mono (Nat.div_le_self (comD l) l[i].2)
    have z3 := hp.1
    have z4 := d32_le16 (comD l / l[i].2 * l[i].1)
    have o : r03_Out (d16 (comD l / l[i].2 * l[i].1)) = some (d32 (comD l / l[i].2 * l[i].1)) := r03_Out_eq (by omega)
    have s : r03_Same (d32 (comD l / l[i].2 * l[i].1)) (d32 (comD l / l[i].2 * l[i].1)) = some true := by rw [r03_Same_eq _ _ (by omega), decide_eq_true rfl]
    rw [hb, cond_true]
    refine Tot.ass_iff.2 ⟨by simp only [List.length_map, hul]; omega, ?_⟩
    refine Tot.ass_iff.2 ⟨by simp only [List.length_map]; omega, ?_⟩
    rw [hrd, u, Option.bind_some, o, Option.bind_some]
    show Tot ((r03_Same (rd ([] : List Int) ((upL l).map d32) (i : Int)) _).bind _) _
    rw [hrd2, s, Option.bind_some, hw]
    exact Tot.some_iff.2 (Nx.inl_iff.2 ⟨⟨i + 1, by simp, by omega⟩, by omega⟩)
  · have hb : decide ((i : Int) < ((l.map q32).length : Int)) = false := decide_eq_false (by rw [List.length_map]; omega)
    rw [hb, cond_false]
    unfold l04_RatioCommon_j2
    rw [l04_alive_eq]
    exact Tot.some_iff.2 (Nx.inr_iff.2 rfl)

theorem wf_at {p0 : List D_api_Ratio} (hw : Wf (.slice T_api_Ratio) p0) {i : Nat} (hi : i < p0.length) : Wf T_api_Ratio (rd z_api_Ratio p0 (i : Int)) := by
  rw [rd_eq i rfl hi]
  exact hw.2 _ (List.getElem_mem hi)

theorem RatioCommon_eq (p0 : List D_api_Ratio) (hw0 : Wf (.slice T_api_Ratio) p0) : l04_RatioCommon p0 = some true := by
  rw [← Tot.eq_iff]
  unfold l04_RatioCommon
  by_cases hl : p0.length > 12
  · have e : decide ((p0.length : Int) > 12) = true := decide_eq_true (by omega)
    rw [e, cond_true, l04_alive_eq]
    exact Tot.some_iff.2 rfl
  have e : decide ((p0.length : Int) > 12) = false := decide_eq_false (by omega)
  rw [e, cond_false]
  refine Tot.loop (fun x => ∃ l : List FP, x.2 = (l.length : Int) ∧ l.length ≤ p0.length ∧ p0.take l.length = l.map q32 ∧ x.1 = l.map q16 ∧ Sh l) (fun x => ((p0.length : Int) - x.2).toNat) (fun x hx => ?_) ⟨[], rfl, Nat.zero_le _, rfl, rfl, fun p hp => by cases hp⟩
  obtain ⟨a, i0⟩ := x
  obtain ⟨l, h1, h2, h3, h4, h5⟩ := hx
  simp only at h1 h4
  subst h1 h4
  show Tot (l04_RatioCommon_b2 p0 (l.map q16) (l.length : Int)) _
  unfold l04_RatioCommon_b2
  rcases Nat.lt_or_ge l.length p0.length with h | h
  · have hb : decide ((l.length : Int) < (p0.length : Int)) = true := decide_eq_true (by omega)
    have hw : IntKind.i64.wrap ((l.length : Int) + 1) = (l.length : Int) + 1 := w64 (by omega) (by omega)
    have hwf := wf_at hw0 h
    have hrd : rd z_api_Ratio p0 (l.length : Int) = p0[l.length] := rd_eq _ rfl h
    obtain ⟨z, hz⟩ : ∃ z, z = rd z_api_Ratio p0 (l.length : Int) := ⟨_, rfl⟩
    rw [← hz] at hwf hrd ⊢
    rw [hb, cond_true]
    refine Tot.ass_iff.2 ⟨by omega, ?_⟩
    rw [l04_short_eq, Option.bind_some]
    refine Tot.ass_iff.2 ⟨fun _ => by omega, ?_⟩
    by_cases hs : z.1.length ≤ 6 ∧ z.2.length ≤ 6
    · have es : (decide (z.1.length ≤ 6) && decide (z.2.length ≤ 6)) = true := by rw [Bool.and_eq_true, decide_eq_true_iff, decide_eq_true_iff]; exact hs
      obtain ⟨b, hb1, hb2⟩ := right_short hwf hs.1 hs.2
      rw [es]
      show Tot ((r04_Right z).bind _) _
      rw [hb1, Option.bind_some]
      cases b with
      | false =>
        show Tot ((l04_alive).bind _) _
        rw [l04_alive_eq, Option.bind_some]
        exact Tot.some_iff.2 (Nx.inr_iff.2 rfl)
      | true =>
        obtain ⟨p, rfl, sp, hp⟩ := hb2 rfl
        show Tot (ass _ _) _
        refine Tot.ass_iff.2 ⟨by omega, ?_⟩
        rw [r04_In_q32 (sp.mono (by omega)), Option.bind_some, hw]
        refine Tot.ass_iff.2 ⟨by simp only [List.length_map, List.length_singleton]; unfold limQ; omega, ?_⟩
        refine Tot.some_iff.2 (Nx.inl_iff.2 ⟨⟨l ++ [p], by simp, by simp; omega, ?_, by simp, ?_⟩, by simp only; omega⟩)
        · rw [List.length_append, List.length_singleton, List.take_succ_eq_append_getElem h, h3, List.map_append, List.map_singleton, hrd]
        · intro x hx
          rcases List.mem_append.1 hx with hx | hx
          · exact h5 x hx
          · rw [List.mem_singleton] at hx; subst hx; exact ⟨sp, hp.1⟩
    · have es : (decide (z.1.length ≤ 6) && decide (z.2.length ≤ 6)) = false := by rw [Bool.eq_false_iff, ne_eq, Bool.and_eq_true, decide_eq_true_iff, decide_eq_true_iff]; exact hs
      rw [es]
      show Tot ((l04_alive).bind _) _
      rw [l04_alive_eq, Option.bind_some]
      exact Tot.some_iff.2 (Nx.inr_iff.2 rfl)
  · have hb : decide ((l.length : Int) < (p0.length : Int)) = false := decide_eq_false (by omega)
    have hle : l.length = p0.length := by omega
    rw [hle, List.take_length] at h3
    subst h3
    rw [hb, cond_false, Tot.map_iff]
    refine (common_rest (by rw [List.length_map] at hl; omega) h5).mono fun r hr => ?_
    exact Nx.inr_iff.2 hr
end Go.Tom
