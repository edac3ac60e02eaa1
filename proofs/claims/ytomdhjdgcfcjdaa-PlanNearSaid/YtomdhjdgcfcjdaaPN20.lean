/- Wishes, as they are handed in. -/
import Derived.Test.YtomdhjdgcfcjdaaPN19
set_option linter.unusedVariables false
set_option linter.unusedSimpArgs false
namespace Go.Tom
open Go

theorem l48_in_tot (p0 : List D_api_Ratio) (hl : p0.length ≤ 2932031007317) (hd : ∀ r ∈ p0, DgR r) : Tot (l48_in p0) (fun r => (∃ l : List FP, p0 = l.map q32 ∧ Short l ∧ r = (l.map q16, true)) ∨ r = ([], false)) := by
  unfold l48_in
  refine Tot.loop (fun x => ∃ (i : Nat) (l : List FP), x.2 = (i : Int) ∧ i ≤ p0.length ∧ l.length = i ∧ p0.take i = l.map q32 ∧ Short l ∧ x.1 = l.map q16) (fun x => ((p0.length : Int) - x.2).toNat) (fun x hx => ?_) ⟨0, [], rfl, Nat.zero_le _, rfl, rfl, fun p hp => (by cases hp), rfl⟩
  obtain ⟨a, i0⟩ := x
  obtain ⟨i, l, h1, h2, h3, h4, h5, h6⟩ := hx
  simp only at h1 h6
  subst h1
  rcases Nat.lt_or_ge i p0.length with hi | hi
  rotate_left
  · have hin : i = p0.length := by omega
    rw [hin, List.take_length] at h4
    have hc : decide ((i : Int) < (p0.length : Int)) = false := decide_eq_false (by omega)
    unfold l48_in_b1
    rw [hc, cond_false]
    refine Tot.some_iff.2 (Nx.inr_iff.2 (.inl ⟨l, h4, h5, by rw [h6]⟩))
  have hc : decide ((i : Int) < (p0.length : Int)) = true := decide_eq_true (by omega)
  obtain ⟨r, hr⟩ : ∃ r, r = p0[i] := ⟨_, rfl⟩
  have hrd : rd z_api_Ratio p0 (i : Int) = r := by rw [rd_eq i rfl hi, hr]
  have hdr : DgR r := by rw [hr]; exact hd _ (List.getElem_mem hi)
  have hw : IntKind.i64.wrap ((i : Int) + 1) = (i : Int) + 1 := w64 (by omega) (by omega)
  unfold l48_in_b1
  rw [hc, cond_true, hrd]
  refine Tot.ass_iff.2 ⟨⟨by omega, by omega⟩, Tot.ass_iff.2 ⟨fun _ => ⟨by omega, by omega⟩, Tot.ass_iff.2 ⟨fun _ => ⟨by omega, by omega⟩, ?_⟩⟩⟩
  by_cases hlen : r.1.length ≤ 4 ∧ r.2.length ≤ 4
  · have e : ((decide ((r.1.length : Int) > (4 : Int))) || (decide ((r.2.length : Int) > (4 : Int)))) = false := by
      rw [Bool.or_eq_false_iff]; exact ⟨decide_eq_false (by omega), decide_eq_false (by omega)⟩
    rw [e, Bool.not_false, cond_true]
    rw [Tot.bind_iff]
    refine (r04_Right_tot hdr hlen.1 hlen.2).mono fun b hb => ?_
    cases b with
    | false =>
      rw [Bool.not_false, Bool.or_true, cond_true]
      exact Tot.some_iff.2 (Nx.inr_iff.2 (.inr rfl))
    | true =>
      obtain ⟨p, e1, e2, e3, e4⟩ := hb.1 rfl
      have hin : r04_In r = some (q16 p) := by rw [e1]; exact r04_In_q32 (e2.mono (by omega))
      rw [Bool.not_true, Bool.or_self, cond_false]
      refine Tot.ass_iff.2 ⟨⟨by omega, by omega⟩, ?_⟩
      rw [hin, Option.bind_some]
      have hal : a.length = i := by rw [h6, List.length_map]; exact h3
      refine Tot.ass_iff.2 ⟨by rw [hal]; simp only [List.length_singleton]; unfold limQ; omega, ?_⟩
      rw [Tot.bnd_iff, hw]
      refine Tot.some_iff.2 (Nx.inl_iff.2 ⟨⟨i + 1, l ++ [p], by simp, hi, by rw [List.length_append, h3]; rfl, ?_, fun q hq => ?_, ?_⟩, by simp only; omega⟩)
      · rw [List.take_succ_eq_append_getElem hi, h4, ← hr, e1, List.map_append]; rfl
      · rcases List.mem_append.1 hq with hq | hq
        · exact h5 q hq
        · simp only [List.mem_singleton] at hq
          rw [hq]; exact ⟨e2, e3, e4⟩
      · simp only
        rw [h6, List.map_append]; rfl
  · have e : ((decide ((r.1.length : Int) > (4 : Int))) || (decide ((r.2.length : Int) > (4 : Int)))) = true := by
      rw [Bool.or_eq_true, decide_eq_true_iff, decide_eq_true_iff]; omega
    rw [e, Bool.not_true, cond_false, Option.bind_some, Bool.true_or, cond_true]
    exact Tot.some_iff.2 (Nx.inr_iff.2 (.inr rfl))

/-- The parts of a sum. -/
def partL (l : List FP) : List FP := l.map fun p => divP p (sumP l)

theorem partL_eq {l : List FP} (hs : Short l) (hS : 0 < (upL l).sum) : partL l = (upL l).map fun u => lowP u (upL l).sum := by
  unfold partL
  have e : (upL l).map (fun u => lowP u (upL l).sum) = l.map fun p => lowP (comD l / p.2 * p.1) (upL l).sum := by
    have : upL l = l.map fun p => comD l / p.2 * p.1 := rfl
    rw [this, List.map_map]; rfl
  rw [e]
  exact List.map_congr_left fun p hp => part_low (fun q hq => (hs q hq).2.1) hp hS

/-- WHAT MAKES ALL PARTS WHOLE. -/
theorem com_parts {l : List FP} (hs : Short l) (hS : 0 < (upL l).sum) : comD (partL l) = (upL l).sum / gcdF 0 (upL l) := by
  have hl := lcm_all hS (l := upL l) (g := (upL l).sum) (Nat.dvd_refl _)
  rw [Nat.div_self hS, gcdF_sum] at hl
  rw [← hl, partL_eq hs hS]
  unfold comD comF
  rw [List.foldl_map, List.foldl_map]
  rfl

theorem gcd_pos {l : List FP} (hS : 0 < (upL l).sum) : 0 < gcdF 0 (upL l) := by
  rcases Nat.eq_zero_or_pos (gcdF 0 (upL l)) with h | h
  · have := (gcdF_dvd (l := upL l) (S := (upL l).sum)).1
    rw [gcdF_sum, h] at this
    have := Nat.zero_dvd.1 this
    omega
  · exact h

/-- The amounts are the parts, made whole. -/
theorem up_want {l : List FP} (hs : Short l) (hS : 0 < (upL l).sum) {i : Nat} (hi : i < l.length) :
    ((partL l)[i]'(by simp [partL]; exact hi)).1 * comD (partL l) / ((partL l)[i]'(by simp [partL]; exact hi)).2 = (wantL l)[i]'(by simp [wantL, upL]; exact hi) := by
  have hg := (gcdF_dvd (l := upL l) (S := (upL l).sum)).1
  rw [gcdF_sum] at hg
  have hgu := (gcdF_dvd (l := upL l) (S := 0)).2
  have hiu : i < (upL l).length := by rw [upL_len]; exact hi
  have e : (partL l)[i]'(by simp [partL]; exact hi) = lowP (upL l)[i] (upL l).sum := by
    have := partL_eq hs hS
    simp only [this, List.getElem_map]
  rw [e, com_parts hs hS, up_part hS hg (hgu _ (List.getElem_mem hiu))]
  simp [wantL]
theorem r11_Ints_eq' (a b : List Int) (ha : a.length ≤ 100000000) : r11_Ints a b = some (decide (a = b)) := by
  suffices hh : Tot (r11_Ints a b) (fun r => r = true ↔ a = b) by
    rw [hh.dec]
    congr 1
    by_cases h : a = b <;> simp [h]
  simp only [r11_Ints, cond_some, Tot.cond_iff, Tot.ass_iff, Tot.bnd_iff, Tot.some_iff, Tot.map_iff, Tot.bind_iff, Nx.inl_iff, Nx.inr_iff, decide_eq_true_eq, decide_eq_false_iff_not]
  refine ⟨fun h => ?_, fun h => ?_⟩
  · simp only [Bool.and_eq_true, Bool.or_eq_true, Bool.not_eq_true', Bool.and_eq_false_iff, Bool.or_eq_false_iff, Bool.not_eq_false', beq_iff_eq, bne_iff_ne, beq_eq_false_iff_ne, bne_eq_false_iff_eq, decide_eq_true_eq, decide_eq_false_iff_not] at h
    simp only [Bool.false_eq_true, false_iff]
    intro hc; rw [hc] at h; exact h rfl
  · simp only [Bool.and_eq_true, Bool.or_eq_true, Bool.not_eq_true', Bool.and_eq_false_iff, Bool.or_eq_false_iff, Bool.not_eq_false', beq_iff_eq, bne_iff_ne, beq_eq_false_iff_ne, bne_eq_false_iff_eq, decide_eq_true_eq, decide_eq_false_iff_not] at h
    refine Tot.loop (fun x => 0 ≤ x ∧ x ≤ (a.length : Int) ∧ ∀ k : Int, 0 ≤ k → k < x → rd 0 a k = rd 0 b k) (fun x => ((a.length : Int) - x).toNat) (fun x hx => ?_) ⟨by omega, by omega, fun k _ _ => by omega⟩
    obtain ⟨h0, h1, h2⟩ := hx
    have hw1 : IntKind.i64.wrap (x + 1) = x + 1 := w64 (by omega) (by omega)
    simp only [r11_Ints_b1, r11_Ints_j1, hw1, cond_some, Tot.cond_iff, Tot.ass_iff, Tot.bnd_iff, Tot.some_iff, Tot.map_iff, Tot.bind_iff, Nx.inl_iff, Nx.inr_iff, decide_eq_true_eq, decide_eq_false_iff_not]
    refine ⟨fun hlt => ⟨⟨h0, hlt⟩, ⟨h0, by omega⟩, fun he => ?_, fun he => ⟨⟨by omega, by omega, fun k c d => ?_⟩, by omega⟩⟩, fun hge => ?_⟩
    · simp only [Bool.and_eq_true, Bool.or_eq_true, Bool.not_eq_true', Bool.and_eq_false_iff, Bool.or_eq_false_iff, Bool.not_eq_false', beq_iff_eq, bne_iff_ne, beq_eq_false_iff_ne, bne_eq_false_iff_eq, decide_eq_true_eq, decide_eq_false_iff_not] at he
      simp only [Bool.false_eq_true, false_iff]
      intro hc; rw [hc] at he; exact he rfl
    · simp only [Bool.and_eq_true, Bool.or_eq_true, Bool.not_eq_true', Bool.and_eq_false_iff, Bool.or_eq_false_iff, Bool.not_eq_false', beq_iff_eq, bne_iff_ne, beq_eq_false_iff_ne, bne_eq_false_iff_eq, decide_eq_true_eq, decide_eq_false_iff_not] at he
      by_cases hkx : k = x
      · rw [hkx]; exact he
      · exact h2 k c (by omega)
    · simp only [true_iff]
      refine List.ext_getElem (by omega) fun k hk1 hk2 => ?_
      have := h2 k (by omega) (by omega)
      rwa [rd_eq k rfl hk1, rd_eq k rfl hk2] at this
end Go.Tom
