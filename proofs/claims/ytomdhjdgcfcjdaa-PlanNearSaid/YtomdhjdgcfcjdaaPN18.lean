/- Wishes: the program's common numbers, the least whole amounts. -/
import Derived.Test.YtomdhjdgcfcjdaaPN17
set_option linter.unusedVariables false
set_option linter.unusedSimpArgs false
namespace Go.Tom
open Go

theorem lcm_size32 {a b : Nat} : (d32 (Nat.lcm a b)).length ≤ (d32 a).length + (d32 b).length := by
  refine Nat.le_trans (d32_mono ?_) (d32_mul a b)
  unfold Nat.lcm
  exact Nat.div_le_self ..

theorem d32_one : (d32 1).length ≤ 1 := dg_len b32 (by omega)

theorem foldl_snoc {α β : Type} (f : α → β) : ∀ (l : List α) (acc : List β), l.foldl (fun a x => a ++ [f x]) acc = acc ++ l.map f
  | [], acc => by simp
  | x :: l, acc => by simp [foldl_snoc f l]

/-- Sizes of wishes, as the program has them. -/
theorem short32 {p : FP} (h : S16 8 p) : (d32 p.1).length ≤ 8 ∧ (d32 p.2).length ≤ 8 := ⟨Nat.le_trans (d32_le16 _) h.1, Nat.le_trans (d32_le16 _) h.2⟩

theorem up_size {l : List FP} {i : Nat} (hi : i < l.length) (hs : Short l) (hD : (d32 (comD l)).length ≤ 8 * l.length + 1) : (d32 (comD l / l[i].2 * l[i].1)).length ≤ 8 * l.length + 9 := by
  obtain ⟨hp, _, _⟩ := hs l[i] (List.getElem_mem hi)
  have h1 := d32_mul (comD l / l[i].2) l[i].1
  have h2 := d32_mono (Nat.div_le_self (comD l) l[i].2)
  have h3 := (short32 hp).1
  omega

theorem ratio_Common_second {l : List FP} (hl : l.length ≤ 1000) (hs : Short l) (hD : (d32 (comD l)).length ≤ 8 * l.length + 1) : Tot (ratio_Common_j1 (l.map q32) (d32 (comD l))) (fun r => r = (d32 (comD l), (upL l).map d32)) := by
  unfold ratio_Common_j1
  refine loop_fold l _ (fun a p => a ++ [d32 (comD l / p.2 * p.1)]) (fun i a => a.length = i) rfl (fun i hi a ha => ?_) (fun ha => ?_)
  · obtain ⟨hp, hp0, _⟩ := hs l[i] (List.getElem_mem hi)
    have hw : IntKind.i64.wrap ((i : Int) + 1) = (i : Int) + 1 := w64 (by omega) (by omega)
    have g1 := (short32 hp).1
    have g2 := (short32 hp).2
    have g3 := d32_mono (Nat.div_le_self (comD l) l[i].2)
    have e1 : (q32 l[i]).1 = d32 l[i].1 := rfl
    have e2 : (q32 l[i]).2 = d32 l[i].2 := rfl
    have hDiv := nat_Div_eq (x := comD l) (y := l[i].2) (by omega) (by omega) hp0
    have hMul := nat_Mul_two (x := comD l / l[i].2) (y := l[i].1) (by omega) (by omega)
    refine ⟨?_, by rw [List.length_append, ha]; rfl⟩
    show ratio_Common_b1 (l.map q32) (d32 (comD l)) a (i : Int) = some (.inl (a ++ [d32 (comD l / l[i].2 * l[i].1)], (i : Int) + 1))
    rw [← e2] at hDiv
    rw [← e1] at hMul
    generalize d32 (comD l / l[i].2 * l[i].1) = P at hMul ⊢
    generalize d32 (comD l / l[i].2) = Q at hDiv hMul
    generalize d32 (comD l % l[i].2) = R at hDiv
    generalize d32 (comD l) = X at hDiv ⊢
    have hrd : rd z_api_Ratio (l.map q32) (i : Int) = q32 l[i] := rd_map hi
    generalize q32 l[i] = Z at hDiv hMul hrd
    have hlen : (l.map q32).length = l.length := List.length_map ..
    generalize l.map q32 = Y at hrd hlen ⊢
    have hb : decide ((i : Int) < (Y.length : Int)) = true := decide_eq_true (by omega)
    have hlim : (((a.length + [P].length : Nat) : Int)) ≤ limA := by simp only [List.length_singleton]; unfold limA; omega
    rw [← Tot.eq_iff]
    unfold ratio_Common_b1
    rw [hb, cond_true]
    refine Tot.ass_iff.2 ⟨⟨by omega, by omega⟩, ?_⟩
    rw [hrd]
    show Tot ((nat_Div X Z.2).bind fun y7 => (nat_Mul [y7.1, Z.1]).bind fun y8 => ass (((a.length + [y8].length : Nat) : Int) ≤ limA) <| bnd (a ++ [y8]) fun x9 => bnd (IntKind.i64.wrap ((i : Int) + (1 : Int))) fun x10 => some (Sum.inl (x9, x10) : (List (List Int) × Int) ⊕ (List Int × List (List Int)))) (fun r => r = Sum.inl (a ++ [P], (i : Int) + 1))
    rw [hDiv, Option.bind_some, hMul, Option.bind_some, hw]
    exact Tot.ass_iff.2 ⟨hlim, Tot.some_iff.2 rfl⟩
  · have e : l.foldl (fun a p => a ++ [d32 (comD l / p.2 * p.1)]) [] = (upL l).map d32 := by
      rw [foldl_snoc]; simp [upL]
    simp only [ratio_Common_b1, ratio_Common_j2, List.length_map, e, cond_some, Tot.cond_iff, Tot.ass_iff, Tot.bnd_iff, Tot.some_iff, Tot.map_iff, Tot.bind_iff, Nx.inl_iff, Nx.inr_iff, decide_eq_true_eq, decide_eq_false_iff_not]
    exact ⟨fun hc => absurd hc (by omega), fun _ => ⟨_, rfl, rfl⟩⟩

theorem ratio_Common_eq {l : List FP} (hl : l.length ≤ 1000) (hs : Short l) : ratio_Common (l.map q32) = some (d32 (comD l), (upL l).map d32) ∧ (d32 (comD l)).length ≤ 8 * l.length + 1 := by
  have h1 : nat_Of (1 : Int) = some (d32 1) := nat_Of_eq (n := 1) (by omega)
  have hint : Tot (ratio_Common (l.map q32)) (fun r => r = (d32 (comD l), (upL l).map d32) ∧ (d32 (comD l)).length ≤ 8 * l.length + 1) := by
    simp only [ratio_Common, h1, Option.bind_some]
    refine loop_fold' d32 l _ (fun d p => Nat.lcm d p.2) (fun i d => (d32 d).length ≤ 8 * i + 1) (by simpa using d32_one) (fun i hi d hd => ?_) (fun hd => ?_)
    · obtain ⟨hp, hp0, _⟩ := hs l[i] (List.getElem_mem hi)
      have hw : IntKind.i64.wrap ((i : Int) + 1) = (i : Int) + 1 := w64 (by omega) (by omega)
      have g2 := (short32 hp).2
      have e2 : (q32 l[i]).2 = d32 l[i].2 := rfl
      have hsz := lcm_size32 (a := d) (b := l[i].2)
      refine ⟨?_, by show _ ≤ 8 * (i + 1) + 1; omega⟩
      rw [← Tot.eq_iff]
      simp only [ratio_Common_b2, rd_map hi, e2, nat_Lcm_eq (x := d) (y := l[i].2) (by omega) (by omega), Option.bind_some, hw, List.length_map, cond_some, Tot.cond_iff, Tot.ass_iff, Tot.bnd_iff, Tot.some_iff, Tot.map_iff, Tot.bind_iff, Nx.inl_iff, Nx.inr_iff, decide_eq_true_eq, decide_eq_false_iff_not]
      exact ⟨fun _ => ⟨by omega, trivial⟩, fun hc => absurd (by omega) hc⟩
    · have hD : (d32 (comD l)).length ≤ 8 * l.length + 1 := hd
      simp only [ratio_Common_b2, List.length_map, cond_some, Tot.cond_iff, Tot.ass_iff, Tot.bnd_iff, Tot.some_iff, Tot.map_iff, Tot.bind_iff, Nx.inl_iff, Nx.inr_iff, decide_eq_true_eq, decide_eq_false_iff_not]
      refine ⟨fun hc => absurd hc (by omega), fun _ => ?_⟩
      refine (ratio_Common_second hl hs hD).mono fun r hr => ⟨r, rfl, hr, hD⟩
  obtain ⟨r, g1, g2, g3⟩ := hint
  rw [g2] at g1
  exact ⟨g1, g3⟩

/-- The least whole amounts. -/
def wantL (l : List FP) : List Nat := (upL l).map fun u => u / gcdF 0 (upL l)

theorem upL_len (l : List FP) : (upL l).length = l.length := by simp [upL]

theorem plan_Exact_eq {l : List FP} (hl : l.length ≤ 1000) (hs : Short l) :
    plan_Exact (l.map q32) = some (if gcdF 0 (upL l) = 0 then ([], 16) else if ∀ w ∈ wantL l, w ≤ 1048576 then ((wantL l).map fun w : Nat => (w : Int), 0) else ([], 6)) := by
  obtain ⟨hc, hD⟩ := ratio_Common_eq hl hs
  have hul := upL_len l
  have hsz : ∀ (i : Nat) (hi : i < (upL l).length), (d32 (upL l)[i]).length ≤ 8 * l.length + 9 := fun i hi => by
    have := up_size (i := i) (by omega) hs hD
    simpa [upL] using this
  obtain ⟨g, hg⟩ : ∃ g, g = gcdF 0 (upL l) := ⟨_, rfl⟩
  rw [← hg]
  -- what is left, by g
  have last : (d32 g).length ≤ 8 * l.length + 9 → Tot (plan_Exact_j1 (d32 (comD l), (upL l).map d32) (d32 g)) (fun r => r = if g = 0 then ([], 16) else if ∀ w ∈ wantL l, w ≤ 1048576 then ((wantL l).map fun w : Nat => (w : Int), 0) else ([], 6)) := by
    intro hgl
    unfold plan_Exact_j1
    by_cases hg0 : g = 0
    · have e : (((d32 g).length : Int) == 0) = true := by rw [hg0, d32_zero]; rfl
      rw [e, cond_true, if_pos hg0]
      exact Tot.some_iff.2 rfl
    · have e : (((d32 g).length : Int) == 0) = false := by
        rw [beq_eq_false_iff_ne]
        exact fun hc => hg0 (d32_nil (by omega))
      rw [e, cond_false, if_neg hg0]
      have hwl : (wantL l).length = l.length := by simp [wantL, upL]
      have hwi : ∀ (i : Nat) (hi : i < (wantL l).length), (wantL l)[i] = (upL l)[i]'(by omega) / g := fun i hi => by simp [wantL, hg]
      refine Tot.loop (fun x => ∃ i : Nat, x.2 = (i : Int) ∧ i ≤ l.length ∧ x.1 = ((wantL l).take i).map (fun w : Nat => (w : Int)) ∧ ∀ w ∈ (wantL l).take i, w ≤ 1048576) (fun x => ((l.length : Int) - x.2).toNat) (fun x hx => ?_) ⟨0, rfl, Nat.zero_le _, rfl, fun w hw => by simp at hw⟩
      obtain ⟨a, i0⟩ := x
      obtain ⟨i, h1, h2, h3, h4⟩ := hx
      simp only at h1 h3
      subst h1 h3
      rcases Nat.lt_or_ge i l.length with hi | hi
      · have hi' : i < (upL l).length := by omega
        have hw : IntKind.i64.wrap ((i : Int) + 1) = (i : Int) + 1 := w64 (by omega) (by omega)
        have hz := hsz i hi'
        have hz2 := d32_mono (Nat.div_le_self (upL l)[i] g)
        have hwq := hwi i (by omega)
        have hWi : i < (wantL l).length := by omega
        obtain ⟨W, hW⟩ : ∃ W, W = (wantL l)[i] := ⟨_, rfl⟩
        rw [← hW] at hwq
        have hdiv := nat_Div_eq (x := (upL l)[i]) (y := g) (by omega) (by omega) (by omega)
        have hword := nat_Word_eq (x := (upL l)[i] / g) (by omega)
        rw [← hwq] at hdiv hword
        have hrd : rd ([] : List Int) ((upL l).map d32) (i : Int) = d32 (upL l)[i] := rd_map hi'
        have hlen : (((upL l).map d32).length : Int) = (l.length : Int) := by rw [List.length_map, hul]
        have hbb : decide ((i : Int) < (((upL l).map d32).length : Int)) = true := decide_eq_true (by omega)
        generalize d32 ((upL l)[i] % g) = R at hdiv
        generalize d32 W = Q at hdiv hword
        generalize d32 (upL l)[i] = Z at hdiv hrd
        obtain ⟨acc, hacc⟩ : ∃ acc, acc = ((wantL l).take i).map (fun w : Nat => (w : Int)) := ⟨_, rfl⟩
        rw [← hacc]
        by_cases hsm : W ≤ 1048576
        · rw [if_pos (by omega)] at hword
          have hwr : IntKind.i64.wrap (W : Int) = (W : Int) := w64 (by omega) (by omega)
          have e2 : ((!true) || decide ((W : Int) > 1048576)) = false := by
            rw [Bool.not_true, Bool.false_or]; exact decide_eq_false (by omega)
          have hlim : (((acc.length + [(W : Int)].length : Nat) : Int)) ≤ limA := by
            rw [hacc]; simp only [List.length_map, List.length_take, List.length_singleton]; unfold limA; omega
          unfold plan_Exact_b1
          rw [hbb, cond_true]
          refine Tot.ass_iff.2 ⟨⟨by omega, by show (i : Int) < (((upL l).map d32).length : Int); omega⟩, ?_⟩
          show Tot (bnd (rd ([] : List Int) ((upL l).map d32) (i : Int)) fun x6 => (nat_Div x6 (d32 g)).bind fun y7 => (nat_Word y7.1).bind fun y8 =>
            bif (!y8.2) || (decide (y8.1 > (1048576 : Int))) then some (Sum.inr (([] : List Int), (6 : Int)) : ((List Int) × Int) ⊕ ((List Int) × Int))
            else ass (((acc.length + [IntKind.i64.wrap y8.1].length : Nat) : Int) ≤ limA) <| bnd (acc ++ [IntKind.i64.wrap y8.1]) fun x9 => bnd (IntKind.i64.wrap ((i : Int) + (1 : Int))) fun x10 => some (Sum.inl (x9, x10))) _
          rw [Tot.bnd_iff, hrd, hdiv, Option.bind_some, hword, Option.bind_some]
          show Tot (bif (!true) || decide ((W : Int) > 1048576) then _ else ass (((acc.length + [IntKind.i64.wrap (W : Int)].length : Nat) : Int) ≤ limA) <| bnd (acc ++ [IntKind.i64.wrap (W : Int)]) fun x9 => bnd (IntKind.i64.wrap ((i : Int) + (1 : Int))) fun x10 => some (Sum.inl (x9, x10))) _
          rw [e2, cond_false, hwr, hw]
          refine Tot.ass_iff.2 ⟨hlim, Tot.some_iff.2 (Nx.inl_iff.2 ⟨⟨i + 1, by simp, hi, ?_, fun w hww => ?_⟩, by simp only; omega⟩)⟩
          · show acc ++ [(W : Int)] = _
            rw [hacc, List.take_succ_eq_append_getElem hWi, List.map_append, ← hW]; rfl
          · rw [List.take_succ_eq_append_getElem hWi, ← hW] at hww
            rcases List.mem_append.1 hww with hww | hww
            · exact h4 w hww
            · simp only [List.mem_singleton] at hww
              rw [hww]; exact hsm
        · have hnot : ¬ ∀ w ∈ wantL l, w ≤ 1048576 := fun hall => hsm (by rw [hW]; exact hall _ (List.getElem_mem _))
          unfold plan_Exact_b1
          rw [hbb, cond_true]
          refine Tot.ass_iff.2 ⟨⟨by omega, by show (i : Int) < (((upL l).map d32).length : Int); omega⟩, ?_⟩
          by_cases h64 : W < 18446744073709551616
          · rw [if_pos h64] at hword
            have e2 : ((!true) || decide ((W : Int) > 1048576)) = true := by
              rw [Bool.not_true, Bool.false_or]; exact decide_eq_true (by omega)
            show Tot (bnd (rd ([] : List Int) ((upL l).map d32) (i : Int)) fun x6 => (nat_Div x6 (d32 g)).bind fun y7 => (nat_Word y7.1).bind fun y8 =>
              bif (!y8.2) || (decide (y8.1 > (1048576 : Int))) then some (Sum.inr (([] : List Int), (6 : Int)) : ((List Int) × Int) ⊕ ((List Int) × Int))
              else ass (((acc.length + [IntKind.i64.wrap y8.1].length : Nat) : Int) ≤ limA) <| bnd (acc ++ [IntKind.i64.wrap y8.1]) fun x9 => bnd (IntKind.i64.wrap ((i : Int) + (1 : Int))) fun x10 => some (Sum.inl (x9, x10))) _
            rw [Tot.bnd_iff, hrd, hdiv, Option.bind_some, hword, Option.bind_some]
            show Tot (bif ((!true) || decide ((W : Int) > 1048576)) then some (Sum.inr (([] : List Int), (6 : Int))) else _) _
            rw [e2, cond_true]
            exact Tot.some_iff.2 (Nx.inr_iff.2 (by rw [if_neg hnot]))
          · rw [if_neg h64] at hword
            have e2 : ((!false) || decide ((0 : Int) > 1048576)) = true := by decide
            show Tot (bnd (rd ([] : List Int) ((upL l).map d32) (i : Int)) fun x6 => (nat_Div x6 (d32 g)).bind fun y7 => (nat_Word y7.1).bind fun y8 =>
              bif (!y8.2) || (decide (y8.1 > (1048576 : Int))) then some (Sum.inr (([] : List Int), (6 : Int)) : ((List Int) × Int) ⊕ ((List Int) × Int))
              else ass (((acc.length + [IntKind.i64.wrap y8.1].length : Nat) : Int) ≤ limA) <| bnd (acc ++ [IntKind.i64.wrap y8.1]) fun x9 => bnd (IntKind.i64.wrap ((i : Int) + (1 : Int))) fun x10 => some (Sum.inl (x9, x10))) _
            rw [Tot.bnd_iff, hrd, hdiv, Option.bind_some, hword, Option.bind_some]
            show Tot (bif ((!false) || decide ((0 : Int) > 1048576)) then some (Sum.inr (([] : List Int), (6 : Int))) else _) _
            rw [e2, cond_true]
            exact Tot.some_iff.2 (Nx.inr_iff.2 (by rw [if_neg hnot]))
      · have hin : i = l.length := by omega
        subst hin
        have htk : (wantL l).take l.length = wantL l := List.take_of_length_le (by omega)
        rw [htk] at h4 ⊢
        simp only [plan_Exact_b1, plan_Exact_j2, List.length_map, hul, cond_some, Tot.cond_iff, Tot.ass_iff, Tot.bnd_iff, Tot.some_iff, Tot.map_iff, Tot.bind_iff, Nx.inl_iff, Nx.inr_iff, decide_eq_true_eq, decide_eq_false_iff_not]
        exact ⟨fun hc => absurd hc (by omega), fun _ => by rw [if_pos h4]⟩
  rw [← Tot.eq_iff]
  have h00 : (([] : List Int), (0 : Int)) = (d32 0, 0) := by rw [d32_zero]
  simp only [plan_Exact, hc, Option.bind_some]
  rw [h00]
  refine loop_fold' d32 (upL l) _ (fun a u => Nat.gcd a u) (fun i a => (d32 a).length ≤ 8 * l.length + 9) (b0 := 0) (by rw [d32_zero]; simp) (fun i hi a ha => ?_) (fun ha => ?_)
  · have hw : IntKind.i64.wrap ((i : Int) + 1) = (i : Int) + 1 := w64 (by omega) (by omega)
    have hz := hsz i hi
    refine ⟨?_, ?_⟩
    · rw [← Tot.eq_iff]
      simp only [plan_Exact_b2, rd_map hi, nat_Gcd_eq (x := a) (y := (upL l)[i]) (by omega) (by omega), Option.bind_some, hw, List.length_map, cond_some, Tot.cond_iff, Tot.ass_iff, Tot.bnd_iff, Tot.some_iff, Tot.map_iff, Tot.bind_iff, Nx.inl_iff, Nx.inr_iff, decide_eq_true_eq, decide_eq_false_iff_not]
      exact ⟨fun _ => ⟨by omega, trivial⟩, fun hc => absurd (by omega) hc⟩
    · rcases Nat.eq_zero_or_pos a with h | h
      · rw [h, Nat.gcd_zero_left]; exact hz
      · exact Nat.le_trans (d32_mono (Nat.gcd_le_left _ h)) ha
  · have hgl : (d32 g).length ≤ 8 * l.length + 9 := by rw [hg]; exact ha
    simp only [plan_Exact_b2, List.length_map, cond_some, Tot.cond_iff, Tot.ass_iff, Tot.bnd_iff, Tot.some_iff, Tot.map_iff, Tot.bind_iff, Nx.inl_iff, Nx.inr_iff, decide_eq_true_eq, decide_eq_false_iff_not]
    refine ⟨fun hc => absurd hc (by omega), fun _ => ?_⟩
    have he : (upL l).foldl (fun a u => Nat.gcd a u) 0 = g := hg.symm
    rw [he]
    exact (last hgl).mono fun r hr => ⟨r, rfl, hr⟩
end Go.Tom
