/- Chapter 4: what is reckoned with right fractions. -/
import Derived.Test.YtomdhjdgcfcjdaaDoorRT2
set_option linter.unusedVariables false
set_option linter.unusedSimpArgs false
namespace Go.Tom
open Go

theorem rv_01 : rv (0, 1) = 0 := by unfold rv; simp; grind
theorem rv_11 : rv (1, 1) = 1 := by unfold rv; simp; grind
theorem Lo.add {p q : FP} (hp : 0 < p.2) (hq : 0 < q.2) : Lo (addP p q) := Lo_low (Nat.mul_pos hp hq)
theorem Lo.sub {p q : FP} (hp : 0 < p.2) (hq : 0 < q.2) : Lo (subP p q) := Lo_low (Nat.mul_pos hp hq)
theorem Lo.mul {p q : FP} (hp : 0 < p.2) (hq : 0 < q.2) : Lo (mulP p q) := Lo_low (Nat.mul_pos hp hq)
theorem Lo.div {p q : FP} (hp : 0 < p.2) (hq : 0 < q.1) : Lo (divP p q) := Lo_low (Nat.mul_pos hp hq)

theorem sum3 {p q r : FP} (hp : Lo p) (hq : Lo q) (hr : Lo r) : sumP [p, q, r] = addP (addP p q) r ∧ sumP [r, p, q] = addP (addP p q) r := by
  have one : (0 : Nat) < ((0, 1) : FP).2 := by decide
  have a1 := Lo.add hp.1 hq.1
  have a2 := Lo.add a1.1 hr.1
  have b1 := Lo.add one hp.1
  have b2 := Lo.add b1.1 hq.1
  have b3 := Lo.add b2.1 hr.1
  have c1 := Lo.add one hr.1
  have c2 := Lo.add c1.1 hp.1
  have c3 := Lo.add c2.1 hq.1
  refine ⟨rv_inj b3 a2 ?_, rv_inj c3 a2 ?_⟩
  · show rv (addP (addP (addP (0, 1) p) q) r) = _
    rw [rv_add b2.1 hr.1, rv_add b1.1 hq.1, rv_add one hp.1, rv_add a1.1 hr.1, rv_add hp.1 hq.1, rv_01]; grind
  · show rv (addP (addP (addP (0, 1) r) p) q) = _
    rw [rv_add c2.1 hq.1, rv_add c1.1 hp.1, rv_add one hr.1, rv_add a1.1 hr.1, rv_add hp.1 hq.1, rv_01]; grind

theorem sum2 {p q : FP} (hp : 0 < p.2) (hq : 0 < q.2) : sumP [p, q] = addP p q := by
  have one : (0 : Nat) < ((0, 1) : FP).2 := by decide
  have b1 := Lo.add one hp
  refine rv_inj (Lo.add b1.1 hq) (Lo.add hp hq) ?_
  show rv (addP (addP (0, 1) p) q) = _
  rw [rv_add b1.1 hq, rv_add one hp, rv_add hp hq, rv_01]; grind

theorem prod3 {p q r : FP} (hp : Lo p) (hq : Lo q) (hr : Lo r) : prodP [p, q, r] = mulP (mulP p q) r := by
  have one : (0 : Nat) < ((1, 1) : FP).2 := by decide
  have a1 := Lo.mul hp.1 hq.1
  have b1 := Lo.mul one hp.1
  have b2 := Lo.mul b1.1 hq.1
  refine rv_inj (Lo.mul b2.1 hr.1) (Lo.mul a1.1 hr.1) ?_
  show rv (mulP (mulP (mulP (1, 1) p) q) r) = _
  rw [rv_mul b2.1 hr.1, rv_mul b1.1 hq.1, rv_mul one hp.1, rv_mul a1.1 hr.1, rv_mul hp.1 hq.1, rv_11]; grind

theorem back_add {p q : FP} (hp : Lo p) (hq : Lo q) (h : q.1 * p.2 ≤ p.1 * q.2) : sumP [subP p q, q] = p := by
  have s := Lo.sub hp.1 hq.1
  rw [sum2 s.1 hq.1]
  refine rv_inj (Lo.add s.1 hq.1) hp ?_
  rw [rv_add s.1 hq.1, rv_sub hp.1 hq.1 ((rv_le hq.1 hp.1).1 h)]; grind

theorem back_mul {p q : FP} (hp : Lo p) (hq : Lo q) (h : 0 < q.1) : prodP [divP p q, q] = p := by
  have one : (0 : Nat) < ((1, 1) : FP).2 := by decide
  have s := Lo.div hp.1 h
  have b1 := Lo.mul one s.1
  refine rv_inj (Lo.mul b1.1 hq.1) hp ?_
  show rv (mulP (mulP (1, 1) (divP p q)) q) = _
  have hq0 : rv q ≠ 0 := by
    have h1 := ncast_ne h
    have h2 := ncast_ne hq.1
    unfold rv
    grind
  rw [rv_mul b1.1 hq.1, rv_mul one s.1, rv_div hp.1 h hq.1, rv_11]; grind

theorem l04_short_eq (r : D_api_Ratio) : l04_short r = some (decide (r.1.length ≤ 6) && decide (r.2.length ≤ 6)) := by
  have e : ∀ n : Nat, decide ((n : Int) ≤ 6) = decide (n ≤ 6) := fun n => by rw [Bool.eq_iff_iff, decide_eq_true_iff, decide_eq_true_iff]; omega
  unfold l04_short
  show some _ = _
  rw [e, e]

/-- A short right fraction, or none. -/
theorem right_short {r : D_api_Ratio} (hw : Wf T_api_Ratio r) (h1 : r.1.length ≤ 6) (h2 : r.2.length ≤ 6) : ∃ b : Bool, r04_Right r = some b ∧ (b = true → ∃ p, r = q32 p ∧ S16 12 p ∧ Lo p) := by
  obtain ⟨n, d⟩ := r
  have hn := Is.of (Dg_wf' hw.1)
  have hd := Is.of (Dg_wf' hw.2)
  simp only at h1 h2 hn hd
  have s := S16_is hn hd h1 h2
  refine ⟨_, r04_Right_is hn hd (by omega) (by omega), fun h => ?_⟩
  obtain ⟨h0, e1, e2, hg⟩ := of_decide_eq_true h
  refine ⟨((vl 4294967296 n).toNat, (vl 4294967296 d).toNat), ?_, s, Nat.pos_of_ne_zero h0, hg⟩
  unfold q32
  rw [← e1, ← e2]

theorem gate6 {α : Type} {s0 s1 s2 : Bool} {R0 R1 R2 : Option Bool} {A B : Option α} {v : Option α}
    (h : s0 = true → s1 = true → s2 = true → ∃ r0 r1 r2, R0 = some r0 ∧ R1 = some r1 ∧ R2 = some r2 ∧ (r0 = true → r1 = true → r2 = true → B = v)) (hA : A = v) :
    ((some s0).bind fun y1 => (bif !(!y1) then some s1 else some false).bind fun y2 => (bif !((!y1) || (!y2)) then some s2 else some false).bind fun y3 =>
      (bif !(((!y1) || (!y2)) || (!y3)) then R0 else some false).bind fun y4 => (bif !((((!y1) || (!y2)) || (!y3)) || (!y4)) then R1 else some false).bind fun y5 =>
      (bif !(((((!y1) || (!y2)) || (!y3)) || (!y4)) || (!y5)) then R2 else some false).bind fun y6 =>
      bif (((((!y1) || (!y2)) || (!y3)) || (!y4)) || (!y5)) || (!y6) then A else B) = v := by
  cases s0
  · exact hA
  cases s1
  · exact hA
  cases s2
  · exact hA
  obtain ⟨r0, r1, r2, e0, e1, e2, hB⟩ := h rfl rfl rfl
  subst e0 e1 e2
  cases r0
  · exact hA
  cases r1
  · exact hA
  cases r2
  · exact hA
  exact hB rfl rfl rfl

theorem ratio_Same_eq {p q : FP} (hp : S16 1000 p) (hq : S16 1000 q) : ratio_Same (q32 p) (q32 q) = some (cmpP p q == 0) := by
  unfold ratio_Same
  rw [ratio_Cmp_eq hp hq (by omega), Option.bind_some]
  rfl
theorem cmpP_self (p : FP) : cmpP p p = 0 := by unfold cmpP cmpN; rw [if_neg (by omega), if_neg (by omega)]

theorem r04_Mul_eq {p q : FP} {k : Nat} (hp : S16 k p) (hq : S16 k q) (hk : k ≤ 400000) (h0 : 0 < Nat.gcd (p.1 * q.1) (p.2 * q.2)) : r04_Mul (q16 p) (q16 q) = some (q16 (mulP p q)) := by
  obtain ⟨p1, p2⟩ := hp
  obtain ⟨q1, q2⟩ := hq
  have m1 := d16_mul p.1 q.1
  have m2 := d16_mul p.2 q.2
  simp only [r04_Mul, q16, bnd, r01_Mul_eq (x := p.1) (y := q.1) (by omega) (by omega), r01_Mul_eq (x := p.2) (y := q.2) (by omega) (by omega), Option.bind_some,
    r04_Low_eq (a := p.1 * q.1) (b := p.2 * q.2) (by omega) (by omega) h0]
  rfl

theorem ratio_Div_none {p q : FP} (hp : S16 1000 p) (hq : S16 1000 q) (h : q.1 = 0) : ratio_Div (q32 p) (q32 q) = some (([], []), false) := by
  obtain ⟨p1, p2⟩ := hp
  obtain ⟨q1, q2⟩ := hq
  have a1 := d32_le16 p.1
  have a2 := d32_le16 p.2
  have a3 := d32_le16 q.1
  have a4 := d32_le16 q.2
  have b1 := d32_mul p.1 q.2
  have hm : ratio_Make (d32 (p.1 * q.2)) (d32 (p.2 * q.1)) = some (([], []), false) := by
    unfold ratio_Make
    have z : p.2 * q.1 = 0 := by rw [h, Nat.mul_zero]
    rw [z]
    have g := nat_Gcd_is (Is.d32 (p.1 * q.2)) (Is.d32 0) (by omega) (by rw [d32_zero]; simp)
    rw [Nat.gcd_zero_right] at g
    have dv := nat_Div_is (Is.d32 0) (Is.d32 (p.1 * q.2)) (by rw [d32_zero]; simp) (by omega)
    show ((nat_Gcd (d32 (p.1 * q.2)) (d32 0)).bind fun y2 => (nat_Div (d32 0) y2).bind fun y3 => bif (!y3.2.2) || ((y3.1.length : Int) == 0) then some ((([] : List Int), ([] : List Int)), false) else (nat_Div (d32 (p.1 * q.2)) y2).bind fun y5 => some ((y5.1, y3.1), true)) = _
    rw [g, Option.bind_some, dv, Option.bind_some]
    by_cases h0 : p.1 * q.2 = 0
    · rw [if_pos h0]; rfl
    · rw [if_neg h0, Nat.zero_div, d32_zero]; rfl
  unfold ratio_Div
  show ((nat_Mul [d32 p.1, d32 q.2]).bind fun y2 => (nat_Mul [d32 p.2, d32 q.1]).bind fun y3 => (ratio_Make y2 y3).bind fun y4 => some (y4.1, y4.2)) = _
  rw [nat_Mul_two (by omega) (by omega), Option.bind_some, nat_Mul_two (by omega) (by omega), Option.bind_some, hm]
  rfl

theorem RatioReckons_eq (p0 p1 p2 : D_api_Ratio) (hw0 : Wf T_api_Ratio p0) (hw1 : Wf T_api_Ratio p1) (hw2 : Wf T_api_Ratio p2) : l04_RatioReckons p0 p1 p2 = some true := by
  unfold l04_RatioReckons
  rw [l04_short_eq, l04_short_eq, l04_short_eq]
  refine gate6 (fun s0 s1 s2 => ?_) (by rw [l04_alive_eq]; rfl)
  rw [Bool.and_eq_true, decide_eq_true_iff, decide_eq_true_iff] at s0 s1 s2
  obtain ⟨r0, e0, g0⟩ := right_short hw0 s0.1 s0.2
  obtain ⟨r1, e1, g1⟩ := right_short hw1 s1.1 s1.2
  obtain ⟨r2, e2, g2⟩ := right_short hw2 s2.1 s2.2
  refine ⟨r0, r1, r2, e0, e1, e2, fun t0 t1 t2 => ?_⟩
  obtain ⟨p, rfl, sp, hp⟩ := g0 t0
  obtain ⟨q, rfl, sq, hq⟩ := g1 t1
  obtain ⟨r, rfl, sr, hr⟩ := g2 t2
  clear e0 e1 e2 g0 g1 g2 s0 s1 s2 hw0 hw1 hw2
  have mem3 : ∀ {a b c : FP}, (S16 12 a ∧ 0 < a.2) → (S16 12 b ∧ 0 < b.2) → (S16 12 c ∧ 0 < c.2) → ∀ x ∈ [a, b, c], S16 12 x ∧ 0 < x.2 := fun {a b c} ha hb hc x hx => by
    simp only [List.mem_cons, List.not_mem_nil, or_false] at hx
    rcases hx with rfl | rfl | rfl <;> assumption
  have mem2 : ∀ {a b : FP}, (S16 100 a ∧ 0 < a.2) → (S16 100 b ∧ 0 < b.2) → ∀ x ∈ [a, b], S16 100 x ∧ 0 < x.2 := fun {a b} ha hb x hx => by
    simp only [List.mem_cons, List.not_mem_nil, or_false] at hx
    rcases hx with rfl | rfl <;> assumption
  obtain ⟨w1, w2⟩ := sum3 hp hq hr
  have w3 := prod3 hp hq hr
  have A1 := (ratio_Add_eq (l := [p, q, r]) (by simp) (by omega) (mem3 ⟨sp, hp.1⟩ ⟨sq, hq.1⟩ ⟨sr, hr.1⟩)).1
  have A2 := (ratio_Add_eq (l := [r, p, q]) (by simp) (by omega) (mem3 ⟨sr, hr.1⟩ ⟨sp, hp.1⟩ ⟨sq, hq.1⟩)).1
  have A3 := (ratio_Mul_eq (l := [p, q, r]) (by simp) (by omega) (mem3 ⟨sp, hp.1⟩ ⟨sq, hq.1⟩ ⟨sr, hr.1⟩)).1
  rw [w1] at A1
  rw [w2] at A2
  rw [w3] at A3
  simp only [List.map_cons, List.map_nil] at A1 A2 A3
  have gp : ∀ {a b : Nat}, 0 < b → 0 < Nat.gcd a b := fun h => Nat.gcd_pos_of_pos_right _ h
  have la := Lo.add hp.1 hq.1
  have lm := Lo.mul hp.1 hq.1
  have sa := add_size sp sq
  have sm := mul_size sp sq
  have sa2 := add_size sa sr
  have sm2 := mul_size sm sr
  have B1 := r04_Add_eq sp sq (by omega) (gp (Nat.mul_pos hp.1 hq.1))
  have B2 := r04_Add_eq (sa.mono (show _ ≤ 100 by omega)) (sr.mono (show _ ≤ 100 by omega)) (by omega) (gp (Nat.mul_pos la.1 hr.1))
  have B3 := r04_Mul_eq sp sq (by omega) (gp (Nat.mul_pos hp.1 hq.1))
  have B4 := r04_Mul_eq (sm.mono (show _ ≤ 100 by omega)) (sr.mono (show _ ≤ 100 by omega)) (by omega) (gp (Nat.mul_pos lm.1 hr.1))
  have C1 := r04_Same_refl (sa2.mono (show _ ≤ 100000 by omega))
  have C2 := r04_Same_refl (sm2.mono (show _ ≤ 100000 by omega))
  have D1 := ratio_Cmp_eq sp sq (by omega)
  have D2 := r04_Cmp_eq sp sq (by omega)
  have D3 := ratio_Same_eq (sp.mono (by omega)) (sq.mono (by omega))
  have D4 := ratio_Same_eq (sp.mono (by omega)) (sp.mono (by omega))
  rw [cmpP_self, beq_self_eq_true] at D4
  have I0 := r04_In_q32 (sp.mono (show _ ≤ 1000000 by omega))
  have I1 := r04_In_q32 (sq.mono (show _ ≤ 1000000 by omega))
  have I2 := r04_In_q32 (sr.mono (show _ ≤ 1000000 by omega))
  have S1 := ratio_Sub_eq sp sq (by omega) hp.1 hq.1
  have Z := r04_Zero_eq q
  have hcm : decide (cmpP p q ≥ 0) = !decide (p.1 * q.2 < q.1 * p.2) := cmp_ge0
  have F1 : r01_Div (q16 p).1 (q16 p).2 = some (d16 (p.1 / p.2), d16 (p.1 % p.2)) := r01_Div_eq (by have := sp.1; omega) (by have := sp.2; omega) hp.1
  have F2 : ratio_Floor (q32 p) = some (d32 (p.1 / p.2)) := by
    have l1 := d32_le16 p.1
    have l2 := d32_le16 p.2
    have := nat_Div_eq (x := p.1) (y := p.2) (by have := sp.1; omega) (by have := sp.2; omega) hp.1
    unfold ratio_Floor
    show ((nat_Div (d32 p.1) (d32 p.2)).bind fun y1 => some y1.1) = _
    rw [this]; rfl
  have lf := d16_mono (Nat.div_le_self p.1 p.2)
  have F3 : r03_Out (d16 (p.1 / p.2)) = some (d32 (p.1 / p.2)) := r03_Out_eq (by have := sp.1; omega)
  have F4 : r03_Same (d32 (p.1 / p.2)) (d32 (p.1 / p.2)) = some true := by
    have := d32_le16 (p.1 / p.2)
    rw [r03_Same_eq _ _ (by have := sp.1; omega), decide_eq_true rfl]
  simp only [I0, I1, I2, A1, A2, A3, B1, B2, B3, B4, C1, C2, D1, D2, D3, Option.bind_some, Bool.not_true, Bool.not_false, cond_true, cond_false, Bool.or_self, bne_self_eq_false, S1, hcm, Z]
  -- what is divided
  have last : ((ratio_Div (q32 p) (q32 q)).bind fun y34 =>
      (bif (!(y34.2 != (!decide (q.1 = 0)))) && y34.2 then r04_Div (q16 p) (q16 q) else some (([] : List Int), ([] : List Int))).bind fun y36 =>
      (bif (!(y34.2 != (!decide (q.1 = 0)))) && y34.2 then r04_Same y34.1 y36 else some false).bind fun y37 =>
      (bif ((!(y34.2 != (!decide (q.1 = 0)))) && y34.2) && (!(!y37)) then ratio_Mul [y34.1, q32 q] else some (([] : List Int), ([] : List Int))).bind fun y38 =>
      (bif ((!(y34.2 != (!decide (q.1 = 0)))) && y34.2) && (!(!y37)) then ratio_Same y38 (q32 p) else some false).bind fun y39 =>
      (bif (!((y34.2 != (!decide (q.1 = 0))) || (y34.2 && ((!y37) || (!y39))))) && (!y34.2) then l04_none y34.1 else some false).bind fun y40 =>
      bif ((y34.2 != (!decide (q.1 = 0))) || (y34.2 && ((!y37) || (!y39)))) || ((!y34.2) && (!y40)) then some false
      else
      (r01_Div (q16 p).1 (q16 p).2).bind fun y41 => (ratio_Floor (q32 p)).bind fun y42 => (r03_Out y41.1).bind fun y43 => (r03_Same y42 y43).bind fun y44 =>
      (bif y44 then l04_alive else some false).bind fun y45 => bnd (y44 && y45) fun x46 => some x46) = some true := by
    by_cases hz : q.1 = 0
    · simp [ratio_Div_none (sp.mono (by omega)) (sq.mono (by omega)) hz, hz, l04_none_nil, F1, F2, F3, F4, l04_alive_eq, bnd]
    · have hq1 : 0 < q.1 := by omega
      have T1 := ratio_Div_eq sp sq (by omega) hp.1 hq1
      have T2 := r04_Div_eq sp sq (by omega) (gp (Nat.mul_pos hp.1 hq1))
      have sd : S16 24 (divP p q) := low_size (by have := d16_mul p.1 q.2; have := sp.1; have := sq.2; omega) (by have := d16_mul p.2 q.1; have := sp.2; have := sq.1; omega)
      have T3 := r04_Same_refl (sd.mono (show 24 ≤ 100000 by omega))
      have T4 := (ratio_Mul_eq (l := [divP p q, q]) (by simp) (by omega) (mem2 ⟨sd.mono (by omega), (Lo.div hp.1 hq1).1⟩ ⟨sq.mono (by omega), hq.1⟩)).1
      rw [back_mul hp hq hq1] at T4
      simp only [List.map_cons, List.map_nil] at T4
      simp [T1, T2, T3, T4, D4, hz, F1, F2, F3, F4, l04_alive_eq, bnd]
  by_cases hlt : p.1 * q.2 < q.1 * p.2
  · simp only [if_pos hlt, decide_eq_true hlt, Bool.not_true, bne_self_eq_false, Bool.not_false, Bool.and_false, cond_false, cond_true, Option.bind_some, Bool.false_and, Bool.or_self, Bool.and_self, l04_none_nil, Bool.and_true, Bool.true_and]
    exact last
  · have hle : q.1 * p.2 ≤ p.1 * q.2 := by omega
    have U1 := r04_Sub_eq sp sq (by omega) hle (gp (Nat.mul_pos hp.1 hq.1))
    have sd : S16 24 (subP p q) := low_size (by have := d16_mul p.1 q.2; have := d16_mono (Nat.sub_le (p.1 * q.2) (q.1 * p.2)); have := sp.1; have := sq.2; omega) (by have := d16_mul p.2 q.2; have := sp.2; have := sq.2; omega)
    have U2 := r04_Same_refl (sd.mono (show 24 ≤ 100000 by omega))
    have U3 := (ratio_Add_eq (l := [subP p q, q]) (by simp) (by omega) (mem2 ⟨sd.mono (by omega), (Lo.sub hp.1 hq.1).1⟩ ⟨sq.mono (by omega), hq.1⟩)).1
    rw [back_add hp hq hle] at U3
    simp only [List.map_cons, List.map_nil] at U3
    simp only [if_neg hlt, decide_eq_false hlt, U1, U2, U3, D4, Bool.not_true, bne_self_eq_false, Bool.not_false, Bool.and_false, cond_false, cond_true, Option.bind_some, Bool.false_and, Bool.or_self, Bool.and_self, Bool.and_true, Bool.true_and]
    exact last
end Go.Tom
