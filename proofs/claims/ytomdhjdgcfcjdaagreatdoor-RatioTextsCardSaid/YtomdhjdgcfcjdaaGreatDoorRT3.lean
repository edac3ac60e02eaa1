/- Chapter 4: what is reckoned with right fractions. -/
import Derived.Test.YtomdhjdgcfcjdaaGreatDoorRT2
set_option linter.unusedVariables false
set_option linter.unusedSimpArgs false
namespace Go.Tom
open Go

theorem rv_01 : rv (0, 1) = 0 := by unfold rv; simp; grind
theorem rv_11 : rv (1, 1) = 1 := by unfold rv; simp; grind
theorem Lo.add {p q : FP} (hp : 0 < p.2) (hq : 0 < q.2) : Lo (addP p q) := Lo_low (Nat.mul_pos hp hq)
theorem Lo.sub {p q : FP} (hp : 0 < p.2) (hq : 0 < q.2) : Lo (subP p q) := Lo_low (Nat.mul_pos hp hq)
theorem Lo.mul {p q : FP} (hp : 0 < p.2) (hq : 0 < q.2) : Lo (mulP p q) := Lo_low (Nat.mul_pos hp hq)
theorem Lo.div {p q : FP} (hp : 0 < p.2) (hq : 0 < q.1) : Lo (divP p q) := Lo_low (Nat.mul_pos hp hq)

theorem sum3 {p q r : FP} (hp : Lo p) (hq : Lo q) (hr : Lo r) : sumP [p, q, r] = addP (addP p q) r ∧ sumP [r, p, q] = addP (addP p q) r := by
  have one : (0 : Nat) < ((0, 1) : FP).2 := by decide
  have a1 := Lo.add hp.1 hq.1
  have a2 := Lo.add a1.1 hr.1
  have b1 := Lo.add one hp.1
  have b2 := Lo.add b1.1 hq.1
  have b3 := Lo.add b2.1 hr.1
  have c1 := Lo.add one hr.1
  have c2 := Lo.add c1.1 hp.1
  have c3 := Lo.add c2.1 hq.1
  refine ⟨rv_inj b3 a2 ?_, rv_inj c3 a2 ?_⟩
  · show rv (addP (addP (addP (0, 1) p) q) r) = _
    rw [rv_add b2.1 hr.1, rv_add b1.1 hq.1, rv_add one hp.1, rv_add a1.1 hr.1, rv_add hp.1 hq.1, rv_01]; grind
  · show rv (addP (addP (addP (0, 1) r) p) q) = _
    rw [rv_add c2.1 hq.1, rv_add c1.1 hp.1, rv_add one hr.1, rv_add a1.1 hr.1, rv_add hp.1 hq.1, rv_01]; grind

theorem sum2 {p q : FP} (hp : 0 < p.2) (hq : 0 < q.2) : sumP [p, q] = addP p q := by
  have one : (0 : Nat) < ((0, 1) : FP).2 := by decide
  have b1 := Lo.add one hp
  refine rv_inj (Lo.add b1.1 hq) (Lo.add hp hq) ?_
  show rv (addP (addP (0, 1) p) q) = _
  rw [rv_add b1.1 hq, rv_add one hp, rv_add hp hq, rv_01]; grind

theorem prod3 {p q r : FP} (hp : Lo p) (hq : Lo q) (hr : Lo r) : prodP [p, q, r] = mulP (mulP p q) r := by
  have one : (0 : Nat) < ((1, 1) : FP).2 := by decide
  have a1 := Lo.mul hp.1 hq.1
  have b1 := Lo.mul one hp.1
  have b2 := Lo.mul b1.1 hq.1
  refine rv_inj (Lo.mul b2.1 hr.1) (Lo.mul a1.1 hr.1) ?_
  show rv (mulP (mulP (mulP (1, 1) p) q) r) = _
  rw [rv_mul b2.1 hr.1, rv_mul b1.1 hq.1, rv_mul one hp.1, rv_mul a1.1 hr.1, rv_mul hp.1 hq.1, rv_11]; grind

theorem back_add {p q : FP} (hp : Lo p) (hq : Lo q) (h : q.1 * p.2 ≤ p.1 * q.2) : sumP [subP p q, q] = p := by
  have s := Lo.sub hp.1 hq.1
  rw [sum2 s.1 hq.1]
  refine rv_inj (Lo.add s.1 hq.1) hp ?_
  rw [rv_add s.1 hq.1, rv_sub hp.1 hq.1 ((rv_le hq.1 hp.1).1 h)]; grind

theorem back_mul {p q : FP} (hp : Lo p) (hq : Lo q) (h : 0 < q.1) : prodP [divP p q, q] = p := by
  have one : (0 : Nat) < ((1, 1) : FP).2 := by decide
  have s := Lo.div hp.1 h
  have b1 := Lo.mul one s.1
  refine rv_inj (Lo.mul b1.1 hq.1) hp ?_
  show rv (mulP (mulP (1, 1) (divP p q)) q) = _
  have hq0 : rv q ≠ 0 := by
    have h1 := ncast_ne h
    have h2 := ncast_ne hq.1
    unfold rv
    grind
  rw [rv_mul b1.1 hq.1, rv_mul one s.1, rv_div hp.1 h hq.1, rv_11]; grind

theorem l04_short_eq (r : D_api_Ratio) : l04_short r = some (decide (r.1.length ≤ 6) && decide (r.2.length ≤ 6)) := by
  have e : ∀ n : Nat, decide ((n : Int) ≤ 6) = decide (n ≤ 6) := fun n => by rw [Bool.eq_iff_iff, decide_eq_true_iff, decide_eq_true_iff]; omega
  unfold l04_short
  show some _ = _
  rw [e, e]

/-- A short right fraction, or none. -/
theorem right_short {r : D_api_Ratio} (hw : Wf T_api_Ratio r) (h1 : r.1.length ≤ 6) (h2 : r.2.length ≤ 6) : ∃ b : Bool, r04_Right r = some b ∧ (b = true → ∃ p, r = q32 p ∧ S16 12 p ∧ Lo p) := by
  obtain ⟨n, d⟩ := r
  have hn := Is.of (Dg_wf' hw.1)
  have hd := Is.of (Dg_wf' hw.2)
  simp only at h1 h2 hn hd
  have s := S16_is hn hd h1 h2
  refine ⟨_, r04_Right_is hn hd (by omega) (by omega), fun h => ?_⟩
  obtain ⟨h0, e1, e2, hg⟩ := of_decide_eq_true h
  refine ⟨((vl 4294967296 n).toNat, (vl 4294967296 d).toNat), ?_, s, Nat.pos_of_ne_zero h0, hg⟩
  unfold q32
  rw [← e1, ← e2]

theorem gate6 {α : Type} {s0 s1 s2 : Bool} {R0 R1 R2 : Option Bool} {A B : Option α} {v : Option α}
    (h : s0 = true → s1 = true → s2 = true → ∃ r0 r1 r2, R0 = some r0 ∧ R1 = some r1 ∧ R2 = some r2 ∧ (r0 = true → r1 = true → r2 = true → B = v)) (hA : A = v) :
    ((some s0).bind fun y1 => (bif !(!y1) then some s1 else some false).bind fun y2 => (bif !((!y1) || (!y2)) then some s2 else some false).bind fun y3 =>
      (bif !(((!y1) || (!y2)) || (!y3)) then R0 else some false).bind fun y4 => (bif !((((!y1) || (!y2)) || (!y3)) || (!y4)) then R1 else some false).bind fun y5 =>
      (bif !(((((!y1) || (!y2)) || (!y3)) || (!y4)) || (!y5)) then R2 else some false).bind fun y6 =>
      bif (((((!y1) || (!y2)) || (!y3)) || (!y4)) || (!y5)) || (!y6) then A else B) = v := by
  cases s0
  · exact hA
  cases s1
  · exact hA
  cases s2
  · exact hA
  obtain ⟨r0, r1, r2, e0, e1, e2, hB⟩ := h rfl rfl rfl
  subst e0 e1 e2
  cases r0
  · exact hA
  cases r1
  · exact hA
  cases r2
  · exact hA
  exact hB rfl rfl rfl

theorem ratio_Same_eq {p q : FP} (hp : S16 1000 p) (hq : S16 1000 q) : ratio_Same (q32 p) (q32 q) = some (cmpP p q == 0) := by
  unfold ratio_Same
  rw [ratio_Cmp_eq hp hq (by omega), Option.bind_some]
  rfl
theorem cmpP_self (p : FP) : cmpP p p = 0 := by unfold cmpP cmpN; rw [if_neg (by omega), if_neg (by omega)]

end Go.Tom
