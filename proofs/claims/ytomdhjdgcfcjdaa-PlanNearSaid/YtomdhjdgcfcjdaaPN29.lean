/- Chapter 48: the document's search for the nearest fraction. -/
import Derived.Test.YtomdhjdgcfcjdaaPN28
import Derived.Test.YtomdhjdgcfcjdaaPN14b
import Derived.Test.YtomdhjdgcfcjdaaPNr
set_option linter.unusedVariables false
set_option linter.unusedSimpArgs false
namespace Go.Tom
open Go

theorem rv_gap {p q : FP} (hp : 0 < p.2) (hq : 0 < q.2) : rv (gapP p q) = far (rv q) (rv p) := by
  unfold gapP far
  have h1 := rv_lt hp hq
  by_cases h : p.1 * q.2 < q.1 * p.2
  · have := h1.1 h
    rw [if_pos h, rv_sub hq hp (Rat.le_of_lt this), if_pos (Rat.le_of_lt this)]
  · have hn : ¬ rv p < rv q := fun hc => h (h1.2 hc)
    rw [if_neg h, rv_sub hp hq (Rat.not_lt.1 hn)]
    by_cases he : rv p ≤ rv q
    · rw [if_pos he]
      have : rv p = rv q := Rat.le_antisymm he (Rat.not_lt.1 hn)
      rw [this]
    · rw [if_neg he]
theorem gap_pos {p q : FP} (hp : 0 < p.2) (hq : 0 < q.2) : 0 < (gapP p q).2 := by
  unfold gapP
  split
  · exact low_pos (Nat.mul_pos hq hp)
  · exact low_pos (Nat.mul_pos hp hq)
theorem far_sym {a b : Rat} : far a b = far b a := by unfold far; grind

theorem r48_Gap_eq {p q : FP} {k : Nat} (hp : S16 k p) (hq : S16 k q) (hk : k ≤ 400000) (hp0 : 0 < p.2) (hq0 : 0 < q.2) : r48_Gap (q16 p) (q16 q) = some (q16 (gapP p q)) := by
  rw [← Tot.eq_iff]
  unfold r48_Gap
  rw [Tot.bnd_iff, r04_Cmp_eq hp hq hk, Option.bind_some]
  unfold gapP
  by_cases h : p.1 * q.2 < q.1 * p.2
  · have hd : decide (cmpP p q ≥ 0) = false := by rw [decide_eq_false_iff_not, cmp_ge]; omega
    rw [hd, cond_false, if_pos h, r04_Sub_eq hq hp hk (by omega) (Nat.gcd_pos_of_pos_right _ (Nat.mul_pos hq0 hp0)), Option.bind_some]
    exact Tot.some_iff.2 rfl
  · have hd : decide (cmpP p q ≥ 0) = true := by rw [decide_eq_true_iff, cmp_ge]; omega
    rw [hd, cond_true, if_neg h, r04_Sub_eq hp hq hk (by omega) (Nat.gcd_pos_of_pos_right _ (Nat.mul_pos hp0 hq0)), Option.bind_some]
    exact Tot.some_iff.2 rfl

theorem cmp_neg {p q : FP} (hp : 0 < p.2) (hq : 0 < q.2) : cmpP p q < 0 ↔ rv p < rv q := by
  rw [rv_cmp hp hq]; split
  · rename_i h; exact ⟨fun _ => h, fun _ => by omega⟩
  · rename_i h; split <;> exact ⟨fun hc => by omega, fun hc => absurd hc h⟩
theorem cmp_pos {p q : FP} (hp : 0 < p.2) (hq : 0 < q.2) : cmpP p q > 0 ↔ rv q < rv p := by
  rw [rv_cmp hp hq]; split
  · rename_i h; exact ⟨fun hc => by omega, fun hc => absurd hc (Rat.not_lt.2 (Rat.le_of_lt h))⟩
  · split
    · rename_i h; exact ⟨fun _ => h, fun _ => by omega⟩
    · rename_i h; exact ⟨fun hc => by omega, fun hc => absurd hc h⟩
theorem cmp_zero {p q : FP} (hp : 0 < p.2) (hq : 0 < q.2) : cmpP p q = 0 ↔ rv p = rv q := by
  rw [rv_cmp hp hq]; split
  · rename_i h; exact ⟨fun hc => by omega, fun hc => by rw [hc] at h; exact absurd h (Rat.lt_irrefl)⟩
  · rename_i h1; split
    · rename_i h; exact ⟨fun hc => by omega, fun hc => by rw [hc] at h; exact absurd h (Rat.lt_irrefl)⟩
    · rename_i h; exact ⟨fun _ => Rat.le_antisymm (Rat.not_lt.1 h) (Rat.not_lt.1 h1), fun _ => rfl⟩

/-- The document's step, of pairs. -/
def docStep (x best : FP) (d : Nat) : FP :=
  let low := lowP (x.1 * d / x.2) d
  let high := lowP (x.1 * d / x.2 + 1) d
  let b1 := if cmpP (gapP low x) (gapP best x) < 0 ∨ (cmpP (gapP low x) (gapP best x) = 0 ∧ cmpP best x > 0) then low else best
  if cmpP (gapP high x) (gapP b1 x) < 0 then high else b1

theorem rv_one {n : Nat} : rv (n, 1) = (n : Rat) / ((1 : Nat) : Rat) := rfl

theorem docStep_rv {x best : FP} {d : Nat} (x0 : 0 < x.2) (b0 : 0 < best.2) (hd : 0 < d) : rv (docStep x best d) = nearStep (rv x) (rv best) (x.1 * d / x.2) d ∧ 0 < (docStep x best d).2 := by
  have l0 : 0 < (lowP (x.1 * d / x.2) d).2 := low_pos hd
  have h0 : 0 < (lowP (x.1 * d / x.2 + 1) d).2 := low_pos hd
  have vl : rv (lowP (x.1 * d / x.2) d) = ((x.1 * d / x.2 : Nat) : Rat) / (d : Rat) := rv_low hd
  have vh : rv (lowP (x.1 * d / x.2 + 1) d) = ((x.1 * d / x.2 + 1 : Nat) : Rat) / (d : Rat) := rv_low hd
  unfold docStep nearStep
  simp only
  rw [← vl, ← vh]
  have e1 : (cmpP (gapP (lowP (x.1 * d / x.2) d) x) (gapP best x) < 0 ∨ (cmpP (gapP (lowP (x.1 * d / x.2) d) x) (gapP best x) = 0 ∧ cmpP best x > 0)) ↔ (far (rv x) (rv (lowP (x.1 * d / x.2) d)) < far (rv x) (rv best) ∨ (far (rv x) (rv (lowP (x.1 * d / x.2) d)) = far (rv x) (rv best) ∧ rv x < rv best)) := by
    rw [cmp_neg (gap_pos l0 x0) (gap_pos b0 x0), cmp_zero (gap_pos l0 x0) (gap_pos b0 x0), cmp_pos b0 x0, rv_gap l0 x0, rv_gap b0 x0]
  obtain ⟨b1, hb1⟩ : ∃ b1, b1 = if cmpP (gapP (lowP (x.1 * d / x.2) d) x) (gapP best x) < 0 ∨ (cmpP (gapP (lowP (x.1 * d / x.2) d) x) (gapP best x) = 0 ∧ cmpP best x > 0) then lowP (x.1 * d / x.2) d else best := ⟨_, rfl⟩
  have hv : rv b1 = if far (rv x) (rv (lowP (x.1 * d / x.2) d)) < far (rv x) (rv best) ∨ (far (rv x) (rv (lowP (x.1 * d / x.2) d)) = far (rv x) (rv best) ∧ rv x < rv best) then rv (lowP (x.1 * d / x.2) d) else rv best := by
    rw [hb1]
    by_cases h : cmpP (gapP (lowP (x.1 * d / x.2) d) x) (gapP best x) < 0 ∨ (cmpP (gapP (lowP (x.1 * d / x.2) d) x) (gapP best x) = 0 ∧ cmpP best x > 0)
    · rw [if_pos h, if_pos (e1.1 h)]
    · rw [if_neg h, if_neg fun hc => h (e1.2 hc)]
  have b10 : 0 < b1.2 := by rw [hb1]; split <;> assumption
  rw [← hb1, ← hv]
  have e2 : cmpP (gapP (lowP (x.1 * d / x.2 + 1) d) x) (gapP b1 x) < 0 ↔ far (rv x) (rv (lowP (x.1 * d / x.2 + 1) d)) < far (rv x) (rv b1) := by
    rw [cmp_neg (gap_pos h0 x0) (gap_pos b10 x0), rv_gap h0 x0, rv_gap b10 x0]
  by_cases h : cmpP (gapP (lowP (x.1 * d / x.2 + 1) d) x) (gapP b1 x) < 0
  · rw [if_pos h, if_pos (e2.1 h)]; exact ⟨rfl, h0⟩
  · rw [if_neg h, if_neg fun hc => h (e2.2 hc)]; exact ⟨rfl, b10⟩

/-- What the document has found among the first Dens. -/
structure NearF (x : FP) (d : Nat) (b : FP) : Prop where
  lo : Lo b
  sz : S16 16 b
  near : NearR (rv x) d (rv b)
  den : ∃ n e : Nat, 1 ≤ e ∧ e ≤ max d 1 ∧ rv b = (n : Rat) / (e : Rat)

theorem NearF.zero {x : FP} (hx : S16 8 x) : NearF x 0 (x.1 / x.2, 1) := by
  have := d16_mono (x := x.1 / x.2) (y := x.1) (Nat.div_le_self ..)
  exact ⟨⟨by simp, Nat.gcd_one_right _⟩, ⟨by have := hx.1; simp only; omega, by have := d16_one; simp only; omega⟩, ⟨fun n d h1 h2 => by omega, fun _ n d h1 h2 => by omega⟩, ⟨_, 1, by omega, by omega, rfl⟩⟩

theorem doc_size {x : FP} {d : Nat} (hx : S16 8 x) (hd : d ≤ 1048576) : S16 12 (lowP (x.1 * d / x.2) d) ∧ S16 12 (lowP (x.1 * d / x.2 + 1) d) ∧ (d16 (x.1 * d)).length ≤ 10 ∧ (d16 (x.1 * d / x.2)).length ≤ 10 := by
  have hd2 : (d16 d).length ≤ 2 := dg_len b16 (by omega)
  have m1 := d16_mul x.1 d
  have m2 := d16_mono (x := x.1 * d / x.2) (y := x.1 * d) (Nat.div_le_self ..)
  have m3 := d16_add (x.1 * d / x.2) 1
  have := d16_one
  have := hx.1
  exact ⟨low_size (by omega) (by omega), low_size (by omega) (by omega), by omega, by omega⟩

theorem NearF.step {x b : FP} {d : Nat} (hx : S16 8 x) (x0 : 0 < x.2) (hd : d + 1 ≤ 1048576) (h : NearF x d b) : NearF x (d + 1) (docStep x b (d + 1)) := by
  obtain ⟨hv, _⟩ := docStep_rv (d := d + 1) x0 h.lo.1 (by omega)
  obtain ⟨s1, s2, _, _⟩ := doc_size (d := d + 1) hx hd
  have hc : docStep x b (d + 1) = b ∨ docStep x b (d + 1) = lowP (x.1 * (d + 1) / x.2) (d + 1) ∨ docStep x b (d + 1) = lowP (x.1 * (d + 1) / x.2 + 1) (d + 1) := by
    unfold docStep
    simp only
    by_cases k1 : cmpP (gapP (lowP (x.1 * (d + 1) / x.2) (d + 1)) x) (gapP b x) < 0 ∨ (cmpP (gapP (lowP (x.1 * (d + 1) / x.2) (d + 1)) x) (gapP b x) = 0 ∧ cmpP b x > 0)
    · simp only [if_pos k1]
      split
      · exact .inr (.inr rfl)
      · exact .inr (.inl rfl)
    · simp only [if_neg k1]
      split
      · exact .inr (.inr rfl)
      · exact .inl rfl
  have hq := ncast_pos x0
  have hdq : (0 : Rat) < ((d + 1 : Nat) : Rat) := ncast_pos (by omega)
  have f1 : x.1 * (d + 1) / x.2 * x.2 ≤ x.1 * (d + 1) := Nat.div_mul_le_self ..
  have f2 : x.1 * (d + 1) < (x.1 * (d + 1) / x.2 + 1) * x.2 := by
    have h1 := Nat.div_add_mod (x.1 * (d + 1)) x.2
    have h2 := Nat.mod_lt (x.1 * (d + 1)) x0
    rw [Nat.add_mul, Nat.one_mul, Nat.mul_comm (x.1 * (d + 1) / x.2)]
    omega
  have g1 := (rv_le (p := (x.1 * (d + 1) / x.2, d + 1)) (q := x) (by simp) x0).1 f1
  have g2 := (rv_lt (p := x) (q := (x.1 * (d + 1) / x.2 + 1, d + 1)) x0 (by simp)).1 f2
  refine ⟨?_, ?_, ?_, ?_⟩
  · rcases hc with hc | hc | hc <;> rw [hc]
    · exact h.lo
    · exact Lo_low (by omega)
    · exact Lo_low (by omega)
  · rcases hc with hc | hc | hc <;> rw [hc]
    · exact h.sz
    · exact s1.mono (by omega)
    · exact s2.mono (by omega)
  · rw [hv]
    exact near_step h.near g1 g2
  · rcases hc with hc | hc | hc <;> rw [hc]
    · obtain ⟨n, e, e1, e2, e3⟩ := h.den
      exact ⟨n, e, e1, by omega, e3⟩
    · exact ⟨_, d + 1, by omega, by omega, rv_low (by omega)⟩
    · exact ⟨_, d + 1, by omega, by omega, rv_low (by omega)⟩

theorem r48_Near_round {x b : FP} {d most : Nat} (hx : S16 8 x) (x0 : 0 < x.2) (hd : d + 1 ≤ most) (hm : most ≤ 1048576) (h : NearF x d b) :
    r48_Near_b1 (q16 x) (most : Int) (q16 b) ((d + 1 : Nat) : Int) = some (.inl (q16 (docStep x b (d + 1)), ((d + 2 : Nat) : Int))) := by
  obtain ⟨s1, s2, z1, z2⟩ := doc_size (d := d + 1) hx (by omega)
  have hd2 : (d16 (d + 1)).length ≤ 2 := dg_len b16 (by omega)
  have hw : IntKind.u64.wrap ((d + 1 : Nat) : Int) = ((d + 1 : Nat) : Int) := u64i (by omega) (by omega)
  have hwi : IntKind.i64.wrap (((d + 1 : Nat) : Int) + 1) = ((d + 2 : Nat) : Int) := by rw [w64 (by omega) (by omega)]; omega
  have hc : decide (((d + 1 : Nat) : Int) ≤ (most : Int)) = true := decide_eq_true (by omega)
  have m3 := d16_add (x.1 * (d + 1) / x.2) 1
  have h1 := d16_one
  have l0 : 0 < (lowP (x.1 * (d + 1) / x.2) (d + 1)).2 := low_pos (by omega)
  have h0 : 0 < (lowP (x.1 * (d + 1) / x.2 + 1) (d + 1)).2 := low_pos (by omega)
  have hx1 := hx.1
  have hx2 := hx.2
  have hx16 := hx.mono (show 8 ≤ 16 by omega)
  have s1' := s1.mono (show 12 ≤ 16 by omega)
  have s2' := s2.mono (show 12 ≤ 16 by omega)
  have gl := r48_Gap_eq s1' hx16 (by omega) l0 x0
  have gh := r48_Gap_eq s2' hx16 (by omega) h0 x0
  have gb := r48_Gap_eq h.sz hx16 (by omega) h.lo.1 x0
  have cl := r04_Cmp_eq (k := 32) (gap_size s1' hx16) (gap_size h.sz hx16) (by omega)
  have cb := r04_Cmp_eq (k := 16) h.sz hx16 (by omega)
  have j2 : ∀ b1 : FP, S16 16 b1 → 0 < b1.2 → r48_Near_j2 (q16 x) ((d + 1 : Nat) : Int) (q16 (lowP (x.1 * (d + 1) / x.2 + 1) (d + 1))) (q16 b1) = some (.inl (q16 (if cmpP (gapP (lowP (x.1 * (d + 1) / x.2 + 1) (d + 1)) x) (gapP b1 x) < 0 then lowP (x.1 * (d + 1) / x.2 + 1) (d + 1) else b1), ((d + 2 : Nat) : Int))) := fun b1 sb b10 => by
    have j3 : ∀ y, r48_Near_j3 ((d + 1 : Nat) : Int) y = some (.inl (y, ((d + 2 : Nat) : Int))) := fun y => by unfold r48_Near_j3; rw [hwi]; rfl
    unfold r48_Near_j2
    rw [gh, Option.bind_some, r48_Gap_eq sb hx16 (by omega) b10 x0, Option.bind_some, r04_Cmp_eq (k := 32) (gap_size s2' hx16) (gap_size sb hx16) (by omega), Option.bind_some, j3, j3]
    by_cases hh : cmpP (gapP (lowP (x.1 * (d + 1) / x.2 + 1) (d + 1)) x) (gapP b1 x) < 0
    · rw [decide_eq_true hh, cond_true, if_pos hh]
    · rw [decide_eq_false hh, cond_false, if_neg hh]
  have dv : r01_Div (d16 (x.1 * (d + 1))) (d16 x.2) = some (d16 (x.1 * (d + 1) / x.2), d16 (x.1 * (d + 1) % x.2)) := r01_Div_eq (by omega) (by omega) x0
  have ad : r01_Add (d16 (x.1 * (d + 1) / x.2)) (d16 1) = some (d16 (x.1 * (d + 1) / x.2 + 1)) := r01_Add_eq (by omega) (by omega)
  have lw1 : r04_Low (d16 (x.1 * (d + 1) / x.2), d16 (d + 1)) = some (q16 (lowP (x.1 * (d + 1) / x.2) (d + 1))) := r04_Low_eq (by omega) (by omega) (Nat.gcd_pos_of_pos_right _ (by omega))
  have lw2 : r04_Low (d16 (x.1 * (d + 1) / x.2 + 1), d16 (d + 1)) = some (q16 (lowP (x.1 * (d + 1) / x.2 + 1) (d + 1))) := r04_Low_eq (by omega) (by omega) (Nat.gcd_pos_of_pos_right _ (by omega))
  have ho : r01_Of (1 : Int) = some (d16 1) := r01_Of_eq (n := 1) (by omega)
  have mu : r01_Mul (d16 x.1) (d16 (d + 1)) = some (d16 (x.1 * (d + 1))) := r01_Mul_eq (by omega) (by omega)
  have hof : r01_Of ((d + 1 : Nat) : Int) = some (d16 (d + 1)) := r01_Of_eq (by omega)
  unfold r48_Near_b1
  rw [hc, cond_true, hw, hof, Option.bind_some]
  show ((r01_Mul (d16 x.1) (d16 (d + 1))).bind fun y9 => (r01_Div y9 (d16 x.2)).bind fun y10 => (some (d16 (d + 1))).bind fun y11 => (r04_Low (y10.1, y11)).bind fun y12 => (r01_Of (1 : Int)).bind fun y13 => (r01_Add y10.1 y13).bind fun y14 => (some (d16 (d + 1))).bind fun y15 => (r04_Low (y14, y15)).bind fun y16 =>
    (r48_Gap y12 (q16 x)).bind fun y17 => (r48_Gap (q16 b) (q16 x)).bind fun y18 => (r04_Cmp y17 y18).bind fun y19 => (bif (!(decide (y19 < 0))) && (y19 == 0) then r04_Cmp (q16 b) (q16 x) else some (0 : Int)).bind fun y20 =>
    bif (decide (y19 < 0)) || ((y19 == 0) && (decide (y20 > 0))) then r48_Near_j2 (q16 x) ((d + 1 : Nat) : Int) y16 y12 else r48_Near_j2 (q16 x) ((d + 1 : Nat) : Int) y16 (q16 b)) = _
  rw [mu, Option.bind_some, dv, Option.bind_some, Option.bind_some, lw1, Option.bind_some, ho, Option.bind_some, ad, Option.bind_some, Option.bind_some, lw2, Option.bind_some, gl, Option.bind_some, gb, Option.bind_some, cl, Option.bind_some, cb, j2 _ s1' l0, j2 _ h.sz h.lo.1]
  unfold docStep
  simp only
  obtain ⟨c, hcc⟩ : ∃ c, c = cmpP (gapP (lowP (x.1 * (d + 1) / x.2) (d + 1)) x) (gapP b x) := ⟨_, rfl⟩
  rw [← hcc]
  by_cases k1 : c < 0
  · rw [decide_eq_true k1, Bool.not_true, Bool.false_and, cond_false, Option.bind_some, Bool.true_or, cond_true, if_pos (c := c < 0 ∨ c = 0 ∧ cmpP b x > 0) (.inl k1)]
  · rw [decide_eq_false k1, Bool.not_false, Bool.true_and]
    by_cases k2 : c = 0
    · have e : (c == 0) = true := by rw [beq_iff_eq]; exact k2
      rw [e, cond_true, Option.bind_some, Bool.true_and, Bool.false_or]
      by_cases k3 : cmpP b x > 0
      · rw [decide_eq_true k3, cond_true, if_pos (c := c < 0 ∨ c = 0 ∧ cmpP b x > 0) (.inr ⟨k2, k3⟩)]
      · rw [decide_eq_false k3, cond_false, if_neg (c := c < 0 ∨ c = 0 ∧ cmpP b x > 0) (fun hh => hh.elim k1 fun hh => k3 hh.2)]
    · have e : (c == 0) = false := by rw [beq_eq_false_iff_ne]; exact k2
      rw [e, cond_false, Option.bind_some, Bool.false_and, Bool.or_self, cond_false, if_neg (c := c < 0 ∨ c = 0 ∧ cmpP b x > 0) (fun hh => hh.elim k1 fun hh => k2 hh.1)]

theorem r48_Near_tot {x : FP} {most : Nat} (hx : S16 8 x) (x0 : 0 < x.2) (h1 : 1 ≤ most) (hm : most ≤ 1048576) : Tot (r48_Near (q16 x) (most : Int)) (fun r => ∃ b, NearF x most b ∧ r = q16 b) := by
  have hx1 := hx.1
  have hx2 := hx.2
  have dv : r01_Div (d16 x.1) (d16 x.2) = some (d16 (x.1 / x.2), d16 (x.1 % x.2)) := r01_Div_eq (by omega) (by omega) x0
  have ho : r01_Of (1 : Int) = some (d16 1) := r01_Of_eq (n := 1) (by omega)
  unfold r48_Near
  rw [Tot.bnd_iff]
  show Tot ((r01_Div (d16 x.1) (d16 x.2)).bind fun y2 => (r01_Of (1 : Int)).bind fun y3 => bnd ((y2.1, y3)) fun x4 => loopM (fun z : D_r04_Q × Int => r48_Near_b1 (q16 x) (most : Int) z.1 z.2) (x4, (1 : Int))) _
  rw [dv, Option.bind_some, ho, Option.bind_some, Tot.bnd_iff]
  refine Tot.loop (fun z : D_r04_Q × Int => ∃ (d : Nat) (b : FP), z = (q16 b, ((d + 1 : Nat) : Int)) ∧ d ≤ most ∧ NearF x d b) (fun z => ((most : Int) + 1 - z.2).toNat) (fun z hz => ?_) ⟨0, (x.1 / x.2, 1), rfl, Nat.zero_le _, NearF.zero hx⟩
  obtain ⟨d, b, rfl, hdm, hf⟩ := hz
  rcases Nat.lt_or_ge d most with hlt | hge
  · show Tot (r48_Near_b1 (q16 x) (most : Int) (q16 b) ((d + 1 : Nat) : Int)) _
    rw [r48_Near_round hx x0 hlt hm hf]
    exact Tot.some_iff.2 (Nx.inl_iff.2 ⟨⟨d + 1, _, rfl, hlt, hf.step hx x0 (by omega)⟩, by simp only; omega⟩)
  · obtain rfl : d = most := by omega
    have hc : decide (((d + 1 : Nat) : Int) ≤ (d : Int)) = false := decide_eq_false (by omega)
    show Tot (r48_Near_b1 (q16 x) (d : Int) (q16 b) ((d + 1 : Nat) : Int)) _
    unfold r48_Near_b1
    rw [hc, cond_false]
    exact Tot.some_iff.2 (Nx.inr_iff.2 ⟨b, hf, rfl⟩)
end Go.Tom
