/- Fractions as rational numbers. -/
import Derived.Test.YtomdhjdgcfcjdaaGreatDoorPN15
set_option linter.unusedVariables false
set_option linter.unusedSimpArgs false
namespace Go.Tom
open Go

/-- A fraction's value. -/
def rv (p : FP) : Rat := (p.1 : Rat) / (p.2 : Rat)
/-- In lowest terms, and its Den is not 0. -/
def Lo (p : FP) : Prop := 0 < p.2 ∧ Nat.gcd p.1 p.2 = 1

theorem ncast_pos {n : Nat} (h : 0 < n) : (0 : Rat) < (n : Rat) := by exact_mod_cast h
theorem ncast_ne {n : Nat} (h : 0 < n) : (n : Rat) ≠ 0 := by have := ncast_pos h; grind

theorem rv_eq {p : FP} {a b : Nat} (hp : 0 < p.2) (hb : 0 < b) (h : p.1 * b = a * p.2) : rv p = (a : Rat) / (b : Rat) := by
  have h1 : (p.1 : Rat) * (b : Rat) = (a : Rat) * (p.2 : Rat) := by exact_mod_cast h
  have := ncast_ne hp
  have := ncast_ne hb
  unfold rv
  grind
theorem rv_low {a b : Nat} (hb : 0 < b) : rv (lowP a b) = (a : Rat) / (b : Rat) := rv_eq (low_pos hb) hb low_val
theorem Lo_low {a b : Nat} (hb : 0 < b) : Lo (lowP a b) := ⟨low_pos hb, low_cop (Nat.gcd_pos_of_pos_right _ hb)⟩
theorem rv_inj {p q : FP} (hp : Lo p) (hq : Lo q) (h : rv p = rv q) : p = q := by
  have h1 := ncast_ne hp.1
  have h2 := ncast_ne hq.1
  have h3 : (p.1 : Rat) * (q.2 : Rat) = (q.1 : Rat) * (p.2 : Rat) := by unfold rv at h; grind
  have h4 : p.1 * q.2 = q.1 * p.2 := by exact_mod_cast h3
  have e1 : p = lowP q.1 q.2 := low_uniq hp.2 hq.1 h4
  have e2 : q = lowP q.1 q.2 := low_uniq hq.2 hq.1 rfl
  rw [e1]; exact e2.symm
theorem rv_add {p q : FP} (hp : 0 < p.2) (hq : 0 < q.2) : rv (addP p q) = rv p + rv q := by
  have h1 := ncast_ne hp
  have h2 := ncast_ne hq
  unfold addP
  rw [rv_low (Nat.mul_pos hp hq)]
  unfold rv
  push_cast
  grind
theorem rv_lt {p q : FP} (hp : 0 < p.2) (hq : 0 < q.2) : p.1 * q.2 < q.1 * p.2 ↔ rv p < rv q := by
  have h1 := ncast_pos hp
  have h2 := ncast_pos hq
  unfold rv
  rw [Rat.div_lt_iff h1]
  have e : (q.1 : Rat) / (q.2 : Rat) * (p.2 : Rat) = ((q.1 : Rat) * (p.2 : Rat)) / (q.2 : Rat) := by grind
  rw [e, Rat.lt_div_iff h2]
  exact_mod_cast Iff.rfl
theorem rv_le {p q : FP} (hp : 0 < p.2) (hq : 0 < q.2) : p.1 * q.2 ≤ q.1 * p.2 ↔ rv p ≤ rv q := by
  rw [← Nat.not_lt, rv_lt hq hp, Rat.not_lt]
theorem rv_cmp {p q : FP} (hp : 0 < p.2) (hq : 0 < q.2) : cmpP p q = if rv p < rv q then -1 else if rv q < rv p then 1 else 0 := by
  unfold cmpP cmpN
  have h1 := rv_lt hp hq
  have h2 := rv_lt hq hp
  by_cases k1 : p.1 * q.2 < q.1 * p.2
  · rw [if_pos k1, if_pos (h1.1 k1)]
  · rw [if_neg k1, if_neg fun h => k1 (h1.2 h)]
    by_cases k2 : q.1 * p.2 < p.1 * q.2
    · rw [if_pos k2, if_pos (h2.1 k2)]
    · rw [if_neg k2, if_neg fun h => k2 (h2.2 h)]
theorem rv_sub {p q : FP} (hp : 0 < p.2) (hq : 0 < q.2) (h : rv q ≤ rv p) : rv (subP p q) = rv p - rv q := by
  have h1 := ncast_pos hp
  have h2 := ncast_pos hq
  have h3 : q.1 * p.2 ≤ p.1 * q.2 := by exact (rv_le hq hp).2 h
  unfold subP
  rw [rv_low (Nat.mul_pos hp hq)]
  obtain ⟨d, hd⟩ := Nat.exists_eq_add_of_le h3
  have e : p.1 * q.2 - q.1 * p.2 = d := by omega
  have hd' : (p.1 : Rat) * (q.2 : Rat) = (q.1 : Rat) * (p.2 : Rat) + (d : Rat) := by exact_mod_cast hd
  rw [e]
  unfold rv
  push_cast
  grind
theorem rv_mul {p q : FP} (hp : 0 < p.2) (hq : 0 < q.2) : rv (mulP p q) = rv p * rv q := by
  have h1 := ncast_ne hp
  have h2 := ncast_ne hq
  unfold mulP
  rw [rv_low (Nat.mul_pos hp hq)]
  unfold rv
  push_cast
  grind
theorem rv_div {p q : FP} (hp : 0 < p.2) (hq : 0 < q.1) (hq2 : 0 < q.2) : rv (divP p q) = rv p / rv q := by
  have h1 := ncast_ne hp
  have h2 := ncast_ne hq
  have h3 := ncast_ne hq2
  unfold divP
  rw [rv_low (Nat.mul_pos hp hq)]
  unfold rv
  push_cast
  grind
end Go.Tom
