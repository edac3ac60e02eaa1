/- Fractions: the document's and the program's, as pairs of numbers. -/
import Derived.Test.YtomdhjdgcfcjdaaGreatDoorPN13
set_option linter.unusedVariables false
set_option linter.unusedSimpArgs false
namespace Go.Tom
open Go

abbrev FP := Nat × Nat
def q16 (p : FP) : List Int × List Int := (d16 p.1, d16 p.2)
def q32 (p : FP) : List Int × List Int := (d32 p.1, d32 p.2)

/-- In lowest terms. -/
def lowP (a b : Nat) : FP := (a / Nat.gcd a b, b / Nat.gcd a b)
def addP (p q : FP) : FP := lowP (p.1 * q.2 + q.1 * p.2) (p.2 * q.2)
def subP (p q : FP) : FP := lowP (p.1 * q.2 - q.1 * p.2) (p.2 * q.2)
def mulP (p q : FP) : FP := lowP (p.1 * q.1) (p.2 * q.2)
def divP (p q : FP) : FP := lowP (p.1 * q.2) (p.2 * q.1)
def cmpP (p q : FP) : Int := cmpN (p.1 * q.2) (q.1 * p.2)

/-- Not too many digits. -/
def S16 (k : Nat) (p : FP) : Prop := (d16 p.1).length ≤ k ∧ (d16 p.2).length ≤ k

theorem d32_le16 (x : Nat) : (d32 x).length ≤ (d16 x).length := d32_len x

theorem low_size {a b k : Nat} (ha : (d16 a).length ≤ k) (hb : (d16 b).length ≤ k) : S16 k (lowP a b) :=
  ⟨Nat.le_trans (d16_mono (Nat.div_le_self ..)) ha, Nat.le_trans (d16_mono (Nat.div_le_self ..)) hb⟩

theorem gcd_size {a b k : Nat} (ha : (d16 a).length ≤ k) (hb : (d16 b).length ≤ k) : (d16 (Nat.gcd a b)).length ≤ k := by
  rcases Nat.eq_zero_or_pos b with h | h
  · rw [h, Nat.gcd_zero_right]; exact ha
  · exact Nat.le_trans (d16_mono (Nat.gcd_le_right a h)) hb

section
variable {p q : FP} {k : Nat} (hp : S16 k p) (hq : S16 k q) (hk : k ≤ 400000)
include hp hq hk

omit hp hq in
theorem ratio_Make_eq {a b : Nat} (ha : (d16 a).length ≤ 2 * k + 1) (hb : (d16 b).length ≤ 2 * k + 1) (h0 : 0 < b) : ratio_Make (d32 a) (d32 b) = some (q32 (lowP a b), true) := by
  have l1 := d32_le16 a
  have l2 := d32_le16 b
  have hg0 : 0 < Nat.gcd a b := Nat.gcd_pos_of_pos_right _ h0
  have hgl : (d32 (Nat.gcd a b)).length ≤ (d32 b).length := d32_mono (Nat.gcd_le_right a h0)
  have hb0 : 0 < b / Nat.gcd a b := Nat.div_pos (Nat.gcd_le_right a h0) hg0
  have hn : ((d32 (b / Nat.gcd a b)).length : Int) ≠ 0 := fun hc => by
    have := d32_nil (x := b / Nat.gcd a b) (by omega)
    omega
  have e : (((d32 (b / Nat.gcd a b)).length : Int) == 0) = false := by simpa using hn
  simp only [ratio_Make, bnd, nat_Gcd_eq (x := a) (y := b) (by omega) (by omega), nat_Div_eq (x := a) (y := Nat.gcd a b) (by omega) (by omega) hg0, nat_Div_eq (x := b) (y := Nat.gcd a b) (by omega) (by omega) hg0, Option.bind_some, e, Bool.not_true, Bool.or_self, cond_false]
  rfl

theorem ratio_plus_eq (hp0 : 0 < p.2) (hq0 : 0 < q.2) : ratio_plus (q32 p) (q32 q) = some (q32 (addP p q)) := by
  have hpk := hp
  have hqk := hq
  obtain ⟨p1, p2⟩ := hp
  obtain ⟨q1, q2⟩ := hq
  have m1 := d16_mul p.1 q.2
  have m2 := d16_mul q.1 p.2
  have m3 := d16_mul p.2 q.2
  have m4 := d16_add (p.1 * q.2) (q.1 * p.2)
  have a1 := d32_le16 p.1
  have a2 := d32_le16 p.2
  have a3 := d32_le16 q.1
  have a4 := d32_le16 q.2
  have b1 := d32_le16 (p.1 * q.2)
  have b2 := d32_le16 (q.1 * p.2)
  simp only [ratio_plus, q32, bnd, nat_Mul_two (x := p.1) (y := q.2) (by omega) (by omega), nat_Mul_two (x := q.1) (y := p.2) (by omega) (by omega), nat_Mul_two (x := p.2) (y := q.2) (by omega) (by omega), Option.bind_some,
    nat_Add_two (x := p.1 * q.2) (y := q.1 * p.2) (by omega) (by omega), ratio_Make_eq hk (a := p.1 * q.2 + q.1 * p.2) (b := p.2 * q.2) (by omega) (by omega) (Nat.mul_pos hp0 hq0)]
  rfl

end
end Go.Tom
