/- Fractions: the document's and the program's, as pairs of numbers. -/
import Derived.Test.YtomdhjdgcfcjdaaDoorPN13
set_option linter.unusedVariables false
set_option linter.unusedSimpArgs false
namespace Go.Tom
open Go

abbrev FP := Nat × Nat
def q16 (p : FP) : List Int × List Int := (d16 p.1, d16 p.2)
def q32 (p : FP) : List Int × List Int := (d32 p.1, d32 p.2)

/-- In lowest terms. -/
def lowP (a b : Nat) : FP := (a / Nat.gcd a b, b / Nat.gcd a b)
def addP (p q : FP) : FP := lowP (p.1 * q.2 + q.1 * p.2) (p.2 * q.2)
def subP (p q : FP) : FP := lowP (p.1 * q.2 - q.1 * p.2) (p.2 * q.2)
def mulP (p q : FP) : FP := lowP (p.1 * q.1) (p.2 * q.2)
def divP (p q : FP) : FP := lowP (p.1 * q.2) (p.2 * q.1)
def cmpP (p q : FP) : Int := cmpN (p.1 * q.2) (q.1 * p.2)

/-- Not too many digits. -/
def S16 (k : Nat) (p : FP) : Prop := (d16 p.1).length ≤ k ∧ (d16 p.2).length ≤ k

theorem d32_le16 (x : Nat) : (d32 x).length ≤ (d16 x).length := d32_len x

theorem low_size {a b k : Nat} (ha : (d16 a).length ≤ k) (hb : (d16 b).length ≤ k) : S16 k (lowP a b) :=
  ⟨Nat.le_trans (d16_mono (Nat.div_le_self ..)) ha, Nat.le_trans (d16_mono (Nat.div_le_self ..)) hb⟩

theorem gcd_size {a b k : Nat} (ha : (d16 a).length ≤ k) (hb : (d16 b).length ≤ k) : (d16 (Nat.gcd a b)).length ≤ k := by
  rcases Nat.eq_zero_or_pos b with h | h
  · rw [h, Nat.gcd_zero_right]; exact ha
  · exact Nat.le_trans (d16_mono (Nat.gcd_le_right a h)) hb

theorem r04_Low_eq {a b : Nat} (ha : (d16 a).length ≤ 2000000) (hb : (d16 b).length ≤ 2000000) (h0 : 0 < Nat.gcd a b) : r04_Low (d16 a, d16 b) = some (q16 (lowP a b)) := by
  have hg := gcd_size ha hb
  simp only [r04_Low, bnd, r03_Gcd_eq ha hb, Option.bind_some, r01_Div_eq ha hg h0, r01_Div_eq hb hg h0]
  rfl

theorem r04_Of_eq {a b : Nat} (ha : a ≤ 18446744073709551615) (hb : b ≤ 18446744073709551615) (h0 : 0 < Nat.gcd a b) : r04_Of (a : Int) (b : Int) = some (q16 (lowP a b)) := by
  have h1 : (d16 a).length ≤ 4 := dg_len b16 (by omega)
  have h2 : (d16 b).length ≤ 4 := dg_len b16 (by omega)
  simp only [r04_Of, bnd, r01_Of_eq ha, r01_Of_eq hb, Option.bind_some, r04_Low_eq (a := a) (b := b) (by omega) (by omega) h0]

theorem r04_Int_eq {a : Nat} (ha : a ≤ 18446744073709551615) : r04_Int (a : Int) = some (q16 (a, 1)) := by
  have h1 : r01_Of (1 : Int) = some (d16 1) := r01_Of_eq (n := 1) (by omega)
  simp only [r04_Int, bnd, r01_Of_eq ha, h1, Option.bind_some]
  rfl

theorem r04_Zero_eq (p : FP) : r04_Zero (q16 p) = some (decide (p.1 = 0)) := by
  simp only [r04_Zero, bnd, q16]
  congr 1
  rw [Bool.eq_iff_iff]
  simp only [beq_iff_eq, decide_eq_true_eq]
  constructor
  · intro h; exact d16_nil (by omega)
  · intro h; rw [h, d16_zero]; rfl

section
variable {p q : FP} {k : Nat} (hp : S16 k p) (hq : S16 k q) (hk : k ≤ 400000)
include hp hq hk

theorem r04_Add_eq (h0 : 0 < Nat.gcd (p.1 * q.2 + q.1 * p.2) (p.2 * q.2)) : r04_Add (q16 p) (q16 q) = some (q16 (addP p q)) := by
  obtain ⟨p1, p2⟩ := hp
  obtain ⟨q1, q2⟩ := hq
  have m1 := d16_mul p.1 q.2
  have m2 := d16_mul q.1 p.2
  have m3 := d16_mul p.2 q.2
  have m4 := d16_add (p.1 * q.2) (q.1 * p.2)
  simp only [r04_Add, q16, bnd, r01_Mul_eq (x := p.1) (y := q.2) (by omega) (by omega), r01_Mul_eq (x := q.1) (y := p.2) (by omega) (by omega), r01_Mul_eq (x := p.2) (y := q.2) (by omega) (by omega), Option.bind_some,
    r01_Add_eq (x := p.1 * q.2) (y := q.1 * p.2) (by omega) (by omega), r04_Low_eq (a := p.1 * q.2 + q.1 * p.2) (b := p.2 * q.2) (by omega) (by omega) h0]
  rfl

theorem r04_Div_eq (h0 : 0 < Nat.gcd (p.1 * q.2) (p.2 * q.1)) : r04_Div (q16 p) (q16 q) = some (q16 (divP p q)) := by
  obtain ⟨p1, p2⟩ := hp
  obtain ⟨q1, q2⟩ := hq
  have m1 := d16_mul p.1 q.2
  have m2 := d16_mul p.2 q.1
  simp only [r04_Div, q16, bnd, r01_Mul_eq (x := p.1) (y := q.2) (by omega) (by omega), r01_Mul_eq (x := p.2) (y := q.1) (by omega) (by omega), Option.bind_some,
    r04_Low_eq (a := p.1 * q.2) (b := p.2 * q.1) (by omega) (by omega) h0]
  rfl

omit hp hq in
theorem ratio_Make_eq {a b : Nat} (ha : (d16 a).length ≤ 2 * k + 1) (hb : (d16 b).length ≤ 2 * k + 1) (h0 : 0 < b) : ratio_Make (d32 a) (d32 b) = some (q32 (lowP a b), true) := by
  have l1 := d32_le16 a
  have l2 := d32_le16 b
  have hg0 : 0 < Nat.gcd a b := Nat.gcd_pos_of_pos_right _ h0
  have hgl : (d32 (Nat.gcd a b)).length ≤ (d32 b).length := d32_mono (Nat.gcd_le_right a h0)
  have hb0 : 0 < b / Nat.gcd a b := Nat.div_pos (Nat.gcd_le_right a h0) hg0
  have hn : ((d32 (b / Nat.gcd a b)).length : Int) ≠ 0 := fun hc => by
    have := d32_nil (x := b / Nat.gcd a b) (by omega)
    omega
  have e : (((d32 (b / Nat.gcd a b)).length : Int) == 0) = false := by simpa using hn
  simp only [ratio_Make, bnd, nat_Gcd_eq (x := a) (y := b) (by omega) (by omega), nat_Div_eq (x := a) (y := Nat.gcd a b) (by omega) (by omega) hg0, nat_Div_eq (x := b) (y := Nat.gcd a b) (by omega) (by omega) hg0, Option.bind_some, e, Bool.not_true, Bool.or_self, cond_false]
  rfl

theorem ratio_plus_eq (hp0 : 0 < p.2) (hq0 : 0 < q.2) : ratio_plus (q32 p) (q32 q) = some (q32 (addP p q)) := by
  have hpk := hp
  have hqk := hq
  obtain ⟨p1, p2⟩ := hp
  obtain ⟨q1, q2⟩ := hq
  have m1 := d16_mul p.1 q.2
  have m2 := d16_mul q.1 p.2
  have m3 := d16_mul p.2 q.2
  have m4 := d16_add (p.1 * q.2) (q.1 * p.2)
  have a1 := d32_le16 p.1
  have a2 := d32_le16 p.2
  have a3 := d32_le16 q.1
  have a4 := d32_le16 q.2
  have b1 := d32_le16 (p.1 * q.2)
  have b2 := d32_le16 (q.1 * p.2)
  simp only [ratio_plus, q32, bnd, nat_Mul_two (x := p.1) (y := q.2) (by omega) (by omega), nat_Mul_two (x := q.1) (y := p.2) (by omega) (by omega), nat_Mul_two (x := p.2) (y := q.2) (by omega) (by omega), Option.bind_some,
    nat_Add_two (x := p.1 * q.2) (y := q.1 * p.2) (by omega) (by omega), ratio_Make_eq hk (a := p.1 * q.2 + q.1 * p.2) (b := p.2 * q.2) (by omega) (by omega) (Nat.mul_pos hp0 hq0)]
  rfl

theorem ratio_Sub_eq (hp0 : 0 < p.2) (hq0 : 0 < q.2) : ratio_Sub (q32 p) (q32 q) = some (if p.1 * q.2 < q.1 * p.2 then (([], []), false) else (q32 (subP p q), true)) := by
  have hpk := hp
  have hqk := hq
  obtain ⟨p1, p2⟩ := hp
  obtain ⟨q1, q2⟩ := hq
  have m1 := d16_mul p.1 q.2
  have m2 := d16_mul q.1 p.2
  have m3 := d16_mul p.2 q.2
  have m4 := d16_mono (x := p.1 * q.2 - q.1 * p.2) (y := p.1 * q.2) (Nat.sub_le ..)
  have a1 := d32_le16 p.1
  have a2 := d32_le16 p.2
  have a3 := d32_le16 q.1
  have a4 := d32_le16 q.2
  have b1 := d32_le16 (p.1 * q.2)
  have b2 := d32_le16 (q.1 * p.2)
  simp only [ratio_Sub, q32, bnd, nat_Mul_two (x := p.1) (y := q.2) (by omega) (by omega), nat_Mul_two (x := q.1) (y := p.2) (by omega) (by omega), nat_Sub_eq (x := p.1 * q.2) (y := q.1 * p.2) (by omega) (by omega), Option.bind_some]
  by_cases h : p.1 * q.2 < q.1 * p.2
  · simp only [if_pos h, Bool.not_false, cond_true]
  · simp only [if_neg h, Bool.not_true, cond_false, nat_Mul_two (x := p.2) (y := q.2) (by omega) (by omega), Option.bind_some, ratio_Make_eq hk (a := p.1 * q.2 - q.1 * p.2) (b := p.2 * q.2) (by omega) (by omega) (Nat.mul_pos hp0 hq0)]
    rfl

theorem ratio_Div_eq (hp0 : 0 < p.2) (hq0 : 0 < q.1) : ratio_Div (q32 p) (q32 q) = some (q32 (divP p q), true) := by
  have hpk := hp
  have hqk := hq
  obtain ⟨p1, p2⟩ := hp
  obtain ⟨q1, q2⟩ := hq
  have m1 := d16_mul p.1 q.2
  have m2 := d16_mul p.2 q.1
  have a1 := d32_le16 p.1
  have a2 := d32_le16 p.2
  have a3 := d32_le16 q.1
  have a4 := d32_le16 q.2
  simp only [ratio_Div, q32, bnd, nat_Mul_two (x := p.1) (y := q.2) (by omega) (by omega), nat_Mul_two (x := p.2) (y := q.1) (by omega) (by omega), Option.bind_some, ratio_Make_eq hk (a := p.1 * q.2) (b := p.2 * q.1) (by omega) (by omega) (Nat.mul_pos hp0 hq0)]
  rfl
end
end Go.Tom
