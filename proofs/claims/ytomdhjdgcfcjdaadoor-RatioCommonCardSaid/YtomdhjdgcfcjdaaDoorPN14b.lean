/- Fractions: the document's difference and order. -/
import Derived.Test.YtomdhjdgcfcjdaaDoorPN14
set_option linter.unusedVariables false
set_option linter.unusedSimpArgs false
namespace Go.Tom
open Go
section
variable {p q : FP} {k : Nat} (hp : S16 k p) (hq : S16 k q) (hk : k ≤ 400000)
include hp hq hk

theorem r04_Sub_eq (hle : q.1 * p.2 ≤ p.1 * q.2) (h0 : 0 < Nat.gcd (p.1 * q.2 - q.1 * p.2) (p.2 * q.2)) : r04_Sub (q16 p) (q16 q) = some (q16 (subP p q)) := by
  obtain ⟨p1, p2⟩ := hp
  obtain ⟨q1, q2⟩ := hq
  have m1 := d16_mul p.1 q.2
  have m2 := d16_mul q.1 p.2
  have m3 := d16_mul p.2 q.2
  have m4 := d16_mono (x := p.1 * q.2 - q.1 * p.2) (y := p.1 * q.2) (Nat.sub_le ..)
  simp only [r04_Sub, q16, bnd, r01_Mul_eq (x := p.1) (y := q.2) (by omega) (by omega), r01_Mul_eq (x := q.1) (y := p.2) (by omega) (by omega), r01_Mul_eq (x := p.2) (y := q.2) (by omega) (by omega), Option.bind_some,
    r01_Sub_eq (x := p.1 * q.2) (y := q.1 * p.2) (by omega) hle, r04_Low_eq (a := p.1 * q.2 - q.1 * p.2) (b := p.2 * q.2) (by omega) (by omega) h0]
  rfl

theorem r04_Cmp_eq : r04_Cmp (q16 p) (q16 q) = some (cmpP p q) := by
  obtain ⟨p1, p2⟩ := hp
  obtain ⟨q1, q2⟩ := hq
  have m1 := d16_mul p.1 q.2
  have m2 := d16_mul q.1 p.2
  simp only [r04_Cmp, q16, r01_Mul_eq (x := p.1) (y := q.2) (by omega) (by omega), r01_Mul_eq (x := q.1) (y := p.2) (by omega) (by omega), Option.bind_some, r01_Cmp_eq (x := p.1 * q.2) (y := q.1 * p.2) (by omega) (by omega)]
  rfl
end
end Go.Tom
