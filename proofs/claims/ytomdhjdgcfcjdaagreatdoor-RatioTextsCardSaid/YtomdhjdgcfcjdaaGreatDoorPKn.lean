/- The guess of a digit of a quotient: never too small, and too great by one at most. -/
import Derived.Test.YtomdhjdgcfcjdaaGreatDoorPDig
set_option linter.unusedVariables false
set_option linter.unusedSimpArgs false
namespace Go.Tom
open Go

/-- The top digits, and what lies below them. -/
structure KnP (B M v1 v2 v3 u0 u1 u2 u3 : Int) : Prop where
  hB : 2 ≤ B
  hM : 0 < M
  v1l : B ≤ 2 * v1
  v1h : v1 < B
  v2l : 0 ≤ v2
  v2h : v2 < B
  v3l : 0 ≤ v3
  v3h : v3 < M
  u0l : 0 ≤ u0
  u1l : 0 ≤ u1
  u1h : u1 < B
  u2l : 0 ≤ u2
  u2h : u2 < B
  u3l : 0 ≤ u3
  u3h : u3 < M
  lt : ((u0 * B + u1) * B + u2) * M + u3 < B * ((v1 * B + v2) * M + v3)

section
variable {B M v1 v2 v3 u0 u1 u2 u3 q r : Int}

theorem KnP.u0le (h : KnP B M v1 v2 v3 u0 u1 u2 u3) : u0 ≤ v1 := by
  obtain ⟨hB, hM, v1l, v1h, v2l, v2h, v3l, v3h, u0l, u1l, u1h, u2l, u2h, u3l, u3h, lt⟩ := h
  rcases Int.lt_or_le v1 u0 with hc | hc
  · exfalso
    have e1 : (v1 + 1) * (B * B * M) ≤ u0 * (B * B * M) := Int.mul_le_mul_of_nonneg_right (by omega) (Int.mul_nonneg (Int.mul_nonneg (by omega) (by omega)) (by omega))
    have e2 : (v2 + 1) * (B * M) ≤ B * (B * M) := Int.mul_le_mul_of_nonneg_right (by omega) (Int.mul_nonneg (by omega) (by omega))
    have e3 : B * v3 ≤ B * M := Int.mul_le_mul_of_nonneg_left (by omega) (by omega)
    have e4 : 0 ≤ u1 * B * M := Int.mul_nonneg (Int.mul_nonneg u1l (by omega)) (by omega)
    have e5 : 0 ≤ u2 * M := Int.mul_nonneg u2l (by omega)
    grind
  · exact hc

/-- What is too great is seen. -/
theorem KnP.big (h : KnP B M v1 v2 v3 u0 u1 u2 u3) (hq : 0 ≤ q) (hi : q * v1 + r = u0 * B + u1) (ht : B ≤ q ∨ r * B + u2 < q * v2) : ((u0 * B + u1) * B + u2) * M + u3 < q * ((v1 * B + v2) * M + v3) := by
  obtain ⟨hB, hM, v1l, v1h, v2l, v2h, v3l, v3h, u0l, u1l, u1h, u2l, u2h, u3l, u3h, lt⟩ := h
  rcases ht with ht | ht
  · have hV : 0 ≤ (v1 * B + v2) * M + v3 := Int.add_nonneg (Int.mul_nonneg (Int.add_nonneg (Int.mul_nonneg (by omega) (by omega)) v2l) (by omega)) v3l
    exact Int.lt_of_lt_of_le lt (Int.mul_le_mul_of_nonneg_right ht hV)
  · have e1 : (r * B + u2 + 1) * M ≤ (q * v2) * M := Int.mul_le_mul_of_nonneg_right (by omega) (by omega)
    have e2 : 0 ≤ q * v3 := Int.mul_nonneg hq v3l
    have e3 : (u0 * B + u1) * (B * M) = (q * v1 + r) * (B * M) := by rw [hi]
    grind

/-- What is not seen to be too great is too great by one at most. -/
theorem KnP.near (h : KnP B M v1 v2 v3 u0 u1 u2 u3) (hq : 0 ≤ q) (hr : 0 ≤ r) (hi : q * v1 + r = u0 * B + u1) (ht : (q < B ∧ q * v2 ≤ r * B + u2) ∨ B ≤ r) :
    q < B ∧ (q - 1) * ((v1 * B + v2) * M + v3) ≤ ((u0 * B + u1) * B + u2) * M + u3 := by
  have hu := h.u0le
  obtain ⟨hB, hM, v1l, v1h, v2l, v2h, v3l, v3h, u0l, u1l, u1h, u2l, u2h, u3l, u3h, lt⟩ := h
  have hqB : q < B ∧ q * v2 ≤ r * B + u2 := by
    rcases ht with ht | ht
    · exact ht
    · have h1 : u0 * B ≤ v1 * B := Int.mul_le_mul_of_nonneg_right hu (by omega)
      have h2 : q < B := by
        rcases Int.lt_or_le q B with hc | hc
        · exact hc
        · exfalso
          have : B * v1 ≤ q * v1 := Int.mul_le_mul_of_nonneg_right hc (by omega)
          have := Int.mul_comm B v1
          omega
      refine ⟨h2, ?_⟩
      have h3 : q * v2 ≤ q * B := Int.mul_le_mul_of_nonneg_left (by omega) hq
      have h4 : q * B ≤ r * B := Int.mul_le_mul_of_nonneg_right (by omega) (by omega)
      omega
  refine ⟨hqB.1, ?_⟩
  have hU : 0 ≤ ((u0 * B + u1) * B + u2) * M + u3 := Int.add_nonneg (Int.mul_nonneg (Int.add_nonneg (Int.mul_nonneg (Int.add_nonneg (Int.mul_nonneg u0l (by omega)) u1l) (by omega)) u2l) (by omega)) u3l
  rcases Int.lt_or_le q 1 with hc | hc
  · obtain rfl : q = 0 := by omega
    have hV : 0 ≤ (v1 * B + v2) * M + v3 := Int.add_nonneg (Int.mul_nonneg (Int.add_nonneg (Int.mul_nonneg (by omega) (by omega)) v2l) (by omega)) v3l
    omega
  · have e1 : (q - 1) * v3 ≤ (q - 1) * M := Int.mul_le_mul_of_nonneg_left (by omega) (by omega)
    have e2 : (q * v2) * M ≤ (r * B + u2) * M := Int.mul_le_mul_of_nonneg_right hqB.2 (by omega)
    have e3 : (u0 * B + u1) * (B * M) = (q * v1 + r) * (B * M) := by rw [hi]
    have e4 : B * M ≤ v1 * B * M := by
      have : 1 * (B * M) ≤ v1 * (B * M) := Int.mul_le_mul_of_nonneg_right (by omega) (Int.mul_nonneg (by omega) (by omega))
      rw [Int.one_mul, ← Int.mul_assoc] at this
      exact this
    have e5 : q * M ≤ B * M := Int.mul_le_mul_of_nonneg_right (by omega) (by omega)
    have e6 : 0 ≤ v2 * M := Int.mul_nonneg v2l (by omega)
    grind
end
end Go.Tom
