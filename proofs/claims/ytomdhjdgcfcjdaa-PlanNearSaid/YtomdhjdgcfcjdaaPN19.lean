/- Which fractions are right; wishes that are short. -/
import Derived.Test.YtomdhjdgcfcjdaaPN18
set_option linter.unusedVariables false
set_option linter.unusedSimpArgs false
namespace Go.Tom
open Go

/-- Its rows are digits. -/
def DgR (r : List Int × List Int) : Prop := Dg 4294967296 r.1 ∧ Dg 4294967296 r.2

theorem r04_In_q32 {p : FP} (h : S16 1000000 p) : r04_In (q32 p) = some (q16 p) := by
  have h1 := d32_le16 p.1
  have h2 := d32_le16 p.2
  have e1 : r03_In (d32 p.1) = some (d16 p.1) := by
    have := r03_In_eq (a := d32 p.1) (dg_Dg b32) (by have := h.1; omega)
    rwa [vl_dg b32, Int.toNat_natCast] at this
  have e2 : r03_In (d32 p.2) = some (d16 p.2) := by
    have := r03_In_eq (a := d32 p.2) (dg_Dg b32) (by have := h.2; omega)
    rwa [vl_dg b32, Int.toNat_natCast] at this
  rw [← Tot.eq_iff]
  unfold r04_In
  rw [Tot.bnd_iff]
  show Tot ((r03_In (d32 p.1)).bind fun y2 => (r03_In (d32 p.2)).bind fun y3 => bnd ((y2, y3)) fun x4 => some x4) _
  rw [e1, Option.bind_some, e2, Option.bind_some]
  exact Tot.some_iff.2 rfl

/-- A right fraction, short. -/
def RightP (r : List Int × List Int) (p : FP) : Prop := r = q32 p ∧ S16 8 p ∧ 0 < p.2 ∧ Nat.gcd p.1 p.2 = 1

theorem four {l : List Int} (h : Dg 4294967296 l) (hl : l.length ≤ 4) : (d16 (vl 4294967296 l).toNat).length ≤ 8 := by
  have hb := vl_bound h
  refine dg_len b16 ?_
  have : 4294967296 ^ l.length ≤ 4294967296 ^ 4 := Nat.pow_le_pow_right (by omega) hl
  omega

theorem r04_Right_tot {r : List Int × List Int} (h : DgR r) (h1 : r.1.length ≤ 4) (h2 : r.2.length ≤ 4) : Tot (r04_Right r) (fun b => b = true ↔ ∃ p, RightP r p) := by
  obtain ⟨n, d⟩ := r
  obtain ⟨g1, g2⟩ := h
  simp only at h1 h2 g1 g2
  obtain ⟨a, ha⟩ : ∃ a, a = (vl 4294967296 n).toNat := ⟨_, rfl⟩
  obtain ⟨b, hb⟩ : ∃ b, b = (vl 4294967296 d).toNat := ⟨_, rfl⟩
  have sa : (d16 a).length ≤ 8 := by rw [ha]; exact four g1 h1
  have sb : (d16 b).length ≤ 8 := by rw [hb]; exact four g2 h2
  have i1 : r03_In n = some (d16 a) := by rw [ha]; exact r03_In_eq g1 (by omega)
  have i2 : r03_In d = some (d16 b) := by rw [hb]; exact r03_In_eq g2 (by omega)
  have o1 : r03_Out (d16 a) = some (d32 a) := r03_Out_eq (by omega)
  have o2 : r03_Out (d16 b) = some (d32 b) := r03_Out_eq (by omega)
  have m1 : r03_Same n (d32 a) = some (decide (n = d32 a)) := r03_Same_eq n (d32 a) (by omega)
  have m2 : r03_Same d (d32 b) = some (decide (d = d32 b)) := r03_Same_eq d (d32 b) (by omega)
  have hgs := gcd_size sa sb
  have hg : r03_Gcd (d16 a) (d16 b) = some (d16 (Nat.gcd a b)) := r03_Gcd_eq (by omega) (by omega)
  have h1' : r01_Of (1 : Int) = some (d16 1) := r01_Of_eq (n := 1) (by omega)
  have hcm : r01_Cmp (d16 (Nat.gcd a b)) (d16 1) = some (cmpN (Nat.gcd a b) 1) := r01_Cmp_eq (by omega) (by have := d16_one; omega)
  have hin : r04_In (n, d) = some (d16 a, d16 b) := by
    rw [← Tot.eq_iff]
    unfold r04_In
    rw [Tot.bnd_iff]
    show Tot ((r03_In n).bind fun y2 => (r03_In d).bind fun y3 => bnd ((y2, y3)) fun x4 => some x4) _
    rw [i1, Option.bind_some, i2, Option.bind_some]
    exact Tot.some_iff.2 rfl
  -- the right ones, told plainly
  have hR : (∃ p, RightP (n, d) p) ↔ b ≠ 0 ∧ n = d32 a ∧ d = d32 b ∧ Nat.gcd a b = 1 := by
    constructor
    · rintro ⟨p, e, _, p0, pc⟩
      have e1 : n = d32 p.1 := congrArg Prod.fst e
      have e2 : d = d32 p.2 := congrArg Prod.snd e
      have ea : a = p.1 := by rw [ha, e1, vl_dg b32, Int.toNat_natCast]
      have eb : b = p.2 := by rw [hb, e2, vl_dg b32, Int.toNat_natCast]
      rw [ea, eb]
      exact ⟨by omega, e1, e2, pc⟩
    · rintro ⟨b0, e1, e2, hc⟩
      exact ⟨(a, b), by rw [q32, ← e1, ← e2], ⟨sa, sb⟩, Nat.pos_of_ne_zero b0, hc⟩
  have hb0 : (((d16 b).length : Int) == 0) = decide (b = 0) := by
    rw [Bool.eq_iff_iff, beq_iff_eq, decide_eq_true_iff]
    constructor
    · intro h; exact d16_nil (by omega)
    · intro h; rw [h, d16_zero]; rfl
  have hc0 : (cmpN (Nat.gcd a b) 1 == 0) = decide (Nat.gcd a b = 1) := by
    rw [Bool.eq_iff_iff, beq_iff_eq, decide_eq_true_iff]
    unfold cmpN
    split
    · omega
    · split <;> omega
  rw [hR]
  unfold r04_Right
  rw [hin, Option.bind_some]
  show Tot ((bif !(((d16 b).length : Int) == (0 : Int)) then r03_Out (d16 a) else some ([] : List Int)).bind fun y2 =>
    (bif !(((d16 b).length : Int) == (0 : Int)) then r03_Same n y2 else some false).bind fun y3 =>
    (bif !((((d16 b).length : Int) == (0 : Int)) || (!y3)) then r03_Out (d16 b) else some ([] : List Int)).bind fun y4 =>
    (bif !((((d16 b).length : Int) == (0 : Int)) || (!y3)) then r03_Same d y4 else some false).bind fun y5 =>
    bif ((((d16 b).length : Int) == (0 : Int)) || (!y3)) || (!y5) then some false
    else (r03_Gcd (d16 a) (d16 b)).bind fun y6 => (r01_Of (1 : Int)).bind fun y7 => (r01_Cmp y6 y7).bind fun y8 => bnd (y8 == (0 : Int)) fun x9 => some x9) _
  rw [hb0, o1, o2, hg, h1', Option.bind_some, Option.bind_some, hcm, Option.bind_some, hc0]
  by_cases k0 : b = 0
  · simp [k0, Tot.some_iff]
  · by_cases k1 : n = d32 a
    · by_cases k2 : d = d32 b
      · have z1 : decide (b = 0) = false := decide_eq_false k0
        have z2 : decide (n = d32 a) = true := decide_eq_true k1
        have z3 : decide (d = d32 b) = true := decide_eq_true k2
        rw [z1, Bool.not_false, cond_true, Option.bind_some, cond_true, m1, Option.bind_some, z2, Bool.not_true, Bool.or_self, Bool.not_false, cond_true, Option.bind_some, cond_true, m2, Option.bind_some, z3, Bool.not_true, Bool.or_self, cond_false]
        refine Tot.some_iff.2 ?_
        rw [decide_eq_true_iff]
        exact ⟨fun h => ⟨k0, k1, k2, h⟩, fun h => h.2.2.2⟩
      · have z1 : decide (b = 0) = false := decide_eq_false k0
        have z2 : decide (n = d32 a) = true := decide_eq_true k1
        have z3 : decide (d = d32 b) = false := decide_eq_false k2
        rw [z1, Bool.not_false, cond_true, Option.bind_some, cond_true, m1, Option.bind_some, z2, Bool.not_true, Bool.or_self, Bool.not_false, cond_true, Option.bind_some, cond_true, m2, Option.bind_some, z3, Bool.not_false, Bool.or_true, cond_true]
        refine Tot.some_iff.2 ?_
        exact ⟨fun h => absurd h (by simp), fun h => absurd h.2.2.1 k2⟩
    · have z1 : decide (b = 0) = false := decide_eq_false k0
      have z2 : decide (n = d32 a) = false := decide_eq_false k1
      rw [z1, Bool.not_false, cond_true, Option.bind_some, cond_true, m1, Option.bind_some, z2, Bool.not_false, Bool.or_true, Bool.not_true, cond_false, Option.bind_some, cond_false, Option.bind_some, Bool.true_or, cond_true]
      refine Tot.some_iff.2 ?_
      exact ⟨fun h => absurd h (by simp), fun h => absurd h.2.1 k1⟩
end Go.Tom
