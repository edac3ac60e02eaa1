/- Chapter 48: steps towards a fraction. -/
import Derived.Test.YtomdhjdgcfcjdaaPN20
set_option linter.unusedVariables false
set_option linter.unusedSimpArgs false
namespace Go.Tom
open Go

theorem ratio_Cmp_eq {p q : FP} {k : Nat} (hp : S16 k p) (hq : S16 k q) (hk : k ≤ 400000) : ratio_Cmp (q32 p) (q32 q) = some (cmpP p q) := by
  obtain ⟨p1, p2⟩ := hp
  obtain ⟨q1, q2⟩ := hq
  have a1 := d32_le16 p.1
  have a2 := d32_le16 p.2
  have a3 := d32_le16 q.1
  have a4 := d32_le16 q.2
  have m1 := d32_mul p.1 q.2
  have m2 := d32_mul q.1 p.2
  rw [← Tot.eq_iff]
  unfold ratio_Cmp
  show Tot ((nat_Mul [d32 p.1, d32 q.2]).bind fun y1 => (nat_Mul [d32 q.1, d32 p.2]).bind fun y2 => (nat_Cmp y1 y2).bind fun y3 => some y3) _
  rw [nat_Mul_two (by omega) (by omega), Option.bind_some, nat_Mul_two (by omega) (by omega), Option.bind_some, nat_Cmp_eq (by omega) (by omega), Option.bind_some]
  exact Tot.some_iff.2 rfl

/-- A fraction, and so often another one laid to it. -/
def addN (p q : FP) (n : Nat) : FP := (p.1 + n * q.1, p.2 + n * q.2)

/-- One round of the search. -/
def stepB (p q x : FP) (most : Nat) (up : Bool) (lo hi : Nat) : Nat × Nat :=
  let n := lo + (hi - lo + 1) / 2
  if (decide ((addN p q n).2 ≤ most) && ((up && decide (cmpP (addN p q n) x ≤ 0)) || (!up && decide (cmpP (addN p q n) x ≥ 0)))) = true then (n, hi) else (lo, n - 1)

theorem addN_size {p q : FP} {n k : Nat} (hp : S16 k p) (hq : S16 k q) (hn : n ≤ 1048576) : S16 (k + 3) (addN p q n) := by
  have hn16 : (d16 n).length ≤ 2 := dg_len b16 (by omega)
  obtain ⟨p1, p2⟩ := hp
  obtain ⟨q1, q2⟩ := hq
  have m1 := d16_mul n q.1
  have m2 := d16_mul n q.2
  have s1 := d16_add p.1 (n * q.1)
  have s2 := d16_add p.2 (n * q.2)
  exact ⟨by show (d16 (p.1 + n * q.1)).length ≤ _; omega, by show (d16 (p.2 + n * q.2)).length ≤ _; omega⟩

theorem plan_steps_b1_eq {p q x : FP} {k most lo hi : Nat} {up : Bool} (hp : S16 k p) (hq : S16 k q) (hx : S16 k x) (hk : k ≤ 1000) (hm : most ≤ 1048576) (hlh : lo < hi) (hhi : hi ≤ 1048576) :
    plan_steps_b1 (q32 p) (q32 q) (q32 x) (most : Int) up (lo : Int) (hi : Int) = some (.inl (((stepB p q x most up lo hi).1 : Int), ((stepB p q x most up lo hi).2 : Int))) := by
  obtain ⟨n, hn⟩ : ∃ n, n = lo + (hi - lo + 1) / 2 := ⟨_, rfl⟩
  have hn1 : n ≤ 1048576 := by omega
  have hn0 : 1 ≤ n := by omega
  have x1 : IntKind.u64.wrap ((hi : Int) - (lo : Int)) = ((hi - lo : Nat) : Int) := by rw [u64i (by omega) (by omega)]; omega
  have x2 : IntKind.u64.wrap (((hi - lo : Nat) : Int) + 1) = ((hi - lo + 1 : Nat) : Int) := by rw [u64i (by omega) (by omega)]; omega
  obtain ⟨t1, _⟩ := tdivmod (a := ((hi - lo + 1 : Nat) : Int)) (b := 2) (by omega)
  have x3 : IntKind.u64.wrap (((hi - lo + 1 : Nat) : Int) / 2) = (((hi - lo + 1) / 2 : Nat) : Int) := by rw [u64i (by omega) (by omega)]; omega
  have x4 : IntKind.u64.wrap ((lo : Int) + (((hi - lo + 1) / 2 : Nat) : Int)) = (n : Int) := by rw [u64i (by omega) (by omega)]; omega
  have x5 : IntKind.u64.wrap ((n : Int) - 1) = ((n - 1 : Nat) : Int) := by rw [u64i (by omega) (by omega)]; omega
  have hsz := addN_size hp hq hn1
  have hn32 : (d32 n).length ≤ 1 := dg_len b32 (by omega)
  have hm32 : (d32 most).length ≤ 1 := dg_len b32 (by omega)
  obtain ⟨p1, p2⟩ := id hp
  obtain ⟨q1, q2⟩ := id hq
  have a1 := d32_le16 p.1
  have a2 := d32_le16 p.2
  have a3 := d32_le16 q.1
  have a4 := d32_le16 q.2
  have m1 := d32_mul n q.1
  have m2 := d32_mul n q.2
  have hz2 := hsz.2
  have a5 := d32_le16 (addN p q n).2
  have hcmp := ratio_Cmp_eq (hsz.mono (show k + 3 ≤ 400000 by omega)) (hx.mono (show k ≤ 400000 by omega)) (by omega)
  have hc : decide ((lo : Int) < (hi : Int)) = true := decide_eq_true (by omega)
  rw [← Tot.eq_iff]
  unfold plan_steps_b1
  rw [hc, cond_true]
  refine Tot.ass_iff.2 ⟨by omega, ?_⟩
  rw [Tot.bnd_iff, x1, x2, t1, x3, x4, nat_Of_eq (by omega), Option.bind_some]
  show Tot ((nat_Mul [d32 n, d32 q.1]).bind fun y6 => (nat_Add [d32 p.1, y6]).bind fun y7 => (nat_Mul [d32 n, d32 q.2]).bind fun y8 => (nat_Add [d32 p.2, y8]).bind fun y9 => bnd ((y7, y9)) fun x10 =>
    (ratio_Cmp x10 (q32 x)).bind fun y11 => (nat_Of (most : Int)).bind fun y12 => (nat_Cmp x10.2 y12).bind fun y13 =>
    bif (decide (y13 ≤ (0 : Int))) && ((up && (decide (y11 ≤ (0 : Int)))) || ((!up) && (decide (y11 ≥ (0 : Int))))) then some (Sum.inl ((n : Int), (hi : Int)))
    else bnd (IntKind.u64.wrap ((n : Int) - (1 : Int))) fun x14 => some (Sum.inl ((lo : Int), x14))) _
  rw [nat_Mul_two (by omega) (by omega), Option.bind_some, nat_Add_two (by omega) (by omega), Option.bind_some, nat_Mul_two (by omega) (by omega), Option.bind_some, nat_Add_two (by omega) (by omega), Option.bind_some, Tot.bnd_iff]
  show Tot ((ratio_Cmp (q32 (addN p q n)) (q32 x)).bind fun y11 => (nat_Of (most : Int)).bind fun y12 => (nat_Cmp (d32 (addN p q n).2) y12).bind fun y13 =>
    bif (decide (y13 ≤ (0 : Int))) && ((up && (decide (y11 ≤ (0 : Int)))) || ((!up) && (decide (y11 ≥ (0 : Int))))) then some (Sum.inl ((n : Int), (hi : Int)))
    else bnd (IntKind.u64.wrap ((n : Int) - (1 : Int))) fun x14 => some (Sum.inl ((lo : Int), x14))) _
  rw [hcmp, Option.bind_some, nat_Of_eq (by omega), Option.bind_some, nat_Cmp_eq (by omega) (by omega), Option.bind_some]
  have hle : decide (cmpN (addN p q n).2 most ≤ 0) = decide ((addN p q n).2 ≤ most) := by
    rw [Bool.eq_iff_iff, decide_eq_true_iff, decide_eq_true_iff]
    unfold cmpN
    split
    · omega
    · split <;> omega
  rw [hle]
  unfold stepB
  simp only [← hn]
  generalize (decide ((addN p q n).2 ≤ most) && ((up && decide (cmpP (addN p q n) x ≤ 0)) || (!up && decide (cmpP (addN p q n) x ≥ 0)))) = c
  cases c with
  | true =>
    rw [cond_true]
    exact Tot.some_iff.2 rfl
  | false =>
    rw [cond_false, Tot.bnd_iff, x5]
    exact Tot.some_iff.2 rfl
end Go.Tom
