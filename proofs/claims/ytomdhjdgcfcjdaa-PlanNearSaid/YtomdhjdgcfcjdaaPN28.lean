/- Chapter 48: the walk towards the nearest fraction. -/
import Derived.Test.YtomdhjdgcfcjdaaPN27
set_option linter.unusedVariables false
set_option linter.unusedSimpArgs false
namespace Go.Tom
open Go

/-- How far two are apart. -/
def gapP (p q : FP) : FP := if p.1 * q.2 < q.1 * p.2 then subP q p else subP p q

theorem plan_gap_eq {p q : FP} {k : Nat} (hp : S16 k p) (hq : S16 k q) (hk : k ≤ 400000) (hp0 : 0 < p.2) (hq0 : 0 < q.2) : plan_gap (q32 p) (q32 q) = some (q32 (gapP p q)) := by
  rw [← Tot.eq_iff]
  unfold plan_gap
  rw [Tot.bnd_iff, ratio_Sub_eq hp hq hk hp0 hq0, Option.bind_some]
  unfold gapP
  by_cases h : p.1 * q.2 < q.1 * p.2
  · rw [if_pos h, if_pos h]
    show Tot ((ratio_Sub (q32 q) (q32 p)).bind fun y3 => some y3.1) _
    rw [ratio_Sub_eq hq hp hk hq0 hp0, if_neg (by omega), Option.bind_some]
    exact Tot.some_iff.2 rfl
  · rw [if_neg h, if_neg h]
    exact Tot.some_iff.2 rfl

theorem gap_size {p q : FP} {k m : Nat} (hp : S16 k p) (hq : S16 m q) : S16 (k + m) (gapP p q) := by
  obtain ⟨p1, p2⟩ := hp
  obtain ⟨q1, q2⟩ := hq
  have m1 := d16_mul p.1 q.2
  have m2 := d16_mul q.1 p.2
  have m3 := d16_mul p.2 q.2
  have m5 := d16_mul q.2 p.2
  have m4 := d16_mono (x := p.1 * q.2 - q.1 * p.2) (y := p.1 * q.2) (Nat.sub_le ..)
  have m6 := d16_mono (x := q.1 * p.2 - p.1 * q.2) (y := q.1 * p.2) (Nat.sub_le ..)
  unfold gapP
  split
  · exact low_size (by omega) (by omega)
  · exact low_size (by omega) (by omega)

/-- Neighbours on both sides of x. -/
structure NB (x : FP) (most : Nat) (l h : FP) : Prop where
  l0 : 0 < l.2
  h0 : 0 < h.2
  lm : l.2 ≤ most
  hm : h.2 ≤ most
  det : h.1 * l.2 = l.1 * h.2 + 1
  lo : l.1 * x.2 ≤ x.1 * l.2
  hi : x.1 * h.2 ≤ h.1 * x.2

theorem len_pow {x k : Nat} (h : (d16 x).length ≤ k) : x < 65536 ^ k := by
  rcases Nat.lt_or_ge x (65536 ^ k) with hc | hc
  · exact hc
  · exfalso
    have h2 := vl_bound (dg_Dg b16 (n := x))
    rw [vl_dg b16] at h2
    have : (65536 : Nat) ^ (dg 65536 x).length ≤ 65536 ^ k := Nat.pow_le_pow_right (by omega) h
    have h3 : (65536 : Nat) ^ k ≤ x := hc
    omega

theorem NB.size {x : FP} {most : Nat} {l h : FP} (n : NB x most l h) (hm : most ≤ 1048576) (hx : S16 8 x) (x0 : 0 < x.2) : S16 16 l ∧ S16 16 h := by
  have b1 := len_pow hx.1
  have b2 := len_pow hx.2
  have l1 : l.1 ≤ x.1 * l.2 := Nat.le_trans (Nat.le_mul_of_pos_right _ x0) n.lo
  have l2 : x.1 * l.2 ≤ x.1 * 1048576 := Nat.mul_le_mul_left _ (Nat.le_trans n.lm hm)
  have h1 : h.1 ≤ l.1 * h.2 + 1 := by rw [← n.det]; exact Nat.le_mul_of_pos_right _ n.l0
  have h2 : l.1 * h.2 ≤ l.1 * 1048576 := Nat.mul_le_mul_left _ (Nat.le_trans n.hm hm)
  have := n.lm
  have := n.hm
  exact ⟨⟨dg_len b16 (by omega), dg_len b16 (by omega)⟩, ⟨dg_len b16 (by omega), dg_len b16 (by omega)⟩⟩

theorem cmp_le {p q : FP} : cmpP p q ≤ 0 ↔ p.1 * q.2 ≤ q.1 * p.2 := by
  unfold cmpP cmpN
  split
  · omega
  · split <;> omega
theorem cmp_ge {p q : FP} : cmpP p q ≥ 0 ↔ q.1 * p.2 ≤ p.1 * q.2 := by
  unfold cmpP cmpN
  split
  · omega
  · split <;> omega

theorem stepUp {p q x : FP} {most n : Nat} : stepOk p q x most true n = true ↔ p.2 + n * q.2 ≤ most ∧ (p.1 + n * q.1) * x.2 ≤ x.1 * (p.2 + n * q.2) := by
  unfold stepOk
  rw [Bool.and_eq_true, decide_eq_true_iff, Bool.not_true, Bool.false_and, Bool.or_false, Bool.true_and, decide_eq_true_iff, cmp_le]
  rfl
theorem stepDown {p q x : FP} {most n : Nat} : stepOk p q x most false n = true ↔ p.2 + n * q.2 ≤ most ∧ x.1 * (p.2 + n * q.2) ≤ (p.1 + n * q.1) * x.2 := by
  unfold stepOk
  rw [Bool.and_eq_true, decide_eq_true_iff, Bool.not_false, Bool.false_and, Bool.false_or, Bool.true_and, decide_eq_true_iff, cmp_ge]
  rfl

theorem up_mono {l h x : FP} {most : Nat} (hi : x.1 * h.2 ≤ h.1 * x.2) (n : Nat) (hs : stepOk l h x most true (n + 1) = true) : stepOk l h x most true n = true := by
  rw [stepUp] at hs ⊢
  obtain ⟨h1, h2⟩ := hs
  have e1 : (l.1 + (n + 1) * h.1) * x.2 = (l.1 + n * h.1) * x.2 + h.1 * x.2 := by rw [Nat.add_mul n, Nat.one_mul, ← Nat.add_assoc, Nat.add_mul]
  have e2 : x.1 * (l.2 + (n + 1) * h.2) = x.1 * (l.2 + n * h.2) + x.1 * h.2 := by rw [Nat.add_mul n, Nat.one_mul, ← Nat.add_assoc, Nat.mul_add]
  have e3 : (n + 1) * h.2 = n * h.2 + h.2 := by rw [Nat.add_mul, Nat.one_mul]
  omega
theorem down_mono {l h x : FP} {most : Nat} (lo : l.1 * x.2 ≤ x.1 * l.2) (n : Nat) (hs : stepOk h l x most false (n + 1) = true) : stepOk h l x most false n = true := by
  rw [stepDown] at hs ⊢
  obtain ⟨h1, h2⟩ := hs
  have e1 : (h.1 + (n + 1) * l.1) * x.2 = (h.1 + n * l.1) * x.2 + l.1 * x.2 := by rw [Nat.add_mul n, Nat.one_mul, ← Nat.add_assoc, Nat.add_mul]
  have e2 : x.1 * (h.2 + (n + 1) * l.2) = x.1 * (h.2 + n * l.2) + x.1 * l.2 := by rw [Nat.add_mul n, Nat.one_mul, ← Nat.add_assoc, Nat.mul_add]
  have e3 : (n + 1) * l.2 = n * l.2 + l.2 := by rw [Nat.add_mul, Nat.one_mul]
  omega

theorem NB.up {x : FP} {most : Nat} {l h : FP} (n : NB x most l h) {k : Nat} (hs : stepOk l h x most true k = true) : NB x most (addN l h k) h := by
  rw [stepUp] at hs
  refine ⟨Nat.lt_of_lt_of_le n.l0 (Nat.le_add_right ..), n.h0, hs.1, n.hm, ?_, hs.2, n.hi⟩
  have d := n.det
  show h.1 * (l.2 + k * h.2) = (l.1 + k * h.1) * h.2 + 1
  have e1 : h.1 * (k * h.2) = k * h.1 * h.2 := by rw [← Nat.mul_assoc, Nat.mul_comm h.1 k]
  rw [Nat.mul_add, Nat.add_mul, e1, d]
  omega
theorem NB.down {x : FP} {most : Nat} {l h : FP} (n : NB x most l h) {k : Nat} (hs : stepOk h l x most false k = true) : NB x most l (addN h l k) := by
  rw [stepDown] at hs
  refine ⟨n.l0, Nat.lt_of_lt_of_le n.h0 (Nat.le_add_right ..), n.lm, hs.1, ?_, n.lo, hs.2⟩
  have d := n.det
  show (h.1 + k * l.1) * l.2 = l.1 * (h.2 + k * l.2) + 1
  have e1 : k * l.1 * l.2 = l.1 * (k * l.2) := by rw [← Nat.mul_assoc, Nat.mul_comm l.1 k]
  rw [Nat.mul_add, Nat.add_mul, e1, d]
  omega

/-- The nearer one of two. -/
def pickP (x l h : FP) : FP := if cmpP (gapP h x) (gapP x l) < 0 then h else l

theorem len_zero {n : Nat} : ((d32 n).length : Int) = 0 ↔ n = 0 := ⟨fun h => d32_nil (by omega), fun h => by rw [h, d32_zero]; rfl⟩

theorem addN_32 {p q : FP} {n k : Nat} (hp : S16 k p) (hq : S16 k q) (hk : k ≤ 1000) (hn : n ≤ 1048576) :
    nat_Mul [d32 n, d32 q.1] = some (d32 (n * q.1)) ∧ nat_Add [d32 p.1, d32 (n * q.1)] = some (d32 (addN p q n).1) ∧ nat_Mul [d32 n, d32 q.2] = some (d32 (n * q.2)) ∧ nat_Add [d32 p.2, d32 (n * q.2)] = some (d32 (addN p q n).2) := by
  have hn32 : (d32 n).length ≤ 1 := dg_len b32 (by omega)
  have a1 := d32_le16 p.1
  have a2 := d32_le16 p.2
  have a3 := d32_le16 q.1
  have a4 := d32_le16 q.2
  have m1 := d32_mul n q.1
  have m2 := d32_mul n q.2
  obtain ⟨p1, p2⟩ := hp
  obtain ⟨q1, q2⟩ := hq
  exact ⟨nat_Mul_two (by omega) (by omega), nat_Add_two (by omega) (by omega), nat_Mul_two (by omega) (by omega), nat_Add_two (by omega) (by omega)⟩

theorem near_j1_eq {x l h : FP} (hx : S16 8 x) (hl : S16 16 l) (hh : S16 16 h) (x0 : 0 < x.2) (l0 : 0 < l.2) (h0 : 0 < h.2) : plan_Near_j1 (q32 x) (q32 l) (q32 h) = some (q32 (pickP x l h), 0) := by
  have hx16 := hx.mono (show 8 ≤ 16 by omega)
  rw [← Tot.eq_iff]
  unfold plan_Near_j1
  rw [plan_gap_eq hh hx16 (by omega) h0 x0, Option.bind_some, plan_gap_eq hx16 hl (by omega) x0 l0, Option.bind_some, ratio_Cmp_eq (k := 32) (gap_size hh hx16) (gap_size hx16 hl) (by omega), Option.bind_some]
  unfold pickP
  by_cases hc : cmpP (gapP h x) (gapP x l) < 0
  · rw [decide_eq_true hc, cond_true, if_pos hc]
    exact Tot.some_iff.2 rfl
  · rw [decide_eq_false hc, cond_false, if_neg hc]
    exact Tot.some_iff.2 rfl

/-- One round. -/
theorem near_b1_tot {x l h : FP} {most : Nat} (n : NB x most l h) (hm : most ≤ 1048576) (hx : S16 8 x) (x0 : 0 < x.2) :
    Tot (plan_Near_b1 (q32 x) (most : Int) (q32 l) (q32 h)) (fun r => ∃ l' h', NB x most l' h' ∧ ((r = .inl (q32 l', q32 h') ∧ l.2 + h.2 < l'.2 + h'.2) ∨ (r = .inr (q32 (pickP x l' h'), 0) ∧ most < l'.2 + h'.2))) := by
  have hw : IntKind.u64.wrap (most : Int) = (most : Int) := u64i (by omega) (by omega)
  obtain ⟨sl, sh⟩ := n.size hm hx x0
  have hx16 := hx.mono (show 8 ≤ 16 by omega)
  have u0 : stepOk l h x most true 0 = true := by
    rw [stepUp]; simp only [Nat.zero_mul, Nat.add_zero]; exact ⟨n.lm, n.lo⟩
  obtain ⟨k, k1, k2, k3, k4⟩ := plan_steps_eq (k := 16) sl sh hx16 (by omega) hm u0 (up_mono n.hi)
  have n1 := n.up k3
  obtain ⟨sl1, _⟩ := n1.size hm hx x0
  have v0 : stepOk h (addN l h k) x most false 0 = true := by
    rw [stepDown]; simp only [Nat.zero_mul, Nat.add_zero]; exact ⟨n1.hm, n1.hi⟩
  obtain ⟨m, m1, m2, m3, m4⟩ := plan_steps_eq (k := 16) sh sl1 hx16 (by omega) hm v0 (down_mono n1.lo)
  have n2 := n1.down m3
  obtain ⟨_, sh2⟩ := n2.size hm hx x0
  obtain ⟨g1, g2, g3, g4⟩ := addN_32 (n := k) sl sh (by omega) (by omega)
  obtain ⟨f1, f2, f3, f4⟩ := addN_32 (n := m) sh sl1 (by omega) (by omega)
  obtain ⟨l', hl'⟩ : ∃ l', l' = addN l h k := ⟨_, rfl⟩
  obtain ⟨h', hh'⟩ : ∃ h', h' = addN h (addN l h k) m := ⟨_, rfl⟩
  rw [← hh'] at f2 f4 n2 sh2
  rw [← hl'] at g2 g4 n2 sl1 f1 f2 f3 f4 hh' m1 m3 m4 n1 v0
  have hl'2 : l'.2 = l.2 + k * h.2 := by rw [hl']; rfl
  have hh'2 : h'.2 = h.2 + m * l'.2 := by rw [hh']; rfl
  have hkl : (d32 k).length ≤ 1 := dg_len b32 (by omega)
  have hml : (d32 m).length ≤ 1 := dg_len b32 (by omega)
  have hwk : IntKind.i64.wrap (((d32 k).length : Int) + ((d32 m).length : Int)) = ((d32 k).length : Int) + ((d32 m).length : Int) := w64 (by omega) (by omega)
  unfold plan_Near_b1
  rw [hw, k1, Option.bind_some, nat_Of_eq (by omega), Option.bind_some]
  show Tot (α := (D_api_Ratio × D_api_Ratio) ⊕ (D_api_Ratio × Int)) ((nat_Mul [d32 k, d32 h.1]).bind fun y19 => (nat_Add [d32 l.1, y19]).bind fun y20 => (nat_Mul [d32 k, d32 h.2]).bind fun y21 => (nat_Add [d32 l.2, y21]).bind fun y22 => bnd ((y20, y22)) fun x23 =>
    (plan_steps (q32 h) x23 (q32 x) (most : Int) false).bind fun y24 => (nat_Of y24).bind fun y25 => (nat_Mul [y25, x23.1]).bind fun y26 => (nat_Add [d32 h.1, y26]).bind fun y27 => (nat_Mul [y25, x23.2]).bind fun y28 => (nat_Add [d32 h.2, y28]).bind fun y29 => bnd ((y27, y29)) fun x30 =>
    (bif !((IntKind.i64.wrap (((d32 k).length : Int) + (y25.length : Int))) == (0 : Int)) then plan_between x23 x30 else some (([] : List Int), ([] : List Int))).bind fun y31 =>
    (bif !((IntKind.i64.wrap (((d32 k).length : Int) + (y25.length : Int))) == (0 : Int)) then nat_Of (most : Int) else some ([] : List Int)).bind fun y32 =>
    (bif !((IntKind.i64.wrap (((d32 k).length : Int) + (y25.length : Int))) == (0 : Int)) then nat_Cmp y31.2 y32 else some (0 : Int)).bind fun y33 =>
    bif ((IntKind.i64.wrap (((d32 k).length : Int) + (y25.length : Int))) == (0 : Int)) || (decide (y33 > (0 : Int))) then (plan_Near_j1 (q32 x) x23 x30).map .inr else some (.inl (x23, x30))) _
  rw [g1, Option.bind_some, g2, Option.bind_some, g3, Option.bind_some, g4, Option.bind_some, Tot.bnd_iff]
  show Tot (α := (D_api_Ratio × D_api_Ratio) ⊕ (D_api_Ratio × Int)) ((plan_steps (q32 h) (q32 l') (q32 x) (most : Int) false).bind fun y24 => (nat_Of y24).bind fun y25 => (nat_Mul [y25, d32 l'.1]).bind fun y26 => (nat_Add [d32 h.1, y26]).bind fun y27 => (nat_Mul [y25, d32 l'.2]).bind fun y28 => (nat_Add [d32 h.2, y28]).bind fun y29 => bnd ((y27, y29)) fun x30 =>
    (bif !((IntKind.i64.wrap (((d32 k).length : Int) + (y25.length : Int))) == (0 : Int)) then plan_between (q32 l') x30 else some (([] : List Int), ([] : List Int))).bind fun y31 =>
    (bif !((IntKind.i64.wrap (((d32 k).length : Int) + (y25.length : Int))) == (0 : Int)) then nat_Of (most : Int) else some ([] : List Int)).bind fun y32 =>
    (bif !((IntKind.i64.wrap (((d32 k).length : Int) + (y25.length : Int))) == (0 : Int)) then nat_Cmp y31.2 y32 else some (0 : Int)).bind fun y33 =>
    bif ((IntKind.i64.wrap (((d32 k).length : Int) + (y25.length : Int))) == (0 : Int)) || (decide (y33 > (0 : Int))) then (plan_Near_j1 (q32 x) (q32 l') x30).map .inr else some (.inl (q32 l', x30))) _
  rw [m1, Option.bind_some, nat_Of_eq (by omega), Option.bind_some, f1, Option.bind_some, f2, Option.bind_some, f3, Option.bind_some, f4, Option.bind_some, Tot.bnd_iff, hwk]
  have hsum : (d32 (l'.2 + h'.2)).length ≤ 40 := by
    have := d16_add l'.2 h'.2
    have := d32_le16 (l'.2 + h'.2)
    have := sl1.2
    have := sh2.2
    omega
  have hbt : plan_between (q32 l') (q32 h') = some (q32 (l'.1 + h'.1, l'.2 + h'.2)) := by
    have a1 := d32_le16 l'.1
    have a2 := d32_le16 l'.2
    have a3 := d32_le16 h'.1
    have a4 := d32_le16 h'.2
    have := sl1.1
    have := sl1.2
    have := sh2.1
    have := sh2.2
    rw [← Tot.eq_iff]
    unfold plan_between
    rw [Tot.bnd_iff]
    show Tot ((nat_Add [d32 l'.1, d32 h'.1]).bind fun y2 => (nat_Add [d32 l'.2, d32 h'.2]).bind fun y3 => bnd ((y2, y3)) fun x4 => some x4) _
    rw [nat_Add_two (by omega) (by omega), Option.bind_some, nat_Add_two (by omega) (by omega), Option.bind_some]
    exact Tot.some_iff.2 rfl
  have hj := near_j1_eq hx sl1 sh2 x0 n2.l0 n2.h0
  have hmost : (d32 most).length ≤ 1 := dg_len b32 (by omega)
  show Tot (α := (D_api_Ratio × D_api_Ratio) ⊕ (D_api_Ratio × Int)) ((bif !(((d32 k).length : Int) + ((d32 m).length : Int) == (0 : Int)) then plan_between (q32 l') (q32 h') else some (([] : List Int), ([] : List Int))).bind fun y31 =>
    (bif !(((d32 k).length : Int) + ((d32 m).length : Int) == (0 : Int)) then nat_Of (most : Int) else some ([] : List Int)).bind fun y32 =>
    (bif !(((d32 k).length : Int) + ((d32 m).length : Int) == (0 : Int)) then nat_Cmp y31.2 y32 else some (0 : Int)).bind fun y33 =>
    bif (((d32 k).length : Int) + ((d32 m).length : Int) == (0 : Int)) || (decide (y33 > (0 : Int))) then (plan_Near_j1 (q32 x) (q32 l') (q32 h')).map .inr else some (.inl (q32 l', q32 h'))) _
  by_cases hz : k = 0 ∧ m = 0
  · obtain ⟨hk0, hm0⟩ := hz
    have e : (((d32 k).length : Int) + ((d32 m).length : Int) == (0 : Int)) = true := by
      rw [beq_iff_eq, len_zero.2 hk0, len_zero.2 hm0]; rfl
    rw [e, Bool.not_true, cond_false, Option.bind_some, cond_false, Option.bind_some, cond_false, Option.bind_some, Bool.true_or, cond_true, hj]
    refine Tot.some_iff.2 ⟨l', h', n2, .inr ⟨rfl, ?_⟩⟩
    -- the fraction between is on neither side, or its Den is too great
    rcases Nat.lt_or_ge most (l'.2 + h'.2) with hc | hc
    · exact hc
    · exfalso
      have hl : l' = l := by rw [hl', hk0]; unfold addN; simp
      have hh : h' = h := by rw [hh', hm0]; unfold addN; simp
      have := n.l0
      have := n.h0
      rw [hl, hh] at hc
      have q1 := k4 (by omega)
      have q2 := m4 (by omega)
      rw [hk0] at q1
      rw [hm0, hl] at q2
      have r1 : ¬ (l.2 + (0 + 1) * h.2 ≤ most ∧ (l.1 + (0 + 1) * h.1) * x.2 ≤ x.1 * (l.2 + (0 + 1) * h.2)) := fun hh => by rw [← stepUp] at hh; rw [hh] at q1; exact absurd q1 (by simp)
      have r2 : ¬ (h.2 + (0 + 1) * l.2 ≤ most ∧ x.1 * (h.2 + (0 + 1) * l.2) ≤ (h.1 + (0 + 1) * l.1) * x.2) := fun hh => by rw [← stepDown] at hh; rw [hh] at q2; exact absurd q2 (by simp)
      simp only [Nat.zero_add, Nat.one_mul] at r1 r2
      rw [Nat.add_comm h.2, Nat.add_comm h.1] at r2
      omega
  · have e : (((d32 k).length : Int) + ((d32 m).length : Int) == (0 : Int)) = false := by
      rw [beq_eq_false_iff_ne]
      intro hc
      have c1 : ((d32 k).length : Int) = 0 := by omega
      have c2 : ((d32 m).length : Int) = 0 := by omega
      exact hz ⟨len_zero.1 c1, len_zero.1 c2⟩
    rw [e, Bool.not_false, cond_true, hbt, Option.bind_some, cond_true, nat_Of_eq (by omega), Option.bind_some, cond_true]
    show Tot (α := (D_api_Ratio × D_api_Ratio) ⊕ (D_api_Ratio × Int)) ((nat_Cmp (d32 (l'.2 + h'.2)) (d32 most)).bind fun y33 => bif false || (decide (y33 > (0 : Int))) then (plan_Near_j1 (q32 x) (q32 l') (q32 h')).map .inr else some (.inl (q32 l', q32 h'))) _
    rw [nat_Cmp_eq (by omega) (by omega), Option.bind_some, Bool.false_or]
    by_cases hc : most < l'.2 + h'.2
    · have hd : decide (cmpN (l'.2 + h'.2) most > 0) = true := by
        rw [decide_eq_true_iff]; unfold cmpN; rw [if_neg (by omega), if_pos hc]; omega
      rw [hd, cond_true, hj]
      exact Tot.some_iff.2 ⟨l', h', n2, .inr ⟨rfl, hc⟩⟩
    · have hd : decide (cmpN (l'.2 + h'.2) most > 0) = false := by
        rw [decide_eq_false_iff_not]; unfold cmpN; split
        · omega
        · omega
      rw [hd, cond_false]
      refine Tot.some_iff.2 ⟨l', h', n2, .inl ⟨rfl, ?_⟩⟩
      have := n.l0
      have := n.h0
      have hl0 := n2.l0
      rcases Nat.eq_zero_or_pos k with hk0 | hk0
      · have hm0 : 0 < m := Nat.pos_of_ne_zero fun hc => hz ⟨hk0, hc⟩
        have : l'.2 ≤ m * l'.2 := Nat.le_mul_of_pos_left _ hm0
        have : l.2 ≤ l'.2 := by rw [hl'2]; exact Nat.le_add_right ..
        omega
      · have : h.2 ≤ k * h.2 := Nat.le_mul_of_pos_left _ hk0
        have : h.2 ≤ h'.2 := by rw [hh'2]; exact Nat.le_add_right ..
        omega

/-- The walk. -/
theorem plan_Near_tot {x : FP} {most : Nat} (h1 : 1 ≤ most) (hm : most ≤ 1048576) (hx : S16 8 x) (x0 : 0 < x.2) :
    Tot (plan_Near (q32 x) (most : Int)) (fun r => ∃ l h, NB x most l h ∧ most < l.2 + h.2 ∧ r = (q32 (pickP x l h), 0)) := by
  unfold plan_Near
  have hc : ((decide ((most : Int) < 1)) || (decide ((most : Int) > 1048576))) = false := by
    rw [Bool.or_eq_false_iff]; exact ⟨decide_eq_false (by omega), decide_eq_false (by omega)⟩
  have a1 := d32_le16 x.1
  have a2 := d32_le16 x.2
  have := hx.1
  have := hx.2
  have hw := d32_mono (x := x.1 / x.2) (y := x.1) (Nat.div_le_self ..)
  have hfl : ratio_Floor (q32 x) = some (d32 (x.1 / x.2)) := by
    unfold ratio_Floor
    show (nat_Div (d32 x.1) (d32 x.2)).bind (fun y => some y.1) = _
    rw [nat_Div_eq (by omega) (by omega) x0]
    rfl
  have hone : nat_Of (1 : Int) = some (d32 1) := nat_Of_eq (n := 1) (by omega)
  have hadd : nat_Add [d32 (x.1 / x.2), d32 1] = some (d32 (x.1 / x.2 + 1)) := nat_Add_two (by omega) (by have := d32_one; omega)
  rw [Tot.bnd_iff, hc, cond_false, hfl, Option.bind_some, hone, Option.bind_some, Tot.bnd_iff, Option.bind_some, hadd, Option.bind_some, Option.bind_some, Tot.bnd_iff]
  have n0 : NB x most (x.1 / x.2, 1) (x.1 / x.2 + 1, 1) := by
    refine ⟨by simp, by simp, h1, h1, by simp, ?_, ?_⟩
    · have := Nat.div_mul_le_self x.1 x.2
      simpa using this
    · have h1 := Nat.div_add_mod x.1 x.2
      have h2 := Nat.mod_lt x.1 x0
      show x.1 * 1 ≤ (x.1 / x.2 + 1) * x.2
      rw [Nat.add_mul, Nat.one_mul, Nat.mul_comm (x.1 / x.2)]
      omega
  refine Tot.loop (fun z : D_api_Ratio × D_api_Ratio => ∃ l h, z = (q32 l, q32 h) ∧ NB x most l h) (fun z => 2 * most - ((vl 4294967296 z.1.2).toNat + (vl 4294967296 z.2.2).toNat)) (fun z hz => ?_) ⟨_, _, rfl, n0⟩
  obtain ⟨l, h, rfl, n⟩ := hz
  refine (near_b1_tot n hm hx x0).mono fun r hr => ?_
  obtain ⟨l', h', n', ⟨rfl, hlt⟩ | ⟨rfl, hlt⟩⟩ := hr
  · refine Nx.inl_iff.2 ⟨⟨l', h', rfl, n'⟩, ?_⟩
    have v : ∀ y, (vl 4294967296 (d32 y)).toNat = y := fun y => by rw [d32, vl_dg b32, Int.toNat_natCast]
    have := n.lm
    have := n.hm
    have := n'.lm
    have := n'.hm
    show 2 * most - ((vl 4294967296 (d32 l'.2)).toNat + (vl 4294967296 (d32 h'.2)).toNat) < 2 * most - ((vl 4294967296 (d32 l.2)).toNat + (vl 4294967296 (d32 h.2)).toNat)
    rw [v, v, v, v]
    omega
  · exact Nx.inr_iff.2 ⟨l', h', n', hlt, rfl⟩
end Go.Tom
