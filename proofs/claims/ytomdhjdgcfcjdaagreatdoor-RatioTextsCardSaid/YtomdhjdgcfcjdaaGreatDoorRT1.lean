/- Fractions of rows of digits: the program's and the document's. -/
import Derived.Test.YtomdhjdgcfcjdaaGreatDoorTX4
import Derived.Test.YtomdhjdgcfcjdaaGreatDoorPN16
import Derived.Test.YtomdhjdgcfcjdaaGreatDoorPN14b
import Derived.Test.YtomdhjdgcfcjdaaGreatDoorPRt
set_option linter.unusedVariables false
set_option linter.unusedSimpArgs false
namespace Go.Tom
open Go

theorem loop_fold' {α β σ ρ : Type} (enc : β → σ) (xs : List α) (f : σ × Int → Option ((σ × Int) ⊕ ρ)) (g : β → α → β) (I : Nat → β → Prop) {b0 : β} (h0 : I 0 b0)
    (hstep : ∀ (i : Nat) (hi : i < xs.length) (b : β), I i b → f (enc b, (i : Int)) = some (.inl (enc (g b xs[i]), (i : Int) + 1)) ∧ I (i + 1) (g b xs[i])) {Q : ρ → Prop}
    (hend : I xs.length (xs.foldl g b0) → Tot (f (enc (xs.foldl g b0), (xs.length : Int))) (fun z => ∃ r, z = .inr r ∧ Q r)) : Tot (loopM f (enc b0, 0)) Q := by
  refine Tot.loop (fun x => ∃ (i : Nat) (b : β), x.2 = (i : Int) ∧ i ≤ xs.length ∧ x.1 = enc b ∧ b = (xs.take i).foldl g b0 ∧ I i b) (fun x => ((xs.length : Int) - x.2).toNat) (fun x hx => ?_) ⟨0, b0, rfl, Nat.zero_le _, rfl, rfl, h0⟩
  obtain ⟨s, i0⟩ := x
  obtain ⟨i, b, h1, h2, h3, h4, h5⟩ := hx
  simp only at h1 h3
  subst h1 h3
  rcases Nat.lt_or_ge i xs.length with hi | hi
  · obtain ⟨k1, k2⟩ := hstep i hi b h5
    rw [k1]
    refine Tot.some_iff.2 (Nx.inl_iff.2 ⟨⟨i + 1, g b xs[i], by simp, hi, rfl, ?_, k2⟩, by simp only; omega⟩)
    rw [List.take_succ_eq_append_getElem hi, List.foldl_append, ← h4]
    rfl
  · have hin : i = xs.length := by omega
    subst hin
    rw [List.take_length] at h4
    subst h4
    refine (hend h5).mono fun z hz => ?_
    obtain ⟨r, rfl, hr⟩ := hz
    exact Nx.inr_iff.2 hr

theorem add_size {p q : FP} {k m : Nat} (hp : S16 k p) (hq : S16 m q) : S16 (k + m + 1) (addP p q) := by
  obtain ⟨p1, p2⟩ := hp
  obtain ⟨q1, q2⟩ := hq
  have m1 := d16_mul p.1 q.2
  have m2 := d16_mul q.1 p.2
  have m3 := d16_mul p.2 q.2
  have m4 := d16_add (p.1 * q.2) (q.1 * p.2)
  exact low_size (by omega) (by omega)

theorem S16.mono {k m : Nat} {p : FP} (h : S16 k p) (hk : k ≤ m) : S16 m p := ⟨Nat.le_trans h.1 hk, Nat.le_trans h.2 hk⟩

theorem d16_one : (d16 1).length ≤ 1 := dg_len b16 (by omega)

theorem S16_zero : S16 1 (0, 1) := ⟨by rw [d16_zero]; simp, d16_one⟩

theorem lcm_size {a b : Nat} (hb : 0 < b) : (d16 (Nat.lcm a b)).length ≤ (d16 a).length + (d16 b).length := by
  refine Nat.le_trans (d16_mono ?_) (d16_mul a b)
  unfold Nat.lcm
  exact Nat.div_le_self ..

theorem lcm_size32 {a b : Nat} : (d32 (Nat.lcm a b)).length ≤ (d32 a).length + (d32 b).length := by
  refine Nat.le_trans (d32_mono ?_) (d32_mul a b)
  unfold Nat.lcm
  exact Nat.div_le_self ..

theorem d32_one : (d32 1).length ≤ 1 := dg_len b32 (by omega)

theorem foldl_snoc {α β : Type} (f : α → β) : ∀ (l : List α) (acc : List β), l.foldl (fun a x => a ++ [f x]) acc = acc ++ l.map f
  | [], acc => by simp
  | x :: l, acc => by simp [foldl_snoc f l]

theorem r04_In_q32 {p : FP} (h : S16 1000000 p) : r04_In (q32 p) = some (q16 p) := by
  have h1 := d32_le16 p.1
  have h2 := d32_le16 p.2
  have e1 : r03_In (d32 p.1) = some (d16 p.1) := by
    have := r03_In_eq (a := d32 p.1) (dg_Dg b32) (by have := h.1; omega)
    rwa [vl_dg b32, Int.toNat_natCast] at this
  have e2 : r03_In (d32 p.2) = some (d16 p.2) := by
    have := r03_In_eq (a := d32 p.2) (dg_Dg b32) (by have := h.2; omega)
    rwa [vl_dg b32, Int.toNat_natCast] at this
  rw [← Tot.eq_iff]
  unfold r04_In
  rw [Tot.bnd_iff]
  show Tot ((r03_In (d32 p.1)).bind fun y2 => (r03_In (d32 p.2)).bind fun y3 => bnd ((y2, y3)) fun x4 => some x4) _
  rw [e1, Option.bind_some, e2, Option.bind_some]
  exact Tot.some_iff.2 rfl

theorem ratio_Cmp_eq {p q : FP} {k : Nat} (hp : S16 k p) (hq : S16 k q) (hk : k ≤ 400000) : ratio_Cmp (q32 p) (q32 q) = some (cmpP p q) := by
  obtain ⟨p1, p2⟩ := hp
  obtain ⟨q1, q2⟩ := hq
  have a1 := d32_le16 p.1
  have a2 := d32_le16 p.2
  have a3 := d32_le16 q.1
  have a4 := d32_le16 q.2
  have m1 := d32_mul p.1 q.2
  have m2 := d32_mul q.1 p.2
  rw [← Tot.eq_iff]
  unfold ratio_Cmp
  show Tot ((nat_Mul [d32 p.1, d32 q.2]).bind fun y1 => (nat_Mul [d32 q.1, d32 p.2]).bind fun y2 => (nat_Cmp y1 y2).bind fun y3 => some y3) _
  rw [nat_Mul_two (by omega) (by omega), Option.bind_some, nat_Mul_two (by omega) (by omega), Option.bind_some, nat_Cmp_eq (by omega) (by omega), Option.bind_some]
  exact Tot.some_iff.2 rfl

theorem r04_Same_eq {p q : FP} (hp : S16 100000 p) (hq : S16 1000000 q) : r04_Same (q32 p) (q16 q) = some (decide (d32 p.1 = d32 q.1) && decide (d32 p.2 = d32 q.2)) := by
  obtain ⟨h1, h2⟩ := hq
  have a1 := d32_le16 p.1
  have a2 := d32_le16 p.2
  obtain ⟨k1, k2⟩ := hp
  rw [← Tot.eq_iff]
  unfold r04_Same
  show Tot ((r03_Out (d16 q.1)).bind fun y1 => (r03_Same (d32 p.1) y1).bind fun y2 => (bif y2 then r03_Out (d16 q.2) else some ([] : List Int)).bind fun y3 => (bif y2 then r03_Same (d32 p.2) y3 else some false).bind fun y4 => bnd (y2 && y4) fun x5 => some x5) _
  rw [r03_Out_eq (by omega), Option.bind_some, r03_Same_eq (d32 p.1) _ (by omega), Option.bind_some]
  cases decide (d32 p.1 = d32 q.1) with
  | false => exact Tot.some_iff.2 rfl
  | true =>
    rw [cond_true, r03_Out_eq (by omega), Option.bind_some, cond_true, r03_Same_eq (d32 p.2) _ (by omega), Option.bind_some]
    exact Tot.some_iff.2 rfl

theorem r04_Same_refl {p : FP} (hp : S16 100000 p) : r04_Same (q32 p) (q16 p) = some true := by
  rw [r04_Same_eq hp (hp.mono (by omega)), decide_eq_true rfl, decide_eq_true rfl]; rfl

theorem mul_size {p q : FP} {k m : Nat} (hp : S16 k p) (hq : S16 m q) : S16 (k + m) (mulP p q) := by
  obtain ⟨p1, p2⟩ := hp
  obtain ⟨q1, q2⟩ := hq
  have m1 := d16_mul p.1 q.1
  have m3 := d16_mul p.2 q.2
  exact low_size (by omega) (by omega)

theorem S16_is {a b : List Int} {x y : Nat} {k : Nat} (ha : Is a x) (hb : Is b y) (la : a.length ≤ k) (lb : b.length ≤ k) : S16 (2 * k) (x, y) := by
  have h1 := len16 ha
  have h2 := len16 hb
  exact ⟨by show (d16 x).length ≤ _; omega, by show (d16 y).length ≤ _; omega⟩

/-- No nought at its end: its row is its number's. -/
theorem is_cut {a : List Int} {x : Nat} (h : Is a x) : a = d32 x ↔ a.getLast? ≠ some 0 := by
  constructor
  · intro e; rw [e]; exact dg_last b32
  · intro hl
    have := dg_of b32 h.1 hl
    rw [h.2, Int.toNat_natCast] at this
    exact this

theorem ratio_cut_is {a : List Int} {x : Nat} (h : Is a x) (hl : a.length ≤ 1000000) : ratio_cut a = some (decide (a = d32 x)) := by
  rw [← Tot.eq_iff]
  unfold ratio_cut
  by_cases h0 : a = []
  · have hx : x = 0 := by have := h.2; rw [h0] at this; simp only [vl] at this; omega
    subst hx
    subst h0
    simp [d32_zero, cond_some, Tot.cond_iff, Tot.ass_iff, Tot.bnd_iff, Tot.some_iff, Tot.map_iff, Tot.bind_iff, Nx.inl_iff, Nx.inr_iff, decide_eq_true_eq, decide_eq_false_iff_not]
  · have hpos : 0 < a.length := List.length_pos_iff.2 h0
    have hw : IntKind.i64.wrap ((a.length : Int) - 1) = ((a.length - 1 : Nat) : Int) := by rw [w64 (by omega) (by omega)]; omega
    have e0 : ((a.length : Int) == 0) = false := by rw [beq_eq_false_iff_ne]; omega
    rw [hw, e0]
    refine Tot.ass_iff.2 ⟨fun _ => ⟨by omega, by omega⟩, ?_⟩
    refine Tot.some_iff.2 ?_
    rw [Bool.false_or, Bool.eq_iff_iff, decide_eq_true_iff, is_cut h, bne_iff_ne, ne_eq, ne_eq, List.getLast?_eq_getElem?]
    refine not_congr ?_
    rw [rd_eq (a.length - 1) rfl (by omega)]
    rw [List.getElem?_eq_getElem (by omega)]
    simp

theorem gcd_one_word {g : Nat} : ((if g < 18446744073709551616 then ((g : Int), true) else ((0 : Int), false)).2 && ((if g < 18446744073709551616 then ((g : Int), true) else ((0 : Int), false)).1 == 1)) = decide (g = 1) := by
  by_cases h : g < 18446744073709551616
  · rw [if_pos h, Bool.true_and, Bool.eq_iff_iff, beq_iff_eq, decide_eq_true_iff]; simp only; omega
  · rw [if_neg h, Bool.false_and]; symm; exact decide_eq_false (by omega)

section
variable {n d : List Int} {a b : Nat} (hn : Is n a) (hd : Is d b) (ln : n.length ≤ 1000) (ld : d.length ≤ 1000)
include hn hd ln ld

theorem ratio_Right_is : ratio_Right (n, d) = some (decide (b ≠ 0 ∧ n = d32 a ∧ d = d32 b ∧ Nat.gcd a b = 1)) := by
  have hg := nat_Gcd_is hn hd (by omega) (by omega)
  have sz := S16_is hn hd ln ld
  have hgl := gcd_size' sz.1 sz.2
  have hgl2 := d32_le16' (x := Nat.gcd a b)
  have hw := nat_Word_is (Is.d32 (Nat.gcd a b)) (by simp only at hgl; omega)
  have c1 := ratio_cut_is hn (by omega)
  have c2 := ratio_cut_is hd (by omega)
  unfold ratio_Right
  rw [← Tot.eq_iff]
  show Tot ((nat_Gcd n d).bind fun y1 => (nat_Word y1).bind fun y2 => (ratio_cut n).bind fun y3 => (bif y3 then ratio_cut d else some false).bind fun y4 => bnd ((((y3 && y4) && (decide ((d.length : Int) > 0))) && y2.2) && (y2.1 == 1)) fun x5 => some x5) _
  rw [hg, Option.bind_some, hw, Option.bind_some, c1, Option.bind_some]
  by_cases k1 : n = d32 a
  · have z1 : decide (n = d32 a) = true := decide_eq_true k1
    rw [z1, cond_true, c2, Option.bind_some]
    refine Tot.some_iff.2 ?_
    rw [Bool.and_assoc, gcd_one_word, Bool.true_and]
    by_cases k2 : d = d32 b
    · have e : decide ((d.length : Int) > 0) = decide (b ≠ 0) := by
        rw [Bool.eq_iff_iff, decide_eq_true_iff, decide_eq_true_iff]
        constructor
        · intro hp hb0; rw [k2, hb0, d32_zero] at hp; exact absurd hp (by simp)
        · intro hb0
          rcases Nat.eq_zero_or_pos d.length with hz | hz
          · rw [k2] at hz; exact absurd (d32_nil hz) hb0
          · omega
      rw [e, decide_eq_true k2, Bool.true_and, ← Bool.decide_and]
      congr 1
      exact propext ⟨fun h => ⟨h.1, k1, k2, h.2⟩, fun h => ⟨h.1, h.2.2.2⟩⟩
    · rw [decide_eq_false k2, Bool.false_and, Bool.false_and]
      exact (decide_eq_false fun h => k2 h.2.2.1).symm
  · have z1 : decide (n = d32 a) = false := decide_eq_false k1
    rw [z1, cond_false, Option.bind_some]
    refine Tot.some_iff.2 ?_
    rw [Bool.false_and, Bool.false_and, Bool.false_and, Bool.false_and]
    exact (decide_eq_false fun h => k1 h.2.1).symm

theorem r04_Right_is : r04_Right (n, d) = some (decide (b ≠ 0 ∧ n = d32 a ∧ d = d32 b ∧ Nat.gcd a b = 1)) := by
  obtain ⟨sa, sb⟩ := S16_is hn hd ln ld
  simp only at sa sb
  have i1 := r03_In_eq hn.1 (by omega)
  have i2 := r03_In_eq hd.1 (by omega)
  rw [hn.2, Int.toNat_natCast] at i1
  rw [hd.2, Int.toNat_natCast] at i2
  have o1 : r03_Out (d16 a) = some (d32 a) := r03_Out_eq (by omega)
  have o2 : r03_Out (d16 b) = some (d32 b) := r03_Out_eq (by omega)
  have m1 : r03_Same n (d32 a) = some (decide (n = d32 a)) := r03_Same_eq n (d32 a) (by omega)
  have m2 : r03_Same d (d32 b) = some (decide (d = d32 b)) := r03_Same_eq d (d32 b) (by omega)
  have hgs := gcd_size sa sb
  have hg : r03_Gcd (d16 a) (d16 b) = some (d16 (Nat.gcd a b)) := r03_Gcd_eq (by omega) (by omega)
  have h1' : r01_Of (1 : Int) = some (d16 1) := r01_Of_eq (n := 1) (by omega)
  have hcm : r01_Cmp (d16 (Nat.gcd a b)) (d16 1) = some (cmpN (Nat.gcd a b) 1) := r01_Cmp_eq (by omega) (by have := d16_one; omega)
  have hin : r04_In (n, d) = some (d16 a, d16 b) := by
    rw [← Tot.eq_iff]
    unfold r04_In
    rw [Tot.bnd_iff]
    show Tot ((r03_In n).bind fun y2 => (r03_In d).bind fun y3 => bnd ((y2, y3)) fun x4 => some x4) _
    rw [i1, Option.bind_some, i2, Option.bind_some]
    exact Tot.some_iff.2 rfl
  have hb0 : (((d16 b).length : Int) == 0) = decide (b = 0) := by
    rw [Bool.eq_iff_iff, beq_iff_eq, decide_eq_true_iff]
    constructor
    · intro h; exact d16_nil (by omega)
    · intro h; rw [h, d16_zero]; rfl
  have hc0 : (cmpN (Nat.gcd a b) 1 == 0) = decide (Nat.gcd a b = 1) := by
    rw [Bool.eq_iff_iff, beq_iff_eq, decide_eq_true_iff]
    unfold cmpN
    split
    · omega
    · split <;> omega
  rw [← Tot.eq_iff]
  unfold r04_Right
  rw [hin, Option.bind_some]
  show Tot ((bif !(((d16 b).length : Int) == (0 : Int)) then r03_Out (d16 a) else some ([] : List Int)).bind fun y2 =>
    (bif !(((d16 b).length : Int) == (0 : Int)) then r03_Same n y2 else some false).bind fun y3 =>
    (bif !((((d16 b).length : Int) == (0 : Int)) || (!y3)) then r03_Out (d16 b) else some ([] : List Int)).bind fun y4 =>
    (bif !((((d16 b).length : Int) == (0 : Int)) || (!y3)) then r03_Same d y4 else some false).bind fun y5 =>
    bif ((((d16 b).length : Int) == (0 : Int)) || (!y3)) || (!y5) then some false
    else (r03_Gcd (d16 a) (d16 b)).bind fun y6 => (r01_Of (1 : Int)).bind fun y7 => (r01_Cmp y6 y7).bind fun y8 => bnd (y8 == (0 : Int)) fun x9 => some x9) _
  rw [hb0, o1, o2, hg, h1', Option.bind_some, Option.bind_some, hcm, Option.bind_some, hc0]
  by_cases k0 : b = 0
  · simp [k0, Tot.some_iff]
  · by_cases k1 : n = d32 a
    · by_cases k2 : d = d32 b
      · have z1 : decide (b = 0) = false := decide_eq_false k0
        have z2 : decide (n = d32 a) = true := decide_eq_true k1
        have z3 : decide (d = d32 b) = true := decide_eq_true k2
        rw [z1, Bool.not_false, cond_true, Option.bind_some, cond_true, m1, Option.bind_some, z2, Bool.not_true, Bool.or_self, Bool.not_false, cond_true, Option.bind_some, cond_true, m2, Option.bind_some, z3, Bool.not_true, Bool.or_self, cond_false]
        refine Tot.some_iff.2 ?_
        congr 1
        exact propext ⟨fun h => ⟨k0, k1, k2, h⟩, fun h => h.2.2.2⟩
      · have z1 : decide (b = 0) = false := decide_eq_false k0
        have z2 : decide (n = d32 a) = true := decide_eq_true k1
        have z3 : decide (d = d32 b) = false := decide_eq_false k2
        rw [z1, Bool.not_false, cond_true, Option.bind_some, cond_true, m1, Option.bind_some, z2, Bool.not_true, Bool.or_self, Bool.not_false, cond_true, Option.bind_some, cond_true, m2, Option.bind_some, z3, Bool.not_false, Bool.or_true, cond_true]
        exact Tot.some_iff.2 (decide_eq_false fun h => k2 h.2.2.1).symm
    · have z1 : decide (b = 0) = false := decide_eq_false k0
      have z2 : decide (n = d32 a) = false := decide_eq_false k1
      rw [z1, Bool.not_false, cond_true, Option.bind_some, cond_true, m1, Option.bind_some, z2, Bool.not_false, Bool.or_true, Bool.not_true, cond_false, Option.bind_some, cond_false, Option.bind_some, Bool.true_or, cond_true]
      exact Tot.some_iff.2 (decide_eq_false fun h => k1 h.2.1).symm

theorem ratio_Make_is : ratio_Make n d = some (if b = 0 then (([], []), false) else (q32 (lowP a b), true)) := by
  obtain ⟨sa, sb⟩ := S16_is hn hd ln ld
  simp only at sa sb
  have hg := nat_Gcd_is hn hd (by omega) (by omega)
  have hgl := gcd_size' sa sb
  have hgl2 := d32_le16' (x := Nat.gcd a b)
  have d1 := nat_Div_is hd (Is.d32 (Nat.gcd a b)) (by omega) (by omega)
  have d2 := nat_Div_is hn (Is.d32 (Nat.gcd a b)) (by omega) (by omega)
  unfold ratio_Make
  show ((nat_Gcd n d).bind fun y2 => (nat_Div d y2).bind fun y3 => bif (!y3.2.2) || ((y3.1.length : Int) == 0) then some ((([] : List Int), ([] : List Int)), false) else (nat_Div n y2).bind fun y5 => some ((y5.1, y3.1), true)) = _
  rw [hg, Option.bind_some, d1, Option.bind_some, d2]
  by_cases hb0 : b = 0
  · subst hb0
    rw [if_pos rfl, Nat.gcd_zero_right]
    by_cases ha0 : a = 0
    · rw [if_pos ha0]; rfl
    · rw [if_neg ha0, Nat.zero_div, d32_zero]; rfl
  · have hg0 : 0 < Nat.gcd a b := Nat.gcd_pos_of_pos_right _ (by omega)
    have hq0 : 0 < b / Nat.gcd a b := Nat.div_pos (Nat.gcd_le_right a (by omega)) hg0
    have e : (((d32 (b / Nat.gcd a b)).length : Int) == 0) = false := by
      rw [beq_eq_false_iff_ne]; intro hc
      have := d32_nil (x := b / Nat.gcd a b) (by omega)
      omega
    rw [if_neg hb0, if_neg (by omega), if_neg (by omega)]
    simp only [e, Bool.not_true, Bool.or_self, cond_false, Option.bind_some]
    rfl
end

theorem ratio_Of_eq {n d : Nat} (hn : n ≤ 18446744073709551615) (hd : d ≤ 18446744073709551615) : ratio_Of (n : Int) (d : Int) = some (if d = 0 then (([], []), false) else (q32 (lowP n d), true)) := by
  have l1 : (d32 n).length ≤ 2 := dg_len b32 (by omega)
  have l2 : (d32 d).length ≤ 2 := dg_len b32 (by omega)
  unfold ratio_Of
  simp only [bnd, nat_Of_eq hn, nat_Of_eq hd, Option.bind_some, ratio_Make_is (Is.d32 n) (Is.d32 d) (by omega) (by omega)]

theorem exOf1 : nat_Of (1 : Int) = some (d32 1) := nat_Of_eq (n := 1) (by omega)
theorem exZero : ratio_Zero = some (q32 (0, 1)) := by
  unfold ratio_Zero
  rw [exOf1]
  show some (([] : List Int), d32 1) = some (d32 0, d32 1)
  rw [d32_zero]
theorem ratio_Text_is {n d : List Int} {a b : Nat} (hn : Is n a) (hd : Is d b) (ln : n.length ≤ 1000) (ld : d.length ≤ 1000) : ratio_Text (n, d) = some (tx (if b = 1 then Lib.decDigits a else Lib.decDigits a ++ [47] ++ Lib.decDigits b)) := by
  have t1 := nat_Text_is hn (by omega)
  have t2 := nat_Text_is hd (by omega)
  have l1 : (d32 1).length ≤ 1 := d32_one
  have hc := nat_Cmp_is hd (Is.d32 1) (by omega) (by omega)
  have hdig : ∀ {x : Nat} {l : List Int}, Is l x → l.length ≤ 1000 → (Lib.decDigits x).length ≤ 10001 := fun {x l} h hl => by
    rw [Lib.decDigits_length]
    have h1 : x < 4294967296 ^ l.length := h.lt
    have h2 : 4294967296 ^ l.length ≤ (10 ^ 10) ^ l.length := Nat.pow_le_pow_left (by omega) _
    rw [← Nat.pow_mul] at h2
    have h3 : 10 ^ (10 * l.length) ≤ 10 ^ (10 * l.length + 1) := Nat.pow_le_pow_right (by omega) (by omega)
    have := nd_le (k := 10 * l.length) (Nat.lt_of_lt_of_le h1 (Nat.le_trans h2 h3))
    omega
  have g1 := hdig hn ln
  have g2 := hdig hd ld
  have hc0 : (cmpN b 1 == 0) = decide (b = 1) := by
    rw [Bool.eq_iff_iff, beq_iff_eq, decide_eq_true_iff]
    unfold cmpN
    split
    · omega
    · split <;> omega
  rw [← Tot.eq_iff]
  unfold ratio_Text
  show Tot ((nat_Of (1 : Int)).bind fun y1 => (nat_Cmp d y1).bind fun y2 => bif y2 == 0 then (nat_Text n).bind fun y3 => some y3 else (nat_Text n).bind fun y4 => ass (((y4.size + (tx [47]).size : Nat) : Int) ≤ 9223372036854775807) <| (nat_Text d).bind fun y5 => ass ((((y4 ++ (tx [47])).size + y5.size : Nat) : Int) ≤ 9223372036854775807) <| bnd ((y4 ++ (tx [47])) ++ y5) fun x6 => some x6) _
  rw [exOf1, Option.bind_some, hc, Option.bind_some, hc0, t1]
  by_cases h1 : b = 1
  · rw [decide_eq_true h1, cond_true, if_pos h1]
    exact Tot.some_iff.2 rfl
  · rw [decide_eq_false h1, cond_false, if_neg h1, Option.bind_some, t2]
    refine Tot.ass_iff.2 ⟨?_, ?_⟩
    · rw [ba_size, ba_size]; simp only [List.length_singleton]; omega
    · rw [Option.bind_some, ba_app]
      refine Tot.ass_iff.2 ⟨?_, ?_⟩
      · rw [ba_size, ba_size, List.length_append]; simp only [List.length_singleton]; omega
      · rw [Tot.bnd_iff, ba_app]
        exact Tot.some_iff.2 rfl
end Go.Tom
