/- Chapter 48's example: amounts of a total. -/
import Derived.Test.YtomdhjdgcfcjdaaPN23
set_option linter.unusedVariables false
set_option linter.unusedSimpArgs false
namespace Go.Tom
open Go

theorem exOf1 : nat_Of (1 : Int) = some (d32 1) := nat_Of_eq (n := 1) (by omega)
theorem exZero : ratio_Zero = some (q32 (0, 1)) := by
  unfold ratio_Zero
  rw [exOf1]
  show some (([] : List Int), d32 1) = some (d32 0, d32 1)
  rw [d32_zero]

theorem exw1 : IntKind.i64.wrap ((0 : Int) + 1) = 1 := by decide
theorem exw2 : IntKind.i64.wrap ((1 : Int) + 1) = 2 := by decide

theorem ex_add : ratio_Add [q32 (1, 2), q32 (1, 3)] = some (q32 (5, 6)) := by
  have p1 : ratio_plus (q32 (0, 1)) (q32 (1, 2)) = some (q32 (1, 2)) := ratio_plus_eq (k := 1) (s16 (by omega) (by omega)) (s16 (by omega) (by omega)) (by omega) (by decide) (by decide)
  have p2 : ratio_plus (q32 (1, 2)) (q32 (1, 3)) = some (q32 (5, 6)) := ratio_plus_eq (k := 1) (s16 (by omega) (by omega)) (s16 (by omega) (by omega)) (by omega) (by decide) (by decide)
  have b0 : ratio_Add_b1 [q32 (1, 2), q32 (1, 3)] (q32 (0, 1)) 0 = some (.inl (q32 (1, 2), 1)) := by
    rw [← Tot.eq_iff]
    unfold ratio_Add_b1
    refine Tot.ass_iff.2 ⟨by decide, ?_⟩
    show Tot ((ratio_plus (q32 (0, 1)) (q32 (1, 2))).bind fun y7 => bnd (IntKind.i64.wrap ((0 : Int) + (1 : Int))) fun x8 => some (Sum.inl (y7, x8))) _
    rw [p1, Option.bind_some, exw1]
    exact Tot.some_iff.2 rfl
  have b1 : ratio_Add_b1 [q32 (1, 2), q32 (1, 3)] (q32 (1, 2)) 1 = some (.inl (q32 (5, 6), 2)) := by
    rw [← Tot.eq_iff]
    unfold ratio_Add_b1
    refine Tot.ass_iff.2 ⟨by decide, ?_⟩
    show Tot ((ratio_plus (q32 (1, 2)) (q32 (1, 3))).bind fun y7 => bnd (IntKind.i64.wrap ((1 : Int) + (1 : Int))) fun x8 => some (Sum.inl (y7, x8))) _
    rw [p2, Option.bind_some, exw2]
    exact Tot.some_iff.2 rfl
  have b2 : ratio_Add_b1 [q32 (1, 2), q32 (1, 3)] (q32 (5, 6)) 2 = some (.inr (q32 (5, 6))) := rfl
  unfold ratio_Add
  rw [exZero]
  show loopM (fun x : D_api_Ratio × Int => ratio_Add_b1 [q32 (1, 2), q32 (1, 3)] x.1 x.2) (q32 (0, 1), (0 : Int)) = _
  exact (loop_inl b0).trans ((loop_inl b1).trans (loop_inr b2))

theorem ex_one : ratio_one = some (q32 (1, 1)) := by
  unfold ratio_one
  rw [exOf1]
  rfl

/-- A product of two, from one on. -/
theorem ex_mul {p q r s : FP} (hp : p.1 < 65536 ∧ p.2 < 65536 ∧ 0 < p.2) (hq : q.1 < 65536 ∧ q.2 < 65536 ∧ 0 < q.2) (hr : lowP (1 * p.1) (1 * p.2) = r) (hs : lowP (r.1 * q.1) (r.2 * q.2) = s) (hr2 : r.1 < 65536 ∧ r.2 < 65536 ∧ 0 < r.2) : ratio_Mul [q32 p, q32 q] = some (q32 s) := by
  obtain ⟨a1, a2, a3⟩ := hp
  obtain ⟨c1, c2, c3⟩ := hq
  obtain ⟨e1, e2, e3⟩ := hr2
  have l : ∀ {a : Nat}, a < 65536 → (d16 a).length ≤ 1 := fun h => dg_len b16 (by omega)
  have m1 : nat_Mul [d32 1, d32 p.1] = some (d32 (1 * p.1)) := mulS (by omega) (by omega)
  have m2 : nat_Mul [d32 1, d32 p.2] = some (d32 (1 * p.2)) := mulS (by omega) (by omega)
  have k1 : ratio_Make (d32 (1 * p.1)) (d32 (1 * p.2)) = some (q32 r, true) := by
    rw [ratio_Make_eq (k := 1) (by omega) (by rw [Nat.one_mul]; have := l a1; omega) (by rw [Nat.one_mul]; have := l a2; omega) (by omega), hr]
  have m3 : nat_Mul [d32 r.1, d32 q.1] = some (d32 (r.1 * q.1)) := mulS (by omega) (by omega)
  have m4 : nat_Mul [d32 r.2, d32 q.2] = some (d32 (r.2 * q.2)) := mulS (by omega) (by omega)
  have k2 : ratio_Make (d32 (r.1 * q.1)) (d32 (r.2 * q.2)) = some (q32 s, true) := by
    have h1 := d16_mul r.1 q.1
    have h2 := d16_mul r.2 q.2
    rw [ratio_Make_eq (k := 1) (by omega) (by have := l e1; have := l c1; omega) (by have := l e2; have := l c2; omega) (Nat.mul_pos e3 c3), hs]
  have b0 : ratio_Mul_b1 [q32 p, q32 q] (q32 (1, 1)) 0 = some (.inl (q32 r, 1)) := by
    rw [← Tot.eq_iff]
    unfold ratio_Mul_b1
    refine Tot.ass_iff.2 ⟨by simp, ?_⟩
    show Tot ((nat_Mul [d32 1, d32 p.1]).bind fun y7 => (nat_Mul [d32 1, d32 p.2]).bind fun y8 => (ratio_Make y7 y8).bind fun y9 => bnd (IntKind.i64.wrap ((0 : Int) + (1 : Int))) fun x10 => some (Sum.inl (y9.1, x10))) _
    rw [m1, Option.bind_some, m2, Option.bind_some, k1, Option.bind_some, exw1]
    exact Tot.some_iff.2 rfl
  have b1 : ratio_Mul_b1 [q32 p, q32 q] (q32 r) 1 = some (.inl (q32 s, 2)) := by
    rw [← Tot.eq_iff]
    unfold ratio_Mul_b1
    refine Tot.ass_iff.2 ⟨by simp, ?_⟩
    show Tot ((nat_Mul [d32 r.1, d32 q.1]).bind fun y7 => (nat_Mul [d32 r.2, d32 q.2]).bind fun y8 => (ratio_Make y7 y8).bind fun y9 => bnd (IntKind.i64.wrap ((1 : Int) + (1 : Int))) fun x10 => some (Sum.inl (y9.1, x10))) _
    rw [m3, Option.bind_some, m4, Option.bind_some, k2, Option.bind_some, exw2]
    exact Tot.some_iff.2 rfl
  have b2 : ratio_Mul_b1 [q32 p, q32 q] (q32 s) 2 = some (.inr (q32 s)) := rfl
  unfold ratio_Mul
  rw [ex_one]
  show loopM (fun x : D_api_Ratio × Int => ratio_Mul_b1 [q32 p, q32 q] x.1 x.2) (q32 (1, 1), (0 : Int)) = _
  exact (loop_inl b0).trans ((loop_inl b1).trans (loop_inr b2))

theorem ex_of4 : ratio_Of (4 : Int) (1 : Int) = some (q32 (4, 1), true) := by
  have h4 : nat_Of (4 : Int) = some (d32 4) := nat_Of_eq (n := 4) (by omega)
  have hm : ratio_Make (d32 4) (d32 1) = some (q32 (4, 1), true) := ratio_Make_eq (k := 1) (by omega) (by have := (s16 (a := 4) (b := 1) (by omega) (by omega)).1; exact Nat.le_trans this (by omega)) (by have := d16_one; omega) (by omega)
  unfold ratio_Of
  rw [h4, exOf1]
  show (ratio_Make (d32 4) (d32 1)).bind (fun y4 => some (y4.1, y4.2)) = _
  rw [hm]
  rfl

theorem ex_quota {p r s : FP} (hm : ratio_Mul [q32 (4, 1), q32 p] = some (q32 r)) (hd : ratio_Div (q32 r) (q32 (5, 6)) = some (q32 s, true)) : plan_quota (q32 p) (q32 (5, 6)) 4 = some (q32 s) := by
  have hw : IntKind.u64.wrap (4 : Int) = 4 := by decide
  unfold plan_quota
  rw [hw, ex_of4]
  show (ratio_Mul [q32 (4, 1), q32 p]).bind (fun y3 => (ratio_Div y3 (q32 (5, 6))).bind fun y4 => bif !y4.2 then (ratio_Zero).bind fun y5 => some y5 else some y4.1) = _
  rw [hm, Option.bind_some, hd]
  rfl

theorem ex_q0 : plan_quota (q32 (1, 2)) (q32 (5, 6)) 4 = some (q32 (12, 5)) :=
  ex_quota (r := (2, 1)) (ex_mul (r := (4, 1)) (by decide) (by decide) (by decide) (by decide) (by decide)) (ratio_Div_eq (p := (2, 1)) (q := (5, 6)) (k := 1) (s16 (by omega) (by omega)) (s16 (by omega) (by omega)) (by omega) (by decide) (by decide))
theorem ex_q1 : plan_quota (q32 (1, 3)) (q32 (5, 6)) 4 = some (q32 (8, 5)) :=
  ex_quota (r := (4, 3)) (ex_mul (r := (4, 1)) (by decide) (by decide) (by decide) (by decide) (by decide)) (ratio_Div_eq (p := (4, 3)) (q := (5, 6)) (k := 1) (s16 (by omega) (by omega)) (s16 (by omega) (by omega)) (by omega) (by decide) (by decide))

/-- A part: rounded down, and the rest. -/
theorem ex_part {a b w : Nat} {r : FP} (ha : a < 65536) (hb : b < 65536) (hb0 : 0 < b) (hw : a / b = w) (hle : w * b ≤ a) (hr : subP (a, b) (w, 1) = r) :
    ratio_Floor (q32 (a, b)) = some (d32 w) ∧ nat_Word (d32 w) = some ((w : Int), true) ∧ ratio_Make (d32 w) (d32 1) = some (q32 (w, 1), true) ∧ ratio_Sub (q32 (a, b)) (q32 (w, 1)) = some (q32 r, true) := by
  have hwa : w ≤ a := by rw [← hw]; exact Nat.div_le_self ..
  have hw16 : w < 65536 := by omega
  refine ⟨?_, ?_, ?_, ?_⟩
  · unfold ratio_Floor
    show (nat_Div (d32 a) (d32 b)).bind _ = _
    rw [nat_Div_eq (by have := d32s (a := a) (by omega); omega) (by have := d32s (a := b) (by omega); omega) hb0, hw]
    rfl
  · rw [nat_Word_eq (by have := d32s (a := w) (by omega); omega), if_pos (by omega)]
  · have h1 := ratio_Make_eq (k := 1) (a := w) (b := 1) (by omega) (by have := (s16 (a := w) (b := 1) hw16 (by omega)).1; exact Nat.le_trans this (by omega)) (by have := d16_one; omega) (by omega)
    rw [h1]
    unfold lowP
    simp
  · have h1 := ratio_Sub_eq (p := (a, b)) (q := (w, 1)) (k := 1) (s16 ha hb) (s16 hw16 (by omega)) (by omega) hb0 (by show 0 < 1; omega)
    rw [h1, if_neg (by show ¬ a * 1 < w * b; omega), hr]

theorem ex_parts : plan_parts [q32 (1, 2), q32 (1, 3)] (q32 (5, 6)) 4 = some [(0, 2, q32 (2, 5)), (1, 1, q32 (3, 5))] := by
  obtain ⟨f0, w0, k0, s0⟩ := ex_part (a := 12) (b := 5) (w := 2) (r := (2, 5)) (by omega) (by omega) (by omega) (by decide) (by omega) (by decide)
  obtain ⟨f1, w1, k1, s1⟩ := ex_part (a := 8) (b := 5) (w := 1) (r := (3, 5)) (by omega) (by omega) (by omega) (by decide) (by omega) (by decide)
  have c2 : IntKind.i64.wrap ((2 : Nat) : Int) = 2 := by decide
  have c1 : IntKind.i64.wrap ((1 : Nat) : Int) = 1 := by decide
  have b0 : plan_parts_b1 [q32 (1, 2), q32 (1, 3)] (q32 (5, 6)) 4 [] 0 = some (.inl ([(0, 2, q32 (2, 5))], 1)) := by
    rw [← Tot.eq_iff]
    unfold plan_parts_b1
    refine Tot.ass_iff.2 ⟨by simp, ?_⟩
    show Tot ((plan_quota (q32 (1, 2)) (q32 (5, 6)) 4).bind fun y5 => (ratio_Floor y5).bind fun y6 => (nat_Word y6).bind fun y7 => (nat_Of (1 : Int)).bind fun y8 => (ratio_Make y6 y8).bind fun y9 => (ratio_Sub y5 y9.1).bind fun y10 =>
      ass (((([] : List D_plan_part).length + [((0 : Int), IntKind.i64.wrap y7.1, y10.1)].length : Nat) : Int) ≤ limA) <| bnd (([] : List D_plan_part) ++ [((0 : Int), IntKind.i64.wrap y7.1, y10.1)]) fun x11 => bnd (IntKind.i64.wrap ((0 : Int) + (1 : Int))) fun x12 => some (Sum.inl (x11, x12))) _
    rw [ex_q0, Option.bind_some, f0, Option.bind_some, w0, Option.bind_some, exOf1, Option.bind_some, k0, Option.bind_some, s0, Option.bind_some, exw1]
    refine Tot.ass_iff.2 ⟨by simp only [List.length_nil, List.length_singleton]; unfold limA; omega, ?_⟩
    show Tot (some (Sum.inl ([((0 : Int), IntKind.i64.wrap ((2 : Nat) : Int), q32 (2, 5))], 1))) _
    rw [c2]
    exact Tot.some_iff.2 rfl
  have b1 : plan_parts_b1 [q32 (1, 2), q32 (1, 3)] (q32 (5, 6)) 4 [(0, 2, q32 (2, 5))] 1 = some (.inl ([(0, 2, q32 (2, 5)), (1, 1, q32 (3, 5))], 2)) := by
    rw [← Tot.eq_iff]
    unfold plan_parts_b1
    refine Tot.ass_iff.2 ⟨by simp, ?_⟩
    show Tot ((plan_quota (q32 (1, 3)) (q32 (5, 6)) 4).bind fun y5 => (ratio_Floor y5).bind fun y6 => (nat_Word y6).bind fun y7 => (nat_Of (1 : Int)).bind fun y8 => (ratio_Make y6 y8).bind fun y9 => (ratio_Sub y5 y9.1).bind fun y10 =>
      ass ((([((0 : Int), (2 : Int), q32 (2, 5))].length + [((1 : Int), IntKind.i64.wrap y7.1, y10.1)].length : Nat) : Int) ≤ limA) <| bnd ([((0 : Int), (2 : Int), q32 (2, 5))] ++ [((1 : Int), IntKind.i64.wrap y7.1, y10.1)]) fun x11 => bnd (IntKind.i64.wrap ((1 : Int) + (1 : Int))) fun x12 => some (Sum.inl (x11, x12))) _
    rw [ex_q1, Option.bind_some, f1, Option.bind_some, w1, Option.bind_some, exOf1, Option.bind_some, k1, Option.bind_some, s1, Option.bind_some, exw2]
    refine Tot.ass_iff.2 ⟨by simp only [List.length_singleton]; unfold limA; omega, ?_⟩
    show Tot (some (Sum.inl ([((0 : Int), (2 : Int), q32 (2, 5)), ((1 : Int), IntKind.i64.wrap ((1 : Nat) : Int), q32 (3, 5))], 2))) _
    rw [c1]
    exact Tot.some_iff.2 rfl
  have b2 : plan_parts_b1 [q32 (1, 2), q32 (1, 3)] (q32 (5, 6)) 4 [(0, 2, q32 (2, 5)), (1, 1, q32 (3, 5))] 2 = some (.inr [(0, 2, q32 (2, 5)), (1, 1, q32 (3, 5))]) := rfl
  unfold plan_parts
  exact (loop_inl b0).trans ((loop_inl b1).trans (loop_inr b2))

abbrev exA : D_plan_part := (0, 2, q32 (2, 5))
abbrev exB : D_plan_part := (1, 1, q32 (3, 5))

theorem ex_sort : slices_SortStableFunc_plan_part_plan_part [exA, exB] (fun x => plan_Split_c1 x.1 x.2) = some [exB, exA] := by
  have hc : plan_Split_c1 exB exA = some (-1) := by
    unfold plan_Split_c1
    show (ratio_Cmp (q32 (2, 5)) (q32 (3, 5))).bind _ = _
    rw [ratio_Cmp_eq (k := 1) (s16 (by omega) (by omega)) (s16 (by omega) (by omega)) (by omega)]
    rfl
  have i1 : slices_insertionSortCmpFunc_plan_part_b2 0 (fun x => plan_Split_c1 x.1 x.2) 1 [exA, exB] 1 = some (.inl ([exB, exA], 0)) := by
    rw [← Tot.eq_iff]
    unfold slices_insertionSortCmpFunc_plan_part_b2
    have hw : IntKind.i64.wrap ((1 : Int) - 1) = 0 := by decide
    rw [hw]
    refine Tot.ass_iff.2 ⟨fun _ => by simp, Tot.ass_iff.2 ⟨fun _ => by simp, ?_⟩⟩
    show Tot ((plan_Split_c1 exB exA).bind fun y9 => _) _
    rw [hc, Option.bind_some]
    refine Tot.ass_iff.2 ⟨by simp, Tot.ass_iff.2 ⟨by simp, Tot.ass_iff.2 ⟨by simp [wr], ?_⟩⟩⟩
    exact Tot.some_iff.2 rfl
  have i2 : slices_insertionSortCmpFunc_plan_part_b2 0 (fun x => plan_Split_c1 x.1 x.2) 1 [exB, exA] 0 = some (.inr (.inl ([exB, exA], 2))) := by
    rw [← Tot.eq_iff]
    unfold slices_insertionSortCmpFunc_plan_part_b2
    refine Tot.ass_iff.2 ⟨fun h => absurd h (by decide), Tot.ass_iff.2 ⟨fun h => absurd h (by decide), ?_⟩⟩
    exact Tot.some_iff.2 (by show Sum.inr (Sum.inl ([exB, exA], IntKind.i64.wrap ((1 : Int) + 1))) = _; rw [exw2])
  have i3 : slices_insertionSortCmpFunc_plan_part_b1 0 2 (fun x => plan_Split_c1 x.1 x.2) [exA, exB] 1 = some (.inl ([exB, exA], 2)) := by
    unfold slices_insertionSortCmpFunc_plan_part_b1
    exact (loop_inl i1).trans (loop_inr i2)
  have i4 : slices_insertionSortCmpFunc_plan_part_b1 0 2 (fun x => plan_Split_c1 x.1 x.2) [exB, exA] 2 = some (.inr [exB, exA]) := rfl
  have i5 : slices_insertionSortCmpFunc_plan_part [exA, exB] 0 2 (fun x => plan_Split_c1 x.1 x.2) = some [exB, exA] := by
    unfold slices_insertionSortCmpFunc_plan_part
    rw [exw1]
    exact (loop_inl i3).trans (loop_inr i4)
  have i6 : slices_stableCmpFunc_plan_part_b1 2 (fun x => plan_Split_c1 x.1 x.2) [exB, exA] 20 = some (.inr [exB, exA]) := rfl
  have i7 : slices_stableCmpFunc_plan_part_b3 2 (fun x => plan_Split_c1 x.1 x.2) [exA, exB] 0 20 = some (.inr [exB, exA]) := by
    unfold slices_stableCmpFunc_plan_part_b3
    show (slices_stableCmpFunc_plan_part_j1 2 (fun x => plan_Split_c1 x.1 x.2) [exA, exB] 0).map Sum.inr = _
    unfold slices_stableCmpFunc_plan_part_j1
    rw [i5, Option.bind_some, loop_inr i6]
    rfl
  unfold slices_SortStableFunc_plan_part_plan_part slices_stableCmpFunc_plan_part
  show (loopM (fun x : (List D_plan_part) × Int × Int => slices_stableCmpFunc_plan_part_b3 2 (fun x => plan_Split_c1 x.1 x.2) x.1 x.2.1 x.2.2) ([exA, exB], (0 : Int), (20 : Int))).bind _ = _
  rw [loop_inr i7]
  rfl
end Go.Tom
