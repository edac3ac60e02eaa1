/- Chapter 48's example. -/
import Derived.Test.YtomdhjdgcfcjdaaPN24
set_option linter.unusedVariables false
set_option linter.unusedSimpArgs false
namespace Go.Tom
open Go

theorem d32_ne {a : Nat} (h : 0 < a) : (((d32 a).length : Int) == 0) = false := by
  rw [beq_eq_false_iff_ne]
  exact fun hc => by have := d32_nil (x := a) (by omega); omega

theorem ex_split : plan_Split [q32 (1, 2), q32 (1, 3)] 4 = some ([2, 2], 0) := by
  have w2 : IntKind.i64.wrap ((4 : Int) - 2) = 2 := by decide
  have w1 : IntKind.i64.wrap ((2 : Int) - 1) = 1 := by decide
  have s0 : plan_Split_b1 1 [exB, exA] [exB] [2, 1] 0 = some (.inl ([2, 2], 1)) := by
    rw [← Tot.eq_iff]
    unfold plan_Split_b1
    refine Tot.ass_iff.2 ⟨by simp, Tot.ass_iff.2 ⟨by show (0 : Int) ≤ 1 ∧ (1 : Int) < 2; omega, ?_⟩⟩
    show Tot (some (Sum.inl (wr [(2 : Int), 1] 1 (IntKind.i64.wrap ((1 : Int) + 1)), IntKind.i64.wrap ((0 : Int) + 1)))) _
    rw [exw1, exw2]
    exact Tot.some_iff.2 rfl
  have s1 : plan_Split_b1 1 [exB, exA] [exB] [2, 2] 1 = some (.inr ([2, 2], 0)) := rfl
  have j1 : plan_Split_j1 [exA, exB] [2, 1] 1 = some ([2, 2], 0) := by
    rw [← Tot.eq_iff]
    unfold plan_Split_j1
    rw [ex_sort, Option.bind_some]
    refine Tot.ass_iff.2 ⟨by simp, ?_⟩
    show Tot (loopM (fun x : (List Int) × Int => plan_Split_b1 1 [exB, exA] [exB] x.1 x.2) ([2, 1], (0 : Int))) _
    rw [loop_inl s0]
    rw [loop_inr s1]
    exact Tot.some_iff.2 rfl
  have b0 : plan_Split_b2 [exA, exB] [0, 0] 4 0 = some (.inl ([2, 0], 2, 1)) := by
    rw [← Tot.eq_iff]
    unfold plan_Split_b2
    refine Tot.ass_iff.2 ⟨by simp, Tot.ass_iff.2 ⟨by show (0 : Int) ≤ 0 ∧ (0 : Int) < 2; omega, ?_⟩⟩
    show Tot (some (Sum.inl (wr [(0 : Int), 0] 0 2, IntKind.i64.wrap ((4 : Int) - 2), IntKind.i64.wrap ((0 : Int) + 1)))) _
    rw [exw1, w2]
    exact Tot.some_iff.2 rfl
  have b1 : plan_Split_b2 [exA, exB] [2, 0] 2 1 = some (.inl ([2, 1], 1, 2)) := by
    rw [← Tot.eq_iff]
    unfold plan_Split_b2
    refine Tot.ass_iff.2 ⟨by simp, Tot.ass_iff.2 ⟨by show (0 : Int) ≤ 1 ∧ (1 : Int) < 2; omega, ?_⟩⟩
    show Tot (some (Sum.inl (wr [(2 : Int), 0] 1 1, IntKind.i64.wrap ((2 : Int) - 1), IntKind.i64.wrap ((1 : Int) + 1)))) _
    rw [exw2, w1]
    exact Tot.some_iff.2 rfl
  have b2 : plan_Split_b2 [exA, exB] [2, 1] 1 2 = some (.inr ([2, 2], 0)) := by
    unfold plan_Split_b2
    show (plan_Split_j1 [exA, exB] [2, 1] 1).map Sum.inr = _
    rw [j1]
    rfl
  rw [← Tot.eq_iff]
  unfold plan_Split
  rw [ex_add, Option.bind_some]
  have c1 : decide ((([q32 (1, 2), q32 (1, 3)] : List D_api_Ratio).length : Int) > 96) = false := decide_eq_false (by simp)
  have c2 : ((decide ((4 : Int) < (0 : Int))) || (decide ((4 : Int) > (1048576 : Int)))) = false := by decide
  have c3 : (((d32 5).length : Int) == 0) = false := d32_ne (by omega)
  rw [c1, cond_false, c2, cond_false]
  show Tot (bif ((d32 5).length : Int) == (0 : Int) then some (([] : List Int), (16 : Int)) else (plan_parts [q32 (1, 2), q32 (1, 3)] (q32 (5, 6)) 4).bind fun y2 =>
    ass (0 ≤ (([q32 (1, 2), q32 (1, 3)] : List D_api_Ratio).length : Int) ∧ (([q32 (1, 2), q32 (1, 3)] : List D_api_Ratio).length : Int) ≤ (([q32 (1, 2), q32 (1, 3)] : List D_api_Ratio).length : Int) ∧ (([q32 (1, 2), q32 (1, 3)] : List D_api_Ratio).length : Int) ≤ lim) <|
    bnd (List.replicate (([q32 (1, 2), q32 (1, 3)] : List D_api_Ratio).length : Int).toNat (0 : Int)) fun x3 =>
    loopM (fun x : (List Int) × Int × Int => plan_Split_b2 y2 x.1 x.2.1 x.2.2) (x3, (4 : Int), (0 : Int))) _
  rw [c3, cond_false, ex_parts, Option.bind_some]
  refine Tot.ass_iff.2 ⟨⟨by simp, Int.le_refl _, by simp; unfold lim; omega⟩, ?_⟩
  show Tot (loopM (fun x : (List Int) × Int × Int => plan_Split_b2 [exA, exB] x.1 x.2.1 x.2.2) ([0, 0], (4 : Int), (0 : Int))) _
  rw [loop_inl b0]
  rw [loop_inl b1]
  rw [loop_inr b2]
  exact Tot.some_iff.2 rfl

theorem r04_Out_eq {p : FP} (h : S16 1000000 p) : r04_Out (q16 p) = some (q32 p) := by
  obtain ⟨h1, h2⟩ := h
  rw [← Tot.eq_iff]
  unfold r04_Out
  rw [Tot.bnd_iff]
  show Tot ((r03_Out (d16 p.1)).bind fun y2 => (r03_Out (d16 p.2)).bind fun y3 => bnd ((y2, y3)) fun x4 => some x4) _
  rw [r03_Out_eq (by omega), Option.bind_some, r03_Out_eq (by omega), Option.bind_some]
  exact Tot.some_iff.2 rfl

theorem r04_Same_eq {p q : FP} (hp : S16 100000 p) (hq : S16 1000000 q) : r04_Same (q32 p) (q16 q) = some (decide (d32 p.1 = d32 q.1) && decide (d32 p.2 = d32 q.2)) := by
  obtain ⟨h1, h2⟩ := hq
  have a1 := d32_le16 p.1
  have a2 := d32_le16 p.2
  obtain ⟨k1, k2⟩ := hp
  rw [← Tot.eq_iff]
  unfold r04_Same
  show Tot ((r03_Out (d16 q.1)).bind fun y1 => (r03_Same (d32 p.1) y1).bind fun y2 => (bif y2 then r03_Out (d16 q.2) else some ([] : List Int)).bind fun y3 => (bif y2 then r03_Same (d32 p.2) y3 else some false).bind fun y4 => bnd (y2 && y4) fun x5 => some x5) _
  rw [r03_Out_eq (by omega), Option.bind_some, r03_Same_eq (d32 p.1) _ (by omega), Option.bind_some]
  cases decide (d32 p.1 = d32 q.1) with
  | false => exact Tot.some_iff.2 rfl
  | true =>
    rw [cond_true, r03_Out_eq (by omega), Option.bind_some, cond_true, r03_Same_eq (d32 p.2) _ (by omega), Option.bind_some]
    exact Tot.some_iff.2 rfl

theorem ex_short : Short [(1, 2), (1, 3)] := by
  intro p hp
  rcases List.mem_cons.1 hp with rfl | hp
  · exact ⟨(s16 (by omega) (by omega)).mono (by omega), by decide, by decide⟩
  · rw [List.mem_singleton] at hp
    subst hp
    exact ⟨(s16 (by omega) (by omega)).mono (by omega), by decide, by decide⟩

theorem ex_exact : plan_Exact [q32 (1, 2), q32 (1, 3)] = some ([3, 2], 0) := by
  have h := plan_Exact_eq (l := [(1, 2), (1, 3)]) (by simp) ex_short
  have e : ([(1, 2), (1, 3)] : List FP).map q32 = [q32 (1, 2), q32 (1, 3)] := rfl
  have hw : wantL [(1, 2), (1, 3)] = [3, 2] := by decide
  have hg : ¬ gcdF 0 (upL [(1, 2), (1, 3)]) = 0 := by decide
  rw [e, if_neg hg, hw, if_pos (by decide)] at h
  exact h

theorem l48_alive_eq : l48_alive = some true := by
  have o12 : r04_Of (1 : Int) (2 : Int) = some (q16 (1, 2)) := r04_Of_eq (a := 1) (b := 2) (by omega) (by omega) (by decide)
  have o13 : r04_Of (1 : Int) (3 : Int) = some (q16 (1, 3)) := r04_Of_eq (a := 1) (b := 3) (by omega) (by omega) (by decide)
  have o75 : r04_Of (7 : Int) (5 : Int) = some (q16 (7, 5)) := r04_Of_eq (a := 7) (b := 5) (by omega) (by omega) (by decide)
  have o32 : r04_Of (3 : Int) (2 : Int) = some (q16 (3, 2)) := r04_Of_eq (a := 3) (b := 2) (by omega) (by omega) (by decide)
  have u12 : r04_Out (q16 (1, 2)) = some (q32 (1, 2)) := r04_Out_eq ((s16 (by omega) (by omega)).mono (by omega))
  have u13 : r04_Out (q16 (1, 3)) = some (q32 (1, 3)) := r04_Out_eq ((s16 (by omega) (by omega)).mono (by omega))
  have u75 : r04_Out (q16 (7, 5)) = some (q32 (7, 5)) := r04_Out_eq ((s16 (by omega) (by omega)).mono (by omega))
  have i32 : r11_Ints [3, 2] [3, 2] = some true := by rw [r11_Ints_eq' _ _ (by simp)]; rfl
  have i22 : r11_Ints [2, 2] [2, 2] = some true := by rw [r11_Ints_eq' _ _ (by simp)]; rfl
  have hs : r04_Same (q32 (3, 2)) (q16 (3, 2)) = some true := by
    rw [r04_Same_eq ((s16 (by omega) (by omega)).mono (by omega)) ((s16 (by omega) (by omega)).mono (by omega)), decide_eq_true rfl, decide_eq_true rfl]
    rfl
  unfold l48_alive
  rw [o12, Option.bind_some, u12, Option.bind_some, o13, Option.bind_some, u13, Option.bind_some, ex_exact, Option.bind_some, ex_split, Option.bind_some, o75, Option.bind_some, u75, Option.bind_some, ex_near, Option.bind_some]
  show (r11_Ints [3, 2] [3, 2]).bind _ = _
  rw [i32, Option.bind_some]
  show (r11_Ints [2, 2] [2, 2]).bind _ = _
  rw [i22, Option.bind_some]
  show (r04_Of (3 : Int) (2 : Int)).bind _ = _
  rw [o32, Option.bind_some]
  show (r04_Same (q32 (3, 2)) (q16 (3, 2))).bind _ = _
  rw [hs, Option.bind_some]
  rfl
end Go.Tom
