/- Each function of the program as a pure one, and the proof that the code keeps that contract. -/
import Derived.Test.YtomdhjdgcfcjdaaGenA
set_option linter.unusedVariables false
set_option linter.constructorNameAsVariable false
set_option maxRecDepth 100000
namespace Go.Tom
open Go Go.IntKind Go.Proofs.Try
noncomputable section
def plan_Split_j2 (x8 : List Int) : Option ((List Int) × Int) :=
  some (x8, (0 : Int))
def plan_Split_b1 (x5 : Int) (y6 : List D_plan_part) (x7 : List D_plan_part) (x9 : List Int) (x10 : Int) : Option (((List Int) × Int) ⊕ ((List Int) × Int)) :=
  bif decide (x10 < ((sl y6 (0 : Int) x5).length : Int)) then
    ass (0 ≤ x10 ∧ x10 < (x7.length : Int)) <|
    bnd (rd z_plan_part x7 x10) fun x11 =>
    ass (0 ≤ x11.1 ∧ x11.1 < (x9.length : Int)) <|
    bnd (wr x9 x11.1 (i64.wrap ((rd (0 : Int) x9 x11.1) + 1))) fun x12 =>
    bnd (i64.wrap (x10 + 1)) fun x13 =>
    some (.inl (x12, x13))
  else
  (plan_Split_j2 x9).map .inr
def plan_Split_j1 (y2 : List D_plan_part) (x4 : List Int) (x5 : Int) : Option ((List Int) × Int) :=
  (slices_SortStableFunc_plan_part_plan_part y2 (fun x => plan_Split_c1 x.1 x.2)).bind fun y6 =>
  ass (0 ≤ (0 : Int) ∧ (0 : Int) ≤ x5 ∧ x5 ≤ (y6.length : Int)) <|
  bnd (sl y6 (0 : Int) x5) fun x7 =>
  loopM (fun x : (List Int) × Int => plan_Split_b1 x5 y6 x7 x.1 x.2) (x4, (0 : Int))
def plan_Split_b2 (y2 : List D_plan_part) (x14 : List Int) (x15 : Int) (x16 : Int) : Option (((List Int) × Int × Int) ⊕ ((List Int) × Int)) :=
  bif decide (x16 < (y2.length : Int)) then
    ass (0 ≤ x16 ∧ x16 < (y2.length : Int)) <|
    bnd (rd z_plan_part y2 x16) fun x17 =>
    ass (0 ≤ x17.1 ∧ x17.1 < (x14.length : Int)) <|
    bnd (wr x14 x17.1 x17.2.1) fun x18 =>
    bnd (i64.wrap (x15 - x17.2.1)) fun x19 =>
    bnd (i64.wrap (x16 + 1)) fun x20 =>
    some (.inl (x18, x19, x20))
  else
  (plan_Split_j1 y2 x14 x15).map .inr
def plan_Split (p0 : List D_api_Ratio) (p1 : Int) : Option ((List Int) × Int) :=
  (ratio_Add p0).bind fun y1 =>
  bif decide ((p0.length : Int) > 96) then
    some (([] : List Int), (5 : Int))
  else
  bif (decide (p1 < 0)) || (decide (p1 > 1048576)) then
    some (([] : List Int), (1 : Int))
  else
  bif (y1.1.length : Int) == 0 then
    some (([] : List Int), (16 : Int))
  else
  (plan_parts p0 y1 p1).bind fun y2 =>
  ass (0 ≤ (p0.length : Int) ∧ (p0.length : Int) ≤ (p0.length : Int) ∧ (p0.length : Int) ≤ lim) <|
  bnd (List.replicate (p0.length : Int).toNat (0 : Int)) fun x3 =>
  loopM (fun x : (List Int) × Int × Int => plan_Split_b2 y2 x.1 x.2.1 x.2.2) (x3, p1, (0 : Int))
theorem plan_Split.ok {p0 : List D_api_Ratio} {p1 : Int} {r : (List Int) × Int} (h : plan_Split p0 p1 = some r) : ACall prog 26 [⟨.slice T_api_Ratio, p0⟩, ⟨.int .i64, p1⟩] [⟨9, .slice (.int .i64), r.1⟩, ⟨0, .int .i64, r.2⟩] := by
  replace h := Leads.of h
  unfold plan_Split at h
  refine AC func26 rfl fun w0 F0 hw0 => ?_
  refine W_seq ?_
  refine R [] [(0, .v 0 (.slice T_api_Ratio) p0), (1, .v 0 (.int .i64) p1)] pz ?_
  refine W_seq ?_
  obtain ⟨y1, ey1, h⟩ := h.bind
  refine R [.res [(0, ⟨0, T_api_Ratio, y1⟩)]] [(0, .v 0 (.slice T_api_Ratio) p0), (1, .v 0 (.int .i64) p1), (6, .box 0 T_api_Ratio y1)] (ps (ratio_Add.ok ey1)) ?_
  refine W_seq (W_block (W_seq ?_))
  refine R [] [(0, .v 0 (.slice T_api_Ratio) p0), (1, .v 0 (.int .i64) p1), (6, .box 0 T_api_Ratio y1), (16, .v 0 .bool (decide ((p0.length : Int) > 96)))] pz ?_
  refine C h (fun h => ?_) fun h => ?_
  · refine W_seq ?_
    refine R [] [(4, .v 9 (.slice (.int .i64)) ([] : List Int)), (5, .v 0 (.int .i64) (5 : Int))] pz ?_
    cases h
    exact Rt hw0
  refine W_seq ?_
  refine R [] [(0, .v 0 (.slice T_api_Ratio) p0), (1, .v 0 (.int .i64) p1), (6, .box 0 T_api_Ratio y1), (20, .v 0 .bool ((decide (p1 < 0)) || (decide (p1 > 1048576))))] pz ?_
  refine C h (fun h => ?_) fun h => ?_
  · refine W_seq ?_
    refine R [] [(4, .v 9 (.slice (.int .i64)) ([] : List Int)), (5, .v 0 (.int .i64) (1 : Int))] pz ?_
    cases h
    exact Rt hw0
  refine W_seq ?_
  refine R [] [(0, .v 0 (.slice T_api_Ratio) p0), (1, .v 0 (.int .i64) p1), (6, .box 0 T_api_Ratio y1), (27, .v 0 .bool ((y1.1.length : Int) == 0))] pz ?_
  refine C h (fun h => ?_) fun h => ?_
  · refine W_seq ?_
    refine R [] [(4, .v 9 (.slice (.int .i64)) ([] : List Int)), (5, .v 0 (.int .i64) (16 : Int))] pz ?_
    cases h
    exact Rt hw0
  refine W_skip (W_blk (W_seq ?_))
  obtain ⟨y2, ey2, h⟩ := h.bind
  refine R [.res [(1, ⟨1, .slice T_plan_part, y2⟩)]] [(0, .v 0 (.slice T_api_Ratio) p0), (1, .v 0 (.int .i64) p1), (7, .v 1 (.slice T_plan_part) y2)] (ps (plan_parts.ok ey2)) ?_
  refine W_seq ?_
  obtain ⟨o1, h⟩ := h.ass
  refine R1 h [] (fun x3 => [(7, .v 1 (.slice T_plan_part) y2), (8, .v 9 (.slice (.int .i64)) x3), (9, .v 0 (.int .i64) p1)]) (ps o1) fun x3 h => ?_
  refine W_seq (W_seq ?_)
  refine R [] [(7, .v 1 (.slice T_plan_part) y2), (8, .v 9 (.slice (.int .i64)) x3), (9, .v 0 (.int .i64) p1), (40, .bor 7 []), (41, .v 0 (.int .i64) (y2.length : Int)), (42, .v 0 (.int .i64) (0 : Int))] pz ?_
  refine J2 h (plan_Split_j1 y2) (fun x4 x5 => [(7, .v 1 (.slice T_plan_part) y2), (8, .v 9 (.slice (.int .i64)) x4), (9, .v 0 (.int .i64) x5)]) (fun x4 x5 h => ?_) fun j1 => ?_
  · unfold plan_Split_j1 at h
    refine W_seq ?_
    obtain ⟨y6, ey6, h⟩ := h.bind
    refine R [.inn (.v 1 (.slice T_plan_part) y6), .fn (.prod T_plan_part T_plan_part) (.int .i64) (fun x => plan_Split_c1 x.1 x.2), .res []] [(7, .v 1 (.slice T_plan_part) y6), (8, .v 9 (.slice (.int .i64)) x4), (9, .v 0 (.int .i64) x5)] (pc (fun x y e => ACall.flat rfl (plan_Split_c1.ok e) : ∀ x y, (fun x => plan_Split_c1 x.1 x.2) x = some y → ACall prog 56 (unprod (.prod T_plan_part T_plan_part) x ++ []) [⟨9, .int .i64, y⟩]) (ps (slices_SortStableFunc_plan_part_plan_part.ok ey6))) ?_
    refine W_seq (W_seq ?_)
    refine K (E' := [(7, .v 0 (.slice T_plan_part) y6), (8, .v 9 (.slice (.int .i64)) x4), (9, .v 0 (.int .i64) x5)]) ?_
    obtain ⟨o1, h⟩ := h.ass
    refine R1 h [] (fun x7 => [(8, .v 9 (.slice (.int .i64)) x4), (61, .v 0 (.slice T_plan_part) x7), (62, .v 0 (.int .i64) ((sl y6 (0 : Int) x5).length : Int)), (63, .v 0 (.int .i64) (0 : Int))]) (ps o1) fun x7 h => ?_
    refine J1 h plan_Split_j2 (fun x8 => [(8, .v 9 (.slice (.int .i64)) x8)]) (fun x8 h => ?_) fun j2 => ?_
    · unfold plan_Split_j2 at h
      refine W_seq ?_
      refine R [] [(4, .v 9 (.slice (.int .i64)) x8), (5, .v 0 (.int .i64) (0 : Int))] pz ?_
      cases h
      exact Rt hw0
    refine W_block ?_
    refine L2 h (fun x9 x10 => [(8, .v 9 (.slice (.int .i64)) x9), (61, .v 0 (.slice T_plan_part) x7), (62, .v 0 (.int .i64) ((sl y6 (0 : Int) x5).length : Int)), (63, .v 0 (.int .i64) x10)]) fun x9 x10 _ h => ?_
    unfold plan_Split_b1 at h
    refine W_seq ?_
    refine R [] [(8, .v 9 (.slice (.int .i64)) x9), (61, .v 0 (.slice T_plan_part) x7), (62, .v 0 (.int .i64) ((sl y6 (0 : Int) x5).length : Int)), (63, .v 0 (.int .i64) x10), (64, .v 0 .bool (decide (x10 < ((sl y6 (0 : Int) x5).length : Int))))] pz ?_
    refine W_seq ?_
    refine C h (fun h => ?_) fun h => ?_
    · refine W_skip (W_seq (W_block (W_seq ?_)))
      obtain ⟨o1, h⟩ := h.ass
      refine R1 h [] (fun x11 => [(8, .v 9 (.slice (.int .i64)) x9), (13, .box 0 T_plan_part x11), (61, .v 0 (.slice T_plan_part) x7), (62, .v 0 (.int .i64) ((sl y6 (0 : Int) x5).length : Int)), (63, .v 0 (.int .i64) x10)]) (ps o1) fun x11 h => ?_
      obtain ⟨o1, h⟩ := h.ass
      refine R1 h [] (fun x12 => [(8, .v 9 (.slice (.int .i64)) x12), (61, .v 0 (.slice T_plan_part) x7), (62, .v 0 (.int .i64) ((sl y6 (0 : Int) x5).length : Int)), (63, .v 0 (.int .i64) x10)]) (pc o1 (ps o1)) fun x12 h => ?_
      refine W_blk ?_
      refine R1 h [] (fun x13 => [(8, .v 9 (.slice (.int .i64)) x12), (61, .v 0 (.slice T_plan_part) x7), (62, .v 0 (.int .i64) ((sl y6 (0 : Int) x5).length : Int)), (63, .v 0 (.int .i64) x13)]) pz fun x13 h => ?_
      exact B h
    refine W_exit rfl ?_
    exact K (j2 x9 h.back)
  refine W_block ?_
  refine L3 h (fun x14 x15 x16 => [(7, .v 1 (.slice T_plan_part) y2), (8, .v 9 (.slice (.int .i64)) x14), (9, .v 0 (.int .i64) x15), (40, .bor 7 []), (41, .v 0 (.int .i64) (y2.length : Int)), (42, .v 0 (.int .i64) x16)]) fun x14 x15 x16 _ h => ?_
  unfold plan_Split_b2 at h
  refine W_seq ?_
  refine R [] [(7, .v 1 (.slice T_plan_part) y2), (8, .v 9 (.slice (.int .i64)) x14), (9, .v 0 (.int .i64) x15), (40, .bor 7 []), (41, .v 0 (.int .i64) (y2.length : Int)), (42, .v 0 (.int .i64) x16), (43, .v 0 .bool (decide (x16 < (y2.length : Int))))] pz ?_
  refine W_seq ?_
  refine C h (fun h => ?_) fun h => ?_
  · refine W_skip (W_seq (W_block (W_seq ?_)))
    obtain ⟨o1, h⟩ := h.ass
    refine R1 h [] (fun x17 => [(7, .v 1 (.slice T_plan_part) y2), (8, .v 9 (.slice (.int .i64)) x14), (9, .v 0 (.int .i64) x15), (11, .box 0 T_plan_part x17), (40, .bor 7 []), (41, .v 0 (.int .i64) (y2.length : Int)), (42, .v 0 (.int .i64) x16)]) (ps o1) fun x17 h => ?_
    refine W_seq ?_
    obtain ⟨o1, h⟩ := h.ass
    refine R1 h [] (fun x18 => [(7, .v 1 (.slice T_plan_part) y2), (8, .v 9 (.slice (.int .i64)) x18), (9, .v 0 (.int .i64) x15), (11, .box 0 T_plan_part x17), (40, .bor 7 []), (41, .v 0 (.int .i64) (y2.length : Int)), (42, .v 0 (.int .i64) x16)]) (ps o1) fun x18 h => ?_
    refine R1 h [] (fun x19 => [(7, .v 1 (.slice T_plan_part) y2), (8, .v 9 (.slice (.int .i64)) x18), (9, .v 0 (.int .i64) x19), (40, .bor 7 []), (41, .v 0 (.int .i64) (y2.length : Int)), (42, .v 0 (.int .i64) x16)]) pz fun x19 h => ?_
    refine W_blk ?_
    refine R1 h [] (fun x20 => [(7, .v 1 (.slice T_plan_part) y2), (8, .v 9 (.slice (.int .i64)) x18), (9, .v 0 (.int .i64) x19), (40, .bor 7 []), (41, .v 0 (.int .i64) (y2.length : Int)), (42, .v 0 (.int .i64) x20)]) pz fun x20 h => ?_
    exact B h
  refine W_exit rfl ?_
  exact K (j1 x14 x15 h.back)

def plan_steps_j1 (x1 : Int) : Option (Int) :=
  some x1
def plan_steps_b1 (p0 : D_api_Ratio) (p1 : D_api_Ratio) (p2 : D_api_Ratio) (p3 : Int) (p4 : Bool) (x2 : Int) (x3 : Int) : Option ((Int × Int) ⊕ Int) :=
  bif decide (x2 < x3) then
    ass ((2 : Int) ≠ 0) <|
    bnd (u64.wrap (x2 + (u64.wrap ((u64.wrap ((u64.wrap (x3 - x2)) + 1)).tdiv 2)))) fun x4 =>
    (nat_Of x4).bind fun y5 =>
    (nat_Mul [y5, p1.1]).bind fun y6 =>
    (nat_Add [p0.1, y6]).bind fun y7 =>
    (nat_Mul [y5, p1.2]).bind fun y8 =>
    (nat_Add [p0.2, y8]).bind fun y9 =>
    bnd ((y7, y9)) fun x10 =>
    (ratio_Cmp x10 p2).bind fun y11 =>
    (nat_Of p3).bind fun y12 =>
    (nat_Cmp x10.2 y12).bind fun y13 =>
    bif (decide (y13 ≤ 0)) && ((p4 && (decide (y11 ≤ 0))) || ((!p4) && (decide (y11 ≥ 0)))) then
      some (.inl (x4, x3))
    else
    bnd (u64.wrap (x4 - 1)) fun x14 =>
    some (.inl (x2, x14))
  else
  (plan_steps_j1 x2).map .inr
def plan_steps (p0 : D_api_Ratio) (p1 : D_api_Ratio) (p2 : D_api_Ratio) (p3 : Int) (p4 : Bool) : Option Int :=
  loopM (fun x : Int × Int => plan_steps_b1 p0 p1 p2 p3 p4 x.1 x.2) ((0 : Int), p3)
theorem plan_steps.ok {p0 : D_api_Ratio} {p1 : D_api_Ratio} {p2 : D_api_Ratio} {p3 : Int} {p4 : Bool} {r : Int} (h : plan_steps p0 p1 p2 p3 p4 = some r) : ACall prog 40 [⟨T_api_Ratio, p0⟩, ⟨T_api_Ratio, p1⟩, ⟨T_api_Ratio, p2⟩, ⟨.int .u64, p3⟩, ⟨.bool, p4⟩] [⟨0, .int .u64, r⟩] := by
  replace h := Leads.of h
  unfold plan_steps at h
  refine AC func40 rfl fun w0 F0 hw0 => ?_
  refine W_seq ?_
  refine R [] [(3, .v 0 (.int .u64) p3), (4, .v 0 .bool p4), (5, .box 0 T_api_Ratio p0), (6, .box 0 T_api_Ratio p1), (7, .box 0 T_api_Ratio p2)] pz ?_
  refine W_seq ?_
  refine R [] [(3, .v 0 (.int .u64) p3), (4, .v 0 .bool p4), (5, .box 0 T_api_Ratio p0), (6, .box 0 T_api_Ratio p1), (7, .box 0 T_api_Ratio p2), (11, .v 0 (.int .u64) (0 : Int)), (12, .v 0 (.int .u64) p3)] pz ?_
  refine W_seq ?_
  refine J1 h plan_steps_j1 (fun x1 => [(11, .v 0 (.int .u64) x1)]) (fun x1 h => ?_) fun j1 => ?_
  · unfold plan_steps_j1 at h
    refine W_seq ?_
    refine R [] [(10, .v 0 (.int .u64) x1)] pz ?_
    cases h
    exact Rt hw0
  refine W_block ?_
  refine L2 h (fun x2 x3 => [(3, .v 0 (.int .u64) p3), (4, .v 0 .bool p4), (5, .box 0 T_api_Ratio p0), (6, .box 0 T_api_Ratio p1), (7, .box 0 T_api_Ratio p2), (11, .v 0 (.int .u64) x2), (12, .v 0 (.int .u64) x3)]) fun x2 x3 _ h => ?_
  unfold plan_steps_b1 at h
  refine W_seq (W_seq ?_)
  refine R [] [(3, .v 0 (.int .u64) p3), (4, .v 0 .bool p4), (5, .box 0 T_api_Ratio p0), (6, .box 0 T_api_Ratio p1), (7, .box 0 T_api_Ratio p2), (11, .v 0 (.int .u64) x2), (12, .v 0 (.int .u64) x3), (20, .v 0 .bool (decide (x2 < x3)))] pz ?_
  refine C h (fun h => ?_) fun h => ?_
  · refine W_skip (W_block (W_seq ?_))
    obtain ⟨o1, h⟩ := h.ass
    refine R1 h [] (fun x4 => [(3, .v 0 (.int .u64) p3), (4, .v 0 .bool p4), (5, .box 0 T_api_Ratio p0), (6, .box 0 T_api_Ratio p1), (7, .box 0 T_api_Ratio p2), (11, .v 0 (.int .u64) x2), (12, .v 0 (.int .u64) x3), (13, .v 0 (.int .u64) x4)]) (ps o1) fun x4 h => ?_
    refine W_seq ?_
    obtain ⟨y5, ey5, h⟩ := h.bind
    refine R [.res [(9, ⟨9, .slice (.int .u32), y5⟩)]] [(3, .v 0 (.int .u64) p3), (4, .v 0 .bool p4), (5, .box 0 T_api_Ratio p0), (6, .box 0 T_api_Ratio p1), (7, .box 0 T_api_Ratio p2), (11, .v 0 (.int .u64) x2), (12, .v 0 (.int .u64) x3), (13, .v 0 (.int .u64) x4), (14, .v 9 (.slice (.int .u32)) y5)] (ps (nat_Of.ok ey5)) ?_
    refine W_seq ?_
    refine K (E' := [(3, .v 0 (.int .u64) p3), (4, .v 0 .bool p4), (5, .box 0 T_api_Ratio p0), (6, .box 0 T_api_Ratio p1), (7, .box 0 T_api_Ratio p2), (11, .v 0 (.int .u64) x2), (12, .v 0 (.int .u64) x3), (13, .v 0 (.int .u64) x4), (14, .v 0 (.slice (.int .u32)) y5)]) ?_
    obtain ⟨y6, ey6, h⟩ := h.bind
    obtain ⟨y7, ey7, h⟩ := h.bind
    obtain ⟨y8, ey8, h⟩ := h.bind
    obtain ⟨y9, ey9, h⟩ := h.bind
    refine R1 h [.res [(0, ⟨9, .slice (.int .u32), y6⟩)], .res [(0, ⟨9, .slice (.int .u32), y7⟩)], .res [(0, ⟨9, .slice (.int .u32), y8⟩)], .res [(0, ⟨9, .slice (.int .u32), y9⟩)]] (fun x10 => [(3, .v 0 (.int .u64) p3), (4, .v 0 .bool p4), (5, .box 0 T_api_Ratio p0), (6, .box 0 T_api_Ratio p1), (7, .box 0 T_api_Ratio p2), (11, .v 0 (.int .u64) x2), (12, .v 0 (.int .u64) x3), (13, .v 0 (.int .u64) x4), (15, .box 0 T_api_Ratio x10)]) (pc (nat_Mul.ok ey6) (pc (nat_Add.ok ey7) (pc (nat_Mul.ok ey8) (ps (nat_Add.ok ey9))))) fun x10 h => ?_
    refine W_seq ?_
    obtain ⟨y11, ey11, h⟩ := h.bind
    refine R [.res [(0, ⟨0, .int .i64, y11⟩)]] [(3, .v 0 (.int .u64) p3), (4, .v 0 .bool p4), (5, .box 0 T_api_Ratio p0), (6, .box 0 T_api_Ratio p1), (7, .box 0 T_api_Ratio p2), (11, .v 0 (.int .u64) x2), (12, .v 0 (.int .u64) x3), (13, .v 0 (.int .u64) x4), (15, .box 0 T_api_Ratio x10), (16, .v 0 (.int .i64) y11)] (ps (ratio_Cmp.ok ey11)) ?_
    refine W_seq ?_
    obtain ⟨y12, ey12, h⟩ := h.bind
    obtain ⟨y13, ey13, h⟩ := h.bind
    refine R [.res [(9, ⟨9, .slice (.int .u32), y12⟩)], .res [(0, ⟨0, .int .i64, y13⟩)]] [(3, .v 0 (.int .u64) p3), (4, .v 0 .bool p4), (5, .box 0 T_api_Ratio p0), (6, .box 0 T_api_Ratio p1), (7, .box 0 T_api_Ratio p2), (11, .v 0 (.int .u64) x2), (12, .v 0 (.int .u64) x3), (13, .v 0 (.int .u64) x4), (72, .v 0 .bool ((decide (y13 ≤ 0)) && ((p4 && (decide (y11 ≤ 0))) || ((!p4) && (decide (y11 ≥ 0))))))] (pc (nat_Of.ok ey12) (ps (nat_Cmp.ok ey13))) ?_
    refine C h (fun h => ?_) fun h => ?_
    · refine R [] [(3, .v 0 (.int .u64) p3), (4, .v 0 .bool p4), (5, .box 0 T_api_Ratio p0), (6, .box 0 T_api_Ratio p1), (7, .box 0 T_api_Ratio p2), (11, .v 0 (.int .u64) x4), (12, .v 0 (.int .u64) x3)] pz ?_
      refine W_blk ?_
      exact B h
    refine R1 h [] (fun x14 => [(3, .v 0 (.int .u64) p3), (4, .v 0 .bool p4), (5, .box 0 T_api_Ratio p0), (6, .box 0 T_api_Ratio p1), (7, .box 0 T_api_Ratio p2), (11, .v 0 (.int .u64) x2), (12, .v 0 (.int .u64) x14)]) pz fun x14 h => ?_
    refine W_blk ?_
    exact B h
  refine W_exit rfl ?_
  exact K (j1 x2 h.back)

def plan_between (p0 : D_api_Ratio) (p1 : D_api_Ratio) : Option D_api_Ratio :=
  bnd ((([] : List Int), ([] : List Int))) fun x1 =>
  (nat_Add [p0.1, p1.1]).bind fun y2 =>
  (nat_Add [p0.2, p1.2]).bind fun y3 =>
  bnd ((y2, y3)) fun x4 =>
  some x4
theorem plan_between.ok {p0 : D_api_Ratio} {p1 : D_api_Ratio} {r : D_api_Ratio} (h : plan_between p0 p1 = some r) : ACall prog 43 [⟨T_api_Ratio, p0⟩, ⟨T_api_Ratio, p1⟩] [⟨0, T_api_Ratio, r⟩] := by
  replace h := Leads.of h
  unfold plan_between at h
  refine AC func43 rfl fun w0 F0 hw0 => ?_
  refine W_seq ?_
  refine R1 h [] (fun x1 => [(2, .box 0 T_api_Ratio p0), (3, .box 0 T_api_Ratio p1), (4, .box 9 T_api_Ratio x1)]) pz fun x1 h => ?_
  refine W_seq ?_
  obtain ⟨y2, ey2, h⟩ := h.bind
  obtain ⟨y3, ey3, h⟩ := h.bind
  refine R1 h [.res [(0, ⟨9, .slice (.int .u32), y2⟩)], .res [(0, ⟨9, .slice (.int .u32), y3⟩)]] (fun x4 => [(4, .box 0 T_api_Ratio x4)]) (pc (nat_Add.ok ey2) (ps (nat_Add.ok ey3))) fun x4 h => ?_
  cases h
  exact Rt hw0

def plan_gap (p0 : D_api_Ratio) (p1 : D_api_Ratio) : Option D_api_Ratio :=
  bnd ((([] : List Int), ([] : List Int))) fun x1 =>
  (ratio_Sub p0 p1).bind fun y2 =>
  bif y2.2 then
    some y2.1
  else
  (ratio_Sub p1 p0).bind fun y3 =>
  some y3.1
theorem plan_gap.ok {p0 : D_api_Ratio} {p1 : D_api_Ratio} {r : D_api_Ratio} (h : plan_gap p0 p1 = some r) : ACall prog 45 [⟨T_api_Ratio, p0⟩, ⟨T_api_Ratio, p1⟩] [⟨0, T_api_Ratio, r⟩] := by
  replace h := Leads.of h
  unfold plan_gap at h
  refine AC func45 rfl fun w0 F0 hw0 => ?_
  refine W_seq ?_
  refine R1 h [] (fun x1 => [(2, .box 0 T_api_Ratio p0), (3, .box 0 T_api_Ratio p1), (4, .box 9 T_api_Ratio x1)]) pz fun x1 h => ?_
  refine W_seq (W_seq ?_)
  obtain ⟨y2, ey2, h⟩ := h.bind
  refine R [.res [(0, ⟨0, T_api_Ratio, y2.1⟩), (0, ⟨0, .bool, y2.2⟩)]] [(2, .box 0 T_api_Ratio p0), (3, .box 0 T_api_Ratio p1), (4, .box 9 T_api_Ratio x1), (5, .box 0 T_api_Ratio y2.1), (6, .v 0 .bool y2.2)] (ps (ratio_Sub.ok ey2)) ?_
  refine W_seq ?_
  refine R [] [(2, .box 0 T_api_Ratio p0), (3, .box 0 T_api_Ratio p1), (4, .box 9 T_api_Ratio x1), (5, .box 0 T_api_Ratio y2.1), (15, .v 0 .bool y2.2)] pz ?_
  refine C h (fun h => ?_) fun h => ?_
  · refine W_seq ?_
    refine R [] [(4, .box 0 T_api_Ratio y2.1)] pz ?_
    cases h
    exact Rt hw0
  refine W_skip (W_seq ?_)
  obtain ⟨y3, ey3, h⟩ := h.bind
  refine R [.res [(0, ⟨0, T_api_Ratio, y3.1⟩), (0, ⟨0, .bool, y3.2⟩)]] [(4, .box 9 T_api_Ratio x1), (7, .box 0 T_api_Ratio y3.1)] (ps (ratio_Sub.ok ey3)) ?_
  refine W_seq ?_
  refine R [] [(4, .box 0 T_api_Ratio y3.1)] pz ?_
  cases h
  exact Rt hw0

def plan_Near_j1 (p0 : D_api_Ratio) (x10 : D_api_Ratio) (x11 : D_api_Ratio) : Option (D_api_Ratio × Int) :=
  (plan_gap x11 p0).bind fun y12 =>
  (plan_gap p0 x10).bind fun y13 =>
  (ratio_Cmp y12 y13).bind fun y14 =>
  bif decide (y14 < 0) then
    some (x11, (0 : Int))
  else
  some (x10, (0 : Int))
def plan_Near_b1 (p0 : D_api_Ratio) (p1 : Int) (x15 : D_api_Ratio) (x16 : D_api_Ratio) : Option ((D_api_Ratio × D_api_Ratio) ⊕ (D_api_Ratio × Int)) :=
  (plan_steps x15 x16 p0 (u64.wrap p1) true).bind fun y17 =>
  (nat_Of y17).bind fun y18 =>
  (nat_Mul [y18, x16.1]).bind fun y19 =>
  (nat_Add [x15.1, y19]).bind fun y20 =>
  (nat_Mul [y18, x16.2]).bind fun y21 =>
  (nat_Add [x15.2, y21]).bind fun y22 =>
  bnd ((y20, y22)) fun x23 =>
  (plan_steps x16 x23 p0 (u64.wrap p1) false).bind fun y24 =>
  (nat_Of y24).bind fun y25 =>
  (nat_Mul [y25, x23.1]).bind fun y26 =>
  (nat_Add [x16.1, y26]).bind fun y27 =>
  (nat_Mul [y25, x23.2]).bind fun y28 =>
  (nat_Add [x16.2, y28]).bind fun y29 =>
  bnd ((y27, y29)) fun x30 =>
  (bif !((i64.wrap ((y18.length : Int) + (y25.length : Int))) == 0) then plan_between x23 x30 else some (([] : List Int), ([] : List Int))).bind fun y31 =>
  (bif !((i64.wrap ((y18.length : Int) + (y25.length : Int))) == 0) then nat_Of (u64.wrap p1) else some ([] : List Int)).bind fun y32 =>
  (bif !((i64.wrap ((y18.length : Int) + (y25.length : Int))) == 0) then nat_Cmp y31.2 y32 else some (0 : Int)).bind fun y33 =>
  bif ((i64.wrap ((y18.length : Int) + (y25.length : Int))) == 0) || (decide (y33 > 0)) then
    (plan_Near_j1 p0 x23 x30).map .inr
  else
  some (.inl (x23, x30))
def plan_Near (p0 : D_api_Ratio) (p1 : Int) : Option (D_api_Ratio × Int) :=
  bnd ((([] : List Int), ([] : List Int))) fun x1 =>
  bif (decide (p1 < 1)) || (decide (p1 > 1048576)) then
    bnd ((([] : List Int), ([] : List Int))) fun x2 =>
    some (x2, (1 : Int))
  else
  (ratio_Floor p0).bind fun y3 =>
  (nat_Of (1 : Int)).bind fun y4 =>
  bnd ((y3, y4)) fun x5 =>
  (nat_Of (1 : Int)).bind fun y6 =>
  (nat_Add [y3, y6]).bind fun y7 =>
  (nat_Of (1 : Int)).bind fun y8 =>
  bnd ((y7, y8)) fun x9 =>
  loopM (fun x : D_api_Ratio × D_api_Ratio => plan_Near_b1 p0 p1 x.1 x.2) (x5, x9)
theorem plan_Near.ok {p0 : D_api_Ratio} {p1 : Int} {r : D_api_Ratio × Int} (h : plan_Near p0 p1 = some r) : ACall prog 15 [⟨T_api_Ratio, p0⟩, ⟨.int .i64, p1⟩] [⟨0, T_api_Ratio, r.1⟩, ⟨0, .int .i64, r.2⟩] := by
  replace h := Leads.of h
  unfold plan_Near at h
  refine AC func15 rfl fun w0 F0 hw0 => ?_
  refine W_seq ?_
  refine R1 h [] (fun x1 => [(1, .v 0 (.int .i64) p1), (2, .box 0 T_api_Ratio p0), (4, .box 9 T_api_Ratio x1)]) pz fun x1 h => ?_
  refine W_seq (W_seq ?_)
  refine R [] [(1, .v 0 (.int .i64) p1), (2, .box 0 T_api_Ratio p0), (4, .box 9 T_api_Ratio x1), (16, .v 0 .bool ((decide (p1 < 1)) || (decide (p1 > 1048576))))] pz ?_
  refine C h (fun h => ?_) fun h => ?_
  · refine W_seq ?_
    refine R1 h [] (fun x2 => [(4, .box 0 T_api_Ratio x2), (5, .v 0 (.int .i64) (1 : Int))]) pz fun x2 h => ?_
    cases h
    exact Rt hw0
  refine W_skip (W_seq ?_)
  obtain ⟨y3, ey3, h⟩ := h.bind
  refine R [.res [(9, ⟨9, .slice (.int .u32), y3⟩)]] [(1, .v 0 (.int .i64) p1), (2, .box 0 T_api_Ratio p0), (4, .box 9 T_api_Ratio x1), (6, .v 9 (.slice (.int .u32)) y3)] (ps (ratio_Floor.ok ey3)) ?_
  refine W_seq ?_
  refine K (E' := [(1, .v 0 (.int .i64) p1), (2, .box 0 T_api_Ratio p0), (4, .box 9 T_api_Ratio x1), (6, .v 0 (.slice (.int .u32)) y3)]) ?_
  obtain ⟨y4, ey4, h⟩ := h.bind
  refine R1 h [.res [(0, ⟨9, .slice (.int .u32), y4⟩)]] (fun x5 => [(1, .v 0 (.int .i64) p1), (2, .box 0 T_api_Ratio p0), (4, .box 9 T_api_Ratio x1), (6, .v 0 (.slice (.int .u32)) y3), (7, .box 0 T_api_Ratio x5)]) (ps (nat_Of.ok ey4)) fun x5 h => ?_
  refine W_seq ?_
  obtain ⟨y6, ey6, h⟩ := h.bind
  obtain ⟨y7, ey7, h⟩ := h.bind
  obtain ⟨y8, ey8, h⟩ := h.bind
  refine R1 h [.res [(0, ⟨9, .slice (.int .u32), y6⟩)], .res [(0, ⟨9, .slice (.int .u32), y7⟩)], .res [(0, ⟨9, .slice (.int .u32), y8⟩)]] (fun x9 => [(1, .v 0 (.int .i64) p1), (2, .box 0 T_api_Ratio p0), (4, .box 9 T_api_Ratio x1), (7, .box 0 T_api_Ratio x5), (8, .box 0 T_api_Ratio x9)]) (pc (nat_Of.ok ey6) (pc (nat_Add.ok ey7) (ps (nat_Of.ok ey8)))) fun x9 h => ?_
  refine W_seq ?_
  refine J2 h (plan_Near_j1 p0) (fun x10 x11 => [(2, .box 0 T_api_Ratio p0), (4, .box 9 T_api_Ratio x1), (7, .box 0 T_api_Ratio x10), (8, .box 0 T_api_Ratio x11)]) (fun x10 x11 h => ?_) fun j1 => ?_
  · unfold plan_Near_j1 at h
    refine W_seq (W_seq ?_)
    obtain ⟨y12, ey12, h⟩ := h.bind
    obtain ⟨y13, ey13, h⟩ := h.bind
    obtain ⟨y14, ey14, h⟩ := h.bind
    refine R [.res [(0, ⟨0, T_api_Ratio, y12⟩)], .res [(0, ⟨0, T_api_Ratio, y13⟩)], .res [(0, ⟨0, .int .i64, y14⟩)]] [(4, .box 9 T_api_Ratio x1), (7, .box 0 T_api_Ratio x10), (8, .box 0 T_api_Ratio x11), (105, .v 0 .bool (decide (y14 < 0)))] (pc (plan_gap.ok ey12) (pc (plan_gap.ok ey13) (ps (ratio_Cmp.ok ey14)))) ?_
    refine C h (fun h => ?_) fun h => ?_
    · refine W_seq ?_
      refine R [] [(4, .box 0 T_api_Ratio x11), (5, .v 0 (.int .i64) (0 : Int))] pz ?_
      cases h
      exact Rt hw0
    refine W_skip (W_seq ?_)
    refine R [] [(4, .box 0 T_api_Ratio x10), (5, .v 0 (.int .i64) (0 : Int))] pz ?_
    cases h
    exact Rt hw0
  refine W_block ?_
  refine L2 h (fun x15 x16 => [(1, .v 0 (.int .i64) p1), (2, .box 0 T_api_Ratio p0), (4, .box 9 T_api_Ratio x1), (7, .box 0 T_api_Ratio x15), (8, .box 0 T_api_Ratio x16)]) fun x15 x16 _ h => ?_
  unfold plan_Near_b1 at h
  refine W_block (W_seq ?_)
  obtain ⟨y17, ey17, h⟩ := h.bind
  obtain ⟨y18, ey18, h⟩ := h.bind
  refine R [.res [(0, ⟨0, .int .u64, y17⟩)], .res [(9, ⟨9, .slice (.int .u32), y18⟩)]] [(1, .v 0 (.int .i64) p1), (2, .box 0 T_api_Ratio p0), (4, .box 9 T_api_Ratio x1), (7, .box 0 T_api_Ratio x15), (8, .box 0 T_api_Ratio x16), (9, .v 9 (.slice (.int .u32)) y18)] (pc (plan_steps.ok ey17) (ps (nat_Of.ok ey18))) ?_
  refine W_seq ?_
  refine K (E' := [(1, .v 0 (.int .i64) p1), (2, .box 0 T_api_Ratio p0), (4, .box 9 T_api_Ratio x1), (7, .box 0 T_api_Ratio x15), (8, .box 0 T_api_Ratio x16), (9, .v 0 (.slice (.int .u32)) y18)]) ?_
  obtain ⟨y19, ey19, h⟩ := h.bind
  obtain ⟨y20, ey20, h⟩ := h.bind
  obtain ⟨y21, ey21, h⟩ := h.bind
  obtain ⟨y22, ey22, h⟩ := h.bind
  refine R1 h [.res [(0, ⟨9, .slice (.int .u32), y19⟩)], .res [(0, ⟨9, .slice (.int .u32), y20⟩)], .res [(0, ⟨9, .slice (.int .u32), y21⟩)], .res [(0, ⟨9, .slice (.int .u32), y22⟩)]] (fun x23 => [(1, .v 0 (.int .i64) p1), (2, .box 0 T_api_Ratio p0), (4, .box 9 T_api_Ratio x1), (7, .box 0 T_api_Ratio x23), (8, .box 0 T_api_Ratio x16), (9, .v 0 (.slice (.int .u32)) y18)]) (pc (nat_Mul.ok ey19) (pc (nat_Add.ok ey20) (pc (nat_Mul.ok ey21) (ps (nat_Add.ok ey22))))) fun x23 h => ?_
  refine W_seq ?_
  obtain ⟨y24, ey24, h⟩ := h.bind
  obtain ⟨y25, ey25, h⟩ := h.bind
  refine R [.res [(0, ⟨0, .int .u64, y24⟩)], .res [(9, ⟨9, .slice (.int .u32), y25⟩)]] [(1, .v 0 (.int .i64) p1), (2, .box 0 T_api_Ratio p0), (4, .box 9 T_api_Ratio x1), (7, .box 0 T_api_Ratio x23), (8, .box 0 T_api_Ratio x16), (9, .v 0 (.slice (.int .u32)) y18), (10, .v 9 (.slice (.int .u32)) y25)] (pc (plan_steps.ok ey24) (ps (nat_Of.ok ey25))) ?_
  refine W_seq ?_
  refine K (E' := [(1, .v 0 (.int .i64) p1), (2, .box 0 T_api_Ratio p0), (4, .box 9 T_api_Ratio x1), (7, .box 0 T_api_Ratio x23), (8, .box 0 T_api_Ratio x16), (9, .v 0 (.slice (.int .u32)) y18), (10, .v 0 (.slice (.int .u32)) y25)]) ?_
  obtain ⟨y26, ey26, h⟩ := h.bind
  obtain ⟨y27, ey27, h⟩ := h.bind
  obtain ⟨y28, ey28, h⟩ := h.bind
  obtain ⟨y29, ey29, h⟩ := h.bind
  refine R1 h [.res [(0, ⟨9, .slice (.int .u32), y26⟩)], .res [(0, ⟨9, .slice (.int .u32), y27⟩)], .res [(0, ⟨9, .slice (.int .u32), y28⟩)], .res [(0, ⟨9, .slice (.int .u32), y29⟩)]] (fun x30 => [(1, .v 0 (.int .i64) p1), (2, .box 0 T_api_Ratio p0), (4, .box 9 T_api_Ratio x1), (7, .box 0 T_api_Ratio x23), (8, .box 0 T_api_Ratio x30), (9, .v 0 (.slice (.int .u32)) y18), (10, .v 0 (.slice (.int .u32)) y25)]) (pc (nat_Mul.ok ey26) (pc (nat_Add.ok ey27) (pc (nat_Mul.ok ey28) (ps (nat_Add.ok ey29))))) fun x30 h => ?_
  refine W_seq ?_
  obtain ⟨y31, ey31, h⟩ := h.bind
  obtain ⟨y32, ey32, h⟩ := h.bind
  obtain ⟨y33, ey33, h⟩ := h.bind
  refine R [.res [(0, ⟨0, T_api_Ratio, y31⟩)], .res [(0, ⟨9, .slice (.int .u32), y32⟩)], .res [(0, ⟨0, .int .i64, y33⟩)]] [(1, .v 0 (.int .i64) p1), (2, .box 0 T_api_Ratio p0), (4, .box 9 T_api_Ratio x1), (7, .box 0 T_api_Ratio x23), (8, .box 0 T_api_Ratio x30), (97, .v 0 .bool (((i64.wrap ((y18.length : Int) + (y25.length : Int))) == 0) || (decide (y33 > 0))))] (pc (fun hc => plan_between.ok (bif_some ey31 hc)) (pc (fun hc => nat_Of.ok (bif_some ey32 hc)) (ps (fun hc => nat_Cmp.ok (bif_some ey33 hc))))) ?_
  refine C h (fun h => ?_) fun h => ?_
  · refine W_exit rfl ?_
    exact K (j1 x23 x30 h.back)
  refine W_skip (W_blk ?_)
  exact B h

def r11_Ints_j1 : Option (Bool) :=
  some true
def r11_Ints_b1 (p0 : List Int) (p1 : List Int) (x1 : Int) : Option (Int ⊕ Bool) :=
  bif decide (x1 < (p0.length : Int)) then
    ass (0 ≤ x1 ∧ x1 < (p0.length : Int)) <|
    ass (0 ≤ x1 ∧ x1 < (p1.length : Int)) <|
    bif (rd (0 : Int) p0 x1) != (rd (0 : Int) p1 x1) then
      some (.inr false)
    else
    bnd (i64.wrap (x1 + 1)) fun x2 =>
    some (.inl x2)
  else
  (r11_Ints_j1).map .inr
def r11_Ints (p0 : List Int) (p1 : List Int) : Option Bool :=
  bif (p0.length : Int) != (p1.length : Int) then
    some false
  else
  loopM (fun x : Int => r11_Ints_b1 p0 p1 x) (0 : Int)
theorem r11_Ints.ok {p0 : List Int} {p1 : List Int} {r : Bool} (h : r11_Ints p0 p1 = some r) : ACall prog 14 [⟨.slice (.int .i64), p0⟩, ⟨.slice (.int .i64), p1⟩] [⟨0, .bool, r⟩] := by
  replace h := Leads.of h
  unfold r11_Ints at h
  refine AC func14 rfl fun w0 F0 hw0 => ?_
  refine W_seq ?_
  refine R [] [(0, .v 0 (.slice (.int .i64)) p0), (1, .v 0 (.slice (.int .i64)) p1)] pz ?_
  refine W_seq (W_seq ?_)
  refine R [] [(0, .v 0 (.slice (.int .i64)) p0), (1, .v 0 (.slice (.int .i64)) p1), (10, .v 0 .bool ((p0.length : Int) != (p1.length : Int)))] pz ?_
  refine C h (fun h => ?_) fun h => ?_
  · refine W_seq ?_
    refine R [] [(4, .v 0 .bool false)] pz ?_
    cases h
    exact Rt hw0
  refine W_skip (W_seq (W_seq ?_))
  refine R [] [(0, .v 0 (.slice (.int .i64)) p0), (1, .v 0 (.slice (.int .i64)) p1), (5, .v 0 (.int .i64) (0 : Int))] pz ?_
  refine J0 h r11_Ints_j1 ([]) (fun h => ?_) fun j1 => ?_
  · unfold r11_Ints_j1 at h
    refine W_seq ?_
    refine R [] [(4, .v 0 .bool true)] pz ?_
    cases h
    exact Rt hw0
  refine W_block ?_
  refine L1 h (fun x1 => [(0, .v 0 (.slice (.int .i64)) p0), (1, .v 0 (.slice (.int .i64)) p1), (5, .v 0 (.int .i64) x1)]) fun x1 _ h => ?_
  unfold r11_Ints_b1 at h
  refine W_seq (W_seq ?_)
  refine R [] [(0, .v 0 (.slice (.int .i64)) p0), (1, .v 0 (.slice (.int .i64)) p1), (5, .v 0 (.int .i64) x1), (14, .v 0 .bool (decide (x1 < (p0.length : Int))))] pz ?_
  refine C h (fun h => ?_) fun h => ?_
  · refine W_skip (W_seq (W_block (W_seq ?_)))
    obtain ⟨o1, h⟩ := h.ass
    obtain ⟨o2, h⟩ := h.ass
    refine R [] [(0, .v 0 (.slice (.int .i64)) p0), (1, .v 0 (.slice (.int .i64)) p1), (5, .v 0 (.int .i64) x1), (25, .v 0 .bool ((rd (0 : Int) p0 x1) != (rd (0 : Int) p1 x1)))] (pc o1 (ps o2)) ?_
    refine C h (fun h => ?_) fun h => ?_
    · refine W_seq ?_
      refine R [] [(4, .v 0 .bool false)] pz ?_
      cases h
      exact Rt hw0
    refine W_skip (W_blk ?_)
    refine R1 h [] (fun x2 => [(0, .v 0 (.slice (.int .i64)) p0), (1, .v 0 (.slice (.int .i64)) p1), (5, .v 0 (.int .i64) x2)]) pz fun x2 h => ?_
    exact B h
  refine W_exit rfl ?_
  exact K (j1 h.back)

def r04_Same (p0 : D_api_Ratio) (p1 : D_r04_Q) : Option Bool :=
  (r03_Out p1.1).bind fun y1 =>
  (r03_Same p0.1 y1).bind fun y2 =>
  (bif y2 then r03_Out p1.2 else some ([] : List Int)).bind fun y3 =>
  (bif y2 then r03_Same p0.2 y3 else some false).bind fun y4 =>
  bnd (y2 && y4) fun x5 =>
  some x5
theorem r04_Same.ok {p0 : D_api_Ratio} {p1 : D_r04_Q} {r : Bool} (h : r04_Same p0 p1 = some r) : ACall prog 22 [⟨T_api_Ratio, p0⟩, ⟨T_r04_Q, p1⟩] [⟨0, .bool, r⟩] := by
  replace h := Leads.of h
  unfold r04_Same at h
  refine AC func22 rfl fun w0 F0 hw0 => ?_
  refine W_seq ?_
  refine R [] [(2, .box 0 T_api_Ratio p0), (3, .box 0 T_r04_Q p1)] pz ?_
  refine W_seq ?_
  obtain ⟨y1, ey1, h⟩ := h.bind
  obtain ⟨y2, ey2, h⟩ := h.bind
  obtain ⟨y3, ey3, h⟩ := h.bind
  obtain ⟨y4, ey4, h⟩ := h.bind
  refine R1 h [.res [(9, ⟨9, .slice (.int .u32), y1⟩)], .res [(0, ⟨0, .bool, y2⟩)], .res [(0, ⟨9, .slice (.int .u32), y3⟩)], .res [(0, ⟨0, .bool, y4⟩)]] (fun x5 => [(4, .v 0 .bool x5)]) (pc (r03_Out.ok ey1) (pc (r03_Same.ok ey2) (pc (fun hc => r03_Out.ok (bif_some ey3 hc)) (ps (fun hc => r03_Same.ok (bif_some ey4 hc)))))) fun x5 h => ?_
  cases h
  exact Rt hw0

def l48_alive : Option Bool :=
  (r04_Of (1 : Int) (2 : Int)).bind fun y1 =>
  (r04_Out y1).bind fun y2 =>
  (r04_Of (1 : Int) (3 : Int)).bind fun y3 =>
  (r04_Out y3).bind fun y4 =>
  (plan_Exact [y2, y4]).bind fun y5 =>
  (plan_Split [y2, y4] (4 : Int)).bind fun y6 =>
  (r04_Of (7 : Int) (5 : Int)).bind fun y7 =>
  (r04_Out y7).bind fun y8 =>
  (plan_Near y8 (2 : Int)).bind fun y9 =>
  (bif y5.2 == 0 then r11_Ints y5.1 [(3 : Int), (2 : Int)] else some false).bind fun y10 =>
  (bif ((y5.2 == 0) && y10) && (y6.2 == 0) then r11_Ints y6.1 [(2 : Int), (2 : Int)] else some false).bind fun y11 =>
  (bif ((((y5.2 == 0) && y10) && (y6.2 == 0)) && y11) && (y9.2 == 0) then r04_Of (3 : Int) (2 : Int) else some (([] : List Int), ([] : List Int))).bind fun y12 =>
  (bif ((((y5.2 == 0) && y10) && (y6.2 == 0)) && y11) && (y9.2 == 0) then r04_Same y9.1 y12 else some false).bind fun y13 =>
  bnd ((((((y5.2 == 0) && y10) && (y6.2 == 0)) && y11) && (y9.2 == 0)) && y13) fun x14 =>
  some x14
theorem l48_alive.ok {r : Bool} (h : l48_alive = some r) : ACall prog 6 [] [⟨0, .bool, r⟩] := by
  replace h := Leads.of h
  unfold l48_alive at h
  refine AC func6 rfl fun w0 F0 hw0 => ?_
  refine W_seq ?_
  refine R [] [] pz ?_
  refine W_seq ?_
  obtain ⟨y1, ey1, h⟩ := h.bind
  obtain ⟨y2, ey2, h⟩ := h.bind
  obtain ⟨y3, ey3, h⟩ := h.bind
  obtain ⟨y4, ey4, h⟩ := h.bind
  refine R [.res [(0, ⟨0, T_r04_Q, y1⟩)], .res [(0, ⟨0, T_api_Ratio, y2⟩)], .res [(0, ⟨0, T_r04_Q, y3⟩)], .res [(0, ⟨0, T_api_Ratio, y4⟩)]] [(1, .v 1 (.slice T_api_Ratio) [y2, y4])] (pc (r04_Of.ok ey1) (pc (r04_Out.ok ey2) (pc (r04_Of.ok ey3) (ps (r04_Out.ok ey4))))) ?_
  refine W_seq ?_
  obtain ⟨y5, ey5, h⟩ := h.bind
  refine R [.res [(9, ⟨9, .slice (.int .i64), y5.1⟩), (0, ⟨0, .int .i64, y5.2⟩)]] [(1, .v 1 (.slice T_api_Ratio) [y2, y4]), (2, .v 9 (.slice (.int .i64)) y5.1), (3, .v 0 (.int .i64) y5.2)] (ps (plan_Exact.ok ey5)) ?_
  refine W_seq ?_
  obtain ⟨y6, ey6, h⟩ := h.bind
  refine R [.res [(9, ⟨9, .slice (.int .i64), y6.1⟩), (0, ⟨0, .int .i64, y6.2⟩)]] [(2, .v 9 (.slice (.int .i64)) y5.1), (3, .v 0 (.int .i64) y5.2), (4, .v 9 (.slice (.int .i64)) y6.1), (5, .v 0 (.int .i64) y6.2)] (ps (plan_Split.ok ey6)) ?_
  refine W_seq ?_
  obtain ⟨y7, ey7, h⟩ := h.bind
  obtain ⟨y8, ey8, h⟩ := h.bind
  obtain ⟨y9, ey9, h⟩ := h.bind
  refine R [.res [(0, ⟨0, T_r04_Q, y7⟩)], .res [(0, ⟨0, T_api_Ratio, y8⟩)], .res [(0, ⟨0, T_api_Ratio, y9.1⟩), (0, ⟨0, .int .i64, y9.2⟩)]] [(2, .v 9 (.slice (.int .i64)) y5.1), (3, .v 0 (.int .i64) y5.2), (4, .v 9 (.slice (.int .i64)) y6.1), (5, .v 0 (.int .i64) y6.2), (6, .box 0 T_api_Ratio y9.1), (7, .v 0 (.int .i64) y9.2)] (pc (r04_Of.ok ey7) (pc (r04_Out.ok ey8) (ps (plan_Near.ok ey9)))) ?_
  refine W_seq ?_
  obtain ⟨y10, ey10, h⟩ := h.bind
  obtain ⟨y11, ey11, h⟩ := h.bind
  obtain ⟨y12, ey12, h⟩ := h.bind
  obtain ⟨y13, ey13, h⟩ := h.bind
  refine R1 h [.res [(0, ⟨0, .bool, y10⟩)], .res [(0, ⟨0, .bool, y11⟩)], .res [(0, ⟨0, T_r04_Q, y12⟩)], .res [(0, ⟨0, .bool, y13⟩)]] (fun x14 => [(0, .v 0 .bool x14)]) (pc (fun hc => r11_Ints.ok (bif_some ey10 hc)) (pc (fun hc => r11_Ints.ok (bif_some ey11 hc)) (pc (fun hc => r04_Of.ok (bif_some ey12 hc)) (ps (fun hc => r04_Same.ok (bif_some ey13 hc)))))) fun x14 h => ?_
  cases h
  exact Rt hw0

def r04_Int (p0 : Int) : Option D_r04_Q :=
  bnd ((([] : List Int), ([] : List Int))) fun x1 =>
  (r01_Of p0).bind fun y2 =>
  (r01_Of (1 : Int)).bind fun y3 =>
  bnd ((y2, y3)) fun x4 =>
  some x4
theorem r04_Int.ok {p0 : Int} {r : D_r04_Q} (h : r04_Int p0 = some r) : ACall prog 31 [⟨.int .u64, p0⟩] [⟨0, T_r04_Q, r⟩] := by
  replace h := Leads.of h
  unfold r04_Int at h
  refine AC func31 rfl fun w0 F0 hw0 => ?_
  refine W_seq ?_
  refine R1 h [] (fun x1 => [(0, .v 0 (.int .u64) p0), (2, .box 9 T_r04_Q x1)]) pz fun x1 h => ?_
  refine W_seq ?_
  obtain ⟨y2, ey2, h⟩ := h.bind
  obtain ⟨y3, ey3, h⟩ := h.bind
  refine R1 h [.res [(0, ⟨0, T_r01_Nat, y2⟩)], .res [(0, ⟨0, T_r01_Nat, y3⟩)]] (fun x4 => [(2, .box 0 T_r04_Q x4)]) (pc (r01_Of.ok ey2) (ps (r01_Of.ok ey3))) fun x4 h => ?_
  cases h
  exact Rt hw0

def r01_Add_j1 (x1 : List Int) : Option (D_r01_Nat) :=
  (r01_Cut x1).bind fun y2 =>
  some y2
def r01_Add_b1 (p0 : D_r01_Nat) (p1 : D_r01_Nat) (x3 : List Int) (x4 : Int) (x5 : Int) : Option (((List Int) × Int × Int) ⊕ D_r01_Nat) :=
  bif ((decide (x5 < (p0.length : Int))) || (decide (x5 < (p1.length : Int)))) || (decide (x4 > 0)) then
    (r01_digit p0 x5).bind fun y6 =>
    (r01_digit p1 x5).bind fun y7 =>
    bnd (i64.wrap ((i64.wrap (y6 + y7)) + x4)) fun x8 =>
    ass ((65536 : Int) ≠ 0) <|
    ass (((x3.length + [x8.tmod 65536].length : Nat) : Int) ≤ limA) <|
    bnd (x3 ++ [x8.tmod 65536]) fun x9 =>
    ass ((65536 : Int) ≠ 0) <|
    bnd (i64.wrap (x8.tdiv 65536)) fun x10 =>
    bnd (i64.wrap (x5 + 1)) fun x11 =>
    some (.inl (x9, x10, x11))
  else
  (r01_Add_j1 x3).map .inr
def r01_Add (p0 : D_r01_Nat) (p1 : D_r01_Nat) : Option D_r01_Nat :=
  loopM (fun x : (List Int) × Int × Int => r01_Add_b1 p0 p1 x.1 x.2.1 x.2.2) (([] : List Int), (0 : Int), (0 : Int))
theorem r01_Add.ok {p0 : D_r01_Nat} {p1 : D_r01_Nat} {r : D_r01_Nat} (h : r01_Add p0 p1 = some r) : ACall prog 51 [⟨T_r01_Nat, p0⟩, ⟨T_r01_Nat, p1⟩] [⟨0, T_r01_Nat, r⟩] := by
  replace h := Leads.of h
  unfold r01_Add at h
  refine AC func51 rfl fun w0 F0 hw0 => ?_
  refine W_seq ?_
  refine R [] [(2, .box 0 T_r01_Nat p0), (3, .box 0 T_r01_Nat p1), (4, .box 9 T_r01_Nat ([] : List Int))] pz ?_
  refine W_seq ?_
  refine R [] [(2, .box 0 T_r01_Nat p0), (3, .box 0 T_r01_Nat p1), (4, .box 9 T_r01_Nat ([] : List Int)), (5, .v 9 (.slice (.int .i64)) ([] : List Int))] pz ?_
  refine W_seq ?_
  refine R [] [(2, .box 0 T_r01_Nat p0), (3, .box 0 T_r01_Nat p1), (4, .box 9 T_r01_Nat ([] : List Int)), (5, .v 9 (.slice (.int .i64)) ([] : List Int)), (6, .v 0 (.int .i64) (0 : Int))] pz ?_
  refine W_seq (W_seq ?_)
  refine R [] [(2, .box 0 T_r01_Nat p0), (3, .box 0 T_r01_Nat p1), (4, .box 9 T_r01_Nat ([] : List Int)), (5, .v 9 (.slice (.int .i64)) ([] : List Int)), (6, .v 0 (.int .i64) (0 : Int)), (7, .v 0 (.int .i64) (0 : Int))] pz ?_
  refine J1 h r01_Add_j1 (fun x1 => [(4, .box 9 T_r01_Nat ([] : List Int)), (5, .v 9 (.slice (.int .i64)) x1)]) (fun x1 h => ?_) fun j1 => ?_
  · unfold r01_Add_j1 at h
    refine W_seq ?_
    refine K (E' := [(4, .box 9 T_r01_Nat ([] : List Int)), (5, .v 0 (.slice (.int .i64)) x1)]) ?_
    obtain ⟨y2, ey2, h⟩ := h.bind
    refine R [.res [(0, ⟨0, T_r01_Nat, y2⟩)]] [(4, .box 0 T_r01_Nat y2)] (ps (r01_Cut.ok ey2)) ?_
    cases h
    exact Rt hw0
  refine W_block ?_
  refine L3 h (fun x3 x4 x5 => [(2, .box 0 T_r01_Nat p0), (3, .box 0 T_r01_Nat p1), (4, .box 9 T_r01_Nat ([] : List Int)), (5, .v 9 (.slice (.int .i64)) x3), (6, .v 0 (.int .i64) x4), (7, .v 0 (.int .i64) x5)]) fun x3 x4 x5 _ h => ?_
  unfold r01_Add_b1 at h
  refine W_seq (W_seq ?_)
  refine R [] [(2, .box 0 T_r01_Nat p0), (3, .box 0 T_r01_Nat p1), (4, .box 9 T_r01_Nat ([] : List Int)), (5, .v 9 (.slice (.int .i64)) x3), (6, .v 0 (.int .i64) x4), (7, .v 0 (.int .i64) x5), (24, .v 0 .bool (((decide (x5 < (p0.length : Int))) || (decide (x5 < (p1.length : Int)))) || (decide (x4 > 0))))] pz ?_
  refine C h (fun h => ?_) fun h => ?_
  · refine W_skip (W_seq (W_block (W_seq ?_)))
    obtain ⟨y6, ey6, h⟩ := h.bind
    obtain ⟨y7, ey7, h⟩ := h.bind
    refine R1 h [.res [(0, ⟨0, .int .i64, y6⟩)], .res [(0, ⟨0, .int .i64, y7⟩)]] (fun x8 => [(2, .box 0 T_r01_Nat p0), (3, .box 0 T_r01_Nat p1), (4, .box 9 T_r01_Nat ([] : List Int)), (5, .v 9 (.slice (.int .i64)) x3), (7, .v 0 (.int .i64) x5), (8, .v 0 (.int .i64) x8)]) (pc (r01_digit.ok ey6) (ps (r01_digit.ok ey7))) fun x8 h => ?_
    refine W_seq ?_
    obtain ⟨o1, h⟩ := h.ass
    obtain ⟨o2, h⟩ := h.ass
    refine R1 h [] (fun x9 => [(2, .box 0 T_r01_Nat p0), (3, .box 0 T_r01_Nat p1), (4, .box 9 T_r01_Nat ([] : List Int)), (5, .v 9 (.slice (.int .i64)) x9), (7, .v 0 (.int .i64) x5), (8, .v 0 (.int .i64) x8)]) (pc o1 (ps o2)) fun x9 h => ?_
    obtain ⟨o1, h⟩ := h.ass
    refine R1 h [] (fun x10 => [(2, .box 0 T_r01_Nat p0), (3, .box 0 T_r01_Nat p1), (4, .box 9 T_r01_Nat ([] : List Int)), (5, .v 9 (.slice (.int .i64)) x9), (6, .v 0 (.int .i64) x10), (7, .v 0 (.int .i64) x5)]) (ps o1) fun x10 h => ?_
    refine W_blk ?_
    refine R1 h [] (fun x11 => [(2, .box 0 T_r01_Nat p0), (3, .box 0 T_r01_Nat p1), (4, .box 9 T_r01_Nat ([] : List Int)), (5, .v 9 (.slice (.int .i64)) x9), (6, .v 0 (.int .i64) x10), (7, .v 0 (.int .i64) x11)]) pz fun x11 h => ?_
    exact B h
  refine W_exit rfl ?_
  exact K (j1 x3 h.back)

def r04_Add (p0 : D_r04_Q) (p1 : D_r04_Q) : Option D_r04_Q :=
  bnd ((([] : List Int), ([] : List Int))) fun x1 =>
  (r01_Mul p0.1 p1.2).bind fun y2 =>
  (r01_Mul p1.1 p0.2).bind fun y3 =>
  (r01_Add y2 y3).bind fun y4 =>
  (r01_Mul p0.2 p1.2).bind fun y5 =>
  (r04_Low (y4, y5)).bind fun y6 =>
  some y6
theorem r04_Add.ok {p0 : D_r04_Q} {p1 : D_r04_Q} {r : D_r04_Q} (h : r04_Add p0 p1 = some r) : ACall prog 32 [⟨T_r04_Q, p0⟩, ⟨T_r04_Q, p1⟩] [⟨0, T_r04_Q, r⟩] := by
  replace h := Leads.of h
  unfold r04_Add at h
  refine AC func32 rfl fun w0 F0 hw0 => ?_
  refine W_seq ?_
  refine R1 h [] (fun x1 => [(2, .box 0 T_r04_Q p0), (3, .box 0 T_r04_Q p1), (4, .box 9 T_r04_Q x1)]) pz fun x1 h => ?_
  refine W_seq ?_
  obtain ⟨y2, ey2, h⟩ := h.bind
  obtain ⟨y3, ey3, h⟩ := h.bind
  obtain ⟨y4, ey4, h⟩ := h.bind
  obtain ⟨y5, ey5, h⟩ := h.bind
  obtain ⟨y6, ey6, h⟩ := h.bind
  refine R [.res [(0, ⟨0, T_r01_Nat, y2⟩)], .res [(0, ⟨0, T_r01_Nat, y3⟩)], .res [(0, ⟨0, T_r01_Nat, y4⟩)], .res [(0, ⟨0, T_r01_Nat, y5⟩)], .res [(0, ⟨0, T_r04_Q, y6⟩)]] [(4, .box 0 T_r04_Q y6)] (pc (r01_Mul.ok ey2) (pc (r01_Mul.ok ey3) (pc (r01_Add.ok ey4) (pc (r01_Mul.ok ey5) (ps (r04_Low.ok ey6)))))) ?_
  cases h
  exact Rt hw0

def r48_Sum_j1 (x3 : D_r04_Q) : Option (D_r04_Q) :=
  some x3
def r48_Sum_b1 (p0 : List D_r04_Q) (x4 : D_r04_Q) (x5 : Int) : Option ((D_r04_Q × Int) ⊕ D_r04_Q) :=
  bif decide (x5 < (p0.length : Int)) then
    ass (0 ≤ x5 ∧ x5 < (p0.length : Int)) <|
    (r04_Add x4 (rd z_r04_Q p0 x5)).bind fun y6 =>
    bnd (i64.wrap (x5 + 1)) fun x7 =>
    some (.inl (y6, x7))
  else
  (r48_Sum_j1 x4).map .inr
def r48_Sum (p0 : List D_r04_Q) : Option D_r04_Q :=
  bnd ((([] : List Int), ([] : List Int))) fun x1 =>
  (r04_Int (0 : Int)).bind fun y2 =>
  loopM (fun x : D_r04_Q × Int => r48_Sum_b1 p0 x.1 x.2) (y2, (0 : Int))
theorem r48_Sum.ok {p0 : List D_r04_Q} {r : D_r04_Q} (h : r48_Sum p0 = some r) : ACall prog 9 [⟨.slice T_r04_Q, p0⟩] [⟨0, T_r04_Q, r⟩] := by
  replace h := Leads.of h
  unfold r48_Sum at h
  refine AC func9 rfl fun w0 F0 hw0 => ?_
  refine W_seq ?_
  refine R1 h [] (fun x1 => [(0, .v 0 (.slice T_r04_Q) p0), (2, .box 9 T_r04_Q x1)]) pz fun x1 h => ?_
  refine W_seq ?_
  obtain ⟨y2, ey2, h⟩ := h.bind
  refine R [.res [(0, ⟨0, T_r04_Q, y2⟩)]] [(0, .v 0 (.slice T_r04_Q) p0), (2, .box 9 T_r04_Q x1), (3, .box 0 T_r04_Q y2)] (ps (r04_Int.ok ey2)) ?_
  refine W_seq (W_seq ?_)
  refine R [] [(0, .v 0 (.slice T_r04_Q) p0), (2, .box 9 T_r04_Q x1), (3, .box 0 T_r04_Q y2), (4, .v 0 (.int .i64) (0 : Int))] pz ?_
  refine J1 h r48_Sum_j1 (fun x3 => [(2, .box 9 T_r04_Q x1), (3, .box 0 T_r04_Q x3)]) (fun x3 h => ?_) fun j1 => ?_
  · unfold r48_Sum_j1 at h
    refine W_seq ?_
    refine R [] [(2, .box 0 T_r04_Q x3)] pz ?_
    cases h
    exact Rt hw0
  refine W_block ?_
  refine L2 h (fun x4 x5 => [(0, .v 0 (.slice T_r04_Q) p0), (2, .box 9 T_r04_Q x1), (3, .box 0 T_r04_Q x4), (4, .v 0 (.int .i64) x5)]) fun x4 x5 _ h => ?_
  unfold r48_Sum_b1 at h
  refine W_seq (W_seq ?_)
  refine R [] [(0, .v 0 (.slice T_r04_Q) p0), (2, .box 9 T_r04_Q x1), (3, .box 0 T_r04_Q x4), (4, .v 0 (.int .i64) x5), (9, .v 0 .bool (decide (x5 < (p0.length : Int))))] pz ?_
  refine C h (fun h => ?_) fun h => ?_
  · refine W_skip (W_seq (W_block ?_))
    obtain ⟨o1, h⟩ := h.ass
    obtain ⟨y6, ey6, h⟩ := h.bind
    refine R [.res [(0, ⟨0, T_r04_Q, y6⟩)]] [(0, .v 0 (.slice T_r04_Q) p0), (2, .box 9 T_r04_Q x1), (3, .box 0 T_r04_Q y6), (4, .v 0 (.int .i64) x5)] (pc o1 (ps (r04_Add.ok ey6))) ?_
    refine W_blk ?_
    refine R1 h [] (fun x7 => [(0, .v 0 (.slice T_r04_Q) p0), (2, .box 9 T_r04_Q x1), (3, .box 0 T_r04_Q y6), (4, .v 0 (.int .i64) x7)]) pz fun x7 h => ?_
    exact B h
  refine W_exit rfl ?_
  exact K (j1 x4 h.back)

def r04_Zero (p0 : D_r04_Q) : Option Bool :=
  bnd ((p0.1.length : Int) == 0) fun x1 =>
  some x1
theorem r04_Zero.ok {p0 : D_r04_Q} {r : Bool} (h : r04_Zero p0 = some r) : ACall prog 8 [⟨T_r04_Q, p0⟩] [⟨0, .bool, r⟩] := by
  replace h := Leads.of h
  unfold r04_Zero at h
  refine AC func8 rfl fun w0 F0 hw0 => ?_
  refine W_seq ?_
  refine R [] [(1, .box 0 T_r04_Q p0)] pz ?_
  refine W_seq ?_
  refine R1 h [] (fun x1 => [(2, .v 0 .bool x1)]) pz fun x1 h => ?_
  cases h
  exact Rt hw0

def r04_Div (p0 : D_r04_Q) (p1 : D_r04_Q) : Option D_r04_Q :=
  bnd ((([] : List Int), ([] : List Int))) fun x1 =>
  (r01_Mul p0.1 p1.2).bind fun y2 =>
  (r01_Mul p0.2 p1.1).bind fun y3 =>
  (r04_Low (y2, y3)).bind fun y4 =>
  some y4
theorem r04_Div.ok {p0 : D_r04_Q} {p1 : D_r04_Q} {r : D_r04_Q} (h : r04_Div p0 p1 = some r) : ACall prog 10 [⟨T_r04_Q, p0⟩, ⟨T_r04_Q, p1⟩] [⟨0, T_r04_Q, r⟩] := by
  replace h := Leads.of h
  unfold r04_Div at h
  refine AC func10 rfl fun w0 F0 hw0 => ?_
  refine W_seq ?_
  refine R1 h [] (fun x1 => [(2, .box 0 T_r04_Q p0), (3, .box 0 T_r04_Q p1), (4, .box 9 T_r04_Q x1)]) pz fun x1 h => ?_
  refine W_seq ?_
  obtain ⟨y2, ey2, h⟩ := h.bind
  obtain ⟨y3, ey3, h⟩ := h.bind
  obtain ⟨y4, ey4, h⟩ := h.bind
  refine R [.res [(0, ⟨0, T_r01_Nat, y2⟩)], .res [(0, ⟨0, T_r01_Nat, y3⟩)], .res [(0, ⟨0, T_r04_Q, y4⟩)]] [(4, .box 0 T_r04_Q y4)] (pc (r01_Mul.ok ey2) (pc (r01_Mul.ok ey3) (ps (r04_Low.ok ey4)))) ?_
  cases h
  exact Rt hw0

def r03_Lcm (p0 : D_r01_Nat) (p1 : D_r01_Nat) : Option D_r01_Nat :=
  bif ((p0.length : Int) == 0) || ((p1.length : Int) == 0) then
    some ([] : List Int)
  else
  (r01_Mul p0 p1).bind fun y1 =>
  (r03_Gcd p0 p1).bind fun y2 =>
  (r01_Div y1 y2).bind fun y3 =>
  some y3.1
theorem r03_Lcm.ok {p0 : D_r01_Nat} {p1 : D_r01_Nat} {r : D_r01_Nat} (h : r03_Lcm p0 p1 = some r) : ACall prog 35 [⟨T_r01_Nat, p0⟩, ⟨T_r01_Nat, p1⟩] [⟨0, T_r01_Nat, r⟩] := by
  replace h := Leads.of h
  unfold r03_Lcm at h
  refine AC func35 rfl fun w0 F0 hw0 => ?_
  refine W_seq ?_
  refine R [] [(2, .box 0 T_r01_Nat p0), (3, .box 0 T_r01_Nat p1), (4, .box 9 T_r01_Nat ([] : List Int))] pz ?_
  refine W_seq (W_seq ?_)
  refine R [] [(2, .box 0 T_r01_Nat p0), (3, .box 0 T_r01_Nat p1), (4, .box 9 T_r01_Nat ([] : List Int)), (16, .v 0 .bool (((p0.length : Int) == 0) || ((p1.length : Int) == 0)))] pz ?_
  refine C h (fun h => ?_) fun h => ?_
  · refine W_seq ?_
    refine R [] [(4, .box 0 T_r01_Nat ([] : List Int))] pz ?_
    cases h
    exact Rt hw0
  refine W_skip (W_seq ?_)
  obtain ⟨y1, ey1, h⟩ := h.bind
  obtain ⟨y2, ey2, h⟩ := h.bind
  obtain ⟨y3, ey3, h⟩ := h.bind
  refine RL [.res [(0, ⟨0, T_r01_Nat, y1⟩)], .res [(0, ⟨0, T_r01_Nat, y2⟩)], .res [(0, ⟨0, T_r01_Nat, y3.1⟩), (0, ⟨0, T_r01_Nat, y3.2⟩)]] [(4, .box 9 T_r01_Nat ([] : List Int)), (5, .box 0 T_r01_Nat y3.1)] (pc (r01_Mul.ok ey1) (pc (r03_Gcd.ok ey2) (pc (r01_Div.ok ey3) (ps (rfl : (⟨T_r01_Nat, y3.2⟩ : TV) = ⟨T_r01_Nat, y3.2⟩))))) ?_
  refine W_seq ?_
  refine R [] [(4, .box 0 T_r01_Nat y3.1)] pz ?_
  cases h
  exact Rt hw0

def r04_Lcm_j1 (x2 : D_r01_Nat) : Option (D_r01_Nat) :=
  some x2
def r04_Lcm_b1 (p0 : List D_r04_Q) (x3 : D_r01_Nat) (x4 : Int) : Option ((D_r01_Nat × Int) ⊕ D_r01_Nat) :=
  bif decide (x4 < (p0.length : Int)) then
    ass (0 ≤ x4 ∧ x4 < (p0.length : Int)) <|
    (r03_Lcm x3 (rd z_r04_Q p0 x4).2).bind fun y5 =>
    bnd (i64.wrap (x4 + 1)) fun x6 =>
    some (.inl (y5, x6))
  else
  (r04_Lcm_j1 x3).map .inr
def r04_Lcm (p0 : List D_r04_Q) : Option D_r01_Nat :=
  (r01_Of (1 : Int)).bind fun y1 =>
  loopM (fun x : D_r01_Nat × Int => r04_Lcm_b1 p0 x.1 x.2) (y1, (0 : Int))
theorem r04_Lcm.ok {p0 : List D_r04_Q} {r : D_r01_Nat} (h : r04_Lcm p0 = some r) : ACall prog 11 [⟨.slice T_r04_Q, p0⟩] [⟨0, T_r01_Nat, r⟩] := by
  replace h := Leads.of h
  unfold r04_Lcm at h
  refine AC func11 rfl fun w0 F0 hw0 => ?_
  refine W_seq ?_
  refine R [] [(0, .v 0 (.slice T_r04_Q) p0), (2, .box 9 T_r01_Nat ([] : List Int))] pz ?_
  refine W_seq ?_
  obtain ⟨y1, ey1, h⟩ := h.bind
  refine R [.res [(0, ⟨0, T_r01_Nat, y1⟩)]] [(0, .v 0 (.slice T_r04_Q) p0), (2, .box 9 T_r01_Nat ([] : List Int)), (3, .box 0 T_r01_Nat y1)] (ps (r01_Of.ok ey1)) ?_
  refine W_seq (W_seq ?_)
  refine R [] [(0, .v 0 (.slice T_r04_Q) p0), (2, .box 9 T_r01_Nat ([] : List Int)), (3, .box 0 T_r01_Nat y1), (4, .v 0 (.int .i64) (0 : Int))] pz ?_
  refine J1 h r04_Lcm_j1 (fun x2 => [(2, .box 9 T_r01_Nat ([] : List Int)), (3, .box 0 T_r01_Nat x2)]) (fun x2 h => ?_) fun j1 => ?_
  · unfold r04_Lcm_j1 at h
    refine W_seq ?_
    refine R [] [(2, .box 0 T_r01_Nat x2)] pz ?_
    cases h
    exact Rt hw0
  refine W_block ?_
  refine L2 h (fun x3 x4 => [(0, .v 0 (.slice T_r04_Q) p0), (2, .box 9 T_r01_Nat ([] : List Int)), (3, .box 0 T_r01_Nat x3), (4, .v 0 (.int .i64) x4)]) fun x3 x4 _ h => ?_
  unfold r04_Lcm_b1 at h
  refine W_seq (W_seq ?_)
  refine R [] [(0, .v 0 (.slice T_r04_Q) p0), (2, .box 9 T_r01_Nat ([] : List Int)), (3, .box 0 T_r01_Nat x3), (4, .v 0 (.int .i64) x4), (9, .v 0 .bool (decide (x4 < (p0.length : Int))))] pz ?_
  refine C h (fun h => ?_) fun h => ?_
  · refine W_skip (W_seq (W_block ?_))
    obtain ⟨o1, h⟩ := h.ass
    obtain ⟨y5, ey5, h⟩ := h.bind
    refine R [.res [(0, ⟨0, T_r01_Nat, y5⟩)]] [(0, .v 0 (.slice T_r04_Q) p0), (2, .box 9 T_r01_Nat ([] : List Int)), (3, .box 0 T_r01_Nat y5), (4, .v 0 (.int .i64) x4)] (pc o1 (ps (r03_Lcm.ok ey5))) ?_
    refine W_blk ?_
    refine R1 h [] (fun x6 => [(0, .v 0 (.slice T_r04_Q) p0), (2, .box 9 T_r01_Nat ([] : List Int)), (3, .box 0 T_r01_Nat y5), (4, .v 0 (.int .i64) x6)]) pz fun x6 h => ?_
    exact B h
  refine W_exit rfl ?_
  exact K (j1 x3 h.back)

def r04_Up (p0 : D_r04_Q) (p1 : D_r01_Nat) : Option D_r01_Nat :=
  (r01_Mul p0.1 p1).bind fun y1 =>
  (r01_Div y1 p0.2).bind fun y2 =>
  some y2.1
theorem r04_Up.ok {p0 : D_r04_Q} {p1 : D_r01_Nat} {r : D_r01_Nat} (h : r04_Up p0 p1 = some r) : ACall prog 13 [⟨T_r04_Q, p0⟩, ⟨T_r01_Nat, p1⟩] [⟨0, T_r01_Nat, r⟩] := by
  replace h := Leads.of h
  unfold r04_Up at h
  refine AC func13 rfl fun w0 F0 hw0 => ?_
  refine W_seq ?_
  refine R [] [(2, .box 0 T_r04_Q p0), (3, .box 0 T_r01_Nat p1), (4, .box 9 T_r01_Nat ([] : List Int))] pz ?_
  refine W_seq ?_
  obtain ⟨y1, ey1, h⟩ := h.bind
  obtain ⟨y2, ey2, h⟩ := h.bind
  refine RL [.res [(0, ⟨0, T_r01_Nat, y1⟩)], .res [(0, ⟨0, T_r01_Nat, y2.1⟩), (0, ⟨0, T_r01_Nat, y2.2⟩)]] [(4, .box 9 T_r01_Nat ([] : List Int)), (5, .box 0 T_r01_Nat y2.1)] (pc (r01_Mul.ok ey1) (pc (r01_Div.ok ey2) (ps (rfl : (⟨T_r01_Nat, y2.2⟩ : TV) = ⟨T_r01_Nat, y2.2⟩)))) ?_
  refine W_seq ?_
  refine R [] [(4, .box 0 T_r01_Nat y2.1)] pz ?_
  cases h
  exact Rt hw0

def r01_Word_j1 (x2 : Int) : Option (Int × Bool) :=
  some (x2, true)
def r01_Word_b1 (p0 : D_r01_Nat) (x3 : Int) (x4 : Int) : Option ((Int × Int) ⊕ (Int × Bool)) :=
  bif decide (x4 ≥ 0) then
    ass (0 ≤ x4 ∧ x4 < (p0.length : Int)) <|
    bnd (u64.wrap ((u64.wrap (x3 * 65536)) + (u64.wrap (rd (0 : Int) p0 x4)))) fun x5 =>
    bnd (i64.wrap (x4 - 1)) fun x6 =>
    some (.inl (x5, x6))
  else
  (r01_Word_j1 x3).map .inr
def r01_Word (p0 : D_r01_Nat) : Option (Int × Bool) :=
  bif decide ((p0.length : Int) > 4) then
    some ((0 : Int), false)
  else
  bnd (i64.wrap ((p0.length : Int) - 1)) fun x1 =>
  loopM (fun x : Int × Int => r01_Word_b1 p0 x.1 x.2) ((0 : Int), x1)
theorem r01_Word.ok {p0 : D_r01_Nat} {r : Int × Bool} (h : r01_Word p0 = some r) : ACall prog 12 [⟨T_r01_Nat, p0⟩] [⟨0, .int .u64, r.1⟩, ⟨0, .bool, r.2⟩] := by
  replace h := Leads.of h
  unfold r01_Word at h
  refine AC func12 rfl fun w0 F0 hw0 => ?_
  refine W_seq ?_
  refine R [] [(1, .box 0 T_r01_Nat p0)] pz ?_
  refine W_seq (W_seq ?_)
  refine R [] [(1, .box 0 T_r01_Nat p0), (9, .v 0 .bool (decide ((p0.length : Int) > 4)))] pz ?_
  refine C h (fun h => ?_) fun h => ?_
  · refine W_seq ?_
    refine R [] [(2, .v 0 (.int .u64) (0 : Int)), (3, .v 0 .bool false)] pz ?_
    cases h
    exact Rt hw0
  refine W_skip (W_seq ?_)
  refine R [] [(1, .box 0 T_r01_Nat p0), (4, .v 0 (.int .u64) (0 : Int))] pz ?_
  refine W_seq (W_seq ?_)
  refine R1 h [] (fun x1 => [(1, .box 0 T_r01_Nat p0), (4, .v 0 (.int .u64) (0 : Int)), (5, .v 0 (.int .i64) x1)]) pz fun x1 h => ?_
  refine J1 h r01_Word_j1 (fun x2 => [(4, .v 0 (.int .u64) x2)]) (fun x2 h => ?_) fun j1 => ?_
  · unfold r01_Word_j1 at h
    refine W_seq ?_
    refine R [] [(2, .v 0 (.int .u64) x2), (3, .v 0 .bool true)] pz ?_
    cases h
    exact Rt hw0
  refine W_block ?_
  refine L2 h (fun x3 x4 => [(1, .box 0 T_r01_Nat p0), (4, .v 0 (.int .u64) x3), (5, .v 0 (.int .i64) x4)]) fun x3 x4 _ h => ?_
  unfold r01_Word_b1 at h
  refine W_seq (W_seq ?_)
  refine R [] [(1, .box 0 T_r01_Nat p0), (4, .v 0 (.int .u64) x3), (5, .v 0 (.int .i64) x4), (15, .v 0 .bool (decide (x4 ≥ 0)))] pz ?_
  refine C h (fun h => ?_) fun h => ?_
  · refine W_skip (W_seq (W_block ?_))
    obtain ⟨o1, h⟩ := h.ass
    refine R1 h [] (fun x5 => [(1, .box 0 T_r01_Nat p0), (4, .v 0 (.int .u64) x5), (5, .v 0 (.int .i64) x4)]) (ps o1) fun x5 h => ?_
    refine W_blk ?_
    refine R1 h [] (fun x6 => [(1, .box 0 T_r01_Nat p0), (4, .v 0 (.int .u64) x5), (5, .v 0 (.int .i64) x6)]) pz fun x6 h => ?_
    exact B h
  refine W_exit rfl ?_
  exact K (j1 x3 h.back)

def l48_PlanExact_j2 (y3 : (List Int) × Int) (x10 : Bool) (x11 : List Int) : Option (Bool) :=
  bif x10 then
    (bif ((y3.1.length : Int) == 0) && (y3.2 == 6) then l48_alive else some false).bind fun y12 =>
    bnd ((((y3.1.length : Int) == 0) && (y3.2 == 6)) && y12) fun x13 =>
    some x13
  else
  (bif y3.2 == 0 then r11_Ints y3.1 x11 else some false).bind fun y14 =>
  (bif (y3.2 == 0) && y14 then l48_alive else some false).bind fun y15 =>
  bnd (((y3.2 == 0) && y14) && y15) fun x16 =>
  some x16
def l48_PlanExact_b1 (y3 : (List Int) × Int) (x8 : List D_r04_Q) (y9 : D_r01_Nat) (x17 : Bool) (x18 : List Int) (x19 : Int) : Option ((Bool × (List Int) × Int) ⊕ Bool) :=
  bif decide (x19 < (x8.length : Int)) then
    ass (0 ≤ x19 ∧ x19 < (x8.length : Int)) <|
    (r04_Up (rd z_r04_Q x8 x19) y9).bind fun y20 =>
    (r01_Word y20).bind fun y21 =>
    bnd ((x17 || (!y21.2)) || (decide (y21.1 > 1048576))) fun x22 =>
    ass ((4294967296 : Int) ≠ 0) <|
    ass (((x18.length + [i64.wrap (y21.1.tmod 4294967296)].length : Nat) : Int) ≤ limA) <|
    bnd (x18 ++ [i64.wrap (y21.1.tmod 4294967296)]) fun x23 =>
    bnd (i64.wrap (x19 + 1)) fun x24 =>
    some (.inl (x22, x23, x24))
  else
  (l48_PlanExact_j2 y3 x17 x18).map .inr
def l48_PlanExact_j1 (y3 : (List Int) × Int) (x8 : List D_r04_Q) : Option (Bool) :=
  (r04_Lcm x8).bind fun y9 =>
  loopM (fun x : Bool × (List Int) × Int => l48_PlanExact_b1 y3 x8 y9 x.1 x.2.1 x.2.2) (false, ([] : List Int), (0 : Int))
def l48_PlanExact_b2 (y1 : (List D_r04_Q) × Bool) (y3 : (List Int) × Int) (x25 : List D_r04_Q) (x26 : Int) : Option (((List D_r04_Q) × Int) ⊕ Bool) :=
  bif decide (x26 < (y1.1.length : Int)) then
    ass (0 ≤ x26 ∧ x26 < (y1.1.length : Int)) <|
    (r48_Sum y1.1).bind fun y27 =>
    (r04_Div (rd z_r04_Q y1.1 x26) y27).bind fun y28 =>
    ass (((x25.length + [y28].length : Nat) : Int) ≤ limQ) <|
    bnd (x25 ++ [y28]) fun x29 =>
    bnd (i64.wrap (x26 + 1)) fun x30 =>
    some (.inl (x29, x30))
  else
  (l48_PlanExact_j1 y3 x25).map .inr
def l48_PlanExact (p0 : List D_api_Ratio) : Option Bool :=
  (l48_in p0).bind fun y1 =>
  bif (!y1.2) || (decide ((p0.length : Int) > 10)) then
    (l48_alive).bind fun y2 =>
    some y2
  else
  (plan_Exact p0).bind fun y3 =>
  (r48_Sum y1.1).bind fun y4 =>
  (r04_Zero y4).bind fun y5 =>
  bif y5 then
    (bif ((y3.1.length : Int) == 0) && (y3.2 == 16) then l48_alive else some false).bind fun y6 =>
    bnd ((((y3.1.length : Int) == 0) && (y3.2 == 16)) && y6) fun x7 =>
    some x7
  else
  loopM (fun x : (List D_r04_Q) × Int => l48_PlanExact_b2 y1 y3 x.1 x.2) (([] : List D_r04_Q), (0 : Int))
theorem l48_PlanExact.ok {p0 : List D_api_Ratio} {r : Bool} (h : l48_PlanExact p0 = some r) : ACall prog 3 [⟨.slice T_api_Ratio, p0⟩] [⟨0, .bool, r⟩] := by
  replace h := Leads.of h
  unfold l48_PlanExact at h
  refine AC func3 rfl fun w0 F0 hw0 => ?_
  refine W_seq ?_
  refine R [] [(0, .v 0 (.slice T_api_Ratio) p0)] pz ?_
  refine W_seq ?_
  obtain ⟨y1, ey1, h⟩ := h.bind
  refine R [.res [(1, ⟨1, .slice T_r04_Q, y1.1⟩), (0, ⟨0, .bool, y1.2⟩)]] [(0, .v 0 (.slice T_api_Ratio) p0), (3, .v 1 (.slice T_r04_Q) y1.1), (4, .v 0 .bool y1.2)] (ps (l48_in.ok ey1)) ?_
  refine W_seq (W_seq ?_)
  refine R [] [(0, .v 0 (.slice T_api_Ratio) p0), (3, .v 1 (.slice T_r04_Q) y1.1), (26, .v 0 .bool ((!y1.2) || (decide ((p0.length : Int) > 10))))] pz ?_
  refine C h (fun h => ?_) fun h => ?_
  · refine W_seq ?_
    obtain ⟨y2, ey2, h⟩ := h.bind
    refine R [.res [(0, ⟨0, .bool, y2⟩)]] [(2, .v 0 .bool y2)] (ps (l48_alive.ok ey2)) ?_
    cases h
    exact Rt hw0
  refine W_skip (W_seq ?_)
  obtain ⟨y3, ey3, h⟩ := h.bind
  refine R [.res [(9, ⟨9, .slice (.int .i64), y3.1⟩), (0, ⟨0, .int .i64, y3.2⟩)]] [(3, .v 1 (.slice T_r04_Q) y1.1), (5, .v 9 (.slice (.int .i64)) y3.1), (6, .v 0 (.int .i64) y3.2)] (ps (plan_Exact.ok ey3)) ?_
  refine W_seq (W_seq ?_)
  refine K (E' := [(3, .v 0 (.slice T_r04_Q) y1.1), (5, .v 9 (.slice (.int .i64)) y3.1), (6, .v 0 (.int .i64) y3.2)]) ?_
  obtain ⟨y4, ey4, h⟩ := h.bind
  obtain ⟨y5, ey5, h⟩ := h.bind
  refine R [.res [(0, ⟨0, T_r04_Q, y4⟩)], .res [(0, ⟨0, .bool, y5⟩)]] [(3, .v 0 (.slice T_r04_Q) y1.1), (5, .v 9 (.slice (.int .i64)) y3.1), (6, .v 0 (.int .i64) y3.2), (35, .v 0 .bool y5)] (pc (r48_Sum.ok ey4) (ps (r04_Zero.ok ey5))) ?_
  refine C h (fun h => ?_) fun h => ?_
  · refine W_seq ?_
    obtain ⟨y6, ey6, h⟩ := h.bind
    refine R1 h [.res [(0, ⟨0, .bool, y6⟩)]] (fun x7 => [(2, .v 0 .bool x7)]) (ps (fun hc => l48_alive.ok (bif_some ey6 hc))) fun x7 h => ?_
    cases h
    exact Rt hw0
  refine W_skip (W_seq ?_)
  refine R [] [(3, .v 0 (.slice T_r04_Q) y1.1), (5, .v 9 (.slice (.int .i64)) y3.1), (6, .v 0 (.int .i64) y3.2), (7, .v 9 (.slice T_r04_Q) ([] : List D_r04_Q))] pz ?_
  refine W_seq (W_seq ?_)
  refine R [] [(3, .v 0 (.slice T_r04_Q) y1.1), (5, .v 9 (.slice (.int .i64)) y3.1), (6, .v 0 (.int .i64) y3.2), (7, .v 9 (.slice T_r04_Q) ([] : List D_r04_Q)), (8, .v 0 (.int .i64) (0 : Int))] pz ?_
  refine J1 h (l48_PlanExact_j1 y3) (fun x8 => [(5, .v 9 (.slice (.int .i64)) y3.1), (6, .v 0 (.int .i64) y3.2), (7, .v 1 (.slice T_r04_Q) x8)]) (fun x8 h => ?_) fun j1 => ?_
  · unfold l48_PlanExact_j1 at h
    refine W_seq ?_
    refine K (E' := [(5, .v 9 (.slice (.int .i64)) y3.1), (6, .v 0 (.int .i64) y3.2), (7, .v 0 (.slice T_r04_Q) x8)]) ?_
    obtain ⟨y9, ey9, h⟩ := h.bind
    refine R [.res [(0, ⟨0, T_r01_Nat, y9⟩)]] [(5, .v 9 (.slice (.int .i64)) y3.1), (6, .v 0 (.int .i64) y3.2), (7, .v 0 (.slice T_r04_Q) x8), (9, .box 0 T_r01_Nat y9)] (ps (r04_Lcm.ok ey9)) ?_
    refine W_seq ?_
    refine R [] [(5, .v 9 (.slice (.int .i64)) y3.1), (6, .v 0 (.int .i64) y3.2), (7, .v 0 (.slice T_r04_Q) x8), (9, .box 0 T_r01_Nat y9), (10, .v 0 .bool false)] pz ?_
    refine W_seq ?_
    refine R [] [(5, .v 9 (.slice (.int .i64)) y3.1), (6, .v 0 (.int .i64) y3.2), (7, .v 0 (.slice T_r04_Q) x8), (9, .box 0 T_r01_Nat y9), (10, .v 0 .bool false), (11, .v 9 (.slice (.int .i64)) ([] : List Int))] pz ?_
    refine W_seq (W_seq ?_)
    refine R [] [(5, .v 9 (.slice (.int .i64)) y3.1), (6, .v 0 (.int .i64) y3.2), (7, .v 0 (.slice T_r04_Q) x8), (9, .box 0 T_r01_Nat y9), (10, .v 0 .bool false), (11, .v 9 (.slice (.int .i64)) ([] : List Int)), (12, .v 0 (.int .i64) (0 : Int))] pz ?_
    refine J2 h (l48_PlanExact_j2 y3) (fun x10 x11 => [(5, .v 9 (.slice (.int .i64)) y3.1), (6, .v 0 (.int .i64) y3.2), (10, .v 0 .bool x10), (11, .v 9 (.slice (.int .i64)) x11)]) (fun x10 x11 h => ?_) fun j2 => ?_
    · unfold l48_PlanExact_j2 at h
      refine W_seq (W_seq ?_)
      refine R [] [(5, .v 9 (.slice (.int .i64)) y3.1), (6, .v 0 (.int .i64) y3.2), (11, .v 9 (.slice (.int .i64)) x11), (95, .v 0 .bool x10)] pz ?_
      refine C h (fun h => ?_) fun h => ?_
      · refine W_seq ?_
        obtain ⟨y12, ey12, h⟩ := h.bind
        refine R1 h [.res [(0, ⟨0, .bool, y12⟩)]] (fun x13 => [(2, .v 0 .bool x13)]) (ps (fun hc => l48_alive.ok (bif_some ey12 hc))) fun x13 h => ?_
        cases h
        exact Rt hw0
      refine W_skip (W_seq ?_)
      obtain ⟨y14, ey14, h⟩ := h.bind
      obtain ⟨y15, ey15, h⟩ := h.bind
      refine R1 h [.res [(0, ⟨0, .bool, y14⟩)], .res [(0, ⟨0, .bool, y15⟩)]] (fun x16 => [(2, .v 0 .bool x16)]) (pc (fun hc => r11_Ints.ok (bif_some ey14 hc)) (ps (fun hc => l48_alive.ok (bif_some ey15 hc)))) fun x16 h => ?_
      cases h
      exact Rt hw0
    refine W_block ?_
    refine L3 h (fun x17 x18 x19 => [(5, .v 9 (.slice (.int .i64)) y3.1), (6, .v 0 (.int .i64) y3.2), (7, .v 0 (.slice T_r04_Q) x8), (9, .box 0 T_r01_Nat y9), (10, .v 0 .bool x17), (11, .v 9 (.slice (.int .i64)) x18), (12, .v 0 (.int .i64) x19)]) fun x17 x18 x19 _ h => ?_
    unfold l48_PlanExact_b1 at h
    refine W_seq (W_seq ?_)
    refine R [] [(5, .v 9 (.slice (.int .i64)) y3.1), (6, .v 0 (.int .i64) y3.2), (7, .v 0 (.slice T_r04_Q) x8), (9, .box 0 T_r01_Nat y9), (10, .v 0 .bool x17), (11, .v 9 (.slice (.int .i64)) x18), (12, .v 0 (.int .i64) x19), (67, .v 0 .bool (decide (x19 < (x8.length : Int))))] pz ?_
    refine C h (fun h => ?_) fun h => ?_
    · refine W_skip (W_seq (W_block (W_seq ?_)))
      obtain ⟨o1, h⟩ := h.ass
      obtain ⟨y20, ey20, h⟩ := h.bind
      obtain ⟨y21, ey21, h⟩ := h.bind
      refine RL [.res [(0, ⟨0, T_r01_Nat, y20⟩)], .res [(0, ⟨0, .int .u64, y21.1⟩), (0, ⟨0, .bool, y21.2⟩)]] [(5, .v 9 (.slice (.int .i64)) y3.1), (6, .v 0 (.int .i64) y3.2), (7, .v 0 (.slice T_r04_Q) x8), (9, .box 0 T_r01_Nat y9), (10, .v 0 .bool x17), (11, .v 9 (.slice (.int .i64)) x18), (12, .v 0 (.int .i64) x19), (13, .v 0 (.int .u64) y21.1), (14, .v 0 .bool y21.2)] (pc o1 (pc (r04_Up.ok ey20) (pc (r01_Word.ok ey21) (ps (rfl : (⟨.bool, y21.2⟩ : TV) = ⟨.bool, y21.2⟩))))) ?_
      refine W_seq ?_
      refine R1 h [] (fun x22 => [(5, .v 9 (.slice (.int .i64)) y3.1), (6, .v 0 (.int .i64) y3.2), (7, .v 0 (.slice T_r04_Q) x8), (9, .box 0 T_r01_Nat y9), (10, .v 0 .bool x22), (11, .v 9 (.slice (.int .i64)) x18), (12, .v 0 (.int .i64) x19), (13, .v 0 (.int .u64) y21.1)]) pz fun x22 h => ?_
      obtain ⟨o1, h⟩ := h.ass
      obtain ⟨o2, h⟩ := h.ass
      refine R1 h [] (fun x23 => [(5, .v 9 (.slice (.int .i64)) y3.1), (6, .v 0 (.int .i64) y3.2), (7, .v 0 (.slice T_r04_Q) x8), (9, .box 0 T_r01_Nat y9), (10, .v 0 .bool x22), (11, .v 9 (.slice (.int .i64)) x23), (12, .v 0 (.int .i64) x19)]) (pc o1 (ps o2)) fun x23 h => ?_
      refine W_blk ?_
      refine R1 h [] (fun x24 => [(5, .v 9 (.slice (.int .i64)) y3.1), (6, .v 0 (.int .i64) y3.2), (7, .v 0 (.slice T_r04_Q) x8), (9, .box 0 T_r01_Nat y9), (10, .v 0 .bool x22), (11, .v 9 (.slice (.int .i64)) x23), (12, .v 0 (.int .i64) x24)]) pz fun x24 h => ?_
      exact B h
    refine W_exit rfl ?_
    exact K (j2 x17 x18 h.back)
  refine W_block ?_
  refine L2 h (fun x25 x26 => [(3, .v 0 (.slice T_r04_Q) y1.1), (5, .v 9 (.slice (.int .i64)) y3.1), (6, .v 0 (.int .i64) y3.2), (7, .v 1 (.slice T_r04_Q) x25), (8, .v 0 (.int .i64) x26)]) fun x25 x26 _ h => ?_
  unfold l48_PlanExact_b2 at h
  refine W_seq (W_seq ?_)
  refine R [] [(3, .v 0 (.slice T_r04_Q) y1.1), (5, .v 9 (.slice (.int .i64)) y3.1), (6, .v 0 (.int .i64) y3.2), (7, .v 1 (.slice T_r04_Q) x25), (8, .v 0 (.int .i64) x26), (49, .v 0 .bool (decide (x26 < (y1.1.length : Int))))] pz ?_
  refine C h (fun h => ?_) fun h => ?_
  · refine W_skip (W_seq (W_block ?_))
    obtain ⟨o1, h⟩ := h.ass
    obtain ⟨y27, ey27, h⟩ := h.bind
    obtain ⟨y28, ey28, h⟩ := h.bind
    obtain ⟨o2, h⟩ := h.ass
    refine R1 h [.res [(0, ⟨0, T_r04_Q, y27⟩)], .res [(0, ⟨0, T_r04_Q, y28⟩)]] (fun x29 => [(3, .v 0 (.slice T_r04_Q) y1.1), (5, .v 9 (.slice (.int .i64)) y3.1), (6, .v 0 (.int .i64) y3.2), (7, .v 1 (.slice T_r04_Q) x29), (8, .v 0 (.int .i64) x26)]) (pc o1 (pc (r48_Sum.ok ey27) (pc (r04_Div.ok ey28) (ps o2)))) fun x29 h => ?_
    refine W_blk ?_
    refine R1 h [] (fun x30 => [(3, .v 0 (.slice T_r04_Q) y1.1), (5, .v 9 (.slice (.int .i64)) y3.1), (6, .v 0 (.int .i64) y3.2), (7, .v 1 (.slice T_r04_Q) x29), (8, .v 0 (.int .i64) x30)]) pz fun x30 h => ?_
    exact B h
  refine W_exit rfl ?_
  exact K (j1 x25 h.back)

def r04_Cmp (p0 : D_r04_Q) (p1 : D_r04_Q) : Option Int :=
  (r01_Mul p0.1 p1.2).bind fun y1 =>
  (r01_Mul p1.1 p0.2).bind fun y2 =>
  (r01_Cmp y1 y2).bind fun y3 =>
  some y3
theorem r04_Cmp.ok {p0 : D_r04_Q} {p1 : D_r04_Q} {r : Int} (h : r04_Cmp p0 p1 = some r) : ACall prog 20 [⟨T_r04_Q, p0⟩, ⟨T_r04_Q, p1⟩] [⟨0, .int .i64, r⟩] := by
  replace h := Leads.of h
  unfold r04_Cmp at h
  refine AC func20 rfl fun w0 F0 hw0 => ?_
  refine W_seq ?_
  refine R [] [(2, .box 0 T_r04_Q p0), (3, .box 0 T_r04_Q p1)] pz ?_
  refine W_seq ?_
  obtain ⟨y1, ey1, h⟩ := h.bind
  obtain ⟨y2, ey2, h⟩ := h.bind
  obtain ⟨y3, ey3, h⟩ := h.bind
  refine R [.res [(0, ⟨0, T_r01_Nat, y1⟩)], .res [(0, ⟨0, T_r01_Nat, y2⟩)], .res [(0, ⟨0, .int .i64, y3⟩)]] [(4, .v 0 (.int .i64) y3)] (pc (r01_Mul.ok ey1) (pc (r01_Mul.ok ey2) (ps (r01_Cmp.ok ey3)))) ?_
  cases h
  exact Rt hw0

def r04_Sub (p0 : D_r04_Q) (p1 : D_r04_Q) : Option D_r04_Q :=
  bnd ((([] : List Int), ([] : List Int))) fun x1 =>
  (r01_Mul p0.1 p1.2).bind fun y2 =>
  (r01_Mul p1.1 p0.2).bind fun y3 =>
  (r01_Sub y2 y3).bind fun y4 =>
  (r01_Mul p0.2 p1.2).bind fun y5 =>
  (r04_Low (y4, y5)).bind fun y6 =>
  some y6
theorem r04_Sub.ok {p0 : D_r04_Q} {p1 : D_r04_Q} {r : D_r04_Q} (h : r04_Sub p0 p1 = some r) : ACall prog 73 [⟨T_r04_Q, p0⟩, ⟨T_r04_Q, p1⟩] [⟨0, T_r04_Q, r⟩] := by
  replace h := Leads.of h
  unfold r04_Sub at h
  refine AC func73 rfl fun w0 F0 hw0 => ?_
  refine W_seq ?_
  refine R1 h [] (fun x1 => [(2, .box 0 T_r04_Q p0), (3, .box 0 T_r04_Q p1), (4, .box 9 T_r04_Q x1)]) pz fun x1 h => ?_
  refine W_seq ?_
  obtain ⟨y2, ey2, h⟩ := h.bind
  obtain ⟨y3, ey3, h⟩ := h.bind
  obtain ⟨y4, ey4, h⟩ := h.bind
  obtain ⟨y5, ey5, h⟩ := h.bind
  obtain ⟨y6, ey6, h⟩ := h.bind
  refine R [.res [(0, ⟨0, T_r01_Nat, y2⟩)], .res [(0, ⟨0, T_r01_Nat, y3⟩)], .res [(0, ⟨0, T_r01_Nat, y4⟩)], .res [(0, ⟨0, T_r01_Nat, y5⟩)], .res [(0, ⟨0, T_r04_Q, y6⟩)]] [(4, .box 0 T_r04_Q y6)] (pc (r01_Mul.ok ey2) (pc (r01_Mul.ok ey3) (pc (r01_Sub.ok ey4) (pc (r01_Mul.ok ey5) (ps (r04_Low.ok ey6)))))) ?_
  cases h
  exact Rt hw0

def r48_Gap (p0 : D_r04_Q) (p1 : D_r04_Q) : Option D_r04_Q :=
  bnd ((([] : List Int), ([] : List Int))) fun x1 =>
  (r04_Cmp p0 p1).bind fun y2 =>
  bif decide (y2 ≥ 0) then
    (r04_Sub p0 p1).bind fun y3 =>
    some y3
  else
  (r04_Sub p1 p0).bind fun y4 =>
  some y4
theorem r48_Gap.ok {p0 : D_r04_Q} {p1 : D_r04_Q} {r : D_r04_Q} (h : r48_Gap p0 p1 = some r) : ACall prog 52 [⟨T_r04_Q, p0⟩, ⟨T_r04_Q, p1⟩] [⟨0, T_r04_Q, r⟩] := by
  replace h := Leads.of h
  unfold r48_Gap at h
  refine AC func52 rfl fun w0 F0 hw0 => ?_
  refine W_seq ?_
  refine R1 h [] (fun x1 => [(2, .box 0 T_r04_Q p0), (3, .box 0 T_r04_Q p1), (4, .box 9 T_r04_Q x1)]) pz fun x1 h => ?_
  refine W_seq (W_seq ?_)
  obtain ⟨y2, ey2, h⟩ := h.bind
  refine R [.res [(0, ⟨0, .int .i64, y2⟩)]] [(2, .box 0 T_r04_Q p0), (3, .box 0 T_r04_Q p1), (4, .box 9 T_r04_Q x1), (8, .v 0 .bool (decide (y2 ≥ 0)))] (ps (r04_Cmp.ok ey2)) ?_
  refine C h (fun h => ?_) fun h => ?_
  · refine W_seq ?_
    obtain ⟨y3, ey3, h⟩ := h.bind
    refine R [.res [(0, ⟨0, T_r04_Q, y3⟩)]] [(4, .box 0 T_r04_Q y3)] (ps (r04_Sub.ok ey3)) ?_
    cases h
    exact Rt hw0
  refine W_skip (W_seq ?_)
  obtain ⟨y4, ey4, h⟩ := h.bind
  refine R [.res [(0, ⟨0, T_r04_Q, y4⟩)]] [(4, .box 0 T_r04_Q y4)] (ps (r04_Sub.ok ey4)) ?_
  cases h
  exact Rt hw0

def r48_Near_j1 (x5 : D_r04_Q) : Option (D_r04_Q) :=
  some x5
def r48_Near_j3 (x7 : Int) (x25 : D_r04_Q) : Option ((D_r04_Q × Int) ⊕ D_r04_Q) :=
  bnd (i64.wrap (x7 + 1)) fun x26 =>
  some (.inl (x25, x26))
def r48_Near_j2 (p0 : D_r04_Q) (x7 : Int) (y16 : D_r04_Q) (x21 : D_r04_Q) : Option ((D_r04_Q × Int) ⊕ D_r04_Q) :=
  (r48_Gap y16 p0).bind fun y22 =>
  (r48_Gap x21 p0).bind fun y23 =>
  (r04_Cmp y22 y23).bind fun y24 =>
  bif decide (y24 < 0) then
    r48_Near_j3 x7 y16
  else
  r48_Near_j3 x7 x21
def r48_Near_b1 (p0 : D_r04_Q) (p1 : Int) (x6 : D_r04_Q) (x7 : Int) : Option ((D_r04_Q × Int) ⊕ D_r04_Q) :=
  bif decide (x7 ≤ p1) then
    (r01_Of (u64.wrap x7)).bind fun y8 =>
    (r01_Mul p0.1 y8).bind fun y9 =>
    (r01_Div y9 p0.2).bind fun y10 =>
    (r01_Of (u64.wrap x7)).bind fun y11 =>
    (r04_Low (y10.1, y11)).bind fun y12 =>
    (r01_Of (1 : Int)).bind fun y13 =>
    (r01_Add y10.1 y13).bind fun y14 =>
    (r01_Of (u64.wrap x7)).bind fun y15 =>
    (r04_Low (y14, y15)).bind fun y16 =>
    (r48_Gap y12 p0).bind fun y17 =>
    (r48_Gap x6 p0).bind fun y18 =>
    (r04_Cmp y17 y18).bind fun y19 =>
    (bif (!(decide (y19 < 0))) && (y19 == 0) then r04_Cmp x6 p0 else some (0 : Int)).bind fun y20 =>
    bif (decide (y19 < 0)) || ((y19 == 0) && (decide (y20 > 0))) then
      r48_Near_j2 p0 x7 y16 y12
    else
    r48_Near_j2 p0 x7 y16 x6
  else
  (r48_Near_j1 x6).map .inr
def r48_Near (p0 : D_r04_Q) (p1 : Int) : Option D_r04_Q :=
  bnd ((([] : List Int), ([] : List Int))) fun x1 =>
  (r01_Div p0.1 p0.2).bind fun y2 =>
  (r01_Of (1 : Int)).bind fun y3 =>
  bnd ((y2.1, y3)) fun x4 =>
  loopM (fun x : D_r04_Q × Int => r48_Near_b1 p0 p1 x.1 x.2) (x4, (1 : Int))
theorem r48_Near.ok {p0 : D_r04_Q} {p1 : Int} {r : D_r04_Q} (h : r48_Near p0 p1 = some r) : ACall prog 23 [⟨T_r04_Q, p0⟩, ⟨.int .i64, p1⟩] [⟨0, T_r04_Q, r⟩] := by
  replace h := Leads.of h
  unfold r48_Near at h
  refine AC func23 rfl fun w0 F0 hw0 => ?_
  refine W_seq ?_
  refine R1 h [] (fun x1 => [(1, .v 0 (.int .i64) p1), (2, .box 0 T_r04_Q p0), (4, .box 9 T_r04_Q x1)]) pz fun x1 h => ?_
  refine W_seq ?_
  obtain ⟨y2, ey2, h⟩ := h.bind
  refine R [.res [(0, ⟨0, T_r01_Nat, y2.1⟩), (0, ⟨0, T_r01_Nat, y2.2⟩)]] [(1, .v 0 (.int .i64) p1), (2, .box 0 T_r04_Q p0), (4, .box 9 T_r04_Q x1), (5, .box 0 T_r01_Nat y2.1)] (ps (r01_Div.ok ey2)) ?_
  refine W_seq ?_
  obtain ⟨y3, ey3, h⟩ := h.bind
  refine R1 h [.res [(0, ⟨0, T_r01_Nat, y3⟩)]] (fun x4 => [(1, .v 0 (.int .i64) p1), (2, .box 0 T_r04_Q p0), (4, .box 9 T_r04_Q x1), (7, .box 0 T_r04_Q x4)]) (ps (r01_Of.ok ey3)) fun x4 h => ?_
  refine W_seq (W_seq ?_)
  refine R [] [(1, .v 0 (.int .i64) p1), (2, .box 0 T_r04_Q p0), (4, .box 9 T_r04_Q x1), (7, .box 0 T_r04_Q x4), (8, .v 0 (.int .i64) (1 : Int))] pz ?_
  refine J1 h r48_Near_j1 (fun x5 => [(4, .box 9 T_r04_Q x1), (7, .box 0 T_r04_Q x5)]) (fun x5 h => ?_) fun j1 => ?_
  · unfold r48_Near_j1 at h
    refine W_seq ?_
    refine R [] [(4, .box 0 T_r04_Q x5)] pz ?_
    cases h
    exact Rt hw0
  refine W_block ?_
  refine L2 h (fun x6 x7 => [(1, .v 0 (.int .i64) p1), (2, .box 0 T_r04_Q p0), (4, .box 9 T_r04_Q x1), (7, .box 0 T_r04_Q x6), (8, .v 0 (.int .i64) x7)]) fun x6 x7 _ h => ?_
  unfold r48_Near_b1 at h
  refine W_seq (W_seq ?_)
  refine R [] [(1, .v 0 (.int .i64) p1), (2, .box 0 T_r04_Q p0), (4, .box 9 T_r04_Q x1), (7, .box 0 T_r04_Q x6), (8, .v 0 (.int .i64) x7), (27, .v 0 .bool (decide (x7 ≤ p1)))] pz ?_
  refine C h (fun h => ?_) fun h => ?_
  · refine W_skip (W_seq (W_block (W_seq ?_)))
    obtain ⟨y8, ey8, h⟩ := h.bind
    obtain ⟨y9, ey9, h⟩ := h.bind
    obtain ⟨y10, ey10, h⟩ := h.bind
    refine RL [.res [(0, ⟨0, T_r01_Nat, y8⟩)], .res [(0, ⟨0, T_r01_Nat, y9⟩)], .res [(0, ⟨0, T_r01_Nat, y10.1⟩), (0, ⟨0, T_r01_Nat, y10.2⟩)]] [(1, .v 0 (.int .i64) p1), (2, .box 0 T_r04_Q p0), (4, .box 9 T_r04_Q x1), (7, .box 0 T_r04_Q x6), (8, .v 0 (.int .i64) x7), (9, .box 0 T_r01_Nat y10.1)] (pc (r01_Of.ok ey8) (pc (r01_Mul.ok ey9) (pc (r01_Div.ok ey10) (ps (rfl : (⟨T_r01_Nat, y10.2⟩ : TV) = ⟨T_r01_Nat, y10.2⟩))))) ?_
    refine W_seq ?_
    obtain ⟨y11, ey11, h⟩ := h.bind
    obtain ⟨y12, ey12, h⟩ := h.bind
    refine R [.res [(0, ⟨0, T_r01_Nat, y11⟩)], .res [(0, ⟨0, T_r04_Q, y12⟩)]] [(1, .v 0 (.int .i64) p1), (2, .box 0 T_r04_Q p0), (4, .box 9 T_r04_Q x1), (7, .box 0 T_r04_Q x6), (8, .v 0 (.int .i64) x7), (9, .box 0 T_r01_Nat y10.1), (11, .box 0 T_r04_Q y12)] (pc (r01_Of.ok ey11) (ps (r04_Low.ok ey12))) ?_
    refine W_seq ?_
    obtain ⟨y13, ey13, h⟩ := h.bind
    obtain ⟨y14, ey14, h⟩ := h.bind
    obtain ⟨y15, ey15, h⟩ := h.bind
    obtain ⟨y16, ey16, h⟩ := h.bind
    refine R [.res [(0, ⟨0, T_r01_Nat, y13⟩)], .res [(0, ⟨0, T_r01_Nat, y14⟩)], .res [(0, ⟨0, T_r01_Nat, y15⟩)], .res [(0, ⟨0, T_r04_Q, y16⟩)]] [(1, .v 0 (.int .i64) p1), (2, .box 0 T_r04_Q p0), (4, .box 9 T_r04_Q x1), (7, .box 0 T_r04_Q x6), (8, .v 0 (.int .i64) x7), (11, .box 0 T_r04_Q y12), (12, .box 0 T_r04_Q y16)] (pc (r01_Of.ok ey13) (pc (r01_Add.ok ey14) (pc (r01_Of.ok ey15) (ps (r04_Low.ok ey16))))) ?_
    refine W_seq ?_
    obtain ⟨y17, ey17, h⟩ := h.bind
    obtain ⟨y18, ey18, h⟩ := h.bind
    obtain ⟨y19, ey19, h⟩ := h.bind
    refine R [.res [(0, ⟨0, T_r04_Q, y17⟩)], .res [(0, ⟨0, T_r04_Q, y18⟩)], .res [(0, ⟨0, .int .i64, y19⟩)]] [(1, .v 0 (.int .i64) p1), (2, .box 0 T_r04_Q p0), (4, .box 9 T_r04_Q x1), (7, .box 0 T_r04_Q x6), (8, .v 0 (.int .i64) x7), (11, .box 0 T_r04_Q y12), (12, .box 0 T_r04_Q y16), (13, .v 0 (.int .i64) y19)] (pc (r48_Gap.ok ey17) (pc (r48_Gap.ok ey18) (ps (r04_Cmp.ok ey19)))) ?_
    refine W_seq (W_seq ?_)
    obtain ⟨y20, ey20, h⟩ := h.bind
    refine R [.res [(0, ⟨0, .int .i64, y20⟩)]] [(1, .v 0 (.int .i64) p1), (2, .box 0 T_r04_Q p0), (4, .box 9 T_r04_Q x1), (7, .box 0 T_r04_Q x6), (8, .v 0 (.int .i64) x7), (11, .box 0 T_r04_Q y12), (12, .box 0 T_r04_Q y16), (74, .v 0 .bool ((decide (y19 < 0)) || ((y19 == 0) && (decide (y20 > 0)))))] (ps (fun hc => r04_Cmp.ok (bif_some ey20 hc))) ?_
    refine J1 h (r48_Near_j2 p0 x7 y16) (fun x21 => [(1, .v 0 (.int .i64) p1), (2, .box 0 T_r04_Q p0), (4, .box 9 T_r04_Q x1), (7, .box 0 T_r04_Q x21), (8, .v 0 (.int .i64) x7), (12, .box 0 T_r04_Q y16)]) (fun x21 h => ?_) fun j2 => ?_
    · unfold r48_Near_j2 at h
      refine W_seq ?_
      obtain ⟨y22, ey22, h⟩ := h.bind
      obtain ⟨y23, ey23, h⟩ := h.bind
      obtain ⟨y24, ey24, h⟩ := h.bind
      refine R [.res [(0, ⟨0, T_r04_Q, y22⟩)], .res [(0, ⟨0, T_r04_Q, y23⟩)], .res [(0, ⟨0, .int .i64, y24⟩)]] [(1, .v 0 (.int .i64) p1), (2, .box 0 T_r04_Q p0), (4, .box 9 T_r04_Q x1), (7, .box 0 T_r04_Q x21), (8, .v 0 (.int .i64) x7), (12, .box 0 T_r04_Q y16), (83, .v 0 .bool (decide (y24 < 0)))] (pc (r48_Gap.ok ey22) (pc (r48_Gap.ok ey23) (ps (r04_Cmp.ok ey24)))) ?_
      refine J1 h (r48_Near_j3 x7) (fun x25 => [(1, .v 0 (.int .i64) p1), (2, .box 0 T_r04_Q p0), (4, .box 9 T_r04_Q x1), (7, .box 0 T_r04_Q x25), (8, .v 0 (.int .i64) x7)]) (fun x25 h => ?_) fun j3 => ?_
      · unfold r48_Near_j3 at h
        refine W_blk ?_
        refine R1 h [] (fun x26 => [(1, .v 0 (.int .i64) p1), (2, .box 0 T_r04_Q p0), (4, .box 9 T_r04_Q x1), (7, .box 0 T_r04_Q x25), (8, .v 0 (.int .i64) x26)]) pz fun x26 h => ?_
        exact B h
      refine C h (fun h => ?_) fun h => ?_
      · refine R [] [(1, .v 0 (.int .i64) p1), (2, .box 0 T_r04_Q p0), (4, .box 9 T_r04_Q x1), (7, .box 0 T_r04_Q y16), (8, .v 0 (.int .i64) x7)] pz ?_
        exact K (j3 y16 h)
      refine W_skip ?_
      exact K (j3 x21 h)
    refine C h (fun h => ?_) fun h => ?_
    · refine R [] [(1, .v 0 (.int .i64) p1), (2, .box 0 T_r04_Q p0), (4, .box 9 T_r04_Q x1), (7, .box 0 T_r04_Q y12), (8, .v 0 (.int .i64) x7), (12, .box 0 T_r04_Q y16)] pz ?_
      exact K (j2 y12 h)
    refine W_skip ?_
    exact K (j2 x6 h)
  refine W_exit rfl ?_
  exact K (j1 x6 h.back)

def l48_PlanNear (p0 : D_api_Ratio) (p1 : Int) : Option Bool :=
  (l48_in [p0]).bind fun y1 =>
  bif !y1.2 then
    (l48_alive).bind fun y2 =>
    some y2
  else
  (plan_Near p0 p1).bind fun y3 =>
  bif (decide (p1 < 1)) || (decide (p1 > 1048576)) then
    (bif (y3.2 == 1) && ((y3.1.2.length : Int) == 0) then l48_alive else some false).bind fun y4 =>
    bnd (((y3.2 == 1) && ((y3.1.2.length : Int) == 0)) && y4) fun x5 =>
    some x5
  else
  (bif !(y3.2 != 0) then r04_Right y3.1 else some false).bind fun y6 =>
  (bif !((y3.2 != 0) || (!y6)) then r03_In y3.1.2 else some ([] : List Int)).bind fun y7 =>
  (bif !((y3.2 != 0) || (!y6)) then r01_Of (u64.wrap p1) else some ([] : List Int)).bind fun y8 =>
  (bif !((y3.2 != 0) || (!y6)) then r01_Cmp y7 y8 else some (0 : Int)).bind fun y9 =>
  bif ((y3.2 != 0) || (!y6)) || (decide (y9 > 0)) then
    some false
  else
  ass (0 ≤ (0 : Int) ∧ (0 : Int) < (y1.1.length : Int)) <|
  (r01_Of (u64.wrap p1)).bind fun y10 =>
  (r01_Cmp (rd z_r04_Q y1.1 (0 : Int)).2 y10).bind fun y11 =>
  (bif decide (y11 ≤ 0) then r04_In y3.1 else some (([] : List Int), ([] : List Int))).bind fun y12 =>
  ass ((decide (y11 ≤ 0)) = true → 0 ≤ (0 : Int) ∧ (0 : Int) < (y1.1.length : Int)) <|
  (bif decide (y11 ≤ 0) then r04_Cmp y12 (rd z_r04_Q y1.1 (0 : Int)) else some (0 : Int)).bind fun y13 =>
  bif (decide (y11 ≤ 0)) && (y13 != 0) then
    some false
  else
  bif decide (p1 > 200) then
    (l48_alive).bind fun y14 =>
    some y14
  else
  ass (0 ≤ (0 : Int) ∧ (0 : Int) < (y1.1.length : Int)) <|
  (r48_Near (rd z_r04_Q y1.1 (0 : Int)) p1).bind fun y15 =>
  (r04_Same y3.1 y15).bind fun y16 =>
  (bif y16 then l48_alive else some false).bind fun y17 =>
  bnd (y16 && y17) fun x18 =>
  some x18
theorem l48_PlanNear.ok {p0 : D_api_Ratio} {p1 : Int} {r : Bool} (h : l48_PlanNear p0 p1 = some r) : ACall prog 4 [⟨T_api_Ratio, p0⟩, ⟨.int .i64, p1⟩] [⟨0, .bool, r⟩] := by
  replace h := Leads.of h
  unfold l48_PlanNear at h
  refine AC func4 rfl fun w0 F0 hw0 => ?_
  refine W_seq ?_
  refine R [] [(1, .v 0 (.int .i64) p1), (2, .box 0 T_api_Ratio p0)] pz ?_
  refine W_seq ?_
  obtain ⟨y1, ey1, h⟩ := h.bind
  refine R [.frz, .res [(1, ⟨1, .slice T_r04_Q, y1.1⟩), (0, ⟨0, .bool, y1.2⟩)]] [(1, .v 0 (.int .i64) p1), (2, .box 0 T_api_Ratio p0), (5, .v 1 (.slice T_r04_Q) y1.1), (6, .v 0 .bool y1.2)] (ps (l48_in.ok ey1)) ?_
  refine W_seq (W_seq ?_)
  refine R [] [(1, .v 0 (.int .i64) p1), (2, .box 0 T_api_Ratio p0), (5, .v 1 (.slice T_r04_Q) y1.1), (16, .v 0 .bool (!y1.2))] pz ?_
  refine C h (fun h => ?_) fun h => ?_
  · refine W_seq ?_
    obtain ⟨y2, ey2, h⟩ := h.bind
    refine R [.res [(0, ⟨0, .bool, y2⟩)]] [(4, .v 0 .bool y2)] (ps (l48_alive.ok ey2)) ?_
    cases h
    exact Rt hw0
  refine W_skip (W_seq ?_)
  obtain ⟨y3, ey3, h⟩ := h.bind
  refine R [.res [(0, ⟨0, T_api_Ratio, y3.1⟩), (0, ⟨0, .int .i64, y3.2⟩)]] [(1, .v 0 (.int .i64) p1), (5, .v 1 (.slice T_r04_Q) y1.1), (7, .box 0 T_api_Ratio y3.1), (8, .v 0 (.int .i64) y3.2)] (ps (plan_Near.ok ey3)) ?_
  refine W_seq (W_seq ?_)
  refine R [] [(1, .v 0 (.int .i64) p1), (5, .v 1 (.slice T_r04_Q) y1.1), (7, .box 0 T_api_Ratio y3.1), (8, .v 0 (.int .i64) y3.2), (29, .v 0 .bool ((decide (p1 < 1)) || (decide (p1 > 1048576))))] pz ?_
  refine C h (fun h => ?_) fun h => ?_
  · refine W_seq ?_
    obtain ⟨y4, ey4, h⟩ := h.bind
    refine R1 h [.res [(0, ⟨0, .bool, y4⟩)]] (fun x5 => [(4, .v 0 .bool x5)]) (ps (fun hc => l48_alive.ok (bif_some ey4 hc))) fun x5 h => ?_
    cases h
    exact Rt hw0
  refine W_skip (W_seq (W_seq ?_))
  obtain ⟨y6, ey6, h⟩ := h.bind
  obtain ⟨y7, ey7, h⟩ := h.bind
  obtain ⟨y8, ey8, h⟩ := h.bind
  obtain ⟨y9, ey9, h⟩ := h.bind
  refine R [.res [(0, ⟨0, .bool, y6⟩)], .res [(0, ⟨0, T_r01_Nat, y7⟩)], .res [(0, ⟨0, T_r01_Nat, y8⟩)], .res [(0, ⟨0, .int .i64, y9⟩)]] [(1, .v 0 (.int .i64) p1), (5, .v 1 (.slice T_r04_Q) y1.1), (7, .box 0 T_api_Ratio y3.1), (57, .v 0 .bool (((y3.2 != 0) || (!y6)) || (decide (y9 > 0))))] (pc (fun hc => r04_Right.ok (bif_some ey6 hc)) (pc (fun hc => r03_In.ok (bif_some ey7 hc)) (pc (fun hc => r01_Of.ok (bif_some ey8 hc)) (ps (fun hc => r01_Cmp.ok (bif_some ey9 hc)))))) ?_
  refine C h (fun h => ?_) fun h => ?_
  · refine W_seq ?_
    refine R [] [(4, .v 0 .bool false)] pz ?_
    cases h
    exact Rt hw0
  refine W_skip (W_seq (W_seq ?_))
  obtain ⟨o1, h⟩ := h.ass
  obtain ⟨y10, ey10, h⟩ := h.bind
  obtain ⟨y11, ey11, h⟩ := h.bind
  obtain ⟨y12, ey12, h⟩ := h.bind
  obtain ⟨o2, h⟩ := h.ass
  obtain ⟨y13, ey13, h⟩ := h.bind
  refine R [.res [(0, ⟨0, T_r01_Nat, y10⟩)], .res [(0, ⟨0, .int .i64, y11⟩)], .res [(0, ⟨0, T_r04_Q, y12⟩)], .res [(0, ⟨0, .int .i64, y13⟩)]] [(1, .v 0 (.int .i64) p1), (5, .v 1 (.slice T_r04_Q) y1.1), (7, .box 0 T_api_Ratio y3.1), (75, .v 0 .bool ((decide (y11 ≤ 0)) && (y13 != 0)))] (pc o1 (pc (r01_Of.ok ey10) (pc (r01_Cmp.ok ey11) (pc (fun hc => r04_In.ok (bif_some ey12 hc)) (pc o2 (ps (fun hc => r04_Cmp.ok (bif_some ey13 hc)))))))) ?_
  refine C h (fun h => ?_) fun h => ?_
  · refine W_seq ?_
    refine R [] [(4, .v 0 .bool false)] pz ?_
    cases h
    exact Rt hw0
  refine W_skip (W_seq (W_seq ?_))
  refine R [] [(1, .v 0 (.int .i64) p1), (5, .v 1 (.slice T_r04_Q) y1.1), (7, .box 0 T_api_Ratio y3.1), (77, .v 0 .bool (decide (p1 > 200)))] pz ?_
  refine C h (fun h => ?_) fun h => ?_
  · refine W_seq ?_
    obtain ⟨y14, ey14, h⟩ := h.bind
    refine R [.res [(0, ⟨0, .bool, y14⟩)]] [(4, .v 0 .bool y14)] (ps (l48_alive.ok ey14)) ?_
    cases h
    exact Rt hw0
  refine W_skip (W_seq ?_)
  obtain ⟨o1, h⟩ := h.ass
  obtain ⟨y15, ey15, h⟩ := h.bind
  obtain ⟨y16, ey16, h⟩ := h.bind
  obtain ⟨y17, ey17, h⟩ := h.bind
  refine R1 h [.res [(0, ⟨0, T_r04_Q, y15⟩)], .res [(0, ⟨0, .bool, y16⟩)], .res [(0, ⟨0, .bool, y17⟩)]] (fun x18 => [(4, .v 0 .bool x18)]) (pc o1 (pc (r48_Near.ok ey15) (pc (r04_Same.ok ey16) (ps (fun hc => l48_alive.ok (bif_some ey17 hc)))))) fun x18 h => ?_
  cases h
  exact Rt hw0

end
end Go.Tom
