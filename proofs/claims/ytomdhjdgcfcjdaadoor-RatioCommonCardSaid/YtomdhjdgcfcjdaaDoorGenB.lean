/- Each function of the program as a pure one, and the proof that the code keeps that contract. -/
import Derived.Test.YtomdhjdgcfcjdaaDoorGenA
set_option linter.unusedVariables false
set_option linter.constructorNameAsVariable false
set_option maxRecDepth 100000
namespace Go.Tom
open Go Go.IntKind Go.Proofs.Tryd
noncomputable section
def l04_RatioMakes (p0 : List Int) (p1 : List Int) (p2 : Int) (p3 : Int) : Option Bool :=
  bif (decide ((p0.length : Int) > 20)) || (decide ((p1.length : Int) > 20)) then
    (l04_alive).bind fun y1 =>
    some y1
  else
  (ratio_Make p0 p1).bind fun y2 =>
  (ratio_Of p2 p3).bind fun y3 =>
  (r03_In p0).bind fun y4 =>
  (r03_In p1).bind fun y5 =>
  (ratio_Right (p0, p1)).bind fun y6 =>
  (r04_Right (p0, p1)).bind fun y7 =>
  bif ((y6 != y7) || (y2.2 != (decide ((y5.length : Int) > 0)))) || (y3.2 != (decide (p3 > 0))) then
    some false
  else
  (bif y2.2 then r04_Low (y4, y5) else some (([] : List Int), ([] : List Int))).bind fun y8 =>
  (bif y2.2 then r04_Same y2.1 y8 else some false).bind fun y9 =>
  (bif (!(y2.2 && (!y9))) && (!y2.2) then l04_none y2.1 else some false).bind fun y10 =>
  bif (y2.2 && (!y9)) || ((!y2.2) && (!y10)) then
    some false
  else
  (bif y3.2 then r04_Of p2 p3 else some (([] : List Int), ([] : List Int))).bind fun y11 =>
  (bif y3.2 then r04_Same y3.1 y11 else some false).bind fun y12 =>
  (bif (!(y3.2 && y12)) && (!y3.2) then l04_none y3.1 else some false).bind fun y13 =>
  (bif (y3.2 && y12) || ((!y3.2) && y13) then ratio_Zero else some (([] : List Int), ([] : List Int))).bind fun y14 =>
  (bif (y3.2 && y12) || ((!y3.2) && y13) then r04_Int (0 : Int) else some (([] : List Int), ([] : List Int))).bind fun y15 =>
  (bif (y3.2 && y12) || ((!y3.2) && y13) then r04_Same y14 y15 else some false).bind fun y16 =>
  (bif ((y3.2 && y12) || ((!y3.2) && y13)) && y16 then l04_alive else some false).bind fun y17 =>
  bnd ((((y3.2 && y12) || ((!y3.2) && y13)) && y16) && y17) fun x18 =>
  some x18
theorem l04_RatioMakes.ok {p0 : List Int} {p1 : List Int} {p2 : Int} {p3 : Int} {r : Bool} (h : l04_RatioMakes p0 p1 p2 p3 = some r) : ACall prog 7 [⟨.slice (.int .u32), p0⟩, ⟨.slice (.int .u32), p1⟩, ⟨.int .u64, p2⟩, ⟨.int .u64, p3⟩] [⟨0, .bool, r⟩] := by
  replace h := Leads.of h
  unfold l04_RatioMakes at h
  refine AC func7 rfl fun w0 F0 hw0 => ?_
  refine W_seq ?_
  refine R [] [(0, .v 0 (.slice (.int .u32)) p0), (1, .v 0 (.slice (.int .u32)) p1), (2, .v 0 (.int .u64) p2), (3, .v 0 (.int .u64) p3)] pz ?_
  refine W_seq (W_seq ?_)
  refine R [] [(0, .v 0 (.slice (.int .u32)) p0), (1, .v 0 (.slice (.int .u32)) p1), (2, .v 0 (.int .u64) p2), (3, .v 0 (.int .u64) p3), (22, .v 0 .bool ((decide ((p0.length : Int) > 20)) || (decide ((p1.length : Int) > 20))))] pz ?_
  refine C h (fun h => ?_) fun h => ?_
  · refine W_seq ?_
    obtain ⟨y1, ey1, h⟩ := h.bind
    refine R [.res [(0, ⟨0, .bool, y1⟩)]] [(8, .v 0 .bool y1)] (ps (l04_alive.ok ey1)) ?_
    cases h
    exact Rt hw0
  refine W_skip (W_seq ?_)
  obtain ⟨y2, ey2, h⟩ := h.bind
  refine R [.res [(0, ⟨0, T_api_Ratio, y2.1⟩), (0, ⟨0, .bool, y2.2⟩)]] [(0, .v 0 (.slice (.int .u32)) p0), (1, .v 0 (.slice (.int .u32)) p1), (2, .v 0 (.int .u64) p2), (3, .v 0 (.int .u64) p3), (9, .box 0 T_api_Ratio y2.1), (10, .v 0 .bool y2.2)] (ps (ratio_Make.ok ey2)) ?_
  refine W_seq ?_
  obtain ⟨y3, ey3, h⟩ := h.bind
  refine R [.res [(0, ⟨0, T_api_Ratio, y3.1⟩), (0, ⟨0, .bool, y3.2⟩)]] [(0, .v 0 (.slice (.int .u32)) p0), (1, .v 0 (.slice (.int .u32)) p1), (2, .v 0 (.int .u64) p2), (3, .v 0 (.int .u64) p3), (9, .box 0 T_api_Ratio y2.1), (10, .v 0 .bool y2.2), (11, .box 0 T_api_Ratio y3.1), (12, .v 0 .bool y3.2)] (ps (ratio_Of.ok ey3)) ?_
  refine W_seq ?_
  obtain ⟨y4, ey4, h⟩ := h.bind
  obtain ⟨y5, ey5, h⟩ := h.bind
  refine R [.res [(0, ⟨0, T_r01_Nat, y4⟩)], .res [(0, ⟨0, T_r01_Nat, y5⟩)]] [(0, .v 0 (.slice (.int .u32)) p0), (1, .v 0 (.slice (.int .u32)) p1), (2, .v 0 (.int .u64) p2), (3, .v 0 (.int .u64) p3), (9, .box 0 T_api_Ratio y2.1), (10, .v 0 .bool y2.2), (11, .box 0 T_api_Ratio y3.1), (12, .v 0 .bool y3.2), (13, .box 0 T_r01_Nat y4), (14, .box 0 T_r01_Nat y5)] (pc (r03_In.ok ey4) (ps (r03_In.ok ey5))) ?_
  refine W_seq (W_seq ?_)
  obtain ⟨y6, ey6, h⟩ := h.bind
  obtain ⟨y7, ey7, h⟩ := h.bind
  refine R [.res [(0, ⟨0, .bool, y6⟩)], .res [(0, ⟨0, .bool, y7⟩)]] [(2, .v 0 (.int .u64) p2), (3, .v 0 (.int .u64) p3), (9, .box 0 T_api_Ratio y2.1), (10, .v 0 .bool y2.2), (11, .box 0 T_api_Ratio y3.1), (12, .v 0 .bool y3.2), (13, .box 0 T_r01_Nat y4), (14, .box 0 T_r01_Nat y5), (62, .v 0 .bool (((y6 != y7) || (y2.2 != (decide ((y5.length : Int) > 0)))) || (y3.2 != (decide (p3 > 0)))))] (pc (ratio_Right.ok ey6) (ps (r04_Right.ok ey7))) ?_
  refine C h (fun h => ?_) fun h => ?_
  · refine W_seq ?_
    refine R [] [(8, .v 0 .bool false)] pz ?_
    cases h
    exact Rt hw0
  refine W_skip (W_seq (W_seq ?_))
  obtain ⟨y8, ey8, h⟩ := h.bind
  obtain ⟨y9, ey9, h⟩ := h.bind
  obtain ⟨y10, ey10, h⟩ := h.bind
  refine R [.res [(0, ⟨0, T_r04_Q, y8⟩)], .res [(0, ⟨0, .bool, y9⟩)], .res [(0, ⟨0, .bool, y10⟩)]] [(2, .v 0 (.int .u64) p2), (3, .v 0 (.int .u64) p3), (11, .box 0 T_api_Ratio y3.1), (12, .v 0 .bool y3.2), (81, .v 0 .bool ((y2.2 && (!y9)) || ((!y2.2) && (!y10))))] (pc (fun hc => r04_Low.ok (bif_some ey8 hc)) (pc (fun hc => r04_Same.ok (bif_some ey9 hc)) (ps (fun hc => l04_none.ok (bif_some ey10 hc))))) ?_
  refine C h (fun h => ?_) fun h => ?_
  · refine W_seq ?_
    refine R [] [(8, .v 0 .bool false)] pz ?_
    cases h
    exact Rt hw0
  refine W_skip (W_seq ?_)
  obtain ⟨y11, ey11, h⟩ := h.bind
  obtain ⟨y12, ey12, h⟩ := h.bind
  obtain ⟨y13, ey13, h⟩ := h.bind
  obtain ⟨y14, ey14, h⟩ := h.bind
  obtain ⟨y15, ey15, h⟩ := h.bind
  obtain ⟨y16, ey16, h⟩ := h.bind
  obtain ⟨y17, ey17, h⟩ := h.bind
  refine R1 h [.res [(0, ⟨0, T_r04_Q, y11⟩)], .res [(0, ⟨0, .bool, y12⟩)], .res [(0, ⟨0, .bool, y13⟩)], .res [(0, ⟨0, T_api_Ratio, y14⟩)], .res [(0, ⟨0, T_r04_Q, y15⟩)], .res [(0, ⟨0, .bool, y16⟩)], .res [(0, ⟨0, .bool, y17⟩)]] (fun x18 => [(8, .v 0 .bool x18)]) (pc (fun hc => r04_Of.ok (bif_some ey11 hc)) (pc (fun hc => r04_Same.ok (bif_some ey12 hc)) (pc (fun hc => l04_none.ok (bif_some ey13 hc)) (pc (fun hc => ratio_Zero.ok (bif_some ey14 hc)) (pc (fun hc => r04_Int.ok (bif_some ey15 hc)) (pc (fun hc => r04_Same.ok (bif_some ey16 hc)) (ps (fun hc => l04_alive.ok (bif_some ey17 hc))))))))) fun x18 h => ?_
  cases h
  exact Rt hw0

def r04_Add (p0 : D_r04_Q) (p1 : D_r04_Q) : Option D_r04_Q :=
  bnd ((([] : List Int), ([] : List Int))) fun x1 =>
  (r01_Mul p0.1 p1.2).bind fun y2 =>
  (r01_Mul p1.1 p0.2).bind fun y3 =>
  (r01_Add y2 y3).bind fun y4 =>
  (r01_Mul p0.2 p1.2).bind fun y5 =>
  (r04_Low (y4, y5)).bind fun y6 =>
  some y6
theorem r04_Add.ok {p0 : D_r04_Q} {p1 : D_r04_Q} {r : D_r04_Q} (h : r04_Add p0 p1 = some r) : ACall prog 56 [⟨T_r04_Q, p0⟩, ⟨T_r04_Q, p1⟩] [⟨0, T_r04_Q, r⟩] := by
  replace h := Leads.of h
  unfold r04_Add at h
  refine AC func56 rfl fun w0 F0 hw0 => ?_
  refine W_seq ?_
  refine R1 h [] (fun x1 => [(2, .box 0 T_r04_Q p0), (3, .box 0 T_r04_Q p1), (4, .box 9 T_r04_Q x1)]) pz fun x1 h => ?_
  refine W_seq ?_
  obtain ⟨y2, ey2, h⟩ := h.bind
  obtain ⟨y3, ey3, h⟩ := h.bind
  obtain ⟨y4, ey4, h⟩ := h.bind
  obtain ⟨y5, ey5, h⟩ := h.bind
  obtain ⟨y6, ey6, h⟩ := h.bind
  refine R [.res [(0, ⟨0, T_r01_Nat, y2⟩)], .res [(0, ⟨0, T_r01_Nat, y3⟩)], .res [(0, ⟨0, T_r01_Nat, y4⟩)], .res [(0, ⟨0, T_r01_Nat, y5⟩)], .res [(0, ⟨0, T_r04_Q, y6⟩)]] [(4, .box 0 T_r04_Q y6)] (pc (r01_Mul.ok ey2) (pc (r01_Mul.ok ey3) (pc (r01_Add.ok ey4) (pc (r01_Mul.ok ey5) (ps (r04_Low.ok ey6)))))) ?_
  cases h
  exact Rt hw0

def ratio_one : Option D_api_Ratio :=
  bnd ((([] : List Int), ([] : List Int))) fun x1 =>
  (nat_Of (1 : Int)).bind fun y2 =>
  (nat_Of (1 : Int)).bind fun y3 =>
  bnd ((y2, y3)) fun x4 =>
  some x4
theorem ratio_one.ok {r : D_api_Ratio} (h : ratio_one = some r) : ACall prog 90 [] [⟨0, T_api_Ratio, r⟩] := by
  replace h := Leads.of h
  unfold ratio_one at h
  refine AC func90 rfl fun w0 F0 hw0 => ?_
  refine W_seq ?_
  refine R1 h [] (fun x1 => [(0, .box 9 T_api_Ratio x1)]) pz fun x1 h => ?_
  refine W_seq ?_
  obtain ⟨y2, ey2, h⟩ := h.bind
  obtain ⟨y3, ey3, h⟩ := h.bind
  refine R1 h [.res [(0, ⟨9, .slice (.int .u32), y2⟩)], .res [(0, ⟨9, .slice (.int .u32), y3⟩)]] (fun x4 => [(0, .box 0 T_api_Ratio x4)]) (pc (nat_Of.ok ey2) (ps (nat_Of.ok ey3))) fun x4 h => ?_
  cases h
  exact Rt hw0

def ratio_Mul_j1 (x3 : D_api_Ratio) : Option (D_api_Ratio) :=
  some x3
def ratio_Mul_b1 (p0 : List D_api_Ratio) (x4 : D_api_Ratio) (x5 : Int) : Option ((D_api_Ratio × Int) ⊕ D_api_Ratio) :=
  bif decide (x5 < (p0.length : Int)) then
    ass (0 ≤ x5 ∧ x5 < (p0.length : Int)) <|
    bnd (rd z_api_Ratio p0 x5) fun x6 =>
    (nat_Mul [x4.1, x6.1]).bind fun y7 =>
    (nat_Mul [x4.2, x6.2]).bind fun y8 =>
    (ratio_Make y7 y8).bind fun y9 =>
    bnd (i64.wrap (x5 + 1)) fun x10 =>
    some (.inl (y9.1, x10))
  else
  (ratio_Mul_j1 x4).map .inr
def ratio_Mul (p0 : List D_api_Ratio) : Option D_api_Ratio :=
  bnd ((([] : List Int), ([] : List Int))) fun x1 =>
  (ratio_one).bind fun y2 =>
  loopM (fun x : D_api_Ratio × Int => ratio_Mul_b1 p0 x.1 x.2) (y2, (0 : Int))
theorem ratio_Mul.ok {p0 : List D_api_Ratio} {r : D_api_Ratio} (h : ratio_Mul p0 = some r) : ACall prog 57 [⟨.slice T_api_Ratio, p0⟩] [⟨0, T_api_Ratio, r⟩] := by
  replace h := Leads.of h
  unfold ratio_Mul at h
  refine AC func57 rfl fun w0 F0 hw0 => ?_
  refine W_seq ?_
  refine R1 h [] (fun x1 => [(0, .v 0 (.slice T_api_Ratio) p0), (2, .box 9 T_api_Ratio x1)]) pz fun x1 h => ?_
  refine W_seq ?_
  obtain ⟨y2, ey2, h⟩ := h.bind
  refine R [.res [(0, ⟨0, T_api_Ratio, y2⟩)]] [(0, .v 0 (.slice T_api_Ratio) p0), (2, .box 9 T_api_Ratio x1), (3, .box 0 T_api_Ratio y2)] (ps (ratio_one.ok ey2)) ?_
  refine W_seq (W_seq ?_)
  refine R [] [(2, .box 9 T_api_Ratio x1), (3, .box 0 T_api_Ratio y2), (7, .v 0 (.slice T_api_Ratio) p0), (8, .v 0 (.int .i64) (p0.length : Int)), (9, .v 0 (.int .i64) (0 : Int))] pz ?_
  refine J1 h ratio_Mul_j1 (fun x3 => [(2, .box 9 T_api_Ratio x1), (3, .box 0 T_api_Ratio x3)]) (fun x3 h => ?_) fun j1 => ?_
  · unfold ratio_Mul_j1 at h
    refine W_seq ?_
    refine R [] [(2, .box 0 T_api_Ratio x3)] pz ?_
    cases h
    exact Rt hw0
  refine W_block ?_
  refine L2 h (fun x4 x5 => [(2, .box 9 T_api_Ratio x1), (3, .box 0 T_api_Ratio x4), (7, .v 0 (.slice T_api_Ratio) p0), (8, .v 0 (.int .i64) (p0.length : Int)), (9, .v 0 (.int .i64) x5)]) fun x4 x5 _ h => ?_
  unfold ratio_Mul_b1 at h
  refine W_seq ?_
  refine R [] [(2, .box 9 T_api_Ratio x1), (3, .box 0 T_api_Ratio x4), (7, .v 0 (.slice T_api_Ratio) p0), (8, .v 0 (.int .i64) (p0.length : Int)), (9, .v 0 (.int .i64) x5), (10, .v 0 .bool (decide (x5 < (p0.length : Int))))] pz ?_
  refine W_seq ?_
  refine C h (fun h => ?_) fun h => ?_
  · refine W_skip (W_seq (W_block (W_seq ?_)))
    obtain ⟨o1, h⟩ := h.ass
    refine R1 h [] (fun x6 => [(2, .box 9 T_api_Ratio x1), (3, .box 0 T_api_Ratio x4), (5, .box 0 T_api_Ratio x6), (7, .v 0 (.slice T_api_Ratio) p0), (8, .v 0 (.int .i64) (p0.length : Int)), (9, .v 0 (.int .i64) x5)]) (ps o1) fun x6 h => ?_
    obtain ⟨y7, ey7, h⟩ := h.bind
    obtain ⟨y8, ey8, h⟩ := h.bind
    obtain ⟨y9, ey9, h⟩ := h.bind
    refine RL [.res [(0, ⟨9, .slice (.int .u32), y7⟩)], .res [(0, ⟨9, .slice (.int .u32), y8⟩)], .res [(0, ⟨0, T_api_Ratio, y9.1⟩), (0, ⟨0, .bool, y9.2⟩)]] [(2, .box 9 T_api_Ratio x1), (3, .box 0 T_api_Ratio y9.1), (7, .v 0 (.slice T_api_Ratio) p0), (8, .v 0 (.int .i64) (p0.length : Int)), (9, .v 0 (.int .i64) x5)] (pc (nat_Mul.ok ey7) (pc (nat_Mul.ok ey8) (pc (ratio_Make.ok ey9) (ps (rfl : (⟨.bool, y9.2⟩ : TV) = ⟨.bool, y9.2⟩))))) ?_
    refine W_blk ?_
    refine R1 h [] (fun x10 => [(2, .box 9 T_api_Ratio x1), (3, .box 0 T_api_Ratio y9.1), (7, .v 0 (.slice T_api_Ratio) p0), (8, .v 0 (.int .i64) (p0.length : Int)), (9, .v 0 (.int .i64) x10)]) pz fun x10 h => ?_
    exact B h
  refine W_exit rfl ?_
  exact K (j1 x4 h.back)

def r04_Mul (p0 : D_r04_Q) (p1 : D_r04_Q) : Option D_r04_Q :=
  bnd ((([] : List Int), ([] : List Int))) fun x1 =>
  (r01_Mul p0.1 p1.1).bind fun y2 =>
  (r01_Mul p0.2 p1.2).bind fun y3 =>
  (r04_Low (y2, y3)).bind fun y4 =>
  some y4
theorem r04_Mul.ok {p0 : D_r04_Q} {p1 : D_r04_Q} {r : D_r04_Q} (h : r04_Mul p0 p1 = some r) : ACall prog 58 [⟨T_r04_Q, p0⟩, ⟨T_r04_Q, p1⟩] [⟨0, T_r04_Q, r⟩] := by
  replace h := Leads.of h
  unfold r04_Mul at h
  refine AC func58 rfl fun w0 F0 hw0 => ?_
  refine W_seq ?_
  refine R1 h [] (fun x1 => [(2, .box 0 T_r04_Q p0), (3, .box 0 T_r04_Q p1), (4, .box 9 T_r04_Q x1)]) pz fun x1 h => ?_
  refine W_seq ?_
  obtain ⟨y2, ey2, h⟩ := h.bind
  obtain ⟨y3, ey3, h⟩ := h.bind
  obtain ⟨y4, ey4, h⟩ := h.bind
  refine R [.res [(0, ⟨0, T_r01_Nat, y2⟩)], .res [(0, ⟨0, T_r01_Nat, y3⟩)], .res [(0, ⟨0, T_r04_Q, y4⟩)]] [(4, .box 0 T_r04_Q y4)] (pc (r01_Mul.ok ey2) (pc (r01_Mul.ok ey3) (ps (r04_Low.ok ey4)))) ?_
  cases h
  exact Rt hw0

def ratio_Cmp (p0 : D_api_Ratio) (p1 : D_api_Ratio) : Option Int :=
  (nat_Mul [p0.1, p1.2]).bind fun y1 =>
  (nat_Mul [p1.1, p0.2]).bind fun y2 =>
  (nat_Cmp y1 y2).bind fun y3 =>
  some y3
theorem ratio_Cmp.ok {p0 : D_api_Ratio} {p1 : D_api_Ratio} {r : Int} (h : ratio_Cmp p0 p1 = some r) : ACall prog 59 [⟨T_api_Ratio, p0⟩, ⟨T_api_Ratio, p1⟩] [⟨0, .int .i64, r⟩] := by
  replace h := Leads.of h
  unfold ratio_Cmp at h
  refine AC func59 rfl fun w0 F0 hw0 => ?_
  refine W_seq ?_
  refine R [] [(2, .box 0 T_api_Ratio p0), (3, .box 0 T_api_Ratio p1)] pz ?_
  refine W_seq ?_
  obtain ⟨y1, ey1, h⟩ := h.bind
  obtain ⟨y2, ey2, h⟩ := h.bind
  obtain ⟨y3, ey3, h⟩ := h.bind
  refine R [.res [(9, ⟨9, .slice (.int .u32), y1⟩)], .res [(9, ⟨9, .slice (.int .u32), y2⟩)], .res [(0, ⟨0, .int .i64, y3⟩)]] [(4, .v 0 (.int .i64) y3)] (pc (nat_Mul.ok ey1) (pc (nat_Mul.ok ey2) (ps (nat_Cmp.ok ey3)))) ?_
  cases h
  exact Rt hw0

def r04_Cmp (p0 : D_r04_Q) (p1 : D_r04_Q) : Option Int :=
  (r01_Mul p0.1 p1.2).bind fun y1 =>
  (r01_Mul p1.1 p0.2).bind fun y2 =>
  (r01_Cmp y1 y2).bind fun y3 =>
  some y3
theorem r04_Cmp.ok {p0 : D_r04_Q} {p1 : D_r04_Q} {r : Int} (h : r04_Cmp p0 p1 = some r) : ACall prog 60 [⟨T_r04_Q, p0⟩, ⟨T_r04_Q, p1⟩] [⟨0, .int .i64, r⟩] := by
  replace h := Leads.of h
  unfold r04_Cmp at h
  refine AC func60 rfl fun w0 F0 hw0 => ?_
  refine W_seq ?_
  refine R [] [(2, .box 0 T_r04_Q p0), (3, .box 0 T_r04_Q p1)] pz ?_
  refine W_seq ?_
  obtain ⟨y1, ey1, h⟩ := h.bind
  obtain ⟨y2, ey2, h⟩ := h.bind
  obtain ⟨y3, ey3, h⟩ := h.bind
  refine R [.res [(0, ⟨0, T_r01_Nat, y1⟩)], .res [(0, ⟨0, T_r01_Nat, y2⟩)], .res [(0, ⟨0, .int .i64, y3⟩)]] [(4, .v 0 (.int .i64) y3)] (pc (r01_Mul.ok ey1) (pc (r01_Mul.ok ey2) (ps (r01_Cmp.ok ey3)))) ?_
  cases h
  exact Rt hw0

def ratio_Same (p0 : D_api_Ratio) (p1 : D_api_Ratio) : Option Bool :=
  (ratio_Cmp p0 p1).bind fun y1 =>
  bnd (y1 == 0) fun x2 =>
  some x2
theorem ratio_Same.ok {p0 : D_api_Ratio} {p1 : D_api_Ratio} {r : Bool} (h : ratio_Same p0 p1 = some r) : ACall prog 61 [⟨T_api_Ratio, p0⟩, ⟨T_api_Ratio, p1⟩] [⟨0, .bool, r⟩] := by
  replace h := Leads.of h
  unfold ratio_Same at h
  refine AC func61 rfl fun w0 F0 hw0 => ?_
  refine W_seq ?_
  refine R [] [(2, .box 0 T_api_Ratio p0), (3, .box 0 T_api_Ratio p1)] pz ?_
  refine W_seq ?_
  obtain ⟨y1, ey1, h⟩ := h.bind
  refine R1 h [.res [(0, ⟨0, .int .i64, y1⟩)]] (fun x2 => [(4, .v 0 .bool x2)]) (ps (ratio_Cmp.ok ey1)) fun x2 h => ?_
  cases h
  exact Rt hw0

def ratio_Sub (p0 : D_api_Ratio) (p1 : D_api_Ratio) : Option (D_api_Ratio × Bool) :=
  bnd ((([] : List Int), ([] : List Int))) fun x1 =>
  (nat_Mul [p0.1, p1.2]).bind fun y2 =>
  (nat_Mul [p1.1, p0.2]).bind fun y3 =>
  (nat_Sub y2 y3).bind fun y4 =>
  bif !y4.2 then
    bnd ((([] : List Int), ([] : List Int))) fun x5 =>
    some (x5, false)
  else
  (nat_Mul [p0.2, p1.2]).bind fun y6 =>
  (ratio_Make y4.1 y6).bind fun y7 =>
  some (y7.1, y7.2)
theorem ratio_Sub.ok {p0 : D_api_Ratio} {p1 : D_api_Ratio} {r : D_api_Ratio × Bool} (h : ratio_Sub p0 p1 = some r) : ACall prog 62 [⟨T_api_Ratio, p0⟩, ⟨T_api_Ratio, p1⟩] [⟨0, T_api_Ratio, r.1⟩, ⟨0, .bool, r.2⟩] := by
  replace h := Leads.of h
  unfold ratio_Sub at h
  refine AC func62 rfl fun w0 F0 hw0 => ?_
  refine W_seq ?_
  refine R1 h [] (fun x1 => [(2, .box 0 T_api_Ratio p0), (3, .box 0 T_api_Ratio p1), (4, .box 9 T_api_Ratio x1)]) pz fun x1 h => ?_
  refine W_seq ?_
  obtain ⟨y2, ey2, h⟩ := h.bind
  obtain ⟨y3, ey3, h⟩ := h.bind
  obtain ⟨y4, ey4, h⟩ := h.bind
  refine RL [.res [(9, ⟨9, .slice (.int .u32), y2⟩)], .res [(9, ⟨9, .slice (.int .u32), y3⟩)], .res [(9, ⟨9, .slice (.int .u32), y4.1⟩), (0, ⟨0, .bool, y4.2⟩)]] [(2, .box 0 T_api_Ratio p0), (3, .box 0 T_api_Ratio p1), (4, .box 9 T_api_Ratio x1), (6, .v 9 (.slice (.int .u32)) y4.1), (7, .v 0 .bool y4.2)] (pc (nat_Mul.ok ey2) (pc (nat_Mul.ok ey3) (pc (nat_Sub.ok ey4) (ps (rfl : (⟨.bool, y4.2⟩ : TV) = ⟨.bool, y4.2⟩))))) ?_
  refine W_seq (W_seq ?_)
  refine R [] [(2, .box 0 T_api_Ratio p0), (3, .box 0 T_api_Ratio p1), (4, .box 9 T_api_Ratio x1), (6, .v 9 (.slice (.int .u32)) y4.1), (25, .v 0 .bool (!y4.2))] pz ?_
  refine C h (fun h => ?_) fun h => ?_
  · refine W_seq ?_
    refine R1 h [] (fun x5 => [(4, .box 0 T_api_Ratio x5), (5, .v 0 .bool false)]) pz fun x5 h => ?_
    cases h
    exact Rt hw0
  refine W_skip (W_seq ?_)
  refine K (E' := [(2, .box 0 T_api_Ratio p0), (3, .box 0 T_api_Ratio p1), (4, .box 9 T_api_Ratio x1), (6, .v 0 (.slice (.int .u32)) y4.1), (25, .v 0 .bool (!y4.2))]) ?_
  obtain ⟨y6, ey6, h⟩ := h.bind
  obtain ⟨y7, ey7, h⟩ := h.bind
  refine R [.res [(0, ⟨9, .slice (.int .u32), y6⟩)], .res [(0, ⟨0, T_api_Ratio, y7.1⟩), (0, ⟨0, .bool, y7.2⟩)]] [(4, .box 0 T_api_Ratio y7.1), (5, .v 0 .bool y7.2)] (pc (nat_Mul.ok ey6) (ps (ratio_Make.ok ey7))) ?_
  cases h
  exact Rt hw0

def r04_Sub (p0 : D_r04_Q) (p1 : D_r04_Q) : Option D_r04_Q :=
  bnd ((([] : List Int), ([] : List Int))) fun x1 =>
  (r01_Mul p0.1 p1.2).bind fun y2 =>
  (r01_Mul p1.1 p0.2).bind fun y3 =>
  (r01_Sub y2 y3).bind fun y4 =>
  (r01_Mul p0.2 p1.2).bind fun y5 =>
  (r04_Low (y4, y5)).bind fun y6 =>
  some y6
theorem r04_Sub.ok {p0 : D_r04_Q} {p1 : D_r04_Q} {r : D_r04_Q} (h : r04_Sub p0 p1 = some r) : ACall prog 63 [⟨T_r04_Q, p0⟩, ⟨T_r04_Q, p1⟩] [⟨0, T_r04_Q, r⟩] := by
  replace h := Leads.of h
  unfold r04_Sub at h
  refine AC func63 rfl fun w0 F0 hw0 => ?_
  refine W_seq ?_
  refine R1 h [] (fun x1 => [(2, .box 0 T_r04_Q p0), (3, .box 0 T_r04_Q p1), (4, .box 9 T_r04_Q x1)]) pz fun x1 h => ?_
  refine W_seq ?_
  obtain ⟨y2, ey2, h⟩ := h.bind
  obtain ⟨y3, ey3, h⟩ := h.bind
  obtain ⟨y4, ey4, h⟩ := h.bind
  obtain ⟨y5, ey5, h⟩ := h.bind
  obtain ⟨y6, ey6, h⟩ := h.bind
  refine R [.res [(0, ⟨0, T_r01_Nat, y2⟩)], .res [(0, ⟨0, T_r01_Nat, y3⟩)], .res [(0, ⟨0, T_r01_Nat, y4⟩)], .res [(0, ⟨0, T_r01_Nat, y5⟩)], .res [(0, ⟨0, T_r04_Q, y6⟩)]] [(4, .box 0 T_r04_Q y6)] (pc (r01_Mul.ok ey2) (pc (r01_Mul.ok ey3) (pc (r01_Sub.ok ey4) (pc (r01_Mul.ok ey5) (ps (r04_Low.ok ey6)))))) ?_
  cases h
  exact Rt hw0

def ratio_Div (p0 : D_api_Ratio) (p1 : D_api_Ratio) : Option (D_api_Ratio × Bool) :=
  bnd ((([] : List Int), ([] : List Int))) fun x1 =>
  (nat_Mul [p0.1, p1.2]).bind fun y2 =>
  (nat_Mul [p0.2, p1.1]).bind fun y3 =>
  (ratio_Make y2 y3).bind fun y4 =>
  some (y4.1, y4.2)
theorem ratio_Div.ok {p0 : D_api_Ratio} {p1 : D_api_Ratio} {r : D_api_Ratio × Bool} (h : ratio_Div p0 p1 = some r) : ACall prog 64 [⟨T_api_Ratio, p0⟩, ⟨T_api_Ratio, p1⟩] [⟨0, T_api_Ratio, r.1⟩, ⟨0, .bool, r.2⟩] := by
  replace h := Leads.of h
  unfold ratio_Div at h
  refine AC func64 rfl fun w0 F0 hw0 => ?_
  refine W_seq ?_
  refine R1 h [] (fun x1 => [(2, .box 0 T_api_Ratio p0), (3, .box 0 T_api_Ratio p1), (4, .box 9 T_api_Ratio x1)]) pz fun x1 h => ?_
  refine W_seq ?_
  obtain ⟨y2, ey2, h⟩ := h.bind
  obtain ⟨y3, ey3, h⟩ := h.bind
  obtain ⟨y4, ey4, h⟩ := h.bind
  refine R [.res [(0, ⟨9, .slice (.int .u32), y2⟩)], .res [(0, ⟨9, .slice (.int .u32), y3⟩)], .res [(0, ⟨0, T_api_Ratio, y4.1⟩), (0, ⟨0, .bool, y4.2⟩)]] [(4, .box 0 T_api_Ratio y4.1), (5, .v 0 .bool y4.2)] (pc (nat_Mul.ok ey2) (pc (nat_Mul.ok ey3) (ps (ratio_Make.ok ey4)))) ?_
  cases h
  exact Rt hw0

def r04_Zero (p0 : D_r04_Q) : Option Bool :=
  bnd ((p0.1.length : Int) == 0) fun x1 =>
  some x1
theorem r04_Zero.ok {p0 : D_r04_Q} {r : Bool} (h : r04_Zero p0 = some r) : ACall prog 65 [⟨T_r04_Q, p0⟩] [⟨0, .bool, r⟩] := by
  replace h := Leads.of h
  unfold r04_Zero at h
  refine AC func65 rfl fun w0 F0 hw0 => ?_
  refine W_seq ?_
  refine R [] [(1, .box 0 T_r04_Q p0)] pz ?_
  refine W_seq ?_
  refine R1 h [] (fun x1 => [(2, .v 0 .bool x1)]) pz fun x1 h => ?_
  cases h
  exact Rt hw0

def r04_Div (p0 : D_r04_Q) (p1 : D_r04_Q) : Option D_r04_Q :=
  bnd ((([] : List Int), ([] : List Int))) fun x1 =>
  (r01_Mul p0.1 p1.2).bind fun y2 =>
  (r01_Mul p0.2 p1.1).bind fun y3 =>
  (r04_Low (y2, y3)).bind fun y4 =>
  some y4
theorem r04_Div.ok {p0 : D_r04_Q} {p1 : D_r04_Q} {r : D_r04_Q} (h : r04_Div p0 p1 = some r) : ACall prog 66 [⟨T_r04_Q, p0⟩, ⟨T_r04_Q, p1⟩] [⟨0, T_r04_Q, r⟩] := by
  replace h := Leads.of h
  unfold r04_Div at h
  refine AC func66 rfl fun w0 F0 hw0 => ?_
  refine W_seq ?_
  refine R1 h [] (fun x1 => [(2, .box 0 T_r04_Q p0), (3, .box 0 T_r04_Q p1), (4, .box 9 T_r04_Q x1)]) pz fun x1 h => ?_
  refine W_seq ?_
  obtain ⟨y2, ey2, h⟩ := h.bind
  obtain ⟨y3, ey3, h⟩ := h.bind
  obtain ⟨y4, ey4, h⟩ := h.bind
  refine R [.res [(0, ⟨0, T_r01_Nat, y2⟩)], .res [(0, ⟨0, T_r01_Nat, y3⟩)], .res [(0, ⟨0, T_r04_Q, y4⟩)]] [(4, .box 0 T_r04_Q y4)] (pc (r01_Mul.ok ey2) (pc (r01_Mul.ok ey3) (ps (r04_Low.ok ey4)))) ?_
  cases h
  exact Rt hw0

def ratio_Floor (p0 : D_api_Ratio) : Option (List Int) :=
  (nat_Div p0.1 p0.2).bind fun y1 =>
  some y1.1
theorem ratio_Floor.ok {p0 : D_api_Ratio} {r : List Int} (h : ratio_Floor p0 = some r) : ACall prog 67 [⟨T_api_Ratio, p0⟩] [⟨9, .slice (.int .u32), r⟩] := by
  replace h := Leads.of h
  unfold ratio_Floor at h
  refine AC func67 rfl fun w0 F0 hw0 => ?_
  refine W_seq ?_
  refine R [] [(1, .box 0 T_api_Ratio p0)] pz ?_
  refine W_seq ?_
  obtain ⟨y1, ey1, h⟩ := h.bind
  refine R [.res [(9, ⟨9, .slice (.int .u32), y1.1⟩), (9, ⟨9, .slice (.int .u32), y1.2.1⟩), (0, ⟨0, .bool, y1.2.2⟩)]] [(3, .v 9 (.slice (.int .u32)) y1.1)] (ps (nat_Div.ok ey1)) ?_
  refine W_seq ?_
  refine R [] [(2, .v 9 (.slice (.int .u32)) y1.1)] pz ?_
  cases h
  exact Rt hw0

def l04_RatioReckons (p0 : D_api_Ratio) (p1 : D_api_Ratio) (p2 : D_api_Ratio) : Option Bool :=
  (l04_short p0).bind fun y1 =>
  (bif !(!y1) then l04_short p1 else some false).bind fun y2 =>
  (bif !((!y1) || (!y2)) then l04_short p2 else some false).bind fun y3 =>
  (bif !(((!y1) || (!y2)) || (!y3)) then r04_Right p0 else some false).bind fun y4 =>
  (bif !((((!y1) || (!y2)) || (!y3)) || (!y4)) then r04_Right p1 else some false).bind fun y5 =>
  (bif !(((((!y1) || (!y2)) || (!y3)) || (!y4)) || (!y5)) then r04_Right p2 else some false).bind fun y6 =>
  bif (((((!y1) || (!y2)) || (!y3)) || (!y4)) || (!y5)) || (!y6) then
    (l04_alive).bind fun y7 =>
    some y7
  else
  (r04_In p0).bind fun y8 =>
  (r04_In p1).bind fun y9 =>
  (r04_In p2).bind fun y10 =>
  (ratio_Add [p0, p1, p2]).bind fun y11 =>
  (r04_Add y8 y9).bind fun y12 =>
  (r04_Add y12 y10).bind fun y13 =>
  (r04_Same y11 y13).bind fun y14 =>
  (bif !(!y14) then ratio_Add [p2, p0, p1] else some (([] : List Int), ([] : List Int))).bind fun y15 =>
  (bif !(!y14) then r04_Add y8 y9 else some (([] : List Int), ([] : List Int))).bind fun y16 =>
  (bif !(!y14) then r04_Add y16 y10 else some (([] : List Int), ([] : List Int))).bind fun y17 =>
  (bif !(!y14) then r04_Same y15 y17 else some false).bind fun y18 =>
  (bif !((!y14) || (!y18)) then ratio_Mul [p0, p1, p2] else some (([] : List Int), ([] : List Int))).bind fun y19 =>
  (bif !((!y14) || (!y18)) then r04_Mul y8 y9 else some (([] : List Int), ([] : List Int))).bind fun y20 =>
  (bif !((!y14) || (!y18)) then r04_Mul y20 y10 else some (([] : List Int), ([] : List Int))).bind fun y21 =>
  (bif !((!y14) || (!y18)) then r04_Same y19 y21 else some false).bind fun y22 =>
  (bif !(((!y14) || (!y18)) || (!y22)) then ratio_Cmp p0 p1 else some (0 : Int)).bind fun y23 =>
  (bif !(((!y14) || (!y18)) || (!y22)) then r04_Cmp y8 y9 else some (0 : Int)).bind fun y24 =>
  (bif !((((!y14) || (!y18)) || (!y22)) || (y23 != y24)) then ratio_Same p0 p1 else some false).bind fun y25 =>
  (bif !((((!y14) || (!y18)) || (!y22)) || (y23 != y24)) then r04_Cmp y8 y9 else some (0 : Int)).bind fun y26 =>
  bif ((((!y14) || (!y18)) || (!y22)) || (y23 != y24)) || (y25 != (y26 == 0)) then
    some false
  else
  (ratio_Sub p0 p1).bind fun y27 =>
  (r04_Cmp y8 y9).bind fun y28 =>
  (bif (!(y27.2 != (decide (y28 ≥ 0)))) && y27.2 then r04_Sub y8 y9 else some (([] : List Int), ([] : List Int))).bind fun y29 =>
  (bif (!(y27.2 != (decide (y28 ≥ 0)))) && y27.2 then r04_Same y27.1 y29 else some false).bind fun y30 =>
  (bif ((!(y27.2 != (decide (y28 ≥ 0)))) && y27.2) && (!(!y30)) then ratio_Add [y27.1, p1] else some (([] : List Int), ([] : List Int))).bind fun y31 =>
  (bif ((!(y27.2 != (decide (y28 ≥ 0)))) && y27.2) && (!(!y30)) then ratio_Same y31 p0 else some false).bind fun y32 =>
  (bif (!((y27.2 != (decide (y28 ≥ 0))) || (y27.2 && ((!y30) || (!y32))))) && (!y27.2) then l04_none y27.1 else some false).bind fun y33 =>
  bif ((y27.2 != (decide (y28 ≥ 0))) || (y27.2 && ((!y30) || (!y32)))) || ((!y27.2) && (!y33)) then
    some false
  else
  (ratio_Div p0 p1).bind fun y34 =>
  (r04_Zero y9).bind fun y35 =>
  (bif (!(y34.2 != (!y35))) && y34.2 then r04_Div y8 y9 else some (([] : List Int), ([] : List Int))).bind fun y36 =>
  (bif (!(y34.2 != (!y35))) && y34.2 then r04_Same y34.1 y36 else some false).bind fun y37 =>
  (bif ((!(y34.2 != (!y35))) && y34.2) && (!(!y37)) then ratio_Mul [y34.1, p1] else some (([] : List Int), ([] : List Int))).bind fun y38 =>
  (bif ((!(y34.2 != (!y35))) && y34.2) && (!(!y37)) then ratio_Same y38 p0 else some false).bind fun y39 =>
  (bif (!((y34.2 != (!y35)) || (y34.2 && ((!y37) || (!y39))))) && (!y34.2) then l04_none y34.1 else some false).bind fun y40 =>
  bif ((y34.2 != (!y35)) || (y34.2 && ((!y37) || (!y39)))) || ((!y34.2) && (!y40)) then
    some false
  else
  (r01_Div y8.1 y8.2).bind fun y41 =>
  (ratio_Floor p0).bind fun y42 =>
  (r03_Out y41.1).bind fun y43 =>
  (r03_Same y42 y43).bind fun y44 =>
  (bif y44 then l04_alive else some false).bind fun y45 =>
  bnd (y44 && y45) fun x46 =>
  some x46
theorem l04_RatioReckons.ok {p0 : D_api_Ratio} {p1 : D_api_Ratio} {p2 : D_api_Ratio} {r : Bool} (h : l04_RatioReckons p0 p1 p2 = some r) : ACall prog 8 [⟨T_api_Ratio, p0⟩, ⟨T_api_Ratio, p1⟩, ⟨T_api_Ratio, p2⟩] [⟨0, .bool, r⟩] := by
  replace h := Leads.of h
  unfold l04_RatioReckons at h
  refine AC func8 rfl fun w0 F0 hw0 => ?_
  refine W_seq ?_
  refine R [] [(3, .box 0 T_api_Ratio p0), (4, .box 0 T_api_Ratio p1), (5, .box 0 T_api_Ratio p2)] pz ?_
  refine W_seq (W_seq ?_)
  obtain ⟨y1, ey1, h⟩ := h.bind
  obtain ⟨y2, ey2, h⟩ := h.bind
  obtain ⟨y3, ey3, h⟩ := h.bind
  obtain ⟨y4, ey4, h⟩ := h.bind
  obtain ⟨y5, ey5, h⟩ := h.bind
  obtain ⟨y6, ey6, h⟩ := h.bind
  refine R [.res [(0, ⟨0, .bool, y1⟩)], .res [(0, ⟨0, .bool, y2⟩)], .res [(0, ⟨0, .bool, y3⟩)], .res [(0, ⟨0, .bool, y4⟩)], .res [(0, ⟨0, .bool, y5⟩)], .res [(0, ⟨0, .bool, y6⟩)]] [(3, .box 0 T_api_Ratio p0), (4, .box 0 T_api_Ratio p1), (5, .box 0 T_api_Ratio p2), (43, .v 0 .bool ((((((!y1) || (!y2)) || (!y3)) || (!y4)) || (!y5)) || (!y6)))] (pc (l04_short.ok ey1) (pc (fun hc => l04_short.ok (bif_some ey2 hc)) (pc (fun hc => l04_short.ok (bif_some ey3 hc)) (pc (fun hc => r04_Right.ok (bif_some ey4 hc)) (pc (fun hc => r04_Right.ok (bif_some ey5 hc)) (ps (fun hc => r04_Right.ok (bif_some ey6 hc)))))))) ?_
  refine C h (fun h => ?_) fun h => ?_
  · refine W_seq ?_
    obtain ⟨y7, ey7, h⟩ := h.bind
    refine R [.res [(0, ⟨0, .bool, y7⟩)]] [(6, .v 0 .bool y7)] (ps (l04_alive.ok ey7)) ?_
    cases h
    exact Rt hw0
  refine W_skip (W_seq ?_)
  obtain ⟨y8, ey8, h⟩ := h.bind
  obtain ⟨y9, ey9, h⟩ := h.bind
  obtain ⟨y10, ey10, h⟩ := h.bind
  refine R [.res [(0, ⟨0, T_r04_Q, y8⟩)], .res [(0, ⟨0, T_r04_Q, y9⟩)], .res [(0, ⟨0, T_r04_Q, y10⟩)]] [(3, .box 0 T_api_Ratio p0), (4, .box 0 T_api_Ratio p1), (5, .box 0 T_api_Ratio p2), (7, .box 0 T_r04_Q y8), (8, .box 0 T_r04_Q y9), (9, .box 0 T_r04_Q y10)] (pc (r04_In.ok ey8) (pc (r04_In.ok ey9) (ps (r04_In.ok ey10)))) ?_
  refine W_seq (W_seq ?_)
  obtain ⟨y11, ey11, h⟩ := h.bind
  obtain ⟨y12, ey12, h⟩ := h.bind
  obtain ⟨y13, ey13, h⟩ := h.bind
  obtain ⟨y14, ey14, h⟩ := h.bind
  obtain ⟨y15, ey15, h⟩ := h.bind
  obtain ⟨y16, ey16, h⟩ := h.bind
  obtain ⟨y17, ey17, h⟩ := h.bind
  obtain ⟨y18, ey18, h⟩ := h.bind
  obtain ⟨y19, ey19, h⟩ := h.bind
  obtain ⟨y20, ey20, h⟩ := h.bind
  obtain ⟨y21, ey21, h⟩ := h.bind
  obtain ⟨y22, ey22, h⟩ := h.bind
  obtain ⟨y23, ey23, h⟩ := h.bind
  obtain ⟨y24, ey24, h⟩ := h.bind
  obtain ⟨y25, ey25, h⟩ := h.bind
  obtain ⟨y26, ey26, h⟩ := h.bind
  refine R [.frz, .res [(0, ⟨0, T_api_Ratio, y11⟩)], .res [(0, ⟨0, T_r04_Q, y12⟩)], .res [(0, ⟨0, T_r04_Q, y13⟩)], .res [(0, ⟨0, .bool, y14⟩)], .frz, .res [(0, ⟨0, T_api_Ratio, y15⟩)], .res [(0, ⟨0, T_r04_Q, y16⟩)], .res [(0, ⟨0, T_r04_Q, y17⟩)], .res [(0, ⟨0, .bool, y18⟩)], .frz, .res [(0, ⟨0, T_api_Ratio, y19⟩)], .res [(0, ⟨0, T_r04_Q, y20⟩)], .res [(0, ⟨0, T_r04_Q, y21⟩)], .res [(0, ⟨0, .bool, y22⟩)], .res [(0, ⟨0, .int .i64, y23⟩)], .res [(0, ⟨0, .int .i64, y24⟩)], .res [(0, ⟨0, .bool, y25⟩)], .res [(0, ⟨0, .int .i64, y26⟩)]] [(3, .box 0 T_api_Ratio p0), (4, .box 0 T_api_Ratio p1), (7, .box 0 T_r04_Q y8), (8, .box 0 T_r04_Q y9), (109, .v 0 .bool (((((!y14) || (!y18)) || (!y22)) || (y23 != y24)) || (y25 != (y26 == 0))))] (pc (ratio_Add.ok ey11) (pc (r04_Add.ok ey12) (pc (r04_Add.ok ey13) (pc (r04_Same.ok ey14) (pc (fun hc => ratio_Add.ok (bif_some ey15 hc)) (pc (fun hc => r04_Add.ok (bif_some ey16 hc)) (pc (fun hc => r04_Add.ok (bif_some ey17 hc)) (pc (fun hc => r04_Same.ok (bif_some ey18 hc)) (pc (fun hc => ratio_Mul.ok (bif_some ey19 hc)) (pc (fun hc => r04_Mul.ok (bif_some ey20 hc)) (pc (fun hc => r04_Mul.ok (bif_some ey21 hc)) (pc (fun hc => r04_Same.ok (bif_some ey22 hc)) (pc (fun hc => ratio_Cmp.ok (bif_some ey23 hc)) (pc (fun hc => r04_Cmp.ok (bif_some ey24 hc)) (pc (fun hc => ratio_Same.ok (bif_some ey25 hc)) (ps (fun hc => r04_Cmp.ok (bif_some ey26 hc)))))))))))))))))) ?_
  refine C h (fun h => ?_) fun h => ?_
  · refine W_seq ?_
    refine R [] [(6, .v 0 .bool false)] pz ?_
    cases h
    exact Rt hw0
  refine W_skip (W_seq ?_)
  obtain ⟨y27, ey27, h⟩ := h.bind
  refine R [.res [(0, ⟨0, T_api_Ratio, y27.1⟩), (0, ⟨0, .bool, y27.2⟩)]] [(3, .box 0 T_api_Ratio p0), (4, .box 0 T_api_Ratio p1), (7, .box 0 T_r04_Q y8), (8, .box 0 T_r04_Q y9), (10, .box 0 T_api_Ratio y27.1), (11, .v 0 .bool y27.2)] (ps (ratio_Sub.ok ey27)) ?_
  refine W_seq (W_seq ?_)
  obtain ⟨y28, ey28, h⟩ := h.bind
  obtain ⟨y29, ey29, h⟩ := h.bind
  obtain ⟨y30, ey30, h⟩ := h.bind
  obtain ⟨y31, ey31, h⟩ := h.bind
  obtain ⟨y32, ey32, h⟩ := h.bind
  obtain ⟨y33, ey33, h⟩ := h.bind
  refine R [.res [(0, ⟨0, .int .i64, y28⟩)], .res [(0, ⟨0, T_r04_Q, y29⟩)], .res [(0, ⟨0, .bool, y30⟩)], .frz, .res [(0, ⟨0, T_api_Ratio, y31⟩)], .res [(0, ⟨0, .bool, y32⟩)], .res [(0, ⟨0, .bool, y33⟩)]] [(3, .box 0 T_api_Ratio p0), (4, .box 0 T_api_Ratio p1), (7, .box 0 T_r04_Q y8), (8, .box 0 T_r04_Q y9), (150, .v 0 .bool (((y27.2 != (decide (y28 ≥ 0))) || (y27.2 && ((!y30) || (!y32)))) || ((!y27.2) && (!y33))))] (pc (r04_Cmp.ok ey28) (pc (fun hc => r04_Sub.ok (bif_some ey29 hc)) (pc (fun hc => r04_Same.ok (bif_some ey30 hc)) (pc (fun hc => ratio_Add.ok (bif_some ey31 hc)) (pc (fun hc => ratio_Same.ok (bif_some ey32 hc)) (ps (fun hc => l04_none.ok (bif_some ey33 hc)))))))) ?_
  refine C h (fun h => ?_) fun h => ?_
  · refine W_seq ?_
    refine R [] [(6, .v 0 .bool false)] pz ?_
    cases h
    exact Rt hw0
  refine W_skip (W_seq ?_)
  obtain ⟨y34, ey34, h⟩ := h.bind
  refine R [.res [(0, ⟨0, T_api_Ratio, y34.1⟩), (0, ⟨0, .bool, y34.2⟩)]] [(3, .box 0 T_api_Ratio p0), (4, .box 0 T_api_Ratio p1), (7, .box 0 T_r04_Q y8), (8, .box 0 T_r04_Q y9), (12, .box 0 T_api_Ratio y34.1), (13, .v 0 .bool y34.2)] (ps (ratio_Div.ok ey34)) ?_
  refine W_seq (W_seq ?_)
  obtain ⟨y35, ey35, h⟩ := h.bind
  obtain ⟨y36, ey36, h⟩ := h.bind
  obtain ⟨y37, ey37, h⟩ := h.bind
  obtain ⟨y38, ey38, h⟩ := h.bind
  obtain ⟨y39, ey39, h⟩ := h.bind
  obtain ⟨y40, ey40, h⟩ := h.bind
  refine R [.res [(0, ⟨0, .bool, y35⟩)], .res [(0, ⟨0, T_r04_Q, y36⟩)], .res [(0, ⟨0, .bool, y37⟩)], .frz, .res [(0, ⟨0, T_api_Ratio, y38⟩)], .res [(0, ⟨0, .bool, y39⟩)], .res [(0, ⟨0, .bool, y40⟩)]] [(3, .box 0 T_api_Ratio p0), (7, .box 0 T_r04_Q y8), (190, .v 0 .bool (((y34.2 != (!y35)) || (y34.2 && ((!y37) || (!y39)))) || ((!y34.2) && (!y40))))] (pc (r04_Zero.ok ey35) (pc (fun hc => r04_Div.ok (bif_some ey36 hc)) (pc (fun hc => r04_Same.ok (bif_some ey37 hc)) (pc (fun hc => ratio_Mul.ok (bif_some ey38 hc)) (pc (fun hc => ratio_Same.ok (bif_some ey39 hc)) (ps (fun hc => l04_none.ok (bif_some ey40 hc)))))))) ?_
  refine C h (fun h => ?_) fun h => ?_
  · refine W_seq ?_
    refine R [] [(6, .v 0 .bool false)] pz ?_
    cases h
    exact Rt hw0
  refine W_skip (W_seq ?_)
  obtain ⟨y41, ey41, h⟩ := h.bind
  refine R [.res [(0, ⟨0, T_r01_Nat, y41.1⟩), (0, ⟨0, T_r01_Nat, y41.2⟩)]] [(3, .box 0 T_api_Ratio p0), (14, .box 0 T_r01_Nat y41.1)] (ps (r01_Div.ok ey41)) ?_
  refine W_seq ?_
  obtain ⟨y42, ey42, h⟩ := h.bind
  obtain ⟨y43, ey43, h⟩ := h.bind
  obtain ⟨y44, ey44, h⟩ := h.bind
  obtain ⟨y45, ey45, h⟩ := h.bind
  refine R1 h [.res [(9, ⟨9, .slice (.int .u32), y42⟩)], .res [(9, ⟨9, .slice (.int .u32), y43⟩)], .res [(0, ⟨0, .bool, y44⟩)], .res [(0, ⟨0, .bool, y45⟩)]] (fun x46 => [(6, .v 0 .bool x46)]) (pc (ratio_Floor.ok ey42) (pc (r03_Out.ok ey43) (pc (r03_Same.ok ey44) (ps (fun hc => l04_alive.ok (bif_some ey45 hc)))))) fun x46 h => ?_
  cases h
  exact Rt hw0

end
end Go.Tom
