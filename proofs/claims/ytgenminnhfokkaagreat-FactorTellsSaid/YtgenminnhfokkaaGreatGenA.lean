/- Each function of the program as a pure one, and the proof that the code keeps that contract. -/
import Derived.Test.YtgenminnhfokkaaGreatGenT
set_option linter.unusedVariables false
set_option linter.constructorNameAsVariable false
set_option maxRecDepth 100000
namespace Go.Tom
open Go Go.IntKind Go.Proofs.Tryz
noncomputable section
def factor_Used (p0 : Int) (p1 : Int) : Option (Int × Int × Int) :=
  bif (decide (p1 < 1)) || (decide (p1 > p0)) then
    some ((0 : Int), (0 : Int), (6 : Int))
  else
  bif p1 == p0 then
    some ((1 : Int), (1 : Int), (0 : Int))
  else
  some (p0, p1, (0 : Int))
theorem factor_Used.ok {p0 : Int} {p1 : Int} {r : Int × Int × Int} (h : factor_Used p0 p1 = some r) : ACall prog 10 [⟨.int .i64, p0⟩, ⟨.int .i64, p1⟩] [⟨0, .int .i64, r.1⟩, ⟨0, .int .i64, r.2.1⟩, ⟨0, .int .i64, r.2.2⟩] := by
  replace h := Leads.of h
  unfold factor_Used at h
  refine AC func10 rfl fun w0 F0 hw0 => ?_
  refine W_seq ?_
  refine R [] [(0, .v 0 (.int .i64) p0), (1, .v 0 (.int .i64) p1)] pz ?_
  refine W_seq (W_block (W_seq ?_))
  refine R [] [(0, .v 0 (.int .i64) p0), (1, .v 0 (.int .i64) p1), (7, .v 0 .bool ((decide (p1 < 1)) || (decide (p1 > p0))))] pz ?_
  refine C h (fun h => ?_) fun h => ?_
  · refine W_seq ?_
    refine R [] [(4, .v 0 (.int .i64) (0 : Int)), (5, .v 0 (.int .i64) (0 : Int)), (6, .v 0 (.int .i64) (6 : Int))] pz ?_
    cases h
    exact Rt hw0
  refine W_seq ?_
  refine R [] [(0, .v 0 (.int .i64) p0), (1, .v 0 (.int .i64) p1), (15, .v 0 .bool (p1 == p0))] pz ?_
  refine C h (fun h => ?_) fun h => ?_
  · refine W_seq ?_
    refine R [] [(4, .v 0 (.int .i64) (1 : Int)), (5, .v 0 (.int .i64) (1 : Int)), (6, .v 0 (.int .i64) (0 : Int))] pz ?_
    cases h
    exact Rt hw0
  refine W_skip (W_blk (W_seq ?_))
  refine R [] [(4, .v 0 (.int .i64) p0), (5, .v 0 (.int .i64) p1), (6, .v 0 (.int .i64) (0 : Int))] pz ?_
  cases h
  exact Rt hw0

def r20_Used (p0 : Int) (p1 : Int) : Option (Int × Int × Int) :=
  bif (decide (p1 < 1)) || (decide (p1 > p0)) then
    some ((0 : Int), (0 : Int), (6 : Int))
  else
  bif p1 == p0 then
    some ((1 : Int), (1 : Int), (0 : Int))
  else
  some (p0, p1, (0 : Int))
theorem r20_Used.ok {p0 : Int} {p1 : Int} {r : Int × Int × Int} (h : r20_Used p0 p1 = some r) : ACall prog 11 [⟨.int .i64, p0⟩, ⟨.int .i64, p1⟩] [⟨0, .int .i64, r.1⟩, ⟨0, .int .i64, r.2.1⟩, ⟨0, .int .i64, r.2.2⟩] := by
  replace h := Leads.of h
  unfold r20_Used at h
  refine AC func11 rfl fun w0 F0 hw0 => ?_
  refine W_seq ?_
  refine R [] [(0, .v 0 (.int .i64) p0), (1, .v 0 (.int .i64) p1)] pz ?_
  refine W_seq (W_seq ?_)
  refine R [] [(0, .v 0 (.int .i64) p0), (1, .v 0 (.int .i64) p1), (13, .v 0 .bool ((decide (p1 < 1)) || (decide (p1 > p0))))] pz ?_
  refine C h (fun h => ?_) fun h => ?_
  · refine W_seq ?_
    refine R [] [(4, .v 0 (.int .i64) (0 : Int)), (5, .v 0 (.int .i64) (0 : Int)), (6, .v 0 (.int .i64) (6 : Int))] pz ?_
    cases h
    exact Rt hw0
  refine W_skip (W_seq (W_seq ?_))
  refine R [] [(0, .v 0 (.int .i64) p0), (1, .v 0 (.int .i64) p1), (16, .v 0 .bool (p1 == p0))] pz ?_
  refine C h (fun h => ?_) fun h => ?_
  · refine W_seq ?_
    refine R [] [(4, .v 0 (.int .i64) (1 : Int)), (5, .v 0 (.int .i64) (1 : Int)), (6, .v 0 (.int .i64) (0 : Int))] pz ?_
    cases h
    exact Rt hw0
  refine W_skip (W_seq ?_)
  refine R [] [(4, .v 0 (.int .i64) p0), (5, .v 0 (.int .i64) p1), (6, .v 0 (.int .i64) (0 : Int))] pz ?_
  cases h
  exact Rt hw0

def r01_Of_j1 (x1 : List Int) : Option (D_r01_Nat) :=
  some x1
def r01_Of_b1 (x2 : Int) (x3 : List Int) : Option ((Int × (List Int)) ⊕ D_r01_Nat) :=
  bif decide (x2 > 0) then
    ass ((65536 : Int) ≠ 0) <|
    ass (((x3.length + [i64.wrap (x2.tmod 65536)].length : Nat) : Int) ≤ limA) <|
    bnd (x3 ++ [i64.wrap (x2.tmod 65536)]) fun x4 =>
    ass ((65536 : Int) ≠ 0) <|
    bnd (u64.wrap (x2.tdiv 65536)) fun x5 =>
    some (.inl (x5, x4))
  else
  (r01_Of_j1 x3).map .inr
def r01_Of (p0 : Int) : Option D_r01_Nat :=
  loopM (fun x : Int × (List Int) => r01_Of_b1 x.1 x.2) (p0, ([] : List Int))
theorem r01_Of.ok {p0 : Int} {r : D_r01_Nat} (h : r01_Of p0 = some r) : ACall prog 61 [⟨.int .u64, p0⟩] [⟨0, T_r01_Nat, r⟩] := by
  replace h := Leads.of h
  unfold r01_Of at h
  refine AC func61 rfl fun w0 F0 hw0 => ?_
  refine W_seq ?_
  refine R [] [(0, .v 0 (.int .u64) p0), (2, .box 9 T_r01_Nat ([] : List Int))] pz ?_
  refine W_seq ?_
  refine R [] [(0, .v 0 (.int .u64) p0), (2, .box 9 T_r01_Nat ([] : List Int)), (3, .v 9 (.slice (.int .i64)) ([] : List Int))] pz ?_
  refine W_seq ?_
  refine J1 h r01_Of_j1 (fun x1 => [(2, .box 9 T_r01_Nat ([] : List Int)), (3, .v 9 (.slice (.int .i64)) x1)]) (fun x1 h => ?_) fun j1 => ?_
  · unfold r01_Of_j1 at h
    refine W_seq ?_
    refine K (E' := [(2, .box 9 T_r01_Nat ([] : List Int)), (3, .v 0 (.slice (.int .i64)) x1)]) ?_
    refine R [] [(2, .box 0 T_r01_Nat x1)] pz ?_
    cases h
    exact Rt hw0
  refine W_block ?_
  refine L2 h (fun x2 x3 => [(0, .v 0 (.int .u64) x2), (2, .box 9 T_r01_Nat ([] : List Int)), (3, .v 9 (.slice (.int .i64)) x3)]) fun x2 x3 _ h => ?_
  unfold r01_Of_b1 at h
  refine W_seq (W_seq ?_)
  refine R [] [(0, .v 0 (.int .u64) x2), (2, .box 9 T_r01_Nat ([] : List Int)), (3, .v 9 (.slice (.int .i64)) x3), (5, .v 0 .bool (decide (x2 > 0)))] pz ?_
  refine C h (fun h => ?_) fun h => ?_
  · refine W_skip (W_block (W_seq ?_))
    obtain ⟨o1, h⟩ := h.ass
    obtain ⟨o2, h⟩ := h.ass
    refine R1 h [] (fun x4 => [(0, .v 0 (.int .u64) x2), (2, .box 9 T_r01_Nat ([] : List Int)), (3, .v 9 (.slice (.int .i64)) x4)]) (pc o1 (ps o2)) fun x4 h => ?_
    obtain ⟨o1, h⟩ := h.ass
    refine R1 h [] (fun x5 => [(0, .v 0 (.int .u64) x5), (2, .box 9 T_r01_Nat ([] : List Int)), (3, .v 9 (.slice (.int .i64)) x4)]) (ps o1) fun x5 h => ?_
    refine W_blk ?_
    exact B h
  refine W_exit rfl ?_
  exact K (j1 x3 h.back)

def r04_Int (p0 : Int) : Option D_r04_Q :=
  bnd ((([] : List Int), ([] : List Int))) fun x1 =>
  (r01_Of p0).bind fun y2 =>
  (r01_Of (1 : Int)).bind fun y3 =>
  bnd ((y2, y3)) fun x4 =>
  some x4
theorem r04_Int.ok {p0 : Int} {r : D_r04_Q} (h : r04_Int p0 = some r) : ACall prog 12 [⟨.int .u64, p0⟩] [⟨0, T_r04_Q, r⟩] := by
  replace h := Leads.of h
  unfold r04_Int at h
  refine AC func12 rfl fun w0 F0 hw0 => ?_
  refine W_seq ?_
  refine R1 h [] (fun x1 => [(0, .v 0 (.int .u64) p0), (2, .box 9 T_r04_Q x1)]) pz fun x1 h => ?_
  refine W_seq ?_
  obtain ⟨y2, ey2, h⟩ := h.bind
  obtain ⟨y3, ey3, h⟩ := h.bind
  refine R1 h [.res [(0, ⟨0, T_r01_Nat, y2⟩)], .res [(0, ⟨0, T_r01_Nat, y3⟩)]] (fun x4 => [(2, .box 0 T_r04_Q x4)]) (pc (r01_Of.ok ey2) (ps (r01_Of.ok ey3))) fun x4 h => ?_
  cases h
  exact Rt hw0

def r01_Cut_j1 (p0 : List Int) (x1 : Int) : Option (D_r01_Nat) :=
  ass (0 ≤ (0 : Int) ∧ (0 : Int) ≤ x1 ∧ x1 ≤ (p0.length : Int)) <|
  ass (((([] : List Int).length + (sl p0 (0 : Int) x1).length : Nat) : Int) ≤ limA) <|
  bnd (([] : List Int) ++ (sl p0 (0 : Int) x1)) fun x2 =>
  some x2
def r01_Cut_b1 (p0 : List Int) (x3 : Int) : Option (Int ⊕ D_r01_Nat) :=
  ass ((decide (x3 > 0)) = true → 0 ≤ i64.wrap (x3 - 1) ∧ i64.wrap (x3 - 1) < (p0.length : Int)) <|
  bif (decide (x3 > 0)) && ((rd (0 : Int) p0 (i64.wrap (x3 - 1))) == 0) then
    bnd (i64.wrap (x3 - 1)) fun x4 =>
    some (.inl x4)
  else
  (r01_Cut_j1 p0 x3).map .inr
def r01_Cut (p0 : List Int) : Option D_r01_Nat :=
  loopM (fun x : Int => r01_Cut_b1 p0 x) (p0.length : Int)
theorem r01_Cut.ok {p0 : List Int} {r : D_r01_Nat} (h : r01_Cut p0 = some r) : ACall prog 117 [⟨.slice (.int .i64), p0⟩] [⟨0, T_r01_Nat, r⟩] := by
  replace h := Leads.of h
  unfold r01_Cut at h
  refine AC func117 rfl fun w0 F0 hw0 => ?_
  refine W_seq ?_
  refine R [] [(0, .v 0 (.slice (.int .i64)) p0), (2, .box 9 T_r01_Nat ([] : List Int))] pz ?_
  refine W_seq ?_
  refine R [] [(0, .v 0 (.slice (.int .i64)) p0), (2, .box 9 T_r01_Nat ([] : List Int)), (3, .v 0 (.int .i64) (p0.length : Int))] pz ?_
  refine W_seq ?_
  refine J1 h (r01_Cut_j1 p0) (fun x1 => [(0, .v 0 (.slice (.int .i64)) p0), (2, .box 9 T_r01_Nat ([] : List Int)), (3, .v 0 (.int .i64) x1)]) (fun x1 h => ?_) fun j1 => ?_
  · unfold r01_Cut_j1 at h
    refine W_seq ?_
    obtain ⟨o1, h⟩ := h.ass
    obtain ⟨o2, h⟩ := h.ass
    refine R1 h [.fz (some 23) 22 0] (fun x2 => [(2, .box 0 T_r01_Nat x2)]) (pc o1 (ps o2)) fun x2 h => ?_
    cases h
    exact Rt hw0
  refine W_block ?_
  refine L1 h (fun x3 => [(0, .v 0 (.slice (.int .i64)) p0), (2, .box 9 T_r01_Nat ([] : List Int)), (3, .v 0 (.int .i64) x3)]) fun x3 _ h => ?_
  unfold r01_Cut_b1 at h
  refine W_seq (W_seq ?_)
  obtain ⟨o1, h⟩ := h.ass
  refine R [] [(0, .v 0 (.slice (.int .i64)) p0), (2, .box 9 T_r01_Nat ([] : List Int)), (3, .v 0 (.int .i64) x3), (15, .v 0 .bool ((decide (x3 > 0)) && ((rd (0 : Int) p0 (i64.wrap (x3 - 1))) == 0)))] (ps o1) ?_
  refine C h (fun h => ?_) fun h => ?_
  · refine W_skip (W_block ?_)
    refine R1 h [] (fun x4 => [(0, .v 0 (.slice (.int .i64)) p0), (2, .box 9 T_r01_Nat ([] : List Int)), (3, .v 0 (.int .i64) x4)]) pz fun x4 h => ?_
    refine W_blk ?_
    exact B h
  refine W_exit rfl ?_
  exact K (j1 x3 h.back)

def r01_digit (p0 : D_r01_Nat) (p1 : Int) : Option Int :=
  bif decide (p1 < (p0.length : Int)) then
    ass (0 ≤ p1 ∧ p1 < (p0.length : Int)) <|
    bnd (rd (0 : Int) p0 p1) fun x1 =>
    some x1
  else
  some (0 : Int)
theorem r01_digit.ok {p0 : D_r01_Nat} {p1 : Int} {r : Int} (h : r01_digit p0 p1 = some r) : ACall prog 116 [⟨T_r01_Nat, p0⟩, ⟨.int .i64, p1⟩] [⟨0, .int .i64, r⟩] := by
  replace h := Leads.of h
  unfold r01_digit at h
  refine AC func116 rfl fun w0 F0 hw0 => ?_
  refine W_seq ?_
  refine R [] [(1, .v 0 (.int .i64) p1), (2, .box 0 T_r01_Nat p0)] pz ?_
  refine W_seq (W_seq ?_)
  refine R [] [(1, .v 0 (.int .i64) p1), (2, .box 0 T_r01_Nat p0), (9, .v 0 .bool (decide (p1 < (p0.length : Int))))] pz ?_
  refine C h (fun h => ?_) fun h => ?_
  · refine W_seq ?_
    obtain ⟨o1, h⟩ := h.ass
    refine R1 h [] (fun x1 => [(4, .v 0 (.int .i64) x1)]) (ps o1) fun x1 h => ?_
    cases h
    exact Rt hw0
  refine W_skip (W_seq ?_)
  refine R [] [(4, .v 0 (.int .i64) (0 : Int))] pz ?_
  cases h
  exact Rt hw0

def r01_Mul_j1 (x2 : List Int) : Option (D_r01_Nat) :=
  (r01_Cut x2).bind fun y3 =>
  some y3
def r01_Mul_j2 (x5 : Int) (x6 : List Int) : Option (((List Int) × Int) ⊕ D_r01_Nat) :=
  bnd (i64.wrap (x5 + 1)) fun x7 =>
  some (.inl (x6, x7))
def r01_Mul_j3 (x5 : Int) (x8 : List Int) : Option (((List Int) × Int) ⊕ D_r01_Nat) :=
  r01_Mul_j2 x5 x8
def r01_Mul_b2 (p0 : D_r01_Nat) (p1 : D_r01_Nat) (x5 : Int) (x9 : List Int) (x10 : Int) (x11 : Int) : Option (((List Int) × Int × Int) ⊕ (((List Int) × Int) ⊕ D_r01_Nat)) :=
  bif (decide (x11 < (p1.length : Int))) || (decide (x10 > 0)) then
    ass (0 ≤ i64.wrap (x5 + x11) ∧ i64.wrap (x5 + x11) < (x9.length : Int)) <|
    ass (0 ≤ x5 ∧ x5 < (p0.length : Int)) <|
    (r01_digit p1 x11).bind fun y12 =>
    bnd (i64.wrap ((i64.wrap ((rd (0 : Int) x9 (i64.wrap (x5 + x11))) + (i64.wrap ((rd (0 : Int) p0 x5) * y12)))) + x10)) fun x13 =>
    ass ((65536 : Int) ≠ 0) <|
    ass (0 ≤ i64.wrap (x5 + x11) ∧ i64.wrap (x5 + x11) < (x9.length : Int)) <|
    bnd (wr x9 (i64.wrap (x5 + x11)) (x13.tmod 65536)) fun x14 =>
    ass ((65536 : Int) ≠ 0) <|
    bnd (i64.wrap (x13.tdiv 65536)) fun x15 =>
    bnd (i64.wrap (x11 + 1)) fun x16 =>
    some (.inl (x14, x15, x16))
  else
  (r01_Mul_j3 x5 x9).map .inr
def r01_Mul_b1 (p0 : D_r01_Nat) (p1 : D_r01_Nat) (x4 : List Int) (x5 : Int) : Option (((List Int) × Int) ⊕ D_r01_Nat) :=
  bif decide (x5 < (p0.length : Int)) then
    loopM (fun x : (List Int) × Int × Int => r01_Mul_b2 p0 p1 x5 x.1 x.2.1 x.2.2) (x4, (0 : Int), (0 : Int))
  else
  (r01_Mul_j1 x4).map .inr
def r01_Mul (p0 : D_r01_Nat) (p1 : D_r01_Nat) : Option D_r01_Nat :=
  ass (0 ≤ i64.wrap ((i64.wrap ((p0.length : Int) + (p1.length : Int))) + 1) ∧ i64.wrap ((i64.wrap ((p0.length : Int) + (p1.length : Int))) + 1) ≤ i64.wrap ((i64.wrap ((p0.length : Int) + (p1.length : Int))) + 1) ∧ i64.wrap ((i64.wrap ((p0.length : Int) + (p1.length : Int))) + 1) ≤ lim) <|
  bnd (List.replicate (i64.wrap ((i64.wrap ((p0.length : Int) + (p1.length : Int))) + 1)).toNat (0 : Int)) fun x1 =>
  loopM (fun x : (List Int) × Int => r01_Mul_b1 p0 p1 x.1 x.2) (x1, (0 : Int))
theorem r01_Mul.ok {p0 : D_r01_Nat} {p1 : D_r01_Nat} {r : D_r01_Nat} (h : r01_Mul p0 p1 = some r) : ACall prog 79 [⟨T_r01_Nat, p0⟩, ⟨T_r01_Nat, p1⟩] [⟨0, T_r01_Nat, r⟩] := by
  replace h := Leads.of h
  unfold r01_Mul at h
  refine AC func79 rfl fun w0 F0 hw0 => ?_
  refine W_seq ?_
  refine R [] [(2, .box 0 T_r01_Nat p0), (3, .box 0 T_r01_Nat p1), (4, .box 9 T_r01_Nat ([] : List Int))] pz ?_
  refine W_seq ?_
  obtain ⟨o1, h⟩ := h.ass
  refine R1 h [] (fun x1 => [(2, .box 0 T_r01_Nat p0), (3, .box 0 T_r01_Nat p1), (4, .box 9 T_r01_Nat ([] : List Int)), (5, .v 9 (.slice (.int .i64)) x1)]) (ps o1) fun x1 h => ?_
  refine W_seq (W_seq ?_)
  refine R [] [(2, .box 0 T_r01_Nat p0), (3, .box 0 T_r01_Nat p1), (4, .box 9 T_r01_Nat ([] : List Int)), (5, .v 9 (.slice (.int .i64)) x1), (6, .v 0 (.int .i64) (0 : Int))] pz ?_
  refine J1 h r01_Mul_j1 (fun x2 => [(4, .box 9 T_r01_Nat ([] : List Int)), (5, .v 9 (.slice (.int .i64)) x2)]) (fun x2 h => ?_) fun j1 => ?_
  · unfold r01_Mul_j1 at h
    refine W_seq ?_
    refine K (E' := [(4, .box 9 T_r01_Nat ([] : List Int)), (5, .v 0 (.slice (.int .i64)) x2)]) ?_
    obtain ⟨y3, ey3, h⟩ := h.bind
    refine R [.res [(0, ⟨0, T_r01_Nat, y3⟩)]] [(4, .box 0 T_r01_Nat y3)] (ps (r01_Cut.ok ey3)) ?_
    cases h
    exact Rt hw0
  refine W_block ?_
  refine L2 h (fun x4 x5 => [(2, .box 0 T_r01_Nat p0), (3, .box 0 T_r01_Nat p1), (4, .box 9 T_r01_Nat ([] : List Int)), (5, .v 9 (.slice (.int .i64)) x4), (6, .v 0 (.int .i64) x5)]) fun x4 x5 _ h => ?_
  unfold r01_Mul_b1 at h
  refine W_seq (W_seq ?_)
  refine R [] [(2, .box 0 T_r01_Nat p0), (3, .box 0 T_r01_Nat p1), (4, .box 9 T_r01_Nat ([] : List Int)), (5, .v 9 (.slice (.int .i64)) x4), (6, .v 0 (.int .i64) x5), (23, .v 0 .bool (decide (x5 < (p0.length : Int))))] pz ?_
  refine C h (fun h => ?_) fun h => ?_
  · refine W_skip (W_seq ?_)
    refine J1 h (r01_Mul_j2 x5) (fun x6 => [(2, .box 0 T_r01_Nat p0), (3, .box 0 T_r01_Nat p1), (4, .box 9 T_r01_Nat ([] : List Int)), (5, .v 9 (.slice (.int .i64)) x6), (6, .v 0 (.int .i64) x5)]) (fun x6 h => ?_) fun j2 => ?_
    · unfold r01_Mul_j2 at h
      refine R1 h [] (fun x7 => [(2, .box 0 T_r01_Nat p0), (3, .box 0 T_r01_Nat p1), (4, .box 9 T_r01_Nat ([] : List Int)), (5, .v 9 (.slice (.int .i64)) x6), (6, .v 0 (.int .i64) x7)]) pz fun x7 h => ?_
      exact B h
    refine W_block (W_seq ?_)
    refine R [] [(2, .box 0 T_r01_Nat p0), (3, .box 0 T_r01_Nat p1), (4, .box 9 T_r01_Nat ([] : List Int)), (5, .v 9 (.slice (.int .i64)) x4), (6, .v 0 (.int .i64) x5), (7, .v 0 (.int .i64) (0 : Int))] pz ?_
    refine W_seq ?_
    refine R [] [(2, .box 0 T_r01_Nat p0), (3, .box 0 T_r01_Nat p1), (4, .box 9 T_r01_Nat ([] : List Int)), (5, .v 9 (.slice (.int .i64)) x4), (6, .v 0 (.int .i64) x5), (7, .v 0 (.int .i64) (0 : Int)), (8, .v 0 (.int .i64) (0 : Int))] pz ?_
    refine J1 h (r01_Mul_j3 x5) (fun x8 => [(2, .box 0 T_r01_Nat p0), (3, .box 0 T_r01_Nat p1), (4, .box 9 T_r01_Nat ([] : List Int)), (5, .v 9 (.slice (.int .i64)) x8), (6, .v 0 (.int .i64) x5)]) (fun x8 h => ?_) fun j3 => ?_
    · unfold r01_Mul_j3 at h
      refine W_blk ?_
      exact K (j2 x8 h)
    refine W_block ?_
    refine L3 h (fun x9 x10 x11 => [(2, .box 0 T_r01_Nat p0), (3, .box 0 T_r01_Nat p1), (4, .box 9 T_r01_Nat ([] : List Int)), (5, .v 9 (.slice (.int .i64)) x9), (6, .v 0 (.int .i64) x5), (7, .v 0 (.int .i64) x10), (8, .v 0 (.int .i64) x11)]) fun x9 x10 x11 _ h => ?_
    unfold r01_Mul_b2 at h
    refine W_seq (W_seq ?_)
    refine R [] [(2, .box 0 T_r01_Nat p0), (3, .box 0 T_r01_Nat p1), (4, .box 9 T_r01_Nat ([] : List Int)), (5, .v 9 (.slice (.int .i64)) x9), (6, .v 0 (.int .i64) x5), (7, .v 0 (.int .i64) x10), (8, .v 0 (.int .i64) x11), (34, .v 0 .bool ((decide (x11 < (p1.length : Int))) || (decide (x10 > 0))))] pz ?_
    refine C h (fun h => ?_) fun h => ?_
    · refine W_skip (W_seq (W_block (W_seq ?_)))
      obtain ⟨o1, h⟩ := h.ass
      obtain ⟨o2, h⟩ := h.ass
      obtain ⟨y12, ey12, h⟩ := h.bind
      refine R1 h [.res [(0, ⟨0, .int .i64, y12⟩)]] (fun x13 => [(2, .box 0 T_r01_Nat p0), (3, .box 0 T_r01_Nat p1), (4, .box 9 T_r01_Nat ([] : List Int)), (5, .v 9 (.slice (.int .i64)) x9), (6, .v 0 (.int .i64) x5), (8, .v 0 (.int .i64) x11), (9, .v 0 (.int .i64) x13)]) (pc o1 (pc o2 (ps (r01_digit.ok ey12)))) fun x13 h => ?_
      refine W_seq ?_
      obtain ⟨o1, h⟩ := h.ass
      obtain ⟨o2, h⟩ := h.ass
      refine R1 h [] (fun x14 => [(2, .box 0 T_r01_Nat p0), (3, .box 0 T_r01_Nat p1), (4, .box 9 T_r01_Nat ([] : List Int)), (5, .v 9 (.slice (.int .i64)) x14), (6, .v 0 (.int .i64) x5), (8, .v 0 (.int .i64) x11), (9, .v 0 (.int .i64) x13)]) (pc o1 (ps o2)) fun x14 h => ?_
      obtain ⟨o1, h⟩ := h.ass
      refine R1 h [] (fun x15 => [(2, .box 0 T_r01_Nat p0), (3, .box 0 T_r01_Nat p1), (4, .box 9 T_r01_Nat ([] : List Int)), (5, .v 9 (.slice (.int .i64)) x14), (6, .v 0 (.int .i64) x5), (7, .v 0 (.int .i64) x15), (8, .v 0 (.int .i64) x11)]) (ps o1) fun x15 h => ?_
      refine W_blk ?_
      refine R1 h [] (fun x16 => [(2, .box 0 T_r01_Nat p0), (3, .box 0 T_r01_Nat p1), (4, .box 9 T_r01_Nat ([] : List Int)), (5, .v 9 (.slice (.int .i64)) x14), (6, .v 0 (.int .i64) x5), (7, .v 0 (.int .i64) x15), (8, .v 0 (.int .i64) x16)]) pz fun x16 h => ?_
      exact B h
    refine W_exit rfl ?_
    exact K (j3 x9 h.back)
  refine W_exit rfl ?_
  exact K (j1 x4 h.back)

def r01_Cmp_j2 : Option (Int) :=
  some (0 : Int)
def r01_Cmp_b1 (p0 : D_r01_Nat) (p1 : D_r01_Nat) (x3 : Int) : Option (Int ⊕ Int) :=
  bif decide (x3 ≥ 0) then
    (r01_digit p0 x3).bind fun y4 =>
    (r01_digit p1 x3).bind fun y5 =>
    bif decide (y4 < y5) then
      some (.inr (-1 : Int))
    else
    (r01_digit p0 x3).bind fun y6 =>
    (r01_digit p1 x3).bind fun y7 =>
    bif decide (y6 > y7) then
      some (.inr (1 : Int))
    else
    bnd (i64.wrap (x3 - 1)) fun x8 =>
    some (.inl x8)
  else
  (r01_Cmp_j2).map .inr
def r01_Cmp_j1 (p0 : D_r01_Nat) (p1 : D_r01_Nat) (x1 : Int) : Option (Int) :=
  bnd (i64.wrap (x1 - 1)) fun x2 =>
  loopM (fun x : Int => r01_Cmp_b1 p0 p1 x) x2
def r01_Cmp (p0 : D_r01_Nat) (p1 : D_r01_Nat) : Option Int :=
  bif decide ((p1.length : Int) > (p0.length : Int)) then
    r01_Cmp_j1 p0 p1 (p1.length : Int)
  else
  r01_Cmp_j1 p0 p1 (p0.length : Int)
theorem r01_Cmp.ok {p0 : D_r01_Nat} {p1 : D_r01_Nat} {r : Int} (h : r01_Cmp p0 p1 = some r) : ACall prog 78 [⟨T_r01_Nat, p0⟩, ⟨T_r01_Nat, p1⟩] [⟨0, .int .i64, r⟩] := by
  replace h := Leads.of h
  unfold r01_Cmp at h
  refine AC func78 rfl fun w0 F0 hw0 => ?_
  refine W_seq ?_
  refine R [] [(2, .box 0 T_r01_Nat p0), (3, .box 0 T_r01_Nat p1)] pz ?_
  refine W_seq ?_
  refine R [] [(2, .box 0 T_r01_Nat p0), (3, .box 0 T_r01_Nat p1), (5, .v 0 (.int .i64) (p0.length : Int))] pz ?_
  refine W_seq (W_seq ?_)
  refine R [] [(2, .box 0 T_r01_Nat p0), (3, .box 0 T_r01_Nat p1), (5, .v 0 (.int .i64) (p0.length : Int)), (14, .v 0 .bool (decide ((p1.length : Int) > (p0.length : Int))))] pz ?_
  refine J1 h (r01_Cmp_j1 p0 p1) (fun x1 => [(2, .box 0 T_r01_Nat p0), (3, .box 0 T_r01_Nat p1), (5, .v 0 (.int .i64) x1)]) (fun x1 h => ?_) fun j1 => ?_
  · unfold r01_Cmp_j1 at h
    refine W_seq (W_seq ?_)
    refine R1 h [] (fun x2 => [(2, .box 0 T_r01_Nat p0), (3, .box 0 T_r01_Nat p1), (6, .v 0 (.int .i64) x2)]) pz fun x2 h => ?_
    refine J0 h r01_Cmp_j2 ([]) (fun h => ?_) fun j2 => ?_
    · unfold r01_Cmp_j2 at h
      refine W_seq ?_
      refine R [] [(4, .v 0 (.int .i64) (0 : Int))] pz ?_
      cases h
      exact Rt hw0
    refine W_block ?_
    refine L1 h (fun x3 => [(2, .box 0 T_r01_Nat p0), (3, .box 0 T_r01_Nat p1), (6, .v 0 (.int .i64) x3)]) fun x3 _ h => ?_
    unfold r01_Cmp_b1 at h
    refine W_seq (W_seq ?_)
    refine R [] [(2, .box 0 T_r01_Nat p0), (3, .box 0 T_r01_Nat p1), (6, .v 0 (.int .i64) x3), (21, .v 0 .bool (decide (x3 ≥ 0)))] pz ?_
    refine C h (fun h => ?_) fun h => ?_
    · refine W_skip (W_seq (W_block (W_seq (W_seq ?_))))
      obtain ⟨y4, ey4, h⟩ := h.bind
      obtain ⟨y5, ey5, h⟩ := h.bind
      refine R [.res [(0, ⟨0, .int .i64, y4⟩)], .res [(0, ⟨0, .int .i64, y5⟩)]] [(2, .box 0 T_r01_Nat p0), (3, .box 0 T_r01_Nat p1), (6, .v 0 (.int .i64) x3), (30, .v 0 .bool (decide (y4 < y5)))] (pc (r01_digit.ok ey4) (ps (r01_digit.ok ey5))) ?_
      refine C h (fun h => ?_) fun h => ?_
      · refine W_seq ?_
        refine R [] [(4, .v 0 (.int .i64) (-1 : Int))] pz ?_
        cases h
        exact Rt hw0
      refine W_skip (W_seq ?_)
      obtain ⟨y6, ey6, h⟩ := h.bind
      obtain ⟨y7, ey7, h⟩ := h.bind
      refine R [.res [(0, ⟨0, .int .i64, y6⟩)], .res [(0, ⟨0, .int .i64, y7⟩)]] [(2, .box 0 T_r01_Nat p0), (3, .box 0 T_r01_Nat p1), (6, .v 0 (.int .i64) x3), (37, .v 0 .bool (decide (y6 > y7)))] (pc (r01_digit.ok ey6) (ps (r01_digit.ok ey7))) ?_
      refine C h (fun h => ?_) fun h => ?_
      · refine W_seq ?_
        refine R [] [(4, .v 0 (.int .i64) (1 : Int))] pz ?_
        cases h
        exact Rt hw0
      refine W_skip (W_blk ?_)
      refine R1 h [] (fun x8 => [(2, .box 0 T_r01_Nat p0), (3, .box 0 T_r01_Nat p1), (6, .v 0 (.int .i64) x8)]) pz fun x8 h => ?_
      exact B h
    refine W_exit rfl ?_
    exact K (j2 h.back)
  refine C h (fun h => ?_) fun h => ?_
  · refine R [] [(2, .box 0 T_r01_Nat p0), (3, .box 0 T_r01_Nat p1), (5, .v 0 (.int .i64) (p1.length : Int))] pz ?_
    exact K (j1 (p1.length : Int) h)
  refine W_skip ?_
  exact K (j1 (p0.length : Int) h)

def r01_Sub_j1 (x1 : List Int) : Option (D_r01_Nat) :=
  (r01_Cut x1).bind fun y2 =>
  some y2
def r01_Sub_j2 (x3 : List Int) (x5 : Int) (x9 : Int) (x10 : Int) : Option (((List Int) × Int × Int) ⊕ D_r01_Nat) :=
  ass (((x3.length + [x10].length : Nat) : Int) ≤ limA) <|
  bnd (x3 ++ [x10]) fun x11 =>
  bnd (i64.wrap (x5 + 1)) fun x12 =>
  some (.inl (x11, x9, x12))
def r01_Sub_b1 (p0 : D_r01_Nat) (p1 : D_r01_Nat) (x3 : List Int) (x4 : Int) (x5 : Int) : Option (((List Int) × Int × Int) ⊕ D_r01_Nat) :=
  bif decide (x5 < (p0.length : Int)) then
    (r01_digit p0 x5).bind fun y6 =>
    (r01_digit p1 x5).bind fun y7 =>
    bnd (i64.wrap ((i64.wrap (y6 - y7)) - x4)) fun x8 =>
    bif decide (x8 < 0) then
      bnd (i64.wrap (x8 + 65536)) fun x13 =>
      r01_Sub_j2 x3 x5 (1 : Int) x13
    else
    r01_Sub_j2 x3 x5 (0 : Int) x8
  else
  (r01_Sub_j1 x3).map .inr
def r01_Sub (p0 : D_r01_Nat) (p1 : D_r01_Nat) : Option D_r01_Nat :=
  loopM (fun x : (List Int) × Int × Int => r01_Sub_b1 p0 p1 x.1 x.2.1 x.2.2) (([] : List Int), (0 : Int), (0 : Int))
theorem r01_Sub.ok {p0 : D_r01_Nat} {p1 : D_r01_Nat} {r : D_r01_Nat} (h : r01_Sub p0 p1 = some r) : ACall prog 119 [⟨T_r01_Nat, p0⟩, ⟨T_r01_Nat, p1⟩] [⟨0, T_r01_Nat, r⟩] := by
  replace h := Leads.of h
  unfold r01_Sub at h
  refine AC func119 rfl fun w0 F0 hw0 => ?_
  refine W_seq ?_
  refine R [] [(2, .box 0 T_r01_Nat p0), (3, .box 0 T_r01_Nat p1), (4, .box 9 T_r01_Nat ([] : List Int))] pz ?_
  refine W_seq ?_
  refine R [] [(2, .box 0 T_r01_Nat p0), (3, .box 0 T_r01_Nat p1), (4, .box 9 T_r01_Nat ([] : List Int)), (5, .v 9 (.slice (.int .i64)) ([] : List Int))] pz ?_
  refine W_seq ?_
  refine R [] [(2, .box 0 T_r01_Nat p0), (3, .box 0 T_r01_Nat p1), (4, .box 9 T_r01_Nat ([] : List Int)), (5, .v 9 (.slice (.int .i64)) ([] : List Int)), (6, .v 0 (.int .i64) (0 : Int))] pz ?_
  refine W_seq (W_seq ?_)
  refine R [] [(2, .box 0 T_r01_Nat p0), (3, .box 0 T_r01_Nat p1), (4, .box 9 T_r01_Nat ([] : List Int)), (5, .v 9 (.slice (.int .i64)) ([] : List Int)), (6, .v 0 (.int .i64) (0 : Int)), (7, .v 0 (.int .i64) (0 : Int))] pz ?_
  refine J1 h r01_Sub_j1 (fun x1 => [(4, .box 9 T_r01_Nat ([] : List Int)), (5, .v 9 (.slice (.int .i64)) x1)]) (fun x1 h => ?_) fun j1 => ?_
  · unfold r01_Sub_j1 at h
    refine W_seq ?_
    refine K (E' := [(4, .box 9 T_r01_Nat ([] : List Int)), (5, .v 0 (.slice (.int .i64)) x1)]) ?_
    obtain ⟨y2, ey2, h⟩ := h.bind
    refine R [.res [(0, ⟨0, T_r01_Nat, y2⟩)]] [(4, .box 0 T_r01_Nat y2)] (ps (r01_Cut.ok ey2)) ?_
    cases h
    exact Rt hw0
  refine W_block ?_
  refine L3 h (fun x3 x4 x5 => [(2, .box 0 T_r01_Nat p0), (3, .box 0 T_r01_Nat p1), (4, .box 9 T_r01_Nat ([] : List Int)), (5, .v 9 (.slice (.int .i64)) x3), (6, .v 0 (.int .i64) x4), (7, .v 0 (.int .i64) x5)]) fun x3 x4 x5 _ h => ?_
  unfold r01_Sub_b1 at h
  refine W_seq (W_seq ?_)
  refine R [] [(2, .box 0 T_r01_Nat p0), (3, .box 0 T_r01_Nat p1), (4, .box 9 T_r01_Nat ([] : List Int)), (5, .v 9 (.slice (.int .i64)) x3), (6, .v 0 (.int .i64) x4), (7, .v 0 (.int .i64) x5), (13, .v 0 .bool (decide (x5 < (p0.length : Int))))] pz ?_
  refine C h (fun h => ?_) fun h => ?_
  · refine W_skip (W_seq (W_block (W_seq ?_)))
    obtain ⟨y6, ey6, h⟩ := h.bind
    obtain ⟨y7, ey7, h⟩ := h.bind
    refine R1 h [.res [(0, ⟨0, .int .i64, y6⟩)], .res [(0, ⟨0, .int .i64, y7⟩)]] (fun x8 => [(2, .box 0 T_r01_Nat p0), (3, .box 0 T_r01_Nat p1), (4, .box 9 T_r01_Nat ([] : List Int)), (5, .v 9 (.slice (.int .i64)) x3), (7, .v 0 (.int .i64) x5), (8, .v 0 (.int .i64) x8)]) (pc (r01_digit.ok ey6) (ps (r01_digit.ok ey7))) fun x8 h => ?_
    refine W_seq ?_
    refine R [] [(2, .box 0 T_r01_Nat p0), (3, .box 0 T_r01_Nat p1), (4, .box 9 T_r01_Nat ([] : List Int)), (5, .v 9 (.slice (.int .i64)) x3), (6, .v 0 (.int .i64) (0 : Int)), (7, .v 0 (.int .i64) x5), (8, .v 0 (.int .i64) x8)] pz ?_
    refine W_seq (W_seq ?_)
    refine R [] [(2, .box 0 T_r01_Nat p0), (3, .box 0 T_r01_Nat p1), (4, .box 9 T_r01_Nat ([] : List Int)), (5, .v 9 (.slice (.int .i64)) x3), (6, .v 0 (.int .i64) (0 : Int)), (7, .v 0 (.int .i64) x5), (8, .v 0 (.int .i64) x8), (26, .v 0 .bool (decide (x8 < 0)))] pz ?_
    refine J2 h (r01_Sub_j2 x3 x5) (fun x9 x10 => [(2, .box 0 T_r01_Nat p0), (3, .box 0 T_r01_Nat p1), (4, .box 9 T_r01_Nat ([] : List Int)), (5, .v 9 (.slice (.int .i64)) x3), (6, .v 0 (.int .i64) x9), (7, .v 0 (.int .i64) x5), (8, .v 0 (.int .i64) x10)]) (fun x9 x10 h => ?_) fun j2 => ?_
    · unfold r01_Sub_j2 at h
      obtain ⟨o1, h⟩ := h.ass
      refine R1 h [] (fun x11 => [(2, .box 0 T_r01_Nat p0), (3, .box 0 T_r01_Nat p1), (4, .box 9 T_r01_Nat ([] : List Int)), (5, .v 9 (.slice (.int .i64)) x11), (6, .v 0 (.int .i64) x9), (7, .v 0 (.int .i64) x5)]) (ps o1) fun x11 h => ?_
      refine W_blk ?_
      refine R1 h [] (fun x12 => [(2, .box 0 T_r01_Nat p0), (3, .box 0 T_r01_Nat p1), (4, .box 9 T_r01_Nat ([] : List Int)), (5, .v 9 (.slice (.int .i64)) x11), (6, .v 0 (.int .i64) x9), (7, .v 0 (.int .i64) x12)]) pz fun x12 h => ?_
      exact B h
    refine C h (fun h => ?_) fun h => ?_
    · refine W_seq ?_
      refine R1 h [] (fun x13 => [(2, .box 0 T_r01_Nat p0), (3, .box 0 T_r01_Nat p1), (4, .box 9 T_r01_Nat ([] : List Int)), (5, .v 9 (.slice (.int .i64)) x3), (7, .v 0 (.int .i64) x5), (8, .v 0 (.int .i64) x13)]) pz fun x13 h => ?_
      refine R [] [(2, .box 0 T_r01_Nat p0), (3, .box 0 T_r01_Nat p1), (4, .box 9 T_r01_Nat ([] : List Int)), (5, .v 9 (.slice (.int .i64)) x3), (6, .v 0 (.int .i64) (1 : Int)), (7, .v 0 (.int .i64) x5), (8, .v 0 (.int .i64) x13)] pz ?_
      exact K (j2 (1 : Int) x13 h)
    refine W_skip ?_
    exact K (j2 (0 : Int) x8 h)
  refine W_exit rfl ?_
  exact K (j1 x3 h.back)

def r01_Div_j1 (x3 : List Int) (x4 : D_r01_Nat) : Option (D_r01_Nat × D_r01_Nat) :=
  (r01_Cut x3).bind fun y5 =>
  some (y5, x4)
def r01_Div_j2 (x8 : Int) (x9 : List Int) (x10 : D_r01_Nat) : Option (((List Int) × D_r01_Nat × Int) ⊕ (D_r01_Nat × D_r01_Nat)) :=
  bnd (i64.wrap (x8 - 1)) fun x11 =>
  some (.inl (x9, x10, x11))
def r01_Div_j3 (p1 : D_r01_Nat) (x6 : List Int) (x8 : Int) (y12 : D_r01_Nat) (x13 : Int) : Option (((List Int) × D_r01_Nat × Int) ⊕ (D_r01_Nat × D_r01_Nat)) :=
  ass (0 ≤ x8 ∧ x8 < (x6.length : Int)) <|
  bnd (wr x6 x8 x13) fun x14 =>
  (r01_Of (u64.wrap x13)).bind fun y15 =>
  (r01_Mul p1 y15).bind fun y16 =>
  (r01_Sub y12 y16).bind fun y17 =>
  r01_Div_j2 x8 x14 y17
def r01_Div_b2 (p1 : D_r01_Nat) (x6 : List Int) (x8 : Int) (y12 : D_r01_Nat) (x18 : Int) (x19 : Int) : Option ((Int × Int) ⊕ (((List Int) × D_r01_Nat × Int) ⊕ (D_r01_Nat × D_r01_Nat))) :=
  bif decide (x18 < x19) then
    ass ((2 : Int) ≠ 0) <|
    bnd (i64.wrap ((i64.wrap ((i64.wrap (x18 + x19)) + 1)).tdiv 2)) fun x20 =>
    (r01_Of (u64.wrap x20)).bind fun y21 =>
    (r01_Mul p1 y21).bind fun y22 =>
    (r01_Cmp y22 y12).bind fun y23 =>
    bif decide (y23 ≤ 0) then
      some (.inl (x20, x19))
    else
    bnd (i64.wrap (x20 - 1)) fun x24 =>
    some (.inl (x18, x24))
  else
  (r01_Div_j3 p1 x6 x8 y12 x18).map .inr
def r01_Div_b1 (p0 : D_r01_Nat) (p1 : D_r01_Nat) (x6 : List Int) (x7 : D_r01_Nat) (x8 : Int) : Option (((List Int) × D_r01_Nat × Int) ⊕ (D_r01_Nat × D_r01_Nat)) :=
  bif decide (x8 ≥ 0) then
    ass (0 ≤ x8 ∧ x8 < (p0.length : Int)) <|
    ass ((([rd (0 : Int) p0 x8].length + x7.length : Nat) : Int) ≤ limA) <|
    (r01_Cut ([rd (0 : Int) p0 x8] ++ x7)).bind fun y12 =>
    loopM (fun x : Int × Int => r01_Div_b2 p1 x6 x8 y12 x.1 x.2) ((0 : Int), (65535 : Int))
  else
  (r01_Div_j1 x6 x7).map .inr
def r01_Div (p0 : D_r01_Nat) (p1 : D_r01_Nat) : Option (D_r01_Nat × D_r01_Nat) :=
  ass (0 ≤ (p0.length : Int) ∧ (p0.length : Int) ≤ (p0.length : Int) ∧ (p0.length : Int) ≤ lim) <|
  bnd (List.replicate (p0.length : Int).toNat (0 : Int)) fun x1 =>
  bnd (i64.wrap ((p0.length : Int) - 1)) fun x2 =>
  loopM (fun x : (List Int) × D_r01_Nat × Int => r01_Div_b1 p0 p1 x.1 x.2.1 x.2.2) (x1, ([] : List Int), x2)
theorem r01_Div.ok {p0 : D_r01_Nat} {p1 : D_r01_Nat} {r : D_r01_Nat × D_r01_Nat} (h : r01_Div p0 p1 = some r) : ACall prog 101 [⟨T_r01_Nat, p0⟩, ⟨T_r01_Nat, p1⟩] [⟨0, T_r01_Nat, r.1⟩, ⟨0, T_r01_Nat, r.2⟩] := by
  replace h := Leads.of h
  unfold r01_Div at h
  refine AC func101 rfl fun w0 F0 hw0 => ?_
  refine W_seq ?_
  refine R [] [(2, .box 0 T_r01_Nat p0), (3, .box 0 T_r01_Nat p1), (4, .box 9 T_r01_Nat ([] : List Int)), (5, .box 9 T_r01_Nat ([] : List Int))] pz ?_
  refine W_seq ?_
  obtain ⟨o1, h⟩ := h.ass
  refine R1 h [] (fun x1 => [(2, .box 0 T_r01_Nat p0), (3, .box 0 T_r01_Nat p1), (4, .box 9 T_r01_Nat ([] : List Int)), (5, .box 9 T_r01_Nat ([] : List Int)), (6, .v 9 (.slice (.int .i64)) x1)]) (ps o1) fun x1 h => ?_
  refine W_seq ?_
  refine R [] [(2, .box 0 T_r01_Nat p0), (3, .box 0 T_r01_Nat p1), (4, .box 9 T_r01_Nat ([] : List Int)), (5, .box 9 T_r01_Nat ([] : List Int)), (6, .v 9 (.slice (.int .i64)) x1), (7, .box 0 T_r01_Nat ([] : List Int))] pz ?_
  refine W_seq (W_seq ?_)
  refine R1 h [] (fun x2 => [(2, .box 0 T_r01_Nat p0), (3, .box 0 T_r01_Nat p1), (4, .box 9 T_r01_Nat ([] : List Int)), (5, .box 9 T_r01_Nat ([] : List Int)), (6, .v 9 (.slice (.int .i64)) x1), (7, .box 0 T_r01_Nat ([] : List Int)), (8, .v 0 (.int .i64) x2)]) pz fun x2 h => ?_
  refine J2 h r01_Div_j1 (fun x3 x4 => [(4, .box 9 T_r01_Nat ([] : List Int)), (5, .box 9 T_r01_Nat ([] : List Int)), (6, .v 9 (.slice (.int .i64)) x3), (7, .box 0 T_r01_Nat x4)]) (fun x3 x4 h => ?_) fun j1 => ?_
  · unfold r01_Div_j1 at h
    refine W_seq ?_
    refine K (E' := [(4, .box 9 T_r01_Nat ([] : List Int)), (5, .box 9 T_r01_Nat ([] : List Int)), (6, .v 0 (.slice (.int .i64)) x3), (7, .box 0 T_r01_Nat x4)]) ?_
    obtain ⟨y5, ey5, h⟩ := h.bind
    refine RL [.res [(0, ⟨0, T_r01_Nat, y5⟩)]] [(4, .box 0 T_r01_Nat y5), (5, .box 0 T_r01_Nat x4)] (pc (r01_Cut.ok ey5) (ps (rfl : (⟨T_r01_Nat, x4⟩ : TV) = ⟨T_r01_Nat, x4⟩))) ?_
    cases h
    exact Rt hw0
  refine W_block ?_
  refine L3 h (fun x6 x7 x8 => [(2, .box 0 T_r01_Nat p0), (3, .box 0 T_r01_Nat p1), (4, .box 9 T_r01_Nat ([] : List Int)), (5, .box 9 T_r01_Nat ([] : List Int)), (6, .v 9 (.slice (.int .i64)) x6), (7, .box 0 T_r01_Nat x7), (8, .v 0 (.int .i64) x8)]) fun x6 x7 x8 _ h => ?_
  unfold r01_Div_b1 at h
  refine W_seq (W_seq ?_)
  refine R [] [(2, .box 0 T_r01_Nat p0), (3, .box 0 T_r01_Nat p1), (4, .box 9 T_r01_Nat ([] : List Int)), (5, .box 9 T_r01_Nat ([] : List Int)), (6, .v 9 (.slice (.int .i64)) x6), (7, .box 0 T_r01_Nat x7), (8, .v 0 (.int .i64) x8), (22, .v 0 .bool (decide (x8 ≥ 0)))] pz ?_
  refine C h (fun h => ?_) fun h => ?_
  · refine W_skip (W_seq ?_)
    refine J2 h (r01_Div_j2 x8) (fun x9 x10 => [(2, .box 0 T_r01_Nat p0), (3, .box 0 T_r01_Nat p1), (4, .box 9 T_r01_Nat ([] : List Int)), (5, .box 9 T_r01_Nat ([] : List Int)), (6, .v 9 (.slice (.int .i64)) x9), (7, .box 0 T_r01_Nat x10), (8, .v 0 (.int .i64) x8)]) (fun x9 x10 h => ?_) fun j2 => ?_
    · unfold r01_Div_j2 at h
      refine R1 h [] (fun x11 => [(2, .box 0 T_r01_Nat p0), (3, .box 0 T_r01_Nat p1), (4, .box 9 T_r01_Nat ([] : List Int)), (5, .box 9 T_r01_Nat ([] : List Int)), (6, .v 9 (.slice (.int .i64)) x9), (7, .box 0 T_r01_Nat x10), (8, .v 0 (.int .i64) x11)]) pz fun x11 h => ?_
      exact B h
    refine W_block (W_seq ?_)
    obtain ⟨o1, h⟩ := h.ass
    obtain ⟨o2, h⟩ := h.ass
    obtain ⟨y12, ey12, h⟩ := h.bind
    refine R [.fz (some 34) 33 0, .res [(0, ⟨0, T_r01_Nat, y12⟩)]] [(2, .box 0 T_r01_Nat p0), (3, .box 0 T_r01_Nat p1), (4, .box 9 T_r01_Nat ([] : List Int)), (5, .box 9 T_r01_Nat ([] : List Int)), (6, .v 9 (.slice (.int .i64)) x6), (7, .box 0 T_r01_Nat y12), (8, .v 0 (.int .i64) x8)] (pc o1 (pc o2 (ps (r01_Cut.ok ey12)))) ?_
    refine W_seq ?_
    refine R [] [(2, .box 0 T_r01_Nat p0), (3, .box 0 T_r01_Nat p1), (4, .box 9 T_r01_Nat ([] : List Int)), (5, .box 9 T_r01_Nat ([] : List Int)), (6, .v 9 (.slice (.int .i64)) x6), (7, .box 0 T_r01_Nat y12), (8, .v 0 (.int .i64) x8), (9, .v 0 (.int .i64) (0 : Int))] pz ?_
    refine W_seq ?_
    refine R [] [(2, .box 0 T_r01_Nat p0), (3, .box 0 T_r01_Nat p1), (4, .box 9 T_r01_Nat ([] : List Int)), (5, .box 9 T_r01_Nat ([] : List Int)), (6, .v 9 (.slice (.int .i64)) x6), (7, .box 0 T_r01_Nat y12), (8, .v 0 (.int .i64) x8), (9, .v 0 (.int .i64) (0 : Int)), (10, .v 0 (.int .i64) (65535 : Int))] pz ?_
    refine W_seq ?_
    refine J1 h (r01_Div_j3 p1 x6 x8 y12) (fun x13 => [(2, .box 0 T_r01_Nat p0), (3, .box 0 T_r01_Nat p1), (4, .box 9 T_r01_Nat ([] : List Int)), (5, .box 9 T_r01_Nat ([] : List Int)), (6, .v 9 (.slice (.int .i64)) x6), (7, .box 0 T_r01_Nat y12), (8, .v 0 (.int .i64) x8), (9, .v 0 (.int .i64) x13)]) (fun x13 h => ?_) fun j3 => ?_
    · unfold r01_Div_j3 at h
      refine W_seq ?_
      obtain ⟨o1, h⟩ := h.ass
      refine R1 h [] (fun x14 => [(2, .box 0 T_r01_Nat p0), (3, .box 0 T_r01_Nat p1), (4, .box 9 T_r01_Nat ([] : List Int)), (5, .box 9 T_r01_Nat ([] : List Int)), (6, .v 9 (.slice (.int .i64)) x14), (7, .box 0 T_r01_Nat y12), (8, .v 0 (.int .i64) x8), (9, .v 0 (.int .i64) x13)]) (ps o1) fun x14 h => ?_
      obtain ⟨y15, ey15, h⟩ := h.bind
      obtain ⟨y16, ey16, h⟩ := h.bind
      obtain ⟨y17, ey17, h⟩ := h.bind
      refine R [.res [(0, ⟨0, T_r01_Nat, y15⟩)], .res [(0, ⟨0, T_r01_Nat, y16⟩)], .res [(0, ⟨0, T_r01_Nat, y17⟩)]] [(2, .box 0 T_r01_Nat p0), (3, .box 0 T_r01_Nat p1), (4, .box 9 T_r01_Nat ([] : List Int)), (5, .box 9 T_r01_Nat ([] : List Int)), (6, .v 9 (.slice (.int .i64)) x14), (7, .box 0 T_r01_Nat y17), (8, .v 0 (.int .i64) x8)] (pc (r01_Of.ok ey15) (pc (r01_Mul.ok ey16) (ps (r01_Sub.ok ey17)))) ?_
      refine W_blk ?_
      exact K (j2 x14 y17 h)
    refine W_block ?_
    refine L2 h (fun x18 x19 => [(2, .box 0 T_r01_Nat p0), (3, .box 0 T_r01_Nat p1), (4, .box 9 T_r01_Nat ([] : List Int)), (5, .box 9 T_r01_Nat ([] : List Int)), (6, .v 9 (.slice (.int .i64)) x6), (7, .box 0 T_r01_Nat y12), (8, .v 0 (.int .i64) x8), (9, .v 0 (.int .i64) x18), (10, .v 0 (.int .i64) x19)]) fun x18 x19 _ h => ?_
    unfold r01_Div_b2 at h
    refine W_seq (W_seq ?_)
    refine R [] [(2, .box 0 T_r01_Nat p0), (3, .box 0 T_r01_Nat p1), (4, .box 9 T_r01_Nat ([] : List Int)), (5, .box 9 T_r01_Nat ([] : List Int)), (6, .v 9 (.slice (.int .i64)) x6), (7, .box 0 T_r01_Nat y12), (8, .v 0 (.int .i64) x8), (9, .v 0 (.int .i64) x18), (10, .v 0 (.int .i64) x19), (37, .v 0 .bool (decide (x18 < x19)))] pz ?_
    refine C h (fun h => ?_) fun h => ?_
    · refine W_skip (W_block (W_seq ?_))
      obtain ⟨o1, h⟩ := h.ass
      refine R1 h [] (fun x20 => [(2, .box 0 T_r01_Nat p0), (3, .box 0 T_r01_Nat p1), (4, .box 9 T_r01_Nat ([] : List Int)), (5, .box 9 T_r01_Nat ([] : List Int)), (6, .v 9 (.slice (.int .i64)) x6), (7, .box 0 T_r01_Nat y12), (8, .v 0 (.int .i64) x8), (9, .v 0 (.int .i64) x18), (10, .v 0 (.int .i64) x19), (11, .v 0 (.int .i64) x20)]) (ps o1) fun x20 h => ?_
      refine W_seq ?_
      obtain ⟨y21, ey21, h⟩ := h.bind
      obtain ⟨y22, ey22, h⟩ := h.bind
      obtain ⟨y23, ey23, h⟩ := h.bind
      refine R [.res [(0, ⟨0, T_r01_Nat, y21⟩)], .res [(0, ⟨0, T_r01_Nat, y22⟩)], .res [(0, ⟨0, .int .i64, y23⟩)]] [(2, .box 0 T_r01_Nat p0), (3, .box 0 T_r01_Nat p1), (4, .box 9 T_r01_Nat ([] : List Int)), (5, .box 9 T_r01_Nat ([] : List Int)), (6, .v 9 (.slice (.int .i64)) x6), (7, .box 0 T_r01_Nat y12), (8, .v 0 (.int .i64) x8), (9, .v 0 (.int .i64) x18), (10, .v 0 (.int .i64) x19), (11, .v 0 (.int .i64) x20), (50, .v 0 .bool (decide (y23 ≤ 0)))] (pc (r01_Of.ok ey21) (pc (r01_Mul.ok ey22) (ps (r01_Cmp.ok ey23)))) ?_
      refine C h (fun h => ?_) fun h => ?_
      · refine R [] [(2, .box 0 T_r01_Nat p0), (3, .box 0 T_r01_Nat p1), (4, .box 9 T_r01_Nat ([] : List Int)), (5, .box 9 T_r01_Nat ([] : List Int)), (6, .v 9 (.slice (.int .i64)) x6), (7, .box 0 T_r01_Nat y12), (8, .v 0 (.int .i64) x8), (9, .v 0 (.int .i64) x20), (10, .v 0 (.int .i64) x19)] pz ?_
        refine W_blk ?_
        exact B h
      refine R1 h [] (fun x24 => [(2, .box 0 T_r01_Nat p0), (3, .box 0 T_r01_Nat p1), (4, .box 9 T_r01_Nat ([] : List Int)), (5, .box 9 T_r01_Nat ([] : List Int)), (6, .v 9 (.slice (.int .i64)) x6), (7, .box 0 T_r01_Nat y12), (8, .v 0 (.int .i64) x8), (9, .v 0 (.int .i64) x18), (10, .v 0 (.int .i64) x24)]) pz fun x24 h => ?_
      refine W_blk ?_
      exact B h
    refine W_exit rfl ?_
    exact K (j3 x18 h.back)
  refine W_exit rfl ?_
  exact K (j1 x6 x7 h.back)

def r03_Gcd_j1 (x1 : D_r01_Nat) : Option (D_r01_Nat) :=
  some x1
def r03_Gcd_b1 (x2 : D_r01_Nat) (x3 : D_r01_Nat) : Option ((D_r01_Nat × D_r01_Nat) ⊕ D_r01_Nat) :=
  bif decide ((x3.length : Int) > 0) then
    (r01_Div x2 x3).bind fun y4 =>
    some (.inl (x3, y4.2))
  else
  (r03_Gcd_j1 x2).map .inr
def r03_Gcd (p0 : D_r01_Nat) (p1 : D_r01_Nat) : Option D_r01_Nat :=
  loopM (fun x : D_r01_Nat × D_r01_Nat => r03_Gcd_b1 x.1 x.2) (p0, p1)
theorem r03_Gcd.ok {p0 : D_r01_Nat} {p1 : D_r01_Nat} {r : D_r01_Nat} (h : r03_Gcd p0 p1 = some r) : ACall prog 98 [⟨T_r01_Nat, p0⟩, ⟨T_r01_Nat, p1⟩] [⟨0, T_r01_Nat, r⟩] := by
  replace h := Leads.of h
  unfold r03_Gcd at h
  refine AC func98 rfl fun w0 F0 hw0 => ?_
  refine W_seq ?_
  refine R [] [(2, .box 0 T_r01_Nat p0), (3, .box 0 T_r01_Nat p1), (4, .box 9 T_r01_Nat ([] : List Int))] pz ?_
  refine W_seq ?_
  refine J1 h r03_Gcd_j1 (fun x1 => [(2, .box 0 T_r01_Nat x1), (4, .box 9 T_r01_Nat ([] : List Int))]) (fun x1 h => ?_) fun j1 => ?_
  · unfold r03_Gcd_j1 at h
    refine W_seq ?_
    refine R [] [(4, .box 0 T_r01_Nat x1)] pz ?_
    cases h
    exact Rt hw0
  refine W_block ?_
  refine L2 h (fun x2 x3 => [(2, .box 0 T_r01_Nat x2), (3, .box 0 T_r01_Nat x3), (4, .box 9 T_r01_Nat ([] : List Int))]) fun x2 x3 _ h => ?_
  unfold r03_Gcd_b1 at h
  refine W_seq (W_seq ?_)
  refine R [] [(2, .box 0 T_r01_Nat x2), (3, .box 0 T_r01_Nat x3), (4, .box 9 T_r01_Nat ([] : List Int)), (10, .v 0 .bool (decide ((x3.length : Int) > 0)))] pz ?_
  refine C h (fun h => ?_) fun h => ?_
  · refine W_skip (W_block (W_seq ?_))
    obtain ⟨y4, ey4, h⟩ := h.bind
    refine R [.res [(0, ⟨0, T_r01_Nat, y4.1⟩), (0, ⟨0, T_r01_Nat, y4.2⟩)]] [(2, .box 0 T_r01_Nat x2), (3, .box 0 T_r01_Nat x3), (4, .box 9 T_r01_Nat ([] : List Int)), (6, .box 0 T_r01_Nat y4.2)] (ps (r01_Div.ok ey4)) ?_
    refine W_seq ?_
    refine R [] [(2, .box 0 T_r01_Nat x3), (3, .box 0 T_r01_Nat x3), (4, .box 9 T_r01_Nat ([] : List Int)), (6, .box 0 T_r01_Nat y4.2)] pz ?_
    refine R [] [(2, .box 0 T_r01_Nat x3), (3, .box 0 T_r01_Nat y4.2), (4, .box 9 T_r01_Nat ([] : List Int))] pz ?_
    refine W_blk ?_
    exact B h
  refine W_exit rfl ?_
  exact K (j1 x2 h.back)

def r04_Low (p0 : D_r04_Q) : Option D_r04_Q :=
  bnd ((([] : List Int), ([] : List Int))) fun x1 =>
  (r03_Gcd p0.1 p0.2).bind fun y2 =>
  (r01_Div p0.1 y2).bind fun y3 =>
  (r01_Div p0.2 y2).bind fun y4 =>
  bnd ((y3.1, y4.1)) fun x5 =>
  some x5
theorem r04_Low.ok {p0 : D_r04_Q} {r : D_r04_Q} (h : r04_Low p0 = some r) : ACall prog 62 [⟨T_r04_Q, p0⟩] [⟨0, T_r04_Q, r⟩] := by
  replace h := Leads.of h
  unfold r04_Low at h
  refine AC func62 rfl fun w0 F0 hw0 => ?_
  refine W_seq ?_
  refine R1 h [] (fun x1 => [(1, .box 0 T_r04_Q p0), (2, .box 9 T_r04_Q x1)]) pz fun x1 h => ?_
  refine W_seq ?_
  obtain ⟨y2, ey2, h⟩ := h.bind
  refine R [.res [(0, ⟨0, T_r01_Nat, y2⟩)]] [(1, .box 0 T_r04_Q p0), (2, .box 9 T_r04_Q x1), (3, .box 0 T_r01_Nat y2)] (ps (r03_Gcd.ok ey2)) ?_
  refine W_seq ?_
  obtain ⟨y3, ey3, h⟩ := h.bind
  refine R [.res [(0, ⟨0, T_r01_Nat, y3.1⟩), (0, ⟨0, T_r01_Nat, y3.2⟩)]] [(1, .box 0 T_r04_Q p0), (2, .box 9 T_r04_Q x1), (3, .box 0 T_r01_Nat y2), (4, .box 0 T_r01_Nat y3.1)] (ps (r01_Div.ok ey3)) ?_
  refine W_seq ?_
  obtain ⟨y4, ey4, h⟩ := h.bind
  refine R [.res [(0, ⟨0, T_r01_Nat, y4.1⟩), (0, ⟨0, T_r01_Nat, y4.2⟩)]] [(2, .box 9 T_r04_Q x1), (4, .box 0 T_r01_Nat y3.1), (6, .box 0 T_r01_Nat y4.1)] (ps (r01_Div.ok ey4)) ?_
  refine W_seq ?_
  refine R1 h [] (fun x5 => [(2, .box 0 T_r04_Q x5)]) pz fun x5 h => ?_
  cases h
  exact Rt hw0

def r04_Of (p0 : Int) (p1 : Int) : Option D_r04_Q :=
  bnd ((([] : List Int), ([] : List Int))) fun x1 =>
  (r01_Of p0).bind fun y2 =>
  (r01_Of p1).bind fun y3 =>
  (r04_Low (y2, y3)).bind fun y4 =>
  some y4
theorem r04_Of.ok {p0 : Int} {p1 : Int} {r : D_r04_Q} (h : r04_Of p0 p1 = some r) : ACall prog 13 [⟨.int .u64, p0⟩, ⟨.int .u64, p1⟩] [⟨0, T_r04_Q, r⟩] := by
  replace h := Leads.of h
  unfold r04_Of at h
  refine AC func13 rfl fun w0 F0 hw0 => ?_
  refine W_seq ?_
  refine R1 h [] (fun x1 => [(0, .v 0 (.int .u64) p0), (1, .v 0 (.int .u64) p1), (4, .box 9 T_r04_Q x1)]) pz fun x1 h => ?_
  refine W_seq ?_
  obtain ⟨y2, ey2, h⟩ := h.bind
  obtain ⟨y3, ey3, h⟩ := h.bind
  obtain ⟨y4, ey4, h⟩ := h.bind
  refine R [.res [(0, ⟨0, T_r01_Nat, y2⟩)], .res [(0, ⟨0, T_r01_Nat, y3⟩)], .res [(0, ⟨0, T_r04_Q, y4⟩)]] [(4, .box 0 T_r04_Q y4)] (pc (r01_Of.ok ey2) (pc (r01_Of.ok ey3) (ps (r04_Low.ok ey4)))) ?_
  cases h
  exact Rt hw0

def slices_Clone_api_Nat_uint32 (p0 : List Int) : Option (List Int) :=
  ass (((([] : List Int).length + p0.length : Nat) : Int) ≤ limA) <|
  bnd (([] : List Int) ++ p0) fun x2 =>
  some x2
theorem slices_Clone_api_Nat_uint32.ok {p0 : List Int} {r : List Int} (h : slices_Clone_api_Nat_uint32 p0 = some r) : ACall prog 152 [⟨.slice (.int .u32), p0⟩] [⟨9, .slice (.int .u32), r⟩] := by
  replace h := Leads.of h
  unfold slices_Clone_api_Nat_uint32 at h
  refine AC func152 rfl fun w0 F0 hw0 => ?_
  refine W_seq ?_
  refine R [] [(0, .v 0 (.slice (.int .u32)) p0)] pz ?_
  refine W_seq (W_seq ?_)
  refine W_nilcmp mixed tys_ok rfl (x := 3) (d := 4) (T := 43) rfl rfl rfl (E1 := [(3, .v 0 (.slice (.int .u32)) p0), (0, .v 0 (.slice (.int .u32)) p0)]) (by kernel_rfl) rfl rfl (by kernel_rfl) (fun nb1 hn => ?_)
  refine K (E' := [(0, .v 0 (.slice (.int .u32)) p0), (4, .v 0 .bool nb1)]) ?_
  refine W_cond (β := nb1) (by kernel_rfl) (fun hb => ?_) (fun hb => ?_)
  · replace h := clone_nil (hn hb) h
    refine W_seq ?_
    refine R [] [(2, .v 9 (.slice (.int .u32)) ([] : List Int))] pz ?_
    cases h
    exact Rt hw0
  · skip
    refine W_skip (W_seq ?_)
    obtain ⟨o1, h⟩ := h.ass
    refine R1 h [] (fun x2 => [(2, .v 9 (.slice (.int .u32)) x2)]) (ps o1) fun x2 h => ?_
    cases h
    exact Rt hw0

def nat_Cut_j1 (p0 : List Int) (x1 : Int) : Option (List Int) :=
  ass (0 ≤ (0 : Int) ∧ (0 : Int) ≤ x1 ∧ x1 ≤ (p0.length : Int)) <|
  (slices_Clone_api_Nat_uint32 (sl p0 (0 : Int) x1)).bind fun y2 =>
  some y2
def nat_Cut_b1 (p0 : List Int) (x3 : Int) : Option (Int ⊕ (List Int)) :=
  ass ((decide (x3 > 0)) = true → 0 ≤ i64.wrap (x3 - 1) ∧ i64.wrap (x3 - 1) < (p0.length : Int)) <|
  bif (decide (x3 > 0)) && ((rd (0 : Int) p0 (i64.wrap (x3 - 1))) == 0) then
    bnd (i64.wrap (x3 - 1)) fun x4 =>
    some (.inl x4)
  else
  (nat_Cut_j1 p0 x3).map .inr
def nat_Cut (p0 : List Int) : Option (List Int) :=
  loopM (fun x : Int => nat_Cut_b1 p0 x) (p0.length : Int)
theorem nat_Cut.ok {p0 : List Int} {r : List Int} (h : nat_Cut p0 = some r) : ACall prog 124 [⟨.slice (.int .u32), p0⟩] [⟨9, .slice (.int .u32), r⟩] := by
  replace h := Leads.of h
  unfold nat_Cut at h
  refine AC func124 rfl fun w0 F0 hw0 => ?_
  refine W_seq ?_
  refine R [] [(0, .v 0 (.slice (.int .u32)) p0)] pz ?_
  refine W_seq ?_
  refine R [] [(0, .v 0 (.slice (.int .u32)) p0), (3, .v 0 (.int .i64) (p0.length : Int))] pz ?_
  refine W_seq ?_
  refine J1 h (nat_Cut_j1 p0) (fun x1 => [(0, .v 0 (.slice (.int .u32)) p0), (3, .v 0 (.int .i64) x1)]) (fun x1 h => ?_) fun j1 => ?_
  · unfold nat_Cut_j1 at h
    refine W_seq ?_
    obtain ⟨o1, h⟩ := h.ass
    obtain ⟨y2, ey2, h⟩ := h.bind
    refine R [.res [(9, ⟨9, .slice (.int .u32), y2⟩)]] [(2, .v 9 (.slice (.int .u32)) y2)] (pc o1 (ps (slices_Clone_api_Nat_uint32.ok ey2))) ?_
    cases h
    exact Rt hw0
  refine W_block ?_
  refine L1 h (fun x3 => [(0, .v 0 (.slice (.int .u32)) p0), (3, .v 0 (.int .i64) x3)]) fun x3 _ h => ?_
  unfold nat_Cut_b1 at h
  refine W_seq (W_seq ?_)
  obtain ⟨o1, h⟩ := h.ass
  refine R [] [(0, .v 0 (.slice (.int .u32)) p0), (3, .v 0 (.int .i64) x3), (15, .v 0 .bool ((decide (x3 > 0)) && ((rd (0 : Int) p0 (i64.wrap (x3 - 1))) == 0)))] (ps o1) ?_
  refine C h (fun h => ?_) fun h => ?_
  · refine W_skip (W_block ?_)
    refine R1 h [] (fun x4 => [(0, .v 0 (.slice (.int .u32)) p0), (3, .v 0 (.int .i64) x4)]) pz fun x4 h => ?_
    refine W_blk ?_
    exact B h
  refine W_exit rfl ?_
  exact K (j1 x3 h.back)

def nat_Of (p0 : Int) : Option (List Int) :=
  ass (0 ≤ (32 : Int)) <|
  (nat_Cut [u32.wrap p0, u32.wrap (p0.fdiv (2 ^ (min (32 : Int).toNat u64.bits)))]).bind fun y1 =>
  some y1
theorem nat_Of.ok {p0 : Int} {r : List Int} (h : nat_Of p0 = some r) : ACall prog 89 [⟨.int .u64, p0⟩] [⟨9, .slice (.int .u32), r⟩] := by
  replace h := Leads.of h
  unfold nat_Of at h
  refine AC func89 rfl fun w0 F0 hw0 => ?_
  refine W_seq ?_
  refine R [] [(0, .v 0 (.int .u64) p0)] pz ?_
  refine W_seq ?_
  obtain ⟨o1, h⟩ := h.ass
  obtain ⟨y1, ey1, h⟩ := h.bind
  refine R [.res [(9, ⟨9, .slice (.int .u32), y1⟩)]] [(2, .v 9 (.slice (.int .u32)) y1)] (pc o1 (ps (nat_Cut.ok ey1))) ?_
  cases h
  exact Rt hw0

def ratio_Zero : Option D_api_Ratio :=
  bnd ((([] : List Int), ([] : List Int))) fun x1 =>
  (nat_Of (1 : Int)).bind fun y2 =>
  bnd ((([] : List Int), y2)) fun x3 =>
  some x3
theorem ratio_Zero.ok {r : D_api_Ratio} (h : ratio_Zero = some r) : ACall prog 44 [] [⟨0, T_api_Ratio, r⟩] := by
  replace h := Leads.of h
  unfold ratio_Zero at h
  refine AC func44 rfl fun w0 F0 hw0 => ?_
  refine W_seq ?_
  refine R1 h [] (fun x1 => [(0, .box 9 T_api_Ratio x1)]) pz fun x1 h => ?_
  refine W_seq ?_
  obtain ⟨y2, ey2, h⟩ := h.bind
  refine R1 h [.res [(0, ⟨9, .slice (.int .u32), y2⟩)]] (fun x3 => [(0, .box 0 T_api_Ratio x3)]) (ps (nat_Of.ok ey2)) fun x3 h => ?_
  cases h
  exact Rt hw0

def nat_at (p0 : List Int) (p1 : Int) : Option Int :=
  bif decide (p1 < (p0.length : Int)) then
    ass (0 ≤ p1 ∧ p1 < (p0.length : Int)) <|
    bnd (rd (0 : Int) p0 p1) fun x1 =>
    some x1
  else
  some (0 : Int)
theorem nat_at.ok {p0 : List Int} {p1 : Int} {r : Int} (h : nat_at p0 p1 = some r) : ACall prog 151 [⟨.slice (.int .u32), p0⟩, ⟨.int .i64, p1⟩] [⟨0, .int .u32, r⟩] := by
  replace h := Leads.of h
  unfold nat_at at h
  refine AC func151 rfl fun w0 F0 hw0 => ?_
  refine W_seq ?_
  refine R [] [(0, .v 0 (.slice (.int .u32)) p0), (1, .v 0 (.int .i64) p1)] pz ?_
  refine W_seq (W_seq ?_)
  refine R [] [(0, .v 0 (.slice (.int .u32)) p0), (1, .v 0 (.int .i64) p1), (8, .v 0 .bool (decide (p1 < (p0.length : Int))))] pz ?_
  refine C h (fun h => ?_) fun h => ?_
  · refine W_seq ?_
    obtain ⟨o1, h⟩ := h.ass
    refine R1 h [] (fun x1 => [(4, .v 0 (.int .u32) x1)]) (ps o1) fun x1 h => ?_
    cases h
    exact Rt hw0
  refine W_skip (W_seq ?_)
  refine R [] [(4, .v 0 (.int .u32) (0 : Int))] pz ?_
  cases h
  exact Rt hw0

def cmp_isNaN_uint32 (p0 : Int) : Option Bool :=
  bnd (p0 != p0) fun x1 =>
  some x1
theorem cmp_isNaN_uint32.ok {p0 : Int} {r : Bool} (h : cmp_isNaN_uint32 p0 = some r) : ACall prog 167 [⟨.int .u32, p0⟩] [⟨0, .bool, r⟩] := by
  replace h := Leads.of h
  unfold cmp_isNaN_uint32 at h
  refine AC func167 rfl fun w0 F0 hw0 => ?_
  refine W_seq ?_
  refine R [] [(0, .v 0 (.int .u32) p0)] pz ?_
  refine W_seq ?_
  refine R1 h [] (fun x1 => [(2, .v 0 .bool x1)]) pz fun x1 h => ?_
  cases h
  exact Rt hw0

def cmp_Compare_uint32 (p0 : Int) (p1 : Int) : Option Int :=
  (cmp_isNaN_uint32 p0).bind fun y1 =>
  (cmp_isNaN_uint32 p1).bind fun y2 =>
  bif y1 then
    bif y2 then
      some (0 : Int)
    else
    some (-1 : Int)
  else
  bif y2 then
    some (1 : Int)
  else
  bif decide (p0 < p1) then
    some (-1 : Int)
  else
  bif decide (p0 > p1) then
    some (1 : Int)
  else
  some (0 : Int)
theorem cmp_Compare_uint32.ok {p0 : Int} {p1 : Int} {r : Int} (h : cmp_Compare_uint32 p0 p1 = some r) : ACall prog 150 [⟨.int .u32, p0⟩, ⟨.int .u32, p1⟩] [⟨0, .int .i64, r⟩] := by
  replace h := Leads.of h
  unfold cmp_Compare_uint32 at h
  refine AC func150 rfl fun w0 F0 hw0 => ?_
  refine W_seq ?_
  refine R [] [(0, .v 0 (.int .u32) p0), (1, .v 0 (.int .u32) p1)] pz ?_
  refine W_seq ?_
  obtain ⟨y1, ey1, h⟩ := h.bind
  refine R [.res [(0, ⟨0, .bool, y1⟩)]] [(0, .v 0 (.int .u32) p0), (1, .v 0 (.int .u32) p1), (5, .v 0 .bool y1)] (ps (cmp_isNaN_uint32.ok ey1)) ?_
  refine W_seq ?_
  obtain ⟨y2, ey2, h⟩ := h.bind
  refine R [.res [(0, ⟨0, .bool, y2⟩)]] [(0, .v 0 (.int .u32) p0), (1, .v 0 (.int .u32) p1), (5, .v 0 .bool y1), (6, .v 0 .bool y2)] (ps (cmp_isNaN_uint32.ok ey2)) ?_
  refine W_seq (W_seq ?_)
  refine R [] [(0, .v 0 (.int .u32) p0), (1, .v 0 (.int .u32) p1), (6, .v 0 .bool y2), (11, .v 0 .bool y1)] pz ?_
  refine C h (fun h => ?_) fun h => ?_
  · refine W_seq (W_seq ?_)
    refine R [] [(12, .v 0 .bool y2)] pz ?_
    refine C h (fun h => ?_) fun h => ?_
    · refine W_seq ?_
      refine R [] [(4, .v 0 (.int .i64) (0 : Int))] pz ?_
      cases h
      exact Rt hw0
    refine W_skip (W_seq ?_)
    refine R [] [(4, .v 0 (.int .i64) (-1 : Int))] pz ?_
    cases h
    exact Rt hw0
  refine W_skip (W_seq (W_seq ?_))
  refine R [] [(0, .v 0 (.int .u32) p0), (1, .v 0 (.int .u32) p1), (13, .v 0 .bool y2)] pz ?_
  refine C h (fun h => ?_) fun h => ?_
  · refine W_seq ?_
    refine R [] [(4, .v 0 (.int .i64) (1 : Int))] pz ?_
    cases h
    exact Rt hw0
  refine W_skip (W_seq (W_seq ?_))
  refine R [] [(0, .v 0 (.int .u32) p0), (1, .v 0 (.int .u32) p1), (16, .v 0 .bool (decide (p0 < p1)))] pz ?_
  refine C h (fun h => ?_) fun h => ?_
  · refine W_seq ?_
    refine R [] [(4, .v 0 (.int .i64) (-1 : Int))] pz ?_
    cases h
    exact Rt hw0
  refine W_skip (W_seq (W_seq ?_))
  refine R [] [(19, .v 0 .bool (decide (p0 > p1)))] pz ?_
  refine C h (fun h => ?_) fun h => ?_
  · refine W_seq ?_
    refine R [] [(4, .v 0 (.int .i64) (1 : Int))] pz ?_
    cases h
    exact Rt hw0
  refine W_skip (W_seq ?_)
  refine R [] [(4, .v 0 (.int .i64) (0 : Int))] pz ?_
  cases h
  exact Rt hw0

def nat_Cmp_j1 : Option (Int) :=
  some (0 : Int)
def nat_Cmp_b1 (p0 : List Int) (p1 : List Int) (x2 : Int) : Option (Int ⊕ Int) :=
  bif decide (x2 ≥ 0) then
    (nat_at p0 x2).bind fun y3 =>
    (nat_at p1 x2).bind fun y4 =>
    (cmp_Compare_uint32 y3 y4).bind fun y5 =>
    bif y5 != 0 then
      some (.inr y5)
    else
    bnd (i64.wrap (x2 - 1)) fun x6 =>
    some (.inl x6)
  else
  (nat_Cmp_j1).map .inr
def nat_Cmp (p0 : List Int) (p1 : List Int) : Option Int :=
  bnd (i64.wrap ((if (p1.length : Int) > (p0.length : Int) then (p1.length : Int) else (p0.length : Int)) - 1)) fun x1 =>
  loopM (fun x : Int => nat_Cmp_b1 p0 p1 x) x1
theorem nat_Cmp.ok {p0 : List Int} {p1 : List Int} {r : Int} (h : nat_Cmp p0 p1 = some r) : ACall prog 122 [⟨.slice (.int .u32), p0⟩, ⟨.slice (.int .u32), p1⟩] [⟨0, .int .i64, r⟩] := by
  replace h := Leads.of h
  unfold nat_Cmp at h
  refine AC func122 rfl fun w0 F0 hw0 => ?_
  refine W_seq ?_
  refine R [] [(0, .v 0 (.slice (.int .u32)) p0), (1, .v 0 (.slice (.int .u32)) p1)] pz ?_
  refine W_seq (W_seq ?_)
  refine R1 h [] (fun x1 => [(0, .v 0 (.slice (.int .u32)) p0), (1, .v 0 (.slice (.int .u32)) p1), (5, .v 0 (.int .i64) x1)]) pz fun x1 h => ?_
  refine J0 h nat_Cmp_j1 ([]) (fun h => ?_) fun j1 => ?_
  · unfold nat_Cmp_j1 at h
    refine W_seq ?_
    refine R [] [(4, .v 0 (.int .i64) (0 : Int))] pz ?_
    cases h
    exact Rt hw0
  refine W_block ?_
  refine L1 h (fun x2 => [(0, .v 0 (.slice (.int .u32)) p0), (1, .v 0 (.slice (.int .u32)) p1), (5, .v 0 (.int .i64) x2)]) fun x2 _ h => ?_
  unfold nat_Cmp_b1 at h
  refine W_seq (W_seq ?_)
  refine R [] [(0, .v 0 (.slice (.int .u32)) p0), (1, .v 0 (.slice (.int .u32)) p1), (5, .v 0 (.int .i64) x2), (14, .v 0 .bool (decide (x2 ≥ 0)))] pz ?_
  refine C h (fun h => ?_) fun h => ?_
  · refine W_skip (W_seq (W_block (W_seq ?_)))
    obtain ⟨y3, ey3, h⟩ := h.bind
    obtain ⟨y4, ey4, h⟩ := h.bind
    obtain ⟨y5, ey5, h⟩ := h.bind
    refine R [.res [(0, ⟨0, .int .u32, y3⟩)], .res [(0, ⟨0, .int .u32, y4⟩)], .res [(0, ⟨0, .int .i64, y5⟩)]] [(0, .v 0 (.slice (.int .u32)) p0), (1, .v 0 (.slice (.int .u32)) p1), (5, .v 0 (.int .i64) x2), (6, .v 0 (.int .i64) y5)] (pc (nat_at.ok ey3) (pc (nat_at.ok ey4) (ps (cmp_Compare_uint32.ok ey5)))) ?_
    refine W_seq ?_
    refine R [] [(0, .v 0 (.slice (.int .u32)) p0), (1, .v 0 (.slice (.int .u32)) p1), (5, .v 0 (.int .i64) x2), (6, .v 0 (.int .i64) y5), (25, .v 0 .bool (y5 != 0))] pz ?_
    refine C h (fun h => ?_) fun h => ?_
    · refine W_seq ?_
      refine R [] [(4, .v 0 (.int .i64) y5)] pz ?_
      cases h
      exact Rt hw0
    refine W_skip (W_blk ?_)
    refine R1 h [] (fun x6 => [(0, .v 0 (.slice (.int .u32)) p0), (1, .v 0 (.slice (.int .u32)) p1), (5, .v 0 (.int .i64) x6)]) pz fun x6 h => ?_
    exact B h
  refine W_exit rfl ?_
  exact K (j1 h.back)

def nat_short_j1 (x3 : List Int) (x4 : Int) : Option ((List Int) × Int) :=
  (nat_Cut x3).bind fun y5 =>
  bnd (u32.wrap x4) fun x6 =>
  some (y5, x6)
def nat_short_b1 (p0 : List Int) (p1 : Int) (x7 : List Int) (x8 : Int) (x9 : Int) : Option (((List Int) × Int × Int) ⊕ ((List Int) × Int)) :=
  bif decide (x9 ≥ 0) then
    ass (0 ≤ (32 : Int)) <|
    ass (0 ≤ x9 ∧ x9 < (p0.length : Int)) <|
    bnd (u64.wrap ((BitVec.ofInt u64.bits (u64.wrap (x8 * 2 ^ (min (32 : Int).toNat u64.bits))) ||| BitVec.ofInt u64.bits (u64.wrap (rd (0 : Int) p0 x9))).toNat : Int)) fun x10 =>
    ass ((u64.wrap p1) ≠ 0) <|
    ass (0 ≤ x9 ∧ x9 < (x7.length : Int)) <|
    bnd (wr x7 x9 (u32.wrap (u64.wrap (x10.tdiv (u64.wrap p1))))) fun x11 =>
    ass ((u64.wrap p1) ≠ 0) <|
    bnd (x10.tmod (u64.wrap p1)) fun x12 =>
    bnd (i64.wrap (x9 - 1)) fun x13 =>
    some (.inl (x11, x12, x13))
  else
  (nat_short_j1 x7 x8).map .inr
def nat_short (p0 : List Int) (p1 : Int) : Option ((List Int) × Int) :=
  ass (0 ≤ (p0.length : Int) ∧ (p0.length : Int) ≤ (p0.length : Int) ∧ (p0.length : Int) ≤ lim) <|
  bnd (List.replicate (p0.length : Int).toNat (0 : Int)) fun x1 =>
  bnd (i64.wrap ((p0.length : Int) - 1)) fun x2 =>
  loopM (fun x : (List Int) × Int × Int => nat_short_b1 p0 p1 x.1 x.2.1 x.2.2) (x1, (0 : Int), x2)
theorem nat_short.ok {p0 : List Int} {p1 : Int} {r : (List Int) × Int} (h : nat_short p0 p1 = some r) : ACall prog 129 [⟨.slice (.int .u32), p0⟩, ⟨.int .u32, p1⟩] [⟨9, .slice (.int .u32), r.1⟩, ⟨0, .int .u32, r.2⟩] := by
  replace h := Leads.of h
  unfold nat_short at h
  refine AC func129 rfl fun w0 F0 hw0 => ?_
  refine W_seq ?_
  refine R [] [(0, .v 0 (.slice (.int .u32)) p0), (1, .v 0 (.int .u32) p1)] pz ?_
  refine W_seq ?_
  obtain ⟨o1, h⟩ := h.ass
  refine R1 h [] (fun x1 => [(0, .v 0 (.slice (.int .u32)) p0), (1, .v 0 (.int .u32) p1), (6, .v 9 (.slice (.int .u32)) x1)]) (ps o1) fun x1 h => ?_
  refine W_seq ?_
  refine R [] [(0, .v 0 (.slice (.int .u32)) p0), (1, .v 0 (.int .u32) p1), (6, .v 9 (.slice (.int .u32)) x1), (7, .v 0 (.int .u64) (0 : Int))] pz ?_
  refine W_seq (W_seq ?_)
  refine R1 h [] (fun x2 => [(0, .v 0 (.slice (.int .u32)) p0), (1, .v 0 (.int .u32) p1), (6, .v 9 (.slice (.int .u32)) x1), (7, .v 0 (.int .u64) (0 : Int)), (8, .v 0 (.int .i64) x2)]) pz fun x2 h => ?_
  refine J2 h nat_short_j1 (fun x3 x4 => [(6, .v 9 (.slice (.int .u32)) x3), (7, .v 0 (.int .u64) x4)]) (fun x3 x4 h => ?_) fun j1 => ?_
  · unfold nat_short_j1 at h
    refine W_seq ?_
    obtain ⟨y5, ey5, h⟩ := h.bind
    refine R1 h [.res [(9, ⟨9, .slice (.int .u32), y5⟩)]] (fun x6 => [(4, .v 9 (.slice (.int .u32)) y5), (5, .v 0 (.int .u32) x6)]) (ps (nat_Cut.ok ey5)) fun x6 h => ?_
    cases h
    exact Rt hw0
  refine W_block ?_
  refine L3 h (fun x7 x8 x9 => [(0, .v 0 (.slice (.int .u32)) p0), (1, .v 0 (.int .u32) p1), (6, .v 9 (.slice (.int .u32)) x7), (7, .v 0 (.int .u64) x8), (8, .v 0 (.int .i64) x9)]) fun x7 x8 x9 _ h => ?_
  unfold nat_short_b1 at h
  refine W_seq (W_seq ?_)
  refine R [] [(0, .v 0 (.slice (.int .u32)) p0), (1, .v 0 (.int .u32) p1), (6, .v 9 (.slice (.int .u32)) x7), (7, .v 0 (.int .u64) x8), (8, .v 0 (.int .i64) x9), (16, .v 0 .bool (decide (x9 ≥ 0)))] pz ?_
  refine C h (fun h => ?_) fun h => ?_
  · refine W_skip (W_seq (W_block (W_seq ?_)))
    obtain ⟨o1, h⟩ := h.ass
    obtain ⟨o2, h⟩ := h.ass
    refine R1 h [] (fun x10 => [(0, .v 0 (.slice (.int .u32)) p0), (1, .v 0 (.int .u32) p1), (6, .v 9 (.slice (.int .u32)) x7), (7, .v 0 (.int .u64) x10), (8, .v 0 (.int .i64) x9)]) (pc o1 (ps o2)) fun x10 h => ?_
    refine W_seq ?_
    obtain ⟨o1, h⟩ := h.ass
    obtain ⟨o2, h⟩ := h.ass
    refine R1 h [] (fun x11 => [(0, .v 0 (.slice (.int .u32)) p0), (1, .v 0 (.int .u32) p1), (6, .v 9 (.slice (.int .u32)) x11), (7, .v 0 (.int .u64) x10), (8, .v 0 (.int .i64) x9)]) (pc o1 (ps o2)) fun x11 h => ?_
    obtain ⟨o1, h⟩ := h.ass
    refine R1 h [] (fun x12 => [(0, .v 0 (.slice (.int .u32)) p0), (1, .v 0 (.int .u32) p1), (6, .v 9 (.slice (.int .u32)) x11), (7, .v 0 (.int .u64) x12), (8, .v 0 (.int .i64) x9)]) (ps o1) fun x12 h => ?_
    refine W_blk ?_
    refine R1 h [] (fun x13 => [(0, .v 0 (.slice (.int .u32)) p0), (1, .v 0 (.int .u32) p1), (6, .v 9 (.slice (.int .u32)) x11), (7, .v 0 (.int .u64) x12), (8, .v 0 (.int .i64) x13)]) pz fun x13 h => ?_
    exact B h
  refine W_exit rfl ?_
  exact K (j1 x7 x8 h.back)

def math_bits_Len32 (p0 : Int) : Option Int := ass (0 ≤ p0 ∧ p0 ≤ 4294967295) <| some (Lib.bitLen p0.toNat : Int)
theorem math_bits_Len32.ok {p0 : Int} {r : Int} (h : math_bits_Len32 p0 = some r) : ACall prog 154 [⟨.int .u32, p0⟩] [⟨0, .int .i64, r⟩] := by
  replace h := Leads.of h
  unfold math_bits_Len32 at h
  obtain ⟨o1, h⟩ := h.ass
  replace h : (Lib.bitLen p0.toNat : Int) = r := h
  subst h
  exact acall_int1 func154 (by kernel_rfl) (by kernel_rfl) fun w => Go.Proofs.Tryz.bits_Len32 p0 w o1.1 o1.2

def math_bits_LeadingZeros32 (p0 : Int) : Option Int :=
  (math_bits_Len32 p0).bind fun y1 =>
  bnd (i64.wrap (32 - y1)) fun x2 =>
  some x2
theorem math_bits_LeadingZeros32.ok {p0 : Int} {r : Int} (h : math_bits_LeadingZeros32 p0 = some r) : ACall prog 130 [⟨.int .u32, p0⟩] [⟨0, .int .i64, r⟩] := by
  replace h := Leads.of h
  unfold math_bits_LeadingZeros32 at h
  refine AC func130 rfl fun w0 F0 hw0 => ?_
  refine W_seq ?_
  refine R [] [(0, .v 0 (.int .u32) p0)] pz ?_
  refine W_seq ?_
  obtain ⟨y1, ey1, h⟩ := h.bind
  refine R1 h [.res [(0, ⟨0, .int .i64, y1⟩)]] (fun x2 => [(2, .v 0 (.int .i64) x2)]) (ps (math_bits_Len32.ok ey1)) fun x2 h => ?_
  cases h
  exact Rt hw0

def nat_shifted_j1 (x2 : List Int) : Option (List Int) :=
  some x2
def nat_shifted_b1 (p0 : List Int) (p1 : Int) (x1 : List Int) (x3 : List Int) (x4 : Int) (x5 : Int) : Option (((List Int) × Int × Int) ⊕ (List Int)) :=
  bif decide (x5 < (x1.length : Int)) then
    (nat_at p0 x5).bind fun y6 =>
    ass (0 ≤ p1) <|
    bnd (u64.wrap ((BitVec.ofInt u64.bits x4 ||| BitVec.ofInt u64.bits (u64.wrap ((u64.wrap y6) * 2 ^ (min p1.toNat u64.bits)))).toNat : Int)) fun x7 =>
    ass (0 ≤ x5 ∧ x5 < (x3.length : Int)) <|
    bnd (wr x3 x5 (u32.wrap x7)) fun x8 =>
    ass (0 ≤ (32 : Int)) <|
    bnd (x7.fdiv (2 ^ (min (32 : Int).toNat u64.bits))) fun x9 =>
    bnd (i64.wrap (x5 + 1)) fun x10 =>
    some (.inl (x8, x9, x10))
  else
  (nat_shifted_j1 x3).map .inr
def nat_shifted (p0 : List Int) (p1 : Int) : Option (List Int) :=
  ass (0 ≤ i64.wrap ((p0.length : Int) + 1) ∧ i64.wrap ((p0.length : Int) + 1) ≤ i64.wrap ((p0.length : Int) + 1) ∧ i64.wrap ((p0.length : Int) + 1) ≤ lim) <|
  bnd (List.replicate (i64.wrap ((p0.length : Int) + 1)).toNat (0 : Int)) fun x1 =>
  loopM (fun x : (List Int) × Int × Int => nat_shifted_b1 p0 p1 x1 x.1 x.2.1 x.2.2) (x1, (0 : Int), (0 : Int))
theorem nat_shifted.ok {p0 : List Int} {p1 : Int} {r : List Int} (h : nat_shifted p0 p1 = some r) : ACall prog 131 [⟨.slice (.int .u32), p0⟩, ⟨.int .i64, p1⟩] [⟨9, .slice (.int .u32), r⟩] := by
  replace h := Leads.of h
  unfold nat_shifted at h
  refine AC func131 rfl fun w0 F0 hw0 => ?_
  refine W_seq ?_
  refine R [] [(0, .v 0 (.slice (.int .u32)) p0), (1, .v 0 (.int .i64) p1)] pz ?_
  refine W_seq ?_
  obtain ⟨o1, h⟩ := h.ass
  refine R1 h [] (fun x1 => [(0, .v 0 (.slice (.int .u32)) p0), (1, .v 0 (.int .i64) p1), (5, .v 9 (.slice (.int .u32)) x1)]) (ps o1) fun x1 h => ?_
  refine W_seq ?_
  refine R [] [(0, .v 0 (.slice (.int .u32)) p0), (1, .v 0 (.int .i64) p1), (5, .v 9 (.slice (.int .u32)) x1), (6, .v 0 (.int .u64) (0 : Int))] pz ?_
  refine W_seq (W_seq ?_)
  refine R [] [(0, .v 0 (.slice (.int .u32)) p0), (1, .v 0 (.int .i64) p1), (5, .v 9 (.slice (.int .u32)) x1), (6, .v 0 (.int .u64) (0 : Int)), (13, .v 0 (.int .i64) (x1.length : Int)), (14, .v 0 (.int .i64) (0 : Int))] pz ?_
  refine J1 h nat_shifted_j1 (fun x2 => [(5, .v 9 (.slice (.int .u32)) x2)]) (fun x2 h => ?_) fun j1 => ?_
  · unfold nat_shifted_j1 at h
    refine W_seq ?_
    refine R [] [(4, .v 9 (.slice (.int .u32)) x2)] pz ?_
    cases h
    exact Rt hw0
  refine W_block ?_
  refine L3 h (fun x3 x4 x5 => [(0, .v 0 (.slice (.int .u32)) p0), (1, .v 0 (.int .i64) p1), (5, .v 9 (.slice (.int .u32)) x3), (6, .v 0 (.int .u64) x4), (13, .v 0 (.int .i64) (x1.length : Int)), (14, .v 0 (.int .i64) x5)]) fun x3 x4 x5 _ h => ?_
  unfold nat_shifted_b1 at h
  refine W_seq ?_
  refine R [] [(0, .v 0 (.slice (.int .u32)) p0), (1, .v 0 (.int .i64) p1), (5, .v 9 (.slice (.int .u32)) x3), (6, .v 0 (.int .u64) x4), (13, .v 0 (.int .i64) (x1.length : Int)), (14, .v 0 (.int .i64) x5), (15, .v 0 .bool (decide (x5 < (x1.length : Int))))] pz ?_
  refine W_seq ?_
  refine C h (fun h => ?_) fun h => ?_
  · refine W_skip (W_seq (W_block (W_seq ?_)))
    refine R [] [(0, .v 0 (.slice (.int .u32)) p0), (1, .v 0 (.int .i64) p1), (5, .v 9 (.slice (.int .u32)) x3), (6, .v 0 (.int .u64) x4), (7, .v 0 (.int .i64) x5), (13, .v 0 (.int .i64) (x1.length : Int)), (14, .v 0 (.int .i64) x5)] pz ?_
    refine W_seq ?_
    obtain ⟨y6, ey6, h⟩ := h.bind
    obtain ⟨o1, h⟩ := h.ass
    refine R1 h [.res [(0, ⟨0, .int .u32, y6⟩)]] (fun x7 => [(0, .v 0 (.slice (.int .u32)) p0), (1, .v 0 (.int .i64) p1), (5, .v 9 (.slice (.int .u32)) x3), (6, .v 0 (.int .u64) x7), (7, .v 0 (.int .i64) x5), (13, .v 0 (.int .i64) (x1.length : Int)), (14, .v 0 (.int .i64) x5)]) (pc (nat_at.ok ey6) (ps o1)) fun x7 h => ?_
    refine W_seq ?_
    obtain ⟨o1, h⟩ := h.ass
    refine R1 h [] (fun x8 => [(0, .v 0 (.slice (.int .u32)) p0), (1, .v 0 (.int .i64) p1), (5, .v 9 (.slice (.int .u32)) x8), (6, .v 0 (.int .u64) x7), (13, .v 0 (.int .i64) (x1.length : Int)), (14, .v 0 (.int .i64) x5)]) (ps o1) fun x8 h => ?_
    obtain ⟨o1, h⟩ := h.ass
    refine R1 h [] (fun x9 => [(0, .v 0 (.slice (.int .u32)) p0), (1, .v 0 (.int .i64) p1), (5, .v 9 (.slice (.int .u32)) x8), (6, .v 0 (.int .u64) x9), (13, .v 0 (.int .i64) (x1.length : Int)), (14, .v 0 (.int .i64) x5)]) (ps o1) fun x9 h => ?_
    refine W_blk ?_
    refine R1 h [] (fun x10 => [(0, .v 0 (.slice (.int .u32)) p0), (1, .v 0 (.int .i64) p1), (5, .v 9 (.slice (.int .u32)) x8), (6, .v 0 (.int .u64) x9), (13, .v 0 (.int .i64) (x1.length : Int)), (14, .v 0 (.int .i64) x10)]) pz fun x10 h => ?_
    exact B h
  refine W_exit rfl ?_
  exact K (j1 x3 h.back)

def nat_guess_j1 (x4 : Int) : Option (Int) :=
  some x4
def nat_guess_b1 (p0 : List Int) (p1 : List Int) (p2 : Int) (x5 : Int) (x6 : Int) : Option ((Int × Int) ⊕ Int) :=
  ass ((!(decide (x5 ≥ 4294967296))) = true → 0 ≤ i64.wrap ((p1.length : Int) - 2) ∧ i64.wrap ((p1.length : Int) - 2) < (p1.length : Int)) <|
  ass ((!(decide (x5 ≥ 4294967296))) = true → 0 ≤ (32 : Int)) <|
  ass ((!(decide (x5 ≥ 4294967296))) = true → 0 ≤ i64.wrap ((i64.wrap (p2 + (p1.length : Int))) - 2) ∧ i64.wrap ((i64.wrap (p2 + (p1.length : Int))) - 2) < (p0.length : Int)) <|
  bif (decide (x5 ≥ 4294967296)) || (decide ((u64.wrap (x5 * (u64.wrap (rd (0 : Int) p1 (i64.wrap ((p1.length : Int) - 2)))))) > (u64.wrap ((BitVec.ofInt u64.bits (u64.wrap (x6 * 2 ^ (min (32 : Int).toNat u64.bits))) ||| BitVec.ofInt u64.bits (u64.wrap (rd (0 : Int) p0 (i64.wrap ((i64.wrap (p2 + (p1.length : Int))) - 2))))).toNat : Int)))) then
    bnd (u64.wrap (x5 - 1)) fun x7 =>
    ass (0 ≤ i64.wrap ((p1.length : Int) - 1) ∧ i64.wrap ((p1.length : Int) - 1) < (p1.length : Int)) <|
    bnd (u64.wrap (x6 + (u64.wrap (rd (0 : Int) p1 (i64.wrap ((p1.length : Int) - 1)))))) fun x8 =>
    bif decide (x8 ≥ 4294967296) then
      (nat_guess_j1 x7).map .inr
    else
    some (.inl (x7, x8))
  else
  (nat_guess_j1 x5).map .inr
def nat_guess (p0 : List Int) (p1 : List Int) (p2 : Int) : Option Int :=
  ass (0 ≤ i64.wrap (p2 + (p1.length : Int)) ∧ i64.wrap (p2 + (p1.length : Int)) < (p0.length : Int)) <|
  ass (0 ≤ (32 : Int)) <|
  ass (0 ≤ i64.wrap ((i64.wrap (p2 + (p1.length : Int))) - 1) ∧ i64.wrap ((i64.wrap (p2 + (p1.length : Int))) - 1) < (p0.length : Int)) <|
  bnd (u64.wrap ((BitVec.ofInt u64.bits (u64.wrap ((u64.wrap (rd (0 : Int) p0 (i64.wrap (p2 + (p1.length : Int))))) * 2 ^ (min (32 : Int).toNat u64.bits))) ||| BitVec.ofInt u64.bits (u64.wrap (rd (0 : Int) p0 (i64.wrap ((i64.wrap (p2 + (p1.length : Int))) - 1))))).toNat : Int)) fun x1 =>
  ass (0 ≤ i64.wrap ((p1.length : Int) - 1) ∧ i64.wrap ((p1.length : Int) - 1) < (p1.length : Int)) <|
  ass ((u64.wrap (rd (0 : Int) p1 (i64.wrap ((p1.length : Int) - 1)))) ≠ 0) <|
  bnd (u64.wrap (x1.tdiv (u64.wrap (rd (0 : Int) p1 (i64.wrap ((p1.length : Int) - 1)))))) fun x2 =>
  bnd (x1.tmod (u64.wrap (rd (0 : Int) p1 (i64.wrap ((p1.length : Int) - 1))))) fun x3 =>
  loopM (fun x : Int × Int => nat_guess_b1 p0 p1 p2 x.1 x.2) (x2, x3)
theorem nat_guess.ok {p0 : List Int} {p1 : List Int} {p2 : Int} {r : Int} (h : nat_guess p0 p1 p2 = some r) : ACall prog 132 [⟨.slice (.int .u32), p0⟩, ⟨.slice (.int .u32), p1⟩, ⟨.int .i64, p2⟩] [⟨0, .int .u64, r⟩] := by
  replace h := Leads.of h
  unfold nat_guess at h
  refine AC func132 rfl fun w0 F0 hw0 => ?_
  refine W_seq ?_
  refine R [] [(0, .v 0 (.slice (.int .u32)) p0), (1, .v 0 (.slice (.int .u32)) p1), (2, .v 0 (.int .i64) p2)] pz ?_
  refine W_seq ?_
  refine R [] [(0, .v 0 (.slice (.int .u32)) p0), (1, .v 0 (.slice (.int .u32)) p1), (2, .v 0 (.int .i64) p2), (7, .v 0 (.int .i64) (p1.length : Int))] pz ?_
  refine W_seq ?_
  obtain ⟨o1, h⟩ := h.ass
  obtain ⟨o2, h⟩ := h.ass
  obtain ⟨o3, h⟩ := h.ass
  refine R1 h [] (fun x1 => [(0, .v 0 (.slice (.int .u32)) p0), (1, .v 0 (.slice (.int .u32)) p1), (2, .v 0 (.int .i64) p2), (7, .v 0 (.int .i64) (p1.length : Int)), (8, .v 0 (.int .u64) x1)]) (pc o1 (pc o2 (ps o3))) fun x1 h => ?_
  refine W_seq ?_
  obtain ⟨o1, h⟩ := h.ass
  obtain ⟨o2, h⟩ := h.ass
  refine RL2 h [] (fun x2 x3 => [(0, .v 0 (.slice (.int .u32)) p0), (1, .v 0 (.slice (.int .u32)) p1), (2, .v 0 (.int .i64) p2), (7, .v 0 (.int .i64) (p1.length : Int)), (9, .v 0 (.int .u64) x2), (10, .v 0 (.int .u64) x3)]) (pc o1 (pc o2 (pc o1 (pc o2 (pc o1 (pc o2 (pc (rfl : (⟨.int .u64, x1⟩ : TV) = ⟨.int .u64, x1⟩) (pc (rfl : (⟨.slice (.int .u32), p1⟩ : TV) = ⟨.slice (.int .u32), p1⟩) (pc (rfl : (⟨.int .i64, (p1.length : Int)⟩ : TV) = ⟨.int .i64, (p1.length : Int)⟩) (pc (rfl : (⟨.int .i64, i64.wrap ((p1.length : Int) - 1)⟩ : TV) = ⟨.int .i64, i64.wrap ((p1.length : Int) - 1)⟩) (pc (rfl : (⟨.cptr (.int .u32), rd (0 : Int) p1 (i64.wrap ((p1.length : Int) - 1))⟩ : TV) = ⟨.cptr (.int .u32), rd (0 : Int) p1 (i64.wrap ((p1.length : Int) - 1))⟩) (pc (rfl : (⟨.int .u32, rd (0 : Int) p1 (i64.wrap ((p1.length : Int) - 1))⟩ : TV) = ⟨.int .u32, rd (0 : Int) p1 (i64.wrap ((p1.length : Int) - 1))⟩) (pc (rfl : (⟨.int .u64, u64.wrap (rd (0 : Int) p1 (i64.wrap ((p1.length : Int) - 1)))⟩ : TV) = ⟨.int .u64, u64.wrap (rd (0 : Int) p1 (i64.wrap ((p1.length : Int) - 1)))⟩) (ps (rfl : (⟨.int .u64, x1.tmod (u64.wrap (rd (0 : Int) p1 (i64.wrap ((p1.length : Int) - 1))))⟩ : TV) = ⟨.int .u64, x1.tmod (u64.wrap (rd (0 : Int) p1 (i64.wrap ((p1.length : Int) - 1))))⟩))))))))))))))) fun x2 x3 h => ?_
  refine W_seq ?_
  refine J1 h nat_guess_j1 (fun x4 => [(9, .v 0 (.int .u64) x4)]) (fun x4 h => ?_) fun j1 => ?_
  · unfold nat_guess_j1 at h
    refine W_seq ?_
    refine R [] [(6, .v 0 (.int .u64) x4)] pz ?_
    cases h
    exact Rt hw0
  refine W_block ?_
  refine L2 h (fun x5 x6 => [(0, .v 0 (.slice (.int .u32)) p0), (1, .v 0 (.slice (.int .u32)) p1), (2, .v 0 (.int .i64) p2), (7, .v 0 (.int .i64) (p1.length : Int)), (9, .v 0 (.int .u64) x5), (10, .v 0 (.int .u64) x6)]) fun x5 x6 _ h => ?_
  unfold nat_guess_b1 at h
  refine W_seq (W_seq ?_)
  obtain ⟨o1, h⟩ := h.ass
  obtain ⟨o2, h⟩ := h.ass
  obtain ⟨o3, h⟩ := h.ass
  refine R [] [(0, .v 0 (.slice (.int .u32)) p0), (1, .v 0 (.slice (.int .u32)) p1), (2, .v 0 (.int .i64) p2), (7, .v 0 (.int .i64) (p1.length : Int)), (9, .v 0 (.int .u64) x5), (10, .v 0 (.int .u64) x6), (69, .v 0 .bool ((decide (x5 ≥ 4294967296)) || (decide ((u64.wrap (x5 * (u64.wrap (rd (0 : Int) p1 (i64.wrap ((p1.length : Int) - 2)))))) > (u64.wrap ((BitVec.ofInt u64.bits (u64.wrap (x6 * 2 ^ (min (32 : Int).toNat u64.bits))) ||| BitVec.ofInt u64.bits (u64.wrap (rd (0 : Int) p0 (i64.wrap ((i64.wrap (p2 + (p1.length : Int))) - 2))))).toNat : Int))))))] (pc o1 (pc o2 (ps o3))) ?_
  refine C h (fun h => ?_) fun h => ?_
  · refine W_skip (W_block (W_seq ?_))
    refine R1 h [] (fun x7 => [(0, .v 0 (.slice (.int .u32)) p0), (1, .v 0 (.slice (.int .u32)) p1), (2, .v 0 (.int .i64) p2), (7, .v 0 (.int .i64) (p1.length : Int)), (9, .v 0 (.int .u64) x7), (10, .v 0 (.int .u64) x6)]) pz fun x7 h => ?_
    refine W_seq ?_
    obtain ⟨o1, h⟩ := h.ass
    refine R1 h [] (fun x8 => [(0, .v 0 (.slice (.int .u32)) p0), (1, .v 0 (.slice (.int .u32)) p1), (2, .v 0 (.int .i64) p2), (7, .v 0 (.int .i64) (p1.length : Int)), (9, .v 0 (.int .u64) x7), (10, .v 0 (.int .u64) x8)]) (ps o1) fun x8 h => ?_
    refine W_seq ?_
    refine R [] [(0, .v 0 (.slice (.int .u32)) p0), (1, .v 0 (.slice (.int .u32)) p1), (2, .v 0 (.int .i64) p2), (7, .v 0 (.int .i64) (p1.length : Int)), (9, .v 0 (.int .u64) x7), (10, .v 0 (.int .u64) x8), (81, .v 0 .bool (decide (x8 ≥ 4294967296)))] pz ?_
    refine C h (fun h => ?_) fun h => ?_
    · refine W_exit rfl ?_
      exact K (j1 x7 h.back)
    refine W_skip (W_blk ?_)
    exact B h
  refine W_exit rfl ?_
  exact K (j1 x5 h.back)

def nat_away_j1 (x2 : List Int) (x3 : Int) : Option (Bool × (List Int)) :=
  bnd (decide (x3 > 0)) fun x4 =>
  some (x4, x2)
def nat_away_b1 (p1 : List Int) (p2 : Int) (p3 : Int) (x1 : Int) (x5 : List Int) (x6 : Int) (x7 : Int) (x8 : Int) : Option (((List Int) × Int × Int × Int) ⊕ (Bool × (List Int))) :=
  bif decide (x8 < x1) then
    (nat_at p1 x8).bind fun y9 =>
    bnd (u64.wrap (x6 + (u64.wrap (p3 * (u64.wrap y9))))) fun x10 =>
    ass (0 ≤ i64.wrap (p2 + x8) ∧ i64.wrap (p2 + x8) < (x5.length : Int)) <|
    bnd (u64.wrap ((u64.wrap ((u64.wrap (rd (0 : Int) x5 (i64.wrap (p2 + x8)))) - (u64.wrap ((BitVec.ofInt u64.bits x10 &&& BitVec.ofInt u64.bits 4294967295).toNat : Int)))) - x7)) fun x11 =>
    ass (0 ≤ i64.wrap (p2 + x8) ∧ i64.wrap (p2 + x8) < (x5.length : Int)) <|
    bnd (wr x5 (i64.wrap (p2 + x8)) (u32.wrap x11)) fun x12 =>
    ass (0 ≤ (63 : Int)) <|
    bnd (x11.fdiv (2 ^ (min (63 : Int).toNat u64.bits))) fun x13 =>
    ass (0 ≤ (32 : Int)) <|
    bnd (x10.fdiv (2 ^ (min (32 : Int).toNat u64.bits))) fun x14 =>
    bnd (i64.wrap (x8 + 1)) fun x15 =>
    some (.inl (x12, x14, x13, x15))
  else
  (nat_away_j1 x5 x7).map .inr
def nat_away (p0 : List Int) (p1 : List Int) (p2 : Int) (p3 : Int) : Option (Bool × (List Int)) :=
  bnd (i64.wrap ((p1.length : Int) + 1)) fun x1 =>
  loopM (fun x : (List Int) × Int × Int × Int => nat_away_b1 p1 p2 p3 x1 x.1 x.2.1 x.2.2.1 x.2.2.2) (p0, (0 : Int), (0 : Int), (0 : Int))
theorem nat_away.ok {p0 : List Int} {p1 : List Int} {p2 : Int} {p3 : Int} {r : Bool × (List Int)} (h : nat_away p0 p1 p2 p3 = some r) : ICall prog 133 (.v 9 (.slice (.int .u32)) p0) (.v 9 (.slice (.int .u32)) r.2) [⟨.slice (.int .u32), p1⟩, ⟨.int .i64, p2⟩, ⟨.int .u64, p3⟩] [⟨0, .bool, r.1⟩] := by
  replace h := Leads.of h
  unfold nat_away at h
  refine ACi func133 rfl fun w0 F0 hw0 => ?_
  refine W_seq ?_
  refine R [] [(0, .v 9 (.slice (.int .u32)) p0), (1, .v 0 (.slice (.int .u32)) p1), (2, .v 0 (.int .i64) p2), (3, .v 0 (.int .u64) p3)] pz ?_
  refine W_seq ?_
  refine R [] [(0, .v 9 (.slice (.int .u32)) p0), (1, .v 0 (.slice (.int .u32)) p1), (2, .v 0 (.int .i64) p2), (3, .v 0 (.int .u64) p3), (9, .v 0 (.int .u64) (0 : Int)), (10, .v 0 (.int .u64) (0 : Int))] pz ?_
  refine W_seq (W_seq ?_)
  refine R1 h [] (fun x1 => [(0, .v 9 (.slice (.int .u32)) p0), (1, .v 0 (.slice (.int .u32)) p1), (2, .v 0 (.int .i64) p2), (3, .v 0 (.int .u64) p3), (9, .v 0 (.int .u64) (0 : Int)), (10, .v 0 (.int .u64) (0 : Int)), (15, .v 0 (.int .i64) x1), (16, .v 0 (.int .i64) (0 : Int))]) pz fun x1 h => ?_
  refine J2 h nat_away_j1 (fun x2 x3 => [(0, .v 9 (.slice (.int .u32)) x2), (10, .v 0 (.int .u64) x3)]) (fun x2 x3 h => ?_) fun j1 => ?_
  · unfold nat_away_j1 at h
    refine W_seq ?_
    refine R1 h [] (fun x4 => [(0, .v 9 (.slice (.int .u32)) x2), (8, .v 0 .bool x4)]) pz fun x4 h => ?_
    replace h : ((x4, x2)) = r := h
    subst h
    exact W_iret tys_ok hw0 (by kernel_rfl) rfl rfl (by kernel_rfl) (by kernel_rfl)
  refine W_block ?_
  refine L4 h (fun x5 x6 x7 x8 => [(0, .v 9 (.slice (.int .u32)) x5), (1, .v 0 (.slice (.int .u32)) p1), (2, .v 0 (.int .i64) p2), (3, .v 0 (.int .u64) p3), (9, .v 0 (.int .u64) x6), (10, .v 0 (.int .u64) x7), (15, .v 0 (.int .i64) x1), (16, .v 0 (.int .i64) x8)]) fun x5 x6 x7 x8 _ h => ?_
  unfold nat_away_b1 at h
  refine W_seq ?_
  refine R [] [(0, .v 9 (.slice (.int .u32)) x5), (1, .v 0 (.slice (.int .u32)) p1), (2, .v 0 (.int .i64) p2), (3, .v 0 (.int .u64) p3), (9, .v 0 (.int .u64) x6), (10, .v 0 (.int .u64) x7), (15, .v 0 (.int .i64) x1), (16, .v 0 (.int .i64) x8), (17, .v 0 .bool (decide (x8 < x1)))] pz ?_
  refine W_seq ?_
  refine C h (fun h => ?_) fun h => ?_
  · refine W_skip (W_seq (W_block (W_seq ?_)))
    refine R [] [(0, .v 9 (.slice (.int .u32)) x5), (1, .v 0 (.slice (.int .u32)) p1), (2, .v 0 (.int .i64) p2), (3, .v 0 (.int .u64) p3), (9, .v 0 (.int .u64) x6), (10, .v 0 (.int .u64) x7), (11, .v 0 (.int .i64) x8), (15, .v 0 (.int .i64) x1), (16, .v 0 (.int .i64) x8)] pz ?_
    refine W_seq ?_
    obtain ⟨y9, ey9, h⟩ := h.bind
    refine R1 h [.res [(0, ⟨0, .int .u32, y9⟩)]] (fun x10 => [(0, .v 9 (.slice (.int .u32)) x5), (1, .v 0 (.slice (.int .u32)) p1), (2, .v 0 (.int .i64) p2), (3, .v 0 (.int .u64) p3), (9, .v 0 (.int .u64) x10), (10, .v 0 (.int .u64) x7), (11, .v 0 (.int .i64) x8), (15, .v 0 (.int .i64) x1), (16, .v 0 (.int .i64) x8)]) (ps (nat_at.ok ey9)) fun x10 h => ?_
    refine W_seq ?_
    obtain ⟨o1, h⟩ := h.ass
    refine R1 h [] (fun x11 => [(0, .v 9 (.slice (.int .u32)) x5), (1, .v 0 (.slice (.int .u32)) p1), (2, .v 0 (.int .i64) p2), (3, .v 0 (.int .u64) p3), (9, .v 0 (.int .u64) x10), (11, .v 0 (.int .i64) x8), (12, .v 0 (.int .u64) x11), (15, .v 0 (.int .i64) x1), (16, .v 0 (.int .i64) x8)]) (ps o1) fun x11 h => ?_
    refine W_seq ?_
    obtain ⟨o1, h⟩ := h.ass
    refine R1 h [] (fun x12 => [(0, .v 9 (.slice (.int .u32)) x12), (1, .v 0 (.slice (.int .u32)) p1), (2, .v 0 (.int .i64) p2), (3, .v 0 (.int .u64) p3), (9, .v 0 (.int .u64) x10), (12, .v 0 (.int .u64) x11), (15, .v 0 (.int .i64) x1), (16, .v 0 (.int .i64) x8)]) (ps o1) fun x12 h => ?_
    refine W_seq ?_
    obtain ⟨o1, h⟩ := h.ass
    refine R1 h [] (fun x13 => [(0, .v 9 (.slice (.int .u32)) x12), (1, .v 0 (.slice (.int .u32)) p1), (2, .v 0 (.int .i64) p2), (3, .v 0 (.int .u64) p3), (9, .v 0 (.int .u64) x10), (10, .v 0 (.int .u64) x13), (15, .v 0 (.int .i64) x1), (16, .v 0 (.int .i64) x8)]) (ps o1) fun x13 h => ?_
    obtain ⟨o1, h⟩ := h.ass
    refine R1 h [] (fun x14 => [(0, .v 9 (.slice (.int .u32)) x12), (1, .v 0 (.slice (.int .u32)) p1), (2, .v 0 (.int .i64) p2), (3, .v 0 (.int .u64) p3), (9, .v 0 (.int .u64) x14), (10, .v 0 (.int .u64) x13), (15, .v 0 (.int .i64) x1), (16, .v 0 (.int .i64) x8)]) (ps o1) fun x14 h => ?_
    refine W_blk ?_
    refine R1 h [] (fun x15 => [(0, .v 9 (.slice (.int .u32)) x12), (1, .v 0 (.slice (.int .u32)) p1), (2, .v 0 (.int .i64) p2), (3, .v 0 (.int .u64) p3), (9, .v 0 (.int .u64) x14), (10, .v 0 (.int .u64) x13), (15, .v 0 (.int .i64) x1), (16, .v 0 (.int .i64) x15)]) pz fun x15 h => ?_
    exact B h
  refine W_exit rfl ?_
  exact K (j1 x5 x7 h.back)

def nat_back_b1 (p1 : List Int) (p2 : Int) (x1 : Int) (x2 : List Int) (x3 : Int) (x4 : Int) : Option (((List Int) × Int × Int) ⊕ (List Int)) :=
  bif decide (x4 < x1) then
    ass (0 ≤ i64.wrap (p2 + x4) ∧ i64.wrap (p2 + x4) < (x2.length : Int)) <|
    (nat_at p1 x4).bind fun y5 =>
    bnd (u64.wrap (x3 + (u64.wrap ((u64.wrap (rd (0 : Int) x2 (i64.wrap (p2 + x4)))) + (u64.wrap y5))))) fun x6 =>
    ass (0 ≤ i64.wrap (p2 + x4) ∧ i64.wrap (p2 + x4) < (x2.length : Int)) <|
    bnd (wr x2 (i64.wrap (p2 + x4)) (u32.wrap x6)) fun x7 =>
    ass (0 ≤ (32 : Int)) <|
    bnd (x6.fdiv (2 ^ (min (32 : Int).toNat u64.bits))) fun x8 =>
    bnd (i64.wrap (x4 + 1)) fun x9 =>
    some (.inl (x7, x8, x9))
  else
  some (.inr x2)
def nat_back (p0 : List Int) (p1 : List Int) (p2 : Int) : Option (List Int) :=
  bnd (i64.wrap ((p1.length : Int) + 1)) fun x1 =>
  loopM (fun x : (List Int) × Int × Int => nat_back_b1 p1 p2 x1 x.1 x.2.1 x.2.2) (p0, (0 : Int), (0 : Int))
theorem nat_back.ok {p0 : List Int} {p1 : List Int} {p2 : Int} {r : List Int} (h : nat_back p0 p1 p2 = some r) : ICall prog 134 (.v 9 (.slice (.int .u32)) p0) (.v 9 (.slice (.int .u32)) r) [⟨.slice (.int .u32), p1⟩, ⟨.int .i64, p2⟩] [] := by
  replace h := Leads.of h
  unfold nat_back at h
  refine ACi func134 rfl fun w0 F0 hw0 => ?_
  refine W_seq ?_
  refine R [] [(0, .v 9 (.slice (.int .u32)) p0), (1, .v 0 (.slice (.int .u32)) p1), (2, .v 0 (.int .i64) p2), (6, .v 0 (.int .u64) (0 : Int))] pz ?_
  refine W_seq ?_
  refine R1 h [] (fun x1 => [(0, .v 9 (.slice (.int .u32)) p0), (1, .v 0 (.slice (.int .u32)) p1), (2, .v 0 (.int .i64) p2), (6, .v 0 (.int .u64) (0 : Int)), (10, .v 0 (.int .i64) x1), (11, .v 0 (.int .i64) (0 : Int))]) pz fun x1 h => ?_
  refine W_block ?_
  refine L3 h (fun x2 x3 x4 => [(0, .v 9 (.slice (.int .u32)) x2), (1, .v 0 (.slice (.int .u32)) p1), (2, .v 0 (.int .i64) p2), (6, .v 0 (.int .u64) x3), (10, .v 0 (.int .i64) x1), (11, .v 0 (.int .i64) x4)]) fun x2 x3 x4 _ h => ?_
  unfold nat_back_b1 at h
  refine W_seq ?_
  refine R [] [(0, .v 9 (.slice (.int .u32)) x2), (1, .v 0 (.slice (.int .u32)) p1), (2, .v 0 (.int .i64) p2), (6, .v 0 (.int .u64) x3), (10, .v 0 (.int .i64) x1), (11, .v 0 (.int .i64) x4), (12, .v 0 .bool (decide (x4 < x1)))] pz ?_
  refine W_seq ?_
  refine C h (fun h => ?_) fun h => ?_
  · refine W_skip (W_seq (W_block (W_seq ?_)))
    refine R [] [(0, .v 9 (.slice (.int .u32)) x2), (1, .v 0 (.slice (.int .u32)) p1), (2, .v 0 (.int .i64) p2), (6, .v 0 (.int .u64) x3), (7, .v 0 (.int .i64) x4), (10, .v 0 (.int .i64) x1), (11, .v 0 (.int .i64) x4)] pz ?_
    refine W_seq ?_
    obtain ⟨o1, h⟩ := h.ass
    obtain ⟨y5, ey5, h⟩ := h.bind
    refine R1 h [.res [(0, ⟨0, .int .u32, y5⟩)]] (fun x6 => [(0, .v 9 (.slice (.int .u32)) x2), (1, .v 0 (.slice (.int .u32)) p1), (2, .v 0 (.int .i64) p2), (6, .v 0 (.int .u64) x6), (7, .v 0 (.int .i64) x4), (10, .v 0 (.int .i64) x1), (11, .v 0 (.int .i64) x4)]) (pc o1 (ps (nat_at.ok ey5))) fun x6 h => ?_
    refine W_seq ?_
    obtain ⟨o1, h⟩ := h.ass
    refine R1 h [] (fun x7 => [(0, .v 9 (.slice (.int .u32)) x7), (1, .v 0 (.slice (.int .u32)) p1), (2, .v 0 (.int .i64) p2), (6, .v 0 (.int .u64) x6), (10, .v 0 (.int .i64) x1), (11, .v 0 (.int .i64) x4)]) (ps o1) fun x7 h => ?_
    obtain ⟨o1, h⟩ := h.ass
    refine R1 h [] (fun x8 => [(0, .v 9 (.slice (.int .u32)) x7), (1, .v 0 (.slice (.int .u32)) p1), (2, .v 0 (.int .i64) p2), (6, .v 0 (.int .u64) x8), (10, .v 0 (.int .i64) x1), (11, .v 0 (.int .i64) x4)]) (ps o1) fun x8 h => ?_
    refine W_blk ?_
    refine R1 h [] (fun x9 => [(0, .v 9 (.slice (.int .u32)) x7), (1, .v 0 (.slice (.int .u32)) p1), (2, .v 0 (.int .i64) p2), (6, .v 0 (.int .u64) x8), (10, .v 0 (.int .i64) x1), (11, .v 0 (.int .i64) x9)]) pz fun x9 h => ?_
    exact B h
  refine W_exit rfl ?_
  refine K (E' := [(0, .v 9 (.slice (.int .u32)) x2)]) ?_
  replace h : x2 = r := h
  subst h
  exact W_iend tys_ok hw0 (by kernel_rfl) rfl rfl (by kernel_rfl) (by kernel_rfl)

def nat_down_j1 (x2 : List Int) : Option (List Int) :=
  (nat_Cut x2).bind fun y3 =>
  some y3
def nat_down_b1 (p0 : List Int) (p1 : Int) (x4 : List Int) (x5 : Int) : Option (((List Int) × Int) ⊕ (List Int)) :=
  bif decide (x5 < (p0.length : Int)) then
    (nat_at p0 (i64.wrap (x5 + 1))).bind fun y6 =>
    ass (0 ≤ (32 : Int)) <|
    ass (0 ≤ x5 ∧ x5 < (p0.length : Int)) <|
    ass (0 ≤ p1) <|
    ass (0 ≤ x5 ∧ x5 < (x4.length : Int)) <|
    bnd (wr x4 x5 (u32.wrap ((u64.wrap ((BitVec.ofInt u64.bits (u64.wrap ((u64.wrap y6) * 2 ^ (min (32 : Int).toNat u64.bits))) ||| BitVec.ofInt u64.bits (u64.wrap (rd (0 : Int) p0 x5))).toNat : Int)).fdiv (2 ^ (min p1.toNat u64.bits))))) fun x7 =>
    bnd (i64.wrap (x5 + 1)) fun x8 =>
    some (.inl (x7, x8))
  else
  (nat_down_j1 x4).map .inr
def nat_down (p0 : List Int) (p1 : Int) : Option (List Int) :=
  ass (0 ≤ (p0.length : Int) ∧ (p0.length : Int) ≤ (p0.length : Int) ∧ (p0.length : Int) ≤ lim) <|
  bnd (List.replicate (p0.length : Int).toNat (0 : Int)) fun x1 =>
  loopM (fun x : (List Int) × Int => nat_down_b1 p0 p1 x.1 x.2) (x1, (0 : Int))
theorem nat_down.ok {p0 : List Int} {p1 : Int} {r : List Int} (h : nat_down p0 p1 = some r) : ACall prog 135 [⟨.slice (.int .u32), p0⟩, ⟨.int .i64, p1⟩] [⟨9, .slice (.int .u32), r⟩] := by
  replace h := Leads.of h
  unfold nat_down at h
  refine AC func135 rfl fun w0 F0 hw0 => ?_
  refine W_seq ?_
  refine R [] [(0, .v 0 (.slice (.int .u32)) p0), (1, .v 0 (.int .i64) p1)] pz ?_
  refine W_seq ?_
  obtain ⟨o1, h⟩ := h.ass
  refine R1 h [] (fun x1 => [(0, .v 0 (.slice (.int .u32)) p0), (1, .v 0 (.int .i64) p1), (5, .v 9 (.slice (.int .u32)) x1)]) (ps o1) fun x1 h => ?_
  refine W_seq (W_seq ?_)
  refine R [] [(0, .v 0 (.slice (.int .u32)) p0), (1, .v 0 (.int .i64) p1), (5, .v 9 (.slice (.int .u32)) x1), (11, .v 0 (.int .i64) (p0.length : Int)), (12, .v 0 (.int .i64) (0 : Int))] pz ?_
  refine J1 h nat_down_j1 (fun x2 => [(5, .v 9 (.slice (.int .u32)) x2)]) (fun x2 h => ?_) fun j1 => ?_
  · unfold nat_down_j1 at h
    refine W_seq ?_
    obtain ⟨y3, ey3, h⟩ := h.bind
    refine R [.res [(9, ⟨9, .slice (.int .u32), y3⟩)]] [(4, .v 9 (.slice (.int .u32)) y3)] (ps (nat_Cut.ok ey3)) ?_
    cases h
    exact Rt hw0
  refine W_block ?_
  refine L2 h (fun x4 x5 => [(0, .v 0 (.slice (.int .u32)) p0), (1, .v 0 (.int .i64) p1), (5, .v 9 (.slice (.int .u32)) x4), (11, .v 0 (.int .i64) (p0.length : Int)), (12, .v 0 (.int .i64) x5)]) fun x4 x5 _ h => ?_
  unfold nat_down_b1 at h
  refine W_seq ?_
  refine R [] [(0, .v 0 (.slice (.int .u32)) p0), (1, .v 0 (.int .i64) p1), (5, .v 9 (.slice (.int .u32)) x4), (11, .v 0 (.int .i64) (p0.length : Int)), (12, .v 0 (.int .i64) x5), (13, .v 0 .bool (decide (x5 < (p0.length : Int))))] pz ?_
  refine W_seq ?_
  refine C h (fun h => ?_) fun h => ?_
  · refine W_skip (W_seq (W_block (W_seq ?_)))
    refine R [] [(0, .v 0 (.slice (.int .u32)) p0), (1, .v 0 (.int .i64) p1), (5, .v 9 (.slice (.int .u32)) x4), (6, .v 0 (.int .i64) x5), (11, .v 0 (.int .i64) (p0.length : Int)), (12, .v 0 (.int .i64) x5)] pz ?_
    obtain ⟨y6, ey6, h⟩ := h.bind
    obtain ⟨o1, h⟩ := h.ass
    obtain ⟨o2, h⟩ := h.ass
    obtain ⟨o3, h⟩ := h.ass
    obtain ⟨o4, h⟩ := h.ass
    refine R1 h [.res [(0, ⟨0, .int .u32, y6⟩)]] (fun x7 => [(0, .v 0 (.slice (.int .u32)) p0), (1, .v 0 (.int .i64) p1), (5, .v 9 (.slice (.int .u32)) x7), (11, .v 0 (.int .i64) (p0.length : Int)), (12, .v 0 (.int .i64) x5)]) (pc (nat_at.ok ey6) (pc o1 (pc o2 (pc o3 (ps o4))))) fun x7 h => ?_
    refine W_blk ?_
    refine R1 h [] (fun x8 => [(0, .v 0 (.slice (.int .u32)) p0), (1, .v 0 (.int .i64) p1), (5, .v 9 (.slice (.int .u32)) x7), (11, .v 0 (.int .i64) (p0.length : Int)), (12, .v 0 (.int .i64) x8)]) pz fun x8 h => ?_
    exact B h
  refine W_exit rfl ?_
  exact K (j1 x4 h.back)

def nat_Div_j1 (y6 : Int) (x12 : List Int) (x13 : List Int) : Option ((List Int) × (List Int) × Bool) :=
  (nat_Cut x13).bind fun y14 =>
  (nat_down x12 y6).bind fun y15 =>
  some (y14, y15, true)
def nat_Div_j2 (x17 : List Int) (x18 : Int) (x21 : List Int) (x22 : Int) : Option (((List Int) × (List Int) × Int) ⊕ ((List Int) × (List Int) × Bool)) :=
  ass (0 ≤ x18 ∧ x18 < (x17.length : Int)) <|
  bnd (wr x17 x18 (u32.wrap x22)) fun x23 =>
  bnd (i64.wrap (x18 - 1)) fun x24 =>
  some (.inl (x21, x23, x24))
def nat_Div_b1 (y6 : Int) (y9 : List Int) (x16 : List Int) (x17 : List Int) (x18 : Int) : Option (((List Int) × (List Int) × Int) ⊕ ((List Int) × (List Int) × Bool)) :=
  bif decide (x18 ≥ 0) then
    (nat_guess x16 y9 x18).bind fun y19 =>
    (nat_away x16 y9 x18 y19).bind fun y20 =>
    bif y20.1 then
      bnd (u64.wrap (y19 - 1)) fun x25 =>
      (nat_back y20.2 y9 x18).bind fun y26 =>
      nat_Div_j2 x17 x18 y26 x25
    else
    nat_Div_j2 x17 x18 y20.2 y19
  else
  (nat_Div_j1 y6 x16 x17).map .inr
def nat_Div (p0 : List Int) (p1 : List Int) : Option ((List Int) × (List Int) × Bool) :=
  (nat_Cut p0).bind fun y1 =>
  (nat_Cut p1).bind fun y2 =>
  bif (y2.length : Int) == 0 then
    some (([] : List Int), ([] : List Int), false)
  else
  (nat_Cmp y1 y2).bind fun y3 =>
  bif decide (y3 < 0) then
    some (([] : List Int), y1, true)
  else
  bif (y2.length : Int) == 1 then
    ass (0 ≤ (0 : Int) ∧ (0 : Int) < (y2.length : Int)) <|
    (nat_short y1 (rd (0 : Int) y2 (0 : Int))).bind fun y4 =>
    (nat_Of (u64.wrap y4.2)).bind fun y5 =>
    some (y4.1, y5, true)
  else
  ass (0 ≤ i64.wrap ((y2.length : Int) - 1) ∧ i64.wrap ((y2.length : Int) - 1) < (y2.length : Int)) <|
  (math_bits_LeadingZeros32 (rd (0 : Int) y2 (i64.wrap ((y2.length : Int) - 1)))).bind fun y6 =>
  (nat_shifted y1 y6).bind fun y7 =>
  (nat_shifted y2 y6).bind fun y8 =>
  (nat_Cut y8).bind fun y9 =>
  ass (0 ≤ i64.wrap ((i64.wrap ((y1.length : Int) - (y2.length : Int))) + 1) ∧ i64.wrap ((i64.wrap ((y1.length : Int) - (y2.length : Int))) + 1) ≤ i64.wrap ((i64.wrap ((y1.length : Int) - (y2.length : Int))) + 1) ∧ i64.wrap ((i64.wrap ((y1.length : Int) - (y2.length : Int))) + 1) ≤ lim) <|
  bnd (List.replicate (i64.wrap ((i64.wrap ((y1.length : Int) - (y2.length : Int))) + 1)).toNat (0 : Int)) fun x10 =>
  bnd (i64.wrap ((x10.length : Int) - 1)) fun x11 =>
  loopM (fun x : (List Int) × (List Int) × Int => nat_Div_b1 y6 y9 x.1 x.2.1 x.2.2) (y7, x10, x11)
theorem nat_Div.ok {p0 : List Int} {p1 : List Int} {r : (List Int) × (List Int) × Bool} (h : nat_Div p0 p1 = some r) : ACall prog 100 [⟨.slice (.int .u32), p0⟩, ⟨.slice (.int .u32), p1⟩] [⟨9, .slice (.int .u32), r.1⟩, ⟨9, .slice (.int .u32), r.2.1⟩, ⟨0, .bool, r.2.2⟩] := by
  replace h := Leads.of h
  unfold nat_Div at h
  refine AC func100 rfl fun w0 F0 hw0 => ?_
  refine W_seq ?_
  refine R [] [(0, .v 0 (.slice (.int .u32)) p0), (1, .v 0 (.slice (.int .u32)) p1)] pz ?_
  refine W_seq ?_
  obtain ⟨y1, ey1, h⟩ := h.bind
  obtain ⟨y2, ey2, h⟩ := h.bind
  refine R [.res [(9, ⟨9, .slice (.int .u32), y1⟩)], .res [(9, ⟨9, .slice (.int .u32), y2⟩)]] [(0, .v 9 (.slice (.int .u32)) y1), (1, .v 9 (.slice (.int .u32)) y2)] (pc (nat_Cut.ok ey1) (ps (nat_Cut.ok ey2))) ?_
  refine W_seq (W_block (W_seq ?_))
  refine R [] [(0, .v 9 (.slice (.int .u32)) y1), (1, .v 9 (.slice (.int .u32)) y2), (19, .v 0 .bool ((y2.length : Int) == 0))] pz ?_
  refine C h (fun h => ?_) fun h => ?_
  · refine W_seq ?_
    refine R [] [(4, .v 9 (.slice (.int .u32)) ([] : List Int)), (5, .v 9 (.slice (.int .u32)) ([] : List Int)), (6, .v 0 .bool false)] pz ?_
    cases h
    exact Rt hw0
  refine W_seq ?_
  obtain ⟨y3, ey3, h⟩ := h.bind
  refine R [.res [(0, ⟨0, .int .i64, y3⟩)]] [(0, .v 9 (.slice (.int .u32)) y1), (1, .v 9 (.slice (.int .u32)) y2), (23, .v 0 .bool (decide (y3 < 0)))] (ps (nat_Cmp.ok ey3)) ?_
  refine C h (fun h => ?_) fun h => ?_
  · refine W_seq ?_
    refine R [] [(4, .v 9 (.slice (.int .u32)) ([] : List Int)), (5, .v 9 (.slice (.int .u32)) y1), (6, .v 0 .bool true)] pz ?_
    cases h
    exact Rt hw0
  refine W_seq ?_
  refine R [] [(0, .v 9 (.slice (.int .u32)) y1), (1, .v 9 (.slice (.int .u32)) y2), (29, .v 0 .bool ((y2.length : Int) == 1))] pz ?_
  refine C h (fun h => ?_) fun h => ?_
  · refine W_seq ?_
    obtain ⟨o1, h⟩ := h.ass
    obtain ⟨y4, ey4, h⟩ := h.bind
    refine R [.res [(9, ⟨9, .slice (.int .u32), y4.1⟩), (0, ⟨0, .int .u32, y4.2⟩)]] [(7, .v 9 (.slice (.int .u32)) y4.1), (8, .v 0 (.int .u32) y4.2)] (pc o1 (ps (nat_short.ok ey4))) ?_
    refine W_seq ?_
    obtain ⟨y5, ey5, h⟩ := h.bind
    refine R [.res [(9, ⟨9, .slice (.int .u32), y5⟩)]] [(4, .v 9 (.slice (.int .u32)) y4.1), (5, .v 9 (.slice (.int .u32)) y5), (6, .v 0 .bool true)] (ps (nat_Of.ok ey5)) ?_
    cases h
    exact Rt hw0
  refine W_skip (W_blk (W_seq ?_))
  obtain ⟨o1, h⟩ := h.ass
  obtain ⟨y6, ey6, h⟩ := h.bind
  refine R [.res [(0, ⟨0, .int .i64, y6⟩)]] [(0, .v 9 (.slice (.int .u32)) y1), (1, .v 9 (.slice (.int .u32)) y2), (9, .v 0 (.int .i64) y6)] (pc o1 (ps (math_bits_LeadingZeros32.ok ey6))) ?_
  refine W_seq ?_
  obtain ⟨y7, ey7, h⟩ := h.bind
  obtain ⟨y8, ey8, h⟩ := h.bind
  obtain ⟨y9, ey9, h⟩ := h.bind
  refine R [.res [(9, ⟨9, .slice (.int .u32), y7⟩)], .res [(9, ⟨9, .slice (.int .u32), y8⟩)], .res [(9, ⟨9, .slice (.int .u32), y9⟩)]] [(0, .v 9 (.slice (.int .u32)) y1), (1, .v 9 (.slice (.int .u32)) y2), (9, .v 0 (.int .i64) y6), (10, .v 9 (.slice (.int .u32)) y7), (11, .v 9 (.slice (.int .u32)) y9)] (pc (nat_shifted.ok ey7) (pc (nat_shifted.ok ey8) (ps (nat_Cut.ok ey9)))) ?_
  refine W_seq ?_
  obtain ⟨o1, h⟩ := h.ass
  refine R1 h [] (fun x10 => [(9, .v 0 (.int .i64) y6), (10, .v 9 (.slice (.int .u32)) y7), (11, .v 9 (.slice (.int .u32)) y9), (12, .v 9 (.slice (.int .u32)) x10)]) (ps o1) fun x10 h => ?_
  refine W_seq (W_seq ?_)
  refine R1 h [] (fun x11 => [(9, .v 0 (.int .i64) y6), (10, .v 9 (.slice (.int .u32)) y7), (11, .v 9 (.slice (.int .u32)) y9), (12, .v 9 (.slice (.int .u32)) x10), (13, .v 0 (.int .i64) x11)]) pz fun x11 h => ?_
  refine J2 h (nat_Div_j1 y6) (fun x12 x13 => [(9, .v 0 (.int .i64) y6), (10, .v 9 (.slice (.int .u32)) x12), (12, .v 9 (.slice (.int .u32)) x13)]) (fun x12 x13 h => ?_) fun j1 => ?_
  · unfold nat_Div_j1 at h
    refine W_seq ?_
    obtain ⟨y14, ey14, h⟩ := h.bind
    obtain ⟨y15, ey15, h⟩ := h.bind
    refine R [.res [(9, ⟨9, .slice (.int .u32), y14⟩)], .res [(9, ⟨9, .slice (.int .u32), y15⟩)]] [(4, .v 9 (.slice (.int .u32)) y14), (5, .v 9 (.slice (.int .u32)) y15), (6, .v 0 .bool true)] (pc (nat_Cut.ok ey14) (ps (nat_down.ok ey15))) ?_
    cases h
    exact Rt hw0
  refine W_block ?_
  refine L3 h (fun x16 x17 x18 => [(9, .v 0 (.int .i64) y6), (10, .v 9 (.slice (.int .u32)) x16), (11, .v 9 (.slice (.int .u32)) y9), (12, .v 9 (.slice (.int .u32)) x17), (13, .v 0 (.int .i64) x18)]) fun x16 x17 x18 _ h => ?_
  unfold nat_Div_b1 at h
  refine W_seq (W_seq ?_)
  refine R [] [(9, .v 0 (.int .i64) y6), (10, .v 9 (.slice (.int .u32)) x16), (11, .v 9 (.slice (.int .u32)) y9), (12, .v 9 (.slice (.int .u32)) x17), (13, .v 0 (.int .i64) x18), (70, .v 0 .bool (decide (x18 ≥ 0)))] pz ?_
  refine C h (fun h => ?_) fun h => ?_
  · refine W_skip (W_seq (W_block (W_seq ?_)))
    obtain ⟨y19, ey19, h⟩ := h.bind
    refine R [.res [(0, ⟨0, .int .u64, y19⟩)]] [(9, .v 0 (.int .i64) y6), (10, .v 9 (.slice (.int .u32)) x16), (11, .v 9 (.slice (.int .u32)) y9), (12, .v 9 (.slice (.int .u32)) x17), (13, .v 0 (.int .i64) x18), (14, .v 0 (.int .u64) y19)] (ps (nat_guess.ok ey19)) ?_
    refine W_seq (W_seq ?_)
    obtain ⟨y20, ey20, h⟩ := h.bind
    refine R [.inn (.v 9 (.slice (.int .u32)) y20.2), .res [(0, ⟨0, .bool, y20.1⟩)]] [(9, .v 0 (.int .i64) y6), (10, .v 9 (.slice (.int .u32)) y20.2), (11, .v 9 (.slice (.int .u32)) y9), (12, .v 9 (.slice (.int .u32)) x17), (13, .v 0 (.int .i64) x18), (14, .v 0 (.int .u64) y19), (81, .v 0 .bool y20.1)] (ps (nat_away.ok ey20)) ?_
    refine J2 h (nat_Div_j2 x17 x18) (fun x21 x22 => [(9, .v 0 (.int .i64) y6), (10, .v 9 (.slice (.int .u32)) x21), (11, .v 9 (.slice (.int .u32)) y9), (12, .v 9 (.slice (.int .u32)) x17), (13, .v 0 (.int .i64) x18), (14, .v 0 (.int .u64) x22)]) (fun x21 x22 h => ?_) fun j2 => ?_
    · unfold nat_Div_j2 at h
      obtain ⟨o1, h⟩ := h.ass
      refine R1 h [] (fun x23 => [(9, .v 0 (.int .i64) y6), (10, .v 9 (.slice (.int .u32)) x21), (11, .v 9 (.slice (.int .u32)) y9), (12, .v 9 (.slice (.int .u32)) x23), (13, .v 0 (.int .i64) x18)]) (ps o1) fun x23 h => ?_
      refine W_blk ?_
      refine R1 h [] (fun x24 => [(9, .v 0 (.int .i64) y6), (10, .v 9 (.slice (.int .u32)) x21), (11, .v 9 (.slice (.int .u32)) y9), (12, .v 9 (.slice (.int .u32)) x23), (13, .v 0 (.int .i64) x24)]) pz fun x24 h => ?_
      exact B h
    refine C h (fun h => ?_) fun h => ?_
    · refine W_seq ?_
      refine R1 h [] (fun x25 => [(9, .v 0 (.int .i64) y6), (10, .v 9 (.slice (.int .u32)) y20.2), (11, .v 9 (.slice (.int .u32)) y9), (12, .v 9 (.slice (.int .u32)) x17), (13, .v 0 (.int .i64) x18), (14, .v 0 (.int .u64) x25)]) pz fun x25 h => ?_
      obtain ⟨y26, ey26, h⟩ := h.bind
      refine R [.inn (.v 9 (.slice (.int .u32)) y26), .res []] [(9, .v 0 (.int .i64) y6), (10, .v 9 (.slice (.int .u32)) y26), (11, .v 9 (.slice (.int .u32)) y9), (12, .v 9 (.slice (.int .u32)) x17), (13, .v 0 (.int .i64) x18), (14, .v 0 (.int .u64) x25)] (ps (nat_back.ok ey26)) ?_
      exact K (j2 y26 x25 h)
    refine W_skip ?_
    exact K (j2 y20.2 y19 h)
  refine W_exit rfl ?_
  exact K (j1 x16 x17 h.back)

def nat_Gcd_j1 (x3 : List Int) : Option (List Int) :=
  some x3
def nat_Gcd_b1 (x4 : List Int) (x5 : List Int) : Option (((List Int) × (List Int)) ⊕ (List Int)) :=
  bif decide ((x5.length : Int) > 0) then
    (nat_Div x4 x5).bind fun y6 =>
    some (.inl (x5, y6.2.1))
  else
  (nat_Gcd_j1 x4).map .inr
def nat_Gcd (p0 : List Int) (p1 : List Int) : Option (List Int) :=
  (nat_Cut p0).bind fun y1 =>
  (nat_Cut p1).bind fun y2 =>
  loopM (fun x : (List Int) × (List Int) => nat_Gcd_b1 x.1 x.2) (y1, y2)
theorem nat_Gcd.ok {p0 : List Int} {p1 : List Int} {r : List Int} (h : nat_Gcd p0 p1 = some r) : ACall prog 127 [⟨.slice (.int .u32), p0⟩, ⟨.slice (.int .u32), p1⟩] [⟨9, .slice (.int .u32), r⟩] := by
  replace h := Leads.of h
  unfold nat_Gcd at h
  refine AC func127 rfl fun w0 F0 hw0 => ?_
  refine W_seq ?_
  refine R [] [(0, .v 0 (.slice (.int .u32)) p0), (1, .v 0 (.slice (.int .u32)) p1)] pz ?_
  refine W_seq ?_
  obtain ⟨y1, ey1, h⟩ := h.bind
  obtain ⟨y2, ey2, h⟩ := h.bind
  refine R [.res [(9, ⟨9, .slice (.int .u32), y1⟩)], .res [(9, ⟨9, .slice (.int .u32), y2⟩)]] [(0, .v 9 (.slice (.int .u32)) y1), (1, .v 9 (.slice (.int .u32)) y2)] (pc (nat_Cut.ok ey1) (ps (nat_Cut.ok ey2))) ?_
  refine W_seq ?_
  refine J1 h nat_Gcd_j1 (fun x3 => [(0, .v 9 (.slice (.int .u32)) x3)]) (fun x3 h => ?_) fun j1 => ?_
  · unfold nat_Gcd_j1 at h
    refine W_seq ?_
    refine R [] [(4, .v 9 (.slice (.int .u32)) x3)] pz ?_
    cases h
    exact Rt hw0
  refine W_block ?_
  refine L2 h (fun x4 x5 => [(0, .v 9 (.slice (.int .u32)) x4), (1, .v 9 (.slice (.int .u32)) x5)]) fun x4 x5 _ h => ?_
  unfold nat_Gcd_b1 at h
  refine W_seq (W_seq ?_)
  refine R [] [(0, .v 9 (.slice (.int .u32)) x4), (1, .v 9 (.slice (.int .u32)) x5), (14, .v 0 .bool (decide ((x5.length : Int) > 0)))] pz ?_
  refine C h (fun h => ?_) fun h => ?_
  · refine W_skip (W_block (W_seq ?_))
    obtain ⟨y6, ey6, h⟩ := h.bind
    refine R [.res [(9, ⟨9, .slice (.int .u32), y6.1⟩), (9, ⟨9, .slice (.int .u32), y6.2.1⟩), (0, ⟨0, .bool, y6.2.2⟩)]] [(1, .v 9 (.slice (.int .u32)) x5), (6, .v 9 (.slice (.int .u32)) y6.2.1)] (ps (nat_Div.ok ey6)) ?_
    refine R [] [(0, .v 9 (.slice (.int .u32)) x5), (1, .v 9 (.slice (.int .u32)) y6.2.1)] pz ?_
    refine W_blk ?_
    exact B h
  refine W_exit rfl ?_
  exact K (j1 x4 h.back)

def ratio_Make (p0 : List Int) (p1 : List Int) : Option (D_api_Ratio × Bool) :=
  bnd ((([] : List Int), ([] : List Int))) fun x1 =>
  (nat_Gcd p0 p1).bind fun y2 =>
  (nat_Div p1 y2).bind fun y3 =>
  bif (!y3.2.2) || ((y3.1.length : Int) == 0) then
    bnd ((([] : List Int), ([] : List Int))) fun x4 =>
    some (x4, false)
  else
  (nat_Div p0 y2).bind fun y5 =>
  bnd ((y5.1, y3.1)) fun x6 =>
  some (x6, true)
theorem ratio_Make.ok {p0 : List Int} {p1 : List Int} {r : D_api_Ratio × Bool} (h : ratio_Make p0 p1 = some r) : ACall prog 94 [⟨.slice (.int .u32), p0⟩, ⟨.slice (.int .u32), p1⟩] [⟨0, T_api_Ratio, r.1⟩, ⟨0, .bool, r.2⟩] := by
  replace h := Leads.of h
  unfold ratio_Make at h
  refine AC func94 rfl fun w0 F0 hw0 => ?_
  refine W_seq ?_
  refine R1 h [] (fun x1 => [(0, .v 0 (.slice (.int .u32)) p0), (1, .v 0 (.slice (.int .u32)) p1), (4, .box 9 T_api_Ratio x1)]) pz fun x1 h => ?_
  refine W_seq ?_
  obtain ⟨y2, ey2, h⟩ := h.bind
  refine R [.res [(9, ⟨9, .slice (.int .u32), y2⟩)]] [(0, .v 0 (.slice (.int .u32)) p0), (1, .v 0 (.slice (.int .u32)) p1), (4, .box 9 T_api_Ratio x1), (6, .v 9 (.slice (.int .u32)) y2)] (ps (nat_Gcd.ok ey2)) ?_
  refine W_seq ?_
  obtain ⟨y3, ey3, h⟩ := h.bind
  refine R [.res [(9, ⟨9, .slice (.int .u32), y3.1⟩), (9, ⟨9, .slice (.int .u32), y3.2.1⟩), (0, ⟨0, .bool, y3.2.2⟩)]] [(0, .v 0 (.slice (.int .u32)) p0), (4, .box 9 T_api_Ratio x1), (6, .v 9 (.slice (.int .u32)) y2), (7, .v 9 (.slice (.int .u32)) y3.1), (9, .v 0 .bool y3.2.2)] (ps (nat_Div.ok ey3)) ?_
  refine W_seq (W_seq ?_)
  refine R [] [(0, .v 0 (.slice (.int .u32)) p0), (4, .box 9 T_api_Ratio x1), (6, .v 9 (.slice (.int .u32)) y2), (7, .v 9 (.slice (.int .u32)) y3.1), (29, .v 0 .bool ((!y3.2.2) || ((y3.1.length : Int) == 0)))] pz ?_
  refine C h (fun h => ?_) fun h => ?_
  · refine W_seq ?_
    refine R1 h [] (fun x4 => [(4, .box 0 T_api_Ratio x4), (5, .v 0 .bool false)]) pz fun x4 h => ?_
    cases h
    exact Rt hw0
  refine W_skip (W_seq ?_)
  obtain ⟨y5, ey5, h⟩ := h.bind
  refine R [.res [(9, ⟨9, .slice (.int .u32), y5.1⟩), (9, ⟨9, .slice (.int .u32), y5.2.1⟩), (0, ⟨0, .bool, y5.2.2⟩)]] [(4, .box 9 T_api_Ratio x1), (7, .v 9 (.slice (.int .u32)) y3.1), (10, .v 9 (.slice (.int .u32)) y5.1)] (ps (nat_Div.ok ey5)) ?_
  refine W_seq ?_
  refine K (E' := [(4, .box 9 T_api_Ratio x1), (7, .v 0 (.slice (.int .u32)) y3.1), (10, .v 0 (.slice (.int .u32)) y5.1)]) ?_
  refine R1 h [] (fun x6 => [(4, .box 0 T_api_Ratio x6), (5, .v 0 .bool true)]) pz fun x6 h => ?_
  cases h
  exact Rt hw0

def ratio_Of (p0 : Int) (p1 : Int) : Option (D_api_Ratio × Bool) :=
  bnd ((([] : List Int), ([] : List Int))) fun x1 =>
  (nat_Of p0).bind fun y2 =>
  (nat_Of p1).bind fun y3 =>
  (ratio_Make y2 y3).bind fun y4 =>
  some (y4.1, y4.2)
theorem ratio_Of.ok {p0 : Int} {p1 : Int} {r : D_api_Ratio × Bool} (h : ratio_Of p0 p1 = some r) : ACall prog 63 [⟨.int .u64, p0⟩, ⟨.int .u64, p1⟩] [⟨0, T_api_Ratio, r.1⟩, ⟨0, .bool, r.2⟩] := by
  replace h := Leads.of h
  unfold ratio_Of at h
  refine AC func63 rfl fun w0 F0 hw0 => ?_
  refine W_seq ?_
  refine R1 h [] (fun x1 => [(0, .v 0 (.int .u64) p0), (1, .v 0 (.int .u64) p1), (4, .box 9 T_api_Ratio x1)]) pz fun x1 h => ?_
  refine W_seq ?_
  obtain ⟨y2, ey2, h⟩ := h.bind
  obtain ⟨y3, ey3, h⟩ := h.bind
  obtain ⟨y4, ey4, h⟩ := h.bind
  refine R [.res [(0, ⟨9, .slice (.int .u32), y2⟩)], .res [(0, ⟨9, .slice (.int .u32), y3⟩)], .res [(0, ⟨0, T_api_Ratio, y4.1⟩), (0, ⟨0, .bool, y4.2⟩)]] [(4, .box 0 T_api_Ratio y4.1), (5, .v 0 .bool y4.2)] (pc (nat_Of.ok ey2) (pc (nat_Of.ok ey3) (ps (ratio_Make.ok ey4)))) ?_
  cases h
  exact Rt hw0

def factor_Of (p0 : D_api_Thread) : Option D_api_Ratio :=
  bnd ((([] : List Int), ([] : List Int))) fun x1 =>
  bif (decide (p0.2.2.2.1 < 1)) || (decide (p0.2.2.2.2 < 1)) then
    (ratio_Zero).bind fun y2 =>
    some y2
  else
  (ratio_Of (u64.wrap p0.2.2.2.1) (u64.wrap p0.2.2.2.2)).bind fun y3 =>
  some y3.1
theorem factor_Of.ok {p0 : D_api_Thread} {r : D_api_Ratio} (h : factor_Of p0 = some r) : ACall prog 15 [⟨T_api_Thread, p0⟩] [⟨0, T_api_Ratio, r⟩] := by
  replace h := Leads.of h
  unfold factor_Of at h
  refine AC func15 rfl fun w0 F0 hw0 => ?_
  refine W_seq ?_
  refine R1 h [] (fun x1 => [(1, .box 9 T_api_Thread p0), (2, .box 9 T_api_Ratio x1)]) pz fun x1 h => ?_
  refine W_seq (W_seq ?_)
  refine R [] [(1, .box 9 T_api_Thread p0), (2, .box 9 T_api_Ratio x1), (12, .v 0 .bool ((decide (p0.2.2.2.1 < 1)) || (decide (p0.2.2.2.2 < 1))))] pz ?_
  refine C h (fun h => ?_) fun h => ?_
  · refine W_seq ?_
    obtain ⟨y2, ey2, h⟩ := h.bind
    refine R [.res [(0, ⟨0, T_api_Ratio, y2⟩)]] [(2, .box 0 T_api_Ratio y2)] (ps (ratio_Zero.ok ey2)) ?_
    cases h
    exact Rt hw0
  refine W_skip (W_seq ?_)
  obtain ⟨y3, ey3, h⟩ := h.bind
  refine R [.res [(0, ⟨0, T_api_Ratio, y3.1⟩), (0, ⟨0, .bool, y3.2⟩)]] [(2, .box 9 T_api_Ratio x1), (3, .box 0 T_api_Ratio y3.1)] (ps (ratio_Of.ok ey3)) ?_
  refine W_seq ?_
  refine R [] [(2, .box 0 T_api_Ratio y3.1)] pz ?_
  cases h
  exact Rt hw0

def r03_Out_j1 (x1 : List Int) : Option (List Int) :=
  some x1
def r03_Out_j2 (x2 : List Int) (x3 : Int) (x5 : Int) : Option (((List Int) × Int) ⊕ (List Int)) :=
  ass (((x2.length + [x5].length : Nat) : Int) ≤ limA) <|
  bnd (x2 ++ [x5]) fun x6 =>
  bnd (i64.wrap (x3 + 2)) fun x7 =>
  some (.inl (x6, x7))
def r03_Out_b1 (p0 : D_r01_Nat) (x2 : List Int) (x3 : Int) : Option (((List Int) × Int) ⊕ (List Int)) :=
  bif decide (x3 < (p0.length : Int)) then
    ass (0 ≤ x3 ∧ x3 < (p0.length : Int)) <|
    bnd (u32.wrap (rd (0 : Int) p0 x3)) fun x4 =>
    bif decide ((i64.wrap (x3 + 1)) < (p0.length : Int)) then
      ass (0 ≤ i64.wrap (x3 + 1) ∧ i64.wrap (x3 + 1) < (p0.length : Int)) <|
      bnd (u32.wrap (x4 + (u32.wrap ((u32.wrap (rd (0 : Int) p0 (i64.wrap (x3 + 1)))) * 65536)))) fun x8 =>
      r03_Out_j2 x2 x3 x8
    else
    r03_Out_j2 x2 x3 x4
  else
  (r03_Out_j1 x2).map .inr
def r03_Out (p0 : D_r01_Nat) : Option (List Int) :=
  loopM (fun x : (List Int) × Int => r03_Out_b1 p0 x.1 x.2) (([] : List Int), (0 : Int))
theorem r03_Out.ok {p0 : D_r01_Nat} {r : List Int} (h : r03_Out p0 = some r) : ACall prog 57 [⟨T_r01_Nat, p0⟩] [⟨9, .slice (.int .u32), r⟩] := by
  replace h := Leads.of h
  unfold r03_Out at h
  refine AC func57 rfl fun w0 F0 hw0 => ?_
  refine W_seq ?_
  refine R [] [(1, .box 0 T_r01_Nat p0)] pz ?_
  refine W_seq ?_
  refine R [] [(1, .box 0 T_r01_Nat p0), (3, .v 9 (.slice (.int .u32)) ([] : List Int))] pz ?_
  refine W_seq (W_seq ?_)
  refine R [] [(1, .box 0 T_r01_Nat p0), (3, .v 9 (.slice (.int .u32)) ([] : List Int)), (4, .v 0 (.int .i64) (0 : Int))] pz ?_
  refine J1 h r03_Out_j1 (fun x1 => [(3, .v 9 (.slice (.int .u32)) x1)]) (fun x1 h => ?_) fun j1 => ?_
  · unfold r03_Out_j1 at h
    refine W_seq ?_
    refine R [] [(2, .v 9 (.slice (.int .u32)) x1)] pz ?_
    cases h
    exact Rt hw0
  refine W_block ?_
  refine L2 h (fun x2 x3 => [(1, .box 0 T_r01_Nat p0), (3, .v 9 (.slice (.int .u32)) x2), (4, .v 0 (.int .i64) x3)]) fun x2 x3 _ h => ?_
  unfold r03_Out_b1 at h
  refine W_seq (W_seq ?_)
  refine R [] [(1, .box 0 T_r01_Nat p0), (3, .v 9 (.slice (.int .u32)) x2), (4, .v 0 (.int .i64) x3), (10, .v 0 .bool (decide (x3 < (p0.length : Int))))] pz ?_
  refine C h (fun h => ?_) fun h => ?_
  · refine W_skip (W_seq (W_block (W_seq ?_)))
    obtain ⟨o1, h⟩ := h.ass
    refine R1 h [] (fun x4 => [(1, .box 0 T_r01_Nat p0), (3, .v 9 (.slice (.int .u32)) x2), (4, .v 0 (.int .i64) x3), (5, .v 0 (.int .u32) x4)]) (ps o1) fun x4 h => ?_
    refine W_seq (W_seq ?_)
    refine R [] [(1, .box 0 T_r01_Nat p0), (3, .v 9 (.slice (.int .u32)) x2), (4, .v 0 (.int .i64) x3), (5, .v 0 (.int .u32) x4), (24, .v 0 .bool (decide ((i64.wrap (x3 + 1)) < (p0.length : Int))))] pz ?_
    refine J1 h (r03_Out_j2 x2 x3) (fun x5 => [(1, .box 0 T_r01_Nat p0), (3, .v 9 (.slice (.int .u32)) x2), (4, .v 0 (.int .i64) x3), (5, .v 0 (.int .u32) x5)]) (fun x5 h => ?_) fun j2 => ?_
    · unfold r03_Out_j2 at h
      obtain ⟨o1, h⟩ := h.ass
      refine R1 h [] (fun x6 => [(1, .box 0 T_r01_Nat p0), (3, .v 9 (.slice (.int .u32)) x6), (4, .v 0 (.int .i64) x3)]) (ps o1) fun x6 h => ?_
      refine W_blk ?_
      refine R1 h [] (fun x7 => [(1, .box 0 T_r01_Nat p0), (3, .v 9 (.slice (.int .u32)) x6), (4, .v 0 (.int .i64) x7)]) pz fun x7 h => ?_
      exact B h
    refine C h (fun h => ?_) fun h => ?_
    · obtain ⟨o1, h⟩ := h.ass
      refine R1 h [] (fun x8 => [(1, .box 0 T_r01_Nat p0), (3, .v 9 (.slice (.int .u32)) x2), (4, .v 0 (.int .i64) x3), (5, .v 0 (.int .u32) x8)]) (ps o1) fun x8 h => ?_
      exact K (j2 x8 h)
    refine W_skip ?_
    exact K (j2 x4 h)
  refine W_exit rfl ?_
  exact K (j1 x2 h.back)

def r03_Same_j1 : Option (Bool) :=
  some true
def r03_Same_b1 (p0 : List Int) (p1 : List Int) (x1 : Int) : Option (Int ⊕ Bool) :=
  bif decide (x1 < (p0.length : Int)) then
    ass (0 ≤ x1 ∧ x1 < (p0.length : Int)) <|
    ass (0 ≤ x1 ∧ x1 < (p1.length : Int)) <|
    bif (rd (0 : Int) p0 x1) != (rd (0 : Int) p1 x1) then
      some (.inr false)
    else
    bnd (i64.wrap (x1 + 1)) fun x2 =>
    some (.inl x2)
  else
  (r03_Same_j1).map .inr
def r03_Same (p0 : List Int) (p1 : List Int) : Option Bool :=
  bif (p0.length : Int) != (p1.length : Int) then
    some false
  else
  loopM (fun x : Int => r03_Same_b1 p0 p1 x) (0 : Int)
theorem r03_Same.ok {p0 : List Int} {p1 : List Int} {r : Bool} (h : r03_Same p0 p1 = some r) : ACall prog 55 [⟨.slice (.int .u32), p0⟩, ⟨.slice (.int .u32), p1⟩] [⟨0, .bool, r⟩] := by
  replace h := Leads.of h
  unfold r03_Same at h
  refine AC func55 rfl fun w0 F0 hw0 => ?_
  refine W_seq ?_
  refine R [] [(0, .v 0 (.slice (.int .u32)) p0), (1, .v 0 (.slice (.int .u32)) p1)] pz ?_
  refine W_seq (W_seq ?_)
  refine R [] [(0, .v 0 (.slice (.int .u32)) p0), (1, .v 0 (.slice (.int .u32)) p1), (10, .v 0 .bool ((p0.length : Int) != (p1.length : Int)))] pz ?_
  refine C h (fun h => ?_) fun h => ?_
  · refine W_seq ?_
    refine R [] [(4, .v 0 .bool false)] pz ?_
    cases h
    exact Rt hw0
  refine W_skip (W_seq (W_seq ?_))
  refine R [] [(0, .v 0 (.slice (.int .u32)) p0), (1, .v 0 (.slice (.int .u32)) p1), (5, .v 0 (.int .i64) (0 : Int))] pz ?_
  refine J0 h r03_Same_j1 ([]) (fun h => ?_) fun j1 => ?_
  · unfold r03_Same_j1 at h
    refine W_seq ?_
    refine R [] [(4, .v 0 .bool true)] pz ?_
    cases h
    exact Rt hw0
  refine W_block ?_
  refine L1 h (fun x1 => [(0, .v 0 (.slice (.int .u32)) p0), (1, .v 0 (.slice (.int .u32)) p1), (5, .v 0 (.int .i64) x1)]) fun x1 _ h => ?_
  unfold r03_Same_b1 at h
  refine W_seq (W_seq ?_)
  refine R [] [(0, .v 0 (.slice (.int .u32)) p0), (1, .v 0 (.slice (.int .u32)) p1), (5, .v 0 (.int .i64) x1), (14, .v 0 .bool (decide (x1 < (p0.length : Int))))] pz ?_
  refine C h (fun h => ?_) fun h => ?_
  · refine W_skip (W_seq (W_block (W_seq ?_)))
    obtain ⟨o1, h⟩ := h.ass
    obtain ⟨o2, h⟩ := h.ass
    refine R [] [(0, .v 0 (.slice (.int .u32)) p0), (1, .v 0 (.slice (.int .u32)) p1), (5, .v 0 (.int .i64) x1), (25, .v 0 .bool ((rd (0 : Int) p0 x1) != (rd (0 : Int) p1 x1)))] (pc o1 (ps o2)) ?_
    refine C h (fun h => ?_) fun h => ?_
    · refine W_seq ?_
      refine R [] [(4, .v 0 .bool false)] pz ?_
      cases h
      exact Rt hw0
    refine W_skip (W_blk ?_)
    refine R1 h [] (fun x2 => [(0, .v 0 (.slice (.int .u32)) p0), (1, .v 0 (.slice (.int .u32)) p1), (5, .v 0 (.int .i64) x2)]) pz fun x2 h => ?_
    exact B h
  refine W_exit rfl ?_
  exact K (j1 h.back)

def r04_Same (p0 : D_api_Ratio) (p1 : D_r04_Q) : Option Bool :=
  (r03_Out p1.1).bind fun y1 =>
  (r03_Same p0.1 y1).bind fun y2 =>
  (bif y2 then r03_Out p1.2 else some ([] : List Int)).bind fun y3 =>
  (bif y2 then r03_Same p0.2 y3 else some false).bind fun y4 =>
  bnd (y2 && y4) fun x5 =>
  some x5
theorem r04_Same.ok {p0 : D_api_Ratio} {p1 : D_r04_Q} {r : Bool} (h : r04_Same p0 p1 = some r) : ACall prog 14 [⟨T_api_Ratio, p0⟩, ⟨T_r04_Q, p1⟩] [⟨0, .bool, r⟩] := by
  replace h := Leads.of h
  unfold r04_Same at h
  refine AC func14 rfl fun w0 F0 hw0 => ?_
  refine W_seq ?_
  refine R [] [(2, .box 0 T_api_Ratio p0), (3, .box 0 T_r04_Q p1)] pz ?_
  refine W_seq ?_
  obtain ⟨y1, ey1, h⟩ := h.bind
  obtain ⟨y2, ey2, h⟩ := h.bind
  obtain ⟨y3, ey3, h⟩ := h.bind
  obtain ⟨y4, ey4, h⟩ := h.bind
  refine R1 h [.res [(9, ⟨9, .slice (.int .u32), y1⟩)], .res [(0, ⟨0, .bool, y2⟩)], .res [(0, ⟨9, .slice (.int .u32), y3⟩)], .res [(0, ⟨0, .bool, y4⟩)]] (fun x5 => [(4, .v 0 .bool x5)]) (pc (r03_Out.ok ey1) (pc (r03_Same.ok ey2) (pc (fun hc => r03_Out.ok (bif_some ey3 hc)) (ps (fun hc => r03_Same.ok (bif_some ey4 hc)))))) fun x5 h => ?_
  cases h
  exact Rt hw0

def r14_Small (p0 : D_api_State) : Option Bool :=
  bnd (((((decide ((p0.1.length : Int) ≤ 40)) && (decide ((p0.2.1.length : Int) ≤ 200))) && (decide ((p0.2.2.1.length : Int) ≤ 80))) && (decide ((p0.2.2.2.1.length : Int) ≤ 40))) && (decide ((p0.2.2.2.2.1.length : Int) ≤ 100))) fun x1 =>
  some x1
theorem r14_Small.ok {p0 : D_api_State} {r : Bool} (h : r14_Small p0 = some r) : ACall prog 16 [⟨T_api_State, p0⟩] [⟨0, .bool, r⟩] := by
  replace h := Leads.of h
  unfold r14_Small at h
  refine AC func16 rfl fun w0 F0 hw0 => ?_
  refine W_seq ?_
  refine R [] [(1, .box 0 T_api_State p0)] pz ?_
  refine W_seq ?_
  refine R1 h [] (fun x1 => [(2, .v 0 .bool x1)]) pz fun x1 h => ?_
  cases h
  exact Rt hw0

def r17_Light_j1 (p0 : D_api_State) (x1 : Int) : Option (Bool) :=
  bnd ((decide ((p0.2.1.length : Int) ≤ 30)) && (decide (x1 ≤ 8))) fun x2 =>
  some x2
def r17_Light_j2 (x4 : Int) (x5 : Int) : Option ((Int × Int) ⊕ Bool) :=
  bnd (i64.wrap (x4 + 1)) fun x6 =>
  some (.inl (x5, x6))
def r17_Light_b1 (p0 : D_api_State) (x3 : Int) (x4 : Int) : Option ((Int × Int) ⊕ Bool) :=
  bif decide (x4 < (p0.2.1.length : Int)) then
    ass (0 ≤ x4 ∧ x4 < (p0.2.1.length : Int)) <|
    bif (rd z_api_Ticket p0.2.1 x4).2.2.2.1 == 2 then
      bnd (i64.wrap (x3 + 1)) fun x7 =>
      r17_Light_j2 x4 x7
    else
    r17_Light_j2 x4 x3
  else
  (r17_Light_j1 p0 x3).map .inr
def r17_Light (p0 : D_api_State) : Option Bool :=
  loopM (fun x : Int × Int => r17_Light_b1 p0 x.1 x.2) ((0 : Int), (0 : Int))
theorem r17_Light.ok {p0 : D_api_State} {r : Bool} (h : r17_Light p0 = some r) : ACall prog 17 [⟨T_api_State, p0⟩] [⟨0, .bool, r⟩] := by
  replace h := Leads.of h
  unfold r17_Light at h
  refine AC func17 rfl fun w0 F0 hw0 => ?_
  refine W_seq ?_
  refine R [] [(1, .box 0 T_api_State p0)] pz ?_
  refine W_seq ?_
  refine R [] [(1, .box 0 T_api_State p0), (3, .v 0 (.int .i64) (0 : Int))] pz ?_
  refine W_seq (W_seq ?_)
  refine R [] [(1, .box 0 T_api_State p0), (3, .v 0 (.int .i64) (0 : Int)), (4, .v 0 (.int .i64) (0 : Int))] pz ?_
  refine J1 h (r17_Light_j1 p0) (fun x1 => [(1, .box 0 T_api_State p0), (3, .v 0 (.int .i64) x1)]) (fun x1 h => ?_) fun j1 => ?_
  · unfold r17_Light_j1 at h
    refine W_seq ?_
    refine R1 h [] (fun x2 => [(2, .v 0 .bool x2)]) pz fun x2 h => ?_
    cases h
    exact Rt hw0
  refine W_block ?_
  refine L2 h (fun x3 x4 => [(1, .box 0 T_api_State p0), (3, .v 0 (.int .i64) x3), (4, .v 0 (.int .i64) x4)]) fun x3 x4 _ h => ?_
  unfold r17_Light_b1 at h
  refine W_seq (W_seq ?_)
  refine R [] [(1, .box 0 T_api_State p0), (3, .v 0 (.int .i64) x3), (4, .v 0 (.int .i64) x4), (9, .v 0 .bool (decide (x4 < (p0.2.1.length : Int))))] pz ?_
  refine C h (fun h => ?_) fun h => ?_
  · refine W_skip (W_seq (W_block (W_seq ?_)))
    obtain ⟨o1, h⟩ := h.ass
    refine R [] [(1, .box 0 T_api_State p0), (3, .v 0 (.int .i64) x3), (4, .v 0 (.int .i64) x4), (18, .v 0 .bool ((rd z_api_Ticket p0.2.1 x4).2.2.2.1 == 2))] (ps o1) ?_
    refine J1 h (r17_Light_j2 x4) (fun x5 => [(1, .box 0 T_api_State p0), (3, .v 0 (.int .i64) x5), (4, .v 0 (.int .i64) x4)]) (fun x5 h => ?_) fun j2 => ?_
    · unfold r17_Light_j2 at h
      refine W_blk ?_
      refine R1 h [] (fun x6 => [(1, .box 0 T_api_State p0), (3, .v 0 (.int .i64) x5), (4, .v 0 (.int .i64) x6)]) pz fun x6 h => ?_
      exact B h
    refine C h (fun h => ?_) fun h => ?_
    · refine R1 h [] (fun x7 => [(1, .box 0 T_api_State p0), (3, .v 0 (.int .i64) x7), (4, .v 0 (.int .i64) x4)]) pz fun x7 h => ?_
      exact K (j2 x7 h)
    refine W_skip ?_
    exact K (j2 x3 h)
  refine W_exit rfl ?_
  exact K (j1 x3 h.back)

def r14_Thread (p0 : D_api_State) (p1 : Int) : Option Bool :=
  ass (((decide (p1 ≥ 0)) && (decide (p1 < (p0.2.2.1.length : Int)))) = true → 0 ≤ p1 ∧ p1 < (p0.2.2.1.length : Int)) <|
  bnd (((decide (p1 ≥ 0)) && (decide (p1 < (p0.2.2.1.length : Int)))) && ((rd z_api_Thread p0.2.2.1 p1).1 != 0)) fun x1 =>
  some x1
theorem r14_Thread.ok {p0 : D_api_State} {p1 : Int} {r : Bool} (h : r14_Thread p0 p1 = some r) : ACall prog 25 [⟨T_api_State, p0⟩, ⟨.int .i64, p1⟩] [⟨0, .bool, r⟩] := by
  replace h := Leads.of h
  unfold r14_Thread at h
  refine AC func25 rfl fun w0 F0 hw0 => ?_
  refine W_seq ?_
  refine R [] [(1, .v 0 (.int .i64) p1), (2, .box 0 T_api_State p0)] pz ?_
  refine W_seq ?_
  obtain ⟨o1, h⟩ := h.ass
  refine R1 h [] (fun x1 => [(4, .v 0 .bool x1)]) (ps o1) fun x1 h => ?_
  cases h
  exact Rt hw0

def r14_Coin (p0 : D_api_State) (p1 : Int) : Option Bool :=
  ass (((decide (p1 ≥ 0)) && (decide (p1 < (p0.1.length : Int)))) = true → 0 ≤ p1 ∧ p1 < (p0.1.length : Int)) <|
  bnd (((decide (p1 ≥ 0)) && (decide (p1 < (p0.1.length : Int)))) && (rd false p0.1 p1)) fun x1 =>
  some x1
theorem r14_Coin.ok {p0 : D_api_State} {p1 : Int} {r : Bool} (h : r14_Coin p0 p1 = some r) : ACall prog 102 [⟨T_api_State, p0⟩, ⟨.int .i64, p1⟩] [⟨0, .bool, r⟩] := by
  replace h := Leads.of h
  unfold r14_Coin at h
  refine AC func102 rfl fun w0 F0 hw0 => ?_
  refine W_seq ?_
  refine R [] [(1, .v 0 (.int .i64) p1), (2, .box 0 T_api_State p0)] pz ?_
  refine W_seq ?_
  obtain ⟨o1, h⟩ := h.ass
  refine R1 h [] (fun x1 => [(4, .v 0 .bool x1)]) (ps o1) fun x1 h => ?_
  cases h
  exact Rt hw0

def r14_tickets_j1 (p0 : D_api_State) : Option (Bool) :=
  ass (((decide ((p0.2.1.length : Int) ≤ 96)) && (!((p0.2.1.length : Int) == 0))) = true → 0 ≤ i64.wrap ((p0.2.1.length : Int) - 1) ∧ i64.wrap ((p0.2.1.length : Int) - 1) < (p0.2.1.length : Int)) <|
  bnd ((decide ((p0.2.1.length : Int) ≤ 96)) && (((p0.2.1.length : Int) == 0) || (rd z_api_Ticket p0.2.1 (i64.wrap ((p0.2.1.length : Int) - 1))).1)) fun x1 =>
  some x1
def r14_tickets_j2 (x2 : Int) : Option (Int ⊕ Bool) :=
  bnd (i64.wrap (x2 + 1)) fun x3 =>
  some (.inl x3)
def r14_tickets_b1 (p0 : D_api_State) (x2 : Int) : Option (Int ⊕ Bool) :=
  bif decide (x2 < (p0.2.1.length : Int)) then
    ass (0 ≤ x2 ∧ x2 < (p0.2.1.length : Int)) <|
    bnd (rd z_api_Ticket p0.2.1 x2) fun x4 =>
    bif !x4.1 then
      bif !(Ty.beq T_api_Ticket x4 (false, (0 : Int), (0 : Int), (0 : Int), (0 : Int), false)) then
        some (.inr false)
      else
      r14_tickets_j2 x2
    else
    (bif (!((x4.2.2.2.1 == 0) && (x4.2.2.2.2.1 == 0))) && (x4.2.2.2.1 == 1) then r14_Thread p0 x4.2.2.2.2.1 else some false).bind fun y5 =>
    (bif (!(((x4.2.2.2.1 == 0) && (x4.2.2.2.2.1 == 0)) || ((x4.2.2.2.1 == 1) && y5))) && ((x4.2.2.2.1 == 2) && (x4.2.2.2.2.1 != 0)) then r14_Coin p0 x4.2.2.2.2.1 else some false).bind fun y6 =>
    bnd ((((x4.2.2.2.1 == 0) && (x4.2.2.2.2.1 == 0)) || ((x4.2.2.2.1 == 1) && y5)) || (((x4.2.2.2.1 == 2) && (x4.2.2.2.2.1 != 0)) && y6)) fun x7 =>
    (r14_Coin p0 x4.2.1).bind fun y8 =>
    bif (((!y8) || (decide (x4.2.2.1 < 1))) || (decide (x4.2.2.1 > 1048576))) || (!x7) then
      some (.inr false)
    else
    r14_tickets_j2 x2
  else
  (r14_tickets_j1 p0).map .inr
def r14_tickets (p0 : D_api_State) : Option Bool :=
  loopM (fun x : Int => r14_tickets_b1 p0 x) (0 : Int)
theorem r14_tickets.ok {p0 : D_api_State} {r : Bool} (h : r14_tickets p0 = some r) : ACall prog 64 [⟨T_api_State, p0⟩] [⟨0, .bool, r⟩] := by
  replace h := Leads.of h
  unfold r14_tickets at h
  refine AC func64 rfl fun w0 F0 hw0 => ?_
  refine W_seq ?_
  refine R [] [(1, .box 0 T_api_State p0)] pz ?_
  refine W_seq (W_seq ?_)
  refine R [] [(1, .box 0 T_api_State p0), (3, .v 0 (.int .i64) (0 : Int))] pz ?_
  refine J0 h (r14_tickets_j1 p0) ([(1, .box 0 T_api_State p0)]) (fun h => ?_) fun j1 => ?_
  · unfold r14_tickets_j1 at h
    refine W_seq ?_
    refine R [] [(1, .box 0 T_api_State p0), (6, .v 0 (.int .i64) (p0.2.1.length : Int))] pz ?_
    refine W_seq ?_
    obtain ⟨o1, h⟩ := h.ass
    refine R1 h [] (fun x1 => [(2, .v 0 .bool x1)]) (ps o1) fun x1 h => ?_
    cases h
    exact Rt hw0
  refine W_block ?_
  refine L1 h (fun x2 => [(1, .box 0 T_api_State p0), (3, .v 0 (.int .i64) x2)]) fun x2 _ h => ?_
  unfold r14_tickets_b1 at h
  refine W_seq (W_seq ?_)
  refine R [] [(1, .box 0 T_api_State p0), (3, .v 0 (.int .i64) x2), (11, .v 0 .bool (decide (x2 < (p0.2.1.length : Int))))] pz ?_
  refine C h (fun h => ?_) fun h => ?_
  · refine W_skip (W_seq ?_)
    refine J0 h (r14_tickets_j2 x2) ([(1, .box 0 T_api_State p0), (3, .v 0 (.int .i64) x2)]) (fun h => ?_) fun j2 => ?_
    · unfold r14_tickets_j2 at h
      refine R1 h [] (fun x3 => [(1, .box 0 T_api_State p0), (3, .v 0 (.int .i64) x3)]) pz fun x3 h => ?_
      exact B h
    refine W_block (W_seq ?_)
    obtain ⟨o1, h⟩ := h.ass
    refine R1 h [] (fun x4 => [(1, .box 0 T_api_State p0), (3, .v 0 (.int .i64) x2), (4, .box 9 T_api_Ticket x4)]) (ps o1) fun x4 h => ?_
    refine W_seq (W_seq ?_)
    refine R [] [(1, .box 0 T_api_State p0), (3, .v 0 (.int .i64) x2), (4, .box 9 T_api_Ticket x4), (21, .v 0 .bool (!x4.1))] pz ?_
    refine C h (fun h => ?_) fun h => ?_
    · refine W_seq (W_seq ?_)
      refine R [] [(1, .box 0 T_api_State p0), (3, .v 0 (.int .i64) x2), (24, .v 0 .bool (!(Ty.beq T_api_Ticket x4 (false, (0 : Int), (0 : Int), (0 : Int), (0 : Int), false))))] pz ?_
      refine C h (fun h => ?_) fun h => ?_
      · refine W_seq ?_
        refine R [] [(2, .v 0 .bool false)] pz ?_
        cases h
        exact Rt hw0
      refine W_skip (W_exit rfl ?_)
      exact K (j2 h)
    refine W_skip (W_seq ?_)
    obtain ⟨y5, ey5, h⟩ := h.bind
    obtain ⟨y6, ey6, h⟩ := h.bind
    refine R1 h [.res [(0, ⟨0, .bool, y5⟩)], .res [(0, ⟨0, .bool, y6⟩)]] (fun x7 => [(1, .box 0 T_api_State p0), (3, .v 0 (.int .i64) x2), (4, .box 9 T_api_Ticket x4), (5, .v 0 .bool x7)]) (pc (fun hc => r14_Thread.ok (bif_some ey5 hc)) (ps (fun hc => r14_Coin.ok (bif_some ey6 hc)))) fun x7 h => ?_
    refine W_seq ?_
    obtain ⟨y8, ey8, h⟩ := h.bind
    refine R [.res [(0, ⟨0, .bool, y8⟩)]] [(1, .box 0 T_api_State p0), (3, .v 0 (.int .i64) x2), (78, .v 0 .bool ((((!y8) || (decide (x4.2.2.1 < 1))) || (decide (x4.2.2.1 > 1048576))) || (!x7)))] (ps (r14_Coin.ok ey8)) ?_
    refine C h (fun h => ?_) fun h => ?_
    · refine W_seq ?_
      refine R [] [(2, .v 0 .bool false)] pz ?_
      cases h
      exact Rt hw0
    refine W_skip (W_blk ?_)
    exact K (j2 h)
  refine W_exit rfl ?_
  exact K (j1 h.back)

def r14_Lock (p0 : D_api_State) (p1 : Int) : Option Bool :=
  ass (((decide (p1 ≥ 0)) && (decide (p1 < (p0.2.2.2.1.length : Int)))) = true → 0 ≤ p1 ∧ p1 < (p0.2.2.2.1.length : Int)) <|
  bnd (((decide (p1 ≥ 0)) && (decide (p1 < (p0.2.2.2.1.length : Int)))) && (rd z_api_Lock p0.2.2.2.1 p1).1) fun x1 =>
  some x1
theorem r14_Lock.ok {p0 : D_api_State} {p1 : Int} {r : Bool} (h : r14_Lock p0 p1 = some r) : ACall prog 103 [⟨T_api_State, p0⟩, ⟨.int .i64, p1⟩] [⟨0, .bool, r⟩] := by
  replace h := Leads.of h
  unfold r14_Lock at h
  refine AC func103 rfl fun w0 F0 hw0 => ?_
  refine W_seq ?_
  refine R [] [(1, .v 0 (.int .i64) p1), (2, .box 0 T_api_State p0)] pz ?_
  refine W_seq ?_
  obtain ⟨o1, h⟩ := h.ass
  refine R1 h [] (fun x1 => [(4, .v 0 .bool x1)]) (ps o1) fun x1 h => ?_
  cases h
  exact Rt hw0

def r14_Is (p0 : D_api_State) (p1 : Int) (p2 : Int) (p3 : Int) : Option Bool :=
  (r14_Thread p0 p1).bind fun y1 =>
  ass (y1 = true → 0 ≤ p1 ∧ p1 < (p0.2.2.1.length : Int)) <|
  ass ((y1 && ((rd z_api_Thread p0.2.2.1 p1).1 == p2)) = true → 0 ≤ p1 ∧ p1 < (p0.2.2.1.length : Int)) <|
  bnd ((y1 && ((rd z_api_Thread p0.2.2.1 p1).1 == p2)) && ((rd z_api_Thread p0.2.2.1 p1).2.1 == p3)) fun x2 =>
  some x2
theorem r14_Is.ok {p0 : D_api_State} {p1 : Int} {p2 : Int} {p3 : Int} {r : Bool} (h : r14_Is p0 p1 p2 p3 = some r) : ACall prog 104 [⟨T_api_State, p0⟩, ⟨.int .i64, p1⟩, ⟨.int .i64, p2⟩, ⟨.int .i64, p3⟩] [⟨0, .bool, r⟩] := by
  replace h := Leads.of h
  unfold r14_Is at h
  refine AC func104 rfl fun w0 F0 hw0 => ?_
  refine W_seq ?_
  refine R [] [(1, .v 0 (.int .i64) p1), (2, .v 0 (.int .i64) p2), (3, .v 0 (.int .i64) p3), (4, .box 0 T_api_State p0)] pz ?_
  refine W_seq ?_
  obtain ⟨y1, ey1, h⟩ := h.bind
  obtain ⟨o1, h⟩ := h.ass
  obtain ⟨o2, h⟩ := h.ass
  refine R1 h [.res [(0, ⟨0, .bool, y1⟩)]] (fun x2 => [(8, .v 0 .bool x2)]) (pc (r14_Thread.ok ey1) (pc o1 (ps o2))) fun x2 h => ?_
  cases h
  exact Rt hw0

def r14_threads_j1 (p0 : D_api_State) (x1 : Int) : Option (Bool) :=
  ass ((((decide (x1 < 2)) && (decide ((p0.2.2.1.length : Int) ≤ 32))) && (!((p0.2.2.1.length : Int) == 0))) = true → 0 ≤ i64.wrap ((p0.2.2.1.length : Int) - 1) ∧ i64.wrap ((p0.2.2.1.length : Int) - 1) < (p0.2.2.1.length : Int)) <|
  bnd (((decide (x1 < 2)) && (decide ((p0.2.2.1.length : Int) ≤ 32))) && (((p0.2.2.1.length : Int) == 0) || ((rd z_api_Thread p0.2.2.1 (i64.wrap ((p0.2.2.1.length : Int) - 1))).1 != 0))) fun x2 =>
  some x2
def r14_threads_j2 (x4 : Int) (x5 : Int) : Option ((Int × Int) ⊕ Bool) :=
  bnd (i64.wrap (x4 + 1)) fun x6 =>
  some (.inl (x5, x6))
def r14_threads_j3 (p0 : D_api_State) (x4 : Int) (x7 : D_api_Thread) (x8 : Int) : Option ((Int × Int) ⊕ Bool) :=
  (bif (!((((decide (x7.1 > 0)) && (decide (x7.1 < 6))) && (x7.1 != 4)) && (x7.2.1 == (-1)))) && ((x7.1 == 4) && (x7.2.1 != x4)) then r14_Thread p0 x7.2.1 else some false).bind fun y9 =>
  (bif (!(((((decide (x7.1 > 0)) && (decide (x7.1 < 6))) && (x7.1 != 4)) && (x7.2.1 == (-1))) || (((x7.1 == 4) && (x7.2.1 != x4)) && y9))) && (x7.1 == 6) then r14_Lock p0 x7.2.1 else some false).bind fun y10 =>
  bnd ((((((decide (x7.1 > 0)) && (decide (x7.1 < 6))) && (x7.1 != 4)) && (x7.2.1 == (-1))) || (((x7.1 == 4) && (x7.2.1 != x4)) && y9)) || ((x7.1 == 6) && y10)) fun x11 =>
  (bif (!(x7.2.2.1 == (-1))) && (x7.1 != 5) then r14_Is p0 x7.2.2.1 (4 : Int) x4 else some false).bind fun y12 =>
  bnd ((x7.2.2.1 == (-1)) || ((x7.1 != 5) && y12)) fun x13 =>
  bnd ((x7.2.2.2.1 == 1) && (x7.2.2.2.2 == 1)) fun x14 =>
  bif ((!x11) || (!x13)) || ((!x14) && (((decide (x7.2.2.2.2 < 1)) || (decide (x7.2.2.2.2 ≥ x7.2.2.2.1))) || (decide (x7.2.2.2.1 > p0.2.2.2.2.2)))) then
    some (.inr false)
  else
  r14_threads_j2 x4 x8
def r14_threads_b1 (p0 : D_api_State) (x3 : Int) (x4 : Int) : Option ((Int × Int) ⊕ Bool) :=
  bif decide (x4 < (p0.2.2.1.length : Int)) then
    ass (0 ≤ x4 ∧ x4 < (p0.2.2.1.length : Int)) <|
    bnd (rd z_api_Thread p0.2.2.1 x4) fun x7 =>
    bif x7.1 == 0 then
      bif !(Ty.beq T_api_Thread x7 ((0 : Int), (0 : Int), (0 : Int), (0 : Int), (0 : Int))) then
        some (.inr false)
      else
      r14_threads_j2 x4 x3
    else
    bif x7.1 == 3 then
      bnd (i64.wrap (x3 + 1)) fun x15 =>
      r14_threads_j3 p0 x4 x7 x15
    else
    r14_threads_j3 p0 x4 x7 x3
  else
  (r14_threads_j1 p0 x3).map .inr
def r14_threads (p0 : D_api_State) : Option Bool :=
  loopM (fun x : Int × Int => r14_threads_b1 p0 x.1 x.2) ((0 : Int), (0 : Int))
theorem r14_threads.ok {p0 : D_api_State} {r : Bool} (h : r14_threads p0 = some r) : ACall prog 65 [⟨T_api_State, p0⟩] [⟨0, .bool, r⟩] := by
  replace h := Leads.of h
  unfold r14_threads at h
  refine AC func65 rfl fun w0 F0 hw0 => ?_
  refine W_seq ?_
  refine R [] [(1, .box 0 T_api_State p0)] pz ?_
  refine W_seq ?_
  refine R [] [(1, .box 0 T_api_State p0), (3, .v 0 (.int .i64) (0 : Int))] pz ?_
  refine W_seq (W_seq ?_)
  refine R [] [(1, .box 0 T_api_State p0), (3, .v 0 (.int .i64) (0 : Int)), (4, .v 0 (.int .i64) (0 : Int))] pz ?_
  refine J1 h (r14_threads_j1 p0) (fun x1 => [(1, .box 0 T_api_State p0), (3, .v 0 (.int .i64) x1)]) (fun x1 h => ?_) fun j1 => ?_
  · unfold r14_threads_j1 at h
    refine W_seq ?_
    refine R [] [(1, .box 0 T_api_State p0), (3, .v 0 (.int .i64) x1), (9, .v 0 (.int .i64) (p0.2.2.1.length : Int))] pz ?_
    refine W_seq ?_
    obtain ⟨o1, h⟩ := h.ass
    refine R1 h [] (fun x2 => [(2, .v 0 .bool x2)]) (ps o1) fun x2 h => ?_
    cases h
    exact Rt hw0
  refine W_block ?_
  refine L2 h (fun x3 x4 => [(1, .box 0 T_api_State p0), (3, .v 0 (.int .i64) x3), (4, .v 0 (.int .i64) x4)]) fun x3 x4 _ h => ?_
  unfold r14_threads_b1 at h
  refine W_seq (W_seq ?_)
  refine R [] [(1, .box 0 T_api_State p0), (3, .v 0 (.int .i64) x3), (4, .v 0 (.int .i64) x4), (14, .v 0 .bool (decide (x4 < (p0.2.2.1.length : Int))))] pz ?_
  refine C h (fun h => ?_) fun h => ?_
  · refine W_skip (W_seq ?_)
    refine J1 h (r14_threads_j2 x4) (fun x5 => [(1, .box 0 T_api_State p0), (3, .v 0 (.int .i64) x5), (4, .v 0 (.int .i64) x4)]) (fun x5 h => ?_) fun j2 => ?_
    · unfold r14_threads_j2 at h
      refine R1 h [] (fun x6 => [(1, .box 0 T_api_State p0), (3, .v 0 (.int .i64) x5), (4, .v 0 (.int .i64) x6)]) pz fun x6 h => ?_
      exact B h
    refine W_block (W_seq ?_)
    obtain ⟨o1, h⟩ := h.ass
    refine R1 h [] (fun x7 => [(1, .box 0 T_api_State p0), (3, .v 0 (.int .i64) x3), (4, .v 0 (.int .i64) x4), (5, .box 9 T_api_Thread x7)]) (ps o1) fun x7 h => ?_
    refine W_seq (W_seq ?_)
    refine R [] [(1, .box 0 T_api_State p0), (3, .v 0 (.int .i64) x3), (4, .v 0 (.int .i64) x4), (5, .box 9 T_api_Thread x7), (24, .v 0 .bool (x7.1 == 0))] pz ?_
    refine C h (fun h => ?_) fun h => ?_
    · refine W_seq (W_seq ?_)
      refine R [] [(1, .box 0 T_api_State p0), (3, .v 0 (.int .i64) x3), (4, .v 0 (.int .i64) x4), (27, .v 0 .bool (!(Ty.beq T_api_Thread x7 ((0 : Int), (0 : Int), (0 : Int), (0 : Int), (0 : Int)))))] pz ?_
      refine C h (fun h => ?_) fun h => ?_
      · refine W_seq ?_
        refine R [] [(2, .v 0 .bool false)] pz ?_
        cases h
        exact Rt hw0
      refine W_skip (W_exit rfl ?_)
      exact K (j2 x3 h)
    refine W_skip (W_seq (W_seq ?_))
    refine R [] [(1, .box 0 T_api_State p0), (3, .v 0 (.int .i64) x3), (4, .v 0 (.int .i64) x4), (5, .box 9 T_api_Thread x7), (30, .v 0 .bool (x7.1 == 3))] pz ?_
    refine J1 h (r14_threads_j3 p0 x4 x7) (fun x8 => [(1, .box 0 T_api_State p0), (3, .v 0 (.int .i64) x8), (4, .v 0 (.int .i64) x4), (5, .box 9 T_api_Thread x7)]) (fun x8 h => ?_) fun j3 => ?_
    · unfold r14_threads_j3 at h
      refine W_seq ?_
      obtain ⟨y9, ey9, h⟩ := h.bind
      obtain ⟨y10, ey10, h⟩ := h.bind
      refine R1 h [.res [(0, ⟨0, .bool, y9⟩)], .res [(0, ⟨0, .bool, y10⟩)]] (fun x11 => [(1, .box 0 T_api_State p0), (3, .v 0 (.int .i64) x8), (4, .v 0 (.int .i64) x4), (5, .box 9 T_api_Thread x7), (6, .v 0 .bool x11)]) (pc (fun hc => r14_Thread.ok (bif_some ey9 hc)) (ps (fun hc => r14_Lock.ok (bif_some ey10 hc)))) fun x11 h => ?_
      refine W_seq ?_
      obtain ⟨y12, ey12, h⟩ := h.bind
      refine R1 h [.res [(0, ⟨0, .bool, y12⟩)]] (fun x13 => [(1, .box 0 T_api_State p0), (3, .v 0 (.int .i64) x8), (4, .v 0 (.int .i64) x4), (5, .box 9 T_api_Thread x7), (6, .v 0 .bool x11), (7, .v 0 .bool x13)]) (ps (fun hc => r14_Is.ok (bif_some ey12 hc))) fun x13 h => ?_
      refine W_seq ?_
      refine R1 h [] (fun x14 => [(1, .box 0 T_api_State p0), (3, .v 0 (.int .i64) x8), (4, .v 0 (.int .i64) x4), (5, .box 9 T_api_Thread x7), (6, .v 0 .bool x11), (7, .v 0 .bool x13), (8, .v 0 .bool x14)]) pz fun x14 h => ?_
      refine W_seq ?_
      refine R [] [(1, .box 0 T_api_State p0), (3, .v 0 (.int .i64) x8), (4, .v 0 (.int .i64) x4), (130, .v 0 .bool (((!x11) || (!x13)) || ((!x14) && (((decide (x7.2.2.2.2 < 1)) || (decide (x7.2.2.2.2 ≥ x7.2.2.2.1))) || (decide (x7.2.2.2.1 > p0.2.2.2.2.2))))))] pz ?_
      refine C h (fun h => ?_) fun h => ?_
      · refine W_seq ?_
        refine R [] [(2, .v 0 .bool false)] pz ?_
        cases h
        exact Rt hw0
      refine W_skip (W_blk ?_)
      exact K (j2 x8 h)
    refine C h (fun h => ?_) fun h => ?_
    · refine R1 h [] (fun x15 => [(1, .box 0 T_api_State p0), (3, .v 0 (.int .i64) x15), (4, .v 0 (.int .i64) x4), (5, .box 9 T_api_Thread x7)]) pz fun x15 h => ?_
      exact K (j3 x15 h)
    refine W_skip ?_
    exact K (j3 x3 h)
  refine W_exit rfl ?_
  exact K (j1 x3 h.back)

def r14_locks_j1 (p0 : D_api_State) : Option (Bool) :=
  ass (((decide ((p0.2.2.2.1.length : Int) ≤ 8)) && (!((p0.2.2.2.1.length : Int) == 0))) = true → 0 ≤ i64.wrap ((p0.2.2.2.1.length : Int) - 1) ∧ i64.wrap ((p0.2.2.2.1.length : Int) - 1) < (p0.2.2.2.1.length : Int)) <|
  bnd ((decide ((p0.2.2.2.1.length : Int) ≤ 8)) && (((p0.2.2.2.1.length : Int) == 0) || (rd z_api_Lock p0.2.2.2.1 (i64.wrap ((p0.2.2.2.1.length : Int) - 1))).1)) fun x1 =>
  some x1
def r14_locks_j2 (x2 : Int) : Option (Int ⊕ Bool) :=
  bnd (i64.wrap (x2 + 1)) fun x3 =>
  some (.inl x3)
def r14_locks_j3 (x2 : Int) : Option (Int ⊕ Bool) :=
  r14_locks_j2 x2
def r14_locks_b2 (p0 : D_api_State) (x2 : Int) (x4 : D_api_Lock) (x6 : Int) : Option (Int ⊕ (Int ⊕ Bool)) :=
  bif decide (x6 < (p0.2.2.1.length : Int)) then
    (r14_Is p0 x6 (6 : Int) x2).bind fun y7 =>
    bif y7 && ((x4.2 == (-1)) || (x4.2 == x6)) then
      some (.inr (.inr false))
    else
    bnd (i64.wrap (x6 + 1)) fun x8 =>
    some (.inl x8)
  else
  (r14_locks_j3 x2).map .inr
def r14_locks_b1 (p0 : D_api_State) (x2 : Int) : Option (Int ⊕ Bool) :=
  bif decide (x2 < (p0.2.2.2.1.length : Int)) then
    ass (0 ≤ x2 ∧ x2 < (p0.2.2.2.1.length : Int)) <|
    bnd (rd z_api_Lock p0.2.2.2.1 x2) fun x4 =>
    bif !x4.1 then
      bif x4.2 != 0 then
        some (.inr false)
      else
      r14_locks_j2 x2
    else
    (bif x4.2 != (-1) then r14_Thread p0 x4.2 else some false).bind fun y5 =>
    bif (x4.2 != (-1)) && (!y5) then
      some (.inr false)
    else
    loopM (fun x : Int => r14_locks_b2 p0 x2 x4 x) (0 : Int)
  else
  (r14_locks_j1 p0).map .inr
def r14_locks (p0 : D_api_State) : Option Bool :=
  loopM (fun x : Int => r14_locks_b1 p0 x) (0 : Int)
theorem r14_locks.ok {p0 : D_api_State} {r : Bool} (h : r14_locks p0 = some r) : ACall prog 66 [⟨T_api_State, p0⟩] [⟨0, .bool, r⟩] := by
  replace h := Leads.of h
  unfold r14_locks at h
  refine AC func66 rfl fun w0 F0 hw0 => ?_
  refine W_seq ?_
  refine R [] [(1, .box 0 T_api_State p0)] pz ?_
  refine W_seq (W_seq ?_)
  refine R [] [(1, .box 0 T_api_State p0), (3, .v 0 (.int .i64) (0 : Int))] pz ?_
  refine J0 h (r14_locks_j1 p0) ([(1, .box 0 T_api_State p0)]) (fun h => ?_) fun j1 => ?_
  · unfold r14_locks_j1 at h
    refine W_seq ?_
    refine R [] [(1, .box 0 T_api_State p0), (6, .v 0 (.int .i64) (p0.2.2.2.1.length : Int))] pz ?_
    refine W_seq ?_
    obtain ⟨o1, h⟩ := h.ass
    refine R1 h [] (fun x1 => [(2, .v 0 .bool x1)]) (ps o1) fun x1 h => ?_
    cases h
    exact Rt hw0
  refine W_block ?_
  refine L1 h (fun x2 => [(1, .box 0 T_api_State p0), (3, .v 0 (.int .i64) x2)]) fun x2 _ h => ?_
  unfold r14_locks_b1 at h
  refine W_seq (W_seq ?_)
  refine R [] [(1, .box 0 T_api_State p0), (3, .v 0 (.int .i64) x2), (11, .v 0 .bool (decide (x2 < (p0.2.2.2.1.length : Int))))] pz ?_
  refine C h (fun h => ?_) fun h => ?_
  · refine W_skip (W_seq ?_)
    refine J0 h (r14_locks_j2 x2) ([(1, .box 0 T_api_State p0), (3, .v 0 (.int .i64) x2)]) (fun h => ?_) fun j2 => ?_
    · unfold r14_locks_j2 at h
      refine R1 h [] (fun x3 => [(1, .box 0 T_api_State p0), (3, .v 0 (.int .i64) x3)]) pz fun x3 h => ?_
      exact B h
    refine W_block (W_seq ?_)
    obtain ⟨o1, h⟩ := h.ass
    refine R1 h [] (fun x4 => [(1, .box 0 T_api_State p0), (3, .v 0 (.int .i64) x2), (4, .box 9 T_api_Lock x4)]) (ps o1) fun x4 h => ?_
    refine W_seq (W_seq ?_)
    refine R [] [(1, .box 0 T_api_State p0), (3, .v 0 (.int .i64) x2), (4, .box 9 T_api_Lock x4), (21, .v 0 .bool (!x4.1))] pz ?_
    refine C h (fun h => ?_) fun h => ?_
    · refine W_seq (W_seq ?_)
      refine R [] [(1, .box 0 T_api_State p0), (3, .v 0 (.int .i64) x2), (24, .v 0 .bool (x4.2 != 0))] pz ?_
      refine C h (fun h => ?_) fun h => ?_
      · refine W_seq ?_
        refine R [] [(2, .v 0 .bool false)] pz ?_
        cases h
        exact Rt hw0
      refine W_skip (W_exit rfl ?_)
      exact K (j2 h)
    refine W_skip (W_seq (W_seq ?_))
    obtain ⟨y5, ey5, h⟩ := h.bind
    refine R [.res [(0, ⟨0, .bool, y5⟩)]] [(1, .box 0 T_api_State p0), (3, .v 0 (.int .i64) x2), (4, .box 9 T_api_Lock x4), (34, .v 0 .bool ((x4.2 != (-1)) && (!y5)))] (ps (fun hc => r14_Thread.ok (bif_some ey5 hc))) ?_
    refine C h (fun h => ?_) fun h => ?_
    · refine W_seq ?_
      refine R [] [(2, .v 0 .bool false)] pz ?_
      cases h
      exact Rt hw0
    refine W_skip (W_seq ?_)
    refine R [] [(1, .box 0 T_api_State p0), (3, .v 0 (.int .i64) x2), (4, .box 9 T_api_Lock x4), (5, .v 0 (.int .i64) (0 : Int))] pz ?_
    refine J0 h (r14_locks_j3 x2) ([(1, .box 0 T_api_State p0), (3, .v 0 (.int .i64) x2)]) (fun h => ?_) fun j3 => ?_
    · unfold r14_locks_j3 at h
      refine W_blk ?_
      exact K (j2 h)
    refine W_block ?_
    refine L1 h (fun x6 => [(1, .box 0 T_api_State p0), (3, .v 0 (.int .i64) x2), (4, .box 9 T_api_Lock x4), (5, .v 0 (.int .i64) x6)]) fun x6 _ h => ?_
    unfold r14_locks_b2 at h
    refine W_seq (W_seq ?_)
    refine R [] [(1, .box 0 T_api_State p0), (3, .v 0 (.int .i64) x2), (4, .box 9 T_api_Lock x4), (5, .v 0 (.int .i64) x6), (39, .v 0 .bool (decide (x6 < (p0.2.2.1.length : Int))))] pz ?_
    refine C h (fun h => ?_) fun h => ?_
    · refine W_skip (W_seq (W_block (W_seq ?_)))
      obtain ⟨y7, ey7, h⟩ := h.bind
      refine R [.res [(0, ⟨0, .bool, y7⟩)]] [(1, .box 0 T_api_State p0), (3, .v 0 (.int .i64) x2), (4, .box 9 T_api_Lock x4), (5, .v 0 (.int .i64) x6), (56, .v 0 .bool (y7 && ((x4.2 == (-1)) || (x4.2 == x6))))] (ps (r14_Is.ok ey7)) ?_
      refine C h (fun h => ?_) fun h => ?_
      · refine W_seq ?_
        refine R [] [(2, .v 0 .bool false)] pz ?_
        cases h
        exact Rt hw0
      refine W_skip (W_blk ?_)
      refine R1 h [] (fun x8 => [(1, .box 0 T_api_State p0), (3, .v 0 (.int .i64) x2), (4, .box 9 T_api_Lock x4), (5, .v 0 (.int .i64) x8)]) pz fun x8 h => ?_
      exact B h
    refine W_exit rfl ?_
    exact K (j3 h.back)
  refine W_exit rfl ?_
  exact K (j1 h.back)

def r14_Queues (p0 : D_api_State) (p1 : Int) : Option Bool :=
  ass (0 ≤ p1 ∧ p1 < (p0.2.2.1.length : Int)) <|
  bnd (rd z_api_Thread p0.2.2.1 p1) fun x1 =>
  bif x1.1 == 4 then
    ass (0 ≤ x1.2.1 ∧ x1.2.1 < (p0.2.2.1.length : Int)) <|
    bnd ((rd z_api_Thread p0.2.2.1 x1.2.1).2.2.1 != p1) fun x2 =>
    some x2
  else
  bnd (x1.1 == 6) fun x3 =>
  some x3
theorem r14_Queues.ok {p0 : D_api_State} {p1 : Int} {r : Bool} (h : r14_Queues p0 p1 = some r) : ACall prog 105 [⟨T_api_State, p0⟩, ⟨.int .i64, p1⟩] [⟨0, .bool, r⟩] := by
  replace h := Leads.of h
  unfold r14_Queues at h
  refine AC func105 rfl fun w0 F0 hw0 => ?_
  refine W_seq ?_
  refine R [] [(1, .v 0 (.int .i64) p1), (2, .box 0 T_api_State p0)] pz ?_
  refine W_seq ?_
  obtain ⟨o1, h⟩ := h.ass
  refine R1 h [] (fun x1 => [(1, .v 0 (.int .i64) p1), (2, .box 0 T_api_State p0), (5, .box 9 T_api_Thread x1)]) (ps o1) fun x1 h => ?_
  refine W_seq (W_seq ?_)
  refine R [] [(1, .v 0 (.int .i64) p1), (2, .box 0 T_api_State p0), (5, .box 9 T_api_Thread x1), (13, .v 0 .bool (x1.1 == 4))] pz ?_
  refine C h (fun h => ?_) fun h => ?_
  · refine W_seq ?_
    obtain ⟨o1, h⟩ := h.ass
    refine R1 h [] (fun x2 => [(4, .v 0 .bool x2)]) (ps o1) fun x2 h => ?_
    cases h
    exact Rt hw0
  refine W_skip (W_seq ?_)
  refine R1 h [] (fun x3 => [(4, .v 0 .bool x3)]) pz fun x3 h => ?_
  cases h
  exact Rt hw0

def r14_queue_j2 : Option (Bool) :=
  some true
def r14_queue_b1 (p0 : D_api_State) (x1 : Int) : Option (Int ⊕ Bool) :=
  bif decide (x1 < (p0.2.2.2.2.1.length : Int)) then
    ass (0 ≤ x1 ∧ x1 < (p0.2.2.2.2.1.length : Int)) <|
    ass ((!(decide ((rd (0 : Int) p0.2.2.2.2.1 x1) < 0))) = true → 0 ≤ x1 ∧ x1 < (p0.2.2.2.2.1.length : Int)) <|
    bif (decide ((rd (0 : Int) p0.2.2.2.2.1 x1) < 0)) || (decide ((rd (0 : Int) p0.2.2.2.2.1 x1) ≥ (p0.2.2.1.length : Int))) then
      some (.inr false)
    else
    bnd (i64.wrap (x1 + 1)) fun x2 =>
    some (.inl x2)
  else
  (r14_queue_j2).map .inr
def r14_queue_j1 (p0 : D_api_State) : Option (Bool) :=
  loopM (fun x : Int => r14_queue_b1 p0 x) (0 : Int)
def r14_queue_j3 (x3 : Int) : Option (Int ⊕ Bool) :=
  bnd (i64.wrap (x3 + 1)) fun x4 =>
  some (.inl x4)
def r14_queue_j4 (p0 : D_api_State) (x3 : Int) (x5 : Int) : Option (Int ⊕ Bool) :=
  (r14_Queues p0 x3).bind fun y6 =>
  bif (y6 != (x5 == 1)) || (decide (x5 > 1)) then
    some (.inr false)
  else
  ass ((x5 == 1) = true → 0 ≤ x3 ∧ x3 < (p0.2.2.1.length : Int)) <|
  ass (((x5 == 1) && ((rd z_api_Thread p0.2.2.1 x3).1 == 4)) = true → 0 ≤ x3 ∧ x3 < (p0.2.2.1.length : Int)) <|
  ass (((x5 == 1) && ((rd z_api_Thread p0.2.2.1 x3).1 == 4)) = true → 0 ≤ (rd z_api_Thread p0.2.2.1 x3).2.1 ∧ (rd z_api_Thread p0.2.2.1 x3).2.1 < (p0.2.2.1.length : Int)) <|
  bif ((x5 == 1) && ((rd z_api_Thread p0.2.2.1 x3).1 == 4)) && ((rd z_api_Thread p0.2.2.1 (rd z_api_Thread p0.2.2.1 x3).2.1).1 == 5) then
    some (.inr false)
  else
  r14_queue_j3 x3
def r14_queue_j5 (x8 : Int) (x9 : Int) : Option ((Int × Int) ⊕ (Int ⊕ Bool)) :=
  bnd (i64.wrap (x8 + 1)) fun x10 =>
  some (.inl (x9, x10))
def r14_queue_b3 (p0 : D_api_State) (x3 : Int) (x7 : Int) (x8 : Int) : Option ((Int × Int) ⊕ (Int ⊕ Bool)) :=
  bif decide (x8 < (p0.2.2.2.2.1.length : Int)) then
    ass (0 ≤ x8 ∧ x8 < (p0.2.2.2.2.1.length : Int)) <|
    bif (rd (0 : Int) p0.2.2.2.2.1 x8) == x3 then
      bnd (i64.wrap (x7 + 1)) fun x11 =>
      r14_queue_j5 x8 x11
    else
    r14_queue_j5 x8 x7
  else
  (r14_queue_j4 p0 x3 x7).map .inr
def r14_queue_b2 (p0 : D_api_State) (x3 : Int) : Option (Int ⊕ Bool) :=
  bif decide (x3 < (p0.2.2.1.length : Int)) then
    loopM (fun x : Int × Int => r14_queue_b3 p0 x3 x.1 x.2) ((0 : Int), (0 : Int))
  else
  (r14_queue_j1 p0).map .inr
def r14_queue (p0 : D_api_State) : Option Bool :=
  loopM (fun x : Int => r14_queue_b2 p0 x) (0 : Int)
theorem r14_queue.ok {p0 : D_api_State} {r : Bool} (h : r14_queue p0 = some r) : ACall prog 67 [⟨T_api_State, p0⟩] [⟨0, .bool, r⟩] := by
  replace h := Leads.of h
  unfold r14_queue at h
  refine AC func67 rfl fun w0 F0 hw0 => ?_
  refine W_seq ?_
  refine R [] [(1, .box 0 T_api_State p0)] pz ?_
  refine W_seq (W_seq ?_)
  refine R [] [(1, .box 0 T_api_State p0), (3, .v 0 (.int .i64) (0 : Int))] pz ?_
  refine J0 h (r14_queue_j1 p0) ([(1, .box 0 T_api_State p0)]) (fun h => ?_) fun j1 => ?_
  · unfold r14_queue_j1 at h
    refine W_seq (W_seq ?_)
    refine R [] [(1, .box 0 T_api_State p0), (6, .v 0 (.int .i64) (0 : Int))] pz ?_
    refine J0 h r14_queue_j2 ([]) (fun h => ?_) fun j2 => ?_
    · unfold r14_queue_j2 at h
      refine W_seq ?_
      refine R [] [(2, .v 0 .bool true)] pz ?_
      cases h
      exact Rt hw0
    refine W_block ?_
    refine L1 h (fun x1 => [(1, .box 0 T_api_State p0), (6, .v 0 (.int .i64) x1)]) fun x1 _ h => ?_
    unfold r14_queue_b1 at h
    refine W_seq (W_seq ?_)
    refine R [] [(1, .box 0 T_api_State p0), (6, .v 0 (.int .i64) x1), (69, .v 0 .bool (decide (x1 < (p0.2.2.2.2.1.length : Int))))] pz ?_
    refine C h (fun h => ?_) fun h => ?_
    · refine W_skip (W_seq (W_block (W_seq ?_)))
      obtain ⟨o1, h⟩ := h.ass
      obtain ⟨o2, h⟩ := h.ass
      refine R [] [(1, .box 0 T_api_State p0), (6, .v 0 (.int .i64) x1), (88, .v 0 .bool ((decide ((rd (0 : Int) p0.2.2.2.2.1 x1) < 0)) || (decide ((rd (0 : Int) p0.2.2.2.2.1 x1) ≥ (p0.2.2.1.length : Int)))))] (pc o1 (ps o2)) ?_
      refine C h (fun h => ?_) fun h => ?_
      · refine W_seq ?_
        refine R [] [(2, .v 0 .bool false)] pz ?_
        cases h
        exact Rt hw0
      refine W_skip (W_blk ?_)
      refine R1 h [] (fun x2 => [(1, .box 0 T_api_State p0), (6, .v 0 (.int .i64) x2)]) pz fun x2 h => ?_
      exact B h
    refine W_exit rfl ?_
    exact K (j2 h.back)
  refine W_block ?_
  refine L1 h (fun x3 => [(1, .box 0 T_api_State p0), (3, .v 0 (.int .i64) x3)]) fun x3 _ h => ?_
  unfold r14_queue_b2 at h
  refine W_seq (W_seq ?_)
  refine R [] [(1, .box 0 T_api_State p0), (3, .v 0 (.int .i64) x3), (11, .v 0 .bool (decide (x3 < (p0.2.2.1.length : Int))))] pz ?_
  refine C h (fun h => ?_) fun h => ?_
  · refine W_skip (W_seq ?_)
    refine J0 h (r14_queue_j3 x3) ([(1, .box 0 T_api_State p0), (3, .v 0 (.int .i64) x3)]) (fun h => ?_) fun j3 => ?_
    · unfold r14_queue_j3 at h
      refine R1 h [] (fun x4 => [(1, .box 0 T_api_State p0), (3, .v 0 (.int .i64) x4)]) pz fun x4 h => ?_
      exact B h
    refine W_block (W_seq ?_)
    refine R [] [(1, .box 0 T_api_State p0), (3, .v 0 (.int .i64) x3), (4, .v 0 (.int .i64) (0 : Int))] pz ?_
    refine W_seq (W_seq ?_)
    refine R [] [(1, .box 0 T_api_State p0), (3, .v 0 (.int .i64) x3), (4, .v 0 (.int .i64) (0 : Int)), (5, .v 0 (.int .i64) (0 : Int))] pz ?_
    refine J1 h (r14_queue_j4 p0 x3) (fun x5 => [(1, .box 0 T_api_State p0), (3, .v 0 (.int .i64) x3), (4, .v 0 (.int .i64) x5)]) (fun x5 h => ?_) fun j4 => ?_
    · unfold r14_queue_j4 at h
      refine W_seq (W_seq ?_)
      obtain ⟨y6, ey6, h⟩ := h.bind
      refine R [.res [(0, ⟨0, .bool, y6⟩)]] [(1, .box 0 T_api_State p0), (3, .v 0 (.int .i64) x3), (4, .v 0 (.int .i64) x5), (39, .v 0 .bool ((y6 != (x5 == 1)) || (decide (x5 > 1))))] (ps (r14_Queues.ok ey6)) ?_
      refine C h (fun h => ?_) fun h => ?_
      · refine W_seq ?_
        refine R [] [(2, .v 0 .bool false)] pz ?_
        cases h
        exact Rt hw0
      refine W_skip (W_seq ?_)
      obtain ⟨o1, h⟩ := h.ass
      obtain ⟨o2, h⟩ := h.ass
      obtain ⟨o3, h⟩ := h.ass
      refine R [] [(1, .box 0 T_api_State p0), (3, .v 0 (.int .i64) x3), (64, .v 0 .bool (((x5 == 1) && ((rd z_api_Thread p0.2.2.1 x3).1 == 4)) && ((rd z_api_Thread p0.2.2.1 (rd z_api_Thread p0.2.2.1 x3).2.1).1 == 5)))] (pc o1 (pc o2 (ps o3))) ?_
      refine C h (fun h => ?_) fun h => ?_
      · refine W_seq ?_
        refine R [] [(2, .v 0 .bool false)] pz ?_
        cases h
        exact Rt hw0
      refine W_skip (W_blk ?_)
      exact K (j3 h)
    refine W_block ?_
    refine L2 h (fun x7 x8 => [(1, .box 0 T_api_State p0), (3, .v 0 (.int .i64) x3), (4, .v 0 (.int .i64) x7), (5, .v 0 (.int .i64) x8)]) fun x7 x8 _ h => ?_
    unfold r14_queue_b3 at h
    refine W_seq (W_seq ?_)
    refine R [] [(1, .box 0 T_api_State p0), (3, .v 0 (.int .i64) x3), (4, .v 0 (.int .i64) x7), (5, .v 0 (.int .i64) x8), (18, .v 0 .bool (decide (x8 < (p0.2.2.2.2.1.length : Int))))] pz ?_
    refine C h (fun h => ?_) fun h => ?_
    · refine W_skip (W_seq (W_block (W_seq ?_)))
      obtain ⟨o1, h⟩ := h.ass
      refine R [] [(1, .box 0 T_api_State p0), (3, .v 0 (.int .i64) x3), (4, .v 0 (.int .i64) x7), (5, .v 0 (.int .i64) x8), (27, .v 0 .bool ((rd (0 : Int) p0.2.2.2.2.1 x8) == x3))] (ps o1) ?_
      refine J1 h (r14_queue_j5 x8) (fun x9 => [(1, .box 0 T_api_State p0), (3, .v 0 (.int .i64) x3), (4, .v 0 (.int .i64) x9), (5, .v 0 (.int .i64) x8)]) (fun x9 h => ?_) fun j5 => ?_
      · unfold r14_queue_j5 at h
        refine W_blk ?_
        refine R1 h [] (fun x10 => [(1, .box 0 T_api_State p0), (3, .v 0 (.int .i64) x3), (4, .v 0 (.int .i64) x9), (5, .v 0 (.int .i64) x10)]) pz fun x10 h => ?_
        exact B h
      refine C h (fun h => ?_) fun h => ?_
      · refine R1 h [] (fun x11 => [(1, .box 0 T_api_State p0), (3, .v 0 (.int .i64) x3), (4, .v 0 (.int .i64) x11), (5, .v 0 (.int .i64) x8)]) pz fun x11 h => ?_
        exact K (j5 x11 h)
      refine W_skip ?_
      exact K (j5 x7 h)
    refine W_exit rfl ?_
    exact K (j4 x7 h.back)
  refine W_exit rfl ?_
  exact K (j1 h.back)

def r14_CoinArrows_j1 (x1 : List D_r13_Arrow) : Option (List D_r13_Arrow) :=
  some x1
def r14_CoinArrows_j2 (x3 : Int) (x5 : List D_r13_Arrow) : Option (((List D_r13_Arrow) × Int) ⊕ (List D_r13_Arrow)) :=
  bnd (i64.wrap (x3 + 1)) fun x6 =>
  some (.inl (x5, x6))
def r14_CoinArrows_b1 (p0 : D_api_State) (x2 : List D_r13_Arrow) (x3 : Int) : Option (((List D_r13_Arrow) × Int) ⊕ (List D_r13_Arrow)) :=
  bif decide (x3 < (p0.2.1.length : Int)) then
    ass (0 ≤ x3 ∧ x3 < (p0.2.1.length : Int)) <|
    bnd (rd z_api_Ticket p0.2.1 x3) fun x4 =>
    bif x4.1 && (x4.2.2.2.1 == 2) then
      ass (((x2.length + [(x4.2.1, x4.2.2.2.2.1)].length : Nat) : Int) ≤ limA) <|
      bnd (x2 ++ [(x4.2.1, x4.2.2.2.2.1)]) fun x7 =>
      r14_CoinArrows_j2 x3 x7
    else
    r14_CoinArrows_j2 x3 x2
  else
  (r14_CoinArrows_j1 x2).map .inr
def r14_CoinArrows (p0 : D_api_State) : Option (List D_r13_Arrow) :=
  loopM (fun x : (List D_r13_Arrow) × Int => r14_CoinArrows_b1 p0 x.1 x.2) (([] : List D_r13_Arrow), (0 : Int))
theorem r14_CoinArrows.ok {p0 : D_api_State} {r : List D_r13_Arrow} (h : r14_CoinArrows p0 = some r) : ACall prog 69 [⟨T_api_State, p0⟩] [⟨9, .slice T_r13_Arrow, r⟩] := by
  replace h := Leads.of h
  unfold r14_CoinArrows at h
  refine AC func69 rfl fun w0 F0 hw0 => ?_
  refine W_seq ?_
  refine R [] [(1, .box 0 T_api_State p0)] pz ?_
  refine W_seq ?_
  refine R [] [(1, .box 0 T_api_State p0), (3, .v 9 (.slice T_r13_Arrow) ([] : List D_r13_Arrow))] pz ?_
  refine W_seq (W_seq ?_)
  refine R [] [(1, .box 0 T_api_State p0), (3, .v 9 (.slice T_r13_Arrow) ([] : List D_r13_Arrow)), (4, .v 0 (.int .i64) (0 : Int))] pz ?_
  refine J1 h r14_CoinArrows_j1 (fun x1 => [(3, .v 9 (.slice T_r13_Arrow) x1)]) (fun x1 h => ?_) fun j1 => ?_
  · unfold r14_CoinArrows_j1 at h
    refine W_seq ?_
    refine R [] [(2, .v 9 (.slice T_r13_Arrow) x1)] pz ?_
    cases h
    exact Rt hw0
  refine W_block ?_
  refine L2 h (fun x2 x3 => [(1, .box 0 T_api_State p0), (3, .v 9 (.slice T_r13_Arrow) x2), (4, .v 0 (.int .i64) x3)]) fun x2 x3 _ h => ?_
  unfold r14_CoinArrows_b1 at h
  refine W_seq (W_seq ?_)
  refine R [] [(1, .box 0 T_api_State p0), (3, .v 9 (.slice T_r13_Arrow) x2), (4, .v 0 (.int .i64) x3), (10, .v 0 .bool (decide (x3 < (p0.2.1.length : Int))))] pz ?_
  refine C h (fun h => ?_) fun h => ?_
  · refine W_skip (W_seq (W_block (W_seq ?_)))
    obtain ⟨o1, h⟩ := h.ass
    refine R1 h [] (fun x4 => [(1, .box 0 T_api_State p0), (3, .v 9 (.slice T_r13_Arrow) x2), (4, .v 0 (.int .i64) x3), (5, .box 9 T_api_Ticket x4)]) (ps o1) fun x4 h => ?_
    refine W_seq ?_
    refine R [] [(1, .box 0 T_api_State p0), (3, .v 9 (.slice T_r13_Arrow) x2), (4, .v 0 (.int .i64) x3), (5, .box 9 T_api_Ticket x4), (24, .v 0 .bool (x4.1 && (x4.2.2.2.1 == 2)))] pz ?_
    refine J1 h (r14_CoinArrows_j2 x3) (fun x5 => [(1, .box 0 T_api_State p0), (3, .v 9 (.slice T_r13_Arrow) x5), (4, .v 0 (.int .i64) x3)]) (fun x5 h => ?_) fun j2 => ?_
    · unfold r14_CoinArrows_j2 at h
      refine W_blk ?_
      refine R1 h [] (fun x6 => [(1, .box 0 T_api_State p0), (3, .v 9 (.slice T_r13_Arrow) x5), (4, .v 0 (.int .i64) x6)]) pz fun x6 h => ?_
      exact B h
    refine C h (fun h => ?_) fun h => ?_
    · obtain ⟨o1, h⟩ := h.ass
      refine R1 h [] (fun x7 => [(1, .box 0 T_api_State p0), (3, .v 9 (.slice T_r13_Arrow) x7), (4, .v 0 (.int .i64) x3)]) (ps o1) fun x7 h => ?_
      exact K (j2 x7 h)
    refine W_skip ?_
    exact K (j2 x2 h)
  refine W_exit rfl ?_
  exact K (j1 x2 h.back)

def r13_Reach_j1 (x2 : List Bool) : Option (List Bool) :=
  some x2
def r13_Reach_j2 (x7 : Int) (x8 : List Bool) (x9 : Bool) : Option (((List Bool) × Bool × Int) ⊕ (((List Bool) × Bool) ⊕ (List Bool))) :=
  bnd (i64.wrap (x7 + 1)) fun x10 =>
  some (.inl (x8, x9, x10))
def r13_Reach_j3 (x7 : Int) (x12 : List Bool) (x13 : Bool) : Option (((List Bool) × Bool × Int) ⊕ (((List Bool) × Bool) ⊕ (List Bool))) :=
  r13_Reach_j2 x7 x12 x13
def r13_Reach_b2 (p0 : Int) (p1 : List D_r13_Arrow) (p2 : Int) (x5 : List Bool) (x6 : Bool) (x7 : Int) : Option (((List Bool) × Bool × Int) ⊕ (((List Bool) × Bool) ⊕ (List Bool))) :=
  bif decide (x7 < (p1.length : Int)) then
    ass (0 ≤ x7 ∧ x7 < (p1.length : Int)) <|
    bnd (rd z_r13_Arrow p1 x7) fun x11 =>
    ass ((!((((decide (x11.1 < 0)) || (decide (x11.1 ≥ p0))) || (decide (x11.2 < 0))) || (decide (x11.2 ≥ p0)))) = true → 0 ≤ x11.2 ∧ x11.2 < (x5.length : Int)) <|
    bif ((((decide (x11.1 < 0)) || (decide (x11.1 ≥ p0))) || (decide (x11.2 < 0))) || (decide (x11.2 ≥ p0))) || (rd false x5 x11.2) then
      r13_Reach_j2 x7 x5 x6
    else
    ass ((!(x11.1 == p2)) = true → 0 ≤ x11.1 ∧ x11.1 < (x5.length : Int)) <|
    bif (x11.1 == p2) || (rd false x5 x11.1) then
      ass (0 ≤ x11.2 ∧ x11.2 < (x5.length : Int)) <|
      bnd (wr x5 x11.2 true) fun x14 =>
      r13_Reach_j3 x7 x14 true
    else
    r13_Reach_j3 x7 x5 x6
  else
  some (.inr (.inl (x5, x6)))
def r13_Reach_b1 (p0 : Int) (p1 : List D_r13_Arrow) (p2 : Int) (x3 : List Bool) (x4 : Bool) : Option (((List Bool) × Bool) ⊕ (List Bool)) :=
  bif x4 then
    loopM (fun x : (List Bool) × Bool × Int => r13_Reach_b2 p0 p1 p2 x.1 x.2.1 x.2.2) (x3, false, (0 : Int))
  else
  (r13_Reach_j1 x3).map .inr
def r13_Reach (p0 : Int) (p1 : List D_r13_Arrow) (p2 : Int) : Option (List Bool) :=
  ass (0 ≤ p0 ∧ p0 ≤ p0 ∧ p0 ≤ lim) <|
  bnd (List.replicate p0.toNat false) fun x1 =>
  loopM (fun x : (List Bool) × Bool => r13_Reach_b1 p0 p1 p2 x.1 x.2) (x1, true)
theorem r13_Reach.ok {p0 : Int} {p1 : List D_r13_Arrow} {p2 : Int} {r : List Bool} (h : r13_Reach p0 p1 p2 = some r) : ACall prog 106 [⟨.int .i64, p0⟩, ⟨.slice T_r13_Arrow, p1⟩, ⟨.int .i64, p2⟩] [⟨9, .slice .bool, r⟩] := by
  replace h := Leads.of h
  unfold r13_Reach at h
  refine AC func106 rfl fun w0 F0 hw0 => ?_
  refine W_seq ?_
  refine R [] [(0, .v 0 (.int .i64) p0), (1, .v 0 (.slice T_r13_Arrow) p1), (2, .v 0 (.int .i64) p2)] pz ?_
  refine W_seq ?_
  obtain ⟨o1, h⟩ := h.ass
  refine R1 h [] (fun x1 => [(0, .v 0 (.int .i64) p0), (1, .v 0 (.slice T_r13_Arrow) p1), (2, .v 0 (.int .i64) p2), (7, .v 9 (.slice .bool) x1)]) (ps o1) fun x1 h => ?_
  refine W_seq ?_
  refine R [] [(0, .v 0 (.int .i64) p0), (1, .v 0 (.slice T_r13_Arrow) p1), (2, .v 0 (.int .i64) p2), (7, .v 9 (.slice .bool) x1), (8, .v 0 .bool true)] pz ?_
  refine W_seq ?_
  refine J1 h r13_Reach_j1 (fun x2 => [(7, .v 9 (.slice .bool) x2)]) (fun x2 h => ?_) fun j1 => ?_
  · unfold r13_Reach_j1 at h
    refine W_seq ?_
    refine R [] [(6, .v 9 (.slice .bool) x2)] pz ?_
    cases h
    exact Rt hw0
  refine W_block ?_
  refine L2 h (fun x3 x4 => [(0, .v 0 (.int .i64) p0), (1, .v 0 (.slice T_r13_Arrow) p1), (2, .v 0 (.int .i64) p2), (7, .v 9 (.slice .bool) x3), (8, .v 0 .bool x4)]) fun x3 x4 _ h => ?_
  unfold r13_Reach_b1 at h
  refine W_seq (W_seq ?_)
  refine R [] [(0, .v 0 (.int .i64) p0), (1, .v 0 (.slice T_r13_Arrow) p1), (2, .v 0 (.int .i64) p2), (7, .v 9 (.slice .bool) x3), (13, .v 0 .bool x4)] pz ?_
  refine C h (fun h => ?_) fun h => ?_
  · refine W_skip (W_block (W_seq ?_))
    refine R [] [(0, .v 0 (.int .i64) p0), (1, .v 0 (.slice T_r13_Arrow) p1), (2, .v 0 (.int .i64) p2), (7, .v 9 (.slice .bool) x3), (8, .v 0 .bool false)] pz ?_
    refine W_seq ?_
    refine R [] [(0, .v 0 (.int .i64) p0), (1, .v 0 (.slice T_r13_Arrow) p1), (2, .v 0 (.int .i64) p2), (7, .v 9 (.slice .bool) x3), (8, .v 0 .bool false), (9, .v 0 (.int .i64) (0 : Int))] pz ?_
    refine W_block ?_
    refine L3 h (fun x5 x6 x7 => [(0, .v 0 (.int .i64) p0), (1, .v 0 (.slice T_r13_Arrow) p1), (2, .v 0 (.int .i64) p2), (7, .v 9 (.slice .bool) x5), (8, .v 0 .bool x6), (9, .v 0 (.int .i64) x7)]) fun x5 x6 x7 _ h => ?_
    unfold r13_Reach_b2 at h
    refine W_seq (W_seq ?_)
    refine R [] [(0, .v 0 (.int .i64) p0), (1, .v 0 (.slice T_r13_Arrow) p1), (2, .v 0 (.int .i64) p2), (7, .v 9 (.slice .bool) x5), (8, .v 0 .bool x6), (9, .v 0 (.int .i64) x7), (17, .v 0 .bool (decide (x7 < (p1.length : Int))))] pz ?_
    refine C h (fun h => ?_) fun h => ?_
    · refine W_skip (W_seq ?_)
      refine J2 h (r13_Reach_j2 x7) (fun x8 x9 => [(0, .v 0 (.int .i64) p0), (1, .v 0 (.slice T_r13_Arrow) p1), (2, .v 0 (.int .i64) p2), (7, .v 9 (.slice .bool) x8), (8, .v 0 .bool x9), (9, .v 0 (.int .i64) x7)]) (fun x8 x9 h => ?_) fun j2 => ?_
      · unfold r13_Reach_j2 at h
        refine R1 h [] (fun x10 => [(0, .v 0 (.int .i64) p0), (1, .v 0 (.slice T_r13_Arrow) p1), (2, .v 0 (.int .i64) p2), (7, .v 9 (.slice .bool) x8), (8, .v 0 .bool x9), (9, .v 0 (.int .i64) x10)]) pz fun x10 h => ?_
        exact B h
      refine W_block (W_seq ?_)
      obtain ⟨o1, h⟩ := h.ass
      refine R1 h [] (fun x11 => [(0, .v 0 (.int .i64) p0), (1, .v 0 (.slice T_r13_Arrow) p1), (2, .v 0 (.int .i64) p2), (7, .v 9 (.slice .bool) x5), (8, .v 0 .bool x6), (9, .v 0 (.int .i64) x7), (10, .box 9 T_r13_Arrow x11)]) (ps o1) fun x11 h => ?_
      refine W_seq (W_seq ?_)
      obtain ⟨o1, h⟩ := h.ass
      refine R [] [(0, .v 0 (.int .i64) p0), (1, .v 0 (.slice T_r13_Arrow) p1), (2, .v 0 (.int .i64) p2), (7, .v 9 (.slice .bool) x5), (8, .v 0 .bool x6), (9, .v 0 (.int .i64) x7), (10, .box 9 T_r13_Arrow x11), (50, .v 0 .bool (((((decide (x11.1 < 0)) || (decide (x11.1 ≥ p0))) || (decide (x11.2 < 0))) || (decide (x11.2 ≥ p0))) || (rd false x5 x11.2)))] (ps o1) ?_
      refine C h (fun h => ?_) fun h => ?_
      · refine W_exit rfl ?_
        exact K (j2 x5 x6 h)
      refine W_skip (W_seq ?_)
      obtain ⟨o1, h⟩ := h.ass
      refine R [] [(0, .v 0 (.int .i64) p0), (1, .v 0 (.slice T_r13_Arrow) p1), (2, .v 0 (.int .i64) p2), (7, .v 9 (.slice .bool) x5), (8, .v 0 .bool x6), (9, .v 0 (.int .i64) x7), (10, .box 9 T_r13_Arrow x11), (61, .v 0 .bool ((x11.1 == p2) || (rd false x5 x11.1)))] (ps o1) ?_
      refine J2 h (r13_Reach_j3 x7) (fun x12 x13 => [(0, .v 0 (.int .i64) p0), (1, .v 0 (.slice T_r13_Arrow) p1), (2, .v 0 (.int .i64) p2), (7, .v 9 (.slice .bool) x12), (8, .v 0 .bool x13), (9, .v 0 (.int .i64) x7)]) (fun x12 x13 h => ?_) fun j3 => ?_
      · unfold r13_Reach_j3 at h
        refine W_blk ?_
        exact K (j2 x12 x13 h)
      refine C h (fun h => ?_) fun h => ?_
      · refine W_seq ?_
        obtain ⟨o1, h⟩ := h.ass
        refine R1 h [] (fun x14 => [(0, .v 0 (.int .i64) p0), (1, .v 0 (.slice T_r13_Arrow) p1), (2, .v 0 (.int .i64) p2), (7, .v 9 (.slice .bool) x14), (9, .v 0 (.int .i64) x7)]) (ps o1) fun x14 h => ?_
        refine R [] [(0, .v 0 (.int .i64) p0), (1, .v 0 (.slice T_r13_Arrow) p1), (2, .v 0 (.int .i64) p2), (7, .v 9 (.slice .bool) x14), (8, .v 0 .bool true), (9, .v 0 (.int .i64) x7)] pz ?_
        exact K (j3 x14 true h)
      refine W_skip ?_
      exact K (j3 x5 x6 h)
    refine W_exit rfl (W_blk ?_)
    exact B h.inr
  refine W_exit rfl ?_
  exact K (j1 x3 h.back)

def r13_Ring_j1 : Option (Bool) :=
  some false
def r13_Ring_b1 (p0 : Int) (p1 : List D_r13_Arrow) (x1 : Int) : Option (Int ⊕ Bool) :=
  bif decide (x1 < p0) then
    (r13_Reach p0 p1 x1).bind fun y2 =>
    ass (0 ≤ x1 ∧ x1 < (y2.length : Int)) <|
    bif rd false y2 x1 then
      some (.inr true)
    else
    bnd (i64.wrap (x1 + 1)) fun x3 =>
    some (.inl x3)
  else
  (r13_Ring_j1).map .inr
def r13_Ring (p0 : Int) (p1 : List D_r13_Arrow) : Option Bool :=
  loopM (fun x : Int => r13_Ring_b1 p0 p1 x) (0 : Int)
theorem r13_Ring.ok {p0 : Int} {p1 : List D_r13_Arrow} {r : Bool} (h : r13_Ring p0 p1 = some r) : ACall prog 68 [⟨.int .i64, p0⟩, ⟨.slice T_r13_Arrow, p1⟩] [⟨0, .bool, r⟩] := by
  replace h := Leads.of h
  unfold r13_Ring at h
  refine AC func68 rfl fun w0 F0 hw0 => ?_
  refine W_seq ?_
  refine R [] [(0, .v 0 (.int .i64) p0), (1, .v 0 (.slice T_r13_Arrow) p1)] pz ?_
  refine W_seq (W_seq ?_)
  refine R [] [(0, .v 0 (.int .i64) p0), (1, .v 0 (.slice T_r13_Arrow) p1), (5, .v 0 (.int .i64) (0 : Int))] pz ?_
  refine J0 h r13_Ring_j1 ([]) (fun h => ?_) fun j1 => ?_
  · unfold r13_Ring_j1 at h
    refine W_seq ?_
    refine R [] [(4, .v 0 .bool false)] pz ?_
    cases h
    exact Rt hw0
  refine W_block ?_
  refine L1 h (fun x1 => [(0, .v 0 (.int .i64) p0), (1, .v 0 (.slice T_r13_Arrow) p1), (5, .v 0 (.int .i64) x1)]) fun x1 _ h => ?_
  unfold r13_Ring_b1 at h
  refine W_seq (W_seq ?_)
  refine R [] [(0, .v 0 (.int .i64) p0), (1, .v 0 (.slice T_r13_Arrow) p1), (5, .v 0 (.int .i64) x1), (8, .v 0 .bool (decide (x1 < p0)))] pz ?_
  refine C h (fun h => ?_) fun h => ?_
  · refine W_skip (W_seq (W_block (W_seq ?_)))
    obtain ⟨y2, ey2, h⟩ := h.bind
    obtain ⟨o1, h⟩ := h.ass
    refine R [.res [(9, ⟨9, .slice .bool, y2⟩)]] [(0, .v 0 (.int .i64) p0), (1, .v 0 (.slice T_r13_Arrow) p1), (5, .v 0 (.int .i64) x1), (17, .v 0 .bool (rd false y2 x1))] (pc (r13_Reach.ok ey2) (ps o1)) ?_
    refine C h (fun h => ?_) fun h => ?_
    · refine W_seq ?_
      refine R [] [(4, .v 0 .bool true)] pz ?_
      cases h
      exact Rt hw0
    refine W_skip (W_blk ?_)
    refine R1 h [] (fun x3 => [(0, .v 0 (.int .i64) p0), (1, .v 0 (.slice T_r13_Arrow) p1), (5, .v 0 (.int .i64) x3)]) pz fun x3 h => ?_
    exact B h
  refine W_exit rfl ?_
  exact K (j1 h.back)

def r14_ThreadArrows_j1 (x1 : List D_r13_Arrow) : Option (List D_r13_Arrow) :=
  some x1
def r14_ThreadArrows_j3 (x3 : Int) (x6 : List D_r13_Arrow) : Option (((List D_r13_Arrow) × Int) ⊕ (List D_r13_Arrow)) :=
  bnd (i64.wrap (x3 + 1)) fun x7 =>
  some (.inl (x6, x7))
def r14_ThreadArrows_j2 (p0 : D_api_State) (x3 : Int) (x4 : D_api_Thread) (x5 : List D_r13_Arrow) : Option (((List D_r13_Arrow) × Int) ⊕ (List D_r13_Arrow)) :=
  bif x4.1 == 6 then
    ass (0 ≤ x4.2.1 ∧ x4.2.1 < (p0.2.2.2.1.length : Int)) <|
    ass (((x5.length + [(x3, (rd z_api_Lock p0.2.2.2.1 x4.2.1).2)].length : Nat) : Int) ≤ limA) <|
    bnd (x5 ++ [(x3, (rd z_api_Lock p0.2.2.2.1 x4.2.1).2)]) fun x8 =>
    r14_ThreadArrows_j3 x3 x8
  else
  r14_ThreadArrows_j3 x3 x5
def r14_ThreadArrows_b1 (p0 : D_api_State) (x2 : List D_r13_Arrow) (x3 : Int) : Option (((List D_r13_Arrow) × Int) ⊕ (List D_r13_Arrow)) :=
  bif decide (x3 < (p0.2.2.1.length : Int)) then
    ass (0 ≤ x3 ∧ x3 < (p0.2.2.1.length : Int)) <|
    bnd (rd z_api_Thread p0.2.2.1 x3) fun x4 =>
    bif x4.1 == 4 then
      ass (((x2.length + [(x3, x4.2.1)].length : Nat) : Int) ≤ limA) <|
      bnd (x2 ++ [(x3, x4.2.1)]) fun x9 =>
      r14_ThreadArrows_j2 p0 x3 x4 x9
    else
    r14_ThreadArrows_j2 p0 x3 x4 x2
  else
  (r14_ThreadArrows_j1 x2).map .inr
def r14_ThreadArrows (p0 : D_api_State) : Option (List D_r13_Arrow) :=
  loopM (fun x : (List D_r13_Arrow) × Int => r14_ThreadArrows_b1 p0 x.1 x.2) (([] : List D_r13_Arrow), (0 : Int))
theorem r14_ThreadArrows.ok {p0 : D_api_State} {r : List D_r13_Arrow} (h : r14_ThreadArrows p0 = some r) : ACall prog 70 [⟨T_api_State, p0⟩] [⟨9, .slice T_r13_Arrow, r⟩] := by
  replace h := Leads.of h
  unfold r14_ThreadArrows at h
  refine AC func70 rfl fun w0 F0 hw0 => ?_
  refine W_seq ?_
  refine R [] [(1, .box 0 T_api_State p0)] pz ?_
  refine W_seq ?_
  refine R [] [(1, .box 0 T_api_State p0), (3, .v 9 (.slice T_r13_Arrow) ([] : List D_r13_Arrow))] pz ?_
  refine W_seq (W_seq ?_)
  refine R [] [(1, .box 0 T_api_State p0), (3, .v 9 (.slice T_r13_Arrow) ([] : List D_r13_Arrow)), (4, .v 0 (.int .i64) (0 : Int))] pz ?_
  refine J1 h r14_ThreadArrows_j1 (fun x1 => [(3, .v 9 (.slice T_r13_Arrow) x1)]) (fun x1 h => ?_) fun j1 => ?_
  · unfold r14_ThreadArrows_j1 at h
    refine W_seq ?_
    refine R [] [(2, .v 9 (.slice T_r13_Arrow) x1)] pz ?_
    cases h
    exact Rt hw0
  refine W_block ?_
  refine L2 h (fun x2 x3 => [(1, .box 0 T_api_State p0), (3, .v 9 (.slice T_r13_Arrow) x2), (4, .v 0 (.int .i64) x3)]) fun x2 x3 _ h => ?_
  unfold r14_ThreadArrows_b1 at h
  refine W_seq (W_seq ?_)
  refine R [] [(1, .box 0 T_api_State p0), (3, .v 9 (.slice T_r13_Arrow) x2), (4, .v 0 (.int .i64) x3), (10, .v 0 .bool (decide (x3 < (p0.2.2.1.length : Int))))] pz ?_
  refine C h (fun h => ?_) fun h => ?_
  · refine W_skip (W_seq (W_block (W_seq ?_)))
    obtain ⟨o1, h⟩ := h.ass
    refine R1 h [] (fun x4 => [(1, .box 0 T_api_State p0), (3, .v 9 (.slice T_r13_Arrow) x2), (4, .v 0 (.int .i64) x3), (5, .box 9 T_api_Thread x4)]) (ps o1) fun x4 h => ?_
    refine W_seq (W_seq ?_)
    refine R [] [(1, .box 0 T_api_State p0), (3, .v 9 (.slice T_r13_Arrow) x2), (4, .v 0 (.int .i64) x3), (5, .box 9 T_api_Thread x4), (20, .v 0 .bool (x4.1 == 4))] pz ?_
    refine J1 h (r14_ThreadArrows_j2 p0 x3 x4) (fun x5 => [(1, .box 0 T_api_State p0), (3, .v 9 (.slice T_r13_Arrow) x5), (4, .v 0 (.int .i64) x3), (5, .box 9 T_api_Thread x4)]) (fun x5 h => ?_) fun j2 => ?_
    · unfold r14_ThreadArrows_j2 at h
      refine W_seq ?_
      refine R [] [(1, .box 0 T_api_State p0), (3, .v 9 (.slice T_r13_Arrow) x5), (4, .v 0 (.int .i64) x3), (5, .box 9 T_api_Thread x4), (30, .v 0 .bool (x4.1 == 6))] pz ?_
      refine J1 h (r14_ThreadArrows_j3 x3) (fun x6 => [(1, .box 0 T_api_State p0), (3, .v 9 (.slice T_r13_Arrow) x6), (4, .v 0 (.int .i64) x3)]) (fun x6 h => ?_) fun j3 => ?_
      · unfold r14_ThreadArrows_j3 at h
        refine W_blk ?_
        refine R1 h [] (fun x7 => [(1, .box 0 T_api_State p0), (3, .v 9 (.slice T_r13_Arrow) x6), (4, .v 0 (.int .i64) x7)]) pz fun x7 h => ?_
        exact B h
      refine C h (fun h => ?_) fun h => ?_
      · obtain ⟨o1, h⟩ := h.ass
        obtain ⟨o2, h⟩ := h.ass
        refine R1 h [] (fun x8 => [(1, .box 0 T_api_State p0), (3, .v 9 (.slice T_r13_Arrow) x8), (4, .v 0 (.int .i64) x3)]) (pc o1 (ps o2)) fun x8 h => ?_
        exact K (j3 x8 h)
      refine W_skip ?_
      exact K (j3 x5 h)
    refine C h (fun h => ?_) fun h => ?_
    · obtain ⟨o1, h⟩ := h.ass
      refine R1 h [] (fun x9 => [(1, .box 0 T_api_State p0), (3, .v 9 (.slice T_r13_Arrow) x9), (4, .v 0 (.int .i64) x3), (5, .box 9 T_api_Thread x4)]) (ps o1) fun x9 h => ?_
      exact K (j2 x9 h)
    refine W_skip ?_
    exact K (j2 x2 h)
  refine W_exit rfl ?_
  exact K (j1 x2 h.back)

def r14_Fine (p0 : D_api_State) : Option Bool :=
  ass ((!((((decide (p0.2.2.2.2.2 < 1)) || (decide (p0.2.2.2.2.2 > 1000))) || (decide ((p0.1.length : Int) < 1))) || (decide ((p0.1.length : Int) > 16)))) = true → 0 ≤ (0 : Int) ∧ (0 : Int) < (p0.1.length : Int)) <|
  ass ((!(((((decide (p0.2.2.2.2.2 < 1)) || (decide (p0.2.2.2.2.2 > 1000))) || (decide ((p0.1.length : Int) < 1))) || (decide ((p0.1.length : Int) > 16))) || (!(rd false p0.1 (0 : Int))))) = true → 0 ≤ i64.wrap ((p0.1.length : Int) - 1) ∧ i64.wrap ((p0.1.length : Int) - 1) < (p0.1.length : Int)) <|
  bif (((((decide (p0.2.2.2.2.2 < 1)) || (decide (p0.2.2.2.2.2 > 1000))) || (decide ((p0.1.length : Int) < 1))) || (decide ((p0.1.length : Int) > 16))) || (!(rd false p0.1 (0 : Int)))) || (!(rd false p0.1 (i64.wrap ((p0.1.length : Int) - 1)))) then
    some false
  else
  (r14_tickets p0).bind fun y1 =>
  (bif !(!y1) then r14_threads p0 else some false).bind fun y2 =>
  (bif !((!y1) || (!y2)) then r14_locks p0 else some false).bind fun y3 =>
  (bif !(((!y1) || (!y2)) || (!y3)) then r14_queue p0 else some false).bind fun y4 =>
  bif (((!y1) || (!y2)) || (!y3)) || (!y4) then
    some false
  else
  (r14_CoinArrows p0).bind fun y5 =>
  (r13_Ring (p0.1.length : Int) y5).bind fun y6 =>
  (bif !y6 then r14_ThreadArrows p0 else some ([] : List D_r13_Arrow)).bind fun y7 =>
  (bif !y6 then r13_Ring (p0.2.2.1.length : Int) y7 else some false).bind fun y8 =>
  bnd ((!y6) && (!y8)) fun x9 =>
  some x9
theorem r14_Fine.ok {p0 : D_api_State} {r : Bool} (h : r14_Fine p0 = some r) : ACall prog 18 [⟨T_api_State, p0⟩] [⟨0, .bool, r⟩] := by
  replace h := Leads.of h
  unfold r14_Fine at h
  refine AC func18 rfl fun w0 F0 hw0 => ?_
  refine W_seq ?_
  refine R [] [(1, .box 0 T_api_State p0)] pz ?_
  refine W_seq ?_
  refine R [] [(1, .box 0 T_api_State p0), (3, .v 0 (.int .i64) (p0.1.length : Int))] pz ?_
  refine W_seq (W_seq ?_)
  obtain ⟨o1, h⟩ := h.ass
  obtain ⟨o2, h⟩ := h.ass
  refine R [] [(1, .box 0 T_api_State p0), (3, .v 0 (.int .i64) (p0.1.length : Int)), (38, .v 0 .bool ((((((decide (p0.2.2.2.2.2 < 1)) || (decide (p0.2.2.2.2.2 > 1000))) || (decide ((p0.1.length : Int) < 1))) || (decide ((p0.1.length : Int) > 16))) || (!(rd false p0.1 (0 : Int)))) || (!(rd false p0.1 (i64.wrap ((p0.1.length : Int) - 1))))))] (pc o1 (ps o2)) ?_
  refine C h (fun h => ?_) fun h => ?_
  · refine W_seq ?_
    refine R [] [(2, .v 0 .bool false)] pz ?_
    cases h
    exact Rt hw0
  refine W_skip (W_seq (W_seq ?_))
  obtain ⟨y1, ey1, h⟩ := h.bind
  obtain ⟨y2, ey2, h⟩ := h.bind
  obtain ⟨y3, ey3, h⟩ := h.bind
  obtain ⟨y4, ey4, h⟩ := h.bind
  refine R [.res [(0, ⟨0, .bool, y1⟩)], .res [(0, ⟨0, .bool, y2⟩)], .res [(0, ⟨0, .bool, y3⟩)], .res [(0, ⟨0, .bool, y4⟩)]] [(1, .box 0 T_api_State p0), (3, .v 0 (.int .i64) (p0.1.length : Int)), (56, .v 0 .bool ((((!y1) || (!y2)) || (!y3)) || (!y4)))] (pc (r14_tickets.ok ey1) (pc (fun hc => r14_threads.ok (bif_some ey2 hc)) (pc (fun hc => r14_locks.ok (bif_some ey3 hc)) (ps (fun hc => r14_queue.ok (bif_some ey4 hc)))))) ?_
  refine C h (fun h => ?_) fun h => ?_
  · refine W_seq ?_
    refine R [] [(2, .v 0 .bool false)] pz ?_
    cases h
    exact Rt hw0
  refine W_skip (W_seq ?_)
  obtain ⟨y5, ey5, h⟩ := h.bind
  obtain ⟨y6, ey6, h⟩ := h.bind
  obtain ⟨y7, ey7, h⟩ := h.bind
  obtain ⟨y8, ey8, h⟩ := h.bind
  refine R1 h [.res [(9, ⟨9, .slice T_r13_Arrow, y5⟩)], .res [(0, ⟨0, .bool, y6⟩)], .res [(0, ⟨9, .slice T_r13_Arrow, y7⟩)], .res [(0, ⟨0, .bool, y8⟩)]] (fun x9 => [(2, .v 0 .bool x9)]) (pc (r14_CoinArrows.ok ey5) (pc (r13_Ring.ok ey6) (pc (fun hc => r14_ThreadArrows.ok (bif_some ey7 hc)) (ps (fun hc => r13_Ring.ok (bif_some ey8 hc)))))) fun x9 h => ?_
  cases h
  exact Rt hw0

def l20_alive : Option Bool :=
  (factor_Used (10 : Int) (3 : Int)).bind fun y1 =>
  (factor_Used (10 : Int) (11 : Int)).bind fun y2 =>
  (bif (((y1.1 == 10) && (y1.2.1 == 3)) && (y1.2.2 == 0)) && (y2.2.2 == 6) then factor_Of ((0 : Int), (0 : Int), (0 : Int), (10 : Int), (3 : Int)) else some (([] : List Int), ([] : List Int))).bind fun y3 =>
  (bif (((y1.1 == 10) && (y1.2.1 == 3)) && (y1.2.2 == 0)) && (y2.2.2 == 6) then r04_Of (10 : Int) (3 : Int) else some (([] : List Int), ([] : List Int))).bind fun y4 =>
  (bif (((y1.1 == 10) && (y1.2.1 == 3)) && (y1.2.2 == 0)) && (y2.2.2 == 6) then r04_Same y3 y4 else some false).bind fun y5 =>
  (bif ((((y1.1 == 10) && (y1.2.1 == 3)) && (y1.2.2 == 0)) && (y2.2.2 == 6)) && y5 then factor_Of ((0 : Int), (0 : Int), (0 : Int), (0 : Int), (0 : Int)) else some (([] : List Int), ([] : List Int))).bind fun y6 =>
  (bif ((((y1.1 == 10) && (y1.2.1 == 3)) && (y1.2.2 == 0)) && (y2.2.2 == 6)) && y5 then r04_Int (0 : Int) else some (([] : List Int), ([] : List Int))).bind fun y7 =>
  (bif ((((y1.1 == 10) && (y1.2.1 == 3)) && (y1.2.2 == 0)) && (y2.2.2 == 6)) && y5 then r04_Same y6 y7 else some false).bind fun y8 =>
  bnd ((((((y1.1 == 10) && (y1.2.1 == 3)) && (y1.2.2 == 0)) && (y2.2.2 == 6)) && y5) && y8) fun x9 =>
  some x9
theorem l20_alive.ok {r : Bool} (h : l20_alive = some r) : ACall prog 19 [] [⟨0, .bool, r⟩] := by
  replace h := Leads.of h
  unfold l20_alive at h
  refine AC func19 rfl fun w0 F0 hw0 => ?_
  refine W_seq ?_
  refine R [] [] pz ?_
  refine W_seq ?_
  obtain ⟨y1, ey1, h⟩ := h.bind
  refine R [.res [(0, ⟨0, .int .i64, y1.1⟩), (0, ⟨0, .int .i64, y1.2.1⟩), (0, ⟨0, .int .i64, y1.2.2⟩)]] [(1, .v 0 (.int .i64) y1.1), (2, .v 0 (.int .i64) y1.2.1), (3, .v 0 (.int .i64) y1.2.2)] (ps (factor_Used.ok ey1)) ?_
  refine W_seq ?_
  obtain ⟨y2, ey2, h⟩ := h.bind
  refine R [.res [(0, ⟨0, .int .i64, y2.1⟩), (0, ⟨0, .int .i64, y2.2.1⟩), (0, ⟨0, .int .i64, y2.2.2⟩)]] [(1, .v 0 (.int .i64) y1.1), (2, .v 0 (.int .i64) y1.2.1), (3, .v 0 (.int .i64) y1.2.2), (6, .v 0 (.int .i64) y2.2.2)] (ps (factor_Used.ok ey2)) ?_
  refine W_seq ?_
  obtain ⟨y3, ey3, h⟩ := h.bind
  obtain ⟨y4, ey4, h⟩ := h.bind
  obtain ⟨y5, ey5, h⟩ := h.bind
  obtain ⟨y6, ey6, h⟩ := h.bind
  obtain ⟨y7, ey7, h⟩ := h.bind
  obtain ⟨y8, ey8, h⟩ := h.bind
  refine R1 h [.res [(0, ⟨0, T_api_Ratio, y3⟩)], .res [(0, ⟨0, T_r04_Q, y4⟩)], .res [(0, ⟨0, .bool, y5⟩)], .res [(0, ⟨0, T_api_Ratio, y6⟩)], .res [(0, ⟨0, T_r04_Q, y7⟩)], .res [(0, ⟨0, .bool, y8⟩)]] (fun x9 => [(0, .v 0 .bool x9)]) (pc (fun hc => factor_Of.ok (bif_some ey3 hc)) (pc (fun hc => r04_Of.ok (bif_some ey4 hc)) (pc (fun hc => r04_Same.ok (bif_some ey5 hc)) (pc (fun hc => factor_Of.ok (bif_some ey6 hc)) (pc (fun hc => r04_Int.ok (bif_some ey7 hc)) (ps (fun hc => r04_Same.ok (bif_some ey8 hc)))))))) fun x9 h => ?_
  cases h
  exact Rt hw0

def r15_Tickets_j1 (x1 : List Int) : Option (List Int) :=
  some x1
def r15_Tickets_j2 (x3 : Int) (x6 : List Int) : Option (((List Int) × Int) ⊕ (List Int)) :=
  bnd (i64.wrap (x3 + 1)) fun x7 =>
  some (.inl (x6, x7))
def r15_Tickets_b1 (p0 : D_api_State) (p1 : Int) (p2 : Int) (x2 : List Int) (x3 : Int) : Option (((List Int) × Int) ⊕ (List Int)) :=
  bif decide (x3 < (p0.2.1.length : Int)) then
    ass (0 ≤ x3 ∧ x3 < (p0.2.1.length : Int)) <|
    bnd (rd z_api_Ticket p0.2.1 x3) fun x4 =>
    bnd ((((p1 == 0) && (x4.2.1 == p2)) || (((p1 == 1) && (x4.2.2.2.1 == 2)) && (x4.2.2.2.2.1 == p2))) || (((p1 == 2) && (x4.2.2.2.1 == 1)) && (x4.2.2.2.2.1 == p2))) fun x5 =>
    bif x4.1 && x5 then
      ass (((x2.length + [x3].length : Nat) : Int) ≤ limA) <|
      bnd (x2 ++ [x3]) fun x8 =>
      r15_Tickets_j2 x3 x8
    else
    r15_Tickets_j2 x3 x2
  else
  (r15_Tickets_j1 x2).map .inr
def r15_Tickets (p0 : D_api_State) (p1 : Int) (p2 : Int) : Option (List Int) :=
  loopM (fun x : (List Int) × Int => r15_Tickets_b1 p0 p1 p2 x.1 x.2) (([] : List Int), (0 : Int))
theorem r15_Tickets.ok {p0 : D_api_State} {p1 : Int} {p2 : Int} {r : List Int} (h : r15_Tickets p0 p1 p2 = some r) : ACall prog 136 [⟨T_api_State, p0⟩, ⟨.int .i64, p1⟩, ⟨.int .i64, p2⟩] [⟨9, .slice (.int .i64), r⟩] := by
  replace h := Leads.of h
  unfold r15_Tickets at h
  refine AC func136 rfl fun w0 F0 hw0 => ?_
  refine W_seq ?_
  refine R [] [(1, .v 0 (.int .i64) p1), (2, .v 0 (.int .i64) p2), (3, .box 0 T_api_State p0)] pz ?_
  refine W_seq ?_
  refine R [] [(1, .v 0 (.int .i64) p1), (2, .v 0 (.int .i64) p2), (3, .box 0 T_api_State p0), (7, .v 9 (.slice (.int .i64)) ([] : List Int))] pz ?_
  refine W_seq (W_seq ?_)
  refine R [] [(1, .v 0 (.int .i64) p1), (2, .v 0 (.int .i64) p2), (3, .box 0 T_api_State p0), (7, .v 9 (.slice (.int .i64)) ([] : List Int)), (8, .v 0 (.int .i64) (0 : Int))] pz ?_
  refine J1 h r15_Tickets_j1 (fun x1 => [(7, .v 9 (.slice (.int .i64)) x1)]) (fun x1 h => ?_) fun j1 => ?_
  · unfold r15_Tickets_j1 at h
    refine W_seq ?_
    refine R [] [(6, .v 9 (.slice (.int .i64)) x1)] pz ?_
    cases h
    exact Rt hw0
  refine W_block ?_
  refine L2 h (fun x2 x3 => [(1, .v 0 (.int .i64) p1), (2, .v 0 (.int .i64) p2), (3, .box 0 T_api_State p0), (7, .v 9 (.slice (.int .i64)) x2), (8, .v 0 (.int .i64) x3)]) fun x2 x3 _ h => ?_
  unfold r15_Tickets_b1 at h
  refine W_seq (W_seq ?_)
  refine R [] [(1, .v 0 (.int .i64) p1), (2, .v 0 (.int .i64) p2), (3, .box 0 T_api_State p0), (7, .v 9 (.slice (.int .i64)) x2), (8, .v 0 (.int .i64) x3), (15, .v 0 .bool (decide (x3 < (p0.2.1.length : Int))))] pz ?_
  refine C h (fun h => ?_) fun h => ?_
  · refine W_skip (W_seq (W_block (W_seq ?_)))
    obtain ⟨o1, h⟩ := h.ass
    refine R1 h [] (fun x4 => [(1, .v 0 (.int .i64) p1), (2, .v 0 (.int .i64) p2), (3, .box 0 T_api_State p0), (7, .v 9 (.slice (.int .i64)) x2), (8, .v 0 (.int .i64) x3), (9, .box 9 T_api_Ticket x4)]) (ps o1) fun x4 h => ?_
    refine W_seq ?_
    refine R1 h [] (fun x5 => [(1, .v 0 (.int .i64) p1), (2, .v 0 (.int .i64) p2), (3, .box 0 T_api_State p0), (7, .v 9 (.slice (.int .i64)) x2), (8, .v 0 (.int .i64) x3), (9, .box 9 T_api_Ticket x4), (10, .v 0 .bool x5)]) pz fun x5 h => ?_
    refine W_seq ?_
    refine R [] [(1, .v 0 (.int .i64) p1), (2, .v 0 (.int .i64) p2), (3, .box 0 T_api_State p0), (7, .v 9 (.slice (.int .i64)) x2), (8, .v 0 (.int .i64) x3), (65, .v 0 .bool (x4.1 && x5))] pz ?_
    refine J1 h (r15_Tickets_j2 x3) (fun x6 => [(1, .v 0 (.int .i64) p1), (2, .v 0 (.int .i64) p2), (3, .box 0 T_api_State p0), (7, .v 9 (.slice (.int .i64)) x6), (8, .v 0 (.int .i64) x3)]) (fun x6 h => ?_) fun j2 => ?_
    · unfold r15_Tickets_j2 at h
      refine W_blk ?_
      refine R1 h [] (fun x7 => [(1, .v 0 (.int .i64) p1), (2, .v 0 (.int .i64) p2), (3, .box 0 T_api_State p0), (7, .v 9 (.slice (.int .i64)) x6), (8, .v 0 (.int .i64) x7)]) pz fun x7 h => ?_
      exact B h
    refine C h (fun h => ?_) fun h => ?_
    · obtain ⟨o1, h⟩ := h.ass
      refine R1 h [] (fun x8 => [(1, .v 0 (.int .i64) p1), (2, .v 0 (.int .i64) p2), (3, .box 0 T_api_State p0), (7, .v 9 (.slice (.int .i64)) x8), (8, .v 0 (.int .i64) x3)]) (ps o1) fun x8 h => ?_
      exact K (j2 x8 h)
    refine W_skip ?_
    exact K (j2 x2 h)
  refine W_exit rfl ?_
  exact K (j1 x2 h.back)

def r16_Next_j1 : Option (Int) :=
  some (-1 : Int)
def r16_Next_b1 (p1 : Int) (y1 : List D_r13_Arrow) (x2 : Int) : Option (Int ⊕ Int) :=
  bif decide (x2 < (y1.length : Int)) then
    ass (0 ≤ x2 ∧ x2 < (y1.length : Int)) <|
    bif (rd z_r13_Arrow y1 x2).1 == p1 then
      ass (0 ≤ x2 ∧ x2 < (y1.length : Int)) <|
      bnd ((rd z_r13_Arrow y1 x2).2) fun x3 =>
      some (.inr x3)
    else
    bnd (i64.wrap (x2 + 1)) fun x4 =>
    some (.inl x4)
  else
  (r16_Next_j1).map .inr
def r16_Next (p0 : D_api_State) (p1 : Int) : Option Int :=
  (r14_ThreadArrows p0).bind fun y1 =>
  loopM (fun x : Int => r16_Next_b1 p1 y1 x) (0 : Int)
theorem r16_Next.ok {p0 : D_api_State} {p1 : Int} {r : Int} (h : r16_Next p0 p1 = some r) : ACall prog 138 [⟨T_api_State, p0⟩, ⟨.int .i64, p1⟩] [⟨0, .int .i64, r⟩] := by
  replace h := Leads.of h
  unfold r16_Next at h
  refine AC func138 rfl fun w0 F0 hw0 => ?_
  refine W_seq ?_
  refine R [] [(1, .v 0 (.int .i64) p1), (2, .box 0 T_api_State p0)] pz ?_
  refine W_seq ?_
  obtain ⟨y1, ey1, h⟩ := h.bind
  refine R [.res [(9, ⟨9, .slice T_r13_Arrow, y1⟩)]] [(1, .v 0 (.int .i64) p1), (5, .v 9 (.slice T_r13_Arrow) y1)] (ps (r14_ThreadArrows.ok ey1)) ?_
  refine W_seq (W_seq ?_)
  refine R [] [(1, .v 0 (.int .i64) p1), (5, .v 9 (.slice T_r13_Arrow) y1), (6, .v 0 (.int .i64) (0 : Int))] pz ?_
  refine J0 h r16_Next_j1 ([]) (fun h => ?_) fun j1 => ?_
  · unfold r16_Next_j1 at h
    refine W_seq ?_
    refine R [] [(4, .v 0 (.int .i64) (-1 : Int))] pz ?_
    cases h
    exact Rt hw0
  refine W_block ?_
  refine L1 h (fun x2 => [(1, .v 0 (.int .i64) p1), (5, .v 9 (.slice T_r13_Arrow) y1), (6, .v 0 (.int .i64) x2)]) fun x2 _ h => ?_
  unfold r16_Next_b1 at h
  refine W_seq (W_seq ?_)
  refine R [] [(1, .v 0 (.int .i64) p1), (5, .v 9 (.slice T_r13_Arrow) y1), (6, .v 0 (.int .i64) x2), (12, .v 0 .bool (decide (x2 < (y1.length : Int))))] pz ?_
  refine C h (fun h => ?_) fun h => ?_
  · refine W_skip (W_seq (W_block (W_seq ?_)))
    obtain ⟨o1, h⟩ := h.ass
    refine R [] [(1, .v 0 (.int .i64) p1), (5, .v 9 (.slice T_r13_Arrow) y1), (6, .v 0 (.int .i64) x2), (21, .v 0 .bool ((rd z_r13_Arrow y1 x2).1 == p1))] (ps o1) ?_
    refine C h (fun h => ?_) fun h => ?_
    · refine W_seq ?_
      obtain ⟨o1, h⟩ := h.ass
      refine R1 h [] (fun x3 => [(4, .v 0 (.int .i64) x3)]) (ps o1) fun x3 h => ?_
      cases h
      exact Rt hw0
    refine W_skip (W_blk ?_)
    refine R1 h [] (fun x4 => [(1, .v 0 (.int .i64) p1), (5, .v 9 (.slice T_r13_Arrow) y1), (6, .v 0 (.int .i64) x4)]) pz fun x4 h => ?_
    exact B h
  refine W_exit rfl ?_
  exact K (j1 h.back)

def r16_Tail_rec (self : D_api_State → Int → Option (List Int)) (p0 : D_api_State) (p1 : Int) : Option (List Int) :=
  (r14_Thread p0 p1).bind fun y1 =>
  bif !y1 then
    some ([] : List Int)
  else
  (r16_Next p0 p1).bind fun y2 =>
  bif decide (y2 < 0) then
    some [p1]
  else
  (self p0 y2).bind fun y3 =>
  ass ((([p1].length + y3.length : Nat) : Int) ≤ limA) <|
  bnd ([p1] ++ y3) fun x4 =>
  some x4
theorem r16_Tail_rec.ok {self : D_api_State → Int → Option (List Int)} (ih : ∀ (p0 : D_api_State) (p1 : Int) (r : List Int), self p0 p1 = some r → ACall prog 182 [⟨T_api_State, p0⟩, ⟨.int .i64, p1⟩] [⟨9, .slice (.int .i64), r⟩]) {p0 : D_api_State} {p1 : Int} {r : List Int} (h : r16_Tail_rec self p0 p1 = some r) : ACall prog 182 [⟨T_api_State, p0⟩, ⟨.int .i64, p1⟩] [⟨9, .slice (.int .i64), r⟩] := by
  replace h := Leads.of h
  unfold r16_Tail_rec at h
  refine AC func182 rfl fun w0 F0 hw0 => ?_
  refine W_seq ?_
  refine R [] [(1, .v 0 (.int .i64) p1), (2, .box 0 T_api_State p0)] pz ?_
  refine W_seq (W_seq ?_)
  obtain ⟨y1, ey1, h⟩ := h.bind
  refine R [.res [(0, ⟨0, .bool, y1⟩)]] [(1, .v 0 (.int .i64) p1), (2, .box 0 T_api_State p0), (9, .v 0 .bool (!y1))] (ps (r14_Thread.ok ey1)) ?_
  refine C h (fun h => ?_) fun h => ?_
  · refine W_seq ?_
    refine R [] [(4, .v 9 (.slice (.int .i64)) ([] : List Int))] pz ?_
    cases h
    exact Rt hw0
  refine W_skip (W_seq ?_)
  obtain ⟨y2, ey2, h⟩ := h.bind
  refine R [.res [(0, ⟨0, .int .i64, y2⟩)]] [(1, .v 0 (.int .i64) p1), (2, .box 0 T_api_State p0), (5, .v 0 (.int .i64) y2)] (ps (r16_Next.ok ey2)) ?_
  refine W_seq (W_seq ?_)
  refine R [] [(1, .v 0 (.int .i64) p1), (2, .box 0 T_api_State p0), (5, .v 0 (.int .i64) y2), (14, .v 0 .bool (decide (y2 < 0)))] pz ?_
  refine C h (fun h => ?_) fun h => ?_
  · refine W_seq ?_
    refine R [] [(4, .v 9 (.slice (.int .i64)) [p1])] pz ?_
    cases h
    exact Rt hw0
  refine W_skip (W_seq ?_)
  obtain ⟨y3, ey3, h⟩ := h.bind
  obtain ⟨o1, h⟩ := h.ass
  refine R1 h [.res [(9, ⟨9, .slice (.int .i64), y3⟩)]] (fun x4 => [(4, .v 9 (.slice (.int .i64)) x4)]) (pc (ih _ _ _ ey3) (ps o1)) fun x4 h => ?_
  cases h
  exact Rt hw0
def r16_Tail (p0 : D_api_State) (p1 : Int) : Option (List Int) :=
  fixM (fun (self : (D_api_State × Int) → Option (List Int)) (x : D_api_State × Int) => r16_Tail_rec (fun p0 p1 => self (p0, p1)) x.1 x.2) (p0, p1)
theorem r16_Tail.ok {p0 : D_api_State} {p1 : Int} {r : List Int} (h : r16_Tail p0 p1 = some r) : ACall prog 182 [⟨T_api_State, p0⟩, ⟨.int .i64, p1⟩] [⟨9, .slice (.int .i64), r⟩] :=
  fixM_ind (C := fun (x : D_api_State × Int) (r : List Int) => ACall prog 182 [⟨T_api_State, x.1⟩, ⟨.int .i64, x.2⟩] [⟨9, .slice (.int .i64), r⟩]) (fun self ih x r h => r16_Tail_rec.ok (fun p0 p1 r h => ih (p0, p1) r h) h) h

def r16_End (p0 : D_api_State) (p1 : Int) : Option Int :=
  (r16_Tail p0 p1).bind fun y1 =>
  bif (y1.length : Int) == 0 then
    some (-1 : Int)
  else
  ass (0 ≤ i64.wrap ((y1.length : Int) - 1) ∧ i64.wrap ((y1.length : Int) - 1) < (y1.length : Int)) <|
  bnd (rd (0 : Int) y1 (i64.wrap ((y1.length : Int) - 1))) fun x2 =>
  some x2
theorem r16_End.ok {p0 : D_api_State} {p1 : Int} {r : Int} (h : r16_End p0 p1 = some r) : ACall prog 174 [⟨T_api_State, p0⟩, ⟨.int .i64, p1⟩] [⟨0, .int .i64, r⟩] := by
  replace h := Leads.of h
  unfold r16_End at h
  refine AC func174 rfl fun w0 F0 hw0 => ?_
  refine W_seq ?_
  refine R [] [(1, .v 0 (.int .i64) p1), (2, .box 0 T_api_State p0)] pz ?_
  refine W_seq ?_
  obtain ⟨y1, ey1, h⟩ := h.bind
  refine R [.res [(9, ⟨9, .slice (.int .i64), y1⟩)]] [(5, .v 9 (.slice (.int .i64)) y1)] (ps (r16_Tail.ok ey1)) ?_
  refine W_seq (W_seq ?_)
  refine R [] [(5, .v 9 (.slice (.int .i64)) y1), (11, .v 0 .bool ((y1.length : Int) == 0))] pz ?_
  refine C h (fun h => ?_) fun h => ?_
  · refine W_seq ?_
    refine R [] [(4, .v 0 (.int .i64) (-1 : Int))] pz ?_
    cases h
    exact Rt hw0
  refine W_skip (W_seq ?_)
  obtain ⟨o1, h⟩ := h.ass
  refine R1 h [] (fun x2 => [(4, .v 0 (.int .i64) x2)]) (ps o1) fun x2 h => ?_
  cases h
  exact Rt hw0

def r16_Lives (p0 : D_api_State) (p1 : Int) : Option Bool :=
  (r16_End p0 p1).bind fun y1 =>
  ass ((decide (y1 ≥ 0)) = true → 0 ≤ y1 ∧ y1 < (p0.2.2.1.length : Int)) <|
  ass (((decide (y1 ≥ 0)) && (!((rd z_api_Thread p0.2.2.1 y1).1 == 2))) = true → 0 ≤ y1 ∧ y1 < (p0.2.2.1.length : Int)) <|
  bnd ((decide (y1 ≥ 0)) && (((rd z_api_Thread p0.2.2.1 y1).1 == 2) || ((rd z_api_Thread p0.2.2.1 y1).1 == 3))) fun x2 =>
  some x2
theorem r16_Lives.ok {p0 : D_api_State} {p1 : Int} {r : Bool} (h : r16_Lives p0 p1 = some r) : ACall prog 168 [⟨T_api_State, p0⟩, ⟨.int .i64, p1⟩] [⟨0, .bool, r⟩] := by
  replace h := Leads.of h
  unfold r16_Lives at h
  refine AC func168 rfl fun w0 F0 hw0 => ?_
  refine W_seq ?_
  refine R [] [(1, .v 0 (.int .i64) p1), (2, .box 0 T_api_State p0)] pz ?_
  refine W_seq ?_
  obtain ⟨y1, ey1, h⟩ := h.bind
  refine R [.res [(0, ⟨0, .int .i64, y1⟩)]] [(2, .box 0 T_api_State p0), (5, .v 0 (.int .i64) y1)] (ps (r16_End.ok ey1)) ?_
  refine W_seq ?_
  obtain ⟨o1, h⟩ := h.ass
  obtain ⟨o2, h⟩ := h.ass
  refine R1 h [] (fun x2 => [(4, .v 0 .bool x2)]) (pc o1 (ps o2)) fun x2 h => ?_
  cases h
  exact Rt hw0

def r17_Amount_j1 (x1 : Int) : Option (Int) :=
  some x1
def r17_Amount_j2 (x3 : Int) (x5 : Int) : Option ((Int × Int) ⊕ Int) :=
  bnd (i64.wrap (x3 + 1)) fun x6 =>
  some (.inl (x5, x6))
def r17_Amount_b1 (p0 : D_api_State) (p1 : Int) (self : D_api_State → Int → Option Bool) (x2 : Int) (x3 : Int) : Option ((Int × Int) ⊕ Int) :=
  bif decide (x3 < (p0.2.1.length : Int)) then
    ass (0 ≤ x3 ∧ x3 < (p0.2.1.length : Int)) <|
    (bif (rd z_api_Ticket p0.2.1 x3).2.1 == p1 then self p0 x3 else some false).bind fun y4 =>
    bif ((rd z_api_Ticket p0.2.1 x3).2.1 == p1) && y4 then
      ass (0 ≤ x3 ∧ x3 < (p0.2.1.length : Int)) <|
      bnd (i64.wrap (x2 + (rd z_api_Ticket p0.2.1 x3).2.2.1)) fun x7 =>
      r17_Amount_j2 x3 x7
    else
    r17_Amount_j2 x3 x2
  else
  (r17_Amount_j1 x2).map .inr
def r17_Amount_rec (self : D_api_State → Int → Option Bool) (p0 : D_api_State) (p1 : Int) : Option Int :=
  loopM (fun x : Int × Int => r17_Amount_b1 p0 p1 self x.1 x.2) ((0 : Int), (0 : Int))
theorem r17_Amount_rec.ok {self : D_api_State → Int → Option Bool} (ih : ∀ (p0 : D_api_State) (p1 : Int) (r : Bool), self p0 p1 = some r → ACall prog 155 [⟨T_api_State, p0⟩, ⟨.int .i64, p1⟩] [⟨0, .bool, r⟩]) {p0 : D_api_State} {p1 : Int} {r : Int} (h : r17_Amount_rec self p0 p1 = some r) : ACall prog 156 [⟨T_api_State, p0⟩, ⟨.int .i64, p1⟩] [⟨0, .int .i64, r⟩] := by
  replace h := Leads.of h
  unfold r17_Amount_rec at h
  refine AC func156 rfl fun w0 F0 hw0 => ?_
  refine W_seq ?_
  refine R [] [(1, .v 0 (.int .i64) p1), (2, .box 0 T_api_State p0)] pz ?_
  refine W_seq ?_
  refine R [] [(1, .v 0 (.int .i64) p1), (2, .box 0 T_api_State p0), (5, .v 0 (.int .i64) (0 : Int))] pz ?_
  refine W_seq (W_seq ?_)
  refine R [] [(1, .v 0 (.int .i64) p1), (2, .box 0 T_api_State p0), (5, .v 0 (.int .i64) (0 : Int)), (6, .v 0 (.int .i64) (0 : Int))] pz ?_
  refine J1 h r17_Amount_j1 (fun x1 => [(5, .v 0 (.int .i64) x1)]) (fun x1 h => ?_) fun j1 => ?_
  · unfold r17_Amount_j1 at h
    refine W_seq ?_
    refine R [] [(4, .v 0 (.int .i64) x1)] pz ?_
    cases h
    exact Rt hw0
  refine W_block ?_
  refine L2 h (fun x2 x3 => [(1, .v 0 (.int .i64) p1), (2, .box 0 T_api_State p0), (5, .v 0 (.int .i64) x2), (6, .v 0 (.int .i64) x3)]) fun x2 x3 _ h => ?_
  unfold r17_Amount_b1 at h
  refine W_seq (W_seq ?_)
  refine R [] [(1, .v 0 (.int .i64) p1), (2, .box 0 T_api_State p0), (5, .v 0 (.int .i64) x2), (6, .v 0 (.int .i64) x3), (11, .v 0 .bool (decide (x3 < (p0.2.1.length : Int))))] pz ?_
  refine C h (fun h => ?_) fun h => ?_
  · refine W_skip (W_seq (W_block (W_seq ?_)))
    obtain ⟨o1, h⟩ := h.ass
    obtain ⟨y4, ey4, h⟩ := h.bind
    refine R [.res [(0, ⟨0, .bool, y4⟩)]] [(1, .v 0 (.int .i64) p1), (2, .box 0 T_api_State p0), (5, .v 0 (.int .i64) x2), (6, .v 0 (.int .i64) x3), (26, .v 0 .bool (((rd z_api_Ticket p0.2.1 x3).2.1 == p1) && y4))] (pc o1 (ps (fun hc => ih _ _ _ (bif_some ey4 hc)))) ?_
    refine J1 h (r17_Amount_j2 x3) (fun x5 => [(1, .v 0 (.int .i64) p1), (2, .box 0 T_api_State p0), (5, .v 0 (.int .i64) x5), (6, .v 0 (.int .i64) x3)]) (fun x5 h => ?_) fun j2 => ?_
    · unfold r17_Amount_j2 at h
      refine W_blk ?_
      refine R1 h [] (fun x6 => [(1, .v 0 (.int .i64) p1), (2, .box 0 T_api_State p0), (5, .v 0 (.int .i64) x5), (6, .v 0 (.int .i64) x6)]) pz fun x6 h => ?_
      exact B h
    refine C h (fun h => ?_) fun h => ?_
    · obtain ⟨o1, h⟩ := h.ass
      refine R1 h [] (fun x7 => [(1, .v 0 (.int .i64) p1), (2, .box 0 T_api_State p0), (5, .v 0 (.int .i64) x7), (6, .v 0 (.int .i64) x3)]) (ps o1) fun x7 h => ?_
      exact K (j2 x7 h)
    refine W_skip ?_
    exact K (j2 x2 h)
  refine W_exit rfl ?_
  exact K (j1 x2 h.back)

def r17_Counts_rec (self : D_api_State → Int → Option Bool) (p0 : D_api_State) (p1 : Int) : Option Bool :=
  ass (0 ≤ p1 ∧ p1 < (p0.2.1.length : Int)) <|
  bnd (rd z_api_Ticket p0.2.1 p1) fun x1 =>
  bif (!x1.1) || (!x1.2.2.2.2.2) then
    some false
  else
  bif x1.2.2.2.1 == 1 then
    (r16_Lives p0 x1.2.2.2.2.1).bind fun y2 =>
    some y2
  else
  (bif x1.2.2.2.1 == 2 then r17_Amount_rec self p0 x1.2.2.2.2.1 else some (0 : Int)).bind fun y3 =>
  bnd ((x1.2.2.2.1 == 2) && (decide (y3 > 0))) fun x4 =>
  some x4
theorem r17_Counts_rec.ok {self : D_api_State → Int → Option Bool} (ih : ∀ (p0 : D_api_State) (p1 : Int) (r : Bool), self p0 p1 = some r → ACall prog 155 [⟨T_api_State, p0⟩, ⟨.int .i64, p1⟩] [⟨0, .bool, r⟩]) {p0 : D_api_State} {p1 : Int} {r : Bool} (h : r17_Counts_rec self p0 p1 = some r) : ACall prog 155 [⟨T_api_State, p0⟩, ⟨.int .i64, p1⟩] [⟨0, .bool, r⟩] := by
  replace h := Leads.of h
  unfold r17_Counts_rec at h
  refine AC func155 rfl fun w0 F0 hw0 => ?_
  refine W_seq ?_
  refine R [] [(1, .v 0 (.int .i64) p1), (2, .box 0 T_api_State p0)] pz ?_
  refine W_seq ?_
  obtain ⟨o1, h⟩ := h.ass
  refine R1 h [] (fun x1 => [(2, .box 0 T_api_State p0), (5, .box 9 T_api_Ticket x1)]) (ps o1) fun x1 h => ?_
  refine W_seq (W_seq ?_)
  refine R [] [(2, .box 0 T_api_State p0), (5, .box 9 T_api_Ticket x1), (18, .v 0 .bool ((!x1.1) || (!x1.2.2.2.2.2)))] pz ?_
  refine C h (fun h => ?_) fun h => ?_
  · refine W_seq ?_
    refine R [] [(4, .v 0 .bool false)] pz ?_
    cases h
    exact Rt hw0
  refine W_skip (W_seq (W_seq ?_))
  refine R [] [(2, .box 0 T_api_State p0), (5, .box 9 T_api_Ticket x1), (21, .v 0 .bool (x1.2.2.2.1 == 1))] pz ?_
  refine C h (fun h => ?_) fun h => ?_
  · refine W_seq ?_
    obtain ⟨y2, ey2, h⟩ := h.bind
    refine R [.res [(0, ⟨0, .bool, y2⟩)]] [(4, .v 0 .bool y2)] (ps (r16_Lives.ok ey2)) ?_
    cases h
    exact Rt hw0
  refine W_skip (W_seq ?_)
  obtain ⟨y3, ey3, h⟩ := h.bind
  refine R1 h [.res [(0, ⟨0, .int .i64, y3⟩)]] (fun x4 => [(4, .v 0 .bool x4)]) (ps (fun hc => r17_Amount_rec.ok ih (bif_some ey3 hc))) fun x4 h => ?_
  cases h
  exact Rt hw0
def r17_Counts (p0 : D_api_State) (p1 : Int) : Option Bool :=
  fixM (fun (self : (D_api_State × Int) → Option Bool) (x : D_api_State × Int) => r17_Counts_rec (fun p0 p1 => self (p0, p1)) x.1 x.2) (p0, p1)
theorem r17_Counts.ok {p0 : D_api_State} {p1 : Int} {r : Bool} (h : r17_Counts p0 p1 = some r) : ACall prog 155 [⟨T_api_State, p0⟩, ⟨.int .i64, p1⟩] [⟨0, .bool, r⟩] :=
  fixM_ind (C := fun (x : D_api_State × Int) (r : Bool) => ACall prog 155 [⟨T_api_State, x.1⟩, ⟨.int .i64, x.2⟩] [⟨0, .bool, r⟩]) (fun self ih x r h => r17_Counts_rec.ok (fun p0 p1 r h => ih (p0, p1) r h) h) h

def r17_Amount (p0 : D_api_State) (p1 : Int) : Option Int := r17_Amount_rec (fun p0 p1 => r17_Counts p0 p1) p0 p1
theorem r17_Amount.ok {p0 : D_api_State} {p1 : Int} {r : Int} (h : r17_Amount p0 p1 = some r) : ACall prog 156 [⟨T_api_State, p0⟩, ⟨.int .i64, p1⟩] [⟨0, .int .i64, r⟩] := r17_Amount_rec.ok (fun p0 p1 r h => r17_Counts.ok h) h

def r01_Add_j1 (x1 : List Int) : Option (D_r01_Nat) :=
  (r01_Cut x1).bind fun y2 =>
  some y2
def r01_Add_b1 (p0 : D_r01_Nat) (p1 : D_r01_Nat) (x3 : List Int) (x4 : Int) (x5 : Int) : Option (((List Int) × Int × Int) ⊕ D_r01_Nat) :=
  bif ((decide (x5 < (p0.length : Int))) || (decide (x5 < (p1.length : Int)))) || (decide (x4 > 0)) then
    (r01_digit p0 x5).bind fun y6 =>
    (r01_digit p1 x5).bind fun y7 =>
    bnd (i64.wrap ((i64.wrap (y6 + y7)) + x4)) fun x8 =>
    ass ((65536 : Int) ≠ 0) <|
    ass (((x3.length + [x8.tmod 65536].length : Nat) : Int) ≤ limA) <|
    bnd (x3 ++ [x8.tmod 65536]) fun x9 =>
    ass ((65536 : Int) ≠ 0) <|
    bnd (i64.wrap (x8.tdiv 65536)) fun x10 =>
    bnd (i64.wrap (x5 + 1)) fun x11 =>
    some (.inl (x9, x10, x11))
  else
  (r01_Add_j1 x3).map .inr
def r01_Add (p0 : D_r01_Nat) (p1 : D_r01_Nat) : Option D_r01_Nat :=
  loopM (fun x : (List Int) × Int × Int => r01_Add_b1 p0 p1 x.1 x.2.1 x.2.2) (([] : List Int), (0 : Int), (0 : Int))
theorem r01_Add.ok {p0 : D_r01_Nat} {p1 : D_r01_Nat} {r : D_r01_Nat} (h : r01_Add p0 p1 = some r) : ACall prog 85 [⟨T_r01_Nat, p0⟩, ⟨T_r01_Nat, p1⟩] [⟨0, T_r01_Nat, r⟩] := by
  replace h := Leads.of h
  unfold r01_Add at h
  refine AC func85 rfl fun w0 F0 hw0 => ?_
  refine W_seq ?_
  refine R [] [(2, .box 0 T_r01_Nat p0), (3, .box 0 T_r01_Nat p1), (4, .box 9 T_r01_Nat ([] : List Int))] pz ?_
  refine W_seq ?_
  refine R [] [(2, .box 0 T_r01_Nat p0), (3, .box 0 T_r01_Nat p1), (4, .box 9 T_r01_Nat ([] : List Int)), (5, .v 9 (.slice (.int .i64)) ([] : List Int))] pz ?_
  refine W_seq ?_
  refine R [] [(2, .box 0 T_r01_Nat p0), (3, .box 0 T_r01_Nat p1), (4, .box 9 T_r01_Nat ([] : List Int)), (5, .v 9 (.slice (.int .i64)) ([] : List Int)), (6, .v 0 (.int .i64) (0 : Int))] pz ?_
  refine W_seq (W_seq ?_)
  refine R [] [(2, .box 0 T_r01_Nat p0), (3, .box 0 T_r01_Nat p1), (4, .box 9 T_r01_Nat ([] : List Int)), (5, .v 9 (.slice (.int .i64)) ([] : List Int)), (6, .v 0 (.int .i64) (0 : Int)), (7, .v 0 (.int .i64) (0 : Int))] pz ?_
  refine J1 h r01_Add_j1 (fun x1 => [(4, .box 9 T_r01_Nat ([] : List Int)), (5, .v 9 (.slice (.int .i64)) x1)]) (fun x1 h => ?_) fun j1 => ?_
  · unfold r01_Add_j1 at h
    refine W_seq ?_
    refine K (E' := [(4, .box 9 T_r01_Nat ([] : List Int)), (5, .v 0 (.slice (.int .i64)) x1)]) ?_
    obtain ⟨y2, ey2, h⟩ := h.bind
    refine R [.res [(0, ⟨0, T_r01_Nat, y2⟩)]] [(4, .box 0 T_r01_Nat y2)] (ps (r01_Cut.ok ey2)) ?_
    cases h
    exact Rt hw0
  refine W_block ?_
  refine L3 h (fun x3 x4 x5 => [(2, .box 0 T_r01_Nat p0), (3, .box 0 T_r01_Nat p1), (4, .box 9 T_r01_Nat ([] : List Int)), (5, .v 9 (.slice (.int .i64)) x3), (6, .v 0 (.int .i64) x4), (7, .v 0 (.int .i64) x5)]) fun x3 x4 x5 _ h => ?_
  unfold r01_Add_b1 at h
  refine W_seq (W_seq ?_)
  refine R [] [(2, .box 0 T_r01_Nat p0), (3, .box 0 T_r01_Nat p1), (4, .box 9 T_r01_Nat ([] : List Int)), (5, .v 9 (.slice (.int .i64)) x3), (6, .v 0 (.int .i64) x4), (7, .v 0 (.int .i64) x5), (24, .v 0 .bool (((decide (x5 < (p0.length : Int))) || (decide (x5 < (p1.length : Int)))) || (decide (x4 > 0))))] pz ?_
  refine C h (fun h => ?_) fun h => ?_
  · refine W_skip (W_seq (W_block (W_seq ?_)))
    obtain ⟨y6, ey6, h⟩ := h.bind
    obtain ⟨y7, ey7, h⟩ := h.bind
    refine R1 h [.res [(0, ⟨0, .int .i64, y6⟩)], .res [(0, ⟨0, .int .i64, y7⟩)]] (fun x8 => [(2, .box 0 T_r01_Nat p0), (3, .box 0 T_r01_Nat p1), (4, .box 9 T_r01_Nat ([] : List Int)), (5, .v 9 (.slice (.int .i64)) x3), (7, .v 0 (.int .i64) x5), (8, .v 0 (.int .i64) x8)]) (pc (r01_digit.ok ey6) (ps (r01_digit.ok ey7))) fun x8 h => ?_
    refine W_seq ?_
    obtain ⟨o1, h⟩ := h.ass
    obtain ⟨o2, h⟩ := h.ass
    refine R1 h [] (fun x9 => [(2, .box 0 T_r01_Nat p0), (3, .box 0 T_r01_Nat p1), (4, .box 9 T_r01_Nat ([] : List Int)), (5, .v 9 (.slice (.int .i64)) x9), (7, .v 0 (.int .i64) x5), (8, .v 0 (.int .i64) x8)]) (pc o1 (ps o2)) fun x9 h => ?_
    obtain ⟨o1, h⟩ := h.ass
    refine R1 h [] (fun x10 => [(2, .box 0 T_r01_Nat p0), (3, .box 0 T_r01_Nat p1), (4, .box 9 T_r01_Nat ([] : List Int)), (5, .v 9 (.slice (.int .i64)) x9), (6, .v 0 (.int .i64) x10), (7, .v 0 (.int .i64) x5)]) (ps o1) fun x10 h => ?_
    refine W_blk ?_
    refine R1 h [] (fun x11 => [(2, .box 0 T_r01_Nat p0), (3, .box 0 T_r01_Nat p1), (4, .box 9 T_r01_Nat ([] : List Int)), (5, .v 9 (.slice (.int .i64)) x9), (6, .v 0 (.int .i64) x10), (7, .v 0 (.int .i64) x11)]) pz fun x11 h => ?_
    exact B h
  refine W_exit rfl ?_
  exact K (j1 x3 h.back)

def r04_Add (p0 : D_r04_Q) (p1 : D_r04_Q) : Option D_r04_Q :=
  bnd ((([] : List Int), ([] : List Int))) fun x1 =>
  (r01_Mul p0.1 p1.2).bind fun y2 =>
  (r01_Mul p1.1 p0.2).bind fun y3 =>
  (r01_Add y2 y3).bind fun y4 =>
  (r01_Mul p0.2 p1.2).bind fun y5 =>
  (r04_Low (y4, y5)).bind fun y6 =>
  some y6
theorem r04_Add.ok {p0 : D_r04_Q} {p1 : D_r04_Q} {r : D_r04_Q} (h : r04_Add p0 p1 = some r) : ACall prog 38 [⟨T_r04_Q, p0⟩, ⟨T_r04_Q, p1⟩] [⟨0, T_r04_Q, r⟩] := by
  replace h := Leads.of h
  unfold r04_Add at h
  refine AC func38 rfl fun w0 F0 hw0 => ?_
  refine W_seq ?_
  refine R1 h [] (fun x1 => [(2, .box 0 T_r04_Q p0), (3, .box 0 T_r04_Q p1), (4, .box 9 T_r04_Q x1)]) pz fun x1 h => ?_
  refine W_seq ?_
  obtain ⟨y2, ey2, h⟩ := h.bind
  obtain ⟨y3, ey3, h⟩ := h.bind
  obtain ⟨y4, ey4, h⟩ := h.bind
  obtain ⟨y5, ey5, h⟩ := h.bind
  obtain ⟨y6, ey6, h⟩ := h.bind
  refine R [.res [(0, ⟨0, T_r01_Nat, y2⟩)], .res [(0, ⟨0, T_r01_Nat, y3⟩)], .res [(0, ⟨0, T_r01_Nat, y4⟩)], .res [(0, ⟨0, T_r01_Nat, y5⟩)], .res [(0, ⟨0, T_r04_Q, y6⟩)]] [(4, .box 0 T_r04_Q y6)] (pc (r01_Mul.ok ey2) (pc (r01_Mul.ok ey3) (pc (r01_Add.ok ey4) (pc (r01_Mul.ok ey5) (ps (r04_Low.ok ey6)))))) ?_
  cases h
  exact Rt hw0

def r04_Mul (p0 : D_r04_Q) (p1 : D_r04_Q) : Option D_r04_Q :=
  bnd ((([] : List Int), ([] : List Int))) fun x1 =>
  (r01_Mul p0.1 p1.1).bind fun y2 =>
  (r01_Mul p0.2 p1.2).bind fun y3 =>
  (r04_Low (y2, y3)).bind fun y4 =>
  some y4
theorem r04_Mul.ok {p0 : D_r04_Q} {p1 : D_r04_Q} {r : D_r04_Q} (h : r04_Mul p0 p1 = some r) : ACall prog 30 [⟨T_r04_Q, p0⟩, ⟨T_r04_Q, p1⟩] [⟨0, T_r04_Q, r⟩] := by
  replace h := Leads.of h
  unfold r04_Mul at h
  refine AC func30 rfl fun w0 F0 hw0 => ?_
  refine W_seq ?_
  refine R1 h [] (fun x1 => [(2, .box 0 T_r04_Q p0), (3, .box 0 T_r04_Q p1), (4, .box 9 T_r04_Q x1)]) pz fun x1 h => ?_
  refine W_seq ?_
  obtain ⟨y2, ey2, h⟩ := h.bind
  obtain ⟨y3, ey3, h⟩ := h.bind
  obtain ⟨y4, ey4, h⟩ := h.bind
  refine R [.res [(0, ⟨0, T_r01_Nat, y2⟩)], .res [(0, ⟨0, T_r01_Nat, y3⟩)], .res [(0, ⟨0, T_r04_Q, y4⟩)]] [(4, .box 0 T_r04_Q y4)] (pc (r01_Mul.ok ey2) (pc (r01_Mul.ok ey3) (ps (r04_Low.ok ey4)))) ?_
  cases h
  exact Rt hw0

def r18_Coin_j1 (x6 : D_r04_Q) : Option (D_r04_Q) :=
  some x6
def r18_Coin_b1 (p0 : D_api_State) (self : D_api_State → Int → Option D_r04_Q) (y5 : List Int) (x7 : D_r04_Q) (x8 : Int) : Option ((D_r04_Q × Int) ⊕ D_r04_Q) :=
  bif decide (x8 < (y5.length : Int)) then
    ass (0 ≤ x8 ∧ x8 < (y5.length : Int)) <|
    (self p0 (rd (0 : Int) y5 x8)).bind fun y9 =>
    (r04_Add x7 y9).bind fun y10 =>
    bnd (i64.wrap (x8 + 1)) fun x11 =>
    some (.inl (y10, x11))
  else
  (r18_Coin_j1 x7).map .inr
def r18_Coin_rec (self : D_api_State → Int → Option D_r04_Q) (p0 : D_api_State) (p1 : Int) : Option D_r04_Q :=
  bnd ((([] : List Int), ([] : List Int))) fun x1 =>
  bif p1 == 0 then
    (r17_Amount p0 (0 : Int)).bind fun y2 =>
    (r04_Int (u64.wrap y2)).bind fun y3 =>
    some y3
  else
  (r04_Int (0 : Int)).bind fun y4 =>
  (r15_Tickets p0 (1 : Int) p1).bind fun y5 =>
  loopM (fun x : D_r04_Q × Int => r18_Coin_b1 p0 self y5 x.1 x.2) (y4, (0 : Int))
theorem r18_Coin_rec.ok {self : D_api_State → Int → Option D_r04_Q} (ih : ∀ (p0 : D_api_State) (p1 : Int) (r : D_r04_Q), self p0 p1 = some r → ACall prog 137 [⟨T_api_State, p0⟩, ⟨.int .i64, p1⟩] [⟨0, T_r04_Q, r⟩]) {p0 : D_api_State} {p1 : Int} {r : D_r04_Q} (h : r18_Coin_rec self p0 p1 = some r) : ACall prog 157 [⟨T_api_State, p0⟩, ⟨.int .i64, p1⟩] [⟨0, T_r04_Q, r⟩] := by
  replace h := Leads.of h
  unfold r18_Coin_rec at h
  refine AC func157 rfl fun w0 F0 hw0 => ?_
  refine W_seq ?_
  refine R1 h [] (fun x1 => [(1, .v 0 (.int .i64) p1), (2, .box 0 T_api_State p0), (4, .box 9 T_r04_Q x1)]) pz fun x1 h => ?_
  refine W_seq (W_seq ?_)
  refine R [] [(1, .v 0 (.int .i64) p1), (2, .box 0 T_api_State p0), (4, .box 9 T_r04_Q x1), (9, .v 0 .bool (p1 == 0))] pz ?_
  refine C h (fun h => ?_) fun h => ?_
  · refine W_seq ?_
    obtain ⟨y2, ey2, h⟩ := h.bind
    obtain ⟨y3, ey3, h⟩ := h.bind
    refine R [.res [(0, ⟨0, .int .i64, y2⟩)], .res [(0, ⟨0, T_r04_Q, y3⟩)]] [(4, .box 0 T_r04_Q y3)] (pc (r17_Amount.ok ey2) (ps (r04_Int.ok ey3))) ?_
    cases h
    exact Rt hw0
  refine W_skip (W_seq ?_)
  obtain ⟨y4, ey4, h⟩ := h.bind
  refine R [.res [(0, ⟨0, T_r04_Q, y4⟩)]] [(1, .v 0 (.int .i64) p1), (2, .box 0 T_api_State p0), (4, .box 9 T_r04_Q x1), (5, .box 0 T_r04_Q y4)] (ps (r04_Int.ok ey4)) ?_
  refine W_seq ?_
  obtain ⟨y5, ey5, h⟩ := h.bind
  refine R [.res [(9, ⟨9, .slice (.int .i64), y5⟩)]] [(2, .box 0 T_api_State p0), (4, .box 9 T_r04_Q x1), (5, .box 0 T_r04_Q y4), (6, .v 9 (.slice (.int .i64)) y5)] (ps (r15_Tickets.ok ey5)) ?_
  refine W_seq (W_seq ?_)
  refine R [] [(2, .box 0 T_api_State p0), (4, .box 9 T_r04_Q x1), (5, .box 0 T_r04_Q y4), (6, .v 9 (.slice (.int .i64)) y5), (7, .v 0 (.int .i64) (0 : Int))] pz ?_
  refine J1 h r18_Coin_j1 (fun x6 => [(4, .box 9 T_r04_Q x1), (5, .box 0 T_r04_Q x6)]) (fun x6 h => ?_) fun j1 => ?_
  · unfold r18_Coin_j1 at h
    refine W_seq ?_
    refine R [] [(4, .box 0 T_r04_Q x6)] pz ?_
    cases h
    exact Rt hw0
  refine W_block ?_
  refine L2 h (fun x7 x8 => [(2, .box 0 T_api_State p0), (4, .box 9 T_r04_Q x1), (5, .box 0 T_r04_Q x7), (6, .v 9 (.slice (.int .i64)) y5), (7, .v 0 (.int .i64) x8)]) fun x7 x8 _ h => ?_
  unfold r18_Coin_b1 at h
  refine W_seq (W_seq ?_)
  refine R [] [(2, .box 0 T_api_State p0), (4, .box 9 T_r04_Q x1), (5, .box 0 T_r04_Q x7), (6, .v 9 (.slice (.int .i64)) y5), (7, .v 0 (.int .i64) x8), (21, .v 0 .bool (decide (x8 < (y5.length : Int))))] pz ?_
  refine C h (fun h => ?_) fun h => ?_
  · refine W_skip (W_seq (W_block ?_))
    obtain ⟨o1, h⟩ := h.ass
    obtain ⟨y9, ey9, h⟩ := h.bind
    obtain ⟨y10, ey10, h⟩ := h.bind
    refine R [.res [(0, ⟨0, T_r04_Q, y9⟩)], .res [(0, ⟨0, T_r04_Q, y10⟩)]] [(2, .box 0 T_api_State p0), (4, .box 9 T_r04_Q x1), (5, .box 0 T_r04_Q y10), (6, .v 9 (.slice (.int .i64)) y5), (7, .v 0 (.int .i64) x8)] (pc o1 (pc (ih _ _ _ ey9) (ps (r04_Add.ok ey10)))) ?_
    refine W_blk ?_
    refine R1 h [] (fun x11 => [(2, .box 0 T_api_State p0), (4, .box 9 T_r04_Q x1), (5, .box 0 T_r04_Q y10), (6, .v 9 (.slice (.int .i64)) y5), (7, .v 0 (.int .i64) x11)]) pz fun x11 h => ?_
    exact B h
  refine W_exit rfl ?_
  exact K (j1 x7 h.back)

def r18_Ticket_rec (self : D_api_State → Int → Option D_r04_Q) (p0 : D_api_State) (p1 : Int) : Option D_r04_Q :=
  bnd ((([] : List Int), ([] : List Int))) fun x1 =>
  ass (0 ≤ p1 ∧ p1 < (p0.2.1.length : Int)) <|
  bnd (rd z_api_Ticket p0.2.1 p1) fun x2 =>
  (r17_Counts p0 p1).bind fun y3 =>
  bif !y3 then
    (r04_Int (0 : Int)).bind fun y4 =>
    some y4
  else
  bif x2.2.1 == 0 then
    (r04_Int (u64.wrap x2.2.2.1)).bind fun y5 =>
    some y5
  else
  (r17_Amount p0 x2.2.1).bind fun y6 =>
  (r04_Of (u64.wrap x2.2.2.1) (u64.wrap y6)).bind fun y7 =>
  (r18_Coin_rec self p0 x2.2.1).bind fun y8 =>
  (r04_Mul y7 y8).bind fun y9 =>
  some y9
theorem r18_Ticket_rec.ok {self : D_api_State → Int → Option D_r04_Q} (ih : ∀ (p0 : D_api_State) (p1 : Int) (r : D_r04_Q), self p0 p1 = some r → ACall prog 137 [⟨T_api_State, p0⟩, ⟨.int .i64, p1⟩] [⟨0, T_r04_Q, r⟩]) {p0 : D_api_State} {p1 : Int} {r : D_r04_Q} (h : r18_Ticket_rec self p0 p1 = some r) : ACall prog 137 [⟨T_api_State, p0⟩, ⟨.int .i64, p1⟩] [⟨0, T_r04_Q, r⟩] := by
  replace h := Leads.of h
  unfold r18_Ticket_rec at h
  refine AC func137 rfl fun w0 F0 hw0 => ?_
  refine W_seq ?_
  refine R1 h [] (fun x1 => [(1, .v 0 (.int .i64) p1), (2, .box 0 T_api_State p0), (4, .box 9 T_r04_Q x1)]) pz fun x1 h => ?_
  refine W_seq ?_
  obtain ⟨o1, h⟩ := h.ass
  refine R1 h [] (fun x2 => [(1, .v 0 (.int .i64) p1), (2, .box 0 T_api_State p0), (4, .box 9 T_r04_Q x1), (5, .box 9 T_api_Ticket x2)]) (ps o1) fun x2 h => ?_
  refine W_seq (W_seq ?_)
  obtain ⟨y3, ey3, h⟩ := h.bind
  refine R [.res [(0, ⟨0, .bool, y3⟩)]] [(2, .box 0 T_api_State p0), (4, .box 9 T_r04_Q x1), (5, .box 9 T_api_Ticket x2), (14, .v 0 .bool (!y3))] (ps (r17_Counts.ok ey3)) ?_
  refine C h (fun h => ?_) fun h => ?_
  · refine W_seq ?_
    obtain ⟨y4, ey4, h⟩ := h.bind
    refine R [.res [(0, ⟨0, T_r04_Q, y4⟩)]] [(4, .box 0 T_r04_Q y4)] (ps (r04_Int.ok ey4)) ?_
    cases h
    exact Rt hw0
  refine W_skip (W_seq (W_seq ?_))
  refine R [] [(2, .box 0 T_api_State p0), (4, .box 9 T_r04_Q x1), (5, .box 9 T_api_Ticket x2), (18, .v 0 .bool (x2.2.1 == 0))] pz ?_
  refine C h (fun h => ?_) fun h => ?_
  · refine W_seq ?_
    obtain ⟨y5, ey5, h⟩ := h.bind
    refine R [.res [(0, ⟨0, T_r04_Q, y5⟩)]] [(4, .box 0 T_r04_Q y5)] (ps (r04_Int.ok ey5)) ?_
    cases h
    exact Rt hw0
  refine W_skip (W_seq ?_)
  obtain ⟨y6, ey6, h⟩ := h.bind
  obtain ⟨y7, ey7, h⟩ := h.bind
  obtain ⟨y8, ey8, h⟩ := h.bind
  obtain ⟨y9, ey9, h⟩ := h.bind
  refine R [.res [(0, ⟨0, .int .i64, y6⟩)], .res [(0, ⟨0, T_r04_Q, y7⟩)], .res [(0, ⟨0, T_r04_Q, y8⟩)], .res [(0, ⟨0, T_r04_Q, y9⟩)]] [(4, .box 0 T_r04_Q y9)] (pc (r17_Amount.ok ey6) (pc (r04_Of.ok ey7) (pc (r18_Coin_rec.ok ih ey8) (ps (r04_Mul.ok ey9))))) ?_
  cases h
  exact Rt hw0
def r18_Ticket (p0 : D_api_State) (p1 : Int) : Option D_r04_Q :=
  fixM (fun (self : (D_api_State × Int) → Option D_r04_Q) (x : D_api_State × Int) => r18_Ticket_rec (fun p0 p1 => self (p0, p1)) x.1 x.2) (p0, p1)
theorem r18_Ticket.ok {p0 : D_api_State} {p1 : Int} {r : D_r04_Q} (h : r18_Ticket p0 p1 = some r) : ACall prog 137 [⟨T_api_State, p0⟩, ⟨.int .i64, p1⟩] [⟨0, T_r04_Q, r⟩] :=
  fixM_ind (C := fun (x : D_api_State × Int) (r : D_r04_Q) => ACall prog 137 [⟨T_api_State, x.1⟩, ⟨.int .i64, x.2⟩] [⟨0, T_r04_Q, r⟩]) (fun self ih x r h => r18_Ticket_rec.ok (fun p0 p1 r h => ih (p0, p1) r h) h) h

def r18_Coin (p0 : D_api_State) (p1 : Int) : Option D_r04_Q := r18_Coin_rec (fun p0 p1 => r18_Ticket p0 p1) p0 p1
theorem r18_Coin.ok {p0 : D_api_State} {p1 : Int} {r : D_r04_Q} (h : r18_Coin p0 p1 = some r) : ACall prog 157 [⟨T_api_State, p0⟩, ⟨.int .i64, p1⟩] [⟨0, T_r04_Q, r⟩] := r18_Coin_rec.ok (fun p0 p1 r h => r18_Ticket.ok h) h

def r18_Thread_j1 (x4 : D_r04_Q) : Option (D_r04_Q) :=
  some x4
def r18_Thread_b1 (p0 : D_api_State) (y3 : List Int) (x5 : D_r04_Q) (x6 : Int) : Option ((D_r04_Q × Int) ⊕ D_r04_Q) :=
  bif decide (x6 < (y3.length : Int)) then
    ass (0 ≤ x6 ∧ x6 < (y3.length : Int)) <|
    (r18_Ticket p0 (rd (0 : Int) y3 x6)).bind fun y7 =>
    (r04_Add x5 y7).bind fun y8 =>
    bnd (i64.wrap (x6 + 1)) fun x9 =>
    some (.inl (y8, x9))
  else
  (r18_Thread_j1 x5).map .inr
def r18_Thread (p0 : D_api_State) (p1 : Int) : Option D_r04_Q :=
  bnd ((([] : List Int), ([] : List Int))) fun x1 =>
  (r04_Int (0 : Int)).bind fun y2 =>
  (r15_Tickets p0 (2 : Int) p1).bind fun y3 =>
  loopM (fun x : D_r04_Q × Int => r18_Thread_b1 p0 y3 x.1 x.2) (y2, (0 : Int))
theorem r18_Thread.ok {p0 : D_api_State} {p1 : Int} {r : D_r04_Q} (h : r18_Thread p0 p1 = some r) : ACall prog 107 [⟨T_api_State, p0⟩, ⟨.int .i64, p1⟩] [⟨0, T_r04_Q, r⟩] := by
  replace h := Leads.of h
  unfold r18_Thread at h
  refine AC func107 rfl fun w0 F0 hw0 => ?_
  refine W_seq ?_
  refine R1 h [] (fun x1 => [(1, .v 0 (.int .i64) p1), (2, .box 0 T_api_State p0), (4, .box 9 T_r04_Q x1)]) pz fun x1 h => ?_
  refine W_seq ?_
  obtain ⟨y2, ey2, h⟩ := h.bind
  refine R [.res [(0, ⟨0, T_r04_Q, y2⟩)]] [(1, .v 0 (.int .i64) p1), (2, .box 0 T_api_State p0), (4, .box 9 T_r04_Q x1), (5, .box 0 T_r04_Q y2)] (ps (r04_Int.ok ey2)) ?_
  refine W_seq ?_
  obtain ⟨y3, ey3, h⟩ := h.bind
  refine R [.res [(9, ⟨9, .slice (.int .i64), y3⟩)]] [(2, .box 0 T_api_State p0), (4, .box 9 T_r04_Q x1), (5, .box 0 T_r04_Q y2), (6, .v 9 (.slice (.int .i64)) y3)] (ps (r15_Tickets.ok ey3)) ?_
  refine W_seq (W_seq ?_)
  refine R [] [(2, .box 0 T_api_State p0), (4, .box 9 T_r04_Q x1), (5, .box 0 T_r04_Q y2), (6, .v 9 (.slice (.int .i64)) y3), (7, .v 0 (.int .i64) (0 : Int))] pz ?_
  refine J1 h r18_Thread_j1 (fun x4 => [(4, .box 9 T_r04_Q x1), (5, .box 0 T_r04_Q x4)]) (fun x4 h => ?_) fun j1 => ?_
  · unfold r18_Thread_j1 at h
    refine W_seq ?_
    refine R [] [(4, .box 0 T_r04_Q x4)] pz ?_
    cases h
    exact Rt hw0
  refine W_block ?_
  refine L2 h (fun x5 x6 => [(2, .box 0 T_api_State p0), (4, .box 9 T_r04_Q x1), (5, .box 0 T_r04_Q x5), (6, .v 9 (.slice (.int .i64)) y3), (7, .v 0 (.int .i64) x6)]) fun x5 x6 _ h => ?_
  unfold r18_Thread_b1 at h
  refine W_seq (W_seq ?_)
  refine R [] [(2, .box 0 T_api_State p0), (4, .box 9 T_r04_Q x1), (5, .box 0 T_r04_Q x5), (6, .v 9 (.slice (.int .i64)) y3), (7, .v 0 (.int .i64) x6), (15, .v 0 .bool (decide (x6 < (y3.length : Int))))] pz ?_
  refine C h (fun h => ?_) fun h => ?_
  · refine W_skip (W_seq (W_block ?_))
    obtain ⟨o1, h⟩ := h.ass
    obtain ⟨y7, ey7, h⟩ := h.bind
    obtain ⟨y8, ey8, h⟩ := h.bind
    refine R [.res [(0, ⟨0, T_r04_Q, y7⟩)], .res [(0, ⟨0, T_r04_Q, y8⟩)]] [(2, .box 0 T_api_State p0), (4, .box 9 T_r04_Q x1), (5, .box 0 T_r04_Q y8), (6, .v 9 (.slice (.int .i64)) y3), (7, .v 0 (.int .i64) x6)] (pc o1 (pc (r18_Ticket.ok ey7) (ps (r04_Add.ok ey8)))) ?_
    refine W_blk ?_
    refine R1 h [] (fun x9 => [(2, .box 0 T_api_State p0), (4, .box 9 T_r04_Q x1), (5, .box 0 T_r04_Q y8), (6, .v 9 (.slice (.int .i64)) y3), (7, .v 0 (.int .i64) x9)]) pz fun x9 h => ?_
    exact B h
  refine W_exit rfl ?_
  exact K (j1 x5 h.back)

def r16_Behind_j1 (x1 : List Int) : Option (List Int) :=
  some x1
def r16_Behind_j3 (x3 : Int) (x9 : List Int) : Option (((List Int) × Int) ⊕ (List Int)) :=
  bnd (i64.wrap (x3 + 1)) fun x10 =>
  some (.inl (x9, x10))
def r16_Behind_j2 (x2 : List Int) (x3 : Int) (x8 : Bool) : Option (((List Int) × Int) ⊕ (List Int)) :=
  bif x8 then
    ass (((x2.length + [x3].length : Nat) : Int) ≤ limA) <|
    bnd (x2 ++ [x3]) fun x11 =>
    r16_Behind_j3 x3 x11
  else
  r16_Behind_j3 x3 x2
def r16_Behind_b1 (p0 : D_api_State) (p1 : Int) (p2 : Bool) (x2 : List Int) (x3 : Int) : Option (((List Int) × Int) ⊕ (List Int)) :=
  (bif decide (x3 < (p0.2.2.1.length : Int)) then r14_Thread p0 p1 else some false).bind fun y4 =>
  bif (decide (x3 < (p0.2.2.1.length : Int))) && y4 then
    (r14_ThreadArrows p0).bind fun y5 =>
    (r13_Reach (p0.2.2.1.length : Int) y5 x3).bind fun y6 =>
    ass (0 ≤ p1 ∧ p1 < (y6.length : Int)) <|
    bnd (rd false y6 p1) fun x7 =>
    bif p2 then
      (r16_Next p0 x3).bind fun y12 =>
      bnd (y12 == p1) fun x13 =>
      r16_Behind_j2 x2 x3 x13
    else
    r16_Behind_j2 x2 x3 x7
  else
  (r16_Behind_j1 x2).map .inr
def r16_Behind (p0 : D_api_State) (p1 : Int) (p2 : Bool) : Option (List Int) :=
  loopM (fun x : (List Int) × Int => r16_Behind_b1 p0 p1 p2 x.1 x.2) (([] : List Int), (0 : Int))
theorem r16_Behind.ok {p0 : D_api_State} {p1 : Int} {p2 : Bool} {r : List Int} (h : r16_Behind p0 p1 p2 = some r) : ACall prog 108 [⟨T_api_State, p0⟩, ⟨.int .i64, p1⟩, ⟨.bool, p2⟩] [⟨9, .slice (.int .i64), r⟩] := by
  replace h := Leads.of h
  unfold r16_Behind at h
  refine AC func108 rfl fun w0 F0 hw0 => ?_
  refine W_seq ?_
  refine R [] [(1, .v 0 (.int .i64) p1), (2, .v 0 .bool p2), (3, .box 0 T_api_State p0)] pz ?_
  refine W_seq ?_
  refine R [] [(1, .v 0 (.int .i64) p1), (2, .v 0 .bool p2), (3, .box 0 T_api_State p0), (7, .v 9 (.slice (.int .i64)) ([] : List Int))] pz ?_
  refine W_seq (W_seq ?_)
  refine R [] [(1, .v 0 (.int .i64) p1), (2, .v 0 .bool p2), (3, .box 0 T_api_State p0), (7, .v 9 (.slice (.int .i64)) ([] : List Int)), (8, .v 0 (.int .i64) (0 : Int))] pz ?_
  refine J1 h r16_Behind_j1 (fun x1 => [(7, .v 9 (.slice (.int .i64)) x1)]) (fun x1 h => ?_) fun j1 => ?_
  · unfold r16_Behind_j1 at h
    refine W_seq ?_
    refine R [] [(6, .v 9 (.slice (.int .i64)) x1)] pz ?_
    cases h
    exact Rt hw0
  refine W_block ?_
  refine L2 h (fun x2 x3 => [(1, .v 0 (.int .i64) p1), (2, .v 0 .bool p2), (3, .box 0 T_api_State p0), (7, .v 9 (.slice (.int .i64)) x2), (8, .v 0 (.int .i64) x3)]) fun x2 x3 _ h => ?_
  unfold r16_Behind_b1 at h
  refine W_seq (W_seq ?_)
  obtain ⟨y4, ey4, h⟩ := h.bind
  refine R [.res [(0, ⟨0, .bool, y4⟩)]] [(1, .v 0 (.int .i64) p1), (2, .v 0 .bool p2), (3, .box 0 T_api_State p0), (7, .v 9 (.slice (.int .i64)) x2), (8, .v 0 (.int .i64) x3), (19, .v 0 .bool ((decide (x3 < (p0.2.2.1.length : Int))) && y4))] (ps (fun hc => r14_Thread.ok (bif_some ey4 hc))) ?_
  refine C h (fun h => ?_) fun h => ?_
  · refine W_skip (W_seq (W_block (W_seq ?_)))
    obtain ⟨y5, ey5, h⟩ := h.bind
    obtain ⟨y6, ey6, h⟩ := h.bind
    obtain ⟨o1, h⟩ := h.ass
    refine R1 h [.res [(9, ⟨9, .slice T_r13_Arrow, y5⟩)], .res [(9, ⟨9, .slice .bool, y6⟩)]] (fun x7 => [(1, .v 0 (.int .i64) p1), (2, .v 0 .bool p2), (3, .box 0 T_api_State p0), (7, .v 9 (.slice (.int .i64)) x2), (8, .v 0 (.int .i64) x3), (9, .v 0 .bool x7)]) (pc (r14_ThreadArrows.ok ey5) (pc (r13_Reach.ok ey6) (ps o1))) fun x7 h => ?_
    refine W_seq (W_seq ?_)
    refine R [] [(1, .v 0 (.int .i64) p1), (2, .v 0 .bool p2), (3, .box 0 T_api_State p0), (7, .v 9 (.slice (.int .i64)) x2), (8, .v 0 (.int .i64) x3), (9, .v 0 .bool x7), (32, .v 0 .bool p2)] pz ?_
    refine J1 h (r16_Behind_j2 x2 x3) (fun x8 => [(1, .v 0 (.int .i64) p1), (2, .v 0 .bool p2), (3, .box 0 T_api_State p0), (7, .v 9 (.slice (.int .i64)) x2), (8, .v 0 (.int .i64) x3), (9, .v 0 .bool x8)]) (fun x8 h => ?_) fun j2 => ?_
    · unfold r16_Behind_j2 at h
      refine W_seq ?_
      refine R [] [(1, .v 0 (.int .i64) p1), (2, .v 0 .bool p2), (3, .box 0 T_api_State p0), (7, .v 9 (.slice (.int .i64)) x2), (8, .v 0 (.int .i64) x3), (38, .v 0 .bool x8)] pz ?_
      refine J1 h (r16_Behind_j3 x3) (fun x9 => [(1, .v 0 (.int .i64) p1), (2, .v 0 .bool p2), (3, .box 0 T_api_State p0), (7, .v 9 (.slice (.int .i64)) x9), (8, .v 0 (.int .i64) x3)]) (fun x9 h => ?_) fun j3 => ?_
      · unfold r16_Behind_j3 at h
        refine W_blk ?_
        refine R1 h [] (fun x10 => [(1, .v 0 (.int .i64) p1), (2, .v 0 .bool p2), (3, .box 0 T_api_State p0), (7, .v 9 (.slice (.int .i64)) x9), (8, .v 0 (.int .i64) x10)]) pz fun x10 h => ?_
        exact B h
      refine C h (fun h => ?_) fun h => ?_
      · obtain ⟨o1, h⟩ := h.ass
        refine R1 h [] (fun x11 => [(1, .v 0 (.int .i64) p1), (2, .v 0 .bool p2), (3, .box 0 T_api_State p0), (7, .v 9 (.slice (.int .i64)) x11), (8, .v 0 (.int .i64) x3)]) (ps o1) fun x11 h => ?_
        exact K (j3 x11 h)
      refine W_skip ?_
      exact K (j3 x2 h)
    refine C h (fun h => ?_) fun h => ?_
    · obtain ⟨y12, ey12, h⟩ := h.bind
      refine R1 h [.res [(0, ⟨0, .int .i64, y12⟩)]] (fun x13 => [(1, .v 0 (.int .i64) p1), (2, .v 0 .bool p2), (3, .box 0 T_api_State p0), (7, .v 9 (.slice (.int .i64)) x2), (8, .v 0 (.int .i64) x3), (9, .v 0 .bool x13)]) (ps (r16_Next.ok ey12)) fun x13 h => ?_
      exact K (j2 x13 h)
    refine W_skip ?_
    exact K (j2 x7 h)
  refine W_exit rfl ?_
  exact K (j1 x2 h.back)

def r19_At_j1 (x4 : D_r04_Q) : Option (D_r04_Q) :=
  some x4
def r19_At_b1 (p0 : D_api_State) (y3 : List Int) (x5 : D_r04_Q) (x6 : Int) : Option ((D_r04_Q × Int) ⊕ D_r04_Q) :=
  bif decide (x6 < (y3.length : Int)) then
    ass (0 ≤ x6 ∧ x6 < (y3.length : Int)) <|
    (r18_Thread p0 (rd (0 : Int) y3 x6)).bind fun y7 =>
    (r04_Add x5 y7).bind fun y8 =>
    bnd (i64.wrap (x6 + 1)) fun x9 =>
    some (.inl (y8, x9))
  else
  (r19_At_j1 x5).map .inr
def r19_At (p0 : D_api_State) (p1 : Int) : Option D_r04_Q :=
  bnd ((([] : List Int), ([] : List Int))) fun x1 =>
  (r18_Thread p0 p1).bind fun y2 =>
  (r16_Behind p0 p1 false).bind fun y3 =>
  loopM (fun x : D_r04_Q × Int => r19_At_b1 p0 y3 x.1 x.2) (y2, (0 : Int))
theorem r19_At.ok {p0 : D_api_State} {p1 : Int} {r : D_r04_Q} (h : r19_At p0 p1 = some r) : ACall prog 71 [⟨T_api_State, p0⟩, ⟨.int .i64, p1⟩] [⟨0, T_r04_Q, r⟩] := by
  replace h := Leads.of h
  unfold r19_At at h
  refine AC func71 rfl fun w0 F0 hw0 => ?_
  refine W_seq ?_
  refine R1 h [] (fun x1 => [(1, .v 0 (.int .i64) p1), (2, .box 0 T_api_State p0), (4, .box 9 T_r04_Q x1)]) pz fun x1 h => ?_
  refine W_seq ?_
  obtain ⟨y2, ey2, h⟩ := h.bind
  refine R [.res [(0, ⟨0, T_r04_Q, y2⟩)]] [(1, .v 0 (.int .i64) p1), (2, .box 0 T_api_State p0), (4, .box 9 T_r04_Q x1), (5, .box 0 T_r04_Q y2)] (ps (r18_Thread.ok ey2)) ?_
  refine W_seq ?_
  obtain ⟨y3, ey3, h⟩ := h.bind
  refine R [.res [(9, ⟨9, .slice (.int .i64), y3⟩)]] [(2, .box 0 T_api_State p0), (4, .box 9 T_r04_Q x1), (5, .box 0 T_r04_Q y2), (6, .v 9 (.slice (.int .i64)) y3)] (ps (r16_Behind.ok ey3)) ?_
  refine W_seq (W_seq ?_)
  refine R [] [(2, .box 0 T_api_State p0), (4, .box 9 T_r04_Q x1), (5, .box 0 T_r04_Q y2), (6, .v 9 (.slice (.int .i64)) y3), (7, .v 0 (.int .i64) (0 : Int))] pz ?_
  refine J1 h r19_At_j1 (fun x4 => [(4, .box 9 T_r04_Q x1), (5, .box 0 T_r04_Q x4)]) (fun x4 h => ?_) fun j1 => ?_
  · unfold r19_At_j1 at h
    refine W_seq ?_
    refine R [] [(4, .box 0 T_r04_Q x4)] pz ?_
    cases h
    exact Rt hw0
  refine W_block ?_
  refine L2 h (fun x5 x6 => [(2, .box 0 T_api_State p0), (4, .box 9 T_r04_Q x1), (5, .box 0 T_r04_Q x5), (6, .v 9 (.slice (.int .i64)) y3), (7, .v 0 (.int .i64) x6)]) fun x5 x6 _ h => ?_
  unfold r19_At_b1 at h
  refine W_seq (W_seq ?_)
  refine R [] [(2, .box 0 T_api_State p0), (4, .box 9 T_r04_Q x1), (5, .box 0 T_r04_Q x5), (6, .v 9 (.slice (.int .i64)) y3), (7, .v 0 (.int .i64) x6), (17, .v 0 .bool (decide (x6 < (y3.length : Int))))] pz ?_
  refine C h (fun h => ?_) fun h => ?_
  · refine W_skip (W_seq (W_block ?_))
    obtain ⟨o1, h⟩ := h.ass
    obtain ⟨y7, ey7, h⟩ := h.bind
    obtain ⟨y8, ey8, h⟩ := h.bind
    refine R [.res [(0, ⟨0, T_r04_Q, y7⟩)], .res [(0, ⟨0, T_r04_Q, y8⟩)]] [(2, .box 0 T_api_State p0), (4, .box 9 T_r04_Q x1), (5, .box 0 T_r04_Q y8), (6, .v 9 (.slice (.int .i64)) y3), (7, .v 0 (.int .i64) x6)] (pc o1 (pc (r18_Thread.ok ey7) (ps (r04_Add.ok ey8)))) ?_
    refine W_blk ?_
    refine R1 h [] (fun x9 => [(2, .box 0 T_api_State p0), (4, .box 9 T_r04_Q x1), (5, .box 0 T_r04_Q y8), (6, .v 9 (.slice (.int .i64)) y3), (7, .v 0 (.int .i64) x9)]) pz fun x9 h => ?_
    exact B h
  refine W_exit rfl ?_
  exact K (j1 x5 h.back)

def r20_Weight (p0 : D_api_State) (p1 : Int) : Option D_r04_Q :=
  bnd ((([] : List Int), ([] : List Int))) fun x1 =>
  ass (0 ≤ p1 ∧ p1 < (p0.2.2.1.length : Int)) <|
  bnd (rd z_api_Thread p0.2.2.1 p1) fun x2 =>
  bif x2.1 != 2 then
    (r04_Int (0 : Int)).bind fun y3 =>
    some y3
  else
  (r19_At p0 p1).bind fun y4 =>
  (r04_Of (u64.wrap x2.2.2.2.1) (u64.wrap x2.2.2.2.2)).bind fun y5 =>
  (r04_Mul y4 y5).bind fun y6 =>
  some y6
theorem r20_Weight.ok {p0 : D_api_State} {p1 : Int} {r : D_r04_Q} (h : r20_Weight p0 p1 = some r) : ACall prog 20 [⟨T_api_State, p0⟩, ⟨.int .i64, p1⟩] [⟨0, T_r04_Q, r⟩] := by
  replace h := Leads.of h
  unfold r20_Weight at h
  refine AC func20 rfl fun w0 F0 hw0 => ?_
  refine W_seq ?_
  refine R1 h [] (fun x1 => [(1, .v 0 (.int .i64) p1), (2, .box 0 T_api_State p0), (4, .box 9 T_r04_Q x1)]) pz fun x1 h => ?_
  refine W_seq ?_
  obtain ⟨o1, h⟩ := h.ass
  refine R1 h [] (fun x2 => [(1, .v 0 (.int .i64) p1), (2, .box 0 T_api_State p0), (4, .box 9 T_r04_Q x1), (5, .box 9 T_api_Thread x2)]) (ps o1) fun x2 h => ?_
  refine W_seq (W_seq ?_)
  refine R [] [(1, .v 0 (.int .i64) p1), (2, .box 0 T_api_State p0), (4, .box 9 T_r04_Q x1), (5, .box 9 T_api_Thread x2), (13, .v 0 .bool (x2.1 != 2))] pz ?_
  refine C h (fun h => ?_) fun h => ?_
  · refine W_seq ?_
    obtain ⟨y3, ey3, h⟩ := h.bind
    refine R [.res [(0, ⟨0, T_r04_Q, y3⟩)]] [(4, .box 0 T_r04_Q y3)] (ps (r04_Int.ok ey3)) ?_
    cases h
    exact Rt hw0
  refine W_skip (W_seq ?_)
  obtain ⟨y4, ey4, h⟩ := h.bind
  obtain ⟨y5, ey5, h⟩ := h.bind
  obtain ⟨y6, ey6, h⟩ := h.bind
  refine R [.res [(0, ⟨0, T_r04_Q, y4⟩)], .res [(0, ⟨0, T_r04_Q, y5⟩)], .res [(0, ⟨0, T_r04_Q, y6⟩)]] [(4, .box 0 T_r04_Q y6)] (pc (r19_At.ok ey4) (pc (r04_Of.ok ey5) (ps (r04_Mul.ok ey6)))) ?_
  cases h
  exact Rt hw0

def state_get_api_Thread (p0 : List D_api_Thread) (p1 : Int) (p2 : D_api_Thread → Option Bool) : Option (D_api_Thread × Bool) :=
  bnd (((0 : Int), (0 : Int), (0 : Int), (0 : Int), (0 : Int))) fun x1 =>
  ass ((!((decide (p1 < 0)) || (decide (p1 ≥ (p0.length : Int))))) = true → 0 ≤ p1 ∧ p1 < (p0.length : Int)) <|
  (bif !((decide (p1 < 0)) || (decide (p1 ≥ (p0.length : Int)))) then p2 (rd z_api_Thread p0 p1) else some false).bind fun y2 =>
  bif ((decide (p1 < 0)) || (decide (p1 ≥ (p0.length : Int)))) || (!y2) then
    some (x1, false)
  else
  ass (0 ≤ p1 ∧ p1 < (p0.length : Int)) <|
  bnd (rd z_api_Thread p0 p1) fun x3 =>
  some (x3, true)
theorem state_get_api_Thread.ok {p0 : List D_api_Thread} {p1 : Int} {p2 : D_api_Thread → Option Bool} {r : D_api_Thread × Bool} (h : state_get_api_Thread p0 p1 p2 = some r) : ACall prog 112 [⟨.slice T_api_Thread, p0⟩, ⟨.int .i64, p1⟩, ⟨.fn T_api_Thread .bool, p2⟩] [⟨0, T_api_Thread, r.1⟩, ⟨0, .bool, r.2⟩] := by
  replace h := Leads.of h
  unfold state_get_api_Thread at h
  refine AC func112 rfl fun w0 F0 hw0 => ?_
  refine W_seq ?_
  refine R1 h [] (fun x1 => [(0, .v 0 (.slice T_api_Thread) p0), (1, .v 0 (.int .i64) p1), (2, .v 0 (.fn T_api_Thread .bool) p2), (6, .box 9 T_api_Thread x1)]) pz fun x1 h => ?_
  refine W_seq (W_seq ?_)
  obtain ⟨o1, h⟩ := h.ass
  obtain ⟨y2, ey2, h⟩ := h.bind
  refine R [.res [(0, ⟨9, .bool, y2⟩)]] [(0, .v 0 (.slice T_api_Thread) p0), (1, .v 0 (.int .i64) p1), (6, .box 9 T_api_Thread x1), (24, .v 0 .bool (((decide (p1 < 0)) || (decide (p1 ≥ (p0.length : Int)))) || (!y2)))] (pc o1 (ps (fun hc => bif_some ey2 hc))) ?_
  refine C h (fun h => ?_) fun h => ?_
  · refine W_seq ?_
    refine R [] [(6, .box 9 T_api_Thread x1), (7, .v 0 .bool false)] pz ?_
    cases h
    exact Rt hw0
  refine W_skip (W_seq ?_)
  obtain ⟨o1, h⟩ := h.ass
  refine R1 h [] (fun x3 => [(6, .box 9 T_api_Thread x3), (7, .v 0 .bool true)]) (ps o1) fun x3 h => ?_
  cases h
  exact Rt hw0

def state_threadUsed (p0 : D_api_Thread) : Option Bool :=
  bnd (p0.1 != 0) fun x1 =>
  some x1
theorem state_threadUsed.ok {p0 : D_api_Thread} {r : Bool} (h : state_threadUsed p0 = some r) : ACall prog 113 [⟨T_api_Thread, p0⟩] [⟨0, .bool, r⟩] := by
  replace h := Leads.of h
  unfold state_threadUsed at h
  refine AC func113 rfl fun w0 F0 hw0 => ?_
  refine W_seq ?_
  refine R [] [(1, .box 9 T_api_Thread p0)] pz ?_
  refine W_seq ?_
  refine R1 h [] (fun x1 => [(2, .v 0 .bool x1)]) pz fun x1 h => ?_
  cases h
  exact Rt hw0

def state_Thread (p0 : D_api_State) (p1 : Int) : Option (D_api_Thread × Bool) :=
  bnd (((0 : Int), (0 : Int), (0 : Int), (0 : Int), (0 : Int))) fun x1 =>
  (state_get_api_Thread p0.2.2.1 p1 (fun x => state_threadUsed x)).bind fun y2 =>
  some (y2.1, y2.2)
theorem state_Thread.ok {p0 : D_api_State} {p1 : Int} {r : D_api_Thread × Bool} (h : state_Thread p0 p1 = some r) : ACall prog 74 [⟨T_api_State, p0⟩, ⟨.int .i64, p1⟩] [⟨0, T_api_Thread, r.1⟩, ⟨0, .bool, r.2⟩] := by
  replace h := Leads.of h
  unfold state_Thread at h
  refine AC func74 rfl fun w0 F0 hw0 => ?_
  refine W_seq ?_
  refine R1 h [] (fun x1 => [(1, .v 0 (.int .i64) p1), (2, .box 0 T_api_State p0), (4, .box 9 T_api_Thread x1)]) pz fun x1 h => ?_
  refine W_seq ?_
  obtain ⟨y2, ey2, h⟩ := h.bind
  refine R [.fn T_api_Thread .bool (fun x => state_threadUsed x), .res [(0, ⟨0, T_api_Thread, y2.1⟩), (0, ⟨0, .bool, y2.2⟩)]] [(4, .box 9 T_api_Thread y2.1), (5, .v 0 .bool y2.2)] (pc (fun x y e => ACall.flat rfl (state_threadUsed.ok e) : ∀ x y, (fun x => state_threadUsed x) x = some y → ACall prog 113 (unprod T_api_Thread x ++ []) [⟨9, .bool, y⟩]) (ps (state_get_api_Thread.ok ey2))) ?_
  cases h
  exact Rt hw0

def state_get_api_Lock (p0 : List D_api_Lock) (p1 : Int) (p2 : D_api_Lock → Option Bool) : Option (D_api_Lock × Bool) :=
  bnd ((false, (0 : Int))) fun x1 =>
  ass ((!((decide (p1 < 0)) || (decide (p1 ≥ (p0.length : Int))))) = true → 0 ≤ p1 ∧ p1 < (p0.length : Int)) <|
  (bif !((decide (p1 < 0)) || (decide (p1 ≥ (p0.length : Int)))) then p2 (rd z_api_Lock p0 p1) else some false).bind fun y2 =>
  bif ((decide (p1 < 0)) || (decide (p1 ≥ (p0.length : Int)))) || (!y2) then
    some (x1, false)
  else
  ass (0 ≤ p1 ∧ p1 < (p0.length : Int)) <|
  bnd (rd z_api_Lock p0 p1) fun x3 =>
  some (x3, true)
theorem state_get_api_Lock.ok {p0 : List D_api_Lock} {p1 : Int} {p2 : D_api_Lock → Option Bool} {r : D_api_Lock × Bool} (h : state_get_api_Lock p0 p1 p2 = some r) : ACall prog 173 [⟨.slice T_api_Lock, p0⟩, ⟨.int .i64, p1⟩, ⟨.fn T_api_Lock .bool, p2⟩] [⟨0, T_api_Lock, r.1⟩, ⟨0, .bool, r.2⟩] := by
  replace h := Leads.of h
  unfold state_get_api_Lock at h
  refine AC func173 rfl fun w0 F0 hw0 => ?_
  refine W_seq ?_
  refine R1 h [] (fun x1 => [(0, .v 0 (.slice T_api_Lock) p0), (1, .v 0 (.int .i64) p1), (2, .v 0 (.fn T_api_Lock .bool) p2), (6, .box 9 T_api_Lock x1)]) pz fun x1 h => ?_
  refine W_seq (W_seq ?_)
  obtain ⟨o1, h⟩ := h.ass
  obtain ⟨y2, ey2, h⟩ := h.bind
  refine R [.res [(0, ⟨9, .bool, y2⟩)]] [(0, .v 0 (.slice T_api_Lock) p0), (1, .v 0 (.int .i64) p1), (6, .box 9 T_api_Lock x1), (24, .v 0 .bool (((decide (p1 < 0)) || (decide (p1 ≥ (p0.length : Int)))) || (!y2)))] (pc o1 (ps (fun hc => bif_some ey2 hc))) ?_
  refine C h (fun h => ?_) fun h => ?_
  · refine W_seq ?_
    refine R [] [(6, .box 9 T_api_Lock x1), (7, .v 0 .bool false)] pz ?_
    cases h
    exact Rt hw0
  refine W_skip (W_seq ?_)
  obtain ⟨o1, h⟩ := h.ass
  refine R1 h [] (fun x3 => [(6, .box 9 T_api_Lock x3), (7, .v 0 .bool true)]) (ps o1) fun x3 h => ?_
  cases h
  exact Rt hw0

def state_lockUsed (p0 : D_api_Lock) : Option Bool :=
  some p0.1
theorem state_lockUsed.ok {p0 : D_api_Lock} {r : Bool} (h : state_lockUsed p0 = some r) : ACall prog 166 [⟨T_api_Lock, p0⟩] [⟨0, .bool, r⟩] := by
  replace h := Leads.of h
  unfold state_lockUsed at h
  refine AC func166 rfl fun w0 F0 hw0 => ?_
  refine W_seq ?_
  refine R [] [(1, .box 9 T_api_Lock p0)] pz ?_
  refine W_seq ?_
  refine R [] [(2, .v 0 .bool p0.1)] pz ?_
  cases h
  exact Rt hw0

def state_Lock (p0 : D_api_State) (p1 : Int) : Option (D_api_Lock × Bool) :=
  bnd ((false, (0 : Int))) fun x1 =>
  (state_get_api_Lock p0.2.2.2.1 p1 (fun x => state_lockUsed x)).bind fun y2 =>
  some (y2.1, y2.2)
theorem state_Lock.ok {p0 : D_api_State} {p1 : Int} {r : D_api_Lock × Bool} (h : state_Lock p0 p1 = some r) : ACall prog 159 [⟨T_api_State, p0⟩, ⟨.int .i64, p1⟩] [⟨0, T_api_Lock, r.1⟩, ⟨0, .bool, r.2⟩] := by
  replace h := Leads.of h
  unfold state_Lock at h
  refine AC func159 rfl fun w0 F0 hw0 => ?_
  refine W_seq ?_
  refine R1 h [] (fun x1 => [(1, .v 0 (.int .i64) p1), (2, .box 0 T_api_State p0), (4, .box 9 T_api_Lock x1)]) pz fun x1 h => ?_
  refine W_seq ?_
  obtain ⟨y2, ey2, h⟩ := h.bind
  refine R [.fn T_api_Lock .bool (fun x => state_lockUsed x), .res [(0, ⟨0, T_api_Lock, y2.1⟩), (0, ⟨0, .bool, y2.2⟩)]] [(4, .box 9 T_api_Lock y2.1), (5, .v 0 .bool y2.2)] (pc (fun x y e => ACall.flat rfl (state_lockUsed.ok e) : ∀ x y, (fun x => state_lockUsed x) x = some y → ACall prog 166 (unprod T_api_Lock x ++ []) [⟨9, .bool, y⟩]) (ps (state_get_api_Lock.ok ey2))) ?_
  cases h
  exact Rt hw0

def chain_Next (p0 : D_api_State) (p1 : Int) : Option Int :=
  (state_Thread p0 p1).bind fun y1 =>
  bif y1.1.1 == 4 then
    some y1.1.2.1
  else
  bif y1.1.1 == 6 then
    (state_Lock p0 y1.1.2.1).bind fun y2 =>
    some y2.1.2
  else
  some (-1 : Int)
theorem chain_Next.ok {p0 : D_api_State} {p1 : Int} {r : Int} (h : chain_Next p0 p1 = some r) : ACall prog 140 [⟨T_api_State, p0⟩, ⟨.int .i64, p1⟩] [⟨0, .int .i64, r⟩] := by
  replace h := Leads.of h
  unfold chain_Next at h
  refine AC func140 rfl fun w0 F0 hw0 => ?_
  refine W_seq ?_
  refine R [] [(1, .v 0 (.int .i64) p1), (2, .box 0 T_api_State p0)] pz ?_
  refine W_seq ?_
  obtain ⟨y1, ey1, h⟩ := h.bind
  refine R [.res [(0, ⟨0, T_api_Thread, y1.1⟩), (0, ⟨0, .bool, y1.2⟩)]] [(2, .box 0 T_api_State p0), (5, .box 9 T_api_Thread y1.1)] (ps (state_Thread.ok ey1)) ?_
  refine W_seq (W_seq ?_)
  refine R [] [(2, .box 0 T_api_State p0), (5, .box 9 T_api_Thread y1.1), (16, .v 0 (.int .i64) y1.1.1)] pz ?_
  refine W_block (W_seq ?_)
  refine R [] [(2, .box 0 T_api_State p0), (5, .box 9 T_api_Thread y1.1), (16, .v 0 (.int .i64) y1.1.1), (17, .v 0 .bool (y1.1.1 == 4))] pz ?_
  refine C h (fun h => ?_) fun h => ?_
  · refine W_seq ?_
    refine R [] [(4, .v 0 (.int .i64) y1.1.2.1)] pz ?_
    cases h
    exact Rt hw0
  refine W_seq ?_
  refine R [] [(2, .box 0 T_api_State p0), (5, .box 9 T_api_Thread y1.1), (21, .v 0 .bool (y1.1.1 == 6))] pz ?_
  refine C h (fun h => ?_) fun h => ?_
  · refine W_seq ?_
    obtain ⟨y2, ey2, h⟩ := h.bind
    refine R [.res [(0, ⟨0, T_api_Lock, y2.1⟩), (0, ⟨0, .bool, y2.2⟩)]] [(7, .box 9 T_api_Lock y2.1)] (ps (state_Lock.ok ey2)) ?_
    refine W_seq ?_
    refine R [] [(4, .v 0 (.int .i64) y2.1.2)] pz ?_
    cases h
    exact Rt hw0
  refine W_skip (W_blk (W_seq ?_))
  refine R [] [(4, .v 0 (.int .i64) (-1 : Int))] pz ?_
  cases h
  exact Rt hw0

def chain_Tail_j1 (x2 : List Int) : Option (List Int) :=
  some x2
def chain_Tail_b1 (p0 : D_api_State) (x3 : Int) (x4 : List Int) : Option ((Int × (List Int)) ⊕ (List Int)) :=
  bif x3 != (-1) then
    ass (((x4.length + [x3].length : Nat) : Int) ≤ limA) <|
    bnd (x4 ++ [x3]) fun x5 =>
    (chain_Next p0 x3).bind fun y6 =>
    some (.inl (y6, x5))
  else
  (chain_Tail_j1 x4).map .inr
def chain_Tail (p0 : D_api_State) (p1 : Int) : Option (List Int) :=
  (state_Thread p0 p1).bind fun y1 =>
  bif !y1.2 then
    some ([] : List Int)
  else
  loopM (fun x : Int × (List Int) => chain_Tail_b1 p0 x.1 x.2) (p1, ([] : List Int))
theorem chain_Tail.ok {p0 : D_api_State} {p1 : Int} {r : List Int} (h : chain_Tail p0 p1 = some r) : ACall prog 110 [⟨T_api_State, p0⟩, ⟨.int .i64, p1⟩] [⟨9, .slice (.int .i64), r⟩] := by
  replace h := Leads.of h
  unfold chain_Tail at h
  refine AC func110 rfl fun w0 F0 hw0 => ?_
  refine W_seq ?_
  refine R [] [(1, .v 0 (.int .i64) p1), (2, .box 0 T_api_State p0), (4, .v 9 (.slice (.int .i64)) ([] : List Int))] pz ?_
  refine W_seq (W_seq ?_)
  obtain ⟨y1, ey1, h⟩ := h.bind
  refine R [.res [(0, ⟨0, T_api_Thread, y1.1⟩), (0, ⟨0, .bool, y1.2⟩)]] [(1, .v 0 (.int .i64) p1), (2, .box 0 T_api_State p0), (4, .v 9 (.slice (.int .i64)) ([] : List Int)), (6, .v 0 .bool y1.2)] (ps (state_Thread.ok ey1)) ?_
  refine W_seq ?_
  refine R [] [(1, .v 0 (.int .i64) p1), (2, .box 0 T_api_State p0), (4, .v 9 (.slice (.int .i64)) ([] : List Int)), (14, .v 0 .bool (!y1.2))] pz ?_
  refine C h (fun h => ?_) fun h => ?_
  · refine W_seq ?_
    refine R [] [(4, .v 9 (.slice (.int .i64)) ([] : List Int))] pz ?_
    cases h
    exact Rt hw0
  refine W_skip (W_seq ?_)
  refine J1 h chain_Tail_j1 (fun x2 => [(4, .v 9 (.slice (.int .i64)) x2)]) (fun x2 h => ?_) fun j1 => ?_
  · unfold chain_Tail_j1 at h
    refine W_seq ?_
    refine R [] [(4, .v 9 (.slice (.int .i64)) x2)] pz ?_
    cases h
    exact Rt hw0
  refine W_block ?_
  refine L2 h (fun x3 x4 => [(1, .v 0 (.int .i64) x3), (2, .box 0 T_api_State p0), (4, .v 9 (.slice (.int .i64)) x4)]) fun x3 x4 _ h => ?_
  unfold chain_Tail_b1 at h
  refine W_seq (W_seq ?_)
  refine R [] [(1, .v 0 (.int .i64) x3), (2, .box 0 T_api_State p0), (4, .v 9 (.slice (.int .i64)) x4), (16, .v 0 .bool (x3 != (-1)))] pz ?_
  refine C h (fun h => ?_) fun h => ?_
  · refine W_skip (W_seq (W_block ?_))
    obtain ⟨o1, h⟩ := h.ass
    refine R1 h [] (fun x5 => [(1, .v 0 (.int .i64) x3), (2, .box 0 T_api_State p0), (4, .v 9 (.slice (.int .i64)) x5)]) (ps o1) fun x5 h => ?_
    refine W_blk ?_
    obtain ⟨y6, ey6, h⟩ := h.bind
    refine R [.res [(0, ⟨0, .int .i64, y6⟩)]] [(1, .v 0 (.int .i64) y6), (2, .box 0 T_api_State p0), (4, .v 9 (.slice (.int .i64)) x5)] (ps (chain_Next.ok ey6)) ?_
    exact B h
  refine W_exit rfl ?_
  exact K (j1 x4 h.back)

def chain_End (p0 : D_api_State) (p1 : Int) : Option Int :=
  (chain_Tail p0 p1).bind fun y1 =>
  bif (y1.length : Int) == 0 then
    some (-1 : Int)
  else
  ass (0 ≤ i64.wrap ((y1.length : Int) - 1) ∧ i64.wrap ((y1.length : Int) - 1) < (y1.length : Int)) <|
  bnd (rd (0 : Int) y1 (i64.wrap ((y1.length : Int) - 1))) fun x2 =>
  some x2
theorem chain_End.ok {p0 : D_api_State} {p1 : Int} {r : Int} (h : chain_End p0 p1 = some r) : ACall prog 189 [⟨T_api_State, p0⟩, ⟨.int .i64, p1⟩] [⟨0, .int .i64, r⟩] := by
  replace h := Leads.of h
  unfold chain_End at h
  refine AC func189 rfl fun w0 F0 hw0 => ?_
  refine W_seq ?_
  refine R [] [(1, .v 0 (.int .i64) p1), (2, .box 0 T_api_State p0)] pz ?_
  refine W_seq ?_
  obtain ⟨y1, ey1, h⟩ := h.bind
  refine R [.res [(9, ⟨9, .slice (.int .i64), y1⟩)]] [(5, .v 9 (.slice (.int .i64)) y1)] (ps (chain_Tail.ok ey1)) ?_
  refine W_seq (W_seq ?_)
  refine R [] [(5, .v 9 (.slice (.int .i64)) y1), (11, .v 0 .bool ((y1.length : Int) == 0))] pz ?_
  refine C h (fun h => ?_) fun h => ?_
  · refine W_seq ?_
    refine R [] [(4, .v 0 (.int .i64) (-1 : Int))] pz ?_
    cases h
    exact Rt hw0
  refine W_skip (W_seq ?_)
  obtain ⟨o1, h⟩ := h.ass
  refine R1 h [] (fun x2 => [(4, .v 0 (.int .i64) x2)]) (ps o1) fun x2 h => ?_
  cases h
  exact Rt hw0

def chain_Lives (p0 : D_api_State) (p1 : Int) : Option Bool :=
  (chain_End p0 p1).bind fun y1 =>
  (state_Thread p0 y1).bind fun y2 =>
  bnd ((y2.1.1 == 2) || (y2.1.1 == 3)) fun x3 =>
  some x3
theorem chain_Lives.ok {p0 : D_api_State} {p1 : Int} {r : Bool} (h : chain_Lives p0 p1 = some r) : ACall prog 187 [⟨T_api_State, p0⟩, ⟨.int .i64, p1⟩] [⟨0, .bool, r⟩] := by
  replace h := Leads.of h
  unfold chain_Lives at h
  refine AC func187 rfl fun w0 F0 hw0 => ?_
  refine W_seq ?_
  refine R [] [(1, .v 0 (.int .i64) p1), (2, .box 0 T_api_State p0)] pz ?_
  refine W_seq ?_
  obtain ⟨y1, ey1, h⟩ := h.bind
  obtain ⟨y2, ey2, h⟩ := h.bind
  refine RL [.res [(0, ⟨0, .int .i64, y1⟩)], .res [(0, ⟨0, T_api_Thread, y2.1⟩), (0, ⟨0, .bool, y2.2⟩)]] [(5, .box 9 T_api_Thread y2.1)] (pc (chain_End.ok ey1) (pc (state_Thread.ok ey2) (ps (rfl : (⟨.bool, y2.2⟩ : TV) = ⟨.bool, y2.2⟩)))) ?_
  refine W_seq ?_
  refine R1 h [] (fun x3 => [(4, .v 0 .bool x3)]) pz fun x3 h => ?_
  cases h
  exact Rt hw0

def live_Threads_j1 (x2 : List Bool) : Option (List Bool) :=
  some x2
def live_Threads_b1 (p0 : D_api_State) (x1 : List Bool) (x3 : List Bool) (x4 : Int) : Option (((List Bool) × Int) ⊕ (List Bool)) :=
  bif decide (x4 < (x1.length : Int)) then
    (chain_Lives p0 x4).bind fun y5 =>
    ass (0 ≤ x4 ∧ x4 < (x3.length : Int)) <|
    bnd (wr x3 x4 y5) fun x6 =>
    bnd (i64.wrap (x4 + 1)) fun x7 =>
    some (.inl (x6, x7))
  else
  (live_Threads_j1 x3).map .inr
def live_Threads (p0 : D_api_State) : Option (List Bool) :=
  ass (0 ≤ (p0.2.2.1.length : Int) ∧ (p0.2.2.1.length : Int) ≤ (p0.2.2.1.length : Int) ∧ (p0.2.2.1.length : Int) ≤ lim) <|
  bnd (List.replicate (p0.2.2.1.length : Int).toNat false) fun x1 =>
  loopM (fun x : (List Bool) × Int => live_Threads_b1 p0 x1 x.1 x.2) (x1, (0 : Int))
theorem live_Threads.ok {p0 : D_api_State} {r : List Bool} (h : live_Threads p0 = some r) : ACall prog 183 [⟨T_api_State, p0⟩] [⟨9, .slice .bool, r⟩] := by
  replace h := Leads.of h
  unfold live_Threads at h
  refine AC func183 rfl fun w0 F0 hw0 => ?_
  refine W_seq ?_
  refine R [] [(1, .box 0 T_api_State p0)] pz ?_
  refine W_seq ?_
  obtain ⟨o1, h⟩ := h.ass
  refine R1 h [] (fun x1 => [(1, .box 0 T_api_State p0), (3, .v 9 (.slice .bool) x1)]) (ps o1) fun x1 h => ?_
  refine W_seq (W_seq ?_)
  refine R [] [(1, .box 0 T_api_State p0), (3, .v 9 (.slice .bool) x1), (10, .v 0 (.int .i64) (x1.length : Int)), (11, .v 0 (.int .i64) (0 : Int))] pz ?_
  refine J1 h live_Threads_j1 (fun x2 => [(3, .v 9 (.slice .bool) x2)]) (fun x2 h => ?_) fun j1 => ?_
  · unfold live_Threads_j1 at h
    refine W_seq ?_
    refine R [] [(2, .v 9 (.slice .bool) x2)] pz ?_
    cases h
    exact Rt hw0
  refine W_block ?_
  refine L2 h (fun x3 x4 => [(1, .box 0 T_api_State p0), (3, .v 9 (.slice .bool) x3), (10, .v 0 (.int .i64) (x1.length : Int)), (11, .v 0 (.int .i64) x4)]) fun x3 x4 _ h => ?_
  unfold live_Threads_b1 at h
  refine W_seq ?_
  refine R [] [(1, .box 0 T_api_State p0), (3, .v 9 (.slice .bool) x3), (10, .v 0 (.int .i64) (x1.length : Int)), (11, .v 0 (.int .i64) x4), (12, .v 0 .bool (decide (x4 < (x1.length : Int))))] pz ?_
  refine W_seq ?_
  refine C h (fun h => ?_) fun h => ?_
  · refine W_skip (W_seq (W_block (W_seq ?_)))
    refine R [] [(1, .box 0 T_api_State p0), (3, .v 9 (.slice .bool) x3), (4, .v 0 (.int .i64) x4), (10, .v 0 (.int .i64) (x1.length : Int)), (11, .v 0 (.int .i64) x4)] pz ?_
    obtain ⟨y5, ey5, h⟩ := h.bind
    obtain ⟨o1, h⟩ := h.ass
    refine R1 h [.res [(0, ⟨0, .bool, y5⟩)]] (fun x6 => [(1, .box 0 T_api_State p0), (3, .v 9 (.slice .bool) x6), (10, .v 0 (.int .i64) (x1.length : Int)), (11, .v 0 (.int .i64) x4)]) (pc (chain_Lives.ok ey5) (ps o1)) fun x6 h => ?_
    refine W_blk ?_
    refine R1 h [] (fun x7 => [(1, .box 0 T_api_State p0), (3, .v 9 (.slice .bool) x6), (10, .v 0 (.int .i64) (x1.length : Int)), (11, .v 0 (.int .i64) x7)]) pz fun x7 h => ?_
    exact B h
  refine W_exit rfl ?_
  exact K (j1 x3 h.back)

end
end Go.Tom
