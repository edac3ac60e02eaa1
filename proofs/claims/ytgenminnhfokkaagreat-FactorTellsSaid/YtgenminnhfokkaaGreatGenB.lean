/- Each function of the program as a pure one, and the proof that the code keeps that contract. -/
import Derived.Test.YtgenminnhfokkaaGreatGenA
set_option linter.unusedVariables false
set_option linter.constructorNameAsVariable false
set_option maxRecDepth 100000
namespace Go.Tom
open Go Go.IntKind Go.Proofs.Tryz
noncomputable section
def state_CoinArrows_j1 (x1 : List D_dag_Arrow) : Option (List D_dag_Arrow) :=
  some x1
def state_CoinArrows_j2 (x3 : Int) (x5 : List D_dag_Arrow) : Option (((List D_dag_Arrow) × Int) ⊕ (List D_dag_Arrow)) :=
  bnd (i64.wrap (x3 + 1)) fun x6 =>
  some (.inl (x5, x6))
def state_CoinArrows_b1 (p0 : D_api_State) (x2 : List D_dag_Arrow) (x3 : Int) : Option (((List D_dag_Arrow) × Int) ⊕ (List D_dag_Arrow)) :=
  bif decide (x3 < (p0.2.1.length : Int)) then
    ass (0 ≤ x3 ∧ x3 < (p0.2.1.length : Int)) <|
    bnd (rd z_api_Ticket p0.2.1 x3) fun x4 =>
    bif x4.1 && (x4.2.2.2.1 == 2) then
      ass (((x2.length + [(x4.2.1, x4.2.2.2.2.1)].length : Nat) : Int) ≤ limA) <|
      bnd (x2 ++ [(x4.2.1, x4.2.2.2.2.1)]) fun x7 =>
      state_CoinArrows_j2 x3 x7
    else
    state_CoinArrows_j2 x3 x2
  else
  (state_CoinArrows_j1 x2).map .inr
def state_CoinArrows (p0 : D_api_State) : Option (List D_dag_Arrow) :=
  loopM (fun x : (List D_dag_Arrow) × Int => state_CoinArrows_b1 p0 x.1 x.2) (([] : List D_dag_Arrow), (0 : Int))
theorem state_CoinArrows.ok {p0 : D_api_State} {r : List D_dag_Arrow} (h : state_CoinArrows p0 = some r) : ACall prog 177 [⟨T_api_State, p0⟩] [⟨9, .slice T_dag_Arrow, r⟩] := by
  replace h := Leads.of h
  unfold state_CoinArrows at h
  refine AC func177 rfl fun w0 F0 hw0 => ?_
  refine W_seq ?_
  refine R [] [(1, .box 0 T_api_State p0), (2, .v 9 (.slice T_dag_Arrow) ([] : List D_dag_Arrow))] pz ?_
  refine W_seq (W_seq ?_)
  refine R [] [(2, .v 9 (.slice T_dag_Arrow) ([] : List D_dag_Arrow)), (6, .v 0 (.slice T_api_Ticket) p0.2.1), (7, .v 0 (.int .i64) (p0.2.1.length : Int)), (8, .v 0 (.int .i64) (0 : Int))] pz ?_
  refine J1 h state_CoinArrows_j1 (fun x1 => [(2, .v 9 (.slice T_dag_Arrow) x1)]) (fun x1 h => ?_) fun j1 => ?_
  · unfold state_CoinArrows_j1 at h
    refine W_seq ?_
    refine R [] [(2, .v 9 (.slice T_dag_Arrow) x1)] pz ?_
    cases h
    exact Rt hw0
  refine W_block ?_
  refine L2 h (fun x2 x3 => [(2, .v 9 (.slice T_dag_Arrow) x2), (6, .v 0 (.slice T_api_Ticket) p0.2.1), (7, .v 0 (.int .i64) (p0.2.1.length : Int)), (8, .v 0 (.int .i64) x3)]) fun x2 x3 _ h => ?_
  unfold state_CoinArrows_b1 at h
  refine W_seq ?_
  refine R [] [(2, .v 9 (.slice T_dag_Arrow) x2), (6, .v 0 (.slice T_api_Ticket) p0.2.1), (7, .v 0 (.int .i64) (p0.2.1.length : Int)), (8, .v 0 (.int .i64) x3), (9, .v 0 .bool (decide (x3 < (p0.2.1.length : Int))))] pz ?_
  refine W_seq ?_
  refine C h (fun h => ?_) fun h => ?_
  · refine W_skip (W_seq (W_block (W_seq ?_)))
    obtain ⟨o1, h⟩ := h.ass
    refine R1 h [] (fun x4 => [(2, .v 9 (.slice T_dag_Arrow) x2), (4, .box 9 T_api_Ticket x4), (6, .v 0 (.slice T_api_Ticket) p0.2.1), (7, .v 0 (.int .i64) (p0.2.1.length : Int)), (8, .v 0 (.int .i64) x3)]) (ps o1) fun x4 h => ?_
    refine W_seq ?_
    refine R [] [(2, .v 9 (.slice T_dag_Arrow) x2), (4, .box 9 T_api_Ticket x4), (6, .v 0 (.slice T_api_Ticket) p0.2.1), (7, .v 0 (.int .i64) (p0.2.1.length : Int)), (8, .v 0 (.int .i64) x3), (18, .v 0 .bool (x4.1 && (x4.2.2.2.1 == 2)))] pz ?_
    refine J1 h (state_CoinArrows_j2 x3) (fun x5 => [(2, .v 9 (.slice T_dag_Arrow) x5), (6, .v 0 (.slice T_api_Ticket) p0.2.1), (7, .v 0 (.int .i64) (p0.2.1.length : Int)), (8, .v 0 (.int .i64) x3)]) (fun x5 h => ?_) fun j2 => ?_
    · unfold state_CoinArrows_j2 at h
      refine W_blk ?_
      refine R1 h [] (fun x6 => [(2, .v 9 (.slice T_dag_Arrow) x5), (6, .v 0 (.slice T_api_Ticket) p0.2.1), (7, .v 0 (.int .i64) (p0.2.1.length : Int)), (8, .v 0 (.int .i64) x6)]) pz fun x6 h => ?_
      exact B h
    refine C h (fun h => ?_) fun h => ?_
    · obtain ⟨o1, h⟩ := h.ass
      refine R1 h [] (fun x7 => [(2, .v 9 (.slice T_dag_Arrow) x7), (6, .v 0 (.slice T_api_Ticket) p0.2.1), (7, .v 0 (.int .i64) (p0.2.1.length : Int)), (8, .v 0 (.int .i64) x3)]) (ps o1) fun x7 h => ?_
      exact K (j2 x7 h)
    refine W_skip ?_
    exact K (j2 x2 h)
  refine W_exit rfl ?_
  exact K (j1 x2 h.back)

def dag_heads_j1 (x2 : List (List Int)) : Option (List (List Int)) :=
  some x2
def dag_heads_j2 (x4 : Int) (x6 : List (List Int)) : Option (((List (List Int)) × Int) ⊕ (List (List Int))) :=
  bnd (i64.wrap (x4 + 1)) fun x7 =>
  some (.inl (x6, x7))
def dag_heads_b1 (p1 : List D_dag_Arrow) (x3 : List (List Int)) (x4 : Int) : Option (((List (List Int)) × Int) ⊕ (List (List Int))) :=
  bif decide (x4 < (p1.length : Int)) then
    ass (0 ≤ x4 ∧ x4 < (p1.length : Int)) <|
    bnd (rd z_dag_Arrow p1 x4) fun x5 =>
    bif (((decide (x5.1 ≥ 0)) && (decide (x5.1 < (x3.length : Int)))) && (decide (x5.2 ≥ 0))) && (decide (x5.2 < (x3.length : Int))) then
      ass (0 ≤ x5.1 ∧ x5.1 < (x3.length : Int)) <|
      ass ((((rd ([] : List Int) x3 x5.1).length + [x5.2].length : Nat) : Int) ≤ limA) <|
      bnd (wr x3 x5.1 ((rd ([] : List Int) x3 x5.1) ++ [x5.2])) fun x8 =>
      dag_heads_j2 x4 x8
    else
    dag_heads_j2 x4 x3
  else
  (dag_heads_j1 x3).map .inr
def dag_heads (p0 : Int) (p1 : List D_dag_Arrow) : Option (List (List Int)) :=
  ass (0 ≤ (if (4096 : Int) < (if (0 : Int) > p0 then (0 : Int) else p0) then (4096 : Int) else (if (0 : Int) > p0 then (0 : Int) else p0)) ∧ (if (4096 : Int) < (if (0 : Int) > p0 then (0 : Int) else p0) then (4096 : Int) else (if (0 : Int) > p0 then (0 : Int) else p0)) ≤ (if (4096 : Int) < (if (0 : Int) > p0 then (0 : Int) else p0) then (4096 : Int) else (if (0 : Int) > p0 then (0 : Int) else p0)) ∧ (if (4096 : Int) < (if (0 : Int) > p0 then (0 : Int) else p0) then (4096 : Int) else (if (0 : Int) > p0 then (0 : Int) else p0)) ≤ lim) <|
  bnd (List.replicate (if (4096 : Int) < (if (0 : Int) > p0 then (0 : Int) else p0) then (4096 : Int) else (if (0 : Int) > p0 then (0 : Int) else p0)).toNat ([] : List Int)) fun x1 =>
  loopM (fun x : (List (List Int)) × Int => dag_heads_b1 p1 x.1 x.2) (x1, (0 : Int))
theorem dag_heads.ok {p0 : Int} {p1 : List D_dag_Arrow} {r : List (List Int)} (h : dag_heads p0 p1 = some r) : ACall prog 185 [⟨.int .i64, p0⟩, ⟨.slice T_dag_Arrow, p1⟩] [⟨9, .slice (.slice (.int .i64)), r⟩] := by
  replace h := Leads.of h
  unfold dag_heads at h
  refine AC func185 rfl fun w0 F0 hw0 => ?_
  refine W_seq ?_
  refine R [] [(0, .v 0 (.int .i64) p0), (1, .v 0 (.slice T_dag_Arrow) p1)] pz ?_
  refine W_seq ?_
  obtain ⟨o1, h⟩ := h.ass
  refine R1 h [] (fun x1 => [(1, .v 0 (.slice T_dag_Arrow) p1), (5, .v 9 (.slice (.slice (.int .i64))) x1)]) (ps o1) fun x1 h => ?_
  refine W_seq (W_seq ?_)
  refine R [] [(5, .v 9 (.slice (.slice (.int .i64))) x1), (12, .v 0 (.slice T_dag_Arrow) p1), (13, .v 0 (.int .i64) (p1.length : Int)), (14, .v 0 (.int .i64) (0 : Int))] pz ?_
  refine J1 h dag_heads_j1 (fun x2 => [(5, .v 9 (.slice (.slice (.int .i64))) x2)]) (fun x2 h => ?_) fun j1 => ?_
  · unfold dag_heads_j1 at h
    refine W_seq ?_
    refine R [] [(4, .v 9 (.slice (.slice (.int .i64))) x2)] pz ?_
    cases h
    exact Rt hw0
  refine W_block ?_
  refine L2 h (fun x3 x4 => [(5, .v 9 (.slice (.slice (.int .i64))) x3), (12, .v 0 (.slice T_dag_Arrow) p1), (13, .v 0 (.int .i64) (p1.length : Int)), (14, .v 0 (.int .i64) x4)]) fun x3 x4 _ h => ?_
  unfold dag_heads_b1 at h
  refine W_seq ?_
  refine R [] [(5, .v 9 (.slice (.slice (.int .i64))) x3), (12, .v 0 (.slice T_dag_Arrow) p1), (13, .v 0 (.int .i64) (p1.length : Int)), (14, .v 0 (.int .i64) x4), (15, .v 0 .bool (decide (x4 < (p1.length : Int))))] pz ?_
  refine W_seq ?_
  refine C h (fun h => ?_) fun h => ?_
  · refine W_skip (W_seq (W_block (W_seq ?_)))
    obtain ⟨o1, h⟩ := h.ass
    refine R1 h [] (fun x5 => [(5, .v 9 (.slice (.slice (.int .i64))) x3), (7, .box 9 T_dag_Arrow x5), (12, .v 0 (.slice T_dag_Arrow) p1), (13, .v 0 (.int .i64) (p1.length : Int)), (14, .v 0 (.int .i64) x4)]) (ps o1) fun x5 h => ?_
    refine W_seq ?_
    refine R [] [(5, .v 9 (.slice (.slice (.int .i64))) x3), (7, .box 9 T_dag_Arrow x5), (12, .v 0 (.slice T_dag_Arrow) p1), (13, .v 0 (.int .i64) (p1.length : Int)), (14, .v 0 (.int .i64) x4), (39, .v 0 .bool ((((decide (x5.1 ≥ 0)) && (decide (x5.1 < (x3.length : Int)))) && (decide (x5.2 ≥ 0))) && (decide (x5.2 < (x3.length : Int)))))] pz ?_
    refine J1 h (dag_heads_j2 x4) (fun x6 => [(5, .v 9 (.slice (.slice (.int .i64))) x6), (12, .v 0 (.slice T_dag_Arrow) p1), (13, .v 0 (.int .i64) (p1.length : Int)), (14, .v 0 (.int .i64) x4)]) (fun x6 h => ?_) fun j2 => ?_
    · unfold dag_heads_j2 at h
      refine W_blk ?_
      refine R1 h [] (fun x7 => [(5, .v 9 (.slice (.slice (.int .i64))) x6), (12, .v 0 (.slice T_dag_Arrow) p1), (13, .v 0 (.int .i64) (p1.length : Int)), (14, .v 0 (.int .i64) x7)]) pz fun x7 h => ?_
      exact B h
    refine C h (fun h => ?_) fun h => ?_
    · obtain ⟨o1, h⟩ := h.ass
      obtain ⟨o2, h⟩ := h.ass
      refine RL1 h [] (fun x8 => [(5, .v 9 (.slice (.slice (.int .i64))) x8), (12, .v 0 (.slice T_dag_Arrow) p1), (13, .v 0 (.int .i64) (p1.length : Int)), (14, .v 0 (.int .i64) x4)]) (pc o1 (pc o2 (pc (rfl : (⟨.int .i64, x5.1⟩ : TV) = ⟨.int .i64, x5.1⟩) (ps (rfl : x5.1 = x5.1))))) fun x8 h => ?_
      exact K (j2 x8 h)
    refine W_skip ?_
    exact K (j2 x3 h)
  refine W_exit rfl ?_
  exact K (j1 x3 h.back)

def slices_Index_int_int_j1 : Option (Int) :=
  some (-1 : Int)
def slices_Index_int_int_b1 (p0 : List Int) (p1 : Int) (x1 : Int) : Option (Int ⊕ Int) :=
  bif decide (x1 < (p0.length : Int)) then
    ass (0 ≤ x1 ∧ x1 < (p0.length : Int)) <|
    bif p1 == (rd (0 : Int) p0 x1) then
      some (.inr x1)
    else
    bnd (i64.wrap (x1 + 1)) fun x2 =>
    some (.inl x2)
  else
  (slices_Index_int_int_j1).map .inr
def slices_Index_int_int (p0 : List Int) (p1 : Int) : Option Int :=
  loopM (fun x : Int => slices_Index_int_int_b1 p0 p1 x) (0 : Int)
theorem slices_Index_int_int.ok {p0 : List Int} {p1 : Int} {r : Int} (h : slices_Index_int_int p0 p1 = some r) : ACall prog 186 [⟨.slice (.int .i64), p0⟩, ⟨.int .i64, p1⟩] [⟨0, .int .i64, r⟩] := by
  replace h := Leads.of h
  unfold slices_Index_int_int at h
  refine AC func186 rfl fun w0 F0 hw0 => ?_
  refine W_seq ?_
  refine R [] [(0, .v 0 (.slice (.int .i64)) p0), (1, .v 0 (.int .i64) p1)] pz ?_
  refine W_seq (W_seq ?_)
  refine R [] [(0, .v 0 (.slice (.int .i64)) p0), (1, .v 0 (.int .i64) p1), (7, .v 0 (.int .i64) (p0.length : Int)), (8, .v 0 (.int .i64) (0 : Int))] pz ?_
  refine J0 h slices_Index_int_int_j1 ([]) (fun h => ?_) fun j1 => ?_
  · unfold slices_Index_int_int_j1 at h
    refine W_seq ?_
    refine R [] [(4, .v 0 (.int .i64) (-1 : Int))] pz ?_
    cases h
    exact Rt hw0
  refine W_block ?_
  refine L1 h (fun x1 => [(0, .v 0 (.slice (.int .i64)) p0), (1, .v 0 (.int .i64) p1), (7, .v 0 (.int .i64) (p0.length : Int)), (8, .v 0 (.int .i64) x1)]) fun x1 _ h => ?_
  unfold slices_Index_int_int_b1 at h
  refine W_seq ?_
  refine R [] [(0, .v 0 (.slice (.int .i64)) p0), (1, .v 0 (.int .i64) p1), (7, .v 0 (.int .i64) (p0.length : Int)), (8, .v 0 (.int .i64) x1), (9, .v 0 .bool (decide (x1 < (p0.length : Int))))] pz ?_
  refine W_seq ?_
  refine C h (fun h => ?_) fun h => ?_
  · refine W_skip (W_seq (W_block (W_seq ?_)))
    refine R [] [(0, .v 0 (.slice (.int .i64)) p0), (1, .v 0 (.int .i64) p1), (5, .v 0 (.int .i64) x1), (7, .v 0 (.int .i64) (p0.length : Int)), (8, .v 0 (.int .i64) x1)] pz ?_
    refine W_seq ?_
    obtain ⟨o1, h⟩ := h.ass
    refine R [] [(0, .v 0 (.slice (.int .i64)) p0), (1, .v 0 (.int .i64) p1), (5, .v 0 (.int .i64) x1), (7, .v 0 (.int .i64) (p0.length : Int)), (8, .v 0 (.int .i64) x1), (16, .v 0 .bool (p1 == (rd (0 : Int) p0 x1)))] (ps o1) ?_
    refine C h (fun h => ?_) fun h => ?_
    · refine W_seq ?_
      refine R [] [(4, .v 0 (.int .i64) x1)] pz ?_
      cases h
      exact Rt hw0
    refine W_skip (W_blk ?_)
    refine R1 h [] (fun x2 => [(0, .v 0 (.slice (.int .i64)) p0), (1, .v 0 (.int .i64) p1), (7, .v 0 (.int .i64) (p0.length : Int)), (8, .v 0 (.int .i64) x2)]) pz fun x2 h => ?_
    exact B h
  refine W_exit rfl ?_
  exact K (j1 h.back)

def dag_Order_j2 (x4 : List Int) : Option ((List Int) × Bool) :=
  some (x4, true)
def dag_Order_b2 (y1 : List (List Int)) (y7 : Int) (x9 : List Int) (x10 : List Int) (x11 : List Int) (x12 : Int) : Option (((List Int) × Int) ⊕ (((List Int) × (List Int)) ⊕ ((List Int) × Bool))) :=
  bif decide (x12 < ((rd ([] : List Int) y1 y7).length : Int)) then
    ass (0 ≤ x12 ∧ x12 < (x10.length : Int)) <|
    bnd (rd (0 : Int) x10 x12) fun x13 =>
    ass (0 ≤ x13 ∧ x13 < (x11.length : Int)) <|
    bnd (wr x11 x13 (i64.wrap ((rd (0 : Int) x11 x13) - 1))) fun x14 =>
    bnd (i64.wrap (x12 + 1)) fun x15 =>
    some (.inl (x14, x15))
  else
  some (.inr (.inl (x11, x9)))
def dag_Order_b1 (y1 : List (List Int)) (x5 : List Int) (x6 : List Int) : Option (((List Int) × (List Int)) ⊕ ((List Int) × Bool)) :=
  bif decide ((x6.length : Int) < (y1.length : Int)) then
    (slices_Index_int_int x5 (0 : Int)).bind fun y7 =>
    bif decide (y7 < 0) then
      some (.inr (([] : List Int), false))
    else
    ass (0 ≤ y7 ∧ y7 < (x5.length : Int)) <|
    bnd (wr x5 y7 (-1 : Int)) fun x8 =>
    ass (((x6.length + [y7].length : Nat) : Int) ≤ limA) <|
    bnd (x6 ++ [y7]) fun x9 =>
    ass (0 ≤ y7 ∧ y7 < (y1.length : Int)) <|
    bnd (rd ([] : List Int) y1 y7) fun x10 =>
    loopM (fun x : (List Int) × Int => dag_Order_b2 y1 y7 x9 x10 x.1 x.2) (x8, (0 : Int))
  else
  (dag_Order_j2 x6).map .inr
def dag_Order_j1 (y1 : List (List Int)) (x3 : List Int) : Option ((List Int) × Bool) :=
  loopM (fun x : (List Int) × (List Int) => dag_Order_b1 y1 x.1 x.2) (x3, ([] : List Int))
def dag_Order_j3 (x17 : Int) (x18 : List Int) : Option (((List Int) × Int) ⊕ ((List Int) × Bool)) :=
  bnd (i64.wrap (x17 + 1)) fun x19 =>
  some (.inl (x18, x19))
def dag_Order_j4 (x17 : Int) (x21 : List Int) : Option (((List Int) × Int) ⊕ ((List Int) × Bool)) :=
  dag_Order_j3 x17 x21
def dag_Order_b4 (x17 : Int) (x20 : List Int) (x22 : List Int) (x23 : Int) : Option (((List Int) × Int) ⊕ (((List Int) × Int) ⊕ ((List Int) × Bool))) :=
  bif decide (x23 < (x20.length : Int)) then
    ass (0 ≤ x23 ∧ x23 < (x20.length : Int)) <|
    bnd (rd (0 : Int) x20 x23) fun x24 =>
    ass (0 ≤ x24 ∧ x24 < (x22.length : Int)) <|
    bnd (wr x22 x24 (i64.wrap ((rd (0 : Int) x22 x24) + 1))) fun x25 =>
    bnd (i64.wrap (x23 + 1)) fun x26 =>
    some (.inl (x25, x26))
  else
  (dag_Order_j4 x17 x22).map .inr
def dag_Order_b3 (y1 : List (List Int)) (x16 : List Int) (x17 : Int) : Option (((List Int) × Int) ⊕ ((List Int) × Bool)) :=
  bif decide (x17 < (y1.length : Int)) then
    ass (0 ≤ x17 ∧ x17 < (y1.length : Int)) <|
    bnd (rd ([] : List Int) y1 x17) fun x20 =>
    loopM (fun x : (List Int) × Int => dag_Order_b4 x17 x20 x.1 x.2) (x16, (0 : Int))
  else
  (dag_Order_j1 y1 x16).map .inr
def dag_Order (p0 : Int) (p1 : List D_dag_Arrow) : Option ((List Int) × Bool) :=
  (dag_heads p0 p1).bind fun y1 =>
  ass (0 ≤ (y1.length : Int) ∧ (y1.length : Int) ≤ (y1.length : Int) ∧ (y1.length : Int) ≤ lim) <|
  bnd (List.replicate (y1.length : Int).toNat (0 : Int)) fun x2 =>
  loopM (fun x : (List Int) × Int => dag_Order_b3 y1 x.1 x.2) (x2, (0 : Int))
theorem dag_Order.ok {p0 : Int} {p1 : List D_dag_Arrow} {r : (List Int) × Bool} (h : dag_Order p0 p1 = some r) : ACall prog 176 [⟨.int .i64, p0⟩, ⟨.slice T_dag_Arrow, p1⟩] [⟨9, .slice (.int .i64), r.1⟩, ⟨0, .bool, r.2⟩] := by
  replace h := Leads.of h
  unfold dag_Order at h
  refine AC func176 rfl fun w0 F0 hw0 => ?_
  refine W_seq ?_
  refine R [] [(0, .v 0 (.int .i64) p0), (1, .v 0 (.slice T_dag_Arrow) p1)] pz ?_
  refine W_seq ?_
  obtain ⟨y1, ey1, h⟩ := h.bind
  refine R [.res [(9, ⟨9, .slice (.slice (.int .i64)), y1⟩)]] [(6, .v 9 (.slice (.slice (.int .i64))) y1)] (ps (dag_heads.ok ey1)) ?_
  refine W_seq ?_
  obtain ⟨o1, h⟩ := h.ass
  refine R1 h [] (fun x2 => [(6, .v 9 (.slice (.slice (.int .i64))) y1), (7, .v 9 (.slice (.int .i64)) x2)]) (ps o1) fun x2 h => ?_
  refine W_seq (W_seq ?_)
  refine K (E' := [(6, .v 0 (.slice (.slice (.int .i64))) y1), (7, .v 9 (.slice (.int .i64)) x2)]) ?_
  refine R [] [(6, .v 0 (.slice (.slice (.int .i64))) y1), (7, .v 9 (.slice (.int .i64)) x2), (22, .v 0 (.slice (.slice (.int .i64))) y1), (23, .v 0 (.int .i64) (y1.length : Int)), (24, .v 0 (.int .i64) (0 : Int))] pz ?_
  refine J1 h (dag_Order_j1 y1) (fun x3 => [(6, .v 0 (.slice (.slice (.int .i64))) y1), (7, .v 9 (.slice (.int .i64)) x3)]) (fun x3 h => ?_) fun j1 => ?_
  · unfold dag_Order_j1 at h
    refine W_seq ?_
    refine R [] [(6, .v 0 (.slice (.slice (.int .i64))) y1), (7, .v 9 (.slice (.int .i64)) x3), (12, .v 9 (.slice (.int .i64)) ([] : List Int))] pz ?_
    refine W_seq ?_
    refine J1 h dag_Order_j2 (fun x4 => [(12, .v 9 (.slice (.int .i64)) x4)]) (fun x4 h => ?_) fun j2 => ?_
    · unfold dag_Order_j2 at h
      refine W_seq ?_
      refine R [] [(4, .v 9 (.slice (.int .i64)) x4), (5, .v 0 .bool true)] pz ?_
      cases h
      exact Rt hw0
    refine W_block ?_
    refine L2 h (fun x5 x6 => [(6, .v 0 (.slice (.slice (.int .i64))) y1), (7, .v 9 (.slice (.int .i64)) x5), (12, .v 9 (.slice (.int .i64)) x6)]) fun x5 x6 _ h => ?_
    unfold dag_Order_b1 at h
    refine W_seq (W_seq ?_)
    refine R [] [(6, .v 0 (.slice (.slice (.int .i64))) y1), (7, .v 9 (.slice (.int .i64)) x5), (12, .v 9 (.slice (.int .i64)) x6), (46, .v 0 .bool (decide ((x6.length : Int) < (y1.length : Int))))] pz ?_
    refine C h (fun h => ?_) fun h => ?_
    · refine W_skip (W_block (W_seq ?_))
      obtain ⟨y7, ey7, h⟩ := h.bind
      refine R [.res [(0, ⟨0, .int .i64, y7⟩)]] [(6, .v 0 (.slice (.slice (.int .i64))) y1), (7, .v 9 (.slice (.int .i64)) x5), (12, .v 9 (.slice (.int .i64)) x6), (13, .v 0 (.int .i64) y7)] (ps (slices_Index_int_int.ok ey7)) ?_
      refine W_seq (W_seq ?_)
      refine R [] [(6, .v 0 (.slice (.slice (.int .i64))) y1), (7, .v 9 (.slice (.int .i64)) x5), (12, .v 9 (.slice (.int .i64)) x6), (13, .v 0 (.int .i64) y7), (50, .v 0 .bool (decide (y7 < 0)))] pz ?_
      refine C h (fun h => ?_) fun h => ?_
      · refine W_seq ?_
        refine R [] [(4, .v 9 (.slice (.int .i64)) ([] : List Int)), (5, .v 0 .bool false)] pz ?_
        cases h
        exact Rt hw0
      refine W_skip (W_seq ?_)
      obtain ⟨o1, h⟩ := h.ass
      refine R1 h [] (fun x8 => [(6, .v 0 (.slice (.slice (.int .i64))) y1), (7, .v 9 (.slice (.int .i64)) x8), (12, .v 9 (.slice (.int .i64)) x6), (13, .v 0 (.int .i64) y7)]) (ps o1) fun x8 h => ?_
      refine W_seq ?_
      obtain ⟨o1, h⟩ := h.ass
      refine R1 h [] (fun x9 => [(6, .v 0 (.slice (.slice (.int .i64))) y1), (7, .v 9 (.slice (.int .i64)) x8), (12, .v 9 (.slice (.int .i64)) x9), (13, .v 0 (.int .i64) y7)]) (ps o1) fun x9 h => ?_
      refine W_seq ?_
      obtain ⟨o1, h⟩ := h.ass
      refine R1 h [] (fun x10 => [(6, .v 0 (.slice (.slice (.int .i64))) y1), (7, .v 9 (.slice (.int .i64)) x8), (12, .v 9 (.slice (.int .i64)) x9), (61, .v 0 (.slice (.int .i64)) x10), (62, .v 0 (.int .i64) ((rd ([] : List Int) y1 y7).length : Int)), (63, .v 0 (.int .i64) (0 : Int))]) (ps o1) fun x10 h => ?_
      refine W_block ?_
      refine L2 h (fun x11 x12 => [(6, .v 0 (.slice (.slice (.int .i64))) y1), (7, .v 9 (.slice (.int .i64)) x11), (12, .v 9 (.slice (.int .i64)) x9), (61, .v 0 (.slice (.int .i64)) x10), (62, .v 0 (.int .i64) ((rd ([] : List Int) y1 y7).length : Int)), (63, .v 0 (.int .i64) x12)]) fun x11 x12 _ h => ?_
      unfold dag_Order_b2 at h
      refine W_seq ?_
      refine R [] [(6, .v 0 (.slice (.slice (.int .i64))) y1), (7, .v 9 (.slice (.int .i64)) x11), (12, .v 9 (.slice (.int .i64)) x9), (61, .v 0 (.slice (.int .i64)) x10), (62, .v 0 (.int .i64) ((rd ([] : List Int) y1 y7).length : Int)), (63, .v 0 (.int .i64) x12), (64, .v 0 .bool (decide (x12 < ((rd ([] : List Int) y1 y7).length : Int))))] pz ?_
      refine W_seq ?_
      refine C h (fun h => ?_) fun h => ?_
      · refine W_skip (W_seq (W_block (W_seq ?_)))
        obtain ⟨o1, h⟩ := h.ass
        refine R1 h [] (fun x13 => [(6, .v 0 (.slice (.slice (.int .i64))) y1), (7, .v 9 (.slice (.int .i64)) x11), (12, .v 9 (.slice (.int .i64)) x9), (15, .v 0 (.int .i64) x13), (61, .v 0 (.slice (.int .i64)) x10), (62, .v 0 (.int .i64) ((rd ([] : List Int) y1 y7).length : Int)), (63, .v 0 (.int .i64) x12)]) (ps o1) fun x13 h => ?_
        obtain ⟨o1, h⟩ := h.ass
        refine R1 h [] (fun x14 => [(6, .v 0 (.slice (.slice (.int .i64))) y1), (7, .v 9 (.slice (.int .i64)) x14), (12, .v 9 (.slice (.int .i64)) x9), (61, .v 0 (.slice (.int .i64)) x10), (62, .v 0 (.int .i64) ((rd ([] : List Int) y1 y7).length : Int)), (63, .v 0 (.int .i64) x12)]) (pc o1 (ps o1)) fun x14 h => ?_
        refine W_blk ?_
        refine R1 h [] (fun x15 => [(6, .v 0 (.slice (.slice (.int .i64))) y1), (7, .v 9 (.slice (.int .i64)) x14), (12, .v 9 (.slice (.int .i64)) x9), (61, .v 0 (.slice (.int .i64)) x10), (62, .v 0 (.int .i64) ((rd ([] : List Int) y1 y7).length : Int)), (63, .v 0 (.int .i64) x15)]) pz fun x15 h => ?_
        exact B h
      refine W_exit rfl (W_blk ?_)
      exact B h.inr
    refine W_exit rfl ?_
    exact K (j2 x6 h.back)
  refine W_block ?_
  refine L2 h (fun x16 x17 => [(6, .v 0 (.slice (.slice (.int .i64))) y1), (7, .v 9 (.slice (.int .i64)) x16), (22, .v 0 (.slice (.slice (.int .i64))) y1), (23, .v 0 (.int .i64) (y1.length : Int)), (24, .v 0 (.int .i64) x17)]) fun x16 x17 _ h => ?_
  unfold dag_Order_b3 at h
  refine W_seq ?_
  refine R [] [(6, .v 0 (.slice (.slice (.int .i64))) y1), (7, .v 9 (.slice (.int .i64)) x16), (22, .v 0 (.slice (.slice (.int .i64))) y1), (23, .v 0 (.int .i64) (y1.length : Int)), (24, .v 0 (.int .i64) x17), (25, .v 0 .bool (decide (x17 < (y1.length : Int))))] pz ?_
  refine W_seq ?_
  refine C h (fun h => ?_) fun h => ?_
  · refine W_skip (W_seq ?_)
    refine J1 h (dag_Order_j3 x17) (fun x18 => [(6, .v 0 (.slice (.slice (.int .i64))) y1), (7, .v 9 (.slice (.int .i64)) x18), (22, .v 0 (.slice (.slice (.int .i64))) y1), (23, .v 0 (.int .i64) (y1.length : Int)), (24, .v 0 (.int .i64) x17)]) (fun x18 h => ?_) fun j3 => ?_
    · unfold dag_Order_j3 at h
      refine R1 h [] (fun x19 => [(6, .v 0 (.slice (.slice (.int .i64))) y1), (7, .v 9 (.slice (.int .i64)) x18), (22, .v 0 (.slice (.slice (.int .i64))) y1), (23, .v 0 (.int .i64) (y1.length : Int)), (24, .v 0 (.int .i64) x19)]) pz fun x19 h => ?_
      exact B h
    refine W_block (W_seq ?_)
    obtain ⟨o1, h⟩ := h.ass
    refine R1 h [] (fun x20 => [(6, .v 0 (.slice (.slice (.int .i64))) y1), (7, .v 9 (.slice (.int .i64)) x16), (9, .v 0 (.slice (.int .i64)) x20), (22, .v 0 (.slice (.slice (.int .i64))) y1), (23, .v 0 (.int .i64) (y1.length : Int)), (24, .v 0 (.int .i64) x17)]) (ps o1) fun x20 h => ?_
    refine W_seq ?_
    refine R [] [(6, .v 0 (.slice (.slice (.int .i64))) y1), (7, .v 9 (.slice (.int .i64)) x16), (22, .v 0 (.slice (.slice (.int .i64))) y1), (23, .v 0 (.int .i64) (y1.length : Int)), (24, .v 0 (.int .i64) x17), (28, .v 0 (.slice (.int .i64)) x20), (29, .v 0 (.int .i64) (x20.length : Int)), (30, .v 0 (.int .i64) (0 : Int))] pz ?_
    refine J1 h (dag_Order_j4 x17) (fun x21 => [(6, .v 0 (.slice (.slice (.int .i64))) y1), (7, .v 9 (.slice (.int .i64)) x21), (22, .v 0 (.slice (.slice (.int .i64))) y1), (23, .v 0 (.int .i64) (y1.length : Int)), (24, .v 0 (.int .i64) x17)]) (fun x21 h => ?_) fun j4 => ?_
    · unfold dag_Order_j4 at h
      refine W_blk ?_
      exact K (j3 x21 h)
    refine W_block ?_
    refine L2 h (fun x22 x23 => [(6, .v 0 (.slice (.slice (.int .i64))) y1), (7, .v 9 (.slice (.int .i64)) x22), (22, .v 0 (.slice (.slice (.int .i64))) y1), (23, .v 0 (.int .i64) (y1.length : Int)), (24, .v 0 (.int .i64) x17), (28, .v 0 (.slice (.int .i64)) x20), (29, .v 0 (.int .i64) (x20.length : Int)), (30, .v 0 (.int .i64) x23)]) fun x22 x23 _ h => ?_
    unfold dag_Order_b4 at h
    refine W_seq ?_
    refine R [] [(6, .v 0 (.slice (.slice (.int .i64))) y1), (7, .v 9 (.slice (.int .i64)) x22), (22, .v 0 (.slice (.slice (.int .i64))) y1), (23, .v 0 (.int .i64) (y1.length : Int)), (24, .v 0 (.int .i64) x17), (28, .v 0 (.slice (.int .i64)) x20), (29, .v 0 (.int .i64) (x20.length : Int)), (30, .v 0 (.int .i64) x23), (31, .v 0 .bool (decide (x23 < (x20.length : Int))))] pz ?_
    refine W_seq ?_
    refine C h (fun h => ?_) fun h => ?_
    · refine W_skip (W_seq (W_block (W_seq ?_)))
      obtain ⟨o1, h⟩ := h.ass
      refine R1 h [] (fun x24 => [(6, .v 0 (.slice (.slice (.int .i64))) y1), (7, .v 9 (.slice (.int .i64)) x22), (11, .v 0 (.int .i64) x24), (22, .v 0 (.slice (.slice (.int .i64))) y1), (23, .v 0 (.int .i64) (y1.length : Int)), (24, .v 0 (.int .i64) x17), (28, .v 0 (.slice (.int .i64)) x20), (29, .v 0 (.int .i64) (x20.length : Int)), (30, .v 0 (.int .i64) x23)]) (ps o1) fun x24 h => ?_
      obtain ⟨o1, h⟩ := h.ass
      refine R1 h [] (fun x25 => [(6, .v 0 (.slice (.slice (.int .i64))) y1), (7, .v 9 (.slice (.int .i64)) x25), (22, .v 0 (.slice (.slice (.int .i64))) y1), (23, .v 0 (.int .i64) (y1.length : Int)), (24, .v 0 (.int .i64) x17), (28, .v 0 (.slice (.int .i64)) x20), (29, .v 0 (.int .i64) (x20.length : Int)), (30, .v 0 (.int .i64) x23)]) (pc o1 (ps o1)) fun x25 h => ?_
      refine W_blk ?_
      refine R1 h [] (fun x26 => [(6, .v 0 (.slice (.slice (.int .i64))) y1), (7, .v 9 (.slice (.int .i64)) x25), (22, .v 0 (.slice (.slice (.int .i64))) y1), (23, .v 0 (.int .i64) (y1.length : Int)), (24, .v 0 (.int .i64) x17), (28, .v 0 (.slice (.int .i64)) x20), (29, .v 0 (.int .i64) (x20.length : Int)), (30, .v 0 (.int .i64) x26)]) pz fun x26 h => ?_
      exact B h
    refine W_exit rfl ?_
    exact K (j4 x22 h.back)
  refine W_exit rfl ?_
  exact K (j1 x16 h.back)

def slices_IndexFunc_int_int_j1 : Option (Int) :=
  some (-1 : Int)
def slices_IndexFunc_int_int_b1 (p0 : List Int) (p1 : Int → Option Bool) (x1 : Int) : Option (Int ⊕ Int) :=
  bif decide (x1 < (p0.length : Int)) then
    ass (0 ≤ x1 ∧ x1 < (p0.length : Int)) <|
    (p1 (rd (0 : Int) p0 x1)).bind fun y2 =>
    bif y2 then
      some (.inr x1)
    else
    bnd (i64.wrap (x1 + 1)) fun x3 =>
    some (.inl x3)
  else
  (slices_IndexFunc_int_int_j1).map .inr
def slices_IndexFunc_int_int (p0 : List Int) (p1 : Int → Option Bool) : Option Int :=
  loopM (fun x : Int => slices_IndexFunc_int_int_b1 p0 p1 x) (0 : Int)
theorem slices_IndexFunc_int_int.ok {p0 : List Int} {p1 : Int → Option Bool} {r : Int} (h : slices_IndexFunc_int_int p0 p1 = some r) : ACall prog 123 [⟨.slice (.int .i64), p0⟩, ⟨.fn (.int .i64) .bool, p1⟩] [⟨0, .int .i64, r⟩] := by
  replace h := Leads.of h
  unfold slices_IndexFunc_int_int at h
  refine AC func123 rfl fun w0 F0 hw0 => ?_
  refine W_seq ?_
  refine R [] [(0, .v 0 (.slice (.int .i64)) p0), (1, .v 0 (.fn (.int .i64) .bool) p1)] pz ?_
  refine W_seq (W_seq ?_)
  refine R [] [(0, .v 0 (.slice (.int .i64)) p0), (1, .v 0 (.fn (.int .i64) .bool) p1), (7, .v 0 (.int .i64) (p0.length : Int)), (8, .v 0 (.int .i64) (0 : Int))] pz ?_
  refine J0 h slices_IndexFunc_int_int_j1 ([]) (fun h => ?_) fun j1 => ?_
  · unfold slices_IndexFunc_int_int_j1 at h
    refine W_seq ?_
    refine R [] [(4, .v 0 (.int .i64) (-1 : Int))] pz ?_
    cases h
    exact Rt hw0
  refine W_block ?_
  refine L1 h (fun x1 => [(0, .v 0 (.slice (.int .i64)) p0), (1, .v 0 (.fn (.int .i64) .bool) p1), (7, .v 0 (.int .i64) (p0.length : Int)), (8, .v 0 (.int .i64) x1)]) fun x1 _ h => ?_
  unfold slices_IndexFunc_int_int_b1 at h
  refine W_seq ?_
  refine R [] [(0, .v 0 (.slice (.int .i64)) p0), (1, .v 0 (.fn (.int .i64) .bool) p1), (7, .v 0 (.int .i64) (p0.length : Int)), (8, .v 0 (.int .i64) x1), (9, .v 0 .bool (decide (x1 < (p0.length : Int))))] pz ?_
  refine W_seq ?_
  refine C h (fun h => ?_) fun h => ?_
  · refine W_skip (W_seq (W_block (W_seq ?_)))
    refine R [] [(0, .v 0 (.slice (.int .i64)) p0), (1, .v 0 (.fn (.int .i64) .bool) p1), (5, .v 0 (.int .i64) x1), (7, .v 0 (.int .i64) (p0.length : Int)), (8, .v 0 (.int .i64) x1)] pz ?_
    refine W_seq ?_
    obtain ⟨o1, h⟩ := h.ass
    obtain ⟨y2, ey2, h⟩ := h.bind
    refine R [.res [(0, ⟨9, .bool, y2⟩)]] [(0, .v 0 (.slice (.int .i64)) p0), (1, .v 0 (.fn (.int .i64) .bool) p1), (5, .v 0 (.int .i64) x1), (7, .v 0 (.int .i64) (p0.length : Int)), (8, .v 0 (.int .i64) x1), (16, .v 0 .bool y2)] (pc o1 (ps ey2)) ?_
    refine C h (fun h => ?_) fun h => ?_
    · refine W_seq ?_
      refine R [] [(4, .v 0 (.int .i64) x1)] pz ?_
      cases h
      exact Rt hw0
    refine W_skip (W_blk ?_)
    refine R1 h [] (fun x3 => [(0, .v 0 (.slice (.int .i64)) p0), (1, .v 0 (.fn (.int .i64) .bool) p1), (7, .v 0 (.int .i64) (p0.length : Int)), (8, .v 0 (.int .i64) x3)]) pz fun x3 h => ?_
    exact B h
  refine W_exit rfl ?_
  exact K (j1 h.back)

def slices_DeleteFunc_int_int_j1 (x3 : List Int) (x4 : Int) : Option (List Int) :=
  ass (0 ≤ x4 ∧ x4 ≤ (x3.length : Int) ∧ (x3.length : Int) ≤ (x3.length : Int)) <|
  bnd (clr x3 x4 (x3.length : Int)) fun x5 =>
  ass (0 ≤ (0 : Int) ∧ (0 : Int) ≤ x4 ∧ x4 ≤ (x5.length : Int)) <|
  bnd (sl x5 (0 : Int) x4) fun x6 =>
  some x6
def slices_DeleteFunc_int_int_j2 (x9 : Int) (x12 : List Int) (x13 : Int) : Option (((List Int) × Int × Int) ⊕ (List Int)) :=
  bnd (i64.wrap (x9 + 1)) fun x14 =>
  some (.inl (x12, x13, x14))
def slices_DeleteFunc_int_int_b1 (p1 : Int → Option Bool) (x7 : List Int) (x8 : Int) (x9 : Int) : Option (((List Int) × Int × Int) ⊕ (List Int)) :=
  bif decide (x9 < (x7.length : Int)) then
    ass (0 ≤ x9 ∧ x9 < (x7.length : Int)) <|
    bnd (rd (0 : Int) x7 x9) fun x10 =>
    (p1 x10).bind fun y11 =>
    bif !y11 then
      ass (0 ≤ x8 ∧ x8 < (x7.length : Int)) <|
      bnd (wr x7 x8 x10) fun x15 =>
      bnd (i64.wrap (x8 + 1)) fun x16 =>
      slices_DeleteFunc_int_int_j2 x9 x15 x16
    else
    slices_DeleteFunc_int_int_j2 x9 x7 x8
  else
  (slices_DeleteFunc_int_int_j1 x7 x8).map .inr
def slices_DeleteFunc_int_int (p0 : List Int) (p1 : Int → Option Bool) : Option (List Int) :=
  (slices_IndexFunc_int_int p0 p1).bind fun y1 =>
  bif y1 == (-1) then
    some p0
  else
  bnd (i64.wrap (y1 + 1)) fun x2 =>
  loopM (fun x : (List Int) × Int × Int => slices_DeleteFunc_int_int_b1 p1 x.1 x.2.1 x.2.2) (p0, y1, x2)
theorem slices_DeleteFunc_int_int.ok {p0 : List Int} {p1 : Int → Option Bool} {r : List Int} (h : slices_DeleteFunc_int_int p0 p1 = some r) : OCall prog 178 1 ⟨.slice (.int .i64), p0⟩ [⟨.fn (.int .i64) .bool, p1⟩] [⟨1, .slice (.int .i64), r⟩] := by
  replace h := Leads.of h
  unfold slices_DeleteFunc_int_int at h
  refine ACo func178 rfl fun w0 F0 hw0 => ?_
  refine W_seq ?_
  refine R [] [(0, .v 1 (.slice (.int .i64)) p0), (1, .v 0 (.fn (.int .i64) .bool) p1)] pz ?_
  refine W_seq ?_
  obtain ⟨y1, ey1, h⟩ := h.bind
  refine R [.res [(0, ⟨0, .int .i64, y1⟩)]] [(0, .v 1 (.slice (.int .i64)) p0), (1, .v 0 (.fn (.int .i64) .bool) p1), (5, .v 0 (.int .i64) y1)] (ps (slices_IndexFunc_int_int.ok ey1)) ?_
  refine W_seq (W_seq ?_)
  refine R [] [(0, .v 1 (.slice (.int .i64)) p0), (1, .v 0 (.fn (.int .i64) .bool) p1), (5, .v 0 (.int .i64) y1), (12, .v 0 .bool (y1 == (-1)))] pz ?_
  refine C h (fun h => ?_) fun h => ?_
  · refine W_seq ?_
    refine R [] [(4, .v 1 (.slice (.int .i64)) p0)] pz ?_
    cases h
    exact Rt hw0
  refine W_skip (W_seq (W_seq ?_))
  refine R1 h [] (fun x2 => [(0, .v 1 (.slice (.int .i64)) p0), (1, .v 0 (.fn (.int .i64) .bool) p1), (5, .v 0 (.int .i64) y1), (6, .v 0 (.int .i64) x2)]) pz fun x2 h => ?_
  refine J2 h slices_DeleteFunc_int_int_j1 (fun x3 x4 => [(0, .v 1 (.slice (.int .i64)) x3), (5, .v 0 (.int .i64) x4)]) (fun x3 x4 h => ?_) fun j1 => ?_
  · unfold slices_DeleteFunc_int_int_j1 at h
    refine W_seq ?_
    obtain ⟨o1, h⟩ := h.ass
    refine R1 h [] (fun x5 => [(0, .v 1 (.slice (.int .i64)) x5), (5, .v 0 (.int .i64) x4)]) (ps o1) fun x5 h => ?_
    refine W_seq ?_
    obtain ⟨o1, h⟩ := h.ass
    refine R1 h [] (fun x6 => [(4, .v 1 (.slice (.int .i64)) x6)]) (ps o1) fun x6 h => ?_
    cases h
    exact Rt hw0
  refine W_block ?_
  refine L3 h (fun x7 x8 x9 => [(0, .v 1 (.slice (.int .i64)) x7), (1, .v 0 (.fn (.int .i64) .bool) p1), (5, .v 0 (.int .i64) x8), (6, .v 0 (.int .i64) x9)]) fun x7 x8 x9 _ h => ?_
  unfold slices_DeleteFunc_int_int_b1 at h
  refine W_seq (W_seq ?_)
  refine R [] [(0, .v 1 (.slice (.int .i64)) x7), (1, .v 0 (.fn (.int .i64) .bool) p1), (5, .v 0 (.int .i64) x8), (6, .v 0 (.int .i64) x9), (19, .v 0 .bool (decide (x9 < (x7.length : Int))))] pz ?_
  refine C h (fun h => ?_) fun h => ?_
  · refine W_skip (W_seq (W_block (W_seq ?_)))
    obtain ⟨o1, h⟩ := h.ass
    refine R1 h [] (fun x10 => [(0, .v 1 (.slice (.int .i64)) x7), (1, .v 0 (.fn (.int .i64) .bool) p1), (5, .v 0 (.int .i64) x8), (6, .v 0 (.int .i64) x9), (7, .v 0 (.int .i64) x10)]) (ps o1) fun x10 h => ?_
    refine W_seq ?_
    obtain ⟨y11, ey11, h⟩ := h.bind
    refine R [.res [(0, ⟨9, .bool, y11⟩)]] [(0, .v 1 (.slice (.int .i64)) x7), (1, .v 0 (.fn (.int .i64) .bool) p1), (5, .v 0 (.int .i64) x8), (6, .v 0 (.int .i64) x9), (7, .v 0 (.int .i64) x10), (29, .v 0 .bool (!y11))] (ps ey11) ?_
    refine J2 h (slices_DeleteFunc_int_int_j2 x9) (fun x12 x13 => [(0, .v 1 (.slice (.int .i64)) x12), (1, .v 0 (.fn (.int .i64) .bool) p1), (5, .v 0 (.int .i64) x13), (6, .v 0 (.int .i64) x9)]) (fun x12 x13 h => ?_) fun j2 => ?_
    · unfold slices_DeleteFunc_int_int_j2 at h
      refine W_blk ?_
      refine R1 h [] (fun x14 => [(0, .v 1 (.slice (.int .i64)) x12), (1, .v 0 (.fn (.int .i64) .bool) p1), (5, .v 0 (.int .i64) x13), (6, .v 0 (.int .i64) x14)]) pz fun x14 h => ?_
      exact B h
    refine C h (fun h => ?_) fun h => ?_
    · refine W_seq ?_
      obtain ⟨o1, h⟩ := h.ass
      refine R1 h [] (fun x15 => [(0, .v 1 (.slice (.int .i64)) x15), (1, .v 0 (.fn (.int .i64) .bool) p1), (5, .v 0 (.int .i64) x8), (6, .v 0 (.int .i64) x9)]) (ps o1) fun x15 h => ?_
      refine R1 h [] (fun x16 => [(0, .v 1 (.slice (.int .i64)) x15), (1, .v 0 (.fn (.int .i64) .bool) p1), (5, .v 0 (.int .i64) x16), (6, .v 0 (.int .i64) x9)]) pz fun x16 h => ?_
      exact K (j2 x15 x16 h)
    refine W_skip ?_
    exact K (j2 x7 x8 h)
  refine W_exit rfl ?_
  exact K (j1 x7 x8 h.back)

def fund_Order_c1 (p0 : Int) (c0 : D_api_State) : Option Bool :=
  ass (0 ≤ p0 ∧ p0 < (c0.1.length : Int)) <|
  bnd (!(rd false c0.1 p0)) fun x1 =>
  some x1
theorem fund_Order_c1.ok {p0 : Int} {c0 : D_api_State} {r : Bool} (h : fund_Order_c1 p0 c0 = some r) : ACall prog 179 [⟨.int .i64, p0⟩, ⟨.cptr T_api_State, c0⟩] [⟨0, .bool, r⟩] := by
  replace h := Leads.of h
  unfold fund_Order_c1 at h
  refine AC func179 rfl fun w0 F0 hw0 => ?_
  refine W_seq ?_
  refine R [] [(0, .v 0 (.int .i64) p0), (1, .v 0 (.cptr T_api_State) c0)] pz ?_
  refine W_seq ?_
  obtain ⟨o1, h⟩ := h.ass
  refine R1 h [] (fun x1 => [(3, .v 0 .bool x1)]) (ps o1) fun x1 h => ?_
  cases h
  exact Rt hw0

def fund_Order (p0 : D_api_State) : Option (List Int) :=
  (state_CoinArrows p0).bind fun y1 =>
  (dag_Order (p0.1.length : Int) y1).bind fun y2 =>
  (slices_DeleteFunc_int_int y2.1 (fun x => fund_Order_c1 x p0)).bind fun y3 =>
  some y3
theorem fund_Order.ok {p0 : D_api_State} {r : List Int} (h : fund_Order p0 = some r) : ACall prog 171 [⟨T_api_State, p0⟩] [⟨1, .slice (.int .i64), r⟩] := by
  replace h := Leads.of h
  unfold fund_Order at h
  refine AC func171 rfl fun w0 F0 hw0 => ?_
  refine W_seq ?_
  refine R [] [(1, .box 0 T_api_State p0)] pz ?_
  refine W_seq ?_
  obtain ⟨y1, ey1, h⟩ := h.bind
  obtain ⟨y2, ey2, h⟩ := h.bind
  refine RL [.res [(9, ⟨9, .slice T_dag_Arrow, y1⟩)], .res [(9, ⟨9, .slice (.int .i64), y2.1⟩), (0, ⟨0, .bool, y2.2⟩)]] [(1, .box 0 T_api_State p0), (3, .v 9 (.slice (.int .i64)) y2.1)] (pc (state_CoinArrows.ok ey1) (pc (dag_Order.ok ey2) (ps (rfl : (⟨.bool, y2.2⟩ : TV) = ⟨.bool, y2.2⟩)))) ?_
  refine W_seq ?_
  obtain ⟨y3, ey3, h⟩ := h.bind
  refine R [.own, .fn (.int .i64) .bool (fun x => fund_Order_c1 x p0), .res [(1, ⟨1, .slice (.int .i64), y3⟩)]] [(2, .v 1 (.slice (.int .i64)) y3)] (pc (fun x y e => ACall.flat rfl (fund_Order_c1.ok e) : ∀ x y, (fun x => fund_Order_c1 x p0) x = some y → ACall prog 179 (unprod (.int .i64) x ++ [⟨.cptr T_api_State, p0⟩]) [⟨9, .bool, y⟩]) (ps ((slices_DeleteFunc_int_int.ok ey3).up (by kernel_rfl) : OCall prog 178 9 ⟨.slice (.int .i64), y2.1⟩ [⟨.fn (.int .i64) .bool, fun x => fund_Order_c1 x p0⟩] [⟨1, .slice (.int .i64), y3⟩]))) ?_
  cases h
  exact Rt hw0

def fund_which_j1 (x1 : List Int) : Option (List Int) :=
  some x1
def fund_which_j2 (x3 : Int) (x6 : List Int) : Option (((List Int) × Int) ⊕ (List Int)) :=
  bnd (i64.wrap (x3 + 1)) fun x7 =>
  some (.inl (x6, x7))
def fund_which_b1 (p0 : D_api_State) (p1 : D_api_Ticket → Option Bool) (x2 : List Int) (x3 : Int) : Option (((List Int) × Int) ⊕ (List Int)) :=
  bif decide (x3 < (p0.2.1.length : Int)) then
    ass (0 ≤ x3 ∧ x3 < (p0.2.1.length : Int)) <|
    bnd (rd z_api_Ticket p0.2.1 x3) fun x4 =>
    (bif x4.1 then p1 x4 else some false).bind fun y5 =>
    bif x4.1 && y5 then
      ass (((x2.length + [x3].length : Nat) : Int) ≤ limA) <|
      bnd (x2 ++ [x3]) fun x8 =>
      fund_which_j2 x3 x8
    else
    fund_which_j2 x3 x2
  else
  (fund_which_j1 x2).map .inr
def fund_which (p0 : D_api_State) (p1 : D_api_Ticket → Option Bool) : Option (List Int) :=
  loopM (fun x : (List Int) × Int => fund_which_b1 p0 p1 x.1 x.2) (([] : List Int), (0 : Int))
theorem fund_which.ok {p0 : D_api_State} {p1 : D_api_Ticket → Option Bool} {r : List Int} (h : fund_which p0 p1 = some r) : ACall prog 180 [⟨T_api_State, p0⟩, ⟨.fn T_api_Ticket .bool, p1⟩] [⟨9, .slice (.int .i64), r⟩] := by
  replace h := Leads.of h
  unfold fund_which at h
  refine AC func180 rfl fun w0 F0 hw0 => ?_
  refine W_seq ?_
  refine R [] [(1, .v 0 (.fn T_api_Ticket .bool) p1), (2, .box 0 T_api_State p0), (4, .v 9 (.slice (.int .i64)) ([] : List Int))] pz ?_
  refine W_seq (W_seq ?_)
  refine R [] [(1, .v 0 (.fn T_api_Ticket .bool) p1), (4, .v 9 (.slice (.int .i64)) ([] : List Int)), (8, .v 0 (.slice T_api_Ticket) p0.2.1), (9, .v 0 (.int .i64) (p0.2.1.length : Int)), (10, .v 0 (.int .i64) (0 : Int))] pz ?_
  refine J1 h fund_which_j1 (fun x1 => [(4, .v 9 (.slice (.int .i64)) x1)]) (fun x1 h => ?_) fun j1 => ?_
  · unfold fund_which_j1 at h
    refine W_seq ?_
    refine R [] [(4, .v 9 (.slice (.int .i64)) x1)] pz ?_
    cases h
    exact Rt hw0
  refine W_block ?_
  refine L2 h (fun x2 x3 => [(1, .v 0 (.fn T_api_Ticket .bool) p1), (4, .v 9 (.slice (.int .i64)) x2), (8, .v 0 (.slice T_api_Ticket) p0.2.1), (9, .v 0 (.int .i64) (p0.2.1.length : Int)), (10, .v 0 (.int .i64) x3)]) fun x2 x3 _ h => ?_
  unfold fund_which_b1 at h
  refine W_seq ?_
  refine R [] [(1, .v 0 (.fn T_api_Ticket .bool) p1), (4, .v 9 (.slice (.int .i64)) x2), (8, .v 0 (.slice T_api_Ticket) p0.2.1), (9, .v 0 (.int .i64) (p0.2.1.length : Int)), (10, .v 0 (.int .i64) x3), (11, .v 0 .bool (decide (x3 < (p0.2.1.length : Int))))] pz ?_
  refine W_seq ?_
  refine C h (fun h => ?_) fun h => ?_
  · refine W_skip (W_seq (W_block (W_seq ?_)))
    obtain ⟨o1, h⟩ := h.ass
    refine R1 h [] (fun x4 => [(1, .v 0 (.fn T_api_Ticket .bool) p1), (4, .v 9 (.slice (.int .i64)) x2), (5, .v 0 (.int .i64) x3), (6, .box 9 T_api_Ticket x4), (8, .v 0 (.slice T_api_Ticket) p0.2.1), (9, .v 0 (.int .i64) (p0.2.1.length : Int)), (10, .v 0 (.int .i64) x3)]) (ps o1) fun x4 h => ?_
    refine W_seq ?_
    obtain ⟨y5, ey5, h⟩ := h.bind
    refine R [.res [(0, ⟨9, .bool, y5⟩)]] [(1, .v 0 (.fn T_api_Ticket .bool) p1), (4, .v 9 (.slice (.int .i64)) x2), (5, .v 0 (.int .i64) x3), (8, .v 0 (.slice T_api_Ticket) p0.2.1), (9, .v 0 (.int .i64) (p0.2.1.length : Int)), (10, .v 0 (.int .i64) x3), (21, .v 0 .bool (x4.1 && y5))] (ps (fun hc => bif_some ey5 hc)) ?_
    refine J1 h (fund_which_j2 x3) (fun x6 => [(1, .v 0 (.fn T_api_Ticket .bool) p1), (4, .v 9 (.slice (.int .i64)) x6), (8, .v 0 (.slice T_api_Ticket) p0.2.1), (9, .v 0 (.int .i64) (p0.2.1.length : Int)), (10, .v 0 (.int .i64) x3)]) (fun x6 h => ?_) fun j2 => ?_
    · unfold fund_which_j2 at h
      refine W_blk ?_
      refine R1 h [] (fun x7 => [(1, .v 0 (.fn T_api_Ticket .bool) p1), (4, .v 9 (.slice (.int .i64)) x6), (8, .v 0 (.slice T_api_Ticket) p0.2.1), (9, .v 0 (.int .i64) (p0.2.1.length : Int)), (10, .v 0 (.int .i64) x7)]) pz fun x7 h => ?_
      exact B h
    refine C h (fun h => ?_) fun h => ?_
    · obtain ⟨o1, h⟩ := h.ass
      refine R1 h [] (fun x8 => [(1, .v 0 (.fn T_api_Ticket .bool) p1), (4, .v 9 (.slice (.int .i64)) x8), (8, .v 0 (.slice T_api_Ticket) p0.2.1), (9, .v 0 (.int .i64) (p0.2.1.length : Int)), (10, .v 0 (.int .i64) x3)]) (ps o1) fun x8 h => ?_
      exact K (j2 x8 h)
    refine W_skip ?_
    exact K (j2 x2 h)
  refine W_exit rfl ?_
  exact K (j1 x2 h.back)

def fund_Issued_c1 (p0 : D_api_Ticket) (c0 : Int) : Option Bool :=
  bnd (p0.2.1 == c0) fun x1 =>
  some x1
theorem fund_Issued_c1.ok {p0 : D_api_Ticket} {c0 : Int} {r : Bool} (h : fund_Issued_c1 p0 c0 = some r) : ACall prog 181 [⟨T_api_Ticket, p0⟩, ⟨.cptr (.int .i64), c0⟩] [⟨0, .bool, r⟩] := by
  replace h := Leads.of h
  unfold fund_Issued_c1 at h
  refine AC func181 rfl fun w0 F0 hw0 => ?_
  refine W_seq ?_
  refine R [] [(1, .v 0 (.cptr (.int .i64)) c0), (2, .box 9 T_api_Ticket p0)] pz ?_
  refine W_seq ?_
  refine R1 h [] (fun x1 => [(3, .v 0 .bool x1)]) pz fun x1 h => ?_
  cases h
  exact Rt hw0

def fund_Issued (p0 : D_api_State) (p1 : Int) : Option (List Int) :=
  (fund_which p0 (fun x => fund_Issued_c1 x p1)).bind fun y1 =>
  some y1
theorem fund_Issued.ok {p0 : D_api_State} {p1 : Int} {r : List Int} (h : fund_Issued p0 p1 = some r) : ACall prog 172 [⟨T_api_State, p0⟩, ⟨.int .i64, p1⟩] [⟨9, .slice (.int .i64), r⟩] := by
  replace h := Leads.of h
  unfold fund_Issued at h
  refine AC func172 rfl fun w0 F0 hw0 => ?_
  refine W_seq ?_
  refine R [] [(2, .box 0 T_api_State p0), (3, .box 9 (.int .i64) p1)] pz ?_
  refine W_seq ?_
  obtain ⟨y1, ey1, h⟩ := h.bind
  refine R [.fn T_api_Ticket .bool (fun x => fund_Issued_c1 x p1), .res [(9, ⟨9, .slice (.int .i64), y1⟩)]] [(4, .v 9 (.slice (.int .i64)) y1)] (pc (fun x y e => ACall.flat rfl (fund_Issued_c1.ok e) : ∀ x y, (fun x => fund_Issued_c1 x p1) x = some y → ACall prog 181 (unprod T_api_Ticket x ++ [⟨.cptr (.int .i64), p1⟩]) [⟨9, .bool, y⟩]) (ps (fund_which.ok ey1))) ?_
  cases h
  exact Rt hw0

def live_reckon_j2 (x11 : Int) (x14 : List Bool) (x15 : List Int) : Option (((List Bool) × (List Int) × Int) ⊕ ((List Bool) × (List Int))) :=
  bnd (i64.wrap (x11 + 1)) fun x16 =>
  some (.inl (x14, x15, x16))
def live_reckon_j1 (x7 : Int) (x10 : List Int) (x11 : Int) (x12 : Int) (x13 : D_api_Ticket) (x14 : List Bool) : Option (((List Bool) × (List Int) × Int) ⊕ ((List Bool) × (List Int))) :=
  ass (0 ≤ x12 ∧ x12 < (x14.length : Int)) <|
  bif rd false x14 x12 then
    ass (0 ≤ x7 ∧ x7 < (x10.length : Int)) <|
    bnd (wr x10 x7 (i64.wrap ((rd (0 : Int) x10 x7) + x13.2.2.1))) fun x17 =>
    live_reckon_j2 x11 x14 x17
  else
  live_reckon_j2 x11 x14 x10
def live_reckon_b1 (p0 : D_api_State) (y1 : List Bool) (x7 : Int) (y8 : List Int) (x9 : List Bool) (x10 : List Int) (x11 : Int) : Option (((List Bool) × (List Int) × Int) ⊕ ((List Bool) × (List Int))) :=
  bif decide (x11 < (y8.length : Int)) then
    ass (0 ≤ x11 ∧ x11 < (y8.length : Int)) <|
    bnd (rd (0 : Int) y8 x11) fun x12 =>
    ass (0 ≤ x12 ∧ x12 < (p0.2.1.length : Int)) <|
    bnd (rd z_api_Ticket p0.2.1 x12) fun x13 =>
    bif x13.2.2.2.1 == 1 then
      ass (x13.2.2.2.2.2 = true → 0 ≤ x13.2.2.2.2.1 ∧ x13.2.2.2.2.1 < (y1.length : Int)) <|
      ass (0 ≤ x12 ∧ x12 < (x9.length : Int)) <|
      bnd (wr x9 x12 (x13.2.2.2.2.2 && (rd false y1 x13.2.2.2.2.1))) fun x18 =>
      live_reckon_j1 x7 x10 x11 x12 x13 x18
    else
    bif x13.2.2.2.1 == 2 then
      ass (x13.2.2.2.2.2 = true → 0 ≤ x13.2.2.2.2.1 ∧ x13.2.2.2.2.1 < (x10.length : Int)) <|
      ass (0 ≤ x12 ∧ x12 < (x9.length : Int)) <|
      bnd (wr x9 x12 (x13.2.2.2.2.2 && (decide ((rd (0 : Int) x10 x13.2.2.2.2.1) > 0)))) fun x19 =>
      live_reckon_j1 x7 x10 x11 x12 x13 x19
    else
    live_reckon_j1 x7 x10 x11 x12 x13 x9
  else
  some (.inr (x9, x10))
def live_reckon_r2 (p0 : D_api_State) (y1 : List Bool) (x5 : List Bool) (x6 : List Int) (x7 : Int) : Option ((List Bool) × (List Int)) :=
  (fund_Issued p0 x7).bind fun y8 =>
  loopM (fun x : (List Bool) × (List Int) × Int => live_reckon_b1 p0 y1 x7 y8 x.1 x.2.1 x.2.2) (x5, x6, (0 : Int))
def live_reckon_k2 (x20 : List Bool) (x21 : List Int) : Option ((List Bool) × (List Int)) :=
  some (x20, x21)
def live_reckon (p0 : D_api_State) : Option ((List Bool) × (List Int)) :=
  ass (0 ≤ (p0.2.1.length : Int) ∧ (p0.2.1.length : Int) ≤ (p0.2.1.length : Int) ∧ (p0.2.1.length : Int) ≤ lim) <|
  ass (0 ≤ (p0.1.length : Int) ∧ (p0.1.length : Int) ≤ (p0.1.length : Int) ∧ (p0.1.length : Int) ≤ lim) <|
  (live_Threads p0).bind fun y1 =>
  bnd (List.replicate (p0.2.1.length : Int).toNat false) fun x2 =>
  bnd (List.replicate (p0.1.length : Int).toNat (0 : Int)) fun x3 =>
  (fund_Order p0).bind fun y4 =>
  ass ((y4.length : Int) ≤ limA) <|
  (eachM (fun (s : (List Bool) × (List Int)) x => live_reckon_r2 p0 y1 s.1 s.2 x) y4.reverse (x2, x3)).bind fun s =>
  live_reckon_k2 s.1 s.2
theorem live_reckon.ok {p0 : D_api_State} {r : (List Bool) × (List Int)} (h : live_reckon p0 = some r) : ACall prog 175 [⟨T_api_State, p0⟩] [⟨0, .slice .bool, r.1⟩, ⟨0, .slice (.int .i64), r.2⟩] := by
  replace h := Leads.of h
  unfold live_reckon at h
  refine ACm func175 rfl fun w0 F0 hw0 => ?_
  refine W_seq ?_
  refine R [] [(1, .box 0 T_api_State p0)] pz ?_
  refine W_seq ?_
  obtain ⟨o1, h⟩ := h.ass
  obtain ⟨o2, h⟩ := h.ass
  obtain ⟨y1, ey1, h⟩ := h.bind
  refine RL2 h [.res [(9, ⟨9, .slice .bool, y1⟩)]] (fun x2 x3 => [(1, .box 0 T_api_State p0), (4, .box 9 (.slice .bool) x2), (5, .box 9 (.slice (.int .i64)) x3), (6, .box 9 (.slice .bool) y1)]) (pc o1 (pc o2 (pc (live_Threads.ok ey1) (pc o2 (pc (rfl : (⟨.slice .bool, p0.1⟩ : TV) = ⟨.slice .bool, p0.1⟩) (pc (rfl : (⟨.int .i64, (p0.1.length : Int)⟩ : TV) = ⟨.int .i64, (p0.1.length : Int)⟩) (ps (rfl : (⟨.slice (.int .i64), List.replicate (p0.1.length : Int).toNat (0 : Int)⟩ : TV) = ⟨.slice (.int .i64), List.replicate (p0.1.length : Int).toNat (0 : Int)⟩)))))))) fun x2 x3 h => ?_
  refine W_seq (W_seq ?_)
  obtain ⟨y4, ey4, h⟩ := h.bind
  obtain ⟨olim, h⟩ := h.ass
  refine W_backE backsOk tys_ok hw0 (lo := 8) (sup := [.res [(1, ⟨1, .slice (.int .i64), y4⟩)]]) (l1 := [(1, 0), (4, 9), (5, 9), (6, 9), (23, 0)]) (l2 := [1, 4, 5, 6]) (En := fun (s : (List Bool) × (List Int)) => [(1, .box 0 T_api_State p0), (4, .box 9 (.slice .bool) s.1), (5, .box 9 (.slice (.int .i64)) s.2), (6, .box 9 (.slice .bool) y1)]) (Eb := fun (s : (List Bool) × (List Int)) x => [(1, .box 0 T_api_State p0), (4, .box 9 (.slice .bool) s.1), (5, .box 9 (.slice (.int .i64)) s.2), (6, .box 9 (.slice .bool) y1), (8, .v 0 (.int .i64) x)]) (obs := [ACall prog 171 [⟨T_api_State, p0⟩] [⟨1, .slice (.int .i64), y4⟩]]) h rfl rfl rfl rfl (by kernel_rfl) (fund_Order.ok ey4) olim (fun _ => rfl) (by kernel_rfl) ?_ ?_ ?_
  · rintro w0r F0r ⟨x5, x6⟩ x7 Ka hK
    refine W_region mixed tys_ok (sup := []) (l := [(1, 0), (4, 9), (5, 9), (6, 9), (8, 0)]) (E' := [(1, .box 0 T_api_State p0), (4, .box 9 (.slice .bool) x5), (5, .box 9 (.slice (.int .i64)) x6), (6, .box 9 (.slice .bool) y1), (8, .v 0 (.int .i64) x7)]) (obs := []) (by kernel_rfl) trivial ?_
    exact W_abs hK
  · rintro w0r F0r ⟨x5, x6⟩ x7 Ka h
    replace h : Leads _ (live_reckon_r2 p0 y1 x5 x6 x7) := h
    unfold live_reckon_r2 at h
    show W _ _ _ _ _ _ [(1, .box 0 T_api_State p0), (4, .box 9 (.slice .bool) x5), (5, .box 9 (.slice (.int .i64)) x6), (6, .box 9 (.slice .bool) y1), (8, .v 0 (.int .i64) x7)]
    refine W_block (W_seq ?_)
    obtain ⟨y8, ey8, h⟩ := h.bind
    refine R [.res [(9, ⟨9, .slice (.int .i64), y8⟩)]] [(1, .box 0 T_api_State p0), (4, .box 9 (.slice .bool) x5), (5, .box 9 (.slice (.int .i64)) x6), (6, .box 9 (.slice .bool) y1), (8, .v 0 (.int .i64) x7), (29, .v 9 (.slice (.int .i64)) y8), (30, .v 0 (.int .i64) (y8.length : Int)), (31, .v 0 (.int .i64) (0 : Int))] (ps (fund_Issued.ok ey8)) ?_
    refine W_block ?_
    refine L3 h (fun x9 x10 x11 => [(1, .box 0 T_api_State p0), (4, .box 9 (.slice .bool) x9), (5, .box 9 (.slice (.int .i64)) x10), (6, .box 9 (.slice .bool) y1), (8, .v 0 (.int .i64) x7), (29, .v 9 (.slice (.int .i64)) y8), (30, .v 0 (.int .i64) (y8.length : Int)), (31, .v 0 (.int .i64) x11)]) fun x9 x10 x11 _ h => ?_
    unfold live_reckon_b1 at h
    refine W_seq ?_
    refine R [] [(1, .box 0 T_api_State p0), (4, .box 9 (.slice .bool) x9), (5, .box 9 (.slice (.int .i64)) x10), (6, .box 9 (.slice .bool) y1), (8, .v 0 (.int .i64) x7), (29, .v 9 (.slice (.int .i64)) y8), (30, .v 0 (.int .i64) (y8.length : Int)), (31, .v 0 (.int .i64) x11), (32, .v 0 .bool (decide (x11 < (y8.length : Int))))] pz ?_
    refine W_seq ?_
    refine C h (fun h => ?_) fun h => ?_
    · refine W_skip (W_seq (W_block (W_seq ?_)))
      obtain ⟨o1, h⟩ := h.ass
      refine R1 h [] (fun x12 => [(1, .box 0 T_api_State p0), (4, .box 9 (.slice .bool) x9), (5, .box 9 (.slice (.int .i64)) x10), (6, .box 9 (.slice .bool) y1), (8, .v 0 (.int .i64) x7), (10, .v 0 (.int .i64) x12), (29, .v 9 (.slice (.int .i64)) y8), (30, .v 0 (.int .i64) (y8.length : Int)), (31, .v 0 (.int .i64) x11)]) (ps o1) fun x12 h => ?_
      refine W_seq ?_
      obtain ⟨o1, h⟩ := h.ass
      refine R1 h [] (fun x13 => [(1, .box 0 T_api_State p0), (4, .box 9 (.slice .bool) x9), (5, .box 9 (.slice (.int .i64)) x10), (6, .box 9 (.slice .bool) y1), (8, .v 0 (.int .i64) x7), (10, .v 0 (.int .i64) x12), (11, .box 9 T_api_Ticket x13), (29, .v 9 (.slice (.int .i64)) y8), (30, .v 0 (.int .i64) (y8.length : Int)), (31, .v 0 (.int .i64) x11)]) (ps o1) fun x13 h => ?_
      refine W_seq (W_seq ?_)
      refine R [] [(1, .box 0 T_api_State p0), (4, .box 9 (.slice .bool) x9), (5, .box 9 (.slice (.int .i64)) x10), (6, .box 9 (.slice .bool) y1), (8, .v 0 (.int .i64) x7), (10, .v 0 (.int .i64) x12), (11, .box 9 T_api_Ticket x13), (29, .v 9 (.slice (.int .i64)) y8), (30, .v 0 (.int .i64) (y8.length : Int)), (31, .v 0 (.int .i64) x11), (41, .v 0 (.int .i64) x13.2.2.2.1)] pz ?_
      refine W_block (W_seq ?_)
      refine R [] [(1, .box 0 T_api_State p0), (4, .box 9 (.slice .bool) x9), (5, .box 9 (.slice (.int .i64)) x10), (6, .box 9 (.slice .bool) y1), (8, .v 0 (.int .i64) x7), (10, .v 0 (.int .i64) x12), (11, .box 9 T_api_Ticket x13), (29, .v 9 (.slice (.int .i64)) y8), (30, .v 0 (.int .i64) (y8.length : Int)), (31, .v 0 (.int .i64) x11), (41, .v 0 (.int .i64) x13.2.2.2.1), (42, .v 0 .bool (x13.2.2.2.1 == 1))] pz ?_
      refine J1 h (live_reckon_j1 x7 x10 x11 x12 x13) (fun x14 => [(1, .box 0 T_api_State p0), (4, .box 9 (.slice .bool) x14), (5, .box 9 (.slice (.int .i64)) x10), (6, .box 9 (.slice .bool) y1), (8, .v 0 (.int .i64) x7), (10, .v 0 (.int .i64) x12), (11, .box 9 T_api_Ticket x13), (29, .v 9 (.slice (.int .i64)) y8), (30, .v 0 (.int .i64) (y8.length : Int)), (31, .v 0 (.int .i64) x11)]) (fun x14 h => ?_) fun j1 => ?_
      · unfold live_reckon_j1 at h
        refine W_blk (W_seq ?_)
        obtain ⟨o1, h⟩ := h.ass
        refine R [] [(1, .box 0 T_api_State p0), (4, .box 9 (.slice .bool) x14), (5, .box 9 (.slice (.int .i64)) x10), (6, .box 9 (.slice .bool) y1), (8, .v 0 (.int .i64) x7), (11, .box 9 T_api_Ticket x13), (29, .v 9 (.slice (.int .i64)) y8), (30, .v 0 (.int .i64) (y8.length : Int)), (31, .v 0 (.int .i64) x11), (74, .v 0 .bool (rd false x14 x12))] (ps o1) ?_
        refine J1 h (live_reckon_j2 x11 x14) (fun x15 => [(1, .box 0 T_api_State p0), (4, .box 9 (.slice .bool) x14), (5, .box 9 (.slice (.int .i64)) x15), (6, .box 9 (.slice .bool) y1), (8, .v 0 (.int .i64) x7), (29, .v 9 (.slice (.int .i64)) y8), (30, .v 0 (.int .i64) (y8.length : Int)), (31, .v 0 (.int .i64) x11)]) (fun x15 h => ?_) fun j2 => ?_
        · unfold live_reckon_j2 at h
          refine W_blk ?_
          refine R1 h [] (fun x16 => [(1, .box 0 T_api_State p0), (4, .box 9 (.slice .bool) x14), (5, .box 9 (.slice (.int .i64)) x15), (6, .box 9 (.slice .bool) y1), (8, .v 0 (.int .i64) x7), (29, .v 9 (.slice (.int .i64)) y8), (30, .v 0 (.int .i64) (y8.length : Int)), (31, .v 0 (.int .i64) x16)]) pz fun x16 h => ?_
          exact B h
        refine C h (fun h => ?_) fun h => ?_
        · obtain ⟨o1, h⟩ := h.ass
          refine R1 h [] (fun x17 => [(1, .box 0 T_api_State p0), (4, .box 9 (.slice .bool) x14), (5, .box 9 (.slice (.int .i64)) x17), (6, .box 9 (.slice .bool) y1), (8, .v 0 (.int .i64) x7), (29, .v 9 (.slice (.int .i64)) y8), (30, .v 0 (.int .i64) (y8.length : Int)), (31, .v 0 (.int .i64) x11)]) (pc o1 (ps o1)) fun x17 h => ?_
          exact K (j2 x17 h)
        refine W_skip ?_
        exact K (j2 x10 h)
      refine C h (fun h => ?_) fun h => ?_
      · obtain ⟨o1, h⟩ := h.ass
        obtain ⟨o2, h⟩ := h.ass
        refine R1 h [] (fun x18 => [(1, .box 0 T_api_State p0), (4, .box 9 (.slice .bool) x18), (5, .box 9 (.slice (.int .i64)) x10), (6, .box 9 (.slice .bool) y1), (8, .v 0 (.int .i64) x7), (10, .v 0 (.int .i64) x12), (11, .box 9 T_api_Ticket x13), (29, .v 9 (.slice (.int .i64)) y8), (30, .v 0 (.int .i64) (y8.length : Int)), (31, .v 0 (.int .i64) x11)]) (pc o1 (ps o2)) fun x18 h => ?_
        exact K (j1 x18 h)
      refine W_seq ?_
      refine R [] [(1, .box 0 T_api_State p0), (4, .box 9 (.slice .bool) x9), (5, .box 9 (.slice (.int .i64)) x10), (6, .box 9 (.slice .bool) y1), (8, .v 0 (.int .i64) x7), (10, .v 0 (.int .i64) x12), (11, .box 9 T_api_Ticket x13), (29, .v 9 (.slice (.int .i64)) y8), (30, .v 0 (.int .i64) (y8.length : Int)), (31, .v 0 (.int .i64) x11), (56, .v 0 .bool (x13.2.2.2.1 == 2))] pz ?_
      refine C h (fun h => ?_) fun h => ?_
      · obtain ⟨o1, h⟩ := h.ass
        obtain ⟨o2, h⟩ := h.ass
        refine R1 h [] (fun x19 => [(1, .box 0 T_api_State p0), (4, .box 9 (.slice .bool) x19), (5, .box 9 (.slice (.int .i64)) x10), (6, .box 9 (.slice .bool) y1), (8, .v 0 (.int .i64) x7), (10, .v 0 (.int .i64) x12), (11, .box 9 T_api_Ticket x13), (29, .v 9 (.slice (.int .i64)) y8), (30, .v 0 (.int .i64) (y8.length : Int)), (31, .v 0 (.int .i64) x11)]) (pc o1 (ps o2)) fun x19 h => ?_
        exact K (j1 x19 h)
      refine W_skip ?_
      exact K (j1 x9 h)
    refine W_exit rfl (W_blk ?_)
    refine K (E' := [(1, .box 0 T_api_State p0), (4, .box 9 (.slice .bool) x9), (5, .box 9 (.slice (.int .i64)) x10), (6, .box 9 (.slice .bool) y1)]) ?_
    exact W_abs h
  · rintro w0m D ⟨x20, x21⟩ htied h
    replace h : Leads _ (live_reckon_k2 x20 x21) := h
    unfold live_reckon_k2 at h
    show W _ _ _ _ _ _ [(1, .box 0 T_api_State p0), (4, .box 9 (.slice .bool) x20), (5, .box 9 (.slice (.int .i64)) x21), (6, .box 9 (.slice .bool) y1)]
    refine W_seq ?_
    refine K (E' := [(1, .box 0 T_api_State p0), (4, .box 0 (.slice .bool) x20), (5, .box 0 (.slice (.int .i64)) x21), (6, .box 9 (.slice .bool) y1)]) ?_
    refine RL [] [(2, .v 0 (.slice .bool) x20), (3, .v 0 (.slice (.int .i64)) x21)] (ps (rfl : (⟨.slice (.int .i64), x21⟩ : TV) = ⟨.slice (.int .i64), x21⟩)) ?_
    replace h : ((x20, x21)) = r := h
    subst h
    exact W_retM tys_ok htied rfl (by kernel_rfl) (by kernel_rfl)

def live_Tickets (p0 : D_api_State) : Option (List Bool) :=
  (live_reckon p0).bind fun y1 =>
  some y1.1
theorem live_Tickets.ok {p0 : D_api_State} {r : List Bool} (h : live_Tickets p0 = some r) : ACall prog 169 [⟨T_api_State, p0⟩] [⟨0, .slice .bool, r⟩] := by
  replace h := Leads.of h
  unfold live_Tickets at h
  refine AC func169 rfl fun w0 F0 hw0 => ?_
  refine W_seq ?_
  refine R [] [(1, .box 0 T_api_State p0)] pz ?_
  refine W_seq ?_
  obtain ⟨y1, ey1, h⟩ := h.bind
  refine R [.res [(0, ⟨0, .slice .bool, y1.1⟩), (0, ⟨0, .slice (.int .i64), y1.2⟩)]] [(3, .v 0 (.slice .bool) y1.1)] (ps (live_reckon.ok ey1)) ?_
  refine W_seq ?_
  refine R [] [(2, .v 0 (.slice .bool) y1.1)] pz ?_
  cases h
  exact Rt hw0

def live_Amounts (p0 : D_api_State) : Option (List Int) :=
  (live_reckon p0).bind fun y1 =>
  some y1.2
theorem live_Amounts.ok {p0 : D_api_State} {r : List Int} (h : live_Amounts p0 = some r) : ACall prog 170 [⟨T_api_State, p0⟩] [⟨0, .slice (.int .i64), r⟩] := by
  replace h := Leads.of h
  unfold live_Amounts at h
  refine AC func170 rfl fun w0 F0 hw0 => ?_
  refine W_seq ?_
  refine R [] [(1, .box 0 T_api_State p0)] pz ?_
  refine W_seq ?_
  obtain ⟨y1, ey1, h⟩ := h.bind
  refine R [.res [(0, ⟨0, .slice .bool, y1.1⟩), (0, ⟨0, .slice (.int .i64), y1.2⟩)]] [(4, .v 0 (.slice (.int .i64)) y1.2)] (ps (live_reckon.ok ey1)) ?_
  refine W_seq ?_
  refine R [] [(2, .v 0 (.slice (.int .i64)) y1.2)] pz ?_
  cases h
  exact Rt hw0

def ratio_one : Option D_api_Ratio :=
  bnd ((([] : List Int), ([] : List Int))) fun x1 =>
  (nat_Of (1 : Int)).bind fun y2 =>
  (nat_Of (1 : Int)).bind fun y3 =>
  bnd ((y2, y3)) fun x4 =>
  some x4
theorem ratio_one.ok {r : D_api_Ratio} (h : ratio_one = some r) : ACall prog 111 [] [⟨0, T_api_Ratio, r⟩] := by
  replace h := Leads.of h
  unfold ratio_one at h
  refine AC func111 rfl fun w0 F0 hw0 => ?_
  refine W_seq ?_
  refine R1 h [] (fun x1 => [(0, .box 9 T_api_Ratio x1)]) pz fun x1 h => ?_
  refine W_seq ?_
  obtain ⟨y2, ey2, h⟩ := h.bind
  obtain ⟨y3, ey3, h⟩ := h.bind
  refine R1 h [.res [(0, ⟨9, .slice (.int .u32), y2⟩)], .res [(0, ⟨9, .slice (.int .u32), y3⟩)]] (fun x4 => [(0, .box 0 T_api_Ratio x4)]) (pc (nat_Of.ok ey2) (ps (nat_Of.ok ey3))) fun x4 h => ?_
  cases h
  exact Rt hw0

def nat_times_j1 (x2 : List Int) : Option (List Int) :=
  (nat_Cut x2).bind fun y3 =>
  some y3
def nat_times_j2 (x5 : Int) (x6 : List Int) : Option (((List Int) × Int) ⊕ (List Int)) :=
  bnd (i64.wrap (x5 + 1)) fun x7 =>
  some (.inl (x6, x7))
def nat_times_j3 (p1 : List Int) (x5 : Int) (x9 : List Int) (x10 : Int) : Option (((List Int) × Int) ⊕ (List Int)) :=
  ass (0 ≤ i64.wrap (x5 + (p1.length : Int)) ∧ i64.wrap (x5 + (p1.length : Int)) < (x9.length : Int)) <|
  bnd (wr x9 (i64.wrap (x5 + (p1.length : Int))) (u32.wrap x10)) fun x11 =>
  nat_times_j2 x5 x11
def nat_times_b2 (p1 : List Int) (x5 : Int) (x8 : Int) (x12 : List Int) (x13 : Int) (x14 : Int) : Option (((List Int) × Int × Int) ⊕ (((List Int) × Int) ⊕ (List Int))) :=
  bif decide (x14 < (p1.length : Int)) then
    ass (0 ≤ x14 ∧ x14 < (p1.length : Int)) <|
    bnd (rd (0 : Int) p1 x14) fun x15 =>
    ass (0 ≤ i64.wrap (x5 + x14) ∧ i64.wrap (x5 + x14) < (x12.length : Int)) <|
    bnd (u64.wrap (x13 + (u64.wrap ((u64.wrap ((u64.wrap x8) * (u64.wrap x15))) + (u64.wrap (rd (0 : Int) x12 (i64.wrap (x5 + x14)))))))) fun x16 =>
    ass (0 ≤ i64.wrap (x5 + x14) ∧ i64.wrap (x5 + x14) < (x12.length : Int)) <|
    bnd (wr x12 (i64.wrap (x5 + x14)) (u32.wrap x16)) fun x17 =>
    ass (0 ≤ (32 : Int)) <|
    bnd (x16.fdiv (2 ^ (min (32 : Int).toNat u64.bits))) fun x18 =>
    bnd (i64.wrap (x14 + 1)) fun x19 =>
    some (.inl (x17, x18, x19))
  else
  (nat_times_j3 p1 x5 x12 x13).map .inr
def nat_times_b1 (p0 : List Int) (p1 : List Int) (x4 : List Int) (x5 : Int) : Option (((List Int) × Int) ⊕ (List Int)) :=
  bif decide (x5 < (p0.length : Int)) then
    ass (0 ≤ x5 ∧ x5 < (p0.length : Int)) <|
    bnd (rd (0 : Int) p0 x5) fun x8 =>
    loopM (fun x : (List Int) × Int × Int => nat_times_b2 p1 x5 x8 x.1 x.2.1 x.2.2) (x4, (0 : Int), (0 : Int))
  else
  (nat_times_j1 x4).map .inr
def nat_times (p0 : List Int) (p1 : List Int) : Option (List Int) :=
  ass (0 ≤ i64.wrap ((p0.length : Int) + (p1.length : Int)) ∧ i64.wrap ((p0.length : Int) + (p1.length : Int)) ≤ i64.wrap ((p0.length : Int) + (p1.length : Int)) ∧ i64.wrap ((p0.length : Int) + (p1.length : Int)) ≤ lim) <|
  bnd (List.replicate (i64.wrap ((p0.length : Int) + (p1.length : Int))).toNat (0 : Int)) fun x1 =>
  loopM (fun x : (List Int) × Int => nat_times_b1 p0 p1 x.1 x.2) (x1, (0 : Int))
theorem nat_times.ok {p0 : List Int} {p1 : List Int} {r : List Int} (h : nat_times p0 p1 = some r) : ACall prog 128 [⟨.slice (.int .u32), p0⟩, ⟨.slice (.int .u32), p1⟩] [⟨9, .slice (.int .u32), r⟩] := by
  replace h := Leads.of h
  unfold nat_times at h
  refine AC func128 rfl fun w0 F0 hw0 => ?_
  refine W_seq ?_
  refine R [] [(0, .v 0 (.slice (.int .u32)) p0), (1, .v 0 (.slice (.int .u32)) p1)] pz ?_
  refine W_seq ?_
  obtain ⟨o1, h⟩ := h.ass
  refine R1 h [] (fun x1 => [(0, .v 0 (.slice (.int .u32)) p0), (1, .v 0 (.slice (.int .u32)) p1), (5, .v 9 (.slice (.int .u32)) x1)]) (ps o1) fun x1 h => ?_
  refine W_seq (W_seq ?_)
  refine R [] [(1, .v 0 (.slice (.int .u32)) p1), (5, .v 9 (.slice (.int .u32)) x1), (17, .v 0 (.slice (.int .u32)) p0), (18, .v 0 (.int .i64) (p0.length : Int)), (19, .v 0 (.int .i64) (0 : Int))] pz ?_
  refine J1 h nat_times_j1 (fun x2 => [(5, .v 9 (.slice (.int .u32)) x2)]) (fun x2 h => ?_) fun j1 => ?_
  · unfold nat_times_j1 at h
    refine W_seq ?_
    obtain ⟨y3, ey3, h⟩ := h.bind
    refine R [.res [(9, ⟨9, .slice (.int .u32), y3⟩)]] [(4, .v 9 (.slice (.int .u32)) y3)] (ps (nat_Cut.ok ey3)) ?_
    cases h
    exact Rt hw0
  refine W_block ?_
  refine L2 h (fun x4 x5 => [(1, .v 0 (.slice (.int .u32)) p1), (5, .v 9 (.slice (.int .u32)) x4), (17, .v 0 (.slice (.int .u32)) p0), (18, .v 0 (.int .i64) (p0.length : Int)), (19, .v 0 (.int .i64) x5)]) fun x4 x5 _ h => ?_
  unfold nat_times_b1 at h
  refine W_seq ?_
  refine R [] [(1, .v 0 (.slice (.int .u32)) p1), (5, .v 9 (.slice (.int .u32)) x4), (17, .v 0 (.slice (.int .u32)) p0), (18, .v 0 (.int .i64) (p0.length : Int)), (19, .v 0 (.int .i64) x5), (20, .v 0 .bool (decide (x5 < (p0.length : Int))))] pz ?_
  refine W_seq ?_
  refine C h (fun h => ?_) fun h => ?_
  · refine W_skip (W_seq ?_)
    refine J1 h (nat_times_j2 x5) (fun x6 => [(1, .v 0 (.slice (.int .u32)) p1), (5, .v 9 (.slice (.int .u32)) x6), (17, .v 0 (.slice (.int .u32)) p0), (18, .v 0 (.int .i64) (p0.length : Int)), (19, .v 0 (.int .i64) x5)]) (fun x6 h => ?_) fun j2 => ?_
    · unfold nat_times_j2 at h
      refine R1 h [] (fun x7 => [(1, .v 0 (.slice (.int .u32)) p1), (5, .v 9 (.slice (.int .u32)) x6), (17, .v 0 (.slice (.int .u32)) p0), (18, .v 0 (.int .i64) (p0.length : Int)), (19, .v 0 (.int .i64) x7)]) pz fun x7 h => ?_
      exact B h
    refine W_block (W_seq ?_)
    obtain ⟨o1, h⟩ := h.ass
    refine R1 h [] (fun x8 => [(1, .v 0 (.slice (.int .u32)) p1), (5, .v 9 (.slice (.int .u32)) x4), (6, .v 0 (.int .i64) x5), (7, .v 0 (.int .u32) x8), (17, .v 0 (.slice (.int .u32)) p0), (18, .v 0 (.int .i64) (p0.length : Int)), (19, .v 0 (.int .i64) x5)]) (ps o1) fun x8 h => ?_
    refine W_seq ?_
    refine R [] [(1, .v 0 (.slice (.int .u32)) p1), (5, .v 9 (.slice (.int .u32)) x4), (6, .v 0 (.int .i64) x5), (7, .v 0 (.int .u32) x8), (8, .v 0 (.int .u64) (0 : Int)), (17, .v 0 (.slice (.int .u32)) p0), (18, .v 0 (.int .i64) (p0.length : Int)), (19, .v 0 (.int .i64) x5)] pz ?_
    refine W_seq (W_seq ?_)
    refine R [] [(1, .v 0 (.slice (.int .u32)) p1), (5, .v 9 (.slice (.int .u32)) x4), (6, .v 0 (.int .i64) x5), (7, .v 0 (.int .u32) x8), (8, .v 0 (.int .u64) (0 : Int)), (17, .v 0 (.slice (.int .u32)) p0), (18, .v 0 (.int .i64) (p0.length : Int)), (19, .v 0 (.int .i64) x5), (24, .v 0 (.slice (.int .u32)) p1), (25, .v 0 (.int .i64) (p1.length : Int)), (26, .v 0 (.int .i64) (0 : Int))] pz ?_
    refine J2 h (nat_times_j3 p1 x5) (fun x9 x10 => [(1, .v 0 (.slice (.int .u32)) p1), (5, .v 9 (.slice (.int .u32)) x9), (6, .v 0 (.int .i64) x5), (8, .v 0 (.int .u64) x10), (17, .v 0 (.slice (.int .u32)) p0), (18, .v 0 (.int .i64) (p0.length : Int)), (19, .v 0 (.int .i64) x5)]) (fun x9 x10 h => ?_) fun j3 => ?_
    · unfold nat_times_j3 at h
      obtain ⟨o1, h⟩ := h.ass
      refine R1 h [] (fun x11 => [(1, .v 0 (.slice (.int .u32)) p1), (5, .v 9 (.slice (.int .u32)) x11), (17, .v 0 (.slice (.int .u32)) p0), (18, .v 0 (.int .i64) (p0.length : Int)), (19, .v 0 (.int .i64) x5)]) (ps o1) fun x11 h => ?_
      refine W_blk ?_
      exact K (j2 x11 h)
    refine W_block ?_
    refine L3 h (fun x12 x13 x14 => [(1, .v 0 (.slice (.int .u32)) p1), (5, .v 9 (.slice (.int .u32)) x12), (6, .v 0 (.int .i64) x5), (7, .v 0 (.int .u32) x8), (8, .v 0 (.int .u64) x13), (17, .v 0 (.slice (.int .u32)) p0), (18, .v 0 (.int .i64) (p0.length : Int)), (19, .v 0 (.int .i64) x5), (24, .v 0 (.slice (.int .u32)) p1), (25, .v 0 (.int .i64) (p1.length : Int)), (26, .v 0 (.int .i64) x14)]) fun x12 x13 x14 _ h => ?_
    unfold nat_times_b2 at h
    refine W_seq ?_
    refine R [] [(1, .v 0 (.slice (.int .u32)) p1), (5, .v 9 (.slice (.int .u32)) x12), (6, .v 0 (.int .i64) x5), (7, .v 0 (.int .u32) x8), (8, .v 0 (.int .u64) x13), (17, .v 0 (.slice (.int .u32)) p0), (18, .v 0 (.int .i64) (p0.length : Int)), (19, .v 0 (.int .i64) x5), (24, .v 0 (.slice (.int .u32)) p1), (25, .v 0 (.int .i64) (p1.length : Int)), (26, .v 0 (.int .i64) x14), (27, .v 0 .bool (decide (x14 < (p1.length : Int))))] pz ?_
    refine W_seq ?_
    refine C h (fun h => ?_) fun h => ?_
    · refine W_skip (W_seq (W_block (W_seq ?_)))
      obtain ⟨o1, h⟩ := h.ass
      refine R1 h [] (fun x15 => [(1, .v 0 (.slice (.int .u32)) p1), (5, .v 9 (.slice (.int .u32)) x12), (6, .v 0 (.int .i64) x5), (7, .v 0 (.int .u32) x8), (8, .v 0 (.int .u64) x13), (9, .v 0 (.int .i64) x14), (10, .v 0 (.int .u32) x15), (17, .v 0 (.slice (.int .u32)) p0), (18, .v 0 (.int .i64) (p0.length : Int)), (19, .v 0 (.int .i64) x5), (24, .v 0 (.slice (.int .u32)) p1), (25, .v 0 (.int .i64) (p1.length : Int)), (26, .v 0 (.int .i64) x14)]) (ps o1) fun x15 h => ?_
      refine W_seq ?_
      obtain ⟨o1, h⟩ := h.ass
      refine R1 h [] (fun x16 => [(1, .v 0 (.slice (.int .u32)) p1), (5, .v 9 (.slice (.int .u32)) x12), (6, .v 0 (.int .i64) x5), (7, .v 0 (.int .u32) x8), (8, .v 0 (.int .u64) x16), (9, .v 0 (.int .i64) x14), (17, .v 0 (.slice (.int .u32)) p0), (18, .v 0 (.int .i64) (p0.length : Int)), (19, .v 0 (.int .i64) x5), (24, .v 0 (.slice (.int .u32)) p1), (25, .v 0 (.int .i64) (p1.length : Int)), (26, .v 0 (.int .i64) x14)]) (ps o1) fun x16 h => ?_
      refine W_seq ?_
      obtain ⟨o1, h⟩ := h.ass
      refine R1 h [] (fun x17 => [(1, .v 0 (.slice (.int .u32)) p1), (5, .v 9 (.slice (.int .u32)) x17), (6, .v 0 (.int .i64) x5), (7, .v 0 (.int .u32) x8), (8, .v 0 (.int .u64) x16), (17, .v 0 (.slice (.int .u32)) p0), (18, .v 0 (.int .i64) (p0.length : Int)), (19, .v 0 (.int .i64) x5), (24, .v 0 (.slice (.int .u32)) p1), (25, .v 0 (.int .i64) (p1.length : Int)), (26, .v 0 (.int .i64) x14)]) (ps o1) fun x17 h => ?_
      obtain ⟨o1, h⟩ := h.ass
      refine R1 h [] (fun x18 => [(1, .v 0 (.slice (.int .u32)) p1), (5, .v 9 (.slice (.int .u32)) x17), (6, .v 0 (.int .i64) x5), (7, .v 0 (.int .u32) x8), (8, .v 0 (.int .u64) x18), (17, .v 0 (.slice (.int .u32)) p0), (18, .v 0 (.int .i64) (p0.length : Int)), (19, .v 0 (.int .i64) x5), (24, .v 0 (.slice (.int .u32)) p1), (25, .v 0 (.int .i64) (p1.length : Int)), (26, .v 0 (.int .i64) x14)]) (ps o1) fun x18 h => ?_
      refine W_blk ?_
      refine R1 h [] (fun x19 => [(1, .v 0 (.slice (.int .u32)) p1), (5, .v 9 (.slice (.int .u32)) x17), (6, .v 0 (.int .i64) x5), (7, .v 0 (.int .u32) x8), (8, .v 0 (.int .u64) x18), (17, .v 0 (.slice (.int .u32)) p0), (18, .v 0 (.int .i64) (p0.length : Int)), (19, .v 0 (.int .i64) x5), (24, .v 0 (.slice (.int .u32)) p1), (25, .v 0 (.int .i64) (p1.length : Int)), (26, .v 0 (.int .i64) x19)]) pz fun x19 h => ?_
      exact B h
    refine W_exit rfl ?_
    exact K (j3 x12 x13 h.back)
  refine W_exit rfl ?_
  exact K (j1 x4 h.back)

def nat_Mul_j1 (x2 : List Int) : Option (List Int) :=
  some x2
def nat_Mul_b1 (p0 : List (List Int)) (x3 : List Int) (x4 : Int) : Option (((List Int) × Int) ⊕ (List Int)) :=
  bif decide (x4 < (p0.length : Int)) then
    ass (0 ≤ x4 ∧ x4 < (p0.length : Int)) <|
    bnd (rd ([] : List Int) p0 x4) fun x5 =>
    (nat_times x3 x5).bind fun y6 =>
    bnd (i64.wrap (x4 + 1)) fun x7 =>
    some (.inl (y6, x7))
  else
  (nat_Mul_j1 x3).map .inr
def nat_Mul (p0 : List (List Int)) : Option (List Int) :=
  (nat_Of (1 : Int)).bind fun y1 =>
  loopM (fun x : (List Int) × Int => nat_Mul_b1 p0 x.1 x.2) (y1, (0 : Int))
theorem nat_Mul.ok {p0 : List (List Int)} {r : List Int} (h : nat_Mul p0 = some r) : ACall prog 99 [⟨.slice (.slice (.int .u32)), p0⟩] [⟨9, .slice (.int .u32), r⟩] := by
  replace h := Leads.of h
  unfold nat_Mul at h
  refine AC func99 rfl fun w0 F0 hw0 => ?_
  refine W_seq ?_
  refine R [] [(0, .v 0 (.slice (.slice (.int .u32))) p0)] pz ?_
  refine W_seq ?_
  obtain ⟨y1, ey1, h⟩ := h.bind
  refine R [.res [(9, ⟨9, .slice (.int .u32), y1⟩)]] [(0, .v 0 (.slice (.slice (.int .u32))) p0), (3, .v 9 (.slice (.int .u32)) y1)] (ps (nat_Of.ok ey1)) ?_
  refine W_seq (W_seq ?_)
  refine R [] [(3, .v 9 (.slice (.int .u32)) y1), (7, .v 0 (.slice (.slice (.int .u32))) p0), (8, .v 0 (.int .i64) (p0.length : Int)), (9, .v 0 (.int .i64) (0 : Int))] pz ?_
  refine J1 h nat_Mul_j1 (fun x2 => [(3, .v 9 (.slice (.int .u32)) x2)]) (fun x2 h => ?_) fun j1 => ?_
  · unfold nat_Mul_j1 at h
    refine W_seq ?_
    refine R [] [(2, .v 9 (.slice (.int .u32)) x2)] pz ?_
    cases h
    exact Rt hw0
  refine W_block ?_
  refine L2 h (fun x3 x4 => [(3, .v 9 (.slice (.int .u32)) x3), (7, .v 0 (.slice (.slice (.int .u32))) p0), (8, .v 0 (.int .i64) (p0.length : Int)), (9, .v 0 (.int .i64) x4)]) fun x3 x4 _ h => ?_
  unfold nat_Mul_b1 at h
  refine W_seq ?_
  refine R [] [(3, .v 9 (.slice (.int .u32)) x3), (7, .v 0 (.slice (.slice (.int .u32))) p0), (8, .v 0 (.int .i64) (p0.length : Int)), (9, .v 0 (.int .i64) x4), (10, .v 0 .bool (decide (x4 < (p0.length : Int))))] pz ?_
  refine W_seq ?_
  refine C h (fun h => ?_) fun h => ?_
  · refine W_skip (W_seq (W_block (W_seq ?_)))
    obtain ⟨o1, h⟩ := h.ass
    refine R1 h [] (fun x5 => [(3, .v 9 (.slice (.int .u32)) x3), (5, .v 0 (.slice (.int .u32)) x5), (7, .v 0 (.slice (.slice (.int .u32))) p0), (8, .v 0 (.int .i64) (p0.length : Int)), (9, .v 0 (.int .i64) x4)]) (ps o1) fun x5 h => ?_
    obtain ⟨y6, ey6, h⟩ := h.bind
    refine R [.res [(9, ⟨9, .slice (.int .u32), y6⟩)]] [(3, .v 9 (.slice (.int .u32)) y6), (7, .v 0 (.slice (.slice (.int .u32))) p0), (8, .v 0 (.int .i64) (p0.length : Int)), (9, .v 0 (.int .i64) x4)] (ps (nat_times.ok ey6)) ?_
    refine W_blk ?_
    refine R1 h [] (fun x7 => [(3, .v 9 (.slice (.int .u32)) y6), (7, .v 0 (.slice (.slice (.int .u32))) p0), (8, .v 0 (.int .i64) (p0.length : Int)), (9, .v 0 (.int .i64) x7)]) pz fun x7 h => ?_
    exact B h
  refine W_exit rfl ?_
  exact K (j1 x3 h.back)

def ratio_Mul_j1 (x3 : D_api_Ratio) : Option (D_api_Ratio) :=
  some x3
def ratio_Mul_b1 (p0 : List D_api_Ratio) (x4 : D_api_Ratio) (x5 : Int) : Option ((D_api_Ratio × Int) ⊕ D_api_Ratio) :=
  bif decide (x5 < (p0.length : Int)) then
    ass (0 ≤ x5 ∧ x5 < (p0.length : Int)) <|
    bnd (rd z_api_Ratio p0 x5) fun x6 =>
    (nat_Mul [x4.1, x6.1]).bind fun y7 =>
    (nat_Mul [x4.2, x6.2]).bind fun y8 =>
    (ratio_Make y7 y8).bind fun y9 =>
    bnd (i64.wrap (x5 + 1)) fun x10 =>
    some (.inl (y9.1, x10))
  else
  (ratio_Mul_j1 x4).map .inr
def ratio_Mul (p0 : List D_api_Ratio) : Option D_api_Ratio :=
  bnd ((([] : List Int), ([] : List Int))) fun x1 =>
  (ratio_one).bind fun y2 =>
  loopM (fun x : D_api_Ratio × Int => ratio_Mul_b1 p0 x.1 x.2) (y2, (0 : Int))
theorem ratio_Mul.ok {p0 : List D_api_Ratio} {r : D_api_Ratio} (h : ratio_Mul p0 = some r) : ACall prog 73 [⟨.slice T_api_Ratio, p0⟩] [⟨0, T_api_Ratio, r⟩] := by
  replace h := Leads.of h
  unfold ratio_Mul at h
  refine AC func73 rfl fun w0 F0 hw0 => ?_
  refine W_seq ?_
  refine R1 h [] (fun x1 => [(0, .v 0 (.slice T_api_Ratio) p0), (2, .box 9 T_api_Ratio x1)]) pz fun x1 h => ?_
  refine W_seq ?_
  obtain ⟨y2, ey2, h⟩ := h.bind
  refine R [.res [(0, ⟨0, T_api_Ratio, y2⟩)]] [(0, .v 0 (.slice T_api_Ratio) p0), (2, .box 9 T_api_Ratio x1), (3, .box 0 T_api_Ratio y2)] (ps (ratio_one.ok ey2)) ?_
  refine W_seq (W_seq ?_)
  refine R [] [(2, .box 9 T_api_Ratio x1), (3, .box 0 T_api_Ratio y2), (7, .v 0 (.slice T_api_Ratio) p0), (8, .v 0 (.int .i64) (p0.length : Int)), (9, .v 0 (.int .i64) (0 : Int))] pz ?_
  refine J1 h ratio_Mul_j1 (fun x3 => [(2, .box 9 T_api_Ratio x1), (3, .box 0 T_api_Ratio x3)]) (fun x3 h => ?_) fun j1 => ?_
  · unfold ratio_Mul_j1 at h
    refine W_seq ?_
    refine R [] [(2, .box 0 T_api_Ratio x3)] pz ?_
    cases h
    exact Rt hw0
  refine W_block ?_
  refine L2 h (fun x4 x5 => [(2, .box 9 T_api_Ratio x1), (3, .box 0 T_api_Ratio x4), (7, .v 0 (.slice T_api_Ratio) p0), (8, .v 0 (.int .i64) (p0.length : Int)), (9, .v 0 (.int .i64) x5)]) fun x4 x5 _ h => ?_
  unfold ratio_Mul_b1 at h
  refine W_seq ?_
  refine R [] [(2, .box 9 T_api_Ratio x1), (3, .box 0 T_api_Ratio x4), (7, .v 0 (.slice T_api_Ratio) p0), (8, .v 0 (.int .i64) (p0.length : Int)), (9, .v 0 (.int .i64) x5), (10, .v 0 .bool (decide (x5 < (p0.length : Int))))] pz ?_
  refine W_seq ?_
  refine C h (fun h => ?_) fun h => ?_
  · refine W_skip (W_seq (W_block (W_seq ?_)))
    obtain ⟨o1, h⟩ := h.ass
    refine R1 h [] (fun x6 => [(2, .box 9 T_api_Ratio x1), (3, .box 0 T_api_Ratio x4), (5, .box 0 T_api_Ratio x6), (7, .v 0 (.slice T_api_Ratio) p0), (8, .v 0 (.int .i64) (p0.length : Int)), (9, .v 0 (.int .i64) x5)]) (ps o1) fun x6 h => ?_
    obtain ⟨y7, ey7, h⟩ := h.bind
    obtain ⟨y8, ey8, h⟩ := h.bind
    obtain ⟨y9, ey9, h⟩ := h.bind
    refine RL [.res [(0, ⟨9, .slice (.int .u32), y7⟩)], .res [(0, ⟨9, .slice (.int .u32), y8⟩)], .res [(0, ⟨0, T_api_Ratio, y9.1⟩), (0, ⟨0, .bool, y9.2⟩)]] [(2, .box 9 T_api_Ratio x1), (3, .box 0 T_api_Ratio y9.1), (7, .v 0 (.slice T_api_Ratio) p0), (8, .v 0 (.int .i64) (p0.length : Int)), (9, .v 0 (.int .i64) x5)] (pc (nat_Mul.ok ey7) (pc (nat_Mul.ok ey8) (pc (ratio_Make.ok ey9) (ps (rfl : (⟨.bool, y9.2⟩ : TV) = ⟨.bool, y9.2⟩))))) ?_
    refine W_blk ?_
    refine R1 h [] (fun x10 => [(2, .box 9 T_api_Ratio x1), (3, .box 0 T_api_Ratio y9.1), (7, .v 0 (.slice T_api_Ratio) p0), (8, .v 0 (.int .i64) (p0.length : Int)), (9, .v 0 (.int .i64) x10)]) pz fun x10 h => ?_
    exact B h
  refine W_exit rfl ?_
  exact K (j1 x4 h.back)

def nat_plus_j1 (x2 : List Int) : Option (List Int) :=
  (nat_Cut x2).bind fun y3 =>
  some y3
def nat_plus_b1 (p0 : List Int) (p1 : List Int) (x1 : Int) (x4 : List Int) (x5 : Int) (x6 : Int) : Option (((List Int) × Int × Int) ⊕ (List Int)) :=
  bif decide (x6 < x1) then
    (nat_at p0 x6).bind fun y7 =>
    (nat_at p1 x6).bind fun y8 =>
    bnd (u64.wrap (x5 + (u64.wrap ((u64.wrap y7) + (u64.wrap y8))))) fun x9 =>
    ass (((x4.length + [u32.wrap x9].length : Nat) : Int) ≤ limA) <|
    bnd (x4 ++ [u32.wrap x9]) fun x10 =>
    ass (0 ≤ (32 : Int)) <|
    bnd (x9.fdiv (2 ^ (min (32 : Int).toNat u64.bits))) fun x11 =>
    bnd (i64.wrap (x6 + 1)) fun x12 =>
    some (.inl (x10, x11, x12))
  else
  (nat_plus_j1 x4).map .inr
def nat_plus (p0 : List Int) (p1 : List Int) : Option (List Int) :=
  bnd (i64.wrap ((if (p1.length : Int) > (p0.length : Int) then (p1.length : Int) else (p0.length : Int)) + 1)) fun x1 =>
  loopM (fun x : (List Int) × Int × Int => nat_plus_b1 p0 p1 x1 x.1 x.2.1 x.2.2) (([] : List Int), (0 : Int), (0 : Int))
theorem nat_plus.ok {p0 : List Int} {p1 : List Int} {r : List Int} (h : nat_plus p0 p1 = some r) : ACall prog 153 [⟨.slice (.int .u32), p0⟩, ⟨.slice (.int .u32), p1⟩] [⟨9, .slice (.int .u32), r⟩] := by
  replace h := Leads.of h
  unfold nat_plus at h
  refine AC func153 rfl fun w0 F0 hw0 => ?_
  refine W_seq ?_
  refine R [] [(0, .v 0 (.slice (.int .u32)) p0), (1, .v 0 (.slice (.int .u32)) p1)] pz ?_
  refine W_seq ?_
  refine R [] [(0, .v 0 (.slice (.int .u32)) p0), (1, .v 0 (.slice (.int .u32)) p1), (5, .v 9 (.slice (.int .u32)) ([] : List Int))] pz ?_
  refine W_seq ?_
  refine R [] [(0, .v 0 (.slice (.int .u32)) p0), (1, .v 0 (.slice (.int .u32)) p1), (5, .v 9 (.slice (.int .u32)) ([] : List Int)), (6, .v 0 (.int .u64) (0 : Int))] pz ?_
  refine W_seq (W_seq ?_)
  refine R1 h [] (fun x1 => [(0, .v 0 (.slice (.int .u32)) p0), (1, .v 0 (.slice (.int .u32)) p1), (5, .v 9 (.slice (.int .u32)) ([] : List Int)), (6, .v 0 (.int .u64) (0 : Int)), (13, .v 0 (.int .i64) x1), (14, .v 0 (.int .i64) (0 : Int))]) pz fun x1 h => ?_
  refine J1 h nat_plus_j1 (fun x2 => [(5, .v 9 (.slice (.int .u32)) x2)]) (fun x2 h => ?_) fun j1 => ?_
  · unfold nat_plus_j1 at h
    refine W_seq ?_
    obtain ⟨y3, ey3, h⟩ := h.bind
    refine R [.res [(9, ⟨9, .slice (.int .u32), y3⟩)]] [(4, .v 9 (.slice (.int .u32)) y3)] (ps (nat_Cut.ok ey3)) ?_
    cases h
    exact Rt hw0
  refine W_block ?_
  refine L3 h (fun x4 x5 x6 => [(0, .v 0 (.slice (.int .u32)) p0), (1, .v 0 (.slice (.int .u32)) p1), (5, .v 9 (.slice (.int .u32)) x4), (6, .v 0 (.int .u64) x5), (13, .v 0 (.int .i64) x1), (14, .v 0 (.int .i64) x6)]) fun x4 x5 x6 _ h => ?_
  unfold nat_plus_b1 at h
  refine W_seq ?_
  refine R [] [(0, .v 0 (.slice (.int .u32)) p0), (1, .v 0 (.slice (.int .u32)) p1), (5, .v 9 (.slice (.int .u32)) x4), (6, .v 0 (.int .u64) x5), (13, .v 0 (.int .i64) x1), (14, .v 0 (.int .i64) x6), (15, .v 0 .bool (decide (x6 < x1)))] pz ?_
  refine W_seq ?_
  refine C h (fun h => ?_) fun h => ?_
  · refine W_skip (W_seq (W_block (W_seq ?_)))
    refine R [] [(0, .v 0 (.slice (.int .u32)) p0), (1, .v 0 (.slice (.int .u32)) p1), (5, .v 9 (.slice (.int .u32)) x4), (6, .v 0 (.int .u64) x5), (7, .v 0 (.int .i64) x6), (13, .v 0 (.int .i64) x1), (14, .v 0 (.int .i64) x6)] pz ?_
    refine W_seq ?_
    obtain ⟨y7, ey7, h⟩ := h.bind
    obtain ⟨y8, ey8, h⟩ := h.bind
    refine R1 h [.res [(0, ⟨0, .int .u32, y7⟩)], .res [(0, ⟨0, .int .u32, y8⟩)]] (fun x9 => [(0, .v 0 (.slice (.int .u32)) p0), (1, .v 0 (.slice (.int .u32)) p1), (5, .v 9 (.slice (.int .u32)) x4), (6, .v 0 (.int .u64) x9), (13, .v 0 (.int .i64) x1), (14, .v 0 (.int .i64) x6)]) (pc (nat_at.ok ey7) (ps (nat_at.ok ey8))) fun x9 h => ?_
    refine W_seq ?_
    obtain ⟨o1, h⟩ := h.ass
    refine R1 h [] (fun x10 => [(0, .v 0 (.slice (.int .u32)) p0), (1, .v 0 (.slice (.int .u32)) p1), (5, .v 9 (.slice (.int .u32)) x10), (6, .v 0 (.int .u64) x9), (13, .v 0 (.int .i64) x1), (14, .v 0 (.int .i64) x6)]) (ps o1) fun x10 h => ?_
    obtain ⟨o1, h⟩ := h.ass
    refine R1 h [] (fun x11 => [(0, .v 0 (.slice (.int .u32)) p0), (1, .v 0 (.slice (.int .u32)) p1), (5, .v 9 (.slice (.int .u32)) x10), (6, .v 0 (.int .u64) x11), (13, .v 0 (.int .i64) x1), (14, .v 0 (.int .i64) x6)]) (ps o1) fun x11 h => ?_
    refine W_blk ?_
    refine R1 h [] (fun x12 => [(0, .v 0 (.slice (.int .u32)) p0), (1, .v 0 (.slice (.int .u32)) p1), (5, .v 9 (.slice (.int .u32)) x10), (6, .v 0 (.int .u64) x11), (13, .v 0 (.int .i64) x1), (14, .v 0 (.int .i64) x12)]) pz fun x12 h => ?_
    exact B h
  refine W_exit rfl ?_
  exact K (j1 x4 h.back)

def nat_Add_j1 (x1 : List Int) : Option (List Int) :=
  some x1
def nat_Add_b1 (p0 : List (List Int)) (x2 : List Int) (x3 : Int) : Option (((List Int) × Int) ⊕ (List Int)) :=
  bif decide (x3 < (p0.length : Int)) then
    ass (0 ≤ x3 ∧ x3 < (p0.length : Int)) <|
    bnd (rd ([] : List Int) p0 x3) fun x4 =>
    (nat_plus x2 x4).bind fun y5 =>
    bnd (i64.wrap (x3 + 1)) fun x6 =>
    some (.inl (y5, x6))
  else
  (nat_Add_j1 x2).map .inr
def nat_Add (p0 : List (List Int)) : Option (List Int) :=
  loopM (fun x : (List Int) × Int => nat_Add_b1 p0 x.1 x.2) (([] : List Int), (0 : Int))
theorem nat_Add.ok {p0 : List (List Int)} {r : List Int} (h : nat_Add p0 = some r) : ACall prog 125 [⟨.slice (.slice (.int .u32)), p0⟩] [⟨9, .slice (.int .u32), r⟩] := by
  replace h := Leads.of h
  unfold nat_Add at h
  refine AC func125 rfl fun w0 F0 hw0 => ?_
  refine W_seq ?_
  refine R [] [(0, .v 0 (.slice (.slice (.int .u32))) p0)] pz ?_
  refine W_seq ?_
  refine R [] [(0, .v 0 (.slice (.slice (.int .u32))) p0), (3, .v 9 (.slice (.int .u32)) ([] : List Int))] pz ?_
  refine W_seq (W_seq ?_)
  refine R [] [(3, .v 9 (.slice (.int .u32)) ([] : List Int)), (6, .v 0 (.slice (.slice (.int .u32))) p0), (7, .v 0 (.int .i64) (p0.length : Int)), (8, .v 0 (.int .i64) (0 : Int))] pz ?_
  refine J1 h nat_Add_j1 (fun x1 => [(3, .v 9 (.slice (.int .u32)) x1)]) (fun x1 h => ?_) fun j1 => ?_
  · unfold nat_Add_j1 at h
    refine W_seq ?_
    refine R [] [(2, .v 9 (.slice (.int .u32)) x1)] pz ?_
    cases h
    exact Rt hw0
  refine W_block ?_
  refine L2 h (fun x2 x3 => [(3, .v 9 (.slice (.int .u32)) x2), (6, .v 0 (.slice (.slice (.int .u32))) p0), (7, .v 0 (.int .i64) (p0.length : Int)), (8, .v 0 (.int .i64) x3)]) fun x2 x3 _ h => ?_
  unfold nat_Add_b1 at h
  refine W_seq ?_
  refine R [] [(3, .v 9 (.slice (.int .u32)) x2), (6, .v 0 (.slice (.slice (.int .u32))) p0), (7, .v 0 (.int .i64) (p0.length : Int)), (8, .v 0 (.int .i64) x3), (9, .v 0 .bool (decide (x3 < (p0.length : Int))))] pz ?_
  refine W_seq ?_
  refine C h (fun h => ?_) fun h => ?_
  · refine W_skip (W_seq (W_block (W_seq ?_)))
    obtain ⟨o1, h⟩ := h.ass
    refine R1 h [] (fun x4 => [(3, .v 9 (.slice (.int .u32)) x2), (5, .v 0 (.slice (.int .u32)) x4), (6, .v 0 (.slice (.slice (.int .u32))) p0), (7, .v 0 (.int .i64) (p0.length : Int)), (8, .v 0 (.int .i64) x3)]) (ps o1) fun x4 h => ?_
    obtain ⟨y5, ey5, h⟩ := h.bind
    refine R [.res [(9, ⟨9, .slice (.int .u32), y5⟩)]] [(3, .v 9 (.slice (.int .u32)) y5), (6, .v 0 (.slice (.slice (.int .u32))) p0), (7, .v 0 (.int .i64) (p0.length : Int)), (8, .v 0 (.int .i64) x3)] (ps (nat_plus.ok ey5)) ?_
    refine W_blk ?_
    refine R1 h [] (fun x6 => [(3, .v 9 (.slice (.int .u32)) y5), (6, .v 0 (.slice (.slice (.int .u32))) p0), (7, .v 0 (.int .i64) (p0.length : Int)), (8, .v 0 (.int .i64) x6)]) pz fun x6 h => ?_
    exact B h
  refine W_exit rfl ?_
  exact K (j1 x2 h.back)

def ratio_plus (p0 : D_api_Ratio) (p1 : D_api_Ratio) : Option D_api_Ratio :=
  bnd ((([] : List Int), ([] : List Int))) fun x1 =>
  (nat_Mul [p0.1, p1.2]).bind fun y2 =>
  (nat_Mul [p1.1, p0.2]).bind fun y3 =>
  (nat_Add [y2, y3]).bind fun y4 =>
  (nat_Mul [p0.2, p1.2]).bind fun y5 =>
  (ratio_Make y4 y5).bind fun y6 =>
  some y6.1
theorem ratio_plus.ok {p0 : D_api_Ratio} {p1 : D_api_Ratio} {r : D_api_Ratio} (h : ratio_plus p0 p1 = some r) : ACall prog 90 [⟨T_api_Ratio, p0⟩, ⟨T_api_Ratio, p1⟩] [⟨0, T_api_Ratio, r⟩] := by
  replace h := Leads.of h
  unfold ratio_plus at h
  refine AC func90 rfl fun w0 F0 hw0 => ?_
  refine W_seq ?_
  refine R1 h [] (fun x1 => [(2, .box 0 T_api_Ratio p0), (3, .box 0 T_api_Ratio p1), (4, .box 9 T_api_Ratio x1)]) pz fun x1 h => ?_
  refine W_seq ?_
  obtain ⟨y2, ey2, h⟩ := h.bind
  obtain ⟨y3, ey3, h⟩ := h.bind
  obtain ⟨y4, ey4, h⟩ := h.bind
  obtain ⟨y5, ey5, h⟩ := h.bind
  obtain ⟨y6, ey6, h⟩ := h.bind
  refine RL [.res [(0, ⟨9, .slice (.int .u32), y2⟩)], .res [(0, ⟨9, .slice (.int .u32), y3⟩)], .res [(0, ⟨9, .slice (.int .u32), y4⟩)], .res [(0, ⟨9, .slice (.int .u32), y5⟩)], .res [(0, ⟨0, T_api_Ratio, y6.1⟩), (0, ⟨0, .bool, y6.2⟩)]] [(4, .box 9 T_api_Ratio x1), (5, .box 0 T_api_Ratio y6.1)] (pc (nat_Mul.ok ey2) (pc (nat_Mul.ok ey3) (pc (nat_Add.ok ey4) (pc (nat_Mul.ok ey5) (pc (ratio_Make.ok ey6) (ps (rfl : (⟨.bool, y6.2⟩ : TV) = ⟨.bool, y6.2⟩))))))) ?_
  refine W_seq ?_
  refine R [] [(4, .box 0 T_api_Ratio y6.1)] pz ?_
  cases h
  exact Rt hw0

def ratio_Add_j1 (x3 : D_api_Ratio) : Option (D_api_Ratio) :=
  some x3
def ratio_Add_b1 (p0 : List D_api_Ratio) (x4 : D_api_Ratio) (x5 : Int) : Option ((D_api_Ratio × Int) ⊕ D_api_Ratio) :=
  bif decide (x5 < (p0.length : Int)) then
    ass (0 ≤ x5 ∧ x5 < (p0.length : Int)) <|
    bnd (rd z_api_Ratio p0 x5) fun x6 =>
    (ratio_plus x4 x6).bind fun y7 =>
    bnd (i64.wrap (x5 + 1)) fun x8 =>
    some (.inl (y7, x8))
  else
  (ratio_Add_j1 x4).map .inr
def ratio_Add (p0 : List D_api_Ratio) : Option D_api_Ratio :=
  bnd ((([] : List Int), ([] : List Int))) fun x1 =>
  (ratio_Zero).bind fun y2 =>
  loopM (fun x : D_api_Ratio × Int => ratio_Add_b1 p0 x.1 x.2) (y2, (0 : Int))
theorem ratio_Add.ok {p0 : List D_api_Ratio} {r : D_api_Ratio} (h : ratio_Add p0 = some r) : ACall prog 45 [⟨.slice T_api_Ratio, p0⟩] [⟨0, T_api_Ratio, r⟩] := by
  replace h := Leads.of h
  unfold ratio_Add at h
  refine AC func45 rfl fun w0 F0 hw0 => ?_
  refine W_seq ?_
  refine R1 h [] (fun x1 => [(0, .v 0 (.slice T_api_Ratio) p0), (2, .box 9 T_api_Ratio x1)]) pz fun x1 h => ?_
  refine W_seq ?_
  obtain ⟨y2, ey2, h⟩ := h.bind
  refine R [.res [(0, ⟨0, T_api_Ratio, y2⟩)]] [(0, .v 0 (.slice T_api_Ratio) p0), (2, .box 9 T_api_Ratio x1), (3, .box 0 T_api_Ratio y2)] (ps (ratio_Zero.ok ey2)) ?_
  refine W_seq (W_seq ?_)
  refine R [] [(2, .box 9 T_api_Ratio x1), (3, .box 0 T_api_Ratio y2), (7, .v 0 (.slice T_api_Ratio) p0), (8, .v 0 (.int .i64) (p0.length : Int)), (9, .v 0 (.int .i64) (0 : Int))] pz ?_
  refine J1 h ratio_Add_j1 (fun x3 => [(2, .box 9 T_api_Ratio x1), (3, .box 0 T_api_Ratio x3)]) (fun x3 h => ?_) fun j1 => ?_
  · unfold ratio_Add_j1 at h
    refine W_seq ?_
    refine R [] [(2, .box 0 T_api_Ratio x3)] pz ?_
    cases h
    exact Rt hw0
  refine W_block ?_
  refine L2 h (fun x4 x5 => [(2, .box 9 T_api_Ratio x1), (3, .box 0 T_api_Ratio x4), (7, .v 0 (.slice T_api_Ratio) p0), (8, .v 0 (.int .i64) (p0.length : Int)), (9, .v 0 (.int .i64) x5)]) fun x4 x5 _ h => ?_
  unfold ratio_Add_b1 at h
  refine W_seq ?_
  refine R [] [(2, .box 9 T_api_Ratio x1), (3, .box 0 T_api_Ratio x4), (7, .v 0 (.slice T_api_Ratio) p0), (8, .v 0 (.int .i64) (p0.length : Int)), (9, .v 0 (.int .i64) x5), (10, .v 0 .bool (decide (x5 < (p0.length : Int))))] pz ?_
  refine W_seq ?_
  refine C h (fun h => ?_) fun h => ?_
  · refine W_skip (W_seq (W_block (W_seq ?_)))
    obtain ⟨o1, h⟩ := h.ass
    refine R1 h [] (fun x6 => [(2, .box 9 T_api_Ratio x1), (3, .box 0 T_api_Ratio x4), (5, .box 0 T_api_Ratio x6), (7, .v 0 (.slice T_api_Ratio) p0), (8, .v 0 (.int .i64) (p0.length : Int)), (9, .v 0 (.int .i64) x5)]) (ps o1) fun x6 h => ?_
    obtain ⟨y7, ey7, h⟩ := h.bind
    refine R [.res [(0, ⟨0, T_api_Ratio, y7⟩)]] [(2, .box 9 T_api_Ratio x1), (3, .box 0 T_api_Ratio y7), (7, .v 0 (.slice T_api_Ratio) p0), (8, .v 0 (.int .i64) (p0.length : Int)), (9, .v 0 (.int .i64) x5)] (ps (ratio_plus.ok ey7)) ?_
    refine W_blk ?_
    refine R1 h [] (fun x8 => [(2, .box 9 T_api_Ratio x1), (3, .box 0 T_api_Ratio y7), (7, .v 0 (.slice T_api_Ratio) p0), (8, .v 0 (.int .i64) (p0.length : Int)), (9, .v 0 (.int .i64) x8)]) pz fun x8 h => ?_
    exact B h
  refine W_exit rfl ?_
  exact K (j1 x4 h.back)

def worth_reckon_j3 (x10 : List D_api_Ratio) (x11 : List D_api_Ratio) : Option ((List D_api_Ratio) × (List D_api_Ratio)) :=
  some (x10, x11)
def worth_reckon_j4 (x14 : Int) (x15 : List D_api_Ratio) (x16 : List D_api_Ratio) : Option (((List D_api_Ratio) × (List D_api_Ratio) × Int) ⊕ ((List D_api_Ratio) × (List D_api_Ratio))) :=
  bnd (i64.wrap (x14 + 1)) fun x17 =>
  some (.inl (x15, x16, x17))
def worth_reckon_j5 (x14 : Int) (x20 : List D_api_Ratio) (x21 : List D_api_Ratio) : Option (((List D_api_Ratio) × (List D_api_Ratio) × Int) ⊕ ((List D_api_Ratio) × (List D_api_Ratio))) :=
  worth_reckon_j4 x14 x20 x21
def worth_reckon_j6 (x24 : Int) (x25 : List D_api_Ratio) (x26 : List D_api_Ratio) : Option (((List D_api_Ratio) × (List D_api_Ratio) × Int) ⊕ (((List D_api_Ratio) × (List D_api_Ratio) × Int) ⊕ ((List D_api_Ratio) × (List D_api_Ratio)))) :=
  bnd (i64.wrap (x24 + 1)) fun x27 =>
  some (.inl (x25, x26, x27))
def worth_reckon_j7 (x24 : Int) (x32 : List D_api_Ratio) (x33 : List D_api_Ratio) : Option (((List D_api_Ratio) × (List D_api_Ratio) × Int) ⊕ (((List D_api_Ratio) × (List D_api_Ratio) × Int) ⊕ ((List D_api_Ratio) × (List D_api_Ratio)))) :=
  worth_reckon_j6 x24 x33 x32
def worth_reckon_b2 (p0 : D_api_State) (y1 : List Bool) (y2 : List Int) (x14 : Int) (x18 : Int) (y19 : List Int) (x22 : List D_api_Ratio) (x23 : List D_api_Ratio) (x24 : Int) : Option (((List D_api_Ratio) × (List D_api_Ratio) × Int) ⊕ (((List D_api_Ratio) × (List D_api_Ratio) × Int) ⊕ ((List D_api_Ratio) × (List D_api_Ratio)))) :=
  bif decide (x24 < (y19.length : Int)) then
    ass (0 ≤ x24 ∧ x24 < (y19.length : Int)) <|
    bnd (rd (0 : Int) y19 x24) fun x28 =>
    ass (0 ≤ x28 ∧ x28 < (y1.length : Int)) <|
    bif !(rd false y1 x28) then
      worth_reckon_j6 x24 x22 x23
    else
    ass (0 ≤ x28 ∧ x28 < (p0.2.1.length : Int)) <|
    bnd (rd z_api_Ticket p0.2.1 x28) fun x29 =>
    ass (0 ≤ x18 ∧ x18 < (y2.length : Int)) <|
    (ratio_Of (u64.wrap x29.2.2.1) (u64.wrap (rd (0 : Int) y2 x18))).bind fun y30 =>
    ass (0 ≤ x18 ∧ x18 < (x22.length : Int)) <|
    (ratio_Mul [y30.1, rd z_api_Ratio x22 x18]).bind fun y31 =>
    ass (0 ≤ x28 ∧ x28 < (x23.length : Int)) <|
    bnd (wr x23 x28 y31) fun x32 =>
    bif x29.2.2.2.1 == 2 then
      ass (0 ≤ x29.2.2.2.2.1 ∧ x29.2.2.2.2.1 < (x22.length : Int)) <|
      ass (0 ≤ x28 ∧ x28 < (x32.length : Int)) <|
      (ratio_Add [rd z_api_Ratio x22 x29.2.2.2.2.1, rd z_api_Ratio x32 x28]).bind fun y34 =>
      bnd (wr x22 x29.2.2.2.2.1 y34) fun x35 =>
      worth_reckon_j7 x24 x32 x35
    else
    worth_reckon_j7 x24 x32 x22
  else
  (worth_reckon_j5 x14 x22 x23).map .inr
def worth_reckon_b1 (p0 : D_api_State) (y1 : List Bool) (y2 : List Int) (y9 : List Int) (x12 : List D_api_Ratio) (x13 : List D_api_Ratio) (x14 : Int) : Option (((List D_api_Ratio) × (List D_api_Ratio) × Int) ⊕ ((List D_api_Ratio) × (List D_api_Ratio))) :=
  bif decide (x14 < (y9.length : Int)) then
    ass (0 ≤ x14 ∧ x14 < (y9.length : Int)) <|
    bnd (rd (0 : Int) y9 x14) fun x18 =>
    (fund_Issued p0 x18).bind fun y19 =>
    loopM (fun x : (List D_api_Ratio) × (List D_api_Ratio) × Int => worth_reckon_b2 p0 y1 y2 x14 x18 y19 x.1 x.2.1 x.2.2) (x12, x13, (0 : Int))
  else
  (worth_reckon_j3 x12 x13).map .inr
def worth_reckon_j2 (p0 : D_api_State) (y1 : List Bool) (y2 : List Int) (x5 : List D_api_Ratio) (x6 : List D_api_Ratio) : Option ((List D_api_Ratio) × (List D_api_Ratio)) :=
  ass (0 ≤ (0 : Int) ∧ (0 : Int) < (y2.length : Int)) <|
  (ratio_Of (u64.wrap (rd (0 : Int) y2 (0 : Int))) (1 : Int)).bind fun y7 =>
  ass (0 ≤ (0 : Int) ∧ (0 : Int) < (x5.length : Int)) <|
  bnd (wr x5 (0 : Int) y7.1) fun x8 =>
  (fund_Order p0).bind fun y9 =>
  loopM (fun x : (List D_api_Ratio) × (List D_api_Ratio) × Int => worth_reckon_b1 p0 y1 y2 y9 x.1 x.2.1 x.2.2) (x8, x6, (0 : Int))
def worth_reckon_b3 (p0 : D_api_State) (y1 : List Bool) (y2 : List Int) (x4 : List D_api_Ratio) (x5 : List D_api_Ratio) (x36 : List D_api_Ratio) (x37 : Int) : Option (((List D_api_Ratio) × Int) ⊕ ((List D_api_Ratio) × (List D_api_Ratio))) :=
  bif decide (x37 < (x4.length : Int)) then
    (ratio_Zero).bind fun y38 =>
    ass (0 ≤ x37 ∧ x37 < (x36.length : Int)) <|
    bnd (wr x36 x37 y38) fun x39 =>
    bnd (i64.wrap (x37 + 1)) fun x40 =>
    some (.inl (x39, x40))
  else
  (worth_reckon_j2 p0 y1 y2 x5 x36).map .inr
def worth_reckon_j1 (p0 : D_api_State) (y1 : List Bool) (y2 : List Int) (x4 : List D_api_Ratio) (x5 : List D_api_Ratio) : Option ((List D_api_Ratio) × (List D_api_Ratio)) :=
  loopM (fun x : (List D_api_Ratio) × Int => worth_reckon_b3 p0 y1 y2 x4 x5 x.1 x.2) (x4, (0 : Int))
def worth_reckon_b4 (p0 : D_api_State) (y1 : List Bool) (y2 : List Int) (x3 : List D_api_Ratio) (x4 : List D_api_Ratio) (x41 : List D_api_Ratio) (x42 : Int) : Option (((List D_api_Ratio) × Int) ⊕ ((List D_api_Ratio) × (List D_api_Ratio))) :=
  bif decide (x42 < (x3.length : Int)) then
    (ratio_Zero).bind fun y43 =>
    ass (0 ≤ x42 ∧ x42 < (x41.length : Int)) <|
    bnd (wr x41 x42 y43) fun x44 =>
    bnd (i64.wrap (x42 + 1)) fun x45 =>
    some (.inl (x44, x45))
  else
  (worth_reckon_j1 p0 y1 y2 x4 x41).map .inr
def worth_reckon (p0 : D_api_State) : Option ((List D_api_Ratio) × (List D_api_Ratio)) :=
  (live_Tickets p0).bind fun y1 =>
  (live_Amounts p0).bind fun y2 =>
  ass (0 ≤ (p0.1.length : Int) ∧ (p0.1.length : Int) ≤ (p0.1.length : Int) ∧ (p0.1.length : Int) ≤ lim) <|
  ass (0 ≤ (p0.2.1.length : Int) ∧ (p0.2.1.length : Int) ≤ (p0.2.1.length : Int) ∧ (p0.2.1.length : Int) ≤ lim) <|
  bnd (List.replicate (p0.1.length : Int).toNat (([] : List Int), ([] : List Int))) fun x3 =>
  bnd (List.replicate (p0.2.1.length : Int).toNat (([] : List Int), ([] : List Int))) fun x4 =>
  loopM (fun x : (List D_api_Ratio) × Int => worth_reckon_b4 p0 y1 y2 x3 x4 x.1 x.2) (x3, (0 : Int))
theorem worth_reckon.ok {p0 : D_api_State} {r : (List D_api_Ratio) × (List D_api_Ratio)} (h : worth_reckon p0 = some r) : ACall prog 158 [⟨T_api_State, p0⟩] [⟨1, .slice T_api_Ratio, r.1⟩, ⟨1, .slice T_api_Ratio, r.2⟩] := by
  replace h := Leads.of h
  unfold worth_reckon at h
  refine AC func158 rfl fun w0 F0 hw0 => ?_
  refine W_seq ?_
  refine R [] [(1, .box 0 T_api_State p0)] pz ?_
  refine W_seq ?_
  obtain ⟨y1, ey1, h⟩ := h.bind
  obtain ⟨y2, ey2, h⟩ := h.bind
  refine R [.res [(0, ⟨0, .slice .bool, y1⟩)], .res [(0, ⟨0, .slice (.int .i64), y2⟩)]] [(1, .box 0 T_api_State p0), (4, .v 0 (.slice .bool) y1), (5, .v 0 (.slice (.int .i64)) y2)] (pc (live_Tickets.ok ey1) (ps (live_Amounts.ok ey2))) ?_
  refine W_seq ?_
  obtain ⟨o1, h⟩ := h.ass
  obtain ⟨o2, h⟩ := h.ass
  refine RL2 h [] (fun x3 x4 => [(1, .box 0 T_api_State p0), (2, .v 9 (.slice T_api_Ratio) x3), (3, .v 9 (.slice T_api_Ratio) x4), (4, .v 0 (.slice .bool) y1), (5, .v 0 (.slice (.int .i64)) y2)]) (pc o1 (pc o2 (pc o2 (pc (rfl : (⟨.slice T_api_Ticket, p0.2.1⟩ : TV) = ⟨.slice T_api_Ticket, p0.2.1⟩) (pc (rfl : (⟨.int .i64, (p0.2.1.length : Int)⟩ : TV) = ⟨.int .i64, (p0.2.1.length : Int)⟩) (ps (rfl : (⟨.slice T_api_Ratio, List.replicate (p0.2.1.length : Int).toNat (([] : List Int), ([] : List Int))⟩ : TV) = ⟨.slice T_api_Ratio, List.replicate (p0.2.1.length : Int).toNat (([] : List Int), ([] : List Int))⟩))))))) fun x3 x4 h => ?_
  refine W_seq (W_seq ?_)
  refine R [] [(1, .box 0 T_api_State p0), (2, .v 9 (.slice T_api_Ratio) x3), (3, .v 9 (.slice T_api_Ratio) x4), (4, .v 0 (.slice .bool) y1), (5, .v 0 (.slice (.int .i64)) y2), (28, .v 0 (.int .i64) (x3.length : Int)), (29, .v 0 (.int .i64) (0 : Int))] pz ?_
  refine J1 h (worth_reckon_j1 p0 y1 y2 x4) (fun x5 => [(1, .box 0 T_api_State p0), (2, .v 1 (.slice T_api_Ratio) x5), (3, .v 9 (.slice T_api_Ratio) x4), (4, .v 0 (.slice .bool) y1), (5, .v 0 (.slice (.int .i64)) y2)]) (fun x5 h => ?_) fun j1 => ?_
  · unfold worth_reckon_j1 at h
    refine W_seq (W_seq ?_)
    refine R [] [(1, .box 0 T_api_State p0), (2, .v 1 (.slice T_api_Ratio) x5), (3, .v 9 (.slice T_api_Ratio) x4), (4, .v 0 (.slice .bool) y1), (5, .v 0 (.slice (.int .i64)) y2), (38, .v 0 (.int .i64) (x4.length : Int)), (39, .v 0 (.int .i64) (0 : Int))] pz ?_
    refine J1 h (worth_reckon_j2 p0 y1 y2 x5) (fun x6 => [(1, .box 0 T_api_State p0), (2, .v 1 (.slice T_api_Ratio) x5), (3, .v 1 (.slice T_api_Ratio) x6), (4, .v 0 (.slice .bool) y1), (5, .v 0 (.slice (.int .i64)) y2)]) (fun x6 h => ?_) fun j2 => ?_
    · unfold worth_reckon_j2 at h
      refine W_seq ?_
      obtain ⟨o1, h⟩ := h.ass
      obtain ⟨y7, ey7, h⟩ := h.bind
      obtain ⟨o2, h⟩ := h.ass
      refine R1 h [.res [(0, ⟨0, T_api_Ratio, y7.1⟩), (0, ⟨0, .bool, y7.2⟩)]] (fun x8 => [(1, .box 0 T_api_State p0), (2, .v 1 (.slice T_api_Ratio) x8), (3, .v 1 (.slice T_api_Ratio) x6), (4, .v 0 (.slice .bool) y1), (5, .v 0 (.slice (.int .i64)) y2)]) (pc o1 (pc (ratio_Of.ok ey7) (ps o2))) fun x8 h => ?_
      refine W_seq (W_seq ?_)
      obtain ⟨y9, ey9, h⟩ := h.bind
      refine R [.res [(1, ⟨1, .slice (.int .i64), y9⟩)]] [(1, .box 0 T_api_State p0), (2, .v 1 (.slice T_api_Ratio) x8), (3, .v 1 (.slice T_api_Ratio) x6), (4, .v 0 (.slice .bool) y1), (5, .v 0 (.slice (.int .i64)) y2), (58, .v 1 (.slice (.int .i64)) y9), (59, .v 0 (.int .i64) (y9.length : Int)), (60, .v 0 (.int .i64) (0 : Int))] (ps (fund_Order.ok ey9)) ?_
      refine J2 h worth_reckon_j3 (fun x10 x11 => [(2, .v 1 (.slice T_api_Ratio) x10), (3, .v 1 (.slice T_api_Ratio) x11)]) (fun x10 x11 h => ?_) fun j3 => ?_
      · unfold worth_reckon_j3 at h
        refine W_seq ?_
        refine R [] [(2, .v 1 (.slice T_api_Ratio) x10), (3, .v 1 (.slice T_api_Ratio) x11)] pz ?_
        cases h
        exact Rt hw0
      refine W_block ?_
      refine L3 h (fun x12 x13 x14 => [(1, .box 0 T_api_State p0), (2, .v 1 (.slice T_api_Ratio) x12), (3, .v 1 (.slice T_api_Ratio) x13), (4, .v 0 (.slice .bool) y1), (5, .v 0 (.slice (.int .i64)) y2), (58, .v 1 (.slice (.int .i64)) y9), (59, .v 0 (.int .i64) (y9.length : Int)), (60, .v 0 (.int .i64) x14)]) fun x12 x13 x14 _ h => ?_
      unfold worth_reckon_b1 at h
      refine W_seq ?_
      refine R [] [(1, .box 0 T_api_State p0), (2, .v 1 (.slice T_api_Ratio) x12), (3, .v 1 (.slice T_api_Ratio) x13), (4, .v 0 (.slice .bool) y1), (5, .v 0 (.slice (.int .i64)) y2), (58, .v 1 (.slice (.int .i64)) y9), (59, .v 0 (.int .i64) (y9.length : Int)), (60, .v 0 (.int .i64) x14), (61, .v 0 .bool (decide (x14 < (y9.length : Int))))] pz ?_
      refine W_seq ?_
      refine C h (fun h => ?_) fun h => ?_
      · refine W_skip (W_seq ?_)
        refine J2 h (worth_reckon_j4 x14) (fun x15 x16 => [(1, .box 0 T_api_State p0), (2, .v 1 (.slice T_api_Ratio) x15), (3, .v 1 (.slice T_api_Ratio) x16), (4, .v 0 (.slice .bool) y1), (5, .v 0 (.slice (.int .i64)) y2), (58, .v 1 (.slice (.int .i64)) y9), (59, .v 0 (.int .i64) (y9.length : Int)), (60, .v 0 (.int .i64) x14)]) (fun x15 x16 h => ?_) fun j4 => ?_
        · unfold worth_reckon_j4 at h
          refine R1 h [] (fun x17 => [(1, .box 0 T_api_State p0), (2, .v 1 (.slice T_api_Ratio) x15), (3, .v 1 (.slice T_api_Ratio) x16), (4, .v 0 (.slice .bool) y1), (5, .v 0 (.slice (.int .i64)) y2), (58, .v 1 (.slice (.int .i64)) y9), (59, .v 0 (.int .i64) (y9.length : Int)), (60, .v 0 (.int .i64) x17)]) pz fun x17 h => ?_
          exact B h
        refine W_block (W_seq ?_)
        obtain ⟨o1, h⟩ := h.ass
        refine R1 h [] (fun x18 => [(1, .box 0 T_api_State p0), (2, .v 1 (.slice T_api_Ratio) x12), (3, .v 1 (.slice T_api_Ratio) x13), (4, .v 0 (.slice .bool) y1), (5, .v 0 (.slice (.int .i64)) y2), (9, .v 0 (.int .i64) x18), (58, .v 1 (.slice (.int .i64)) y9), (59, .v 0 (.int .i64) (y9.length : Int)), (60, .v 0 (.int .i64) x14)]) (ps o1) fun x18 h => ?_
        refine W_seq ?_
        obtain ⟨y19, ey19, h⟩ := h.bind
        refine R [.res [(9, ⟨9, .slice (.int .i64), y19⟩)]] [(1, .box 0 T_api_State p0), (2, .v 1 (.slice T_api_Ratio) x12), (3, .v 1 (.slice T_api_Ratio) x13), (4, .v 0 (.slice .bool) y1), (5, .v 0 (.slice (.int .i64)) y2), (9, .v 0 (.int .i64) x18), (58, .v 1 (.slice (.int .i64)) y9), (59, .v 0 (.int .i64) (y9.length : Int)), (60, .v 0 (.int .i64) x14), (66, .v 9 (.slice (.int .i64)) y19), (67, .v 0 (.int .i64) (y19.length : Int)), (68, .v 0 (.int .i64) (0 : Int))] (ps (fund_Issued.ok ey19)) ?_
        refine J2 h (worth_reckon_j5 x14) (fun x20 x21 => [(1, .box 0 T_api_State p0), (2, .v 1 (.slice T_api_Ratio) x20), (3, .v 1 (.slice T_api_Ratio) x21), (4, .v 0 (.slice .bool) y1), (5, .v 0 (.slice (.int .i64)) y2), (58, .v 1 (.slice (.int .i64)) y9), (59, .v 0 (.int .i64) (y9.length : Int)), (60, .v 0 (.int .i64) x14)]) (fun x20 x21 h => ?_) fun j5 => ?_
        · unfold worth_reckon_j5 at h
          refine W_blk ?_
          exact K (j4 x20 x21 h)
        refine W_block ?_
        refine L3 h (fun x22 x23 x24 => [(1, .box 0 T_api_State p0), (2, .v 1 (.slice T_api_Ratio) x22), (3, .v 1 (.slice T_api_Ratio) x23), (4, .v 0 (.slice .bool) y1), (5, .v 0 (.slice (.int .i64)) y2), (9, .v 0 (.int .i64) x18), (58, .v 1 (.slice (.int .i64)) y9), (59, .v 0 (.int .i64) (y9.length : Int)), (60, .v 0 (.int .i64) x14), (66, .v 9 (.slice (.int .i64)) y19), (67, .v 0 (.int .i64) (y19.length : Int)), (68, .v 0 (.int .i64) x24)]) fun x22 x23 x24 _ h => ?_
        unfold worth_reckon_b2 at h
        refine W_seq ?_
        refine R [] [(1, .box 0 T_api_State p0), (2, .v 1 (.slice T_api_Ratio) x22), (3, .v 1 (.slice T_api_Ratio) x23), (4, .v 0 (.slice .bool) y1), (5, .v 0 (.slice (.int .i64)) y2), (9, .v 0 (.int .i64) x18), (58, .v 1 (.slice (.int .i64)) y9), (59, .v 0 (.int .i64) (y9.length : Int)), (60, .v 0 (.int .i64) x14), (66, .v 9 (.slice (.int .i64)) y19), (67, .v 0 (.int .i64) (y19.length : Int)), (68, .v 0 (.int .i64) x24), (69, .v 0 .bool (decide (x24 < (y19.length : Int))))] pz ?_
        refine W_seq ?_
        refine C h (fun h => ?_) fun h => ?_
        · refine W_skip (W_seq ?_)
          refine J2 h (worth_reckon_j6 x24) (fun x25 x26 => [(1, .box 0 T_api_State p0), (2, .v 1 (.slice T_api_Ratio) x25), (3, .v 1 (.slice T_api_Ratio) x26), (4, .v 0 (.slice .bool) y1), (5, .v 0 (.slice (.int .i64)) y2), (9, .v 0 (.int .i64) x18), (58, .v 1 (.slice (.int .i64)) y9), (59, .v 0 (.int .i64) (y9.length : Int)), (60, .v 0 (.int .i64) x14), (66, .v 9 (.slice (.int .i64)) y19), (67, .v 0 (.int .i64) (y19.length : Int)), (68, .v 0 (.int .i64) x24)]) (fun x25 x26 h => ?_) fun j6 => ?_
          · unfold worth_reckon_j6 at h
            refine R1 h [] (fun x27 => [(1, .box 0 T_api_State p0), (2, .v 1 (.slice T_api_Ratio) x25), (3, .v 1 (.slice T_api_Ratio) x26), (4, .v 0 (.slice .bool) y1), (5, .v 0 (.slice (.int .i64)) y2), (9, .v 0 (.int .i64) x18), (58, .v 1 (.slice (.int .i64)) y9), (59, .v 0 (.int .i64) (y9.length : Int)), (60, .v 0 (.int .i64) x14), (66, .v 9 (.slice (.int .i64)) y19), (67, .v 0 (.int .i64) (y19.length : Int)), (68, .v 0 (.int .i64) x27)]) pz fun x27 h => ?_
            exact B h
          refine W_block (W_seq ?_)
          obtain ⟨o1, h⟩ := h.ass
          refine R1 h [] (fun x28 => [(1, .box 0 T_api_State p0), (2, .v 1 (.slice T_api_Ratio) x22), (3, .v 1 (.slice T_api_Ratio) x23), (4, .v 0 (.slice .bool) y1), (5, .v 0 (.slice (.int .i64)) y2), (9, .v 0 (.int .i64) x18), (11, .v 0 (.int .i64) x28), (58, .v 1 (.slice (.int .i64)) y9), (59, .v 0 (.int .i64) (y9.length : Int)), (60, .v 0 (.int .i64) x14), (66, .v 9 (.slice (.int .i64)) y19), (67, .v 0 (.int .i64) (y19.length : Int)), (68, .v 0 (.int .i64) x24)]) (ps o1) fun x28 h => ?_
          refine W_seq (W_seq ?_)
          obtain ⟨o1, h⟩ := h.ass
          refine R [] [(1, .box 0 T_api_State p0), (2, .v 1 (.slice T_api_Ratio) x22), (3, .v 1 (.slice T_api_Ratio) x23), (4, .v 0 (.slice .bool) y1), (5, .v 0 (.slice (.int .i64)) y2), (9, .v 0 (.int .i64) x18), (11, .v 0 (.int .i64) x28), (58, .v 1 (.slice (.int .i64)) y9), (59, .v 0 (.int .i64) (y9.length : Int)), (60, .v 0 (.int .i64) x14), (66, .v 9 (.slice (.int .i64)) y19), (67, .v 0 (.int .i64) (y19.length : Int)), (68, .v 0 (.int .i64) x24), (76, .v 0 .bool (!(rd false y1 x28)))] (ps o1) ?_
          refine C h (fun h => ?_) fun h => ?_
          · refine W_exit rfl ?_
            exact K (j6 x22 x23 h)
          refine W_skip (W_seq ?_)
          obtain ⟨o1, h⟩ := h.ass
          refine R1 h [] (fun x29 => [(1, .box 0 T_api_State p0), (2, .v 1 (.slice T_api_Ratio) x22), (3, .v 1 (.slice T_api_Ratio) x23), (4, .v 0 (.slice .bool) y1), (5, .v 0 (.slice (.int .i64)) y2), (9, .v 0 (.int .i64) x18), (11, .v 0 (.int .i64) x28), (12, .box 9 T_api_Ticket x29), (58, .v 1 (.slice (.int .i64)) y9), (59, .v 0 (.int .i64) (y9.length : Int)), (60, .v 0 (.int .i64) x14), (66, .v 9 (.slice (.int .i64)) y19), (67, .v 0 (.int .i64) (y19.length : Int)), (68, .v 0 (.int .i64) x24)]) (ps o1) fun x29 h => ?_
          refine W_seq ?_
          obtain ⟨o1, h⟩ := h.ass
          obtain ⟨y30, ey30, h⟩ := h.bind
          refine RL [.res [(0, ⟨0, T_api_Ratio, y30.1⟩), (0, ⟨0, .bool, y30.2⟩)]] [(1, .box 0 T_api_State p0), (2, .v 1 (.slice T_api_Ratio) x22), (3, .v 1 (.slice T_api_Ratio) x23), (4, .v 0 (.slice .bool) y1), (5, .v 0 (.slice (.int .i64)) y2), (9, .v 0 (.int .i64) x18), (11, .v 0 (.int .i64) x28), (12, .box 9 T_api_Ticket x29), (13, .box 0 T_api_Ratio y30.1), (58, .v 1 (.slice (.int .i64)) y9), (59, .v 0 (.int .i64) (y9.length : Int)), (60, .v 0 (.int .i64) x14), (66, .v 9 (.slice (.int .i64)) y19), (67, .v 0 (.int .i64) (y19.length : Int)), (68, .v 0 (.int .i64) x24)] (pc o1 (pc (ratio_Of.ok ey30) (ps (rfl : (⟨.bool, y30.2⟩ : TV) = ⟨.bool, y30.2⟩)))) ?_
          refine W_seq ?_
          obtain ⟨o1, h⟩ := h.ass
          obtain ⟨y31, ey31, h⟩ := h.bind
          obtain ⟨o2, h⟩ := h.ass
          refine R1 h [.frz, .res [(0, ⟨0, T_api_Ratio, y31⟩)]] (fun x32 => [(1, .box 0 T_api_State p0), (2, .v 1 (.slice T_api_Ratio) x22), (3, .v 1 (.slice T_api_Ratio) x32), (4, .v 0 (.slice .bool) y1), (5, .v 0 (.slice (.int .i64)) y2), (9, .v 0 (.int .i64) x18), (11, .v 0 (.int .i64) x28), (12, .box 9 T_api_Ticket x29), (58, .v 1 (.slice (.int .i64)) y9), (59, .v 0 (.int .i64) (y9.length : Int)), (60, .v 0 (.int .i64) x14), (66, .v 9 (.slice (.int .i64)) y19), (67, .v 0 (.int .i64) (y19.length : Int)), (68, .v 0 (.int .i64) x24)]) (pc o1 (pc (ratio_Mul.ok ey31) (ps o2))) fun x32 h => ?_
          refine W_seq ?_
          refine R [] [(1, .box 0 T_api_State p0), (2, .v 1 (.slice T_api_Ratio) x22), (3, .v 1 (.slice T_api_Ratio) x32), (4, .v 0 (.slice .bool) y1), (5, .v 0 (.slice (.int .i64)) y2), (9, .v 0 (.int .i64) x18), (11, .v 0 (.int .i64) x28), (12, .box 9 T_api_Ticket x29), (58, .v 1 (.slice (.int .i64)) y9), (59, .v 0 (.int .i64) (y9.length : Int)), (60, .v 0 (.int .i64) x14), (66, .v 9 (.slice (.int .i64)) y19), (67, .v 0 (.int .i64) (y19.length : Int)), (68, .v 0 (.int .i64) x24), (106, .v 0 .bool (x29.2.2.2.1 == 2))] pz ?_
          refine J1 h (worth_reckon_j7 x24 x32) (fun x33 => [(1, .box 0 T_api_State p0), (2, .v 1 (.slice T_api_Ratio) x33), (3, .v 1 (.slice T_api_Ratio) x32), (4, .v 0 (.slice .bool) y1), (5, .v 0 (.slice (.int .i64)) y2), (9, .v 0 (.int .i64) x18), (58, .v 1 (.slice (.int .i64)) y9), (59, .v 0 (.int .i64) (y9.length : Int)), (60, .v 0 (.int .i64) x14), (66, .v 9 (.slice (.int .i64)) y19), (67, .v 0 (.int .i64) (y19.length : Int)), (68, .v 0 (.int .i64) x24)]) (fun x33 h => ?_) fun j7 => ?_
          · unfold worth_reckon_j7 at h
            refine W_blk ?_
            exact K (j6 x33 x32 h)
          refine C h (fun h => ?_) fun h => ?_
          · obtain ⟨o1, h⟩ := h.ass
            obtain ⟨o2, h⟩ := h.ass
            obtain ⟨y34, ey34, h⟩ := h.bind
            refine R1 h [.frz, .res [(0, ⟨0, T_api_Ratio, y34⟩)]] (fun x35 => [(1, .box 0 T_api_State p0), (2, .v 1 (.slice T_api_Ratio) x35), (3, .v 1 (.slice T_api_Ratio) x32), (4, .v 0 (.slice .bool) y1), (5, .v 0 (.slice (.int .i64)) y2), (9, .v 0 (.int .i64) x18), (58, .v 1 (.slice (.int .i64)) y9), (59, .v 0 (.int .i64) (y9.length : Int)), (60, .v 0 (.int .i64) x14), (66, .v 9 (.slice (.int .i64)) y19), (67, .v 0 (.int .i64) (y19.length : Int)), (68, .v 0 (.int .i64) x24)]) (pc o1 (pc o2 (pc (ratio_Add.ok ey34) (ps o1)))) fun x35 h => ?_
            exact K (j7 x35 h)
          refine W_skip ?_
          exact K (j7 x22 h)
        refine W_exit rfl ?_
        exact K (j5 x22 x23 h.back)
      refine W_exit rfl ?_
      exact K (j3 x12 x13 h.back)
    refine W_block ?_
    refine L2 h (fun x36 x37 => [(1, .box 0 T_api_State p0), (2, .v 1 (.slice T_api_Ratio) x5), (3, .v 1 (.slice T_api_Ratio) x36), (4, .v 0 (.slice .bool) y1), (5, .v 0 (.slice (.int .i64)) y2), (38, .v 0 (.int .i64) (x4.length : Int)), (39, .v 0 (.int .i64) x37)]) fun x36 x37 _ h => ?_
    unfold worth_reckon_b3 at h
    refine W_seq ?_
    refine R [] [(1, .box 0 T_api_State p0), (2, .v 1 (.slice T_api_Ratio) x5), (3, .v 1 (.slice T_api_Ratio) x36), (4, .v 0 (.slice .bool) y1), (5, .v 0 (.slice (.int .i64)) y2), (38, .v 0 (.int .i64) (x4.length : Int)), (39, .v 0 (.int .i64) x37), (40, .v 0 .bool (decide (x37 < (x4.length : Int))))] pz ?_
    refine W_seq ?_
    refine C h (fun h => ?_) fun h => ?_
    · refine W_skip (W_seq (W_block (W_seq ?_)))
      refine R [] [(1, .box 0 T_api_State p0), (2, .v 1 (.slice T_api_Ratio) x5), (3, .v 1 (.slice T_api_Ratio) x36), (4, .v 0 (.slice .bool) y1), (5, .v 0 (.slice (.int .i64)) y2), (7, .v 0 (.int .i64) x37), (38, .v 0 (.int .i64) (x4.length : Int)), (39, .v 0 (.int .i64) x37)] pz ?_
      obtain ⟨y38, ey38, h⟩ := h.bind
      obtain ⟨o1, h⟩ := h.ass
      refine R1 h [.res [(0, ⟨0, T_api_Ratio, y38⟩)]] (fun x39 => [(1, .box 0 T_api_State p0), (2, .v 1 (.slice T_api_Ratio) x5), (3, .v 1 (.slice T_api_Ratio) x39), (4, .v 0 (.slice .bool) y1), (5, .v 0 (.slice (.int .i64)) y2), (38, .v 0 (.int .i64) (x4.length : Int)), (39, .v 0 (.int .i64) x37)]) (pc (ratio_Zero.ok ey38) (ps o1)) fun x39 h => ?_
      refine W_blk ?_
      refine R1 h [] (fun x40 => [(1, .box 0 T_api_State p0), (2, .v 1 (.slice T_api_Ratio) x5), (3, .v 1 (.slice T_api_Ratio) x39), (4, .v 0 (.slice .bool) y1), (5, .v 0 (.slice (.int .i64)) y2), (38, .v 0 (.int .i64) (x4.length : Int)), (39, .v 0 (.int .i64) x40)]) pz fun x40 h => ?_
      exact B h
    refine W_exit rfl ?_
    exact K (j2 x36 h.back)
  refine W_block ?_
  refine L2 h (fun x41 x42 => [(1, .box 0 T_api_State p0), (2, .v 1 (.slice T_api_Ratio) x41), (3, .v 9 (.slice T_api_Ratio) x4), (4, .v 0 (.slice .bool) y1), (5, .v 0 (.slice (.int .i64)) y2), (28, .v 0 (.int .i64) (x3.length : Int)), (29, .v 0 (.int .i64) x42)]) fun x41 x42 _ h => ?_
  unfold worth_reckon_b4 at h
  refine W_seq ?_
  refine R [] [(1, .box 0 T_api_State p0), (2, .v 1 (.slice T_api_Ratio) x41), (3, .v 9 (.slice T_api_Ratio) x4), (4, .v 0 (.slice .bool) y1), (5, .v 0 (.slice (.int .i64)) y2), (28, .v 0 (.int .i64) (x3.length : Int)), (29, .v 0 (.int .i64) x42), (30, .v 0 .bool (decide (x42 < (x3.length : Int))))] pz ?_
  refine W_seq ?_
  refine C h (fun h => ?_) fun h => ?_
  · refine W_skip (W_seq (W_block (W_seq ?_)))
    refine R [] [(1, .box 0 T_api_State p0), (2, .v 1 (.slice T_api_Ratio) x41), (3, .v 9 (.slice T_api_Ratio) x4), (4, .v 0 (.slice .bool) y1), (5, .v 0 (.slice (.int .i64)) y2), (6, .v 0 (.int .i64) x42), (28, .v 0 (.int .i64) (x3.length : Int)), (29, .v 0 (.int .i64) x42)] pz ?_
    obtain ⟨y43, ey43, h⟩ := h.bind
    obtain ⟨o1, h⟩ := h.ass
    refine R1 h [.res [(0, ⟨0, T_api_Ratio, y43⟩)]] (fun x44 => [(1, .box 0 T_api_State p0), (2, .v 1 (.slice T_api_Ratio) x44), (3, .v 9 (.slice T_api_Ratio) x4), (4, .v 0 (.slice .bool) y1), (5, .v 0 (.slice (.int .i64)) y2), (28, .v 0 (.int .i64) (x3.length : Int)), (29, .v 0 (.int .i64) x42)]) (pc (ratio_Zero.ok ey43) (ps o1)) fun x44 h => ?_
    refine W_blk ?_
    refine R1 h [] (fun x45 => [(1, .box 0 T_api_State p0), (2, .v 1 (.slice T_api_Ratio) x44), (3, .v 9 (.slice T_api_Ratio) x4), (4, .v 0 (.slice .bool) y1), (5, .v 0 (.slice (.int .i64)) y2), (28, .v 0 (.int .i64) (x3.length : Int)), (29, .v 0 (.int .i64) x45)]) pz fun x45 h => ?_
    exact B h
  refine W_exit rfl ?_
  exact K (j1 x41 h.back)

def worth_Tickets (p0 : D_api_State) : Option (List D_api_Ratio) :=
  (worth_reckon p0).bind fun y1 =>
  some y1.2
theorem worth_Tickets.ok {p0 : D_api_State} {r : List D_api_Ratio} (h : worth_Tickets p0 = some r) : ACall prog 139 [⟨T_api_State, p0⟩] [⟨1, .slice T_api_Ratio, r⟩] := by
  replace h := Leads.of h
  unfold worth_Tickets at h
  refine AC func139 rfl fun w0 F0 hw0 => ?_
  refine W_seq ?_
  refine R [] [(1, .box 0 T_api_State p0)] pz ?_
  refine W_seq ?_
  obtain ⟨y1, ey1, h⟩ := h.bind
  refine R [.res [(1, ⟨1, .slice T_api_Ratio, y1.1⟩), (1, ⟨1, .slice T_api_Ratio, y1.2⟩)]] [(4, .v 1 (.slice T_api_Ratio) y1.2)] (ps (worth_reckon.ok ey1)) ?_
  refine W_seq ?_
  refine R [] [(2, .v 1 (.slice T_api_Ratio) y1.2)] pz ?_
  cases h
  exact Rt hw0

def worth_Threads_j2 (x4 : List D_api_Ratio) : Option (List D_api_Ratio) :=
  some x4
def worth_Threads_j3 (x6 : Int) (x8 : List D_api_Ratio) : Option (((List D_api_Ratio) × Int) ⊕ (List D_api_Ratio)) :=
  bnd (i64.wrap (x6 + 1)) fun x9 =>
  some (.inl (x8, x9))
def worth_Threads_b1 (p0 : D_api_State) (y1 : List D_api_Ratio) (x5 : List D_api_Ratio) (x6 : Int) : Option (((List D_api_Ratio) × Int) ⊕ (List D_api_Ratio)) :=
  bif decide (x6 < (p0.2.1.length : Int)) then
    ass (0 ≤ x6 ∧ x6 < (p0.2.1.length : Int)) <|
    bnd (rd z_api_Ticket p0.2.1 x6) fun x7 =>
    bif x7.1 && (x7.2.2.2.1 == 1) then
      ass (0 ≤ x7.2.2.2.2.1 ∧ x7.2.2.2.2.1 < (x5.length : Int)) <|
      ass (0 ≤ x6 ∧ x6 < (y1.length : Int)) <|
      (ratio_Add [rd z_api_Ratio x5 x7.2.2.2.2.1, rd z_api_Ratio y1 x6]).bind fun y10 =>
      bnd (wr x5 x7.2.2.2.2.1 y10) fun x11 =>
      worth_Threads_j3 x6 x11
    else
    worth_Threads_j3 x6 x5
  else
  (worth_Threads_j2 x5).map .inr
def worth_Threads_j1 (p0 : D_api_State) (y1 : List D_api_Ratio) (x3 : List D_api_Ratio) : Option (List D_api_Ratio) :=
  loopM (fun x : (List D_api_Ratio) × Int => worth_Threads_b1 p0 y1 x.1 x.2) (x3, (0 : Int))
def worth_Threads_b2 (p0 : D_api_State) (y1 : List D_api_Ratio) (x2 : List D_api_Ratio) (x12 : List D_api_Ratio) (x13 : Int) : Option (((List D_api_Ratio) × Int) ⊕ (List D_api_Ratio)) :=
  bif decide (x13 < (x2.length : Int)) then
    (ratio_Zero).bind fun y14 =>
    ass (0 ≤ x13 ∧ x13 < (x12.length : Int)) <|
    bnd (wr x12 x13 y14) fun x15 =>
    bnd (i64.wrap (x13 + 1)) fun x16 =>
    some (.inl (x15, x16))
  else
  (worth_Threads_j1 p0 y1 x12).map .inr
def worth_Threads (p0 : D_api_State) : Option (List D_api_Ratio) :=
  (worth_Tickets p0).bind fun y1 =>
  ass (0 ≤ (p0.2.2.1.length : Int) ∧ (p0.2.2.1.length : Int) ≤ (p0.2.2.1.length : Int) ∧ (p0.2.2.1.length : Int) ≤ lim) <|
  bnd (List.replicate (p0.2.2.1.length : Int).toNat (([] : List Int), ([] : List Int))) fun x2 =>
  loopM (fun x : (List D_api_Ratio) × Int => worth_Threads_b2 p0 y1 x2 x.1 x.2) (x2, (0 : Int))
theorem worth_Threads.ok {p0 : D_api_State} {r : List D_api_Ratio} (h : worth_Threads p0 = some r) : ACall prog 109 [⟨T_api_State, p0⟩] [⟨1, .slice T_api_Ratio, r⟩] := by
  replace h := Leads.of h
  unfold worth_Threads at h
  refine AC func109 rfl fun w0 F0 hw0 => ?_
  refine W_seq ?_
  refine R [] [(1, .box 0 T_api_State p0)] pz ?_
  refine W_seq ?_
  obtain ⟨y1, ey1, h⟩ := h.bind
  refine R [.res [(1, ⟨1, .slice T_api_Ratio, y1⟩)]] [(1, .box 0 T_api_State p0), (3, .v 1 (.slice T_api_Ratio) y1)] (ps (worth_Tickets.ok ey1)) ?_
  refine W_seq ?_
  obtain ⟨o1, h⟩ := h.ass
  refine R1 h [] (fun x2 => [(1, .box 0 T_api_State p0), (3, .v 1 (.slice T_api_Ratio) y1), (4, .v 9 (.slice T_api_Ratio) x2)]) (ps o1) fun x2 h => ?_
  refine W_seq (W_seq ?_)
  refine R [] [(1, .box 0 T_api_State p0), (3, .v 1 (.slice T_api_Ratio) y1), (4, .v 9 (.slice T_api_Ratio) x2), (15, .v 0 (.int .i64) (x2.length : Int)), (16, .v 0 (.int .i64) (0 : Int))] pz ?_
  refine J1 h (worth_Threads_j1 p0 y1) (fun x3 => [(1, .box 0 T_api_State p0), (3, .v 1 (.slice T_api_Ratio) y1), (4, .v 1 (.slice T_api_Ratio) x3)]) (fun x3 h => ?_) fun j1 => ?_
  · unfold worth_Threads_j1 at h
    refine W_seq (W_seq ?_)
    refine R [] [(3, .v 1 (.slice T_api_Ratio) y1), (4, .v 1 (.slice T_api_Ratio) x3), (25, .v 0 (.slice T_api_Ticket) p0.2.1), (26, .v 0 (.int .i64) (p0.2.1.length : Int)), (27, .v 0 (.int .i64) (0 : Int))] pz ?_
    refine J1 h worth_Threads_j2 (fun x4 => [(4, .v 1 (.slice T_api_Ratio) x4)]) (fun x4 h => ?_) fun j2 => ?_
    · unfold worth_Threads_j2 at h
      refine W_seq ?_
      refine R [] [(2, .v 1 (.slice T_api_Ratio) x4)] pz ?_
      cases h
      exact Rt hw0
    refine W_block ?_
    refine L2 h (fun x5 x6 => [(3, .v 1 (.slice T_api_Ratio) y1), (4, .v 1 (.slice T_api_Ratio) x5), (25, .v 0 (.slice T_api_Ticket) p0.2.1), (26, .v 0 (.int .i64) (p0.2.1.length : Int)), (27, .v 0 (.int .i64) x6)]) fun x5 x6 _ h => ?_
    unfold worth_Threads_b1 at h
    refine W_seq ?_
    refine R [] [(3, .v 1 (.slice T_api_Ratio) y1), (4, .v 1 (.slice T_api_Ratio) x5), (25, .v 0 (.slice T_api_Ticket) p0.2.1), (26, .v 0 (.int .i64) (p0.2.1.length : Int)), (27, .v 0 (.int .i64) x6), (28, .v 0 .bool (decide (x6 < (p0.2.1.length : Int))))] pz ?_
    refine W_seq ?_
    refine C h (fun h => ?_) fun h => ?_
    · refine W_skip (W_seq (W_block (W_seq ?_)))
      obtain ⟨o1, h⟩ := h.ass
      refine R1 h [] (fun x7 => [(3, .v 1 (.slice T_api_Ratio) y1), (4, .v 1 (.slice T_api_Ratio) x5), (6, .v 0 (.int .i64) x6), (7, .box 9 T_api_Ticket x7), (25, .v 0 (.slice T_api_Ticket) p0.2.1), (26, .v 0 (.int .i64) (p0.2.1.length : Int)), (27, .v 0 (.int .i64) x6)]) (ps o1) fun x7 h => ?_
      refine W_seq ?_
      refine R [] [(3, .v 1 (.slice T_api_Ratio) y1), (4, .v 1 (.slice T_api_Ratio) x5), (6, .v 0 (.int .i64) x6), (7, .box 9 T_api_Ticket x7), (25, .v 0 (.slice T_api_Ticket) p0.2.1), (26, .v 0 (.int .i64) (p0.2.1.length : Int)), (27, .v 0 (.int .i64) x6), (38, .v 0 .bool (x7.1 && (x7.2.2.2.1 == 1)))] pz ?_
      refine J1 h (worth_Threads_j3 x6) (fun x8 => [(3, .v 1 (.slice T_api_Ratio) y1), (4, .v 1 (.slice T_api_Ratio) x8), (25, .v 0 (.slice T_api_Ticket) p0.2.1), (26, .v 0 (.int .i64) (p0.2.1.length : Int)), (27, .v 0 (.int .i64) x6)]) (fun x8 h => ?_) fun j3 => ?_
      · unfold worth_Threads_j3 at h
        refine W_blk ?_
        refine R1 h [] (fun x9 => [(3, .v 1 (.slice T_api_Ratio) y1), (4, .v 1 (.slice T_api_Ratio) x8), (25, .v 0 (.slice T_api_Ticket) p0.2.1), (26, .v 0 (.int .i64) (p0.2.1.length : Int)), (27, .v 0 (.int .i64) x9)]) pz fun x9 h => ?_
        exact B h
      refine C h (fun h => ?_) fun h => ?_
      · obtain ⟨o1, h⟩ := h.ass
        obtain ⟨o2, h⟩ := h.ass
        obtain ⟨y10, ey10, h⟩ := h.bind
        refine R1 h [.frz, .res [(0, ⟨0, T_api_Ratio, y10⟩)]] (fun x11 => [(3, .v 1 (.slice T_api_Ratio) y1), (4, .v 1 (.slice T_api_Ratio) x11), (25, .v 0 (.slice T_api_Ticket) p0.2.1), (26, .v 0 (.int .i64) (p0.2.1.length : Int)), (27, .v 0 (.int .i64) x6)]) (pc o1 (pc o2 (pc (ratio_Add.ok ey10) (ps o1)))) fun x11 h => ?_
        exact K (j3 x11 h)
      refine W_skip ?_
      exact K (j3 x5 h)
    refine W_exit rfl ?_
    exact K (j2 x5 h.back)
  refine W_block ?_
  refine L2 h (fun x12 x13 => [(1, .box 0 T_api_State p0), (3, .v 1 (.slice T_api_Ratio) y1), (4, .v 1 (.slice T_api_Ratio) x12), (15, .v 0 (.int .i64) (x2.length : Int)), (16, .v 0 (.int .i64) x13)]) fun x12 x13 _ h => ?_
  unfold worth_Threads_b2 at h
  refine W_seq ?_
  refine R [] [(1, .box 0 T_api_State p0), (3, .v 1 (.slice T_api_Ratio) y1), (4, .v 1 (.slice T_api_Ratio) x12), (15, .v 0 (.int .i64) (x2.length : Int)), (16, .v 0 (.int .i64) x13), (17, .v 0 .bool (decide (x13 < (x2.length : Int))))] pz ?_
  refine W_seq ?_
  refine C h (fun h => ?_) fun h => ?_
  · refine W_skip (W_seq (W_block (W_seq ?_)))
    refine R [] [(1, .box 0 T_api_State p0), (3, .v 1 (.slice T_api_Ratio) y1), (4, .v 1 (.slice T_api_Ratio) x12), (5, .v 0 (.int .i64) x13), (15, .v 0 (.int .i64) (x2.length : Int)), (16, .v 0 (.int .i64) x13)] pz ?_
    obtain ⟨y14, ey14, h⟩ := h.bind
    obtain ⟨o1, h⟩ := h.ass
    refine R1 h [.res [(0, ⟨0, T_api_Ratio, y14⟩)]] (fun x15 => [(1, .box 0 T_api_State p0), (3, .v 1 (.slice T_api_Ratio) y1), (4, .v 1 (.slice T_api_Ratio) x15), (15, .v 0 (.int .i64) (x2.length : Int)), (16, .v 0 (.int .i64) x13)]) (pc (ratio_Zero.ok ey14) (ps o1)) fun x15 h => ?_
    refine W_blk ?_
    refine R1 h [] (fun x16 => [(1, .box 0 T_api_State p0), (3, .v 1 (.slice T_api_Ratio) y1), (4, .v 1 (.slice T_api_Ratio) x15), (15, .v 0 (.int .i64) (x2.length : Int)), (16, .v 0 (.int .i64) x16)]) pz fun x16 h => ?_
    exact B h
  refine W_exit rfl ?_
  exact K (j1 x12 h.back)

def carry_All_j2 (x4 : List D_api_Ratio) : Option (List D_api_Ratio) :=
  some x4
def carry_All_j3 (x6 : Int) (x7 : List D_api_Ratio) : Option (((List D_api_Ratio) × Int) ⊕ (List D_api_Ratio)) :=
  bnd (i64.wrap (x6 + 1)) fun x8 =>
  some (.inl (x7, x8))
def carry_All_j4 (x6 : Int) (x10 : List D_api_Ratio) : Option (((List D_api_Ratio) × Int) ⊕ (List D_api_Ratio)) :=
  carry_All_j3 x6 x10
def carry_All_b2 (y1 : List D_api_Ratio) (x6 : Int) (y9 : List Int) (x11 : List D_api_Ratio) (x12 : Int) : Option (((List D_api_Ratio) × Int) ⊕ (((List D_api_Ratio) × Int) ⊕ (List D_api_Ratio))) :=
  bif decide (x12 < (y9.length : Int)) then
    ass (0 ≤ x12 ∧ x12 < (y9.length : Int)) <|
    bnd (rd (0 : Int) y9 x12) fun x13 =>
    ass (0 ≤ x13 ∧ x13 < (x11.length : Int)) <|
    ass (0 ≤ x6 ∧ x6 < (y1.length : Int)) <|
    (ratio_Add [rd z_api_Ratio x11 x13, rd z_api_Ratio y1 x6]).bind fun y14 =>
    bnd (wr x11 x13 y14) fun x15 =>
    bnd (i64.wrap (x12 + 1)) fun x16 =>
    some (.inl (x15, x16))
  else
  (carry_All_j4 x6 x11).map .inr
def carry_All_b1 (p0 : D_api_State) (y1 : List D_api_Ratio) (x5 : List D_api_Ratio) (x6 : Int) : Option (((List D_api_Ratio) × Int) ⊕ (List D_api_Ratio)) :=
  bif decide (x6 < (y1.length : Int)) then
    (chain_Tail p0 x6).bind fun y9 =>
    loopM (fun x : (List D_api_Ratio) × Int => carry_All_b2 y1 x6 y9 x.1 x.2) (x5, (0 : Int))
  else
  (carry_All_j2 x5).map .inr
def carry_All_j1 (p0 : D_api_State) (y1 : List D_api_Ratio) (x3 : List D_api_Ratio) : Option (List D_api_Ratio) :=
  loopM (fun x : (List D_api_Ratio) × Int => carry_All_b1 p0 y1 x.1 x.2) (x3, (0 : Int))
def carry_All_b3 (p0 : D_api_State) (y1 : List D_api_Ratio) (x2 : List D_api_Ratio) (x17 : List D_api_Ratio) (x18 : Int) : Option (((List D_api_Ratio) × Int) ⊕ (List D_api_Ratio)) :=
  bif decide (x18 < (x2.length : Int)) then
    (ratio_Zero).bind fun y19 =>
    ass (0 ≤ x18 ∧ x18 < (x17.length : Int)) <|
    bnd (wr x17 x18 y19) fun x20 =>
    bnd (i64.wrap (x18 + 1)) fun x21 =>
    some (.inl (x20, x21))
  else
  (carry_All_j1 p0 y1 x17).map .inr
def carry_All (p0 : D_api_State) : Option (List D_api_Ratio) :=
  (worth_Threads p0).bind fun y1 =>
  ass (0 ≤ (y1.length : Int) ∧ (y1.length : Int) ≤ (y1.length : Int) ∧ (y1.length : Int) ≤ lim) <|
  bnd (List.replicate (y1.length : Int).toNat (([] : List Int), ([] : List Int))) fun x2 =>
  loopM (fun x : (List D_api_Ratio) × Int => carry_All_b3 p0 y1 x2 x.1 x.2) (x2, (0 : Int))
theorem carry_All.ok {p0 : D_api_State} {r : List D_api_Ratio} (h : carry_All p0 = some r) : ACall prog 72 [⟨T_api_State, p0⟩] [⟨1, .slice T_api_Ratio, r⟩] := by
  replace h := Leads.of h
  unfold carry_All at h
  refine AC func72 rfl fun w0 F0 hw0 => ?_
  refine W_seq ?_
  refine R [] [(1, .box 0 T_api_State p0)] pz ?_
  refine W_seq ?_
  obtain ⟨y1, ey1, h⟩ := h.bind
  refine R [.res [(1, ⟨1, .slice T_api_Ratio, y1⟩)]] [(1, .box 0 T_api_State p0), (3, .v 1 (.slice T_api_Ratio) y1)] (ps (worth_Threads.ok ey1)) ?_
  refine W_seq ?_
  obtain ⟨o1, h⟩ := h.ass
  refine R1 h [] (fun x2 => [(1, .box 0 T_api_State p0), (3, .v 1 (.slice T_api_Ratio) y1), (4, .v 9 (.slice T_api_Ratio) x2)]) (ps o1) fun x2 h => ?_
  refine W_seq (W_seq ?_)
  refine R [] [(1, .box 0 T_api_State p0), (3, .v 1 (.slice T_api_Ratio) y1), (4, .v 9 (.slice T_api_Ratio) x2), (15, .v 0 (.int .i64) (x2.length : Int)), (16, .v 0 (.int .i64) (0 : Int))] pz ?_
  refine J1 h (carry_All_j1 p0 y1) (fun x3 => [(1, .box 0 T_api_State p0), (3, .v 1 (.slice T_api_Ratio) y1), (4, .v 1 (.slice T_api_Ratio) x3)]) (fun x3 h => ?_) fun j1 => ?_
  · unfold carry_All_j1 at h
    refine W_seq (W_seq ?_)
    refine R [] [(1, .box 0 T_api_State p0), (3, .v 1 (.slice T_api_Ratio) y1), (4, .v 1 (.slice T_api_Ratio) x3), (25, .v 0 (.int .i64) (y1.length : Int)), (26, .v 0 (.int .i64) (0 : Int))] pz ?_
    refine J1 h carry_All_j2 (fun x4 => [(4, .v 1 (.slice T_api_Ratio) x4)]) (fun x4 h => ?_) fun j2 => ?_
    · unfold carry_All_j2 at h
      refine W_seq ?_
      refine R [] [(2, .v 1 (.slice T_api_Ratio) x4)] pz ?_
      cases h
      exact Rt hw0
    refine W_block ?_
    refine L2 h (fun x5 x6 => [(1, .box 0 T_api_State p0), (3, .v 1 (.slice T_api_Ratio) y1), (4, .v 1 (.slice T_api_Ratio) x5), (25, .v 0 (.int .i64) (y1.length : Int)), (26, .v 0 (.int .i64) x6)]) fun x5 x6 _ h => ?_
    unfold carry_All_b1 at h
    refine W_seq ?_
    refine R [] [(1, .box 0 T_api_State p0), (3, .v 1 (.slice T_api_Ratio) y1), (4, .v 1 (.slice T_api_Ratio) x5), (25, .v 0 (.int .i64) (y1.length : Int)), (26, .v 0 (.int .i64) x6), (27, .v 0 .bool (decide (x6 < (y1.length : Int))))] pz ?_
    refine W_seq ?_
    refine C h (fun h => ?_) fun h => ?_
    · refine W_skip (W_seq ?_)
      refine J1 h (carry_All_j3 x6) (fun x7 => [(1, .box 0 T_api_State p0), (3, .v 1 (.slice T_api_Ratio) y1), (4, .v 1 (.slice T_api_Ratio) x7), (25, .v 0 (.int .i64) (y1.length : Int)), (26, .v 0 (.int .i64) x6)]) (fun x7 h => ?_) fun j3 => ?_
      · unfold carry_All_j3 at h
        refine R1 h [] (fun x8 => [(1, .box 0 T_api_State p0), (3, .v 1 (.slice T_api_Ratio) y1), (4, .v 1 (.slice T_api_Ratio) x7), (25, .v 0 (.int .i64) (y1.length : Int)), (26, .v 0 (.int .i64) x8)]) pz fun x8 h => ?_
        exact B h
      refine W_block (W_seq ?_)
      refine R [] [(1, .box 0 T_api_State p0), (3, .v 1 (.slice T_api_Ratio) y1), (4, .v 1 (.slice T_api_Ratio) x5), (6, .v 0 (.int .i64) x6), (25, .v 0 (.int .i64) (y1.length : Int)), (26, .v 0 (.int .i64) x6)] pz ?_
      refine W_seq ?_
      obtain ⟨y9, ey9, h⟩ := h.bind
      refine R [.res [(9, ⟨9, .slice (.int .i64), y9⟩)]] [(1, .box 0 T_api_State p0), (3, .v 1 (.slice T_api_Ratio) y1), (4, .v 1 (.slice T_api_Ratio) x5), (6, .v 0 (.int .i64) x6), (25, .v 0 (.int .i64) (y1.length : Int)), (26, .v 0 (.int .i64) x6), (31, .v 9 (.slice (.int .i64)) y9), (32, .v 0 (.int .i64) (y9.length : Int)), (33, .v 0 (.int .i64) (0 : Int))] (ps (chain_Tail.ok ey9)) ?_
      refine J1 h (carry_All_j4 x6) (fun x10 => [(1, .box 0 T_api_State p0), (3, .v 1 (.slice T_api_Ratio) y1), (4, .v 1 (.slice T_api_Ratio) x10), (25, .v 0 (.int .i64) (y1.length : Int)), (26, .v 0 (.int .i64) x6)]) (fun x10 h => ?_) fun j4 => ?_
      · unfold carry_All_j4 at h
        refine W_blk ?_
        exact K (j3 x10 h)
      refine W_block ?_
      refine L2 h (fun x11 x12 => [(1, .box 0 T_api_State p0), (3, .v 1 (.slice T_api_Ratio) y1), (4, .v 1 (.slice T_api_Ratio) x11), (6, .v 0 (.int .i64) x6), (25, .v 0 (.int .i64) (y1.length : Int)), (26, .v 0 (.int .i64) x6), (31, .v 9 (.slice (.int .i64)) y9), (32, .v 0 (.int .i64) (y9.length : Int)), (33, .v 0 (.int .i64) x12)]) fun x11 x12 _ h => ?_
      unfold carry_All_b2 at h
      refine W_seq ?_
      refine R [] [(1, .box 0 T_api_State p0), (3, .v 1 (.slice T_api_Ratio) y1), (4, .v 1 (.slice T_api_Ratio) x11), (6, .v 0 (.int .i64) x6), (25, .v 0 (.int .i64) (y1.length : Int)), (26, .v 0 (.int .i64) x6), (31, .v 9 (.slice (.int .i64)) y9), (32, .v 0 (.int .i64) (y9.length : Int)), (33, .v 0 (.int .i64) x12), (34, .v 0 .bool (decide (x12 < (y9.length : Int))))] pz ?_
      refine W_seq ?_
      refine C h (fun h => ?_) fun h => ?_
      · refine W_skip (W_seq (W_block (W_seq ?_)))
        obtain ⟨o1, h⟩ := h.ass
        refine R1 h [] (fun x13 => [(1, .box 0 T_api_State p0), (3, .v 1 (.slice T_api_Ratio) y1), (4, .v 1 (.slice T_api_Ratio) x11), (6, .v 0 (.int .i64) x6), (8, .v 0 (.int .i64) x13), (25, .v 0 (.int .i64) (y1.length : Int)), (26, .v 0 (.int .i64) x6), (31, .v 9 (.slice (.int .i64)) y9), (32, .v 0 (.int .i64) (y9.length : Int)), (33, .v 0 (.int .i64) x12)]) (ps o1) fun x13 h => ?_
        obtain ⟨o1, h⟩ := h.ass
        obtain ⟨o2, h⟩ := h.ass
        obtain ⟨y14, ey14, h⟩ := h.bind
        refine R1 h [.frz, .res [(0, ⟨0, T_api_Ratio, y14⟩)]] (fun x15 => [(1, .box 0 T_api_State p0), (3, .v 1 (.slice T_api_Ratio) y1), (4, .v 1 (.slice T_api_Ratio) x15), (6, .v 0 (.int .i64) x6), (25, .v 0 (.int .i64) (y1.length : Int)), (26, .v 0 (.int .i64) x6), (31, .v 9 (.slice (.int .i64)) y9), (32, .v 0 (.int .i64) (y9.length : Int)), (33, .v 0 (.int .i64) x12)]) (pc o1 (pc o2 (pc (ratio_Add.ok ey14) (ps o1)))) fun x15 h => ?_
        refine W_blk ?_
        refine R1 h [] (fun x16 => [(1, .box 0 T_api_State p0), (3, .v 1 (.slice T_api_Ratio) y1), (4, .v 1 (.slice T_api_Ratio) x15), (6, .v 0 (.int .i64) x6), (25, .v 0 (.int .i64) (y1.length : Int)), (26, .v 0 (.int .i64) x6), (31, .v 9 (.slice (.int .i64)) y9), (32, .v 0 (.int .i64) (y9.length : Int)), (33, .v 0 (.int .i64) x16)]) pz fun x16 h => ?_
        exact B h
      refine W_exit rfl ?_
      exact K (j4 x11 h.back)
    refine W_exit rfl ?_
    exact K (j2 x5 h.back)
  refine W_block ?_
  refine L2 h (fun x17 x18 => [(1, .box 0 T_api_State p0), (3, .v 1 (.slice T_api_Ratio) y1), (4, .v 1 (.slice T_api_Ratio) x17), (15, .v 0 (.int .i64) (x2.length : Int)), (16, .v 0 (.int .i64) x18)]) fun x17 x18 _ h => ?_
  unfold carry_All_b3 at h
  refine W_seq ?_
  refine R [] [(1, .box 0 T_api_State p0), (3, .v 1 (.slice T_api_Ratio) y1), (4, .v 1 (.slice T_api_Ratio) x17), (15, .v 0 (.int .i64) (x2.length : Int)), (16, .v 0 (.int .i64) x18), (17, .v 0 .bool (decide (x18 < (x2.length : Int))))] pz ?_
  refine W_seq ?_
  refine C h (fun h => ?_) fun h => ?_
  · refine W_skip (W_seq (W_block (W_seq ?_)))
    refine R [] [(1, .box 0 T_api_State p0), (3, .v 1 (.slice T_api_Ratio) y1), (4, .v 1 (.slice T_api_Ratio) x17), (5, .v 0 (.int .i64) x18), (15, .v 0 (.int .i64) (x2.length : Int)), (16, .v 0 (.int .i64) x18)] pz ?_
    obtain ⟨y19, ey19, h⟩ := h.bind
    obtain ⟨o1, h⟩ := h.ass
    refine R1 h [.res [(0, ⟨0, T_api_Ratio, y19⟩)]] (fun x20 => [(1, .box 0 T_api_State p0), (3, .v 1 (.slice T_api_Ratio) y1), (4, .v 1 (.slice T_api_Ratio) x20), (15, .v 0 (.int .i64) (x2.length : Int)), (16, .v 0 (.int .i64) x18)]) (pc (ratio_Zero.ok ey19) (ps o1)) fun x20 h => ?_
    refine W_blk ?_
    refine R1 h [] (fun x21 => [(1, .box 0 T_api_State p0), (3, .v 1 (.slice T_api_Ratio) y1), (4, .v 1 (.slice T_api_Ratio) x20), (15, .v 0 (.int .i64) (x2.length : Int)), (16, .v 0 (.int .i64) x21)]) pz fun x21 h => ?_
    exact B h
  refine W_exit rfl ?_
  exact K (j1 x17 h.back)

def factor_Weights_j1 (x2 : List D_api_Ratio) : Option (List D_api_Ratio) :=
  some x2
def factor_Weights_j2 (x4 : Int) (x6 : List D_api_Ratio) : Option (((List D_api_Ratio) × Int) ⊕ (List D_api_Ratio)) :=
  bnd (i64.wrap (x4 + 1)) fun x7 =>
  some (.inl (x6, x7))
def factor_Weights_b1 (p0 : D_api_State) (x3 : List D_api_Ratio) (x4 : Int) : Option (((List D_api_Ratio) × Int) ⊕ (List D_api_Ratio)) :=
  bif decide (x4 < (p0.2.2.1.length : Int)) then
    ass (0 ≤ x4 ∧ x4 < (p0.2.2.1.length : Int)) <|
    bnd (rd z_api_Thread p0.2.2.1 x4) fun x5 =>
    bif x5.1 == 2 then
      ass (0 ≤ x4 ∧ x4 < (x3.length : Int)) <|
      (factor_Of x5).bind fun y8 =>
      (ratio_Mul [rd z_api_Ratio x3 x4, y8]).bind fun y9 =>
      bnd (wr x3 x4 y9) fun x10 =>
      factor_Weights_j2 x4 x10
    else
    (ratio_Zero).bind fun y11 =>
    ass (0 ≤ x4 ∧ x4 < (x3.length : Int)) <|
    bnd (wr x3 x4 y11) fun x12 =>
    factor_Weights_j2 x4 x12
  else
  (factor_Weights_j1 x3).map .inr
def factor_Weights (p0 : D_api_State) : Option (List D_api_Ratio) :=
  (carry_All p0).bind fun y1 =>
  loopM (fun x : (List D_api_Ratio) × Int => factor_Weights_b1 p0 x.1 x.2) (y1, (0 : Int))
theorem factor_Weights.ok {p0 : D_api_State} {r : List D_api_Ratio} (h : factor_Weights p0 = some r) : ACall prog 22 [⟨T_api_State, p0⟩] [⟨1, .slice T_api_Ratio, r⟩] := by
  replace h := Leads.of h
  unfold factor_Weights at h
  refine AC func22 rfl fun w0 F0 hw0 => ?_
  refine W_seq ?_
  refine R [] [(1, .box 0 T_api_State p0)] pz ?_
  refine W_seq ?_
  obtain ⟨y1, ey1, h⟩ := h.bind
  refine R [.res [(1, ⟨1, .slice T_api_Ratio, y1⟩)]] [(1, .box 0 T_api_State p0), (3, .v 1 (.slice T_api_Ratio) y1)] (ps (carry_All.ok ey1)) ?_
  refine W_seq (W_seq ?_)
  refine R [] [(3, .v 1 (.slice T_api_Ratio) y1), (9, .v 0 (.slice T_api_Thread) p0.2.2.1), (10, .v 0 (.int .i64) (p0.2.2.1.length : Int)), (11, .v 0 (.int .i64) (0 : Int))] pz ?_
  refine J1 h factor_Weights_j1 (fun x2 => [(3, .v 1 (.slice T_api_Ratio) x2)]) (fun x2 h => ?_) fun j1 => ?_
  · unfold factor_Weights_j1 at h
    refine W_seq ?_
    refine R [] [(2, .v 1 (.slice T_api_Ratio) x2)] pz ?_
    cases h
    exact Rt hw0
  refine W_block ?_
  refine L2 h (fun x3 x4 => [(3, .v 1 (.slice T_api_Ratio) x3), (9, .v 0 (.slice T_api_Thread) p0.2.2.1), (10, .v 0 (.int .i64) (p0.2.2.1.length : Int)), (11, .v 0 (.int .i64) x4)]) fun x3 x4 _ h => ?_
  unfold factor_Weights_b1 at h
  refine W_seq ?_
  refine R [] [(3, .v 1 (.slice T_api_Ratio) x3), (9, .v 0 (.slice T_api_Thread) p0.2.2.1), (10, .v 0 (.int .i64) (p0.2.2.1.length : Int)), (11, .v 0 (.int .i64) x4), (12, .v 0 .bool (decide (x4 < (p0.2.2.1.length : Int))))] pz ?_
  refine W_seq ?_
  refine C h (fun h => ?_) fun h => ?_
  · refine W_skip (W_seq (W_block (W_seq ?_)))
    obtain ⟨o1, h⟩ := h.ass
    refine R1 h [] (fun x5 => [(3, .v 1 (.slice T_api_Ratio) x3), (4, .v 0 (.int .i64) x4), (5, .box 9 T_api_Thread x5), (9, .v 0 (.slice T_api_Thread) p0.2.2.1), (10, .v 0 (.int .i64) (p0.2.2.1.length : Int)), (11, .v 0 (.int .i64) x4)]) (ps o1) fun x5 h => ?_
    refine W_seq ?_
    refine R [] [(3, .v 1 (.slice T_api_Ratio) x3), (4, .v 0 (.int .i64) x4), (5, .box 9 T_api_Thread x5), (9, .v 0 (.slice T_api_Thread) p0.2.2.1), (10, .v 0 (.int .i64) (p0.2.2.1.length : Int)), (11, .v 0 (.int .i64) x4), (18, .v 0 .bool (x5.1 == 2))] pz ?_
    refine J1 h (factor_Weights_j2 x4) (fun x6 => [(3, .v 1 (.slice T_api_Ratio) x6), (9, .v 0 (.slice T_api_Thread) p0.2.2.1), (10, .v 0 (.int .i64) (p0.2.2.1.length : Int)), (11, .v 0 (.int .i64) x4)]) (fun x6 h => ?_) fun j2 => ?_
    · unfold factor_Weights_j2 at h
      refine W_blk ?_
      refine R1 h [] (fun x7 => [(3, .v 1 (.slice T_api_Ratio) x6), (9, .v 0 (.slice T_api_Thread) p0.2.2.1), (10, .v 0 (.int .i64) (p0.2.2.1.length : Int)), (11, .v 0 (.int .i64) x7)]) pz fun x7 h => ?_
      exact B h
    refine C h (fun h => ?_) fun h => ?_
    · obtain ⟨o1, h⟩ := h.ass
      obtain ⟨y8, ey8, h⟩ := h.bind
      obtain ⟨y9, ey9, h⟩ := h.bind
      refine R1 h [.res [(0, ⟨0, T_api_Ratio, y8⟩)], .frz, .res [(0, ⟨0, T_api_Ratio, y9⟩)]] (fun x10 => [(3, .v 1 (.slice T_api_Ratio) x10), (9, .v 0 (.slice T_api_Thread) p0.2.2.1), (10, .v 0 (.int .i64) (p0.2.2.1.length : Int)), (11, .v 0 (.int .i64) x4)]) (pc o1 (pc (factor_Of.ok ey8) (pc (ratio_Mul.ok ey9) (ps o1)))) fun x10 h => ?_
      exact K (j2 x10 h)
    obtain ⟨y11, ey11, h⟩ := h.bind
    obtain ⟨o1, h⟩ := h.ass
    refine R1 h [.res [(0, ⟨0, T_api_Ratio, y11⟩)]] (fun x12 => [(3, .v 1 (.slice T_api_Ratio) x12), (9, .v 0 (.slice T_api_Thread) p0.2.2.1), (10, .v 0 (.int .i64) (p0.2.2.1.length : Int)), (11, .v 0 (.int .i64) x4)]) (pc (ratio_Zero.ok ey11) (ps o1)) fun x12 h => ?_
    exact K (j2 x12 h)
  refine W_exit rfl ?_
  exact K (j1 x3 h.back)

def r18_Same_j1 : Option (Bool) :=
  some true
def r18_Same_b1 (p0 : List D_api_Ratio) (p1 : List D_r04_Q) (x1 : Int) : Option (Int ⊕ Bool) :=
  bif decide (x1 < (p0.length : Int)) then
    ass (0 ≤ x1 ∧ x1 < (p0.length : Int)) <|
    ass (0 ≤ x1 ∧ x1 < (p1.length : Int)) <|
    (r04_Same (rd z_api_Ratio p0 x1) (rd z_r04_Q p1 x1)).bind fun y2 =>
    bif !y2 then
      some (.inr false)
    else
    bnd (i64.wrap (x1 + 1)) fun x3 =>
    some (.inl x3)
  else
  (r18_Same_j1).map .inr
def r18_Same (p0 : List D_api_Ratio) (p1 : List D_r04_Q) : Option Bool :=
  bif (p0.length : Int) != (p1.length : Int) then
    some false
  else
  loopM (fun x : Int => r18_Same_b1 p0 p1 x) (0 : Int)
theorem r18_Same.ok {p0 : List D_api_Ratio} {p1 : List D_r04_Q} {r : Bool} (h : r18_Same p0 p1 = some r) : ACall prog 21 [⟨.slice T_api_Ratio, p0⟩, ⟨.slice T_r04_Q, p1⟩] [⟨0, .bool, r⟩] := by
  replace h := Leads.of h
  unfold r18_Same at h
  refine AC func21 rfl fun w0 F0 hw0 => ?_
  refine W_seq ?_
  refine R [] [(0, .v 0 (.slice T_api_Ratio) p0), (1, .v 0 (.slice T_r04_Q) p1)] pz ?_
  refine W_seq (W_seq ?_)
  refine R [] [(0, .v 0 (.slice T_api_Ratio) p0), (1, .v 0 (.slice T_r04_Q) p1), (10, .v 0 .bool ((p0.length : Int) != (p1.length : Int)))] pz ?_
  refine C h (fun h => ?_) fun h => ?_
  · refine W_seq ?_
    refine R [] [(4, .v 0 .bool false)] pz ?_
    cases h
    exact Rt hw0
  refine W_skip (W_seq (W_seq ?_))
  refine R [] [(0, .v 0 (.slice T_api_Ratio) p0), (1, .v 0 (.slice T_r04_Q) p1), (5, .v 0 (.int .i64) (0 : Int))] pz ?_
  refine J0 h r18_Same_j1 ([]) (fun h => ?_) fun j1 => ?_
  · unfold r18_Same_j1 at h
    refine W_seq ?_
    refine R [] [(4, .v 0 .bool true)] pz ?_
    cases h
    exact Rt hw0
  refine W_block ?_
  refine L1 h (fun x1 => [(0, .v 0 (.slice T_api_Ratio) p0), (1, .v 0 (.slice T_r04_Q) p1), (5, .v 0 (.int .i64) x1)]) fun x1 _ h => ?_
  unfold r18_Same_b1 at h
  refine W_seq (W_seq ?_)
  refine R [] [(0, .v 0 (.slice T_api_Ratio) p0), (1, .v 0 (.slice T_r04_Q) p1), (5, .v 0 (.int .i64) x1), (14, .v 0 .bool (decide (x1 < (p0.length : Int))))] pz ?_
  refine C h (fun h => ?_) fun h => ?_
  · refine W_skip (W_seq (W_block (W_seq ?_)))
    obtain ⟨o1, h⟩ := h.ass
    obtain ⟨o2, h⟩ := h.ass
    obtain ⟨y2, ey2, h⟩ := h.bind
    refine R [.res [(0, ⟨0, .bool, y2⟩)]] [(0, .v 0 (.slice T_api_Ratio) p0), (1, .v 0 (.slice T_r04_Q) p1), (5, .v 0 (.int .i64) x1), (26, .v 0 .bool (!y2))] (pc o1 (pc o2 (ps (r04_Same.ok ey2)))) ?_
    refine C h (fun h => ?_) fun h => ?_
    · refine W_seq ?_
      refine R [] [(4, .v 0 .bool false)] pz ?_
      cases h
      exact Rt hw0
    refine W_skip (W_blk ?_)
    refine R1 h [] (fun x3 => [(0, .v 0 (.slice T_api_Ratio) p0), (1, .v 0 (.slice T_r04_Q) p1), (5, .v 0 (.int .i64) x3)]) pz fun x3 h => ?_
    exact B h
  refine W_exit rfl ?_
  exact K (j1 h.back)

def l20_FactorTells_j2 (p0 : D_api_State) (x11 : List D_r04_Q) : Option (Bool) :=
  (factor_Weights p0).bind fun y12 =>
  (r18_Same y12 x11).bind fun y13 =>
  (bif y13 then l20_alive else some false).bind fun y14 =>
  bnd (y13 && y14) fun x15 =>
  some x15
def l20_FactorTells_b1 (p0 : D_api_State) (x16 : List D_r04_Q) (x17 : Int) : Option (((List D_r04_Q) × Int) ⊕ Bool) :=
  bif decide (x17 < (p0.2.2.1.length : Int)) then
    (r20_Weight p0 x17).bind fun y18 =>
    ass (((x16.length + [y18].length : Nat) : Int) ≤ limQ) <|
    bnd (x16 ++ [y18]) fun x19 =>
    bnd (i64.wrap (x17 + 1)) fun x20 =>
    some (.inl (x19, x20))
  else
  (l20_FactorTells_j2 p0 x16).map .inr
def l20_FactorTells_j1 (p0 : D_api_State) (p1 : D_api_Thread) (x4 : D_r04_Q) : Option (Bool) :=
  (factor_Of p1).bind fun y5 =>
  (r04_Same y5 x4).bind fun y6 =>
  bif !y6 then
    some false
  else
  (r14_Small p0).bind fun y7 =>
  (bif !(!y7) then r17_Light p0 else some false).bind fun y8 =>
  (bif !((!y7) || (!y8)) then r14_Fine p0 else some false).bind fun y9 =>
  bif ((!y7) || (!y8)) || (!y9) then
    (l20_alive).bind fun y10 =>
    some y10
  else
  loopM (fun x : (List D_r04_Q) × Int => l20_FactorTells_b1 p0 x.1 x.2) (([] : List D_r04_Q), (0 : Int))
def l20_FactorTells (p0 : D_api_State) (p1 : D_api_Thread) (p2 : Int) (p3 : Int) : Option Bool :=
  (factor_Used p2 p3).bind fun y1 =>
  (r20_Used p2 p3).bind fun y2 =>
  bif ((y1.1 != y2.1) || (y1.2.1 != y2.2.1)) || (y1.2.2 != y2.2.2) then
    some false
  else
  (r04_Int (0 : Int)).bind fun y3 =>
  bif (decide (p1.2.2.2.1 > 0)) && (decide (p1.2.2.2.2 > 0)) then
    (r04_Of (u64.wrap p1.2.2.2.1) (u64.wrap p1.2.2.2.2)).bind fun y21 =>
    l20_FactorTells_j1 p0 p1 y21
  else
  l20_FactorTells_j1 p0 p1 y3
theorem l20_FactorTells.ok {p0 : D_api_State} {p1 : D_api_Thread} {p2 : Int} {p3 : Int} {r : Bool} (h : l20_FactorTells p0 p1 p2 p3 = some r) : ACall prog 3 [⟨T_api_State, p0⟩, ⟨T_api_Thread, p1⟩, ⟨.int .i64, p2⟩, ⟨.int .i64, p3⟩] [⟨0, .bool, r⟩] := by
  replace h := Leads.of h
  unfold l20_FactorTells at h
  refine AC func3 rfl fun w0 F0 hw0 => ?_
  refine W_seq ?_
  refine R [] [(2, .v 0 (.int .i64) p2), (3, .v 0 (.int .i64) p3), (4, .box 0 T_api_State p0), (5, .box 9 T_api_Thread p1)] pz ?_
  refine W_seq ?_
  obtain ⟨y1, ey1, h⟩ := h.bind
  refine R [.res [(0, ⟨0, .int .i64, y1.1⟩), (0, ⟨0, .int .i64, y1.2.1⟩), (0, ⟨0, .int .i64, y1.2.2⟩)]] [(2, .v 0 (.int .i64) p2), (3, .v 0 (.int .i64) p3), (4, .box 0 T_api_State p0), (5, .box 9 T_api_Thread p1), (9, .v 0 (.int .i64) y1.1), (10, .v 0 (.int .i64) y1.2.1), (11, .v 0 (.int .i64) y1.2.2)] (ps (factor_Used.ok ey1)) ?_
  refine W_seq ?_
  obtain ⟨y2, ey2, h⟩ := h.bind
  refine R [.res [(0, ⟨0, .int .i64, y2.1⟩), (0, ⟨0, .int .i64, y2.2.1⟩), (0, ⟨0, .int .i64, y2.2.2⟩)]] [(4, .box 0 T_api_State p0), (5, .box 9 T_api_Thread p1), (9, .v 0 (.int .i64) y1.1), (10, .v 0 (.int .i64) y1.2.1), (11, .v 0 (.int .i64) y1.2.2), (12, .v 0 (.int .i64) y2.1), (13, .v 0 (.int .i64) y2.2.1), (14, .v 0 (.int .i64) y2.2.2)] (ps (r20_Used.ok ey2)) ?_
  refine W_seq (W_seq ?_)
  refine R [] [(4, .box 0 T_api_State p0), (5, .box 9 T_api_Thread p1), (44, .v 0 .bool (((y1.1 != y2.1) || (y1.2.1 != y2.2.1)) || (y1.2.2 != y2.2.2)))] pz ?_
  refine C h (fun h => ?_) fun h => ?_
  · refine W_seq ?_
    refine R [] [(8, .v 0 .bool false)] pz ?_
    cases h
    exact Rt hw0
  refine W_skip (W_seq ?_)
  obtain ⟨y3, ey3, h⟩ := h.bind
  refine R [.res [(0, ⟨0, T_r04_Q, y3⟩)]] [(4, .box 0 T_api_State p0), (5, .box 9 T_api_Thread p1), (15, .box 0 T_r04_Q y3)] (ps (r04_Int.ok ey3)) ?_
  refine W_seq (W_seq ?_)
  refine R [] [(4, .box 0 T_api_State p0), (5, .box 9 T_api_Thread p1), (15, .box 0 T_r04_Q y3), (53, .v 0 .bool ((decide (p1.2.2.2.1 > 0)) && (decide (p1.2.2.2.2 > 0))))] pz ?_
  refine J1 h (l20_FactorTells_j1 p0 p1) (fun x4 => [(4, .box 0 T_api_State p0), (5, .box 9 T_api_Thread p1), (15, .box 0 T_r04_Q x4)]) (fun x4 h => ?_) fun j1 => ?_
  · unfold l20_FactorTells_j1 at h
    refine W_seq (W_seq ?_)
    obtain ⟨y5, ey5, h⟩ := h.bind
    obtain ⟨y6, ey6, h⟩ := h.bind
    refine R [.res [(0, ⟨0, T_api_Ratio, y5⟩)], .res [(0, ⟨0, .bool, y6⟩)]] [(4, .box 0 T_api_State p0), (65, .v 0 .bool (!y6))] (pc (factor_Of.ok ey5) (ps (r04_Same.ok ey6))) ?_
    refine C h (fun h => ?_) fun h => ?_
    · refine W_seq ?_
      refine R [] [(8, .v 0 .bool false)] pz ?_
      cases h
      exact Rt hw0
    refine W_skip (W_seq (W_seq ?_))
    obtain ⟨y7, ey7, h⟩ := h.bind
    obtain ⟨y8, ey8, h⟩ := h.bind
    obtain ⟨y9, ey9, h⟩ := h.bind
    refine R [.res [(0, ⟨0, .bool, y7⟩)], .res [(0, ⟨0, .bool, y8⟩)], .res [(0, ⟨0, .bool, y9⟩)]] [(4, .box 0 T_api_State p0), (78, .v 0 .bool (((!y7) || (!y8)) || (!y9)))] (pc (r14_Small.ok ey7) (pc (fun hc => r17_Light.ok (bif_some ey8 hc)) (ps (fun hc => r14_Fine.ok (bif_some ey9 hc))))) ?_
    refine C h (fun h => ?_) fun h => ?_
    · refine W_seq ?_
      obtain ⟨y10, ey10, h⟩ := h.bind
      refine R [.res [(0, ⟨0, .bool, y10⟩)]] [(8, .v 0 .bool y10)] (ps (l20_alive.ok ey10)) ?_
      cases h
      exact Rt hw0
    refine W_skip (W_seq ?_)
    refine R [] [(4, .box 0 T_api_State p0), (16, .v 9 (.slice T_r04_Q) ([] : List D_r04_Q))] pz ?_
    refine W_seq (W_seq ?_)
    refine R [] [(4, .box 0 T_api_State p0), (16, .v 9 (.slice T_r04_Q) ([] : List D_r04_Q)), (17, .v 0 (.int .i64) (0 : Int))] pz ?_
    refine J1 h (l20_FactorTells_j2 p0) (fun x11 => [(4, .box 0 T_api_State p0), (16, .v 1 (.slice T_r04_Q) x11)]) (fun x11 h => ?_) fun j2 => ?_
    · unfold l20_FactorTells_j2 at h
      refine W_seq ?_
      obtain ⟨y12, ey12, h⟩ := h.bind
      obtain ⟨y13, ey13, h⟩ := h.bind
      obtain ⟨y14, ey14, h⟩ := h.bind
      refine R1 h [.res [(1, ⟨1, .slice T_api_Ratio, y12⟩)], .res [(0, ⟨0, .bool, y13⟩)], .res [(0, ⟨0, .bool, y14⟩)]] (fun x15 => [(8, .v 0 .bool x15)]) (pc (factor_Weights.ok ey12) (pc (r18_Same.ok ey13) (ps (fun hc => l20_alive.ok (bif_some ey14 hc))))) fun x15 h => ?_
      cases h
      exact Rt hw0
    refine W_block ?_
    refine L2 h (fun x16 x17 => [(4, .box 0 T_api_State p0), (16, .v 1 (.slice T_r04_Q) x16), (17, .v 0 (.int .i64) x17)]) fun x16 x17 _ h => ?_
    unfold l20_FactorTells_b1 at h
    refine W_seq (W_seq ?_)
    refine R [] [(4, .box 0 T_api_State p0), (16, .v 1 (.slice T_r04_Q) x16), (17, .v 0 (.int .i64) x17), (84, .v 0 .bool (decide (x17 < (p0.2.2.1.length : Int))))] pz ?_
    refine C h (fun h => ?_) fun h => ?_
    · refine W_skip (W_seq (W_block ?_))
      obtain ⟨y18, ey18, h⟩ := h.bind
      obtain ⟨o1, h⟩ := h.ass
      refine R1 h [.res [(0, ⟨0, T_r04_Q, y18⟩)]] (fun x19 => [(4, .box 0 T_api_State p0), (16, .v 1 (.slice T_r04_Q) x19), (17, .v 0 (.int .i64) x17)]) (pc (r20_Weight.ok ey18) (ps o1)) fun x19 h => ?_
      refine W_blk ?_
      refine R1 h [] (fun x20 => [(4, .box 0 T_api_State p0), (16, .v 1 (.slice T_r04_Q) x19), (17, .v 0 (.int .i64) x20)]) pz fun x20 h => ?_
      exact B h
    refine W_exit rfl ?_
    exact K (j2 x16 h.back)
  refine C h (fun h => ?_) fun h => ?_
  · obtain ⟨y21, ey21, h⟩ := h.bind
    refine R [.res [(0, ⟨0, T_r04_Q, y21⟩)]] [(4, .box 0 T_api_State p0), (5, .box 9 T_api_Thread p1), (15, .box 0 T_r04_Q y21)] (ps (r04_Of.ok ey21)) ?_
    exact K (j1 y21 h)
  refine W_skip ?_
  exact K (j1 y3 h)

end
end Go.Tom
