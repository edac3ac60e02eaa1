/- Each function of the program as a pure one, and the proof that the code keeps that contract. -/
import Derived.Test.YtomdhjdgcfcjdaaGreatDoorGenT
set_option linter.unusedVariables false
set_option linter.constructorNameAsVariable false
set_option maxRecDepth 100000
namespace Go.Tom
open Go Go.IntKind Go.Proofs.Tryz
noncomputable section
def l04_short (p0 : D_api_Ratio) : Option Bool :=
  bnd ((decide ((p0.1.length : Int) ≤ 6)) && (decide ((p0.2.length : Int) ≤ 6))) fun x1 =>
  some x1
theorem l04_short.ok {p0 : D_api_Ratio} {r : Bool} (h : l04_short p0 = some r) : ACall prog 4 [⟨T_api_Ratio, p0⟩] [⟨0, .bool, r⟩] := by
  replace h := Leads.of h
  unfold l04_short at h
  refine AC func4 rfl fun w0 F0 hw0 => ?_
  refine W_seq ?_
  refine R [] [(1, .box 0 T_api_Ratio p0)] pz ?_
  refine W_seq ?_
  refine R1 h [] (fun x1 => [(2, .v 0 .bool x1)]) pz fun x1 h => ?_
  cases h
  exact Rt hw0

def slices_Clone_api_Nat_uint32 (p0 : List Int) : Option (List Int) :=
  ass (((([] : List Int).length + p0.length : Nat) : Int) ≤ limA) <|
  bnd (([] : List Int) ++ p0) fun x2 =>
  some x2
theorem slices_Clone_api_Nat_uint32.ok {p0 : List Int} {r : List Int} (h : slices_Clone_api_Nat_uint32 p0 = some r) : ACall prog 69 [⟨.slice (.int .u32), p0⟩] [⟨9, .slice (.int .u32), r⟩] := by
  replace h := Leads.of h
  unfold slices_Clone_api_Nat_uint32 at h
  refine AC func69 rfl fun w0 F0 hw0 => ?_
  refine W_seq ?_
  refine R [] [(0, .v 0 (.slice (.int .u32)) p0)] pz ?_
  refine W_seq (W_seq ?_)
  refine W_nilcmp mixed tys_ok rfl (x := 3) (d := 4) (T := 23) rfl rfl rfl (E1 := [(3, .v 0 (.slice (.int .u32)) p0), (0, .v 0 (.slice (.int .u32)) p0)]) (by kernel_rfl) rfl rfl (by kernel_rfl) (fun nb1 hn => ?_)
  refine K (E' := [(0, .v 0 (.slice (.int .u32)) p0), (4, .v 0 .bool nb1)]) ?_
  refine W_cond (β := nb1) (by kernel_rfl) (fun hb => ?_) (fun hb => ?_)
  · replace h := clone_nil (hn hb) h
    refine W_seq ?_
    refine R [] [(2, .v 9 (.slice (.int .u32)) ([] : List Int))] pz ?_
    cases h
    exact Rt hw0
  · skip
    refine W_skip (W_seq ?_)
    obtain ⟨o1, h⟩ := h.ass
    refine R1 h [] (fun x2 => [(2, .v 9 (.slice (.int .u32)) x2)]) (ps o1) fun x2 h => ?_
    cases h
    exact Rt hw0

def nat_Cut_j1 (p0 : List Int) (x1 : Int) : Option (List Int) :=
  ass (0 ≤ (0 : Int) ∧ (0 : Int) ≤ x1 ∧ x1 ≤ (p0.length : Int)) <|
  (slices_Clone_api_Nat_uint32 (sl p0 (0 : Int) x1)).bind fun y2 =>
  some y2
def nat_Cut_b1 (p0 : List Int) (x3 : Int) : Option (Int ⊕ (List Int)) :=
  ass ((decide (x3 > 0)) = true → 0 ≤ i64.wrap (x3 - 1) ∧ i64.wrap (x3 - 1) < (p0.length : Int)) <|
  bif (decide (x3 > 0)) && ((rd (0 : Int) p0 (i64.wrap (x3 - 1))) == 0) then
    bnd (i64.wrap (x3 - 1)) fun x4 =>
    some (.inl x4)
  else
  (nat_Cut_j1 p0 x3).map .inr
def nat_Cut (p0 : List Int) : Option (List Int) :=
  loopM (fun x : Int => nat_Cut_b1 p0 x) (p0.length : Int)
theorem nat_Cut.ok {p0 : List Int} {r : List Int} (h : nat_Cut p0 = some r) : ACall prog 49 [⟨.slice (.int .u32), p0⟩] [⟨9, .slice (.int .u32), r⟩] := by
  replace h := Leads.of h
  unfold nat_Cut at h
  refine AC func49 rfl fun w0 F0 hw0 => ?_
  refine W_seq ?_
  refine R [] [(0, .v 0 (.slice (.int .u32)) p0)] pz ?_
  refine W_seq ?_
  refine R [] [(0, .v 0 (.slice (.int .u32)) p0), (3, .v 0 (.int .i64) (p0.length : Int))] pz ?_
  refine W_seq ?_
  refine J1 h (nat_Cut_j1 p0) (fun x1 => [(0, .v 0 (.slice (.int .u32)) p0), (3, .v 0 (.int .i64) x1)]) (fun x1 h => ?_) fun j1 => ?_
  · unfold nat_Cut_j1 at h
    refine W_seq ?_
    obtain ⟨o1, h⟩ := h.ass
    obtain ⟨y2, ey2, h⟩ := h.bind
    refine R [.res [(9, ⟨9, .slice (.int .u32), y2⟩)]] [(2, .v 9 (.slice (.int .u32)) y2)] (pc o1 (ps (slices_Clone_api_Nat_uint32.ok ey2))) ?_
    cases h
    exact Rt hw0
  refine W_block ?_
  refine L1 h (fun x3 => [(0, .v 0 (.slice (.int .u32)) p0), (3, .v 0 (.int .i64) x3)]) fun x3 _ h => ?_
  unfold nat_Cut_b1 at h
  refine W_seq (W_seq ?_)
  obtain ⟨o1, h⟩ := h.ass
  refine R [] [(0, .v 0 (.slice (.int .u32)) p0), (3, .v 0 (.int .i64) x3), (15, .v 0 .bool ((decide (x3 > 0)) && ((rd (0 : Int) p0 (i64.wrap (x3 - 1))) == 0)))] (ps o1) ?_
  refine C h (fun h => ?_) fun h => ?_
  · refine W_skip (W_block ?_)
    refine R1 h [] (fun x4 => [(0, .v 0 (.slice (.int .u32)) p0), (3, .v 0 (.int .i64) x4)]) pz fun x4 h => ?_
    refine W_blk ?_
    exact B h
  refine W_exit rfl ?_
  exact K (j1 x3 h.back)

def nat_Of (p0 : Int) : Option (List Int) :=
  ass (0 ≤ (32 : Int)) <|
  (nat_Cut [u32.wrap p0, u32.wrap (p0.fdiv (2 ^ (min (32 : Int).toNat u64.bits)))]).bind fun y1 =>
  some y1
theorem nat_Of.ok {p0 : Int} {r : List Int} (h : nat_Of p0 = some r) : ACall prog 28 [⟨.int .u64, p0⟩] [⟨9, .slice (.int .u32), r⟩] := by
  replace h := Leads.of h
  unfold nat_Of at h
  refine AC func28 rfl fun w0 F0 hw0 => ?_
  refine W_seq ?_
  refine R [] [(0, .v 0 (.int .u64) p0)] pz ?_
  refine W_seq ?_
  obtain ⟨o1, h⟩ := h.ass
  obtain ⟨y1, ey1, h⟩ := h.bind
  refine R [.res [(9, ⟨9, .slice (.int .u32), y1⟩)]] [(2, .v 9 (.slice (.int .u32)) y1)] (pc o1 (ps (nat_Cut.ok ey1))) ?_
  cases h
  exact Rt hw0

def nat_at (p0 : List Int) (p1 : Int) : Option Int :=
  bif decide (p1 < (p0.length : Int)) then
    ass (0 ≤ p1 ∧ p1 < (p0.length : Int)) <|
    bnd (rd (0 : Int) p0 p1) fun x1 =>
    some x1
  else
  some (0 : Int)
theorem nat_at.ok {p0 : List Int} {p1 : Int} {r : Int} (h : nat_at p0 p1 = some r) : ACall prog 48 [⟨.slice (.int .u32), p0⟩, ⟨.int .i64, p1⟩] [⟨0, .int .u32, r⟩] := by
  replace h := Leads.of h
  unfold nat_at at h
  refine AC func48 rfl fun w0 F0 hw0 => ?_
  refine W_seq ?_
  refine R [] [(0, .v 0 (.slice (.int .u32)) p0), (1, .v 0 (.int .i64) p1)] pz ?_
  refine W_seq (W_seq ?_)
  refine R [] [(0, .v 0 (.slice (.int .u32)) p0), (1, .v 0 (.int .i64) p1), (8, .v 0 .bool (decide (p1 < (p0.length : Int))))] pz ?_
  refine C h (fun h => ?_) fun h => ?_
  · refine W_seq ?_
    obtain ⟨o1, h⟩ := h.ass
    refine R1 h [] (fun x1 => [(4, .v 0 (.int .u32) x1)]) (ps o1) fun x1 h => ?_
    cases h
    exact Rt hw0
  refine W_skip (W_seq ?_)
  refine R [] [(4, .v 0 (.int .u32) (0 : Int))] pz ?_
  cases h
  exact Rt hw0

def cmp_isNaN_uint32 (p0 : Int) : Option Bool :=
  bnd (p0 != p0) fun x1 =>
  some x1
theorem cmp_isNaN_uint32.ok {p0 : Int} {r : Bool} (h : cmp_isNaN_uint32 p0 = some r) : ACall prog 68 [⟨.int .u32, p0⟩] [⟨0, .bool, r⟩] := by
  replace h := Leads.of h
  unfold cmp_isNaN_uint32 at h
  refine AC func68 rfl fun w0 F0 hw0 => ?_
  refine W_seq ?_
  refine R [] [(0, .v 0 (.int .u32) p0)] pz ?_
  refine W_seq ?_
  refine R1 h [] (fun x1 => [(2, .v 0 .bool x1)]) pz fun x1 h => ?_
  cases h
  exact Rt hw0

def cmp_Compare_uint32 (p0 : Int) (p1 : Int) : Option Int :=
  (cmp_isNaN_uint32 p0).bind fun y1 =>
  (cmp_isNaN_uint32 p1).bind fun y2 =>
  bif y1 then
    bif y2 then
      some (0 : Int)
    else
    some (-1 : Int)
  else
  bif y2 then
    some (1 : Int)
  else
  bif decide (p0 < p1) then
    some (-1 : Int)
  else
  bif decide (p0 > p1) then
    some (1 : Int)
  else
  some (0 : Int)
theorem cmp_Compare_uint32.ok {p0 : Int} {p1 : Int} {r : Int} (h : cmp_Compare_uint32 p0 p1 = some r) : ACall prog 47 [⟨.int .u32, p0⟩, ⟨.int .u32, p1⟩] [⟨0, .int .i64, r⟩] := by
  replace h := Leads.of h
  unfold cmp_Compare_uint32 at h
  refine AC func47 rfl fun w0 F0 hw0 => ?_
  refine W_seq ?_
  refine R [] [(0, .v 0 (.int .u32) p0), (1, .v 0 (.int .u32) p1)] pz ?_
  refine W_seq ?_
  obtain ⟨y1, ey1, h⟩ := h.bind
  refine R [.res [(0, ⟨0, .bool, y1⟩)]] [(0, .v 0 (.int .u32) p0), (1, .v 0 (.int .u32) p1), (5, .v 0 .bool y1)] (ps (cmp_isNaN_uint32.ok ey1)) ?_
  refine W_seq ?_
  obtain ⟨y2, ey2, h⟩ := h.bind
  refine R [.res [(0, ⟨0, .bool, y2⟩)]] [(0, .v 0 (.int .u32) p0), (1, .v 0 (.int .u32) p1), (5, .v 0 .bool y1), (6, .v 0 .bool y2)] (ps (cmp_isNaN_uint32.ok ey2)) ?_
  refine W_seq (W_seq ?_)
  refine R [] [(0, .v 0 (.int .u32) p0), (1, .v 0 (.int .u32) p1), (6, .v 0 .bool y2), (11, .v 0 .bool y1)] pz ?_
  refine C h (fun h => ?_) fun h => ?_
  · refine W_seq (W_seq ?_)
    refine R [] [(12, .v 0 .bool y2)] pz ?_
    refine C h (fun h => ?_) fun h => ?_
    · refine W_seq ?_
      refine R [] [(4, .v 0 (.int .i64) (0 : Int))] pz ?_
      cases h
      exact Rt hw0
    refine W_skip (W_seq ?_)
    refine R [] [(4, .v 0 (.int .i64) (-1 : Int))] pz ?_
    cases h
    exact Rt hw0
  refine W_skip (W_seq (W_seq ?_))
  refine R [] [(0, .v 0 (.int .u32) p0), (1, .v 0 (.int .u32) p1), (13, .v 0 .bool y2)] pz ?_
  refine C h (fun h => ?_) fun h => ?_
  · refine W_seq ?_
    refine R [] [(4, .v 0 (.int .i64) (1 : Int))] pz ?_
    cases h
    exact Rt hw0
  refine W_skip (W_seq (W_seq ?_))
  refine R [] [(0, .v 0 (.int .u32) p0), (1, .v 0 (.int .u32) p1), (16, .v 0 .bool (decide (p0 < p1)))] pz ?_
  refine C h (fun h => ?_) fun h => ?_
  · refine W_seq ?_
    refine R [] [(4, .v 0 (.int .i64) (-1 : Int))] pz ?_
    cases h
    exact Rt hw0
  refine W_skip (W_seq (W_seq ?_))
  refine R [] [(19, .v 0 .bool (decide (p0 > p1)))] pz ?_
  refine C h (fun h => ?_) fun h => ?_
  · refine W_seq ?_
    refine R [] [(4, .v 0 (.int .i64) (1 : Int))] pz ?_
    cases h
    exact Rt hw0
  refine W_skip (W_seq ?_)
  refine R [] [(4, .v 0 (.int .i64) (0 : Int))] pz ?_
  cases h
  exact Rt hw0

def nat_Cmp_j1 : Option (Int) :=
  some (0 : Int)
def nat_Cmp_b1 (p0 : List Int) (p1 : List Int) (x2 : Int) : Option (Int ⊕ Int) :=
  bif decide (x2 ≥ 0) then
    (nat_at p0 x2).bind fun y3 =>
    (nat_at p1 x2).bind fun y4 =>
    (cmp_Compare_uint32 y3 y4).bind fun y5 =>
    bif y5 != 0 then
      some (.inr y5)
    else
    bnd (i64.wrap (x2 - 1)) fun x6 =>
    some (.inl x6)
  else
  (nat_Cmp_j1).map .inr
def nat_Cmp (p0 : List Int) (p1 : List Int) : Option Int :=
  bnd (i64.wrap ((if (p1.length : Int) > (p0.length : Int) then (p1.length : Int) else (p0.length : Int)) - 1)) fun x1 =>
  loopM (fun x : Int => nat_Cmp_b1 p0 p1 x) x1
theorem nat_Cmp.ok {p0 : List Int} {p1 : List Int} {r : Int} (h : nat_Cmp p0 p1 = some r) : ACall prog 27 [⟨.slice (.int .u32), p0⟩, ⟨.slice (.int .u32), p1⟩] [⟨0, .int .i64, r⟩] := by
  replace h := Leads.of h
  unfold nat_Cmp at h
  refine AC func27 rfl fun w0 F0 hw0 => ?_
  refine W_seq ?_
  refine R [] [(0, .v 0 (.slice (.int .u32)) p0), (1, .v 0 (.slice (.int .u32)) p1)] pz ?_
  refine W_seq (W_seq ?_)
  refine R1 h [] (fun x1 => [(0, .v 0 (.slice (.int .u32)) p0), (1, .v 0 (.slice (.int .u32)) p1), (5, .v 0 (.int .i64) x1)]) pz fun x1 h => ?_
  refine J0 h nat_Cmp_j1 ([]) (fun h => ?_) fun j1 => ?_
  · unfold nat_Cmp_j1 at h
    refine W_seq ?_
    refine R [] [(4, .v 0 (.int .i64) (0 : Int))] pz ?_
    cases h
    exact Rt hw0
  refine W_block ?_
  refine L1 h (fun x2 => [(0, .v 0 (.slice (.int .u32)) p0), (1, .v 0 (.slice (.int .u32)) p1), (5, .v 0 (.int .i64) x2)]) fun x2 _ h => ?_
  unfold nat_Cmp_b1 at h
  refine W_seq (W_seq ?_)
  refine R [] [(0, .v 0 (.slice (.int .u32)) p0), (1, .v 0 (.slice (.int .u32)) p1), (5, .v 0 (.int .i64) x2), (14, .v 0 .bool (decide (x2 ≥ 0)))] pz ?_
  refine C h (fun h => ?_) fun h => ?_
  · refine W_skip (W_seq (W_block (W_seq ?_)))
    obtain ⟨y3, ey3, h⟩ := h.bind
    obtain ⟨y4, ey4, h⟩ := h.bind
    obtain ⟨y5, ey5, h⟩ := h.bind
    refine R [.res [(0, ⟨0, .int .u32, y3⟩)], .res [(0, ⟨0, .int .u32, y4⟩)], .res [(0, ⟨0, .int .i64, y5⟩)]] [(0, .v 0 (.slice (.int .u32)) p0), (1, .v 0 (.slice (.int .u32)) p1), (5, .v 0 (.int .i64) x2), (6, .v 0 (.int .i64) y5)] (pc (nat_at.ok ey3) (pc (nat_at.ok ey4) (ps (cmp_Compare_uint32.ok ey5)))) ?_
    refine W_seq ?_
    refine R [] [(0, .v 0 (.slice (.int .u32)) p0), (1, .v 0 (.slice (.int .u32)) p1), (5, .v 0 (.int .i64) x2), (6, .v 0 (.int .i64) y5), (25, .v 0 .bool (y5 != 0))] pz ?_
    refine C h (fun h => ?_) fun h => ?_
    · refine W_seq ?_
      refine R [] [(4, .v 0 (.int .i64) y5)] pz ?_
      cases h
      exact Rt hw0
    refine W_skip (W_blk ?_)
    refine R1 h [] (fun x6 => [(0, .v 0 (.slice (.int .u32)) p0), (1, .v 0 (.slice (.int .u32)) p1), (5, .v 0 (.int .i64) x6)]) pz fun x6 h => ?_
    exact B h
  refine W_exit rfl ?_
  exact K (j1 h.back)

def nat_short_j1 (x3 : List Int) (x4 : Int) : Option ((List Int) × Int) :=
  (nat_Cut x3).bind fun y5 =>
  bnd (u32.wrap x4) fun x6 =>
  some (y5, x6)
def nat_short_b1 (p0 : List Int) (p1 : Int) (x7 : List Int) (x8 : Int) (x9 : Int) : Option (((List Int) × Int × Int) ⊕ ((List Int) × Int)) :=
  bif decide (x9 ≥ 0) then
    ass (0 ≤ (32 : Int)) <|
    ass (0 ≤ x9 ∧ x9 < (p0.length : Int)) <|
    bnd (u64.wrap ((BitVec.ofInt u64.bits (u64.wrap (x8 * 2 ^ (min (32 : Int).toNat u64.bits))) ||| BitVec.ofInt u64.bits (u64.wrap (rd (0 : Int) p0 x9))).toNat : Int)) fun x10 =>
    ass ((u64.wrap p1) ≠ 0) <|
    ass (0 ≤ x9 ∧ x9 < (x7.length : Int)) <|
    bnd (wr x7 x9 (u32.wrap (u64.wrap (x10.tdiv (u64.wrap p1))))) fun x11 =>
    ass ((u64.wrap p1) ≠ 0) <|
    bnd (x10.tmod (u64.wrap p1)) fun x12 =>
    bnd (i64.wrap (x9 - 1)) fun x13 =>
    some (.inl (x11, x12, x13))
  else
  (nat_short_j1 x7 x8).map .inr
def nat_short (p0 : List Int) (p1 : Int) : Option ((List Int) × Int) :=
  ass (0 ≤ (p0.length : Int) ∧ (p0.length : Int) ≤ (p0.length : Int) ∧ (p0.length : Int) ≤ lim) <|
  bnd (List.replicate (p0.length : Int).toNat (0 : Int)) fun x1 =>
  bnd (i64.wrap ((p0.length : Int) - 1)) fun x2 =>
  loopM (fun x : (List Int) × Int × Int => nat_short_b1 p0 p1 x.1 x.2.1 x.2.2) (x1, (0 : Int), x2)
theorem nat_short.ok {p0 : List Int} {p1 : Int} {r : (List Int) × Int} (h : nat_short p0 p1 = some r) : ACall prog 50 [⟨.slice (.int .u32), p0⟩, ⟨.int .u32, p1⟩] [⟨9, .slice (.int .u32), r.1⟩, ⟨0, .int .u32, r.2⟩] := by
  replace h := Leads.of h
  unfold nat_short at h
  refine AC func50 rfl fun w0 F0 hw0 => ?_
  refine W_seq ?_
  refine R [] [(0, .v 0 (.slice (.int .u32)) p0), (1, .v 0 (.int .u32) p1)] pz ?_
  refine W_seq ?_
  obtain ⟨o1, h⟩ := h.ass
  refine R1 h [] (fun x1 => [(0, .v 0 (.slice (.int .u32)) p0), (1, .v 0 (.int .u32) p1), (6, .v 9 (.slice (.int .u32)) x1)]) (ps o1) fun x1 h => ?_
  refine W_seq ?_
  refine R [] [(0, .v 0 (.slice (.int .u32)) p0), (1, .v 0 (.int .u32) p1), (6, .v 9 (.slice (.int .u32)) x1), (7, .v 0 (.int .u64) (0 : Int))] pz ?_
  refine W_seq (W_seq ?_)
  refine R1 h [] (fun x2 => [(0, .v 0 (.slice (.int .u32)) p0), (1, .v 0 (.int .u32) p1), (6, .v 9 (.slice (.int .u32)) x1), (7, .v 0 (.int .u64) (0 : Int)), (8, .v 0 (.int .i64) x2)]) pz fun x2 h => ?_
  refine J2 h nat_short_j1 (fun x3 x4 => [(6, .v 9 (.slice (.int .u32)) x3), (7, .v 0 (.int .u64) x4)]) (fun x3 x4 h => ?_) fun j1 => ?_
  · unfold nat_short_j1 at h
    refine W_seq ?_
    obtain ⟨y5, ey5, h⟩ := h.bind
    refine R1 h [.res [(9, ⟨9, .slice (.int .u32), y5⟩)]] (fun x6 => [(4, .v 9 (.slice (.int .u32)) y5), (5, .v 0 (.int .u32) x6)]) (ps (nat_Cut.ok ey5)) fun x6 h => ?_
    cases h
    exact Rt hw0
  refine W_block ?_
  refine L3 h (fun x7 x8 x9 => [(0, .v 0 (.slice (.int .u32)) p0), (1, .v 0 (.int .u32) p1), (6, .v 9 (.slice (.int .u32)) x7), (7, .v 0 (.int .u64) x8), (8, .v 0 (.int .i64) x9)]) fun x7 x8 x9 _ h => ?_
  unfold nat_short_b1 at h
  refine W_seq (W_seq ?_)
  refine R [] [(0, .v 0 (.slice (.int .u32)) p0), (1, .v 0 (.int .u32) p1), (6, .v 9 (.slice (.int .u32)) x7), (7, .v 0 (.int .u64) x8), (8, .v 0 (.int .i64) x9), (16, .v 0 .bool (decide (x9 ≥ 0)))] pz ?_
  refine C h (fun h => ?_) fun h => ?_
  · refine W_skip (W_seq (W_block (W_seq ?_)))
    obtain ⟨o1, h⟩ := h.ass
    obtain ⟨o2, h⟩ := h.ass
    refine R1 h [] (fun x10 => [(0, .v 0 (.slice (.int .u32)) p0), (1, .v 0 (.int .u32) p1), (6, .v 9 (.slice (.int .u32)) x7), (7, .v 0 (.int .u64) x10), (8, .v 0 (.int .i64) x9)]) (pc o1 (ps o2)) fun x10 h => ?_
    refine W_seq ?_
    obtain ⟨o1, h⟩ := h.ass
    obtain ⟨o2, h⟩ := h.ass
    refine R1 h [] (fun x11 => [(0, .v 0 (.slice (.int .u32)) p0), (1, .v 0 (.int .u32) p1), (6, .v 9 (.slice (.int .u32)) x11), (7, .v 0 (.int .u64) x10), (8, .v 0 (.int .i64) x9)]) (pc o1 (ps o2)) fun x11 h => ?_
    obtain ⟨o1, h⟩ := h.ass
    refine R1 h [] (fun x12 => [(0, .v 0 (.slice (.int .u32)) p0), (1, .v 0 (.int .u32) p1), (6, .v 9 (.slice (.int .u32)) x11), (7, .v 0 (.int .u64) x12), (8, .v 0 (.int .i64) x9)]) (ps o1) fun x12 h => ?_
    refine W_blk ?_
    refine R1 h [] (fun x13 => [(0, .v 0 (.slice (.int .u32)) p0), (1, .v 0 (.int .u32) p1), (6, .v 9 (.slice (.int .u32)) x11), (7, .v 0 (.int .u64) x12), (8, .v 0 (.int .i64) x13)]) pz fun x13 h => ?_
    exact B h
  refine W_exit rfl ?_
  exact K (j1 x7 x8 h.back)

def math_bits_Len32 (p0 : Int) : Option Int := ass (0 ≤ p0 ∧ p0 ≤ 4294967295) <| some (Lib.bitLen p0.toNat : Int)
theorem math_bits_Len32.ok {p0 : Int} {r : Int} (h : math_bits_Len32 p0 = some r) : ACall prog 77 [⟨.int .u32, p0⟩] [⟨0, .int .i64, r⟩] := by
  replace h := Leads.of h
  unfold math_bits_Len32 at h
  obtain ⟨o1, h⟩ := h.ass
  replace h : (Lib.bitLen p0.toNat : Int) = r := h
  subst h
  exact acall_int1 func77 (by kernel_rfl) (by kernel_rfl) fun w => Go.Proofs.Tryz.bits_Len32 p0 w o1.1 o1.2

def math_bits_LeadingZeros32 (p0 : Int) : Option Int :=
  (math_bits_Len32 p0).bind fun y1 =>
  bnd (i64.wrap (32 - y1)) fun x2 =>
  some x2
theorem math_bits_LeadingZeros32.ok {p0 : Int} {r : Int} (h : math_bits_LeadingZeros32 p0 = some r) : ACall prog 57 [⟨.int .u32, p0⟩] [⟨0, .int .i64, r⟩] := by
  replace h := Leads.of h
  unfold math_bits_LeadingZeros32 at h
  refine AC func57 rfl fun w0 F0 hw0 => ?_
  refine W_seq ?_
  refine R [] [(0, .v 0 (.int .u32) p0)] pz ?_
  refine W_seq ?_
  obtain ⟨y1, ey1, h⟩ := h.bind
  refine R1 h [.res [(0, ⟨0, .int .i64, y1⟩)]] (fun x2 => [(2, .v 0 (.int .i64) x2)]) (ps (math_bits_Len32.ok ey1)) fun x2 h => ?_
  cases h
  exact Rt hw0

def nat_shifted_j1 (x2 : List Int) : Option (List Int) :=
  some x2
def nat_shifted_b1 (p0 : List Int) (p1 : Int) (x1 : List Int) (x3 : List Int) (x4 : Int) (x5 : Int) : Option (((List Int) × Int × Int) ⊕ (List Int)) :=
  bif decide (x5 < (x1.length : Int)) then
    (nat_at p0 x5).bind fun y6 =>
    ass (0 ≤ p1) <|
    bnd (u64.wrap ((BitVec.ofInt u64.bits x4 ||| BitVec.ofInt u64.bits (u64.wrap ((u64.wrap y6) * 2 ^ (min p1.toNat u64.bits)))).toNat : Int)) fun x7 =>
    ass (0 ≤ x5 ∧ x5 < (x3.length : Int)) <|
    bnd (wr x3 x5 (u32.wrap x7)) fun x8 =>
    ass (0 ≤ (32 : Int)) <|
    bnd (x7.fdiv (2 ^ (min (32 : Int).toNat u64.bits))) fun x9 =>
    bnd (i64.wrap (x5 + 1)) fun x10 =>
    some (.inl (x8, x9, x10))
  else
  (nat_shifted_j1 x3).map .inr
def nat_shifted (p0 : List Int) (p1 : Int) : Option (List Int) :=
  ass (0 ≤ i64.wrap ((p0.length : Int) + 1) ∧ i64.wrap ((p0.length : Int) + 1) ≤ i64.wrap ((p0.length : Int) + 1) ∧ i64.wrap ((p0.length : Int) + 1) ≤ lim) <|
  bnd (List.replicate (i64.wrap ((p0.length : Int) + 1)).toNat (0 : Int)) fun x1 =>
  loopM (fun x : (List Int) × Int × Int => nat_shifted_b1 p0 p1 x1 x.1 x.2.1 x.2.2) (x1, (0 : Int), (0 : Int))
theorem nat_shifted.ok {p0 : List Int} {p1 : Int} {r : List Int} (h : nat_shifted p0 p1 = some r) : ACall prog 58 [⟨.slice (.int .u32), p0⟩, ⟨.int .i64, p1⟩] [⟨9, .slice (.int .u32), r⟩] := by
  replace h := Leads.of h
  unfold nat_shifted at h
  refine AC func58 rfl fun w0 F0 hw0 => ?_
  refine W_seq ?_
  refine R [] [(0, .v 0 (.slice (.int .u32)) p0), (1, .v 0 (.int .i64) p1)] pz ?_
  refine W_seq ?_
  obtain ⟨o1, h⟩ := h.ass
  refine R1 h [] (fun x1 => [(0, .v 0 (.slice (.int .u32)) p0), (1, .v 0 (.int .i64) p1), (5, .v 9 (.slice (.int .u32)) x1)]) (ps o1) fun x1 h => ?_
  refine W_seq ?_
  refine R [] [(0, .v 0 (.slice (.int .u32)) p0), (1, .v 0 (.int .i64) p1), (5, .v 9 (.slice (.int .u32)) x1), (6, .v 0 (.int .u64) (0 : Int))] pz ?_
  refine W_seq (W_seq ?_)
  refine R [] [(0, .v 0 (.slice (.int .u32)) p0), (1, .v 0 (.int .i64) p1), (5, .v 9 (.slice (.int .u32)) x1), (6, .v 0 (.int .u64) (0 : Int)), (13, .v 0 (.int .i64) (x1.length : Int)), (14, .v 0 (.int .i64) (0 : Int))] pz ?_
  refine J1 h nat_shifted_j1 (fun x2 => [(5, .v 9 (.slice (.int .u32)) x2)]) (fun x2 h => ?_) fun j1 => ?_
  · unfold nat_shifted_j1 at h
    refine W_seq ?_
    refine R [] [(4, .v 9 (.slice (.int .u32)) x2)] pz ?_
    cases h
    exact Rt hw0
  refine W_block ?_
  refine L3 h (fun x3 x4 x5 => [(0, .v 0 (.slice (.int .u32)) p0), (1, .v 0 (.int .i64) p1), (5, .v 9 (.slice (.int .u32)) x3), (6, .v 0 (.int .u64) x4), (13, .v 0 (.int .i64) (x1.length : Int)), (14, .v 0 (.int .i64) x5)]) fun x3 x4 x5 _ h => ?_
  unfold nat_shifted_b1 at h
  refine W_seq ?_
  refine R [] [(0, .v 0 (.slice (.int .u32)) p0), (1, .v 0 (.int .i64) p1), (5, .v 9 (.slice (.int .u32)) x3), (6, .v 0 (.int .u64) x4), (13, .v 0 (.int .i64) (x1.length : Int)), (14, .v 0 (.int .i64) x5), (15, .v 0 .bool (decide (x5 < (x1.length : Int))))] pz ?_
  refine W_seq ?_
  refine C h (fun h => ?_) fun h => ?_
  · refine W_skip (W_seq (W_block (W_seq ?_)))
    refine R [] [(0, .v 0 (.slice (.int .u32)) p0), (1, .v 0 (.int .i64) p1), (5, .v 9 (.slice (.int .u32)) x3), (6, .v 0 (.int .u64) x4), (7, .v 0 (.int .i64) x5), (13, .v 0 (.int .i64) (x1.length : Int)), (14, .v 0 (.int .i64) x5)] pz ?_
    refine W_seq ?_
    obtain ⟨y6, ey6, h⟩ := h.bind
    obtain ⟨o1, h⟩ := h.ass
    refine R1 h [.res [(0, ⟨0, .int .u32, y6⟩)]] (fun x7 => [(0, .v 0 (.slice (.int .u32)) p0), (1, .v 0 (.int .i64) p1), (5, .v 9 (.slice (.int .u32)) x3), (6, .v 0 (.int .u64) x7), (7, .v 0 (.int .i64) x5), (13, .v 0 (.int .i64) (x1.length : Int)), (14, .v 0 (.int .i64) x5)]) (pc (nat_at.ok ey6) (ps o1)) fun x7 h => ?_
    refine W_seq ?_
    obtain ⟨o1, h⟩ := h.ass
    refine R1 h [] (fun x8 => [(0, .v 0 (.slice (.int .u32)) p0), (1, .v 0 (.int .i64) p1), (5, .v 9 (.slice (.int .u32)) x8), (6, .v 0 (.int .u64) x7), (13, .v 0 (.int .i64) (x1.length : Int)), (14, .v 0 (.int .i64) x5)]) (ps o1) fun x8 h => ?_
    obtain ⟨o1, h⟩ := h.ass
    refine R1 h [] (fun x9 => [(0, .v 0 (.slice (.int .u32)) p0), (1, .v 0 (.int .i64) p1), (5, .v 9 (.slice (.int .u32)) x8), (6, .v 0 (.int .u64) x9), (13, .v 0 (.int .i64) (x1.length : Int)), (14, .v 0 (.int .i64) x5)]) (ps o1) fun x9 h => ?_
    refine W_blk ?_
    refine R1 h [] (fun x10 => [(0, .v 0 (.slice (.int .u32)) p0), (1, .v 0 (.int .i64) p1), (5, .v 9 (.slice (.int .u32)) x8), (6, .v 0 (.int .u64) x9), (13, .v 0 (.int .i64) (x1.length : Int)), (14, .v 0 (.int .i64) x10)]) pz fun x10 h => ?_
    exact B h
  refine W_exit rfl ?_
  exact K (j1 x3 h.back)

def nat_guess_j1 (x4 : Int) : Option (Int) :=
  some x4
def nat_guess_b1 (p0 : List Int) (p1 : List Int) (p2 : Int) (x5 : Int) (x6 : Int) : Option ((Int × Int) ⊕ Int) :=
  ass ((!(decide (x5 ≥ 4294967296))) = true → 0 ≤ i64.wrap ((p1.length : Int) - 2) ∧ i64.wrap ((p1.length : Int) - 2) < (p1.length : Int)) <|
  ass ((!(decide (x5 ≥ 4294967296))) = true → 0 ≤ (32 : Int)) <|
  ass ((!(decide (x5 ≥ 4294967296))) = true → 0 ≤ i64.wrap ((i64.wrap (p2 + (p1.length : Int))) - 2) ∧ i64.wrap ((i64.wrap (p2 + (p1.length : Int))) - 2) < (p0.length : Int)) <|
  bif (decide (x5 ≥ 4294967296)) || (decide ((u64.wrap (x5 * (u64.wrap (rd (0 : Int) p1 (i64.wrap ((p1.length : Int) - 2)))))) > (u64.wrap ((BitVec.ofInt u64.bits (u64.wrap (x6 * 2 ^ (min (32 : Int).toNat u64.bits))) ||| BitVec.ofInt u64.bits (u64.wrap (rd (0 : Int) p0 (i64.wrap ((i64.wrap (p2 + (p1.length : Int))) - 2))))).toNat : Int)))) then
    bnd (u64.wrap (x5 - 1)) fun x7 =>
    ass (0 ≤ i64.wrap ((p1.length : Int) - 1) ∧ i64.wrap ((p1.length : Int) - 1) < (p1.length : Int)) <|
    bnd (u64.wrap (x6 + (u64.wrap (rd (0 : Int) p1 (i64.wrap ((p1.length : Int) - 1)))))) fun x8 =>
    bif decide (x8 ≥ 4294967296) then
      (nat_guess_j1 x7).map .inr
    else
    some (.inl (x7, x8))
  else
  (nat_guess_j1 x5).map .inr
def nat_guess (p0 : List Int) (p1 : List Int) (p2 : Int) : Option Int :=
  ass (0 ≤ i64.wrap (p2 + (p1.length : Int)) ∧ i64.wrap (p2 + (p1.length : Int)) < (p0.length : Int)) <|
  ass (0 ≤ (32 : Int)) <|
  ass (0 ≤ i64.wrap ((i64.wrap (p2 + (p1.length : Int))) - 1) ∧ i64.wrap ((i64.wrap (p2 + (p1.length : Int))) - 1) < (p0.length : Int)) <|
  bnd (u64.wrap ((BitVec.ofInt u64.bits (u64.wrap ((u64.wrap (rd (0 : Int) p0 (i64.wrap (p2 + (p1.length : Int))))) * 2 ^ (min (32 : Int).toNat u64.bits))) ||| BitVec.ofInt u64.bits (u64.wrap (rd (0 : Int) p0 (i64.wrap ((i64.wrap (p2 + (p1.length : Int))) - 1))))).toNat : Int)) fun x1 =>
  ass (0 ≤ i64.wrap ((p1.length : Int) - 1) ∧ i64.wrap ((p1.length : Int) - 1) < (p1.length : Int)) <|
  ass ((u64.wrap (rd (0 : Int) p1 (i64.wrap ((p1.length : Int) - 1)))) ≠ 0) <|
  bnd (u64.wrap (x1.tdiv (u64.wrap (rd (0 : Int) p1 (i64.wrap ((p1.length : Int) - 1)))))) fun x2 =>
  bnd (x1.tmod (u64.wrap (rd (0 : Int) p1 (i64.wrap ((p1.length : Int) - 1))))) fun x3 =>
  loopM (fun x : Int × Int => nat_guess_b1 p0 p1 p2 x.1 x.2) (x2, x3)
theorem nat_guess.ok {p0 : List Int} {p1 : List Int} {p2 : Int} {r : Int} (h : nat_guess p0 p1 p2 = some r) : ACall prog 59 [⟨.slice (.int .u32), p0⟩, ⟨.slice (.int .u32), p1⟩, ⟨.int .i64, p2⟩] [⟨0, .int .u64, r⟩] := by
  replace h := Leads.of h
  unfold nat_guess at h
  refine AC func59 rfl fun w0 F0 hw0 => ?_
  refine W_seq ?_
  refine R [] [(0, .v 0 (.slice (.int .u32)) p0), (1, .v 0 (.slice (.int .u32)) p1), (2, .v 0 (.int .i64) p2)] pz ?_
  refine W_seq ?_
  refine R [] [(0, .v 0 (.slice (.int .u32)) p0), (1, .v 0 (.slice (.int .u32)) p1), (2, .v 0 (.int .i64) p2), (7, .v 0 (.int .i64) (p1.length : Int))] pz ?_
  refine W_seq ?_
  obtain ⟨o1, h⟩ := h.ass
  obtain ⟨o2, h⟩ := h.ass
  obtain ⟨o3, h⟩ := h.ass
  refine R1 h [] (fun x1 => [(0, .v 0 (.slice (.int .u32)) p0), (1, .v 0 (.slice (.int .u32)) p1), (2, .v 0 (.int .i64) p2), (7, .v 0 (.int .i64) (p1.length : Int)), (8, .v 0 (.int .u64) x1)]) (pc o1 (pc o2 (ps o3))) fun x1 h => ?_
  refine W_seq ?_
  obtain ⟨o1, h⟩ := h.ass
  obtain ⟨o2, h⟩ := h.ass
  refine RL2 h [] (fun x2 x3 => [(0, .v 0 (.slice (.int .u32)) p0), (1, .v 0 (.slice (.int .u32)) p1), (2, .v 0 (.int .i64) p2), (7, .v 0 (.int .i64) (p1.length : Int)), (9, .v 0 (.int .u64) x2), (10, .v 0 (.int .u64) x3)]) (pc o1 (pc o2 (pc o1 (pc o2 (pc o1 (pc o2 (pc (rfl : (⟨.int .u64, x1⟩ : TV) = ⟨.int .u64, x1⟩) (pc (rfl : (⟨.slice (.int .u32), p1⟩ : TV) = ⟨.slice (.int .u32), p1⟩) (pc (rfl : (⟨.int .i64, (p1.length : Int)⟩ : TV) = ⟨.int .i64, (p1.length : Int)⟩) (pc (rfl : (⟨.int .i64, i64.wrap ((p1.length : Int) - 1)⟩ : TV) = ⟨.int .i64, i64.wrap ((p1.length : Int) - 1)⟩) (pc (rfl : (⟨.cptr (.int .u32), rd (0 : Int) p1 (i64.wrap ((p1.length : Int) - 1))⟩ : TV) = ⟨.cptr (.int .u32), rd (0 : Int) p1 (i64.wrap ((p1.length : Int) - 1))⟩) (pc (rfl : (⟨.int .u32, rd (0 : Int) p1 (i64.wrap ((p1.length : Int) - 1))⟩ : TV) = ⟨.int .u32, rd (0 : Int) p1 (i64.wrap ((p1.length : Int) - 1))⟩) (pc (rfl : (⟨.int .u64, u64.wrap (rd (0 : Int) p1 (i64.wrap ((p1.length : Int) - 1)))⟩ : TV) = ⟨.int .u64, u64.wrap (rd (0 : Int) p1 (i64.wrap ((p1.length : Int) - 1)))⟩) (ps (rfl : (⟨.int .u64, x1.tmod (u64.wrap (rd (0 : Int) p1 (i64.wrap ((p1.length : Int) - 1))))⟩ : TV) = ⟨.int .u64, x1.tmod (u64.wrap (rd (0 : Int) p1 (i64.wrap ((p1.length : Int) - 1))))⟩))))))))))))))) fun x2 x3 h => ?_
  refine W_seq ?_
  refine J1 h nat_guess_j1 (fun x4 => [(9, .v 0 (.int .u64) x4)]) (fun x4 h => ?_) fun j1 => ?_
  · unfold nat_guess_j1 at h
    refine W_seq ?_
    refine R [] [(6, .v 0 (.int .u64) x4)] pz ?_
    cases h
    exact Rt hw0
  refine W_block ?_
  refine L2 h (fun x5 x6 => [(0, .v 0 (.slice (.int .u32)) p0), (1, .v 0 (.slice (.int .u32)) p1), (2, .v 0 (.int .i64) p2), (7, .v 0 (.int .i64) (p1.length : Int)), (9, .v 0 (.int .u64) x5), (10, .v 0 (.int .u64) x6)]) fun x5 x6 _ h => ?_
  unfold nat_guess_b1 at h
  refine W_seq (W_seq ?_)
  obtain ⟨o1, h⟩ := h.ass
  obtain ⟨o2, h⟩ := h.ass
  obtain ⟨o3, h⟩ := h.ass
  refine R [] [(0, .v 0 (.slice (.int .u32)) p0), (1, .v 0 (.slice (.int .u32)) p1), (2, .v 0 (.int .i64) p2), (7, .v 0 (.int .i64) (p1.length : Int)), (9, .v 0 (.int .u64) x5), (10, .v 0 (.int .u64) x6), (69, .v 0 .bool ((decide (x5 ≥ 4294967296)) || (decide ((u64.wrap (x5 * (u64.wrap (rd (0 : Int) p1 (i64.wrap ((p1.length : Int) - 2)))))) > (u64.wrap ((BitVec.ofInt u64.bits (u64.wrap (x6 * 2 ^ (min (32 : Int).toNat u64.bits))) ||| BitVec.ofInt u64.bits (u64.wrap (rd (0 : Int) p0 (i64.wrap ((i64.wrap (p2 + (p1.length : Int))) - 2))))).toNat : Int))))))] (pc o1 (pc o2 (ps o3))) ?_
  refine C h (fun h => ?_) fun h => ?_
  · refine W_skip (W_block (W_seq ?_))
    refine R1 h [] (fun x7 => [(0, .v 0 (.slice (.int .u32)) p0), (1, .v 0 (.slice (.int .u32)) p1), (2, .v 0 (.int .i64) p2), (7, .v 0 (.int .i64) (p1.length : Int)), (9, .v 0 (.int .u64) x7), (10, .v 0 (.int .u64) x6)]) pz fun x7 h => ?_
    refine W_seq ?_
    obtain ⟨o1, h⟩ := h.ass
    refine R1 h [] (fun x8 => [(0, .v 0 (.slice (.int .u32)) p0), (1, .v 0 (.slice (.int .u32)) p1), (2, .v 0 (.int .i64) p2), (7, .v 0 (.int .i64) (p1.length : Int)), (9, .v 0 (.int .u64) x7), (10, .v 0 (.int .u64) x8)]) (ps o1) fun x8 h => ?_
    refine W_seq ?_
    refine R [] [(0, .v 0 (.slice (.int .u32)) p0), (1, .v 0 (.slice (.int .u32)) p1), (2, .v 0 (.int .i64) p2), (7, .v 0 (.int .i64) (p1.length : Int)), (9, .v 0 (.int .u64) x7), (10, .v 0 (.int .u64) x8), (81, .v 0 .bool (decide (x8 ≥ 4294967296)))] pz ?_
    refine C h (fun h => ?_) fun h => ?_
    · refine W_exit rfl ?_
      exact K (j1 x7 h.back)
    refine W_skip (W_blk ?_)
    exact B h
  refine W_exit rfl ?_
  exact K (j1 x5 h.back)

def nat_away_j1 (x2 : List Int) (x3 : Int) : Option (Bool × (List Int)) :=
  bnd (decide (x3 > 0)) fun x4 =>
  some (x4, x2)
def nat_away_b1 (p1 : List Int) (p2 : Int) (p3 : Int) (x1 : Int) (x5 : List Int) (x6 : Int) (x7 : Int) (x8 : Int) : Option (((List Int) × Int × Int × Int) ⊕ (Bool × (List Int))) :=
  bif decide (x8 < x1) then
    (nat_at p1 x8).bind fun y9 =>
    bnd (u64.wrap (x6 + (u64.wrap (p3 * (u64.wrap y9))))) fun x10 =>
    ass (0 ≤ i64.wrap (p2 + x8) ∧ i64.wrap (p2 + x8) < (x5.length : Int)) <|
    bnd (u64.wrap ((u64.wrap ((u64.wrap (rd (0 : Int) x5 (i64.wrap (p2 + x8)))) - (u64.wrap ((BitVec.ofInt u64.bits x10 &&& BitVec.ofInt u64.bits 4294967295).toNat : Int)))) - x7)) fun x11 =>
    ass (0 ≤ i64.wrap (p2 + x8) ∧ i64.wrap (p2 + x8) < (x5.length : Int)) <|
    bnd (wr x5 (i64.wrap (p2 + x8)) (u32.wrap x11)) fun x12 =>
    ass (0 ≤ (63 : Int)) <|
    bnd (x11.fdiv (2 ^ (min (63 : Int).toNat u64.bits))) fun x13 =>
    ass (0 ≤ (32 : Int)) <|
    bnd (x10.fdiv (2 ^ (min (32 : Int).toNat u64.bits))) fun x14 =>
    bnd (i64.wrap (x8 + 1)) fun x15 =>
    some (.inl (x12, x14, x13, x15))
  else
  (nat_away_j1 x5 x7).map .inr
def nat_away (p0 : List Int) (p1 : List Int) (p2 : Int) (p3 : Int) : Option (Bool × (List Int)) :=
  bnd (i64.wrap ((p1.length : Int) + 1)) fun x1 =>
  loopM (fun x : (List Int) × Int × Int × Int => nat_away_b1 p1 p2 p3 x1 x.1 x.2.1 x.2.2.1 x.2.2.2) (p0, (0 : Int), (0 : Int), (0 : Int))
theorem nat_away.ok {p0 : List Int} {p1 : List Int} {p2 : Int} {p3 : Int} {r : Bool × (List Int)} (h : nat_away p0 p1 p2 p3 = some r) : ICall prog 60 (.v 9 (.slice (.int .u32)) p0) (.v 9 (.slice (.int .u32)) r.2) [⟨.slice (.int .u32), p1⟩, ⟨.int .i64, p2⟩, ⟨.int .u64, p3⟩] [⟨0, .bool, r.1⟩] := by
  replace h := Leads.of h
  unfold nat_away at h
  refine ACi func60 rfl fun w0 F0 hw0 => ?_
  refine W_seq ?_
  refine R [] [(0, .v 9 (.slice (.int .u32)) p0), (1, .v 0 (.slice (.int .u32)) p1), (2, .v 0 (.int .i64) p2), (3, .v 0 (.int .u64) p3)] pz ?_
  refine W_seq ?_
  refine R [] [(0, .v 9 (.slice (.int .u32)) p0), (1, .v 0 (.slice (.int .u32)) p1), (2, .v 0 (.int .i64) p2), (3, .v 0 (.int .u64) p3), (9, .v 0 (.int .u64) (0 : Int)), (10, .v 0 (.int .u64) (0 : Int))] pz ?_
  refine W_seq (W_seq ?_)
  refine R1 h [] (fun x1 => [(0, .v 9 (.slice (.int .u32)) p0), (1, .v 0 (.slice (.int .u32)) p1), (2, .v 0 (.int .i64) p2), (3, .v 0 (.int .u64) p3), (9, .v 0 (.int .u64) (0 : Int)), (10, .v 0 (.int .u64) (0 : Int)), (15, .v 0 (.int .i64) x1), (16, .v 0 (.int .i64) (0 : Int))]) pz fun x1 h => ?_
  refine J2 h nat_away_j1 (fun x2 x3 => [(0, .v 9 (.slice (.int .u32)) x2), (10, .v 0 (.int .u64) x3)]) (fun x2 x3 h => ?_) fun j1 => ?_
  · unfold nat_away_j1 at h
    refine W_seq ?_
    refine R1 h [] (fun x4 => [(0, .v 9 (.slice (.int .u32)) x2), (8, .v 0 .bool x4)]) pz fun x4 h => ?_
    replace h : ((x4, x2)) = r := h
    subst h
    exact W_iret tys_ok hw0 (by kernel_rfl) rfl rfl (by kernel_rfl) (by kernel_rfl)
  refine W_block ?_
  refine L4 h (fun x5 x6 x7 x8 => [(0, .v 9 (.slice (.int .u32)) x5), (1, .v 0 (.slice (.int .u32)) p1), (2, .v 0 (.int .i64) p2), (3, .v 0 (.int .u64) p3), (9, .v 0 (.int .u64) x6), (10, .v 0 (.int .u64) x7), (15, .v 0 (.int .i64) x1), (16, .v 0 (.int .i64) x8)]) fun x5 x6 x7 x8 _ h => ?_
  unfold nat_away_b1 at h
  refine W_seq ?_
  refine R [] [(0, .v 9 (.slice (.int .u32)) x5), (1, .v 0 (.slice (.int .u32)) p1), (2, .v 0 (.int .i64) p2), (3, .v 0 (.int .u64) p3), (9, .v 0 (.int .u64) x6), (10, .v 0 (.int .u64) x7), (15, .v 0 (.int .i64) x1), (16, .v 0 (.int .i64) x8), (17, .v 0 .bool (decide (x8 < x1)))] pz ?_
  refine W_seq ?_
  refine C h (fun h => ?_) fun h => ?_
  · refine W_skip (W_seq (W_block (W_seq ?_)))
    refine R [] [(0, .v 9 (.slice (.int .u32)) x5), (1, .v 0 (.slice (.int .u32)) p1), (2, .v 0 (.int .i64) p2), (3, .v 0 (.int .u64) p3), (9, .v 0 (.int .u64) x6), (10, .v 0 (.int .u64) x7), (11, .v 0 (.int .i64) x8), (15, .v 0 (.int .i64) x1), (16, .v 0 (.int .i64) x8)] pz ?_
    refine W_seq ?_
    obtain ⟨y9, ey9, h⟩ := h.bind
    refine R1 h [.res [(0, ⟨0, .int .u32, y9⟩)]] (fun x10 => [(0, .v 9 (.slice (.int .u32)) x5), (1, .v 0 (.slice (.int .u32)) p1), (2, .v 0 (.int .i64) p2), (3, .v 0 (.int .u64) p3), (9, .v 0 (.int .u64) x10), (10, .v 0 (.int .u64) x7), (11, .v 0 (.int .i64) x8), (15, .v 0 (.int .i64) x1), (16, .v 0 (.int .i64) x8)]) (ps (nat_at.ok ey9)) fun x10 h => ?_
    refine W_seq ?_
    obtain ⟨o1, h⟩ := h.ass
    refine R1 h [] (fun x11 => [(0, .v 9 (.slice (.int .u32)) x5), (1, .v 0 (.slice (.int .u32)) p1), (2, .v 0 (.int .i64) p2), (3, .v 0 (.int .u64) p3), (9, .v 0 (.int .u64) x10), (11, .v 0 (.int .i64) x8), (12, .v 0 (.int .u64) x11), (15, .v 0 (.int .i64) x1), (16, .v 0 (.int .i64) x8)]) (ps o1) fun x11 h => ?_
    refine W_seq ?_
    obtain ⟨o1, h⟩ := h.ass
    refine R1 h [] (fun x12 => [(0, .v 9 (.slice (.int .u32)) x12), (1, .v 0 (.slice (.int .u32)) p1), (2, .v 0 (.int .i64) p2), (3, .v 0 (.int .u64) p3), (9, .v 0 (.int .u64) x10), (12, .v 0 (.int .u64) x11), (15, .v 0 (.int .i64) x1), (16, .v 0 (.int .i64) x8)]) (ps o1) fun x12 h => ?_
    refine W_seq ?_
    obtain ⟨o1, h⟩ := h.ass
    refine R1 h [] (fun x13 => [(0, .v 9 (.slice (.int .u32)) x12), (1, .v 0 (.slice (.int .u32)) p1), (2, .v 0 (.int .i64) p2), (3, .v 0 (.int .u64) p3), (9, .v 0 (.int .u64) x10), (10, .v 0 (.int .u64) x13), (15, .v 0 (.int .i64) x1), (16, .v 0 (.int .i64) x8)]) (ps o1) fun x13 h => ?_
    obtain ⟨o1, h⟩ := h.ass
    refine R1 h [] (fun x14 => [(0, .v 9 (.slice (.int .u32)) x12), (1, .v 0 (.slice (.int .u32)) p1), (2, .v 0 (.int .i64) p2), (3, .v 0 (.int .u64) p3), (9, .v 0 (.int .u64) x14), (10, .v 0 (.int .u64) x13), (15, .v 0 (.int .i64) x1), (16, .v 0 (.int .i64) x8)]) (ps o1) fun x14 h => ?_
    refine W_blk ?_
    refine R1 h [] (fun x15 => [(0, .v 9 (.slice (.int .u32)) x12), (1, .v 0 (.slice (.int .u32)) p1), (2, .v 0 (.int .i64) p2), (3, .v 0 (.int .u64) p3), (9, .v 0 (.int .u64) x14), (10, .v 0 (.int .u64) x13), (15, .v 0 (.int .i64) x1), (16, .v 0 (.int .i64) x15)]) pz fun x15 h => ?_
    exact B h
  refine W_exit rfl ?_
  exact K (j1 x5 x7 h.back)

def nat_back_b1 (p1 : List Int) (p2 : Int) (x1 : Int) (x2 : List Int) (x3 : Int) (x4 : Int) : Option (((List Int) × Int × Int) ⊕ (List Int)) :=
  bif decide (x4 < x1) then
    ass (0 ≤ i64.wrap (p2 + x4) ∧ i64.wrap (p2 + x4) < (x2.length : Int)) <|
    (nat_at p1 x4).bind fun y5 =>
    bnd (u64.wrap (x3 + (u64.wrap ((u64.wrap (rd (0 : Int) x2 (i64.wrap (p2 + x4)))) + (u64.wrap y5))))) fun x6 =>
    ass (0 ≤ i64.wrap (p2 + x4) ∧ i64.wrap (p2 + x4) < (x2.length : Int)) <|
    bnd (wr x2 (i64.wrap (p2 + x4)) (u32.wrap x6)) fun x7 =>
    ass (0 ≤ (32 : Int)) <|
    bnd (x6.fdiv (2 ^ (min (32 : Int).toNat u64.bits))) fun x8 =>
    bnd (i64.wrap (x4 + 1)) fun x9 =>
    some (.inl (x7, x8, x9))
  else
  some (.inr x2)
def nat_back (p0 : List Int) (p1 : List Int) (p2 : Int) : Option (List Int) :=
  bnd (i64.wrap ((p1.length : Int) + 1)) fun x1 =>
  loopM (fun x : (List Int) × Int × Int => nat_back_b1 p1 p2 x1 x.1 x.2.1 x.2.2) (p0, (0 : Int), (0 : Int))
theorem nat_back.ok {p0 : List Int} {p1 : List Int} {p2 : Int} {r : List Int} (h : nat_back p0 p1 p2 = some r) : ICall prog 61 (.v 9 (.slice (.int .u32)) p0) (.v 9 (.slice (.int .u32)) r) [⟨.slice (.int .u32), p1⟩, ⟨.int .i64, p2⟩] [] := by
  replace h := Leads.of h
  unfold nat_back at h
  refine ACi func61 rfl fun w0 F0 hw0 => ?_
  refine W_seq ?_
  refine R [] [(0, .v 9 (.slice (.int .u32)) p0), (1, .v 0 (.slice (.int .u32)) p1), (2, .v 0 (.int .i64) p2), (6, .v 0 (.int .u64) (0 : Int))] pz ?_
  refine W_seq ?_
  refine R1 h [] (fun x1 => [(0, .v 9 (.slice (.int .u32)) p0), (1, .v 0 (.slice (.int .u32)) p1), (2, .v 0 (.int .i64) p2), (6, .v 0 (.int .u64) (0 : Int)), (10, .v 0 (.int .i64) x1), (11, .v 0 (.int .i64) (0 : Int))]) pz fun x1 h => ?_
  refine W_block ?_
  refine L3 h (fun x2 x3 x4 => [(0, .v 9 (.slice (.int .u32)) x2), (1, .v 0 (.slice (.int .u32)) p1), (2, .v 0 (.int .i64) p2), (6, .v 0 (.int .u64) x3), (10, .v 0 (.int .i64) x1), (11, .v 0 (.int .i64) x4)]) fun x2 x3 x4 _ h => ?_
  unfold nat_back_b1 at h
  refine W_seq ?_
  refine R [] [(0, .v 9 (.slice (.int .u32)) x2), (1, .v 0 (.slice (.int .u32)) p1), (2, .v 0 (.int .i64) p2), (6, .v 0 (.int .u64) x3), (10, .v 0 (.int .i64) x1), (11, .v 0 (.int .i64) x4), (12, .v 0 .bool (decide (x4 < x1)))] pz ?_
  refine W_seq ?_
  refine C h (fun h => ?_) fun h => ?_
  · refine W_skip (W_seq (W_block (W_seq ?_)))
    refine R [] [(0, .v 9 (.slice (.int .u32)) x2), (1, .v 0 (.slice (.int .u32)) p1), (2, .v 0 (.int .i64) p2), (6, .v 0 (.int .u64) x3), (7, .v 0 (.int .i64) x4), (10, .v 0 (.int .i64) x1), (11, .v 0 (.int .i64) x4)] pz ?_
    refine W_seq ?_
    obtain ⟨o1, h⟩ := h.ass
    obtain ⟨y5, ey5, h⟩ := h.bind
    refine R1 h [.res [(0, ⟨0, .int .u32, y5⟩)]] (fun x6 => [(0, .v 9 (.slice (.int .u32)) x2), (1, .v 0 (.slice (.int .u32)) p1), (2, .v 0 (.int .i64) p2), (6, .v 0 (.int .u64) x6), (7, .v 0 (.int .i64) x4), (10, .v 0 (.int .i64) x1), (11, .v 0 (.int .i64) x4)]) (pc o1 (ps (nat_at.ok ey5))) fun x6 h => ?_
    refine W_seq ?_
    obtain ⟨o1, h⟩ := h.ass
    refine R1 h [] (fun x7 => [(0, .v 9 (.slice (.int .u32)) x7), (1, .v 0 (.slice (.int .u32)) p1), (2, .v 0 (.int .i64) p2), (6, .v 0 (.int .u64) x6), (10, .v 0 (.int .i64) x1), (11, .v 0 (.int .i64) x4)]) (ps o1) fun x7 h => ?_
    obtain ⟨o1, h⟩ := h.ass
    refine R1 h [] (fun x8 => [(0, .v 9 (.slice (.int .u32)) x7), (1, .v 0 (.slice (.int .u32)) p1), (2, .v 0 (.int .i64) p2), (6, .v 0 (.int .u64) x8), (10, .v 0 (.int .i64) x1), (11, .v 0 (.int .i64) x4)]) (ps o1) fun x8 h => ?_
    refine W_blk ?_
    refine R1 h [] (fun x9 => [(0, .v 9 (.slice (.int .u32)) x7), (1, .v 0 (.slice (.int .u32)) p1), (2, .v 0 (.int .i64) p2), (6, .v 0 (.int .u64) x8), (10, .v 0 (.int .i64) x1), (11, .v 0 (.int .i64) x9)]) pz fun x9 h => ?_
    exact B h
  refine W_exit rfl ?_
  refine K (E' := [(0, .v 9 (.slice (.int .u32)) x2)]) ?_
  replace h : x2 = r := h
  subst h
  exact W_iend tys_ok hw0 (by kernel_rfl) rfl rfl (by kernel_rfl) (by kernel_rfl)

def nat_down_j1 (x2 : List Int) : Option (List Int) :=
  (nat_Cut x2).bind fun y3 =>
  some y3
def nat_down_b1 (p0 : List Int) (p1 : Int) (x4 : List Int) (x5 : Int) : Option (((List Int) × Int) ⊕ (List Int)) :=
  bif decide (x5 < (p0.length : Int)) then
    (nat_at p0 (i64.wrap (x5 + 1))).bind fun y6 =>
    ass (0 ≤ (32 : Int)) <|
    ass (0 ≤ x5 ∧ x5 < (p0.length : Int)) <|
    ass (0 ≤ p1) <|
    ass (0 ≤ x5 ∧ x5 < (x4.length : Int)) <|
    bnd (wr x4 x5 (u32.wrap ((u64.wrap ((BitVec.ofInt u64.bits (u64.wrap ((u64.wrap y6) * 2 ^ (min (32 : Int).toNat u64.bits))) ||| BitVec.ofInt u64.bits (u64.wrap (rd (0 : Int) p0 x5))).toNat : Int)).fdiv (2 ^ (min p1.toNat u64.bits))))) fun x7 =>
    bnd (i64.wrap (x5 + 1)) fun x8 =>
    some (.inl (x7, x8))
  else
  (nat_down_j1 x4).map .inr
def nat_down (p0 : List Int) (p1 : Int) : Option (List Int) :=
  ass (0 ≤ (p0.length : Int) ∧ (p0.length : Int) ≤ (p0.length : Int) ∧ (p0.length : Int) ≤ lim) <|
  bnd (List.replicate (p0.length : Int).toNat (0 : Int)) fun x1 =>
  loopM (fun x : (List Int) × Int => nat_down_b1 p0 p1 x.1 x.2) (x1, (0 : Int))
theorem nat_down.ok {p0 : List Int} {p1 : Int} {r : List Int} (h : nat_down p0 p1 = some r) : ACall prog 62 [⟨.slice (.int .u32), p0⟩, ⟨.int .i64, p1⟩] [⟨9, .slice (.int .u32), r⟩] := by
  replace h := Leads.of h
  unfold nat_down at h
  refine AC func62 rfl fun w0 F0 hw0 => ?_
  refine W_seq ?_
  refine R [] [(0, .v 0 (.slice (.int .u32)) p0), (1, .v 0 (.int .i64) p1)] pz ?_
  refine W_seq ?_
  obtain ⟨o1, h⟩ := h.ass
  refine R1 h [] (fun x1 => [(0, .v 0 (.slice (.int .u32)) p0), (1, .v 0 (.int .i64) p1), (5, .v 9 (.slice (.int .u32)) x1)]) (ps o1) fun x1 h => ?_
  refine W_seq (W_seq ?_)
  refine R [] [(0, .v 0 (.slice (.int .u32)) p0), (1, .v 0 (.int .i64) p1), (5, .v 9 (.slice (.int .u32)) x1), (11, .v 0 (.int .i64) (p0.length : Int)), (12, .v 0 (.int .i64) (0 : Int))] pz ?_
  refine J1 h nat_down_j1 (fun x2 => [(5, .v 9 (.slice (.int .u32)) x2)]) (fun x2 h => ?_) fun j1 => ?_
  · unfold nat_down_j1 at h
    refine W_seq ?_
    obtain ⟨y3, ey3, h⟩ := h.bind
    refine R [.res [(9, ⟨9, .slice (.int .u32), y3⟩)]] [(4, .v 9 (.slice (.int .u32)) y3)] (ps (nat_Cut.ok ey3)) ?_
    cases h
    exact Rt hw0
  refine W_block ?_
  refine L2 h (fun x4 x5 => [(0, .v 0 (.slice (.int .u32)) p0), (1, .v 0 (.int .i64) p1), (5, .v 9 (.slice (.int .u32)) x4), (11, .v 0 (.int .i64) (p0.length : Int)), (12, .v 0 (.int .i64) x5)]) fun x4 x5 _ h => ?_
  unfold nat_down_b1 at h
  refine W_seq ?_
  refine R [] [(0, .v 0 (.slice (.int .u32)) p0), (1, .v 0 (.int .i64) p1), (5, .v 9 (.slice (.int .u32)) x4), (11, .v 0 (.int .i64) (p0.length : Int)), (12, .v 0 (.int .i64) x5), (13, .v 0 .bool (decide (x5 < (p0.length : Int))))] pz ?_
  refine W_seq ?_
  refine C h (fun h => ?_) fun h => ?_
  · refine W_skip (W_seq (W_block (W_seq ?_)))
    refine R [] [(0, .v 0 (.slice (.int .u32)) p0), (1, .v 0 (.int .i64) p1), (5, .v 9 (.slice (.int .u32)) x4), (6, .v 0 (.int .i64) x5), (11, .v 0 (.int .i64) (p0.length : Int)), (12, .v 0 (.int .i64) x5)] pz ?_
    obtain ⟨y6, ey6, h⟩ := h.bind
    obtain ⟨o1, h⟩ := h.ass
    obtain ⟨o2, h⟩ := h.ass
    obtain ⟨o3, h⟩ := h.ass
    obtain ⟨o4, h⟩ := h.ass
    refine R1 h [.res [(0, ⟨0, .int .u32, y6⟩)]] (fun x7 => [(0, .v 0 (.slice (.int .u32)) p0), (1, .v 0 (.int .i64) p1), (5, .v 9 (.slice (.int .u32)) x7), (11, .v 0 (.int .i64) (p0.length : Int)), (12, .v 0 (.int .i64) x5)]) (pc (nat_at.ok ey6) (pc o1 (pc o2 (pc o3 (ps o4))))) fun x7 h => ?_
    refine W_blk ?_
    refine R1 h [] (fun x8 => [(0, .v 0 (.slice (.int .u32)) p0), (1, .v 0 (.int .i64) p1), (5, .v 9 (.slice (.int .u32)) x7), (11, .v 0 (.int .i64) (p0.length : Int)), (12, .v 0 (.int .i64) x8)]) pz fun x8 h => ?_
    exact B h
  refine W_exit rfl ?_
  exact K (j1 x4 h.back)

def nat_Div_j1 (y6 : Int) (x12 : List Int) (x13 : List Int) : Option ((List Int) × (List Int) × Bool) :=
  (nat_Cut x13).bind fun y14 =>
  (nat_down x12 y6).bind fun y15 =>
  some (y14, y15, true)
def nat_Div_j2 (x17 : List Int) (x18 : Int) (x21 : List Int) (x22 : Int) : Option (((List Int) × (List Int) × Int) ⊕ ((List Int) × (List Int) × Bool)) :=
  ass (0 ≤ x18 ∧ x18 < (x17.length : Int)) <|
  bnd (wr x17 x18 (u32.wrap x22)) fun x23 =>
  bnd (i64.wrap (x18 - 1)) fun x24 =>
  some (.inl (x21, x23, x24))
def nat_Div_b1 (y6 : Int) (y9 : List Int) (x16 : List Int) (x17 : List Int) (x18 : Int) : Option (((List Int) × (List Int) × Int) ⊕ ((List Int) × (List Int) × Bool)) :=
  bif decide (x18 ≥ 0) then
    (nat_guess x16 y9 x18).bind fun y19 =>
    (nat_away x16 y9 x18 y19).bind fun y20 =>
    bif y20.1 then
      bnd (u64.wrap (y19 - 1)) fun x25 =>
      (nat_back y20.2 y9 x18).bind fun y26 =>
      nat_Div_j2 x17 x18 y26 x25
    else
    nat_Div_j2 x17 x18 y20.2 y19
  else
  (nat_Div_j1 y6 x16 x17).map .inr
def nat_Div (p0 : List Int) (p1 : List Int) : Option ((List Int) × (List Int) × Bool) :=
  (nat_Cut p0).bind fun y1 =>
  (nat_Cut p1).bind fun y2 =>
  bif (y2.length : Int) == 0 then
    some (([] : List Int), ([] : List Int), false)
  else
  (nat_Cmp y1 y2).bind fun y3 =>
  bif decide (y3 < 0) then
    some (([] : List Int), y1, true)
  else
  bif (y2.length : Int) == 1 then
    ass (0 ≤ (0 : Int) ∧ (0 : Int) < (y2.length : Int)) <|
    (nat_short y1 (rd (0 : Int) y2 (0 : Int))).bind fun y4 =>
    (nat_Of (u64.wrap y4.2)).bind fun y5 =>
    some (y4.1, y5, true)
  else
  ass (0 ≤ i64.wrap ((y2.length : Int) - 1) ∧ i64.wrap ((y2.length : Int) - 1) < (y2.length : Int)) <|
  (math_bits_LeadingZeros32 (rd (0 : Int) y2 (i64.wrap ((y2.length : Int) - 1)))).bind fun y6 =>
  (nat_shifted y1 y6).bind fun y7 =>
  (nat_shifted y2 y6).bind fun y8 =>
  (nat_Cut y8).bind fun y9 =>
  ass (0 ≤ i64.wrap ((i64.wrap ((y1.length : Int) - (y2.length : Int))) + 1) ∧ i64.wrap ((i64.wrap ((y1.length : Int) - (y2.length : Int))) + 1) ≤ i64.wrap ((i64.wrap ((y1.length : Int) - (y2.length : Int))) + 1) ∧ i64.wrap ((i64.wrap ((y1.length : Int) - (y2.length : Int))) + 1) ≤ lim) <|
  bnd (List.replicate (i64.wrap ((i64.wrap ((y1.length : Int) - (y2.length : Int))) + 1)).toNat (0 : Int)) fun x10 =>
  bnd (i64.wrap ((x10.length : Int) - 1)) fun x11 =>
  loopM (fun x : (List Int) × (List Int) × Int => nat_Div_b1 y6 y9 x.1 x.2.1 x.2.2) (y7, x10, x11)
theorem nat_Div.ok {p0 : List Int} {p1 : List Int} {r : (List Int) × (List Int) × Bool} (h : nat_Div p0 p1 = some r) : ACall prog 35 [⟨.slice (.int .u32), p0⟩, ⟨.slice (.int .u32), p1⟩] [⟨9, .slice (.int .u32), r.1⟩, ⟨9, .slice (.int .u32), r.2.1⟩, ⟨0, .bool, r.2.2⟩] := by
  replace h := Leads.of h
  unfold nat_Div at h
  refine AC func35 rfl fun w0 F0 hw0 => ?_
  refine W_seq ?_
  refine R [] [(0, .v 0 (.slice (.int .u32)) p0), (1, .v 0 (.slice (.int .u32)) p1)] pz ?_
  refine W_seq ?_
  obtain ⟨y1, ey1, h⟩ := h.bind
  obtain ⟨y2, ey2, h⟩ := h.bind
  refine R [.res [(9, ⟨9, .slice (.int .u32), y1⟩)], .res [(9, ⟨9, .slice (.int .u32), y2⟩)]] [(0, .v 9 (.slice (.int .u32)) y1), (1, .v 9 (.slice (.int .u32)) y2)] (pc (nat_Cut.ok ey1) (ps (nat_Cut.ok ey2))) ?_
  refine W_seq (W_block (W_seq ?_))
  refine R [] [(0, .v 9 (.slice (.int .u32)) y1), (1, .v 9 (.slice (.int .u32)) y2), (19, .v 0 .bool ((y2.length : Int) == 0))] pz ?_
  refine C h (fun h => ?_) fun h => ?_
  · refine W_seq ?_
    refine R [] [(4, .v 9 (.slice (.int .u32)) ([] : List Int)), (5, .v 9 (.slice (.int .u32)) ([] : List Int)), (6, .v 0 .bool false)] pz ?_
    cases h
    exact Rt hw0
  refine W_seq ?_
  obtain ⟨y3, ey3, h⟩ := h.bind
  refine R [.res [(0, ⟨0, .int .i64, y3⟩)]] [(0, .v 9 (.slice (.int .u32)) y1), (1, .v 9 (.slice (.int .u32)) y2), (23, .v 0 .bool (decide (y3 < 0)))] (ps (nat_Cmp.ok ey3)) ?_
  refine C h (fun h => ?_) fun h => ?_
  · refine W_seq ?_
    refine R [] [(4, .v 9 (.slice (.int .u32)) ([] : List Int)), (5, .v 9 (.slice (.int .u32)) y1), (6, .v 0 .bool true)] pz ?_
    cases h
    exact Rt hw0
  refine W_seq ?_
  refine R [] [(0, .v 9 (.slice (.int .u32)) y1), (1, .v 9 (.slice (.int .u32)) y2), (29, .v 0 .bool ((y2.length : Int) == 1))] pz ?_
  refine C h (fun h => ?_) fun h => ?_
  · refine W_seq ?_
    obtain ⟨o1, h⟩ := h.ass
    obtain ⟨y4, ey4, h⟩ := h.bind
    refine R [.res [(9, ⟨9, .slice (.int .u32), y4.1⟩), (0, ⟨0, .int .u32, y4.2⟩)]] [(7, .v 9 (.slice (.int .u32)) y4.1), (8, .v 0 (.int .u32) y4.2)] (pc o1 (ps (nat_short.ok ey4))) ?_
    refine W_seq ?_
    obtain ⟨y5, ey5, h⟩ := h.bind
    refine R [.res [(9, ⟨9, .slice (.int .u32), y5⟩)]] [(4, .v 9 (.slice (.int .u32)) y4.1), (5, .v 9 (.slice (.int .u32)) y5), (6, .v 0 .bool true)] (ps (nat_Of.ok ey5)) ?_
    cases h
    exact Rt hw0
  refine W_skip (W_blk (W_seq ?_))
  obtain ⟨o1, h⟩ := h.ass
  obtain ⟨y6, ey6, h⟩ := h.bind
  refine R [.res [(0, ⟨0, .int .i64, y6⟩)]] [(0, .v 9 (.slice (.int .u32)) y1), (1, .v 9 (.slice (.int .u32)) y2), (9, .v 0 (.int .i64) y6)] (pc o1 (ps (math_bits_LeadingZeros32.ok ey6))) ?_
  refine W_seq ?_
  obtain ⟨y7, ey7, h⟩ := h.bind
  obtain ⟨y8, ey8, h⟩ := h.bind
  obtain ⟨y9, ey9, h⟩ := h.bind
  refine R [.res [(9, ⟨9, .slice (.int .u32), y7⟩)], .res [(9, ⟨9, .slice (.int .u32), y8⟩)], .res [(9, ⟨9, .slice (.int .u32), y9⟩)]] [(0, .v 9 (.slice (.int .u32)) y1), (1, .v 9 (.slice (.int .u32)) y2), (9, .v 0 (.int .i64) y6), (10, .v 9 (.slice (.int .u32)) y7), (11, .v 9 (.slice (.int .u32)) y9)] (pc (nat_shifted.ok ey7) (pc (nat_shifted.ok ey8) (ps (nat_Cut.ok ey9)))) ?_
  refine W_seq ?_
  obtain ⟨o1, h⟩ := h.ass
  refine R1 h [] (fun x10 => [(9, .v 0 (.int .i64) y6), (10, .v 9 (.slice (.int .u32)) y7), (11, .v 9 (.slice (.int .u32)) y9), (12, .v 9 (.slice (.int .u32)) x10)]) (ps o1) fun x10 h => ?_
  refine W_seq (W_seq ?_)
  refine R1 h [] (fun x11 => [(9, .v 0 (.int .i64) y6), (10, .v 9 (.slice (.int .u32)) y7), (11, .v 9 (.slice (.int .u32)) y9), (12, .v 9 (.slice (.int .u32)) x10), (13, .v 0 (.int .i64) x11)]) pz fun x11 h => ?_
  refine J2 h (nat_Div_j1 y6) (fun x12 x13 => [(9, .v 0 (.int .i64) y6), (10, .v 9 (.slice (.int .u32)) x12), (12, .v 9 (.slice (.int .u32)) x13)]) (fun x12 x13 h => ?_) fun j1 => ?_
  · unfold nat_Div_j1 at h
    refine W_seq ?_
    obtain ⟨y14, ey14, h⟩ := h.bind
    obtain ⟨y15, ey15, h⟩ := h.bind
    refine R [.res [(9, ⟨9, .slice (.int .u32), y14⟩)], .res [(9, ⟨9, .slice (.int .u32), y15⟩)]] [(4, .v 9 (.slice (.int .u32)) y14), (5, .v 9 (.slice (.int .u32)) y15), (6, .v 0 .bool true)] (pc (nat_Cut.ok ey14) (ps (nat_down.ok ey15))) ?_
    cases h
    exact Rt hw0
  refine W_block ?_
  refine L3 h (fun x16 x17 x18 => [(9, .v 0 (.int .i64) y6), (10, .v 9 (.slice (.int .u32)) x16), (11, .v 9 (.slice (.int .u32)) y9), (12, .v 9 (.slice (.int .u32)) x17), (13, .v 0 (.int .i64) x18)]) fun x16 x17 x18 _ h => ?_
  unfold nat_Div_b1 at h
  refine W_seq (W_seq ?_)
  refine R [] [(9, .v 0 (.int .i64) y6), (10, .v 9 (.slice (.int .u32)) x16), (11, .v 9 (.slice (.int .u32)) y9), (12, .v 9 (.slice (.int .u32)) x17), (13, .v 0 (.int .i64) x18), (70, .v 0 .bool (decide (x18 ≥ 0)))] pz ?_
  refine C h (fun h => ?_) fun h => ?_
  · refine W_skip (W_seq (W_block (W_seq ?_)))
    obtain ⟨y19, ey19, h⟩ := h.bind
    refine R [.res [(0, ⟨0, .int .u64, y19⟩)]] [(9, .v 0 (.int .i64) y6), (10, .v 9 (.slice (.int .u32)) x16), (11, .v 9 (.slice (.int .u32)) y9), (12, .v 9 (.slice (.int .u32)) x17), (13, .v 0 (.int .i64) x18), (14, .v 0 (.int .u64) y19)] (ps (nat_guess.ok ey19)) ?_
    refine W_seq (W_seq ?_)
    obtain ⟨y20, ey20, h⟩ := h.bind
    refine R [.inn (.v 9 (.slice (.int .u32)) y20.2), .res [(0, ⟨0, .bool, y20.1⟩)]] [(9, .v 0 (.int .i64) y6), (10, .v 9 (.slice (.int .u32)) y20.2), (11, .v 9 (.slice (.int .u32)) y9), (12, .v 9 (.slice (.int .u32)) x17), (13, .v 0 (.int .i64) x18), (14, .v 0 (.int .u64) y19), (81, .v 0 .bool y20.1)] (ps (nat_away.ok ey20)) ?_
    refine J2 h (nat_Div_j2 x17 x18) (fun x21 x22 => [(9, .v 0 (.int .i64) y6), (10, .v 9 (.slice (.int .u32)) x21), (11, .v 9 (.slice (.int .u32)) y9), (12, .v 9 (.slice (.int .u32)) x17), (13, .v 0 (.int .i64) x18), (14, .v 0 (.int .u64) x22)]) (fun x21 x22 h => ?_) fun j2 => ?_
    · unfold nat_Div_j2 at h
      obtain ⟨o1, h⟩ := h.ass
      refine R1 h [] (fun x23 => [(9, .v 0 (.int .i64) y6), (10, .v 9 (.slice (.int .u32)) x21), (11, .v 9 (.slice (.int .u32)) y9), (12, .v 9 (.slice (.int .u32)) x23), (13, .v 0 (.int .i64) x18)]) (ps o1) fun x23 h => ?_
      refine W_blk ?_
      refine R1 h [] (fun x24 => [(9, .v 0 (.int .i64) y6), (10, .v 9 (.slice (.int .u32)) x21), (11, .v 9 (.slice (.int .u32)) y9), (12, .v 9 (.slice (.int .u32)) x23), (13, .v 0 (.int .i64) x24)]) pz fun x24 h => ?_
      exact B h
    refine C h (fun h => ?_) fun h => ?_
    · refine W_seq ?_
      refine R1 h [] (fun x25 => [(9, .v 0 (.int .i64) y6), (10, .v 9 (.slice (.int .u32)) y20.2), (11, .v 9 (.slice (.int .u32)) y9), (12, .v 9 (.slice (.int .u32)) x17), (13, .v 0 (.int .i64) x18), (14, .v 0 (.int .u64) x25)]) pz fun x25 h => ?_
      obtain ⟨y26, ey26, h⟩ := h.bind
      refine R [.inn (.v 9 (.slice (.int .u32)) y26), .res []] [(9, .v 0 (.int .i64) y6), (10, .v 9 (.slice (.int .u32)) y26), (11, .v 9 (.slice (.int .u32)) y9), (12, .v 9 (.slice (.int .u32)) x17), (13, .v 0 (.int .i64) x18), (14, .v 0 (.int .u64) x25)] (ps (nat_back.ok ey26)) ?_
      exact K (j2 y26 x25 h)
    refine W_skip ?_
    exact K (j2 y20.2 y19 h)
  refine W_exit rfl ?_
  exact K (j1 x16 x17 h.back)

def nat_Gcd_j1 (x3 : List Int) : Option (List Int) :=
  some x3
def nat_Gcd_b1 (x4 : List Int) (x5 : List Int) : Option (((List Int) × (List Int)) ⊕ (List Int)) :=
  bif decide ((x5.length : Int) > 0) then
    (nat_Div x4 x5).bind fun y6 =>
    some (.inl (x5, y6.2.1))
  else
  (nat_Gcd_j1 x4).map .inr
def nat_Gcd (p0 : List Int) (p1 : List Int) : Option (List Int) :=
  (nat_Cut p0).bind fun y1 =>
  (nat_Cut p1).bind fun y2 =>
  loopM (fun x : (List Int) × (List Int) => nat_Gcd_b1 x.1 x.2) (y1, y2)
theorem nat_Gcd.ok {p0 : List Int} {p1 : List Int} {r : List Int} (h : nat_Gcd p0 p1 = some r) : ACall prog 41 [⟨.slice (.int .u32), p0⟩, ⟨.slice (.int .u32), p1⟩] [⟨9, .slice (.int .u32), r⟩] := by
  replace h := Leads.of h
  unfold nat_Gcd at h
  refine AC func41 rfl fun w0 F0 hw0 => ?_
  refine W_seq ?_
  refine R [] [(0, .v 0 (.slice (.int .u32)) p0), (1, .v 0 (.slice (.int .u32)) p1)] pz ?_
  refine W_seq ?_
  obtain ⟨y1, ey1, h⟩ := h.bind
  obtain ⟨y2, ey2, h⟩ := h.bind
  refine R [.res [(9, ⟨9, .slice (.int .u32), y1⟩)], .res [(9, ⟨9, .slice (.int .u32), y2⟩)]] [(0, .v 9 (.slice (.int .u32)) y1), (1, .v 9 (.slice (.int .u32)) y2)] (pc (nat_Cut.ok ey1) (ps (nat_Cut.ok ey2))) ?_
  refine W_seq ?_
  refine J1 h nat_Gcd_j1 (fun x3 => [(0, .v 9 (.slice (.int .u32)) x3)]) (fun x3 h => ?_) fun j1 => ?_
  · unfold nat_Gcd_j1 at h
    refine W_seq ?_
    refine R [] [(4, .v 9 (.slice (.int .u32)) x3)] pz ?_
    cases h
    exact Rt hw0
  refine W_block ?_
  refine L2 h (fun x4 x5 => [(0, .v 9 (.slice (.int .u32)) x4), (1, .v 9 (.slice (.int .u32)) x5)]) fun x4 x5 _ h => ?_
  unfold nat_Gcd_b1 at h
  refine W_seq (W_seq ?_)
  refine R [] [(0, .v 9 (.slice (.int .u32)) x4), (1, .v 9 (.slice (.int .u32)) x5), (14, .v 0 .bool (decide ((x5.length : Int) > 0)))] pz ?_
  refine C h (fun h => ?_) fun h => ?_
  · refine W_skip (W_block (W_seq ?_))
    obtain ⟨y6, ey6, h⟩ := h.bind
    refine R [.res [(9, ⟨9, .slice (.int .u32), y6.1⟩), (9, ⟨9, .slice (.int .u32), y6.2.1⟩), (0, ⟨0, .bool, y6.2.2⟩)]] [(1, .v 9 (.slice (.int .u32)) x5), (6, .v 9 (.slice (.int .u32)) y6.2.1)] (ps (nat_Div.ok ey6)) ?_
    refine R [] [(0, .v 9 (.slice (.int .u32)) x5), (1, .v 9 (.slice (.int .u32)) y6.2.1)] pz ?_
    refine W_blk ?_
    exact B h
  refine W_exit rfl ?_
  exact K (j1 x4 h.back)

def ratio_Make (p0 : List Int) (p1 : List Int) : Option (D_api_Ratio × Bool) :=
  bnd ((([] : List Int), ([] : List Int))) fun x1 =>
  (nat_Gcd p0 p1).bind fun y2 =>
  (nat_Div p1 y2).bind fun y3 =>
  bif (!y3.2.2) || ((y3.1.length : Int) == 0) then
    bnd ((([] : List Int), ([] : List Int))) fun x4 =>
    some (x4, false)
  else
  (nat_Div p0 y2).bind fun y5 =>
  bnd ((y5.1, y3.1)) fun x6 =>
  some (x6, true)
theorem ratio_Make.ok {p0 : List Int} {p1 : List Int} {r : D_api_Ratio × Bool} (h : ratio_Make p0 p1 = some r) : ACall prog 33 [⟨.slice (.int .u32), p0⟩, ⟨.slice (.int .u32), p1⟩] [⟨0, T_api_Ratio, r.1⟩, ⟨0, .bool, r.2⟩] := by
  replace h := Leads.of h
  unfold ratio_Make at h
  refine AC func33 rfl fun w0 F0 hw0 => ?_
  refine W_seq ?_
  refine R1 h [] (fun x1 => [(0, .v 0 (.slice (.int .u32)) p0), (1, .v 0 (.slice (.int .u32)) p1), (4, .box 9 T_api_Ratio x1)]) pz fun x1 h => ?_
  refine W_seq ?_
  obtain ⟨y2, ey2, h⟩ := h.bind
  refine R [.res [(9, ⟨9, .slice (.int .u32), y2⟩)]] [(0, .v 0 (.slice (.int .u32)) p0), (1, .v 0 (.slice (.int .u32)) p1), (4, .box 9 T_api_Ratio x1), (6, .v 9 (.slice (.int .u32)) y2)] (ps (nat_Gcd.ok ey2)) ?_
  refine W_seq ?_
  obtain ⟨y3, ey3, h⟩ := h.bind
  refine R [.res [(9, ⟨9, .slice (.int .u32), y3.1⟩), (9, ⟨9, .slice (.int .u32), y3.2.1⟩), (0, ⟨0, .bool, y3.2.2⟩)]] [(0, .v 0 (.slice (.int .u32)) p0), (4, .box 9 T_api_Ratio x1), (6, .v 9 (.slice (.int .u32)) y2), (7, .v 9 (.slice (.int .u32)) y3.1), (9, .v 0 .bool y3.2.2)] (ps (nat_Div.ok ey3)) ?_
  refine W_seq (W_seq ?_)
  refine R [] [(0, .v 0 (.slice (.int .u32)) p0), (4, .box 9 T_api_Ratio x1), (6, .v 9 (.slice (.int .u32)) y2), (7, .v 9 (.slice (.int .u32)) y3.1), (29, .v 0 .bool ((!y3.2.2) || ((y3.1.length : Int) == 0)))] pz ?_
  refine C h (fun h => ?_) fun h => ?_
  · refine W_seq ?_
    refine R1 h [] (fun x4 => [(4, .box 0 T_api_Ratio x4), (5, .v 0 .bool false)]) pz fun x4 h => ?_
    cases h
    exact Rt hw0
  refine W_skip (W_seq ?_)
  obtain ⟨y5, ey5, h⟩ := h.bind
  refine R [.res [(9, ⟨9, .slice (.int .u32), y5.1⟩), (9, ⟨9, .slice (.int .u32), y5.2.1⟩), (0, ⟨0, .bool, y5.2.2⟩)]] [(4, .box 9 T_api_Ratio x1), (7, .v 9 (.slice (.int .u32)) y3.1), (10, .v 9 (.slice (.int .u32)) y5.1)] (ps (nat_Div.ok ey5)) ?_
  refine W_seq ?_
  refine K (E' := [(4, .box 9 T_api_Ratio x1), (7, .v 0 (.slice (.int .u32)) y3.1), (10, .v 0 (.slice (.int .u32)) y5.1)]) ?_
  refine R1 h [] (fun x6 => [(4, .box 0 T_api_Ratio x6), (5, .v 0 .bool true)]) pz fun x6 h => ?_
  cases h
  exact Rt hw0

def ratio_Of (p0 : Int) (p1 : Int) : Option (D_api_Ratio × Bool) :=
  bnd ((([] : List Int), ([] : List Int))) fun x1 =>
  (nat_Of p0).bind fun y2 =>
  (nat_Of p1).bind fun y3 =>
  (ratio_Make y2 y3).bind fun y4 =>
  some (y4.1, y4.2)
theorem ratio_Of.ok {p0 : Int} {p1 : Int} {r : D_api_Ratio × Bool} (h : ratio_Of p0 p1 = some r) : ACall prog 15 [⟨.int .u64, p0⟩, ⟨.int .u64, p1⟩] [⟨0, T_api_Ratio, r.1⟩, ⟨0, .bool, r.2⟩] := by
  replace h := Leads.of h
  unfold ratio_Of at h
  refine AC func15 rfl fun w0 F0 hw0 => ?_
  refine W_seq ?_
  refine R1 h [] (fun x1 => [(0, .v 0 (.int .u64) p0), (1, .v 0 (.int .u64) p1), (4, .box 9 T_api_Ratio x1)]) pz fun x1 h => ?_
  refine W_seq ?_
  obtain ⟨y2, ey2, h⟩ := h.bind
  obtain ⟨y3, ey3, h⟩ := h.bind
  obtain ⟨y4, ey4, h⟩ := h.bind
  refine R [.res [(0, ⟨9, .slice (.int .u32), y2⟩)], .res [(0, ⟨9, .slice (.int .u32), y3⟩)], .res [(0, ⟨0, T_api_Ratio, y4.1⟩), (0, ⟨0, .bool, y4.2⟩)]] [(4, .box 0 T_api_Ratio y4.1), (5, .v 0 .bool y4.2)] (pc (nat_Of.ok ey2) (pc (nat_Of.ok ey3) (ps (ratio_Make.ok ey4)))) ?_
  cases h
  exact Rt hw0

def nat_times_j1 (x2 : List Int) : Option (List Int) :=
  (nat_Cut x2).bind fun y3 =>
  some y3
def nat_times_j2 (x5 : Int) (x6 : List Int) : Option (((List Int) × Int) ⊕ (List Int)) :=
  bnd (i64.wrap (x5 + 1)) fun x7 =>
  some (.inl (x6, x7))
def nat_times_j3 (p1 : List Int) (x5 : Int) (x9 : List Int) (x10 : Int) : Option (((List Int) × Int) ⊕ (List Int)) :=
  ass (0 ≤ i64.wrap (x5 + (p1.length : Int)) ∧ i64.wrap (x5 + (p1.length : Int)) < (x9.length : Int)) <|
  bnd (wr x9 (i64.wrap (x5 + (p1.length : Int))) (u32.wrap x10)) fun x11 =>
  nat_times_j2 x5 x11
def nat_times_b2 (p1 : List Int) (x5 : Int) (x8 : Int) (x12 : List Int) (x13 : Int) (x14 : Int) : Option (((List Int) × Int × Int) ⊕ (((List Int) × Int) ⊕ (List Int))) :=
  bif decide (x14 < (p1.length : Int)) then
    ass (0 ≤ x14 ∧ x14 < (p1.length : Int)) <|
    bnd (rd (0 : Int) p1 x14) fun x15 =>
    ass (0 ≤ i64.wrap (x5 + x14) ∧ i64.wrap (x5 + x14) < (x12.length : Int)) <|
    bnd (u64.wrap (x13 + (u64.wrap ((u64.wrap ((u64.wrap x8) * (u64.wrap x15))) + (u64.wrap (rd (0 : Int) x12 (i64.wrap (x5 + x14)))))))) fun x16 =>
    ass (0 ≤ i64.wrap (x5 + x14) ∧ i64.wrap (x5 + x14) < (x12.length : Int)) <|
    bnd (wr x12 (i64.wrap (x5 + x14)) (u32.wrap x16)) fun x17 =>
    ass (0 ≤ (32 : Int)) <|
    bnd (x16.fdiv (2 ^ (min (32 : Int).toNat u64.bits))) fun x18 =>
    bnd (i64.wrap (x14 + 1)) fun x19 =>
    some (.inl (x17, x18, x19))
  else
  (nat_times_j3 p1 x5 x12 x13).map .inr
def nat_times_b1 (p0 : List Int) (p1 : List Int) (x4 : List Int) (x5 : Int) : Option (((List Int) × Int) ⊕ (List Int)) :=
  bif decide (x5 < (p0.length : Int)) then
    ass (0 ≤ x5 ∧ x5 < (p0.length : Int)) <|
    bnd (rd (0 : Int) p0 x5) fun x8 =>
    loopM (fun x : (List Int) × Int × Int => nat_times_b2 p1 x5 x8 x.1 x.2.1 x.2.2) (x4, (0 : Int), (0 : Int))
  else
  (nat_times_j1 x4).map .inr
def nat_times (p0 : List Int) (p1 : List Int) : Option (List Int) :=
  ass (0 ≤ i64.wrap ((p0.length : Int) + (p1.length : Int)) ∧ i64.wrap ((p0.length : Int) + (p1.length : Int)) ≤ i64.wrap ((p0.length : Int) + (p1.length : Int)) ∧ i64.wrap ((p0.length : Int) + (p1.length : Int)) ≤ lim) <|
  bnd (List.replicate (i64.wrap ((p0.length : Int) + (p1.length : Int))).toNat (0 : Int)) fun x1 =>
  loopM (fun x : (List Int) × Int => nat_times_b1 p0 p1 x.1 x.2) (x1, (0 : Int))
theorem nat_times.ok {p0 : List Int} {p1 : List Int} {r : List Int} (h : nat_times p0 p1 = some r) : ACall prog 63 [⟨.slice (.int .u32), p0⟩, ⟨.slice (.int .u32), p1⟩] [⟨9, .slice (.int .u32), r⟩] := by
  replace h := Leads.of h
  unfold nat_times at h
  refine AC func63 rfl fun w0 F0 hw0 => ?_
  refine W_seq ?_
  refine R [] [(0, .v 0 (.slice (.int .u32)) p0), (1, .v 0 (.slice (.int .u32)) p1)] pz ?_
  refine W_seq ?_
  obtain ⟨o1, h⟩ := h.ass
  refine R1 h [] (fun x1 => [(0, .v 0 (.slice (.int .u32)) p0), (1, .v 0 (.slice (.int .u32)) p1), (5, .v 9 (.slice (.int .u32)) x1)]) (ps o1) fun x1 h => ?_
  refine W_seq (W_seq ?_)
  refine R [] [(1, .v 0 (.slice (.int .u32)) p1), (5, .v 9 (.slice (.int .u32)) x1), (17, .v 0 (.slice (.int .u32)) p0), (18, .v 0 (.int .i64) (p0.length : Int)), (19, .v 0 (.int .i64) (0 : Int))] pz ?_
  refine J1 h nat_times_j1 (fun x2 => [(5, .v 9 (.slice (.int .u32)) x2)]) (fun x2 h => ?_) fun j1 => ?_
  · unfold nat_times_j1 at h
    refine W_seq ?_
    obtain ⟨y3, ey3, h⟩ := h.bind
    refine R [.res [(9, ⟨9, .slice (.int .u32), y3⟩)]] [(4, .v 9 (.slice (.int .u32)) y3)] (ps (nat_Cut.ok ey3)) ?_
    cases h
    exact Rt hw0
  refine W_block ?_
  refine L2 h (fun x4 x5 => [(1, .v 0 (.slice (.int .u32)) p1), (5, .v 9 (.slice (.int .u32)) x4), (17, .v 0 (.slice (.int .u32)) p0), (18, .v 0 (.int .i64) (p0.length : Int)), (19, .v 0 (.int .i64) x5)]) fun x4 x5 _ h => ?_
  unfold nat_times_b1 at h
  refine W_seq ?_
  refine R [] [(1, .v 0 (.slice (.int .u32)) p1), (5, .v 9 (.slice (.int .u32)) x4), (17, .v 0 (.slice (.int .u32)) p0), (18, .v 0 (.int .i64) (p0.length : Int)), (19, .v 0 (.int .i64) x5), (20, .v 0 .bool (decide (x5 < (p0.length : Int))))] pz ?_
  refine W_seq ?_
  refine C h (fun h => ?_) fun h => ?_
  · refine W_skip (W_seq ?_)
    refine J1 h (nat_times_j2 x5) (fun x6 => [(1, .v 0 (.slice (.int .u32)) p1), (5, .v 9 (.slice (.int .u32)) x6), (17, .v 0 (.slice (.int .u32)) p0), (18, .v 0 (.int .i64) (p0.length : Int)), (19, .v 0 (.int .i64) x5)]) (fun x6 h => ?_) fun j2 => ?_
    · unfold nat_times_j2 at h
      refine R1 h [] (fun x7 => [(1, .v 0 (.slice (.int .u32)) p1), (5, .v 9 (.slice (.int .u32)) x6), (17, .v 0 (.slice (.int .u32)) p0), (18, .v 0 (.int .i64) (p0.length : Int)), (19, .v 0 (.int .i64) x7)]) pz fun x7 h => ?_
      exact B h
    refine W_block (W_seq ?_)
    obtain ⟨o1, h⟩ := h.ass
    refine R1 h [] (fun x8 => [(1, .v 0 (.slice (.int .u32)) p1), (5, .v 9 (.slice (.int .u32)) x4), (6, .v 0 (.int .i64) x5), (7, .v 0 (.int .u32) x8), (17, .v 0 (.slice (.int .u32)) p0), (18, .v 0 (.int .i64) (p0.length : Int)), (19, .v 0 (.int .i64) x5)]) (ps o1) fun x8 h => ?_
    refine W_seq ?_
    refine R [] [(1, .v 0 (.slice (.int .u32)) p1), (5, .v 9 (.slice (.int .u32)) x4), (6, .v 0 (.int .i64) x5), (7, .v 0 (.int .u32) x8), (8, .v 0 (.int .u64) (0 : Int)), (17, .v 0 (.slice (.int .u32)) p0), (18, .v 0 (.int .i64) (p0.length : Int)), (19, .v 0 (.int .i64) x5)] pz ?_
    refine W_seq (W_seq ?_)
    refine R [] [(1, .v 0 (.slice (.int .u32)) p1), (5, .v 9 (.slice (.int .u32)) x4), (6, .v 0 (.int .i64) x5), (7, .v 0 (.int .u32) x8), (8, .v 0 (.int .u64) (0 : Int)), (17, .v 0 (.slice (.int .u32)) p0), (18, .v 0 (.int .i64) (p0.length : Int)), (19, .v 0 (.int .i64) x5), (24, .v 0 (.slice (.int .u32)) p1), (25, .v 0 (.int .i64) (p1.length : Int)), (26, .v 0 (.int .i64) (0 : Int))] pz ?_
    refine J2 h (nat_times_j3 p1 x5) (fun x9 x10 => [(1, .v 0 (.slice (.int .u32)) p1), (5, .v 9 (.slice (.int .u32)) x9), (6, .v 0 (.int .i64) x5), (8, .v 0 (.int .u64) x10), (17, .v 0 (.slice (.int .u32)) p0), (18, .v 0 (.int .i64) (p0.length : Int)), (19, .v 0 (.int .i64) x5)]) (fun x9 x10 h => ?_) fun j3 => ?_
    · unfold nat_times_j3 at h
      obtain ⟨o1, h⟩ := h.ass
      refine R1 h [] (fun x11 => [(1, .v 0 (.slice (.int .u32)) p1), (5, .v 9 (.slice (.int .u32)) x11), (17, .v 0 (.slice (.int .u32)) p0), (18, .v 0 (.int .i64) (p0.length : Int)), (19, .v 0 (.int .i64) x5)]) (ps o1) fun x11 h => ?_
      refine W_blk ?_
      exact K (j2 x11 h)
    refine W_block ?_
    refine L3 h (fun x12 x13 x14 => [(1, .v 0 (.slice (.int .u32)) p1), (5, .v 9 (.slice (.int .u32)) x12), (6, .v 0 (.int .i64) x5), (7, .v 0 (.int .u32) x8), (8, .v 0 (.int .u64) x13), (17, .v 0 (.slice (.int .u32)) p0), (18, .v 0 (.int .i64) (p0.length : Int)), (19, .v 0 (.int .i64) x5), (24, .v 0 (.slice (.int .u32)) p1), (25, .v 0 (.int .i64) (p1.length : Int)), (26, .v 0 (.int .i64) x14)]) fun x12 x13 x14 _ h => ?_
    unfold nat_times_b2 at h
    refine W_seq ?_
    refine R [] [(1, .v 0 (.slice (.int .u32)) p1), (5, .v 9 (.slice (.int .u32)) x12), (6, .v 0 (.int .i64) x5), (7, .v 0 (.int .u32) x8), (8, .v 0 (.int .u64) x13), (17, .v 0 (.slice (.int .u32)) p0), (18, .v 0 (.int .i64) (p0.length : Int)), (19, .v 0 (.int .i64) x5), (24, .v 0 (.slice (.int .u32)) p1), (25, .v 0 (.int .i64) (p1.length : Int)), (26, .v 0 (.int .i64) x14), (27, .v 0 .bool (decide (x14 < (p1.length : Int))))] pz ?_
    refine W_seq ?_
    refine C h (fun h => ?_) fun h => ?_
    · refine W_skip (W_seq (W_block (W_seq ?_)))
      obtain ⟨o1, h⟩ := h.ass
      refine R1 h [] (fun x15 => [(1, .v 0 (.slice (.int .u32)) p1), (5, .v 9 (.slice (.int .u32)) x12), (6, .v 0 (.int .i64) x5), (7, .v 0 (.int .u32) x8), (8, .v 0 (.int .u64) x13), (9, .v 0 (.int .i64) x14), (10, .v 0 (.int .u32) x15), (17, .v 0 (.slice (.int .u32)) p0), (18, .v 0 (.int .i64) (p0.length : Int)), (19, .v 0 (.int .i64) x5), (24, .v 0 (.slice (.int .u32)) p1), (25, .v 0 (.int .i64) (p1.length : Int)), (26, .v 0 (.int .i64) x14)]) (ps o1) fun x15 h => ?_
      refine W_seq ?_
      obtain ⟨o1, h⟩ := h.ass
      refine R1 h [] (fun x16 => [(1, .v 0 (.slice (.int .u32)) p1), (5, .v 9 (.slice (.int .u32)) x12), (6, .v 0 (.int .i64) x5), (7, .v 0 (.int .u32) x8), (8, .v 0 (.int .u64) x16), (9, .v 0 (.int .i64) x14), (17, .v 0 (.slice (.int .u32)) p0), (18, .v 0 (.int .i64) (p0.length : Int)), (19, .v 0 (.int .i64) x5), (24, .v 0 (.slice (.int .u32)) p1), (25, .v 0 (.int .i64) (p1.length : Int)), (26, .v 0 (.int .i64) x14)]) (ps o1) fun x16 h => ?_
      refine W_seq ?_
      obtain ⟨o1, h⟩ := h.ass
      refine R1 h [] (fun x17 => [(1, .v 0 (.slice (.int .u32)) p1), (5, .v 9 (.slice (.int .u32)) x17), (6, .v 0 (.int .i64) x5), (7, .v 0 (.int .u32) x8), (8, .v 0 (.int .u64) x16), (17, .v 0 (.slice (.int .u32)) p0), (18, .v 0 (.int .i64) (p0.length : Int)), (19, .v 0 (.int .i64) x5), (24, .v 0 (.slice (.int .u32)) p1), (25, .v 0 (.int .i64) (p1.length : Int)), (26, .v 0 (.int .i64) x14)]) (ps o1) fun x17 h => ?_
      obtain ⟨o1, h⟩ := h.ass
      refine R1 h [] (fun x18 => [(1, .v 0 (.slice (.int .u32)) p1), (5, .v 9 (.slice (.int .u32)) x17), (6, .v 0 (.int .i64) x5), (7, .v 0 (.int .u32) x8), (8, .v 0 (.int .u64) x18), (17, .v 0 (.slice (.int .u32)) p0), (18, .v 0 (.int .i64) (p0.length : Int)), (19, .v 0 (.int .i64) x5), (24, .v 0 (.slice (.int .u32)) p1), (25, .v 0 (.int .i64) (p1.length : Int)), (26, .v 0 (.int .i64) x14)]) (ps o1) fun x18 h => ?_
      refine W_blk ?_
      refine R1 h [] (fun x19 => [(1, .v 0 (.slice (.int .u32)) p1), (5, .v 9 (.slice (.int .u32)) x17), (6, .v 0 (.int .i64) x5), (7, .v 0 (.int .u32) x8), (8, .v 0 (.int .u64) x18), (17, .v 0 (.slice (.int .u32)) p0), (18, .v 0 (.int .i64) (p0.length : Int)), (19, .v 0 (.int .i64) x5), (24, .v 0 (.slice (.int .u32)) p1), (25, .v 0 (.int .i64) (p1.length : Int)), (26, .v 0 (.int .i64) x19)]) pz fun x19 h => ?_
      exact B h
    refine W_exit rfl ?_
    exact K (j3 x12 x13 h.back)
  refine W_exit rfl ?_
  exact K (j1 x4 h.back)

def nat_Mul_j1 (x2 : List Int) : Option (List Int) :=
  some x2
def nat_Mul_b1 (p0 : List (List Int)) (x3 : List Int) (x4 : Int) : Option (((List Int) × Int) ⊕ (List Int)) :=
  bif decide (x4 < (p0.length : Int)) then
    ass (0 ≤ x4 ∧ x4 < (p0.length : Int)) <|
    bnd (rd ([] : List Int) p0 x4) fun x5 =>
    (nat_times x3 x5).bind fun y6 =>
    bnd (i64.wrap (x4 + 1)) fun x7 =>
    some (.inl (y6, x7))
  else
  (nat_Mul_j1 x3).map .inr
def nat_Mul (p0 : List (List Int)) : Option (List Int) :=
  (nat_Of (1 : Int)).bind fun y1 =>
  loopM (fun x : (List Int) × Int => nat_Mul_b1 p0 x.1 x.2) (y1, (0 : Int))
theorem nat_Mul.ok {p0 : List (List Int)} {r : List Int} (h : nat_Mul p0 = some r) : ACall prog 36 [⟨.slice (.slice (.int .u32)), p0⟩] [⟨9, .slice (.int .u32), r⟩] := by
  replace h := Leads.of h
  unfold nat_Mul at h
  refine AC func36 rfl fun w0 F0 hw0 => ?_
  refine W_seq ?_
  refine R [] [(0, .v 0 (.slice (.slice (.int .u32))) p0)] pz ?_
  refine W_seq ?_
  obtain ⟨y1, ey1, h⟩ := h.bind
  refine R [.res [(9, ⟨9, .slice (.int .u32), y1⟩)]] [(0, .v 0 (.slice (.slice (.int .u32))) p0), (3, .v 9 (.slice (.int .u32)) y1)] (ps (nat_Of.ok ey1)) ?_
  refine W_seq (W_seq ?_)
  refine R [] [(3, .v 9 (.slice (.int .u32)) y1), (7, .v 0 (.slice (.slice (.int .u32))) p0), (8, .v 0 (.int .i64) (p0.length : Int)), (9, .v 0 (.int .i64) (0 : Int))] pz ?_
  refine J1 h nat_Mul_j1 (fun x2 => [(3, .v 9 (.slice (.int .u32)) x2)]) (fun x2 h => ?_) fun j1 => ?_
  · unfold nat_Mul_j1 at h
    refine W_seq ?_
    refine R [] [(2, .v 9 (.slice (.int .u32)) x2)] pz ?_
    cases h
    exact Rt hw0
  refine W_block ?_
  refine L2 h (fun x3 x4 => [(3, .v 9 (.slice (.int .u32)) x3), (7, .v 0 (.slice (.slice (.int .u32))) p0), (8, .v 0 (.int .i64) (p0.length : Int)), (9, .v 0 (.int .i64) x4)]) fun x3 x4 _ h => ?_
  unfold nat_Mul_b1 at h
  refine W_seq ?_
  refine R [] [(3, .v 9 (.slice (.int .u32)) x3), (7, .v 0 (.slice (.slice (.int .u32))) p0), (8, .v 0 (.int .i64) (p0.length : Int)), (9, .v 0 (.int .i64) x4), (10, .v 0 .bool (decide (x4 < (p0.length : Int))))] pz ?_
  refine W_seq ?_
  refine C h (fun h => ?_) fun h => ?_
  · refine W_skip (W_seq (W_block (W_seq ?_)))
    obtain ⟨o1, h⟩ := h.ass
    refine R1 h [] (fun x5 => [(3, .v 9 (.slice (.int .u32)) x3), (5, .v 0 (.slice (.int .u32)) x5), (7, .v 0 (.slice (.slice (.int .u32))) p0), (8, .v 0 (.int .i64) (p0.length : Int)), (9, .v 0 (.int .i64) x4)]) (ps o1) fun x5 h => ?_
    obtain ⟨y6, ey6, h⟩ := h.bind
    refine R [.res [(9, ⟨9, .slice (.int .u32), y6⟩)]] [(3, .v 9 (.slice (.int .u32)) y6), (7, .v 0 (.slice (.slice (.int .u32))) p0), (8, .v 0 (.int .i64) (p0.length : Int)), (9, .v 0 (.int .i64) x4)] (ps (nat_times.ok ey6)) ?_
    refine W_blk ?_
    refine R1 h [] (fun x7 => [(3, .v 9 (.slice (.int .u32)) y6), (7, .v 0 (.slice (.slice (.int .u32))) p0), (8, .v 0 (.int .i64) (p0.length : Int)), (9, .v 0 (.int .i64) x7)]) pz fun x7 h => ?_
    exact B h
  refine W_exit rfl ?_
  exact K (j1 x3 h.back)

def nat_Lcm (p0 : List Int) (p1 : List Int) : Option (List Int) :=
  (nat_Gcd p0 p1).bind fun y1 =>
  (nat_Div p0 y1).bind fun y2 =>
  bif !y2.2.2 then
    some ([] : List Int)
  else
  (nat_Mul [y2.1, p1]).bind fun y3 =>
  some y3
theorem nat_Lcm.ok {p0 : List Int} {p1 : List Int} {r : List Int} (h : nat_Lcm p0 p1 = some r) : ACall prog 34 [⟨.slice (.int .u32), p0⟩, ⟨.slice (.int .u32), p1⟩] [⟨9, .slice (.int .u32), r⟩] := by
  replace h := Leads.of h
  unfold nat_Lcm at h
  refine AC func34 rfl fun w0 F0 hw0 => ?_
  refine W_seq ?_
  refine R [] [(0, .v 0 (.slice (.int .u32)) p0), (1, .v 0 (.slice (.int .u32)) p1)] pz ?_
  refine W_seq ?_
  obtain ⟨y1, ey1, h⟩ := h.bind
  obtain ⟨y2, ey2, h⟩ := h.bind
  refine R [.res [(9, ⟨9, .slice (.int .u32), y1⟩)], .res [(9, ⟨9, .slice (.int .u32), y2.1⟩), (9, ⟨9, .slice (.int .u32), y2.2.1⟩), (0, ⟨0, .bool, y2.2.2⟩)]] [(1, .v 0 (.slice (.int .u32)) p1), (5, .v 9 (.slice (.int .u32)) y2.1), (7, .v 0 .bool y2.2.2)] (pc (nat_Gcd.ok ey1) (ps (nat_Div.ok ey2))) ?_
  refine W_seq (W_seq ?_)
  refine R [] [(1, .v 0 (.slice (.int .u32)) p1), (5, .v 9 (.slice (.int .u32)) y2.1), (18, .v 0 .bool (!y2.2.2))] pz ?_
  refine C h (fun h => ?_) fun h => ?_
  · refine W_seq ?_
    refine R [] [(4, .v 9 (.slice (.int .u32)) ([] : List Int))] pz ?_
    cases h
    exact Rt hw0
  refine W_skip (W_seq ?_)
  refine K (E' := [(1, .v 0 (.slice (.int .u32)) p1), (5, .v 0 (.slice (.int .u32)) y2.1), (18, .v 0 .bool (!y2.2.2))]) ?_
  obtain ⟨y3, ey3, h⟩ := h.bind
  refine R [.res [(9, ⟨9, .slice (.int .u32), y3⟩)]] [(4, .v 9 (.slice (.int .u32)) y3)] (ps (nat_Mul.ok ey3)) ?_
  cases h
  exact Rt hw0

def ratio_Common_j2 (x2 : List Int) (x3 : List (List Int)) : Option ((List Int) × (List (List Int))) :=
  some (x2, x3)
def ratio_Common_b1 (p0 : List D_api_Ratio) (x2 : List Int) (x4 : List (List Int)) (x5 : Int) : Option (((List (List Int)) × Int) ⊕ ((List Int) × (List (List Int)))) :=
  bif decide (x5 < (p0.length : Int)) then
    ass (0 ≤ x5 ∧ x5 < (p0.length : Int)) <|
    bnd (rd z_api_Ratio p0 x5) fun x6 =>
    (nat_Div x2 x6.2).bind fun y7 =>
    (nat_Mul [y7.1, x6.1]).bind fun y8 =>
    ass (((x4.length + [y8].length : Nat) : Int) ≤ limA) <|
    bnd (x4 ++ [y8]) fun x9 =>
    bnd (i64.wrap (x5 + 1)) fun x10 =>
    some (.inl (x9, x10))
  else
  (ratio_Common_j2 x2 x4).map .inr
def ratio_Common_j1 (p0 : List D_api_Ratio) (x2 : List Int) : Option ((List Int) × (List (List Int))) :=
  loopM (fun x : (List (List Int)) × Int => ratio_Common_b1 p0 x2 x.1 x.2) (([] : List (List Int)), (0 : Int))
def ratio_Common_b2 (p0 : List D_api_Ratio) (x11 : List Int) (x12 : Int) : Option (((List Int) × Int) ⊕ ((List Int) × (List (List Int)))) :=
  bif decide (x12 < (p0.length : Int)) then
    ass (0 ≤ x12 ∧ x12 < (p0.length : Int)) <|
    bnd (rd z_api_Ratio p0 x12) fun x13 =>
    (nat_Lcm x11 x13.2).bind fun y14 =>
    bnd (i64.wrap (x12 + 1)) fun x15 =>
    some (.inl (y14, x15))
  else
  (ratio_Common_j1 p0 x11).map .inr
def ratio_Common (p0 : List D_api_Ratio) : Option ((List Int) × (List (List Int))) :=
  (nat_Of (1 : Int)).bind fun y1 =>
  loopM (fun x : (List Int) × Int => ratio_Common_b2 p0 x.1 x.2) (y1, (0 : Int))
theorem ratio_Common.ok {p0 : List D_api_Ratio} {r : (List Int) × (List (List Int))} (h : ratio_Common p0 = some r) : ACall prog 16 [⟨.slice T_api_Ratio, p0⟩] [⟨9, .slice (.int .u32), r.1⟩, ⟨1, .slice (.slice (.int .u32)), r.2⟩] := by
  replace h := Leads.of h
  unfold ratio_Common at h
  refine AC func16 rfl fun w0 F0 hw0 => ?_
  refine W_seq ?_
  refine R [] [(0, .v 0 (.slice T_api_Ratio) p0)] pz ?_
  refine W_seq ?_
  obtain ⟨y1, ey1, h⟩ := h.bind
  refine R [.res [(9, ⟨9, .slice (.int .u32), y1⟩)]] [(0, .v 0 (.slice T_api_Ratio) p0), (4, .v 9 (.slice (.int .u32)) y1)] (ps (nat_Of.ok ey1)) ?_
  refine W_seq (W_seq ?_)
  refine R [] [(0, .v 0 (.slice T_api_Ratio) p0), (4, .v 9 (.slice (.int .u32)) y1), (14, .v 0 (.slice T_api_Ratio) p0), (15, .v 0 (.int .i64) (p0.length : Int)), (16, .v 0 (.int .i64) (0 : Int))] pz ?_
  refine J1 h (ratio_Common_j1 p0) (fun x2 => [(0, .v 0 (.slice T_api_Ratio) p0), (4, .v 9 (.slice (.int .u32)) x2)]) (fun x2 h => ?_) fun j1 => ?_
  · unfold ratio_Common_j1 at h
    refine W_seq ?_
    refine R [] [(0, .v 0 (.slice T_api_Ratio) p0), (4, .v 9 (.slice (.int .u32)) x2), (7, .v 9 (.slice (.slice (.int .u32))) ([] : List (List Int)))] pz ?_
    refine W_seq (W_seq ?_)
    refine R [] [(4, .v 9 (.slice (.int .u32)) x2), (7, .v 9 (.slice (.slice (.int .u32))) ([] : List (List Int))), (25, .v 0 (.slice T_api_Ratio) p0), (26, .v 0 (.int .i64) (p0.length : Int)), (27, .v 0 (.int .i64) (0 : Int))] pz ?_
    refine J1 h (ratio_Common_j2 x2) (fun x3 => [(4, .v 9 (.slice (.int .u32)) x2), (7, .v 1 (.slice (.slice (.int .u32))) x3)]) (fun x3 h => ?_) fun j2 => ?_
    · unfold ratio_Common_j2 at h
      refine W_seq ?_
      refine R [] [(2, .v 9 (.slice (.int .u32)) x2), (3, .v 1 (.slice (.slice (.int .u32))) x3)] pz ?_
      cases h
      exact Rt hw0
    refine W_block ?_
    refine L2 h (fun x4 x5 => [(4, .v 9 (.slice (.int .u32)) x2), (7, .v 1 (.slice (.slice (.int .u32))) x4), (25, .v 0 (.slice T_api_Ratio) p0), (26, .v 0 (.int .i64) (p0.length : Int)), (27, .v 0 (.int .i64) x5)]) fun x4 x5 _ h => ?_
    unfold ratio_Common_b1 at h
    refine W_seq ?_
    refine R [] [(4, .v 9 (.slice (.int .u32)) x2), (7, .v 1 (.slice (.slice (.int .u32))) x4), (25, .v 0 (.slice T_api_Ratio) p0), (26, .v 0 (.int .i64) (p0.length : Int)), (27, .v 0 (.int .i64) x5), (28, .v 0 .bool (decide (x5 < (p0.length : Int))))] pz ?_
    refine W_seq ?_
    refine C h (fun h => ?_) fun h => ?_
    · refine W_skip (W_seq (W_block (W_seq ?_)))
      obtain ⟨o1, h⟩ := h.ass
      refine R1 h [] (fun x6 => [(4, .v 9 (.slice (.int .u32)) x2), (7, .v 1 (.slice (.slice (.int .u32))) x4), (9, .box 0 T_api_Ratio x6), (25, .v 0 (.slice T_api_Ratio) p0), (26, .v 0 (.int .i64) (p0.length : Int)), (27, .v 0 (.int .i64) x5)]) (ps o1) fun x6 h => ?_
      refine W_seq ?_
      obtain ⟨y7, ey7, h⟩ := h.bind
      refine R [.res [(9, ⟨9, .slice (.int .u32), y7.1⟩), (9, ⟨9, .slice (.int .u32), y7.2.1⟩), (0, ⟨0, .bool, y7.2.2⟩)]] [(4, .v 9 (.slice (.int .u32)) x2), (7, .v 1 (.slice (.slice (.int .u32))) x4), (9, .box 0 T_api_Ratio x6), (10, .v 9 (.slice (.int .u32)) y7.1), (25, .v 0 (.slice T_api_Ratio) p0), (26, .v 0 (.int .i64) (p0.length : Int)), (27, .v 0 (.int .i64) x5)] (ps (nat_Div.ok ey7)) ?_
      refine K (E' := [(4, .v 9 (.slice (.int .u32)) x2), (7, .v 1 (.slice (.slice (.int .u32))) x4), (9, .box 0 T_api_Ratio x6), (10, .v 0 (.slice (.int .u32)) y7.1), (25, .v 0 (.slice T_api_Ratio) p0), (26, .v 0 (.int .i64) (p0.length : Int)), (27, .v 0 (.int .i64) x5)]) ?_
      obtain ⟨y8, ey8, h⟩ := h.bind
      obtain ⟨o1, h⟩ := h.ass
      refine R1 h [.res [(0, ⟨9, .slice (.int .u32), y8⟩)]] (fun x9 => [(4, .v 9 (.slice (.int .u32)) x2), (7, .v 1 (.slice (.slice (.int .u32))) x9), (25, .v 0 (.slice T_api_Ratio) p0), (26, .v 0 (.int .i64) (p0.length : Int)), (27, .v 0 (.int .i64) x5)]) (pc (nat_Mul.ok ey8) (ps o1)) fun x9 h => ?_
      refine W_blk ?_
      refine R1 h [] (fun x10 => [(4, .v 9 (.slice (.int .u32)) x2), (7, .v 1 (.slice (.slice (.int .u32))) x9), (25, .v 0 (.slice T_api_Ratio) p0), (26, .v 0 (.int .i64) (p0.length : Int)), (27, .v 0 (.int .i64) x10)]) pz fun x10 h => ?_
      exact B h
    refine W_exit rfl ?_
    exact K (j2 x4 h.back)
  refine W_block ?_
  refine L2 h (fun x11 x12 => [(0, .v 0 (.slice T_api_Ratio) p0), (4, .v 9 (.slice (.int .u32)) x11), (14, .v 0 (.slice T_api_Ratio) p0), (15, .v 0 (.int .i64) (p0.length : Int)), (16, .v 0 (.int .i64) x12)]) fun x11 x12 _ h => ?_
  unfold ratio_Common_b2 at h
  refine W_seq ?_
  refine R [] [(0, .v 0 (.slice T_api_Ratio) p0), (4, .v 9 (.slice (.int .u32)) x11), (14, .v 0 (.slice T_api_Ratio) p0), (15, .v 0 (.int .i64) (p0.length : Int)), (16, .v 0 (.int .i64) x12), (17, .v 0 .bool (decide (x12 < (p0.length : Int))))] pz ?_
  refine W_seq ?_
  refine C h (fun h => ?_) fun h => ?_
  · refine W_skip (W_seq (W_block (W_seq ?_)))
    obtain ⟨o1, h⟩ := h.ass
    refine R1 h [] (fun x13 => [(0, .v 0 (.slice T_api_Ratio) p0), (4, .v 9 (.slice (.int .u32)) x11), (6, .box 0 T_api_Ratio x13), (14, .v 0 (.slice T_api_Ratio) p0), (15, .v 0 (.int .i64) (p0.length : Int)), (16, .v 0 (.int .i64) x12)]) (ps o1) fun x13 h => ?_
    obtain ⟨y14, ey14, h⟩ := h.bind
    refine R [.res [(9, ⟨9, .slice (.int .u32), y14⟩)]] [(0, .v 0 (.slice T_api_Ratio) p0), (4, .v 9 (.slice (.int .u32)) y14), (14, .v 0 (.slice T_api_Ratio) p0), (15, .v 0 (.int .i64) (p0.length : Int)), (16, .v 0 (.int .i64) x12)] (ps (nat_Lcm.ok ey14)) ?_
    refine W_blk ?_
    refine R1 h [] (fun x15 => [(0, .v 0 (.slice T_api_Ratio) p0), (4, .v 9 (.slice (.int .u32)) y14), (14, .v 0 (.slice T_api_Ratio) p0), (15, .v 0 (.int .i64) (p0.length : Int)), (16, .v 0 (.int .i64) x15)]) pz fun x15 h => ?_
    exact B h
  refine W_exit rfl ?_
  exact K (j1 x11 h.back)

def ratio_Zero : Option D_api_Ratio :=
  bnd ((([] : List Int), ([] : List Int))) fun x1 =>
  (nat_Of (1 : Int)).bind fun y2 =>
  bnd ((([] : List Int), y2)) fun x3 =>
  some x3
theorem ratio_Zero.ok {r : D_api_Ratio} (h : ratio_Zero = some r) : ACall prog 37 [] [⟨0, T_api_Ratio, r⟩] := by
  replace h := Leads.of h
  unfold ratio_Zero at h
  refine AC func37 rfl fun w0 F0 hw0 => ?_
  refine W_seq ?_
  refine R1 h [] (fun x1 => [(0, .box 9 T_api_Ratio x1)]) pz fun x1 h => ?_
  refine W_seq ?_
  obtain ⟨y2, ey2, h⟩ := h.bind
  refine R1 h [.res [(0, ⟨9, .slice (.int .u32), y2⟩)]] (fun x3 => [(0, .box 0 T_api_Ratio x3)]) (ps (nat_Of.ok ey2)) fun x3 h => ?_
  cases h
  exact Rt hw0

def nat_plus_j1 (x2 : List Int) : Option (List Int) :=
  (nat_Cut x2).bind fun y3 =>
  some y3
def nat_plus_b1 (p0 : List Int) (p1 : List Int) (x1 : Int) (x4 : List Int) (x5 : Int) (x6 : Int) : Option (((List Int) × Int × Int) ⊕ (List Int)) :=
  bif decide (x6 < x1) then
    (nat_at p0 x6).bind fun y7 =>
    (nat_at p1 x6).bind fun y8 =>
    bnd (u64.wrap (x5 + (u64.wrap ((u64.wrap y7) + (u64.wrap y8))))) fun x9 =>
    ass (((x4.length + [u32.wrap x9].length : Nat) : Int) ≤ limA) <|
    bnd (x4 ++ [u32.wrap x9]) fun x10 =>
    ass (0 ≤ (32 : Int)) <|
    bnd (x9.fdiv (2 ^ (min (32 : Int).toNat u64.bits))) fun x11 =>
    bnd (i64.wrap (x6 + 1)) fun x12 =>
    some (.inl (x10, x11, x12))
  else
  (nat_plus_j1 x4).map .inr
def nat_plus (p0 : List Int) (p1 : List Int) : Option (List Int) :=
  bnd (i64.wrap ((if (p1.length : Int) > (p0.length : Int) then (p1.length : Int) else (p0.length : Int)) + 1)) fun x1 =>
  loopM (fun x : (List Int) × Int × Int => nat_plus_b1 p0 p1 x1 x.1 x.2.1 x.2.2) (([] : List Int), (0 : Int), (0 : Int))
theorem nat_plus.ok {p0 : List Int} {p1 : List Int} {r : List Int} (h : nat_plus p0 p1 = some r) : ACall prog 78 [⟨.slice (.int .u32), p0⟩, ⟨.slice (.int .u32), p1⟩] [⟨9, .slice (.int .u32), r⟩] := by
  replace h := Leads.of h
  unfold nat_plus at h
  refine AC func78 rfl fun w0 F0 hw0 => ?_
  refine W_seq ?_
  refine R [] [(0, .v 0 (.slice (.int .u32)) p0), (1, .v 0 (.slice (.int .u32)) p1)] pz ?_
  refine W_seq ?_
  refine R [] [(0, .v 0 (.slice (.int .u32)) p0), (1, .v 0 (.slice (.int .u32)) p1), (5, .v 9 (.slice (.int .u32)) ([] : List Int))] pz ?_
  refine W_seq ?_
  refine R [] [(0, .v 0 (.slice (.int .u32)) p0), (1, .v 0 (.slice (.int .u32)) p1), (5, .v 9 (.slice (.int .u32)) ([] : List Int)), (6, .v 0 (.int .u64) (0 : Int))] pz ?_
  refine W_seq (W_seq ?_)
  refine R1 h [] (fun x1 => [(0, .v 0 (.slice (.int .u32)) p0), (1, .v 0 (.slice (.int .u32)) p1), (5, .v 9 (.slice (.int .u32)) ([] : List Int)), (6, .v 0 (.int .u64) (0 : Int)), (13, .v 0 (.int .i64) x1), (14, .v 0 (.int .i64) (0 : Int))]) pz fun x1 h => ?_
  refine J1 h nat_plus_j1 (fun x2 => [(5, .v 9 (.slice (.int .u32)) x2)]) (fun x2 h => ?_) fun j1 => ?_
  · unfold nat_plus_j1 at h
    refine W_seq ?_
    obtain ⟨y3, ey3, h⟩ := h.bind
    refine R [.res [(9, ⟨9, .slice (.int .u32), y3⟩)]] [(4, .v 9 (.slice (.int .u32)) y3)] (ps (nat_Cut.ok ey3)) ?_
    cases h
    exact Rt hw0
  refine W_block ?_
  refine L3 h (fun x4 x5 x6 => [(0, .v 0 (.slice (.int .u32)) p0), (1, .v 0 (.slice (.int .u32)) p1), (5, .v 9 (.slice (.int .u32)) x4), (6, .v 0 (.int .u64) x5), (13, .v 0 (.int .i64) x1), (14, .v 0 (.int .i64) x6)]) fun x4 x5 x6 _ h => ?_
  unfold nat_plus_b1 at h
  refine W_seq ?_
  refine R [] [(0, .v 0 (.slice (.int .u32)) p0), (1, .v 0 (.slice (.int .u32)) p1), (5, .v 9 (.slice (.int .u32)) x4), (6, .v 0 (.int .u64) x5), (13, .v 0 (.int .i64) x1), (14, .v 0 (.int .i64) x6), (15, .v 0 .bool (decide (x6 < x1)))] pz ?_
  refine W_seq ?_
  refine C h (fun h => ?_) fun h => ?_
  · refine W_skip (W_seq (W_block (W_seq ?_)))
    refine R [] [(0, .v 0 (.slice (.int .u32)) p0), (1, .v 0 (.slice (.int .u32)) p1), (5, .v 9 (.slice (.int .u32)) x4), (6, .v 0 (.int .u64) x5), (7, .v 0 (.int .i64) x6), (13, .v 0 (.int .i64) x1), (14, .v 0 (.int .i64) x6)] pz ?_
    refine W_seq ?_
    obtain ⟨y7, ey7, h⟩ := h.bind
    obtain ⟨y8, ey8, h⟩ := h.bind
    refine R1 h [.res [(0, ⟨0, .int .u32, y7⟩)], .res [(0, ⟨0, .int .u32, y8⟩)]] (fun x9 => [(0, .v 0 (.slice (.int .u32)) p0), (1, .v 0 (.slice (.int .u32)) p1), (5, .v 9 (.slice (.int .u32)) x4), (6, .v 0 (.int .u64) x9), (13, .v 0 (.int .i64) x1), (14, .v 0 (.int .i64) x6)]) (pc (nat_at.ok ey7) (ps (nat_at.ok ey8))) fun x9 h => ?_
    refine W_seq ?_
    obtain ⟨o1, h⟩ := h.ass
    refine R1 h [] (fun x10 => [(0, .v 0 (.slice (.int .u32)) p0), (1, .v 0 (.slice (.int .u32)) p1), (5, .v 9 (.slice (.int .u32)) x10), (6, .v 0 (.int .u64) x9), (13, .v 0 (.int .i64) x1), (14, .v 0 (.int .i64) x6)]) (ps o1) fun x10 h => ?_
    obtain ⟨o1, h⟩ := h.ass
    refine R1 h [] (fun x11 => [(0, .v 0 (.slice (.int .u32)) p0), (1, .v 0 (.slice (.int .u32)) p1), (5, .v 9 (.slice (.int .u32)) x10), (6, .v 0 (.int .u64) x11), (13, .v 0 (.int .i64) x1), (14, .v 0 (.int .i64) x6)]) (ps o1) fun x11 h => ?_
    refine W_blk ?_
    refine R1 h [] (fun x12 => [(0, .v 0 (.slice (.int .u32)) p0), (1, .v 0 (.slice (.int .u32)) p1), (5, .v 9 (.slice (.int .u32)) x10), (6, .v 0 (.int .u64) x11), (13, .v 0 (.int .i64) x1), (14, .v 0 (.int .i64) x12)]) pz fun x12 h => ?_
    exact B h
  refine W_exit rfl ?_
  exact K (j1 x4 h.back)

def nat_Add_j1 (x1 : List Int) : Option (List Int) :=
  some x1
def nat_Add_b1 (p0 : List (List Int)) (x2 : List Int) (x3 : Int) : Option (((List Int) × Int) ⊕ (List Int)) :=
  bif decide (x3 < (p0.length : Int)) then
    ass (0 ≤ x3 ∧ x3 < (p0.length : Int)) <|
    bnd (rd ([] : List Int) p0 x3) fun x4 =>
    (nat_plus x2 x4).bind fun y5 =>
    bnd (i64.wrap (x3 + 1)) fun x6 =>
    some (.inl (y5, x6))
  else
  (nat_Add_j1 x2).map .inr
def nat_Add (p0 : List (List Int)) : Option (List Int) :=
  loopM (fun x : (List Int) × Int => nat_Add_b1 p0 x.1 x.2) (([] : List Int), (0 : Int))
theorem nat_Add.ok {p0 : List (List Int)} {r : List Int} (h : nat_Add p0 = some r) : ACall prog 64 [⟨.slice (.slice (.int .u32)), p0⟩] [⟨9, .slice (.int .u32), r⟩] := by
  replace h := Leads.of h
  unfold nat_Add at h
  refine AC func64 rfl fun w0 F0 hw0 => ?_
  refine W_seq ?_
  refine R [] [(0, .v 0 (.slice (.slice (.int .u32))) p0)] pz ?_
  refine W_seq ?_
  refine R [] [(0, .v 0 (.slice (.slice (.int .u32))) p0), (3, .v 9 (.slice (.int .u32)) ([] : List Int))] pz ?_
  refine W_seq (W_seq ?_)
  refine R [] [(3, .v 9 (.slice (.int .u32)) ([] : List Int)), (6, .v 0 (.slice (.slice (.int .u32))) p0), (7, .v 0 (.int .i64) (p0.length : Int)), (8, .v 0 (.int .i64) (0 : Int))] pz ?_
  refine J1 h nat_Add_j1 (fun x1 => [(3, .v 9 (.slice (.int .u32)) x1)]) (fun x1 h => ?_) fun j1 => ?_
  · unfold nat_Add_j1 at h
    refine W_seq ?_
    refine R [] [(2, .v 9 (.slice (.int .u32)) x1)] pz ?_
    cases h
    exact Rt hw0
  refine W_block ?_
  refine L2 h (fun x2 x3 => [(3, .v 9 (.slice (.int .u32)) x2), (6, .v 0 (.slice (.slice (.int .u32))) p0), (7, .v 0 (.int .i64) (p0.length : Int)), (8, .v 0 (.int .i64) x3)]) fun x2 x3 _ h => ?_
  unfold nat_Add_b1 at h
  refine W_seq ?_
  refine R [] [(3, .v 9 (.slice (.int .u32)) x2), (6, .v 0 (.slice (.slice (.int .u32))) p0), (7, .v 0 (.int .i64) (p0.length : Int)), (8, .v 0 (.int .i64) x3), (9, .v 0 .bool (decide (x3 < (p0.length : Int))))] pz ?_
  refine W_seq ?_
  refine C h (fun h => ?_) fun h => ?_
  · refine W_skip (W_seq (W_block (W_seq ?_)))
    obtain ⟨o1, h⟩ := h.ass
    refine R1 h [] (fun x4 => [(3, .v 9 (.slice (.int .u32)) x2), (5, .v 0 (.slice (.int .u32)) x4), (6, .v 0 (.slice (.slice (.int .u32))) p0), (7, .v 0 (.int .i64) (p0.length : Int)), (8, .v 0 (.int .i64) x3)]) (ps o1) fun x4 h => ?_
    obtain ⟨y5, ey5, h⟩ := h.bind
    refine R [.res [(9, ⟨9, .slice (.int .u32), y5⟩)]] [(3, .v 9 (.slice (.int .u32)) y5), (6, .v 0 (.slice (.slice (.int .u32))) p0), (7, .v 0 (.int .i64) (p0.length : Int)), (8, .v 0 (.int .i64) x3)] (ps (nat_plus.ok ey5)) ?_
    refine W_blk ?_
    refine R1 h [] (fun x6 => [(3, .v 9 (.slice (.int .u32)) y5), (6, .v 0 (.slice (.slice (.int .u32))) p0), (7, .v 0 (.int .i64) (p0.length : Int)), (8, .v 0 (.int .i64) x6)]) pz fun x6 h => ?_
    exact B h
  refine W_exit rfl ?_
  exact K (j1 x2 h.back)

def ratio_plus (p0 : D_api_Ratio) (p1 : D_api_Ratio) : Option D_api_Ratio :=
  bnd ((([] : List Int), ([] : List Int))) fun x1 =>
  (nat_Mul [p0.1, p1.2]).bind fun y2 =>
  (nat_Mul [p1.1, p0.2]).bind fun y3 =>
  (nat_Add [y2, y3]).bind fun y4 =>
  (nat_Mul [p0.2, p1.2]).bind fun y5 =>
  (ratio_Make y4 y5).bind fun y6 =>
  some y6.1
theorem ratio_plus.ok {p0 : D_api_Ratio} {p1 : D_api_Ratio} {r : D_api_Ratio} (h : ratio_plus p0 p1 = some r) : ACall prog 38 [⟨T_api_Ratio, p0⟩, ⟨T_api_Ratio, p1⟩] [⟨0, T_api_Ratio, r⟩] := by
  replace h := Leads.of h
  unfold ratio_plus at h
  refine AC func38 rfl fun w0 F0 hw0 => ?_
  refine W_seq ?_
  refine R1 h [] (fun x1 => [(2, .box 0 T_api_Ratio p0), (3, .box 0 T_api_Ratio p1), (4, .box 9 T_api_Ratio x1)]) pz fun x1 h => ?_
  refine W_seq ?_
  obtain ⟨y2, ey2, h⟩ := h.bind
  obtain ⟨y3, ey3, h⟩ := h.bind
  obtain ⟨y4, ey4, h⟩ := h.bind
  obtain ⟨y5, ey5, h⟩ := h.bind
  obtain ⟨y6, ey6, h⟩ := h.bind
  refine RL [.res [(0, ⟨9, .slice (.int .u32), y2⟩)], .res [(0, ⟨9, .slice (.int .u32), y3⟩)], .res [(0, ⟨9, .slice (.int .u32), y4⟩)], .res [(0, ⟨9, .slice (.int .u32), y5⟩)], .res [(0, ⟨0, T_api_Ratio, y6.1⟩), (0, ⟨0, .bool, y6.2⟩)]] [(4, .box 9 T_api_Ratio x1), (5, .box 0 T_api_Ratio y6.1)] (pc (nat_Mul.ok ey2) (pc (nat_Mul.ok ey3) (pc (nat_Add.ok ey4) (pc (nat_Mul.ok ey5) (pc (ratio_Make.ok ey6) (ps (rfl : (⟨.bool, y6.2⟩ : TV) = ⟨.bool, y6.2⟩))))))) ?_
  refine W_seq ?_
  refine R [] [(4, .box 0 T_api_Ratio y6.1)] pz ?_
  cases h
  exact Rt hw0

def ratio_Add_j1 (x3 : D_api_Ratio) : Option (D_api_Ratio) :=
  some x3
def ratio_Add_b1 (p0 : List D_api_Ratio) (x4 : D_api_Ratio) (x5 : Int) : Option ((D_api_Ratio × Int) ⊕ D_api_Ratio) :=
  bif decide (x5 < (p0.length : Int)) then
    ass (0 ≤ x5 ∧ x5 < (p0.length : Int)) <|
    bnd (rd z_api_Ratio p0 x5) fun x6 =>
    (ratio_plus x4 x6).bind fun y7 =>
    bnd (i64.wrap (x5 + 1)) fun x8 =>
    some (.inl (y7, x8))
  else
  (ratio_Add_j1 x4).map .inr
def ratio_Add (p0 : List D_api_Ratio) : Option D_api_Ratio :=
  bnd ((([] : List Int), ([] : List Int))) fun x1 =>
  (ratio_Zero).bind fun y2 =>
  loopM (fun x : D_api_Ratio × Int => ratio_Add_b1 p0 x.1 x.2) (y2, (0 : Int))
theorem ratio_Add.ok {p0 : List D_api_Ratio} {r : D_api_Ratio} (h : ratio_Add p0 = some r) : ACall prog 17 [⟨.slice T_api_Ratio, p0⟩] [⟨0, T_api_Ratio, r⟩] := by
  replace h := Leads.of h
  unfold ratio_Add at h
  refine AC func17 rfl fun w0 F0 hw0 => ?_
  refine W_seq ?_
  refine R1 h [] (fun x1 => [(0, .v 0 (.slice T_api_Ratio) p0), (2, .box 9 T_api_Ratio x1)]) pz fun x1 h => ?_
  refine W_seq ?_
  obtain ⟨y2, ey2, h⟩ := h.bind
  refine R [.res [(0, ⟨0, T_api_Ratio, y2⟩)]] [(0, .v 0 (.slice T_api_Ratio) p0), (2, .box 9 T_api_Ratio x1), (3, .box 0 T_api_Ratio y2)] (ps (ratio_Zero.ok ey2)) ?_
  refine W_seq (W_seq ?_)
  refine R [] [(2, .box 9 T_api_Ratio x1), (3, .box 0 T_api_Ratio y2), (7, .v 0 (.slice T_api_Ratio) p0), (8, .v 0 (.int .i64) (p0.length : Int)), (9, .v 0 (.int .i64) (0 : Int))] pz ?_
  refine J1 h ratio_Add_j1 (fun x3 => [(2, .box 9 T_api_Ratio x1), (3, .box 0 T_api_Ratio x3)]) (fun x3 h => ?_) fun j1 => ?_
  · unfold ratio_Add_j1 at h
    refine W_seq ?_
    refine R [] [(2, .box 0 T_api_Ratio x3)] pz ?_
    cases h
    exact Rt hw0
  refine W_block ?_
  refine L2 h (fun x4 x5 => [(2, .box 9 T_api_Ratio x1), (3, .box 0 T_api_Ratio x4), (7, .v 0 (.slice T_api_Ratio) p0), (8, .v 0 (.int .i64) (p0.length : Int)), (9, .v 0 (.int .i64) x5)]) fun x4 x5 _ h => ?_
  unfold ratio_Add_b1 at h
  refine W_seq ?_
  refine R [] [(2, .box 9 T_api_Ratio x1), (3, .box 0 T_api_Ratio x4), (7, .v 0 (.slice T_api_Ratio) p0), (8, .v 0 (.int .i64) (p0.length : Int)), (9, .v 0 (.int .i64) x5), (10, .v 0 .bool (decide (x5 < (p0.length : Int))))] pz ?_
  refine W_seq ?_
  refine C h (fun h => ?_) fun h => ?_
  · refine W_skip (W_seq (W_block (W_seq ?_)))
    obtain ⟨o1, h⟩ := h.ass
    refine R1 h [] (fun x6 => [(2, .box 9 T_api_Ratio x1), (3, .box 0 T_api_Ratio x4), (5, .box 0 T_api_Ratio x6), (7, .v 0 (.slice T_api_Ratio) p0), (8, .v 0 (.int .i64) (p0.length : Int)), (9, .v 0 (.int .i64) x5)]) (ps o1) fun x6 h => ?_
    obtain ⟨y7, ey7, h⟩ := h.bind
    refine R [.res [(0, ⟨0, T_api_Ratio, y7⟩)]] [(2, .box 9 T_api_Ratio x1), (3, .box 0 T_api_Ratio y7), (7, .v 0 (.slice T_api_Ratio) p0), (8, .v 0 (.int .i64) (p0.length : Int)), (9, .v 0 (.int .i64) x5)] (ps (ratio_plus.ok ey7)) ?_
    refine W_blk ?_
    refine R1 h [] (fun x8 => [(2, .box 9 T_api_Ratio x1), (3, .box 0 T_api_Ratio y7), (7, .v 0 (.slice T_api_Ratio) p0), (8, .v 0 (.int .i64) (p0.length : Int)), (9, .v 0 (.int .i64) x8)]) pz fun x8 h => ?_
    exact B h
  refine W_exit rfl ?_
  exact K (j1 x4 h.back)

def strconv_Itoa (p0 : Int) : Option ByteArray := ass (-9223372036854775808 ≤ p0 ∧ p0 ≤ 9223372036854775807) <| some ⟨(Lib.itoa p0).toArray⟩
theorem strconv_Itoa.ok {p0 : Int} {r : ByteArray} (h : strconv_Itoa p0 = some r) : ACall prog 51 [⟨.int .i64, p0⟩] [⟨0, .str, r⟩] := by
  replace h := Leads.of h
  unfold strconv_Itoa at h
  obtain ⟨o1, h⟩ := h.ass
  cases h
  exact acall_Itoa func51 (by kernel_rfl) (by kernel_rfl) rfl fun w ht => Go.Proofs.Tryz.strconv_Itoa p0 o1.1 o1.2 w ht

def strings_Repeat (p0 : ByteArray) (p1 : Int) : Option ByteArray := ass (0 ≤ p1 ∧ p1 ≤ 9223372036854775807 ∧ p0.size * p1.toNat ≤ 140737488355328) <| some ⟨(Lib.repeatL p0.data.toList p1.toNat).toArray⟩
theorem strings_Repeat.ok {p0 : ByteArray} {p1 : Int} {r : ByteArray} (h : strings_Repeat p0 p1 = some r) : ACall prog 52 [⟨.str, p0⟩, ⟨.int .i64, p1⟩] [⟨0, .str, r⟩] := by
  replace h := Leads.of h
  unfold strings_Repeat at h
  obtain ⟨o1, h⟩ := h.ass
  cases h
  exact acall_Repeat func52 (by kernel_rfl) (by kernel_rfl) o1.1 fun w => Go.Proofs.Tryz.strings_Repeat p0 p1.toNat w (by have := o1.2.1; omega) o1.2.2

def slices_Reverse_string_string_b1 (x2 : List ByteArray) (x3 : Int) (x4 : Int) : Option (((List ByteArray) × Int × Int) ⊕ (List ByteArray)) :=
  bif decide (x3 < x4) then
    ass (0 ≤ x4 ∧ x4 < (x2.length : Int)) <|
    ass (0 ≤ x3 ∧ x3 < (x2.length : Int)) <|
    ass (0 ≤ x4 ∧ x4 < ((wr x2 x3 (rd ByteArray.empty x2 x4)).length : Int)) <|
    bnd (wr (wr x2 x3 (rd ByteArray.empty x2 x4)) x4 (rd ByteArray.empty x2 x3)) fun x5 =>
    bnd (i64.wrap (x3 + 1)) fun x6 =>
    bnd (i64.wrap (x4 - 1)) fun x7 =>
    some (.inl (x5, x6, x7))
  else
  some (.inr x2)
def slices_Reverse_string_string (p0 : List ByteArray) : Option (List ByteArray) :=
  bnd (i64.wrap ((p0.length : Int) - 1)) fun x1 =>
  loopM (fun x : (List ByteArray) × Int × Int => slices_Reverse_string_string_b1 x.1 x.2.1 x.2.2) (p0, (0 : Int), x1)
theorem slices_Reverse_string_string.ok {p0 : List ByteArray} {r : List ByteArray} (h : slices_Reverse_string_string p0 = some r) : ICall prog 53 (.v 9 (.slice .str) p0) (.v 9 (.slice .str) r) [] [] := by
  replace h := Leads.of h
  unfold slices_Reverse_string_string at h
  refine ACi func53 rfl fun w0 F0 hw0 => ?_
  refine W_seq ?_
  refine R1 h [] (fun x1 => [(0, .v 9 (.slice .str) p0), (2, .v 0 (.int .i64) (0 : Int)), (3, .v 0 (.int .i64) x1)]) pz fun x1 h => ?_
  refine W_block ?_
  refine L3 h (fun x2 x3 x4 => [(0, .v 9 (.slice .str) x2), (2, .v 0 (.int .i64) x3), (3, .v 0 (.int .i64) x4)]) fun x2 x3 x4 _ h => ?_
  unfold slices_Reverse_string_string_b1 at h
  refine W_seq (W_seq ?_)
  refine R [] [(0, .v 9 (.slice .str) x2), (2, .v 0 (.int .i64) x3), (3, .v 0 (.int .i64) x4), (9, .v 0 .bool (decide (x3 < x4)))] pz ?_
  refine C h (fun h => ?_) fun h => ?_
  · refine W_skip (W_seq (W_block ?_))
    obtain ⟨o1, h⟩ := h.ass
    obtain ⟨o2, h⟩ := h.ass
    obtain ⟨o3, h⟩ := h.ass
    refine RL1 h [] (fun x5 => [(0, .v 9 (.slice .str) x5), (2, .v 0 (.int .i64) x3), (3, .v 0 (.int .i64) x4)]) (pc o1 (pc o2 (pc o2 (pc (rfl : (⟨.int .i64, x4⟩ : TV) = ⟨.int .i64, x4⟩) (ps o3))))) fun x5 h => ?_
    refine W_blk ?_
    refine R2 h [] (fun x6 x7 => [(0, .v 9 (.slice .str) x5), (2, .v 0 (.int .i64) x6), (3, .v 0 (.int .i64) x7)]) pz fun x6 x7 h => ?_
    exact B h
  refine W_exit rfl ?_
  refine K (E' := [(0, .v 9 (.slice .str) x2)]) ?_
  replace h : x2 = r := h
  subst h
  exact W_iend tys_ok hw0 (by kernel_rfl) rfl rfl (by kernel_rfl) (by kernel_rfl)

def strings_Join (p0 : List ByteArray) (p1 : ByteArray) : Option ByteArray := ass (p0.length ≤ 140737488355328 ∧ (Lib.join (p0.map (·.data.toList)) p1.data.toList).length ≤ 140737488355328) <| some ⟨(Lib.join (p0.map (·.data.toList)) p1.data.toList).toArray⟩
theorem strings_Join.ok {p0 : List ByteArray} {p1 : ByteArray} {r : ByteArray} (h : strings_Join p0 p1 = some r) : ACall prog 54 [⟨.slice .str, p0⟩, ⟨.str, p1⟩] [⟨0, .str, r⟩] := by
  replace h := Leads.of h
  unfold strings_Join at h
  obtain ⟨o1, h⟩ := h.ass
  cases h
  exact acall_Join func54 (by kernel_rfl) (by kernel_rfl) (fun a c w => Go.Proofs.Tryz.strings_Join_none a c p1 w) fun bk o c w hc hb hl => Go.Proofs.Tryz.strings_Join bk o c p0 p1 w hc hb o1.1 hl o1.2

def nat_Text_j1 (x2 : List ByteArray) : Option (ByteArray) :=
  bif (x2.length : Int) == 0 then
    some (tx [48])
  else
  (slices_Reverse_string_string x2).bind fun y3 =>
  (strings_Join y3 ByteArray.empty).bind fun y4 =>
  some y4
def nat_Text_j2 (x6 : List ByteArray) (y7 : (List Int) × Int) (x9 : ByteArray) : Option (((List Int) × (List ByteArray)) ⊕ ByteArray) :=
  ass (((x6.length + [x9].length : Nat) : Int) ≤ limA) <|
  bnd (x6 ++ [x9]) fun x10 =>
  some (.inl (y7.1, x10))
def nat_Text_b1 (x5 : List Int) (x6 : List ByteArray) : Option (((List Int) × (List ByteArray)) ⊕ ByteArray) :=
  bif decide ((x5.length : Int) > 0) then
    (nat_short x5 (1000000000 : Int)).bind fun y7 =>
    (strconv_Itoa (i64.wrap y7.2)).bind fun y8 =>
    bif decide ((y7.1.length : Int) > 0) then
      (strings_Repeat (tx [48]) (i64.wrap (9 - (y8.size : Int)))).bind fun y11 =>
      ass (((y11.size + y8.size : Nat) : Int) ≤ 9223372036854775807) <|
      bnd (y11 ++ y8) fun x12 =>
      nat_Text_j2 x6 y7 x12
    else
    nat_Text_j2 x6 y7 y8
  else
  (nat_Text_j1 x6).map .inr
def nat_Text (p0 : List Int) : Option ByteArray :=
  (nat_Cut p0).bind fun y1 =>
  loopM (fun x : (List Int) × (List ByteArray) => nat_Text_b1 x.1 x.2) (y1, ([] : List ByteArray))
theorem nat_Text.ok {p0 : List Int} {r : ByteArray} (h : nat_Text p0 = some r) : ACall prog 29 [⟨.slice (.int .u32), p0⟩] [⟨0, .str, r⟩] := by
  replace h := Leads.of h
  unfold nat_Text at h
  refine AC func29 rfl fun w0 F0 hw0 => ?_
  refine W_seq ?_
  refine R [] [(0, .v 0 (.slice (.int .u32)) p0)] pz ?_
  refine W_seq ?_
  obtain ⟨y1, ey1, h⟩ := h.bind
  refine R [.res [(9, ⟨9, .slice (.int .u32), y1⟩)]] [(0, .v 9 (.slice (.int .u32)) y1)] (ps (nat_Cut.ok ey1)) ?_
  refine W_seq ?_
  refine R [] [(0, .v 9 (.slice (.int .u32)) y1), (3, .v 9 (.slice .str) ([] : List ByteArray))] pz ?_
  refine W_seq ?_
  refine J1 h nat_Text_j1 (fun x2 => [(3, .v 9 (.slice .str) x2)]) (fun x2 h => ?_) fun j1 => ?_
  · unfold nat_Text_j1 at h
    refine W_seq (W_seq ?_)
    refine R [] [(3, .v 9 (.slice .str) x2), (34, .v 0 .bool ((x2.length : Int) == 0))] pz ?_
    refine C h (fun h => ?_) fun h => ?_
    · refine W_seq ?_
      refine R [] [(2, .v 0 .str (tx [48]))] pz ?_
      cases h
      exact Rt hw0
    refine W_skip (W_seq ?_)
    obtain ⟨y3, ey3, h⟩ := h.bind
    refine R [.inn (.v 9 (.slice .str) y3), .res []] [(3, .v 9 (.slice .str) y3)] (ps (slices_Reverse_string_string.ok ey3)) ?_
    refine W_seq ?_
    obtain ⟨y4, ey4, h⟩ := h.bind
    refine R [.res [(0, ⟨0, .str, y4⟩)]] [(2, .v 0 .str y4)] (ps (strings_Join.ok ey4)) ?_
    cases h
    exact Rt hw0
  refine W_block ?_
  refine L2 h (fun x5 x6 => [(0, .v 9 (.slice (.int .u32)) x5), (3, .v 9 (.slice .str) x6)]) fun x5 x6 _ h => ?_
  unfold nat_Text_b1 at h
  refine W_seq (W_seq ?_)
  refine R [] [(0, .v 9 (.slice (.int .u32)) x5), (3, .v 9 (.slice .str) x6), (10, .v 0 .bool (decide ((x5.length : Int) > 0)))] pz ?_
  refine C h (fun h => ?_) fun h => ?_
  · refine W_skip (W_block (W_seq ?_))
    refine R [] [(0, .v 9 (.slice (.int .u32)) x5), (3, .v 9 (.slice .str) x6)] pz ?_
    refine W_seq ?_
    obtain ⟨y7, ey7, h⟩ := h.bind
    refine R [.res [(9, ⟨9, .slice (.int .u32), y7.1⟩), (0, ⟨0, .int .u32, y7.2⟩)]] [(0, .v 9 (.slice (.int .u32)) y7.1), (3, .v 9 (.slice .str) x6), (4, .v 0 (.int .u32) y7.2)] (ps (nat_short.ok ey7)) ?_
    refine W_seq ?_
    obtain ⟨y8, ey8, h⟩ := h.bind
    refine R [.res [(0, ⟨0, .str, y8⟩)]] [(0, .v 9 (.slice (.int .u32)) y7.1), (3, .v 9 (.slice .str) x6), (5, .v 0 .str y8)] (ps (strconv_Itoa.ok ey8)) ?_
    refine W_seq (W_seq ?_)
    refine R [] [(0, .v 9 (.slice (.int .u32)) y7.1), (3, .v 9 (.slice .str) x6), (5, .v 0 .str y8), (21, .v 0 .bool (decide ((y7.1.length : Int) > 0)))] pz ?_
    refine J1 h (nat_Text_j2 x6 y7) (fun x9 => [(0, .v 9 (.slice (.int .u32)) y7.1), (3, .v 9 (.slice .str) x6), (5, .v 0 .str x9)]) (fun x9 h => ?_) fun j2 => ?_
    · unfold nat_Text_j2 at h
      obtain ⟨o1, h⟩ := h.ass
      refine R1 h [] (fun x10 => [(0, .v 9 (.slice (.int .u32)) y7.1), (3, .v 9 (.slice .str) x10)]) (ps o1) fun x10 h => ?_
      refine W_blk ?_
      exact B h
    refine C h (fun h => ?_) fun h => ?_
    · obtain ⟨y11, ey11, h⟩ := h.bind
      obtain ⟨o1, h⟩ := h.ass
      refine R1 h [.res [(0, ⟨0, .str, y11⟩)]] (fun x12 => [(0, .v 9 (.slice (.int .u32)) y7.1), (3, .v 9 (.slice .str) x6), (5, .v 0 .str x12)]) (pc (strings_Repeat.ok ey11) (ps o1)) fun x12 h => ?_
      exact K (j2 x12 h)
    refine W_skip ?_
    exact K (j2 y8 h)
  refine W_exit rfl ?_
  exact K (j1 x6 h.back)

def ratio_Text (p0 : D_api_Ratio) : Option ByteArray :=
  (nat_Of (1 : Int)).bind fun y1 =>
  (nat_Cmp p0.2 y1).bind fun y2 =>
  bif y2 == 0 then
    (nat_Text p0.1).bind fun y3 =>
    some y3
  else
  (nat_Text p0.1).bind fun y4 =>
  ass (((y4.size + (tx [47]).size : Nat) : Int) ≤ 9223372036854775807) <|
  (nat_Text p0.2).bind fun y5 =>
  ass ((((y4 ++ (tx [47])).size + y5.size : Nat) : Int) ≤ 9223372036854775807) <|
  bnd ((y4 ++ (tx [47])) ++ y5) fun x6 =>
  some x6
theorem ratio_Text.ok {p0 : D_api_Ratio} {r : ByteArray} (h : ratio_Text p0 = some r) : ACall prog 11 [⟨T_api_Ratio, p0⟩] [⟨0, .str, r⟩] := by
  replace h := Leads.of h
  unfold ratio_Text at h
  refine AC func11 rfl fun w0 F0 hw0 => ?_
  refine W_seq ?_
  refine R [] [(1, .box 0 T_api_Ratio p0)] pz ?_
  refine W_seq (W_seq ?_)
  obtain ⟨y1, ey1, h⟩ := h.bind
  obtain ⟨y2, ey2, h⟩ := h.bind
  refine R [.res [(9, ⟨9, .slice (.int .u32), y1⟩)], .res [(0, ⟨0, .int .i64, y2⟩)]] [(1, .box 0 T_api_Ratio p0), (7, .v 0 .bool (y2 == 0))] (pc (nat_Of.ok ey1) (ps (nat_Cmp.ok ey2))) ?_
  refine C h (fun h => ?_) fun h => ?_
  · refine W_seq ?_
    obtain ⟨y3, ey3, h⟩ := h.bind
    refine R [.res [(0, ⟨0, .str, y3⟩)]] [(2, .v 0 .str y3)] (ps (nat_Text.ok ey3)) ?_
    cases h
    exact Rt hw0
  refine W_skip (W_seq ?_)
  obtain ⟨y4, ey4, h⟩ := h.bind
  obtain ⟨o1, h⟩ := h.ass
  obtain ⟨y5, ey5, h⟩ := h.bind
  obtain ⟨o2, h⟩ := h.ass
  refine R1 h [.res [(0, ⟨0, .str, y4⟩)], .res [(0, ⟨0, .str, y5⟩)]] (fun x6 => [(2, .v 0 .str x6)]) (pc (nat_Text.ok ey4) (pc o1 (pc (nat_Text.ok ey5) (ps o2)))) fun x6 h => ?_
  cases h
  exact Rt hw0

def r03_Same_j1 : Option (Bool) :=
  some true
def r03_Same_b1 (p0 : List Int) (p1 : List Int) (x1 : Int) : Option (Int ⊕ Bool) :=
  bif decide (x1 < (p0.length : Int)) then
    ass (0 ≤ x1 ∧ x1 < (p0.length : Int)) <|
    ass (0 ≤ x1 ∧ x1 < (p1.length : Int)) <|
    bif (rd (0 : Int) p0 x1) != (rd (0 : Int) p1 x1) then
      some (.inr false)
    else
    bnd (i64.wrap (x1 + 1)) fun x2 =>
    some (.inl x2)
  else
  (r03_Same_j1).map .inr
def r03_Same (p0 : List Int) (p1 : List Int) : Option Bool :=
  bif (p0.length : Int) != (p1.length : Int) then
    some false
  else
  loopM (fun x : Int => r03_Same_b1 p0 p1 x) (0 : Int)
theorem r03_Same.ok {p0 : List Int} {p1 : List Int} {r : Bool} (h : r03_Same p0 p1 = some r) : ACall prog 18 [⟨.slice (.int .u32), p0⟩, ⟨.slice (.int .u32), p1⟩] [⟨0, .bool, r⟩] := by
  replace h := Leads.of h
  unfold r03_Same at h
  refine AC func18 rfl fun w0 F0 hw0 => ?_
  refine W_seq ?_
  refine R [] [(0, .v 0 (.slice (.int .u32)) p0), (1, .v 0 (.slice (.int .u32)) p1)] pz ?_
  refine W_seq (W_seq ?_)
  refine R [] [(0, .v 0 (.slice (.int .u32)) p0), (1, .v 0 (.slice (.int .u32)) p1), (10, .v 0 .bool ((p0.length : Int) != (p1.length : Int)))] pz ?_
  refine C h (fun h => ?_) fun h => ?_
  · refine W_seq ?_
    refine R [] [(4, .v 0 .bool false)] pz ?_
    cases h
    exact Rt hw0
  refine W_skip (W_seq (W_seq ?_))
  refine R [] [(0, .v 0 (.slice (.int .u32)) p0), (1, .v 0 (.slice (.int .u32)) p1), (5, .v 0 (.int .i64) (0 : Int))] pz ?_
  refine J0 h r03_Same_j1 ([]) (fun h => ?_) fun j1 => ?_
  · unfold r03_Same_j1 at h
    refine W_seq ?_
    refine R [] [(4, .v 0 .bool true)] pz ?_
    cases h
    exact Rt hw0
  refine W_block ?_
  refine L1 h (fun x1 => [(0, .v 0 (.slice (.int .u32)) p0), (1, .v 0 (.slice (.int .u32)) p1), (5, .v 0 (.int .i64) x1)]) fun x1 _ h => ?_
  unfold r03_Same_b1 at h
  refine W_seq (W_seq ?_)
  refine R [] [(0, .v 0 (.slice (.int .u32)) p0), (1, .v 0 (.slice (.int .u32)) p1), (5, .v 0 (.int .i64) x1), (14, .v 0 .bool (decide (x1 < (p0.length : Int))))] pz ?_
  refine C h (fun h => ?_) fun h => ?_
  · refine W_skip (W_seq (W_block (W_seq ?_)))
    obtain ⟨o1, h⟩ := h.ass
    obtain ⟨o2, h⟩ := h.ass
    refine R [] [(0, .v 0 (.slice (.int .u32)) p0), (1, .v 0 (.slice (.int .u32)) p1), (5, .v 0 (.int .i64) x1), (25, .v 0 .bool ((rd (0 : Int) p0 x1) != (rd (0 : Int) p1 x1)))] (pc o1 (ps o2)) ?_
    refine C h (fun h => ?_) fun h => ?_
    · refine W_seq ?_
      refine R [] [(4, .v 0 .bool false)] pz ?_
      cases h
      exact Rt hw0
    refine W_skip (W_blk ?_)
    refine R1 h [] (fun x2 => [(0, .v 0 (.slice (.int .u32)) p0), (1, .v 0 (.slice (.int .u32)) p1), (5, .v 0 (.int .i64) x2)]) pz fun x2 h => ?_
    exact B h
  refine W_exit rfl ?_
  exact K (j1 h.back)

def l04_alive : Option Bool :=
  (ratio_Of (1 : Int) (2 : Int)).bind fun y1 =>
  (ratio_Of (2 : Int) (6 : Int)).bind fun y2 =>
  (ratio_Of (1 : Int) (0 : Int)).bind fun y3 =>
  (ratio_Common [y1.1, y2.1]).bind fun y4 =>
  (bif (y1.2 && y2.2) && (!y3.2) then ratio_Add [y1.1, y2.1] else some (([] : List Int), ([] : List Int))).bind fun y5 =>
  (bif (y1.2 && y2.2) && (!y3.2) then ratio_Text y5 else some ByteArray.empty).bind fun y6 =>
  (bif ((y1.2 && y2.2) && (!y3.2)) && (y6.toList == (tx [53, 47, 54]).toList) then r03_Same y4.1 [(6 : Int)] else some false).bind fun y7 =>
  ass ((((((y1.2 && y2.2) && (!y3.2)) && (y6.toList == (tx [53, 47, 54]).toList)) && y7) && ((y4.2.length : Int) == 2)) = true → 0 ≤ (0 : Int) ∧ (0 : Int) < (y4.2.length : Int)) <|
  (bif ((((y1.2 && y2.2) && (!y3.2)) && (y6.toList == (tx [53, 47, 54]).toList)) && y7) && ((y4.2.length : Int) == 2) then r03_Same (rd ([] : List Int) y4.2 (0 : Int)) [(3 : Int)] else some false).bind fun y8 =>
  ass (((((((y1.2 && y2.2) && (!y3.2)) && (y6.toList == (tx [53, 47, 54]).toList)) && y7) && ((y4.2.length : Int) == 2)) && y8) = true → 0 ≤ (1 : Int) ∧ (1 : Int) < (y4.2.length : Int)) <|
  (bif (((((y1.2 && y2.2) && (!y3.2)) && (y6.toList == (tx [53, 47, 54]).toList)) && y7) && ((y4.2.length : Int) == 2)) && y8 then r03_Same (rd ([] : List Int) y4.2 (1 : Int)) [(2 : Int)] else some false).bind fun y9 =>
  bnd (((((((y1.2 && y2.2) && (!y3.2)) && (y6.toList == (tx [53, 47, 54]).toList)) && y7) && ((y4.2.length : Int) == 2)) && y8) && y9) fun x10 =>
  some x10
theorem l04_alive.ok {r : Bool} (h : l04_alive = some r) : ACall prog 5 [] [⟨0, .bool, r⟩] := by
  replace h := Leads.of h
  unfold l04_alive at h
  refine AC func5 rfl fun w0 F0 hw0 => ?_
  refine W_seq ?_
  refine R [] [] pz ?_
  refine W_seq ?_
  obtain ⟨y1, ey1, h⟩ := h.bind
  refine R [.res [(0, ⟨0, T_api_Ratio, y1.1⟩), (0, ⟨0, .bool, y1.2⟩)]] [(1, .box 0 T_api_Ratio y1.1), (2, .v 0 .bool y1.2)] (ps (ratio_Of.ok ey1)) ?_
  refine W_seq ?_
  obtain ⟨y2, ey2, h⟩ := h.bind
  refine R [.res [(0, ⟨0, T_api_Ratio, y2.1⟩), (0, ⟨0, .bool, y2.2⟩)]] [(1, .box 0 T_api_Ratio y1.1), (2, .v 0 .bool y1.2), (3, .box 0 T_api_Ratio y2.1), (4, .v 0 .bool y2.2)] (ps (ratio_Of.ok ey2)) ?_
  refine W_seq ?_
  obtain ⟨y3, ey3, h⟩ := h.bind
  refine R [.res [(0, ⟨0, T_api_Ratio, y3.1⟩), (0, ⟨0, .bool, y3.2⟩)]] [(1, .box 0 T_api_Ratio y1.1), (2, .v 0 .bool y1.2), (3, .box 0 T_api_Ratio y2.1), (4, .v 0 .bool y2.2), (6, .v 0 .bool y3.2)] (ps (ratio_Of.ok ey3)) ?_
  refine W_seq ?_
  obtain ⟨y4, ey4, h⟩ := h.bind
  refine R [.frz, .res [(9, ⟨9, .slice (.int .u32), y4.1⟩), (1, ⟨1, .slice (.slice (.int .u32)), y4.2⟩)]] [(1, .box 0 T_api_Ratio y1.1), (2, .v 0 .bool y1.2), (3, .box 0 T_api_Ratio y2.1), (4, .v 0 .bool y2.2), (6, .v 0 .bool y3.2), (7, .v 9 (.slice (.int .u32)) y4.1), (8, .v 1 (.slice (.slice (.int .u32))) y4.2)] (ps (ratio_Common.ok ey4)) ?_
  refine W_seq ?_
  obtain ⟨y5, ey5, h⟩ := h.bind
  obtain ⟨y6, ey6, h⟩ := h.bind
  obtain ⟨y7, ey7, h⟩ := h.bind
  obtain ⟨o1, h⟩ := h.ass
  obtain ⟨y8, ey8, h⟩ := h.bind
  obtain ⟨o2, h⟩ := h.ass
  obtain ⟨y9, ey9, h⟩ := h.bind
  refine R1 h [.frz, .res [(0, ⟨0, T_api_Ratio, y5⟩)], .res [(0, ⟨0, .str, y6⟩)], .res [(0, ⟨0, .bool, y7⟩)], .res [(0, ⟨0, .bool, y8⟩)], .res [(0, ⟨0, .bool, y9⟩)]] (fun x10 => [(0, .v 0 .bool x10)]) (pc (fun hc => ratio_Add.ok (bif_some ey5 hc)) (pc (fun hc => ratio_Text.ok (bif_some ey6 hc)) (pc (fun hc => r03_Same.ok (bif_some ey7 hc)) (pc o1 (pc (fun hc => r03_Same.ok (bif_some ey8 hc)) (pc o2 (ps (fun hc => r03_Same.ok (bif_some ey9 hc))))))))) fun x10 h => ?_
  cases h
  exact Rt hw0

def strings_Cut (p0 p1 : ByteArray) : Option (ByteArray × ByteArray × Bool) := ass (p0.size < 4294967281) <| some (⟨(Lib.cut p0.data.toList p1.data.toList).1.toArray⟩, ⟨(Lib.cut p0.data.toList p1.data.toList).2.1.toArray⟩, (Lib.cut p0.data.toList p1.data.toList).2.2)
theorem strings_Cut.ok {p0 p1 : ByteArray} {r : ByteArray × ByteArray × Bool} (h : strings_Cut p0 p1 = some r) : ACall prog 19 [⟨.str, p0⟩, ⟨.str, p1⟩] [⟨0, .str, r.1⟩, ⟨0, .str, r.2.1⟩, ⟨0, .bool, r.2.2⟩] := by
  replace h := Leads.of h
  unfold strings_Cut at h
  obtain ⟨o1, h⟩ := h.ass
  cases h
  exact acall_Cut func19 (by kernel_rfl) (by kernel_rfl) (List.mem_singleton.2 rfl) (g := 0) (by kernel_rfl) fun m w hm => Go.Proofs.Tryz.strings_Cut p0 p1 m w o1 hm

def nat_Parse_j1 (x1 : List Int) : Option ((List Int) × Int) :=
  some (x1, (0 : Int))
def nat_Parse_j2 (x3 : Int) (x4 : List Int) : Option (((List Int) × Int) ⊕ ((List Int) × Int)) :=
  bnd (i64.wrap (x3 + 1)) fun x5 =>
  some (.inl (x4, x5))
def nat_Parse_j4 (x3 : Int) (x9 : List Int) : Option (((List Int) × Int) ⊕ ((List Int) × Int)) :=
  nat_Parse_j2 x3 x9
def nat_Parse_j3 (x3 : Int) (x7 : List Int) (x8 : Int) : Option (((List Int) × Int) ⊕ ((List Int) × Int)) :=
  bif decide (x8 > 0) then
    ass (((x7.length + [u32.wrap x8].length : Nat) : Int) ≤ limA) <|
    bnd (x7 ++ [u32.wrap x8]) fun x10 =>
    nat_Parse_j4 x3 x10
  else
  nat_Parse_j4 x3 x7
def nat_Parse_b2 (x2 : List Int) (x3 : Int) (x11 : List Int) (x12 : Int) (x13 : Int) : Option (((List Int) × Int × Int) ⊕ (((List Int) × Int) ⊕ ((List Int) × Int))) :=
  bif decide (x13 < (x2.length : Int)) then
    ass (0 ≤ x13 ∧ x13 < (x11.length : Int)) <|
    bnd (u64.wrap (x12 + (u64.wrap (10 * (u64.wrap (rd (0 : Int) x11 x13)))))) fun x14 =>
    ass (0 ≤ x13 ∧ x13 < (x11.length : Int)) <|
    bnd (wr x11 x13 (u32.wrap x14)) fun x15 =>
    ass (0 ≤ (32 : Int)) <|
    bnd (x14.fdiv (2 ^ (min (32 : Int).toNat u64.bits))) fun x16 =>
    bnd (i64.wrap (x13 + 1)) fun x17 =>
    some (.inl (x15, x16, x17))
  else
  (nat_Parse_j3 x3 x11 x12).map .inr
def nat_Parse_b1 (p0 : ByteArray) (x2 : List Int) (x3 : Int) : Option (((List Int) × Int) ⊕ ((List Int) × Int)) :=
  bif decide (x3 < (p0.size : Int)) then
    ass (0 ≤ x3 ∧ x3 < (p0.size : Int)) <|
    ass ((!(decide ((bt p0 x3) < 48))) = true → 0 ≤ x3 ∧ x3 < (p0.size : Int)) <|
    bif (decide ((bt p0 x3) < 48)) || (decide ((bt p0 x3) > 57)) then
      some (.inr (([] : List Int), (3 : Int)))
    else
    ass (0 ≤ x3 ∧ x3 < (p0.size : Int)) <|
    bnd (u64.wrap (u8.wrap ((bt p0 x3) - 48))) fun x6 =>
    loopM (fun x : (List Int) × Int × Int => nat_Parse_b2 x2 x3 x.1 x.2.1 x.2.2) (x2, x6, (0 : Int))
  else
  (nat_Parse_j1 x2).map .inr
def nat_Parse (p0 : ByteArray) : Option ((List Int) × Int) :=
  bif decide ((p0.size : Int) > 4096) then
    some (([] : List Int), (5 : Int))
  else
  ass ((!(p0.toList == ByteArray.empty.toList)) = true → 0 ≤ (0 : Int) ∧ (0 : Int) < (p0.size : Int)) <|
  bif (p0.toList == ByteArray.empty.toList) || (((bt p0 (0 : Int)) == 48) && (!(p0.toList == (tx [48]).toList))) then
    some (([] : List Int), (3 : Int))
  else
  loopM (fun x : (List Int) × Int => nat_Parse_b1 p0 x.1 x.2) (([] : List Int), (0 : Int))
theorem nat_Parse.ok {p0 : ByteArray} {r : (List Int) × Int} (h : nat_Parse p0 = some r) : ACall prog 20 [⟨.str, p0⟩] [⟨9, .slice (.int .u32), r.1⟩, ⟨0, .int .i64, r.2⟩] := by
  replace h := Leads.of h
  unfold nat_Parse at h
  refine AC func20 rfl fun w0 F0 hw0 => ?_
  refine W_seq ?_
  refine R [] [(0, .v 0 .str p0)] pz ?_
  refine W_seq (W_seq ?_)
  refine R [] [(0, .v 0 .str p0), (10, .v 0 .bool (decide ((p0.size : Int) > 4096)))] pz ?_
  refine C h (fun h => ?_) fun h => ?_
  · refine W_seq ?_
    refine R [] [(2, .v 9 (.slice (.int .u32)) ([] : List Int)), (3, .v 0 (.int .i64) (5 : Int))] pz ?_
    cases h
    exact Rt hw0
  refine W_skip (W_seq (W_seq ?_))
  obtain ⟨o1, h⟩ := h.ass
  refine R [] [(0, .v 0 .str p0), (21, .v 0 .bool ((p0.toList == ByteArray.empty.toList) || (((bt p0 (0 : Int)) == 48) && (!(p0.toList == (tx [48]).toList)))))] (ps o1) ?_
  refine C h (fun h => ?_) fun h => ?_
  · refine W_seq ?_
    refine R [] [(2, .v 9 (.slice (.int .u32)) ([] : List Int)), (3, .v 0 (.int .i64) (3 : Int))] pz ?_
    cases h
    exact Rt hw0
  refine W_skip (W_seq ?_)
  refine R [] [(0, .v 0 .str p0), (4, .v 9 (.slice (.int .u32)) ([] : List Int))] pz ?_
  refine W_seq (W_seq ?_)
  refine R [] [(0, .v 0 .str p0), (4, .v 9 (.slice (.int .u32)) ([] : List Int)), (23, .v 0 (.int .i64) (p0.size : Int)), (24, .v 0 (.int .i64) (0 : Int))] pz ?_
  refine J1 h nat_Parse_j1 (fun x1 => [(4, .v 9 (.slice (.int .u32)) x1)]) (fun x1 h => ?_) fun j1 => ?_
  · unfold nat_Parse_j1 at h
    refine W_seq ?_
    refine R [] [(2, .v 9 (.slice (.int .u32)) x1), (3, .v 0 (.int .i64) (0 : Int))] pz ?_
    cases h
    exact Rt hw0
  refine W_block ?_
  refine L2 h (fun x2 x3 => [(0, .v 0 .str p0), (4, .v 9 (.slice (.int .u32)) x2), (23, .v 0 (.int .i64) (p0.size : Int)), (24, .v 0 (.int .i64) x3)]) fun x2 x3 _ h => ?_
  unfold nat_Parse_b1 at h
  refine W_seq ?_
  refine R [] [(0, .v 0 .str p0), (4, .v 9 (.slice (.int .u32)) x2), (23, .v 0 (.int .i64) (p0.size : Int)), (24, .v 0 (.int .i64) x3), (25, .v 0 .bool (decide (x3 < (p0.size : Int))))] pz ?_
  refine W_seq ?_
  refine C h (fun h => ?_) fun h => ?_
  · refine W_skip (W_seq ?_)
    refine J1 h (nat_Parse_j2 x3) (fun x4 => [(0, .v 0 .str p0), (4, .v 9 (.slice (.int .u32)) x4), (23, .v 0 (.int .i64) (p0.size : Int)), (24, .v 0 (.int .i64) x3)]) (fun x4 h => ?_) fun j2 => ?_
    · unfold nat_Parse_j2 at h
      refine R1 h [] (fun x5 => [(0, .v 0 .str p0), (4, .v 9 (.slice (.int .u32)) x4), (23, .v 0 (.int .i64) (p0.size : Int)), (24, .v 0 (.int .i64) x5)]) pz fun x5 h => ?_
      exact B h
    refine W_block (W_seq ?_)
    refine R [] [(0, .v 0 .str p0), (4, .v 9 (.slice (.int .u32)) x2), (5, .v 0 (.int .i64) x3), (23, .v 0 (.int .i64) (p0.size : Int)), (24, .v 0 (.int .i64) x3)] pz ?_
    refine W_seq (W_seq ?_)
    obtain ⟨o1, h⟩ := h.ass
    obtain ⟨o2, h⟩ := h.ass
    refine R [] [(0, .v 0 .str p0), (4, .v 9 (.slice (.int .u32)) x2), (5, .v 0 (.int .i64) x3), (23, .v 0 (.int .i64) (p0.size : Int)), (24, .v 0 (.int .i64) x3), (36, .v 0 .bool ((decide ((bt p0 x3) < 48)) || (decide ((bt p0 x3) > 57))))] (pc o1 (ps o2)) ?_
    refine C h (fun h => ?_) fun h => ?_
    · refine W_seq ?_
      refine R [] [(2, .v 9 (.slice (.int .u32)) ([] : List Int)), (3, .v 0 (.int .i64) (3 : Int))] pz ?_
      cases h
      exact Rt hw0
    refine W_skip (W_seq ?_)
    obtain ⟨o1, h⟩ := h.ass
    refine R1 h [] (fun x6 => [(0, .v 0 .str p0), (4, .v 9 (.slice (.int .u32)) x2), (6, .v 0 (.int .u64) x6), (23, .v 0 (.int .i64) (p0.size : Int)), (24, .v 0 (.int .i64) x3)]) (ps o1) fun x6 h => ?_
    refine W_seq (W_seq ?_)
    refine R [] [(0, .v 0 .str p0), (4, .v 9 (.slice (.int .u32)) x2), (6, .v 0 (.int .u64) x6), (23, .v 0 (.int .i64) (p0.size : Int)), (24, .v 0 (.int .i64) x3), (43, .v 0 (.int .i64) (x2.length : Int)), (44, .v 0 (.int .i64) (0 : Int))] pz ?_
    refine J2 h (nat_Parse_j3 x3) (fun x7 x8 => [(0, .v 0 .str p0), (4, .v 9 (.slice (.int .u32)) x7), (6, .v 0 (.int .u64) x8), (23, .v 0 (.int .i64) (p0.size : Int)), (24, .v 0 (.int .i64) x3)]) (fun x7 x8 h => ?_) fun j3 => ?_
    · unfold nat_Parse_j3 at h
      refine W_seq ?_
      refine R [] [(0, .v 0 .str p0), (4, .v 9 (.slice (.int .u32)) x7), (6, .v 0 (.int .u64) x8), (23, .v 0 (.int .i64) (p0.size : Int)), (24, .v 0 (.int .i64) x3), (64, .v 0 .bool (decide (x8 > 0)))] pz ?_
      refine J1 h (nat_Parse_j4 x3) (fun x9 => [(0, .v 0 .str p0), (4, .v 9 (.slice (.int .u32)) x9), (23, .v 0 (.int .i64) (p0.size : Int)), (24, .v 0 (.int .i64) x3)]) (fun x9 h => ?_) fun j4 => ?_
      · unfold nat_Parse_j4 at h
        refine W_blk ?_
        exact K (j2 x9 h)
      refine C h (fun h => ?_) fun h => ?_
      · obtain ⟨o1, h⟩ := h.ass
        refine R1 h [] (fun x10 => [(0, .v 0 .str p0), (4, .v 9 (.slice (.int .u32)) x10), (23, .v 0 (.int .i64) (p0.size : Int)), (24, .v 0 (.int .i64) x3)]) (ps o1) fun x10 h => ?_
        exact K (j4 x10 h)
      refine W_skip ?_
      exact K (j4 x7 h)
    refine W_block ?_
    refine L3 h (fun x11 x12 x13 => [(0, .v 0 .str p0), (4, .v 9 (.slice (.int .u32)) x11), (6, .v 0 (.int .u64) x12), (23, .v 0 (.int .i64) (p0.size : Int)), (24, .v 0 (.int .i64) x3), (43, .v 0 (.int .i64) (x2.length : Int)), (44, .v 0 (.int .i64) x13)]) fun x11 x12 x13 _ h => ?_
    unfold nat_Parse_b2 at h
    refine W_seq ?_
    refine R [] [(0, .v 0 .str p0), (4, .v 9 (.slice (.int .u32)) x11), (6, .v 0 (.int .u64) x12), (23, .v 0 (.int .i64) (p0.size : Int)), (24, .v 0 (.int .i64) x3), (43, .v 0 (.int .i64) (x2.length : Int)), (44, .v 0 (.int .i64) x13), (45, .v 0 .bool (decide (x13 < (x2.length : Int))))] pz ?_
    refine W_seq ?_
    refine C h (fun h => ?_) fun h => ?_
    · refine W_skip (W_seq (W_block (W_seq ?_)))
      refine R [] [(0, .v 0 .str p0), (4, .v 9 (.slice (.int .u32)) x11), (6, .v 0 (.int .u64) x12), (7, .v 0 (.int .i64) x13), (23, .v 0 (.int .i64) (p0.size : Int)), (24, .v 0 (.int .i64) x3), (43, .v 0 (.int .i64) (x2.length : Int)), (44, .v 0 (.int .i64) x13)] pz ?_
      refine W_seq ?_
      obtain ⟨o1, h⟩ := h.ass
      refine R1 h [] (fun x14 => [(0, .v 0 .str p0), (4, .v 9 (.slice (.int .u32)) x11), (6, .v 0 (.int .u64) x14), (7, .v 0 (.int .i64) x13), (23, .v 0 (.int .i64) (p0.size : Int)), (24, .v 0 (.int .i64) x3), (43, .v 0 (.int .i64) (x2.length : Int)), (44, .v 0 (.int .i64) x13)]) (ps o1) fun x14 h => ?_
      refine W_seq ?_
      obtain ⟨o1, h⟩ := h.ass
      refine R1 h [] (fun x15 => [(0, .v 0 .str p0), (4, .v 9 (.slice (.int .u32)) x15), (6, .v 0 (.int .u64) x14), (23, .v 0 (.int .i64) (p0.size : Int)), (24, .v 0 (.int .i64) x3), (43, .v 0 (.int .i64) (x2.length : Int)), (44, .v 0 (.int .i64) x13)]) (ps o1) fun x15 h => ?_
      obtain ⟨o1, h⟩ := h.ass
      refine R1 h [] (fun x16 => [(0, .v 0 .str p0), (4, .v 9 (.slice (.int .u32)) x15), (6, .v 0 (.int .u64) x16), (23, .v 0 (.int .i64) (p0.size : Int)), (24, .v 0 (.int .i64) x3), (43, .v 0 (.int .i64) (x2.length : Int)), (44, .v 0 (.int .i64) x13)]) (ps o1) fun x16 h => ?_
      refine W_blk ?_
      refine R1 h [] (fun x17 => [(0, .v 0 .str p0), (4, .v 9 (.slice (.int .u32)) x15), (6, .v 0 (.int .u64) x16), (23, .v 0 (.int .i64) (p0.size : Int)), (24, .v 0 (.int .i64) x3), (43, .v 0 (.int .i64) (x2.length : Int)), (44, .v 0 (.int .i64) x17)]) pz fun x17 h => ?_
      exact B h
    refine W_exit rfl ?_
    exact K (j3 x11 x12 h.back)
  refine W_exit rfl ?_
  exact K (j1 x2 h.back)

def nat_Bits (p0 : List Int) : Option Int :=
  (nat_Cut p0).bind fun y1 =>
  bif (y1.length : Int) == 0 then
    some (0 : Int)
  else
  ass (0 ≤ i64.wrap ((y1.length : Int) - 1) ∧ i64.wrap ((y1.length : Int) - 1) < (y1.length : Int)) <|
  (math_bits_Len32 (rd (0 : Int) y1 (i64.wrap ((y1.length : Int) - 1)))).bind fun y2 =>
  bnd (i64.wrap ((i64.wrap (32 * (i64.wrap ((y1.length : Int) - 1)))) + y2)) fun x3 =>
  some x3
theorem nat_Bits.ok {p0 : List Int} {r : Int} (h : nat_Bits p0 = some r) : ACall prog 66 [⟨.slice (.int .u32), p0⟩] [⟨0, .int .i64, r⟩] := by
  replace h := Leads.of h
  unfold nat_Bits at h
  refine AC func66 rfl fun w0 F0 hw0 => ?_
  refine W_seq ?_
  refine R [] [(0, .v 0 (.slice (.int .u32)) p0)] pz ?_
  refine W_seq ?_
  obtain ⟨y1, ey1, h⟩ := h.bind
  refine R [.res [(9, ⟨9, .slice (.int .u32), y1⟩)]] [(0, .v 9 (.slice (.int .u32)) y1)] (ps (nat_Cut.ok ey1)) ?_
  refine W_seq (W_seq ?_)
  refine R [] [(0, .v 9 (.slice (.int .u32)) y1), (7, .v 0 .bool ((y1.length : Int) == 0))] pz ?_
  refine C h (fun h => ?_) fun h => ?_
  · refine W_seq ?_
    refine R [] [(2, .v 0 (.int .i64) (0 : Int))] pz ?_
    cases h
    exact Rt hw0
  refine W_skip (W_seq ?_)
  obtain ⟨o1, h⟩ := h.ass
  obtain ⟨y2, ey2, h⟩ := h.bind
  refine R1 h [.res [(0, ⟨0, .int .i64, y2⟩)]] (fun x3 => [(2, .v 0 (.int .i64) x3)]) (pc o1 (ps (math_bits_Len32.ok ey2))) fun x3 h => ?_
  cases h
  exact Rt hw0

def nat_Word (p0 : List Int) : Option (Int × Bool) :=
  (nat_Bits p0).bind fun y1 =>
  bif decide (y1 > 64) then
    some ((0 : Int), false)
  else
  (nat_at p0 (1 : Int)).bind fun y2 =>
  ass (0 ≤ (32 : Int)) <|
  (nat_at p0 (0 : Int)).bind fun y3 =>
  bnd (u64.wrap ((BitVec.ofInt u64.bits (u64.wrap ((u64.wrap y2) * 2 ^ (min (32 : Int).toNat u64.bits))) ||| BitVec.ofInt u64.bits (u64.wrap y3)).toNat : Int)) fun x4 =>
  some (x4, true)
theorem nat_Word.ok {p0 : List Int} {r : Int × Bool} (h : nat_Word p0 = some r) : ACall prog 40 [⟨.slice (.int .u32), p0⟩] [⟨0, .int .u64, r.1⟩, ⟨0, .bool, r.2⟩] := by
  replace h := Leads.of h
  unfold nat_Word at h
  refine AC func40 rfl fun w0 F0 hw0 => ?_
  refine W_seq ?_
  refine R [] [(0, .v 0 (.slice (.int .u32)) p0)] pz ?_
  refine W_seq (W_seq ?_)
  obtain ⟨y1, ey1, h⟩ := h.bind
  refine R [.res [(0, ⟨0, .int .i64, y1⟩)]] [(0, .v 0 (.slice (.int .u32)) p0), (6, .v 0 .bool (decide (y1 > 64)))] (ps (nat_Bits.ok ey1)) ?_
  refine C h (fun h => ?_) fun h => ?_
  · refine W_seq ?_
    refine R [] [(2, .v 0 (.int .u64) (0 : Int)), (3, .v 0 .bool false)] pz ?_
    cases h
    exact Rt hw0
  refine W_skip (W_seq ?_)
  obtain ⟨y2, ey2, h⟩ := h.bind
  obtain ⟨o1, h⟩ := h.ass
  obtain ⟨y3, ey3, h⟩ := h.bind
  refine R1 h [.res [(0, ⟨0, .int .u32, y2⟩)], .res [(0, ⟨0, .int .u32, y3⟩)]] (fun x4 => [(2, .v 0 (.int .u64) x4), (3, .v 0 .bool true)]) (pc (nat_at.ok ey2) (pc o1 (ps (nat_at.ok ey3)))) fun x4 h => ?_
  cases h
  exact Rt hw0

def ratio_cut (p0 : List Int) : Option Bool :=
  ass ((!((p0.length : Int) == 0)) = true → 0 ≤ i64.wrap ((p0.length : Int) - 1) ∧ i64.wrap ((p0.length : Int) - 1) < (p0.length : Int)) <|
  bnd (((p0.length : Int) == 0) || ((rd (0 : Int) p0 (i64.wrap ((p0.length : Int) - 1))) != 0)) fun x1 =>
  some x1
theorem ratio_cut.ok {p0 : List Int} {r : Bool} (h : ratio_cut p0 = some r) : ACall prog 42 [⟨.slice (.int .u32), p0⟩] [⟨0, .bool, r⟩] := by
  replace h := Leads.of h
  unfold ratio_cut at h
  refine AC func42 rfl fun w0 F0 hw0 => ?_
  refine W_seq ?_
  refine R [] [(0, .v 0 (.slice (.int .u32)) p0)] pz ?_
  refine W_seq ?_
  obtain ⟨o1, h⟩ := h.ass
  refine R1 h [] (fun x1 => [(2, .v 0 .bool x1)]) (ps o1) fun x1 h => ?_
  cases h
  exact Rt hw0

def ratio_Right (p0 : D_api_Ratio) : Option Bool :=
  (nat_Gcd p0.1 p0.2).bind fun y1 =>
  (nat_Word y1).bind fun y2 =>
  (ratio_cut p0.1).bind fun y3 =>
  (bif y3 then ratio_cut p0.2 else some false).bind fun y4 =>
  bnd ((((y3 && y4) && (decide ((p0.2.length : Int) > 0))) && y2.2) && (y2.1 == 1)) fun x5 =>
  some x5
theorem ratio_Right.ok {p0 : D_api_Ratio} {r : Bool} (h : ratio_Right p0 = some r) : ACall prog 21 [⟨T_api_Ratio, p0⟩] [⟨0, .bool, r⟩] := by
  replace h := Leads.of h
  unfold ratio_Right at h
  refine AC func21 rfl fun w0 F0 hw0 => ?_
  refine W_seq ?_
  refine R [] [(1, .box 0 T_api_Ratio p0)] pz ?_
  refine W_seq ?_
  obtain ⟨y1, ey1, h⟩ := h.bind
  obtain ⟨y2, ey2, h⟩ := h.bind
  refine R [.res [(9, ⟨9, .slice (.int .u32), y1⟩)], .res [(0, ⟨0, .int .u64, y2.1⟩), (0, ⟨0, .bool, y2.2⟩)]] [(1, .box 0 T_api_Ratio p0), (3, .v 0 (.int .u64) y2.1), (4, .v 0 .bool y2.2)] (pc (nat_Gcd.ok ey1) (ps (nat_Word.ok ey2))) ?_
  refine W_seq ?_
  obtain ⟨y3, ey3, h⟩ := h.bind
  obtain ⟨y4, ey4, h⟩ := h.bind
  refine R1 h [.res [(0, ⟨0, .bool, y3⟩)], .res [(0, ⟨0, .bool, y4⟩)]] (fun x5 => [(2, .v 0 .bool x5)]) (pc (ratio_cut.ok ey3) (ps (fun hc => ratio_cut.ok (bif_some ey4 hc)))) fun x5 h => ?_
  cases h
  exact Rt hw0

def ratio_Parse_j1 (p0 : ByteArray) (y3 : (ByteArray × ByteArray × Bool)) (x4 : ByteArray) : Option (D_api_Ratio × Int) :=
  (nat_Parse y3.1).bind fun y5 =>
  (nat_Parse x4).bind fun y6 =>
  bnd ((y5.1, y6.1)) fun x7 =>
  (bif !((y5.2 != 0) || (y6.2 != 0)) then ratio_Right x7 else some false).bind fun y8 =>
  (bif !(((y5.2 != 0) || (y6.2 != 0)) || (!y8)) then ratio_Text x7 else some ByteArray.empty).bind fun y9 =>
  bif (((y5.2 != 0) || (y6.2 != 0)) || (!y8)) || (!(y9.toList == p0.toList)) then
    bnd ((([] : List Int), ([] : List Int))) fun x10 =>
    some (x10, (3 : Int))
  else
  some (x7, (0 : Int))
def ratio_Parse (p0 : ByteArray) : Option (D_api_Ratio × Int) :=
  bnd ((([] : List Int), ([] : List Int))) fun x1 =>
  bif decide ((p0.size : Int) > 4096) then
    bnd ((([] : List Int), ([] : List Int))) fun x2 =>
    some (x2, (5 : Int))
  else
  (strings_Cut p0 (tx [47])).bind fun y3 =>
  bif !y3.2.2 then
    ratio_Parse_j1 p0 y3 (tx [49])
  else
  ratio_Parse_j1 p0 y3 y3.2.1
theorem ratio_Parse.ok {p0 : ByteArray} {r : D_api_Ratio × Int} (h : ratio_Parse p0 = some r) : ACall prog 6 [⟨.str, p0⟩] [⟨0, T_api_Ratio, r.1⟩, ⟨0, .int .i64, r.2⟩] := by
  replace h := Leads.of h
  unfold ratio_Parse at h
  refine AC func6 rfl fun w0 F0 hw0 => ?_
  refine W_seq ?_
  refine R1 h [] (fun x1 => [(0, .v 0 .str p0), (2, .box 9 T_api_Ratio x1)]) pz fun x1 h => ?_
  refine W_seq (W_seq ?_)
  refine R [] [(0, .v 0 .str p0), (2, .box 9 T_api_Ratio x1), (14, .v 0 .bool (decide ((p0.size : Int) > 4096)))] pz ?_
  refine C h (fun h => ?_) fun h => ?_
  · refine W_seq ?_
    refine R1 h [] (fun x2 => [(2, .box 0 T_api_Ratio x2), (3, .v 0 (.int .i64) (5 : Int))]) pz fun x2 h => ?_
    cases h
    exact Rt hw0
  refine W_skip (W_seq ?_)
  obtain ⟨y3, ey3, h⟩ := h.bind
  refine R [.res [(0, ⟨0, .str, y3.1⟩), (0, ⟨0, .str, y3.2.1⟩), (0, ⟨0, .bool, y3.2.2⟩)]] [(0, .v 0 .str p0), (2, .box 9 T_api_Ratio x1), (4, .v 0 .str y3.1), (5, .v 0 .str y3.2.1), (6, .v 0 .bool y3.2.2)] (ps (strings_Cut.ok ey3)) ?_
  refine W_seq (W_seq ?_)
  refine R [] [(0, .v 0 .str p0), (2, .box 9 T_api_Ratio x1), (4, .v 0 .str y3.1), (5, .v 0 .str y3.2.1), (23, .v 0 .bool (!y3.2.2))] pz ?_
  refine J1 h (ratio_Parse_j1 p0 y3) (fun x4 => [(0, .v 0 .str p0), (2, .box 9 T_api_Ratio x1), (4, .v 0 .str y3.1), (5, .v 0 .str x4)]) (fun x4 h => ?_) fun j1 => ?_
  · unfold ratio_Parse_j1 at h
    refine W_seq ?_
    obtain ⟨y5, ey5, h⟩ := h.bind
    refine R [.res [(9, ⟨9, .slice (.int .u32), y5.1⟩), (0, ⟨0, .int .i64, y5.2⟩)]] [(0, .v 0 .str p0), (2, .box 9 T_api_Ratio x1), (5, .v 0 .str x4), (7, .v 9 (.slice (.int .u32)) y5.1), (8, .v 0 (.int .i64) y5.2)] (ps (nat_Parse.ok ey5)) ?_
    refine W_seq ?_
    obtain ⟨y6, ey6, h⟩ := h.bind
    refine R [.res [(9, ⟨9, .slice (.int .u32), y6.1⟩), (0, ⟨0, .int .i64, y6.2⟩)]] [(0, .v 0 .str p0), (2, .box 9 T_api_Ratio x1), (7, .v 9 (.slice (.int .u32)) y5.1), (8, .v 0 (.int .i64) y5.2), (9, .v 9 (.slice (.int .u32)) y6.1), (10, .v 0 (.int .i64) y6.2)] (ps (nat_Parse.ok ey6)) ?_
    refine W_seq ?_
    refine K (E' := [(0, .v 0 .str p0), (2, .box 9 T_api_Ratio x1), (7, .v 0 (.slice (.int .u32)) y5.1), (8, .v 0 (.int .i64) y5.2), (9, .v 0 (.slice (.int .u32)) y6.1), (10, .v 0 (.int .i64) y6.2)]) ?_
    refine R1 h [] (fun x7 => [(0, .v 0 .str p0), (2, .box 9 T_api_Ratio x1), (8, .v 0 (.int .i64) y5.2), (10, .v 0 (.int .i64) y6.2), (11, .box 0 T_api_Ratio x7)]) pz fun x7 h => ?_
    refine W_seq (W_seq ?_)
    obtain ⟨y8, ey8, h⟩ := h.bind
    obtain ⟨y9, ey9, h⟩ := h.bind
    refine R [.res [(0, ⟨0, .bool, y8⟩)], .res [(0, ⟨0, .str, y9⟩)]] [(2, .box 9 T_api_Ratio x1), (11, .box 0 T_api_Ratio x7), (53, .v 0 .bool ((((y5.2 != 0) || (y6.2 != 0)) || (!y8)) || (!(y9.toList == p0.toList))))] (pc (fun hc => ratio_Right.ok (bif_some ey8 hc)) (ps (fun hc => ratio_Text.ok (bif_some ey9 hc)))) ?_
    refine C h (fun h => ?_) fun h => ?_
    · refine W_seq ?_
      refine R1 h [] (fun x10 => [(2, .box 0 T_api_Ratio x10), (3, .v 0 (.int .i64) (3 : Int))]) pz fun x10 h => ?_
      cases h
      exact Rt hw0
    refine W_skip (W_seq ?_)
    refine R [] [(2, .box 0 T_api_Ratio x7), (3, .v 0 (.int .i64) (0 : Int))] pz ?_
    cases h
    exact Rt hw0
  refine C h (fun h => ?_) fun h => ?_
  · refine R [] [(0, .v 0 .str p0), (2, .box 9 T_api_Ratio x1), (4, .v 0 .str y3.1), (5, .v 0 .str (tx [49]))] pz ?_
    exact K (j1 (tx [49]) h)
  refine W_skip ?_
  exact K (j1 y3.2.1 h)

def r01_Of_j1 (x1 : List Int) : Option (D_r01_Nat) :=
  some x1
def r01_Of_b1 (x2 : Int) (x3 : List Int) : Option ((Int × (List Int)) ⊕ D_r01_Nat) :=
  bif decide (x2 > 0) then
    ass ((65536 : Int) ≠ 0) <|
    ass (((x3.length + [i64.wrap (x2.tmod 65536)].length : Nat) : Int) ≤ limA) <|
    bnd (x3 ++ [i64.wrap (x2.tmod 65536)]) fun x4 =>
    ass ((65536 : Int) ≠ 0) <|
    bnd (u64.wrap (x2.tdiv 65536)) fun x5 =>
    some (.inl (x5, x4))
  else
  (r01_Of_j1 x3).map .inr
def r01_Of (p0 : Int) : Option D_r01_Nat :=
  loopM (fun x : Int × (List Int) => r01_Of_b1 x.1 x.2) (p0, ([] : List Int))
theorem r01_Of.ok {p0 : Int} {r : D_r01_Nat} (h : r01_Of p0 = some r) : ACall prog 23 [⟨.int .u64, p0⟩] [⟨0, T_r01_Nat, r⟩] := by
  replace h := Leads.of h
  unfold r01_Of at h
  refine AC func23 rfl fun w0 F0 hw0 => ?_
  refine W_seq ?_
  refine R [] [(0, .v 0 (.int .u64) p0), (2, .box 9 T_r01_Nat ([] : List Int))] pz ?_
  refine W_seq ?_
  refine R [] [(0, .v 0 (.int .u64) p0), (2, .box 9 T_r01_Nat ([] : List Int)), (3, .v 9 (.slice (.int .i64)) ([] : List Int))] pz ?_
  refine W_seq ?_
  refine J1 h r01_Of_j1 (fun x1 => [(2, .box 9 T_r01_Nat ([] : List Int)), (3, .v 9 (.slice (.int .i64)) x1)]) (fun x1 h => ?_) fun j1 => ?_
  · unfold r01_Of_j1 at h
    refine W_seq ?_
    refine K (E' := [(2, .box 9 T_r01_Nat ([] : List Int)), (3, .v 0 (.slice (.int .i64)) x1)]) ?_
    refine R [] [(2, .box 0 T_r01_Nat x1)] pz ?_
    cases h
    exact Rt hw0
  refine W_block ?_
  refine L2 h (fun x2 x3 => [(0, .v 0 (.int .u64) x2), (2, .box 9 T_r01_Nat ([] : List Int)), (3, .v 9 (.slice (.int .i64)) x3)]) fun x2 x3 _ h => ?_
  unfold r01_Of_b1 at h
  refine W_seq (W_seq ?_)
  refine R [] [(0, .v 0 (.int .u64) x2), (2, .box 9 T_r01_Nat ([] : List Int)), (3, .v 9 (.slice (.int .i64)) x3), (5, .v 0 .bool (decide (x2 > 0)))] pz ?_
  refine C h (fun h => ?_) fun h => ?_
  · refine W_skip (W_block (W_seq ?_))
    obtain ⟨o1, h⟩ := h.ass
    obtain ⟨o2, h⟩ := h.ass
    refine R1 h [] (fun x4 => [(0, .v 0 (.int .u64) x2), (2, .box 9 T_r01_Nat ([] : List Int)), (3, .v 9 (.slice (.int .i64)) x4)]) (pc o1 (ps o2)) fun x4 h => ?_
    obtain ⟨o1, h⟩ := h.ass
    refine R1 h [] (fun x5 => [(0, .v 0 (.int .u64) x5), (2, .box 9 T_r01_Nat ([] : List Int)), (3, .v 9 (.slice (.int .i64)) x4)]) (ps o1) fun x5 h => ?_
    refine W_blk ?_
    exact B h
  refine W_exit rfl ?_
  exact K (j1 x3 h.back)

def r01_digit (p0 : D_r01_Nat) (p1 : Int) : Option Int :=
  bif decide (p1 < (p0.length : Int)) then
    ass (0 ≤ p1 ∧ p1 < (p0.length : Int)) <|
    bnd (rd (0 : Int) p0 p1) fun x1 =>
    some x1
  else
  some (0 : Int)
theorem r01_digit.ok {p0 : D_r01_Nat} {p1 : Int} {r : Int} (h : r01_digit p0 p1 = some r) : ACall prog 45 [⟨T_r01_Nat, p0⟩, ⟨.int .i64, p1⟩] [⟨0, .int .i64, r⟩] := by
  replace h := Leads.of h
  unfold r01_digit at h
  refine AC func45 rfl fun w0 F0 hw0 => ?_
  refine W_seq ?_
  refine R [] [(1, .v 0 (.int .i64) p1), (2, .box 0 T_r01_Nat p0)] pz ?_
  refine W_seq (W_seq ?_)
  refine R [] [(1, .v 0 (.int .i64) p1), (2, .box 0 T_r01_Nat p0), (9, .v 0 .bool (decide (p1 < (p0.length : Int))))] pz ?_
  refine C h (fun h => ?_) fun h => ?_
  · refine W_seq ?_
    obtain ⟨o1, h⟩ := h.ass
    refine R1 h [] (fun x1 => [(4, .v 0 (.int .i64) x1)]) (ps o1) fun x1 h => ?_
    cases h
    exact Rt hw0
  refine W_skip (W_seq ?_)
  refine R [] [(4, .v 0 (.int .i64) (0 : Int))] pz ?_
  cases h
  exact Rt hw0

def r01_Cut_j1 (p0 : List Int) (x1 : Int) : Option (D_r01_Nat) :=
  ass (0 ≤ (0 : Int) ∧ (0 : Int) ≤ x1 ∧ x1 ≤ (p0.length : Int)) <|
  ass (((([] : List Int).length + (sl p0 (0 : Int) x1).length : Nat) : Int) ≤ limA) <|
  bnd (([] : List Int) ++ (sl p0 (0 : Int) x1)) fun x2 =>
  some x2
def r01_Cut_b1 (p0 : List Int) (x3 : Int) : Option (Int ⊕ D_r01_Nat) :=
  ass ((decide (x3 > 0)) = true → 0 ≤ i64.wrap (x3 - 1) ∧ i64.wrap (x3 - 1) < (p0.length : Int)) <|
  bif (decide (x3 > 0)) && ((rd (0 : Int) p0 (i64.wrap (x3 - 1))) == 0) then
    bnd (i64.wrap (x3 - 1)) fun x4 =>
    some (.inl x4)
  else
  (r01_Cut_j1 p0 x3).map .inr
def r01_Cut (p0 : List Int) : Option D_r01_Nat :=
  loopM (fun x : Int => r01_Cut_b1 p0 x) (p0.length : Int)
theorem r01_Cut.ok {p0 : List Int} {r : D_r01_Nat} (h : r01_Cut p0 = some r) : ACall prog 56 [⟨.slice (.int .i64), p0⟩] [⟨0, T_r01_Nat, r⟩] := by
  replace h := Leads.of h
  unfold r01_Cut at h
  refine AC func56 rfl fun w0 F0 hw0 => ?_
  refine W_seq ?_
  refine R [] [(0, .v 0 (.slice (.int .i64)) p0), (2, .box 9 T_r01_Nat ([] : List Int))] pz ?_
  refine W_seq ?_
  refine R [] [(0, .v 0 (.slice (.int .i64)) p0), (2, .box 9 T_r01_Nat ([] : List Int)), (3, .v 0 (.int .i64) (p0.length : Int))] pz ?_
  refine W_seq ?_
  refine J1 h (r01_Cut_j1 p0) (fun x1 => [(0, .v 0 (.slice (.int .i64)) p0), (2, .box 9 T_r01_Nat ([] : List Int)), (3, .v 0 (.int .i64) x1)]) (fun x1 h => ?_) fun j1 => ?_
  · unfold r01_Cut_j1 at h
    refine W_seq ?_
    obtain ⟨o1, h⟩ := h.ass
    obtain ⟨o2, h⟩ := h.ass
    refine R1 h [.fz (some 23) 22 0] (fun x2 => [(2, .box 0 T_r01_Nat x2)]) (pc o1 (ps o2)) fun x2 h => ?_
    cases h
    exact Rt hw0
  refine W_block ?_
  refine L1 h (fun x3 => [(0, .v 0 (.slice (.int .i64)) p0), (2, .box 9 T_r01_Nat ([] : List Int)), (3, .v 0 (.int .i64) x3)]) fun x3 _ h => ?_
  unfold r01_Cut_b1 at h
  refine W_seq (W_seq ?_)
  obtain ⟨o1, h⟩ := h.ass
  refine R [] [(0, .v 0 (.slice (.int .i64)) p0), (2, .box 9 T_r01_Nat ([] : List Int)), (3, .v 0 (.int .i64) x3), (15, .v 0 .bool ((decide (x3 > 0)) && ((rd (0 : Int) p0 (i64.wrap (x3 - 1))) == 0)))] (ps o1) ?_
  refine C h (fun h => ?_) fun h => ?_
  · refine W_skip (W_block ?_)
    refine R1 h [] (fun x4 => [(0, .v 0 (.slice (.int .i64)) p0), (2, .box 9 T_r01_Nat ([] : List Int)), (3, .v 0 (.int .i64) x4)]) pz fun x4 h => ?_
    refine W_blk ?_
    exact B h
  refine W_exit rfl ?_
  exact K (j1 x3 h.back)

def r01_Mul_j1 (x2 : List Int) : Option (D_r01_Nat) :=
  (r01_Cut x2).bind fun y3 =>
  some y3
def r01_Mul_j2 (x5 : Int) (x6 : List Int) : Option (((List Int) × Int) ⊕ D_r01_Nat) :=
  bnd (i64.wrap (x5 + 1)) fun x7 =>
  some (.inl (x6, x7))
def r01_Mul_j3 (x5 : Int) (x8 : List Int) : Option (((List Int) × Int) ⊕ D_r01_Nat) :=
  r01_Mul_j2 x5 x8
def r01_Mul_b2 (p0 : D_r01_Nat) (p1 : D_r01_Nat) (x5 : Int) (x9 : List Int) (x10 : Int) (x11 : Int) : Option (((List Int) × Int × Int) ⊕ (((List Int) × Int) ⊕ D_r01_Nat)) :=
  bif (decide (x11 < (p1.length : Int))) || (decide (x10 > 0)) then
    ass (0 ≤ i64.wrap (x5 + x11) ∧ i64.wrap (x5 + x11) < (x9.length : Int)) <|
    ass (0 ≤ x5 ∧ x5 < (p0.length : Int)) <|
    (r01_digit p1 x11).bind fun y12 =>
    bnd (i64.wrap ((i64.wrap ((rd (0 : Int) x9 (i64.wrap (x5 + x11))) + (i64.wrap ((rd (0 : Int) p0 x5) * y12)))) + x10)) fun x13 =>
    ass ((65536 : Int) ≠ 0) <|
    ass (0 ≤ i64.wrap (x5 + x11) ∧ i64.wrap (x5 + x11) < (x9.length : Int)) <|
    bnd (wr x9 (i64.wrap (x5 + x11)) (x13.tmod 65536)) fun x14 =>
    ass ((65536 : Int) ≠ 0) <|
    bnd (i64.wrap (x13.tdiv 65536)) fun x15 =>
    bnd (i64.wrap (x11 + 1)) fun x16 =>
    some (.inl (x14, x15, x16))
  else
  (r01_Mul_j3 x5 x9).map .inr
def r01_Mul_b1 (p0 : D_r01_Nat) (p1 : D_r01_Nat) (x4 : List Int) (x5 : Int) : Option (((List Int) × Int) ⊕ D_r01_Nat) :=
  bif decide (x5 < (p0.length : Int)) then
    loopM (fun x : (List Int) × Int × Int => r01_Mul_b2 p0 p1 x5 x.1 x.2.1 x.2.2) (x4, (0 : Int), (0 : Int))
  else
  (r01_Mul_j1 x4).map .inr
def r01_Mul (p0 : D_r01_Nat) (p1 : D_r01_Nat) : Option D_r01_Nat :=
  ass (0 ≤ i64.wrap ((i64.wrap ((p0.length : Int) + (p1.length : Int))) + 1) ∧ i64.wrap ((i64.wrap ((p0.length : Int) + (p1.length : Int))) + 1) ≤ i64.wrap ((i64.wrap ((p0.length : Int) + (p1.length : Int))) + 1) ∧ i64.wrap ((i64.wrap ((p0.length : Int) + (p1.length : Int))) + 1) ≤ lim) <|
  bnd (List.replicate (i64.wrap ((i64.wrap ((p0.length : Int) + (p1.length : Int))) + 1)).toNat (0 : Int)) fun x1 =>
  loopM (fun x : (List Int) × Int => r01_Mul_b1 p0 p1 x.1 x.2) (x1, (0 : Int))
theorem r01_Mul.ok {p0 : D_r01_Nat} {p1 : D_r01_Nat} {r : D_r01_Nat} (h : r01_Mul p0 p1 = some r) : ACall prog 44 [⟨T_r01_Nat, p0⟩, ⟨T_r01_Nat, p1⟩] [⟨0, T_r01_Nat, r⟩] := by
  replace h := Leads.of h
  unfold r01_Mul at h
  refine AC func44 rfl fun w0 F0 hw0 => ?_
  refine W_seq ?_
  refine R [] [(2, .box 0 T_r01_Nat p0), (3, .box 0 T_r01_Nat p1), (4, .box 9 T_r01_Nat ([] : List Int))] pz ?_
  refine W_seq ?_
  obtain ⟨o1, h⟩ := h.ass
  refine R1 h [] (fun x1 => [(2, .box 0 T_r01_Nat p0), (3, .box 0 T_r01_Nat p1), (4, .box 9 T_r01_Nat ([] : List Int)), (5, .v 9 (.slice (.int .i64)) x1)]) (ps o1) fun x1 h => ?_
  refine W_seq (W_seq ?_)
  refine R [] [(2, .box 0 T_r01_Nat p0), (3, .box 0 T_r01_Nat p1), (4, .box 9 T_r01_Nat ([] : List Int)), (5, .v 9 (.slice (.int .i64)) x1), (6, .v 0 (.int .i64) (0 : Int))] pz ?_
  refine J1 h r01_Mul_j1 (fun x2 => [(4, .box 9 T_r01_Nat ([] : List Int)), (5, .v 9 (.slice (.int .i64)) x2)]) (fun x2 h => ?_) fun j1 => ?_
  · unfold r01_Mul_j1 at h
    refine W_seq ?_
    refine K (E' := [(4, .box 9 T_r01_Nat ([] : List Int)), (5, .v 0 (.slice (.int .i64)) x2)]) ?_
    obtain ⟨y3, ey3, h⟩ := h.bind
    refine R [.res [(0, ⟨0, T_r01_Nat, y3⟩)]] [(4, .box 0 T_r01_Nat y3)] (ps (r01_Cut.ok ey3)) ?_
    cases h
    exact Rt hw0
  refine W_block ?_
  refine L2 h (fun x4 x5 => [(2, .box 0 T_r01_Nat p0), (3, .box 0 T_r01_Nat p1), (4, .box 9 T_r01_Nat ([] : List Int)), (5, .v 9 (.slice (.int .i64)) x4), (6, .v 0 (.int .i64) x5)]) fun x4 x5 _ h => ?_
  unfold r01_Mul_b1 at h
  refine W_seq (W_seq ?_)
  refine R [] [(2, .box 0 T_r01_Nat p0), (3, .box 0 T_r01_Nat p1), (4, .box 9 T_r01_Nat ([] : List Int)), (5, .v 9 (.slice (.int .i64)) x4), (6, .v 0 (.int .i64) x5), (23, .v 0 .bool (decide (x5 < (p0.length : Int))))] pz ?_
  refine C h (fun h => ?_) fun h => ?_
  · refine W_skip (W_seq ?_)
    refine J1 h (r01_Mul_j2 x5) (fun x6 => [(2, .box 0 T_r01_Nat p0), (3, .box 0 T_r01_Nat p1), (4, .box 9 T_r01_Nat ([] : List Int)), (5, .v 9 (.slice (.int .i64)) x6), (6, .v 0 (.int .i64) x5)]) (fun x6 h => ?_) fun j2 => ?_
    · unfold r01_Mul_j2 at h
      refine R1 h [] (fun x7 => [(2, .box 0 T_r01_Nat p0), (3, .box 0 T_r01_Nat p1), (4, .box 9 T_r01_Nat ([] : List Int)), (5, .v 9 (.slice (.int .i64)) x6), (6, .v 0 (.int .i64) x7)]) pz fun x7 h => ?_
      exact B h
    refine W_block (W_seq ?_)
    refine R [] [(2, .box 0 T_r01_Nat p0), (3, .box 0 T_r01_Nat p1), (4, .box 9 T_r01_Nat ([] : List Int)), (5, .v 9 (.slice (.int .i64)) x4), (6, .v 0 (.int .i64) x5), (7, .v 0 (.int .i64) (0 : Int))] pz ?_
    refine W_seq ?_
    refine R [] [(2, .box 0 T_r01_Nat p0), (3, .box 0 T_r01_Nat p1), (4, .box 9 T_r01_Nat ([] : List Int)), (5, .v 9 (.slice (.int .i64)) x4), (6, .v 0 (.int .i64) x5), (7, .v 0 (.int .i64) (0 : Int)), (8, .v 0 (.int .i64) (0 : Int))] pz ?_
    refine J1 h (r01_Mul_j3 x5) (fun x8 => [(2, .box 0 T_r01_Nat p0), (3, .box 0 T_r01_Nat p1), (4, .box 9 T_r01_Nat ([] : List Int)), (5, .v 9 (.slice (.int .i64)) x8), (6, .v 0 (.int .i64) x5)]) (fun x8 h => ?_) fun j3 => ?_
    · unfold r01_Mul_j3 at h
      refine W_blk ?_
      exact K (j2 x8 h)
    refine W_block ?_
    refine L3 h (fun x9 x10 x11 => [(2, .box 0 T_r01_Nat p0), (3, .box 0 T_r01_Nat p1), (4, .box 9 T_r01_Nat ([] : List Int)), (5, .v 9 (.slice (.int .i64)) x9), (6, .v 0 (.int .i64) x5), (7, .v 0 (.int .i64) x10), (8, .v 0 (.int .i64) x11)]) fun x9 x10 x11 _ h => ?_
    unfold r01_Mul_b2 at h
    refine W_seq (W_seq ?_)
    refine R [] [(2, .box 0 T_r01_Nat p0), (3, .box 0 T_r01_Nat p1), (4, .box 9 T_r01_Nat ([] : List Int)), (5, .v 9 (.slice (.int .i64)) x9), (6, .v 0 (.int .i64) x5), (7, .v 0 (.int .i64) x10), (8, .v 0 (.int .i64) x11), (34, .v 0 .bool ((decide (x11 < (p1.length : Int))) || (decide (x10 > 0))))] pz ?_
    refine C h (fun h => ?_) fun h => ?_
    · refine W_skip (W_seq (W_block (W_seq ?_)))
      obtain ⟨o1, h⟩ := h.ass
      obtain ⟨o2, h⟩ := h.ass
      obtain ⟨y12, ey12, h⟩ := h.bind
      refine R1 h [.res [(0, ⟨0, .int .i64, y12⟩)]] (fun x13 => [(2, .box 0 T_r01_Nat p0), (3, .box 0 T_r01_Nat p1), (4, .box 9 T_r01_Nat ([] : List Int)), (5, .v 9 (.slice (.int .i64)) x9), (6, .v 0 (.int .i64) x5), (8, .v 0 (.int .i64) x11), (9, .v 0 (.int .i64) x13)]) (pc o1 (pc o2 (ps (r01_digit.ok ey12)))) fun x13 h => ?_
      refine W_seq ?_
      obtain ⟨o1, h⟩ := h.ass
      obtain ⟨o2, h⟩ := h.ass
      refine R1 h [] (fun x14 => [(2, .box 0 T_r01_Nat p0), (3, .box 0 T_r01_Nat p1), (4, .box 9 T_r01_Nat ([] : List Int)), (5, .v 9 (.slice (.int .i64)) x14), (6, .v 0 (.int .i64) x5), (8, .v 0 (.int .i64) x11), (9, .v 0 (.int .i64) x13)]) (pc o1 (ps o2)) fun x14 h => ?_
      obtain ⟨o1, h⟩ := h.ass
      refine R1 h [] (fun x15 => [(2, .box 0 T_r01_Nat p0), (3, .box 0 T_r01_Nat p1), (4, .box 9 T_r01_Nat ([] : List Int)), (5, .v 9 (.slice (.int .i64)) x14), (6, .v 0 (.int .i64) x5), (7, .v 0 (.int .i64) x15), (8, .v 0 (.int .i64) x11)]) (ps o1) fun x15 h => ?_
      refine W_blk ?_
      refine R1 h [] (fun x16 => [(2, .box 0 T_r01_Nat p0), (3, .box 0 T_r01_Nat p1), (4, .box 9 T_r01_Nat ([] : List Int)), (5, .v 9 (.slice (.int .i64)) x14), (6, .v 0 (.int .i64) x5), (7, .v 0 (.int .i64) x15), (8, .v 0 (.int .i64) x16)]) pz fun x16 h => ?_
      exact B h
    refine W_exit rfl ?_
    exact K (j3 x9 h.back)
  refine W_exit rfl ?_
  exact K (j1 x4 h.back)

def r01_Add_j1 (x1 : List Int) : Option (D_r01_Nat) :=
  (r01_Cut x1).bind fun y2 =>
  some y2
def r01_Add_b1 (p0 : D_r01_Nat) (p1 : D_r01_Nat) (x3 : List Int) (x4 : Int) (x5 : Int) : Option (((List Int) × Int × Int) ⊕ D_r01_Nat) :=
  bif ((decide (x5 < (p0.length : Int))) || (decide (x5 < (p1.length : Int)))) || (decide (x4 > 0)) then
    (r01_digit p0 x5).bind fun y6 =>
    (r01_digit p1 x5).bind fun y7 =>
    bnd (i64.wrap ((i64.wrap (y6 + y7)) + x4)) fun x8 =>
    ass ((65536 : Int) ≠ 0) <|
    ass (((x3.length + [x8.tmod 65536].length : Nat) : Int) ≤ limA) <|
    bnd (x3 ++ [x8.tmod 65536]) fun x9 =>
    ass ((65536 : Int) ≠ 0) <|
    bnd (i64.wrap (x8.tdiv 65536)) fun x10 =>
    bnd (i64.wrap (x5 + 1)) fun x11 =>
    some (.inl (x9, x10, x11))
  else
  (r01_Add_j1 x3).map .inr
def r01_Add (p0 : D_r01_Nat) (p1 : D_r01_Nat) : Option D_r01_Nat :=
  loopM (fun x : (List Int) × Int × Int => r01_Add_b1 p0 p1 x.1 x.2.1 x.2.2) (([] : List Int), (0 : Int), (0 : Int))
theorem r01_Add.ok {p0 : D_r01_Nat} {p1 : D_r01_Nat} {r : D_r01_Nat} (h : r01_Add p0 p1 = some r) : ACall prog 43 [⟨T_r01_Nat, p0⟩, ⟨T_r01_Nat, p1⟩] [⟨0, T_r01_Nat, r⟩] := by
  replace h := Leads.of h
  unfold r01_Add at h
  refine AC func43 rfl fun w0 F0 hw0 => ?_
  refine W_seq ?_
  refine R [] [(2, .box 0 T_r01_Nat p0), (3, .box 0 T_r01_Nat p1), (4, .box 9 T_r01_Nat ([] : List Int))] pz ?_
  refine W_seq ?_
  refine R [] [(2, .box 0 T_r01_Nat p0), (3, .box 0 T_r01_Nat p1), (4, .box 9 T_r01_Nat ([] : List Int)), (5, .v 9 (.slice (.int .i64)) ([] : List Int))] pz ?_
  refine W_seq ?_
  refine R [] [(2, .box 0 T_r01_Nat p0), (3, .box 0 T_r01_Nat p1), (4, .box 9 T_r01_Nat ([] : List Int)), (5, .v 9 (.slice (.int .i64)) ([] : List Int)), (6, .v 0 (.int .i64) (0 : Int))] pz ?_
  refine W_seq (W_seq ?_)
  refine R [] [(2, .box 0 T_r01_Nat p0), (3, .box 0 T_r01_Nat p1), (4, .box 9 T_r01_Nat ([] : List Int)), (5, .v 9 (.slice (.int .i64)) ([] : List Int)), (6, .v 0 (.int .i64) (0 : Int)), (7, .v 0 (.int .i64) (0 : Int))] pz ?_
  refine J1 h r01_Add_j1 (fun x1 => [(4, .box 9 T_r01_Nat ([] : List Int)), (5, .v 9 (.slice (.int .i64)) x1)]) (fun x1 h => ?_) fun j1 => ?_
  · unfold r01_Add_j1 at h
    refine W_seq ?_
    refine K (E' := [(4, .box 9 T_r01_Nat ([] : List Int)), (5, .v 0 (.slice (.int .i64)) x1)]) ?_
    obtain ⟨y2, ey2, h⟩ := h.bind
    refine R [.res [(0, ⟨0, T_r01_Nat, y2⟩)]] [(4, .box 0 T_r01_Nat y2)] (ps (r01_Cut.ok ey2)) ?_
    cases h
    exact Rt hw0
  refine W_block ?_
  refine L3 h (fun x3 x4 x5 => [(2, .box 0 T_r01_Nat p0), (3, .box 0 T_r01_Nat p1), (4, .box 9 T_r01_Nat ([] : List Int)), (5, .v 9 (.slice (.int .i64)) x3), (6, .v 0 (.int .i64) x4), (7, .v 0 (.int .i64) x5)]) fun x3 x4 x5 _ h => ?_
  unfold r01_Add_b1 at h
  refine W_seq (W_seq ?_)
  refine R [] [(2, .box 0 T_r01_Nat p0), (3, .box 0 T_r01_Nat p1), (4, .box 9 T_r01_Nat ([] : List Int)), (5, .v 9 (.slice (.int .i64)) x3), (6, .v 0 (.int .i64) x4), (7, .v 0 (.int .i64) x5), (24, .v 0 .bool (((decide (x5 < (p0.length : Int))) || (decide (x5 < (p1.length : Int)))) || (decide (x4 > 0))))] pz ?_
  refine C h (fun h => ?_) fun h => ?_
  · refine W_skip (W_seq (W_block (W_seq ?_)))
    obtain ⟨y6, ey6, h⟩ := h.bind
    obtain ⟨y7, ey7, h⟩ := h.bind
    refine R1 h [.res [(0, ⟨0, .int .i64, y6⟩)], .res [(0, ⟨0, .int .i64, y7⟩)]] (fun x8 => [(2, .box 0 T_r01_Nat p0), (3, .box 0 T_r01_Nat p1), (4, .box 9 T_r01_Nat ([] : List Int)), (5, .v 9 (.slice (.int .i64)) x3), (7, .v 0 (.int .i64) x5), (8, .v 0 (.int .i64) x8)]) (pc (r01_digit.ok ey6) (ps (r01_digit.ok ey7))) fun x8 h => ?_
    refine W_seq ?_
    obtain ⟨o1, h⟩ := h.ass
    obtain ⟨o2, h⟩ := h.ass
    refine R1 h [] (fun x9 => [(2, .box 0 T_r01_Nat p0), (3, .box 0 T_r01_Nat p1), (4, .box 9 T_r01_Nat ([] : List Int)), (5, .v 9 (.slice (.int .i64)) x9), (7, .v 0 (.int .i64) x5), (8, .v 0 (.int .i64) x8)]) (pc o1 (ps o2)) fun x9 h => ?_
    obtain ⟨o1, h⟩ := h.ass
    refine R1 h [] (fun x10 => [(2, .box 0 T_r01_Nat p0), (3, .box 0 T_r01_Nat p1), (4, .box 9 T_r01_Nat ([] : List Int)), (5, .v 9 (.slice (.int .i64)) x9), (6, .v 0 (.int .i64) x10), (7, .v 0 (.int .i64) x5)]) (ps o1) fun x10 h => ?_
    refine W_blk ?_
    refine R1 h [] (fun x11 => [(2, .box 0 T_r01_Nat p0), (3, .box 0 T_r01_Nat p1), (4, .box 9 T_r01_Nat ([] : List Int)), (5, .v 9 (.slice (.int .i64)) x9), (6, .v 0 (.int .i64) x10), (7, .v 0 (.int .i64) x11)]) pz fun x11 h => ?_
    exact B h
  refine W_exit rfl ?_
  exact K (j1 x3 h.back)

def r03_Parse_j1 (p0 : ByteArray) (x1 : D_r01_Nat) : Option (D_r01_Nat × Int) :=
  ass (((!((p0.size : Int) == 0)) && (decide ((p0.size : Int) > 1))) = true → 0 ≤ (0 : Int) ∧ (0 : Int) < (p0.size : Int)) <|
  bif ((p0.size : Int) == 0) || ((decide ((p0.size : Int) > 1)) && ((bt p0 (0 : Int)) == 48)) then
    some (([] : List Int), (3 : Int))
  else
  some (x1, (0 : Int))
def r03_Parse_b1 (p0 : ByteArray) (x2 : D_r01_Nat) (x3 : Int) : Option ((D_r01_Nat × Int) ⊕ (D_r01_Nat × Int)) :=
  bif decide (x3 < (p0.size : Int)) then
    ass (0 ≤ x3 ∧ x3 < (p0.size : Int)) <|
    ass ((!(decide ((bt p0 x3) < 48))) = true → 0 ≤ x3 ∧ x3 < (p0.size : Int)) <|
    bif (decide ((bt p0 x3) < 48)) || (decide ((bt p0 x3) > 57)) then
      some (.inr (([] : List Int), (3 : Int)))
    else
    (r01_Of (10 : Int)).bind fun y4 =>
    (r01_Mul x2 y4).bind fun y5 =>
    ass (0 ≤ x3 ∧ x3 < (p0.size : Int)) <|
    (r01_Of (u64.wrap (u8.wrap ((bt p0 x3) - 48)))).bind fun y6 =>
    (r01_Add y5 y6).bind fun y7 =>
    bnd (i64.wrap (x3 + 1)) fun x8 =>
    some (.inl (y7, x8))
  else
  (r03_Parse_j1 p0 x2).map .inr
def r03_Parse (p0 : ByteArray) : Option (D_r01_Nat × Int) :=
  bif decide ((p0.size : Int) > 4096) then
    some (([] : List Int), (5 : Int))
  else
  loopM (fun x : D_r01_Nat × Int => r03_Parse_b1 p0 x.1 x.2) (([] : List Int), (0 : Int))
theorem r03_Parse.ok {p0 : ByteArray} {r : D_r01_Nat × Int} (h : r03_Parse p0 = some r) : ACall prog 22 [⟨.str, p0⟩] [⟨0, T_r01_Nat, r.1⟩, ⟨0, .int .i64, r.2⟩] := by
  replace h := Leads.of h
  unfold r03_Parse at h
  refine AC func22 rfl fun w0 F0 hw0 => ?_
  refine W_seq ?_
  refine R [] [(0, .v 0 .str p0), (2, .box 9 T_r01_Nat ([] : List Int))] pz ?_
  refine W_seq (W_seq ?_)
  refine R [] [(0, .v 0 .str p0), (2, .box 9 T_r01_Nat ([] : List Int)), (8, .v 0 .bool (decide ((p0.size : Int) > 4096)))] pz ?_
  refine C h (fun h => ?_) fun h => ?_
  · refine W_seq ?_
    refine R [] [(2, .box 0 T_r01_Nat ([] : List Int)), (3, .v 0 (.int .i64) (5 : Int))] pz ?_
    cases h
    exact Rt hw0
  refine W_skip (W_seq ?_)
  refine R [] [(0, .v 0 .str p0), (2, .box 9 T_r01_Nat ([] : List Int)), (4, .box 0 T_r01_Nat ([] : List Int))] pz ?_
  refine W_seq (W_seq ?_)
  refine R [] [(0, .v 0 .str p0), (2, .box 9 T_r01_Nat ([] : List Int)), (4, .box 0 T_r01_Nat ([] : List Int)), (5, .v 0 (.int .i64) (0 : Int))] pz ?_
  refine J1 h (r03_Parse_j1 p0) (fun x1 => [(0, .v 0 .str p0), (2, .box 9 T_r01_Nat ([] : List Int)), (4, .box 0 T_r01_Nat x1)]) (fun x1 h => ?_) fun j1 => ?_
  · unfold r03_Parse_j1 at h
    refine W_seq (W_seq ?_)
    obtain ⟨o1, h⟩ := h.ass
    refine R [] [(2, .box 9 T_r01_Nat ([] : List Int)), (4, .box 0 T_r01_Nat x1), (50, .v 0 .bool (((p0.size : Int) == 0) || ((decide ((p0.size : Int) > 1)) && ((bt p0 (0 : Int)) == 48))))] (ps o1) ?_
    refine C h (fun h => ?_) fun h => ?_
    · refine W_seq ?_
      refine R [] [(2, .box 0 T_r01_Nat ([] : List Int)), (3, .v 0 (.int .i64) (3 : Int))] pz ?_
      cases h
      exact Rt hw0
    refine W_skip (W_seq ?_)
    refine R [] [(2, .box 0 T_r01_Nat x1), (3, .v 0 (.int .i64) (0 : Int))] pz ?_
    cases h
    exact Rt hw0
  refine W_block ?_
  refine L2 h (fun x2 x3 => [(0, .v 0 .str p0), (2, .box 9 T_r01_Nat ([] : List Int)), (4, .box 0 T_r01_Nat x2), (5, .v 0 (.int .i64) x3)]) fun x2 x3 _ h => ?_
  unfold r03_Parse_b1 at h
  refine W_seq (W_seq ?_)
  refine R [] [(0, .v 0 .str p0), (2, .box 9 T_r01_Nat ([] : List Int)), (4, .box 0 T_r01_Nat x2), (5, .v 0 (.int .i64) x3), (14, .v 0 .bool (decide (x3 < (p0.size : Int))))] pz ?_
  refine C h (fun h => ?_) fun h => ?_
  · refine W_skip (W_seq (W_block (W_seq (W_seq ?_))))
    obtain ⟨o1, h⟩ := h.ass
    obtain ⟨o2, h⟩ := h.ass
    refine R [] [(0, .v 0 .str p0), (2, .box 9 T_r01_Nat ([] : List Int)), (4, .box 0 T_r01_Nat x2), (5, .v 0 (.int .i64) x3), (26, .v 0 .bool ((decide ((bt p0 x3) < 48)) || (decide ((bt p0 x3) > 57))))] (pc o1 (ps o2)) ?_
    refine C h (fun h => ?_) fun h => ?_
    · refine W_seq ?_
      refine R [] [(2, .box 0 T_r01_Nat ([] : List Int)), (3, .v 0 (.int .i64) (3 : Int))] pz ?_
      cases h
      exact Rt hw0
    refine W_skip ?_
    obtain ⟨y4, ey4, h⟩ := h.bind
    obtain ⟨y5, ey5, h⟩ := h.bind
    obtain ⟨o1, h⟩ := h.ass
    obtain ⟨y6, ey6, h⟩ := h.bind
    obtain ⟨y7, ey7, h⟩ := h.bind
    refine R [.res [(0, ⟨0, T_r01_Nat, y4⟩)], .res [(0, ⟨0, T_r01_Nat, y5⟩)], .res [(0, ⟨0, T_r01_Nat, y6⟩)], .res [(0, ⟨0, T_r01_Nat, y7⟩)]] [(0, .v 0 .str p0), (2, .box 9 T_r01_Nat ([] : List Int)), (4, .box 0 T_r01_Nat y7), (5, .v 0 (.int .i64) x3)] (pc (r01_Of.ok ey4) (pc (r01_Mul.ok ey5) (pc o1 (pc (r01_Of.ok ey6) (ps (r01_Add.ok ey7)))))) ?_
    refine W_blk ?_
    refine R1 h [] (fun x8 => [(0, .v 0 .str p0), (2, .box 9 T_r01_Nat ([] : List Int)), (4, .box 0 T_r01_Nat y7), (5, .v 0 (.int .i64) x8)]) pz fun x8 h => ?_
    exact B h
  refine W_exit rfl ?_
  exact K (j1 x2 h.back)

def r01_Cmp_j2 : Option (Int) :=
  some (0 : Int)
def r01_Cmp_b1 (p0 : D_r01_Nat) (p1 : D_r01_Nat) (x3 : Int) : Option (Int ⊕ Int) :=
  bif decide (x3 ≥ 0) then
    (r01_digit p0 x3).bind fun y4 =>
    (r01_digit p1 x3).bind fun y5 =>
    bif decide (y4 < y5) then
      some (.inr (-1 : Int))
    else
    (r01_digit p0 x3).bind fun y6 =>
    (r01_digit p1 x3).bind fun y7 =>
    bif decide (y6 > y7) then
      some (.inr (1 : Int))
    else
    bnd (i64.wrap (x3 - 1)) fun x8 =>
    some (.inl x8)
  else
  (r01_Cmp_j2).map .inr
def r01_Cmp_j1 (p0 : D_r01_Nat) (p1 : D_r01_Nat) (x1 : Int) : Option (Int) :=
  bnd (i64.wrap (x1 - 1)) fun x2 =>
  loopM (fun x : Int => r01_Cmp_b1 p0 p1 x) x2
def r01_Cmp (p0 : D_r01_Nat) (p1 : D_r01_Nat) : Option Int :=
  bif decide ((p1.length : Int) > (p0.length : Int)) then
    r01_Cmp_j1 p0 p1 (p1.length : Int)
  else
  r01_Cmp_j1 p0 p1 (p0.length : Int)
theorem r01_Cmp.ok {p0 : D_r01_Nat} {p1 : D_r01_Nat} {r : Int} (h : r01_Cmp p0 p1 = some r) : ACall prog 24 [⟨T_r01_Nat, p0⟩, ⟨T_r01_Nat, p1⟩] [⟨0, .int .i64, r⟩] := by
  replace h := Leads.of h
  unfold r01_Cmp at h
  refine AC func24 rfl fun w0 F0 hw0 => ?_
  refine W_seq ?_
  refine R [] [(2, .box 0 T_r01_Nat p0), (3, .box 0 T_r01_Nat p1)] pz ?_
  refine W_seq ?_
  refine R [] [(2, .box 0 T_r01_Nat p0), (3, .box 0 T_r01_Nat p1), (5, .v 0 (.int .i64) (p0.length : Int))] pz ?_
  refine W_seq (W_seq ?_)
  refine R [] [(2, .box 0 T_r01_Nat p0), (3, .box 0 T_r01_Nat p1), (5, .v 0 (.int .i64) (p0.length : Int)), (14, .v 0 .bool (decide ((p1.length : Int) > (p0.length : Int))))] pz ?_
  refine J1 h (r01_Cmp_j1 p0 p1) (fun x1 => [(2, .box 0 T_r01_Nat p0), (3, .box 0 T_r01_Nat p1), (5, .v 0 (.int .i64) x1)]) (fun x1 h => ?_) fun j1 => ?_
  · unfold r01_Cmp_j1 at h
    refine W_seq (W_seq ?_)
    refine R1 h [] (fun x2 => [(2, .box 0 T_r01_Nat p0), (3, .box 0 T_r01_Nat p1), (6, .v 0 (.int .i64) x2)]) pz fun x2 h => ?_
    refine J0 h r01_Cmp_j2 ([]) (fun h => ?_) fun j2 => ?_
    · unfold r01_Cmp_j2 at h
      refine W_seq ?_
      refine R [] [(4, .v 0 (.int .i64) (0 : Int))] pz ?_
      cases h
      exact Rt hw0
    refine W_block ?_
    refine L1 h (fun x3 => [(2, .box 0 T_r01_Nat p0), (3, .box 0 T_r01_Nat p1), (6, .v 0 (.int .i64) x3)]) fun x3 _ h => ?_
    unfold r01_Cmp_b1 at h
    refine W_seq (W_seq ?_)
    refine R [] [(2, .box 0 T_r01_Nat p0), (3, .box 0 T_r01_Nat p1), (6, .v 0 (.int .i64) x3), (21, .v 0 .bool (decide (x3 ≥ 0)))] pz ?_
    refine C h (fun h => ?_) fun h => ?_
    · refine W_skip (W_seq (W_block (W_seq (W_seq ?_))))
      obtain ⟨y4, ey4, h⟩ := h.bind
      obtain ⟨y5, ey5, h⟩ := h.bind
      refine R [.res [(0, ⟨0, .int .i64, y4⟩)], .res [(0, ⟨0, .int .i64, y5⟩)]] [(2, .box 0 T_r01_Nat p0), (3, .box 0 T_r01_Nat p1), (6, .v 0 (.int .i64) x3), (30, .v 0 .bool (decide (y4 < y5)))] (pc (r01_digit.ok ey4) (ps (r01_digit.ok ey5))) ?_
      refine C h (fun h => ?_) fun h => ?_
      · refine W_seq ?_
        refine R [] [(4, .v 0 (.int .i64) (-1 : Int))] pz ?_
        cases h
        exact Rt hw0
      refine W_skip (W_seq ?_)
      obtain ⟨y6, ey6, h⟩ := h.bind
      obtain ⟨y7, ey7, h⟩ := h.bind
      refine R [.res [(0, ⟨0, .int .i64, y6⟩)], .res [(0, ⟨0, .int .i64, y7⟩)]] [(2, .box 0 T_r01_Nat p0), (3, .box 0 T_r01_Nat p1), (6, .v 0 (.int .i64) x3), (37, .v 0 .bool (decide (y6 > y7)))] (pc (r01_digit.ok ey6) (ps (r01_digit.ok ey7))) ?_
      refine C h (fun h => ?_) fun h => ?_
      · refine W_seq ?_
        refine R [] [(4, .v 0 (.int .i64) (1 : Int))] pz ?_
        cases h
        exact Rt hw0
      refine W_skip (W_blk ?_)
      refine R1 h [] (fun x8 => [(2, .box 0 T_r01_Nat p0), (3, .box 0 T_r01_Nat p1), (6, .v 0 (.int .i64) x8)]) pz fun x8 h => ?_
      exact B h
    refine W_exit rfl ?_
    exact K (j2 h.back)
  refine C h (fun h => ?_) fun h => ?_
  · refine R [] [(2, .box 0 T_r01_Nat p0), (3, .box 0 T_r01_Nat p1), (5, .v 0 (.int .i64) (p1.length : Int))] pz ?_
    exact K (j1 (p1.length : Int) h)
  refine W_skip ?_
  exact K (j1 (p0.length : Int) h)

def r01_Sub_j1 (x1 : List Int) : Option (D_r01_Nat) :=
  (r01_Cut x1).bind fun y2 =>
  some y2
def r01_Sub_j2 (x3 : List Int) (x5 : Int) (x9 : Int) (x10 : Int) : Option (((List Int) × Int × Int) ⊕ D_r01_Nat) :=
  ass (((x3.length + [x10].length : Nat) : Int) ≤ limA) <|
  bnd (x3 ++ [x10]) fun x11 =>
  bnd (i64.wrap (x5 + 1)) fun x12 =>
  some (.inl (x11, x9, x12))
def r01_Sub_b1 (p0 : D_r01_Nat) (p1 : D_r01_Nat) (x3 : List Int) (x4 : Int) (x5 : Int) : Option (((List Int) × Int × Int) ⊕ D_r01_Nat) :=
  bif decide (x5 < (p0.length : Int)) then
    (r01_digit p0 x5).bind fun y6 =>
    (r01_digit p1 x5).bind fun y7 =>
    bnd (i64.wrap ((i64.wrap (y6 - y7)) - x4)) fun x8 =>
    bif decide (x8 < 0) then
      bnd (i64.wrap (x8 + 65536)) fun x13 =>
      r01_Sub_j2 x3 x5 (1 : Int) x13
    else
    r01_Sub_j2 x3 x5 (0 : Int) x8
  else
  (r01_Sub_j1 x3).map .inr
def r01_Sub (p0 : D_r01_Nat) (p1 : D_r01_Nat) : Option D_r01_Nat :=
  loopM (fun x : (List Int) × Int × Int => r01_Sub_b1 p0 p1 x.1 x.2.1 x.2.2) (([] : List Int), (0 : Int), (0 : Int))
theorem r01_Sub.ok {p0 : D_r01_Nat} {p1 : D_r01_Nat} {r : D_r01_Nat} (h : r01_Sub p0 p1 = some r) : ACall prog 67 [⟨T_r01_Nat, p0⟩, ⟨T_r01_Nat, p1⟩] [⟨0, T_r01_Nat, r⟩] := by
  replace h := Leads.of h
  unfold r01_Sub at h
  refine AC func67 rfl fun w0 F0 hw0 => ?_
  refine W_seq ?_
  refine R [] [(2, .box 0 T_r01_Nat p0), (3, .box 0 T_r01_Nat p1), (4, .box 9 T_r01_Nat ([] : List Int))] pz ?_
  refine W_seq ?_
  refine R [] [(2, .box 0 T_r01_Nat p0), (3, .box 0 T_r01_Nat p1), (4, .box 9 T_r01_Nat ([] : List Int)), (5, .v 9 (.slice (.int .i64)) ([] : List Int))] pz ?_
  refine W_seq ?_
  refine R [] [(2, .box 0 T_r01_Nat p0), (3, .box 0 T_r01_Nat p1), (4, .box 9 T_r01_Nat ([] : List Int)), (5, .v 9 (.slice (.int .i64)) ([] : List Int)), (6, .v 0 (.int .i64) (0 : Int))] pz ?_
  refine W_seq (W_seq ?_)
  refine R [] [(2, .box 0 T_r01_Nat p0), (3, .box 0 T_r01_Nat p1), (4, .box 9 T_r01_Nat ([] : List Int)), (5, .v 9 (.slice (.int .i64)) ([] : List Int)), (6, .v 0 (.int .i64) (0 : Int)), (7, .v 0 (.int .i64) (0 : Int))] pz ?_
  refine J1 h r01_Sub_j1 (fun x1 => [(4, .box 9 T_r01_Nat ([] : List Int)), (5, .v 9 (.slice (.int .i64)) x1)]) (fun x1 h => ?_) fun j1 => ?_
  · unfold r01_Sub_j1 at h
    refine W_seq ?_
    refine K (E' := [(4, .box 9 T_r01_Nat ([] : List Int)), (5, .v 0 (.slice (.int .i64)) x1)]) ?_
    obtain ⟨y2, ey2, h⟩ := h.bind
    refine R [.res [(0, ⟨0, T_r01_Nat, y2⟩)]] [(4, .box 0 T_r01_Nat y2)] (ps (r01_Cut.ok ey2)) ?_
    cases h
    exact Rt hw0
  refine W_block ?_
  refine L3 h (fun x3 x4 x5 => [(2, .box 0 T_r01_Nat p0), (3, .box 0 T_r01_Nat p1), (4, .box 9 T_r01_Nat ([] : List Int)), (5, .v 9 (.slice (.int .i64)) x3), (6, .v 0 (.int .i64) x4), (7, .v 0 (.int .i64) x5)]) fun x3 x4 x5 _ h => ?_
  unfold r01_Sub_b1 at h
  refine W_seq (W_seq ?_)
  refine R [] [(2, .box 0 T_r01_Nat p0), (3, .box 0 T_r01_Nat p1), (4, .box 9 T_r01_Nat ([] : List Int)), (5, .v 9 (.slice (.int .i64)) x3), (6, .v 0 (.int .i64) x4), (7, .v 0 (.int .i64) x5), (13, .v 0 .bool (decide (x5 < (p0.length : Int))))] pz ?_
  refine C h (fun h => ?_) fun h => ?_
  · refine W_skip (W_seq (W_block (W_seq ?_)))
    obtain ⟨y6, ey6, h⟩ := h.bind
    obtain ⟨y7, ey7, h⟩ := h.bind
    refine R1 h [.res [(0, ⟨0, .int .i64, y6⟩)], .res [(0, ⟨0, .int .i64, y7⟩)]] (fun x8 => [(2, .box 0 T_r01_Nat p0), (3, .box 0 T_r01_Nat p1), (4, .box 9 T_r01_Nat ([] : List Int)), (5, .v 9 (.slice (.int .i64)) x3), (7, .v 0 (.int .i64) x5), (8, .v 0 (.int .i64) x8)]) (pc (r01_digit.ok ey6) (ps (r01_digit.ok ey7))) fun x8 h => ?_
    refine W_seq ?_
    refine R [] [(2, .box 0 T_r01_Nat p0), (3, .box 0 T_r01_Nat p1), (4, .box 9 T_r01_Nat ([] : List Int)), (5, .v 9 (.slice (.int .i64)) x3), (6, .v 0 (.int .i64) (0 : Int)), (7, .v 0 (.int .i64) x5), (8, .v 0 (.int .i64) x8)] pz ?_
    refine W_seq (W_seq ?_)
    refine R [] [(2, .box 0 T_r01_Nat p0), (3, .box 0 T_r01_Nat p1), (4, .box 9 T_r01_Nat ([] : List Int)), (5, .v 9 (.slice (.int .i64)) x3), (6, .v 0 (.int .i64) (0 : Int)), (7, .v 0 (.int .i64) x5), (8, .v 0 (.int .i64) x8), (26, .v 0 .bool (decide (x8 < 0)))] pz ?_
    refine J2 h (r01_Sub_j2 x3 x5) (fun x9 x10 => [(2, .box 0 T_r01_Nat p0), (3, .box 0 T_r01_Nat p1), (4, .box 9 T_r01_Nat ([] : List Int)), (5, .v 9 (.slice (.int .i64)) x3), (6, .v 0 (.int .i64) x9), (7, .v 0 (.int .i64) x5), (8, .v 0 (.int .i64) x10)]) (fun x9 x10 h => ?_) fun j2 => ?_
    · unfold r01_Sub_j2 at h
      obtain ⟨o1, h⟩ := h.ass
      refine R1 h [] (fun x11 => [(2, .box 0 T_r01_Nat p0), (3, .box 0 T_r01_Nat p1), (4, .box 9 T_r01_Nat ([] : List Int)), (5, .v 9 (.slice (.int .i64)) x11), (6, .v 0 (.int .i64) x9), (7, .v 0 (.int .i64) x5)]) (ps o1) fun x11 h => ?_
      refine W_blk ?_
      refine R1 h [] (fun x12 => [(2, .box 0 T_r01_Nat p0), (3, .box 0 T_r01_Nat p1), (4, .box 9 T_r01_Nat ([] : List Int)), (5, .v 9 (.slice (.int .i64)) x11), (6, .v 0 (.int .i64) x9), (7, .v 0 (.int .i64) x12)]) pz fun x12 h => ?_
      exact B h
    refine C h (fun h => ?_) fun h => ?_
    · refine W_seq ?_
      refine R1 h [] (fun x13 => [(2, .box 0 T_r01_Nat p0), (3, .box 0 T_r01_Nat p1), (4, .box 9 T_r01_Nat ([] : List Int)), (5, .v 9 (.slice (.int .i64)) x3), (7, .v 0 (.int .i64) x5), (8, .v 0 (.int .i64) x13)]) pz fun x13 h => ?_
      refine R [] [(2, .box 0 T_r01_Nat p0), (3, .box 0 T_r01_Nat p1), (4, .box 9 T_r01_Nat ([] : List Int)), (5, .v 9 (.slice (.int .i64)) x3), (6, .v 0 (.int .i64) (1 : Int)), (7, .v 0 (.int .i64) x5), (8, .v 0 (.int .i64) x13)] pz ?_
      exact K (j2 (1 : Int) x13 h)
    refine W_skip ?_
    exact K (j2 (0 : Int) x8 h)
  refine W_exit rfl ?_
  exact K (j1 x3 h.back)

def r01_Div_j1 (x3 : List Int) (x4 : D_r01_Nat) : Option (D_r01_Nat × D_r01_Nat) :=
  (r01_Cut x3).bind fun y5 =>
  some (y5, x4)
def r01_Div_j2 (x8 : Int) (x9 : List Int) (x10 : D_r01_Nat) : Option (((List Int) × D_r01_Nat × Int) ⊕ (D_r01_Nat × D_r01_Nat)) :=
  bnd (i64.wrap (x8 - 1)) fun x11 =>
  some (.inl (x9, x10, x11))
def r01_Div_j3 (p1 : D_r01_Nat) (x6 : List Int) (x8 : Int) (y12 : D_r01_Nat) (x13 : Int) : Option (((List Int) × D_r01_Nat × Int) ⊕ (D_r01_Nat × D_r01_Nat)) :=
  ass (0 ≤ x8 ∧ x8 < (x6.length : Int)) <|
  bnd (wr x6 x8 x13) fun x14 =>
  (r01_Of (u64.wrap x13)).bind fun y15 =>
  (r01_Mul p1 y15).bind fun y16 =>
  (r01_Sub y12 y16).bind fun y17 =>
  r01_Div_j2 x8 x14 y17
def r01_Div_b2 (p1 : D_r01_Nat) (x6 : List Int) (x8 : Int) (y12 : D_r01_Nat) (x18 : Int) (x19 : Int) : Option ((Int × Int) ⊕ (((List Int) × D_r01_Nat × Int) ⊕ (D_r01_Nat × D_r01_Nat))) :=
  bif decide (x18 < x19) then
    ass ((2 : Int) ≠ 0) <|
    bnd (i64.wrap ((i64.wrap ((i64.wrap (x18 + x19)) + 1)).tdiv 2)) fun x20 =>
    (r01_Of (u64.wrap x20)).bind fun y21 =>
    (r01_Mul p1 y21).bind fun y22 =>
    (r01_Cmp y22 y12).bind fun y23 =>
    bif decide (y23 ≤ 0) then
      some (.inl (x20, x19))
    else
    bnd (i64.wrap (x20 - 1)) fun x24 =>
    some (.inl (x18, x24))
  else
  (r01_Div_j3 p1 x6 x8 y12 x18).map .inr
def r01_Div_b1 (p0 : D_r01_Nat) (p1 : D_r01_Nat) (x6 : List Int) (x7 : D_r01_Nat) (x8 : Int) : Option (((List Int) × D_r01_Nat × Int) ⊕ (D_r01_Nat × D_r01_Nat)) :=
  bif decide (x8 ≥ 0) then
    ass (0 ≤ x8 ∧ x8 < (p0.length : Int)) <|
    ass ((([rd (0 : Int) p0 x8].length + x7.length : Nat) : Int) ≤ limA) <|
    (r01_Cut ([rd (0 : Int) p0 x8] ++ x7)).bind fun y12 =>
    loopM (fun x : Int × Int => r01_Div_b2 p1 x6 x8 y12 x.1 x.2) ((0 : Int), (65535 : Int))
  else
  (r01_Div_j1 x6 x7).map .inr
def r01_Div (p0 : D_r01_Nat) (p1 : D_r01_Nat) : Option (D_r01_Nat × D_r01_Nat) :=
  ass (0 ≤ (p0.length : Int) ∧ (p0.length : Int) ≤ (p0.length : Int) ∧ (p0.length : Int) ≤ lim) <|
  bnd (List.replicate (p0.length : Int).toNat (0 : Int)) fun x1 =>
  bnd (i64.wrap ((p0.length : Int) - 1)) fun x2 =>
  loopM (fun x : (List Int) × D_r01_Nat × Int => r01_Div_b1 p0 p1 x.1 x.2.1 x.2.2) (x1, ([] : List Int), x2)
theorem r01_Div.ok {p0 : D_r01_Nat} {p1 : D_r01_Nat} {r : D_r01_Nat × D_r01_Nat} (h : r01_Div p0 p1 = some r) : ACall prog 46 [⟨T_r01_Nat, p0⟩, ⟨T_r01_Nat, p1⟩] [⟨0, T_r01_Nat, r.1⟩, ⟨0, T_r01_Nat, r.2⟩] := by
  replace h := Leads.of h
  unfold r01_Div at h
  refine AC func46 rfl fun w0 F0 hw0 => ?_
  refine W_seq ?_
  refine R [] [(2, .box 0 T_r01_Nat p0), (3, .box 0 T_r01_Nat p1), (4, .box 9 T_r01_Nat ([] : List Int)), (5, .box 9 T_r01_Nat ([] : List Int))] pz ?_
  refine W_seq ?_
  obtain ⟨o1, h⟩ := h.ass
  refine R1 h [] (fun x1 => [(2, .box 0 T_r01_Nat p0), (3, .box 0 T_r01_Nat p1), (4, .box 9 T_r01_Nat ([] : List Int)), (5, .box 9 T_r01_Nat ([] : List Int)), (6, .v 9 (.slice (.int .i64)) x1)]) (ps o1) fun x1 h => ?_
  refine W_seq ?_
  refine R [] [(2, .box 0 T_r01_Nat p0), (3, .box 0 T_r01_Nat p1), (4, .box 9 T_r01_Nat ([] : List Int)), (5, .box 9 T_r01_Nat ([] : List Int)), (6, .v 9 (.slice (.int .i64)) x1), (7, .box 0 T_r01_Nat ([] : List Int))] pz ?_
  refine W_seq (W_seq ?_)
  refine R1 h [] (fun x2 => [(2, .box 0 T_r01_Nat p0), (3, .box 0 T_r01_Nat p1), (4, .box 9 T_r01_Nat ([] : List Int)), (5, .box 9 T_r01_Nat ([] : List Int)), (6, .v 9 (.slice (.int .i64)) x1), (7, .box 0 T_r01_Nat ([] : List Int)), (8, .v 0 (.int .i64) x2)]) pz fun x2 h => ?_
  refine J2 h r01_Div_j1 (fun x3 x4 => [(4, .box 9 T_r01_Nat ([] : List Int)), (5, .box 9 T_r01_Nat ([] : List Int)), (6, .v 9 (.slice (.int .i64)) x3), (7, .box 0 T_r01_Nat x4)]) (fun x3 x4 h => ?_) fun j1 => ?_
  · unfold r01_Div_j1 at h
    refine W_seq ?_
    refine K (E' := [(4, .box 9 T_r01_Nat ([] : List Int)), (5, .box 9 T_r01_Nat ([] : List Int)), (6, .v 0 (.slice (.int .i64)) x3), (7, .box 0 T_r01_Nat x4)]) ?_
    obtain ⟨y5, ey5, h⟩ := h.bind
    refine RL [.res [(0, ⟨0, T_r01_Nat, y5⟩)]] [(4, .box 0 T_r01_Nat y5), (5, .box 0 T_r01_Nat x4)] (pc (r01_Cut.ok ey5) (ps (rfl : (⟨T_r01_Nat, x4⟩ : TV) = ⟨T_r01_Nat, x4⟩))) ?_
    cases h
    exact Rt hw0
  refine W_block ?_
  refine L3 h (fun x6 x7 x8 => [(2, .box 0 T_r01_Nat p0), (3, .box 0 T_r01_Nat p1), (4, .box 9 T_r01_Nat ([] : List Int)), (5, .box 9 T_r01_Nat ([] : List Int)), (6, .v 9 (.slice (.int .i64)) x6), (7, .box 0 T_r01_Nat x7), (8, .v 0 (.int .i64) x8)]) fun x6 x7 x8 _ h => ?_
  unfold r01_Div_b1 at h
  refine W_seq (W_seq ?_)
  refine R [] [(2, .box 0 T_r01_Nat p0), (3, .box 0 T_r01_Nat p1), (4, .box 9 T_r01_Nat ([] : List Int)), (5, .box 9 T_r01_Nat ([] : List Int)), (6, .v 9 (.slice (.int .i64)) x6), (7, .box 0 T_r01_Nat x7), (8, .v 0 (.int .i64) x8), (22, .v 0 .bool (decide (x8 ≥ 0)))] pz ?_
  refine C h (fun h => ?_) fun h => ?_
  · refine W_skip (W_seq ?_)
    refine J2 h (r01_Div_j2 x8) (fun x9 x10 => [(2, .box 0 T_r01_Nat p0), (3, .box 0 T_r01_Nat p1), (4, .box 9 T_r01_Nat ([] : List Int)), (5, .box 9 T_r01_Nat ([] : List Int)), (6, .v 9 (.slice (.int .i64)) x9), (7, .box 0 T_r01_Nat x10), (8, .v 0 (.int .i64) x8)]) (fun x9 x10 h => ?_) fun j2 => ?_
    · unfold r01_Div_j2 at h
      refine R1 h [] (fun x11 => [(2, .box 0 T_r01_Nat p0), (3, .box 0 T_r01_Nat p1), (4, .box 9 T_r01_Nat ([] : List Int)), (5, .box 9 T_r01_Nat ([] : List Int)), (6, .v 9 (.slice (.int .i64)) x9), (7, .box 0 T_r01_Nat x10), (8, .v 0 (.int .i64) x11)]) pz fun x11 h => ?_
      exact B h
    refine W_block (W_seq ?_)
    obtain ⟨o1, h⟩ := h.ass
    obtain ⟨o2, h⟩ := h.ass
    obtain ⟨y12, ey12, h⟩ := h.bind
    refine R [.fz (some 34) 33 0, .res [(0, ⟨0, T_r01_Nat, y12⟩)]] [(2, .box 0 T_r01_Nat p0), (3, .box 0 T_r01_Nat p1), (4, .box 9 T_r01_Nat ([] : List Int)), (5, .box 9 T_r01_Nat ([] : List Int)), (6, .v 9 (.slice (.int .i64)) x6), (7, .box 0 T_r01_Nat y12), (8, .v 0 (.int .i64) x8)] (pc o1 (pc o2 (ps (r01_Cut.ok ey12)))) ?_
    refine W_seq ?_
    refine R [] [(2, .box 0 T_r01_Nat p0), (3, .box 0 T_r01_Nat p1), (4, .box 9 T_r01_Nat ([] : List Int)), (5, .box 9 T_r01_Nat ([] : List Int)), (6, .v 9 (.slice (.int .i64)) x6), (7, .box 0 T_r01_Nat y12), (8, .v 0 (.int .i64) x8), (9, .v 0 (.int .i64) (0 : Int))] pz ?_
    refine W_seq ?_
    refine R [] [(2, .box 0 T_r01_Nat p0), (3, .box 0 T_r01_Nat p1), (4, .box 9 T_r01_Nat ([] : List Int)), (5, .box 9 T_r01_Nat ([] : List Int)), (6, .v 9 (.slice (.int .i64)) x6), (7, .box 0 T_r01_Nat y12), (8, .v 0 (.int .i64) x8), (9, .v 0 (.int .i64) (0 : Int)), (10, .v 0 (.int .i64) (65535 : Int))] pz ?_
    refine W_seq ?_
    refine J1 h (r01_Div_j3 p1 x6 x8 y12) (fun x13 => [(2, .box 0 T_r01_Nat p0), (3, .box 0 T_r01_Nat p1), (4, .box 9 T_r01_Nat ([] : List Int)), (5, .box 9 T_r01_Nat ([] : List Int)), (6, .v 9 (.slice (.int .i64)) x6), (7, .box 0 T_r01_Nat y12), (8, .v 0 (.int .i64) x8), (9, .v 0 (.int .i64) x13)]) (fun x13 h => ?_) fun j3 => ?_
    · unfold r01_Div_j3 at h
      refine W_seq ?_
      obtain ⟨o1, h⟩ := h.ass
      refine R1 h [] (fun x14 => [(2, .box 0 T_r01_Nat p0), (3, .box 0 T_r01_Nat p1), (4, .box 9 T_r01_Nat ([] : List Int)), (5, .box 9 T_r01_Nat ([] : List Int)), (6, .v 9 (.slice (.int .i64)) x14), (7, .box 0 T_r01_Nat y12), (8, .v 0 (.int .i64) x8), (9, .v 0 (.int .i64) x13)]) (ps o1) fun x14 h => ?_
      obtain ⟨y15, ey15, h⟩ := h.bind
      obtain ⟨y16, ey16, h⟩ := h.bind
      obtain ⟨y17, ey17, h⟩ := h.bind
      refine R [.res [(0, ⟨0, T_r01_Nat, y15⟩)], .res [(0, ⟨0, T_r01_Nat, y16⟩)], .res [(0, ⟨0, T_r01_Nat, y17⟩)]] [(2, .box 0 T_r01_Nat p0), (3, .box 0 T_r01_Nat p1), (4, .box 9 T_r01_Nat ([] : List Int)), (5, .box 9 T_r01_Nat ([] : List Int)), (6, .v 9 (.slice (.int .i64)) x14), (7, .box 0 T_r01_Nat y17), (8, .v 0 (.int .i64) x8)] (pc (r01_Of.ok ey15) (pc (r01_Mul.ok ey16) (ps (r01_Sub.ok ey17)))) ?_
      refine W_blk ?_
      exact K (j2 x14 y17 h)
    refine W_block ?_
    refine L2 h (fun x18 x19 => [(2, .box 0 T_r01_Nat p0), (3, .box 0 T_r01_Nat p1), (4, .box 9 T_r01_Nat ([] : List Int)), (5, .box 9 T_r01_Nat ([] : List Int)), (6, .v 9 (.slice (.int .i64)) x6), (7, .box 0 T_r01_Nat y12), (8, .v 0 (.int .i64) x8), (9, .v 0 (.int .i64) x18), (10, .v 0 (.int .i64) x19)]) fun x18 x19 _ h => ?_
    unfold r01_Div_b2 at h
    refine W_seq (W_seq ?_)
    refine R [] [(2, .box 0 T_r01_Nat p0), (3, .box 0 T_r01_Nat p1), (4, .box 9 T_r01_Nat ([] : List Int)), (5, .box 9 T_r01_Nat ([] : List Int)), (6, .v 9 (.slice (.int .i64)) x6), (7, .box 0 T_r01_Nat y12), (8, .v 0 (.int .i64) x8), (9, .v 0 (.int .i64) x18), (10, .v 0 (.int .i64) x19), (37, .v 0 .bool (decide (x18 < x19)))] pz ?_
    refine C h (fun h => ?_) fun h => ?_
    · refine W_skip (W_block (W_seq ?_))
      obtain ⟨o1, h⟩ := h.ass
      refine R1 h [] (fun x20 => [(2, .box 0 T_r01_Nat p0), (3, .box 0 T_r01_Nat p1), (4, .box 9 T_r01_Nat ([] : List Int)), (5, .box 9 T_r01_Nat ([] : List Int)), (6, .v 9 (.slice (.int .i64)) x6), (7, .box 0 T_r01_Nat y12), (8, .v 0 (.int .i64) x8), (9, .v 0 (.int .i64) x18), (10, .v 0 (.int .i64) x19), (11, .v 0 (.int .i64) x20)]) (ps o1) fun x20 h => ?_
      refine W_seq ?_
      obtain ⟨y21, ey21, h⟩ := h.bind
      obtain ⟨y22, ey22, h⟩ := h.bind
      obtain ⟨y23, ey23, h⟩ := h.bind
      refine R [.res [(0, ⟨0, T_r01_Nat, y21⟩)], .res [(0, ⟨0, T_r01_Nat, y22⟩)], .res [(0, ⟨0, .int .i64, y23⟩)]] [(2, .box 0 T_r01_Nat p0), (3, .box 0 T_r01_Nat p1), (4, .box 9 T_r01_Nat ([] : List Int)), (5, .box 9 T_r01_Nat ([] : List Int)), (6, .v 9 (.slice (.int .i64)) x6), (7, .box 0 T_r01_Nat y12), (8, .v 0 (.int .i64) x8), (9, .v 0 (.int .i64) x18), (10, .v 0 (.int .i64) x19), (11, .v 0 (.int .i64) x20), (50, .v 0 .bool (decide (y23 ≤ 0)))] (pc (r01_Of.ok ey21) (pc (r01_Mul.ok ey22) (ps (r01_Cmp.ok ey23)))) ?_
      refine C h (fun h => ?_) fun h => ?_
      · refine R [] [(2, .box 0 T_r01_Nat p0), (3, .box 0 T_r01_Nat p1), (4, .box 9 T_r01_Nat ([] : List Int)), (5, .box 9 T_r01_Nat ([] : List Int)), (6, .v 9 (.slice (.int .i64)) x6), (7, .box 0 T_r01_Nat y12), (8, .v 0 (.int .i64) x8), (9, .v 0 (.int .i64) x20), (10, .v 0 (.int .i64) x19)] pz ?_
        refine W_blk ?_
        exact B h
      refine R1 h [] (fun x24 => [(2, .box 0 T_r01_Nat p0), (3, .box 0 T_r01_Nat p1), (4, .box 9 T_r01_Nat ([] : List Int)), (5, .box 9 T_r01_Nat ([] : List Int)), (6, .v 9 (.slice (.int .i64)) x6), (7, .box 0 T_r01_Nat y12), (8, .v 0 (.int .i64) x8), (9, .v 0 (.int .i64) x18), (10, .v 0 (.int .i64) x24)]) pz fun x24 h => ?_
      refine W_blk ?_
      exact B h
    refine W_exit rfl ?_
    exact K (j3 x18 h.back)
  refine W_exit rfl ?_
  exact K (j1 x6 x7 h.back)

def r03_Gcd_j1 (x1 : D_r01_Nat) : Option (D_r01_Nat) :=
  some x1
def r03_Gcd_b1 (x2 : D_r01_Nat) (x3 : D_r01_Nat) : Option ((D_r01_Nat × D_r01_Nat) ⊕ D_r01_Nat) :=
  bif decide ((x3.length : Int) > 0) then
    (r01_Div x2 x3).bind fun y4 =>
    some (.inl (x3, y4.2))
  else
  (r03_Gcd_j1 x2).map .inr
def r03_Gcd (p0 : D_r01_Nat) (p1 : D_r01_Nat) : Option D_r01_Nat :=
  loopM (fun x : D_r01_Nat × D_r01_Nat => r03_Gcd_b1 x.1 x.2) (p0, p1)
theorem r03_Gcd.ok {p0 : D_r01_Nat} {p1 : D_r01_Nat} {r : D_r01_Nat} (h : r03_Gcd p0 p1 = some r) : ACall prog 25 [⟨T_r01_Nat, p0⟩, ⟨T_r01_Nat, p1⟩] [⟨0, T_r01_Nat, r⟩] := by
  replace h := Leads.of h
  unfold r03_Gcd at h
  refine AC func25 rfl fun w0 F0 hw0 => ?_
  refine W_seq ?_
  refine R [] [(2, .box 0 T_r01_Nat p0), (3, .box 0 T_r01_Nat p1), (4, .box 9 T_r01_Nat ([] : List Int))] pz ?_
  refine W_seq ?_
  refine J1 h r03_Gcd_j1 (fun x1 => [(2, .box 0 T_r01_Nat x1), (4, .box 9 T_r01_Nat ([] : List Int))]) (fun x1 h => ?_) fun j1 => ?_
  · unfold r03_Gcd_j1 at h
    refine W_seq ?_
    refine R [] [(4, .box 0 T_r01_Nat x1)] pz ?_
    cases h
    exact Rt hw0
  refine W_block ?_
  refine L2 h (fun x2 x3 => [(2, .box 0 T_r01_Nat x2), (3, .box 0 T_r01_Nat x3), (4, .box 9 T_r01_Nat ([] : List Int))]) fun x2 x3 _ h => ?_
  unfold r03_Gcd_b1 at h
  refine W_seq (W_seq ?_)
  refine R [] [(2, .box 0 T_r01_Nat x2), (3, .box 0 T_r01_Nat x3), (4, .box 9 T_r01_Nat ([] : List Int)), (10, .v 0 .bool (decide ((x3.length : Int) > 0)))] pz ?_
  refine C h (fun h => ?_) fun h => ?_
  · refine W_skip (W_block (W_seq ?_))
    obtain ⟨y4, ey4, h⟩ := h.bind
    refine R [.res [(0, ⟨0, T_r01_Nat, y4.1⟩), (0, ⟨0, T_r01_Nat, y4.2⟩)]] [(2, .box 0 T_r01_Nat x2), (3, .box 0 T_r01_Nat x3), (4, .box 9 T_r01_Nat ([] : List Int)), (6, .box 0 T_r01_Nat y4.2)] (ps (r01_Div.ok ey4)) ?_
    refine W_seq ?_
    refine R [] [(2, .box 0 T_r01_Nat x3), (3, .box 0 T_r01_Nat x3), (4, .box 9 T_r01_Nat ([] : List Int)), (6, .box 0 T_r01_Nat y4.2)] pz ?_
    refine R [] [(2, .box 0 T_r01_Nat x3), (3, .box 0 T_r01_Nat y4.2), (4, .box 9 T_r01_Nat ([] : List Int))] pz ?_
    refine W_blk ?_
    exact B h
  refine W_exit rfl ?_
  exact K (j1 x2 h.back)

def r01_Word_j1 (x2 : Int) : Option (Int × Bool) :=
  some (x2, true)
def r01_Word_b1 (p0 : D_r01_Nat) (x3 : Int) (x4 : Int) : Option ((Int × Int) ⊕ (Int × Bool)) :=
  bif decide (x4 ≥ 0) then
    ass (0 ≤ x4 ∧ x4 < (p0.length : Int)) <|
    bnd (u64.wrap ((u64.wrap (x3 * 65536)) + (u64.wrap (rd (0 : Int) p0 x4)))) fun x5 =>
    bnd (i64.wrap (x4 - 1)) fun x6 =>
    some (.inl (x5, x6))
  else
  (r01_Word_j1 x3).map .inr
def r01_Word (p0 : D_r01_Nat) : Option (Int × Bool) :=
  bif decide ((p0.length : Int) > 4) then
    some ((0 : Int), false)
  else
  bnd (i64.wrap ((p0.length : Int) - 1)) fun x1 =>
  loopM (fun x : Int × Int => r01_Word_b1 p0 x.1 x.2) ((0 : Int), x1)
theorem r01_Word.ok {p0 : D_r01_Nat} {r : Int × Bool} (h : r01_Word p0 = some r) : ACall prog 55 [⟨T_r01_Nat, p0⟩] [⟨0, .int .u64, r.1⟩, ⟨0, .bool, r.2⟩] := by
  replace h := Leads.of h
  unfold r01_Word at h
  refine AC func55 rfl fun w0 F0 hw0 => ?_
  refine W_seq ?_
  refine R [] [(1, .box 0 T_r01_Nat p0)] pz ?_
  refine W_seq (W_seq ?_)
  refine R [] [(1, .box 0 T_r01_Nat p0), (9, .v 0 .bool (decide ((p0.length : Int) > 4)))] pz ?_
  refine C h (fun h => ?_) fun h => ?_
  · refine W_seq ?_
    refine R [] [(2, .v 0 (.int .u64) (0 : Int)), (3, .v 0 .bool false)] pz ?_
    cases h
    exact Rt hw0
  refine W_skip (W_seq ?_)
  refine R [] [(1, .box 0 T_r01_Nat p0), (4, .v 0 (.int .u64) (0 : Int))] pz ?_
  refine W_seq (W_seq ?_)
  refine R1 h [] (fun x1 => [(1, .box 0 T_r01_Nat p0), (4, .v 0 (.int .u64) (0 : Int)), (5, .v 0 (.int .i64) x1)]) pz fun x1 h => ?_
  refine J1 h r01_Word_j1 (fun x2 => [(4, .v 0 (.int .u64) x2)]) (fun x2 h => ?_) fun j1 => ?_
  · unfold r01_Word_j1 at h
    refine W_seq ?_
    refine R [] [(2, .v 0 (.int .u64) x2), (3, .v 0 .bool true)] pz ?_
    cases h
    exact Rt hw0
  refine W_block ?_
  refine L2 h (fun x3 x4 => [(1, .box 0 T_r01_Nat p0), (4, .v 0 (.int .u64) x3), (5, .v 0 (.int .i64) x4)]) fun x3 x4 _ h => ?_
  unfold r01_Word_b1 at h
  refine W_seq (W_seq ?_)
  refine R [] [(1, .box 0 T_r01_Nat p0), (4, .v 0 (.int .u64) x3), (5, .v 0 (.int .i64) x4), (15, .v 0 .bool (decide (x4 ≥ 0)))] pz ?_
  refine C h (fun h => ?_) fun h => ?_
  · refine W_skip (W_seq (W_block ?_))
    obtain ⟨o1, h⟩ := h.ass
    refine R1 h [] (fun x5 => [(1, .box 0 T_r01_Nat p0), (4, .v 0 (.int .u64) x5), (5, .v 0 (.int .i64) x4)]) (ps o1) fun x5 h => ?_
    refine W_blk ?_
    refine R1 h [] (fun x6 => [(1, .box 0 T_r01_Nat p0), (4, .v 0 (.int .u64) x5), (5, .v 0 (.int .i64) x6)]) pz fun x6 h => ?_
    exact B h
  refine W_exit rfl ?_
  exact K (j1 x3 h.back)

def r03_Text_j1 (x1 : ByteArray) : Option (ByteArray) :=
  some x1
def r03_Text_b1 (x2 : D_r01_Nat) (x3 : ByteArray) : Option ((D_r01_Nat × ByteArray) ⊕ ByteArray) :=
  bif decide ((x2.length : Int) > 0) then
    (r01_Of (10 : Int)).bind fun y4 =>
    (r01_Div x2 y4).bind fun y5 =>
    (r01_Word y5.2).bind fun y6 =>
    ass ((((bytesOf [u8.wrap (48 + (u8.wrap y6.1))]).size + x3.size : Nat) : Int) ≤ 9223372036854775807) <|
    bnd ((bytesOf [u8.wrap (48 + (u8.wrap y6.1))]) ++ x3) fun x7 =>
    some (.inl (y5.1, x7))
  else
  (r03_Text_j1 x3).map .inr
def r03_Text (p0 : D_r01_Nat) : Option ByteArray :=
  bif (p0.length : Int) == 0 then
    some (tx [48])
  else
  loopM (fun x : D_r01_Nat × ByteArray => r03_Text_b1 x.1 x.2) (p0, ByteArray.empty)
theorem r03_Text.ok {p0 : D_r01_Nat} {r : ByteArray} (h : r03_Text p0 = some r) : ACall prog 30 [⟨T_r01_Nat, p0⟩] [⟨0, .str, r⟩] := by
  replace h := Leads.of h
  unfold r03_Text at h
  refine AC func30 rfl fun w0 F0 hw0 => ?_
  refine W_seq ?_
  refine R [] [(1, .box 0 T_r01_Nat p0)] pz ?_
  refine W_seq (W_seq ?_)
  refine R [] [(1, .box 0 T_r01_Nat p0), (11, .v 0 .bool ((p0.length : Int) == 0))] pz ?_
  refine C h (fun h => ?_) fun h => ?_
  · refine W_seq ?_
    refine R [] [(2, .v 0 .str (tx [48]))] pz ?_
    cases h
    exact Rt hw0
  refine W_skip (W_seq ?_)
  refine R [] [(1, .box 0 T_r01_Nat p0), (3, .v 0 .str ByteArray.empty)] pz ?_
  refine W_seq ?_
  refine J1 h r03_Text_j1 (fun x1 => [(3, .v 0 .str x1)]) (fun x1 h => ?_) fun j1 => ?_
  · unfold r03_Text_j1 at h
    refine W_seq ?_
    refine R [] [(2, .v 0 .str x1)] pz ?_
    cases h
    exact Rt hw0
  refine W_block ?_
  refine L2 h (fun x2 x3 => [(1, .box 0 T_r01_Nat x2), (3, .v 0 .str x3)]) fun x2 x3 _ h => ?_
  unfold r03_Text_b1 at h
  refine W_seq (W_seq ?_)
  refine R [] [(1, .box 0 T_r01_Nat x2), (3, .v 0 .str x3), (15, .v 0 .bool (decide ((x2.length : Int) > 0)))] pz ?_
  refine C h (fun h => ?_) fun h => ?_
  · refine W_skip (W_block (W_seq ?_))
    obtain ⟨y4, ey4, h⟩ := h.bind
    obtain ⟨y5, ey5, h⟩ := h.bind
    refine RL [.res [(0, ⟨0, T_r01_Nat, y4⟩)], .res [(0, ⟨0, T_r01_Nat, y5.1⟩), (0, ⟨0, T_r01_Nat, y5.2⟩)]] [(1, .box 0 T_r01_Nat x2), (3, .v 0 .str x3), (4, .box 0 T_r01_Nat y5.1), (5, .box 0 T_r01_Nat y5.2)] (pc (r01_Of.ok ey4) (pc (r01_Div.ok ey5) (ps (rfl : (⟨T_r01_Nat, y5.2⟩ : TV) = ⟨T_r01_Nat, y5.2⟩)))) ?_
    refine W_seq ?_
    obtain ⟨y6, ey6, h⟩ := h.bind
    refine R [.res [(0, ⟨0, .int .u64, y6.1⟩), (0, ⟨0, .bool, y6.2⟩)]] [(1, .box 0 T_r01_Nat x2), (3, .v 0 .str x3), (4, .box 0 T_r01_Nat y5.1), (6, .v 0 (.int .u64) y6.1)] (ps (r01_Word.ok ey6)) ?_
    refine W_seq ?_
    obtain ⟨o1, h⟩ := h.ass
    refine R1 h [] (fun x7 => [(1, .box 0 T_r01_Nat x2), (3, .v 0 .str x7), (4, .box 0 T_r01_Nat y5.1)]) (ps o1) fun x7 h => ?_
    refine R [] [(1, .box 0 T_r01_Nat y5.1), (3, .v 0 .str x7)] pz ?_
    refine W_blk ?_
    exact B h
  refine W_exit rfl ?_
  exact K (j1 x3 h.back)

def r04_Text (p0 : D_r04_Q) : Option ByteArray :=
  (r01_Of (1 : Int)).bind fun y1 =>
  (r01_Cmp p0.2 y1).bind fun y2 =>
  bif y2 == 0 then
    (r03_Text p0.1).bind fun y3 =>
    some y3
  else
  (r03_Text p0.1).bind fun y4 =>
  ass (((y4.size + (tx [47]).size : Nat) : Int) ≤ 9223372036854775807) <|
  (r03_Text p0.2).bind fun y5 =>
  ass ((((y4 ++ (tx [47])).size + y5.size : Nat) : Int) ≤ 9223372036854775807) <|
  bnd ((y4 ++ (tx [47])) ++ y5) fun x6 =>
  some x6
theorem r04_Text.ok {p0 : D_r04_Q} {r : ByteArray} (h : r04_Text p0 = some r) : ACall prog 12 [⟨T_r04_Q, p0⟩] [⟨0, .str, r⟩] := by
  replace h := Leads.of h
  unfold r04_Text at h
  refine AC func12 rfl fun w0 F0 hw0 => ?_
  refine W_seq ?_
  refine R [] [(1, .box 0 T_r04_Q p0)] pz ?_
  refine W_seq (W_seq ?_)
  obtain ⟨y1, ey1, h⟩ := h.bind
  obtain ⟨y2, ey2, h⟩ := h.bind
  refine R [.res [(0, ⟨0, T_r01_Nat, y1⟩)], .res [(0, ⟨0, .int .i64, y2⟩)]] [(1, .box 0 T_r04_Q p0), (7, .v 0 .bool (y2 == 0))] (pc (r01_Of.ok ey1) (ps (r01_Cmp.ok ey2))) ?_
  refine C h (fun h => ?_) fun h => ?_
  · refine W_seq ?_
    obtain ⟨y3, ey3, h⟩ := h.bind
    refine R [.res [(0, ⟨0, .str, y3⟩)]] [(2, .v 0 .str y3)] (ps (r03_Text.ok ey3)) ?_
    cases h
    exact Rt hw0
  refine W_skip (W_seq ?_)
  obtain ⟨y4, ey4, h⟩ := h.bind
  obtain ⟨o1, h⟩ := h.ass
  obtain ⟨y5, ey5, h⟩ := h.bind
  obtain ⟨o2, h⟩ := h.ass
  refine R1 h [.res [(0, ⟨0, .str, y4⟩)], .res [(0, ⟨0, .str, y5⟩)]] (fun x6 => [(2, .v 0 .str x6)]) (pc (r03_Text.ok ey4) (pc o1 (pc (r03_Text.ok ey5) (ps o2)))) fun x6 h => ?_
  cases h
  exact Rt hw0

def r04_Parse_j2 (p0 : ByteArray) (y5 : D_r01_Nat × Int) (x7 : D_r01_Nat) (x8 : Int) : Option (D_r04_Q × Int) :=
  (bif !(((y5.2 != 0) || (x8 != 0)) || ((x7.length : Int) == 0)) then r03_Gcd y5.1 x7 else some ([] : List Int)).bind fun y9 =>
  (bif !(((y5.2 != 0) || (x8 != 0)) || ((x7.length : Int) == 0)) then r01_Of (1 : Int) else some ([] : List Int)).bind fun y10 =>
  (bif !(((y5.2 != 0) || (x8 != 0)) || ((x7.length : Int) == 0)) then r01_Cmp y9 y10 else some (0 : Int)).bind fun y11 =>
  (bif !((((y5.2 != 0) || (x8 != 0)) || ((x7.length : Int) == 0)) || (y11 != 0)) then r04_Text (y5.1, x7) else some ByteArray.empty).bind fun y12 =>
  bif ((((y5.2 != 0) || (x8 != 0)) || ((x7.length : Int) == 0)) || (y11 != 0)) || (!(y12.toList == p0.toList)) then
    bnd ((([] : List Int), ([] : List Int))) fun x13 =>
    some (x13, (3 : Int))
  else
  bnd ((y5.1, x7)) fun x14 =>
  some (x14, (0 : Int))
def r04_Parse_j1 (p0 : ByteArray) (x4 : Int) : Option (D_r04_Q × Int) :=
  ass (0 ≤ (0 : Int) ∧ (0 : Int) ≤ x4 ∧ x4 ≤ (p0.size : Int)) <|
  (r03_Parse (sls p0 (0 : Int) x4)).bind fun y5 =>
  (r01_Of (1 : Int)).bind fun y6 =>
  bif decide (x4 < (p0.size : Int)) then
    ass (0 ≤ i64.wrap (x4 + 1) ∧ i64.wrap (x4 + 1) ≤ (p0.size : Int) ∧ (p0.size : Int) ≤ (p0.size : Int)) <|
    (r03_Parse (sls p0 (i64.wrap (x4 + 1)) (p0.size : Int))).bind fun y15 =>
    r04_Parse_j2 p0 y5 y15.1 y15.2
  else
  r04_Parse_j2 p0 y5 y6 (0 : Int)
def r04_Parse_j3 (x17 : Int) (x18 : Int) : Option ((Int × Int) ⊕ (D_r04_Q × Int)) :=
  bnd (i64.wrap (x17 - 1)) fun x19 =>
  some (.inl (x18, x19))
def r04_Parse_b1 (p0 : ByteArray) (x16 : Int) (x17 : Int) : Option ((Int × Int) ⊕ (D_r04_Q × Int)) :=
  bif decide (x17 ≥ 0) then
    ass (0 ≤ x17 ∧ x17 < (p0.size : Int)) <|
    bif (bt p0 x17) == 47 then
      r04_Parse_j3 x17 x17
    else
    r04_Parse_j3 x17 x16
  else
  (r04_Parse_j1 p0 x16).map .inr
def r04_Parse (p0 : ByteArray) : Option (D_r04_Q × Int) :=
  bnd ((([] : List Int), ([] : List Int))) fun x1 =>
  bif decide ((p0.size : Int) > 4096) then
    bnd ((([] : List Int), ([] : List Int))) fun x2 =>
    some (x2, (5 : Int))
  else
  bnd (i64.wrap ((p0.size : Int) - 1)) fun x3 =>
  loopM (fun x : Int × Int => r04_Parse_b1 p0 x.1 x.2) ((p0.size : Int), x3)
theorem r04_Parse.ok {p0 : ByteArray} {r : D_r04_Q × Int} (h : r04_Parse p0 = some r) : ACall prog 7 [⟨.str, p0⟩] [⟨0, T_r04_Q, r.1⟩, ⟨0, .int .i64, r.2⟩] := by
  replace h := Leads.of h
  unfold r04_Parse at h
  refine AC func7 rfl fun w0 F0 hw0 => ?_
  refine W_seq ?_
  refine R1 h [] (fun x1 => [(0, .v 0 .str p0), (2, .box 9 T_r04_Q x1)]) pz fun x1 h => ?_
  refine W_seq (W_seq ?_)
  refine R [] [(0, .v 0 .str p0), (2, .box 9 T_r04_Q x1), (12, .v 0 .bool (decide ((p0.size : Int) > 4096)))] pz ?_
  refine C h (fun h => ?_) fun h => ?_
  · refine W_seq ?_
    refine R1 h [] (fun x2 => [(2, .box 0 T_r04_Q x2), (3, .v 0 (.int .i64) (5 : Int))]) pz fun x2 h => ?_
    cases h
    exact Rt hw0
  refine W_skip (W_seq ?_)
  refine R [] [(0, .v 0 .str p0), (2, .box 9 T_r04_Q x1), (4, .v 0 (.int .i64) (p0.size : Int))] pz ?_
  refine W_seq (W_seq ?_)
  refine R1 h [] (fun x3 => [(0, .v 0 .str p0), (2, .box 9 T_r04_Q x1), (4, .v 0 (.int .i64) (p0.size : Int)), (5, .v 0 (.int .i64) x3)]) pz fun x3 h => ?_
  refine J1 h (r04_Parse_j1 p0) (fun x4 => [(0, .v 0 .str p0), (2, .box 9 T_r04_Q x1), (4, .v 0 (.int .i64) x4)]) (fun x4 h => ?_) fun j1 => ?_
  · unfold r04_Parse_j1 at h
    refine W_seq ?_
    obtain ⟨o1, h⟩ := h.ass
    obtain ⟨y5, ey5, h⟩ := h.bind
    refine R [.res [(0, ⟨0, T_r01_Nat, y5.1⟩), (0, ⟨0, .int .i64, y5.2⟩)]] [(0, .v 0 .str p0), (2, .box 9 T_r04_Q x1), (4, .v 0 (.int .i64) x4), (6, .box 0 T_r01_Nat y5.1), (7, .v 0 (.int .i64) y5.2)] (pc o1 (ps (r03_Parse.ok ey5))) ?_
    refine W_seq ?_
    obtain ⟨y6, ey6, h⟩ := h.bind
    refine R [.res [(0, ⟨0, T_r01_Nat, y6⟩)]] [(0, .v 0 .str p0), (2, .box 9 T_r04_Q x1), (4, .v 0 (.int .i64) x4), (6, .box 0 T_r01_Nat y5.1), (7, .v 0 (.int .i64) y5.2), (8, .box 0 T_r01_Nat y6)] (ps (r01_Of.ok ey6)) ?_
    refine W_seq ?_
    refine R [] [(0, .v 0 .str p0), (2, .box 9 T_r04_Q x1), (4, .v 0 (.int .i64) x4), (6, .box 0 T_r01_Nat y5.1), (7, .v 0 (.int .i64) y5.2), (8, .box 0 T_r01_Nat y6), (9, .v 0 (.int .i64) (0 : Int))] pz ?_
    refine W_seq (W_seq ?_)
    refine R [] [(0, .v 0 .str p0), (2, .box 9 T_r04_Q x1), (4, .v 0 (.int .i64) x4), (6, .box 0 T_r01_Nat y5.1), (7, .v 0 (.int .i64) y5.2), (8, .box 0 T_r01_Nat y6), (9, .v 0 (.int .i64) (0 : Int)), (39, .v 0 .bool (decide (x4 < (p0.size : Int))))] pz ?_
    refine J2 h (r04_Parse_j2 p0 y5) (fun x7 x8 => [(0, .v 0 .str p0), (2, .box 9 T_r04_Q x1), (6, .box 0 T_r01_Nat y5.1), (7, .v 0 (.int .i64) y5.2), (8, .box 0 T_r01_Nat x7), (9, .v 0 (.int .i64) x8)]) (fun x7 x8 h => ?_) fun j2 => ?_
    · unfold r04_Parse_j2 at h
      refine W_seq (W_seq ?_)
      obtain ⟨y9, ey9, h⟩ := h.bind
      obtain ⟨y10, ey10, h⟩ := h.bind
      obtain ⟨y11, ey11, h⟩ := h.bind
      obtain ⟨y12, ey12, h⟩ := h.bind
      refine R [.res [(0, ⟨0, T_r01_Nat, y9⟩)], .res [(0, ⟨0, T_r01_Nat, y10⟩)], .res [(0, ⟨0, .int .i64, y11⟩)], .res [(0, ⟨0, .str, y12⟩)]] [(2, .box 9 T_r04_Q x1), (6, .box 0 T_r01_Nat y5.1), (8, .box 0 T_r01_Nat x7), (75, .v 0 .bool (((((y5.2 != 0) || (x8 != 0)) || ((x7.length : Int) == 0)) || (y11 != 0)) || (!(y12.toList == p0.toList))))] (pc (fun hc => r03_Gcd.ok (bif_some ey9 hc)) (pc (fun hc => r01_Of.ok (bif_some ey10 hc)) (pc (fun hc => r01_Cmp.ok (bif_some ey11 hc)) (ps (fun hc => r04_Text.ok (bif_some ey12 hc)))))) ?_
      refine C h (fun h => ?_) fun h => ?_
      · refine W_seq ?_
        refine R1 h [] (fun x13 => [(2, .box 0 T_r04_Q x13), (3, .v 0 (.int .i64) (3 : Int))]) pz fun x13 h => ?_
        cases h
        exact Rt hw0
      refine W_skip (W_seq ?_)
      refine R1 h [] (fun x14 => [(2, .box 0 T_r04_Q x14), (3, .v 0 (.int .i64) (0 : Int))]) pz fun x14 h => ?_
      cases h
      exact Rt hw0
    refine C h (fun h => ?_) fun h => ?_
    · obtain ⟨o1, h⟩ := h.ass
      obtain ⟨y15, ey15, h⟩ := h.bind
      refine R [.res [(0, ⟨0, T_r01_Nat, y15.1⟩), (0, ⟨0, .int .i64, y15.2⟩)]] [(0, .v 0 .str p0), (2, .box 9 T_r04_Q x1), (6, .box 0 T_r01_Nat y5.1), (7, .v 0 (.int .i64) y5.2), (8, .box 0 T_r01_Nat y15.1), (9, .v 0 (.int .i64) y15.2)] (pc o1 (ps (r03_Parse.ok ey15))) ?_
      exact K (j2 y15.1 y15.2 h)
    refine W_skip ?_
    exact K (j2 y6 (0 : Int) h)
  refine W_block ?_
  refine L2 h (fun x16 x17 => [(0, .v 0 .str p0), (2, .box 9 T_r04_Q x1), (4, .v 0 (.int .i64) x16), (5, .v 0 (.int .i64) x17)]) fun x16 x17 _ h => ?_
  unfold r04_Parse_b1 at h
  refine W_seq (W_seq ?_)
  refine R [] [(0, .v 0 .str p0), (2, .box 9 T_r04_Q x1), (4, .v 0 (.int .i64) x16), (5, .v 0 (.int .i64) x17), (20, .v 0 .bool (decide (x17 ≥ 0)))] pz ?_
  refine C h (fun h => ?_) fun h => ?_
  · refine W_skip (W_seq (W_block (W_seq ?_)))
    obtain ⟨o1, h⟩ := h.ass
    refine R [] [(0, .v 0 .str p0), (2, .box 9 T_r04_Q x1), (4, .v 0 (.int .i64) x16), (5, .v 0 (.int .i64) x17), (26, .v 0 .bool ((bt p0 x17) == 47))] (ps o1) ?_
    refine J1 h (r04_Parse_j3 x17) (fun x18 => [(0, .v 0 .str p0), (2, .box 9 T_r04_Q x1), (4, .v 0 (.int .i64) x18), (5, .v 0 (.int .i64) x17)]) (fun x18 h => ?_) fun j3 => ?_
    · unfold r04_Parse_j3 at h
      refine W_blk ?_
      refine R1 h [] (fun x19 => [(0, .v 0 .str p0), (2, .box 9 T_r04_Q x1), (4, .v 0 (.int .i64) x18), (5, .v 0 (.int .i64) x19)]) pz fun x19 h => ?_
      exact B h
    refine C h (fun h => ?_) fun h => ?_
    · refine R [] [(0, .v 0 .str p0), (2, .box 9 T_r04_Q x1), (4, .v 0 (.int .i64) x17), (5, .v 0 (.int .i64) x17)] pz ?_
      exact K (j3 x17 h)
    refine W_skip ?_
    exact K (j3 x16 h)
  refine W_exit rfl ?_
  exact K (j1 x16 h.back)

def r03_Out_j1 (x1 : List Int) : Option (List Int) :=
  some x1
def r03_Out_j2 (x2 : List Int) (x3 : Int) (x5 : Int) : Option (((List Int) × Int) ⊕ (List Int)) :=
  ass (((x2.length + [x5].length : Nat) : Int) ≤ limA) <|
  bnd (x2 ++ [x5]) fun x6 =>
  bnd (i64.wrap (x3 + 2)) fun x7 =>
  some (.inl (x6, x7))
def r03_Out_b1 (p0 : D_r01_Nat) (x2 : List Int) (x3 : Int) : Option (((List Int) × Int) ⊕ (List Int)) :=
  bif decide (x3 < (p0.length : Int)) then
    ass (0 ≤ x3 ∧ x3 < (p0.length : Int)) <|
    bnd (u32.wrap (rd (0 : Int) p0 x3)) fun x4 =>
    bif decide ((i64.wrap (x3 + 1)) < (p0.length : Int)) then
      ass (0 ≤ i64.wrap (x3 + 1) ∧ i64.wrap (x3 + 1) < (p0.length : Int)) <|
      bnd (u32.wrap (x4 + (u32.wrap ((u32.wrap (rd (0 : Int) p0 (i64.wrap (x3 + 1)))) * 65536)))) fun x8 =>
      r03_Out_j2 x2 x3 x8
    else
    r03_Out_j2 x2 x3 x4
  else
  (r03_Out_j1 x2).map .inr
def r03_Out (p0 : D_r01_Nat) : Option (List Int) :=
  loopM (fun x : (List Int) × Int => r03_Out_b1 p0 x.1 x.2) (([] : List Int), (0 : Int))
theorem r03_Out.ok {p0 : D_r01_Nat} {r : List Int} (h : r03_Out p0 = some r) : ACall prog 26 [⟨T_r01_Nat, p0⟩] [⟨9, .slice (.int .u32), r⟩] := by
  replace h := Leads.of h
  unfold r03_Out at h
  refine AC func26 rfl fun w0 F0 hw0 => ?_
  refine W_seq ?_
  refine R [] [(1, .box 0 T_r01_Nat p0)] pz ?_
  refine W_seq ?_
  refine R [] [(1, .box 0 T_r01_Nat p0), (3, .v 9 (.slice (.int .u32)) ([] : List Int))] pz ?_
  refine W_seq (W_seq ?_)
  refine R [] [(1, .box 0 T_r01_Nat p0), (3, .v 9 (.slice (.int .u32)) ([] : List Int)), (4, .v 0 (.int .i64) (0 : Int))] pz ?_
  refine J1 h r03_Out_j1 (fun x1 => [(3, .v 9 (.slice (.int .u32)) x1)]) (fun x1 h => ?_) fun j1 => ?_
  · unfold r03_Out_j1 at h
    refine W_seq ?_
    refine R [] [(2, .v 9 (.slice (.int .u32)) x1)] pz ?_
    cases h
    exact Rt hw0
  refine W_block ?_
  refine L2 h (fun x2 x3 => [(1, .box 0 T_r01_Nat p0), (3, .v 9 (.slice (.int .u32)) x2), (4, .v 0 (.int .i64) x3)]) fun x2 x3 _ h => ?_
  unfold r03_Out_b1 at h
  refine W_seq (W_seq ?_)
  refine R [] [(1, .box 0 T_r01_Nat p0), (3, .v 9 (.slice (.int .u32)) x2), (4, .v 0 (.int .i64) x3), (10, .v 0 .bool (decide (x3 < (p0.length : Int))))] pz ?_
  refine C h (fun h => ?_) fun h => ?_
  · refine W_skip (W_seq (W_block (W_seq ?_)))
    obtain ⟨o1, h⟩ := h.ass
    refine R1 h [] (fun x4 => [(1, .box 0 T_r01_Nat p0), (3, .v 9 (.slice (.int .u32)) x2), (4, .v 0 (.int .i64) x3), (5, .v 0 (.int .u32) x4)]) (ps o1) fun x4 h => ?_
    refine W_seq (W_seq ?_)
    refine R [] [(1, .box 0 T_r01_Nat p0), (3, .v 9 (.slice (.int .u32)) x2), (4, .v 0 (.int .i64) x3), (5, .v 0 (.int .u32) x4), (24, .v 0 .bool (decide ((i64.wrap (x3 + 1)) < (p0.length : Int))))] pz ?_
    refine J1 h (r03_Out_j2 x2 x3) (fun x5 => [(1, .box 0 T_r01_Nat p0), (3, .v 9 (.slice (.int .u32)) x2), (4, .v 0 (.int .i64) x3), (5, .v 0 (.int .u32) x5)]) (fun x5 h => ?_) fun j2 => ?_
    · unfold r03_Out_j2 at h
      obtain ⟨o1, h⟩ := h.ass
      refine R1 h [] (fun x6 => [(1, .box 0 T_r01_Nat p0), (3, .v 9 (.slice (.int .u32)) x6), (4, .v 0 (.int .i64) x3)]) (ps o1) fun x6 h => ?_
      refine W_blk ?_
      refine R1 h [] (fun x7 => [(1, .box 0 T_r01_Nat p0), (3, .v 9 (.slice (.int .u32)) x6), (4, .v 0 (.int .i64) x7)]) pz fun x7 h => ?_
      exact B h
    refine C h (fun h => ?_) fun h => ?_
    · obtain ⟨o1, h⟩ := h.ass
      refine R1 h [] (fun x8 => [(1, .box 0 T_r01_Nat p0), (3, .v 9 (.slice (.int .u32)) x2), (4, .v 0 (.int .i64) x3), (5, .v 0 (.int .u32) x8)]) (ps o1) fun x8 h => ?_
      exact K (j2 x8 h)
    refine W_skip ?_
    exact K (j2 x4 h)
  refine W_exit rfl ?_
  exact K (j1 x2 h.back)

def r04_Same (p0 : D_api_Ratio) (p1 : D_r04_Q) : Option Bool :=
  (r03_Out p1.1).bind fun y1 =>
  (r03_Same p0.1 y1).bind fun y2 =>
  (bif y2 then r03_Out p1.2 else some ([] : List Int)).bind fun y3 =>
  (bif y2 then r03_Same p0.2 y3 else some false).bind fun y4 =>
  bnd (y2 && y4) fun x5 =>
  some x5
theorem r04_Same.ok {p0 : D_api_Ratio} {p1 : D_r04_Q} {r : Bool} (h : r04_Same p0 p1 = some r) : ACall prog 8 [⟨T_api_Ratio, p0⟩, ⟨T_r04_Q, p1⟩] [⟨0, .bool, r⟩] := by
  replace h := Leads.of h
  unfold r04_Same at h
  refine AC func8 rfl fun w0 F0 hw0 => ?_
  refine W_seq ?_
  refine R [] [(2, .box 0 T_api_Ratio p0), (3, .box 0 T_r04_Q p1)] pz ?_
  refine W_seq ?_
  obtain ⟨y1, ey1, h⟩ := h.bind
  obtain ⟨y2, ey2, h⟩ := h.bind
  obtain ⟨y3, ey3, h⟩ := h.bind
  obtain ⟨y4, ey4, h⟩ := h.bind
  refine R1 h [.res [(9, ⟨9, .slice (.int .u32), y1⟩)], .res [(0, ⟨0, .bool, y2⟩)], .res [(0, ⟨9, .slice (.int .u32), y3⟩)], .res [(0, ⟨0, .bool, y4⟩)]] (fun x5 => [(4, .v 0 .bool x5)]) (pc (r03_Out.ok ey1) (pc (r03_Same.ok ey2) (pc (fun hc => r03_Out.ok (bif_some ey3 hc)) (ps (fun hc => r03_Same.ok (bif_some ey4 hc)))))) fun x5 h => ?_
  cases h
  exact Rt hw0

def l04_none (p0 : D_api_Ratio) : Option Bool :=
  bnd ((i64.wrap ((p0.1.length : Int) + (p0.2.length : Int))) == 0) fun x1 =>
  some x1
theorem l04_none.ok {p0 : D_api_Ratio} {r : Bool} (h : l04_none p0 = some r) : ACall prog 9 [⟨T_api_Ratio, p0⟩] [⟨0, .bool, r⟩] := by
  replace h := Leads.of h
  unfold l04_none at h
  refine AC func9 rfl fun w0 F0 hw0 => ?_
  refine W_seq ?_
  refine R [] [(1, .box 0 T_api_Ratio p0)] pz ?_
  refine W_seq ?_
  refine R1 h [] (fun x1 => [(2, .v 0 .bool x1)]) pz fun x1 h => ?_
  cases h
  exact Rt hw0

def r03_In_j1 (x1 : List Int) : Option (D_r01_Nat) :=
  (r01_Cut x1).bind fun y2 =>
  some y2
def r03_In_b1 (p0 : List Int) (x3 : List Int) (x4 : Int) : Option (((List Int) × Int) ⊕ D_r01_Nat) :=
  bif decide (x4 < (p0.length : Int)) then
    ass (0 ≤ x4 ∧ x4 < (p0.length : Int)) <|
    ass ((65536 : Int) ≠ 0) <|
    ass (((x3.length + [i64.wrap ((rd (0 : Int) p0 x4).tmod 65536), i64.wrap (u32.wrap ((rd (0 : Int) p0 x4).tdiv 65536))].length : Nat) : Int) ≤ limA) <|
    bnd (x3 ++ [i64.wrap ((rd (0 : Int) p0 x4).tmod 65536), i64.wrap (u32.wrap ((rd (0 : Int) p0 x4).tdiv 65536))]) fun x5 =>
    bnd (i64.wrap (x4 + 1)) fun x6 =>
    some (.inl (x5, x6))
  else
  (r03_In_j1 x3).map .inr
def r03_In (p0 : List Int) : Option D_r01_Nat :=
  loopM (fun x : (List Int) × Int => r03_In_b1 p0 x.1 x.2) (([] : List Int), (0 : Int))
theorem r03_In.ok {p0 : List Int} {r : D_r01_Nat} (h : r03_In p0 = some r) : ACall prog 31 [⟨.slice (.int .u32), p0⟩] [⟨0, T_r01_Nat, r⟩] := by
  replace h := Leads.of h
  unfold r03_In at h
  refine AC func31 rfl fun w0 F0 hw0 => ?_
  refine W_seq ?_
  refine R [] [(0, .v 0 (.slice (.int .u32)) p0), (2, .box 9 T_r01_Nat ([] : List Int))] pz ?_
  refine W_seq ?_
  refine R [] [(0, .v 0 (.slice (.int .u32)) p0), (2, .box 9 T_r01_Nat ([] : List Int)), (3, .v 9 (.slice (.int .i64)) ([] : List Int))] pz ?_
  refine W_seq (W_seq ?_)
  refine R [] [(0, .v 0 (.slice (.int .u32)) p0), (2, .box 9 T_r01_Nat ([] : List Int)), (3, .v 9 (.slice (.int .i64)) ([] : List Int)), (4, .v 0 (.int .i64) (0 : Int))] pz ?_
  refine J1 h r03_In_j1 (fun x1 => [(2, .box 9 T_r01_Nat ([] : List Int)), (3, .v 9 (.slice (.int .i64)) x1)]) (fun x1 h => ?_) fun j1 => ?_
  · unfold r03_In_j1 at h
    refine W_seq ?_
    refine K (E' := [(2, .box 9 T_r01_Nat ([] : List Int)), (3, .v 0 (.slice (.int .i64)) x1)]) ?_
    obtain ⟨y2, ey2, h⟩ := h.bind
    refine R [.res [(0, ⟨0, T_r01_Nat, y2⟩)]] [(2, .box 0 T_r01_Nat y2)] (ps (r01_Cut.ok ey2)) ?_
    cases h
    exact Rt hw0
  refine W_block ?_
  refine L2 h (fun x3 x4 => [(0, .v 0 (.slice (.int .u32)) p0), (2, .box 9 T_r01_Nat ([] : List Int)), (3, .v 9 (.slice (.int .i64)) x3), (4, .v 0 (.int .i64) x4)]) fun x3 x4 _ h => ?_
  unfold r03_In_b1 at h
  refine W_seq (W_seq ?_)
  refine R [] [(0, .v 0 (.slice (.int .u32)) p0), (2, .box 9 T_r01_Nat ([] : List Int)), (3, .v 9 (.slice (.int .i64)) x3), (4, .v 0 (.int .i64) x4), (8, .v 0 .bool (decide (x4 < (p0.length : Int))))] pz ?_
  refine C h (fun h => ?_) fun h => ?_
  · refine W_skip (W_seq (W_block ?_))
    obtain ⟨o1, h⟩ := h.ass
    obtain ⟨o2, h⟩ := h.ass
    obtain ⟨o3, h⟩ := h.ass
    refine R1 h [] (fun x5 => [(0, .v 0 (.slice (.int .u32)) p0), (2, .box 9 T_r01_Nat ([] : List Int)), (3, .v 9 (.slice (.int .i64)) x5), (4, .v 0 (.int .i64) x4)]) (pc o1 (pc o2 (pc o1 (pc o2 (ps o3))))) fun x5 h => ?_
    refine W_blk ?_
    refine R1 h [] (fun x6 => [(0, .v 0 (.slice (.int .u32)) p0), (2, .box 9 T_r01_Nat ([] : List Int)), (3, .v 9 (.slice (.int .i64)) x5), (4, .v 0 (.int .i64) x6)]) pz fun x6 h => ?_
    exact B h
  refine W_exit rfl ?_
  exact K (j1 x3 h.back)

def r04_In (p0 : D_api_Ratio) : Option D_r04_Q :=
  bnd ((([] : List Int), ([] : List Int))) fun x1 =>
  (r03_In p0.1).bind fun y2 =>
  (r03_In p0.2).bind fun y3 =>
  bnd ((y2, y3)) fun x4 =>
  some x4
theorem r04_In.ok {p0 : D_api_Ratio} {r : D_r04_Q} (h : r04_In p0 = some r) : ACall prog 13 [⟨T_api_Ratio, p0⟩] [⟨0, T_r04_Q, r⟩] := by
  replace h := Leads.of h
  unfold r04_In at h
  refine AC func13 rfl fun w0 F0 hw0 => ?_
  refine W_seq ?_
  refine R1 h [] (fun x1 => [(1, .box 0 T_api_Ratio p0), (2, .box 9 T_r04_Q x1)]) pz fun x1 h => ?_
  refine W_seq ?_
  obtain ⟨y2, ey2, h⟩ := h.bind
  obtain ⟨y3, ey3, h⟩ := h.bind
  refine R1 h [.res [(0, ⟨0, T_r01_Nat, y2⟩)], .res [(0, ⟨0, T_r01_Nat, y3⟩)]] (fun x4 => [(2, .box 0 T_r04_Q x4)]) (pc (r03_In.ok ey2) (ps (r03_In.ok ey3))) fun x4 h => ?_
  cases h
  exact Rt hw0

def r04_Right (p0 : D_api_Ratio) : Option Bool :=
  (r04_In p0).bind fun y1 =>
  (bif !((y1.2.length : Int) == 0) then r03_Out y1.1 else some ([] : List Int)).bind fun y2 =>
  (bif !((y1.2.length : Int) == 0) then r03_Same p0.1 y2 else some false).bind fun y3 =>
  (bif !(((y1.2.length : Int) == 0) || (!y3)) then r03_Out y1.2 else some ([] : List Int)).bind fun y4 =>
  (bif !(((y1.2.length : Int) == 0) || (!y3)) then r03_Same p0.2 y4 else some false).bind fun y5 =>
  bif (((y1.2.length : Int) == 0) || (!y3)) || (!y5) then
    some false
  else
  (r03_Gcd y1.1 y1.2).bind fun y6 =>
  (r01_Of (1 : Int)).bind fun y7 =>
  (r01_Cmp y6 y7).bind fun y8 =>
  bnd (y8 == 0) fun x9 =>
  some x9
theorem r04_Right.ok {p0 : D_api_Ratio} {r : Bool} (h : r04_Right p0 = some r) : ACall prog 10 [⟨T_api_Ratio, p0⟩] [⟨0, .bool, r⟩] := by
  replace h := Leads.of h
  unfold r04_Right at h
  refine AC func10 rfl fun w0 F0 hw0 => ?_
  refine W_seq ?_
  refine R [] [(1, .box 0 T_api_Ratio p0)] pz ?_
  refine W_seq ?_
  obtain ⟨y1, ey1, h⟩ := h.bind
  refine R [.res [(0, ⟨0, T_r04_Q, y1⟩)]] [(1, .box 0 T_api_Ratio p0), (3, .box 0 T_r04_Q y1)] (ps (r04_In.ok ey1)) ?_
  refine W_seq (W_seq ?_)
  obtain ⟨y2, ey2, h⟩ := h.bind
  obtain ⟨y3, ey3, h⟩ := h.bind
  obtain ⟨y4, ey4, h⟩ := h.bind
  obtain ⟨y5, ey5, h⟩ := h.bind
  refine R [.res [(0, ⟨9, .slice (.int .u32), y2⟩)], .res [(0, ⟨0, .bool, y3⟩)], .res [(0, ⟨9, .slice (.int .u32), y4⟩)], .res [(0, ⟨0, .bool, y5⟩)]] [(3, .box 0 T_r04_Q y1), (28, .v 0 .bool ((((y1.2.length : Int) == 0) || (!y3)) || (!y5)))] (pc (fun hc => r03_Out.ok (bif_some ey2 hc)) (pc (fun hc => r03_Same.ok (bif_some ey3 hc)) (pc (fun hc => r03_Out.ok (bif_some ey4 hc)) (ps (fun hc => r03_Same.ok (bif_some ey5 hc)))))) ?_
  refine C h (fun h => ?_) fun h => ?_
  · refine W_seq ?_
    refine R [] [(2, .v 0 .bool false)] pz ?_
    cases h
    exact Rt hw0
  refine W_skip (W_seq ?_)
  obtain ⟨y6, ey6, h⟩ := h.bind
  obtain ⟨y7, ey7, h⟩ := h.bind
  obtain ⟨y8, ey8, h⟩ := h.bind
  refine R1 h [.res [(0, ⟨0, T_r01_Nat, y6⟩)], .res [(0, ⟨0, T_r01_Nat, y7⟩)], .res [(0, ⟨0, .int .i64, y8⟩)]] (fun x9 => [(2, .v 0 .bool x9)]) (pc (r03_Gcd.ok ey6) (pc (r01_Of.ok ey7) (ps (r01_Cmp.ok ey8)))) fun x9 h => ?_
  cases h
  exact Rt hw0

def ratio_Cmp (p0 : D_api_Ratio) (p1 : D_api_Ratio) : Option Int :=
  (nat_Mul [p0.1, p1.2]).bind fun y1 =>
  (nat_Mul [p1.1, p0.2]).bind fun y2 =>
  (nat_Cmp y1 y2).bind fun y3 =>
  some y3
theorem ratio_Cmp.ok {p0 : D_api_Ratio} {p1 : D_api_Ratio} {r : Int} (h : ratio_Cmp p0 p1 = some r) : ACall prog 32 [⟨T_api_Ratio, p0⟩, ⟨T_api_Ratio, p1⟩] [⟨0, .int .i64, r⟩] := by
  replace h := Leads.of h
  unfold ratio_Cmp at h
  refine AC func32 rfl fun w0 F0 hw0 => ?_
  refine W_seq ?_
  refine R [] [(2, .box 0 T_api_Ratio p0), (3, .box 0 T_api_Ratio p1)] pz ?_
  refine W_seq ?_
  obtain ⟨y1, ey1, h⟩ := h.bind
  obtain ⟨y2, ey2, h⟩ := h.bind
  obtain ⟨y3, ey3, h⟩ := h.bind
  refine R [.res [(9, ⟨9, .slice (.int .u32), y1⟩)], .res [(9, ⟨9, .slice (.int .u32), y2⟩)], .res [(0, ⟨0, .int .i64, y3⟩)]] [(4, .v 0 (.int .i64) y3)] (pc (nat_Mul.ok ey1) (pc (nat_Mul.ok ey2) (ps (nat_Cmp.ok ey3)))) ?_
  cases h
  exact Rt hw0

def ratio_Same (p0 : D_api_Ratio) (p1 : D_api_Ratio) : Option Bool :=
  (ratio_Cmp p0 p1).bind fun y1 =>
  bnd (y1 == 0) fun x2 =>
  some x2
theorem ratio_Same.ok {p0 : D_api_Ratio} {p1 : D_api_Ratio} {r : Bool} (h : ratio_Same p0 p1 = some r) : ACall prog 14 [⟨T_api_Ratio, p0⟩, ⟨T_api_Ratio, p1⟩] [⟨0, .bool, r⟩] := by
  replace h := Leads.of h
  unfold ratio_Same at h
  refine AC func14 rfl fun w0 F0 hw0 => ?_
  refine W_seq ?_
  refine R [] [(2, .box 0 T_api_Ratio p0), (3, .box 0 T_api_Ratio p1)] pz ?_
  refine W_seq ?_
  obtain ⟨y1, ey1, h⟩ := h.bind
  refine R1 h [.res [(0, ⟨0, .int .i64, y1⟩)]] (fun x2 => [(4, .v 0 .bool x2)]) (ps (ratio_Cmp.ok ey1)) fun x2 h => ?_
  cases h
  exact Rt hw0

def l04_RatioTexts (p0 : D_api_Ratio) (p1 : ByteArray) : Option Bool :=
  (l04_short p0).bind fun y1 =>
  bif ((!y1) || ((decide ((p1.size : Int) > 200)) && (decide ((p1.size : Int) ≤ 4096)))) || (decide ((p1.size : Int) > 5000)) then
    (l04_alive).bind fun y2 =>
    some y2
  else
  (ratio_Parse p1).bind fun y3 =>
  (r04_Parse p1).bind fun y4 =>
  (bif (!(y3.2 != y4.2)) && (y3.2 == 0) then r04_Same y3.1 y4.1 else some false).bind fun y5 =>
  (bif (!((y3.2 != y4.2) || ((y3.2 == 0) && (!y5)))) && (y3.2 != 0) then l04_none y3.1 else some false).bind fun y6 =>
  bif ((y3.2 != y4.2) || ((y3.2 == 0) && (!y5))) || ((y3.2 != 0) && (!y6)) then
    some false
  else
  (r04_Right p0).bind fun y7 =>
  bif !y7 then
    (l04_alive).bind fun y8 =>
    some y8
  else
  (ratio_Text p0).bind fun y9 =>
  (ratio_Parse y9).bind fun y10 =>
  (r04_In p0).bind fun y11 =>
  (r04_Text y11).bind fun y12 =>
  (bif (y9.toList == y12.toList) && (y10.2 == 0) then ratio_Same y10.1 p0 else some false).bind fun y13 =>
  (bif ((y9.toList == y12.toList) && (y10.2 == 0)) && y13 then l04_alive else some false).bind fun y14 =>
  bnd ((((y9.toList == y12.toList) && (y10.2 == 0)) && y13) && y14) fun x15 =>
  some x15
theorem l04_RatioTexts.ok {p0 : D_api_Ratio} {p1 : ByteArray} {r : Bool} (h : l04_RatioTexts p0 p1 = some r) : ACall prog 3 [⟨T_api_Ratio, p0⟩, ⟨.str, p1⟩] [⟨0, .bool, r⟩] := by
  replace h := Leads.of h
  unfold l04_RatioTexts at h
  refine AC func3 rfl fun w0 F0 hw0 => ?_
  refine W_seq ?_
  refine R [] [(1, .v 0 .str p1), (2, .box 0 T_api_Ratio p0)] pz ?_
  refine W_seq (W_seq ?_)
  obtain ⟨y1, ey1, h⟩ := h.bind
  refine R [.res [(0, ⟨0, .bool, y1⟩)]] [(1, .v 0 .str p1), (2, .box 0 T_api_Ratio p0), (29, .v 0 .bool (((!y1) || ((decide ((p1.size : Int) > 200)) && (decide ((p1.size : Int) ≤ 4096)))) || (decide ((p1.size : Int) > 5000))))] (ps (l04_short.ok ey1)) ?_
  refine C h (fun h => ?_) fun h => ?_
  · refine W_seq ?_
    obtain ⟨y2, ey2, h⟩ := h.bind
    refine R [.res [(0, ⟨0, .bool, y2⟩)]] [(4, .v 0 .bool y2)] (ps (l04_alive.ok ey2)) ?_
    cases h
    exact Rt hw0
  refine W_skip (W_seq ?_)
  obtain ⟨y3, ey3, h⟩ := h.bind
  refine R [.res [(0, ⟨0, T_api_Ratio, y3.1⟩), (0, ⟨0, .int .i64, y3.2⟩)]] [(1, .v 0 .str p1), (2, .box 0 T_api_Ratio p0), (5, .box 0 T_api_Ratio y3.1), (6, .v 0 (.int .i64) y3.2)] (ps (ratio_Parse.ok ey3)) ?_
  refine W_seq ?_
  obtain ⟨y4, ey4, h⟩ := h.bind
  refine R [.res [(0, ⟨0, T_r04_Q, y4.1⟩), (0, ⟨0, .int .i64, y4.2⟩)]] [(2, .box 0 T_api_Ratio p0), (5, .box 0 T_api_Ratio y3.1), (6, .v 0 (.int .i64) y3.2), (7, .box 0 T_r04_Q y4.1), (8, .v 0 (.int .i64) y4.2)] (ps (r04_Parse.ok ey4)) ?_
  refine W_seq (W_seq ?_)
  obtain ⟨y5, ey5, h⟩ := h.bind
  obtain ⟨y6, ey6, h⟩ := h.bind
  refine R [.res [(0, ⟨0, .bool, y5⟩)], .res [(0, ⟨0, .bool, y6⟩)]] [(2, .box 0 T_api_Ratio p0), (62, .v 0 .bool (((y3.2 != y4.2) || ((y3.2 == 0) && (!y5))) || ((y3.2 != 0) && (!y6))))] (pc (fun hc => r04_Same.ok (bif_some ey5 hc)) (ps (fun hc => l04_none.ok (bif_some ey6 hc)))) ?_
  refine C h (fun h => ?_) fun h => ?_
  · refine W_seq ?_
    refine R [] [(4, .v 0 .bool false)] pz ?_
    cases h
    exact Rt hw0
  refine W_skip (W_seq (W_seq ?_))
  obtain ⟨y7, ey7, h⟩ := h.bind
  refine R [.res [(0, ⟨0, .bool, y7⟩)]] [(2, .box 0 T_api_Ratio p0), (65, .v 0 .bool (!y7))] (ps (r04_Right.ok ey7)) ?_
  refine C h (fun h => ?_) fun h => ?_
  · refine W_seq ?_
    obtain ⟨y8, ey8, h⟩ := h.bind
    refine R [.res [(0, ⟨0, .bool, y8⟩)]] [(4, .v 0 .bool y8)] (ps (l04_alive.ok ey8)) ?_
    cases h
    exact Rt hw0
  refine W_skip (W_seq ?_)
  obtain ⟨y9, ey9, h⟩ := h.bind
  refine R [.res [(0, ⟨0, .str, y9⟩)]] [(2, .box 0 T_api_Ratio p0), (9, .v 0 .str y9)] (ps (ratio_Text.ok ey9)) ?_
  refine W_seq ?_
  obtain ⟨y10, ey10, h⟩ := h.bind
  refine R [.res [(0, ⟨0, T_api_Ratio, y10.1⟩), (0, ⟨0, .int .i64, y10.2⟩)]] [(2, .box 0 T_api_Ratio p0), (9, .v 0 .str y9), (10, .box 0 T_api_Ratio y10.1), (11, .v 0 (.int .i64) y10.2)] (ps (ratio_Parse.ok ey10)) ?_
  refine W_seq ?_
  obtain ⟨y11, ey11, h⟩ := h.bind
  obtain ⟨y12, ey12, h⟩ := h.bind
  obtain ⟨y13, ey13, h⟩ := h.bind
  obtain ⟨y14, ey14, h⟩ := h.bind
  refine R1 h [.res [(0, ⟨0, T_r04_Q, y11⟩)], .res [(0, ⟨0, .str, y12⟩)], .res [(0, ⟨0, .bool, y13⟩)], .res [(0, ⟨0, .bool, y14⟩)]] (fun x15 => [(4, .v 0 .bool x15)]) (pc (r04_In.ok ey11) (pc (r04_Text.ok ey12) (pc (fun hc => ratio_Same.ok (bif_some ey13 hc)) (ps (fun hc => l04_alive.ok (bif_some ey14 hc)))))) fun x15 h => ?_
  cases h
  exact Rt hw0

end
end Go.Tom
