/- Each function of the program as a pure one, and the proof that the code keeps that contract. -/
import Derived.Test.YtagcgcpapjidcaaGenA
set_option linter.unusedVariables false
set_option linter.constructorNameAsVariable false
set_option maxRecDepth 100000
namespace Go.Tom
open Go Go.Proofs.Try
noncomputable def dag_heads_j1 (x2 : List (List Int)) : Option (List (List Int)) :=
  some x2
noncomputable def dag_heads_j2 (x4 : Int) (x6 : List (List Int)) : Option (((List (List Int)) × Int) ⊕ (List (List Int))) :=
  bnd (IntKind.i64.wrap (x4 + (1 : Int))) fun x7 =>
  some (.inl (x6, x7))
noncomputable def dag_heads_b1 (p1 : List D_dag_Arrow) (x3 : List (List Int)) (x4 : Int) : Option (((List (List Int)) × Int) ⊕ (List (List Int))) :=
  bif decide (x4 < (p1.length : Int)) then
    ass (0 ≤ x4 ∧ x4 < (p1.length : Int)) <|
    bnd (rd z_dag_Arrow p1 x4) fun x5 =>
    bif (((decide (x5.1 ≥ (0 : Int))) && (decide (x5.1 < (x3.length : Int)))) && (decide (x5.2 ≥ (0 : Int)))) && (decide (x5.2 < (x3.length : Int))) then
      ass (0 ≤ x5.1 ∧ x5.1 < (x3.length : Int)) <|
      ass ((((rd ([] : List Int) x3 x5.1).length + [x5.2].length : Nat) : Int) ≤ limA) <|
      bnd (wr x3 x5.1 ((rd ([] : List Int) x3 x5.1) ++ [x5.2])) fun x8 =>
      dag_heads_j2 x4 x8
    else
      dag_heads_j2 x4 x3
  else
    (dag_heads_j1 x3).map .inr
noncomputable def dag_heads (p0 : Int) (p1 : List D_dag_Arrow) : Option (List (List Int)) :=
  ass (0 ≤ (if (4096 : Int) < (if (0 : Int) > p0 then (0 : Int) else p0) then (4096 : Int) else (if (0 : Int) > p0 then (0 : Int) else p0)) ∧ (if (4096 : Int) < (if (0 : Int) > p0 then (0 : Int) else p0) then (4096 : Int) else (if (0 : Int) > p0 then (0 : Int) else p0)) ≤ (if (4096 : Int) < (if (0 : Int) > p0 then (0 : Int) else p0) then (4096 : Int) else (if (0 : Int) > p0 then (0 : Int) else p0)) ∧ (if (4096 : Int) < (if (0 : Int) > p0 then (0 : Int) else p0) then (4096 : Int) else (if (0 : Int) > p0 then (0 : Int) else p0)) ≤ lim) <|
  bnd (List.replicate (if (4096 : Int) < (if (0 : Int) > p0 then (0 : Int) else p0) then (4096 : Int) else (if (0 : Int) > p0 then (0 : Int) else p0)).toNat ([] : List Int)) fun x1 =>
  loopM (fun x : (List (List Int)) × Int => dag_heads_b1 p1 x.1 x.2) (x1, (0 : Int))
theorem dag_heads.ok {p0 : Int} {p1 : List D_dag_Arrow} {r : List (List Int)} (h : dag_heads p0 p1 = some r) : ACall prog 91 [⟨.int .i64, p0⟩, ⟨.slice T_dag_Arrow, p1⟩] [⟨9, .slice (.slice (.int .i64)), r⟩] := by
  replace h := Leads.of h
  unfold dag_heads at h
  refine acall_of func91 (by kernel_rfl) rfl (by kernel_rfl) fun w0 F0 => ?_
  refine W_seq ?_
  refine W_region mixed tys_ok (sup := []) (l := [(0, 0), (1, 0)]) (E' := [(0, .v 0 (.int .i64) p0), (1, .v 0 (.slice T_dag_Arrow) p1)]) (obs := []) (by kernel_rfl) (trivial) ?_
  refine W_seq ?_
  obtain ⟨o1, h⟩ := h.ass
  refine W_region mixed tys_ok (sup := []) (l := [(1, 0), (5, 9)]) (E' := [(1, .v 0 (.slice T_dag_Arrow) p1), (5, .v 9 (.slice (.slice (.int .i64))) (List.replicate (if (4096 : Int) < (if (0 : Int) > p0 then (0 : Int) else p0) then (4096 : Int) else (if (0 : Int) > p0 then (0 : Int) else p0)).toNat ([] : List Int)))]) (obs := [0 ≤ (if (4096 : Int) < (if (0 : Int) > p0 then (0 : Int) else p0) then (4096 : Int) else (if (0 : Int) > p0 then (0 : Int) else p0)) ∧ (if (4096 : Int) < (if (0 : Int) > p0 then (0 : Int) else p0) then (4096 : Int) else (if (0 : Int) > p0 then (0 : Int) else p0)) ≤ (if (4096 : Int) < (if (0 : Int) > p0 then (0 : Int) else p0) then (4096 : Int) else (if (0 : Int) > p0 then (0 : Int) else p0)) ∧ (if (4096 : Int) < (if (0 : Int) > p0 then (0 : Int) else p0) then (4096 : Int) else (if (0 : Int) > p0 then (0 : Int) else p0)) ≤ lim]) (by kernel_rfl) (o1) ?_
  refine W_gen (x := List.replicate (if (4096 : Int) < (if (0 : Int) > p0 then (0 : Int) else p0) then (4096 : Int) else (if (0 : Int) > p0 then (0 : Int) else p0)).toNat ([] : List Int)) (En := fun x1 => [(1, .v 0 (.slice T_dag_Arrow) p1), (5, .v 9 (.slice (.slice (.int .i64))) x1)]) h (fun x1 h => ?_)
  refine W_seq ?_
  refine W_seq ?_
  refine W_region mixed tys_ok (sup := []) (l := [(5, 9), (12, 0), (13, 0), (14, 0)]) (E' := [(5, .v 9 (.slice (.slice (.int .i64))) x1), (12, .v 0 (.slice T_dag_Arrow) p1), (13, .v 0 (.int .i64) (p1.length : Int)), (14, .v 0 (.int .i64) (0 : Int))]) (obs := []) (by kernel_rfl) (trivial) ?_
  refine W_join h (Ej := fun (x : List (List Int)) => [(5, .v 9 (.slice (.slice (.int .i64))) x)]) (p := fun x => dag_heads_j1 x) ?_ ?_
  · rintro x2 h
    replace h : Leads _ (dag_heads_j1 x2) := h
    unfold dag_heads_j1 at h
    show W _ _ _ _ _ _ [(5, .v 9 (.slice (.slice (.int .i64))) x2)]
    refine W_seq ?_
    refine W_region mixed tys_ok (sup := []) (l := [(4, 9)]) (E' := [(4, .v 9 (.slice (.slice (.int .i64))) x2)]) (obs := []) (by kernel_rfl) (trivial) ?_
    refine W_keep (l := [(4, 9)]) (E' := [(4, .v 9 (.slice (.slice (.int .i64))) x2)]) (by kernel_rfl) ?_
    replace h : x2 = r := h
    subst h
    exact W_ret tys_ok (by kernel_rfl) (by kernel_rfl)
  · intro j1
    refine W_block ?_
    refine W_keep (l := [(5, 9), (12, 0), (13, 0), (14, 0)]) (E' := [(5, .v 9 (.slice (.slice (.int .i64))) x1), (12, .v 0 (.slice T_dag_Arrow) p1), (13, .v 0 (.int .i64) (p1.length : Int)), (14, .v 0 (.int .i64) (0 : Int))]) (by kernel_rfl) ?_
    refine W_loop' (En := fun (x : (List (List Int)) × Int) => [(5, .v 9 (.slice (.slice (.int .i64))) x.1), (12, .v 0 (.slice T_dag_Arrow) p1), (13, .v 0 (.int .i64) (p1.length : Int)), (14, .v 0 (.int .i64) x.2)]) (x := (x1, (0 : Int))) h ?_
    rintro ⟨x3, x4⟩ K h
    replace h : Leads _ (dag_heads_b1 p1 x3 x4) := h
    unfold dag_heads_b1 at h
    show W _ _ _ _ _ _ [(5, .v 9 (.slice (.slice (.int .i64))) x3), (12, .v 0 (.slice T_dag_Arrow) p1), (13, .v 0 (.int .i64) (p1.length : Int)), (14, .v 0 (.int .i64) x4)]
    refine W_seq ?_
    refine W_region mixed tys_ok (sup := []) (l := [(5, 9), (12, 0), (13, 0), (14, 0), (15, 0)]) (E' := [(5, .v 9 (.slice (.slice (.int .i64))) x3), (12, .v 0 (.slice T_dag_Arrow) p1), (13, .v 0 (.int .i64) (p1.length : Int)), (14, .v 0 (.int .i64) x4), (15, .v 0 .bool (decide (x4 < (p1.length : Int))))]) (obs := []) (by kernel_rfl) (trivial) ?_
    refine W_seq ?_
    refine W_cond (β := decide (x4 < (p1.length : Int))) (by kernel_rfl) (fun hb => ?_) (fun hb => ?_)
    · rw [hb] at h; rw [cond_true] at h
      refine W_skip ?_
      refine W_seq ?_
      refine W_block ?_
      refine W_seq ?_
      obtain ⟨o1, h⟩ := h.ass
      refine W_region mixed tys_ok (sup := []) (l := [(5, 9), (7, 9), (12, 0), (13, 0), (14, 0)]) (E' := [(5, .v 9 (.slice (.slice (.int .i64))) x3), (7, .box 9 T_dag_Arrow (rd z_dag_Arrow p1 x4)), (12, .v 0 (.slice T_dag_Arrow) p1), (13, .v 0 (.int .i64) (p1.length : Int)), (14, .v 0 (.int .i64) x4)]) (obs := [0 ≤ x4 ∧ x4 < (p1.length : Int)]) (by kernel_rfl) (o1) ?_
      refine W_gen (x := rd z_dag_Arrow p1 x4) (En := fun x5 => [(5, .v 9 (.slice (.slice (.int .i64))) x3), (7, .box 9 T_dag_Arrow x5), (12, .v 0 (.slice T_dag_Arrow) p1), (13, .v 0 (.int .i64) (p1.length : Int)), (14, .v 0 (.int .i64) x4)]) h (fun x5 h => ?_)
      refine W_seq ?_
      refine W_region mixed tys_ok (sup := []) (l := [(5, 9), (7, 9), (12, 0), (13, 0), (14, 0), (39, 0)]) (E' := [(5, .v 9 (.slice (.slice (.int .i64))) x3), (7, .box 9 T_dag_Arrow x5), (12, .v 0 (.slice T_dag_Arrow) p1), (13, .v 0 (.int .i64) (p1.length : Int)), (14, .v 0 (.int .i64) x4), (39, .v 0 .bool ((((decide (x5.1 ≥ (0 : Int))) && (decide (x5.1 < (x3.length : Int)))) && (decide (x5.2 ≥ (0 : Int)))) && (decide (x5.2 < (x3.length : Int)))))]) (obs := []) (by kernel_rfl) (trivial) ?_
      refine W_join h (Ej := fun (x : List (List Int)) => [(5, .v 9 (.slice (.slice (.int .i64))) x), (12, .v 0 (.slice T_dag_Arrow) p1), (13, .v 0 (.int .i64) (p1.length : Int)), (14, .v 0 (.int .i64) x4)]) (p := fun x => dag_heads_j2 x4 x) ?_ ?_
      · rintro x6 h
        replace h : Leads _ (dag_heads_j2 x4 x6) := h
        unfold dag_heads_j2 at h
        show W _ _ _ _ _ _ [(5, .v 9 (.slice (.slice (.int .i64))) x6), (12, .v 0 (.slice T_dag_Arrow) p1), (13, .v 0 (.int .i64) (p1.length : Int)), (14, .v 0 (.int .i64) x4)]
        refine W_blk ?_
        refine W_region mixed tys_ok (sup := []) (l := [(5, 9), (12, 0), (13, 0), (14, 0)]) (E' := [(5, .v 9 (.slice (.slice (.int .i64))) x6), (12, .v 0 (.slice T_dag_Arrow) p1), (13, .v 0 (.int .i64) (p1.length : Int)), (14, .v 0 (.int .i64) (IntKind.i64.wrap (x4 + (1 : Int))))]) (obs := []) (by kernel_rfl) (trivial) ?_
        refine W_gen (x := IntKind.i64.wrap (x4 + (1 : Int))) (En := fun x7 => [(5, .v 9 (.slice (.slice (.int .i64))) x6), (12, .v 0 (.slice T_dag_Arrow) p1), (13, .v 0 (.int .i64) (p1.length : Int)), (14, .v 0 (.int .i64) x7)]) h (fun x7 h => ?_)
        refine W_keep (l := [(5, 9), (12, 0), (13, 0), (14, 0)]) (E' := [(5, .v 9 (.slice (.slice (.int .i64))) x6), (12, .v 0 (.slice T_dag_Arrow) p1), (13, .v 0 (.int .i64) (p1.length : Int)), (14, .v 0 (.int .i64) x7)]) (by kernel_rfl) ?_
        exact W_abs h
      · intro j2
        refine W_cond (β := (((decide (x5.1 ≥ (0 : Int))) && (decide (x5.1 < (x3.length : Int)))) && (decide (x5.2 ≥ (0 : Int)))) && (decide (x5.2 < (x3.length : Int)))) (by kernel_rfl) (fun hb => ?_) (fun hb => ?_)
        · rw [hb] at h; rw [cond_true] at h
          obtain ⟨o1, h⟩ := h.ass
          obtain ⟨o2, h⟩ := h.ass
          refine W_regionL mixed tys_ok (sup := []) (l := [(5, 9), (12, 0), (13, 0), (14, 0)]) (E' := [(5, .v 9 (.slice (.slice (.int .i64))) (wr x3 x5.1 ((rd ([] : List Int) x3 x5.1) ++ [x5.2]))), (12, .v 0 (.slice T_dag_Arrow) p1), (13, .v 0 (.int .i64) (p1.length : Int)), (14, .v 0 (.int .i64) x4)]) (obs := [0 ≤ x5.1 ∧ x5.1 < (x3.length : Int), (((rd ([] : List Int) x3 x5.1).length + [x5.2].length : Nat) : Int) ≤ limA, (⟨.int .i64, x5.1⟩ : TV) = ⟨.int .i64, x5.1⟩, x5.1 = x5.1]) (by kernel_rfl) (⟨o1, o2, rfl, rfl⟩) ?_
          refine W_gen (x := wr x3 x5.1 ((rd ([] : List Int) x3 x5.1) ++ [x5.2])) (En := fun x8 => [(5, .v 9 (.slice (.slice (.int .i64))) x8), (12, .v 0 (.slice T_dag_Arrow) p1), (13, .v 0 (.int .i64) (p1.length : Int)), (14, .v 0 (.int .i64) x4)]) h (fun x8 h => ?_)
          refine W_keep (l := [(5, 9), (12, 0), (13, 0), (14, 0)]) (E' := [(5, .v 9 (.slice (.slice (.int .i64))) x8), (12, .v 0 (.slice T_dag_Arrow) p1), (13, .v 0 (.int .i64) (p1.length : Int)), (14, .v 0 (.int .i64) x4)]) (by kernel_rfl) ?_
          exact j2 x8 h
        · rw [hb] at h; rw [cond_false] at h
          refine W_skip ?_
          refine W_keep (l := [(5, 9), (12, 0), (13, 0), (14, 0)]) (E' := [(5, .v 9 (.slice (.slice (.int .i64))) x3), (12, .v 0 (.slice T_dag_Arrow) p1), (13, .v 0 (.int .i64) (p1.length : Int)), (14, .v 0 (.int .i64) x4)]) (by kernel_rfl) ?_
          exact j2 x3 h
    · rw [hb] at h; rw [cond_false] at h
      refine W_exit rfl ?_
      refine W_keep (l := [(5, 9)]) (E' := [(5, .v 9 (.slice (.slice (.int .i64))) x3)]) (by kernel_rfl) ?_
      exact j1 x3 h.back

noncomputable def dag_Order_j2 (x4 : List Int) : Option ((List Int) × Bool) :=
  some (x4, true)
noncomputable def dag_Order_b2 (y1 : List (List Int)) (y7 : Int) (x9 : List Int) (x10 : List Int) (x11 : List Int) (x12 : Int) : Option (((List Int) × Int) ⊕ (((List Int) × (List Int)) ⊕ ((List Int) × Bool))) :=
  bif decide (x12 < ((rd ([] : List Int) y1 y7).length : Int)) then
    ass (0 ≤ x12 ∧ x12 < (x10.length : Int)) <|
    bnd (rd (0 : Int) x10 x12) fun x13 =>
    ass (0 ≤ x13 ∧ x13 < (x11.length : Int)) <|
    bnd (wr x11 x13 (IntKind.i64.wrap ((rd (0 : Int) x11 x13) - (1 : Int)))) fun x14 =>
    bnd (IntKind.i64.wrap (x12 + (1 : Int))) fun x15 =>
    some (.inl (x14, x15))
  else
    some (.inr (.inl (x11, x9)))
noncomputable def dag_Order_b1 (y1 : List (List Int)) (x5 : List Int) (x6 : List Int) : Option (((List Int) × (List Int)) ⊕ ((List Int) × Bool)) :=
  bif decide ((x6.length : Int) < (y1.length : Int)) then
    (slices_Index_int_int x5 (0 : Int)).bind fun y7 =>
    bif decide (y7 < (0 : Int)) then
      some (.inr (([] : List Int), false))
    else
      ass (0 ≤ y7 ∧ y7 < (x5.length : Int)) <|
      bnd (wr x5 y7 (-1 : Int)) fun x8 =>
      ass (((x6.length + [y7].length : Nat) : Int) ≤ limA) <|
      bnd (x6 ++ [y7]) fun x9 =>
      ass (0 ≤ y7 ∧ y7 < (y1.length : Int)) <|
      bnd (rd ([] : List Int) y1 y7) fun x10 =>
      loopM (fun x : (List Int) × Int => dag_Order_b2 y1 y7 x9 x10 x.1 x.2) (x8, (0 : Int))
  else
    (dag_Order_j2 x6).map .inr
noncomputable def dag_Order_j1 (y1 : List (List Int)) (x3 : List Int) : Option ((List Int) × Bool) :=
  loopM (fun x : (List Int) × (List Int) => dag_Order_b1 y1 x.1 x.2) (x3, ([] : List Int))
noncomputable def dag_Order_j3 (x17 : Int) (x18 : List Int) : Option (((List Int) × Int) ⊕ ((List Int) × Bool)) :=
  bnd (IntKind.i64.wrap (x17 + (1 : Int))) fun x19 =>
  some (.inl (x18, x19))
noncomputable def dag_Order_j4 (x17 : Int) (x21 : List Int) : Option (((List Int) × Int) ⊕ ((List Int) × Bool)) :=
  dag_Order_j3 x17 x21
noncomputable def dag_Order_b4 (x17 : Int) (x20 : List Int) (x22 : List Int) (x23 : Int) : Option (((List Int) × Int) ⊕ (((List Int) × Int) ⊕ ((List Int) × Bool))) :=
  bif decide (x23 < (x20.length : Int)) then
    ass (0 ≤ x23 ∧ x23 < (x20.length : Int)) <|
    bnd (rd (0 : Int) x20 x23) fun x24 =>
    ass (0 ≤ x24 ∧ x24 < (x22.length : Int)) <|
    bnd (wr x22 x24 (IntKind.i64.wrap ((rd (0 : Int) x22 x24) + (1 : Int)))) fun x25 =>
    bnd (IntKind.i64.wrap (x23 + (1 : Int))) fun x26 =>
    some (.inl (x25, x26))
  else
    (dag_Order_j4 x17 x22).map .inr
noncomputable def dag_Order_b3 (y1 : List (List Int)) (x16 : List Int) (x17 : Int) : Option (((List Int) × Int) ⊕ ((List Int) × Bool)) :=
  bif decide (x17 < (y1.length : Int)) then
    ass (0 ≤ x17 ∧ x17 < (y1.length : Int)) <|
    bnd (rd ([] : List Int) y1 x17) fun x20 =>
    loopM (fun x : (List Int) × Int => dag_Order_b4 x17 x20 x.1 x.2) (x16, (0 : Int))
  else
    (dag_Order_j1 y1 x16).map .inr
noncomputable def dag_Order (p0 : Int) (p1 : List D_dag_Arrow) : Option ((List Int) × Bool) :=
  (dag_heads p0 p1).bind fun y1 =>
  ass (0 ≤ (y1.length : Int) ∧ (y1.length : Int) ≤ (y1.length : Int) ∧ (y1.length : Int) ≤ lim) <|
  bnd (List.replicate (y1.length : Int).toNat (0 : Int)) fun x2 =>
  loopM (fun x : (List Int) × Int => dag_Order_b3 y1 x.1 x.2) (x2, (0 : Int))
theorem dag_Order.ok {p0 : Int} {p1 : List D_dag_Arrow} {r : (List Int) × Bool} (h : dag_Order p0 p1 = some r) : ACall prog 29 [⟨.int .i64, p0⟩, ⟨.slice T_dag_Arrow, p1⟩] [⟨9, .slice (.int .i64), r.1⟩, ⟨0, .bool, r.2⟩] := by
  replace h := Leads.of h
  unfold dag_Order at h
  refine acall_of func29 (by kernel_rfl) rfl (by kernel_rfl) fun w0 F0 => ?_
  refine W_seq ?_
  refine W_region mixed tys_ok (sup := []) (l := [(0, 0), (1, 0)]) (E' := [(0, .v 0 (.int .i64) p0), (1, .v 0 (.slice T_dag_Arrow) p1)]) (obs := []) (by kernel_rfl) (trivial) ?_
  refine W_seq ?_
  obtain ⟨y1, ey1, h⟩ := h.bind
  refine W_region mixed tys_ok (sup := [.res [(9, ⟨9, .slice (.slice (.int .i64)), y1⟩)]]) (l := [(6, 9)]) (E' := [(6, .v 9 (.slice (.slice (.int .i64))) y1)]) (obs := [ACall prog 91 [⟨.int .i64, p0⟩, ⟨.slice T_dag_Arrow, p1⟩] [⟨9, .slice (.slice (.int .i64)), y1⟩]]) (by kernel_rfl) (dag_heads.ok ey1) ?_
  refine W_seq ?_
  obtain ⟨o1, h⟩ := h.ass
  refine W_region mixed tys_ok (sup := []) (l := [(6, 9), (7, 9)]) (E' := [(6, .v 9 (.slice (.slice (.int .i64))) y1), (7, .v 9 (.slice (.int .i64)) (List.replicate (y1.length : Int).toNat (0 : Int)))]) (obs := [0 ≤ (y1.length : Int) ∧ (y1.length : Int) ≤ (y1.length : Int) ∧ (y1.length : Int) ≤ lim]) (by kernel_rfl) (o1) ?_
  refine W_gen (x := List.replicate (y1.length : Int).toNat (0 : Int)) (En := fun x2 => [(6, .v 9 (.slice (.slice (.int .i64))) y1), (7, .v 9 (.slice (.int .i64)) x2)]) h (fun x2 h => ?_)
  refine W_seq ?_
  refine W_seq ?_
  refine W_keep (l := [(6, 0), (7, 9)]) (E' := [(6, .v 0 (.slice (.slice (.int .i64))) y1), (7, .v 9 (.slice (.int .i64)) x2)]) (by kernel_rfl) ?_
  refine W_region mixed tys_ok (sup := []) (l := [(6, 0), (7, 9), (22, 0), (23, 0), (24, 0)]) (E' := [(6, .v 0 (.slice (.slice (.int .i64))) y1), (7, .v 9 (.slice (.int .i64)) x2), (22, .v 0 (.slice (.slice (.int .i64))) y1), (23, .v 0 (.int .i64) (y1.length : Int)), (24, .v 0 (.int .i64) (0 : Int))]) (obs := []) (by kernel_rfl) (trivial) ?_
  refine W_join h (Ej := fun (x : List Int) => [(6, .v 0 (.slice (.slice (.int .i64))) y1), (7, .v 9 (.slice (.int .i64)) x)]) (p := fun x => dag_Order_j1 y1 x) ?_ ?_
  · rintro x3 h
    replace h : Leads _ (dag_Order_j1 y1 x3) := h
    unfold dag_Order_j1 at h
    show W _ _ _ _ _ _ [(6, .v 0 (.slice (.slice (.int .i64))) y1), (7, .v 9 (.slice (.int .i64)) x3)]
    refine W_seq ?_
    refine W_region mixed tys_ok (sup := []) (l := [(6, 0), (7, 9), (12, 9)]) (E' := [(6, .v 0 (.slice (.slice (.int .i64))) y1), (7, .v 9 (.slice (.int .i64)) x3), (12, .v 9 (.slice (.int .i64)) ([] : List Int))]) (obs := []) (by kernel_rfl) (trivial) ?_
    refine W_seq ?_
    refine W_join h (Ej := fun (x : List Int) => [(12, .v 9 (.slice (.int .i64)) x)]) (p := fun x => dag_Order_j2 x) ?_ ?_
    · rintro x4 h
      replace h : Leads _ (dag_Order_j2 x4) := h
      unfold dag_Order_j2 at h
      show W _ _ _ _ _ _ [(12, .v 9 (.slice (.int .i64)) x4)]
      refine W_seq ?_
      refine W_region mixed tys_ok (sup := []) (l := [(4, 9), (5, 0)]) (E' := [(4, .v 9 (.slice (.int .i64)) x4), (5, .v 0 .bool true)]) (obs := []) (by kernel_rfl) (trivial) ?_
      refine W_keep (l := [(4, 9), (5, 0)]) (E' := [(4, .v 9 (.slice (.int .i64)) x4), (5, .v 0 .bool true)]) (by kernel_rfl) ?_
      replace h : ((x4, true)) = r := h
      subst h
      exact W_ret tys_ok (by kernel_rfl) (by kernel_rfl)
    · intro j2
      refine W_block ?_
      refine W_keep (l := [(6, 0), (7, 9), (12, 9)]) (E' := [(6, .v 0 (.slice (.slice (.int .i64))) y1), (7, .v 9 (.slice (.int .i64)) x3), (12, .v 9 (.slice (.int .i64)) ([] : List Int))]) (by kernel_rfl) ?_
      refine W_loop' (En := fun (x : (List Int) × (List Int)) => [(6, .v 0 (.slice (.slice (.int .i64))) y1), (7, .v 9 (.slice (.int .i64)) x.1), (12, .v 9 (.slice (.int .i64)) x.2)]) (x := (x3, ([] : List Int))) h ?_
      rintro ⟨x5, x6⟩ K h
      replace h : Leads _ (dag_Order_b1 y1 x5 x6) := h
      unfold dag_Order_b1 at h
      show W _ _ _ _ _ _ [(6, .v 0 (.slice (.slice (.int .i64))) y1), (7, .v 9 (.slice (.int .i64)) x5), (12, .v 9 (.slice (.int .i64)) x6)]
      refine W_seq ?_
      refine W_seq ?_
      refine W_region mixed tys_ok (sup := []) (l := [(6, 0), (7, 9), (12, 9), (46, 0)]) (E' := [(6, .v 0 (.slice (.slice (.int .i64))) y1), (7, .v 9 (.slice (.int .i64)) x5), (12, .v 9 (.slice (.int .i64)) x6), (46, .v 0 .bool (decide ((x6.length : Int) < (y1.length : Int))))]) (obs := []) (by kernel_rfl) (trivial) ?_
      refine W_cond (β := decide ((x6.length : Int) < (y1.length : Int))) (by kernel_rfl) (fun hb => ?_) (fun hb => ?_)
      · rw [hb] at h; rw [cond_true] at h
        refine W_skip ?_
        refine W_block ?_
        refine W_seq ?_
        obtain ⟨y7, ey7, h⟩ := h.bind
        refine W_region mixed tys_ok (sup := [.res [(0, ⟨0, .int .i64, y7⟩)]]) (l := [(6, 0), (7, 9), (12, 9), (13, 0)]) (E' := [(6, .v 0 (.slice (.slice (.int .i64))) y1), (7, .v 9 (.slice (.int .i64)) x5), (12, .v 9 (.slice (.int .i64)) x6), (13, .v 0 (.int .i64) y7)]) (obs := [ACall prog 92 [⟨.slice (.int .i64), x5⟩, ⟨.int .i64, (0 : Int)⟩] [⟨0, .int .i64, y7⟩]]) (by kernel_rfl) (slices_Index_int_int.ok ey7) ?_
        refine W_seq ?_
        refine W_seq ?_
        refine W_region mixed tys_ok (sup := []) (l := [(6, 0), (7, 9), (12, 9), (13, 0), (50, 0)]) (E' := [(6, .v 0 (.slice (.slice (.int .i64))) y1), (7, .v 9 (.slice (.int .i64)) x5), (12, .v 9 (.slice (.int .i64)) x6), (13, .v 0 (.int .i64) y7), (50, .v 0 .bool (decide (y7 < (0 : Int))))]) (obs := []) (by kernel_rfl) (trivial) ?_
        refine W_cond (β := decide (y7 < (0 : Int))) (by kernel_rfl) (fun hb => ?_) (fun hb => ?_)
        · rw [hb] at h; rw [cond_true] at h
          refine W_seq ?_
          refine W_region mixed tys_ok (sup := []) (l := [(4, 9), (5, 0)]) (E' := [(4, .v 9 (.slice (.int .i64)) ([] : List Int)), (5, .v 0 .bool false)]) (obs := []) (by kernel_rfl) (trivial) ?_
          refine W_keep (l := [(4, 9), (5, 0)]) (E' := [(4, .v 9 (.slice (.int .i64)) ([] : List Int)), (5, .v 0 .bool false)]) (by kernel_rfl) ?_
          replace h : ((([] : List Int), false)) = r := h
          subst h
          exact W_ret tys_ok (by kernel_rfl) (by kernel_rfl)
        · rw [hb] at h; rw [cond_false] at h
          refine W_skip ?_
          refine W_seq ?_
          obtain ⟨o1, h⟩ := h.ass
          refine W_region mixed tys_ok (sup := []) (l := [(6, 0), (7, 9), (12, 9), (13, 0)]) (E' := [(6, .v 0 (.slice (.slice (.int .i64))) y1), (7, .v 9 (.slice (.int .i64)) (wr x5 y7 (-1 : Int))), (12, .v 9 (.slice (.int .i64)) x6), (13, .v 0 (.int .i64) y7)]) (obs := [0 ≤ y7 ∧ y7 < (x5.length : Int)]) (by kernel_rfl) (o1) ?_
          refine W_gen (x := wr x5 y7 (-1 : Int)) (En := fun x8 => [(6, .v 0 (.slice (.slice (.int .i64))) y1), (7, .v 9 (.slice (.int .i64)) x8), (12, .v 9 (.slice (.int .i64)) x6), (13, .v 0 (.int .i64) y7)]) h (fun x8 h => ?_)
          refine W_seq ?_
          obtain ⟨o1, h⟩ := h.ass
          refine W_region mixed tys_ok (sup := []) (l := [(6, 0), (7, 9), (12, 9), (13, 0)]) (E' := [(6, .v 0 (.slice (.slice (.int .i64))) y1), (7, .v 9 (.slice (.int .i64)) x8), (12, .v 9 (.slice (.int .i64)) (x6 ++ [y7])), (13, .v 0 (.int .i64) y7)]) (obs := [((x6.length + [y7].length : Nat) : Int) ≤ limA]) (by kernel_rfl) (o1) ?_
          refine W_gen (x := x6 ++ [y7]) (En := fun x9 => [(6, .v 0 (.slice (.slice (.int .i64))) y1), (7, .v 9 (.slice (.int .i64)) x8), (12, .v 9 (.slice (.int .i64)) x9), (13, .v 0 (.int .i64) y7)]) h (fun x9 h => ?_)
          refine W_seq ?_
          obtain ⟨o1, h⟩ := h.ass
          refine W_region mixed tys_ok (sup := []) (l := [(6, 0), (7, 9), (12, 9), (61, 0), (62, 0), (63, 0)]) (E' := [(6, .v 0 (.slice (.slice (.int .i64))) y1), (7, .v 9 (.slice (.int .i64)) x8), (12, .v 9 (.slice (.int .i64)) x9), (61, .v 0 (.slice (.int .i64)) (rd ([] : List Int) y1 y7)), (62, .v 0 (.int .i64) ((rd ([] : List Int) y1 y7).length : Int)), (63, .v 0 (.int .i64) (0 : Int))]) (obs := [0 ≤ y7 ∧ y7 < (y1.length : Int)]) (by kernel_rfl) (o1) ?_
          refine W_gen (x := rd ([] : List Int) y1 y7) (En := fun x10 => [(6, .v 0 (.slice (.slice (.int .i64))) y1), (7, .v 9 (.slice (.int .i64)) x8), (12, .v 9 (.slice (.int .i64)) x9), (61, .v 0 (.slice (.int .i64)) x10), (62, .v 0 (.int .i64) ((rd ([] : List Int) y1 y7).length : Int)), (63, .v 0 (.int .i64) (0 : Int))]) h (fun x10 h => ?_)
          refine W_block ?_
          refine W_keep (l := [(6, 0), (7, 9), (12, 9), (61, 0), (62, 0), (63, 0)]) (E' := [(6, .v 0 (.slice (.slice (.int .i64))) y1), (7, .v 9 (.slice (.int .i64)) x8), (12, .v 9 (.slice (.int .i64)) x9), (61, .v 0 (.slice (.int .i64)) x10), (62, .v 0 (.int .i64) ((rd ([] : List Int) y1 y7).length : Int)), (63, .v 0 (.int .i64) (0 : Int))]) (by kernel_rfl) ?_
          refine W_loop' (En := fun (x : (List Int) × Int) => [(6, .v 0 (.slice (.slice (.int .i64))) y1), (7, .v 9 (.slice (.int .i64)) x.1), (12, .v 9 (.slice (.int .i64)) x9), (61, .v 0 (.slice (.int .i64)) x10), (62, .v 0 (.int .i64) ((rd ([] : List Int) y1 y7).length : Int)), (63, .v 0 (.int .i64) x.2)]) (x := (x8, (0 : Int))) h ?_
          rintro ⟨x11, x12⟩ K h
          replace h : Leads _ (dag_Order_b2 y1 y7 x9 x10 x11 x12) := h
          unfold dag_Order_b2 at h
          show W _ _ _ _ _ _ [(6, .v 0 (.slice (.slice (.int .i64))) y1), (7, .v 9 (.slice (.int .i64)) x11), (12, .v 9 (.slice (.int .i64)) x9), (61, .v 0 (.slice (.int .i64)) x10), (62, .v 0 (.int .i64) ((rd ([] : List Int) y1 y7).length : Int)), (63, .v 0 (.int .i64) x12)]
          refine W_seq ?_
          refine W_region mixed tys_ok (sup := []) (l := [(6, 0), (7, 9), (12, 9), (61, 0), (62, 0), (63, 0), (64, 0)]) (E' := [(6, .v 0 (.slice (.slice (.int .i64))) y1), (7, .v 9 (.slice (.int .i64)) x11), (12, .v 9 (.slice (.int .i64)) x9), (61, .v 0 (.slice (.int .i64)) x10), (62, .v 0 (.int .i64) ((rd ([] : List Int) y1 y7).length : Int)), (63, .v 0 (.int .i64) x12), (64, .v 0 .bool (decide (x12 < ((rd ([] : List Int) y1 y7).length : Int))))]) (obs := []) (by kernel_rfl) (trivial) ?_
          refine W_seq ?_
          refine W_cond (β := decide (x12 < ((rd ([] : List Int) y1 y7).length : Int))) (by kernel_rfl) (fun hb => ?_) (fun hb => ?_)
          · rw [hb] at h; rw [cond_true] at h
            refine W_skip ?_
            refine W_seq ?_
            refine W_block ?_
            refine W_seq ?_
            obtain ⟨o1, h⟩ := h.ass
            refine W_region mixed tys_ok (sup := []) (l := [(6, 0), (7, 9), (12, 9), (15, 0), (61, 0), (62, 0), (63, 0)]) (E' := [(6, .v 0 (.slice (.slice (.int .i64))) y1), (7, .v 9 (.slice (.int .i64)) x11), (12, .v 9 (.slice (.int .i64)) x9), (15, .v 0 (.int .i64) (rd (0 : Int) x10 x12)), (61, .v 0 (.slice (.int .i64)) x10), (62, .v 0 (.int .i64) ((rd ([] : List Int) y1 y7).length : Int)), (63, .v 0 (.int .i64) x12)]) (obs := [0 ≤ x12 ∧ x12 < (x10.length : Int)]) (by kernel_rfl) (o1) ?_
            refine W_gen (x := rd (0 : Int) x10 x12) (En := fun x13 => [(6, .v 0 (.slice (.slice (.int .i64))) y1), (7, .v 9 (.slice (.int .i64)) x11), (12, .v 9 (.slice (.int .i64)) x9), (15, .v 0 (.int .i64) x13), (61, .v 0 (.slice (.int .i64)) x10), (62, .v 0 (.int .i64) ((rd ([] : List Int) y1 y7).length : Int)), (63, .v 0 (.int .i64) x12)]) h (fun x13 h => ?_)
            obtain ⟨o1, h⟩ := h.ass
            refine W_region mixed tys_ok (sup := []) (l := [(6, 0), (7, 9), (12, 9), (61, 0), (62, 0), (63, 0)]) (E' := [(6, .v 0 (.slice (.slice (.int .i64))) y1), (7, .v 9 (.slice (.int .i64)) (wr x11 x13 (IntKind.i64.wrap ((rd (0 : Int) x11 x13) - (1 : Int))))), (12, .v 9 (.slice (.int .i64)) x9), (61, .v 0 (.slice (.int .i64)) x10), (62, .v 0 (.int .i64) ((rd ([] : List Int) y1 y7).length : Int)), (63, .v 0 (.int .i64) x12)]) (obs := [0 ≤ x13 ∧ x13 < (x11.length : Int), 0 ≤ x13 ∧ x13 < (x11.length : Int)]) (by kernel_rfl) (⟨o1, o1⟩) ?_
            refine W_gen (x := wr x11 x13 (IntKind.i64.wrap ((rd (0 : Int) x11 x13) - (1 : Int)))) (En := fun x14 => [(6, .v 0 (.slice (.slice (.int .i64))) y1), (7, .v 9 (.slice (.int .i64)) x14), (12, .v 9 (.slice (.int .i64)) x9), (61, .v 0 (.slice (.int .i64)) x10), (62, .v 0 (.int .i64) ((rd ([] : List Int) y1 y7).length : Int)), (63, .v 0 (.int .i64) x12)]) h (fun x14 h => ?_)
            refine W_blk ?_
            refine W_region mixed tys_ok (sup := []) (l := [(6, 0), (7, 9), (12, 9), (61, 0), (62, 0), (63, 0)]) (E' := [(6, .v 0 (.slice (.slice (.int .i64))) y1), (7, .v 9 (.slice (.int .i64)) x14), (12, .v 9 (.slice (.int .i64)) x9), (61, .v 0 (.slice (.int .i64)) x10), (62, .v 0 (.int .i64) ((rd ([] : List Int) y1 y7).length : Int)), (63, .v 0 (.int .i64) (IntKind.i64.wrap (x12 + (1 : Int))))]) (obs := []) (by kernel_rfl) (trivial) ?_
            refine W_gen (x := IntKind.i64.wrap (x12 + (1 : Int))) (En := fun x15 => [(6, .v 0 (.slice (.slice (.int .i64))) y1), (7, .v 9 (.slice (.int .i64)) x14), (12, .v 9 (.slice (.int .i64)) x9), (61, .v 0 (.slice (.int .i64)) x10), (62, .v 0 (.int .i64) ((rd ([] : List Int) y1 y7).length : Int)), (63, .v 0 (.int .i64) x15)]) h (fun x15 h => ?_)
            refine W_keep (l := [(6, 0), (7, 9), (12, 9), (61, 0), (62, 0), (63, 0)]) (E' := [(6, .v 0 (.slice (.slice (.int .i64))) y1), (7, .v 9 (.slice (.int .i64)) x14), (12, .v 9 (.slice (.int .i64)) x9), (61, .v 0 (.slice (.int .i64)) x10), (62, .v 0 (.int .i64) ((rd ([] : List Int) y1 y7).length : Int)), (63, .v 0 (.int .i64) x15)]) (by kernel_rfl) ?_
            exact W_abs h
          · rw [hb] at h; rw [cond_false] at h
            refine W_exit rfl ?_
            refine W_blk ?_
            refine W_keep (l := [(6, 0), (7, 9), (12, 9)]) (E' := [(6, .v 0 (.slice (.slice (.int .i64))) y1), (7, .v 9 (.slice (.int .i64)) x11), (12, .v 9 (.slice (.int .i64)) x9)]) (by kernel_rfl) ?_
            exact W_abs h
      · rw [hb] at h; rw [cond_false] at h
        refine W_exit rfl ?_
        refine W_keep (l := [(12, 9)]) (E' := [(12, .v 9 (.slice (.int .i64)) x6)]) (by kernel_rfl) ?_
        exact j2 x6 h.back
  · intro j1
    refine W_block ?_
    refine W_keep (l := [(6, 0), (7, 9), (22, 0), (23, 0), (24, 0)]) (E' := [(6, .v 0 (.slice (.slice (.int .i64))) y1), (7, .v 9 (.slice (.int .i64)) x2), (22, .v 0 (.slice (.slice (.int .i64))) y1), (23, .v 0 (.int .i64) (y1.length : Int)), (24, .v 0 (.int .i64) (0 : Int))]) (by kernel_rfl) ?_
    refine W_loop' (En := fun (x : (List Int) × Int) => [(6, .v 0 (.slice (.slice (.int .i64))) y1), (7, .v 9 (.slice (.int .i64)) x.1), (22, .v 0 (.slice (.slice (.int .i64))) y1), (23, .v 0 (.int .i64) (y1.length : Int)), (24, .v 0 (.int .i64) x.2)]) (x := (x2, (0 : Int))) h ?_
    rintro ⟨x16, x17⟩ K h
    replace h : Leads _ (dag_Order_b3 y1 x16 x17) := h
    unfold dag_Order_b3 at h
    show W _ _ _ _ _ _ [(6, .v 0 (.slice (.slice (.int .i64))) y1), (7, .v 9 (.slice (.int .i64)) x16), (22, .v 0 (.slice (.slice (.int .i64))) y1), (23, .v 0 (.int .i64) (y1.length : Int)), (24, .v 0 (.int .i64) x17)]
    refine W_seq ?_
    refine W_region mixed tys_ok (sup := []) (l := [(6, 0), (7, 9), (22, 0), (23, 0), (24, 0), (25, 0)]) (E' := [(6, .v 0 (.slice (.slice (.int .i64))) y1), (7, .v 9 (.slice (.int .i64)) x16), (22, .v 0 (.slice (.slice (.int .i64))) y1), (23, .v 0 (.int .i64) (y1.length : Int)), (24, .v 0 (.int .i64) x17), (25, .v 0 .bool (decide (x17 < (y1.length : Int))))]) (obs := []) (by kernel_rfl) (trivial) ?_
    refine W_seq ?_
    refine W_cond (β := decide (x17 < (y1.length : Int))) (by kernel_rfl) (fun hb => ?_) (fun hb => ?_)
    · rw [hb] at h; rw [cond_true] at h
      refine W_skip ?_
      refine W_seq ?_
      refine W_join h (Ej := fun (x : List Int) => [(6, .v 0 (.slice (.slice (.int .i64))) y1), (7, .v 9 (.slice (.int .i64)) x), (22, .v 0 (.slice (.slice (.int .i64))) y1), (23, .v 0 (.int .i64) (y1.length : Int)), (24, .v 0 (.int .i64) x17)]) (p := fun x => dag_Order_j3 x17 x) ?_ ?_
      · rintro x18 h
        replace h : Leads _ (dag_Order_j3 x17 x18) := h
        unfold dag_Order_j3 at h
        show W _ _ _ _ _ _ [(6, .v 0 (.slice (.slice (.int .i64))) y1), (7, .v 9 (.slice (.int .i64)) x18), (22, .v 0 (.slice (.slice (.int .i64))) y1), (23, .v 0 (.int .i64) (y1.length : Int)), (24, .v 0 (.int .i64) x17)]
        refine W_region mixed tys_ok (sup := []) (l := [(6, 0), (7, 9), (22, 0), (23, 0), (24, 0)]) (E' := [(6, .v 0 (.slice (.slice (.int .i64))) y1), (7, .v 9 (.slice (.int .i64)) x18), (22, .v 0 (.slice (.slice (.int .i64))) y1), (23, .v 0 (.int .i64) (y1.length : Int)), (24, .v 0 (.int .i64) (IntKind.i64.wrap (x17 + (1 : Int))))]) (obs := []) (by kernel_rfl) (trivial) ?_
        refine W_gen (x := IntKind.i64.wrap (x17 + (1 : Int))) (En := fun x19 => [(6, .v 0 (.slice (.slice (.int .i64))) y1), (7, .v 9 (.slice (.int .i64)) x18), (22, .v 0 (.slice (.slice (.int .i64))) y1), (23, .v 0 (.int .i64) (y1.length : Int)), (24, .v 0 (.int .i64) x19)]) h (fun x19 h => ?_)
        refine W_keep (l := [(6, 0), (7, 9), (22, 0), (23, 0), (24, 0)]) (E' := [(6, .v 0 (.slice (.slice (.int .i64))) y1), (7, .v 9 (.slice (.int .i64)) x18), (22, .v 0 (.slice (.slice (.int .i64))) y1), (23, .v 0 (.int .i64) (y1.length : Int)), (24, .v 0 (.int .i64) x19)]) (by kernel_rfl) ?_
        exact W_abs h
      · intro j3
        refine W_block ?_
        refine W_seq ?_
        obtain ⟨o1, h⟩ := h.ass
        refine W_region mixed tys_ok (sup := []) (l := [(6, 0), (7, 9), (9, 0), (22, 0), (23, 0), (24, 0)]) (E' := [(6, .v 0 (.slice (.slice (.int .i64))) y1), (7, .v 9 (.slice (.int .i64)) x16), (9, .v 0 (.slice (.int .i64)) (rd ([] : List Int) y1 x17)), (22, .v 0 (.slice (.slice (.int .i64))) y1), (23, .v 0 (.int .i64) (y1.length : Int)), (24, .v 0 (.int .i64) x17)]) (obs := [0 ≤ x17 ∧ x17 < (y1.length : Int)]) (by kernel_rfl) (o1) ?_
        refine W_gen (x := rd ([] : List Int) y1 x17) (En := fun x20 => [(6, .v 0 (.slice (.slice (.int .i64))) y1), (7, .v 9 (.slice (.int .i64)) x16), (9, .v 0 (.slice (.int .i64)) x20), (22, .v 0 (.slice (.slice (.int .i64))) y1), (23, .v 0 (.int .i64) (y1.length : Int)), (24, .v 0 (.int .i64) x17)]) h (fun x20 h => ?_)
        refine W_seq ?_
        refine W_region mixed tys_ok (sup := []) (l := [(6, 0), (7, 9), (22, 0), (23, 0), (24, 0), (28, 0), (29, 0), (30, 0)]) (E' := [(6, .v 0 (.slice (.slice (.int .i64))) y1), (7, .v 9 (.slice (.int .i64)) x16), (22, .v 0 (.slice (.slice (.int .i64))) y1), (23, .v 0 (.int .i64) (y1.length : Int)), (24, .v 0 (.int .i64) x17), (28, .v 0 (.slice (.int .i64)) x20), (29, .v 0 (.int .i64) (x20.length : Int)), (30, .v 0 (.int .i64) (0 : Int))]) (obs := []) (by kernel_rfl) (trivial) ?_
        refine W_join h (Ej := fun (x : List Int) => [(6, .v 0 (.slice (.slice (.int .i64))) y1), (7, .v 9 (.slice (.int .i64)) x), (22, .v 0 (.slice (.slice (.int .i64))) y1), (23, .v 0 (.int .i64) (y1.length : Int)), (24, .v 0 (.int .i64) x17)]) (p := fun x => dag_Order_j4 x17 x) ?_ ?_
        · rintro x21 h
          replace h : Leads _ (dag_Order_j4 x17 x21) := h
          unfold dag_Order_j4 at h
          show W _ _ _ _ _ _ [(6, .v 0 (.slice (.slice (.int .i64))) y1), (7, .v 9 (.slice (.int .i64)) x21), (22, .v 0 (.slice (.slice (.int .i64))) y1), (23, .v 0 (.int .i64) (y1.length : Int)), (24, .v 0 (.int .i64) x17)]
          refine W_blk ?_
          refine W_keep (l := [(6, 0), (7, 9), (22, 0), (23, 0), (24, 0)]) (E' := [(6, .v 0 (.slice (.slice (.int .i64))) y1), (7, .v 9 (.slice (.int .i64)) x21), (22, .v 0 (.slice (.slice (.int .i64))) y1), (23, .v 0 (.int .i64) (y1.length : Int)), (24, .v 0 (.int .i64) x17)]) (by kernel_rfl) ?_
          exact j3 x21 h
        · intro j4
          refine W_block ?_
          refine W_keep (l := [(6, 0), (7, 9), (22, 0), (23, 0), (24, 0), (28, 0), (29, 0), (30, 0)]) (E' := [(6, .v 0 (.slice (.slice (.int .i64))) y1), (7, .v 9 (.slice (.int .i64)) x16), (22, .v 0 (.slice (.slice (.int .i64))) y1), (23, .v 0 (.int .i64) (y1.length : Int)), (24, .v 0 (.int .i64) x17), (28, .v 0 (.slice (.int .i64)) x20), (29, .v 0 (.int .i64) (x20.length : Int)), (30, .v 0 (.int .i64) (0 : Int))]) (by kernel_rfl) ?_
          refine W_loop' (En := fun (x : (List Int) × Int) => [(6, .v 0 (.slice (.slice (.int .i64))) y1), (7, .v 9 (.slice (.int .i64)) x.1), (22, .v 0 (.slice (.slice (.int .i64))) y1), (23, .v 0 (.int .i64) (y1.length : Int)), (24, .v 0 (.int .i64) x17), (28, .v 0 (.slice (.int .i64)) x20), (29, .v 0 (.int .i64) (x20.length : Int)), (30, .v 0 (.int .i64) x.2)]) (x := (x16, (0 : Int))) h ?_
          rintro ⟨x22, x23⟩ K h
          replace h : Leads _ (dag_Order_b4 x17 x20 x22 x23) := h
          unfold dag_Order_b4 at h
          show W _ _ _ _ _ _ [(6, .v 0 (.slice (.slice (.int .i64))) y1), (7, .v 9 (.slice (.int .i64)) x22), (22, .v 0 (.slice (.slice (.int .i64))) y1), (23, .v 0 (.int .i64) (y1.length : Int)), (24, .v 0 (.int .i64) x17), (28, .v 0 (.slice (.int .i64)) x20), (29, .v 0 (.int .i64) (x20.length : Int)), (30, .v 0 (.int .i64) x23)]
          refine W_seq ?_
          refine W_region mixed tys_ok (sup := []) (l := [(6, 0), (7, 9), (22, 0), (23, 0), (24, 0), (28, 0), (29, 0), (30, 0), (31, 0)]) (E' := [(6, .v 0 (.slice (.slice (.int .i64))) y1), (7, .v 9 (.slice (.int .i64)) x22), (22, .v 0 (.slice (.slice (.int .i64))) y1), (23, .v 0 (.int .i64) (y1.length : Int)), (24, .v 0 (.int .i64) x17), (28, .v 0 (.slice (.int .i64)) x20), (29, .v 0 (.int .i64) (x20.length : Int)), (30, .v 0 (.int .i64) x23), (31, .v 0 .bool (decide (x23 < (x20.length : Int))))]) (obs := []) (by kernel_rfl) (trivial) ?_
          refine W_seq ?_
          refine W_cond (β := decide (x23 < (x20.length : Int))) (by kernel_rfl) (fun hb => ?_) (fun hb => ?_)
          · rw [hb] at h; rw [cond_true] at h
            refine W_skip ?_
            refine W_seq ?_
            refine W_block ?_
            refine W_seq ?_
            obtain ⟨o1, h⟩ := h.ass
            refine W_region mixed tys_ok (sup := []) (l := [(6, 0), (7, 9), (11, 0), (22, 0), (23, 0), (24, 0), (28, 0), (29, 0), (30, 0)]) (E' := [(6, .v 0 (.slice (.slice (.int .i64))) y1), (7, .v 9 (.slice (.int .i64)) x22), (11, .v 0 (.int .i64) (rd (0 : Int) x20 x23)), (22, .v 0 (.slice (.slice (.int .i64))) y1), (23, .v 0 (.int .i64) (y1.length : Int)), (24, .v 0 (.int .i64) x17), (28, .v 0 (.slice (.int .i64)) x20), (29, .v 0 (.int .i64) (x20.length : Int)), (30, .v 0 (.int .i64) x23)]) (obs := [0 ≤ x23 ∧ x23 < (x20.length : Int)]) (by kernel_rfl) (o1) ?_
            refine W_gen (x := rd (0 : Int) x20 x23) (En := fun x24 => [(6, .v 0 (.slice (.slice (.int .i64))) y1), (7, .v 9 (.slice (.int .i64)) x22), (11, .v 0 (.int .i64) x24), (22, .v 0 (.slice (.slice (.int .i64))) y1), (23, .v 0 (.int .i64) (y1.length : Int)), (24, .v 0 (.int .i64) x17), (28, .v 0 (.slice (.int .i64)) x20), (29, .v 0 (.int .i64) (x20.length : Int)), (30, .v 0 (.int .i64) x23)]) h (fun x24 h => ?_)
            obtain ⟨o1, h⟩ := h.ass
            refine W_region mixed tys_ok (sup := []) (l := [(6, 0), (7, 9), (22, 0), (23, 0), (24, 0), (28, 0), (29, 0), (30, 0)]) (E' := [(6, .v 0 (.slice (.slice (.int .i64))) y1), (7, .v 9 (.slice (.int .i64)) (wr x22 x24 (IntKind.i64.wrap ((rd (0 : Int) x22 x24) + (1 : Int))))), (22, .v 0 (.slice (.slice (.int .i64))) y1), (23, .v 0 (.int .i64) (y1.length : Int)), (24, .v 0 (.int .i64) x17), (28, .v 0 (.slice (.int .i64)) x20), (29, .v 0 (.int .i64) (x20.length : Int)), (30, .v 0 (.int .i64) x23)]) (obs := [0 ≤ x24 ∧ x24 < (x22.length : Int), 0 ≤ x24 ∧ x24 < (x22.length : Int)]) (by kernel_rfl) (⟨o1, o1⟩) ?_
            refine W_gen (x := wr x22 x24 (IntKind.i64.wrap ((rd (0 : Int) x22 x24) + (1 : Int)))) (En := fun x25 => [(6, .v 0 (.slice (.slice (.int .i64))) y1), (7, .v 9 (.slice (.int .i64)) x25), (22, .v 0 (.slice (.slice (.int .i64))) y1), (23, .v 0 (.int .i64) (y1.length : Int)), (24, .v 0 (.int .i64) x17), (28, .v 0 (.slice (.int .i64)) x20), (29, .v 0 (.int .i64) (x20.length : Int)), (30, .v 0 (.int .i64) x23)]) h (fun x25 h => ?_)
            refine W_blk ?_
            refine W_region mixed tys_ok (sup := []) (l := [(6, 0), (7, 9), (22, 0), (23, 0), (24, 0), (28, 0), (29, 0), (30, 0)]) (E' := [(6, .v 0 (.slice (.slice (.int .i64))) y1), (7, .v 9 (.slice (.int .i64)) x25), (22, .v 0 (.slice (.slice (.int .i64))) y1), (23, .v 0 (.int .i64) (y1.length : Int)), (24, .v 0 (.int .i64) x17), (28, .v 0 (.slice (.int .i64)) x20), (29, .v 0 (.int .i64) (x20.length : Int)), (30, .v 0 (.int .i64) (IntKind.i64.wrap (x23 + (1 : Int))))]) (obs := []) (by kernel_rfl) (trivial) ?_
            refine W_gen (x := IntKind.i64.wrap (x23 + (1 : Int))) (En := fun x26 => [(6, .v 0 (.slice (.slice (.int .i64))) y1), (7, .v 9 (.slice (.int .i64)) x25), (22, .v 0 (.slice (.slice (.int .i64))) y1), (23, .v 0 (.int .i64) (y1.length : Int)), (24, .v 0 (.int .i64) x17), (28, .v 0 (.slice (.int .i64)) x20), (29, .v 0 (.int .i64) (x20.length : Int)), (30, .v 0 (.int .i64) x26)]) h (fun x26 h => ?_)
            refine W_keep (l := [(6, 0), (7, 9), (22, 0), (23, 0), (24, 0), (28, 0), (29, 0), (30, 0)]) (E' := [(6, .v 0 (.slice (.slice (.int .i64))) y1), (7, .v 9 (.slice (.int .i64)) x25), (22, .v 0 (.slice (.slice (.int .i64))) y1), (23, .v 0 (.int .i64) (y1.length : Int)), (24, .v 0 (.int .i64) x17), (28, .v 0 (.slice (.int .i64)) x20), (29, .v 0 (.int .i64) (x20.length : Int)), (30, .v 0 (.int .i64) x26)]) (by kernel_rfl) ?_
            exact W_abs h
          · rw [hb] at h; rw [cond_false] at h
            refine W_exit rfl ?_
            refine W_keep (l := [(6, 0), (7, 9), (22, 0), (23, 0), (24, 0)]) (E' := [(6, .v 0 (.slice (.slice (.int .i64))) y1), (7, .v 9 (.slice (.int .i64)) x22), (22, .v 0 (.slice (.slice (.int .i64))) y1), (23, .v 0 (.int .i64) (y1.length : Int)), (24, .v 0 (.int .i64) x17)]) (by kernel_rfl) ?_
            exact j4 x22 h.back
    · rw [hb] at h; rw [cond_false] at h
      refine W_exit rfl ?_
      refine W_keep (l := [(6, 0), (7, 9)]) (E' := [(6, .v 0 (.slice (.slice (.int .i64))) y1), (7, .v 9 (.slice (.int .i64)) x16)]) (by kernel_rfl) ?_
      exact j1 x16 h.back

noncomputable def slices_Clone_int_int (p0 : List Int) : Option (List Int) :=
  ass (((([] : List Int).length + p0.length : Nat) : Int) ≤ limA) <|
  bnd (([] : List Int) ++ p0) fun x2 =>
  some x2
theorem slices_Clone_int_int.ok {p0 : List Int} {r : List Int} (h : slices_Clone_int_int p0 = some r) : ACall prog 93 [⟨.slice (.int .i64), p0⟩] [⟨9, .slice (.int .i64), r⟩] := by
  replace h := Leads.of h
  unfold slices_Clone_int_int at h
  refine acall_of func93 (by kernel_rfl) rfl (by kernel_rfl) fun w0 F0 => ?_
  refine W_seq ?_
  refine W_region mixed tys_ok (sup := []) (l := [(0, 0)]) (E' := [(0, .v 0 (.slice (.int .i64)) p0)]) (obs := []) (by kernel_rfl) (trivial) ?_
  refine W_seq ?_
  refine W_seq ?_
  refine W_nilcmp tys_ok rfl (x := 3) (d := 4) (T := 26) rfl rfl rfl (E1 := [(3, .v 0 (.slice (.int .i64)) p0), (0, .v 0 (.slice (.int .i64)) p0)]) (by kernel_rfl) rfl rfl (by kernel_rfl) (fun nb1 hn => ?_)
  refine W_keep (l := [(0, 0), (4, 0)]) (E' := [(0, .v 0 (.slice (.int .i64)) p0), (4, .v 0 .bool nb1)]) (by kernel_rfl) ?_
  refine W_cond (β := nb1) (by kernel_rfl) (fun hb => ?_) (fun hb => ?_)
  · replace h := clone_nil (hn hb) h
    refine W_seq ?_
    refine W_region mixed tys_ok (sup := []) (l := [(2, 9)]) (E' := [(2, .v 9 (.slice (.int .i64)) ([] : List Int))]) (obs := []) (by kernel_rfl) (trivial) ?_
    refine W_keep (l := [(2, 9)]) (E' := [(2, .v 9 (.slice (.int .i64)) ([] : List Int))]) (by kernel_rfl) ?_
    replace h : (([] : List Int)) = r := h
    subst h
    exact W_ret tys_ok (by kernel_rfl) (by kernel_rfl)
  · skip
    refine W_skip ?_
    refine W_seq ?_
    obtain ⟨o1, h⟩ := h.ass
    refine W_region mixed tys_ok (sup := []) (l := [(2, 9)]) (E' := [(2, .v 9 (.slice (.int .i64)) (([] : List Int) ++ p0))]) (obs := [((([] : List Int).length + p0.length : Nat) : Int) ≤ limA]) (by kernel_rfl) (o1) ?_
    refine W_gen (x := ([] : List Int) ++ p0) (En := fun x2 => [(2, .v 9 (.slice (.int .i64)) x2)]) h (fun x2 h => ?_)
    refine W_keep (l := [(2, 9)]) (E' := [(2, .v 9 (.slice (.int .i64)) x2)]) (by kernel_rfl) ?_
    replace h : x2 = r := h
    subst h
    exact W_ret tys_ok (by kernel_rfl) (by kernel_rfl)

noncomputable def dag_Reach_j2 (x5 : List Int) : Option (List Int) :=
  some x5
noncomputable def dag_Reach_j3 (x7 : Int) (x9 : List Int) : Option (((List Int) × Int) ⊕ (List Int)) :=
  bnd (IntKind.i64.wrap (x7 + (1 : Int))) fun x10 =>
  some (.inl (x9, x10))
noncomputable def dag_Reach_b1 (x4 : List Bool) (x6 : List Int) (x7 : Int) : Option (((List Int) × Int) ⊕ (List Int)) :=
  bif decide (x7 < (x4.length : Int)) then
    ass (0 ≤ x7 ∧ x7 < (x4.length : Int)) <|
    bnd (rd false x4 x7) fun x8 =>
    bif x8 then
      ass (((x6.length + [x7].length : Nat) : Int) ≤ limA) <|
      bnd (x6 ++ [x7]) fun x11 =>
      dag_Reach_j3 x7 x11
    else
      dag_Reach_j3 x7 x6
  else
    (dag_Reach_j2 x6).map .inr
noncomputable def dag_Reach_j1 (x4 : List Bool) : Option (List Int) :=
  loopM (fun x : (List Int) × Int => dag_Reach_b1 x4 x.1 x.2) (([] : List Int), (0 : Int))
noncomputable def dag_Reach_b2 (y1 : List (List Int)) (x12 : List Bool) (x13 : List Int) : Option (((List Bool) × (List Int)) ⊕ (List Int)) :=
  bif decide ((x13.length : Int) > (0 : Int)) then
    ass (0 ≤ IntKind.i64.wrap ((x13.length : Int) - (1 : Int)) ∧ IntKind.i64.wrap ((x13.length : Int) - (1 : Int)) < (x13.length : Int)) <|
    bnd (rd (0 : Int) x13 (IntKind.i64.wrap ((x13.length : Int) - (1 : Int)))) fun x14 =>
    ass (0 ≤ (0 : Int) ∧ (0 : Int) ≤ IntKind.i64.wrap ((x13.length : Int) - (1 : Int)) ∧ IntKind.i64.wrap ((x13.length : Int) - (1 : Int)) ≤ (x13.length : Int)) <|
    bnd (sl x13 (0 : Int) (IntKind.i64.wrap ((x13.length : Int) - (1 : Int)))) fun x15 =>
    ass (0 ≤ x14 ∧ x14 < (x12.length : Int)) <|
    bif !(rd false x12 x14) then
      ass (0 ≤ x14 ∧ x14 < (x12.length : Int)) <|
      bnd (wr x12 x14 true) fun x16 =>
      ass (0 ≤ x14 ∧ x14 < (y1.length : Int)) <|
      ass (((x15.length + (rd ([] : List Int) y1 x14).length : Nat) : Int) ≤ limA) <|
      bnd (x15 ++ (rd ([] : List Int) y1 x14)) fun x17 =>
      some (.inl (x16, x17))
    else
      some (.inl (x12, x15))
  else
    (dag_Reach_j1 x12).map .inr
noncomputable def dag_Reach (p0 : Int) (p1 : List D_dag_Arrow) (p2 : Int) : Option (List Int) :=
  (dag_heads p0 p1).bind fun y1 =>
  bif (decide (p2 < (0 : Int))) || (decide (p2 ≥ (y1.length : Int))) then
    some ([] : List Int)
  else
    ass (0 ≤ (y1.length : Int) ∧ (y1.length : Int) ≤ (y1.length : Int) ∧ (y1.length : Int) ≤ lim) <|
    bnd (List.replicate (y1.length : Int).toNat false) fun x2 =>
    ass (0 ≤ p2 ∧ p2 < (y1.length : Int)) <|
    (slices_Clone_int_int (rd ([] : List Int) y1 p2)).bind fun y3 =>
    loopM (fun x : (List Bool) × (List Int) => dag_Reach_b2 y1 x.1 x.2) (x2, y3)
theorem dag_Reach.ok {p0 : Int} {p1 : List D_dag_Arrow} {p2 : Int} {r : List Int} (h : dag_Reach p0 p1 p2 = some r) : ACall prog 35 [⟨.int .i64, p0⟩, ⟨.slice T_dag_Arrow, p1⟩, ⟨.int .i64, p2⟩] [⟨9, .slice (.int .i64), r⟩] := by
  replace h := Leads.of h
  unfold dag_Reach at h
  refine acall_of func35 (by kernel_rfl) rfl (by kernel_rfl) fun w0 F0 => ?_
  refine W_seq ?_
  refine W_region mixed tys_ok (sup := []) (l := [(0, 0), (1, 0), (2, 0), (6, 9)]) (E' := [(0, .v 0 (.int .i64) p0), (1, .v 0 (.slice T_dag_Arrow) p1), (2, .v 0 (.int .i64) p2), (6, .v 9 (.slice (.int .i64)) ([] : List Int))]) (obs := []) (by kernel_rfl) (trivial) ?_
  refine W_seq ?_
  obtain ⟨y1, ey1, h⟩ := h.bind
  refine W_region mixed tys_ok (sup := [.res [(9, ⟨9, .slice (.slice (.int .i64)), y1⟩)]]) (l := [(2, 0), (6, 9), (7, 9)]) (E' := [(2, .v 0 (.int .i64) p2), (6, .v 9 (.slice (.int .i64)) ([] : List Int)), (7, .v 9 (.slice (.slice (.int .i64))) y1)]) (obs := [ACall prog 91 [⟨.int .i64, p0⟩, ⟨.slice T_dag_Arrow, p1⟩] [⟨9, .slice (.slice (.int .i64)), y1⟩]]) (by kernel_rfl) (dag_heads.ok ey1) ?_
  refine W_seq ?_
  refine W_seq ?_
  refine W_region mixed tys_ok (sup := []) (l := [(2, 0), (6, 9), (7, 9), (23, 0)]) (E' := [(2, .v 0 (.int .i64) p2), (6, .v 9 (.slice (.int .i64)) ([] : List Int)), (7, .v 9 (.slice (.slice (.int .i64))) y1), (23, .v 0 .bool ((decide (p2 < (0 : Int))) || (decide (p2 ≥ (y1.length : Int)))))]) (obs := []) (by kernel_rfl) (trivial) ?_
  refine W_cond (β := (decide (p2 < (0 : Int))) || (decide (p2 ≥ (y1.length : Int)))) (by kernel_rfl) (fun hb => ?_) (fun hb => ?_)
  · rw [hb] at h; rw [cond_true] at h
    refine W_seq ?_
    refine W_region mixed tys_ok (sup := []) (l := [(6, 9)]) (E' := [(6, .v 9 (.slice (.int .i64)) ([] : List Int))]) (obs := []) (by kernel_rfl) (trivial) ?_
    refine W_keep (l := [(6, 9)]) (E' := [(6, .v 9 (.slice (.int .i64)) ([] : List Int))]) (by kernel_rfl) ?_
    replace h : (([] : List Int)) = r := h
    subst h
    exact W_ret tys_ok (by kernel_rfl) (by kernel_rfl)
  · rw [hb] at h; rw [cond_false] at h
    refine W_skip ?_
    refine W_seq ?_
    obtain ⟨o1, h⟩ := h.ass
    refine W_region mixed tys_ok (sup := []) (l := [(2, 0), (6, 9), (7, 9), (8, 9)]) (E' := [(2, .v 0 (.int .i64) p2), (6, .v 9 (.slice (.int .i64)) ([] : List Int)), (7, .v 9 (.slice (.slice (.int .i64))) y1), (8, .v 9 (.slice .bool) (List.replicate (y1.length : Int).toNat false))]) (obs := [0 ≤ (y1.length : Int) ∧ (y1.length : Int) ≤ (y1.length : Int) ∧ (y1.length : Int) ≤ lim]) (by kernel_rfl) (o1) ?_
    refine W_gen (x := List.replicate (y1.length : Int).toNat false) (En := fun x2 => [(2, .v 0 (.int .i64) p2), (6, .v 9 (.slice (.int .i64)) ([] : List Int)), (7, .v 9 (.slice (.slice (.int .i64))) y1), (8, .v 9 (.slice .bool) x2)]) h (fun x2 h => ?_)
    refine W_seq ?_
    refine W_seq ?_
    obtain ⟨o1, h⟩ := h.ass
    obtain ⟨y3, ey3, h⟩ := h.bind
    refine W_region mixed tys_ok (sup := [.res [(9, ⟨9, .slice (.int .i64), y3⟩)]]) (l := [(6, 9), (7, 9), (8, 9), (9, 9)]) (E' := [(6, .v 9 (.slice (.int .i64)) ([] : List Int)), (7, .v 9 (.slice (.slice (.int .i64))) y1), (8, .v 9 (.slice .bool) x2), (9, .v 9 (.slice (.int .i64)) y3)]) (obs := [0 ≤ p2 ∧ p2 < (y1.length : Int), ACall prog 93 [⟨.slice (.int .i64), rd ([] : List Int) y1 p2⟩] [⟨9, .slice (.int .i64), y3⟩]]) (by kernel_rfl) (⟨o1, slices_Clone_int_int.ok ey3⟩) ?_
    refine W_join h (Ej := fun (x : List Bool) => [(6, .v 9 (.slice (.int .i64)) ([] : List Int)), (8, .v 9 (.slice .bool) x)]) (p := fun x => dag_Reach_j1 x) ?_ ?_
    · rintro x4 h
      replace h : Leads _ (dag_Reach_j1 x4) := h
      unfold dag_Reach_j1 at h
      show W _ _ _ _ _ _ [(6, .v 9 (.slice (.int .i64)) ([] : List Int)), (8, .v 9 (.slice .bool) x4)]
      refine W_seq ?_
      refine W_seq ?_
      refine W_region mixed tys_ok (sup := []) (l := [(6, 9), (8, 9), (60, 0), (61, 0), (62, 0)]) (E' := [(6, .v 9 (.slice (.int .i64)) ([] : List Int)), (8, .v 9 (.slice .bool) x4), (60, .bor 8 []), (61, .v 0 (.int .i64) (x4.length : Int)), (62, .v 0 (.int .i64) (0 : Int))]) (obs := []) (by kernel_rfl) (trivial) ?_
      refine W_join h (Ej := fun (x : List Int) => [(6, .v 9 (.slice (.int .i64)) x)]) (p := fun x => dag_Reach_j2 x) ?_ ?_
      · rintro x5 h
        replace h : Leads _ (dag_Reach_j2 x5) := h
        unfold dag_Reach_j2 at h
        show W _ _ _ _ _ _ [(6, .v 9 (.slice (.int .i64)) x5)]
        refine W_seq ?_
        refine W_region mixed tys_ok (sup := []) (l := [(6, 9)]) (E' := [(6, .v 9 (.slice (.int .i64)) x5)]) (obs := []) (by kernel_rfl) (trivial) ?_
        refine W_keep (l := [(6, 9)]) (E' := [(6, .v 9 (.slice (.int .i64)) x5)]) (by kernel_rfl) ?_
        replace h : x5 = r := h
        subst h
        exact W_ret tys_ok (by kernel_rfl) (by kernel_rfl)
      · intro j2
        refine W_block ?_
        refine W_keep (l := [(6, 9), (8, 9), (60, 0), (61, 0), (62, 0)]) (E' := [(6, .v 9 (.slice (.int .i64)) ([] : List Int)), (8, .v 9 (.slice .bool) x4), (60, .bor 8 []), (61, .v 0 (.int .i64) (x4.length : Int)), (62, .v 0 (.int .i64) (0 : Int))]) (by kernel_rfl) ?_
        refine W_loop' (En := fun (x : (List Int) × Int) => [(6, .v 9 (.slice (.int .i64)) x.1), (8, .v 9 (.slice .bool) x4), (60, .bor 8 []), (61, .v 0 (.int .i64) (x4.length : Int)), (62, .v 0 (.int .i64) x.2)]) (x := (([] : List Int), (0 : Int))) h ?_
        rintro ⟨x6, x7⟩ K h
        replace h : Leads _ (dag_Reach_b1 x4 x6 x7) := h
        unfold dag_Reach_b1 at h
        show W _ _ _ _ _ _ [(6, .v 9 (.slice (.int .i64)) x6), (8, .v 9 (.slice .bool) x4), (60, .bor 8 []), (61, .v 0 (.int .i64) (x4.length : Int)), (62, .v 0 (.int .i64) x7)]
        refine W_seq ?_
        refine W_region mixed tys_ok (sup := []) (l := [(6, 9), (8, 9), (60, 0), (61, 0), (62, 0), (63, 0)]) (E' := [(6, .v 9 (.slice (.int .i64)) x6), (8, .v 9 (.slice .bool) x4), (60, .bor 8 []), (61, .v 0 (.int .i64) (x4.length : Int)), (62, .v 0 (.int .i64) x7), (63, .v 0 .bool (decide (x7 < (x4.length : Int))))]) (obs := []) (by kernel_rfl) (trivial) ?_
        refine W_seq ?_
        refine W_cond (β := decide (x7 < (x4.length : Int))) (by kernel_rfl) (fun hb => ?_) (fun hb => ?_)
        · rw [hb] at h; rw [cond_true] at h
          refine W_skip ?_
          refine W_seq ?_
          refine W_block ?_
          refine W_seq ?_
          obtain ⟨o1, h⟩ := h.ass
          refine W_region mixed tys_ok (sup := []) (l := [(6, 9), (8, 9), (11, 0), (12, 0), (60, 0), (61, 0), (62, 0)]) (E' := [(6, .v 9 (.slice (.int .i64)) x6), (8, .v 9 (.slice .bool) x4), (11, .v 0 (.int .i64) x7), (12, .v 0 .bool (rd false x4 x7)), (60, .bor 8 []), (61, .v 0 (.int .i64) (x4.length : Int)), (62, .v 0 (.int .i64) x7)]) (obs := [0 ≤ x7 ∧ x7 < (x4.length : Int)]) (by kernel_rfl) (o1) ?_
          refine W_gen (x := rd false x4 x7) (En := fun x8 => [(6, .v 9 (.slice (.int .i64)) x6), (8, .v 9 (.slice .bool) x4), (11, .v 0 (.int .i64) x7), (12, .v 0 .bool x8), (60, .bor 8 []), (61, .v 0 (.int .i64) (x4.length : Int)), (62, .v 0 (.int .i64) x7)]) h (fun x8 h => ?_)
          refine W_seq ?_
          refine W_region mixed tys_ok (sup := []) (l := [(6, 9), (8, 9), (11, 0), (60, 0), (61, 0), (62, 0), (67, 0)]) (E' := [(6, .v 9 (.slice (.int .i64)) x6), (8, .v 9 (.slice .bool) x4), (11, .v 0 (.int .i64) x7), (60, .bor 8 []), (61, .v 0 (.int .i64) (x4.length : Int)), (62, .v 0 (.int .i64) x7), (67, .v 0 .bool x8)]) (obs := []) (by kernel_rfl) (trivial) ?_
          refine W_join h (Ej := fun (x : List Int) => [(6, .v 9 (.slice (.int .i64)) x), (8, .v 9 (.slice .bool) x4), (60, .bor 8 []), (61, .v 0 (.int .i64) (x4.length : Int)), (62, .v 0 (.int .i64) x7)]) (p := fun x => dag_Reach_j3 x7 x) ?_ ?_
          · rintro x9 h
            replace h : Leads _ (dag_Reach_j3 x7 x9) := h
            unfold dag_Reach_j3 at h
            show W _ _ _ _ _ _ [(6, .v 9 (.slice (.int .i64)) x9), (8, .v 9 (.slice .bool) x4), (60, .bor 8 []), (61, .v 0 (.int .i64) (x4.length : Int)), (62, .v 0 (.int .i64) x7)]
            refine W_blk ?_
            refine W_region mixed tys_ok (sup := []) (l := [(6, 9), (8, 9), (60, 0), (61, 0), (62, 0)]) (E' := [(6, .v 9 (.slice (.int .i64)) x9), (8, .v 9 (.slice .bool) x4), (60, .bor 8 []), (61, .v 0 (.int .i64) (x4.length : Int)), (62, .v 0 (.int .i64) (IntKind.i64.wrap (x7 + (1 : Int))))]) (obs := []) (by kernel_rfl) (trivial) ?_
            refine W_gen (x := IntKind.i64.wrap (x7 + (1 : Int))) (En := fun x10 => [(6, .v 9 (.slice (.int .i64)) x9), (8, .v 9 (.slice .bool) x4), (60, .bor 8 []), (61, .v 0 (.int .i64) (x4.length : Int)), (62, .v 0 (.int .i64) x10)]) h (fun x10 h => ?_)
            refine W_keep (l := [(6, 9), (8, 9), (60, 0), (61, 0), (62, 0)]) (E' := [(6, .v 9 (.slice (.int .i64)) x9), (8, .v 9 (.slice .bool) x4), (60, .bor 8 []), (61, .v 0 (.int .i64) (x4.length : Int)), (62, .v 0 (.int .i64) x10)]) (by kernel_rfl) ?_
            exact W_abs h
          · intro j3
            refine W_cond (β := x8) (by kernel_rfl) (fun hb => ?_) (fun hb => ?_)
            · rw [cond_tt hb] at h
              obtain ⟨o1, h⟩ := h.ass
              refine W_region mixed tys_ok (sup := []) (l := [(6, 9), (8, 9), (60, 0), (61, 0), (62, 0)]) (E' := [(6, .v 9 (.slice (.int .i64)) (x6 ++ [x7])), (8, .v 9 (.slice .bool) x4), (60, .bor 8 []), (61, .v 0 (.int .i64) (x4.length : Int)), (62, .v 0 (.int .i64) x7)]) (obs := [((x6.length + [x7].length : Nat) : Int) ≤ limA]) (by kernel_rfl) (o1) ?_
              refine W_gen (x := x6 ++ [x7]) (En := fun x11 => [(6, .v 9 (.slice (.int .i64)) x11), (8, .v 9 (.slice .bool) x4), (60, .bor 8 []), (61, .v 0 (.int .i64) (x4.length : Int)), (62, .v 0 (.int .i64) x7)]) h (fun x11 h => ?_)
              refine W_keep (l := [(6, 9), (8, 9), (60, 0), (61, 0), (62, 0)]) (E' := [(6, .v 9 (.slice (.int .i64)) x11), (8, .v 9 (.slice .bool) x4), (60, .bor 8 []), (61, .v 0 (.int .i64) (x4.length : Int)), (62, .v 0 (.int .i64) x7)]) (by kernel_rfl) ?_
              exact j3 x11 h
            · rw [cond_ff hb] at h
              refine W_skip ?_
              refine W_keep (l := [(6, 9), (8, 9), (60, 0), (61, 0), (62, 0)]) (E' := [(6, .v 9 (.slice (.int .i64)) x6), (8, .v 9 (.slice .bool) x4), (60, .bor 8 []), (61, .v 0 (.int .i64) (x4.length : Int)), (62, .v 0 (.int .i64) x7)]) (by kernel_rfl) ?_
              exact j3 x6 h
        · rw [hb] at h; rw [cond_false] at h
          refine W_exit rfl ?_
          refine W_keep (l := [(6, 9)]) (E' := [(6, .v 9 (.slice (.int .i64)) x6)]) (by kernel_rfl) ?_
          exact j2 x6 h.back
    · intro j1
      refine W_block ?_
      refine W_keep (l := [(6, 9), (7, 9), (8, 9), (9, 9)]) (E' := [(6, .v 9 (.slice (.int .i64)) ([] : List Int)), (7, .v 9 (.slice (.slice (.int .i64))) y1), (8, .v 9 (.slice .bool) x2), (9, .v 9 (.slice (.int .i64)) y3)]) (by kernel_rfl) ?_
      refine W_loop' (En := fun (x : (List Bool) × (List Int)) => [(6, .v 9 (.slice (.int .i64)) ([] : List Int)), (7, .v 9 (.slice (.slice (.int .i64))) y1), (8, .v 9 (.slice .bool) x.1), (9, .v 9 (.slice (.int .i64)) x.2)]) (x := (x2, y3)) h ?_
      rintro ⟨x12, x13⟩ K h
      replace h : Leads _ (dag_Reach_b2 y1 x12 x13) := h
      unfold dag_Reach_b2 at h
      show W _ _ _ _ _ _ [(6, .v 9 (.slice (.int .i64)) ([] : List Int)), (7, .v 9 (.slice (.slice (.int .i64))) y1), (8, .v 9 (.slice .bool) x12), (9, .v 9 (.slice (.int .i64)) x13)]
      refine W_seq ?_
      refine W_seq ?_
      refine W_region mixed tys_ok (sup := []) (l := [(6, 9), (7, 9), (8, 9), (9, 9), (34, 0)]) (E' := [(6, .v 9 (.slice (.int .i64)) ([] : List Int)), (7, .v 9 (.slice (.slice (.int .i64))) y1), (8, .v 9 (.slice .bool) x12), (9, .v 9 (.slice (.int .i64)) x13), (34, .v 0 .bool (decide ((x13.length : Int) > (0 : Int))))]) (obs := []) (by kernel_rfl) (trivial) ?_
      refine W_cond (β := decide ((x13.length : Int) > (0 : Int))) (by kernel_rfl) (fun hb => ?_) (fun hb => ?_)
      · rw [hb] at h; rw [cond_true] at h
        refine W_skip ?_
        refine W_block ?_
        refine W_seq ?_
        obtain ⟨o1, h⟩ := h.ass
        refine W_region mixed tys_ok (sup := []) (l := [(6, 9), (7, 9), (8, 9), (9, 9), (10, 0)]) (E' := [(6, .v 9 (.slice (.int .i64)) ([] : List Int)), (7, .v 9 (.slice (.slice (.int .i64))) y1), (8, .v 9 (.slice .bool) x12), (9, .v 9 (.slice (.int .i64)) x13), (10, .v 0 (.int .i64) (rd (0 : Int) x13 (IntKind.i64.wrap ((x13.length : Int) - (1 : Int)))))]) (obs := [0 ≤ IntKind.i64.wrap ((x13.length : Int) - (1 : Int)) ∧ IntKind.i64.wrap ((x13.length : Int) - (1 : Int)) < (x13.length : Int)]) (by kernel_rfl) (o1) ?_
        refine W_gen (x := rd (0 : Int) x13 (IntKind.i64.wrap ((x13.length : Int) - (1 : Int)))) (En := fun x14 => [(6, .v 9 (.slice (.int .i64)) ([] : List Int)), (7, .v 9 (.slice (.slice (.int .i64))) y1), (8, .v 9 (.slice .bool) x12), (9, .v 9 (.slice (.int .i64)) x13), (10, .v 0 (.int .i64) x14)]) h (fun x14 h => ?_)
        refine W_seq ?_
        obtain ⟨o1, h⟩ := h.ass
        refine W_region mixed tys_ok (sup := []) (l := [(6, 9), (7, 9), (8, 9), (9, 9), (10, 0)]) (E' := [(6, .v 9 (.slice (.int .i64)) ([] : List Int)), (7, .v 9 (.slice (.slice (.int .i64))) y1), (8, .v 9 (.slice .bool) x12), (9, .v 9 (.slice (.int .i64)) (sl x13 (0 : Int) (IntKind.i64.wrap ((x13.length : Int) - (1 : Int))))), (10, .v 0 (.int .i64) x14)]) (obs := [0 ≤ (0 : Int) ∧ (0 : Int) ≤ IntKind.i64.wrap ((x13.length : Int) - (1 : Int)) ∧ IntKind.i64.wrap ((x13.length : Int) - (1 : Int)) ≤ (x13.length : Int)]) (by kernel_rfl) (o1) ?_
        refine W_gen (x := sl x13 (0 : Int) (IntKind.i64.wrap ((x13.length : Int) - (1 : Int)))) (En := fun x15 => [(6, .v 9 (.slice (.int .i64)) ([] : List Int)), (7, .v 9 (.slice (.slice (.int .i64))) y1), (8, .v 9 (.slice .bool) x12), (9, .v 9 (.slice (.int .i64)) x15), (10, .v 0 (.int .i64) x14)]) h (fun x15 h => ?_)
        refine W_seq ?_
        obtain ⟨o1, h⟩ := h.ass
        refine W_region mixed tys_ok (sup := []) (l := [(6, 9), (7, 9), (8, 9), (9, 9), (10, 0), (50, 0)]) (E' := [(6, .v 9 (.slice (.int .i64)) ([] : List Int)), (7, .v 9 (.slice (.slice (.int .i64))) y1), (8, .v 9 (.slice .bool) x12), (9, .v 9 (.slice (.int .i64)) x15), (10, .v 0 (.int .i64) x14), (50, .v 0 .bool (!(rd false x12 x14)))]) (obs := [0 ≤ x14 ∧ x14 < (x12.length : Int)]) (by kernel_rfl) (o1) ?_
        refine W_cond (β := !(rd false x12 x14)) (by kernel_rfl) (fun hb => ?_) (fun hb => ?_)
        · rw [hb] at h; rw [cond_true] at h
          refine W_seq ?_
          obtain ⟨o1, h⟩ := h.ass
          refine W_region mixed tys_ok (sup := []) (l := [(6, 9), (7, 9), (8, 9), (9, 9), (10, 0)]) (E' := [(6, .v 9 (.slice (.int .i64)) ([] : List Int)), (7, .v 9 (.slice (.slice (.int .i64))) y1), (8, .v 9 (.slice .bool) (wr x12 x14 true)), (9, .v 9 (.slice (.int .i64)) x15), (10, .v 0 (.int .i64) x14)]) (obs := [0 ≤ x14 ∧ x14 < (x12.length : Int)]) (by kernel_rfl) (o1) ?_
          refine W_gen (x := wr x12 x14 true) (En := fun x16 => [(6, .v 9 (.slice (.int .i64)) ([] : List Int)), (7, .v 9 (.slice (.slice (.int .i64))) y1), (8, .v 9 (.slice .bool) x16), (9, .v 9 (.slice (.int .i64)) x15), (10, .v 0 (.int .i64) x14)]) h (fun x16 h => ?_)
          obtain ⟨o1, h⟩ := h.ass
          obtain ⟨o2, h⟩ := h.ass
          refine W_region mixed tys_ok (sup := []) (l := [(6, 9), (7, 9), (8, 9), (9, 9)]) (E' := [(6, .v 9 (.slice (.int .i64)) ([] : List Int)), (7, .v 9 (.slice (.slice (.int .i64))) y1), (8, .v 9 (.slice .bool) x16), (9, .v 9 (.slice (.int .i64)) (x15 ++ (rd ([] : List Int) y1 x14)))]) (obs := [0 ≤ x14 ∧ x14 < (y1.length : Int), ((x15.length + (rd ([] : List Int) y1 x14).length : Nat) : Int) ≤ limA]) (by kernel_rfl) (⟨o1, o2⟩) ?_
          refine W_gen (x := x15 ++ (rd ([] : List Int) y1 x14)) (En := fun x17 => [(6, .v 9 (.slice (.int .i64)) ([] : List Int)), (7, .v 9 (.slice (.slice (.int .i64))) y1), (8, .v 9 (.slice .bool) x16), (9, .v 9 (.slice (.int .i64)) x17)]) h (fun x17 h => ?_)
          refine W_blk ?_
          refine W_keep (l := [(6, 9), (7, 9), (8, 9), (9, 9)]) (E' := [(6, .v 9 (.slice (.int .i64)) ([] : List Int)), (7, .v 9 (.slice (.slice (.int .i64))) y1), (8, .v 9 (.slice .bool) x16), (9, .v 9 (.slice (.int .i64)) x17)]) (by kernel_rfl) ?_
          exact W_abs h
        · rw [hb] at h; rw [cond_false] at h
          refine W_skip ?_
          refine W_blk ?_
          refine W_keep (l := [(6, 9), (7, 9), (8, 9), (9, 9)]) (E' := [(6, .v 9 (.slice (.int .i64)) ([] : List Int)), (7, .v 9 (.slice (.slice (.int .i64))) y1), (8, .v 9 (.slice .bool) x12), (9, .v 9 (.slice (.int .i64)) x15)]) (by kernel_rfl) ?_
          exact W_abs h
      · rw [hb] at h; rw [cond_false] at h
        refine W_exit rfl ?_
        refine W_keep (l := [(6, 9), (8, 9)]) (E' := [(6, .v 9 (.slice (.int .i64)) ([] : List Int)), (8, .v 9 (.slice .bool) x12)]) (by kernel_rfl) ?_
        exact j1 x12 h.back

noncomputable def dag_Comes (p0 : Int) (p1 : List D_dag_Arrow) (p2 : Int) (p3 : Int) : Option Bool :=
  (dag_Reach p0 p1 p2).bind fun y1 =>
  (slices_Contains_int_int y1 p3).bind fun y2 =>
  some y2
theorem dag_Comes.ok {p0 : Int} {p1 : List D_dag_Arrow} {p2 : Int} {p3 : Int} {r : Bool} (h : dag_Comes p0 p1 p2 p3 = some r) : ACall prog 37 [⟨.int .i64, p0⟩, ⟨.slice T_dag_Arrow, p1⟩, ⟨.int .i64, p2⟩, ⟨.int .i64, p3⟩] [⟨0, .bool, r⟩] := by
  replace h := Leads.of h
  unfold dag_Comes at h
  refine acall_of func37 (by kernel_rfl) rfl (by kernel_rfl) fun w0 F0 => ?_
  refine W_seq ?_
  refine W_region mixed tys_ok (sup := []) (l := [(0, 0), (1, 0), (2, 0), (3, 0)]) (E' := [(0, .v 0 (.int .i64) p0), (1, .v 0 (.slice T_dag_Arrow) p1), (2, .v 0 (.int .i64) p2), (3, .v 0 (.int .i64) p3)]) (obs := []) (by kernel_rfl) (trivial) ?_
  refine W_seq ?_
  obtain ⟨y1, ey1, h⟩ := h.bind
  obtain ⟨y2, ey2, h⟩ := h.bind
  refine W_region mixed tys_ok (sup := [.res [(9, ⟨9, .slice (.int .i64), y1⟩)], .res [(0, ⟨0, .bool, y2⟩)]]) (l := [(8, 0)]) (E' := [(8, .v 0 .bool y2)]) (obs := [ACall prog 35 [⟨.int .i64, p0⟩, ⟨.slice T_dag_Arrow, p1⟩, ⟨.int .i64, p2⟩] [⟨9, .slice (.int .i64), y1⟩], ACall prog 88 [⟨.slice (.int .i64), y1⟩, ⟨.int .i64, p3⟩] [⟨0, .bool, y2⟩]]) (by kernel_rfl) (⟨dag_Reach.ok ey1, slices_Contains_int_int.ok ey2⟩) ?_
  refine W_keep (l := [(8, 0)]) (E' := [(8, .v 0 .bool y2)]) (by kernel_rfl) ?_
  replace h : y2 = r := h
  subst h
  exact W_ret tys_ok (by kernel_rfl) (by kernel_rfl)

noncomputable def dag_Ring (p0 : Int) (p1 : List D_dag_Arrow) : Option Bool :=
  (dag_Order p0 p1).bind fun y1 =>
  bnd (!y1.2) fun x2 =>
  some x2
theorem dag_Ring.ok {p0 : Int} {p1 : List D_dag_Arrow} {r : Bool} (h : dag_Ring p0 p1 = some r) : ACall prog 30 [⟨.int .i64, p0⟩, ⟨.slice T_dag_Arrow, p1⟩] [⟨0, .bool, r⟩] := by
  replace h := Leads.of h
  unfold dag_Ring at h
  refine acall_of func30 (by kernel_rfl) rfl (by kernel_rfl) fun w0 F0 => ?_
  refine W_seq ?_
  refine W_region mixed tys_ok (sup := []) (l := [(0, 0), (1, 0)]) (E' := [(0, .v 0 (.int .i64) p0), (1, .v 0 (.slice T_dag_Arrow) p1)]) (obs := []) (by kernel_rfl) (trivial) ?_
  refine W_seq ?_
  obtain ⟨y1, ey1, h⟩ := h.bind
  refine W_region mixed tys_ok (sup := [.res [(9, ⟨9, .slice (.int .i64), y1.1⟩), (0, ⟨0, .bool, y1.2⟩)]]) (l := [(6, 0)]) (E' := [(6, .v 0 .bool y1.2)]) (obs := [ACall prog 29 [⟨.int .i64, p0⟩, ⟨.slice T_dag_Arrow, p1⟩] [⟨9, .slice (.int .i64), y1.1⟩, ⟨0, .bool, y1.2⟩]]) (by kernel_rfl) (dag_Order.ok ey1) ?_
  refine W_seq ?_
  refine W_region mixed tys_ok (sup := []) (l := [(4, 0)]) (E' := [(4, .v 0 .bool (!y1.2))]) (obs := []) (by kernel_rfl) (trivial) ?_
  refine W_gen (x := !y1.2) (En := fun x2 => [(4, .v 0 .bool x2)]) h (fun x2 h => ?_)
  refine W_keep (l := [(4, 0)]) (E' := [(4, .v 0 .bool x2)]) (by kernel_rfl) ?_
  replace h : x2 = r := h
  subst h
  exact W_ret tys_ok (by kernel_rfl) (by kernel_rfl)

noncomputable def l13_alive : Option Bool :=
  (dag_Order (3 : Int) [((2 : Int), (0 : Int))]).bind fun y1 =>
  (bif y1.2 then r11_Ints y1.1 [(1 : Int), (2 : Int), (0 : Int)] else some false).bind fun y2 =>
  (bif y1.2 && y2 then dag_Comes (3 : Int) [((2 : Int), (0 : Int))] (2 : Int) (0 : Int) else some false).bind fun y3 =>
  (bif (y1.2 && y2) && y3 then dag_Ring (3 : Int) [((2 : Int), (0 : Int))] else some false).bind fun y4 =>
  (bif ((y1.2 && y2) && y3) && (!y4) then dag_Ring (1 : Int) [((0 : Int), (0 : Int))] else some false).bind fun y5 =>
  bnd ((((y1.2 && y2) && y3) && (!y4)) && y5) fun x6 =>
  some x6
theorem l13_alive.ok {r : Bool} (h : l13_alive = some r) : ACall prog 28 [] [⟨0, .bool, r⟩] := by
  replace h := Leads.of h
  unfold l13_alive at h
  refine acall_of func28 (by kernel_rfl) rfl (by kernel_rfl) fun w0 F0 => ?_
  refine W_seq ?_
  refine W_region mixed tys_ok (sup := []) (l := []) (E' := []) (obs := []) (by kernel_rfl) (trivial) ?_
  refine W_seq ?_
  refine W_region mixed tys_ok (sup := []) (l := [(1, 9)]) (E' := [(1, .v 9 (.slice T_dag_Arrow) [((2 : Int), (0 : Int))])]) (obs := []) (by kernel_rfl) (trivial) ?_
  refine W_seq ?_
  obtain ⟨y1, ey1, h⟩ := h.bind
  refine W_region mixed tys_ok (sup := [.res [(9, ⟨9, .slice (.int .i64), y1.1⟩), (0, ⟨0, .bool, y1.2⟩)]]) (l := [(1, 9), (2, 9), (3, 0)]) (E' := [(1, .v 9 (.slice T_dag_Arrow) [((2 : Int), (0 : Int))]), (2, .v 9 (.slice (.int .i64)) y1.1), (3, .v 0 .bool y1.2)]) (obs := [ACall prog 29 [⟨.int .i64, (3 : Int)⟩, ⟨.slice T_dag_Arrow, [((2 : Int), (0 : Int))]⟩] [⟨9, .slice (.int .i64), y1.1⟩, ⟨0, .bool, y1.2⟩]]) (by kernel_rfl) (dag_Order.ok ey1) ?_
  refine W_seq ?_
  obtain ⟨y2, ey2, h⟩ := h.bind
  obtain ⟨y3, ey3, h⟩ := h.bind
  obtain ⟨y4, ey4, h⟩ := h.bind
  obtain ⟨y5, ey5, h⟩ := h.bind
  refine W_region mixed tys_ok (sup := [.res [(0, ⟨0, .bool, y2⟩)], .res [(0, ⟨0, .bool, y3⟩)], .res [(0, ⟨0, .bool, y4⟩)], .res [(0, ⟨0, .bool, y5⟩)]]) (l := [(0, 0)]) (E' := [(0, .v 0 .bool ((((y1.2 && y2) && y3) && (!y4)) && y5))]) (obs := [y1.2 = true → ACall prog 22 [⟨.slice (.int .i64), y1.1⟩, ⟨.slice (.int .i64), [(1 : Int), (2 : Int), (0 : Int)]⟩] [⟨0, .bool, y2⟩], (y1.2 && y2) = true → ACall prog 37 [⟨.int .i64, (3 : Int)⟩, ⟨.slice T_dag_Arrow, [((2 : Int), (0 : Int))]⟩, ⟨.int .i64, (2 : Int)⟩, ⟨.int .i64, (0 : Int)⟩] [⟨0, .bool, y3⟩], ((y1.2 && y2) && y3) = true → ACall prog 30 [⟨.int .i64, (3 : Int)⟩, ⟨.slice T_dag_Arrow, [((2 : Int), (0 : Int))]⟩] [⟨0, .bool, y4⟩], (((y1.2 && y2) && y3) && (!y4)) = true → ACall prog 30 [⟨.int .i64, (1 : Int)⟩, ⟨.slice T_dag_Arrow, [((0 : Int), (0 : Int))]⟩] [⟨0, .bool, y5⟩]]) (by kernel_rfl) (⟨fun hc => r11_Ints.ok (bif_some ey2 hc), fun hc => dag_Comes.ok (bif_some ey3 hc), fun hc => dag_Ring.ok (bif_some ey4 hc), fun hc => dag_Ring.ok (bif_some ey5 hc)⟩) ?_
  refine W_gen (x := (((y1.2 && y2) && y3) && (!y4)) && y5) (En := fun x6 => [(0, .v 0 .bool x6)]) h (fun x6 h => ?_)
  refine W_keep (l := [(0, 0)]) (E' := [(0, .v 0 .bool x6)]) (by kernel_rfl) ?_
  replace h : x6 = r := h
  subst h
  exact W_ret tys_ok (by kernel_rfl) (by kernel_rfl)

noncomputable def l13_arrows_j1 (x1 : List D_r13_Arrow) : Option (List D_r13_Arrow) :=
  some x1
noncomputable def l13_arrows_b1 (p0 : List D_dag_Arrow) (x2 : List D_r13_Arrow) (x3 : Int) : Option (((List D_r13_Arrow) × Int) ⊕ (List D_r13_Arrow)) :=
  bif decide (x3 < (p0.length : Int)) then
    ass (0 ≤ x3 ∧ x3 < (p0.length : Int)) <|
    ass (((x2.length + [rd z_dag_Arrow p0 x3].length : Nat) : Int) ≤ limA) <|
    bnd (x2 ++ [rd z_dag_Arrow p0 x3]) fun x4 =>
    bnd (IntKind.i64.wrap (x3 + (1 : Int))) fun x5 =>
    some (.inl (x4, x5))
  else
    (l13_arrows_j1 x2).map .inr
noncomputable def l13_arrows (p0 : List D_dag_Arrow) : Option (List D_r13_Arrow) :=
  loopM (fun x : (List D_r13_Arrow) × Int => l13_arrows_b1 p0 x.1 x.2) (([] : List D_r13_Arrow), (0 : Int))
theorem l13_arrows.ok {p0 : List D_dag_Arrow} {r : List D_r13_Arrow} (h : l13_arrows p0 = some r) : ACall prog 31 [⟨.slice T_dag_Arrow, p0⟩] [⟨9, .slice T_r13_Arrow, r⟩] := by
  replace h := Leads.of h
  unfold l13_arrows at h
  refine acall_of func31 (by kernel_rfl) rfl (by kernel_rfl) fun w0 F0 => ?_
  refine W_seq ?_
  refine W_region mixed tys_ok (sup := []) (l := [(0, 0)]) (E' := [(0, .v 0 (.slice T_dag_Arrow) p0)]) (obs := []) (by kernel_rfl) (trivial) ?_
  refine W_seq ?_
  refine W_region mixed tys_ok (sup := []) (l := [(0, 0), (3, 9)]) (E' := [(0, .v 0 (.slice T_dag_Arrow) p0), (3, .v 9 (.slice T_r13_Arrow) ([] : List D_r13_Arrow))]) (obs := []) (by kernel_rfl) (trivial) ?_
  refine W_seq ?_
  refine W_seq ?_
  refine W_region mixed tys_ok (sup := []) (l := [(0, 0), (3, 9), (4, 0)]) (E' := [(0, .v 0 (.slice T_dag_Arrow) p0), (3, .v 9 (.slice T_r13_Arrow) ([] : List D_r13_Arrow)), (4, .v 0 (.int .i64) (0 : Int))]) (obs := []) (by kernel_rfl) (trivial) ?_
  refine W_join h (Ej := fun (x : List D_r13_Arrow) => [(3, .v 9 (.slice T_r13_Arrow) x)]) (p := fun x => l13_arrows_j1 x) ?_ ?_
  · rintro x1 h
    replace h : Leads _ (l13_arrows_j1 x1) := h
    unfold l13_arrows_j1 at h
    show W _ _ _ _ _ _ [(3, .v 9 (.slice T_r13_Arrow) x1)]
    refine W_seq ?_
    refine W_region mixed tys_ok (sup := []) (l := [(2, 9)]) (E' := [(2, .v 9 (.slice T_r13_Arrow) x1)]) (obs := []) (by kernel_rfl) (trivial) ?_
    refine W_keep (l := [(2, 9)]) (E' := [(2, .v 9 (.slice T_r13_Arrow) x1)]) (by kernel_rfl) ?_
    replace h : x1 = r := h
    subst h
    exact W_ret tys_ok (by kernel_rfl) (by kernel_rfl)
  · intro j1
    refine W_block ?_
    refine W_keep (l := [(0, 0), (3, 9), (4, 0)]) (E' := [(0, .v 0 (.slice T_dag_Arrow) p0), (3, .v 9 (.slice T_r13_Arrow) ([] : List D_r13_Arrow)), (4, .v 0 (.int .i64) (0 : Int))]) (by kernel_rfl) ?_
    refine W_loop' (En := fun (x : (List D_r13_Arrow) × Int) => [(0, .v 0 (.slice T_dag_Arrow) p0), (3, .v 9 (.slice T_r13_Arrow) x.1), (4, .v 0 (.int .i64) x.2)]) (x := (([] : List D_r13_Arrow), (0 : Int))) h ?_
    rintro ⟨x2, x3⟩ K h
    replace h : Leads _ (l13_arrows_b1 p0 x2 x3) := h
    unfold l13_arrows_b1 at h
    show W _ _ _ _ _ _ [(0, .v 0 (.slice T_dag_Arrow) p0), (3, .v 9 (.slice T_r13_Arrow) x2), (4, .v 0 (.int .i64) x3)]
    refine W_seq ?_
    refine W_seq ?_
    refine W_region mixed tys_ok (sup := []) (l := [(0, 0), (3, 9), (4, 0), (8, 0)]) (E' := [(0, .v 0 (.slice T_dag_Arrow) p0), (3, .v 9 (.slice T_r13_Arrow) x2), (4, .v 0 (.int .i64) x3), (8, .v 0 .bool (decide (x3 < (p0.length : Int))))]) (obs := []) (by kernel_rfl) (trivial) ?_
    refine W_cond (β := decide (x3 < (p0.length : Int))) (by kernel_rfl) (fun hb => ?_) (fun hb => ?_)
    · rw [hb] at h; rw [cond_true] at h
      refine W_skip ?_
      refine W_seq ?_
      refine W_block ?_
      obtain ⟨o1, h⟩ := h.ass
      obtain ⟨o2, h⟩ := h.ass
      refine W_region mixed tys_ok (sup := []) (l := [(0, 0), (3, 9), (4, 0)]) (E' := [(0, .v 0 (.slice T_dag_Arrow) p0), (3, .v 9 (.slice T_r13_Arrow) (x2 ++ [rd z_dag_Arrow p0 x3])), (4, .v 0 (.int .i64) x3)]) (obs := [0 ≤ x3 ∧ x3 < (p0.length : Int), 0 ≤ x3 ∧ x3 < (p0.length : Int), ((x2.length + [rd z_dag_Arrow p0 x3].length : Nat) : Int) ≤ limA]) (by kernel_rfl) (⟨o1, o1, o2⟩) ?_
      refine W_gen (x := x2 ++ [rd z_dag_Arrow p0 x3]) (En := fun x4 => [(0, .v 0 (.slice T_dag_Arrow) p0), (3, .v 9 (.slice T_r13_Arrow) x4), (4, .v 0 (.int .i64) x3)]) h (fun x4 h => ?_)
      refine W_blk ?_
      refine W_region mixed tys_ok (sup := []) (l := [(0, 0), (3, 9), (4, 0)]) (E' := [(0, .v 0 (.slice T_dag_Arrow) p0), (3, .v 9 (.slice T_r13_Arrow) x4), (4, .v 0 (.int .i64) (IntKind.i64.wrap (x3 + (1 : Int))))]) (obs := []) (by kernel_rfl) (trivial) ?_
      refine W_gen (x := IntKind.i64.wrap (x3 + (1 : Int))) (En := fun x5 => [(0, .v 0 (.slice T_dag_Arrow) p0), (3, .v 9 (.slice T_r13_Arrow) x4), (4, .v 0 (.int .i64) x5)]) h (fun x5 h => ?_)
      refine W_keep (l := [(0, 0), (3, 9), (4, 0)]) (E' := [(0, .v 0 (.slice T_dag_Arrow) p0), (3, .v 9 (.slice T_r13_Arrow) x4), (4, .v 0 (.int .i64) x5)]) (by kernel_rfl) ?_
      exact W_abs h
    · rw [hb] at h; rw [cond_false] at h
      refine W_exit rfl ?_
      refine W_keep (l := [(3, 9)]) (E' := [(3, .v 9 (.slice T_r13_Arrow) x2)]) (by kernel_rfl) ?_
      exact j1 x2 h.back

noncomputable def dag_Depth_j1 (x4 : List Int) : Option ((List Int) × Bool) :=
  some (x4, true)
noncomputable def dag_Depth_j2 (x6 : Int) (x7 : List Int) : Option (((List Int) × Int) ⊕ ((List Int) × Bool)) :=
  bnd (IntKind.i64.wrap (x6 + (1 : Int))) fun x8 =>
  some (.inl (x7, x8))
noncomputable def dag_Depth_j3 (x6 : Int) (x10 : List Int) : Option (((List Int) × Int) ⊕ ((List Int) × Bool)) :=
  dag_Depth_j2 x6 x10
noncomputable def dag_Depth_b2 (y2 : List (List Int)) (x6 : Int) (x9 : Int) (x11 : List Int) (x12 : Int) : Option (((List Int) × Int) ⊕ (((List Int) × Int) ⊕ ((List Int) × Bool))) :=
  bif decide (x12 < ((rd ([] : List Int) y2 x9).length : Int)) then
    ass (0 ≤ x12 ∧ x12 < ((rd ([] : List Int) y2 x9).length : Int)) <|
    bnd (rd (0 : Int) (rd ([] : List Int) y2 x9) x12) fun x13 =>
    ass (0 ≤ x13 ∧ x13 < (x11.length : Int)) <|
    ass (0 ≤ x9 ∧ x9 < (x11.length : Int)) <|
    bnd (wr x11 x13 (if (IntKind.i64.wrap ((rd (0 : Int) x11 x9) + (1 : Int))) > (rd (0 : Int) x11 x13) then IntKind.i64.wrap ((rd (0 : Int) x11 x9) + (1 : Int)) else rd (0 : Int) x11 x13)) fun x14 =>
    bnd (IntKind.i64.wrap (x12 + (1 : Int))) fun x15 =>
    some (.inl (x14, x15))
  else
    (dag_Depth_j3 x6 x11).map .inr
noncomputable def dag_Depth_b1 (y1 : (List Int) × Bool) (y2 : List (List Int)) (x5 : List Int) (x6 : Int) : Option (((List Int) × Int) ⊕ ((List Int) × Bool)) :=
  bif decide (x6 < (y1.1.length : Int)) then
    ass (0 ≤ x6 ∧ x6 < (y1.1.length : Int)) <|
    bnd (rd (0 : Int) y1.1 x6) fun x9 =>
    ass (0 ≤ x9 ∧ x9 < (y2.length : Int)) <|
    loopM (fun x : (List Int) × Int => dag_Depth_b2 y2 x6 x9 x.1 x.2) (x5, (0 : Int))
  else
    (dag_Depth_j1 x5).map .inr
noncomputable def dag_Depth (p0 : Int) (p1 : List D_dag_Arrow) : Option ((List Int) × Bool) :=
  (dag_Order p0 p1).bind fun y1 =>
  bif !y1.2 then
    some (([] : List Int), false)
  else
    (dag_heads p0 p1).bind fun y2 =>
    ass (0 ≤ (y2.length : Int) ∧ (y2.length : Int) ≤ (y2.length : Int) ∧ (y2.length : Int) ≤ lim) <|
    bnd (List.replicate (y2.length : Int).toNat (0 : Int)) fun x3 =>
    loopM (fun x : (List Int) × Int => dag_Depth_b1 y1 y2 x.1 x.2) (x3, (0 : Int))
theorem dag_Depth.ok {p0 : Int} {p1 : List D_dag_Arrow} {r : (List Int) × Bool} (h : dag_Depth p0 p1 = some r) : ACall prog 34 [⟨.int .i64, p0⟩, ⟨.slice T_dag_Arrow, p1⟩] [⟨9, .slice (.int .i64), r.1⟩, ⟨0, .bool, r.2⟩] := by
  replace h := Leads.of h
  unfold dag_Depth at h
  refine acall_of func34 (by kernel_rfl) rfl (by kernel_rfl) fun w0 F0 => ?_
  refine W_seq ?_
  refine W_region mixed tys_ok (sup := []) (l := [(0, 0), (1, 0)]) (E' := [(0, .v 0 (.int .i64) p0), (1, .v 0 (.slice T_dag_Arrow) p1)]) (obs := []) (by kernel_rfl) (trivial) ?_
  refine W_seq ?_
  obtain ⟨y1, ey1, h⟩ := h.bind
  refine W_region mixed tys_ok (sup := [.res [(9, ⟨9, .slice (.int .i64), y1.1⟩), (0, ⟨0, .bool, y1.2⟩)]]) (l := [(0, 0), (1, 0), (6, 9), (7, 0)]) (E' := [(0, .v 0 (.int .i64) p0), (1, .v 0 (.slice T_dag_Arrow) p1), (6, .v 9 (.slice (.int .i64)) y1.1), (7, .v 0 .bool y1.2)]) (obs := [ACall prog 29 [⟨.int .i64, p0⟩, ⟨.slice T_dag_Arrow, p1⟩] [⟨9, .slice (.int .i64), y1.1⟩, ⟨0, .bool, y1.2⟩]]) (by kernel_rfl) (dag_Order.ok ey1) ?_
  refine W_seq ?_
  refine W_seq ?_
  refine W_region mixed tys_ok (sup := []) (l := [(0, 0), (1, 0), (6, 9), (21, 0)]) (E' := [(0, .v 0 (.int .i64) p0), (1, .v 0 (.slice T_dag_Arrow) p1), (6, .v 9 (.slice (.int .i64)) y1.1), (21, .v 0 .bool (!y1.2))]) (obs := []) (by kernel_rfl) (trivial) ?_
  refine W_cond (β := !y1.2) (by kernel_rfl) (fun hb => ?_) (fun hb => ?_)
  · rw [hb] at h; rw [cond_true] at h
    refine W_seq ?_
    refine W_region mixed tys_ok (sup := []) (l := [(4, 9), (5, 0)]) (E' := [(4, .v 9 (.slice (.int .i64)) ([] : List Int)), (5, .v 0 .bool false)]) (obs := []) (by kernel_rfl) (trivial) ?_
    refine W_keep (l := [(4, 9), (5, 0)]) (E' := [(4, .v 9 (.slice (.int .i64)) ([] : List Int)), (5, .v 0 .bool false)]) (by kernel_rfl) ?_
    replace h : ((([] : List Int), false)) = r := h
    subst h
    exact W_ret tys_ok (by kernel_rfl) (by kernel_rfl)
  · rw [hb] at h; rw [cond_false] at h
    refine W_skip ?_
    refine W_seq ?_
    obtain ⟨y2, ey2, h⟩ := h.bind
    refine W_region mixed tys_ok (sup := [.res [(9, ⟨9, .slice (.slice (.int .i64)), y2⟩)]]) (l := [(6, 9), (8, 9)]) (E' := [(6, .v 9 (.slice (.int .i64)) y1.1), (8, .v 9 (.slice (.slice (.int .i64))) y2)]) (obs := [ACall prog 91 [⟨.int .i64, p0⟩, ⟨.slice T_dag_Arrow, p1⟩] [⟨9, .slice (.slice (.int .i64)), y2⟩]]) (by kernel_rfl) (dag_heads.ok ey2) ?_
    refine W_seq ?_
    obtain ⟨o1, h⟩ := h.ass
    refine W_region mixed tys_ok (sup := []) (l := [(6, 9), (8, 9), (9, 9)]) (E' := [(6, .v 9 (.slice (.int .i64)) y1.1), (8, .v 9 (.slice (.slice (.int .i64))) y2), (9, .v 9 (.slice (.int .i64)) (List.replicate (y2.length : Int).toNat (0 : Int)))]) (obs := [0 ≤ (y2.length : Int) ∧ (y2.length : Int) ≤ (y2.length : Int) ∧ (y2.length : Int) ≤ lim]) (by kernel_rfl) (o1) ?_
    refine W_gen (x := List.replicate (y2.length : Int).toNat (0 : Int)) (En := fun x3 => [(6, .v 9 (.slice (.int .i64)) y1.1), (8, .v 9 (.slice (.slice (.int .i64))) y2), (9, .v 9 (.slice (.int .i64)) x3)]) h (fun x3 h => ?_)
    refine W_seq ?_
    refine W_seq ?_
    refine W_region mixed tys_ok (sup := []) (l := [(6, 9), (8, 9), (9, 9), (28, 0), (29, 0), (30, 0)]) (E' := [(6, .v 9 (.slice (.int .i64)) y1.1), (8, .v 9 (.slice (.slice (.int .i64))) y2), (9, .v 9 (.slice (.int .i64)) x3), (28, .bor 6 []), (29, .v 0 (.int .i64) (y1.1.length : Int)), (30, .v 0 (.int .i64) (0 : Int))]) (obs := []) (by kernel_rfl) (trivial) ?_
    refine W_join h (Ej := fun (x : List Int) => [(9, .v 9 (.slice (.int .i64)) x)]) (p := fun x => dag_Depth_j1 x) ?_ ?_
    · rintro x4 h
      replace h : Leads _ (dag_Depth_j1 x4) := h
      unfold dag_Depth_j1 at h
      show W _ _ _ _ _ _ [(9, .v 9 (.slice (.int .i64)) x4)]
      refine W_seq ?_
      refine W_region mixed tys_ok (sup := []) (l := [(4, 9), (5, 0)]) (E' := [(4, .v 9 (.slice (.int .i64)) x4), (5, .v 0 .bool true)]) (obs := []) (by kernel_rfl) (trivial) ?_
      refine W_keep (l := [(4, 9), (5, 0)]) (E' := [(4, .v 9 (.slice (.int .i64)) x4), (5, .v 0 .bool true)]) (by kernel_rfl) ?_
      replace h : ((x4, true)) = r := h
      subst h
      exact W_ret tys_ok (by kernel_rfl) (by kernel_rfl)
    · intro j1
      refine W_block ?_
      refine W_keep (l := [(6, 9), (8, 9), (9, 9), (28, 0), (29, 0), (30, 0)]) (E' := [(6, .v 9 (.slice (.int .i64)) y1.1), (8, .v 9 (.slice (.slice (.int .i64))) y2), (9, .v 9 (.slice (.int .i64)) x3), (28, .bor 6 []), (29, .v 0 (.int .i64) (y1.1.length : Int)), (30, .v 0 (.int .i64) (0 : Int))]) (by kernel_rfl) ?_
      refine W_loop' (En := fun (x : (List Int) × Int) => [(6, .v 9 (.slice (.int .i64)) y1.1), (8, .v 9 (.slice (.slice (.int .i64))) y2), (9, .v 9 (.slice (.int .i64)) x.1), (28, .bor 6 []), (29, .v 0 (.int .i64) (y1.1.length : Int)), (30, .v 0 (.int .i64) x.2)]) (x := (x3, (0 : Int))) h ?_
      rintro ⟨x5, x6⟩ K h
      replace h : Leads _ (dag_Depth_b1 y1 y2 x5 x6) := h
      unfold dag_Depth_b1 at h
      show W _ _ _ _ _ _ [(6, .v 9 (.slice (.int .i64)) y1.1), (8, .v 9 (.slice (.slice (.int .i64))) y2), (9, .v 9 (.slice (.int .i64)) x5), (28, .bor 6 []), (29, .v 0 (.int .i64) (y1.1.length : Int)), (30, .v 0 (.int .i64) x6)]
      refine W_seq ?_
      refine W_region mixed tys_ok (sup := []) (l := [(6, 9), (8, 9), (9, 9), (28, 0), (29, 0), (30, 0), (31, 0)]) (E' := [(6, .v 9 (.slice (.int .i64)) y1.1), (8, .v 9 (.slice (.slice (.int .i64))) y2), (9, .v 9 (.slice (.int .i64)) x5), (28, .bor 6 []), (29, .v 0 (.int .i64) (y1.1.length : Int)), (30, .v 0 (.int .i64) x6), (31, .v 0 .bool (decide (x6 < (y1.1.length : Int))))]) (obs := []) (by kernel_rfl) (trivial) ?_
      refine W_seq ?_
      refine W_cond (β := decide (x6 < (y1.1.length : Int))) (by kernel_rfl) (fun hb => ?_) (fun hb => ?_)
      · rw [hb] at h; rw [cond_true] at h
        refine W_skip ?_
        refine W_seq ?_
        refine W_join h (Ej := fun (x : List Int) => [(6, .v 9 (.slice (.int .i64)) y1.1), (8, .v 9 (.slice (.slice (.int .i64))) y2), (9, .v 9 (.slice (.int .i64)) x), (28, .bor 6 []), (29, .v 0 (.int .i64) (y1.1.length : Int)), (30, .v 0 (.int .i64) x6)]) (p := fun x => dag_Depth_j2 x6 x) ?_ ?_
        · rintro x7 h
          replace h : Leads _ (dag_Depth_j2 x6 x7) := h
          unfold dag_Depth_j2 at h
          show W _ _ _ _ _ _ [(6, .v 9 (.slice (.int .i64)) y1.1), (8, .v 9 (.slice (.slice (.int .i64))) y2), (9, .v 9 (.slice (.int .i64)) x7), (28, .bor 6 []), (29, .v 0 (.int .i64) (y1.1.length : Int)), (30, .v 0 (.int .i64) x6)]
          refine W_region mixed tys_ok (sup := []) (l := [(6, 9), (8, 9), (9, 9), (28, 0), (29, 0), (30, 0)]) (E' := [(6, .v 9 (.slice (.int .i64)) y1.1), (8, .v 9 (.slice (.slice (.int .i64))) y2), (9, .v 9 (.slice (.int .i64)) x7), (28, .bor 6 []), (29, .v 0 (.int .i64) (y1.1.length : Int)), (30, .v 0 (.int .i64) (IntKind.i64.wrap (x6 + (1 : Int))))]) (obs := []) (by kernel_rfl) (trivial) ?_
          refine W_gen (x := IntKind.i64.wrap (x6 + (1 : Int))) (En := fun x8 => [(6, .v 9 (.slice (.int .i64)) y1.1), (8, .v 9 (.slice (.slice (.int .i64))) y2), (9, .v 9 (.slice (.int .i64)) x7), (28, .bor 6 []), (29, .v 0 (.int .i64) (y1.1.length : Int)), (30, .v 0 (.int .i64) x8)]) h (fun x8 h => ?_)
          refine W_keep (l := [(6, 9), (8, 9), (9, 9), (28, 0), (29, 0), (30, 0)]) (E' := [(6, .v 9 (.slice (.int .i64)) y1.1), (8, .v 9 (.slice (.slice (.int .i64))) y2), (9, .v 9 (.slice (.int .i64)) x7), (28, .bor 6 []), (29, .v 0 (.int .i64) (y1.1.length : Int)), (30, .v 0 (.int .i64) x8)]) (by kernel_rfl) ?_
          exact W_abs h
        · intro j2
          refine W_block ?_
          refine W_seq ?_
          obtain ⟨o1, h⟩ := h.ass
          refine W_region mixed tys_ok (sup := []) (l := [(6, 9), (8, 9), (9, 9), (11, 0), (28, 0), (29, 0), (30, 0)]) (E' := [(6, .v 9 (.slice (.int .i64)) y1.1), (8, .v 9 (.slice (.slice (.int .i64))) y2), (9, .v 9 (.slice (.int .i64)) x5), (11, .v 0 (.int .i64) (rd (0 : Int) y1.1 x6)), (28, .bor 6 []), (29, .v 0 (.int .i64) (y1.1.length : Int)), (30, .v 0 (.int .i64) x6)]) (obs := [0 ≤ x6 ∧ x6 < (y1.1.length : Int)]) (by kernel_rfl) (o1) ?_
          refine W_gen (x := rd (0 : Int) y1.1 x6) (En := fun x9 => [(6, .v 9 (.slice (.int .i64)) y1.1), (8, .v 9 (.slice (.slice (.int .i64))) y2), (9, .v 9 (.slice (.int .i64)) x5), (11, .v 0 (.int .i64) x9), (28, .bor 6 []), (29, .v 0 (.int .i64) (y1.1.length : Int)), (30, .v 0 (.int .i64) x6)]) h (fun x9 h => ?_)
          refine W_seq ?_
          obtain ⟨o1, h⟩ := h.ass
          refine W_region mixed tys_ok (sup := []) (l := [(6, 9), (8, 9), (9, 9), (11, 0), (28, 0), (29, 0), (30, 0), (37, 0), (38, 0), (39, 0)]) (E' := [(6, .v 9 (.slice (.int .i64)) y1.1), (8, .v 9 (.slice (.slice (.int .i64))) y2), (9, .v 9 (.slice (.int .i64)) x5), (11, .v 0 (.int .i64) x9), (28, .bor 6 []), (29, .v 0 (.int .i64) (y1.1.length : Int)), (30, .v 0 (.int .i64) x6), (37, .bor 8 [.idx x9]), (38, .v 0 (.int .i64) ((rd ([] : List Int) y2 x9).length : Int)), (39, .v 0 (.int .i64) (0 : Int))]) (obs := [0 ≤ x9 ∧ x9 < (y2.length : Int)]) (by kernel_rfl) (o1) ?_
          refine W_join h (Ej := fun (x : List Int) => [(6, .v 9 (.slice (.int .i64)) y1.1), (8, .v 9 (.slice (.slice (.int .i64))) y2), (9, .v 9 (.slice (.int .i64)) x), (28, .bor 6 []), (29, .v 0 (.int .i64) (y1.1.length : Int)), (30, .v 0 (.int .i64) x6)]) (p := fun x => dag_Depth_j3 x6 x) ?_ ?_
          · rintro x10 h
            replace h : Leads _ (dag_Depth_j3 x6 x10) := h
            unfold dag_Depth_j3 at h
            show W _ _ _ _ _ _ [(6, .v 9 (.slice (.int .i64)) y1.1), (8, .v 9 (.slice (.slice (.int .i64))) y2), (9, .v 9 (.slice (.int .i64)) x10), (28, .bor 6 []), (29, .v 0 (.int .i64) (y1.1.length : Int)), (30, .v 0 (.int .i64) x6)]
            refine W_blk ?_
            refine W_keep (l := [(6, 9), (8, 9), (9, 9), (28, 0), (29, 0), (30, 0)]) (E' := [(6, .v 9 (.slice (.int .i64)) y1.1), (8, .v 9 (.slice (.slice (.int .i64))) y2), (9, .v 9 (.slice (.int .i64)) x10), (28, .bor 6 []), (29, .v 0 (.int .i64) (y1.1.length : Int)), (30, .v 0 (.int .i64) x6)]) (by kernel_rfl) ?_
            exact j2 x10 h
          · intro j3
            refine W_block ?_
            refine W_keep (l := [(6, 9), (8, 9), (9, 9), (11, 0), (28, 0), (29, 0), (30, 0), (37, 0), (38, 0), (39, 0)]) (E' := [(6, .v 9 (.slice (.int .i64)) y1.1), (8, .v 9 (.slice (.slice (.int .i64))) y2), (9, .v 9 (.slice (.int .i64)) x5), (11, .v 0 (.int .i64) x9), (28, .bor 6 []), (29, .v 0 (.int .i64) (y1.1.length : Int)), (30, .v 0 (.int .i64) x6), (37, .bor 8 [.idx x9]), (38, .v 0 (.int .i64) ((rd ([] : List Int) y2 x9).length : Int)), (39, .v 0 (.int .i64) (0 : Int))]) (by kernel_rfl) ?_
            refine W_loop' (En := fun (x : (List Int) × Int) => [(6, .v 9 (.slice (.int .i64)) y1.1), (8, .v 9 (.slice (.slice (.int .i64))) y2), (9, .v 9 (.slice (.int .i64)) x.1), (11, .v 0 (.int .i64) x9), (28, .bor 6 []), (29, .v 0 (.int .i64) (y1.1.length : Int)), (30, .v 0 (.int .i64) x6), (37, .bor 8 [.idx x9]), (38, .v 0 (.int .i64) ((rd ([] : List Int) y2 x9).length : Int)), (39, .v 0 (.int .i64) x.2)]) (x := (x5, (0 : Int))) h ?_
            rintro ⟨x11, x12⟩ K h
            replace h : Leads _ (dag_Depth_b2 y2 x6 x9 x11 x12) := h
            unfold dag_Depth_b2 at h
            show W _ _ _ _ _ _ [(6, .v 9 (.slice (.int .i64)) y1.1), (8, .v 9 (.slice (.slice (.int .i64))) y2), (9, .v 9 (.slice (.int .i64)) x11), (11, .v 0 (.int .i64) x9), (28, .bor 6 []), (29, .v 0 (.int .i64) (y1.1.length : Int)), (30, .v 0 (.int .i64) x6), (37, .bor 8 [.idx x9]), (38, .v 0 (.int .i64) ((rd ([] : List Int) y2 x9).length : Int)), (39, .v 0 (.int .i64) x12)]
            refine W_seq ?_
            refine W_region mixed tys_ok (sup := []) (l := [(6, 9), (8, 9), (9, 9), (11, 0), (28, 0), (29, 0), (30, 0), (37, 0), (38, 0), (39, 0), (40, 0)]) (E' := [(6, .v 9 (.slice (.int .i64)) y1.1), (8, .v 9 (.slice (.slice (.int .i64))) y2), (9, .v 9 (.slice (.int .i64)) x11), (11, .v 0 (.int .i64) x9), (28, .bor 6 []), (29, .v 0 (.int .i64) (y1.1.length : Int)), (30, .v 0 (.int .i64) x6), (37, .bor 8 [.idx x9]), (38, .v 0 (.int .i64) ((rd ([] : List Int) y2 x9).length : Int)), (39, .v 0 (.int .i64) x12), (40, .v 0 .bool (decide (x12 < ((rd ([] : List Int) y2 x9).length : Int))))]) (obs := []) (by kernel_rfl) (trivial) ?_
            refine W_seq ?_
            refine W_cond (β := decide (x12 < ((rd ([] : List Int) y2 x9).length : Int))) (by kernel_rfl) (fun hb => ?_) (fun hb => ?_)
            · rw [hb] at h; rw [cond_true] at h
              refine W_skip ?_
              refine W_seq ?_
              refine W_block ?_
              refine W_seq ?_
              obtain ⟨o1, h⟩ := h.ass
              refine W_region mixed tys_ok (sup := []) (l := [(6, 9), (8, 9), (9, 9), (11, 0), (13, 0), (28, 0), (29, 0), (30, 0), (37, 0), (38, 0), (39, 0)]) (E' := [(6, .v 9 (.slice (.int .i64)) y1.1), (8, .v 9 (.slice (.slice (.int .i64))) y2), (9, .v 9 (.slice (.int .i64)) x11), (11, .v 0 (.int .i64) x9), (13, .v 0 (.int .i64) (rd (0 : Int) (rd ([] : List Int) y2 x9) x12)), (28, .bor 6 []), (29, .v 0 (.int .i64) (y1.1.length : Int)), (30, .v 0 (.int .i64) x6), (37, .bor 8 [.idx x9]), (38, .v 0 (.int .i64) ((rd ([] : List Int) y2 x9).length : Int)), (39, .v 0 (.int .i64) x12)]) (obs := [0 ≤ x12 ∧ x12 < ((rd ([] : List Int) y2 x9).length : Int)]) (by kernel_rfl) (o1) ?_
              refine W_gen (x := rd (0 : Int) (rd ([] : List Int) y2 x9) x12) (En := fun x13 => [(6, .v 9 (.slice (.int .i64)) y1.1), (8, .v 9 (.slice (.slice (.int .i64))) y2), (9, .v 9 (.slice (.int .i64)) x11), (11, .v 0 (.int .i64) x9), (13, .v 0 (.int .i64) x13), (28, .bor 6 []), (29, .v 0 (.int .i64) (y1.1.length : Int)), (30, .v 0 (.int .i64) x6), (37, .bor 8 [.idx x9]), (38, .v 0 (.int .i64) ((rd ([] : List Int) y2 x9).length : Int)), (39, .v 0 (.int .i64) x12)]) h (fun x13 h => ?_)
              obtain ⟨o1, h⟩ := h.ass
              obtain ⟨o2, h⟩ := h.ass
              refine W_region mixed tys_ok (sup := []) (l := [(6, 9), (8, 9), (9, 9), (11, 0), (28, 0), (29, 0), (30, 0), (37, 0), (38, 0), (39, 0)]) (E' := [(6, .v 9 (.slice (.int .i64)) y1.1), (8, .v 9 (.slice (.slice (.int .i64))) y2), (9, .v 9 (.slice (.int .i64)) (wr x11 x13 (if (IntKind.i64.wrap ((rd (0 : Int) x11 x9) + (1 : Int))) > (rd (0 : Int) x11 x13) then IntKind.i64.wrap ((rd (0 : Int) x11 x9) + (1 : Int)) else rd (0 : Int) x11 x13))), (11, .v 0 (.int .i64) x9), (28, .bor 6 []), (29, .v 0 (.int .i64) (y1.1.length : Int)), (30, .v 0 (.int .i64) x6), (37, .bor 8 [.idx x9]), (38, .v 0 (.int .i64) ((rd ([] : List Int) y2 x9).length : Int)), (39, .v 0 (.int .i64) x12)]) (obs := [0 ≤ x13 ∧ x13 < (x11.length : Int), 0 ≤ x9 ∧ x9 < (x11.length : Int), 0 ≤ x13 ∧ x13 < (x11.length : Int)]) (by kernel_rfl) (⟨o1, o2, o1⟩) ?_
              refine W_gen (x := wr x11 x13 (if (IntKind.i64.wrap ((rd (0 : Int) x11 x9) + (1 : Int))) > (rd (0 : Int) x11 x13) then IntKind.i64.wrap ((rd (0 : Int) x11 x9) + (1 : Int)) else rd (0 : Int) x11 x13)) (En := fun x14 => [(6, .v 9 (.slice (.int .i64)) y1.1), (8, .v 9 (.slice (.slice (.int .i64))) y2), (9, .v 9 (.slice (.int .i64)) x14), (11, .v 0 (.int .i64) x9), (28, .bor 6 []), (29, .v 0 (.int .i64) (y1.1.length : Int)), (30, .v 0 (.int .i64) x6), (37, .bor 8 [.idx x9]), (38, .v 0 (.int .i64) ((rd ([] : List Int) y2 x9).length : Int)), (39, .v 0 (.int .i64) x12)]) h (fun x14 h => ?_)
              refine W_blk ?_
              refine W_region mixed tys_ok (sup := []) (l := [(6, 9), (8, 9), (9, 9), (11, 0), (28, 0), (29, 0), (30, 0), (37, 0), (38, 0), (39, 0)]) (E' := [(6, .v 9 (.slice (.int .i64)) y1.1), (8, .v 9 (.slice (.slice (.int .i64))) y2), (9, .v 9 (.slice (.int .i64)) x14), (11, .v 0 (.int .i64) x9), (28, .bor 6 []), (29, .v 0 (.int .i64) (y1.1.length : Int)), (30, .v 0 (.int .i64) x6), (37, .bor 8 [.idx x9]), (38, .v 0 (.int .i64) ((rd ([] : List Int) y2 x9).length : Int)), (39, .v 0 (.int .i64) (IntKind.i64.wrap (x12 + (1 : Int))))]) (obs := []) (by kernel_rfl) (trivial) ?_
              refine W_gen (x := IntKind.i64.wrap (x12 + (1 : Int))) (En := fun x15 => [(6, .v 9 (.slice (.int .i64)) y1.1), (8, .v 9 (.slice (.slice (.int .i64))) y2), (9, .v 9 (.slice (.int .i64)) x14), (11, .v 0 (.int .i64) x9), (28, .bor 6 []), (29, .v 0 (.int .i64) (y1.1.length : Int)), (30, .v 0 (.int .i64) x6), (37, .bor 8 [.idx x9]), (38, .v 0 (.int .i64) ((rd ([] : List Int) y2 x9).length : Int)), (39, .v 0 (.int .i64) x15)]) h (fun x15 h => ?_)
              refine W_keep (l := [(6, 9), (8, 9), (9, 9), (11, 0), (28, 0), (29, 0), (30, 0), (37, 0), (38, 0), (39, 0)]) (E' := [(6, .v 9 (.slice (.int .i64)) y1.1), (8, .v 9 (.slice (.slice (.int .i64))) y2), (9, .v 9 (.slice (.int .i64)) x14), (11, .v 0 (.int .i64) x9), (28, .bor 6 []), (29, .v 0 (.int .i64) (y1.1.length : Int)), (30, .v 0 (.int .i64) x6), (37, .bor 8 [.idx x9]), (38, .v 0 (.int .i64) ((rd ([] : List Int) y2 x9).length : Int)), (39, .v 0 (.int .i64) x15)]) (by kernel_rfl) ?_
              exact W_abs h
            · rw [hb] at h; rw [cond_false] at h
              refine W_exit rfl ?_
              refine W_keep (l := [(6, 9), (8, 9), (9, 9), (28, 0), (29, 0), (30, 0)]) (E' := [(6, .v 9 (.slice (.int .i64)) y1.1), (8, .v 9 (.slice (.slice (.int .i64))) y2), (9, .v 9 (.slice (.int .i64)) x11), (28, .bor 6 []), (29, .v 0 (.int .i64) (y1.1.length : Int)), (30, .v 0 (.int .i64) x6)]) (by kernel_rfl) ?_
              exact j3 x11 h.back
      · rw [hb] at h; rw [cond_false] at h
        refine W_exit rfl ?_
        refine W_keep (l := [(9, 9)]) (E' := [(9, .v 9 (.slice (.int .i64)) x5)]) (by kernel_rfl) ?_
        exact j1 x5 h.back

noncomputable def r11_All_j1 (x1 : List Int) : Option (List Int) :=
  some x1
noncomputable def r11_All_j2 (x3 : Int) (x4 : List Int) : Option (((List Int) × Int) ⊕ (List Int)) :=
  bnd (IntKind.i64.wrap (x3 + (1 : Int))) fun x5 =>
  some (.inl (x4, x5))
noncomputable def r11_All_b1 (p0 : List Bool) (x2 : List Int) (x3 : Int) : Option (((List Int) × Int) ⊕ (List Int)) :=
  bif decide (x3 < (p0.length : Int)) then
    ass (0 ≤ x3 ∧ x3 < (p0.length : Int)) <|
    bif rd false p0 x3 then
      ass (((x2.length + [x3].length : Nat) : Int) ≤ limA) <|
      bnd (x2 ++ [x3]) fun x6 =>
      r11_All_j2 x3 x6
    else
      r11_All_j2 x3 x2
  else
    (r11_All_j1 x2).map .inr
noncomputable def r11_All (p0 : List Bool) : Option (List Int) :=
  loopM (fun x : (List Int) × Int => r11_All_b1 p0 x.1 x.2) (([] : List Int), (0 : Int))
theorem r11_All.ok {p0 : List Bool} {r : List Int} (h : r11_All p0 = some r) : ACall prog 36 [⟨.slice .bool, p0⟩] [⟨9, .slice (.int .i64), r⟩] := by
  replace h := Leads.of h
  unfold r11_All at h
  refine acall_of func36 (by kernel_rfl) rfl (by kernel_rfl) fun w0 F0 => ?_
  refine W_seq ?_
  refine W_region mixed tys_ok (sup := []) (l := [(0, 0)]) (E' := [(0, .v 0 (.slice .bool) p0)]) (obs := []) (by kernel_rfl) (trivial) ?_
  refine W_seq ?_
  refine W_region mixed tys_ok (sup := []) (l := [(0, 0), (3, 9)]) (E' := [(0, .v 0 (.slice .bool) p0), (3, .v 9 (.slice (.int .i64)) ([] : List Int))]) (obs := []) (by kernel_rfl) (trivial) ?_
  refine W_seq ?_
  refine W_seq ?_
  refine W_region mixed tys_ok (sup := []) (l := [(0, 0), (3, 9), (4, 0)]) (E' := [(0, .v 0 (.slice .bool) p0), (3, .v 9 (.slice (.int .i64)) ([] : List Int)), (4, .v 0 (.int .i64) (0 : Int))]) (obs := []) (by kernel_rfl) (trivial) ?_
  refine W_join h (Ej := fun (x : List Int) => [(3, .v 9 (.slice (.int .i64)) x)]) (p := fun x => r11_All_j1 x) ?_ ?_
  · rintro x1 h
    replace h : Leads _ (r11_All_j1 x1) := h
    unfold r11_All_j1 at h
    show W _ _ _ _ _ _ [(3, .v 9 (.slice (.int .i64)) x1)]
    refine W_seq ?_
    refine W_region mixed tys_ok (sup := []) (l := [(2, 9)]) (E' := [(2, .v 9 (.slice (.int .i64)) x1)]) (obs := []) (by kernel_rfl) (trivial) ?_
    refine W_keep (l := [(2, 9)]) (E' := [(2, .v 9 (.slice (.int .i64)) x1)]) (by kernel_rfl) ?_
    replace h : x1 = r := h
    subst h
    exact W_ret tys_ok (by kernel_rfl) (by kernel_rfl)
  · intro j1
    refine W_block ?_
    refine W_keep (l := [(0, 0), (3, 9), (4, 0)]) (E' := [(0, .v 0 (.slice .bool) p0), (3, .v 9 (.slice (.int .i64)) ([] : List Int)), (4, .v 0 (.int .i64) (0 : Int))]) (by kernel_rfl) ?_
    refine W_loop' (En := fun (x : (List Int) × Int) => [(0, .v 0 (.slice .bool) p0), (3, .v 9 (.slice (.int .i64)) x.1), (4, .v 0 (.int .i64) x.2)]) (x := (([] : List Int), (0 : Int))) h ?_
    rintro ⟨x2, x3⟩ K h
    replace h : Leads _ (r11_All_b1 p0 x2 x3) := h
    unfold r11_All_b1 at h
    show W _ _ _ _ _ _ [(0, .v 0 (.slice .bool) p0), (3, .v 9 (.slice (.int .i64)) x2), (4, .v 0 (.int .i64) x3)]
    refine W_seq ?_
    refine W_seq ?_
    refine W_region mixed tys_ok (sup := []) (l := [(0, 0), (3, 9), (4, 0), (8, 0)]) (E' := [(0, .v 0 (.slice .bool) p0), (3, .v 9 (.slice (.int .i64)) x2), (4, .v 0 (.int .i64) x3), (8, .v 0 .bool (decide (x3 < (p0.length : Int))))]) (obs := []) (by kernel_rfl) (trivial) ?_
    refine W_cond (β := decide (x3 < (p0.length : Int))) (by kernel_rfl) (fun hb => ?_) (fun hb => ?_)
    · rw [hb] at h; rw [cond_true] at h
      refine W_skip ?_
      refine W_seq ?_
      refine W_block ?_
      refine W_seq ?_
      obtain ⟨o1, h⟩ := h.ass
      refine W_region mixed tys_ok (sup := []) (l := [(0, 0), (3, 9), (4, 0), (14, 0)]) (E' := [(0, .v 0 (.slice .bool) p0), (3, .v 9 (.slice (.int .i64)) x2), (4, .v 0 (.int .i64) x3), (14, .v 0 .bool (rd false p0 x3))]) (obs := [0 ≤ x3 ∧ x3 < (p0.length : Int)]) (by kernel_rfl) (o1) ?_
      refine W_join h (Ej := fun (x : List Int) => [(0, .v 0 (.slice .bool) p0), (3, .v 9 (.slice (.int .i64)) x), (4, .v 0 (.int .i64) x3)]) (p := fun x => r11_All_j2 x3 x) ?_ ?_
      · rintro x4 h
        replace h : Leads _ (r11_All_j2 x3 x4) := h
        unfold r11_All_j2 at h
        show W _ _ _ _ _ _ [(0, .v 0 (.slice .bool) p0), (3, .v 9 (.slice (.int .i64)) x4), (4, .v 0 (.int .i64) x3)]
        refine W_blk ?_
        refine W_region mixed tys_ok (sup := []) (l := [(0, 0), (3, 9), (4, 0)]) (E' := [(0, .v 0 (.slice .bool) p0), (3, .v 9 (.slice (.int .i64)) x4), (4, .v 0 (.int .i64) (IntKind.i64.wrap (x3 + (1 : Int))))]) (obs := []) (by kernel_rfl) (trivial) ?_
        refine W_gen (x := IntKind.i64.wrap (x3 + (1 : Int))) (En := fun x5 => [(0, .v 0 (.slice .bool) p0), (3, .v 9 (.slice (.int .i64)) x4), (4, .v 0 (.int .i64) x5)]) h (fun x5 h => ?_)
        refine W_keep (l := [(0, 0), (3, 9), (4, 0)]) (E' := [(0, .v 0 (.slice .bool) p0), (3, .v 9 (.slice (.int .i64)) x4), (4, .v 0 (.int .i64) x5)]) (by kernel_rfl) ?_
        exact W_abs h
      · intro j2
        refine W_cond (β := rd false p0 x3) (by kernel_rfl) (fun hb => ?_) (fun hb => ?_)
        · rw [hb] at h; rw [cond_true] at h
          obtain ⟨o1, h⟩ := h.ass
          refine W_region mixed tys_ok (sup := []) (l := [(0, 0), (3, 9), (4, 0)]) (E' := [(0, .v 0 (.slice .bool) p0), (3, .v 9 (.slice (.int .i64)) (x2 ++ [x3])), (4, .v 0 (.int .i64) x3)]) (obs := [((x2.length + [x3].length : Nat) : Int) ≤ limA]) (by kernel_rfl) (o1) ?_
          refine W_gen (x := x2 ++ [x3]) (En := fun x6 => [(0, .v 0 (.slice .bool) p0), (3, .v 9 (.slice (.int .i64)) x6), (4, .v 0 (.int .i64) x3)]) h (fun x6 h => ?_)
          refine W_keep (l := [(0, 0), (3, 9), (4, 0)]) (E' := [(0, .v 0 (.slice .bool) p0), (3, .v 9 (.slice (.int .i64)) x6), (4, .v 0 (.int .i64) x3)]) (by kernel_rfl) ?_
          exact j2 x6 h
        · rw [hb] at h; rw [cond_false] at h
          refine W_skip ?_
          refine W_keep (l := [(0, 0), (3, 9), (4, 0)]) (E' := [(0, .v 0 (.slice .bool) p0), (3, .v 9 (.slice (.int .i64)) x2), (4, .v 0 (.int .i64) x3)]) (by kernel_rfl) ?_
          exact j2 x2 h
    · rw [hb] at h; rw [cond_false] at h
      refine W_exit rfl ?_
      refine W_keep (l := [(3, 9)]) (E' := [(3, .v 9 (.slice (.int .i64)) x2)]) (by kernel_rfl) ?_
      exact j1 x2 h.back

noncomputable def r13_Order_j1 (x2 : List Int) : Option (List Int) :=
  some x2
noncomputable def r13_Order_j2 (x5 : Int) : Option (Int ⊕ (((List Bool) × (List Int)) ⊕ (List Int))) :=
  bnd (IntKind.i64.wrap (x5 + (1 : Int))) fun x6 =>
  some (.inl x6)
noncomputable def r13_Order_j3 (x3 : List Bool) (x4 : List Int) (x5 : Int) (x8 : Bool) : Option (Int ⊕ (((List Bool) × (List Int)) ⊕ (List Int))) :=
  bif x8 then
    ass (0 ≤ x5 ∧ x5 < (x3.length : Int)) <|
    bnd (wr x3 x5 true) fun x9 =>
    ass (((x4.length + [x5].length : Nat) : Int) ≤ limA) <|
    bnd (x4 ++ [x5]) fun x10 =>
    some (.inr (.inl (x9, x10)))
  else
    r13_Order_j2 x5
noncomputable def r13_Order_j4 (x12 : Int) (x13 : Bool) : Option ((Bool × Int) ⊕ (Int ⊕ (((List Bool) × (List Int)) ⊕ (List Int)))) :=
  bnd (IntKind.i64.wrap (x12 + (1 : Int))) fun x14 =>
  some (.inl (x13, x14))
noncomputable def r13_Order_b3 (p0 : Int) (p1 : List D_r13_Arrow) (x3 : List Bool) (x4 : List Int) (x5 : Int) (x11 : Bool) (x12 : Int) : Option ((Bool × Int) ⊕ (Int ⊕ (((List Bool) × (List Int)) ⊕ (List Int)))) :=
  bif (decide (x12 < (p1.length : Int))) && x11 then
    ass (0 ≤ x12 ∧ x12 < (p1.length : Int)) <|
    ass (((rd z_r13_Arrow p1 x12).2 == x5) = true → 0 ≤ x12 ∧ x12 < (p1.length : Int)) <|
    ass ((((rd z_r13_Arrow p1 x12).2 == x5) && (decide ((rd z_r13_Arrow p1 x12).1 ≥ (0 : Int)))) = true → 0 ≤ x12 ∧ x12 < (p1.length : Int)) <|
    ass (((((rd z_r13_Arrow p1 x12).2 == x5) && (decide ((rd z_r13_Arrow p1 x12).1 ≥ (0 : Int)))) && (decide ((rd z_r13_Arrow p1 x12).1 < p0))) = true → 0 ≤ x12 ∧ x12 < (p1.length : Int)) <|
    ass (((((rd z_r13_Arrow p1 x12).2 == x5) && (decide ((rd z_r13_Arrow p1 x12).1 ≥ (0 : Int)))) && (decide ((rd z_r13_Arrow p1 x12).1 < p0))) = true → 0 ≤ (rd z_r13_Arrow p1 x12).1 ∧ (rd z_r13_Arrow p1 x12).1 < (x3.length : Int)) <|
    bif ((((rd z_r13_Arrow p1 x12).2 == x5) && (decide ((rd z_r13_Arrow p1 x12).1 ≥ (0 : Int)))) && (decide ((rd z_r13_Arrow p1 x12).1 < p0))) && (!(rd false x3 (rd z_r13_Arrow p1 x12).1)) then
      r13_Order_j4 x12 false
    else
      r13_Order_j4 x12 x11
  else
    (r13_Order_j3 x3 x4 x5 x11).map .inr
noncomputable def r13_Order_b2 (p0 : Int) (p1 : List D_r13_Arrow) (x3 : List Bool) (x4 : List Int) (x5 : Int) : Option (Int ⊕ (((List Bool) × (List Int)) ⊕ (List Int))) :=
  bif decide (x5 < p0) then
    ass (0 ≤ x5 ∧ x5 < (x3.length : Int)) <|
    bnd (!(rd false x3 x5)) fun x7 =>
    loopM (fun x : Bool × Int => r13_Order_b3 p0 p1 x3 x4 x5 x.1 x.2) (x7, (0 : Int))
  else
    some (.inr (.inl (x3, x4)))
noncomputable def r13_Order_b1 (p0 : Int) (p1 : List D_r13_Arrow) (x3 : List Bool) (x4 : List Int) : Option (((List Bool) × (List Int)) ⊕ (List Int)) :=
  bif decide ((x4.length : Int) < p0) then
    loopM (fun x : Int => r13_Order_b2 p0 p1 x3 x4 x) (0 : Int)
  else
    (r13_Order_j1 x4).map .inr
noncomputable def r13_Order (p0 : Int) (p1 : List D_r13_Arrow) : Option (List Int) :=
  ass (0 ≤ p0 ∧ p0 ≤ p0 ∧ p0 ≤ lim) <|
  bnd (List.replicate p0.toNat false) fun x1 =>
  loopM (fun x : (List Bool) × (List Int) => r13_Order_b1 p0 p1 x.1 x.2) (x1, ([] : List Int))
theorem r13_Order.ok {p0 : Int} {p1 : List D_r13_Arrow} {r : List Int} (h : r13_Order p0 p1 = some r) : ACall prog 38 [⟨.int .i64, p0⟩, ⟨.slice T_r13_Arrow, p1⟩] [⟨9, .slice (.int .i64), r⟩] := by
  replace h := Leads.of h
  unfold r13_Order at h
  refine acall_of func38 (by kernel_rfl) rfl (by kernel_rfl) fun w0 F0 => ?_
  refine W_seq ?_
  refine W_region mixed tys_ok (sup := []) (l := [(0, 0), (1, 0)]) (E' := [(0, .v 0 (.int .i64) p0), (1, .v 0 (.slice T_r13_Arrow) p1)]) (obs := []) (by kernel_rfl) (trivial) ?_
  refine W_seq ?_
  obtain ⟨o1, h⟩ := h.ass
  refine W_region mixed tys_ok (sup := []) (l := [(0, 0), (1, 0), (5, 9)]) (E' := [(0, .v 0 (.int .i64) p0), (1, .v 0 (.slice T_r13_Arrow) p1), (5, .v 9 (.slice .bool) (List.replicate p0.toNat false))]) (obs := [0 ≤ p0 ∧ p0 ≤ p0 ∧ p0 ≤ lim]) (by kernel_rfl) (o1) ?_
  refine W_gen (x := List.replicate p0.toNat false) (En := fun x1 => [(0, .v 0 (.int .i64) p0), (1, .v 0 (.slice T_r13_Arrow) p1), (5, .v 9 (.slice .bool) x1)]) h (fun x1 h => ?_)
  refine W_seq ?_
  refine W_region mixed tys_ok (sup := []) (l := [(0, 0), (1, 0), (5, 9), (6, 9)]) (E' := [(0, .v 0 (.int .i64) p0), (1, .v 0 (.slice T_r13_Arrow) p1), (5, .v 9 (.slice .bool) x1), (6, .v 9 (.slice (.int .i64)) ([] : List Int))]) (obs := []) (by kernel_rfl) (trivial) ?_
  refine W_seq ?_
  refine W_join h (Ej := fun (x : List Int) => [(6, .v 9 (.slice (.int .i64)) x)]) (p := fun x => r13_Order_j1 x) ?_ ?_
  · rintro x2 h
    replace h : Leads _ (r13_Order_j1 x2) := h
    unfold r13_Order_j1 at h
    show W _ _ _ _ _ _ [(6, .v 9 (.slice (.int .i64)) x2)]
    refine W_seq ?_
    refine W_region mixed tys_ok (sup := []) (l := [(4, 9)]) (E' := [(4, .v 9 (.slice (.int .i64)) x2)]) (obs := []) (by kernel_rfl) (trivial) ?_
    refine W_keep (l := [(4, 9)]) (E' := [(4, .v 9 (.slice (.int .i64)) x2)]) (by kernel_rfl) ?_
    replace h : x2 = r := h
    subst h
    exact W_ret tys_ok (by kernel_rfl) (by kernel_rfl)
  · intro j1
    refine W_block ?_
    refine W_keep (l := [(0, 0), (1, 0), (5, 9), (6, 9)]) (E' := [(0, .v 0 (.int .i64) p0), (1, .v 0 (.slice T_r13_Arrow) p1), (5, .v 9 (.slice .bool) x1), (6, .v 9 (.slice (.int .i64)) ([] : List Int))]) (by kernel_rfl) ?_
    refine W_loop' (En := fun (x : (List Bool) × (List Int)) => [(0, .v 0 (.int .i64) p0), (1, .v 0 (.slice T_r13_Arrow) p1), (5, .v 9 (.slice .bool) x.1), (6, .v 9 (.slice (.int .i64)) x.2)]) (x := (x1, ([] : List Int))) h ?_
    rintro ⟨x3, x4⟩ K h
    replace h : Leads _ (r13_Order_b1 p0 p1 x3 x4) := h
    unfold r13_Order_b1 at h
    show W _ _ _ _ _ _ [(0, .v 0 (.int .i64) p0), (1, .v 0 (.slice T_r13_Arrow) p1), (5, .v 9 (.slice .bool) x3), (6, .v 9 (.slice (.int .i64)) x4)]
    refine W_seq ?_
    refine W_seq ?_
    refine W_region mixed tys_ok (sup := []) (l := [(0, 0), (1, 0), (5, 9), (6, 9), (15, 0)]) (E' := [(0, .v 0 (.int .i64) p0), (1, .v 0 (.slice T_r13_Arrow) p1), (5, .v 9 (.slice .bool) x3), (6, .v 9 (.slice (.int .i64)) x4), (15, .v 0 .bool (decide ((x4.length : Int) < p0)))]) (obs := []) (by kernel_rfl) (trivial) ?_
    refine W_cond (β := decide ((x4.length : Int) < p0)) (by kernel_rfl) (fun hb => ?_) (fun hb => ?_)
    · rw [hb] at h; rw [cond_true] at h
      refine W_skip ?_
      refine W_block ?_
      refine W_seq ?_
      refine W_region mixed tys_ok (sup := []) (l := [(0, 0), (1, 0), (5, 9), (6, 9), (7, 0)]) (E' := [(0, .v 0 (.int .i64) p0), (1, .v 0 (.slice T_r13_Arrow) p1), (5, .v 9 (.slice .bool) x3), (6, .v 9 (.slice (.int .i64)) x4), (7, .v 0 (.int .i64) (0 : Int))]) (obs := []) (by kernel_rfl) (trivial) ?_
      refine W_block ?_
      refine W_keep (l := [(0, 0), (1, 0), (5, 9), (6, 9), (7, 0)]) (E' := [(0, .v 0 (.int .i64) p0), (1, .v 0 (.slice T_r13_Arrow) p1), (5, .v 9 (.slice .bool) x3), (6, .v 9 (.slice (.int .i64)) x4), (7, .v 0 (.int .i64) (0 : Int))]) (by kernel_rfl) ?_
      refine W_loop' (En := fun (x : Int) => [(0, .v 0 (.int .i64) p0), (1, .v 0 (.slice T_r13_Arrow) p1), (5, .v 9 (.slice .bool) x3), (6, .v 9 (.slice (.int .i64)) x4), (7, .v 0 (.int .i64) x)]) (x := (0 : Int)) h ?_
      rintro x5 K h
      replace h : Leads _ (r13_Order_b2 p0 p1 x3 x4 x5) := h
      unfold r13_Order_b2 at h
      show W _ _ _ _ _ _ [(0, .v 0 (.int .i64) p0), (1, .v 0 (.slice T_r13_Arrow) p1), (5, .v 9 (.slice .bool) x3), (6, .v 9 (.slice (.int .i64)) x4), (7, .v 0 (.int .i64) x5)]
      refine W_seq ?_
      refine W_seq ?_
      refine W_region mixed tys_ok (sup := []) (l := [(0, 0), (1, 0), (5, 9), (6, 9), (7, 0), (18, 0)]) (E' := [(0, .v 0 (.int .i64) p0), (1, .v 0 (.slice T_r13_Arrow) p1), (5, .v 9 (.slice .bool) x3), (6, .v 9 (.slice (.int .i64)) x4), (7, .v 0 (.int .i64) x5), (18, .v 0 .bool (decide (x5 < p0)))]) (obs := []) (by kernel_rfl) (trivial) ?_
      refine W_cond (β := decide (x5 < p0)) (by kernel_rfl) (fun hb => ?_) (fun hb => ?_)
      · rw [hb] at h; rw [cond_true] at h
        refine W_skip ?_
        refine W_seq ?_
        refine W_join h (Ej := fun (x : Unit) => [(0, .v 0 (.int .i64) p0), (1, .v 0 (.slice T_r13_Arrow) p1), (5, .v 9 (.slice .bool) x3), (6, .v 9 (.slice (.int .i64)) x4), (7, .v 0 (.int .i64) x5)]) (p := fun x => r13_Order_j2 x5) ?_ ?_
        · rintro ⟨⟩ h
          replace h : Leads _ (r13_Order_j2 x5) := h
          unfold r13_Order_j2 at h
          show W _ _ _ _ _ _ [(0, .v 0 (.int .i64) p0), (1, .v 0 (.slice T_r13_Arrow) p1), (5, .v 9 (.slice .bool) x3), (6, .v 9 (.slice (.int .i64)) x4), (7, .v 0 (.int .i64) x5)]
          refine W_region mixed tys_ok (sup := []) (l := [(0, 0), (1, 0), (5, 9), (6, 9), (7, 0)]) (E' := [(0, .v 0 (.int .i64) p0), (1, .v 0 (.slice T_r13_Arrow) p1), (5, .v 9 (.slice .bool) x3), (6, .v 9 (.slice (.int .i64)) x4), (7, .v 0 (.int .i64) (IntKind.i64.wrap (x5 + (1 : Int))))]) (obs := []) (by kernel_rfl) (trivial) ?_
          refine W_gen (x := IntKind.i64.wrap (x5 + (1 : Int))) (En := fun x6 => [(0, .v 0 (.int .i64) p0), (1, .v 0 (.slice T_r13_Arrow) p1), (5, .v 9 (.slice .bool) x3), (6, .v 9 (.slice (.int .i64)) x4), (7, .v 0 (.int .i64) x6)]) h (fun x6 h => ?_)
          refine W_keep (l := [(0, 0), (1, 0), (5, 9), (6, 9), (7, 0)]) (E' := [(0, .v 0 (.int .i64) p0), (1, .v 0 (.slice T_r13_Arrow) p1), (5, .v 9 (.slice .bool) x3), (6, .v 9 (.slice (.int .i64)) x4), (7, .v 0 (.int .i64) x6)]) (by kernel_rfl) ?_
          exact W_abs h
        · intro j2
          refine W_block ?_
          refine W_seq ?_
          obtain ⟨o1, h⟩ := h.ass
          refine W_region mixed tys_ok (sup := []) (l := [(0, 0), (1, 0), (5, 9), (6, 9), (7, 0), (8, 0)]) (E' := [(0, .v 0 (.int .i64) p0), (1, .v 0 (.slice T_r13_Arrow) p1), (5, .v 9 (.slice .bool) x3), (6, .v 9 (.slice (.int .i64)) x4), (7, .v 0 (.int .i64) x5), (8, .v 0 .bool (!(rd false x3 x5)))]) (obs := [0 ≤ x5 ∧ x5 < (x3.length : Int)]) (by kernel_rfl) (o1) ?_
          refine W_gen (x := !(rd false x3 x5)) (En := fun x7 => [(0, .v 0 (.int .i64) p0), (1, .v 0 (.slice T_r13_Arrow) p1), (5, .v 9 (.slice .bool) x3), (6, .v 9 (.slice (.int .i64)) x4), (7, .v 0 (.int .i64) x5), (8, .v 0 .bool x7)]) h (fun x7 h => ?_)
          refine W_seq ?_
          refine W_seq ?_
          refine W_region mixed tys_ok (sup := []) (l := [(0, 0), (1, 0), (5, 9), (6, 9), (7, 0), (8, 0), (9, 0)]) (E' := [(0, .v 0 (.int .i64) p0), (1, .v 0 (.slice T_r13_Arrow) p1), (5, .v 9 (.slice .bool) x3), (6, .v 9 (.slice (.int .i64)) x4), (7, .v 0 (.int .i64) x5), (8, .v 0 .bool x7), (9, .v 0 (.int .i64) (0 : Int))]) (obs := []) (by kernel_rfl) (trivial) ?_
          refine W_join h (Ej := fun (x : Bool) => [(0, .v 0 (.int .i64) p0), (1, .v 0 (.slice T_r13_Arrow) p1), (5, .v 9 (.slice .bool) x3), (6, .v 9 (.slice (.int .i64)) x4), (7, .v 0 (.int .i64) x5), (8, .v 0 .bool x)]) (p := fun x => r13_Order_j3 x3 x4 x5 x) ?_ ?_
          · rintro x8 h
            replace h : Leads _ (r13_Order_j3 x3 x4 x5 x8) := h
            unfold r13_Order_j3 at h
            show W _ _ _ _ _ _ [(0, .v 0 (.int .i64) p0), (1, .v 0 (.slice T_r13_Arrow) p1), (5, .v 9 (.slice .bool) x3), (6, .v 9 (.slice (.int .i64)) x4), (7, .v 0 (.int .i64) x5), (8, .v 0 .bool x8)]
            refine W_seq ?_
            refine W_region mixed tys_ok (sup := []) (l := [(0, 0), (1, 0), (5, 9), (6, 9), (7, 0), (70, 0)]) (E' := [(0, .v 0 (.int .i64) p0), (1, .v 0 (.slice T_r13_Arrow) p1), (5, .v 9 (.slice .bool) x3), (6, .v 9 (.slice (.int .i64)) x4), (7, .v 0 (.int .i64) x5), (70, .v 0 .bool x8)]) (obs := []) (by kernel_rfl) (trivial) ?_
            refine W_cond (β := x8) (by kernel_rfl) (fun hb => ?_) (fun hb => ?_)
            · rw [cond_tt hb] at h
              refine W_seq ?_
              obtain ⟨o1, h⟩ := h.ass
              refine W_region mixed tys_ok (sup := []) (l := [(0, 0), (1, 0), (5, 9), (6, 9), (7, 0)]) (E' := [(0, .v 0 (.int .i64) p0), (1, .v 0 (.slice T_r13_Arrow) p1), (5, .v 9 (.slice .bool) (wr x3 x5 true)), (6, .v 9 (.slice (.int .i64)) x4), (7, .v 0 (.int .i64) x5)]) (obs := [0 ≤ x5 ∧ x5 < (x3.length : Int)]) (by kernel_rfl) (o1) ?_
              refine W_gen (x := wr x3 x5 true) (En := fun x9 => [(0, .v 0 (.int .i64) p0), (1, .v 0 (.slice T_r13_Arrow) p1), (5, .v 9 (.slice .bool) x9), (6, .v 9 (.slice (.int .i64)) x4), (7, .v 0 (.int .i64) x5)]) h (fun x9 h => ?_)
              refine W_seq ?_
              obtain ⟨o1, h⟩ := h.ass
              refine W_region mixed tys_ok (sup := []) (l := [(0, 0), (1, 0), (5, 9), (6, 9)]) (E' := [(0, .v 0 (.int .i64) p0), (1, .v 0 (.slice T_r13_Arrow) p1), (5, .v 9 (.slice .bool) x9), (6, .v 9 (.slice (.int .i64)) (x4 ++ [x5]))]) (obs := [((x4.length + [x5].length : Nat) : Int) ≤ limA]) (by kernel_rfl) (o1) ?_
              refine W_gen (x := x4 ++ [x5]) (En := fun x10 => [(0, .v 0 (.int .i64) p0), (1, .v 0 (.slice T_r13_Arrow) p1), (5, .v 9 (.slice .bool) x9), (6, .v 9 (.slice (.int .i64)) x10)]) h (fun x10 h => ?_)
              refine W_exit rfl ?_
              refine W_blk ?_
              refine W_keep (l := [(0, 0), (1, 0), (5, 9), (6, 9)]) (E' := [(0, .v 0 (.int .i64) p0), (1, .v 0 (.slice T_r13_Arrow) p1), (5, .v 9 (.slice .bool) x9), (6, .v 9 (.slice (.int .i64)) x10)]) (by kernel_rfl) ?_
              exact W_abs h
            · rw [cond_ff hb] at h
              refine W_skip ?_
              refine W_blk ?_
              refine W_keep (l := [(0, 0), (1, 0), (5, 9), (6, 9), (7, 0)]) (E' := [(0, .v 0 (.int .i64) p0), (1, .v 0 (.slice T_r13_Arrow) p1), (5, .v 9 (.slice .bool) x3), (6, .v 9 (.slice (.int .i64)) x4), (7, .v 0 (.int .i64) x5)]) (by kernel_rfl) ?_
              exact j2 () h
          · intro j3
            refine W_block ?_
            refine W_keep (l := [(0, 0), (1, 0), (5, 9), (6, 9), (7, 0), (8, 0), (9, 0)]) (E' := [(0, .v 0 (.int .i64) p0), (1, .v 0 (.slice T_r13_Arrow) p1), (5, .v 9 (.slice .bool) x3), (6, .v 9 (.slice (.int .i64)) x4), (7, .v 0 (.int .i64) x5), (8, .v 0 .bool x7), (9, .v 0 (.int .i64) (0 : Int))]) (by kernel_rfl) ?_
            refine W_loop' (En := fun (x : Bool × Int) => [(0, .v 0 (.int .i64) p0), (1, .v 0 (.slice T_r13_Arrow) p1), (5, .v 9 (.slice .bool) x3), (6, .v 9 (.slice (.int .i64)) x4), (7, .v 0 (.int .i64) x5), (8, .v 0 .bool x.1), (9, .v 0 (.int .i64) x.2)]) (x := (x7, (0 : Int))) h ?_
            rintro ⟨x11, x12⟩ K h
            replace h : Leads _ (r13_Order_b3 p0 p1 x3 x4 x5 x11 x12) := h
            unfold r13_Order_b3 at h
            show W _ _ _ _ _ _ [(0, .v 0 (.int .i64) p0), (1, .v 0 (.slice T_r13_Arrow) p1), (5, .v 9 (.slice .bool) x3), (6, .v 9 (.slice (.int .i64)) x4), (7, .v 0 (.int .i64) x5), (8, .v 0 .bool x11), (9, .v 0 (.int .i64) x12)]
            refine W_seq ?_
            refine W_seq ?_
            refine W_region mixed tys_ok (sup := []) (l := [(0, 0), (1, 0), (5, 9), (6, 9), (7, 0), (8, 0), (9, 0), (32, 0)]) (E' := [(0, .v 0 (.int .i64) p0), (1, .v 0 (.slice T_r13_Arrow) p1), (5, .v 9 (.slice .bool) x3), (6, .v 9 (.slice (.int .i64)) x4), (7, .v 0 (.int .i64) x5), (8, .v 0 .bool x11), (9, .v 0 (.int .i64) x12), (32, .v 0 .bool ((decide (x12 < (p1.length : Int))) && x11))]) (obs := []) (by kernel_rfl) (trivial) ?_
            refine W_cond (β := (decide (x12 < (p1.length : Int))) && x11) (by kernel_rfl) (fun hb => ?_) (fun hb => ?_)
            · rw [hb] at h; rw [cond_true] at h
              refine W_skip ?_
              refine W_seq ?_
              refine W_block ?_
              refine W_seq ?_
              obtain ⟨o1, h⟩ := h.ass
              obtain ⟨o2, h⟩ := h.ass
              obtain ⟨o3, h⟩ := h.ass
              obtain ⟨o4, h⟩ := h.ass
              obtain ⟨o5, h⟩ := h.ass
              refine W_region mixed tys_ok (sup := []) (l := [(0, 0), (1, 0), (5, 9), (6, 9), (7, 0), (8, 0), (9, 0), (69, 0)]) (E' := [(0, .v 0 (.int .i64) p0), (1, .v 0 (.slice T_r13_Arrow) p1), (5, .v 9 (.slice .bool) x3), (6, .v 9 (.slice (.int .i64)) x4), (7, .v 0 (.int .i64) x5), (8, .v 0 .bool x11), (9, .v 0 (.int .i64) x12), (69, .v 0 .bool (((((rd z_r13_Arrow p1 x12).2 == x5) && (decide ((rd z_r13_Arrow p1 x12).1 ≥ (0 : Int)))) && (decide ((rd z_r13_Arrow p1 x12).1 < p0))) && (!(rd false x3 (rd z_r13_Arrow p1 x12).1))))]) (obs := [0 ≤ x12 ∧ x12 < (p1.length : Int), ((rd z_r13_Arrow p1 x12).2 == x5) = true → 0 ≤ x12 ∧ x12 < (p1.length : Int), (((rd z_r13_Arrow p1 x12).2 == x5) && (decide ((rd z_r13_Arrow p1 x12).1 ≥ (0 : Int)))) = true → 0 ≤ x12 ∧ x12 < (p1.length : Int), ((((rd z_r13_Arrow p1 x12).2 == x5) && (decide ((rd z_r13_Arrow p1 x12).1 ≥ (0 : Int)))) && (decide ((rd z_r13_Arrow p1 x12).1 < p0))) = true → 0 ≤ x12 ∧ x12 < (p1.length : Int), ((((rd z_r13_Arrow p1 x12).2 == x5) && (decide ((rd z_r13_Arrow p1 x12).1 ≥ (0 : Int)))) && (decide ((rd z_r13_Arrow p1 x12).1 < p0))) = true → 0 ≤ (rd z_r13_Arrow p1 x12).1 ∧ (rd z_r13_Arrow p1 x12).1 < (x3.length : Int)]) (by kernel_rfl) (⟨o1, o2, o3, o4, o5⟩) ?_
              refine W_join h (Ej := fun (x : Bool) => [(0, .v 0 (.int .i64) p0), (1, .v 0 (.slice T_r13_Arrow) p1), (5, .v 9 (.slice .bool) x3), (6, .v 9 (.slice (.int .i64)) x4), (7, .v 0 (.int .i64) x5), (8, .v 0 .bool x), (9, .v 0 (.int .i64) x12)]) (p := fun x => r13_Order_j4 x12 x) ?_ ?_
              · rintro x13 h
                replace h : Leads _ (r13_Order_j4 x12 x13) := h
                unfold r13_Order_j4 at h
                show W _ _ _ _ _ _ [(0, .v 0 (.int .i64) p0), (1, .v 0 (.slice T_r13_Arrow) p1), (5, .v 9 (.slice .bool) x3), (6, .v 9 (.slice (.int .i64)) x4), (7, .v 0 (.int .i64) x5), (8, .v 0 .bool x13), (9, .v 0 (.int .i64) x12)]
                refine W_blk ?_
                refine W_region mixed tys_ok (sup := []) (l := [(0, 0), (1, 0), (5, 9), (6, 9), (7, 0), (8, 0), (9, 0)]) (E' := [(0, .v 0 (.int .i64) p0), (1, .v 0 (.slice T_r13_Arrow) p1), (5, .v 9 (.slice .bool) x3), (6, .v 9 (.slice (.int .i64)) x4), (7, .v 0 (.int .i64) x5), (8, .v 0 .bool x13), (9, .v 0 (.int .i64) (IntKind.i64.wrap (x12 + (1 : Int))))]) (obs := []) (by kernel_rfl) (trivial) ?_
                refine W_gen (x := IntKind.i64.wrap (x12 + (1 : Int))) (En := fun x14 => [(0, .v 0 (.int .i64) p0), (1, .v 0 (.slice T_r13_Arrow) p1), (5, .v 9 (.slice .bool) x3), (6, .v 9 (.slice (.int .i64)) x4), (7, .v 0 (.int .i64) x5), (8, .v 0 .bool x13), (9, .v 0 (.int .i64) x14)]) h (fun x14 h => ?_)
                refine W_keep (l := [(0, 0), (1, 0), (5, 9), (6, 9), (7, 0), (8, 0), (9, 0)]) (E' := [(0, .v 0 (.int .i64) p0), (1, .v 0 (.slice T_r13_Arrow) p1), (5, .v 9 (.slice .bool) x3), (6, .v 9 (.slice (.int .i64)) x4), (7, .v 0 (.int .i64) x5), (8, .v 0 .bool x13), (9, .v 0 (.int .i64) x14)]) (by kernel_rfl) ?_
                exact W_abs h
              · intro j4
                refine W_cond (β := ((((rd z_r13_Arrow p1 x12).2 == x5) && (decide ((rd z_r13_Arrow p1 x12).1 ≥ (0 : Int)))) && (decide ((rd z_r13_Arrow p1 x12).1 < p0))) && (!(rd false x3 (rd z_r13_Arrow p1 x12).1))) (by kernel_rfl) (fun hb => ?_) (fun hb => ?_)
                · rw [hb] at h; rw [cond_true] at h
                  refine W_region mixed tys_ok (sup := []) (l := [(0, 0), (1, 0), (5, 9), (6, 9), (7, 0), (8, 0), (9, 0)]) (E' := [(0, .v 0 (.int .i64) p0), (1, .v 0 (.slice T_r13_Arrow) p1), (5, .v 9 (.slice .bool) x3), (6, .v 9 (.slice (.int .i64)) x4), (7, .v 0 (.int .i64) x5), (8, .v 0 .bool false), (9, .v 0 (.int .i64) x12)]) (obs := []) (by kernel_rfl) (trivial) ?_
                  refine W_keep (l := [(0, 0), (1, 0), (5, 9), (6, 9), (7, 0), (8, 0), (9, 0)]) (E' := [(0, .v 0 (.int .i64) p0), (1, .v 0 (.slice T_r13_Arrow) p1), (5, .v 9 (.slice .bool) x3), (6, .v 9 (.slice (.int .i64)) x4), (7, .v 0 (.int .i64) x5), (8, .v 0 .bool false), (9, .v 0 (.int .i64) x12)]) (by kernel_rfl) ?_
                  exact j4 false h
                · rw [hb] at h; rw [cond_false] at h
                  refine W_skip ?_
                  refine W_keep (l := [(0, 0), (1, 0), (5, 9), (6, 9), (7, 0), (8, 0), (9, 0)]) (E' := [(0, .v 0 (.int .i64) p0), (1, .v 0 (.slice T_r13_Arrow) p1), (5, .v 9 (.slice .bool) x3), (6, .v 9 (.slice (.int .i64)) x4), (7, .v 0 (.int .i64) x5), (8, .v 0 .bool x11), (9, .v 0 (.int .i64) x12)]) (by kernel_rfl) ?_
                  exact j4 x11 h
            · rw [hb] at h; rw [cond_false] at h
              refine W_exit rfl ?_
              refine W_keep (l := [(0, 0), (1, 0), (5, 9), (6, 9), (7, 0), (8, 0)]) (E' := [(0, .v 0 (.int .i64) p0), (1, .v 0 (.slice T_r13_Arrow) p1), (5, .v 9 (.slice .bool) x3), (6, .v 9 (.slice (.int .i64)) x4), (7, .v 0 (.int .i64) x5), (8, .v 0 .bool x11)]) (by kernel_rfl) ?_
              exact j3 x11 h.back
      · rw [hb] at h; rw [cond_false] at h
        refine W_exit rfl ?_
        refine W_blk ?_
        refine W_keep (l := [(0, 0), (1, 0), (5, 9), (6, 9)]) (E' := [(0, .v 0 (.int .i64) p0), (1, .v 0 (.slice T_r13_Arrow) p1), (5, .v 9 (.slice .bool) x3), (6, .v 9 (.slice (.int .i64)) x4)]) (by kernel_rfl) ?_
        exact W_abs h
    · rw [hb] at h; rw [cond_false] at h
      refine W_exit rfl ?_
      refine W_keep (l := [(6, 9)]) (E' := [(6, .v 9 (.slice (.int .i64)) x4)]) (by kernel_rfl) ?_
      exact j1 x4 h.back

noncomputable def r13_Depth_j1 (x2 : List Int) : Option (List Int) :=
  some x2
noncomputable def r13_Depth_j2 (x7 : Int) (x9 : List Int) (x10 : Bool) : Option (((List Int) × Bool × Int) ⊕ (((List Int) × Bool) ⊕ (List Int))) :=
  bnd (IntKind.i64.wrap (x7 + (1 : Int))) fun x11 =>
  some (.inl (x9, x10, x11))
noncomputable def r13_Depth_b2 (p0 : Int) (p1 : List D_r13_Arrow) (x5 : List Int) (x6 : Bool) (x7 : Int) : Option (((List Int) × Bool × Int) ⊕ (((List Int) × Bool) ⊕ (List Int))) :=
  bif decide (x7 < (p1.length : Int)) then
    ass (0 ≤ x7 ∧ x7 < (p1.length : Int)) <|
    bnd (rd z_r13_Arrow p1 x7) fun x8 =>
    ass (((((decide (x8.1 ≥ (0 : Int))) && (decide (x8.1 < p0))) && (decide (x8.2 ≥ (0 : Int)))) && (decide (x8.2 < p0))) = true → 0 ≤ x8.2 ∧ x8.2 < (x5.length : Int)) <|
    ass (((((decide (x8.1 ≥ (0 : Int))) && (decide (x8.1 < p0))) && (decide (x8.2 ≥ (0 : Int)))) && (decide (x8.2 < p0))) = true → 0 ≤ x8.1 ∧ x8.1 < (x5.length : Int)) <|
    bif ((((decide (x8.1 ≥ (0 : Int))) && (decide (x8.1 < p0))) && (decide (x8.2 ≥ (0 : Int)))) && (decide (x8.2 < p0))) && (decide ((rd (0 : Int) x5 x8.2) ≤ (rd (0 : Int) x5 x8.1))) then
      ass (0 ≤ x8.1 ∧ x8.1 < (x5.length : Int)) <|
      ass (0 ≤ x8.2 ∧ x8.2 < (x5.length : Int)) <|
      bnd (wr x5 x8.2 (IntKind.i64.wrap ((rd (0 : Int) x5 x8.1) + (1 : Int)))) fun x12 =>
      r13_Depth_j2 x7 x12 true
    else
      r13_Depth_j2 x7 x5 x6
  else
    some (.inr (.inl (x5, x6)))
noncomputable def r13_Depth_b1 (p0 : Int) (p1 : List D_r13_Arrow) (x3 : List Int) (x4 : Bool) : Option (((List Int) × Bool) ⊕ (List Int)) :=
  bif x4 then
    loopM (fun x : (List Int) × Bool × Int => r13_Depth_b2 p0 p1 x.1 x.2.1 x.2.2) (x3, false, (0 : Int))
  else
    (r13_Depth_j1 x3).map .inr
noncomputable def r13_Depth (p0 : Int) (p1 : List D_r13_Arrow) : Option (List Int) :=
  ass (0 ≤ p0 ∧ p0 ≤ p0 ∧ p0 ≤ lim) <|
  bnd (List.replicate p0.toNat (0 : Int)) fun x1 =>
  loopM (fun x : (List Int) × Bool => r13_Depth_b1 p0 p1 x.1 x.2) (x1, true)
theorem r13_Depth.ok {p0 : Int} {p1 : List D_r13_Arrow} {r : List Int} (h : r13_Depth p0 p1 = some r) : ACall prog 39 [⟨.int .i64, p0⟩, ⟨.slice T_r13_Arrow, p1⟩] [⟨9, .slice (.int .i64), r⟩] := by
  replace h := Leads.of h
  unfold r13_Depth at h
  refine acall_of func39 (by kernel_rfl) rfl (by kernel_rfl) fun w0 F0 => ?_
  refine W_seq ?_
  refine W_region mixed tys_ok (sup := []) (l := [(0, 0), (1, 0)]) (E' := [(0, .v 0 (.int .i64) p0), (1, .v 0 (.slice T_r13_Arrow) p1)]) (obs := []) (by kernel_rfl) (trivial) ?_
  refine W_seq ?_
  obtain ⟨o1, h⟩ := h.ass
  refine W_region mixed tys_ok (sup := []) (l := [(0, 0), (1, 0), (5, 9)]) (E' := [(0, .v 0 (.int .i64) p0), (1, .v 0 (.slice T_r13_Arrow) p1), (5, .v 9 (.slice (.int .i64)) (List.replicate p0.toNat (0 : Int)))]) (obs := [0 ≤ p0 ∧ p0 ≤ p0 ∧ p0 ≤ lim]) (by kernel_rfl) (o1) ?_
  refine W_gen (x := List.replicate p0.toNat (0 : Int)) (En := fun x1 => [(0, .v 0 (.int .i64) p0), (1, .v 0 (.slice T_r13_Arrow) p1), (5, .v 9 (.slice (.int .i64)) x1)]) h (fun x1 h => ?_)
  refine W_seq ?_
  refine W_region mixed tys_ok (sup := []) (l := [(0, 0), (1, 0), (5, 9), (6, 0)]) (E' := [(0, .v 0 (.int .i64) p0), (1, .v 0 (.slice T_r13_Arrow) p1), (5, .v 9 (.slice (.int .i64)) x1), (6, .v 0 .bool true)]) (obs := []) (by kernel_rfl) (trivial) ?_
  refine W_seq ?_
  refine W_join h (Ej := fun (x : List Int) => [(5, .v 9 (.slice (.int .i64)) x)]) (p := fun x => r13_Depth_j1 x) ?_ ?_
  · rintro x2 h
    replace h : Leads _ (r13_Depth_j1 x2) := h
    unfold r13_Depth_j1 at h
    show W _ _ _ _ _ _ [(5, .v 9 (.slice (.int .i64)) x2)]
    refine W_seq ?_
    refine W_region mixed tys_ok (sup := []) (l := [(4, 9)]) (E' := [(4, .v 9 (.slice (.int .i64)) x2)]) (obs := []) (by kernel_rfl) (trivial) ?_
    refine W_keep (l := [(4, 9)]) (E' := [(4, .v 9 (.slice (.int .i64)) x2)]) (by kernel_rfl) ?_
    replace h : x2 = r := h
    subst h
    exact W_ret tys_ok (by kernel_rfl) (by kernel_rfl)
  · intro j1
    refine W_block ?_
    refine W_keep (l := [(0, 0), (1, 0), (5, 9), (6, 0)]) (E' := [(0, .v 0 (.int .i64) p0), (1, .v 0 (.slice T_r13_Arrow) p1), (5, .v 9 (.slice (.int .i64)) x1), (6, .v 0 .bool true)]) (by kernel_rfl) ?_
    refine W_loop' (En := fun (x : (List Int) × Bool) => [(0, .v 0 (.int .i64) p0), (1, .v 0 (.slice T_r13_Arrow) p1), (5, .v 9 (.slice (.int .i64)) x.1), (6, .v 0 .bool x.2)]) (x := (x1, true)) h ?_
    rintro ⟨x3, x4⟩ K h
    replace h : Leads _ (r13_Depth_b1 p0 p1 x3 x4) := h
    unfold r13_Depth_b1 at h
    show W _ _ _ _ _ _ [(0, .v 0 (.int .i64) p0), (1, .v 0 (.slice T_r13_Arrow) p1), (5, .v 9 (.slice (.int .i64)) x3), (6, .v 0 .bool x4)]
    refine W_seq ?_
    refine W_seq ?_
    refine W_region mixed tys_ok (sup := []) (l := [(0, 0), (1, 0), (5, 9), (11, 0)]) (E' := [(0, .v 0 (.int .i64) p0), (1, .v 0 (.slice T_r13_Arrow) p1), (5, .v 9 (.slice (.int .i64)) x3), (11, .v 0 .bool x4)]) (obs := []) (by kernel_rfl) (trivial) ?_
    refine W_cond (β := x4) (by kernel_rfl) (fun hb => ?_) (fun hb => ?_)
    · rw [cond_tt hb] at h
      refine W_skip ?_
      refine W_block ?_
      refine W_seq ?_
      refine W_region mixed tys_ok (sup := []) (l := [(0, 0), (1, 0), (5, 9), (6, 0)]) (E' := [(0, .v 0 (.int .i64) p0), (1, .v 0 (.slice T_r13_Arrow) p1), (5, .v 9 (.slice (.int .i64)) x3), (6, .v 0 .bool false)]) (obs := []) (by kernel_rfl) (trivial) ?_
      refine W_seq ?_
      refine W_region mixed tys_ok (sup := []) (l := [(0, 0), (1, 0), (5, 9), (6, 0), (7, 0)]) (E' := [(0, .v 0 (.int .i64) p0), (1, .v 0 (.slice T_r13_Arrow) p1), (5, .v 9 (.slice (.int .i64)) x3), (6, .v 0 .bool false), (7, .v 0 (.int .i64) (0 : Int))]) (obs := []) (by kernel_rfl) (trivial) ?_
      refine W_block ?_
      refine W_keep (l := [(0, 0), (1, 0), (5, 9), (6, 0), (7, 0)]) (E' := [(0, .v 0 (.int .i64) p0), (1, .v 0 (.slice T_r13_Arrow) p1), (5, .v 9 (.slice (.int .i64)) x3), (6, .v 0 .bool false), (7, .v 0 (.int .i64) (0 : Int))]) (by kernel_rfl) ?_
      refine W_loop' (En := fun (x : (List Int) × Bool × Int) => [(0, .v 0 (.int .i64) p0), (1, .v 0 (.slice T_r13_Arrow) p1), (5, .v 9 (.slice (.int .i64)) x.1), (6, .v 0 .bool x.2.1), (7, .v 0 (.int .i64) x.2.2)]) (x := (x3, false, (0 : Int))) h ?_
      rintro ⟨x5, x6, x7⟩ K h
      replace h : Leads _ (r13_Depth_b2 p0 p1 x5 x6 x7) := h
      unfold r13_Depth_b2 at h
      show W _ _ _ _ _ _ [(0, .v 0 (.int .i64) p0), (1, .v 0 (.slice T_r13_Arrow) p1), (5, .v 9 (.slice (.int .i64)) x5), (6, .v 0 .bool x6), (7, .v 0 (.int .i64) x7)]
      refine W_seq ?_
      refine W_seq ?_
      refine W_region mixed tys_ok (sup := []) (l := [(0, 0), (1, 0), (5, 9), (6, 0), (7, 0), (15, 0)]) (E' := [(0, .v 0 (.int .i64) p0), (1, .v 0 (.slice T_r13_Arrow) p1), (5, .v 9 (.slice (.int .i64)) x5), (6, .v 0 .bool x6), (7, .v 0 (.int .i64) x7), (15, .v 0 .bool (decide (x7 < (p1.length : Int))))]) (obs := []) (by kernel_rfl) (trivial) ?_
      refine W_cond (β := decide (x7 < (p1.length : Int))) (by kernel_rfl) (fun hb => ?_) (fun hb => ?_)
      · rw [hb] at h; rw [cond_true] at h
        refine W_skip ?_
        refine W_seq ?_
        refine W_block ?_
        refine W_seq ?_
        obtain ⟨o1, h⟩ := h.ass
        refine W_region mixed tys_ok (sup := []) (l := [(0, 0), (1, 0), (5, 9), (6, 0), (7, 0), (8, 9)]) (E' := [(0, .v 0 (.int .i64) p0), (1, .v 0 (.slice T_r13_Arrow) p1), (5, .v 9 (.slice (.int .i64)) x5), (6, .v 0 .bool x6), (7, .v 0 (.int .i64) x7), (8, .box 9 T_r13_Arrow (rd z_r13_Arrow p1 x7))]) (obs := [0 ≤ x7 ∧ x7 < (p1.length : Int)]) (by kernel_rfl) (o1) ?_
        refine W_gen (x := rd z_r13_Arrow p1 x7) (En := fun x8 => [(0, .v 0 (.int .i64) p0), (1, .v 0 (.slice T_r13_Arrow) p1), (5, .v 9 (.slice (.int .i64)) x5), (6, .v 0 .bool x6), (7, .v 0 (.int .i64) x7), (8, .box 9 T_r13_Arrow x8)]) h (fun x8 h => ?_)
        refine W_seq ?_
        obtain ⟨o1, h⟩ := h.ass
        obtain ⟨o2, h⟩ := h.ass
        refine W_region mixed tys_ok (sup := []) (l := [(0, 0), (1, 0), (5, 9), (6, 0), (7, 0), (8, 9), (54, 0)]) (E' := [(0, .v 0 (.int .i64) p0), (1, .v 0 (.slice T_r13_Arrow) p1), (5, .v 9 (.slice (.int .i64)) x5), (6, .v 0 .bool x6), (7, .v 0 (.int .i64) x7), (8, .box 9 T_r13_Arrow x8), (54, .v 0 .bool (((((decide (x8.1 ≥ (0 : Int))) && (decide (x8.1 < p0))) && (decide (x8.2 ≥ (0 : Int)))) && (decide (x8.2 < p0))) && (decide ((rd (0 : Int) x5 x8.2) ≤ (rd (0 : Int) x5 x8.1)))))]) (obs := [((((decide (x8.1 ≥ (0 : Int))) && (decide (x8.1 < p0))) && (decide (x8.2 ≥ (0 : Int)))) && (decide (x8.2 < p0))) = true → 0 ≤ x8.2 ∧ x8.2 < (x5.length : Int), ((((decide (x8.1 ≥ (0 : Int))) && (decide (x8.1 < p0))) && (decide (x8.2 ≥ (0 : Int)))) && (decide (x8.2 < p0))) = true → 0 ≤ x8.1 ∧ x8.1 < (x5.length : Int)]) (by kernel_rfl) (⟨o1, o2⟩) ?_
        refine W_join h (Ej := fun (x : (List Int) × Bool) => [(0, .v 0 (.int .i64) p0), (1, .v 0 (.slice T_r13_Arrow) p1), (5, .v 9 (.slice (.int .i64)) x.1), (6, .v 0 .bool x.2), (7, .v 0 (.int .i64) x7)]) (p := fun x => r13_Depth_j2 x7 x.1 x.2) ?_ ?_
        · rintro ⟨x9, x10⟩ h
          replace h : Leads _ (r13_Depth_j2 x7 x9 x10) := h
          unfold r13_Depth_j2 at h
          show W _ _ _ _ _ _ [(0, .v 0 (.int .i64) p0), (1, .v 0 (.slice T_r13_Arrow) p1), (5, .v 9 (.slice (.int .i64)) x9), (6, .v 0 .bool x10), (7, .v 0 (.int .i64) x7)]
          refine W_blk ?_
          refine W_region mixed tys_ok (sup := []) (l := [(0, 0), (1, 0), (5, 9), (6, 0), (7, 0)]) (E' := [(0, .v 0 (.int .i64) p0), (1, .v 0 (.slice T_r13_Arrow) p1), (5, .v 9 (.slice (.int .i64)) x9), (6, .v 0 .bool x10), (7, .v 0 (.int .i64) (IntKind.i64.wrap (x7 + (1 : Int))))]) (obs := []) (by kernel_rfl) (trivial) ?_
          refine W_gen (x := IntKind.i64.wrap (x7 + (1 : Int))) (En := fun x11 => [(0, .v 0 (.int .i64) p0), (1, .v 0 (.slice T_r13_Arrow) p1), (5, .v 9 (.slice (.int .i64)) x9), (6, .v 0 .bool x10), (7, .v 0 (.int .i64) x11)]) h (fun x11 h => ?_)
          refine W_keep (l := [(0, 0), (1, 0), (5, 9), (6, 0), (7, 0)]) (E' := [(0, .v 0 (.int .i64) p0), (1, .v 0 (.slice T_r13_Arrow) p1), (5, .v 9 (.slice (.int .i64)) x9), (6, .v 0 .bool x10), (7, .v 0 (.int .i64) x11)]) (by kernel_rfl) ?_
          exact W_abs h
        · intro j2
          refine W_cond (β := ((((decide (x8.1 ≥ (0 : Int))) && (decide (x8.1 < p0))) && (decide (x8.2 ≥ (0 : Int)))) && (decide (x8.2 < p0))) && (decide ((rd (0 : Int) x5 x8.2) ≤ (rd (0 : Int) x5 x8.1)))) (by kernel_rfl) (fun hb => ?_) (fun hb => ?_)
          · rw [hb] at h; rw [cond_true] at h
            refine W_seq ?_
            obtain ⟨o1, h⟩ := h.ass
            obtain ⟨o2, h⟩ := h.ass
            refine W_region mixed tys_ok (sup := []) (l := [(0, 0), (1, 0), (5, 9), (7, 0)]) (E' := [(0, .v 0 (.int .i64) p0), (1, .v 0 (.slice T_r13_Arrow) p1), (5, .v 9 (.slice (.int .i64)) (wr x5 x8.2 (IntKind.i64.wrap ((rd (0 : Int) x5 x8.1) + (1 : Int))))), (7, .v 0 (.int .i64) x7)]) (obs := [0 ≤ x8.1 ∧ x8.1 < (x5.length : Int), 0 ≤ x8.2 ∧ x8.2 < (x5.length : Int)]) (by kernel_rfl) (⟨o1, o2⟩) ?_
            refine W_gen (x := wr x5 x8.2 (IntKind.i64.wrap ((rd (0 : Int) x5 x8.1) + (1 : Int)))) (En := fun x12 => [(0, .v 0 (.int .i64) p0), (1, .v 0 (.slice T_r13_Arrow) p1), (5, .v 9 (.slice (.int .i64)) x12), (7, .v 0 (.int .i64) x7)]) h (fun x12 h => ?_)
            refine W_region mixed tys_ok (sup := []) (l := [(0, 0), (1, 0), (5, 9), (6, 0), (7, 0)]) (E' := [(0, .v 0 (.int .i64) p0), (1, .v 0 (.slice T_r13_Arrow) p1), (5, .v 9 (.slice (.int .i64)) x12), (6, .v 0 .bool true), (7, .v 0 (.int .i64) x7)]) (obs := []) (by kernel_rfl) (trivial) ?_
            refine W_keep (l := [(0, 0), (1, 0), (5, 9), (6, 0), (7, 0)]) (E' := [(0, .v 0 (.int .i64) p0), (1, .v 0 (.slice T_r13_Arrow) p1), (5, .v 9 (.slice (.int .i64)) x12), (6, .v 0 .bool true), (7, .v 0 (.int .i64) x7)]) (by kernel_rfl) ?_
            exact j2 (x12, true) h
          · rw [hb] at h; rw [cond_false] at h
            refine W_skip ?_
            refine W_keep (l := [(0, 0), (1, 0), (5, 9), (6, 0), (7, 0)]) (E' := [(0, .v 0 (.int .i64) p0), (1, .v 0 (.slice T_r13_Arrow) p1), (5, .v 9 (.slice (.int .i64)) x5), (6, .v 0 .bool x6), (7, .v 0 (.int .i64) x7)]) (by kernel_rfl) ?_
            exact j2 (x5, x6) h
      · rw [hb] at h; rw [cond_false] at h
        refine W_exit rfl ?_
        refine W_blk ?_
        refine W_keep (l := [(0, 0), (1, 0), (5, 9), (6, 0)]) (E' := [(0, .v 0 (.int .i64) p0), (1, .v 0 (.slice T_r13_Arrow) p1), (5, .v 9 (.slice (.int .i64)) x5), (6, .v 0 .bool x6)]) (by kernel_rfl) ?_
        exact W_abs h
    · rw [cond_ff hb] at h
      refine W_exit rfl ?_
      refine W_keep (l := [(5, 9)]) (E' := [(5, .v 9 (.slice (.int .i64)) x3)]) (by kernel_rfl) ?_
      exact j1 x3 h.back

noncomputable def l13_DagTells_j1 (p0 : Int) (p1 : List D_dag_Arrow) (p2 : Int) (p3 : Int) (y2 : List D_r13_Arrow) (x4 : List Bool) : Option (Bool) :=
  (r13_Ring p0 y2).bind fun y5 =>
  (dag_Order p0 p1).bind fun y6 =>
  (dag_Depth p0 p1).bind fun y7 =>
  (dag_Reach p0 p1 p2).bind fun y8 =>
  (r11_All x4).bind fun y9 =>
  (r11_Ints y8 y9).bind fun y10 =>
  (bif !(!y10) then dag_Comes p0 p1 p2 p3 else some false).bind fun y11 =>
  ass (((!(!y10)) && ((decide (p3 ≥ (0 : Int))) && (decide (p3 < (x4.length : Int))))) = true → 0 ≤ p3 ∧ p3 < (x4.length : Int)) <|
  (bif !((!y10) || (y11 != (((decide (p3 ≥ (0 : Int))) && (decide (p3 < (x4.length : Int)))) && (rd false x4 p3)))) then dag_Ring p0 p1 else some false).bind fun y12 =>
  bif ((((!y10) || (y11 != (((decide (p3 ≥ (0 : Int))) && (decide (p3 < (x4.length : Int)))) && (rd false x4 p3)))) || (y12 != y5)) || (y6.2 == y5)) || (y7.2 == y5) then
    some false
  else
    bif y5 then
      (bif ((y6.1.length : Int) == (0 : Int)) && ((y7.1.length : Int) == (0 : Int)) then l13_alive else some false).bind fun y13 =>
      bnd ((((y6.1.length : Int) == (0 : Int)) && ((y7.1.length : Int) == (0 : Int))) && y13) fun x14 =>
      some x14
    else
      (r13_Order p0 y2).bind fun y15 =>
      (r11_Ints y6.1 y15).bind fun y16 =>
      (bif y16 then r13_Depth p0 y2 else some ([] : List Int)).bind fun y17 =>
      (bif y16 then r11_Ints y7.1 y17 else some false).bind fun y18 =>
      (bif y16 && y18 then l13_alive else some false).bind fun y19 =>
      bnd ((y16 && y18) && y19) fun x20 =>
      some x20
noncomputable def l13_DagTells (p0 : Int) (p1 : List D_dag_Arrow) (p2 : Int) (p3 : Int) : Option Bool :=
  bif ((decide (p0 < (0 : Int))) || (decide (p0 > (40 : Int)))) || (decide ((p1.length : Int) > (80 : Int))) then
    (l13_alive).bind fun y1 =>
    some y1
  else
    (l13_arrows p1).bind fun y2 =>
    (r13_Reach p0 y2 p2).bind fun y3 =>
    bif (decide (p2 < (0 : Int))) || (decide (p2 ≥ p0)) then
      l13_DagTells_j1 p0 p1 p2 p3 y2 ([] : List Bool)
    else
      l13_DagTells_j1 p0 p1 p2 p3 y2 y3
theorem l13_DagTells.ok {p0 : Int} {p1 : List D_dag_Arrow} {p2 : Int} {p3 : Int} {r : Bool} (h : l13_DagTells p0 p1 p2 p3 = some r) : ACall prog 6 [⟨.int .i64, p0⟩, ⟨.slice T_dag_Arrow, p1⟩, ⟨.int .i64, p2⟩, ⟨.int .i64, p3⟩] [⟨0, .bool, r⟩] := by
  replace h := Leads.of h
  unfold l13_DagTells at h
  refine acall_of func6 (by kernel_rfl) rfl (by kernel_rfl) fun w0 F0 => ?_
  refine W_seq ?_
  refine W_region mixed tys_ok (sup := []) (l := [(0, 0), (1, 0), (2, 0), (3, 0)]) (E' := [(0, .v 0 (.int .i64) p0), (1, .v 0 (.slice T_dag_Arrow) p1), (2, .v 0 (.int .i64) p2), (3, .v 0 (.int .i64) p3)]) (obs := []) (by kernel_rfl) (trivial) ?_
  refine W_seq ?_
  refine W_seq ?_
  refine W_region mixed tys_ok (sup := []) (l := [(0, 0), (1, 0), (2, 0), (3, 0), (26, 0)]) (E' := [(0, .v 0 (.int .i64) p0), (1, .v 0 (.slice T_dag_Arrow) p1), (2, .v 0 (.int .i64) p2), (3, .v 0 (.int .i64) p3), (26, .v 0 .bool (((decide (p0 < (0 : Int))) || (decide (p0 > (40 : Int)))) || (decide ((p1.length : Int) > (80 : Int)))))]) (obs := []) (by kernel_rfl) (trivial) ?_
  refine W_cond (β := ((decide (p0 < (0 : Int))) || (decide (p0 > (40 : Int)))) || (decide ((p1.length : Int) > (80 : Int)))) (by kernel_rfl) (fun hb => ?_) (fun hb => ?_)
  · rw [hb] at h; rw [cond_true] at h
    refine W_seq ?_
    obtain ⟨y1, ey1, h⟩ := h.bind
    refine W_region mixed tys_ok (sup := [.res [(0, ⟨0, .bool, y1⟩)]]) (l := [(8, 0)]) (E' := [(8, .v 0 .bool y1)]) (obs := [ACall prog 28 [] [⟨0, .bool, y1⟩]]) (by kernel_rfl) (l13_alive.ok ey1) ?_
    refine W_keep (l := [(8, 0)]) (E' := [(8, .v 0 .bool y1)]) (by kernel_rfl) ?_
    replace h : y1 = r := h
    subst h
    exact W_ret tys_ok (by kernel_rfl) (by kernel_rfl)
  · rw [hb] at h; rw [cond_false] at h
    refine W_skip ?_
    refine W_seq ?_
    obtain ⟨y2, ey2, h⟩ := h.bind
    refine W_region mixed tys_ok (sup := [.res [(9, ⟨9, .slice T_r13_Arrow, y2⟩)]]) (l := [(0, 0), (1, 0), (2, 0), (3, 0), (9, 9)]) (E' := [(0, .v 0 (.int .i64) p0), (1, .v 0 (.slice T_dag_Arrow) p1), (2, .v 0 (.int .i64) p2), (3, .v 0 (.int .i64) p3), (9, .v 9 (.slice T_r13_Arrow) y2)]) (obs := [ACall prog 31 [⟨.slice T_dag_Arrow, p1⟩] [⟨9, .slice T_r13_Arrow, y2⟩]]) (by kernel_rfl) (l13_arrows.ok ey2) ?_
    refine W_seq ?_
    obtain ⟨y3, ey3, h⟩ := h.bind
    refine W_region mixed tys_ok (sup := [.res [(9, ⟨9, .slice .bool, y3⟩)]]) (l := [(0, 0), (1, 0), (2, 0), (3, 0), (9, 9), (10, 9)]) (E' := [(0, .v 0 (.int .i64) p0), (1, .v 0 (.slice T_dag_Arrow) p1), (2, .v 0 (.int .i64) p2), (3, .v 0 (.int .i64) p3), (9, .v 9 (.slice T_r13_Arrow) y2), (10, .v 9 (.slice .bool) y3)]) (obs := [ACall prog 32 [⟨.int .i64, p0⟩, ⟨.slice T_r13_Arrow, y2⟩, ⟨.int .i64, p2⟩] [⟨9, .slice .bool, y3⟩]]) (by kernel_rfl) (r13_Reach.ok ey3) ?_
    refine W_seq ?_
    refine W_seq ?_
    refine W_region mixed tys_ok (sup := []) (l := [(0, 0), (1, 0), (2, 0), (3, 0), (9, 9), (10, 9), (40, 0)]) (E' := [(0, .v 0 (.int .i64) p0), (1, .v 0 (.slice T_dag_Arrow) p1), (2, .v 0 (.int .i64) p2), (3, .v 0 (.int .i64) p3), (9, .v 9 (.slice T_r13_Arrow) y2), (10, .v 9 (.slice .bool) y3), (40, .v 0 .bool ((decide (p2 < (0 : Int))) || (decide (p2 ≥ p0))))]) (obs := []) (by kernel_rfl) (trivial) ?_
    refine W_join h (Ej := fun (x : List Bool) => [(0, .v 0 (.int .i64) p0), (1, .v 0 (.slice T_dag_Arrow) p1), (2, .v 0 (.int .i64) p2), (3, .v 0 (.int .i64) p3), (9, .v 9 (.slice T_r13_Arrow) y2), (10, .v 9 (.slice .bool) x)]) (p := fun x => l13_DagTells_j1 p0 p1 p2 p3 y2 x) ?_ ?_
    · rintro x4 h
      replace h : Leads _ (l13_DagTells_j1 p0 p1 p2 p3 y2 x4) := h
      unfold l13_DagTells_j1 at h
      show W _ _ _ _ _ _ [(0, .v 0 (.int .i64) p0), (1, .v 0 (.slice T_dag_Arrow) p1), (2, .v 0 (.int .i64) p2), (3, .v 0 (.int .i64) p3), (9, .v 9 (.slice T_r13_Arrow) y2), (10, .v 9 (.slice .bool) x4)]
      refine W_seq ?_
      obtain ⟨y5, ey5, h⟩ := h.bind
      refine W_region mixed tys_ok (sup := [.res [(0, ⟨0, .bool, y5⟩)]]) (l := [(0, 0), (1, 0), (2, 0), (3, 0), (9, 9), (10, 9), (11, 0)]) (E' := [(0, .v 0 (.int .i64) p0), (1, .v 0 (.slice T_dag_Arrow) p1), (2, .v 0 (.int .i64) p2), (3, .v 0 (.int .i64) p3), (9, .v 9 (.slice T_r13_Arrow) y2), (10, .v 9 (.slice .bool) x4), (11, .v 0 .bool y5)]) (obs := [ACall prog 33 [⟨.int .i64, p0⟩, ⟨.slice T_r13_Arrow, y2⟩] [⟨0, .bool, y5⟩]]) (by kernel_rfl) (r13_Ring.ok ey5) ?_
      refine W_seq ?_
      obtain ⟨y6, ey6, h⟩ := h.bind
      refine W_region mixed tys_ok (sup := [.res [(9, ⟨9, .slice (.int .i64), y6.1⟩), (0, ⟨0, .bool, y6.2⟩)]]) (l := [(0, 0), (1, 0), (2, 0), (3, 0), (9, 9), (10, 9), (11, 0), (12, 9), (13, 0)]) (E' := [(0, .v 0 (.int .i64) p0), (1, .v 0 (.slice T_dag_Arrow) p1), (2, .v 0 (.int .i64) p2), (3, .v 0 (.int .i64) p3), (9, .v 9 (.slice T_r13_Arrow) y2), (10, .v 9 (.slice .bool) x4), (11, .v 0 .bool y5), (12, .v 9 (.slice (.int .i64)) y6.1), (13, .v 0 .bool y6.2)]) (obs := [ACall prog 29 [⟨.int .i64, p0⟩, ⟨.slice T_dag_Arrow, p1⟩] [⟨9, .slice (.int .i64), y6.1⟩, ⟨0, .bool, y6.2⟩]]) (by kernel_rfl) (dag_Order.ok ey6) ?_
      refine W_seq ?_
      obtain ⟨y7, ey7, h⟩ := h.bind
      refine W_region mixed tys_ok (sup := [.res [(9, ⟨9, .slice (.int .i64), y7.1⟩), (0, ⟨0, .bool, y7.2⟩)]]) (l := [(0, 0), (1, 0), (2, 0), (3, 0), (9, 9), (10, 9), (11, 0), (12, 9), (13, 0), (14, 9), (15, 0)]) (E' := [(0, .v 0 (.int .i64) p0), (1, .v 0 (.slice T_dag_Arrow) p1), (2, .v 0 (.int .i64) p2), (3, .v 0 (.int .i64) p3), (9, .v 9 (.slice T_r13_Arrow) y2), (10, .v 9 (.slice .bool) x4), (11, .v 0 .bool y5), (12, .v 9 (.slice (.int .i64)) y6.1), (13, .v 0 .bool y6.2), (14, .v 9 (.slice (.int .i64)) y7.1), (15, .v 0 .bool y7.2)]) (obs := [ACall prog 34 [⟨.int .i64, p0⟩, ⟨.slice T_dag_Arrow, p1⟩] [⟨9, .slice (.int .i64), y7.1⟩, ⟨0, .bool, y7.2⟩]]) (by kernel_rfl) (dag_Depth.ok ey7) ?_
      refine W_seq ?_
      refine W_seq ?_
      obtain ⟨y8, ey8, h⟩ := h.bind
      obtain ⟨y9, ey9, h⟩ := h.bind
      obtain ⟨y10, ey10, h⟩ := h.bind
      obtain ⟨y11, ey11, h⟩ := h.bind
      obtain ⟨o1, h⟩ := h.ass
      obtain ⟨y12, ey12, h⟩ := h.bind
      refine W_region mixed tys_ok (sup := [.res [(9, ⟨9, .slice (.int .i64), y8⟩)], .res [(9, ⟨9, .slice (.int .i64), y9⟩)], .res [(0, ⟨0, .bool, y10⟩)], .res [(0, ⟨0, .bool, y11⟩)], .res [(0, ⟨0, .bool, y12⟩)]]) (l := [(0, 0), (9, 9), (11, 0), (12, 9), (14, 9), (102, 0)]) (E' := [(0, .v 0 (.int .i64) p0), (9, .v 9 (.slice T_r13_Arrow) y2), (11, .v 0 .bool y5), (12, .v 9 (.slice (.int .i64)) y6.1), (14, .v 9 (.slice (.int .i64)) y7.1), (102, .v 0 .bool (((((!y10) || (y11 != (((decide (p3 ≥ (0 : Int))) && (decide (p3 < (x4.length : Int)))) && (rd false x4 p3)))) || (y12 != y5)) || (y6.2 == y5)) || (y7.2 == y5)))]) (obs := [ACall prog 35 [⟨.int .i64, p0⟩, ⟨.slice T_dag_Arrow, p1⟩, ⟨.int .i64, p2⟩] [⟨9, .slice (.int .i64), y8⟩], ACall prog 36 [⟨.slice .bool, x4⟩] [⟨9, .slice (.int .i64), y9⟩], ACall prog 22 [⟨.slice (.int .i64), y8⟩, ⟨.slice (.int .i64), y9⟩] [⟨0, .bool, y10⟩], (!(!y10)) = true → ACall prog 37 [⟨.int .i64, p0⟩, ⟨.slice T_dag_Arrow, p1⟩, ⟨.int .i64, p2⟩, ⟨.int .i64, p3⟩] [⟨0, .bool, y11⟩], ((!(!y10)) && ((decide (p3 ≥ (0 : Int))) && (decide (p3 < (x4.length : Int))))) = true → 0 ≤ p3 ∧ p3 < (x4.length : Int), (!((!y10) || (y11 != (((decide (p3 ≥ (0 : Int))) && (decide (p3 < (x4.length : Int)))) && (rd false x4 p3))))) = true → ACall prog 30 [⟨.int .i64, p0⟩, ⟨.slice T_dag_Arrow, p1⟩] [⟨0, .bool, y12⟩]]) (by kernel_rfl) (⟨dag_Reach.ok ey8, r11_All.ok ey9, r11_Ints.ok ey10, fun hc => dag_Comes.ok (bif_some ey11 hc), o1, fun hc => dag_Ring.ok (bif_some ey12 hc)⟩) ?_
      refine W_cond (β := ((((!y10) || (y11 != (((decide (p3 ≥ (0 : Int))) && (decide (p3 < (x4.length : Int)))) && (rd false x4 p3)))) || (y12 != y5)) || (y6.2 == y5)) || (y7.2 == y5)) (by kernel_rfl) (fun hb => ?_) (fun hb => ?_)
      · rw [hb] at h; rw [cond_true] at h
        refine W_seq ?_
        refine W_region mixed tys_ok (sup := []) (l := [(8, 0)]) (E' := [(8, .v 0 .bool false)]) (obs := []) (by kernel_rfl) (trivial) ?_
        refine W_keep (l := [(8, 0)]) (E' := [(8, .v 0 .bool false)]) (by kernel_rfl) ?_
        replace h : false = r := h
        subst h
        exact W_ret tys_ok (by kernel_rfl) (by kernel_rfl)
      · rw [hb] at h; rw [cond_false] at h
        refine W_skip ?_
        refine W_seq ?_
        refine W_seq ?_
        refine W_region mixed tys_ok (sup := []) (l := [(0, 0), (9, 9), (12, 9), (14, 9), (103, 0)]) (E' := [(0, .v 0 (.int .i64) p0), (9, .v 9 (.slice T_r13_Arrow) y2), (12, .v 9 (.slice (.int .i64)) y6.1), (14, .v 9 (.slice (.int .i64)) y7.1), (103, .v 0 .bool y5)]) (obs := []) (by kernel_rfl) (trivial) ?_
        refine W_cond (β := y5) (by kernel_rfl) (fun hb => ?_) (fun hb => ?_)
        · rw [cond_tt hb] at h
          refine W_seq ?_
          obtain ⟨y13, ey13, h⟩ := h.bind
          refine W_region mixed tys_ok (sup := [.res [(0, ⟨0, .bool, y13⟩)]]) (l := [(8, 0)]) (E' := [(8, .v 0 .bool ((((y6.1.length : Int) == (0 : Int)) && ((y7.1.length : Int) == (0 : Int))) && y13))]) (obs := [(((y6.1.length : Int) == (0 : Int)) && ((y7.1.length : Int) == (0 : Int))) = true → ACall prog 28 [] [⟨0, .bool, y13⟩]]) (by kernel_rfl) (fun hc => l13_alive.ok (bif_some ey13 hc)) ?_
          refine W_gen (x := (((y6.1.length : Int) == (0 : Int)) && ((y7.1.length : Int) == (0 : Int))) && y13) (En := fun x14 => [(8, .v 0 .bool x14)]) h (fun x14 h => ?_)
          refine W_keep (l := [(8, 0)]) (E' := [(8, .v 0 .bool x14)]) (by kernel_rfl) ?_
          replace h : x14 = r := h
          subst h
          exact W_ret tys_ok (by kernel_rfl) (by kernel_rfl)
        · rw [cond_ff hb] at h
          refine W_skip ?_
          refine W_seq ?_
          obtain ⟨y15, ey15, h⟩ := h.bind
          obtain ⟨y16, ey16, h⟩ := h.bind
          obtain ⟨y17, ey17, h⟩ := h.bind
          obtain ⟨y18, ey18, h⟩ := h.bind
          obtain ⟨y19, ey19, h⟩ := h.bind
          refine W_region mixed tys_ok (sup := [.res [(9, ⟨9, .slice (.int .i64), y15⟩)], .res [(0, ⟨0, .bool, y16⟩)], .res [(0, ⟨9, .slice (.int .i64), y17⟩)], .res [(0, ⟨0, .bool, y18⟩)], .res [(0, ⟨0, .bool, y19⟩)]]) (l := [(8, 0)]) (E' := [(8, .v 0 .bool ((y16 && y18) && y19))]) (obs := [ACall prog 38 [⟨.int .i64, p0⟩, ⟨.slice T_r13_Arrow, y2⟩] [⟨9, .slice (.int .i64), y15⟩], ACall prog 22 [⟨.slice (.int .i64), y6.1⟩, ⟨.slice (.int .i64), y15⟩] [⟨0, .bool, y16⟩], y16 = true → ACall prog 39 [⟨.int .i64, p0⟩, ⟨.slice T_r13_Arrow, y2⟩] [⟨9, .slice (.int .i64), y17⟩], y16 = true → ACall prog 22 [⟨.slice (.int .i64), y7.1⟩, ⟨.slice (.int .i64), y17⟩] [⟨0, .bool, y18⟩], (y16 && y18) = true → ACall prog 28 [] [⟨0, .bool, y19⟩]]) (by kernel_rfl) (⟨r13_Order.ok ey15, r11_Ints.ok ey16, fun hc => r13_Depth.ok (bif_some ey17 hc), fun hc => r11_Ints.ok (bif_some ey18 hc), fun hc => l13_alive.ok (bif_some ey19 hc)⟩) ?_
          refine W_gen (x := (y16 && y18) && y19) (En := fun x20 => [(8, .v 0 .bool x20)]) h (fun x20 h => ?_)
          refine W_keep (l := [(8, 0)]) (E' := [(8, .v 0 .bool x20)]) (by kernel_rfl) ?_
          replace h : x20 = r := h
          subst h
          exact W_ret tys_ok (by kernel_rfl) (by kernel_rfl)
    · intro j1
      refine W_cond (β := (decide (p2 < (0 : Int))) || (decide (p2 ≥ p0))) (by kernel_rfl) (fun hb => ?_) (fun hb => ?_)
      · rw [hb] at h; rw [cond_true] at h
        refine W_region mixed tys_ok (sup := []) (l := [(0, 0), (1, 0), (2, 0), (3, 0), (9, 9), (10, 9)]) (E' := [(0, .v 0 (.int .i64) p0), (1, .v 0 (.slice T_dag_Arrow) p1), (2, .v 0 (.int .i64) p2), (3, .v 0 (.int .i64) p3), (9, .v 9 (.slice T_r13_Arrow) y2), (10, .v 9 (.slice .bool) ([] : List Bool))]) (obs := []) (by kernel_rfl) (trivial) ?_
        refine W_keep (l := [(0, 0), (1, 0), (2, 0), (3, 0), (9, 9), (10, 9)]) (E' := [(0, .v 0 (.int .i64) p0), (1, .v 0 (.slice T_dag_Arrow) p1), (2, .v 0 (.int .i64) p2), (3, .v 0 (.int .i64) p3), (9, .v 9 (.slice T_r13_Arrow) y2), (10, .v 9 (.slice .bool) ([] : List Bool))]) (by kernel_rfl) ?_
        exact j1 ([] : List Bool) h
      · rw [hb] at h; rw [cond_false] at h
        refine W_skip ?_
        refine W_keep (l := [(0, 0), (1, 0), (2, 0), (3, 0), (9, 9), (10, 9)]) (E' := [(0, .v 0 (.int .i64) p0), (1, .v 0 (.slice T_dag_Arrow) p1), (2, .v 0 (.int .i64) p2), (3, .v 0 (.int .i64) p3), (9, .v 9 (.slice T_r13_Arrow) y2), (10, .v 9 (.slice .bool) y3)]) (by kernel_rfl) ?_
        exact j1 y3 h

end Go.Tom
