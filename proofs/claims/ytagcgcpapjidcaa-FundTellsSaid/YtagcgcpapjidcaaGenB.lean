/- Each function of the program as a pure one, and the proof that the code keeps that contract. -/
import Derived.Test.YtagcgcpapjidcaaGenA
set_option linter.unusedVariables false
set_option linter.constructorNameAsVariable false
set_option maxRecDepth 100000
namespace Go.Tom
open Go Go.Proofs.Try
noncomputable def fund_which_j1 (x1 : List Int) : Option (List Int) :=
  some x1
noncomputable def fund_which_j2 (x3 : Int) (x6 : List Int) : Option (((List Int) × Int) ⊕ (List Int)) :=
  bnd (IntKind.i64.wrap (x3 + (1 : Int))) fun x7 =>
  some (.inl (x6, x7))
noncomputable def fund_which_b1 (p0 : D_api_State) (p1 : D_api_Ticket → Option Bool) (x2 : List Int) (x3 : Int) : Option (((List Int) × Int) ⊕ (List Int)) :=
  bif decide (x3 < (p0.2.1.length : Int)) then
    ass (0 ≤ x3 ∧ x3 < (p0.2.1.length : Int)) <|
    bnd (rd z_api_Ticket p0.2.1 x3) fun x4 =>
    (bif x4.1 then p1 x4 else some false).bind fun y5 =>
    bif x4.1 && y5 then
      ass (((x2.length + [x3].length : Nat) : Int) ≤ limA) <|
      bnd (x2 ++ [x3]) fun x8 =>
      fund_which_j2 x3 x8
    else
      fund_which_j2 x3 x2
  else
    (fund_which_j1 x2).map .inr
noncomputable def fund_which (p0 : D_api_State) (p1 : D_api_Ticket → Option Bool) : Option (List Int) :=
  loopM (fun x : (List Int) × Int => fund_which_b1 p0 p1 x.1 x.2) (([] : List Int), (0 : Int))
theorem fund_which.ok {p0 : D_api_State} {p1 : D_api_Ticket → Option Bool} {r : List Int} (h : fund_which p0 p1 = some r) : ACall prog 104 [⟨T_api_State, p0⟩, ⟨.fn T_api_Ticket .bool, p1⟩] [⟨9, .slice (.int .i64), r⟩] := by
  replace h := Leads.of h
  unfold fund_which at h
  refine acall_of func104 (by kernel_rfl) rfl (by kernel_rfl) fun w0 F0 => ?_
  refine W_seq ?_
  refine W_region mixed tys_ok (sup := []) (l := [(1, 0), (2, 0), (4, 9)]) (E' := [(1, .v 0 (.fn T_api_Ticket .bool) p1), (2, .box 0 T_api_State p0), (4, .v 9 (.slice (.int .i64)) ([] : List Int))]) (obs := []) (by kernel_rfl) (trivial) ?_
  refine W_seq ?_
  refine W_seq ?_
  refine W_region mixed tys_ok (sup := []) (l := [(1, 0), (4, 9), (8, 0), (9, 0), (10, 0)]) (E' := [(1, .v 0 (.fn T_api_Ticket .bool) p1), (4, .v 9 (.slice (.int .i64)) ([] : List Int)), (8, .v 0 (.slice T_api_Ticket) p0.2.1), (9, .v 0 (.int .i64) (p0.2.1.length : Int)), (10, .v 0 (.int .i64) (0 : Int))]) (obs := []) (by kernel_rfl) (trivial) ?_
  refine W_join h (Ej := fun (x : List Int) => [(4, .v 9 (.slice (.int .i64)) x)]) (p := fun x => fund_which_j1 x) ?_ ?_
  · rintro x1 h
    replace h : Leads _ (fund_which_j1 x1) := h
    unfold fund_which_j1 at h
    show W _ _ _ _ _ _ [(4, .v 9 (.slice (.int .i64)) x1)]
    refine W_seq ?_
    refine W_region mixed tys_ok (sup := []) (l := [(4, 9)]) (E' := [(4, .v 9 (.slice (.int .i64)) x1)]) (obs := []) (by kernel_rfl) (trivial) ?_
    refine W_keep (l := [(4, 9)]) (E' := [(4, .v 9 (.slice (.int .i64)) x1)]) (by kernel_rfl) ?_
    replace h : x1 = r := h
    subst h
    exact W_ret tys_ok (by kernel_rfl) (by kernel_rfl)
  · intro j1
    refine W_block ?_
    refine W_keep (l := [(1, 0), (4, 9), (8, 0), (9, 0), (10, 0)]) (E' := [(1, .v 0 (.fn T_api_Ticket .bool) p1), (4, .v 9 (.slice (.int .i64)) ([] : List Int)), (8, .v 0 (.slice T_api_Ticket) p0.2.1), (9, .v 0 (.int .i64) (p0.2.1.length : Int)), (10, .v 0 (.int .i64) (0 : Int))]) (by kernel_rfl) ?_
    refine W_loop' (En := fun (x : (List Int) × Int) => [(1, .v 0 (.fn T_api_Ticket .bool) p1), (4, .v 9 (.slice (.int .i64)) x.1), (8, .v 0 (.slice T_api_Ticket) p0.2.1), (9, .v 0 (.int .i64) (p0.2.1.length : Int)), (10, .v 0 (.int .i64) x.2)]) (x := (([] : List Int), (0 : Int))) h ?_
    rintro ⟨x2, x3⟩ K h
    replace h : Leads _ (fund_which_b1 p0 p1 x2 x3) := h
    unfold fund_which_b1 at h
    show W _ _ _ _ _ _ [(1, .v 0 (.fn T_api_Ticket .bool) p1), (4, .v 9 (.slice (.int .i64)) x2), (8, .v 0 (.slice T_api_Ticket) p0.2.1), (9, .v 0 (.int .i64) (p0.2.1.length : Int)), (10, .v 0 (.int .i64) x3)]
    refine W_seq ?_
    refine W_region mixed tys_ok (sup := []) (l := [(1, 0), (4, 9), (8, 0), (9, 0), (10, 0), (11, 0)]) (E' := [(1, .v 0 (.fn T_api_Ticket .bool) p1), (4, .v 9 (.slice (.int .i64)) x2), (8, .v 0 (.slice T_api_Ticket) p0.2.1), (9, .v 0 (.int .i64) (p0.2.1.length : Int)), (10, .v 0 (.int .i64) x3), (11, .v 0 .bool (decide (x3 < (p0.2.1.length : Int))))]) (obs := []) (by kernel_rfl) (trivial) ?_
    refine W_seq ?_
    refine W_cond (β := decide (x3 < (p0.2.1.length : Int))) (by kernel_rfl) (fun hb => ?_) (fun hb => ?_)
    · rw [hb] at h; rw [cond_true] at h
      refine W_skip ?_
      refine W_seq ?_
      refine W_block ?_
      refine W_seq ?_
      obtain ⟨o1, h⟩ := h.ass
      refine W_region mixed tys_ok (sup := []) (l := [(1, 0), (4, 9), (5, 0), (6, 9), (8, 0), (9, 0), (10, 0)]) (E' := [(1, .v 0 (.fn T_api_Ticket .bool) p1), (4, .v 9 (.slice (.int .i64)) x2), (5, .v 0 (.int .i64) x3), (6, .box 9 T_api_Ticket (rd z_api_Ticket p0.2.1 x3)), (8, .v 0 (.slice T_api_Ticket) p0.2.1), (9, .v 0 (.int .i64) (p0.2.1.length : Int)), (10, .v 0 (.int .i64) x3)]) (obs := [0 ≤ x3 ∧ x3 < (p0.2.1.length : Int)]) (by kernel_rfl) (o1) ?_
      refine W_gen (x := rd z_api_Ticket p0.2.1 x3) (En := fun x4 => [(1, .v 0 (.fn T_api_Ticket .bool) p1), (4, .v 9 (.slice (.int .i64)) x2), (5, .v 0 (.int .i64) x3), (6, .box 9 T_api_Ticket x4), (8, .v 0 (.slice T_api_Ticket) p0.2.1), (9, .v 0 (.int .i64) (p0.2.1.length : Int)), (10, .v 0 (.int .i64) x3)]) h (fun x4 h => ?_)
      refine W_seq ?_
      obtain ⟨y5, ey5, h⟩ := h.bind
      refine W_region mixed tys_ok (sup := [.res [(0, ⟨9, .bool, y5⟩)]]) (l := [(1, 0), (4, 9), (5, 0), (8, 0), (9, 0), (10, 0), (21, 0)]) (E' := [(1, .v 0 (.fn T_api_Ticket .bool) p1), (4, .v 9 (.slice (.int .i64)) x2), (5, .v 0 (.int .i64) x3), (8, .v 0 (.slice T_api_Ticket) p0.2.1), (9, .v 0 (.int .i64) (p0.2.1.length : Int)), (10, .v 0 (.int .i64) x3), (21, .v 0 .bool (x4.1 && y5))]) (obs := [x4.1 = true → p1 x4 = some y5]) (by kernel_rfl) (fun hc => bif_some ey5 hc) ?_
      refine W_join h (Ej := fun (x : List Int) => [(1, .v 0 (.fn T_api_Ticket .bool) p1), (4, .v 9 (.slice (.int .i64)) x), (8, .v 0 (.slice T_api_Ticket) p0.2.1), (9, .v 0 (.int .i64) (p0.2.1.length : Int)), (10, .v 0 (.int .i64) x3)]) (p := fun x => fund_which_j2 x3 x) ?_ ?_
      · rintro x6 h
        replace h : Leads _ (fund_which_j2 x3 x6) := h
        unfold fund_which_j2 at h
        show W _ _ _ _ _ _ [(1, .v 0 (.fn T_api_Ticket .bool) p1), (4, .v 9 (.slice (.int .i64)) x6), (8, .v 0 (.slice T_api_Ticket) p0.2.1), (9, .v 0 (.int .i64) (p0.2.1.length : Int)), (10, .v 0 (.int .i64) x3)]
        refine W_blk ?_
        refine W_region mixed tys_ok (sup := []) (l := [(1, 0), (4, 9), (8, 0), (9, 0), (10, 0)]) (E' := [(1, .v 0 (.fn T_api_Ticket .bool) p1), (4, .v 9 (.slice (.int .i64)) x6), (8, .v 0 (.slice T_api_Ticket) p0.2.1), (9, .v 0 (.int .i64) (p0.2.1.length : Int)), (10, .v 0 (.int .i64) (IntKind.i64.wrap (x3 + (1 : Int))))]) (obs := []) (by kernel_rfl) (trivial) ?_
        refine W_gen (x := IntKind.i64.wrap (x3 + (1 : Int))) (En := fun x7 => [(1, .v 0 (.fn T_api_Ticket .bool) p1), (4, .v 9 (.slice (.int .i64)) x6), (8, .v 0 (.slice T_api_Ticket) p0.2.1), (9, .v 0 (.int .i64) (p0.2.1.length : Int)), (10, .v 0 (.int .i64) x7)]) h (fun x7 h => ?_)
        refine W_keep (l := [(1, 0), (4, 9), (8, 0), (9, 0), (10, 0)]) (E' := [(1, .v 0 (.fn T_api_Ticket .bool) p1), (4, .v 9 (.slice (.int .i64)) x6), (8, .v 0 (.slice T_api_Ticket) p0.2.1), (9, .v 0 (.int .i64) (p0.2.1.length : Int)), (10, .v 0 (.int .i64) x7)]) (by kernel_rfl) ?_
        exact W_abs h
      · intro j2
        refine W_cond (β := x4.1 && y5) (by kernel_rfl) (fun hb => ?_) (fun hb => ?_)
        · rw [hb] at h; rw [cond_true] at h
          obtain ⟨o1, h⟩ := h.ass
          refine W_region mixed tys_ok (sup := []) (l := [(1, 0), (4, 9), (8, 0), (9, 0), (10, 0)]) (E' := [(1, .v 0 (.fn T_api_Ticket .bool) p1), (4, .v 9 (.slice (.int .i64)) (x2 ++ [x3])), (8, .v 0 (.slice T_api_Ticket) p0.2.1), (9, .v 0 (.int .i64) (p0.2.1.length : Int)), (10, .v 0 (.int .i64) x3)]) (obs := [((x2.length + [x3].length : Nat) : Int) ≤ limA]) (by kernel_rfl) (o1) ?_
          refine W_gen (x := x2 ++ [x3]) (En := fun x8 => [(1, .v 0 (.fn T_api_Ticket .bool) p1), (4, .v 9 (.slice (.int .i64)) x8), (8, .v 0 (.slice T_api_Ticket) p0.2.1), (9, .v 0 (.int .i64) (p0.2.1.length : Int)), (10, .v 0 (.int .i64) x3)]) h (fun x8 h => ?_)
          refine W_keep (l := [(1, 0), (4, 9), (8, 0), (9, 0), (10, 0)]) (E' := [(1, .v 0 (.fn T_api_Ticket .bool) p1), (4, .v 9 (.slice (.int .i64)) x8), (8, .v 0 (.slice T_api_Ticket) p0.2.1), (9, .v 0 (.int .i64) (p0.2.1.length : Int)), (10, .v 0 (.int .i64) x3)]) (by kernel_rfl) ?_
          exact j2 x8 h
        · rw [hb] at h; rw [cond_false] at h
          refine W_skip ?_
          refine W_keep (l := [(1, 0), (4, 9), (8, 0), (9, 0), (10, 0)]) (E' := [(1, .v 0 (.fn T_api_Ticket .bool) p1), (4, .v 9 (.slice (.int .i64)) x2), (8, .v 0 (.slice T_api_Ticket) p0.2.1), (9, .v 0 (.int .i64) (p0.2.1.length : Int)), (10, .v 0 (.int .i64) x3)]) (by kernel_rfl) ?_
          exact j2 x2 h
    · rw [hb] at h; rw [cond_false] at h
      refine W_exit rfl ?_
      refine W_keep (l := [(4, 9)]) (E' := [(4, .v 9 (.slice (.int .i64)) x2)]) (by kernel_rfl) ?_
      exact j1 x2 h.back

noncomputable def fund_Backing_c1 (p0 : D_api_Ticket) (c0 : Int) : Option Bool :=
  bnd ((p0.2.2.2.1 == (2 : Int)) && (p0.2.2.2.2.1 == c0)) fun x1 =>
  some x1
theorem fund_Backing_c1.ok {p0 : D_api_Ticket} {c0 : Int} {r : Bool} (h : fund_Backing_c1 p0 c0 = some r) : ACall prog 106 [⟨T_api_Ticket, p0⟩, ⟨.cptr (.int .i64), c0⟩] [⟨0, .bool, r⟩] := by
  replace h := Leads.of h
  unfold fund_Backing_c1 at h
  refine acall_of func106 (by kernel_rfl) rfl (by kernel_rfl) fun w0 F0 => ?_
  refine W_seq ?_
  refine W_region mixed tys_ok (sup := []) (l := [(1, 0), (2, 9)]) (E' := [(1, .v 0 (.cptr (.int .i64)) c0), (2, .box 9 T_api_Ticket p0)]) (obs := []) (by kernel_rfl) (trivial) ?_
  refine W_seq ?_
  refine W_region mixed tys_ok (sup := []) (l := [(3, 0)]) (E' := [(3, .v 0 .bool ((p0.2.2.2.1 == (2 : Int)) && (p0.2.2.2.2.1 == c0)))]) (obs := []) (by kernel_rfl) (trivial) ?_
  refine W_gen (x := (p0.2.2.2.1 == (2 : Int)) && (p0.2.2.2.2.1 == c0)) (En := fun x1 => [(3, .v 0 .bool x1)]) h (fun x1 h => ?_)
  refine W_keep (l := [(3, 0)]) (E' := [(3, .v 0 .bool x1)]) (by kernel_rfl) ?_
  replace h : x1 = r := h
  subst h
  exact W_ret tys_ok (by kernel_rfl) (by kernel_rfl)

noncomputable def fund_Backing (p0 : D_api_State) (p1 : Int) : Option (List Int) :=
  (fund_which p0 (fun x => fund_Backing_c1 x p1)).bind fun y1 =>
  some y1
theorem fund_Backing.ok {p0 : D_api_State} {p1 : Int} {r : List Int} (h : fund_Backing p0 p1 = some r) : ACall prog 61 [⟨T_api_State, p0⟩, ⟨.int .i64, p1⟩] [⟨9, .slice (.int .i64), r⟩] := by
  replace h := Leads.of h
  unfold fund_Backing at h
  refine acall_of func61 (by kernel_rfl) rfl (by kernel_rfl) fun w0 F0 => ?_
  refine W_seq ?_
  refine W_region mixed tys_ok (sup := []) (l := [(2, 0), (3, 9)]) (E' := [(2, .box 0 T_api_State p0), (3, .box 9 (.int .i64) p1)]) (obs := []) (by kernel_rfl) (trivial) ?_
  refine W_seq ?_
  obtain ⟨y1, ey1, h⟩ := h.bind
  refine W_region mixed tys_ok (sup := [.fn T_api_Ticket .bool (fun x => fund_Backing_c1 x p1), .res [(9, ⟨9, .slice (.int .i64), y1⟩)]]) (l := [(4, 9)]) (E' := [(4, .v 9 (.slice (.int .i64)) y1)]) (obs := [∀ x y, (fun x => fund_Backing_c1 x p1) x = some y → ACall prog 106 (unprod T_api_Ticket x ++ [⟨.cptr (.int .i64), p1⟩]) [⟨9, .bool, y⟩], ACall prog 104 [⟨T_api_State, p0⟩, ⟨.fn T_api_Ticket .bool, fun x => fund_Backing_c1 x p1⟩] [⟨9, .slice (.int .i64), y1⟩]]) (by kernel_rfl) (⟨fun x y e => ACall.flat rfl (fund_Backing_c1.ok e), fund_which.ok ey1⟩) ?_
  refine W_keep (l := [(4, 9)]) (E' := [(4, .v 9 (.slice (.int .i64)) y1)]) (by kernel_rfl) ?_
  replace h : y1 = r := h
  subst h
  exact W_ret tys_ok (by kernel_rfl) (by kernel_rfl)

noncomputable def slices_ContainsFunc_int_int (p0 : List Int) (p1 : Int → Option Bool) : Option Bool :=
  (slices_IndexFunc_int_int p0 p1).bind fun y1 =>
  bnd (decide (y1 ≥ (0 : Int))) fun x2 =>
  some x2
theorem slices_ContainsFunc_int_int.ok {p0 : List Int} {p1 : Int → Option Bool} {r : Bool} (h : slices_ContainsFunc_int_int p0 p1 = some r) : ACall prog 108 [⟨.slice (.int .i64), p0⟩, ⟨.fn (.int .i64) .bool, p1⟩] [⟨0, .bool, r⟩] := by
  replace h := Leads.of h
  unfold slices_ContainsFunc_int_int at h
  refine acall_of func108 (by kernel_rfl) rfl (by kernel_rfl) fun w0 F0 => ?_
  refine W_seq ?_
  refine W_region mixed tys_ok (sup := []) (l := [(0, 0), (1, 0)]) (E' := [(0, .v 0 (.slice (.int .i64)) p0), (1, .v 0 (.fn (.int .i64) .bool) p1)]) (obs := []) (by kernel_rfl) (trivial) ?_
  refine W_seq ?_
  obtain ⟨y1, ey1, h⟩ := h.bind
  refine W_region mixed tys_ok (sup := [.res [(0, ⟨0, .int .i64, y1⟩)]]) (l := [(4, 0)]) (E' := [(4, .v 0 .bool (decide (y1 ≥ (0 : Int))))]) (obs := [ACall prog 122 [⟨.slice (.int .i64), p0⟩, ⟨.fn (.int .i64) .bool, p1⟩] [⟨0, .int .i64, y1⟩]]) (by kernel_rfl) (slices_IndexFunc_int_int.ok ey1) ?_
  refine W_gen (x := decide (y1 ≥ (0 : Int))) (En := fun x2 => [(4, .v 0 .bool x2)]) h (fun x2 h => ?_)
  refine W_keep (l := [(4, 0)]) (E' := [(4, .v 0 .bool x2)]) (by kernel_rfl) ?_
  replace h : x2 = r := h
  subst h
  exact W_ret tys_ok (by kernel_rfl) (by kernel_rfl)

noncomputable def fund_Own_c1 (p0 : Int) (c0 : List Bool) (c1 : D_api_State) : Option Bool :=
  ass (0 ≤ p0 ∧ p0 < (c1.2.1.length : Int)) <|
  ass (0 ≤ (rd z_api_Ticket c1.2.1 p0).2.1 ∧ (rd z_api_Ticket c1.2.1 p0).2.1 < (c0.length : Int)) <|
  bnd (!(rd false c0 (rd z_api_Ticket c1.2.1 p0).2.1)) fun x1 =>
  some x1
theorem fund_Own_c1.ok {p0 : Int} {c0 : List Bool} {c1 : D_api_State} {r : Bool} (h : fund_Own_c1 p0 c0 c1 = some r) : ACall prog 109 [⟨.int .i64, p0⟩, ⟨.cptr (.slice .bool), c0⟩, ⟨.cptr T_api_State, c1⟩] [⟨0, .bool, r⟩] := by
  replace h := Leads.of h
  unfold fund_Own_c1 at h
  refine acall_of func109 (by kernel_rfl) rfl (by kernel_rfl) fun w0 F0 => ?_
  refine W_seq ?_
  refine W_region mixed tys_ok (sup := []) (l := [(0, 0), (1, 0), (2, 0)]) (E' := [(0, .v 0 (.int .i64) p0), (1, .v 0 (.cptr (.slice .bool)) c0), (2, .v 0 (.cptr T_api_State) c1)]) (obs := []) (by kernel_rfl) (trivial) ?_
  refine W_seq ?_
  obtain ⟨o1, h⟩ := h.ass
  obtain ⟨o2, h⟩ := h.ass
  refine W_region mixed tys_ok (sup := []) (l := [(4, 0)]) (E' := [(4, .v 0 .bool (!(rd false c0 (rd z_api_Ticket c1.2.1 p0).2.1)))]) (obs := [0 ≤ p0 ∧ p0 < (c1.2.1.length : Int), 0 ≤ (rd z_api_Ticket c1.2.1 p0).2.1 ∧ (rd z_api_Ticket c1.2.1 p0).2.1 < (c0.length : Int)]) (by kernel_rfl) (⟨o1, o2⟩) ?_
  refine W_gen (x := !(rd false c0 (rd z_api_Ticket c1.2.1 p0).2.1)) (En := fun x1 => [(4, .v 0 .bool x1)]) h (fun x1 h => ?_)
  refine W_keep (l := [(4, 0)]) (E' := [(4, .v 0 .bool x1)]) (by kernel_rfl) ?_
  replace h : x1 = r := h
  subst h
  exact W_ret tys_ok (by kernel_rfl) (by kernel_rfl)

noncomputable def fund_Own_j2 (x6 : List Int) : Option (List Int) :=
  some x6
noncomputable def fund_Own_j3 (x8 : Int) (x10 : List Int) : Option (((List Int) × Int) ⊕ (List Int)) :=
  bnd (IntKind.i64.wrap (x8 + (1 : Int))) fun x11 =>
  some (.inl (x10, x11))
noncomputable def fund_Own_b1 (x5 : List Bool) (x7 : List Int) (x8 : Int) : Option (((List Int) × Int) ⊕ (List Int)) :=
  bif decide (x8 < (x5.length : Int)) then
    ass (0 ≤ x8 ∧ x8 < (x5.length : Int)) <|
    bnd (rd false x5 x8) fun x9 =>
    bif x9 then
      ass (((x7.length + [x8].length : Nat) : Int) ≤ limA) <|
      bnd (x7 ++ [x8]) fun x12 =>
      fund_Own_j3 x8 x12
    else
      fund_Own_j3 x8 x7
  else
    (fund_Own_j2 x7).map .inr
noncomputable def fund_Own_j1 (x5 : List Bool) : Option (List Int) :=
  loopM (fun x : (List Int) × Int => fund_Own_b1 x5 x.1 x.2) (([] : List Int), (0 : Int))
noncomputable def fund_Own_j4 (x14 : Int) (x18 : List Bool) : Option (((List Bool) × Int) ⊕ (List Int)) :=
  bnd (IntKind.i64.wrap (x14 + (1 : Int))) fun x19 =>
  some (.inl (x18, x19))
noncomputable def fund_Own_b2 (p0 : D_api_State) (p1 : Int) (y4 : List Int) (x13 : List Bool) (x14 : Int) : Option (((List Bool) × Int) ⊕ (List Int)) :=
  bif decide (x14 < (y4.length : Int)) then
    ass (0 ≤ x14 ∧ x14 < (y4.length : Int)) <|
    bnd (rd (0 : Int) y4 x14) fun x15 =>
    (fund_Backing p0 x15).bind fun y16 =>
    (bif (x15 != p1) && (decide ((y16.length : Int) > (0 : Int))) then slices_ContainsFunc_int_int y16 (fun x => fund_Own_c1 x x13 p0) else some false).bind fun y17 =>
    bif ((x15 != p1) && (decide ((y16.length : Int) > (0 : Int)))) && (!y17) then
      ass (0 ≤ x15 ∧ x15 < (x13.length : Int)) <|
      bnd (wr x13 x15 true) fun x20 =>
      fund_Own_j4 x14 x20
    else
      fund_Own_j4 x14 x13
  else
    (fund_Own_j1 x13).map .inr
noncomputable def fund_Own (p0 : D_api_State) (p1 : Int) : Option (List Int) :=
  (state_Coin p0 p1).bind fun y1 =>
  bif !y1 then
    some ([] : List Int)
  else
    ass (0 ≤ (p0.1.length : Int) ∧ (p0.1.length : Int) ≤ (p0.1.length : Int) ∧ (p0.1.length : Int) ≤ lim) <|
    bnd (List.replicate (p0.1.length : Int).toNat false) fun x2 =>
    ass (0 ≤ p1 ∧ p1 < (x2.length : Int)) <|
    bnd (wr x2 p1 true) fun x3 =>
    (fund_Order p0).bind fun y4 =>
    loopM (fun x : (List Bool) × Int => fund_Own_b2 p0 p1 y4 x.1 x.2) (x3, (0 : Int))
theorem fund_Own.ok {p0 : D_api_State} {p1 : Int} {r : List Int} (h : fund_Own p0 p1 = some r) : ACall prog 63 [⟨T_api_State, p0⟩, ⟨.int .i64, p1⟩] [⟨9, .slice (.int .i64), r⟩] := by
  replace h := Leads.of h
  unfold fund_Own at h
  refine acall_of func63 (by kernel_rfl) rfl (by kernel_rfl) fun w0 F0 => ?_
  refine W_seq ?_
  refine W_region mixed tys_ok (sup := []) (l := [(1, 0), (2, 0), (4, 9)]) (E' := [(1, .v 0 (.int .i64) p1), (2, .box 0 T_api_State p0), (4, .v 9 (.slice (.int .i64)) ([] : List Int))]) (obs := []) (by kernel_rfl) (trivial) ?_
  refine W_seq ?_
  refine W_seq ?_
  obtain ⟨y1, ey1, h⟩ := h.bind
  refine W_region mixed tys_ok (sup := [.res [(0, ⟨0, .bool, y1⟩)]]) (l := [(1, 0), (2, 0), (4, 9), (14, 0)]) (E' := [(1, .v 0 (.int .i64) p1), (2, .box 0 T_api_State p0), (4, .v 9 (.slice (.int .i64)) ([] : List Int)), (14, .v 0 .bool (!y1))]) (obs := [ACall prog 94 [⟨T_api_State, p0⟩, ⟨.int .i64, p1⟩] [⟨0, .bool, y1⟩]]) (by kernel_rfl) (state_Coin.ok ey1) ?_
  refine W_cond (β := !y1) (by kernel_rfl) (fun hb => ?_) (fun hb => ?_)
  · rw [hb] at h; rw [cond_true] at h
    refine W_seq ?_
    refine W_region mixed tys_ok (sup := []) (l := [(4, 9)]) (E' := [(4, .v 9 (.slice (.int .i64)) ([] : List Int))]) (obs := []) (by kernel_rfl) (trivial) ?_
    refine W_keep (l := [(4, 9)]) (E' := [(4, .v 9 (.slice (.int .i64)) ([] : List Int))]) (by kernel_rfl) ?_
    replace h : (([] : List Int)) = r := h
    subst h
    exact W_ret tys_ok (by kernel_rfl) (by kernel_rfl)
  · rw [hb] at h; rw [cond_false] at h
    refine W_skip ?_
    refine W_seq ?_
    obtain ⟨o1, h⟩ := h.ass
    refine W_region mixed tys_ok (sup := []) (l := [(1, 0), (2, 0), (4, 9), (5, 9)]) (E' := [(1, .v 0 (.int .i64) p1), (2, .box 0 T_api_State p0), (4, .v 9 (.slice (.int .i64)) ([] : List Int)), (5, .box 9 (.slice .bool) (List.replicate (p0.1.length : Int).toNat false))]) (obs := [0 ≤ (p0.1.length : Int) ∧ (p0.1.length : Int) ≤ (p0.1.length : Int) ∧ (p0.1.length : Int) ≤ lim]) (by kernel_rfl) (o1) ?_
    refine W_gen (x := List.replicate (p0.1.length : Int).toNat false) (En := fun x2 => [(1, .v 0 (.int .i64) p1), (2, .box 0 T_api_State p0), (4, .v 9 (.slice (.int .i64)) ([] : List Int)), (5, .box 9 (.slice .bool) x2)]) h (fun x2 h => ?_)
    refine W_seq ?_
    obtain ⟨o1, h⟩ := h.ass
    refine W_region mixed tys_ok (sup := []) (l := [(1, 0), (2, 0), (4, 9), (5, 9)]) (E' := [(1, .v 0 (.int .i64) p1), (2, .box 0 T_api_State p0), (4, .v 9 (.slice (.int .i64)) ([] : List Int)), (5, .box 9 (.slice .bool) (wr x2 p1 true))]) (obs := [0 ≤ p1 ∧ p1 < (x2.length : Int)]) (by kernel_rfl) (o1) ?_
    refine W_gen (x := wr x2 p1 true) (En := fun x3 => [(1, .v 0 (.int .i64) p1), (2, .box 0 T_api_State p0), (4, .v 9 (.slice (.int .i64)) ([] : List Int)), (5, .box 9 (.slice .bool) x3)]) h (fun x3 h => ?_)
    refine W_seq ?_
    refine W_seq ?_
    obtain ⟨y4, ey4, h⟩ := h.bind
    refine W_region mixed tys_ok (sup := [.res [(1, ⟨1, .slice (.int .i64), y4⟩)]]) (l := [(1, 0), (2, 0), (4, 9), (5, 9), (23, 1), (24, 0), (25, 0)]) (E' := [(1, .v 0 (.int .i64) p1), (2, .box 0 T_api_State p0), (4, .v 9 (.slice (.int .i64)) ([] : List Int)), (5, .box 9 (.slice .bool) x3), (23, .v 1 (.slice (.int .i64)) y4), (24, .v 0 (.int .i64) (y4.length : Int)), (25, .v 0 (.int .i64) (0 : Int))]) (obs := [ACall prog 56 [⟨T_api_State, p0⟩] [⟨1, .slice (.int .i64), y4⟩]]) (by kernel_rfl) (fund_Order.ok ey4) ?_
    refine W_join h (Ej := fun (x : List Bool) => [(4, .v 9 (.slice (.int .i64)) ([] : List Int)), (5, .box 9 (.slice .bool) x)]) (p := fun x => fund_Own_j1 x) ?_ ?_
    · rintro x5 h
      replace h : Leads _ (fund_Own_j1 x5) := h
      unfold fund_Own_j1 at h
      show W _ _ _ _ _ _ [(4, .v 9 (.slice (.int .i64)) ([] : List Int)), (5, .box 9 (.slice .bool) x5)]
      refine W_seq ?_
      refine W_seq ?_
      refine W_region mixed tys_ok (sup := []) (l := [(4, 9), (5, 9), (50, 0), (51, 0), (52, 0)]) (E' := [(4, .v 9 (.slice (.int .i64)) ([] : List Int)), (5, .box 9 (.slice .bool) x5), (50, .bor 5 []), (51, .v 0 (.int .i64) (x5.length : Int)), (52, .v 0 (.int .i64) (0 : Int))]) (obs := []) (by kernel_rfl) (trivial) ?_
      refine W_join h (Ej := fun (x : List Int) => [(4, .v 9 (.slice (.int .i64)) x)]) (p := fun x => fund_Own_j2 x) ?_ ?_
      · rintro x6 h
        replace h : Leads _ (fund_Own_j2 x6) := h
        unfold fund_Own_j2 at h
        show W _ _ _ _ _ _ [(4, .v 9 (.slice (.int .i64)) x6)]
        refine W_seq ?_
        refine W_region mixed tys_ok (sup := []) (l := [(4, 9)]) (E' := [(4, .v 9 (.slice (.int .i64)) x6)]) (obs := []) (by kernel_rfl) (trivial) ?_
        refine W_keep (l := [(4, 9)]) (E' := [(4, .v 9 (.slice (.int .i64)) x6)]) (by kernel_rfl) ?_
        replace h : x6 = r := h
        subst h
        exact W_ret tys_ok (by kernel_rfl) (by kernel_rfl)
      · intro j2
        refine W_block ?_
        refine W_keep (l := [(4, 9), (5, 9), (50, 0), (51, 0), (52, 0)]) (E' := [(4, .v 9 (.slice (.int .i64)) ([] : List Int)), (5, .box 9 (.slice .bool) x5), (50, .bor 5 []), (51, .v 0 (.int .i64) (x5.length : Int)), (52, .v 0 (.int .i64) (0 : Int))]) (by kernel_rfl) ?_
        refine W_loop' (En := fun (x : (List Int) × Int) => [(4, .v 9 (.slice (.int .i64)) x.1), (5, .box 9 (.slice .bool) x5), (50, .bor 5 []), (51, .v 0 (.int .i64) (x5.length : Int)), (52, .v 0 (.int .i64) x.2)]) (x := (([] : List Int), (0 : Int))) h ?_
        rintro ⟨x7, x8⟩ K h
        replace h : Leads _ (fund_Own_b1 x5 x7 x8) := h
        unfold fund_Own_b1 at h
        show W _ _ _ _ _ _ [(4, .v 9 (.slice (.int .i64)) x7), (5, .box 9 (.slice .bool) x5), (50, .bor 5 []), (51, .v 0 (.int .i64) (x5.length : Int)), (52, .v 0 (.int .i64) x8)]
        refine W_seq ?_
        refine W_region mixed tys_ok (sup := []) (l := [(4, 9), (5, 9), (50, 0), (51, 0), (52, 0), (53, 0)]) (E' := [(4, .v 9 (.slice (.int .i64)) x7), (5, .box 9 (.slice .bool) x5), (50, .bor 5 []), (51, .v 0 (.int .i64) (x5.length : Int)), (52, .v 0 (.int .i64) x8), (53, .v 0 .bool (decide (x8 < (x5.length : Int))))]) (obs := []) (by kernel_rfl) (trivial) ?_
        refine W_seq ?_
        refine W_cond (β := decide (x8 < (x5.length : Int))) (by kernel_rfl) (fun hb => ?_) (fun hb => ?_)
        · rw [hb] at h; rw [cond_true] at h
          refine W_skip ?_
          refine W_seq ?_
          refine W_block ?_
          refine W_seq ?_
          obtain ⟨o1, h⟩ := h.ass
          refine W_region mixed tys_ok (sup := []) (l := [(4, 9), (5, 9), (9, 0), (10, 0), (50, 0), (51, 0), (52, 0)]) (E' := [(4, .v 9 (.slice (.int .i64)) x7), (5, .box 9 (.slice .bool) x5), (9, .v 0 (.int .i64) x8), (10, .v 0 .bool (rd false x5 x8)), (50, .bor 5 []), (51, .v 0 (.int .i64) (x5.length : Int)), (52, .v 0 (.int .i64) x8)]) (obs := [0 ≤ x8 ∧ x8 < (x5.length : Int)]) (by kernel_rfl) (o1) ?_
          refine W_gen (x := rd false x5 x8) (En := fun x9 => [(4, .v 9 (.slice (.int .i64)) x7), (5, .box 9 (.slice .bool) x5), (9, .v 0 (.int .i64) x8), (10, .v 0 .bool x9), (50, .bor 5 []), (51, .v 0 (.int .i64) (x5.length : Int)), (52, .v 0 (.int .i64) x8)]) h (fun x9 h => ?_)
          refine W_seq ?_
          refine W_region mixed tys_ok (sup := []) (l := [(4, 9), (5, 9), (9, 0), (50, 0), (51, 0), (52, 0), (57, 0)]) (E' := [(4, .v 9 (.slice (.int .i64)) x7), (5, .box 9 (.slice .bool) x5), (9, .v 0 (.int .i64) x8), (50, .bor 5 []), (51, .v 0 (.int .i64) (x5.length : Int)), (52, .v 0 (.int .i64) x8), (57, .v 0 .bool x9)]) (obs := []) (by kernel_rfl) (trivial) ?_
          refine W_join h (Ej := fun (x : List Int) => [(4, .v 9 (.slice (.int .i64)) x), (5, .box 9 (.slice .bool) x5), (50, .bor 5 []), (51, .v 0 (.int .i64) (x5.length : Int)), (52, .v 0 (.int .i64) x8)]) (p := fun x => fund_Own_j3 x8 x) ?_ ?_
          · rintro x10 h
            replace h : Leads _ (fund_Own_j3 x8 x10) := h
            unfold fund_Own_j3 at h
            show W _ _ _ _ _ _ [(4, .v 9 (.slice (.int .i64)) x10), (5, .box 9 (.slice .bool) x5), (50, .bor 5 []), (51, .v 0 (.int .i64) (x5.length : Int)), (52, .v 0 (.int .i64) x8)]
            refine W_blk ?_
            refine W_region mixed tys_ok (sup := []) (l := [(4, 9), (5, 9), (50, 0), (51, 0), (52, 0)]) (E' := [(4, .v 9 (.slice (.int .i64)) x10), (5, .box 9 (.slice .bool) x5), (50, .bor 5 []), (51, .v 0 (.int .i64) (x5.length : Int)), (52, .v 0 (.int .i64) (IntKind.i64.wrap (x8 + (1 : Int))))]) (obs := []) (by kernel_rfl) (trivial) ?_
            refine W_gen (x := IntKind.i64.wrap (x8 + (1 : Int))) (En := fun x11 => [(4, .v 9 (.slice (.int .i64)) x10), (5, .box 9 (.slice .bool) x5), (50, .bor 5 []), (51, .v 0 (.int .i64) (x5.length : Int)), (52, .v 0 (.int .i64) x11)]) h (fun x11 h => ?_)
            refine W_keep (l := [(4, 9), (5, 9), (50, 0), (51, 0), (52, 0)]) (E' := [(4, .v 9 (.slice (.int .i64)) x10), (5, .box 9 (.slice .bool) x5), (50, .bor 5 []), (51, .v 0 (.int .i64) (x5.length : Int)), (52, .v 0 (.int .i64) x11)]) (by kernel_rfl) ?_
            exact W_abs h
          · intro j3
            refine W_cond (β := x9) (by kernel_rfl) (fun hb => ?_) (fun hb => ?_)
            · rw [cond_tt hb] at h
              obtain ⟨o1, h⟩ := h.ass
              refine W_region mixed tys_ok (sup := []) (l := [(4, 9), (5, 9), (50, 0), (51, 0), (52, 0)]) (E' := [(4, .v 9 (.slice (.int .i64)) (x7 ++ [x8])), (5, .box 9 (.slice .bool) x5), (50, .bor 5 []), (51, .v 0 (.int .i64) (x5.length : Int)), (52, .v 0 (.int .i64) x8)]) (obs := [((x7.length + [x8].length : Nat) : Int) ≤ limA]) (by kernel_rfl) (o1) ?_
              refine W_gen (x := x7 ++ [x8]) (En := fun x12 => [(4, .v 9 (.slice (.int .i64)) x12), (5, .box 9 (.slice .bool) x5), (50, .bor 5 []), (51, .v 0 (.int .i64) (x5.length : Int)), (52, .v 0 (.int .i64) x8)]) h (fun x12 h => ?_)
              refine W_keep (l := [(4, 9), (5, 9), (50, 0), (51, 0), (52, 0)]) (E' := [(4, .v 9 (.slice (.int .i64)) x12), (5, .box 9 (.slice .bool) x5), (50, .bor 5 []), (51, .v 0 (.int .i64) (x5.length : Int)), (52, .v 0 (.int .i64) x8)]) (by kernel_rfl) ?_
              exact j3 x12 h
            · rw [cond_ff hb] at h
              refine W_skip ?_
              refine W_keep (l := [(4, 9), (5, 9), (50, 0), (51, 0), (52, 0)]) (E' := [(4, .v 9 (.slice (.int .i64)) x7), (5, .box 9 (.slice .bool) x5), (50, .bor 5 []), (51, .v 0 (.int .i64) (x5.length : Int)), (52, .v 0 (.int .i64) x8)]) (by kernel_rfl) ?_
              exact j3 x7 h
        · rw [hb] at h; rw [cond_false] at h
          refine W_exit rfl ?_
          refine W_keep (l := [(4, 9)]) (E' := [(4, .v 9 (.slice (.int .i64)) x7)]) (by kernel_rfl) ?_
          exact j2 x7 h.back
    · intro j1
      refine W_block ?_
      refine W_keep (l := [(1, 0), (2, 0), (4, 9), (5, 9), (23, 1), (24, 0), (25, 0)]) (E' := [(1, .v 0 (.int .i64) p1), (2, .box 0 T_api_State p0), (4, .v 9 (.slice (.int .i64)) ([] : List Int)), (5, .box 9 (.slice .bool) x3), (23, .v 1 (.slice (.int .i64)) y4), (24, .v 0 (.int .i64) (y4.length : Int)), (25, .v 0 (.int .i64) (0 : Int))]) (by kernel_rfl) ?_
      refine W_loop' (En := fun (x : (List Bool) × Int) => [(1, .v 0 (.int .i64) p1), (2, .box 0 T_api_State p0), (4, .v 9 (.slice (.int .i64)) ([] : List Int)), (5, .box 9 (.slice .bool) x.1), (23, .v 1 (.slice (.int .i64)) y4), (24, .v 0 (.int .i64) (y4.length : Int)), (25, .v 0 (.int .i64) x.2)]) (x := (x3, (0 : Int))) h ?_
      rintro ⟨x13, x14⟩ K h
      replace h : Leads _ (fund_Own_b2 p0 p1 y4 x13 x14) := h
      unfold fund_Own_b2 at h
      show W _ _ _ _ _ _ [(1, .v 0 (.int .i64) p1), (2, .box 0 T_api_State p0), (4, .v 9 (.slice (.int .i64)) ([] : List Int)), (5, .box 9 (.slice .bool) x13), (23, .v 1 (.slice (.int .i64)) y4), (24, .v 0 (.int .i64) (y4.length : Int)), (25, .v 0 (.int .i64) x14)]
      refine W_seq ?_
      refine W_region mixed tys_ok (sup := []) (l := [(1, 0), (2, 0), (4, 9), (5, 9), (23, 1), (24, 0), (25, 0), (26, 0)]) (E' := [(1, .v 0 (.int .i64) p1), (2, .box 0 T_api_State p0), (4, .v 9 (.slice (.int .i64)) ([] : List Int)), (5, .box 9 (.slice .bool) x13), (23, .v 1 (.slice (.int .i64)) y4), (24, .v 0 (.int .i64) (y4.length : Int)), (25, .v 0 (.int .i64) x14), (26, .v 0 .bool (decide (x14 < (y4.length : Int))))]) (obs := []) (by kernel_rfl) (trivial) ?_
      refine W_seq ?_
      refine W_cond (β := decide (x14 < (y4.length : Int))) (by kernel_rfl) (fun hb => ?_) (fun hb => ?_)
      · rw [hb] at h; rw [cond_true] at h
        refine W_skip ?_
        refine W_seq ?_
        refine W_block ?_
        refine W_seq ?_
        obtain ⟨o1, h⟩ := h.ass
        refine W_region mixed tys_ok (sup := []) (l := [(1, 0), (2, 0), (4, 9), (5, 9), (7, 0), (23, 1), (24, 0), (25, 0)]) (E' := [(1, .v 0 (.int .i64) p1), (2, .box 0 T_api_State p0), (4, .v 9 (.slice (.int .i64)) ([] : List Int)), (5, .box 9 (.slice .bool) x13), (7, .v 0 (.int .i64) (rd (0 : Int) y4 x14)), (23, .v 1 (.slice (.int .i64)) y4), (24, .v 0 (.int .i64) (y4.length : Int)), (25, .v 0 (.int .i64) x14)]) (obs := [0 ≤ x14 ∧ x14 < (y4.length : Int)]) (by kernel_rfl) (o1) ?_
        refine W_gen (x := rd (0 : Int) y4 x14) (En := fun x15 => [(1, .v 0 (.int .i64) p1), (2, .box 0 T_api_State p0), (4, .v 9 (.slice (.int .i64)) ([] : List Int)), (5, .box 9 (.slice .bool) x13), (7, .v 0 (.int .i64) x15), (23, .v 1 (.slice (.int .i64)) y4), (24, .v 0 (.int .i64) (y4.length : Int)), (25, .v 0 (.int .i64) x14)]) h (fun x15 h => ?_)
        refine W_seq ?_
        obtain ⟨y16, ey16, h⟩ := h.bind
        refine W_region mixed tys_ok (sup := [.res [(9, ⟨9, .slice (.int .i64), y16⟩)]]) (l := [(1, 0), (2, 0), (4, 9), (5, 9), (7, 0), (8, 9), (23, 1), (24, 0), (25, 0)]) (E' := [(1, .v 0 (.int .i64) p1), (2, .box 0 T_api_State p0), (4, .v 9 (.slice (.int .i64)) ([] : List Int)), (5, .box 9 (.slice .bool) x13), (7, .v 0 (.int .i64) x15), (8, .v 9 (.slice (.int .i64)) y16), (23, .v 1 (.slice (.int .i64)) y4), (24, .v 0 (.int .i64) (y4.length : Int)), (25, .v 0 (.int .i64) x14)]) (obs := [ACall prog 61 [⟨T_api_State, p0⟩, ⟨.int .i64, x15⟩] [⟨9, .slice (.int .i64), y16⟩]]) (by kernel_rfl) (fund_Backing.ok ey16) ?_
        refine W_seq ?_
        obtain ⟨y17, ey17, h⟩ := h.bind
        refine W_region mixed tys_ok (sup := [.fn (.int .i64) .bool (fun x => fund_Own_c1 x x13 p0), .res [(0, ⟨0, .bool, y17⟩)]]) (l := [(1, 0), (2, 0), (4, 9), (5, 9), (7, 0), (23, 1), (24, 0), (25, 0), (45, 0)]) (E' := [(1, .v 0 (.int .i64) p1), (2, .box 0 T_api_State p0), (4, .v 9 (.slice (.int .i64)) ([] : List Int)), (5, .box 9 (.slice .bool) x13), (7, .v 0 (.int .i64) x15), (23, .v 1 (.slice (.int .i64)) y4), (24, .v 0 (.int .i64) (y4.length : Int)), (25, .v 0 (.int .i64) x14), (45, .v 0 .bool (((x15 != p1) && (decide ((y16.length : Int) > (0 : Int)))) && (!y17)))]) (obs := [((x15 != p1) && (decide ((y16.length : Int) > (0 : Int)))) = true → ∀ x y, (fun x => fund_Own_c1 x x13 p0) x = some y → ACall prog 109 (unprod (.int .i64) x ++ [⟨.cptr (.slice .bool), x13⟩, ⟨.cptr T_api_State, p0⟩]) [⟨9, .bool, y⟩], ((x15 != p1) && (decide ((y16.length : Int) > (0 : Int)))) = true → ACall prog 108 [⟨.slice (.int .i64), y16⟩, ⟨.fn (.int .i64) .bool, fun x => fund_Own_c1 x x13 p0⟩] [⟨0, .bool, y17⟩]]) (by kernel_rfl) (⟨fun _ => fun x y e => ACall.flat rfl (fund_Own_c1.ok e), fun hc => slices_ContainsFunc_int_int.ok (bif_some ey17 hc)⟩) ?_
        refine W_join h (Ej := fun (x : List Bool) => [(1, .v 0 (.int .i64) p1), (2, .box 0 T_api_State p0), (4, .v 9 (.slice (.int .i64)) ([] : List Int)), (5, .box 9 (.slice .bool) x), (23, .v 1 (.slice (.int .i64)) y4), (24, .v 0 (.int .i64) (y4.length : Int)), (25, .v 0 (.int .i64) x14)]) (p := fun x => fund_Own_j4 x14 x) ?_ ?_
        · rintro x18 h
          replace h : Leads _ (fund_Own_j4 x14 x18) := h
          unfold fund_Own_j4 at h
          show W _ _ _ _ _ _ [(1, .v 0 (.int .i64) p1), (2, .box 0 T_api_State p0), (4, .v 9 (.slice (.int .i64)) ([] : List Int)), (5, .box 9 (.slice .bool) x18), (23, .v 1 (.slice (.int .i64)) y4), (24, .v 0 (.int .i64) (y4.length : Int)), (25, .v 0 (.int .i64) x14)]
          refine W_blk ?_
          refine W_region mixed tys_ok (sup := []) (l := [(1, 0), (2, 0), (4, 9), (5, 9), (23, 1), (24, 0), (25, 0)]) (E' := [(1, .v 0 (.int .i64) p1), (2, .box 0 T_api_State p0), (4, .v 9 (.slice (.int .i64)) ([] : List Int)), (5, .box 9 (.slice .bool) x18), (23, .v 1 (.slice (.int .i64)) y4), (24, .v 0 (.int .i64) (y4.length : Int)), (25, .v 0 (.int .i64) (IntKind.i64.wrap (x14 + (1 : Int))))]) (obs := []) (by kernel_rfl) (trivial) ?_
          refine W_gen (x := IntKind.i64.wrap (x14 + (1 : Int))) (En := fun x19 => [(1, .v 0 (.int .i64) p1), (2, .box 0 T_api_State p0), (4, .v 9 (.slice (.int .i64)) ([] : List Int)), (5, .box 9 (.slice .bool) x18), (23, .v 1 (.slice (.int .i64)) y4), (24, .v 0 (.int .i64) (y4.length : Int)), (25, .v 0 (.int .i64) x19)]) h (fun x19 h => ?_)
          refine W_keep (l := [(1, 0), (2, 0), (4, 9), (5, 9), (23, 1), (24, 0), (25, 0)]) (E' := [(1, .v 0 (.int .i64) p1), (2, .box 0 T_api_State p0), (4, .v 9 (.slice (.int .i64)) ([] : List Int)), (5, .box 9 (.slice .bool) x18), (23, .v 1 (.slice (.int .i64)) y4), (24, .v 0 (.int .i64) (y4.length : Int)), (25, .v 0 (.int .i64) x19)]) (by kernel_rfl) ?_
          exact W_abs h
        · intro j4
          refine W_cond (β := ((x15 != p1) && (decide ((y16.length : Int) > (0 : Int)))) && (!y17)) (by kernel_rfl) (fun hb => ?_) (fun hb => ?_)
          · rw [hb] at h; rw [cond_true] at h
            obtain ⟨o1, h⟩ := h.ass
            refine W_region mixed tys_ok (sup := []) (l := [(1, 0), (2, 0), (4, 9), (5, 9), (23, 1), (24, 0), (25, 0)]) (E' := [(1, .v 0 (.int .i64) p1), (2, .box 0 T_api_State p0), (4, .v 9 (.slice (.int .i64)) ([] : List Int)), (5, .box 9 (.slice .bool) (wr x13 x15 true)), (23, .v 1 (.slice (.int .i64)) y4), (24, .v 0 (.int .i64) (y4.length : Int)), (25, .v 0 (.int .i64) x14)]) (obs := [0 ≤ x15 ∧ x15 < (x13.length : Int)]) (by kernel_rfl) (o1) ?_
            refine W_gen (x := wr x13 x15 true) (En := fun x20 => [(1, .v 0 (.int .i64) p1), (2, .box 0 T_api_State p0), (4, .v 9 (.slice (.int .i64)) ([] : List Int)), (5, .box 9 (.slice .bool) x20), (23, .v 1 (.slice (.int .i64)) y4), (24, .v 0 (.int .i64) (y4.length : Int)), (25, .v 0 (.int .i64) x14)]) h (fun x20 h => ?_)
            refine W_keep (l := [(1, 0), (2, 0), (4, 9), (5, 9), (23, 1), (24, 0), (25, 0)]) (E' := [(1, .v 0 (.int .i64) p1), (2, .box 0 T_api_State p0), (4, .v 9 (.slice (.int .i64)) ([] : List Int)), (5, .box 9 (.slice .bool) x20), (23, .v 1 (.slice (.int .i64)) y4), (24, .v 0 (.int .i64) (y4.length : Int)), (25, .v 0 (.int .i64) x14)]) (by kernel_rfl) ?_
            exact j4 x20 h
          · rw [hb] at h; rw [cond_false] at h
            refine W_skip ?_
            refine W_keep (l := [(1, 0), (2, 0), (4, 9), (5, 9), (23, 1), (24, 0), (25, 0)]) (E' := [(1, .v 0 (.int .i64) p1), (2, .box 0 T_api_State p0), (4, .v 9 (.slice (.int .i64)) ([] : List Int)), (5, .box 9 (.slice .bool) x13), (23, .v 1 (.slice (.int .i64)) y4), (24, .v 0 (.int .i64) (y4.length : Int)), (25, .v 0 (.int .i64) x14)]) (by kernel_rfl) ?_
            exact j4 x13 h
      · rw [hb] at h; rw [cond_false] at h
        refine W_exit rfl ?_
        refine W_keep (l := [(4, 9), (5, 9)]) (E' := [(4, .v 9 (.slice (.int .i64)) ([] : List Int)), (5, .box 9 (.slice .bool) x13)]) (by kernel_rfl) ?_
        exact j1 x13 h.back

noncomputable def l15_alive : Option Bool :=
  bnd (([true, true], [(true, (0 : Int), (1 : Int), (2 : Int), (1 : Int), false)], ([] : List D_api_Thread), ([] : List D_api_Lock), ([] : List Int), (5 : Int))) fun x1 =>
  (fund_Funds x1 (0 : Int) (1 : Int)).bind fun y2 =>
  (bif y2 then fund_Funds x1 (1 : Int) (0 : Int) else some false).bind fun y3 =>
  (bif y2 && (!y3) then fund_Closes x1 (1 : Int) (0 : Int) else some false).bind fun y4 =>
  (bif (y2 && (!y3)) && y4 then fund_Closes x1 (0 : Int) (1 : Int) else some false).bind fun y5 =>
  (bif ((y2 && (!y3)) && y4) && (!y5) then fund_Order x1 else some ([] : List Int)).bind fun y6 =>
  (bif ((y2 && (!y3)) && y4) && (!y5) then r11_Ints y6 [(0 : Int), (1 : Int)] else some false).bind fun y7 =>
  (bif (((y2 && (!y3)) && y4) && (!y5)) && y7 then fund_Backing x1 (1 : Int) else some ([] : List Int)).bind fun y8 =>
  (bif (((y2 && (!y3)) && y4) && (!y5)) && y7 then r11_Ints y8 [(0 : Int)] else some false).bind fun y9 =>
  (bif ((((y2 && (!y3)) && y4) && (!y5)) && y7) && y9 then fund_Own x1 (0 : Int) else some ([] : List Int)).bind fun y10 =>
  (bif ((((y2 && (!y3)) && y4) && (!y5)) && y7) && y9 then r11_Ints y10 [(0 : Int), (1 : Int)] else some false).bind fun y11 =>
  bnd ((((((y2 && (!y3)) && y4) && (!y5)) && y7) && y9) && y11) fun x12 =>
  some x12
theorem l15_alive.ok {r : Bool} (h : l15_alive = some r) : ACall prog 41 [] [⟨0, .bool, r⟩] := by
  replace h := Leads.of h
  unfold l15_alive at h
  refine acall_of func41 (by kernel_rfl) rfl (by kernel_rfl) fun w0 F0 => ?_
  refine W_seq ?_
  refine W_region mixed tys_ok (sup := []) (l := []) (E' := []) (obs := []) (by kernel_rfl) (trivial) ?_
  refine W_seq ?_
  refine W_region mixed tys_ok (sup := [.frz, .frz]) (l := [(1, 0)]) (E' := [(1, .box 0 T_api_State ([true, true], [(true, (0 : Int), (1 : Int), (2 : Int), (1 : Int), false)], ([] : List D_api_Thread), ([] : List D_api_Lock), ([] : List Int), (5 : Int)))]) (obs := []) (by kernel_rfl) (trivial) ?_
  refine W_gen (x := ([true, true], [(true, (0 : Int), (1 : Int), (2 : Int), (1 : Int), false)], ([] : List D_api_Thread), ([] : List D_api_Lock), ([] : List Int), (5 : Int))) (En := fun x1 => [(1, .box 0 T_api_State x1)]) h (fun x1 h => ?_)
  refine W_seq ?_
  obtain ⟨y2, ey2, h⟩ := h.bind
  obtain ⟨y3, ey3, h⟩ := h.bind
  obtain ⟨y4, ey4, h⟩ := h.bind
  obtain ⟨y5, ey5, h⟩ := h.bind
  obtain ⟨y6, ey6, h⟩ := h.bind
  obtain ⟨y7, ey7, h⟩ := h.bind
  obtain ⟨y8, ey8, h⟩ := h.bind
  obtain ⟨y9, ey9, h⟩ := h.bind
  obtain ⟨y10, ey10, h⟩ := h.bind
  obtain ⟨y11, ey11, h⟩ := h.bind
  refine W_region mixed tys_ok (sup := [.res [(0, ⟨0, .bool, y2⟩)], .res [(0, ⟨0, .bool, y3⟩)], .res [(0, ⟨0, .bool, y4⟩)], .res [(0, ⟨0, .bool, y5⟩)], .res [(0, ⟨1, .slice (.int .i64), y6⟩)], .res [(0, ⟨0, .bool, y7⟩)], .res [(0, ⟨9, .slice (.int .i64), y8⟩)], .res [(0, ⟨0, .bool, y9⟩)], .res [(0, ⟨9, .slice (.int .i64), y10⟩)], .res [(0, ⟨0, .bool, y11⟩)]]) (l := [(0, 0)]) (E' := [(0, .v 0 .bool ((((((y2 && (!y3)) && y4) && (!y5)) && y7) && y9) && y11))]) (obs := [ACall prog 58 [⟨T_api_State, x1⟩, ⟨.int .i64, (0 : Int)⟩, ⟨.int .i64, (1 : Int)⟩] [⟨0, .bool, y2⟩], y2 = true → ACall prog 58 [⟨T_api_State, x1⟩, ⟨.int .i64, (1 : Int)⟩, ⟨.int .i64, (0 : Int)⟩] [⟨0, .bool, y3⟩], (y2 && (!y3)) = true → ACall prog 42 [⟨T_api_State, x1⟩, ⟨.int .i64, (1 : Int)⟩, ⟨.int .i64, (0 : Int)⟩] [⟨0, .bool, y4⟩], ((y2 && (!y3)) && y4) = true → ACall prog 42 [⟨T_api_State, x1⟩, ⟨.int .i64, (0 : Int)⟩, ⟨.int .i64, (1 : Int)⟩] [⟨0, .bool, y5⟩], (((y2 && (!y3)) && y4) && (!y5)) = true → ACall prog 56 [⟨T_api_State, x1⟩] [⟨1, .slice (.int .i64), y6⟩], (((y2 && (!y3)) && y4) && (!y5)) = true → ACall prog 22 [⟨.slice (.int .i64), y6⟩, ⟨.slice (.int .i64), [(0 : Int), (1 : Int)]⟩] [⟨0, .bool, y7⟩], ((((y2 && (!y3)) && y4) && (!y5)) && y7) = true → ACall prog 61 [⟨T_api_State, x1⟩, ⟨.int .i64, (1 : Int)⟩] [⟨9, .slice (.int .i64), y8⟩], ((((y2 && (!y3)) && y4) && (!y5)) && y7) = true → ACall prog 22 [⟨.slice (.int .i64), y8⟩, ⟨.slice (.int .i64), [(0 : Int)]⟩] [⟨0, .bool, y9⟩], (((((y2 && (!y3)) && y4) && (!y5)) && y7) && y9) = true → ACall prog 63 [⟨T_api_State, x1⟩, ⟨.int .i64, (0 : Int)⟩] [⟨9, .slice (.int .i64), y10⟩], (((((y2 && (!y3)) && y4) && (!y5)) && y7) && y9) = true → ACall prog 22 [⟨.slice (.int .i64), y10⟩, ⟨.slice (.int .i64), [(0 : Int), (1 : Int)]⟩] [⟨0, .bool, y11⟩]]) (by kernel_rfl) (⟨fund_Funds.ok ey2, fun hc => fund_Funds.ok (bif_some ey3 hc), fun hc => fund_Closes.ok (bif_some ey4 hc), fun hc => fund_Closes.ok (bif_some ey5 hc), fun hc => fund_Order.ok (bif_some ey6 hc), fun hc => r11_Ints.ok (bif_some ey7 hc), fun hc => fund_Backing.ok (bif_some ey8 hc), fun hc => r11_Ints.ok (bif_some ey9 hc), fun hc => fund_Own.ok (bif_some ey10 hc), fun hc => r11_Ints.ok (bif_some ey11 hc)⟩) ?_
  refine W_gen (x := (((((y2 && (!y3)) && y4) && (!y5)) && y7) && y9) && y11) (En := fun x12 => [(0, .v 0 .bool x12)]) h (fun x12 h => ?_)
  refine W_keep (l := [(0, 0)]) (E' := [(0, .v 0 .bool x12)]) (by kernel_rfl) ?_
  replace h : x12 = r := h
  subst h
  exact W_ret tys_ok (by kernel_rfl) (by kernel_rfl)

noncomputable def l15_FundCloses (p0 : D_api_State) (p1 : Int) (p2 : Int) : Option Bool :=
  (r14_Small p0).bind fun y1 =>
  (bif !(!y1) then r14_Fine p0 else some false).bind fun y2 =>
  (bif !((!y1) || (!y2)) then r14_Coin p0 p1 else some false).bind fun y3 =>
  (bif !(((!y1) || (!y2)) || (!y3)) then r14_Coin p0 p2 else some false).bind fun y4 =>
  bif (((((!y1) || (!y2)) || (!y3)) || (!y4)) || (p2 == (0 : Int))) || (decide ((p0.2.1.length : Int) ≥ (96 : Int))) then
    (l15_alive).bind fun y5 =>
    some y5
  else
    ass (((([] : List D_api_Ticket).length + p0.2.1.length : Nat) : Int) ≤ limA) <|
    ass ((((([] : List D_api_Ticket) ++ p0.2.1).length + [(true, p1, (1 : Int), (2 : Int), p2, false)].length : Nat) : Int) ≤ limA) <|
    bnd ((p0.1, (([] : List D_api_Ticket) ++ p0.2.1) ++ [(true, p1, (1 : Int), (2 : Int), p2, false)], p0.2.2)) fun x6 =>
    (r14_Fine x6).bind fun y7 =>
    (fund_Closes p0 p1 p2).bind fun y8 =>
    (bif y7 == (!y8) then l15_alive else some false).bind fun y9 =>
    bnd ((y7 == (!y8)) && y9) fun x10 =>
    some x10
theorem l15_FundCloses.ok {p0 : D_api_State} {p1 : Int} {p2 : Int} {r : Bool} (h : l15_FundCloses p0 p1 p2 = some r) : ACall prog 7 [⟨T_api_State, p0⟩, ⟨.int .i64, p1⟩, ⟨.int .i64, p2⟩] [⟨0, .bool, r⟩] := by
  replace h := Leads.of h
  unfold l15_FundCloses at h
  refine acall_of func7 (by kernel_rfl) rfl (by kernel_rfl) fun w0 F0 => ?_
  refine W_seq ?_
  refine W_region mixed tys_ok (sup := []) (l := [(1, 0), (2, 0), (3, 0)]) (E' := [(1, .v 0 (.int .i64) p1), (2, .v 0 (.int .i64) p2), (3, .box 0 T_api_State p0)]) (obs := []) (by kernel_rfl) (trivial) ?_
  refine W_seq ?_
  refine W_seq ?_
  obtain ⟨y1, ey1, h⟩ := h.bind
  obtain ⟨y2, ey2, h⟩ := h.bind
  obtain ⟨y3, ey3, h⟩ := h.bind
  obtain ⟨y4, ey4, h⟩ := h.bind
  refine W_region mixed tys_ok (sup := [.res [(0, ⟨0, .bool, y1⟩)], .res [(0, ⟨0, .bool, y2⟩)], .res [(0, ⟨0, .bool, y3⟩)], .res [(0, ⟨0, .bool, y4⟩)]]) (l := [(1, 0), (2, 0), (3, 0), (37, 0)]) (E' := [(1, .v 0 (.int .i64) p1), (2, .v 0 (.int .i64) p2), (3, .box 0 T_api_State p0), (37, .v 0 .bool ((((((!y1) || (!y2)) || (!y3)) || (!y4)) || (p2 == (0 : Int))) || (decide ((p0.2.1.length : Int) ≥ (96 : Int)))))]) (obs := [ACall prog 12 [⟨T_api_State, p0⟩] [⟨0, .bool, y1⟩], (!(!y1)) = true → ACall prog 13 [⟨T_api_State, p0⟩] [⟨0, .bool, y2⟩], (!((!y1) || (!y2))) = true → ACall prog 40 [⟨T_api_State, p0⟩, ⟨.int .i64, p1⟩] [⟨0, .bool, y3⟩], (!(((!y1) || (!y2)) || (!y3))) = true → ACall prog 40 [⟨T_api_State, p0⟩, ⟨.int .i64, p2⟩] [⟨0, .bool, y4⟩]]) (by kernel_rfl) (⟨r14_Small.ok ey1, fun hc => r14_Fine.ok (bif_some ey2 hc), fun hc => r14_Coin.ok (bif_some ey3 hc), fun hc => r14_Coin.ok (bif_some ey4 hc)⟩) ?_
  refine W_cond (β := (((((!y1) || (!y2)) || (!y3)) || (!y4)) || (p2 == (0 : Int))) || (decide ((p0.2.1.length : Int) ≥ (96 : Int)))) (by kernel_rfl) (fun hb => ?_) (fun hb => ?_)
  · rw [hb] at h; rw [cond_true] at h
    refine W_seq ?_
    obtain ⟨y5, ey5, h⟩ := h.bind
    refine W_region mixed tys_ok (sup := [.res [(0, ⟨0, .bool, y5⟩)]]) (l := [(6, 0)]) (E' := [(6, .v 0 .bool y5)]) (obs := [ACall prog 41 [] [⟨0, .bool, y5⟩]]) (by kernel_rfl) (l15_alive.ok ey5) ?_
    refine W_keep (l := [(6, 0)]) (E' := [(6, .v 0 .bool y5)]) (by kernel_rfl) ?_
    replace h : y5 = r := h
    subst h
    exact W_ret tys_ok (by kernel_rfl) (by kernel_rfl)
  · rw [hb] at h; rw [cond_false] at h
    refine W_skip ?_
    refine W_seq ?_
    refine W_region mixed tys_ok (sup := []) (l := [(1, 0), (2, 0), (3, 0), (7, 0)]) (E' := [(1, .v 0 (.int .i64) p1), (2, .v 0 (.int .i64) p2), (3, .box 0 T_api_State p0), (7, .box 0 T_api_State p0)]) (obs := []) (by kernel_rfl) (trivial) ?_
    refine W_seq ?_
    obtain ⟨o1, h⟩ := h.ass
    obtain ⟨o2, h⟩ := h.ass
    refine W_region mixed tys_ok (sup := []) (l := [(1, 0), (2, 0), (3, 0), (7, 0)]) (E' := [(1, .v 0 (.int .i64) p1), (2, .v 0 (.int .i64) p2), (3, .box 0 T_api_State p0), (7, .box 0 T_api_State (p0.1, (([] : List D_api_Ticket) ++ p0.2.1) ++ [(true, p1, (1 : Int), (2 : Int), p2, false)], p0.2.2))]) (obs := [((([] : List D_api_Ticket).length + p0.2.1.length : Nat) : Int) ≤ limA, (((([] : List D_api_Ticket) ++ p0.2.1).length + [(true, p1, (1 : Int), (2 : Int), p2, false)].length : Nat) : Int) ≤ limA]) (by kernel_rfl) (⟨o1, o2⟩) ?_
    refine W_gen (x := (p0.1, (([] : List D_api_Ticket) ++ p0.2.1) ++ [(true, p1, (1 : Int), (2 : Int), p2, false)], p0.2.2)) (En := fun x6 => [(1, .v 0 (.int .i64) p1), (2, .v 0 (.int .i64) p2), (3, .box 0 T_api_State p0), (7, .box 0 T_api_State x6)]) h (fun x6 h => ?_)
    refine W_seq ?_
    obtain ⟨y7, ey7, h⟩ := h.bind
    obtain ⟨y8, ey8, h⟩ := h.bind
    obtain ⟨y9, ey9, h⟩ := h.bind
    refine W_region mixed tys_ok (sup := [.res [(0, ⟨0, .bool, y7⟩)], .res [(0, ⟨0, .bool, y8⟩)], .res [(0, ⟨0, .bool, y9⟩)]]) (l := [(6, 0)]) (E' := [(6, .v 0 .bool ((y7 == (!y8)) && y9))]) (obs := [ACall prog 13 [⟨T_api_State, x6⟩] [⟨0, .bool, y7⟩], ACall prog 42 [⟨T_api_State, p0⟩, ⟨.int .i64, p1⟩, ⟨.int .i64, p2⟩] [⟨0, .bool, y8⟩], (y7 == (!y8)) = true → ACall prog 41 [] [⟨0, .bool, y9⟩]]) (by kernel_rfl) (⟨r14_Fine.ok ey7, fund_Closes.ok ey8, fun hc => l15_alive.ok (bif_some ey9 hc)⟩) ?_
    refine W_gen (x := (y7 == (!y8)) && y9) (En := fun x10 => [(6, .v 0 .bool x10)]) h (fun x10 h => ?_)
    refine W_keep (l := [(6, 0)]) (E' := [(6, .v 0 .bool x10)]) (by kernel_rfl) ?_
    replace h : x10 = r := h
    subst h
    exact W_ret tys_ok (by kernel_rfl) (by kernel_rfl)

noncomputable def r15_Funds (p0 : D_api_State) (p1 : Int) (p2 : Int) : Option Bool :=
  (r14_Coin p0 p1).bind fun y1 =>
  (bif !(!y1) then r14_Coin p0 p2 else some false).bind fun y2 =>
  bif (!y1) || (!y2) then
    some false
  else
    (r14_CoinArrows p0).bind fun y3 =>
    (r13_Reach (p0.1.length : Int) y3 p1).bind fun y4 =>
    ass (0 ≤ p2 ∧ p2 < (y4.length : Int)) <|
    bnd (rd false y4 p2) fun x5 =>
    some x5
theorem r15_Funds.ok {p0 : D_api_State} {p1 : Int} {p2 : Int} {r : Bool} (h : r15_Funds p0 p1 p2 = some r) : ACall prog 55 [⟨T_api_State, p0⟩, ⟨.int .i64, p1⟩, ⟨.int .i64, p2⟩] [⟨0, .bool, r⟩] := by
  replace h := Leads.of h
  unfold r15_Funds at h
  refine acall_of func55 (by kernel_rfl) rfl (by kernel_rfl) fun w0 F0 => ?_
  refine W_seq ?_
  refine W_region mixed tys_ok (sup := []) (l := [(1, 0), (2, 0), (3, 0)]) (E' := [(1, .v 0 (.int .i64) p1), (2, .v 0 (.int .i64) p2), (3, .box 0 T_api_State p0)]) (obs := []) (by kernel_rfl) (trivial) ?_
  refine W_seq ?_
  refine W_seq ?_
  obtain ⟨y1, ey1, h⟩ := h.bind
  obtain ⟨y2, ey2, h⟩ := h.bind
  refine W_region mixed tys_ok (sup := [.res [(0, ⟨0, .bool, y1⟩)], .res [(0, ⟨0, .bool, y2⟩)]]) (l := [(1, 0), (2, 0), (3, 0), (16, 0)]) (E' := [(1, .v 0 (.int .i64) p1), (2, .v 0 (.int .i64) p2), (3, .box 0 T_api_State p0), (16, .v 0 .bool ((!y1) || (!y2)))]) (obs := [ACall prog 40 [⟨T_api_State, p0⟩, ⟨.int .i64, p1⟩] [⟨0, .bool, y1⟩], (!(!y1)) = true → ACall prog 40 [⟨T_api_State, p0⟩, ⟨.int .i64, p2⟩] [⟨0, .bool, y2⟩]]) (by kernel_rfl) (⟨r14_Coin.ok ey1, fun hc => r14_Coin.ok (bif_some ey2 hc)⟩) ?_
  refine W_cond (β := (!y1) || (!y2)) (by kernel_rfl) (fun hb => ?_) (fun hb => ?_)
  · rw [hb] at h; rw [cond_true] at h
    refine W_seq ?_
    refine W_region mixed tys_ok (sup := []) (l := [(6, 0)]) (E' := [(6, .v 0 .bool false)]) (obs := []) (by kernel_rfl) (trivial) ?_
    refine W_keep (l := [(6, 0)]) (E' := [(6, .v 0 .bool false)]) (by kernel_rfl) ?_
    replace h : false = r := h
    subst h
    exact W_ret tys_ok (by kernel_rfl) (by kernel_rfl)
  · rw [hb] at h; rw [cond_false] at h
    refine W_skip ?_
    refine W_seq ?_
    obtain ⟨y3, ey3, h⟩ := h.bind
    obtain ⟨y4, ey4, h⟩ := h.bind
    obtain ⟨o1, h⟩ := h.ass
    refine W_region mixed tys_ok (sup := [.res [(9, ⟨9, .slice T_r13_Arrow, y3⟩)], .res [(9, ⟨9, .slice .bool, y4⟩)]]) (l := [(6, 0)]) (E' := [(6, .v 0 .bool (rd false y4 p2))]) (obs := [ACall prog 82 [⟨T_api_State, p0⟩] [⟨9, .slice T_r13_Arrow, y3⟩], ACall prog 32 [⟨.int .i64, (p0.1.length : Int)⟩, ⟨.slice T_r13_Arrow, y3⟩, ⟨.int .i64, p1⟩] [⟨9, .slice .bool, y4⟩], 0 ≤ p2 ∧ p2 < (y4.length : Int)]) (by kernel_rfl) (⟨r14_CoinArrows.ok ey3, r13_Reach.ok ey4, o1⟩) ?_
    refine W_gen (x := rd false y4 p2) (En := fun x5 => [(6, .v 0 .bool x5)]) h (fun x5 h => ?_)
    refine W_keep (l := [(6, 0)]) (E' := [(6, .v 0 .bool x5)]) (by kernel_rfl) ?_
    replace h : x5 = r := h
    subst h
    exact W_ret tys_ok (by kernel_rfl) (by kernel_rfl)

noncomputable def r13_Order_j1 (x2 : List Int) : Option (List Int) :=
  some x2
noncomputable def r13_Order_j2 (x5 : Int) : Option (Int ⊕ (((List Bool) × (List Int)) ⊕ (List Int))) :=
  bnd (IntKind.i64.wrap (x5 + (1 : Int))) fun x6 =>
  some (.inl x6)
noncomputable def r13_Order_j3 (x3 : List Bool) (x4 : List Int) (x5 : Int) (x8 : Bool) : Option (Int ⊕ (((List Bool) × (List Int)) ⊕ (List Int))) :=
  bif x8 then
    ass (0 ≤ x5 ∧ x5 < (x3.length : Int)) <|
    bnd (wr x3 x5 true) fun x9 =>
    ass (((x4.length + [x5].length : Nat) : Int) ≤ limA) <|
    bnd (x4 ++ [x5]) fun x10 =>
    some (.inr (.inl (x9, x10)))
  else
    r13_Order_j2 x5
noncomputable def r13_Order_j4 (x12 : Int) (x13 : Bool) : Option ((Bool × Int) ⊕ (Int ⊕ (((List Bool) × (List Int)) ⊕ (List Int)))) :=
  bnd (IntKind.i64.wrap (x12 + (1 : Int))) fun x14 =>
  some (.inl (x13, x14))
noncomputable def r13_Order_b3 (p0 : Int) (p1 : List D_r13_Arrow) (x3 : List Bool) (x4 : List Int) (x5 : Int) (x11 : Bool) (x12 : Int) : Option ((Bool × Int) ⊕ (Int ⊕ (((List Bool) × (List Int)) ⊕ (List Int)))) :=
  bif (decide (x12 < (p1.length : Int))) && x11 then
    ass (0 ≤ x12 ∧ x12 < (p1.length : Int)) <|
    ass (((rd z_r13_Arrow p1 x12).2 == x5) = true → 0 ≤ x12 ∧ x12 < (p1.length : Int)) <|
    ass ((((rd z_r13_Arrow p1 x12).2 == x5) && (decide ((rd z_r13_Arrow p1 x12).1 ≥ (0 : Int)))) = true → 0 ≤ x12 ∧ x12 < (p1.length : Int)) <|
    ass (((((rd z_r13_Arrow p1 x12).2 == x5) && (decide ((rd z_r13_Arrow p1 x12).1 ≥ (0 : Int)))) && (decide ((rd z_r13_Arrow p1 x12).1 < p0))) = true → 0 ≤ x12 ∧ x12 < (p1.length : Int)) <|
    ass (((((rd z_r13_Arrow p1 x12).2 == x5) && (decide ((rd z_r13_Arrow p1 x12).1 ≥ (0 : Int)))) && (decide ((rd z_r13_Arrow p1 x12).1 < p0))) = true → 0 ≤ (rd z_r13_Arrow p1 x12).1 ∧ (rd z_r13_Arrow p1 x12).1 < (x3.length : Int)) <|
    bif ((((rd z_r13_Arrow p1 x12).2 == x5) && (decide ((rd z_r13_Arrow p1 x12).1 ≥ (0 : Int)))) && (decide ((rd z_r13_Arrow p1 x12).1 < p0))) && (!(rd false x3 (rd z_r13_Arrow p1 x12).1)) then
      r13_Order_j4 x12 false
    else
      r13_Order_j4 x12 x11
  else
    (r13_Order_j3 x3 x4 x5 x11).map .inr
noncomputable def r13_Order_b2 (p0 : Int) (p1 : List D_r13_Arrow) (x3 : List Bool) (x4 : List Int) (x5 : Int) : Option (Int ⊕ (((List Bool) × (List Int)) ⊕ (List Int))) :=
  bif decide (x5 < p0) then
    ass (0 ≤ x5 ∧ x5 < (x3.length : Int)) <|
    bnd (!(rd false x3 x5)) fun x7 =>
    loopM (fun x : Bool × Int => r13_Order_b3 p0 p1 x3 x4 x5 x.1 x.2) (x7, (0 : Int))
  else
    some (.inr (.inl (x3, x4)))
noncomputable def r13_Order_b1 (p0 : Int) (p1 : List D_r13_Arrow) (x3 : List Bool) (x4 : List Int) : Option (((List Bool) × (List Int)) ⊕ (List Int)) :=
  bif decide ((x4.length : Int) < p0) then
    loopM (fun x : Int => r13_Order_b2 p0 p1 x3 x4 x) (0 : Int)
  else
    (r13_Order_j1 x4).map .inr
noncomputable def r13_Order (p0 : Int) (p1 : List D_r13_Arrow) : Option (List Int) :=
  ass (0 ≤ p0 ∧ p0 ≤ p0 ∧ p0 ≤ lim) <|
  bnd (List.replicate p0.toNat false) fun x1 =>
  loopM (fun x : (List Bool) × (List Int) => r13_Order_b1 p0 p1 x.1 x.2) (x1, ([] : List Int))
theorem r13_Order.ok {p0 : Int} {p1 : List D_r13_Arrow} {r : List Int} (h : r13_Order p0 p1 = some r) : ACall prog 38 [⟨.int .i64, p0⟩, ⟨.slice T_r13_Arrow, p1⟩] [⟨9, .slice (.int .i64), r⟩] := by
  replace h := Leads.of h
  unfold r13_Order at h
  refine acall_of func38 (by kernel_rfl) rfl (by kernel_rfl) fun w0 F0 => ?_
  refine W_seq ?_
  refine W_region mixed tys_ok (sup := []) (l := [(0, 0), (1, 0)]) (E' := [(0, .v 0 (.int .i64) p0), (1, .v 0 (.slice T_r13_Arrow) p1)]) (obs := []) (by kernel_rfl) (trivial) ?_
  refine W_seq ?_
  obtain ⟨o1, h⟩ := h.ass
  refine W_region mixed tys_ok (sup := []) (l := [(0, 0), (1, 0), (5, 9)]) (E' := [(0, .v 0 (.int .i64) p0), (1, .v 0 (.slice T_r13_Arrow) p1), (5, .v 9 (.slice .bool) (List.replicate p0.toNat false))]) (obs := [0 ≤ p0 ∧ p0 ≤ p0 ∧ p0 ≤ lim]) (by kernel_rfl) (o1) ?_
  refine W_gen (x := List.replicate p0.toNat false) (En := fun x1 => [(0, .v 0 (.int .i64) p0), (1, .v 0 (.slice T_r13_Arrow) p1), (5, .v 9 (.slice .bool) x1)]) h (fun x1 h => ?_)
  refine W_seq ?_
  refine W_region mixed tys_ok (sup := []) (l := [(0, 0), (1, 0), (5, 9), (6, 9)]) (E' := [(0, .v 0 (.int .i64) p0), (1, .v 0 (.slice T_r13_Arrow) p1), (5, .v 9 (.slice .bool) x1), (6, .v 9 (.slice (.int .i64)) ([] : List Int))]) (obs := []) (by kernel_rfl) (trivial) ?_
  refine W_seq ?_
  refine W_join h (Ej := fun (x : List Int) => [(6, .v 9 (.slice (.int .i64)) x)]) (p := fun x => r13_Order_j1 x) ?_ ?_
  · rintro x2 h
    replace h : Leads _ (r13_Order_j1 x2) := h
    unfold r13_Order_j1 at h
    show W _ _ _ _ _ _ [(6, .v 9 (.slice (.int .i64)) x2)]
    refine W_seq ?_
    refine W_region mixed tys_ok (sup := []) (l := [(4, 9)]) (E' := [(4, .v 9 (.slice (.int .i64)) x2)]) (obs := []) (by kernel_rfl) (trivial) ?_
    refine W_keep (l := [(4, 9)]) (E' := [(4, .v 9 (.slice (.int .i64)) x2)]) (by kernel_rfl) ?_
    replace h : x2 = r := h
    subst h
    exact W_ret tys_ok (by kernel_rfl) (by kernel_rfl)
  · intro j1
    refine W_block ?_
    refine W_keep (l := [(0, 0), (1, 0), (5, 9), (6, 9)]) (E' := [(0, .v 0 (.int .i64) p0), (1, .v 0 (.slice T_r13_Arrow) p1), (5, .v 9 (.slice .bool) x1), (6, .v 9 (.slice (.int .i64)) ([] : List Int))]) (by kernel_rfl) ?_
    refine W_loop' (En := fun (x : (List Bool) × (List Int)) => [(0, .v 0 (.int .i64) p0), (1, .v 0 (.slice T_r13_Arrow) p1), (5, .v 9 (.slice .bool) x.1), (6, .v 9 (.slice (.int .i64)) x.2)]) (x := (x1, ([] : List Int))) h ?_
    rintro ⟨x3, x4⟩ K h
    replace h : Leads _ (r13_Order_b1 p0 p1 x3 x4) := h
    unfold r13_Order_b1 at h
    show W _ _ _ _ _ _ [(0, .v 0 (.int .i64) p0), (1, .v 0 (.slice T_r13_Arrow) p1), (5, .v 9 (.slice .bool) x3), (6, .v 9 (.slice (.int .i64)) x4)]
    refine W_seq ?_
    refine W_seq ?_
    refine W_region mixed tys_ok (sup := []) (l := [(0, 0), (1, 0), (5, 9), (6, 9), (15, 0)]) (E' := [(0, .v 0 (.int .i64) p0), (1, .v 0 (.slice T_r13_Arrow) p1), (5, .v 9 (.slice .bool) x3), (6, .v 9 (.slice (.int .i64)) x4), (15, .v 0 .bool (decide ((x4.length : Int) < p0)))]) (obs := []) (by kernel_rfl) (trivial) ?_
    refine W_cond (β := decide ((x4.length : Int) < p0)) (by kernel_rfl) (fun hb => ?_) (fun hb => ?_)
    · rw [hb] at h; rw [cond_true] at h
      refine W_skip ?_
      refine W_block ?_
      refine W_seq ?_
      refine W_region mixed tys_ok (sup := []) (l := [(0, 0), (1, 0), (5, 9), (6, 9), (7, 0)]) (E' := [(0, .v 0 (.int .i64) p0), (1, .v 0 (.slice T_r13_Arrow) p1), (5, .v 9 (.slice .bool) x3), (6, .v 9 (.slice (.int .i64)) x4), (7, .v 0 (.int .i64) (0 : Int))]) (obs := []) (by kernel_rfl) (trivial) ?_
      refine W_block ?_
      refine W_keep (l := [(0, 0), (1, 0), (5, 9), (6, 9), (7, 0)]) (E' := [(0, .v 0 (.int .i64) p0), (1, .v 0 (.slice T_r13_Arrow) p1), (5, .v 9 (.slice .bool) x3), (6, .v 9 (.slice (.int .i64)) x4), (7, .v 0 (.int .i64) (0 : Int))]) (by kernel_rfl) ?_
      refine W_loop' (En := fun (x : Int) => [(0, .v 0 (.int .i64) p0), (1, .v 0 (.slice T_r13_Arrow) p1), (5, .v 9 (.slice .bool) x3), (6, .v 9 (.slice (.int .i64)) x4), (7, .v 0 (.int .i64) x)]) (x := (0 : Int)) h ?_
      rintro x5 K h
      replace h : Leads _ (r13_Order_b2 p0 p1 x3 x4 x5) := h
      unfold r13_Order_b2 at h
      show W _ _ _ _ _ _ [(0, .v 0 (.int .i64) p0), (1, .v 0 (.slice T_r13_Arrow) p1), (5, .v 9 (.slice .bool) x3), (6, .v 9 (.slice (.int .i64)) x4), (7, .v 0 (.int .i64) x5)]
      refine W_seq ?_
      refine W_seq ?_
      refine W_region mixed tys_ok (sup := []) (l := [(0, 0), (1, 0), (5, 9), (6, 9), (7, 0), (18, 0)]) (E' := [(0, .v 0 (.int .i64) p0), (1, .v 0 (.slice T_r13_Arrow) p1), (5, .v 9 (.slice .bool) x3), (6, .v 9 (.slice (.int .i64)) x4), (7, .v 0 (.int .i64) x5), (18, .v 0 .bool (decide (x5 < p0)))]) (obs := []) (by kernel_rfl) (trivial) ?_
      refine W_cond (β := decide (x5 < p0)) (by kernel_rfl) (fun hb => ?_) (fun hb => ?_)
      · rw [hb] at h; rw [cond_true] at h
        refine W_skip ?_
        refine W_seq ?_
        refine W_join h (Ej := fun (x : Unit) => [(0, .v 0 (.int .i64) p0), (1, .v 0 (.slice T_r13_Arrow) p1), (5, .v 9 (.slice .bool) x3), (6, .v 9 (.slice (.int .i64)) x4), (7, .v 0 (.int .i64) x5)]) (p := fun x => r13_Order_j2 x5) ?_ ?_
        · rintro ⟨⟩ h
          replace h : Leads _ (r13_Order_j2 x5) := h
          unfold r13_Order_j2 at h
          show W _ _ _ _ _ _ [(0, .v 0 (.int .i64) p0), (1, .v 0 (.slice T_r13_Arrow) p1), (5, .v 9 (.slice .bool) x3), (6, .v 9 (.slice (.int .i64)) x4), (7, .v 0 (.int .i64) x5)]
          refine W_region mixed tys_ok (sup := []) (l := [(0, 0), (1, 0), (5, 9), (6, 9), (7, 0)]) (E' := [(0, .v 0 (.int .i64) p0), (1, .v 0 (.slice T_r13_Arrow) p1), (5, .v 9 (.slice .bool) x3), (6, .v 9 (.slice (.int .i64)) x4), (7, .v 0 (.int .i64) (IntKind.i64.wrap (x5 + (1 : Int))))]) (obs := []) (by kernel_rfl) (trivial) ?_
          refine W_gen (x := IntKind.i64.wrap (x5 + (1 : Int))) (En := fun x6 => [(0, .v 0 (.int .i64) p0), (1, .v 0 (.slice T_r13_Arrow) p1), (5, .v 9 (.slice .bool) x3), (6, .v 9 (.slice (.int .i64)) x4), (7, .v 0 (.int .i64) x6)]) h (fun x6 h => ?_)
          refine W_keep (l := [(0, 0), (1, 0), (5, 9), (6, 9), (7, 0)]) (E' := [(0, .v 0 (.int .i64) p0), (1, .v 0 (.slice T_r13_Arrow) p1), (5, .v 9 (.slice .bool) x3), (6, .v 9 (.slice (.int .i64)) x4), (7, .v 0 (.int .i64) x6)]) (by kernel_rfl) ?_
          exact W_abs h
        · intro j2
          refine W_block ?_
          refine W_seq ?_
          obtain ⟨o1, h⟩ := h.ass
          refine W_region mixed tys_ok (sup := []) (l := [(0, 0), (1, 0), (5, 9), (6, 9), (7, 0), (8, 0)]) (E' := [(0, .v 0 (.int .i64) p0), (1, .v 0 (.slice T_r13_Arrow) p1), (5, .v 9 (.slice .bool) x3), (6, .v 9 (.slice (.int .i64)) x4), (7, .v 0 (.int .i64) x5), (8, .v 0 .bool (!(rd false x3 x5)))]) (obs := [0 ≤ x5 ∧ x5 < (x3.length : Int)]) (by kernel_rfl) (o1) ?_
          refine W_gen (x := !(rd false x3 x5)) (En := fun x7 => [(0, .v 0 (.int .i64) p0), (1, .v 0 (.slice T_r13_Arrow) p1), (5, .v 9 (.slice .bool) x3), (6, .v 9 (.slice (.int .i64)) x4), (7, .v 0 (.int .i64) x5), (8, .v 0 .bool x7)]) h (fun x7 h => ?_)
          refine W_seq ?_
          refine W_seq ?_
          refine W_region mixed tys_ok (sup := []) (l := [(0, 0), (1, 0), (5, 9), (6, 9), (7, 0), (8, 0), (9, 0)]) (E' := [(0, .v 0 (.int .i64) p0), (1, .v 0 (.slice T_r13_Arrow) p1), (5, .v 9 (.slice .bool) x3), (6, .v 9 (.slice (.int .i64)) x4), (7, .v 0 (.int .i64) x5), (8, .v 0 .bool x7), (9, .v 0 (.int .i64) (0 : Int))]) (obs := []) (by kernel_rfl) (trivial) ?_
          refine W_join h (Ej := fun (x : Bool) => [(0, .v 0 (.int .i64) p0), (1, .v 0 (.slice T_r13_Arrow) p1), (5, .v 9 (.slice .bool) x3), (6, .v 9 (.slice (.int .i64)) x4), (7, .v 0 (.int .i64) x5), (8, .v 0 .bool x)]) (p := fun x => r13_Order_j3 x3 x4 x5 x) ?_ ?_
          · rintro x8 h
            replace h : Leads _ (r13_Order_j3 x3 x4 x5 x8) := h
            unfold r13_Order_j3 at h
            show W _ _ _ _ _ _ [(0, .v 0 (.int .i64) p0), (1, .v 0 (.slice T_r13_Arrow) p1), (5, .v 9 (.slice .bool) x3), (6, .v 9 (.slice (.int .i64)) x4), (7, .v 0 (.int .i64) x5), (8, .v 0 .bool x8)]
            refine W_seq ?_
            refine W_region mixed tys_ok (sup := []) (l := [(0, 0), (1, 0), (5, 9), (6, 9), (7, 0), (70, 0)]) (E' := [(0, .v 0 (.int .i64) p0), (1, .v 0 (.slice T_r13_Arrow) p1), (5, .v 9 (.slice .bool) x3), (6, .v 9 (.slice (.int .i64)) x4), (7, .v 0 (.int .i64) x5), (70, .v 0 .bool x8)]) (obs := []) (by kernel_rfl) (trivial) ?_
            refine W_cond (β := x8) (by kernel_rfl) (fun hb => ?_) (fun hb => ?_)
            · rw [cond_tt hb] at h
              refine W_seq ?_
              obtain ⟨o1, h⟩ := h.ass
              refine W_region mixed tys_ok (sup := []) (l := [(0, 0), (1, 0), (5, 9), (6, 9), (7, 0)]) (E' := [(0, .v 0 (.int .i64) p0), (1, .v 0 (.slice T_r13_Arrow) p1), (5, .v 9 (.slice .bool) (wr x3 x5 true)), (6, .v 9 (.slice (.int .i64)) x4), (7, .v 0 (.int .i64) x5)]) (obs := [0 ≤ x5 ∧ x5 < (x3.length : Int)]) (by kernel_rfl) (o1) ?_
              refine W_gen (x := wr x3 x5 true) (En := fun x9 => [(0, .v 0 (.int .i64) p0), (1, .v 0 (.slice T_r13_Arrow) p1), (5, .v 9 (.slice .bool) x9), (6, .v 9 (.slice (.int .i64)) x4), (7, .v 0 (.int .i64) x5)]) h (fun x9 h => ?_)
              refine W_seq ?_
              obtain ⟨o1, h⟩ := h.ass
              refine W_region mixed tys_ok (sup := []) (l := [(0, 0), (1, 0), (5, 9), (6, 9)]) (E' := [(0, .v 0 (.int .i64) p0), (1, .v 0 (.slice T_r13_Arrow) p1), (5, .v 9 (.slice .bool) x9), (6, .v 9 (.slice (.int .i64)) (x4 ++ [x5]))]) (obs := [((x4.length + [x5].length : Nat) : Int) ≤ limA]) (by kernel_rfl) (o1) ?_
              refine W_gen (x := x4 ++ [x5]) (En := fun x10 => [(0, .v 0 (.int .i64) p0), (1, .v 0 (.slice T_r13_Arrow) p1), (5, .v 9 (.slice .bool) x9), (6, .v 9 (.slice (.int .i64)) x10)]) h (fun x10 h => ?_)
              refine W_exit rfl ?_
              refine W_blk ?_
              refine W_keep (l := [(0, 0), (1, 0), (5, 9), (6, 9)]) (E' := [(0, .v 0 (.int .i64) p0), (1, .v 0 (.slice T_r13_Arrow) p1), (5, .v 9 (.slice .bool) x9), (6, .v 9 (.slice (.int .i64)) x10)]) (by kernel_rfl) ?_
              exact W_abs h
            · rw [cond_ff hb] at h
              refine W_skip ?_
              refine W_blk ?_
              refine W_keep (l := [(0, 0), (1, 0), (5, 9), (6, 9), (7, 0)]) (E' := [(0, .v 0 (.int .i64) p0), (1, .v 0 (.slice T_r13_Arrow) p1), (5, .v 9 (.slice .bool) x3), (6, .v 9 (.slice (.int .i64)) x4), (7, .v 0 (.int .i64) x5)]) (by kernel_rfl) ?_
              exact j2 () h
          · intro j3
            refine W_block ?_
            refine W_keep (l := [(0, 0), (1, 0), (5, 9), (6, 9), (7, 0), (8, 0), (9, 0)]) (E' := [(0, .v 0 (.int .i64) p0), (1, .v 0 (.slice T_r13_Arrow) p1), (5, .v 9 (.slice .bool) x3), (6, .v 9 (.slice (.int .i64)) x4), (7, .v 0 (.int .i64) x5), (8, .v 0 .bool x7), (9, .v 0 (.int .i64) (0 : Int))]) (by kernel_rfl) ?_
            refine W_loop' (En := fun (x : Bool × Int) => [(0, .v 0 (.int .i64) p0), (1, .v 0 (.slice T_r13_Arrow) p1), (5, .v 9 (.slice .bool) x3), (6, .v 9 (.slice (.int .i64)) x4), (7, .v 0 (.int .i64) x5), (8, .v 0 .bool x.1), (9, .v 0 (.int .i64) x.2)]) (x := (x7, (0 : Int))) h ?_
            rintro ⟨x11, x12⟩ K h
            replace h : Leads _ (r13_Order_b3 p0 p1 x3 x4 x5 x11 x12) := h
            unfold r13_Order_b3 at h
            show W _ _ _ _ _ _ [(0, .v 0 (.int .i64) p0), (1, .v 0 (.slice T_r13_Arrow) p1), (5, .v 9 (.slice .bool) x3), (6, .v 9 (.slice (.int .i64)) x4), (7, .v 0 (.int .i64) x5), (8, .v 0 .bool x11), (9, .v 0 (.int .i64) x12)]
            refine W_seq ?_
            refine W_seq ?_
            refine W_region mixed tys_ok (sup := []) (l := [(0, 0), (1, 0), (5, 9), (6, 9), (7, 0), (8, 0), (9, 0), (32, 0)]) (E' := [(0, .v 0 (.int .i64) p0), (1, .v 0 (.slice T_r13_Arrow) p1), (5, .v 9 (.slice .bool) x3), (6, .v 9 (.slice (.int .i64)) x4), (7, .v 0 (.int .i64) x5), (8, .v 0 .bool x11), (9, .v 0 (.int .i64) x12), (32, .v 0 .bool ((decide (x12 < (p1.length : Int))) && x11))]) (obs := []) (by kernel_rfl) (trivial) ?_
            refine W_cond (β := (decide (x12 < (p1.length : Int))) && x11) (by kernel_rfl) (fun hb => ?_) (fun hb => ?_)
            · rw [hb] at h; rw [cond_true] at h
              refine W_skip ?_
              refine W_seq ?_
              refine W_block ?_
              refine W_seq ?_
              obtain ⟨o1, h⟩ := h.ass
              obtain ⟨o2, h⟩ := h.ass
              obtain ⟨o3, h⟩ := h.ass
              obtain ⟨o4, h⟩ := h.ass
              obtain ⟨o5, h⟩ := h.ass
              refine W_region mixed tys_ok (sup := []) (l := [(0, 0), (1, 0), (5, 9), (6, 9), (7, 0), (8, 0), (9, 0), (69, 0)]) (E' := [(0, .v 0 (.int .i64) p0), (1, .v 0 (.slice T_r13_Arrow) p1), (5, .v 9 (.slice .bool) x3), (6, .v 9 (.slice (.int .i64)) x4), (7, .v 0 (.int .i64) x5), (8, .v 0 .bool x11), (9, .v 0 (.int .i64) x12), (69, .v 0 .bool (((((rd z_r13_Arrow p1 x12).2 == x5) && (decide ((rd z_r13_Arrow p1 x12).1 ≥ (0 : Int)))) && (decide ((rd z_r13_Arrow p1 x12).1 < p0))) && (!(rd false x3 (rd z_r13_Arrow p1 x12).1))))]) (obs := [0 ≤ x12 ∧ x12 < (p1.length : Int), ((rd z_r13_Arrow p1 x12).2 == x5) = true → 0 ≤ x12 ∧ x12 < (p1.length : Int), (((rd z_r13_Arrow p1 x12).2 == x5) && (decide ((rd z_r13_Arrow p1 x12).1 ≥ (0 : Int)))) = true → 0 ≤ x12 ∧ x12 < (p1.length : Int), ((((rd z_r13_Arrow p1 x12).2 == x5) && (decide ((rd z_r13_Arrow p1 x12).1 ≥ (0 : Int)))) && (decide ((rd z_r13_Arrow p1 x12).1 < p0))) = true → 0 ≤ x12 ∧ x12 < (p1.length : Int), ((((rd z_r13_Arrow p1 x12).2 == x5) && (decide ((rd z_r13_Arrow p1 x12).1 ≥ (0 : Int)))) && (decide ((rd z_r13_Arrow p1 x12).1 < p0))) = true → 0 ≤ (rd z_r13_Arrow p1 x12).1 ∧ (rd z_r13_Arrow p1 x12).1 < (x3.length : Int)]) (by kernel_rfl) (⟨o1, o2, o3, o4, o5⟩) ?_
              refine W_join h (Ej := fun (x : Bool) => [(0, .v 0 (.int .i64) p0), (1, .v 0 (.slice T_r13_Arrow) p1), (5, .v 9 (.slice .bool) x3), (6, .v 9 (.slice (.int .i64)) x4), (7, .v 0 (.int .i64) x5), (8, .v 0 .bool x), (9, .v 0 (.int .i64) x12)]) (p := fun x => r13_Order_j4 x12 x) ?_ ?_
              · rintro x13 h
                replace h : Leads _ (r13_Order_j4 x12 x13) := h
                unfold r13_Order_j4 at h
                show W _ _ _ _ _ _ [(0, .v 0 (.int .i64) p0), (1, .v 0 (.slice T_r13_Arrow) p1), (5, .v 9 (.slice .bool) x3), (6, .v 9 (.slice (.int .i64)) x4), (7, .v 0 (.int .i64) x5), (8, .v 0 .bool x13), (9, .v 0 (.int .i64) x12)]
                refine W_blk ?_
                refine W_region mixed tys_ok (sup := []) (l := [(0, 0), (1, 0), (5, 9), (6, 9), (7, 0), (8, 0), (9, 0)]) (E' := [(0, .v 0 (.int .i64) p0), (1, .v 0 (.slice T_r13_Arrow) p1), (5, .v 9 (.slice .bool) x3), (6, .v 9 (.slice (.int .i64)) x4), (7, .v 0 (.int .i64) x5), (8, .v 0 .bool x13), (9, .v 0 (.int .i64) (IntKind.i64.wrap (x12 + (1 : Int))))]) (obs := []) (by kernel_rfl) (trivial) ?_
                refine W_gen (x := IntKind.i64.wrap (x12 + (1 : Int))) (En := fun x14 => [(0, .v 0 (.int .i64) p0), (1, .v 0 (.slice T_r13_Arrow) p1), (5, .v 9 (.slice .bool) x3), (6, .v 9 (.slice (.int .i64)) x4), (7, .v 0 (.int .i64) x5), (8, .v 0 .bool x13), (9, .v 0 (.int .i64) x14)]) h (fun x14 h => ?_)
                refine W_keep (l := [(0, 0), (1, 0), (5, 9), (6, 9), (7, 0), (8, 0), (9, 0)]) (E' := [(0, .v 0 (.int .i64) p0), (1, .v 0 (.slice T_r13_Arrow) p1), (5, .v 9 (.slice .bool) x3), (6, .v 9 (.slice (.int .i64)) x4), (7, .v 0 (.int .i64) x5), (8, .v 0 .bool x13), (9, .v 0 (.int .i64) x14)]) (by kernel_rfl) ?_
                exact W_abs h
              · intro j4
                refine W_cond (β := ((((rd z_r13_Arrow p1 x12).2 == x5) && (decide ((rd z_r13_Arrow p1 x12).1 ≥ (0 : Int)))) && (decide ((rd z_r13_Arrow p1 x12).1 < p0))) && (!(rd false x3 (rd z_r13_Arrow p1 x12).1))) (by kernel_rfl) (fun hb => ?_) (fun hb => ?_)
                · rw [hb] at h; rw [cond_true] at h
                  refine W_region mixed tys_ok (sup := []) (l := [(0, 0), (1, 0), (5, 9), (6, 9), (7, 0), (8, 0), (9, 0)]) (E' := [(0, .v 0 (.int .i64) p0), (1, .v 0 (.slice T_r13_Arrow) p1), (5, .v 9 (.slice .bool) x3), (6, .v 9 (.slice (.int .i64)) x4), (7, .v 0 (.int .i64) x5), (8, .v 0 .bool false), (9, .v 0 (.int .i64) x12)]) (obs := []) (by kernel_rfl) (trivial) ?_
                  refine W_keep (l := [(0, 0), (1, 0), (5, 9), (6, 9), (7, 0), (8, 0), (9, 0)]) (E' := [(0, .v 0 (.int .i64) p0), (1, .v 0 (.slice T_r13_Arrow) p1), (5, .v 9 (.slice .bool) x3), (6, .v 9 (.slice (.int .i64)) x4), (7, .v 0 (.int .i64) x5), (8, .v 0 .bool false), (9, .v 0 (.int .i64) x12)]) (by kernel_rfl) ?_
                  exact j4 false h
                · rw [hb] at h; rw [cond_false] at h
                  refine W_skip ?_
                  refine W_keep (l := [(0, 0), (1, 0), (5, 9), (6, 9), (7, 0), (8, 0), (9, 0)]) (E' := [(0, .v 0 (.int .i64) p0), (1, .v 0 (.slice T_r13_Arrow) p1), (5, .v 9 (.slice .bool) x3), (6, .v 9 (.slice (.int .i64)) x4), (7, .v 0 (.int .i64) x5), (8, .v 0 .bool x11), (9, .v 0 (.int .i64) x12)]) (by kernel_rfl) ?_
                  exact j4 x11 h
            · rw [hb] at h; rw [cond_false] at h
              refine W_exit rfl ?_
              refine W_keep (l := [(0, 0), (1, 0), (5, 9), (6, 9), (7, 0), (8, 0)]) (E' := [(0, .v 0 (.int .i64) p0), (1, .v 0 (.slice T_r13_Arrow) p1), (5, .v 9 (.slice .bool) x3), (6, .v 9 (.slice (.int .i64)) x4), (7, .v 0 (.int .i64) x5), (8, .v 0 .bool x11)]) (by kernel_rfl) ?_
              exact j3 x11 h.back
      · rw [hb] at h; rw [cond_false] at h
        refine W_exit rfl ?_
        refine W_blk ?_
        refine W_keep (l := [(0, 0), (1, 0), (5, 9), (6, 9)]) (E' := [(0, .v 0 (.int .i64) p0), (1, .v 0 (.slice T_r13_Arrow) p1), (5, .v 9 (.slice .bool) x3), (6, .v 9 (.slice (.int .i64)) x4)]) (by kernel_rfl) ?_
        exact W_abs h
    · rw [hb] at h; rw [cond_false] at h
      refine W_exit rfl ?_
      refine W_keep (l := [(6, 9)]) (E' := [(6, .v 9 (.slice (.int .i64)) x4)]) (by kernel_rfl) ?_
      exact j1 x4 h.back

noncomputable def r15_Order_j1 (x3 : List Int) : Option (List Int) :=
  some x3
noncomputable def r15_Order_j2 (x5 : Int) (x6 : List Int) : Option (((List Int) × Int) ⊕ (List Int)) :=
  bnd (IntKind.i64.wrap (x5 + (1 : Int))) fun x7 =>
  some (.inl (x6, x7))
noncomputable def r15_Order_b1 (p0 : D_api_State) (y2 : List Int) (x4 : List Int) (x5 : Int) : Option (((List Int) × Int) ⊕ (List Int)) :=
  bif decide (x5 < (y2.length : Int)) then
    ass (0 ≤ x5 ∧ x5 < (y2.length : Int)) <|
    ass (0 ≤ rd (0 : Int) y2 x5 ∧ rd (0 : Int) y2 x5 < (p0.1.length : Int)) <|
    bif rd false p0.1 (rd (0 : Int) y2 x5) then
      ass (0 ≤ x5 ∧ x5 < (y2.length : Int)) <|
      ass (((x4.length + [rd (0 : Int) y2 x5].length : Nat) : Int) ≤ limA) <|
      bnd (x4 ++ [rd (0 : Int) y2 x5]) fun x8 =>
      r15_Order_j2 x5 x8
    else
      r15_Order_j2 x5 x4
  else
    (r15_Order_j1 x4).map .inr
noncomputable def r15_Order (p0 : D_api_State) : Option (List Int) :=
  (r14_CoinArrows p0).bind fun y1 =>
  (r13_Order (p0.1.length : Int) y1).bind fun y2 =>
  loopM (fun x : (List Int) × Int => r15_Order_b1 p0 y2 x.1 x.2) (([] : List Int), (0 : Int))
theorem r15_Order.ok {p0 : D_api_State} {r : List Int} (h : r15_Order p0 = some r) : ACall prog 57 [⟨T_api_State, p0⟩] [⟨9, .slice (.int .i64), r⟩] := by
  replace h := Leads.of h
  unfold r15_Order at h
  refine acall_of func57 (by kernel_rfl) rfl (by kernel_rfl) fun w0 F0 => ?_
  refine W_seq ?_
  refine W_region mixed tys_ok (sup := []) (l := [(1, 0)]) (E' := [(1, .box 0 T_api_State p0)]) (obs := []) (by kernel_rfl) (trivial) ?_
  refine W_seq ?_
  obtain ⟨y1, ey1, h⟩ := h.bind
  obtain ⟨y2, ey2, h⟩ := h.bind
  refine W_region mixed tys_ok (sup := [.res [(9, ⟨9, .slice T_r13_Arrow, y1⟩)], .res [(9, ⟨9, .slice (.int .i64), y2⟩)]]) (l := [(1, 0), (3, 9)]) (E' := [(1, .box 0 T_api_State p0), (3, .v 9 (.slice (.int .i64)) y2)]) (obs := [ACall prog 82 [⟨T_api_State, p0⟩] [⟨9, .slice T_r13_Arrow, y1⟩], ACall prog 38 [⟨.int .i64, (p0.1.length : Int)⟩, ⟨.slice T_r13_Arrow, y1⟩] [⟨9, .slice (.int .i64), y2⟩]]) (by kernel_rfl) (⟨r14_CoinArrows.ok ey1, r13_Order.ok ey2⟩) ?_
  refine W_seq ?_
  refine W_region mixed tys_ok (sup := []) (l := [(1, 0), (3, 9), (4, 9)]) (E' := [(1, .box 0 T_api_State p0), (3, .v 9 (.slice (.int .i64)) y2), (4, .v 9 (.slice (.int .i64)) ([] : List Int))]) (obs := []) (by kernel_rfl) (trivial) ?_
  refine W_seq ?_
  refine W_seq ?_
  refine W_region mixed tys_ok (sup := []) (l := [(1, 0), (3, 9), (4, 9), (5, 0)]) (E' := [(1, .box 0 T_api_State p0), (3, .v 9 (.slice (.int .i64)) y2), (4, .v 9 (.slice (.int .i64)) ([] : List Int)), (5, .v 0 (.int .i64) (0 : Int))]) (obs := []) (by kernel_rfl) (trivial) ?_
  refine W_join h (Ej := fun (x : List Int) => [(4, .v 9 (.slice (.int .i64)) x)]) (p := fun x => r15_Order_j1 x) ?_ ?_
  · rintro x3 h
    replace h : Leads _ (r15_Order_j1 x3) := h
    unfold r15_Order_j1 at h
    show W _ _ _ _ _ _ [(4, .v 9 (.slice (.int .i64)) x3)]
    refine W_seq ?_
    refine W_region mixed tys_ok (sup := []) (l := [(2, 9)]) (E' := [(2, .v 9 (.slice (.int .i64)) x3)]) (obs := []) (by kernel_rfl) (trivial) ?_
    refine W_keep (l := [(2, 9)]) (E' := [(2, .v 9 (.slice (.int .i64)) x3)]) (by kernel_rfl) ?_
    replace h : x3 = r := h
    subst h
    exact W_ret tys_ok (by kernel_rfl) (by kernel_rfl)
  · intro j1
    refine W_block ?_
    refine W_keep (l := [(1, 0), (3, 9), (4, 9), (5, 0)]) (E' := [(1, .box 0 T_api_State p0), (3, .v 9 (.slice (.int .i64)) y2), (4, .v 9 (.slice (.int .i64)) ([] : List Int)), (5, .v 0 (.int .i64) (0 : Int))]) (by kernel_rfl) ?_
    refine W_loop' (En := fun (x : (List Int) × Int) => [(1, .box 0 T_api_State p0), (3, .v 9 (.slice (.int .i64)) y2), (4, .v 9 (.slice (.int .i64)) x.1), (5, .v 0 (.int .i64) x.2)]) (x := (([] : List Int), (0 : Int))) h ?_
    rintro ⟨x4, x5⟩ K h
    replace h : Leads _ (r15_Order_b1 p0 y2 x4 x5) := h
    unfold r15_Order_b1 at h
    show W _ _ _ _ _ _ [(1, .box 0 T_api_State p0), (3, .v 9 (.slice (.int .i64)) y2), (4, .v 9 (.slice (.int .i64)) x4), (5, .v 0 (.int .i64) x5)]
    refine W_seq ?_
    refine W_seq ?_
    refine W_region mixed tys_ok (sup := []) (l := [(1, 0), (3, 9), (4, 9), (5, 0), (15, 0)]) (E' := [(1, .box 0 T_api_State p0), (3, .v 9 (.slice (.int .i64)) y2), (4, .v 9 (.slice (.int .i64)) x4), (5, .v 0 (.int .i64) x5), (15, .v 0 .bool (decide (x5 < (y2.length : Int))))]) (obs := []) (by kernel_rfl) (trivial) ?_
    refine W_cond (β := decide (x5 < (y2.length : Int))) (by kernel_rfl) (fun hb => ?_) (fun hb => ?_)
    · rw [hb] at h; rw [cond_true] at h
      refine W_skip ?_
      refine W_seq ?_
      refine W_block ?_
      refine W_seq ?_
      obtain ⟨o1, h⟩ := h.ass
      obtain ⟨o2, h⟩ := h.ass
      refine W_region mixed tys_ok (sup := []) (l := [(1, 0), (3, 9), (4, 9), (5, 0), (25, 0)]) (E' := [(1, .box 0 T_api_State p0), (3, .v 9 (.slice (.int .i64)) y2), (4, .v 9 (.slice (.int .i64)) x4), (5, .v 0 (.int .i64) x5), (25, .v 0 .bool (rd false p0.1 (rd (0 : Int) y2 x5)))]) (obs := [0 ≤ x5 ∧ x5 < (y2.length : Int), 0 ≤ rd (0 : Int) y2 x5 ∧ rd (0 : Int) y2 x5 < (p0.1.length : Int)]) (by kernel_rfl) (⟨o1, o2⟩) ?_
      refine W_join h (Ej := fun (x : List Int) => [(1, .box 0 T_api_State p0), (3, .v 9 (.slice (.int .i64)) y2), (4, .v 9 (.slice (.int .i64)) x), (5, .v 0 (.int .i64) x5)]) (p := fun x => r15_Order_j2 x5 x) ?_ ?_
      · rintro x6 h
        replace h : Leads _ (r15_Order_j2 x5 x6) := h
        unfold r15_Order_j2 at h
        show W _ _ _ _ _ _ [(1, .box 0 T_api_State p0), (3, .v 9 (.slice (.int .i64)) y2), (4, .v 9 (.slice (.int .i64)) x6), (5, .v 0 (.int .i64) x5)]
        refine W_blk ?_
        refine W_region mixed tys_ok (sup := []) (l := [(1, 0), (3, 9), (4, 9), (5, 0)]) (E' := [(1, .box 0 T_api_State p0), (3, .v 9 (.slice (.int .i64)) y2), (4, .v 9 (.slice (.int .i64)) x6), (5, .v 0 (.int .i64) (IntKind.i64.wrap (x5 + (1 : Int))))]) (obs := []) (by kernel_rfl) (trivial) ?_
        refine W_gen (x := IntKind.i64.wrap (x5 + (1 : Int))) (En := fun x7 => [(1, .box 0 T_api_State p0), (3, .v 9 (.slice (.int .i64)) y2), (4, .v 9 (.slice (.int .i64)) x6), (5, .v 0 (.int .i64) x7)]) h (fun x7 h => ?_)
        refine W_keep (l := [(1, 0), (3, 9), (4, 9), (5, 0)]) (E' := [(1, .box 0 T_api_State p0), (3, .v 9 (.slice (.int .i64)) y2), (4, .v 9 (.slice (.int .i64)) x6), (5, .v 0 (.int .i64) x7)]) (by kernel_rfl) ?_
        exact W_abs h
      · intro j2
        refine W_cond (β := rd false p0.1 (rd (0 : Int) y2 x5)) (by kernel_rfl) (fun hb => ?_) (fun hb => ?_)
        · rw [hb] at h; rw [cond_true] at h
          obtain ⟨o1, h⟩ := h.ass
          obtain ⟨o2, h⟩ := h.ass
          refine W_region mixed tys_ok (sup := []) (l := [(1, 0), (3, 9), (4, 9), (5, 0)]) (E' := [(1, .box 0 T_api_State p0), (3, .v 9 (.slice (.int .i64)) y2), (4, .v 9 (.slice (.int .i64)) (x4 ++ [rd (0 : Int) y2 x5])), (5, .v 0 (.int .i64) x5)]) (obs := [0 ≤ x5 ∧ x5 < (y2.length : Int), ((x4.length + [rd (0 : Int) y2 x5].length : Nat) : Int) ≤ limA]) (by kernel_rfl) (⟨o1, o2⟩) ?_
          refine W_gen (x := x4 ++ [rd (0 : Int) y2 x5]) (En := fun x8 => [(1, .box 0 T_api_State p0), (3, .v 9 (.slice (.int .i64)) y2), (4, .v 9 (.slice (.int .i64)) x8), (5, .v 0 (.int .i64) x5)]) h (fun x8 h => ?_)
          refine W_keep (l := [(1, 0), (3, 9), (4, 9), (5, 0)]) (E' := [(1, .box 0 T_api_State p0), (3, .v 9 (.slice (.int .i64)) y2), (4, .v 9 (.slice (.int .i64)) x8), (5, .v 0 (.int .i64) x5)]) (by kernel_rfl) ?_
          exact j2 x8 h
        · rw [hb] at h; rw [cond_false] at h
          refine W_skip ?_
          refine W_keep (l := [(1, 0), (3, 9), (4, 9), (5, 0)]) (E' := [(1, .box 0 T_api_State p0), (3, .v 9 (.slice (.int .i64)) y2), (4, .v 9 (.slice (.int .i64)) x4), (5, .v 0 (.int .i64) x5)]) (by kernel_rfl) ?_
          exact j2 x4 h
    · rw [hb] at h; rw [cond_false] at h
      refine W_exit rfl ?_
      refine W_keep (l := [(4, 9)]) (E' := [(4, .v 9 (.slice (.int .i64)) x4)]) (by kernel_rfl) ?_
      exact j1 x4 h.back

noncomputable def fund_Issued_c1 (p0 : D_api_Ticket) (c0 : Int) : Option Bool :=
  bnd (p0.2.1 == c0) fun x1 =>
  some x1
theorem fund_Issued_c1.ok {p0 : D_api_Ticket} {c0 : Int} {r : Bool} (h : fund_Issued_c1 p0 c0 = some r) : ACall prog 105 [⟨T_api_Ticket, p0⟩, ⟨.cptr (.int .i64), c0⟩] [⟨0, .bool, r⟩] := by
  replace h := Leads.of h
  unfold fund_Issued_c1 at h
  refine acall_of func105 (by kernel_rfl) rfl (by kernel_rfl) fun w0 F0 => ?_
  refine W_seq ?_
  refine W_region mixed tys_ok (sup := []) (l := [(1, 0), (2, 9)]) (E' := [(1, .v 0 (.cptr (.int .i64)) c0), (2, .box 9 T_api_Ticket p0)]) (obs := []) (by kernel_rfl) (trivial) ?_
  refine W_seq ?_
  refine W_region mixed tys_ok (sup := []) (l := [(3, 0)]) (E' := [(3, .v 0 .bool (p0.2.1 == c0))]) (obs := []) (by kernel_rfl) (trivial) ?_
  refine W_gen (x := p0.2.1 == c0) (En := fun x1 => [(3, .v 0 .bool x1)]) h (fun x1 h => ?_)
  refine W_keep (l := [(3, 0)]) (E' := [(3, .v 0 .bool x1)]) (by kernel_rfl) ?_
  replace h : x1 = r := h
  subst h
  exact W_ret tys_ok (by kernel_rfl) (by kernel_rfl)

noncomputable def fund_Issued (p0 : D_api_State) (p1 : Int) : Option (List Int) :=
  (fund_which p0 (fun x => fund_Issued_c1 x p1)).bind fun y1 =>
  some y1
theorem fund_Issued.ok {p0 : D_api_State} {p1 : Int} {r : List Int} (h : fund_Issued p0 p1 = some r) : ACall prog 59 [⟨T_api_State, p0⟩, ⟨.int .i64, p1⟩] [⟨9, .slice (.int .i64), r⟩] := by
  replace h := Leads.of h
  unfold fund_Issued at h
  refine acall_of func59 (by kernel_rfl) rfl (by kernel_rfl) fun w0 F0 => ?_
  refine W_seq ?_
  refine W_region mixed tys_ok (sup := []) (l := [(2, 0), (3, 9)]) (E' := [(2, .box 0 T_api_State p0), (3, .box 9 (.int .i64) p1)]) (obs := []) (by kernel_rfl) (trivial) ?_
  refine W_seq ?_
  obtain ⟨y1, ey1, h⟩ := h.bind
  refine W_region mixed tys_ok (sup := [.fn T_api_Ticket .bool (fun x => fund_Issued_c1 x p1), .res [(9, ⟨9, .slice (.int .i64), y1⟩)]]) (l := [(4, 9)]) (E' := [(4, .v 9 (.slice (.int .i64)) y1)]) (obs := [∀ x y, (fun x => fund_Issued_c1 x p1) x = some y → ACall prog 105 (unprod T_api_Ticket x ++ [⟨.cptr (.int .i64), p1⟩]) [⟨9, .bool, y⟩], ACall prog 104 [⟨T_api_State, p0⟩, ⟨.fn T_api_Ticket .bool, fun x => fund_Issued_c1 x p1⟩] [⟨9, .slice (.int .i64), y1⟩]]) (by kernel_rfl) (⟨fun x y e => ACall.flat rfl (fund_Issued_c1.ok e), fund_which.ok ey1⟩) ?_
  refine W_keep (l := [(4, 9)]) (E' := [(4, .v 9 (.slice (.int .i64)) y1)]) (by kernel_rfl) ?_
  replace h : y1 = r := h
  subst h
  exact W_ret tys_ok (by kernel_rfl) (by kernel_rfl)

noncomputable def r15_Tickets_j1 (x1 : List Int) : Option (List Int) :=
  some x1
noncomputable def r15_Tickets_j2 (x3 : Int) (x6 : List Int) : Option (((List Int) × Int) ⊕ (List Int)) :=
  bnd (IntKind.i64.wrap (x3 + (1 : Int))) fun x7 =>
  some (.inl (x6, x7))
noncomputable def r15_Tickets_b1 (p0 : D_api_State) (p1 : Int) (p2 : Int) (x2 : List Int) (x3 : Int) : Option (((List Int) × Int) ⊕ (List Int)) :=
  bif decide (x3 < (p0.2.1.length : Int)) then
    ass (0 ≤ x3 ∧ x3 < (p0.2.1.length : Int)) <|
    bnd (rd z_api_Ticket p0.2.1 x3) fun x4 =>
    bnd ((((p1 == (0 : Int)) && (x4.2.1 == p2)) || (((p1 == (1 : Int)) && (x4.2.2.2.1 == (2 : Int))) && (x4.2.2.2.2.1 == p2))) || (((p1 == (2 : Int)) && (x4.2.2.2.1 == (1 : Int))) && (x4.2.2.2.2.1 == p2))) fun x5 =>
    bif x4.1 && x5 then
      ass (((x2.length + [x3].length : Nat) : Int) ≤ limA) <|
      bnd (x2 ++ [x3]) fun x8 =>
      r15_Tickets_j2 x3 x8
    else
      r15_Tickets_j2 x3 x2
  else
    (r15_Tickets_j1 x2).map .inr
noncomputable def r15_Tickets (p0 : D_api_State) (p1 : Int) (p2 : Int) : Option (List Int) :=
  loopM (fun x : (List Int) × Int => r15_Tickets_b1 p0 p1 p2 x.1 x.2) (([] : List Int), (0 : Int))
theorem r15_Tickets.ok {p0 : D_api_State} {p1 : Int} {p2 : Int} {r : List Int} (h : r15_Tickets p0 p1 p2 = some r) : ACall prog 60 [⟨T_api_State, p0⟩, ⟨.int .i64, p1⟩, ⟨.int .i64, p2⟩] [⟨9, .slice (.int .i64), r⟩] := by
  replace h := Leads.of h
  unfold r15_Tickets at h
  refine acall_of func60 (by kernel_rfl) rfl (by kernel_rfl) fun w0 F0 => ?_
  refine W_seq ?_
  refine W_region mixed tys_ok (sup := []) (l := [(1, 0), (2, 0), (3, 0)]) (E' := [(1, .v 0 (.int .i64) p1), (2, .v 0 (.int .i64) p2), (3, .box 0 T_api_State p0)]) (obs := []) (by kernel_rfl) (trivial) ?_
  refine W_seq ?_
  refine W_region mixed tys_ok (sup := []) (l := [(1, 0), (2, 0), (3, 0), (7, 9)]) (E' := [(1, .v 0 (.int .i64) p1), (2, .v 0 (.int .i64) p2), (3, .box 0 T_api_State p0), (7, .v 9 (.slice (.int .i64)) ([] : List Int))]) (obs := []) (by kernel_rfl) (trivial) ?_
  refine W_seq ?_
  refine W_seq ?_
  refine W_region mixed tys_ok (sup := []) (l := [(1, 0), (2, 0), (3, 0), (7, 9), (8, 0)]) (E' := [(1, .v 0 (.int .i64) p1), (2, .v 0 (.int .i64) p2), (3, .box 0 T_api_State p0), (7, .v 9 (.slice (.int .i64)) ([] : List Int)), (8, .v 0 (.int .i64) (0 : Int))]) (obs := []) (by kernel_rfl) (trivial) ?_
  refine W_join h (Ej := fun (x : List Int) => [(7, .v 9 (.slice (.int .i64)) x)]) (p := fun x => r15_Tickets_j1 x) ?_ ?_
  · rintro x1 h
    replace h : Leads _ (r15_Tickets_j1 x1) := h
    unfold r15_Tickets_j1 at h
    show W _ _ _ _ _ _ [(7, .v 9 (.slice (.int .i64)) x1)]
    refine W_seq ?_
    refine W_region mixed tys_ok (sup := []) (l := [(6, 9)]) (E' := [(6, .v 9 (.slice (.int .i64)) x1)]) (obs := []) (by kernel_rfl) (trivial) ?_
    refine W_keep (l := [(6, 9)]) (E' := [(6, .v 9 (.slice (.int .i64)) x1)]) (by kernel_rfl) ?_
    replace h : x1 = r := h
    subst h
    exact W_ret tys_ok (by kernel_rfl) (by kernel_rfl)
  · intro j1
    refine W_block ?_
    refine W_keep (l := [(1, 0), (2, 0), (3, 0), (7, 9), (8, 0)]) (E' := [(1, .v 0 (.int .i64) p1), (2, .v 0 (.int .i64) p2), (3, .box 0 T_api_State p0), (7, .v 9 (.slice (.int .i64)) ([] : List Int)), (8, .v 0 (.int .i64) (0 : Int))]) (by kernel_rfl) ?_
    refine W_loop' (En := fun (x : (List Int) × Int) => [(1, .v 0 (.int .i64) p1), (2, .v 0 (.int .i64) p2), (3, .box 0 T_api_State p0), (7, .v 9 (.slice (.int .i64)) x.1), (8, .v 0 (.int .i64) x.2)]) (x := (([] : List Int), (0 : Int))) h ?_
    rintro ⟨x2, x3⟩ K h
    replace h : Leads _ (r15_Tickets_b1 p0 p1 p2 x2 x3) := h
    unfold r15_Tickets_b1 at h
    show W _ _ _ _ _ _ [(1, .v 0 (.int .i64) p1), (2, .v 0 (.int .i64) p2), (3, .box 0 T_api_State p0), (7, .v 9 (.slice (.int .i64)) x2), (8, .v 0 (.int .i64) x3)]
    refine W_seq ?_
    refine W_seq ?_
    refine W_region mixed tys_ok (sup := []) (l := [(1, 0), (2, 0), (3, 0), (7, 9), (8, 0), (15, 0)]) (E' := [(1, .v 0 (.int .i64) p1), (2, .v 0 (.int .i64) p2), (3, .box 0 T_api_State p0), (7, .v 9 (.slice (.int .i64)) x2), (8, .v 0 (.int .i64) x3), (15, .v 0 .bool (decide (x3 < (p0.2.1.length : Int))))]) (obs := []) (by kernel_rfl) (trivial) ?_
    refine W_cond (β := decide (x3 < (p0.2.1.length : Int))) (by kernel_rfl) (fun hb => ?_) (fun hb => ?_)
    · rw [hb] at h; rw [cond_true] at h
      refine W_skip ?_
      refine W_seq ?_
      refine W_block ?_
      refine W_seq ?_
      obtain ⟨o1, h⟩ := h.ass
      refine W_region mixed tys_ok (sup := []) (l := [(1, 0), (2, 0), (3, 0), (7, 9), (8, 0), (9, 9)]) (E' := [(1, .v 0 (.int .i64) p1), (2, .v 0 (.int .i64) p2), (3, .box 0 T_api_State p0), (7, .v 9 (.slice (.int .i64)) x2), (8, .v 0 (.int .i64) x3), (9, .box 9 T_api_Ticket (rd z_api_Ticket p0.2.1 x3))]) (obs := [0 ≤ x3 ∧ x3 < (p0.2.1.length : Int)]) (by kernel_rfl) (o1) ?_
      refine W_gen (x := rd z_api_Ticket p0.2.1 x3) (En := fun x4 => [(1, .v 0 (.int .i64) p1), (2, .v 0 (.int .i64) p2), (3, .box 0 T_api_State p0), (7, .v 9 (.slice (.int .i64)) x2), (8, .v 0 (.int .i64) x3), (9, .box 9 T_api_Ticket x4)]) h (fun x4 h => ?_)
      refine W_seq ?_
      refine W_region mixed tys_ok (sup := []) (l := [(1, 0), (2, 0), (3, 0), (7, 9), (8, 0), (9, 9), (10, 0)]) (E' := [(1, .v 0 (.int .i64) p1), (2, .v 0 (.int .i64) p2), (3, .box 0 T_api_State p0), (7, .v 9 (.slice (.int .i64)) x2), (8, .v 0 (.int .i64) x3), (9, .box 9 T_api_Ticket x4), (10, .v 0 .bool ((((p1 == (0 : Int)) && (x4.2.1 == p2)) || (((p1 == (1 : Int)) && (x4.2.2.2.1 == (2 : Int))) && (x4.2.2.2.2.1 == p2))) || (((p1 == (2 : Int)) && (x4.2.2.2.1 == (1 : Int))) && (x4.2.2.2.2.1 == p2))))]) (obs := []) (by kernel_rfl) (trivial) ?_
      refine W_gen (x := (((p1 == (0 : Int)) && (x4.2.1 == p2)) || (((p1 == (1 : Int)) && (x4.2.2.2.1 == (2 : Int))) && (x4.2.2.2.2.1 == p2))) || (((p1 == (2 : Int)) && (x4.2.2.2.1 == (1 : Int))) && (x4.2.2.2.2.1 == p2))) (En := fun x5 => [(1, .v 0 (.int .i64) p1), (2, .v 0 (.int .i64) p2), (3, .box 0 T_api_State p0), (7, .v 9 (.slice (.int .i64)) x2), (8, .v 0 (.int .i64) x3), (9, .box 9 T_api_Ticket x4), (10, .v 0 .bool x5)]) h (fun x5 h => ?_)
      refine W_seq ?_
      refine W_region mixed tys_ok (sup := []) (l := [(1, 0), (2, 0), (3, 0), (7, 9), (8, 0), (65, 0)]) (E' := [(1, .v 0 (.int .i64) p1), (2, .v 0 (.int .i64) p2), (3, .box 0 T_api_State p0), (7, .v 9 (.slice (.int .i64)) x2), (8, .v 0 (.int .i64) x3), (65, .v 0 .bool (x4.1 && x5))]) (obs := []) (by kernel_rfl) (trivial) ?_
      refine W_join h (Ej := fun (x : List Int) => [(1, .v 0 (.int .i64) p1), (2, .v 0 (.int .i64) p2), (3, .box 0 T_api_State p0), (7, .v 9 (.slice (.int .i64)) x), (8, .v 0 (.int .i64) x3)]) (p := fun x => r15_Tickets_j2 x3 x) ?_ ?_
      · rintro x6 h
        replace h : Leads _ (r15_Tickets_j2 x3 x6) := h
        unfold r15_Tickets_j2 at h
        show W _ _ _ _ _ _ [(1, .v 0 (.int .i64) p1), (2, .v 0 (.int .i64) p2), (3, .box 0 T_api_State p0), (7, .v 9 (.slice (.int .i64)) x6), (8, .v 0 (.int .i64) x3)]
        refine W_blk ?_
        refine W_region mixed tys_ok (sup := []) (l := [(1, 0), (2, 0), (3, 0), (7, 9), (8, 0)]) (E' := [(1, .v 0 (.int .i64) p1), (2, .v 0 (.int .i64) p2), (3, .box 0 T_api_State p0), (7, .v 9 (.slice (.int .i64)) x6), (8, .v 0 (.int .i64) (IntKind.i64.wrap (x3 + (1 : Int))))]) (obs := []) (by kernel_rfl) (trivial) ?_
        refine W_gen (x := IntKind.i64.wrap (x3 + (1 : Int))) (En := fun x7 => [(1, .v 0 (.int .i64) p1), (2, .v 0 (.int .i64) p2), (3, .box 0 T_api_State p0), (7, .v 9 (.slice (.int .i64)) x6), (8, .v 0 (.int .i64) x7)]) h (fun x7 h => ?_)
        refine W_keep (l := [(1, 0), (2, 0), (3, 0), (7, 9), (8, 0)]) (E' := [(1, .v 0 (.int .i64) p1), (2, .v 0 (.int .i64) p2), (3, .box 0 T_api_State p0), (7, .v 9 (.slice (.int .i64)) x6), (8, .v 0 (.int .i64) x7)]) (by kernel_rfl) ?_
        exact W_abs h
      · intro j2
        refine W_cond (β := x4.1 && x5) (by kernel_rfl) (fun hb => ?_) (fun hb => ?_)
        · rw [hb] at h; rw [cond_true] at h
          obtain ⟨o1, h⟩ := h.ass
          refine W_region mixed tys_ok (sup := []) (l := [(1, 0), (2, 0), (3, 0), (7, 9), (8, 0)]) (E' := [(1, .v 0 (.int .i64) p1), (2, .v 0 (.int .i64) p2), (3, .box 0 T_api_State p0), (7, .v 9 (.slice (.int .i64)) (x2 ++ [x3])), (8, .v 0 (.int .i64) x3)]) (obs := [((x2.length + [x3].length : Nat) : Int) ≤ limA]) (by kernel_rfl) (o1) ?_
          refine W_gen (x := x2 ++ [x3]) (En := fun x8 => [(1, .v 0 (.int .i64) p1), (2, .v 0 (.int .i64) p2), (3, .box 0 T_api_State p0), (7, .v 9 (.slice (.int .i64)) x8), (8, .v 0 (.int .i64) x3)]) h (fun x8 h => ?_)
          refine W_keep (l := [(1, 0), (2, 0), (3, 0), (7, 9), (8, 0)]) (E' := [(1, .v 0 (.int .i64) p1), (2, .v 0 (.int .i64) p2), (3, .box 0 T_api_State p0), (7, .v 9 (.slice (.int .i64)) x8), (8, .v 0 (.int .i64) x3)]) (by kernel_rfl) ?_
          exact j2 x8 h
        · rw [hb] at h; rw [cond_false] at h
          refine W_skip ?_
          refine W_keep (l := [(1, 0), (2, 0), (3, 0), (7, 9), (8, 0)]) (E' := [(1, .v 0 (.int .i64) p1), (2, .v 0 (.int .i64) p2), (3, .box 0 T_api_State p0), (7, .v 9 (.slice (.int .i64)) x2), (8, .v 0 (.int .i64) x3)]) (by kernel_rfl) ?_
          exact j2 x2 h
    · rw [hb] at h; rw [cond_false] at h
      refine W_exit rfl ?_
      refine W_keep (l := [(7, 9)]) (E' := [(7, .v 9 (.slice (.int .i64)) x2)]) (by kernel_rfl) ?_
      exact j1 x2 h.back

noncomputable def fund_Of_c1 (p0 : D_api_Ticket) (c0 : Int) : Option Bool :=
  bnd ((p0.2.2.2.1 == (1 : Int)) && (p0.2.2.2.2.1 == c0)) fun x1 =>
  some x1
theorem fund_Of_c1.ok {p0 : D_api_Ticket} {c0 : Int} {r : Bool} (h : fund_Of_c1 p0 c0 = some r) : ACall prog 107 [⟨T_api_Ticket, p0⟩, ⟨.cptr (.int .i64), c0⟩] [⟨0, .bool, r⟩] := by
  replace h := Leads.of h
  unfold fund_Of_c1 at h
  refine acall_of func107 (by kernel_rfl) rfl (by kernel_rfl) fun w0 F0 => ?_
  refine W_seq ?_
  refine W_region mixed tys_ok (sup := []) (l := [(1, 0), (2, 9)]) (E' := [(1, .v 0 (.cptr (.int .i64)) c0), (2, .box 9 T_api_Ticket p0)]) (obs := []) (by kernel_rfl) (trivial) ?_
  refine W_seq ?_
  refine W_region mixed tys_ok (sup := []) (l := [(3, 0)]) (E' := [(3, .v 0 .bool ((p0.2.2.2.1 == (1 : Int)) && (p0.2.2.2.2.1 == c0)))]) (obs := []) (by kernel_rfl) (trivial) ?_
  refine W_gen (x := (p0.2.2.2.1 == (1 : Int)) && (p0.2.2.2.2.1 == c0)) (En := fun x1 => [(3, .v 0 .bool x1)]) h (fun x1 h => ?_)
  refine W_keep (l := [(3, 0)]) (E' := [(3, .v 0 .bool x1)]) (by kernel_rfl) ?_
  replace h : x1 = r := h
  subst h
  exact W_ret tys_ok (by kernel_rfl) (by kernel_rfl)

noncomputable def fund_Of (p0 : D_api_State) (p1 : Int) : Option (List Int) :=
  (fund_which p0 (fun x => fund_Of_c1 x p1)).bind fun y1 =>
  some y1
theorem fund_Of.ok {p0 : D_api_State} {p1 : Int} {r : List Int} (h : fund_Of p0 p1 = some r) : ACall prog 62 [⟨T_api_State, p0⟩, ⟨.int .i64, p1⟩] [⟨9, .slice (.int .i64), r⟩] := by
  replace h := Leads.of h
  unfold fund_Of at h
  refine acall_of func62 (by kernel_rfl) rfl (by kernel_rfl) fun w0 F0 => ?_
  refine W_seq ?_
  refine W_region mixed tys_ok (sup := []) (l := [(2, 0), (3, 9)]) (E' := [(2, .box 0 T_api_State p0), (3, .box 9 (.int .i64) p1)]) (obs := []) (by kernel_rfl) (trivial) ?_
  refine W_seq ?_
  obtain ⟨y1, ey1, h⟩ := h.bind
  refine W_region mixed tys_ok (sup := [.fn T_api_Ticket .bool (fun x => fund_Of_c1 x p1), .res [(9, ⟨9, .slice (.int .i64), y1⟩)]]) (l := [(4, 9)]) (E' := [(4, .v 9 (.slice (.int .i64)) y1)]) (obs := [∀ x y, (fun x => fund_Of_c1 x p1) x = some y → ACall prog 107 (unprod T_api_Ticket x ++ [⟨.cptr (.int .i64), p1⟩]) [⟨9, .bool, y⟩], ACall prog 104 [⟨T_api_State, p0⟩, ⟨.fn T_api_Ticket .bool, fun x => fund_Of_c1 x p1⟩] [⟨9, .slice (.int .i64), y1⟩]]) (by kernel_rfl) (⟨fun x y e => ACall.flat rfl (fund_Of_c1.ok e), fund_which.ok ey1⟩) ?_
  refine W_keep (l := [(4, 9)]) (E' := [(4, .v 9 (.slice (.int .i64)) y1)]) (by kernel_rfl) ?_
  replace h : y1 = r := h
  subst h
  exact W_ret tys_ok (by kernel_rfl) (by kernel_rfl)

noncomputable def r15_Own_j1 (x4 : List Bool) : Option (List Bool) :=
  some x4
noncomputable def r15_Own_j2 (x9 : Int) (x10 : List Bool) (x11 : Bool) : Option (((List Bool) × Bool × Int) ⊕ (((List Bool) × Bool) ⊕ (List Bool))) :=
  bnd (IntKind.i64.wrap (x9 + (1 : Int))) fun x12 =>
  some (.inl (x10, x11, x12))
noncomputable def r15_Own_j4 (x9 : Int) (x16 : List Bool) (x17 : Bool) : Option (((List Bool) × Bool × Int) ⊕ (((List Bool) × Bool) ⊕ (List Bool))) :=
  r15_Own_j2 x9 x16 x17
noncomputable def r15_Own_j3 (x7 : List Bool) (x8 : Bool) (x9 : Int) (x15 : Bool) : Option (((List Bool) × Bool × Int) ⊕ (((List Bool) × Bool) ⊕ (List Bool))) :=
  bif x15 then
    ass (0 ≤ x9 ∧ x9 < (x7.length : Int)) <|
    bnd (wr x7 x9 true) fun x18 =>
    r15_Own_j4 x9 x18 true
  else
    r15_Own_j4 x9 x7 x8
noncomputable def r15_Own_b3 (p0 : D_api_State) (x7 : List Bool) (x8 : Bool) (x9 : Int) (y13 : List Int) (x19 : Bool) (x20 : Int) : Option ((Bool × Int) ⊕ (((List Bool) × Bool × Int) ⊕ (((List Bool) × Bool) ⊕ (List Bool)))) :=
  bif decide (x20 < (y13.length : Int)) then
    ass (x19 = true → 0 ≤ x20 ∧ x20 < (y13.length : Int)) <|
    ass (x19 = true → 0 ≤ rd (0 : Int) y13 x20 ∧ rd (0 : Int) y13 x20 < (p0.2.1.length : Int)) <|
    ass (x19 = true → 0 ≤ (rd z_api_Ticket p0.2.1 (rd (0 : Int) y13 x20)).2.1 ∧ (rd z_api_Ticket p0.2.1 (rd (0 : Int) y13 x20)).2.1 < (x7.length : Int)) <|
    bnd (x19 && (rd false x7 (rd z_api_Ticket p0.2.1 (rd (0 : Int) y13 x20)).2.1)) fun x21 =>
    bnd (IntKind.i64.wrap (x20 + (1 : Int))) fun x22 =>
    some (.inl (x21, x22))
  else
    (r15_Own_j3 x7 x8 x9 x19).map .inr
noncomputable def r15_Own_b2 (p0 : D_api_State) (x7 : List Bool) (x8 : Bool) (x9 : Int) : Option (((List Bool) × Bool × Int) ⊕ (((List Bool) × Bool) ⊕ (List Bool))) :=
  bif decide (x9 < (p0.1.length : Int)) then
    (r15_Tickets p0 (1 : Int) x9).bind fun y13 =>
    ass (0 ≤ x9 ∧ x9 < (p0.1.length : Int)) <|
    ass ((rd false p0.1 x9) = true → 0 ≤ x9 ∧ x9 < (x7.length : Int)) <|
    bnd (((rd false p0.1 x9) && (!(rd false x7 x9))) && (decide ((y13.length : Int) > (0 : Int)))) fun x14 =>
    loopM (fun x : Bool × Int => r15_Own_b3 p0 x7 x8 x9 y13 x.1 x.2) (x14, (0 : Int))
  else
    some (.inr (.inl (x7, x8)))
noncomputable def r15_Own_b1 (p0 : D_api_State) (x5 : List Bool) (x6 : Bool) : Option (((List Bool) × Bool) ⊕ (List Bool)) :=
  bif x6 then
    loopM (fun x : (List Bool) × Bool × Int => r15_Own_b2 p0 x.1 x.2.1 x.2.2) (x5, false, (0 : Int))
  else
    (r15_Own_j1 x5).map .inr
noncomputable def r15_Own (p0 : D_api_State) (p1 : Int) : Option (List Bool) :=
  ass (0 ≤ (p0.1.length : Int) ∧ (p0.1.length : Int) ≤ (p0.1.length : Int) ∧ (p0.1.length : Int) ≤ lim) <|
  bnd (List.replicate (p0.1.length : Int).toNat false) fun x1 =>
  (r14_Coin p0 p1).bind fun y2 =>
  bif !y2 then
    some x1
  else
    ass (0 ≤ p1 ∧ p1 < (x1.length : Int)) <|
    bnd (wr x1 p1 true) fun x3 =>
    loopM (fun x : (List Bool) × Bool => r15_Own_b1 p0 x.1 x.2) (x3, true)
theorem r15_Own.ok {p0 : D_api_State} {p1 : Int} {r : List Bool} (h : r15_Own p0 p1 = some r) : ACall prog 64 [⟨T_api_State, p0⟩, ⟨.int .i64, p1⟩] [⟨9, .slice .bool, r⟩] := by
  replace h := Leads.of h
  unfold r15_Own at h
  refine acall_of func64 (by kernel_rfl) rfl (by kernel_rfl) fun w0 F0 => ?_
  refine W_seq ?_
  refine W_region mixed tys_ok (sup := []) (l := [(1, 0), (2, 0)]) (E' := [(1, .v 0 (.int .i64) p1), (2, .box 0 T_api_State p0)]) (obs := []) (by kernel_rfl) (trivial) ?_
  refine W_seq ?_
  obtain ⟨o1, h⟩ := h.ass
  refine W_region mixed tys_ok (sup := []) (l := [(1, 0), (2, 0), (5, 9)]) (E' := [(1, .v 0 (.int .i64) p1), (2, .box 0 T_api_State p0), (5, .v 9 (.slice .bool) (List.replicate (p0.1.length : Int).toNat false))]) (obs := [0 ≤ (p0.1.length : Int) ∧ (p0.1.length : Int) ≤ (p0.1.length : Int) ∧ (p0.1.length : Int) ≤ lim]) (by kernel_rfl) (o1) ?_
  refine W_gen (x := List.replicate (p0.1.length : Int).toNat false) (En := fun x1 => [(1, .v 0 (.int .i64) p1), (2, .box 0 T_api_State p0), (5, .v 9 (.slice .bool) x1)]) h (fun x1 h => ?_)
  refine W_seq ?_
  refine W_seq ?_
  obtain ⟨y2, ey2, h⟩ := h.bind
  refine W_region mixed tys_ok (sup := [.res [(0, ⟨0, .bool, y2⟩)]]) (l := [(1, 0), (2, 0), (5, 9), (18, 0)]) (E' := [(1, .v 0 (.int .i64) p1), (2, .box 0 T_api_State p0), (5, .v 9 (.slice .bool) x1), (18, .v 0 .bool (!y2))]) (obs := [ACall prog 40 [⟨T_api_State, p0⟩, ⟨.int .i64, p1⟩] [⟨0, .bool, y2⟩]]) (by kernel_rfl) (r14_Coin.ok ey2) ?_
  refine W_cond (β := !y2) (by kernel_rfl) (fun hb => ?_) (fun hb => ?_)
  · rw [hb] at h; rw [cond_true] at h
    refine W_seq ?_
    refine W_region mixed tys_ok (sup := []) (l := [(4, 9)]) (E' := [(4, .v 9 (.slice .bool) x1)]) (obs := []) (by kernel_rfl) (trivial) ?_
    refine W_keep (l := [(4, 9)]) (E' := [(4, .v 9 (.slice .bool) x1)]) (by kernel_rfl) ?_
    replace h : x1 = r := h
    subst h
    exact W_ret tys_ok (by kernel_rfl) (by kernel_rfl)
  · rw [hb] at h; rw [cond_false] at h
    refine W_skip ?_
    refine W_seq ?_
    obtain ⟨o1, h⟩ := h.ass
    refine W_region mixed tys_ok (sup := []) (l := [(2, 0), (5, 9)]) (E' := [(2, .box 0 T_api_State p0), (5, .v 9 (.slice .bool) (wr x1 p1 true))]) (obs := [0 ≤ p1 ∧ p1 < (x1.length : Int)]) (by kernel_rfl) (o1) ?_
    refine W_gen (x := wr x1 p1 true) (En := fun x3 => [(2, .box 0 T_api_State p0), (5, .v 9 (.slice .bool) x3)]) h (fun x3 h => ?_)
    refine W_seq ?_
    refine W_region mixed tys_ok (sup := []) (l := [(2, 0), (5, 9), (6, 0)]) (E' := [(2, .box 0 T_api_State p0), (5, .v 9 (.slice .bool) x3), (6, .v 0 .bool true)]) (obs := []) (by kernel_rfl) (trivial) ?_
    refine W_seq ?_
    refine W_join h (Ej := fun (x : List Bool) => [(5, .v 9 (.slice .bool) x)]) (p := fun x => r15_Own_j1 x) ?_ ?_
    · rintro x4 h
      replace h : Leads _ (r15_Own_j1 x4) := h
      unfold r15_Own_j1 at h
      show W _ _ _ _ _ _ [(5, .v 9 (.slice .bool) x4)]
      refine W_seq ?_
      refine W_region mixed tys_ok (sup := []) (l := [(4, 9)]) (E' := [(4, .v 9 (.slice .bool) x4)]) (obs := []) (by kernel_rfl) (trivial) ?_
      refine W_keep (l := [(4, 9)]) (E' := [(4, .v 9 (.slice .bool) x4)]) (by kernel_rfl) ?_
      replace h : x4 = r := h
      subst h
      exact W_ret tys_ok (by kernel_rfl) (by kernel_rfl)
    · intro j1
      refine W_block ?_
      refine W_keep (l := [(2, 0), (5, 9), (6, 0)]) (E' := [(2, .box 0 T_api_State p0), (5, .v 9 (.slice .bool) x3), (6, .v 0 .bool true)]) (by kernel_rfl) ?_
      refine W_loop' (En := fun (x : (List Bool) × Bool) => [(2, .box 0 T_api_State p0), (5, .v 9 (.slice .bool) x.1), (6, .v 0 .bool x.2)]) (x := (x3, true)) h ?_
      rintro ⟨x5, x6⟩ K h
      replace h : Leads _ (r15_Own_b1 p0 x5 x6) := h
      unfold r15_Own_b1 at h
      show W _ _ _ _ _ _ [(2, .box 0 T_api_State p0), (5, .v 9 (.slice .bool) x5), (6, .v 0 .bool x6)]
      refine W_seq ?_
      refine W_seq ?_
      refine W_region mixed tys_ok (sup := []) (l := [(2, 0), (5, 9), (23, 0)]) (E' := [(2, .box 0 T_api_State p0), (5, .v 9 (.slice .bool) x5), (23, .v 0 .bool x6)]) (obs := []) (by kernel_rfl) (trivial) ?_
      refine W_cond (β := x6) (by kernel_rfl) (fun hb => ?_) (fun hb => ?_)
      · rw [cond_tt hb] at h
        refine W_skip ?_
        refine W_block ?_
        refine W_seq ?_
        refine W_region mixed tys_ok (sup := []) (l := [(2, 0), (5, 9), (6, 0)]) (E' := [(2, .box 0 T_api_State p0), (5, .v 9 (.slice .bool) x5), (6, .v 0 .bool false)]) (obs := []) (by kernel_rfl) (trivial) ?_
        refine W_seq ?_
        refine W_region mixed tys_ok (sup := []) (l := [(2, 0), (5, 9), (6, 0), (7, 0)]) (E' := [(2, .box 0 T_api_State p0), (5, .v 9 (.slice .bool) x5), (6, .v 0 .bool false), (7, .v 0 (.int .i64) (0 : Int))]) (obs := []) (by kernel_rfl) (trivial) ?_
        refine W_block ?_
        refine W_keep (l := [(2, 0), (5, 9), (6, 0), (7, 0)]) (E' := [(2, .box 0 T_api_State p0), (5, .v 9 (.slice .bool) x5), (6, .v 0 .bool false), (7, .v 0 (.int .i64) (0 : Int))]) (by kernel_rfl) ?_
        refine W_loop' (En := fun (x : (List Bool) × Bool × Int) => [(2, .box 0 T_api_State p0), (5, .v 9 (.slice .bool) x.1), (6, .v 0 .bool x.2.1), (7, .v 0 (.int .i64) x.2.2)]) (x := (x5, false, (0 : Int))) h ?_
        rintro ⟨x7, x8, x9⟩ K h
        replace h : Leads _ (r15_Own_b2 p0 x7 x8 x9) := h
        unfold r15_Own_b2 at h
        show W _ _ _ _ _ _ [(2, .box 0 T_api_State p0), (5, .v 9 (.slice .bool) x7), (6, .v 0 .bool x8), (7, .v 0 (.int .i64) x9)]
        refine W_seq ?_
        refine W_seq ?_
        refine W_region mixed tys_ok (sup := []) (l := [(2, 0), (5, 9), (6, 0), (7, 0), (28, 0)]) (E' := [(2, .box 0 T_api_State p0), (5, .v 9 (.slice .bool) x7), (6, .v 0 .bool x8), (7, .v 0 (.int .i64) x9), (28, .v 0 .bool (decide (x9 < (p0.1.length : Int))))]) (obs := []) (by kernel_rfl) (trivial) ?_
        refine W_cond (β := decide (x9 < (p0.1.length : Int))) (by kernel_rfl) (fun hb => ?_) (fun hb => ?_)
        · rw [hb] at h; rw [cond_true] at h
          refine W_skip ?_
          refine W_seq ?_
          refine W_join h (Ej := fun (x : (List Bool) × Bool) => [(2, .box 0 T_api_State p0), (5, .v 9 (.slice .bool) x.1), (6, .v 0 .bool x.2), (7, .v 0 (.int .i64) x9)]) (p := fun x => r15_Own_j2 x9 x.1 x.2) ?_ ?_
          · rintro ⟨x10, x11⟩ h
            replace h : Leads _ (r15_Own_j2 x9 x10 x11) := h
            unfold r15_Own_j2 at h
            show W _ _ _ _ _ _ [(2, .box 0 T_api_State p0), (5, .v 9 (.slice .bool) x10), (6, .v 0 .bool x11), (7, .v 0 (.int .i64) x9)]
            refine W_region mixed tys_ok (sup := []) (l := [(2, 0), (5, 9), (6, 0), (7, 0)]) (E' := [(2, .box 0 T_api_State p0), (5, .v 9 (.slice .bool) x10), (6, .v 0 .bool x11), (7, .v 0 (.int .i64) (IntKind.i64.wrap (x9 + (1 : Int))))]) (obs := []) (by kernel_rfl) (trivial) ?_
            refine W_gen (x := IntKind.i64.wrap (x9 + (1 : Int))) (En := fun x12 => [(2, .box 0 T_api_State p0), (5, .v 9 (.slice .bool) x10), (6, .v 0 .bool x11), (7, .v 0 (.int .i64) x12)]) h (fun x12 h => ?_)
            refine W_keep (l := [(2, 0), (5, 9), (6, 0), (7, 0)]) (E' := [(2, .box 0 T_api_State p0), (5, .v 9 (.slice .bool) x10), (6, .v 0 .bool x11), (7, .v 0 (.int .i64) x12)]) (by kernel_rfl) ?_
            exact W_abs h
          · intro j2
            refine W_block ?_
            refine W_seq ?_
            obtain ⟨y13, ey13, h⟩ := h.bind
            refine W_region mixed tys_ok (sup := [.res [(9, ⟨9, .slice (.int .i64), y13⟩)]]) (l := [(2, 0), (5, 9), (6, 0), (7, 0), (8, 9)]) (E' := [(2, .box 0 T_api_State p0), (5, .v 9 (.slice .bool) x7), (6, .v 0 .bool x8), (7, .v 0 (.int .i64) x9), (8, .v 9 (.slice (.int .i64)) y13)]) (obs := [ACall prog 60 [⟨T_api_State, p0⟩, ⟨.int .i64, (1 : Int)⟩, ⟨.int .i64, x9⟩] [⟨9, .slice (.int .i64), y13⟩]]) (by kernel_rfl) (r15_Tickets.ok ey13) ?_
            refine W_seq ?_
            obtain ⟨o1, h⟩ := h.ass
            obtain ⟨o2, h⟩ := h.ass
            refine W_region mixed tys_ok (sup := []) (l := [(2, 0), (5, 9), (6, 0), (7, 0), (8, 9), (9, 0)]) (E' := [(2, .box 0 T_api_State p0), (5, .v 9 (.slice .bool) x7), (6, .v 0 .bool x8), (7, .v 0 (.int .i64) x9), (8, .v 9 (.slice (.int .i64)) y13), (9, .v 0 .bool (((rd false p0.1 x9) && (!(rd false x7 x9))) && (decide ((y13.length : Int) > (0 : Int)))))]) (obs := [0 ≤ x9 ∧ x9 < (p0.1.length : Int), (rd false p0.1 x9) = true → 0 ≤ x9 ∧ x9 < (x7.length : Int)]) (by kernel_rfl) (⟨o1, o2⟩) ?_
            refine W_gen (x := ((rd false p0.1 x9) && (!(rd false x7 x9))) && (decide ((y13.length : Int) > (0 : Int)))) (En := fun x14 => [(2, .box 0 T_api_State p0), (5, .v 9 (.slice .bool) x7), (6, .v 0 .bool x8), (7, .v 0 (.int .i64) x9), (8, .v 9 (.slice (.int .i64)) y13), (9, .v 0 .bool x14)]) h (fun x14 h => ?_)
            refine W_seq ?_
            refine W_seq ?_
            refine W_region mixed tys_ok (sup := []) (l := [(2, 0), (5, 9), (6, 0), (7, 0), (8, 9), (9, 0), (10, 0)]) (E' := [(2, .box 0 T_api_State p0), (5, .v 9 (.slice .bool) x7), (6, .v 0 .bool x8), (7, .v 0 (.int .i64) x9), (8, .v 9 (.slice (.int .i64)) y13), (9, .v 0 .bool x14), (10, .v 0 (.int .i64) (0 : Int))]) (obs := []) (by kernel_rfl) (trivial) ?_
            refine W_join h (Ej := fun (x : Bool) => [(2, .box 0 T_api_State p0), (5, .v 9 (.slice .bool) x7), (6, .v 0 .bool x8), (7, .v 0 (.int .i64) x9), (9, .v 0 .bool x)]) (p := fun x => r15_Own_j3 x7 x8 x9 x) ?_ ?_
            · rintro x15 h
              replace h : Leads _ (r15_Own_j3 x7 x8 x9 x15) := h
              unfold r15_Own_j3 at h
              show W _ _ _ _ _ _ [(2, .box 0 T_api_State p0), (5, .v 9 (.slice .bool) x7), (6, .v 0 .bool x8), (7, .v 0 (.int .i64) x9), (9, .v 0 .bool x15)]
              refine W_seq ?_
              refine W_region mixed tys_ok (sup := []) (l := [(2, 0), (5, 9), (6, 0), (7, 0), (72, 0)]) (E' := [(2, .box 0 T_api_State p0), (5, .v 9 (.slice .bool) x7), (6, .v 0 .bool x8), (7, .v 0 (.int .i64) x9), (72, .v 0 .bool x15)]) (obs := []) (by kernel_rfl) (trivial) ?_
              refine W_join h (Ej := fun (x : (List Bool) × Bool) => [(2, .box 0 T_api_State p0), (5, .v 9 (.slice .bool) x.1), (6, .v 0 .bool x.2), (7, .v 0 (.int .i64) x9)]) (p := fun x => r15_Own_j4 x9 x.1 x.2) ?_ ?_
              · rintro ⟨x16, x17⟩ h
                replace h : Leads _ (r15_Own_j4 x9 x16 x17) := h
                unfold r15_Own_j4 at h
                show W _ _ _ _ _ _ [(2, .box 0 T_api_State p0), (5, .v 9 (.slice .bool) x16), (6, .v 0 .bool x17), (7, .v 0 (.int .i64) x9)]
                refine W_blk ?_
                refine W_keep (l := [(2, 0), (5, 9), (6, 0), (7, 0)]) (E' := [(2, .box 0 T_api_State p0), (5, .v 9 (.slice .bool) x16), (6, .v 0 .bool x17), (7, .v 0 (.int .i64) x9)]) (by kernel_rfl) ?_
                exact j2 (x16, x17) h
              · intro j4
                refine W_cond (β := x15) (by kernel_rfl) (fun hb => ?_) (fun hb => ?_)
                · rw [cond_tt hb] at h
                  refine W_seq ?_
                  obtain ⟨o1, h⟩ := h.ass
                  refine W_region mixed tys_ok (sup := []) (l := [(2, 0), (5, 9), (7, 0)]) (E' := [(2, .box 0 T_api_State p0), (5, .v 9 (.slice .bool) (wr x7 x9 true)), (7, .v 0 (.int .i64) x9)]) (obs := [0 ≤ x9 ∧ x9 < (x7.length : Int)]) (by kernel_rfl) (o1) ?_
                  refine W_gen (x := wr x7 x9 true) (En := fun x18 => [(2, .box 0 T_api_State p0), (5, .v 9 (.slice .bool) x18), (7, .v 0 (.int .i64) x9)]) h (fun x18 h => ?_)
                  refine W_region mixed tys_ok (sup := []) (l := [(2, 0), (5, 9), (6, 0), (7, 0)]) (E' := [(2, .box 0 T_api_State p0), (5, .v 9 (.slice .bool) x18), (6, .v 0 .bool true), (7, .v 0 (.int .i64) x9)]) (obs := []) (by kernel_rfl) (trivial) ?_
                  refine W_keep (l := [(2, 0), (5, 9), (6, 0), (7, 0)]) (E' := [(2, .box 0 T_api_State p0), (5, .v 9 (.slice .bool) x18), (6, .v 0 .bool true), (7, .v 0 (.int .i64) x9)]) (by kernel_rfl) ?_
                  exact j4 (x18, true) h
                · rw [cond_ff hb] at h
                  refine W_skip ?_
                  refine W_keep (l := [(2, 0), (5, 9), (6, 0), (7, 0)]) (E' := [(2, .box 0 T_api_State p0), (5, .v 9 (.slice .bool) x7), (6, .v 0 .bool x8), (7, .v 0 (.int .i64) x9)]) (by kernel_rfl) ?_
                  exact j4 (x7, x8) h
            · intro j3
              refine W_block ?_
              refine W_keep (l := [(2, 0), (5, 9), (6, 0), (7, 0), (8, 9), (9, 0), (10, 0)]) (E' := [(2, .box 0 T_api_State p0), (5, .v 9 (.slice .bool) x7), (6, .v 0 .bool x8), (7, .v 0 (.int .i64) x9), (8, .v 9 (.slice (.int .i64)) y13), (9, .v 0 .bool x14), (10, .v 0 (.int .i64) (0 : Int))]) (by kernel_rfl) ?_
              refine W_loop' (En := fun (x : Bool × Int) => [(2, .box 0 T_api_State p0), (5, .v 9 (.slice .bool) x7), (6, .v 0 .bool x8), (7, .v 0 (.int .i64) x9), (8, .v 9 (.slice (.int .i64)) y13), (9, .v 0 .bool x.1), (10, .v 0 (.int .i64) x.2)]) (x := (x14, (0 : Int))) h ?_
              rintro ⟨x19, x20⟩ K h
              replace h : Leads _ (r15_Own_b3 p0 x7 x8 x9 y13 x19 x20) := h
              unfold r15_Own_b3 at h
              show W _ _ _ _ _ _ [(2, .box 0 T_api_State p0), (5, .v 9 (.slice .bool) x7), (6, .v 0 .bool x8), (7, .v 0 (.int .i64) x9), (8, .v 9 (.slice (.int .i64)) y13), (9, .v 0 .bool x19), (10, .v 0 (.int .i64) x20)]
              refine W_seq ?_
              refine W_seq ?_
              refine W_region mixed tys_ok (sup := []) (l := [(2, 0), (5, 9), (6, 0), (7, 0), (8, 9), (9, 0), (10, 0), (54, 0)]) (E' := [(2, .box 0 T_api_State p0), (5, .v 9 (.slice .bool) x7), (6, .v 0 .bool x8), (7, .v 0 (.int .i64) x9), (8, .v 9 (.slice (.int .i64)) y13), (9, .v 0 .bool x19), (10, .v 0 (.int .i64) x20), (54, .v 0 .bool (decide (x20 < (y13.length : Int))))]) (obs := []) (by kernel_rfl) (trivial) ?_
              refine W_cond (β := decide (x20 < (y13.length : Int))) (by kernel_rfl) (fun hb => ?_) (fun hb => ?_)
              · rw [hb] at h; rw [cond_true] at h
                refine W_skip ?_
                refine W_seq ?_
                refine W_block ?_
                obtain ⟨o1, h⟩ := h.ass
                obtain ⟨o2, h⟩ := h.ass
                obtain ⟨o3, h⟩ := h.ass
                refine W_region mixed tys_ok (sup := []) (l := [(2, 0), (5, 9), (6, 0), (7, 0), (8, 9), (9, 0), (10, 0)]) (E' := [(2, .box 0 T_api_State p0), (5, .v 9 (.slice .bool) x7), (6, .v 0 .bool x8), (7, .v 0 (.int .i64) x9), (8, .v 9 (.slice (.int .i64)) y13), (9, .v 0 .bool (x19 && (rd false x7 (rd z_api_Ticket p0.2.1 (rd (0 : Int) y13 x20)).2.1))), (10, .v 0 (.int .i64) x20)]) (obs := [x19 = true → 0 ≤ x20 ∧ x20 < (y13.length : Int), x19 = true → 0 ≤ rd (0 : Int) y13 x20 ∧ rd (0 : Int) y13 x20 < (p0.2.1.length : Int), x19 = true → 0 ≤ (rd z_api_Ticket p0.2.1 (rd (0 : Int) y13 x20)).2.1 ∧ (rd z_api_Ticket p0.2.1 (rd (0 : Int) y13 x20)).2.1 < (x7.length : Int)]) (by kernel_rfl) (⟨o1, o2, o3⟩) ?_
                refine W_gen (x := x19 && (rd false x7 (rd z_api_Ticket p0.2.1 (rd (0 : Int) y13 x20)).2.1)) (En := fun x21 => [(2, .box 0 T_api_State p0), (5, .v 9 (.slice .bool) x7), (6, .v 0 .bool x8), (7, .v 0 (.int .i64) x9), (8, .v 9 (.slice (.int .i64)) y13), (9, .v 0 .bool x21), (10, .v 0 (.int .i64) x20)]) h (fun x21 h => ?_)
                refine W_blk ?_
                refine W_region mixed tys_ok (sup := []) (l := [(2, 0), (5, 9), (6, 0), (7, 0), (8, 9), (9, 0), (10, 0)]) (E' := [(2, .box 0 T_api_State p0), (5, .v 9 (.slice .bool) x7), (6, .v 0 .bool x8), (7, .v 0 (.int .i64) x9), (8, .v 9 (.slice (.int .i64)) y13), (9, .v 0 .bool x21), (10, .v 0 (.int .i64) (IntKind.i64.wrap (x20 + (1 : Int))))]) (obs := []) (by kernel_rfl) (trivial) ?_
                refine W_gen (x := IntKind.i64.wrap (x20 + (1 : Int))) (En := fun x22 => [(2, .box 0 T_api_State p0), (5, .v 9 (.slice .bool) x7), (6, .v 0 .bool x8), (7, .v 0 (.int .i64) x9), (8, .v 9 (.slice (.int .i64)) y13), (9, .v 0 .bool x21), (10, .v 0 (.int .i64) x22)]) h (fun x22 h => ?_)
                refine W_keep (l := [(2, 0), (5, 9), (6, 0), (7, 0), (8, 9), (9, 0), (10, 0)]) (E' := [(2, .box 0 T_api_State p0), (5, .v 9 (.slice .bool) x7), (6, .v 0 .bool x8), (7, .v 0 (.int .i64) x9), (8, .v 9 (.slice (.int .i64)) y13), (9, .v 0 .bool x21), (10, .v 0 (.int .i64) x22)]) (by kernel_rfl) ?_
                exact W_abs h
              · rw [hb] at h; rw [cond_false] at h
                refine W_exit rfl ?_
                refine W_keep (l := [(2, 0), (5, 9), (6, 0), (7, 0), (9, 0)]) (E' := [(2, .box 0 T_api_State p0), (5, .v 9 (.slice .bool) x7), (6, .v 0 .bool x8), (7, .v 0 (.int .i64) x9), (9, .v 0 .bool x19)]) (by kernel_rfl) ?_
                exact j3 x19 h.back
        · rw [hb] at h; rw [cond_false] at h
          refine W_exit rfl ?_
          refine W_blk ?_
          refine W_keep (l := [(2, 0), (5, 9), (6, 0)]) (E' := [(2, .box 0 T_api_State p0), (5, .v 9 (.slice .bool) x7), (6, .v 0 .bool x8)]) (by kernel_rfl) ?_
          exact W_abs h
      · rw [cond_ff hb] at h
        refine W_exit rfl ?_
        refine W_keep (l := [(5, 9)]) (E' := [(5, .v 9 (.slice .bool) x5)]) (by kernel_rfl) ?_
        exact j1 x5 h.back

noncomputable def r11_All_j1 (x1 : List Int) : Option (List Int) :=
  some x1
noncomputable def r11_All_j2 (x3 : Int) (x4 : List Int) : Option (((List Int) × Int) ⊕ (List Int)) :=
  bnd (IntKind.i64.wrap (x3 + (1 : Int))) fun x5 =>
  some (.inl (x4, x5))
noncomputable def r11_All_b1 (p0 : List Bool) (x2 : List Int) (x3 : Int) : Option (((List Int) × Int) ⊕ (List Int)) :=
  bif decide (x3 < (p0.length : Int)) then
    ass (0 ≤ x3 ∧ x3 < (p0.length : Int)) <|
    bif rd false p0 x3 then
      ass (((x2.length + [x3].length : Nat) : Int) ≤ limA) <|
      bnd (x2 ++ [x3]) fun x6 =>
      r11_All_j2 x3 x6
    else
      r11_All_j2 x3 x2
  else
    (r11_All_j1 x2).map .inr
noncomputable def r11_All (p0 : List Bool) : Option (List Int) :=
  loopM (fun x : (List Int) × Int => r11_All_b1 p0 x.1 x.2) (([] : List Int), (0 : Int))
theorem r11_All.ok {p0 : List Bool} {r : List Int} (h : r11_All p0 = some r) : ACall prog 36 [⟨.slice .bool, p0⟩] [⟨9, .slice (.int .i64), r⟩] := by
  replace h := Leads.of h
  unfold r11_All at h
  refine acall_of func36 (by kernel_rfl) rfl (by kernel_rfl) fun w0 F0 => ?_
  refine W_seq ?_
  refine W_region mixed tys_ok (sup := []) (l := [(0, 0)]) (E' := [(0, .v 0 (.slice .bool) p0)]) (obs := []) (by kernel_rfl) (trivial) ?_
  refine W_seq ?_
  refine W_region mixed tys_ok (sup := []) (l := [(0, 0), (3, 9)]) (E' := [(0, .v 0 (.slice .bool) p0), (3, .v 9 (.slice (.int .i64)) ([] : List Int))]) (obs := []) (by kernel_rfl) (trivial) ?_
  refine W_seq ?_
  refine W_seq ?_
  refine W_region mixed tys_ok (sup := []) (l := [(0, 0), (3, 9), (4, 0)]) (E' := [(0, .v 0 (.slice .bool) p0), (3, .v 9 (.slice (.int .i64)) ([] : List Int)), (4, .v 0 (.int .i64) (0 : Int))]) (obs := []) (by kernel_rfl) (trivial) ?_
  refine W_join h (Ej := fun (x : List Int) => [(3, .v 9 (.slice (.int .i64)) x)]) (p := fun x => r11_All_j1 x) ?_ ?_
  · rintro x1 h
    replace h : Leads _ (r11_All_j1 x1) := h
    unfold r11_All_j1 at h
    show W _ _ _ _ _ _ [(3, .v 9 (.slice (.int .i64)) x1)]
    refine W_seq ?_
    refine W_region mixed tys_ok (sup := []) (l := [(2, 9)]) (E' := [(2, .v 9 (.slice (.int .i64)) x1)]) (obs := []) (by kernel_rfl) (trivial) ?_
    refine W_keep (l := [(2, 9)]) (E' := [(2, .v 9 (.slice (.int .i64)) x1)]) (by kernel_rfl) ?_
    replace h : x1 = r := h
    subst h
    exact W_ret tys_ok (by kernel_rfl) (by kernel_rfl)
  · intro j1
    refine W_block ?_
    refine W_keep (l := [(0, 0), (3, 9), (4, 0)]) (E' := [(0, .v 0 (.slice .bool) p0), (3, .v 9 (.slice (.int .i64)) ([] : List Int)), (4, .v 0 (.int .i64) (0 : Int))]) (by kernel_rfl) ?_
    refine W_loop' (En := fun (x : (List Int) × Int) => [(0, .v 0 (.slice .bool) p0), (3, .v 9 (.slice (.int .i64)) x.1), (4, .v 0 (.int .i64) x.2)]) (x := (([] : List Int), (0 : Int))) h ?_
    rintro ⟨x2, x3⟩ K h
    replace h : Leads _ (r11_All_b1 p0 x2 x3) := h
    unfold r11_All_b1 at h
    show W _ _ _ _ _ _ [(0, .v 0 (.slice .bool) p0), (3, .v 9 (.slice (.int .i64)) x2), (4, .v 0 (.int .i64) x3)]
    refine W_seq ?_
    refine W_seq ?_
    refine W_region mixed tys_ok (sup := []) (l := [(0, 0), (3, 9), (4, 0), (8, 0)]) (E' := [(0, .v 0 (.slice .bool) p0), (3, .v 9 (.slice (.int .i64)) x2), (4, .v 0 (.int .i64) x3), (8, .v 0 .bool (decide (x3 < (p0.length : Int))))]) (obs := []) (by kernel_rfl) (trivial) ?_
    refine W_cond (β := decide (x3 < (p0.length : Int))) (by kernel_rfl) (fun hb => ?_) (fun hb => ?_)
    · rw [hb] at h; rw [cond_true] at h
      refine W_skip ?_
      refine W_seq ?_
      refine W_block ?_
      refine W_seq ?_
      obtain ⟨o1, h⟩ := h.ass
      refine W_region mixed tys_ok (sup := []) (l := [(0, 0), (3, 9), (4, 0), (14, 0)]) (E' := [(0, .v 0 (.slice .bool) p0), (3, .v 9 (.slice (.int .i64)) x2), (4, .v 0 (.int .i64) x3), (14, .v 0 .bool (rd false p0 x3))]) (obs := [0 ≤ x3 ∧ x3 < (p0.length : Int)]) (by kernel_rfl) (o1) ?_
      refine W_join h (Ej := fun (x : List Int) => [(0, .v 0 (.slice .bool) p0), (3, .v 9 (.slice (.int .i64)) x), (4, .v 0 (.int .i64) x3)]) (p := fun x => r11_All_j2 x3 x) ?_ ?_
      · rintro x4 h
        replace h : Leads _ (r11_All_j2 x3 x4) := h
        unfold r11_All_j2 at h
        show W _ _ _ _ _ _ [(0, .v 0 (.slice .bool) p0), (3, .v 9 (.slice (.int .i64)) x4), (4, .v 0 (.int .i64) x3)]
        refine W_blk ?_
        refine W_region mixed tys_ok (sup := []) (l := [(0, 0), (3, 9), (4, 0)]) (E' := [(0, .v 0 (.slice .bool) p0), (3, .v 9 (.slice (.int .i64)) x4), (4, .v 0 (.int .i64) (IntKind.i64.wrap (x3 + (1 : Int))))]) (obs := []) (by kernel_rfl) (trivial) ?_
        refine W_gen (x := IntKind.i64.wrap (x3 + (1 : Int))) (En := fun x5 => [(0, .v 0 (.slice .bool) p0), (3, .v 9 (.slice (.int .i64)) x4), (4, .v 0 (.int .i64) x5)]) h (fun x5 h => ?_)
        refine W_keep (l := [(0, 0), (3, 9), (4, 0)]) (E' := [(0, .v 0 (.slice .bool) p0), (3, .v 9 (.slice (.int .i64)) x4), (4, .v 0 (.int .i64) x5)]) (by kernel_rfl) ?_
        exact W_abs h
      · intro j2
        refine W_cond (β := rd false p0 x3) (by kernel_rfl) (fun hb => ?_) (fun hb => ?_)
        · rw [hb] at h; rw [cond_true] at h
          obtain ⟨o1, h⟩ := h.ass
          refine W_region mixed tys_ok (sup := []) (l := [(0, 0), (3, 9), (4, 0)]) (E' := [(0, .v 0 (.slice .bool) p0), (3, .v 9 (.slice (.int .i64)) (x2 ++ [x3])), (4, .v 0 (.int .i64) x3)]) (obs := [((x2.length + [x3].length : Nat) : Int) ≤ limA]) (by kernel_rfl) (o1) ?_
          refine W_gen (x := x2 ++ [x3]) (En := fun x6 => [(0, .v 0 (.slice .bool) p0), (3, .v 9 (.slice (.int .i64)) x6), (4, .v 0 (.int .i64) x3)]) h (fun x6 h => ?_)
          refine W_keep (l := [(0, 0), (3, 9), (4, 0)]) (E' := [(0, .v 0 (.slice .bool) p0), (3, .v 9 (.slice (.int .i64)) x6), (4, .v 0 (.int .i64) x3)]) (by kernel_rfl) ?_
          exact j2 x6 h
        · rw [hb] at h; rw [cond_false] at h
          refine W_skip ?_
          refine W_keep (l := [(0, 0), (3, 9), (4, 0)]) (E' := [(0, .v 0 (.slice .bool) p0), (3, .v 9 (.slice (.int .i64)) x2), (4, .v 0 (.int .i64) x3)]) (by kernel_rfl) ?_
          exact j2 x2 h
    · rw [hb] at h; rw [cond_false] at h
      refine W_exit rfl ?_
      refine W_keep (l := [(3, 9)]) (E' := [(3, .v 9 (.slice (.int .i64)) x2)]) (by kernel_rfl) ?_
      exact j1 x2 h.back

noncomputable def fund_Outside_c1 (p0 : Int) (c0 : D_api_State) (c1 : Int) : Option Bool :=
  ass (0 ≤ p0 ∧ p0 < (c0.2.1.length : Int)) <|
  ass ((!((rd z_api_Ticket c0.2.1 p0).2.1 == c1)) = true → 0 ≤ p0 ∧ p0 < (c0.2.1.length : Int)) <|
  (bif !((rd z_api_Ticket c0.2.1 p0).2.1 == c1) then fund_Funds c0 c1 (rd z_api_Ticket c0.2.1 p0).2.1 else some false).bind fun y1 =>
  bnd (((rd z_api_Ticket c0.2.1 p0).2.1 == c1) || y1) fun x2 =>
  some x2
theorem fund_Outside_c1.ok {p0 : Int} {c0 : D_api_State} {c1 : Int} {r : Bool} (h : fund_Outside_c1 p0 c0 c1 = some r) : ACall prog 110 [⟨.int .i64, p0⟩, ⟨.cptr T_api_State, c0⟩, ⟨.cptr (.int .i64), c1⟩] [⟨0, .bool, r⟩] := by
  replace h := Leads.of h
  unfold fund_Outside_c1 at h
  refine acall_of func110 (by kernel_rfl) rfl (by kernel_rfl) fun w0 F0 => ?_
  refine W_seq ?_
  refine W_region mixed tys_ok (sup := []) (l := [(0, 0), (1, 0), (2, 0)]) (E' := [(0, .v 0 (.int .i64) p0), (1, .v 0 (.cptr T_api_State) c0), (2, .v 0 (.cptr (.int .i64)) c1)]) (obs := []) (by kernel_rfl) (trivial) ?_
  refine W_seq ?_
  obtain ⟨o1, h⟩ := h.ass
  obtain ⟨o2, h⟩ := h.ass
  obtain ⟨y1, ey1, h⟩ := h.bind
  refine W_region mixed tys_ok (sup := [.res [(0, ⟨0, .bool, y1⟩)]]) (l := [(4, 0)]) (E' := [(4, .v 0 .bool (((rd z_api_Ticket c0.2.1 p0).2.1 == c1) || y1))]) (obs := [0 ≤ p0 ∧ p0 < (c0.2.1.length : Int), (!((rd z_api_Ticket c0.2.1 p0).2.1 == c1)) = true → 0 ≤ p0 ∧ p0 < (c0.2.1.length : Int), (!((rd z_api_Ticket c0.2.1 p0).2.1 == c1)) = true → ACall prog 58 [⟨T_api_State, c0⟩, ⟨.int .i64, c1⟩, ⟨.int .i64, (rd z_api_Ticket c0.2.1 p0).2.1⟩] [⟨0, .bool, y1⟩]]) (by kernel_rfl) (⟨o1, o2, fun hc => fund_Funds.ok (bif_some ey1 hc)⟩) ?_
  refine W_gen (x := ((rd z_api_Ticket c0.2.1 p0).2.1 == c1) || y1) (En := fun x2 => [(4, .v 0 .bool x2)]) h (fun x2 h => ?_)
  refine W_keep (l := [(4, 0)]) (E' := [(4, .v 0 .bool x2)]) (by kernel_rfl) ?_
  replace h : x2 = r := h
  subst h
  exact W_ret tys_ok (by kernel_rfl) (by kernel_rfl)

noncomputable def fund_Outside_j1 (x1 : List Int) : Option (List Int) :=
  some x1
noncomputable def fund_Outside_j2 (x3 : Int) (x7 : List Int) : Option (((List Int) × Int) ⊕ (List Int)) :=
  bnd (IntKind.i64.wrap (x3 + (1 : Int))) fun x8 =>
  some (.inl (x7, x8))
noncomputable def fund_Outside_b1 (p0 : D_api_State) (p1 : Int) (x2 : List Int) (x3 : Int) : Option (((List Int) × Int) ⊕ (List Int)) :=
  bif decide (x3 < (p0.2.2.1.length : Int)) then
    ass (0 ≤ x3 ∧ x3 < (p0.2.2.1.length : Int)) <|
    bnd (rd z_api_Thread p0.2.2.1 x3) fun x4 =>
    (bif x4.1 != (0 : Int) then fund_Of p0 x3 else some ([] : List Int)).bind fun y5 =>
    (bif x4.1 != (0 : Int) then slices_ContainsFunc_int_int y5 (fun x => fund_Outside_c1 x p0 p1) else some false).bind fun y6 =>
    bif (x4.1 != (0 : Int)) && (!y6) then
      ass (((x2.length + [x3].length : Nat) : Int) ≤ limA) <|
      bnd (x2 ++ [x3]) fun x9 =>
      fund_Outside_j2 x3 x9
    else
      fund_Outside_j2 x3 x2
  else
    (fund_Outside_j1 x2).map .inr
noncomputable def fund_Outside (p0 : D_api_State) (p1 : Int) : Option (List Int) :=
  loopM (fun x : (List Int) × Int => fund_Outside_b1 p0 p1 x.1 x.2) (([] : List Int), (0 : Int))
theorem fund_Outside.ok {p0 : D_api_State} {p1 : Int} {r : List Int} (h : fund_Outside p0 p1 = some r) : ACall prog 65 [⟨T_api_State, p0⟩, ⟨.int .i64, p1⟩] [⟨9, .slice (.int .i64), r⟩] := by
  replace h := Leads.of h
  unfold fund_Outside at h
  refine acall_of func65 (by kernel_rfl) rfl (by kernel_rfl) fun w0 F0 => ?_
  refine W_seq ?_
  refine W_region mixed tys_ok (sup := []) (l := [(2, 0), (3, 9), (4, 9)]) (E' := [(2, .box 0 T_api_State p0), (3, .box 9 (.int .i64) p1), (4, .v 9 (.slice (.int .i64)) ([] : List Int))]) (obs := []) (by kernel_rfl) (trivial) ?_
  refine W_seq ?_
  refine W_seq ?_
  refine W_region mixed tys_ok (sup := []) (l := [(2, 0), (3, 9), (4, 9), (8, 0), (9, 0), (10, 0)]) (E' := [(2, .box 0 T_api_State p0), (3, .box 9 (.int .i64) p1), (4, .v 9 (.slice (.int .i64)) ([] : List Int)), (8, .v 0 (.slice T_api_Thread) p0.2.2.1), (9, .v 0 (.int .i64) (p0.2.2.1.length : Int)), (10, .v 0 (.int .i64) (0 : Int))]) (obs := []) (by kernel_rfl) (trivial) ?_
  refine W_join h (Ej := fun (x : List Int) => [(4, .v 9 (.slice (.int .i64)) x)]) (p := fun x => fund_Outside_j1 x) ?_ ?_
  · rintro x1 h
    replace h : Leads _ (fund_Outside_j1 x1) := h
    unfold fund_Outside_j1 at h
    show W _ _ _ _ _ _ [(4, .v 9 (.slice (.int .i64)) x1)]
    refine W_seq ?_
    refine W_region mixed tys_ok (sup := []) (l := [(4, 9)]) (E' := [(4, .v 9 (.slice (.int .i64)) x1)]) (obs := []) (by kernel_rfl) (trivial) ?_
    refine W_keep (l := [(4, 9)]) (E' := [(4, .v 9 (.slice (.int .i64)) x1)]) (by kernel_rfl) ?_
    replace h : x1 = r := h
    subst h
    exact W_ret tys_ok (by kernel_rfl) (by kernel_rfl)
  · intro j1
    refine W_block ?_
    refine W_keep (l := [(2, 0), (3, 9), (4, 9), (8, 0), (9, 0), (10, 0)]) (E' := [(2, .box 0 T_api_State p0), (3, .box 9 (.int .i64) p1), (4, .v 9 (.slice (.int .i64)) ([] : List Int)), (8, .v 0 (.slice T_api_Thread) p0.2.2.1), (9, .v 0 (.int .i64) (p0.2.2.1.length : Int)), (10, .v 0 (.int .i64) (0 : Int))]) (by kernel_rfl) ?_
    refine W_loop' (En := fun (x : (List Int) × Int) => [(2, .box 0 T_api_State p0), (3, .box 9 (.int .i64) p1), (4, .v 9 (.slice (.int .i64)) x.1), (8, .v 0 (.slice T_api_Thread) p0.2.2.1), (9, .v 0 (.int .i64) (p0.2.2.1.length : Int)), (10, .v 0 (.int .i64) x.2)]) (x := (([] : List Int), (0 : Int))) h ?_
    rintro ⟨x2, x3⟩ K h
    replace h : Leads _ (fund_Outside_b1 p0 p1 x2 x3) := h
    unfold fund_Outside_b1 at h
    show W _ _ _ _ _ _ [(2, .box 0 T_api_State p0), (3, .box 9 (.int .i64) p1), (4, .v 9 (.slice (.int .i64)) x2), (8, .v 0 (.slice T_api_Thread) p0.2.2.1), (9, .v 0 (.int .i64) (p0.2.2.1.length : Int)), (10, .v 0 (.int .i64) x3)]
    refine W_seq ?_
    refine W_region mixed tys_ok (sup := []) (l := [(2, 0), (3, 9), (4, 9), (8, 0), (9, 0), (10, 0), (11, 0)]) (E' := [(2, .box 0 T_api_State p0), (3, .box 9 (.int .i64) p1), (4, .v 9 (.slice (.int .i64)) x2), (8, .v 0 (.slice T_api_Thread) p0.2.2.1), (9, .v 0 (.int .i64) (p0.2.2.1.length : Int)), (10, .v 0 (.int .i64) x3), (11, .v 0 .bool (decide (x3 < (p0.2.2.1.length : Int))))]) (obs := []) (by kernel_rfl) (trivial) ?_
    refine W_seq ?_
    refine W_cond (β := decide (x3 < (p0.2.2.1.length : Int))) (by kernel_rfl) (fun hb => ?_) (fun hb => ?_)
    · rw [hb] at h; rw [cond_true] at h
      refine W_skip ?_
      refine W_seq ?_
      refine W_block ?_
      refine W_seq ?_
      obtain ⟨o1, h⟩ := h.ass
      refine W_region mixed tys_ok (sup := []) (l := [(2, 0), (3, 9), (4, 9), (5, 0), (6, 9), (8, 0), (9, 0), (10, 0)]) (E' := [(2, .box 0 T_api_State p0), (3, .box 9 (.int .i64) p1), (4, .v 9 (.slice (.int .i64)) x2), (5, .v 0 (.int .i64) x3), (6, .box 9 T_api_Thread (rd z_api_Thread p0.2.2.1 x3)), (8, .v 0 (.slice T_api_Thread) p0.2.2.1), (9, .v 0 (.int .i64) (p0.2.2.1.length : Int)), (10, .v 0 (.int .i64) x3)]) (obs := [0 ≤ x3 ∧ x3 < (p0.2.2.1.length : Int)]) (by kernel_rfl) (o1) ?_
      refine W_gen (x := rd z_api_Thread p0.2.2.1 x3) (En := fun x4 => [(2, .box 0 T_api_State p0), (3, .box 9 (.int .i64) p1), (4, .v 9 (.slice (.int .i64)) x2), (5, .v 0 (.int .i64) x3), (6, .box 9 T_api_Thread x4), (8, .v 0 (.slice T_api_Thread) p0.2.2.1), (9, .v 0 (.int .i64) (p0.2.2.1.length : Int)), (10, .v 0 (.int .i64) x3)]) h (fun x4 h => ?_)
      refine W_seq ?_
      obtain ⟨y5, ey5, h⟩ := h.bind
      obtain ⟨y6, ey6, h⟩ := h.bind
      refine W_region mixed tys_ok (sup := [.res [(0, ⟨9, .slice (.int .i64), y5⟩)], .fn (.int .i64) .bool (fun x => fund_Outside_c1 x p0 p1), .res [(0, ⟨0, .bool, y6⟩)]]) (l := [(2, 0), (3, 9), (4, 9), (5, 0), (8, 0), (9, 0), (10, 0), (25, 0)]) (E' := [(2, .box 0 T_api_State p0), (3, .box 9 (.int .i64) p1), (4, .v 9 (.slice (.int .i64)) x2), (5, .v 0 (.int .i64) x3), (8, .v 0 (.slice T_api_Thread) p0.2.2.1), (9, .v 0 (.int .i64) (p0.2.2.1.length : Int)), (10, .v 0 (.int .i64) x3), (25, .v 0 .bool ((x4.1 != (0 : Int)) && (!y6)))]) (obs := [(x4.1 != (0 : Int)) = true → ACall prog 62 [⟨T_api_State, p0⟩, ⟨.int .i64, x3⟩] [⟨9, .slice (.int .i64), y5⟩], (x4.1 != (0 : Int)) = true → ∀ x y, (fun x => fund_Outside_c1 x p0 p1) x = some y → ACall prog 110 (unprod (.int .i64) x ++ [⟨.cptr T_api_State, p0⟩, ⟨.cptr (.int .i64), p1⟩]) [⟨9, .bool, y⟩], (x4.1 != (0 : Int)) = true → ACall prog 108 [⟨.slice (.int .i64), y5⟩, ⟨.fn (.int .i64) .bool, fun x => fund_Outside_c1 x p0 p1⟩] [⟨0, .bool, y6⟩]]) (by kernel_rfl) (⟨fun hc => fund_Of.ok (bif_some ey5 hc), fun _ => fun x y e => ACall.flat rfl (fund_Outside_c1.ok e), fun hc => slices_ContainsFunc_int_int.ok (bif_some ey6 hc)⟩) ?_
      refine W_join h (Ej := fun (x : List Int) => [(2, .box 0 T_api_State p0), (3, .box 9 (.int .i64) p1), (4, .v 9 (.slice (.int .i64)) x), (8, .v 0 (.slice T_api_Thread) p0.2.2.1), (9, .v 0 (.int .i64) (p0.2.2.1.length : Int)), (10, .v 0 (.int .i64) x3)]) (p := fun x => fund_Outside_j2 x3 x) ?_ ?_
      · rintro x7 h
        replace h : Leads _ (fund_Outside_j2 x3 x7) := h
        unfold fund_Outside_j2 at h
        show W _ _ _ _ _ _ [(2, .box 0 T_api_State p0), (3, .box 9 (.int .i64) p1), (4, .v 9 (.slice (.int .i64)) x7), (8, .v 0 (.slice T_api_Thread) p0.2.2.1), (9, .v 0 (.int .i64) (p0.2.2.1.length : Int)), (10, .v 0 (.int .i64) x3)]
        refine W_blk ?_
        refine W_region mixed tys_ok (sup := []) (l := [(2, 0), (3, 9), (4, 9), (8, 0), (9, 0), (10, 0)]) (E' := [(2, .box 0 T_api_State p0), (3, .box 9 (.int .i64) p1), (4, .v 9 (.slice (.int .i64)) x7), (8, .v 0 (.slice T_api_Thread) p0.2.2.1), (9, .v 0 (.int .i64) (p0.2.2.1.length : Int)), (10, .v 0 (.int .i64) (IntKind.i64.wrap (x3 + (1 : Int))))]) (obs := []) (by kernel_rfl) (trivial) ?_
        refine W_gen (x := IntKind.i64.wrap (x3 + (1 : Int))) (En := fun x8 => [(2, .box 0 T_api_State p0), (3, .box 9 (.int .i64) p1), (4, .v 9 (.slice (.int .i64)) x7), (8, .v 0 (.slice T_api_Thread) p0.2.2.1), (9, .v 0 (.int .i64) (p0.2.2.1.length : Int)), (10, .v 0 (.int .i64) x8)]) h (fun x8 h => ?_)
        refine W_keep (l := [(2, 0), (3, 9), (4, 9), (8, 0), (9, 0), (10, 0)]) (E' := [(2, .box 0 T_api_State p0), (3, .box 9 (.int .i64) p1), (4, .v 9 (.slice (.int .i64)) x7), (8, .v 0 (.slice T_api_Thread) p0.2.2.1), (9, .v 0 (.int .i64) (p0.2.2.1.length : Int)), (10, .v 0 (.int .i64) x8)]) (by kernel_rfl) ?_
        exact W_abs h
      · intro j2
        refine W_cond (β := (x4.1 != (0 : Int)) && (!y6)) (by kernel_rfl) (fun hb => ?_) (fun hb => ?_)
        · rw [hb] at h; rw [cond_true] at h
          obtain ⟨o1, h⟩ := h.ass
          refine W_region mixed tys_ok (sup := []) (l := [(2, 0), (3, 9), (4, 9), (8, 0), (9, 0), (10, 0)]) (E' := [(2, .box 0 T_api_State p0), (3, .box 9 (.int .i64) p1), (4, .v 9 (.slice (.int .i64)) (x2 ++ [x3])), (8, .v 0 (.slice T_api_Thread) p0.2.2.1), (9, .v 0 (.int .i64) (p0.2.2.1.length : Int)), (10, .v 0 (.int .i64) x3)]) (obs := [((x2.length + [x3].length : Nat) : Int) ≤ limA]) (by kernel_rfl) (o1) ?_
          refine W_gen (x := x2 ++ [x3]) (En := fun x9 => [(2, .box 0 T_api_State p0), (3, .box 9 (.int .i64) p1), (4, .v 9 (.slice (.int .i64)) x9), (8, .v 0 (.slice T_api_Thread) p0.2.2.1), (9, .v 0 (.int .i64) (p0.2.2.1.length : Int)), (10, .v 0 (.int .i64) x3)]) h (fun x9 h => ?_)
          refine W_keep (l := [(2, 0), (3, 9), (4, 9), (8, 0), (9, 0), (10, 0)]) (E' := [(2, .box 0 T_api_State p0), (3, .box 9 (.int .i64) p1), (4, .v 9 (.slice (.int .i64)) x9), (8, .v 0 (.slice T_api_Thread) p0.2.2.1), (9, .v 0 (.int .i64) (p0.2.2.1.length : Int)), (10, .v 0 (.int .i64) x3)]) (by kernel_rfl) ?_
          exact j2 x9 h
        · rw [hb] at h; rw [cond_false] at h
          refine W_skip ?_
          refine W_keep (l := [(2, 0), (3, 9), (4, 9), (8, 0), (9, 0), (10, 0)]) (E' := [(2, .box 0 T_api_State p0), (3, .box 9 (.int .i64) p1), (4, .v 9 (.slice (.int .i64)) x2), (8, .v 0 (.slice T_api_Thread) p0.2.2.1), (9, .v 0 (.int .i64) (p0.2.2.1.length : Int)), (10, .v 0 (.int .i64) x3)]) (by kernel_rfl) ?_
          exact j2 x2 h
    · rw [hb] at h; rw [cond_false] at h
      refine W_exit rfl ?_
      refine W_keep (l := [(4, 9)]) (E' := [(4, .v 9 (.slice (.int .i64)) x2)]) (by kernel_rfl) ?_
      exact j1 x2 h.back

noncomputable def r15_Outside_j1 (x1 : List Int) : Option (List Int) :=
  some x1
noncomputable def r15_Outside_j2 (x3 : Int) (x4 : List Int) : Option (((List Int) × Int) ⊕ (List Int)) :=
  bnd (IntKind.i64.wrap (x3 + (1 : Int))) fun x5 =>
  some (.inl (x4, x5))
noncomputable def r15_Outside_j4 (x3 : Int) (x9 : List Int) : Option (((List Int) × Int) ⊕ (List Int)) :=
  r15_Outside_j2 x3 x9
noncomputable def r15_Outside_j3 (x2 : List Int) (x3 : Int) (x8 : Bool) : Option (((List Int) × Int) ⊕ (List Int)) :=
  bif x8 then
    ass (((x2.length + [x3].length : Nat) : Int) ≤ limA) <|
    bnd (x2 ++ [x3]) fun x10 =>
    r15_Outside_j4 x3 x10
  else
    r15_Outside_j4 x3 x2
noncomputable def r15_Outside_b2 (p0 : D_api_State) (p1 : Int) (x2 : List Int) (x3 : Int) (y6 : List Int) (x11 : Bool) (x12 : Int) : Option ((Bool × Int) ⊕ (((List Int) × Int) ⊕ (List Int))) :=
  bif decide (x12 < (y6.length : Int)) then
    ass (0 ≤ x12 ∧ x12 < (y6.length : Int)) <|
    ass (0 ≤ rd (0 : Int) y6 x12 ∧ rd (0 : Int) y6 x12 < (p0.2.1.length : Int)) <|
    bnd ((rd z_api_Ticket p0.2.1 (rd (0 : Int) y6 x12)).2.1) fun x13 =>
    (bif x11 && (x13 != p1) then r15_Funds p0 p1 x13 else some false).bind fun y14 =>
    bnd ((x11 && (x13 != p1)) && (!y14)) fun x15 =>
    bnd (IntKind.i64.wrap (x12 + (1 : Int))) fun x16 =>
    some (.inl (x15, x16))
  else
    (r15_Outside_j3 x2 x3 x11).map .inr
noncomputable def r15_Outside_b1 (p0 : D_api_State) (p1 : Int) (x2 : List Int) (x3 : Int) : Option (((List Int) × Int) ⊕ (List Int)) :=
  bif decide (x3 < (p0.2.2.1.length : Int)) then
    (r15_Tickets p0 (2 : Int) x3).bind fun y6 =>
    ass (0 ≤ x3 ∧ x3 < (p0.2.2.1.length : Int)) <|
    bnd ((rd z_api_Thread p0.2.2.1 x3).1 != (0 : Int)) fun x7 =>
    loopM (fun x : Bool × Int => r15_Outside_b2 p0 p1 x2 x3 y6 x.1 x.2) (x7, (0 : Int))
  else
    (r15_Outside_j1 x2).map .inr
noncomputable def r15_Outside (p0 : D_api_State) (p1 : Int) : Option (List Int) :=
  loopM (fun x : (List Int) × Int => r15_Outside_b1 p0 p1 x.1 x.2) (([] : List Int), (0 : Int))
theorem r15_Outside.ok {p0 : D_api_State} {p1 : Int} {r : List Int} (h : r15_Outside p0 p1 = some r) : ACall prog 66 [⟨T_api_State, p0⟩, ⟨.int .i64, p1⟩] [⟨9, .slice (.int .i64), r⟩] := by
  replace h := Leads.of h
  unfold r15_Outside at h
  refine acall_of func66 (by kernel_rfl) rfl (by kernel_rfl) fun w0 F0 => ?_
  refine W_seq ?_
  refine W_region mixed tys_ok (sup := []) (l := [(1, 0), (2, 0)]) (E' := [(1, .v 0 (.int .i64) p1), (2, .box 0 T_api_State p0)]) (obs := []) (by kernel_rfl) (trivial) ?_
  refine W_seq ?_
  refine W_region mixed tys_ok (sup := []) (l := [(1, 0), (2, 0), (5, 9)]) (E' := [(1, .v 0 (.int .i64) p1), (2, .box 0 T_api_State p0), (5, .v 9 (.slice (.int .i64)) ([] : List Int))]) (obs := []) (by kernel_rfl) (trivial) ?_
  refine W_seq ?_
  refine W_seq ?_
  refine W_region mixed tys_ok (sup := []) (l := [(1, 0), (2, 0), (5, 9), (6, 0)]) (E' := [(1, .v 0 (.int .i64) p1), (2, .box 0 T_api_State p0), (5, .v 9 (.slice (.int .i64)) ([] : List Int)), (6, .v 0 (.int .i64) (0 : Int))]) (obs := []) (by kernel_rfl) (trivial) ?_
  refine W_join h (Ej := fun (x : List Int) => [(5, .v 9 (.slice (.int .i64)) x)]) (p := fun x => r15_Outside_j1 x) ?_ ?_
  · rintro x1 h
    replace h : Leads _ (r15_Outside_j1 x1) := h
    unfold r15_Outside_j1 at h
    show W _ _ _ _ _ _ [(5, .v 9 (.slice (.int .i64)) x1)]
    refine W_seq ?_
    refine W_region mixed tys_ok (sup := []) (l := [(4, 9)]) (E' := [(4, .v 9 (.slice (.int .i64)) x1)]) (obs := []) (by kernel_rfl) (trivial) ?_
    refine W_keep (l := [(4, 9)]) (E' := [(4, .v 9 (.slice (.int .i64)) x1)]) (by kernel_rfl) ?_
    replace h : x1 = r := h
    subst h
    exact W_ret tys_ok (by kernel_rfl) (by kernel_rfl)
  · intro j1
    refine W_block ?_
    refine W_keep (l := [(1, 0), (2, 0), (5, 9), (6, 0)]) (E' := [(1, .v 0 (.int .i64) p1), (2, .box 0 T_api_State p0), (5, .v 9 (.slice (.int .i64)) ([] : List Int)), (6, .v 0 (.int .i64) (0 : Int))]) (by kernel_rfl) ?_
    refine W_loop' (En := fun (x : (List Int) × Int) => [(1, .v 0 (.int .i64) p1), (2, .box 0 T_api_State p0), (5, .v 9 (.slice (.int .i64)) x.1), (6, .v 0 (.int .i64) x.2)]) (x := (([] : List Int), (0 : Int))) h ?_
    rintro ⟨x2, x3⟩ K h
    replace h : Leads _ (r15_Outside_b1 p0 p1 x2 x3) := h
    unfold r15_Outside_b1 at h
    show W _ _ _ _ _ _ [(1, .v 0 (.int .i64) p1), (2, .box 0 T_api_State p0), (5, .v 9 (.slice (.int .i64)) x2), (6, .v 0 (.int .i64) x3)]
    refine W_seq ?_
    refine W_seq ?_
    refine W_region mixed tys_ok (sup := []) (l := [(1, 0), (2, 0), (5, 9), (6, 0), (15, 0)]) (E' := [(1, .v 0 (.int .i64) p1), (2, .box 0 T_api_State p0), (5, .v 9 (.slice (.int .i64)) x2), (6, .v 0 (.int .i64) x3), (15, .v 0 .bool (decide (x3 < (p0.2.2.1.length : Int))))]) (obs := []) (by kernel_rfl) (trivial) ?_
    refine W_cond (β := decide (x3 < (p0.2.2.1.length : Int))) (by kernel_rfl) (fun hb => ?_) (fun hb => ?_)
    · rw [hb] at h; rw [cond_true] at h
      refine W_skip ?_
      refine W_seq ?_
      refine W_join h (Ej := fun (x : List Int) => [(1, .v 0 (.int .i64) p1), (2, .box 0 T_api_State p0), (5, .v 9 (.slice (.int .i64)) x), (6, .v 0 (.int .i64) x3)]) (p := fun x => r15_Outside_j2 x3 x) ?_ ?_
      · rintro x4 h
        replace h : Leads _ (r15_Outside_j2 x3 x4) := h
        unfold r15_Outside_j2 at h
        show W _ _ _ _ _ _ [(1, .v 0 (.int .i64) p1), (2, .box 0 T_api_State p0), (5, .v 9 (.slice (.int .i64)) x4), (6, .v 0 (.int .i64) x3)]
        refine W_region mixed tys_ok (sup := []) (l := [(1, 0), (2, 0), (5, 9), (6, 0)]) (E' := [(1, .v 0 (.int .i64) p1), (2, .box 0 T_api_State p0), (5, .v 9 (.slice (.int .i64)) x4), (6, .v 0 (.int .i64) (IntKind.i64.wrap (x3 + (1 : Int))))]) (obs := []) (by kernel_rfl) (trivial) ?_
        refine W_gen (x := IntKind.i64.wrap (x3 + (1 : Int))) (En := fun x5 => [(1, .v 0 (.int .i64) p1), (2, .box 0 T_api_State p0), (5, .v 9 (.slice (.int .i64)) x4), (6, .v 0 (.int .i64) x5)]) h (fun x5 h => ?_)
        refine W_keep (l := [(1, 0), (2, 0), (5, 9), (6, 0)]) (E' := [(1, .v 0 (.int .i64) p1), (2, .box 0 T_api_State p0), (5, .v 9 (.slice (.int .i64)) x4), (6, .v 0 (.int .i64) x5)]) (by kernel_rfl) ?_
        exact W_abs h
      · intro j2
        refine W_block ?_
        refine W_seq ?_
        obtain ⟨y6, ey6, h⟩ := h.bind
        refine W_region mixed tys_ok (sup := [.res [(9, ⟨9, .slice (.int .i64), y6⟩)]]) (l := [(1, 0), (2, 0), (5, 9), (6, 0), (7, 9)]) (E' := [(1, .v 0 (.int .i64) p1), (2, .box 0 T_api_State p0), (5, .v 9 (.slice (.int .i64)) x2), (6, .v 0 (.int .i64) x3), (7, .v 9 (.slice (.int .i64)) y6)]) (obs := [ACall prog 60 [⟨T_api_State, p0⟩, ⟨.int .i64, (2 : Int)⟩, ⟨.int .i64, x3⟩] [⟨9, .slice (.int .i64), y6⟩]]) (by kernel_rfl) (r15_Tickets.ok ey6) ?_
        refine W_seq ?_
        obtain ⟨o1, h⟩ := h.ass
        refine W_region mixed tys_ok (sup := []) (l := [(1, 0), (2, 0), (5, 9), (6, 0), (7, 9), (8, 0)]) (E' := [(1, .v 0 (.int .i64) p1), (2, .box 0 T_api_State p0), (5, .v 9 (.slice (.int .i64)) x2), (6, .v 0 (.int .i64) x3), (7, .v 9 (.slice (.int .i64)) y6), (8, .v 0 .bool ((rd z_api_Thread p0.2.2.1 x3).1 != (0 : Int)))]) (obs := [0 ≤ x3 ∧ x3 < (p0.2.2.1.length : Int)]) (by kernel_rfl) (o1) ?_
        refine W_gen (x := (rd z_api_Thread p0.2.2.1 x3).1 != (0 : Int)) (En := fun x7 => [(1, .v 0 (.int .i64) p1), (2, .box 0 T_api_State p0), (5, .v 9 (.slice (.int .i64)) x2), (6, .v 0 (.int .i64) x3), (7, .v 9 (.slice (.int .i64)) y6), (8, .v 0 .bool x7)]) h (fun x7 h => ?_)
        refine W_seq ?_
        refine W_seq ?_
        refine W_region mixed tys_ok (sup := []) (l := [(1, 0), (2, 0), (5, 9), (6, 0), (7, 9), (8, 0), (9, 0)]) (E' := [(1, .v 0 (.int .i64) p1), (2, .box 0 T_api_State p0), (5, .v 9 (.slice (.int .i64)) x2), (6, .v 0 (.int .i64) x3), (7, .v 9 (.slice (.int .i64)) y6), (8, .v 0 .bool x7), (9, .v 0 (.int .i64) (0 : Int))]) (obs := []) (by kernel_rfl) (trivial) ?_
        refine W_join h (Ej := fun (x : Bool) => [(1, .v 0 (.int .i64) p1), (2, .box 0 T_api_State p0), (5, .v 9 (.slice (.int .i64)) x2), (6, .v 0 (.int .i64) x3), (8, .v 0 .bool x)]) (p := fun x => r15_Outside_j3 x2 x3 x) ?_ ?_
        · rintro x8 h
          replace h : Leads _ (r15_Outside_j3 x2 x3 x8) := h
          unfold r15_Outside_j3 at h
          show W _ _ _ _ _ _ [(1, .v 0 (.int .i64) p1), (2, .box 0 T_api_State p0), (5, .v 9 (.slice (.int .i64)) x2), (6, .v 0 (.int .i64) x3), (8, .v 0 .bool x8)]
          refine W_seq ?_
          refine W_region mixed tys_ok (sup := []) (l := [(1, 0), (2, 0), (5, 9), (6, 0), (56, 0)]) (E' := [(1, .v 0 (.int .i64) p1), (2, .box 0 T_api_State p0), (5, .v 9 (.slice (.int .i64)) x2), (6, .v 0 (.int .i64) x3), (56, .v 0 .bool x8)]) (obs := []) (by kernel_rfl) (trivial) ?_
          refine W_join h (Ej := fun (x : List Int) => [(1, .v 0 (.int .i64) p1), (2, .box 0 T_api_State p0), (5, .v 9 (.slice (.int .i64)) x), (6, .v 0 (.int .i64) x3)]) (p := fun x => r15_Outside_j4 x3 x) ?_ ?_
          · rintro x9 h
            replace h : Leads _ (r15_Outside_j4 x3 x9) := h
            unfold r15_Outside_j4 at h
            show W _ _ _ _ _ _ [(1, .v 0 (.int .i64) p1), (2, .box 0 T_api_State p0), (5, .v 9 (.slice (.int .i64)) x9), (6, .v 0 (.int .i64) x3)]
            refine W_blk ?_
            refine W_keep (l := [(1, 0), (2, 0), (5, 9), (6, 0)]) (E' := [(1, .v 0 (.int .i64) p1), (2, .box 0 T_api_State p0), (5, .v 9 (.slice (.int .i64)) x9), (6, .v 0 (.int .i64) x3)]) (by kernel_rfl) ?_
            exact j2 x9 h
          · intro j4
            refine W_cond (β := x8) (by kernel_rfl) (fun hb => ?_) (fun hb => ?_)
            · rw [cond_tt hb] at h
              obtain ⟨o1, h⟩ := h.ass
              refine W_region mixed tys_ok (sup := []) (l := [(1, 0), (2, 0), (5, 9), (6, 0)]) (E' := [(1, .v 0 (.int .i64) p1), (2, .box 0 T_api_State p0), (5, .v 9 (.slice (.int .i64)) (x2 ++ [x3])), (6, .v 0 (.int .i64) x3)]) (obs := [((x2.length + [x3].length : Nat) : Int) ≤ limA]) (by kernel_rfl) (o1) ?_
              refine W_gen (x := x2 ++ [x3]) (En := fun x10 => [(1, .v 0 (.int .i64) p1), (2, .box 0 T_api_State p0), (5, .v 9 (.slice (.int .i64)) x10), (6, .v 0 (.int .i64) x3)]) h (fun x10 h => ?_)
              refine W_keep (l := [(1, 0), (2, 0), (5, 9), (6, 0)]) (E' := [(1, .v 0 (.int .i64) p1), (2, .box 0 T_api_State p0), (5, .v 9 (.slice (.int .i64)) x10), (6, .v 0 (.int .i64) x3)]) (by kernel_rfl) ?_
              exact j4 x10 h
            · rw [cond_ff hb] at h
              refine W_skip ?_
              refine W_keep (l := [(1, 0), (2, 0), (5, 9), (6, 0)]) (E' := [(1, .v 0 (.int .i64) p1), (2, .box 0 T_api_State p0), (5, .v 9 (.slice (.int .i64)) x2), (6, .v 0 (.int .i64) x3)]) (by kernel_rfl) ?_
              exact j4 x2 h
        · intro j3
          refine W_block ?_
          refine W_keep (l := [(1, 0), (2, 0), (5, 9), (6, 0), (7, 9), (8, 0), (9, 0)]) (E' := [(1, .v 0 (.int .i64) p1), (2, .box 0 T_api_State p0), (5, .v 9 (.slice (.int .i64)) x2), (6, .v 0 (.int .i64) x3), (7, .v 9 (.slice (.int .i64)) y6), (8, .v 0 .bool x7), (9, .v 0 (.int .i64) (0 : Int))]) (by kernel_rfl) ?_
          refine W_loop' (En := fun (x : Bool × Int) => [(1, .v 0 (.int .i64) p1), (2, .box 0 T_api_State p0), (5, .v 9 (.slice (.int .i64)) x2), (6, .v 0 (.int .i64) x3), (7, .v 9 (.slice (.int .i64)) y6), (8, .v 0 .bool x.1), (9, .v 0 (.int .i64) x.2)]) (x := (x7, (0 : Int))) h ?_
          rintro ⟨x11, x12⟩ K h
          replace h : Leads _ (r15_Outside_b2 p0 p1 x2 x3 y6 x11 x12) := h
          unfold r15_Outside_b2 at h
          show W _ _ _ _ _ _ [(1, .v 0 (.int .i64) p1), (2, .box 0 T_api_State p0), (5, .v 9 (.slice (.int .i64)) x2), (6, .v 0 (.int .i64) x3), (7, .v 9 (.slice (.int .i64)) y6), (8, .v 0 .bool x11), (9, .v 0 (.int .i64) x12)]
          refine W_seq ?_
          refine W_seq ?_
          refine W_region mixed tys_ok (sup := []) (l := [(1, 0), (2, 0), (5, 9), (6, 0), (7, 9), (8, 0), (9, 0), (31, 0)]) (E' := [(1, .v 0 (.int .i64) p1), (2, .box 0 T_api_State p0), (5, .v 9 (.slice (.int .i64)) x2), (6, .v 0 (.int .i64) x3), (7, .v 9 (.slice (.int .i64)) y6), (8, .v 0 .bool x11), (9, .v 0 (.int .i64) x12), (31, .v 0 .bool (decide (x12 < (y6.length : Int))))]) (obs := []) (by kernel_rfl) (trivial) ?_
          refine W_cond (β := decide (x12 < (y6.length : Int))) (by kernel_rfl) (fun hb => ?_) (fun hb => ?_)
          · rw [hb] at h; rw [cond_true] at h
            refine W_skip ?_
            refine W_seq ?_
            refine W_block ?_
            refine W_seq ?_
            obtain ⟨o1, h⟩ := h.ass
            obtain ⟨o2, h⟩ := h.ass
            refine W_region mixed tys_ok (sup := []) (l := [(1, 0), (2, 0), (5, 9), (6, 0), (7, 9), (8, 0), (9, 0), (10, 0)]) (E' := [(1, .v 0 (.int .i64) p1), (2, .box 0 T_api_State p0), (5, .v 9 (.slice (.int .i64)) x2), (6, .v 0 (.int .i64) x3), (7, .v 9 (.slice (.int .i64)) y6), (8, .v 0 .bool x11), (9, .v 0 (.int .i64) x12), (10, .v 0 (.int .i64) (rd z_api_Ticket p0.2.1 (rd (0 : Int) y6 x12)).2.1)]) (obs := [0 ≤ x12 ∧ x12 < (y6.length : Int), 0 ≤ rd (0 : Int) y6 x12 ∧ rd (0 : Int) y6 x12 < (p0.2.1.length : Int)]) (by kernel_rfl) (⟨o1, o2⟩) ?_
            refine W_gen (x := (rd z_api_Ticket p0.2.1 (rd (0 : Int) y6 x12)).2.1) (En := fun x13 => [(1, .v 0 (.int .i64) p1), (2, .box 0 T_api_State p0), (5, .v 9 (.slice (.int .i64)) x2), (6, .v 0 (.int .i64) x3), (7, .v 9 (.slice (.int .i64)) y6), (8, .v 0 .bool x11), (9, .v 0 (.int .i64) x12), (10, .v 0 (.int .i64) x13)]) h (fun x13 h => ?_)
            obtain ⟨y14, ey14, h⟩ := h.bind
            refine W_region mixed tys_ok (sup := [.res [(0, ⟨0, .bool, y14⟩)]]) (l := [(1, 0), (2, 0), (5, 9), (6, 0), (7, 9), (8, 0), (9, 0)]) (E' := [(1, .v 0 (.int .i64) p1), (2, .box 0 T_api_State p0), (5, .v 9 (.slice (.int .i64)) x2), (6, .v 0 (.int .i64) x3), (7, .v 9 (.slice (.int .i64)) y6), (8, .v 0 .bool ((x11 && (x13 != p1)) && (!y14))), (9, .v 0 (.int .i64) x12)]) (obs := [(x11 && (x13 != p1)) = true → ACall prog 55 [⟨T_api_State, p0⟩, ⟨.int .i64, p1⟩, ⟨.int .i64, x13⟩] [⟨0, .bool, y14⟩]]) (by kernel_rfl) (fun hc => r15_Funds.ok (bif_some ey14 hc)) ?_
            refine W_gen (x := (x11 && (x13 != p1)) && (!y14)) (En := fun x15 => [(1, .v 0 (.int .i64) p1), (2, .box 0 T_api_State p0), (5, .v 9 (.slice (.int .i64)) x2), (6, .v 0 (.int .i64) x3), (7, .v 9 (.slice (.int .i64)) y6), (8, .v 0 .bool x15), (9, .v 0 (.int .i64) x12)]) h (fun x15 h => ?_)
            refine W_blk ?_
            refine W_region mixed tys_ok (sup := []) (l := [(1, 0), (2, 0), (5, 9), (6, 0), (7, 9), (8, 0), (9, 0)]) (E' := [(1, .v 0 (.int .i64) p1), (2, .box 0 T_api_State p0), (5, .v 9 (.slice (.int .i64)) x2), (6, .v 0 (.int .i64) x3), (7, .v 9 (.slice (.int .i64)) y6), (8, .v 0 .bool x15), (9, .v 0 (.int .i64) (IntKind.i64.wrap (x12 + (1 : Int))))]) (obs := []) (by kernel_rfl) (trivial) ?_
            refine W_gen (x := IntKind.i64.wrap (x12 + (1 : Int))) (En := fun x16 => [(1, .v 0 (.int .i64) p1), (2, .box 0 T_api_State p0), (5, .v 9 (.slice (.int .i64)) x2), (6, .v 0 (.int .i64) x3), (7, .v 9 (.slice (.int .i64)) y6), (8, .v 0 .bool x15), (9, .v 0 (.int .i64) x16)]) h (fun x16 h => ?_)
            refine W_keep (l := [(1, 0), (2, 0), (5, 9), (6, 0), (7, 9), (8, 0), (9, 0)]) (E' := [(1, .v 0 (.int .i64) p1), (2, .box 0 T_api_State p0), (5, .v 9 (.slice (.int .i64)) x2), (6, .v 0 (.int .i64) x3), (7, .v 9 (.slice (.int .i64)) y6), (8, .v 0 .bool x15), (9, .v 0 (.int .i64) x16)]) (by kernel_rfl) ?_
            exact W_abs h
          · rw [hb] at h; rw [cond_false] at h
            refine W_exit rfl ?_
            refine W_keep (l := [(1, 0), (2, 0), (5, 9), (6, 0), (8, 0)]) (E' := [(1, .v 0 (.int .i64) p1), (2, .box 0 T_api_State p0), (5, .v 9 (.slice (.int .i64)) x2), (6, .v 0 (.int .i64) x3), (8, .v 0 .bool x11)]) (by kernel_rfl) ?_
            exact j3 x11 h.back
    · rw [hb] at h; rw [cond_false] at h
      refine W_exit rfl ?_
      refine W_keep (l := [(5, 9)]) (E' := [(5, .v 9 (.slice (.int .i64)) x2)]) (by kernel_rfl) ?_
      exact j1 x2 h.back

noncomputable def l15_FundTells (p0 : D_api_State) (p1 : Int) (p2 : Int) : Option Bool :=
  (r14_Small p0).bind fun y1 =>
  (bif !(!y1) then r14_Fine p0 else some false).bind fun y2 =>
  bif (!y1) || (!y2) then
    (l15_alive).bind fun y3 =>
    some y3
  else
    (r14_Coin p0 p1).bind fun y4 =>
    (bif !(y4 && (p1 == p2)) then r15_Funds p0 p2 p1 else some false).bind fun y5 =>
    bnd ((y4 && (p1 == p2)) || y5) fun x6 =>
    (fund_Order p0).bind fun y7 =>
    (r15_Order p0).bind fun y8 =>
    (r11_Ints y7 y8).bind fun y9 =>
    (bif !(!y9) then fund_Funds p0 p1 p2 else some false).bind fun y10 =>
    (bif !(!y9) then r15_Funds p0 p1 p2 else some false).bind fun y11 =>
    (bif !((!y9) || (y10 != y11)) then fund_Closes p0 p1 p2 else some false).bind fun y12 =>
    bif ((!y9) || (y10 != y11)) || (y12 != x6) then
      some false
    else
      (fund_Issued p0 p1).bind fun y13 =>
      (r15_Tickets p0 (0 : Int) p1).bind fun y14 =>
      (r11_Ints y13 y14).bind fun y15 =>
      (bif !(!y15) then fund_Backing p0 p1 else some ([] : List Int)).bind fun y16 =>
      (bif !(!y15) then r15_Tickets p0 (1 : Int) p1 else some ([] : List Int)).bind fun y17 =>
      (bif !(!y15) then r11_Ints y16 y17 else some false).bind fun y18 =>
      (bif !((!y15) || (!y18)) then fund_Of p0 p1 else some ([] : List Int)).bind fun y19 =>
      (bif !((!y15) || (!y18)) then r15_Tickets p0 (2 : Int) p1 else some ([] : List Int)).bind fun y20 =>
      (bif !((!y15) || (!y18)) then r11_Ints y19 y20 else some false).bind fun y21 =>
      bif ((!y15) || (!y18)) || (!y21) then
        some false
      else
        (fund_Own p0 p1).bind fun y22 =>
        (r15_Own p0 p1).bind fun y23 =>
        (r11_All y23).bind fun y24 =>
        (r11_Ints y22 y24).bind fun y25 =>
        (bif y25 then fund_Outside p0 p1 else some ([] : List Int)).bind fun y26 =>
        (bif y25 then r15_Outside p0 p1 else some ([] : List Int)).bind fun y27 =>
        (bif y25 then r11_Ints y26 y27 else some false).bind fun y28 =>
        (bif y25 && y28 then l15_alive else some false).bind fun y29 =>
        bnd ((y25 && y28) && y29) fun x30 =>
        some x30
theorem l15_FundTells.ok {p0 : D_api_State} {p1 : Int} {p2 : Int} {r : Bool} (h : l15_FundTells p0 p1 p2 = some r) : ACall prog 9 [⟨T_api_State, p0⟩, ⟨.int .i64, p1⟩, ⟨.int .i64, p2⟩] [⟨0, .bool, r⟩] := by
  replace h := Leads.of h
  unfold l15_FundTells at h
  refine acall_of func9 (by kernel_rfl) rfl (by kernel_rfl) fun w0 F0 => ?_
  refine W_seq ?_
  refine W_region mixed tys_ok (sup := []) (l := [(1, 0), (2, 0), (3, 0)]) (E' := [(1, .v 0 (.int .i64) p1), (2, .v 0 (.int .i64) p2), (3, .box 0 T_api_State p0)]) (obs := []) (by kernel_rfl) (trivial) ?_
  refine W_seq ?_
  refine W_seq ?_
  obtain ⟨y1, ey1, h⟩ := h.bind
  obtain ⟨y2, ey2, h⟩ := h.bind
  refine W_region mixed tys_ok (sup := [.res [(0, ⟨0, .bool, y1⟩)], .res [(0, ⟨0, .bool, y2⟩)]]) (l := [(1, 0), (2, 0), (3, 0), (15, 0)]) (E' := [(1, .v 0 (.int .i64) p1), (2, .v 0 (.int .i64) p2), (3, .box 0 T_api_State p0), (15, .v 0 .bool ((!y1) || (!y2)))]) (obs := [ACall prog 12 [⟨T_api_State, p0⟩] [⟨0, .bool, y1⟩], (!(!y1)) = true → ACall prog 13 [⟨T_api_State, p0⟩] [⟨0, .bool, y2⟩]]) (by kernel_rfl) (⟨r14_Small.ok ey1, fun hc => r14_Fine.ok (bif_some ey2 hc)⟩) ?_
  refine W_cond (β := (!y1) || (!y2)) (by kernel_rfl) (fun hb => ?_) (fun hb => ?_)
  · rw [hb] at h; rw [cond_true] at h
    refine W_seq ?_
    obtain ⟨y3, ey3, h⟩ := h.bind
    refine W_region mixed tys_ok (sup := [.res [(0, ⟨0, .bool, y3⟩)]]) (l := [(6, 0)]) (E' := [(6, .v 0 .bool y3)]) (obs := [ACall prog 41 [] [⟨0, .bool, y3⟩]]) (by kernel_rfl) (l15_alive.ok ey3) ?_
    refine W_keep (l := [(6, 0)]) (E' := [(6, .v 0 .bool y3)]) (by kernel_rfl) ?_
    replace h : y3 = r := h
    subst h
    exact W_ret tys_ok (by kernel_rfl) (by kernel_rfl)
  · rw [hb] at h; rw [cond_false] at h
    refine W_skip ?_
    refine W_seq ?_
    obtain ⟨y4, ey4, h⟩ := h.bind
    obtain ⟨y5, ey5, h⟩ := h.bind
    refine W_region mixed tys_ok (sup := [.res [(0, ⟨0, .bool, y4⟩)], .res [(0, ⟨0, .bool, y5⟩)]]) (l := [(1, 0), (2, 0), (3, 0), (7, 0)]) (E' := [(1, .v 0 (.int .i64) p1), (2, .v 0 (.int .i64) p2), (3, .box 0 T_api_State p0), (7, .v 0 .bool ((y4 && (p1 == p2)) || y5))]) (obs := [ACall prog 40 [⟨T_api_State, p0⟩, ⟨.int .i64, p1⟩] [⟨0, .bool, y4⟩], (!(y4 && (p1 == p2))) = true → ACall prog 55 [⟨T_api_State, p0⟩, ⟨.int .i64, p2⟩, ⟨.int .i64, p1⟩] [⟨0, .bool, y5⟩]]) (by kernel_rfl) (⟨r14_Coin.ok ey4, fun hc => r15_Funds.ok (bif_some ey5 hc)⟩) ?_
    refine W_gen (x := (y4 && (p1 == p2)) || y5) (En := fun x6 => [(1, .v 0 (.int .i64) p1), (2, .v 0 (.int .i64) p2), (3, .box 0 T_api_State p0), (7, .v 0 .bool x6)]) h (fun x6 h => ?_)
    refine W_seq ?_
    refine W_seq ?_
    obtain ⟨y7, ey7, h⟩ := h.bind
    obtain ⟨y8, ey8, h⟩ := h.bind
    obtain ⟨y9, ey9, h⟩ := h.bind
    obtain ⟨y10, ey10, h⟩ := h.bind
    obtain ⟨y11, ey11, h⟩ := h.bind
    obtain ⟨y12, ey12, h⟩ := h.bind
    refine W_region mixed tys_ok (sup := [.res [(1, ⟨1, .slice (.int .i64), y7⟩)], .res [(9, ⟨9, .slice (.int .i64), y8⟩)], .res [(0, ⟨0, .bool, y9⟩)], .res [(0, ⟨0, .bool, y10⟩)], .res [(0, ⟨0, .bool, y11⟩)], .res [(0, ⟨0, .bool, y12⟩)]]) (l := [(1, 0), (3, 0), (55, 0)]) (E' := [(1, .v 0 (.int .i64) p1), (3, .box 0 T_api_State p0), (55, .v 0 .bool (((!y9) || (y10 != y11)) || (y12 != x6)))]) (obs := [ACall prog 56 [⟨T_api_State, p0⟩] [⟨1, .slice (.int .i64), y7⟩], ACall prog 57 [⟨T_api_State, p0⟩] [⟨9, .slice (.int .i64), y8⟩], ACall prog 22 [⟨.slice (.int .i64), y7⟩, ⟨.slice (.int .i64), y8⟩] [⟨0, .bool, y9⟩], (!(!y9)) = true → ACall prog 58 [⟨T_api_State, p0⟩, ⟨.int .i64, p1⟩, ⟨.int .i64, p2⟩] [⟨0, .bool, y10⟩], (!(!y9)) = true → ACall prog 55 [⟨T_api_State, p0⟩, ⟨.int .i64, p1⟩, ⟨.int .i64, p2⟩] [⟨0, .bool, y11⟩], (!((!y9) || (y10 != y11))) = true → ACall prog 42 [⟨T_api_State, p0⟩, ⟨.int .i64, p1⟩, ⟨.int .i64, p2⟩] [⟨0, .bool, y12⟩]]) (by kernel_rfl) (⟨fund_Order.ok ey7, r15_Order.ok ey8, r11_Ints.ok ey9, fun hc => fund_Funds.ok (bif_some ey10 hc), fun hc => r15_Funds.ok (bif_some ey11 hc), fun hc => fund_Closes.ok (bif_some ey12 hc)⟩) ?_
    refine W_cond (β := ((!y9) || (y10 != y11)) || (y12 != x6)) (by kernel_rfl) (fun hb => ?_) (fun hb => ?_)
    · rw [hb] at h; rw [cond_true] at h
      refine W_seq ?_
      refine W_region mixed tys_ok (sup := []) (l := [(6, 0)]) (E' := [(6, .v 0 .bool false)]) (obs := []) (by kernel_rfl) (trivial) ?_
      refine W_keep (l := [(6, 0)]) (E' := [(6, .v 0 .bool false)]) (by kernel_rfl) ?_
      replace h : false = r := h
      subst h
      exact W_ret tys_ok (by kernel_rfl) (by kernel_rfl)
    · rw [hb] at h; rw [cond_false] at h
      refine W_skip ?_
      refine W_seq ?_
      refine W_seq ?_
      obtain ⟨y13, ey13, h⟩ := h.bind
      obtain ⟨y14, ey14, h⟩ := h.bind
      obtain ⟨y15, ey15, h⟩ := h.bind
      obtain ⟨y16, ey16, h⟩ := h.bind
      obtain ⟨y17, ey17, h⟩ := h.bind
      obtain ⟨y18, ey18, h⟩ := h.bind
      obtain ⟨y19, ey19, h⟩ := h.bind
      obtain ⟨y20, ey20, h⟩ := h.bind
      obtain ⟨y21, ey21, h⟩ := h.bind
      refine W_region mixed tys_ok (sup := [.res [(9, ⟨9, .slice (.int .i64), y13⟩)], .res [(9, ⟨9, .slice (.int .i64), y14⟩)], .res [(0, ⟨0, .bool, y15⟩)], .res [(0, ⟨9, .slice (.int .i64), y16⟩)], .res [(0, ⟨9, .slice (.int .i64), y17⟩)], .res [(0, ⟨0, .bool, y18⟩)], .res [(0, ⟨9, .slice (.int .i64), y19⟩)], .res [(0, ⟨9, .slice (.int .i64), y20⟩)], .res [(0, ⟨0, .bool, y21⟩)]]) (l := [(1, 0), (3, 0), (83, 0)]) (E' := [(1, .v 0 (.int .i64) p1), (3, .box 0 T_api_State p0), (83, .v 0 .bool (((!y15) || (!y18)) || (!y21)))]) (obs := [ACall prog 59 [⟨T_api_State, p0⟩, ⟨.int .i64, p1⟩] [⟨9, .slice (.int .i64), y13⟩], ACall prog 60 [⟨T_api_State, p0⟩, ⟨.int .i64, (0 : Int)⟩, ⟨.int .i64, p1⟩] [⟨9, .slice (.int .i64), y14⟩], ACall prog 22 [⟨.slice (.int .i64), y13⟩, ⟨.slice (.int .i64), y14⟩] [⟨0, .bool, y15⟩], (!(!y15)) = true → ACall prog 61 [⟨T_api_State, p0⟩, ⟨.int .i64, p1⟩] [⟨9, .slice (.int .i64), y16⟩], (!(!y15)) = true → ACall prog 60 [⟨T_api_State, p0⟩, ⟨.int .i64, (1 : Int)⟩, ⟨.int .i64, p1⟩] [⟨9, .slice (.int .i64), y17⟩], (!(!y15)) = true → ACall prog 22 [⟨.slice (.int .i64), y16⟩, ⟨.slice (.int .i64), y17⟩] [⟨0, .bool, y18⟩], (!((!y15) || (!y18))) = true → ACall prog 62 [⟨T_api_State, p0⟩, ⟨.int .i64, p1⟩] [⟨9, .slice (.int .i64), y19⟩], (!((!y15) || (!y18))) = true → ACall prog 60 [⟨T_api_State, p0⟩, ⟨.int .i64, (2 : Int)⟩, ⟨.int .i64, p1⟩] [⟨9, .slice (.int .i64), y20⟩], (!((!y15) || (!y18))) = true → ACall prog 22 [⟨.slice (.int .i64), y19⟩, ⟨.slice (.int .i64), y20⟩] [⟨0, .bool, y21⟩]]) (by kernel_rfl) (⟨fund_Issued.ok ey13, r15_Tickets.ok ey14, r11_Ints.ok ey15, fun hc => fund_Backing.ok (bif_some ey16 hc), fun hc => r15_Tickets.ok (bif_some ey17 hc), fun hc => r11_Ints.ok (bif_some ey18 hc), fun hc => fund_Of.ok (bif_some ey19 hc), fun hc => r15_Tickets.ok (bif_some ey20 hc), fun hc => r11_Ints.ok (bif_some ey21 hc)⟩) ?_
      refine W_cond (β := ((!y15) || (!y18)) || (!y21)) (by kernel_rfl) (fun hb => ?_) (fun hb => ?_)
      · rw [hb] at h; rw [cond_true] at h
        refine W_seq ?_
        refine W_region mixed tys_ok (sup := []) (l := [(6, 0)]) (E' := [(6, .v 0 .bool false)]) (obs := []) (by kernel_rfl) (trivial) ?_
        refine W_keep (l := [(6, 0)]) (E' := [(6, .v 0 .bool false)]) (by kernel_rfl) ?_
        replace h : false = r := h
        subst h
        exact W_ret tys_ok (by kernel_rfl) (by kernel_rfl)
      · rw [hb] at h; rw [cond_false] at h
        refine W_skip ?_
        refine W_seq ?_
        obtain ⟨y22, ey22, h⟩ := h.bind
        obtain ⟨y23, ey23, h⟩ := h.bind
        obtain ⟨y24, ey24, h⟩ := h.bind
        obtain ⟨y25, ey25, h⟩ := h.bind
        obtain ⟨y26, ey26, h⟩ := h.bind
        obtain ⟨y27, ey27, h⟩ := h.bind
        obtain ⟨y28, ey28, h⟩ := h.bind
        obtain ⟨y29, ey29, h⟩ := h.bind
        refine W_region mixed tys_ok (sup := [.res [(9, ⟨9, .slice (.int .i64), y22⟩)], .res [(9, ⟨9, .slice .bool, y23⟩)], .res [(9, ⟨9, .slice (.int .i64), y24⟩)], .res [(0, ⟨0, .bool, y25⟩)], .res [(0, ⟨9, .slice (.int .i64), y26⟩)], .res [(0, ⟨9, .slice (.int .i64), y27⟩)], .res [(0, ⟨0, .bool, y28⟩)], .res [(0, ⟨0, .bool, y29⟩)]]) (l := [(6, 0)]) (E' := [(6, .v 0 .bool ((y25 && y28) && y29))]) (obs := [ACall prog 63 [⟨T_api_State, p0⟩, ⟨.int .i64, p1⟩] [⟨9, .slice (.int .i64), y22⟩], ACall prog 64 [⟨T_api_State, p0⟩, ⟨.int .i64, p1⟩] [⟨9, .slice .bool, y23⟩], ACall prog 36 [⟨.slice .bool, y23⟩] [⟨9, .slice (.int .i64), y24⟩], ACall prog 22 [⟨.slice (.int .i64), y22⟩, ⟨.slice (.int .i64), y24⟩] [⟨0, .bool, y25⟩], y25 = true → ACall prog 65 [⟨T_api_State, p0⟩, ⟨.int .i64, p1⟩] [⟨9, .slice (.int .i64), y26⟩], y25 = true → ACall prog 66 [⟨T_api_State, p0⟩, ⟨.int .i64, p1⟩] [⟨9, .slice (.int .i64), y27⟩], y25 = true → ACall prog 22 [⟨.slice (.int .i64), y26⟩, ⟨.slice (.int .i64), y27⟩] [⟨0, .bool, y28⟩], (y25 && y28) = true → ACall prog 41 [] [⟨0, .bool, y29⟩]]) (by kernel_rfl) (⟨fund_Own.ok ey22, r15_Own.ok ey23, r11_All.ok ey24, r11_Ints.ok ey25, fun hc => fund_Outside.ok (bif_some ey26 hc), fun hc => r15_Outside.ok (bif_some ey27 hc), fun hc => r11_Ints.ok (bif_some ey28 hc), fun hc => l15_alive.ok (bif_some ey29 hc)⟩) ?_
        refine W_gen (x := (y25 && y28) && y29) (En := fun x30 => [(6, .v 0 .bool x30)]) h (fun x30 h => ?_)
        refine W_keep (l := [(6, 0)]) (E' := [(6, .v 0 .bool x30)]) (by kernel_rfl) ?_
        replace h : x30 = r := h
        subst h
        exact W_ret tys_ok (by kernel_rfl) (by kernel_rfl)

end Go.Tom
