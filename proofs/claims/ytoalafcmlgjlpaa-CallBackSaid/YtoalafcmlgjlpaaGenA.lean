/- Each function of the program as a pure one, and the proof that the code keeps that contract. -/
import Derived.Test.YtoalafcmlgjlpaaGenT
set_option linter.unusedVariables false
set_option linter.constructorNameAsVariable false
set_option maxRecDepth 100000
namespace Go.Tom
open Go Go.Proofs.Try
noncomputable def r14_Small (p0 : D_api_State) : Option Bool :=
  bnd (((((decide ((p0.1.length : Int) ≤ (40 : Int))) && (decide ((p0.2.1.length : Int) ≤ (200 : Int)))) && (decide ((p0.2.2.1.length : Int) ≤ (80 : Int)))) && (decide ((p0.2.2.2.1.length : Int) ≤ (40 : Int)))) && (decide ((p0.2.2.2.2.1.length : Int) ≤ (100 : Int)))) fun x1 =>
  some x1
theorem r14_Small.ok {p0 : D_api_State} {r : Bool} (h : r14_Small p0 = some r) : ACall prog 11 [⟨T_api_State, p0⟩] [⟨0, .bool, r⟩] := by
  replace h := Leads.of h
  unfold r14_Small at h
  refine acall_of func11 (by kernel_rfl) rfl (by kernel_rfl) fun w0 F0 hw0 => ?_
  refine W_seq ?_
  refine W_region mixed tys_ok (sup := []) (l := [(1, 0)]) (E' := [(1, .box 0 T_api_State p0)]) (obs := []) (by kernel_rfl) (trivial) ?_
  refine W_seq ?_
  refine W_region mixed tys_ok (sup := []) (l := [(2, 0)]) (E' := [(2, .v 0 .bool (((((decide ((p0.1.length : Int) ≤ (40 : Int))) && (decide ((p0.2.1.length : Int) ≤ (200 : Int)))) && (decide ((p0.2.2.1.length : Int) ≤ (80 : Int)))) && (decide ((p0.2.2.2.1.length : Int) ≤ (40 : Int)))) && (decide ((p0.2.2.2.2.1.length : Int) ≤ (100 : Int)))))]) (obs := []) (by kernel_rfl) (trivial) ?_
  refine W_gen (x := ((((decide ((p0.1.length : Int) ≤ (40 : Int))) && (decide ((p0.2.1.length : Int) ≤ (200 : Int)))) && (decide ((p0.2.2.1.length : Int) ≤ (80 : Int)))) && (decide ((p0.2.2.2.1.length : Int) ≤ (40 : Int)))) && (decide ((p0.2.2.2.2.1.length : Int) ≤ (100 : Int)))) (En := fun x1 => [(2, .v 0 .bool x1)]) h (fun x1 h => ?_)
  refine W_keep (l := [(2, 0)]) (E' := [(2, .v 0 .bool x1)]) (by kernel_rfl) ?_
  replace h : x1 = r := h
  subst h
  exact W_ret tys_ok hw0 (by kernel_rfl) (by kernel_rfl)

noncomputable def r14_Thread (p0 : D_api_State) (p1 : Int) : Option Bool :=
  ass (((decide (p1 ≥ (0 : Int))) && (decide (p1 < (p0.2.2.1.length : Int)))) = true → 0 ≤ p1 ∧ p1 < (p0.2.2.1.length : Int)) <|
  bnd (((decide (p1 ≥ (0 : Int))) && (decide (p1 < (p0.2.2.1.length : Int)))) && ((rd z_api_Thread p0.2.2.1 p1).1 != (0 : Int))) fun x1 =>
  some x1
theorem r14_Thread.ok {p0 : D_api_State} {p1 : Int} {r : Bool} (h : r14_Thread p0 p1 = some r) : ACall prog 32 [⟨T_api_State, p0⟩, ⟨.int .i64, p1⟩] [⟨0, .bool, r⟩] := by
  replace h := Leads.of h
  unfold r14_Thread at h
  refine acall_of func32 (by kernel_rfl) rfl (by kernel_rfl) fun w0 F0 hw0 => ?_
  refine W_seq ?_
  refine W_region mixed tys_ok (sup := []) (l := [(1, 0), (2, 0)]) (E' := [(1, .v 0 (.int .i64) p1), (2, .box 0 T_api_State p0)]) (obs := []) (by kernel_rfl) (trivial) ?_
  refine W_seq ?_
  obtain ⟨o1, h⟩ := h.ass
  refine W_region mixed tys_ok (sup := []) (l := [(4, 0)]) (E' := [(4, .v 0 .bool (((decide (p1 ≥ (0 : Int))) && (decide (p1 < (p0.2.2.1.length : Int)))) && ((rd z_api_Thread p0.2.2.1 p1).1 != (0 : Int))))]) (obs := [((decide (p1 ≥ (0 : Int))) && (decide (p1 < (p0.2.2.1.length : Int)))) = true → 0 ≤ p1 ∧ p1 < (p0.2.2.1.length : Int)]) (by kernel_rfl) (o1) ?_
  refine W_gen (x := ((decide (p1 ≥ (0 : Int))) && (decide (p1 < (p0.2.2.1.length : Int)))) && ((rd z_api_Thread p0.2.2.1 p1).1 != (0 : Int))) (En := fun x1 => [(4, .v 0 .bool x1)]) h (fun x1 h => ?_)
  refine W_keep (l := [(4, 0)]) (E' := [(4, .v 0 .bool x1)]) (by kernel_rfl) ?_
  replace h : x1 = r := h
  subst h
  exact W_ret tys_ok hw0 (by kernel_rfl) (by kernel_rfl)

noncomputable def r14_Coin (p0 : D_api_State) (p1 : Int) : Option Bool :=
  ass (((decide (p1 ≥ (0 : Int))) && (decide (p1 < (p0.1.length : Int)))) = true → 0 ≤ p1 ∧ p1 < (p0.1.length : Int)) <|
  bnd (((decide (p1 ≥ (0 : Int))) && (decide (p1 < (p0.1.length : Int)))) && (rd false p0.1 p1)) fun x1 =>
  some x1
theorem r14_Coin.ok {p0 : D_api_State} {p1 : Int} {r : Bool} (h : r14_Coin p0 p1 = some r) : ACall prog 64 [⟨T_api_State, p0⟩, ⟨.int .i64, p1⟩] [⟨0, .bool, r⟩] := by
  replace h := Leads.of h
  unfold r14_Coin at h
  refine acall_of func64 (by kernel_rfl) rfl (by kernel_rfl) fun w0 F0 hw0 => ?_
  refine W_seq ?_
  refine W_region mixed tys_ok (sup := []) (l := [(1, 0), (2, 0)]) (E' := [(1, .v 0 (.int .i64) p1), (2, .box 0 T_api_State p0)]) (obs := []) (by kernel_rfl) (trivial) ?_
  refine W_seq ?_
  obtain ⟨o1, h⟩ := h.ass
  refine W_region mixed tys_ok (sup := []) (l := [(4, 0)]) (E' := [(4, .v 0 .bool (((decide (p1 ≥ (0 : Int))) && (decide (p1 < (p0.1.length : Int)))) && (rd false p0.1 p1)))]) (obs := [((decide (p1 ≥ (0 : Int))) && (decide (p1 < (p0.1.length : Int)))) = true → 0 ≤ p1 ∧ p1 < (p0.1.length : Int)]) (by kernel_rfl) (o1) ?_
  refine W_gen (x := ((decide (p1 ≥ (0 : Int))) && (decide (p1 < (p0.1.length : Int)))) && (rd false p0.1 p1)) (En := fun x1 => [(4, .v 0 .bool x1)]) h (fun x1 h => ?_)
  refine W_keep (l := [(4, 0)]) (E' := [(4, .v 0 .bool x1)]) (by kernel_rfl) ?_
  replace h : x1 = r := h
  subst h
  exact W_ret tys_ok hw0 (by kernel_rfl) (by kernel_rfl)

noncomputable def r14_tickets_j1 (p0 : D_api_State) : Option (Bool) :=
  ass (((decide ((p0.2.1.length : Int) ≤ (96 : Int))) && (!((p0.2.1.length : Int) == (0 : Int)))) = true → 0 ≤ IntKind.i64.wrap ((p0.2.1.length : Int) - (1 : Int)) ∧ IntKind.i64.wrap ((p0.2.1.length : Int) - (1 : Int)) < (p0.2.1.length : Int)) <|
  bnd ((decide ((p0.2.1.length : Int) ≤ (96 : Int))) && (((p0.2.1.length : Int) == (0 : Int)) || (rd z_api_Ticket p0.2.1 (IntKind.i64.wrap ((p0.2.1.length : Int) - (1 : Int)))).1)) fun x1 =>
  some x1
noncomputable def r14_tickets_j2 (x2 : Int) : Option (Int ⊕ Bool) :=
  bnd (IntKind.i64.wrap (x2 + (1 : Int))) fun x3 =>
  some (.inl x3)
noncomputable def r14_tickets_b1 (p0 : D_api_State) (x2 : Int) : Option (Int ⊕ Bool) :=
  bif decide (x2 < (p0.2.1.length : Int)) then
    ass (0 ≤ x2 ∧ x2 < (p0.2.1.length : Int)) <|
    bnd (rd z_api_Ticket p0.2.1 x2) fun x4 =>
    bif !x4.1 then
      bif !(Ty.beq T_api_Ticket x4 (false, (0 : Int), (0 : Int), (0 : Int), (0 : Int), false)) then
        some (.inr false)
      else
        r14_tickets_j2 x2
    else
      (bif (!((x4.2.2.2.1 == (0 : Int)) && (x4.2.2.2.2.1 == (0 : Int)))) && (x4.2.2.2.1 == (1 : Int)) then r14_Thread p0 x4.2.2.2.2.1 else some false).bind fun y5 =>
      (bif (!(((x4.2.2.2.1 == (0 : Int)) && (x4.2.2.2.2.1 == (0 : Int))) || ((x4.2.2.2.1 == (1 : Int)) && y5))) && ((x4.2.2.2.1 == (2 : Int)) && (x4.2.2.2.2.1 != (0 : Int))) then r14_Coin p0 x4.2.2.2.2.1 else some false).bind fun y6 =>
      bnd ((((x4.2.2.2.1 == (0 : Int)) && (x4.2.2.2.2.1 == (0 : Int))) || ((x4.2.2.2.1 == (1 : Int)) && y5)) || (((x4.2.2.2.1 == (2 : Int)) && (x4.2.2.2.2.1 != (0 : Int))) && y6)) fun x7 =>
      (r14_Coin p0 x4.2.1).bind fun y8 =>
      bif (((!y8) || (decide (x4.2.2.1 < (1 : Int)))) || (decide (x4.2.2.1 > (1048576 : Int)))) || (!x7) then
        some (.inr false)
      else
        r14_tickets_j2 x2
  else
    (r14_tickets_j1 p0).map .inr
noncomputable def r14_tickets (p0 : D_api_State) : Option Bool :=
  loopM (fun x : Int => r14_tickets_b1 p0 x) (0 : Int)
theorem r14_tickets.ok {p0 : D_api_State} {r : Bool} (h : r14_tickets p0 = some r) : ACall prog 79 [⟨T_api_State, p0⟩] [⟨0, .bool, r⟩] := by
  replace h := Leads.of h
  unfold r14_tickets at h
  refine acall_of func79 (by kernel_rfl) rfl (by kernel_rfl) fun w0 F0 hw0 => ?_
  refine W_seq ?_
  refine W_region mixed tys_ok (sup := []) (l := [(1, 0)]) (E' := [(1, .box 0 T_api_State p0)]) (obs := []) (by kernel_rfl) (trivial) ?_
  refine W_seq ?_
  refine W_seq ?_
  refine W_region mixed tys_ok (sup := []) (l := [(1, 0), (3, 0)]) (E' := [(1, .box 0 T_api_State p0), (3, .v 0 (.int .i64) (0 : Int))]) (obs := []) (by kernel_rfl) (trivial) ?_
  refine W_join h (Ej := fun (x : Unit) => [(1, .box 0 T_api_State p0)]) (p := fun x => r14_tickets_j1 p0) ?_ ?_
  · rintro ⟨⟩ h
    replace h : Leads _ (r14_tickets_j1 p0) := h
    unfold r14_tickets_j1 at h
    show W _ _ _ _ _ _ [(1, .box 0 T_api_State p0)]
    refine W_seq ?_
    refine W_region mixed tys_ok (sup := []) (l := [(1, 0), (6, 0)]) (E' := [(1, .box 0 T_api_State p0), (6, .v 0 (.int .i64) (p0.2.1.length : Int))]) (obs := []) (by kernel_rfl) (trivial) ?_
    refine W_seq ?_
    obtain ⟨o1, h⟩ := h.ass
    refine W_region mixed tys_ok (sup := []) (l := [(2, 0)]) (E' := [(2, .v 0 .bool ((decide ((p0.2.1.length : Int) ≤ (96 : Int))) && (((p0.2.1.length : Int) == (0 : Int)) || (rd z_api_Ticket p0.2.1 (IntKind.i64.wrap ((p0.2.1.length : Int) - (1 : Int)))).1)))]) (obs := [((decide ((p0.2.1.length : Int) ≤ (96 : Int))) && (!((p0.2.1.length : Int) == (0 : Int)))) = true → 0 ≤ IntKind.i64.wrap ((p0.2.1.length : Int) - (1 : Int)) ∧ IntKind.i64.wrap ((p0.2.1.length : Int) - (1 : Int)) < (p0.2.1.length : Int)]) (by kernel_rfl) (o1) ?_
    refine W_gen (x := (decide ((p0.2.1.length : Int) ≤ (96 : Int))) && (((p0.2.1.length : Int) == (0 : Int)) || (rd z_api_Ticket p0.2.1 (IntKind.i64.wrap ((p0.2.1.length : Int) - (1 : Int)))).1)) (En := fun x1 => [(2, .v 0 .bool x1)]) h (fun x1 h => ?_)
    refine W_keep (l := [(2, 0)]) (E' := [(2, .v 0 .bool x1)]) (by kernel_rfl) ?_
    replace h : x1 = r := h
    subst h
    exact W_ret tys_ok hw0 (by kernel_rfl) (by kernel_rfl)
  · intro j1
    refine W_block ?_
    refine W_keep (l := [(1, 0), (3, 0)]) (E' := [(1, .box 0 T_api_State p0), (3, .v 0 (.int .i64) (0 : Int))]) (by kernel_rfl) ?_
    refine W_loop' (En := fun (x : Int) => [(1, .box 0 T_api_State p0), (3, .v 0 (.int .i64) x)]) (x := (0 : Int)) h ?_
    rintro x2 K h
    replace h : Leads _ (r14_tickets_b1 p0 x2) := h
    unfold r14_tickets_b1 at h
    show W _ _ _ _ _ _ [(1, .box 0 T_api_State p0), (3, .v 0 (.int .i64) x2)]
    refine W_seq ?_
    refine W_seq ?_
    refine W_region mixed tys_ok (sup := []) (l := [(1, 0), (3, 0), (11, 0)]) (E' := [(1, .box 0 T_api_State p0), (3, .v 0 (.int .i64) x2), (11, .v 0 .bool (decide (x2 < (p0.2.1.length : Int))))]) (obs := []) (by kernel_rfl) (trivial) ?_
    refine W_cond (β := decide (x2 < (p0.2.1.length : Int))) (by kernel_rfl) (fun hb => ?_) (fun hb => ?_)
    · rw [cond_tt hb] at h
      refine W_skip ?_
      refine W_seq ?_
      refine W_join h (Ej := fun (x : Unit) => [(1, .box 0 T_api_State p0), (3, .v 0 (.int .i64) x2)]) (p := fun x => r14_tickets_j2 x2) ?_ ?_
      · rintro ⟨⟩ h
        replace h : Leads _ (r14_tickets_j2 x2) := h
        unfold r14_tickets_j2 at h
        show W _ _ _ _ _ _ [(1, .box 0 T_api_State p0), (3, .v 0 (.int .i64) x2)]
        refine W_region mixed tys_ok (sup := []) (l := [(1, 0), (3, 0)]) (E' := [(1, .box 0 T_api_State p0), (3, .v 0 (.int .i64) (IntKind.i64.wrap (x2 + (1 : Int))))]) (obs := []) (by kernel_rfl) (trivial) ?_
        refine W_gen (x := IntKind.i64.wrap (x2 + (1 : Int))) (En := fun x3 => [(1, .box 0 T_api_State p0), (3, .v 0 (.int .i64) x3)]) h (fun x3 h => ?_)
        refine W_keep (l := [(1, 0), (3, 0)]) (E' := [(1, .box 0 T_api_State p0), (3, .v 0 (.int .i64) x3)]) (by kernel_rfl) ?_
        exact W_abs h
      · intro j2
        refine W_block ?_
        refine W_seq ?_
        obtain ⟨o1, h⟩ := h.ass
        refine W_region mixed tys_ok (sup := []) (l := [(1, 0), (3, 0), (4, 9)]) (E' := [(1, .box 0 T_api_State p0), (3, .v 0 (.int .i64) x2), (4, .box 9 T_api_Ticket (rd z_api_Ticket p0.2.1 x2))]) (obs := [0 ≤ x2 ∧ x2 < (p0.2.1.length : Int)]) (by kernel_rfl) (o1) ?_
        refine W_gen (x := rd z_api_Ticket p0.2.1 x2) (En := fun x4 => [(1, .box 0 T_api_State p0), (3, .v 0 (.int .i64) x2), (4, .box 9 T_api_Ticket x4)]) h (fun x4 h => ?_)
        refine W_seq ?_
        refine W_seq ?_
        refine W_region mixed tys_ok (sup := []) (l := [(1, 0), (3, 0), (4, 9), (21, 0)]) (E' := [(1, .box 0 T_api_State p0), (3, .v 0 (.int .i64) x2), (4, .box 9 T_api_Ticket x4), (21, .v 0 .bool (!x4.1))]) (obs := []) (by kernel_rfl) (trivial) ?_
        refine W_cond (β := !x4.1) (by kernel_rfl) (fun hb => ?_) (fun hb => ?_)
        · rw [cond_tt hb] at h
          refine W_seq ?_
          refine W_seq ?_
          refine W_region mixed tys_ok (sup := []) (l := [(1, 0), (3, 0), (24, 0)]) (E' := [(1, .box 0 T_api_State p0), (3, .v 0 (.int .i64) x2), (24, .v 0 .bool (!(Ty.beq T_api_Ticket x4 (false, (0 : Int), (0 : Int), (0 : Int), (0 : Int), false))))]) (obs := []) (by kernel_rfl) (trivial) ?_
          refine W_cond (β := !(Ty.beq T_api_Ticket x4 (false, (0 : Int), (0 : Int), (0 : Int), (0 : Int), false))) (by kernel_rfl) (fun hb => ?_) (fun hb => ?_)
          · rw [cond_tt hb] at h
            refine W_seq ?_
            refine W_region mixed tys_ok (sup := []) (l := [(2, 0)]) (E' := [(2, .v 0 .bool false)]) (obs := []) (by kernel_rfl) (trivial) ?_
            refine W_keep (l := [(2, 0)]) (E' := [(2, .v 0 .bool false)]) (by kernel_rfl) ?_
            replace h : false = r := h
            subst h
            exact W_ret tys_ok hw0 (by kernel_rfl) (by kernel_rfl)
          · rw [cond_ff hb] at h
            refine W_skip ?_
            refine W_exit rfl ?_
            refine W_keep (l := [(1, 0), (3, 0)]) (E' := [(1, .box 0 T_api_State p0), (3, .v 0 (.int .i64) x2)]) (by kernel_rfl) ?_
            exact j2 () h
        · rw [cond_ff hb] at h
          refine W_skip ?_
          refine W_seq ?_
          obtain ⟨y5, ey5, h⟩ := h.bind
          obtain ⟨y6, ey6, h⟩ := h.bind
          refine W_region mixed tys_ok (sup := [.res [(0, ⟨0, .bool, y5⟩)], .res [(0, ⟨0, .bool, y6⟩)]]) (l := [(1, 0), (3, 0), (4, 9), (5, 0)]) (E' := [(1, .box 0 T_api_State p0), (3, .v 0 (.int .i64) x2), (4, .box 9 T_api_Ticket x4), (5, .v 0 .bool ((((x4.2.2.2.1 == (0 : Int)) && (x4.2.2.2.2.1 == (0 : Int))) || ((x4.2.2.2.1 == (1 : Int)) && y5)) || (((x4.2.2.2.1 == (2 : Int)) && (x4.2.2.2.2.1 != (0 : Int))) && y6)))]) (obs := [((!((x4.2.2.2.1 == (0 : Int)) && (x4.2.2.2.2.1 == (0 : Int)))) && (x4.2.2.2.1 == (1 : Int))) = true → ACall prog 32 [⟨T_api_State, p0⟩, ⟨.int .i64, x4.2.2.2.2.1⟩] [⟨0, .bool, y5⟩], ((!(((x4.2.2.2.1 == (0 : Int)) && (x4.2.2.2.2.1 == (0 : Int))) || ((x4.2.2.2.1 == (1 : Int)) && y5))) && ((x4.2.2.2.1 == (2 : Int)) && (x4.2.2.2.2.1 != (0 : Int)))) = true → ACall prog 64 [⟨T_api_State, p0⟩, ⟨.int .i64, x4.2.2.2.2.1⟩] [⟨0, .bool, y6⟩]]) (by kernel_rfl) (⟨fun hc => r14_Thread.ok (bif_some ey5 hc), fun hc => r14_Coin.ok (bif_some ey6 hc)⟩) ?_
          refine W_gen (x := (((x4.2.2.2.1 == (0 : Int)) && (x4.2.2.2.2.1 == (0 : Int))) || ((x4.2.2.2.1 == (1 : Int)) && y5)) || (((x4.2.2.2.1 == (2 : Int)) && (x4.2.2.2.2.1 != (0 : Int))) && y6)) (En := fun x7 => [(1, .box 0 T_api_State p0), (3, .v 0 (.int .i64) x2), (4, .box 9 T_api_Ticket x4), (5, .v 0 .bool x7)]) h (fun x7 h => ?_)
          refine W_seq ?_
          obtain ⟨y8, ey8, h⟩ := h.bind
          refine W_region mixed tys_ok (sup := [.res [(0, ⟨0, .bool, y8⟩)]]) (l := [(1, 0), (3, 0), (78, 0)]) (E' := [(1, .box 0 T_api_State p0), (3, .v 0 (.int .i64) x2), (78, .v 0 .bool ((((!y8) || (decide (x4.2.2.1 < (1 : Int)))) || (decide (x4.2.2.1 > (1048576 : Int)))) || (!x7)))]) (obs := [ACall prog 64 [⟨T_api_State, p0⟩, ⟨.int .i64, x4.2.1⟩] [⟨0, .bool, y8⟩]]) (by kernel_rfl) (r14_Coin.ok ey8) ?_
          refine W_cond (β := (((!y8) || (decide (x4.2.2.1 < (1 : Int)))) || (decide (x4.2.2.1 > (1048576 : Int)))) || (!x7)) (by kernel_rfl) (fun hb => ?_) (fun hb => ?_)
          · rw [cond_tt hb] at h
            refine W_seq ?_
            refine W_region mixed tys_ok (sup := []) (l := [(2, 0)]) (E' := [(2, .v 0 .bool false)]) (obs := []) (by kernel_rfl) (trivial) ?_
            refine W_keep (l := [(2, 0)]) (E' := [(2, .v 0 .bool false)]) (by kernel_rfl) ?_
            replace h : false = r := h
            subst h
            exact W_ret tys_ok hw0 (by kernel_rfl) (by kernel_rfl)
          · rw [cond_ff hb] at h
            refine W_skip ?_
            refine W_blk ?_
            refine W_keep (l := [(1, 0), (3, 0)]) (E' := [(1, .box 0 T_api_State p0), (3, .v 0 (.int .i64) x2)]) (by kernel_rfl) ?_
            exact j2 () h
    · rw [cond_ff hb] at h
      refine W_exit rfl ?_
      refine W_keep (l := [(1, 0)]) (E' := [(1, .box 0 T_api_State p0)]) (by kernel_rfl) ?_
      exact j1 () h.back

noncomputable def r14_Lock (p0 : D_api_State) (p1 : Int) : Option Bool :=
  ass (((decide (p1 ≥ (0 : Int))) && (decide (p1 < (p0.2.2.2.1.length : Int)))) = true → 0 ≤ p1 ∧ p1 < (p0.2.2.2.1.length : Int)) <|
  bnd (((decide (p1 ≥ (0 : Int))) && (decide (p1 < (p0.2.2.2.1.length : Int)))) && (rd z_api_Lock p0.2.2.2.1 p1).1) fun x1 =>
  some x1
theorem r14_Lock.ok {p0 : D_api_State} {p1 : Int} {r : Bool} (h : r14_Lock p0 p1 = some r) : ACall prog 66 [⟨T_api_State, p0⟩, ⟨.int .i64, p1⟩] [⟨0, .bool, r⟩] := by
  replace h := Leads.of h
  unfold r14_Lock at h
  refine acall_of func66 (by kernel_rfl) rfl (by kernel_rfl) fun w0 F0 hw0 => ?_
  refine W_seq ?_
  refine W_region mixed tys_ok (sup := []) (l := [(1, 0), (2, 0)]) (E' := [(1, .v 0 (.int .i64) p1), (2, .box 0 T_api_State p0)]) (obs := []) (by kernel_rfl) (trivial) ?_
  refine W_seq ?_
  obtain ⟨o1, h⟩ := h.ass
  refine W_region mixed tys_ok (sup := []) (l := [(4, 0)]) (E' := [(4, .v 0 .bool (((decide (p1 ≥ (0 : Int))) && (decide (p1 < (p0.2.2.2.1.length : Int)))) && (rd z_api_Lock p0.2.2.2.1 p1).1))]) (obs := [((decide (p1 ≥ (0 : Int))) && (decide (p1 < (p0.2.2.2.1.length : Int)))) = true → 0 ≤ p1 ∧ p1 < (p0.2.2.2.1.length : Int)]) (by kernel_rfl) (o1) ?_
  refine W_gen (x := ((decide (p1 ≥ (0 : Int))) && (decide (p1 < (p0.2.2.2.1.length : Int)))) && (rd z_api_Lock p0.2.2.2.1 p1).1) (En := fun x1 => [(4, .v 0 .bool x1)]) h (fun x1 h => ?_)
  refine W_keep (l := [(4, 0)]) (E' := [(4, .v 0 .bool x1)]) (by kernel_rfl) ?_
  replace h : x1 = r := h
  subst h
  exact W_ret tys_ok hw0 (by kernel_rfl) (by kernel_rfl)

noncomputable def r14_Is (p0 : D_api_State) (p1 : Int) (p2 : Int) (p3 : Int) : Option Bool :=
  (r14_Thread p0 p1).bind fun y1 =>
  ass (y1 = true → 0 ≤ p1 ∧ p1 < (p0.2.2.1.length : Int)) <|
  ass ((y1 && ((rd z_api_Thread p0.2.2.1 p1).1 == p2)) = true → 0 ≤ p1 ∧ p1 < (p0.2.2.1.length : Int)) <|
  bnd ((y1 && ((rd z_api_Thread p0.2.2.1 p1).1 == p2)) && ((rd z_api_Thread p0.2.2.1 p1).2.1 == p3)) fun x2 =>
  some x2
theorem r14_Is.ok {p0 : D_api_State} {p1 : Int} {p2 : Int} {p3 : Int} {r : Bool} (h : r14_Is p0 p1 p2 p3 = some r) : ACall prog 100 [⟨T_api_State, p0⟩, ⟨.int .i64, p1⟩, ⟨.int .i64, p2⟩, ⟨.int .i64, p3⟩] [⟨0, .bool, r⟩] := by
  replace h := Leads.of h
  unfold r14_Is at h
  refine acall_of func100 (by kernel_rfl) rfl (by kernel_rfl) fun w0 F0 hw0 => ?_
  refine W_seq ?_
  refine W_region mixed tys_ok (sup := []) (l := [(1, 0), (2, 0), (3, 0), (4, 0)]) (E' := [(1, .v 0 (.int .i64) p1), (2, .v 0 (.int .i64) p2), (3, .v 0 (.int .i64) p3), (4, .box 0 T_api_State p0)]) (obs := []) (by kernel_rfl) (trivial) ?_
  refine W_seq ?_
  obtain ⟨y1, ey1, h⟩ := h.bind
  obtain ⟨o1, h⟩ := h.ass
  obtain ⟨o2, h⟩ := h.ass
  refine W_region mixed tys_ok (sup := [.res [(0, ⟨0, .bool, y1⟩)]]) (l := [(8, 0)]) (E' := [(8, .v 0 .bool ((y1 && ((rd z_api_Thread p0.2.2.1 p1).1 == p2)) && ((rd z_api_Thread p0.2.2.1 p1).2.1 == p3)))]) (obs := [ACall prog 32 [⟨T_api_State, p0⟩, ⟨.int .i64, p1⟩] [⟨0, .bool, y1⟩], y1 = true → 0 ≤ p1 ∧ p1 < (p0.2.2.1.length : Int), (y1 && ((rd z_api_Thread p0.2.2.1 p1).1 == p2)) = true → 0 ≤ p1 ∧ p1 < (p0.2.2.1.length : Int)]) (by kernel_rfl) (⟨r14_Thread.ok ey1, o1, o2⟩) ?_
  refine W_gen (x := (y1 && ((rd z_api_Thread p0.2.2.1 p1).1 == p2)) && ((rd z_api_Thread p0.2.2.1 p1).2.1 == p3)) (En := fun x2 => [(8, .v 0 .bool x2)]) h (fun x2 h => ?_)
  refine W_keep (l := [(8, 0)]) (E' := [(8, .v 0 .bool x2)]) (by kernel_rfl) ?_
  replace h : x2 = r := h
  subst h
  exact W_ret tys_ok hw0 (by kernel_rfl) (by kernel_rfl)

noncomputable def r14_threads_j1 (p0 : D_api_State) (x1 : Int) : Option (Bool) :=
  ass ((((decide (x1 < (2 : Int))) && (decide ((p0.2.2.1.length : Int) ≤ (32 : Int)))) && (!((p0.2.2.1.length : Int) == (0 : Int)))) = true → 0 ≤ IntKind.i64.wrap ((p0.2.2.1.length : Int) - (1 : Int)) ∧ IntKind.i64.wrap ((p0.2.2.1.length : Int) - (1 : Int)) < (p0.2.2.1.length : Int)) <|
  bnd (((decide (x1 < (2 : Int))) && (decide ((p0.2.2.1.length : Int) ≤ (32 : Int)))) && (((p0.2.2.1.length : Int) == (0 : Int)) || ((rd z_api_Thread p0.2.2.1 (IntKind.i64.wrap ((p0.2.2.1.length : Int) - (1 : Int)))).1 != (0 : Int)))) fun x2 =>
  some x2
noncomputable def r14_threads_j2 (x4 : Int) (x5 : Int) : Option ((Int × Int) ⊕ Bool) :=
  bnd (IntKind.i64.wrap (x4 + (1 : Int))) fun x6 =>
  some (.inl (x5, x6))
noncomputable def r14_threads_j3 (p0 : D_api_State) (x4 : Int) (x7 : D_api_Thread) (x8 : Int) : Option ((Int × Int) ⊕ Bool) :=
  (bif (!((((decide (x7.1 > (0 : Int))) && (decide (x7.1 < (6 : Int)))) && (x7.1 != (4 : Int))) && (x7.2.1 == (-1 : Int)))) && ((x7.1 == (4 : Int)) && (x7.2.1 != x4)) then r14_Thread p0 x7.2.1 else some false).bind fun y9 =>
  (bif (!(((((decide (x7.1 > (0 : Int))) && (decide (x7.1 < (6 : Int)))) && (x7.1 != (4 : Int))) && (x7.2.1 == (-1 : Int))) || (((x7.1 == (4 : Int)) && (x7.2.1 != x4)) && y9))) && (x7.1 == (6 : Int)) then r14_Lock p0 x7.2.1 else some false).bind fun y10 =>
  bnd ((((((decide (x7.1 > (0 : Int))) && (decide (x7.1 < (6 : Int)))) && (x7.1 != (4 : Int))) && (x7.2.1 == (-1 : Int))) || (((x7.1 == (4 : Int)) && (x7.2.1 != x4)) && y9)) || ((x7.1 == (6 : Int)) && y10)) fun x11 =>
  (bif (!(x7.2.2.1 == (-1 : Int))) && (x7.1 != (5 : Int)) then r14_Is p0 x7.2.2.1 (4 : Int) x4 else some false).bind fun y12 =>
  bnd ((x7.2.2.1 == (-1 : Int)) || ((x7.1 != (5 : Int)) && y12)) fun x13 =>
  bnd ((x7.2.2.2.1 == (1 : Int)) && (x7.2.2.2.2 == (1 : Int))) fun x14 =>
  bif ((!x11) || (!x13)) || ((!x14) && (((decide (x7.2.2.2.2 < (1 : Int))) || (decide (x7.2.2.2.2 ≥ x7.2.2.2.1))) || (decide (x7.2.2.2.1 > p0.2.2.2.2.2)))) then
    some (.inr false)
  else
    r14_threads_j2 x4 x8
noncomputable def r14_threads_b1 (p0 : D_api_State) (x3 : Int) (x4 : Int) : Option ((Int × Int) ⊕ Bool) :=
  bif decide (x4 < (p0.2.2.1.length : Int)) then
    ass (0 ≤ x4 ∧ x4 < (p0.2.2.1.length : Int)) <|
    bnd (rd z_api_Thread p0.2.2.1 x4) fun x7 =>
    bif x7.1 == (0 : Int) then
      bif !(Ty.beq T_api_Thread x7 ((0 : Int), (0 : Int), (0 : Int), (0 : Int), (0 : Int))) then
        some (.inr false)
      else
        r14_threads_j2 x4 x3
    else
      bif x7.1 == (3 : Int) then
        bnd (IntKind.i64.wrap (x3 + (1 : Int))) fun x15 =>
        r14_threads_j3 p0 x4 x7 x15
      else
        r14_threads_j3 p0 x4 x7 x3
  else
    (r14_threads_j1 p0 x3).map .inr
noncomputable def r14_threads (p0 : D_api_State) : Option Bool :=
  loopM (fun x : Int × Int => r14_threads_b1 p0 x.1 x.2) ((0 : Int), (0 : Int))
theorem r14_threads.ok {p0 : D_api_State} {r : Bool} (h : r14_threads p0 = some r) : ACall prog 80 [⟨T_api_State, p0⟩] [⟨0, .bool, r⟩] := by
  replace h := Leads.of h
  unfold r14_threads at h
  refine acall_of func80 (by kernel_rfl) rfl (by kernel_rfl) fun w0 F0 hw0 => ?_
  refine W_seq ?_
  refine W_region mixed tys_ok (sup := []) (l := [(1, 0)]) (E' := [(1, .box 0 T_api_State p0)]) (obs := []) (by kernel_rfl) (trivial) ?_
  refine W_seq ?_
  refine W_region mixed tys_ok (sup := []) (l := [(1, 0), (3, 0)]) (E' := [(1, .box 0 T_api_State p0), (3, .v 0 (.int .i64) (0 : Int))]) (obs := []) (by kernel_rfl) (trivial) ?_
  refine W_seq ?_
  refine W_seq ?_
  refine W_region mixed tys_ok (sup := []) (l := [(1, 0), (3, 0), (4, 0)]) (E' := [(1, .box 0 T_api_State p0), (3, .v 0 (.int .i64) (0 : Int)), (4, .v 0 (.int .i64) (0 : Int))]) (obs := []) (by kernel_rfl) (trivial) ?_
  refine W_join h (Ej := fun (x : Int) => [(1, .box 0 T_api_State p0), (3, .v 0 (.int .i64) x)]) (p := fun x => r14_threads_j1 p0 x) ?_ ?_
  · rintro x1 h
    replace h : Leads _ (r14_threads_j1 p0 x1) := h
    unfold r14_threads_j1 at h
    show W _ _ _ _ _ _ [(1, .box 0 T_api_State p0), (3, .v 0 (.int .i64) x1)]
    refine W_seq ?_
    refine W_region mixed tys_ok (sup := []) (l := [(1, 0), (3, 0), (9, 0)]) (E' := [(1, .box 0 T_api_State p0), (3, .v 0 (.int .i64) x1), (9, .v 0 (.int .i64) (p0.2.2.1.length : Int))]) (obs := []) (by kernel_rfl) (trivial) ?_
    refine W_seq ?_
    obtain ⟨o1, h⟩ := h.ass
    refine W_region mixed tys_ok (sup := []) (l := [(2, 0)]) (E' := [(2, .v 0 .bool (((decide (x1 < (2 : Int))) && (decide ((p0.2.2.1.length : Int) ≤ (32 : Int)))) && (((p0.2.2.1.length : Int) == (0 : Int)) || ((rd z_api_Thread p0.2.2.1 (IntKind.i64.wrap ((p0.2.2.1.length : Int) - (1 : Int)))).1 != (0 : Int)))))]) (obs := [(((decide (x1 < (2 : Int))) && (decide ((p0.2.2.1.length : Int) ≤ (32 : Int)))) && (!((p0.2.2.1.length : Int) == (0 : Int)))) = true → 0 ≤ IntKind.i64.wrap ((p0.2.2.1.length : Int) - (1 : Int)) ∧ IntKind.i64.wrap ((p0.2.2.1.length : Int) - (1 : Int)) < (p0.2.2.1.length : Int)]) (by kernel_rfl) (o1) ?_
    refine W_gen (x := ((decide (x1 < (2 : Int))) && (decide ((p0.2.2.1.length : Int) ≤ (32 : Int)))) && (((p0.2.2.1.length : Int) == (0 : Int)) || ((rd z_api_Thread p0.2.2.1 (IntKind.i64.wrap ((p0.2.2.1.length : Int) - (1 : Int)))).1 != (0 : Int)))) (En := fun x2 => [(2, .v 0 .bool x2)]) h (fun x2 h => ?_)
    refine W_keep (l := [(2, 0)]) (E' := [(2, .v 0 .bool x2)]) (by kernel_rfl) ?_
    replace h : x2 = r := h
    subst h
    exact W_ret tys_ok hw0 (by kernel_rfl) (by kernel_rfl)
  · intro j1
    refine W_block ?_
    refine W_keep (l := [(1, 0), (3, 0), (4, 0)]) (E' := [(1, .box 0 T_api_State p0), (3, .v 0 (.int .i64) (0 : Int)), (4, .v 0 (.int .i64) (0 : Int))]) (by kernel_rfl) ?_
    refine W_loop' (En := fun (x : Int × Int) => [(1, .box 0 T_api_State p0), (3, .v 0 (.int .i64) x.1), (4, .v 0 (.int .i64) x.2)]) (x := ((0 : Int), (0 : Int))) h ?_
    rintro ⟨x3, x4⟩ K h
    replace h : Leads _ (r14_threads_b1 p0 x3 x4) := h
    unfold r14_threads_b1 at h
    show W _ _ _ _ _ _ [(1, .box 0 T_api_State p0), (3, .v 0 (.int .i64) x3), (4, .v 0 (.int .i64) x4)]
    refine W_seq ?_
    refine W_seq ?_
    refine W_region mixed tys_ok (sup := []) (l := [(1, 0), (3, 0), (4, 0), (14, 0)]) (E' := [(1, .box 0 T_api_State p0), (3, .v 0 (.int .i64) x3), (4, .v 0 (.int .i64) x4), (14, .v 0 .bool (decide (x4 < (p0.2.2.1.length : Int))))]) (obs := []) (by kernel_rfl) (trivial) ?_
    refine W_cond (β := decide (x4 < (p0.2.2.1.length : Int))) (by kernel_rfl) (fun hb => ?_) (fun hb => ?_)
    · rw [cond_tt hb] at h
      refine W_skip ?_
      refine W_seq ?_
      refine W_join h (Ej := fun (x : Int) => [(1, .box 0 T_api_State p0), (3, .v 0 (.int .i64) x), (4, .v 0 (.int .i64) x4)]) (p := fun x => r14_threads_j2 x4 x) ?_ ?_
      · rintro x5 h
        replace h : Leads _ (r14_threads_j2 x4 x5) := h
        unfold r14_threads_j2 at h
        show W _ _ _ _ _ _ [(1, .box 0 T_api_State p0), (3, .v 0 (.int .i64) x5), (4, .v 0 (.int .i64) x4)]
        refine W_region mixed tys_ok (sup := []) (l := [(1, 0), (3, 0), (4, 0)]) (E' := [(1, .box 0 T_api_State p0), (3, .v 0 (.int .i64) x5), (4, .v 0 (.int .i64) (IntKind.i64.wrap (x4 + (1 : Int))))]) (obs := []) (by kernel_rfl) (trivial) ?_
        refine W_gen (x := IntKind.i64.wrap (x4 + (1 : Int))) (En := fun x6 => [(1, .box 0 T_api_State p0), (3, .v 0 (.int .i64) x5), (4, .v 0 (.int .i64) x6)]) h (fun x6 h => ?_)
        refine W_keep (l := [(1, 0), (3, 0), (4, 0)]) (E' := [(1, .box 0 T_api_State p0), (3, .v 0 (.int .i64) x5), (4, .v 0 (.int .i64) x6)]) (by kernel_rfl) ?_
        exact W_abs h
      · intro j2
        refine W_block ?_
        refine W_seq ?_
        obtain ⟨o1, h⟩ := h.ass
        refine W_region mixed tys_ok (sup := []) (l := [(1, 0), (3, 0), (4, 0), (5, 9)]) (E' := [(1, .box 0 T_api_State p0), (3, .v 0 (.int .i64) x3), (4, .v 0 (.int .i64) x4), (5, .box 9 T_api_Thread (rd z_api_Thread p0.2.2.1 x4))]) (obs := [0 ≤ x4 ∧ x4 < (p0.2.2.1.length : Int)]) (by kernel_rfl) (o1) ?_
        refine W_gen (x := rd z_api_Thread p0.2.2.1 x4) (En := fun x7 => [(1, .box 0 T_api_State p0), (3, .v 0 (.int .i64) x3), (4, .v 0 (.int .i64) x4), (5, .box 9 T_api_Thread x7)]) h (fun x7 h => ?_)
        refine W_seq ?_
        refine W_seq ?_
        refine W_region mixed tys_ok (sup := []) (l := [(1, 0), (3, 0), (4, 0), (5, 9), (24, 0)]) (E' := [(1, .box 0 T_api_State p0), (3, .v 0 (.int .i64) x3), (4, .v 0 (.int .i64) x4), (5, .box 9 T_api_Thread x7), (24, .v 0 .bool (x7.1 == (0 : Int)))]) (obs := []) (by kernel_rfl) (trivial) ?_
        refine W_cond (β := x7.1 == (0 : Int)) (by kernel_rfl) (fun hb => ?_) (fun hb => ?_)
        · rw [cond_tt hb] at h
          refine W_seq ?_
          refine W_seq ?_
          refine W_region mixed tys_ok (sup := []) (l := [(1, 0), (3, 0), (4, 0), (27, 0)]) (E' := [(1, .box 0 T_api_State p0), (3, .v 0 (.int .i64) x3), (4, .v 0 (.int .i64) x4), (27, .v 0 .bool (!(Ty.beq T_api_Thread x7 ((0 : Int), (0 : Int), (0 : Int), (0 : Int), (0 : Int)))))]) (obs := []) (by kernel_rfl) (trivial) ?_
          refine W_cond (β := !(Ty.beq T_api_Thread x7 ((0 : Int), (0 : Int), (0 : Int), (0 : Int), (0 : Int)))) (by kernel_rfl) (fun hb => ?_) (fun hb => ?_)
          · rw [cond_tt hb] at h
            refine W_seq ?_
            refine W_region mixed tys_ok (sup := []) (l := [(2, 0)]) (E' := [(2, .v 0 .bool false)]) (obs := []) (by kernel_rfl) (trivial) ?_
            refine W_keep (l := [(2, 0)]) (E' := [(2, .v 0 .bool false)]) (by kernel_rfl) ?_
            replace h : false = r := h
            subst h
            exact W_ret tys_ok hw0 (by kernel_rfl) (by kernel_rfl)
          · rw [cond_ff hb] at h
            refine W_skip ?_
            refine W_exit rfl ?_
            refine W_keep (l := [(1, 0), (3, 0), (4, 0)]) (E' := [(1, .box 0 T_api_State p0), (3, .v 0 (.int .i64) x3), (4, .v 0 (.int .i64) x4)]) (by kernel_rfl) ?_
            exact j2 x3 h
        · rw [cond_ff hb] at h
          refine W_skip ?_
          refine W_seq ?_
          refine W_seq ?_
          refine W_region mixed tys_ok (sup := []) (l := [(1, 0), (3, 0), (4, 0), (5, 9), (30, 0)]) (E' := [(1, .box 0 T_api_State p0), (3, .v 0 (.int .i64) x3), (4, .v 0 (.int .i64) x4), (5, .box 9 T_api_Thread x7), (30, .v 0 .bool (x7.1 == (3 : Int)))]) (obs := []) (by kernel_rfl) (trivial) ?_
          refine W_join h (Ej := fun (x : Int) => [(1, .box 0 T_api_State p0), (3, .v 0 (.int .i64) x), (4, .v 0 (.int .i64) x4), (5, .box 9 T_api_Thread x7)]) (p := fun x => r14_threads_j3 p0 x4 x7 x) ?_ ?_
          · rintro x8 h
            replace h : Leads _ (r14_threads_j3 p0 x4 x7 x8) := h
            unfold r14_threads_j3 at h
            show W _ _ _ _ _ _ [(1, .box 0 T_api_State p0), (3, .v 0 (.int .i64) x8), (4, .v 0 (.int .i64) x4), (5, .box 9 T_api_Thread x7)]
            refine W_seq ?_
            obtain ⟨y9, ey9, h⟩ := h.bind
            obtain ⟨y10, ey10, h⟩ := h.bind
            refine W_region mixed tys_ok (sup := [.res [(0, ⟨0, .bool, y9⟩)], .res [(0, ⟨0, .bool, y10⟩)]]) (l := [(1, 0), (3, 0), (4, 0), (5, 9), (6, 0)]) (E' := [(1, .box 0 T_api_State p0), (3, .v 0 (.int .i64) x8), (4, .v 0 (.int .i64) x4), (5, .box 9 T_api_Thread x7), (6, .v 0 .bool ((((((decide (x7.1 > (0 : Int))) && (decide (x7.1 < (6 : Int)))) && (x7.1 != (4 : Int))) && (x7.2.1 == (-1 : Int))) || (((x7.1 == (4 : Int)) && (x7.2.1 != x4)) && y9)) || ((x7.1 == (6 : Int)) && y10)))]) (obs := [((!((((decide (x7.1 > (0 : Int))) && (decide (x7.1 < (6 : Int)))) && (x7.1 != (4 : Int))) && (x7.2.1 == (-1 : Int)))) && ((x7.1 == (4 : Int)) && (x7.2.1 != x4))) = true → ACall prog 32 [⟨T_api_State, p0⟩, ⟨.int .i64, x7.2.1⟩] [⟨0, .bool, y9⟩], ((!(((((decide (x7.1 > (0 : Int))) && (decide (x7.1 < (6 : Int)))) && (x7.1 != (4 : Int))) && (x7.2.1 == (-1 : Int))) || (((x7.1 == (4 : Int)) && (x7.2.1 != x4)) && y9))) && (x7.1 == (6 : Int))) = true → ACall prog 66 [⟨T_api_State, p0⟩, ⟨.int .i64, x7.2.1⟩] [⟨0, .bool, y10⟩]]) (by kernel_rfl) (⟨fun hc => r14_Thread.ok (bif_some ey9 hc), fun hc => r14_Lock.ok (bif_some ey10 hc)⟩) ?_
            refine W_gen (x := (((((decide (x7.1 > (0 : Int))) && (decide (x7.1 < (6 : Int)))) && (x7.1 != (4 : Int))) && (x7.2.1 == (-1 : Int))) || (((x7.1 == (4 : Int)) && (x7.2.1 != x4)) && y9)) || ((x7.1 == (6 : Int)) && y10)) (En := fun x11 => [(1, .box 0 T_api_State p0), (3, .v 0 (.int .i64) x8), (4, .v 0 (.int .i64) x4), (5, .box 9 T_api_Thread x7), (6, .v 0 .bool x11)]) h (fun x11 h => ?_)
            refine W_seq ?_
            obtain ⟨y12, ey12, h⟩ := h.bind
            refine W_region mixed tys_ok (sup := [.res [(0, ⟨0, .bool, y12⟩)]]) (l := [(1, 0), (3, 0), (4, 0), (5, 9), (6, 0), (7, 0)]) (E' := [(1, .box 0 T_api_State p0), (3, .v 0 (.int .i64) x8), (4, .v 0 (.int .i64) x4), (5, .box 9 T_api_Thread x7), (6, .v 0 .bool x11), (7, .v 0 .bool ((x7.2.2.1 == (-1 : Int)) || ((x7.1 != (5 : Int)) && y12)))]) (obs := [((!(x7.2.2.1 == (-1 : Int))) && (x7.1 != (5 : Int))) = true → ACall prog 100 [⟨T_api_State, p0⟩, ⟨.int .i64, x7.2.2.1⟩, ⟨.int .i64, (4 : Int)⟩, ⟨.int .i64, x4⟩] [⟨0, .bool, y12⟩]]) (by kernel_rfl) (fun hc => r14_Is.ok (bif_some ey12 hc)) ?_
            refine W_gen (x := (x7.2.2.1 == (-1 : Int)) || ((x7.1 != (5 : Int)) && y12)) (En := fun x13 => [(1, .box 0 T_api_State p0), (3, .v 0 (.int .i64) x8), (4, .v 0 (.int .i64) x4), (5, .box 9 T_api_Thread x7), (6, .v 0 .bool x11), (7, .v 0 .bool x13)]) h (fun x13 h => ?_)
            refine W_seq ?_
            refine W_region mixed tys_ok (sup := []) (l := [(1, 0), (3, 0), (4, 0), (5, 9), (6, 0), (7, 0), (8, 0)]) (E' := [(1, .box 0 T_api_State p0), (3, .v 0 (.int .i64) x8), (4, .v 0 (.int .i64) x4), (5, .box 9 T_api_Thread x7), (6, .v 0 .bool x11), (7, .v 0 .bool x13), (8, .v 0 .bool ((x7.2.2.2.1 == (1 : Int)) && (x7.2.2.2.2 == (1 : Int))))]) (obs := []) (by kernel_rfl) (trivial) ?_
            refine W_gen (x := (x7.2.2.2.1 == (1 : Int)) && (x7.2.2.2.2 == (1 : Int))) (En := fun x14 => [(1, .box 0 T_api_State p0), (3, .v 0 (.int .i64) x8), (4, .v 0 (.int .i64) x4), (5, .box 9 T_api_Thread x7), (6, .v 0 .bool x11), (7, .v 0 .bool x13), (8, .v 0 .bool x14)]) h (fun x14 h => ?_)
            refine W_seq ?_
            refine W_region mixed tys_ok (sup := []) (l := [(1, 0), (3, 0), (4, 0), (130, 0)]) (E' := [(1, .box 0 T_api_State p0), (3, .v 0 (.int .i64) x8), (4, .v 0 (.int .i64) x4), (130, .v 0 .bool (((!x11) || (!x13)) || ((!x14) && (((decide (x7.2.2.2.2 < (1 : Int))) || (decide (x7.2.2.2.2 ≥ x7.2.2.2.1))) || (decide (x7.2.2.2.1 > p0.2.2.2.2.2))))))]) (obs := []) (by kernel_rfl) (trivial) ?_
            refine W_cond (β := ((!x11) || (!x13)) || ((!x14) && (((decide (x7.2.2.2.2 < (1 : Int))) || (decide (x7.2.2.2.2 ≥ x7.2.2.2.1))) || (decide (x7.2.2.2.1 > p0.2.2.2.2.2))))) (by kernel_rfl) (fun hb => ?_) (fun hb => ?_)
            · rw [cond_tt hb] at h
              refine W_seq ?_
              refine W_region mixed tys_ok (sup := []) (l := [(2, 0)]) (E' := [(2, .v 0 .bool false)]) (obs := []) (by kernel_rfl) (trivial) ?_
              refine W_keep (l := [(2, 0)]) (E' := [(2, .v 0 .bool false)]) (by kernel_rfl) ?_
              replace h : false = r := h
              subst h
              exact W_ret tys_ok hw0 (by kernel_rfl) (by kernel_rfl)
            · rw [cond_ff hb] at h
              refine W_skip ?_
              refine W_blk ?_
              refine W_keep (l := [(1, 0), (3, 0), (4, 0)]) (E' := [(1, .box 0 T_api_State p0), (3, .v 0 (.int .i64) x8), (4, .v 0 (.int .i64) x4)]) (by kernel_rfl) ?_
              exact j2 x8 h
          · intro j3
            refine W_cond (β := x7.1 == (3 : Int)) (by kernel_rfl) (fun hb => ?_) (fun hb => ?_)
            · rw [cond_tt hb] at h
              refine W_region mixed tys_ok (sup := []) (l := [(1, 0), (3, 0), (4, 0), (5, 9)]) (E' := [(1, .box 0 T_api_State p0), (3, .v 0 (.int .i64) (IntKind.i64.wrap (x3 + (1 : Int)))), (4, .v 0 (.int .i64) x4), (5, .box 9 T_api_Thread x7)]) (obs := []) (by kernel_rfl) (trivial) ?_
              refine W_gen (x := IntKind.i64.wrap (x3 + (1 : Int))) (En := fun x15 => [(1, .box 0 T_api_State p0), (3, .v 0 (.int .i64) x15), (4, .v 0 (.int .i64) x4), (5, .box 9 T_api_Thread x7)]) h (fun x15 h => ?_)
              refine W_keep (l := [(1, 0), (3, 0), (4, 0), (5, 9)]) (E' := [(1, .box 0 T_api_State p0), (3, .v 0 (.int .i64) x15), (4, .v 0 (.int .i64) x4), (5, .box 9 T_api_Thread x7)]) (by kernel_rfl) ?_
              exact j3 x15 h
            · rw [cond_ff hb] at h
              refine W_skip ?_
              refine W_keep (l := [(1, 0), (3, 0), (4, 0), (5, 9)]) (E' := [(1, .box 0 T_api_State p0), (3, .v 0 (.int .i64) x3), (4, .v 0 (.int .i64) x4), (5, .box 9 T_api_Thread x7)]) (by kernel_rfl) ?_
              exact j3 x3 h
    · rw [cond_ff hb] at h
      refine W_exit rfl ?_
      refine W_keep (l := [(1, 0), (3, 0)]) (E' := [(1, .box 0 T_api_State p0), (3, .v 0 (.int .i64) x3)]) (by kernel_rfl) ?_
      exact j1 x3 h.back

noncomputable def r14_locks_j1 (p0 : D_api_State) : Option (Bool) :=
  ass (((decide ((p0.2.2.2.1.length : Int) ≤ (8 : Int))) && (!((p0.2.2.2.1.length : Int) == (0 : Int)))) = true → 0 ≤ IntKind.i64.wrap ((p0.2.2.2.1.length : Int) - (1 : Int)) ∧ IntKind.i64.wrap ((p0.2.2.2.1.length : Int) - (1 : Int)) < (p0.2.2.2.1.length : Int)) <|
  bnd ((decide ((p0.2.2.2.1.length : Int) ≤ (8 : Int))) && (((p0.2.2.2.1.length : Int) == (0 : Int)) || (rd z_api_Lock p0.2.2.2.1 (IntKind.i64.wrap ((p0.2.2.2.1.length : Int) - (1 : Int)))).1)) fun x1 =>
  some x1
noncomputable def r14_locks_j2 (x2 : Int) : Option (Int ⊕ Bool) :=
  bnd (IntKind.i64.wrap (x2 + (1 : Int))) fun x3 =>
  some (.inl x3)
noncomputable def r14_locks_j3 (x2 : Int) : Option (Int ⊕ Bool) :=
  r14_locks_j2 x2
noncomputable def r14_locks_b2 (p0 : D_api_State) (x2 : Int) (x4 : D_api_Lock) (x6 : Int) : Option (Int ⊕ (Int ⊕ Bool)) :=
  bif decide (x6 < (p0.2.2.1.length : Int)) then
    (r14_Is p0 x6 (6 : Int) x2).bind fun y7 =>
    bif y7 && ((x4.2 == (-1 : Int)) || (x4.2 == x6)) then
      some (.inr (.inr false))
    else
      bnd (IntKind.i64.wrap (x6 + (1 : Int))) fun x8 =>
      some (.inl x8)
  else
    (r14_locks_j3 x2).map .inr
noncomputable def r14_locks_b1 (p0 : D_api_State) (x2 : Int) : Option (Int ⊕ Bool) :=
  bif decide (x2 < (p0.2.2.2.1.length : Int)) then
    ass (0 ≤ x2 ∧ x2 < (p0.2.2.2.1.length : Int)) <|
    bnd (rd z_api_Lock p0.2.2.2.1 x2) fun x4 =>
    bif !x4.1 then
      bif x4.2 != (0 : Int) then
        some (.inr false)
      else
        r14_locks_j2 x2
    else
      (bif x4.2 != (-1 : Int) then r14_Thread p0 x4.2 else some false).bind fun y5 =>
      bif (x4.2 != (-1 : Int)) && (!y5) then
        some (.inr false)
      else
        loopM (fun x : Int => r14_locks_b2 p0 x2 x4 x) (0 : Int)
  else
    (r14_locks_j1 p0).map .inr
noncomputable def r14_locks (p0 : D_api_State) : Option Bool :=
  loopM (fun x : Int => r14_locks_b1 p0 x) (0 : Int)
theorem r14_locks.ok {p0 : D_api_State} {r : Bool} (h : r14_locks p0 = some r) : ACall prog 81 [⟨T_api_State, p0⟩] [⟨0, .bool, r⟩] := by
  replace h := Leads.of h
  unfold r14_locks at h
  refine acall_of func81 (by kernel_rfl) rfl (by kernel_rfl) fun w0 F0 hw0 => ?_
  refine W_seq ?_
  refine W_region mixed tys_ok (sup := []) (l := [(1, 0)]) (E' := [(1, .box 0 T_api_State p0)]) (obs := []) (by kernel_rfl) (trivial) ?_
  refine W_seq ?_
  refine W_seq ?_
  refine W_region mixed tys_ok (sup := []) (l := [(1, 0), (3, 0)]) (E' := [(1, .box 0 T_api_State p0), (3, .v 0 (.int .i64) (0 : Int))]) (obs := []) (by kernel_rfl) (trivial) ?_
  refine W_join h (Ej := fun (x : Unit) => [(1, .box 0 T_api_State p0)]) (p := fun x => r14_locks_j1 p0) ?_ ?_
  · rintro ⟨⟩ h
    replace h : Leads _ (r14_locks_j1 p0) := h
    unfold r14_locks_j1 at h
    show W _ _ _ _ _ _ [(1, .box 0 T_api_State p0)]
    refine W_seq ?_
    refine W_region mixed tys_ok (sup := []) (l := [(1, 0), (6, 0)]) (E' := [(1, .box 0 T_api_State p0), (6, .v 0 (.int .i64) (p0.2.2.2.1.length : Int))]) (obs := []) (by kernel_rfl) (trivial) ?_
    refine W_seq ?_
    obtain ⟨o1, h⟩ := h.ass
    refine W_region mixed tys_ok (sup := []) (l := [(2, 0)]) (E' := [(2, .v 0 .bool ((decide ((p0.2.2.2.1.length : Int) ≤ (8 : Int))) && (((p0.2.2.2.1.length : Int) == (0 : Int)) || (rd z_api_Lock p0.2.2.2.1 (IntKind.i64.wrap ((p0.2.2.2.1.length : Int) - (1 : Int)))).1)))]) (obs := [((decide ((p0.2.2.2.1.length : Int) ≤ (8 : Int))) && (!((p0.2.2.2.1.length : Int) == (0 : Int)))) = true → 0 ≤ IntKind.i64.wrap ((p0.2.2.2.1.length : Int) - (1 : Int)) ∧ IntKind.i64.wrap ((p0.2.2.2.1.length : Int) - (1 : Int)) < (p0.2.2.2.1.length : Int)]) (by kernel_rfl) (o1) ?_
    refine W_gen (x := (decide ((p0.2.2.2.1.length : Int) ≤ (8 : Int))) && (((p0.2.2.2.1.length : Int) == (0 : Int)) || (rd z_api_Lock p0.2.2.2.1 (IntKind.i64.wrap ((p0.2.2.2.1.length : Int) - (1 : Int)))).1)) (En := fun x1 => [(2, .v 0 .bool x1)]) h (fun x1 h => ?_)
    refine W_keep (l := [(2, 0)]) (E' := [(2, .v 0 .bool x1)]) (by kernel_rfl) ?_
    replace h : x1 = r := h
    subst h
    exact W_ret tys_ok hw0 (by kernel_rfl) (by kernel_rfl)
  · intro j1
    refine W_block ?_
    refine W_keep (l := [(1, 0), (3, 0)]) (E' := [(1, .box 0 T_api_State p0), (3, .v 0 (.int .i64) (0 : Int))]) (by kernel_rfl) ?_
    refine W_loop' (En := fun (x : Int) => [(1, .box 0 T_api_State p0), (3, .v 0 (.int .i64) x)]) (x := (0 : Int)) h ?_
    rintro x2 K h
    replace h : Leads _ (r14_locks_b1 p0 x2) := h
    unfold r14_locks_b1 at h
    show W _ _ _ _ _ _ [(1, .box 0 T_api_State p0), (3, .v 0 (.int .i64) x2)]
    refine W_seq ?_
    refine W_seq ?_
    refine W_region mixed tys_ok (sup := []) (l := [(1, 0), (3, 0), (11, 0)]) (E' := [(1, .box 0 T_api_State p0), (3, .v 0 (.int .i64) x2), (11, .v 0 .bool (decide (x2 < (p0.2.2.2.1.length : Int))))]) (obs := []) (by kernel_rfl) (trivial) ?_
    refine W_cond (β := decide (x2 < (p0.2.2.2.1.length : Int))) (by kernel_rfl) (fun hb => ?_) (fun hb => ?_)
    · rw [cond_tt hb] at h
      refine W_skip ?_
      refine W_seq ?_
      refine W_join h (Ej := fun (x : Unit) => [(1, .box 0 T_api_State p0), (3, .v 0 (.int .i64) x2)]) (p := fun x => r14_locks_j2 x2) ?_ ?_
      · rintro ⟨⟩ h
        replace h : Leads _ (r14_locks_j2 x2) := h
        unfold r14_locks_j2 at h
        show W _ _ _ _ _ _ [(1, .box 0 T_api_State p0), (3, .v 0 (.int .i64) x2)]
        refine W_region mixed tys_ok (sup := []) (l := [(1, 0), (3, 0)]) (E' := [(1, .box 0 T_api_State p0), (3, .v 0 (.int .i64) (IntKind.i64.wrap (x2 + (1 : Int))))]) (obs := []) (by kernel_rfl) (trivial) ?_
        refine W_gen (x := IntKind.i64.wrap (x2 + (1 : Int))) (En := fun x3 => [(1, .box 0 T_api_State p0), (3, .v 0 (.int .i64) x3)]) h (fun x3 h => ?_)
        refine W_keep (l := [(1, 0), (3, 0)]) (E' := [(1, .box 0 T_api_State p0), (3, .v 0 (.int .i64) x3)]) (by kernel_rfl) ?_
        exact W_abs h
      · intro j2
        refine W_block ?_
        refine W_seq ?_
        obtain ⟨o1, h⟩ := h.ass
        refine W_region mixed tys_ok (sup := []) (l := [(1, 0), (3, 0), (4, 9)]) (E' := [(1, .box 0 T_api_State p0), (3, .v 0 (.int .i64) x2), (4, .box 9 T_api_Lock (rd z_api_Lock p0.2.2.2.1 x2))]) (obs := [0 ≤ x2 ∧ x2 < (p0.2.2.2.1.length : Int)]) (by kernel_rfl) (o1) ?_
        refine W_gen (x := rd z_api_Lock p0.2.2.2.1 x2) (En := fun x4 => [(1, .box 0 T_api_State p0), (3, .v 0 (.int .i64) x2), (4, .box 9 T_api_Lock x4)]) h (fun x4 h => ?_)
        refine W_seq ?_
        refine W_seq ?_
        refine W_region mixed tys_ok (sup := []) (l := [(1, 0), (3, 0), (4, 9), (21, 0)]) (E' := [(1, .box 0 T_api_State p0), (3, .v 0 (.int .i64) x2), (4, .box 9 T_api_Lock x4), (21, .v 0 .bool (!x4.1))]) (obs := []) (by kernel_rfl) (trivial) ?_
        refine W_cond (β := !x4.1) (by kernel_rfl) (fun hb => ?_) (fun hb => ?_)
        · rw [cond_tt hb] at h
          refine W_seq ?_
          refine W_seq ?_
          refine W_region mixed tys_ok (sup := []) (l := [(1, 0), (3, 0), (24, 0)]) (E' := [(1, .box 0 T_api_State p0), (3, .v 0 (.int .i64) x2), (24, .v 0 .bool (x4.2 != (0 : Int)))]) (obs := []) (by kernel_rfl) (trivial) ?_
          refine W_cond (β := x4.2 != (0 : Int)) (by kernel_rfl) (fun hb => ?_) (fun hb => ?_)
          · rw [cond_tt hb] at h
            refine W_seq ?_
            refine W_region mixed tys_ok (sup := []) (l := [(2, 0)]) (E' := [(2, .v 0 .bool false)]) (obs := []) (by kernel_rfl) (trivial) ?_
            refine W_keep (l := [(2, 0)]) (E' := [(2, .v 0 .bool false)]) (by kernel_rfl) ?_
            replace h : false = r := h
            subst h
            exact W_ret tys_ok hw0 (by kernel_rfl) (by kernel_rfl)
          · rw [cond_ff hb] at h
            refine W_skip ?_
            refine W_exit rfl ?_
            refine W_keep (l := [(1, 0), (3, 0)]) (E' := [(1, .box 0 T_api_State p0), (3, .v 0 (.int .i64) x2)]) (by kernel_rfl) ?_
            exact j2 () h
        · rw [cond_ff hb] at h
          refine W_skip ?_
          refine W_seq ?_
          refine W_seq ?_
          obtain ⟨y5, ey5, h⟩ := h.bind
          refine W_region mixed tys_ok (sup := [.res [(0, ⟨0, .bool, y5⟩)]]) (l := [(1, 0), (3, 0), (4, 9), (34, 0)]) (E' := [(1, .box 0 T_api_State p0), (3, .v 0 (.int .i64) x2), (4, .box 9 T_api_Lock x4), (34, .v 0 .bool ((x4.2 != (-1 : Int)) && (!y5)))]) (obs := [(x4.2 != (-1 : Int)) = true → ACall prog 32 [⟨T_api_State, p0⟩, ⟨.int .i64, x4.2⟩] [⟨0, .bool, y5⟩]]) (by kernel_rfl) (fun hc => r14_Thread.ok (bif_some ey5 hc)) ?_
          refine W_cond (β := (x4.2 != (-1 : Int)) && (!y5)) (by kernel_rfl) (fun hb => ?_) (fun hb => ?_)
          · rw [cond_tt hb] at h
            refine W_seq ?_
            refine W_region mixed tys_ok (sup := []) (l := [(2, 0)]) (E' := [(2, .v 0 .bool false)]) (obs := []) (by kernel_rfl) (trivial) ?_
            refine W_keep (l := [(2, 0)]) (E' := [(2, .v 0 .bool false)]) (by kernel_rfl) ?_
            replace h : false = r := h
            subst h
            exact W_ret tys_ok hw0 (by kernel_rfl) (by kernel_rfl)
          · rw [cond_ff hb] at h
            refine W_skip ?_
            refine W_seq ?_
            refine W_region mixed tys_ok (sup := []) (l := [(1, 0), (3, 0), (4, 9), (5, 0)]) (E' := [(1, .box 0 T_api_State p0), (3, .v 0 (.int .i64) x2), (4, .box 9 T_api_Lock x4), (5, .v 0 (.int .i64) (0 : Int))]) (obs := []) (by kernel_rfl) (trivial) ?_
            refine W_join h (Ej := fun (x : Unit) => [(1, .box 0 T_api_State p0), (3, .v 0 (.int .i64) x2)]) (p := fun x => r14_locks_j3 x2) ?_ ?_
            · rintro ⟨⟩ h
              replace h : Leads _ (r14_locks_j3 x2) := h
              unfold r14_locks_j3 at h
              show W _ _ _ _ _ _ [(1, .box 0 T_api_State p0), (3, .v 0 (.int .i64) x2)]
              refine W_blk ?_
              refine W_keep (l := [(1, 0), (3, 0)]) (E' := [(1, .box 0 T_api_State p0), (3, .v 0 (.int .i64) x2)]) (by kernel_rfl) ?_
              exact j2 () h
            · intro j3
              refine W_block ?_
              refine W_keep (l := [(1, 0), (3, 0), (4, 9), (5, 0)]) (E' := [(1, .box 0 T_api_State p0), (3, .v 0 (.int .i64) x2), (4, .box 9 T_api_Lock x4), (5, .v 0 (.int .i64) (0 : Int))]) (by kernel_rfl) ?_
              refine W_loop' (En := fun (x : Int) => [(1, .box 0 T_api_State p0), (3, .v 0 (.int .i64) x2), (4, .box 9 T_api_Lock x4), (5, .v 0 (.int .i64) x)]) (x := (0 : Int)) h ?_
              rintro x6 K h
              replace h : Leads _ (r14_locks_b2 p0 x2 x4 x6) := h
              unfold r14_locks_b2 at h
              show W _ _ _ _ _ _ [(1, .box 0 T_api_State p0), (3, .v 0 (.int .i64) x2), (4, .box 9 T_api_Lock x4), (5, .v 0 (.int .i64) x6)]
              refine W_seq ?_
              refine W_seq ?_
              refine W_region mixed tys_ok (sup := []) (l := [(1, 0), (3, 0), (4, 9), (5, 0), (39, 0)]) (E' := [(1, .box 0 T_api_State p0), (3, .v 0 (.int .i64) x2), (4, .box 9 T_api_Lock x4), (5, .v 0 (.int .i64) x6), (39, .v 0 .bool (decide (x6 < (p0.2.2.1.length : Int))))]) (obs := []) (by kernel_rfl) (trivial) ?_
              refine W_cond (β := decide (x6 < (p0.2.2.1.length : Int))) (by kernel_rfl) (fun hb => ?_) (fun hb => ?_)
              · rw [cond_tt hb] at h
                refine W_skip ?_
                refine W_seq ?_
                refine W_block ?_
                refine W_seq ?_
                obtain ⟨y7, ey7, h⟩ := h.bind
                refine W_region mixed tys_ok (sup := [.res [(0, ⟨0, .bool, y7⟩)]]) (l := [(1, 0), (3, 0), (4, 9), (5, 0), (56, 0)]) (E' := [(1, .box 0 T_api_State p0), (3, .v 0 (.int .i64) x2), (4, .box 9 T_api_Lock x4), (5, .v 0 (.int .i64) x6), (56, .v 0 .bool (y7 && ((x4.2 == (-1 : Int)) || (x4.2 == x6))))]) (obs := [ACall prog 100 [⟨T_api_State, p0⟩, ⟨.int .i64, x6⟩, ⟨.int .i64, (6 : Int)⟩, ⟨.int .i64, x2⟩] [⟨0, .bool, y7⟩]]) (by kernel_rfl) (r14_Is.ok ey7) ?_
                refine W_cond (β := y7 && ((x4.2 == (-1 : Int)) || (x4.2 == x6))) (by kernel_rfl) (fun hb => ?_) (fun hb => ?_)
                · rw [cond_tt hb] at h
                  refine W_seq ?_
                  refine W_region mixed tys_ok (sup := []) (l := [(2, 0)]) (E' := [(2, .v 0 .bool false)]) (obs := []) (by kernel_rfl) (trivial) ?_
                  refine W_keep (l := [(2, 0)]) (E' := [(2, .v 0 .bool false)]) (by kernel_rfl) ?_
                  replace h : false = r := h
                  subst h
                  exact W_ret tys_ok hw0 (by kernel_rfl) (by kernel_rfl)
                · rw [cond_ff hb] at h
                  refine W_skip ?_
                  refine W_blk ?_
                  refine W_region mixed tys_ok (sup := []) (l := [(1, 0), (3, 0), (4, 9), (5, 0)]) (E' := [(1, .box 0 T_api_State p0), (3, .v 0 (.int .i64) x2), (4, .box 9 T_api_Lock x4), (5, .v 0 (.int .i64) (IntKind.i64.wrap (x6 + (1 : Int))))]) (obs := []) (by kernel_rfl) (trivial) ?_
                  refine W_gen (x := IntKind.i64.wrap (x6 + (1 : Int))) (En := fun x8 => [(1, .box 0 T_api_State p0), (3, .v 0 (.int .i64) x2), (4, .box 9 T_api_Lock x4), (5, .v 0 (.int .i64) x8)]) h (fun x8 h => ?_)
                  refine W_keep (l := [(1, 0), (3, 0), (4, 9), (5, 0)]) (E' := [(1, .box 0 T_api_State p0), (3, .v 0 (.int .i64) x2), (4, .box 9 T_api_Lock x4), (5, .v 0 (.int .i64) x8)]) (by kernel_rfl) ?_
                  exact W_abs h
              · rw [cond_ff hb] at h
                refine W_exit rfl ?_
                refine W_keep (l := [(1, 0), (3, 0)]) (E' := [(1, .box 0 T_api_State p0), (3, .v 0 (.int .i64) x2)]) (by kernel_rfl) ?_
                exact j3 () h.back
    · rw [cond_ff hb] at h
      refine W_exit rfl ?_
      refine W_keep (l := [(1, 0)]) (E' := [(1, .box 0 T_api_State p0)]) (by kernel_rfl) ?_
      exact j1 () h.back

noncomputable def r14_Queues (p0 : D_api_State) (p1 : Int) : Option Bool :=
  ass (0 ≤ p1 ∧ p1 < (p0.2.2.1.length : Int)) <|
  bnd (rd z_api_Thread p0.2.2.1 p1) fun x1 =>
  bif x1.1 == (4 : Int) then
    ass (0 ≤ x1.2.1 ∧ x1.2.1 < (p0.2.2.1.length : Int)) <|
    bnd ((rd z_api_Thread p0.2.2.1 x1.2.1).2.2.1 != p1) fun x2 =>
    some x2
  else
    bnd (x1.1 == (6 : Int)) fun x3 =>
    some x3
theorem r14_Queues.ok {p0 : D_api_State} {p1 : Int} {r : Bool} (h : r14_Queues p0 p1 = some r) : ACall prog 177 [⟨T_api_State, p0⟩, ⟨.int .i64, p1⟩] [⟨0, .bool, r⟩] := by
  replace h := Leads.of h
  unfold r14_Queues at h
  refine acall_of func177 (by kernel_rfl) rfl (by kernel_rfl) fun w0 F0 hw0 => ?_
  refine W_seq ?_
  refine W_region mixed tys_ok (sup := []) (l := [(1, 0), (2, 0)]) (E' := [(1, .v 0 (.int .i64) p1), (2, .box 0 T_api_State p0)]) (obs := []) (by kernel_rfl) (trivial) ?_
  refine W_seq ?_
  obtain ⟨o1, h⟩ := h.ass
  refine W_region mixed tys_ok (sup := []) (l := [(1, 0), (2, 0), (5, 9)]) (E' := [(1, .v 0 (.int .i64) p1), (2, .box 0 T_api_State p0), (5, .box 9 T_api_Thread (rd z_api_Thread p0.2.2.1 p1))]) (obs := [0 ≤ p1 ∧ p1 < (p0.2.2.1.length : Int)]) (by kernel_rfl) (o1) ?_
  refine W_gen (x := rd z_api_Thread p0.2.2.1 p1) (En := fun x1 => [(1, .v 0 (.int .i64) p1), (2, .box 0 T_api_State p0), (5, .box 9 T_api_Thread x1)]) h (fun x1 h => ?_)
  refine W_seq ?_
  refine W_seq ?_
  refine W_region mixed tys_ok (sup := []) (l := [(1, 0), (2, 0), (5, 9), (13, 0)]) (E' := [(1, .v 0 (.int .i64) p1), (2, .box 0 T_api_State p0), (5, .box 9 T_api_Thread x1), (13, .v 0 .bool (x1.1 == (4 : Int)))]) (obs := []) (by kernel_rfl) (trivial) ?_
  refine W_cond (β := x1.1 == (4 : Int)) (by kernel_rfl) (fun hb => ?_) (fun hb => ?_)
  · rw [cond_tt hb] at h
    refine W_seq ?_
    obtain ⟨o1, h⟩ := h.ass
    refine W_region mixed tys_ok (sup := []) (l := [(4, 0)]) (E' := [(4, .v 0 .bool ((rd z_api_Thread p0.2.2.1 x1.2.1).2.2.1 != p1))]) (obs := [0 ≤ x1.2.1 ∧ x1.2.1 < (p0.2.2.1.length : Int)]) (by kernel_rfl) (o1) ?_
    refine W_gen (x := (rd z_api_Thread p0.2.2.1 x1.2.1).2.2.1 != p1) (En := fun x2 => [(4, .v 0 .bool x2)]) h (fun x2 h => ?_)
    refine W_keep (l := [(4, 0)]) (E' := [(4, .v 0 .bool x2)]) (by kernel_rfl) ?_
    replace h : x2 = r := h
    subst h
    exact W_ret tys_ok hw0 (by kernel_rfl) (by kernel_rfl)
  · rw [cond_ff hb] at h
    refine W_skip ?_
    refine W_seq ?_
    refine W_region mixed tys_ok (sup := []) (l := [(4, 0)]) (E' := [(4, .v 0 .bool (x1.1 == (6 : Int)))]) (obs := []) (by kernel_rfl) (trivial) ?_
    refine W_gen (x := x1.1 == (6 : Int)) (En := fun x3 => [(4, .v 0 .bool x3)]) h (fun x3 h => ?_)
    refine W_keep (l := [(4, 0)]) (E' := [(4, .v 0 .bool x3)]) (by kernel_rfl) ?_
    replace h : x3 = r := h
    subst h
    exact W_ret tys_ok hw0 (by kernel_rfl) (by kernel_rfl)

noncomputable def r14_queue_j2 : Option (Bool) :=
  some true
noncomputable def r14_queue_b1 (p0 : D_api_State) (x1 : Int) : Option (Int ⊕ Bool) :=
  bif decide (x1 < (p0.2.2.2.2.1.length : Int)) then
    ass (0 ≤ x1 ∧ x1 < (p0.2.2.2.2.1.length : Int)) <|
    ass ((!(decide ((rd (0 : Int) p0.2.2.2.2.1 x1) < (0 : Int)))) = true → 0 ≤ x1 ∧ x1 < (p0.2.2.2.2.1.length : Int)) <|
    bif (decide ((rd (0 : Int) p0.2.2.2.2.1 x1) < (0 : Int))) || (decide ((rd (0 : Int) p0.2.2.2.2.1 x1) ≥ (p0.2.2.1.length : Int))) then
      some (.inr false)
    else
      bnd (IntKind.i64.wrap (x1 + (1 : Int))) fun x2 =>
      some (.inl x2)
  else
    (r14_queue_j2).map .inr
noncomputable def r14_queue_j1 (p0 : D_api_State) : Option (Bool) :=
  loopM (fun x : Int => r14_queue_b1 p0 x) (0 : Int)
noncomputable def r14_queue_j3 (x3 : Int) : Option (Int ⊕ Bool) :=
  bnd (IntKind.i64.wrap (x3 + (1 : Int))) fun x4 =>
  some (.inl x4)
noncomputable def r14_queue_j4 (p0 : D_api_State) (x3 : Int) (x5 : Int) : Option (Int ⊕ Bool) :=
  (r14_Queues p0 x3).bind fun y6 =>
  bif (y6 != (x5 == (1 : Int))) || (decide (x5 > (1 : Int))) then
    some (.inr false)
  else
    ass ((x5 == (1 : Int)) = true → 0 ≤ x3 ∧ x3 < (p0.2.2.1.length : Int)) <|
    ass (((x5 == (1 : Int)) && ((rd z_api_Thread p0.2.2.1 x3).1 == (4 : Int))) = true → 0 ≤ x3 ∧ x3 < (p0.2.2.1.length : Int)) <|
    ass (((x5 == (1 : Int)) && ((rd z_api_Thread p0.2.2.1 x3).1 == (4 : Int))) = true → 0 ≤ (rd z_api_Thread p0.2.2.1 x3).2.1 ∧ (rd z_api_Thread p0.2.2.1 x3).2.1 < (p0.2.2.1.length : Int)) <|
    bif ((x5 == (1 : Int)) && ((rd z_api_Thread p0.2.2.1 x3).1 == (4 : Int))) && ((rd z_api_Thread p0.2.2.1 (rd z_api_Thread p0.2.2.1 x3).2.1).1 == (5 : Int)) then
      some (.inr false)
    else
      r14_queue_j3 x3
noncomputable def r14_queue_j5 (x8 : Int) (x9 : Int) : Option ((Int × Int) ⊕ (Int ⊕ Bool)) :=
  bnd (IntKind.i64.wrap (x8 + (1 : Int))) fun x10 =>
  some (.inl (x9, x10))
noncomputable def r14_queue_b3 (p0 : D_api_State) (x3 : Int) (x7 : Int) (x8 : Int) : Option ((Int × Int) ⊕ (Int ⊕ Bool)) :=
  bif decide (x8 < (p0.2.2.2.2.1.length : Int)) then
    ass (0 ≤ x8 ∧ x8 < (p0.2.2.2.2.1.length : Int)) <|
    bif (rd (0 : Int) p0.2.2.2.2.1 x8) == x3 then
      bnd (IntKind.i64.wrap (x7 + (1 : Int))) fun x11 =>
      r14_queue_j5 x8 x11
    else
      r14_queue_j5 x8 x7
  else
    (r14_queue_j4 p0 x3 x7).map .inr
noncomputable def r14_queue_b2 (p0 : D_api_State) (x3 : Int) : Option (Int ⊕ Bool) :=
  bif decide (x3 < (p0.2.2.1.length : Int)) then
    loopM (fun x : Int × Int => r14_queue_b3 p0 x3 x.1 x.2) ((0 : Int), (0 : Int))
  else
    (r14_queue_j1 p0).map .inr
noncomputable def r14_queue (p0 : D_api_State) : Option Bool :=
  loopM (fun x : Int => r14_queue_b2 p0 x) (0 : Int)
theorem r14_queue.ok {p0 : D_api_State} {r : Bool} (h : r14_queue p0 = some r) : ACall prog 82 [⟨T_api_State, p0⟩] [⟨0, .bool, r⟩] := by
  replace h := Leads.of h
  unfold r14_queue at h
  refine acall_of func82 (by kernel_rfl) rfl (by kernel_rfl) fun w0 F0 hw0 => ?_
  refine W_seq ?_
  refine W_region mixed tys_ok (sup := []) (l := [(1, 0)]) (E' := [(1, .box 0 T_api_State p0)]) (obs := []) (by kernel_rfl) (trivial) ?_
  refine W_seq ?_
  refine W_seq ?_
  refine W_region mixed tys_ok (sup := []) (l := [(1, 0), (3, 0)]) (E' := [(1, .box 0 T_api_State p0), (3, .v 0 (.int .i64) (0 : Int))]) (obs := []) (by kernel_rfl) (trivial) ?_
  refine W_join h (Ej := fun (x : Unit) => [(1, .box 0 T_api_State p0)]) (p := fun x => r14_queue_j1 p0) ?_ ?_
  · rintro ⟨⟩ h
    replace h : Leads _ (r14_queue_j1 p0) := h
    unfold r14_queue_j1 at h
    show W _ _ _ _ _ _ [(1, .box 0 T_api_State p0)]
    refine W_seq ?_
    refine W_seq ?_
    refine W_region mixed tys_ok (sup := []) (l := [(1, 0), (6, 0)]) (E' := [(1, .box 0 T_api_State p0), (6, .v 0 (.int .i64) (0 : Int))]) (obs := []) (by kernel_rfl) (trivial) ?_
    refine W_join h (Ej := fun (x : Unit) => []) (p := fun x => r14_queue_j2) ?_ ?_
    · rintro ⟨⟩ h
      replace h : Leads _ (r14_queue_j2) := h
      unfold r14_queue_j2 at h
      show W _ _ _ _ _ _ []
      refine W_seq ?_
      refine W_region mixed tys_ok (sup := []) (l := [(2, 0)]) (E' := [(2, .v 0 .bool true)]) (obs := []) (by kernel_rfl) (trivial) ?_
      refine W_keep (l := [(2, 0)]) (E' := [(2, .v 0 .bool true)]) (by kernel_rfl) ?_
      replace h : true = r := h
      subst h
      exact W_ret tys_ok hw0 (by kernel_rfl) (by kernel_rfl)
    · intro j2
      refine W_block ?_
      refine W_keep (l := [(1, 0), (6, 0)]) (E' := [(1, .box 0 T_api_State p0), (6, .v 0 (.int .i64) (0 : Int))]) (by kernel_rfl) ?_
      refine W_loop' (En := fun (x : Int) => [(1, .box 0 T_api_State p0), (6, .v 0 (.int .i64) x)]) (x := (0 : Int)) h ?_
      rintro x1 K h
      replace h : Leads _ (r14_queue_b1 p0 x1) := h
      unfold r14_queue_b1 at h
      show W _ _ _ _ _ _ [(1, .box 0 T_api_State p0), (6, .v 0 (.int .i64) x1)]
      refine W_seq ?_
      refine W_seq ?_
      refine W_region mixed tys_ok (sup := []) (l := [(1, 0), (6, 0), (69, 0)]) (E' := [(1, .box 0 T_api_State p0), (6, .v 0 (.int .i64) x1), (69, .v 0 .bool (decide (x1 < (p0.2.2.2.2.1.length : Int))))]) (obs := []) (by kernel_rfl) (trivial) ?_
      refine W_cond (β := decide (x1 < (p0.2.2.2.2.1.length : Int))) (by kernel_rfl) (fun hb => ?_) (fun hb => ?_)
      · rw [cond_tt hb] at h
        refine W_skip ?_
        refine W_seq ?_
        refine W_block ?_
        refine W_seq ?_
        obtain ⟨o1, h⟩ := h.ass
        obtain ⟨o2, h⟩ := h.ass
        refine W_region mixed tys_ok (sup := []) (l := [(1, 0), (6, 0), (88, 0)]) (E' := [(1, .box 0 T_api_State p0), (6, .v 0 (.int .i64) x1), (88, .v 0 .bool ((decide ((rd (0 : Int) p0.2.2.2.2.1 x1) < (0 : Int))) || (decide ((rd (0 : Int) p0.2.2.2.2.1 x1) ≥ (p0.2.2.1.length : Int)))))]) (obs := [0 ≤ x1 ∧ x1 < (p0.2.2.2.2.1.length : Int), (!(decide ((rd (0 : Int) p0.2.2.2.2.1 x1) < (0 : Int)))) = true → 0 ≤ x1 ∧ x1 < (p0.2.2.2.2.1.length : Int)]) (by kernel_rfl) (⟨o1, o2⟩) ?_
        refine W_cond (β := (decide ((rd (0 : Int) p0.2.2.2.2.1 x1) < (0 : Int))) || (decide ((rd (0 : Int) p0.2.2.2.2.1 x1) ≥ (p0.2.2.1.length : Int)))) (by kernel_rfl) (fun hb => ?_) (fun hb => ?_)
        · rw [cond_tt hb] at h
          refine W_seq ?_
          refine W_region mixed tys_ok (sup := []) (l := [(2, 0)]) (E' := [(2, .v 0 .bool false)]) (obs := []) (by kernel_rfl) (trivial) ?_
          refine W_keep (l := [(2, 0)]) (E' := [(2, .v 0 .bool false)]) (by kernel_rfl) ?_
          replace h : false = r := h
          subst h
          exact W_ret tys_ok hw0 (by kernel_rfl) (by kernel_rfl)
        · rw [cond_ff hb] at h
          refine W_skip ?_
          refine W_blk ?_
          refine W_region mixed tys_ok (sup := []) (l := [(1, 0), (6, 0)]) (E' := [(1, .box 0 T_api_State p0), (6, .v 0 (.int .i64) (IntKind.i64.wrap (x1 + (1 : Int))))]) (obs := []) (by kernel_rfl) (trivial) ?_
          refine W_gen (x := IntKind.i64.wrap (x1 + (1 : Int))) (En := fun x2 => [(1, .box 0 T_api_State p0), (6, .v 0 (.int .i64) x2)]) h (fun x2 h => ?_)
          refine W_keep (l := [(1, 0), (6, 0)]) (E' := [(1, .box 0 T_api_State p0), (6, .v 0 (.int .i64) x2)]) (by kernel_rfl) ?_
          exact W_abs h
      · rw [cond_ff hb] at h
        refine W_exit rfl ?_
        refine W_keep (l := []) (E' := []) (by kernel_rfl) ?_
        exact j2 () h.back
  · intro j1
    refine W_block ?_
    refine W_keep (l := [(1, 0), (3, 0)]) (E' := [(1, .box 0 T_api_State p0), (3, .v 0 (.int .i64) (0 : Int))]) (by kernel_rfl) ?_
    refine W_loop' (En := fun (x : Int) => [(1, .box 0 T_api_State p0), (3, .v 0 (.int .i64) x)]) (x := (0 : Int)) h ?_
    rintro x3 K h
    replace h : Leads _ (r14_queue_b2 p0 x3) := h
    unfold r14_queue_b2 at h
    show W _ _ _ _ _ _ [(1, .box 0 T_api_State p0), (3, .v 0 (.int .i64) x3)]
    refine W_seq ?_
    refine W_seq ?_
    refine W_region mixed tys_ok (sup := []) (l := [(1, 0), (3, 0), (11, 0)]) (E' := [(1, .box 0 T_api_State p0), (3, .v 0 (.int .i64) x3), (11, .v 0 .bool (decide (x3 < (p0.2.2.1.length : Int))))]) (obs := []) (by kernel_rfl) (trivial) ?_
    refine W_cond (β := decide (x3 < (p0.2.2.1.length : Int))) (by kernel_rfl) (fun hb => ?_) (fun hb => ?_)
    · rw [cond_tt hb] at h
      refine W_skip ?_
      refine W_seq ?_
      refine W_join h (Ej := fun (x : Unit) => [(1, .box 0 T_api_State p0), (3, .v 0 (.int .i64) x3)]) (p := fun x => r14_queue_j3 x3) ?_ ?_
      · rintro ⟨⟩ h
        replace h : Leads _ (r14_queue_j3 x3) := h
        unfold r14_queue_j3 at h
        show W _ _ _ _ _ _ [(1, .box 0 T_api_State p0), (3, .v 0 (.int .i64) x3)]
        refine W_region mixed tys_ok (sup := []) (l := [(1, 0), (3, 0)]) (E' := [(1, .box 0 T_api_State p0), (3, .v 0 (.int .i64) (IntKind.i64.wrap (x3 + (1 : Int))))]) (obs := []) (by kernel_rfl) (trivial) ?_
        refine W_gen (x := IntKind.i64.wrap (x3 + (1 : Int))) (En := fun x4 => [(1, .box 0 T_api_State p0), (3, .v 0 (.int .i64) x4)]) h (fun x4 h => ?_)
        refine W_keep (l := [(1, 0), (3, 0)]) (E' := [(1, .box 0 T_api_State p0), (3, .v 0 (.int .i64) x4)]) (by kernel_rfl) ?_
        exact W_abs h
      · intro j3
        refine W_block ?_
        refine W_seq ?_
        refine W_region mixed tys_ok (sup := []) (l := [(1, 0), (3, 0), (4, 0)]) (E' := [(1, .box 0 T_api_State p0), (3, .v 0 (.int .i64) x3), (4, .v 0 (.int .i64) (0 : Int))]) (obs := []) (by kernel_rfl) (trivial) ?_
        refine W_seq ?_
        refine W_seq ?_
        refine W_region mixed tys_ok (sup := []) (l := [(1, 0), (3, 0), (4, 0), (5, 0)]) (E' := [(1, .box 0 T_api_State p0), (3, .v 0 (.int .i64) x3), (4, .v 0 (.int .i64) (0 : Int)), (5, .v 0 (.int .i64) (0 : Int))]) (obs := []) (by kernel_rfl) (trivial) ?_
        refine W_join h (Ej := fun (x : Int) => [(1, .box 0 T_api_State p0), (3, .v 0 (.int .i64) x3), (4, .v 0 (.int .i64) x)]) (p := fun x => r14_queue_j4 p0 x3 x) ?_ ?_
        · rintro x5 h
          replace h : Leads _ (r14_queue_j4 p0 x3 x5) := h
          unfold r14_queue_j4 at h
          show W _ _ _ _ _ _ [(1, .box 0 T_api_State p0), (3, .v 0 (.int .i64) x3), (4, .v 0 (.int .i64) x5)]
          refine W_seq ?_
          refine W_seq ?_
          obtain ⟨y6, ey6, h⟩ := h.bind
          refine W_region mixed tys_ok (sup := [.res [(0, ⟨0, .bool, y6⟩)]]) (l := [(1, 0), (3, 0), (4, 0), (39, 0)]) (E' := [(1, .box 0 T_api_State p0), (3, .v 0 (.int .i64) x3), (4, .v 0 (.int .i64) x5), (39, .v 0 .bool ((y6 != (x5 == (1 : Int))) || (decide (x5 > (1 : Int)))))]) (obs := [ACall prog 177 [⟨T_api_State, p0⟩, ⟨.int .i64, x3⟩] [⟨0, .bool, y6⟩]]) (by kernel_rfl) (r14_Queues.ok ey6) ?_
          refine W_cond (β := (y6 != (x5 == (1 : Int))) || (decide (x5 > (1 : Int)))) (by kernel_rfl) (fun hb => ?_) (fun hb => ?_)
          · rw [cond_tt hb] at h
            refine W_seq ?_
            refine W_region mixed tys_ok (sup := []) (l := [(2, 0)]) (E' := [(2, .v 0 .bool false)]) (obs := []) (by kernel_rfl) (trivial) ?_
            refine W_keep (l := [(2, 0)]) (E' := [(2, .v 0 .bool false)]) (by kernel_rfl) ?_
            replace h : false = r := h
            subst h
            exact W_ret tys_ok hw0 (by kernel_rfl) (by kernel_rfl)
          · rw [cond_ff hb] at h
            refine W_skip ?_
            refine W_seq ?_
            obtain ⟨o1, h⟩ := h.ass
            obtain ⟨o2, h⟩ := h.ass
            obtain ⟨o3, h⟩ := h.ass
            refine W_region mixed tys_ok (sup := []) (l := [(1, 0), (3, 0), (64, 0)]) (E' := [(1, .box 0 T_api_State p0), (3, .v 0 (.int .i64) x3), (64, .v 0 .bool (((x5 == (1 : Int)) && ((rd z_api_Thread p0.2.2.1 x3).1 == (4 : Int))) && ((rd z_api_Thread p0.2.2.1 (rd z_api_Thread p0.2.2.1 x3).2.1).1 == (5 : Int))))]) (obs := [(x5 == (1 : Int)) = true → 0 ≤ x3 ∧ x3 < (p0.2.2.1.length : Int), ((x5 == (1 : Int)) && ((rd z_api_Thread p0.2.2.1 x3).1 == (4 : Int))) = true → 0 ≤ x3 ∧ x3 < (p0.2.2.1.length : Int), ((x5 == (1 : Int)) && ((rd z_api_Thread p0.2.2.1 x3).1 == (4 : Int))) = true → 0 ≤ (rd z_api_Thread p0.2.2.1 x3).2.1 ∧ (rd z_api_Thread p0.2.2.1 x3).2.1 < (p0.2.2.1.length : Int)]) (by kernel_rfl) (⟨o1, o2, o3⟩) ?_
            refine W_cond (β := ((x5 == (1 : Int)) && ((rd z_api_Thread p0.2.2.1 x3).1 == (4 : Int))) && ((rd z_api_Thread p0.2.2.1 (rd z_api_Thread p0.2.2.1 x3).2.1).1 == (5 : Int))) (by kernel_rfl) (fun hb => ?_) (fun hb => ?_)
            · rw [cond_tt hb] at h
              refine W_seq ?_
              refine W_region mixed tys_ok (sup := []) (l := [(2, 0)]) (E' := [(2, .v 0 .bool false)]) (obs := []) (by kernel_rfl) (trivial) ?_
              refine W_keep (l := [(2, 0)]) (E' := [(2, .v 0 .bool false)]) (by kernel_rfl) ?_
              replace h : false = r := h
              subst h
              exact W_ret tys_ok hw0 (by kernel_rfl) (by kernel_rfl)
            · rw [cond_ff hb] at h
              refine W_skip ?_
              refine W_blk ?_
              refine W_keep (l := [(1, 0), (3, 0)]) (E' := [(1, .box 0 T_api_State p0), (3, .v 0 (.int .i64) x3)]) (by kernel_rfl) ?_
              exact j3 () h
        · intro j4
          refine W_block ?_
          refine W_keep (l := [(1, 0), (3, 0), (4, 0), (5, 0)]) (E' := [(1, .box 0 T_api_State p0), (3, .v 0 (.int .i64) x3), (4, .v 0 (.int .i64) (0 : Int)), (5, .v 0 (.int .i64) (0 : Int))]) (by kernel_rfl) ?_
          refine W_loop' (En := fun (x : Int × Int) => [(1, .box 0 T_api_State p0), (3, .v 0 (.int .i64) x3), (4, .v 0 (.int .i64) x.1), (5, .v 0 (.int .i64) x.2)]) (x := ((0 : Int), (0 : Int))) h ?_
          rintro ⟨x7, x8⟩ K h
          replace h : Leads _ (r14_queue_b3 p0 x3 x7 x8) := h
          unfold r14_queue_b3 at h
          show W _ _ _ _ _ _ [(1, .box 0 T_api_State p0), (3, .v 0 (.int .i64) x3), (4, .v 0 (.int .i64) x7), (5, .v 0 (.int .i64) x8)]
          refine W_seq ?_
          refine W_seq ?_
          refine W_region mixed tys_ok (sup := []) (l := [(1, 0), (3, 0), (4, 0), (5, 0), (18, 0)]) (E' := [(1, .box 0 T_api_State p0), (3, .v 0 (.int .i64) x3), (4, .v 0 (.int .i64) x7), (5, .v 0 (.int .i64) x8), (18, .v 0 .bool (decide (x8 < (p0.2.2.2.2.1.length : Int))))]) (obs := []) (by kernel_rfl) (trivial) ?_
          refine W_cond (β := decide (x8 < (p0.2.2.2.2.1.length : Int))) (by kernel_rfl) (fun hb => ?_) (fun hb => ?_)
          · rw [cond_tt hb] at h
            refine W_skip ?_
            refine W_seq ?_
            refine W_block ?_
            refine W_seq ?_
            obtain ⟨o1, h⟩ := h.ass
            refine W_region mixed tys_ok (sup := []) (l := [(1, 0), (3, 0), (4, 0), (5, 0), (27, 0)]) (E' := [(1, .box 0 T_api_State p0), (3, .v 0 (.int .i64) x3), (4, .v 0 (.int .i64) x7), (5, .v 0 (.int .i64) x8), (27, .v 0 .bool ((rd (0 : Int) p0.2.2.2.2.1 x8) == x3))]) (obs := [0 ≤ x8 ∧ x8 < (p0.2.2.2.2.1.length : Int)]) (by kernel_rfl) (o1) ?_
            refine W_join h (Ej := fun (x : Int) => [(1, .box 0 T_api_State p0), (3, .v 0 (.int .i64) x3), (4, .v 0 (.int .i64) x), (5, .v 0 (.int .i64) x8)]) (p := fun x => r14_queue_j5 x8 x) ?_ ?_
            · rintro x9 h
              replace h : Leads _ (r14_queue_j5 x8 x9) := h
              unfold r14_queue_j5 at h
              show W _ _ _ _ _ _ [(1, .box 0 T_api_State p0), (3, .v 0 (.int .i64) x3), (4, .v 0 (.int .i64) x9), (5, .v 0 (.int .i64) x8)]
              refine W_blk ?_
              refine W_region mixed tys_ok (sup := []) (l := [(1, 0), (3, 0), (4, 0), (5, 0)]) (E' := [(1, .box 0 T_api_State p0), (3, .v 0 (.int .i64) x3), (4, .v 0 (.int .i64) x9), (5, .v 0 (.int .i64) (IntKind.i64.wrap (x8 + (1 : Int))))]) (obs := []) (by kernel_rfl) (trivial) ?_
              refine W_gen (x := IntKind.i64.wrap (x8 + (1 : Int))) (En := fun x10 => [(1, .box 0 T_api_State p0), (3, .v 0 (.int .i64) x3), (4, .v 0 (.int .i64) x9), (5, .v 0 (.int .i64) x10)]) h (fun x10 h => ?_)
              refine W_keep (l := [(1, 0), (3, 0), (4, 0), (5, 0)]) (E' := [(1, .box 0 T_api_State p0), (3, .v 0 (.int .i64) x3), (4, .v 0 (.int .i64) x9), (5, .v 0 (.int .i64) x10)]) (by kernel_rfl) ?_
              exact W_abs h
            · intro j5
              refine W_cond (β := (rd (0 : Int) p0.2.2.2.2.1 x8) == x3) (by kernel_rfl) (fun hb => ?_) (fun hb => ?_)
              · rw [cond_tt hb] at h
                refine W_region mixed tys_ok (sup := []) (l := [(1, 0), (3, 0), (4, 0), (5, 0)]) (E' := [(1, .box 0 T_api_State p0), (3, .v 0 (.int .i64) x3), (4, .v 0 (.int .i64) (IntKind.i64.wrap (x7 + (1 : Int)))), (5, .v 0 (.int .i64) x8)]) (obs := []) (by kernel_rfl) (trivial) ?_
                refine W_gen (x := IntKind.i64.wrap (x7 + (1 : Int))) (En := fun x11 => [(1, .box 0 T_api_State p0), (3, .v 0 (.int .i64) x3), (4, .v 0 (.int .i64) x11), (5, .v 0 (.int .i64) x8)]) h (fun x11 h => ?_)
                refine W_keep (l := [(1, 0), (3, 0), (4, 0), (5, 0)]) (E' := [(1, .box 0 T_api_State p0), (3, .v 0 (.int .i64) x3), (4, .v 0 (.int .i64) x11), (5, .v 0 (.int .i64) x8)]) (by kernel_rfl) ?_
                exact j5 x11 h
              · rw [cond_ff hb] at h
                refine W_skip ?_
                refine W_keep (l := [(1, 0), (3, 0), (4, 0), (5, 0)]) (E' := [(1, .box 0 T_api_State p0), (3, .v 0 (.int .i64) x3), (4, .v 0 (.int .i64) x7), (5, .v 0 (.int .i64) x8)]) (by kernel_rfl) ?_
                exact j5 x7 h
          · rw [cond_ff hb] at h
            refine W_exit rfl ?_
            refine W_keep (l := [(1, 0), (3, 0), (4, 0)]) (E' := [(1, .box 0 T_api_State p0), (3, .v 0 (.int .i64) x3), (4, .v 0 (.int .i64) x7)]) (by kernel_rfl) ?_
            exact j4 x7 h.back
    · rw [cond_ff hb] at h
      refine W_exit rfl ?_
      refine W_keep (l := [(1, 0)]) (E' := [(1, .box 0 T_api_State p0)]) (by kernel_rfl) ?_
      exact j1 () h.back

noncomputable def r14_CoinArrows_j1 (x1 : List D_r13_Arrow) : Option (List D_r13_Arrow) :=
  some x1
noncomputable def r14_CoinArrows_j2 (x3 : Int) (x5 : List D_r13_Arrow) : Option (((List D_r13_Arrow) × Int) ⊕ (List D_r13_Arrow)) :=
  bnd (IntKind.i64.wrap (x3 + (1 : Int))) fun x6 =>
  some (.inl (x5, x6))
noncomputable def r14_CoinArrows_b1 (p0 : D_api_State) (x2 : List D_r13_Arrow) (x3 : Int) : Option (((List D_r13_Arrow) × Int) ⊕ (List D_r13_Arrow)) :=
  bif decide (x3 < (p0.2.1.length : Int)) then
    ass (0 ≤ x3 ∧ x3 < (p0.2.1.length : Int)) <|
    bnd (rd z_api_Ticket p0.2.1 x3) fun x4 =>
    bif x4.1 && (x4.2.2.2.1 == (2 : Int)) then
      ass (((x2.length + [(x4.2.1, x4.2.2.2.2.1)].length : Nat) : Int) ≤ limA) <|
      bnd (x2 ++ [(x4.2.1, x4.2.2.2.2.1)]) fun x7 =>
      r14_CoinArrows_j2 x3 x7
    else
      r14_CoinArrows_j2 x3 x2
  else
    (r14_CoinArrows_j1 x2).map .inr
noncomputable def r14_CoinArrows (p0 : D_api_State) : Option (List D_r13_Arrow) :=
  loopM (fun x : (List D_r13_Arrow) × Int => r14_CoinArrows_b1 p0 x.1 x.2) (([] : List D_r13_Arrow), (0 : Int))
theorem r14_CoinArrows.ok {p0 : D_api_State} {r : List D_r13_Arrow} (h : r14_CoinArrows p0 = some r) : ACall prog 49 [⟨T_api_State, p0⟩] [⟨9, .slice T_r13_Arrow, r⟩] := by
  replace h := Leads.of h
  unfold r14_CoinArrows at h
  refine acall_of func49 (by kernel_rfl) rfl (by kernel_rfl) fun w0 F0 hw0 => ?_
  refine W_seq ?_
  refine W_region mixed tys_ok (sup := []) (l := [(1, 0)]) (E' := [(1, .box 0 T_api_State p0)]) (obs := []) (by kernel_rfl) (trivial) ?_
  refine W_seq ?_
  refine W_region mixed tys_ok (sup := []) (l := [(1, 0), (3, 9)]) (E' := [(1, .box 0 T_api_State p0), (3, .v 9 (.slice T_r13_Arrow) ([] : List D_r13_Arrow))]) (obs := []) (by kernel_rfl) (trivial) ?_
  refine W_seq ?_
  refine W_seq ?_
  refine W_region mixed tys_ok (sup := []) (l := [(1, 0), (3, 9), (4, 0)]) (E' := [(1, .box 0 T_api_State p0), (3, .v 9 (.slice T_r13_Arrow) ([] : List D_r13_Arrow)), (4, .v 0 (.int .i64) (0 : Int))]) (obs := []) (by kernel_rfl) (trivial) ?_
  refine W_join h (Ej := fun (x : List D_r13_Arrow) => [(3, .v 9 (.slice T_r13_Arrow) x)]) (p := fun x => r14_CoinArrows_j1 x) ?_ ?_
  · rintro x1 h
    replace h : Leads _ (r14_CoinArrows_j1 x1) := h
    unfold r14_CoinArrows_j1 at h
    show W _ _ _ _ _ _ [(3, .v 9 (.slice T_r13_Arrow) x1)]
    refine W_seq ?_
    refine W_region mixed tys_ok (sup := []) (l := [(2, 9)]) (E' := [(2, .v 9 (.slice T_r13_Arrow) x1)]) (obs := []) (by kernel_rfl) (trivial) ?_
    refine W_keep (l := [(2, 9)]) (E' := [(2, .v 9 (.slice T_r13_Arrow) x1)]) (by kernel_rfl) ?_
    replace h : x1 = r := h
    subst h
    exact W_ret tys_ok hw0 (by kernel_rfl) (by kernel_rfl)
  · intro j1
    refine W_block ?_
    refine W_keep (l := [(1, 0), (3, 9), (4, 0)]) (E' := [(1, .box 0 T_api_State p0), (3, .v 9 (.slice T_r13_Arrow) ([] : List D_r13_Arrow)), (4, .v 0 (.int .i64) (0 : Int))]) (by kernel_rfl) ?_
    refine W_loop' (En := fun (x : (List D_r13_Arrow) × Int) => [(1, .box 0 T_api_State p0), (3, .v 9 (.slice T_r13_Arrow) x.1), (4, .v 0 (.int .i64) x.2)]) (x := (([] : List D_r13_Arrow), (0 : Int))) h ?_
    rintro ⟨x2, x3⟩ K h
    replace h : Leads _ (r14_CoinArrows_b1 p0 x2 x3) := h
    unfold r14_CoinArrows_b1 at h
    show W _ _ _ _ _ _ [(1, .box 0 T_api_State p0), (3, .v 9 (.slice T_r13_Arrow) x2), (4, .v 0 (.int .i64) x3)]
    refine W_seq ?_
    refine W_seq ?_
    refine W_region mixed tys_ok (sup := []) (l := [(1, 0), (3, 9), (4, 0), (10, 0)]) (E' := [(1, .box 0 T_api_State p0), (3, .v 9 (.slice T_r13_Arrow) x2), (4, .v 0 (.int .i64) x3), (10, .v 0 .bool (decide (x3 < (p0.2.1.length : Int))))]) (obs := []) (by kernel_rfl) (trivial) ?_
    refine W_cond (β := decide (x3 < (p0.2.1.length : Int))) (by kernel_rfl) (fun hb => ?_) (fun hb => ?_)
    · rw [cond_tt hb] at h
      refine W_skip ?_
      refine W_seq ?_
      refine W_block ?_
      refine W_seq ?_
      obtain ⟨o1, h⟩ := h.ass
      refine W_region mixed tys_ok (sup := []) (l := [(1, 0), (3, 9), (4, 0), (5, 9)]) (E' := [(1, .box 0 T_api_State p0), (3, .v 9 (.slice T_r13_Arrow) x2), (4, .v 0 (.int .i64) x3), (5, .box 9 T_api_Ticket (rd z_api_Ticket p0.2.1 x3))]) (obs := [0 ≤ x3 ∧ x3 < (p0.2.1.length : Int)]) (by kernel_rfl) (o1) ?_
      refine W_gen (x := rd z_api_Ticket p0.2.1 x3) (En := fun x4 => [(1, .box 0 T_api_State p0), (3, .v 9 (.slice T_r13_Arrow) x2), (4, .v 0 (.int .i64) x3), (5, .box 9 T_api_Ticket x4)]) h (fun x4 h => ?_)
      refine W_seq ?_
      refine W_region mixed tys_ok (sup := []) (l := [(1, 0), (3, 9), (4, 0), (5, 9), (24, 0)]) (E' := [(1, .box 0 T_api_State p0), (3, .v 9 (.slice T_r13_Arrow) x2), (4, .v 0 (.int .i64) x3), (5, .box 9 T_api_Ticket x4), (24, .v 0 .bool (x4.1 && (x4.2.2.2.1 == (2 : Int))))]) (obs := []) (by kernel_rfl) (trivial) ?_
      refine W_join h (Ej := fun (x : List D_r13_Arrow) => [(1, .box 0 T_api_State p0), (3, .v 9 (.slice T_r13_Arrow) x), (4, .v 0 (.int .i64) x3)]) (p := fun x => r14_CoinArrows_j2 x3 x) ?_ ?_
      · rintro x5 h
        replace h : Leads _ (r14_CoinArrows_j2 x3 x5) := h
        unfold r14_CoinArrows_j2 at h
        show W _ _ _ _ _ _ [(1, .box 0 T_api_State p0), (3, .v 9 (.slice T_r13_Arrow) x5), (4, .v 0 (.int .i64) x3)]
        refine W_blk ?_
        refine W_region mixed tys_ok (sup := []) (l := [(1, 0), (3, 9), (4, 0)]) (E' := [(1, .box 0 T_api_State p0), (3, .v 9 (.slice T_r13_Arrow) x5), (4, .v 0 (.int .i64) (IntKind.i64.wrap (x3 + (1 : Int))))]) (obs := []) (by kernel_rfl) (trivial) ?_
        refine W_gen (x := IntKind.i64.wrap (x3 + (1 : Int))) (En := fun x6 => [(1, .box 0 T_api_State p0), (3, .v 9 (.slice T_r13_Arrow) x5), (4, .v 0 (.int .i64) x6)]) h (fun x6 h => ?_)
        refine W_keep (l := [(1, 0), (3, 9), (4, 0)]) (E' := [(1, .box 0 T_api_State p0), (3, .v 9 (.slice T_r13_Arrow) x5), (4, .v 0 (.int .i64) x6)]) (by kernel_rfl) ?_
        exact W_abs h
      · intro j2
        refine W_cond (β := x4.1 && (x4.2.2.2.1 == (2 : Int))) (by kernel_rfl) (fun hb => ?_) (fun hb => ?_)
        · rw [cond_tt hb] at h
          obtain ⟨o1, h⟩ := h.ass
          refine W_region mixed tys_ok (sup := []) (l := [(1, 0), (3, 9), (4, 0)]) (E' := [(1, .box 0 T_api_State p0), (3, .v 9 (.slice T_r13_Arrow) (x2 ++ [(x4.2.1, x4.2.2.2.2.1)])), (4, .v 0 (.int .i64) x3)]) (obs := [((x2.length + [(x4.2.1, x4.2.2.2.2.1)].length : Nat) : Int) ≤ limA]) (by kernel_rfl) (o1) ?_
          refine W_gen (x := x2 ++ [(x4.2.1, x4.2.2.2.2.1)]) (En := fun x7 => [(1, .box 0 T_api_State p0), (3, .v 9 (.slice T_r13_Arrow) x7), (4, .v 0 (.int .i64) x3)]) h (fun x7 h => ?_)
          refine W_keep (l := [(1, 0), (3, 9), (4, 0)]) (E' := [(1, .box 0 T_api_State p0), (3, .v 9 (.slice T_r13_Arrow) x7), (4, .v 0 (.int .i64) x3)]) (by kernel_rfl) ?_
          exact j2 x7 h
        · rw [cond_ff hb] at h
          refine W_skip ?_
          refine W_keep (l := [(1, 0), (3, 9), (4, 0)]) (E' := [(1, .box 0 T_api_State p0), (3, .v 9 (.slice T_r13_Arrow) x2), (4, .v 0 (.int .i64) x3)]) (by kernel_rfl) ?_
          exact j2 x2 h
    · rw [cond_ff hb] at h
      refine W_exit rfl ?_
      refine W_keep (l := [(3, 9)]) (E' := [(3, .v 9 (.slice T_r13_Arrow) x2)]) (by kernel_rfl) ?_
      exact j1 x2 h.back

noncomputable def r13_Reach_j1 (x2 : List Bool) : Option (List Bool) :=
  some x2
noncomputable def r13_Reach_j2 (x7 : Int) (x8 : List Bool) (x9 : Bool) : Option (((List Bool) × Bool × Int) ⊕ (((List Bool) × Bool) ⊕ (List Bool))) :=
  bnd (IntKind.i64.wrap (x7 + (1 : Int))) fun x10 =>
  some (.inl (x8, x9, x10))
noncomputable def r13_Reach_j3 (x7 : Int) (x12 : List Bool) (x13 : Bool) : Option (((List Bool) × Bool × Int) ⊕ (((List Bool) × Bool) ⊕ (List Bool))) :=
  r13_Reach_j2 x7 x12 x13
noncomputable def r13_Reach_b2 (p0 : Int) (p1 : List D_r13_Arrow) (p2 : Int) (x5 : List Bool) (x6 : Bool) (x7 : Int) : Option (((List Bool) × Bool × Int) ⊕ (((List Bool) × Bool) ⊕ (List Bool))) :=
  bif decide (x7 < (p1.length : Int)) then
    ass (0 ≤ x7 ∧ x7 < (p1.length : Int)) <|
    bnd (rd z_r13_Arrow p1 x7) fun x11 =>
    ass ((!((((decide (x11.1 < (0 : Int))) || (decide (x11.1 ≥ p0))) || (decide (x11.2 < (0 : Int)))) || (decide (x11.2 ≥ p0)))) = true → 0 ≤ x11.2 ∧ x11.2 < (x5.length : Int)) <|
    bif ((((decide (x11.1 < (0 : Int))) || (decide (x11.1 ≥ p0))) || (decide (x11.2 < (0 : Int)))) || (decide (x11.2 ≥ p0))) || (rd false x5 x11.2) then
      r13_Reach_j2 x7 x5 x6
    else
      ass ((!(x11.1 == p2)) = true → 0 ≤ x11.1 ∧ x11.1 < (x5.length : Int)) <|
      bif (x11.1 == p2) || (rd false x5 x11.1) then
        ass (0 ≤ x11.2 ∧ x11.2 < (x5.length : Int)) <|
        bnd (wr x5 x11.2 true) fun x14 =>
        r13_Reach_j3 x7 x14 true
      else
        r13_Reach_j3 x7 x5 x6
  else
    some (.inr (.inl (x5, x6)))
noncomputable def r13_Reach_b1 (p0 : Int) (p1 : List D_r13_Arrow) (p2 : Int) (x3 : List Bool) (x4 : Bool) : Option (((List Bool) × Bool) ⊕ (List Bool)) :=
  bif x4 then
    loopM (fun x : (List Bool) × Bool × Int => r13_Reach_b2 p0 p1 p2 x.1 x.2.1 x.2.2) (x3, false, (0 : Int))
  else
    (r13_Reach_j1 x3).map .inr
noncomputable def r13_Reach (p0 : Int) (p1 : List D_r13_Arrow) (p2 : Int) : Option (List Bool) :=
  ass (0 ≤ p0 ∧ p0 ≤ p0 ∧ p0 ≤ lim) <|
  bnd (List.replicate p0.toNat false) fun x1 =>
  loopM (fun x : (List Bool) × Bool => r13_Reach_b1 p0 p1 p2 x.1 x.2) (x1, true)
theorem r13_Reach.ok {p0 : Int} {p1 : List D_r13_Arrow} {p2 : Int} {r : List Bool} (h : r13_Reach p0 p1 p2 = some r) : ACall prog 178 [⟨.int .i64, p0⟩, ⟨.slice T_r13_Arrow, p1⟩, ⟨.int .i64, p2⟩] [⟨9, .slice .bool, r⟩] := by
  replace h := Leads.of h
  unfold r13_Reach at h
  refine acall_of func178 (by kernel_rfl) rfl (by kernel_rfl) fun w0 F0 hw0 => ?_
  refine W_seq ?_
  refine W_region mixed tys_ok (sup := []) (l := [(0, 0), (1, 0), (2, 0)]) (E' := [(0, .v 0 (.int .i64) p0), (1, .v 0 (.slice T_r13_Arrow) p1), (2, .v 0 (.int .i64) p2)]) (obs := []) (by kernel_rfl) (trivial) ?_
  refine W_seq ?_
  obtain ⟨o1, h⟩ := h.ass
  refine W_region mixed tys_ok (sup := []) (l := [(0, 0), (1, 0), (2, 0), (7, 9)]) (E' := [(0, .v 0 (.int .i64) p0), (1, .v 0 (.slice T_r13_Arrow) p1), (2, .v 0 (.int .i64) p2), (7, .v 9 (.slice .bool) (List.replicate p0.toNat false))]) (obs := [0 ≤ p0 ∧ p0 ≤ p0 ∧ p0 ≤ lim]) (by kernel_rfl) (o1) ?_
  refine W_gen (x := List.replicate p0.toNat false) (En := fun x1 => [(0, .v 0 (.int .i64) p0), (1, .v 0 (.slice T_r13_Arrow) p1), (2, .v 0 (.int .i64) p2), (7, .v 9 (.slice .bool) x1)]) h (fun x1 h => ?_)
  refine W_seq ?_
  refine W_region mixed tys_ok (sup := []) (l := [(0, 0), (1, 0), (2, 0), (7, 9), (8, 0)]) (E' := [(0, .v 0 (.int .i64) p0), (1, .v 0 (.slice T_r13_Arrow) p1), (2, .v 0 (.int .i64) p2), (7, .v 9 (.slice .bool) x1), (8, .v 0 .bool true)]) (obs := []) (by kernel_rfl) (trivial) ?_
  refine W_seq ?_
  refine W_join h (Ej := fun (x : List Bool) => [(7, .v 9 (.slice .bool) x)]) (p := fun x => r13_Reach_j1 x) ?_ ?_
  · rintro x2 h
    replace h : Leads _ (r13_Reach_j1 x2) := h
    unfold r13_Reach_j1 at h
    show W _ _ _ _ _ _ [(7, .v 9 (.slice .bool) x2)]
    refine W_seq ?_
    refine W_region mixed tys_ok (sup := []) (l := [(6, 9)]) (E' := [(6, .v 9 (.slice .bool) x2)]) (obs := []) (by kernel_rfl) (trivial) ?_
    refine W_keep (l := [(6, 9)]) (E' := [(6, .v 9 (.slice .bool) x2)]) (by kernel_rfl) ?_
    replace h : x2 = r := h
    subst h
    exact W_ret tys_ok hw0 (by kernel_rfl) (by kernel_rfl)
  · intro j1
    refine W_block ?_
    refine W_keep (l := [(0, 0), (1, 0), (2, 0), (7, 9), (8, 0)]) (E' := [(0, .v 0 (.int .i64) p0), (1, .v 0 (.slice T_r13_Arrow) p1), (2, .v 0 (.int .i64) p2), (7, .v 9 (.slice .bool) x1), (8, .v 0 .bool true)]) (by kernel_rfl) ?_
    refine W_loop' (En := fun (x : (List Bool) × Bool) => [(0, .v 0 (.int .i64) p0), (1, .v 0 (.slice T_r13_Arrow) p1), (2, .v 0 (.int .i64) p2), (7, .v 9 (.slice .bool) x.1), (8, .v 0 .bool x.2)]) (x := (x1, true)) h ?_
    rintro ⟨x3, x4⟩ K h
    replace h : Leads _ (r13_Reach_b1 p0 p1 p2 x3 x4) := h
    unfold r13_Reach_b1 at h
    show W _ _ _ _ _ _ [(0, .v 0 (.int .i64) p0), (1, .v 0 (.slice T_r13_Arrow) p1), (2, .v 0 (.int .i64) p2), (7, .v 9 (.slice .bool) x3), (8, .v 0 .bool x4)]
    refine W_seq ?_
    refine W_seq ?_
    refine W_region mixed tys_ok (sup := []) (l := [(0, 0), (1, 0), (2, 0), (7, 9), (13, 0)]) (E' := [(0, .v 0 (.int .i64) p0), (1, .v 0 (.slice T_r13_Arrow) p1), (2, .v 0 (.int .i64) p2), (7, .v 9 (.slice .bool) x3), (13, .v 0 .bool x4)]) (obs := []) (by kernel_rfl) (trivial) ?_
    refine W_cond (β := x4) (by kernel_rfl) (fun hb => ?_) (fun hb => ?_)
    · rw [cond_tt hb] at h
      refine W_skip ?_
      refine W_block ?_
      refine W_seq ?_
      refine W_region mixed tys_ok (sup := []) (l := [(0, 0), (1, 0), (2, 0), (7, 9), (8, 0)]) (E' := [(0, .v 0 (.int .i64) p0), (1, .v 0 (.slice T_r13_Arrow) p1), (2, .v 0 (.int .i64) p2), (7, .v 9 (.slice .bool) x3), (8, .v 0 .bool false)]) (obs := []) (by kernel_rfl) (trivial) ?_
      refine W_seq ?_
      refine W_region mixed tys_ok (sup := []) (l := [(0, 0), (1, 0), (2, 0), (7, 9), (8, 0), (9, 0)]) (E' := [(0, .v 0 (.int .i64) p0), (1, .v 0 (.slice T_r13_Arrow) p1), (2, .v 0 (.int .i64) p2), (7, .v 9 (.slice .bool) x3), (8, .v 0 .bool false), (9, .v 0 (.int .i64) (0 : Int))]) (obs := []) (by kernel_rfl) (trivial) ?_
      refine W_block ?_
      refine W_keep (l := [(0, 0), (1, 0), (2, 0), (7, 9), (8, 0), (9, 0)]) (E' := [(0, .v 0 (.int .i64) p0), (1, .v 0 (.slice T_r13_Arrow) p1), (2, .v 0 (.int .i64) p2), (7, .v 9 (.slice .bool) x3), (8, .v 0 .bool false), (9, .v 0 (.int .i64) (0 : Int))]) (by kernel_rfl) ?_
      refine W_loop' (En := fun (x : (List Bool) × Bool × Int) => [(0, .v 0 (.int .i64) p0), (1, .v 0 (.slice T_r13_Arrow) p1), (2, .v 0 (.int .i64) p2), (7, .v 9 (.slice .bool) x.1), (8, .v 0 .bool x.2.1), (9, .v 0 (.int .i64) x.2.2)]) (x := (x3, false, (0 : Int))) h ?_
      rintro ⟨x5, x6, x7⟩ K h
      replace h : Leads _ (r13_Reach_b2 p0 p1 p2 x5 x6 x7) := h
      unfold r13_Reach_b2 at h
      show W _ _ _ _ _ _ [(0, .v 0 (.int .i64) p0), (1, .v 0 (.slice T_r13_Arrow) p1), (2, .v 0 (.int .i64) p2), (7, .v 9 (.slice .bool) x5), (8, .v 0 .bool x6), (9, .v 0 (.int .i64) x7)]
      refine W_seq ?_
      refine W_seq ?_
      refine W_region mixed tys_ok (sup := []) (l := [(0, 0), (1, 0), (2, 0), (7, 9), (8, 0), (9, 0), (17, 0)]) (E' := [(0, .v 0 (.int .i64) p0), (1, .v 0 (.slice T_r13_Arrow) p1), (2, .v 0 (.int .i64) p2), (7, .v 9 (.slice .bool) x5), (8, .v 0 .bool x6), (9, .v 0 (.int .i64) x7), (17, .v 0 .bool (decide (x7 < (p1.length : Int))))]) (obs := []) (by kernel_rfl) (trivial) ?_
      refine W_cond (β := decide (x7 < (p1.length : Int))) (by kernel_rfl) (fun hb => ?_) (fun hb => ?_)
      · rw [cond_tt hb] at h
        refine W_skip ?_
        refine W_seq ?_
        refine W_join h (Ej := fun (x : (List Bool) × Bool) => [(0, .v 0 (.int .i64) p0), (1, .v 0 (.slice T_r13_Arrow) p1), (2, .v 0 (.int .i64) p2), (7, .v 9 (.slice .bool) x.1), (8, .v 0 .bool x.2), (9, .v 0 (.int .i64) x7)]) (p := fun x => r13_Reach_j2 x7 x.1 x.2) ?_ ?_
        · rintro ⟨x8, x9⟩ h
          replace h : Leads _ (r13_Reach_j2 x7 x8 x9) := h
          unfold r13_Reach_j2 at h
          show W _ _ _ _ _ _ [(0, .v 0 (.int .i64) p0), (1, .v 0 (.slice T_r13_Arrow) p1), (2, .v 0 (.int .i64) p2), (7, .v 9 (.slice .bool) x8), (8, .v 0 .bool x9), (9, .v 0 (.int .i64) x7)]
          refine W_region mixed tys_ok (sup := []) (l := [(0, 0), (1, 0), (2, 0), (7, 9), (8, 0), (9, 0)]) (E' := [(0, .v 0 (.int .i64) p0), (1, .v 0 (.slice T_r13_Arrow) p1), (2, .v 0 (.int .i64) p2), (7, .v 9 (.slice .bool) x8), (8, .v 0 .bool x9), (9, .v 0 (.int .i64) (IntKind.i64.wrap (x7 + (1 : Int))))]) (obs := []) (by kernel_rfl) (trivial) ?_
          refine W_gen (x := IntKind.i64.wrap (x7 + (1 : Int))) (En := fun x10 => [(0, .v 0 (.int .i64) p0), (1, .v 0 (.slice T_r13_Arrow) p1), (2, .v 0 (.int .i64) p2), (7, .v 9 (.slice .bool) x8), (8, .v 0 .bool x9), (9, .v 0 (.int .i64) x10)]) h (fun x10 h => ?_)
          refine W_keep (l := [(0, 0), (1, 0), (2, 0), (7, 9), (8, 0), (9, 0)]) (E' := [(0, .v 0 (.int .i64) p0), (1, .v 0 (.slice T_r13_Arrow) p1), (2, .v 0 (.int .i64) p2), (7, .v 9 (.slice .bool) x8), (8, .v 0 .bool x9), (9, .v 0 (.int .i64) x10)]) (by kernel_rfl) ?_
          exact W_abs h
        · intro j2
          refine W_block ?_
          refine W_seq ?_
          obtain ⟨o1, h⟩ := h.ass
          refine W_region mixed tys_ok (sup := []) (l := [(0, 0), (1, 0), (2, 0), (7, 9), (8, 0), (9, 0), (10, 9)]) (E' := [(0, .v 0 (.int .i64) p0), (1, .v 0 (.slice T_r13_Arrow) p1), (2, .v 0 (.int .i64) p2), (7, .v 9 (.slice .bool) x5), (8, .v 0 .bool x6), (9, .v 0 (.int .i64) x7), (10, .box 9 T_r13_Arrow (rd z_r13_Arrow p1 x7))]) (obs := [0 ≤ x7 ∧ x7 < (p1.length : Int)]) (by kernel_rfl) (o1) ?_
          refine W_gen (x := rd z_r13_Arrow p1 x7) (En := fun x11 => [(0, .v 0 (.int .i64) p0), (1, .v 0 (.slice T_r13_Arrow) p1), (2, .v 0 (.int .i64) p2), (7, .v 9 (.slice .bool) x5), (8, .v 0 .bool x6), (9, .v 0 (.int .i64) x7), (10, .box 9 T_r13_Arrow x11)]) h (fun x11 h => ?_)
          refine W_seq ?_
          refine W_seq ?_
          obtain ⟨o1, h⟩ := h.ass
          refine W_region mixed tys_ok (sup := []) (l := [(0, 0), (1, 0), (2, 0), (7, 9), (8, 0), (9, 0), (10, 9), (50, 0)]) (E' := [(0, .v 0 (.int .i64) p0), (1, .v 0 (.slice T_r13_Arrow) p1), (2, .v 0 (.int .i64) p2), (7, .v 9 (.slice .bool) x5), (8, .v 0 .bool x6), (9, .v 0 (.int .i64) x7), (10, .box 9 T_r13_Arrow x11), (50, .v 0 .bool (((((decide (x11.1 < (0 : Int))) || (decide (x11.1 ≥ p0))) || (decide (x11.2 < (0 : Int)))) || (decide (x11.2 ≥ p0))) || (rd false x5 x11.2)))]) (obs := [(!((((decide (x11.1 < (0 : Int))) || (decide (x11.1 ≥ p0))) || (decide (x11.2 < (0 : Int)))) || (decide (x11.2 ≥ p0)))) = true → 0 ≤ x11.2 ∧ x11.2 < (x5.length : Int)]) (by kernel_rfl) (o1) ?_
          refine W_cond (β := ((((decide (x11.1 < (0 : Int))) || (decide (x11.1 ≥ p0))) || (decide (x11.2 < (0 : Int)))) || (decide (x11.2 ≥ p0))) || (rd false x5 x11.2)) (by kernel_rfl) (fun hb => ?_) (fun hb => ?_)
          · rw [cond_tt hb] at h
            refine W_exit rfl ?_
            refine W_keep (l := [(0, 0), (1, 0), (2, 0), (7, 9), (8, 0), (9, 0)]) (E' := [(0, .v 0 (.int .i64) p0), (1, .v 0 (.slice T_r13_Arrow) p1), (2, .v 0 (.int .i64) p2), (7, .v 9 (.slice .bool) x5), (8, .v 0 .bool x6), (9, .v 0 (.int .i64) x7)]) (by kernel_rfl) ?_
            exact j2 (x5, x6) h
          · rw [cond_ff hb] at h
            refine W_skip ?_
            refine W_seq ?_
            obtain ⟨o1, h⟩ := h.ass
            refine W_region mixed tys_ok (sup := []) (l := [(0, 0), (1, 0), (2, 0), (7, 9), (8, 0), (9, 0), (10, 9), (61, 0)]) (E' := [(0, .v 0 (.int .i64) p0), (1, .v 0 (.slice T_r13_Arrow) p1), (2, .v 0 (.int .i64) p2), (7, .v 9 (.slice .bool) x5), (8, .v 0 .bool x6), (9, .v 0 (.int .i64) x7), (10, .box 9 T_r13_Arrow x11), (61, .v 0 .bool ((x11.1 == p2) || (rd false x5 x11.1)))]) (obs := [(!(x11.1 == p2)) = true → 0 ≤ x11.1 ∧ x11.1 < (x5.length : Int)]) (by kernel_rfl) (o1) ?_
            refine W_join h (Ej := fun (x : (List Bool) × Bool) => [(0, .v 0 (.int .i64) p0), (1, .v 0 (.slice T_r13_Arrow) p1), (2, .v 0 (.int .i64) p2), (7, .v 9 (.slice .bool) x.1), (8, .v 0 .bool x.2), (9, .v 0 (.int .i64) x7)]) (p := fun x => r13_Reach_j3 x7 x.1 x.2) ?_ ?_
            · rintro ⟨x12, x13⟩ h
              replace h : Leads _ (r13_Reach_j3 x7 x12 x13) := h
              unfold r13_Reach_j3 at h
              show W _ _ _ _ _ _ [(0, .v 0 (.int .i64) p0), (1, .v 0 (.slice T_r13_Arrow) p1), (2, .v 0 (.int .i64) p2), (7, .v 9 (.slice .bool) x12), (8, .v 0 .bool x13), (9, .v 0 (.int .i64) x7)]
              refine W_blk ?_
              refine W_keep (l := [(0, 0), (1, 0), (2, 0), (7, 9), (8, 0), (9, 0)]) (E' := [(0, .v 0 (.int .i64) p0), (1, .v 0 (.slice T_r13_Arrow) p1), (2, .v 0 (.int .i64) p2), (7, .v 9 (.slice .bool) x12), (8, .v 0 .bool x13), (9, .v 0 (.int .i64) x7)]) (by kernel_rfl) ?_
              exact j2 (x12, x13) h
            · intro j3
              refine W_cond (β := (x11.1 == p2) || (rd false x5 x11.1)) (by kernel_rfl) (fun hb => ?_) (fun hb => ?_)
              · rw [cond_tt hb] at h
                refine W_seq ?_
                obtain ⟨o1, h⟩ := h.ass
                refine W_region mixed tys_ok (sup := []) (l := [(0, 0), (1, 0), (2, 0), (7, 9), (9, 0)]) (E' := [(0, .v 0 (.int .i64) p0), (1, .v 0 (.slice T_r13_Arrow) p1), (2, .v 0 (.int .i64) p2), (7, .v 9 (.slice .bool) (wr x5 x11.2 true)), (9, .v 0 (.int .i64) x7)]) (obs := [0 ≤ x11.2 ∧ x11.2 < (x5.length : Int)]) (by kernel_rfl) (o1) ?_
                refine W_gen (x := wr x5 x11.2 true) (En := fun x14 => [(0, .v 0 (.int .i64) p0), (1, .v 0 (.slice T_r13_Arrow) p1), (2, .v 0 (.int .i64) p2), (7, .v 9 (.slice .bool) x14), (9, .v 0 (.int .i64) x7)]) h (fun x14 h => ?_)
                refine W_region mixed tys_ok (sup := []) (l := [(0, 0), (1, 0), (2, 0), (7, 9), (8, 0), (9, 0)]) (E' := [(0, .v 0 (.int .i64) p0), (1, .v 0 (.slice T_r13_Arrow) p1), (2, .v 0 (.int .i64) p2), (7, .v 9 (.slice .bool) x14), (8, .v 0 .bool true), (9, .v 0 (.int .i64) x7)]) (obs := []) (by kernel_rfl) (trivial) ?_
                refine W_keep (l := [(0, 0), (1, 0), (2, 0), (7, 9), (8, 0), (9, 0)]) (E' := [(0, .v 0 (.int .i64) p0), (1, .v 0 (.slice T_r13_Arrow) p1), (2, .v 0 (.int .i64) p2), (7, .v 9 (.slice .bool) x14), (8, .v 0 .bool true), (9, .v 0 (.int .i64) x7)]) (by kernel_rfl) ?_
                exact j3 (x14, true) h
              · rw [cond_ff hb] at h
                refine W_skip ?_
                refine W_keep (l := [(0, 0), (1, 0), (2, 0), (7, 9), (8, 0), (9, 0)]) (E' := [(0, .v 0 (.int .i64) p0), (1, .v 0 (.slice T_r13_Arrow) p1), (2, .v 0 (.int .i64) p2), (7, .v 9 (.slice .bool) x5), (8, .v 0 .bool x6), (9, .v 0 (.int .i64) x7)]) (by kernel_rfl) ?_
                exact j3 (x5, x6) h
      · rw [cond_ff hb] at h
        refine W_exit rfl ?_
        refine W_blk ?_
        refine W_keep (l := [(0, 0), (1, 0), (2, 0), (7, 9), (8, 0)]) (E' := [(0, .v 0 (.int .i64) p0), (1, .v 0 (.slice T_r13_Arrow) p1), (2, .v 0 (.int .i64) p2), (7, .v 9 (.slice .bool) x5), (8, .v 0 .bool x6)]) (by kernel_rfl) ?_
        exact W_abs h
    · rw [cond_ff hb] at h
      refine W_exit rfl ?_
      refine W_keep (l := [(7, 9)]) (E' := [(7, .v 9 (.slice .bool) x3)]) (by kernel_rfl) ?_
      exact j1 x3 h.back

noncomputable def r13_Ring_j1 : Option (Bool) :=
  some false
noncomputable def r13_Ring_b1 (p0 : Int) (p1 : List D_r13_Arrow) (x1 : Int) : Option (Int ⊕ Bool) :=
  bif decide (x1 < p0) then
    (r13_Reach p0 p1 x1).bind fun y2 =>
    ass (0 ≤ x1 ∧ x1 < (y2.length : Int)) <|
    bif rd false y2 x1 then
      some (.inr true)
    else
      bnd (IntKind.i64.wrap (x1 + (1 : Int))) fun x3 =>
      some (.inl x3)
  else
    (r13_Ring_j1).map .inr
noncomputable def r13_Ring (p0 : Int) (p1 : List D_r13_Arrow) : Option Bool :=
  loopM (fun x : Int => r13_Ring_b1 p0 p1 x) (0 : Int)
theorem r13_Ring.ok {p0 : Int} {p1 : List D_r13_Arrow} {r : Bool} (h : r13_Ring p0 p1 = some r) : ACall prog 83 [⟨.int .i64, p0⟩, ⟨.slice T_r13_Arrow, p1⟩] [⟨0, .bool, r⟩] := by
  replace h := Leads.of h
  unfold r13_Ring at h
  refine acall_of func83 (by kernel_rfl) rfl (by kernel_rfl) fun w0 F0 hw0 => ?_
  refine W_seq ?_
  refine W_region mixed tys_ok (sup := []) (l := [(0, 0), (1, 0)]) (E' := [(0, .v 0 (.int .i64) p0), (1, .v 0 (.slice T_r13_Arrow) p1)]) (obs := []) (by kernel_rfl) (trivial) ?_
  refine W_seq ?_
  refine W_seq ?_
  refine W_region mixed tys_ok (sup := []) (l := [(0, 0), (1, 0), (5, 0)]) (E' := [(0, .v 0 (.int .i64) p0), (1, .v 0 (.slice T_r13_Arrow) p1), (5, .v 0 (.int .i64) (0 : Int))]) (obs := []) (by kernel_rfl) (trivial) ?_
  refine W_join h (Ej := fun (x : Unit) => []) (p := fun x => r13_Ring_j1) ?_ ?_
  · rintro ⟨⟩ h
    replace h : Leads _ (r13_Ring_j1) := h
    unfold r13_Ring_j1 at h
    show W _ _ _ _ _ _ []
    refine W_seq ?_
    refine W_region mixed tys_ok (sup := []) (l := [(4, 0)]) (E' := [(4, .v 0 .bool false)]) (obs := []) (by kernel_rfl) (trivial) ?_
    refine W_keep (l := [(4, 0)]) (E' := [(4, .v 0 .bool false)]) (by kernel_rfl) ?_
    replace h : false = r := h
    subst h
    exact W_ret tys_ok hw0 (by kernel_rfl) (by kernel_rfl)
  · intro j1
    refine W_block ?_
    refine W_keep (l := [(0, 0), (1, 0), (5, 0)]) (E' := [(0, .v 0 (.int .i64) p0), (1, .v 0 (.slice T_r13_Arrow) p1), (5, .v 0 (.int .i64) (0 : Int))]) (by kernel_rfl) ?_
    refine W_loop' (En := fun (x : Int) => [(0, .v 0 (.int .i64) p0), (1, .v 0 (.slice T_r13_Arrow) p1), (5, .v 0 (.int .i64) x)]) (x := (0 : Int)) h ?_
    rintro x1 K h
    replace h : Leads _ (r13_Ring_b1 p0 p1 x1) := h
    unfold r13_Ring_b1 at h
    show W _ _ _ _ _ _ [(0, .v 0 (.int .i64) p0), (1, .v 0 (.slice T_r13_Arrow) p1), (5, .v 0 (.int .i64) x1)]
    refine W_seq ?_
    refine W_seq ?_
    refine W_region mixed tys_ok (sup := []) (l := [(0, 0), (1, 0), (5, 0), (8, 0)]) (E' := [(0, .v 0 (.int .i64) p0), (1, .v 0 (.slice T_r13_Arrow) p1), (5, .v 0 (.int .i64) x1), (8, .v 0 .bool (decide (x1 < p0)))]) (obs := []) (by kernel_rfl) (trivial) ?_
    refine W_cond (β := decide (x1 < p0)) (by kernel_rfl) (fun hb => ?_) (fun hb => ?_)
    · rw [cond_tt hb] at h
      refine W_skip ?_
      refine W_seq ?_
      refine W_block ?_
      refine W_seq ?_
      obtain ⟨y2, ey2, h⟩ := h.bind
      obtain ⟨o1, h⟩ := h.ass
      refine W_region mixed tys_ok (sup := [.res [(9, ⟨9, .slice .bool, y2⟩)]]) (l := [(0, 0), (1, 0), (5, 0), (17, 0)]) (E' := [(0, .v 0 (.int .i64) p0), (1, .v 0 (.slice T_r13_Arrow) p1), (5, .v 0 (.int .i64) x1), (17, .v 0 .bool (rd false y2 x1))]) (obs := [ACall prog 178 [⟨.int .i64, p0⟩, ⟨.slice T_r13_Arrow, p1⟩, ⟨.int .i64, x1⟩] [⟨9, .slice .bool, y2⟩], 0 ≤ x1 ∧ x1 < (y2.length : Int)]) (by kernel_rfl) (⟨r13_Reach.ok ey2, o1⟩) ?_
      refine W_cond (β := rd false y2 x1) (by kernel_rfl) (fun hb => ?_) (fun hb => ?_)
      · rw [cond_tt hb] at h
        refine W_seq ?_
        refine W_region mixed tys_ok (sup := []) (l := [(4, 0)]) (E' := [(4, .v 0 .bool true)]) (obs := []) (by kernel_rfl) (trivial) ?_
        refine W_keep (l := [(4, 0)]) (E' := [(4, .v 0 .bool true)]) (by kernel_rfl) ?_
        replace h : true = r := h
        subst h
        exact W_ret tys_ok hw0 (by kernel_rfl) (by kernel_rfl)
      · rw [cond_ff hb] at h
        refine W_skip ?_
        refine W_blk ?_
        refine W_region mixed tys_ok (sup := []) (l := [(0, 0), (1, 0), (5, 0)]) (E' := [(0, .v 0 (.int .i64) p0), (1, .v 0 (.slice T_r13_Arrow) p1), (5, .v 0 (.int .i64) (IntKind.i64.wrap (x1 + (1 : Int))))]) (obs := []) (by kernel_rfl) (trivial) ?_
        refine W_gen (x := IntKind.i64.wrap (x1 + (1 : Int))) (En := fun x3 => [(0, .v 0 (.int .i64) p0), (1, .v 0 (.slice T_r13_Arrow) p1), (5, .v 0 (.int .i64) x3)]) h (fun x3 h => ?_)
        refine W_keep (l := [(0, 0), (1, 0), (5, 0)]) (E' := [(0, .v 0 (.int .i64) p0), (1, .v 0 (.slice T_r13_Arrow) p1), (5, .v 0 (.int .i64) x3)]) (by kernel_rfl) ?_
        exact W_abs h
    · rw [cond_ff hb] at h
      refine W_exit rfl ?_
      refine W_keep (l := []) (E' := []) (by kernel_rfl) ?_
      exact j1 () h.back

noncomputable def r14_ThreadArrows_j1 (x1 : List D_r13_Arrow) : Option (List D_r13_Arrow) :=
  some x1
noncomputable def r14_ThreadArrows_j3 (x3 : Int) (x6 : List D_r13_Arrow) : Option (((List D_r13_Arrow) × Int) ⊕ (List D_r13_Arrow)) :=
  bnd (IntKind.i64.wrap (x3 + (1 : Int))) fun x7 =>
  some (.inl (x6, x7))
noncomputable def r14_ThreadArrows_j2 (p0 : D_api_State) (x3 : Int) (x4 : D_api_Thread) (x5 : List D_r13_Arrow) : Option (((List D_r13_Arrow) × Int) ⊕ (List D_r13_Arrow)) :=
  bif x4.1 == (6 : Int) then
    ass (0 ≤ x4.2.1 ∧ x4.2.1 < (p0.2.2.2.1.length : Int)) <|
    ass (((x5.length + [(x3, (rd z_api_Lock p0.2.2.2.1 x4.2.1).2)].length : Nat) : Int) ≤ limA) <|
    bnd (x5 ++ [(x3, (rd z_api_Lock p0.2.2.2.1 x4.2.1).2)]) fun x8 =>
    r14_ThreadArrows_j3 x3 x8
  else
    r14_ThreadArrows_j3 x3 x5
noncomputable def r14_ThreadArrows_b1 (p0 : D_api_State) (x2 : List D_r13_Arrow) (x3 : Int) : Option (((List D_r13_Arrow) × Int) ⊕ (List D_r13_Arrow)) :=
  bif decide (x3 < (p0.2.2.1.length : Int)) then
    ass (0 ≤ x3 ∧ x3 < (p0.2.2.1.length : Int)) <|
    bnd (rd z_api_Thread p0.2.2.1 x3) fun x4 =>
    bif x4.1 == (4 : Int) then
      ass (((x2.length + [(x3, x4.2.1)].length : Nat) : Int) ≤ limA) <|
      bnd (x2 ++ [(x3, x4.2.1)]) fun x9 =>
      r14_ThreadArrows_j2 p0 x3 x4 x9
    else
      r14_ThreadArrows_j2 p0 x3 x4 x2
  else
    (r14_ThreadArrows_j1 x2).map .inr
noncomputable def r14_ThreadArrows (p0 : D_api_State) : Option (List D_r13_Arrow) :=
  loopM (fun x : (List D_r13_Arrow) × Int => r14_ThreadArrows_b1 p0 x.1 x.2) (([] : List D_r13_Arrow), (0 : Int))
theorem r14_ThreadArrows.ok {p0 : D_api_State} {r : List D_r13_Arrow} (h : r14_ThreadArrows p0 = some r) : ACall prog 51 [⟨T_api_State, p0⟩] [⟨9, .slice T_r13_Arrow, r⟩] := by
  replace h := Leads.of h
  unfold r14_ThreadArrows at h
  refine acall_of func51 (by kernel_rfl) rfl (by kernel_rfl) fun w0 F0 hw0 => ?_
  refine W_seq ?_
  refine W_region mixed tys_ok (sup := []) (l := [(1, 0)]) (E' := [(1, .box 0 T_api_State p0)]) (obs := []) (by kernel_rfl) (trivial) ?_
  refine W_seq ?_
  refine W_region mixed tys_ok (sup := []) (l := [(1, 0), (3, 9)]) (E' := [(1, .box 0 T_api_State p0), (3, .v 9 (.slice T_r13_Arrow) ([] : List D_r13_Arrow))]) (obs := []) (by kernel_rfl) (trivial) ?_
  refine W_seq ?_
  refine W_seq ?_
  refine W_region mixed tys_ok (sup := []) (l := [(1, 0), (3, 9), (4, 0)]) (E' := [(1, .box 0 T_api_State p0), (3, .v 9 (.slice T_r13_Arrow) ([] : List D_r13_Arrow)), (4, .v 0 (.int .i64) (0 : Int))]) (obs := []) (by kernel_rfl) (trivial) ?_
  refine W_join h (Ej := fun (x : List D_r13_Arrow) => [(3, .v 9 (.slice T_r13_Arrow) x)]) (p := fun x => r14_ThreadArrows_j1 x) ?_ ?_
  · rintro x1 h
    replace h : Leads _ (r14_ThreadArrows_j1 x1) := h
    unfold r14_ThreadArrows_j1 at h
    show W _ _ _ _ _ _ [(3, .v 9 (.slice T_r13_Arrow) x1)]
    refine W_seq ?_
    refine W_region mixed tys_ok (sup := []) (l := [(2, 9)]) (E' := [(2, .v 9 (.slice T_r13_Arrow) x1)]) (obs := []) (by kernel_rfl) (trivial) ?_
    refine W_keep (l := [(2, 9)]) (E' := [(2, .v 9 (.slice T_r13_Arrow) x1)]) (by kernel_rfl) ?_
    replace h : x1 = r := h
    subst h
    exact W_ret tys_ok hw0 (by kernel_rfl) (by kernel_rfl)
  · intro j1
    refine W_block ?_
    refine W_keep (l := [(1, 0), (3, 9), (4, 0)]) (E' := [(1, .box 0 T_api_State p0), (3, .v 9 (.slice T_r13_Arrow) ([] : List D_r13_Arrow)), (4, .v 0 (.int .i64) (0 : Int))]) (by kernel_rfl) ?_
    refine W_loop' (En := fun (x : (List D_r13_Arrow) × Int) => [(1, .box 0 T_api_State p0), (3, .v 9 (.slice T_r13_Arrow) x.1), (4, .v 0 (.int .i64) x.2)]) (x := (([] : List D_r13_Arrow), (0 : Int))) h ?_
    rintro ⟨x2, x3⟩ K h
    replace h : Leads _ (r14_ThreadArrows_b1 p0 x2 x3) := h
    unfold r14_ThreadArrows_b1 at h
    show W _ _ _ _ _ _ [(1, .box 0 T_api_State p0), (3, .v 9 (.slice T_r13_Arrow) x2), (4, .v 0 (.int .i64) x3)]
    refine W_seq ?_
    refine W_seq ?_
    refine W_region mixed tys_ok (sup := []) (l := [(1, 0), (3, 9), (4, 0), (10, 0)]) (E' := [(1, .box 0 T_api_State p0), (3, .v 9 (.slice T_r13_Arrow) x2), (4, .v 0 (.int .i64) x3), (10, .v 0 .bool (decide (x3 < (p0.2.2.1.length : Int))))]) (obs := []) (by kernel_rfl) (trivial) ?_
    refine W_cond (β := decide (x3 < (p0.2.2.1.length : Int))) (by kernel_rfl) (fun hb => ?_) (fun hb => ?_)
    · rw [cond_tt hb] at h
      refine W_skip ?_
      refine W_seq ?_
      refine W_block ?_
      refine W_seq ?_
      obtain ⟨o1, h⟩ := h.ass
      refine W_region mixed tys_ok (sup := []) (l := [(1, 0), (3, 9), (4, 0), (5, 9)]) (E' := [(1, .box 0 T_api_State p0), (3, .v 9 (.slice T_r13_Arrow) x2), (4, .v 0 (.int .i64) x3), (5, .box 9 T_api_Thread (rd z_api_Thread p0.2.2.1 x3))]) (obs := [0 ≤ x3 ∧ x3 < (p0.2.2.1.length : Int)]) (by kernel_rfl) (o1) ?_
      refine W_gen (x := rd z_api_Thread p0.2.2.1 x3) (En := fun x4 => [(1, .box 0 T_api_State p0), (3, .v 9 (.slice T_r13_Arrow) x2), (4, .v 0 (.int .i64) x3), (5, .box 9 T_api_Thread x4)]) h (fun x4 h => ?_)
      refine W_seq ?_
      refine W_seq ?_
      refine W_region mixed tys_ok (sup := []) (l := [(1, 0), (3, 9), (4, 0), (5, 9), (20, 0)]) (E' := [(1, .box 0 T_api_State p0), (3, .v 9 (.slice T_r13_Arrow) x2), (4, .v 0 (.int .i64) x3), (5, .box 9 T_api_Thread x4), (20, .v 0 .bool (x4.1 == (4 : Int)))]) (obs := []) (by kernel_rfl) (trivial) ?_
      refine W_join h (Ej := fun (x : List D_r13_Arrow) => [(1, .box 0 T_api_State p0), (3, .v 9 (.slice T_r13_Arrow) x), (4, .v 0 (.int .i64) x3), (5, .box 9 T_api_Thread x4)]) (p := fun x => r14_ThreadArrows_j2 p0 x3 x4 x) ?_ ?_
      · rintro x5 h
        replace h : Leads _ (r14_ThreadArrows_j2 p0 x3 x4 x5) := h
        unfold r14_ThreadArrows_j2 at h
        show W _ _ _ _ _ _ [(1, .box 0 T_api_State p0), (3, .v 9 (.slice T_r13_Arrow) x5), (4, .v 0 (.int .i64) x3), (5, .box 9 T_api_Thread x4)]
        refine W_seq ?_
        refine W_region mixed tys_ok (sup := []) (l := [(1, 0), (3, 9), (4, 0), (5, 9), (30, 0)]) (E' := [(1, .box 0 T_api_State p0), (3, .v 9 (.slice T_r13_Arrow) x5), (4, .v 0 (.int .i64) x3), (5, .box 9 T_api_Thread x4), (30, .v 0 .bool (x4.1 == (6 : Int)))]) (obs := []) (by kernel_rfl) (trivial) ?_
        refine W_join h (Ej := fun (x : List D_r13_Arrow) => [(1, .box 0 T_api_State p0), (3, .v 9 (.slice T_r13_Arrow) x), (4, .v 0 (.int .i64) x3)]) (p := fun x => r14_ThreadArrows_j3 x3 x) ?_ ?_
        · rintro x6 h
          replace h : Leads _ (r14_ThreadArrows_j3 x3 x6) := h
          unfold r14_ThreadArrows_j3 at h
          show W _ _ _ _ _ _ [(1, .box 0 T_api_State p0), (3, .v 9 (.slice T_r13_Arrow) x6), (4, .v 0 (.int .i64) x3)]
          refine W_blk ?_
          refine W_region mixed tys_ok (sup := []) (l := [(1, 0), (3, 9), (4, 0)]) (E' := [(1, .box 0 T_api_State p0), (3, .v 9 (.slice T_r13_Arrow) x6), (4, .v 0 (.int .i64) (IntKind.i64.wrap (x3 + (1 : Int))))]) (obs := []) (by kernel_rfl) (trivial) ?_
          refine W_gen (x := IntKind.i64.wrap (x3 + (1 : Int))) (En := fun x7 => [(1, .box 0 T_api_State p0), (3, .v 9 (.slice T_r13_Arrow) x6), (4, .v 0 (.int .i64) x7)]) h (fun x7 h => ?_)
          refine W_keep (l := [(1, 0), (3, 9), (4, 0)]) (E' := [(1, .box 0 T_api_State p0), (3, .v 9 (.slice T_r13_Arrow) x6), (4, .v 0 (.int .i64) x7)]) (by kernel_rfl) ?_
          exact W_abs h
        · intro j3
          refine W_cond (β := x4.1 == (6 : Int)) (by kernel_rfl) (fun hb => ?_) (fun hb => ?_)
          · rw [cond_tt hb] at h
            obtain ⟨o1, h⟩ := h.ass
            obtain ⟨o2, h⟩ := h.ass
            refine W_region mixed tys_ok (sup := []) (l := [(1, 0), (3, 9), (4, 0)]) (E' := [(1, .box 0 T_api_State p0), (3, .v 9 (.slice T_r13_Arrow) (x5 ++ [(x3, (rd z_api_Lock p0.2.2.2.1 x4.2.1).2)])), (4, .v 0 (.int .i64) x3)]) (obs := [0 ≤ x4.2.1 ∧ x4.2.1 < (p0.2.2.2.1.length : Int), ((x5.length + [(x3, (rd z_api_Lock p0.2.2.2.1 x4.2.1).2)].length : Nat) : Int) ≤ limA]) (by kernel_rfl) (⟨o1, o2⟩) ?_
            refine W_gen (x := x5 ++ [(x3, (rd z_api_Lock p0.2.2.2.1 x4.2.1).2)]) (En := fun x8 => [(1, .box 0 T_api_State p0), (3, .v 9 (.slice T_r13_Arrow) x8), (4, .v 0 (.int .i64) x3)]) h (fun x8 h => ?_)
            refine W_keep (l := [(1, 0), (3, 9), (4, 0)]) (E' := [(1, .box 0 T_api_State p0), (3, .v 9 (.slice T_r13_Arrow) x8), (4, .v 0 (.int .i64) x3)]) (by kernel_rfl) ?_
            exact j3 x8 h
          · rw [cond_ff hb] at h
            refine W_skip ?_
            refine W_keep (l := [(1, 0), (3, 9), (4, 0)]) (E' := [(1, .box 0 T_api_State p0), (3, .v 9 (.slice T_r13_Arrow) x5), (4, .v 0 (.int .i64) x3)]) (by kernel_rfl) ?_
            exact j3 x5 h
      · intro j2
        refine W_cond (β := x4.1 == (4 : Int)) (by kernel_rfl) (fun hb => ?_) (fun hb => ?_)
        · rw [cond_tt hb] at h
          obtain ⟨o1, h⟩ := h.ass
          refine W_region mixed tys_ok (sup := []) (l := [(1, 0), (3, 9), (4, 0), (5, 9)]) (E' := [(1, .box 0 T_api_State p0), (3, .v 9 (.slice T_r13_Arrow) (x2 ++ [(x3, x4.2.1)])), (4, .v 0 (.int .i64) x3), (5, .box 9 T_api_Thread x4)]) (obs := [((x2.length + [(x3, x4.2.1)].length : Nat) : Int) ≤ limA]) (by kernel_rfl) (o1) ?_
          refine W_gen (x := x2 ++ [(x3, x4.2.1)]) (En := fun x9 => [(1, .box 0 T_api_State p0), (3, .v 9 (.slice T_r13_Arrow) x9), (4, .v 0 (.int .i64) x3), (5, .box 9 T_api_Thread x4)]) h (fun x9 h => ?_)
          refine W_keep (l := [(1, 0), (3, 9), (4, 0), (5, 9)]) (E' := [(1, .box 0 T_api_State p0), (3, .v 9 (.slice T_r13_Arrow) x9), (4, .v 0 (.int .i64) x3), (5, .box 9 T_api_Thread x4)]) (by kernel_rfl) ?_
          exact j2 x9 h
        · rw [cond_ff hb] at h
          refine W_skip ?_
          refine W_keep (l := [(1, 0), (3, 9), (4, 0), (5, 9)]) (E' := [(1, .box 0 T_api_State p0), (3, .v 9 (.slice T_r13_Arrow) x2), (4, .v 0 (.int .i64) x3), (5, .box 9 T_api_Thread x4)]) (by kernel_rfl) ?_
          exact j2 x2 h
    · rw [cond_ff hb] at h
      refine W_exit rfl ?_
      refine W_keep (l := [(3, 9)]) (E' := [(3, .v 9 (.slice T_r13_Arrow) x2)]) (by kernel_rfl) ?_
      exact j1 x2 h.back

noncomputable def r14_Fine (p0 : D_api_State) : Option Bool :=
  ass ((!((((decide (p0.2.2.2.2.2 < (1 : Int))) || (decide (p0.2.2.2.2.2 > (1000 : Int)))) || (decide ((p0.1.length : Int) < (1 : Int)))) || (decide ((p0.1.length : Int) > (16 : Int))))) = true → 0 ≤ (0 : Int) ∧ (0 : Int) < (p0.1.length : Int)) <|
  ass ((!(((((decide (p0.2.2.2.2.2 < (1 : Int))) || (decide (p0.2.2.2.2.2 > (1000 : Int)))) || (decide ((p0.1.length : Int) < (1 : Int)))) || (decide ((p0.1.length : Int) > (16 : Int)))) || (!(rd false p0.1 (0 : Int))))) = true → 0 ≤ IntKind.i64.wrap ((p0.1.length : Int) - (1 : Int)) ∧ IntKind.i64.wrap ((p0.1.length : Int) - (1 : Int)) < (p0.1.length : Int)) <|
  bif (((((decide (p0.2.2.2.2.2 < (1 : Int))) || (decide (p0.2.2.2.2.2 > (1000 : Int)))) || (decide ((p0.1.length : Int) < (1 : Int)))) || (decide ((p0.1.length : Int) > (16 : Int)))) || (!(rd false p0.1 (0 : Int)))) || (!(rd false p0.1 (IntKind.i64.wrap ((p0.1.length : Int) - (1 : Int))))) then
    some false
  else
    (r14_tickets p0).bind fun y1 =>
    (bif !(!y1) then r14_threads p0 else some false).bind fun y2 =>
    (bif !((!y1) || (!y2)) then r14_locks p0 else some false).bind fun y3 =>
    (bif !(((!y1) || (!y2)) || (!y3)) then r14_queue p0 else some false).bind fun y4 =>
    bif (((!y1) || (!y2)) || (!y3)) || (!y4) then
      some false
    else
      (r14_CoinArrows p0).bind fun y5 =>
      (r13_Ring (p0.1.length : Int) y5).bind fun y6 =>
      (bif !y6 then r14_ThreadArrows p0 else some ([] : List D_r13_Arrow)).bind fun y7 =>
      (bif !y6 then r13_Ring (p0.2.2.1.length : Int) y7 else some false).bind fun y8 =>
      bnd ((!y6) && (!y8)) fun x9 =>
      some x9
theorem r14_Fine.ok {p0 : D_api_State} {r : Bool} (h : r14_Fine p0 = some r) : ACall prog 13 [⟨T_api_State, p0⟩] [⟨0, .bool, r⟩] := by
  replace h := Leads.of h
  unfold r14_Fine at h
  refine acall_of func13 (by kernel_rfl) rfl (by kernel_rfl) fun w0 F0 hw0 => ?_
  refine W_seq ?_
  refine W_region mixed tys_ok (sup := []) (l := [(1, 0)]) (E' := [(1, .box 0 T_api_State p0)]) (obs := []) (by kernel_rfl) (trivial) ?_
  refine W_seq ?_
  refine W_region mixed tys_ok (sup := []) (l := [(1, 0), (3, 0)]) (E' := [(1, .box 0 T_api_State p0), (3, .v 0 (.int .i64) (p0.1.length : Int))]) (obs := []) (by kernel_rfl) (trivial) ?_
  refine W_seq ?_
  refine W_seq ?_
  obtain ⟨o1, h⟩ := h.ass
  obtain ⟨o2, h⟩ := h.ass
  refine W_region mixed tys_ok (sup := []) (l := [(1, 0), (3, 0), (38, 0)]) (E' := [(1, .box 0 T_api_State p0), (3, .v 0 (.int .i64) (p0.1.length : Int)), (38, .v 0 .bool ((((((decide (p0.2.2.2.2.2 < (1 : Int))) || (decide (p0.2.2.2.2.2 > (1000 : Int)))) || (decide ((p0.1.length : Int) < (1 : Int)))) || (decide ((p0.1.length : Int) > (16 : Int)))) || (!(rd false p0.1 (0 : Int)))) || (!(rd false p0.1 (IntKind.i64.wrap ((p0.1.length : Int) - (1 : Int)))))))]) (obs := [(!((((decide (p0.2.2.2.2.2 < (1 : Int))) || (decide (p0.2.2.2.2.2 > (1000 : Int)))) || (decide ((p0.1.length : Int) < (1 : Int)))) || (decide ((p0.1.length : Int) > (16 : Int))))) = true → 0 ≤ (0 : Int) ∧ (0 : Int) < (p0.1.length : Int), (!(((((decide (p0.2.2.2.2.2 < (1 : Int))) || (decide (p0.2.2.2.2.2 > (1000 : Int)))) || (decide ((p0.1.length : Int) < (1 : Int)))) || (decide ((p0.1.length : Int) > (16 : Int)))) || (!(rd false p0.1 (0 : Int))))) = true → 0 ≤ IntKind.i64.wrap ((p0.1.length : Int) - (1 : Int)) ∧ IntKind.i64.wrap ((p0.1.length : Int) - (1 : Int)) < (p0.1.length : Int)]) (by kernel_rfl) (⟨o1, o2⟩) ?_
  refine W_cond (β := (((((decide (p0.2.2.2.2.2 < (1 : Int))) || (decide (p0.2.2.2.2.2 > (1000 : Int)))) || (decide ((p0.1.length : Int) < (1 : Int)))) || (decide ((p0.1.length : Int) > (16 : Int)))) || (!(rd false p0.1 (0 : Int)))) || (!(rd false p0.1 (IntKind.i64.wrap ((p0.1.length : Int) - (1 : Int)))))) (by kernel_rfl) (fun hb => ?_) (fun hb => ?_)
  · rw [cond_tt hb] at h
    refine W_seq ?_
    refine W_region mixed tys_ok (sup := []) (l := [(2, 0)]) (E' := [(2, .v 0 .bool false)]) (obs := []) (by kernel_rfl) (trivial) ?_
    refine W_keep (l := [(2, 0)]) (E' := [(2, .v 0 .bool false)]) (by kernel_rfl) ?_
    replace h : false = r := h
    subst h
    exact W_ret tys_ok hw0 (by kernel_rfl) (by kernel_rfl)
  · rw [cond_ff hb] at h
    refine W_skip ?_
    refine W_seq ?_
    refine W_seq ?_
    obtain ⟨y1, ey1, h⟩ := h.bind
    obtain ⟨y2, ey2, h⟩ := h.bind
    obtain ⟨y3, ey3, h⟩ := h.bind
    obtain ⟨y4, ey4, h⟩ := h.bind
    refine W_region mixed tys_ok (sup := [.res [(0, ⟨0, .bool, y1⟩)], .res [(0, ⟨0, .bool, y2⟩)], .res [(0, ⟨0, .bool, y3⟩)], .res [(0, ⟨0, .bool, y4⟩)]]) (l := [(1, 0), (3, 0), (56, 0)]) (E' := [(1, .box 0 T_api_State p0), (3, .v 0 (.int .i64) (p0.1.length : Int)), (56, .v 0 .bool ((((!y1) || (!y2)) || (!y3)) || (!y4)))]) (obs := [ACall prog 79 [⟨T_api_State, p0⟩] [⟨0, .bool, y1⟩], (!(!y1)) = true → ACall prog 80 [⟨T_api_State, p0⟩] [⟨0, .bool, y2⟩], (!((!y1) || (!y2))) = true → ACall prog 81 [⟨T_api_State, p0⟩] [⟨0, .bool, y3⟩], (!(((!y1) || (!y2)) || (!y3))) = true → ACall prog 82 [⟨T_api_State, p0⟩] [⟨0, .bool, y4⟩]]) (by kernel_rfl) (⟨r14_tickets.ok ey1, fun hc => r14_threads.ok (bif_some ey2 hc), fun hc => r14_locks.ok (bif_some ey3 hc), fun hc => r14_queue.ok (bif_some ey4 hc)⟩) ?_
    refine W_cond (β := (((!y1) || (!y2)) || (!y3)) || (!y4)) (by kernel_rfl) (fun hb => ?_) (fun hb => ?_)
    · rw [cond_tt hb] at h
      refine W_seq ?_
      refine W_region mixed tys_ok (sup := []) (l := [(2, 0)]) (E' := [(2, .v 0 .bool false)]) (obs := []) (by kernel_rfl) (trivial) ?_
      refine W_keep (l := [(2, 0)]) (E' := [(2, .v 0 .bool false)]) (by kernel_rfl) ?_
      replace h : false = r := h
      subst h
      exact W_ret tys_ok hw0 (by kernel_rfl) (by kernel_rfl)
    · rw [cond_ff hb] at h
      refine W_skip ?_
      refine W_seq ?_
      obtain ⟨y5, ey5, h⟩ := h.bind
      obtain ⟨y6, ey6, h⟩ := h.bind
      obtain ⟨y7, ey7, h⟩ := h.bind
      obtain ⟨y8, ey8, h⟩ := h.bind
      refine W_region mixed tys_ok (sup := [.res [(9, ⟨9, .slice T_r13_Arrow, y5⟩)], .res [(0, ⟨0, .bool, y6⟩)], .res [(0, ⟨9, .slice T_r13_Arrow, y7⟩)], .res [(0, ⟨0, .bool, y8⟩)]]) (l := [(2, 0)]) (E' := [(2, .v 0 .bool ((!y6) && (!y8)))]) (obs := [ACall prog 49 [⟨T_api_State, p0⟩] [⟨9, .slice T_r13_Arrow, y5⟩], ACall prog 83 [⟨.int .i64, (p0.1.length : Int)⟩, ⟨.slice T_r13_Arrow, y5⟩] [⟨0, .bool, y6⟩], (!y6) = true → ACall prog 51 [⟨T_api_State, p0⟩] [⟨9, .slice T_r13_Arrow, y7⟩], (!y6) = true → ACall prog 83 [⟨.int .i64, (p0.2.2.1.length : Int)⟩, ⟨.slice T_r13_Arrow, y7⟩] [⟨0, .bool, y8⟩]]) (by kernel_rfl) (⟨r14_CoinArrows.ok ey5, r13_Ring.ok ey6, fun hc => r14_ThreadArrows.ok (bif_some ey7 hc), fun hc => r13_Ring.ok (bif_some ey8 hc)⟩) ?_
      refine W_gen (x := (!y6) && (!y8)) (En := fun x9 => [(2, .v 0 .bool x9)]) h (fun x9 h => ?_)
      refine W_keep (l := [(2, 0)]) (E' := [(2, .v 0 .bool x9)]) (by kernel_rfl) ?_
      replace h : x9 = r := h
      subst h
      exact W_ret tys_ok hw0 (by kernel_rfl) (by kernel_rfl)

noncomputable def l26_pair : Option D_api_State :=
  bnd ((([] : List Bool), ([] : List D_api_Ticket), ([] : List D_api_Thread), ([] : List D_api_Lock), ([] : List Int), (0 : Int))) fun x1 =>
  bnd (((3 : Int), (-1 : Int), (-1 : Int), (1 : Int), (1 : Int))) fun x2 =>
  bnd (((5 : Int), (-1 : Int), (-1 : Int), (1 : Int), (1 : Int))) fun x3 =>
  bnd (([true], [(true, (0 : Int), (3 : Int), (1 : Int), (0 : Int), true)], [x2, x3], ([] : List D_api_Lock), ([] : List Int), (5 : Int))) fun x4 =>
  some x4
theorem l26_pair.ok {r : D_api_State} (h : l26_pair = some r) : ACall prog 84 [] [⟨0, T_api_State, r⟩] := by
  replace h := Leads.of h
  unfold l26_pair at h
  refine acall_of func84 (by kernel_rfl) rfl (by kernel_rfl) fun w0 F0 hw0 => ?_
  refine W_seq ?_
  refine W_region mixed tys_ok (sup := []) (l := [(0, 9)]) (E' := [(0, .box 9 T_api_State (([] : List Bool), ([] : List D_api_Ticket), ([] : List D_api_Thread), ([] : List D_api_Lock), ([] : List Int), (0 : Int)))]) (obs := []) (by kernel_rfl) (trivial) ?_
  refine W_gen (x := (([] : List Bool), ([] : List D_api_Ticket), ([] : List D_api_Thread), ([] : List D_api_Lock), ([] : List Int), (0 : Int))) (En := fun x1 => [(0, .box 9 T_api_State x1)]) h (fun x1 h => ?_)
  refine W_seq ?_
  refine W_region mixed tys_ok (sup := []) (l := [(0, 9), (1, 9)]) (E' := [(0, .box 9 T_api_State x1), (1, .box 9 T_api_Thread ((3 : Int), (-1 : Int), (-1 : Int), (1 : Int), (1 : Int)))]) (obs := []) (by kernel_rfl) (trivial) ?_
  refine W_gen (x := ((3 : Int), (-1 : Int), (-1 : Int), (1 : Int), (1 : Int))) (En := fun x2 => [(0, .box 9 T_api_State x1), (1, .box 9 T_api_Thread x2)]) h (fun x2 h => ?_)
  refine W_seq ?_
  refine W_region mixed tys_ok (sup := []) (l := [(0, 9), (1, 9), (2, 9)]) (E' := [(0, .box 9 T_api_State x1), (1, .box 9 T_api_Thread x2), (2, .box 9 T_api_Thread ((5 : Int), (-1 : Int), (-1 : Int), (1 : Int), (1 : Int)))]) (obs := []) (by kernel_rfl) (trivial) ?_
  refine W_gen (x := ((5 : Int), (-1 : Int), (-1 : Int), (1 : Int), (1 : Int))) (En := fun x3 => [(0, .box 9 T_api_State x1), (1, .box 9 T_api_Thread x2), (2, .box 9 T_api_Thread x3)]) h (fun x3 h => ?_)
  refine W_seq ?_
  refine W_region mixed tys_ok (sup := [.frz, .frz, .frz]) (l := [(0, 0)]) (E' := [(0, .box 0 T_api_State ([true], [(true, (0 : Int), (3 : Int), (1 : Int), (0 : Int), true)], [x2, x3], ([] : List D_api_Lock), ([] : List Int), (5 : Int)))]) (obs := []) (by kernel_rfl) (trivial) ?_
  refine W_gen (x := ([true], [(true, (0 : Int), (3 : Int), (1 : Int), (0 : Int), true)], [x2, x3], ([] : List D_api_Lock), ([] : List Int), (5 : Int))) (En := fun x4 => [(0, .box 0 T_api_State x4)]) h (fun x4 h => ?_)
  refine W_keep (l := [(0, 0)]) (E' := [(0, .box 0 T_api_State x4)]) (by kernel_rfl) ?_
  replace h : x4 = r := h
  subst h
  exact W_ret tys_ok hw0 (by kernel_rfl) (by kernel_rfl)

noncomputable def slices_IndexFunc_api_Thread_api_Thread_j1 : Option (Int) :=
  some (-1 : Int)
noncomputable def slices_IndexFunc_api_Thread_api_Thread_b1 (p0 : List D_api_Thread) (p1 : D_api_Thread → Option Bool) (x1 : Int) : Option (Int ⊕ Int) :=
  bif decide (x1 < (p0.length : Int)) then
    ass (0 ≤ x1 ∧ x1 < (p0.length : Int)) <|
    (p1 (rd z_api_Thread p0 x1)).bind fun y2 =>
    bif y2 then
      some (.inr x1)
    else
      bnd (IntKind.i64.wrap (x1 + (1 : Int))) fun x3 =>
      some (.inl x3)
  else
    (slices_IndexFunc_api_Thread_api_Thread_j1).map .inr
noncomputable def slices_IndexFunc_api_Thread_api_Thread (p0 : List D_api_Thread) (p1 : D_api_Thread → Option Bool) : Option Int :=
  loopM (fun x : Int => slices_IndexFunc_api_Thread_api_Thread_b1 p0 p1 x) (0 : Int)
theorem slices_IndexFunc_api_Thread_api_Thread.ok {p0 : List D_api_Thread} {p1 : D_api_Thread → Option Bool} {r : Int} (h : slices_IndexFunc_api_Thread_api_Thread p0 p1 = some r) : ACall prog 179 [⟨.slice T_api_Thread, p0⟩, ⟨.fn T_api_Thread .bool, p1⟩] [⟨0, .int .i64, r⟩] := by
  replace h := Leads.of h
  unfold slices_IndexFunc_api_Thread_api_Thread at h
  refine acall_of func179 (by kernel_rfl) rfl (by kernel_rfl) fun w0 F0 hw0 => ?_
  refine W_seq ?_
  refine W_region mixed tys_ok (sup := []) (l := [(0, 0), (1, 0)]) (E' := [(0, .v 0 (.slice T_api_Thread) p0), (1, .v 0 (.fn T_api_Thread .bool) p1)]) (obs := []) (by kernel_rfl) (trivial) ?_
  refine W_seq ?_
  refine W_seq ?_
  refine W_region mixed tys_ok (sup := []) (l := [(0, 0), (1, 0), (7, 0), (8, 0)]) (E' := [(0, .v 0 (.slice T_api_Thread) p0), (1, .v 0 (.fn T_api_Thread .bool) p1), (7, .v 0 (.int .i64) (p0.length : Int)), (8, .v 0 (.int .i64) (0 : Int))]) (obs := []) (by kernel_rfl) (trivial) ?_
  refine W_join h (Ej := fun (x : Unit) => []) (p := fun x => slices_IndexFunc_api_Thread_api_Thread_j1) ?_ ?_
  · rintro ⟨⟩ h
    replace h : Leads _ (slices_IndexFunc_api_Thread_api_Thread_j1) := h
    unfold slices_IndexFunc_api_Thread_api_Thread_j1 at h
    show W _ _ _ _ _ _ []
    refine W_seq ?_
    refine W_region mixed tys_ok (sup := []) (l := [(4, 0)]) (E' := [(4, .v 0 (.int .i64) (-1 : Int))]) (obs := []) (by kernel_rfl) (trivial) ?_
    refine W_keep (l := [(4, 0)]) (E' := [(4, .v 0 (.int .i64) (-1 : Int))]) (by kernel_rfl) ?_
    replace h : ((-1 : Int)) = r := h
    subst h
    exact W_ret tys_ok hw0 (by kernel_rfl) (by kernel_rfl)
  · intro j1
    refine W_block ?_
    refine W_keep (l := [(0, 0), (1, 0), (7, 0), (8, 0)]) (E' := [(0, .v 0 (.slice T_api_Thread) p0), (1, .v 0 (.fn T_api_Thread .bool) p1), (7, .v 0 (.int .i64) (p0.length : Int)), (8, .v 0 (.int .i64) (0 : Int))]) (by kernel_rfl) ?_
    refine W_loop' (En := fun (x : Int) => [(0, .v 0 (.slice T_api_Thread) p0), (1, .v 0 (.fn T_api_Thread .bool) p1), (7, .v 0 (.int .i64) (p0.length : Int)), (8, .v 0 (.int .i64) x)]) (x := (0 : Int)) h ?_
    rintro x1 K h
    replace h : Leads _ (slices_IndexFunc_api_Thread_api_Thread_b1 p0 p1 x1) := h
    unfold slices_IndexFunc_api_Thread_api_Thread_b1 at h
    show W _ _ _ _ _ _ [(0, .v 0 (.slice T_api_Thread) p0), (1, .v 0 (.fn T_api_Thread .bool) p1), (7, .v 0 (.int .i64) (p0.length : Int)), (8, .v 0 (.int .i64) x1)]
    refine W_seq ?_
    refine W_region mixed tys_ok (sup := []) (l := [(0, 0), (1, 0), (7, 0), (8, 0), (9, 0)]) (E' := [(0, .v 0 (.slice T_api_Thread) p0), (1, .v 0 (.fn T_api_Thread .bool) p1), (7, .v 0 (.int .i64) (p0.length : Int)), (8, .v 0 (.int .i64) x1), (9, .v 0 .bool (decide (x1 < (p0.length : Int))))]) (obs := []) (by kernel_rfl) (trivial) ?_
    refine W_seq ?_
    refine W_cond (β := decide (x1 < (p0.length : Int))) (by kernel_rfl) (fun hb => ?_) (fun hb => ?_)
    · rw [cond_tt hb] at h
      refine W_skip ?_
      refine W_seq ?_
      refine W_block ?_
      refine W_seq ?_
      refine W_region mixed tys_ok (sup := []) (l := [(0, 0), (1, 0), (5, 0), (7, 0), (8, 0)]) (E' := [(0, .v 0 (.slice T_api_Thread) p0), (1, .v 0 (.fn T_api_Thread .bool) p1), (5, .v 0 (.int .i64) x1), (7, .v 0 (.int .i64) (p0.length : Int)), (8, .v 0 (.int .i64) x1)]) (obs := []) (by kernel_rfl) (trivial) ?_
      refine W_seq ?_
      obtain ⟨o1, h⟩ := h.ass
      obtain ⟨y2, ey2, h⟩ := h.bind
      refine W_region mixed tys_ok (sup := [.res [(0, ⟨9, .bool, y2⟩)]]) (l := [(0, 0), (1, 0), (5, 0), (7, 0), (8, 0), (16, 0)]) (E' := [(0, .v 0 (.slice T_api_Thread) p0), (1, .v 0 (.fn T_api_Thread .bool) p1), (5, .v 0 (.int .i64) x1), (7, .v 0 (.int .i64) (p0.length : Int)), (8, .v 0 (.int .i64) x1), (16, .v 0 .bool y2)]) (obs := [0 ≤ x1 ∧ x1 < (p0.length : Int), p1 (rd z_api_Thread p0 x1) = some y2]) (by kernel_rfl) (⟨o1, ey2⟩) ?_
      refine W_cond (β := y2) (by kernel_rfl) (fun hb => ?_) (fun hb => ?_)
      · rw [cond_tt hb] at h
        refine W_seq ?_
        refine W_region mixed tys_ok (sup := []) (l := [(4, 0)]) (E' := [(4, .v 0 (.int .i64) x1)]) (obs := []) (by kernel_rfl) (trivial) ?_
        refine W_keep (l := [(4, 0)]) (E' := [(4, .v 0 (.int .i64) x1)]) (by kernel_rfl) ?_
        replace h : x1 = r := h
        subst h
        exact W_ret tys_ok hw0 (by kernel_rfl) (by kernel_rfl)
      · rw [cond_ff hb] at h
        refine W_skip ?_
        refine W_blk ?_
        refine W_region mixed tys_ok (sup := []) (l := [(0, 0), (1, 0), (7, 0), (8, 0)]) (E' := [(0, .v 0 (.slice T_api_Thread) p0), (1, .v 0 (.fn T_api_Thread .bool) p1), (7, .v 0 (.int .i64) (p0.length : Int)), (8, .v 0 (.int .i64) (IntKind.i64.wrap (x1 + (1 : Int))))]) (obs := []) (by kernel_rfl) (trivial) ?_
        refine W_gen (x := IntKind.i64.wrap (x1 + (1 : Int))) (En := fun x3 => [(0, .v 0 (.slice T_api_Thread) p0), (1, .v 0 (.fn T_api_Thread .bool) p1), (7, .v 0 (.int .i64) (p0.length : Int)), (8, .v 0 (.int .i64) x3)]) h (fun x3 h => ?_)
        refine W_keep (l := [(0, 0), (1, 0), (7, 0), (8, 0)]) (E' := [(0, .v 0 (.slice T_api_Thread) p0), (1, .v 0 (.fn T_api_Thread .bool) p1), (7, .v 0 (.int .i64) (p0.length : Int)), (8, .v 0 (.int .i64) x3)]) (by kernel_rfl) ?_
        exact W_abs h
    · rw [cond_ff hb] at h
      refine W_exit rfl ?_
      refine W_keep (l := []) (E' := []) (by kernel_rfl) ?_
      exact j1 () h.back

noncomputable def spawn_Running_c1 (p0 : D_api_Thread) : Option Bool :=
  bnd (p0.1 == (3 : Int)) fun x1 =>
  some x1
theorem spawn_Running_c1.ok {p0 : D_api_Thread} {r : Bool} (h : spawn_Running_c1 p0 = some r) : ACall prog 180 [⟨T_api_Thread, p0⟩] [⟨0, .bool, r⟩] := by
  replace h := Leads.of h
  unfold spawn_Running_c1 at h
  refine acall_of func180 (by kernel_rfl) rfl (by kernel_rfl) fun w0 F0 hw0 => ?_
  refine W_seq ?_
  refine W_region mixed tys_ok (sup := []) (l := [(1, 9)]) (E' := [(1, .box 9 T_api_Thread p0)]) (obs := []) (by kernel_rfl) (trivial) ?_
  refine W_seq ?_
  refine W_region mixed tys_ok (sup := []) (l := [(2, 0)]) (E' := [(2, .v 0 .bool (p0.1 == (3 : Int)))]) (obs := []) (by kernel_rfl) (trivial) ?_
  refine W_gen (x := p0.1 == (3 : Int)) (En := fun x1 => [(2, .v 0 .bool x1)]) h (fun x1 h => ?_)
  refine W_keep (l := [(2, 0)]) (E' := [(2, .v 0 .bool x1)]) (by kernel_rfl) ?_
  replace h : x1 = r := h
  subst h
  exact W_ret tys_ok hw0 (by kernel_rfl) (by kernel_rfl)

noncomputable def spawn_Running (p0 : D_api_State) : Option Int :=
  (slices_IndexFunc_api_Thread_api_Thread p0.2.2.1 (fun x => spawn_Running_c1 x)).bind fun y1 =>
  some y1
theorem spawn_Running.ok {p0 : D_api_State} {r : Int} (h : spawn_Running p0 = some r) : ACall prog 85 [⟨T_api_State, p0⟩] [⟨0, .int .i64, r⟩] := by
  replace h := Leads.of h
  unfold spawn_Running at h
  refine acall_of func85 (by kernel_rfl) rfl (by kernel_rfl) fun w0 F0 hw0 => ?_
  refine W_seq ?_
  refine W_region mixed tys_ok (sup := []) (l := [(1, 0)]) (E' := [(1, .box 0 T_api_State p0)]) (obs := []) (by kernel_rfl) (trivial) ?_
  refine W_seq ?_
  obtain ⟨y1, ey1, h⟩ := h.bind
  refine W_region mixed tys_ok (sup := [.fn T_api_Thread .bool (fun x => spawn_Running_c1 x), .res [(0, ⟨0, .int .i64, y1⟩)]]) (l := [(2, 0)]) (E' := [(2, .v 0 (.int .i64) y1)]) (obs := [∀ x y, (fun x => spawn_Running_c1 x) x = some y → ACall prog 180 (unprod T_api_Thread x ++ []) [⟨9, .bool, y⟩], ACall prog 179 [⟨.slice T_api_Thread, p0.2.2.1⟩, ⟨.fn T_api_Thread .bool, fun x => spawn_Running_c1 x⟩] [⟨0, .int .i64, y1⟩]]) (by kernel_rfl) (⟨fun x y e => ACall.flat rfl (spawn_Running_c1.ok e), slices_IndexFunc_api_Thread_api_Thread.ok ey1⟩) ?_
  refine W_keep (l := [(2, 0)]) (E' := [(2, .v 0 (.int .i64) y1)]) (by kernel_rfl) ?_
  replace h : y1 = r := h
  subst h
  exact W_ret tys_ok hw0 (by kernel_rfl) (by kernel_rfl)

noncomputable def state_get_api_Thread (p0 : List D_api_Thread) (p1 : Int) (p2 : D_api_Thread → Option Bool) : Option (D_api_Thread × Bool) :=
  bnd (((0 : Int), (0 : Int), (0 : Int), (0 : Int), (0 : Int))) fun x1 =>
  ass ((!((decide (p1 < (0 : Int))) || (decide (p1 ≥ (p0.length : Int))))) = true → 0 ≤ p1 ∧ p1 < (p0.length : Int)) <|
  (bif !((decide (p1 < (0 : Int))) || (decide (p1 ≥ (p0.length : Int)))) then p2 (rd z_api_Thread p0 p1) else some false).bind fun y2 =>
  bif ((decide (p1 < (0 : Int))) || (decide (p1 ≥ (p0.length : Int)))) || (!y2) then
    some (x1, false)
  else
    ass (0 ≤ p1 ∧ p1 < (p0.length : Int)) <|
    bnd (rd z_api_Thread p0 p1) fun x3 =>
    some (x3, true)
theorem state_get_api_Thread.ok {p0 : List D_api_Thread} {p1 : Int} {p2 : D_api_Thread → Option Bool} {r : D_api_Thread × Bool} (h : state_get_api_Thread p0 p1 p2 = some r) : ACall prog 148 [⟨.slice T_api_Thread, p0⟩, ⟨.int .i64, p1⟩, ⟨.fn T_api_Thread .bool, p2⟩] [⟨0, T_api_Thread, r.1⟩, ⟨0, .bool, r.2⟩] := by
  replace h := Leads.of h
  unfold state_get_api_Thread at h
  refine acall_of func148 (by kernel_rfl) rfl (by kernel_rfl) fun w0 F0 hw0 => ?_
  refine W_seq ?_
  refine W_region mixed tys_ok (sup := []) (l := [(0, 0), (1, 0), (2, 0), (6, 9)]) (E' := [(0, .v 0 (.slice T_api_Thread) p0), (1, .v 0 (.int .i64) p1), (2, .v 0 (.fn T_api_Thread .bool) p2), (6, .box 9 T_api_Thread ((0 : Int), (0 : Int), (0 : Int), (0 : Int), (0 : Int)))]) (obs := []) (by kernel_rfl) (trivial) ?_
  refine W_gen (x := ((0 : Int), (0 : Int), (0 : Int), (0 : Int), (0 : Int))) (En := fun x1 => [(0, .v 0 (.slice T_api_Thread) p0), (1, .v 0 (.int .i64) p1), (2, .v 0 (.fn T_api_Thread .bool) p2), (6, .box 9 T_api_Thread x1)]) h (fun x1 h => ?_)
  refine W_seq ?_
  refine W_seq ?_
  obtain ⟨o1, h⟩ := h.ass
  obtain ⟨y2, ey2, h⟩ := h.bind
  refine W_region mixed tys_ok (sup := [.res [(0, ⟨9, .bool, y2⟩)]]) (l := [(0, 0), (1, 0), (6, 9), (24, 0)]) (E' := [(0, .v 0 (.slice T_api_Thread) p0), (1, .v 0 (.int .i64) p1), (6, .box 9 T_api_Thread x1), (24, .v 0 .bool (((decide (p1 < (0 : Int))) || (decide (p1 ≥ (p0.length : Int)))) || (!y2)))]) (obs := [(!((decide (p1 < (0 : Int))) || (decide (p1 ≥ (p0.length : Int))))) = true → 0 ≤ p1 ∧ p1 < (p0.length : Int), (!((decide (p1 < (0 : Int))) || (decide (p1 ≥ (p0.length : Int))))) = true → p2 (rd z_api_Thread p0 p1) = some y2]) (by kernel_rfl) (⟨o1, fun hc => bif_some ey2 hc⟩) ?_
  refine W_cond (β := ((decide (p1 < (0 : Int))) || (decide (p1 ≥ (p0.length : Int)))) || (!y2)) (by kernel_rfl) (fun hb => ?_) (fun hb => ?_)
  · rw [cond_tt hb] at h
    refine W_seq ?_
    refine W_region mixed tys_ok (sup := []) (l := [(6, 9), (7, 0)]) (E' := [(6, .box 9 T_api_Thread x1), (7, .v 0 .bool false)]) (obs := []) (by kernel_rfl) (trivial) ?_
    refine W_keep (l := [(6, 0), (7, 0)]) (E' := [(6, .box 0 T_api_Thread x1), (7, .v 0 .bool false)]) (by kernel_rfl) ?_
    replace h : ((x1, false)) = r := h
    subst h
    exact W_ret tys_ok hw0 (by kernel_rfl) (by kernel_rfl)
  · rw [cond_ff hb] at h
    refine W_skip ?_
    refine W_seq ?_
    obtain ⟨o1, h⟩ := h.ass
    refine W_region mixed tys_ok (sup := []) (l := [(6, 9), (7, 0)]) (E' := [(6, .box 9 T_api_Thread (rd z_api_Thread p0 p1)), (7, .v 0 .bool true)]) (obs := [0 ≤ p1 ∧ p1 < (p0.length : Int)]) (by kernel_rfl) (o1) ?_
    refine W_gen (x := rd z_api_Thread p0 p1) (En := fun x3 => [(6, .box 9 T_api_Thread x3), (7, .v 0 .bool true)]) h (fun x3 h => ?_)
    refine W_keep (l := [(6, 0), (7, 0)]) (E' := [(6, .box 0 T_api_Thread x3), (7, .v 0 .bool true)]) (by kernel_rfl) ?_
    replace h : ((x3, true)) = r := h
    subst h
    exact W_ret tys_ok hw0 (by kernel_rfl) (by kernel_rfl)

noncomputable def state_threadUsed (p0 : D_api_Thread) : Option Bool :=
  bnd (p0.1 != (0 : Int)) fun x1 =>
  some x1
theorem state_threadUsed.ok {p0 : D_api_Thread} {r : Bool} (h : state_threadUsed p0 = some r) : ACall prog 139 [⟨T_api_Thread, p0⟩] [⟨0, .bool, r⟩] := by
  replace h := Leads.of h
  unfold state_threadUsed at h
  refine acall_of func139 (by kernel_rfl) rfl (by kernel_rfl) fun w0 F0 hw0 => ?_
  refine W_seq ?_
  refine W_region mixed tys_ok (sup := []) (l := [(1, 9)]) (E' := [(1, .box 9 T_api_Thread p0)]) (obs := []) (by kernel_rfl) (trivial) ?_
  refine W_seq ?_
  refine W_region mixed tys_ok (sup := []) (l := [(2, 0)]) (E' := [(2, .v 0 .bool (p0.1 != (0 : Int)))]) (obs := []) (by kernel_rfl) (trivial) ?_
  refine W_gen (x := p0.1 != (0 : Int)) (En := fun x1 => [(2, .v 0 .bool x1)]) h (fun x1 h => ?_)
  refine W_keep (l := [(2, 0)]) (E' := [(2, .v 0 .bool x1)]) (by kernel_rfl) ?_
  replace h : x1 = r := h
  subst h
  exact W_ret tys_ok hw0 (by kernel_rfl) (by kernel_rfl)

noncomputable def state_Thread (p0 : D_api_State) (p1 : Int) : Option (D_api_Thread × Bool) :=
  bnd (((0 : Int), (0 : Int), (0 : Int), (0 : Int), (0 : Int))) fun x1 =>
  (state_get_api_Thread p0.2.2.1 p1 (fun x => state_threadUsed x)).bind fun y2 =>
  some (y2.1, y2.2)
theorem state_Thread.ok {p0 : D_api_State} {p1 : Int} {r : D_api_Thread × Bool} (h : state_Thread p0 p1 = some r) : ACall prog 61 [⟨T_api_State, p0⟩, ⟨.int .i64, p1⟩] [⟨0, T_api_Thread, r.1⟩, ⟨0, .bool, r.2⟩] := by
  replace h := Leads.of h
  unfold state_Thread at h
  refine acall_of func61 (by kernel_rfl) rfl (by kernel_rfl) fun w0 F0 hw0 => ?_
  refine W_seq ?_
  refine W_region mixed tys_ok (sup := []) (l := [(1, 0), (2, 0), (4, 9)]) (E' := [(1, .v 0 (.int .i64) p1), (2, .box 0 T_api_State p0), (4, .box 9 T_api_Thread ((0 : Int), (0 : Int), (0 : Int), (0 : Int), (0 : Int)))]) (obs := []) (by kernel_rfl) (trivial) ?_
  refine W_gen (x := ((0 : Int), (0 : Int), (0 : Int), (0 : Int), (0 : Int))) (En := fun x1 => [(1, .v 0 (.int .i64) p1), (2, .box 0 T_api_State p0), (4, .box 9 T_api_Thread x1)]) h (fun x1 h => ?_)
  refine W_seq ?_
  obtain ⟨y2, ey2, h⟩ := h.bind
  refine W_region mixed tys_ok (sup := [.fn T_api_Thread .bool (fun x => state_threadUsed x), .res [(0, ⟨0, T_api_Thread, y2.1⟩), (0, ⟨0, .bool, y2.2⟩)]]) (l := [(4, 9), (5, 0)]) (E' := [(4, .box 9 T_api_Thread y2.1), (5, .v 0 .bool y2.2)]) (obs := [∀ x y, (fun x => state_threadUsed x) x = some y → ACall prog 139 (unprod T_api_Thread x ++ []) [⟨9, .bool, y⟩], ACall prog 148 [⟨.slice T_api_Thread, p0.2.2.1⟩, ⟨.int .i64, p1⟩, ⟨.fn T_api_Thread .bool, fun x => state_threadUsed x⟩] [⟨0, T_api_Thread, y2.1⟩, ⟨0, .bool, y2.2⟩]]) (by kernel_rfl) (⟨fun x y e => ACall.flat rfl (state_threadUsed.ok e), state_get_api_Thread.ok ey2⟩) ?_
  refine W_keep (l := [(4, 0), (5, 0)]) (E' := [(4, .box 0 T_api_Thread y2.1), (5, .v 0 .bool y2.2)]) (by kernel_rfl) ?_
  replace h : ((y2.1, y2.2)) = r := h
  subst h
  exact W_ret tys_ok hw0 (by kernel_rfl) (by kernel_rfl)

noncomputable def slices_Clone_bool_bool (p0 : List Bool) : Option (List Bool) :=
  ass (((([] : List Bool).length + p0.length : Nat) : Int) ≤ limA) <|
  bnd (([] : List Bool) ++ p0) fun x2 =>
  some x2
theorem slices_Clone_bool_bool.ok {p0 : List Bool} {r : List Bool} (h : slices_Clone_bool_bool p0 = some r) : ACall prog 129 [⟨.slice .bool, p0⟩] [⟨9, .slice .bool, r⟩] := by
  replace h := Leads.of h
  unfold slices_Clone_bool_bool at h
  refine acall_of func129 (by kernel_rfl) rfl (by kernel_rfl) fun w0 F0 hw0 => ?_
  refine W_seq ?_
  refine W_region mixed tys_ok (sup := []) (l := [(0, 0)]) (E' := [(0, .v 0 (.slice .bool) p0)]) (obs := []) (by kernel_rfl) (trivial) ?_
  refine W_seq ?_
  refine W_seq ?_
  refine W_nilcmp mixed tys_ok rfl (x := 3) (d := 4) (T := 22) rfl rfl rfl (E1 := [(3, .v 0 (.slice .bool) p0), (0, .v 0 (.slice .bool) p0)]) (by kernel_rfl) rfl rfl (by kernel_rfl) (fun nb1 hn => ?_)
  refine W_keep (l := [(0, 0), (4, 0)]) (E' := [(0, .v 0 (.slice .bool) p0), (4, .v 0 .bool nb1)]) (by kernel_rfl) ?_
  refine W_cond (β := nb1) (by kernel_rfl) (fun hb => ?_) (fun hb => ?_)
  · replace h := clone_nil (hn hb) h
    refine W_seq ?_
    refine W_region mixed tys_ok (sup := []) (l := [(2, 9)]) (E' := [(2, .v 9 (.slice .bool) ([] : List Bool))]) (obs := []) (by kernel_rfl) (trivial) ?_
    refine W_keep (l := [(2, 9)]) (E' := [(2, .v 9 (.slice .bool) ([] : List Bool))]) (by kernel_rfl) ?_
    replace h : (([] : List Bool)) = r := h
    subst h
    exact W_ret tys_ok hw0 (by kernel_rfl) (by kernel_rfl)
  · skip
    refine W_skip ?_
    refine W_seq ?_
    obtain ⟨o1, h⟩ := h.ass
    refine W_region mixed tys_ok (sup := []) (l := [(2, 9)]) (E' := [(2, .v 9 (.slice .bool) (([] : List Bool) ++ p0))]) (obs := [((([] : List Bool).length + p0.length : Nat) : Int) ≤ limA]) (by kernel_rfl) (o1) ?_
    refine W_gen (x := ([] : List Bool) ++ p0) (En := fun x2 => [(2, .v 9 (.slice .bool) x2)]) h (fun x2 h => ?_)
    refine W_keep (l := [(2, 9)]) (E' := [(2, .v 9 (.slice .bool) x2)]) (by kernel_rfl) ?_
    replace h : x2 = r := h
    subst h
    exact W_ret tys_ok hw0 (by kernel_rfl) (by kernel_rfl)

noncomputable def slices_Clone_api_Ticket_api_Ticket (p0 : List D_api_Ticket) : Option (List D_api_Ticket) :=
  ass (((([] : List D_api_Ticket).length + p0.length : Nat) : Int) ≤ limA) <|
  bnd (([] : List D_api_Ticket) ++ p0) fun x2 =>
  some x2
theorem slices_Clone_api_Ticket_api_Ticket.ok {p0 : List D_api_Ticket} {r : List D_api_Ticket} (h : slices_Clone_api_Ticket_api_Ticket p0 = some r) : ACall prog 130 [⟨.slice T_api_Ticket, p0⟩] [⟨9, .slice T_api_Ticket, r⟩] := by
  replace h := Leads.of h
  unfold slices_Clone_api_Ticket_api_Ticket at h
  refine acall_of func130 (by kernel_rfl) rfl (by kernel_rfl) fun w0 F0 hw0 => ?_
  refine W_seq ?_
  refine W_region mixed tys_ok (sup := []) (l := [(0, 0)]) (E' := [(0, .v 0 (.slice T_api_Ticket) p0)]) (obs := []) (by kernel_rfl) (trivial) ?_
  refine W_seq ?_
  refine W_seq ?_
  refine W_nilcmp mixed tys_ok rfl (x := 3) (d := 4) (T := 23) rfl rfl rfl (E1 := [(3, .v 0 (.slice T_api_Ticket) p0), (0, .v 0 (.slice T_api_Ticket) p0)]) (by kernel_rfl) rfl rfl (by kernel_rfl) (fun nb1 hn => ?_)
  refine W_keep (l := [(0, 0), (4, 0)]) (E' := [(0, .v 0 (.slice T_api_Ticket) p0), (4, .v 0 .bool nb1)]) (by kernel_rfl) ?_
  refine W_cond (β := nb1) (by kernel_rfl) (fun hb => ?_) (fun hb => ?_)
  · replace h := clone_nil (hn hb) h
    refine W_seq ?_
    refine W_region mixed tys_ok (sup := []) (l := [(2, 9)]) (E' := [(2, .v 9 (.slice T_api_Ticket) ([] : List D_api_Ticket))]) (obs := []) (by kernel_rfl) (trivial) ?_
    refine W_keep (l := [(2, 9)]) (E' := [(2, .v 9 (.slice T_api_Ticket) ([] : List D_api_Ticket))]) (by kernel_rfl) ?_
    replace h : (([] : List D_api_Ticket)) = r := h
    subst h
    exact W_ret tys_ok hw0 (by kernel_rfl) (by kernel_rfl)
  · skip
    refine W_skip ?_
    refine W_seq ?_
    obtain ⟨o1, h⟩ := h.ass
    refine W_region mixed tys_ok (sup := []) (l := [(2, 9)]) (E' := [(2, .v 9 (.slice T_api_Ticket) (([] : List D_api_Ticket) ++ p0))]) (obs := [((([] : List D_api_Ticket).length + p0.length : Nat) : Int) ≤ limA]) (by kernel_rfl) (o1) ?_
    refine W_gen (x := ([] : List D_api_Ticket) ++ p0) (En := fun x2 => [(2, .v 9 (.slice T_api_Ticket) x2)]) h (fun x2 h => ?_)
    refine W_keep (l := [(2, 9)]) (E' := [(2, .v 9 (.slice T_api_Ticket) x2)]) (by kernel_rfl) ?_
    replace h : x2 = r := h
    subst h
    exact W_ret tys_ok hw0 (by kernel_rfl) (by kernel_rfl)

noncomputable def slices_Clone_api_Thread_api_Thread (p0 : List D_api_Thread) : Option (List D_api_Thread) :=
  ass (((([] : List D_api_Thread).length + p0.length : Nat) : Int) ≤ limA) <|
  bnd (([] : List D_api_Thread) ++ p0) fun x2 =>
  some x2
theorem slices_Clone_api_Thread_api_Thread.ok {p0 : List D_api_Thread} {r : List D_api_Thread} (h : slices_Clone_api_Thread_api_Thread p0 = some r) : ACall prog 131 [⟨.slice T_api_Thread, p0⟩] [⟨9, .slice T_api_Thread, r⟩] := by
  replace h := Leads.of h
  unfold slices_Clone_api_Thread_api_Thread at h
  refine acall_of func131 (by kernel_rfl) rfl (by kernel_rfl) fun w0 F0 hw0 => ?_
  refine W_seq ?_
  refine W_region mixed tys_ok (sup := []) (l := [(0, 0)]) (E' := [(0, .v 0 (.slice T_api_Thread) p0)]) (obs := []) (by kernel_rfl) (trivial) ?_
  refine W_seq ?_
  refine W_seq ?_
  refine W_nilcmp mixed tys_ok rfl (x := 3) (d := 4) (T := 24) rfl rfl rfl (E1 := [(3, .v 0 (.slice T_api_Thread) p0), (0, .v 0 (.slice T_api_Thread) p0)]) (by kernel_rfl) rfl rfl (by kernel_rfl) (fun nb1 hn => ?_)
  refine W_keep (l := [(0, 0), (4, 0)]) (E' := [(0, .v 0 (.slice T_api_Thread) p0), (4, .v 0 .bool nb1)]) (by kernel_rfl) ?_
  refine W_cond (β := nb1) (by kernel_rfl) (fun hb => ?_) (fun hb => ?_)
  · replace h := clone_nil (hn hb) h
    refine W_seq ?_
    refine W_region mixed tys_ok (sup := []) (l := [(2, 9)]) (E' := [(2, .v 9 (.slice T_api_Thread) ([] : List D_api_Thread))]) (obs := []) (by kernel_rfl) (trivial) ?_
    refine W_keep (l := [(2, 9)]) (E' := [(2, .v 9 (.slice T_api_Thread) ([] : List D_api_Thread))]) (by kernel_rfl) ?_
    replace h : (([] : List D_api_Thread)) = r := h
    subst h
    exact W_ret tys_ok hw0 (by kernel_rfl) (by kernel_rfl)
  · skip
    refine W_skip ?_
    refine W_seq ?_
    obtain ⟨o1, h⟩ := h.ass
    refine W_region mixed tys_ok (sup := []) (l := [(2, 9)]) (E' := [(2, .v 9 (.slice T_api_Thread) (([] : List D_api_Thread) ++ p0))]) (obs := [((([] : List D_api_Thread).length + p0.length : Nat) : Int) ≤ limA]) (by kernel_rfl) (o1) ?_
    refine W_gen (x := ([] : List D_api_Thread) ++ p0) (En := fun x2 => [(2, .v 9 (.slice T_api_Thread) x2)]) h (fun x2 h => ?_)
    refine W_keep (l := [(2, 9)]) (E' := [(2, .v 9 (.slice T_api_Thread) x2)]) (by kernel_rfl) ?_
    replace h : x2 = r := h
    subst h
    exact W_ret tys_ok hw0 (by kernel_rfl) (by kernel_rfl)

noncomputable def slices_Clone_api_Lock_api_Lock (p0 : List D_api_Lock) : Option (List D_api_Lock) :=
  ass (((([] : List D_api_Lock).length + p0.length : Nat) : Int) ≤ limA) <|
  bnd (([] : List D_api_Lock) ++ p0) fun x2 =>
  some x2
theorem slices_Clone_api_Lock_api_Lock.ok {p0 : List D_api_Lock} {r : List D_api_Lock} (h : slices_Clone_api_Lock_api_Lock p0 = some r) : ACall prog 132 [⟨.slice T_api_Lock, p0⟩] [⟨9, .slice T_api_Lock, r⟩] := by
  replace h := Leads.of h
  unfold slices_Clone_api_Lock_api_Lock at h
  refine acall_of func132 (by kernel_rfl) rfl (by kernel_rfl) fun w0 F0 hw0 => ?_
  refine W_seq ?_
  refine W_region mixed tys_ok (sup := []) (l := [(0, 0)]) (E' := [(0, .v 0 (.slice T_api_Lock) p0)]) (obs := []) (by kernel_rfl) (trivial) ?_
  refine W_seq ?_
  refine W_seq ?_
  refine W_nilcmp mixed tys_ok rfl (x := 3) (d := 4) (T := 25) rfl rfl rfl (E1 := [(3, .v 0 (.slice T_api_Lock) p0), (0, .v 0 (.slice T_api_Lock) p0)]) (by kernel_rfl) rfl rfl (by kernel_rfl) (fun nb1 hn => ?_)
  refine W_keep (l := [(0, 0), (4, 0)]) (E' := [(0, .v 0 (.slice T_api_Lock) p0), (4, .v 0 .bool nb1)]) (by kernel_rfl) ?_
  refine W_cond (β := nb1) (by kernel_rfl) (fun hb => ?_) (fun hb => ?_)
  · replace h := clone_nil (hn hb) h
    refine W_seq ?_
    refine W_region mixed tys_ok (sup := []) (l := [(2, 9)]) (E' := [(2, .v 9 (.slice T_api_Lock) ([] : List D_api_Lock))]) (obs := []) (by kernel_rfl) (trivial) ?_
    refine W_keep (l := [(2, 9)]) (E' := [(2, .v 9 (.slice T_api_Lock) ([] : List D_api_Lock))]) (by kernel_rfl) ?_
    replace h : (([] : List D_api_Lock)) = r := h
    subst h
    exact W_ret tys_ok hw0 (by kernel_rfl) (by kernel_rfl)
  · skip
    refine W_skip ?_
    refine W_seq ?_
    obtain ⟨o1, h⟩ := h.ass
    refine W_region mixed tys_ok (sup := []) (l := [(2, 9)]) (E' := [(2, .v 9 (.slice T_api_Lock) (([] : List D_api_Lock) ++ p0))]) (obs := [((([] : List D_api_Lock).length + p0.length : Nat) : Int) ≤ limA]) (by kernel_rfl) (o1) ?_
    refine W_gen (x := ([] : List D_api_Lock) ++ p0) (En := fun x2 => [(2, .v 9 (.slice T_api_Lock) x2)]) h (fun x2 h => ?_)
    refine W_keep (l := [(2, 9)]) (E' := [(2, .v 9 (.slice T_api_Lock) x2)]) (by kernel_rfl) ?_
    replace h : x2 = r := h
    subst h
    exact W_ret tys_ok hw0 (by kernel_rfl) (by kernel_rfl)

noncomputable def slices_Clone_int_int (p0 : List Int) : Option (List Int) :=
  ass (((([] : List Int).length + p0.length : Nat) : Int) ≤ limA) <|
  bnd (([] : List Int) ++ p0) fun x2 =>
  some x2
theorem slices_Clone_int_int.ok {p0 : List Int} {r : List Int} (h : slices_Clone_int_int p0 = some r) : ACall prog 133 [⟨.slice (.int .i64), p0⟩] [⟨9, .slice (.int .i64), r⟩] := by
  replace h := Leads.of h
  unfold slices_Clone_int_int at h
  refine acall_of func133 (by kernel_rfl) rfl (by kernel_rfl) fun w0 F0 hw0 => ?_
  refine W_seq ?_
  refine W_region mixed tys_ok (sup := []) (l := [(0, 0)]) (E' := [(0, .v 0 (.slice (.int .i64)) p0)]) (obs := []) (by kernel_rfl) (trivial) ?_
  refine W_seq ?_
  refine W_seq ?_
  refine W_nilcmp mixed tys_ok rfl (x := 3) (d := 4) (T := 26) rfl rfl rfl (E1 := [(3, .v 0 (.slice (.int .i64)) p0), (0, .v 0 (.slice (.int .i64)) p0)]) (by kernel_rfl) rfl rfl (by kernel_rfl) (fun nb1 hn => ?_)
  refine W_keep (l := [(0, 0), (4, 0)]) (E' := [(0, .v 0 (.slice (.int .i64)) p0), (4, .v 0 .bool nb1)]) (by kernel_rfl) ?_
  refine W_cond (β := nb1) (by kernel_rfl) (fun hb => ?_) (fun hb => ?_)
  · replace h := clone_nil (hn hb) h
    refine W_seq ?_
    refine W_region mixed tys_ok (sup := []) (l := [(2, 9)]) (E' := [(2, .v 9 (.slice (.int .i64)) ([] : List Int))]) (obs := []) (by kernel_rfl) (trivial) ?_
    refine W_keep (l := [(2, 9)]) (E' := [(2, .v 9 (.slice (.int .i64)) ([] : List Int))]) (by kernel_rfl) ?_
    replace h : (([] : List Int)) = r := h
    subst h
    exact W_ret tys_ok hw0 (by kernel_rfl) (by kernel_rfl)
  · skip
    refine W_skip ?_
    refine W_seq ?_
    obtain ⟨o1, h⟩ := h.ass
    refine W_region mixed tys_ok (sup := []) (l := [(2, 9)]) (E' := [(2, .v 9 (.slice (.int .i64)) (([] : List Int) ++ p0))]) (obs := [((([] : List Int).length + p0.length : Nat) : Int) ≤ limA]) (by kernel_rfl) (o1) ?_
    refine W_gen (x := ([] : List Int) ++ p0) (En := fun x2 => [(2, .v 9 (.slice (.int .i64)) x2)]) h (fun x2 h => ?_)
    refine W_keep (l := [(2, 9)]) (E' := [(2, .v 9 (.slice (.int .i64)) x2)]) (by kernel_rfl) ?_
    replace h : x2 = r := h
    subst h
    exact W_ret tys_ok hw0 (by kernel_rfl) (by kernel_rfl)

noncomputable def state_Copy (p0 : D_api_State) : Option D_api_State :=
  bnd ((([] : List Bool), ([] : List D_api_Ticket), ([] : List D_api_Thread), ([] : List D_api_Lock), ([] : List Int), (0 : Int))) fun x1 =>
  (slices_Clone_bool_bool p0.1).bind fun y2 =>
  (slices_Clone_api_Ticket_api_Ticket p0.2.1).bind fun y3 =>
  (slices_Clone_api_Thread_api_Thread p0.2.2.1).bind fun y4 =>
  (slices_Clone_api_Lock_api_Lock p0.2.2.2.1).bind fun y5 =>
  (slices_Clone_int_int p0.2.2.2.2.1).bind fun y6 =>
  bnd ((y2, y3, y4, y5, y6, p0.2.2.2.2.2)) fun x7 =>
  some x7
theorem state_Copy.ok {p0 : D_api_State} {r : D_api_State} (h : state_Copy p0 = some r) : ACall prog 44 [⟨T_api_State, p0⟩] [⟨(.pr 9 (.pr 9 (.pr 9 (.pr 9 (.pr 9 0))))), T_api_State, r⟩] := by
  replace h := Leads.of h
  unfold state_Copy at h
  refine acall_of func44 (by kernel_rfl) rfl (by kernel_rfl) fun w0 F0 hw0 => ?_
  refine W_seq ?_
  refine W_region mixed tys_ok (sup := []) (l := [(1, 0), (2, 9)]) (E' := [(1, .box 0 T_api_State p0), (2, .box 9 T_api_State (([] : List Bool), ([] : List D_api_Ticket), ([] : List D_api_Thread), ([] : List D_api_Lock), ([] : List Int), (0 : Int)))]) (obs := []) (by kernel_rfl) (trivial) ?_
  refine W_gen (x := (([] : List Bool), ([] : List D_api_Ticket), ([] : List D_api_Thread), ([] : List D_api_Lock), ([] : List Int), (0 : Int))) (En := fun x1 => [(1, .box 0 T_api_State p0), (2, .box 9 T_api_State x1)]) h (fun x1 h => ?_)
  refine W_seq ?_
  obtain ⟨y2, ey2, h⟩ := h.bind
  obtain ⟨y3, ey3, h⟩ := h.bind
  obtain ⟨y4, ey4, h⟩ := h.bind
  obtain ⟨y5, ey5, h⟩ := h.bind
  obtain ⟨y6, ey6, h⟩ := h.bind
  refine W_region mixed tys_ok (sup := [.res [(9, ⟨9, .slice .bool, y2⟩)], .res [(9, ⟨9, .slice T_api_Ticket, y3⟩)], .res [(9, ⟨9, .slice T_api_Thread, y4⟩)], .res [(9, ⟨9, .slice T_api_Lock, y5⟩)], .res [(9, ⟨9, .slice (.int .i64), y6⟩)]]) (l := [(1, (.pr 9 (.pr 9 (.pr 9 (.pr 9 (.pr 9 0)))))), (2, 9)]) (E' := [(1, .box (.pr 9 (.pr 9 (.pr 9 (.pr 9 (.pr 9 0))))) T_api_State (y2, y3, y4, y5, y6, p0.2.2.2.2.2)), (2, .box 9 T_api_State x1)]) (obs := [ACall prog 129 [⟨.slice .bool, p0.1⟩] [⟨9, .slice .bool, y2⟩], ACall prog 130 [⟨.slice T_api_Ticket, p0.2.1⟩] [⟨9, .slice T_api_Ticket, y3⟩], ACall prog 131 [⟨.slice T_api_Thread, p0.2.2.1⟩] [⟨9, .slice T_api_Thread, y4⟩], ACall prog 132 [⟨.slice T_api_Lock, p0.2.2.2.1⟩] [⟨9, .slice T_api_Lock, y5⟩], ACall prog 133 [⟨.slice (.int .i64), p0.2.2.2.2.1⟩] [⟨9, .slice (.int .i64), y6⟩]]) (by kernel_rfl) (⟨slices_Clone_bool_bool.ok ey2, slices_Clone_api_Ticket_api_Ticket.ok ey3, slices_Clone_api_Thread_api_Thread.ok ey4, slices_Clone_api_Lock_api_Lock.ok ey5, slices_Clone_int_int.ok ey6⟩) ?_
  refine W_gen (x := (y2, y3, y4, y5, y6, p0.2.2.2.2.2)) (En := fun x7 => [(1, .box (.pr 9 (.pr 9 (.pr 9 (.pr 9 (.pr 9 0))))) T_api_State x7), (2, .box 9 T_api_State x1)]) h (fun x7 h => ?_)
  refine W_seq ?_
  refine W_region mixed tys_ok (sup := []) (l := [(2, (.pr 9 (.pr 9 (.pr 9 (.pr 9 (.pr 9 0))))))]) (E' := [(2, .box (.pr 9 (.pr 9 (.pr 9 (.pr 9 (.pr 9 0))))) T_api_State x7)]) (obs := []) (by kernel_rfl) (trivial) ?_
  refine W_keep (l := [(2, (.pr 9 (.pr 9 (.pr 9 (.pr 9 (.pr 9 0))))))]) (E' := [(2, .box (.pr 9 (.pr 9 (.pr 9 (.pr 9 (.pr 9 0))))) T_api_State x7)]) (by kernel_rfl) ?_
  replace h : x7 = r := h
  subst h
  exact W_ret tys_ok hw0 (by kernel_rfl) (by kernel_rfl)

noncomputable def call_no (p0 : D_api_State) (p1 : Int) : Option (D_api_State × D_api_Reply) :=
  bnd ((([] : List Bool), ([] : List D_api_Ticket), ([] : List D_api_Thread), ([] : List D_api_Lock), ([] : List Int), (0 : Int))) fun x1 =>
  bnd (((0 : Int), (0 : Int))) fun x2 =>
  (state_Copy p0).bind fun y3 =>
  bnd ((p1, (0 : Int))) fun x4 =>
  some (y3, x4)
theorem call_no.ok {p0 : D_api_State} {p1 : Int} {r : D_api_State × D_api_Reply} (h : call_no p0 p1 = some r) : ACall prog 86 [⟨T_api_State, p0⟩, ⟨.int .i64, p1⟩] [⟨(.pr 9 (.pr 9 (.pr 9 (.pr 9 (.pr 9 0))))), T_api_State, r.1⟩, ⟨0, T_api_Reply, r.2⟩] := by
  replace h := Leads.of h
  unfold call_no at h
  refine acall_of func86 (by kernel_rfl) rfl (by kernel_rfl) fun w0 F0 hw0 => ?_
  refine W_seq ?_
  refine W_region mixed tys_ok (sup := []) (l := [(1, 0), (2, 0), (4, 9), (5, 9)]) (E' := [(1, .v 0 (.int .i64) p1), (2, .box 0 T_api_State p0), (4, .box 9 T_api_State (([] : List Bool), ([] : List D_api_Ticket), ([] : List D_api_Thread), ([] : List D_api_Lock), ([] : List Int), (0 : Int))), (5, .box 9 T_api_Reply ((0 : Int), (0 : Int)))]) (obs := []) (by kernel_rfl) (trivial) ?_
  refine W_gen (x := (([] : List Bool), ([] : List D_api_Ticket), ([] : List D_api_Thread), ([] : List D_api_Lock), ([] : List Int), (0 : Int))) (En := fun x1 => [(1, .v 0 (.int .i64) p1), (2, .box 0 T_api_State p0), (4, .box 9 T_api_State x1), (5, .box 9 T_api_Reply ((0 : Int), (0 : Int)))]) h (fun x1 h => ?_)
  refine W_gen (x := ((0 : Int), (0 : Int))) (En := fun x2 => [(1, .v 0 (.int .i64) p1), (2, .box 0 T_api_State p0), (4, .box 9 T_api_State x1), (5, .box 9 T_api_Reply x2)]) h (fun x2 h => ?_)
  refine W_seq ?_
  obtain ⟨y3, ey3, h⟩ := h.bind
  refine W_region mixed tys_ok (sup := [.res [((.pr 9 (.pr 9 (.pr 9 (.pr 9 (.pr 9 0))))), ⟨(.pr 9 (.pr 9 (.pr 9 (.pr 9 (.pr 9 0))))), T_api_State, y3⟩)]]) (l := [(4, (.pr 9 (.pr 9 (.pr 9 (.pr 9 (.pr 9 0)))))), (5, 9)]) (E' := [(4, .box (.pr 9 (.pr 9 (.pr 9 (.pr 9 (.pr 9 0))))) T_api_State y3), (5, .box 9 T_api_Reply (p1, (0 : Int)))]) (obs := [ACall prog 44 [⟨T_api_State, p0⟩] [⟨(.pr 9 (.pr 9 (.pr 9 (.pr 9 (.pr 9 0))))), T_api_State, y3⟩]]) (by kernel_rfl) (state_Copy.ok ey3) ?_
  refine W_gen (x := (p1, (0 : Int))) (En := fun x4 => [(4, .box (.pr 9 (.pr 9 (.pr 9 (.pr 9 (.pr 9 0))))) T_api_State y3), (5, .box 9 T_api_Reply x4)]) h (fun x4 h => ?_)
  refine W_keep (l := [(4, (.pr 9 (.pr 9 (.pr 9 (.pr 9 (.pr 9 0)))))), (5, 0)]) (E' := [(4, .box (.pr 9 (.pr 9 (.pr 9 (.pr 9 (.pr 9 0))))) T_api_State y3), (5, .box 0 T_api_Reply x4)]) (by kernel_rfl) ?_
  replace h : ((y3, x4)) = r := h
  subst h
  exact W_ret tys_ok hw0 (by kernel_rfl) (by kernel_rfl)

noncomputable def call_within (p0 : D_api_State) (p1 : Int) : Option Bool :=
  bnd ((decide (p1 ≥ (1 : Int))) && (decide (p1 ≤ p0.2.2.2.2.2))) fun x1 =>
  some x1
theorem call_within.ok {p0 : D_api_State} {p1 : Int} {r : Bool} (h : call_within p0 p1 = some r) : ACall prog 87 [⟨T_api_State, p0⟩, ⟨.int .i64, p1⟩] [⟨0, .bool, r⟩] := by
  replace h := Leads.of h
  unfold call_within at h
  refine acall_of func87 (by kernel_rfl) rfl (by kernel_rfl) fun w0 F0 hw0 => ?_
  refine W_seq ?_
  refine W_region mixed tys_ok (sup := []) (l := [(1, 0), (2, 0)]) (E' := [(1, .v 0 (.int .i64) p1), (2, .box 0 T_api_State p0)]) (obs := []) (by kernel_rfl) (trivial) ?_
  refine W_seq ?_
  refine W_region mixed tys_ok (sup := []) (l := [(4, 0)]) (E' := [(4, .v 0 .bool ((decide (p1 ≥ (1 : Int))) && (decide (p1 ≤ p0.2.2.2.2.2))))]) (obs := []) (by kernel_rfl) (trivial) ?_
  refine W_gen (x := (decide (p1 ≥ (1 : Int))) && (decide (p1 ≤ p0.2.2.2.2.2))) (En := fun x1 => [(4, .v 0 .bool x1)]) h (fun x1 h => ?_)
  refine W_keep (l := [(4, 0)]) (E' := [(4, .v 0 .bool x1)]) (by kernel_rfl) ?_
  replace h : x1 = r := h
  subst h
  exact W_ret tys_ok hw0 (by kernel_rfl) (by kernel_rfl)

noncomputable def state_get_api_Lock (p0 : List D_api_Lock) (p1 : Int) (p2 : D_api_Lock → Option Bool) : Option (D_api_Lock × Bool) :=
  bnd ((false, (0 : Int))) fun x1 =>
  ass ((!((decide (p1 < (0 : Int))) || (decide (p1 ≥ (p0.length : Int))))) = true → 0 ≤ p1 ∧ p1 < (p0.length : Int)) <|
  (bif !((decide (p1 < (0 : Int))) || (decide (p1 ≥ (p0.length : Int)))) then p2 (rd z_api_Lock p0 p1) else some false).bind fun y2 =>
  bif ((decide (p1 < (0 : Int))) || (decide (p1 ≥ (p0.length : Int)))) || (!y2) then
    some (x1, false)
  else
    ass (0 ≤ p1 ∧ p1 < (p0.length : Int)) <|
    bnd (rd z_api_Lock p0 p1) fun x3 =>
    some (x3, true)
theorem state_get_api_Lock.ok {p0 : List D_api_Lock} {p1 : Int} {p2 : D_api_Lock → Option Bool} {r : D_api_Lock × Bool} (h : state_get_api_Lock p0 p1 p2 = some r) : ACall prog 149 [⟨.slice T_api_Lock, p0⟩, ⟨.int .i64, p1⟩, ⟨.fn T_api_Lock .bool, p2⟩] [⟨0, T_api_Lock, r.1⟩, ⟨0, .bool, r.2⟩] := by
  replace h := Leads.of h
  unfold state_get_api_Lock at h
  refine acall_of func149 (by kernel_rfl) rfl (by kernel_rfl) fun w0 F0 hw0 => ?_
  refine W_seq ?_
  refine W_region mixed tys_ok (sup := []) (l := [(0, 0), (1, 0), (2, 0), (6, 9)]) (E' := [(0, .v 0 (.slice T_api_Lock) p0), (1, .v 0 (.int .i64) p1), (2, .v 0 (.fn T_api_Lock .bool) p2), (6, .box 9 T_api_Lock (false, (0 : Int)))]) (obs := []) (by kernel_rfl) (trivial) ?_
  refine W_gen (x := (false, (0 : Int))) (En := fun x1 => [(0, .v 0 (.slice T_api_Lock) p0), (1, .v 0 (.int .i64) p1), (2, .v 0 (.fn T_api_Lock .bool) p2), (6, .box 9 T_api_Lock x1)]) h (fun x1 h => ?_)
  refine W_seq ?_
  refine W_seq ?_
  obtain ⟨o1, h⟩ := h.ass
  obtain ⟨y2, ey2, h⟩ := h.bind
  refine W_region mixed tys_ok (sup := [.res [(0, ⟨9, .bool, y2⟩)]]) (l := [(0, 0), (1, 0), (6, 9), (24, 0)]) (E' := [(0, .v 0 (.slice T_api_Lock) p0), (1, .v 0 (.int .i64) p1), (6, .box 9 T_api_Lock x1), (24, .v 0 .bool (((decide (p1 < (0 : Int))) || (decide (p1 ≥ (p0.length : Int)))) || (!y2)))]) (obs := [(!((decide (p1 < (0 : Int))) || (decide (p1 ≥ (p0.length : Int))))) = true → 0 ≤ p1 ∧ p1 < (p0.length : Int), (!((decide (p1 < (0 : Int))) || (decide (p1 ≥ (p0.length : Int))))) = true → p2 (rd z_api_Lock p0 p1) = some y2]) (by kernel_rfl) (⟨o1, fun hc => bif_some ey2 hc⟩) ?_
  refine W_cond (β := ((decide (p1 < (0 : Int))) || (decide (p1 ≥ (p0.length : Int)))) || (!y2)) (by kernel_rfl) (fun hb => ?_) (fun hb => ?_)
  · rw [cond_tt hb] at h
    refine W_seq ?_
    refine W_region mixed tys_ok (sup := []) (l := [(6, 9), (7, 0)]) (E' := [(6, .box 9 T_api_Lock x1), (7, .v 0 .bool false)]) (obs := []) (by kernel_rfl) (trivial) ?_
    refine W_keep (l := [(6, 0), (7, 0)]) (E' := [(6, .box 0 T_api_Lock x1), (7, .v 0 .bool false)]) (by kernel_rfl) ?_
    replace h : ((x1, false)) = r := h
    subst h
    exact W_ret tys_ok hw0 (by kernel_rfl) (by kernel_rfl)
  · rw [cond_ff hb] at h
    refine W_skip ?_
    refine W_seq ?_
    obtain ⟨o1, h⟩ := h.ass
    refine W_region mixed tys_ok (sup := []) (l := [(6, 9), (7, 0)]) (E' := [(6, .box 9 T_api_Lock (rd z_api_Lock p0 p1)), (7, .v 0 .bool true)]) (obs := [0 ≤ p1 ∧ p1 < (p0.length : Int)]) (by kernel_rfl) (o1) ?_
    refine W_gen (x := rd z_api_Lock p0 p1) (En := fun x3 => [(6, .box 9 T_api_Lock x3), (7, .v 0 .bool true)]) h (fun x3 h => ?_)
    refine W_keep (l := [(6, 0), (7, 0)]) (E' := [(6, .box 0 T_api_Lock x3), (7, .v 0 .bool true)]) (by kernel_rfl) ?_
    replace h : ((x3, true)) = r := h
    subst h
    exact W_ret tys_ok hw0 (by kernel_rfl) (by kernel_rfl)

noncomputable def state_lockUsed (p0 : D_api_Lock) : Option Bool :=
  some p0.1
theorem state_lockUsed.ok {p0 : D_api_Lock} {r : Bool} (h : state_lockUsed p0 = some r) : ACall prog 141 [⟨T_api_Lock, p0⟩] [⟨0, .bool, r⟩] := by
  replace h := Leads.of h
  unfold state_lockUsed at h
  refine acall_of func141 (by kernel_rfl) rfl (by kernel_rfl) fun w0 F0 hw0 => ?_
  refine W_seq ?_
  refine W_region mixed tys_ok (sup := []) (l := [(1, 9)]) (E' := [(1, .box 9 T_api_Lock p0)]) (obs := []) (by kernel_rfl) (trivial) ?_
  refine W_seq ?_
  refine W_region mixed tys_ok (sup := []) (l := [(2, 0)]) (E' := [(2, .v 0 .bool p0.1)]) (obs := []) (by kernel_rfl) (trivial) ?_
  refine W_keep (l := [(2, 0)]) (E' := [(2, .v 0 .bool p0.1)]) (by kernel_rfl) ?_
  replace h : p0.1 = r := h
  subst h
  exact W_ret tys_ok hw0 (by kernel_rfl) (by kernel_rfl)

noncomputable def state_Lock (p0 : D_api_State) (p1 : Int) : Option (D_api_Lock × Bool) :=
  bnd ((false, (0 : Int))) fun x1 =>
  (state_get_api_Lock p0.2.2.2.1 p1 (fun x => state_lockUsed x)).bind fun y2 =>
  some (y2.1, y2.2)
theorem state_Lock.ok {p0 : D_api_State} {p1 : Int} {r : D_api_Lock × Bool} (h : state_Lock p0 p1 = some r) : ACall prog 62 [⟨T_api_State, p0⟩, ⟨.int .i64, p1⟩] [⟨0, T_api_Lock, r.1⟩, ⟨0, .bool, r.2⟩] := by
  replace h := Leads.of h
  unfold state_Lock at h
  refine acall_of func62 (by kernel_rfl) rfl (by kernel_rfl) fun w0 F0 hw0 => ?_
  refine W_seq ?_
  refine W_region mixed tys_ok (sup := []) (l := [(1, 0), (2, 0), (4, 9)]) (E' := [(1, .v 0 (.int .i64) p1), (2, .box 0 T_api_State p0), (4, .box 9 T_api_Lock (false, (0 : Int)))]) (obs := []) (by kernel_rfl) (trivial) ?_
  refine W_gen (x := (false, (0 : Int))) (En := fun x1 => [(1, .v 0 (.int .i64) p1), (2, .box 0 T_api_State p0), (4, .box 9 T_api_Lock x1)]) h (fun x1 h => ?_)
  refine W_seq ?_
  obtain ⟨y2, ey2, h⟩ := h.bind
  refine W_region mixed tys_ok (sup := [.fn T_api_Lock .bool (fun x => state_lockUsed x), .res [(0, ⟨0, T_api_Lock, y2.1⟩), (0, ⟨0, .bool, y2.2⟩)]]) (l := [(4, 9), (5, 0)]) (E' := [(4, .box 9 T_api_Lock y2.1), (5, .v 0 .bool y2.2)]) (obs := [∀ x y, (fun x => state_lockUsed x) x = some y → ACall prog 141 (unprod T_api_Lock x ++ []) [⟨9, .bool, y⟩], ACall prog 149 [⟨.slice T_api_Lock, p0.2.2.2.1⟩, ⟨.int .i64, p1⟩, ⟨.fn T_api_Lock .bool, fun x => state_lockUsed x⟩] [⟨0, T_api_Lock, y2.1⟩, ⟨0, .bool, y2.2⟩]]) (by kernel_rfl) (⟨fun x y e => ACall.flat rfl (state_lockUsed.ok e), state_get_api_Lock.ok ey2⟩) ?_
  refine W_keep (l := [(4, 0), (5, 0)]) (E' := [(4, .box 0 T_api_Lock y2.1), (5, .v 0 .bool y2.2)]) (by kernel_rfl) ?_
  replace h : ((y2.1, y2.2)) = r := h
  subst h
  exact W_ret tys_ok hw0 (by kernel_rfl) (by kernel_rfl)

noncomputable def chain_Next (p0 : D_api_State) (p1 : Int) : Option Int :=
  (state_Thread p0 p1).bind fun y1 =>
  bif y1.1.1 == (4 : Int) then
    some y1.1.2.1
  else
    bif y1.1.1 == (6 : Int) then
      (state_Lock p0 y1.1.2.1).bind fun y2 =>
      some y2.1.2
    else
      some (-1 : Int)
theorem chain_Next.ok {p0 : D_api_State} {p1 : Int} {r : Int} (h : chain_Next p0 p1 = some r) : ACall prog 227 [⟨T_api_State, p0⟩, ⟨.int .i64, p1⟩] [⟨0, .int .i64, r⟩] := by
  replace h := Leads.of h
  unfold chain_Next at h
  refine acall_of func227 (by kernel_rfl) rfl (by kernel_rfl) fun w0 F0 hw0 => ?_
  refine W_seq ?_
  refine W_region mixed tys_ok (sup := []) (l := [(1, 0), (2, 0)]) (E' := [(1, .v 0 (.int .i64) p1), (2, .box 0 T_api_State p0)]) (obs := []) (by kernel_rfl) (trivial) ?_
  refine W_seq ?_
  obtain ⟨y1, ey1, h⟩ := h.bind
  refine W_region mixed tys_ok (sup := [.res [(0, ⟨0, T_api_Thread, y1.1⟩), (0, ⟨0, .bool, y1.2⟩)]]) (l := [(2, 0), (5, 9)]) (E' := [(2, .box 0 T_api_State p0), (5, .box 9 T_api_Thread y1.1)]) (obs := [ACall prog 61 [⟨T_api_State, p0⟩, ⟨.int .i64, p1⟩] [⟨0, T_api_Thread, y1.1⟩, ⟨0, .bool, y1.2⟩]]) (by kernel_rfl) (state_Thread.ok ey1) ?_
  refine W_seq ?_
  refine W_seq ?_
  refine W_region mixed tys_ok (sup := []) (l := [(2, 0), (5, 9), (16, 0)]) (E' := [(2, .box 0 T_api_State p0), (5, .box 9 T_api_Thread y1.1), (16, .v 0 (.int .i64) y1.1.1)]) (obs := []) (by kernel_rfl) (trivial) ?_
  refine W_block ?_
  refine W_seq ?_
  refine W_region mixed tys_ok (sup := []) (l := [(2, 0), (5, 9), (16, 0), (17, 0)]) (E' := [(2, .box 0 T_api_State p0), (5, .box 9 T_api_Thread y1.1), (16, .v 0 (.int .i64) y1.1.1), (17, .v 0 .bool (y1.1.1 == (4 : Int)))]) (obs := []) (by kernel_rfl) (trivial) ?_
  refine W_cond (β := y1.1.1 == (4 : Int)) (by kernel_rfl) (fun hb => ?_) (fun hb => ?_)
  · rw [cond_tt hb] at h
    refine W_seq ?_
    refine W_region mixed tys_ok (sup := []) (l := [(4, 0)]) (E' := [(4, .v 0 (.int .i64) y1.1.2.1)]) (obs := []) (by kernel_rfl) (trivial) ?_
    refine W_keep (l := [(4, 0)]) (E' := [(4, .v 0 (.int .i64) y1.1.2.1)]) (by kernel_rfl) ?_
    replace h : y1.1.2.1 = r := h
    subst h
    exact W_ret tys_ok hw0 (by kernel_rfl) (by kernel_rfl)
  · rw [cond_ff hb] at h
    refine W_seq ?_
    refine W_region mixed tys_ok (sup := []) (l := [(2, 0), (5, 9), (21, 0)]) (E' := [(2, .box 0 T_api_State p0), (5, .box 9 T_api_Thread y1.1), (21, .v 0 .bool (y1.1.1 == (6 : Int)))]) (obs := []) (by kernel_rfl) (trivial) ?_
    refine W_cond (β := y1.1.1 == (6 : Int)) (by kernel_rfl) (fun hb => ?_) (fun hb => ?_)
    · rw [cond_tt hb] at h
      refine W_seq ?_
      obtain ⟨y2, ey2, h⟩ := h.bind
      refine W_region mixed tys_ok (sup := [.res [(0, ⟨0, T_api_Lock, y2.1⟩), (0, ⟨0, .bool, y2.2⟩)]]) (l := [(7, 9)]) (E' := [(7, .box 9 T_api_Lock y2.1)]) (obs := [ACall prog 62 [⟨T_api_State, p0⟩, ⟨.int .i64, y1.1.2.1⟩] [⟨0, T_api_Lock, y2.1⟩, ⟨0, .bool, y2.2⟩]]) (by kernel_rfl) (state_Lock.ok ey2) ?_
      refine W_seq ?_
      refine W_region mixed tys_ok (sup := []) (l := [(4, 0)]) (E' := [(4, .v 0 (.int .i64) y2.1.2)]) (obs := []) (by kernel_rfl) (trivial) ?_
      refine W_keep (l := [(4, 0)]) (E' := [(4, .v 0 (.int .i64) y2.1.2)]) (by kernel_rfl) ?_
      replace h : y2.1.2 = r := h
      subst h
      exact W_ret tys_ok hw0 (by kernel_rfl) (by kernel_rfl)
    · rw [cond_ff hb] at h
      refine W_skip ?_
      refine W_blk ?_
      refine W_seq ?_
      refine W_region mixed tys_ok (sup := []) (l := [(4, 0)]) (E' := [(4, .v 0 (.int .i64) (-1 : Int))]) (obs := []) (by kernel_rfl) (trivial) ?_
      refine W_keep (l := [(4, 0)]) (E' := [(4, .v 0 (.int .i64) (-1 : Int))]) (by kernel_rfl) ?_
      replace h : ((-1 : Int)) = r := h
      subst h
      exact W_ret tys_ok hw0 (by kernel_rfl) (by kernel_rfl)

noncomputable def chain_Tail_j1 (x2 : List Int) : Option (List Int) :=
  some x2
noncomputable def chain_Tail_b1 (p0 : D_api_State) (x3 : Int) (x4 : List Int) : Option ((Int × (List Int)) ⊕ (List Int)) :=
  bif x3 != (-1 : Int) then
    ass (((x4.length + [x3].length : Nat) : Int) ≤ limA) <|
    bnd (x4 ++ [x3]) fun x5 =>
    (chain_Next p0 x3).bind fun y6 =>
    some (.inl (y6, x5))
  else
    (chain_Tail_j1 x4).map .inr
noncomputable def chain_Tail (p0 : D_api_State) (p1 : Int) : Option (List Int) :=
  (state_Thread p0 p1).bind fun y1 =>
  bif !y1.2 then
    some ([] : List Int)
  else
    loopM (fun x : Int × (List Int) => chain_Tail_b1 p0 x.1 x.2) (p1, ([] : List Int))
theorem chain_Tail.ok {p0 : D_api_State} {p1 : Int} {r : List Int} (h : chain_Tail p0 p1 = some r) : ACall prog 182 [⟨T_api_State, p0⟩, ⟨.int .i64, p1⟩] [⟨9, .slice (.int .i64), r⟩] := by
  replace h := Leads.of h
  unfold chain_Tail at h
  refine acall_of func182 (by kernel_rfl) rfl (by kernel_rfl) fun w0 F0 hw0 => ?_
  refine W_seq ?_
  refine W_region mixed tys_ok (sup := []) (l := [(1, 0), (2, 0), (4, 9)]) (E' := [(1, .v 0 (.int .i64) p1), (2, .box 0 T_api_State p0), (4, .v 9 (.slice (.int .i64)) ([] : List Int))]) (obs := []) (by kernel_rfl) (trivial) ?_
  refine W_seq ?_
  refine W_seq ?_
  obtain ⟨y1, ey1, h⟩ := h.bind
  refine W_region mixed tys_ok (sup := [.res [(0, ⟨0, T_api_Thread, y1.1⟩), (0, ⟨0, .bool, y1.2⟩)]]) (l := [(1, 0), (2, 0), (4, 9), (6, 0)]) (E' := [(1, .v 0 (.int .i64) p1), (2, .box 0 T_api_State p0), (4, .v 9 (.slice (.int .i64)) ([] : List Int)), (6, .v 0 .bool y1.2)]) (obs := [ACall prog 61 [⟨T_api_State, p0⟩, ⟨.int .i64, p1⟩] [⟨0, T_api_Thread, y1.1⟩, ⟨0, .bool, y1.2⟩]]) (by kernel_rfl) (state_Thread.ok ey1) ?_
  refine W_seq ?_
  refine W_region mixed tys_ok (sup := []) (l := [(1, 0), (2, 0), (4, 9), (14, 0)]) (E' := [(1, .v 0 (.int .i64) p1), (2, .box 0 T_api_State p0), (4, .v 9 (.slice (.int .i64)) ([] : List Int)), (14, .v 0 .bool (!y1.2))]) (obs := []) (by kernel_rfl) (trivial) ?_
  refine W_cond (β := !y1.2) (by kernel_rfl) (fun hb => ?_) (fun hb => ?_)
  · rw [cond_tt hb] at h
    refine W_seq ?_
    refine W_region mixed tys_ok (sup := []) (l := [(4, 9)]) (E' := [(4, .v 9 (.slice (.int .i64)) ([] : List Int))]) (obs := []) (by kernel_rfl) (trivial) ?_
    refine W_keep (l := [(4, 9)]) (E' := [(4, .v 9 (.slice (.int .i64)) ([] : List Int))]) (by kernel_rfl) ?_
    replace h : (([] : List Int)) = r := h
    subst h
    exact W_ret tys_ok hw0 (by kernel_rfl) (by kernel_rfl)
  · rw [cond_ff hb] at h
    refine W_skip ?_
    refine W_seq ?_
    refine W_join h (Ej := fun (x : List Int) => [(4, .v 9 (.slice (.int .i64)) x)]) (p := fun x => chain_Tail_j1 x) ?_ ?_
    · rintro x2 h
      replace h : Leads _ (chain_Tail_j1 x2) := h
      unfold chain_Tail_j1 at h
      show W _ _ _ _ _ _ [(4, .v 9 (.slice (.int .i64)) x2)]
      refine W_seq ?_
      refine W_region mixed tys_ok (sup := []) (l := [(4, 9)]) (E' := [(4, .v 9 (.slice (.int .i64)) x2)]) (obs := []) (by kernel_rfl) (trivial) ?_
      refine W_keep (l := [(4, 9)]) (E' := [(4, .v 9 (.slice (.int .i64)) x2)]) (by kernel_rfl) ?_
      replace h : x2 = r := h
      subst h
      exact W_ret tys_ok hw0 (by kernel_rfl) (by kernel_rfl)
    · intro j1
      refine W_block ?_
      refine W_keep (l := [(1, 0), (2, 0), (4, 9)]) (E' := [(1, .v 0 (.int .i64) p1), (2, .box 0 T_api_State p0), (4, .v 9 (.slice (.int .i64)) ([] : List Int))]) (by kernel_rfl) ?_
      refine W_loop' (En := fun (x : Int × (List Int)) => [(1, .v 0 (.int .i64) x.1), (2, .box 0 T_api_State p0), (4, .v 9 (.slice (.int .i64)) x.2)]) (x := (p1, ([] : List Int))) h ?_
      rintro ⟨x3, x4⟩ K h
      replace h : Leads _ (chain_Tail_b1 p0 x3 x4) := h
      unfold chain_Tail_b1 at h
      show W _ _ _ _ _ _ [(1, .v 0 (.int .i64) x3), (2, .box 0 T_api_State p0), (4, .v 9 (.slice (.int .i64)) x4)]
      refine W_seq ?_
      refine W_seq ?_
      refine W_region mixed tys_ok (sup := []) (l := [(1, 0), (2, 0), (4, 9), (16, 0)]) (E' := [(1, .v 0 (.int .i64) x3), (2, .box 0 T_api_State p0), (4, .v 9 (.slice (.int .i64)) x4), (16, .v 0 .bool (x3 != (-1 : Int)))]) (obs := []) (by kernel_rfl) (trivial) ?_
      refine W_cond (β := x3 != (-1 : Int)) (by kernel_rfl) (fun hb => ?_) (fun hb => ?_)
      · rw [cond_tt hb] at h
        refine W_skip ?_
        refine W_seq ?_
        refine W_block ?_
        obtain ⟨o1, h⟩ := h.ass
        refine W_region mixed tys_ok (sup := []) (l := [(1, 0), (2, 0), (4, 9)]) (E' := [(1, .v 0 (.int .i64) x3), (2, .box 0 T_api_State p0), (4, .v 9 (.slice (.int .i64)) (x4 ++ [x3]))]) (obs := [((x4.length + [x3].length : Nat) : Int) ≤ limA]) (by kernel_rfl) (o1) ?_
        refine W_gen (x := x4 ++ [x3]) (En := fun x5 => [(1, .v 0 (.int .i64) x3), (2, .box 0 T_api_State p0), (4, .v 9 (.slice (.int .i64)) x5)]) h (fun x5 h => ?_)
        refine W_blk ?_
        obtain ⟨y6, ey6, h⟩ := h.bind
        refine W_region mixed tys_ok (sup := [.res [(0, ⟨0, .int .i64, y6⟩)]]) (l := [(1, 0), (2, 0), (4, 9)]) (E' := [(1, .v 0 (.int .i64) y6), (2, .box 0 T_api_State p0), (4, .v 9 (.slice (.int .i64)) x5)]) (obs := [ACall prog 227 [⟨T_api_State, p0⟩, ⟨.int .i64, x3⟩] [⟨0, .int .i64, y6⟩]]) (by kernel_rfl) (chain_Next.ok ey6) ?_
        refine W_keep (l := [(1, 0), (2, 0), (4, 9)]) (E' := [(1, .v 0 (.int .i64) y6), (2, .box 0 T_api_State p0), (4, .v 9 (.slice (.int .i64)) x5)]) (by kernel_rfl) ?_
        exact W_abs h
      · rw [cond_ff hb] at h
        refine W_exit rfl ?_
        refine W_keep (l := [(4, 9)]) (E' := [(4, .v 9 (.slice (.int .i64)) x4)]) (by kernel_rfl) ?_
        exact j1 x4 h.back

noncomputable def slices_Index_int_int_j1 : Option (Int) :=
  some (-1 : Int)
noncomputable def slices_Index_int_int_b1 (p0 : List Int) (p1 : Int) (x1 : Int) : Option (Int ⊕ Int) :=
  bif decide (x1 < (p0.length : Int)) then
    ass (0 ≤ x1 ∧ x1 < (p0.length : Int)) <|
    bif p1 == (rd (0 : Int) p0 x1) then
      some (.inr x1)
    else
      bnd (IntKind.i64.wrap (x1 + (1 : Int))) fun x2 =>
      some (.inl x2)
  else
    (slices_Index_int_int_j1).map .inr
noncomputable def slices_Index_int_int (p0 : List Int) (p1 : Int) : Option Int :=
  loopM (fun x : Int => slices_Index_int_int_b1 p0 p1 x) (0 : Int)
theorem slices_Index_int_int.ok {p0 : List Int} {p1 : Int} {r : Int} (h : slices_Index_int_int p0 p1 = some r) : ACall prog 226 [⟨.slice (.int .i64), p0⟩, ⟨.int .i64, p1⟩] [⟨0, .int .i64, r⟩] := by
  replace h := Leads.of h
  unfold slices_Index_int_int at h
  refine acall_of func226 (by kernel_rfl) rfl (by kernel_rfl) fun w0 F0 hw0 => ?_
  refine W_seq ?_
  refine W_region mixed tys_ok (sup := []) (l := [(0, 0), (1, 0)]) (E' := [(0, .v 0 (.slice (.int .i64)) p0), (1, .v 0 (.int .i64) p1)]) (obs := []) (by kernel_rfl) (trivial) ?_
  refine W_seq ?_
  refine W_seq ?_
  refine W_region mixed tys_ok (sup := []) (l := [(0, 0), (1, 0), (7, 0), (8, 0)]) (E' := [(0, .v 0 (.slice (.int .i64)) p0), (1, .v 0 (.int .i64) p1), (7, .v 0 (.int .i64) (p0.length : Int)), (8, .v 0 (.int .i64) (0 : Int))]) (obs := []) (by kernel_rfl) (trivial) ?_
  refine W_join h (Ej := fun (x : Unit) => []) (p := fun x => slices_Index_int_int_j1) ?_ ?_
  · rintro ⟨⟩ h
    replace h : Leads _ (slices_Index_int_int_j1) := h
    unfold slices_Index_int_int_j1 at h
    show W _ _ _ _ _ _ []
    refine W_seq ?_
    refine W_region mixed tys_ok (sup := []) (l := [(4, 0)]) (E' := [(4, .v 0 (.int .i64) (-1 : Int))]) (obs := []) (by kernel_rfl) (trivial) ?_
    refine W_keep (l := [(4, 0)]) (E' := [(4, .v 0 (.int .i64) (-1 : Int))]) (by kernel_rfl) ?_
    replace h : ((-1 : Int)) = r := h
    subst h
    exact W_ret tys_ok hw0 (by kernel_rfl) (by kernel_rfl)
  · intro j1
    refine W_block ?_
    refine W_keep (l := [(0, 0), (1, 0), (7, 0), (8, 0)]) (E' := [(0, .v 0 (.slice (.int .i64)) p0), (1, .v 0 (.int .i64) p1), (7, .v 0 (.int .i64) (p0.length : Int)), (8, .v 0 (.int .i64) (0 : Int))]) (by kernel_rfl) ?_
    refine W_loop' (En := fun (x : Int) => [(0, .v 0 (.slice (.int .i64)) p0), (1, .v 0 (.int .i64) p1), (7, .v 0 (.int .i64) (p0.length : Int)), (8, .v 0 (.int .i64) x)]) (x := (0 : Int)) h ?_
    rintro x1 K h
    replace h : Leads _ (slices_Index_int_int_b1 p0 p1 x1) := h
    unfold slices_Index_int_int_b1 at h
    show W _ _ _ _ _ _ [(0, .v 0 (.slice (.int .i64)) p0), (1, .v 0 (.int .i64) p1), (7, .v 0 (.int .i64) (p0.length : Int)), (8, .v 0 (.int .i64) x1)]
    refine W_seq ?_
    refine W_region mixed tys_ok (sup := []) (l := [(0, 0), (1, 0), (7, 0), (8, 0), (9, 0)]) (E' := [(0, .v 0 (.slice (.int .i64)) p0), (1, .v 0 (.int .i64) p1), (7, .v 0 (.int .i64) (p0.length : Int)), (8, .v 0 (.int .i64) x1), (9, .v 0 .bool (decide (x1 < (p0.length : Int))))]) (obs := []) (by kernel_rfl) (trivial) ?_
    refine W_seq ?_
    refine W_cond (β := decide (x1 < (p0.length : Int))) (by kernel_rfl) (fun hb => ?_) (fun hb => ?_)
    · rw [cond_tt hb] at h
      refine W_skip ?_
      refine W_seq ?_
      refine W_block ?_
      refine W_seq ?_
      refine W_region mixed tys_ok (sup := []) (l := [(0, 0), (1, 0), (5, 0), (7, 0), (8, 0)]) (E' := [(0, .v 0 (.slice (.int .i64)) p0), (1, .v 0 (.int .i64) p1), (5, .v 0 (.int .i64) x1), (7, .v 0 (.int .i64) (p0.length : Int)), (8, .v 0 (.int .i64) x1)]) (obs := []) (by kernel_rfl) (trivial) ?_
      refine W_seq ?_
      obtain ⟨o1, h⟩ := h.ass
      refine W_region mixed tys_ok (sup := []) (l := [(0, 0), (1, 0), (5, 0), (7, 0), (8, 0), (16, 0)]) (E' := [(0, .v 0 (.slice (.int .i64)) p0), (1, .v 0 (.int .i64) p1), (5, .v 0 (.int .i64) x1), (7, .v 0 (.int .i64) (p0.length : Int)), (8, .v 0 (.int .i64) x1), (16, .v 0 .bool (p1 == (rd (0 : Int) p0 x1)))]) (obs := [0 ≤ x1 ∧ x1 < (p0.length : Int)]) (by kernel_rfl) (o1) ?_
      refine W_cond (β := p1 == (rd (0 : Int) p0 x1)) (by kernel_rfl) (fun hb => ?_) (fun hb => ?_)
      · rw [cond_tt hb] at h
        refine W_seq ?_
        refine W_region mixed tys_ok (sup := []) (l := [(4, 0)]) (E' := [(4, .v 0 (.int .i64) x1)]) (obs := []) (by kernel_rfl) (trivial) ?_
        refine W_keep (l := [(4, 0)]) (E' := [(4, .v 0 (.int .i64) x1)]) (by kernel_rfl) ?_
        replace h : x1 = r := h
        subst h
        exact W_ret tys_ok hw0 (by kernel_rfl) (by kernel_rfl)
      · rw [cond_ff hb] at h
        refine W_skip ?_
        refine W_blk ?_
        refine W_region mixed tys_ok (sup := []) (l := [(0, 0), (1, 0), (7, 0), (8, 0)]) (E' := [(0, .v 0 (.slice (.int .i64)) p0), (1, .v 0 (.int .i64) p1), (7, .v 0 (.int .i64) (p0.length : Int)), (8, .v 0 (.int .i64) (IntKind.i64.wrap (x1 + (1 : Int))))]) (obs := []) (by kernel_rfl) (trivial) ?_
        refine W_gen (x := IntKind.i64.wrap (x1 + (1 : Int))) (En := fun x2 => [(0, .v 0 (.slice (.int .i64)) p0), (1, .v 0 (.int .i64) p1), (7, .v 0 (.int .i64) (p0.length : Int)), (8, .v 0 (.int .i64) x2)]) h (fun x2 h => ?_)
        refine W_keep (l := [(0, 0), (1, 0), (7, 0), (8, 0)]) (E' := [(0, .v 0 (.slice (.int .i64)) p0), (1, .v 0 (.int .i64) p1), (7, .v 0 (.int .i64) (p0.length : Int)), (8, .v 0 (.int .i64) x2)]) (by kernel_rfl) ?_
        exact W_abs h
    · rw [cond_ff hb] at h
      refine W_exit rfl ?_
      refine W_keep (l := []) (E' := []) (by kernel_rfl) ?_
      exact j1 () h.back

noncomputable def slices_Contains_int_int (p0 : List Int) (p1 : Int) : Option Bool :=
  (slices_Index_int_int p0 p1).bind fun y1 =>
  bnd (decide (y1 ≥ (0 : Int))) fun x2 =>
  some x2
theorem slices_Contains_int_int.ok {p0 : List Int} {p1 : Int} {r : Bool} (h : slices_Contains_int_int p0 p1 = some r) : ACall prog 181 [⟨.slice (.int .i64), p0⟩, ⟨.int .i64, p1⟩] [⟨0, .bool, r⟩] := by
  replace h := Leads.of h
  unfold slices_Contains_int_int at h
  refine acall_of func181 (by kernel_rfl) rfl (by kernel_rfl) fun w0 F0 hw0 => ?_
  refine W_seq ?_
  refine W_region mixed tys_ok (sup := []) (l := [(0, 0), (1, 0)]) (E' := [(0, .v 0 (.slice (.int .i64)) p0), (1, .v 0 (.int .i64) p1)]) (obs := []) (by kernel_rfl) (trivial) ?_
  refine W_seq ?_
  obtain ⟨y1, ey1, h⟩ := h.bind
  refine W_region mixed tys_ok (sup := [.res [(0, ⟨0, .int .i64, y1⟩)]]) (l := [(4, 0)]) (E' := [(4, .v 0 .bool (decide (y1 ≥ (0 : Int))))]) (obs := [ACall prog 226 [⟨.slice (.int .i64), p0⟩, ⟨.int .i64, p1⟩] [⟨0, .int .i64, y1⟩]]) (by kernel_rfl) (slices_Index_int_int.ok ey1) ?_
  refine W_gen (x := decide (y1 ≥ (0 : Int))) (En := fun x2 => [(4, .v 0 .bool x2)]) h (fun x2 h => ?_)
  refine W_keep (l := [(4, 0)]) (E' := [(4, .v 0 .bool x2)]) (by kernel_rfl) ?_
  replace h : x2 = r := h
  subst h
  exact W_ret tys_ok hw0 (by kernel_rfl) (by kernel_rfl)

noncomputable def chain_Closes (p0 : D_api_State) (p1 : Int) (p2 : Int) : Option Bool :=
  (state_Thread p0 p1).bind fun y1 =>
  (bif y1.2 then chain_Tail p0 p2 else some ([] : List Int)).bind fun y2 =>
  (bif y1.2 then slices_Contains_int_int y2 p1 else some false).bind fun y3 =>
  bnd (y1.2 && y3) fun x4 =>
  some x4
theorem chain_Closes.ok {p0 : D_api_State} {p1 : Int} {p2 : Int} {r : Bool} (h : chain_Closes p0 p1 p2 = some r) : ACall prog 88 [⟨T_api_State, p0⟩, ⟨.int .i64, p1⟩, ⟨.int .i64, p2⟩] [⟨0, .bool, r⟩] := by
  replace h := Leads.of h
  unfold chain_Closes at h
  refine acall_of func88 (by kernel_rfl) rfl (by kernel_rfl) fun w0 F0 hw0 => ?_
  refine W_seq ?_
  refine W_region mixed tys_ok (sup := []) (l := [(1, 0), (2, 0), (3, 0)]) (E' := [(1, .v 0 (.int .i64) p1), (2, .v 0 (.int .i64) p2), (3, .box 0 T_api_State p0)]) (obs := []) (by kernel_rfl) (trivial) ?_
  refine W_seq ?_
  obtain ⟨y1, ey1, h⟩ := h.bind
  refine W_region mixed tys_ok (sup := [.res [(0, ⟨0, T_api_Thread, y1.1⟩), (0, ⟨0, .bool, y1.2⟩)]]) (l := [(1, 0), (2, 0), (3, 0), (8, 0)]) (E' := [(1, .v 0 (.int .i64) p1), (2, .v 0 (.int .i64) p2), (3, .box 0 T_api_State p0), (8, .v 0 .bool y1.2)]) (obs := [ACall prog 61 [⟨T_api_State, p0⟩, ⟨.int .i64, p1⟩] [⟨0, T_api_Thread, y1.1⟩, ⟨0, .bool, y1.2⟩]]) (by kernel_rfl) (state_Thread.ok ey1) ?_
  refine W_seq ?_
  obtain ⟨y2, ey2, h⟩ := h.bind
  obtain ⟨y3, ey3, h⟩ := h.bind
  refine W_region mixed tys_ok (sup := [.res [(0, ⟨9, .slice (.int .i64), y2⟩)], .res [(0, ⟨0, .bool, y3⟩)]]) (l := [(6, 0)]) (E' := [(6, .v 0 .bool (y1.2 && y3))]) (obs := [y1.2 = true → ACall prog 182 [⟨T_api_State, p0⟩, ⟨.int .i64, p2⟩] [⟨9, .slice (.int .i64), y2⟩], y1.2 = true → ACall prog 181 [⟨.slice (.int .i64), y2⟩, ⟨.int .i64, p1⟩] [⟨0, .bool, y3⟩]]) (by kernel_rfl) (⟨fun hc => chain_Tail.ok (bif_some ey2 hc), fun hc => slices_Contains_int_int.ok (bif_some ey3 hc)⟩) ?_
  refine W_gen (x := y1.2 && y3) (En := fun x4 => [(6, .v 0 .bool x4)]) h (fun x4 h => ?_)
  refine W_keep (l := [(6, 0)]) (E' := [(6, .v 0 .bool x4)]) (by kernel_rfl) ?_
  replace h : x4 = r := h
  subst h
  exact W_ret tys_ok hw0 (by kernel_rfl) (by kernel_rfl)

noncomputable def turn_no (p0 : D_api_State) (p1 : Int) : Option (D_api_State × D_api_Reply) :=
  bnd ((([] : List Bool), ([] : List D_api_Ticket), ([] : List D_api_Thread), ([] : List D_api_Lock), ([] : List Int), (0 : Int))) fun x1 =>
  bnd (((0 : Int), (0 : Int))) fun x2 =>
  (state_Copy p0).bind fun y3 =>
  bnd ((p1, (0 : Int))) fun x4 =>
  some (y3, x4)
theorem turn_no.ok {p0 : D_api_State} {p1 : Int} {r : D_api_State × D_api_Reply} (h : turn_no p0 p1 = some r) : ACall prog 183 [⟨T_api_State, p0⟩, ⟨.int .i64, p1⟩] [⟨(.pr 9 (.pr 9 (.pr 9 (.pr 9 (.pr 9 0))))), T_api_State, r.1⟩, ⟨0, T_api_Reply, r.2⟩] := by
  replace h := Leads.of h
  unfold turn_no at h
  refine acall_of func183 (by kernel_rfl) rfl (by kernel_rfl) fun w0 F0 hw0 => ?_
  refine W_seq ?_
  refine W_region mixed tys_ok (sup := []) (l := [(1, 0), (2, 0), (4, 9), (5, 9)]) (E' := [(1, .v 0 (.int .i64) p1), (2, .box 0 T_api_State p0), (4, .box 9 T_api_State (([] : List Bool), ([] : List D_api_Ticket), ([] : List D_api_Thread), ([] : List D_api_Lock), ([] : List Int), (0 : Int))), (5, .box 9 T_api_Reply ((0 : Int), (0 : Int)))]) (obs := []) (by kernel_rfl) (trivial) ?_
  refine W_gen (x := (([] : List Bool), ([] : List D_api_Ticket), ([] : List D_api_Thread), ([] : List D_api_Lock), ([] : List Int), (0 : Int))) (En := fun x1 => [(1, .v 0 (.int .i64) p1), (2, .box 0 T_api_State p0), (4, .box 9 T_api_State x1), (5, .box 9 T_api_Reply ((0 : Int), (0 : Int)))]) h (fun x1 h => ?_)
  refine W_gen (x := ((0 : Int), (0 : Int))) (En := fun x2 => [(1, .v 0 (.int .i64) p1), (2, .box 0 T_api_State p0), (4, .box 9 T_api_State x1), (5, .box 9 T_api_Reply x2)]) h (fun x2 h => ?_)
  refine W_seq ?_
  obtain ⟨y3, ey3, h⟩ := h.bind
  refine W_region mixed tys_ok (sup := [.res [((.pr 9 (.pr 9 (.pr 9 (.pr 9 (.pr 9 0))))), ⟨(.pr 9 (.pr 9 (.pr 9 (.pr 9 (.pr 9 0))))), T_api_State, y3⟩)]]) (l := [(4, (.pr 9 (.pr 9 (.pr 9 (.pr 9 (.pr 9 0)))))), (5, 9)]) (E' := [(4, .box (.pr 9 (.pr 9 (.pr 9 (.pr 9 (.pr 9 0))))) T_api_State y3), (5, .box 9 T_api_Reply (p1, (0 : Int)))]) (obs := [ACall prog 44 [⟨T_api_State, p0⟩] [⟨(.pr 9 (.pr 9 (.pr 9 (.pr 9 (.pr 9 0))))), T_api_State, y3⟩]]) (by kernel_rfl) (state_Copy.ok ey3) ?_
  refine W_gen (x := (p1, (0 : Int))) (En := fun x4 => [(4, .box (.pr 9 (.pr 9 (.pr 9 (.pr 9 (.pr 9 0))))) T_api_State y3), (5, .box 9 T_api_Reply x4)]) h (fun x4 h => ?_)
  refine W_keep (l := [(4, (.pr 9 (.pr 9 (.pr 9 (.pr 9 (.pr 9 0)))))), (5, 0)]) (E' := [(4, .box (.pr 9 (.pr 9 (.pr 9 (.pr 9 (.pr 9 0))))) T_api_State y3), (5, .box 0 T_api_Reply x4)]) (by kernel_rfl) ?_
  replace h : ((y3, x4)) = r := h
  subst h
  exact W_ret tys_ok hw0 (by kernel_rfl) (by kernel_rfl)

noncomputable def factor_Used (p0 : Int) (p1 : Int) : Option (Int × Int × Int) :=
  bif (decide (p1 < (1 : Int))) || (decide (p1 > p0)) then
    some ((0 : Int), (0 : Int), (6 : Int))
  else
    bif p1 == p0 then
      some ((1 : Int), (1 : Int), (0 : Int))
    else
      some (p0, p1, (0 : Int))
theorem factor_Used.ok {p0 : Int} {p1 : Int} {r : Int × Int × Int} (h : factor_Used p0 p1 = some r) : ACall prog 228 [⟨.int .i64, p0⟩, ⟨.int .i64, p1⟩] [⟨0, .int .i64, r.1⟩, ⟨0, .int .i64, r.2.1⟩, ⟨0, .int .i64, r.2.2⟩] := by
  replace h := Leads.of h
  unfold factor_Used at h
  refine acall_of func228 (by kernel_rfl) rfl (by kernel_rfl) fun w0 F0 hw0 => ?_
  refine W_seq ?_
  refine W_region mixed tys_ok (sup := []) (l := [(0, 0), (1, 0)]) (E' := [(0, .v 0 (.int .i64) p0), (1, .v 0 (.int .i64) p1)]) (obs := []) (by kernel_rfl) (trivial) ?_
  refine W_seq ?_
  refine W_block ?_
  refine W_seq ?_
  refine W_region mixed tys_ok (sup := []) (l := [(0, 0), (1, 0), (7, 0)]) (E' := [(0, .v 0 (.int .i64) p0), (1, .v 0 (.int .i64) p1), (7, .v 0 .bool ((decide (p1 < (1 : Int))) || (decide (p1 > p0))))]) (obs := []) (by kernel_rfl) (trivial) ?_
  refine W_cond (β := (decide (p1 < (1 : Int))) || (decide (p1 > p0))) (by kernel_rfl) (fun hb => ?_) (fun hb => ?_)
  · rw [cond_tt hb] at h
    refine W_seq ?_
    refine W_region mixed tys_ok (sup := []) (l := [(4, 0), (5, 0), (6, 0)]) (E' := [(4, .v 0 (.int .i64) (0 : Int)), (5, .v 0 (.int .i64) (0 : Int)), (6, .v 0 (.int .i64) (6 : Int))]) (obs := []) (by kernel_rfl) (trivial) ?_
    refine W_keep (l := [(4, 0), (5, 0), (6, 0)]) (E' := [(4, .v 0 (.int .i64) (0 : Int)), (5, .v 0 (.int .i64) (0 : Int)), (6, .v 0 (.int .i64) (6 : Int))]) (by kernel_rfl) ?_
    replace h : (((0 : Int), (0 : Int), (6 : Int))) = r := h
    subst h
    exact W_ret tys_ok hw0 (by kernel_rfl) (by kernel_rfl)
  · rw [cond_ff hb] at h
    refine W_seq ?_
    refine W_region mixed tys_ok (sup := []) (l := [(0, 0), (1, 0), (15, 0)]) (E' := [(0, .v 0 (.int .i64) p0), (1, .v 0 (.int .i64) p1), (15, .v 0 .bool (p1 == p0))]) (obs := []) (by kernel_rfl) (trivial) ?_
    refine W_cond (β := p1 == p0) (by kernel_rfl) (fun hb => ?_) (fun hb => ?_)
    · rw [cond_tt hb] at h
      refine W_seq ?_
      refine W_region mixed tys_ok (sup := []) (l := [(4, 0), (5, 0), (6, 0)]) (E' := [(4, .v 0 (.int .i64) (1 : Int)), (5, .v 0 (.int .i64) (1 : Int)), (6, .v 0 (.int .i64) (0 : Int))]) (obs := []) (by kernel_rfl) (trivial) ?_
      refine W_keep (l := [(4, 0), (5, 0), (6, 0)]) (E' := [(4, .v 0 (.int .i64) (1 : Int)), (5, .v 0 (.int .i64) (1 : Int)), (6, .v 0 (.int .i64) (0 : Int))]) (by kernel_rfl) ?_
      replace h : (((1 : Int), (1 : Int), (0 : Int))) = r := h
      subst h
      exact W_ret tys_ok hw0 (by kernel_rfl) (by kernel_rfl)
    · rw [cond_ff hb] at h
      refine W_skip ?_
      refine W_blk ?_
      refine W_seq ?_
      refine W_region mixed tys_ok (sup := []) (l := [(4, 0), (5, 0), (6, 0)]) (E' := [(4, .v 0 (.int .i64) p0), (5, .v 0 (.int .i64) p1), (6, .v 0 (.int .i64) (0 : Int))]) (obs := []) (by kernel_rfl) (trivial) ?_
      refine W_keep (l := [(4, 0), (5, 0), (6, 0)]) (E' := [(4, .v 0 (.int .i64) p0), (5, .v 0 (.int .i64) p1), (6, .v 0 (.int .i64) (0 : Int))]) (by kernel_rfl) ?_
      replace h : ((p0, p1, (0 : Int))) = r := h
      subst h
      exact W_ret tys_ok hw0 (by kernel_rfl) (by kernel_rfl)

noncomputable def state_within (p0 : Int) (p1 : Int) : Option Bool :=
  bnd ((decide (p0 ≥ (0 : Int))) && (decide (p0 < p1))) fun x1 =>
  some x1
theorem state_within.ok {p0 : Int} {p1 : Int} {r : Bool} (h : state_within p0 p1 = some r) : ACall prog 142 [⟨.int .i64, p0⟩, ⟨.int .i64, p1⟩] [⟨0, .bool, r⟩] := by
  replace h := Leads.of h
  unfold state_within at h
  refine acall_of func142 (by kernel_rfl) rfl (by kernel_rfl) fun w0 F0 hw0 => ?_
  refine W_seq ?_
  refine W_region mixed tys_ok (sup := []) (l := [(0, 0), (1, 0)]) (E' := [(0, .v 0 (.int .i64) p0), (1, .v 0 (.int .i64) p1)]) (obs := []) (by kernel_rfl) (trivial) ?_
  refine W_seq ?_
  refine W_region mixed tys_ok (sup := []) (l := [(4, 0)]) (E' := [(4, .v 0 .bool ((decide (p0 ≥ (0 : Int))) && (decide (p0 < p1))))]) (obs := []) (by kernel_rfl) (trivial) ?_
  refine W_gen (x := (decide (p0 ≥ (0 : Int))) && (decide (p0 < p1))) (En := fun x1 => [(4, .v 0 .bool x1)]) h (fun x1 h => ?_)
  refine W_keep (l := [(4, 0)]) (E' := [(4, .v 0 .bool x1)]) (by kernel_rfl) ?_
  replace h : x1 = r := h
  subst h
  exact W_ret tys_ok hw0 (by kernel_rfl) (by kernel_rfl)

noncomputable def state_put_api_Thread_j1 (p1 : Int) (p3 : D_api_Thread) (x2 : List D_api_Thread) : Option (List D_api_Thread) :=
  ass (0 ≤ p1 ∧ p1 < (x2.length : Int)) <|
  bnd (wr x2 p1 p3) fun x3 =>
  some x3
noncomputable def state_put_api_Thread_b1 (p1 : Int) (p3 : D_api_Thread) (x4 : List D_api_Thread) : Option ((List D_api_Thread) ⊕ (List D_api_Thread)) :=
  bif decide ((x4.length : Int) ≤ p1) then
    bnd (((0 : Int), (0 : Int), (0 : Int), (0 : Int), (0 : Int))) fun x5 =>
    ass (((x4.length + [x5].length : Nat) : Int) ≤ limA) <|
    bnd (x4 ++ [x5]) fun x6 =>
    some (.inl x6)
  else
    (state_put_api_Thread_j1 p1 p3 x4).map .inr
noncomputable def state_put_api_Thread (p0 : List D_api_Thread) (p1 : Int) (p2 : Int) (p3 : D_api_Thread) : Option (List D_api_Thread) :=
  (slices_Clone_api_Thread_api_Thread p0).bind fun y1 =>
  bif (decide (p1 < (0 : Int))) || (decide (p1 ≥ p2)) then
    some y1
  else
    loopM (fun x : List D_api_Thread => state_put_api_Thread_b1 p1 p3 x) y1
theorem state_put_api_Thread.ok {p0 : List D_api_Thread} {p1 : Int} {p2 : Int} {p3 : D_api_Thread} {r : List D_api_Thread} (h : state_put_api_Thread p0 p1 p2 p3 = some r) : ACall prog 145 [⟨.slice T_api_Thread, p0⟩, ⟨.int .i64, p1⟩, ⟨.int .i64, p2⟩, ⟨T_api_Thread, p3⟩] [⟨9, .slice T_api_Thread, r⟩] := by
  replace h := Leads.of h
  unfold state_put_api_Thread at h
  refine acall_of func145 (by kernel_rfl) rfl (by kernel_rfl) fun w0 F0 hw0 => ?_
  refine W_seq ?_
  refine W_region mixed tys_ok (sup := []) (l := [(0, 0), (1, 0), (2, 0), (7, 9)]) (E' := [(0, .v 0 (.slice T_api_Thread) p0), (1, .v 0 (.int .i64) p1), (2, .v 0 (.int .i64) p2), (7, .box 9 T_api_Thread p3)]) (obs := []) (by kernel_rfl) (trivial) ?_
  refine W_seq ?_
  obtain ⟨y1, ey1, h⟩ := h.bind
  refine W_region mixed tys_ok (sup := [.res [(9, ⟨9, .slice T_api_Thread, y1⟩)]]) (l := [(1, 0), (2, 0), (7, 9), (9, 9)]) (E' := [(1, .v 0 (.int .i64) p1), (2, .v 0 (.int .i64) p2), (7, .box 9 T_api_Thread p3), (9, .v 9 (.slice T_api_Thread) y1)]) (obs := [ACall prog 131 [⟨.slice T_api_Thread, p0⟩] [⟨9, .slice T_api_Thread, y1⟩]]) (by kernel_rfl) (slices_Clone_api_Thread_api_Thread.ok ey1) ?_
  refine W_seq ?_
  refine W_seq ?_
  refine W_region mixed tys_ok (sup := []) (l := [(1, 0), (7, 9), (9, 9), (19, 0)]) (E' := [(1, .v 0 (.int .i64) p1), (7, .box 9 T_api_Thread p3), (9, .v 9 (.slice T_api_Thread) y1), (19, .v 0 .bool ((decide (p1 < (0 : Int))) || (decide (p1 ≥ p2))))]) (obs := []) (by kernel_rfl) (trivial) ?_
  refine W_cond (β := (decide (p1 < (0 : Int))) || (decide (p1 ≥ p2))) (by kernel_rfl) (fun hb => ?_) (fun hb => ?_)
  · rw [cond_tt hb] at h
    refine W_seq ?_
    refine W_region mixed tys_ok (sup := []) (l := [(8, 9)]) (E' := [(8, .v 9 (.slice T_api_Thread) y1)]) (obs := []) (by kernel_rfl) (trivial) ?_
    refine W_keep (l := [(8, 9)]) (E' := [(8, .v 9 (.slice T_api_Thread) y1)]) (by kernel_rfl) ?_
    replace h : y1 = r := h
    subst h
    exact W_ret tys_ok hw0 (by kernel_rfl) (by kernel_rfl)
  · rw [cond_ff hb] at h
    refine W_skip ?_
    refine W_seq ?_
    refine W_join h (Ej := fun (x : List D_api_Thread) => [(1, .v 0 (.int .i64) p1), (7, .box 9 T_api_Thread p3), (9, .v 9 (.slice T_api_Thread) x)]) (p := fun x => state_put_api_Thread_j1 p1 p3 x) ?_ ?_
    · rintro x2 h
      replace h : Leads _ (state_put_api_Thread_j1 p1 p3 x2) := h
      unfold state_put_api_Thread_j1 at h
      show W _ _ _ _ _ _ [(1, .v 0 (.int .i64) p1), (7, .box 9 T_api_Thread p3), (9, .v 9 (.slice T_api_Thread) x2)]
      refine W_seq ?_
      obtain ⟨o1, h⟩ := h.ass
      refine W_region mixed tys_ok (sup := []) (l := [(9, 9)]) (E' := [(9, .v 9 (.slice T_api_Thread) (wr x2 p1 p3))]) (obs := [0 ≤ p1 ∧ p1 < (x2.length : Int)]) (by kernel_rfl) (o1) ?_
      refine W_gen (x := wr x2 p1 p3) (En := fun x3 => [(9, .v 9 (.slice T_api_Thread) x3)]) h (fun x3 h => ?_)
      refine W_seq ?_
      refine W_region mixed tys_ok (sup := []) (l := [(8, 9)]) (E' := [(8, .v 9 (.slice T_api_Thread) x3)]) (obs := []) (by kernel_rfl) (trivial) ?_
      refine W_keep (l := [(8, 9)]) (E' := [(8, .v 9 (.slice T_api_Thread) x3)]) (by kernel_rfl) ?_
      replace h : x3 = r := h
      subst h
      exact W_ret tys_ok hw0 (by kernel_rfl) (by kernel_rfl)
    · intro j1
      refine W_block ?_
      refine W_keep (l := [(1, 0), (7, 9), (9, 9)]) (E' := [(1, .v 0 (.int .i64) p1), (7, .box 9 T_api_Thread p3), (9, .v 9 (.slice T_api_Thread) y1)]) (by kernel_rfl) ?_
      refine W_loop' (En := fun (x : List D_api_Thread) => [(1, .v 0 (.int .i64) p1), (7, .box 9 T_api_Thread p3), (9, .v 9 (.slice T_api_Thread) x)]) (x := y1) h ?_
      rintro x4 K h
      replace h : Leads _ (state_put_api_Thread_b1 p1 p3 x4) := h
      unfold state_put_api_Thread_b1 at h
      show W _ _ _ _ _ _ [(1, .v 0 (.int .i64) p1), (7, .box 9 T_api_Thread p3), (9, .v 9 (.slice T_api_Thread) x4)]
      refine W_seq ?_
      refine W_seq ?_
      refine W_region mixed tys_ok (sup := []) (l := [(1, 0), (7, 9), (9, 9), (24, 0)]) (E' := [(1, .v 0 (.int .i64) p1), (7, .box 9 T_api_Thread p3), (9, .v 9 (.slice T_api_Thread) x4), (24, .v 0 .bool (decide ((x4.length : Int) ≤ p1)))]) (obs := []) (by kernel_rfl) (trivial) ?_
      refine W_cond (β := decide ((x4.length : Int) ≤ p1)) (by kernel_rfl) (fun hb => ?_) (fun hb => ?_)
      · rw [cond_tt hb] at h
        refine W_skip ?_
        refine W_block ?_
        refine W_seq ?_
        refine W_region mixed tys_ok (sup := []) (l := [(1, 0), (7, 9), (9, 9), (10, 9)]) (E' := [(1, .v 0 (.int .i64) p1), (7, .box 9 T_api_Thread p3), (9, .v 9 (.slice T_api_Thread) x4), (10, .box 9 T_api_Thread ((0 : Int), (0 : Int), (0 : Int), (0 : Int), (0 : Int)))]) (obs := []) (by kernel_rfl) (trivial) ?_
        refine W_gen (x := ((0 : Int), (0 : Int), (0 : Int), (0 : Int), (0 : Int))) (En := fun x5 => [(1, .v 0 (.int .i64) p1), (7, .box 9 T_api_Thread p3), (9, .v 9 (.slice T_api_Thread) x4), (10, .box 9 T_api_Thread x5)]) h (fun x5 h => ?_)
        obtain ⟨o1, h⟩ := h.ass
        refine W_region mixed tys_ok (sup := []) (l := [(1, 0), (7, 9), (9, 9)]) (E' := [(1, .v 0 (.int .i64) p1), (7, .box 9 T_api_Thread p3), (9, .v 9 (.slice T_api_Thread) (x4 ++ [x5]))]) (obs := [((x4.length + [x5].length : Nat) : Int) ≤ limA]) (by kernel_rfl) (o1) ?_
        refine W_gen (x := x4 ++ [x5]) (En := fun x6 => [(1, .v 0 (.int .i64) p1), (7, .box 9 T_api_Thread p3), (9, .v 9 (.slice T_api_Thread) x6)]) h (fun x6 h => ?_)
        refine W_blk ?_
        refine W_keep (l := [(1, 0), (7, 9), (9, 9)]) (E' := [(1, .v 0 (.int .i64) p1), (7, .box 9 T_api_Thread p3), (9, .v 9 (.slice T_api_Thread) x6)]) (by kernel_rfl) ?_
        exact W_abs h
      · rw [cond_ff hb] at h
        refine W_exit rfl ?_
        refine W_keep (l := [(1, 0), (7, 9), (9, 9)]) (E' := [(1, .v 0 (.int .i64) p1), (7, .box 9 T_api_Thread p3), (9, .v 9 (.slice T_api_Thread) x4)]) (by kernel_rfl) ?_
        exact j1 x4 h.back

noncomputable def state_cut_bool_j1 (p0 : List Bool) (x1 : Int) : Option (List Bool) :=
  ass (0 ≤ (0 : Int) ∧ (0 : Int) ≤ x1 ∧ x1 ≤ (p0.length : Int)) <|
  (slices_Clone_bool_bool (sl p0 (0 : Int) x1)).bind fun y2 =>
  some y2
noncomputable def state_cut_bool_b1 (p0 : List Bool) (p1 : Bool → Option Bool) (x3 : Int) : Option (Int ⊕ (List Bool)) :=
  ass ((decide (x3 > (0 : Int))) = true → 0 ≤ IntKind.i64.wrap (x3 - (1 : Int)) ∧ IntKind.i64.wrap (x3 - (1 : Int)) < (p0.length : Int)) <|
  (bif decide (x3 > (0 : Int)) then p1 (rd false p0 (IntKind.i64.wrap (x3 - (1 : Int)))) else some false).bind fun y4 =>
  bif (decide (x3 > (0 : Int))) && (!y4) then
    bnd (IntKind.i64.wrap (x3 - (1 : Int))) fun x5 =>
    some (.inl x5)
  else
    (state_cut_bool_j1 p0 x3).map .inr
noncomputable def state_cut_bool (p0 : List Bool) (p1 : Bool → Option Bool) : Option (List Bool) :=
  loopM (fun x : Int => state_cut_bool_b1 p0 p1 x) (p0.length : Int)
theorem state_cut_bool.ok {p0 : List Bool} {p1 : Bool → Option Bool} {r : List Bool} (h : state_cut_bool p0 p1 = some r) : ACall prog 134 [⟨.slice .bool, p0⟩, ⟨.fn .bool .bool, p1⟩] [⟨9, .slice .bool, r⟩] := by
  replace h := Leads.of h
  unfold state_cut_bool at h
  refine acall_of func134 (by kernel_rfl) rfl (by kernel_rfl) fun w0 F0 hw0 => ?_
  refine W_seq ?_
  refine W_region mixed tys_ok (sup := []) (l := [(0, 0), (1, 0)]) (E' := [(0, .v 0 (.slice .bool) p0), (1, .v 0 (.fn .bool .bool) p1)]) (obs := []) (by kernel_rfl) (trivial) ?_
  refine W_seq ?_
  refine W_region mixed tys_ok (sup := []) (l := [(0, 0), (1, 0), (5, 0)]) (E' := [(0, .v 0 (.slice .bool) p0), (1, .v 0 (.fn .bool .bool) p1), (5, .v 0 (.int .i64) (p0.length : Int))]) (obs := []) (by kernel_rfl) (trivial) ?_
  refine W_seq ?_
  refine W_join h (Ej := fun (x : Int) => [(0, .v 0 (.slice .bool) p0), (5, .v 0 (.int .i64) x)]) (p := fun x => state_cut_bool_j1 p0 x) ?_ ?_
  · rintro x1 h
    replace h : Leads _ (state_cut_bool_j1 p0 x1) := h
    unfold state_cut_bool_j1 at h
    show W _ _ _ _ _ _ [(0, .v 0 (.slice .bool) p0), (5, .v 0 (.int .i64) x1)]
    refine W_seq ?_
    obtain ⟨o1, h⟩ := h.ass
    obtain ⟨y2, ey2, h⟩ := h.bind
    refine W_region mixed tys_ok (sup := [.res [(9, ⟨9, .slice .bool, y2⟩)]]) (l := [(4, 9)]) (E' := [(4, .v 9 (.slice .bool) y2)]) (obs := [0 ≤ (0 : Int) ∧ (0 : Int) ≤ x1 ∧ x1 ≤ (p0.length : Int), ACall prog 129 [⟨.slice .bool, sl p0 (0 : Int) x1⟩] [⟨9, .slice .bool, y2⟩]]) (by kernel_rfl) (⟨o1, slices_Clone_bool_bool.ok ey2⟩) ?_
    refine W_keep (l := [(4, 9)]) (E' := [(4, .v 9 (.slice .bool) y2)]) (by kernel_rfl) ?_
    replace h : y2 = r := h
    subst h
    exact W_ret tys_ok hw0 (by kernel_rfl) (by kernel_rfl)
  · intro j1
    refine W_block ?_
    refine W_keep (l := [(0, 0), (1, 0), (5, 0)]) (E' := [(0, .v 0 (.slice .bool) p0), (1, .v 0 (.fn .bool .bool) p1), (5, .v 0 (.int .i64) (p0.length : Int))]) (by kernel_rfl) ?_
    refine W_loop' (En := fun (x : Int) => [(0, .v 0 (.slice .bool) p0), (1, .v 0 (.fn .bool .bool) p1), (5, .v 0 (.int .i64) x)]) (x := (p0.length : Int)) h ?_
    rintro x3 K h
    replace h : Leads _ (state_cut_bool_b1 p0 p1 x3) := h
    unfold state_cut_bool_b1 at h
    show W _ _ _ _ _ _ [(0, .v 0 (.slice .bool) p0), (1, .v 0 (.fn .bool .bool) p1), (5, .v 0 (.int .i64) x3)]
    refine W_seq ?_
    refine W_seq ?_
    obtain ⟨o1, h⟩ := h.ass
    obtain ⟨y4, ey4, h⟩ := h.bind
    refine W_region mixed tys_ok (sup := [.res [(0, ⟨9, .bool, y4⟩)]]) (l := [(0, 0), (1, 0), (5, 0), (19, 0)]) (E' := [(0, .v 0 (.slice .bool) p0), (1, .v 0 (.fn .bool .bool) p1), (5, .v 0 (.int .i64) x3), (19, .v 0 .bool ((decide (x3 > (0 : Int))) && (!y4)))]) (obs := [(decide (x3 > (0 : Int))) = true → 0 ≤ IntKind.i64.wrap (x3 - (1 : Int)) ∧ IntKind.i64.wrap (x3 - (1 : Int)) < (p0.length : Int), (decide (x3 > (0 : Int))) = true → p1 (rd false p0 (IntKind.i64.wrap (x3 - (1 : Int)))) = some y4]) (by kernel_rfl) (⟨o1, fun hc => bif_some ey4 hc⟩) ?_
    refine W_cond (β := (decide (x3 > (0 : Int))) && (!y4)) (by kernel_rfl) (fun hb => ?_) (fun hb => ?_)
    · rw [cond_tt hb] at h
      refine W_skip ?_
      refine W_block ?_
      refine W_region mixed tys_ok (sup := []) (l := [(0, 0), (1, 0), (5, 0)]) (E' := [(0, .v 0 (.slice .bool) p0), (1, .v 0 (.fn .bool .bool) p1), (5, .v 0 (.int .i64) (IntKind.i64.wrap (x3 - (1 : Int))))]) (obs := []) (by kernel_rfl) (trivial) ?_
      refine W_gen (x := IntKind.i64.wrap (x3 - (1 : Int))) (En := fun x5 => [(0, .v 0 (.slice .bool) p0), (1, .v 0 (.fn .bool .bool) p1), (5, .v 0 (.int .i64) x5)]) h (fun x5 h => ?_)
      refine W_blk ?_
      refine W_keep (l := [(0, 0), (1, 0), (5, 0)]) (E' := [(0, .v 0 (.slice .bool) p0), (1, .v 0 (.fn .bool .bool) p1), (5, .v 0 (.int .i64) x5)]) (by kernel_rfl) ?_
      exact W_abs h
    · rw [cond_ff hb] at h
      refine W_exit rfl ?_
      refine W_keep (l := [(0, 0), (5, 0)]) (E' := [(0, .v 0 (.slice .bool) p0), (5, .v 0 (.int .i64) x3)]) (by kernel_rfl) ?_
      exact j1 x3 h.back

noncomputable def state_coinUsed (p0 : Bool) : Option Bool :=
  some p0
theorem state_coinUsed.ok {p0 : Bool} {r : Bool} (h : state_coinUsed p0 = some r) : ACall prog 135 [⟨.bool, p0⟩] [⟨0, .bool, r⟩] := by
  replace h := Leads.of h
  unfold state_coinUsed at h
  refine acall_of func135 (by kernel_rfl) rfl (by kernel_rfl) fun w0 F0 hw0 => ?_
  refine W_seq ?_
  refine W_region mixed tys_ok (sup := []) (l := [(0, 0)]) (E' := [(0, .v 0 .bool p0)]) (obs := []) (by kernel_rfl) (trivial) ?_
  refine W_seq ?_
  refine W_region mixed tys_ok (sup := []) (l := [(2, 0)]) (E' := [(2, .v 0 .bool p0)]) (obs := []) (by kernel_rfl) (trivial) ?_
  refine W_keep (l := [(2, 0)]) (E' := [(2, .v 0 .bool p0)]) (by kernel_rfl) ?_
  replace h : p0 = r := h
  subst h
  exact W_ret tys_ok hw0 (by kernel_rfl) (by kernel_rfl)

noncomputable def state_cut_api_Ticket_j1 (p0 : List D_api_Ticket) (x1 : Int) : Option (List D_api_Ticket) :=
  ass (0 ≤ (0 : Int) ∧ (0 : Int) ≤ x1 ∧ x1 ≤ (p0.length : Int)) <|
  (slices_Clone_api_Ticket_api_Ticket (sl p0 (0 : Int) x1)).bind fun y2 =>
  some y2
noncomputable def state_cut_api_Ticket_b1 (p0 : List D_api_Ticket) (p1 : D_api_Ticket → Option Bool) (x3 : Int) : Option (Int ⊕ (List D_api_Ticket)) :=
  ass ((decide (x3 > (0 : Int))) = true → 0 ≤ IntKind.i64.wrap (x3 - (1 : Int)) ∧ IntKind.i64.wrap (x3 - (1 : Int)) < (p0.length : Int)) <|
  (bif decide (x3 > (0 : Int)) then p1 (rd z_api_Ticket p0 (IntKind.i64.wrap (x3 - (1 : Int)))) else some false).bind fun y4 =>
  bif (decide (x3 > (0 : Int))) && (!y4) then
    bnd (IntKind.i64.wrap (x3 - (1 : Int))) fun x5 =>
    some (.inl x5)
  else
    (state_cut_api_Ticket_j1 p0 x3).map .inr
noncomputable def state_cut_api_Ticket (p0 : List D_api_Ticket) (p1 : D_api_Ticket → Option Bool) : Option (List D_api_Ticket) :=
  loopM (fun x : Int => state_cut_api_Ticket_b1 p0 p1 x) (p0.length : Int)
theorem state_cut_api_Ticket.ok {p0 : List D_api_Ticket} {p1 : D_api_Ticket → Option Bool} {r : List D_api_Ticket} (h : state_cut_api_Ticket p0 p1 = some r) : ACall prog 136 [⟨.slice T_api_Ticket, p0⟩, ⟨.fn T_api_Ticket .bool, p1⟩] [⟨9, .slice T_api_Ticket, r⟩] := by
  replace h := Leads.of h
  unfold state_cut_api_Ticket at h
  refine acall_of func136 (by kernel_rfl) rfl (by kernel_rfl) fun w0 F0 hw0 => ?_
  refine W_seq ?_
  refine W_region mixed tys_ok (sup := []) (l := [(0, 0), (1, 0)]) (E' := [(0, .v 0 (.slice T_api_Ticket) p0), (1, .v 0 (.fn T_api_Ticket .bool) p1)]) (obs := []) (by kernel_rfl) (trivial) ?_
  refine W_seq ?_
  refine W_region mixed tys_ok (sup := []) (l := [(0, 0), (1, 0), (5, 0)]) (E' := [(0, .v 0 (.slice T_api_Ticket) p0), (1, .v 0 (.fn T_api_Ticket .bool) p1), (5, .v 0 (.int .i64) (p0.length : Int))]) (obs := []) (by kernel_rfl) (trivial) ?_
  refine W_seq ?_
  refine W_join h (Ej := fun (x : Int) => [(0, .v 0 (.slice T_api_Ticket) p0), (5, .v 0 (.int .i64) x)]) (p := fun x => state_cut_api_Ticket_j1 p0 x) ?_ ?_
  · rintro x1 h
    replace h : Leads _ (state_cut_api_Ticket_j1 p0 x1) := h
    unfold state_cut_api_Ticket_j1 at h
    show W _ _ _ _ _ _ [(0, .v 0 (.slice T_api_Ticket) p0), (5, .v 0 (.int .i64) x1)]
    refine W_seq ?_
    obtain ⟨o1, h⟩ := h.ass
    obtain ⟨y2, ey2, h⟩ := h.bind
    refine W_region mixed tys_ok (sup := [.res [(9, ⟨9, .slice T_api_Ticket, y2⟩)]]) (l := [(4, 9)]) (E' := [(4, .v 9 (.slice T_api_Ticket) y2)]) (obs := [0 ≤ (0 : Int) ∧ (0 : Int) ≤ x1 ∧ x1 ≤ (p0.length : Int), ACall prog 130 [⟨.slice T_api_Ticket, sl p0 (0 : Int) x1⟩] [⟨9, .slice T_api_Ticket, y2⟩]]) (by kernel_rfl) (⟨o1, slices_Clone_api_Ticket_api_Ticket.ok ey2⟩) ?_
    refine W_keep (l := [(4, 9)]) (E' := [(4, .v 9 (.slice T_api_Ticket) y2)]) (by kernel_rfl) ?_
    replace h : y2 = r := h
    subst h
    exact W_ret tys_ok hw0 (by kernel_rfl) (by kernel_rfl)
  · intro j1
    refine W_block ?_
    refine W_keep (l := [(0, 0), (1, 0), (5, 0)]) (E' := [(0, .v 0 (.slice T_api_Ticket) p0), (1, .v 0 (.fn T_api_Ticket .bool) p1), (5, .v 0 (.int .i64) (p0.length : Int))]) (by kernel_rfl) ?_
    refine W_loop' (En := fun (x : Int) => [(0, .v 0 (.slice T_api_Ticket) p0), (1, .v 0 (.fn T_api_Ticket .bool) p1), (5, .v 0 (.int .i64) x)]) (x := (p0.length : Int)) h ?_
    rintro x3 K h
    replace h : Leads _ (state_cut_api_Ticket_b1 p0 p1 x3) := h
    unfold state_cut_api_Ticket_b1 at h
    show W _ _ _ _ _ _ [(0, .v 0 (.slice T_api_Ticket) p0), (1, .v 0 (.fn T_api_Ticket .bool) p1), (5, .v 0 (.int .i64) x3)]
    refine W_seq ?_
    refine W_seq ?_
    obtain ⟨o1, h⟩ := h.ass
    obtain ⟨y4, ey4, h⟩ := h.bind
    refine W_region mixed tys_ok (sup := [.res [(0, ⟨9, .bool, y4⟩)]]) (l := [(0, 0), (1, 0), (5, 0), (19, 0)]) (E' := [(0, .v 0 (.slice T_api_Ticket) p0), (1, .v 0 (.fn T_api_Ticket .bool) p1), (5, .v 0 (.int .i64) x3), (19, .v 0 .bool ((decide (x3 > (0 : Int))) && (!y4)))]) (obs := [(decide (x3 > (0 : Int))) = true → 0 ≤ IntKind.i64.wrap (x3 - (1 : Int)) ∧ IntKind.i64.wrap (x3 - (1 : Int)) < (p0.length : Int), (decide (x3 > (0 : Int))) = true → p1 (rd z_api_Ticket p0 (IntKind.i64.wrap (x3 - (1 : Int)))) = some y4]) (by kernel_rfl) (⟨o1, fun hc => bif_some ey4 hc⟩) ?_
    refine W_cond (β := (decide (x3 > (0 : Int))) && (!y4)) (by kernel_rfl) (fun hb => ?_) (fun hb => ?_)
    · rw [cond_tt hb] at h
      refine W_skip ?_
      refine W_block ?_
      refine W_region mixed tys_ok (sup := []) (l := [(0, 0), (1, 0), (5, 0)]) (E' := [(0, .v 0 (.slice T_api_Ticket) p0), (1, .v 0 (.fn T_api_Ticket .bool) p1), (5, .v 0 (.int .i64) (IntKind.i64.wrap (x3 - (1 : Int))))]) (obs := []) (by kernel_rfl) (trivial) ?_
      refine W_gen (x := IntKind.i64.wrap (x3 - (1 : Int))) (En := fun x5 => [(0, .v 0 (.slice T_api_Ticket) p0), (1, .v 0 (.fn T_api_Ticket .bool) p1), (5, .v 0 (.int .i64) x5)]) h (fun x5 h => ?_)
      refine W_blk ?_
      refine W_keep (l := [(0, 0), (1, 0), (5, 0)]) (E' := [(0, .v 0 (.slice T_api_Ticket) p0), (1, .v 0 (.fn T_api_Ticket .bool) p1), (5, .v 0 (.int .i64) x5)]) (by kernel_rfl) ?_
      exact W_abs h
    · rw [cond_ff hb] at h
      refine W_exit rfl ?_
      refine W_keep (l := [(0, 0), (5, 0)]) (E' := [(0, .v 0 (.slice T_api_Ticket) p0), (5, .v 0 (.int .i64) x3)]) (by kernel_rfl) ?_
      exact j1 x3 h.back

noncomputable def state_ticketUsed (p0 : D_api_Ticket) : Option Bool :=
  some p0.1
theorem state_ticketUsed.ok {p0 : D_api_Ticket} {r : Bool} (h : state_ticketUsed p0 = some r) : ACall prog 137 [⟨T_api_Ticket, p0⟩] [⟨0, .bool, r⟩] := by
  replace h := Leads.of h
  unfold state_ticketUsed at h
  refine acall_of func137 (by kernel_rfl) rfl (by kernel_rfl) fun w0 F0 hw0 => ?_
  refine W_seq ?_
  refine W_region mixed tys_ok (sup := []) (l := [(1, 9)]) (E' := [(1, .box 9 T_api_Ticket p0)]) (obs := []) (by kernel_rfl) (trivial) ?_
  refine W_seq ?_
  refine W_region mixed tys_ok (sup := []) (l := [(2, 0)]) (E' := [(2, .v 0 .bool p0.1)]) (obs := []) (by kernel_rfl) (trivial) ?_
  refine W_keep (l := [(2, 0)]) (E' := [(2, .v 0 .bool p0.1)]) (by kernel_rfl) ?_
  replace h : p0.1 = r := h
  subst h
  exact W_ret tys_ok hw0 (by kernel_rfl) (by kernel_rfl)

noncomputable def state_cut_api_Thread_j1 (p0 : List D_api_Thread) (x1 : Int) : Option (List D_api_Thread) :=
  ass (0 ≤ (0 : Int) ∧ (0 : Int) ≤ x1 ∧ x1 ≤ (p0.length : Int)) <|
  (slices_Clone_api_Thread_api_Thread (sl p0 (0 : Int) x1)).bind fun y2 =>
  some y2
noncomputable def state_cut_api_Thread_b1 (p0 : List D_api_Thread) (p1 : D_api_Thread → Option Bool) (x3 : Int) : Option (Int ⊕ (List D_api_Thread)) :=
  ass ((decide (x3 > (0 : Int))) = true → 0 ≤ IntKind.i64.wrap (x3 - (1 : Int)) ∧ IntKind.i64.wrap (x3 - (1 : Int)) < (p0.length : Int)) <|
  (bif decide (x3 > (0 : Int)) then p1 (rd z_api_Thread p0 (IntKind.i64.wrap (x3 - (1 : Int)))) else some false).bind fun y4 =>
  bif (decide (x3 > (0 : Int))) && (!y4) then
    bnd (IntKind.i64.wrap (x3 - (1 : Int))) fun x5 =>
    some (.inl x5)
  else
    (state_cut_api_Thread_j1 p0 x3).map .inr
noncomputable def state_cut_api_Thread (p0 : List D_api_Thread) (p1 : D_api_Thread → Option Bool) : Option (List D_api_Thread) :=
  loopM (fun x : Int => state_cut_api_Thread_b1 p0 p1 x) (p0.length : Int)
theorem state_cut_api_Thread.ok {p0 : List D_api_Thread} {p1 : D_api_Thread → Option Bool} {r : List D_api_Thread} (h : state_cut_api_Thread p0 p1 = some r) : ACall prog 138 [⟨.slice T_api_Thread, p0⟩, ⟨.fn T_api_Thread .bool, p1⟩] [⟨9, .slice T_api_Thread, r⟩] := by
  replace h := Leads.of h
  unfold state_cut_api_Thread at h
  refine acall_of func138 (by kernel_rfl) rfl (by kernel_rfl) fun w0 F0 hw0 => ?_
  refine W_seq ?_
  refine W_region mixed tys_ok (sup := []) (l := [(0, 0), (1, 0)]) (E' := [(0, .v 0 (.slice T_api_Thread) p0), (1, .v 0 (.fn T_api_Thread .bool) p1)]) (obs := []) (by kernel_rfl) (trivial) ?_
  refine W_seq ?_
  refine W_region mixed tys_ok (sup := []) (l := [(0, 0), (1, 0), (5, 0)]) (E' := [(0, .v 0 (.slice T_api_Thread) p0), (1, .v 0 (.fn T_api_Thread .bool) p1), (5, .v 0 (.int .i64) (p0.length : Int))]) (obs := []) (by kernel_rfl) (trivial) ?_
  refine W_seq ?_
  refine W_join h (Ej := fun (x : Int) => [(0, .v 0 (.slice T_api_Thread) p0), (5, .v 0 (.int .i64) x)]) (p := fun x => state_cut_api_Thread_j1 p0 x) ?_ ?_
  · rintro x1 h
    replace h : Leads _ (state_cut_api_Thread_j1 p0 x1) := h
    unfold state_cut_api_Thread_j1 at h
    show W _ _ _ _ _ _ [(0, .v 0 (.slice T_api_Thread) p0), (5, .v 0 (.int .i64) x1)]
    refine W_seq ?_
    obtain ⟨o1, h⟩ := h.ass
    obtain ⟨y2, ey2, h⟩ := h.bind
    refine W_region mixed tys_ok (sup := [.res [(9, ⟨9, .slice T_api_Thread, y2⟩)]]) (l := [(4, 9)]) (E' := [(4, .v 9 (.slice T_api_Thread) y2)]) (obs := [0 ≤ (0 : Int) ∧ (0 : Int) ≤ x1 ∧ x1 ≤ (p0.length : Int), ACall prog 131 [⟨.slice T_api_Thread, sl p0 (0 : Int) x1⟩] [⟨9, .slice T_api_Thread, y2⟩]]) (by kernel_rfl) (⟨o1, slices_Clone_api_Thread_api_Thread.ok ey2⟩) ?_
    refine W_keep (l := [(4, 9)]) (E' := [(4, .v 9 (.slice T_api_Thread) y2)]) (by kernel_rfl) ?_
    replace h : y2 = r := h
    subst h
    exact W_ret tys_ok hw0 (by kernel_rfl) (by kernel_rfl)
  · intro j1
    refine W_block ?_
    refine W_keep (l := [(0, 0), (1, 0), (5, 0)]) (E' := [(0, .v 0 (.slice T_api_Thread) p0), (1, .v 0 (.fn T_api_Thread .bool) p1), (5, .v 0 (.int .i64) (p0.length : Int))]) (by kernel_rfl) ?_
    refine W_loop' (En := fun (x : Int) => [(0, .v 0 (.slice T_api_Thread) p0), (1, .v 0 (.fn T_api_Thread .bool) p1), (5, .v 0 (.int .i64) x)]) (x := (p0.length : Int)) h ?_
    rintro x3 K h
    replace h : Leads _ (state_cut_api_Thread_b1 p0 p1 x3) := h
    unfold state_cut_api_Thread_b1 at h
    show W _ _ _ _ _ _ [(0, .v 0 (.slice T_api_Thread) p0), (1, .v 0 (.fn T_api_Thread .bool) p1), (5, .v 0 (.int .i64) x3)]
    refine W_seq ?_
    refine W_seq ?_
    obtain ⟨o1, h⟩ := h.ass
    obtain ⟨y4, ey4, h⟩ := h.bind
    refine W_region mixed tys_ok (sup := [.res [(0, ⟨9, .bool, y4⟩)]]) (l := [(0, 0), (1, 0), (5, 0), (19, 0)]) (E' := [(0, .v 0 (.slice T_api_Thread) p0), (1, .v 0 (.fn T_api_Thread .bool) p1), (5, .v 0 (.int .i64) x3), (19, .v 0 .bool ((decide (x3 > (0 : Int))) && (!y4)))]) (obs := [(decide (x3 > (0 : Int))) = true → 0 ≤ IntKind.i64.wrap (x3 - (1 : Int)) ∧ IntKind.i64.wrap (x3 - (1 : Int)) < (p0.length : Int), (decide (x3 > (0 : Int))) = true → p1 (rd z_api_Thread p0 (IntKind.i64.wrap (x3 - (1 : Int)))) = some y4]) (by kernel_rfl) (⟨o1, fun hc => bif_some ey4 hc⟩) ?_
    refine W_cond (β := (decide (x3 > (0 : Int))) && (!y4)) (by kernel_rfl) (fun hb => ?_) (fun hb => ?_)
    · rw [cond_tt hb] at h
      refine W_skip ?_
      refine W_block ?_
      refine W_region mixed tys_ok (sup := []) (l := [(0, 0), (1, 0), (5, 0)]) (E' := [(0, .v 0 (.slice T_api_Thread) p0), (1, .v 0 (.fn T_api_Thread .bool) p1), (5, .v 0 (.int .i64) (IntKind.i64.wrap (x3 - (1 : Int))))]) (obs := []) (by kernel_rfl) (trivial) ?_
      refine W_gen (x := IntKind.i64.wrap (x3 - (1 : Int))) (En := fun x5 => [(0, .v 0 (.slice T_api_Thread) p0), (1, .v 0 (.fn T_api_Thread .bool) p1), (5, .v 0 (.int .i64) x5)]) h (fun x5 h => ?_)
      refine W_blk ?_
      refine W_keep (l := [(0, 0), (1, 0), (5, 0)]) (E' := [(0, .v 0 (.slice T_api_Thread) p0), (1, .v 0 (.fn T_api_Thread .bool) p1), (5, .v 0 (.int .i64) x5)]) (by kernel_rfl) ?_
      exact W_abs h
    · rw [cond_ff hb] at h
      refine W_exit rfl ?_
      refine W_keep (l := [(0, 0), (5, 0)]) (E' := [(0, .v 0 (.slice T_api_Thread) p0), (5, .v 0 (.int .i64) x3)]) (by kernel_rfl) ?_
      exact j1 x3 h.back

noncomputable def state_cut_api_Lock_j1 (p0 : List D_api_Lock) (x1 : Int) : Option (List D_api_Lock) :=
  ass (0 ≤ (0 : Int) ∧ (0 : Int) ≤ x1 ∧ x1 ≤ (p0.length : Int)) <|
  (slices_Clone_api_Lock_api_Lock (sl p0 (0 : Int) x1)).bind fun y2 =>
  some y2
noncomputable def state_cut_api_Lock_b1 (p0 : List D_api_Lock) (p1 : D_api_Lock → Option Bool) (x3 : Int) : Option (Int ⊕ (List D_api_Lock)) :=
  ass ((decide (x3 > (0 : Int))) = true → 0 ≤ IntKind.i64.wrap (x3 - (1 : Int)) ∧ IntKind.i64.wrap (x3 - (1 : Int)) < (p0.length : Int)) <|
  (bif decide (x3 > (0 : Int)) then p1 (rd z_api_Lock p0 (IntKind.i64.wrap (x3 - (1 : Int)))) else some false).bind fun y4 =>
  bif (decide (x3 > (0 : Int))) && (!y4) then
    bnd (IntKind.i64.wrap (x3 - (1 : Int))) fun x5 =>
    some (.inl x5)
  else
    (state_cut_api_Lock_j1 p0 x3).map .inr
noncomputable def state_cut_api_Lock (p0 : List D_api_Lock) (p1 : D_api_Lock → Option Bool) : Option (List D_api_Lock) :=
  loopM (fun x : Int => state_cut_api_Lock_b1 p0 p1 x) (p0.length : Int)
theorem state_cut_api_Lock.ok {p0 : List D_api_Lock} {p1 : D_api_Lock → Option Bool} {r : List D_api_Lock} (h : state_cut_api_Lock p0 p1 = some r) : ACall prog 140 [⟨.slice T_api_Lock, p0⟩, ⟨.fn T_api_Lock .bool, p1⟩] [⟨9, .slice T_api_Lock, r⟩] := by
  replace h := Leads.of h
  unfold state_cut_api_Lock at h
  refine acall_of func140 (by kernel_rfl) rfl (by kernel_rfl) fun w0 F0 hw0 => ?_
  refine W_seq ?_
  refine W_region mixed tys_ok (sup := []) (l := [(0, 0), (1, 0)]) (E' := [(0, .v 0 (.slice T_api_Lock) p0), (1, .v 0 (.fn T_api_Lock .bool) p1)]) (obs := []) (by kernel_rfl) (trivial) ?_
  refine W_seq ?_
  refine W_region mixed tys_ok (sup := []) (l := [(0, 0), (1, 0), (5, 0)]) (E' := [(0, .v 0 (.slice T_api_Lock) p0), (1, .v 0 (.fn T_api_Lock .bool) p1), (5, .v 0 (.int .i64) (p0.length : Int))]) (obs := []) (by kernel_rfl) (trivial) ?_
  refine W_seq ?_
  refine W_join h (Ej := fun (x : Int) => [(0, .v 0 (.slice T_api_Lock) p0), (5, .v 0 (.int .i64) x)]) (p := fun x => state_cut_api_Lock_j1 p0 x) ?_ ?_
  · rintro x1 h
    replace h : Leads _ (state_cut_api_Lock_j1 p0 x1) := h
    unfold state_cut_api_Lock_j1 at h
    show W _ _ _ _ _ _ [(0, .v 0 (.slice T_api_Lock) p0), (5, .v 0 (.int .i64) x1)]
    refine W_seq ?_
    obtain ⟨o1, h⟩ := h.ass
    obtain ⟨y2, ey2, h⟩ := h.bind
    refine W_region mixed tys_ok (sup := [.res [(9, ⟨9, .slice T_api_Lock, y2⟩)]]) (l := [(4, 9)]) (E' := [(4, .v 9 (.slice T_api_Lock) y2)]) (obs := [0 ≤ (0 : Int) ∧ (0 : Int) ≤ x1 ∧ x1 ≤ (p0.length : Int), ACall prog 132 [⟨.slice T_api_Lock, sl p0 (0 : Int) x1⟩] [⟨9, .slice T_api_Lock, y2⟩]]) (by kernel_rfl) (⟨o1, slices_Clone_api_Lock_api_Lock.ok ey2⟩) ?_
    refine W_keep (l := [(4, 9)]) (E' := [(4, .v 9 (.slice T_api_Lock) y2)]) (by kernel_rfl) ?_
    replace h : y2 = r := h
    subst h
    exact W_ret tys_ok hw0 (by kernel_rfl) (by kernel_rfl)
  · intro j1
    refine W_block ?_
    refine W_keep (l := [(0, 0), (1, 0), (5, 0)]) (E' := [(0, .v 0 (.slice T_api_Lock) p0), (1, .v 0 (.fn T_api_Lock .bool) p1), (5, .v 0 (.int .i64) (p0.length : Int))]) (by kernel_rfl) ?_
    refine W_loop' (En := fun (x : Int) => [(0, .v 0 (.slice T_api_Lock) p0), (1, .v 0 (.fn T_api_Lock .bool) p1), (5, .v 0 (.int .i64) x)]) (x := (p0.length : Int)) h ?_
    rintro x3 K h
    replace h : Leads _ (state_cut_api_Lock_b1 p0 p1 x3) := h
    unfold state_cut_api_Lock_b1 at h
    show W _ _ _ _ _ _ [(0, .v 0 (.slice T_api_Lock) p0), (1, .v 0 (.fn T_api_Lock .bool) p1), (5, .v 0 (.int .i64) x3)]
    refine W_seq ?_
    refine W_seq ?_
    obtain ⟨o1, h⟩ := h.ass
    obtain ⟨y4, ey4, h⟩ := h.bind
    refine W_region mixed tys_ok (sup := [.res [(0, ⟨9, .bool, y4⟩)]]) (l := [(0, 0), (1, 0), (5, 0), (19, 0)]) (E' := [(0, .v 0 (.slice T_api_Lock) p0), (1, .v 0 (.fn T_api_Lock .bool) p1), (5, .v 0 (.int .i64) x3), (19, .v 0 .bool ((decide (x3 > (0 : Int))) && (!y4)))]) (obs := [(decide (x3 > (0 : Int))) = true → 0 ≤ IntKind.i64.wrap (x3 - (1 : Int)) ∧ IntKind.i64.wrap (x3 - (1 : Int)) < (p0.length : Int), (decide (x3 > (0 : Int))) = true → p1 (rd z_api_Lock p0 (IntKind.i64.wrap (x3 - (1 : Int)))) = some y4]) (by kernel_rfl) (⟨o1, fun hc => bif_some ey4 hc⟩) ?_
    refine W_cond (β := (decide (x3 > (0 : Int))) && (!y4)) (by kernel_rfl) (fun hb => ?_) (fun hb => ?_)
    · rw [cond_tt hb] at h
      refine W_skip ?_
      refine W_block ?_
      refine W_region mixed tys_ok (sup := []) (l := [(0, 0), (1, 0), (5, 0)]) (E' := [(0, .v 0 (.slice T_api_Lock) p0), (1, .v 0 (.fn T_api_Lock .bool) p1), (5, .v 0 (.int .i64) (IntKind.i64.wrap (x3 - (1 : Int))))]) (obs := []) (by kernel_rfl) (trivial) ?_
      refine W_gen (x := IntKind.i64.wrap (x3 - (1 : Int))) (En := fun x5 => [(0, .v 0 (.slice T_api_Lock) p0), (1, .v 0 (.fn T_api_Lock .bool) p1), (5, .v 0 (.int .i64) x5)]) h (fun x5 h => ?_)
      refine W_blk ?_
      refine W_keep (l := [(0, 0), (1, 0), (5, 0)]) (E' := [(0, .v 0 (.slice T_api_Lock) p0), (1, .v 0 (.fn T_api_Lock .bool) p1), (5, .v 0 (.int .i64) x5)]) (by kernel_rfl) ?_
      exact W_abs h
    · rw [cond_ff hb] at h
      refine W_exit rfl ?_
      refine W_keep (l := [(0, 0), (5, 0)]) (E' := [(0, .v 0 (.slice T_api_Lock) p0), (5, .v 0 (.int .i64) x3)]) (by kernel_rfl) ?_
      exact j1 x3 h.back

noncomputable def state_Trim (p0 : D_api_State) : Option D_api_State :=
  bnd ((([] : List Bool), ([] : List D_api_Ticket), ([] : List D_api_Thread), ([] : List D_api_Lock), ([] : List Int), (0 : Int))) fun x1 =>
  (state_cut_bool p0.1 (fun x => state_coinUsed x)).bind fun y2 =>
  (state_cut_api_Ticket p0.2.1 (fun x => state_ticketUsed x)).bind fun y3 =>
  (state_cut_api_Thread p0.2.2.1 (fun x => state_threadUsed x)).bind fun y4 =>
  (state_cut_api_Lock p0.2.2.2.1 (fun x => state_lockUsed x)).bind fun y5 =>
  (slices_Clone_int_int p0.2.2.2.2.1).bind fun y6 =>
  bnd ((y2, y3, y4, y5, y6, p0.2.2.2.2.2)) fun x7 =>
  some x7
theorem state_Trim.ok {p0 : D_api_State} {r : D_api_State} (h : state_Trim p0 = some r) : ACall prog 45 [⟨T_api_State, p0⟩] [⟨(.pr 9 (.pr 9 (.pr 9 (.pr 9 (.pr 9 0))))), T_api_State, r⟩] := by
  replace h := Leads.of h
  unfold state_Trim at h
  refine acall_of func45 (by kernel_rfl) rfl (by kernel_rfl) fun w0 F0 hw0 => ?_
  refine W_seq ?_
  refine W_region mixed tys_ok (sup := []) (l := [(1, 0), (2, 9)]) (E' := [(1, .box 0 T_api_State p0), (2, .box 9 T_api_State (([] : List Bool), ([] : List D_api_Ticket), ([] : List D_api_Thread), ([] : List D_api_Lock), ([] : List Int), (0 : Int)))]) (obs := []) (by kernel_rfl) (trivial) ?_
  refine W_gen (x := (([] : List Bool), ([] : List D_api_Ticket), ([] : List D_api_Thread), ([] : List D_api_Lock), ([] : List Int), (0 : Int))) (En := fun x1 => [(1, .box 0 T_api_State p0), (2, .box 9 T_api_State x1)]) h (fun x1 h => ?_)
  refine W_seq ?_
  obtain ⟨y2, ey2, h⟩ := h.bind
  obtain ⟨y3, ey3, h⟩ := h.bind
  obtain ⟨y4, ey4, h⟩ := h.bind
  obtain ⟨y5, ey5, h⟩ := h.bind
  obtain ⟨y6, ey6, h⟩ := h.bind
  refine W_region mixed tys_ok (sup := [.fn .bool .bool (fun x => state_coinUsed x), .res [(9, ⟨9, .slice .bool, y2⟩)], .fn T_api_Ticket .bool (fun x => state_ticketUsed x), .res [(9, ⟨9, .slice T_api_Ticket, y3⟩)], .fn T_api_Thread .bool (fun x => state_threadUsed x), .res [(9, ⟨9, .slice T_api_Thread, y4⟩)], .fn T_api_Lock .bool (fun x => state_lockUsed x), .res [(9, ⟨9, .slice T_api_Lock, y5⟩)], .res [(9, ⟨9, .slice (.int .i64), y6⟩)]]) (l := [(1, (.pr 9 (.pr 9 (.pr 9 (.pr 9 (.pr 9 0)))))), (2, 9)]) (E' := [(1, .box (.pr 9 (.pr 9 (.pr 9 (.pr 9 (.pr 9 0))))) T_api_State (y2, y3, y4, y5, y6, p0.2.2.2.2.2)), (2, .box 9 T_api_State x1)]) (obs := [∀ x y, (fun x => state_coinUsed x) x = some y → ACall prog 135 (unprod .bool x ++ []) [⟨9, .bool, y⟩], ACall prog 134 [⟨.slice .bool, p0.1⟩, ⟨.fn .bool .bool, fun x => state_coinUsed x⟩] [⟨9, .slice .bool, y2⟩], ∀ x y, (fun x => state_ticketUsed x) x = some y → ACall prog 137 (unprod T_api_Ticket x ++ []) [⟨9, .bool, y⟩], ACall prog 136 [⟨.slice T_api_Ticket, p0.2.1⟩, ⟨.fn T_api_Ticket .bool, fun x => state_ticketUsed x⟩] [⟨9, .slice T_api_Ticket, y3⟩], ∀ x y, (fun x => state_threadUsed x) x = some y → ACall prog 139 (unprod T_api_Thread x ++ []) [⟨9, .bool, y⟩], ACall prog 138 [⟨.slice T_api_Thread, p0.2.2.1⟩, ⟨.fn T_api_Thread .bool, fun x => state_threadUsed x⟩] [⟨9, .slice T_api_Thread, y4⟩], ∀ x y, (fun x => state_lockUsed x) x = some y → ACall prog 141 (unprod T_api_Lock x ++ []) [⟨9, .bool, y⟩], ACall prog 140 [⟨.slice T_api_Lock, p0.2.2.2.1⟩, ⟨.fn T_api_Lock .bool, fun x => state_lockUsed x⟩] [⟨9, .slice T_api_Lock, y5⟩], ACall prog 133 [⟨.slice (.int .i64), p0.2.2.2.2.1⟩] [⟨9, .slice (.int .i64), y6⟩]]) (by kernel_rfl) (⟨fun x y e => ACall.flat rfl (state_coinUsed.ok e), state_cut_bool.ok ey2, fun x y e => ACall.flat rfl (state_ticketUsed.ok e), state_cut_api_Ticket.ok ey3, fun x y e => ACall.flat rfl (state_threadUsed.ok e), state_cut_api_Thread.ok ey4, fun x y e => ACall.flat rfl (state_lockUsed.ok e), state_cut_api_Lock.ok ey5, slices_Clone_int_int.ok ey6⟩) ?_
  refine W_gen (x := (y2, y3, y4, y5, y6, p0.2.2.2.2.2)) (En := fun x7 => [(1, .box (.pr 9 (.pr 9 (.pr 9 (.pr 9 (.pr 9 0))))) T_api_State x7), (2, .box 9 T_api_State x1)]) h (fun x7 h => ?_)
  refine W_seq ?_
  refine W_region mixed tys_ok (sup := []) (l := [(2, (.pr 9 (.pr 9 (.pr 9 (.pr 9 (.pr 9 0))))))]) (E' := [(2, .box (.pr 9 (.pr 9 (.pr 9 (.pr 9 (.pr 9 0))))) T_api_State x7)]) (obs := []) (by kernel_rfl) (trivial) ?_
  refine W_keep (l := [(2, (.pr 9 (.pr 9 (.pr 9 (.pr 9 (.pr 9 0))))))]) (E' := [(2, .box (.pr 9 (.pr 9 (.pr 9 (.pr 9 (.pr 9 0))))) T_api_State x7)]) (by kernel_rfl) ?_
  replace h : x7 = r := h
  subst h
  exact W_ret tys_ok hw0 (by kernel_rfl) (by kernel_rfl)

noncomputable def state_PutThread (p0 : D_api_State) (p1 : Int) (p2 : D_api_Thread) : Option D_api_State :=
  bnd ((([] : List Bool), ([] : List D_api_Ticket), ([] : List D_api_Thread), ([] : List D_api_Lock), ([] : List Int), (0 : Int))) fun x1 =>
  (state_within p1 (32 : Int)).bind fun y2 =>
  bif !y2 then
    (state_Copy p0).bind fun y3 =>
    some y3
  else
    (state_put_api_Thread p0.2.2.1 p1 (32 : Int) p2).bind fun y4 =>
    bnd ((p0.1, p0.2.1, y4, p0.2.2.2)) fun x5 =>
    (state_Trim x5).bind fun y6 =>
    some y6
theorem state_PutThread.ok {p0 : D_api_State} {p1 : Int} {p2 : D_api_Thread} {r : D_api_State} (h : state_PutThread p0 p1 p2 = some r) : ACall prog 54 [⟨T_api_State, p0⟩, ⟨.int .i64, p1⟩, ⟨T_api_Thread, p2⟩] [⟨(.pr 9 (.pr 9 (.pr 9 (.pr 9 (.pr 9 0))))), T_api_State, r⟩] := by
  replace h := Leads.of h
  unfold state_PutThread at h
  refine acall_of func54 (by kernel_rfl) rfl (by kernel_rfl) fun w0 F0 hw0 => ?_
  refine W_seq ?_
  refine W_region mixed tys_ok (sup := []) (l := [(1, 0), (3, 0), (5, 9), (6, 9)]) (E' := [(1, .v 0 (.int .i64) p1), (3, .box 0 T_api_State p0), (5, .box 9 T_api_Thread p2), (6, .box 9 T_api_State (([] : List Bool), ([] : List D_api_Ticket), ([] : List D_api_Thread), ([] : List D_api_Lock), ([] : List Int), (0 : Int)))]) (obs := []) (by kernel_rfl) (trivial) ?_
  refine W_gen (x := (([] : List Bool), ([] : List D_api_Ticket), ([] : List D_api_Thread), ([] : List D_api_Lock), ([] : List Int), (0 : Int))) (En := fun x1 => [(1, .v 0 (.int .i64) p1), (3, .box 0 T_api_State p0), (5, .box 9 T_api_Thread p2), (6, .box 9 T_api_State x1)]) h (fun x1 h => ?_)
  refine W_seq ?_
  refine W_seq ?_
  obtain ⟨y2, ey2, h⟩ := h.bind
  refine W_region mixed tys_ok (sup := [.res [(0, ⟨0, .bool, y2⟩)]]) (l := [(1, 0), (3, 0), (5, 9), (6, 9), (9, 0)]) (E' := [(1, .v 0 (.int .i64) p1), (3, .box 0 T_api_State p0), (5, .box 9 T_api_Thread p2), (6, .box 9 T_api_State x1), (9, .v 0 .bool (!y2))]) (obs := [ACall prog 142 [⟨.int .i64, p1⟩, ⟨.int .i64, (32 : Int)⟩] [⟨0, .bool, y2⟩]]) (by kernel_rfl) (state_within.ok ey2) ?_
  refine W_cond (β := !y2) (by kernel_rfl) (fun hb => ?_) (fun hb => ?_)
  · rw [cond_tt hb] at h
    refine W_seq ?_
    obtain ⟨y3, ey3, h⟩ := h.bind
    refine W_region mixed tys_ok (sup := [.res [((.pr 9 (.pr 9 (.pr 9 (.pr 9 (.pr 9 0))))), ⟨(.pr 9 (.pr 9 (.pr 9 (.pr 9 (.pr 9 0))))), T_api_State, y3⟩)]]) (l := [(6, (.pr 9 (.pr 9 (.pr 9 (.pr 9 (.pr 9 0))))))]) (E' := [(6, .box (.pr 9 (.pr 9 (.pr 9 (.pr 9 (.pr 9 0))))) T_api_State y3)]) (obs := [ACall prog 44 [⟨T_api_State, p0⟩] [⟨(.pr 9 (.pr 9 (.pr 9 (.pr 9 (.pr 9 0))))), T_api_State, y3⟩]]) (by kernel_rfl) (state_Copy.ok ey3) ?_
    refine W_keep (l := [(6, (.pr 9 (.pr 9 (.pr 9 (.pr 9 (.pr 9 0))))))]) (E' := [(6, .box (.pr 9 (.pr 9 (.pr 9 (.pr 9 (.pr 9 0))))) T_api_State y3)]) (by kernel_rfl) ?_
    replace h : y3 = r := h
    subst h
    exact W_ret tys_ok hw0 (by kernel_rfl) (by kernel_rfl)
  · rw [cond_ff hb] at h
    refine W_skip ?_
    refine W_seq ?_
    obtain ⟨y4, ey4, h⟩ := h.bind
    refine W_region mixed tys_ok (sup := [.res [(9, ⟨9, .slice T_api_Thread, y4⟩)]]) (l := [(3, (.pr 0 (.pr 0 (.pr 9 0)))), (6, 9)]) (E' := [(3, .box (.pr 0 (.pr 0 (.pr 9 0))) T_api_State (p0.1, p0.2.1, y4, p0.2.2.2)), (6, .box 9 T_api_State x1)]) (obs := [ACall prog 145 [⟨.slice T_api_Thread, p0.2.2.1⟩, ⟨.int .i64, p1⟩, ⟨.int .i64, (32 : Int)⟩, ⟨T_api_Thread, p2⟩] [⟨9, .slice T_api_Thread, y4⟩]]) (by kernel_rfl) (state_put_api_Thread.ok ey4) ?_
    refine W_gen (x := (p0.1, p0.2.1, y4, p0.2.2.2)) (En := fun x5 => [(3, .box (.pr 0 (.pr 0 (.pr 9 0))) T_api_State x5), (6, .box 9 T_api_State x1)]) h (fun x5 h => ?_)
    refine W_seq ?_
    obtain ⟨y6, ey6, h⟩ := h.bind
    refine W_region mixed tys_ok (sup := [.res [((.pr 9 (.pr 9 (.pr 9 (.pr 9 (.pr 9 0))))), ⟨(.pr 9 (.pr 9 (.pr 9 (.pr 9 (.pr 9 0))))), T_api_State, y6⟩)]]) (l := [(6, (.pr 9 (.pr 9 (.pr 9 (.pr 9 (.pr 9 0))))))]) (E' := [(6, .box (.pr 9 (.pr 9 (.pr 9 (.pr 9 (.pr 9 0))))) T_api_State y6)]) (obs := [ACall prog 45 [⟨T_api_State, x5⟩] [⟨(.pr 9 (.pr 9 (.pr 9 (.pr 9 (.pr 9 0))))), T_api_State, y6⟩]]) (by kernel_rfl) (state_Trim.ok ey6) ?_
    refine W_keep (l := [(6, (.pr 9 (.pr 9 (.pr 9 (.pr 9 (.pr 9 0))))))]) (E' := [(6, .box (.pr 9 (.pr 9 (.pr 9 (.pr 9 (.pr 9 0))))) T_api_State y6)]) (by kernel_rfl) ?_
    replace h : y6 = r := h
    subst h
    exact W_ret tys_ok hw0 (by kernel_rfl) (by kernel_rfl)

noncomputable def factor_with (p0 : D_api_State) (p1 : Int) (p2 : Int) (p3 : Int) : Option D_api_State :=
  bnd ((([] : List Bool), ([] : List D_api_Ticket), ([] : List D_api_Thread), ([] : List D_api_Lock), ([] : List Int), (0 : Int))) fun x1 =>
  (state_Thread p0 p1).bind fun y2 =>
  bif !y2.2 then
    (state_Copy p0).bind fun y3 =>
    some y3
  else
    bnd ((y2.1.1, y2.1.2.1, y2.1.2.2.1, p2, p3)) fun x4 =>
    (state_PutThread p0 p1 x4).bind fun y5 =>
    some y5
theorem factor_with.ok {p0 : D_api_State} {p1 : Int} {p2 : Int} {p3 : Int} {r : D_api_State} (h : factor_with p0 p1 p2 p3 = some r) : ACall prog 229 [⟨T_api_State, p0⟩, ⟨.int .i64, p1⟩, ⟨.int .i64, p2⟩, ⟨.int .i64, p3⟩] [⟨(.pr 9 (.pr 9 (.pr 9 (.pr 9 (.pr 9 0))))), T_api_State, r⟩] := by
  replace h := Leads.of h
  unfold factor_with at h
  refine acall_of func229 (by kernel_rfl) rfl (by kernel_rfl) fun w0 F0 hw0 => ?_
  refine W_seq ?_
  refine W_region mixed tys_ok (sup := []) (l := [(1, 0), (2, 0), (3, 0), (4, 0), (8, 9)]) (E' := [(1, .v 0 (.int .i64) p1), (2, .v 0 (.int .i64) p2), (3, .v 0 (.int .i64) p3), (4, .box 0 T_api_State p0), (8, .box 9 T_api_State (([] : List Bool), ([] : List D_api_Ticket), ([] : List D_api_Thread), ([] : List D_api_Lock), ([] : List Int), (0 : Int)))]) (obs := []) (by kernel_rfl) (trivial) ?_
  refine W_gen (x := (([] : List Bool), ([] : List D_api_Ticket), ([] : List D_api_Thread), ([] : List D_api_Lock), ([] : List Int), (0 : Int))) (En := fun x1 => [(1, .v 0 (.int .i64) p1), (2, .v 0 (.int .i64) p2), (3, .v 0 (.int .i64) p3), (4, .box 0 T_api_State p0), (8, .box 9 T_api_State x1)]) h (fun x1 h => ?_)
  refine W_seq ?_
  obtain ⟨y2, ey2, h⟩ := h.bind
  refine W_region mixed tys_ok (sup := [.res [(0, ⟨0, T_api_Thread, y2.1⟩), (0, ⟨0, .bool, y2.2⟩)]]) (l := [(1, 0), (2, 0), (3, 0), (4, 0), (8, 9), (9, 9), (10, 0)]) (E' := [(1, .v 0 (.int .i64) p1), (2, .v 0 (.int .i64) p2), (3, .v 0 (.int .i64) p3), (4, .box 0 T_api_State p0), (8, .box 9 T_api_State x1), (9, .box 9 T_api_Thread y2.1), (10, .v 0 .bool y2.2)]) (obs := [ACall prog 61 [⟨T_api_State, p0⟩, ⟨.int .i64, p1⟩] [⟨0, T_api_Thread, y2.1⟩, ⟨0, .bool, y2.2⟩]]) (by kernel_rfl) (state_Thread.ok ey2) ?_
  refine W_seq ?_
  refine W_seq ?_
  refine W_region mixed tys_ok (sup := []) (l := [(1, 0), (2, 0), (3, 0), (4, 0), (8, 9), (9, 9), (18, 0)]) (E' := [(1, .v 0 (.int .i64) p1), (2, .v 0 (.int .i64) p2), (3, .v 0 (.int .i64) p3), (4, .box 0 T_api_State p0), (8, .box 9 T_api_State x1), (9, .box 9 T_api_Thread y2.1), (18, .v 0 .bool (!y2.2))]) (obs := []) (by kernel_rfl) (trivial) ?_
  refine W_cond (β := !y2.2) (by kernel_rfl) (fun hb => ?_) (fun hb => ?_)
  · rw [cond_tt hb] at h
    refine W_seq ?_
    obtain ⟨y3, ey3, h⟩ := h.bind
    refine W_region mixed tys_ok (sup := [.res [((.pr 9 (.pr 9 (.pr 9 (.pr 9 (.pr 9 0))))), ⟨(.pr 9 (.pr 9 (.pr 9 (.pr 9 (.pr 9 0))))), T_api_State, y3⟩)]]) (l := [(8, (.pr 9 (.pr 9 (.pr 9 (.pr 9 (.pr 9 0))))))]) (E' := [(8, .box (.pr 9 (.pr 9 (.pr 9 (.pr 9 (.pr 9 0))))) T_api_State y3)]) (obs := [ACall prog 44 [⟨T_api_State, p0⟩] [⟨(.pr 9 (.pr 9 (.pr 9 (.pr 9 (.pr 9 0))))), T_api_State, y3⟩]]) (by kernel_rfl) (state_Copy.ok ey3) ?_
    refine W_keep (l := [(8, (.pr 9 (.pr 9 (.pr 9 (.pr 9 (.pr 9 0))))))]) (E' := [(8, .box (.pr 9 (.pr 9 (.pr 9 (.pr 9 (.pr 9 0))))) T_api_State y3)]) (by kernel_rfl) ?_
    replace h : y3 = r := h
    subst h
    exact W_ret tys_ok hw0 (by kernel_rfl) (by kernel_rfl)
  · rw [cond_ff hb] at h
    refine W_skip ?_
    refine W_seq ?_
    refine W_region mixed tys_ok (sup := []) (l := [(1, 0), (4, 0), (8, 9), (9, 9)]) (E' := [(1, .v 0 (.int .i64) p1), (4, .box 0 T_api_State p0), (8, .box 9 T_api_State x1), (9, .box 9 T_api_Thread (y2.1.1, y2.1.2.1, y2.1.2.2.1, p2, p3))]) (obs := []) (by kernel_rfl) (trivial) ?_
    refine W_gen (x := (y2.1.1, y2.1.2.1, y2.1.2.2.1, p2, p3)) (En := fun x4 => [(1, .v 0 (.int .i64) p1), (4, .box 0 T_api_State p0), (8, .box 9 T_api_State x1), (9, .box 9 T_api_Thread x4)]) h (fun x4 h => ?_)
    refine W_seq ?_
    obtain ⟨y5, ey5, h⟩ := h.bind
    refine W_region mixed tys_ok (sup := [.res [((.pr 9 (.pr 9 (.pr 9 (.pr 9 (.pr 9 0))))), ⟨(.pr 9 (.pr 9 (.pr 9 (.pr 9 (.pr 9 0))))), T_api_State, y5⟩)]]) (l := [(8, (.pr 9 (.pr 9 (.pr 9 (.pr 9 (.pr 9 0))))))]) (E' := [(8, .box (.pr 9 (.pr 9 (.pr 9 (.pr 9 (.pr 9 0))))) T_api_State y5)]) (obs := [ACall prog 54 [⟨T_api_State, p0⟩, ⟨.int .i64, p1⟩, ⟨T_api_Thread, x4⟩] [⟨(.pr 9 (.pr 9 (.pr 9 (.pr 9 (.pr 9 0))))), T_api_State, y5⟩]]) (by kernel_rfl) (state_PutThread.ok ey5) ?_
    refine W_keep (l := [(8, (.pr 9 (.pr 9 (.pr 9 (.pr 9 (.pr 9 0))))))]) (E' := [(8, .box (.pr 9 (.pr 9 (.pr 9 (.pr 9 (.pr 9 0))))) T_api_State y5)]) (by kernel_rfl) ?_
    replace h : y5 = r := h
    subst h
    exact W_ret tys_ok hw0 (by kernel_rfl) (by kernel_rfl)

noncomputable def factor_Give (p0 : D_api_State) (p1 : Int) (p2 : Int) : Option (D_api_State × Int) :=
  bnd ((([] : List Bool), ([] : List D_api_Ticket), ([] : List D_api_Thread), ([] : List D_api_Lock), ([] : List Int), (0 : Int))) fun x1 =>
  (state_Thread p0 p1).bind fun y2 =>
  bif !y2.2 then
    bnd ((([] : List Bool), ([] : List D_api_Ticket), ([] : List D_api_Thread), ([] : List D_api_Lock), ([] : List Int), (0 : Int))) fun x3 =>
    some (x3, (7 : Int))
  else
    (factor_Used p0.2.2.2.2.2 p2).bind fun y4 =>
    bif y4.2.2 != (0 : Int) then
      bnd ((([] : List Bool), ([] : List D_api_Ticket), ([] : List D_api_Thread), ([] : List D_api_Lock), ([] : List Int), (0 : Int))) fun x5 =>
      some (x5, y4.2.2)
    else
      (factor_with p0 p1 y4.1 y4.2.1).bind fun y6 =>
      some (y6, (0 : Int))
theorem factor_Give.ok {p0 : D_api_State} {p1 : Int} {p2 : Int} {r : D_api_State × Int} (h : factor_Give p0 p1 p2 = some r) : ACall prog 184 [⟨T_api_State, p0⟩, ⟨.int .i64, p1⟩, ⟨.int .i64, p2⟩] [⟨0, T_api_State, r.1⟩, ⟨0, .int .i64, r.2⟩] := by
  replace h := Leads.of h
  unfold factor_Give at h
  refine acall_of func184 (by kernel_rfl) rfl (by kernel_rfl) fun w0 F0 hw0 => ?_
  refine W_seq ?_
  refine W_region mixed tys_ok (sup := []) (l := [(1, 0), (2, 0), (3, 0), (6, 9)]) (E' := [(1, .v 0 (.int .i64) p1), (2, .v 0 (.int .i64) p2), (3, .box 0 T_api_State p0), (6, .box 9 T_api_State (([] : List Bool), ([] : List D_api_Ticket), ([] : List D_api_Thread), ([] : List D_api_Lock), ([] : List Int), (0 : Int)))]) (obs := []) (by kernel_rfl) (trivial) ?_
  refine W_gen (x := (([] : List Bool), ([] : List D_api_Ticket), ([] : List D_api_Thread), ([] : List D_api_Lock), ([] : List Int), (0 : Int))) (En := fun x1 => [(1, .v 0 (.int .i64) p1), (2, .v 0 (.int .i64) p2), (3, .box 0 T_api_State p0), (6, .box 9 T_api_State x1)]) h (fun x1 h => ?_)
  refine W_seq ?_
  refine W_seq ?_
  obtain ⟨y2, ey2, h⟩ := h.bind
  refine W_region mixed tys_ok (sup := [.res [(0, ⟨0, T_api_Thread, y2.1⟩), (0, ⟨0, .bool, y2.2⟩)]]) (l := [(1, 0), (2, 0), (3, 0), (6, 9), (9, 0)]) (E' := [(1, .v 0 (.int .i64) p1), (2, .v 0 (.int .i64) p2), (3, .box 0 T_api_State p0), (6, .box 9 T_api_State x1), (9, .v 0 .bool y2.2)]) (obs := [ACall prog 61 [⟨T_api_State, p0⟩, ⟨.int .i64, p1⟩] [⟨0, T_api_Thread, y2.1⟩, ⟨0, .bool, y2.2⟩]]) (by kernel_rfl) (state_Thread.ok ey2) ?_
  refine W_seq ?_
  refine W_region mixed tys_ok (sup := []) (l := [(1, 0), (2, 0), (3, 0), (6, 9), (19, 0)]) (E' := [(1, .v 0 (.int .i64) p1), (2, .v 0 (.int .i64) p2), (3, .box 0 T_api_State p0), (6, .box 9 T_api_State x1), (19, .v 0 .bool (!y2.2))]) (obs := []) (by kernel_rfl) (trivial) ?_
  refine W_cond (β := !y2.2) (by kernel_rfl) (fun hb => ?_) (fun hb => ?_)
  · rw [cond_tt hb] at h
    refine W_seq ?_
    refine W_region mixed tys_ok (sup := []) (l := [(6, 0), (7, 0)]) (E' := [(6, .box 0 T_api_State (([] : List Bool), ([] : List D_api_Ticket), ([] : List D_api_Thread), ([] : List D_api_Lock), ([] : List Int), (0 : Int))), (7, .v 0 (.int .i64) (7 : Int))]) (obs := []) (by kernel_rfl) (trivial) ?_
    refine W_gen (x := (([] : List Bool), ([] : List D_api_Ticket), ([] : List D_api_Thread), ([] : List D_api_Lock), ([] : List Int), (0 : Int))) (En := fun x3 => [(6, .box 0 T_api_State x3), (7, .v 0 (.int .i64) (7 : Int))]) h (fun x3 h => ?_)
    refine W_keep (l := [(6, 0), (7, 0)]) (E' := [(6, .box 0 T_api_State x3), (7, .v 0 (.int .i64) (7 : Int))]) (by kernel_rfl) ?_
    replace h : ((x3, (7 : Int))) = r := h
    subst h
    exact W_ret tys_ok hw0 (by kernel_rfl) (by kernel_rfl)
  · rw [cond_ff hb] at h
    refine W_skip ?_
    refine W_seq ?_
    obtain ⟨y4, ey4, h⟩ := h.bind
    refine W_region mixed tys_ok (sup := [.res [(0, ⟨0, .int .i64, y4.1⟩), (0, ⟨0, .int .i64, y4.2.1⟩), (0, ⟨0, .int .i64, y4.2.2⟩)]]) (l := [(1, 0), (2, 0), (3, 0), (6, 9), (10, 0), (11, 0)]) (E' := [(1, .v 0 (.int .i64) p1), (2, .v 0 (.int .i64) y4.2.1), (3, .box 0 T_api_State p0), (6, .box 9 T_api_State x1), (10, .v 0 (.int .i64) y4.1), (11, .v 0 (.int .i64) y4.2.2)]) (obs := [ACall prog 228 [⟨.int .i64, p0.2.2.2.2.2⟩, ⟨.int .i64, p2⟩] [⟨0, .int .i64, y4.1⟩, ⟨0, .int .i64, y4.2.1⟩, ⟨0, .int .i64, y4.2.2⟩]]) (by kernel_rfl) (factor_Used.ok ey4) ?_
    refine W_seq ?_
    refine W_seq ?_
    refine W_region mixed tys_ok (sup := []) (l := [(1, 0), (2, 0), (3, 0), (6, 9), (10, 0), (11, 0), (30, 0)]) (E' := [(1, .v 0 (.int .i64) p1), (2, .v 0 (.int .i64) y4.2.1), (3, .box 0 T_api_State p0), (6, .box 9 T_api_State x1), (10, .v 0 (.int .i64) y4.1), (11, .v 0 (.int .i64) y4.2.2), (30, .v 0 .bool (y4.2.2 != (0 : Int)))]) (obs := []) (by kernel_rfl) (trivial) ?_
    refine W_cond (β := y4.2.2 != (0 : Int)) (by kernel_rfl) (fun hb => ?_) (fun hb => ?_)
    · rw [cond_tt hb] at h
      refine W_seq ?_
      refine W_region mixed tys_ok (sup := []) (l := [(6, 0), (7, 0)]) (E' := [(6, .box 0 T_api_State (([] : List Bool), ([] : List D_api_Ticket), ([] : List D_api_Thread), ([] : List D_api_Lock), ([] : List Int), (0 : Int))), (7, .v 0 (.int .i64) y4.2.2)]) (obs := []) (by kernel_rfl) (trivial) ?_
      refine W_gen (x := (([] : List Bool), ([] : List D_api_Ticket), ([] : List D_api_Thread), ([] : List D_api_Lock), ([] : List Int), (0 : Int))) (En := fun x5 => [(6, .box 0 T_api_State x5), (7, .v 0 (.int .i64) y4.2.2)]) h (fun x5 h => ?_)
      refine W_keep (l := [(6, 0), (7, 0)]) (E' := [(6, .box 0 T_api_State x5), (7, .v 0 (.int .i64) y4.2.2)]) (by kernel_rfl) ?_
      replace h : ((x5, y4.2.2)) = r := h
      subst h
      exact W_ret tys_ok hw0 (by kernel_rfl) (by kernel_rfl)
    · rw [cond_ff hb] at h
      refine W_skip ?_
      refine W_seq ?_
      obtain ⟨y6, ey6, h⟩ := h.bind
      refine W_region mixed tys_ok (sup := [.res [((.pr 9 (.pr 9 (.pr 9 (.pr 9 (.pr 9 0))))), ⟨(.pr 9 (.pr 9 (.pr 9 (.pr 9 (.pr 9 0))))), T_api_State, y6⟩)]]) (l := [(6, (.pr 9 (.pr 9 (.pr 9 (.pr 9 (.pr 9 0)))))), (7, 0)]) (E' := [(6, .box (.pr 9 (.pr 9 (.pr 9 (.pr 9 (.pr 9 0))))) T_api_State y6), (7, .v 0 (.int .i64) (0 : Int))]) (obs := [ACall prog 229 [⟨T_api_State, p0⟩, ⟨.int .i64, p1⟩, ⟨.int .i64, y4.1⟩, ⟨.int .i64, y4.2.1⟩] [⟨(.pr 9 (.pr 9 (.pr 9 (.pr 9 (.pr 9 0))))), T_api_State, y6⟩]]) (by kernel_rfl) (factor_with.ok ey6) ?_
      refine W_keep (l := [(6, 0), (7, 0)]) (E' := [(6, .box 0 T_api_State y6), (7, .v 0 (.int .i64) (0 : Int))]) (by kernel_rfl) ?_
      replace h : ((y6, (0 : Int))) = r := h
      subst h
      exact W_ret tys_ok hw0 (by kernel_rfl) (by kernel_rfl)

end Go.Tom
