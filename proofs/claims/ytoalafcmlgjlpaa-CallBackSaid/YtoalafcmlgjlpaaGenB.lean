/- Each function of the program as a pure one, and the proof that the code keeps that contract. -/
import Derived.Test.YtoalafcmlgjlpaaGenA
set_option linter.unusedVariables false
set_option linter.constructorNameAsVariable false
set_option maxRecDepth 100000
namespace Go.Tom
open Go Go.Proofs.Try
noncomputable def turn_Leave (p0 : D_api_State) (p1 : Int) (p2 : D_api_Thread) : Option (D_api_State × D_api_Reply) :=
  bnd ((([] : List Bool), ([] : List D_api_Ticket), ([] : List D_api_Thread), ([] : List D_api_Lock), ([] : List Int), (0 : Int))) fun x1 =>
  bnd (((0 : Int), (0 : Int))) fun x2 =>
  (spawn_Running p0).bind fun y3 =>
  bif decide (y3 < (0 : Int)) then
    (turn_no p0 (16 : Int)).bind fun y4 =>
    some (y4.1, y4.2)
  else
    (factor_Give p0 y3 p1).bind fun y5 =>
    bif y5.2 != (0 : Int) then
      (turn_no p0 y5.2).bind fun y6 =>
      some (y6.1, y6.2)
    else
      (state_Thread y5.1 y3).bind fun y7 =>
      bnd ((p2.1, p2.2.1, y7.1.2.2)) fun x8 =>
      (state_PutThread y5.1 y3 x8).bind fun y9 =>
      bnd (((0 : Int), y3)) fun x10 =>
      some (y9, x10)
theorem turn_Leave.ok {p0 : D_api_State} {p1 : Int} {p2 : D_api_Thread} {r : D_api_State × D_api_Reply} (h : turn_Leave p0 p1 p2 = some r) : ACall prog 89 [⟨T_api_State, p0⟩, ⟨.int .i64, p1⟩, ⟨T_api_Thread, p2⟩] [⟨(.pr 9 (.pr 9 (.pr 9 (.pr 9 (.pr 9 0))))), T_api_State, r.1⟩, ⟨0, T_api_Reply, r.2⟩] := by
  replace h := Leads.of h
  unfold turn_Leave at h
  refine acall_of func89 (by kernel_rfl) rfl (by kernel_rfl) fun w0 F0 hw0 => ?_
  refine W_seq ?_
  refine W_region mixed tys_ok (sup := []) (l := [(1, 0), (3, 0), (5, 9), (6, 9), (7, 9)]) (E' := [(1, .v 0 (.int .i64) p1), (3, .box 0 T_api_State p0), (5, .box 9 T_api_Thread p2), (6, .box 9 T_api_State (([] : List Bool), ([] : List D_api_Ticket), ([] : List D_api_Thread), ([] : List D_api_Lock), ([] : List Int), (0 : Int))), (7, .box 9 T_api_Reply ((0 : Int), (0 : Int)))]) (obs := []) (by kernel_rfl) (trivial) ?_
  refine W_gen (x := (([] : List Bool), ([] : List D_api_Ticket), ([] : List D_api_Thread), ([] : List D_api_Lock), ([] : List Int), (0 : Int))) (En := fun x1 => [(1, .v 0 (.int .i64) p1), (3, .box 0 T_api_State p0), (5, .box 9 T_api_Thread p2), (6, .box 9 T_api_State x1), (7, .box 9 T_api_Reply ((0 : Int), (0 : Int)))]) h (fun x1 h => ?_)
  refine W_gen (x := ((0 : Int), (0 : Int))) (En := fun x2 => [(1, .v 0 (.int .i64) p1), (3, .box 0 T_api_State p0), (5, .box 9 T_api_Thread p2), (6, .box 9 T_api_State x1), (7, .box 9 T_api_Reply x2)]) h (fun x2 h => ?_)
  refine W_seq ?_
  obtain ⟨y3, ey3, h⟩ := h.bind
  refine W_region mixed tys_ok (sup := [.res [(0, ⟨0, .int .i64, y3⟩)]]) (l := [(1, 0), (3, 0), (5, 9), (6, 9), (7, 9), (8, 0)]) (E' := [(1, .v 0 (.int .i64) p1), (3, .box 0 T_api_State p0), (5, .box 9 T_api_Thread p2), (6, .box 9 T_api_State x1), (7, .box 9 T_api_Reply x2), (8, .v 0 (.int .i64) y3)]) (obs := [ACall prog 85 [⟨T_api_State, p0⟩] [⟨0, .int .i64, y3⟩]]) (by kernel_rfl) (spawn_Running.ok ey3) ?_
  refine W_seq ?_
  refine W_seq ?_
  refine W_region mixed tys_ok (sup := []) (l := [(1, 0), (3, 0), (5, 9), (6, 9), (7, 9), (8, 0), (16, 0)]) (E' := [(1, .v 0 (.int .i64) p1), (3, .box 0 T_api_State p0), (5, .box 9 T_api_Thread p2), (6, .box 9 T_api_State x1), (7, .box 9 T_api_Reply x2), (8, .v 0 (.int .i64) y3), (16, .v 0 .bool (decide (y3 < (0 : Int))))]) (obs := []) (by kernel_rfl) (trivial) ?_
  refine W_cond (β := decide (y3 < (0 : Int))) (by kernel_rfl) (fun hb => ?_) (fun hb => ?_)
  · rw [cond_tt hb] at h
    refine W_seq ?_
    obtain ⟨y4, ey4, h⟩ := h.bind
    refine W_region mixed tys_ok (sup := [.res [((.pr 9 (.pr 9 (.pr 9 (.pr 9 (.pr 9 0))))), ⟨(.pr 9 (.pr 9 (.pr 9 (.pr 9 (.pr 9 0))))), T_api_State, y4.1⟩), (0, ⟨0, T_api_Reply, y4.2⟩)]]) (l := [(6, (.pr 9 (.pr 9 (.pr 9 (.pr 9 (.pr 9 0)))))), (7, 9)]) (E' := [(6, .box (.pr 9 (.pr 9 (.pr 9 (.pr 9 (.pr 9 0))))) T_api_State y4.1), (7, .box 9 T_api_Reply y4.2)]) (obs := [ACall prog 183 [⟨T_api_State, p0⟩, ⟨.int .i64, (16 : Int)⟩] [⟨(.pr 9 (.pr 9 (.pr 9 (.pr 9 (.pr 9 0))))), T_api_State, y4.1⟩, ⟨0, T_api_Reply, y4.2⟩]]) (by kernel_rfl) (turn_no.ok ey4) ?_
    refine W_keep (l := [(6, (.pr 9 (.pr 9 (.pr 9 (.pr 9 (.pr 9 0)))))), (7, 0)]) (E' := [(6, .box (.pr 9 (.pr 9 (.pr 9 (.pr 9 (.pr 9 0))))) T_api_State y4.1), (7, .box 0 T_api_Reply y4.2)]) (by kernel_rfl) ?_
    replace h : ((y4.1, y4.2)) = r := h
    subst h
    exact W_ret tys_ok hw0 (by kernel_rfl) (by kernel_rfl)
  · rw [cond_ff hb] at h
    refine W_skip ?_
    refine W_seq ?_
    obtain ⟨y5, ey5, h⟩ := h.bind
    refine W_region mixed tys_ok (sup := [.res [(0, ⟨0, T_api_State, y5.1⟩), (0, ⟨0, .int .i64, y5.2⟩)]]) (l := [(3, 0), (5, 9), (6, 9), (7, 9), (8, 0), (9, 0), (10, 0)]) (E' := [(3, .box 0 T_api_State p0), (5, .box 9 T_api_Thread p2), (6, .box 9 T_api_State x1), (7, .box 9 T_api_Reply x2), (8, .v 0 (.int .i64) y3), (9, .box 0 T_api_State y5.1), (10, .v 0 (.int .i64) y5.2)]) (obs := [ACall prog 184 [⟨T_api_State, p0⟩, ⟨.int .i64, y3⟩, ⟨.int .i64, p1⟩] [⟨0, T_api_State, y5.1⟩, ⟨0, .int .i64, y5.2⟩]]) (by kernel_rfl) (factor_Give.ok ey5) ?_
    refine W_seq ?_
    refine W_seq ?_
    refine W_region mixed tys_ok (sup := []) (l := [(3, 0), (5, 9), (6, 9), (7, 9), (8, 0), (9, 0), (10, 0), (29, 0)]) (E' := [(3, .box 0 T_api_State p0), (5, .box 9 T_api_Thread p2), (6, .box 9 T_api_State x1), (7, .box 9 T_api_Reply x2), (8, .v 0 (.int .i64) y3), (9, .box 0 T_api_State y5.1), (10, .v 0 (.int .i64) y5.2), (29, .v 0 .bool (y5.2 != (0 : Int)))]) (obs := []) (by kernel_rfl) (trivial) ?_
    refine W_cond (β := y5.2 != (0 : Int)) (by kernel_rfl) (fun hb => ?_) (fun hb => ?_)
    · rw [cond_tt hb] at h
      refine W_seq ?_
      obtain ⟨y6, ey6, h⟩ := h.bind
      refine W_region mixed tys_ok (sup := [.res [((.pr 9 (.pr 9 (.pr 9 (.pr 9 (.pr 9 0))))), ⟨(.pr 9 (.pr 9 (.pr 9 (.pr 9 (.pr 9 0))))), T_api_State, y6.1⟩), (0, ⟨0, T_api_Reply, y6.2⟩)]]) (l := [(6, (.pr 9 (.pr 9 (.pr 9 (.pr 9 (.pr 9 0)))))), (7, 9)]) (E' := [(6, .box (.pr 9 (.pr 9 (.pr 9 (.pr 9 (.pr 9 0))))) T_api_State y6.1), (7, .box 9 T_api_Reply y6.2)]) (obs := [ACall prog 183 [⟨T_api_State, p0⟩, ⟨.int .i64, y5.2⟩] [⟨(.pr 9 (.pr 9 (.pr 9 (.pr 9 (.pr 9 0))))), T_api_State, y6.1⟩, ⟨0, T_api_Reply, y6.2⟩]]) (by kernel_rfl) (turn_no.ok ey6) ?_
      refine W_keep (l := [(6, (.pr 9 (.pr 9 (.pr 9 (.pr 9 (.pr 9 0)))))), (7, 0)]) (E' := [(6, .box (.pr 9 (.pr 9 (.pr 9 (.pr 9 (.pr 9 0))))) T_api_State y6.1), (7, .box 0 T_api_Reply y6.2)]) (by kernel_rfl) ?_
      replace h : ((y6.1, y6.2)) = r := h
      subst h
      exact W_ret tys_ok hw0 (by kernel_rfl) (by kernel_rfl)
    · rw [cond_ff hb] at h
      refine W_skip ?_
      refine W_seq ?_
      obtain ⟨y7, ey7, h⟩ := h.bind
      refine W_region mixed tys_ok (sup := [.res [(0, ⟨0, T_api_Thread, y7.1⟩), (0, ⟨0, .bool, y7.2⟩)]]) (l := [(5, 9), (6, 9), (7, 9), (8, 0), (9, 0), (11, 9)]) (E' := [(5, .box 9 T_api_Thread p2), (6, .box 9 T_api_State x1), (7, .box 9 T_api_Reply x2), (8, .v 0 (.int .i64) y3), (9, .box 0 T_api_State y5.1), (11, .box 9 T_api_Thread y7.1)]) (obs := [ACall prog 61 [⟨T_api_State, y5.1⟩, ⟨.int .i64, y3⟩] [⟨0, T_api_Thread, y7.1⟩, ⟨0, .bool, y7.2⟩]]) (by kernel_rfl) (state_Thread.ok ey7) ?_
      refine W_seq ?_
      refine W_regionL mixed tys_ok (sup := []) (l := [(6, 9), (7, 9), (8, 0), (9, 0), (11, 9)]) (E' := [(6, .box 9 T_api_State x1), (7, .box 9 T_api_Reply x2), (8, .v 0 (.int .i64) y3), (9, .box 0 T_api_State y5.1), (11, .box 9 T_api_Thread (p2.1, p2.2.1, y7.1.2.2))]) (obs := [(⟨.int .i64, p2.2.1⟩ : TV) = ⟨.int .i64, p2.2.1⟩]) (by kernel_rfl) (rfl) ?_
      refine W_gen (x := (p2.1, p2.2.1, y7.1.2.2)) (En := fun x8 => [(6, .box 9 T_api_State x1), (7, .box 9 T_api_Reply x2), (8, .v 0 (.int .i64) y3), (9, .box 0 T_api_State y5.1), (11, .box 9 T_api_Thread x8)]) h (fun x8 h => ?_)
      refine W_seq ?_
      obtain ⟨y9, ey9, h⟩ := h.bind
      refine W_region mixed tys_ok (sup := [.res [((.pr 9 (.pr 9 (.pr 9 (.pr 9 (.pr 9 0))))), ⟨(.pr 9 (.pr 9 (.pr 9 (.pr 9 (.pr 9 0))))), T_api_State, y9⟩)]]) (l := [(6, (.pr 9 (.pr 9 (.pr 9 (.pr 9 (.pr 9 0)))))), (7, 9)]) (E' := [(6, .box (.pr 9 (.pr 9 (.pr 9 (.pr 9 (.pr 9 0))))) T_api_State y9), (7, .box 9 T_api_Reply ((0 : Int), y3))]) (obs := [ACall prog 54 [⟨T_api_State, y5.1⟩, ⟨.int .i64, y3⟩, ⟨T_api_Thread, x8⟩] [⟨(.pr 9 (.pr 9 (.pr 9 (.pr 9 (.pr 9 0))))), T_api_State, y9⟩]]) (by kernel_rfl) (state_PutThread.ok ey9) ?_
      refine W_gen (x := ((0 : Int), y3)) (En := fun x10 => [(6, .box (.pr 9 (.pr 9 (.pr 9 (.pr 9 (.pr 9 0))))) T_api_State y9), (7, .box 9 T_api_Reply x10)]) h (fun x10 h => ?_)
      refine W_keep (l := [(6, (.pr 9 (.pr 9 (.pr 9 (.pr 9 (.pr 9 0)))))), (7, 0)]) (E' := [(6, .box (.pr 9 (.pr 9 (.pr 9 (.pr 9 (.pr 9 0))))) T_api_State y9), (7, .box 0 T_api_Reply x10)]) (by kernel_rfl) ?_
      replace h : ((y9, x10)) = r := h
      subst h
      exact W_ret tys_ok hw0 (by kernel_rfl) (by kernel_rfl)

noncomputable def call_Call (p0 : D_api_State) (p1 : Int) (p2 : Int) : Option (D_api_State × D_api_Reply) :=
  bnd ((([] : List Bool), ([] : List D_api_Ticket), ([] : List D_api_Thread), ([] : List D_api_Lock), ([] : List Int), (0 : Int))) fun x1 =>
  bnd (((0 : Int), (0 : Int))) fun x2 =>
  (spawn_Running p0).bind fun y3 =>
  (state_Thread p0 p1).bind fun y4 =>
  bif decide (y3 < (0 : Int)) then
    (call_no p0 (16 : Int)).bind fun y5 =>
    some (y5.1, y5.2)
  else
    bif !y4.2 then
      (call_no p0 (7 : Int)).bind fun y6 =>
      some (y6.1, y6.2)
    else
      (call_within p0 p2).bind fun y7 =>
      bif !y7 then
        (call_no p0 (6 : Int)).bind fun y8 =>
        some (y8.1, y8.2)
      else
        (chain_Closes p0 y3 p1).bind fun y9 =>
        bif y9 then
          (call_no p0 (13 : Int)).bind fun y10 =>
          some (y10.1, y10.2)
        else
          (turn_Leave p0 p2 ((4 : Int), p1, (0 : Int), (0 : Int), (0 : Int))).bind fun y11 =>
          bif y4.1.1 != (5 : Int) then
            ass (((y11.1.2.2.2.2.1.length + [y3].length : Nat) : Int) ≤ limA) <|
            bnd ((y11.1.1, y11.1.2.1, y11.1.2.2.1, y11.1.2.2.2.1, y11.1.2.2.2.2.1 ++ [y3], y11.1.2.2.2.2.2)) fun x12 =>
            bnd (((0 : Int), (0 : Int))) fun x13 =>
            some (x12, x13)
          else
            bnd (((2 : Int), y4.1.2.1, y3, y4.1.2.2.2)) fun x14 =>
            (state_PutThread y11.1 p1 x14).bind fun y15 =>
            bnd (((0 : Int), (1 : Int))) fun x16 =>
            some (y15, x16)
theorem call_Call.ok {p0 : D_api_State} {p1 : Int} {p2 : Int} {r : D_api_State × D_api_Reply} (h : call_Call p0 p1 p2 = some r) : ACall prog 16 [⟨T_api_State, p0⟩, ⟨.int .i64, p1⟩, ⟨.int .i64, p2⟩] [⟨(.pr 9 (.pr 9 (.pr 9 (.pr 9 (.pr 9 0))))), T_api_State, r.1⟩, ⟨0, T_api_Reply, r.2⟩] := by
  replace h := Leads.of h
  unfold call_Call at h
  refine acall_of func16 (by kernel_rfl) rfl (by kernel_rfl) fun w0 F0 hw0 => ?_
  refine W_seq ?_
  refine W_region mixed tys_ok (sup := []) (l := [(1, 0), (2, 0), (3, 0), (6, 9), (7, 9)]) (E' := [(1, .v 0 (.int .i64) p1), (2, .v 0 (.int .i64) p2), (3, .box 0 T_api_State p0), (6, .box 9 T_api_State (([] : List Bool), ([] : List D_api_Ticket), ([] : List D_api_Thread), ([] : List D_api_Lock), ([] : List Int), (0 : Int))), (7, .box 9 T_api_Reply ((0 : Int), (0 : Int)))]) (obs := []) (by kernel_rfl) (trivial) ?_
  refine W_gen (x := (([] : List Bool), ([] : List D_api_Ticket), ([] : List D_api_Thread), ([] : List D_api_Lock), ([] : List Int), (0 : Int))) (En := fun x1 => [(1, .v 0 (.int .i64) p1), (2, .v 0 (.int .i64) p2), (3, .box 0 T_api_State p0), (6, .box 9 T_api_State x1), (7, .box 9 T_api_Reply ((0 : Int), (0 : Int)))]) h (fun x1 h => ?_)
  refine W_gen (x := ((0 : Int), (0 : Int))) (En := fun x2 => [(1, .v 0 (.int .i64) p1), (2, .v 0 (.int .i64) p2), (3, .box 0 T_api_State p0), (6, .box 9 T_api_State x1), (7, .box 9 T_api_Reply x2)]) h (fun x2 h => ?_)
  refine W_seq ?_
  obtain ⟨y3, ey3, h⟩ := h.bind
  refine W_region mixed tys_ok (sup := [.res [(0, ⟨0, .int .i64, y3⟩)]]) (l := [(1, 0), (2, 0), (3, 0), (6, 9), (7, 9), (8, 0)]) (E' := [(1, .v 0 (.int .i64) p1), (2, .v 0 (.int .i64) p2), (3, .box 0 T_api_State p0), (6, .box 9 T_api_State x1), (7, .box 9 T_api_Reply x2), (8, .v 0 (.int .i64) y3)]) (obs := [ACall prog 85 [⟨T_api_State, p0⟩] [⟨0, .int .i64, y3⟩]]) (by kernel_rfl) (spawn_Running.ok ey3) ?_
  refine W_seq ?_
  obtain ⟨y4, ey4, h⟩ := h.bind
  refine W_region mixed tys_ok (sup := [.res [(0, ⟨0, T_api_Thread, y4.1⟩), (0, ⟨0, .bool, y4.2⟩)]]) (l := [(1, 0), (2, 0), (3, 0), (6, 9), (7, 9), (8, 0), (9, 9), (10, 0)]) (E' := [(1, .v 0 (.int .i64) p1), (2, .v 0 (.int .i64) p2), (3, .box 0 T_api_State p0), (6, .box 9 T_api_State x1), (7, .box 9 T_api_Reply x2), (8, .v 0 (.int .i64) y3), (9, .box 9 T_api_Thread y4.1), (10, .v 0 .bool y4.2)]) (obs := [ACall prog 61 [⟨T_api_State, p0⟩, ⟨.int .i64, p1⟩] [⟨0, T_api_Thread, y4.1⟩, ⟨0, .bool, y4.2⟩]]) (by kernel_rfl) (state_Thread.ok ey4) ?_
  refine W_seq ?_
  refine W_block ?_
  refine W_seq ?_
  refine W_region mixed tys_ok (sup := []) (l := [(1, 0), (2, 0), (3, 0), (6, 9), (7, 9), (8, 0), (9, 9), (10, 0), (21, 0)]) (E' := [(1, .v 0 (.int .i64) p1), (2, .v 0 (.int .i64) p2), (3, .box 0 T_api_State p0), (6, .box 9 T_api_State x1), (7, .box 9 T_api_Reply x2), (8, .v 0 (.int .i64) y3), (9, .box 9 T_api_Thread y4.1), (10, .v 0 .bool y4.2), (21, .v 0 .bool (decide (y3 < (0 : Int))))]) (obs := []) (by kernel_rfl) (trivial) ?_
  refine W_cond (β := decide (y3 < (0 : Int))) (by kernel_rfl) (fun hb => ?_) (fun hb => ?_)
  · rw [cond_tt hb] at h
    refine W_seq ?_
    obtain ⟨y5, ey5, h⟩ := h.bind
    refine W_region mixed tys_ok (sup := [.res [((.pr 9 (.pr 9 (.pr 9 (.pr 9 (.pr 9 0))))), ⟨(.pr 9 (.pr 9 (.pr 9 (.pr 9 (.pr 9 0))))), T_api_State, y5.1⟩), (0, ⟨0, T_api_Reply, y5.2⟩)]]) (l := [(6, (.pr 9 (.pr 9 (.pr 9 (.pr 9 (.pr 9 0)))))), (7, 9)]) (E' := [(6, .box (.pr 9 (.pr 9 (.pr 9 (.pr 9 (.pr 9 0))))) T_api_State y5.1), (7, .box 9 T_api_Reply y5.2)]) (obs := [ACall prog 86 [⟨T_api_State, p0⟩, ⟨.int .i64, (16 : Int)⟩] [⟨(.pr 9 (.pr 9 (.pr 9 (.pr 9 (.pr 9 0))))), T_api_State, y5.1⟩, ⟨0, T_api_Reply, y5.2⟩]]) (by kernel_rfl) (call_no.ok ey5) ?_
    refine W_keep (l := [(6, (.pr 9 (.pr 9 (.pr 9 (.pr 9 (.pr 9 0)))))), (7, 0)]) (E' := [(6, .box (.pr 9 (.pr 9 (.pr 9 (.pr 9 (.pr 9 0))))) T_api_State y5.1), (7, .box 0 T_api_Reply y5.2)]) (by kernel_rfl) ?_
    replace h : ((y5.1, y5.2)) = r := h
    subst h
    exact W_ret tys_ok hw0 (by kernel_rfl) (by kernel_rfl)
  · rw [cond_ff hb] at h
    refine W_seq ?_
    refine W_region mixed tys_ok (sup := []) (l := [(1, 0), (2, 0), (3, 0), (6, 9), (7, 9), (8, 0), (9, 9), (28, 0)]) (E' := [(1, .v 0 (.int .i64) p1), (2, .v 0 (.int .i64) p2), (3, .box 0 T_api_State p0), (6, .box 9 T_api_State x1), (7, .box 9 T_api_Reply x2), (8, .v 0 (.int .i64) y3), (9, .box 9 T_api_Thread y4.1), (28, .v 0 .bool (!y4.2))]) (obs := []) (by kernel_rfl) (trivial) ?_
    refine W_cond (β := !y4.2) (by kernel_rfl) (fun hb => ?_) (fun hb => ?_)
    · rw [cond_tt hb] at h
      refine W_seq ?_
      obtain ⟨y6, ey6, h⟩ := h.bind
      refine W_region mixed tys_ok (sup := [.res [((.pr 9 (.pr 9 (.pr 9 (.pr 9 (.pr 9 0))))), ⟨(.pr 9 (.pr 9 (.pr 9 (.pr 9 (.pr 9 0))))), T_api_State, y6.1⟩), (0, ⟨0, T_api_Reply, y6.2⟩)]]) (l := [(6, (.pr 9 (.pr 9 (.pr 9 (.pr 9 (.pr 9 0)))))), (7, 9)]) (E' := [(6, .box (.pr 9 (.pr 9 (.pr 9 (.pr 9 (.pr 9 0))))) T_api_State y6.1), (7, .box 9 T_api_Reply y6.2)]) (obs := [ACall prog 86 [⟨T_api_State, p0⟩, ⟨.int .i64, (7 : Int)⟩] [⟨(.pr 9 (.pr 9 (.pr 9 (.pr 9 (.pr 9 0))))), T_api_State, y6.1⟩, ⟨0, T_api_Reply, y6.2⟩]]) (by kernel_rfl) (call_no.ok ey6) ?_
      refine W_keep (l := [(6, (.pr 9 (.pr 9 (.pr 9 (.pr 9 (.pr 9 0)))))), (7, 0)]) (E' := [(6, .box (.pr 9 (.pr 9 (.pr 9 (.pr 9 (.pr 9 0))))) T_api_State y6.1), (7, .box 0 T_api_Reply y6.2)]) (by kernel_rfl) ?_
      replace h : ((y6.1, y6.2)) = r := h
      subst h
      exact W_ret tys_ok hw0 (by kernel_rfl) (by kernel_rfl)
    · rw [cond_ff hb] at h
      refine W_seq ?_
      obtain ⟨y7, ey7, h⟩ := h.bind
      refine W_region mixed tys_ok (sup := [.res [(0, ⟨0, .bool, y7⟩)]]) (l := [(1, 0), (2, 0), (3, 0), (6, 9), (7, 9), (8, 0), (9, 9), (35, 0)]) (E' := [(1, .v 0 (.int .i64) p1), (2, .v 0 (.int .i64) p2), (3, .box 0 T_api_State p0), (6, .box 9 T_api_State x1), (7, .box 9 T_api_Reply x2), (8, .v 0 (.int .i64) y3), (9, .box 9 T_api_Thread y4.1), (35, .v 0 .bool (!y7))]) (obs := [ACall prog 87 [⟨T_api_State, p0⟩, ⟨.int .i64, p2⟩] [⟨0, .bool, y7⟩]]) (by kernel_rfl) (call_within.ok ey7) ?_
      refine W_cond (β := !y7) (by kernel_rfl) (fun hb => ?_) (fun hb => ?_)
      · rw [cond_tt hb] at h
        refine W_seq ?_
        obtain ⟨y8, ey8, h⟩ := h.bind
        refine W_region mixed tys_ok (sup := [.res [((.pr 9 (.pr 9 (.pr 9 (.pr 9 (.pr 9 0))))), ⟨(.pr 9 (.pr 9 (.pr 9 (.pr 9 (.pr 9 0))))), T_api_State, y8.1⟩), (0, ⟨0, T_api_Reply, y8.2⟩)]]) (l := [(6, (.pr 9 (.pr 9 (.pr 9 (.pr 9 (.pr 9 0)))))), (7, 9)]) (E' := [(6, .box (.pr 9 (.pr 9 (.pr 9 (.pr 9 (.pr 9 0))))) T_api_State y8.1), (7, .box 9 T_api_Reply y8.2)]) (obs := [ACall prog 86 [⟨T_api_State, p0⟩, ⟨.int .i64, (6 : Int)⟩] [⟨(.pr 9 (.pr 9 (.pr 9 (.pr 9 (.pr 9 0))))), T_api_State, y8.1⟩, ⟨0, T_api_Reply, y8.2⟩]]) (by kernel_rfl) (call_no.ok ey8) ?_
        refine W_keep (l := [(6, (.pr 9 (.pr 9 (.pr 9 (.pr 9 (.pr 9 0)))))), (7, 0)]) (E' := [(6, .box (.pr 9 (.pr 9 (.pr 9 (.pr 9 (.pr 9 0))))) T_api_State y8.1), (7, .box 0 T_api_Reply y8.2)]) (by kernel_rfl) ?_
        replace h : ((y8.1, y8.2)) = r := h
        subst h
        exact W_ret tys_ok hw0 (by kernel_rfl) (by kernel_rfl)
      · rw [cond_ff hb] at h
        refine W_seq ?_
        obtain ⟨y9, ey9, h⟩ := h.bind
        refine W_region mixed tys_ok (sup := [.res [(0, ⟨0, .bool, y9⟩)]]) (l := [(1, 0), (2, 0), (3, 0), (6, 9), (7, 9), (8, 0), (9, 9), (44, 0)]) (E' := [(1, .v 0 (.int .i64) p1), (2, .v 0 (.int .i64) p2), (3, .box 0 T_api_State p0), (6, .box 9 T_api_State x1), (7, .box 9 T_api_Reply x2), (8, .v 0 (.int .i64) y3), (9, .box 9 T_api_Thread y4.1), (44, .v 0 .bool y9)]) (obs := [ACall prog 88 [⟨T_api_State, p0⟩, ⟨.int .i64, y3⟩, ⟨.int .i64, p1⟩] [⟨0, .bool, y9⟩]]) (by kernel_rfl) (chain_Closes.ok ey9) ?_
        refine W_cond (β := y9) (by kernel_rfl) (fun hb => ?_) (fun hb => ?_)
        · rw [cond_tt hb] at h
          refine W_seq ?_
          obtain ⟨y10, ey10, h⟩ := h.bind
          refine W_region mixed tys_ok (sup := [.res [((.pr 9 (.pr 9 (.pr 9 (.pr 9 (.pr 9 0))))), ⟨(.pr 9 (.pr 9 (.pr 9 (.pr 9 (.pr 9 0))))), T_api_State, y10.1⟩), (0, ⟨0, T_api_Reply, y10.2⟩)]]) (l := [(6, (.pr 9 (.pr 9 (.pr 9 (.pr 9 (.pr 9 0)))))), (7, 9)]) (E' := [(6, .box (.pr 9 (.pr 9 (.pr 9 (.pr 9 (.pr 9 0))))) T_api_State y10.1), (7, .box 9 T_api_Reply y10.2)]) (obs := [ACall prog 86 [⟨T_api_State, p0⟩, ⟨.int .i64, (13 : Int)⟩] [⟨(.pr 9 (.pr 9 (.pr 9 (.pr 9 (.pr 9 0))))), T_api_State, y10.1⟩, ⟨0, T_api_Reply, y10.2⟩]]) (by kernel_rfl) (call_no.ok ey10) ?_
          refine W_keep (l := [(6, (.pr 9 (.pr 9 (.pr 9 (.pr 9 (.pr 9 0)))))), (7, 0)]) (E' := [(6, .box (.pr 9 (.pr 9 (.pr 9 (.pr 9 (.pr 9 0))))) T_api_State y10.1), (7, .box 0 T_api_Reply y10.2)]) (by kernel_rfl) ?_
          replace h : ((y10.1, y10.2)) = r := h
          subst h
          exact W_ret tys_ok hw0 (by kernel_rfl) (by kernel_rfl)
        · rw [cond_ff hb] at h
          refine W_skip ?_
          refine W_blk ?_
          refine W_seq ?_
          obtain ⟨y11, ey11, h⟩ := h.bind
          refine W_region mixed tys_ok (sup := [.res [((.pr 9 (.pr 9 (.pr 9 (.pr 9 (.pr 9 0))))), ⟨(.pr 9 (.pr 9 (.pr 9 (.pr 9 (.pr 9 0))))), T_api_State, y11.1⟩), (0, ⟨0, T_api_Reply, y11.2⟩)]]) (l := [(1, 0), (6, 9), (7, 9), (8, 0), (9, 9), (11, (.pr 9 (.pr 9 (.pr 9 (.pr 9 (.pr 9 0))))))]) (E' := [(1, .v 0 (.int .i64) p1), (6, .box 9 T_api_State x1), (7, .box 9 T_api_Reply x2), (8, .v 0 (.int .i64) y3), (9, .box 9 T_api_Thread y4.1), (11, .box (.pr 9 (.pr 9 (.pr 9 (.pr 9 (.pr 9 0))))) T_api_State y11.1)]) (obs := [ACall prog 89 [⟨T_api_State, p0⟩, ⟨.int .i64, p2⟩, ⟨T_api_Thread, ((4 : Int), p1, (0 : Int), (0 : Int), (0 : Int))⟩] [⟨(.pr 9 (.pr 9 (.pr 9 (.pr 9 (.pr 9 0))))), T_api_State, y11.1⟩, ⟨0, T_api_Reply, y11.2⟩]]) (by kernel_rfl) (turn_Leave.ok ey11) ?_
          refine W_seq ?_
          refine W_seq ?_
          refine W_region mixed tys_ok (sup := []) (l := [(1, 0), (6, 9), (7, 9), (8, 0), (9, 9), (11, (.pr 9 (.pr 9 (.pr 9 (.pr 9 (.pr 9 0)))))), (63, 0)]) (E' := [(1, .v 0 (.int .i64) p1), (6, .box 9 T_api_State x1), (7, .box 9 T_api_Reply x2), (8, .v 0 (.int .i64) y3), (9, .box 9 T_api_Thread y4.1), (11, .box (.pr 9 (.pr 9 (.pr 9 (.pr 9 (.pr 9 0))))) T_api_State y11.1), (63, .v 0 .bool (y4.1.1 != (5 : Int)))]) (obs := []) (by kernel_rfl) (trivial) ?_
          refine W_cond (β := y4.1.1 != (5 : Int)) (by kernel_rfl) (fun hb => ?_) (fun hb => ?_)
          · rw [cond_tt hb] at h
            refine W_seq ?_
            obtain ⟨o1, h⟩ := h.ass
            refine W_region mixed tys_ok (sup := []) (l := [(6, 9), (7, 9), (11, (.pr 9 (.pr 9 (.pr 9 (.pr 9 (.pr 9 0))))))]) (E' := [(6, .box 9 T_api_State x1), (7, .box 9 T_api_Reply x2), (11, .box (.pr 9 (.pr 9 (.pr 9 (.pr 9 (.pr 9 0))))) T_api_State (y11.1.1, y11.1.2.1, y11.1.2.2.1, y11.1.2.2.2.1, y11.1.2.2.2.2.1 ++ [y3], y11.1.2.2.2.2.2))]) (obs := [((y11.1.2.2.2.2.1.length + [y3].length : Nat) : Int) ≤ limA]) (by kernel_rfl) (o1) ?_
            refine W_gen (x := (y11.1.1, y11.1.2.1, y11.1.2.2.1, y11.1.2.2.2.1, y11.1.2.2.2.2.1 ++ [y3], y11.1.2.2.2.2.2)) (En := fun x12 => [(6, .box 9 T_api_State x1), (7, .box 9 T_api_Reply x2), (11, .box (.pr 9 (.pr 9 (.pr 9 (.pr 9 (.pr 9 0))))) T_api_State x12)]) h (fun x12 h => ?_)
            refine W_seq ?_
            refine W_region mixed tys_ok (sup := []) (l := [(6, (.pr 9 (.pr 9 (.pr 9 (.pr 9 (.pr 9 0)))))), (7, 9)]) (E' := [(6, .box (.pr 9 (.pr 9 (.pr 9 (.pr 9 (.pr 9 0))))) T_api_State x12), (7, .box 9 T_api_Reply ((0 : Int), (0 : Int)))]) (obs := []) (by kernel_rfl) (trivial) ?_
            refine W_gen (x := ((0 : Int), (0 : Int))) (En := fun x13 => [(6, .box (.pr 9 (.pr 9 (.pr 9 (.pr 9 (.pr 9 0))))) T_api_State x12), (7, .box 9 T_api_Reply x13)]) h (fun x13 h => ?_)
            refine W_keep (l := [(6, (.pr 9 (.pr 9 (.pr 9 (.pr 9 (.pr 9 0)))))), (7, 0)]) (E' := [(6, .box (.pr 9 (.pr 9 (.pr 9 (.pr 9 (.pr 9 0))))) T_api_State x12), (7, .box 0 T_api_Reply x13)]) (by kernel_rfl) ?_
            replace h : ((x12, x13)) = r := h
            subst h
            exact W_ret tys_ok hw0 (by kernel_rfl) (by kernel_rfl)
          · rw [cond_ff hb] at h
            refine W_skip ?_
            refine W_seq ?_
            refine W_region mixed tys_ok (sup := []) (l := [(1, 0), (6, 9), (7, 9), (9, 9), (11, (.pr 9 (.pr 9 (.pr 9 (.pr 9 (.pr 9 0))))))]) (E' := [(1, .v 0 (.int .i64) p1), (6, .box 9 T_api_State x1), (7, .box 9 T_api_Reply x2), (9, .box 9 T_api_Thread ((2 : Int), y4.1.2.1, y3, y4.1.2.2.2)), (11, .box (.pr 9 (.pr 9 (.pr 9 (.pr 9 (.pr 9 0))))) T_api_State y11.1)]) (obs := []) (by kernel_rfl) (trivial) ?_
            refine W_gen (x := ((2 : Int), y4.1.2.1, y3, y4.1.2.2.2)) (En := fun x14 => [(1, .v 0 (.int .i64) p1), (6, .box 9 T_api_State x1), (7, .box 9 T_api_Reply x2), (9, .box 9 T_api_Thread x14), (11, .box (.pr 9 (.pr 9 (.pr 9 (.pr 9 (.pr 9 0))))) T_api_State y11.1)]) h (fun x14 h => ?_)
            refine W_seq ?_
            obtain ⟨y15, ey15, h⟩ := h.bind
            refine W_region mixed tys_ok (sup := [.res [((.pr 9 (.pr 9 (.pr 9 (.pr 9 (.pr 9 0))))), ⟨(.pr 9 (.pr 9 (.pr 9 (.pr 9 (.pr 9 0))))), T_api_State, y15⟩)]]) (l := [(6, (.pr 9 (.pr 9 (.pr 9 (.pr 9 (.pr 9 0)))))), (7, 9)]) (E' := [(6, .box (.pr 9 (.pr 9 (.pr 9 (.pr 9 (.pr 9 0))))) T_api_State y15), (7, .box 9 T_api_Reply ((0 : Int), (1 : Int)))]) (obs := [ACall prog 54 [⟨T_api_State, y11.1⟩, ⟨.int .i64, p1⟩, ⟨T_api_Thread, x14⟩] [⟨(.pr 9 (.pr 9 (.pr 9 (.pr 9 (.pr 9 0))))), T_api_State, y15⟩]]) (by kernel_rfl) (state_PutThread.ok ey15) ?_
            refine W_gen (x := ((0 : Int), (1 : Int))) (En := fun x16 => [(6, .box (.pr 9 (.pr 9 (.pr 9 (.pr 9 (.pr 9 0))))) T_api_State y15), (7, .box 9 T_api_Reply x16)]) h (fun x16 h => ?_)
            refine W_keep (l := [(6, (.pr 9 (.pr 9 (.pr 9 (.pr 9 (.pr 9 0)))))), (7, 0)]) (E' := [(6, .box (.pr 9 (.pr 9 (.pr 9 (.pr 9 (.pr 9 0))))) T_api_State y15), (7, .box 0 T_api_Reply x16)]) (by kernel_rfl) ?_
            replace h : ((y15, x16)) = r := h
            subst h
            exact W_ret tys_ok hw0 (by kernel_rfl) (by kernel_rfl)

noncomputable def call_Answer (p0 : D_api_State) : Option (D_api_State × D_api_Reply) :=
  bnd ((([] : List Bool), ([] : List D_api_Ticket), ([] : List D_api_Thread), ([] : List D_api_Lock), ([] : List Int), (0 : Int))) fun x1 =>
  bnd (((0 : Int), (0 : Int))) fun x2 =>
  (spawn_Running p0).bind fun y3 =>
  (state_Thread p0 y3).bind fun y4 =>
  bif decide (y3 < (0 : Int)) then
    (call_no p0 (16 : Int)).bind fun y5 =>
    some (y5.1, y5.2)
  else
    bif y4.1.2.2.1 == (-1 : Int) then
      (call_no p0 (14 : Int)).bind fun y6 =>
      some (y6.1, y6.2)
    else
      ass (0 ≤ y4.1.2.2.1 ∧ y4.1.2.2.1 < (p0.2.2.1.length : Int)) <|
      bnd (rd z_api_Thread p0.2.2.1 y4.1.2.2.1) fun x7 =>
      bnd ((y4.1.1, y4.1.2.1, (-1 : Int), y4.1.2.2.2)) fun x8 =>
      bnd (((2 : Int), (-1 : Int), x7.2.2)) fun x9 =>
      (state_PutThread p0 y3 x8).bind fun y10 =>
      (state_PutThread y10 y4.1.2.2.1 x9).bind fun y11 =>
      bnd (((0 : Int), y4.1.2.2.1)) fun x12 =>
      some (y11, x12)
theorem call_Answer.ok {p0 : D_api_State} {r : D_api_State × D_api_Reply} (h : call_Answer p0 = some r) : ACall prog 26 [⟨T_api_State, p0⟩] [⟨(.pr 9 (.pr 9 (.pr 9 (.pr 9 (.pr 9 0))))), T_api_State, r.1⟩, ⟨0, T_api_Reply, r.2⟩] := by
  replace h := Leads.of h
  unfold call_Answer at h
  refine acall_of func26 (by kernel_rfl) rfl (by kernel_rfl) fun w0 F0 hw0 => ?_
  refine W_seq ?_
  refine W_region mixed tys_ok (sup := []) (l := [(1, 0), (2, 9), (3, 9)]) (E' := [(1, .box 0 T_api_State p0), (2, .box 9 T_api_State (([] : List Bool), ([] : List D_api_Ticket), ([] : List D_api_Thread), ([] : List D_api_Lock), ([] : List Int), (0 : Int))), (3, .box 9 T_api_Reply ((0 : Int), (0 : Int)))]) (obs := []) (by kernel_rfl) (trivial) ?_
  refine W_gen (x := (([] : List Bool), ([] : List D_api_Ticket), ([] : List D_api_Thread), ([] : List D_api_Lock), ([] : List Int), (0 : Int))) (En := fun x1 => [(1, .box 0 T_api_State p0), (2, .box 9 T_api_State x1), (3, .box 9 T_api_Reply ((0 : Int), (0 : Int)))]) h (fun x1 h => ?_)
  refine W_gen (x := ((0 : Int), (0 : Int))) (En := fun x2 => [(1, .box 0 T_api_State p0), (2, .box 9 T_api_State x1), (3, .box 9 T_api_Reply x2)]) h (fun x2 h => ?_)
  refine W_seq ?_
  obtain ⟨y3, ey3, h⟩ := h.bind
  refine W_region mixed tys_ok (sup := [.res [(0, ⟨0, .int .i64, y3⟩)]]) (l := [(1, 0), (2, 9), (3, 9), (4, 0)]) (E' := [(1, .box 0 T_api_State p0), (2, .box 9 T_api_State x1), (3, .box 9 T_api_Reply x2), (4, .v 0 (.int .i64) y3)]) (obs := [ACall prog 85 [⟨T_api_State, p0⟩] [⟨0, .int .i64, y3⟩]]) (by kernel_rfl) (spawn_Running.ok ey3) ?_
  refine W_seq ?_
  obtain ⟨y4, ey4, h⟩ := h.bind
  refine W_region mixed tys_ok (sup := [.res [(0, ⟨0, T_api_Thread, y4.1⟩), (0, ⟨0, .bool, y4.2⟩)]]) (l := [(1, 0), (2, 9), (3, 9), (4, 0), (5, 9)]) (E' := [(1, .box 0 T_api_State p0), (2, .box 9 T_api_State x1), (3, .box 9 T_api_Reply x2), (4, .v 0 (.int .i64) y3), (5, .box 9 T_api_Thread y4.1)]) (obs := [ACall prog 61 [⟨T_api_State, p0⟩, ⟨.int .i64, y3⟩] [⟨0, T_api_Thread, y4.1⟩, ⟨0, .bool, y4.2⟩]]) (by kernel_rfl) (state_Thread.ok ey4) ?_
  refine W_seq ?_
  refine W_block ?_
  refine W_seq ?_
  refine W_region mixed tys_ok (sup := []) (l := [(1, 0), (2, 9), (3, 9), (4, 0), (5, 9), (17, 0)]) (E' := [(1, .box 0 T_api_State p0), (2, .box 9 T_api_State x1), (3, .box 9 T_api_Reply x2), (4, .v 0 (.int .i64) y3), (5, .box 9 T_api_Thread y4.1), (17, .v 0 .bool (decide (y3 < (0 : Int))))]) (obs := []) (by kernel_rfl) (trivial) ?_
  refine W_cond (β := decide (y3 < (0 : Int))) (by kernel_rfl) (fun hb => ?_) (fun hb => ?_)
  · rw [cond_tt hb] at h
    refine W_seq ?_
    obtain ⟨y5, ey5, h⟩ := h.bind
    refine W_region mixed tys_ok (sup := [.res [((.pr 9 (.pr 9 (.pr 9 (.pr 9 (.pr 9 0))))), ⟨(.pr 9 (.pr 9 (.pr 9 (.pr 9 (.pr 9 0))))), T_api_State, y5.1⟩), (0, ⟨0, T_api_Reply, y5.2⟩)]]) (l := [(2, (.pr 9 (.pr 9 (.pr 9 (.pr 9 (.pr 9 0)))))), (3, 9)]) (E' := [(2, .box (.pr 9 (.pr 9 (.pr 9 (.pr 9 (.pr 9 0))))) T_api_State y5.1), (3, .box 9 T_api_Reply y5.2)]) (obs := [ACall prog 86 [⟨T_api_State, p0⟩, ⟨.int .i64, (16 : Int)⟩] [⟨(.pr 9 (.pr 9 (.pr 9 (.pr 9 (.pr 9 0))))), T_api_State, y5.1⟩, ⟨0, T_api_Reply, y5.2⟩]]) (by kernel_rfl) (call_no.ok ey5) ?_
    refine W_keep (l := [(2, (.pr 9 (.pr 9 (.pr 9 (.pr 9 (.pr 9 0)))))), (3, 0)]) (E' := [(2, .box (.pr 9 (.pr 9 (.pr 9 (.pr 9 (.pr 9 0))))) T_api_State y5.1), (3, .box 0 T_api_Reply y5.2)]) (by kernel_rfl) ?_
    replace h : ((y5.1, y5.2)) = r := h
    subst h
    exact W_ret tys_ok hw0 (by kernel_rfl) (by kernel_rfl)
  · rw [cond_ff hb] at h
    refine W_seq ?_
    refine W_region mixed tys_ok (sup := []) (l := [(1, 0), (2, 9), (3, 9), (4, 0), (5, 9), (24, 0)]) (E' := [(1, .box 0 T_api_State p0), (2, .box 9 T_api_State x1), (3, .box 9 T_api_Reply x2), (4, .v 0 (.int .i64) y3), (5, .box 9 T_api_Thread y4.1), (24, .v 0 .bool (y4.1.2.2.1 == (-1 : Int)))]) (obs := []) (by kernel_rfl) (trivial) ?_
    refine W_cond (β := y4.1.2.2.1 == (-1 : Int)) (by kernel_rfl) (fun hb => ?_) (fun hb => ?_)
    · rw [cond_tt hb] at h
      refine W_seq ?_
      obtain ⟨y6, ey6, h⟩ := h.bind
      refine W_region mixed tys_ok (sup := [.res [((.pr 9 (.pr 9 (.pr 9 (.pr 9 (.pr 9 0))))), ⟨(.pr 9 (.pr 9 (.pr 9 (.pr 9 (.pr 9 0))))), T_api_State, y6.1⟩), (0, ⟨0, T_api_Reply, y6.2⟩)]]) (l := [(2, (.pr 9 (.pr 9 (.pr 9 (.pr 9 (.pr 9 0)))))), (3, 9)]) (E' := [(2, .box (.pr 9 (.pr 9 (.pr 9 (.pr 9 (.pr 9 0))))) T_api_State y6.1), (3, .box 9 T_api_Reply y6.2)]) (obs := [ACall prog 86 [⟨T_api_State, p0⟩, ⟨.int .i64, (14 : Int)⟩] [⟨(.pr 9 (.pr 9 (.pr 9 (.pr 9 (.pr 9 0))))), T_api_State, y6.1⟩, ⟨0, T_api_Reply, y6.2⟩]]) (by kernel_rfl) (call_no.ok ey6) ?_
      refine W_keep (l := [(2, (.pr 9 (.pr 9 (.pr 9 (.pr 9 (.pr 9 0)))))), (3, 0)]) (E' := [(2, .box (.pr 9 (.pr 9 (.pr 9 (.pr 9 (.pr 9 0))))) T_api_State y6.1), (3, .box 0 T_api_Reply y6.2)]) (by kernel_rfl) ?_
      replace h : ((y6.1, y6.2)) = r := h
      subst h
      exact W_ret tys_ok hw0 (by kernel_rfl) (by kernel_rfl)
    · rw [cond_ff hb] at h
      refine W_skip ?_
      refine W_blk ?_
      refine W_seq ?_
      obtain ⟨o1, h⟩ := h.ass
      refine W_regionL mixed tys_ok (sup := []) (l := [(1, 0), (2, 9), (3, 9), (4, 0), (5, 9), (7, 0), (8, 9)]) (E' := [(1, .box 0 T_api_State p0), (2, .box 9 T_api_State x1), (3, .box 9 T_api_Reply x2), (4, .v 0 (.int .i64) y3), (5, .box 9 T_api_Thread y4.1), (7, .v 0 (.int .i64) y4.1.2.2.1), (8, .box 9 T_api_Thread (rd z_api_Thread p0.2.2.1 y4.1.2.2.1))]) (obs := [0 ≤ y4.1.2.2.1 ∧ y4.1.2.2.1 < (p0.2.2.1.length : Int), 0 ≤ y4.1.2.2.1 ∧ y4.1.2.2.1 < (p0.2.2.1.length : Int), (⟨.slice T_api_Thread, p0.2.2.1⟩ : TV) = ⟨.slice T_api_Thread, p0.2.2.1⟩, (⟨.int .i64, y4.1.2.2.1⟩ : TV) = ⟨.int .i64, y4.1.2.2.1⟩, (⟨.cptr T_api_Thread, rd z_api_Thread p0.2.2.1 y4.1.2.2.1⟩ : TV) = ⟨.cptr T_api_Thread, rd z_api_Thread p0.2.2.1 y4.1.2.2.1⟩, (⟨T_api_Thread, rd z_api_Thread p0.2.2.1 y4.1.2.2.1⟩ : TV) = ⟨T_api_Thread, rd z_api_Thread p0.2.2.1 y4.1.2.2.1⟩]) (by kernel_rfl) (⟨o1, o1, rfl, rfl, rfl, rfl⟩) ?_
      refine W_gen (x := rd z_api_Thread p0.2.2.1 y4.1.2.2.1) (En := fun x7 => [(1, .box 0 T_api_State p0), (2, .box 9 T_api_State x1), (3, .box 9 T_api_Reply x2), (4, .v 0 (.int .i64) y3), (5, .box 9 T_api_Thread y4.1), (7, .v 0 (.int .i64) y4.1.2.2.1), (8, .box 9 T_api_Thread x7)]) h (fun x7 h => ?_)
      refine W_seq ?_
      refine W_region mixed tys_ok (sup := []) (l := [(1, 0), (2, 9), (3, 9), (4, 0), (5, 9), (7, 0), (8, 9)]) (E' := [(1, .box 0 T_api_State p0), (2, .box 9 T_api_State x1), (3, .box 9 T_api_Reply x2), (4, .v 0 (.int .i64) y3), (5, .box 9 T_api_Thread (y4.1.1, y4.1.2.1, (-1 : Int), y4.1.2.2.2)), (7, .v 0 (.int .i64) y4.1.2.2.1), (8, .box 9 T_api_Thread ((2 : Int), (-1 : Int), x7.2.2))]) (obs := []) (by kernel_rfl) (trivial) ?_
      refine W_gen (x := (y4.1.1, y4.1.2.1, (-1 : Int), y4.1.2.2.2)) (En := fun x8 => [(1, .box 0 T_api_State p0), (2, .box 9 T_api_State x1), (3, .box 9 T_api_Reply x2), (4, .v 0 (.int .i64) y3), (5, .box 9 T_api_Thread x8), (7, .v 0 (.int .i64) y4.1.2.2.1), (8, .box 9 T_api_Thread ((2 : Int), (-1 : Int), x7.2.2))]) h (fun x8 h => ?_)
      refine W_gen (x := ((2 : Int), (-1 : Int), x7.2.2)) (En := fun x9 => [(1, .box 0 T_api_State p0), (2, .box 9 T_api_State x1), (3, .box 9 T_api_Reply x2), (4, .v 0 (.int .i64) y3), (5, .box 9 T_api_Thread x8), (7, .v 0 (.int .i64) y4.1.2.2.1), (8, .box 9 T_api_Thread x9)]) h (fun x9 h => ?_)
      refine W_seq ?_
      obtain ⟨y10, ey10, h⟩ := h.bind
      obtain ⟨y11, ey11, h⟩ := h.bind
      refine W_regionL mixed tys_ok (sup := [.res [((.pr 9 (.pr 9 (.pr 9 (.pr 9 (.pr 9 0))))), ⟨(.pr 9 (.pr 9 (.pr 9 (.pr 9 (.pr 9 0))))), T_api_State, y10⟩)], .res [((.pr 9 (.pr 9 (.pr 9 (.pr 9 (.pr 9 0))))), ⟨(.pr 9 (.pr 9 (.pr 9 (.pr 9 (.pr 9 0))))), T_api_State, y11⟩)]]) (l := [(2, (.pr 9 (.pr 9 (.pr 9 (.pr 9 (.pr 9 0)))))), (3, 9)]) (E' := [(2, .box (.pr 9 (.pr 9 (.pr 9 (.pr 9 (.pr 9 0))))) T_api_State y11), (3, .box 9 T_api_Reply ((0 : Int), y4.1.2.2.1))]) (obs := [ACall prog 54 [⟨T_api_State, p0⟩, ⟨.int .i64, y3⟩, ⟨T_api_Thread, x8⟩] [⟨(.pr 9 (.pr 9 (.pr 9 (.pr 9 (.pr 9 0))))), T_api_State, y10⟩], ACall prog 54 [⟨T_api_State, y10⟩, ⟨.int .i64, y4.1.2.2.1⟩, ⟨T_api_Thread, x9⟩] [⟨(.pr 9 (.pr 9 (.pr 9 (.pr 9 (.pr 9 0))))), T_api_State, y11⟩], (⟨.int .i64, y4.1.2.2.1⟩ : TV) = ⟨.int .i64, y4.1.2.2.1⟩, (⟨T_api_Reply, ((0 : Int), y4.1.2.2.1)⟩ : TV) = ⟨T_api_Reply, ((0 : Int), y4.1.2.2.1)⟩]) (by kernel_rfl) (⟨state_PutThread.ok ey10, state_PutThread.ok ey11, rfl, rfl⟩) ?_
      refine W_gen (x := ((0 : Int), y4.1.2.2.1)) (En := fun x12 => [(2, .box (.pr 9 (.pr 9 (.pr 9 (.pr 9 (.pr 9 0))))) T_api_State y11), (3, .box 9 T_api_Reply x12)]) h (fun x12 h => ?_)
      refine W_keep (l := [(2, (.pr 9 (.pr 9 (.pr 9 (.pr 9 (.pr 9 0)))))), (3, 0)]) (E' := [(2, .box (.pr 9 (.pr 9 (.pr 9 (.pr 9 (.pr 9 0))))) T_api_State y11), (3, .box 0 T_api_Reply x12)]) (by kernel_rfl) ?_
      replace h : ((y11, x12)) = r := h
      subst h
      exact W_ret tys_ok hw0 (by kernel_rfl) (by kernel_rfl)

noncomputable def l26_alive : Option Bool :=
  (l26_pair).bind fun y1 =>
  (call_Call y1 (1 : Int) (5 : Int)).bind fun y2 =>
  (l26_pair).bind fun y3 =>
  (call_Call y3 (0 : Int) (5 : Int)).bind fun y4 =>
  (l26_pair).bind fun y5 =>
  (call_Answer y5).bind fun y6 =>
  ass ((Ty.beq T_api_Reply y2.2 ((0 : Int), (1 : Int))) = true → 0 ≤ (1 : Int) ∧ (1 : Int) < (y2.1.2.2.1.length : Int)) <|
  ass (((Ty.beq T_api_Reply y2.2 ((0 : Int), (1 : Int))) && ((rd z_api_Thread y2.1.2.2.1 (1 : Int)).1 == (2 : Int))) = true → 0 ≤ (1 : Int) ∧ (1 : Int) < (y2.1.2.2.1.length : Int)) <|
  ass ((((Ty.beq T_api_Reply y2.2 ((0 : Int), (1 : Int))) && ((rd z_api_Thread y2.1.2.2.1 (1 : Int)).1 == (2 : Int))) && ((rd z_api_Thread y2.1.2.2.1 (1 : Int)).2.2.1 == (0 : Int))) = true → 0 ≤ (0 : Int) ∧ (0 : Int) < (y2.1.2.2.1.length : Int)) <|
  bnd ((((((Ty.beq T_api_Reply y2.2 ((0 : Int), (1 : Int))) && ((rd z_api_Thread y2.1.2.2.1 (1 : Int)).1 == (2 : Int))) && ((rd z_api_Thread y2.1.2.2.1 (1 : Int)).2.2.1 == (0 : Int))) && ((rd z_api_Thread y2.1.2.2.1 (0 : Int)).1 == (4 : Int))) && (y4.2.1 == (13 : Int))) && (y6.2.1 == (14 : Int))) fun x7 =>
  some x7
theorem l26_alive.ok {r : Bool} (h : l26_alive = some r) : ACall prog 14 [] [⟨0, .bool, r⟩] := by
  replace h := Leads.of h
  unfold l26_alive at h
  refine acall_of func14 (by kernel_rfl) rfl (by kernel_rfl) fun w0 F0 hw0 => ?_
  refine W_seq ?_
  refine W_region mixed tys_ok (sup := []) (l := []) (E' := []) (obs := []) (by kernel_rfl) (trivial) ?_
  refine W_seq ?_
  obtain ⟨y1, ey1, h⟩ := h.bind
  obtain ⟨y2, ey2, h⟩ := h.bind
  refine W_region mixed tys_ok (sup := [.res [(0, ⟨0, T_api_State, y1⟩)], .res [((.pr 9 (.pr 9 (.pr 9 (.pr 9 (.pr 9 0))))), ⟨(.pr 9 (.pr 9 (.pr 9 (.pr 9 (.pr 9 0))))), T_api_State, y2.1⟩), (0, ⟨0, T_api_Reply, y2.2⟩)]]) (l := [(1, (.pr 9 (.pr 9 (.pr 9 (.pr 9 (.pr 9 0)))))), (2, 9)]) (E' := [(1, .box (.pr 9 (.pr 9 (.pr 9 (.pr 9 (.pr 9 0))))) T_api_State y2.1), (2, .box 9 T_api_Reply y2.2)]) (obs := [ACall prog 84 [] [⟨0, T_api_State, y1⟩], ACall prog 16 [⟨T_api_State, y1⟩, ⟨.int .i64, (1 : Int)⟩, ⟨.int .i64, (5 : Int)⟩] [⟨(.pr 9 (.pr 9 (.pr 9 (.pr 9 (.pr 9 0))))), T_api_State, y2.1⟩, ⟨0, T_api_Reply, y2.2⟩]]) (by kernel_rfl) (⟨l26_pair.ok ey1, call_Call.ok ey2⟩) ?_
  refine W_seq ?_
  obtain ⟨y3, ey3, h⟩ := h.bind
  obtain ⟨y4, ey4, h⟩ := h.bind
  refine W_region mixed tys_ok (sup := [.res [(0, ⟨0, T_api_State, y3⟩)], .res [((.pr 9 (.pr 9 (.pr 9 (.pr 9 (.pr 9 0))))), ⟨(.pr 9 (.pr 9 (.pr 9 (.pr 9 (.pr 9 0))))), T_api_State, y4.1⟩), (0, ⟨0, T_api_Reply, y4.2⟩)]]) (l := [(1, (.pr 9 (.pr 9 (.pr 9 (.pr 9 (.pr 9 0)))))), (2, 9), (4, 9)]) (E' := [(1, .box (.pr 9 (.pr 9 (.pr 9 (.pr 9 (.pr 9 0))))) T_api_State y2.1), (2, .box 9 T_api_Reply y2.2), (4, .box 9 T_api_Reply y4.2)]) (obs := [ACall prog 84 [] [⟨0, T_api_State, y3⟩], ACall prog 16 [⟨T_api_State, y3⟩, ⟨.int .i64, (0 : Int)⟩, ⟨.int .i64, (5 : Int)⟩] [⟨(.pr 9 (.pr 9 (.pr 9 (.pr 9 (.pr 9 0))))), T_api_State, y4.1⟩, ⟨0, T_api_Reply, y4.2⟩]]) (by kernel_rfl) (⟨l26_pair.ok ey3, call_Call.ok ey4⟩) ?_
  refine W_seq ?_
  obtain ⟨y5, ey5, h⟩ := h.bind
  obtain ⟨y6, ey6, h⟩ := h.bind
  refine W_region mixed tys_ok (sup := [.res [(0, ⟨0, T_api_State, y5⟩)], .res [((.pr 9 (.pr 9 (.pr 9 (.pr 9 (.pr 9 0))))), ⟨(.pr 9 (.pr 9 (.pr 9 (.pr 9 (.pr 9 0))))), T_api_State, y6.1⟩), (0, ⟨0, T_api_Reply, y6.2⟩)]]) (l := [(1, (.pr 9 (.pr 9 (.pr 9 (.pr 9 (.pr 9 0)))))), (2, 9), (4, 9), (6, 9)]) (E' := [(1, .box (.pr 9 (.pr 9 (.pr 9 (.pr 9 (.pr 9 0))))) T_api_State y2.1), (2, .box 9 T_api_Reply y2.2), (4, .box 9 T_api_Reply y4.2), (6, .box 9 T_api_Reply y6.2)]) (obs := [ACall prog 84 [] [⟨0, T_api_State, y5⟩], ACall prog 26 [⟨T_api_State, y5⟩] [⟨(.pr 9 (.pr 9 (.pr 9 (.pr 9 (.pr 9 0))))), T_api_State, y6.1⟩, ⟨0, T_api_Reply, y6.2⟩]]) (by kernel_rfl) (⟨l26_pair.ok ey5, call_Answer.ok ey6⟩) ?_
  refine W_seq ?_
  obtain ⟨o1, h⟩ := h.ass
  obtain ⟨o2, h⟩ := h.ass
  obtain ⟨o3, h⟩ := h.ass
  refine W_region mixed tys_ok (sup := []) (l := [(0, 0)]) (E' := [(0, .v 0 .bool ((((((Ty.beq T_api_Reply y2.2 ((0 : Int), (1 : Int))) && ((rd z_api_Thread y2.1.2.2.1 (1 : Int)).1 == (2 : Int))) && ((rd z_api_Thread y2.1.2.2.1 (1 : Int)).2.2.1 == (0 : Int))) && ((rd z_api_Thread y2.1.2.2.1 (0 : Int)).1 == (4 : Int))) && (y4.2.1 == (13 : Int))) && (y6.2.1 == (14 : Int))))]) (obs := [(Ty.beq T_api_Reply y2.2 ((0 : Int), (1 : Int))) = true → 0 ≤ (1 : Int) ∧ (1 : Int) < (y2.1.2.2.1.length : Int), ((Ty.beq T_api_Reply y2.2 ((0 : Int), (1 : Int))) && ((rd z_api_Thread y2.1.2.2.1 (1 : Int)).1 == (2 : Int))) = true → 0 ≤ (1 : Int) ∧ (1 : Int) < (y2.1.2.2.1.length : Int), (((Ty.beq T_api_Reply y2.2 ((0 : Int), (1 : Int))) && ((rd z_api_Thread y2.1.2.2.1 (1 : Int)).1 == (2 : Int))) && ((rd z_api_Thread y2.1.2.2.1 (1 : Int)).2.2.1 == (0 : Int))) = true → 0 ≤ (0 : Int) ∧ (0 : Int) < (y2.1.2.2.1.length : Int)]) (by kernel_rfl) (⟨o1, o2, o3⟩) ?_
  refine W_gen (x := (((((Ty.beq T_api_Reply y2.2 ((0 : Int), (1 : Int))) && ((rd z_api_Thread y2.1.2.2.1 (1 : Int)).1 == (2 : Int))) && ((rd z_api_Thread y2.1.2.2.1 (1 : Int)).2.2.1 == (0 : Int))) && ((rd z_api_Thread y2.1.2.2.1 (0 : Int)).1 == (4 : Int))) && (y4.2.1 == (13 : Int))) && (y6.2.1 == (14 : Int))) (En := fun x7 => [(0, .v 0 .bool x7)]) h (fun x7 h => ?_)
  refine W_keep (l := [(0, 0)]) (E' := [(0, .v 0 .bool x7)]) (by kernel_rfl) ?_
  replace h : x7 = r := h
  subst h
  exact W_ret tys_ok hw0 (by kernel_rfl) (by kernel_rfl)

noncomputable def r24_Running_j1 : Option (Int) :=
  some (-1 : Int)
noncomputable def r24_Running_b1 (p0 : D_api_State) (x1 : Int) : Option (Int ⊕ Int) :=
  bif decide (x1 < (p0.2.2.1.length : Int)) then
    ass (0 ≤ x1 ∧ x1 < (p0.2.2.1.length : Int)) <|
    bif (rd z_api_Thread p0.2.2.1 x1).1 == (3 : Int) then
      some (.inr x1)
    else
      bnd (IntKind.i64.wrap (x1 + (1 : Int))) fun x2 =>
      some (.inl x2)
  else
    (r24_Running_j1).map .inr
noncomputable def r24_Running (p0 : D_api_State) : Option Int :=
  loopM (fun x : Int => r24_Running_b1 p0 x) (0 : Int)
theorem r24_Running.ok {p0 : D_api_State} {r : Int} (h : r24_Running p0 = some r) : ACall prog 15 [⟨T_api_State, p0⟩] [⟨0, .int .i64, r⟩] := by
  replace h := Leads.of h
  unfold r24_Running at h
  refine acall_of func15 (by kernel_rfl) rfl (by kernel_rfl) fun w0 F0 hw0 => ?_
  refine W_seq ?_
  refine W_region mixed tys_ok (sup := []) (l := [(1, 0)]) (E' := [(1, .box 0 T_api_State p0)]) (obs := []) (by kernel_rfl) (trivial) ?_
  refine W_seq ?_
  refine W_seq ?_
  refine W_region mixed tys_ok (sup := []) (l := [(1, 0), (3, 0)]) (E' := [(1, .box 0 T_api_State p0), (3, .v 0 (.int .i64) (0 : Int))]) (obs := []) (by kernel_rfl) (trivial) ?_
  refine W_join h (Ej := fun (x : Unit) => []) (p := fun x => r24_Running_j1) ?_ ?_
  · rintro ⟨⟩ h
    replace h : Leads _ (r24_Running_j1) := h
    unfold r24_Running_j1 at h
    show W _ _ _ _ _ _ []
    refine W_seq ?_
    refine W_region mixed tys_ok (sup := []) (l := [(2, 0)]) (E' := [(2, .v 0 (.int .i64) (-1 : Int))]) (obs := []) (by kernel_rfl) (trivial) ?_
    refine W_keep (l := [(2, 0)]) (E' := [(2, .v 0 (.int .i64) (-1 : Int))]) (by kernel_rfl) ?_
    replace h : ((-1 : Int)) = r := h
    subst h
    exact W_ret tys_ok hw0 (by kernel_rfl) (by kernel_rfl)
  · intro j1
    refine W_block ?_
    refine W_keep (l := [(1, 0), (3, 0)]) (E' := [(1, .box 0 T_api_State p0), (3, .v 0 (.int .i64) (0 : Int))]) (by kernel_rfl) ?_
    refine W_loop' (En := fun (x : Int) => [(1, .box 0 T_api_State p0), (3, .v 0 (.int .i64) x)]) (x := (0 : Int)) h ?_
    rintro x1 K h
    replace h : Leads _ (r24_Running_b1 p0 x1) := h
    unfold r24_Running_b1 at h
    show W _ _ _ _ _ _ [(1, .box 0 T_api_State p0), (3, .v 0 (.int .i64) x1)]
    refine W_seq ?_
    refine W_seq ?_
    refine W_region mixed tys_ok (sup := []) (l := [(1, 0), (3, 0), (8, 0)]) (E' := [(1, .box 0 T_api_State p0), (3, .v 0 (.int .i64) x1), (8, .v 0 .bool (decide (x1 < (p0.2.2.1.length : Int))))]) (obs := []) (by kernel_rfl) (trivial) ?_
    refine W_cond (β := decide (x1 < (p0.2.2.1.length : Int))) (by kernel_rfl) (fun hb => ?_) (fun hb => ?_)
    · rw [cond_tt hb] at h
      refine W_skip ?_
      refine W_seq ?_
      refine W_block ?_
      refine W_seq ?_
      obtain ⟨o1, h⟩ := h.ass
      refine W_region mixed tys_ok (sup := []) (l := [(1, 0), (3, 0), (17, 0)]) (E' := [(1, .box 0 T_api_State p0), (3, .v 0 (.int .i64) x1), (17, .v 0 .bool ((rd z_api_Thread p0.2.2.1 x1).1 == (3 : Int)))]) (obs := [0 ≤ x1 ∧ x1 < (p0.2.2.1.length : Int)]) (by kernel_rfl) (o1) ?_
      refine W_cond (β := (rd z_api_Thread p0.2.2.1 x1).1 == (3 : Int)) (by kernel_rfl) (fun hb => ?_) (fun hb => ?_)
      · rw [cond_tt hb] at h
        refine W_seq ?_
        refine W_region mixed tys_ok (sup := []) (l := [(2, 0)]) (E' := [(2, .v 0 (.int .i64) x1)]) (obs := []) (by kernel_rfl) (trivial) ?_
        refine W_keep (l := [(2, 0)]) (E' := [(2, .v 0 (.int .i64) x1)]) (by kernel_rfl) ?_
        replace h : x1 = r := h
        subst h
        exact W_ret tys_ok hw0 (by kernel_rfl) (by kernel_rfl)
      · rw [cond_ff hb] at h
        refine W_skip ?_
        refine W_blk ?_
        refine W_region mixed tys_ok (sup := []) (l := [(1, 0), (3, 0)]) (E' := [(1, .box 0 T_api_State p0), (3, .v 0 (.int .i64) (IntKind.i64.wrap (x1 + (1 : Int))))]) (obs := []) (by kernel_rfl) (trivial) ?_
        refine W_gen (x := IntKind.i64.wrap (x1 + (1 : Int))) (En := fun x2 => [(1, .box 0 T_api_State p0), (3, .v 0 (.int .i64) x2)]) h (fun x2 h => ?_)
        refine W_keep (l := [(1, 0), (3, 0)]) (E' := [(1, .box 0 T_api_State p0), (3, .v 0 (.int .i64) x2)]) (by kernel_rfl) ?_
        exact W_abs h
    · rw [cond_ff hb] at h
      refine W_exit rfl ?_
      refine W_keep (l := []) (E' := []) (by kernel_rfl) ?_
      exact j1 () h.back

noncomputable def r14_Copy (p0 : D_api_State) : Option D_api_State :=
  bnd ((([] : List Bool), ([] : List D_api_Ticket), ([] : List D_api_Thread), ([] : List D_api_Lock), ([] : List Int), (0 : Int))) fun x1 =>
  ass (((([] : List Bool).length + p0.1.length : Nat) : Int) ≤ limA) <|
  bnd ((([] : List Bool) ++ p0.1, p0.2)) fun x2 =>
  ass (((([] : List D_api_Ticket).length + x2.2.1.length : Nat) : Int) ≤ limA) <|
  bnd ((x2.1, ([] : List D_api_Ticket) ++ x2.2.1, x2.2.2)) fun x3 =>
  ass (((([] : List D_api_Thread).length + x3.2.2.1.length : Nat) : Int) ≤ limA) <|
  bnd ((x3.1, x3.2.1, ([] : List D_api_Thread) ++ x3.2.2.1, x3.2.2.2)) fun x4 =>
  ass (((([] : List D_api_Lock).length + x4.2.2.2.1.length : Nat) : Int) ≤ limA) <|
  bnd ((x4.1, x4.2.1, x4.2.2.1, ([] : List D_api_Lock) ++ x4.2.2.2.1, x4.2.2.2.2)) fun x5 =>
  ass (((([] : List Int).length + x5.2.2.2.2.1.length : Nat) : Int) ≤ limA) <|
  bnd ((x5.1, x5.2.1, x5.2.2.1, x5.2.2.2.1, ([] : List Int) ++ x5.2.2.2.2.1, x5.2.2.2.2.2)) fun x6 =>
  some x6
theorem r14_Copy.ok {p0 : D_api_State} {r : D_api_State} (h : r14_Copy p0 = some r) : ACall prog 25 [⟨T_api_State, p0⟩] [⟨(.pr 9 (.pr 9 (.pr 9 (.pr 9 (.pr 9 0))))), T_api_State, r⟩] := by
  replace h := Leads.of h
  unfold r14_Copy at h
  refine acall_of func25 (by kernel_rfl) rfl (by kernel_rfl) fun w0 F0 hw0 => ?_
  refine W_seq ?_
  refine W_region mixed tys_ok (sup := []) (l := [(1, 0), (2, 9)]) (E' := [(1, .box 0 T_api_State p0), (2, .box 9 T_api_State (([] : List Bool), ([] : List D_api_Ticket), ([] : List D_api_Thread), ([] : List D_api_Lock), ([] : List Int), (0 : Int)))]) (obs := []) (by kernel_rfl) (trivial) ?_
  refine W_gen (x := (([] : List Bool), ([] : List D_api_Ticket), ([] : List D_api_Thread), ([] : List D_api_Lock), ([] : List Int), (0 : Int))) (En := fun x1 => [(1, .box 0 T_api_State p0), (2, .box 9 T_api_State x1)]) h (fun x1 h => ?_)
  refine W_seq ?_
  obtain ⟨o1, h⟩ := h.ass
  refine W_region mixed tys_ok (sup := []) (l := [(1, (.pr 9 0)), (2, 9)]) (E' := [(1, .box (.pr 9 0) T_api_State (([] : List Bool) ++ p0.1, p0.2)), (2, .box 9 T_api_State x1)]) (obs := [((([] : List Bool).length + p0.1.length : Nat) : Int) ≤ limA]) (by kernel_rfl) (o1) ?_
  refine W_gen (x := (([] : List Bool) ++ p0.1, p0.2)) (En := fun x2 => [(1, .box (.pr 9 0) T_api_State x2), (2, .box 9 T_api_State x1)]) h (fun x2 h => ?_)
  refine W_seq ?_
  obtain ⟨o1, h⟩ := h.ass
  refine W_region mixed tys_ok (sup := []) (l := [(1, (.pr 9 (.pr 9 0))), (2, 9)]) (E' := [(1, .box (.pr 9 (.pr 9 0)) T_api_State (x2.1, ([] : List D_api_Ticket) ++ x2.2.1, x2.2.2)), (2, .box 9 T_api_State x1)]) (obs := [((([] : List D_api_Ticket).length + x2.2.1.length : Nat) : Int) ≤ limA]) (by kernel_rfl) (o1) ?_
  refine W_gen (x := (x2.1, ([] : List D_api_Ticket) ++ x2.2.1, x2.2.2)) (En := fun x3 => [(1, .box (.pr 9 (.pr 9 0)) T_api_State x3), (2, .box 9 T_api_State x1)]) h (fun x3 h => ?_)
  refine W_seq ?_
  obtain ⟨o1, h⟩ := h.ass
  refine W_region mixed tys_ok (sup := []) (l := [(1, (.pr 9 (.pr 9 (.pr 9 0)))), (2, 9)]) (E' := [(1, .box (.pr 9 (.pr 9 (.pr 9 0))) T_api_State (x3.1, x3.2.1, ([] : List D_api_Thread) ++ x3.2.2.1, x3.2.2.2)), (2, .box 9 T_api_State x1)]) (obs := [((([] : List D_api_Thread).length + x3.2.2.1.length : Nat) : Int) ≤ limA]) (by kernel_rfl) (o1) ?_
  refine W_gen (x := (x3.1, x3.2.1, ([] : List D_api_Thread) ++ x3.2.2.1, x3.2.2.2)) (En := fun x4 => [(1, .box (.pr 9 (.pr 9 (.pr 9 0))) T_api_State x4), (2, .box 9 T_api_State x1)]) h (fun x4 h => ?_)
  refine W_seq ?_
  obtain ⟨o1, h⟩ := h.ass
  refine W_region mixed tys_ok (sup := []) (l := [(1, (.pr 9 (.pr 9 (.pr 9 (.pr 9 0))))), (2, 9)]) (E' := [(1, .box (.pr 9 (.pr 9 (.pr 9 (.pr 9 0)))) T_api_State (x4.1, x4.2.1, x4.2.2.1, ([] : List D_api_Lock) ++ x4.2.2.2.1, x4.2.2.2.2)), (2, .box 9 T_api_State x1)]) (obs := [((([] : List D_api_Lock).length + x4.2.2.2.1.length : Nat) : Int) ≤ limA]) (by kernel_rfl) (o1) ?_
  refine W_gen (x := (x4.1, x4.2.1, x4.2.2.1, ([] : List D_api_Lock) ++ x4.2.2.2.1, x4.2.2.2.2)) (En := fun x5 => [(1, .box (.pr 9 (.pr 9 (.pr 9 (.pr 9 0)))) T_api_State x5), (2, .box 9 T_api_State x1)]) h (fun x5 h => ?_)
  refine W_seq ?_
  obtain ⟨o1, h⟩ := h.ass
  refine W_region mixed tys_ok (sup := []) (l := [(1, (.pr 9 (.pr 9 (.pr 9 (.pr 9 (.pr 9 0)))))), (2, 9)]) (E' := [(1, .box (.pr 9 (.pr 9 (.pr 9 (.pr 9 (.pr 9 0))))) T_api_State (x5.1, x5.2.1, x5.2.2.1, x5.2.2.2.1, ([] : List Int) ++ x5.2.2.2.2.1, x5.2.2.2.2.2)), (2, .box 9 T_api_State x1)]) (obs := [((([] : List Int).length + x5.2.2.2.2.1.length : Nat) : Int) ≤ limA]) (by kernel_rfl) (o1) ?_
  refine W_gen (x := (x5.1, x5.2.1, x5.2.2.1, x5.2.2.2.1, ([] : List Int) ++ x5.2.2.2.2.1, x5.2.2.2.2.2)) (En := fun x6 => [(1, .box (.pr 9 (.pr 9 (.pr 9 (.pr 9 (.pr 9 0))))) T_api_State x6), (2, .box 9 T_api_State x1)]) h (fun x6 h => ?_)
  refine W_seq ?_
  refine W_region mixed tys_ok (sup := []) (l := [(2, (.pr 9 (.pr 9 (.pr 9 (.pr 9 (.pr 9 0))))))]) (E' := [(2, .box (.pr 9 (.pr 9 (.pr 9 (.pr 9 (.pr 9 0))))) T_api_State x6)]) (obs := []) (by kernel_rfl) (trivial) ?_
  refine W_keep (l := [(2, (.pr 9 (.pr 9 (.pr 9 (.pr 9 (.pr 9 0))))))]) (E' := [(2, .box (.pr 9 (.pr 9 (.pr 9 (.pr 9 (.pr 9 0))))) T_api_State x6)]) (by kernel_rfl) ?_
  replace h : x6 = r := h
  subst h
  exact W_ret tys_ok hw0 (by kernel_rfl) (by kernel_rfl)

noncomputable def r11_Ints_j1 : Option (Bool) :=
  some true
noncomputable def r11_Ints_b1 (p0 : List Int) (p1 : List Int) (x1 : Int) : Option (Int ⊕ Bool) :=
  bif decide (x1 < (p0.length : Int)) then
    ass (0 ≤ x1 ∧ x1 < (p0.length : Int)) <|
    ass (0 ≤ x1 ∧ x1 < (p1.length : Int)) <|
    bif (rd (0 : Int) p0 x1) != (rd (0 : Int) p1 x1) then
      some (.inr false)
    else
      bnd (IntKind.i64.wrap (x1 + (1 : Int))) fun x2 =>
      some (.inl x2)
  else
    (r11_Ints_j1).map .inr
noncomputable def r11_Ints (p0 : List Int) (p1 : List Int) : Option Bool :=
  bif (p0.length : Int) != (p1.length : Int) then
    some false
  else
    loopM (fun x : Int => r11_Ints_b1 p0 p1 x) (0 : Int)
theorem r11_Ints.ok {p0 : List Int} {p1 : List Int} {r : Bool} (h : r11_Ints p0 p1 = some r) : ACall prog 33 [⟨.slice (.int .i64), p0⟩, ⟨.slice (.int .i64), p1⟩] [⟨0, .bool, r⟩] := by
  replace h := Leads.of h
  unfold r11_Ints at h
  refine acall_of func33 (by kernel_rfl) rfl (by kernel_rfl) fun w0 F0 hw0 => ?_
  refine W_seq ?_
  refine W_region mixed tys_ok (sup := []) (l := [(0, 0), (1, 0)]) (E' := [(0, .v 0 (.slice (.int .i64)) p0), (1, .v 0 (.slice (.int .i64)) p1)]) (obs := []) (by kernel_rfl) (trivial) ?_
  refine W_seq ?_
  refine W_seq ?_
  refine W_region mixed tys_ok (sup := []) (l := [(0, 0), (1, 0), (10, 0)]) (E' := [(0, .v 0 (.slice (.int .i64)) p0), (1, .v 0 (.slice (.int .i64)) p1), (10, .v 0 .bool ((p0.length : Int) != (p1.length : Int)))]) (obs := []) (by kernel_rfl) (trivial) ?_
  refine W_cond (β := (p0.length : Int) != (p1.length : Int)) (by kernel_rfl) (fun hb => ?_) (fun hb => ?_)
  · rw [cond_tt hb] at h
    refine W_seq ?_
    refine W_region mixed tys_ok (sup := []) (l := [(4, 0)]) (E' := [(4, .v 0 .bool false)]) (obs := []) (by kernel_rfl) (trivial) ?_
    refine W_keep (l := [(4, 0)]) (E' := [(4, .v 0 .bool false)]) (by kernel_rfl) ?_
    replace h : false = r := h
    subst h
    exact W_ret tys_ok hw0 (by kernel_rfl) (by kernel_rfl)
  · rw [cond_ff hb] at h
    refine W_skip ?_
    refine W_seq ?_
    refine W_seq ?_
    refine W_region mixed tys_ok (sup := []) (l := [(0, 0), (1, 0), (5, 0)]) (E' := [(0, .v 0 (.slice (.int .i64)) p0), (1, .v 0 (.slice (.int .i64)) p1), (5, .v 0 (.int .i64) (0 : Int))]) (obs := []) (by kernel_rfl) (trivial) ?_
    refine W_join h (Ej := fun (x : Unit) => []) (p := fun x => r11_Ints_j1) ?_ ?_
    · rintro ⟨⟩ h
      replace h : Leads _ (r11_Ints_j1) := h
      unfold r11_Ints_j1 at h
      show W _ _ _ _ _ _ []
      refine W_seq ?_
      refine W_region mixed tys_ok (sup := []) (l := [(4, 0)]) (E' := [(4, .v 0 .bool true)]) (obs := []) (by kernel_rfl) (trivial) ?_
      refine W_keep (l := [(4, 0)]) (E' := [(4, .v 0 .bool true)]) (by kernel_rfl) ?_
      replace h : true = r := h
      subst h
      exact W_ret tys_ok hw0 (by kernel_rfl) (by kernel_rfl)
    · intro j1
      refine W_block ?_
      refine W_keep (l := [(0, 0), (1, 0), (5, 0)]) (E' := [(0, .v 0 (.slice (.int .i64)) p0), (1, .v 0 (.slice (.int .i64)) p1), (5, .v 0 (.int .i64) (0 : Int))]) (by kernel_rfl) ?_
      refine W_loop' (En := fun (x : Int) => [(0, .v 0 (.slice (.int .i64)) p0), (1, .v 0 (.slice (.int .i64)) p1), (5, .v 0 (.int .i64) x)]) (x := (0 : Int)) h ?_
      rintro x1 K h
      replace h : Leads _ (r11_Ints_b1 p0 p1 x1) := h
      unfold r11_Ints_b1 at h
      show W _ _ _ _ _ _ [(0, .v 0 (.slice (.int .i64)) p0), (1, .v 0 (.slice (.int .i64)) p1), (5, .v 0 (.int .i64) x1)]
      refine W_seq ?_
      refine W_seq ?_
      refine W_region mixed tys_ok (sup := []) (l := [(0, 0), (1, 0), (5, 0), (14, 0)]) (E' := [(0, .v 0 (.slice (.int .i64)) p0), (1, .v 0 (.slice (.int .i64)) p1), (5, .v 0 (.int .i64) x1), (14, .v 0 .bool (decide (x1 < (p0.length : Int))))]) (obs := []) (by kernel_rfl) (trivial) ?_
      refine W_cond (β := decide (x1 < (p0.length : Int))) (by kernel_rfl) (fun hb => ?_) (fun hb => ?_)
      · rw [cond_tt hb] at h
        refine W_skip ?_
        refine W_seq ?_
        refine W_block ?_
        refine W_seq ?_
        obtain ⟨o1, h⟩ := h.ass
        obtain ⟨o2, h⟩ := h.ass
        refine W_region mixed tys_ok (sup := []) (l := [(0, 0), (1, 0), (5, 0), (25, 0)]) (E' := [(0, .v 0 (.slice (.int .i64)) p0), (1, .v 0 (.slice (.int .i64)) p1), (5, .v 0 (.int .i64) x1), (25, .v 0 .bool ((rd (0 : Int) p0 x1) != (rd (0 : Int) p1 x1)))]) (obs := [0 ≤ x1 ∧ x1 < (p0.length : Int), 0 ≤ x1 ∧ x1 < (p1.length : Int)]) (by kernel_rfl) (⟨o1, o2⟩) ?_
        refine W_cond (β := (rd (0 : Int) p0 x1) != (rd (0 : Int) p1 x1)) (by kernel_rfl) (fun hb => ?_) (fun hb => ?_)
        · rw [cond_tt hb] at h
          refine W_seq ?_
          refine W_region mixed tys_ok (sup := []) (l := [(4, 0)]) (E' := [(4, .v 0 .bool false)]) (obs := []) (by kernel_rfl) (trivial) ?_
          refine W_keep (l := [(4, 0)]) (E' := [(4, .v 0 .bool false)]) (by kernel_rfl) ?_
          replace h : false = r := h
          subst h
          exact W_ret tys_ok hw0 (by kernel_rfl) (by kernel_rfl)
        · rw [cond_ff hb] at h
          refine W_skip ?_
          refine W_blk ?_
          refine W_region mixed tys_ok (sup := []) (l := [(0, 0), (1, 0), (5, 0)]) (E' := [(0, .v 0 (.slice (.int .i64)) p0), (1, .v 0 (.slice (.int .i64)) p1), (5, .v 0 (.int .i64) (IntKind.i64.wrap (x1 + (1 : Int))))]) (obs := []) (by kernel_rfl) (trivial) ?_
          refine W_gen (x := IntKind.i64.wrap (x1 + (1 : Int))) (En := fun x2 => [(0, .v 0 (.slice (.int .i64)) p0), (1, .v 0 (.slice (.int .i64)) p1), (5, .v 0 (.int .i64) x2)]) h (fun x2 h => ?_)
          refine W_keep (l := [(0, 0), (1, 0), (5, 0)]) (E' := [(0, .v 0 (.slice (.int .i64)) p0), (1, .v 0 (.slice (.int .i64)) p1), (5, .v 0 (.int .i64) x2)]) (by kernel_rfl) ?_
          exact W_abs h
      · rw [cond_ff hb] at h
        refine W_exit rfl ?_
        refine W_keep (l := []) (E' := []) (by kernel_rfl) ?_
        exact j1 () h.back

noncomputable def r14_Same_j4 : Option (Bool) :=
  some true
noncomputable def r14_Same_b1 (p0 : D_api_State) (p1 : D_api_State) (x2 : Int) : Option (Int ⊕ Bool) :=
  bif decide (x2 < (p0.2.2.2.1.length : Int)) then
    ass (0 ≤ x2 ∧ x2 < (p0.2.2.2.1.length : Int)) <|
    ass (0 ≤ x2 ∧ x2 < (p1.2.2.2.1.length : Int)) <|
    bif !(Ty.beq T_api_Lock (rd z_api_Lock p0.2.2.2.1 x2) (rd z_api_Lock p1.2.2.2.1 x2)) then
      some (.inr false)
    else
      bnd (IntKind.i64.wrap (x2 + (1 : Int))) fun x3 =>
      some (.inl x3)
  else
    (r14_Same_j4).map .inr
noncomputable def r14_Same_j3 (p0 : D_api_State) (p1 : D_api_State) : Option (Bool) :=
  loopM (fun x : Int => r14_Same_b1 p0 p1 x) (0 : Int)
noncomputable def r14_Same_b2 (p0 : D_api_State) (p1 : D_api_State) (x4 : Int) : Option (Int ⊕ Bool) :=
  bif decide (x4 < (p0.2.2.1.length : Int)) then
    ass (0 ≤ x4 ∧ x4 < (p0.2.2.1.length : Int)) <|
    ass (0 ≤ x4 ∧ x4 < (p1.2.2.1.length : Int)) <|
    bif !(Ty.beq T_api_Thread (rd z_api_Thread p0.2.2.1 x4) (rd z_api_Thread p1.2.2.1 x4)) then
      some (.inr false)
    else
      bnd (IntKind.i64.wrap (x4 + (1 : Int))) fun x5 =>
      some (.inl x5)
  else
    (r14_Same_j3 p0 p1).map .inr
noncomputable def r14_Same_j2 (p0 : D_api_State) (p1 : D_api_State) : Option (Bool) :=
  loopM (fun x : Int => r14_Same_b2 p0 p1 x) (0 : Int)
noncomputable def r14_Same_b3 (p0 : D_api_State) (p1 : D_api_State) (x6 : Int) : Option (Int ⊕ Bool) :=
  bif decide (x6 < (p0.2.1.length : Int)) then
    ass (0 ≤ x6 ∧ x6 < (p0.2.1.length : Int)) <|
    ass (0 ≤ x6 ∧ x6 < (p1.2.1.length : Int)) <|
    bif !(Ty.beq T_api_Ticket (rd z_api_Ticket p0.2.1 x6) (rd z_api_Ticket p1.2.1 x6)) then
      some (.inr false)
    else
      bnd (IntKind.i64.wrap (x6 + (1 : Int))) fun x7 =>
      some (.inl x7)
  else
    (r14_Same_j2 p0 p1).map .inr
noncomputable def r14_Same_j1 (p0 : D_api_State) (p1 : D_api_State) : Option (Bool) :=
  loopM (fun x : Int => r14_Same_b3 p0 p1 x) (0 : Int)
noncomputable def r14_Same_b4 (p0 : D_api_State) (p1 : D_api_State) (x8 : Int) : Option (Int ⊕ Bool) :=
  bif decide (x8 < (p0.1.length : Int)) then
    ass (0 ≤ x8 ∧ x8 < (p0.1.length : Int)) <|
    ass (0 ≤ x8 ∧ x8 < (p1.1.length : Int)) <|
    bif (rd false p0.1 x8) != (rd false p1.1 x8) then
      some (.inr false)
    else
      bnd (IntKind.i64.wrap (x8 + (1 : Int))) fun x9 =>
      some (.inl x9)
  else
    (r14_Same_j1 p0 p1).map .inr
noncomputable def r14_Same (p0 : D_api_State) (p1 : D_api_State) : Option Bool :=
  (bif !(((((p0.2.2.2.2.2 != p1.2.2.2.2.2) || ((p0.1.length : Int) != (p1.1.length : Int))) || ((p0.2.1.length : Int) != (p1.2.1.length : Int))) || ((p0.2.2.1.length : Int) != (p1.2.2.1.length : Int))) || ((p0.2.2.2.1.length : Int) != (p1.2.2.2.1.length : Int))) then r11_Ints p0.2.2.2.2.1 p1.2.2.2.2.1 else some false).bind fun y1 =>
  bif (((((p0.2.2.2.2.2 != p1.2.2.2.2.2) || ((p0.1.length : Int) != (p1.1.length : Int))) || ((p0.2.1.length : Int) != (p1.2.1.length : Int))) || ((p0.2.2.1.length : Int) != (p1.2.2.1.length : Int))) || ((p0.2.2.2.1.length : Int) != (p1.2.2.2.1.length : Int))) || (!y1) then
    some false
  else
    loopM (fun x : Int => r14_Same_b4 p0 p1 x) (0 : Int)
theorem r14_Same.ok {p0 : D_api_State} {p1 : D_api_State} {r : Bool} (h : r14_Same p0 p1 = some r) : ACall prog 17 [⟨T_api_State, p0⟩, ⟨T_api_State, p1⟩] [⟨0, .bool, r⟩] := by
  replace h := Leads.of h
  unfold r14_Same at h
  refine acall_of func17 (by kernel_rfl) rfl (by kernel_rfl) fun w0 F0 hw0 => ?_
  refine W_seq ?_
  refine W_region mixed tys_ok (sup := []) (l := [(2, 0), (3, 0)]) (E' := [(2, .box 0 T_api_State p0), (3, .box 0 T_api_State p1)]) (obs := []) (by kernel_rfl) (trivial) ?_
  refine W_seq ?_
  refine W_seq ?_
  obtain ⟨y1, ey1, h⟩ := h.bind
  refine W_region mixed tys_ok (sup := [.res [(0, ⟨0, .bool, y1⟩)]]) (l := [(2, 0), (3, 0), (57, 0)]) (E' := [(2, .box 0 T_api_State p0), (3, .box 0 T_api_State p1), (57, .v 0 .bool ((((((p0.2.2.2.2.2 != p1.2.2.2.2.2) || ((p0.1.length : Int) != (p1.1.length : Int))) || ((p0.2.1.length : Int) != (p1.2.1.length : Int))) || ((p0.2.2.1.length : Int) != (p1.2.2.1.length : Int))) || ((p0.2.2.2.1.length : Int) != (p1.2.2.2.1.length : Int))) || (!y1)))]) (obs := [(!(((((p0.2.2.2.2.2 != p1.2.2.2.2.2) || ((p0.1.length : Int) != (p1.1.length : Int))) || ((p0.2.1.length : Int) != (p1.2.1.length : Int))) || ((p0.2.2.1.length : Int) != (p1.2.2.1.length : Int))) || ((p0.2.2.2.1.length : Int) != (p1.2.2.2.1.length : Int)))) = true → ACall prog 33 [⟨.slice (.int .i64), p0.2.2.2.2.1⟩, ⟨.slice (.int .i64), p1.2.2.2.2.1⟩] [⟨0, .bool, y1⟩]]) (by kernel_rfl) (fun hc => r11_Ints.ok (bif_some ey1 hc)) ?_
  refine W_cond (β := (((((p0.2.2.2.2.2 != p1.2.2.2.2.2) || ((p0.1.length : Int) != (p1.1.length : Int))) || ((p0.2.1.length : Int) != (p1.2.1.length : Int))) || ((p0.2.2.1.length : Int) != (p1.2.2.1.length : Int))) || ((p0.2.2.2.1.length : Int) != (p1.2.2.2.1.length : Int))) || (!y1)) (by kernel_rfl) (fun hb => ?_) (fun hb => ?_)
  · rw [cond_tt hb] at h
    refine W_seq ?_
    refine W_region mixed tys_ok (sup := []) (l := [(4, 0)]) (E' := [(4, .v 0 .bool false)]) (obs := []) (by kernel_rfl) (trivial) ?_
    refine W_keep (l := [(4, 0)]) (E' := [(4, .v 0 .bool false)]) (by kernel_rfl) ?_
    replace h : false = r := h
    subst h
    exact W_ret tys_ok hw0 (by kernel_rfl) (by kernel_rfl)
  · rw [cond_ff hb] at h
    refine W_skip ?_
    refine W_seq ?_
    refine W_seq ?_
    refine W_region mixed tys_ok (sup := []) (l := [(2, 0), (3, 0), (5, 0)]) (E' := [(2, .box 0 T_api_State p0), (3, .box 0 T_api_State p1), (5, .v 0 (.int .i64) (0 : Int))]) (obs := []) (by kernel_rfl) (trivial) ?_
    refine W_join h (Ej := fun (x : Unit) => [(2, .box 0 T_api_State p0), (3, .box 0 T_api_State p1)]) (p := fun x => r14_Same_j1 p0 p1) ?_ ?_
    · rintro ⟨⟩ h
      replace h : Leads _ (r14_Same_j1 p0 p1) := h
      unfold r14_Same_j1 at h
      show W _ _ _ _ _ _ [(2, .box 0 T_api_State p0), (3, .box 0 T_api_State p1)]
      refine W_seq ?_
      refine W_seq ?_
      refine W_region mixed tys_ok (sup := []) (l := [(2, 0), (3, 0), (6, 0)]) (E' := [(2, .box 0 T_api_State p0), (3, .box 0 T_api_State p1), (6, .v 0 (.int .i64) (0 : Int))]) (obs := []) (by kernel_rfl) (trivial) ?_
      refine W_join h (Ej := fun (x : Unit) => [(2, .box 0 T_api_State p0), (3, .box 0 T_api_State p1)]) (p := fun x => r14_Same_j2 p0 p1) ?_ ?_
      · rintro ⟨⟩ h
        replace h : Leads _ (r14_Same_j2 p0 p1) := h
        unfold r14_Same_j2 at h
        show W _ _ _ _ _ _ [(2, .box 0 T_api_State p0), (3, .box 0 T_api_State p1)]
        refine W_seq ?_
        refine W_seq ?_
        refine W_region mixed tys_ok (sup := []) (l := [(2, 0), (3, 0), (7, 0)]) (E' := [(2, .box 0 T_api_State p0), (3, .box 0 T_api_State p1), (7, .v 0 (.int .i64) (0 : Int))]) (obs := []) (by kernel_rfl) (trivial) ?_
        refine W_join h (Ej := fun (x : Unit) => [(2, .box 0 T_api_State p0), (3, .box 0 T_api_State p1)]) (p := fun x => r14_Same_j3 p0 p1) ?_ ?_
        · rintro ⟨⟩ h
          replace h : Leads _ (r14_Same_j3 p0 p1) := h
          unfold r14_Same_j3 at h
          show W _ _ _ _ _ _ [(2, .box 0 T_api_State p0), (3, .box 0 T_api_State p1)]
          refine W_seq ?_
          refine W_seq ?_
          refine W_region mixed tys_ok (sup := []) (l := [(2, 0), (3, 0), (8, 0)]) (E' := [(2, .box 0 T_api_State p0), (3, .box 0 T_api_State p1), (8, .v 0 (.int .i64) (0 : Int))]) (obs := []) (by kernel_rfl) (trivial) ?_
          refine W_join h (Ej := fun (x : Unit) => []) (p := fun x => r14_Same_j4) ?_ ?_
          · rintro ⟨⟩ h
            replace h : Leads _ (r14_Same_j4) := h
            unfold r14_Same_j4 at h
            show W _ _ _ _ _ _ []
            refine W_seq ?_
            refine W_region mixed tys_ok (sup := []) (l := [(4, 0)]) (E' := [(4, .v 0 .bool true)]) (obs := []) (by kernel_rfl) (trivial) ?_
            refine W_keep (l := [(4, 0)]) (E' := [(4, .v 0 .bool true)]) (by kernel_rfl) ?_
            replace h : true = r := h
            subst h
            exact W_ret tys_ok hw0 (by kernel_rfl) (by kernel_rfl)
          · intro j4
            refine W_block ?_
            refine W_keep (l := [(2, 0), (3, 0), (8, 0)]) (E' := [(2, .box 0 T_api_State p0), (3, .box 0 T_api_State p1), (8, .v 0 (.int .i64) (0 : Int))]) (by kernel_rfl) ?_
            refine W_loop' (En := fun (x : Int) => [(2, .box 0 T_api_State p0), (3, .box 0 T_api_State p1), (8, .v 0 (.int .i64) x)]) (x := (0 : Int)) h ?_
            rintro x2 K h
            replace h : Leads _ (r14_Same_b1 p0 p1 x2) := h
            unfold r14_Same_b1 at h
            show W _ _ _ _ _ _ [(2, .box 0 T_api_State p0), (3, .box 0 T_api_State p1), (8, .v 0 (.int .i64) x2)]
            refine W_seq ?_
            refine W_seq ?_
            refine W_region mixed tys_ok (sup := []) (l := [(2, 0), (3, 0), (8, 0), (116, 0)]) (E' := [(2, .box 0 T_api_State p0), (3, .box 0 T_api_State p1), (8, .v 0 (.int .i64) x2), (116, .v 0 .bool (decide (x2 < (p0.2.2.2.1.length : Int))))]) (obs := []) (by kernel_rfl) (trivial) ?_
            refine W_cond (β := decide (x2 < (p0.2.2.2.1.length : Int))) (by kernel_rfl) (fun hb => ?_) (fun hb => ?_)
            · rw [cond_tt hb] at h
              refine W_skip ?_
              refine W_seq ?_
              refine W_block ?_
              refine W_seq ?_
              obtain ⟨o1, h⟩ := h.ass
              obtain ⟨o2, h⟩ := h.ass
              refine W_region mixed tys_ok (sup := []) (l := [(2, 0), (3, 0), (8, 0), (129, 0)]) (E' := [(2, .box 0 T_api_State p0), (3, .box 0 T_api_State p1), (8, .v 0 (.int .i64) x2), (129, .v 0 .bool (!(Ty.beq T_api_Lock (rd z_api_Lock p0.2.2.2.1 x2) (rd z_api_Lock p1.2.2.2.1 x2))))]) (obs := [0 ≤ x2 ∧ x2 < (p0.2.2.2.1.length : Int), 0 ≤ x2 ∧ x2 < (p1.2.2.2.1.length : Int)]) (by kernel_rfl) (⟨o1, o2⟩) ?_
              refine W_cond (β := !(Ty.beq T_api_Lock (rd z_api_Lock p0.2.2.2.1 x2) (rd z_api_Lock p1.2.2.2.1 x2))) (by kernel_rfl) (fun hb => ?_) (fun hb => ?_)
              · rw [cond_tt hb] at h
                refine W_seq ?_
                refine W_region mixed tys_ok (sup := []) (l := [(4, 0)]) (E' := [(4, .v 0 .bool false)]) (obs := []) (by kernel_rfl) (trivial) ?_
                refine W_keep (l := [(4, 0)]) (E' := [(4, .v 0 .bool false)]) (by kernel_rfl) ?_
                replace h : false = r := h
                subst h
                exact W_ret tys_ok hw0 (by kernel_rfl) (by kernel_rfl)
              · rw [cond_ff hb] at h
                refine W_skip ?_
                refine W_blk ?_
                refine W_region mixed tys_ok (sup := []) (l := [(2, 0), (3, 0), (8, 0)]) (E' := [(2, .box 0 T_api_State p0), (3, .box 0 T_api_State p1), (8, .v 0 (.int .i64) (IntKind.i64.wrap (x2 + (1 : Int))))]) (obs := []) (by kernel_rfl) (trivial) ?_
                refine W_gen (x := IntKind.i64.wrap (x2 + (1 : Int))) (En := fun x3 => [(2, .box 0 T_api_State p0), (3, .box 0 T_api_State p1), (8, .v 0 (.int .i64) x3)]) h (fun x3 h => ?_)
                refine W_keep (l := [(2, 0), (3, 0), (8, 0)]) (E' := [(2, .box 0 T_api_State p0), (3, .box 0 T_api_State p1), (8, .v 0 (.int .i64) x3)]) (by kernel_rfl) ?_
                exact W_abs h
            · rw [cond_ff hb] at h
              refine W_exit rfl ?_
              refine W_keep (l := []) (E' := []) (by kernel_rfl) ?_
              exact j4 () h.back
        · intro j3
          refine W_block ?_
          refine W_keep (l := [(2, 0), (3, 0), (7, 0)]) (E' := [(2, .box 0 T_api_State p0), (3, .box 0 T_api_State p1), (7, .v 0 (.int .i64) (0 : Int))]) (by kernel_rfl) ?_
          refine W_loop' (En := fun (x : Int) => [(2, .box 0 T_api_State p0), (3, .box 0 T_api_State p1), (7, .v 0 (.int .i64) x)]) (x := (0 : Int)) h ?_
          rintro x4 K h
          replace h : Leads _ (r14_Same_b2 p0 p1 x4) := h
          unfold r14_Same_b2 at h
          show W _ _ _ _ _ _ [(2, .box 0 T_api_State p0), (3, .box 0 T_api_State p1), (7, .v 0 (.int .i64) x4)]
          refine W_seq ?_
          refine W_seq ?_
          refine W_region mixed tys_ok (sup := []) (l := [(2, 0), (3, 0), (7, 0), (98, 0)]) (E' := [(2, .box 0 T_api_State p0), (3, .box 0 T_api_State p1), (7, .v 0 (.int .i64) x4), (98, .v 0 .bool (decide (x4 < (p0.2.2.1.length : Int))))]) (obs := []) (by kernel_rfl) (trivial) ?_
          refine W_cond (β := decide (x4 < (p0.2.2.1.length : Int))) (by kernel_rfl) (fun hb => ?_) (fun hb => ?_)
          · rw [cond_tt hb] at h
            refine W_skip ?_
            refine W_seq ?_
            refine W_block ?_
            refine W_seq ?_
            obtain ⟨o1, h⟩ := h.ass
            obtain ⟨o2, h⟩ := h.ass
            refine W_region mixed tys_ok (sup := []) (l := [(2, 0), (3, 0), (7, 0), (111, 0)]) (E' := [(2, .box 0 T_api_State p0), (3, .box 0 T_api_State p1), (7, .v 0 (.int .i64) x4), (111, .v 0 .bool (!(Ty.beq T_api_Thread (rd z_api_Thread p0.2.2.1 x4) (rd z_api_Thread p1.2.2.1 x4))))]) (obs := [0 ≤ x4 ∧ x4 < (p0.2.2.1.length : Int), 0 ≤ x4 ∧ x4 < (p1.2.2.1.length : Int)]) (by kernel_rfl) (⟨o1, o2⟩) ?_
            refine W_cond (β := !(Ty.beq T_api_Thread (rd z_api_Thread p0.2.2.1 x4) (rd z_api_Thread p1.2.2.1 x4))) (by kernel_rfl) (fun hb => ?_) (fun hb => ?_)
            · rw [cond_tt hb] at h
              refine W_seq ?_
              refine W_region mixed tys_ok (sup := []) (l := [(4, 0)]) (E' := [(4, .v 0 .bool false)]) (obs := []) (by kernel_rfl) (trivial) ?_
              refine W_keep (l := [(4, 0)]) (E' := [(4, .v 0 .bool false)]) (by kernel_rfl) ?_
              replace h : false = r := h
              subst h
              exact W_ret tys_ok hw0 (by kernel_rfl) (by kernel_rfl)
            · rw [cond_ff hb] at h
              refine W_skip ?_
              refine W_blk ?_
              refine W_region mixed tys_ok (sup := []) (l := [(2, 0), (3, 0), (7, 0)]) (E' := [(2, .box 0 T_api_State p0), (3, .box 0 T_api_State p1), (7, .v 0 (.int .i64) (IntKind.i64.wrap (x4 + (1 : Int))))]) (obs := []) (by kernel_rfl) (trivial) ?_
              refine W_gen (x := IntKind.i64.wrap (x4 + (1 : Int))) (En := fun x5 => [(2, .box 0 T_api_State p0), (3, .box 0 T_api_State p1), (7, .v 0 (.int .i64) x5)]) h (fun x5 h => ?_)
              refine W_keep (l := [(2, 0), (3, 0), (7, 0)]) (E' := [(2, .box 0 T_api_State p0), (3, .box 0 T_api_State p1), (7, .v 0 (.int .i64) x5)]) (by kernel_rfl) ?_
              exact W_abs h
          · rw [cond_ff hb] at h
            refine W_exit rfl ?_
            refine W_keep (l := [(2, 0), (3, 0)]) (E' := [(2, .box 0 T_api_State p0), (3, .box 0 T_api_State p1)]) (by kernel_rfl) ?_
            exact j3 () h.back
      · intro j2
        refine W_block ?_
        refine W_keep (l := [(2, 0), (3, 0), (6, 0)]) (E' := [(2, .box 0 T_api_State p0), (3, .box 0 T_api_State p1), (6, .v 0 (.int .i64) (0 : Int))]) (by kernel_rfl) ?_
        refine W_loop' (En := fun (x : Int) => [(2, .box 0 T_api_State p0), (3, .box 0 T_api_State p1), (6, .v 0 (.int .i64) x)]) (x := (0 : Int)) h ?_
        rintro x6 K h
        replace h : Leads _ (r14_Same_b3 p0 p1 x6) := h
        unfold r14_Same_b3 at h
        show W _ _ _ _ _ _ [(2, .box 0 T_api_State p0), (3, .box 0 T_api_State p1), (6, .v 0 (.int .i64) x6)]
        refine W_seq ?_
        refine W_seq ?_
        refine W_region mixed tys_ok (sup := []) (l := [(2, 0), (3, 0), (6, 0), (80, 0)]) (E' := [(2, .box 0 T_api_State p0), (3, .box 0 T_api_State p1), (6, .v 0 (.int .i64) x6), (80, .v 0 .bool (decide (x6 < (p0.2.1.length : Int))))]) (obs := []) (by kernel_rfl) (trivial) ?_
        refine W_cond (β := decide (x6 < (p0.2.1.length : Int))) (by kernel_rfl) (fun hb => ?_) (fun hb => ?_)
        · rw [cond_tt hb] at h
          refine W_skip ?_
          refine W_seq ?_
          refine W_block ?_
          refine W_seq ?_
          obtain ⟨o1, h⟩ := h.ass
          obtain ⟨o2, h⟩ := h.ass
          refine W_region mixed tys_ok (sup := []) (l := [(2, 0), (3, 0), (6, 0), (93, 0)]) (E' := [(2, .box 0 T_api_State p0), (3, .box 0 T_api_State p1), (6, .v 0 (.int .i64) x6), (93, .v 0 .bool (!(Ty.beq T_api_Ticket (rd z_api_Ticket p0.2.1 x6) (rd z_api_Ticket p1.2.1 x6))))]) (obs := [0 ≤ x6 ∧ x6 < (p0.2.1.length : Int), 0 ≤ x6 ∧ x6 < (p1.2.1.length : Int)]) (by kernel_rfl) (⟨o1, o2⟩) ?_
          refine W_cond (β := !(Ty.beq T_api_Ticket (rd z_api_Ticket p0.2.1 x6) (rd z_api_Ticket p1.2.1 x6))) (by kernel_rfl) (fun hb => ?_) (fun hb => ?_)
          · rw [cond_tt hb] at h
            refine W_seq ?_
            refine W_region mixed tys_ok (sup := []) (l := [(4, 0)]) (E' := [(4, .v 0 .bool false)]) (obs := []) (by kernel_rfl) (trivial) ?_
            refine W_keep (l := [(4, 0)]) (E' := [(4, .v 0 .bool false)]) (by kernel_rfl) ?_
            replace h : false = r := h
            subst h
            exact W_ret tys_ok hw0 (by kernel_rfl) (by kernel_rfl)
          · rw [cond_ff hb] at h
            refine W_skip ?_
            refine W_blk ?_
            refine W_region mixed tys_ok (sup := []) (l := [(2, 0), (3, 0), (6, 0)]) (E' := [(2, .box 0 T_api_State p0), (3, .box 0 T_api_State p1), (6, .v 0 (.int .i64) (IntKind.i64.wrap (x6 + (1 : Int))))]) (obs := []) (by kernel_rfl) (trivial) ?_
            refine W_gen (x := IntKind.i64.wrap (x6 + (1 : Int))) (En := fun x7 => [(2, .box 0 T_api_State p0), (3, .box 0 T_api_State p1), (6, .v 0 (.int .i64) x7)]) h (fun x7 h => ?_)
            refine W_keep (l := [(2, 0), (3, 0), (6, 0)]) (E' := [(2, .box 0 T_api_State p0), (3, .box 0 T_api_State p1), (6, .v 0 (.int .i64) x7)]) (by kernel_rfl) ?_
            exact W_abs h
        · rw [cond_ff hb] at h
          refine W_exit rfl ?_
          refine W_keep (l := [(2, 0), (3, 0)]) (E' := [(2, .box 0 T_api_State p0), (3, .box 0 T_api_State p1)]) (by kernel_rfl) ?_
          exact j2 () h.back
    · intro j1
      refine W_block ?_
      refine W_keep (l := [(2, 0), (3, 0), (5, 0)]) (E' := [(2, .box 0 T_api_State p0), (3, .box 0 T_api_State p1), (5, .v 0 (.int .i64) (0 : Int))]) (by kernel_rfl) ?_
      refine W_loop' (En := fun (x : Int) => [(2, .box 0 T_api_State p0), (3, .box 0 T_api_State p1), (5, .v 0 (.int .i64) x)]) (x := (0 : Int)) h ?_
      rintro x8 K h
      replace h : Leads _ (r14_Same_b4 p0 p1 x8) := h
      unfold r14_Same_b4 at h
      show W _ _ _ _ _ _ [(2, .box 0 T_api_State p0), (3, .box 0 T_api_State p1), (5, .v 0 (.int .i64) x8)]
      refine W_seq ?_
      refine W_seq ?_
      refine W_region mixed tys_ok (sup := []) (l := [(2, 0), (3, 0), (5, 0), (62, 0)]) (E' := [(2, .box 0 T_api_State p0), (3, .box 0 T_api_State p1), (5, .v 0 (.int .i64) x8), (62, .v 0 .bool (decide (x8 < (p0.1.length : Int))))]) (obs := []) (by kernel_rfl) (trivial) ?_
      refine W_cond (β := decide (x8 < (p0.1.length : Int))) (by kernel_rfl) (fun hb => ?_) (fun hb => ?_)
      · rw [cond_tt hb] at h
        refine W_skip ?_
        refine W_seq ?_
        refine W_block ?_
        refine W_seq ?_
        obtain ⟨o1, h⟩ := h.ass
        obtain ⟨o2, h⟩ := h.ass
        refine W_region mixed tys_ok (sup := []) (l := [(2, 0), (3, 0), (5, 0), (75, 0)]) (E' := [(2, .box 0 T_api_State p0), (3, .box 0 T_api_State p1), (5, .v 0 (.int .i64) x8), (75, .v 0 .bool ((rd false p0.1 x8) != (rd false p1.1 x8)))]) (obs := [0 ≤ x8 ∧ x8 < (p0.1.length : Int), 0 ≤ x8 ∧ x8 < (p1.1.length : Int)]) (by kernel_rfl) (⟨o1, o2⟩) ?_
        refine W_cond (β := (rd false p0.1 x8) != (rd false p1.1 x8)) (by kernel_rfl) (fun hb => ?_) (fun hb => ?_)
        · rw [cond_tt hb] at h
          refine W_seq ?_
          refine W_region mixed tys_ok (sup := []) (l := [(4, 0)]) (E' := [(4, .v 0 .bool false)]) (obs := []) (by kernel_rfl) (trivial) ?_
          refine W_keep (l := [(4, 0)]) (E' := [(4, .v 0 .bool false)]) (by kernel_rfl) ?_
          replace h : false = r := h
          subst h
          exact W_ret tys_ok hw0 (by kernel_rfl) (by kernel_rfl)
        · rw [cond_ff hb] at h
          refine W_skip ?_
          refine W_blk ?_
          refine W_region mixed tys_ok (sup := []) (l := [(2, 0), (3, 0), (5, 0)]) (E' := [(2, .box 0 T_api_State p0), (3, .box 0 T_api_State p1), (5, .v 0 (.int .i64) (IntKind.i64.wrap (x8 + (1 : Int))))]) (obs := []) (by kernel_rfl) (trivial) ?_
          refine W_gen (x := IntKind.i64.wrap (x8 + (1 : Int))) (En := fun x9 => [(2, .box 0 T_api_State p0), (3, .box 0 T_api_State p1), (5, .v 0 (.int .i64) x9)]) h (fun x9 h => ?_)
          refine W_keep (l := [(2, 0), (3, 0), (5, 0)]) (E' := [(2, .box 0 T_api_State p0), (3, .box 0 T_api_State p1), (5, .v 0 (.int .i64) x9)]) (by kernel_rfl) ?_
          exact W_abs h
      · rw [cond_ff hb] at h
        refine W_exit rfl ?_
        refine W_keep (l := [(2, 0), (3, 0)]) (E' := [(2, .box 0 T_api_State p0), (3, .box 0 T_api_State p1)]) (by kernel_rfl) ?_
        exact j1 () h.back

noncomputable def l26_CallBack (p0 : D_api_State) (p1 : Int) (p2 : Int) : Option Bool :=
  (r14_Small p0).bind fun y1 =>
  (bif !(!y1) then r14_Fine p0 else some false).bind fun y2 =>
  bif (!y1) || (!y2) then
    (l26_alive).bind fun y3 =>
    some y3
  else
    (r24_Running p0).bind fun y4 =>
    (call_Call p0 p1 p2).bind fun y5 =>
    bif (y5.2.1 != (0 : Int)) || (y5.2.2 != (1 : Int)) then
      (l26_alive).bind fun y6 =>
      some y6
    else
      (r14_Copy y5.1).bind fun y7 =>
      ass (0 ≤ p1 ∧ p1 < (y7.2.2.1.length : Int)) <|
      bnd ((y7.1, y7.2.1, wr y7.2.2.1 p1 ((3 : Int), (rd z_api_Thread y7.2.2.1 p1).2), y7.2.2.2)) fun x8 =>
      (call_Answer x8).bind fun y9 =>
      bif !(Ty.beq T_api_Reply y9.2 ((0 : Int), y4)) then
        some false
      else
        (r14_Copy p0).bind fun y10 =>
        ass (0 ≤ p1 ∧ p1 < (y10.2.2.1.length : Int)) <|
        bnd ((y10.1, y10.2.1, wr y10.2.2.1 p1 ((3 : Int), (rd z_api_Thread y10.2.2.1 p1).2), y10.2.2.2)) fun x11 =>
        ass (0 ≤ y4 ∧ y4 < (y9.1.2.2.1.length : Int)) <|
        ass (0 ≤ y4 ∧ y4 < (x11.2.2.1.length : Int)) <|
        bnd ((x11.1, x11.2.1, wr x11.2.2.1 y4 (rd z_api_Thread y9.1.2.2.1 y4), x11.2.2.2)) fun x12 =>
        (r14_Same y9.1 x12).bind fun y13 =>
        ass (y13 = true → 0 ≤ y4 ∧ y4 < (y9.1.2.2.1.length : Int)) <|
        ass ((y13 && ((rd z_api_Thread y9.1.2.2.1 y4).1 == (2 : Int))) = true → 0 ≤ y4 ∧ y4 < (y9.1.2.2.1.length : Int)) <|
        ass ((y13 && ((rd z_api_Thread y9.1.2.2.1 y4).1 == (2 : Int))) = true → 0 ≤ y4 ∧ y4 < (p0.2.2.1.length : Int)) <|
        (bif (y13 && ((rd z_api_Thread y9.1.2.2.1 y4).1 == (2 : Int))) && ((rd z_api_Thread y9.1.2.2.1 y4).2.2.1 == (rd z_api_Thread p0.2.2.1 y4).2.2.1) then r14_Fine y9.1 else some false).bind fun y14 =>
        (bif ((y13 && ((rd z_api_Thread y9.1.2.2.1 y4).1 == (2 : Int))) && ((rd z_api_Thread y9.1.2.2.1 y4).2.2.1 == (rd z_api_Thread p0.2.2.1 y4).2.2.1)) && y14 then l26_alive else some false).bind fun y15 =>
        bnd ((((y13 && ((rd z_api_Thread y9.1.2.2.1 y4).1 == (2 : Int))) && ((rd z_api_Thread y9.1.2.2.1 y4).2.2.1 == (rd z_api_Thread p0.2.2.1 y4).2.2.1)) && y14) && y15) fun x16 =>
        some x16
theorem l26_CallBack.ok {p0 : D_api_State} {p1 : Int} {p2 : Int} {r : Bool} (h : l26_CallBack p0 p1 p2 = some r) : ACall prog 4 [⟨T_api_State, p0⟩, ⟨.int .i64, p1⟩, ⟨.int .i64, p2⟩] [⟨0, .bool, r⟩] := by
  replace h := Leads.of h
  unfold l26_CallBack at h
  refine acall_of func4 (by kernel_rfl) rfl (by kernel_rfl) fun w0 F0 hw0 => ?_
  refine W_seq ?_
  refine W_region mixed tys_ok (sup := []) (l := [(1, 0), (2, 0), (3, 0)]) (E' := [(1, .v 0 (.int .i64) p1), (2, .v 0 (.int .i64) p2), (3, .box 0 T_api_State p0)]) (obs := []) (by kernel_rfl) (trivial) ?_
  refine W_seq ?_
  refine W_seq ?_
  obtain ⟨y1, ey1, h⟩ := h.bind
  obtain ⟨y2, ey2, h⟩ := h.bind
  refine W_region mixed tys_ok (sup := [.res [(0, ⟨0, .bool, y1⟩)], .res [(0, ⟨0, .bool, y2⟩)]]) (l := [(1, 0), (2, 0), (3, 0), (20, 0)]) (E' := [(1, .v 0 (.int .i64) p1), (2, .v 0 (.int .i64) p2), (3, .box 0 T_api_State p0), (20, .v 0 .bool ((!y1) || (!y2)))]) (obs := [ACall prog 11 [⟨T_api_State, p0⟩] [⟨0, .bool, y1⟩], (!(!y1)) = true → ACall prog 13 [⟨T_api_State, p0⟩] [⟨0, .bool, y2⟩]]) (by kernel_rfl) (⟨r14_Small.ok ey1, fun hc => r14_Fine.ok (bif_some ey2 hc)⟩) ?_
  refine W_cond (β := (!y1) || (!y2)) (by kernel_rfl) (fun hb => ?_) (fun hb => ?_)
  · rw [cond_tt hb] at h
    refine W_seq ?_
    obtain ⟨y3, ey3, h⟩ := h.bind
    refine W_region mixed tys_ok (sup := [.res [(0, ⟨0, .bool, y3⟩)]]) (l := [(6, 0)]) (E' := [(6, .v 0 .bool y3)]) (obs := [ACall prog 14 [] [⟨0, .bool, y3⟩]]) (by kernel_rfl) (l26_alive.ok ey3) ?_
    refine W_keep (l := [(6, 0)]) (E' := [(6, .v 0 .bool y3)]) (by kernel_rfl) ?_
    replace h : y3 = r := h
    subst h
    exact W_ret tys_ok hw0 (by kernel_rfl) (by kernel_rfl)
  · rw [cond_ff hb] at h
    refine W_skip ?_
    refine W_seq ?_
    obtain ⟨y4, ey4, h⟩ := h.bind
    refine W_region mixed tys_ok (sup := [.res [(0, ⟨0, .int .i64, y4⟩)]]) (l := [(1, 0), (2, 0), (3, 0), (7, 0)]) (E' := [(1, .v 0 (.int .i64) p1), (2, .v 0 (.int .i64) p2), (3, .box 0 T_api_State p0), (7, .v 0 (.int .i64) y4)]) (obs := [ACall prog 15 [⟨T_api_State, p0⟩] [⟨0, .int .i64, y4⟩]]) (by kernel_rfl) (r24_Running.ok ey4) ?_
    refine W_seq ?_
    obtain ⟨y5, ey5, h⟩ := h.bind
    refine W_region mixed tys_ok (sup := [.res [((.pr 9 (.pr 9 (.pr 9 (.pr 9 (.pr 9 0))))), ⟨(.pr 9 (.pr 9 (.pr 9 (.pr 9 (.pr 9 0))))), T_api_State, y5.1⟩), (0, ⟨0, T_api_Reply, y5.2⟩)]]) (l := [(1, 0), (3, 0), (7, 0), (8, (.pr 9 (.pr 9 (.pr 9 (.pr 9 (.pr 9 0)))))), (9, 9)]) (E' := [(1, .v 0 (.int .i64) p1), (3, .box 0 T_api_State p0), (7, .v 0 (.int .i64) y4), (8, .box (.pr 9 (.pr 9 (.pr 9 (.pr 9 (.pr 9 0))))) T_api_State y5.1), (9, .box 9 T_api_Reply y5.2)]) (obs := [ACall prog 16 [⟨T_api_State, p0⟩, ⟨.int .i64, p1⟩, ⟨.int .i64, p2⟩] [⟨(.pr 9 (.pr 9 (.pr 9 (.pr 9 (.pr 9 0))))), T_api_State, y5.1⟩, ⟨0, T_api_Reply, y5.2⟩]]) (by kernel_rfl) (call_Call.ok ey5) ?_
    refine W_seq ?_
    refine W_seq ?_
    refine W_region mixed tys_ok (sup := []) (l := [(1, 0), (3, 0), (7, 0), (8, (.pr 9 (.pr 9 (.pr 9 (.pr 9 (.pr 9 0)))))), (38, 0)]) (E' := [(1, .v 0 (.int .i64) p1), (3, .box 0 T_api_State p0), (7, .v 0 (.int .i64) y4), (8, .box (.pr 9 (.pr 9 (.pr 9 (.pr 9 (.pr 9 0))))) T_api_State y5.1), (38, .v 0 .bool ((y5.2.1 != (0 : Int)) || (y5.2.2 != (1 : Int))))]) (obs := []) (by kernel_rfl) (trivial) ?_
    refine W_cond (β := (y5.2.1 != (0 : Int)) || (y5.2.2 != (1 : Int))) (by kernel_rfl) (fun hb => ?_) (fun hb => ?_)
    · rw [cond_tt hb] at h
      refine W_seq ?_
      obtain ⟨y6, ey6, h⟩ := h.bind
      refine W_region mixed tys_ok (sup := [.res [(0, ⟨0, .bool, y6⟩)]]) (l := [(6, 0)]) (E' := [(6, .v 0 .bool y6)]) (obs := [ACall prog 14 [] [⟨0, .bool, y6⟩]]) (by kernel_rfl) (l26_alive.ok ey6) ?_
      refine W_keep (l := [(6, 0)]) (E' := [(6, .v 0 .bool y6)]) (by kernel_rfl) ?_
      replace h : y6 = r := h
      subst h
      exact W_ret tys_ok hw0 (by kernel_rfl) (by kernel_rfl)
    · rw [cond_ff hb] at h
      refine W_skip ?_
      refine W_seq ?_
      obtain ⟨y7, ey7, h⟩ := h.bind
      refine W_region mixed tys_ok (sup := [.res [((.pr 9 (.pr 9 (.pr 9 (.pr 9 (.pr 9 0))))), ⟨(.pr 9 (.pr 9 (.pr 9 (.pr 9 (.pr 9 0))))), T_api_State, y7⟩)]]) (l := [(1, 0), (3, 0), (7, 0), (8, (.pr 9 (.pr 9 (.pr 9 (.pr 9 (.pr 9 0))))))]) (E' := [(1, .v 0 (.int .i64) p1), (3, .box 0 T_api_State p0), (7, .v 0 (.int .i64) y4), (8, .box (.pr 9 (.pr 9 (.pr 9 (.pr 9 (.pr 9 0))))) T_api_State y7)]) (obs := [ACall prog 25 [⟨T_api_State, y5.1⟩] [⟨(.pr 9 (.pr 9 (.pr 9 (.pr 9 (.pr 9 0))))), T_api_State, y7⟩]]) (by kernel_rfl) (r14_Copy.ok ey7) ?_
      refine W_seq ?_
      obtain ⟨o1, h⟩ := h.ass
      refine W_region mixed tys_ok (sup := []) (l := [(1, 0), (3, 0), (7, 0), (8, (.pr 9 (.pr 9 (.pr 9 (.pr 9 (.pr 9 0))))))]) (E' := [(1, .v 0 (.int .i64) p1), (3, .box 0 T_api_State p0), (7, .v 0 (.int .i64) y4), (8, .box (.pr 9 (.pr 9 (.pr 9 (.pr 9 (.pr 9 0))))) T_api_State (y7.1, y7.2.1, wr y7.2.2.1 p1 ((3 : Int), (rd z_api_Thread y7.2.2.1 p1).2), y7.2.2.2))]) (obs := [0 ≤ p1 ∧ p1 < (y7.2.2.1.length : Int)]) (by kernel_rfl) (o1) ?_
      refine W_gen (x := (y7.1, y7.2.1, wr y7.2.2.1 p1 ((3 : Int), (rd z_api_Thread y7.2.2.1 p1).2), y7.2.2.2)) (En := fun x8 => [(1, .v 0 (.int .i64) p1), (3, .box 0 T_api_State p0), (7, .v 0 (.int .i64) y4), (8, .box (.pr 9 (.pr 9 (.pr 9 (.pr 9 (.pr 9 0))))) T_api_State x8)]) h (fun x8 h => ?_)
      refine W_seq ?_
      obtain ⟨y9, ey9, h⟩ := h.bind
      refine W_region mixed tys_ok (sup := [.res [((.pr 9 (.pr 9 (.pr 9 (.pr 9 (.pr 9 0))))), ⟨(.pr 9 (.pr 9 (.pr 9 (.pr 9 (.pr 9 0))))), T_api_State, y9.1⟩), (0, ⟨0, T_api_Reply, y9.2⟩)]]) (l := [(1, 0), (3, 0), (7, 0), (10, (.pr 9 (.pr 9 (.pr 9 (.pr 9 (.pr 9 0)))))), (11, 9)]) (E' := [(1, .v 0 (.int .i64) p1), (3, .box 0 T_api_State p0), (7, .v 0 (.int .i64) y4), (10, .box (.pr 9 (.pr 9 (.pr 9 (.pr 9 (.pr 9 0))))) T_api_State y9.1), (11, .box 9 T_api_Reply y9.2)]) (obs := [ACall prog 26 [⟨T_api_State, x8⟩] [⟨(.pr 9 (.pr 9 (.pr 9 (.pr 9 (.pr 9 0))))), T_api_State, y9.1⟩, ⟨0, T_api_Reply, y9.2⟩]]) (by kernel_rfl) (call_Answer.ok ey9) ?_
      refine W_seq ?_
      refine W_seq ?_
      refine W_region mixed tys_ok (sup := []) (l := [(1, 0), (3, 0), (7, 0), (10, (.pr 9 (.pr 9 (.pr 9 (.pr 9 (.pr 9 0)))))), (55, 0)]) (E' := [(1, .v 0 (.int .i64) p1), (3, .box 0 T_api_State p0), (7, .v 0 (.int .i64) y4), (10, .box (.pr 9 (.pr 9 (.pr 9 (.pr 9 (.pr 9 0))))) T_api_State y9.1), (55, .v 0 .bool (!(Ty.beq T_api_Reply y9.2 ((0 : Int), y4))))]) (obs := []) (by kernel_rfl) (trivial) ?_
      refine W_cond (β := !(Ty.beq T_api_Reply y9.2 ((0 : Int), y4))) (by kernel_rfl) (fun hb => ?_) (fun hb => ?_)
      · rw [cond_tt hb] at h
        refine W_seq ?_
        refine W_region mixed tys_ok (sup := []) (l := [(6, 0)]) (E' := [(6, .v 0 .bool false)]) (obs := []) (by kernel_rfl) (trivial) ?_
        refine W_keep (l := [(6, 0)]) (E' := [(6, .v 0 .bool false)]) (by kernel_rfl) ?_
        replace h : false = r := h
        subst h
        exact W_ret tys_ok hw0 (by kernel_rfl) (by kernel_rfl)
      · rw [cond_ff hb] at h
        refine W_skip ?_
        refine W_seq ?_
        obtain ⟨y10, ey10, h⟩ := h.bind
        refine W_region mixed tys_ok (sup := [.res [((.pr 9 (.pr 9 (.pr 9 (.pr 9 (.pr 9 0))))), ⟨(.pr 9 (.pr 9 (.pr 9 (.pr 9 (.pr 9 0))))), T_api_State, y10⟩)]]) (l := [(1, 0), (3, 0), (7, 0), (10, (.pr 9 (.pr 9 (.pr 9 (.pr 9 (.pr 9 0)))))), (12, (.pr 9 (.pr 9 (.pr 9 (.pr 9 (.pr 9 0))))))]) (E' := [(1, .v 0 (.int .i64) p1), (3, .box 0 T_api_State p0), (7, .v 0 (.int .i64) y4), (10, .box (.pr 9 (.pr 9 (.pr 9 (.pr 9 (.pr 9 0))))) T_api_State y9.1), (12, .box (.pr 9 (.pr 9 (.pr 9 (.pr 9 (.pr 9 0))))) T_api_State y10)]) (obs := [ACall prog 25 [⟨T_api_State, p0⟩] [⟨(.pr 9 (.pr 9 (.pr 9 (.pr 9 (.pr 9 0))))), T_api_State, y10⟩]]) (by kernel_rfl) (r14_Copy.ok ey10) ?_
        refine W_seq ?_
        obtain ⟨o1, h⟩ := h.ass
        refine W_region mixed tys_ok (sup := []) (l := [(3, 0), (7, 0), (10, (.pr 9 (.pr 9 (.pr 9 (.pr 9 (.pr 9 0)))))), (12, (.pr 9 (.pr 9 (.pr 9 (.pr 9 (.pr 9 0))))))]) (E' := [(3, .box 0 T_api_State p0), (7, .v 0 (.int .i64) y4), (10, .box (.pr 9 (.pr 9 (.pr 9 (.pr 9 (.pr 9 0))))) T_api_State y9.1), (12, .box (.pr 9 (.pr 9 (.pr 9 (.pr 9 (.pr 9 0))))) T_api_State (y10.1, y10.2.1, wr y10.2.2.1 p1 ((3 : Int), (rd z_api_Thread y10.2.2.1 p1).2), y10.2.2.2))]) (obs := [0 ≤ p1 ∧ p1 < (y10.2.2.1.length : Int)]) (by kernel_rfl) (o1) ?_
        refine W_gen (x := (y10.1, y10.2.1, wr y10.2.2.1 p1 ((3 : Int), (rd z_api_Thread y10.2.2.1 p1).2), y10.2.2.2)) (En := fun x11 => [(3, .box 0 T_api_State p0), (7, .v 0 (.int .i64) y4), (10, .box (.pr 9 (.pr 9 (.pr 9 (.pr 9 (.pr 9 0))))) T_api_State y9.1), (12, .box (.pr 9 (.pr 9 (.pr 9 (.pr 9 (.pr 9 0))))) T_api_State x11)]) h (fun x11 h => ?_)
        refine W_seq ?_
        obtain ⟨o1, h⟩ := h.ass
        obtain ⟨o2, h⟩ := h.ass
        refine W_region mixed tys_ok (sup := []) (l := [(3, 0), (7, 0), (10, (.pr 9 (.pr 9 (.pr 9 (.pr 9 (.pr 9 0)))))), (12, (.pr 9 (.pr 9 (.pr 9 (.pr 9 (.pr 9 0))))))]) (E' := [(3, .box 0 T_api_State p0), (7, .v 0 (.int .i64) y4), (10, .box (.pr 9 (.pr 9 (.pr 9 (.pr 9 (.pr 9 0))))) T_api_State y9.1), (12, .box (.pr 9 (.pr 9 (.pr 9 (.pr 9 (.pr 9 0))))) T_api_State (x11.1, x11.2.1, wr x11.2.2.1 y4 (rd z_api_Thread y9.1.2.2.1 y4), x11.2.2.2))]) (obs := [0 ≤ y4 ∧ y4 < (y9.1.2.2.1.length : Int), 0 ≤ y4 ∧ y4 < (x11.2.2.1.length : Int)]) (by kernel_rfl) (⟨o1, o2⟩) ?_
        refine W_gen (x := (x11.1, x11.2.1, wr x11.2.2.1 y4 (rd z_api_Thread y9.1.2.2.1 y4), x11.2.2.2)) (En := fun x12 => [(3, .box 0 T_api_State p0), (7, .v 0 (.int .i64) y4), (10, .box (.pr 9 (.pr 9 (.pr 9 (.pr 9 (.pr 9 0))))) T_api_State y9.1), (12, .box (.pr 9 (.pr 9 (.pr 9 (.pr 9 (.pr 9 0))))) T_api_State x12)]) h (fun x12 h => ?_)
        refine W_seq ?_
        obtain ⟨y13, ey13, h⟩ := h.bind
        obtain ⟨o1, h⟩ := h.ass
        obtain ⟨o2, h⟩ := h.ass
        obtain ⟨o3, h⟩ := h.ass
        obtain ⟨y14, ey14, h⟩ := h.bind
        obtain ⟨y15, ey15, h⟩ := h.bind
        refine W_region mixed tys_ok (sup := [.res [(0, ⟨0, .bool, y13⟩)], .res [(0, ⟨0, .bool, y14⟩)], .res [(0, ⟨0, .bool, y15⟩)]]) (l := [(6, 0)]) (E' := [(6, .v 0 .bool ((((y13 && ((rd z_api_Thread y9.1.2.2.1 y4).1 == (2 : Int))) && ((rd z_api_Thread y9.1.2.2.1 y4).2.2.1 == (rd z_api_Thread p0.2.2.1 y4).2.2.1)) && y14) && y15))]) (obs := [ACall prog 17 [⟨T_api_State, y9.1⟩, ⟨T_api_State, x12⟩] [⟨0, .bool, y13⟩], y13 = true → 0 ≤ y4 ∧ y4 < (y9.1.2.2.1.length : Int), (y13 && ((rd z_api_Thread y9.1.2.2.1 y4).1 == (2 : Int))) = true → 0 ≤ y4 ∧ y4 < (y9.1.2.2.1.length : Int), (y13 && ((rd z_api_Thread y9.1.2.2.1 y4).1 == (2 : Int))) = true → 0 ≤ y4 ∧ y4 < (p0.2.2.1.length : Int), ((y13 && ((rd z_api_Thread y9.1.2.2.1 y4).1 == (2 : Int))) && ((rd z_api_Thread y9.1.2.2.1 y4).2.2.1 == (rd z_api_Thread p0.2.2.1 y4).2.2.1)) = true → ACall prog 13 [⟨T_api_State, y9.1⟩] [⟨0, .bool, y14⟩], (((y13 && ((rd z_api_Thread y9.1.2.2.1 y4).1 == (2 : Int))) && ((rd z_api_Thread y9.1.2.2.1 y4).2.2.1 == (rd z_api_Thread p0.2.2.1 y4).2.2.1)) && y14) = true → ACall prog 14 [] [⟨0, .bool, y15⟩]]) (by kernel_rfl) (⟨r14_Same.ok ey13, o1, o2, o3, fun hc => r14_Fine.ok (bif_some ey14 hc), fun hc => l26_alive.ok (bif_some ey15 hc)⟩) ?_
        refine W_gen (x := (((y13 && ((rd z_api_Thread y9.1.2.2.1 y4).1 == (2 : Int))) && ((rd z_api_Thread y9.1.2.2.1 y4).2.2.1 == (rd z_api_Thread p0.2.2.1 y4).2.2.1)) && y14) && y15) (En := fun x16 => [(6, .v 0 .bool x16)]) h (fun x16 h => ?_)
        refine W_keep (l := [(6, 0)]) (E' := [(6, .v 0 .bool x16)]) (by kernel_rfl) ?_
        replace h : x16 = r := h
        subst h
        exact W_ret tys_ok hw0 (by kernel_rfl) (by kernel_rfl)

end Go.Tom
