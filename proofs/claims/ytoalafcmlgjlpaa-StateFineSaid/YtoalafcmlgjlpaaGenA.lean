/- Each function of the program as a pure one, and the proof that the code keeps that contract. -/
import Derived.Test.YtoalafcmlgjlpaaGenT
set_option linter.unusedVariables false
set_option linter.constructorNameAsVariable false
set_option maxRecDepth 100000
namespace Go.Tom
open Go Go.Proofs.Try
noncomputable def r14_Small (p0 : D_api_State) : Option Bool :=
  bnd (((((decide ((p0.1.length : Int) ≤ (40 : Int))) && (decide ((p0.2.1.length : Int) ≤ (200 : Int)))) && (decide ((p0.2.2.1.length : Int) ≤ (80 : Int)))) && (decide ((p0.2.2.2.1.length : Int) ≤ (40 : Int)))) && (decide ((p0.2.2.2.2.1.length : Int) ≤ (100 : Int)))) fun x1 =>
  some x1
theorem r14_Small.ok {p0 : D_api_State} {r : Bool} (h : r14_Small p0 = some r) : ACall prog 11 [⟨T_api_State, p0⟩] [⟨0, .bool, r⟩] := by
  replace h := Leads.of h
  unfold r14_Small at h
  refine acall_of func11 (by kernel_rfl) rfl (by kernel_rfl) fun w0 F0 hw0 => ?_
  refine W_seq ?_
  refine W_region mixed tys_ok (sup := []) (l := [(1, 0)]) (E' := [(1, .box 0 T_api_State p0)]) (obs := []) (by kernel_rfl) (trivial) ?_
  refine W_seq ?_
  refine W_region mixed tys_ok (sup := []) (l := [(2, 0)]) (E' := [(2, .v 0 .bool (((((decide ((p0.1.length : Int) ≤ (40 : Int))) && (decide ((p0.2.1.length : Int) ≤ (200 : Int)))) && (decide ((p0.2.2.1.length : Int) ≤ (80 : Int)))) && (decide ((p0.2.2.2.1.length : Int) ≤ (40 : Int)))) && (decide ((p0.2.2.2.2.1.length : Int) ≤ (100 : Int)))))]) (obs := []) (by kernel_rfl) (trivial) ?_
  refine W_gen (x := ((((decide ((p0.1.length : Int) ≤ (40 : Int))) && (decide ((p0.2.1.length : Int) ≤ (200 : Int)))) && (decide ((p0.2.2.1.length : Int) ≤ (80 : Int)))) && (decide ((p0.2.2.2.1.length : Int) ≤ (40 : Int)))) && (decide ((p0.2.2.2.2.1.length : Int) ≤ (100 : Int)))) (En := fun x1 => [(2, .v 0 .bool x1)]) h (fun x1 h => ?_)
  refine W_keep (l := [(2, 0)]) (E' := [(2, .v 0 .bool x1)]) (by kernel_rfl) ?_
  replace h : x1 = r := h
  subst h
  exact W_ret tys_ok hw0 (by kernel_rfl) (by kernel_rfl)

noncomputable def state_New (p0 : Int) : Option (D_api_State × Int) :=
  bnd ((([] : List Bool), ([] : List D_api_Ticket), ([] : List D_api_Thread), ([] : List D_api_Lock), ([] : List Int), (0 : Int))) fun x1 =>
  bif (decide (p0 < (1 : Int))) || (decide (p0 > (1000 : Int))) then
    bnd ((([] : List Bool), ([] : List D_api_Ticket), ([] : List D_api_Thread), ([] : List D_api_Lock), ([] : List Int), (0 : Int))) fun x2 =>
    some (x2, (1 : Int))
  else
    bnd (([true], ([] : List D_api_Ticket), ([] : List D_api_Thread), ([] : List D_api_Lock), ([] : List Int), p0)) fun x3 =>
    some (x3, (0 : Int))
theorem state_New.ok {p0 : Int} {r : D_api_State × Int} (h : state_New p0 = some r) : ACall prog 41 [⟨.int .i64, p0⟩] [⟨0, T_api_State, r.1⟩, ⟨0, .int .i64, r.2⟩] := by
  replace h := Leads.of h
  unfold state_New at h
  refine acall_of func41 (by kernel_rfl) rfl (by kernel_rfl) fun w0 F0 hw0 => ?_
  refine W_seq ?_
  refine W_region mixed tys_ok (sup := []) (l := [(0, 0), (2, 9)]) (E' := [(0, .v 0 (.int .i64) p0), (2, .box 9 T_api_State (([] : List Bool), ([] : List D_api_Ticket), ([] : List D_api_Thread), ([] : List D_api_Lock), ([] : List Int), (0 : Int)))]) (obs := []) (by kernel_rfl) (trivial) ?_
  refine W_gen (x := (([] : List Bool), ([] : List D_api_Ticket), ([] : List D_api_Thread), ([] : List D_api_Lock), ([] : List Int), (0 : Int))) (En := fun x1 => [(0, .v 0 (.int .i64) p0), (2, .box 9 T_api_State x1)]) h (fun x1 h => ?_)
  refine W_seq ?_
  refine W_seq ?_
  refine W_region mixed tys_ok (sup := []) (l := [(0, 0), (2, 9), (9, 0)]) (E' := [(0, .v 0 (.int .i64) p0), (2, .box 9 T_api_State x1), (9, .v 0 .bool ((decide (p0 < (1 : Int))) || (decide (p0 > (1000 : Int)))))]) (obs := []) (by kernel_rfl) (trivial) ?_
  refine W_cond (β := (decide (p0 < (1 : Int))) || (decide (p0 > (1000 : Int)))) (by kernel_rfl) (fun hb => ?_) (fun hb => ?_)
  · rw [cond_tt hb] at h
    refine W_seq ?_
    refine W_region mixed tys_ok (sup := []) (l := [(2, 0), (3, 0)]) (E' := [(2, .box 0 T_api_State (([] : List Bool), ([] : List D_api_Ticket), ([] : List D_api_Thread), ([] : List D_api_Lock), ([] : List Int), (0 : Int))), (3, .v 0 (.int .i64) (1 : Int))]) (obs := []) (by kernel_rfl) (trivial) ?_
    refine W_gen (x := (([] : List Bool), ([] : List D_api_Ticket), ([] : List D_api_Thread), ([] : List D_api_Lock), ([] : List Int), (0 : Int))) (En := fun x2 => [(2, .box 0 T_api_State x2), (3, .v 0 (.int .i64) (1 : Int))]) h (fun x2 h => ?_)
    refine W_keep (l := [(2, 0), (3, 0)]) (E' := [(2, .box 0 T_api_State x2), (3, .v 0 (.int .i64) (1 : Int))]) (by kernel_rfl) ?_
    replace h : ((x2, (1 : Int))) = r := h
    subst h
    exact W_ret tys_ok hw0 (by kernel_rfl) (by kernel_rfl)
  · rw [cond_ff hb] at h
    refine W_skip ?_
    refine W_seq ?_
    refine W_region mixed tys_ok (sup := [.frz]) (l := [(2, 0), (3, 0)]) (E' := [(2, .box 0 T_api_State ([true], ([] : List D_api_Ticket), ([] : List D_api_Thread), ([] : List D_api_Lock), ([] : List Int), p0)), (3, .v 0 (.int .i64) (0 : Int))]) (obs := []) (by kernel_rfl) (trivial) ?_
    refine W_gen (x := ([true], ([] : List D_api_Ticket), ([] : List D_api_Thread), ([] : List D_api_Lock), ([] : List Int), p0)) (En := fun x3 => [(2, .box 0 T_api_State x3), (3, .v 0 (.int .i64) (0 : Int))]) h (fun x3 h => ?_)
    refine W_keep (l := [(2, 0), (3, 0)]) (E' := [(2, .box 0 T_api_State x3), (3, .v 0 (.int .i64) (0 : Int))]) (by kernel_rfl) ?_
    replace h : ((x3, (0 : Int))) = r := h
    subst h
    exact W_ret tys_ok hw0 (by kernel_rfl) (by kernel_rfl)

noncomputable def state_within (p0 : Int) (p1 : Int) : Option Bool :=
  bnd ((decide (p0 ≥ (0 : Int))) && (decide (p0 < p1))) fun x1 =>
  some x1
theorem state_within.ok {p0 : Int} {p1 : Int} {r : Bool} (h : state_within p0 p1 = some r) : ACall prog 142 [⟨.int .i64, p0⟩, ⟨.int .i64, p1⟩] [⟨0, .bool, r⟩] := by
  replace h := Leads.of h
  unfold state_within at h
  refine acall_of func142 (by kernel_rfl) rfl (by kernel_rfl) fun w0 F0 hw0 => ?_
  refine W_seq ?_
  refine W_region mixed tys_ok (sup := []) (l := [(0, 0), (1, 0)]) (E' := [(0, .v 0 (.int .i64) p0), (1, .v 0 (.int .i64) p1)]) (obs := []) (by kernel_rfl) (trivial) ?_
  refine W_seq ?_
  refine W_region mixed tys_ok (sup := []) (l := [(4, 0)]) (E' := [(4, .v 0 .bool ((decide (p0 ≥ (0 : Int))) && (decide (p0 < p1))))]) (obs := []) (by kernel_rfl) (trivial) ?_
  refine W_gen (x := (decide (p0 ≥ (0 : Int))) && (decide (p0 < p1))) (En := fun x1 => [(4, .v 0 .bool x1)]) h (fun x1 h => ?_)
  refine W_keep (l := [(4, 0)]) (E' := [(4, .v 0 .bool x1)]) (by kernel_rfl) ?_
  replace h : x1 = r := h
  subst h
  exact W_ret tys_ok hw0 (by kernel_rfl) (by kernel_rfl)

noncomputable def slices_Clone_bool_bool (p0 : List Bool) : Option (List Bool) :=
  ass (((([] : List Bool).length + p0.length : Nat) : Int) ≤ limA) <|
  bnd (([] : List Bool) ++ p0) fun x2 =>
  some x2
theorem slices_Clone_bool_bool.ok {p0 : List Bool} {r : List Bool} (h : slices_Clone_bool_bool p0 = some r) : ACall prog 129 [⟨.slice .bool, p0⟩] [⟨9, .slice .bool, r⟩] := by
  replace h := Leads.of h
  unfold slices_Clone_bool_bool at h
  refine acall_of func129 (by kernel_rfl) rfl (by kernel_rfl) fun w0 F0 hw0 => ?_
  refine W_seq ?_
  refine W_region mixed tys_ok (sup := []) (l := [(0, 0)]) (E' := [(0, .v 0 (.slice .bool) p0)]) (obs := []) (by kernel_rfl) (trivial) ?_
  refine W_seq ?_
  refine W_seq ?_
  refine W_nilcmp mixed tys_ok rfl (x := 3) (d := 4) (T := 22) rfl rfl rfl (E1 := [(3, .v 0 (.slice .bool) p0), (0, .v 0 (.slice .bool) p0)]) (by kernel_rfl) rfl rfl (by kernel_rfl) (fun nb1 hn => ?_)
  refine W_keep (l := [(0, 0), (4, 0)]) (E' := [(0, .v 0 (.slice .bool) p0), (4, .v 0 .bool nb1)]) (by kernel_rfl) ?_
  refine W_cond (β := nb1) (by kernel_rfl) (fun hb => ?_) (fun hb => ?_)
  · replace h := clone_nil (hn hb) h
    refine W_seq ?_
    refine W_region mixed tys_ok (sup := []) (l := [(2, 9)]) (E' := [(2, .v 9 (.slice .bool) ([] : List Bool))]) (obs := []) (by kernel_rfl) (trivial) ?_
    refine W_keep (l := [(2, 9)]) (E' := [(2, .v 9 (.slice .bool) ([] : List Bool))]) (by kernel_rfl) ?_
    replace h : (([] : List Bool)) = r := h
    subst h
    exact W_ret tys_ok hw0 (by kernel_rfl) (by kernel_rfl)
  · skip
    refine W_skip ?_
    refine W_seq ?_
    obtain ⟨o1, h⟩ := h.ass
    refine W_region mixed tys_ok (sup := []) (l := [(2, 9)]) (E' := [(2, .v 9 (.slice .bool) (([] : List Bool) ++ p0))]) (obs := [((([] : List Bool).length + p0.length : Nat) : Int) ≤ limA]) (by kernel_rfl) (o1) ?_
    refine W_gen (x := ([] : List Bool) ++ p0) (En := fun x2 => [(2, .v 9 (.slice .bool) x2)]) h (fun x2 h => ?_)
    refine W_keep (l := [(2, 9)]) (E' := [(2, .v 9 (.slice .bool) x2)]) (by kernel_rfl) ?_
    replace h : x2 = r := h
    subst h
    exact W_ret tys_ok hw0 (by kernel_rfl) (by kernel_rfl)

noncomputable def slices_Clone_api_Ticket_api_Ticket (p0 : List D_api_Ticket) : Option (List D_api_Ticket) :=
  ass (((([] : List D_api_Ticket).length + p0.length : Nat) : Int) ≤ limA) <|
  bnd (([] : List D_api_Ticket) ++ p0) fun x2 =>
  some x2
theorem slices_Clone_api_Ticket_api_Ticket.ok {p0 : List D_api_Ticket} {r : List D_api_Ticket} (h : slices_Clone_api_Ticket_api_Ticket p0 = some r) : ACall prog 130 [⟨.slice T_api_Ticket, p0⟩] [⟨9, .slice T_api_Ticket, r⟩] := by
  replace h := Leads.of h
  unfold slices_Clone_api_Ticket_api_Ticket at h
  refine acall_of func130 (by kernel_rfl) rfl (by kernel_rfl) fun w0 F0 hw0 => ?_
  refine W_seq ?_
  refine W_region mixed tys_ok (sup := []) (l := [(0, 0)]) (E' := [(0, .v 0 (.slice T_api_Ticket) p0)]) (obs := []) (by kernel_rfl) (trivial) ?_
  refine W_seq ?_
  refine W_seq ?_
  refine W_nilcmp mixed tys_ok rfl (x := 3) (d := 4) (T := 23) rfl rfl rfl (E1 := [(3, .v 0 (.slice T_api_Ticket) p0), (0, .v 0 (.slice T_api_Ticket) p0)]) (by kernel_rfl) rfl rfl (by kernel_rfl) (fun nb1 hn => ?_)
  refine W_keep (l := [(0, 0), (4, 0)]) (E' := [(0, .v 0 (.slice T_api_Ticket) p0), (4, .v 0 .bool nb1)]) (by kernel_rfl) ?_
  refine W_cond (β := nb1) (by kernel_rfl) (fun hb => ?_) (fun hb => ?_)
  · replace h := clone_nil (hn hb) h
    refine W_seq ?_
    refine W_region mixed tys_ok (sup := []) (l := [(2, 9)]) (E' := [(2, .v 9 (.slice T_api_Ticket) ([] : List D_api_Ticket))]) (obs := []) (by kernel_rfl) (trivial) ?_
    refine W_keep (l := [(2, 9)]) (E' := [(2, .v 9 (.slice T_api_Ticket) ([] : List D_api_Ticket))]) (by kernel_rfl) ?_
    replace h : (([] : List D_api_Ticket)) = r := h
    subst h
    exact W_ret tys_ok hw0 (by kernel_rfl) (by kernel_rfl)
  · skip
    refine W_skip ?_
    refine W_seq ?_
    obtain ⟨o1, h⟩ := h.ass
    refine W_region mixed tys_ok (sup := []) (l := [(2, 9)]) (E' := [(2, .v 9 (.slice T_api_Ticket) (([] : List D_api_Ticket) ++ p0))]) (obs := [((([] : List D_api_Ticket).length + p0.length : Nat) : Int) ≤ limA]) (by kernel_rfl) (o1) ?_
    refine W_gen (x := ([] : List D_api_Ticket) ++ p0) (En := fun x2 => [(2, .v 9 (.slice T_api_Ticket) x2)]) h (fun x2 h => ?_)
    refine W_keep (l := [(2, 9)]) (E' := [(2, .v 9 (.slice T_api_Ticket) x2)]) (by kernel_rfl) ?_
    replace h : x2 = r := h
    subst h
    exact W_ret tys_ok hw0 (by kernel_rfl) (by kernel_rfl)

noncomputable def slices_Clone_api_Thread_api_Thread (p0 : List D_api_Thread) : Option (List D_api_Thread) :=
  ass (((([] : List D_api_Thread).length + p0.length : Nat) : Int) ≤ limA) <|
  bnd (([] : List D_api_Thread) ++ p0) fun x2 =>
  some x2
theorem slices_Clone_api_Thread_api_Thread.ok {p0 : List D_api_Thread} {r : List D_api_Thread} (h : slices_Clone_api_Thread_api_Thread p0 = some r) : ACall prog 131 [⟨.slice T_api_Thread, p0⟩] [⟨9, .slice T_api_Thread, r⟩] := by
  replace h := Leads.of h
  unfold slices_Clone_api_Thread_api_Thread at h
  refine acall_of func131 (by kernel_rfl) rfl (by kernel_rfl) fun w0 F0 hw0 => ?_
  refine W_seq ?_
  refine W_region mixed tys_ok (sup := []) (l := [(0, 0)]) (E' := [(0, .v 0 (.slice T_api_Thread) p0)]) (obs := []) (by kernel_rfl) (trivial) ?_
  refine W_seq ?_
  refine W_seq ?_
  refine W_nilcmp mixed tys_ok rfl (x := 3) (d := 4) (T := 24) rfl rfl rfl (E1 := [(3, .v 0 (.slice T_api_Thread) p0), (0, .v 0 (.slice T_api_Thread) p0)]) (by kernel_rfl) rfl rfl (by kernel_rfl) (fun nb1 hn => ?_)
  refine W_keep (l := [(0, 0), (4, 0)]) (E' := [(0, .v 0 (.slice T_api_Thread) p0), (4, .v 0 .bool nb1)]) (by kernel_rfl) ?_
  refine W_cond (β := nb1) (by kernel_rfl) (fun hb => ?_) (fun hb => ?_)
  · replace h := clone_nil (hn hb) h
    refine W_seq ?_
    refine W_region mixed tys_ok (sup := []) (l := [(2, 9)]) (E' := [(2, .v 9 (.slice T_api_Thread) ([] : List D_api_Thread))]) (obs := []) (by kernel_rfl) (trivial) ?_
    refine W_keep (l := [(2, 9)]) (E' := [(2, .v 9 (.slice T_api_Thread) ([] : List D_api_Thread))]) (by kernel_rfl) ?_
    replace h : (([] : List D_api_Thread)) = r := h
    subst h
    exact W_ret tys_ok hw0 (by kernel_rfl) (by kernel_rfl)
  · skip
    refine W_skip ?_
    refine W_seq ?_
    obtain ⟨o1, h⟩ := h.ass
    refine W_region mixed tys_ok (sup := []) (l := [(2, 9)]) (E' := [(2, .v 9 (.slice T_api_Thread) (([] : List D_api_Thread) ++ p0))]) (obs := [((([] : List D_api_Thread).length + p0.length : Nat) : Int) ≤ limA]) (by kernel_rfl) (o1) ?_
    refine W_gen (x := ([] : List D_api_Thread) ++ p0) (En := fun x2 => [(2, .v 9 (.slice T_api_Thread) x2)]) h (fun x2 h => ?_)
    refine W_keep (l := [(2, 9)]) (E' := [(2, .v 9 (.slice T_api_Thread) x2)]) (by kernel_rfl) ?_
    replace h : x2 = r := h
    subst h
    exact W_ret tys_ok hw0 (by kernel_rfl) (by kernel_rfl)

noncomputable def slices_Clone_api_Lock_api_Lock (p0 : List D_api_Lock) : Option (List D_api_Lock) :=
  ass (((([] : List D_api_Lock).length + p0.length : Nat) : Int) ≤ limA) <|
  bnd (([] : List D_api_Lock) ++ p0) fun x2 =>
  some x2
theorem slices_Clone_api_Lock_api_Lock.ok {p0 : List D_api_Lock} {r : List D_api_Lock} (h : slices_Clone_api_Lock_api_Lock p0 = some r) : ACall prog 132 [⟨.slice T_api_Lock, p0⟩] [⟨9, .slice T_api_Lock, r⟩] := by
  replace h := Leads.of h
  unfold slices_Clone_api_Lock_api_Lock at h
  refine acall_of func132 (by kernel_rfl) rfl (by kernel_rfl) fun w0 F0 hw0 => ?_
  refine W_seq ?_
  refine W_region mixed tys_ok (sup := []) (l := [(0, 0)]) (E' := [(0, .v 0 (.slice T_api_Lock) p0)]) (obs := []) (by kernel_rfl) (trivial) ?_
  refine W_seq ?_
  refine W_seq ?_
  refine W_nilcmp mixed tys_ok rfl (x := 3) (d := 4) (T := 25) rfl rfl rfl (E1 := [(3, .v 0 (.slice T_api_Lock) p0), (0, .v 0 (.slice T_api_Lock) p0)]) (by kernel_rfl) rfl rfl (by kernel_rfl) (fun nb1 hn => ?_)
  refine W_keep (l := [(0, 0), (4, 0)]) (E' := [(0, .v 0 (.slice T_api_Lock) p0), (4, .v 0 .bool nb1)]) (by kernel_rfl) ?_
  refine W_cond (β := nb1) (by kernel_rfl) (fun hb => ?_) (fun hb => ?_)
  · replace h := clone_nil (hn hb) h
    refine W_seq ?_
    refine W_region mixed tys_ok (sup := []) (l := [(2, 9)]) (E' := [(2, .v 9 (.slice T_api_Lock) ([] : List D_api_Lock))]) (obs := []) (by kernel_rfl) (trivial) ?_
    refine W_keep (l := [(2, 9)]) (E' := [(2, .v 9 (.slice T_api_Lock) ([] : List D_api_Lock))]) (by kernel_rfl) ?_
    replace h : (([] : List D_api_Lock)) = r := h
    subst h
    exact W_ret tys_ok hw0 (by kernel_rfl) (by kernel_rfl)
  · skip
    refine W_skip ?_
    refine W_seq ?_
    obtain ⟨o1, h⟩ := h.ass
    refine W_region mixed tys_ok (sup := []) (l := [(2, 9)]) (E' := [(2, .v 9 (.slice T_api_Lock) (([] : List D_api_Lock) ++ p0))]) (obs := [((([] : List D_api_Lock).length + p0.length : Nat) : Int) ≤ limA]) (by kernel_rfl) (o1) ?_
    refine W_gen (x := ([] : List D_api_Lock) ++ p0) (En := fun x2 => [(2, .v 9 (.slice T_api_Lock) x2)]) h (fun x2 h => ?_)
    refine W_keep (l := [(2, 9)]) (E' := [(2, .v 9 (.slice T_api_Lock) x2)]) (by kernel_rfl) ?_
    replace h : x2 = r := h
    subst h
    exact W_ret tys_ok hw0 (by kernel_rfl) (by kernel_rfl)

noncomputable def slices_Clone_int_int (p0 : List Int) : Option (List Int) :=
  ass (((([] : List Int).length + p0.length : Nat) : Int) ≤ limA) <|
  bnd (([] : List Int) ++ p0) fun x2 =>
  some x2
theorem slices_Clone_int_int.ok {p0 : List Int} {r : List Int} (h : slices_Clone_int_int p0 = some r) : ACall prog 133 [⟨.slice (.int .i64), p0⟩] [⟨9, .slice (.int .i64), r⟩] := by
  replace h := Leads.of h
  unfold slices_Clone_int_int at h
  refine acall_of func133 (by kernel_rfl) rfl (by kernel_rfl) fun w0 F0 hw0 => ?_
  refine W_seq ?_
  refine W_region mixed tys_ok (sup := []) (l := [(0, 0)]) (E' := [(0, .v 0 (.slice (.int .i64)) p0)]) (obs := []) (by kernel_rfl) (trivial) ?_
  refine W_seq ?_
  refine W_seq ?_
  refine W_nilcmp mixed tys_ok rfl (x := 3) (d := 4) (T := 26) rfl rfl rfl (E1 := [(3, .v 0 (.slice (.int .i64)) p0), (0, .v 0 (.slice (.int .i64)) p0)]) (by kernel_rfl) rfl rfl (by kernel_rfl) (fun nb1 hn => ?_)
  refine W_keep (l := [(0, 0), (4, 0)]) (E' := [(0, .v 0 (.slice (.int .i64)) p0), (4, .v 0 .bool nb1)]) (by kernel_rfl) ?_
  refine W_cond (β := nb1) (by kernel_rfl) (fun hb => ?_) (fun hb => ?_)
  · replace h := clone_nil (hn hb) h
    refine W_seq ?_
    refine W_region mixed tys_ok (sup := []) (l := [(2, 9)]) (E' := [(2, .v 9 (.slice (.int .i64)) ([] : List Int))]) (obs := []) (by kernel_rfl) (trivial) ?_
    refine W_keep (l := [(2, 9)]) (E' := [(2, .v 9 (.slice (.int .i64)) ([] : List Int))]) (by kernel_rfl) ?_
    replace h : (([] : List Int)) = r := h
    subst h
    exact W_ret tys_ok hw0 (by kernel_rfl) (by kernel_rfl)
  · skip
    refine W_skip ?_
    refine W_seq ?_
    obtain ⟨o1, h⟩ := h.ass
    refine W_region mixed tys_ok (sup := []) (l := [(2, 9)]) (E' := [(2, .v 9 (.slice (.int .i64)) (([] : List Int) ++ p0))]) (obs := [((([] : List Int).length + p0.length : Nat) : Int) ≤ limA]) (by kernel_rfl) (o1) ?_
    refine W_gen (x := ([] : List Int) ++ p0) (En := fun x2 => [(2, .v 9 (.slice (.int .i64)) x2)]) h (fun x2 h => ?_)
    refine W_keep (l := [(2, 9)]) (E' := [(2, .v 9 (.slice (.int .i64)) x2)]) (by kernel_rfl) ?_
    replace h : x2 = r := h
    subst h
    exact W_ret tys_ok hw0 (by kernel_rfl) (by kernel_rfl)

noncomputable def state_Copy (p0 : D_api_State) : Option D_api_State :=
  bnd ((([] : List Bool), ([] : List D_api_Ticket), ([] : List D_api_Thread), ([] : List D_api_Lock), ([] : List Int), (0 : Int))) fun x1 =>
  (slices_Clone_bool_bool p0.1).bind fun y2 =>
  (slices_Clone_api_Ticket_api_Ticket p0.2.1).bind fun y3 =>
  (slices_Clone_api_Thread_api_Thread p0.2.2.1).bind fun y4 =>
  (slices_Clone_api_Lock_api_Lock p0.2.2.2.1).bind fun y5 =>
  (slices_Clone_int_int p0.2.2.2.2.1).bind fun y6 =>
  bnd ((y2, y3, y4, y5, y6, p0.2.2.2.2.2)) fun x7 =>
  some x7
theorem state_Copy.ok {p0 : D_api_State} {r : D_api_State} (h : state_Copy p0 = some r) : ACall prog 44 [⟨T_api_State, p0⟩] [⟨(.pr 9 (.pr 9 (.pr 9 (.pr 9 (.pr 9 0))))), T_api_State, r⟩] := by
  replace h := Leads.of h
  unfold state_Copy at h
  refine acall_of func44 (by kernel_rfl) rfl (by kernel_rfl) fun w0 F0 hw0 => ?_
  refine W_seq ?_
  refine W_region mixed tys_ok (sup := []) (l := [(1, 0), (2, 9)]) (E' := [(1, .box 0 T_api_State p0), (2, .box 9 T_api_State (([] : List Bool), ([] : List D_api_Ticket), ([] : List D_api_Thread), ([] : List D_api_Lock), ([] : List Int), (0 : Int)))]) (obs := []) (by kernel_rfl) (trivial) ?_
  refine W_gen (x := (([] : List Bool), ([] : List D_api_Ticket), ([] : List D_api_Thread), ([] : List D_api_Lock), ([] : List Int), (0 : Int))) (En := fun x1 => [(1, .box 0 T_api_State p0), (2, .box 9 T_api_State x1)]) h (fun x1 h => ?_)
  refine W_seq ?_
  obtain ⟨y2, ey2, h⟩ := h.bind
  obtain ⟨y3, ey3, h⟩ := h.bind
  obtain ⟨y4, ey4, h⟩ := h.bind
  obtain ⟨y5, ey5, h⟩ := h.bind
  obtain ⟨y6, ey6, h⟩ := h.bind
  refine W_region mixed tys_ok (sup := [.res [(9, ⟨9, .slice .bool, y2⟩)], .res [(9, ⟨9, .slice T_api_Ticket, y3⟩)], .res [(9, ⟨9, .slice T_api_Thread, y4⟩)], .res [(9, ⟨9, .slice T_api_Lock, y5⟩)], .res [(9, ⟨9, .slice (.int .i64), y6⟩)]]) (l := [(1, (.pr 9 (.pr 9 (.pr 9 (.pr 9 (.pr 9 0)))))), (2, 9)]) (E' := [(1, .box (.pr 9 (.pr 9 (.pr 9 (.pr 9 (.pr 9 0))))) T_api_State (y2, y3, y4, y5, y6, p0.2.2.2.2.2)), (2, .box 9 T_api_State x1)]) (obs := [ACall prog 129 [⟨.slice .bool, p0.1⟩] [⟨9, .slice .bool, y2⟩], ACall prog 130 [⟨.slice T_api_Ticket, p0.2.1⟩] [⟨9, .slice T_api_Ticket, y3⟩], ACall prog 131 [⟨.slice T_api_Thread, p0.2.2.1⟩] [⟨9, .slice T_api_Thread, y4⟩], ACall prog 132 [⟨.slice T_api_Lock, p0.2.2.2.1⟩] [⟨9, .slice T_api_Lock, y5⟩], ACall prog 133 [⟨.slice (.int .i64), p0.2.2.2.2.1⟩] [⟨9, .slice (.int .i64), y6⟩]]) (by kernel_rfl) (⟨slices_Clone_bool_bool.ok ey2, slices_Clone_api_Ticket_api_Ticket.ok ey3, slices_Clone_api_Thread_api_Thread.ok ey4, slices_Clone_api_Lock_api_Lock.ok ey5, slices_Clone_int_int.ok ey6⟩) ?_
  refine W_gen (x := (y2, y3, y4, y5, y6, p0.2.2.2.2.2)) (En := fun x7 => [(1, .box (.pr 9 (.pr 9 (.pr 9 (.pr 9 (.pr 9 0))))) T_api_State x7), (2, .box 9 T_api_State x1)]) h (fun x7 h => ?_)
  refine W_seq ?_
  refine W_region mixed tys_ok (sup := []) (l := [(2, (.pr 9 (.pr 9 (.pr 9 (.pr 9 (.pr 9 0))))))]) (E' := [(2, .box (.pr 9 (.pr 9 (.pr 9 (.pr 9 (.pr 9 0))))) T_api_State x7)]) (obs := []) (by kernel_rfl) (trivial) ?_
  refine W_keep (l := [(2, (.pr 9 (.pr 9 (.pr 9 (.pr 9 (.pr 9 0))))))]) (E' := [(2, .box (.pr 9 (.pr 9 (.pr 9 (.pr 9 (.pr 9 0))))) T_api_State x7)]) (by kernel_rfl) ?_
  replace h : x7 = r := h
  subst h
  exact W_ret tys_ok hw0 (by kernel_rfl) (by kernel_rfl)

noncomputable def state_put_api_Thread_j1 (p1 : Int) (p3 : D_api_Thread) (x2 : List D_api_Thread) : Option (List D_api_Thread) :=
  ass (0 ≤ p1 ∧ p1 < (x2.length : Int)) <|
  bnd (wr x2 p1 p3) fun x3 =>
  some x3
noncomputable def state_put_api_Thread_b1 (p1 : Int) (p3 : D_api_Thread) (x4 : List D_api_Thread) : Option ((List D_api_Thread) ⊕ (List D_api_Thread)) :=
  bif decide ((x4.length : Int) ≤ p1) then
    bnd (((0 : Int), (0 : Int), (0 : Int), (0 : Int), (0 : Int))) fun x5 =>
    ass (((x4.length + [x5].length : Nat) : Int) ≤ limA) <|
    bnd (x4 ++ [x5]) fun x6 =>
    some (.inl x6)
  else
    (state_put_api_Thread_j1 p1 p3 x4).map .inr
noncomputable def state_put_api_Thread (p0 : List D_api_Thread) (p1 : Int) (p2 : Int) (p3 : D_api_Thread) : Option (List D_api_Thread) :=
  (slices_Clone_api_Thread_api_Thread p0).bind fun y1 =>
  bif (decide (p1 < (0 : Int))) || (decide (p1 ≥ p2)) then
    some y1
  else
    loopM (fun x : List D_api_Thread => state_put_api_Thread_b1 p1 p3 x) y1
theorem state_put_api_Thread.ok {p0 : List D_api_Thread} {p1 : Int} {p2 : Int} {p3 : D_api_Thread} {r : List D_api_Thread} (h : state_put_api_Thread p0 p1 p2 p3 = some r) : ACall prog 145 [⟨.slice T_api_Thread, p0⟩, ⟨.int .i64, p1⟩, ⟨.int .i64, p2⟩, ⟨T_api_Thread, p3⟩] [⟨9, .slice T_api_Thread, r⟩] := by
  replace h := Leads.of h
  unfold state_put_api_Thread at h
  refine acall_of func145 (by kernel_rfl) rfl (by kernel_rfl) fun w0 F0 hw0 => ?_
  refine W_seq ?_
  refine W_region mixed tys_ok (sup := []) (l := [(0, 0), (1, 0), (2, 0), (7, 9)]) (E' := [(0, .v 0 (.slice T_api_Thread) p0), (1, .v 0 (.int .i64) p1), (2, .v 0 (.int .i64) p2), (7, .box 9 T_api_Thread p3)]) (obs := []) (by kernel_rfl) (trivial) ?_
  refine W_seq ?_
  obtain ⟨y1, ey1, h⟩ := h.bind
  refine W_region mixed tys_ok (sup := [.res [(9, ⟨9, .slice T_api_Thread, y1⟩)]]) (l := [(1, 0), (2, 0), (7, 9), (9, 9)]) (E' := [(1, .v 0 (.int .i64) p1), (2, .v 0 (.int .i64) p2), (7, .box 9 T_api_Thread p3), (9, .v 9 (.slice T_api_Thread) y1)]) (obs := [ACall prog 131 [⟨.slice T_api_Thread, p0⟩] [⟨9, .slice T_api_Thread, y1⟩]]) (by kernel_rfl) (slices_Clone_api_Thread_api_Thread.ok ey1) ?_
  refine W_seq ?_
  refine W_seq ?_
  refine W_region mixed tys_ok (sup := []) (l := [(1, 0), (7, 9), (9, 9), (19, 0)]) (E' := [(1, .v 0 (.int .i64) p1), (7, .box 9 T_api_Thread p3), (9, .v 9 (.slice T_api_Thread) y1), (19, .v 0 .bool ((decide (p1 < (0 : Int))) || (decide (p1 ≥ p2))))]) (obs := []) (by kernel_rfl) (trivial) ?_
  refine W_cond (β := (decide (p1 < (0 : Int))) || (decide (p1 ≥ p2))) (by kernel_rfl) (fun hb => ?_) (fun hb => ?_)
  · rw [cond_tt hb] at h
    refine W_seq ?_
    refine W_region mixed tys_ok (sup := []) (l := [(8, 9)]) (E' := [(8, .v 9 (.slice T_api_Thread) y1)]) (obs := []) (by kernel_rfl) (trivial) ?_
    refine W_keep (l := [(8, 9)]) (E' := [(8, .v 9 (.slice T_api_Thread) y1)]) (by kernel_rfl) ?_
    replace h : y1 = r := h
    subst h
    exact W_ret tys_ok hw0 (by kernel_rfl) (by kernel_rfl)
  · rw [cond_ff hb] at h
    refine W_skip ?_
    refine W_seq ?_
    refine W_join h (Ej := fun (x : List D_api_Thread) => [(1, .v 0 (.int .i64) p1), (7, .box 9 T_api_Thread p3), (9, .v 9 (.slice T_api_Thread) x)]) (p := fun x => state_put_api_Thread_j1 p1 p3 x) ?_ ?_
    · rintro x2 h
      replace h : Leads _ (state_put_api_Thread_j1 p1 p3 x2) := h
      unfold state_put_api_Thread_j1 at h
      show W _ _ _ _ _ _ [(1, .v 0 (.int .i64) p1), (7, .box 9 T_api_Thread p3), (9, .v 9 (.slice T_api_Thread) x2)]
      refine W_seq ?_
      obtain ⟨o1, h⟩ := h.ass
      refine W_region mixed tys_ok (sup := []) (l := [(9, 9)]) (E' := [(9, .v 9 (.slice T_api_Thread) (wr x2 p1 p3))]) (obs := [0 ≤ p1 ∧ p1 < (x2.length : Int)]) (by kernel_rfl) (o1) ?_
      refine W_gen (x := wr x2 p1 p3) (En := fun x3 => [(9, .v 9 (.slice T_api_Thread) x3)]) h (fun x3 h => ?_)
      refine W_seq ?_
      refine W_region mixed tys_ok (sup := []) (l := [(8, 9)]) (E' := [(8, .v 9 (.slice T_api_Thread) x3)]) (obs := []) (by kernel_rfl) (trivial) ?_
      refine W_keep (l := [(8, 9)]) (E' := [(8, .v 9 (.slice T_api_Thread) x3)]) (by kernel_rfl) ?_
      replace h : x3 = r := h
      subst h
      exact W_ret tys_ok hw0 (by kernel_rfl) (by kernel_rfl)
    · intro j1
      refine W_block ?_
      refine W_keep (l := [(1, 0), (7, 9), (9, 9)]) (E' := [(1, .v 0 (.int .i64) p1), (7, .box 9 T_api_Thread p3), (9, .v 9 (.slice T_api_Thread) y1)]) (by kernel_rfl) ?_
      refine W_loop' (En := fun (x : List D_api_Thread) => [(1, .v 0 (.int .i64) p1), (7, .box 9 T_api_Thread p3), (9, .v 9 (.slice T_api_Thread) x)]) (x := y1) h ?_
      rintro x4 K h
      replace h : Leads _ (state_put_api_Thread_b1 p1 p3 x4) := h
      unfold state_put_api_Thread_b1 at h
      show W _ _ _ _ _ _ [(1, .v 0 (.int .i64) p1), (7, .box 9 T_api_Thread p3), (9, .v 9 (.slice T_api_Thread) x4)]
      refine W_seq ?_
      refine W_seq ?_
      refine W_region mixed tys_ok (sup := []) (l := [(1, 0), (7, 9), (9, 9), (24, 0)]) (E' := [(1, .v 0 (.int .i64) p1), (7, .box 9 T_api_Thread p3), (9, .v 9 (.slice T_api_Thread) x4), (24, .v 0 .bool (decide ((x4.length : Int) ≤ p1)))]) (obs := []) (by kernel_rfl) (trivial) ?_
      refine W_cond (β := decide ((x4.length : Int) ≤ p1)) (by kernel_rfl) (fun hb => ?_) (fun hb => ?_)
      · rw [cond_tt hb] at h
        refine W_skip ?_
        refine W_block ?_
        refine W_seq ?_
        refine W_region mixed tys_ok (sup := []) (l := [(1, 0), (7, 9), (9, 9), (10, 9)]) (E' := [(1, .v 0 (.int .i64) p1), (7, .box 9 T_api_Thread p3), (9, .v 9 (.slice T_api_Thread) x4), (10, .box 9 T_api_Thread ((0 : Int), (0 : Int), (0 : Int), (0 : Int), (0 : Int)))]) (obs := []) (by kernel_rfl) (trivial) ?_
        refine W_gen (x := ((0 : Int), (0 : Int), (0 : Int), (0 : Int), (0 : Int))) (En := fun x5 => [(1, .v 0 (.int .i64) p1), (7, .box 9 T_api_Thread p3), (9, .v 9 (.slice T_api_Thread) x4), (10, .box 9 T_api_Thread x5)]) h (fun x5 h => ?_)
        obtain ⟨o1, h⟩ := h.ass
        refine W_region mixed tys_ok (sup := []) (l := [(1, 0), (7, 9), (9, 9)]) (E' := [(1, .v 0 (.int .i64) p1), (7, .box 9 T_api_Thread p3), (9, .v 9 (.slice T_api_Thread) (x4 ++ [x5]))]) (obs := [((x4.length + [x5].length : Nat) : Int) ≤ limA]) (by kernel_rfl) (o1) ?_
        refine W_gen (x := x4 ++ [x5]) (En := fun x6 => [(1, .v 0 (.int .i64) p1), (7, .box 9 T_api_Thread p3), (9, .v 9 (.slice T_api_Thread) x6)]) h (fun x6 h => ?_)
        refine W_blk ?_
        refine W_keep (l := [(1, 0), (7, 9), (9, 9)]) (E' := [(1, .v 0 (.int .i64) p1), (7, .box 9 T_api_Thread p3), (9, .v 9 (.slice T_api_Thread) x6)]) (by kernel_rfl) ?_
        exact W_abs h
      · rw [cond_ff hb] at h
        refine W_exit rfl ?_
        refine W_keep (l := [(1, 0), (7, 9), (9, 9)]) (E' := [(1, .v 0 (.int .i64) p1), (7, .box 9 T_api_Thread p3), (9, .v 9 (.slice T_api_Thread) x4)]) (by kernel_rfl) ?_
        exact j1 x4 h.back

noncomputable def state_cut_bool_j1 (p0 : List Bool) (x1 : Int) : Option (List Bool) :=
  ass (0 ≤ (0 : Int) ∧ (0 : Int) ≤ x1 ∧ x1 ≤ (p0.length : Int)) <|
  (slices_Clone_bool_bool (sl p0 (0 : Int) x1)).bind fun y2 =>
  some y2
noncomputable def state_cut_bool_b1 (p0 : List Bool) (p1 : Bool → Option Bool) (x3 : Int) : Option (Int ⊕ (List Bool)) :=
  ass ((decide (x3 > (0 : Int))) = true → 0 ≤ IntKind.i64.wrap (x3 - (1 : Int)) ∧ IntKind.i64.wrap (x3 - (1 : Int)) < (p0.length : Int)) <|
  (bif decide (x3 > (0 : Int)) then p1 (rd false p0 (IntKind.i64.wrap (x3 - (1 : Int)))) else some false).bind fun y4 =>
  bif (decide (x3 > (0 : Int))) && (!y4) then
    bnd (IntKind.i64.wrap (x3 - (1 : Int))) fun x5 =>
    some (.inl x5)
  else
    (state_cut_bool_j1 p0 x3).map .inr
noncomputable def state_cut_bool (p0 : List Bool) (p1 : Bool → Option Bool) : Option (List Bool) :=
  loopM (fun x : Int => state_cut_bool_b1 p0 p1 x) (p0.length : Int)
theorem state_cut_bool.ok {p0 : List Bool} {p1 : Bool → Option Bool} {r : List Bool} (h : state_cut_bool p0 p1 = some r) : ACall prog 134 [⟨.slice .bool, p0⟩, ⟨.fn .bool .bool, p1⟩] [⟨9, .slice .bool, r⟩] := by
  replace h := Leads.of h
  unfold state_cut_bool at h
  refine acall_of func134 (by kernel_rfl) rfl (by kernel_rfl) fun w0 F0 hw0 => ?_
  refine W_seq ?_
  refine W_region mixed tys_ok (sup := []) (l := [(0, 0), (1, 0)]) (E' := [(0, .v 0 (.slice .bool) p0), (1, .v 0 (.fn .bool .bool) p1)]) (obs := []) (by kernel_rfl) (trivial) ?_
  refine W_seq ?_
  refine W_region mixed tys_ok (sup := []) (l := [(0, 0), (1, 0), (5, 0)]) (E' := [(0, .v 0 (.slice .bool) p0), (1, .v 0 (.fn .bool .bool) p1), (5, .v 0 (.int .i64) (p0.length : Int))]) (obs := []) (by kernel_rfl) (trivial) ?_
  refine W_seq ?_
  refine W_join h (Ej := fun (x : Int) => [(0, .v 0 (.slice .bool) p0), (5, .v 0 (.int .i64) x)]) (p := fun x => state_cut_bool_j1 p0 x) ?_ ?_
  · rintro x1 h
    replace h : Leads _ (state_cut_bool_j1 p0 x1) := h
    unfold state_cut_bool_j1 at h
    show W _ _ _ _ _ _ [(0, .v 0 (.slice .bool) p0), (5, .v 0 (.int .i64) x1)]
    refine W_seq ?_
    obtain ⟨o1, h⟩ := h.ass
    obtain ⟨y2, ey2, h⟩ := h.bind
    refine W_region mixed tys_ok (sup := [.res [(9, ⟨9, .slice .bool, y2⟩)]]) (l := [(4, 9)]) (E' := [(4, .v 9 (.slice .bool) y2)]) (obs := [0 ≤ (0 : Int) ∧ (0 : Int) ≤ x1 ∧ x1 ≤ (p0.length : Int), ACall prog 129 [⟨.slice .bool, sl p0 (0 : Int) x1⟩] [⟨9, .slice .bool, y2⟩]]) (by kernel_rfl) (⟨o1, slices_Clone_bool_bool.ok ey2⟩) ?_
    refine W_keep (l := [(4, 9)]) (E' := [(4, .v 9 (.slice .bool) y2)]) (by kernel_rfl) ?_
    replace h : y2 = r := h
    subst h
    exact W_ret tys_ok hw0 (by kernel_rfl) (by kernel_rfl)
  · intro j1
    refine W_block ?_
    refine W_keep (l := [(0, 0), (1, 0), (5, 0)]) (E' := [(0, .v 0 (.slice .bool) p0), (1, .v 0 (.fn .bool .bool) p1), (5, .v 0 (.int .i64) (p0.length : Int))]) (by kernel_rfl) ?_
    refine W_loop' (En := fun (x : Int) => [(0, .v 0 (.slice .bool) p0), (1, .v 0 (.fn .bool .bool) p1), (5, .v 0 (.int .i64) x)]) (x := (p0.length : Int)) h ?_
    rintro x3 K h
    replace h : Leads _ (state_cut_bool_b1 p0 p1 x3) := h
    unfold state_cut_bool_b1 at h
    show W _ _ _ _ _ _ [(0, .v 0 (.slice .bool) p0), (1, .v 0 (.fn .bool .bool) p1), (5, .v 0 (.int .i64) x3)]
    refine W_seq ?_
    refine W_seq ?_
    obtain ⟨o1, h⟩ := h.ass
    obtain ⟨y4, ey4, h⟩ := h.bind
    refine W_region mixed tys_ok (sup := [.res [(0, ⟨9, .bool, y4⟩)]]) (l := [(0, 0), (1, 0), (5, 0), (19, 0)]) (E' := [(0, .v 0 (.slice .bool) p0), (1, .v 0 (.fn .bool .bool) p1), (5, .v 0 (.int .i64) x3), (19, .v 0 .bool ((decide (x3 > (0 : Int))) && (!y4)))]) (obs := [(decide (x3 > (0 : Int))) = true → 0 ≤ IntKind.i64.wrap (x3 - (1 : Int)) ∧ IntKind.i64.wrap (x3 - (1 : Int)) < (p0.length : Int), (decide (x3 > (0 : Int))) = true → p1 (rd false p0 (IntKind.i64.wrap (x3 - (1 : Int)))) = some y4]) (by kernel_rfl) (⟨o1, fun hc => bif_some ey4 hc⟩) ?_
    refine W_cond (β := (decide (x3 > (0 : Int))) && (!y4)) (by kernel_rfl) (fun hb => ?_) (fun hb => ?_)
    · rw [cond_tt hb] at h
      refine W_skip ?_
      refine W_block ?_
      refine W_region mixed tys_ok (sup := []) (l := [(0, 0), (1, 0), (5, 0)]) (E' := [(0, .v 0 (.slice .bool) p0), (1, .v 0 (.fn .bool .bool) p1), (5, .v 0 (.int .i64) (IntKind.i64.wrap (x3 - (1 : Int))))]) (obs := []) (by kernel_rfl) (trivial) ?_
      refine W_gen (x := IntKind.i64.wrap (x3 - (1 : Int))) (En := fun x5 => [(0, .v 0 (.slice .bool) p0), (1, .v 0 (.fn .bool .bool) p1), (5, .v 0 (.int .i64) x5)]) h (fun x5 h => ?_)
      refine W_blk ?_
      refine W_keep (l := [(0, 0), (1, 0), (5, 0)]) (E' := [(0, .v 0 (.slice .bool) p0), (1, .v 0 (.fn .bool .bool) p1), (5, .v 0 (.int .i64) x5)]) (by kernel_rfl) ?_
      exact W_abs h
    · rw [cond_ff hb] at h
      refine W_exit rfl ?_
      refine W_keep (l := [(0, 0), (5, 0)]) (E' := [(0, .v 0 (.slice .bool) p0), (5, .v 0 (.int .i64) x3)]) (by kernel_rfl) ?_
      exact j1 x3 h.back

noncomputable def state_coinUsed (p0 : Bool) : Option Bool :=
  some p0
theorem state_coinUsed.ok {p0 : Bool} {r : Bool} (h : state_coinUsed p0 = some r) : ACall prog 135 [⟨.bool, p0⟩] [⟨0, .bool, r⟩] := by
  replace h := Leads.of h
  unfold state_coinUsed at h
  refine acall_of func135 (by kernel_rfl) rfl (by kernel_rfl) fun w0 F0 hw0 => ?_
  refine W_seq ?_
  refine W_region mixed tys_ok (sup := []) (l := [(0, 0)]) (E' := [(0, .v 0 .bool p0)]) (obs := []) (by kernel_rfl) (trivial) ?_
  refine W_seq ?_
  refine W_region mixed tys_ok (sup := []) (l := [(2, 0)]) (E' := [(2, .v 0 .bool p0)]) (obs := []) (by kernel_rfl) (trivial) ?_
  refine W_keep (l := [(2, 0)]) (E' := [(2, .v 0 .bool p0)]) (by kernel_rfl) ?_
  replace h : p0 = r := h
  subst h
  exact W_ret tys_ok hw0 (by kernel_rfl) (by kernel_rfl)

noncomputable def state_cut_api_Ticket_j1 (p0 : List D_api_Ticket) (x1 : Int) : Option (List D_api_Ticket) :=
  ass (0 ≤ (0 : Int) ∧ (0 : Int) ≤ x1 ∧ x1 ≤ (p0.length : Int)) <|
  (slices_Clone_api_Ticket_api_Ticket (sl p0 (0 : Int) x1)).bind fun y2 =>
  some y2
noncomputable def state_cut_api_Ticket_b1 (p0 : List D_api_Ticket) (p1 : D_api_Ticket → Option Bool) (x3 : Int) : Option (Int ⊕ (List D_api_Ticket)) :=
  ass ((decide (x3 > (0 : Int))) = true → 0 ≤ IntKind.i64.wrap (x3 - (1 : Int)) ∧ IntKind.i64.wrap (x3 - (1 : Int)) < (p0.length : Int)) <|
  (bif decide (x3 > (0 : Int)) then p1 (rd z_api_Ticket p0 (IntKind.i64.wrap (x3 - (1 : Int)))) else some false).bind fun y4 =>
  bif (decide (x3 > (0 : Int))) && (!y4) then
    bnd (IntKind.i64.wrap (x3 - (1 : Int))) fun x5 =>
    some (.inl x5)
  else
    (state_cut_api_Ticket_j1 p0 x3).map .inr
noncomputable def state_cut_api_Ticket (p0 : List D_api_Ticket) (p1 : D_api_Ticket → Option Bool) : Option (List D_api_Ticket) :=
  loopM (fun x : Int => state_cut_api_Ticket_b1 p0 p1 x) (p0.length : Int)
theorem state_cut_api_Ticket.ok {p0 : List D_api_Ticket} {p1 : D_api_Ticket → Option Bool} {r : List D_api_Ticket} (h : state_cut_api_Ticket p0 p1 = some r) : ACall prog 136 [⟨.slice T_api_Ticket, p0⟩, ⟨.fn T_api_Ticket .bool, p1⟩] [⟨9, .slice T_api_Ticket, r⟩] := by
  replace h := Leads.of h
  unfold state_cut_api_Ticket at h
  refine acall_of func136 (by kernel_rfl) rfl (by kernel_rfl) fun w0 F0 hw0 => ?_
  refine W_seq ?_
  refine W_region mixed tys_ok (sup := []) (l := [(0, 0), (1, 0)]) (E' := [(0, .v 0 (.slice T_api_Ticket) p0), (1, .v 0 (.fn T_api_Ticket .bool) p1)]) (obs := []) (by kernel_rfl) (trivial) ?_
  refine W_seq ?_
  refine W_region mixed tys_ok (sup := []) (l := [(0, 0), (1, 0), (5, 0)]) (E' := [(0, .v 0 (.slice T_api_Ticket) p0), (1, .v 0 (.fn T_api_Ticket .bool) p1), (5, .v 0 (.int .i64) (p0.length : Int))]) (obs := []) (by kernel_rfl) (trivial) ?_
  refine W_seq ?_
  refine W_join h (Ej := fun (x : Int) => [(0, .v 0 (.slice T_api_Ticket) p0), (5, .v 0 (.int .i64) x)]) (p := fun x => state_cut_api_Ticket_j1 p0 x) ?_ ?_
  · rintro x1 h
    replace h : Leads _ (state_cut_api_Ticket_j1 p0 x1) := h
    unfold state_cut_api_Ticket_j1 at h
    show W _ _ _ _ _ _ [(0, .v 0 (.slice T_api_Ticket) p0), (5, .v 0 (.int .i64) x1)]
    refine W_seq ?_
    obtain ⟨o1, h⟩ := h.ass
    obtain ⟨y2, ey2, h⟩ := h.bind
    refine W_region mixed tys_ok (sup := [.res [(9, ⟨9, .slice T_api_Ticket, y2⟩)]]) (l := [(4, 9)]) (E' := [(4, .v 9 (.slice T_api_Ticket) y2)]) (obs := [0 ≤ (0 : Int) ∧ (0 : Int) ≤ x1 ∧ x1 ≤ (p0.length : Int), ACall prog 130 [⟨.slice T_api_Ticket, sl p0 (0 : Int) x1⟩] [⟨9, .slice T_api_Ticket, y2⟩]]) (by kernel_rfl) (⟨o1, slices_Clone_api_Ticket_api_Ticket.ok ey2⟩) ?_
    refine W_keep (l := [(4, 9)]) (E' := [(4, .v 9 (.slice T_api_Ticket) y2)]) (by kernel_rfl) ?_
    replace h : y2 = r := h
    subst h
    exact W_ret tys_ok hw0 (by kernel_rfl) (by kernel_rfl)
  · intro j1
    refine W_block ?_
    refine W_keep (l := [(0, 0), (1, 0), (5, 0)]) (E' := [(0, .v 0 (.slice T_api_Ticket) p0), (1, .v 0 (.fn T_api_Ticket .bool) p1), (5, .v 0 (.int .i64) (p0.length : Int))]) (by kernel_rfl) ?_
    refine W_loop' (En := fun (x : Int) => [(0, .v 0 (.slice T_api_Ticket) p0), (1, .v 0 (.fn T_api_Ticket .bool) p1), (5, .v 0 (.int .i64) x)]) (x := (p0.length : Int)) h ?_
    rintro x3 K h
    replace h : Leads _ (state_cut_api_Ticket_b1 p0 p1 x3) := h
    unfold state_cut_api_Ticket_b1 at h
    show W _ _ _ _ _ _ [(0, .v 0 (.slice T_api_Ticket) p0), (1, .v 0 (.fn T_api_Ticket .bool) p1), (5, .v 0 (.int .i64) x3)]
    refine W_seq ?_
    refine W_seq ?_
    obtain ⟨o1, h⟩ := h.ass
    obtain ⟨y4, ey4, h⟩ := h.bind
    refine W_region mixed tys_ok (sup := [.res [(0, ⟨9, .bool, y4⟩)]]) (l := [(0, 0), (1, 0), (5, 0), (19, 0)]) (E' := [(0, .v 0 (.slice T_api_Ticket) p0), (1, .v 0 (.fn T_api_Ticket .bool) p1), (5, .v 0 (.int .i64) x3), (19, .v 0 .bool ((decide (x3 > (0 : Int))) && (!y4)))]) (obs := [(decide (x3 > (0 : Int))) = true → 0 ≤ IntKind.i64.wrap (x3 - (1 : Int)) ∧ IntKind.i64.wrap (x3 - (1 : Int)) < (p0.length : Int), (decide (x3 > (0 : Int))) = true → p1 (rd z_api_Ticket p0 (IntKind.i64.wrap (x3 - (1 : Int)))) = some y4]) (by kernel_rfl) (⟨o1, fun hc => bif_some ey4 hc⟩) ?_
    refine W_cond (β := (decide (x3 > (0 : Int))) && (!y4)) (by kernel_rfl) (fun hb => ?_) (fun hb => ?_)
    · rw [cond_tt hb] at h
      refine W_skip ?_
      refine W_block ?_
      refine W_region mixed tys_ok (sup := []) (l := [(0, 0), (1, 0), (5, 0)]) (E' := [(0, .v 0 (.slice T_api_Ticket) p0), (1, .v 0 (.fn T_api_Ticket .bool) p1), (5, .v 0 (.int .i64) (IntKind.i64.wrap (x3 - (1 : Int))))]) (obs := []) (by kernel_rfl) (trivial) ?_
      refine W_gen (x := IntKind.i64.wrap (x3 - (1 : Int))) (En := fun x5 => [(0, .v 0 (.slice T_api_Ticket) p0), (1, .v 0 (.fn T_api_Ticket .bool) p1), (5, .v 0 (.int .i64) x5)]) h (fun x5 h => ?_)
      refine W_blk ?_
      refine W_keep (l := [(0, 0), (1, 0), (5, 0)]) (E' := [(0, .v 0 (.slice T_api_Ticket) p0), (1, .v 0 (.fn T_api_Ticket .bool) p1), (5, .v 0 (.int .i64) x5)]) (by kernel_rfl) ?_
      exact W_abs h
    · rw [cond_ff hb] at h
      refine W_exit rfl ?_
      refine W_keep (l := [(0, 0), (5, 0)]) (E' := [(0, .v 0 (.slice T_api_Ticket) p0), (5, .v 0 (.int .i64) x3)]) (by kernel_rfl) ?_
      exact j1 x3 h.back

noncomputable def state_ticketUsed (p0 : D_api_Ticket) : Option Bool :=
  some p0.1
theorem state_ticketUsed.ok {p0 : D_api_Ticket} {r : Bool} (h : state_ticketUsed p0 = some r) : ACall prog 137 [⟨T_api_Ticket, p0⟩] [⟨0, .bool, r⟩] := by
  replace h := Leads.of h
  unfold state_ticketUsed at h
  refine acall_of func137 (by kernel_rfl) rfl (by kernel_rfl) fun w0 F0 hw0 => ?_
  refine W_seq ?_
  refine W_region mixed tys_ok (sup := []) (l := [(1, 9)]) (E' := [(1, .box 9 T_api_Ticket p0)]) (obs := []) (by kernel_rfl) (trivial) ?_
  refine W_seq ?_
  refine W_region mixed tys_ok (sup := []) (l := [(2, 0)]) (E' := [(2, .v 0 .bool p0.1)]) (obs := []) (by kernel_rfl) (trivial) ?_
  refine W_keep (l := [(2, 0)]) (E' := [(2, .v 0 .bool p0.1)]) (by kernel_rfl) ?_
  replace h : p0.1 = r := h
  subst h
  exact W_ret tys_ok hw0 (by kernel_rfl) (by kernel_rfl)

noncomputable def state_cut_api_Thread_j1 (p0 : List D_api_Thread) (x1 : Int) : Option (List D_api_Thread) :=
  ass (0 ≤ (0 : Int) ∧ (0 : Int) ≤ x1 ∧ x1 ≤ (p0.length : Int)) <|
  (slices_Clone_api_Thread_api_Thread (sl p0 (0 : Int) x1)).bind fun y2 =>
  some y2
noncomputable def state_cut_api_Thread_b1 (p0 : List D_api_Thread) (p1 : D_api_Thread → Option Bool) (x3 : Int) : Option (Int ⊕ (List D_api_Thread)) :=
  ass ((decide (x3 > (0 : Int))) = true → 0 ≤ IntKind.i64.wrap (x3 - (1 : Int)) ∧ IntKind.i64.wrap (x3 - (1 : Int)) < (p0.length : Int)) <|
  (bif decide (x3 > (0 : Int)) then p1 (rd z_api_Thread p0 (IntKind.i64.wrap (x3 - (1 : Int)))) else some false).bind fun y4 =>
  bif (decide (x3 > (0 : Int))) && (!y4) then
    bnd (IntKind.i64.wrap (x3 - (1 : Int))) fun x5 =>
    some (.inl x5)
  else
    (state_cut_api_Thread_j1 p0 x3).map .inr
noncomputable def state_cut_api_Thread (p0 : List D_api_Thread) (p1 : D_api_Thread → Option Bool) : Option (List D_api_Thread) :=
  loopM (fun x : Int => state_cut_api_Thread_b1 p0 p1 x) (p0.length : Int)
theorem state_cut_api_Thread.ok {p0 : List D_api_Thread} {p1 : D_api_Thread → Option Bool} {r : List D_api_Thread} (h : state_cut_api_Thread p0 p1 = some r) : ACall prog 138 [⟨.slice T_api_Thread, p0⟩, ⟨.fn T_api_Thread .bool, p1⟩] [⟨9, .slice T_api_Thread, r⟩] := by
  replace h := Leads.of h
  unfold state_cut_api_Thread at h
  refine acall_of func138 (by kernel_rfl) rfl (by kernel_rfl) fun w0 F0 hw0 => ?_
  refine W_seq ?_
  refine W_region mixed tys_ok (sup := []) (l := [(0, 0), (1, 0)]) (E' := [(0, .v 0 (.slice T_api_Thread) p0), (1, .v 0 (.fn T_api_Thread .bool) p1)]) (obs := []) (by kernel_rfl) (trivial) ?_
  refine W_seq ?_
  refine W_region mixed tys_ok (sup := []) (l := [(0, 0), (1, 0), (5, 0)]) (E' := [(0, .v 0 (.slice T_api_Thread) p0), (1, .v 0 (.fn T_api_Thread .bool) p1), (5, .v 0 (.int .i64) (p0.length : Int))]) (obs := []) (by kernel_rfl) (trivial) ?_
  refine W_seq ?_
  refine W_join h (Ej := fun (x : Int) => [(0, .v 0 (.slice T_api_Thread) p0), (5, .v 0 (.int .i64) x)]) (p := fun x => state_cut_api_Thread_j1 p0 x) ?_ ?_
  · rintro x1 h
    replace h : Leads _ (state_cut_api_Thread_j1 p0 x1) := h
    unfold state_cut_api_Thread_j1 at h
    show W _ _ _ _ _ _ [(0, .v 0 (.slice T_api_Thread) p0), (5, .v 0 (.int .i64) x1)]
    refine W_seq ?_
    obtain ⟨o1, h⟩ := h.ass
    obtain ⟨y2, ey2, h⟩ := h.bind
    refine W_region mixed tys_ok (sup := [.res [(9, ⟨9, .slice T_api_Thread, y2⟩)]]) (l := [(4, 9)]) (E' := [(4, .v 9 (.slice T_api_Thread) y2)]) (obs := [0 ≤ (0 : Int) ∧ (0 : Int) ≤ x1 ∧ x1 ≤ (p0.length : Int), ACall prog 131 [⟨.slice T_api_Thread, sl p0 (0 : Int) x1⟩] [⟨9, .slice T_api_Thread, y2⟩]]) (by kernel_rfl) (⟨o1, slices_Clone_api_Thread_api_Thread.ok ey2⟩) ?_
    refine W_keep (l := [(4, 9)]) (E' := [(4, .v 9 (.slice T_api_Thread) y2)]) (by kernel_rfl) ?_
    replace h : y2 = r := h
    subst h
    exact W_ret tys_ok hw0 (by kernel_rfl) (by kernel_rfl)
  · intro j1
    refine W_block ?_
    refine W_keep (l := [(0, 0), (1, 0), (5, 0)]) (E' := [(0, .v 0 (.slice T_api_Thread) p0), (1, .v 0 (.fn T_api_Thread .bool) p1), (5, .v 0 (.int .i64) (p0.length : Int))]) (by kernel_rfl) ?_
    refine W_loop' (En := fun (x : Int) => [(0, .v 0 (.slice T_api_Thread) p0), (1, .v 0 (.fn T_api_Thread .bool) p1), (5, .v 0 (.int .i64) x)]) (x := (p0.length : Int)) h ?_
    rintro x3 K h
    replace h : Leads _ (state_cut_api_Thread_b1 p0 p1 x3) := h
    unfold state_cut_api_Thread_b1 at h
    show W _ _ _ _ _ _ [(0, .v 0 (.slice T_api_Thread) p0), (1, .v 0 (.fn T_api_Thread .bool) p1), (5, .v 0 (.int .i64) x3)]
    refine W_seq ?_
    refine W_seq ?_
    obtain ⟨o1, h⟩ := h.ass
    obtain ⟨y4, ey4, h⟩ := h.bind
    refine W_region mixed tys_ok (sup := [.res [(0, ⟨9, .bool, y4⟩)]]) (l := [(0, 0), (1, 0), (5, 0), (19, 0)]) (E' := [(0, .v 0 (.slice T_api_Thread) p0), (1, .v 0 (.fn T_api_Thread .bool) p1), (5, .v 0 (.int .i64) x3), (19, .v 0 .bool ((decide (x3 > (0 : Int))) && (!y4)))]) (obs := [(decide (x3 > (0 : Int))) = true → 0 ≤ IntKind.i64.wrap (x3 - (1 : Int)) ∧ IntKind.i64.wrap (x3 - (1 : Int)) < (p0.length : Int), (decide (x3 > (0 : Int))) = true → p1 (rd z_api_Thread p0 (IntKind.i64.wrap (x3 - (1 : Int)))) = some y4]) (by kernel_rfl) (⟨o1, fun hc => bif_some ey4 hc⟩) ?_
    refine W_cond (β := (decide (x3 > (0 : Int))) && (!y4)) (by kernel_rfl) (fun hb => ?_) (fun hb => ?_)
    · rw [cond_tt hb] at h
      refine W_skip ?_
      refine W_block ?_
      refine W_region mixed tys_ok (sup := []) (l := [(0, 0), (1, 0), (5, 0)]) (E' := [(0, .v 0 (.slice T_api_Thread) p0), (1, .v 0 (.fn T_api_Thread .bool) p1), (5, .v 0 (.int .i64) (IntKind.i64.wrap (x3 - (1 : Int))))]) (obs := []) (by kernel_rfl) (trivial) ?_
      refine W_gen (x := IntKind.i64.wrap (x3 - (1 : Int))) (En := fun x5 => [(0, .v 0 (.slice T_api_Thread) p0), (1, .v 0 (.fn T_api_Thread .bool) p1), (5, .v 0 (.int .i64) x5)]) h (fun x5 h => ?_)
      refine W_blk ?_
      refine W_keep (l := [(0, 0), (1, 0), (5, 0)]) (E' := [(0, .v 0 (.slice T_api_Thread) p0), (1, .v 0 (.fn T_api_Thread .bool) p1), (5, .v 0 (.int .i64) x5)]) (by kernel_rfl) ?_
      exact W_abs h
    · rw [cond_ff hb] at h
      refine W_exit rfl ?_
      refine W_keep (l := [(0, 0), (5, 0)]) (E' := [(0, .v 0 (.slice T_api_Thread) p0), (5, .v 0 (.int .i64) x3)]) (by kernel_rfl) ?_
      exact j1 x3 h.back

noncomputable def state_threadUsed (p0 : D_api_Thread) : Option Bool :=
  bnd (p0.1 != (0 : Int)) fun x1 =>
  some x1
theorem state_threadUsed.ok {p0 : D_api_Thread} {r : Bool} (h : state_threadUsed p0 = some r) : ACall prog 139 [⟨T_api_Thread, p0⟩] [⟨0, .bool, r⟩] := by
  replace h := Leads.of h
  unfold state_threadUsed at h
  refine acall_of func139 (by kernel_rfl) rfl (by kernel_rfl) fun w0 F0 hw0 => ?_
  refine W_seq ?_
  refine W_region mixed tys_ok (sup := []) (l := [(1, 9)]) (E' := [(1, .box 9 T_api_Thread p0)]) (obs := []) (by kernel_rfl) (trivial) ?_
  refine W_seq ?_
  refine W_region mixed tys_ok (sup := []) (l := [(2, 0)]) (E' := [(2, .v 0 .bool (p0.1 != (0 : Int)))]) (obs := []) (by kernel_rfl) (trivial) ?_
  refine W_gen (x := p0.1 != (0 : Int)) (En := fun x1 => [(2, .v 0 .bool x1)]) h (fun x1 h => ?_)
  refine W_keep (l := [(2, 0)]) (E' := [(2, .v 0 .bool x1)]) (by kernel_rfl) ?_
  replace h : x1 = r := h
  subst h
  exact W_ret tys_ok hw0 (by kernel_rfl) (by kernel_rfl)

noncomputable def state_cut_api_Lock_j1 (p0 : List D_api_Lock) (x1 : Int) : Option (List D_api_Lock) :=
  ass (0 ≤ (0 : Int) ∧ (0 : Int) ≤ x1 ∧ x1 ≤ (p0.length : Int)) <|
  (slices_Clone_api_Lock_api_Lock (sl p0 (0 : Int) x1)).bind fun y2 =>
  some y2
noncomputable def state_cut_api_Lock_b1 (p0 : List D_api_Lock) (p1 : D_api_Lock → Option Bool) (x3 : Int) : Option (Int ⊕ (List D_api_Lock)) :=
  ass ((decide (x3 > (0 : Int))) = true → 0 ≤ IntKind.i64.wrap (x3 - (1 : Int)) ∧ IntKind.i64.wrap (x3 - (1 : Int)) < (p0.length : Int)) <|
  (bif decide (x3 > (0 : Int)) then p1 (rd z_api_Lock p0 (IntKind.i64.wrap (x3 - (1 : Int)))) else some false).bind fun y4 =>
  bif (decide (x3 > (0 : Int))) && (!y4) then
    bnd (IntKind.i64.wrap (x3 - (1 : Int))) fun x5 =>
    some (.inl x5)
  else
    (state_cut_api_Lock_j1 p0 x3).map .inr
noncomputable def state_cut_api_Lock (p0 : List D_api_Lock) (p1 : D_api_Lock → Option Bool) : Option (List D_api_Lock) :=
  loopM (fun x : Int => state_cut_api_Lock_b1 p0 p1 x) (p0.length : Int)
theorem state_cut_api_Lock.ok {p0 : List D_api_Lock} {p1 : D_api_Lock → Option Bool} {r : List D_api_Lock} (h : state_cut_api_Lock p0 p1 = some r) : ACall prog 140 [⟨.slice T_api_Lock, p0⟩, ⟨.fn T_api_Lock .bool, p1⟩] [⟨9, .slice T_api_Lock, r⟩] := by
  replace h := Leads.of h
  unfold state_cut_api_Lock at h
  refine acall_of func140 (by kernel_rfl) rfl (by kernel_rfl) fun w0 F0 hw0 => ?_
  refine W_seq ?_
  refine W_region mixed tys_ok (sup := []) (l := [(0, 0), (1, 0)]) (E' := [(0, .v 0 (.slice T_api_Lock) p0), (1, .v 0 (.fn T_api_Lock .bool) p1)]) (obs := []) (by kernel_rfl) (trivial) ?_
  refine W_seq ?_
  refine W_region mixed tys_ok (sup := []) (l := [(0, 0), (1, 0), (5, 0)]) (E' := [(0, .v 0 (.slice T_api_Lock) p0), (1, .v 0 (.fn T_api_Lock .bool) p1), (5, .v 0 (.int .i64) (p0.length : Int))]) (obs := []) (by kernel_rfl) (trivial) ?_
  refine W_seq ?_
  refine W_join h (Ej := fun (x : Int) => [(0, .v 0 (.slice T_api_Lock) p0), (5, .v 0 (.int .i64) x)]) (p := fun x => state_cut_api_Lock_j1 p0 x) ?_ ?_
  · rintro x1 h
    replace h : Leads _ (state_cut_api_Lock_j1 p0 x1) := h
    unfold state_cut_api_Lock_j1 at h
    show W _ _ _ _ _ _ [(0, .v 0 (.slice T_api_Lock) p0), (5, .v 0 (.int .i64) x1)]
    refine W_seq ?_
    obtain ⟨o1, h⟩ := h.ass
    obtain ⟨y2, ey2, h⟩ := h.bind
    refine W_region mixed tys_ok (sup := [.res [(9, ⟨9, .slice T_api_Lock, y2⟩)]]) (l := [(4, 9)]) (E' := [(4, .v 9 (.slice T_api_Lock) y2)]) (obs := [0 ≤ (0 : Int) ∧ (0 : Int) ≤ x1 ∧ x1 ≤ (p0.length : Int), ACall prog 132 [⟨.slice T_api_Lock, sl p0 (0 : Int) x1⟩] [⟨9, .slice T_api_Lock, y2⟩]]) (by kernel_rfl) (⟨o1, slices_Clone_api_Lock_api_Lock.ok ey2⟩) ?_
    refine W_keep (l := [(4, 9)]) (E' := [(4, .v 9 (.slice T_api_Lock) y2)]) (by kernel_rfl) ?_
    replace h : y2 = r := h
    subst h
    exact W_ret tys_ok hw0 (by kernel_rfl) (by kernel_rfl)
  · intro j1
    refine W_block ?_
    refine W_keep (l := [(0, 0), (1, 0), (5, 0)]) (E' := [(0, .v 0 (.slice T_api_Lock) p0), (1, .v 0 (.fn T_api_Lock .bool) p1), (5, .v 0 (.int .i64) (p0.length : Int))]) (by kernel_rfl) ?_
    refine W_loop' (En := fun (x : Int) => [(0, .v 0 (.slice T_api_Lock) p0), (1, .v 0 (.fn T_api_Lock .bool) p1), (5, .v 0 (.int .i64) x)]) (x := (p0.length : Int)) h ?_
    rintro x3 K h
    replace h : Leads _ (state_cut_api_Lock_b1 p0 p1 x3) := h
    unfold state_cut_api_Lock_b1 at h
    show W _ _ _ _ _ _ [(0, .v 0 (.slice T_api_Lock) p0), (1, .v 0 (.fn T_api_Lock .bool) p1), (5, .v 0 (.int .i64) x3)]
    refine W_seq ?_
    refine W_seq ?_
    obtain ⟨o1, h⟩ := h.ass
    obtain ⟨y4, ey4, h⟩ := h.bind
    refine W_region mixed tys_ok (sup := [.res [(0, ⟨9, .bool, y4⟩)]]) (l := [(0, 0), (1, 0), (5, 0), (19, 0)]) (E' := [(0, .v 0 (.slice T_api_Lock) p0), (1, .v 0 (.fn T_api_Lock .bool) p1), (5, .v 0 (.int .i64) x3), (19, .v 0 .bool ((decide (x3 > (0 : Int))) && (!y4)))]) (obs := [(decide (x3 > (0 : Int))) = true → 0 ≤ IntKind.i64.wrap (x3 - (1 : Int)) ∧ IntKind.i64.wrap (x3 - (1 : Int)) < (p0.length : Int), (decide (x3 > (0 : Int))) = true → p1 (rd z_api_Lock p0 (IntKind.i64.wrap (x3 - (1 : Int)))) = some y4]) (by kernel_rfl) (⟨o1, fun hc => bif_some ey4 hc⟩) ?_
    refine W_cond (β := (decide (x3 > (0 : Int))) && (!y4)) (by kernel_rfl) (fun hb => ?_) (fun hb => ?_)
    · rw [cond_tt hb] at h
      refine W_skip ?_
      refine W_block ?_
      refine W_region mixed tys_ok (sup := []) (l := [(0, 0), (1, 0), (5, 0)]) (E' := [(0, .v 0 (.slice T_api_Lock) p0), (1, .v 0 (.fn T_api_Lock .bool) p1), (5, .v 0 (.int .i64) (IntKind.i64.wrap (x3 - (1 : Int))))]) (obs := []) (by kernel_rfl) (trivial) ?_
      refine W_gen (x := IntKind.i64.wrap (x3 - (1 : Int))) (En := fun x5 => [(0, .v 0 (.slice T_api_Lock) p0), (1, .v 0 (.fn T_api_Lock .bool) p1), (5, .v 0 (.int .i64) x5)]) h (fun x5 h => ?_)
      refine W_blk ?_
      refine W_keep (l := [(0, 0), (1, 0), (5, 0)]) (E' := [(0, .v 0 (.slice T_api_Lock) p0), (1, .v 0 (.fn T_api_Lock .bool) p1), (5, .v 0 (.int .i64) x5)]) (by kernel_rfl) ?_
      exact W_abs h
    · rw [cond_ff hb] at h
      refine W_exit rfl ?_
      refine W_keep (l := [(0, 0), (5, 0)]) (E' := [(0, .v 0 (.slice T_api_Lock) p0), (5, .v 0 (.int .i64) x3)]) (by kernel_rfl) ?_
      exact j1 x3 h.back

noncomputable def state_lockUsed (p0 : D_api_Lock) : Option Bool :=
  some p0.1
theorem state_lockUsed.ok {p0 : D_api_Lock} {r : Bool} (h : state_lockUsed p0 = some r) : ACall prog 141 [⟨T_api_Lock, p0⟩] [⟨0, .bool, r⟩] := by
  replace h := Leads.of h
  unfold state_lockUsed at h
  refine acall_of func141 (by kernel_rfl) rfl (by kernel_rfl) fun w0 F0 hw0 => ?_
  refine W_seq ?_
  refine W_region mixed tys_ok (sup := []) (l := [(1, 9)]) (E' := [(1, .box 9 T_api_Lock p0)]) (obs := []) (by kernel_rfl) (trivial) ?_
  refine W_seq ?_
  refine W_region mixed tys_ok (sup := []) (l := [(2, 0)]) (E' := [(2, .v 0 .bool p0.1)]) (obs := []) (by kernel_rfl) (trivial) ?_
  refine W_keep (l := [(2, 0)]) (E' := [(2, .v 0 .bool p0.1)]) (by kernel_rfl) ?_
  replace h : p0.1 = r := h
  subst h
  exact W_ret tys_ok hw0 (by kernel_rfl) (by kernel_rfl)

noncomputable def state_Trim (p0 : D_api_State) : Option D_api_State :=
  bnd ((([] : List Bool), ([] : List D_api_Ticket), ([] : List D_api_Thread), ([] : List D_api_Lock), ([] : List Int), (0 : Int))) fun x1 =>
  (state_cut_bool p0.1 (fun x => state_coinUsed x)).bind fun y2 =>
  (state_cut_api_Ticket p0.2.1 (fun x => state_ticketUsed x)).bind fun y3 =>
  (state_cut_api_Thread p0.2.2.1 (fun x => state_threadUsed x)).bind fun y4 =>
  (state_cut_api_Lock p0.2.2.2.1 (fun x => state_lockUsed x)).bind fun y5 =>
  (slices_Clone_int_int p0.2.2.2.2.1).bind fun y6 =>
  bnd ((y2, y3, y4, y5, y6, p0.2.2.2.2.2)) fun x7 =>
  some x7
theorem state_Trim.ok {p0 : D_api_State} {r : D_api_State} (h : state_Trim p0 = some r) : ACall prog 45 [⟨T_api_State, p0⟩] [⟨(.pr 9 (.pr 9 (.pr 9 (.pr 9 (.pr 9 0))))), T_api_State, r⟩] := by
  replace h := Leads.of h
  unfold state_Trim at h
  refine acall_of func45 (by kernel_rfl) rfl (by kernel_rfl) fun w0 F0 hw0 => ?_
  refine W_seq ?_
  refine W_region mixed tys_ok (sup := []) (l := [(1, 0), (2, 9)]) (E' := [(1, .box 0 T_api_State p0), (2, .box 9 T_api_State (([] : List Bool), ([] : List D_api_Ticket), ([] : List D_api_Thread), ([] : List D_api_Lock), ([] : List Int), (0 : Int)))]) (obs := []) (by kernel_rfl) (trivial) ?_
  refine W_gen (x := (([] : List Bool), ([] : List D_api_Ticket), ([] : List D_api_Thread), ([] : List D_api_Lock), ([] : List Int), (0 : Int))) (En := fun x1 => [(1, .box 0 T_api_State p0), (2, .box 9 T_api_State x1)]) h (fun x1 h => ?_)
  refine W_seq ?_
  obtain ⟨y2, ey2, h⟩ := h.bind
  obtain ⟨y3, ey3, h⟩ := h.bind
  obtain ⟨y4, ey4, h⟩ := h.bind
  obtain ⟨y5, ey5, h⟩ := h.bind
  obtain ⟨y6, ey6, h⟩ := h.bind
  refine W_region mixed tys_ok (sup := [.fn .bool .bool (fun x => state_coinUsed x), .res [(9, ⟨9, .slice .bool, y2⟩)], .fn T_api_Ticket .bool (fun x => state_ticketUsed x), .res [(9, ⟨9, .slice T_api_Ticket, y3⟩)], .fn T_api_Thread .bool (fun x => state_threadUsed x), .res [(9, ⟨9, .slice T_api_Thread, y4⟩)], .fn T_api_Lock .bool (fun x => state_lockUsed x), .res [(9, ⟨9, .slice T_api_Lock, y5⟩)], .res [(9, ⟨9, .slice (.int .i64), y6⟩)]]) (l := [(1, (.pr 9 (.pr 9 (.pr 9 (.pr 9 (.pr 9 0)))))), (2, 9)]) (E' := [(1, .box (.pr 9 (.pr 9 (.pr 9 (.pr 9 (.pr 9 0))))) T_api_State (y2, y3, y4, y5, y6, p0.2.2.2.2.2)), (2, .box 9 T_api_State x1)]) (obs := [∀ x y, (fun x => state_coinUsed x) x = some y → ACall prog 135 (unprod .bool x ++ []) [⟨9, .bool, y⟩], ACall prog 134 [⟨.slice .bool, p0.1⟩, ⟨.fn .bool .bool, fun x => state_coinUsed x⟩] [⟨9, .slice .bool, y2⟩], ∀ x y, (fun x => state_ticketUsed x) x = some y → ACall prog 137 (unprod T_api_Ticket x ++ []) [⟨9, .bool, y⟩], ACall prog 136 [⟨.slice T_api_Ticket, p0.2.1⟩, ⟨.fn T_api_Ticket .bool, fun x => state_ticketUsed x⟩] [⟨9, .slice T_api_Ticket, y3⟩], ∀ x y, (fun x => state_threadUsed x) x = some y → ACall prog 139 (unprod T_api_Thread x ++ []) [⟨9, .bool, y⟩], ACall prog 138 [⟨.slice T_api_Thread, p0.2.2.1⟩, ⟨.fn T_api_Thread .bool, fun x => state_threadUsed x⟩] [⟨9, .slice T_api_Thread, y4⟩], ∀ x y, (fun x => state_lockUsed x) x = some y → ACall prog 141 (unprod T_api_Lock x ++ []) [⟨9, .bool, y⟩], ACall prog 140 [⟨.slice T_api_Lock, p0.2.2.2.1⟩, ⟨.fn T_api_Lock .bool, fun x => state_lockUsed x⟩] [⟨9, .slice T_api_Lock, y5⟩], ACall prog 133 [⟨.slice (.int .i64), p0.2.2.2.2.1⟩] [⟨9, .slice (.int .i64), y6⟩]]) (by kernel_rfl) (⟨fun x y e => ACall.flat rfl (state_coinUsed.ok e), state_cut_bool.ok ey2, fun x y e => ACall.flat rfl (state_ticketUsed.ok e), state_cut_api_Ticket.ok ey3, fun x y e => ACall.flat rfl (state_threadUsed.ok e), state_cut_api_Thread.ok ey4, fun x y e => ACall.flat rfl (state_lockUsed.ok e), state_cut_api_Lock.ok ey5, slices_Clone_int_int.ok ey6⟩) ?_
  refine W_gen (x := (y2, y3, y4, y5, y6, p0.2.2.2.2.2)) (En := fun x7 => [(1, .box (.pr 9 (.pr 9 (.pr 9 (.pr 9 (.pr 9 0))))) T_api_State x7), (2, .box 9 T_api_State x1)]) h (fun x7 h => ?_)
  refine W_seq ?_
  refine W_region mixed tys_ok (sup := []) (l := [(2, (.pr 9 (.pr 9 (.pr 9 (.pr 9 (.pr 9 0))))))]) (E' := [(2, .box (.pr 9 (.pr 9 (.pr 9 (.pr 9 (.pr 9 0))))) T_api_State x7)]) (obs := []) (by kernel_rfl) (trivial) ?_
  refine W_keep (l := [(2, (.pr 9 (.pr 9 (.pr 9 (.pr 9 (.pr 9 0))))))]) (E' := [(2, .box (.pr 9 (.pr 9 (.pr 9 (.pr 9 (.pr 9 0))))) T_api_State x7)]) (by kernel_rfl) ?_
  replace h : x7 = r := h
  subst h
  exact W_ret tys_ok hw0 (by kernel_rfl) (by kernel_rfl)

noncomputable def state_PutThread (p0 : D_api_State) (p1 : Int) (p2 : D_api_Thread) : Option D_api_State :=
  bnd ((([] : List Bool), ([] : List D_api_Ticket), ([] : List D_api_Thread), ([] : List D_api_Lock), ([] : List Int), (0 : Int))) fun x1 =>
  (state_within p1 (32 : Int)).bind fun y2 =>
  bif !y2 then
    (state_Copy p0).bind fun y3 =>
    some y3
  else
    (state_put_api_Thread p0.2.2.1 p1 (32 : Int) p2).bind fun y4 =>
    bnd ((p0.1, p0.2.1, y4, p0.2.2.2)) fun x5 =>
    (state_Trim x5).bind fun y6 =>
    some y6
theorem state_PutThread.ok {p0 : D_api_State} {p1 : Int} {p2 : D_api_Thread} {r : D_api_State} (h : state_PutThread p0 p1 p2 = some r) : ACall prog 54 [⟨T_api_State, p0⟩, ⟨.int .i64, p1⟩, ⟨T_api_Thread, p2⟩] [⟨(.pr 9 (.pr 9 (.pr 9 (.pr 9 (.pr 9 0))))), T_api_State, r⟩] := by
  replace h := Leads.of h
  unfold state_PutThread at h
  refine acall_of func54 (by kernel_rfl) rfl (by kernel_rfl) fun w0 F0 hw0 => ?_
  refine W_seq ?_
  refine W_region mixed tys_ok (sup := []) (l := [(1, 0), (3, 0), (5, 9), (6, 9)]) (E' := [(1, .v 0 (.int .i64) p1), (3, .box 0 T_api_State p0), (5, .box 9 T_api_Thread p2), (6, .box 9 T_api_State (([] : List Bool), ([] : List D_api_Ticket), ([] : List D_api_Thread), ([] : List D_api_Lock), ([] : List Int), (0 : Int)))]) (obs := []) (by kernel_rfl) (trivial) ?_
  refine W_gen (x := (([] : List Bool), ([] : List D_api_Ticket), ([] : List D_api_Thread), ([] : List D_api_Lock), ([] : List Int), (0 : Int))) (En := fun x1 => [(1, .v 0 (.int .i64) p1), (3, .box 0 T_api_State p0), (5, .box 9 T_api_Thread p2), (6, .box 9 T_api_State x1)]) h (fun x1 h => ?_)
  refine W_seq ?_
  refine W_seq ?_
  obtain ⟨y2, ey2, h⟩ := h.bind
  refine W_region mixed tys_ok (sup := [.res [(0, ⟨0, .bool, y2⟩)]]) (l := [(1, 0), (3, 0), (5, 9), (6, 9), (9, 0)]) (E' := [(1, .v 0 (.int .i64) p1), (3, .box 0 T_api_State p0), (5, .box 9 T_api_Thread p2), (6, .box 9 T_api_State x1), (9, .v 0 .bool (!y2))]) (obs := [ACall prog 142 [⟨.int .i64, p1⟩, ⟨.int .i64, (32 : Int)⟩] [⟨0, .bool, y2⟩]]) (by kernel_rfl) (state_within.ok ey2) ?_
  refine W_cond (β := !y2) (by kernel_rfl) (fun hb => ?_) (fun hb => ?_)
  · rw [cond_tt hb] at h
    refine W_seq ?_
    obtain ⟨y3, ey3, h⟩ := h.bind
    refine W_region mixed tys_ok (sup := [.res [((.pr 9 (.pr 9 (.pr 9 (.pr 9 (.pr 9 0))))), ⟨(.pr 9 (.pr 9 (.pr 9 (.pr 9 (.pr 9 0))))), T_api_State, y3⟩)]]) (l := [(6, (.pr 9 (.pr 9 (.pr 9 (.pr 9 (.pr 9 0))))))]) (E' := [(6, .box (.pr 9 (.pr 9 (.pr 9 (.pr 9 (.pr 9 0))))) T_api_State y3)]) (obs := [ACall prog 44 [⟨T_api_State, p0⟩] [⟨(.pr 9 (.pr 9 (.pr 9 (.pr 9 (.pr 9 0))))), T_api_State, y3⟩]]) (by kernel_rfl) (state_Copy.ok ey3) ?_
    refine W_keep (l := [(6, (.pr 9 (.pr 9 (.pr 9 (.pr 9 (.pr 9 0))))))]) (E' := [(6, .box (.pr 9 (.pr 9 (.pr 9 (.pr 9 (.pr 9 0))))) T_api_State y3)]) (by kernel_rfl) ?_
    replace h : y3 = r := h
    subst h
    exact W_ret tys_ok hw0 (by kernel_rfl) (by kernel_rfl)
  · rw [cond_ff hb] at h
    refine W_skip ?_
    refine W_seq ?_
    obtain ⟨y4, ey4, h⟩ := h.bind
    refine W_region mixed tys_ok (sup := [.res [(9, ⟨9, .slice T_api_Thread, y4⟩)]]) (l := [(3, (.pr 0 (.pr 0 (.pr 9 0)))), (6, 9)]) (E' := [(3, .box (.pr 0 (.pr 0 (.pr 9 0))) T_api_State (p0.1, p0.2.1, y4, p0.2.2.2)), (6, .box 9 T_api_State x1)]) (obs := [ACall prog 145 [⟨.slice T_api_Thread, p0.2.2.1⟩, ⟨.int .i64, p1⟩, ⟨.int .i64, (32 : Int)⟩, ⟨T_api_Thread, p2⟩] [⟨9, .slice T_api_Thread, y4⟩]]) (by kernel_rfl) (state_put_api_Thread.ok ey4) ?_
    refine W_gen (x := (p0.1, p0.2.1, y4, p0.2.2.2)) (En := fun x5 => [(3, .box (.pr 0 (.pr 0 (.pr 9 0))) T_api_State x5), (6, .box 9 T_api_State x1)]) h (fun x5 h => ?_)
    refine W_seq ?_
    obtain ⟨y6, ey6, h⟩ := h.bind
    refine W_region mixed tys_ok (sup := [.res [((.pr 9 (.pr 9 (.pr 9 (.pr 9 (.pr 9 0))))), ⟨(.pr 9 (.pr 9 (.pr 9 (.pr 9 (.pr 9 0))))), T_api_State, y6⟩)]]) (l := [(6, (.pr 9 (.pr 9 (.pr 9 (.pr 9 (.pr 9 0))))))]) (E' := [(6, .box (.pr 9 (.pr 9 (.pr 9 (.pr 9 (.pr 9 0))))) T_api_State y6)]) (obs := [ACall prog 45 [⟨T_api_State, x5⟩] [⟨(.pr 9 (.pr 9 (.pr 9 (.pr 9 (.pr 9 0))))), T_api_State, y6⟩]]) (by kernel_rfl) (state_Trim.ok ey6) ?_
    refine W_keep (l := [(6, (.pr 9 (.pr 9 (.pr 9 (.pr 9 (.pr 9 0))))))]) (E' := [(6, .box (.pr 9 (.pr 9 (.pr 9 (.pr 9 (.pr 9 0))))) T_api_State y6)]) (by kernel_rfl) ?_
    replace h : y6 = r := h
    subst h
    exact W_ret tys_ok hw0 (by kernel_rfl) (by kernel_rfl)

noncomputable def state_ends_bool (p0 : List Bool) (p1 : Int) (p2 : Bool → Option Bool) : Option Bool :=
  ass (((decide ((p0.length : Int) ≤ p1)) && (!((p0.length : Int) == (0 : Int)))) = true → 0 ≤ IntKind.i64.wrap ((p0.length : Int) - (1 : Int)) ∧ IntKind.i64.wrap ((p0.length : Int) - (1 : Int)) < (p0.length : Int)) <|
  (bif (decide ((p0.length : Int) ≤ p1)) && (!((p0.length : Int) == (0 : Int))) then p2 (rd false p0 (IntKind.i64.wrap ((p0.length : Int) - (1 : Int)))) else some false).bind fun y1 =>
  bnd ((decide ((p0.length : Int) ≤ p1)) && (((p0.length : Int) == (0 : Int)) || y1)) fun x2 =>
  some x2
theorem state_ends_bool.ok {p0 : List Bool} {p1 : Int} {p2 : Bool → Option Bool} {r : Bool} (h : state_ends_bool p0 p1 p2 = some r) : ACall prog 206 [⟨.slice .bool, p0⟩, ⟨.int .i64, p1⟩, ⟨.fn .bool .bool, p2⟩] [⟨0, .bool, r⟩] := by
  replace h := Leads.of h
  unfold state_ends_bool at h
  refine acall_of func206 (by kernel_rfl) rfl (by kernel_rfl) fun w0 F0 hw0 => ?_
  refine W_seq ?_
  refine W_region mixed tys_ok (sup := []) (l := [(0, 0), (1, 0), (2, 0)]) (E' := [(0, .v 0 (.slice .bool) p0), (1, .v 0 (.int .i64) p1), (2, .v 0 (.fn .bool .bool) p2)]) (obs := []) (by kernel_rfl) (trivial) ?_
  refine W_seq ?_
  obtain ⟨o1, h⟩ := h.ass
  obtain ⟨y1, ey1, h⟩ := h.bind
  refine W_region mixed tys_ok (sup := [.res [(0, ⟨9, .bool, y1⟩)]]) (l := [(6, 0)]) (E' := [(6, .v 0 .bool ((decide ((p0.length : Int) ≤ p1)) && (((p0.length : Int) == (0 : Int)) || y1)))]) (obs := [((decide ((p0.length : Int) ≤ p1)) && (!((p0.length : Int) == (0 : Int)))) = true → 0 ≤ IntKind.i64.wrap ((p0.length : Int) - (1 : Int)) ∧ IntKind.i64.wrap ((p0.length : Int) - (1 : Int)) < (p0.length : Int), ((decide ((p0.length : Int) ≤ p1)) && (!((p0.length : Int) == (0 : Int)))) = true → p2 (rd false p0 (IntKind.i64.wrap ((p0.length : Int) - (1 : Int)))) = some y1]) (by kernel_rfl) (⟨o1, fun hc => bif_some ey1 hc⟩) ?_
  refine W_gen (x := (decide ((p0.length : Int) ≤ p1)) && (((p0.length : Int) == (0 : Int)) || y1)) (En := fun x2 => [(6, .v 0 .bool x2)]) h (fun x2 h => ?_)
  refine W_keep (l := [(6, 0)]) (E' := [(6, .v 0 .bool x2)]) (by kernel_rfl) ?_
  replace h : x2 = r := h
  subst h
  exact W_ret tys_ok hw0 (by kernel_rfl) (by kernel_rfl)

noncomputable def state_coins (p0 : D_api_State) : Option Bool :=
  ass ((decide ((p0.1.length : Int) > (0 : Int))) = true → 0 ≤ (0 : Int) ∧ (0 : Int) < (p0.1.length : Int)) <|
  (bif (decide ((p0.1.length : Int) > (0 : Int))) && (rd false p0.1 (0 : Int)) then state_ends_bool p0.1 (16 : Int) (fun x => state_coinUsed x) else some false).bind fun y1 =>
  bnd (((decide ((p0.1.length : Int) > (0 : Int))) && (rd false p0.1 (0 : Int))) && y1) fun x2 =>
  some x2
theorem state_coins.ok {p0 : D_api_State} {r : Bool} (h : state_coins p0 = some r) : ACall prog 118 [⟨T_api_State, p0⟩] [⟨0, .bool, r⟩] := by
  replace h := Leads.of h
  unfold state_coins at h
  refine acall_of func118 (by kernel_rfl) rfl (by kernel_rfl) fun w0 F0 hw0 => ?_
  refine W_seq ?_
  refine W_region mixed tys_ok (sup := []) (l := [(1, 0)]) (E' := [(1, .box 0 T_api_State p0)]) (obs := []) (by kernel_rfl) (trivial) ?_
  refine W_seq ?_
  obtain ⟨o1, h⟩ := h.ass
  obtain ⟨y1, ey1, h⟩ := h.bind
  refine W_region mixed tys_ok (sup := [.fn .bool .bool (fun x => state_coinUsed x), .res [(0, ⟨0, .bool, y1⟩)]]) (l := [(2, 0)]) (E' := [(2, .v 0 .bool (((decide ((p0.1.length : Int) > (0 : Int))) && (rd false p0.1 (0 : Int))) && y1))]) (obs := [(decide ((p0.1.length : Int) > (0 : Int))) = true → 0 ≤ (0 : Int) ∧ (0 : Int) < (p0.1.length : Int), ((decide ((p0.1.length : Int) > (0 : Int))) && (rd false p0.1 (0 : Int))) = true → ∀ x y, (fun x => state_coinUsed x) x = some y → ACall prog 135 (unprod .bool x ++ []) [⟨9, .bool, y⟩], ((decide ((p0.1.length : Int) > (0 : Int))) && (rd false p0.1 (0 : Int))) = true → ACall prog 206 [⟨.slice .bool, p0.1⟩, ⟨.int .i64, (16 : Int)⟩, ⟨.fn .bool .bool, fun x => state_coinUsed x⟩] [⟨0, .bool, y1⟩]]) (by kernel_rfl) (⟨o1, fun _ => fun x y e => ACall.flat rfl (state_coinUsed.ok e), fun hc => state_ends_bool.ok (bif_some ey1 hc)⟩) ?_
  refine W_gen (x := ((decide ((p0.1.length : Int) > (0 : Int))) && (rd false p0.1 (0 : Int))) && y1) (En := fun x2 => [(2, .v 0 .bool x2)]) h (fun x2 h => ?_)
  refine W_keep (l := [(2, 0)]) (E' := [(2, .v 0 .bool x2)]) (by kernel_rfl) ?_
  replace h : x2 = r := h
  subst h
  exact W_ret tys_ok hw0 (by kernel_rfl) (by kernel_rfl)

noncomputable def state_ends_api_Ticket (p0 : List D_api_Ticket) (p1 : Int) (p2 : D_api_Ticket → Option Bool) : Option Bool :=
  ass (((decide ((p0.length : Int) ≤ p1)) && (!((p0.length : Int) == (0 : Int)))) = true → 0 ≤ IntKind.i64.wrap ((p0.length : Int) - (1 : Int)) ∧ IntKind.i64.wrap ((p0.length : Int) - (1 : Int)) < (p0.length : Int)) <|
  (bif (decide ((p0.length : Int) ≤ p1)) && (!((p0.length : Int) == (0 : Int))) then p2 (rd z_api_Ticket p0 (IntKind.i64.wrap ((p0.length : Int) - (1 : Int)))) else some false).bind fun y1 =>
  bnd ((decide ((p0.length : Int) ≤ p1)) && (((p0.length : Int) == (0 : Int)) || y1)) fun x2 =>
  some x2
theorem state_ends_api_Ticket.ok {p0 : List D_api_Ticket} {p1 : Int} {p2 : D_api_Ticket → Option Bool} {r : Bool} (h : state_ends_api_Ticket p0 p1 p2 = some r) : ACall prog 207 [⟨.slice T_api_Ticket, p0⟩, ⟨.int .i64, p1⟩, ⟨.fn T_api_Ticket .bool, p2⟩] [⟨0, .bool, r⟩] := by
  replace h := Leads.of h
  unfold state_ends_api_Ticket at h
  refine acall_of func207 (by kernel_rfl) rfl (by kernel_rfl) fun w0 F0 hw0 => ?_
  refine W_seq ?_
  refine W_region mixed tys_ok (sup := []) (l := [(0, 0), (1, 0), (2, 0)]) (E' := [(0, .v 0 (.slice T_api_Ticket) p0), (1, .v 0 (.int .i64) p1), (2, .v 0 (.fn T_api_Ticket .bool) p2)]) (obs := []) (by kernel_rfl) (trivial) ?_
  refine W_seq ?_
  obtain ⟨o1, h⟩ := h.ass
  obtain ⟨y1, ey1, h⟩ := h.bind
  refine W_region mixed tys_ok (sup := [.res [(0, ⟨9, .bool, y1⟩)]]) (l := [(6, 0)]) (E' := [(6, .v 0 .bool ((decide ((p0.length : Int) ≤ p1)) && (((p0.length : Int) == (0 : Int)) || y1)))]) (obs := [((decide ((p0.length : Int) ≤ p1)) && (!((p0.length : Int) == (0 : Int)))) = true → 0 ≤ IntKind.i64.wrap ((p0.length : Int) - (1 : Int)) ∧ IntKind.i64.wrap ((p0.length : Int) - (1 : Int)) < (p0.length : Int), ((decide ((p0.length : Int) ≤ p1)) && (!((p0.length : Int) == (0 : Int)))) = true → p2 (rd z_api_Ticket p0 (IntKind.i64.wrap ((p0.length : Int) - (1 : Int)))) = some y1]) (by kernel_rfl) (⟨o1, fun hc => bif_some ey1 hc⟩) ?_
  refine W_gen (x := (decide ((p0.length : Int) ≤ p1)) && (((p0.length : Int) == (0 : Int)) || y1)) (En := fun x2 => [(6, .v 0 .bool x2)]) h (fun x2 h => ?_)
  refine W_keep (l := [(6, 0)]) (E' := [(6, .v 0 .bool x2)]) (by kernel_rfl) ?_
  replace h : x2 = r := h
  subst h
  exact W_ret tys_ok hw0 (by kernel_rfl) (by kernel_rfl)

noncomputable def slices_IndexFunc_api_Ticket_api_Ticket_j1 : Option (Int) :=
  some (-1 : Int)
noncomputable def slices_IndexFunc_api_Ticket_api_Ticket_b1 (p0 : List D_api_Ticket) (p1 : D_api_Ticket → Option Bool) (x1 : Int) : Option (Int ⊕ Int) :=
  bif decide (x1 < (p0.length : Int)) then
    ass (0 ≤ x1 ∧ x1 < (p0.length : Int)) <|
    (p1 (rd z_api_Ticket p0 x1)).bind fun y2 =>
    bif y2 then
      some (.inr x1)
    else
      bnd (IntKind.i64.wrap (x1 + (1 : Int))) fun x3 =>
      some (.inl x3)
  else
    (slices_IndexFunc_api_Ticket_api_Ticket_j1).map .inr
noncomputable def slices_IndexFunc_api_Ticket_api_Ticket (p0 : List D_api_Ticket) (p1 : D_api_Ticket → Option Bool) : Option Int :=
  loopM (fun x : Int => slices_IndexFunc_api_Ticket_api_Ticket_b1 p0 p1 x) (0 : Int)
theorem slices_IndexFunc_api_Ticket_api_Ticket.ok {p0 : List D_api_Ticket} {p1 : D_api_Ticket → Option Bool} {r : Int} (h : slices_IndexFunc_api_Ticket_api_Ticket p0 p1 = some r) : ACall prog 239 [⟨.slice T_api_Ticket, p0⟩, ⟨.fn T_api_Ticket .bool, p1⟩] [⟨0, .int .i64, r⟩] := by
  replace h := Leads.of h
  unfold slices_IndexFunc_api_Ticket_api_Ticket at h
  refine acall_of func239 (by kernel_rfl) rfl (by kernel_rfl) fun w0 F0 hw0 => ?_
  refine W_seq ?_
  refine W_region mixed tys_ok (sup := []) (l := [(0, 0), (1, 0)]) (E' := [(0, .v 0 (.slice T_api_Ticket) p0), (1, .v 0 (.fn T_api_Ticket .bool) p1)]) (obs := []) (by kernel_rfl) (trivial) ?_
  refine W_seq ?_
  refine W_seq ?_
  refine W_region mixed tys_ok (sup := []) (l := [(0, 0), (1, 0), (7, 0), (8, 0)]) (E' := [(0, .v 0 (.slice T_api_Ticket) p0), (1, .v 0 (.fn T_api_Ticket .bool) p1), (7, .v 0 (.int .i64) (p0.length : Int)), (8, .v 0 (.int .i64) (0 : Int))]) (obs := []) (by kernel_rfl) (trivial) ?_
  refine W_join h (Ej := fun (x : Unit) => []) (p := fun x => slices_IndexFunc_api_Ticket_api_Ticket_j1) ?_ ?_
  · rintro ⟨⟩ h
    replace h : Leads _ (slices_IndexFunc_api_Ticket_api_Ticket_j1) := h
    unfold slices_IndexFunc_api_Ticket_api_Ticket_j1 at h
    show W _ _ _ _ _ _ []
    refine W_seq ?_
    refine W_region mixed tys_ok (sup := []) (l := [(4, 0)]) (E' := [(4, .v 0 (.int .i64) (-1 : Int))]) (obs := []) (by kernel_rfl) (trivial) ?_
    refine W_keep (l := [(4, 0)]) (E' := [(4, .v 0 (.int .i64) (-1 : Int))]) (by kernel_rfl) ?_
    replace h : ((-1 : Int)) = r := h
    subst h
    exact W_ret tys_ok hw0 (by kernel_rfl) (by kernel_rfl)
  · intro j1
    refine W_block ?_
    refine W_keep (l := [(0, 0), (1, 0), (7, 0), (8, 0)]) (E' := [(0, .v 0 (.slice T_api_Ticket) p0), (1, .v 0 (.fn T_api_Ticket .bool) p1), (7, .v 0 (.int .i64) (p0.length : Int)), (8, .v 0 (.int .i64) (0 : Int))]) (by kernel_rfl) ?_
    refine W_loop' (En := fun (x : Int) => [(0, .v 0 (.slice T_api_Ticket) p0), (1, .v 0 (.fn T_api_Ticket .bool) p1), (7, .v 0 (.int .i64) (p0.length : Int)), (8, .v 0 (.int .i64) x)]) (x := (0 : Int)) h ?_
    rintro x1 K h
    replace h : Leads _ (slices_IndexFunc_api_Ticket_api_Ticket_b1 p0 p1 x1) := h
    unfold slices_IndexFunc_api_Ticket_api_Ticket_b1 at h
    show W _ _ _ _ _ _ [(0, .v 0 (.slice T_api_Ticket) p0), (1, .v 0 (.fn T_api_Ticket .bool) p1), (7, .v 0 (.int .i64) (p0.length : Int)), (8, .v 0 (.int .i64) x1)]
    refine W_seq ?_
    refine W_region mixed tys_ok (sup := []) (l := [(0, 0), (1, 0), (7, 0), (8, 0), (9, 0)]) (E' := [(0, .v 0 (.slice T_api_Ticket) p0), (1, .v 0 (.fn T_api_Ticket .bool) p1), (7, .v 0 (.int .i64) (p0.length : Int)), (8, .v 0 (.int .i64) x1), (9, .v 0 .bool (decide (x1 < (p0.length : Int))))]) (obs := []) (by kernel_rfl) (trivial) ?_
    refine W_seq ?_
    refine W_cond (β := decide (x1 < (p0.length : Int))) (by kernel_rfl) (fun hb => ?_) (fun hb => ?_)
    · rw [cond_tt hb] at h
      refine W_skip ?_
      refine W_seq ?_
      refine W_block ?_
      refine W_seq ?_
      refine W_region mixed tys_ok (sup := []) (l := [(0, 0), (1, 0), (5, 0), (7, 0), (8, 0)]) (E' := [(0, .v 0 (.slice T_api_Ticket) p0), (1, .v 0 (.fn T_api_Ticket .bool) p1), (5, .v 0 (.int .i64) x1), (7, .v 0 (.int .i64) (p0.length : Int)), (8, .v 0 (.int .i64) x1)]) (obs := []) (by kernel_rfl) (trivial) ?_
      refine W_seq ?_
      obtain ⟨o1, h⟩ := h.ass
      obtain ⟨y2, ey2, h⟩ := h.bind
      refine W_region mixed tys_ok (sup := [.res [(0, ⟨9, .bool, y2⟩)]]) (l := [(0, 0), (1, 0), (5, 0), (7, 0), (8, 0), (16, 0)]) (E' := [(0, .v 0 (.slice T_api_Ticket) p0), (1, .v 0 (.fn T_api_Ticket .bool) p1), (5, .v 0 (.int .i64) x1), (7, .v 0 (.int .i64) (p0.length : Int)), (8, .v 0 (.int .i64) x1), (16, .v 0 .bool y2)]) (obs := [0 ≤ x1 ∧ x1 < (p0.length : Int), p1 (rd z_api_Ticket p0 x1) = some y2]) (by kernel_rfl) (⟨o1, ey2⟩) ?_
      refine W_cond (β := y2) (by kernel_rfl) (fun hb => ?_) (fun hb => ?_)
      · rw [cond_tt hb] at h
        refine W_seq ?_
        refine W_region mixed tys_ok (sup := []) (l := [(4, 0)]) (E' := [(4, .v 0 (.int .i64) x1)]) (obs := []) (by kernel_rfl) (trivial) ?_
        refine W_keep (l := [(4, 0)]) (E' := [(4, .v 0 (.int .i64) x1)]) (by kernel_rfl) ?_
        replace h : x1 = r := h
        subst h
        exact W_ret tys_ok hw0 (by kernel_rfl) (by kernel_rfl)
      · rw [cond_ff hb] at h
        refine W_skip ?_
        refine W_blk ?_
        refine W_region mixed tys_ok (sup := []) (l := [(0, 0), (1, 0), (7, 0), (8, 0)]) (E' := [(0, .v 0 (.slice T_api_Ticket) p0), (1, .v 0 (.fn T_api_Ticket .bool) p1), (7, .v 0 (.int .i64) (p0.length : Int)), (8, .v 0 (.int .i64) (IntKind.i64.wrap (x1 + (1 : Int))))]) (obs := []) (by kernel_rfl) (trivial) ?_
        refine W_gen (x := IntKind.i64.wrap (x1 + (1 : Int))) (En := fun x3 => [(0, .v 0 (.slice T_api_Ticket) p0), (1, .v 0 (.fn T_api_Ticket .bool) p1), (7, .v 0 (.int .i64) (p0.length : Int)), (8, .v 0 (.int .i64) x3)]) h (fun x3 h => ?_)
        refine W_keep (l := [(0, 0), (1, 0), (7, 0), (8, 0)]) (E' := [(0, .v 0 (.slice T_api_Ticket) p0), (1, .v 0 (.fn T_api_Ticket .bool) p1), (7, .v 0 (.int .i64) (p0.length : Int)), (8, .v 0 (.int .i64) x3)]) (by kernel_rfl) ?_
        exact W_abs h
    · rw [cond_ff hb] at h
      refine W_exit rfl ?_
      refine W_keep (l := []) (E' := []) (by kernel_rfl) ?_
      exact j1 () h.back

noncomputable def slices_ContainsFunc_api_Ticket_api_Ticket (p0 : List D_api_Ticket) (p1 : D_api_Ticket → Option Bool) : Option Bool :=
  (slices_IndexFunc_api_Ticket_api_Ticket p0 p1).bind fun y1 =>
  bnd (decide (y1 ≥ (0 : Int))) fun x2 =>
  some x2
theorem slices_ContainsFunc_api_Ticket_api_Ticket.ok {p0 : List D_api_Ticket} {p1 : D_api_Ticket → Option Bool} {r : Bool} (h : slices_ContainsFunc_api_Ticket_api_Ticket p0 p1 = some r) : ACall prog 208 [⟨.slice T_api_Ticket, p0⟩, ⟨.fn T_api_Ticket .bool, p1⟩] [⟨0, .bool, r⟩] := by
  replace h := Leads.of h
  unfold slices_ContainsFunc_api_Ticket_api_Ticket at h
  refine acall_of func208 (by kernel_rfl) rfl (by kernel_rfl) fun w0 F0 hw0 => ?_
  refine W_seq ?_
  refine W_region mixed tys_ok (sup := []) (l := [(0, 0), (1, 0)]) (E' := [(0, .v 0 (.slice T_api_Ticket) p0), (1, .v 0 (.fn T_api_Ticket .bool) p1)]) (obs := []) (by kernel_rfl) (trivial) ?_
  refine W_seq ?_
  obtain ⟨y1, ey1, h⟩ := h.bind
  refine W_region mixed tys_ok (sup := [.res [(0, ⟨0, .int .i64, y1⟩)]]) (l := [(4, 0)]) (E' := [(4, .v 0 .bool (decide (y1 ≥ (0 : Int))))]) (obs := [ACall prog 239 [⟨.slice T_api_Ticket, p0⟩, ⟨.fn T_api_Ticket .bool, p1⟩] [⟨0, .int .i64, y1⟩]]) (by kernel_rfl) (slices_IndexFunc_api_Ticket_api_Ticket.ok ey1) ?_
  refine W_gen (x := decide (y1 ≥ (0 : Int))) (En := fun x2 => [(4, .v 0 .bool x2)]) h (fun x2 h => ?_)
  refine W_keep (l := [(4, 0)]) (E' := [(4, .v 0 .bool x2)]) (by kernel_rfl) ?_
  replace h : x2 = r := h
  subst h
  exact W_ret tys_ok hw0 (by kernel_rfl) (by kernel_rfl)

noncomputable def state_get_bool (p0 : List Bool) (p1 : Int) (p2 : Bool → Option Bool) : Option (Bool × Bool) :=
  ass ((!((decide (p1 < (0 : Int))) || (decide (p1 ≥ (p0.length : Int))))) = true → 0 ≤ p1 ∧ p1 < (p0.length : Int)) <|
  (bif !((decide (p1 < (0 : Int))) || (decide (p1 ≥ (p0.length : Int)))) then p2 (rd false p0 p1) else some false).bind fun y1 =>
  bif ((decide (p1 < (0 : Int))) || (decide (p1 ≥ (p0.length : Int)))) || (!y1) then
    some (false, false)
  else
    ass (0 ≤ p1 ∧ p1 < (p0.length : Int)) <|
    bnd (rd false p0 p1) fun x2 =>
    some (x2, true)
theorem state_get_bool.ok {p0 : List Bool} {p1 : Int} {p2 : Bool → Option Bool} {r : Bool × Bool} (h : state_get_bool p0 p1 p2 = some r) : ACall prog 150 [⟨.slice .bool, p0⟩, ⟨.int .i64, p1⟩, ⟨.fn .bool .bool, p2⟩] [⟨0, .bool, r.1⟩, ⟨0, .bool, r.2⟩] := by
  replace h := Leads.of h
  unfold state_get_bool at h
  refine acall_of func150 (by kernel_rfl) rfl (by kernel_rfl) fun w0 F0 hw0 => ?_
  refine W_seq ?_
  refine W_region mixed tys_ok (sup := []) (l := [(0, 0), (1, 0), (2, 0), (6, 0)]) (E' := [(0, .v 0 (.slice .bool) p0), (1, .v 0 (.int .i64) p1), (2, .v 0 (.fn .bool .bool) p2), (6, .v 0 .bool false)]) (obs := []) (by kernel_rfl) (trivial) ?_
  refine W_seq ?_
  refine W_seq ?_
  obtain ⟨o1, h⟩ := h.ass
  obtain ⟨y1, ey1, h⟩ := h.bind
  refine W_region mixed tys_ok (sup := [.res [(0, ⟨9, .bool, y1⟩)]]) (l := [(0, 0), (1, 0), (6, 0), (24, 0)]) (E' := [(0, .v 0 (.slice .bool) p0), (1, .v 0 (.int .i64) p1), (6, .v 0 .bool false), (24, .v 0 .bool (((decide (p1 < (0 : Int))) || (decide (p1 ≥ (p0.length : Int)))) || (!y1)))]) (obs := [(!((decide (p1 < (0 : Int))) || (decide (p1 ≥ (p0.length : Int))))) = true → 0 ≤ p1 ∧ p1 < (p0.length : Int), (!((decide (p1 < (0 : Int))) || (decide (p1 ≥ (p0.length : Int))))) = true → p2 (rd false p0 p1) = some y1]) (by kernel_rfl) (⟨o1, fun hc => bif_some ey1 hc⟩) ?_
  refine W_cond (β := ((decide (p1 < (0 : Int))) || (decide (p1 ≥ (p0.length : Int)))) || (!y1)) (by kernel_rfl) (fun hb => ?_) (fun hb => ?_)
  · rw [cond_tt hb] at h
    refine W_seq ?_
    refine W_region mixed tys_ok (sup := []) (l := [(6, 0), (7, 0)]) (E' := [(6, .v 0 .bool false), (7, .v 0 .bool false)]) (obs := []) (by kernel_rfl) (trivial) ?_
    refine W_keep (l := [(6, 0), (7, 0)]) (E' := [(6, .v 0 .bool false), (7, .v 0 .bool false)]) (by kernel_rfl) ?_
    replace h : ((false, false)) = r := h
    subst h
    exact W_ret tys_ok hw0 (by kernel_rfl) (by kernel_rfl)
  · rw [cond_ff hb] at h
    refine W_skip ?_
    refine W_seq ?_
    obtain ⟨o1, h⟩ := h.ass
    refine W_region mixed tys_ok (sup := []) (l := [(6, 0), (7, 0)]) (E' := [(6, .v 0 .bool (rd false p0 p1)), (7, .v 0 .bool true)]) (obs := [0 ≤ p1 ∧ p1 < (p0.length : Int)]) (by kernel_rfl) (o1) ?_
    refine W_gen (x := rd false p0 p1) (En := fun x2 => [(6, .v 0 .bool x2), (7, .v 0 .bool true)]) h (fun x2 h => ?_)
    refine W_keep (l := [(6, 0), (7, 0)]) (E' := [(6, .v 0 .bool x2), (7, .v 0 .bool true)]) (by kernel_rfl) ?_
    replace h : ((x2, true)) = r := h
    subst h
    exact W_ret tys_ok hw0 (by kernel_rfl) (by kernel_rfl)

noncomputable def state_Coin (p0 : D_api_State) (p1 : Int) : Option Bool :=
  (state_get_bool p0.1 p1 (fun x => state_coinUsed x)).bind fun y1 =>
  some y1.2
theorem state_Coin.ok {p0 : D_api_State} {p1 : Int} {r : Bool} (h : state_Coin p0 p1 = some r) : ACall prog 63 [⟨T_api_State, p0⟩, ⟨.int .i64, p1⟩] [⟨0, .bool, r⟩] := by
  replace h := Leads.of h
  unfold state_Coin at h
  refine acall_of func63 (by kernel_rfl) rfl (by kernel_rfl) fun w0 F0 hw0 => ?_
  refine W_seq ?_
  refine W_region mixed tys_ok (sup := []) (l := [(1, 0), (2, 0)]) (E' := [(1, .v 0 (.int .i64) p1), (2, .box 0 T_api_State p0)]) (obs := []) (by kernel_rfl) (trivial) ?_
  refine W_seq ?_
  obtain ⟨y1, ey1, h⟩ := h.bind
  refine W_region mixed tys_ok (sup := [.fn .bool .bool (fun x => state_coinUsed x), .res [(0, ⟨0, .bool, y1.1⟩), (0, ⟨0, .bool, y1.2⟩)]]) (l := [(6, 0)]) (E' := [(6, .v 0 .bool y1.2)]) (obs := [∀ x y, (fun x => state_coinUsed x) x = some y → ACall prog 135 (unprod .bool x ++ []) [⟨9, .bool, y⟩], ACall prog 150 [⟨.slice .bool, p0.1⟩, ⟨.int .i64, p1⟩, ⟨.fn .bool .bool, fun x => state_coinUsed x⟩] [⟨0, .bool, y1.1⟩, ⟨0, .bool, y1.2⟩]]) (by kernel_rfl) (⟨fun x y e => ACall.flat rfl (state_coinUsed.ok e), state_get_bool.ok ey1⟩) ?_
  refine W_seq ?_
  refine W_region mixed tys_ok (sup := []) (l := [(4, 0)]) (E' := [(4, .v 0 .bool y1.2)]) (obs := []) (by kernel_rfl) (trivial) ?_
  refine W_keep (l := [(4, 0)]) (E' := [(4, .v 0 .bool y1.2)]) (by kernel_rfl) ?_
  replace h : y1.2 = r := h
  subst h
  exact W_ret tys_ok hw0 (by kernel_rfl) (by kernel_rfl)

noncomputable def state_get_api_Thread (p0 : List D_api_Thread) (p1 : Int) (p2 : D_api_Thread → Option Bool) : Option (D_api_Thread × Bool) :=
  bnd (((0 : Int), (0 : Int), (0 : Int), (0 : Int), (0 : Int))) fun x1 =>
  ass ((!((decide (p1 < (0 : Int))) || (decide (p1 ≥ (p0.length : Int))))) = true → 0 ≤ p1 ∧ p1 < (p0.length : Int)) <|
  (bif !((decide (p1 < (0 : Int))) || (decide (p1 ≥ (p0.length : Int)))) then p2 (rd z_api_Thread p0 p1) else some false).bind fun y2 =>
  bif ((decide (p1 < (0 : Int))) || (decide (p1 ≥ (p0.length : Int)))) || (!y2) then
    some (x1, false)
  else
    ass (0 ≤ p1 ∧ p1 < (p0.length : Int)) <|
    bnd (rd z_api_Thread p0 p1) fun x3 =>
    some (x3, true)
theorem state_get_api_Thread.ok {p0 : List D_api_Thread} {p1 : Int} {p2 : D_api_Thread → Option Bool} {r : D_api_Thread × Bool} (h : state_get_api_Thread p0 p1 p2 = some r) : ACall prog 148 [⟨.slice T_api_Thread, p0⟩, ⟨.int .i64, p1⟩, ⟨.fn T_api_Thread .bool, p2⟩] [⟨0, T_api_Thread, r.1⟩, ⟨0, .bool, r.2⟩] := by
  replace h := Leads.of h
  unfold state_get_api_Thread at h
  refine acall_of func148 (by kernel_rfl) rfl (by kernel_rfl) fun w0 F0 hw0 => ?_
  refine W_seq ?_
  refine W_region mixed tys_ok (sup := []) (l := [(0, 0), (1, 0), (2, 0), (6, 9)]) (E' := [(0, .v 0 (.slice T_api_Thread) p0), (1, .v 0 (.int .i64) p1), (2, .v 0 (.fn T_api_Thread .bool) p2), (6, .box 9 T_api_Thread ((0 : Int), (0 : Int), (0 : Int), (0 : Int), (0 : Int)))]) (obs := []) (by kernel_rfl) (trivial) ?_
  refine W_gen (x := ((0 : Int), (0 : Int), (0 : Int), (0 : Int), (0 : Int))) (En := fun x1 => [(0, .v 0 (.slice T_api_Thread) p0), (1, .v 0 (.int .i64) p1), (2, .v 0 (.fn T_api_Thread .bool) p2), (6, .box 9 T_api_Thread x1)]) h (fun x1 h => ?_)
  refine W_seq ?_
  refine W_seq ?_
  obtain ⟨o1, h⟩ := h.ass
  obtain ⟨y2, ey2, h⟩ := h.bind
  refine W_region mixed tys_ok (sup := [.res [(0, ⟨9, .bool, y2⟩)]]) (l := [(0, 0), (1, 0), (6, 9), (24, 0)]) (E' := [(0, .v 0 (.slice T_api_Thread) p0), (1, .v 0 (.int .i64) p1), (6, .box 9 T_api_Thread x1), (24, .v 0 .bool (((decide (p1 < (0 : Int))) || (decide (p1 ≥ (p0.length : Int)))) || (!y2)))]) (obs := [(!((decide (p1 < (0 : Int))) || (decide (p1 ≥ (p0.length : Int))))) = true → 0 ≤ p1 ∧ p1 < (p0.length : Int), (!((decide (p1 < (0 : Int))) || (decide (p1 ≥ (p0.length : Int))))) = true → p2 (rd z_api_Thread p0 p1) = some y2]) (by kernel_rfl) (⟨o1, fun hc => bif_some ey2 hc⟩) ?_
  refine W_cond (β := ((decide (p1 < (0 : Int))) || (decide (p1 ≥ (p0.length : Int)))) || (!y2)) (by kernel_rfl) (fun hb => ?_) (fun hb => ?_)
  · rw [cond_tt hb] at h
    refine W_seq ?_
    refine W_region mixed tys_ok (sup := []) (l := [(6, 9), (7, 0)]) (E' := [(6, .box 9 T_api_Thread x1), (7, .v 0 .bool false)]) (obs := []) (by kernel_rfl) (trivial) ?_
    refine W_keep (l := [(6, 0), (7, 0)]) (E' := [(6, .box 0 T_api_Thread x1), (7, .v 0 .bool false)]) (by kernel_rfl) ?_
    replace h : ((x1, false)) = r := h
    subst h
    exact W_ret tys_ok hw0 (by kernel_rfl) (by kernel_rfl)
  · rw [cond_ff hb] at h
    refine W_skip ?_
    refine W_seq ?_
    obtain ⟨o1, h⟩ := h.ass
    refine W_region mixed tys_ok (sup := []) (l := [(6, 9), (7, 0)]) (E' := [(6, .box 9 T_api_Thread (rd z_api_Thread p0 p1)), (7, .v 0 .bool true)]) (obs := [0 ≤ p1 ∧ p1 < (p0.length : Int)]) (by kernel_rfl) (o1) ?_
    refine W_gen (x := rd z_api_Thread p0 p1) (En := fun x3 => [(6, .box 9 T_api_Thread x3), (7, .v 0 .bool true)]) h (fun x3 h => ?_)
    refine W_keep (l := [(6, 0), (7, 0)]) (E' := [(6, .box 0 T_api_Thread x3), (7, .v 0 .bool true)]) (by kernel_rfl) ?_
    replace h : ((x3, true)) = r := h
    subst h
    exact W_ret tys_ok hw0 (by kernel_rfl) (by kernel_rfl)

noncomputable def state_Thread (p0 : D_api_State) (p1 : Int) : Option (D_api_Thread × Bool) :=
  bnd (((0 : Int), (0 : Int), (0 : Int), (0 : Int), (0 : Int))) fun x1 =>
  (state_get_api_Thread p0.2.2.1 p1 (fun x => state_threadUsed x)).bind fun y2 =>
  some (y2.1, y2.2)
theorem state_Thread.ok {p0 : D_api_State} {p1 : Int} {r : D_api_Thread × Bool} (h : state_Thread p0 p1 = some r) : ACall prog 61 [⟨T_api_State, p0⟩, ⟨.int .i64, p1⟩] [⟨0, T_api_Thread, r.1⟩, ⟨0, .bool, r.2⟩] := by
  replace h := Leads.of h
  unfold state_Thread at h
  refine acall_of func61 (by kernel_rfl) rfl (by kernel_rfl) fun w0 F0 hw0 => ?_
  refine W_seq ?_
  refine W_region mixed tys_ok (sup := []) (l := [(1, 0), (2, 0), (4, 9)]) (E' := [(1, .v 0 (.int .i64) p1), (2, .box 0 T_api_State p0), (4, .box 9 T_api_Thread ((0 : Int), (0 : Int), (0 : Int), (0 : Int), (0 : Int)))]) (obs := []) (by kernel_rfl) (trivial) ?_
  refine W_gen (x := ((0 : Int), (0 : Int), (0 : Int), (0 : Int), (0 : Int))) (En := fun x1 => [(1, .v 0 (.int .i64) p1), (2, .box 0 T_api_State p0), (4, .box 9 T_api_Thread x1)]) h (fun x1 h => ?_)
  refine W_seq ?_
  obtain ⟨y2, ey2, h⟩ := h.bind
  refine W_region mixed tys_ok (sup := [.fn T_api_Thread .bool (fun x => state_threadUsed x), .res [(0, ⟨0, T_api_Thread, y2.1⟩), (0, ⟨0, .bool, y2.2⟩)]]) (l := [(4, 9), (5, 0)]) (E' := [(4, .box 9 T_api_Thread y2.1), (5, .v 0 .bool y2.2)]) (obs := [∀ x y, (fun x => state_threadUsed x) x = some y → ACall prog 139 (unprod T_api_Thread x ++ []) [⟨9, .bool, y⟩], ACall prog 148 [⟨.slice T_api_Thread, p0.2.2.1⟩, ⟨.int .i64, p1⟩, ⟨.fn T_api_Thread .bool, fun x => state_threadUsed x⟩] [⟨0, T_api_Thread, y2.1⟩, ⟨0, .bool, y2.2⟩]]) (by kernel_rfl) (⟨fun x y e => ACall.flat rfl (state_threadUsed.ok e), state_get_api_Thread.ok ey2⟩) ?_
  refine W_keep (l := [(4, 0), (5, 0)]) (E' := [(4, .box 0 T_api_Thread y2.1), (5, .v 0 .bool y2.2)]) (by kernel_rfl) ?_
  replace h : ((y2.1, y2.2)) = r := h
  subst h
  exact W_ret tys_ok hw0 (by kernel_rfl) (by kernel_rfl)

noncomputable def state_ticket (p0 : D_api_State) (p1 : D_api_Ticket) : Option Bool :=
  bif !p1.1 then
    bnd (Ty.beq T_api_Ticket p1 (false, (0 : Int), (0 : Int), (0 : Int), (0 : Int), false)) fun x1 =>
    some x1
  else
    (state_Coin p0 p1.2.1).bind fun y2 =>
    bif ((!y2) || (decide (p1.2.2.1 < (1 : Int)))) || (decide (p1.2.2.1 > (1048576 : Int))) then
      some false
    else
      bif p1.2.2.2.1 == (0 : Int) then
        bnd (p1.2.2.2.2.1 == (0 : Int)) fun x3 =>
        some x3
      else
        bif p1.2.2.2.1 == (1 : Int) then
          (state_Thread p0 p1.2.2.2.2.1).bind fun y4 =>
          some y4.2
        else
          bif p1.2.2.2.1 == (2 : Int) then
            (bif p1.2.2.2.2.1 != (0 : Int) then state_Coin p0 p1.2.2.2.2.1 else some false).bind fun y5 =>
            bnd ((p1.2.2.2.2.1 != (0 : Int)) && y5) fun x6 =>
            some x6
          else
            some false
theorem state_ticket.ok {p0 : D_api_State} {p1 : D_api_Ticket} {r : Bool} (h : state_ticket p0 p1 = some r) : ACall prog 210 [⟨T_api_State, p0⟩, ⟨T_api_Ticket, p1⟩] [⟨0, .bool, r⟩] := by
  replace h := Leads.of h
  unfold state_ticket at h
  refine acall_of func210 (by kernel_rfl) rfl (by kernel_rfl) fun w0 F0 hw0 => ?_
  refine W_seq ?_
  refine W_region mixed tys_ok (sup := []) (l := [(2, 0), (3, 9)]) (E' := [(2, .box 0 T_api_State p0), (3, .box 9 T_api_Ticket p1)]) (obs := []) (by kernel_rfl) (trivial) ?_
  refine W_seq ?_
  refine W_seq ?_
  refine W_region mixed tys_ok (sup := []) (l := [(2, 0), (3, 9), (9, 0)]) (E' := [(2, .box 0 T_api_State p0), (3, .box 9 T_api_Ticket p1), (9, .v 0 .bool (!p1.1))]) (obs := []) (by kernel_rfl) (trivial) ?_
  refine W_cond (β := !p1.1) (by kernel_rfl) (fun hb => ?_) (fun hb => ?_)
  · rw [cond_tt hb] at h
    refine W_seq ?_
    refine W_region mixed tys_ok (sup := []) (l := [(4, 0)]) (E' := [(4, .v 0 .bool (Ty.beq T_api_Ticket p1 (false, (0 : Int), (0 : Int), (0 : Int), (0 : Int), false)))]) (obs := []) (by kernel_rfl) (trivial) ?_
    refine W_gen (x := Ty.beq T_api_Ticket p1 (false, (0 : Int), (0 : Int), (0 : Int), (0 : Int), false)) (En := fun x1 => [(4, .v 0 .bool x1)]) h (fun x1 h => ?_)
    refine W_keep (l := [(4, 0)]) (E' := [(4, .v 0 .bool x1)]) (by kernel_rfl) ?_
    replace h : x1 = r := h
    subst h
    exact W_ret tys_ok hw0 (by kernel_rfl) (by kernel_rfl)
  · rw [cond_ff hb] at h
    refine W_skip ?_
    refine W_seq ?_
    refine W_seq ?_
    obtain ⟨y2, ey2, h⟩ := h.bind
    refine W_region mixed tys_ok (sup := [.res [(0, ⟨0, .bool, y2⟩)]]) (l := [(2, 0), (3, 9), (27, 0)]) (E' := [(2, .box 0 T_api_State p0), (3, .box 9 T_api_Ticket p1), (27, .v 0 .bool (((!y2) || (decide (p1.2.2.1 < (1 : Int)))) || (decide (p1.2.2.1 > (1048576 : Int)))))]) (obs := [ACall prog 63 [⟨T_api_State, p0⟩, ⟨.int .i64, p1.2.1⟩] [⟨0, .bool, y2⟩]]) (by kernel_rfl) (state_Coin.ok ey2) ?_
    refine W_cond (β := ((!y2) || (decide (p1.2.2.1 < (1 : Int)))) || (decide (p1.2.2.1 > (1048576 : Int)))) (by kernel_rfl) (fun hb => ?_) (fun hb => ?_)
    · rw [cond_tt hb] at h
      refine W_seq ?_
      refine W_region mixed tys_ok (sup := []) (l := [(4, 0)]) (E' := [(4, .v 0 .bool false)]) (obs := []) (by kernel_rfl) (trivial) ?_
      refine W_keep (l := [(4, 0)]) (E' := [(4, .v 0 .bool false)]) (by kernel_rfl) ?_
      replace h : false = r := h
      subst h
      exact W_ret tys_ok hw0 (by kernel_rfl) (by kernel_rfl)
    · rw [cond_ff hb] at h
      refine W_skip ?_
      refine W_seq ?_
      refine W_seq ?_
      refine W_region mixed tys_ok (sup := []) (l := [(2, 0), (3, 9), (29, 0)]) (E' := [(2, .box 0 T_api_State p0), (3, .box 9 T_api_Ticket p1), (29, .v 0 (.int .i64) p1.2.2.2.1)]) (obs := []) (by kernel_rfl) (trivial) ?_
      refine W_block ?_
      refine W_seq ?_
      refine W_region mixed tys_ok (sup := []) (l := [(2, 0), (3, 9), (29, 0), (30, 0)]) (E' := [(2, .box 0 T_api_State p0), (3, .box 9 T_api_Ticket p1), (29, .v 0 (.int .i64) p1.2.2.2.1), (30, .v 0 .bool (p1.2.2.2.1 == (0 : Int)))]) (obs := []) (by kernel_rfl) (trivial) ?_
      refine W_cond (β := p1.2.2.2.1 == (0 : Int)) (by kernel_rfl) (fun hb => ?_) (fun hb => ?_)
      · rw [cond_tt hb] at h
        refine W_seq ?_
        refine W_region mixed tys_ok (sup := []) (l := [(4, 0)]) (E' := [(4, .v 0 .bool (p1.2.2.2.2.1 == (0 : Int)))]) (obs := []) (by kernel_rfl) (trivial) ?_
        refine W_gen (x := p1.2.2.2.2.1 == (0 : Int)) (En := fun x3 => [(4, .v 0 .bool x3)]) h (fun x3 h => ?_)
        refine W_keep (l := [(4, 0)]) (E' := [(4, .v 0 .bool x3)]) (by kernel_rfl) ?_
        replace h : x3 = r := h
        subst h
        exact W_ret tys_ok hw0 (by kernel_rfl) (by kernel_rfl)
      · rw [cond_ff hb] at h
        refine W_seq ?_
        refine W_region mixed tys_ok (sup := []) (l := [(2, 0), (3, 9), (29, 0), (35, 0)]) (E' := [(2, .box 0 T_api_State p0), (3, .box 9 T_api_Ticket p1), (29, .v 0 (.int .i64) p1.2.2.2.1), (35, .v 0 .bool (p1.2.2.2.1 == (1 : Int)))]) (obs := []) (by kernel_rfl) (trivial) ?_
        refine W_cond (β := p1.2.2.2.1 == (1 : Int)) (by kernel_rfl) (fun hb => ?_) (fun hb => ?_)
        · rw [cond_tt hb] at h
          refine W_seq ?_
          obtain ⟨y4, ey4, h⟩ := h.bind
          refine W_region mixed tys_ok (sup := [.res [(0, ⟨0, T_api_Thread, y4.1⟩), (0, ⟨0, .bool, y4.2⟩)]]) (l := [(6, 0)]) (E' := [(6, .v 0 .bool y4.2)]) (obs := [ACall prog 61 [⟨T_api_State, p0⟩, ⟨.int .i64, p1.2.2.2.2.1⟩] [⟨0, T_api_Thread, y4.1⟩, ⟨0, .bool, y4.2⟩]]) (by kernel_rfl) (state_Thread.ok ey4) ?_
          refine W_seq ?_
          refine W_region mixed tys_ok (sup := []) (l := [(4, 0)]) (E' := [(4, .v 0 .bool y4.2)]) (obs := []) (by kernel_rfl) (trivial) ?_
          refine W_keep (l := [(4, 0)]) (E' := [(4, .v 0 .bool y4.2)]) (by kernel_rfl) ?_
          replace h : y4.2 = r := h
          subst h
          exact W_ret tys_ok hw0 (by kernel_rfl) (by kernel_rfl)
        · rw [cond_ff hb] at h
          refine W_seq ?_
          refine W_region mixed tys_ok (sup := []) (l := [(2, 0), (3, 9), (45, 0)]) (E' := [(2, .box 0 T_api_State p0), (3, .box 9 T_api_Ticket p1), (45, .v 0 .bool (p1.2.2.2.1 == (2 : Int)))]) (obs := []) (by kernel_rfl) (trivial) ?_
          refine W_cond (β := p1.2.2.2.1 == (2 : Int)) (by kernel_rfl) (fun hb => ?_) (fun hb => ?_)
          · rw [cond_tt hb] at h
            refine W_seq ?_
            obtain ⟨y5, ey5, h⟩ := h.bind
            refine W_region mixed tys_ok (sup := [.res [(0, ⟨0, .bool, y5⟩)]]) (l := [(4, 0)]) (E' := [(4, .v 0 .bool ((p1.2.2.2.2.1 != (0 : Int)) && y5))]) (obs := [(p1.2.2.2.2.1 != (0 : Int)) = true → ACall prog 63 [⟨T_api_State, p0⟩, ⟨.int .i64, p1.2.2.2.2.1⟩] [⟨0, .bool, y5⟩]]) (by kernel_rfl) (fun hc => state_Coin.ok (bif_some ey5 hc)) ?_
            refine W_gen (x := (p1.2.2.2.2.1 != (0 : Int)) && y5) (En := fun x6 => [(4, .v 0 .bool x6)]) h (fun x6 h => ?_)
            refine W_keep (l := [(4, 0)]) (E' := [(4, .v 0 .bool x6)]) (by kernel_rfl) ?_
            replace h : x6 = r := h
            subst h
            exact W_ret tys_ok hw0 (by kernel_rfl) (by kernel_rfl)
          · rw [cond_ff hb] at h
            refine W_skip ?_
            refine W_blk ?_
            refine W_seq ?_
            refine W_region mixed tys_ok (sup := []) (l := [(4, 0)]) (E' := [(4, .v 0 .bool false)]) (obs := []) (by kernel_rfl) (trivial) ?_
            refine W_keep (l := [(4, 0)]) (E' := [(4, .v 0 .bool false)]) (by kernel_rfl) ?_
            replace h : false = r := h
            subst h
            exact W_ret tys_ok hw0 (by kernel_rfl) (by kernel_rfl)

noncomputable def state_tickets_c1 (p0 : D_api_Ticket) (c0 : D_api_State) : Option Bool :=
  (state_ticket c0 p0).bind fun y1 =>
  bnd (!y1) fun x2 =>
  some x2
theorem state_tickets_c1.ok {p0 : D_api_Ticket} {c0 : D_api_State} {r : Bool} (h : state_tickets_c1 p0 c0 = some r) : ACall prog 209 [⟨T_api_Ticket, p0⟩, ⟨.cptr T_api_State, c0⟩] [⟨0, .bool, r⟩] := by
  replace h := Leads.of h
  unfold state_tickets_c1 at h
  refine acall_of func209 (by kernel_rfl) rfl (by kernel_rfl) fun w0 F0 hw0 => ?_
  refine W_seq ?_
  refine W_region mixed tys_ok (sup := []) (l := [(1, 0), (2, 9)]) (E' := [(1, .v 0 (.cptr T_api_State) c0), (2, .box 9 T_api_Ticket p0)]) (obs := []) (by kernel_rfl) (trivial) ?_
  refine W_seq ?_
  obtain ⟨y1, ey1, h⟩ := h.bind
  refine W_region mixed tys_ok (sup := [.res [(0, ⟨0, .bool, y1⟩)]]) (l := [(3, 0)]) (E' := [(3, .v 0 .bool (!y1))]) (obs := [ACall prog 210 [⟨T_api_State, c0⟩, ⟨T_api_Ticket, p0⟩] [⟨0, .bool, y1⟩]]) (by kernel_rfl) (state_ticket.ok ey1) ?_
  refine W_gen (x := !y1) (En := fun x2 => [(3, .v 0 .bool x2)]) h (fun x2 h => ?_)
  refine W_keep (l := [(3, 0)]) (E' := [(3, .v 0 .bool x2)]) (by kernel_rfl) ?_
  replace h : x2 = r := h
  subst h
  exact W_ret tys_ok hw0 (by kernel_rfl) (by kernel_rfl)

noncomputable def state_tickets (p0 : D_api_State) : Option Bool :=
  (state_ends_api_Ticket p0.2.1 (96 : Int) (fun x => state_ticketUsed x)).bind fun y1 =>
  (bif y1 then slices_ContainsFunc_api_Ticket_api_Ticket p0.2.1 (fun x => state_tickets_c1 x p0) else some false).bind fun y2 =>
  bnd (y1 && (!y2)) fun x3 =>
  some x3
theorem state_tickets.ok {p0 : D_api_State} {r : Bool} (h : state_tickets p0 = some r) : ACall prog 119 [⟨T_api_State, p0⟩] [⟨0, .bool, r⟩] := by
  replace h := Leads.of h
  unfold state_tickets at h
  refine acall_of func119 (by kernel_rfl) rfl (by kernel_rfl) fun w0 F0 hw0 => ?_
  refine W_seq ?_
  refine W_region mixed tys_ok (sup := []) (l := [(1, 0)]) (E' := [(1, .box 0 T_api_State p0)]) (obs := []) (by kernel_rfl) (trivial) ?_
  refine W_seq ?_
  obtain ⟨y1, ey1, h⟩ := h.bind
  obtain ⟨y2, ey2, h⟩ := h.bind
  refine W_region mixed tys_ok (sup := [.fn T_api_Ticket .bool (fun x => state_ticketUsed x), .res [(0, ⟨0, .bool, y1⟩)], .fn T_api_Ticket .bool (fun x => state_tickets_c1 x p0), .res [(0, ⟨0, .bool, y2⟩)]]) (l := [(2, 0)]) (E' := [(2, .v 0 .bool (y1 && (!y2)))]) (obs := [∀ x y, (fun x => state_ticketUsed x) x = some y → ACall prog 137 (unprod T_api_Ticket x ++ []) [⟨9, .bool, y⟩], ACall prog 207 [⟨.slice T_api_Ticket, p0.2.1⟩, ⟨.int .i64, (96 : Int)⟩, ⟨.fn T_api_Ticket .bool, fun x => state_ticketUsed x⟩] [⟨0, .bool, y1⟩], y1 = true → ∀ x y, (fun x => state_tickets_c1 x p0) x = some y → ACall prog 209 (unprod T_api_Ticket x ++ [⟨.cptr T_api_State, p0⟩]) [⟨9, .bool, y⟩], y1 = true → ACall prog 208 [⟨.slice T_api_Ticket, p0.2.1⟩, ⟨.fn T_api_Ticket .bool, fun x => state_tickets_c1 x p0⟩] [⟨0, .bool, y2⟩]]) (by kernel_rfl) (⟨fun x y e => ACall.flat rfl (state_ticketUsed.ok e), state_ends_api_Ticket.ok ey1, fun _ => fun x y e => ACall.flat rfl (state_tickets_c1.ok e), fun hc => slices_ContainsFunc_api_Ticket_api_Ticket.ok (bif_some ey2 hc)⟩) ?_
  refine W_gen (x := y1 && (!y2)) (En := fun x3 => [(2, .v 0 .bool x3)]) h (fun x3 h => ?_)
  refine W_keep (l := [(2, 0)]) (E' := [(2, .v 0 .bool x3)]) (by kernel_rfl) ?_
  replace h : x3 = r := h
  subst h
  exact W_ret tys_ok hw0 (by kernel_rfl) (by kernel_rfl)

noncomputable def state_get_api_Lock (p0 : List D_api_Lock) (p1 : Int) (p2 : D_api_Lock → Option Bool) : Option (D_api_Lock × Bool) :=
  bnd ((false, (0 : Int))) fun x1 =>
  ass ((!((decide (p1 < (0 : Int))) || (decide (p1 ≥ (p0.length : Int))))) = true → 0 ≤ p1 ∧ p1 < (p0.length : Int)) <|
  (bif !((decide (p1 < (0 : Int))) || (decide (p1 ≥ (p0.length : Int)))) then p2 (rd z_api_Lock p0 p1) else some false).bind fun y2 =>
  bif ((decide (p1 < (0 : Int))) || (decide (p1 ≥ (p0.length : Int)))) || (!y2) then
    some (x1, false)
  else
    ass (0 ≤ p1 ∧ p1 < (p0.length : Int)) <|
    bnd (rd z_api_Lock p0 p1) fun x3 =>
    some (x3, true)
theorem state_get_api_Lock.ok {p0 : List D_api_Lock} {p1 : Int} {p2 : D_api_Lock → Option Bool} {r : D_api_Lock × Bool} (h : state_get_api_Lock p0 p1 p2 = some r) : ACall prog 149 [⟨.slice T_api_Lock, p0⟩, ⟨.int .i64, p1⟩, ⟨.fn T_api_Lock .bool, p2⟩] [⟨0, T_api_Lock, r.1⟩, ⟨0, .bool, r.2⟩] := by
  replace h := Leads.of h
  unfold state_get_api_Lock at h
  refine acall_of func149 (by kernel_rfl) rfl (by kernel_rfl) fun w0 F0 hw0 => ?_
  refine W_seq ?_
  refine W_region mixed tys_ok (sup := []) (l := [(0, 0), (1, 0), (2, 0), (6, 9)]) (E' := [(0, .v 0 (.slice T_api_Lock) p0), (1, .v 0 (.int .i64) p1), (2, .v 0 (.fn T_api_Lock .bool) p2), (6, .box 9 T_api_Lock (false, (0 : Int)))]) (obs := []) (by kernel_rfl) (trivial) ?_
  refine W_gen (x := (false, (0 : Int))) (En := fun x1 => [(0, .v 0 (.slice T_api_Lock) p0), (1, .v 0 (.int .i64) p1), (2, .v 0 (.fn T_api_Lock .bool) p2), (6, .box 9 T_api_Lock x1)]) h (fun x1 h => ?_)
  refine W_seq ?_
  refine W_seq ?_
  obtain ⟨o1, h⟩ := h.ass
  obtain ⟨y2, ey2, h⟩ := h.bind
  refine W_region mixed tys_ok (sup := [.res [(0, ⟨9, .bool, y2⟩)]]) (l := [(0, 0), (1, 0), (6, 9), (24, 0)]) (E' := [(0, .v 0 (.slice T_api_Lock) p0), (1, .v 0 (.int .i64) p1), (6, .box 9 T_api_Lock x1), (24, .v 0 .bool (((decide (p1 < (0 : Int))) || (decide (p1 ≥ (p0.length : Int)))) || (!y2)))]) (obs := [(!((decide (p1 < (0 : Int))) || (decide (p1 ≥ (p0.length : Int))))) = true → 0 ≤ p1 ∧ p1 < (p0.length : Int), (!((decide (p1 < (0 : Int))) || (decide (p1 ≥ (p0.length : Int))))) = true → p2 (rd z_api_Lock p0 p1) = some y2]) (by kernel_rfl) (⟨o1, fun hc => bif_some ey2 hc⟩) ?_
  refine W_cond (β := ((decide (p1 < (0 : Int))) || (decide (p1 ≥ (p0.length : Int)))) || (!y2)) (by kernel_rfl) (fun hb => ?_) (fun hb => ?_)
  · rw [cond_tt hb] at h
    refine W_seq ?_
    refine W_region mixed tys_ok (sup := []) (l := [(6, 9), (7, 0)]) (E' := [(6, .box 9 T_api_Lock x1), (7, .v 0 .bool false)]) (obs := []) (by kernel_rfl) (trivial) ?_
    refine W_keep (l := [(6, 0), (7, 0)]) (E' := [(6, .box 0 T_api_Lock x1), (7, .v 0 .bool false)]) (by kernel_rfl) ?_
    replace h : ((x1, false)) = r := h
    subst h
    exact W_ret tys_ok hw0 (by kernel_rfl) (by kernel_rfl)
  · rw [cond_ff hb] at h
    refine W_skip ?_
    refine W_seq ?_
    obtain ⟨o1, h⟩ := h.ass
    refine W_region mixed tys_ok (sup := []) (l := [(6, 9), (7, 0)]) (E' := [(6, .box 9 T_api_Lock (rd z_api_Lock p0 p1)), (7, .v 0 .bool true)]) (obs := [0 ≤ p1 ∧ p1 < (p0.length : Int)]) (by kernel_rfl) (o1) ?_
    refine W_gen (x := rd z_api_Lock p0 p1) (En := fun x3 => [(6, .box 9 T_api_Lock x3), (7, .v 0 .bool true)]) h (fun x3 h => ?_)
    refine W_keep (l := [(6, 0), (7, 0)]) (E' := [(6, .box 0 T_api_Lock x3), (7, .v 0 .bool true)]) (by kernel_rfl) ?_
    replace h : ((x3, true)) = r := h
    subst h
    exact W_ret tys_ok hw0 (by kernel_rfl) (by kernel_rfl)

noncomputable def state_Lock (p0 : D_api_State) (p1 : Int) : Option (D_api_Lock × Bool) :=
  bnd ((false, (0 : Int))) fun x1 =>
  (state_get_api_Lock p0.2.2.2.1 p1 (fun x => state_lockUsed x)).bind fun y2 =>
  some (y2.1, y2.2)
theorem state_Lock.ok {p0 : D_api_State} {p1 : Int} {r : D_api_Lock × Bool} (h : state_Lock p0 p1 = some r) : ACall prog 62 [⟨T_api_State, p0⟩, ⟨.int .i64, p1⟩] [⟨0, T_api_Lock, r.1⟩, ⟨0, .bool, r.2⟩] := by
  replace h := Leads.of h
  unfold state_Lock at h
  refine acall_of func62 (by kernel_rfl) rfl (by kernel_rfl) fun w0 F0 hw0 => ?_
  refine W_seq ?_
  refine W_region mixed tys_ok (sup := []) (l := [(1, 0), (2, 0), (4, 9)]) (E' := [(1, .v 0 (.int .i64) p1), (2, .box 0 T_api_State p0), (4, .box 9 T_api_Lock (false, (0 : Int)))]) (obs := []) (by kernel_rfl) (trivial) ?_
  refine W_gen (x := (false, (0 : Int))) (En := fun x1 => [(1, .v 0 (.int .i64) p1), (2, .box 0 T_api_State p0), (4, .box 9 T_api_Lock x1)]) h (fun x1 h => ?_)
  refine W_seq ?_
  obtain ⟨y2, ey2, h⟩ := h.bind
  refine W_region mixed tys_ok (sup := [.fn T_api_Lock .bool (fun x => state_lockUsed x), .res [(0, ⟨0, T_api_Lock, y2.1⟩), (0, ⟨0, .bool, y2.2⟩)]]) (l := [(4, 9), (5, 0)]) (E' := [(4, .box 9 T_api_Lock y2.1), (5, .v 0 .bool y2.2)]) (obs := [∀ x y, (fun x => state_lockUsed x) x = some y → ACall prog 141 (unprod T_api_Lock x ++ []) [⟨9, .bool, y⟩], ACall prog 149 [⟨.slice T_api_Lock, p0.2.2.2.1⟩, ⟨.int .i64, p1⟩, ⟨.fn T_api_Lock .bool, fun x => state_lockUsed x⟩] [⟨0, T_api_Lock, y2.1⟩, ⟨0, .bool, y2.2⟩]]) (by kernel_rfl) (⟨fun x y e => ACall.flat rfl (state_lockUsed.ok e), state_get_api_Lock.ok ey2⟩) ?_
  refine W_keep (l := [(4, 0), (5, 0)]) (E' := [(4, .box 0 T_api_Lock y2.1), (5, .v 0 .bool y2.2)]) (by kernel_rfl) ?_
  replace h : ((y2.1, y2.2)) = r := h
  subst h
  exact W_ret tys_ok hw0 (by kernel_rfl) (by kernel_rfl)

noncomputable def state_client (p0 : D_api_State) (p1 : Int) (p2 : D_api_Thread) : Option Bool :=
  bif p2.2.2.1 == (-1 : Int) then
    some true
  else
    (state_Thread p0 p2.2.2.1).bind fun y1 =>
    bnd (((y1.2 && (y1.1.1 == (4 : Int))) && (y1.1.2.1 == p1)) && (p2.1 != (5 : Int))) fun x2 =>
    some x2
theorem state_client.ok {p0 : D_api_State} {p1 : Int} {p2 : D_api_Thread} {r : Bool} (h : state_client p0 p1 p2 = some r) : ACall prog 240 [⟨T_api_State, p0⟩, ⟨.int .i64, p1⟩, ⟨T_api_Thread, p2⟩] [⟨0, .bool, r⟩] := by
  replace h := Leads.of h
  unfold state_client at h
  refine acall_of func240 (by kernel_rfl) rfl (by kernel_rfl) fun w0 F0 hw0 => ?_
  refine W_seq ?_
  refine W_region mixed tys_ok (sup := []) (l := [(1, 0), (3, 0), (5, 9)]) (E' := [(1, .v 0 (.int .i64) p1), (3, .box 0 T_api_State p0), (5, .box 9 T_api_Thread p2)]) (obs := []) (by kernel_rfl) (trivial) ?_
  refine W_seq ?_
  refine W_seq ?_
  refine W_region mixed tys_ok (sup := []) (l := [(1, 0), (3, 0), (5, 9), (11, 0)]) (E' := [(1, .v 0 (.int .i64) p1), (3, .box 0 T_api_State p0), (5, .box 9 T_api_Thread p2), (11, .v 0 .bool (p2.2.2.1 == (-1 : Int)))]) (obs := []) (by kernel_rfl) (trivial) ?_
  refine W_cond (β := p2.2.2.1 == (-1 : Int)) (by kernel_rfl) (fun hb => ?_) (fun hb => ?_)
  · rw [cond_tt hb] at h
    refine W_seq ?_
    refine W_region mixed tys_ok (sup := []) (l := [(6, 0)]) (E' := [(6, .v 0 .bool true)]) (obs := []) (by kernel_rfl) (trivial) ?_
    refine W_keep (l := [(6, 0)]) (E' := [(6, .v 0 .bool true)]) (by kernel_rfl) ?_
    replace h : true = r := h
    subst h
    exact W_ret tys_ok hw0 (by kernel_rfl) (by kernel_rfl)
  · rw [cond_ff hb] at h
    refine W_skip ?_
    refine W_seq ?_
    obtain ⟨y1, ey1, h⟩ := h.bind
    refine W_region mixed tys_ok (sup := [.res [(0, ⟨0, T_api_Thread, y1.1⟩), (0, ⟨0, .bool, y1.2⟩)]]) (l := [(1, 0), (5, 9), (7, 9), (8, 0)]) (E' := [(1, .v 0 (.int .i64) p1), (5, .box 9 T_api_Thread p2), (7, .box 9 T_api_Thread y1.1), (8, .v 0 .bool y1.2)]) (obs := [ACall prog 61 [⟨T_api_State, p0⟩, ⟨.int .i64, p2.2.2.1⟩] [⟨0, T_api_Thread, y1.1⟩, ⟨0, .bool, y1.2⟩]]) (by kernel_rfl) (state_Thread.ok ey1) ?_
    refine W_seq ?_
    refine W_region mixed tys_ok (sup := []) (l := [(6, 0)]) (E' := [(6, .v 0 .bool (((y1.2 && (y1.1.1 == (4 : Int))) && (y1.1.2.1 == p1)) && (p2.1 != (5 : Int))))]) (obs := []) (by kernel_rfl) (trivial) ?_
    refine W_gen (x := ((y1.2 && (y1.1.1 == (4 : Int))) && (y1.1.2.1 == p1)) && (p2.1 != (5 : Int))) (En := fun x2 => [(6, .v 0 .bool x2)]) h (fun x2 h => ?_)
    refine W_keep (l := [(6, 0)]) (E' := [(6, .v 0 .bool x2)]) (by kernel_rfl) ?_
    replace h : x2 = r := h
    subst h
    exact W_ret tys_ok hw0 (by kernel_rfl) (by kernel_rfl)

noncomputable def state_thread_j2 (p0 : D_api_State) (p1 : Int) (p2 : D_api_Thread) (x4 : Bool) : Option (Bool) :=
  bnd (((p2.2.2.2.1 == (1 : Int)) && (p2.2.2.2.2 == (1 : Int))) || (((decide (p2.2.2.2.2 ≥ (1 : Int))) && (decide (p2.2.2.2.2 < p2.2.2.2.1))) && (decide (p2.2.2.2.1 ≤ p0.2.2.2.2.2)))) fun x5 =>
  (bif x4 && x5 then state_client p0 p1 p2 else some false).bind fun y6 =>
  bnd ((x4 && x5) && y6) fun x7 =>
  some x7
noncomputable def state_thread_j1 (p0 : D_api_State) (p1 : Int) (p2 : D_api_Thread) (x1 : Bool) (x3 : Bool) : Option (Bool) :=
  bif x3 then
    state_thread_j2 p0 p1 p2 x1
  else
    bif p2.1 == (4 : Int) then
      (state_Thread p0 p2.2.1).bind fun y8 =>
      bnd (y8.2 && (p2.2.1 != p1)) fun x9 =>
      state_thread_j2 p0 p1 p2 x9
    else
      bif p2.1 == (6 : Int) then
        (state_Lock p0 p2.2.1).bind fun y10 =>
        state_thread_j2 p0 p1 p2 y10.2
      else
        some false
noncomputable def state_thread (p0 : D_api_State) (p1 : Int) (p2 : D_api_Thread) : Option Bool :=
  bnd (p2.2.1 == (-1 : Int)) fun x1 =>
  bif p2.1 == (0 : Int) then
    bnd (Ty.beq T_api_Thread p2 ((0 : Int), (0 : Int), (0 : Int), (0 : Int), (0 : Int))) fun x2 =>
    some x2
  else
    bif p2.1 == (1 : Int) then
      state_thread_j1 p0 p1 p2 x1 (p2.1 == (1 : Int))
    else
      bif p2.1 == (2 : Int) then
        state_thread_j1 p0 p1 p2 x1 (p2.1 == (2 : Int))
      else
        bif p2.1 == (3 : Int) then
          state_thread_j1 p0 p1 p2 x1 (p2.1 == (3 : Int))
        else
          state_thread_j1 p0 p1 p2 x1 (p2.1 == (5 : Int))
theorem state_thread.ok {p0 : D_api_State} {p1 : Int} {p2 : D_api_Thread} {r : Bool} (h : state_thread p0 p1 p2 = some r) : ACall prog 211 [⟨T_api_State, p0⟩, ⟨.int .i64, p1⟩, ⟨T_api_Thread, p2⟩] [⟨0, .bool, r⟩] := by
  replace h := Leads.of h
  unfold state_thread at h
  refine acall_of func211 (by kernel_rfl) rfl (by kernel_rfl) fun w0 F0 hw0 => ?_
  refine W_seq ?_
  refine W_region mixed tys_ok (sup := []) (l := [(1, 0), (3, 0), (5, 9)]) (E' := [(1, .v 0 (.int .i64) p1), (3, .box 0 T_api_State p0), (5, .box 9 T_api_Thread p2)]) (obs := []) (by kernel_rfl) (trivial) ?_
  refine W_seq ?_
  refine W_region mixed tys_ok (sup := []) (l := [(1, 0), (3, 0), (5, 9), (7, 0)]) (E' := [(1, .v 0 (.int .i64) p1), (3, .box 0 T_api_State p0), (5, .box 9 T_api_Thread p2), (7, .v 0 .bool (p2.2.1 == (-1 : Int)))]) (obs := []) (by kernel_rfl) (trivial) ?_
  refine W_gen (x := p2.2.1 == (-1 : Int)) (En := fun x1 => [(1, .v 0 (.int .i64) p1), (3, .box 0 T_api_State p0), (5, .box 9 T_api_Thread p2), (7, .v 0 .bool x1)]) h (fun x1 h => ?_)
  refine W_seq ?_
  refine W_seq ?_
  refine W_region mixed tys_ok (sup := []) (l := [(1, 0), (3, 0), (5, 9), (7, 0), (15, 0)]) (E' := [(1, .v 0 (.int .i64) p1), (3, .box 0 T_api_State p0), (5, .box 9 T_api_Thread p2), (7, .v 0 .bool x1), (15, .v 0 (.int .i64) p2.1)]) (obs := []) (by kernel_rfl) (trivial) ?_
  refine W_block ?_
  refine W_seq ?_
  refine W_region mixed tys_ok (sup := []) (l := [(1, 0), (3, 0), (5, 9), (7, 0), (15, 0), (16, 0)]) (E' := [(1, .v 0 (.int .i64) p1), (3, .box 0 T_api_State p0), (5, .box 9 T_api_Thread p2), (7, .v 0 .bool x1), (15, .v 0 (.int .i64) p2.1), (16, .v 0 .bool (p2.1 == (0 : Int)))]) (obs := []) (by kernel_rfl) (trivial) ?_
  refine W_cond (β := p2.1 == (0 : Int)) (by kernel_rfl) (fun hb => ?_) (fun hb => ?_)
  · rw [cond_tt hb] at h
    refine W_seq ?_
    refine W_region mixed tys_ok (sup := []) (l := [(6, 0)]) (E' := [(6, .v 0 .bool (Ty.beq T_api_Thread p2 ((0 : Int), (0 : Int), (0 : Int), (0 : Int), (0 : Int))))]) (obs := []) (by kernel_rfl) (trivial) ?_
    refine W_gen (x := Ty.beq T_api_Thread p2 ((0 : Int), (0 : Int), (0 : Int), (0 : Int), (0 : Int))) (En := fun x2 => [(6, .v 0 .bool x2)]) h (fun x2 h => ?_)
    refine W_keep (l := [(6, 0)]) (E' := [(6, .v 0 .bool x2)]) (by kernel_rfl) ?_
    replace h : x2 = r := h
    subst h
    exact W_ret tys_ok hw0 (by kernel_rfl) (by kernel_rfl)
  · rw [cond_ff hb] at h
    refine W_seq ?_
    refine W_seq ?_
    refine W_region mixed tys_ok (sup := []) (l := [(1, 0), (3, 0), (5, 9), (7, 0), (15, 0), (21, 0)]) (E' := [(1, .v 0 (.int .i64) p1), (3, .box 0 T_api_State p0), (5, .box 9 T_api_Thread p2), (7, .v 0 .bool x1), (15, .v 0 (.int .i64) p2.1), (21, .v 0 .bool (p2.1 == (1 : Int)))]) (obs := []) (by kernel_rfl) (trivial) ?_
    refine W_join h (Ej := fun (x : Bool) => [(1, .v 0 (.int .i64) p1), (3, .box 0 T_api_State p0), (5, .box 9 T_api_Thread p2), (7, .v 0 .bool x1), (15, .v 0 (.int .i64) p2.1), (21, .v 0 .bool x)]) (p := fun x => state_thread_j1 p0 p1 p2 x1 x) ?_ ?_
    · rintro x3 h
      replace h : Leads _ (state_thread_j1 p0 p1 p2 x1 x3) := h
      unfold state_thread_j1 at h
      show W _ _ _ _ _ _ [(1, .v 0 (.int .i64) p1), (3, .box 0 T_api_State p0), (5, .box 9 T_api_Thread p2), (7, .v 0 .bool x1), (15, .v 0 (.int .i64) p2.1), (21, .v 0 .bool x3)]
      refine W_join h (Ej := fun (x : Bool) => [(1, .v 0 (.int .i64) p1), (3, .box 0 T_api_State p0), (5, .box 9 T_api_Thread p2), (7, .v 0 .bool x)]) (p := fun x => state_thread_j2 p0 p1 p2 x) ?_ ?_
      · rintro x4 h
        replace h : Leads _ (state_thread_j2 p0 p1 p2 x4) := h
        unfold state_thread_j2 at h
        show W _ _ _ _ _ _ [(1, .v 0 (.int .i64) p1), (3, .box 0 T_api_State p0), (5, .box 9 T_api_Thread p2), (7, .v 0 .bool x4)]
        refine W_blk ?_
        refine W_seq ?_
        refine W_region mixed tys_ok (sup := []) (l := [(1, 0), (3, 0), (5, 9), (7, 0), (10, 0)]) (E' := [(1, .v 0 (.int .i64) p1), (3, .box 0 T_api_State p0), (5, .box 9 T_api_Thread p2), (7, .v 0 .bool x4), (10, .v 0 .bool (((p2.2.2.2.1 == (1 : Int)) && (p2.2.2.2.2 == (1 : Int))) || (((decide (p2.2.2.2.2 ≥ (1 : Int))) && (decide (p2.2.2.2.2 < p2.2.2.2.1))) && (decide (p2.2.2.2.1 ≤ p0.2.2.2.2.2)))))]) (obs := []) (by kernel_rfl) (trivial) ?_
        refine W_gen (x := ((p2.2.2.2.1 == (1 : Int)) && (p2.2.2.2.2 == (1 : Int))) || (((decide (p2.2.2.2.2 ≥ (1 : Int))) && (decide (p2.2.2.2.2 < p2.2.2.2.1))) && (decide (p2.2.2.2.1 ≤ p0.2.2.2.2.2)))) (En := fun x5 => [(1, .v 0 (.int .i64) p1), (3, .box 0 T_api_State p0), (5, .box 9 T_api_Thread p2), (7, .v 0 .bool x4), (10, .v 0 .bool x5)]) h (fun x5 h => ?_)
        refine W_seq ?_
        obtain ⟨y6, ey6, h⟩ := h.bind
        refine W_region mixed tys_ok (sup := [.res [(0, ⟨0, .bool, y6⟩)]]) (l := [(6, 0)]) (E' := [(6, .v 0 .bool ((x4 && x5) && y6))]) (obs := [(x4 && x5) = true → ACall prog 240 [⟨T_api_State, p0⟩, ⟨.int .i64, p1⟩, ⟨T_api_Thread, p2⟩] [⟨0, .bool, y6⟩]]) (by kernel_rfl) (fun hc => state_client.ok (bif_some ey6 hc)) ?_
        refine W_gen (x := (x4 && x5) && y6) (En := fun x7 => [(6, .v 0 .bool x7)]) h (fun x7 h => ?_)
        refine W_keep (l := [(6, 0)]) (E' := [(6, .v 0 .bool x7)]) (by kernel_rfl) ?_
        replace h : x7 = r := h
        subst h
        exact W_ret tys_ok hw0 (by kernel_rfl) (by kernel_rfl)
      · intro j2
        refine W_cond (β := x3) (by kernel_rfl) (fun hb => ?_) (fun hb => ?_)
        · rw [cond_tt hb] at h
          refine W_skip ?_
          refine W_keep (l := [(1, 0), (3, 0), (5, 9), (7, 0)]) (E' := [(1, .v 0 (.int .i64) p1), (3, .box 0 T_api_State p0), (5, .box 9 T_api_Thread p2), (7, .v 0 .bool x1)]) (by kernel_rfl) ?_
          exact j2 x1 h
        · rw [cond_ff hb] at h
          refine W_seq ?_
          refine W_region mixed tys_ok (sup := []) (l := [(1, 0), (3, 0), (5, 9), (15, 0), (26, 0)]) (E' := [(1, .v 0 (.int .i64) p1), (3, .box 0 T_api_State p0), (5, .box 9 T_api_Thread p2), (15, .v 0 (.int .i64) p2.1), (26, .v 0 .bool (p2.1 == (4 : Int)))]) (obs := []) (by kernel_rfl) (trivial) ?_
          refine W_cond (β := p2.1 == (4 : Int)) (by kernel_rfl) (fun hb => ?_) (fun hb => ?_)
          · rw [cond_tt hb] at h
            refine W_seq ?_
            obtain ⟨y8, ey8, h⟩ := h.bind
            refine W_region mixed tys_ok (sup := [.res [(0, ⟨0, T_api_Thread, y8.1⟩), (0, ⟨0, .bool, y8.2⟩)]]) (l := [(1, 0), (3, 0), (5, 9), (9, 0)]) (E' := [(1, .v 0 (.int .i64) p1), (3, .box 0 T_api_State p0), (5, .box 9 T_api_Thread p2), (9, .v 0 .bool y8.2)]) (obs := [ACall prog 61 [⟨T_api_State, p0⟩, ⟨.int .i64, p2.2.1⟩] [⟨0, T_api_Thread, y8.1⟩, ⟨0, .bool, y8.2⟩]]) (by kernel_rfl) (state_Thread.ok ey8) ?_
            refine W_region mixed tys_ok (sup := []) (l := [(1, 0), (3, 0), (5, 9), (7, 0)]) (E' := [(1, .v 0 (.int .i64) p1), (3, .box 0 T_api_State p0), (5, .box 9 T_api_Thread p2), (7, .v 0 .bool (y8.2 && (p2.2.1 != p1)))]) (obs := []) (by kernel_rfl) (trivial) ?_
            refine W_gen (x := y8.2 && (p2.2.1 != p1)) (En := fun x9 => [(1, .v 0 (.int .i64) p1), (3, .box 0 T_api_State p0), (5, .box 9 T_api_Thread p2), (7, .v 0 .bool x9)]) h (fun x9 h => ?_)
            refine W_keep (l := [(1, 0), (3, 0), (5, 9), (7, 0)]) (E' := [(1, .v 0 (.int .i64) p1), (3, .box 0 T_api_State p0), (5, .box 9 T_api_Thread p2), (7, .v 0 .bool x9)]) (by kernel_rfl) ?_
            exact j2 x9 h
          · rw [cond_ff hb] at h
            refine W_seq ?_
            refine W_region mixed tys_ok (sup := []) (l := [(1, 0), (3, 0), (5, 9), (42, 0)]) (E' := [(1, .v 0 (.int .i64) p1), (3, .box 0 T_api_State p0), (5, .box 9 T_api_Thread p2), (42, .v 0 .bool (p2.1 == (6 : Int)))]) (obs := []) (by kernel_rfl) (trivial) ?_
            refine W_cond (β := p2.1 == (6 : Int)) (by kernel_rfl) (fun hb => ?_) (fun hb => ?_)
            · rw [cond_tt hb] at h
              obtain ⟨y10, ey10, h⟩ := h.bind
              refine W_region mixed tys_ok (sup := [.res [(0, ⟨0, T_api_Lock, y10.1⟩), (0, ⟨0, .bool, y10.2⟩)]]) (l := [(1, 0), (3, 0), (5, 9), (7, 0)]) (E' := [(1, .v 0 (.int .i64) p1), (3, .box 0 T_api_State p0), (5, .box 9 T_api_Thread p2), (7, .v 0 .bool y10.2)]) (obs := [ACall prog 62 [⟨T_api_State, p0⟩, ⟨.int .i64, p2.2.1⟩] [⟨0, T_api_Lock, y10.1⟩, ⟨0, .bool, y10.2⟩]]) (by kernel_rfl) (state_Lock.ok ey10) ?_
              refine W_keep (l := [(1, 0), (3, 0), (5, 9), (7, 0)]) (E' := [(1, .v 0 (.int .i64) p1), (3, .box 0 T_api_State p0), (5, .box 9 T_api_Thread p2), (7, .v 0 .bool y10.2)]) (by kernel_rfl) ?_
              exact j2 y10.2 h
            · rw [cond_ff hb] at h
              refine W_seq ?_
              refine W_region mixed tys_ok (sup := []) (l := [(6, 0)]) (E' := [(6, .v 0 .bool false)]) (obs := []) (by kernel_rfl) (trivial) ?_
              refine W_keep (l := [(6, 0)]) (E' := [(6, .v 0 .bool false)]) (by kernel_rfl) ?_
              replace h : false = r := h
              subst h
              exact W_ret tys_ok hw0 (by kernel_rfl) (by kernel_rfl)
    · intro j1
      refine W_cond (β := p2.1 == (1 : Int)) (by kernel_rfl) (fun hb => ?_) (fun hb => ?_)
      · rw [cond_tt hb] at h
        refine W_skip ?_
        refine W_keep (l := [(1, 0), (3, 0), (5, 9), (7, 0), (15, 0), (21, 0)]) (E' := [(1, .v 0 (.int .i64) p1), (3, .box 0 T_api_State p0), (5, .box 9 T_api_Thread p2), (7, .v 0 .bool x1), (15, .v 0 (.int .i64) p2.1), (21, .v 0 .bool (p2.1 == (1 : Int)))]) (by kernel_rfl) ?_
        exact j1 (p2.1 == (1 : Int)) h
      · rw [cond_ff hb] at h
        refine W_seq ?_
        refine W_region mixed tys_ok (sup := []) (l := [(1, 0), (3, 0), (5, 9), (7, 0), (15, 0), (21, 0)]) (E' := [(1, .v 0 (.int .i64) p1), (3, .box 0 T_api_State p0), (5, .box 9 T_api_Thread p2), (7, .v 0 .bool x1), (15, .v 0 (.int .i64) p2.1), (21, .v 0 .bool (p2.1 == (2 : Int)))]) (obs := []) (by kernel_rfl) (trivial) ?_
        refine W_cond (β := p2.1 == (2 : Int)) (by kernel_rfl) (fun hb => ?_) (fun hb => ?_)
        · rw [cond_tt hb] at h
          refine W_skip ?_
          refine W_keep (l := [(1, 0), (3, 0), (5, 9), (7, 0), (15, 0), (21, 0)]) (E' := [(1, .v 0 (.int .i64) p1), (3, .box 0 T_api_State p0), (5, .box 9 T_api_Thread p2), (7, .v 0 .bool x1), (15, .v 0 (.int .i64) p2.1), (21, .v 0 .bool (p2.1 == (2 : Int)))]) (by kernel_rfl) ?_
          exact j1 (p2.1 == (2 : Int)) h
        · rw [cond_ff hb] at h
          refine W_seq ?_
          refine W_region mixed tys_ok (sup := []) (l := [(1, 0), (3, 0), (5, 9), (7, 0), (15, 0), (21, 0)]) (E' := [(1, .v 0 (.int .i64) p1), (3, .box 0 T_api_State p0), (5, .box 9 T_api_Thread p2), (7, .v 0 .bool x1), (15, .v 0 (.int .i64) p2.1), (21, .v 0 .bool (p2.1 == (3 : Int)))]) (obs := []) (by kernel_rfl) (trivial) ?_
          refine W_cond (β := p2.1 == (3 : Int)) (by kernel_rfl) (fun hb => ?_) (fun hb => ?_)
          · rw [cond_tt hb] at h
            refine W_skip ?_
            refine W_keep (l := [(1, 0), (3, 0), (5, 9), (7, 0), (15, 0), (21, 0)]) (E' := [(1, .v 0 (.int .i64) p1), (3, .box 0 T_api_State p0), (5, .box 9 T_api_Thread p2), (7, .v 0 .bool x1), (15, .v 0 (.int .i64) p2.1), (21, .v 0 .bool (p2.1 == (3 : Int)))]) (by kernel_rfl) ?_
            exact j1 (p2.1 == (3 : Int)) h
          · rw [cond_ff hb] at h
            refine W_region mixed tys_ok (sup := []) (l := [(1, 0), (3, 0), (5, 9), (7, 0), (15, 0), (21, 0)]) (E' := [(1, .v 0 (.int .i64) p1), (3, .box 0 T_api_State p0), (5, .box 9 T_api_Thread p2), (7, .v 0 .bool x1), (15, .v 0 (.int .i64) p2.1), (21, .v 0 .bool (p2.1 == (5 : Int)))]) (obs := []) (by kernel_rfl) (trivial) ?_
            refine W_keep (l := [(1, 0), (3, 0), (5, 9), (7, 0), (15, 0), (21, 0)]) (E' := [(1, .v 0 (.int .i64) p1), (3, .box 0 T_api_State p0), (5, .box 9 T_api_Thread p2), (7, .v 0 .bool x1), (15, .v 0 (.int .i64) p2.1), (21, .v 0 .bool (p2.1 == (5 : Int)))]) (by kernel_rfl) ?_
            exact j1 (p2.1 == (5 : Int)) h

noncomputable def state_ends_api_Thread (p0 : List D_api_Thread) (p1 : Int) (p2 : D_api_Thread → Option Bool) : Option Bool :=
  ass (((decide ((p0.length : Int) ≤ p1)) && (!((p0.length : Int) == (0 : Int)))) = true → 0 ≤ IntKind.i64.wrap ((p0.length : Int) - (1 : Int)) ∧ IntKind.i64.wrap ((p0.length : Int) - (1 : Int)) < (p0.length : Int)) <|
  (bif (decide ((p0.length : Int) ≤ p1)) && (!((p0.length : Int) == (0 : Int))) then p2 (rd z_api_Thread p0 (IntKind.i64.wrap ((p0.length : Int) - (1 : Int)))) else some false).bind fun y1 =>
  bnd ((decide ((p0.length : Int) ≤ p1)) && (((p0.length : Int) == (0 : Int)) || y1)) fun x2 =>
  some x2
theorem state_ends_api_Thread.ok {p0 : List D_api_Thread} {p1 : Int} {p2 : D_api_Thread → Option Bool} {r : Bool} (h : state_ends_api_Thread p0 p1 p2 = some r) : ACall prog 212 [⟨.slice T_api_Thread, p0⟩, ⟨.int .i64, p1⟩, ⟨.fn T_api_Thread .bool, p2⟩] [⟨0, .bool, r⟩] := by
  replace h := Leads.of h
  unfold state_ends_api_Thread at h
  refine acall_of func212 (by kernel_rfl) rfl (by kernel_rfl) fun w0 F0 hw0 => ?_
  refine W_seq ?_
  refine W_region mixed tys_ok (sup := []) (l := [(0, 0), (1, 0), (2, 0)]) (E' := [(0, .v 0 (.slice T_api_Thread) p0), (1, .v 0 (.int .i64) p1), (2, .v 0 (.fn T_api_Thread .bool) p2)]) (obs := []) (by kernel_rfl) (trivial) ?_
  refine W_seq ?_
  obtain ⟨o1, h⟩ := h.ass
  obtain ⟨y1, ey1, h⟩ := h.bind
  refine W_region mixed tys_ok (sup := [.res [(0, ⟨9, .bool, y1⟩)]]) (l := [(6, 0)]) (E' := [(6, .v 0 .bool ((decide ((p0.length : Int) ≤ p1)) && (((p0.length : Int) == (0 : Int)) || y1)))]) (obs := [((decide ((p0.length : Int) ≤ p1)) && (!((p0.length : Int) == (0 : Int)))) = true → 0 ≤ IntKind.i64.wrap ((p0.length : Int) - (1 : Int)) ∧ IntKind.i64.wrap ((p0.length : Int) - (1 : Int)) < (p0.length : Int), ((decide ((p0.length : Int) ≤ p1)) && (!((p0.length : Int) == (0 : Int)))) = true → p2 (rd z_api_Thread p0 (IntKind.i64.wrap ((p0.length : Int) - (1 : Int)))) = some y1]) (by kernel_rfl) (⟨o1, fun hc => bif_some ey1 hc⟩) ?_
  refine W_gen (x := (decide ((p0.length : Int) ≤ p1)) && (((p0.length : Int) == (0 : Int)) || y1)) (En := fun x2 => [(6, .v 0 .bool x2)]) h (fun x2 h => ?_)
  refine W_keep (l := [(6, 0)]) (E' := [(6, .v 0 .bool x2)]) (by kernel_rfl) ?_
  replace h : x2 = r := h
  subst h
  exact W_ret tys_ok hw0 (by kernel_rfl) (by kernel_rfl)

noncomputable def state_threads_j1 (p0 : D_api_State) (x1 : Int) : Option (Bool) :=
  (bif decide (x1 ≤ (1 : Int)) then state_ends_api_Thread p0.2.2.1 (32 : Int) (fun x => state_threadUsed x) else some false).bind fun y2 =>
  bnd ((decide (x1 ≤ (1 : Int))) && y2) fun x3 =>
  some x3
noncomputable def state_threads_j2 (x5 : Int) (x8 : Int) : Option ((Int × Int) ⊕ Bool) :=
  bnd (IntKind.i64.wrap (x5 + (1 : Int))) fun x9 =>
  some (.inl (x8, x9))
noncomputable def state_threads_b1 (p0 : D_api_State) (x4 : Int) (x5 : Int) : Option ((Int × Int) ⊕ Bool) :=
  bif decide (x5 < (p0.2.2.1.length : Int)) then
    ass (0 ≤ x5 ∧ x5 < (p0.2.2.1.length : Int)) <|
    bnd (rd z_api_Thread p0.2.2.1 x5) fun x6 =>
    (state_thread p0 x5 x6).bind fun y7 =>
    bif !y7 then
      some (.inr false)
    else
      bif x6.1 == (3 : Int) then
        bnd (IntKind.i64.wrap (x4 + (1 : Int))) fun x10 =>
        state_threads_j2 x5 x10
      else
        state_threads_j2 x5 x4
  else
    (state_threads_j1 p0 x4).map .inr
noncomputable def state_threads (p0 : D_api_State) : Option Bool :=
  loopM (fun x : Int × Int => state_threads_b1 p0 x.1 x.2) ((0 : Int), (0 : Int))
theorem state_threads.ok {p0 : D_api_State} {r : Bool} (h : state_threads p0 = some r) : ACall prog 120 [⟨T_api_State, p0⟩] [⟨0, .bool, r⟩] := by
  replace h := Leads.of h
  unfold state_threads at h
  refine acall_of func120 (by kernel_rfl) rfl (by kernel_rfl) fun w0 F0 hw0 => ?_
  refine W_seq ?_
  refine W_region mixed tys_ok (sup := []) (l := [(1, 0)]) (E' := [(1, .box 0 T_api_State p0)]) (obs := []) (by kernel_rfl) (trivial) ?_
  refine W_seq ?_
  refine W_region mixed tys_ok (sup := []) (l := [(1, 0), (3, 0)]) (E' := [(1, .box 0 T_api_State p0), (3, .v 0 (.int .i64) (0 : Int))]) (obs := []) (by kernel_rfl) (trivial) ?_
  refine W_seq ?_
  refine W_seq ?_
  refine W_region mixed tys_ok (sup := []) (l := [(1, 0), (3, 0), (7, 0), (8, 0), (9, 0)]) (E' := [(1, .box 0 T_api_State p0), (3, .v 0 (.int .i64) (0 : Int)), (7, .v 0 (.slice T_api_Thread) p0.2.2.1), (8, .v 0 (.int .i64) (p0.2.2.1.length : Int)), (9, .v 0 (.int .i64) (0 : Int))]) (obs := []) (by kernel_rfl) (trivial) ?_
  refine W_join h (Ej := fun (x : Int) => [(1, .box 0 T_api_State p0), (3, .v 0 (.int .i64) x)]) (p := fun x => state_threads_j1 p0 x) ?_ ?_
  · rintro x1 h
    replace h : Leads _ (state_threads_j1 p0 x1) := h
    unfold state_threads_j1 at h
    show W _ _ _ _ _ _ [(1, .box 0 T_api_State p0), (3, .v 0 (.int .i64) x1)]
    refine W_seq ?_
    obtain ⟨y2, ey2, h⟩ := h.bind
    refine W_region mixed tys_ok (sup := [.fn T_api_Thread .bool (fun x => state_threadUsed x), .res [(0, ⟨0, .bool, y2⟩)]]) (l := [(2, 0)]) (E' := [(2, .v 0 .bool ((decide (x1 ≤ (1 : Int))) && y2))]) (obs := [(decide (x1 ≤ (1 : Int))) = true → ∀ x y, (fun x => state_threadUsed x) x = some y → ACall prog 139 (unprod T_api_Thread x ++ []) [⟨9, .bool, y⟩], (decide (x1 ≤ (1 : Int))) = true → ACall prog 212 [⟨.slice T_api_Thread, p0.2.2.1⟩, ⟨.int .i64, (32 : Int)⟩, ⟨.fn T_api_Thread .bool, fun x => state_threadUsed x⟩] [⟨0, .bool, y2⟩]]) (by kernel_rfl) (⟨fun _ => fun x y e => ACall.flat rfl (state_threadUsed.ok e), fun hc => state_ends_api_Thread.ok (bif_some ey2 hc)⟩) ?_
    refine W_gen (x := (decide (x1 ≤ (1 : Int))) && y2) (En := fun x3 => [(2, .v 0 .bool x3)]) h (fun x3 h => ?_)
    refine W_keep (l := [(2, 0)]) (E' := [(2, .v 0 .bool x3)]) (by kernel_rfl) ?_
    replace h : x3 = r := h
    subst h
    exact W_ret tys_ok hw0 (by kernel_rfl) (by kernel_rfl)
  · intro j1
    refine W_block ?_
    refine W_keep (l := [(1, 0), (3, 0), (7, 0), (8, 0), (9, 0)]) (E' := [(1, .box 0 T_api_State p0), (3, .v 0 (.int .i64) (0 : Int)), (7, .v 0 (.slice T_api_Thread) p0.2.2.1), (8, .v 0 (.int .i64) (p0.2.2.1.length : Int)), (9, .v 0 (.int .i64) (0 : Int))]) (by kernel_rfl) ?_
    refine W_loop' (En := fun (x : Int × Int) => [(1, .box 0 T_api_State p0), (3, .v 0 (.int .i64) x.1), (7, .v 0 (.slice T_api_Thread) p0.2.2.1), (8, .v 0 (.int .i64) (p0.2.2.1.length : Int)), (9, .v 0 (.int .i64) x.2)]) (x := ((0 : Int), (0 : Int))) h ?_
    rintro ⟨x4, x5⟩ K h
    replace h : Leads _ (state_threads_b1 p0 x4 x5) := h
    unfold state_threads_b1 at h
    show W _ _ _ _ _ _ [(1, .box 0 T_api_State p0), (3, .v 0 (.int .i64) x4), (7, .v 0 (.slice T_api_Thread) p0.2.2.1), (8, .v 0 (.int .i64) (p0.2.2.1.length : Int)), (9, .v 0 (.int .i64) x5)]
    refine W_seq ?_
    refine W_region mixed tys_ok (sup := []) (l := [(1, 0), (3, 0), (7, 0), (8, 0), (9, 0), (10, 0)]) (E' := [(1, .box 0 T_api_State p0), (3, .v 0 (.int .i64) x4), (7, .v 0 (.slice T_api_Thread) p0.2.2.1), (8, .v 0 (.int .i64) (p0.2.2.1.length : Int)), (9, .v 0 (.int .i64) x5), (10, .v 0 .bool (decide (x5 < (p0.2.2.1.length : Int))))]) (obs := []) (by kernel_rfl) (trivial) ?_
    refine W_seq ?_
    refine W_cond (β := decide (x5 < (p0.2.2.1.length : Int))) (by kernel_rfl) (fun hb => ?_) (fun hb => ?_)
    · rw [cond_tt hb] at h
      refine W_skip ?_
      refine W_seq ?_
      refine W_block ?_
      refine W_seq ?_
      obtain ⟨o1, h⟩ := h.ass
      refine W_region mixed tys_ok (sup := []) (l := [(1, 0), (3, 0), (4, 0), (5, 9), (7, 0), (8, 0), (9, 0)]) (E' := [(1, .box 0 T_api_State p0), (3, .v 0 (.int .i64) x4), (4, .v 0 (.int .i64) x5), (5, .box 9 T_api_Thread (rd z_api_Thread p0.2.2.1 x5)), (7, .v 0 (.slice T_api_Thread) p0.2.2.1), (8, .v 0 (.int .i64) (p0.2.2.1.length : Int)), (9, .v 0 (.int .i64) x5)]) (obs := [0 ≤ x5 ∧ x5 < (p0.2.2.1.length : Int)]) (by kernel_rfl) (o1) ?_
      refine W_gen (x := rd z_api_Thread p0.2.2.1 x5) (En := fun x6 => [(1, .box 0 T_api_State p0), (3, .v 0 (.int .i64) x4), (4, .v 0 (.int .i64) x5), (5, .box 9 T_api_Thread x6), (7, .v 0 (.slice T_api_Thread) p0.2.2.1), (8, .v 0 (.int .i64) (p0.2.2.1.length : Int)), (9, .v 0 (.int .i64) x5)]) h (fun x6 h => ?_)
      refine W_seq ?_
      refine W_seq ?_
      obtain ⟨y7, ey7, h⟩ := h.bind
      refine W_region mixed tys_ok (sup := [.res [(0, ⟨0, .bool, y7⟩)]]) (l := [(1, 0), (3, 0), (5, 9), (7, 0), (8, 0), (9, 0), (18, 0)]) (E' := [(1, .box 0 T_api_State p0), (3, .v 0 (.int .i64) x4), (5, .box 9 T_api_Thread x6), (7, .v 0 (.slice T_api_Thread) p0.2.2.1), (8, .v 0 (.int .i64) (p0.2.2.1.length : Int)), (9, .v 0 (.int .i64) x5), (18, .v 0 .bool (!y7))]) (obs := [ACall prog 211 [⟨T_api_State, p0⟩, ⟨.int .i64, x5⟩, ⟨T_api_Thread, x6⟩] [⟨0, .bool, y7⟩]]) (by kernel_rfl) (state_thread.ok ey7) ?_
      refine W_cond (β := !y7) (by kernel_rfl) (fun hb => ?_) (fun hb => ?_)
      · rw [cond_tt hb] at h
        refine W_seq ?_
        refine W_region mixed tys_ok (sup := []) (l := [(2, 0)]) (E' := [(2, .v 0 .bool false)]) (obs := []) (by kernel_rfl) (trivial) ?_
        refine W_keep (l := [(2, 0)]) (E' := [(2, .v 0 .bool false)]) (by kernel_rfl) ?_
        replace h : false = r := h
        subst h
        exact W_ret tys_ok hw0 (by kernel_rfl) (by kernel_rfl)
      · rw [cond_ff hb] at h
        refine W_skip ?_
        refine W_seq ?_
        refine W_region mixed tys_ok (sup := []) (l := [(1, 0), (3, 0), (7, 0), (8, 0), (9, 0), (21, 0)]) (E' := [(1, .box 0 T_api_State p0), (3, .v 0 (.int .i64) x4), (7, .v 0 (.slice T_api_Thread) p0.2.2.1), (8, .v 0 (.int .i64) (p0.2.2.1.length : Int)), (9, .v 0 (.int .i64) x5), (21, .v 0 .bool (x6.1 == (3 : Int)))]) (obs := []) (by kernel_rfl) (trivial) ?_
        refine W_join h (Ej := fun (x : Int) => [(1, .box 0 T_api_State p0), (3, .v 0 (.int .i64) x), (7, .v 0 (.slice T_api_Thread) p0.2.2.1), (8, .v 0 (.int .i64) (p0.2.2.1.length : Int)), (9, .v 0 (.int .i64) x5)]) (p := fun x => state_threads_j2 x5 x) ?_ ?_
        · rintro x8 h
          replace h : Leads _ (state_threads_j2 x5 x8) := h
          unfold state_threads_j2 at h
          show W _ _ _ _ _ _ [(1, .box 0 T_api_State p0), (3, .v 0 (.int .i64) x8), (7, .v 0 (.slice T_api_Thread) p0.2.2.1), (8, .v 0 (.int .i64) (p0.2.2.1.length : Int)), (9, .v 0 (.int .i64) x5)]
          refine W_blk ?_
          refine W_region mixed tys_ok (sup := []) (l := [(1, 0), (3, 0), (7, 0), (8, 0), (9, 0)]) (E' := [(1, .box 0 T_api_State p0), (3, .v 0 (.int .i64) x8), (7, .v 0 (.slice T_api_Thread) p0.2.2.1), (8, .v 0 (.int .i64) (p0.2.2.1.length : Int)), (9, .v 0 (.int .i64) (IntKind.i64.wrap (x5 + (1 : Int))))]) (obs := []) (by kernel_rfl) (trivial) ?_
          refine W_gen (x := IntKind.i64.wrap (x5 + (1 : Int))) (En := fun x9 => [(1, .box 0 T_api_State p0), (3, .v 0 (.int .i64) x8), (7, .v 0 (.slice T_api_Thread) p0.2.2.1), (8, .v 0 (.int .i64) (p0.2.2.1.length : Int)), (9, .v 0 (.int .i64) x9)]) h (fun x9 h => ?_)
          refine W_keep (l := [(1, 0), (3, 0), (7, 0), (8, 0), (9, 0)]) (E' := [(1, .box 0 T_api_State p0), (3, .v 0 (.int .i64) x8), (7, .v 0 (.slice T_api_Thread) p0.2.2.1), (8, .v 0 (.int .i64) (p0.2.2.1.length : Int)), (9, .v 0 (.int .i64) x9)]) (by kernel_rfl) ?_
          exact W_abs h
        · intro j2
          refine W_cond (β := x6.1 == (3 : Int)) (by kernel_rfl) (fun hb => ?_) (fun hb => ?_)
          · rw [cond_tt hb] at h
            refine W_region mixed tys_ok (sup := []) (l := [(1, 0), (3, 0), (7, 0), (8, 0), (9, 0)]) (E' := [(1, .box 0 T_api_State p0), (3, .v 0 (.int .i64) (IntKind.i64.wrap (x4 + (1 : Int)))), (7, .v 0 (.slice T_api_Thread) p0.2.2.1), (8, .v 0 (.int .i64) (p0.2.2.1.length : Int)), (9, .v 0 (.int .i64) x5)]) (obs := []) (by kernel_rfl) (trivial) ?_
            refine W_gen (x := IntKind.i64.wrap (x4 + (1 : Int))) (En := fun x10 => [(1, .box 0 T_api_State p0), (3, .v 0 (.int .i64) x10), (7, .v 0 (.slice T_api_Thread) p0.2.2.1), (8, .v 0 (.int .i64) (p0.2.2.1.length : Int)), (9, .v 0 (.int .i64) x5)]) h (fun x10 h => ?_)
            refine W_keep (l := [(1, 0), (3, 0), (7, 0), (8, 0), (9, 0)]) (E' := [(1, .box 0 T_api_State p0), (3, .v 0 (.int .i64) x10), (7, .v 0 (.slice T_api_Thread) p0.2.2.1), (8, .v 0 (.int .i64) (p0.2.2.1.length : Int)), (9, .v 0 (.int .i64) x5)]) (by kernel_rfl) ?_
            exact j2 x10 h
          · rw [cond_ff hb] at h
            refine W_skip ?_
            refine W_keep (l := [(1, 0), (3, 0), (7, 0), (8, 0), (9, 0)]) (E' := [(1, .box 0 T_api_State p0), (3, .v 0 (.int .i64) x4), (7, .v 0 (.slice T_api_Thread) p0.2.2.1), (8, .v 0 (.int .i64) (p0.2.2.1.length : Int)), (9, .v 0 (.int .i64) x5)]) (by kernel_rfl) ?_
            exact j2 x4 h
    · rw [cond_ff hb] at h
      refine W_exit rfl ?_
      refine W_keep (l := [(1, 0), (3, 0)]) (E' := [(1, .box 0 T_api_State p0), (3, .v 0 (.int .i64) x4)]) (by kernel_rfl) ?_
      exact j1 x4 h.back

noncomputable def slices_IndexFunc_api_Thread_api_Thread_j1 : Option (Int) :=
  some (-1 : Int)
noncomputable def slices_IndexFunc_api_Thread_api_Thread_b1 (p0 : List D_api_Thread) (p1 : D_api_Thread → Option Bool) (x1 : Int) : Option (Int ⊕ Int) :=
  bif decide (x1 < (p0.length : Int)) then
    ass (0 ≤ x1 ∧ x1 < (p0.length : Int)) <|
    (p1 (rd z_api_Thread p0 x1)).bind fun y2 =>
    bif y2 then
      some (.inr x1)
    else
      bnd (IntKind.i64.wrap (x1 + (1 : Int))) fun x3 =>
      some (.inl x3)
  else
    (slices_IndexFunc_api_Thread_api_Thread_j1).map .inr
noncomputable def slices_IndexFunc_api_Thread_api_Thread (p0 : List D_api_Thread) (p1 : D_api_Thread → Option Bool) : Option Int :=
  loopM (fun x : Int => slices_IndexFunc_api_Thread_api_Thread_b1 p0 p1 x) (0 : Int)
theorem slices_IndexFunc_api_Thread_api_Thread.ok {p0 : List D_api_Thread} {p1 : D_api_Thread → Option Bool} {r : Int} (h : slices_IndexFunc_api_Thread_api_Thread p0 p1 = some r) : ACall prog 179 [⟨.slice T_api_Thread, p0⟩, ⟨.fn T_api_Thread .bool, p1⟩] [⟨0, .int .i64, r⟩] := by
  replace h := Leads.of h
  unfold slices_IndexFunc_api_Thread_api_Thread at h
  refine acall_of func179 (by kernel_rfl) rfl (by kernel_rfl) fun w0 F0 hw0 => ?_
  refine W_seq ?_
  refine W_region mixed tys_ok (sup := []) (l := [(0, 0), (1, 0)]) (E' := [(0, .v 0 (.slice T_api_Thread) p0), (1, .v 0 (.fn T_api_Thread .bool) p1)]) (obs := []) (by kernel_rfl) (trivial) ?_
  refine W_seq ?_
  refine W_seq ?_
  refine W_region mixed tys_ok (sup := []) (l := [(0, 0), (1, 0), (7, 0), (8, 0)]) (E' := [(0, .v 0 (.slice T_api_Thread) p0), (1, .v 0 (.fn T_api_Thread .bool) p1), (7, .v 0 (.int .i64) (p0.length : Int)), (8, .v 0 (.int .i64) (0 : Int))]) (obs := []) (by kernel_rfl) (trivial) ?_
  refine W_join h (Ej := fun (x : Unit) => []) (p := fun x => slices_IndexFunc_api_Thread_api_Thread_j1) ?_ ?_
  · rintro ⟨⟩ h
    replace h : Leads _ (slices_IndexFunc_api_Thread_api_Thread_j1) := h
    unfold slices_IndexFunc_api_Thread_api_Thread_j1 at h
    show W _ _ _ _ _ _ []
    refine W_seq ?_
    refine W_region mixed tys_ok (sup := []) (l := [(4, 0)]) (E' := [(4, .v 0 (.int .i64) (-1 : Int))]) (obs := []) (by kernel_rfl) (trivial) ?_
    refine W_keep (l := [(4, 0)]) (E' := [(4, .v 0 (.int .i64) (-1 : Int))]) (by kernel_rfl) ?_
    replace h : ((-1 : Int)) = r := h
    subst h
    exact W_ret tys_ok hw0 (by kernel_rfl) (by kernel_rfl)
  · intro j1
    refine W_block ?_
    refine W_keep (l := [(0, 0), (1, 0), (7, 0), (8, 0)]) (E' := [(0, .v 0 (.slice T_api_Thread) p0), (1, .v 0 (.fn T_api_Thread .bool) p1), (7, .v 0 (.int .i64) (p0.length : Int)), (8, .v 0 (.int .i64) (0 : Int))]) (by kernel_rfl) ?_
    refine W_loop' (En := fun (x : Int) => [(0, .v 0 (.slice T_api_Thread) p0), (1, .v 0 (.fn T_api_Thread .bool) p1), (7, .v 0 (.int .i64) (p0.length : Int)), (8, .v 0 (.int .i64) x)]) (x := (0 : Int)) h ?_
    rintro x1 K h
    replace h : Leads _ (slices_IndexFunc_api_Thread_api_Thread_b1 p0 p1 x1) := h
    unfold slices_IndexFunc_api_Thread_api_Thread_b1 at h
    show W _ _ _ _ _ _ [(0, .v 0 (.slice T_api_Thread) p0), (1, .v 0 (.fn T_api_Thread .bool) p1), (7, .v 0 (.int .i64) (p0.length : Int)), (8, .v 0 (.int .i64) x1)]
    refine W_seq ?_
    refine W_region mixed tys_ok (sup := []) (l := [(0, 0), (1, 0), (7, 0), (8, 0), (9, 0)]) (E' := [(0, .v 0 (.slice T_api_Thread) p0), (1, .v 0 (.fn T_api_Thread .bool) p1), (7, .v 0 (.int .i64) (p0.length : Int)), (8, .v 0 (.int .i64) x1), (9, .v 0 .bool (decide (x1 < (p0.length : Int))))]) (obs := []) (by kernel_rfl) (trivial) ?_
    refine W_seq ?_
    refine W_cond (β := decide (x1 < (p0.length : Int))) (by kernel_rfl) (fun hb => ?_) (fun hb => ?_)
    · rw [cond_tt hb] at h
      refine W_skip ?_
      refine W_seq ?_
      refine W_block ?_
      refine W_seq ?_
      refine W_region mixed tys_ok (sup := []) (l := [(0, 0), (1, 0), (5, 0), (7, 0), (8, 0)]) (E' := [(0, .v 0 (.slice T_api_Thread) p0), (1, .v 0 (.fn T_api_Thread .bool) p1), (5, .v 0 (.int .i64) x1), (7, .v 0 (.int .i64) (p0.length : Int)), (8, .v 0 (.int .i64) x1)]) (obs := []) (by kernel_rfl) (trivial) ?_
      refine W_seq ?_
      obtain ⟨o1, h⟩ := h.ass
      obtain ⟨y2, ey2, h⟩ := h.bind
      refine W_region mixed tys_ok (sup := [.res [(0, ⟨9, .bool, y2⟩)]]) (l := [(0, 0), (1, 0), (5, 0), (7, 0), (8, 0), (16, 0)]) (E' := [(0, .v 0 (.slice T_api_Thread) p0), (1, .v 0 (.fn T_api_Thread .bool) p1), (5, .v 0 (.int .i64) x1), (7, .v 0 (.int .i64) (p0.length : Int)), (8, .v 0 (.int .i64) x1), (16, .v 0 .bool y2)]) (obs := [0 ≤ x1 ∧ x1 < (p0.length : Int), p1 (rd z_api_Thread p0 x1) = some y2]) (by kernel_rfl) (⟨o1, ey2⟩) ?_
      refine W_cond (β := y2) (by kernel_rfl) (fun hb => ?_) (fun hb => ?_)
      · rw [cond_tt hb] at h
        refine W_seq ?_
        refine W_region mixed tys_ok (sup := []) (l := [(4, 0)]) (E' := [(4, .v 0 (.int .i64) x1)]) (obs := []) (by kernel_rfl) (trivial) ?_
        refine W_keep (l := [(4, 0)]) (E' := [(4, .v 0 (.int .i64) x1)]) (by kernel_rfl) ?_
        replace h : x1 = r := h
        subst h
        exact W_ret tys_ok hw0 (by kernel_rfl) (by kernel_rfl)
      · rw [cond_ff hb] at h
        refine W_skip ?_
        refine W_blk ?_
        refine W_region mixed tys_ok (sup := []) (l := [(0, 0), (1, 0), (7, 0), (8, 0)]) (E' := [(0, .v 0 (.slice T_api_Thread) p0), (1, .v 0 (.fn T_api_Thread .bool) p1), (7, .v 0 (.int .i64) (p0.length : Int)), (8, .v 0 (.int .i64) (IntKind.i64.wrap (x1 + (1 : Int))))]) (obs := []) (by kernel_rfl) (trivial) ?_
        refine W_gen (x := IntKind.i64.wrap (x1 + (1 : Int))) (En := fun x3 => [(0, .v 0 (.slice T_api_Thread) p0), (1, .v 0 (.fn T_api_Thread .bool) p1), (7, .v 0 (.int .i64) (p0.length : Int)), (8, .v 0 (.int .i64) x3)]) h (fun x3 h => ?_)
        refine W_keep (l := [(0, 0), (1, 0), (7, 0), (8, 0)]) (E' := [(0, .v 0 (.slice T_api_Thread) p0), (1, .v 0 (.fn T_api_Thread .bool) p1), (7, .v 0 (.int .i64) (p0.length : Int)), (8, .v 0 (.int .i64) x3)]) (by kernel_rfl) ?_
        exact W_abs h
    · rw [cond_ff hb] at h
      refine W_exit rfl ?_
      refine W_keep (l := []) (E' := []) (by kernel_rfl) ?_
      exact j1 () h.back

noncomputable def slices_ContainsFunc_api_Thread_api_Thread (p0 : List D_api_Thread) (p1 : D_api_Thread → Option Bool) : Option Bool :=
  (slices_IndexFunc_api_Thread_api_Thread p0 p1).bind fun y1 =>
  bnd (decide (y1 ≥ (0 : Int))) fun x2 =>
  some x2
theorem slices_ContainsFunc_api_Thread_api_Thread.ok {p0 : List D_api_Thread} {p1 : D_api_Thread → Option Bool} {r : Bool} (h : slices_ContainsFunc_api_Thread_api_Thread p0 p1 = some r) : ACall prog 241 [⟨.slice T_api_Thread, p0⟩, ⟨.fn T_api_Thread .bool, p1⟩] [⟨0, .bool, r⟩] := by
  replace h := Leads.of h
  unfold slices_ContainsFunc_api_Thread_api_Thread at h
  refine acall_of func241 (by kernel_rfl) rfl (by kernel_rfl) fun w0 F0 hw0 => ?_
  refine W_seq ?_
  refine W_region mixed tys_ok (sup := []) (l := [(0, 0), (1, 0)]) (E' := [(0, .v 0 (.slice T_api_Thread) p0), (1, .v 0 (.fn T_api_Thread .bool) p1)]) (obs := []) (by kernel_rfl) (trivial) ?_
  refine W_seq ?_
  obtain ⟨y1, ey1, h⟩ := h.bind
  refine W_region mixed tys_ok (sup := [.res [(0, ⟨0, .int .i64, y1⟩)]]) (l := [(4, 0)]) (E' := [(4, .v 0 .bool (decide (y1 ≥ (0 : Int))))]) (obs := [ACall prog 179 [⟨.slice T_api_Thread, p0⟩, ⟨.fn T_api_Thread .bool, p1⟩] [⟨0, .int .i64, y1⟩]]) (by kernel_rfl) (slices_IndexFunc_api_Thread_api_Thread.ok ey1) ?_
  refine W_gen (x := decide (y1 ≥ (0 : Int))) (En := fun x2 => [(4, .v 0 .bool x2)]) h (fun x2 h => ?_)
  refine W_keep (l := [(4, 0)]) (E' := [(4, .v 0 .bool x2)]) (by kernel_rfl) ?_
  replace h : x2 = r := h
  subst h
  exact W_ret tys_ok hw0 (by kernel_rfl) (by kernel_rfl)

noncomputable def state_awaited_c1 (p0 : D_api_Thread) (c0 : Int) : Option Bool :=
  bnd ((p0.1 == (6 : Int)) && (p0.2.1 == c0)) fun x1 =>
  some x1
theorem state_awaited_c1.ok {p0 : D_api_Thread} {c0 : Int} {r : Bool} (h : state_awaited_c1 p0 c0 = some r) : ACall prog 242 [⟨T_api_Thread, p0⟩, ⟨.cptr (.int .i64), c0⟩] [⟨0, .bool, r⟩] := by
  replace h := Leads.of h
  unfold state_awaited_c1 at h
  refine acall_of func242 (by kernel_rfl) rfl (by kernel_rfl) fun w0 F0 hw0 => ?_
  refine W_seq ?_
  refine W_region mixed tys_ok (sup := []) (l := [(1, 0), (2, 9)]) (E' := [(1, .v 0 (.cptr (.int .i64)) c0), (2, .box 9 T_api_Thread p0)]) (obs := []) (by kernel_rfl) (trivial) ?_
  refine W_seq ?_
  refine W_region mixed tys_ok (sup := []) (l := [(3, 0)]) (E' := [(3, .v 0 .bool ((p0.1 == (6 : Int)) && (p0.2.1 == c0)))]) (obs := []) (by kernel_rfl) (trivial) ?_
  refine W_gen (x := (p0.1 == (6 : Int)) && (p0.2.1 == c0)) (En := fun x1 => [(3, .v 0 .bool x1)]) h (fun x1 h => ?_)
  refine W_keep (l := [(3, 0)]) (E' := [(3, .v 0 .bool x1)]) (by kernel_rfl) ?_
  replace h : x1 = r := h
  subst h
  exact W_ret tys_ok hw0 (by kernel_rfl) (by kernel_rfl)

noncomputable def state_awaited (p0 : D_api_State) (p1 : Int) : Option Bool :=
  (slices_ContainsFunc_api_Thread_api_Thread p0.2.2.1 (fun x => state_awaited_c1 x p1)).bind fun y1 =>
  some y1
theorem state_awaited.ok {p0 : D_api_State} {p1 : Int} {r : Bool} (h : state_awaited p0 p1 = some r) : ACall prog 213 [⟨T_api_State, p0⟩, ⟨.int .i64, p1⟩] [⟨0, .bool, r⟩] := by
  replace h := Leads.of h
  unfold state_awaited at h
  refine acall_of func213 (by kernel_rfl) rfl (by kernel_rfl) fun w0 F0 hw0 => ?_
  refine W_seq ?_
  refine W_region mixed tys_ok (sup := []) (l := [(2, 0), (3, 9)]) (E' := [(2, .box 0 T_api_State p0), (3, .box 9 (.int .i64) p1)]) (obs := []) (by kernel_rfl) (trivial) ?_
  refine W_seq ?_
  obtain ⟨y1, ey1, h⟩ := h.bind
  refine W_region mixed tys_ok (sup := [.fn T_api_Thread .bool (fun x => state_awaited_c1 x p1), .res [(0, ⟨0, .bool, y1⟩)]]) (l := [(4, 0)]) (E' := [(4, .v 0 .bool y1)]) (obs := [∀ x y, (fun x => state_awaited_c1 x p1) x = some y → ACall prog 242 (unprod T_api_Thread x ++ [⟨.cptr (.int .i64), p1⟩]) [⟨9, .bool, y⟩], ACall prog 241 [⟨.slice T_api_Thread, p0.2.2.1⟩, ⟨.fn T_api_Thread .bool, fun x => state_awaited_c1 x p1⟩] [⟨0, .bool, y1⟩]]) (by kernel_rfl) (⟨fun x y e => ACall.flat rfl (state_awaited_c1.ok e), slices_ContainsFunc_api_Thread_api_Thread.ok ey1⟩) ?_
  refine W_keep (l := [(4, 0)]) (E' := [(4, .v 0 .bool y1)]) (by kernel_rfl) ?_
  replace h : y1 = r := h
  subst h
  exact W_ret tys_ok hw0 (by kernel_rfl) (by kernel_rfl)

noncomputable def state_ends_api_Lock (p0 : List D_api_Lock) (p1 : Int) (p2 : D_api_Lock → Option Bool) : Option Bool :=
  ass (((decide ((p0.length : Int) ≤ p1)) && (!((p0.length : Int) == (0 : Int)))) = true → 0 ≤ IntKind.i64.wrap ((p0.length : Int) - (1 : Int)) ∧ IntKind.i64.wrap ((p0.length : Int) - (1 : Int)) < (p0.length : Int)) <|
  (bif (decide ((p0.length : Int) ≤ p1)) && (!((p0.length : Int) == (0 : Int))) then p2 (rd z_api_Lock p0 (IntKind.i64.wrap ((p0.length : Int) - (1 : Int)))) else some false).bind fun y1 =>
  bnd ((decide ((p0.length : Int) ≤ p1)) && (((p0.length : Int) == (0 : Int)) || y1)) fun x2 =>
  some x2
theorem state_ends_api_Lock.ok {p0 : List D_api_Lock} {p1 : Int} {p2 : D_api_Lock → Option Bool} {r : Bool} (h : state_ends_api_Lock p0 p1 p2 = some r) : ACall prog 214 [⟨.slice T_api_Lock, p0⟩, ⟨.int .i64, p1⟩, ⟨.fn T_api_Lock .bool, p2⟩] [⟨0, .bool, r⟩] := by
  replace h := Leads.of h
  unfold state_ends_api_Lock at h
  refine acall_of func214 (by kernel_rfl) rfl (by kernel_rfl) fun w0 F0 hw0 => ?_
  refine W_seq ?_
  refine W_region mixed tys_ok (sup := []) (l := [(0, 0), (1, 0), (2, 0)]) (E' := [(0, .v 0 (.slice T_api_Lock) p0), (1, .v 0 (.int .i64) p1), (2, .v 0 (.fn T_api_Lock .bool) p2)]) (obs := []) (by kernel_rfl) (trivial) ?_
  refine W_seq ?_
  obtain ⟨o1, h⟩ := h.ass
  obtain ⟨y1, ey1, h⟩ := h.bind
  refine W_region mixed tys_ok (sup := [.res [(0, ⟨9, .bool, y1⟩)]]) (l := [(6, 0)]) (E' := [(6, .v 0 .bool ((decide ((p0.length : Int) ≤ p1)) && (((p0.length : Int) == (0 : Int)) || y1)))]) (obs := [((decide ((p0.length : Int) ≤ p1)) && (!((p0.length : Int) == (0 : Int)))) = true → 0 ≤ IntKind.i64.wrap ((p0.length : Int) - (1 : Int)) ∧ IntKind.i64.wrap ((p0.length : Int) - (1 : Int)) < (p0.length : Int), ((decide ((p0.length : Int) ≤ p1)) && (!((p0.length : Int) == (0 : Int)))) = true → p2 (rd z_api_Lock p0 (IntKind.i64.wrap ((p0.length : Int) - (1 : Int)))) = some y1]) (by kernel_rfl) (⟨o1, fun hc => bif_some ey1 hc⟩) ?_
  refine W_gen (x := (decide ((p0.length : Int) ≤ p1)) && (((p0.length : Int) == (0 : Int)) || y1)) (En := fun x2 => [(6, .v 0 .bool x2)]) h (fun x2 h => ?_)
  refine W_keep (l := [(6, 0)]) (E' := [(6, .v 0 .bool x2)]) (by kernel_rfl) ?_
  replace h : x2 = r := h
  subst h
  exact W_ret tys_ok hw0 (by kernel_rfl) (by kernel_rfl)

noncomputable def state_locks_j1 (p0 : D_api_State) : Option (Bool) :=
  (state_ends_api_Lock p0.2.2.2.1 (8 : Int) (fun x => state_lockUsed x)).bind fun y1 =>
  some y1
noncomputable def state_locks_j2 (x2 : Int) : Option (Int ⊕ Bool) :=
  bnd (IntKind.i64.wrap (x2 + (1 : Int))) fun x3 =>
  some (.inl x3)
noncomputable def state_locks_b1 (p0 : D_api_State) (x2 : Int) : Option (Int ⊕ Bool) :=
  bif decide (x2 < (p0.2.2.2.1.length : Int)) then
    ass (0 ≤ x2 ∧ x2 < (p0.2.2.2.1.length : Int)) <|
    bnd (rd z_api_Lock p0.2.2.2.1 x2) fun x4 =>
    bif !x4.1 then
      bif !(Ty.beq T_api_Lock x4 (false, (0 : Int))) then
        some (.inr false)
      else
        state_locks_j2 x2
    else
      (state_Thread p0 x4.2).bind fun y5 =>
      (bif (!((x4.2 != (-1 : Int)) && ((!y5.2) || ((y5.1.1 == (6 : Int)) && (y5.1.2.1 == x2))))) && (x4.2 == (-1 : Int)) then state_awaited p0 x2 else some false).bind fun y6 =>
      bif ((x4.2 != (-1 : Int)) && ((!y5.2) || ((y5.1.1 == (6 : Int)) && (y5.1.2.1 == x2)))) || ((x4.2 == (-1 : Int)) && y6) then
        some (.inr false)
      else
        state_locks_j2 x2
  else
    (state_locks_j1 p0).map .inr
noncomputable def state_locks (p0 : D_api_State) : Option Bool :=
  loopM (fun x : Int => state_locks_b1 p0 x) (0 : Int)
theorem state_locks.ok {p0 : D_api_State} {r : Bool} (h : state_locks p0 = some r) : ACall prog 121 [⟨T_api_State, p0⟩] [⟨0, .bool, r⟩] := by
  replace h := Leads.of h
  unfold state_locks at h
  refine acall_of func121 (by kernel_rfl) rfl (by kernel_rfl) fun w0 F0 hw0 => ?_
  refine W_seq ?_
  refine W_region mixed tys_ok (sup := []) (l := [(1, 0)]) (E' := [(1, .box 0 T_api_State p0)]) (obs := []) (by kernel_rfl) (trivial) ?_
  refine W_seq ?_
  refine W_seq ?_
  refine W_region mixed tys_ok (sup := []) (l := [(1, 0), (8, 0), (9, 0), (10, 0)]) (E' := [(1, .box 0 T_api_State p0), (8, .v 0 (.slice T_api_Lock) p0.2.2.2.1), (9, .v 0 (.int .i64) (p0.2.2.2.1.length : Int)), (10, .v 0 (.int .i64) (0 : Int))]) (obs := []) (by kernel_rfl) (trivial) ?_
  refine W_join h (Ej := fun (x : Unit) => [(1, .box 0 T_api_State p0)]) (p := fun x => state_locks_j1 p0) ?_ ?_
  · rintro ⟨⟩ h
    replace h : Leads _ (state_locks_j1 p0) := h
    unfold state_locks_j1 at h
    show W _ _ _ _ _ _ [(1, .box 0 T_api_State p0)]
    refine W_seq ?_
    obtain ⟨y1, ey1, h⟩ := h.bind
    refine W_region mixed tys_ok (sup := [.fn T_api_Lock .bool (fun x => state_lockUsed x), .res [(0, ⟨0, .bool, y1⟩)]]) (l := [(2, 0)]) (E' := [(2, .v 0 .bool y1)]) (obs := [∀ x y, (fun x => state_lockUsed x) x = some y → ACall prog 141 (unprod T_api_Lock x ++ []) [⟨9, .bool, y⟩], ACall prog 214 [⟨.slice T_api_Lock, p0.2.2.2.1⟩, ⟨.int .i64, (8 : Int)⟩, ⟨.fn T_api_Lock .bool, fun x => state_lockUsed x⟩] [⟨0, .bool, y1⟩]]) (by kernel_rfl) (⟨fun x y e => ACall.flat rfl (state_lockUsed.ok e), state_ends_api_Lock.ok ey1⟩) ?_
    refine W_keep (l := [(2, 0)]) (E' := [(2, .v 0 .bool y1)]) (by kernel_rfl) ?_
    replace h : y1 = r := h
    subst h
    exact W_ret tys_ok hw0 (by kernel_rfl) (by kernel_rfl)
  · intro j1
    refine W_block ?_
    refine W_keep (l := [(1, 0), (8, 0), (9, 0), (10, 0)]) (E' := [(1, .box 0 T_api_State p0), (8, .v 0 (.slice T_api_Lock) p0.2.2.2.1), (9, .v 0 (.int .i64) (p0.2.2.2.1.length : Int)), (10, .v 0 (.int .i64) (0 : Int))]) (by kernel_rfl) ?_
    refine W_loop' (En := fun (x : Int) => [(1, .box 0 T_api_State p0), (8, .v 0 (.slice T_api_Lock) p0.2.2.2.1), (9, .v 0 (.int .i64) (p0.2.2.2.1.length : Int)), (10, .v 0 (.int .i64) x)]) (x := (0 : Int)) h ?_
    rintro x2 K h
    replace h : Leads _ (state_locks_b1 p0 x2) := h
    unfold state_locks_b1 at h
    show W _ _ _ _ _ _ [(1, .box 0 T_api_State p0), (8, .v 0 (.slice T_api_Lock) p0.2.2.2.1), (9, .v 0 (.int .i64) (p0.2.2.2.1.length : Int)), (10, .v 0 (.int .i64) x2)]
    refine W_seq ?_
    refine W_region mixed tys_ok (sup := []) (l := [(1, 0), (8, 0), (9, 0), (10, 0), (11, 0)]) (E' := [(1, .box 0 T_api_State p0), (8, .v 0 (.slice T_api_Lock) p0.2.2.2.1), (9, .v 0 (.int .i64) (p0.2.2.2.1.length : Int)), (10, .v 0 (.int .i64) x2), (11, .v 0 .bool (decide (x2 < (p0.2.2.2.1.length : Int))))]) (obs := []) (by kernel_rfl) (trivial) ?_
    refine W_seq ?_
    refine W_cond (β := decide (x2 < (p0.2.2.2.1.length : Int))) (by kernel_rfl) (fun hb => ?_) (fun hb => ?_)
    · rw [cond_tt hb] at h
      refine W_skip ?_
      refine W_seq ?_
      refine W_join h (Ej := fun (x : Unit) => [(1, .box 0 T_api_State p0), (8, .v 0 (.slice T_api_Lock) p0.2.2.2.1), (9, .v 0 (.int .i64) (p0.2.2.2.1.length : Int)), (10, .v 0 (.int .i64) x2)]) (p := fun x => state_locks_j2 x2) ?_ ?_
      · rintro ⟨⟩ h
        replace h : Leads _ (state_locks_j2 x2) := h
        unfold state_locks_j2 at h
        show W _ _ _ _ _ _ [(1, .box 0 T_api_State p0), (8, .v 0 (.slice T_api_Lock) p0.2.2.2.1), (9, .v 0 (.int .i64) (p0.2.2.2.1.length : Int)), (10, .v 0 (.int .i64) x2)]
        refine W_region mixed tys_ok (sup := []) (l := [(1, 0), (8, 0), (9, 0), (10, 0)]) (E' := [(1, .box 0 T_api_State p0), (8, .v 0 (.slice T_api_Lock) p0.2.2.2.1), (9, .v 0 (.int .i64) (p0.2.2.2.1.length : Int)), (10, .v 0 (.int .i64) (IntKind.i64.wrap (x2 + (1 : Int))))]) (obs := []) (by kernel_rfl) (trivial) ?_
        refine W_gen (x := IntKind.i64.wrap (x2 + (1 : Int))) (En := fun x3 => [(1, .box 0 T_api_State p0), (8, .v 0 (.slice T_api_Lock) p0.2.2.2.1), (9, .v 0 (.int .i64) (p0.2.2.2.1.length : Int)), (10, .v 0 (.int .i64) x3)]) h (fun x3 h => ?_)
        refine W_keep (l := [(1, 0), (8, 0), (9, 0), (10, 0)]) (E' := [(1, .box 0 T_api_State p0), (8, .v 0 (.slice T_api_Lock) p0.2.2.2.1), (9, .v 0 (.int .i64) (p0.2.2.2.1.length : Int)), (10, .v 0 (.int .i64) x3)]) (by kernel_rfl) ?_
        exact W_abs h
      · intro j2
        refine W_block ?_
        refine W_seq ?_
        obtain ⟨o1, h⟩ := h.ass
        refine W_region mixed tys_ok (sup := []) (l := [(1, 0), (3, 0), (4, 9), (8, 0), (9, 0), (10, 0)]) (E' := [(1, .box 0 T_api_State p0), (3, .v 0 (.int .i64) x2), (4, .box 9 T_api_Lock (rd z_api_Lock p0.2.2.2.1 x2)), (8, .v 0 (.slice T_api_Lock) p0.2.2.2.1), (9, .v 0 (.int .i64) (p0.2.2.2.1.length : Int)), (10, .v 0 (.int .i64) x2)]) (obs := [0 ≤ x2 ∧ x2 < (p0.2.2.2.1.length : Int)]) (by kernel_rfl) (o1) ?_
        refine W_gen (x := rd z_api_Lock p0.2.2.2.1 x2) (En := fun x4 => [(1, .box 0 T_api_State p0), (3, .v 0 (.int .i64) x2), (4, .box 9 T_api_Lock x4), (8, .v 0 (.slice T_api_Lock) p0.2.2.2.1), (9, .v 0 (.int .i64) (p0.2.2.2.1.length : Int)), (10, .v 0 (.int .i64) x2)]) h (fun x4 h => ?_)
        refine W_seq ?_
        refine W_seq ?_
        refine W_region mixed tys_ok (sup := []) (l := [(1, 0), (3, 0), (4, 9), (8, 0), (9, 0), (10, 0), (17, 0)]) (E' := [(1, .box 0 T_api_State p0), (3, .v 0 (.int .i64) x2), (4, .box 9 T_api_Lock x4), (8, .v 0 (.slice T_api_Lock) p0.2.2.2.1), (9, .v 0 (.int .i64) (p0.2.2.2.1.length : Int)), (10, .v 0 (.int .i64) x2), (17, .v 0 .bool (!x4.1))]) (obs := []) (by kernel_rfl) (trivial) ?_
        refine W_cond (β := !x4.1) (by kernel_rfl) (fun hb => ?_) (fun hb => ?_)
        · rw [cond_tt hb] at h
          refine W_seq ?_
          refine W_seq ?_
          refine W_region mixed tys_ok (sup := []) (l := [(1, 0), (8, 0), (9, 0), (10, 0), (20, 0)]) (E' := [(1, .box 0 T_api_State p0), (8, .v 0 (.slice T_api_Lock) p0.2.2.2.1), (9, .v 0 (.int .i64) (p0.2.2.2.1.length : Int)), (10, .v 0 (.int .i64) x2), (20, .v 0 .bool (!(Ty.beq T_api_Lock x4 (false, (0 : Int)))))]) (obs := []) (by kernel_rfl) (trivial) ?_
          refine W_cond (β := !(Ty.beq T_api_Lock x4 (false, (0 : Int)))) (by kernel_rfl) (fun hb => ?_) (fun hb => ?_)
          · rw [cond_tt hb] at h
            refine W_seq ?_
            refine W_region mixed tys_ok (sup := []) (l := [(2, 0)]) (E' := [(2, .v 0 .bool false)]) (obs := []) (by kernel_rfl) (trivial) ?_
            refine W_keep (l := [(2, 0)]) (E' := [(2, .v 0 .bool false)]) (by kernel_rfl) ?_
            replace h : false = r := h
            subst h
            exact W_ret tys_ok hw0 (by kernel_rfl) (by kernel_rfl)
          · rw [cond_ff hb] at h
            refine W_skip ?_
            refine W_exit rfl ?_
            refine W_keep (l := [(1, 0), (8, 0), (9, 0), (10, 0)]) (E' := [(1, .box 0 T_api_State p0), (8, .v 0 (.slice T_api_Lock) p0.2.2.2.1), (9, .v 0 (.int .i64) (p0.2.2.2.1.length : Int)), (10, .v 0 (.int .i64) x2)]) (by kernel_rfl) ?_
            exact j2 () h
        · rw [cond_ff hb] at h
          refine W_skip ?_
          refine W_seq ?_
          obtain ⟨y5, ey5, h⟩ := h.bind
          refine W_region mixed tys_ok (sup := [.res [(0, ⟨0, T_api_Thread, y5.1⟩), (0, ⟨0, .bool, y5.2⟩)]]) (l := [(1, 0), (3, 0), (4, 9), (5, 9), (6, 0), (8, 0), (9, 0), (10, 0)]) (E' := [(1, .box 0 T_api_State p0), (3, .v 0 (.int .i64) x2), (4, .box 9 T_api_Lock x4), (5, .box 9 T_api_Thread y5.1), (6, .v 0 .bool y5.2), (8, .v 0 (.slice T_api_Lock) p0.2.2.2.1), (9, .v 0 (.int .i64) (p0.2.2.2.1.length : Int)), (10, .v 0 (.int .i64) x2)]) (obs := [ACall prog 61 [⟨T_api_State, p0⟩, ⟨.int .i64, x4.2⟩] [⟨0, T_api_Thread, y5.1⟩, ⟨0, .bool, y5.2⟩]]) (by kernel_rfl) (state_Thread.ok ey5) ?_
          refine W_seq ?_
          obtain ⟨y6, ey6, h⟩ := h.bind
          refine W_region mixed tys_ok (sup := [.res [(0, ⟨0, .bool, y6⟩)]]) (l := [(1, 0), (8, 0), (9, 0), (10, 0), (55, 0)]) (E' := [(1, .box 0 T_api_State p0), (8, .v 0 (.slice T_api_Lock) p0.2.2.2.1), (9, .v 0 (.int .i64) (p0.2.2.2.1.length : Int)), (10, .v 0 (.int .i64) x2), (55, .v 0 .bool (((x4.2 != (-1 : Int)) && ((!y5.2) || ((y5.1.1 == (6 : Int)) && (y5.1.2.1 == x2)))) || ((x4.2 == (-1 : Int)) && y6)))]) (obs := [((!((x4.2 != (-1 : Int)) && ((!y5.2) || ((y5.1.1 == (6 : Int)) && (y5.1.2.1 == x2))))) && (x4.2 == (-1 : Int))) = true → ACall prog 213 [⟨T_api_State, p0⟩, ⟨.int .i64, x2⟩] [⟨0, .bool, y6⟩]]) (by kernel_rfl) (fun hc => state_awaited.ok (bif_some ey6 hc)) ?_
          refine W_cond (β := ((x4.2 != (-1 : Int)) && ((!y5.2) || ((y5.1.1 == (6 : Int)) && (y5.1.2.1 == x2)))) || ((x4.2 == (-1 : Int)) && y6)) (by kernel_rfl) (fun hb => ?_) (fun hb => ?_)
          · rw [cond_tt hb] at h
            refine W_seq ?_
            refine W_region mixed tys_ok (sup := []) (l := [(2, 0)]) (E' := [(2, .v 0 .bool false)]) (obs := []) (by kernel_rfl) (trivial) ?_
            refine W_keep (l := [(2, 0)]) (E' := [(2, .v 0 .bool false)]) (by kernel_rfl) ?_
            replace h : false = r := h
            subst h
            exact W_ret tys_ok hw0 (by kernel_rfl) (by kernel_rfl)
          · rw [cond_ff hb] at h
            refine W_skip ?_
            refine W_blk ?_
            refine W_keep (l := [(1, 0), (8, 0), (9, 0), (10, 0)]) (E' := [(1, .box 0 T_api_State p0), (8, .v 0 (.slice T_api_Lock) p0.2.2.2.1), (9, .v 0 (.int .i64) (p0.2.2.2.1.length : Int)), (10, .v 0 (.int .i64) x2)]) (by kernel_rfl) ?_
            exact j2 () h
    · rw [cond_ff hb] at h
      refine W_exit rfl ?_
      refine W_keep (l := [(1, 0)]) (E' := [(1, .box 0 T_api_State p0)]) (by kernel_rfl) ?_
      exact j1 () h.back

noncomputable def state_queues (p0 : D_api_State) (p1 : Int) : Option Bool :=
  (state_Thread p0 p1).bind fun y1 =>
  bif !y1.2 then
    some false
  else
    bif y1.1.1 == (6 : Int) then
      some true
    else
      bif y1.1.1 != (4 : Int) then
        some false
      else
        (state_Thread p0 y1.1.2.1).bind fun y2 =>
        bnd ((!y2.2) || (y2.1.2.2.1 != p1)) fun x3 =>
        some x3
theorem state_queues.ok {p0 : D_api_State} {p1 : Int} {r : Bool} (h : state_queues p0 p1 = some r) : ACall prog 215 [⟨T_api_State, p0⟩, ⟨.int .i64, p1⟩] [⟨0, .bool, r⟩] := by
  replace h := Leads.of h
  unfold state_queues at h
  refine acall_of func215 (by kernel_rfl) rfl (by kernel_rfl) fun w0 F0 hw0 => ?_
  refine W_seq ?_
  refine W_region mixed tys_ok (sup := []) (l := [(1, 0), (2, 0)]) (E' := [(1, .v 0 (.int .i64) p1), (2, .box 0 T_api_State p0)]) (obs := []) (by kernel_rfl) (trivial) ?_
  refine W_seq ?_
  obtain ⟨y1, ey1, h⟩ := h.bind
  refine W_region mixed tys_ok (sup := [.res [(0, ⟨0, T_api_Thread, y1.1⟩), (0, ⟨0, .bool, y1.2⟩)]]) (l := [(1, 0), (2, 0), (5, 9), (6, 0)]) (E' := [(1, .v 0 (.int .i64) p1), (2, .box 0 T_api_State p0), (5, .box 9 T_api_Thread y1.1), (6, .v 0 .bool y1.2)]) (obs := [ACall prog 61 [⟨T_api_State, p0⟩, ⟨.int .i64, p1⟩] [⟨0, T_api_Thread, y1.1⟩, ⟨0, .bool, y1.2⟩]]) (by kernel_rfl) (state_Thread.ok ey1) ?_
  refine W_seq ?_
  refine W_block ?_
  refine W_seq ?_
  refine W_region mixed tys_ok (sup := []) (l := [(1, 0), (2, 0), (5, 9), (14, 0)]) (E' := [(1, .v 0 (.int .i64) p1), (2, .box 0 T_api_State p0), (5, .box 9 T_api_Thread y1.1), (14, .v 0 .bool (!y1.2))]) (obs := []) (by kernel_rfl) (trivial) ?_
  refine W_cond (β := !y1.2) (by kernel_rfl) (fun hb => ?_) (fun hb => ?_)
  · rw [cond_tt hb] at h
    refine W_seq ?_
    refine W_region mixed tys_ok (sup := []) (l := [(4, 0)]) (E' := [(4, .v 0 .bool false)]) (obs := []) (by kernel_rfl) (trivial) ?_
    refine W_keep (l := [(4, 0)]) (E' := [(4, .v 0 .bool false)]) (by kernel_rfl) ?_
    replace h : false = r := h
    subst h
    exact W_ret tys_ok hw0 (by kernel_rfl) (by kernel_rfl)
  · rw [cond_ff hb] at h
    refine W_seq ?_
    refine W_region mixed tys_ok (sup := []) (l := [(1, 0), (2, 0), (5, 9), (17, 0)]) (E' := [(1, .v 0 (.int .i64) p1), (2, .box 0 T_api_State p0), (5, .box 9 T_api_Thread y1.1), (17, .v 0 .bool (y1.1.1 == (6 : Int)))]) (obs := []) (by kernel_rfl) (trivial) ?_
    refine W_cond (β := y1.1.1 == (6 : Int)) (by kernel_rfl) (fun hb => ?_) (fun hb => ?_)
    · rw [cond_tt hb] at h
      refine W_seq ?_
      refine W_region mixed tys_ok (sup := []) (l := [(4, 0)]) (E' := [(4, .v 0 .bool true)]) (obs := []) (by kernel_rfl) (trivial) ?_
      refine W_keep (l := [(4, 0)]) (E' := [(4, .v 0 .bool true)]) (by kernel_rfl) ?_
      replace h : true = r := h
      subst h
      exact W_ret tys_ok hw0 (by kernel_rfl) (by kernel_rfl)
    · rw [cond_ff hb] at h
      refine W_seq ?_
      refine W_region mixed tys_ok (sup := []) (l := [(1, 0), (2, 0), (5, 9), (21, 0)]) (E' := [(1, .v 0 (.int .i64) p1), (2, .box 0 T_api_State p0), (5, .box 9 T_api_Thread y1.1), (21, .v 0 .bool (y1.1.1 != (4 : Int)))]) (obs := []) (by kernel_rfl) (trivial) ?_
      refine W_cond (β := y1.1.1 != (4 : Int)) (by kernel_rfl) (fun hb => ?_) (fun hb => ?_)
      · rw [cond_tt hb] at h
        refine W_seq ?_
        refine W_region mixed tys_ok (sup := []) (l := [(4, 0)]) (E' := [(4, .v 0 .bool false)]) (obs := []) (by kernel_rfl) (trivial) ?_
        refine W_keep (l := [(4, 0)]) (E' := [(4, .v 0 .bool false)]) (by kernel_rfl) ?_
        replace h : false = r := h
        subst h
        exact W_ret tys_ok hw0 (by kernel_rfl) (by kernel_rfl)
      · rw [cond_ff hb] at h
        refine W_skip ?_
        refine W_blk ?_
        refine W_seq ?_
        obtain ⟨y2, ey2, h⟩ := h.bind
        refine W_region mixed tys_ok (sup := [.res [(0, ⟨0, T_api_Thread, y2.1⟩), (0, ⟨0, .bool, y2.2⟩)]]) (l := [(1, 0), (6, 0), (7, 9)]) (E' := [(1, .v 0 (.int .i64) p1), (6, .v 0 .bool y2.2), (7, .box 9 T_api_Thread y2.1)]) (obs := [ACall prog 61 [⟨T_api_State, p0⟩, ⟨.int .i64, y1.1.2.1⟩] [⟨0, T_api_Thread, y2.1⟩, ⟨0, .bool, y2.2⟩]]) (by kernel_rfl) (state_Thread.ok ey2) ?_
        refine W_seq ?_
        refine W_region mixed tys_ok (sup := []) (l := [(4, 0)]) (E' := [(4, .v 0 .bool ((!y2.2) || (y2.1.2.2.1 != p1)))]) (obs := []) (by kernel_rfl) (trivial) ?_
        refine W_gen (x := (!y2.2) || (y2.1.2.2.1 != p1)) (En := fun x3 => [(4, .v 0 .bool x3)]) h (fun x3 h => ?_)
        refine W_keep (l := [(4, 0)]) (E' := [(4, .v 0 .bool x3)]) (by kernel_rfl) ?_
        replace h : x3 = r := h
        subst h
        exact W_ret tys_ok hw0 (by kernel_rfl) (by kernel_rfl)

noncomputable def state_queue_j2 : Option (Bool) :=
  some true
noncomputable def state_queue_b1 (p0 : D_api_State) (x2 : List Bool) (x3 : Int) : Option (Int ⊕ Bool) :=
  bif decide (x3 < (p0.2.2.1.length : Int)) then
    (state_queues p0 x3).bind fun y4 =>
    ass (y4 = true → 0 ≤ x3 ∧ x3 < (x2.length : Int)) <|
    bif y4 && (!(rd false x2 x3)) then
      some (.inr false)
    else
      bnd (IntKind.i64.wrap (x3 + (1 : Int))) fun x5 =>
      some (.inl x5)
  else
    (state_queue_j2).map .inr
noncomputable def state_queue_j1 (p0 : D_api_State) (x2 : List Bool) : Option (Bool) :=
  loopM (fun x : Int => state_queue_b1 p0 x2 x) (0 : Int)
noncomputable def state_queue_b2 (p0 : D_api_State) (x6 : List Bool) (x7 : Int) : Option (((List Bool) × Int) ⊕ Bool) :=
  bif decide (x7 < (p0.2.2.2.2.1.length : Int)) then
    ass (0 ≤ x7 ∧ x7 < (p0.2.2.2.2.1.length : Int)) <|
    bnd (rd (0 : Int) p0.2.2.2.2.1 x7) fun x8 =>
    (state_queues p0 x8).bind fun y9 =>
    ass ((!(!y9)) = true → 0 ≤ x8 ∧ x8 < (x6.length : Int)) <|
    bif (!y9) || (rd false x6 x8) then
      some (.inr false)
    else
      ass (0 ≤ x8 ∧ x8 < (x6.length : Int)) <|
      bnd (wr x6 x8 true) fun x10 =>
      ass (0 ≤ x8 ∧ x8 < (p0.2.2.1.length : Int)) <|
      bnd (rd z_api_Thread p0.2.2.1 x8) fun x11 =>
      (state_Thread p0 x11.2.1).bind fun y12 =>
      bif (x11.1 == (4 : Int)) && (y12.1.1 == (5 : Int)) then
        some (.inr false)
      else
        bnd (IntKind.i64.wrap (x7 + (1 : Int))) fun x13 =>
        some (.inl (x10, x13))
  else
    (state_queue_j1 p0 x6).map .inr
noncomputable def state_queue (p0 : D_api_State) : Option Bool :=
  ass (0 ≤ (p0.2.2.1.length : Int) ∧ (p0.2.2.1.length : Int) ≤ (p0.2.2.1.length : Int) ∧ (p0.2.2.1.length : Int) ≤ lim) <|
  bnd (List.replicate (p0.2.2.1.length : Int).toNat false) fun x1 =>
  loopM (fun x : (List Bool) × Int => state_queue_b2 p0 x.1 x.2) (x1, (0 : Int))
theorem state_queue.ok {p0 : D_api_State} {r : Bool} (h : state_queue p0 = some r) : ACall prog 122 [⟨T_api_State, p0⟩] [⟨0, .bool, r⟩] := by
  replace h := Leads.of h
  unfold state_queue at h
  refine acall_of func122 (by kernel_rfl) rfl (by kernel_rfl) fun w0 F0 hw0 => ?_
  refine W_seq ?_
  refine W_region mixed tys_ok (sup := []) (l := [(1, 0)]) (E' := [(1, .box 0 T_api_State p0)]) (obs := []) (by kernel_rfl) (trivial) ?_
  refine W_seq ?_
  obtain ⟨o1, h⟩ := h.ass
  refine W_region mixed tys_ok (sup := []) (l := [(1, 0), (3, 9)]) (E' := [(1, .box 0 T_api_State p0), (3, .v 9 (.slice .bool) (List.replicate (p0.2.2.1.length : Int).toNat false))]) (obs := [0 ≤ (p0.2.2.1.length : Int) ∧ (p0.2.2.1.length : Int) ≤ (p0.2.2.1.length : Int) ∧ (p0.2.2.1.length : Int) ≤ lim]) (by kernel_rfl) (o1) ?_
  refine W_gen (x := List.replicate (p0.2.2.1.length : Int).toNat false) (En := fun x1 => [(1, .box 0 T_api_State p0), (3, .v 9 (.slice .bool) x1)]) h (fun x1 h => ?_)
  refine W_seq ?_
  refine W_seq ?_
  refine W_region mixed tys_ok (sup := []) (l := [(1, 0), (3, 9), (15, 0), (16, 0), (17, 0)]) (E' := [(1, .box 0 T_api_State p0), (3, .v 9 (.slice .bool) x1), (15, .v 0 (.slice (.int .i64)) p0.2.2.2.2.1), (16, .v 0 (.int .i64) (p0.2.2.2.2.1.length : Int)), (17, .v 0 (.int .i64) (0 : Int))]) (obs := []) (by kernel_rfl) (trivial) ?_
  refine W_join h (Ej := fun (x : List Bool) => [(1, .box 0 T_api_State p0), (3, .v 9 (.slice .bool) x)]) (p := fun x => state_queue_j1 p0 x) ?_ ?_
  · rintro x2 h
    replace h : Leads _ (state_queue_j1 p0 x2) := h
    unfold state_queue_j1 at h
    show W _ _ _ _ _ _ [(1, .box 0 T_api_State p0), (3, .v 9 (.slice .bool) x2)]
    refine W_seq ?_
    refine W_seq ?_
    refine W_region mixed tys_ok (sup := []) (l := [(1, 0), (3, 9), (57, 0), (58, 0)]) (E' := [(1, .box 0 T_api_State p0), (3, .v 9 (.slice .bool) x2), (57, .v 0 (.int .i64) (p0.2.2.1.length : Int)), (58, .v 0 (.int .i64) (0 : Int))]) (obs := []) (by kernel_rfl) (trivial) ?_
    refine W_join h (Ej := fun (x : Unit) => []) (p := fun x => state_queue_j2) ?_ ?_
    · rintro ⟨⟩ h
      replace h : Leads _ (state_queue_j2) := h
      unfold state_queue_j2 at h
      show W _ _ _ _ _ _ []
      refine W_seq ?_
      refine W_region mixed tys_ok (sup := []) (l := [(2, 0)]) (E' := [(2, .v 0 .bool true)]) (obs := []) (by kernel_rfl) (trivial) ?_
      refine W_keep (l := [(2, 0)]) (E' := [(2, .v 0 .bool true)]) (by kernel_rfl) ?_
      replace h : true = r := h
      subst h
      exact W_ret tys_ok hw0 (by kernel_rfl) (by kernel_rfl)
    · intro j2
      refine W_block ?_
      refine W_keep (l := [(1, 0), (3, 9), (57, 0), (58, 0)]) (E' := [(1, .box 0 T_api_State p0), (3, .v 9 (.slice .bool) x2), (57, .v 0 (.int .i64) (p0.2.2.1.length : Int)), (58, .v 0 (.int .i64) (0 : Int))]) (by kernel_rfl) ?_
      refine W_loop' (En := fun (x : Int) => [(1, .box 0 T_api_State p0), (3, .v 9 (.slice .bool) x2), (57, .v 0 (.int .i64) (p0.2.2.1.length : Int)), (58, .v 0 (.int .i64) x)]) (x := (0 : Int)) h ?_
      rintro x3 K h
      replace h : Leads _ (state_queue_b1 p0 x2 x3) := h
      unfold state_queue_b1 at h
      show W _ _ _ _ _ _ [(1, .box 0 T_api_State p0), (3, .v 9 (.slice .bool) x2), (57, .v 0 (.int .i64) (p0.2.2.1.length : Int)), (58, .v 0 (.int .i64) x3)]
      refine W_seq ?_
      refine W_region mixed tys_ok (sup := []) (l := [(1, 0), (3, 9), (57, 0), (58, 0), (59, 0)]) (E' := [(1, .box 0 T_api_State p0), (3, .v 9 (.slice .bool) x2), (57, .v 0 (.int .i64) (p0.2.2.1.length : Int)), (58, .v 0 (.int .i64) x3), (59, .v 0 .bool (decide (x3 < (p0.2.2.1.length : Int))))]) (obs := []) (by kernel_rfl) (trivial) ?_
      refine W_seq ?_
      refine W_cond (β := decide (x3 < (p0.2.2.1.length : Int))) (by kernel_rfl) (fun hb => ?_) (fun hb => ?_)
      · rw [cond_tt hb] at h
        refine W_skip ?_
        refine W_seq ?_
        refine W_block ?_
        refine W_seq ?_
        refine W_region mixed tys_ok (sup := []) (l := [(1, 0), (3, 9), (9, 0), (57, 0), (58, 0)]) (E' := [(1, .box 0 T_api_State p0), (3, .v 9 (.slice .bool) x2), (9, .v 0 (.int .i64) x3), (57, .v 0 (.int .i64) (p0.2.2.1.length : Int)), (58, .v 0 (.int .i64) x3)]) (obs := []) (by kernel_rfl) (trivial) ?_
        refine W_seq ?_
        obtain ⟨y4, ey4, h⟩ := h.bind
        obtain ⟨o1, h⟩ := h.ass
        refine W_region mixed tys_ok (sup := [.res [(0, ⟨0, .bool, y4⟩)]]) (l := [(1, 0), (3, 9), (57, 0), (58, 0), (70, 0)]) (E' := [(1, .box 0 T_api_State p0), (3, .v 9 (.slice .bool) x2), (57, .v 0 (.int .i64) (p0.2.2.1.length : Int)), (58, .v 0 (.int .i64) x3), (70, .v 0 .bool (y4 && (!(rd false x2 x3))))]) (obs := [ACall prog 215 [⟨T_api_State, p0⟩, ⟨.int .i64, x3⟩] [⟨0, .bool, y4⟩], y4 = true → 0 ≤ x3 ∧ x3 < (x2.length : Int)]) (by kernel_rfl) (⟨state_queues.ok ey4, o1⟩) ?_
        refine W_cond (β := y4 && (!(rd false x2 x3))) (by kernel_rfl) (fun hb => ?_) (fun hb => ?_)
        · rw [cond_tt hb] at h
          refine W_seq ?_
          refine W_region mixed tys_ok (sup := []) (l := [(2, 0)]) (E' := [(2, .v 0 .bool false)]) (obs := []) (by kernel_rfl) (trivial) ?_
          refine W_keep (l := [(2, 0)]) (E' := [(2, .v 0 .bool false)]) (by kernel_rfl) ?_
          replace h : false = r := h
          subst h
          exact W_ret tys_ok hw0 (by kernel_rfl) (by kernel_rfl)
        · rw [cond_ff hb] at h
          refine W_skip ?_
          refine W_blk ?_
          refine W_region mixed tys_ok (sup := []) (l := [(1, 0), (3, 9), (57, 0), (58, 0)]) (E' := [(1, .box 0 T_api_State p0), (3, .v 9 (.slice .bool) x2), (57, .v 0 (.int .i64) (p0.2.2.1.length : Int)), (58, .v 0 (.int .i64) (IntKind.i64.wrap (x3 + (1 : Int))))]) (obs := []) (by kernel_rfl) (trivial) ?_
          refine W_gen (x := IntKind.i64.wrap (x3 + (1 : Int))) (En := fun x5 => [(1, .box 0 T_api_State p0), (3, .v 9 (.slice .bool) x2), (57, .v 0 (.int .i64) (p0.2.2.1.length : Int)), (58, .v 0 (.int .i64) x5)]) h (fun x5 h => ?_)
          refine W_keep (l := [(1, 0), (3, 9), (57, 0), (58, 0)]) (E' := [(1, .box 0 T_api_State p0), (3, .v 9 (.slice .bool) x2), (57, .v 0 (.int .i64) (p0.2.2.1.length : Int)), (58, .v 0 (.int .i64) x5)]) (by kernel_rfl) ?_
          exact W_abs h
      · rw [cond_ff hb] at h
        refine W_exit rfl ?_
        refine W_keep (l := []) (E' := []) (by kernel_rfl) ?_
        exact j2 () h.back
  · intro j1
    refine W_block ?_
    refine W_keep (l := [(1, 0), (3, 9), (15, 0), (16, 0), (17, 0)]) (E' := [(1, .box 0 T_api_State p0), (3, .v 9 (.slice .bool) x1), (15, .v 0 (.slice (.int .i64)) p0.2.2.2.2.1), (16, .v 0 (.int .i64) (p0.2.2.2.2.1.length : Int)), (17, .v 0 (.int .i64) (0 : Int))]) (by kernel_rfl) ?_
    refine W_loop' (En := fun (x : (List Bool) × Int) => [(1, .box 0 T_api_State p0), (3, .v 9 (.slice .bool) x.1), (15, .v 0 (.slice (.int .i64)) p0.2.2.2.2.1), (16, .v 0 (.int .i64) (p0.2.2.2.2.1.length : Int)), (17, .v 0 (.int .i64) x.2)]) (x := (x1, (0 : Int))) h ?_
    rintro ⟨x6, x7⟩ K h
    replace h : Leads _ (state_queue_b2 p0 x6 x7) := h
    unfold state_queue_b2 at h
    show W _ _ _ _ _ _ [(1, .box 0 T_api_State p0), (3, .v 9 (.slice .bool) x6), (15, .v 0 (.slice (.int .i64)) p0.2.2.2.2.1), (16, .v 0 (.int .i64) (p0.2.2.2.2.1.length : Int)), (17, .v 0 (.int .i64) x7)]
    refine W_seq ?_
    refine W_region mixed tys_ok (sup := []) (l := [(1, 0), (3, 9), (15, 0), (16, 0), (17, 0), (18, 0)]) (E' := [(1, .box 0 T_api_State p0), (3, .v 9 (.slice .bool) x6), (15, .v 0 (.slice (.int .i64)) p0.2.2.2.2.1), (16, .v 0 (.int .i64) (p0.2.2.2.2.1.length : Int)), (17, .v 0 (.int .i64) x7), (18, .v 0 .bool (decide (x7 < (p0.2.2.2.2.1.length : Int))))]) (obs := []) (by kernel_rfl) (trivial) ?_
    refine W_seq ?_
    refine W_cond (β := decide (x7 < (p0.2.2.2.2.1.length : Int))) (by kernel_rfl) (fun hb => ?_) (fun hb => ?_)
    · rw [cond_tt hb] at h
      refine W_skip ?_
      refine W_seq ?_
      refine W_block ?_
      refine W_seq ?_
      obtain ⟨o1, h⟩ := h.ass
      refine W_region mixed tys_ok (sup := []) (l := [(1, 0), (3, 9), (5, 0), (15, 0), (16, 0), (17, 0)]) (E' := [(1, .box 0 T_api_State p0), (3, .v 9 (.slice .bool) x6), (5, .v 0 (.int .i64) (rd (0 : Int) p0.2.2.2.2.1 x7)), (15, .v 0 (.slice (.int .i64)) p0.2.2.2.2.1), (16, .v 0 (.int .i64) (p0.2.2.2.2.1.length : Int)), (17, .v 0 (.int .i64) x7)]) (obs := [0 ≤ x7 ∧ x7 < (p0.2.2.2.2.1.length : Int)]) (by kernel_rfl) (o1) ?_
      refine W_gen (x := rd (0 : Int) p0.2.2.2.2.1 x7) (En := fun x8 => [(1, .box 0 T_api_State p0), (3, .v 9 (.slice .bool) x6), (5, .v 0 (.int .i64) x8), (15, .v 0 (.slice (.int .i64)) p0.2.2.2.2.1), (16, .v 0 (.int .i64) (p0.2.2.2.2.1.length : Int)), (17, .v 0 (.int .i64) x7)]) h (fun x8 h => ?_)
      refine W_seq ?_
      refine W_seq ?_
      obtain ⟨y9, ey9, h⟩ := h.bind
      obtain ⟨o1, h⟩ := h.ass
      refine W_region mixed tys_ok (sup := [.res [(0, ⟨0, .bool, y9⟩)]]) (l := [(1, 0), (3, 9), (5, 0), (15, 0), (16, 0), (17, 0), (30, 0)]) (E' := [(1, .box 0 T_api_State p0), (3, .v 9 (.slice .bool) x6), (5, .v 0 (.int .i64) x8), (15, .v 0 (.slice (.int .i64)) p0.2.2.2.2.1), (16, .v 0 (.int .i64) (p0.2.2.2.2.1.length : Int)), (17, .v 0 (.int .i64) x7), (30, .v 0 .bool ((!y9) || (rd false x6 x8)))]) (obs := [ACall prog 215 [⟨T_api_State, p0⟩, ⟨.int .i64, x8⟩] [⟨0, .bool, y9⟩], (!(!y9)) = true → 0 ≤ x8 ∧ x8 < (x6.length : Int)]) (by kernel_rfl) (⟨state_queues.ok ey9, o1⟩) ?_
      refine W_cond (β := (!y9) || (rd false x6 x8)) (by kernel_rfl) (fun hb => ?_) (fun hb => ?_)
      · rw [cond_tt hb] at h
        refine W_seq ?_
        refine W_region mixed tys_ok (sup := []) (l := [(2, 0)]) (E' := [(2, .v 0 .bool false)]) (obs := []) (by kernel_rfl) (trivial) ?_
        refine W_keep (l := [(2, 0)]) (E' := [(2, .v 0 .bool false)]) (by kernel_rfl) ?_
        replace h : false = r := h
        subst h
        exact W_ret tys_ok hw0 (by kernel_rfl) (by kernel_rfl)
      · rw [cond_ff hb] at h
        refine W_skip ?_
        refine W_seq ?_
        obtain ⟨o1, h⟩ := h.ass
        refine W_region mixed tys_ok (sup := []) (l := [(1, 0), (3, 9), (5, 0), (15, 0), (16, 0), (17, 0)]) (E' := [(1, .box 0 T_api_State p0), (3, .v 9 (.slice .bool) (wr x6 x8 true)), (5, .v 0 (.int .i64) x8), (15, .v 0 (.slice (.int .i64)) p0.2.2.2.2.1), (16, .v 0 (.int .i64) (p0.2.2.2.2.1.length : Int)), (17, .v 0 (.int .i64) x7)]) (obs := [0 ≤ x8 ∧ x8 < (x6.length : Int)]) (by kernel_rfl) (o1) ?_
        refine W_gen (x := wr x6 x8 true) (En := fun x10 => [(1, .box 0 T_api_State p0), (3, .v 9 (.slice .bool) x10), (5, .v 0 (.int .i64) x8), (15, .v 0 (.slice (.int .i64)) p0.2.2.2.2.1), (16, .v 0 (.int .i64) (p0.2.2.2.2.1.length : Int)), (17, .v 0 (.int .i64) x7)]) h (fun x10 h => ?_)
        refine W_seq ?_
        obtain ⟨o1, h⟩ := h.ass
        refine W_region mixed tys_ok (sup := []) (l := [(1, 0), (3, 9), (6, 9), (15, 0), (16, 0), (17, 0)]) (E' := [(1, .box 0 T_api_State p0), (3, .v 9 (.slice .bool) x10), (6, .box 9 T_api_Thread (rd z_api_Thread p0.2.2.1 x8)), (15, .v 0 (.slice (.int .i64)) p0.2.2.2.2.1), (16, .v 0 (.int .i64) (p0.2.2.2.2.1.length : Int)), (17, .v 0 (.int .i64) x7)]) (obs := [0 ≤ x8 ∧ x8 < (p0.2.2.1.length : Int)]) (by kernel_rfl) (o1) ?_
        refine W_gen (x := rd z_api_Thread p0.2.2.1 x8) (En := fun x11 => [(1, .box 0 T_api_State p0), (3, .v 9 (.slice .bool) x10), (6, .box 9 T_api_Thread x11), (15, .v 0 (.slice (.int .i64)) p0.2.2.2.2.1), (16, .v 0 (.int .i64) (p0.2.2.2.2.1.length : Int)), (17, .v 0 (.int .i64) x7)]) h (fun x11 h => ?_)
        refine W_seq ?_
        obtain ⟨y12, ey12, h⟩ := h.bind
        refine W_region mixed tys_ok (sup := [.res [(0, ⟨0, T_api_Thread, y12.1⟩), (0, ⟨0, .bool, y12.2⟩)]]) (l := [(1, 0), (3, 9), (6, 9), (7, 9), (15, 0), (16, 0), (17, 0)]) (E' := [(1, .box 0 T_api_State p0), (3, .v 9 (.slice .bool) x10), (6, .box 9 T_api_Thread x11), (7, .box 9 T_api_Thread y12.1), (15, .v 0 (.slice (.int .i64)) p0.2.2.2.2.1), (16, .v 0 (.int .i64) (p0.2.2.2.2.1.length : Int)), (17, .v 0 (.int .i64) x7)]) (obs := [ACall prog 61 [⟨T_api_State, p0⟩, ⟨.int .i64, x11.2.1⟩] [⟨0, T_api_Thread, y12.1⟩, ⟨0, .bool, y12.2⟩]]) (by kernel_rfl) (state_Thread.ok ey12) ?_
        refine W_seq ?_
        refine W_region mixed tys_ok (sup := []) (l := [(1, 0), (3, 9), (15, 0), (16, 0), (17, 0), (53, 0)]) (E' := [(1, .box 0 T_api_State p0), (3, .v 9 (.slice .bool) x10), (15, .v 0 (.slice (.int .i64)) p0.2.2.2.2.1), (16, .v 0 (.int .i64) (p0.2.2.2.2.1.length : Int)), (17, .v 0 (.int .i64) x7), (53, .v 0 .bool ((x11.1 == (4 : Int)) && (y12.1.1 == (5 : Int))))]) (obs := []) (by kernel_rfl) (trivial) ?_
        refine W_cond (β := (x11.1 == (4 : Int)) && (y12.1.1 == (5 : Int))) (by kernel_rfl) (fun hb => ?_) (fun hb => ?_)
        · rw [cond_tt hb] at h
          refine W_seq ?_
          refine W_region mixed tys_ok (sup := []) (l := [(2, 0)]) (E' := [(2, .v 0 .bool false)]) (obs := []) (by kernel_rfl) (trivial) ?_
          refine W_keep (l := [(2, 0)]) (E' := [(2, .v 0 .bool false)]) (by kernel_rfl) ?_
          replace h : false = r := h
          subst h
          exact W_ret tys_ok hw0 (by kernel_rfl) (by kernel_rfl)
        · rw [cond_ff hb] at h
          refine W_skip ?_
          refine W_blk ?_
          refine W_region mixed tys_ok (sup := []) (l := [(1, 0), (3, 9), (15, 0), (16, 0), (17, 0)]) (E' := [(1, .box 0 T_api_State p0), (3, .v 9 (.slice .bool) x10), (15, .v 0 (.slice (.int .i64)) p0.2.2.2.2.1), (16, .v 0 (.int .i64) (p0.2.2.2.2.1.length : Int)), (17, .v 0 (.int .i64) (IntKind.i64.wrap (x7 + (1 : Int))))]) (obs := []) (by kernel_rfl) (trivial) ?_
          refine W_gen (x := IntKind.i64.wrap (x7 + (1 : Int))) (En := fun x13 => [(1, .box 0 T_api_State p0), (3, .v 9 (.slice .bool) x10), (15, .v 0 (.slice (.int .i64)) p0.2.2.2.2.1), (16, .v 0 (.int .i64) (p0.2.2.2.2.1.length : Int)), (17, .v 0 (.int .i64) x13)]) h (fun x13 h => ?_)
          refine W_keep (l := [(1, 0), (3, 9), (15, 0), (16, 0), (17, 0)]) (E' := [(1, .box 0 T_api_State p0), (3, .v 9 (.slice .bool) x10), (15, .v 0 (.slice (.int .i64)) p0.2.2.2.2.1), (16, .v 0 (.int .i64) (p0.2.2.2.2.1.length : Int)), (17, .v 0 (.int .i64) x13)]) (by kernel_rfl) ?_
          exact W_abs h
    · rw [cond_ff hb] at h
      refine W_exit rfl ?_
      refine W_keep (l := [(1, 0), (3, 9)]) (E' := [(1, .box 0 T_api_State p0), (3, .v 9 (.slice .bool) x6)]) (by kernel_rfl) ?_
      exact j1 x6 h.back

noncomputable def state_CoinArrows_j1 (x1 : List D_dag_Arrow) : Option (List D_dag_Arrow) :=
  some x1
noncomputable def state_CoinArrows_j2 (x3 : Int) (x5 : List D_dag_Arrow) : Option (((List D_dag_Arrow) × Int) ⊕ (List D_dag_Arrow)) :=
  bnd (IntKind.i64.wrap (x3 + (1 : Int))) fun x6 =>
  some (.inl (x5, x6))
noncomputable def state_CoinArrows_b1 (p0 : D_api_State) (x2 : List D_dag_Arrow) (x3 : Int) : Option (((List D_dag_Arrow) × Int) ⊕ (List D_dag_Arrow)) :=
  bif decide (x3 < (p0.2.1.length : Int)) then
    ass (0 ≤ x3 ∧ x3 < (p0.2.1.length : Int)) <|
    bnd (rd z_api_Ticket p0.2.1 x3) fun x4 =>
    bif x4.1 && (x4.2.2.2.1 == (2 : Int)) then
      ass (((x2.length + [(x4.2.1, x4.2.2.2.2.1)].length : Nat) : Int) ≤ limA) <|
      bnd (x2 ++ [(x4.2.1, x4.2.2.2.2.1)]) fun x7 =>
      state_CoinArrows_j2 x3 x7
    else
      state_CoinArrows_j2 x3 x2
  else
    (state_CoinArrows_j1 x2).map .inr
noncomputable def state_CoinArrows (p0 : D_api_State) : Option (List D_dag_Arrow) :=
  loopM (fun x : (List D_dag_Arrow) × Int => state_CoinArrows_b1 p0 x.1 x.2) (([] : List D_dag_Arrow), (0 : Int))
theorem state_CoinArrows.ok {p0 : D_api_State} {r : List D_dag_Arrow} (h : state_CoinArrows p0 = some r) : ACall prog 48 [⟨T_api_State, p0⟩] [⟨9, .slice T_dag_Arrow, r⟩] := by
  replace h := Leads.of h
  unfold state_CoinArrows at h
  refine acall_of func48 (by kernel_rfl) rfl (by kernel_rfl) fun w0 F0 hw0 => ?_
  refine W_seq ?_
  refine W_region mixed tys_ok (sup := []) (l := [(1, 0), (2, 9)]) (E' := [(1, .box 0 T_api_State p0), (2, .v 9 (.slice T_dag_Arrow) ([] : List D_dag_Arrow))]) (obs := []) (by kernel_rfl) (trivial) ?_
  refine W_seq ?_
  refine W_seq ?_
  refine W_region mixed tys_ok (sup := []) (l := [(2, 9), (6, 0), (7, 0), (8, 0)]) (E' := [(2, .v 9 (.slice T_dag_Arrow) ([] : List D_dag_Arrow)), (6, .v 0 (.slice T_api_Ticket) p0.2.1), (7, .v 0 (.int .i64) (p0.2.1.length : Int)), (8, .v 0 (.int .i64) (0 : Int))]) (obs := []) (by kernel_rfl) (trivial) ?_
  refine W_join h (Ej := fun (x : List D_dag_Arrow) => [(2, .v 9 (.slice T_dag_Arrow) x)]) (p := fun x => state_CoinArrows_j1 x) ?_ ?_
  · rintro x1 h
    replace h : Leads _ (state_CoinArrows_j1 x1) := h
    unfold state_CoinArrows_j1 at h
    show W _ _ _ _ _ _ [(2, .v 9 (.slice T_dag_Arrow) x1)]
    refine W_seq ?_
    refine W_region mixed tys_ok (sup := []) (l := [(2, 9)]) (E' := [(2, .v 9 (.slice T_dag_Arrow) x1)]) (obs := []) (by kernel_rfl) (trivial) ?_
    refine W_keep (l := [(2, 9)]) (E' := [(2, .v 9 (.slice T_dag_Arrow) x1)]) (by kernel_rfl) ?_
    replace h : x1 = r := h
    subst h
    exact W_ret tys_ok hw0 (by kernel_rfl) (by kernel_rfl)
  · intro j1
    refine W_block ?_
    refine W_keep (l := [(2, 9), (6, 0), (7, 0), (8, 0)]) (E' := [(2, .v 9 (.slice T_dag_Arrow) ([] : List D_dag_Arrow)), (6, .v 0 (.slice T_api_Ticket) p0.2.1), (7, .v 0 (.int .i64) (p0.2.1.length : Int)), (8, .v 0 (.int .i64) (0 : Int))]) (by kernel_rfl) ?_
    refine W_loop' (En := fun (x : (List D_dag_Arrow) × Int) => [(2, .v 9 (.slice T_dag_Arrow) x.1), (6, .v 0 (.slice T_api_Ticket) p0.2.1), (7, .v 0 (.int .i64) (p0.2.1.length : Int)), (8, .v 0 (.int .i64) x.2)]) (x := (([] : List D_dag_Arrow), (0 : Int))) h ?_
    rintro ⟨x2, x3⟩ K h
    replace h : Leads _ (state_CoinArrows_b1 p0 x2 x3) := h
    unfold state_CoinArrows_b1 at h
    show W _ _ _ _ _ _ [(2, .v 9 (.slice T_dag_Arrow) x2), (6, .v 0 (.slice T_api_Ticket) p0.2.1), (7, .v 0 (.int .i64) (p0.2.1.length : Int)), (8, .v 0 (.int .i64) x3)]
    refine W_seq ?_
    refine W_region mixed tys_ok (sup := []) (l := [(2, 9), (6, 0), (7, 0), (8, 0), (9, 0)]) (E' := [(2, .v 9 (.slice T_dag_Arrow) x2), (6, .v 0 (.slice T_api_Ticket) p0.2.1), (7, .v 0 (.int .i64) (p0.2.1.length : Int)), (8, .v 0 (.int .i64) x3), (9, .v 0 .bool (decide (x3 < (p0.2.1.length : Int))))]) (obs := []) (by kernel_rfl) (trivial) ?_
    refine W_seq ?_
    refine W_cond (β := decide (x3 < (p0.2.1.length : Int))) (by kernel_rfl) (fun hb => ?_) (fun hb => ?_)
    · rw [cond_tt hb] at h
      refine W_skip ?_
      refine W_seq ?_
      refine W_block ?_
      refine W_seq ?_
      obtain ⟨o1, h⟩ := h.ass
      refine W_region mixed tys_ok (sup := []) (l := [(2, 9), (4, 9), (6, 0), (7, 0), (8, 0)]) (E' := [(2, .v 9 (.slice T_dag_Arrow) x2), (4, .box 9 T_api_Ticket (rd z_api_Ticket p0.2.1 x3)), (6, .v 0 (.slice T_api_Ticket) p0.2.1), (7, .v 0 (.int .i64) (p0.2.1.length : Int)), (8, .v 0 (.int .i64) x3)]) (obs := [0 ≤ x3 ∧ x3 < (p0.2.1.length : Int)]) (by kernel_rfl) (o1) ?_
      refine W_gen (x := rd z_api_Ticket p0.2.1 x3) (En := fun x4 => [(2, .v 9 (.slice T_dag_Arrow) x2), (4, .box 9 T_api_Ticket x4), (6, .v 0 (.slice T_api_Ticket) p0.2.1), (7, .v 0 (.int .i64) (p0.2.1.length : Int)), (8, .v 0 (.int .i64) x3)]) h (fun x4 h => ?_)
      refine W_seq ?_
      refine W_region mixed tys_ok (sup := []) (l := [(2, 9), (4, 9), (6, 0), (7, 0), (8, 0), (18, 0)]) (E' := [(2, .v 9 (.slice T_dag_Arrow) x2), (4, .box 9 T_api_Ticket x4), (6, .v 0 (.slice T_api_Ticket) p0.2.1), (7, .v 0 (.int .i64) (p0.2.1.length : Int)), (8, .v 0 (.int .i64) x3), (18, .v 0 .bool (x4.1 && (x4.2.2.2.1 == (2 : Int))))]) (obs := []) (by kernel_rfl) (trivial) ?_
      refine W_join h (Ej := fun (x : List D_dag_Arrow) => [(2, .v 9 (.slice T_dag_Arrow) x), (6, .v 0 (.slice T_api_Ticket) p0.2.1), (7, .v 0 (.int .i64) (p0.2.1.length : Int)), (8, .v 0 (.int .i64) x3)]) (p := fun x => state_CoinArrows_j2 x3 x) ?_ ?_
      · rintro x5 h
        replace h : Leads _ (state_CoinArrows_j2 x3 x5) := h
        unfold state_CoinArrows_j2 at h
        show W _ _ _ _ _ _ [(2, .v 9 (.slice T_dag_Arrow) x5), (6, .v 0 (.slice T_api_Ticket) p0.2.1), (7, .v 0 (.int .i64) (p0.2.1.length : Int)), (8, .v 0 (.int .i64) x3)]
        refine W_blk ?_
        refine W_region mixed tys_ok (sup := []) (l := [(2, 9), (6, 0), (7, 0), (8, 0)]) (E' := [(2, .v 9 (.slice T_dag_Arrow) x5), (6, .v 0 (.slice T_api_Ticket) p0.2.1), (7, .v 0 (.int .i64) (p0.2.1.length : Int)), (8, .v 0 (.int .i64) (IntKind.i64.wrap (x3 + (1 : Int))))]) (obs := []) (by kernel_rfl) (trivial) ?_
        refine W_gen (x := IntKind.i64.wrap (x3 + (1 : Int))) (En := fun x6 => [(2, .v 9 (.slice T_dag_Arrow) x5), (6, .v 0 (.slice T_api_Ticket) p0.2.1), (7, .v 0 (.int .i64) (p0.2.1.length : Int)), (8, .v 0 (.int .i64) x6)]) h (fun x6 h => ?_)
        refine W_keep (l := [(2, 9), (6, 0), (7, 0), (8, 0)]) (E' := [(2, .v 9 (.slice T_dag_Arrow) x5), (6, .v 0 (.slice T_api_Ticket) p0.2.1), (7, .v 0 (.int .i64) (p0.2.1.length : Int)), (8, .v 0 (.int .i64) x6)]) (by kernel_rfl) ?_
        exact W_abs h
      · intro j2
        refine W_cond (β := x4.1 && (x4.2.2.2.1 == (2 : Int))) (by kernel_rfl) (fun hb => ?_) (fun hb => ?_)
        · rw [cond_tt hb] at h
          obtain ⟨o1, h⟩ := h.ass
          refine W_region mixed tys_ok (sup := []) (l := [(2, 9), (6, 0), (7, 0), (8, 0)]) (E' := [(2, .v 9 (.slice T_dag_Arrow) (x2 ++ [(x4.2.1, x4.2.2.2.2.1)])), (6, .v 0 (.slice T_api_Ticket) p0.2.1), (7, .v 0 (.int .i64) (p0.2.1.length : Int)), (8, .v 0 (.int .i64) x3)]) (obs := [((x2.length + [(x4.2.1, x4.2.2.2.2.1)].length : Nat) : Int) ≤ limA]) (by kernel_rfl) (o1) ?_
          refine W_gen (x := x2 ++ [(x4.2.1, x4.2.2.2.2.1)]) (En := fun x7 => [(2, .v 9 (.slice T_dag_Arrow) x7), (6, .v 0 (.slice T_api_Ticket) p0.2.1), (7, .v 0 (.int .i64) (p0.2.1.length : Int)), (8, .v 0 (.int .i64) x3)]) h (fun x7 h => ?_)
          refine W_keep (l := [(2, 9), (6, 0), (7, 0), (8, 0)]) (E' := [(2, .v 9 (.slice T_dag_Arrow) x7), (6, .v 0 (.slice T_api_Ticket) p0.2.1), (7, .v 0 (.int .i64) (p0.2.1.length : Int)), (8, .v 0 (.int .i64) x3)]) (by kernel_rfl) ?_
          exact j2 x7 h
        · rw [cond_ff hb] at h
          refine W_skip ?_
          refine W_keep (l := [(2, 9), (6, 0), (7, 0), (8, 0)]) (E' := [(2, .v 9 (.slice T_dag_Arrow) x2), (6, .v 0 (.slice T_api_Ticket) p0.2.1), (7, .v 0 (.int .i64) (p0.2.1.length : Int)), (8, .v 0 (.int .i64) x3)]) (by kernel_rfl) ?_
          exact j2 x2 h
    · rw [cond_ff hb] at h
      refine W_exit rfl ?_
      refine W_keep (l := [(2, 9)]) (E' := [(2, .v 9 (.slice T_dag_Arrow) x2)]) (by kernel_rfl) ?_
      exact j1 x2 h.back

noncomputable def dag_heads_j1 (x2 : List (List Int)) : Option (List (List Int)) :=
  some x2
noncomputable def dag_heads_j2 (x4 : Int) (x6 : List (List Int)) : Option (((List (List Int)) × Int) ⊕ (List (List Int))) :=
  bnd (IntKind.i64.wrap (x4 + (1 : Int))) fun x7 =>
  some (.inl (x6, x7))
noncomputable def dag_heads_b1 (p1 : List D_dag_Arrow) (x3 : List (List Int)) (x4 : Int) : Option (((List (List Int)) × Int) ⊕ (List (List Int))) :=
  bif decide (x4 < (p1.length : Int)) then
    ass (0 ≤ x4 ∧ x4 < (p1.length : Int)) <|
    bnd (rd z_dag_Arrow p1 x4) fun x5 =>
    bif (((decide (x5.1 ≥ (0 : Int))) && (decide (x5.1 < (x3.length : Int)))) && (decide (x5.2 ≥ (0 : Int)))) && (decide (x5.2 < (x3.length : Int))) then
      ass (0 ≤ x5.1 ∧ x5.1 < (x3.length : Int)) <|
      ass ((((rd ([] : List Int) x3 x5.1).length + [x5.2].length : Nat) : Int) ≤ limA) <|
      bnd (wr x3 x5.1 ((rd ([] : List Int) x3 x5.1) ++ [x5.2])) fun x8 =>
      dag_heads_j2 x4 x8
    else
      dag_heads_j2 x4 x3
  else
    (dag_heads_j1 x3).map .inr
noncomputable def dag_heads (p0 : Int) (p1 : List D_dag_Arrow) : Option (List (List Int)) :=
  ass (0 ≤ (if (4096 : Int) < (if (0 : Int) > p0 then (0 : Int) else p0) then (4096 : Int) else (if (0 : Int) > p0 then (0 : Int) else p0)) ∧ (if (4096 : Int) < (if (0 : Int) > p0 then (0 : Int) else p0) then (4096 : Int) else (if (0 : Int) > p0 then (0 : Int) else p0)) ≤ (if (4096 : Int) < (if (0 : Int) > p0 then (0 : Int) else p0) then (4096 : Int) else (if (0 : Int) > p0 then (0 : Int) else p0)) ∧ (if (4096 : Int) < (if (0 : Int) > p0 then (0 : Int) else p0) then (4096 : Int) else (if (0 : Int) > p0 then (0 : Int) else p0)) ≤ lim) <|
  bnd (List.replicate (if (4096 : Int) < (if (0 : Int) > p0 then (0 : Int) else p0) then (4096 : Int) else (if (0 : Int) > p0 then (0 : Int) else p0)).toNat ([] : List Int)) fun x1 =>
  loopM (fun x : (List (List Int)) × Int => dag_heads_b1 p1 x.1 x.2) (x1, (0 : Int))
theorem dag_heads.ok {p0 : Int} {p1 : List D_dag_Arrow} {r : List (List Int)} (h : dag_heads p0 p1 = some r) : ACall prog 243 [⟨.int .i64, p0⟩, ⟨.slice T_dag_Arrow, p1⟩] [⟨9, .slice (.slice (.int .i64)), r⟩] := by
  replace h := Leads.of h
  unfold dag_heads at h
  refine acall_of func243 (by kernel_rfl) rfl (by kernel_rfl) fun w0 F0 hw0 => ?_
  refine W_seq ?_
  refine W_region mixed tys_ok (sup := []) (l := [(0, 0), (1, 0)]) (E' := [(0, .v 0 (.int .i64) p0), (1, .v 0 (.slice T_dag_Arrow) p1)]) (obs := []) (by kernel_rfl) (trivial) ?_
  refine W_seq ?_
  obtain ⟨o1, h⟩ := h.ass
  refine W_region mixed tys_ok (sup := []) (l := [(1, 0), (5, 9)]) (E' := [(1, .v 0 (.slice T_dag_Arrow) p1), (5, .v 9 (.slice (.slice (.int .i64))) (List.replicate (if (4096 : Int) < (if (0 : Int) > p0 then (0 : Int) else p0) then (4096 : Int) else (if (0 : Int) > p0 then (0 : Int) else p0)).toNat ([] : List Int)))]) (obs := [0 ≤ (if (4096 : Int) < (if (0 : Int) > p0 then (0 : Int) else p0) then (4096 : Int) else (if (0 : Int) > p0 then (0 : Int) else p0)) ∧ (if (4096 : Int) < (if (0 : Int) > p0 then (0 : Int) else p0) then (4096 : Int) else (if (0 : Int) > p0 then (0 : Int) else p0)) ≤ (if (4096 : Int) < (if (0 : Int) > p0 then (0 : Int) else p0) then (4096 : Int) else (if (0 : Int) > p0 then (0 : Int) else p0)) ∧ (if (4096 : Int) < (if (0 : Int) > p0 then (0 : Int) else p0) then (4096 : Int) else (if (0 : Int) > p0 then (0 : Int) else p0)) ≤ lim]) (by kernel_rfl) (o1) ?_
  refine W_gen (x := List.replicate (if (4096 : Int) < (if (0 : Int) > p0 then (0 : Int) else p0) then (4096 : Int) else (if (0 : Int) > p0 then (0 : Int) else p0)).toNat ([] : List Int)) (En := fun x1 => [(1, .v 0 (.slice T_dag_Arrow) p1), (5, .v 9 (.slice (.slice (.int .i64))) x1)]) h (fun x1 h => ?_)
  refine W_seq ?_
  refine W_seq ?_
  refine W_region mixed tys_ok (sup := []) (l := [(5, 9), (12, 0), (13, 0), (14, 0)]) (E' := [(5, .v 9 (.slice (.slice (.int .i64))) x1), (12, .v 0 (.slice T_dag_Arrow) p1), (13, .v 0 (.int .i64) (p1.length : Int)), (14, .v 0 (.int .i64) (0 : Int))]) (obs := []) (by kernel_rfl) (trivial) ?_
  refine W_join h (Ej := fun (x : List (List Int)) => [(5, .v 9 (.slice (.slice (.int .i64))) x)]) (p := fun x => dag_heads_j1 x) ?_ ?_
  · rintro x2 h
    replace h : Leads _ (dag_heads_j1 x2) := h
    unfold dag_heads_j1 at h
    show W _ _ _ _ _ _ [(5, .v 9 (.slice (.slice (.int .i64))) x2)]
    refine W_seq ?_
    refine W_region mixed tys_ok (sup := []) (l := [(4, 9)]) (E' := [(4, .v 9 (.slice (.slice (.int .i64))) x2)]) (obs := []) (by kernel_rfl) (trivial) ?_
    refine W_keep (l := [(4, 9)]) (E' := [(4, .v 9 (.slice (.slice (.int .i64))) x2)]) (by kernel_rfl) ?_
    replace h : x2 = r := h
    subst h
    exact W_ret tys_ok hw0 (by kernel_rfl) (by kernel_rfl)
  · intro j1
    refine W_block ?_
    refine W_keep (l := [(5, 9), (12, 0), (13, 0), (14, 0)]) (E' := [(5, .v 9 (.slice (.slice (.int .i64))) x1), (12, .v 0 (.slice T_dag_Arrow) p1), (13, .v 0 (.int .i64) (p1.length : Int)), (14, .v 0 (.int .i64) (0 : Int))]) (by kernel_rfl) ?_
    refine W_loop' (En := fun (x : (List (List Int)) × Int) => [(5, .v 9 (.slice (.slice (.int .i64))) x.1), (12, .v 0 (.slice T_dag_Arrow) p1), (13, .v 0 (.int .i64) (p1.length : Int)), (14, .v 0 (.int .i64) x.2)]) (x := (x1, (0 : Int))) h ?_
    rintro ⟨x3, x4⟩ K h
    replace h : Leads _ (dag_heads_b1 p1 x3 x4) := h
    unfold dag_heads_b1 at h
    show W _ _ _ _ _ _ [(5, .v 9 (.slice (.slice (.int .i64))) x3), (12, .v 0 (.slice T_dag_Arrow) p1), (13, .v 0 (.int .i64) (p1.length : Int)), (14, .v 0 (.int .i64) x4)]
    refine W_seq ?_
    refine W_region mixed tys_ok (sup := []) (l := [(5, 9), (12, 0), (13, 0), (14, 0), (15, 0)]) (E' := [(5, .v 9 (.slice (.slice (.int .i64))) x3), (12, .v 0 (.slice T_dag_Arrow) p1), (13, .v 0 (.int .i64) (p1.length : Int)), (14, .v 0 (.int .i64) x4), (15, .v 0 .bool (decide (x4 < (p1.length : Int))))]) (obs := []) (by kernel_rfl) (trivial) ?_
    refine W_seq ?_
    refine W_cond (β := decide (x4 < (p1.length : Int))) (by kernel_rfl) (fun hb => ?_) (fun hb => ?_)
    · rw [cond_tt hb] at h
      refine W_skip ?_
      refine W_seq ?_
      refine W_block ?_
      refine W_seq ?_
      obtain ⟨o1, h⟩ := h.ass
      refine W_region mixed tys_ok (sup := []) (l := [(5, 9), (7, 9), (12, 0), (13, 0), (14, 0)]) (E' := [(5, .v 9 (.slice (.slice (.int .i64))) x3), (7, .box 9 T_dag_Arrow (rd z_dag_Arrow p1 x4)), (12, .v 0 (.slice T_dag_Arrow) p1), (13, .v 0 (.int .i64) (p1.length : Int)), (14, .v 0 (.int .i64) x4)]) (obs := [0 ≤ x4 ∧ x4 < (p1.length : Int)]) (by kernel_rfl) (o1) ?_
      refine W_gen (x := rd z_dag_Arrow p1 x4) (En := fun x5 => [(5, .v 9 (.slice (.slice (.int .i64))) x3), (7, .box 9 T_dag_Arrow x5), (12, .v 0 (.slice T_dag_Arrow) p1), (13, .v 0 (.int .i64) (p1.length : Int)), (14, .v 0 (.int .i64) x4)]) h (fun x5 h => ?_)
      refine W_seq ?_
      refine W_region mixed tys_ok (sup := []) (l := [(5, 9), (7, 9), (12, 0), (13, 0), (14, 0), (39, 0)]) (E' := [(5, .v 9 (.slice (.slice (.int .i64))) x3), (7, .box 9 T_dag_Arrow x5), (12, .v 0 (.slice T_dag_Arrow) p1), (13, .v 0 (.int .i64) (p1.length : Int)), (14, .v 0 (.int .i64) x4), (39, .v 0 .bool ((((decide (x5.1 ≥ (0 : Int))) && (decide (x5.1 < (x3.length : Int)))) && (decide (x5.2 ≥ (0 : Int)))) && (decide (x5.2 < (x3.length : Int)))))]) (obs := []) (by kernel_rfl) (trivial) ?_
      refine W_join h (Ej := fun (x : List (List Int)) => [(5, .v 9 (.slice (.slice (.int .i64))) x), (12, .v 0 (.slice T_dag_Arrow) p1), (13, .v 0 (.int .i64) (p1.length : Int)), (14, .v 0 (.int .i64) x4)]) (p := fun x => dag_heads_j2 x4 x) ?_ ?_
      · rintro x6 h
        replace h : Leads _ (dag_heads_j2 x4 x6) := h
        unfold dag_heads_j2 at h
        show W _ _ _ _ _ _ [(5, .v 9 (.slice (.slice (.int .i64))) x6), (12, .v 0 (.slice T_dag_Arrow) p1), (13, .v 0 (.int .i64) (p1.length : Int)), (14, .v 0 (.int .i64) x4)]
        refine W_blk ?_
        refine W_region mixed tys_ok (sup := []) (l := [(5, 9), (12, 0), (13, 0), (14, 0)]) (E' := [(5, .v 9 (.slice (.slice (.int .i64))) x6), (12, .v 0 (.slice T_dag_Arrow) p1), (13, .v 0 (.int .i64) (p1.length : Int)), (14, .v 0 (.int .i64) (IntKind.i64.wrap (x4 + (1 : Int))))]) (obs := []) (by kernel_rfl) (trivial) ?_
        refine W_gen (x := IntKind.i64.wrap (x4 + (1 : Int))) (En := fun x7 => [(5, .v 9 (.slice (.slice (.int .i64))) x6), (12, .v 0 (.slice T_dag_Arrow) p1), (13, .v 0 (.int .i64) (p1.length : Int)), (14, .v 0 (.int .i64) x7)]) h (fun x7 h => ?_)
        refine W_keep (l := [(5, 9), (12, 0), (13, 0), (14, 0)]) (E' := [(5, .v 9 (.slice (.slice (.int .i64))) x6), (12, .v 0 (.slice T_dag_Arrow) p1), (13, .v 0 (.int .i64) (p1.length : Int)), (14, .v 0 (.int .i64) x7)]) (by kernel_rfl) ?_
        exact W_abs h
      · intro j2
        refine W_cond (β := (((decide (x5.1 ≥ (0 : Int))) && (decide (x5.1 < (x3.length : Int)))) && (decide (x5.2 ≥ (0 : Int)))) && (decide (x5.2 < (x3.length : Int)))) (by kernel_rfl) (fun hb => ?_) (fun hb => ?_)
        · rw [cond_tt hb] at h
          obtain ⟨o1, h⟩ := h.ass
          obtain ⟨o2, h⟩ := h.ass
          refine W_regionL mixed tys_ok (sup := []) (l := [(5, 9), (12, 0), (13, 0), (14, 0)]) (E' := [(5, .v 9 (.slice (.slice (.int .i64))) (wr x3 x5.1 ((rd ([] : List Int) x3 x5.1) ++ [x5.2]))), (12, .v 0 (.slice T_dag_Arrow) p1), (13, .v 0 (.int .i64) (p1.length : Int)), (14, .v 0 (.int .i64) x4)]) (obs := [0 ≤ x5.1 ∧ x5.1 < (x3.length : Int), (((rd ([] : List Int) x3 x5.1).length + [x5.2].length : Nat) : Int) ≤ limA, (⟨.int .i64, x5.1⟩ : TV) = ⟨.int .i64, x5.1⟩, x5.1 = x5.1]) (by kernel_rfl) (⟨o1, o2, rfl, rfl⟩) ?_
          refine W_gen (x := wr x3 x5.1 ((rd ([] : List Int) x3 x5.1) ++ [x5.2])) (En := fun x8 => [(5, .v 9 (.slice (.slice (.int .i64))) x8), (12, .v 0 (.slice T_dag_Arrow) p1), (13, .v 0 (.int .i64) (p1.length : Int)), (14, .v 0 (.int .i64) x4)]) h (fun x8 h => ?_)
          refine W_keep (l := [(5, 9), (12, 0), (13, 0), (14, 0)]) (E' := [(5, .v 9 (.slice (.slice (.int .i64))) x8), (12, .v 0 (.slice T_dag_Arrow) p1), (13, .v 0 (.int .i64) (p1.length : Int)), (14, .v 0 (.int .i64) x4)]) (by kernel_rfl) ?_
          exact j2 x8 h
        · rw [cond_ff hb] at h
          refine W_skip ?_
          refine W_keep (l := [(5, 9), (12, 0), (13, 0), (14, 0)]) (E' := [(5, .v 9 (.slice (.slice (.int .i64))) x3), (12, .v 0 (.slice T_dag_Arrow) p1), (13, .v 0 (.int .i64) (p1.length : Int)), (14, .v 0 (.int .i64) x4)]) (by kernel_rfl) ?_
          exact j2 x3 h
    · rw [cond_ff hb] at h
      refine W_exit rfl ?_
      refine W_keep (l := [(5, 9)]) (E' := [(5, .v 9 (.slice (.slice (.int .i64))) x3)]) (by kernel_rfl) ?_
      exact j1 x3 h.back

noncomputable def slices_Index_int_int_j1 : Option (Int) :=
  some (-1 : Int)
noncomputable def slices_Index_int_int_b1 (p0 : List Int) (p1 : Int) (x1 : Int) : Option (Int ⊕ Int) :=
  bif decide (x1 < (p0.length : Int)) then
    ass (0 ≤ x1 ∧ x1 < (p0.length : Int)) <|
    bif p1 == (rd (0 : Int) p0 x1) then
      some (.inr x1)
    else
      bnd (IntKind.i64.wrap (x1 + (1 : Int))) fun x2 =>
      some (.inl x2)
  else
    (slices_Index_int_int_j1).map .inr
noncomputable def slices_Index_int_int (p0 : List Int) (p1 : Int) : Option Int :=
  loopM (fun x : Int => slices_Index_int_int_b1 p0 p1 x) (0 : Int)
theorem slices_Index_int_int.ok {p0 : List Int} {p1 : Int} {r : Int} (h : slices_Index_int_int p0 p1 = some r) : ACall prog 226 [⟨.slice (.int .i64), p0⟩, ⟨.int .i64, p1⟩] [⟨0, .int .i64, r⟩] := by
  replace h := Leads.of h
  unfold slices_Index_int_int at h
  refine acall_of func226 (by kernel_rfl) rfl (by kernel_rfl) fun w0 F0 hw0 => ?_
  refine W_seq ?_
  refine W_region mixed tys_ok (sup := []) (l := [(0, 0), (1, 0)]) (E' := [(0, .v 0 (.slice (.int .i64)) p0), (1, .v 0 (.int .i64) p1)]) (obs := []) (by kernel_rfl) (trivial) ?_
  refine W_seq ?_
  refine W_seq ?_
  refine W_region mixed tys_ok (sup := []) (l := [(0, 0), (1, 0), (7, 0), (8, 0)]) (E' := [(0, .v 0 (.slice (.int .i64)) p0), (1, .v 0 (.int .i64) p1), (7, .v 0 (.int .i64) (p0.length : Int)), (8, .v 0 (.int .i64) (0 : Int))]) (obs := []) (by kernel_rfl) (trivial) ?_
  refine W_join h (Ej := fun (x : Unit) => []) (p := fun x => slices_Index_int_int_j1) ?_ ?_
  · rintro ⟨⟩ h
    replace h : Leads _ (slices_Index_int_int_j1) := h
    unfold slices_Index_int_int_j1 at h
    show W _ _ _ _ _ _ []
    refine W_seq ?_
    refine W_region mixed tys_ok (sup := []) (l := [(4, 0)]) (E' := [(4, .v 0 (.int .i64) (-1 : Int))]) (obs := []) (by kernel_rfl) (trivial) ?_
    refine W_keep (l := [(4, 0)]) (E' := [(4, .v 0 (.int .i64) (-1 : Int))]) (by kernel_rfl) ?_
    replace h : ((-1 : Int)) = r := h
    subst h
    exact W_ret tys_ok hw0 (by kernel_rfl) (by kernel_rfl)
  · intro j1
    refine W_block ?_
    refine W_keep (l := [(0, 0), (1, 0), (7, 0), (8, 0)]) (E' := [(0, .v 0 (.slice (.int .i64)) p0), (1, .v 0 (.int .i64) p1), (7, .v 0 (.int .i64) (p0.length : Int)), (8, .v 0 (.int .i64) (0 : Int))]) (by kernel_rfl) ?_
    refine W_loop' (En := fun (x : Int) => [(0, .v 0 (.slice (.int .i64)) p0), (1, .v 0 (.int .i64) p1), (7, .v 0 (.int .i64) (p0.length : Int)), (8, .v 0 (.int .i64) x)]) (x := (0 : Int)) h ?_
    rintro x1 K h
    replace h : Leads _ (slices_Index_int_int_b1 p0 p1 x1) := h
    unfold slices_Index_int_int_b1 at h
    show W _ _ _ _ _ _ [(0, .v 0 (.slice (.int .i64)) p0), (1, .v 0 (.int .i64) p1), (7, .v 0 (.int .i64) (p0.length : Int)), (8, .v 0 (.int .i64) x1)]
    refine W_seq ?_
    refine W_region mixed tys_ok (sup := []) (l := [(0, 0), (1, 0), (7, 0), (8, 0), (9, 0)]) (E' := [(0, .v 0 (.slice (.int .i64)) p0), (1, .v 0 (.int .i64) p1), (7, .v 0 (.int .i64) (p0.length : Int)), (8, .v 0 (.int .i64) x1), (9, .v 0 .bool (decide (x1 < (p0.length : Int))))]) (obs := []) (by kernel_rfl) (trivial) ?_
    refine W_seq ?_
    refine W_cond (β := decide (x1 < (p0.length : Int))) (by kernel_rfl) (fun hb => ?_) (fun hb => ?_)
    · rw [cond_tt hb] at h
      refine W_skip ?_
      refine W_seq ?_
      refine W_block ?_
      refine W_seq ?_
      refine W_region mixed tys_ok (sup := []) (l := [(0, 0), (1, 0), (5, 0), (7, 0), (8, 0)]) (E' := [(0, .v 0 (.slice (.int .i64)) p0), (1, .v 0 (.int .i64) p1), (5, .v 0 (.int .i64) x1), (7, .v 0 (.int .i64) (p0.length : Int)), (8, .v 0 (.int .i64) x1)]) (obs := []) (by kernel_rfl) (trivial) ?_
      refine W_seq ?_
      obtain ⟨o1, h⟩ := h.ass
      refine W_region mixed tys_ok (sup := []) (l := [(0, 0), (1, 0), (5, 0), (7, 0), (8, 0), (16, 0)]) (E' := [(0, .v 0 (.slice (.int .i64)) p0), (1, .v 0 (.int .i64) p1), (5, .v 0 (.int .i64) x1), (7, .v 0 (.int .i64) (p0.length : Int)), (8, .v 0 (.int .i64) x1), (16, .v 0 .bool (p1 == (rd (0 : Int) p0 x1)))]) (obs := [0 ≤ x1 ∧ x1 < (p0.length : Int)]) (by kernel_rfl) (o1) ?_
      refine W_cond (β := p1 == (rd (0 : Int) p0 x1)) (by kernel_rfl) (fun hb => ?_) (fun hb => ?_)
      · rw [cond_tt hb] at h
        refine W_seq ?_
        refine W_region mixed tys_ok (sup := []) (l := [(4, 0)]) (E' := [(4, .v 0 (.int .i64) x1)]) (obs := []) (by kernel_rfl) (trivial) ?_
        refine W_keep (l := [(4, 0)]) (E' := [(4, .v 0 (.int .i64) x1)]) (by kernel_rfl) ?_
        replace h : x1 = r := h
        subst h
        exact W_ret tys_ok hw0 (by kernel_rfl) (by kernel_rfl)
      · rw [cond_ff hb] at h
        refine W_skip ?_
        refine W_blk ?_
        refine W_region mixed tys_ok (sup := []) (l := [(0, 0), (1, 0), (7, 0), (8, 0)]) (E' := [(0, .v 0 (.slice (.int .i64)) p0), (1, .v 0 (.int .i64) p1), (7, .v 0 (.int .i64) (p0.length : Int)), (8, .v 0 (.int .i64) (IntKind.i64.wrap (x1 + (1 : Int))))]) (obs := []) (by kernel_rfl) (trivial) ?_
        refine W_gen (x := IntKind.i64.wrap (x1 + (1 : Int))) (En := fun x2 => [(0, .v 0 (.slice (.int .i64)) p0), (1, .v 0 (.int .i64) p1), (7, .v 0 (.int .i64) (p0.length : Int)), (8, .v 0 (.int .i64) x2)]) h (fun x2 h => ?_)
        refine W_keep (l := [(0, 0), (1, 0), (7, 0), (8, 0)]) (E' := [(0, .v 0 (.slice (.int .i64)) p0), (1, .v 0 (.int .i64) p1), (7, .v 0 (.int .i64) (p0.length : Int)), (8, .v 0 (.int .i64) x2)]) (by kernel_rfl) ?_
        exact W_abs h
    · rw [cond_ff hb] at h
      refine W_exit rfl ?_
      refine W_keep (l := []) (E' := []) (by kernel_rfl) ?_
      exact j1 () h.back

noncomputable def dag_Order_j2 (x4 : List Int) : Option ((List Int) × Bool) :=
  some (x4, true)
noncomputable def dag_Order_b2 (y1 : List (List Int)) (y7 : Int) (x9 : List Int) (x10 : List Int) (x11 : List Int) (x12 : Int) : Option (((List Int) × Int) ⊕ (((List Int) × (List Int)) ⊕ ((List Int) × Bool))) :=
  bif decide (x12 < ((rd ([] : List Int) y1 y7).length : Int)) then
    ass (0 ≤ x12 ∧ x12 < (x10.length : Int)) <|
    bnd (rd (0 : Int) x10 x12) fun x13 =>
    ass (0 ≤ x13 ∧ x13 < (x11.length : Int)) <|
    bnd (wr x11 x13 (IntKind.i64.wrap ((rd (0 : Int) x11 x13) - (1 : Int)))) fun x14 =>
    bnd (IntKind.i64.wrap (x12 + (1 : Int))) fun x15 =>
    some (.inl (x14, x15))
  else
    some (.inr (.inl (x11, x9)))
noncomputable def dag_Order_b1 (y1 : List (List Int)) (x5 : List Int) (x6 : List Int) : Option (((List Int) × (List Int)) ⊕ ((List Int) × Bool)) :=
  bif decide ((x6.length : Int) < (y1.length : Int)) then
    (slices_Index_int_int x5 (0 : Int)).bind fun y7 =>
    bif decide (y7 < (0 : Int)) then
      some (.inr (([] : List Int), false))
    else
      ass (0 ≤ y7 ∧ y7 < (x5.length : Int)) <|
      bnd (wr x5 y7 (-1 : Int)) fun x8 =>
      ass (((x6.length + [y7].length : Nat) : Int) ≤ limA) <|
      bnd (x6 ++ [y7]) fun x9 =>
      ass (0 ≤ y7 ∧ y7 < (y1.length : Int)) <|
      bnd (rd ([] : List Int) y1 y7) fun x10 =>
      loopM (fun x : (List Int) × Int => dag_Order_b2 y1 y7 x9 x10 x.1 x.2) (x8, (0 : Int))
  else
    (dag_Order_j2 x6).map .inr
noncomputable def dag_Order_j1 (y1 : List (List Int)) (x3 : List Int) : Option ((List Int) × Bool) :=
  loopM (fun x : (List Int) × (List Int) => dag_Order_b1 y1 x.1 x.2) (x3, ([] : List Int))
noncomputable def dag_Order_j3 (x17 : Int) (x18 : List Int) : Option (((List Int) × Int) ⊕ ((List Int) × Bool)) :=
  bnd (IntKind.i64.wrap (x17 + (1 : Int))) fun x19 =>
  some (.inl (x18, x19))
noncomputable def dag_Order_j4 (x17 : Int) (x21 : List Int) : Option (((List Int) × Int) ⊕ ((List Int) × Bool)) :=
  dag_Order_j3 x17 x21
noncomputable def dag_Order_b4 (x17 : Int) (x20 : List Int) (x22 : List Int) (x23 : Int) : Option (((List Int) × Int) ⊕ (((List Int) × Int) ⊕ ((List Int) × Bool))) :=
  bif decide (x23 < (x20.length : Int)) then
    ass (0 ≤ x23 ∧ x23 < (x20.length : Int)) <|
    bnd (rd (0 : Int) x20 x23) fun x24 =>
    ass (0 ≤ x24 ∧ x24 < (x22.length : Int)) <|
    bnd (wr x22 x24 (IntKind.i64.wrap ((rd (0 : Int) x22 x24) + (1 : Int)))) fun x25 =>
    bnd (IntKind.i64.wrap (x23 + (1 : Int))) fun x26 =>
    some (.inl (x25, x26))
  else
    (dag_Order_j4 x17 x22).map .inr
noncomputable def dag_Order_b3 (y1 : List (List Int)) (x16 : List Int) (x17 : Int) : Option (((List Int) × Int) ⊕ ((List Int) × Bool)) :=
  bif decide (x17 < (y1.length : Int)) then
    ass (0 ≤ x17 ∧ x17 < (y1.length : Int)) <|
    bnd (rd ([] : List Int) y1 x17) fun x20 =>
    loopM (fun x : (List Int) × Int => dag_Order_b4 x17 x20 x.1 x.2) (x16, (0 : Int))
  else
    (dag_Order_j1 y1 x16).map .inr
noncomputable def dag_Order (p0 : Int) (p1 : List D_dag_Arrow) : Option ((List Int) × Bool) :=
  (dag_heads p0 p1).bind fun y1 =>
  ass (0 ≤ (y1.length : Int) ∧ (y1.length : Int) ≤ (y1.length : Int) ∧ (y1.length : Int) ≤ lim) <|
  bnd (List.replicate (y1.length : Int).toNat (0 : Int)) fun x2 =>
  loopM (fun x : (List Int) × Int => dag_Order_b3 y1 x.1 x.2) (x2, (0 : Int))
theorem dag_Order.ok {p0 : Int} {p1 : List D_dag_Arrow} {r : (List Int) × Bool} (h : dag_Order p0 p1 = some r) : ACall prog 216 [⟨.int .i64, p0⟩, ⟨.slice T_dag_Arrow, p1⟩] [⟨9, .slice (.int .i64), r.1⟩, ⟨0, .bool, r.2⟩] := by
  replace h := Leads.of h
  unfold dag_Order at h
  refine acall_of func216 (by kernel_rfl) rfl (by kernel_rfl) fun w0 F0 hw0 => ?_
  refine W_seq ?_
  refine W_region mixed tys_ok (sup := []) (l := [(0, 0), (1, 0)]) (E' := [(0, .v 0 (.int .i64) p0), (1, .v 0 (.slice T_dag_Arrow) p1)]) (obs := []) (by kernel_rfl) (trivial) ?_
  refine W_seq ?_
  obtain ⟨y1, ey1, h⟩ := h.bind
  refine W_region mixed tys_ok (sup := [.res [(9, ⟨9, .slice (.slice (.int .i64)), y1⟩)]]) (l := [(6, 9)]) (E' := [(6, .v 9 (.slice (.slice (.int .i64))) y1)]) (obs := [ACall prog 243 [⟨.int .i64, p0⟩, ⟨.slice T_dag_Arrow, p1⟩] [⟨9, .slice (.slice (.int .i64)), y1⟩]]) (by kernel_rfl) (dag_heads.ok ey1) ?_
  refine W_seq ?_
  obtain ⟨o1, h⟩ := h.ass
  refine W_region mixed tys_ok (sup := []) (l := [(6, 9), (7, 9)]) (E' := [(6, .v 9 (.slice (.slice (.int .i64))) y1), (7, .v 9 (.slice (.int .i64)) (List.replicate (y1.length : Int).toNat (0 : Int)))]) (obs := [0 ≤ (y1.length : Int) ∧ (y1.length : Int) ≤ (y1.length : Int) ∧ (y1.length : Int) ≤ lim]) (by kernel_rfl) (o1) ?_
  refine W_gen (x := List.replicate (y1.length : Int).toNat (0 : Int)) (En := fun x2 => [(6, .v 9 (.slice (.slice (.int .i64))) y1), (7, .v 9 (.slice (.int .i64)) x2)]) h (fun x2 h => ?_)
  refine W_seq ?_
  refine W_seq ?_
  refine W_keep (l := [(6, 0), (7, 9)]) (E' := [(6, .v 0 (.slice (.slice (.int .i64))) y1), (7, .v 9 (.slice (.int .i64)) x2)]) (by kernel_rfl) ?_
  refine W_region mixed tys_ok (sup := []) (l := [(6, 0), (7, 9), (22, 0), (23, 0), (24, 0)]) (E' := [(6, .v 0 (.slice (.slice (.int .i64))) y1), (7, .v 9 (.slice (.int .i64)) x2), (22, .v 0 (.slice (.slice (.int .i64))) y1), (23, .v 0 (.int .i64) (y1.length : Int)), (24, .v 0 (.int .i64) (0 : Int))]) (obs := []) (by kernel_rfl) (trivial) ?_
  refine W_join h (Ej := fun (x : List Int) => [(6, .v 0 (.slice (.slice (.int .i64))) y1), (7, .v 9 (.slice (.int .i64)) x)]) (p := fun x => dag_Order_j1 y1 x) ?_ ?_
  · rintro x3 h
    replace h : Leads _ (dag_Order_j1 y1 x3) := h
    unfold dag_Order_j1 at h
    show W _ _ _ _ _ _ [(6, .v 0 (.slice (.slice (.int .i64))) y1), (7, .v 9 (.slice (.int .i64)) x3)]
    refine W_seq ?_
    refine W_region mixed tys_ok (sup := []) (l := [(6, 0), (7, 9), (12, 9)]) (E' := [(6, .v 0 (.slice (.slice (.int .i64))) y1), (7, .v 9 (.slice (.int .i64)) x3), (12, .v 9 (.slice (.int .i64)) ([] : List Int))]) (obs := []) (by kernel_rfl) (trivial) ?_
    refine W_seq ?_
    refine W_join h (Ej := fun (x : List Int) => [(12, .v 9 (.slice (.int .i64)) x)]) (p := fun x => dag_Order_j2 x) ?_ ?_
    · rintro x4 h
      replace h : Leads _ (dag_Order_j2 x4) := h
      unfold dag_Order_j2 at h
      show W _ _ _ _ _ _ [(12, .v 9 (.slice (.int .i64)) x4)]
      refine W_seq ?_
      refine W_region mixed tys_ok (sup := []) (l := [(4, 9), (5, 0)]) (E' := [(4, .v 9 (.slice (.int .i64)) x4), (5, .v 0 .bool true)]) (obs := []) (by kernel_rfl) (trivial) ?_
      refine W_keep (l := [(4, 9), (5, 0)]) (E' := [(4, .v 9 (.slice (.int .i64)) x4), (5, .v 0 .bool true)]) (by kernel_rfl) ?_
      replace h : ((x4, true)) = r := h
      subst h
      exact W_ret tys_ok hw0 (by kernel_rfl) (by kernel_rfl)
    · intro j2
      refine W_block ?_
      refine W_keep (l := [(6, 0), (7, 9), (12, 9)]) (E' := [(6, .v 0 (.slice (.slice (.int .i64))) y1), (7, .v 9 (.slice (.int .i64)) x3), (12, .v 9 (.slice (.int .i64)) ([] : List Int))]) (by kernel_rfl) ?_
      refine W_loop' (En := fun (x : (List Int) × (List Int)) => [(6, .v 0 (.slice (.slice (.int .i64))) y1), (7, .v 9 (.slice (.int .i64)) x.1), (12, .v 9 (.slice (.int .i64)) x.2)]) (x := (x3, ([] : List Int))) h ?_
      rintro ⟨x5, x6⟩ K h
      replace h : Leads _ (dag_Order_b1 y1 x5 x6) := h
      unfold dag_Order_b1 at h
      show W _ _ _ _ _ _ [(6, .v 0 (.slice (.slice (.int .i64))) y1), (7, .v 9 (.slice (.int .i64)) x5), (12, .v 9 (.slice (.int .i64)) x6)]
      refine W_seq ?_
      refine W_seq ?_
      refine W_region mixed tys_ok (sup := []) (l := [(6, 0), (7, 9), (12, 9), (46, 0)]) (E' := [(6, .v 0 (.slice (.slice (.int .i64))) y1), (7, .v 9 (.slice (.int .i64)) x5), (12, .v 9 (.slice (.int .i64)) x6), (46, .v 0 .bool (decide ((x6.length : Int) < (y1.length : Int))))]) (obs := []) (by kernel_rfl) (trivial) ?_
      refine W_cond (β := decide ((x6.length : Int) < (y1.length : Int))) (by kernel_rfl) (fun hb => ?_) (fun hb => ?_)
      · rw [cond_tt hb] at h
        refine W_skip ?_
        refine W_block ?_
        refine W_seq ?_
        obtain ⟨y7, ey7, h⟩ := h.bind
        refine W_region mixed tys_ok (sup := [.res [(0, ⟨0, .int .i64, y7⟩)]]) (l := [(6, 0), (7, 9), (12, 9), (13, 0)]) (E' := [(6, .v 0 (.slice (.slice (.int .i64))) y1), (7, .v 9 (.slice (.int .i64)) x5), (12, .v 9 (.slice (.int .i64)) x6), (13, .v 0 (.int .i64) y7)]) (obs := [ACall prog 226 [⟨.slice (.int .i64), x5⟩, ⟨.int .i64, (0 : Int)⟩] [⟨0, .int .i64, y7⟩]]) (by kernel_rfl) (slices_Index_int_int.ok ey7) ?_
        refine W_seq ?_
        refine W_seq ?_
        refine W_region mixed tys_ok (sup := []) (l := [(6, 0), (7, 9), (12, 9), (13, 0), (50, 0)]) (E' := [(6, .v 0 (.slice (.slice (.int .i64))) y1), (7, .v 9 (.slice (.int .i64)) x5), (12, .v 9 (.slice (.int .i64)) x6), (13, .v 0 (.int .i64) y7), (50, .v 0 .bool (decide (y7 < (0 : Int))))]) (obs := []) (by kernel_rfl) (trivial) ?_
        refine W_cond (β := decide (y7 < (0 : Int))) (by kernel_rfl) (fun hb => ?_) (fun hb => ?_)
        · rw [cond_tt hb] at h
          refine W_seq ?_
          refine W_region mixed tys_ok (sup := []) (l := [(4, 9), (5, 0)]) (E' := [(4, .v 9 (.slice (.int .i64)) ([] : List Int)), (5, .v 0 .bool false)]) (obs := []) (by kernel_rfl) (trivial) ?_
          refine W_keep (l := [(4, 9), (5, 0)]) (E' := [(4, .v 9 (.slice (.int .i64)) ([] : List Int)), (5, .v 0 .bool false)]) (by kernel_rfl) ?_
          replace h : ((([] : List Int), false)) = r := h
          subst h
          exact W_ret tys_ok hw0 (by kernel_rfl) (by kernel_rfl)
        · rw [cond_ff hb] at h
          refine W_skip ?_
          refine W_seq ?_
          obtain ⟨o1, h⟩ := h.ass
          refine W_region mixed tys_ok (sup := []) (l := [(6, 0), (7, 9), (12, 9), (13, 0)]) (E' := [(6, .v 0 (.slice (.slice (.int .i64))) y1), (7, .v 9 (.slice (.int .i64)) (wr x5 y7 (-1 : Int))), (12, .v 9 (.slice (.int .i64)) x6), (13, .v 0 (.int .i64) y7)]) (obs := [0 ≤ y7 ∧ y7 < (x5.length : Int)]) (by kernel_rfl) (o1) ?_
          refine W_gen (x := wr x5 y7 (-1 : Int)) (En := fun x8 => [(6, .v 0 (.slice (.slice (.int .i64))) y1), (7, .v 9 (.slice (.int .i64)) x8), (12, .v 9 (.slice (.int .i64)) x6), (13, .v 0 (.int .i64) y7)]) h (fun x8 h => ?_)
          refine W_seq ?_
          obtain ⟨o1, h⟩ := h.ass
          refine W_region mixed tys_ok (sup := []) (l := [(6, 0), (7, 9), (12, 9), (13, 0)]) (E' := [(6, .v 0 (.slice (.slice (.int .i64))) y1), (7, .v 9 (.slice (.int .i64)) x8), (12, .v 9 (.slice (.int .i64)) (x6 ++ [y7])), (13, .v 0 (.int .i64) y7)]) (obs := [((x6.length + [y7].length : Nat) : Int) ≤ limA]) (by kernel_rfl) (o1) ?_
          refine W_gen (x := x6 ++ [y7]) (En := fun x9 => [(6, .v 0 (.slice (.slice (.int .i64))) y1), (7, .v 9 (.slice (.int .i64)) x8), (12, .v 9 (.slice (.int .i64)) x9), (13, .v 0 (.int .i64) y7)]) h (fun x9 h => ?_)
          refine W_seq ?_
          obtain ⟨o1, h⟩ := h.ass
          refine W_region mixed tys_ok (sup := []) (l := [(6, 0), (7, 9), (12, 9), (61, 0), (62, 0), (63, 0)]) (E' := [(6, .v 0 (.slice (.slice (.int .i64))) y1), (7, .v 9 (.slice (.int .i64)) x8), (12, .v 9 (.slice (.int .i64)) x9), (61, .v 0 (.slice (.int .i64)) (rd ([] : List Int) y1 y7)), (62, .v 0 (.int .i64) ((rd ([] : List Int) y1 y7).length : Int)), (63, .v 0 (.int .i64) (0 : Int))]) (obs := [0 ≤ y7 ∧ y7 < (y1.length : Int)]) (by kernel_rfl) (o1) ?_
          refine W_gen (x := rd ([] : List Int) y1 y7) (En := fun x10 => [(6, .v 0 (.slice (.slice (.int .i64))) y1), (7, .v 9 (.slice (.int .i64)) x8), (12, .v 9 (.slice (.int .i64)) x9), (61, .v 0 (.slice (.int .i64)) x10), (62, .v 0 (.int .i64) ((rd ([] : List Int) y1 y7).length : Int)), (63, .v 0 (.int .i64) (0 : Int))]) h (fun x10 h => ?_)
          refine W_block ?_
          refine W_keep (l := [(6, 0), (7, 9), (12, 9), (61, 0), (62, 0), (63, 0)]) (E' := [(6, .v 0 (.slice (.slice (.int .i64))) y1), (7, .v 9 (.slice (.int .i64)) x8), (12, .v 9 (.slice (.int .i64)) x9), (61, .v 0 (.slice (.int .i64)) x10), (62, .v 0 (.int .i64) ((rd ([] : List Int) y1 y7).length : Int)), (63, .v 0 (.int .i64) (0 : Int))]) (by kernel_rfl) ?_
          refine W_loop' (En := fun (x : (List Int) × Int) => [(6, .v 0 (.slice (.slice (.int .i64))) y1), (7, .v 9 (.slice (.int .i64)) x.1), (12, .v 9 (.slice (.int .i64)) x9), (61, .v 0 (.slice (.int .i64)) x10), (62, .v 0 (.int .i64) ((rd ([] : List Int) y1 y7).length : Int)), (63, .v 0 (.int .i64) x.2)]) (x := (x8, (0 : Int))) h ?_
          rintro ⟨x11, x12⟩ K h
          replace h : Leads _ (dag_Order_b2 y1 y7 x9 x10 x11 x12) := h
          unfold dag_Order_b2 at h
          show W _ _ _ _ _ _ [(6, .v 0 (.slice (.slice (.int .i64))) y1), (7, .v 9 (.slice (.int .i64)) x11), (12, .v 9 (.slice (.int .i64)) x9), (61, .v 0 (.slice (.int .i64)) x10), (62, .v 0 (.int .i64) ((rd ([] : List Int) y1 y7).length : Int)), (63, .v 0 (.int .i64) x12)]
          refine W_seq ?_
          refine W_region mixed tys_ok (sup := []) (l := [(6, 0), (7, 9), (12, 9), (61, 0), (62, 0), (63, 0), (64, 0)]) (E' := [(6, .v 0 (.slice (.slice (.int .i64))) y1), (7, .v 9 (.slice (.int .i64)) x11), (12, .v 9 (.slice (.int .i64)) x9), (61, .v 0 (.slice (.int .i64)) x10), (62, .v 0 (.int .i64) ((rd ([] : List Int) y1 y7).length : Int)), (63, .v 0 (.int .i64) x12), (64, .v 0 .bool (decide (x12 < ((rd ([] : List Int) y1 y7).length : Int))))]) (obs := []) (by kernel_rfl) (trivial) ?_
          refine W_seq ?_
          refine W_cond (β := decide (x12 < ((rd ([] : List Int) y1 y7).length : Int))) (by kernel_rfl) (fun hb => ?_) (fun hb => ?_)
          · rw [cond_tt hb] at h
            refine W_skip ?_
            refine W_seq ?_
            refine W_block ?_
            refine W_seq ?_
            obtain ⟨o1, h⟩ := h.ass
            refine W_region mixed tys_ok (sup := []) (l := [(6, 0), (7, 9), (12, 9), (15, 0), (61, 0), (62, 0), (63, 0)]) (E' := [(6, .v 0 (.slice (.slice (.int .i64))) y1), (7, .v 9 (.slice (.int .i64)) x11), (12, .v 9 (.slice (.int .i64)) x9), (15, .v 0 (.int .i64) (rd (0 : Int) x10 x12)), (61, .v 0 (.slice (.int .i64)) x10), (62, .v 0 (.int .i64) ((rd ([] : List Int) y1 y7).length : Int)), (63, .v 0 (.int .i64) x12)]) (obs := [0 ≤ x12 ∧ x12 < (x10.length : Int)]) (by kernel_rfl) (o1) ?_
            refine W_gen (x := rd (0 : Int) x10 x12) (En := fun x13 => [(6, .v 0 (.slice (.slice (.int .i64))) y1), (7, .v 9 (.slice (.int .i64)) x11), (12, .v 9 (.slice (.int .i64)) x9), (15, .v 0 (.int .i64) x13), (61, .v 0 (.slice (.int .i64)) x10), (62, .v 0 (.int .i64) ((rd ([] : List Int) y1 y7).length : Int)), (63, .v 0 (.int .i64) x12)]) h (fun x13 h => ?_)
            obtain ⟨o1, h⟩ := h.ass
            refine W_region mixed tys_ok (sup := []) (l := [(6, 0), (7, 9), (12, 9), (61, 0), (62, 0), (63, 0)]) (E' := [(6, .v 0 (.slice (.slice (.int .i64))) y1), (7, .v 9 (.slice (.int .i64)) (wr x11 x13 (IntKind.i64.wrap ((rd (0 : Int) x11 x13) - (1 : Int))))), (12, .v 9 (.slice (.int .i64)) x9), (61, .v 0 (.slice (.int .i64)) x10), (62, .v 0 (.int .i64) ((rd ([] : List Int) y1 y7).length : Int)), (63, .v 0 (.int .i64) x12)]) (obs := [0 ≤ x13 ∧ x13 < (x11.length : Int), 0 ≤ x13 ∧ x13 < (x11.length : Int)]) (by kernel_rfl) (⟨o1, o1⟩) ?_
            refine W_gen (x := wr x11 x13 (IntKind.i64.wrap ((rd (0 : Int) x11 x13) - (1 : Int)))) (En := fun x14 => [(6, .v 0 (.slice (.slice (.int .i64))) y1), (7, .v 9 (.slice (.int .i64)) x14), (12, .v 9 (.slice (.int .i64)) x9), (61, .v 0 (.slice (.int .i64)) x10), (62, .v 0 (.int .i64) ((rd ([] : List Int) y1 y7).length : Int)), (63, .v 0 (.int .i64) x12)]) h (fun x14 h => ?_)
            refine W_blk ?_
            refine W_region mixed tys_ok (sup := []) (l := [(6, 0), (7, 9), (12, 9), (61, 0), (62, 0), (63, 0)]) (E' := [(6, .v 0 (.slice (.slice (.int .i64))) y1), (7, .v 9 (.slice (.int .i64)) x14), (12, .v 9 (.slice (.int .i64)) x9), (61, .v 0 (.slice (.int .i64)) x10), (62, .v 0 (.int .i64) ((rd ([] : List Int) y1 y7).length : Int)), (63, .v 0 (.int .i64) (IntKind.i64.wrap (x12 + (1 : Int))))]) (obs := []) (by kernel_rfl) (trivial) ?_
            refine W_gen (x := IntKind.i64.wrap (x12 + (1 : Int))) (En := fun x15 => [(6, .v 0 (.slice (.slice (.int .i64))) y1), (7, .v 9 (.slice (.int .i64)) x14), (12, .v 9 (.slice (.int .i64)) x9), (61, .v 0 (.slice (.int .i64)) x10), (62, .v 0 (.int .i64) ((rd ([] : List Int) y1 y7).length : Int)), (63, .v 0 (.int .i64) x15)]) h (fun x15 h => ?_)
            refine W_keep (l := [(6, 0), (7, 9), (12, 9), (61, 0), (62, 0), (63, 0)]) (E' := [(6, .v 0 (.slice (.slice (.int .i64))) y1), (7, .v 9 (.slice (.int .i64)) x14), (12, .v 9 (.slice (.int .i64)) x9), (61, .v 0 (.slice (.int .i64)) x10), (62, .v 0 (.int .i64) ((rd ([] : List Int) y1 y7).length : Int)), (63, .v 0 (.int .i64) x15)]) (by kernel_rfl) ?_
            exact W_abs h
          · rw [cond_ff hb] at h
            refine W_exit rfl ?_
            refine W_blk ?_
            refine W_keep (l := [(6, 0), (7, 9), (12, 9)]) (E' := [(6, .v 0 (.slice (.slice (.int .i64))) y1), (7, .v 9 (.slice (.int .i64)) x11), (12, .v 9 (.slice (.int .i64)) x9)]) (by kernel_rfl) ?_
            exact W_abs h
      · rw [cond_ff hb] at h
        refine W_exit rfl ?_
        refine W_keep (l := [(12, 9)]) (E' := [(12, .v 9 (.slice (.int .i64)) x6)]) (by kernel_rfl) ?_
        exact j2 x6 h.back
  · intro j1
    refine W_block ?_
    refine W_keep (l := [(6, 0), (7, 9), (22, 0), (23, 0), (24, 0)]) (E' := [(6, .v 0 (.slice (.slice (.int .i64))) y1), (7, .v 9 (.slice (.int .i64)) x2), (22, .v 0 (.slice (.slice (.int .i64))) y1), (23, .v 0 (.int .i64) (y1.length : Int)), (24, .v 0 (.int .i64) (0 : Int))]) (by kernel_rfl) ?_
    refine W_loop' (En := fun (x : (List Int) × Int) => [(6, .v 0 (.slice (.slice (.int .i64))) y1), (7, .v 9 (.slice (.int .i64)) x.1), (22, .v 0 (.slice (.slice (.int .i64))) y1), (23, .v 0 (.int .i64) (y1.length : Int)), (24, .v 0 (.int .i64) x.2)]) (x := (x2, (0 : Int))) h ?_
    rintro ⟨x16, x17⟩ K h
    replace h : Leads _ (dag_Order_b3 y1 x16 x17) := h
    unfold dag_Order_b3 at h
    show W _ _ _ _ _ _ [(6, .v 0 (.slice (.slice (.int .i64))) y1), (7, .v 9 (.slice (.int .i64)) x16), (22, .v 0 (.slice (.slice (.int .i64))) y1), (23, .v 0 (.int .i64) (y1.length : Int)), (24, .v 0 (.int .i64) x17)]
    refine W_seq ?_
    refine W_region mixed tys_ok (sup := []) (l := [(6, 0), (7, 9), (22, 0), (23, 0), (24, 0), (25, 0)]) (E' := [(6, .v 0 (.slice (.slice (.int .i64))) y1), (7, .v 9 (.slice (.int .i64)) x16), (22, .v 0 (.slice (.slice (.int .i64))) y1), (23, .v 0 (.int .i64) (y1.length : Int)), (24, .v 0 (.int .i64) x17), (25, .v 0 .bool (decide (x17 < (y1.length : Int))))]) (obs := []) (by kernel_rfl) (trivial) ?_
    refine W_seq ?_
    refine W_cond (β := decide (x17 < (y1.length : Int))) (by kernel_rfl) (fun hb => ?_) (fun hb => ?_)
    · rw [cond_tt hb] at h
      refine W_skip ?_
      refine W_seq ?_
      refine W_join h (Ej := fun (x : List Int) => [(6, .v 0 (.slice (.slice (.int .i64))) y1), (7, .v 9 (.slice (.int .i64)) x), (22, .v 0 (.slice (.slice (.int .i64))) y1), (23, .v 0 (.int .i64) (y1.length : Int)), (24, .v 0 (.int .i64) x17)]) (p := fun x => dag_Order_j3 x17 x) ?_ ?_
      · rintro x18 h
        replace h : Leads _ (dag_Order_j3 x17 x18) := h
        unfold dag_Order_j3 at h
        show W _ _ _ _ _ _ [(6, .v 0 (.slice (.slice (.int .i64))) y1), (7, .v 9 (.slice (.int .i64)) x18), (22, .v 0 (.slice (.slice (.int .i64))) y1), (23, .v 0 (.int .i64) (y1.length : Int)), (24, .v 0 (.int .i64) x17)]
        refine W_region mixed tys_ok (sup := []) (l := [(6, 0), (7, 9), (22, 0), (23, 0), (24, 0)]) (E' := [(6, .v 0 (.slice (.slice (.int .i64))) y1), (7, .v 9 (.slice (.int .i64)) x18), (22, .v 0 (.slice (.slice (.int .i64))) y1), (23, .v 0 (.int .i64) (y1.length : Int)), (24, .v 0 (.int .i64) (IntKind.i64.wrap (x17 + (1 : Int))))]) (obs := []) (by kernel_rfl) (trivial) ?_
        refine W_gen (x := IntKind.i64.wrap (x17 + (1 : Int))) (En := fun x19 => [(6, .v 0 (.slice (.slice (.int .i64))) y1), (7, .v 9 (.slice (.int .i64)) x18), (22, .v 0 (.slice (.slice (.int .i64))) y1), (23, .v 0 (.int .i64) (y1.length : Int)), (24, .v 0 (.int .i64) x19)]) h (fun x19 h => ?_)
        refine W_keep (l := [(6, 0), (7, 9), (22, 0), (23, 0), (24, 0)]) (E' := [(6, .v 0 (.slice (.slice (.int .i64))) y1), (7, .v 9 (.slice (.int .i64)) x18), (22, .v 0 (.slice (.slice (.int .i64))) y1), (23, .v 0 (.int .i64) (y1.length : Int)), (24, .v 0 (.int .i64) x19)]) (by kernel_rfl) ?_
        exact W_abs h
      · intro j3
        refine W_block ?_
        refine W_seq ?_
        obtain ⟨o1, h⟩ := h.ass
        refine W_region mixed tys_ok (sup := []) (l := [(6, 0), (7, 9), (9, 0), (22, 0), (23, 0), (24, 0)]) (E' := [(6, .v 0 (.slice (.slice (.int .i64))) y1), (7, .v 9 (.slice (.int .i64)) x16), (9, .v 0 (.slice (.int .i64)) (rd ([] : List Int) y1 x17)), (22, .v 0 (.slice (.slice (.int .i64))) y1), (23, .v 0 (.int .i64) (y1.length : Int)), (24, .v 0 (.int .i64) x17)]) (obs := [0 ≤ x17 ∧ x17 < (y1.length : Int)]) (by kernel_rfl) (o1) ?_
        refine W_gen (x := rd ([] : List Int) y1 x17) (En := fun x20 => [(6, .v 0 (.slice (.slice (.int .i64))) y1), (7, .v 9 (.slice (.int .i64)) x16), (9, .v 0 (.slice (.int .i64)) x20), (22, .v 0 (.slice (.slice (.int .i64))) y1), (23, .v 0 (.int .i64) (y1.length : Int)), (24, .v 0 (.int .i64) x17)]) h (fun x20 h => ?_)
        refine W_seq ?_
        refine W_region mixed tys_ok (sup := []) (l := [(6, 0), (7, 9), (22, 0), (23, 0), (24, 0), (28, 0), (29, 0), (30, 0)]) (E' := [(6, .v 0 (.slice (.slice (.int .i64))) y1), (7, .v 9 (.slice (.int .i64)) x16), (22, .v 0 (.slice (.slice (.int .i64))) y1), (23, .v 0 (.int .i64) (y1.length : Int)), (24, .v 0 (.int .i64) x17), (28, .v 0 (.slice (.int .i64)) x20), (29, .v 0 (.int .i64) (x20.length : Int)), (30, .v 0 (.int .i64) (0 : Int))]) (obs := []) (by kernel_rfl) (trivial) ?_
        refine W_join h (Ej := fun (x : List Int) => [(6, .v 0 (.slice (.slice (.int .i64))) y1), (7, .v 9 (.slice (.int .i64)) x), (22, .v 0 (.slice (.slice (.int .i64))) y1), (23, .v 0 (.int .i64) (y1.length : Int)), (24, .v 0 (.int .i64) x17)]) (p := fun x => dag_Order_j4 x17 x) ?_ ?_
        · rintro x21 h
          replace h : Leads _ (dag_Order_j4 x17 x21) := h
          unfold dag_Order_j4 at h
          show W _ _ _ _ _ _ [(6, .v 0 (.slice (.slice (.int .i64))) y1), (7, .v 9 (.slice (.int .i64)) x21), (22, .v 0 (.slice (.slice (.int .i64))) y1), (23, .v 0 (.int .i64) (y1.length : Int)), (24, .v 0 (.int .i64) x17)]
          refine W_blk ?_
          refine W_keep (l := [(6, 0), (7, 9), (22, 0), (23, 0), (24, 0)]) (E' := [(6, .v 0 (.slice (.slice (.int .i64))) y1), (7, .v 9 (.slice (.int .i64)) x21), (22, .v 0 (.slice (.slice (.int .i64))) y1), (23, .v 0 (.int .i64) (y1.length : Int)), (24, .v 0 (.int .i64) x17)]) (by kernel_rfl) ?_
          exact j3 x21 h
        · intro j4
          refine W_block ?_
          refine W_keep (l := [(6, 0), (7, 9), (22, 0), (23, 0), (24, 0), (28, 0), (29, 0), (30, 0)]) (E' := [(6, .v 0 (.slice (.slice (.int .i64))) y1), (7, .v 9 (.slice (.int .i64)) x16), (22, .v 0 (.slice (.slice (.int .i64))) y1), (23, .v 0 (.int .i64) (y1.length : Int)), (24, .v 0 (.int .i64) x17), (28, .v 0 (.slice (.int .i64)) x20), (29, .v 0 (.int .i64) (x20.length : Int)), (30, .v 0 (.int .i64) (0 : Int))]) (by kernel_rfl) ?_
          refine W_loop' (En := fun (x : (List Int) × Int) => [(6, .v 0 (.slice (.slice (.int .i64))) y1), (7, .v 9 (.slice (.int .i64)) x.1), (22, .v 0 (.slice (.slice (.int .i64))) y1), (23, .v 0 (.int .i64) (y1.length : Int)), (24, .v 0 (.int .i64) x17), (28, .v 0 (.slice (.int .i64)) x20), (29, .v 0 (.int .i64) (x20.length : Int)), (30, .v 0 (.int .i64) x.2)]) (x := (x16, (0 : Int))) h ?_
          rintro ⟨x22, x23⟩ K h
          replace h : Leads _ (dag_Order_b4 x17 x20 x22 x23) := h
          unfold dag_Order_b4 at h
          show W _ _ _ _ _ _ [(6, .v 0 (.slice (.slice (.int .i64))) y1), (7, .v 9 (.slice (.int .i64)) x22), (22, .v 0 (.slice (.slice (.int .i64))) y1), (23, .v 0 (.int .i64) (y1.length : Int)), (24, .v 0 (.int .i64) x17), (28, .v 0 (.slice (.int .i64)) x20), (29, .v 0 (.int .i64) (x20.length : Int)), (30, .v 0 (.int .i64) x23)]
          refine W_seq ?_
          refine W_region mixed tys_ok (sup := []) (l := [(6, 0), (7, 9), (22, 0), (23, 0), (24, 0), (28, 0), (29, 0), (30, 0), (31, 0)]) (E' := [(6, .v 0 (.slice (.slice (.int .i64))) y1), (7, .v 9 (.slice (.int .i64)) x22), (22, .v 0 (.slice (.slice (.int .i64))) y1), (23, .v 0 (.int .i64) (y1.length : Int)), (24, .v 0 (.int .i64) x17), (28, .v 0 (.slice (.int .i64)) x20), (29, .v 0 (.int .i64) (x20.length : Int)), (30, .v 0 (.int .i64) x23), (31, .v 0 .bool (decide (x23 < (x20.length : Int))))]) (obs := []) (by kernel_rfl) (trivial) ?_
          refine W_seq ?_
          refine W_cond (β := decide (x23 < (x20.length : Int))) (by kernel_rfl) (fun hb => ?_) (fun hb => ?_)
          · rw [cond_tt hb] at h
            refine W_skip ?_
            refine W_seq ?_
            refine W_block ?_
            refine W_seq ?_
            obtain ⟨o1, h⟩ := h.ass
            refine W_region mixed tys_ok (sup := []) (l := [(6, 0), (7, 9), (11, 0), (22, 0), (23, 0), (24, 0), (28, 0), (29, 0), (30, 0)]) (E' := [(6, .v 0 (.slice (.slice (.int .i64))) y1), (7, .v 9 (.slice (.int .i64)) x22), (11, .v 0 (.int .i64) (rd (0 : Int) x20 x23)), (22, .v 0 (.slice (.slice (.int .i64))) y1), (23, .v 0 (.int .i64) (y1.length : Int)), (24, .v 0 (.int .i64) x17), (28, .v 0 (.slice (.int .i64)) x20), (29, .v 0 (.int .i64) (x20.length : Int)), (30, .v 0 (.int .i64) x23)]) (obs := [0 ≤ x23 ∧ x23 < (x20.length : Int)]) (by kernel_rfl) (o1) ?_
            refine W_gen (x := rd (0 : Int) x20 x23) (En := fun x24 => [(6, .v 0 (.slice (.slice (.int .i64))) y1), (7, .v 9 (.slice (.int .i64)) x22), (11, .v 0 (.int .i64) x24), (22, .v 0 (.slice (.slice (.int .i64))) y1), (23, .v 0 (.int .i64) (y1.length : Int)), (24, .v 0 (.int .i64) x17), (28, .v 0 (.slice (.int .i64)) x20), (29, .v 0 (.int .i64) (x20.length : Int)), (30, .v 0 (.int .i64) x23)]) h (fun x24 h => ?_)
            obtain ⟨o1, h⟩ := h.ass
            refine W_region mixed tys_ok (sup := []) (l := [(6, 0), (7, 9), (22, 0), (23, 0), (24, 0), (28, 0), (29, 0), (30, 0)]) (E' := [(6, .v 0 (.slice (.slice (.int .i64))) y1), (7, .v 9 (.slice (.int .i64)) (wr x22 x24 (IntKind.i64.wrap ((rd (0 : Int) x22 x24) + (1 : Int))))), (22, .v 0 (.slice (.slice (.int .i64))) y1), (23, .v 0 (.int .i64) (y1.length : Int)), (24, .v 0 (.int .i64) x17), (28, .v 0 (.slice (.int .i64)) x20), (29, .v 0 (.int .i64) (x20.length : Int)), (30, .v 0 (.int .i64) x23)]) (obs := [0 ≤ x24 ∧ x24 < (x22.length : Int), 0 ≤ x24 ∧ x24 < (x22.length : Int)]) (by kernel_rfl) (⟨o1, o1⟩) ?_
            refine W_gen (x := wr x22 x24 (IntKind.i64.wrap ((rd (0 : Int) x22 x24) + (1 : Int)))) (En := fun x25 => [(6, .v 0 (.slice (.slice (.int .i64))) y1), (7, .v 9 (.slice (.int .i64)) x25), (22, .v 0 (.slice (.slice (.int .i64))) y1), (23, .v 0 (.int .i64) (y1.length : Int)), (24, .v 0 (.int .i64) x17), (28, .v 0 (.slice (.int .i64)) x20), (29, .v 0 (.int .i64) (x20.length : Int)), (30, .v 0 (.int .i64) x23)]) h (fun x25 h => ?_)
            refine W_blk ?_
            refine W_region mixed tys_ok (sup := []) (l := [(6, 0), (7, 9), (22, 0), (23, 0), (24, 0), (28, 0), (29, 0), (30, 0)]) (E' := [(6, .v 0 (.slice (.slice (.int .i64))) y1), (7, .v 9 (.slice (.int .i64)) x25), (22, .v 0 (.slice (.slice (.int .i64))) y1), (23, .v 0 (.int .i64) (y1.length : Int)), (24, .v 0 (.int .i64) x17), (28, .v 0 (.slice (.int .i64)) x20), (29, .v 0 (.int .i64) (x20.length : Int)), (30, .v 0 (.int .i64) (IntKind.i64.wrap (x23 + (1 : Int))))]) (obs := []) (by kernel_rfl) (trivial) ?_
            refine W_gen (x := IntKind.i64.wrap (x23 + (1 : Int))) (En := fun x26 => [(6, .v 0 (.slice (.slice (.int .i64))) y1), (7, .v 9 (.slice (.int .i64)) x25), (22, .v 0 (.slice (.slice (.int .i64))) y1), (23, .v 0 (.int .i64) (y1.length : Int)), (24, .v 0 (.int .i64) x17), (28, .v 0 (.slice (.int .i64)) x20), (29, .v 0 (.int .i64) (x20.length : Int)), (30, .v 0 (.int .i64) x26)]) h (fun x26 h => ?_)
            refine W_keep (l := [(6, 0), (7, 9), (22, 0), (23, 0), (24, 0), (28, 0), (29, 0), (30, 0)]) (E' := [(6, .v 0 (.slice (.slice (.int .i64))) y1), (7, .v 9 (.slice (.int .i64)) x25), (22, .v 0 (.slice (.slice (.int .i64))) y1), (23, .v 0 (.int .i64) (y1.length : Int)), (24, .v 0 (.int .i64) x17), (28, .v 0 (.slice (.int .i64)) x20), (29, .v 0 (.int .i64) (x20.length : Int)), (30, .v 0 (.int .i64) x26)]) (by kernel_rfl) ?_
            exact W_abs h
          · rw [cond_ff hb] at h
            refine W_exit rfl ?_
            refine W_keep (l := [(6, 0), (7, 9), (22, 0), (23, 0), (24, 0)]) (E' := [(6, .v 0 (.slice (.slice (.int .i64))) y1), (7, .v 9 (.slice (.int .i64)) x22), (22, .v 0 (.slice (.slice (.int .i64))) y1), (23, .v 0 (.int .i64) (y1.length : Int)), (24, .v 0 (.int .i64) x17)]) (by kernel_rfl) ?_
            exact j4 x22 h.back
    · rw [cond_ff hb] at h
      refine W_exit rfl ?_
      refine W_keep (l := [(6, 0), (7, 9)]) (E' := [(6, .v 0 (.slice (.slice (.int .i64))) y1), (7, .v 9 (.slice (.int .i64)) x16)]) (by kernel_rfl) ?_
      exact j1 x16 h.back

noncomputable def dag_Ring (p0 : Int) (p1 : List D_dag_Arrow) : Option Bool :=
  (dag_Order p0 p1).bind fun y1 =>
  bnd (!y1.2) fun x2 =>
  some x2
theorem dag_Ring.ok {p0 : Int} {p1 : List D_dag_Arrow} {r : Bool} (h : dag_Ring p0 p1 = some r) : ACall prog 123 [⟨.int .i64, p0⟩, ⟨.slice T_dag_Arrow, p1⟩] [⟨0, .bool, r⟩] := by
  replace h := Leads.of h
  unfold dag_Ring at h
  refine acall_of func123 (by kernel_rfl) rfl (by kernel_rfl) fun w0 F0 hw0 => ?_
  refine W_seq ?_
  refine W_region mixed tys_ok (sup := []) (l := [(0, 0), (1, 0)]) (E' := [(0, .v 0 (.int .i64) p0), (1, .v 0 (.slice T_dag_Arrow) p1)]) (obs := []) (by kernel_rfl) (trivial) ?_
  refine W_seq ?_
  obtain ⟨y1, ey1, h⟩ := h.bind
  refine W_region mixed tys_ok (sup := [.res [(9, ⟨9, .slice (.int .i64), y1.1⟩), (0, ⟨0, .bool, y1.2⟩)]]) (l := [(6, 0)]) (E' := [(6, .v 0 .bool y1.2)]) (obs := [ACall prog 216 [⟨.int .i64, p0⟩, ⟨.slice T_dag_Arrow, p1⟩] [⟨9, .slice (.int .i64), y1.1⟩, ⟨0, .bool, y1.2⟩]]) (by kernel_rfl) (dag_Order.ok ey1) ?_
  refine W_seq ?_
  refine W_region mixed tys_ok (sup := []) (l := [(4, 0)]) (E' := [(4, .v 0 .bool (!y1.2))]) (obs := []) (by kernel_rfl) (trivial) ?_
  refine W_gen (x := !y1.2) (En := fun x2 => [(4, .v 0 .bool x2)]) h (fun x2 h => ?_)
  refine W_keep (l := [(4, 0)]) (E' := [(4, .v 0 .bool x2)]) (by kernel_rfl) ?_
  replace h : x2 = r := h
  subst h
  exact W_ret tys_ok hw0 (by kernel_rfl) (by kernel_rfl)

end Go.Tom
