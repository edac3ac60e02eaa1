/- Each function of the program as a pure one, and the proof that the code keeps that contract. -/
import Derived.Test.YtoalafcmlgjlpaaGenB
set_option linter.unusedVariables false
set_option linter.constructorNameAsVariable false
set_option maxRecDepth 100000
namespace Go.Tom
open Go Go.Proofs.Try
noncomputable def l14_arrows_j1 : Option (Bool) :=
  some true
noncomputable def l14_arrows_b1 (p0 : List D_dag_Arrow) (p1 : List D_r13_Arrow) (x1 : Int) : Option (Int ⊕ Bool) :=
  bif decide (x1 < (p0.length : Int)) then
    ass (0 ≤ x1 ∧ x1 < (p0.length : Int)) <|
    ass (0 ≤ x1 ∧ x1 < (p1.length : Int)) <|
    ass ((!((rd z_dag_Arrow p0 x1).1 != (rd z_r13_Arrow p1 x1).1)) = true → 0 ≤ x1 ∧ x1 < (p0.length : Int)) <|
    ass ((!((rd z_dag_Arrow p0 x1).1 != (rd z_r13_Arrow p1 x1).1)) = true → 0 ≤ x1 ∧ x1 < (p1.length : Int)) <|
    bif ((rd z_dag_Arrow p0 x1).1 != (rd z_r13_Arrow p1 x1).1) || ((rd z_dag_Arrow p0 x1).2 != (rd z_r13_Arrow p1 x1).2) then
      some (.inr false)
    else
      bnd (IntKind.i64.wrap (x1 + (1 : Int))) fun x2 =>
      some (.inl x2)
  else
    (l14_arrows_j1).map .inr
noncomputable def l14_arrows (p0 : List D_dag_Arrow) (p1 : List D_r13_Arrow) : Option Bool :=
  bif (p0.length : Int) != (p1.length : Int) then
    some false
  else
    loopM (fun x : Int => l14_arrows_b1 p0 p1 x) (0 : Int)
theorem l14_arrows.ok {p0 : List D_dag_Arrow} {p1 : List D_r13_Arrow} {r : Bool} (h : l14_arrows p0 p1 = some r) : ACall prog 47 [⟨.slice T_dag_Arrow, p0⟩, ⟨.slice T_r13_Arrow, p1⟩] [⟨0, .bool, r⟩] := by
  replace h := Leads.of h
  unfold l14_arrows at h
  refine acall_of func47 (by kernel_rfl) rfl (by kernel_rfl) fun w0 F0 hw0 => ?_
  refine W_seq ?_
  refine W_region mixed tys_ok (sup := []) (l := [(0, 0), (1, 0)]) (E' := [(0, .v 0 (.slice T_dag_Arrow) p0), (1, .v 0 (.slice T_r13_Arrow) p1)]) (obs := []) (by kernel_rfl) (trivial) ?_
  refine W_seq ?_
  refine W_seq ?_
  refine W_region mixed tys_ok (sup := []) (l := [(0, 0), (1, 0), (10, 0)]) (E' := [(0, .v 0 (.slice T_dag_Arrow) p0), (1, .v 0 (.slice T_r13_Arrow) p1), (10, .v 0 .bool ((p0.length : Int) != (p1.length : Int)))]) (obs := []) (by kernel_rfl) (trivial) ?_
  refine W_cond (β := (p0.length : Int) != (p1.length : Int)) (by kernel_rfl) (fun hb => ?_) (fun hb => ?_)
  · rw [cond_tt hb] at h
    refine W_seq ?_
    refine W_region mixed tys_ok (sup := []) (l := [(4, 0)]) (E' := [(4, .v 0 .bool false)]) (obs := []) (by kernel_rfl) (trivial) ?_
    refine W_keep (l := [(4, 0)]) (E' := [(4, .v 0 .bool false)]) (by kernel_rfl) ?_
    replace h : false = r := h
    subst h
    exact W_ret tys_ok hw0 (by kernel_rfl) (by kernel_rfl)
  · rw [cond_ff hb] at h
    refine W_skip ?_
    refine W_seq ?_
    refine W_seq ?_
    refine W_region mixed tys_ok (sup := []) (l := [(0, 0), (1, 0), (5, 0)]) (E' := [(0, .v 0 (.slice T_dag_Arrow) p0), (1, .v 0 (.slice T_r13_Arrow) p1), (5, .v 0 (.int .i64) (0 : Int))]) (obs := []) (by kernel_rfl) (trivial) ?_
    refine W_join h (Ej := fun (x : Unit) => []) (p := fun x => l14_arrows_j1) ?_ ?_
    · rintro ⟨⟩ h
      replace h : Leads _ (l14_arrows_j1) := h
      unfold l14_arrows_j1 at h
      show W _ _ _ _ _ _ []
      refine W_seq ?_
      refine W_region mixed tys_ok (sup := []) (l := [(4, 0)]) (E' := [(4, .v 0 .bool true)]) (obs := []) (by kernel_rfl) (trivial) ?_
      refine W_keep (l := [(4, 0)]) (E' := [(4, .v 0 .bool true)]) (by kernel_rfl) ?_
      replace h : true = r := h
      subst h
      exact W_ret tys_ok hw0 (by kernel_rfl) (by kernel_rfl)
    · intro j1
      refine W_block ?_
      refine W_keep (l := [(0, 0), (1, 0), (5, 0)]) (E' := [(0, .v 0 (.slice T_dag_Arrow) p0), (1, .v 0 (.slice T_r13_Arrow) p1), (5, .v 0 (.int .i64) (0 : Int))]) (by kernel_rfl) ?_
      refine W_loop' (En := fun (x : Int) => [(0, .v 0 (.slice T_dag_Arrow) p0), (1, .v 0 (.slice T_r13_Arrow) p1), (5, .v 0 (.int .i64) x)]) (x := (0 : Int)) h ?_
      rintro x1 K h
      replace h : Leads _ (l14_arrows_b1 p0 p1 x1) := h
      unfold l14_arrows_b1 at h
      show W _ _ _ _ _ _ [(0, .v 0 (.slice T_dag_Arrow) p0), (1, .v 0 (.slice T_r13_Arrow) p1), (5, .v 0 (.int .i64) x1)]
      refine W_seq ?_
      refine W_seq ?_
      refine W_region mixed tys_ok (sup := []) (l := [(0, 0), (1, 0), (5, 0), (14, 0)]) (E' := [(0, .v 0 (.slice T_dag_Arrow) p0), (1, .v 0 (.slice T_r13_Arrow) p1), (5, .v 0 (.int .i64) x1), (14, .v 0 .bool (decide (x1 < (p0.length : Int))))]) (obs := []) (by kernel_rfl) (trivial) ?_
      refine W_cond (β := decide (x1 < (p0.length : Int))) (by kernel_rfl) (fun hb => ?_) (fun hb => ?_)
      · rw [cond_tt hb] at h
        refine W_skip ?_
        refine W_seq ?_
        refine W_block ?_
        refine W_seq ?_
        obtain ⟨o1, h⟩ := h.ass
        obtain ⟨o2, h⟩ := h.ass
        obtain ⟨o3, h⟩ := h.ass
        obtain ⟨o4, h⟩ := h.ass
        refine W_region mixed tys_ok (sup := []) (l := [(0, 0), (1, 0), (5, 0), (40, 0)]) (E' := [(0, .v 0 (.slice T_dag_Arrow) p0), (1, .v 0 (.slice T_r13_Arrow) p1), (5, .v 0 (.int .i64) x1), (40, .v 0 .bool (((rd z_dag_Arrow p0 x1).1 != (rd z_r13_Arrow p1 x1).1) || ((rd z_dag_Arrow p0 x1).2 != (rd z_r13_Arrow p1 x1).2)))]) (obs := [0 ≤ x1 ∧ x1 < (p0.length : Int), 0 ≤ x1 ∧ x1 < (p1.length : Int), (!((rd z_dag_Arrow p0 x1).1 != (rd z_r13_Arrow p1 x1).1)) = true → 0 ≤ x1 ∧ x1 < (p0.length : Int), (!((rd z_dag_Arrow p0 x1).1 != (rd z_r13_Arrow p1 x1).1)) = true → 0 ≤ x1 ∧ x1 < (p1.length : Int)]) (by kernel_rfl) (⟨o1, o2, o3, o4⟩) ?_
        refine W_cond (β := ((rd z_dag_Arrow p0 x1).1 != (rd z_r13_Arrow p1 x1).1) || ((rd z_dag_Arrow p0 x1).2 != (rd z_r13_Arrow p1 x1).2)) (by kernel_rfl) (fun hb => ?_) (fun hb => ?_)
        · rw [cond_tt hb] at h
          refine W_seq ?_
          refine W_region mixed tys_ok (sup := []) (l := [(4, 0)]) (E' := [(4, .v 0 .bool false)]) (obs := []) (by kernel_rfl) (trivial) ?_
          refine W_keep (l := [(4, 0)]) (E' := [(4, .v 0 .bool false)]) (by kernel_rfl) ?_
          replace h : false = r := h
          subst h
          exact W_ret tys_ok hw0 (by kernel_rfl) (by kernel_rfl)
        · rw [cond_ff hb] at h
          refine W_skip ?_
          refine W_blk ?_
          refine W_region mixed tys_ok (sup := []) (l := [(0, 0), (1, 0), (5, 0)]) (E' := [(0, .v 0 (.slice T_dag_Arrow) p0), (1, .v 0 (.slice T_r13_Arrow) p1), (5, .v 0 (.int .i64) (IntKind.i64.wrap (x1 + (1 : Int))))]) (obs := []) (by kernel_rfl) (trivial) ?_
          refine W_gen (x := IntKind.i64.wrap (x1 + (1 : Int))) (En := fun x2 => [(0, .v 0 (.slice T_dag_Arrow) p0), (1, .v 0 (.slice T_r13_Arrow) p1), (5, .v 0 (.int .i64) x2)]) h (fun x2 h => ?_)
          refine W_keep (l := [(0, 0), (1, 0), (5, 0)]) (E' := [(0, .v 0 (.slice T_dag_Arrow) p0), (1, .v 0 (.slice T_r13_Arrow) p1), (5, .v 0 (.int .i64) x2)]) (by kernel_rfl) ?_
          exact W_abs h
      · rw [cond_ff hb] at h
        refine W_exit rfl ?_
        refine W_keep (l := []) (E' := []) (by kernel_rfl) ?_
        exact j1 () h.back

noncomputable def l14_StateFine (p0 : D_api_State) (p1 : D_api_State) (p2 : Int) : Option Bool :=
  (r14_Small p0).bind fun y1 =>
  (bif !(!y1) then r14_Small p1 else some false).bind fun y2 =>
  bif (!y1) || (!y2) then
    (l14_alive).bind fun y3 =>
    some y3
  else
    (state_New p2).bind fun y4 =>
    (bif (!((y4.2 == (0 : Int)) != ((decide (p2 ≥ (1 : Int))) && (decide (p2 ≤ (1000 : Int)))))) && (y4.2 == (0 : Int)) then r14_Same y4.1 ([true], ([] : List D_api_Ticket), ([] : List D_api_Thread), ([] : List D_api_Lock), ([] : List Int), p2) else some false).bind fun y5 =>
    (bif ((!(((y4.2 == (0 : Int)) != ((decide (p2 ≥ (1 : Int))) && (decide (p2 ≤ (1000 : Int))))) || ((y4.2 == (0 : Int)) && (!y5)))) && (y4.2 != (0 : Int))) && (!(y4.2 != (1 : Int))) then r14_Same y4.1 (([] : List Bool), ([] : List D_api_Ticket), ([] : List D_api_Thread), ([] : List D_api_Lock), ([] : List Int), (0 : Int)) else some false).bind fun y6 =>
    bif (((y4.2 == (0 : Int)) != ((decide (p2 ≥ (1 : Int))) && (decide (p2 ≤ (1000 : Int))))) || ((y4.2 == (0 : Int)) && (!y5))) || ((y4.2 != (0 : Int)) && ((y4.2 != (1 : Int)) || (!y6))) then
      some false
    else
      (state_Fine p0).bind fun y7 =>
      (r14_Fine p0).bind fun y8 =>
      (bif !(y7 != y8) then state_Same p0 p1 else some false).bind fun y9 =>
      (bif !(y7 != y8) then r14_Same p0 p1 else some false).bind fun y10 =>
      (bif !((y7 != y8) || (y9 != y10)) then state_Copy p0 else some (([] : List Bool), ([] : List D_api_Ticket), ([] : List D_api_Thread), ([] : List D_api_Lock), ([] : List Int), (0 : Int))).bind fun y11 =>
      (bif !((y7 != y8) || (y9 != y10)) then r14_Same y11 p0 else some false).bind fun y12 =>
      (bif !(((y7 != y8) || (y9 != y10)) || (!y12)) then state_Trim p0 else some (([] : List Bool), ([] : List D_api_Ticket), ([] : List D_api_Thread), ([] : List D_api_Lock), ([] : List Int), (0 : Int))).bind fun y13 =>
      (bif !(((y7 != y8) || (y9 != y10)) || (!y12)) then r14_Trim p0 else some (([] : List Bool), ([] : List D_api_Ticket), ([] : List D_api_Thread), ([] : List D_api_Lock), ([] : List Int), (0 : Int))).bind fun y14 =>
      (bif !(((y7 != y8) || (y9 != y10)) || (!y12)) then r14_Same y13 y14 else some false).bind fun y15 =>
      bif (((y7 != y8) || (y9 != y10)) || (!y12)) || (!y15) then
        some false
      else
        (r14_Fine p0).bind fun y16 =>
        bif y16 then
          (state_CoinArrows p0).bind fun y17 =>
          (r14_CoinArrows p0).bind fun y18 =>
          (l14_arrows y17 y18).bind fun y19 =>
          (bif y19 then state_ThreadArrows p0 else some ([] : List D_dag_Arrow)).bind fun y20 =>
          (bif y19 then r14_ThreadArrows p0 else some ([] : List D_r13_Arrow)).bind fun y21 =>
          (bif y19 then l14_arrows y20 y21 else some false).bind fun y22 =>
          (bif y19 && y22 then l14_alive else some false).bind fun y23 =>
          bnd ((y19 && y22) && y23) fun x24 =>
          some x24
        else
          (l14_alive).bind fun y25 =>
          some y25
theorem l14_StateFine.ok {p0 : D_api_State} {p1 : D_api_State} {p2 : Int} {r : Bool} (h : l14_StateFine p0 p1 p2 = some r) : ACall prog 7 [⟨T_api_State, p0⟩, ⟨T_api_State, p1⟩, ⟨.int .i64, p2⟩] [⟨0, .bool, r⟩] := by
  replace h := Leads.of h
  unfold l14_StateFine at h
  refine acall_of func7 (by kernel_rfl) rfl (by kernel_rfl) fun w0 F0 hw0 => ?_
  refine W_seq ?_
  refine W_region mixed tys_ok (sup := []) (l := [(2, 0), (3, 0), (4, 0)]) (E' := [(2, .v 0 (.int .i64) p2), (3, .box 0 T_api_State p0), (4, .box 0 T_api_State p1)]) (obs := []) (by kernel_rfl) (trivial) ?_
  refine W_seq ?_
  refine W_seq ?_
  obtain ⟨y1, ey1, h⟩ := h.bind
  obtain ⟨y2, ey2, h⟩ := h.bind
  refine W_region mixed tys_ok (sup := [.res [(0, ⟨0, .bool, y1⟩)], .res [(0, ⟨0, .bool, y2⟩)]]) (l := [(2, 0), (3, 0), (4, 0), (16, 0)]) (E' := [(2, .v 0 (.int .i64) p2), (3, .box 0 T_api_State p0), (4, .box 0 T_api_State p1), (16, .v 0 .bool ((!y1) || (!y2)))]) (obs := [ACall prog 11 [⟨T_api_State, p0⟩] [⟨0, .bool, y1⟩], (!(!y1)) = true → ACall prog 11 [⟨T_api_State, p1⟩] [⟨0, .bool, y2⟩]]) (by kernel_rfl) (⟨r14_Small.ok ey1, fun hc => r14_Small.ok (bif_some ey2 hc)⟩) ?_
  refine W_cond (β := (!y1) || (!y2)) (by kernel_rfl) (fun hb => ?_) (fun hb => ?_)
  · rw [cond_tt hb] at h
    refine W_seq ?_
    obtain ⟨y3, ey3, h⟩ := h.bind
    refine W_region mixed tys_ok (sup := [.res [(0, ⟨0, .bool, y3⟩)]]) (l := [(6, 0)]) (E' := [(6, .v 0 .bool y3)]) (obs := [ACall prog 40 [] [⟨0, .bool, y3⟩]]) (by kernel_rfl) (l14_alive.ok ey3) ?_
    refine W_keep (l := [(6, 0)]) (E' := [(6, .v 0 .bool y3)]) (by kernel_rfl) ?_
    replace h : y3 = r := h
    subst h
    exact W_ret tys_ok hw0 (by kernel_rfl) (by kernel_rfl)
  · rw [cond_ff hb] at h
    refine W_skip ?_
    refine W_seq ?_
    obtain ⟨y4, ey4, h⟩ := h.bind
    refine W_region mixed tys_ok (sup := [.res [(0, ⟨0, T_api_State, y4.1⟩), (0, ⟨0, .int .i64, y4.2⟩)]]) (l := [(2, 0), (3, 0), (4, 0), (7, 0), (8, 0)]) (E' := [(2, .v 0 (.int .i64) p2), (3, .box 0 T_api_State p0), (4, .box 0 T_api_State p1), (7, .box 0 T_api_State y4.1), (8, .v 0 (.int .i64) y4.2)]) (obs := [ACall prog 41 [⟨.int .i64, p2⟩] [⟨0, T_api_State, y4.1⟩, ⟨0, .int .i64, y4.2⟩]]) (by kernel_rfl) (state_New.ok ey4) ?_
    refine W_seq ?_
    refine W_seq ?_
    obtain ⟨y5, ey5, h⟩ := h.bind
    obtain ⟨y6, ey6, h⟩ := h.bind
    refine W_region mixed tys_ok (sup := [.frz, .res [(0, ⟨0, .bool, y5⟩)], .res [(0, ⟨0, .bool, y6⟩)]]) (l := [(3, 0), (4, 0), (57, 0)]) (E' := [(3, .box 0 T_api_State p0), (4, .box 0 T_api_State p1), (57, .v 0 .bool ((((y4.2 == (0 : Int)) != ((decide (p2 ≥ (1 : Int))) && (decide (p2 ≤ (1000 : Int))))) || ((y4.2 == (0 : Int)) && (!y5))) || ((y4.2 != (0 : Int)) && ((y4.2 != (1 : Int)) || (!y6)))))]) (obs := [((!((y4.2 == (0 : Int)) != ((decide (p2 ≥ (1 : Int))) && (decide (p2 ≤ (1000 : Int)))))) && (y4.2 == (0 : Int))) = true → ACall prog 17 [⟨T_api_State, y4.1⟩, ⟨T_api_State, ([true], ([] : List D_api_Ticket), ([] : List D_api_Thread), ([] : List D_api_Lock), ([] : List Int), p2)⟩] [⟨0, .bool, y5⟩], (((!(((y4.2 == (0 : Int)) != ((decide (p2 ≥ (1 : Int))) && (decide (p2 ≤ (1000 : Int))))) || ((y4.2 == (0 : Int)) && (!y5)))) && (y4.2 != (0 : Int))) && (!(y4.2 != (1 : Int)))) = true → ACall prog 17 [⟨T_api_State, y4.1⟩, ⟨T_api_State, (([] : List Bool), ([] : List D_api_Ticket), ([] : List D_api_Thread), ([] : List D_api_Lock), ([] : List Int), (0 : Int))⟩] [⟨0, .bool, y6⟩]]) (by kernel_rfl) (⟨fun hc => r14_Same.ok (bif_some ey5 hc), fun hc => r14_Same.ok (bif_some ey6 hc)⟩) ?_
    refine W_cond (β := (((y4.2 == (0 : Int)) != ((decide (p2 ≥ (1 : Int))) && (decide (p2 ≤ (1000 : Int))))) || ((y4.2 == (0 : Int)) && (!y5))) || ((y4.2 != (0 : Int)) && ((y4.2 != (1 : Int)) || (!y6)))) (by kernel_rfl) (fun hb => ?_) (fun hb => ?_)
    · rw [cond_tt hb] at h
      refine W_seq ?_
      refine W_region mixed tys_ok (sup := []) (l := [(6, 0)]) (E' := [(6, .v 0 .bool false)]) (obs := []) (by kernel_rfl) (trivial) ?_
      refine W_keep (l := [(6, 0)]) (E' := [(6, .v 0 .bool false)]) (by kernel_rfl) ?_
      replace h : false = r := h
      subst h
      exact W_ret tys_ok hw0 (by kernel_rfl) (by kernel_rfl)
    · rw [cond_ff hb] at h
      refine W_skip ?_
      refine W_seq ?_
      refine W_seq ?_
      obtain ⟨y7, ey7, h⟩ := h.bind
      obtain ⟨y8, ey8, h⟩ := h.bind
      obtain ⟨y9, ey9, h⟩ := h.bind
      obtain ⟨y10, ey10, h⟩ := h.bind
      obtain ⟨y11, ey11, h⟩ := h.bind
      obtain ⟨y12, ey12, h⟩ := h.bind
      obtain ⟨y13, ey13, h⟩ := h.bind
      obtain ⟨y14, ey14, h⟩ := h.bind
      obtain ⟨y15, ey15, h⟩ := h.bind
      refine W_region mixed tys_ok (sup := [.res [(0, ⟨0, .bool, y7⟩)], .res [(0, ⟨0, .bool, y8⟩)], .res [(0, ⟨0, .bool, y9⟩)], .res [(0, ⟨0, .bool, y10⟩)], .res [(0, ⟨(.pr 9 (.pr 9 (.pr 9 (.pr 9 (.pr 9 0))))), T_api_State, y11⟩)], .res [(0, ⟨0, .bool, y12⟩)], .res [(0, ⟨(.pr 9 (.pr 9 (.pr 9 (.pr 9 (.pr 9 0))))), T_api_State, y13⟩)], .res [(0, ⟨0, T_api_State, y14⟩)], .res [(0, ⟨0, .bool, y15⟩)]]) (l := [(3, 0), (86, 0)]) (E' := [(3, .box 0 T_api_State p0), (86, .v 0 .bool ((((y7 != y8) || (y9 != y10)) || (!y12)) || (!y15)))]) (obs := [ACall prog 42 [⟨T_api_State, p0⟩] [⟨0, .bool, y7⟩], ACall prog 13 [⟨T_api_State, p0⟩] [⟨0, .bool, y8⟩], (!(y7 != y8)) = true → ACall prog 43 [⟨T_api_State, p0⟩, ⟨T_api_State, p1⟩] [⟨0, .bool, y9⟩], (!(y7 != y8)) = true → ACall prog 17 [⟨T_api_State, p0⟩, ⟨T_api_State, p1⟩] [⟨0, .bool, y10⟩], (!((y7 != y8) || (y9 != y10))) = true → ACall prog 44 [⟨T_api_State, p0⟩] [⟨(.pr 9 (.pr 9 (.pr 9 (.pr 9 (.pr 9 0))))), T_api_State, y11⟩], (!((y7 != y8) || (y9 != y10))) = true → ACall prog 17 [⟨T_api_State, y11⟩, ⟨T_api_State, p0⟩] [⟨0, .bool, y12⟩], (!(((y7 != y8) || (y9 != y10)) || (!y12))) = true → ACall prog 45 [⟨T_api_State, p0⟩] [⟨(.pr 9 (.pr 9 (.pr 9 (.pr 9 (.pr 9 0))))), T_api_State, y13⟩], (!(((y7 != y8) || (y9 != y10)) || (!y12))) = true → ACall prog 46 [⟨T_api_State, p0⟩] [⟨0, T_api_State, y14⟩], (!(((y7 != y8) || (y9 != y10)) || (!y12))) = true → ACall prog 17 [⟨T_api_State, y13⟩, ⟨T_api_State, y14⟩] [⟨0, .bool, y15⟩]]) (by kernel_rfl) (⟨state_Fine.ok ey7, r14_Fine.ok ey8, fun hc => state_Same.ok (bif_some ey9 hc), fun hc => r14_Same.ok (bif_some ey10 hc), fun hc => state_Copy.ok (bif_some ey11 hc), fun hc => r14_Same.ok (bif_some ey12 hc), fun hc => state_Trim.ok (bif_some ey13 hc), fun hc => r14_Trim.ok (bif_some ey14 hc), fun hc => r14_Same.ok (bif_some ey15 hc)⟩) ?_
      refine W_cond (β := (((y7 != y8) || (y9 != y10)) || (!y12)) || (!y15)) (by kernel_rfl) (fun hb => ?_) (fun hb => ?_)
      · rw [cond_tt hb] at h
        refine W_seq ?_
        refine W_region mixed tys_ok (sup := []) (l := [(6, 0)]) (E' := [(6, .v 0 .bool false)]) (obs := []) (by kernel_rfl) (trivial) ?_
        refine W_keep (l := [(6, 0)]) (E' := [(6, .v 0 .bool false)]) (by kernel_rfl) ?_
        replace h : false = r := h
        subst h
        exact W_ret tys_ok hw0 (by kernel_rfl) (by kernel_rfl)
      · rw [cond_ff hb] at h
        refine W_skip ?_
        refine W_seq ?_
        refine W_seq ?_
        obtain ⟨y16, ey16, h⟩ := h.bind
        refine W_region mixed tys_ok (sup := [.res [(0, ⟨0, .bool, y16⟩)]]) (l := [(3, 0), (88, 0)]) (E' := [(3, .box 0 T_api_State p0), (88, .v 0 .bool y16)]) (obs := [ACall prog 13 [⟨T_api_State, p0⟩] [⟨0, .bool, y16⟩]]) (by kernel_rfl) (r14_Fine.ok ey16) ?_
        refine W_cond (β := y16) (by kernel_rfl) (fun hb => ?_) (fun hb => ?_)
        · rw [cond_tt hb] at h
          refine W_seq ?_
          obtain ⟨y17, ey17, h⟩ := h.bind
          obtain ⟨y18, ey18, h⟩ := h.bind
          obtain ⟨y19, ey19, h⟩ := h.bind
          obtain ⟨y20, ey20, h⟩ := h.bind
          obtain ⟨y21, ey21, h⟩ := h.bind
          obtain ⟨y22, ey22, h⟩ := h.bind
          obtain ⟨y23, ey23, h⟩ := h.bind
          refine W_region mixed tys_ok (sup := [.res [(9, ⟨9, .slice T_dag_Arrow, y17⟩)], .res [(9, ⟨9, .slice T_r13_Arrow, y18⟩)], .res [(0, ⟨0, .bool, y19⟩)], .res [(0, ⟨9, .slice T_dag_Arrow, y20⟩)], .res [(0, ⟨9, .slice T_r13_Arrow, y21⟩)], .res [(0, ⟨0, .bool, y22⟩)], .res [(0, ⟨0, .bool, y23⟩)]]) (l := [(6, 0)]) (E' := [(6, .v 0 .bool ((y19 && y22) && y23))]) (obs := [ACall prog 48 [⟨T_api_State, p0⟩] [⟨9, .slice T_dag_Arrow, y17⟩], ACall prog 49 [⟨T_api_State, p0⟩] [⟨9, .slice T_r13_Arrow, y18⟩], ACall prog 47 [⟨.slice T_dag_Arrow, y17⟩, ⟨.slice T_r13_Arrow, y18⟩] [⟨0, .bool, y19⟩], y19 = true → ACall prog 50 [⟨T_api_State, p0⟩] [⟨9, .slice T_dag_Arrow, y20⟩], y19 = true → ACall prog 51 [⟨T_api_State, p0⟩] [⟨9, .slice T_r13_Arrow, y21⟩], y19 = true → ACall prog 47 [⟨.slice T_dag_Arrow, y20⟩, ⟨.slice T_r13_Arrow, y21⟩] [⟨0, .bool, y22⟩], (y19 && y22) = true → ACall prog 40 [] [⟨0, .bool, y23⟩]]) (by kernel_rfl) (⟨state_CoinArrows.ok ey17, r14_CoinArrows.ok ey18, l14_arrows.ok ey19, fun hc => state_ThreadArrows.ok (bif_some ey20 hc), fun hc => r14_ThreadArrows.ok (bif_some ey21 hc), fun hc => l14_arrows.ok (bif_some ey22 hc), fun hc => l14_alive.ok (bif_some ey23 hc)⟩) ?_
          refine W_gen (x := (y19 && y22) && y23) (En := fun x24 => [(6, .v 0 .bool x24)]) h (fun x24 h => ?_)
          refine W_keep (l := [(6, 0)]) (E' := [(6, .v 0 .bool x24)]) (by kernel_rfl) ?_
          replace h : x24 = r := h
          subst h
          exact W_ret tys_ok hw0 (by kernel_rfl) (by kernel_rfl)
        · rw [cond_ff hb] at h
          refine W_skip ?_
          refine W_seq ?_
          obtain ⟨y25, ey25, h⟩ := h.bind
          refine W_region mixed tys_ok (sup := [.res [(0, ⟨0, .bool, y25⟩)]]) (l := [(6, 0)]) (E' := [(6, .v 0 .bool y25)]) (obs := [ACall prog 40 [] [⟨0, .bool, y25⟩]]) (by kernel_rfl) (l14_alive.ok ey25) ?_
          refine W_keep (l := [(6, 0)]) (E' := [(6, .v 0 .bool y25)]) (by kernel_rfl) ?_
          replace h : y25 = r := h
          subst h
          exact W_ret tys_ok hw0 (by kernel_rfl) (by kernel_rfl)

noncomputable def chain_Next (p0 : D_api_State) (p1 : Int) : Option Int :=
  (state_Thread p0 p1).bind fun y1 =>
  bif y1.1.1 == (4 : Int) then
    some y1.1.2.1
  else
    bif y1.1.1 == (6 : Int) then
      (state_Lock p0 y1.1.2.1).bind fun y2 =>
      some y2.1.2
    else
      some (-1 : Int)
theorem chain_Next.ok {p0 : D_api_State} {p1 : Int} {r : Int} (h : chain_Next p0 p1 = some r) : ACall prog 227 [⟨T_api_State, p0⟩, ⟨.int .i64, p1⟩] [⟨0, .int .i64, r⟩] := by
  replace h := Leads.of h
  unfold chain_Next at h
  refine acall_of func227 (by kernel_rfl) rfl (by kernel_rfl) fun w0 F0 hw0 => ?_
  refine W_seq ?_
  refine W_region mixed tys_ok (sup := []) (l := [(1, 0), (2, 0)]) (E' := [(1, .v 0 (.int .i64) p1), (2, .box 0 T_api_State p0)]) (obs := []) (by kernel_rfl) (trivial) ?_
  refine W_seq ?_
  obtain ⟨y1, ey1, h⟩ := h.bind
  refine W_region mixed tys_ok (sup := [.res [(0, ⟨0, T_api_Thread, y1.1⟩), (0, ⟨0, .bool, y1.2⟩)]]) (l := [(2, 0), (5, 9)]) (E' := [(2, .box 0 T_api_State p0), (5, .box 9 T_api_Thread y1.1)]) (obs := [ACall prog 61 [⟨T_api_State, p0⟩, ⟨.int .i64, p1⟩] [⟨0, T_api_Thread, y1.1⟩, ⟨0, .bool, y1.2⟩]]) (by kernel_rfl) (state_Thread.ok ey1) ?_
  refine W_seq ?_
  refine W_seq ?_
  refine W_region mixed tys_ok (sup := []) (l := [(2, 0), (5, 9), (16, 0)]) (E' := [(2, .box 0 T_api_State p0), (5, .box 9 T_api_Thread y1.1), (16, .v 0 (.int .i64) y1.1.1)]) (obs := []) (by kernel_rfl) (trivial) ?_
  refine W_block ?_
  refine W_seq ?_
  refine W_region mixed tys_ok (sup := []) (l := [(2, 0), (5, 9), (16, 0), (17, 0)]) (E' := [(2, .box 0 T_api_State p0), (5, .box 9 T_api_Thread y1.1), (16, .v 0 (.int .i64) y1.1.1), (17, .v 0 .bool (y1.1.1 == (4 : Int)))]) (obs := []) (by kernel_rfl) (trivial) ?_
  refine W_cond (β := y1.1.1 == (4 : Int)) (by kernel_rfl) (fun hb => ?_) (fun hb => ?_)
  · rw [cond_tt hb] at h
    refine W_seq ?_
    refine W_region mixed tys_ok (sup := []) (l := [(4, 0)]) (E' := [(4, .v 0 (.int .i64) y1.1.2.1)]) (obs := []) (by kernel_rfl) (trivial) ?_
    refine W_keep (l := [(4, 0)]) (E' := [(4, .v 0 (.int .i64) y1.1.2.1)]) (by kernel_rfl) ?_
    replace h : y1.1.2.1 = r := h
    subst h
    exact W_ret tys_ok hw0 (by kernel_rfl) (by kernel_rfl)
  · rw [cond_ff hb] at h
    refine W_seq ?_
    refine W_region mixed tys_ok (sup := []) (l := [(2, 0), (5, 9), (21, 0)]) (E' := [(2, .box 0 T_api_State p0), (5, .box 9 T_api_Thread y1.1), (21, .v 0 .bool (y1.1.1 == (6 : Int)))]) (obs := []) (by kernel_rfl) (trivial) ?_
    refine W_cond (β := y1.1.1 == (6 : Int)) (by kernel_rfl) (fun hb => ?_) (fun hb => ?_)
    · rw [cond_tt hb] at h
      refine W_seq ?_
      obtain ⟨y2, ey2, h⟩ := h.bind
      refine W_region mixed tys_ok (sup := [.res [(0, ⟨0, T_api_Lock, y2.1⟩), (0, ⟨0, .bool, y2.2⟩)]]) (l := [(7, 9)]) (E' := [(7, .box 9 T_api_Lock y2.1)]) (obs := [ACall prog 62 [⟨T_api_State, p0⟩, ⟨.int .i64, y1.1.2.1⟩] [⟨0, T_api_Lock, y2.1⟩, ⟨0, .bool, y2.2⟩]]) (by kernel_rfl) (state_Lock.ok ey2) ?_
      refine W_seq ?_
      refine W_region mixed tys_ok (sup := []) (l := [(4, 0)]) (E' := [(4, .v 0 (.int .i64) y2.1.2)]) (obs := []) (by kernel_rfl) (trivial) ?_
      refine W_keep (l := [(4, 0)]) (E' := [(4, .v 0 (.int .i64) y2.1.2)]) (by kernel_rfl) ?_
      replace h : y2.1.2 = r := h
      subst h
      exact W_ret tys_ok hw0 (by kernel_rfl) (by kernel_rfl)
    · rw [cond_ff hb] at h
      refine W_skip ?_
      refine W_blk ?_
      refine W_seq ?_
      refine W_region mixed tys_ok (sup := []) (l := [(4, 0)]) (E' := [(4, .v 0 (.int .i64) (-1 : Int))]) (obs := []) (by kernel_rfl) (trivial) ?_
      refine W_keep (l := [(4, 0)]) (E' := [(4, .v 0 (.int .i64) (-1 : Int))]) (by kernel_rfl) ?_
      replace h : ((-1 : Int)) = r := h
      subst h
      exact W_ret tys_ok hw0 (by kernel_rfl) (by kernel_rfl)

noncomputable def chain_Tail_j1 (x2 : List Int) : Option (List Int) :=
  some x2
noncomputable def chain_Tail_b1 (p0 : D_api_State) (x3 : Int) (x4 : List Int) : Option ((Int × (List Int)) ⊕ (List Int)) :=
  bif x3 != (-1 : Int) then
    ass (((x4.length + [x3].length : Nat) : Int) ≤ limA) <|
    bnd (x4 ++ [x3]) fun x5 =>
    (chain_Next p0 x3).bind fun y6 =>
    some (.inl (y6, x5))
  else
    (chain_Tail_j1 x4).map .inr
noncomputable def chain_Tail (p0 : D_api_State) (p1 : Int) : Option (List Int) :=
  (state_Thread p0 p1).bind fun y1 =>
  bif !y1.2 then
    some ([] : List Int)
  else
    loopM (fun x : Int × (List Int) => chain_Tail_b1 p0 x.1 x.2) (p1, ([] : List Int))
theorem chain_Tail.ok {p0 : D_api_State} {p1 : Int} {r : List Int} (h : chain_Tail p0 p1 = some r) : ACall prog 182 [⟨T_api_State, p0⟩, ⟨.int .i64, p1⟩] [⟨9, .slice (.int .i64), r⟩] := by
  replace h := Leads.of h
  unfold chain_Tail at h
  refine acall_of func182 (by kernel_rfl) rfl (by kernel_rfl) fun w0 F0 hw0 => ?_
  refine W_seq ?_
  refine W_region mixed tys_ok (sup := []) (l := [(1, 0), (2, 0), (4, 9)]) (E' := [(1, .v 0 (.int .i64) p1), (2, .box 0 T_api_State p0), (4, .v 9 (.slice (.int .i64)) ([] : List Int))]) (obs := []) (by kernel_rfl) (trivial) ?_
  refine W_seq ?_
  refine W_seq ?_
  obtain ⟨y1, ey1, h⟩ := h.bind
  refine W_region mixed tys_ok (sup := [.res [(0, ⟨0, T_api_Thread, y1.1⟩), (0, ⟨0, .bool, y1.2⟩)]]) (l := [(1, 0), (2, 0), (4, 9), (6, 0)]) (E' := [(1, .v 0 (.int .i64) p1), (2, .box 0 T_api_State p0), (4, .v 9 (.slice (.int .i64)) ([] : List Int)), (6, .v 0 .bool y1.2)]) (obs := [ACall prog 61 [⟨T_api_State, p0⟩, ⟨.int .i64, p1⟩] [⟨0, T_api_Thread, y1.1⟩, ⟨0, .bool, y1.2⟩]]) (by kernel_rfl) (state_Thread.ok ey1) ?_
  refine W_seq ?_
  refine W_region mixed tys_ok (sup := []) (l := [(1, 0), (2, 0), (4, 9), (14, 0)]) (E' := [(1, .v 0 (.int .i64) p1), (2, .box 0 T_api_State p0), (4, .v 9 (.slice (.int .i64)) ([] : List Int)), (14, .v 0 .bool (!y1.2))]) (obs := []) (by kernel_rfl) (trivial) ?_
  refine W_cond (β := !y1.2) (by kernel_rfl) (fun hb => ?_) (fun hb => ?_)
  · rw [cond_tt hb] at h
    refine W_seq ?_
    refine W_region mixed tys_ok (sup := []) (l := [(4, 9)]) (E' := [(4, .v 9 (.slice (.int .i64)) ([] : List Int))]) (obs := []) (by kernel_rfl) (trivial) ?_
    refine W_keep (l := [(4, 9)]) (E' := [(4, .v 9 (.slice (.int .i64)) ([] : List Int))]) (by kernel_rfl) ?_
    replace h : (([] : List Int)) = r := h
    subst h
    exact W_ret tys_ok hw0 (by kernel_rfl) (by kernel_rfl)
  · rw [cond_ff hb] at h
    refine W_skip ?_
    refine W_seq ?_
    refine W_join h (Ej := fun (x : List Int) => [(4, .v 9 (.slice (.int .i64)) x)]) (p := fun x => chain_Tail_j1 x) ?_ ?_
    · rintro x2 h
      replace h : Leads _ (chain_Tail_j1 x2) := h
      unfold chain_Tail_j1 at h
      show W _ _ _ _ _ _ [(4, .v 9 (.slice (.int .i64)) x2)]
      refine W_seq ?_
      refine W_region mixed tys_ok (sup := []) (l := [(4, 9)]) (E' := [(4, .v 9 (.slice (.int .i64)) x2)]) (obs := []) (by kernel_rfl) (trivial) ?_
      refine W_keep (l := [(4, 9)]) (E' := [(4, .v 9 (.slice (.int .i64)) x2)]) (by kernel_rfl) ?_
      replace h : x2 = r := h
      subst h
      exact W_ret tys_ok hw0 (by kernel_rfl) (by kernel_rfl)
    · intro j1
      refine W_block ?_
      refine W_keep (l := [(1, 0), (2, 0), (4, 9)]) (E' := [(1, .v 0 (.int .i64) p1), (2, .box 0 T_api_State p0), (4, .v 9 (.slice (.int .i64)) ([] : List Int))]) (by kernel_rfl) ?_
      refine W_loop' (En := fun (x : Int × (List Int)) => [(1, .v 0 (.int .i64) x.1), (2, .box 0 T_api_State p0), (4, .v 9 (.slice (.int .i64)) x.2)]) (x := (p1, ([] : List Int))) h ?_
      rintro ⟨x3, x4⟩ K h
      replace h : Leads _ (chain_Tail_b1 p0 x3 x4) := h
      unfold chain_Tail_b1 at h
      show W _ _ _ _ _ _ [(1, .v 0 (.int .i64) x3), (2, .box 0 T_api_State p0), (4, .v 9 (.slice (.int .i64)) x4)]
      refine W_seq ?_
      refine W_seq ?_
      refine W_region mixed tys_ok (sup := []) (l := [(1, 0), (2, 0), (4, 9), (16, 0)]) (E' := [(1, .v 0 (.int .i64) x3), (2, .box 0 T_api_State p0), (4, .v 9 (.slice (.int .i64)) x4), (16, .v 0 .bool (x3 != (-1 : Int)))]) (obs := []) (by kernel_rfl) (trivial) ?_
      refine W_cond (β := x3 != (-1 : Int)) (by kernel_rfl) (fun hb => ?_) (fun hb => ?_)
      · rw [cond_tt hb] at h
        refine W_skip ?_
        refine W_seq ?_
        refine W_block ?_
        obtain ⟨o1, h⟩ := h.ass
        refine W_region mixed tys_ok (sup := []) (l := [(1, 0), (2, 0), (4, 9)]) (E' := [(1, .v 0 (.int .i64) x3), (2, .box 0 T_api_State p0), (4, .v 9 (.slice (.int .i64)) (x4 ++ [x3]))]) (obs := [((x4.length + [x3].length : Nat) : Int) ≤ limA]) (by kernel_rfl) (o1) ?_
        refine W_gen (x := x4 ++ [x3]) (En := fun x5 => [(1, .v 0 (.int .i64) x3), (2, .box 0 T_api_State p0), (4, .v 9 (.slice (.int .i64)) x5)]) h (fun x5 h => ?_)
        refine W_blk ?_
        obtain ⟨y6, ey6, h⟩ := h.bind
        refine W_region mixed tys_ok (sup := [.res [(0, ⟨0, .int .i64, y6⟩)]]) (l := [(1, 0), (2, 0), (4, 9)]) (E' := [(1, .v 0 (.int .i64) y6), (2, .box 0 T_api_State p0), (4, .v 9 (.slice (.int .i64)) x5)]) (obs := [ACall prog 227 [⟨T_api_State, p0⟩, ⟨.int .i64, x3⟩] [⟨0, .int .i64, y6⟩]]) (by kernel_rfl) (chain_Next.ok ey6) ?_
        refine W_keep (l := [(1, 0), (2, 0), (4, 9)]) (E' := [(1, .v 0 (.int .i64) y6), (2, .box 0 T_api_State p0), (4, .v 9 (.slice (.int .i64)) x5)]) (by kernel_rfl) ?_
        exact W_abs h
      · rw [cond_ff hb] at h
        refine W_exit rfl ?_
        refine W_keep (l := [(4, 9)]) (E' := [(4, .v 9 (.slice (.int .i64)) x4)]) (by kernel_rfl) ?_
        exact j1 x4 h.back

noncomputable def slices_Contains_int_int (p0 : List Int) (p1 : Int) : Option Bool :=
  (slices_Index_int_int p0 p1).bind fun y1 =>
  bnd (decide (y1 ≥ (0 : Int))) fun x2 =>
  some x2
theorem slices_Contains_int_int.ok {p0 : List Int} {p1 : Int} {r : Bool} (h : slices_Contains_int_int p0 p1 = some r) : ACall prog 181 [⟨.slice (.int .i64), p0⟩, ⟨.int .i64, p1⟩] [⟨0, .bool, r⟩] := by
  replace h := Leads.of h
  unfold slices_Contains_int_int at h
  refine acall_of func181 (by kernel_rfl) rfl (by kernel_rfl) fun w0 F0 hw0 => ?_
  refine W_seq ?_
  refine W_region mixed tys_ok (sup := []) (l := [(0, 0), (1, 0)]) (E' := [(0, .v 0 (.slice (.int .i64)) p0), (1, .v 0 (.int .i64) p1)]) (obs := []) (by kernel_rfl) (trivial) ?_
  refine W_seq ?_
  obtain ⟨y1, ey1, h⟩ := h.bind
  refine W_region mixed tys_ok (sup := [.res [(0, ⟨0, .int .i64, y1⟩)]]) (l := [(4, 0)]) (E' := [(4, .v 0 .bool (decide (y1 ≥ (0 : Int))))]) (obs := [ACall prog 226 [⟨.slice (.int .i64), p0⟩, ⟨.int .i64, p1⟩] [⟨0, .int .i64, y1⟩]]) (by kernel_rfl) (slices_Index_int_int.ok ey1) ?_
  refine W_gen (x := decide (y1 ≥ (0 : Int))) (En := fun x2 => [(4, .v 0 .bool x2)]) h (fun x2 h => ?_)
  refine W_keep (l := [(4, 0)]) (E' := [(4, .v 0 .bool x2)]) (by kernel_rfl) ?_
  replace h : x2 = r := h
  subst h
  exact W_ret tys_ok hw0 (by kernel_rfl) (by kernel_rfl)

noncomputable def chain_Closes (p0 : D_api_State) (p1 : Int) (p2 : Int) : Option Bool :=
  (state_Thread p0 p1).bind fun y1 =>
  (bif y1.2 then chain_Tail p0 p2 else some ([] : List Int)).bind fun y2 =>
  (bif y1.2 then slices_Contains_int_int y2 p1 else some false).bind fun y3 =>
  bnd (y1.2 && y3) fun x4 =>
  some x4
theorem chain_Closes.ok {p0 : D_api_State} {p1 : Int} {p2 : Int} {r : Bool} (h : chain_Closes p0 p1 p2 = some r) : ACall prog 88 [⟨T_api_State, p0⟩, ⟨.int .i64, p1⟩, ⟨.int .i64, p2⟩] [⟨0, .bool, r⟩] := by
  replace h := Leads.of h
  unfold chain_Closes at h
  refine acall_of func88 (by kernel_rfl) rfl (by kernel_rfl) fun w0 F0 hw0 => ?_
  refine W_seq ?_
  refine W_region mixed tys_ok (sup := []) (l := [(1, 0), (2, 0), (3, 0)]) (E' := [(1, .v 0 (.int .i64) p1), (2, .v 0 (.int .i64) p2), (3, .box 0 T_api_State p0)]) (obs := []) (by kernel_rfl) (trivial) ?_
  refine W_seq ?_
  obtain ⟨y1, ey1, h⟩ := h.bind
  refine W_region mixed tys_ok (sup := [.res [(0, ⟨0, T_api_Thread, y1.1⟩), (0, ⟨0, .bool, y1.2⟩)]]) (l := [(1, 0), (2, 0), (3, 0), (8, 0)]) (E' := [(1, .v 0 (.int .i64) p1), (2, .v 0 (.int .i64) p2), (3, .box 0 T_api_State p0), (8, .v 0 .bool y1.2)]) (obs := [ACall prog 61 [⟨T_api_State, p0⟩, ⟨.int .i64, p1⟩] [⟨0, T_api_Thread, y1.1⟩, ⟨0, .bool, y1.2⟩]]) (by kernel_rfl) (state_Thread.ok ey1) ?_
  refine W_seq ?_
  obtain ⟨y2, ey2, h⟩ := h.bind
  obtain ⟨y3, ey3, h⟩ := h.bind
  refine W_region mixed tys_ok (sup := [.res [(0, ⟨9, .slice (.int .i64), y2⟩)], .res [(0, ⟨0, .bool, y3⟩)]]) (l := [(6, 0)]) (E' := [(6, .v 0 .bool (y1.2 && y3))]) (obs := [y1.2 = true → ACall prog 182 [⟨T_api_State, p0⟩, ⟨.int .i64, p2⟩] [⟨9, .slice (.int .i64), y2⟩], y1.2 = true → ACall prog 181 [⟨.slice (.int .i64), y2⟩, ⟨.int .i64, p1⟩] [⟨0, .bool, y3⟩]]) (by kernel_rfl) (⟨fun hc => chain_Tail.ok (bif_some ey2 hc), fun hc => slices_Contains_int_int.ok (bif_some ey3 hc)⟩) ?_
  refine W_gen (x := y1.2 && y3) (En := fun x4 => [(6, .v 0 .bool x4)]) h (fun x4 h => ?_)
  refine W_keep (l := [(6, 0)]) (E' := [(6, .v 0 .bool x4)]) (by kernel_rfl) ?_
  replace h : x4 = r := h
  subst h
  exact W_ret tys_ok hw0 (by kernel_rfl) (by kernel_rfl)

end Go.Tom
