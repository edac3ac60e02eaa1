/- Each function of the program as a pure one, and the proof that the code keeps that contract. -/
import Derived.Test.YtoalafcmlgjlpaaGenA
set_option linter.unusedVariables false
set_option linter.constructorNameAsVariable false
set_option maxRecDepth 100000
namespace Go.Tom
open Go Go.Proofs.Try
noncomputable def state_ThreadArrows_j1 (x1 : List D_dag_Arrow) : Option (List D_dag_Arrow) :=
  some x1
noncomputable def state_ThreadArrows_j2 (x3 : Int) (x5 : List D_dag_Arrow) : Option (((List D_dag_Arrow) × Int) ⊕ (List D_dag_Arrow)) :=
  bnd (IntKind.i64.wrap (x3 + (1 : Int))) fun x6 =>
  some (.inl (x5, x6))
noncomputable def state_ThreadArrows_b1 (p0 : D_api_State) (x2 : List D_dag_Arrow) (x3 : Int) : Option (((List D_dag_Arrow) × Int) ⊕ (List D_dag_Arrow)) :=
  bif decide (x3 < (p0.2.2.1.length : Int)) then
    ass (0 ≤ x3 ∧ x3 < (p0.2.2.1.length : Int)) <|
    bnd (rd z_api_Thread p0.2.2.1 x3) fun x4 =>
    bif x4.1 == (4 : Int) then
      ass (((x2.length + [(x3, x4.2.1)].length : Nat) : Int) ≤ limA) <|
      bnd (x2 ++ [(x3, x4.2.1)]) fun x7 =>
      state_ThreadArrows_j2 x3 x7
    else
      bif x4.1 == (6 : Int) then
        (state_Lock p0 x4.2.1).bind fun y8 =>
        bif y8.2 then
          ass (((x2.length + [(x3, y8.1.2)].length : Nat) : Int) ≤ limA) <|
          bnd (x2 ++ [(x3, y8.1.2)]) fun x9 =>
          state_ThreadArrows_j2 x3 x9
        else
          state_ThreadArrows_j2 x3 x2
      else
        state_ThreadArrows_j2 x3 x2
  else
    (state_ThreadArrows_j1 x2).map .inr
noncomputable def state_ThreadArrows (p0 : D_api_State) : Option (List D_dag_Arrow) :=
  loopM (fun x : (List D_dag_Arrow) × Int => state_ThreadArrows_b1 p0 x.1 x.2) (([] : List D_dag_Arrow), (0 : Int))
theorem state_ThreadArrows.ok {p0 : D_api_State} {r : List D_dag_Arrow} (h : state_ThreadArrows p0 = some r) : ACall prog 50 [⟨T_api_State, p0⟩] [⟨9, .slice T_dag_Arrow, r⟩] := by
  replace h := Leads.of h
  unfold state_ThreadArrows at h
  refine acall_of func50 (by kernel_rfl) rfl (by kernel_rfl) fun w0 F0 hw0 => ?_
  refine W_seq ?_
  refine W_region mixed tys_ok (sup := []) (l := [(1, 0), (2, 9)]) (E' := [(1, .box 0 T_api_State p0), (2, .v 9 (.slice T_dag_Arrow) ([] : List D_dag_Arrow))]) (obs := []) (by kernel_rfl) (trivial) ?_
  refine W_seq ?_
  refine W_seq ?_
  refine W_region mixed tys_ok (sup := []) (l := [(1, 0), (2, 9), (8, 0), (9, 0), (10, 0)]) (E' := [(1, .box 0 T_api_State p0), (2, .v 9 (.slice T_dag_Arrow) ([] : List D_dag_Arrow)), (8, .v 0 (.slice T_api_Thread) p0.2.2.1), (9, .v 0 (.int .i64) (p0.2.2.1.length : Int)), (10, .v 0 (.int .i64) (0 : Int))]) (obs := []) (by kernel_rfl) (trivial) ?_
  refine W_join h (Ej := fun (x : List D_dag_Arrow) => [(2, .v 9 (.slice T_dag_Arrow) x)]) (p := fun x => state_ThreadArrows_j1 x) ?_ ?_
  · rintro x1 h
    replace h : Leads _ (state_ThreadArrows_j1 x1) := h
    unfold state_ThreadArrows_j1 at h
    show W _ _ _ _ _ _ [(2, .v 9 (.slice T_dag_Arrow) x1)]
    refine W_seq ?_
    refine W_region mixed tys_ok (sup := []) (l := [(2, 9)]) (E' := [(2, .v 9 (.slice T_dag_Arrow) x1)]) (obs := []) (by kernel_rfl) (trivial) ?_
    refine W_keep (l := [(2, 9)]) (E' := [(2, .v 9 (.slice T_dag_Arrow) x1)]) (by kernel_rfl) ?_
    replace h : x1 = r := h
    subst h
    exact W_ret tys_ok hw0 (by kernel_rfl) (by kernel_rfl)
  · intro j1
    refine W_block ?_
    refine W_keep (l := [(1, 0), (2, 9), (8, 0), (9, 0), (10, 0)]) (E' := [(1, .box 0 T_api_State p0), (2, .v 9 (.slice T_dag_Arrow) ([] : List D_dag_Arrow)), (8, .v 0 (.slice T_api_Thread) p0.2.2.1), (9, .v 0 (.int .i64) (p0.2.2.1.length : Int)), (10, .v 0 (.int .i64) (0 : Int))]) (by kernel_rfl) ?_
    refine W_loop' (En := fun (x : (List D_dag_Arrow) × Int) => [(1, .box 0 T_api_State p0), (2, .v 9 (.slice T_dag_Arrow) x.1), (8, .v 0 (.slice T_api_Thread) p0.2.2.1), (9, .v 0 (.int .i64) (p0.2.2.1.length : Int)), (10, .v 0 (.int .i64) x.2)]) (x := (([] : List D_dag_Arrow), (0 : Int))) h ?_
    rintro ⟨x2, x3⟩ K h
    replace h : Leads _ (state_ThreadArrows_b1 p0 x2 x3) := h
    unfold state_ThreadArrows_b1 at h
    show W _ _ _ _ _ _ [(1, .box 0 T_api_State p0), (2, .v 9 (.slice T_dag_Arrow) x2), (8, .v 0 (.slice T_api_Thread) p0.2.2.1), (9, .v 0 (.int .i64) (p0.2.2.1.length : Int)), (10, .v 0 (.int .i64) x3)]
    refine W_seq ?_
    refine W_region mixed tys_ok (sup := []) (l := [(1, 0), (2, 9), (8, 0), (9, 0), (10, 0), (11, 0)]) (E' := [(1, .box 0 T_api_State p0), (2, .v 9 (.slice T_dag_Arrow) x2), (8, .v 0 (.slice T_api_Thread) p0.2.2.1), (9, .v 0 (.int .i64) (p0.2.2.1.length : Int)), (10, .v 0 (.int .i64) x3), (11, .v 0 .bool (decide (x3 < (p0.2.2.1.length : Int))))]) (obs := []) (by kernel_rfl) (trivial) ?_
    refine W_seq ?_
    refine W_cond (β := decide (x3 < (p0.2.2.1.length : Int))) (by kernel_rfl) (fun hb => ?_) (fun hb => ?_)
    · rw [cond_tt hb] at h
      refine W_skip ?_
      refine W_seq ?_
      refine W_block ?_
      refine W_seq ?_
      obtain ⟨o1, h⟩ := h.ass
      refine W_region mixed tys_ok (sup := []) (l := [(1, 0), (2, 9), (3, 0), (4, 9), (8, 0), (9, 0), (10, 0)]) (E' := [(1, .box 0 T_api_State p0), (2, .v 9 (.slice T_dag_Arrow) x2), (3, .v 0 (.int .i64) x3), (4, .box 9 T_api_Thread (rd z_api_Thread p0.2.2.1 x3)), (8, .v 0 (.slice T_api_Thread) p0.2.2.1), (9, .v 0 (.int .i64) (p0.2.2.1.length : Int)), (10, .v 0 (.int .i64) x3)]) (obs := [0 ≤ x3 ∧ x3 < (p0.2.2.1.length : Int)]) (by kernel_rfl) (o1) ?_
      refine W_gen (x := rd z_api_Thread p0.2.2.1 x3) (En := fun x4 => [(1, .box 0 T_api_State p0), (2, .v 9 (.slice T_dag_Arrow) x2), (3, .v 0 (.int .i64) x3), (4, .box 9 T_api_Thread x4), (8, .v 0 (.slice T_api_Thread) p0.2.2.1), (9, .v 0 (.int .i64) (p0.2.2.1.length : Int)), (10, .v 0 (.int .i64) x3)]) h (fun x4 h => ?_)
      refine W_seq ?_
      refine W_region mixed tys_ok (sup := []) (l := [(1, 0), (2, 9), (3, 0), (4, 9), (8, 0), (9, 0), (10, 0), (16, 0)]) (E' := [(1, .box 0 T_api_State p0), (2, .v 9 (.slice T_dag_Arrow) x2), (3, .v 0 (.int .i64) x3), (4, .box 9 T_api_Thread x4), (8, .v 0 (.slice T_api_Thread) p0.2.2.1), (9, .v 0 (.int .i64) (p0.2.2.1.length : Int)), (10, .v 0 (.int .i64) x3), (16, .v 0 (.int .i64) x4.1)]) (obs := []) (by kernel_rfl) (trivial) ?_
      refine W_block ?_
      refine W_seq ?_
      refine W_region mixed tys_ok (sup := []) (l := [(1, 0), (2, 9), (3, 0), (4, 9), (8, 0), (9, 0), (10, 0), (16, 0), (17, 0)]) (E' := [(1, .box 0 T_api_State p0), (2, .v 9 (.slice T_dag_Arrow) x2), (3, .v 0 (.int .i64) x3), (4, .box 9 T_api_Thread x4), (8, .v 0 (.slice T_api_Thread) p0.2.2.1), (9, .v 0 (.int .i64) (p0.2.2.1.length : Int)), (10, .v 0 (.int .i64) x3), (16, .v 0 (.int .i64) x4.1), (17, .v 0 .bool (x4.1 == (4 : Int)))]) (obs := []) (by kernel_rfl) (trivial) ?_
      refine W_join h (Ej := fun (x : List D_dag_Arrow) => [(1, .box 0 T_api_State p0), (2, .v 9 (.slice T_dag_Arrow) x), (8, .v 0 (.slice T_api_Thread) p0.2.2.1), (9, .v 0 (.int .i64) (p0.2.2.1.length : Int)), (10, .v 0 (.int .i64) x3)]) (p := fun x => state_ThreadArrows_j2 x3 x) ?_ ?_
      · rintro x5 h
        replace h : Leads _ (state_ThreadArrows_j2 x3 x5) := h
        unfold state_ThreadArrows_j2 at h
        show W _ _ _ _ _ _ [(1, .box 0 T_api_State p0), (2, .v 9 (.slice T_dag_Arrow) x5), (8, .v 0 (.slice T_api_Thread) p0.2.2.1), (9, .v 0 (.int .i64) (p0.2.2.1.length : Int)), (10, .v 0 (.int .i64) x3)]
        refine W_blk ?_
        refine W_blk ?_
        refine W_region mixed tys_ok (sup := []) (l := [(1, 0), (2, 9), (8, 0), (9, 0), (10, 0)]) (E' := [(1, .box 0 T_api_State p0), (2, .v 9 (.slice T_dag_Arrow) x5), (8, .v 0 (.slice T_api_Thread) p0.2.2.1), (9, .v 0 (.int .i64) (p0.2.2.1.length : Int)), (10, .v 0 (.int .i64) (IntKind.i64.wrap (x3 + (1 : Int))))]) (obs := []) (by kernel_rfl) (trivial) ?_
        refine W_gen (x := IntKind.i64.wrap (x3 + (1 : Int))) (En := fun x6 => [(1, .box 0 T_api_State p0), (2, .v 9 (.slice T_dag_Arrow) x5), (8, .v 0 (.slice T_api_Thread) p0.2.2.1), (9, .v 0 (.int .i64) (p0.2.2.1.length : Int)), (10, .v 0 (.int .i64) x6)]) h (fun x6 h => ?_)
        refine W_keep (l := [(1, 0), (2, 9), (8, 0), (9, 0), (10, 0)]) (E' := [(1, .box 0 T_api_State p0), (2, .v 9 (.slice T_dag_Arrow) x5), (8, .v 0 (.slice T_api_Thread) p0.2.2.1), (9, .v 0 (.int .i64) (p0.2.2.1.length : Int)), (10, .v 0 (.int .i64) x6)]) (by kernel_rfl) ?_
        exact W_abs h
      · intro j2
        refine W_cond (β := x4.1 == (4 : Int)) (by kernel_rfl) (fun hb => ?_) (fun hb => ?_)
        · rw [cond_tt hb] at h
          obtain ⟨o1, h⟩ := h.ass
          refine W_region mixed tys_ok (sup := []) (l := [(1, 0), (2, 9), (8, 0), (9, 0), (10, 0)]) (E' := [(1, .box 0 T_api_State p0), (2, .v 9 (.slice T_dag_Arrow) (x2 ++ [(x3, x4.2.1)])), (8, .v 0 (.slice T_api_Thread) p0.2.2.1), (9, .v 0 (.int .i64) (p0.2.2.1.length : Int)), (10, .v 0 (.int .i64) x3)]) (obs := [((x2.length + [(x3, x4.2.1)].length : Nat) : Int) ≤ limA]) (by kernel_rfl) (o1) ?_
          refine W_gen (x := x2 ++ [(x3, x4.2.1)]) (En := fun x7 => [(1, .box 0 T_api_State p0), (2, .v 9 (.slice T_dag_Arrow) x7), (8, .v 0 (.slice T_api_Thread) p0.2.2.1), (9, .v 0 (.int .i64) (p0.2.2.1.length : Int)), (10, .v 0 (.int .i64) x3)]) h (fun x7 h => ?_)
          refine W_keep (l := [(1, 0), (2, 9), (8, 0), (9, 0), (10, 0)]) (E' := [(1, .box 0 T_api_State p0), (2, .v 9 (.slice T_dag_Arrow) x7), (8, .v 0 (.slice T_api_Thread) p0.2.2.1), (9, .v 0 (.int .i64) (p0.2.2.1.length : Int)), (10, .v 0 (.int .i64) x3)]) (by kernel_rfl) ?_
          exact j2 x7 h
        · rw [cond_ff hb] at h
          refine W_seq ?_
          refine W_region mixed tys_ok (sup := []) (l := [(1, 0), (2, 9), (3, 0), (4, 9), (8, 0), (9, 0), (10, 0), (26, 0)]) (E' := [(1, .box 0 T_api_State p0), (2, .v 9 (.slice T_dag_Arrow) x2), (3, .v 0 (.int .i64) x3), (4, .box 9 T_api_Thread x4), (8, .v 0 (.slice T_api_Thread) p0.2.2.1), (9, .v 0 (.int .i64) (p0.2.2.1.length : Int)), (10, .v 0 (.int .i64) x3), (26, .v 0 .bool (x4.1 == (6 : Int)))]) (obs := []) (by kernel_rfl) (trivial) ?_
          refine W_cond (β := x4.1 == (6 : Int)) (by kernel_rfl) (fun hb => ?_) (fun hb => ?_)
          · rw [cond_tt hb] at h
            refine W_seq ?_
            obtain ⟨y8, ey8, h⟩ := h.bind
            refine W_region mixed tys_ok (sup := [.res [(0, ⟨0, T_api_Lock, y8.1⟩), (0, ⟨0, .bool, y8.2⟩)]]) (l := [(1, 0), (2, 9), (3, 0), (5, 9), (6, 0), (8, 0), (9, 0), (10, 0)]) (E' := [(1, .box 0 T_api_State p0), (2, .v 9 (.slice T_dag_Arrow) x2), (3, .v 0 (.int .i64) x3), (5, .box 9 T_api_Lock y8.1), (6, .v 0 .bool y8.2), (8, .v 0 (.slice T_api_Thread) p0.2.2.1), (9, .v 0 (.int .i64) (p0.2.2.1.length : Int)), (10, .v 0 (.int .i64) x3)]) (obs := [ACall prog 62 [⟨T_api_State, p0⟩, ⟨.int .i64, x4.2.1⟩] [⟨0, T_api_Lock, y8.1⟩, ⟨0, .bool, y8.2⟩]]) (by kernel_rfl) (state_Lock.ok ey8) ?_
            refine W_seq ?_
            refine W_region mixed tys_ok (sup := []) (l := [(1, 0), (2, 9), (3, 0), (5, 9), (8, 0), (9, 0), (10, 0), (35, 0)]) (E' := [(1, .box 0 T_api_State p0), (2, .v 9 (.slice T_dag_Arrow) x2), (3, .v 0 (.int .i64) x3), (5, .box 9 T_api_Lock y8.1), (8, .v 0 (.slice T_api_Thread) p0.2.2.1), (9, .v 0 (.int .i64) (p0.2.2.1.length : Int)), (10, .v 0 (.int .i64) x3), (35, .v 0 .bool y8.2)]) (obs := []) (by kernel_rfl) (trivial) ?_
            refine W_cond (β := y8.2) (by kernel_rfl) (fun hb => ?_) (fun hb => ?_)
            · rw [cond_tt hb] at h
              obtain ⟨o1, h⟩ := h.ass
              refine W_region mixed tys_ok (sup := []) (l := [(1, 0), (2, 9), (8, 0), (9, 0), (10, 0)]) (E' := [(1, .box 0 T_api_State p0), (2, .v 9 (.slice T_dag_Arrow) (x2 ++ [(x3, y8.1.2)])), (8, .v 0 (.slice T_api_Thread) p0.2.2.1), (9, .v 0 (.int .i64) (p0.2.2.1.length : Int)), (10, .v 0 (.int .i64) x3)]) (obs := [((x2.length + [(x3, y8.1.2)].length : Nat) : Int) ≤ limA]) (by kernel_rfl) (o1) ?_
              refine W_gen (x := x2 ++ [(x3, y8.1.2)]) (En := fun x9 => [(1, .box 0 T_api_State p0), (2, .v 9 (.slice T_dag_Arrow) x9), (8, .v 0 (.slice T_api_Thread) p0.2.2.1), (9, .v 0 (.int .i64) (p0.2.2.1.length : Int)), (10, .v 0 (.int .i64) x3)]) h (fun x9 h => ?_)
              refine W_keep (l := [(1, 0), (2, 9), (8, 0), (9, 0), (10, 0)]) (E' := [(1, .box 0 T_api_State p0), (2, .v 9 (.slice T_dag_Arrow) x9), (8, .v 0 (.slice T_api_Thread) p0.2.2.1), (9, .v 0 (.int .i64) (p0.2.2.1.length : Int)), (10, .v 0 (.int .i64) x3)]) (by kernel_rfl) ?_
              exact j2 x9 h
            · rw [cond_ff hb] at h
              refine W_skip ?_
              refine W_keep (l := [(1, 0), (2, 9), (8, 0), (9, 0), (10, 0)]) (E' := [(1, .box 0 T_api_State p0), (2, .v 9 (.slice T_dag_Arrow) x2), (8, .v 0 (.slice T_api_Thread) p0.2.2.1), (9, .v 0 (.int .i64) (p0.2.2.1.length : Int)), (10, .v 0 (.int .i64) x3)]) (by kernel_rfl) ?_
              exact j2 x2 h
          · rw [cond_ff hb] at h
            refine W_skip ?_
            refine W_keep (l := [(1, 0), (2, 9), (8, 0), (9, 0), (10, 0)]) (E' := [(1, .box 0 T_api_State p0), (2, .v 9 (.slice T_dag_Arrow) x2), (8, .v 0 (.slice T_api_Thread) p0.2.2.1), (9, .v 0 (.int .i64) (p0.2.2.1.length : Int)), (10, .v 0 (.int .i64) x3)]) (by kernel_rfl) ?_
            exact j2 x2 h
    · rw [cond_ff hb] at h
      refine W_exit rfl ?_
      refine W_keep (l := [(2, 9)]) (E' := [(2, .v 9 (.slice T_dag_Arrow) x2)]) (by kernel_rfl) ?_
      exact j1 x2 h.back

noncomputable def state_Fine (p0 : D_api_State) : Option Bool :=
  (bif (decide (p0.2.2.2.2.2 ≥ (1 : Int))) && (decide (p0.2.2.2.2.2 ≤ (1000 : Int))) then state_coins p0 else some false).bind fun y1 =>
  (bif ((decide (p0.2.2.2.2.2 ≥ (1 : Int))) && (decide (p0.2.2.2.2.2 ≤ (1000 : Int)))) && y1 then state_tickets p0 else some false).bind fun y2 =>
  (bif (((decide (p0.2.2.2.2.2 ≥ (1 : Int))) && (decide (p0.2.2.2.2.2 ≤ (1000 : Int)))) && y1) && y2 then state_threads p0 else some false).bind fun y3 =>
  (bif ((((decide (p0.2.2.2.2.2 ≥ (1 : Int))) && (decide (p0.2.2.2.2.2 ≤ (1000 : Int)))) && y1) && y2) && y3 then state_locks p0 else some false).bind fun y4 =>
  (bif (((((decide (p0.2.2.2.2.2 ≥ (1 : Int))) && (decide (p0.2.2.2.2.2 ≤ (1000 : Int)))) && y1) && y2) && y3) && y4 then state_queue p0 else some false).bind fun y5 =>
  (bif ((((((decide (p0.2.2.2.2.2 ≥ (1 : Int))) && (decide (p0.2.2.2.2.2 ≤ (1000 : Int)))) && y1) && y2) && y3) && y4) && y5 then state_CoinArrows p0 else some ([] : List D_dag_Arrow)).bind fun y6 =>
  (bif ((((((decide (p0.2.2.2.2.2 ≥ (1 : Int))) && (decide (p0.2.2.2.2.2 ≤ (1000 : Int)))) && y1) && y2) && y3) && y4) && y5 then dag_Ring (p0.1.length : Int) y6 else some false).bind fun y7 =>
  (bif (((((((decide (p0.2.2.2.2.2 ≥ (1 : Int))) && (decide (p0.2.2.2.2.2 ≤ (1000 : Int)))) && y1) && y2) && y3) && y4) && y5) && (!y7) then state_ThreadArrows p0 else some ([] : List D_dag_Arrow)).bind fun y8 =>
  (bif (((((((decide (p0.2.2.2.2.2 ≥ (1 : Int))) && (decide (p0.2.2.2.2.2 ≤ (1000 : Int)))) && y1) && y2) && y3) && y4) && y5) && (!y7) then dag_Ring (p0.2.2.1.length : Int) y8 else some false).bind fun y9 =>
  bnd (((((((((decide (p0.2.2.2.2.2 ≥ (1 : Int))) && (decide (p0.2.2.2.2.2 ≤ (1000 : Int)))) && y1) && y2) && y3) && y4) && y5) && (!y7)) && (!y9)) fun x10 =>
  some x10
theorem state_Fine.ok {p0 : D_api_State} {r : Bool} (h : state_Fine p0 = some r) : ACall prog 42 [⟨T_api_State, p0⟩] [⟨0, .bool, r⟩] := by
  replace h := Leads.of h
  unfold state_Fine at h
  refine acall_of func42 (by kernel_rfl) rfl (by kernel_rfl) fun w0 F0 hw0 => ?_
  refine W_seq ?_
  refine W_region mixed tys_ok (sup := []) (l := [(1, 0)]) (E' := [(1, .box 0 T_api_State p0)]) (obs := []) (by kernel_rfl) (trivial) ?_
  refine W_seq ?_
  obtain ⟨y1, ey1, h⟩ := h.bind
  obtain ⟨y2, ey2, h⟩ := h.bind
  obtain ⟨y3, ey3, h⟩ := h.bind
  obtain ⟨y4, ey4, h⟩ := h.bind
  obtain ⟨y5, ey5, h⟩ := h.bind
  obtain ⟨y6, ey6, h⟩ := h.bind
  obtain ⟨y7, ey7, h⟩ := h.bind
  obtain ⟨y8, ey8, h⟩ := h.bind
  obtain ⟨y9, ey9, h⟩ := h.bind
  refine W_region mixed tys_ok (sup := [.res [(0, ⟨0, .bool, y1⟩)], .res [(0, ⟨0, .bool, y2⟩)], .res [(0, ⟨0, .bool, y3⟩)], .res [(0, ⟨0, .bool, y4⟩)], .res [(0, ⟨0, .bool, y5⟩)], .res [(0, ⟨9, .slice T_dag_Arrow, y6⟩)], .res [(0, ⟨0, .bool, y7⟩)], .res [(0, ⟨9, .slice T_dag_Arrow, y8⟩)], .res [(0, ⟨0, .bool, y9⟩)]]) (l := [(2, 0)]) (E' := [(2, .v 0 .bool (((((((((decide (p0.2.2.2.2.2 ≥ (1 : Int))) && (decide (p0.2.2.2.2.2 ≤ (1000 : Int)))) && y1) && y2) && y3) && y4) && y5) && (!y7)) && (!y9)))]) (obs := [((decide (p0.2.2.2.2.2 ≥ (1 : Int))) && (decide (p0.2.2.2.2.2 ≤ (1000 : Int)))) = true → ACall prog 118 [⟨T_api_State, p0⟩] [⟨0, .bool, y1⟩], (((decide (p0.2.2.2.2.2 ≥ (1 : Int))) && (decide (p0.2.2.2.2.2 ≤ (1000 : Int)))) && y1) = true → ACall prog 119 [⟨T_api_State, p0⟩] [⟨0, .bool, y2⟩], ((((decide (p0.2.2.2.2.2 ≥ (1 : Int))) && (decide (p0.2.2.2.2.2 ≤ (1000 : Int)))) && y1) && y2) = true → ACall prog 120 [⟨T_api_State, p0⟩] [⟨0, .bool, y3⟩], (((((decide (p0.2.2.2.2.2 ≥ (1 : Int))) && (decide (p0.2.2.2.2.2 ≤ (1000 : Int)))) && y1) && y2) && y3) = true → ACall prog 121 [⟨T_api_State, p0⟩] [⟨0, .bool, y4⟩], ((((((decide (p0.2.2.2.2.2 ≥ (1 : Int))) && (decide (p0.2.2.2.2.2 ≤ (1000 : Int)))) && y1) && y2) && y3) && y4) = true → ACall prog 122 [⟨T_api_State, p0⟩] [⟨0, .bool, y5⟩], (((((((decide (p0.2.2.2.2.2 ≥ (1 : Int))) && (decide (p0.2.2.2.2.2 ≤ (1000 : Int)))) && y1) && y2) && y3) && y4) && y5) = true → ACall prog 48 [⟨T_api_State, p0⟩] [⟨9, .slice T_dag_Arrow, y6⟩], (((((((decide (p0.2.2.2.2.2 ≥ (1 : Int))) && (decide (p0.2.2.2.2.2 ≤ (1000 : Int)))) && y1) && y2) && y3) && y4) && y5) = true → ACall prog 123 [⟨.int .i64, (p0.1.length : Int)⟩, ⟨.slice T_dag_Arrow, y6⟩] [⟨0, .bool, y7⟩], ((((((((decide (p0.2.2.2.2.2 ≥ (1 : Int))) && (decide (p0.2.2.2.2.2 ≤ (1000 : Int)))) && y1) && y2) && y3) && y4) && y5) && (!y7)) = true → ACall prog 50 [⟨T_api_State, p0⟩] [⟨9, .slice T_dag_Arrow, y8⟩], ((((((((decide (p0.2.2.2.2.2 ≥ (1 : Int))) && (decide (p0.2.2.2.2.2 ≤ (1000 : Int)))) && y1) && y2) && y3) && y4) && y5) && (!y7)) = true → ACall prog 123 [⟨.int .i64, (p0.2.2.1.length : Int)⟩, ⟨.slice T_dag_Arrow, y8⟩] [⟨0, .bool, y9⟩]]) (by kernel_rfl) (⟨fun hc => state_coins.ok (bif_some ey1 hc), fun hc => state_tickets.ok (bif_some ey2 hc), fun hc => state_threads.ok (bif_some ey3 hc), fun hc => state_locks.ok (bif_some ey4 hc), fun hc => state_queue.ok (bif_some ey5 hc), fun hc => state_CoinArrows.ok (bif_some ey6 hc), fun hc => dag_Ring.ok (bif_some ey7 hc), fun hc => state_ThreadArrows.ok (bif_some ey8 hc), fun hc => dag_Ring.ok (bif_some ey9 hc)⟩) ?_
  refine W_gen (x := ((((((((decide (p0.2.2.2.2.2 ≥ (1 : Int))) && (decide (p0.2.2.2.2.2 ≤ (1000 : Int)))) && y1) && y2) && y3) && y4) && y5) && (!y7)) && (!y9)) (En := fun x10 => [(2, .v 0 .bool x10)]) h (fun x10 h => ?_)
  refine W_keep (l := [(2, 0)]) (E' := [(2, .v 0 .bool x10)]) (by kernel_rfl) ?_
  replace h : x10 = r := h
  subst h
  exact W_ret tys_ok hw0 (by kernel_rfl) (by kernel_rfl)

noncomputable def state_free_api_Thread_j1 (p0 : List D_api_Thread) (p1 : Int) : Option (Int) :=
  bif decide ((p0.length : Int) ≥ p1) then
    some (-1 : Int)
  else
    some (p0.length : Int)
noncomputable def state_free_api_Thread_b1 (p0 : List D_api_Thread) (p1 : Int) (p2 : D_api_Thread → Option Bool) (x1 : List D_api_Thread) (x2 : Int) : Option (Int ⊕ Int) :=
  bif decide (x2 < ((sl p0 (0 : Int) (if p1 < (p0.length : Int) then p1 else (p0.length : Int))).length : Int)) then
    ass (0 ≤ x2 ∧ x2 < (x1.length : Int)) <|
    bnd (rd z_api_Thread x1 x2) fun x3 =>
    (p2 x3).bind fun y4 =>
    bif !y4 then
      some (.inr x2)
    else
      bnd (IntKind.i64.wrap (x2 + (1 : Int))) fun x5 =>
      some (.inl x5)
  else
    (state_free_api_Thread_j1 p0 p1).map .inr
noncomputable def state_free_api_Thread (p0 : List D_api_Thread) (p1 : Int) (p2 : D_api_Thread → Option Bool) : Option Int :=
  ass (0 ≤ (0 : Int) ∧ (0 : Int) ≤ (if p1 < (p0.length : Int) then p1 else (p0.length : Int)) ∧ (if p1 < (p0.length : Int) then p1 else (p0.length : Int)) ≤ (p0.length : Int)) <|
  bnd (sl p0 (0 : Int) (if p1 < (p0.length : Int) then p1 else (p0.length : Int))) fun x1 =>
  loopM (fun x : Int => state_free_api_Thread_b1 p0 p1 p2 x1 x) (0 : Int)
theorem state_free_api_Thread.ok {p0 : List D_api_Thread} {p1 : Int} {p2 : D_api_Thread → Option Bool} {r : Int} (h : state_free_api_Thread p0 p1 p2 = some r) : ACall prog 153 [⟨.slice T_api_Thread, p0⟩, ⟨.int .i64, p1⟩, ⟨.fn T_api_Thread .bool, p2⟩] [⟨0, .int .i64, r⟩] := by
  replace h := Leads.of h
  unfold state_free_api_Thread at h
  refine acall_of func153 (by kernel_rfl) rfl (by kernel_rfl) fun w0 F0 hw0 => ?_
  refine W_seq ?_
  refine W_region mixed tys_ok (sup := []) (l := [(0, 0), (1, 0), (2, 0)]) (E' := [(0, .v 0 (.slice T_api_Thread) p0), (1, .v 0 (.int .i64) p1), (2, .v 0 (.fn T_api_Thread .bool) p2)]) (obs := []) (by kernel_rfl) (trivial) ?_
  refine W_seq ?_
  refine W_seq ?_
  obtain ⟨o1, h⟩ := h.ass
  refine W_region mixed tys_ok (sup := []) (l := [(0, 0), (1, 0), (2, 0), (14, 0), (15, 0), (16, 0)]) (E' := [(0, .v 0 (.slice T_api_Thread) p0), (1, .v 0 (.int .i64) p1), (2, .v 0 (.fn T_api_Thread .bool) p2), (14, .v 0 (.slice T_api_Thread) (sl p0 (0 : Int) (if p1 < (p0.length : Int) then p1 else (p0.length : Int)))), (15, .v 0 (.int .i64) ((sl p0 (0 : Int) (if p1 < (p0.length : Int) then p1 else (p0.length : Int))).length : Int)), (16, .v 0 (.int .i64) (0 : Int))]) (obs := [0 ≤ (0 : Int) ∧ (0 : Int) ≤ (if p1 < (p0.length : Int) then p1 else (p0.length : Int)) ∧ (if p1 < (p0.length : Int) then p1 else (p0.length : Int)) ≤ (p0.length : Int)]) (by kernel_rfl) (o1) ?_
  refine W_gen (x := sl p0 (0 : Int) (if p1 < (p0.length : Int) then p1 else (p0.length : Int))) (En := fun x1 => [(0, .v 0 (.slice T_api_Thread) p0), (1, .v 0 (.int .i64) p1), (2, .v 0 (.fn T_api_Thread .bool) p2), (14, .v 0 (.slice T_api_Thread) x1), (15, .v 0 (.int .i64) ((sl p0 (0 : Int) (if p1 < (p0.length : Int) then p1 else (p0.length : Int))).length : Int)), (16, .v 0 (.int .i64) (0 : Int))]) h (fun x1 h => ?_)
  refine W_join h (Ej := fun (x : Unit) => [(0, .v 0 (.slice T_api_Thread) p0), (1, .v 0 (.int .i64) p1)]) (p := fun x => state_free_api_Thread_j1 p0 p1) ?_ ?_
  · rintro ⟨⟩ h
    replace h : Leads _ (state_free_api_Thread_j1 p0 p1) := h
    unfold state_free_api_Thread_j1 at h
    show W _ _ _ _ _ _ [(0, .v 0 (.slice T_api_Thread) p0), (1, .v 0 (.int .i64) p1)]
    refine W_seq ?_
    refine W_seq ?_
    refine W_region mixed tys_ok (sup := []) (l := [(0, 0), (30, 0)]) (E' := [(0, .v 0 (.slice T_api_Thread) p0), (30, .v 0 .bool (decide ((p0.length : Int) ≥ p1)))]) (obs := []) (by kernel_rfl) (trivial) ?_
    refine W_cond (β := decide ((p0.length : Int) ≥ p1)) (by kernel_rfl) (fun hb => ?_) (fun hb => ?_)
    · rw [cond_tt hb] at h
      refine W_seq ?_
      refine W_region mixed tys_ok (sup := []) (l := [(6, 0)]) (E' := [(6, .v 0 (.int .i64) (-1 : Int))]) (obs := []) (by kernel_rfl) (trivial) ?_
      refine W_keep (l := [(6, 0)]) (E' := [(6, .v 0 (.int .i64) (-1 : Int))]) (by kernel_rfl) ?_
      replace h : ((-1 : Int)) = r := h
      subst h
      exact W_ret tys_ok hw0 (by kernel_rfl) (by kernel_rfl)
    · rw [cond_ff hb] at h
      refine W_skip ?_
      refine W_seq ?_
      refine W_region mixed tys_ok (sup := []) (l := [(6, 0)]) (E' := [(6, .v 0 (.int .i64) (p0.length : Int))]) (obs := []) (by kernel_rfl) (trivial) ?_
      refine W_keep (l := [(6, 0)]) (E' := [(6, .v 0 (.int .i64) (p0.length : Int))]) (by kernel_rfl) ?_
      replace h : ((p0.length : Int)) = r := h
      subst h
      exact W_ret tys_ok hw0 (by kernel_rfl) (by kernel_rfl)
  · intro j1
    refine W_block ?_
    refine W_keep (l := [(0, 0), (1, 0), (2, 0), (14, 0), (15, 0), (16, 0)]) (E' := [(0, .v 0 (.slice T_api_Thread) p0), (1, .v 0 (.int .i64) p1), (2, .v 0 (.fn T_api_Thread .bool) p2), (14, .v 0 (.slice T_api_Thread) x1), (15, .v 0 (.int .i64) ((sl p0 (0 : Int) (if p1 < (p0.length : Int) then p1 else (p0.length : Int))).length : Int)), (16, .v 0 (.int .i64) (0 : Int))]) (by kernel_rfl) ?_
    refine W_loop' (En := fun (x : Int) => [(0, .v 0 (.slice T_api_Thread) p0), (1, .v 0 (.int .i64) p1), (2, .v 0 (.fn T_api_Thread .bool) p2), (14, .v 0 (.slice T_api_Thread) x1), (15, .v 0 (.int .i64) ((sl p0 (0 : Int) (if p1 < (p0.length : Int) then p1 else (p0.length : Int))).length : Int)), (16, .v 0 (.int .i64) x)]) (x := (0 : Int)) h ?_
    rintro x2 K h
    replace h : Leads _ (state_free_api_Thread_b1 p0 p1 p2 x1 x2) := h
    unfold state_free_api_Thread_b1 at h
    show W _ _ _ _ _ _ [(0, .v 0 (.slice T_api_Thread) p0), (1, .v 0 (.int .i64) p1), (2, .v 0 (.fn T_api_Thread .bool) p2), (14, .v 0 (.slice T_api_Thread) x1), (15, .v 0 (.int .i64) ((sl p0 (0 : Int) (if p1 < (p0.length : Int) then p1 else (p0.length : Int))).length : Int)), (16, .v 0 (.int .i64) x2)]
    refine W_seq ?_
    refine W_region mixed tys_ok (sup := []) (l := [(0, 0), (1, 0), (2, 0), (14, 0), (15, 0), (16, 0), (17, 0)]) (E' := [(0, .v 0 (.slice T_api_Thread) p0), (1, .v 0 (.int .i64) p1), (2, .v 0 (.fn T_api_Thread .bool) p2), (14, .v 0 (.slice T_api_Thread) x1), (15, .v 0 (.int .i64) ((sl p0 (0 : Int) (if p1 < (p0.length : Int) then p1 else (p0.length : Int))).length : Int)), (16, .v 0 (.int .i64) x2), (17, .v 0 .bool (decide (x2 < ((sl p0 (0 : Int) (if p1 < (p0.length : Int) then p1 else (p0.length : Int))).length : Int))))]) (obs := []) (by kernel_rfl) (trivial) ?_
    refine W_seq ?_
    refine W_cond (β := decide (x2 < ((sl p0 (0 : Int) (if p1 < (p0.length : Int) then p1 else (p0.length : Int))).length : Int))) (by kernel_rfl) (fun hb => ?_) (fun hb => ?_)
    · rw [cond_tt hb] at h
      refine W_skip ?_
      refine W_seq ?_
      refine W_block ?_
      refine W_seq ?_
      obtain ⟨o1, h⟩ := h.ass
      refine W_region mixed tys_ok (sup := []) (l := [(0, 0), (1, 0), (2, 0), (7, 0), (8, 9), (14, 0), (15, 0), (16, 0)]) (E' := [(0, .v 0 (.slice T_api_Thread) p0), (1, .v 0 (.int .i64) p1), (2, .v 0 (.fn T_api_Thread .bool) p2), (7, .v 0 (.int .i64) x2), (8, .box 9 T_api_Thread (rd z_api_Thread x1 x2)), (14, .v 0 (.slice T_api_Thread) x1), (15, .v 0 (.int .i64) ((sl p0 (0 : Int) (if p1 < (p0.length : Int) then p1 else (p0.length : Int))).length : Int)), (16, .v 0 (.int .i64) x2)]) (obs := [0 ≤ x2 ∧ x2 < (x1.length : Int)]) (by kernel_rfl) (o1) ?_
      refine W_gen (x := rd z_api_Thread x1 x2) (En := fun x3 => [(0, .v 0 (.slice T_api_Thread) p0), (1, .v 0 (.int .i64) p1), (2, .v 0 (.fn T_api_Thread .bool) p2), (7, .v 0 (.int .i64) x2), (8, .box 9 T_api_Thread x3), (14, .v 0 (.slice T_api_Thread) x1), (15, .v 0 (.int .i64) ((sl p0 (0 : Int) (if p1 < (p0.length : Int) then p1 else (p0.length : Int))).length : Int)), (16, .v 0 (.int .i64) x2)]) h (fun x3 h => ?_)
      refine W_seq ?_
      obtain ⟨y4, ey4, h⟩ := h.bind
      refine W_region mixed tys_ok (sup := [.res [(0, ⟨9, .bool, y4⟩)]]) (l := [(0, 0), (1, 0), (2, 0), (7, 0), (14, 0), (15, 0), (16, 0), (24, 0)]) (E' := [(0, .v 0 (.slice T_api_Thread) p0), (1, .v 0 (.int .i64) p1), (2, .v 0 (.fn T_api_Thread .bool) p2), (7, .v 0 (.int .i64) x2), (14, .v 0 (.slice T_api_Thread) x1), (15, .v 0 (.int .i64) ((sl p0 (0 : Int) (if p1 < (p0.length : Int) then p1 else (p0.length : Int))).length : Int)), (16, .v 0 (.int .i64) x2), (24, .v 0 .bool (!y4))]) (obs := [p2 x3 = some y4]) (by kernel_rfl) (ey4) ?_
      refine W_cond (β := !y4) (by kernel_rfl) (fun hb => ?_) (fun hb => ?_)
      · rw [cond_tt hb] at h
        refine W_seq ?_
        refine W_region mixed tys_ok (sup := []) (l := [(6, 0)]) (E' := [(6, .v 0 (.int .i64) x2)]) (obs := []) (by kernel_rfl) (trivial) ?_
        refine W_keep (l := [(6, 0)]) (E' := [(6, .v 0 (.int .i64) x2)]) (by kernel_rfl) ?_
        replace h : x2 = r := h
        subst h
        exact W_ret tys_ok hw0 (by kernel_rfl) (by kernel_rfl)
      · rw [cond_ff hb] at h
        refine W_skip ?_
        refine W_blk ?_
        refine W_region mixed tys_ok (sup := []) (l := [(0, 0), (1, 0), (2, 0), (14, 0), (15, 0), (16, 0)]) (E' := [(0, .v 0 (.slice T_api_Thread) p0), (1, .v 0 (.int .i64) p1), (2, .v 0 (.fn T_api_Thread .bool) p2), (14, .v 0 (.slice T_api_Thread) x1), (15, .v 0 (.int .i64) ((sl p0 (0 : Int) (if p1 < (p0.length : Int) then p1 else (p0.length : Int))).length : Int)), (16, .v 0 (.int .i64) (IntKind.i64.wrap (x2 + (1 : Int))))]) (obs := []) (by kernel_rfl) (trivial) ?_
        refine W_gen (x := IntKind.i64.wrap (x2 + (1 : Int))) (En := fun x5 => [(0, .v 0 (.slice T_api_Thread) p0), (1, .v 0 (.int .i64) p1), (2, .v 0 (.fn T_api_Thread .bool) p2), (14, .v 0 (.slice T_api_Thread) x1), (15, .v 0 (.int .i64) ((sl p0 (0 : Int) (if p1 < (p0.length : Int) then p1 else (p0.length : Int))).length : Int)), (16, .v 0 (.int .i64) x5)]) h (fun x5 h => ?_)
        refine W_keep (l := [(0, 0), (1, 0), (2, 0), (14, 0), (15, 0), (16, 0)]) (E' := [(0, .v 0 (.slice T_api_Thread) p0), (1, .v 0 (.int .i64) p1), (2, .v 0 (.fn T_api_Thread .bool) p2), (14, .v 0 (.slice T_api_Thread) x1), (15, .v 0 (.int .i64) ((sl p0 (0 : Int) (if p1 < (p0.length : Int) then p1 else (p0.length : Int))).length : Int)), (16, .v 0 (.int .i64) x5)]) (by kernel_rfl) ?_
        exact W_abs h
    · rw [cond_ff hb] at h
      refine W_exit rfl ?_
      refine W_keep (l := [(0, 0), (1, 0)]) (E' := [(0, .v 0 (.slice T_api_Thread) p0), (1, .v 0 (.int .i64) p1)]) (by kernel_rfl) ?_
      exact j1 () h.back

noncomputable def state_FreeThread (p0 : D_api_State) : Option Int :=
  (state_free_api_Thread p0.2.2.1 (32 : Int) (fun x => state_threadUsed x)).bind fun y1 =>
  some y1
theorem state_FreeThread.ok {p0 : D_api_State} {r : Int} (h : state_FreeThread p0 = some r) : ACall prog 70 [⟨T_api_State, p0⟩] [⟨0, .int .i64, r⟩] := by
  replace h := Leads.of h
  unfold state_FreeThread at h
  refine acall_of func70 (by kernel_rfl) rfl (by kernel_rfl) fun w0 F0 hw0 => ?_
  refine W_seq ?_
  refine W_region mixed tys_ok (sup := []) (l := [(1, 0)]) (E' := [(1, .box 0 T_api_State p0)]) (obs := []) (by kernel_rfl) (trivial) ?_
  refine W_seq ?_
  obtain ⟨y1, ey1, h⟩ := h.bind
  refine W_region mixed tys_ok (sup := [.fn T_api_Thread .bool (fun x => state_threadUsed x), .res [(0, ⟨0, .int .i64, y1⟩)]]) (l := [(2, 0)]) (E' := [(2, .v 0 (.int .i64) y1)]) (obs := [∀ x y, (fun x => state_threadUsed x) x = some y → ACall prog 139 (unprod T_api_Thread x ++ []) [⟨9, .bool, y⟩], ACall prog 153 [⟨.slice T_api_Thread, p0.2.2.1⟩, ⟨.int .i64, (32 : Int)⟩, ⟨.fn T_api_Thread .bool, fun x => state_threadUsed x⟩] [⟨0, .int .i64, y1⟩]]) (by kernel_rfl) (⟨fun x y e => ACall.flat rfl (state_threadUsed.ok e), state_free_api_Thread.ok ey1⟩) ?_
  refine W_keep (l := [(2, 0)]) (E' := [(2, .v 0 (.int .i64) y1)]) (by kernel_rfl) ?_
  replace h : y1 = r := h
  subst h
  exact W_ret tys_ok hw0 (by kernel_rfl) (by kernel_rfl)

noncomputable def slices_Equal_bool_bool_j1 : Option (Bool) :=
  some true
noncomputable def slices_Equal_bool_bool_b1 (p0 : List Bool) (p1 : List Bool) (x1 : Int) : Option (Int ⊕ Bool) :=
  bif decide (x1 < (p0.length : Int)) then
    ass (0 ≤ x1 ∧ x1 < (p0.length : Int)) <|
    ass (0 ≤ x1 ∧ x1 < (p1.length : Int)) <|
    bif (rd false p0 x1) != (rd false p1 x1) then
      some (.inr false)
    else
      bnd (IntKind.i64.wrap (x1 + (1 : Int))) fun x2 =>
      some (.inl x2)
  else
    (slices_Equal_bool_bool_j1).map .inr
noncomputable def slices_Equal_bool_bool (p0 : List Bool) (p1 : List Bool) : Option Bool :=
  bif (p0.length : Int) != (p1.length : Int) then
    some false
  else
    loopM (fun x : Int => slices_Equal_bool_bool_b1 p0 p1 x) (0 : Int)
theorem slices_Equal_bool_bool.ok {p0 : List Bool} {p1 : List Bool} {r : Bool} (h : slices_Equal_bool_bool p0 p1 = some r) : ACall prog 124 [⟨.slice .bool, p0⟩, ⟨.slice .bool, p1⟩] [⟨0, .bool, r⟩] := by
  replace h := Leads.of h
  unfold slices_Equal_bool_bool at h
  refine acall_of func124 (by kernel_rfl) rfl (by kernel_rfl) fun w0 F0 hw0 => ?_
  refine W_seq ?_
  refine W_region mixed tys_ok (sup := []) (l := [(0, 0), (1, 0)]) (E' := [(0, .v 0 (.slice .bool) p0), (1, .v 0 (.slice .bool) p1)]) (obs := []) (by kernel_rfl) (trivial) ?_
  refine W_seq ?_
  refine W_seq ?_
  refine W_region mixed tys_ok (sup := []) (l := [(0, 0), (1, 0), (10, 0)]) (E' := [(0, .v 0 (.slice .bool) p0), (1, .v 0 (.slice .bool) p1), (10, .v 0 .bool ((p0.length : Int) != (p1.length : Int)))]) (obs := []) (by kernel_rfl) (trivial) ?_
  refine W_cond (β := (p0.length : Int) != (p1.length : Int)) (by kernel_rfl) (fun hb => ?_) (fun hb => ?_)
  · rw [cond_tt hb] at h
    refine W_seq ?_
    refine W_region mixed tys_ok (sup := []) (l := [(4, 0)]) (E' := [(4, .v 0 .bool false)]) (obs := []) (by kernel_rfl) (trivial) ?_
    refine W_keep (l := [(4, 0)]) (E' := [(4, .v 0 .bool false)]) (by kernel_rfl) ?_
    replace h : false = r := h
    subst h
    exact W_ret tys_ok hw0 (by kernel_rfl) (by kernel_rfl)
  · rw [cond_ff hb] at h
    refine W_skip ?_
    refine W_seq ?_
    refine W_seq ?_
    refine W_region mixed tys_ok (sup := []) (l := [(0, 0), (1, 0), (12, 0), (13, 0)]) (E' := [(0, .v 0 (.slice .bool) p0), (1, .v 0 (.slice .bool) p1), (12, .v 0 (.int .i64) (p0.length : Int)), (13, .v 0 (.int .i64) (0 : Int))]) (obs := []) (by kernel_rfl) (trivial) ?_
    refine W_join h (Ej := fun (x : Unit) => []) (p := fun x => slices_Equal_bool_bool_j1) ?_ ?_
    · rintro ⟨⟩ h
      replace h : Leads _ (slices_Equal_bool_bool_j1) := h
      unfold slices_Equal_bool_bool_j1 at h
      show W _ _ _ _ _ _ []
      refine W_seq ?_
      refine W_region mixed tys_ok (sup := []) (l := [(4, 0)]) (E' := [(4, .v 0 .bool true)]) (obs := []) (by kernel_rfl) (trivial) ?_
      refine W_keep (l := [(4, 0)]) (E' := [(4, .v 0 .bool true)]) (by kernel_rfl) ?_
      replace h : true = r := h
      subst h
      exact W_ret tys_ok hw0 (by kernel_rfl) (by kernel_rfl)
    · intro j1
      refine W_block ?_
      refine W_keep (l := [(0, 0), (1, 0), (12, 0), (13, 0)]) (E' := [(0, .v 0 (.slice .bool) p0), (1, .v 0 (.slice .bool) p1), (12, .v 0 (.int .i64) (p0.length : Int)), (13, .v 0 (.int .i64) (0 : Int))]) (by kernel_rfl) ?_
      refine W_loop' (En := fun (x : Int) => [(0, .v 0 (.slice .bool) p0), (1, .v 0 (.slice .bool) p1), (12, .v 0 (.int .i64) (p0.length : Int)), (13, .v 0 (.int .i64) x)]) (x := (0 : Int)) h ?_
      rintro x1 K h
      replace h : Leads _ (slices_Equal_bool_bool_b1 p0 p1 x1) := h
      unfold slices_Equal_bool_bool_b1 at h
      show W _ _ _ _ _ _ [(0, .v 0 (.slice .bool) p0), (1, .v 0 (.slice .bool) p1), (12, .v 0 (.int .i64) (p0.length : Int)), (13, .v 0 (.int .i64) x1)]
      refine W_seq ?_
      refine W_region mixed tys_ok (sup := []) (l := [(0, 0), (1, 0), (12, 0), (13, 0), (14, 0)]) (E' := [(0, .v 0 (.slice .bool) p0), (1, .v 0 (.slice .bool) p1), (12, .v 0 (.int .i64) (p0.length : Int)), (13, .v 0 (.int .i64) x1), (14, .v 0 .bool (decide (x1 < (p0.length : Int))))]) (obs := []) (by kernel_rfl) (trivial) ?_
      refine W_seq ?_
      refine W_cond (β := decide (x1 < (p0.length : Int))) (by kernel_rfl) (fun hb => ?_) (fun hb => ?_)
      · rw [cond_tt hb] at h
        refine W_skip ?_
        refine W_seq ?_
        refine W_block ?_
        refine W_seq ?_
        refine W_region mixed tys_ok (sup := []) (l := [(0, 0), (1, 0), (5, 0), (12, 0), (13, 0)]) (E' := [(0, .v 0 (.slice .bool) p0), (1, .v 0 (.slice .bool) p1), (5, .v 0 (.int .i64) x1), (12, .v 0 (.int .i64) (p0.length : Int)), (13, .v 0 (.int .i64) x1)]) (obs := []) (by kernel_rfl) (trivial) ?_
        refine W_seq ?_
        obtain ⟨o1, h⟩ := h.ass
        obtain ⟨o2, h⟩ := h.ass
        refine W_region mixed tys_ok (sup := []) (l := [(0, 0), (1, 0), (12, 0), (13, 0), (24, 0)]) (E' := [(0, .v 0 (.slice .bool) p0), (1, .v 0 (.slice .bool) p1), (12, .v 0 (.int .i64) (p0.length : Int)), (13, .v 0 (.int .i64) x1), (24, .v 0 .bool ((rd false p0 x1) != (rd false p1 x1)))]) (obs := [0 ≤ x1 ∧ x1 < (p0.length : Int), 0 ≤ x1 ∧ x1 < (p1.length : Int)]) (by kernel_rfl) (⟨o1, o2⟩) ?_
        refine W_cond (β := (rd false p0 x1) != (rd false p1 x1)) (by kernel_rfl) (fun hb => ?_) (fun hb => ?_)
        · rw [cond_tt hb] at h
          refine W_seq ?_
          refine W_region mixed tys_ok (sup := []) (l := [(4, 0)]) (E' := [(4, .v 0 .bool false)]) (obs := []) (by kernel_rfl) (trivial) ?_
          refine W_keep (l := [(4, 0)]) (E' := [(4, .v 0 .bool false)]) (by kernel_rfl) ?_
          replace h : false = r := h
          subst h
          exact W_ret tys_ok hw0 (by kernel_rfl) (by kernel_rfl)
        · rw [cond_ff hb] at h
          refine W_skip ?_
          refine W_blk ?_
          refine W_region mixed tys_ok (sup := []) (l := [(0, 0), (1, 0), (12, 0), (13, 0)]) (E' := [(0, .v 0 (.slice .bool) p0), (1, .v 0 (.slice .bool) p1), (12, .v 0 (.int .i64) (p0.length : Int)), (13, .v 0 (.int .i64) (IntKind.i64.wrap (x1 + (1 : Int))))]) (obs := []) (by kernel_rfl) (trivial) ?_
          refine W_gen (x := IntKind.i64.wrap (x1 + (1 : Int))) (En := fun x2 => [(0, .v 0 (.slice .bool) p0), (1, .v 0 (.slice .bool) p1), (12, .v 0 (.int .i64) (p0.length : Int)), (13, .v 0 (.int .i64) x2)]) h (fun x2 h => ?_)
          refine W_keep (l := [(0, 0), (1, 0), (12, 0), (13, 0)]) (E' := [(0, .v 0 (.slice .bool) p0), (1, .v 0 (.slice .bool) p1), (12, .v 0 (.int .i64) (p0.length : Int)), (13, .v 0 (.int .i64) x2)]) (by kernel_rfl) ?_
          exact W_abs h
      · rw [cond_ff hb] at h
        refine W_exit rfl ?_
        refine W_keep (l := []) (E' := []) (by kernel_rfl) ?_
        exact j1 () h.back

noncomputable def slices_Equal_api_Ticket_api_Ticket_j1 : Option (Bool) :=
  some true
noncomputable def slices_Equal_api_Ticket_api_Ticket_b1 (p0 : List D_api_Ticket) (p1 : List D_api_Ticket) (x1 : Int) : Option (Int ⊕ Bool) :=
  bif decide (x1 < (p0.length : Int)) then
    ass (0 ≤ x1 ∧ x1 < (p0.length : Int)) <|
    ass (0 ≤ x1 ∧ x1 < (p1.length : Int)) <|
    bif !(Ty.beq T_api_Ticket (rd z_api_Ticket p0 x1) (rd z_api_Ticket p1 x1)) then
      some (.inr false)
    else
      bnd (IntKind.i64.wrap (x1 + (1 : Int))) fun x2 =>
      some (.inl x2)
  else
    (slices_Equal_api_Ticket_api_Ticket_j1).map .inr
noncomputable def slices_Equal_api_Ticket_api_Ticket (p0 : List D_api_Ticket) (p1 : List D_api_Ticket) : Option Bool :=
  bif (p0.length : Int) != (p1.length : Int) then
    some false
  else
    loopM (fun x : Int => slices_Equal_api_Ticket_api_Ticket_b1 p0 p1 x) (0 : Int)
theorem slices_Equal_api_Ticket_api_Ticket.ok {p0 : List D_api_Ticket} {p1 : List D_api_Ticket} {r : Bool} (h : slices_Equal_api_Ticket_api_Ticket p0 p1 = some r) : ACall prog 125 [⟨.slice T_api_Ticket, p0⟩, ⟨.slice T_api_Ticket, p1⟩] [⟨0, .bool, r⟩] := by
  replace h := Leads.of h
  unfold slices_Equal_api_Ticket_api_Ticket at h
  refine acall_of func125 (by kernel_rfl) rfl (by kernel_rfl) fun w0 F0 hw0 => ?_
  refine W_seq ?_
  refine W_region mixed tys_ok (sup := []) (l := [(0, 0), (1, 0)]) (E' := [(0, .v 0 (.slice T_api_Ticket) p0), (1, .v 0 (.slice T_api_Ticket) p1)]) (obs := []) (by kernel_rfl) (trivial) ?_
  refine W_seq ?_
  refine W_seq ?_
  refine W_region mixed tys_ok (sup := []) (l := [(0, 0), (1, 0), (10, 0)]) (E' := [(0, .v 0 (.slice T_api_Ticket) p0), (1, .v 0 (.slice T_api_Ticket) p1), (10, .v 0 .bool ((p0.length : Int) != (p1.length : Int)))]) (obs := []) (by kernel_rfl) (trivial) ?_
  refine W_cond (β := (p0.length : Int) != (p1.length : Int)) (by kernel_rfl) (fun hb => ?_) (fun hb => ?_)
  · rw [cond_tt hb] at h
    refine W_seq ?_
    refine W_region mixed tys_ok (sup := []) (l := [(4, 0)]) (E' := [(4, .v 0 .bool false)]) (obs := []) (by kernel_rfl) (trivial) ?_
    refine W_keep (l := [(4, 0)]) (E' := [(4, .v 0 .bool false)]) (by kernel_rfl) ?_
    replace h : false = r := h
    subst h
    exact W_ret tys_ok hw0 (by kernel_rfl) (by kernel_rfl)
  · rw [cond_ff hb] at h
    refine W_skip ?_
    refine W_seq ?_
    refine W_seq ?_
    refine W_region mixed tys_ok (sup := []) (l := [(0, 0), (1, 0), (12, 0), (13, 0)]) (E' := [(0, .v 0 (.slice T_api_Ticket) p0), (1, .v 0 (.slice T_api_Ticket) p1), (12, .v 0 (.int .i64) (p0.length : Int)), (13, .v 0 (.int .i64) (0 : Int))]) (obs := []) (by kernel_rfl) (trivial) ?_
    refine W_join h (Ej := fun (x : Unit) => []) (p := fun x => slices_Equal_api_Ticket_api_Ticket_j1) ?_ ?_
    · rintro ⟨⟩ h
      replace h : Leads _ (slices_Equal_api_Ticket_api_Ticket_j1) := h
      unfold slices_Equal_api_Ticket_api_Ticket_j1 at h
      show W _ _ _ _ _ _ []
      refine W_seq ?_
      refine W_region mixed tys_ok (sup := []) (l := [(4, 0)]) (E' := [(4, .v 0 .bool true)]) (obs := []) (by kernel_rfl) (trivial) ?_
      refine W_keep (l := [(4, 0)]) (E' := [(4, .v 0 .bool true)]) (by kernel_rfl) ?_
      replace h : true = r := h
      subst h
      exact W_ret tys_ok hw0 (by kernel_rfl) (by kernel_rfl)
    · intro j1
      refine W_block ?_
      refine W_keep (l := [(0, 0), (1, 0), (12, 0), (13, 0)]) (E' := [(0, .v 0 (.slice T_api_Ticket) p0), (1, .v 0 (.slice T_api_Ticket) p1), (12, .v 0 (.int .i64) (p0.length : Int)), (13, .v 0 (.int .i64) (0 : Int))]) (by kernel_rfl) ?_
      refine W_loop' (En := fun (x : Int) => [(0, .v 0 (.slice T_api_Ticket) p0), (1, .v 0 (.slice T_api_Ticket) p1), (12, .v 0 (.int .i64) (p0.length : Int)), (13, .v 0 (.int .i64) x)]) (x := (0 : Int)) h ?_
      rintro x1 K h
      replace h : Leads _ (slices_Equal_api_Ticket_api_Ticket_b1 p0 p1 x1) := h
      unfold slices_Equal_api_Ticket_api_Ticket_b1 at h
      show W _ _ _ _ _ _ [(0, .v 0 (.slice T_api_Ticket) p0), (1, .v 0 (.slice T_api_Ticket) p1), (12, .v 0 (.int .i64) (p0.length : Int)), (13, .v 0 (.int .i64) x1)]
      refine W_seq ?_
      refine W_region mixed tys_ok (sup := []) (l := [(0, 0), (1, 0), (12, 0), (13, 0), (14, 0)]) (E' := [(0, .v 0 (.slice T_api_Ticket) p0), (1, .v 0 (.slice T_api_Ticket) p1), (12, .v 0 (.int .i64) (p0.length : Int)), (13, .v 0 (.int .i64) x1), (14, .v 0 .bool (decide (x1 < (p0.length : Int))))]) (obs := []) (by kernel_rfl) (trivial) ?_
      refine W_seq ?_
      refine W_cond (β := decide (x1 < (p0.length : Int))) (by kernel_rfl) (fun hb => ?_) (fun hb => ?_)
      · rw [cond_tt hb] at h
        refine W_skip ?_
        refine W_seq ?_
        refine W_block ?_
        refine W_seq ?_
        refine W_region mixed tys_ok (sup := []) (l := [(0, 0), (1, 0), (5, 0), (12, 0), (13, 0)]) (E' := [(0, .v 0 (.slice T_api_Ticket) p0), (1, .v 0 (.slice T_api_Ticket) p1), (5, .v 0 (.int .i64) x1), (12, .v 0 (.int .i64) (p0.length : Int)), (13, .v 0 (.int .i64) x1)]) (obs := []) (by kernel_rfl) (trivial) ?_
        refine W_seq ?_
        obtain ⟨o1, h⟩ := h.ass
        obtain ⟨o2, h⟩ := h.ass
        refine W_region mixed tys_ok (sup := []) (l := [(0, 0), (1, 0), (12, 0), (13, 0), (24, 0)]) (E' := [(0, .v 0 (.slice T_api_Ticket) p0), (1, .v 0 (.slice T_api_Ticket) p1), (12, .v 0 (.int .i64) (p0.length : Int)), (13, .v 0 (.int .i64) x1), (24, .v 0 .bool (!(Ty.beq T_api_Ticket (rd z_api_Ticket p0 x1) (rd z_api_Ticket p1 x1))))]) (obs := [0 ≤ x1 ∧ x1 < (p0.length : Int), 0 ≤ x1 ∧ x1 < (p1.length : Int)]) (by kernel_rfl) (⟨o1, o2⟩) ?_
        refine W_cond (β := !(Ty.beq T_api_Ticket (rd z_api_Ticket p0 x1) (rd z_api_Ticket p1 x1))) (by kernel_rfl) (fun hb => ?_) (fun hb => ?_)
        · rw [cond_tt hb] at h
          refine W_seq ?_
          refine W_region mixed tys_ok (sup := []) (l := [(4, 0)]) (E' := [(4, .v 0 .bool false)]) (obs := []) (by kernel_rfl) (trivial) ?_
          refine W_keep (l := [(4, 0)]) (E' := [(4, .v 0 .bool false)]) (by kernel_rfl) ?_
          replace h : false = r := h
          subst h
          exact W_ret tys_ok hw0 (by kernel_rfl) (by kernel_rfl)
        · rw [cond_ff hb] at h
          refine W_skip ?_
          refine W_blk ?_
          refine W_region mixed tys_ok (sup := []) (l := [(0, 0), (1, 0), (12, 0), (13, 0)]) (E' := [(0, .v 0 (.slice T_api_Ticket) p0), (1, .v 0 (.slice T_api_Ticket) p1), (12, .v 0 (.int .i64) (p0.length : Int)), (13, .v 0 (.int .i64) (IntKind.i64.wrap (x1 + (1 : Int))))]) (obs := []) (by kernel_rfl) (trivial) ?_
          refine W_gen (x := IntKind.i64.wrap (x1 + (1 : Int))) (En := fun x2 => [(0, .v 0 (.slice T_api_Ticket) p0), (1, .v 0 (.slice T_api_Ticket) p1), (12, .v 0 (.int .i64) (p0.length : Int)), (13, .v 0 (.int .i64) x2)]) h (fun x2 h => ?_)
          refine W_keep (l := [(0, 0), (1, 0), (12, 0), (13, 0)]) (E' := [(0, .v 0 (.slice T_api_Ticket) p0), (1, .v 0 (.slice T_api_Ticket) p1), (12, .v 0 (.int .i64) (p0.length : Int)), (13, .v 0 (.int .i64) x2)]) (by kernel_rfl) ?_
          exact W_abs h
      · rw [cond_ff hb] at h
        refine W_exit rfl ?_
        refine W_keep (l := []) (E' := []) (by kernel_rfl) ?_
        exact j1 () h.back

noncomputable def slices_Equal_api_Thread_api_Thread_j1 : Option (Bool) :=
  some true
noncomputable def slices_Equal_api_Thread_api_Thread_b1 (p0 : List D_api_Thread) (p1 : List D_api_Thread) (x1 : Int) : Option (Int ⊕ Bool) :=
  bif decide (x1 < (p0.length : Int)) then
    ass (0 ≤ x1 ∧ x1 < (p0.length : Int)) <|
    ass (0 ≤ x1 ∧ x1 < (p1.length : Int)) <|
    bif !(Ty.beq T_api_Thread (rd z_api_Thread p0 x1) (rd z_api_Thread p1 x1)) then
      some (.inr false)
    else
      bnd (IntKind.i64.wrap (x1 + (1 : Int))) fun x2 =>
      some (.inl x2)
  else
    (slices_Equal_api_Thread_api_Thread_j1).map .inr
noncomputable def slices_Equal_api_Thread_api_Thread (p0 : List D_api_Thread) (p1 : List D_api_Thread) : Option Bool :=
  bif (p0.length : Int) != (p1.length : Int) then
    some false
  else
    loopM (fun x : Int => slices_Equal_api_Thread_api_Thread_b1 p0 p1 x) (0 : Int)
theorem slices_Equal_api_Thread_api_Thread.ok {p0 : List D_api_Thread} {p1 : List D_api_Thread} {r : Bool} (h : slices_Equal_api_Thread_api_Thread p0 p1 = some r) : ACall prog 126 [⟨.slice T_api_Thread, p0⟩, ⟨.slice T_api_Thread, p1⟩] [⟨0, .bool, r⟩] := by
  replace h := Leads.of h
  unfold slices_Equal_api_Thread_api_Thread at h
  refine acall_of func126 (by kernel_rfl) rfl (by kernel_rfl) fun w0 F0 hw0 => ?_
  refine W_seq ?_
  refine W_region mixed tys_ok (sup := []) (l := [(0, 0), (1, 0)]) (E' := [(0, .v 0 (.slice T_api_Thread) p0), (1, .v 0 (.slice T_api_Thread) p1)]) (obs := []) (by kernel_rfl) (trivial) ?_
  refine W_seq ?_
  refine W_seq ?_
  refine W_region mixed tys_ok (sup := []) (l := [(0, 0), (1, 0), (10, 0)]) (E' := [(0, .v 0 (.slice T_api_Thread) p0), (1, .v 0 (.slice T_api_Thread) p1), (10, .v 0 .bool ((p0.length : Int) != (p1.length : Int)))]) (obs := []) (by kernel_rfl) (trivial) ?_
  refine W_cond (β := (p0.length : Int) != (p1.length : Int)) (by kernel_rfl) (fun hb => ?_) (fun hb => ?_)
  · rw [cond_tt hb] at h
    refine W_seq ?_
    refine W_region mixed tys_ok (sup := []) (l := [(4, 0)]) (E' := [(4, .v 0 .bool false)]) (obs := []) (by kernel_rfl) (trivial) ?_
    refine W_keep (l := [(4, 0)]) (E' := [(4, .v 0 .bool false)]) (by kernel_rfl) ?_
    replace h : false = r := h
    subst h
    exact W_ret tys_ok hw0 (by kernel_rfl) (by kernel_rfl)
  · rw [cond_ff hb] at h
    refine W_skip ?_
    refine W_seq ?_
    refine W_seq ?_
    refine W_region mixed tys_ok (sup := []) (l := [(0, 0), (1, 0), (12, 0), (13, 0)]) (E' := [(0, .v 0 (.slice T_api_Thread) p0), (1, .v 0 (.slice T_api_Thread) p1), (12, .v 0 (.int .i64) (p0.length : Int)), (13, .v 0 (.int .i64) (0 : Int))]) (obs := []) (by kernel_rfl) (trivial) ?_
    refine W_join h (Ej := fun (x : Unit) => []) (p := fun x => slices_Equal_api_Thread_api_Thread_j1) ?_ ?_
    · rintro ⟨⟩ h
      replace h : Leads _ (slices_Equal_api_Thread_api_Thread_j1) := h
      unfold slices_Equal_api_Thread_api_Thread_j1 at h
      show W _ _ _ _ _ _ []
      refine W_seq ?_
      refine W_region mixed tys_ok (sup := []) (l := [(4, 0)]) (E' := [(4, .v 0 .bool true)]) (obs := []) (by kernel_rfl) (trivial) ?_
      refine W_keep (l := [(4, 0)]) (E' := [(4, .v 0 .bool true)]) (by kernel_rfl) ?_
      replace h : true = r := h
      subst h
      exact W_ret tys_ok hw0 (by kernel_rfl) (by kernel_rfl)
    · intro j1
      refine W_block ?_
      refine W_keep (l := [(0, 0), (1, 0), (12, 0), (13, 0)]) (E' := [(0, .v 0 (.slice T_api_Thread) p0), (1, .v 0 (.slice T_api_Thread) p1), (12, .v 0 (.int .i64) (p0.length : Int)), (13, .v 0 (.int .i64) (0 : Int))]) (by kernel_rfl) ?_
      refine W_loop' (En := fun (x : Int) => [(0, .v 0 (.slice T_api_Thread) p0), (1, .v 0 (.slice T_api_Thread) p1), (12, .v 0 (.int .i64) (p0.length : Int)), (13, .v 0 (.int .i64) x)]) (x := (0 : Int)) h ?_
      rintro x1 K h
      replace h : Leads _ (slices_Equal_api_Thread_api_Thread_b1 p0 p1 x1) := h
      unfold slices_Equal_api_Thread_api_Thread_b1 at h
      show W _ _ _ _ _ _ [(0, .v 0 (.slice T_api_Thread) p0), (1, .v 0 (.slice T_api_Thread) p1), (12, .v 0 (.int .i64) (p0.length : Int)), (13, .v 0 (.int .i64) x1)]
      refine W_seq ?_
      refine W_region mixed tys_ok (sup := []) (l := [(0, 0), (1, 0), (12, 0), (13, 0), (14, 0)]) (E' := [(0, .v 0 (.slice T_api_Thread) p0), (1, .v 0 (.slice T_api_Thread) p1), (12, .v 0 (.int .i64) (p0.length : Int)), (13, .v 0 (.int .i64) x1), (14, .v 0 .bool (decide (x1 < (p0.length : Int))))]) (obs := []) (by kernel_rfl) (trivial) ?_
      refine W_seq ?_
      refine W_cond (β := decide (x1 < (p0.length : Int))) (by kernel_rfl) (fun hb => ?_) (fun hb => ?_)
      · rw [cond_tt hb] at h
        refine W_skip ?_
        refine W_seq ?_
        refine W_block ?_
        refine W_seq ?_
        refine W_region mixed tys_ok (sup := []) (l := [(0, 0), (1, 0), (5, 0), (12, 0), (13, 0)]) (E' := [(0, .v 0 (.slice T_api_Thread) p0), (1, .v 0 (.slice T_api_Thread) p1), (5, .v 0 (.int .i64) x1), (12, .v 0 (.int .i64) (p0.length : Int)), (13, .v 0 (.int .i64) x1)]) (obs := []) (by kernel_rfl) (trivial) ?_
        refine W_seq ?_
        obtain ⟨o1, h⟩ := h.ass
        obtain ⟨o2, h⟩ := h.ass
        refine W_region mixed tys_ok (sup := []) (l := [(0, 0), (1, 0), (12, 0), (13, 0), (24, 0)]) (E' := [(0, .v 0 (.slice T_api_Thread) p0), (1, .v 0 (.slice T_api_Thread) p1), (12, .v 0 (.int .i64) (p0.length : Int)), (13, .v 0 (.int .i64) x1), (24, .v 0 .bool (!(Ty.beq T_api_Thread (rd z_api_Thread p0 x1) (rd z_api_Thread p1 x1))))]) (obs := [0 ≤ x1 ∧ x1 < (p0.length : Int), 0 ≤ x1 ∧ x1 < (p1.length : Int)]) (by kernel_rfl) (⟨o1, o2⟩) ?_
        refine W_cond (β := !(Ty.beq T_api_Thread (rd z_api_Thread p0 x1) (rd z_api_Thread p1 x1))) (by kernel_rfl) (fun hb => ?_) (fun hb => ?_)
        · rw [cond_tt hb] at h
          refine W_seq ?_
          refine W_region mixed tys_ok (sup := []) (l := [(4, 0)]) (E' := [(4, .v 0 .bool false)]) (obs := []) (by kernel_rfl) (trivial) ?_
          refine W_keep (l := [(4, 0)]) (E' := [(4, .v 0 .bool false)]) (by kernel_rfl) ?_
          replace h : false = r := h
          subst h
          exact W_ret tys_ok hw0 (by kernel_rfl) (by kernel_rfl)
        · rw [cond_ff hb] at h
          refine W_skip ?_
          refine W_blk ?_
          refine W_region mixed tys_ok (sup := []) (l := [(0, 0), (1, 0), (12, 0), (13, 0)]) (E' := [(0, .v 0 (.slice T_api_Thread) p0), (1, .v 0 (.slice T_api_Thread) p1), (12, .v 0 (.int .i64) (p0.length : Int)), (13, .v 0 (.int .i64) (IntKind.i64.wrap (x1 + (1 : Int))))]) (obs := []) (by kernel_rfl) (trivial) ?_
          refine W_gen (x := IntKind.i64.wrap (x1 + (1 : Int))) (En := fun x2 => [(0, .v 0 (.slice T_api_Thread) p0), (1, .v 0 (.slice T_api_Thread) p1), (12, .v 0 (.int .i64) (p0.length : Int)), (13, .v 0 (.int .i64) x2)]) h (fun x2 h => ?_)
          refine W_keep (l := [(0, 0), (1, 0), (12, 0), (13, 0)]) (E' := [(0, .v 0 (.slice T_api_Thread) p0), (1, .v 0 (.slice T_api_Thread) p1), (12, .v 0 (.int .i64) (p0.length : Int)), (13, .v 0 (.int .i64) x2)]) (by kernel_rfl) ?_
          exact W_abs h
      · rw [cond_ff hb] at h
        refine W_exit rfl ?_
        refine W_keep (l := []) (E' := []) (by kernel_rfl) ?_
        exact j1 () h.back

noncomputable def slices_Equal_api_Lock_api_Lock_j1 : Option (Bool) :=
  some true
noncomputable def slices_Equal_api_Lock_api_Lock_b1 (p0 : List D_api_Lock) (p1 : List D_api_Lock) (x1 : Int) : Option (Int ⊕ Bool) :=
  bif decide (x1 < (p0.length : Int)) then
    ass (0 ≤ x1 ∧ x1 < (p0.length : Int)) <|
    ass (0 ≤ x1 ∧ x1 < (p1.length : Int)) <|
    bif !(Ty.beq T_api_Lock (rd z_api_Lock p0 x1) (rd z_api_Lock p1 x1)) then
      some (.inr false)
    else
      bnd (IntKind.i64.wrap (x1 + (1 : Int))) fun x2 =>
      some (.inl x2)
  else
    (slices_Equal_api_Lock_api_Lock_j1).map .inr
noncomputable def slices_Equal_api_Lock_api_Lock (p0 : List D_api_Lock) (p1 : List D_api_Lock) : Option Bool :=
  bif (p0.length : Int) != (p1.length : Int) then
    some false
  else
    loopM (fun x : Int => slices_Equal_api_Lock_api_Lock_b1 p0 p1 x) (0 : Int)
theorem slices_Equal_api_Lock_api_Lock.ok {p0 : List D_api_Lock} {p1 : List D_api_Lock} {r : Bool} (h : slices_Equal_api_Lock_api_Lock p0 p1 = some r) : ACall prog 127 [⟨.slice T_api_Lock, p0⟩, ⟨.slice T_api_Lock, p1⟩] [⟨0, .bool, r⟩] := by
  replace h := Leads.of h
  unfold slices_Equal_api_Lock_api_Lock at h
  refine acall_of func127 (by kernel_rfl) rfl (by kernel_rfl) fun w0 F0 hw0 => ?_
  refine W_seq ?_
  refine W_region mixed tys_ok (sup := []) (l := [(0, 0), (1, 0)]) (E' := [(0, .v 0 (.slice T_api_Lock) p0), (1, .v 0 (.slice T_api_Lock) p1)]) (obs := []) (by kernel_rfl) (trivial) ?_
  refine W_seq ?_
  refine W_seq ?_
  refine W_region mixed tys_ok (sup := []) (l := [(0, 0), (1, 0), (10, 0)]) (E' := [(0, .v 0 (.slice T_api_Lock) p0), (1, .v 0 (.slice T_api_Lock) p1), (10, .v 0 .bool ((p0.length : Int) != (p1.length : Int)))]) (obs := []) (by kernel_rfl) (trivial) ?_
  refine W_cond (β := (p0.length : Int) != (p1.length : Int)) (by kernel_rfl) (fun hb => ?_) (fun hb => ?_)
  · rw [cond_tt hb] at h
    refine W_seq ?_
    refine W_region mixed tys_ok (sup := []) (l := [(4, 0)]) (E' := [(4, .v 0 .bool false)]) (obs := []) (by kernel_rfl) (trivial) ?_
    refine W_keep (l := [(4, 0)]) (E' := [(4, .v 0 .bool false)]) (by kernel_rfl) ?_
    replace h : false = r := h
    subst h
    exact W_ret tys_ok hw0 (by kernel_rfl) (by kernel_rfl)
  · rw [cond_ff hb] at h
    refine W_skip ?_
    refine W_seq ?_
    refine W_seq ?_
    refine W_region mixed tys_ok (sup := []) (l := [(0, 0), (1, 0), (12, 0), (13, 0)]) (E' := [(0, .v 0 (.slice T_api_Lock) p0), (1, .v 0 (.slice T_api_Lock) p1), (12, .v 0 (.int .i64) (p0.length : Int)), (13, .v 0 (.int .i64) (0 : Int))]) (obs := []) (by kernel_rfl) (trivial) ?_
    refine W_join h (Ej := fun (x : Unit) => []) (p := fun x => slices_Equal_api_Lock_api_Lock_j1) ?_ ?_
    · rintro ⟨⟩ h
      replace h : Leads _ (slices_Equal_api_Lock_api_Lock_j1) := h
      unfold slices_Equal_api_Lock_api_Lock_j1 at h
      show W _ _ _ _ _ _ []
      refine W_seq ?_
      refine W_region mixed tys_ok (sup := []) (l := [(4, 0)]) (E' := [(4, .v 0 .bool true)]) (obs := []) (by kernel_rfl) (trivial) ?_
      refine W_keep (l := [(4, 0)]) (E' := [(4, .v 0 .bool true)]) (by kernel_rfl) ?_
      replace h : true = r := h
      subst h
      exact W_ret tys_ok hw0 (by kernel_rfl) (by kernel_rfl)
    · intro j1
      refine W_block ?_
      refine W_keep (l := [(0, 0), (1, 0), (12, 0), (13, 0)]) (E' := [(0, .v 0 (.slice T_api_Lock) p0), (1, .v 0 (.slice T_api_Lock) p1), (12, .v 0 (.int .i64) (p0.length : Int)), (13, .v 0 (.int .i64) (0 : Int))]) (by kernel_rfl) ?_
      refine W_loop' (En := fun (x : Int) => [(0, .v 0 (.slice T_api_Lock) p0), (1, .v 0 (.slice T_api_Lock) p1), (12, .v 0 (.int .i64) (p0.length : Int)), (13, .v 0 (.int .i64) x)]) (x := (0 : Int)) h ?_
      rintro x1 K h
      replace h : Leads _ (slices_Equal_api_Lock_api_Lock_b1 p0 p1 x1) := h
      unfold slices_Equal_api_Lock_api_Lock_b1 at h
      show W _ _ _ _ _ _ [(0, .v 0 (.slice T_api_Lock) p0), (1, .v 0 (.slice T_api_Lock) p1), (12, .v 0 (.int .i64) (p0.length : Int)), (13, .v 0 (.int .i64) x1)]
      refine W_seq ?_
      refine W_region mixed tys_ok (sup := []) (l := [(0, 0), (1, 0), (12, 0), (13, 0), (14, 0)]) (E' := [(0, .v 0 (.slice T_api_Lock) p0), (1, .v 0 (.slice T_api_Lock) p1), (12, .v 0 (.int .i64) (p0.length : Int)), (13, .v 0 (.int .i64) x1), (14, .v 0 .bool (decide (x1 < (p0.length : Int))))]) (obs := []) (by kernel_rfl) (trivial) ?_
      refine W_seq ?_
      refine W_cond (β := decide (x1 < (p0.length : Int))) (by kernel_rfl) (fun hb => ?_) (fun hb => ?_)
      · rw [cond_tt hb] at h
        refine W_skip ?_
        refine W_seq ?_
        refine W_block ?_
        refine W_seq ?_
        refine W_region mixed tys_ok (sup := []) (l := [(0, 0), (1, 0), (5, 0), (12, 0), (13, 0)]) (E' := [(0, .v 0 (.slice T_api_Lock) p0), (1, .v 0 (.slice T_api_Lock) p1), (5, .v 0 (.int .i64) x1), (12, .v 0 (.int .i64) (p0.length : Int)), (13, .v 0 (.int .i64) x1)]) (obs := []) (by kernel_rfl) (trivial) ?_
        refine W_seq ?_
        obtain ⟨o1, h⟩ := h.ass
        obtain ⟨o2, h⟩ := h.ass
        refine W_region mixed tys_ok (sup := []) (l := [(0, 0), (1, 0), (12, 0), (13, 0), (24, 0)]) (E' := [(0, .v 0 (.slice T_api_Lock) p0), (1, .v 0 (.slice T_api_Lock) p1), (12, .v 0 (.int .i64) (p0.length : Int)), (13, .v 0 (.int .i64) x1), (24, .v 0 .bool (!(Ty.beq T_api_Lock (rd z_api_Lock p0 x1) (rd z_api_Lock p1 x1))))]) (obs := [0 ≤ x1 ∧ x1 < (p0.length : Int), 0 ≤ x1 ∧ x1 < (p1.length : Int)]) (by kernel_rfl) (⟨o1, o2⟩) ?_
        refine W_cond (β := !(Ty.beq T_api_Lock (rd z_api_Lock p0 x1) (rd z_api_Lock p1 x1))) (by kernel_rfl) (fun hb => ?_) (fun hb => ?_)
        · rw [cond_tt hb] at h
          refine W_seq ?_
          refine W_region mixed tys_ok (sup := []) (l := [(4, 0)]) (E' := [(4, .v 0 .bool false)]) (obs := []) (by kernel_rfl) (trivial) ?_
          refine W_keep (l := [(4, 0)]) (E' := [(4, .v 0 .bool false)]) (by kernel_rfl) ?_
          replace h : false = r := h
          subst h
          exact W_ret tys_ok hw0 (by kernel_rfl) (by kernel_rfl)
        · rw [cond_ff hb] at h
          refine W_skip ?_
          refine W_blk ?_
          refine W_region mixed tys_ok (sup := []) (l := [(0, 0), (1, 0), (12, 0), (13, 0)]) (E' := [(0, .v 0 (.slice T_api_Lock) p0), (1, .v 0 (.slice T_api_Lock) p1), (12, .v 0 (.int .i64) (p0.length : Int)), (13, .v 0 (.int .i64) (IntKind.i64.wrap (x1 + (1 : Int))))]) (obs := []) (by kernel_rfl) (trivial) ?_
          refine W_gen (x := IntKind.i64.wrap (x1 + (1 : Int))) (En := fun x2 => [(0, .v 0 (.slice T_api_Lock) p0), (1, .v 0 (.slice T_api_Lock) p1), (12, .v 0 (.int .i64) (p0.length : Int)), (13, .v 0 (.int .i64) x2)]) h (fun x2 h => ?_)
          refine W_keep (l := [(0, 0), (1, 0), (12, 0), (13, 0)]) (E' := [(0, .v 0 (.slice T_api_Lock) p0), (1, .v 0 (.slice T_api_Lock) p1), (12, .v 0 (.int .i64) (p0.length : Int)), (13, .v 0 (.int .i64) x2)]) (by kernel_rfl) ?_
          exact W_abs h
      · rw [cond_ff hb] at h
        refine W_exit rfl ?_
        refine W_keep (l := []) (E' := []) (by kernel_rfl) ?_
        exact j1 () h.back

noncomputable def slices_Equal_int_int_j1 : Option (Bool) :=
  some true
noncomputable def slices_Equal_int_int_b1 (p0 : List Int) (p1 : List Int) (x1 : Int) : Option (Int ⊕ Bool) :=
  bif decide (x1 < (p0.length : Int)) then
    ass (0 ≤ x1 ∧ x1 < (p0.length : Int)) <|
    ass (0 ≤ x1 ∧ x1 < (p1.length : Int)) <|
    bif (rd (0 : Int) p0 x1) != (rd (0 : Int) p1 x1) then
      some (.inr false)
    else
      bnd (IntKind.i64.wrap (x1 + (1 : Int))) fun x2 =>
      some (.inl x2)
  else
    (slices_Equal_int_int_j1).map .inr
noncomputable def slices_Equal_int_int (p0 : List Int) (p1 : List Int) : Option Bool :=
  bif (p0.length : Int) != (p1.length : Int) then
    some false
  else
    loopM (fun x : Int => slices_Equal_int_int_b1 p0 p1 x) (0 : Int)
theorem slices_Equal_int_int.ok {p0 : List Int} {p1 : List Int} {r : Bool} (h : slices_Equal_int_int p0 p1 = some r) : ACall prog 128 [⟨.slice (.int .i64), p0⟩, ⟨.slice (.int .i64), p1⟩] [⟨0, .bool, r⟩] := by
  replace h := Leads.of h
  unfold slices_Equal_int_int at h
  refine acall_of func128 (by kernel_rfl) rfl (by kernel_rfl) fun w0 F0 hw0 => ?_
  refine W_seq ?_
  refine W_region mixed tys_ok (sup := []) (l := [(0, 0), (1, 0)]) (E' := [(0, .v 0 (.slice (.int .i64)) p0), (1, .v 0 (.slice (.int .i64)) p1)]) (obs := []) (by kernel_rfl) (trivial) ?_
  refine W_seq ?_
  refine W_seq ?_
  refine W_region mixed tys_ok (sup := []) (l := [(0, 0), (1, 0), (10, 0)]) (E' := [(0, .v 0 (.slice (.int .i64)) p0), (1, .v 0 (.slice (.int .i64)) p1), (10, .v 0 .bool ((p0.length : Int) != (p1.length : Int)))]) (obs := []) (by kernel_rfl) (trivial) ?_
  refine W_cond (β := (p0.length : Int) != (p1.length : Int)) (by kernel_rfl) (fun hb => ?_) (fun hb => ?_)
  · rw [cond_tt hb] at h
    refine W_seq ?_
    refine W_region mixed tys_ok (sup := []) (l := [(4, 0)]) (E' := [(4, .v 0 .bool false)]) (obs := []) (by kernel_rfl) (trivial) ?_
    refine W_keep (l := [(4, 0)]) (E' := [(4, .v 0 .bool false)]) (by kernel_rfl) ?_
    replace h : false = r := h
    subst h
    exact W_ret tys_ok hw0 (by kernel_rfl) (by kernel_rfl)
  · rw [cond_ff hb] at h
    refine W_skip ?_
    refine W_seq ?_
    refine W_seq ?_
    refine W_region mixed tys_ok (sup := []) (l := [(0, 0), (1, 0), (12, 0), (13, 0)]) (E' := [(0, .v 0 (.slice (.int .i64)) p0), (1, .v 0 (.slice (.int .i64)) p1), (12, .v 0 (.int .i64) (p0.length : Int)), (13, .v 0 (.int .i64) (0 : Int))]) (obs := []) (by kernel_rfl) (trivial) ?_
    refine W_join h (Ej := fun (x : Unit) => []) (p := fun x => slices_Equal_int_int_j1) ?_ ?_
    · rintro ⟨⟩ h
      replace h : Leads _ (slices_Equal_int_int_j1) := h
      unfold slices_Equal_int_int_j1 at h
      show W _ _ _ _ _ _ []
      refine W_seq ?_
      refine W_region mixed tys_ok (sup := []) (l := [(4, 0)]) (E' := [(4, .v 0 .bool true)]) (obs := []) (by kernel_rfl) (trivial) ?_
      refine W_keep (l := [(4, 0)]) (E' := [(4, .v 0 .bool true)]) (by kernel_rfl) ?_
      replace h : true = r := h
      subst h
      exact W_ret tys_ok hw0 (by kernel_rfl) (by kernel_rfl)
    · intro j1
      refine W_block ?_
      refine W_keep (l := [(0, 0), (1, 0), (12, 0), (13, 0)]) (E' := [(0, .v 0 (.slice (.int .i64)) p0), (1, .v 0 (.slice (.int .i64)) p1), (12, .v 0 (.int .i64) (p0.length : Int)), (13, .v 0 (.int .i64) (0 : Int))]) (by kernel_rfl) ?_
      refine W_loop' (En := fun (x : Int) => [(0, .v 0 (.slice (.int .i64)) p0), (1, .v 0 (.slice (.int .i64)) p1), (12, .v 0 (.int .i64) (p0.length : Int)), (13, .v 0 (.int .i64) x)]) (x := (0 : Int)) h ?_
      rintro x1 K h
      replace h : Leads _ (slices_Equal_int_int_b1 p0 p1 x1) := h
      unfold slices_Equal_int_int_b1 at h
      show W _ _ _ _ _ _ [(0, .v 0 (.slice (.int .i64)) p0), (1, .v 0 (.slice (.int .i64)) p1), (12, .v 0 (.int .i64) (p0.length : Int)), (13, .v 0 (.int .i64) x1)]
      refine W_seq ?_
      refine W_region mixed tys_ok (sup := []) (l := [(0, 0), (1, 0), (12, 0), (13, 0), (14, 0)]) (E' := [(0, .v 0 (.slice (.int .i64)) p0), (1, .v 0 (.slice (.int .i64)) p1), (12, .v 0 (.int .i64) (p0.length : Int)), (13, .v 0 (.int .i64) x1), (14, .v 0 .bool (decide (x1 < (p0.length : Int))))]) (obs := []) (by kernel_rfl) (trivial) ?_
      refine W_seq ?_
      refine W_cond (β := decide (x1 < (p0.length : Int))) (by kernel_rfl) (fun hb => ?_) (fun hb => ?_)
      · rw [cond_tt hb] at h
        refine W_skip ?_
        refine W_seq ?_
        refine W_block ?_
        refine W_seq ?_
        refine W_region mixed tys_ok (sup := []) (l := [(0, 0), (1, 0), (5, 0), (12, 0), (13, 0)]) (E' := [(0, .v 0 (.slice (.int .i64)) p0), (1, .v 0 (.slice (.int .i64)) p1), (5, .v 0 (.int .i64) x1), (12, .v 0 (.int .i64) (p0.length : Int)), (13, .v 0 (.int .i64) x1)]) (obs := []) (by kernel_rfl) (trivial) ?_
        refine W_seq ?_
        obtain ⟨o1, h⟩ := h.ass
        obtain ⟨o2, h⟩ := h.ass
        refine W_region mixed tys_ok (sup := []) (l := [(0, 0), (1, 0), (12, 0), (13, 0), (24, 0)]) (E' := [(0, .v 0 (.slice (.int .i64)) p0), (1, .v 0 (.slice (.int .i64)) p1), (12, .v 0 (.int .i64) (p0.length : Int)), (13, .v 0 (.int .i64) x1), (24, .v 0 .bool ((rd (0 : Int) p0 x1) != (rd (0 : Int) p1 x1)))]) (obs := [0 ≤ x1 ∧ x1 < (p0.length : Int), 0 ≤ x1 ∧ x1 < (p1.length : Int)]) (by kernel_rfl) (⟨o1, o2⟩) ?_
        refine W_cond (β := (rd (0 : Int) p0 x1) != (rd (0 : Int) p1 x1)) (by kernel_rfl) (fun hb => ?_) (fun hb => ?_)
        · rw [cond_tt hb] at h
          refine W_seq ?_
          refine W_region mixed tys_ok (sup := []) (l := [(4, 0)]) (E' := [(4, .v 0 .bool false)]) (obs := []) (by kernel_rfl) (trivial) ?_
          refine W_keep (l := [(4, 0)]) (E' := [(4, .v 0 .bool false)]) (by kernel_rfl) ?_
          replace h : false = r := h
          subst h
          exact W_ret tys_ok hw0 (by kernel_rfl) (by kernel_rfl)
        · rw [cond_ff hb] at h
          refine W_skip ?_
          refine W_blk ?_
          refine W_region mixed tys_ok (sup := []) (l := [(0, 0), (1, 0), (12, 0), (13, 0)]) (E' := [(0, .v 0 (.slice (.int .i64)) p0), (1, .v 0 (.slice (.int .i64)) p1), (12, .v 0 (.int .i64) (p0.length : Int)), (13, .v 0 (.int .i64) (IntKind.i64.wrap (x1 + (1 : Int))))]) (obs := []) (by kernel_rfl) (trivial) ?_
          refine W_gen (x := IntKind.i64.wrap (x1 + (1 : Int))) (En := fun x2 => [(0, .v 0 (.slice (.int .i64)) p0), (1, .v 0 (.slice (.int .i64)) p1), (12, .v 0 (.int .i64) (p0.length : Int)), (13, .v 0 (.int .i64) x2)]) h (fun x2 h => ?_)
          refine W_keep (l := [(0, 0), (1, 0), (12, 0), (13, 0)]) (E' := [(0, .v 0 (.slice (.int .i64)) p0), (1, .v 0 (.slice (.int .i64)) p1), (12, .v 0 (.int .i64) (p0.length : Int)), (13, .v 0 (.int .i64) x2)]) (by kernel_rfl) ?_
          exact W_abs h
      · rw [cond_ff hb] at h
        refine W_exit rfl ?_
        refine W_keep (l := []) (E' := []) (by kernel_rfl) ?_
        exact j1 () h.back

noncomputable def state_Same (p0 : D_api_State) (p1 : D_api_State) : Option Bool :=
  (slices_Equal_bool_bool p0.1 p1.1).bind fun y1 =>
  (bif y1 then slices_Equal_api_Ticket_api_Ticket p0.2.1 p1.2.1 else some false).bind fun y2 =>
  (bif y1 && y2 then slices_Equal_api_Thread_api_Thread p0.2.2.1 p1.2.2.1 else some false).bind fun y3 =>
  (bif (y1 && y2) && y3 then slices_Equal_api_Lock_api_Lock p0.2.2.2.1 p1.2.2.2.1 else some false).bind fun y4 =>
  (bif ((y1 && y2) && y3) && y4 then slices_Equal_int_int p0.2.2.2.2.1 p1.2.2.2.2.1 else some false).bind fun y5 =>
  bnd (((((y1 && y2) && y3) && y4) && y5) && (p0.2.2.2.2.2 == p1.2.2.2.2.2)) fun x6 =>
  some x6
theorem state_Same.ok {p0 : D_api_State} {p1 : D_api_State} {r : Bool} (h : state_Same p0 p1 = some r) : ACall prog 43 [⟨T_api_State, p0⟩, ⟨T_api_State, p1⟩] [⟨0, .bool, r⟩] := by
  replace h := Leads.of h
  unfold state_Same at h
  refine acall_of func43 (by kernel_rfl) rfl (by kernel_rfl) fun w0 F0 hw0 => ?_
  refine W_seq ?_
  refine W_region mixed tys_ok (sup := []) (l := [(2, 0), (3, 0)]) (E' := [(2, .box 0 T_api_State p0), (3, .box 0 T_api_State p1)]) (obs := []) (by kernel_rfl) (trivial) ?_
  refine W_seq ?_
  obtain ⟨y1, ey1, h⟩ := h.bind
  obtain ⟨y2, ey2, h⟩ := h.bind
  obtain ⟨y3, ey3, h⟩ := h.bind
  obtain ⟨y4, ey4, h⟩ := h.bind
  obtain ⟨y5, ey5, h⟩ := h.bind
  refine W_region mixed tys_ok (sup := [.res [(0, ⟨0, .bool, y1⟩)], .res [(0, ⟨0, .bool, y2⟩)], .res [(0, ⟨0, .bool, y3⟩)], .res [(0, ⟨0, .bool, y4⟩)], .res [(0, ⟨0, .bool, y5⟩)]]) (l := [(4, 0)]) (E' := [(4, .v 0 .bool (((((y1 && y2) && y3) && y4) && y5) && (p0.2.2.2.2.2 == p1.2.2.2.2.2)))]) (obs := [ACall prog 124 [⟨.slice .bool, p0.1⟩, ⟨.slice .bool, p1.1⟩] [⟨0, .bool, y1⟩], y1 = true → ACall prog 125 [⟨.slice T_api_Ticket, p0.2.1⟩, ⟨.slice T_api_Ticket, p1.2.1⟩] [⟨0, .bool, y2⟩], (y1 && y2) = true → ACall prog 126 [⟨.slice T_api_Thread, p0.2.2.1⟩, ⟨.slice T_api_Thread, p1.2.2.1⟩] [⟨0, .bool, y3⟩], ((y1 && y2) && y3) = true → ACall prog 127 [⟨.slice T_api_Lock, p0.2.2.2.1⟩, ⟨.slice T_api_Lock, p1.2.2.2.1⟩] [⟨0, .bool, y4⟩], (((y1 && y2) && y3) && y4) = true → ACall prog 128 [⟨.slice (.int .i64), p0.2.2.2.2.1⟩, ⟨.slice (.int .i64), p1.2.2.2.2.1⟩] [⟨0, .bool, y5⟩]]) (by kernel_rfl) (⟨slices_Equal_bool_bool.ok ey1, fun hc => slices_Equal_api_Ticket_api_Ticket.ok (bif_some ey2 hc), fun hc => slices_Equal_api_Thread_api_Thread.ok (bif_some ey3 hc), fun hc => slices_Equal_api_Lock_api_Lock.ok (bif_some ey4 hc), fun hc => slices_Equal_int_int.ok (bif_some ey5 hc)⟩) ?_
  refine W_gen (x := ((((y1 && y2) && y3) && y4) && y5) && (p0.2.2.2.2.2 == p1.2.2.2.2.2)) (En := fun x6 => [(4, .v 0 .bool x6)]) h (fun x6 h => ?_)
  refine W_keep (l := [(4, 0)]) (E' := [(4, .v 0 .bool x6)]) (by kernel_rfl) ?_
  replace h : x6 = r := h
  subst h
  exact W_ret tys_ok hw0 (by kernel_rfl) (by kernel_rfl)

noncomputable def l14_alive : Option Bool :=
  (state_New (10 : Int)).bind fun y1 =>
  (state_New (0 : Int)).bind fun y2 =>
  (state_PutThread y1.1 (0 : Int) ((2 : Int), (-1 : Int), (-1 : Int), (1 : Int), (1 : Int))).bind fun y3 =>
  (bif ((y1.2 == (0 : Int)) && (y2.2 == (1 : Int))) && ((y1.1.1.length : Int) == (1 : Int)) then state_Fine y1.1 else some false).bind fun y4 =>
  (bif (((y1.2 == (0 : Int)) && (y2.2 == (1 : Int))) && ((y1.1.1.length : Int) == (1 : Int))) && y4 then state_Fine y3 else some false).bind fun y5 =>
  (bif ((((y1.2 == (0 : Int)) && (y2.2 == (1 : Int))) && ((y1.1.1.length : Int) == (1 : Int))) && y4) && y5 then state_FreeThread y3 else some (0 : Int)).bind fun y6 =>
  (bif (((((y1.2 == (0 : Int)) && (y2.2 == (1 : Int))) && ((y1.1.1.length : Int) == (1 : Int))) && y4) && y5) && (y6 == (1 : Int)) then state_Fine (([] : List Bool), ([] : List D_api_Ticket), ([] : List D_api_Thread), ([] : List D_api_Lock), ([] : List Int), (0 : Int)) else some false).bind fun y7 =>
  (bif ((((((y1.2 == (0 : Int)) && (y2.2 == (1 : Int))) && ((y1.1.1.length : Int) == (1 : Int))) && y4) && y5) && (y6 == (1 : Int))) && (!y7) then state_Same y1.1 y3 else some false).bind fun y8 =>
  bnd ((((((((y1.2 == (0 : Int)) && (y2.2 == (1 : Int))) && ((y1.1.1.length : Int) == (1 : Int))) && y4) && y5) && (y6 == (1 : Int))) && (!y7)) && (!y8)) fun x9 =>
  some x9
theorem l14_alive.ok {r : Bool} (h : l14_alive = some r) : ACall prog 40 [] [⟨0, .bool, r⟩] := by
  replace h := Leads.of h
  unfold l14_alive at h
  refine acall_of func40 (by kernel_rfl) rfl (by kernel_rfl) fun w0 F0 hw0 => ?_
  refine W_seq ?_
  refine W_region mixed tys_ok (sup := []) (l := []) (E' := []) (obs := []) (by kernel_rfl) (trivial) ?_
  refine W_seq ?_
  obtain ⟨y1, ey1, h⟩ := h.bind
  refine W_region mixed tys_ok (sup := [.res [(0, ⟨0, T_api_State, y1.1⟩), (0, ⟨0, .int .i64, y1.2⟩)]]) (l := [(1, 0), (2, 0)]) (E' := [(1, .box 0 T_api_State y1.1), (2, .v 0 (.int .i64) y1.2)]) (obs := [ACall prog 41 [⟨.int .i64, (10 : Int)⟩] [⟨0, T_api_State, y1.1⟩, ⟨0, .int .i64, y1.2⟩]]) (by kernel_rfl) (state_New.ok ey1) ?_
  refine W_seq ?_
  obtain ⟨y2, ey2, h⟩ := h.bind
  refine W_region mixed tys_ok (sup := [.res [(0, ⟨0, T_api_State, y2.1⟩), (0, ⟨0, .int .i64, y2.2⟩)]]) (l := [(1, 0), (2, 0), (4, 0)]) (E' := [(1, .box 0 T_api_State y1.1), (2, .v 0 (.int .i64) y1.2), (4, .v 0 (.int .i64) y2.2)]) (obs := [ACall prog 41 [⟨.int .i64, (0 : Int)⟩] [⟨0, T_api_State, y2.1⟩, ⟨0, .int .i64, y2.2⟩]]) (by kernel_rfl) (state_New.ok ey2) ?_
  refine W_seq ?_
  obtain ⟨y3, ey3, h⟩ := h.bind
  refine W_region mixed tys_ok (sup := [.res [((.pr 9 (.pr 9 (.pr 9 (.pr 9 (.pr 9 0))))), ⟨(.pr 9 (.pr 9 (.pr 9 (.pr 9 (.pr 9 0))))), T_api_State, y3⟩)]]) (l := [(1, 0), (2, 0), (4, 0), (5, (.pr 9 (.pr 9 (.pr 9 (.pr 9 (.pr 9 0))))))]) (E' := [(1, .box 0 T_api_State y1.1), (2, .v 0 (.int .i64) y1.2), (4, .v 0 (.int .i64) y2.2), (5, .box (.pr 9 (.pr 9 (.pr 9 (.pr 9 (.pr 9 0))))) T_api_State y3)]) (obs := [ACall prog 54 [⟨T_api_State, y1.1⟩, ⟨.int .i64, (0 : Int)⟩, ⟨T_api_Thread, ((2 : Int), (-1 : Int), (-1 : Int), (1 : Int), (1 : Int))⟩] [⟨(.pr 9 (.pr 9 (.pr 9 (.pr 9 (.pr 9 0))))), T_api_State, y3⟩]]) (by kernel_rfl) (state_PutThread.ok ey3) ?_
  refine W_seq ?_
  obtain ⟨y4, ey4, h⟩ := h.bind
  obtain ⟨y5, ey5, h⟩ := h.bind
  obtain ⟨y6, ey6, h⟩ := h.bind
  obtain ⟨y7, ey7, h⟩ := h.bind
  obtain ⟨y8, ey8, h⟩ := h.bind
  refine W_region mixed tys_ok (sup := [.res [(0, ⟨0, .bool, y4⟩)], .res [(0, ⟨0, .bool, y5⟩)], .res [(0, ⟨0, .int .i64, y6⟩)], .res [(0, ⟨0, .bool, y7⟩)], .res [(0, ⟨0, .bool, y8⟩)]]) (l := [(0, 0)]) (E' := [(0, .v 0 .bool ((((((((y1.2 == (0 : Int)) && (y2.2 == (1 : Int))) && ((y1.1.1.length : Int) == (1 : Int))) && y4) && y5) && (y6 == (1 : Int))) && (!y7)) && (!y8)))]) (obs := [(((y1.2 == (0 : Int)) && (y2.2 == (1 : Int))) && ((y1.1.1.length : Int) == (1 : Int))) = true → ACall prog 42 [⟨T_api_State, y1.1⟩] [⟨0, .bool, y4⟩], ((((y1.2 == (0 : Int)) && (y2.2 == (1 : Int))) && ((y1.1.1.length : Int) == (1 : Int))) && y4) = true → ACall prog 42 [⟨T_api_State, y3⟩] [⟨0, .bool, y5⟩], (((((y1.2 == (0 : Int)) && (y2.2 == (1 : Int))) && ((y1.1.1.length : Int) == (1 : Int))) && y4) && y5) = true → ACall prog 70 [⟨T_api_State, y3⟩] [⟨0, .int .i64, y6⟩], ((((((y1.2 == (0 : Int)) && (y2.2 == (1 : Int))) && ((y1.1.1.length : Int) == (1 : Int))) && y4) && y5) && (y6 == (1 : Int))) = true → ACall prog 42 [⟨T_api_State, (([] : List Bool), ([] : List D_api_Ticket), ([] : List D_api_Thread), ([] : List D_api_Lock), ([] : List Int), (0 : Int))⟩] [⟨0, .bool, y7⟩], (((((((y1.2 == (0 : Int)) && (y2.2 == (1 : Int))) && ((y1.1.1.length : Int) == (1 : Int))) && y4) && y5) && (y6 == (1 : Int))) && (!y7)) = true → ACall prog 43 [⟨T_api_State, y1.1⟩, ⟨T_api_State, y3⟩] [⟨0, .bool, y8⟩]]) (by kernel_rfl) (⟨fun hc => state_Fine.ok (bif_some ey4 hc), fun hc => state_Fine.ok (bif_some ey5 hc), fun hc => state_FreeThread.ok (bif_some ey6 hc), fun hc => state_Fine.ok (bif_some ey7 hc), fun hc => state_Same.ok (bif_some ey8 hc)⟩) ?_
  refine W_gen (x := (((((((y1.2 == (0 : Int)) && (y2.2 == (1 : Int))) && ((y1.1.1.length : Int) == (1 : Int))) && y4) && y5) && (y6 == (1 : Int))) && (!y7)) && (!y8)) (En := fun x9 => [(0, .v 0 .bool x9)]) h (fun x9 h => ?_)
  refine W_keep (l := [(0, 0)]) (E' := [(0, .v 0 .bool x9)]) (by kernel_rfl) ?_
  replace h : x9 = r := h
  subst h
  exact W_ret tys_ok hw0 (by kernel_rfl) (by kernel_rfl)

noncomputable def r11_Ints_j1 : Option (Bool) :=
  some true
noncomputable def r11_Ints_b1 (p0 : List Int) (p1 : List Int) (x1 : Int) : Option (Int ⊕ Bool) :=
  bif decide (x1 < (p0.length : Int)) then
    ass (0 ≤ x1 ∧ x1 < (p0.length : Int)) <|
    ass (0 ≤ x1 ∧ x1 < (p1.length : Int)) <|
    bif (rd (0 : Int) p0 x1) != (rd (0 : Int) p1 x1) then
      some (.inr false)
    else
      bnd (IntKind.i64.wrap (x1 + (1 : Int))) fun x2 =>
      some (.inl x2)
  else
    (r11_Ints_j1).map .inr
noncomputable def r11_Ints (p0 : List Int) (p1 : List Int) : Option Bool :=
  bif (p0.length : Int) != (p1.length : Int) then
    some false
  else
    loopM (fun x : Int => r11_Ints_b1 p0 p1 x) (0 : Int)
theorem r11_Ints.ok {p0 : List Int} {p1 : List Int} {r : Bool} (h : r11_Ints p0 p1 = some r) : ACall prog 33 [⟨.slice (.int .i64), p0⟩, ⟨.slice (.int .i64), p1⟩] [⟨0, .bool, r⟩] := by
  replace h := Leads.of h
  unfold r11_Ints at h
  refine acall_of func33 (by kernel_rfl) rfl (by kernel_rfl) fun w0 F0 hw0 => ?_
  refine W_seq ?_
  refine W_region mixed tys_ok (sup := []) (l := [(0, 0), (1, 0)]) (E' := [(0, .v 0 (.slice (.int .i64)) p0), (1, .v 0 (.slice (.int .i64)) p1)]) (obs := []) (by kernel_rfl) (trivial) ?_
  refine W_seq ?_
  refine W_seq ?_
  refine W_region mixed tys_ok (sup := []) (l := [(0, 0), (1, 0), (10, 0)]) (E' := [(0, .v 0 (.slice (.int .i64)) p0), (1, .v 0 (.slice (.int .i64)) p1), (10, .v 0 .bool ((p0.length : Int) != (p1.length : Int)))]) (obs := []) (by kernel_rfl) (trivial) ?_
  refine W_cond (β := (p0.length : Int) != (p1.length : Int)) (by kernel_rfl) (fun hb => ?_) (fun hb => ?_)
  · rw [cond_tt hb] at h
    refine W_seq ?_
    refine W_region mixed tys_ok (sup := []) (l := [(4, 0)]) (E' := [(4, .v 0 .bool false)]) (obs := []) (by kernel_rfl) (trivial) ?_
    refine W_keep (l := [(4, 0)]) (E' := [(4, .v 0 .bool false)]) (by kernel_rfl) ?_
    replace h : false = r := h
    subst h
    exact W_ret tys_ok hw0 (by kernel_rfl) (by kernel_rfl)
  · rw [cond_ff hb] at h
    refine W_skip ?_
    refine W_seq ?_
    refine W_seq ?_
    refine W_region mixed tys_ok (sup := []) (l := [(0, 0), (1, 0), (5, 0)]) (E' := [(0, .v 0 (.slice (.int .i64)) p0), (1, .v 0 (.slice (.int .i64)) p1), (5, .v 0 (.int .i64) (0 : Int))]) (obs := []) (by kernel_rfl) (trivial) ?_
    refine W_join h (Ej := fun (x : Unit) => []) (p := fun x => r11_Ints_j1) ?_ ?_
    · rintro ⟨⟩ h
      replace h : Leads _ (r11_Ints_j1) := h
      unfold r11_Ints_j1 at h
      show W _ _ _ _ _ _ []
      refine W_seq ?_
      refine W_region mixed tys_ok (sup := []) (l := [(4, 0)]) (E' := [(4, .v 0 .bool true)]) (obs := []) (by kernel_rfl) (trivial) ?_
      refine W_keep (l := [(4, 0)]) (E' := [(4, .v 0 .bool true)]) (by kernel_rfl) ?_
      replace h : true = r := h
      subst h
      exact W_ret tys_ok hw0 (by kernel_rfl) (by kernel_rfl)
    · intro j1
      refine W_block ?_
      refine W_keep (l := [(0, 0), (1, 0), (5, 0)]) (E' := [(0, .v 0 (.slice (.int .i64)) p0), (1, .v 0 (.slice (.int .i64)) p1), (5, .v 0 (.int .i64) (0 : Int))]) (by kernel_rfl) ?_
      refine W_loop' (En := fun (x : Int) => [(0, .v 0 (.slice (.int .i64)) p0), (1, .v 0 (.slice (.int .i64)) p1), (5, .v 0 (.int .i64) x)]) (x := (0 : Int)) h ?_
      rintro x1 K h
      replace h : Leads _ (r11_Ints_b1 p0 p1 x1) := h
      unfold r11_Ints_b1 at h
      show W _ _ _ _ _ _ [(0, .v 0 (.slice (.int .i64)) p0), (1, .v 0 (.slice (.int .i64)) p1), (5, .v 0 (.int .i64) x1)]
      refine W_seq ?_
      refine W_seq ?_
      refine W_region mixed tys_ok (sup := []) (l := [(0, 0), (1, 0), (5, 0), (14, 0)]) (E' := [(0, .v 0 (.slice (.int .i64)) p0), (1, .v 0 (.slice (.int .i64)) p1), (5, .v 0 (.int .i64) x1), (14, .v 0 .bool (decide (x1 < (p0.length : Int))))]) (obs := []) (by kernel_rfl) (trivial) ?_
      refine W_cond (β := decide (x1 < (p0.length : Int))) (by kernel_rfl) (fun hb => ?_) (fun hb => ?_)
      · rw [cond_tt hb] at h
        refine W_skip ?_
        refine W_seq ?_
        refine W_block ?_
        refine W_seq ?_
        obtain ⟨o1, h⟩ := h.ass
        obtain ⟨o2, h⟩ := h.ass
        refine W_region mixed tys_ok (sup := []) (l := [(0, 0), (1, 0), (5, 0), (25, 0)]) (E' := [(0, .v 0 (.slice (.int .i64)) p0), (1, .v 0 (.slice (.int .i64)) p1), (5, .v 0 (.int .i64) x1), (25, .v 0 .bool ((rd (0 : Int) p0 x1) != (rd (0 : Int) p1 x1)))]) (obs := [0 ≤ x1 ∧ x1 < (p0.length : Int), 0 ≤ x1 ∧ x1 < (p1.length : Int)]) (by kernel_rfl) (⟨o1, o2⟩) ?_
        refine W_cond (β := (rd (0 : Int) p0 x1) != (rd (0 : Int) p1 x1)) (by kernel_rfl) (fun hb => ?_) (fun hb => ?_)
        · rw [cond_tt hb] at h
          refine W_seq ?_
          refine W_region mixed tys_ok (sup := []) (l := [(4, 0)]) (E' := [(4, .v 0 .bool false)]) (obs := []) (by kernel_rfl) (trivial) ?_
          refine W_keep (l := [(4, 0)]) (E' := [(4, .v 0 .bool false)]) (by kernel_rfl) ?_
          replace h : false = r := h
          subst h
          exact W_ret tys_ok hw0 (by kernel_rfl) (by kernel_rfl)
        · rw [cond_ff hb] at h
          refine W_skip ?_
          refine W_blk ?_
          refine W_region mixed tys_ok (sup := []) (l := [(0, 0), (1, 0), (5, 0)]) (E' := [(0, .v 0 (.slice (.int .i64)) p0), (1, .v 0 (.slice (.int .i64)) p1), (5, .v 0 (.int .i64) (IntKind.i64.wrap (x1 + (1 : Int))))]) (obs := []) (by kernel_rfl) (trivial) ?_
          refine W_gen (x := IntKind.i64.wrap (x1 + (1 : Int))) (En := fun x2 => [(0, .v 0 (.slice (.int .i64)) p0), (1, .v 0 (.slice (.int .i64)) p1), (5, .v 0 (.int .i64) x2)]) h (fun x2 h => ?_)
          refine W_keep (l := [(0, 0), (1, 0), (5, 0)]) (E' := [(0, .v 0 (.slice (.int .i64)) p0), (1, .v 0 (.slice (.int .i64)) p1), (5, .v 0 (.int .i64) x2)]) (by kernel_rfl) ?_
          exact W_abs h
      · rw [cond_ff hb] at h
        refine W_exit rfl ?_
        refine W_keep (l := []) (E' := []) (by kernel_rfl) ?_
        exact j1 () h.back

noncomputable def r14_Same_j4 : Option (Bool) :=
  some true
noncomputable def r14_Same_b1 (p0 : D_api_State) (p1 : D_api_State) (x2 : Int) : Option (Int ⊕ Bool) :=
  bif decide (x2 < (p0.2.2.2.1.length : Int)) then
    ass (0 ≤ x2 ∧ x2 < (p0.2.2.2.1.length : Int)) <|
    ass (0 ≤ x2 ∧ x2 < (p1.2.2.2.1.length : Int)) <|
    bif !(Ty.beq T_api_Lock (rd z_api_Lock p0.2.2.2.1 x2) (rd z_api_Lock p1.2.2.2.1 x2)) then
      some (.inr false)
    else
      bnd (IntKind.i64.wrap (x2 + (1 : Int))) fun x3 =>
      some (.inl x3)
  else
    (r14_Same_j4).map .inr
noncomputable def r14_Same_j3 (p0 : D_api_State) (p1 : D_api_State) : Option (Bool) :=
  loopM (fun x : Int => r14_Same_b1 p0 p1 x) (0 : Int)
noncomputable def r14_Same_b2 (p0 : D_api_State) (p1 : D_api_State) (x4 : Int) : Option (Int ⊕ Bool) :=
  bif decide (x4 < (p0.2.2.1.length : Int)) then
    ass (0 ≤ x4 ∧ x4 < (p0.2.2.1.length : Int)) <|
    ass (0 ≤ x4 ∧ x4 < (p1.2.2.1.length : Int)) <|
    bif !(Ty.beq T_api_Thread (rd z_api_Thread p0.2.2.1 x4) (rd z_api_Thread p1.2.2.1 x4)) then
      some (.inr false)
    else
      bnd (IntKind.i64.wrap (x4 + (1 : Int))) fun x5 =>
      some (.inl x5)
  else
    (r14_Same_j3 p0 p1).map .inr
noncomputable def r14_Same_j2 (p0 : D_api_State) (p1 : D_api_State) : Option (Bool) :=
  loopM (fun x : Int => r14_Same_b2 p0 p1 x) (0 : Int)
noncomputable def r14_Same_b3 (p0 : D_api_State) (p1 : D_api_State) (x6 : Int) : Option (Int ⊕ Bool) :=
  bif decide (x6 < (p0.2.1.length : Int)) then
    ass (0 ≤ x6 ∧ x6 < (p0.2.1.length : Int)) <|
    ass (0 ≤ x6 ∧ x6 < (p1.2.1.length : Int)) <|
    bif !(Ty.beq T_api_Ticket (rd z_api_Ticket p0.2.1 x6) (rd z_api_Ticket p1.2.1 x6)) then
      some (.inr false)
    else
      bnd (IntKind.i64.wrap (x6 + (1 : Int))) fun x7 =>
      some (.inl x7)
  else
    (r14_Same_j2 p0 p1).map .inr
noncomputable def r14_Same_j1 (p0 : D_api_State) (p1 : D_api_State) : Option (Bool) :=
  loopM (fun x : Int => r14_Same_b3 p0 p1 x) (0 : Int)
noncomputable def r14_Same_b4 (p0 : D_api_State) (p1 : D_api_State) (x8 : Int) : Option (Int ⊕ Bool) :=
  bif decide (x8 < (p0.1.length : Int)) then
    ass (0 ≤ x8 ∧ x8 < (p0.1.length : Int)) <|
    ass (0 ≤ x8 ∧ x8 < (p1.1.length : Int)) <|
    bif (rd false p0.1 x8) != (rd false p1.1 x8) then
      some (.inr false)
    else
      bnd (IntKind.i64.wrap (x8 + (1 : Int))) fun x9 =>
      some (.inl x9)
  else
    (r14_Same_j1 p0 p1).map .inr
noncomputable def r14_Same (p0 : D_api_State) (p1 : D_api_State) : Option Bool :=
  (bif !(((((p0.2.2.2.2.2 != p1.2.2.2.2.2) || ((p0.1.length : Int) != (p1.1.length : Int))) || ((p0.2.1.length : Int) != (p1.2.1.length : Int))) || ((p0.2.2.1.length : Int) != (p1.2.2.1.length : Int))) || ((p0.2.2.2.1.length : Int) != (p1.2.2.2.1.length : Int))) then r11_Ints p0.2.2.2.2.1 p1.2.2.2.2.1 else some false).bind fun y1 =>
  bif (((((p0.2.2.2.2.2 != p1.2.2.2.2.2) || ((p0.1.length : Int) != (p1.1.length : Int))) || ((p0.2.1.length : Int) != (p1.2.1.length : Int))) || ((p0.2.2.1.length : Int) != (p1.2.2.1.length : Int))) || ((p0.2.2.2.1.length : Int) != (p1.2.2.2.1.length : Int))) || (!y1) then
    some false
  else
    loopM (fun x : Int => r14_Same_b4 p0 p1 x) (0 : Int)
theorem r14_Same.ok {p0 : D_api_State} {p1 : D_api_State} {r : Bool} (h : r14_Same p0 p1 = some r) : ACall prog 17 [⟨T_api_State, p0⟩, ⟨T_api_State, p1⟩] [⟨0, .bool, r⟩] := by
  replace h := Leads.of h
  unfold r14_Same at h
  refine acall_of func17 (by kernel_rfl) rfl (by kernel_rfl) fun w0 F0 hw0 => ?_
  refine W_seq ?_
  refine W_region mixed tys_ok (sup := []) (l := [(2, 0), (3, 0)]) (E' := [(2, .box 0 T_api_State p0), (3, .box 0 T_api_State p1)]) (obs := []) (by kernel_rfl) (trivial) ?_
  refine W_seq ?_
  refine W_seq ?_
  obtain ⟨y1, ey1, h⟩ := h.bind
  refine W_region mixed tys_ok (sup := [.res [(0, ⟨0, .bool, y1⟩)]]) (l := [(2, 0), (3, 0), (57, 0)]) (E' := [(2, .box 0 T_api_State p0), (3, .box 0 T_api_State p1), (57, .v 0 .bool ((((((p0.2.2.2.2.2 != p1.2.2.2.2.2) || ((p0.1.length : Int) != (p1.1.length : Int))) || ((p0.2.1.length : Int) != (p1.2.1.length : Int))) || ((p0.2.2.1.length : Int) != (p1.2.2.1.length : Int))) || ((p0.2.2.2.1.length : Int) != (p1.2.2.2.1.length : Int))) || (!y1)))]) (obs := [(!(((((p0.2.2.2.2.2 != p1.2.2.2.2.2) || ((p0.1.length : Int) != (p1.1.length : Int))) || ((p0.2.1.length : Int) != (p1.2.1.length : Int))) || ((p0.2.2.1.length : Int) != (p1.2.2.1.length : Int))) || ((p0.2.2.2.1.length : Int) != (p1.2.2.2.1.length : Int)))) = true → ACall prog 33 [⟨.slice (.int .i64), p0.2.2.2.2.1⟩, ⟨.slice (.int .i64), p1.2.2.2.2.1⟩] [⟨0, .bool, y1⟩]]) (by kernel_rfl) (fun hc => r11_Ints.ok (bif_some ey1 hc)) ?_
  refine W_cond (β := (((((p0.2.2.2.2.2 != p1.2.2.2.2.2) || ((p0.1.length : Int) != (p1.1.length : Int))) || ((p0.2.1.length : Int) != (p1.2.1.length : Int))) || ((p0.2.2.1.length : Int) != (p1.2.2.1.length : Int))) || ((p0.2.2.2.1.length : Int) != (p1.2.2.2.1.length : Int))) || (!y1)) (by kernel_rfl) (fun hb => ?_) (fun hb => ?_)
  · rw [cond_tt hb] at h
    refine W_seq ?_
    refine W_region mixed tys_ok (sup := []) (l := [(4, 0)]) (E' := [(4, .v 0 .bool false)]) (obs := []) (by kernel_rfl) (trivial) ?_
    refine W_keep (l := [(4, 0)]) (E' := [(4, .v 0 .bool false)]) (by kernel_rfl) ?_
    replace h : false = r := h
    subst h
    exact W_ret tys_ok hw0 (by kernel_rfl) (by kernel_rfl)
  · rw [cond_ff hb] at h
    refine W_skip ?_
    refine W_seq ?_
    refine W_seq ?_
    refine W_region mixed tys_ok (sup := []) (l := [(2, 0), (3, 0), (5, 0)]) (E' := [(2, .box 0 T_api_State p0), (3, .box 0 T_api_State p1), (5, .v 0 (.int .i64) (0 : Int))]) (obs := []) (by kernel_rfl) (trivial) ?_
    refine W_join h (Ej := fun (x : Unit) => [(2, .box 0 T_api_State p0), (3, .box 0 T_api_State p1)]) (p := fun x => r14_Same_j1 p0 p1) ?_ ?_
    · rintro ⟨⟩ h
      replace h : Leads _ (r14_Same_j1 p0 p1) := h
      unfold r14_Same_j1 at h
      show W _ _ _ _ _ _ [(2, .box 0 T_api_State p0), (3, .box 0 T_api_State p1)]
      refine W_seq ?_
      refine W_seq ?_
      refine W_region mixed tys_ok (sup := []) (l := [(2, 0), (3, 0), (6, 0)]) (E' := [(2, .box 0 T_api_State p0), (3, .box 0 T_api_State p1), (6, .v 0 (.int .i64) (0 : Int))]) (obs := []) (by kernel_rfl) (trivial) ?_
      refine W_join h (Ej := fun (x : Unit) => [(2, .box 0 T_api_State p0), (3, .box 0 T_api_State p1)]) (p := fun x => r14_Same_j2 p0 p1) ?_ ?_
      · rintro ⟨⟩ h
        replace h : Leads _ (r14_Same_j2 p0 p1) := h
        unfold r14_Same_j2 at h
        show W _ _ _ _ _ _ [(2, .box 0 T_api_State p0), (3, .box 0 T_api_State p1)]
        refine W_seq ?_
        refine W_seq ?_
        refine W_region mixed tys_ok (sup := []) (l := [(2, 0), (3, 0), (7, 0)]) (E' := [(2, .box 0 T_api_State p0), (3, .box 0 T_api_State p1), (7, .v 0 (.int .i64) (0 : Int))]) (obs := []) (by kernel_rfl) (trivial) ?_
        refine W_join h (Ej := fun (x : Unit) => [(2, .box 0 T_api_State p0), (3, .box 0 T_api_State p1)]) (p := fun x => r14_Same_j3 p0 p1) ?_ ?_
        · rintro ⟨⟩ h
          replace h : Leads _ (r14_Same_j3 p0 p1) := h
          unfold r14_Same_j3 at h
          show W _ _ _ _ _ _ [(2, .box 0 T_api_State p0), (3, .box 0 T_api_State p1)]
          refine W_seq ?_
          refine W_seq ?_
          refine W_region mixed tys_ok (sup := []) (l := [(2, 0), (3, 0), (8, 0)]) (E' := [(2, .box 0 T_api_State p0), (3, .box 0 T_api_State p1), (8, .v 0 (.int .i64) (0 : Int))]) (obs := []) (by kernel_rfl) (trivial) ?_
          refine W_join h (Ej := fun (x : Unit) => []) (p := fun x => r14_Same_j4) ?_ ?_
          · rintro ⟨⟩ h
            replace h : Leads _ (r14_Same_j4) := h
            unfold r14_Same_j4 at h
            show W _ _ _ _ _ _ []
            refine W_seq ?_
            refine W_region mixed tys_ok (sup := []) (l := [(4, 0)]) (E' := [(4, .v 0 .bool true)]) (obs := []) (by kernel_rfl) (trivial) ?_
            refine W_keep (l := [(4, 0)]) (E' := [(4, .v 0 .bool true)]) (by kernel_rfl) ?_
            replace h : true = r := h
            subst h
            exact W_ret tys_ok hw0 (by kernel_rfl) (by kernel_rfl)
          · intro j4
            refine W_block ?_
            refine W_keep (l := [(2, 0), (3, 0), (8, 0)]) (E' := [(2, .box 0 T_api_State p0), (3, .box 0 T_api_State p1), (8, .v 0 (.int .i64) (0 : Int))]) (by kernel_rfl) ?_
            refine W_loop' (En := fun (x : Int) => [(2, .box 0 T_api_State p0), (3, .box 0 T_api_State p1), (8, .v 0 (.int .i64) x)]) (x := (0 : Int)) h ?_
            rintro x2 K h
            replace h : Leads _ (r14_Same_b1 p0 p1 x2) := h
            unfold r14_Same_b1 at h
            show W _ _ _ _ _ _ [(2, .box 0 T_api_State p0), (3, .box 0 T_api_State p1), (8, .v 0 (.int .i64) x2)]
            refine W_seq ?_
            refine W_seq ?_
            refine W_region mixed tys_ok (sup := []) (l := [(2, 0), (3, 0), (8, 0), (116, 0)]) (E' := [(2, .box 0 T_api_State p0), (3, .box 0 T_api_State p1), (8, .v 0 (.int .i64) x2), (116, .v 0 .bool (decide (x2 < (p0.2.2.2.1.length : Int))))]) (obs := []) (by kernel_rfl) (trivial) ?_
            refine W_cond (β := decide (x2 < (p0.2.2.2.1.length : Int))) (by kernel_rfl) (fun hb => ?_) (fun hb => ?_)
            · rw [cond_tt hb] at h
              refine W_skip ?_
              refine W_seq ?_
              refine W_block ?_
              refine W_seq ?_
              obtain ⟨o1, h⟩ := h.ass
              obtain ⟨o2, h⟩ := h.ass
              refine W_region mixed tys_ok (sup := []) (l := [(2, 0), (3, 0), (8, 0), (129, 0)]) (E' := [(2, .box 0 T_api_State p0), (3, .box 0 T_api_State p1), (8, .v 0 (.int .i64) x2), (129, .v 0 .bool (!(Ty.beq T_api_Lock (rd z_api_Lock p0.2.2.2.1 x2) (rd z_api_Lock p1.2.2.2.1 x2))))]) (obs := [0 ≤ x2 ∧ x2 < (p0.2.2.2.1.length : Int), 0 ≤ x2 ∧ x2 < (p1.2.2.2.1.length : Int)]) (by kernel_rfl) (⟨o1, o2⟩) ?_
              refine W_cond (β := !(Ty.beq T_api_Lock (rd z_api_Lock p0.2.2.2.1 x2) (rd z_api_Lock p1.2.2.2.1 x2))) (by kernel_rfl) (fun hb => ?_) (fun hb => ?_)
              · rw [cond_tt hb] at h
                refine W_seq ?_
                refine W_region mixed tys_ok (sup := []) (l := [(4, 0)]) (E' := [(4, .v 0 .bool false)]) (obs := []) (by kernel_rfl) (trivial) ?_
                refine W_keep (l := [(4, 0)]) (E' := [(4, .v 0 .bool false)]) (by kernel_rfl) ?_
                replace h : false = r := h
                subst h
                exact W_ret tys_ok hw0 (by kernel_rfl) (by kernel_rfl)
              · rw [cond_ff hb] at h
                refine W_skip ?_
                refine W_blk ?_
                refine W_region mixed tys_ok (sup := []) (l := [(2, 0), (3, 0), (8, 0)]) (E' := [(2, .box 0 T_api_State p0), (3, .box 0 T_api_State p1), (8, .v 0 (.int .i64) (IntKind.i64.wrap (x2 + (1 : Int))))]) (obs := []) (by kernel_rfl) (trivial) ?_
                refine W_gen (x := IntKind.i64.wrap (x2 + (1 : Int))) (En := fun x3 => [(2, .box 0 T_api_State p0), (3, .box 0 T_api_State p1), (8, .v 0 (.int .i64) x3)]) h (fun x3 h => ?_)
                refine W_keep (l := [(2, 0), (3, 0), (8, 0)]) (E' := [(2, .box 0 T_api_State p0), (3, .box 0 T_api_State p1), (8, .v 0 (.int .i64) x3)]) (by kernel_rfl) ?_
                exact W_abs h
            · rw [cond_ff hb] at h
              refine W_exit rfl ?_
              refine W_keep (l := []) (E' := []) (by kernel_rfl) ?_
              exact j4 () h.back
        · intro j3
          refine W_block ?_
          refine W_keep (l := [(2, 0), (3, 0), (7, 0)]) (E' := [(2, .box 0 T_api_State p0), (3, .box 0 T_api_State p1), (7, .v 0 (.int .i64) (0 : Int))]) (by kernel_rfl) ?_
          refine W_loop' (En := fun (x : Int) => [(2, .box 0 T_api_State p0), (3, .box 0 T_api_State p1), (7, .v 0 (.int .i64) x)]) (x := (0 : Int)) h ?_
          rintro x4 K h
          replace h : Leads _ (r14_Same_b2 p0 p1 x4) := h
          unfold r14_Same_b2 at h
          show W _ _ _ _ _ _ [(2, .box 0 T_api_State p0), (3, .box 0 T_api_State p1), (7, .v 0 (.int .i64) x4)]
          refine W_seq ?_
          refine W_seq ?_
          refine W_region mixed tys_ok (sup := []) (l := [(2, 0), (3, 0), (7, 0), (98, 0)]) (E' := [(2, .box 0 T_api_State p0), (3, .box 0 T_api_State p1), (7, .v 0 (.int .i64) x4), (98, .v 0 .bool (decide (x4 < (p0.2.2.1.length : Int))))]) (obs := []) (by kernel_rfl) (trivial) ?_
          refine W_cond (β := decide (x4 < (p0.2.2.1.length : Int))) (by kernel_rfl) (fun hb => ?_) (fun hb => ?_)
          · rw [cond_tt hb] at h
            refine W_skip ?_
            refine W_seq ?_
            refine W_block ?_
            refine W_seq ?_
            obtain ⟨o1, h⟩ := h.ass
            obtain ⟨o2, h⟩ := h.ass
            refine W_region mixed tys_ok (sup := []) (l := [(2, 0), (3, 0), (7, 0), (111, 0)]) (E' := [(2, .box 0 T_api_State p0), (3, .box 0 T_api_State p1), (7, .v 0 (.int .i64) x4), (111, .v 0 .bool (!(Ty.beq T_api_Thread (rd z_api_Thread p0.2.2.1 x4) (rd z_api_Thread p1.2.2.1 x4))))]) (obs := [0 ≤ x4 ∧ x4 < (p0.2.2.1.length : Int), 0 ≤ x4 ∧ x4 < (p1.2.2.1.length : Int)]) (by kernel_rfl) (⟨o1, o2⟩) ?_
            refine W_cond (β := !(Ty.beq T_api_Thread (rd z_api_Thread p0.2.2.1 x4) (rd z_api_Thread p1.2.2.1 x4))) (by kernel_rfl) (fun hb => ?_) (fun hb => ?_)
            · rw [cond_tt hb] at h
              refine W_seq ?_
              refine W_region mixed tys_ok (sup := []) (l := [(4, 0)]) (E' := [(4, .v 0 .bool false)]) (obs := []) (by kernel_rfl) (trivial) ?_
              refine W_keep (l := [(4, 0)]) (E' := [(4, .v 0 .bool false)]) (by kernel_rfl) ?_
              replace h : false = r := h
              subst h
              exact W_ret tys_ok hw0 (by kernel_rfl) (by kernel_rfl)
            · rw [cond_ff hb] at h
              refine W_skip ?_
              refine W_blk ?_
              refine W_region mixed tys_ok (sup := []) (l := [(2, 0), (3, 0), (7, 0)]) (E' := [(2, .box 0 T_api_State p0), (3, .box 0 T_api_State p1), (7, .v 0 (.int .i64) (IntKind.i64.wrap (x4 + (1 : Int))))]) (obs := []) (by kernel_rfl) (trivial) ?_
              refine W_gen (x := IntKind.i64.wrap (x4 + (1 : Int))) (En := fun x5 => [(2, .box 0 T_api_State p0), (3, .box 0 T_api_State p1), (7, .v 0 (.int .i64) x5)]) h (fun x5 h => ?_)
              refine W_keep (l := [(2, 0), (3, 0), (7, 0)]) (E' := [(2, .box 0 T_api_State p0), (3, .box 0 T_api_State p1), (7, .v 0 (.int .i64) x5)]) (by kernel_rfl) ?_
              exact W_abs h
          · rw [cond_ff hb] at h
            refine W_exit rfl ?_
            refine W_keep (l := [(2, 0), (3, 0)]) (E' := [(2, .box 0 T_api_State p0), (3, .box 0 T_api_State p1)]) (by kernel_rfl) ?_
            exact j3 () h.back
      · intro j2
        refine W_block ?_
        refine W_keep (l := [(2, 0), (3, 0), (6, 0)]) (E' := [(2, .box 0 T_api_State p0), (3, .box 0 T_api_State p1), (6, .v 0 (.int .i64) (0 : Int))]) (by kernel_rfl) ?_
        refine W_loop' (En := fun (x : Int) => [(2, .box 0 T_api_State p0), (3, .box 0 T_api_State p1), (6, .v 0 (.int .i64) x)]) (x := (0 : Int)) h ?_
        rintro x6 K h
        replace h : Leads _ (r14_Same_b3 p0 p1 x6) := h
        unfold r14_Same_b3 at h
        show W _ _ _ _ _ _ [(2, .box 0 T_api_State p0), (3, .box 0 T_api_State p1), (6, .v 0 (.int .i64) x6)]
        refine W_seq ?_
        refine W_seq ?_
        refine W_region mixed tys_ok (sup := []) (l := [(2, 0), (3, 0), (6, 0), (80, 0)]) (E' := [(2, .box 0 T_api_State p0), (3, .box 0 T_api_State p1), (6, .v 0 (.int .i64) x6), (80, .v 0 .bool (decide (x6 < (p0.2.1.length : Int))))]) (obs := []) (by kernel_rfl) (trivial) ?_
        refine W_cond (β := decide (x6 < (p0.2.1.length : Int))) (by kernel_rfl) (fun hb => ?_) (fun hb => ?_)
        · rw [cond_tt hb] at h
          refine W_skip ?_
          refine W_seq ?_
          refine W_block ?_
          refine W_seq ?_
          obtain ⟨o1, h⟩ := h.ass
          obtain ⟨o2, h⟩ := h.ass
          refine W_region mixed tys_ok (sup := []) (l := [(2, 0), (3, 0), (6, 0), (93, 0)]) (E' := [(2, .box 0 T_api_State p0), (3, .box 0 T_api_State p1), (6, .v 0 (.int .i64) x6), (93, .v 0 .bool (!(Ty.beq T_api_Ticket (rd z_api_Ticket p0.2.1 x6) (rd z_api_Ticket p1.2.1 x6))))]) (obs := [0 ≤ x6 ∧ x6 < (p0.2.1.length : Int), 0 ≤ x6 ∧ x6 < (p1.2.1.length : Int)]) (by kernel_rfl) (⟨o1, o2⟩) ?_
          refine W_cond (β := !(Ty.beq T_api_Ticket (rd z_api_Ticket p0.2.1 x6) (rd z_api_Ticket p1.2.1 x6))) (by kernel_rfl) (fun hb => ?_) (fun hb => ?_)
          · rw [cond_tt hb] at h
            refine W_seq ?_
            refine W_region mixed tys_ok (sup := []) (l := [(4, 0)]) (E' := [(4, .v 0 .bool false)]) (obs := []) (by kernel_rfl) (trivial) ?_
            refine W_keep (l := [(4, 0)]) (E' := [(4, .v 0 .bool false)]) (by kernel_rfl) ?_
            replace h : false = r := h
            subst h
            exact W_ret tys_ok hw0 (by kernel_rfl) (by kernel_rfl)
          · rw [cond_ff hb] at h
            refine W_skip ?_
            refine W_blk ?_
            refine W_region mixed tys_ok (sup := []) (l := [(2, 0), (3, 0), (6, 0)]) (E' := [(2, .box 0 T_api_State p0), (3, .box 0 T_api_State p1), (6, .v 0 (.int .i64) (IntKind.i64.wrap (x6 + (1 : Int))))]) (obs := []) (by kernel_rfl) (trivial) ?_
            refine W_gen (x := IntKind.i64.wrap (x6 + (1 : Int))) (En := fun x7 => [(2, .box 0 T_api_State p0), (3, .box 0 T_api_State p1), (6, .v 0 (.int .i64) x7)]) h (fun x7 h => ?_)
            refine W_keep (l := [(2, 0), (3, 0), (6, 0)]) (E' := [(2, .box 0 T_api_State p0), (3, .box 0 T_api_State p1), (6, .v 0 (.int .i64) x7)]) (by kernel_rfl) ?_
            exact W_abs h
        · rw [cond_ff hb] at h
          refine W_exit rfl ?_
          refine W_keep (l := [(2, 0), (3, 0)]) (E' := [(2, .box 0 T_api_State p0), (3, .box 0 T_api_State p1)]) (by kernel_rfl) ?_
          exact j2 () h.back
    · intro j1
      refine W_block ?_
      refine W_keep (l := [(2, 0), (3, 0), (5, 0)]) (E' := [(2, .box 0 T_api_State p0), (3, .box 0 T_api_State p1), (5, .v 0 (.int .i64) (0 : Int))]) (by kernel_rfl) ?_
      refine W_loop' (En := fun (x : Int) => [(2, .box 0 T_api_State p0), (3, .box 0 T_api_State p1), (5, .v 0 (.int .i64) x)]) (x := (0 : Int)) h ?_
      rintro x8 K h
      replace h : Leads _ (r14_Same_b4 p0 p1 x8) := h
      unfold r14_Same_b4 at h
      show W _ _ _ _ _ _ [(2, .box 0 T_api_State p0), (3, .box 0 T_api_State p1), (5, .v 0 (.int .i64) x8)]
      refine W_seq ?_
      refine W_seq ?_
      refine W_region mixed tys_ok (sup := []) (l := [(2, 0), (3, 0), (5, 0), (62, 0)]) (E' := [(2, .box 0 T_api_State p0), (3, .box 0 T_api_State p1), (5, .v 0 (.int .i64) x8), (62, .v 0 .bool (decide (x8 < (p0.1.length : Int))))]) (obs := []) (by kernel_rfl) (trivial) ?_
      refine W_cond (β := decide (x8 < (p0.1.length : Int))) (by kernel_rfl) (fun hb => ?_) (fun hb => ?_)
      · rw [cond_tt hb] at h
        refine W_skip ?_
        refine W_seq ?_
        refine W_block ?_
        refine W_seq ?_
        obtain ⟨o1, h⟩ := h.ass
        obtain ⟨o2, h⟩ := h.ass
        refine W_region mixed tys_ok (sup := []) (l := [(2, 0), (3, 0), (5, 0), (75, 0)]) (E' := [(2, .box 0 T_api_State p0), (3, .box 0 T_api_State p1), (5, .v 0 (.int .i64) x8), (75, .v 0 .bool ((rd false p0.1 x8) != (rd false p1.1 x8)))]) (obs := [0 ≤ x8 ∧ x8 < (p0.1.length : Int), 0 ≤ x8 ∧ x8 < (p1.1.length : Int)]) (by kernel_rfl) (⟨o1, o2⟩) ?_
        refine W_cond (β := (rd false p0.1 x8) != (rd false p1.1 x8)) (by kernel_rfl) (fun hb => ?_) (fun hb => ?_)
        · rw [cond_tt hb] at h
          refine W_seq ?_
          refine W_region mixed tys_ok (sup := []) (l := [(4, 0)]) (E' := [(4, .v 0 .bool false)]) (obs := []) (by kernel_rfl) (trivial) ?_
          refine W_keep (l := [(4, 0)]) (E' := [(4, .v 0 .bool false)]) (by kernel_rfl) ?_
          replace h : false = r := h
          subst h
          exact W_ret tys_ok hw0 (by kernel_rfl) (by kernel_rfl)
        · rw [cond_ff hb] at h
          refine W_skip ?_
          refine W_blk ?_
          refine W_region mixed tys_ok (sup := []) (l := [(2, 0), (3, 0), (5, 0)]) (E' := [(2, .box 0 T_api_State p0), (3, .box 0 T_api_State p1), (5, .v 0 (.int .i64) (IntKind.i64.wrap (x8 + (1 : Int))))]) (obs := []) (by kernel_rfl) (trivial) ?_
          refine W_gen (x := IntKind.i64.wrap (x8 + (1 : Int))) (En := fun x9 => [(2, .box 0 T_api_State p0), (3, .box 0 T_api_State p1), (5, .v 0 (.int .i64) x9)]) h (fun x9 h => ?_)
          refine W_keep (l := [(2, 0), (3, 0), (5, 0)]) (E' := [(2, .box 0 T_api_State p0), (3, .box 0 T_api_State p1), (5, .v 0 (.int .i64) x9)]) (by kernel_rfl) ?_
          exact W_abs h
      · rw [cond_ff hb] at h
        refine W_exit rfl ?_
        refine W_keep (l := [(2, 0), (3, 0)]) (E' := [(2, .box 0 T_api_State p0), (3, .box 0 T_api_State p1)]) (by kernel_rfl) ?_
        exact j1 () h.back

noncomputable def r14_Thread (p0 : D_api_State) (p1 : Int) : Option Bool :=
  ass (((decide (p1 ≥ (0 : Int))) && (decide (p1 < (p0.2.2.1.length : Int)))) = true → 0 ≤ p1 ∧ p1 < (p0.2.2.1.length : Int)) <|
  bnd (((decide (p1 ≥ (0 : Int))) && (decide (p1 < (p0.2.2.1.length : Int)))) && ((rd z_api_Thread p0.2.2.1 p1).1 != (0 : Int))) fun x1 =>
  some x1
theorem r14_Thread.ok {p0 : D_api_State} {p1 : Int} {r : Bool} (h : r14_Thread p0 p1 = some r) : ACall prog 32 [⟨T_api_State, p0⟩, ⟨.int .i64, p1⟩] [⟨0, .bool, r⟩] := by
  replace h := Leads.of h
  unfold r14_Thread at h
  refine acall_of func32 (by kernel_rfl) rfl (by kernel_rfl) fun w0 F0 hw0 => ?_
  refine W_seq ?_
  refine W_region mixed tys_ok (sup := []) (l := [(1, 0), (2, 0)]) (E' := [(1, .v 0 (.int .i64) p1), (2, .box 0 T_api_State p0)]) (obs := []) (by kernel_rfl) (trivial) ?_
  refine W_seq ?_
  obtain ⟨o1, h⟩ := h.ass
  refine W_region mixed tys_ok (sup := []) (l := [(4, 0)]) (E' := [(4, .v 0 .bool (((decide (p1 ≥ (0 : Int))) && (decide (p1 < (p0.2.2.1.length : Int)))) && ((rd z_api_Thread p0.2.2.1 p1).1 != (0 : Int))))]) (obs := [((decide (p1 ≥ (0 : Int))) && (decide (p1 < (p0.2.2.1.length : Int)))) = true → 0 ≤ p1 ∧ p1 < (p0.2.2.1.length : Int)]) (by kernel_rfl) (o1) ?_
  refine W_gen (x := ((decide (p1 ≥ (0 : Int))) && (decide (p1 < (p0.2.2.1.length : Int)))) && ((rd z_api_Thread p0.2.2.1 p1).1 != (0 : Int))) (En := fun x1 => [(4, .v 0 .bool x1)]) h (fun x1 h => ?_)
  refine W_keep (l := [(4, 0)]) (E' := [(4, .v 0 .bool x1)]) (by kernel_rfl) ?_
  replace h : x1 = r := h
  subst h
  exact W_ret tys_ok hw0 (by kernel_rfl) (by kernel_rfl)

noncomputable def r14_Coin (p0 : D_api_State) (p1 : Int) : Option Bool :=
  ass (((decide (p1 ≥ (0 : Int))) && (decide (p1 < (p0.1.length : Int)))) = true → 0 ≤ p1 ∧ p1 < (p0.1.length : Int)) <|
  bnd (((decide (p1 ≥ (0 : Int))) && (decide (p1 < (p0.1.length : Int)))) && (rd false p0.1 p1)) fun x1 =>
  some x1
theorem r14_Coin.ok {p0 : D_api_State} {p1 : Int} {r : Bool} (h : r14_Coin p0 p1 = some r) : ACall prog 64 [⟨T_api_State, p0⟩, ⟨.int .i64, p1⟩] [⟨0, .bool, r⟩] := by
  replace h := Leads.of h
  unfold r14_Coin at h
  refine acall_of func64 (by kernel_rfl) rfl (by kernel_rfl) fun w0 F0 hw0 => ?_
  refine W_seq ?_
  refine W_region mixed tys_ok (sup := []) (l := [(1, 0), (2, 0)]) (E' := [(1, .v 0 (.int .i64) p1), (2, .box 0 T_api_State p0)]) (obs := []) (by kernel_rfl) (trivial) ?_
  refine W_seq ?_
  obtain ⟨o1, h⟩ := h.ass
  refine W_region mixed tys_ok (sup := []) (l := [(4, 0)]) (E' := [(4, .v 0 .bool (((decide (p1 ≥ (0 : Int))) && (decide (p1 < (p0.1.length : Int)))) && (rd false p0.1 p1)))]) (obs := [((decide (p1 ≥ (0 : Int))) && (decide (p1 < (p0.1.length : Int)))) = true → 0 ≤ p1 ∧ p1 < (p0.1.length : Int)]) (by kernel_rfl) (o1) ?_
  refine W_gen (x := ((decide (p1 ≥ (0 : Int))) && (decide (p1 < (p0.1.length : Int)))) && (rd false p0.1 p1)) (En := fun x1 => [(4, .v 0 .bool x1)]) h (fun x1 h => ?_)
  refine W_keep (l := [(4, 0)]) (E' := [(4, .v 0 .bool x1)]) (by kernel_rfl) ?_
  replace h : x1 = r := h
  subst h
  exact W_ret tys_ok hw0 (by kernel_rfl) (by kernel_rfl)

noncomputable def r14_tickets_j1 (p0 : D_api_State) : Option (Bool) :=
  ass (((decide ((p0.2.1.length : Int) ≤ (96 : Int))) && (!((p0.2.1.length : Int) == (0 : Int)))) = true → 0 ≤ IntKind.i64.wrap ((p0.2.1.length : Int) - (1 : Int)) ∧ IntKind.i64.wrap ((p0.2.1.length : Int) - (1 : Int)) < (p0.2.1.length : Int)) <|
  bnd ((decide ((p0.2.1.length : Int) ≤ (96 : Int))) && (((p0.2.1.length : Int) == (0 : Int)) || (rd z_api_Ticket p0.2.1 (IntKind.i64.wrap ((p0.2.1.length : Int) - (1 : Int)))).1)) fun x1 =>
  some x1
noncomputable def r14_tickets_j2 (x2 : Int) : Option (Int ⊕ Bool) :=
  bnd (IntKind.i64.wrap (x2 + (1 : Int))) fun x3 =>
  some (.inl x3)
noncomputable def r14_tickets_b1 (p0 : D_api_State) (x2 : Int) : Option (Int ⊕ Bool) :=
  bif decide (x2 < (p0.2.1.length : Int)) then
    ass (0 ≤ x2 ∧ x2 < (p0.2.1.length : Int)) <|
    bnd (rd z_api_Ticket p0.2.1 x2) fun x4 =>
    bif !x4.1 then
      bif !(Ty.beq T_api_Ticket x4 (false, (0 : Int), (0 : Int), (0 : Int), (0 : Int), false)) then
        some (.inr false)
      else
        r14_tickets_j2 x2
    else
      (bif (!((x4.2.2.2.1 == (0 : Int)) && (x4.2.2.2.2.1 == (0 : Int)))) && (x4.2.2.2.1 == (1 : Int)) then r14_Thread p0 x4.2.2.2.2.1 else some false).bind fun y5 =>
      (bif (!(((x4.2.2.2.1 == (0 : Int)) && (x4.2.2.2.2.1 == (0 : Int))) || ((x4.2.2.2.1 == (1 : Int)) && y5))) && ((x4.2.2.2.1 == (2 : Int)) && (x4.2.2.2.2.1 != (0 : Int))) then r14_Coin p0 x4.2.2.2.2.1 else some false).bind fun y6 =>
      bnd ((((x4.2.2.2.1 == (0 : Int)) && (x4.2.2.2.2.1 == (0 : Int))) || ((x4.2.2.2.1 == (1 : Int)) && y5)) || (((x4.2.2.2.1 == (2 : Int)) && (x4.2.2.2.2.1 != (0 : Int))) && y6)) fun x7 =>
      (r14_Coin p0 x4.2.1).bind fun y8 =>
      bif (((!y8) || (decide (x4.2.2.1 < (1 : Int)))) || (decide (x4.2.2.1 > (1048576 : Int)))) || (!x7) then
        some (.inr false)
      else
        r14_tickets_j2 x2
  else
    (r14_tickets_j1 p0).map .inr
noncomputable def r14_tickets (p0 : D_api_State) : Option Bool :=
  loopM (fun x : Int => r14_tickets_b1 p0 x) (0 : Int)
theorem r14_tickets.ok {p0 : D_api_State} {r : Bool} (h : r14_tickets p0 = some r) : ACall prog 79 [⟨T_api_State, p0⟩] [⟨0, .bool, r⟩] := by
  replace h := Leads.of h
  unfold r14_tickets at h
  refine acall_of func79 (by kernel_rfl) rfl (by kernel_rfl) fun w0 F0 hw0 => ?_
  refine W_seq ?_
  refine W_region mixed tys_ok (sup := []) (l := [(1, 0)]) (E' := [(1, .box 0 T_api_State p0)]) (obs := []) (by kernel_rfl) (trivial) ?_
  refine W_seq ?_
  refine W_seq ?_
  refine W_region mixed tys_ok (sup := []) (l := [(1, 0), (3, 0)]) (E' := [(1, .box 0 T_api_State p0), (3, .v 0 (.int .i64) (0 : Int))]) (obs := []) (by kernel_rfl) (trivial) ?_
  refine W_join h (Ej := fun (x : Unit) => [(1, .box 0 T_api_State p0)]) (p := fun x => r14_tickets_j1 p0) ?_ ?_
  · rintro ⟨⟩ h
    replace h : Leads _ (r14_tickets_j1 p0) := h
    unfold r14_tickets_j1 at h
    show W _ _ _ _ _ _ [(1, .box 0 T_api_State p0)]
    refine W_seq ?_
    refine W_region mixed tys_ok (sup := []) (l := [(1, 0), (6, 0)]) (E' := [(1, .box 0 T_api_State p0), (6, .v 0 (.int .i64) (p0.2.1.length : Int))]) (obs := []) (by kernel_rfl) (trivial) ?_
    refine W_seq ?_
    obtain ⟨o1, h⟩ := h.ass
    refine W_region mixed tys_ok (sup := []) (l := [(2, 0)]) (E' := [(2, .v 0 .bool ((decide ((p0.2.1.length : Int) ≤ (96 : Int))) && (((p0.2.1.length : Int) == (0 : Int)) || (rd z_api_Ticket p0.2.1 (IntKind.i64.wrap ((p0.2.1.length : Int) - (1 : Int)))).1)))]) (obs := [((decide ((p0.2.1.length : Int) ≤ (96 : Int))) && (!((p0.2.1.length : Int) == (0 : Int)))) = true → 0 ≤ IntKind.i64.wrap ((p0.2.1.length : Int) - (1 : Int)) ∧ IntKind.i64.wrap ((p0.2.1.length : Int) - (1 : Int)) < (p0.2.1.length : Int)]) (by kernel_rfl) (o1) ?_
    refine W_gen (x := (decide ((p0.2.1.length : Int) ≤ (96 : Int))) && (((p0.2.1.length : Int) == (0 : Int)) || (rd z_api_Ticket p0.2.1 (IntKind.i64.wrap ((p0.2.1.length : Int) - (1 : Int)))).1)) (En := fun x1 => [(2, .v 0 .bool x1)]) h (fun x1 h => ?_)
    refine W_keep (l := [(2, 0)]) (E' := [(2, .v 0 .bool x1)]) (by kernel_rfl) ?_
    replace h : x1 = r := h
    subst h
    exact W_ret tys_ok hw0 (by kernel_rfl) (by kernel_rfl)
  · intro j1
    refine W_block ?_
    refine W_keep (l := [(1, 0), (3, 0)]) (E' := [(1, .box 0 T_api_State p0), (3, .v 0 (.int .i64) (0 : Int))]) (by kernel_rfl) ?_
    refine W_loop' (En := fun (x : Int) => [(1, .box 0 T_api_State p0), (3, .v 0 (.int .i64) x)]) (x := (0 : Int)) h ?_
    rintro x2 K h
    replace h : Leads _ (r14_tickets_b1 p0 x2) := h
    unfold r14_tickets_b1 at h
    show W _ _ _ _ _ _ [(1, .box 0 T_api_State p0), (3, .v 0 (.int .i64) x2)]
    refine W_seq ?_
    refine W_seq ?_
    refine W_region mixed tys_ok (sup := []) (l := [(1, 0), (3, 0), (11, 0)]) (E' := [(1, .box 0 T_api_State p0), (3, .v 0 (.int .i64) x2), (11, .v 0 .bool (decide (x2 < (p0.2.1.length : Int))))]) (obs := []) (by kernel_rfl) (trivial) ?_
    refine W_cond (β := decide (x2 < (p0.2.1.length : Int))) (by kernel_rfl) (fun hb => ?_) (fun hb => ?_)
    · rw [cond_tt hb] at h
      refine W_skip ?_
      refine W_seq ?_
      refine W_join h (Ej := fun (x : Unit) => [(1, .box 0 T_api_State p0), (3, .v 0 (.int .i64) x2)]) (p := fun x => r14_tickets_j2 x2) ?_ ?_
      · rintro ⟨⟩ h
        replace h : Leads _ (r14_tickets_j2 x2) := h
        unfold r14_tickets_j2 at h
        show W _ _ _ _ _ _ [(1, .box 0 T_api_State p0), (3, .v 0 (.int .i64) x2)]
        refine W_region mixed tys_ok (sup := []) (l := [(1, 0), (3, 0)]) (E' := [(1, .box 0 T_api_State p0), (3, .v 0 (.int .i64) (IntKind.i64.wrap (x2 + (1 : Int))))]) (obs := []) (by kernel_rfl) (trivial) ?_
        refine W_gen (x := IntKind.i64.wrap (x2 + (1 : Int))) (En := fun x3 => [(1, .box 0 T_api_State p0), (3, .v 0 (.int .i64) x3)]) h (fun x3 h => ?_)
        refine W_keep (l := [(1, 0), (3, 0)]) (E' := [(1, .box 0 T_api_State p0), (3, .v 0 (.int .i64) x3)]) (by kernel_rfl) ?_
        exact W_abs h
      · intro j2
        refine W_block ?_
        refine W_seq ?_
        obtain ⟨o1, h⟩ := h.ass
        refine W_region mixed tys_ok (sup := []) (l := [(1, 0), (3, 0), (4, 9)]) (E' := [(1, .box 0 T_api_State p0), (3, .v 0 (.int .i64) x2), (4, .box 9 T_api_Ticket (rd z_api_Ticket p0.2.1 x2))]) (obs := [0 ≤ x2 ∧ x2 < (p0.2.1.length : Int)]) (by kernel_rfl) (o1) ?_
        refine W_gen (x := rd z_api_Ticket p0.2.1 x2) (En := fun x4 => [(1, .box 0 T_api_State p0), (3, .v 0 (.int .i64) x2), (4, .box 9 T_api_Ticket x4)]) h (fun x4 h => ?_)
        refine W_seq ?_
        refine W_seq ?_
        refine W_region mixed tys_ok (sup := []) (l := [(1, 0), (3, 0), (4, 9), (21, 0)]) (E' := [(1, .box 0 T_api_State p0), (3, .v 0 (.int .i64) x2), (4, .box 9 T_api_Ticket x4), (21, .v 0 .bool (!x4.1))]) (obs := []) (by kernel_rfl) (trivial) ?_
        refine W_cond (β := !x4.1) (by kernel_rfl) (fun hb => ?_) (fun hb => ?_)
        · rw [cond_tt hb] at h
          refine W_seq ?_
          refine W_seq ?_
          refine W_region mixed tys_ok (sup := []) (l := [(1, 0), (3, 0), (24, 0)]) (E' := [(1, .box 0 T_api_State p0), (3, .v 0 (.int .i64) x2), (24, .v 0 .bool (!(Ty.beq T_api_Ticket x4 (false, (0 : Int), (0 : Int), (0 : Int), (0 : Int), false))))]) (obs := []) (by kernel_rfl) (trivial) ?_
          refine W_cond (β := !(Ty.beq T_api_Ticket x4 (false, (0 : Int), (0 : Int), (0 : Int), (0 : Int), false))) (by kernel_rfl) (fun hb => ?_) (fun hb => ?_)
          · rw [cond_tt hb] at h
            refine W_seq ?_
            refine W_region mixed tys_ok (sup := []) (l := [(2, 0)]) (E' := [(2, .v 0 .bool false)]) (obs := []) (by kernel_rfl) (trivial) ?_
            refine W_keep (l := [(2, 0)]) (E' := [(2, .v 0 .bool false)]) (by kernel_rfl) ?_
            replace h : false = r := h
            subst h
            exact W_ret tys_ok hw0 (by kernel_rfl) (by kernel_rfl)
          · rw [cond_ff hb] at h
            refine W_skip ?_
            refine W_exit rfl ?_
            refine W_keep (l := [(1, 0), (3, 0)]) (E' := [(1, .box 0 T_api_State p0), (3, .v 0 (.int .i64) x2)]) (by kernel_rfl) ?_
            exact j2 () h
        · rw [cond_ff hb] at h
          refine W_skip ?_
          refine W_seq ?_
          obtain ⟨y5, ey5, h⟩ := h.bind
          obtain ⟨y6, ey6, h⟩ := h.bind
          refine W_region mixed tys_ok (sup := [.res [(0, ⟨0, .bool, y5⟩)], .res [(0, ⟨0, .bool, y6⟩)]]) (l := [(1, 0), (3, 0), (4, 9), (5, 0)]) (E' := [(1, .box 0 T_api_State p0), (3, .v 0 (.int .i64) x2), (4, .box 9 T_api_Ticket x4), (5, .v 0 .bool ((((x4.2.2.2.1 == (0 : Int)) && (x4.2.2.2.2.1 == (0 : Int))) || ((x4.2.2.2.1 == (1 : Int)) && y5)) || (((x4.2.2.2.1 == (2 : Int)) && (x4.2.2.2.2.1 != (0 : Int))) && y6)))]) (obs := [((!((x4.2.2.2.1 == (0 : Int)) && (x4.2.2.2.2.1 == (0 : Int)))) && (x4.2.2.2.1 == (1 : Int))) = true → ACall prog 32 [⟨T_api_State, p0⟩, ⟨.int .i64, x4.2.2.2.2.1⟩] [⟨0, .bool, y5⟩], ((!(((x4.2.2.2.1 == (0 : Int)) && (x4.2.2.2.2.1 == (0 : Int))) || ((x4.2.2.2.1 == (1 : Int)) && y5))) && ((x4.2.2.2.1 == (2 : Int)) && (x4.2.2.2.2.1 != (0 : Int)))) = true → ACall prog 64 [⟨T_api_State, p0⟩, ⟨.int .i64, x4.2.2.2.2.1⟩] [⟨0, .bool, y6⟩]]) (by kernel_rfl) (⟨fun hc => r14_Thread.ok (bif_some ey5 hc), fun hc => r14_Coin.ok (bif_some ey6 hc)⟩) ?_
          refine W_gen (x := (((x4.2.2.2.1 == (0 : Int)) && (x4.2.2.2.2.1 == (0 : Int))) || ((x4.2.2.2.1 == (1 : Int)) && y5)) || (((x4.2.2.2.1 == (2 : Int)) && (x4.2.2.2.2.1 != (0 : Int))) && y6)) (En := fun x7 => [(1, .box 0 T_api_State p0), (3, .v 0 (.int .i64) x2), (4, .box 9 T_api_Ticket x4), (5, .v 0 .bool x7)]) h (fun x7 h => ?_)
          refine W_seq ?_
          obtain ⟨y8, ey8, h⟩ := h.bind
          refine W_region mixed tys_ok (sup := [.res [(0, ⟨0, .bool, y8⟩)]]) (l := [(1, 0), (3, 0), (78, 0)]) (E' := [(1, .box 0 T_api_State p0), (3, .v 0 (.int .i64) x2), (78, .v 0 .bool ((((!y8) || (decide (x4.2.2.1 < (1 : Int)))) || (decide (x4.2.2.1 > (1048576 : Int)))) || (!x7)))]) (obs := [ACall prog 64 [⟨T_api_State, p0⟩, ⟨.int .i64, x4.2.1⟩] [⟨0, .bool, y8⟩]]) (by kernel_rfl) (r14_Coin.ok ey8) ?_
          refine W_cond (β := (((!y8) || (decide (x4.2.2.1 < (1 : Int)))) || (decide (x4.2.2.1 > (1048576 : Int)))) || (!x7)) (by kernel_rfl) (fun hb => ?_) (fun hb => ?_)
          · rw [cond_tt hb] at h
            refine W_seq ?_
            refine W_region mixed tys_ok (sup := []) (l := [(2, 0)]) (E' := [(2, .v 0 .bool false)]) (obs := []) (by kernel_rfl) (trivial) ?_
            refine W_keep (l := [(2, 0)]) (E' := [(2, .v 0 .bool false)]) (by kernel_rfl) ?_
            replace h : false = r := h
            subst h
            exact W_ret tys_ok hw0 (by kernel_rfl) (by kernel_rfl)
          · rw [cond_ff hb] at h
            refine W_skip ?_
            refine W_blk ?_
            refine W_keep (l := [(1, 0), (3, 0)]) (E' := [(1, .box 0 T_api_State p0), (3, .v 0 (.int .i64) x2)]) (by kernel_rfl) ?_
            exact j2 () h
    · rw [cond_ff hb] at h
      refine W_exit rfl ?_
      refine W_keep (l := [(1, 0)]) (E' := [(1, .box 0 T_api_State p0)]) (by kernel_rfl) ?_
      exact j1 () h.back

noncomputable def r14_Lock (p0 : D_api_State) (p1 : Int) : Option Bool :=
  ass (((decide (p1 ≥ (0 : Int))) && (decide (p1 < (p0.2.2.2.1.length : Int)))) = true → 0 ≤ p1 ∧ p1 < (p0.2.2.2.1.length : Int)) <|
  bnd (((decide (p1 ≥ (0 : Int))) && (decide (p1 < (p0.2.2.2.1.length : Int)))) && (rd z_api_Lock p0.2.2.2.1 p1).1) fun x1 =>
  some x1
theorem r14_Lock.ok {p0 : D_api_State} {p1 : Int} {r : Bool} (h : r14_Lock p0 p1 = some r) : ACall prog 66 [⟨T_api_State, p0⟩, ⟨.int .i64, p1⟩] [⟨0, .bool, r⟩] := by
  replace h := Leads.of h
  unfold r14_Lock at h
  refine acall_of func66 (by kernel_rfl) rfl (by kernel_rfl) fun w0 F0 hw0 => ?_
  refine W_seq ?_
  refine W_region mixed tys_ok (sup := []) (l := [(1, 0), (2, 0)]) (E' := [(1, .v 0 (.int .i64) p1), (2, .box 0 T_api_State p0)]) (obs := []) (by kernel_rfl) (trivial) ?_
  refine W_seq ?_
  obtain ⟨o1, h⟩ := h.ass
  refine W_region mixed tys_ok (sup := []) (l := [(4, 0)]) (E' := [(4, .v 0 .bool (((decide (p1 ≥ (0 : Int))) && (decide (p1 < (p0.2.2.2.1.length : Int)))) && (rd z_api_Lock p0.2.2.2.1 p1).1))]) (obs := [((decide (p1 ≥ (0 : Int))) && (decide (p1 < (p0.2.2.2.1.length : Int)))) = true → 0 ≤ p1 ∧ p1 < (p0.2.2.2.1.length : Int)]) (by kernel_rfl) (o1) ?_
  refine W_gen (x := ((decide (p1 ≥ (0 : Int))) && (decide (p1 < (p0.2.2.2.1.length : Int)))) && (rd z_api_Lock p0.2.2.2.1 p1).1) (En := fun x1 => [(4, .v 0 .bool x1)]) h (fun x1 h => ?_)
  refine W_keep (l := [(4, 0)]) (E' := [(4, .v 0 .bool x1)]) (by kernel_rfl) ?_
  replace h : x1 = r := h
  subst h
  exact W_ret tys_ok hw0 (by kernel_rfl) (by kernel_rfl)

noncomputable def r14_Is (p0 : D_api_State) (p1 : Int) (p2 : Int) (p3 : Int) : Option Bool :=
  (r14_Thread p0 p1).bind fun y1 =>
  ass (y1 = true → 0 ≤ p1 ∧ p1 < (p0.2.2.1.length : Int)) <|
  ass ((y1 && ((rd z_api_Thread p0.2.2.1 p1).1 == p2)) = true → 0 ≤ p1 ∧ p1 < (p0.2.2.1.length : Int)) <|
  bnd ((y1 && ((rd z_api_Thread p0.2.2.1 p1).1 == p2)) && ((rd z_api_Thread p0.2.2.1 p1).2.1 == p3)) fun x2 =>
  some x2
theorem r14_Is.ok {p0 : D_api_State} {p1 : Int} {p2 : Int} {p3 : Int} {r : Bool} (h : r14_Is p0 p1 p2 p3 = some r) : ACall prog 100 [⟨T_api_State, p0⟩, ⟨.int .i64, p1⟩, ⟨.int .i64, p2⟩, ⟨.int .i64, p3⟩] [⟨0, .bool, r⟩] := by
  replace h := Leads.of h
  unfold r14_Is at h
  refine acall_of func100 (by kernel_rfl) rfl (by kernel_rfl) fun w0 F0 hw0 => ?_
  refine W_seq ?_
  refine W_region mixed tys_ok (sup := []) (l := [(1, 0), (2, 0), (3, 0), (4, 0)]) (E' := [(1, .v 0 (.int .i64) p1), (2, .v 0 (.int .i64) p2), (3, .v 0 (.int .i64) p3), (4, .box 0 T_api_State p0)]) (obs := []) (by kernel_rfl) (trivial) ?_
  refine W_seq ?_
  obtain ⟨y1, ey1, h⟩ := h.bind
  obtain ⟨o1, h⟩ := h.ass
  obtain ⟨o2, h⟩ := h.ass
  refine W_region mixed tys_ok (sup := [.res [(0, ⟨0, .bool, y1⟩)]]) (l := [(8, 0)]) (E' := [(8, .v 0 .bool ((y1 && ((rd z_api_Thread p0.2.2.1 p1).1 == p2)) && ((rd z_api_Thread p0.2.2.1 p1).2.1 == p3)))]) (obs := [ACall prog 32 [⟨T_api_State, p0⟩, ⟨.int .i64, p1⟩] [⟨0, .bool, y1⟩], y1 = true → 0 ≤ p1 ∧ p1 < (p0.2.2.1.length : Int), (y1 && ((rd z_api_Thread p0.2.2.1 p1).1 == p2)) = true → 0 ≤ p1 ∧ p1 < (p0.2.2.1.length : Int)]) (by kernel_rfl) (⟨r14_Thread.ok ey1, o1, o2⟩) ?_
  refine W_gen (x := (y1 && ((rd z_api_Thread p0.2.2.1 p1).1 == p2)) && ((rd z_api_Thread p0.2.2.1 p1).2.1 == p3)) (En := fun x2 => [(8, .v 0 .bool x2)]) h (fun x2 h => ?_)
  refine W_keep (l := [(8, 0)]) (E' := [(8, .v 0 .bool x2)]) (by kernel_rfl) ?_
  replace h : x2 = r := h
  subst h
  exact W_ret tys_ok hw0 (by kernel_rfl) (by kernel_rfl)

noncomputable def r14_threads_j1 (p0 : D_api_State) (x1 : Int) : Option (Bool) :=
  ass ((((decide (x1 < (2 : Int))) && (decide ((p0.2.2.1.length : Int) ≤ (32 : Int)))) && (!((p0.2.2.1.length : Int) == (0 : Int)))) = true → 0 ≤ IntKind.i64.wrap ((p0.2.2.1.length : Int) - (1 : Int)) ∧ IntKind.i64.wrap ((p0.2.2.1.length : Int) - (1 : Int)) < (p0.2.2.1.length : Int)) <|
  bnd (((decide (x1 < (2 : Int))) && (decide ((p0.2.2.1.length : Int) ≤ (32 : Int)))) && (((p0.2.2.1.length : Int) == (0 : Int)) || ((rd z_api_Thread p0.2.2.1 (IntKind.i64.wrap ((p0.2.2.1.length : Int) - (1 : Int)))).1 != (0 : Int)))) fun x2 =>
  some x2
noncomputable def r14_threads_j2 (x4 : Int) (x5 : Int) : Option ((Int × Int) ⊕ Bool) :=
  bnd (IntKind.i64.wrap (x4 + (1 : Int))) fun x6 =>
  some (.inl (x5, x6))
noncomputable def r14_threads_j3 (p0 : D_api_State) (x4 : Int) (x7 : D_api_Thread) (x8 : Int) : Option ((Int × Int) ⊕ Bool) :=
  (bif (!((((decide (x7.1 > (0 : Int))) && (decide (x7.1 < (6 : Int)))) && (x7.1 != (4 : Int))) && (x7.2.1 == (-1 : Int)))) && ((x7.1 == (4 : Int)) && (x7.2.1 != x4)) then r14_Thread p0 x7.2.1 else some false).bind fun y9 =>
  (bif (!(((((decide (x7.1 > (0 : Int))) && (decide (x7.1 < (6 : Int)))) && (x7.1 != (4 : Int))) && (x7.2.1 == (-1 : Int))) || (((x7.1 == (4 : Int)) && (x7.2.1 != x4)) && y9))) && (x7.1 == (6 : Int)) then r14_Lock p0 x7.2.1 else some false).bind fun y10 =>
  bnd ((((((decide (x7.1 > (0 : Int))) && (decide (x7.1 < (6 : Int)))) && (x7.1 != (4 : Int))) && (x7.2.1 == (-1 : Int))) || (((x7.1 == (4 : Int)) && (x7.2.1 != x4)) && y9)) || ((x7.1 == (6 : Int)) && y10)) fun x11 =>
  (bif (!(x7.2.2.1 == (-1 : Int))) && (x7.1 != (5 : Int)) then r14_Is p0 x7.2.2.1 (4 : Int) x4 else some false).bind fun y12 =>
  bnd ((x7.2.2.1 == (-1 : Int)) || ((x7.1 != (5 : Int)) && y12)) fun x13 =>
  bnd ((x7.2.2.2.1 == (1 : Int)) && (x7.2.2.2.2 == (1 : Int))) fun x14 =>
  bif ((!x11) || (!x13)) || ((!x14) && (((decide (x7.2.2.2.2 < (1 : Int))) || (decide (x7.2.2.2.2 ≥ x7.2.2.2.1))) || (decide (x7.2.2.2.1 > p0.2.2.2.2.2)))) then
    some (.inr false)
  else
    r14_threads_j2 x4 x8
noncomputable def r14_threads_b1 (p0 : D_api_State) (x3 : Int) (x4 : Int) : Option ((Int × Int) ⊕ Bool) :=
  bif decide (x4 < (p0.2.2.1.length : Int)) then
    ass (0 ≤ x4 ∧ x4 < (p0.2.2.1.length : Int)) <|
    bnd (rd z_api_Thread p0.2.2.1 x4) fun x7 =>
    bif x7.1 == (0 : Int) then
      bif !(Ty.beq T_api_Thread x7 ((0 : Int), (0 : Int), (0 : Int), (0 : Int), (0 : Int))) then
        some (.inr false)
      else
        r14_threads_j2 x4 x3
    else
      bif x7.1 == (3 : Int) then
        bnd (IntKind.i64.wrap (x3 + (1 : Int))) fun x15 =>
        r14_threads_j3 p0 x4 x7 x15
      else
        r14_threads_j3 p0 x4 x7 x3
  else
    (r14_threads_j1 p0 x3).map .inr
noncomputable def r14_threads (p0 : D_api_State) : Option Bool :=
  loopM (fun x : Int × Int => r14_threads_b1 p0 x.1 x.2) ((0 : Int), (0 : Int))
theorem r14_threads.ok {p0 : D_api_State} {r : Bool} (h : r14_threads p0 = some r) : ACall prog 80 [⟨T_api_State, p0⟩] [⟨0, .bool, r⟩] := by
  replace h := Leads.of h
  unfold r14_threads at h
  refine acall_of func80 (by kernel_rfl) rfl (by kernel_rfl) fun w0 F0 hw0 => ?_
  refine W_seq ?_
  refine W_region mixed tys_ok (sup := []) (l := [(1, 0)]) (E' := [(1, .box 0 T_api_State p0)]) (obs := []) (by kernel_rfl) (trivial) ?_
  refine W_seq ?_
  refine W_region mixed tys_ok (sup := []) (l := [(1, 0), (3, 0)]) (E' := [(1, .box 0 T_api_State p0), (3, .v 0 (.int .i64) (0 : Int))]) (obs := []) (by kernel_rfl) (trivial) ?_
  refine W_seq ?_
  refine W_seq ?_
  refine W_region mixed tys_ok (sup := []) (l := [(1, 0), (3, 0), (4, 0)]) (E' := [(1, .box 0 T_api_State p0), (3, .v 0 (.int .i64) (0 : Int)), (4, .v 0 (.int .i64) (0 : Int))]) (obs := []) (by kernel_rfl) (trivial) ?_
  refine W_join h (Ej := fun (x : Int) => [(1, .box 0 T_api_State p0), (3, .v 0 (.int .i64) x)]) (p := fun x => r14_threads_j1 p0 x) ?_ ?_
  · rintro x1 h
    replace h : Leads _ (r14_threads_j1 p0 x1) := h
    unfold r14_threads_j1 at h
    show W _ _ _ _ _ _ [(1, .box 0 T_api_State p0), (3, .v 0 (.int .i64) x1)]
    refine W_seq ?_
    refine W_region mixed tys_ok (sup := []) (l := [(1, 0), (3, 0), (9, 0)]) (E' := [(1, .box 0 T_api_State p0), (3, .v 0 (.int .i64) x1), (9, .v 0 (.int .i64) (p0.2.2.1.length : Int))]) (obs := []) (by kernel_rfl) (trivial) ?_
    refine W_seq ?_
    obtain ⟨o1, h⟩ := h.ass
    refine W_region mixed tys_ok (sup := []) (l := [(2, 0)]) (E' := [(2, .v 0 .bool (((decide (x1 < (2 : Int))) && (decide ((p0.2.2.1.length : Int) ≤ (32 : Int)))) && (((p0.2.2.1.length : Int) == (0 : Int)) || ((rd z_api_Thread p0.2.2.1 (IntKind.i64.wrap ((p0.2.2.1.length : Int) - (1 : Int)))).1 != (0 : Int)))))]) (obs := [(((decide (x1 < (2 : Int))) && (decide ((p0.2.2.1.length : Int) ≤ (32 : Int)))) && (!((p0.2.2.1.length : Int) == (0 : Int)))) = true → 0 ≤ IntKind.i64.wrap ((p0.2.2.1.length : Int) - (1 : Int)) ∧ IntKind.i64.wrap ((p0.2.2.1.length : Int) - (1 : Int)) < (p0.2.2.1.length : Int)]) (by kernel_rfl) (o1) ?_
    refine W_gen (x := ((decide (x1 < (2 : Int))) && (decide ((p0.2.2.1.length : Int) ≤ (32 : Int)))) && (((p0.2.2.1.length : Int) == (0 : Int)) || ((rd z_api_Thread p0.2.2.1 (IntKind.i64.wrap ((p0.2.2.1.length : Int) - (1 : Int)))).1 != (0 : Int)))) (En := fun x2 => [(2, .v 0 .bool x2)]) h (fun x2 h => ?_)
    refine W_keep (l := [(2, 0)]) (E' := [(2, .v 0 .bool x2)]) (by kernel_rfl) ?_
    replace h : x2 = r := h
    subst h
    exact W_ret tys_ok hw0 (by kernel_rfl) (by kernel_rfl)
  · intro j1
    refine W_block ?_
    refine W_keep (l := [(1, 0), (3, 0), (4, 0)]) (E' := [(1, .box 0 T_api_State p0), (3, .v 0 (.int .i64) (0 : Int)), (4, .v 0 (.int .i64) (0 : Int))]) (by kernel_rfl) ?_
    refine W_loop' (En := fun (x : Int × Int) => [(1, .box 0 T_api_State p0), (3, .v 0 (.int .i64) x.1), (4, .v 0 (.int .i64) x.2)]) (x := ((0 : Int), (0 : Int))) h ?_
    rintro ⟨x3, x4⟩ K h
    replace h : Leads _ (r14_threads_b1 p0 x3 x4) := h
    unfold r14_threads_b1 at h
    show W _ _ _ _ _ _ [(1, .box 0 T_api_State p0), (3, .v 0 (.int .i64) x3), (4, .v 0 (.int .i64) x4)]
    refine W_seq ?_
    refine W_seq ?_
    refine W_region mixed tys_ok (sup := []) (l := [(1, 0), (3, 0), (4, 0), (14, 0)]) (E' := [(1, .box 0 T_api_State p0), (3, .v 0 (.int .i64) x3), (4, .v 0 (.int .i64) x4), (14, .v 0 .bool (decide (x4 < (p0.2.2.1.length : Int))))]) (obs := []) (by kernel_rfl) (trivial) ?_
    refine W_cond (β := decide (x4 < (p0.2.2.1.length : Int))) (by kernel_rfl) (fun hb => ?_) (fun hb => ?_)
    · rw [cond_tt hb] at h
      refine W_skip ?_
      refine W_seq ?_
      refine W_join h (Ej := fun (x : Int) => [(1, .box 0 T_api_State p0), (3, .v 0 (.int .i64) x), (4, .v 0 (.int .i64) x4)]) (p := fun x => r14_threads_j2 x4 x) ?_ ?_
      · rintro x5 h
        replace h : Leads _ (r14_threads_j2 x4 x5) := h
        unfold r14_threads_j2 at h
        show W _ _ _ _ _ _ [(1, .box 0 T_api_State p0), (3, .v 0 (.int .i64) x5), (4, .v 0 (.int .i64) x4)]
        refine W_region mixed tys_ok (sup := []) (l := [(1, 0), (3, 0), (4, 0)]) (E' := [(1, .box 0 T_api_State p0), (3, .v 0 (.int .i64) x5), (4, .v 0 (.int .i64) (IntKind.i64.wrap (x4 + (1 : Int))))]) (obs := []) (by kernel_rfl) (trivial) ?_
        refine W_gen (x := IntKind.i64.wrap (x4 + (1 : Int))) (En := fun x6 => [(1, .box 0 T_api_State p0), (3, .v 0 (.int .i64) x5), (4, .v 0 (.int .i64) x6)]) h (fun x6 h => ?_)
        refine W_keep (l := [(1, 0), (3, 0), (4, 0)]) (E' := [(1, .box 0 T_api_State p0), (3, .v 0 (.int .i64) x5), (4, .v 0 (.int .i64) x6)]) (by kernel_rfl) ?_
        exact W_abs h
      · intro j2
        refine W_block ?_
        refine W_seq ?_
        obtain ⟨o1, h⟩ := h.ass
        refine W_region mixed tys_ok (sup := []) (l := [(1, 0), (3, 0), (4, 0), (5, 9)]) (E' := [(1, .box 0 T_api_State p0), (3, .v 0 (.int .i64) x3), (4, .v 0 (.int .i64) x4), (5, .box 9 T_api_Thread (rd z_api_Thread p0.2.2.1 x4))]) (obs := [0 ≤ x4 ∧ x4 < (p0.2.2.1.length : Int)]) (by kernel_rfl) (o1) ?_
        refine W_gen (x := rd z_api_Thread p0.2.2.1 x4) (En := fun x7 => [(1, .box 0 T_api_State p0), (3, .v 0 (.int .i64) x3), (4, .v 0 (.int .i64) x4), (5, .box 9 T_api_Thread x7)]) h (fun x7 h => ?_)
        refine W_seq ?_
        refine W_seq ?_
        refine W_region mixed tys_ok (sup := []) (l := [(1, 0), (3, 0), (4, 0), (5, 9), (24, 0)]) (E' := [(1, .box 0 T_api_State p0), (3, .v 0 (.int .i64) x3), (4, .v 0 (.int .i64) x4), (5, .box 9 T_api_Thread x7), (24, .v 0 .bool (x7.1 == (0 : Int)))]) (obs := []) (by kernel_rfl) (trivial) ?_
        refine W_cond (β := x7.1 == (0 : Int)) (by kernel_rfl) (fun hb => ?_) (fun hb => ?_)
        · rw [cond_tt hb] at h
          refine W_seq ?_
          refine W_seq ?_
          refine W_region mixed tys_ok (sup := []) (l := [(1, 0), (3, 0), (4, 0), (27, 0)]) (E' := [(1, .box 0 T_api_State p0), (3, .v 0 (.int .i64) x3), (4, .v 0 (.int .i64) x4), (27, .v 0 .bool (!(Ty.beq T_api_Thread x7 ((0 : Int), (0 : Int), (0 : Int), (0 : Int), (0 : Int)))))]) (obs := []) (by kernel_rfl) (trivial) ?_
          refine W_cond (β := !(Ty.beq T_api_Thread x7 ((0 : Int), (0 : Int), (0 : Int), (0 : Int), (0 : Int)))) (by kernel_rfl) (fun hb => ?_) (fun hb => ?_)
          · rw [cond_tt hb] at h
            refine W_seq ?_
            refine W_region mixed tys_ok (sup := []) (l := [(2, 0)]) (E' := [(2, .v 0 .bool false)]) (obs := []) (by kernel_rfl) (trivial) ?_
            refine W_keep (l := [(2, 0)]) (E' := [(2, .v 0 .bool false)]) (by kernel_rfl) ?_
            replace h : false = r := h
            subst h
            exact W_ret tys_ok hw0 (by kernel_rfl) (by kernel_rfl)
          · rw [cond_ff hb] at h
            refine W_skip ?_
            refine W_exit rfl ?_
            refine W_keep (l := [(1, 0), (3, 0), (4, 0)]) (E' := [(1, .box 0 T_api_State p0), (3, .v 0 (.int .i64) x3), (4, .v 0 (.int .i64) x4)]) (by kernel_rfl) ?_
            exact j2 x3 h
        · rw [cond_ff hb] at h
          refine W_skip ?_
          refine W_seq ?_
          refine W_seq ?_
          refine W_region mixed tys_ok (sup := []) (l := [(1, 0), (3, 0), (4, 0), (5, 9), (30, 0)]) (E' := [(1, .box 0 T_api_State p0), (3, .v 0 (.int .i64) x3), (4, .v 0 (.int .i64) x4), (5, .box 9 T_api_Thread x7), (30, .v 0 .bool (x7.1 == (3 : Int)))]) (obs := []) (by kernel_rfl) (trivial) ?_
          refine W_join h (Ej := fun (x : Int) => [(1, .box 0 T_api_State p0), (3, .v 0 (.int .i64) x), (4, .v 0 (.int .i64) x4), (5, .box 9 T_api_Thread x7)]) (p := fun x => r14_threads_j3 p0 x4 x7 x) ?_ ?_
          · rintro x8 h
            replace h : Leads _ (r14_threads_j3 p0 x4 x7 x8) := h
            unfold r14_threads_j3 at h
            show W _ _ _ _ _ _ [(1, .box 0 T_api_State p0), (3, .v 0 (.int .i64) x8), (4, .v 0 (.int .i64) x4), (5, .box 9 T_api_Thread x7)]
            refine W_seq ?_
            obtain ⟨y9, ey9, h⟩ := h.bind
            obtain ⟨y10, ey10, h⟩ := h.bind
            refine W_region mixed tys_ok (sup := [.res [(0, ⟨0, .bool, y9⟩)], .res [(0, ⟨0, .bool, y10⟩)]]) (l := [(1, 0), (3, 0), (4, 0), (5, 9), (6, 0)]) (E' := [(1, .box 0 T_api_State p0), (3, .v 0 (.int .i64) x8), (4, .v 0 (.int .i64) x4), (5, .box 9 T_api_Thread x7), (6, .v 0 .bool ((((((decide (x7.1 > (0 : Int))) && (decide (x7.1 < (6 : Int)))) && (x7.1 != (4 : Int))) && (x7.2.1 == (-1 : Int))) || (((x7.1 == (4 : Int)) && (x7.2.1 != x4)) && y9)) || ((x7.1 == (6 : Int)) && y10)))]) (obs := [((!((((decide (x7.1 > (0 : Int))) && (decide (x7.1 < (6 : Int)))) && (x7.1 != (4 : Int))) && (x7.2.1 == (-1 : Int)))) && ((x7.1 == (4 : Int)) && (x7.2.1 != x4))) = true → ACall prog 32 [⟨T_api_State, p0⟩, ⟨.int .i64, x7.2.1⟩] [⟨0, .bool, y9⟩], ((!(((((decide (x7.1 > (0 : Int))) && (decide (x7.1 < (6 : Int)))) && (x7.1 != (4 : Int))) && (x7.2.1 == (-1 : Int))) || (((x7.1 == (4 : Int)) && (x7.2.1 != x4)) && y9))) && (x7.1 == (6 : Int))) = true → ACall prog 66 [⟨T_api_State, p0⟩, ⟨.int .i64, x7.2.1⟩] [⟨0, .bool, y10⟩]]) (by kernel_rfl) (⟨fun hc => r14_Thread.ok (bif_some ey9 hc), fun hc => r14_Lock.ok (bif_some ey10 hc)⟩) ?_
            refine W_gen (x := (((((decide (x7.1 > (0 : Int))) && (decide (x7.1 < (6 : Int)))) && (x7.1 != (4 : Int))) && (x7.2.1 == (-1 : Int))) || (((x7.1 == (4 : Int)) && (x7.2.1 != x4)) && y9)) || ((x7.1 == (6 : Int)) && y10)) (En := fun x11 => [(1, .box 0 T_api_State p0), (3, .v 0 (.int .i64) x8), (4, .v 0 (.int .i64) x4), (5, .box 9 T_api_Thread x7), (6, .v 0 .bool x11)]) h (fun x11 h => ?_)
            refine W_seq ?_
            obtain ⟨y12, ey12, h⟩ := h.bind
            refine W_region mixed tys_ok (sup := [.res [(0, ⟨0, .bool, y12⟩)]]) (l := [(1, 0), (3, 0), (4, 0), (5, 9), (6, 0), (7, 0)]) (E' := [(1, .box 0 T_api_State p0), (3, .v 0 (.int .i64) x8), (4, .v 0 (.int .i64) x4), (5, .box 9 T_api_Thread x7), (6, .v 0 .bool x11), (7, .v 0 .bool ((x7.2.2.1 == (-1 : Int)) || ((x7.1 != (5 : Int)) && y12)))]) (obs := [((!(x7.2.2.1 == (-1 : Int))) && (x7.1 != (5 : Int))) = true → ACall prog 100 [⟨T_api_State, p0⟩, ⟨.int .i64, x7.2.2.1⟩, ⟨.int .i64, (4 : Int)⟩, ⟨.int .i64, x4⟩] [⟨0, .bool, y12⟩]]) (by kernel_rfl) (fun hc => r14_Is.ok (bif_some ey12 hc)) ?_
            refine W_gen (x := (x7.2.2.1 == (-1 : Int)) || ((x7.1 != (5 : Int)) && y12)) (En := fun x13 => [(1, .box 0 T_api_State p0), (3, .v 0 (.int .i64) x8), (4, .v 0 (.int .i64) x4), (5, .box 9 T_api_Thread x7), (6, .v 0 .bool x11), (7, .v 0 .bool x13)]) h (fun x13 h => ?_)
            refine W_seq ?_
            refine W_region mixed tys_ok (sup := []) (l := [(1, 0), (3, 0), (4, 0), (5, 9), (6, 0), (7, 0), (8, 0)]) (E' := [(1, .box 0 T_api_State p0), (3, .v 0 (.int .i64) x8), (4, .v 0 (.int .i64) x4), (5, .box 9 T_api_Thread x7), (6, .v 0 .bool x11), (7, .v 0 .bool x13), (8, .v 0 .bool ((x7.2.2.2.1 == (1 : Int)) && (x7.2.2.2.2 == (1 : Int))))]) (obs := []) (by kernel_rfl) (trivial) ?_
            refine W_gen (x := (x7.2.2.2.1 == (1 : Int)) && (x7.2.2.2.2 == (1 : Int))) (En := fun x14 => [(1, .box 0 T_api_State p0), (3, .v 0 (.int .i64) x8), (4, .v 0 (.int .i64) x4), (5, .box 9 T_api_Thread x7), (6, .v 0 .bool x11), (7, .v 0 .bool x13), (8, .v 0 .bool x14)]) h (fun x14 h => ?_)
            refine W_seq ?_
            refine W_region mixed tys_ok (sup := []) (l := [(1, 0), (3, 0), (4, 0), (130, 0)]) (E' := [(1, .box 0 T_api_State p0), (3, .v 0 (.int .i64) x8), (4, .v 0 (.int .i64) x4), (130, .v 0 .bool (((!x11) || (!x13)) || ((!x14) && (((decide (x7.2.2.2.2 < (1 : Int))) || (decide (x7.2.2.2.2 ≥ x7.2.2.2.1))) || (decide (x7.2.2.2.1 > p0.2.2.2.2.2))))))]) (obs := []) (by kernel_rfl) (trivial) ?_
            refine W_cond (β := ((!x11) || (!x13)) || ((!x14) && (((decide (x7.2.2.2.2 < (1 : Int))) || (decide (x7.2.2.2.2 ≥ x7.2.2.2.1))) || (decide (x7.2.2.2.1 > p0.2.2.2.2.2))))) (by kernel_rfl) (fun hb => ?_) (fun hb => ?_)
            · rw [cond_tt hb] at h
              refine W_seq ?_
              refine W_region mixed tys_ok (sup := []) (l := [(2, 0)]) (E' := [(2, .v 0 .bool false)]) (obs := []) (by kernel_rfl) (trivial) ?_
              refine W_keep (l := [(2, 0)]) (E' := [(2, .v 0 .bool false)]) (by kernel_rfl) ?_
              replace h : false = r := h
              subst h
              exact W_ret tys_ok hw0 (by kernel_rfl) (by kernel_rfl)
            · rw [cond_ff hb] at h
              refine W_skip ?_
              refine W_blk ?_
              refine W_keep (l := [(1, 0), (3, 0), (4, 0)]) (E' := [(1, .box 0 T_api_State p0), (3, .v 0 (.int .i64) x8), (4, .v 0 (.int .i64) x4)]) (by kernel_rfl) ?_
              exact j2 x8 h
          · intro j3
            refine W_cond (β := x7.1 == (3 : Int)) (by kernel_rfl) (fun hb => ?_) (fun hb => ?_)
            · rw [cond_tt hb] at h
              refine W_region mixed tys_ok (sup := []) (l := [(1, 0), (3, 0), (4, 0), (5, 9)]) (E' := [(1, .box 0 T_api_State p0), (3, .v 0 (.int .i64) (IntKind.i64.wrap (x3 + (1 : Int)))), (4, .v 0 (.int .i64) x4), (5, .box 9 T_api_Thread x7)]) (obs := []) (by kernel_rfl) (trivial) ?_
              refine W_gen (x := IntKind.i64.wrap (x3 + (1 : Int))) (En := fun x15 => [(1, .box 0 T_api_State p0), (3, .v 0 (.int .i64) x15), (4, .v 0 (.int .i64) x4), (5, .box 9 T_api_Thread x7)]) h (fun x15 h => ?_)
              refine W_keep (l := [(1, 0), (3, 0), (4, 0), (5, 9)]) (E' := [(1, .box 0 T_api_State p0), (3, .v 0 (.int .i64) x15), (4, .v 0 (.int .i64) x4), (5, .box 9 T_api_Thread x7)]) (by kernel_rfl) ?_
              exact j3 x15 h
            · rw [cond_ff hb] at h
              refine W_skip ?_
              refine W_keep (l := [(1, 0), (3, 0), (4, 0), (5, 9)]) (E' := [(1, .box 0 T_api_State p0), (3, .v 0 (.int .i64) x3), (4, .v 0 (.int .i64) x4), (5, .box 9 T_api_Thread x7)]) (by kernel_rfl) ?_
              exact j3 x3 h
    · rw [cond_ff hb] at h
      refine W_exit rfl ?_
      refine W_keep (l := [(1, 0), (3, 0)]) (E' := [(1, .box 0 T_api_State p0), (3, .v 0 (.int .i64) x3)]) (by kernel_rfl) ?_
      exact j1 x3 h.back

noncomputable def r14_locks_j1 (p0 : D_api_State) : Option (Bool) :=
  ass (((decide ((p0.2.2.2.1.length : Int) ≤ (8 : Int))) && (!((p0.2.2.2.1.length : Int) == (0 : Int)))) = true → 0 ≤ IntKind.i64.wrap ((p0.2.2.2.1.length : Int) - (1 : Int)) ∧ IntKind.i64.wrap ((p0.2.2.2.1.length : Int) - (1 : Int)) < (p0.2.2.2.1.length : Int)) <|
  bnd ((decide ((p0.2.2.2.1.length : Int) ≤ (8 : Int))) && (((p0.2.2.2.1.length : Int) == (0 : Int)) || (rd z_api_Lock p0.2.2.2.1 (IntKind.i64.wrap ((p0.2.2.2.1.length : Int) - (1 : Int)))).1)) fun x1 =>
  some x1
noncomputable def r14_locks_j2 (x2 : Int) : Option (Int ⊕ Bool) :=
  bnd (IntKind.i64.wrap (x2 + (1 : Int))) fun x3 =>
  some (.inl x3)
noncomputable def r14_locks_j3 (x2 : Int) : Option (Int ⊕ Bool) :=
  r14_locks_j2 x2
noncomputable def r14_locks_b2 (p0 : D_api_State) (x2 : Int) (x4 : D_api_Lock) (x6 : Int) : Option (Int ⊕ (Int ⊕ Bool)) :=
  bif decide (x6 < (p0.2.2.1.length : Int)) then
    (r14_Is p0 x6 (6 : Int) x2).bind fun y7 =>
    bif y7 && ((x4.2 == (-1 : Int)) || (x4.2 == x6)) then
      some (.inr (.inr false))
    else
      bnd (IntKind.i64.wrap (x6 + (1 : Int))) fun x8 =>
      some (.inl x8)
  else
    (r14_locks_j3 x2).map .inr
noncomputable def r14_locks_b1 (p0 : D_api_State) (x2 : Int) : Option (Int ⊕ Bool) :=
  bif decide (x2 < (p0.2.2.2.1.length : Int)) then
    ass (0 ≤ x2 ∧ x2 < (p0.2.2.2.1.length : Int)) <|
    bnd (rd z_api_Lock p0.2.2.2.1 x2) fun x4 =>
    bif !x4.1 then
      bif x4.2 != (0 : Int) then
        some (.inr false)
      else
        r14_locks_j2 x2
    else
      (bif x4.2 != (-1 : Int) then r14_Thread p0 x4.2 else some false).bind fun y5 =>
      bif (x4.2 != (-1 : Int)) && (!y5) then
        some (.inr false)
      else
        loopM (fun x : Int => r14_locks_b2 p0 x2 x4 x) (0 : Int)
  else
    (r14_locks_j1 p0).map .inr
noncomputable def r14_locks (p0 : D_api_State) : Option Bool :=
  loopM (fun x : Int => r14_locks_b1 p0 x) (0 : Int)
theorem r14_locks.ok {p0 : D_api_State} {r : Bool} (h : r14_locks p0 = some r) : ACall prog 81 [⟨T_api_State, p0⟩] [⟨0, .bool, r⟩] := by
  replace h := Leads.of h
  unfold r14_locks at h
  refine acall_of func81 (by kernel_rfl) rfl (by kernel_rfl) fun w0 F0 hw0 => ?_
  refine W_seq ?_
  refine W_region mixed tys_ok (sup := []) (l := [(1, 0)]) (E' := [(1, .box 0 T_api_State p0)]) (obs := []) (by kernel_rfl) (trivial) ?_
  refine W_seq ?_
  refine W_seq ?_
  refine W_region mixed tys_ok (sup := []) (l := [(1, 0), (3, 0)]) (E' := [(1, .box 0 T_api_State p0), (3, .v 0 (.int .i64) (0 : Int))]) (obs := []) (by kernel_rfl) (trivial) ?_
  refine W_join h (Ej := fun (x : Unit) => [(1, .box 0 T_api_State p0)]) (p := fun x => r14_locks_j1 p0) ?_ ?_
  · rintro ⟨⟩ h
    replace h : Leads _ (r14_locks_j1 p0) := h
    unfold r14_locks_j1 at h
    show W _ _ _ _ _ _ [(1, .box 0 T_api_State p0)]
    refine W_seq ?_
    refine W_region mixed tys_ok (sup := []) (l := [(1, 0), (6, 0)]) (E' := [(1, .box 0 T_api_State p0), (6, .v 0 (.int .i64) (p0.2.2.2.1.length : Int))]) (obs := []) (by kernel_rfl) (trivial) ?_
    refine W_seq ?_
    obtain ⟨o1, h⟩ := h.ass
    refine W_region mixed tys_ok (sup := []) (l := [(2, 0)]) (E' := [(2, .v 0 .bool ((decide ((p0.2.2.2.1.length : Int) ≤ (8 : Int))) && (((p0.2.2.2.1.length : Int) == (0 : Int)) || (rd z_api_Lock p0.2.2.2.1 (IntKind.i64.wrap ((p0.2.2.2.1.length : Int) - (1 : Int)))).1)))]) (obs := [((decide ((p0.2.2.2.1.length : Int) ≤ (8 : Int))) && (!((p0.2.2.2.1.length : Int) == (0 : Int)))) = true → 0 ≤ IntKind.i64.wrap ((p0.2.2.2.1.length : Int) - (1 : Int)) ∧ IntKind.i64.wrap ((p0.2.2.2.1.length : Int) - (1 : Int)) < (p0.2.2.2.1.length : Int)]) (by kernel_rfl) (o1) ?_
    refine W_gen (x := (decide ((p0.2.2.2.1.length : Int) ≤ (8 : Int))) && (((p0.2.2.2.1.length : Int) == (0 : Int)) || (rd z_api_Lock p0.2.2.2.1 (IntKind.i64.wrap ((p0.2.2.2.1.length : Int) - (1 : Int)))).1)) (En := fun x1 => [(2, .v 0 .bool x1)]) h (fun x1 h => ?_)
    refine W_keep (l := [(2, 0)]) (E' := [(2, .v 0 .bool x1)]) (by kernel_rfl) ?_
    replace h : x1 = r := h
    subst h
    exact W_ret tys_ok hw0 (by kernel_rfl) (by kernel_rfl)
  · intro j1
    refine W_block ?_
    refine W_keep (l := [(1, 0), (3, 0)]) (E' := [(1, .box 0 T_api_State p0), (3, .v 0 (.int .i64) (0 : Int))]) (by kernel_rfl) ?_
    refine W_loop' (En := fun (x : Int) => [(1, .box 0 T_api_State p0), (3, .v 0 (.int .i64) x)]) (x := (0 : Int)) h ?_
    rintro x2 K h
    replace h : Leads _ (r14_locks_b1 p0 x2) := h
    unfold r14_locks_b1 at h
    show W _ _ _ _ _ _ [(1, .box 0 T_api_State p0), (3, .v 0 (.int .i64) x2)]
    refine W_seq ?_
    refine W_seq ?_
    refine W_region mixed tys_ok (sup := []) (l := [(1, 0), (3, 0), (11, 0)]) (E' := [(1, .box 0 T_api_State p0), (3, .v 0 (.int .i64) x2), (11, .v 0 .bool (decide (x2 < (p0.2.2.2.1.length : Int))))]) (obs := []) (by kernel_rfl) (trivial) ?_
    refine W_cond (β := decide (x2 < (p0.2.2.2.1.length : Int))) (by kernel_rfl) (fun hb => ?_) (fun hb => ?_)
    · rw [cond_tt hb] at h
      refine W_skip ?_
      refine W_seq ?_
      refine W_join h (Ej := fun (x : Unit) => [(1, .box 0 T_api_State p0), (3, .v 0 (.int .i64) x2)]) (p := fun x => r14_locks_j2 x2) ?_ ?_
      · rintro ⟨⟩ h
        replace h : Leads _ (r14_locks_j2 x2) := h
        unfold r14_locks_j2 at h
        show W _ _ _ _ _ _ [(1, .box 0 T_api_State p0), (3, .v 0 (.int .i64) x2)]
        refine W_region mixed tys_ok (sup := []) (l := [(1, 0), (3, 0)]) (E' := [(1, .box 0 T_api_State p0), (3, .v 0 (.int .i64) (IntKind.i64.wrap (x2 + (1 : Int))))]) (obs := []) (by kernel_rfl) (trivial) ?_
        refine W_gen (x := IntKind.i64.wrap (x2 + (1 : Int))) (En := fun x3 => [(1, .box 0 T_api_State p0), (3, .v 0 (.int .i64) x3)]) h (fun x3 h => ?_)
        refine W_keep (l := [(1, 0), (3, 0)]) (E' := [(1, .box 0 T_api_State p0), (3, .v 0 (.int .i64) x3)]) (by kernel_rfl) ?_
        exact W_abs h
      · intro j2
        refine W_block ?_
        refine W_seq ?_
        obtain ⟨o1, h⟩ := h.ass
        refine W_region mixed tys_ok (sup := []) (l := [(1, 0), (3, 0), (4, 9)]) (E' := [(1, .box 0 T_api_State p0), (3, .v 0 (.int .i64) x2), (4, .box 9 T_api_Lock (rd z_api_Lock p0.2.2.2.1 x2))]) (obs := [0 ≤ x2 ∧ x2 < (p0.2.2.2.1.length : Int)]) (by kernel_rfl) (o1) ?_
        refine W_gen (x := rd z_api_Lock p0.2.2.2.1 x2) (En := fun x4 => [(1, .box 0 T_api_State p0), (3, .v 0 (.int .i64) x2), (4, .box 9 T_api_Lock x4)]) h (fun x4 h => ?_)
        refine W_seq ?_
        refine W_seq ?_
        refine W_region mixed tys_ok (sup := []) (l := [(1, 0), (3, 0), (4, 9), (21, 0)]) (E' := [(1, .box 0 T_api_State p0), (3, .v 0 (.int .i64) x2), (4, .box 9 T_api_Lock x4), (21, .v 0 .bool (!x4.1))]) (obs := []) (by kernel_rfl) (trivial) ?_
        refine W_cond (β := !x4.1) (by kernel_rfl) (fun hb => ?_) (fun hb => ?_)
        · rw [cond_tt hb] at h
          refine W_seq ?_
          refine W_seq ?_
          refine W_region mixed tys_ok (sup := []) (l := [(1, 0), (3, 0), (24, 0)]) (E' := [(1, .box 0 T_api_State p0), (3, .v 0 (.int .i64) x2), (24, .v 0 .bool (x4.2 != (0 : Int)))]) (obs := []) (by kernel_rfl) (trivial) ?_
          refine W_cond (β := x4.2 != (0 : Int)) (by kernel_rfl) (fun hb => ?_) (fun hb => ?_)
          · rw [cond_tt hb] at h
            refine W_seq ?_
            refine W_region mixed tys_ok (sup := []) (l := [(2, 0)]) (E' := [(2, .v 0 .bool false)]) (obs := []) (by kernel_rfl) (trivial) ?_
            refine W_keep (l := [(2, 0)]) (E' := [(2, .v 0 .bool false)]) (by kernel_rfl) ?_
            replace h : false = r := h
            subst h
            exact W_ret tys_ok hw0 (by kernel_rfl) (by kernel_rfl)
          · rw [cond_ff hb] at h
            refine W_skip ?_
            refine W_exit rfl ?_
            refine W_keep (l := [(1, 0), (3, 0)]) (E' := [(1, .box 0 T_api_State p0), (3, .v 0 (.int .i64) x2)]) (by kernel_rfl) ?_
            exact j2 () h
        · rw [cond_ff hb] at h
          refine W_skip ?_
          refine W_seq ?_
          refine W_seq ?_
          obtain ⟨y5, ey5, h⟩ := h.bind
          refine W_region mixed tys_ok (sup := [.res [(0, ⟨0, .bool, y5⟩)]]) (l := [(1, 0), (3, 0), (4, 9), (34, 0)]) (E' := [(1, .box 0 T_api_State p0), (3, .v 0 (.int .i64) x2), (4, .box 9 T_api_Lock x4), (34, .v 0 .bool ((x4.2 != (-1 : Int)) && (!y5)))]) (obs := [(x4.2 != (-1 : Int)) = true → ACall prog 32 [⟨T_api_State, p0⟩, ⟨.int .i64, x4.2⟩] [⟨0, .bool, y5⟩]]) (by kernel_rfl) (fun hc => r14_Thread.ok (bif_some ey5 hc)) ?_
          refine W_cond (β := (x4.2 != (-1 : Int)) && (!y5)) (by kernel_rfl) (fun hb => ?_) (fun hb => ?_)
          · rw [cond_tt hb] at h
            refine W_seq ?_
            refine W_region mixed tys_ok (sup := []) (l := [(2, 0)]) (E' := [(2, .v 0 .bool false)]) (obs := []) (by kernel_rfl) (trivial) ?_
            refine W_keep (l := [(2, 0)]) (E' := [(2, .v 0 .bool false)]) (by kernel_rfl) ?_
            replace h : false = r := h
            subst h
            exact W_ret tys_ok hw0 (by kernel_rfl) (by kernel_rfl)
          · rw [cond_ff hb] at h
            refine W_skip ?_
            refine W_seq ?_
            refine W_region mixed tys_ok (sup := []) (l := [(1, 0), (3, 0), (4, 9), (5, 0)]) (E' := [(1, .box 0 T_api_State p0), (3, .v 0 (.int .i64) x2), (4, .box 9 T_api_Lock x4), (5, .v 0 (.int .i64) (0 : Int))]) (obs := []) (by kernel_rfl) (trivial) ?_
            refine W_join h (Ej := fun (x : Unit) => [(1, .box 0 T_api_State p0), (3, .v 0 (.int .i64) x2)]) (p := fun x => r14_locks_j3 x2) ?_ ?_
            · rintro ⟨⟩ h
              replace h : Leads _ (r14_locks_j3 x2) := h
              unfold r14_locks_j3 at h
              show W _ _ _ _ _ _ [(1, .box 0 T_api_State p0), (3, .v 0 (.int .i64) x2)]
              refine W_blk ?_
              refine W_keep (l := [(1, 0), (3, 0)]) (E' := [(1, .box 0 T_api_State p0), (3, .v 0 (.int .i64) x2)]) (by kernel_rfl) ?_
              exact j2 () h
            · intro j3
              refine W_block ?_
              refine W_keep (l := [(1, 0), (3, 0), (4, 9), (5, 0)]) (E' := [(1, .box 0 T_api_State p0), (3, .v 0 (.int .i64) x2), (4, .box 9 T_api_Lock x4), (5, .v 0 (.int .i64) (0 : Int))]) (by kernel_rfl) ?_
              refine W_loop' (En := fun (x : Int) => [(1, .box 0 T_api_State p0), (3, .v 0 (.int .i64) x2), (4, .box 9 T_api_Lock x4), (5, .v 0 (.int .i64) x)]) (x := (0 : Int)) h ?_
              rintro x6 K h
              replace h : Leads _ (r14_locks_b2 p0 x2 x4 x6) := h
              unfold r14_locks_b2 at h
              show W _ _ _ _ _ _ [(1, .box 0 T_api_State p0), (3, .v 0 (.int .i64) x2), (4, .box 9 T_api_Lock x4), (5, .v 0 (.int .i64) x6)]
              refine W_seq ?_
              refine W_seq ?_
              refine W_region mixed tys_ok (sup := []) (l := [(1, 0), (3, 0), (4, 9), (5, 0), (39, 0)]) (E' := [(1, .box 0 T_api_State p0), (3, .v 0 (.int .i64) x2), (4, .box 9 T_api_Lock x4), (5, .v 0 (.int .i64) x6), (39, .v 0 .bool (decide (x6 < (p0.2.2.1.length : Int))))]) (obs := []) (by kernel_rfl) (trivial) ?_
              refine W_cond (β := decide (x6 < (p0.2.2.1.length : Int))) (by kernel_rfl) (fun hb => ?_) (fun hb => ?_)
              · rw [cond_tt hb] at h
                refine W_skip ?_
                refine W_seq ?_
                refine W_block ?_
                refine W_seq ?_
                obtain ⟨y7, ey7, h⟩ := h.bind
                refine W_region mixed tys_ok (sup := [.res [(0, ⟨0, .bool, y7⟩)]]) (l := [(1, 0), (3, 0), (4, 9), (5, 0), (56, 0)]) (E' := [(1, .box 0 T_api_State p0), (3, .v 0 (.int .i64) x2), (4, .box 9 T_api_Lock x4), (5, .v 0 (.int .i64) x6), (56, .v 0 .bool (y7 && ((x4.2 == (-1 : Int)) || (x4.2 == x6))))]) (obs := [ACall prog 100 [⟨T_api_State, p0⟩, ⟨.int .i64, x6⟩, ⟨.int .i64, (6 : Int)⟩, ⟨.int .i64, x2⟩] [⟨0, .bool, y7⟩]]) (by kernel_rfl) (r14_Is.ok ey7) ?_
                refine W_cond (β := y7 && ((x4.2 == (-1 : Int)) || (x4.2 == x6))) (by kernel_rfl) (fun hb => ?_) (fun hb => ?_)
                · rw [cond_tt hb] at h
                  refine W_seq ?_
                  refine W_region mixed tys_ok (sup := []) (l := [(2, 0)]) (E' := [(2, .v 0 .bool false)]) (obs := []) (by kernel_rfl) (trivial) ?_
                  refine W_keep (l := [(2, 0)]) (E' := [(2, .v 0 .bool false)]) (by kernel_rfl) ?_
                  replace h : false = r := h
                  subst h
                  exact W_ret tys_ok hw0 (by kernel_rfl) (by kernel_rfl)
                · rw [cond_ff hb] at h
                  refine W_skip ?_
                  refine W_blk ?_
                  refine W_region mixed tys_ok (sup := []) (l := [(1, 0), (3, 0), (4, 9), (5, 0)]) (E' := [(1, .box 0 T_api_State p0), (3, .v 0 (.int .i64) x2), (4, .box 9 T_api_Lock x4), (5, .v 0 (.int .i64) (IntKind.i64.wrap (x6 + (1 : Int))))]) (obs := []) (by kernel_rfl) (trivial) ?_
                  refine W_gen (x := IntKind.i64.wrap (x6 + (1 : Int))) (En := fun x8 => [(1, .box 0 T_api_State p0), (3, .v 0 (.int .i64) x2), (4, .box 9 T_api_Lock x4), (5, .v 0 (.int .i64) x8)]) h (fun x8 h => ?_)
                  refine W_keep (l := [(1, 0), (3, 0), (4, 9), (5, 0)]) (E' := [(1, .box 0 T_api_State p0), (3, .v 0 (.int .i64) x2), (4, .box 9 T_api_Lock x4), (5, .v 0 (.int .i64) x8)]) (by kernel_rfl) ?_
                  exact W_abs h
              · rw [cond_ff hb] at h
                refine W_exit rfl ?_
                refine W_keep (l := [(1, 0), (3, 0)]) (E' := [(1, .box 0 T_api_State p0), (3, .v 0 (.int .i64) x2)]) (by kernel_rfl) ?_
                exact j3 () h.back
    · rw [cond_ff hb] at h
      refine W_exit rfl ?_
      refine W_keep (l := [(1, 0)]) (E' := [(1, .box 0 T_api_State p0)]) (by kernel_rfl) ?_
      exact j1 () h.back

noncomputable def r14_Queues (p0 : D_api_State) (p1 : Int) : Option Bool :=
  ass (0 ≤ p1 ∧ p1 < (p0.2.2.1.length : Int)) <|
  bnd (rd z_api_Thread p0.2.2.1 p1) fun x1 =>
  bif x1.1 == (4 : Int) then
    ass (0 ≤ x1.2.1 ∧ x1.2.1 < (p0.2.2.1.length : Int)) <|
    bnd ((rd z_api_Thread p0.2.2.1 x1.2.1).2.2.1 != p1) fun x2 =>
    some x2
  else
    bnd (x1.1 == (6 : Int)) fun x3 =>
    some x3
theorem r14_Queues.ok {p0 : D_api_State} {p1 : Int} {r : Bool} (h : r14_Queues p0 p1 = some r) : ACall prog 177 [⟨T_api_State, p0⟩, ⟨.int .i64, p1⟩] [⟨0, .bool, r⟩] := by
  replace h := Leads.of h
  unfold r14_Queues at h
  refine acall_of func177 (by kernel_rfl) rfl (by kernel_rfl) fun w0 F0 hw0 => ?_
  refine W_seq ?_
  refine W_region mixed tys_ok (sup := []) (l := [(1, 0), (2, 0)]) (E' := [(1, .v 0 (.int .i64) p1), (2, .box 0 T_api_State p0)]) (obs := []) (by kernel_rfl) (trivial) ?_
  refine W_seq ?_
  obtain ⟨o1, h⟩ := h.ass
  refine W_region mixed tys_ok (sup := []) (l := [(1, 0), (2, 0), (5, 9)]) (E' := [(1, .v 0 (.int .i64) p1), (2, .box 0 T_api_State p0), (5, .box 9 T_api_Thread (rd z_api_Thread p0.2.2.1 p1))]) (obs := [0 ≤ p1 ∧ p1 < (p0.2.2.1.length : Int)]) (by kernel_rfl) (o1) ?_
  refine W_gen (x := rd z_api_Thread p0.2.2.1 p1) (En := fun x1 => [(1, .v 0 (.int .i64) p1), (2, .box 0 T_api_State p0), (5, .box 9 T_api_Thread x1)]) h (fun x1 h => ?_)
  refine W_seq ?_
  refine W_seq ?_
  refine W_region mixed tys_ok (sup := []) (l := [(1, 0), (2, 0), (5, 9), (13, 0)]) (E' := [(1, .v 0 (.int .i64) p1), (2, .box 0 T_api_State p0), (5, .box 9 T_api_Thread x1), (13, .v 0 .bool (x1.1 == (4 : Int)))]) (obs := []) (by kernel_rfl) (trivial) ?_
  refine W_cond (β := x1.1 == (4 : Int)) (by kernel_rfl) (fun hb => ?_) (fun hb => ?_)
  · rw [cond_tt hb] at h
    refine W_seq ?_
    obtain ⟨o1, h⟩ := h.ass
    refine W_region mixed tys_ok (sup := []) (l := [(4, 0)]) (E' := [(4, .v 0 .bool ((rd z_api_Thread p0.2.2.1 x1.2.1).2.2.1 != p1))]) (obs := [0 ≤ x1.2.1 ∧ x1.2.1 < (p0.2.2.1.length : Int)]) (by kernel_rfl) (o1) ?_
    refine W_gen (x := (rd z_api_Thread p0.2.2.1 x1.2.1).2.2.1 != p1) (En := fun x2 => [(4, .v 0 .bool x2)]) h (fun x2 h => ?_)
    refine W_keep (l := [(4, 0)]) (E' := [(4, .v 0 .bool x2)]) (by kernel_rfl) ?_
    replace h : x2 = r := h
    subst h
    exact W_ret tys_ok hw0 (by kernel_rfl) (by kernel_rfl)
  · rw [cond_ff hb] at h
    refine W_skip ?_
    refine W_seq ?_
    refine W_region mixed tys_ok (sup := []) (l := [(4, 0)]) (E' := [(4, .v 0 .bool (x1.1 == (6 : Int)))]) (obs := []) (by kernel_rfl) (trivial) ?_
    refine W_gen (x := x1.1 == (6 : Int)) (En := fun x3 => [(4, .v 0 .bool x3)]) h (fun x3 h => ?_)
    refine W_keep (l := [(4, 0)]) (E' := [(4, .v 0 .bool x3)]) (by kernel_rfl) ?_
    replace h : x3 = r := h
    subst h
    exact W_ret tys_ok hw0 (by kernel_rfl) (by kernel_rfl)

noncomputable def r14_queue_j2 : Option (Bool) :=
  some true
noncomputable def r14_queue_b1 (p0 : D_api_State) (x1 : Int) : Option (Int ⊕ Bool) :=
  bif decide (x1 < (p0.2.2.2.2.1.length : Int)) then
    ass (0 ≤ x1 ∧ x1 < (p0.2.2.2.2.1.length : Int)) <|
    ass ((!(decide ((rd (0 : Int) p0.2.2.2.2.1 x1) < (0 : Int)))) = true → 0 ≤ x1 ∧ x1 < (p0.2.2.2.2.1.length : Int)) <|
    bif (decide ((rd (0 : Int) p0.2.2.2.2.1 x1) < (0 : Int))) || (decide ((rd (0 : Int) p0.2.2.2.2.1 x1) ≥ (p0.2.2.1.length : Int))) then
      some (.inr false)
    else
      bnd (IntKind.i64.wrap (x1 + (1 : Int))) fun x2 =>
      some (.inl x2)
  else
    (r14_queue_j2).map .inr
noncomputable def r14_queue_j1 (p0 : D_api_State) : Option (Bool) :=
  loopM (fun x : Int => r14_queue_b1 p0 x) (0 : Int)
noncomputable def r14_queue_j3 (x3 : Int) : Option (Int ⊕ Bool) :=
  bnd (IntKind.i64.wrap (x3 + (1 : Int))) fun x4 =>
  some (.inl x4)
noncomputable def r14_queue_j4 (p0 : D_api_State) (x3 : Int) (x5 : Int) : Option (Int ⊕ Bool) :=
  (r14_Queues p0 x3).bind fun y6 =>
  bif (y6 != (x5 == (1 : Int))) || (decide (x5 > (1 : Int))) then
    some (.inr false)
  else
    ass ((x5 == (1 : Int)) = true → 0 ≤ x3 ∧ x3 < (p0.2.2.1.length : Int)) <|
    ass (((x5 == (1 : Int)) && ((rd z_api_Thread p0.2.2.1 x3).1 == (4 : Int))) = true → 0 ≤ x3 ∧ x3 < (p0.2.2.1.length : Int)) <|
    ass (((x5 == (1 : Int)) && ((rd z_api_Thread p0.2.2.1 x3).1 == (4 : Int))) = true → 0 ≤ (rd z_api_Thread p0.2.2.1 x3).2.1 ∧ (rd z_api_Thread p0.2.2.1 x3).2.1 < (p0.2.2.1.length : Int)) <|
    bif ((x5 == (1 : Int)) && ((rd z_api_Thread p0.2.2.1 x3).1 == (4 : Int))) && ((rd z_api_Thread p0.2.2.1 (rd z_api_Thread p0.2.2.1 x3).2.1).1 == (5 : Int)) then
      some (.inr false)
    else
      r14_queue_j3 x3
noncomputable def r14_queue_j5 (x8 : Int) (x9 : Int) : Option ((Int × Int) ⊕ (Int ⊕ Bool)) :=
  bnd (IntKind.i64.wrap (x8 + (1 : Int))) fun x10 =>
  some (.inl (x9, x10))
noncomputable def r14_queue_b3 (p0 : D_api_State) (x3 : Int) (x7 : Int) (x8 : Int) : Option ((Int × Int) ⊕ (Int ⊕ Bool)) :=
  bif decide (x8 < (p0.2.2.2.2.1.length : Int)) then
    ass (0 ≤ x8 ∧ x8 < (p0.2.2.2.2.1.length : Int)) <|
    bif (rd (0 : Int) p0.2.2.2.2.1 x8) == x3 then
      bnd (IntKind.i64.wrap (x7 + (1 : Int))) fun x11 =>
      r14_queue_j5 x8 x11
    else
      r14_queue_j5 x8 x7
  else
    (r14_queue_j4 p0 x3 x7).map .inr
noncomputable def r14_queue_b2 (p0 : D_api_State) (x3 : Int) : Option (Int ⊕ Bool) :=
  bif decide (x3 < (p0.2.2.1.length : Int)) then
    loopM (fun x : Int × Int => r14_queue_b3 p0 x3 x.1 x.2) ((0 : Int), (0 : Int))
  else
    (r14_queue_j1 p0).map .inr
noncomputable def r14_queue (p0 : D_api_State) : Option Bool :=
  loopM (fun x : Int => r14_queue_b2 p0 x) (0 : Int)
theorem r14_queue.ok {p0 : D_api_State} {r : Bool} (h : r14_queue p0 = some r) : ACall prog 82 [⟨T_api_State, p0⟩] [⟨0, .bool, r⟩] := by
  replace h := Leads.of h
  unfold r14_queue at h
  refine acall_of func82 (by kernel_rfl) rfl (by kernel_rfl) fun w0 F0 hw0 => ?_
  refine W_seq ?_
  refine W_region mixed tys_ok (sup := []) (l := [(1, 0)]) (E' := [(1, .box 0 T_api_State p0)]) (obs := []) (by kernel_rfl) (trivial) ?_
  refine W_seq ?_
  refine W_seq ?_
  refine W_region mixed tys_ok (sup := []) (l := [(1, 0), (3, 0)]) (E' := [(1, .box 0 T_api_State p0), (3, .v 0 (.int .i64) (0 : Int))]) (obs := []) (by kernel_rfl) (trivial) ?_
  refine W_join h (Ej := fun (x : Unit) => [(1, .box 0 T_api_State p0)]) (p := fun x => r14_queue_j1 p0) ?_ ?_
  · rintro ⟨⟩ h
    replace h : Leads _ (r14_queue_j1 p0) := h
    unfold r14_queue_j1 at h
    show W _ _ _ _ _ _ [(1, .box 0 T_api_State p0)]
    refine W_seq ?_
    refine W_seq ?_
    refine W_region mixed tys_ok (sup := []) (l := [(1, 0), (6, 0)]) (E' := [(1, .box 0 T_api_State p0), (6, .v 0 (.int .i64) (0 : Int))]) (obs := []) (by kernel_rfl) (trivial) ?_
    refine W_join h (Ej := fun (x : Unit) => []) (p := fun x => r14_queue_j2) ?_ ?_
    · rintro ⟨⟩ h
      replace h : Leads _ (r14_queue_j2) := h
      unfold r14_queue_j2 at h
      show W _ _ _ _ _ _ []
      refine W_seq ?_
      refine W_region mixed tys_ok (sup := []) (l := [(2, 0)]) (E' := [(2, .v 0 .bool true)]) (obs := []) (by kernel_rfl) (trivial) ?_
      refine W_keep (l := [(2, 0)]) (E' := [(2, .v 0 .bool true)]) (by kernel_rfl) ?_
      replace h : true = r := h
      subst h
      exact W_ret tys_ok hw0 (by kernel_rfl) (by kernel_rfl)
    · intro j2
      refine W_block ?_
      refine W_keep (l := [(1, 0), (6, 0)]) (E' := [(1, .box 0 T_api_State p0), (6, .v 0 (.int .i64) (0 : Int))]) (by kernel_rfl) ?_
      refine W_loop' (En := fun (x : Int) => [(1, .box 0 T_api_State p0), (6, .v 0 (.int .i64) x)]) (x := (0 : Int)) h ?_
      rintro x1 K h
      replace h : Leads _ (r14_queue_b1 p0 x1) := h
      unfold r14_queue_b1 at h
      show W _ _ _ _ _ _ [(1, .box 0 T_api_State p0), (6, .v 0 (.int .i64) x1)]
      refine W_seq ?_
      refine W_seq ?_
      refine W_region mixed tys_ok (sup := []) (l := [(1, 0), (6, 0), (69, 0)]) (E' := [(1, .box 0 T_api_State p0), (6, .v 0 (.int .i64) x1), (69, .v 0 .bool (decide (x1 < (p0.2.2.2.2.1.length : Int))))]) (obs := []) (by kernel_rfl) (trivial) ?_
      refine W_cond (β := decide (x1 < (p0.2.2.2.2.1.length : Int))) (by kernel_rfl) (fun hb => ?_) (fun hb => ?_)
      · rw [cond_tt hb] at h
        refine W_skip ?_
        refine W_seq ?_
        refine W_block ?_
        refine W_seq ?_
        obtain ⟨o1, h⟩ := h.ass
        obtain ⟨o2, h⟩ := h.ass
        refine W_region mixed tys_ok (sup := []) (l := [(1, 0), (6, 0), (88, 0)]) (E' := [(1, .box 0 T_api_State p0), (6, .v 0 (.int .i64) x1), (88, .v 0 .bool ((decide ((rd (0 : Int) p0.2.2.2.2.1 x1) < (0 : Int))) || (decide ((rd (0 : Int) p0.2.2.2.2.1 x1) ≥ (p0.2.2.1.length : Int)))))]) (obs := [0 ≤ x1 ∧ x1 < (p0.2.2.2.2.1.length : Int), (!(decide ((rd (0 : Int) p0.2.2.2.2.1 x1) < (0 : Int)))) = true → 0 ≤ x1 ∧ x1 < (p0.2.2.2.2.1.length : Int)]) (by kernel_rfl) (⟨o1, o2⟩) ?_
        refine W_cond (β := (decide ((rd (0 : Int) p0.2.2.2.2.1 x1) < (0 : Int))) || (decide ((rd (0 : Int) p0.2.2.2.2.1 x1) ≥ (p0.2.2.1.length : Int)))) (by kernel_rfl) (fun hb => ?_) (fun hb => ?_)
        · rw [cond_tt hb] at h
          refine W_seq ?_
          refine W_region mixed tys_ok (sup := []) (l := [(2, 0)]) (E' := [(2, .v 0 .bool false)]) (obs := []) (by kernel_rfl) (trivial) ?_
          refine W_keep (l := [(2, 0)]) (E' := [(2, .v 0 .bool false)]) (by kernel_rfl) ?_
          replace h : false = r := h
          subst h
          exact W_ret tys_ok hw0 (by kernel_rfl) (by kernel_rfl)
        · rw [cond_ff hb] at h
          refine W_skip ?_
          refine W_blk ?_
          refine W_region mixed tys_ok (sup := []) (l := [(1, 0), (6, 0)]) (E' := [(1, .box 0 T_api_State p0), (6, .v 0 (.int .i64) (IntKind.i64.wrap (x1 + (1 : Int))))]) (obs := []) (by kernel_rfl) (trivial) ?_
          refine W_gen (x := IntKind.i64.wrap (x1 + (1 : Int))) (En := fun x2 => [(1, .box 0 T_api_State p0), (6, .v 0 (.int .i64) x2)]) h (fun x2 h => ?_)
          refine W_keep (l := [(1, 0), (6, 0)]) (E' := [(1, .box 0 T_api_State p0), (6, .v 0 (.int .i64) x2)]) (by kernel_rfl) ?_
          exact W_abs h
      · rw [cond_ff hb] at h
        refine W_exit rfl ?_
        refine W_keep (l := []) (E' := []) (by kernel_rfl) ?_
        exact j2 () h.back
  · intro j1
    refine W_block ?_
    refine W_keep (l := [(1, 0), (3, 0)]) (E' := [(1, .box 0 T_api_State p0), (3, .v 0 (.int .i64) (0 : Int))]) (by kernel_rfl) ?_
    refine W_loop' (En := fun (x : Int) => [(1, .box 0 T_api_State p0), (3, .v 0 (.int .i64) x)]) (x := (0 : Int)) h ?_
    rintro x3 K h
    replace h : Leads _ (r14_queue_b2 p0 x3) := h
    unfold r14_queue_b2 at h
    show W _ _ _ _ _ _ [(1, .box 0 T_api_State p0), (3, .v 0 (.int .i64) x3)]
    refine W_seq ?_
    refine W_seq ?_
    refine W_region mixed tys_ok (sup := []) (l := [(1, 0), (3, 0), (11, 0)]) (E' := [(1, .box 0 T_api_State p0), (3, .v 0 (.int .i64) x3), (11, .v 0 .bool (decide (x3 < (p0.2.2.1.length : Int))))]) (obs := []) (by kernel_rfl) (trivial) ?_
    refine W_cond (β := decide (x3 < (p0.2.2.1.length : Int))) (by kernel_rfl) (fun hb => ?_) (fun hb => ?_)
    · rw [cond_tt hb] at h
      refine W_skip ?_
      refine W_seq ?_
      refine W_join h (Ej := fun (x : Unit) => [(1, .box 0 T_api_State p0), (3, .v 0 (.int .i64) x3)]) (p := fun x => r14_queue_j3 x3) ?_ ?_
      · rintro ⟨⟩ h
        replace h : Leads _ (r14_queue_j3 x3) := h
        unfold r14_queue_j3 at h
        show W _ _ _ _ _ _ [(1, .box 0 T_api_State p0), (3, .v 0 (.int .i64) x3)]
        refine W_region mixed tys_ok (sup := []) (l := [(1, 0), (3, 0)]) (E' := [(1, .box 0 T_api_State p0), (3, .v 0 (.int .i64) (IntKind.i64.wrap (x3 + (1 : Int))))]) (obs := []) (by kernel_rfl) (trivial) ?_
        refine W_gen (x := IntKind.i64.wrap (x3 + (1 : Int))) (En := fun x4 => [(1, .box 0 T_api_State p0), (3, .v 0 (.int .i64) x4)]) h (fun x4 h => ?_)
        refine W_keep (l := [(1, 0), (3, 0)]) (E' := [(1, .box 0 T_api_State p0), (3, .v 0 (.int .i64) x4)]) (by kernel_rfl) ?_
        exact W_abs h
      · intro j3
        refine W_block ?_
        refine W_seq ?_
        refine W_region mixed tys_ok (sup := []) (l := [(1, 0), (3, 0), (4, 0)]) (E' := [(1, .box 0 T_api_State p0), (3, .v 0 (.int .i64) x3), (4, .v 0 (.int .i64) (0 : Int))]) (obs := []) (by kernel_rfl) (trivial) ?_
        refine W_seq ?_
        refine W_seq ?_
        refine W_region mixed tys_ok (sup := []) (l := [(1, 0), (3, 0), (4, 0), (5, 0)]) (E' := [(1, .box 0 T_api_State p0), (3, .v 0 (.int .i64) x3), (4, .v 0 (.int .i64) (0 : Int)), (5, .v 0 (.int .i64) (0 : Int))]) (obs := []) (by kernel_rfl) (trivial) ?_
        refine W_join h (Ej := fun (x : Int) => [(1, .box 0 T_api_State p0), (3, .v 0 (.int .i64) x3), (4, .v 0 (.int .i64) x)]) (p := fun x => r14_queue_j4 p0 x3 x) ?_ ?_
        · rintro x5 h
          replace h : Leads _ (r14_queue_j4 p0 x3 x5) := h
          unfold r14_queue_j4 at h
          show W _ _ _ _ _ _ [(1, .box 0 T_api_State p0), (3, .v 0 (.int .i64) x3), (4, .v 0 (.int .i64) x5)]
          refine W_seq ?_
          refine W_seq ?_
          obtain ⟨y6, ey6, h⟩ := h.bind
          refine W_region mixed tys_ok (sup := [.res [(0, ⟨0, .bool, y6⟩)]]) (l := [(1, 0), (3, 0), (4, 0), (39, 0)]) (E' := [(1, .box 0 T_api_State p0), (3, .v 0 (.int .i64) x3), (4, .v 0 (.int .i64) x5), (39, .v 0 .bool ((y6 != (x5 == (1 : Int))) || (decide (x5 > (1 : Int)))))]) (obs := [ACall prog 177 [⟨T_api_State, p0⟩, ⟨.int .i64, x3⟩] [⟨0, .bool, y6⟩]]) (by kernel_rfl) (r14_Queues.ok ey6) ?_
          refine W_cond (β := (y6 != (x5 == (1 : Int))) || (decide (x5 > (1 : Int)))) (by kernel_rfl) (fun hb => ?_) (fun hb => ?_)
          · rw [cond_tt hb] at h
            refine W_seq ?_
            refine W_region mixed tys_ok (sup := []) (l := [(2, 0)]) (E' := [(2, .v 0 .bool false)]) (obs := []) (by kernel_rfl) (trivial) ?_
            refine W_keep (l := [(2, 0)]) (E' := [(2, .v 0 .bool false)]) (by kernel_rfl) ?_
            replace h : false = r := h
            subst h
            exact W_ret tys_ok hw0 (by kernel_rfl) (by kernel_rfl)
          · rw [cond_ff hb] at h
            refine W_skip ?_
            refine W_seq ?_
            obtain ⟨o1, h⟩ := h.ass
            obtain ⟨o2, h⟩ := h.ass
            obtain ⟨o3, h⟩ := h.ass
            refine W_region mixed tys_ok (sup := []) (l := [(1, 0), (3, 0), (64, 0)]) (E' := [(1, .box 0 T_api_State p0), (3, .v 0 (.int .i64) x3), (64, .v 0 .bool (((x5 == (1 : Int)) && ((rd z_api_Thread p0.2.2.1 x3).1 == (4 : Int))) && ((rd z_api_Thread p0.2.2.1 (rd z_api_Thread p0.2.2.1 x3).2.1).1 == (5 : Int))))]) (obs := [(x5 == (1 : Int)) = true → 0 ≤ x3 ∧ x3 < (p0.2.2.1.length : Int), ((x5 == (1 : Int)) && ((rd z_api_Thread p0.2.2.1 x3).1 == (4 : Int))) = true → 0 ≤ x3 ∧ x3 < (p0.2.2.1.length : Int), ((x5 == (1 : Int)) && ((rd z_api_Thread p0.2.2.1 x3).1 == (4 : Int))) = true → 0 ≤ (rd z_api_Thread p0.2.2.1 x3).2.1 ∧ (rd z_api_Thread p0.2.2.1 x3).2.1 < (p0.2.2.1.length : Int)]) (by kernel_rfl) (⟨o1, o2, o3⟩) ?_
            refine W_cond (β := ((x5 == (1 : Int)) && ((rd z_api_Thread p0.2.2.1 x3).1 == (4 : Int))) && ((rd z_api_Thread p0.2.2.1 (rd z_api_Thread p0.2.2.1 x3).2.1).1 == (5 : Int))) (by kernel_rfl) (fun hb => ?_) (fun hb => ?_)
            · rw [cond_tt hb] at h
              refine W_seq ?_
              refine W_region mixed tys_ok (sup := []) (l := [(2, 0)]) (E' := [(2, .v 0 .bool false)]) (obs := []) (by kernel_rfl) (trivial) ?_
              refine W_keep (l := [(2, 0)]) (E' := [(2, .v 0 .bool false)]) (by kernel_rfl) ?_
              replace h : false = r := h
              subst h
              exact W_ret tys_ok hw0 (by kernel_rfl) (by kernel_rfl)
            · rw [cond_ff hb] at h
              refine W_skip ?_
              refine W_blk ?_
              refine W_keep (l := [(1, 0), (3, 0)]) (E' := [(1, .box 0 T_api_State p0), (3, .v 0 (.int .i64) x3)]) (by kernel_rfl) ?_
              exact j3 () h
        · intro j4
          refine W_block ?_
          refine W_keep (l := [(1, 0), (3, 0), (4, 0), (5, 0)]) (E' := [(1, .box 0 T_api_State p0), (3, .v 0 (.int .i64) x3), (4, .v 0 (.int .i64) (0 : Int)), (5, .v 0 (.int .i64) (0 : Int))]) (by kernel_rfl) ?_
          refine W_loop' (En := fun (x : Int × Int) => [(1, .box 0 T_api_State p0), (3, .v 0 (.int .i64) x3), (4, .v 0 (.int .i64) x.1), (5, .v 0 (.int .i64) x.2)]) (x := ((0 : Int), (0 : Int))) h ?_
          rintro ⟨x7, x8⟩ K h
          replace h : Leads _ (r14_queue_b3 p0 x3 x7 x8) := h
          unfold r14_queue_b3 at h
          show W _ _ _ _ _ _ [(1, .box 0 T_api_State p0), (3, .v 0 (.int .i64) x3), (4, .v 0 (.int .i64) x7), (5, .v 0 (.int .i64) x8)]
          refine W_seq ?_
          refine W_seq ?_
          refine W_region mixed tys_ok (sup := []) (l := [(1, 0), (3, 0), (4, 0), (5, 0), (18, 0)]) (E' := [(1, .box 0 T_api_State p0), (3, .v 0 (.int .i64) x3), (4, .v 0 (.int .i64) x7), (5, .v 0 (.int .i64) x8), (18, .v 0 .bool (decide (x8 < (p0.2.2.2.2.1.length : Int))))]) (obs := []) (by kernel_rfl) (trivial) ?_
          refine W_cond (β := decide (x8 < (p0.2.2.2.2.1.length : Int))) (by kernel_rfl) (fun hb => ?_) (fun hb => ?_)
          · rw [cond_tt hb] at h
            refine W_skip ?_
            refine W_seq ?_
            refine W_block ?_
            refine W_seq ?_
            obtain ⟨o1, h⟩ := h.ass
            refine W_region mixed tys_ok (sup := []) (l := [(1, 0), (3, 0), (4, 0), (5, 0), (27, 0)]) (E' := [(1, .box 0 T_api_State p0), (3, .v 0 (.int .i64) x3), (4, .v 0 (.int .i64) x7), (5, .v 0 (.int .i64) x8), (27, .v 0 .bool ((rd (0 : Int) p0.2.2.2.2.1 x8) == x3))]) (obs := [0 ≤ x8 ∧ x8 < (p0.2.2.2.2.1.length : Int)]) (by kernel_rfl) (o1) ?_
            refine W_join h (Ej := fun (x : Int) => [(1, .box 0 T_api_State p0), (3, .v 0 (.int .i64) x3), (4, .v 0 (.int .i64) x), (5, .v 0 (.int .i64) x8)]) (p := fun x => r14_queue_j5 x8 x) ?_ ?_
            · rintro x9 h
              replace h : Leads _ (r14_queue_j5 x8 x9) := h
              unfold r14_queue_j5 at h
              show W _ _ _ _ _ _ [(1, .box 0 T_api_State p0), (3, .v 0 (.int .i64) x3), (4, .v 0 (.int .i64) x9), (5, .v 0 (.int .i64) x8)]
              refine W_blk ?_
              refine W_region mixed tys_ok (sup := []) (l := [(1, 0), (3, 0), (4, 0), (5, 0)]) (E' := [(1, .box 0 T_api_State p0), (3, .v 0 (.int .i64) x3), (4, .v 0 (.int .i64) x9), (5, .v 0 (.int .i64) (IntKind.i64.wrap (x8 + (1 : Int))))]) (obs := []) (by kernel_rfl) (trivial) ?_
              refine W_gen (x := IntKind.i64.wrap (x8 + (1 : Int))) (En := fun x10 => [(1, .box 0 T_api_State p0), (3, .v 0 (.int .i64) x3), (4, .v 0 (.int .i64) x9), (5, .v 0 (.int .i64) x10)]) h (fun x10 h => ?_)
              refine W_keep (l := [(1, 0), (3, 0), (4, 0), (5, 0)]) (E' := [(1, .box 0 T_api_State p0), (3, .v 0 (.int .i64) x3), (4, .v 0 (.int .i64) x9), (5, .v 0 (.int .i64) x10)]) (by kernel_rfl) ?_
              exact W_abs h
            · intro j5
              refine W_cond (β := (rd (0 : Int) p0.2.2.2.2.1 x8) == x3) (by kernel_rfl) (fun hb => ?_) (fun hb => ?_)
              · rw [cond_tt hb] at h
                refine W_region mixed tys_ok (sup := []) (l := [(1, 0), (3, 0), (4, 0), (5, 0)]) (E' := [(1, .box 0 T_api_State p0), (3, .v 0 (.int .i64) x3), (4, .v 0 (.int .i64) (IntKind.i64.wrap (x7 + (1 : Int)))), (5, .v 0 (.int .i64) x8)]) (obs := []) (by kernel_rfl) (trivial) ?_
                refine W_gen (x := IntKind.i64.wrap (x7 + (1 : Int))) (En := fun x11 => [(1, .box 0 T_api_State p0), (3, .v 0 (.int .i64) x3), (4, .v 0 (.int .i64) x11), (5, .v 0 (.int .i64) x8)]) h (fun x11 h => ?_)
                refine W_keep (l := [(1, 0), (3, 0), (4, 0), (5, 0)]) (E' := [(1, .box 0 T_api_State p0), (3, .v 0 (.int .i64) x3), (4, .v 0 (.int .i64) x11), (5, .v 0 (.int .i64) x8)]) (by kernel_rfl) ?_
                exact j5 x11 h
              · rw [cond_ff hb] at h
                refine W_skip ?_
                refine W_keep (l := [(1, 0), (3, 0), (4, 0), (5, 0)]) (E' := [(1, .box 0 T_api_State p0), (3, .v 0 (.int .i64) x3), (4, .v 0 (.int .i64) x7), (5, .v 0 (.int .i64) x8)]) (by kernel_rfl) ?_
                exact j5 x7 h
          · rw [cond_ff hb] at h
            refine W_exit rfl ?_
            refine W_keep (l := [(1, 0), (3, 0), (4, 0)]) (E' := [(1, .box 0 T_api_State p0), (3, .v 0 (.int .i64) x3), (4, .v 0 (.int .i64) x7)]) (by kernel_rfl) ?_
            exact j4 x7 h.back
    · rw [cond_ff hb] at h
      refine W_exit rfl ?_
      refine W_keep (l := [(1, 0)]) (E' := [(1, .box 0 T_api_State p0)]) (by kernel_rfl) ?_
      exact j1 () h.back

noncomputable def r14_CoinArrows_j1 (x1 : List D_r13_Arrow) : Option (List D_r13_Arrow) :=
  some x1
noncomputable def r14_CoinArrows_j2 (x3 : Int) (x5 : List D_r13_Arrow) : Option (((List D_r13_Arrow) × Int) ⊕ (List D_r13_Arrow)) :=
  bnd (IntKind.i64.wrap (x3 + (1 : Int))) fun x6 =>
  some (.inl (x5, x6))
noncomputable def r14_CoinArrows_b1 (p0 : D_api_State) (x2 : List D_r13_Arrow) (x3 : Int) : Option (((List D_r13_Arrow) × Int) ⊕ (List D_r13_Arrow)) :=
  bif decide (x3 < (p0.2.1.length : Int)) then
    ass (0 ≤ x3 ∧ x3 < (p0.2.1.length : Int)) <|
    bnd (rd z_api_Ticket p0.2.1 x3) fun x4 =>
    bif x4.1 && (x4.2.2.2.1 == (2 : Int)) then
      ass (((x2.length + [(x4.2.1, x4.2.2.2.2.1)].length : Nat) : Int) ≤ limA) <|
      bnd (x2 ++ [(x4.2.1, x4.2.2.2.2.1)]) fun x7 =>
      r14_CoinArrows_j2 x3 x7
    else
      r14_CoinArrows_j2 x3 x2
  else
    (r14_CoinArrows_j1 x2).map .inr
noncomputable def r14_CoinArrows (p0 : D_api_State) : Option (List D_r13_Arrow) :=
  loopM (fun x : (List D_r13_Arrow) × Int => r14_CoinArrows_b1 p0 x.1 x.2) (([] : List D_r13_Arrow), (0 : Int))
theorem r14_CoinArrows.ok {p0 : D_api_State} {r : List D_r13_Arrow} (h : r14_CoinArrows p0 = some r) : ACall prog 49 [⟨T_api_State, p0⟩] [⟨9, .slice T_r13_Arrow, r⟩] := by
  replace h := Leads.of h
  unfold r14_CoinArrows at h
  refine acall_of func49 (by kernel_rfl) rfl (by kernel_rfl) fun w0 F0 hw0 => ?_
  refine W_seq ?_
  refine W_region mixed tys_ok (sup := []) (l := [(1, 0)]) (E' := [(1, .box 0 T_api_State p0)]) (obs := []) (by kernel_rfl) (trivial) ?_
  refine W_seq ?_
  refine W_region mixed tys_ok (sup := []) (l := [(1, 0), (3, 9)]) (E' := [(1, .box 0 T_api_State p0), (3, .v 9 (.slice T_r13_Arrow) ([] : List D_r13_Arrow))]) (obs := []) (by kernel_rfl) (trivial) ?_
  refine W_seq ?_
  refine W_seq ?_
  refine W_region mixed tys_ok (sup := []) (l := [(1, 0), (3, 9), (4, 0)]) (E' := [(1, .box 0 T_api_State p0), (3, .v 9 (.slice T_r13_Arrow) ([] : List D_r13_Arrow)), (4, .v 0 (.int .i64) (0 : Int))]) (obs := []) (by kernel_rfl) (trivial) ?_
  refine W_join h (Ej := fun (x : List D_r13_Arrow) => [(3, .v 9 (.slice T_r13_Arrow) x)]) (p := fun x => r14_CoinArrows_j1 x) ?_ ?_
  · rintro x1 h
    replace h : Leads _ (r14_CoinArrows_j1 x1) := h
    unfold r14_CoinArrows_j1 at h
    show W _ _ _ _ _ _ [(3, .v 9 (.slice T_r13_Arrow) x1)]
    refine W_seq ?_
    refine W_region mixed tys_ok (sup := []) (l := [(2, 9)]) (E' := [(2, .v 9 (.slice T_r13_Arrow) x1)]) (obs := []) (by kernel_rfl) (trivial) ?_
    refine W_keep (l := [(2, 9)]) (E' := [(2, .v 9 (.slice T_r13_Arrow) x1)]) (by kernel_rfl) ?_
    replace h : x1 = r := h
    subst h
    exact W_ret tys_ok hw0 (by kernel_rfl) (by kernel_rfl)
  · intro j1
    refine W_block ?_
    refine W_keep (l := [(1, 0), (3, 9), (4, 0)]) (E' := [(1, .box 0 T_api_State p0), (3, .v 9 (.slice T_r13_Arrow) ([] : List D_r13_Arrow)), (4, .v 0 (.int .i64) (0 : Int))]) (by kernel_rfl) ?_
    refine W_loop' (En := fun (x : (List D_r13_Arrow) × Int) => [(1, .box 0 T_api_State p0), (3, .v 9 (.slice T_r13_Arrow) x.1), (4, .v 0 (.int .i64) x.2)]) (x := (([] : List D_r13_Arrow), (0 : Int))) h ?_
    rintro ⟨x2, x3⟩ K h
    replace h : Leads _ (r14_CoinArrows_b1 p0 x2 x3) := h
    unfold r14_CoinArrows_b1 at h
    show W _ _ _ _ _ _ [(1, .box 0 T_api_State p0), (3, .v 9 (.slice T_r13_Arrow) x2), (4, .v 0 (.int .i64) x3)]
    refine W_seq ?_
    refine W_seq ?_
    refine W_region mixed tys_ok (sup := []) (l := [(1, 0), (3, 9), (4, 0), (10, 0)]) (E' := [(1, .box 0 T_api_State p0), (3, .v 9 (.slice T_r13_Arrow) x2), (4, .v 0 (.int .i64) x3), (10, .v 0 .bool (decide (x3 < (p0.2.1.length : Int))))]) (obs := []) (by kernel_rfl) (trivial) ?_
    refine W_cond (β := decide (x3 < (p0.2.1.length : Int))) (by kernel_rfl) (fun hb => ?_) (fun hb => ?_)
    · rw [cond_tt hb] at h
      refine W_skip ?_
      refine W_seq ?_
      refine W_block ?_
      refine W_seq ?_
      obtain ⟨o1, h⟩ := h.ass
      refine W_region mixed tys_ok (sup := []) (l := [(1, 0), (3, 9), (4, 0), (5, 9)]) (E' := [(1, .box 0 T_api_State p0), (3, .v 9 (.slice T_r13_Arrow) x2), (4, .v 0 (.int .i64) x3), (5, .box 9 T_api_Ticket (rd z_api_Ticket p0.2.1 x3))]) (obs := [0 ≤ x3 ∧ x3 < (p0.2.1.length : Int)]) (by kernel_rfl) (o1) ?_
      refine W_gen (x := rd z_api_Ticket p0.2.1 x3) (En := fun x4 => [(1, .box 0 T_api_State p0), (3, .v 9 (.slice T_r13_Arrow) x2), (4, .v 0 (.int .i64) x3), (5, .box 9 T_api_Ticket x4)]) h (fun x4 h => ?_)
      refine W_seq ?_
      refine W_region mixed tys_ok (sup := []) (l := [(1, 0), (3, 9), (4, 0), (5, 9), (24, 0)]) (E' := [(1, .box 0 T_api_State p0), (3, .v 9 (.slice T_r13_Arrow) x2), (4, .v 0 (.int .i64) x3), (5, .box 9 T_api_Ticket x4), (24, .v 0 .bool (x4.1 && (x4.2.2.2.1 == (2 : Int))))]) (obs := []) (by kernel_rfl) (trivial) ?_
      refine W_join h (Ej := fun (x : List D_r13_Arrow) => [(1, .box 0 T_api_State p0), (3, .v 9 (.slice T_r13_Arrow) x), (4, .v 0 (.int .i64) x3)]) (p := fun x => r14_CoinArrows_j2 x3 x) ?_ ?_
      · rintro x5 h
        replace h : Leads _ (r14_CoinArrows_j2 x3 x5) := h
        unfold r14_CoinArrows_j2 at h
        show W _ _ _ _ _ _ [(1, .box 0 T_api_State p0), (3, .v 9 (.slice T_r13_Arrow) x5), (4, .v 0 (.int .i64) x3)]
        refine W_blk ?_
        refine W_region mixed tys_ok (sup := []) (l := [(1, 0), (3, 9), (4, 0)]) (E' := [(1, .box 0 T_api_State p0), (3, .v 9 (.slice T_r13_Arrow) x5), (4, .v 0 (.int .i64) (IntKind.i64.wrap (x3 + (1 : Int))))]) (obs := []) (by kernel_rfl) (trivial) ?_
        refine W_gen (x := IntKind.i64.wrap (x3 + (1 : Int))) (En := fun x6 => [(1, .box 0 T_api_State p0), (3, .v 9 (.slice T_r13_Arrow) x5), (4, .v 0 (.int .i64) x6)]) h (fun x6 h => ?_)
        refine W_keep (l := [(1, 0), (3, 9), (4, 0)]) (E' := [(1, .box 0 T_api_State p0), (3, .v 9 (.slice T_r13_Arrow) x5), (4, .v 0 (.int .i64) x6)]) (by kernel_rfl) ?_
        exact W_abs h
      · intro j2
        refine W_cond (β := x4.1 && (x4.2.2.2.1 == (2 : Int))) (by kernel_rfl) (fun hb => ?_) (fun hb => ?_)
        · rw [cond_tt hb] at h
          obtain ⟨o1, h⟩ := h.ass
          refine W_region mixed tys_ok (sup := []) (l := [(1, 0), (3, 9), (4, 0)]) (E' := [(1, .box 0 T_api_State p0), (3, .v 9 (.slice T_r13_Arrow) (x2 ++ [(x4.2.1, x4.2.2.2.2.1)])), (4, .v 0 (.int .i64) x3)]) (obs := [((x2.length + [(x4.2.1, x4.2.2.2.2.1)].length : Nat) : Int) ≤ limA]) (by kernel_rfl) (o1) ?_
          refine W_gen (x := x2 ++ [(x4.2.1, x4.2.2.2.2.1)]) (En := fun x7 => [(1, .box 0 T_api_State p0), (3, .v 9 (.slice T_r13_Arrow) x7), (4, .v 0 (.int .i64) x3)]) h (fun x7 h => ?_)
          refine W_keep (l := [(1, 0), (3, 9), (4, 0)]) (E' := [(1, .box 0 T_api_State p0), (3, .v 9 (.slice T_r13_Arrow) x7), (4, .v 0 (.int .i64) x3)]) (by kernel_rfl) ?_
          exact j2 x7 h
        · rw [cond_ff hb] at h
          refine W_skip ?_
          refine W_keep (l := [(1, 0), (3, 9), (4, 0)]) (E' := [(1, .box 0 T_api_State p0), (3, .v 9 (.slice T_r13_Arrow) x2), (4, .v 0 (.int .i64) x3)]) (by kernel_rfl) ?_
          exact j2 x2 h
    · rw [cond_ff hb] at h
      refine W_exit rfl ?_
      refine W_keep (l := [(3, 9)]) (E' := [(3, .v 9 (.slice T_r13_Arrow) x2)]) (by kernel_rfl) ?_
      exact j1 x2 h.back

noncomputable def r13_Reach_j1 (x2 : List Bool) : Option (List Bool) :=
  some x2
noncomputable def r13_Reach_j2 (x7 : Int) (x8 : List Bool) (x9 : Bool) : Option (((List Bool) × Bool × Int) ⊕ (((List Bool) × Bool) ⊕ (List Bool))) :=
  bnd (IntKind.i64.wrap (x7 + (1 : Int))) fun x10 =>
  some (.inl (x8, x9, x10))
noncomputable def r13_Reach_j3 (x7 : Int) (x12 : List Bool) (x13 : Bool) : Option (((List Bool) × Bool × Int) ⊕ (((List Bool) × Bool) ⊕ (List Bool))) :=
  r13_Reach_j2 x7 x12 x13
noncomputable def r13_Reach_b2 (p0 : Int) (p1 : List D_r13_Arrow) (p2 : Int) (x5 : List Bool) (x6 : Bool) (x7 : Int) : Option (((List Bool) × Bool × Int) ⊕ (((List Bool) × Bool) ⊕ (List Bool))) :=
  bif decide (x7 < (p1.length : Int)) then
    ass (0 ≤ x7 ∧ x7 < (p1.length : Int)) <|
    bnd (rd z_r13_Arrow p1 x7) fun x11 =>
    ass ((!((((decide (x11.1 < (0 : Int))) || (decide (x11.1 ≥ p0))) || (decide (x11.2 < (0 : Int)))) || (decide (x11.2 ≥ p0)))) = true → 0 ≤ x11.2 ∧ x11.2 < (x5.length : Int)) <|
    bif ((((decide (x11.1 < (0 : Int))) || (decide (x11.1 ≥ p0))) || (decide (x11.2 < (0 : Int)))) || (decide (x11.2 ≥ p0))) || (rd false x5 x11.2) then
      r13_Reach_j2 x7 x5 x6
    else
      ass ((!(x11.1 == p2)) = true → 0 ≤ x11.1 ∧ x11.1 < (x5.length : Int)) <|
      bif (x11.1 == p2) || (rd false x5 x11.1) then
        ass (0 ≤ x11.2 ∧ x11.2 < (x5.length : Int)) <|
        bnd (wr x5 x11.2 true) fun x14 =>
        r13_Reach_j3 x7 x14 true
      else
        r13_Reach_j3 x7 x5 x6
  else
    some (.inr (.inl (x5, x6)))
noncomputable def r13_Reach_b1 (p0 : Int) (p1 : List D_r13_Arrow) (p2 : Int) (x3 : List Bool) (x4 : Bool) : Option (((List Bool) × Bool) ⊕ (List Bool)) :=
  bif x4 then
    loopM (fun x : (List Bool) × Bool × Int => r13_Reach_b2 p0 p1 p2 x.1 x.2.1 x.2.2) (x3, false, (0 : Int))
  else
    (r13_Reach_j1 x3).map .inr
noncomputable def r13_Reach (p0 : Int) (p1 : List D_r13_Arrow) (p2 : Int) : Option (List Bool) :=
  ass (0 ≤ p0 ∧ p0 ≤ p0 ∧ p0 ≤ lim) <|
  bnd (List.replicate p0.toNat false) fun x1 =>
  loopM (fun x : (List Bool) × Bool => r13_Reach_b1 p0 p1 p2 x.1 x.2) (x1, true)
theorem r13_Reach.ok {p0 : Int} {p1 : List D_r13_Arrow} {p2 : Int} {r : List Bool} (h : r13_Reach p0 p1 p2 = some r) : ACall prog 178 [⟨.int .i64, p0⟩, ⟨.slice T_r13_Arrow, p1⟩, ⟨.int .i64, p2⟩] [⟨9, .slice .bool, r⟩] := by
  replace h := Leads.of h
  unfold r13_Reach at h
  refine acall_of func178 (by kernel_rfl) rfl (by kernel_rfl) fun w0 F0 hw0 => ?_
  refine W_seq ?_
  refine W_region mixed tys_ok (sup := []) (l := [(0, 0), (1, 0), (2, 0)]) (E' := [(0, .v 0 (.int .i64) p0), (1, .v 0 (.slice T_r13_Arrow) p1), (2, .v 0 (.int .i64) p2)]) (obs := []) (by kernel_rfl) (trivial) ?_
  refine W_seq ?_
  obtain ⟨o1, h⟩ := h.ass
  refine W_region mixed tys_ok (sup := []) (l := [(0, 0), (1, 0), (2, 0), (7, 9)]) (E' := [(0, .v 0 (.int .i64) p0), (1, .v 0 (.slice T_r13_Arrow) p1), (2, .v 0 (.int .i64) p2), (7, .v 9 (.slice .bool) (List.replicate p0.toNat false))]) (obs := [0 ≤ p0 ∧ p0 ≤ p0 ∧ p0 ≤ lim]) (by kernel_rfl) (o1) ?_
  refine W_gen (x := List.replicate p0.toNat false) (En := fun x1 => [(0, .v 0 (.int .i64) p0), (1, .v 0 (.slice T_r13_Arrow) p1), (2, .v 0 (.int .i64) p2), (7, .v 9 (.slice .bool) x1)]) h (fun x1 h => ?_)
  refine W_seq ?_
  refine W_region mixed tys_ok (sup := []) (l := [(0, 0), (1, 0), (2, 0), (7, 9), (8, 0)]) (E' := [(0, .v 0 (.int .i64) p0), (1, .v 0 (.slice T_r13_Arrow) p1), (2, .v 0 (.int .i64) p2), (7, .v 9 (.slice .bool) x1), (8, .v 0 .bool true)]) (obs := []) (by kernel_rfl) (trivial) ?_
  refine W_seq ?_
  refine W_join h (Ej := fun (x : List Bool) => [(7, .v 9 (.slice .bool) x)]) (p := fun x => r13_Reach_j1 x) ?_ ?_
  · rintro x2 h
    replace h : Leads _ (r13_Reach_j1 x2) := h
    unfold r13_Reach_j1 at h
    show W _ _ _ _ _ _ [(7, .v 9 (.slice .bool) x2)]
    refine W_seq ?_
    refine W_region mixed tys_ok (sup := []) (l := [(6, 9)]) (E' := [(6, .v 9 (.slice .bool) x2)]) (obs := []) (by kernel_rfl) (trivial) ?_
    refine W_keep (l := [(6, 9)]) (E' := [(6, .v 9 (.slice .bool) x2)]) (by kernel_rfl) ?_
    replace h : x2 = r := h
    subst h
    exact W_ret tys_ok hw0 (by kernel_rfl) (by kernel_rfl)
  · intro j1
    refine W_block ?_
    refine W_keep (l := [(0, 0), (1, 0), (2, 0), (7, 9), (8, 0)]) (E' := [(0, .v 0 (.int .i64) p0), (1, .v 0 (.slice T_r13_Arrow) p1), (2, .v 0 (.int .i64) p2), (7, .v 9 (.slice .bool) x1), (8, .v 0 .bool true)]) (by kernel_rfl) ?_
    refine W_loop' (En := fun (x : (List Bool) × Bool) => [(0, .v 0 (.int .i64) p0), (1, .v 0 (.slice T_r13_Arrow) p1), (2, .v 0 (.int .i64) p2), (7, .v 9 (.slice .bool) x.1), (8, .v 0 .bool x.2)]) (x := (x1, true)) h ?_
    rintro ⟨x3, x4⟩ K h
    replace h : Leads _ (r13_Reach_b1 p0 p1 p2 x3 x4) := h
    unfold r13_Reach_b1 at h
    show W _ _ _ _ _ _ [(0, .v 0 (.int .i64) p0), (1, .v 0 (.slice T_r13_Arrow) p1), (2, .v 0 (.int .i64) p2), (7, .v 9 (.slice .bool) x3), (8, .v 0 .bool x4)]
    refine W_seq ?_
    refine W_seq ?_
    refine W_region mixed tys_ok (sup := []) (l := [(0, 0), (1, 0), (2, 0), (7, 9), (13, 0)]) (E' := [(0, .v 0 (.int .i64) p0), (1, .v 0 (.slice T_r13_Arrow) p1), (2, .v 0 (.int .i64) p2), (7, .v 9 (.slice .bool) x3), (13, .v 0 .bool x4)]) (obs := []) (by kernel_rfl) (trivial) ?_
    refine W_cond (β := x4) (by kernel_rfl) (fun hb => ?_) (fun hb => ?_)
    · rw [cond_tt hb] at h
      refine W_skip ?_
      refine W_block ?_
      refine W_seq ?_
      refine W_region mixed tys_ok (sup := []) (l := [(0, 0), (1, 0), (2, 0), (7, 9), (8, 0)]) (E' := [(0, .v 0 (.int .i64) p0), (1, .v 0 (.slice T_r13_Arrow) p1), (2, .v 0 (.int .i64) p2), (7, .v 9 (.slice .bool) x3), (8, .v 0 .bool false)]) (obs := []) (by kernel_rfl) (trivial) ?_
      refine W_seq ?_
      refine W_region mixed tys_ok (sup := []) (l := [(0, 0), (1, 0), (2, 0), (7, 9), (8, 0), (9, 0)]) (E' := [(0, .v 0 (.int .i64) p0), (1, .v 0 (.slice T_r13_Arrow) p1), (2, .v 0 (.int .i64) p2), (7, .v 9 (.slice .bool) x3), (8, .v 0 .bool false), (9, .v 0 (.int .i64) (0 : Int))]) (obs := []) (by kernel_rfl) (trivial) ?_
      refine W_block ?_
      refine W_keep (l := [(0, 0), (1, 0), (2, 0), (7, 9), (8, 0), (9, 0)]) (E' := [(0, .v 0 (.int .i64) p0), (1, .v 0 (.slice T_r13_Arrow) p1), (2, .v 0 (.int .i64) p2), (7, .v 9 (.slice .bool) x3), (8, .v 0 .bool false), (9, .v 0 (.int .i64) (0 : Int))]) (by kernel_rfl) ?_
      refine W_loop' (En := fun (x : (List Bool) × Bool × Int) => [(0, .v 0 (.int .i64) p0), (1, .v 0 (.slice T_r13_Arrow) p1), (2, .v 0 (.int .i64) p2), (7, .v 9 (.slice .bool) x.1), (8, .v 0 .bool x.2.1), (9, .v 0 (.int .i64) x.2.2)]) (x := (x3, false, (0 : Int))) h ?_
      rintro ⟨x5, x6, x7⟩ K h
      replace h : Leads _ (r13_Reach_b2 p0 p1 p2 x5 x6 x7) := h
      unfold r13_Reach_b2 at h
      show W _ _ _ _ _ _ [(0, .v 0 (.int .i64) p0), (1, .v 0 (.slice T_r13_Arrow) p1), (2, .v 0 (.int .i64) p2), (7, .v 9 (.slice .bool) x5), (8, .v 0 .bool x6), (9, .v 0 (.int .i64) x7)]
      refine W_seq ?_
      refine W_seq ?_
      refine W_region mixed tys_ok (sup := []) (l := [(0, 0), (1, 0), (2, 0), (7, 9), (8, 0), (9, 0), (17, 0)]) (E' := [(0, .v 0 (.int .i64) p0), (1, .v 0 (.slice T_r13_Arrow) p1), (2, .v 0 (.int .i64) p2), (7, .v 9 (.slice .bool) x5), (8, .v 0 .bool x6), (9, .v 0 (.int .i64) x7), (17, .v 0 .bool (decide (x7 < (p1.length : Int))))]) (obs := []) (by kernel_rfl) (trivial) ?_
      refine W_cond (β := decide (x7 < (p1.length : Int))) (by kernel_rfl) (fun hb => ?_) (fun hb => ?_)
      · rw [cond_tt hb] at h
        refine W_skip ?_
        refine W_seq ?_
        refine W_join h (Ej := fun (x : (List Bool) × Bool) => [(0, .v 0 (.int .i64) p0), (1, .v 0 (.slice T_r13_Arrow) p1), (2, .v 0 (.int .i64) p2), (7, .v 9 (.slice .bool) x.1), (8, .v 0 .bool x.2), (9, .v 0 (.int .i64) x7)]) (p := fun x => r13_Reach_j2 x7 x.1 x.2) ?_ ?_
        · rintro ⟨x8, x9⟩ h
          replace h : Leads _ (r13_Reach_j2 x7 x8 x9) := h
          unfold r13_Reach_j2 at h
          show W _ _ _ _ _ _ [(0, .v 0 (.int .i64) p0), (1, .v 0 (.slice T_r13_Arrow) p1), (2, .v 0 (.int .i64) p2), (7, .v 9 (.slice .bool) x8), (8, .v 0 .bool x9), (9, .v 0 (.int .i64) x7)]
          refine W_region mixed tys_ok (sup := []) (l := [(0, 0), (1, 0), (2, 0), (7, 9), (8, 0), (9, 0)]) (E' := [(0, .v 0 (.int .i64) p0), (1, .v 0 (.slice T_r13_Arrow) p1), (2, .v 0 (.int .i64) p2), (7, .v 9 (.slice .bool) x8), (8, .v 0 .bool x9), (9, .v 0 (.int .i64) (IntKind.i64.wrap (x7 + (1 : Int))))]) (obs := []) (by kernel_rfl) (trivial) ?_
          refine W_gen (x := IntKind.i64.wrap (x7 + (1 : Int))) (En := fun x10 => [(0, .v 0 (.int .i64) p0), (1, .v 0 (.slice T_r13_Arrow) p1), (2, .v 0 (.int .i64) p2), (7, .v 9 (.slice .bool) x8), (8, .v 0 .bool x9), (9, .v 0 (.int .i64) x10)]) h (fun x10 h => ?_)
          refine W_keep (l := [(0, 0), (1, 0), (2, 0), (7, 9), (8, 0), (9, 0)]) (E' := [(0, .v 0 (.int .i64) p0), (1, .v 0 (.slice T_r13_Arrow) p1), (2, .v 0 (.int .i64) p2), (7, .v 9 (.slice .bool) x8), (8, .v 0 .bool x9), (9, .v 0 (.int .i64) x10)]) (by kernel_rfl) ?_
          exact W_abs h
        · intro j2
          refine W_block ?_
          refine W_seq ?_
          obtain ⟨o1, h⟩ := h.ass
          refine W_region mixed tys_ok (sup := []) (l := [(0, 0), (1, 0), (2, 0), (7, 9), (8, 0), (9, 0), (10, 9)]) (E' := [(0, .v 0 (.int .i64) p0), (1, .v 0 (.slice T_r13_Arrow) p1), (2, .v 0 (.int .i64) p2), (7, .v 9 (.slice .bool) x5), (8, .v 0 .bool x6), (9, .v 0 (.int .i64) x7), (10, .box 9 T_r13_Arrow (rd z_r13_Arrow p1 x7))]) (obs := [0 ≤ x7 ∧ x7 < (p1.length : Int)]) (by kernel_rfl) (o1) ?_
          refine W_gen (x := rd z_r13_Arrow p1 x7) (En := fun x11 => [(0, .v 0 (.int .i64) p0), (1, .v 0 (.slice T_r13_Arrow) p1), (2, .v 0 (.int .i64) p2), (7, .v 9 (.slice .bool) x5), (8, .v 0 .bool x6), (9, .v 0 (.int .i64) x7), (10, .box 9 T_r13_Arrow x11)]) h (fun x11 h => ?_)
          refine W_seq ?_
          refine W_seq ?_
          obtain ⟨o1, h⟩ := h.ass
          refine W_region mixed tys_ok (sup := []) (l := [(0, 0), (1, 0), (2, 0), (7, 9), (8, 0), (9, 0), (10, 9), (50, 0)]) (E' := [(0, .v 0 (.int .i64) p0), (1, .v 0 (.slice T_r13_Arrow) p1), (2, .v 0 (.int .i64) p2), (7, .v 9 (.slice .bool) x5), (8, .v 0 .bool x6), (9, .v 0 (.int .i64) x7), (10, .box 9 T_r13_Arrow x11), (50, .v 0 .bool (((((decide (x11.1 < (0 : Int))) || (decide (x11.1 ≥ p0))) || (decide (x11.2 < (0 : Int)))) || (decide (x11.2 ≥ p0))) || (rd false x5 x11.2)))]) (obs := [(!((((decide (x11.1 < (0 : Int))) || (decide (x11.1 ≥ p0))) || (decide (x11.2 < (0 : Int)))) || (decide (x11.2 ≥ p0)))) = true → 0 ≤ x11.2 ∧ x11.2 < (x5.length : Int)]) (by kernel_rfl) (o1) ?_
          refine W_cond (β := ((((decide (x11.1 < (0 : Int))) || (decide (x11.1 ≥ p0))) || (decide (x11.2 < (0 : Int)))) || (decide (x11.2 ≥ p0))) || (rd false x5 x11.2)) (by kernel_rfl) (fun hb => ?_) (fun hb => ?_)
          · rw [cond_tt hb] at h
            refine W_exit rfl ?_
            refine W_keep (l := [(0, 0), (1, 0), (2, 0), (7, 9), (8, 0), (9, 0)]) (E' := [(0, .v 0 (.int .i64) p0), (1, .v 0 (.slice T_r13_Arrow) p1), (2, .v 0 (.int .i64) p2), (7, .v 9 (.slice .bool) x5), (8, .v 0 .bool x6), (9, .v 0 (.int .i64) x7)]) (by kernel_rfl) ?_
            exact j2 (x5, x6) h
          · rw [cond_ff hb] at h
            refine W_skip ?_
            refine W_seq ?_
            obtain ⟨o1, h⟩ := h.ass
            refine W_region mixed tys_ok (sup := []) (l := [(0, 0), (1, 0), (2, 0), (7, 9), (8, 0), (9, 0), (10, 9), (61, 0)]) (E' := [(0, .v 0 (.int .i64) p0), (1, .v 0 (.slice T_r13_Arrow) p1), (2, .v 0 (.int .i64) p2), (7, .v 9 (.slice .bool) x5), (8, .v 0 .bool x6), (9, .v 0 (.int .i64) x7), (10, .box 9 T_r13_Arrow x11), (61, .v 0 .bool ((x11.1 == p2) || (rd false x5 x11.1)))]) (obs := [(!(x11.1 == p2)) = true → 0 ≤ x11.1 ∧ x11.1 < (x5.length : Int)]) (by kernel_rfl) (o1) ?_
            refine W_join h (Ej := fun (x : (List Bool) × Bool) => [(0, .v 0 (.int .i64) p0), (1, .v 0 (.slice T_r13_Arrow) p1), (2, .v 0 (.int .i64) p2), (7, .v 9 (.slice .bool) x.1), (8, .v 0 .bool x.2), (9, .v 0 (.int .i64) x7)]) (p := fun x => r13_Reach_j3 x7 x.1 x.2) ?_ ?_
            · rintro ⟨x12, x13⟩ h
              replace h : Leads _ (r13_Reach_j3 x7 x12 x13) := h
              unfold r13_Reach_j3 at h
              show W _ _ _ _ _ _ [(0, .v 0 (.int .i64) p0), (1, .v 0 (.slice T_r13_Arrow) p1), (2, .v 0 (.int .i64) p2), (7, .v 9 (.slice .bool) x12), (8, .v 0 .bool x13), (9, .v 0 (.int .i64) x7)]
              refine W_blk ?_
              refine W_keep (l := [(0, 0), (1, 0), (2, 0), (7, 9), (8, 0), (9, 0)]) (E' := [(0, .v 0 (.int .i64) p0), (1, .v 0 (.slice T_r13_Arrow) p1), (2, .v 0 (.int .i64) p2), (7, .v 9 (.slice .bool) x12), (8, .v 0 .bool x13), (9, .v 0 (.int .i64) x7)]) (by kernel_rfl) ?_
              exact j2 (x12, x13) h
            · intro j3
              refine W_cond (β := (x11.1 == p2) || (rd false x5 x11.1)) (by kernel_rfl) (fun hb => ?_) (fun hb => ?_)
              · rw [cond_tt hb] at h
                refine W_seq ?_
                obtain ⟨o1, h⟩ := h.ass
                refine W_region mixed tys_ok (sup := []) (l := [(0, 0), (1, 0), (2, 0), (7, 9), (9, 0)]) (E' := [(0, .v 0 (.int .i64) p0), (1, .v 0 (.slice T_r13_Arrow) p1), (2, .v 0 (.int .i64) p2), (7, .v 9 (.slice .bool) (wr x5 x11.2 true)), (9, .v 0 (.int .i64) x7)]) (obs := [0 ≤ x11.2 ∧ x11.2 < (x5.length : Int)]) (by kernel_rfl) (o1) ?_
                refine W_gen (x := wr x5 x11.2 true) (En := fun x14 => [(0, .v 0 (.int .i64) p0), (1, .v 0 (.slice T_r13_Arrow) p1), (2, .v 0 (.int .i64) p2), (7, .v 9 (.slice .bool) x14), (9, .v 0 (.int .i64) x7)]) h (fun x14 h => ?_)
                refine W_region mixed tys_ok (sup := []) (l := [(0, 0), (1, 0), (2, 0), (7, 9), (8, 0), (9, 0)]) (E' := [(0, .v 0 (.int .i64) p0), (1, .v 0 (.slice T_r13_Arrow) p1), (2, .v 0 (.int .i64) p2), (7, .v 9 (.slice .bool) x14), (8, .v 0 .bool true), (9, .v 0 (.int .i64) x7)]) (obs := []) (by kernel_rfl) (trivial) ?_
                refine W_keep (l := [(0, 0), (1, 0), (2, 0), (7, 9), (8, 0), (9, 0)]) (E' := [(0, .v 0 (.int .i64) p0), (1, .v 0 (.slice T_r13_Arrow) p1), (2, .v 0 (.int .i64) p2), (7, .v 9 (.slice .bool) x14), (8, .v 0 .bool true), (9, .v 0 (.int .i64) x7)]) (by kernel_rfl) ?_
                exact j3 (x14, true) h
              · rw [cond_ff hb] at h
                refine W_skip ?_
                refine W_keep (l := [(0, 0), (1, 0), (2, 0), (7, 9), (8, 0), (9, 0)]) (E' := [(0, .v 0 (.int .i64) p0), (1, .v 0 (.slice T_r13_Arrow) p1), (2, .v 0 (.int .i64) p2), (7, .v 9 (.slice .bool) x5), (8, .v 0 .bool x6), (9, .v 0 (.int .i64) x7)]) (by kernel_rfl) ?_
                exact j3 (x5, x6) h
      · rw [cond_ff hb] at h
        refine W_exit rfl ?_
        refine W_blk ?_
        refine W_keep (l := [(0, 0), (1, 0), (2, 0), (7, 9), (8, 0)]) (E' := [(0, .v 0 (.int .i64) p0), (1, .v 0 (.slice T_r13_Arrow) p1), (2, .v 0 (.int .i64) p2), (7, .v 9 (.slice .bool) x5), (8, .v 0 .bool x6)]) (by kernel_rfl) ?_
        exact W_abs h
    · rw [cond_ff hb] at h
      refine W_exit rfl ?_
      refine W_keep (l := [(7, 9)]) (E' := [(7, .v 9 (.slice .bool) x3)]) (by kernel_rfl) ?_
      exact j1 x3 h.back

noncomputable def r13_Ring_j1 : Option (Bool) :=
  some false
noncomputable def r13_Ring_b1 (p0 : Int) (p1 : List D_r13_Arrow) (x1 : Int) : Option (Int ⊕ Bool) :=
  bif decide (x1 < p0) then
    (r13_Reach p0 p1 x1).bind fun y2 =>
    ass (0 ≤ x1 ∧ x1 < (y2.length : Int)) <|
    bif rd false y2 x1 then
      some (.inr true)
    else
      bnd (IntKind.i64.wrap (x1 + (1 : Int))) fun x3 =>
      some (.inl x3)
  else
    (r13_Ring_j1).map .inr
noncomputable def r13_Ring (p0 : Int) (p1 : List D_r13_Arrow) : Option Bool :=
  loopM (fun x : Int => r13_Ring_b1 p0 p1 x) (0 : Int)
theorem r13_Ring.ok {p0 : Int} {p1 : List D_r13_Arrow} {r : Bool} (h : r13_Ring p0 p1 = some r) : ACall prog 83 [⟨.int .i64, p0⟩, ⟨.slice T_r13_Arrow, p1⟩] [⟨0, .bool, r⟩] := by
  replace h := Leads.of h
  unfold r13_Ring at h
  refine acall_of func83 (by kernel_rfl) rfl (by kernel_rfl) fun w0 F0 hw0 => ?_
  refine W_seq ?_
  refine W_region mixed tys_ok (sup := []) (l := [(0, 0), (1, 0)]) (E' := [(0, .v 0 (.int .i64) p0), (1, .v 0 (.slice T_r13_Arrow) p1)]) (obs := []) (by kernel_rfl) (trivial) ?_
  refine W_seq ?_
  refine W_seq ?_
  refine W_region mixed tys_ok (sup := []) (l := [(0, 0), (1, 0), (5, 0)]) (E' := [(0, .v 0 (.int .i64) p0), (1, .v 0 (.slice T_r13_Arrow) p1), (5, .v 0 (.int .i64) (0 : Int))]) (obs := []) (by kernel_rfl) (trivial) ?_
  refine W_join h (Ej := fun (x : Unit) => []) (p := fun x => r13_Ring_j1) ?_ ?_
  · rintro ⟨⟩ h
    replace h : Leads _ (r13_Ring_j1) := h
    unfold r13_Ring_j1 at h
    show W _ _ _ _ _ _ []
    refine W_seq ?_
    refine W_region mixed tys_ok (sup := []) (l := [(4, 0)]) (E' := [(4, .v 0 .bool false)]) (obs := []) (by kernel_rfl) (trivial) ?_
    refine W_keep (l := [(4, 0)]) (E' := [(4, .v 0 .bool false)]) (by kernel_rfl) ?_
    replace h : false = r := h
    subst h
    exact W_ret tys_ok hw0 (by kernel_rfl) (by kernel_rfl)
  · intro j1
    refine W_block ?_
    refine W_keep (l := [(0, 0), (1, 0), (5, 0)]) (E' := [(0, .v 0 (.int .i64) p0), (1, .v 0 (.slice T_r13_Arrow) p1), (5, .v 0 (.int .i64) (0 : Int))]) (by kernel_rfl) ?_
    refine W_loop' (En := fun (x : Int) => [(0, .v 0 (.int .i64) p0), (1, .v 0 (.slice T_r13_Arrow) p1), (5, .v 0 (.int .i64) x)]) (x := (0 : Int)) h ?_
    rintro x1 K h
    replace h : Leads _ (r13_Ring_b1 p0 p1 x1) := h
    unfold r13_Ring_b1 at h
    show W _ _ _ _ _ _ [(0, .v 0 (.int .i64) p0), (1, .v 0 (.slice T_r13_Arrow) p1), (5, .v 0 (.int .i64) x1)]
    refine W_seq ?_
    refine W_seq ?_
    refine W_region mixed tys_ok (sup := []) (l := [(0, 0), (1, 0), (5, 0), (8, 0)]) (E' := [(0, .v 0 (.int .i64) p0), (1, .v 0 (.slice T_r13_Arrow) p1), (5, .v 0 (.int .i64) x1), (8, .v 0 .bool (decide (x1 < p0)))]) (obs := []) (by kernel_rfl) (trivial) ?_
    refine W_cond (β := decide (x1 < p0)) (by kernel_rfl) (fun hb => ?_) (fun hb => ?_)
    · rw [cond_tt hb] at h
      refine W_skip ?_
      refine W_seq ?_
      refine W_block ?_
      refine W_seq ?_
      obtain ⟨y2, ey2, h⟩ := h.bind
      obtain ⟨o1, h⟩ := h.ass
      refine W_region mixed tys_ok (sup := [.res [(9, ⟨9, .slice .bool, y2⟩)]]) (l := [(0, 0), (1, 0), (5, 0), (17, 0)]) (E' := [(0, .v 0 (.int .i64) p0), (1, .v 0 (.slice T_r13_Arrow) p1), (5, .v 0 (.int .i64) x1), (17, .v 0 .bool (rd false y2 x1))]) (obs := [ACall prog 178 [⟨.int .i64, p0⟩, ⟨.slice T_r13_Arrow, p1⟩, ⟨.int .i64, x1⟩] [⟨9, .slice .bool, y2⟩], 0 ≤ x1 ∧ x1 < (y2.length : Int)]) (by kernel_rfl) (⟨r13_Reach.ok ey2, o1⟩) ?_
      refine W_cond (β := rd false y2 x1) (by kernel_rfl) (fun hb => ?_) (fun hb => ?_)
      · rw [cond_tt hb] at h
        refine W_seq ?_
        refine W_region mixed tys_ok (sup := []) (l := [(4, 0)]) (E' := [(4, .v 0 .bool true)]) (obs := []) (by kernel_rfl) (trivial) ?_
        refine W_keep (l := [(4, 0)]) (E' := [(4, .v 0 .bool true)]) (by kernel_rfl) ?_
        replace h : true = r := h
        subst h
        exact W_ret tys_ok hw0 (by kernel_rfl) (by kernel_rfl)
      · rw [cond_ff hb] at h
        refine W_skip ?_
        refine W_blk ?_
        refine W_region mixed tys_ok (sup := []) (l := [(0, 0), (1, 0), (5, 0)]) (E' := [(0, .v 0 (.int .i64) p0), (1, .v 0 (.slice T_r13_Arrow) p1), (5, .v 0 (.int .i64) (IntKind.i64.wrap (x1 + (1 : Int))))]) (obs := []) (by kernel_rfl) (trivial) ?_
        refine W_gen (x := IntKind.i64.wrap (x1 + (1 : Int))) (En := fun x3 => [(0, .v 0 (.int .i64) p0), (1, .v 0 (.slice T_r13_Arrow) p1), (5, .v 0 (.int .i64) x3)]) h (fun x3 h => ?_)
        refine W_keep (l := [(0, 0), (1, 0), (5, 0)]) (E' := [(0, .v 0 (.int .i64) p0), (1, .v 0 (.slice T_r13_Arrow) p1), (5, .v 0 (.int .i64) x3)]) (by kernel_rfl) ?_
        exact W_abs h
    · rw [cond_ff hb] at h
      refine W_exit rfl ?_
      refine W_keep (l := []) (E' := []) (by kernel_rfl) ?_
      exact j1 () h.back

noncomputable def r14_ThreadArrows_j1 (x1 : List D_r13_Arrow) : Option (List D_r13_Arrow) :=
  some x1
noncomputable def r14_ThreadArrows_j3 (x3 : Int) (x6 : List D_r13_Arrow) : Option (((List D_r13_Arrow) × Int) ⊕ (List D_r13_Arrow)) :=
  bnd (IntKind.i64.wrap (x3 + (1 : Int))) fun x7 =>
  some (.inl (x6, x7))
noncomputable def r14_ThreadArrows_j2 (p0 : D_api_State) (x3 : Int) (x4 : D_api_Thread) (x5 : List D_r13_Arrow) : Option (((List D_r13_Arrow) × Int) ⊕ (List D_r13_Arrow)) :=
  bif x4.1 == (6 : Int) then
    ass (0 ≤ x4.2.1 ∧ x4.2.1 < (p0.2.2.2.1.length : Int)) <|
    ass (((x5.length + [(x3, (rd z_api_Lock p0.2.2.2.1 x4.2.1).2)].length : Nat) : Int) ≤ limA) <|
    bnd (x5 ++ [(x3, (rd z_api_Lock p0.2.2.2.1 x4.2.1).2)]) fun x8 =>
    r14_ThreadArrows_j3 x3 x8
  else
    r14_ThreadArrows_j3 x3 x5
noncomputable def r14_ThreadArrows_b1 (p0 : D_api_State) (x2 : List D_r13_Arrow) (x3 : Int) : Option (((List D_r13_Arrow) × Int) ⊕ (List D_r13_Arrow)) :=
  bif decide (x3 < (p0.2.2.1.length : Int)) then
    ass (0 ≤ x3 ∧ x3 < (p0.2.2.1.length : Int)) <|
    bnd (rd z_api_Thread p0.2.2.1 x3) fun x4 =>
    bif x4.1 == (4 : Int) then
      ass (((x2.length + [(x3, x4.2.1)].length : Nat) : Int) ≤ limA) <|
      bnd (x2 ++ [(x3, x4.2.1)]) fun x9 =>
      r14_ThreadArrows_j2 p0 x3 x4 x9
    else
      r14_ThreadArrows_j2 p0 x3 x4 x2
  else
    (r14_ThreadArrows_j1 x2).map .inr
noncomputable def r14_ThreadArrows (p0 : D_api_State) : Option (List D_r13_Arrow) :=
  loopM (fun x : (List D_r13_Arrow) × Int => r14_ThreadArrows_b1 p0 x.1 x.2) (([] : List D_r13_Arrow), (0 : Int))
theorem r14_ThreadArrows.ok {p0 : D_api_State} {r : List D_r13_Arrow} (h : r14_ThreadArrows p0 = some r) : ACall prog 51 [⟨T_api_State, p0⟩] [⟨9, .slice T_r13_Arrow, r⟩] := by
  replace h := Leads.of h
  unfold r14_ThreadArrows at h
  refine acall_of func51 (by kernel_rfl) rfl (by kernel_rfl) fun w0 F0 hw0 => ?_
  refine W_seq ?_
  refine W_region mixed tys_ok (sup := []) (l := [(1, 0)]) (E' := [(1, .box 0 T_api_State p0)]) (obs := []) (by kernel_rfl) (trivial) ?_
  refine W_seq ?_
  refine W_region mixed tys_ok (sup := []) (l := [(1, 0), (3, 9)]) (E' := [(1, .box 0 T_api_State p0), (3, .v 9 (.slice T_r13_Arrow) ([] : List D_r13_Arrow))]) (obs := []) (by kernel_rfl) (trivial) ?_
  refine W_seq ?_
  refine W_seq ?_
  refine W_region mixed tys_ok (sup := []) (l := [(1, 0), (3, 9), (4, 0)]) (E' := [(1, .box 0 T_api_State p0), (3, .v 9 (.slice T_r13_Arrow) ([] : List D_r13_Arrow)), (4, .v 0 (.int .i64) (0 : Int))]) (obs := []) (by kernel_rfl) (trivial) ?_
  refine W_join h (Ej := fun (x : List D_r13_Arrow) => [(3, .v 9 (.slice T_r13_Arrow) x)]) (p := fun x => r14_ThreadArrows_j1 x) ?_ ?_
  · rintro x1 h
    replace h : Leads _ (r14_ThreadArrows_j1 x1) := h
    unfold r14_ThreadArrows_j1 at h
    show W _ _ _ _ _ _ [(3, .v 9 (.slice T_r13_Arrow) x1)]
    refine W_seq ?_
    refine W_region mixed tys_ok (sup := []) (l := [(2, 9)]) (E' := [(2, .v 9 (.slice T_r13_Arrow) x1)]) (obs := []) (by kernel_rfl) (trivial) ?_
    refine W_keep (l := [(2, 9)]) (E' := [(2, .v 9 (.slice T_r13_Arrow) x1)]) (by kernel_rfl) ?_
    replace h : x1 = r := h
    subst h
    exact W_ret tys_ok hw0 (by kernel_rfl) (by kernel_rfl)
  · intro j1
    refine W_block ?_
    refine W_keep (l := [(1, 0), (3, 9), (4, 0)]) (E' := [(1, .box 0 T_api_State p0), (3, .v 9 (.slice T_r13_Arrow) ([] : List D_r13_Arrow)), (4, .v 0 (.int .i64) (0 : Int))]) (by kernel_rfl) ?_
    refine W_loop' (En := fun (x : (List D_r13_Arrow) × Int) => [(1, .box 0 T_api_State p0), (3, .v 9 (.slice T_r13_Arrow) x.1), (4, .v 0 (.int .i64) x.2)]) (x := (([] : List D_r13_Arrow), (0 : Int))) h ?_
    rintro ⟨x2, x3⟩ K h
    replace h : Leads _ (r14_ThreadArrows_b1 p0 x2 x3) := h
    unfold r14_ThreadArrows_b1 at h
    show W _ _ _ _ _ _ [(1, .box 0 T_api_State p0), (3, .v 9 (.slice T_r13_Arrow) x2), (4, .v 0 (.int .i64) x3)]
    refine W_seq ?_
    refine W_seq ?_
    refine W_region mixed tys_ok (sup := []) (l := [(1, 0), (3, 9), (4, 0), (10, 0)]) (E' := [(1, .box 0 T_api_State p0), (3, .v 9 (.slice T_r13_Arrow) x2), (4, .v 0 (.int .i64) x3), (10, .v 0 .bool (decide (x3 < (p0.2.2.1.length : Int))))]) (obs := []) (by kernel_rfl) (trivial) ?_
    refine W_cond (β := decide (x3 < (p0.2.2.1.length : Int))) (by kernel_rfl) (fun hb => ?_) (fun hb => ?_)
    · rw [cond_tt hb] at h
      refine W_skip ?_
      refine W_seq ?_
      refine W_block ?_
      refine W_seq ?_
      obtain ⟨o1, h⟩ := h.ass
      refine W_region mixed tys_ok (sup := []) (l := [(1, 0), (3, 9), (4, 0), (5, 9)]) (E' := [(1, .box 0 T_api_State p0), (3, .v 9 (.slice T_r13_Arrow) x2), (4, .v 0 (.int .i64) x3), (5, .box 9 T_api_Thread (rd z_api_Thread p0.2.2.1 x3))]) (obs := [0 ≤ x3 ∧ x3 < (p0.2.2.1.length : Int)]) (by kernel_rfl) (o1) ?_
      refine W_gen (x := rd z_api_Thread p0.2.2.1 x3) (En := fun x4 => [(1, .box 0 T_api_State p0), (3, .v 9 (.slice T_r13_Arrow) x2), (4, .v 0 (.int .i64) x3), (5, .box 9 T_api_Thread x4)]) h (fun x4 h => ?_)
      refine W_seq ?_
      refine W_seq ?_
      refine W_region mixed tys_ok (sup := []) (l := [(1, 0), (3, 9), (4, 0), (5, 9), (20, 0)]) (E' := [(1, .box 0 T_api_State p0), (3, .v 9 (.slice T_r13_Arrow) x2), (4, .v 0 (.int .i64) x3), (5, .box 9 T_api_Thread x4), (20, .v 0 .bool (x4.1 == (4 : Int)))]) (obs := []) (by kernel_rfl) (trivial) ?_
      refine W_join h (Ej := fun (x : List D_r13_Arrow) => [(1, .box 0 T_api_State p0), (3, .v 9 (.slice T_r13_Arrow) x), (4, .v 0 (.int .i64) x3), (5, .box 9 T_api_Thread x4)]) (p := fun x => r14_ThreadArrows_j2 p0 x3 x4 x) ?_ ?_
      · rintro x5 h
        replace h : Leads _ (r14_ThreadArrows_j2 p0 x3 x4 x5) := h
        unfold r14_ThreadArrows_j2 at h
        show W _ _ _ _ _ _ [(1, .box 0 T_api_State p0), (3, .v 9 (.slice T_r13_Arrow) x5), (4, .v 0 (.int .i64) x3), (5, .box 9 T_api_Thread x4)]
        refine W_seq ?_
        refine W_region mixed tys_ok (sup := []) (l := [(1, 0), (3, 9), (4, 0), (5, 9), (30, 0)]) (E' := [(1, .box 0 T_api_State p0), (3, .v 9 (.slice T_r13_Arrow) x5), (4, .v 0 (.int .i64) x3), (5, .box 9 T_api_Thread x4), (30, .v 0 .bool (x4.1 == (6 : Int)))]) (obs := []) (by kernel_rfl) (trivial) ?_
        refine W_join h (Ej := fun (x : List D_r13_Arrow) => [(1, .box 0 T_api_State p0), (3, .v 9 (.slice T_r13_Arrow) x), (4, .v 0 (.int .i64) x3)]) (p := fun x => r14_ThreadArrows_j3 x3 x) ?_ ?_
        · rintro x6 h
          replace h : Leads _ (r14_ThreadArrows_j3 x3 x6) := h
          unfold r14_ThreadArrows_j3 at h
          show W _ _ _ _ _ _ [(1, .box 0 T_api_State p0), (3, .v 9 (.slice T_r13_Arrow) x6), (4, .v 0 (.int .i64) x3)]
          refine W_blk ?_
          refine W_region mixed tys_ok (sup := []) (l := [(1, 0), (3, 9), (4, 0)]) (E' := [(1, .box 0 T_api_State p0), (3, .v 9 (.slice T_r13_Arrow) x6), (4, .v 0 (.int .i64) (IntKind.i64.wrap (x3 + (1 : Int))))]) (obs := []) (by kernel_rfl) (trivial) ?_
          refine W_gen (x := IntKind.i64.wrap (x3 + (1 : Int))) (En := fun x7 => [(1, .box 0 T_api_State p0), (3, .v 9 (.slice T_r13_Arrow) x6), (4, .v 0 (.int .i64) x7)]) h (fun x7 h => ?_)
          refine W_keep (l := [(1, 0), (3, 9), (4, 0)]) (E' := [(1, .box 0 T_api_State p0), (3, .v 9 (.slice T_r13_Arrow) x6), (4, .v 0 (.int .i64) x7)]) (by kernel_rfl) ?_
          exact W_abs h
        · intro j3
          refine W_cond (β := x4.1 == (6 : Int)) (by kernel_rfl) (fun hb => ?_) (fun hb => ?_)
          · rw [cond_tt hb] at h
            obtain ⟨o1, h⟩ := h.ass
            obtain ⟨o2, h⟩ := h.ass
            refine W_region mixed tys_ok (sup := []) (l := [(1, 0), (3, 9), (4, 0)]) (E' := [(1, .box 0 T_api_State p0), (3, .v 9 (.slice T_r13_Arrow) (x5 ++ [(x3, (rd z_api_Lock p0.2.2.2.1 x4.2.1).2)])), (4, .v 0 (.int .i64) x3)]) (obs := [0 ≤ x4.2.1 ∧ x4.2.1 < (p0.2.2.2.1.length : Int), ((x5.length + [(x3, (rd z_api_Lock p0.2.2.2.1 x4.2.1).2)].length : Nat) : Int) ≤ limA]) (by kernel_rfl) (⟨o1, o2⟩) ?_
            refine W_gen (x := x5 ++ [(x3, (rd z_api_Lock p0.2.2.2.1 x4.2.1).2)]) (En := fun x8 => [(1, .box 0 T_api_State p0), (3, .v 9 (.slice T_r13_Arrow) x8), (4, .v 0 (.int .i64) x3)]) h (fun x8 h => ?_)
            refine W_keep (l := [(1, 0), (3, 9), (4, 0)]) (E' := [(1, .box 0 T_api_State p0), (3, .v 9 (.slice T_r13_Arrow) x8), (4, .v 0 (.int .i64) x3)]) (by kernel_rfl) ?_
            exact j3 x8 h
          · rw [cond_ff hb] at h
            refine W_skip ?_
            refine W_keep (l := [(1, 0), (3, 9), (4, 0)]) (E' := [(1, .box 0 T_api_State p0), (3, .v 9 (.slice T_r13_Arrow) x5), (4, .v 0 (.int .i64) x3)]) (by kernel_rfl) ?_
            exact j3 x5 h
      · intro j2
        refine W_cond (β := x4.1 == (4 : Int)) (by kernel_rfl) (fun hb => ?_) (fun hb => ?_)
        · rw [cond_tt hb] at h
          obtain ⟨o1, h⟩ := h.ass
          refine W_region mixed tys_ok (sup := []) (l := [(1, 0), (3, 9), (4, 0), (5, 9)]) (E' := [(1, .box 0 T_api_State p0), (3, .v 9 (.slice T_r13_Arrow) (x2 ++ [(x3, x4.2.1)])), (4, .v 0 (.int .i64) x3), (5, .box 9 T_api_Thread x4)]) (obs := [((x2.length + [(x3, x4.2.1)].length : Nat) : Int) ≤ limA]) (by kernel_rfl) (o1) ?_
          refine W_gen (x := x2 ++ [(x3, x4.2.1)]) (En := fun x9 => [(1, .box 0 T_api_State p0), (3, .v 9 (.slice T_r13_Arrow) x9), (4, .v 0 (.int .i64) x3), (5, .box 9 T_api_Thread x4)]) h (fun x9 h => ?_)
          refine W_keep (l := [(1, 0), (3, 9), (4, 0), (5, 9)]) (E' := [(1, .box 0 T_api_State p0), (3, .v 9 (.slice T_r13_Arrow) x9), (4, .v 0 (.int .i64) x3), (5, .box 9 T_api_Thread x4)]) (by kernel_rfl) ?_
          exact j2 x9 h
        · rw [cond_ff hb] at h
          refine W_skip ?_
          refine W_keep (l := [(1, 0), (3, 9), (4, 0), (5, 9)]) (E' := [(1, .box 0 T_api_State p0), (3, .v 9 (.slice T_r13_Arrow) x2), (4, .v 0 (.int .i64) x3), (5, .box 9 T_api_Thread x4)]) (by kernel_rfl) ?_
          exact j2 x2 h
    · rw [cond_ff hb] at h
      refine W_exit rfl ?_
      refine W_keep (l := [(3, 9)]) (E' := [(3, .v 9 (.slice T_r13_Arrow) x2)]) (by kernel_rfl) ?_
      exact j1 x2 h.back

noncomputable def r14_Fine (p0 : D_api_State) : Option Bool :=
  ass ((!((((decide (p0.2.2.2.2.2 < (1 : Int))) || (decide (p0.2.2.2.2.2 > (1000 : Int)))) || (decide ((p0.1.length : Int) < (1 : Int)))) || (decide ((p0.1.length : Int) > (16 : Int))))) = true → 0 ≤ (0 : Int) ∧ (0 : Int) < (p0.1.length : Int)) <|
  ass ((!(((((decide (p0.2.2.2.2.2 < (1 : Int))) || (decide (p0.2.2.2.2.2 > (1000 : Int)))) || (decide ((p0.1.length : Int) < (1 : Int)))) || (decide ((p0.1.length : Int) > (16 : Int)))) || (!(rd false p0.1 (0 : Int))))) = true → 0 ≤ IntKind.i64.wrap ((p0.1.length : Int) - (1 : Int)) ∧ IntKind.i64.wrap ((p0.1.length : Int) - (1 : Int)) < (p0.1.length : Int)) <|
  bif (((((decide (p0.2.2.2.2.2 < (1 : Int))) || (decide (p0.2.2.2.2.2 > (1000 : Int)))) || (decide ((p0.1.length : Int) < (1 : Int)))) || (decide ((p0.1.length : Int) > (16 : Int)))) || (!(rd false p0.1 (0 : Int)))) || (!(rd false p0.1 (IntKind.i64.wrap ((p0.1.length : Int) - (1 : Int))))) then
    some false
  else
    (r14_tickets p0).bind fun y1 =>
    (bif !(!y1) then r14_threads p0 else some false).bind fun y2 =>
    (bif !((!y1) || (!y2)) then r14_locks p0 else some false).bind fun y3 =>
    (bif !(((!y1) || (!y2)) || (!y3)) then r14_queue p0 else some false).bind fun y4 =>
    bif (((!y1) || (!y2)) || (!y3)) || (!y4) then
      some false
    else
      (r14_CoinArrows p0).bind fun y5 =>
      (r13_Ring (p0.1.length : Int) y5).bind fun y6 =>
      (bif !y6 then r14_ThreadArrows p0 else some ([] : List D_r13_Arrow)).bind fun y7 =>
      (bif !y6 then r13_Ring (p0.2.2.1.length : Int) y7 else some false).bind fun y8 =>
      bnd ((!y6) && (!y8)) fun x9 =>
      some x9
theorem r14_Fine.ok {p0 : D_api_State} {r : Bool} (h : r14_Fine p0 = some r) : ACall prog 13 [⟨T_api_State, p0⟩] [⟨0, .bool, r⟩] := by
  replace h := Leads.of h
  unfold r14_Fine at h
  refine acall_of func13 (by kernel_rfl) rfl (by kernel_rfl) fun w0 F0 hw0 => ?_
  refine W_seq ?_
  refine W_region mixed tys_ok (sup := []) (l := [(1, 0)]) (E' := [(1, .box 0 T_api_State p0)]) (obs := []) (by kernel_rfl) (trivial) ?_
  refine W_seq ?_
  refine W_region mixed tys_ok (sup := []) (l := [(1, 0), (3, 0)]) (E' := [(1, .box 0 T_api_State p0), (3, .v 0 (.int .i64) (p0.1.length : Int))]) (obs := []) (by kernel_rfl) (trivial) ?_
  refine W_seq ?_
  refine W_seq ?_
  obtain ⟨o1, h⟩ := h.ass
  obtain ⟨o2, h⟩ := h.ass
  refine W_region mixed tys_ok (sup := []) (l := [(1, 0), (3, 0), (38, 0)]) (E' := [(1, .box 0 T_api_State p0), (3, .v 0 (.int .i64) (p0.1.length : Int)), (38, .v 0 .bool ((((((decide (p0.2.2.2.2.2 < (1 : Int))) || (decide (p0.2.2.2.2.2 > (1000 : Int)))) || (decide ((p0.1.length : Int) < (1 : Int)))) || (decide ((p0.1.length : Int) > (16 : Int)))) || (!(rd false p0.1 (0 : Int)))) || (!(rd false p0.1 (IntKind.i64.wrap ((p0.1.length : Int) - (1 : Int)))))))]) (obs := [(!((((decide (p0.2.2.2.2.2 < (1 : Int))) || (decide (p0.2.2.2.2.2 > (1000 : Int)))) || (decide ((p0.1.length : Int) < (1 : Int)))) || (decide ((p0.1.length : Int) > (16 : Int))))) = true → 0 ≤ (0 : Int) ∧ (0 : Int) < (p0.1.length : Int), (!(((((decide (p0.2.2.2.2.2 < (1 : Int))) || (decide (p0.2.2.2.2.2 > (1000 : Int)))) || (decide ((p0.1.length : Int) < (1 : Int)))) || (decide ((p0.1.length : Int) > (16 : Int)))) || (!(rd false p0.1 (0 : Int))))) = true → 0 ≤ IntKind.i64.wrap ((p0.1.length : Int) - (1 : Int)) ∧ IntKind.i64.wrap ((p0.1.length : Int) - (1 : Int)) < (p0.1.length : Int)]) (by kernel_rfl) (⟨o1, o2⟩) ?_
  refine W_cond (β := (((((decide (p0.2.2.2.2.2 < (1 : Int))) || (decide (p0.2.2.2.2.2 > (1000 : Int)))) || (decide ((p0.1.length : Int) < (1 : Int)))) || (decide ((p0.1.length : Int) > (16 : Int)))) || (!(rd false p0.1 (0 : Int)))) || (!(rd false p0.1 (IntKind.i64.wrap ((p0.1.length : Int) - (1 : Int)))))) (by kernel_rfl) (fun hb => ?_) (fun hb => ?_)
  · rw [cond_tt hb] at h
    refine W_seq ?_
    refine W_region mixed tys_ok (sup := []) (l := [(2, 0)]) (E' := [(2, .v 0 .bool false)]) (obs := []) (by kernel_rfl) (trivial) ?_
    refine W_keep (l := [(2, 0)]) (E' := [(2, .v 0 .bool false)]) (by kernel_rfl) ?_
    replace h : false = r := h
    subst h
    exact W_ret tys_ok hw0 (by kernel_rfl) (by kernel_rfl)
  · rw [cond_ff hb] at h
    refine W_skip ?_
    refine W_seq ?_
    refine W_seq ?_
    obtain ⟨y1, ey1, h⟩ := h.bind
    obtain ⟨y2, ey2, h⟩ := h.bind
    obtain ⟨y3, ey3, h⟩ := h.bind
    obtain ⟨y4, ey4, h⟩ := h.bind
    refine W_region mixed tys_ok (sup := [.res [(0, ⟨0, .bool, y1⟩)], .res [(0, ⟨0, .bool, y2⟩)], .res [(0, ⟨0, .bool, y3⟩)], .res [(0, ⟨0, .bool, y4⟩)]]) (l := [(1, 0), (3, 0), (56, 0)]) (E' := [(1, .box 0 T_api_State p0), (3, .v 0 (.int .i64) (p0.1.length : Int)), (56, .v 0 .bool ((((!y1) || (!y2)) || (!y3)) || (!y4)))]) (obs := [ACall prog 79 [⟨T_api_State, p0⟩] [⟨0, .bool, y1⟩], (!(!y1)) = true → ACall prog 80 [⟨T_api_State, p0⟩] [⟨0, .bool, y2⟩], (!((!y1) || (!y2))) = true → ACall prog 81 [⟨T_api_State, p0⟩] [⟨0, .bool, y3⟩], (!(((!y1) || (!y2)) || (!y3))) = true → ACall prog 82 [⟨T_api_State, p0⟩] [⟨0, .bool, y4⟩]]) (by kernel_rfl) (⟨r14_tickets.ok ey1, fun hc => r14_threads.ok (bif_some ey2 hc), fun hc => r14_locks.ok (bif_some ey3 hc), fun hc => r14_queue.ok (bif_some ey4 hc)⟩) ?_
    refine W_cond (β := (((!y1) || (!y2)) || (!y3)) || (!y4)) (by kernel_rfl) (fun hb => ?_) (fun hb => ?_)
    · rw [cond_tt hb] at h
      refine W_seq ?_
      refine W_region mixed tys_ok (sup := []) (l := [(2, 0)]) (E' := [(2, .v 0 .bool false)]) (obs := []) (by kernel_rfl) (trivial) ?_
      refine W_keep (l := [(2, 0)]) (E' := [(2, .v 0 .bool false)]) (by kernel_rfl) ?_
      replace h : false = r := h
      subst h
      exact W_ret tys_ok hw0 (by kernel_rfl) (by kernel_rfl)
    · rw [cond_ff hb] at h
      refine W_skip ?_
      refine W_seq ?_
      obtain ⟨y5, ey5, h⟩ := h.bind
      obtain ⟨y6, ey6, h⟩ := h.bind
      obtain ⟨y7, ey7, h⟩ := h.bind
      obtain ⟨y8, ey8, h⟩ := h.bind
      refine W_region mixed tys_ok (sup := [.res [(9, ⟨9, .slice T_r13_Arrow, y5⟩)], .res [(0, ⟨0, .bool, y6⟩)], .res [(0, ⟨9, .slice T_r13_Arrow, y7⟩)], .res [(0, ⟨0, .bool, y8⟩)]]) (l := [(2, 0)]) (E' := [(2, .v 0 .bool ((!y6) && (!y8)))]) (obs := [ACall prog 49 [⟨T_api_State, p0⟩] [⟨9, .slice T_r13_Arrow, y5⟩], ACall prog 83 [⟨.int .i64, (p0.1.length : Int)⟩, ⟨.slice T_r13_Arrow, y5⟩] [⟨0, .bool, y6⟩], (!y6) = true → ACall prog 51 [⟨T_api_State, p0⟩] [⟨9, .slice T_r13_Arrow, y7⟩], (!y6) = true → ACall prog 83 [⟨.int .i64, (p0.2.2.1.length : Int)⟩, ⟨.slice T_r13_Arrow, y7⟩] [⟨0, .bool, y8⟩]]) (by kernel_rfl) (⟨r14_CoinArrows.ok ey5, r13_Ring.ok ey6, fun hc => r14_ThreadArrows.ok (bif_some ey7 hc), fun hc => r13_Ring.ok (bif_some ey8 hc)⟩) ?_
      refine W_gen (x := (!y6) && (!y8)) (En := fun x9 => [(2, .v 0 .bool x9)]) h (fun x9 h => ?_)
      refine W_keep (l := [(2, 0)]) (E' := [(2, .v 0 .bool x9)]) (by kernel_rfl) ?_
      replace h : x9 = r := h
      subst h
      exact W_ret tys_ok hw0 (by kernel_rfl) (by kernel_rfl)

noncomputable def r14_Copy (p0 : D_api_State) : Option D_api_State :=
  bnd ((([] : List Bool), ([] : List D_api_Ticket), ([] : List D_api_Thread), ([] : List D_api_Lock), ([] : List Int), (0 : Int))) fun x1 =>
  ass (((([] : List Bool).length + p0.1.length : Nat) : Int) ≤ limA) <|
  bnd ((([] : List Bool) ++ p0.1, p0.2)) fun x2 =>
  ass (((([] : List D_api_Ticket).length + x2.2.1.length : Nat) : Int) ≤ limA) <|
  bnd ((x2.1, ([] : List D_api_Ticket) ++ x2.2.1, x2.2.2)) fun x3 =>
  ass (((([] : List D_api_Thread).length + x3.2.2.1.length : Nat) : Int) ≤ limA) <|
  bnd ((x3.1, x3.2.1, ([] : List D_api_Thread) ++ x3.2.2.1, x3.2.2.2)) fun x4 =>
  ass (((([] : List D_api_Lock).length + x4.2.2.2.1.length : Nat) : Int) ≤ limA) <|
  bnd ((x4.1, x4.2.1, x4.2.2.1, ([] : List D_api_Lock) ++ x4.2.2.2.1, x4.2.2.2.2)) fun x5 =>
  ass (((([] : List Int).length + x5.2.2.2.2.1.length : Nat) : Int) ≤ limA) <|
  bnd ((x5.1, x5.2.1, x5.2.2.1, x5.2.2.2.1, ([] : List Int) ++ x5.2.2.2.2.1, x5.2.2.2.2.2)) fun x6 =>
  some x6
theorem r14_Copy.ok {p0 : D_api_State} {r : D_api_State} (h : r14_Copy p0 = some r) : ACall prog 25 [⟨T_api_State, p0⟩] [⟨(.pr 9 (.pr 9 (.pr 9 (.pr 9 (.pr 9 0))))), T_api_State, r⟩] := by
  replace h := Leads.of h
  unfold r14_Copy at h
  refine acall_of func25 (by kernel_rfl) rfl (by kernel_rfl) fun w0 F0 hw0 => ?_
  refine W_seq ?_
  refine W_region mixed tys_ok (sup := []) (l := [(1, 0), (2, 9)]) (E' := [(1, .box 0 T_api_State p0), (2, .box 9 T_api_State (([] : List Bool), ([] : List D_api_Ticket), ([] : List D_api_Thread), ([] : List D_api_Lock), ([] : List Int), (0 : Int)))]) (obs := []) (by kernel_rfl) (trivial) ?_
  refine W_gen (x := (([] : List Bool), ([] : List D_api_Ticket), ([] : List D_api_Thread), ([] : List D_api_Lock), ([] : List Int), (0 : Int))) (En := fun x1 => [(1, .box 0 T_api_State p0), (2, .box 9 T_api_State x1)]) h (fun x1 h => ?_)
  refine W_seq ?_
  obtain ⟨o1, h⟩ := h.ass
  refine W_region mixed tys_ok (sup := []) (l := [(1, (.pr 9 0)), (2, 9)]) (E' := [(1, .box (.pr 9 0) T_api_State (([] : List Bool) ++ p0.1, p0.2)), (2, .box 9 T_api_State x1)]) (obs := [((([] : List Bool).length + p0.1.length : Nat) : Int) ≤ limA]) (by kernel_rfl) (o1) ?_
  refine W_gen (x := (([] : List Bool) ++ p0.1, p0.2)) (En := fun x2 => [(1, .box (.pr 9 0) T_api_State x2), (2, .box 9 T_api_State x1)]) h (fun x2 h => ?_)
  refine W_seq ?_
  obtain ⟨o1, h⟩ := h.ass
  refine W_region mixed tys_ok (sup := []) (l := [(1, (.pr 9 (.pr 9 0))), (2, 9)]) (E' := [(1, .box (.pr 9 (.pr 9 0)) T_api_State (x2.1, ([] : List D_api_Ticket) ++ x2.2.1, x2.2.2)), (2, .box 9 T_api_State x1)]) (obs := [((([] : List D_api_Ticket).length + x2.2.1.length : Nat) : Int) ≤ limA]) (by kernel_rfl) (o1) ?_
  refine W_gen (x := (x2.1, ([] : List D_api_Ticket) ++ x2.2.1, x2.2.2)) (En := fun x3 => [(1, .box (.pr 9 (.pr 9 0)) T_api_State x3), (2, .box 9 T_api_State x1)]) h (fun x3 h => ?_)
  refine W_seq ?_
  obtain ⟨o1, h⟩ := h.ass
  refine W_region mixed tys_ok (sup := []) (l := [(1, (.pr 9 (.pr 9 (.pr 9 0)))), (2, 9)]) (E' := [(1, .box (.pr 9 (.pr 9 (.pr 9 0))) T_api_State (x3.1, x3.2.1, ([] : List D_api_Thread) ++ x3.2.2.1, x3.2.2.2)), (2, .box 9 T_api_State x1)]) (obs := [((([] : List D_api_Thread).length + x3.2.2.1.length : Nat) : Int) ≤ limA]) (by kernel_rfl) (o1) ?_
  refine W_gen (x := (x3.1, x3.2.1, ([] : List D_api_Thread) ++ x3.2.2.1, x3.2.2.2)) (En := fun x4 => [(1, .box (.pr 9 (.pr 9 (.pr 9 0))) T_api_State x4), (2, .box 9 T_api_State x1)]) h (fun x4 h => ?_)
  refine W_seq ?_
  obtain ⟨o1, h⟩ := h.ass
  refine W_region mixed tys_ok (sup := []) (l := [(1, (.pr 9 (.pr 9 (.pr 9 (.pr 9 0))))), (2, 9)]) (E' := [(1, .box (.pr 9 (.pr 9 (.pr 9 (.pr 9 0)))) T_api_State (x4.1, x4.2.1, x4.2.2.1, ([] : List D_api_Lock) ++ x4.2.2.2.1, x4.2.2.2.2)), (2, .box 9 T_api_State x1)]) (obs := [((([] : List D_api_Lock).length + x4.2.2.2.1.length : Nat) : Int) ≤ limA]) (by kernel_rfl) (o1) ?_
  refine W_gen (x := (x4.1, x4.2.1, x4.2.2.1, ([] : List D_api_Lock) ++ x4.2.2.2.1, x4.2.2.2.2)) (En := fun x5 => [(1, .box (.pr 9 (.pr 9 (.pr 9 (.pr 9 0)))) T_api_State x5), (2, .box 9 T_api_State x1)]) h (fun x5 h => ?_)
  refine W_seq ?_
  obtain ⟨o1, h⟩ := h.ass
  refine W_region mixed tys_ok (sup := []) (l := [(1, (.pr 9 (.pr 9 (.pr 9 (.pr 9 (.pr 9 0)))))), (2, 9)]) (E' := [(1, .box (.pr 9 (.pr 9 (.pr 9 (.pr 9 (.pr 9 0))))) T_api_State (x5.1, x5.2.1, x5.2.2.1, x5.2.2.2.1, ([] : List Int) ++ x5.2.2.2.2.1, x5.2.2.2.2.2)), (2, .box 9 T_api_State x1)]) (obs := [((([] : List Int).length + x5.2.2.2.2.1.length : Nat) : Int) ≤ limA]) (by kernel_rfl) (o1) ?_
  refine W_gen (x := (x5.1, x5.2.1, x5.2.2.1, x5.2.2.2.1, ([] : List Int) ++ x5.2.2.2.2.1, x5.2.2.2.2.2)) (En := fun x6 => [(1, .box (.pr 9 (.pr 9 (.pr 9 (.pr 9 (.pr 9 0))))) T_api_State x6), (2, .box 9 T_api_State x1)]) h (fun x6 h => ?_)
  refine W_seq ?_
  refine W_region mixed tys_ok (sup := []) (l := [(2, (.pr 9 (.pr 9 (.pr 9 (.pr 9 (.pr 9 0))))))]) (E' := [(2, .box (.pr 9 (.pr 9 (.pr 9 (.pr 9 (.pr 9 0))))) T_api_State x6)]) (obs := []) (by kernel_rfl) (trivial) ?_
  refine W_keep (l := [(2, (.pr 9 (.pr 9 (.pr 9 (.pr 9 (.pr 9 0))))))]) (E' := [(2, .box (.pr 9 (.pr 9 (.pr 9 (.pr 9 (.pr 9 0))))) T_api_State x6)]) (by kernel_rfl) ?_
  replace h : x6 = r := h
  subst h
  exact W_ret tys_ok hw0 (by kernel_rfl) (by kernel_rfl)

noncomputable def r14_Trim_j4 (x6 : D_api_State) : Option (D_api_State) :=
  some x6
noncomputable def r14_Trim_b1 (x7 : D_api_State) : Option (D_api_State ⊕ D_api_State) :=
  ass ((decide ((x7.2.2.2.1.length : Int) > (0 : Int))) = true → 0 ≤ IntKind.i64.wrap ((x7.2.2.2.1.length : Int) - (1 : Int)) ∧ IntKind.i64.wrap ((x7.2.2.2.1.length : Int) - (1 : Int)) < (x7.2.2.2.1.length : Int)) <|
  bif (decide ((x7.2.2.2.1.length : Int) > (0 : Int))) && (!(rd z_api_Lock x7.2.2.2.1 (IntKind.i64.wrap ((x7.2.2.2.1.length : Int) - (1 : Int)))).1) then
    ass (0 ≤ (0 : Int) ∧ (0 : Int) ≤ IntKind.i64.wrap ((x7.2.2.2.1.length : Int) - (1 : Int)) ∧ IntKind.i64.wrap ((x7.2.2.2.1.length : Int) - (1 : Int)) ≤ (x7.2.2.2.1.length : Int)) <|
    bnd ((x7.1, x7.2.1, x7.2.2.1, sl x7.2.2.2.1 (0 : Int) (IntKind.i64.wrap ((x7.2.2.2.1.length : Int) - (1 : Int))), x7.2.2.2.2)) fun x8 =>
    some (.inl x8)
  else
    (r14_Trim_j4 x7).map .inr
noncomputable def r14_Trim_j3 (x5 : D_api_State) : Option (D_api_State) :=
  loopM (fun x : D_api_State => r14_Trim_b1 x) x5
noncomputable def r14_Trim_b2 (x9 : D_api_State) : Option (D_api_State ⊕ D_api_State) :=
  ass ((decide ((x9.2.2.1.length : Int) > (0 : Int))) = true → 0 ≤ IntKind.i64.wrap ((x9.2.2.1.length : Int) - (1 : Int)) ∧ IntKind.i64.wrap ((x9.2.2.1.length : Int) - (1 : Int)) < (x9.2.2.1.length : Int)) <|
  bif (decide ((x9.2.2.1.length : Int) > (0 : Int))) && ((rd z_api_Thread x9.2.2.1 (IntKind.i64.wrap ((x9.2.2.1.length : Int) - (1 : Int)))).1 == (0 : Int)) then
    ass (0 ≤ (0 : Int) ∧ (0 : Int) ≤ IntKind.i64.wrap ((x9.2.2.1.length : Int) - (1 : Int)) ∧ IntKind.i64.wrap ((x9.2.2.1.length : Int) - (1 : Int)) ≤ (x9.2.2.1.length : Int)) <|
    bnd ((x9.1, x9.2.1, sl x9.2.2.1 (0 : Int) (IntKind.i64.wrap ((x9.2.2.1.length : Int) - (1 : Int))), x9.2.2.2)) fun x10 =>
    some (.inl x10)
  else
    (r14_Trim_j3 x9).map .inr
noncomputable def r14_Trim_j2 (x4 : D_api_State) : Option (D_api_State) :=
  loopM (fun x : D_api_State => r14_Trim_b2 x) x4
noncomputable def r14_Trim_b3 (x11 : D_api_State) : Option (D_api_State ⊕ D_api_State) :=
  ass ((decide ((x11.2.1.length : Int) > (0 : Int))) = true → 0 ≤ IntKind.i64.wrap ((x11.2.1.length : Int) - (1 : Int)) ∧ IntKind.i64.wrap ((x11.2.1.length : Int) - (1 : Int)) < (x11.2.1.length : Int)) <|
  bif (decide ((x11.2.1.length : Int) > (0 : Int))) && (!(rd z_api_Ticket x11.2.1 (IntKind.i64.wrap ((x11.2.1.length : Int) - (1 : Int)))).1) then
    ass (0 ≤ (0 : Int) ∧ (0 : Int) ≤ IntKind.i64.wrap ((x11.2.1.length : Int) - (1 : Int)) ∧ IntKind.i64.wrap ((x11.2.1.length : Int) - (1 : Int)) ≤ (x11.2.1.length : Int)) <|
    bnd ((x11.1, sl x11.2.1 (0 : Int) (IntKind.i64.wrap ((x11.2.1.length : Int) - (1 : Int))), x11.2.2)) fun x12 =>
    some (.inl x12)
  else
    (r14_Trim_j2 x11).map .inr
noncomputable def r14_Trim_j1 (x3 : D_api_State) : Option (D_api_State) :=
  loopM (fun x : D_api_State => r14_Trim_b3 x) x3
noncomputable def r14_Trim_b4 (x13 : D_api_State) : Option (D_api_State ⊕ D_api_State) :=
  ass ((decide ((x13.1.length : Int) > (0 : Int))) = true → 0 ≤ IntKind.i64.wrap ((x13.1.length : Int) - (1 : Int)) ∧ IntKind.i64.wrap ((x13.1.length : Int) - (1 : Int)) < (x13.1.length : Int)) <|
  bif (decide ((x13.1.length : Int) > (0 : Int))) && (!(rd false x13.1 (IntKind.i64.wrap ((x13.1.length : Int) - (1 : Int))))) then
    ass (0 ≤ (0 : Int) ∧ (0 : Int) ≤ IntKind.i64.wrap ((x13.1.length : Int) - (1 : Int)) ∧ IntKind.i64.wrap ((x13.1.length : Int) - (1 : Int)) ≤ (x13.1.length : Int)) <|
    bnd ((sl x13.1 (0 : Int) (IntKind.i64.wrap ((x13.1.length : Int) - (1 : Int))), x13.2)) fun x14 =>
    some (.inl x14)
  else
    (r14_Trim_j1 x13).map .inr
noncomputable def r14_Trim (p0 : D_api_State) : Option D_api_State :=
  bnd ((([] : List Bool), ([] : List D_api_Ticket), ([] : List D_api_Thread), ([] : List D_api_Lock), ([] : List Int), (0 : Int))) fun x1 =>
  (r14_Copy p0).bind fun y2 =>
  loopM (fun x : D_api_State => r14_Trim_b4 x) y2
theorem r14_Trim.ok {p0 : D_api_State} {r : D_api_State} (h : r14_Trim p0 = some r) : ACall prog 46 [⟨T_api_State, p0⟩] [⟨0, T_api_State, r⟩] := by
  replace h := Leads.of h
  unfold r14_Trim at h
  refine acall_of func46 (by kernel_rfl) rfl (by kernel_rfl) fun w0 F0 hw0 => ?_
  refine W_seq ?_
  refine W_region mixed tys_ok (sup := []) (l := [(1, 0), (2, 9)]) (E' := [(1, .box 0 T_api_State p0), (2, .box 9 T_api_State (([] : List Bool), ([] : List D_api_Ticket), ([] : List D_api_Thread), ([] : List D_api_Lock), ([] : List Int), (0 : Int)))]) (obs := []) (by kernel_rfl) (trivial) ?_
  refine W_gen (x := (([] : List Bool), ([] : List D_api_Ticket), ([] : List D_api_Thread), ([] : List D_api_Lock), ([] : List Int), (0 : Int))) (En := fun x1 => [(1, .box 0 T_api_State p0), (2, .box 9 T_api_State x1)]) h (fun x1 h => ?_)
  refine W_seq ?_
  obtain ⟨y2, ey2, h⟩ := h.bind
  refine W_region mixed tys_ok (sup := [.res [((.pr 9 (.pr 9 (.pr 9 (.pr 9 (.pr 9 0))))), ⟨(.pr 9 (.pr 9 (.pr 9 (.pr 9 (.pr 9 0))))), T_api_State, y2⟩)]]) (l := [(1, (.pr 9 (.pr 9 (.pr 9 (.pr 9 (.pr 9 0)))))), (2, 9)]) (E' := [(1, .box (.pr 9 (.pr 9 (.pr 9 (.pr 9 (.pr 9 0))))) T_api_State y2), (2, .box 9 T_api_State x1)]) (obs := [ACall prog 25 [⟨T_api_State, p0⟩] [⟨(.pr 9 (.pr 9 (.pr 9 (.pr 9 (.pr 9 0))))), T_api_State, y2⟩]]) (by kernel_rfl) (r14_Copy.ok ey2) ?_
  refine W_seq ?_
  refine W_join h (Ej := fun (x : D_api_State) => [(1, .box 0 T_api_State x), (2, .box 9 T_api_State x1)]) (p := fun x => r14_Trim_j1 x) ?_ ?_
  · rintro x3 h
    replace h : Leads _ (r14_Trim_j1 x3) := h
    unfold r14_Trim_j1 at h
    show W _ _ _ _ _ _ [(1, .box 0 T_api_State x3), (2, .box 9 T_api_State x1)]
    refine W_seq ?_
    refine W_join h (Ej := fun (x : D_api_State) => [(1, .box 0 T_api_State x), (2, .box 9 T_api_State x1)]) (p := fun x => r14_Trim_j2 x) ?_ ?_
    · rintro x4 h
      replace h : Leads _ (r14_Trim_j2 x4) := h
      unfold r14_Trim_j2 at h
      show W _ _ _ _ _ _ [(1, .box 0 T_api_State x4), (2, .box 9 T_api_State x1)]
      refine W_seq ?_
      refine W_join h (Ej := fun (x : D_api_State) => [(1, .box 0 T_api_State x), (2, .box 9 T_api_State x1)]) (p := fun x => r14_Trim_j3 x) ?_ ?_
      · rintro x5 h
        replace h : Leads _ (r14_Trim_j3 x5) := h
        unfold r14_Trim_j3 at h
        show W _ _ _ _ _ _ [(1, .box 0 T_api_State x5), (2, .box 9 T_api_State x1)]
        refine W_seq ?_
        refine W_join h (Ej := fun (x : D_api_State) => [(1, .box 0 T_api_State x), (2, .box 9 T_api_State x1)]) (p := fun x => r14_Trim_j4 x) ?_ ?_
        · rintro x6 h
          replace h : Leads _ (r14_Trim_j4 x6) := h
          unfold r14_Trim_j4 at h
          show W _ _ _ _ _ _ [(1, .box 0 T_api_State x6), (2, .box 9 T_api_State x1)]
          refine W_seq ?_
          refine W_region mixed tys_ok (sup := []) (l := [(2, 0)]) (E' := [(2, .box 0 T_api_State x6)]) (obs := []) (by kernel_rfl) (trivial) ?_
          refine W_keep (l := [(2, 0)]) (E' := [(2, .box 0 T_api_State x6)]) (by kernel_rfl) ?_
          replace h : x6 = r := h
          subst h
          exact W_ret tys_ok hw0 (by kernel_rfl) (by kernel_rfl)
        · intro j4
          refine W_block ?_
          refine W_keep (l := [(1, 0), (2, 9)]) (E' := [(1, .box 0 T_api_State x5), (2, .box 9 T_api_State x1)]) (by kernel_rfl) ?_
          refine W_loop' (En := fun (x : D_api_State) => [(1, .box 0 T_api_State x), (2, .box 9 T_api_State x1)]) (x := x5) h ?_
          rintro x7 K h
          replace h : Leads _ (r14_Trim_b1 x7) := h
          unfold r14_Trim_b1 at h
          show W _ _ _ _ _ _ [(1, .box 0 T_api_State x7), (2, .box 9 T_api_State x1)]
          refine W_seq ?_
          refine W_seq ?_
          obtain ⟨o1, h⟩ := h.ass
          refine W_region mixed tys_ok (sup := []) (l := [(1, 0), (2, 9), (91, 0)]) (E' := [(1, .box 0 T_api_State x7), (2, .box 9 T_api_State x1), (91, .v 0 .bool ((decide ((x7.2.2.2.1.length : Int) > (0 : Int))) && (!(rd z_api_Lock x7.2.2.2.1 (IntKind.i64.wrap ((x7.2.2.2.1.length : Int) - (1 : Int)))).1)))]) (obs := [(decide ((x7.2.2.2.1.length : Int) > (0 : Int))) = true → 0 ≤ IntKind.i64.wrap ((x7.2.2.2.1.length : Int) - (1 : Int)) ∧ IntKind.i64.wrap ((x7.2.2.2.1.length : Int) - (1 : Int)) < (x7.2.2.2.1.length : Int)]) (by kernel_rfl) (o1) ?_
          refine W_cond (β := (decide ((x7.2.2.2.1.length : Int) > (0 : Int))) && (!(rd z_api_Lock x7.2.2.2.1 (IntKind.i64.wrap ((x7.2.2.2.1.length : Int) - (1 : Int)))).1)) (by kernel_rfl) (fun hb => ?_) (fun hb => ?_)
          · rw [cond_tt hb] at h
            refine W_skip ?_
            refine W_block ?_
            obtain ⟨o1, h⟩ := h.ass
            refine W_region mixed tys_ok (sup := []) (l := [(1, 0), (2, 9)]) (E' := [(1, .box 0 T_api_State (x7.1, x7.2.1, x7.2.2.1, sl x7.2.2.2.1 (0 : Int) (IntKind.i64.wrap ((x7.2.2.2.1.length : Int) - (1 : Int))), x7.2.2.2.2)), (2, .box 9 T_api_State x1)]) (obs := [0 ≤ (0 : Int) ∧ (0 : Int) ≤ IntKind.i64.wrap ((x7.2.2.2.1.length : Int) - (1 : Int)) ∧ IntKind.i64.wrap ((x7.2.2.2.1.length : Int) - (1 : Int)) ≤ (x7.2.2.2.1.length : Int)]) (by kernel_rfl) (o1) ?_
            refine W_gen (x := (x7.1, x7.2.1, x7.2.2.1, sl x7.2.2.2.1 (0 : Int) (IntKind.i64.wrap ((x7.2.2.2.1.length : Int) - (1 : Int))), x7.2.2.2.2)) (En := fun x8 => [(1, .box 0 T_api_State x8), (2, .box 9 T_api_State x1)]) h (fun x8 h => ?_)
            refine W_blk ?_
            refine W_keep (l := [(1, 0), (2, 9)]) (E' := [(1, .box 0 T_api_State x8), (2, .box 9 T_api_State x1)]) (by kernel_rfl) ?_
            exact W_abs h
          · rw [cond_ff hb] at h
            refine W_exit rfl ?_
            refine W_keep (l := [(1, 0), (2, 9)]) (E' := [(1, .box 0 T_api_State x7), (2, .box 9 T_api_State x1)]) (by kernel_rfl) ?_
            exact j4 x7 h.back
      · intro j3
        refine W_block ?_
        refine W_keep (l := [(1, 0), (2, 9)]) (E' := [(1, .box 0 T_api_State x4), (2, .box 9 T_api_State x1)]) (by kernel_rfl) ?_
        refine W_loop' (En := fun (x : D_api_State) => [(1, .box 0 T_api_State x), (2, .box 9 T_api_State x1)]) (x := x4) h ?_
        rintro x9 K h
        replace h : Leads _ (r14_Trim_b2 x9) := h
        unfold r14_Trim_b2 at h
        show W _ _ _ _ _ _ [(1, .box 0 T_api_State x9), (2, .box 9 T_api_State x1)]
        refine W_seq ?_
        refine W_seq ?_
        obtain ⟨o1, h⟩ := h.ass
        refine W_region mixed tys_ok (sup := []) (l := [(1, 0), (2, 9), (67, 0)]) (E' := [(1, .box 0 T_api_State x9), (2, .box 9 T_api_State x1), (67, .v 0 .bool ((decide ((x9.2.2.1.length : Int) > (0 : Int))) && ((rd z_api_Thread x9.2.2.1 (IntKind.i64.wrap ((x9.2.2.1.length : Int) - (1 : Int)))).1 == (0 : Int))))]) (obs := [(decide ((x9.2.2.1.length : Int) > (0 : Int))) = true → 0 ≤ IntKind.i64.wrap ((x9.2.2.1.length : Int) - (1 : Int)) ∧ IntKind.i64.wrap ((x9.2.2.1.length : Int) - (1 : Int)) < (x9.2.2.1.length : Int)]) (by kernel_rfl) (o1) ?_
        refine W_cond (β := (decide ((x9.2.2.1.length : Int) > (0 : Int))) && ((rd z_api_Thread x9.2.2.1 (IntKind.i64.wrap ((x9.2.2.1.length : Int) - (1 : Int)))).1 == (0 : Int))) (by kernel_rfl) (fun hb => ?_) (fun hb => ?_)
        · rw [cond_tt hb] at h
          refine W_skip ?_
          refine W_block ?_
          obtain ⟨o1, h⟩ := h.ass
          refine W_region mixed tys_ok (sup := []) (l := [(1, 0), (2, 9)]) (E' := [(1, .box 0 T_api_State (x9.1, x9.2.1, sl x9.2.2.1 (0 : Int) (IntKind.i64.wrap ((x9.2.2.1.length : Int) - (1 : Int))), x9.2.2.2)), (2, .box 9 T_api_State x1)]) (obs := [0 ≤ (0 : Int) ∧ (0 : Int) ≤ IntKind.i64.wrap ((x9.2.2.1.length : Int) - (1 : Int)) ∧ IntKind.i64.wrap ((x9.2.2.1.length : Int) - (1 : Int)) ≤ (x9.2.2.1.length : Int)]) (by kernel_rfl) (o1) ?_
          refine W_gen (x := (x9.1, x9.2.1, sl x9.2.2.1 (0 : Int) (IntKind.i64.wrap ((x9.2.2.1.length : Int) - (1 : Int))), x9.2.2.2)) (En := fun x10 => [(1, .box 0 T_api_State x10), (2, .box 9 T_api_State x1)]) h (fun x10 h => ?_)
          refine W_blk ?_
          refine W_keep (l := [(1, 0), (2, 9)]) (E' := [(1, .box 0 T_api_State x10), (2, .box 9 T_api_State x1)]) (by kernel_rfl) ?_
          exact W_abs h
        · rw [cond_ff hb] at h
          refine W_exit rfl ?_
          refine W_keep (l := [(1, 0), (2, 9)]) (E' := [(1, .box 0 T_api_State x9), (2, .box 9 T_api_State x1)]) (by kernel_rfl) ?_
          exact j3 x9 h.back
    · intro j2
      refine W_block ?_
      refine W_keep (l := [(1, 0), (2, 9)]) (E' := [(1, .box 0 T_api_State x3), (2, .box 9 T_api_State x1)]) (by kernel_rfl) ?_
      refine W_loop' (En := fun (x : D_api_State) => [(1, .box 0 T_api_State x), (2, .box 9 T_api_State x1)]) (x := x3) h ?_
      rintro x11 K h
      replace h : Leads _ (r14_Trim_b3 x11) := h
      unfold r14_Trim_b3 at h
      show W _ _ _ _ _ _ [(1, .box 0 T_api_State x11), (2, .box 9 T_api_State x1)]
      refine W_seq ?_
      refine W_seq ?_
      obtain ⟨o1, h⟩ := h.ass
      refine W_region mixed tys_ok (sup := []) (l := [(1, 0), (2, 9), (43, 0)]) (E' := [(1, .box 0 T_api_State x11), (2, .box 9 T_api_State x1), (43, .v 0 .bool ((decide ((x11.2.1.length : Int) > (0 : Int))) && (!(rd z_api_Ticket x11.2.1 (IntKind.i64.wrap ((x11.2.1.length : Int) - (1 : Int)))).1)))]) (obs := [(decide ((x11.2.1.length : Int) > (0 : Int))) = true → 0 ≤ IntKind.i64.wrap ((x11.2.1.length : Int) - (1 : Int)) ∧ IntKind.i64.wrap ((x11.2.1.length : Int) - (1 : Int)) < (x11.2.1.length : Int)]) (by kernel_rfl) (o1) ?_
      refine W_cond (β := (decide ((x11.2.1.length : Int) > (0 : Int))) && (!(rd z_api_Ticket x11.2.1 (IntKind.i64.wrap ((x11.2.1.length : Int) - (1 : Int)))).1)) (by kernel_rfl) (fun hb => ?_) (fun hb => ?_)
      · rw [cond_tt hb] at h
        refine W_skip ?_
        refine W_block ?_
        obtain ⟨o1, h⟩ := h.ass
        refine W_region mixed tys_ok (sup := []) (l := [(1, 0), (2, 9)]) (E' := [(1, .box 0 T_api_State (x11.1, sl x11.2.1 (0 : Int) (IntKind.i64.wrap ((x11.2.1.length : Int) - (1 : Int))), x11.2.2)), (2, .box 9 T_api_State x1)]) (obs := [0 ≤ (0 : Int) ∧ (0 : Int) ≤ IntKind.i64.wrap ((x11.2.1.length : Int) - (1 : Int)) ∧ IntKind.i64.wrap ((x11.2.1.length : Int) - (1 : Int)) ≤ (x11.2.1.length : Int)]) (by kernel_rfl) (o1) ?_
        refine W_gen (x := (x11.1, sl x11.2.1 (0 : Int) (IntKind.i64.wrap ((x11.2.1.length : Int) - (1 : Int))), x11.2.2)) (En := fun x12 => [(1, .box 0 T_api_State x12), (2, .box 9 T_api_State x1)]) h (fun x12 h => ?_)
        refine W_blk ?_
        refine W_keep (l := [(1, 0), (2, 9)]) (E' := [(1, .box 0 T_api_State x12), (2, .box 9 T_api_State x1)]) (by kernel_rfl) ?_
        exact W_abs h
      · rw [cond_ff hb] at h
        refine W_exit rfl ?_
        refine W_keep (l := [(1, 0), (2, 9)]) (E' := [(1, .box 0 T_api_State x11), (2, .box 9 T_api_State x1)]) (by kernel_rfl) ?_
        exact j2 x11 h.back
  · intro j1
    refine W_block ?_
    refine W_keep (l := [(1, 0), (2, 9)]) (E' := [(1, .box 0 T_api_State y2), (2, .box 9 T_api_State x1)]) (by kernel_rfl) ?_
    refine W_loop' (En := fun (x : D_api_State) => [(1, .box 0 T_api_State x), (2, .box 9 T_api_State x1)]) (x := y2) h ?_
    rintro x13 K h
    replace h : Leads _ (r14_Trim_b4 x13) := h
    unfold r14_Trim_b4 at h
    show W _ _ _ _ _ _ [(1, .box 0 T_api_State x13), (2, .box 9 T_api_State x1)]
    refine W_seq ?_
    refine W_seq ?_
    obtain ⟨o1, h⟩ := h.ass
    refine W_region mixed tys_ok (sup := []) (l := [(1, 0), (2, 9), (19, 0)]) (E' := [(1, .box 0 T_api_State x13), (2, .box 9 T_api_State x1), (19, .v 0 .bool ((decide ((x13.1.length : Int) > (0 : Int))) && (!(rd false x13.1 (IntKind.i64.wrap ((x13.1.length : Int) - (1 : Int)))))))]) (obs := [(decide ((x13.1.length : Int) > (0 : Int))) = true → 0 ≤ IntKind.i64.wrap ((x13.1.length : Int) - (1 : Int)) ∧ IntKind.i64.wrap ((x13.1.length : Int) - (1 : Int)) < (x13.1.length : Int)]) (by kernel_rfl) (o1) ?_
    refine W_cond (β := (decide ((x13.1.length : Int) > (0 : Int))) && (!(rd false x13.1 (IntKind.i64.wrap ((x13.1.length : Int) - (1 : Int)))))) (by kernel_rfl) (fun hb => ?_) (fun hb => ?_)
    · rw [cond_tt hb] at h
      refine W_skip ?_
      refine W_block ?_
      obtain ⟨o1, h⟩ := h.ass
      refine W_region mixed tys_ok (sup := []) (l := [(1, 0), (2, 9)]) (E' := [(1, .box 0 T_api_State (sl x13.1 (0 : Int) (IntKind.i64.wrap ((x13.1.length : Int) - (1 : Int))), x13.2)), (2, .box 9 T_api_State x1)]) (obs := [0 ≤ (0 : Int) ∧ (0 : Int) ≤ IntKind.i64.wrap ((x13.1.length : Int) - (1 : Int)) ∧ IntKind.i64.wrap ((x13.1.length : Int) - (1 : Int)) ≤ (x13.1.length : Int)]) (by kernel_rfl) (o1) ?_
      refine W_gen (x := (sl x13.1 (0 : Int) (IntKind.i64.wrap ((x13.1.length : Int) - (1 : Int))), x13.2)) (En := fun x14 => [(1, .box 0 T_api_State x14), (2, .box 9 T_api_State x1)]) h (fun x14 h => ?_)
      refine W_blk ?_
      refine W_keep (l := [(1, 0), (2, 9)]) (E' := [(1, .box 0 T_api_State x14), (2, .box 9 T_api_State x1)]) (by kernel_rfl) ?_
      exact W_abs h
    · rw [cond_ff hb] at h
      refine W_exit rfl ?_
      refine W_keep (l := [(1, 0), (2, 9)]) (E' := [(1, .box 0 T_api_State x13), (2, .box 9 T_api_State x1)]) (by kernel_rfl) ?_
      exact j1 x13 h.back

end Go.Tom
